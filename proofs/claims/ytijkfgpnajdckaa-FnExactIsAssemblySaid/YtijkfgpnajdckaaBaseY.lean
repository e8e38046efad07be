/- Contracts of the functions on first faults, and the laws on held and trapped faces, faults, assemblies. No condition. -/
import Derived.Test.YtijkfgpnajdckaaBaseX
namespace Go.Proofs.Ytijkfgpnajdckaa.Fw
open Go.RowKit
set_option linter.unusedSimpArgs false
set_option linter.unusedVariables false
set_option maxRecDepth 100000
/-! sizes of drawings -/
def szDr (l : Int) (ps : List Pt) (fs : List Fc) : Int := if szP l ps.length < 0 then -1 else szG szFc (szP l ps.length) fs
theorem szG_neg {α : Type} {f : Int → α → Int} {bs : List α} {l : Int} (hf : ∀ b l, f l b < 0 → f l b = -1) (h : szG f l bs < 0) : szG f l bs = -1 := by
  unfold szG at h ⊢
  split
  · rfl
  · rename_i h0
    rw [if_neg h0] at h
    generalize IntKind.wrap .i64 (l - bs.length) = m at *
    have : ∀ (bs : List α) (m : Int), ¬ m < 0 → szGoG f m bs < 0 → szGoG f m bs = -1 := by
      intro bs
      induction bs with
      | nil => intro m h1 h2; simp only [szGoG] at h2; exact absurd h2 h1
      | cons b bs ih =>
        intro m h1 h2
        simp only [szGoG] at h2 ⊢
        split
        · rfl
        · rename_i h3
          rw [if_neg h3] at h2
          exact ih _ h3 h2
    exact this bs m h0 h
set_option maxHeartbeats 1000000 in
theorem ret_szDrawing (w h : Int) (nl nl' : Bool) (ps : List Pt) (fs : List Fc) (hn : nl = true → ps = []) (hn' : nl' = true → fs = []) (hl' : fs.length ≤ 9223372036854775807) (l : Int) : Ret Try.prog 32 none [.agg [iv w, iv h, .c (ptsV nl false ps), .c (fcsV nl' false fs)], iv l] [] (.c (ic (szDr l ps fs))) := by
  refine Ret.intro (rs := [.tmp 4]) T_ok Try.func32 rfl rfl Try.ntmps32 rfl (by simp [AV.lo]) (fun E => vc_sound T_ok _ ?_)
  unfold szDr
  by_cases h1 : szP l ps.length < 0
  · repeat' first | (with_reducible first | refine z1 ?_ ?_ | refine z2 ?_ ?_ | refine z3 ?_ ?_ | refine z4 ?_ ?_ | refine z5 ?_ ?_ | refine z6 ?_ ?_ | refine z7 ?_ ?_ | refine z8 ?_ ?_ | refine z9 ?_ ?_ | intro _) | ((with_reducible first | refine z10 ?_ ?_ | refine z11 ?_ ?_ | refine z12 ?_ ?_); ((try simp only [decide_eq_true_eq, List.length_append, List.length_map, List.length_cons, List.length_nil, List.length_take, List.length_replicate]); omega)) | ((with_reducible refine z13 T_ok follows_ok ?_ ?_ ?_); rfl; kernel_rfl) | ((with_reducible refine z14 T_ok follows_ok ?_ ?_); kernel_rfl) | ((with_reducible refine z15 ?_ ?_); rfl) | ((with_reducible refine z16 ?_); refine ⟨_, (by first | exact (ret_szPointS _ _ _ _) | exact (ret_szfcsV _ _ _ hn' hl' _)), (by exact rfl), ?_⟩) | simp only [push_cast, ↓reduceIte, Nat.reduceAdd, Nat.reduceSub, Nat.reduceMul, Nat.reduceLT, Nat.reduceLeDiff, Nat.reduceEqDiff, Nat.reduceDiv, Int.reduceNeg, Int.reduceEq, Int.reduceLT, Int.reduceLE, Int.reduceToNat, reduceCtorEq, ↓Int.cast_ofNat_Int, h1] | omega | exact nl_of (by assumption) (by assumption)
  · by_cases h2 : szG szFc (szP l ps.length) fs < 0
    · have h3 : szG szFc (szP l ps.length) fs = -1 := szG_neg (fun b l hb => by
        unfold szFc at hb ⊢
        split
        · rfl
        · rename_i h4
          rw [if_neg h4] at hb
          unfold szI at hb ⊢
          split
          · rfl
          · rename_i h5; rw [if_neg h5] at hb; exact absurd hb h5) h2
      repeat' first | (with_reducible first | refine z1 ?_ ?_ | refine z2 ?_ ?_ | refine z3 ?_ ?_ | refine z4 ?_ ?_ | refine z5 ?_ ?_ | refine z6 ?_ ?_ | refine z7 ?_ ?_ | refine z8 ?_ ?_ | refine z9 ?_ ?_ | intro _) | ((with_reducible first | refine z10 ?_ ?_ | refine z11 ?_ ?_ | refine z12 ?_ ?_); ((try simp only [decide_eq_true_eq, List.length_append, List.length_map, List.length_cons, List.length_nil, List.length_take, List.length_replicate]); omega)) | ((with_reducible refine z13 T_ok follows_ok ?_ ?_ ?_); rfl; kernel_rfl) | ((with_reducible refine z14 T_ok follows_ok ?_ ?_); kernel_rfl) | ((with_reducible refine z15 ?_ ?_); rfl) | ((with_reducible refine z16 ?_); refine ⟨_, (by first | exact (ret_szPointS _ _ _ _) | exact (ret_szfcsV _ _ _ hn' hl' _)), (by exact rfl), ?_⟩) | simp only [push_cast, ↓reduceIte, Nat.reduceAdd, Nat.reduceSub, Nat.reduceMul, Nat.reduceLT, Nat.reduceLeDiff, Nat.reduceEqDiff, Nat.reduceDiv, Int.reduceNeg, Int.reduceEq, Int.reduceLT, Int.reduceLE, Int.reduceToNat, reduceCtorEq, ↓Int.cast_ofNat_Int, h1, h2, h3] | omega | exact nl_of (by assumption) (by assumption)
    · repeat' first | (with_reducible first | refine z1 ?_ ?_ | refine z2 ?_ ?_ | refine z3 ?_ ?_ | refine z4 ?_ ?_ | refine z5 ?_ ?_ | refine z6 ?_ ?_ | refine z7 ?_ ?_ | refine z8 ?_ ?_ | refine z9 ?_ ?_ | intro _) | ((with_reducible first | refine z10 ?_ ?_ | refine z11 ?_ ?_ | refine z12 ?_ ?_); ((try simp only [decide_eq_true_eq, List.length_append, List.length_map, List.length_cons, List.length_nil, List.length_take, List.length_replicate]); omega)) | ((with_reducible refine z13 T_ok follows_ok ?_ ?_ ?_); rfl; kernel_rfl) | ((with_reducible refine z14 T_ok follows_ok ?_ ?_); kernel_rfl) | ((with_reducible refine z15 ?_ ?_); rfl) | ((with_reducible refine z16 ?_); refine ⟨_, (by first | exact (ret_szPointS _ _ _ _) | exact (ret_szfcsV _ _ _ hn' hl' _)), (by exact rfl), ?_⟩) | simp only [push_cast, ↓reduceIte, Nat.reduceAdd, Nat.reduceSub, Nat.reduceMul, Nat.reduceLT, Nat.reduceLeDiff, Nat.reduceEqDiff, Nat.reduceDiv, Int.reduceNeg, Int.reduceEq, Int.reduceLT, Int.reduceLE, Int.reduceToNat, reduceCtorEq, ↓Int.cast_ofNat_Int, h1, h2] | omega | exact nl_of (by assumption) (by assumption)
theorem szFc_ok {f : Fc} {l : Int} (hf : f.name.size ≤ 9223372036854775807) (hr : f.ring.length ≤ 9223372036854775807) (h : ¬ szFc l f < 0) (h0 : 0 ≤ l) (h1 : l ≤ 1048576) : f.ring.length ≤ 1048576 ∧ 0 ≤ szFc l f ∧ szFc l f ≤ l := by
  have e1 : IntKind.wrap .i64 (l - f.name.size) = l - f.name.size := wrap_i64 (by omega) (by omega)
  by_cases c1 : l - f.name.size < 0
  · simp only [szFc, e1, if_pos c1] at h
    omega
  · have e2 : IntKind.wrap .i64 (l - f.name.size - f.ring.length) = l - f.name.size - f.ring.length := wrap_i64 (by omega) (by omega)
    by_cases c2 : l - f.name.size - f.ring.length < 0
    · simp only [szFc, szI, e1, e2, if_neg c1, if_pos c2] at h
      omega
    · simp only [szFc, szI, e1, e2, if_neg c1, if_neg c2]
      omega
theorem szGo_fcs : ∀ {fs : List Fc} {l : Int}, (∀ f ∈ fs, f.name.size ≤ 9223372036854775807 ∧ f.ring.length ≤ 9223372036854775807) → ¬ szGoG szFc l fs < 0 → 0 ≤ l → l ≤ 1048576 → ∀ f ∈ fs, f.ring.length ≤ 1048576
  | [], _, _, _, _, _ => fun f hf => by cases hf
  | b :: bs, l, hb, h, h0, h1 => by
    simp only [szGoG] at h
    split at h
    · exact absurd (by omega) h
    · rename_i h3
      obtain ⟨g1, g2⟩ := hb b (by simp)
      obtain ⟨k1, k2, k3⟩ := szFc_ok g1 g2 h3 h0 h1
      intro f hf
      rcases List.mem_cons.1 hf with rfl | hf
      · exact k1
      · exact szGo_fcs (fun f hf => hb f (by simp [hf])) h k2 (by omega) f hf
theorem szDr_ok {ps : List Pt} {fs : List Fc} {l : Int} (h0 : 0 ≤ l) (hl : l ≤ 1048576) (hp : ps.length ≤ 9223372036854775807) (hf : fs.length ≤ 9223372036854775807) (hb : ∀ f ∈ fs, f.name.size ≤ 9223372036854775807 ∧ f.ring.length ≤ 9223372036854775807) (h : ¬ szDr l ps fs < 0) : ps.length ≤ 1048576 ∧ fs.length ≤ 1048576 ∧ ∀ f ∈ fs, f.ring.length ≤ 1048576 := by
  have e1 : IntKind.wrap .i64 (l - ps.length) = l - ps.length := wrap_i64 (by omega) (by omega)
  unfold szDr at h
  split at h
  · exact absurd (by omega) h
  · rename_i c1
    have c2 : ¬ l - ps.length < 0 := by
      intro c; simp only [szP, e1, if_pos c] at c1; omega
    have e2 : szP l ps.length = l - ps.length := by simp only [szP, e1, if_neg c2]
    rw [e2] at h
    have e3 := szG_ge h hf (by omega) (by omega)
    have e4 : IntKind.wrap .i64 (l - ps.length - fs.length) = l - ps.length - fs.length := wrap_i64 (by omega) (by omega)
    refine ⟨by omega, e3, ?_⟩
    unfold szG at h
    rw [e4] at h
    split at h
    · exact absurd (by omega) h
    · exact szGo_fcs hb h (by omega) (by omega)
/-! drawings that come in -/
theorem pts_of {rows : List (List CV)} (h : ∀ r ∈ rows, Okl [.int .i64, .int .i64] r) : ∃ ps : List Pt, rows = ps.map ptRow := by
  obtain ⟨xs, h1, _⟩ := rows_of (p := fun _ => True) (f := ptRow) (rows := rows) (fun r hr => by
    obtain ⟨y0, ys0, rfl, e0, k0⟩ := okcons (h r hr)
    obtain ⟨y1, ys1, rfl, e1, k1⟩ := okcons k0
    obtain rfl := oknil k1
    obtain ⟨v0, rfl, _, _⟩ := okint e0
    obtain ⟨v1, rfl, _, _⟩ := okint e1
    exact ⟨⟨v0, v1⟩, rfl, trivial⟩)
  exact ⟨xs, h1⟩
structure Fc.came (f : Fc) : Prop where
  nil : f.nl = true → f.ring = []
  name : f.name.size ≤ 9223372036854775807
  ring : f.ring.length ≤ 9223372036854775807
theorem fcs_of {rows : List (List CV)} (h : ∀ r ∈ rows, Okl [.str, .sl [.int .i64]] r) : ∃ fs : List Fc, rows = fs.map fcRow ∧ ∀ f ∈ fs, f.came := by
  refine rows_of (f := fcRow) (rows := rows) (fun r hr => ?_)
  obtain ⟨y0, ys0, rfl, e0, k0⟩ := okcons (h r hr)
  obtain ⟨y1, ys1, rfl, e1, k1⟩ := okcons k0
  obtain rfl := oknil k1
  obtain ⟨b, rfl, hb⟩ := okstr e0
  obtain ⟨nl, rows, rfl, hl, hn, hx⟩ := oksl e1
  obtain ⟨xs, rfl, _⟩ := ints_of hx
  rw [List.length_map] at hl
  exact ⟨⟨b, nl, xs⟩, rfl, fun e => by simpa using hn e, hb, hl⟩
def Dr.of (w h : Int) (ps : List Pt) (fs : List Fc) : Dr := ⟨w, h, ps, fs.map Fc.fa⟩
theorem Dr.of_fits {w h : Int} {ps : List Pt} {fs : List Fc} (h1 : ps.length ≤ 1048576) (h2 : fs.length ≤ 1048576) (h3 : ∀ f ∈ fs, f.ring.length ≤ 1048576) : (Dr.of w h ps fs).fits :=
  ⟨h1, by simpa [Dr.of] using h2, fun b hb => by
    simp only [Dr.of, List.mem_map] at hb
    obtain ⟨f, hf, rfl⟩ := hb
    exact h3 f hf⟩
theorem ret_toDr (w h : Int) (nl nl' : Bool) (ps : List Pt) (fs : List Fc) (hn : nl = true → ps = []) (hn' : nl' = true → fs = []) (hl : ps.length ≤ 1048576) (hl' : fs.length ≤ 1048576) (hf : ∀ b ∈ fs, b.ok) : Ret Try.prog 34 none [.agg [iv w, iv h, .c (ptsV nl false ps), .c (fcsV nl' false fs)]] [] (.agg [ic (Dr.of w h ps fs).w, ic (Dr.of w h ps fs).h, ptsV false false (Dr.of w h ps fs).ps, facesV false false (Dr.of w h ps fs).fs]) := ret_toDrawing w h nl nl' ps fs hn hn' hl hl' hf
set_option maxHeartbeats 2000000 in
theorem ret_FnExactIsHeld (w : Int) (_ : IntKind.min .i64 ≤ w) (_ : w ≤ IntKind.max .i64) (h : Int) (_ : IntKind.min .i64 ≤ h) (_ : h ≤ IntKind.max .i64) (nl : Bool) (rows : List (List CV)) (hl : rows.length ≤ 9223372036854775807) (hn : nl = true → rows = []) (hr : ∀ r ∈ rows, Okl [.int .i64, .int .i64] r)
    (nl' : Bool) (rows' : List (List CV)) (hl' : rows'.length ≤ 9223372036854775807) (hn' : nl' = true → rows' = []) (hr' : ∀ r ∈ rows', Okl [.str, .sl [.int .i64]] r)
    (nl2 : Bool) (rows2 : List (List CV)) (hl2 : rows2.length ≤ 9223372036854775807) (hn2 : nl2 = true → rows2 = []) (hr2 : ∀ r ∈ rows2, Okl [.int .i64] r) (k : Int) (_ : IntKind.min .i64 ≤ k) (_ : k ≤ IntKind.max .i64) :
    Ret Try.prog 7 none [.agg [iv w, iv h, .c (.sl nl false 2 rows), .c (.sl nl' false 2 rows')], .c (.sl nl2 false 1 rows2), iv k] [] (.c (bc true)) := by
  obtain ⟨ps, rfl⟩ := pts_of hr
  obtain ⟨fs, rfl, hfs⟩ := fcs_of hr'
  obtain ⟨xs, rfl, _⟩ := ints_of hr2
  rw [List.length_map] at hl hl' hl2
  have hn0 : nl = true → ps = [] := fun e => by simpa using hn e
  have hn0' : nl' = true → fs = [] := fun e => by simpa using hn' e
  have hn02 : nl2 = true → xs = [] := fun e => by simpa using hn2 e
  refine Ret.intro (rs := [.tmp 6]) T_ok Try.func7 rfl rfl Try.ntmps7 rfl (by simp [AV.lo]) (fun E => vc_sound T_ok _ ?_)
  by_cases c0 : xs.length ≤ 1048576
  · have c0' : ¬ 1048576 < (xs.length : Int) := by omega
    by_cases c1 : szDr 1048576 ps fs < 0
    · repeat' first | (with_reducible first | refine z1 ?_ ?_ | refine z2 ?_ ?_ | refine z3 ?_ ?_ | refine z4 ?_ ?_ | refine z5 ?_ ?_ | refine z6 ?_ ?_ | refine z7 ?_ ?_ | refine z8 ?_ ?_ | refine z9 ?_ ?_ | intro _) | ((with_reducible first | refine z10 ?_ ?_ | refine z11 ?_ ?_ | refine z12 ?_ ?_); ((try simp only [decide_eq_true_eq, List.length_append, List.length_map, List.length_cons, List.length_nil, List.length_take, List.length_replicate]); omega)) | ((with_reducible refine z13 T_ok follows_ok ?_ ?_ ?_); rfl; kernel_rfl) | ((with_reducible refine z14 T_ok follows_ok ?_ ?_); kernel_rfl) | ((with_reducible refine z15 ?_ ?_); rfl) | ((with_reducible refine z16 ?_); refine ⟨_, (by exact (ret_szDrawing _ _ _ _ _ _ hn0 hn0' hl' _)), (by exact rfl), ?_⟩) | simp only [push_cast, ↓reduceIte, Nat.reduceAdd, Nat.reduceSub, Nat.reduceMul, Nat.reduceLT, Nat.reduceLeDiff, Nat.reduceEqDiff, Nat.reduceDiv, Int.reduceNeg, Int.reduceEq, Int.reduceLT, Int.reduceLE, Int.reduceToNat, reduceCtorEq, ↓Int.cast_ofNat_Int, c0', c1] | omega | exact nl_of (by assumption) (by assumption)
    · obtain ⟨g1, g2, g3⟩ := szDr_ok (by omega) (by omega) hl hl' (fun f hf => ⟨(hfs f hf).name, (hfs f hf).ring⟩) c1
      have hfo : ∀ b ∈ fs, b.ok := fun b hb => ⟨(hfs b hb).nil, g3 b hb⟩
      have hd : (Dr.of w h ps fs).fits := Dr.of_fits g1 g2 g3
      have hto := ret_toDr w h nl nl' ps fs hn0 hn0' g1 g2 hfo
      generalize Dr.of w h ps fs = d at *
      repeat' first | (with_reducible first | refine z1 ?_ ?_ | refine z2 ?_ ?_ | refine z3 ?_ ?_ | refine z4 ?_ ?_ | refine z5 ?_ ?_ | refine z6 ?_ ?_ | refine z7 ?_ ?_ | refine z8 ?_ ?_ | refine z9 ?_ ?_ | intro _) | ((with_reducible first | refine z10 ?_ ?_ | refine z11 ?_ ?_ | refine z12 ?_ ?_); ((try simp only [decide_eq_true_eq, List.length_append, List.length_map, List.length_cons, List.length_nil, List.length_take, List.length_replicate]); omega)) | ((with_reducible refine z13 T_ok follows_ok ?_ ?_ ?_); rfl; kernel_rfl) | ((with_reducible refine z14 T_ok follows_ok ?_ ?_); kernel_rfl) | ((with_reducible refine z15 ?_ ?_); rfl) | ((with_reducible refine z16 ?_); refine ⟨_, (by first | exact (ret_szDrawing _ _ _ _ _ _ hn0 hn0' hl' _) | exact hto | exact (ret_toInt64S _ _ _ hn02 c0) | exact (ret_eqDrawing _ hd)), (by exact rfl), ?_⟩) | ((with_reducible refine z17 ?_); refine ⟨_, (by repeat' first | exact z21 | apply z22 | exact z23 _ | exact z24 _ | (refine z25 rfl rfl rfl ?_; first | (simp; done) | (simp [*]; done)) | (refine z26 rfl rfl ?_; first | (simp; done) | (simp [*]; done)) | exact z27 rfl | (refine z28 rfl ?_; first | (simp; done) | (simp [*]; done)) | (refine z28 (by simp only [objsOf_cons, upd_apply, ↓reduceIte, *]; rfl) ?_; first | (simp; done) | (simp [*]; done)) | exact rfl), _, (by first | exact (ret_sIsHeld _ hd _ _ _ (fun h => by cases h) c0 _) | exact (ret_iIsHeld _ hd _ _ _ (fun h => by cases h) c0 _) | exact (ret_eqInt64S _ _ _ _ _ _ (fun h => by cases h) (fun h => by cases h) hl2)), (by exact rfl), ?_⟩) | simp only [push_cast, ↓reduceIte, Nat.reduceAdd, Nat.reduceSub, Nat.reduceMul, Nat.reduceLT, Nat.reduceLeDiff, Nat.reduceEqDiff, Nat.reduceDiv, Int.reduceNeg, Int.reduceEq, Int.reduceLT, Int.reduceLE, Int.reduceToNat, reduceCtorEq, ↓Int.cast_ofNat_Int, c0', c1, same_self] | omega | exact nl_of (by assumption) (by assumption)
  · have c0' : 1048576 < (xs.length : Int) := by omega
    repeat' first | (with_reducible first | refine z1 ?_ ?_ | refine z2 ?_ ?_ | refine z3 ?_ ?_ | refine z4 ?_ ?_ | refine z5 ?_ ?_ | refine z6 ?_ ?_ | refine z7 ?_ ?_ | refine z8 ?_ ?_ | refine z9 ?_ ?_ | intro _) | ((with_reducible first | refine z10 ?_ ?_ | refine z11 ?_ ?_ | refine z12 ?_ ?_); ((try simp only [decide_eq_true_eq, List.length_append, List.length_map, List.length_cons, List.length_nil, List.length_take, List.length_replicate]); omega)) | ((with_reducible refine z13 T_ok follows_ok ?_ ?_ ?_); rfl; kernel_rfl) | ((with_reducible refine z14 T_ok follows_ok ?_ ?_); kernel_rfl) | ((with_reducible refine z15 ?_ ?_); rfl) | simp only [push_cast, ↓reduceIte, Nat.reduceAdd, Nat.reduceSub, Nat.reduceMul, Nat.reduceLT, Nat.reduceLeDiff, Nat.reduceEqDiff, Nat.reduceDiv, Int.reduceNeg, Int.reduceEq, Int.reduceLT, Int.reduceLE, Int.reduceToNat, reduceCtorEq, ↓Int.cast_ofNat_Int, c0'] | omega | exact nl_of (by assumption) (by assumption)
end Go.Proofs.Ytijkfgpnajdckaa.Fw
