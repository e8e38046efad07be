/- The ends and the waste of gluing in an order. No condition. -/
import Derived.Test.YtijkfgpnajdckaaBaseI
namespace Go.Proofs.Ytijkfgpnajdckaa.Fw
open Go.RowKit
set_option linter.unusedSimpArgs false
set_option linter.unusedVariables false
set_option maxRecDepth 100000
def finMax (e : Int) (ts : List Gd) : Int := ts.foldl (fun e x => max e x.fin) e
theorem ret_l24End (nl f : Bool) (ts : List Gd) (hn : nl = true → ts = []) (hl : ts.length ≤ 1048576) : Ret Try.prog 56 none [.c (.sl nl f 1 (ts.map timesRow))] [] (.c (ic (finMax 0 ts))) := by
  refine Ret.intro (rs := [.tmp 2]) T_ok Try.func56 rfl rfl Try.ntmps56 rfl (by simp [AV.lo]) (fun E => vc_sound T_ok _ ?_)
  repeat' first | with_reducible refine Cnd_if (fun _ => ?_) (fun _ => ?_) | with_reducible refine Cnd_split (fun _ => ?_) (fun _ => ?_) | with_reducible refine Grd_if (fun _ => ?_) (fun _ => ?_) | with_reducible refine Grd_if' (fun _ => ?_) (fun _ => ?_) | with_reducible refine Grd_split (fun _ => ?_) (fun _ => ?_) | with_reducible refine Grd_split' (fun _ => ?_) (fun _ => ?_) | with_reducible refine Val_if ?_ ?_ | with_reducible refine Val_unless ?_ ?_ | (with_reducible refine Efx_app ?_ ?_; (simp only [decide_eq_true_eq, List.length_append, List.length_map, List.length_cons, List.length_nil, List.length_take, List.length_replicate]; omega)) | (with_reducible refine Efx_makes ?_ ?_; (simp only [decide_eq_true_eq]; omega)) | ((with_reducible refine vc_of_drawQ T_ok follows_ok ?_ ?_ ?_); rfl; kernel_rfl) | ((with_reducible refine vc_of_drawL T_ok follows_ok ?_ ?_); kernel_rfl) | ((with_reducible refine Ldk_intro ?_ ?_); rfl) | (with_reducible refine EfxD_app ?_ ?_; (simp only [decide_eq_true_eq, List.length_append, List.length_map, List.length_cons, List.length_nil, List.length_take, List.length_replicate]; omega)) | simp only [push_cast, ↓reduceIte, Nat.left_eq_add, Nat.add_eq_left, Nat.reduceAdd, Nat.reduceSub, Nat.reduceMul, Nat.reduceLT, Nat.reduceLeDiff, Nat.reduceEqDiff, Nat.reduceDiv, Int.reduceNeg, Int.reduceEq, Int.reduceLT, Int.reduceLE, Int.reduceToNat, Nat.succ_eq_add_one, reduceCtorEq, decide_true, decide_false, true_and, and_true, ↓Int.cast_ofNat_Int, ne_eq, not_true_eq_false, not_false_eq_true, *] | omega | exact nl_of (by assumption) (by assumption)
  refine vc_of_loopW T_ok (ι := {q : Nat × Int // q.1 ≤ ts.length ∧ finMax 0 ts = finMax q.2 (ts.drop q.1)}) (fun q => ⟨.c (.sl nl f 1 (ts.map timesRow)) :: .junk :: .junk :: iv q.1.2 :: iv q.1.1 :: List.replicate 15 .junk, objsOf [], 1⟩) (fun q => ts.length - q.1.1) ⟨(0, 0), Nat.zero_le _, rfl⟩ ?_ ?_
  · refine Wk.of_le ?_; refine Le.of (by repeat' first | exact trivial | refine ⟨Or.inr rfl, ?_⟩ | refine ⟨Or.inl rfl, ?_⟩) (by simp [AV.lo] <;> first | omega | (simp only; omega)) (by (simp only [leO, objsOf_cons, objsOf_nil, upd_apply, renO, renB, AObj.ren, AV.ren, renF, Option.map_some, Option.map_none, AObj.kill, AV.kill, AObj.frz, AV.frz, objLo_box, objLo_arr, loAll, AV.lo, ↓reduceIte, Nat.reduceAdd, Nat.reduceLT, Nat.reduceEqDiff, Nat.left_eq_add, Nat.add_eq_left, Nat.add_left_cancel_iff, Nat.add_right_cancel_iff, reduceCtorEq, and_true, true_and, List.map_append, List.map_cons, List.map_nil]) <;> first | omega | (simp only; omega)) (by first | omega | (simp only; omega))
  · rintro ⟨⟨i, e⟩, hi, hs⟩
    simp only at hi hs
    have e0 : i < ts.length → IntKind.wrap .i64 (↑i + 1) = ↑i + 1 := fun _ => wrap_i64 (by omega) (by omega)
    by_cases hlt : i < ts.length
    · have e2 : nl = false := nl_of hn hlt
      subst e2
      rw [drop_getD hlt] at hs
      repeat' first | with_reducible refine Cnd_if (fun _ => ?_) (fun _ => ?_) | with_reducible refine Cnd_split (fun _ => ?_) (fun _ => ?_) | with_reducible refine Grd_if (fun _ => ?_) (fun _ => ?_) | with_reducible refine Grd_if' (fun _ => ?_) (fun _ => ?_) | with_reducible refine Grd_split (fun _ => ?_) (fun _ => ?_) | with_reducible refine Grd_split' (fun _ => ?_) (fun _ => ?_) | with_reducible refine Val_if ?_ ?_ | with_reducible refine Val_unless ?_ ?_ | (with_reducible refine Efx_app ?_ ?_; (simp only [decide_eq_true_eq, List.length_append, List.length_map, List.length_cons, List.length_nil, List.length_take, List.length_replicate]; omega)) | (with_reducible refine Efx_makes ?_ ?_; (simp only [decide_eq_true_eq]; omega)) | ((with_reducible refine vc_of_drawQ T_ok follows_ok ?_ ?_ ?_); rfl; kernel_rfl) | ((with_reducible refine vc_of_drawL T_ok follows_ok ?_ ?_); kernel_rfl) | ((with_reducible refine Ldk_intro ?_ ?_); rfl) | (with_reducible refine EfxD_app ?_ ?_; (simp only [decide_eq_true_eq, List.length_append, List.length_map, List.length_cons, List.length_nil, List.length_take, List.length_replicate]; omega)) | ((with_reducible refine acall_inE ?_); (refine ⟨_, (by first | exact ret_l00Max _ _), (by exact rfl), ?_⟩)) | simp only [push_cast, ↓reduceIte, Nat.left_eq_add, Nat.add_eq_left, Nat.reduceAdd, Nat.reduceSub, Nat.reduceMul, Nat.reduceLT, Nat.reduceLeDiff, Nat.reduceEqDiff, Nat.reduceDiv, Int.reduceNeg, Int.reduceEq, Int.reduceLT, Int.reduceLE, Int.reduceToNat, Nat.succ_eq_add_one, reduceCtorEq, decide_true, decide_false, true_and, and_true, ↓Int.cast_ofNat_Int, ne_eq, not_true_eq_false, not_false_eq_true, hlt, e0, timesRow, rows_get] | omega | exact nl_of (by assumption) (by assumption)
      refine ⟨⟨(i + 1, max e (ts.getD i default).fin), by simp only; omega, hs⟩, ?_, by simp only; omega⟩
      refine Wk.of_le ?_; refine Le.of (by repeat' first | exact trivial | refine ⟨Or.inr rfl, ?_⟩ | refine ⟨Or.inl rfl, ?_⟩) (by simp [AV.lo] <;> first | omega | (simp only; omega)) (by (simp only [leO, objsOf_cons, objsOf_nil, upd_apply, renO, renB, AObj.ren, AV.ren, renF, Option.map_some, Option.map_none, AObj.kill, AV.kill, AObj.frz, AV.frz, objLo_box, objLo_arr, loAll, AV.lo, ↓reduceIte, Nat.reduceAdd, Nat.reduceLT, Nat.reduceEqDiff, Nat.left_eq_add, Nat.add_eq_left, Nat.add_left_cancel_iff, Nat.add_right_cancel_iff, reduceCtorEq, and_true, true_and, List.map_append, List.map_cons, List.map_nil]) <;> first | omega | (simp only; omega)) (by first | omega | (simp only; omega))
    · rw [List.drop_of_length_le (by omega)] at hs
      repeat' first | with_reducible refine Cnd_if (fun _ => ?_) (fun _ => ?_) | with_reducible refine Cnd_split (fun _ => ?_) (fun _ => ?_) | with_reducible refine Grd_if (fun _ => ?_) (fun _ => ?_) | with_reducible refine Grd_if' (fun _ => ?_) (fun _ => ?_) | with_reducible refine Grd_split (fun _ => ?_) (fun _ => ?_) | with_reducible refine Grd_split' (fun _ => ?_) (fun _ => ?_) | with_reducible refine Val_if ?_ ?_ | with_reducible refine Val_unless ?_ ?_ | (with_reducible refine Efx_app ?_ ?_; (simp only [decide_eq_true_eq, List.length_append, List.length_map, List.length_cons, List.length_nil, List.length_take, List.length_replicate]; omega)) | (with_reducible refine Efx_makes ?_ ?_; (simp only [decide_eq_true_eq]; omega)) | ((with_reducible refine vc_of_drawQ T_ok follows_ok ?_ ?_ ?_); rfl; kernel_rfl) | ((with_reducible refine vc_of_drawL T_ok follows_ok ?_ ?_); kernel_rfl) | ((with_reducible refine Ldk_intro ?_ ?_); rfl) | (with_reducible refine EfxD_app ?_ ?_; (simp only [decide_eq_true_eq, List.length_append, List.length_map, List.length_cons, List.length_nil, List.length_take, List.length_replicate]; omega)) | simp only [push_cast, ↓reduceIte, Nat.left_eq_add, Nat.add_eq_left, Nat.reduceAdd, Nat.reduceSub, Nat.reduceMul, Nat.reduceLT, Nat.reduceLeDiff, Nat.reduceEqDiff, Nat.reduceDiv, Int.reduceNeg, Int.reduceEq, Int.reduceLT, Int.reduceLE, Int.reduceToNat, Nat.succ_eq_add_one, reduceCtorEq, decide_true, decide_false, true_and, and_true, ↓Int.cast_ofNat_Int, ne_eq, not_true_eq_false, not_false_eq_true, hlt] | omega | exact nl_of (by assumption) (by assumption)
      rw [hs]; rfl
/-! the plain part -/
def tl (bs : List Bond) (n : Nat) : Glu → List Int → List Gd
  | g, [] => []
  | g, x :: xs => gd g (bs.getD x.toNat default) n :: tl bs n (gNext g (bs.getD x.toNat default) n) xs
theorem tRun_tl (bs : List Bond) (n : Nat) : ∀ (xs : List Int) (g : Glu) (acc : List Gd), tRun bs n g acc xs = acc ++ tl bs n g xs
  | [], g, acc => by simp [tRun, tl]
  | x :: xs, g, acc => by simp [tRun, tl, tRun_tl bs n xs]
theorem tl_len (bs : List Bond) (n : Nat) : ∀ (xs : List Int) (g : Glu), (tl bs n g xs).length = xs.length
  | [], g => rfl
  | x :: xs, g => by simp [tl, tl_len bs n xs]
theorem gRun_en (bs : List Bond) (n : Nat) : ∀ (xs : List Int) (g : Glu) (out : List Gd), (gRun bs n g out xs).1.en = finMax g.en (tl bs n g xs)
  | [], g, out => rfl
  | x :: xs, g, out => by rw [gRun, gRun_en bs n xs]; rfl
theorem getD_take {l : List Int} {n i : Nat} (h : i < n) : (l.take n).getD i default = l.getD i default := by
  simp [List.getD_eq_getElem?_getD, List.getElem?_take, h]
theorem pk_take (free : List Int) (n : Nat) : ∀ m, m ≤ n → pk (free.take n) m = pk free m
  | 0, _ => rfl
  | m + 1, h => by
    have h1 := pk_take free n m (by omega)
    have h2 := pk_le free m
    simp only [pk, h1]
    rw [getD_take (by omega), getD_take (by omega)]
theorem gd_take {g g' : Glu} {n : Nat} (h0 : 0 < n) (h1 : g'.ready = g.ready) (h2 : g'.free = g.free.take n) (b : Bond) : gd g' b n = gd g b n ∧ (gNext g' b n).ready = (gNext g b n).ready ∧ (gNext g' b n).free = (gNext g b n).free.take n := by
  have hp := pk_take g.free n n (Nat.le_refl _)
  have hl := pk_le g.free n
  have ha : gAt g' n = gAt g n := by
    unfold gAt
    rw [h2, hp, getD_take (by omega)]
  have hs : gStart g' b n = gStart g b n := by unfold gStart; rw [h1, ha]
  have hb : gBegin g' b n = gBegin g b n := by unfold gBegin; rw [hs, ha]
  have he : gEnd g' b n = gEnd g b n := by unfold gEnd; rw [hb]
  refine ⟨by simp only [gd, hs, hb, he, h2, hp], by simp only [gNext, hs], ?_⟩
  simp only [gNext, h2, hp, he, List.take_set]
theorem tl_take (bs : List Bond) {n : Nat} (h0 : 0 < n) : ∀ (xs : List Int) {g g' : Glu}, g'.ready = g.ready → g'.free = g.free.take n → tl bs n g' xs = tl bs n g xs
  | [], _, _, _, _ => rfl
  | x :: xs, g, g', h1, h2 => by
    obtain ⟨k1, k2, k3⟩ := gd_take h0 h1 h2 (bs.getD x.toNat default)
    rw [tl, tl, k1, tl_take bs h0 xs k2 k3]
theorem times_eq (bs : List Bond) (xs : List Int) {n : Nat} (h0 : 0 < n) (h1 : n ≤ 4) : times bs xs n = tl bs n glu0 xs := by
  unfold times
  rw [tRun_tl, List.nil_append]
  refine tl_take bs h0 xs rfl ?_
  match n, h0, h1 with
  | 1, _, _ | 2, _, _ | 3, _, _ | 4, _, _ => rfl
theorem glueAll_en (bs : List Bond) (xs : List Int) {n : Nat} (h0 : 0 < n) (h1 : n ≤ 4) : (glueAll bs xs n).1.en = finMax 0 (times bs xs n) := by
  rw [times_eq bs xs h0 h1]
  exact gRun_en bs n xs glu0 _
theorem goOrd_all : ∀ (xs : List Int) (seen : List Bool), goOrd seen xs = true → ∀ x ∈ xs, 0 ≤ x ∧ x < (seen.length : Int)
  | [], _, _ => by simp
  | x :: xs, seen, h => by
    simp only [goOrd] at h
    split at h
    · cases h
    · rename_i hc
      have h1 : inB x 0 ((seen.length : Int) - 1) = true := by
        cases hb : inB x 0 ((seen.length : Int) - 1) with
        | true => rfl
        | false => exact absurd (Or.inl hb) hc
      have h2 := (inB_iff _ _ _).1 h1
      intro y hy
      rcases List.mem_cons.1 hy with rfl | hy
      · omega
      · have := goOrd_all xs _ h y hy
        simpa using this
theorem code_ok {bs : List Bond} {xs : List Int} {p : Int} (h : glueCode bs xs p = 0) : (∃ n : Nat, p = n ∧ 0 < n ∧ n ≤ 4) ∧ xs.length = bs.length ∧ goOrd (List.replicate bs.length false) xs = true ∧ ∀ x ∈ xs, 0 ≤ x ∧ x < (bs.length : Int) := by
  unfold glueCode at h
  split at h
  · split at h
    · rename_i hc
      simp only [Bool.and_eq_true, isOrd, decide_eq_true_eq] at hc
      obtain ⟨h1, h2, h3⟩ := hc
      have h1 := (inB_iff _ _ _).1 h1
      refine ⟨⟨p.toNat, by omega, by omega, by omega⟩, h2, h3, ?_⟩
      simpa using goOrd_all xs _ h3
    · omega
  · omega
def glueEnd (bs : List Bond) (xs : List Int) (p : Int) : Int := if glueCode bs xs p = 0 then finMax 0 (times bs xs p.toNat) else 0
end Go.Proofs.Ytijkfgpnajdckaa.Fw
