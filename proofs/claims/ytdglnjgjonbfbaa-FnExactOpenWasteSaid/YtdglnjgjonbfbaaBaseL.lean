/- The waste of gluing in an order. No condition. -/
import Derived.Test.YtdglnjgjonbfbaaBaseJ
namespace Go.Proofs.Ytdglnjgjonbfbaa.Fw
open Go.RowKit
set_option linter.unusedSimpArgs false
set_option linter.unusedVariables false
set_option maxRecDepth 100000
/-! sums over numbers below n -/
def rs (f : Nat → Int) : Nat → Int
  | 0 => 0
  | n + 1 => rs f n + f n
theorem rs_congr {f g : Nat → Int} : ∀ (n : Nat), (∀ i, i < n → f i = g i) → rs f n = rs g n
  | 0, _ => rfl
  | n + 1, h => by rw [rs, rs, rs_congr n (fun i hi => h i (by omega)), h n (by omega)]
theorem rs_upd {f g : Nat → Int} {i : Nat} (h : ∀ j, j ≠ i → g j = f j) : ∀ (n : Nat), rs g n = rs f n + if i < n then g i - f i else 0
  | 0 => by simp [rs]
  | n + 1 => by
    rw [rs, rs, rs_upd h n]
    by_cases e : n = i
    · subst e
      rw [if_neg (by omega), if_pos (by omega)]
      omega
    · rw [h n e]
      by_cases hi : i < n
      · rw [if_pos hi, if_pos (by omega)]; omega
      · rw [if_neg hi, if_neg (by omega)]; omega
theorem rs_succ (f : Nat → Int) : ∀ (n : Nat), rs f (n + 1) = f 0 + rs (fun i => f (i + 1)) n
  | 0 => by simp [rs]
  | n + 1 => by
    rw [rs, rs_succ f n, rs]
    omega
theorem rs_full {f : Nat → Int} : ∀ (n : Nat), (∀ i, i < n → f i ≤ 1) → rs f n ≤ n
  | 0, _ => by simp [rs]
  | n + 1, h => by
    have := rs_full n (fun i hi => h i (by omega))
    have := h n (by omega)
    rw [rs]
    omega
theorem rs_one {f : Nat → Int} : ∀ (n : Nat), (∀ i, i < n → f i ≤ 1) → rs f n = n → ∀ i, i < n → f i = 1
  | 0, _, _ => by omega
  | n + 1, h, hs => by
    rw [rs] at hs
    have h1 := rs_full n (fun i hi => h i (by omega))
    have h2 := h n (by omega)
    have h3 := rs_one n (fun i hi => h i (by omega)) (by omega)
    intro i hi
    by_cases e : i = n
    · subst e; omega
    · exact h3 i (by omega)
theorem wrap_add (a b : Int) : IntKind.wrap .i64 (IntKind.wrap .i64 a + b) = IntKind.wrap .i64 (a + b) := by
  simp only [IntKind.wrap_i64]
  omega
theorem wrap_wrap (a : Int) : IntKind.wrap .i64 (IntKind.wrap .i64 a) = IntKind.wrap .i64 a := by
  have := wrap_add a 0
  simpa using this
theorem wsum_map (f : Nat → Int) : ∀ (n : Nat), wsum 0 ((List.range n).map f) = IntKind.wrap .i64 (rs f n)
  | 0 => by show (0 : Int) = IntKind.wrap .i64 0; decide
  | n + 1 => by
    rw [List.range_succ, List.map_append]
    have : wsum 0 ((List.range n).map f ++ [f n]) = IntKind.wrap .i64 (wsum 0 ((List.range n).map f) + f n) := by
      simp [wsum]
    rw [List.map_cons, List.map_nil, this, wsum_map f n, wrap_add, rs]
/-! every bond once -/
def finSeen : List Bool → List Int → List Bool
  | seen, [] => seen
  | seen, x :: xs => finSeen (seen.set x.toNat true) xs
theorem getD_set_same {α : Type} {l : List α} {i : Nat} {a z : α} (h : i < l.length) : (l.set i a).getD i z = a := by
  simp [List.getD_eq_getElem?_getD, h]
theorem getD_set_other {α : Type} {l : List α} {i j : Nat} {a z : α} (h : j ≠ i) : (l.set i a).getD j z = l.getD j z := by
  simp [List.getD_eq_getElem?_getD, List.getElem?_set, Ne.symm h]
theorem goOrd_cons {x : Int} {xs : List Int} {seen : List Bool} (h : goOrd seen (x :: xs) = true) : x.toNat < seen.length ∧ seen.getD x.toNat default = false ∧ goOrd (seen.set x.toNat true) xs = true := by
  have hm := goOrd_all _ _ h x List.mem_cons_self
  simp only [goOrd] at h
  split at h
  · cases h
  · rename_i hc
    exact ⟨by omega, by simpa using fun e => hc (Or.inr e), h⟩
theorem fin_cnt : ∀ (xs : List Int) (seen : List Bool), goOrd seen xs = true → (finSeen seen xs).length = seen.length ∧ rs (fun i => if (finSeen seen xs).getD i default = true then 1 else 0) seen.length = rs (fun i => if seen.getD i default = true then 1 else 0) seen.length + xs.length
  | [], seen, _ => by simp [finSeen]
  | x :: xs, seen, h => by
    obtain ⟨h1, h2, h3⟩ := goOrd_cons h
    obtain ⟨g1, g2⟩ := fin_cnt xs _ h3
    rw [List.length_set] at g1 g2
    refine ⟨g1, ?_⟩
    rw [finSeen, g2, rs_upd (f := fun i => if seen.getD i default = true then 1 else 0) (i := x.toNat) (fun j hj => by simp only [getD_set_other hj]), if_pos h1]
    simp only [getD_set_same h1, h2, if_true, List.length_cons]
    simp
    omega
theorem run_sum (F : Nat → Gd → Int) (bs : List Bond) (n : Nat) : ∀ (xs : List Int) (seen : List Bool) (g : Glu) (out : List Gd), goOrd seen xs = true → seen.length = out.length →
    rs (fun i => if (finSeen seen xs).getD i default = true then F i ((gRun bs n g out xs).2.getD i default) else 0) out.length = rs (fun i => if seen.getD i default = true then F i (out.getD i default) else 0) out.length + rs (fun j => F (xs.getD j default).toNat ((tl bs n g xs).getD j default)) xs.length
  | [], seen, g, out, _, _ => by simp [finSeen, gRun, rs]
  | x :: xs, seen, g, out, h, hl => by
    obtain ⟨h1, h2, h3⟩ := goOrd_cons h
    have ih := run_sum F bs n xs (seen.set x.toNat true) (gNext g (bs.getD x.toNat default) n) (out.set x.toNat (gd g (bs.getD x.toNat default) n)) h3 (by simpa using hl)
    rw [List.length_set] at ih
    rw [finSeen, gRun, ih, rs_upd (f := fun i => if seen.getD i default = true then F i (out.getD i default) else 0) (i := x.toNat) (fun j hj => by simp only [getD_set_other hj]), if_pos (by omega), List.length_cons, rs_succ]
    simp only [getD_set_same h1, getD_set_same (show x.toNat < out.length by omega), h2, if_true, tl, List.getD_cons_zero, List.getD_cons_succ]
    simp
    omega
theorem gRun_len (bs : List Bond) (n : Nat) : ∀ (xs : List Int) (g : Glu) (out : List Gd), (gRun bs n g out xs).2.length = out.length
  | [], g, out => rfl
  | x :: xs, g, out => by rw [gRun, gRun_len bs n xs, List.length_set]
theorem once_sum (F : Nat → Gd → Int) (bs : List Bond) (xs : List Int) {n : Nat} (h0 : 0 < n) (h1 : n ≤ 4) (hl : xs.length = bs.length) (h : goOrd (List.replicate bs.length false) xs = true) :
    rs (fun i => F i ((glueAll bs xs n).2.getD i default)) bs.length = rs (fun j => F (xs.getD j default).toNat ((times bs xs n).getD j default)) xs.length := by
  obtain ⟨g1, g2⟩ := fin_cnt xs _ h
  have hz : ∀ (c : Nat → Int), rs (fun i => if (List.replicate bs.length false).getD i default = true then c i else 0) bs.length = 0 := by
    intro c
    rw [rs_congr (g := fun _ => 0) _ (fun i hi => by simp [List.getD_eq_getElem?_getD, List.getElem?_replicate, hi])]
    generalize bs.length = m
    induction m with
    | zero => rfl
    | succ m ih => rw [rs, ih]; rfl
  rw [List.length_replicate] at g2 g1
  rw [hz (fun _ => 1), hl] at g2
  have hall := rs_one (f := fun i => if (finSeen (List.replicate bs.length false) xs).getD i default = true then 1 else 0) bs.length (fun i hi => by split <;> omega) (by simpa using g2)
  have hall2 : ∀ i, i < bs.length → (finSeen (List.replicate bs.length false) xs).getD i default = true := by
    intro i hi
    have := hall i hi
    split at this
    · assumption
    · omega
  have hr := run_sum F bs n xs (List.replicate bs.length false) glu0 (List.replicate bs.length default) h (by simp)
  rw [List.length_replicate, hz, ← times_eq bs xs h0 h1] at hr
  rw [Int.zero_add] at hr
  rw [← hr]
  refine rs_congr _ fun i hi => ?_
  rw [if_pos (hall2 i hi)]
  rfl
def wasteF (bs : List Bond) (i : Nat) (o : Gd) : Int := IntKind.wrap .i64 (IntKind.wrap .i64 (o.beg - o.start) - (bs.getD i default).spread)
def wasteA (bs : List Bond) (all : List Gd) : List Int := (List.range bs.length).map fun i => wasteF bs i (all.getD i default)
def wasteT (bs : List Bond) (xs : List Int) (ts : List Gd) : List Int := (List.range xs.length).map fun j => wasteF bs (xs.getD j default).toNat (ts.getD j default)
theorem range_get {f : Nat → Int} {n i : Nat} (h : i < n) : ((List.range n).map f).getD i default = f i := by
  simp [List.getD_eq_getElem?_getD, h]
def openWaste (bs : List Bond) (xs : List Int) (p : Int) : Int := if glueCode bs xs p = 0 then wsum 0 (wasteT bs xs (times bs xs p.toNat)) else 0
set_option maxHeartbeats 1000000 in
theorem ret_iOpenWaste (nl f : Bool) (bs : List Bond) (hn : nl = true → bs = []) (hl : bs.length ≤ 1048576) (nl' f' : Bool) (xs : List Int) (hn' : nl' = true → xs = []) (hl' : xs.length ≤ 1048576) (p : Int) : Ret Try.prog 62 none [.c (bondsV nl f bs), .c (intsV nl' f' xs), iv p] [] (.tup [.c (ic (openWaste bs xs p)), .c (ic (glueCode bs xs p))]) := by
  refine Ret.intro (rs := [.tmp 6, .tmp 7]) T_ok Try.func62 rfl rfl Try.ntmps62 rfl (by simp [AV.lo]) (fun E => vc_sound T_ok _ ?_)
  by_cases hc : glueCode bs xs p = 0
  · obtain ⟨⟨n, rfl, h0, h1⟩, h2, h3, h4⟩ := code_ok hc
    have hv : openWaste bs xs n = wsum 0 (wasteA bs (glueAll bs xs n).2) := by
      unfold openWaste
      rw [if_pos hc]
      unfold wasteT wasteA
      rw [wsum_map, wsum_map, Int.toNat_natCast, once_sum (wasteF bs) bs xs h0 h1 h2 h3]
    have ho : (glueAll bs xs n).2.length = bs.length := by unfold glueAll; rw [gRun_len, List.length_replicate]
    repeat' first | with_reducible refine Cnd_if (fun _ => ?_) (fun _ => ?_) | with_reducible refine Cnd_split (fun _ => ?_) (fun _ => ?_) | with_reducible refine Grd_if (fun _ => ?_) (fun _ => ?_) | with_reducible refine Grd_if' (fun _ => ?_) (fun _ => ?_) | with_reducible refine Grd_split (fun _ => ?_) (fun _ => ?_) | with_reducible refine Grd_split' (fun _ => ?_) (fun _ => ?_) | with_reducible refine Val_if ?_ ?_ | with_reducible refine Val_unless ?_ ?_ | (with_reducible refine Efx_app ?_ ?_; (simp only [decide_eq_true_eq, List.length_append, List.length_map, List.length_cons, List.length_nil, List.length_take, List.length_replicate]; omega)) | (with_reducible refine Efx_makes ?_ ?_; (simp only [decide_eq_true_eq]; omega)) | ((with_reducible refine vc_of_drawQ T_ok follows_ok ?_ ?_ ?_); rfl; kernel_rfl) | ((with_reducible refine vc_of_drawL T_ok follows_ok ?_ ?_); kernel_rfl) | ((with_reducible refine Ldk_intro ?_ ?_); rfl) | (with_reducible refine EfxD_app ?_ ?_; (simp only [decide_eq_true_eq, List.length_append, List.length_map, List.length_cons, List.length_nil, List.length_take, List.length_replicate]; omega)) | ((with_reducible refine acall_inE ?_); (refine ⟨_, (by first | exact (ret_glueCode _ _ _ hn hl _ _ _ hn' hl' _) | exact (ret_glueAll _ _ _ hn hl _ _ _ hn' hl' h4 _ h1)), (by exact rfl), ?_⟩)) | simp only [push_cast, ↓reduceIte, Nat.left_eq_add, Nat.add_eq_left, Nat.reduceAdd, Nat.reduceSub, Nat.reduceMul, Nat.reduceLT, Nat.reduceLeDiff, Nat.reduceEqDiff, Nat.reduceDiv, Int.reduceNeg, Int.reduceEq, Int.reduceLT, Int.reduceLE, Int.reduceToNat, Nat.succ_eq_add_one, reduceCtorEq, decide_true, decide_false, true_and, and_true, ↓Int.cast_ofNat_Int, ne_eq, not_true_eq_false, not_false_eq_true, hc, hv] | omega | exact nl_of (by assumption) (by assumption)
    generalize (glueAll bs xs n).2 = al at *
    refine vc_of_loopW T_ok (ι := {q : Nat × Int // q.1 ≤ al.length ∧ wsum 0 (wasteA bs al) = wsum q.2 ((wasteA bs al).drop q.1)}) (fun q => ⟨.c (bondsV nl f bs) :: .junk :: .junk :: .junk :: .junk :: .junk :: .junk :: .junk :: .junk :: .junk :: .junk :: iv q.1.2 :: .junk :: .junk :: .junk :: .junk :: .junk :: .junk :: .junk :: .junk :: .junk :: .junk :: .junk :: .junk :: .junk :: .junk :: .junk :: .junk :: .c (.sl false false 4 (al.map gdRow)) :: iv al.length :: iv q.1.1 :: List.replicate 19 .junk, objsOf [], 1⟩) (fun q => al.length - q.1.1) ⟨(0, 0), Nat.zero_le _, rfl⟩ ?_ ?_
    · refine Wk.of_le ?_; refine Le.of (by repeat' first | exact trivial | refine ⟨Or.inr rfl, ?_⟩ | refine ⟨Or.inl rfl, ?_⟩) (by simp [AV.lo] <;> first | omega | (simp only; omega)) (by (simp only [leO, objsOf_cons, objsOf_nil, upd_apply, renO, renB, AObj.ren, AV.ren, renF, Option.map_some, Option.map_none, AObj.kill, AV.kill, AObj.frz, AV.frz, objLo_box, objLo_arr, loAll, AV.lo, ↓reduceIte, Nat.reduceAdd, Nat.reduceLT, Nat.reduceEqDiff, Nat.left_eq_add, Nat.add_eq_left, Nat.add_left_cancel_iff, Nat.add_right_cancel_iff, reduceCtorEq, and_true, true_and, List.map_append, List.map_cons, List.map_nil]) <;> first | omega | (simp only; omega)) (by first | omega | (simp only; omega))
    · rintro ⟨⟨i, a⟩, hi, hs⟩
      simp only at hi hs
      have e0 : i < al.length → IntKind.wrap .i64 (↑i + 1) = ↑i + 1 := fun _ => wrap_i64 (by omega) (by omega)
      have hwl : (wasteA bs al).length = bs.length := by simp [wasteA]
      by_cases hlt : i < al.length
      · have hk : i < bs.length := by omega
        have e2 : nl = false := nl_of hn hk
        subst e2
        rw [drop_getD (by omega), show (wasteA bs al).getD i default = wasteF bs i (al.getD i default) from range_get hk] at hs
        repeat' first | with_reducible refine Cnd_if (fun _ => ?_) (fun _ => ?_) | with_reducible refine Cnd_split (fun _ => ?_) (fun _ => ?_) | with_reducible refine Grd_if (fun _ => ?_) (fun _ => ?_) | with_reducible refine Grd_if' (fun _ => ?_) (fun _ => ?_) | with_reducible refine Grd_split (fun _ => ?_) (fun _ => ?_) | with_reducible refine Grd_split' (fun _ => ?_) (fun _ => ?_) | with_reducible refine Val_if ?_ ?_ | with_reducible refine Val_unless ?_ ?_ | (with_reducible refine Efx_app ?_ ?_; (simp only [decide_eq_true_eq, List.length_append, List.length_map, List.length_cons, List.length_nil, List.length_take, List.length_replicate]; omega)) | (with_reducible refine Efx_makes ?_ ?_; (simp only [decide_eq_true_eq]; omega)) | ((with_reducible refine vc_of_drawQ T_ok follows_ok ?_ ?_ ?_); rfl; kernel_rfl) | ((with_reducible refine vc_of_drawL T_ok follows_ok ?_ ?_); kernel_rfl) | ((with_reducible refine Ldk_intro ?_ ?_); rfl) | (with_reducible refine EfxD_app ?_ ?_; (simp only [decide_eq_true_eq, List.length_append, List.length_map, List.length_cons, List.length_nil, List.length_take, List.length_replicate]; omega)) | simp only [push_cast, ↓reduceIte, Nat.left_eq_add, Nat.add_eq_left, Nat.reduceAdd, Nat.reduceSub, Nat.reduceMul, Nat.reduceLT, Nat.reduceLeDiff, Nat.reduceEqDiff, Nat.reduceDiv, Int.reduceNeg, Int.reduceEq, Int.reduceLT, Int.reduceLE, Int.reduceToNat, Nat.succ_eq_add_one, reduceCtorEq, decide_true, decide_false, true_and, and_true, ↓Int.cast_ofNat_Int, ne_eq, not_true_eq_false, not_false_eq_true, hlt, hk, e0, bondRow, gdRow, rows_get] | omega | exact nl_of (by assumption) (by assumption)
        refine ⟨⟨(i + 1, IntKind.wrap .i64 (a + wasteF bs i (al.getD i default))), by simp only; omega, hs⟩, ?_, by simp only; omega⟩
        refine Wk.of_le ?_; refine Le.of (by repeat' first | exact trivial | refine ⟨Or.inr rfl, ?_⟩ | refine ⟨Or.inl rfl, ?_⟩) (by simp [AV.lo] <;> first | omega | (simp only; omega)) (by (simp only [leO, objsOf_cons, objsOf_nil, upd_apply, renO, renB, AObj.ren, AV.ren, renF, Option.map_some, Option.map_none, AObj.kill, AV.kill, AObj.frz, AV.frz, objLo_box, objLo_arr, loAll, AV.lo, ↓reduceIte, Nat.reduceAdd, Nat.reduceLT, Nat.reduceEqDiff, Nat.left_eq_add, Nat.add_eq_left, Nat.add_left_cancel_iff, Nat.add_right_cancel_iff, reduceCtorEq, and_true, true_and, List.map_append, List.map_cons, List.map_nil]) <;> first | omega | (simp only; omega)) (by first | omega | (simp only; omega))
      · rw [List.drop_of_length_le (by omega)] at hs
        repeat' first | with_reducible refine Cnd_if (fun _ => ?_) (fun _ => ?_) | with_reducible refine Cnd_split (fun _ => ?_) (fun _ => ?_) | with_reducible refine Grd_if (fun _ => ?_) (fun _ => ?_) | with_reducible refine Grd_if' (fun _ => ?_) (fun _ => ?_) | with_reducible refine Grd_split (fun _ => ?_) (fun _ => ?_) | with_reducible refine Grd_split' (fun _ => ?_) (fun _ => ?_) | with_reducible refine Val_if ?_ ?_ | with_reducible refine Val_unless ?_ ?_ | (with_reducible refine Efx_app ?_ ?_; (simp only [decide_eq_true_eq, List.length_append, List.length_map, List.length_cons, List.length_nil, List.length_take, List.length_replicate]; omega)) | (with_reducible refine Efx_makes ?_ ?_; (simp only [decide_eq_true_eq]; omega)) | ((with_reducible refine vc_of_drawQ T_ok follows_ok ?_ ?_ ?_); rfl; kernel_rfl) | ((with_reducible refine vc_of_drawL T_ok follows_ok ?_ ?_); kernel_rfl) | ((with_reducible refine Ldk_intro ?_ ?_); rfl) | (with_reducible refine EfxD_app ?_ ?_; (simp only [decide_eq_true_eq, List.length_append, List.length_map, List.length_cons, List.length_nil, List.length_take, List.length_replicate]; omega)) | simp only [push_cast, ↓reduceIte, Nat.left_eq_add, Nat.add_eq_left, Nat.reduceAdd, Nat.reduceSub, Nat.reduceMul, Nat.reduceLT, Nat.reduceLeDiff, Nat.reduceEqDiff, Nat.reduceDiv, Int.reduceNeg, Int.reduceEq, Int.reduceLT, Int.reduceLE, Int.reduceToNat, Nat.succ_eq_add_one, reduceCtorEq, decide_true, decide_false, true_and, and_true, ↓Int.cast_ofNat_Int, ne_eq, not_true_eq_false, not_false_eq_true, hlt] | omega | exact nl_of (by assumption) (by assumption)
        rw [hs]; rfl
  · have hv : openWaste bs xs p = 0 := by simp [openWaste, hc]
    repeat' first | with_reducible refine Cnd_if (fun _ => ?_) (fun _ => ?_) | with_reducible refine Cnd_split (fun _ => ?_) (fun _ => ?_) | with_reducible refine Grd_if (fun _ => ?_) (fun _ => ?_) | with_reducible refine Grd_if' (fun _ => ?_) (fun _ => ?_) | with_reducible refine Grd_split (fun _ => ?_) (fun _ => ?_) | with_reducible refine Grd_split' (fun _ => ?_) (fun _ => ?_) | with_reducible refine Val_if ?_ ?_ | with_reducible refine Val_unless ?_ ?_ | (with_reducible refine Efx_app ?_ ?_; (simp only [decide_eq_true_eq, List.length_append, List.length_map, List.length_cons, List.length_nil, List.length_take, List.length_replicate]; omega)) | (with_reducible refine Efx_makes ?_ ?_; (simp only [decide_eq_true_eq]; omega)) | ((with_reducible refine vc_of_drawQ T_ok follows_ok ?_ ?_ ?_); rfl; kernel_rfl) | ((with_reducible refine vc_of_drawL T_ok follows_ok ?_ ?_); kernel_rfl) | ((with_reducible refine Ldk_intro ?_ ?_); rfl) | (with_reducible refine EfxD_app ?_ ?_; (simp only [decide_eq_true_eq, List.length_append, List.length_map, List.length_cons, List.length_nil, List.length_take, List.length_replicate]; omega)) | ((with_reducible refine acall_inE ?_); (refine ⟨_, (by first | exact (ret_glueCode _ _ _ hn hl _ _ _ hn' hl' _)), (by exact rfl), ?_⟩)) | simp only [push_cast, ↓reduceIte, Nat.left_eq_add, Nat.add_eq_left, Nat.reduceAdd, Nat.reduceSub, Nat.reduceMul, Nat.reduceLT, Nat.reduceLeDiff, Nat.reduceEqDiff, Nat.reduceDiv, Int.reduceNeg, Int.reduceEq, Int.reduceLT, Int.reduceLE, Int.reduceToNat, Nat.succ_eq_add_one, reduceCtorEq, decide_true, decide_false, true_and, and_true, ↓Int.cast_ofNat_Int, ne_eq, not_true_eq_false, not_false_eq_true, hc, hv] | omega | exact nl_of (by assumption) (by assumption)
set_option maxHeartbeats 1000000 in
theorem ret_sOpenWaste (nl f : Bool) (bs : List Bond) (hn : nl = true → bs = []) (hl : bs.length ≤ 1048576) (nl' f' : Bool) (xs : List Int) (hn' : nl' = true → xs = []) (hl' : xs.length ≤ 1048576) (p : Int) : Ret Try.prog 61 none [.c (bondsV nl f bs), .c (intsV nl' f' xs), iv p] [] (.tup [.c (ic (openWaste bs xs p)), .c (ic (glueCode bs xs p))]) := by
  refine Ret.intro (rs := [.tmp 6, .tmp 7]) T_ok Try.func61 rfl rfl Try.ntmps61 rfl (by simp [AV.lo]) (fun E => vc_sound T_ok _ ?_)
  by_cases hc : glueCode bs xs p = 0
  · obtain ⟨⟨n, rfl, h0, h1⟩, h2, h3, h4⟩ := code_ok hc
    have hv : openWaste bs xs n = wsum 0 (wasteT bs xs (times bs xs n)) := by simp [openWaste, hc]
    have ht : (times bs xs n).length = xs.length := by rw [times_eq bs xs h0 h1, tl_len]
    repeat' first | with_reducible refine Cnd_if (fun _ => ?_) (fun _ => ?_) | with_reducible refine Cnd_split (fun _ => ?_) (fun _ => ?_) | with_reducible refine Grd_if (fun _ => ?_) (fun _ => ?_) | with_reducible refine Grd_if' (fun _ => ?_) (fun _ => ?_) | with_reducible refine Grd_split (fun _ => ?_) (fun _ => ?_) | with_reducible refine Grd_split' (fun _ => ?_) (fun _ => ?_) | with_reducible refine Val_if ?_ ?_ | with_reducible refine Val_unless ?_ ?_ | (with_reducible refine Efx_app ?_ ?_; (simp only [decide_eq_true_eq, List.length_append, List.length_map, List.length_cons, List.length_nil, List.length_take, List.length_replicate]; omega)) | (with_reducible refine Efx_makes ?_ ?_; (simp only [decide_eq_true_eq]; omega)) | ((with_reducible refine vc_of_drawQ T_ok follows_ok ?_ ?_ ?_); rfl; kernel_rfl) | ((with_reducible refine vc_of_drawL T_ok follows_ok ?_ ?_); kernel_rfl) | ((with_reducible refine Ldk_intro ?_ ?_); rfl) | (with_reducible refine EfxD_app ?_ ?_; (simp only [decide_eq_true_eq, List.length_append, List.length_map, List.length_cons, List.length_nil, List.length_take, List.length_replicate]; omega)) | ((with_reducible refine acall_inE ?_); (refine ⟨_, (by first | exact (ret_l24Ask _ _ _ hn hl _ _ _ hn' hl' _) | exact (ret_l24Times _ _ _ hn hl _ _ _ hn' hl' h4 _ h0 h1)), (by exact rfl), ?_⟩)) | simp only [push_cast, ↓reduceIte, Nat.left_eq_add, Nat.add_eq_left, Nat.reduceAdd, Nat.reduceSub, Nat.reduceMul, Nat.reduceLT, Nat.reduceLeDiff, Nat.reduceEqDiff, Nat.reduceDiv, Int.reduceNeg, Int.reduceEq, Int.reduceLT, Int.reduceLE, Int.reduceToNat, Nat.succ_eq_add_one, reduceCtorEq, decide_true, decide_false, true_and, and_true, ↓Int.cast_ofNat_Int, ne_eq, not_true_eq_false, not_false_eq_true, hc, hv] | omega | exact nl_of (by assumption) (by assumption)
    generalize times bs xs n = ts at *
    refine vc_of_loopW T_ok (ι := {q : Nat × Int // q.1 ≤ xs.length ∧ wsum 0 (wasteT bs xs ts) = wsum q.2 ((wasteT bs xs ts).drop q.1)}) (fun q => ⟨.c (bondsV nl f bs) :: .c (intsV nl' f' xs) :: .junk :: .junk :: .junk :: .junk :: .junk :: .junk :: .junk :: .lsl 13 1 0 ts.length :: iv q.1.2 :: iv q.1.1 :: List.replicate 42 .junk, objsOf [(13, .arr 29 1 (ts.map timesRow))], 14⟩) (fun q => xs.length - q.1.1) ⟨(0, 0), Nat.zero_le _, rfl⟩ ?_ ?_
    · refine Wk.of_le ?_; refine Le.of (by repeat' first | exact trivial | refine ⟨Or.inr rfl, ?_⟩ | refine ⟨Or.inl rfl, ?_⟩) (by simp [AV.lo] <;> first | omega | (simp only; omega)) (by (simp only [leO, objsOf_cons, objsOf_nil, upd_apply, renO, renB, AObj.ren, AV.ren, renF, Option.map_some, Option.map_none, AObj.kill, AV.kill, AObj.frz, AV.frz, objLo_box, objLo_arr, loAll, AV.lo, ↓reduceIte, Nat.reduceAdd, Nat.reduceLT, Nat.reduceEqDiff, Nat.left_eq_add, Nat.add_eq_left, Nat.add_left_cancel_iff, Nat.add_right_cancel_iff, reduceCtorEq, and_true, true_and, List.map_append, List.map_cons, List.map_nil]) <;> first | omega | (simp only; omega)) (by first | omega | (simp only; omega))
    · rintro ⟨⟨i, a⟩, hi, hs⟩
      simp only at hi hs
      have e0 : i < xs.length → IntKind.wrap .i64 (↑i + 1) = ↑i + 1 := fun _ => wrap_i64 (by omega) (by omega)
      have hwl : (wasteT bs xs ts).length = xs.length := by simp [wasteT]
      by_cases hlt : i < xs.length
      · have e2 : nl' = false := nl_of hn' hlt
        subst e2
        have hts : i < ts.length := by omega
        have hr : 0 ≤ xs.getD i default ∧ xs.getD i default < (bs.length : Int) := h4 _ (by
          rw [List.getD_eq_getElem?_getD, List.getElem?_eq_getElem hlt, Option.getD_some]
          exact List.getElem_mem hlt)
        have hk : (xs.getD i default).toNat < bs.length := by omega
        have e3 : nl = false := nl_of hn hk
        subst e3
        rw [drop_getD (by omega), show (wasteT bs xs ts).getD i default = wasteF bs (xs.getD i default).toNat (ts.getD i default) from range_get hlt] at hs
        repeat' first | with_reducible refine Cnd_if (fun _ => ?_) (fun _ => ?_) | with_reducible refine Cnd_split (fun _ => ?_) (fun _ => ?_) | with_reducible refine Grd_if (fun _ => ?_) (fun _ => ?_) | with_reducible refine Grd_if' (fun _ => ?_) (fun _ => ?_) | with_reducible refine Grd_split (fun _ => ?_) (fun _ => ?_) | with_reducible refine Grd_split' (fun _ => ?_) (fun _ => ?_) | with_reducible refine Val_if ?_ ?_ | with_reducible refine Val_unless ?_ ?_ | (with_reducible refine Efx_app ?_ ?_; (simp only [decide_eq_true_eq, List.length_append, List.length_map, List.length_cons, List.length_nil, List.length_take, List.length_replicate]; omega)) | (with_reducible refine Efx_makes ?_ ?_; (simp only [decide_eq_true_eq]; omega)) | ((with_reducible refine vc_of_drawQ T_ok follows_ok ?_ ?_ ?_); rfl; kernel_rfl) | ((with_reducible refine vc_of_drawL T_ok follows_ok ?_ ?_); kernel_rfl) | ((with_reducible refine Ldk_intro ?_ ?_); rfl) | (with_reducible refine EfxD_app ?_ ?_; (simp only [decide_eq_true_eq, List.length_append, List.length_map, List.length_cons, List.length_nil, List.length_take, List.length_replicate]; omega)) | simp only [push_cast, ↓reduceIte, Nat.left_eq_add, Nat.add_eq_left, Nat.reduceAdd, Nat.reduceSub, Nat.reduceMul, Nat.reduceLT, Nat.reduceLeDiff, Nat.reduceEqDiff, Nat.reduceDiv, Int.reduceNeg, Int.reduceEq, Int.reduceLT, Int.reduceLE, Int.reduceToNat, Nat.succ_eq_add_one, reduceCtorEq, decide_true, decide_false, true_and, and_true, ↓Int.cast_ofNat_Int, ne_eq, not_true_eq_false, not_false_eq_true, hlt, hts, hk, hr, e0, bondRow, timesRow, intRow, rows_get] | omega | exact nl_of (by assumption) (by assumption)
        refine ⟨⟨(i + 1, IntKind.wrap .i64 (a + wasteF bs (xs.getD i default).toNat (ts.getD i default))), by simp only; omega, hs⟩, ?_, by simp only; omega⟩
        refine Wk.of_le ?_; refine Le.of (by repeat' first | exact trivial | refine ⟨Or.inr rfl, ?_⟩ | refine ⟨Or.inl rfl, ?_⟩) (by simp [AV.lo] <;> first | omega | (simp only; omega)) (by (simp only [leO, objsOf_cons, objsOf_nil, upd_apply, renO, renB, AObj.ren, AV.ren, renF, Option.map_some, Option.map_none, AObj.kill, AV.kill, AObj.frz, AV.frz, objLo_box, objLo_arr, loAll, AV.lo, ↓reduceIte, Nat.reduceAdd, Nat.reduceLT, Nat.reduceEqDiff, Nat.left_eq_add, Nat.add_eq_left, Nat.add_left_cancel_iff, Nat.add_right_cancel_iff, reduceCtorEq, and_true, true_and, List.map_append, List.map_cons, List.map_nil]) <;> first | omega | (simp only; omega)) (by first | omega | (simp only; omega))
      · rw [List.drop_of_length_le (by omega)] at hs
        repeat' first | with_reducible refine Cnd_if (fun _ => ?_) (fun _ => ?_) | with_reducible refine Cnd_split (fun _ => ?_) (fun _ => ?_) | with_reducible refine Grd_if (fun _ => ?_) (fun _ => ?_) | with_reducible refine Grd_if' (fun _ => ?_) (fun _ => ?_) | with_reducible refine Grd_split (fun _ => ?_) (fun _ => ?_) | with_reducible refine Grd_split' (fun _ => ?_) (fun _ => ?_) | with_reducible refine Val_if ?_ ?_ | with_reducible refine Val_unless ?_ ?_ | (with_reducible refine Efx_app ?_ ?_; (simp only [decide_eq_true_eq, List.length_append, List.length_map, List.length_cons, List.length_nil, List.length_take, List.length_replicate]; omega)) | (with_reducible refine Efx_makes ?_ ?_; (simp only [decide_eq_true_eq]; omega)) | ((with_reducible refine vc_of_drawQ T_ok follows_ok ?_ ?_ ?_); rfl; kernel_rfl) | ((with_reducible refine vc_of_drawL T_ok follows_ok ?_ ?_); kernel_rfl) | ((with_reducible refine Ldk_intro ?_ ?_); rfl) | (with_reducible refine EfxD_app ?_ ?_; (simp only [decide_eq_true_eq, List.length_append, List.length_map, List.length_cons, List.length_nil, List.length_take, List.length_replicate]; omega)) | simp only [push_cast, ↓reduceIte, Nat.left_eq_add, Nat.add_eq_left, Nat.reduceAdd, Nat.reduceSub, Nat.reduceMul, Nat.reduceLT, Nat.reduceLeDiff, Nat.reduceEqDiff, Nat.reduceDiv, Int.reduceNeg, Int.reduceEq, Int.reduceLT, Int.reduceLE, Int.reduceToNat, Nat.succ_eq_add_one, reduceCtorEq, decide_true, decide_false, true_and, and_true, ↓Int.cast_ofNat_Int, ne_eq, not_true_eq_false, not_false_eq_true, hlt] | omega | exact nl_of (by assumption) (by assumption)
        rw [hs]; rfl
  · have hv : openWaste bs xs p = 0 := by simp [openWaste, hc]
    repeat' first | with_reducible refine Cnd_if (fun _ => ?_) (fun _ => ?_) | with_reducible refine Cnd_split (fun _ => ?_) (fun _ => ?_) | with_reducible refine Grd_if (fun _ => ?_) (fun _ => ?_) | with_reducible refine Grd_if' (fun _ => ?_) (fun _ => ?_) | with_reducible refine Grd_split (fun _ => ?_) (fun _ => ?_) | with_reducible refine Grd_split' (fun _ => ?_) (fun _ => ?_) | with_reducible refine Val_if ?_ ?_ | with_reducible refine Val_unless ?_ ?_ | (with_reducible refine Efx_app ?_ ?_; (simp only [decide_eq_true_eq, List.length_append, List.length_map, List.length_cons, List.length_nil, List.length_take, List.length_replicate]; omega)) | (with_reducible refine Efx_makes ?_ ?_; (simp only [decide_eq_true_eq]; omega)) | ((with_reducible refine vc_of_drawQ T_ok follows_ok ?_ ?_ ?_); rfl; kernel_rfl) | ((with_reducible refine vc_of_drawL T_ok follows_ok ?_ ?_); kernel_rfl) | ((with_reducible refine Ldk_intro ?_ ?_); rfl) | (with_reducible refine EfxD_app ?_ ?_; (simp only [decide_eq_true_eq, List.length_append, List.length_map, List.length_cons, List.length_nil, List.length_take, List.length_replicate]; omega)) | ((with_reducible refine acall_inE ?_); (refine ⟨_, (by first | exact (ret_l24Ask _ _ _ hn hl _ _ _ hn' hl' _)), (by exact rfl), ?_⟩)) | simp only [push_cast, ↓reduceIte, Nat.left_eq_add, Nat.add_eq_left, Nat.reduceAdd, Nat.reduceSub, Nat.reduceMul, Nat.reduceLT, Nat.reduceLeDiff, Nat.reduceEqDiff, Nat.reduceDiv, Int.reduceNeg, Int.reduceEq, Int.reduceLT, Int.reduceLE, Int.reduceToNat, Nat.succ_eq_add_one, reduceCtorEq, decide_true, decide_false, true_and, and_true, ↓Int.cast_ofNat_Int, ne_eq, not_true_eq_false, not_false_eq_true, hc, hv] | omega | exact nl_of (by assumption) (by assumption)
set_option maxHeartbeats 2000000 in
theorem ret_FnExactOpenWaste (nl : Bool) (rows : List (List CV)) (hl : rows.length ≤ 9223372036854775807) (hn : nl = true → rows = []) (h : ∀ r ∈ rows, Okl [.str, .int .i64, .int .i64, .int .i64] r)
    (nl2 : Bool) (rows2 : List (List CV)) (hl2 : rows2.length ≤ 9223372036854775807) (hn2 : nl2 = true → rows2 = []) (h2 : ∀ r ∈ rows2, Okl [.int .i64] r) (p : Int) (_ : IntKind.min .i64 ≤ p) (_ : p ≤ IntKind.max .i64) :
    Ret Try.prog 14 none [.c (.sl nl false 4 rows), .c (.sl nl2 false 1 rows2), iv p] [] (.c (bc true)) := by
  obtain ⟨bs, rfl⟩ := bonds_of h
  obtain ⟨xs, rfl, _⟩ := ints_of h2
  rw [List.length_map] at hl hl2
  have hn' : nl = true → bs = [] := fun e => by simpa using hn e
  have hn2' : nl2 = true → xs = [] := fun e => by simpa using hn2 e
  refine Ret.intro (rs := [.tmp 6]) T_ok Try.func14 rfl rfl Try.ntmps14 rfl (by simp [AV.lo]) (fun E => vc_sound T_ok _ ?_)
  repeat' first | with_reducible refine Cnd_if (fun _ => ?_) (fun _ => ?_) | with_reducible refine Cnd_split (fun _ => ?_) (fun _ => ?_) | with_reducible refine Grd_if (fun _ => ?_) (fun _ => ?_) | with_reducible refine Grd_if' (fun _ => ?_) (fun _ => ?_) | with_reducible refine Grd_split (fun _ => ?_) (fun _ => ?_) | with_reducible refine Grd_split' (fun _ => ?_) (fun _ => ?_) | with_reducible refine Val_if ?_ ?_ | with_reducible refine Val_unless ?_ ?_ | (with_reducible refine Efx_app ?_ ?_; (simp only [decide_eq_true_eq, List.length_append, List.length_map, List.length_cons, List.length_nil, List.length_take, List.length_replicate]; omega)) | (with_reducible refine Efx_makes ?_ ?_; (simp only [decide_eq_true_eq]; omega)) | ((with_reducible refine vc_of_drawQ T_ok follows_ok ?_ ?_ ?_); rfl; kernel_rfl) | ((with_reducible refine vc_of_drawL T_ok follows_ok ?_ ?_); kernel_rfl) | ((with_reducible refine Ldk_intro ?_ ?_); rfl) | (with_reducible refine EfxD_app ?_ ?_; (simp only [decide_eq_true_eq, List.length_append, List.length_map, List.length_cons, List.length_nil, List.length_take, List.length_replicate]; omega)) | ((with_reducible refine acall_inE ?_); (refine ⟨_, (by first | exact (ret_szBondS _ _ _ hn' hl _)), (by exact rfl), ?_⟩)) | simp only [push_cast, ↓reduceIte, Nat.left_eq_add, Nat.add_eq_left, Nat.reduceAdd, Nat.reduceSub, Nat.reduceMul, Nat.reduceLT, Nat.reduceLeDiff, Nat.reduceEqDiff, Nat.reduceDiv, Int.reduceNeg, Int.reduceEq, Int.reduceLT, Int.reduceLE, Int.reduceToNat, Nat.succ_eq_add_one, reduceCtorEq, decide_true, decide_false, true_and, and_true, ↓Int.cast_ofNat_Int, ne_eq, not_true_eq_false, not_false_eq_true, *] | omega | exact nl_of (by assumption) (by assumption)
  have c1 : ¬ szS 1048576 bs < 0 := ‹_›
  have hlen := szS_ge hl c1
  have hlen2 : xs.length ≤ 1048576 := by omega
  clear c1
  repeat' first | with_reducible refine Cnd_if (fun _ => ?_) (fun _ => ?_) | with_reducible refine Cnd_split (fun _ => ?_) (fun _ => ?_) | with_reducible refine Grd_if (fun _ => ?_) (fun _ => ?_) | with_reducible refine Grd_if' (fun _ => ?_) (fun _ => ?_) | with_reducible refine Grd_split (fun _ => ?_) (fun _ => ?_) | with_reducible refine Grd_split' (fun _ => ?_) (fun _ => ?_) | with_reducible refine Val_if ?_ ?_ | with_reducible refine Val_unless ?_ ?_ | (with_reducible refine Efx_app ?_ ?_; (simp only [decide_eq_true_eq, List.length_append, List.length_map, List.length_cons, List.length_nil, List.length_take, List.length_replicate]; omega)) | (with_reducible refine Efx_makes ?_ ?_; (simp only [decide_eq_true_eq]; omega)) | ((with_reducible refine vc_of_drawQ T_ok follows_ok ?_ ?_ ?_); rfl; kernel_rfl) | ((with_reducible refine vc_of_drawL T_ok follows_ok ?_ ?_); kernel_rfl) | ((with_reducible refine Ldk_intro ?_ ?_); rfl) | (with_reducible refine EfxD_app ?_ ?_; (simp only [decide_eq_true_eq, List.length_append, List.length_map, List.length_cons, List.length_nil, List.length_take, List.length_replicate]; omega)) | ((with_reducible refine acall_inE ?_); (refine ⟨_, (by first | exact (ret_toBondS _ _ _ hn' hlen) | exact (ret_toInt64S _ _ _ hn2' hlen2)), (by exact rfl), ?_⟩)) | ((with_reducible refine acall_lookE ?_); (refine ⟨_, (by repeat' first | exact snapArgs_nil | apply snapArgs_cons | exact snapA_c _ | exact snapA_fn0 _ | exact snap_lsl rfl (by simp) | exact snap_lsl (by simp only [objsOf_cons, upd_apply, ↓reduceIte, *]; rfl) (by simp [*])), _, (by first | exact (ret_sOpenWaste _ _ _ (fun h => by cases h) hlen _ _ _ (fun h => by cases h) hlen2 _) | exact (ret_iOpenWaste _ _ _ (fun h => by cases h) hlen _ _ _ (fun h => by cases h) hlen2 _) | exact (ret_eqBondS _ _ _ (fun h => by cases h) hlen) | exact (ret_eqInt64S _ _ _ _ _ _ (fun h => by cases h) (fun h => by cases h) hl2)), (by exact rfl), ?_⟩)) | simp only [push_cast, ↓reduceIte, Nat.left_eq_add, Nat.add_eq_left, Nat.reduceAdd, Nat.reduceSub, Nat.reduceMul, Nat.reduceLT, Nat.reduceLeDiff, Nat.reduceEqDiff, Nat.reduceDiv, Int.reduceNeg, Int.reduceEq, Int.reduceLT, Int.reduceLE, Int.reduceToNat, Nat.succ_eq_add_one, reduceCtorEq, decide_true, decide_false, true_and, and_true, ↓Int.cast_ofNat_Int, ne_eq, not_true_eq_false, not_false_eq_true, *, same_self] | omega | exact nl_of (by assumption) (by assumption)
end Go.Proofs.Ytdglnjgjonbfbaa.Fw
