/- Contracts of the functions on species, veneers and single losses. No condition. -/
import Derived.Test.YtdglnjgjonbfbaaBaseD
namespace Go.Proofs.Ytdglnjgjonbfbaa.Fw
open Go.RowKit
set_option linter.unusedSimpArgs false
set_option linter.unusedVariables false
set_option maxRecDepth 100000
def spNames : List ByteArray := [⟨#[97, 115, 104]⟩, ⟨#[98, 101, 101, 99, 104]⟩, ⟨#[98, 105, 114, 99, 104]⟩, ⟨#[99, 104, 101, 114, 114, 121]⟩, ⟨#[101, 98, 111, 110, 121]⟩, ⟨#[104, 111, 108, 108, 121]⟩, ⟨#[109, 97, 112, 108, 101]⟩, ⟨#[111, 97, 107]⟩, ⟨#[114, 111, 115, 101, 119, 111, 111, 100]⟩, ⟨#[119, 97, 108, 110, 117, 116]⟩]
def spTable : List (Int × Int × Int) := [(20, 40, 310), (35, 45, 410), (15, 33, 280), (50, 36, 240), (95, 85, 270), (5, 35, 370), (10, 42, 290), (40, 40, 330), (80, 60, 220), (70, 38, 260)]
def strRow (x : ByteArray) : List CV := [sc x]
instance : Inhabited ByteArray := ⟨⟨#[]⟩⟩
def tripleRow (x : Int × Int × Int) : List CV := [.sl false false 1 [[ic x.1], [ic x.2.1], [ic x.2.2]]]
theorem ret_l07Names : Ret Try.prog 155 none [] [] (.own 9 1 (spNames.map strRow)) := by
  refine Ret.intro (rs := [.tmp 0]) T_ok Try.func155 rfl rfl Try.ntmps155 rfl (by simp [AV.lo]) (fun E => vc_sound T_ok _ ?_)
  repeat' first | with_reducible refine Cnd_if (fun _ => ?_) (fun _ => ?_) | with_reducible refine Cnd_split (fun _ => ?_) (fun _ => ?_) | with_reducible refine Grd_if (fun _ => ?_) (fun _ => ?_) | with_reducible refine Grd_if' (fun _ => ?_) (fun _ => ?_) | with_reducible refine Grd_split (fun _ => ?_) (fun _ => ?_) | with_reducible refine Grd_split' (fun _ => ?_) (fun _ => ?_) | with_reducible refine Val_if ?_ ?_ | with_reducible refine Val_unless ?_ ?_ | (with_reducible refine Efx_makes ?_ ?_; (simp only [decide_eq_true_eq]; omega)) | (with_reducible refine vc_of_draw T_ok follows_ok ?_ ?_; kernel_rfl) | simp only [push_cast, ↓reduceIte, Nat.reduceAdd, Nat.reduceSub, Nat.reduceMul, Nat.reduceLT, Nat.reduceLeDiff, Nat.reduceEqDiff, Nat.reduceDiv, Int.reduceNeg, Int.reduceEq, Int.reduceLT, Int.reduceLE, Int.reduceToNat, Nat.succ_eq_add_one, reduceCtorEq, decide_true, decide_false, true_and, and_true, ↓Int.cast_ofNat_Int, ne_eq, not_true_eq_false, not_false_eq_true, *] | omega | exact nl_of (by assumption) (by assumption)
  exact ⟨rfl, rfl⟩
theorem ret_l07Table : Ret Try.prog 140 none [] [] (.own 29 1 (spTable.map tripleRow)) := by
  refine Ret.intro (rs := [.tmp 0]) T_ok Try.func140 rfl rfl Try.ntmps140 rfl (by simp [AV.lo]) (fun E => vc_sound T_ok _ ?_)
  repeat' first | with_reducible refine Cnd_if (fun _ => ?_) (fun _ => ?_) | with_reducible refine Cnd_split (fun _ => ?_) (fun _ => ?_) | with_reducible refine Grd_if (fun _ => ?_) (fun _ => ?_) | with_reducible refine Grd_if' (fun _ => ?_) (fun _ => ?_) | with_reducible refine Grd_split (fun _ => ?_) (fun _ => ?_) | with_reducible refine Grd_split' (fun _ => ?_) (fun _ => ?_) | with_reducible refine Val_if ?_ ?_ | with_reducible refine Val_unless ?_ ?_ | (with_reducible refine Efx_makes ?_ ?_; (simp only [decide_eq_true_eq]; omega)) | (with_reducible refine vc_of_draw T_ok follows_ok ?_ ?_; kernel_rfl) | simp only [push_cast, ↓reduceIte, Nat.reduceAdd, Nat.reduceSub, Nat.reduceMul, Nat.reduceLT, Nat.reduceLeDiff, Nat.reduceEqDiff, Nat.reduceDiv, Int.reduceNeg, Int.reduceEq, Int.reduceLT, Int.reduceLE, Int.reduceToNat, Nat.succ_eq_add_one, reduceCtorEq, decide_true, decide_false, true_and, and_true, ↓Int.cast_ofNat_Int, ne_eq, not_true_eq_false, not_false_eq_true, *] | omega | exact nl_of (by assumption) (by assumption)
  exact ⟨rfl, rfl⟩
def spFind (n : ByteArray) : Int := ixOf (fun i => decide (spNames.getD i default = n)) 10
theorem ret_l07Find (n : ByteArray) : Ret Try.prog 139 none [sv n] [] (.c (ic (spFind n))) := by
  refine Ret.intro (rs := [.tmp 2]) T_ok Try.func139 rfl rfl Try.ntmps139 rfl (by simp [AV.lo]) (fun E => vc_sound T_ok _ ?_)
  repeat' first | with_reducible refine Cnd_if (fun _ => ?_) (fun _ => ?_) | with_reducible refine Cnd_split (fun _ => ?_) (fun _ => ?_) | with_reducible refine Grd_if (fun _ => ?_) (fun _ => ?_) | with_reducible refine Grd_if' (fun _ => ?_) (fun _ => ?_) | with_reducible refine Grd_split (fun _ => ?_) (fun _ => ?_) | with_reducible refine Grd_split' (fun _ => ?_) (fun _ => ?_) | with_reducible refine Val_if ?_ ?_ | with_reducible refine Val_unless ?_ ?_ | (with_reducible refine Efx_makes ?_ ?_; (simp only [decide_eq_true_eq]; omega)) | (with_reducible refine vc_of_draw T_ok follows_ok ?_ ?_; kernel_rfl) | ((with_reducible refine acall_inE ?_); (refine ⟨_, (by first | exact ret_l07Names), (by exact rfl), ?_⟩)) | simp only [push_cast, ↓reduceIte, Nat.reduceAdd, Nat.reduceSub, Nat.reduceMul, Nat.reduceLT, Nat.reduceLeDiff, Nat.reduceEqDiff, Nat.reduceDiv, Int.reduceNeg, Int.reduceEq, Int.reduceLT, Int.reduceLE, Int.reduceToNat, Nat.succ_eq_add_one, reduceCtorEq, decide_true, decide_false, true_and, and_true, ↓Int.cast_ofNat_Int, ne_eq, not_true_eq_false, not_false_eq_true, *] | omega | exact nl_of (by assumption) (by assumption)
  refine vc_of_loop T_ok (ι := {i : Nat // i ≤ spNames.length ∧ ∀ j, j < i → (!decide (spNames.getD j default = n)) = true}) (fun i => ⟨sv n :: .junk :: .junk :: .lsl 2 1 0 spNames.length :: iv i.1 :: List.replicate 14 .junk, objsOf [(2, .arr 9 1 (spNames.map strRow))], 3⟩) (fun i => spNames.length - i.1) ⟨0, by simp⟩ ?_ ?_
  · refine Le.of (by repeat' first | exact trivial | refine ⟨Or.inr rfl, ?_⟩ | refine ⟨Or.inl rfl, ?_⟩) (by simp [AV.lo]) (by simp [leO, objsOf, upd, AObj.lo, AV.lo]) (by omega)
  · rintro ⟨i, hi, hall⟩
    have e0 : i < spNames.length → IntKind.wrap .i64 (↑i + 1) = ↑i + 1 := fun h => wrap_i64 (by omega) (by simp only [show spNames.length = 10 from rfl] at h; omega)
    repeat' first | with_reducible refine Cnd_if (fun _ => ?_) (fun _ => ?_) | with_reducible refine Cnd_split (fun _ => ?_) (fun _ => ?_) | with_reducible refine Grd_if (fun _ => ?_) (fun _ => ?_) | with_reducible refine Grd_if' (fun _ => ?_) (fun _ => ?_) | with_reducible refine Grd_split (fun _ => ?_) (fun _ => ?_) | with_reducible refine Grd_split' (fun _ => ?_) (fun _ => ?_) | with_reducible refine Val_if ?_ ?_ | with_reducible refine Val_unless ?_ ?_ | (with_reducible refine Efx_makes ?_ ?_; (simp only [decide_eq_true_eq]; omega)) | (with_reducible refine vc_of_draw T_ok follows_ok ?_ ?_; kernel_rfl) | simp only [push_cast, ↓reduceIte, Nat.reduceAdd, Nat.reduceSub, Nat.reduceMul, Nat.reduceLT, Nat.reduceLeDiff, Nat.reduceEqDiff, Nat.reduceDiv, Int.reduceNeg, Int.reduceEq, Int.reduceLT, Int.reduceLE, Int.reduceToNat, Nat.succ_eq_add_one, reduceCtorEq, decide_true, decide_false, true_and, and_true, ↓Int.cast_ofNat_Int, ne_eq, not_true_eq_false, not_false_eq_true, *, rows_get, strRow] | omega | exact nl_of (by assumption) (by assumption)
    · rename_i hc
      rw [show spFind n = i from ixOf_at (show i < spNames.length from ‹_›) (by simpa using hc) hall]
    · rename_i hc
      refine ⟨⟨i + 1, by omega, below_succ hall (by simpa using hc)⟩, ?_, by simp only; omega⟩
      refine Le.of (by repeat' first | exact trivial | refine ⟨Or.inr rfl, ?_⟩ | refine ⟨Or.inl rfl, ?_⟩) (by simp [AV.lo]) (by simp [leO, objsOf, upd, AObj.lo, AV.lo]) (by omega)
    · rw [show spFind n = -1 from ixOf_none (i := i) (show spNames.length ≤ i by omega) hall]
def spData (n : ByteArray) : Int × Int × Int × Int :=
  if n = ⟨#[97, 115, 104]⟩ then (20, 40, 310, 0) else if n = ⟨#[98, 101, 101, 99, 104]⟩ then (35, 45, 410, 0) else if n = ⟨#[98, 105, 114, 99, 104]⟩ then (15, 33, 280, 0)
  else if n = ⟨#[99, 104, 101, 114, 114, 121]⟩ then (50, 36, 240, 0) else if n = ⟨#[101, 98, 111, 110, 121]⟩ then (95, 85, 270, 0) else if n = ⟨#[104, 111, 108, 108, 121]⟩ then (5, 35, 370, 0)
  else if n = ⟨#[109, 97, 112, 108, 101]⟩ then (10, 42, 290, 0) else if n = ⟨#[111, 97, 107]⟩ then (40, 40, 330, 0) else if n = ⟨#[114, 111, 115, 101, 119, 111, 111, 100]⟩ then (80, 60, 220, 0)
  else if n = ⟨#[119, 97, 108, 110, 117, 116]⟩ then (70, 38, 260, 0) else (0, 0, 0, 3)
theorem ret_SpeciesData (n : ByteArray) : Ret Try.prog 142 none [sv n] [] (.tup [.c (ic (spData n).1), .c (ic (spData n).2.1), .c (ic (spData n).2.2.1), .c (ic (spData n).2.2.2)]) := by
  refine Ret.intro (rs := [.tmp 2, .tmp 3, .tmp 4, .tmp 5]) T_ok Try.func142 rfl rfl Try.ntmps142 rfl (by simp [AV.lo]) (fun E => vc_sound T_ok _ ?_)
  repeat' first | with_reducible refine Cnd_if (fun _ => ?_) (fun _ => ?_) | with_reducible refine Cnd_split (fun _ => ?_) (fun _ => ?_) | with_reducible refine Grd_if (fun _ => ?_) (fun _ => ?_) | with_reducible refine Grd_if' (fun _ => ?_) (fun _ => ?_) | with_reducible refine Grd_split (fun _ => ?_) (fun _ => ?_) | with_reducible refine Grd_split' (fun _ => ?_) (fun _ => ?_) | with_reducible refine Val_if ?_ ?_ | with_reducible refine Val_unless ?_ ?_ | (with_reducible refine Efx_makes ?_ ?_; (simp only [decide_eq_true_eq]; omega)) | (with_reducible refine vc_of_draw T_ok follows_ok ?_ ?_; kernel_rfl) | simp only [push_cast, ↓reduceIte, Nat.reduceAdd, Nat.reduceSub, Nat.reduceMul, Nat.reduceLT, Nat.reduceLeDiff, Nat.reduceEqDiff, Nat.reduceDiv, Int.reduceNeg, Int.reduceEq, Int.reduceLT, Int.reduceLE, Int.reduceToNat, Nat.succ_eq_add_one, reduceCtorEq, decide_true, decide_false, true_and, and_true, ↓Int.cast_ofNat_Int, ne_eq, not_true_eq_false, not_false_eq_true, *] | omega | exact nl_of (by assumption) (by assumption)
  all_goals simp [spData, *]
theorem ret_speciesShade (n : ByteArray) : Ret Try.prog 114 none [sv n] [] (.tup [.c (ic (spData n).1), .c (bc (decide ((spData n).2.2.2 = 0)))]) := by
  refine Ret.intro (rs := [.tmp 2, .tmp 3]) T_ok Try.func114 rfl rfl Try.ntmps114 rfl (by simp [AV.lo]) (fun E => vc_sound T_ok _ ?_)
  repeat' first | with_reducible refine Cnd_if (fun _ => ?_) (fun _ => ?_) | with_reducible refine Cnd_split (fun _ => ?_) (fun _ => ?_) | with_reducible refine Grd_if (fun _ => ?_) (fun _ => ?_) | with_reducible refine Grd_if' (fun _ => ?_) (fun _ => ?_) | with_reducible refine Grd_split (fun _ => ?_) (fun _ => ?_) | with_reducible refine Grd_split' (fun _ => ?_) (fun _ => ?_) | with_reducible refine Val_if ?_ ?_ | with_reducible refine Val_unless ?_ ?_ | (with_reducible refine Efx_makes ?_ ?_; (simp only [decide_eq_true_eq]; omega)) | (with_reducible refine vc_of_draw T_ok follows_ok ?_ ?_; kernel_rfl) | ((with_reducible refine acall_inE ?_); (refine ⟨_, (by first | exact ret_SpeciesData _), (by exact rfl), ?_⟩)) | simp only [push_cast, ↓reduceIte, Nat.reduceAdd, Nat.reduceSub, Nat.reduceMul, Nat.reduceLT, Nat.reduceLeDiff, Nat.reduceEqDiff, Nat.reduceDiv, Int.reduceNeg, Int.reduceEq, Int.reduceLT, Int.reduceLE, Int.reduceToNat, Nat.succ_eq_add_one, reduceCtorEq, decide_true, decide_false, true_and, and_true, ↓Int.cast_ofNat_Int, ne_eq, not_true_eq_false, not_false_eq_true, *] | omega | exact nl_of (by assumption) (by assumption)
theorem ret_l07Grain (a : Int) : Ret Try.prog 141 none [iv a] [] (.c (bc (inB a 0 179))) := by
  refine Ret.intro (rs := [.tmp 2]) T_ok Try.func141 rfl rfl Try.ntmps141 rfl (by simp [AV.lo]) (fun E => vc_sound T_ok _ ?_)
  repeat' first | with_reducible refine Cnd_if (fun _ => ?_) (fun _ => ?_) | with_reducible refine Cnd_split (fun _ => ?_) (fun _ => ?_) | with_reducible refine Grd_if (fun _ => ?_) (fun _ => ?_) | with_reducible refine Grd_if' (fun _ => ?_) (fun _ => ?_) | with_reducible refine Grd_split (fun _ => ?_) (fun _ => ?_) | with_reducible refine Grd_split' (fun _ => ?_) (fun _ => ?_) | with_reducible refine Val_if ?_ ?_ | with_reducible refine Val_unless ?_ ?_ | (with_reducible refine Efx_makes ?_ ?_; (simp only [decide_eq_true_eq]; omega)) | (with_reducible refine vc_of_draw T_ok follows_ok ?_ ?_; kernel_rfl) | ((with_reducible refine acall_inE ?_); (refine ⟨_, (by first | exact ret_l00In _ _ _), (by exact rfl), ?_⟩)) | simp only [push_cast, ↓reduceIte, Nat.reduceAdd, Nat.reduceSub, Nat.reduceMul, Nat.reduceLT, Nat.reduceLeDiff, Nat.reduceEqDiff, Nat.reduceDiv, Int.reduceNeg, Int.reduceEq, Int.reduceLT, Int.reduceLE, Int.reduceToNat, Nat.succ_eq_add_one, reduceCtorEq, decide_true, decide_false, true_and, and_true, ↓Int.cast_ofNat_Int, ne_eq, not_true_eq_false, not_false_eq_true, *] | omega | exact nl_of (by assumption) (by assumption)
def spShade (n : ByteArray) : Int := (spTable.getD (spFind n).toNat default).1
theorem spFind_range (n : ByteArray) : -1 ≤ spFind n ∧ spFind n < 10 := by
  unfold spFind ixOf
  split
  · rename_i i h
    have := List.mem_of_find?_eq_some h
    have := List.mem_range.1 this
    omega
  · omega
def veneerOk (n : ByteArray) (a b : Int) : Bool := decide (0 ≤ spFind n) && (inB a 0 100 && (inB a (spShade n - 15) (spShade n + 15) && inB b 0 179))
theorem spShade_range (n : ByteArray) : 0 ≤ spShade n ∧ spShade n ≤ 95 := by
  have h := spFind_range n
  unfold spShade
  have h2 : (spFind n).toNat < 10 := by omega
  generalize (spFind n).toNat = k at *
  match k, h2 with
  | 0, _ | 1, _ | 2, _ | 3, _ | 4, _ | 5, _ | 6, _ | 7, _ | 8, _ | 9, _ => decide
theorem ret_l07Ok (n : ByteArray) (a b : Int) (rest : List CV) : Ret Try.prog 113 none [.c (.rp (sc n :: ic a :: ic b :: rest))] [] (.c (bc (veneerOk n a b))) := by
  refine Ret.intro (rs := [.tmp 2]) T_ok Try.func113 rfl rfl Try.ntmps113 rfl (by simp [AV.lo]) (fun E => vc_sound T_ok _ ?_)
  have hr := spFind_range n
  have hs := spShade_range n
  have e1 : IntKind.wrap .i64 (spShade n - 15) = spShade n - 15 := wrap_i64 (by omega) (by omega)
  have e2 : IntKind.wrap .i64 (spShade n + 15) = spShade n + 15 := wrap_i64 (by omega) (by omega)
  have hg : (spFind n).toNat < spTable.length := show _ < 10 by omega
  have hx : ¬ spFind n < 0 → (0 ≤ spFind n ∧ spFind n < (spTable.length : Int)) := fun h => ⟨by omega, show _ < ((10 : Nat) : Int) by omega⟩
  have e3 : (spTable.getD (spFind n).toNat default).1 = spShade n := rfl
  repeat' first | with_reducible refine Cnd_if (fun _ => ?_) (fun _ => ?_) | with_reducible refine Cnd_split (fun _ => ?_) (fun _ => ?_) | with_reducible refine Grd_if (fun _ => ?_) (fun _ => ?_) | with_reducible refine Grd_if' (fun _ => ?_) (fun _ => ?_) | with_reducible refine Grd_split (fun _ => ?_) (fun _ => ?_) | with_reducible refine Grd_split' (fun _ => ?_) (fun _ => ?_) | with_reducible refine Val_if ?_ ?_ | with_reducible refine Val_unless ?_ ?_ | (with_reducible refine Efx_makes ?_ ?_; (simp only [decide_eq_true_eq]; omega)) | (with_reducible refine vc_of_draw T_ok follows_ok ?_ ?_; kernel_rfl) | ((with_reducible refine acall_inE ?_); (refine ⟨_, (by first | exact ret_l07Find _ | exact ret_l00In _ _ _ | exact ret_l07Table | exact ret_l07Grain _), (by exact rfl), ?_⟩)) | simp only [push_cast, ↓reduceIte, Nat.reduceAdd, Nat.reduceSub, Nat.reduceMul, Nat.reduceLT, Nat.reduceLeDiff, Nat.reduceEqDiff, Nat.reduceDiv, Int.reduceNeg, Int.reduceEq, Int.reduceLT, Int.reduceLE, Int.reduceToNat, Nat.succ_eq_add_one, reduceCtorEq, decide_true, decide_false, true_and, and_true, ↓Int.cast_ofNat_Int, ne_eq, not_true_eq_false, not_false_eq_true, *, rows_get, tripleRow] | omega | exact nl_of (by assumption) (by assumption)
  all_goals simp_all [veneerOk]
  intros; omega
theorem spData_eq (n : ByteArray) : ((spData n).2.2.2 = 0 ↔ 0 ≤ spFind n) ∧ (0 ≤ spFind n → (spData n).1 = spShade n) := by
  unfold spData
  split
  · subst_vars; decide
  split
  · subst_vars; decide
  split
  · subst_vars; decide
  split
  · subst_vars; decide
  split
  · subst_vars; decide
  split
  · subst_vars; decide
  split
  · subst_vars; decide
  split
  · subst_vars; decide
  split
  · subst_vars; decide
  split
  · subst_vars; decide
  have : spFind n = -1 := ixOf_none (i := 10) (by omega) (fun j hj => by
    simp only [Bool.not_eq_true', decide_eq_false_iff_not]
    match j, hj with
    | 0, _ | 1, _ | 2, _ | 3, _ | 4, _ | 5, _ | 6, _ | 7, _ | 8, _ | 9, _ => exact fun e => by simp_all [spNames])
  rw [this]
  simp
theorem spKey (n : ByteArray) (a : Int) (h1 : inB a 0 100 = true) (h2 : 0 ≤ spFind n) : inB (IntKind.wrap .i64 (a - (spData n).1)) (-15) 15 = inB a (spShade n - 15) (spShade n + 15) := by
  have hs := spShade_range n
  rw [(spData_eq n).2 h2]
  simp only [inB, Bool.and_eq_true, decide_eq_true_eq] at h1
  rw [wrap_i64 (by omega) (by omega)]
  rw [Bool.eq_iff_iff]
  simp only [inB, Bool.and_eq_true, decide_eq_true_eq]
  omega
theorem ret_iValidVeneer (n : ByteArray) (a b : Int) : Ret Try.prog 79 none [.agg [sv n, iv a, iv b]] [] (.c (bc (veneerOk n a b))) := by
  refine Ret.intro (rs := [.tmp 2]) T_ok Try.func79 rfl rfl Try.ntmps79 rfl (by simp [AV.lo]) (fun E => vc_sound T_ok _ ?_)
  repeat' first | with_reducible refine Cnd_if (fun _ => ?_) (fun _ => ?_) | with_reducible refine Cnd_split (fun _ => ?_) (fun _ => ?_) | with_reducible refine Grd_if (fun _ => ?_) (fun _ => ?_) | with_reducible refine Grd_if' (fun _ => ?_) (fun _ => ?_) | with_reducible refine Grd_split (fun _ => ?_) (fun _ => ?_) | with_reducible refine Grd_split' (fun _ => ?_) (fun _ => ?_) | with_reducible refine Val_if ?_ ?_ | with_reducible refine Val_unless ?_ ?_ | (with_reducible refine Efx_makes ?_ ?_; (simp only [decide_eq_true_eq]; omega)) | (with_reducible refine vc_of_draw T_ok follows_ok ?_ ?_; kernel_rfl) | ((with_reducible refine acall_inE ?_); (refine ⟨_, (by first | exact ret_speciesShade _ | exact ret_within _ _ _), (by exact rfl), ?_⟩)) | simp only [push_cast, ↓reduceIte, Nat.reduceAdd, Nat.reduceSub, Nat.reduceMul, Nat.reduceLT, Nat.reduceLeDiff, Nat.reduceEqDiff, Nat.reduceDiv, Int.reduceNeg, Int.reduceEq, Int.reduceLT, Int.reduceLE, Int.reduceToNat, Nat.succ_eq_add_one, reduceCtorEq, decide_true, decide_false, true_and, and_true, ↓Int.cast_ofNat_Int, ne_eq, not_true_eq_false, not_false_eq_true, *] | omega | exact nl_of (by assumption) (by assumption)
  · rename_i h1 h2 h3
    have h1 := (spData_eq n).1.1 h1
    rw [spKey n a h2 h1] at h3
    simp [veneerOk, h1, h2, h3]
  · rename_i h1 h2 h3
    have h1 := (spData_eq n).1.1 h1
    rw [spKey n a h2 h1] at h3
    simp [veneerOk, h1, h2, h3]
  · simp [veneerOk, *]
  · rename_i h1
    have h1 : ¬ 0 ≤ spFind n := fun h => h1 ((spData_eq n).1.2 h)
    simp only [veneerOk, decide_eq_false h1, Bool.false_and]
def lossOk (b : Loss) : Bool := isName b.name && (veneerOk b.species b.shade b.grain && (inB b.area 1 400000000 && (inB b.priority 1 9 && (inB b.cost 0 1000000 && inB b.minutes 0 10000))))
theorem ret_l25One (b : Loss) : Ret Try.prog 77 none [.c (.rp (lossRow b))] [] (.c (bc (lossOk b))) := by
  refine Ret.intro (rs := [.tmp 2]) T_ok Try.func77 rfl rfl Try.ntmps77 rfl (by simp [AV.lo]) (fun E => vc_sound T_ok _ ?_)
  repeat' first | with_reducible refine Cnd_if (fun _ => ?_) (fun _ => ?_) | with_reducible refine Cnd_split (fun _ => ?_) (fun _ => ?_) | with_reducible refine Grd_if (fun _ => ?_) (fun _ => ?_) | with_reducible refine Grd_if' (fun _ => ?_) (fun _ => ?_) | with_reducible refine Grd_split (fun _ => ?_) (fun _ => ?_) | with_reducible refine Grd_split' (fun _ => ?_) (fun _ => ?_) | with_reducible refine Val_if ?_ ?_ | with_reducible refine Val_unless ?_ ?_ | (with_reducible refine Efx_makes ?_ ?_; (simp only [decide_eq_true_eq]; omega)) | (with_reducible refine vc_of_draw T_ok follows_ok ?_ ?_; kernel_rfl) | ((with_reducible refine acall_inE ?_); (refine ⟨_, (by first | exact ret_l01Name _ | exact ret_l07Ok _ _ _ _ | exact ret_l00In _ _ _), (by exact rfl), ?_⟩)) | simp only [push_cast, ↓reduceIte, Nat.reduceAdd, Nat.reduceSub, Nat.reduceMul, Nat.reduceLT, Nat.reduceLeDiff, Nat.reduceEqDiff, Nat.reduceDiv, Int.reduceNeg, Int.reduceEq, Int.reduceLT, Int.reduceLE, Int.reduceToNat, Nat.succ_eq_add_one, reduceCtorEq, decide_true, decide_false, true_and, and_true, ↓Int.cast_ofNat_Int, ne_eq, not_true_eq_false, not_false_eq_true, *, lossRow] | omega | exact nl_of (by assumption) (by assumption)
  all_goals simp [lossOk, *]
theorem ret_iValidLoss (b : Loss) : Ret Try.prog 39 none [.agg [sv b.name, sv b.species, iv b.shade, iv b.grain, iv b.area, iv b.priority, iv b.cost, iv b.minutes]] [] (.c (bc (lossOk b))) := by
  refine Ret.intro (rs := [.tmp 2]) T_ok Try.func39 rfl rfl Try.ntmps39 rfl (by simp [AV.lo]) (fun E => vc_sound T_ok _ ?_)
  repeat' first | with_reducible refine Cnd_if (fun _ => ?_) (fun _ => ?_) | with_reducible refine Cnd_split (fun _ => ?_) (fun _ => ?_) | with_reducible refine Grd_if (fun _ => ?_) (fun _ => ?_) | with_reducible refine Grd_if' (fun _ => ?_) (fun _ => ?_) | with_reducible refine Grd_split (fun _ => ?_) (fun _ => ?_) | with_reducible refine Grd_split' (fun _ => ?_) (fun _ => ?_) | with_reducible refine Val_if ?_ ?_ | with_reducible refine Val_unless ?_ ?_ | (with_reducible refine Efx_makes ?_ ?_; (simp only [decide_eq_true_eq]; omega)) | (with_reducible refine vc_of_draw T_ok follows_ok ?_ ?_; kernel_rfl) | ((with_reducible refine acall_inE ?_); (refine ⟨_, (by first | exact ret_IsName _ | exact ret_iValidVeneer _ _ _ | exact ret_within _ _ _), (by exact rfl), ?_⟩)) | simp only [push_cast, ↓reduceIte, Nat.reduceAdd, Nat.reduceSub, Nat.reduceMul, Nat.reduceLT, Nat.reduceLeDiff, Nat.reduceEqDiff, Nat.reduceDiv, Int.reduceNeg, Int.reduceEq, Int.reduceLT, Int.reduceLE, Int.reduceToNat, Nat.succ_eq_add_one, reduceCtorEq, decide_true, decide_false, true_and, and_true, ↓Int.cast_ofNat_Int, ne_eq, not_true_eq_false, not_false_eq_true, *] | omega | exact nl_of (by assumption) (by assumption)
  all_goals simp [lossOk, *]
theorem ret_sValidLoss (b : Loss) : Ret Try.prog 37 none [.agg [sv b.name, sv b.species, iv b.shade, iv b.grain, iv b.area, iv b.priority, iv b.cost, iv b.minutes]] [] (.c (bc (lossOk b))) := by
  refine Ret.intro (rs := [.tmp 2]) T_ok Try.func37 rfl rfl Try.ntmps37 rfl (by simp [AV.lo]) (fun E => vc_sound T_ok _ ?_)
  repeat' first | with_reducible refine Cnd_if (fun _ => ?_) (fun _ => ?_) | with_reducible refine Cnd_split (fun _ => ?_) (fun _ => ?_) | with_reducible refine Grd_if (fun _ => ?_) (fun _ => ?_) | with_reducible refine Grd_if' (fun _ => ?_) (fun _ => ?_) | with_reducible refine Grd_split (fun _ => ?_) (fun _ => ?_) | with_reducible refine Grd_split' (fun _ => ?_) (fun _ => ?_) | with_reducible refine Val_if ?_ ?_ | with_reducible refine Val_unless ?_ ?_ | (with_reducible refine Efx_makes ?_ ?_; (simp only [decide_eq_true_eq]; omega)) | (with_reducible refine vc_of_draw T_ok follows_ok ?_ ?_; kernel_rfl) | simp only [push_cast, ↓reduceIte, Nat.reduceAdd, Nat.reduceSub, Nat.reduceMul, Nat.reduceLT, Nat.reduceLeDiff, Nat.reduceEqDiff, Nat.reduceDiv, Int.reduceNeg, Int.reduceEq, Int.reduceLT, Int.reduceLE, Int.reduceToNat, Nat.succ_eq_add_one, reduceCtorEq, decide_true, decide_false, true_and, and_true, ↓Int.cast_ofNat_Int, ne_eq, not_true_eq_false, not_false_eq_true, *] | omega | exact nl_of (by assumption) (by assumption)
  refine acall_look rfl (ret_l25One b) rfl ?_
  repeat' first | with_reducible refine Cnd_if (fun _ => ?_) (fun _ => ?_) | with_reducible refine Cnd_split (fun _ => ?_) (fun _ => ?_) | with_reducible refine Grd_if (fun _ => ?_) (fun _ => ?_) | with_reducible refine Grd_if' (fun _ => ?_) (fun _ => ?_) | with_reducible refine Grd_split (fun _ => ?_) (fun _ => ?_) | with_reducible refine Grd_split' (fun _ => ?_) (fun _ => ?_) | with_reducible refine Val_if ?_ ?_ | with_reducible refine Val_unless ?_ ?_ | (with_reducible refine Efx_makes ?_ ?_; (simp only [decide_eq_true_eq]; omega)) | (with_reducible refine vc_of_draw T_ok follows_ok ?_ ?_; kernel_rfl) | simp only [push_cast, ↓reduceIte, Nat.reduceAdd, Nat.reduceSub, Nat.reduceMul, Nat.reduceLT, Nat.reduceLeDiff, Nat.reduceEqDiff, Nat.reduceDiv, Int.reduceNeg, Int.reduceEq, Int.reduceLT, Int.reduceLE, Int.reduceToNat, Nat.succ_eq_add_one, reduceCtorEq, decide_true, decide_false, true_and, and_true, ↓Int.cast_ofNat_Int, ne_eq, not_true_eq_false, not_false_eq_true, *] | omega | exact nl_of (by assumption) (by assumption)
def lossAt (bs : List Loss) (i : Nat) : Bool := lossOk (bs.getD i default) && (decide (i = 0) || strLt (bs.getD (i - 1) default).name (bs.getD i default).name)
def validLosses (bs : List Loss) : Bool := allN (lossAt bs) bs.length && decide (bs.length ≤ 16)
set_option maxHeartbeats 1000000 in
theorem ret_iValidLosses (nl f : Bool) (bs : List Loss) (hn : nl = true → bs = []) (hl : bs.length ≤ 1048576) : Ret Try.prog 53 none [.c (lossesV nl f bs)] [] (.c (bc (validLosses bs))) := by
  refine Ret.intro (rs := [.tmp 2]) T_ok Try.func53 rfl rfl Try.ntmps53 rfl (by simp [AV.lo]) (fun E => vc_sound T_ok _ ?_)
  repeat' first | with_reducible refine Cnd_if (fun _ => ?_) (fun _ => ?_) | with_reducible refine Cnd_split (fun _ => ?_) (fun _ => ?_) | with_reducible refine Grd_if (fun _ => ?_) (fun _ => ?_) | with_reducible refine Grd_if' (fun _ => ?_) (fun _ => ?_) | with_reducible refine Grd_split (fun _ => ?_) (fun _ => ?_) | with_reducible refine Grd_split' (fun _ => ?_) (fun _ => ?_) | with_reducible refine Val_if ?_ ?_ | with_reducible refine Val_unless ?_ ?_ | (with_reducible refine Efx_makes ?_ ?_; (simp only [decide_eq_true_eq]; omega)) | (with_reducible refine vc_of_draw T_ok follows_ok ?_ ?_; kernel_rfl) | simp only [push_cast, ↓reduceIte, Nat.reduceAdd, Nat.reduceSub, Nat.reduceMul, Nat.reduceLT, Nat.reduceLeDiff, Nat.reduceEqDiff, Nat.reduceDiv, Int.reduceNeg, Int.reduceEq, Int.reduceLT, Int.reduceLE, Int.reduceToNat, Nat.succ_eq_add_one, reduceCtorEq, decide_true, decide_false, true_and, and_true, ↓Int.cast_ofNat_Int, ne_eq, not_true_eq_false, not_false_eq_true, *] | omega | exact nl_of (by assumption) (by assumption)
  refine vc_of_loop T_ok (ι := {i : Nat // i ≤ bs.length ∧ ∀ j, j < i → lossAt bs j = true}) (fun i => ⟨.c (lossesV nl f bs) :: .junk :: .junk :: .junk :: .junk :: .c (lossesV nl f bs) :: iv bs.length :: iv i.1 :: List.replicate 26 .junk, objsOf [], 1⟩) (fun i => bs.length - i.1) ⟨0, by simp⟩ ?_ ?_
  · refine Le.of (by repeat' first | exact trivial | refine ⟨Or.inr rfl, ?_⟩ | refine ⟨Or.inl rfl, ?_⟩) (by simp [AV.lo]) (by simp [leO, objsOf, upd, AObj.lo, AV.lo]) (by omega)
  · rintro ⟨i, hi, hall⟩
    have e0 : i < bs.length → IntKind.wrap .i64 (↑i + 1) = ↑i + 1 := fun _ => wrap_i64 (by omega) (by omega)
    have e1 : (0 : Int) < ↑i → IntKind.wrap .i64 (↑i - 1) = ((i - 1 : Nat) : Int) := fun _ => by rw [wrap_i64 (by omega) (by omega)]; omega
    have e2 : i < bs.length → i - 1 < bs.length := fun _ => by omega
    repeat' first | with_reducible refine Cnd_if (fun _ => ?_) (fun _ => ?_) | with_reducible refine Cnd_split (fun _ => ?_) (fun _ => ?_) | with_reducible refine Grd_if (fun _ => ?_) (fun _ => ?_) | with_reducible refine Grd_if' (fun _ => ?_) (fun _ => ?_) | with_reducible refine Grd_split (fun _ => ?_) (fun _ => ?_) | with_reducible refine Grd_split' (fun _ => ?_) (fun _ => ?_) | with_reducible refine Val_if ?_ ?_ | with_reducible refine Val_unless ?_ ?_ | (with_reducible refine Efx_makes ?_ ?_; (simp only [decide_eq_true_eq]; omega)) | (with_reducible refine vc_of_draw T_ok follows_ok ?_ ?_; kernel_rfl) | ((with_reducible refine acall_inE ?_); (refine ⟨_, (by first | exact (ret_iValidLoss (bs.getD i default))), (by exact rfl), ?_⟩)) | simp only [push_cast, ↓reduceIte, Nat.reduceAdd, Nat.reduceSub, Nat.reduceMul, Nat.reduceLT, Nat.reduceLeDiff, Nat.reduceEqDiff, Nat.reduceDiv, Int.reduceNeg, Int.reduceEq, Int.reduceLT, Int.reduceLE, Int.reduceToNat, Nat.succ_eq_add_one, reduceCtorEq, decide_true, decide_false, true_and, and_true, ↓Int.cast_ofNat_Int, ne_eq, not_true_eq_false, not_false_eq_true, *, lossRow] | omega | exact nl_of (by assumption) (by assumption)
    all_goals first
      | (rw [show validLosses bs = false from by unfold validLosses; rw [allN_false (i := i) ‹_› (by simp_all [lossAt] <;> omega)]; rfl]; done)
      | (refine ⟨⟨i + 1, by omega, below_succ hall (by simp_all [lossAt] <;> omega)⟩, ?_, by simp only; omega⟩
         refine Le.of (by repeat' first | exact trivial | refine ⟨Or.inr rfl, ?_⟩ | refine ⟨Or.inl rfl, ?_⟩) (by simp [AV.lo]) (by simp [leO, objsOf, upd, AObj.lo, AV.lo]) (by omega))
      | (rw [show validLosses bs = decide (bs.length ≤ 16) from by unfold validLosses; rw [allN_true (i := i) (by omega) hall]; rfl]
         simp; omega)
set_option maxHeartbeats 1000000 in
theorem ret_l25Ok (nl f : Bool) (bs : List Loss) (hn : nl = true → bs = []) (hl : bs.length ≤ 1048576) : Ret Try.prog 103 none [.c (lossesV nl f bs)] [] (.c (bc (validLosses bs))) := by
  refine Ret.intro (rs := [.tmp 2]) T_ok Try.func103 rfl rfl Try.ntmps103 rfl (by simp [AV.lo]) (fun E => vc_sound T_ok _ ?_)
  repeat' first | with_reducible refine Cnd_if (fun _ => ?_) (fun _ => ?_) | with_reducible refine Cnd_split (fun _ => ?_) (fun _ => ?_) | with_reducible refine Grd_if (fun _ => ?_) (fun _ => ?_) | with_reducible refine Grd_if' (fun _ => ?_) (fun _ => ?_) | with_reducible refine Grd_split (fun _ => ?_) (fun _ => ?_) | with_reducible refine Grd_split' (fun _ => ?_) (fun _ => ?_) | with_reducible refine Val_if ?_ ?_ | with_reducible refine Val_unless ?_ ?_ | (with_reducible refine Efx_makes ?_ ?_; (simp only [decide_eq_true_eq]; omega)) | (with_reducible refine vc_of_draw T_ok follows_ok ?_ ?_; kernel_rfl) | simp only [push_cast, ↓reduceIte, Nat.reduceAdd, Nat.reduceSub, Nat.reduceMul, Nat.reduceLT, Nat.reduceLeDiff, Nat.reduceEqDiff, Nat.reduceDiv, Int.reduceNeg, Int.reduceEq, Int.reduceLT, Int.reduceLE, Int.reduceToNat, Nat.succ_eq_add_one, reduceCtorEq, decide_true, decide_false, true_and, and_true, ↓Int.cast_ofNat_Int, ne_eq, not_true_eq_false, not_false_eq_true, *] | omega | exact nl_of (by assumption) (by assumption)
  refine vc_of_loop T_ok (ι := {i : Nat // i ≤ bs.length ∧ ∀ j, j < i → lossAt bs j = true}) (fun i => ⟨.c (lossesV nl f bs) :: .junk :: .junk :: iv i.1 :: List.replicate 32 .junk, objsOf [], 1⟩) (fun i => bs.length - i.1) ⟨0, by simp⟩ ?_ ?_
  · refine Le.of (by repeat' first | exact trivial | refine ⟨Or.inr rfl, ?_⟩ | refine ⟨Or.inl rfl, ?_⟩) (by simp [AV.lo]) (by simp [leO, objsOf, upd, AObj.lo, AV.lo]) (by omega)
  · rintro ⟨i, hi, hall⟩
    have e0 : i < bs.length → IntKind.wrap .i64 (↑i + 1) = ↑i + 1 := fun _ => wrap_i64 (by omega) (by omega)
    have e1 : (0 : Int) < ↑i → IntKind.wrap .i64 (↑i - 1) = ((i - 1 : Nat) : Int) := fun _ => by rw [wrap_i64 (by omega) (by omega)]; omega
    have e2 : i < bs.length → i - 1 < bs.length := fun _ => by omega
    repeat' first | with_reducible refine Cnd_if (fun _ => ?_) (fun _ => ?_) | with_reducible refine Cnd_split (fun _ => ?_) (fun _ => ?_) | with_reducible refine Grd_if (fun _ => ?_) (fun _ => ?_) | with_reducible refine Grd_if' (fun _ => ?_) (fun _ => ?_) | with_reducible refine Grd_split (fun _ => ?_) (fun _ => ?_) | with_reducible refine Grd_split' (fun _ => ?_) (fun _ => ?_) | with_reducible refine Val_if ?_ ?_ | with_reducible refine Val_unless ?_ ?_ | (with_reducible refine Efx_makes ?_ ?_; (simp only [decide_eq_true_eq]; omega)) | (with_reducible refine vc_of_draw T_ok follows_ok ?_ ?_; kernel_rfl) | ((with_reducible refine acall_inE ?_); (refine ⟨_, (by first | exact (ret_l25One (bs.getD i default))), (by exact rfl), ?_⟩)) | simp only [push_cast, ↓reduceIte, Nat.reduceAdd, Nat.reduceSub, Nat.reduceMul, Nat.reduceLT, Nat.reduceLeDiff, Nat.reduceEqDiff, Nat.reduceDiv, Int.reduceNeg, Int.reduceEq, Int.reduceLT, Int.reduceLE, Int.reduceToNat, Nat.succ_eq_add_one, reduceCtorEq, decide_true, decide_false, true_and, and_true, ↓Int.cast_ofNat_Int, ne_eq, not_true_eq_false, not_false_eq_true, *, lossRow] | omega | exact nl_of (by assumption) (by assumption)
    all_goals first
      | (rw [show validLosses bs = false from by unfold validLosses; rw [allN_false (i := i) ‹_› (by simp_all [lossAt] <;> omega)]; rfl]; done)
      | (refine ⟨⟨i + 1, by omega, below_succ hall (by simp_all [lossAt] <;> omega)⟩, ?_, by simp only; omega⟩
         refine Le.of (by repeat' first | exact trivial | refine ⟨Or.inr rfl, ?_⟩ | refine ⟨Or.inl rfl, ?_⟩) (by simp [AV.lo]) (by simp [leO, objsOf, upd, AObj.lo, AV.lo]) (by omega))
      | (rw [show validLosses bs = decide (bs.length ≤ 16) from by unfold validLosses; rw [allN_true (i := i) (by omega) hall]; rfl]
         simp; omega)
theorem ret_sValidLosses (nl f : Bool) (bs : List Loss) (hn : nl = true → bs = []) (hl : bs.length ≤ 1048576) : Ret Try.prog 52 none [.c (lossesV nl f bs)] [] (.c (bc (validLosses bs))) := by
  refine Ret.intro (rs := [.tmp 2]) T_ok Try.func52 rfl rfl Try.ntmps52 rfl (by simp [AV.lo]) (fun E => vc_sound T_ok _ ?_)
  repeat' first | with_reducible refine Cnd_if (fun _ => ?_) (fun _ => ?_) | with_reducible refine Cnd_split (fun _ => ?_) (fun _ => ?_) | with_reducible refine Grd_if (fun _ => ?_) (fun _ => ?_) | with_reducible refine Grd_if' (fun _ => ?_) (fun _ => ?_) | with_reducible refine Grd_split (fun _ => ?_) (fun _ => ?_) | with_reducible refine Grd_split' (fun _ => ?_) (fun _ => ?_) | with_reducible refine Val_if ?_ ?_ | with_reducible refine Val_unless ?_ ?_ | (with_reducible refine Efx_makes ?_ ?_; (simp only [decide_eq_true_eq]; omega)) | (with_reducible refine vc_of_draw T_ok follows_ok ?_ ?_; kernel_rfl) | ((with_reducible refine acall_inE ?_); (refine ⟨_, (by first | exact ret_l25Ok _ _ _ hn hl), (by exact rfl), ?_⟩)) | simp only [push_cast, ↓reduceIte, Nat.reduceAdd, Nat.reduceSub, Nat.reduceMul, Nat.reduceLT, Nat.reduceLeDiff, Nat.reduceEqDiff, Nat.reduceDiv, Int.reduceNeg, Int.reduceEq, Int.reduceLT, Int.reduceLE, Int.reduceToNat, Nat.succ_eq_add_one, reduceCtorEq, decide_true, decide_false, true_and, and_true, ↓Int.cast_ofNat_Int, ne_eq, not_true_eq_false, not_false_eq_true, *] | omega | exact nl_of (by assumption) (by assumption)
theorem ret_FnExactValidLoss (v0 : ByteArray) (_ : v0.size ≤ 9223372036854775807) (v1 : ByteArray) (_ : v1.size ≤ 9223372036854775807) (v2 : Int) (_ : IntKind.min .i64 ≤ v2) (_ : v2 ≤ IntKind.max .i64) (v3 : Int) (_ : IntKind.min .i64 ≤ v3) (_ : v3 ≤ IntKind.max .i64) (v4 : Int) (_ : IntKind.min .i64 ≤ v4) (_ : v4 ≤ IntKind.max .i64) (v5 : Int) (_ : IntKind.min .i64 ≤ v5) (_ : v5 ≤ IntKind.max .i64) (v6 : Int) (_ : IntKind.min .i64 ≤ v6) (_ : v6 ≤ IntKind.max .i64) (v7 : Int) (_ : IntKind.min .i64 ≤ v7) (_ : v7 ≤ IntKind.max .i64) :
    Ret Try.prog 8 none [.agg [sv v0, sv v1, iv v2, iv v3, iv v4, iv v5, iv v6, iv v7]] [] (.c (bc true)) := by
  refine Ret.intro (rs := [.tmp 2]) T_ok Try.func8 rfl rfl Try.ntmps8 rfl (by simp [AV.lo]) (fun E => vc_sound T_ok _ ?_)
  repeat' first | with_reducible refine Cnd_if (fun _ => ?_) (fun _ => ?_) | with_reducible refine Cnd_split (fun _ => ?_) (fun _ => ?_) | with_reducible refine Grd_if (fun _ => ?_) (fun _ => ?_) | with_reducible refine Grd_if' (fun _ => ?_) (fun _ => ?_) | with_reducible refine Grd_split (fun _ => ?_) (fun _ => ?_) | with_reducible refine Grd_split' (fun _ => ?_) (fun _ => ?_) | with_reducible refine Val_if ?_ ?_ | with_reducible refine Val_unless ?_ ?_ | (with_reducible refine Efx_makes ?_ ?_; (simp only [decide_eq_true_eq]; omega)) | (with_reducible refine vc_of_draw T_ok follows_ok ?_ ?_; kernel_rfl) | ((with_reducible refine acall_inE ?_); (refine ⟨_, (by first | exact (ret_szLoss ⟨v0, v1, v2, v3, v4, v5, v6, v7⟩ _) | exact (ret_toLoss ⟨v0, v1, v2, v3, v4, v5, v6, v7⟩) | exact (ret_iValidLoss ⟨v0, v1, v2, v3, v4, v5, v6, v7⟩) | exact (ret_sValidLoss ⟨v0, v1, v2, v3, v4, v5, v6, v7⟩)), (by exact rfl), ?_⟩)) | simp only [push_cast, ↓reduceIte, Nat.reduceAdd, Nat.reduceSub, Nat.reduceMul, Nat.reduceLT, Nat.reduceLeDiff, Nat.reduceEqDiff, Nat.reduceDiv, Int.reduceNeg, Int.reduceEq, Int.reduceLT, Int.reduceLE, Int.reduceToNat, Nat.succ_eq_add_one, reduceCtorEq, decide_true, decide_false, true_and, and_true, ↓Int.cast_ofNat_Int, ne_eq, not_true_eq_false, not_false_eq_true, *] | omega | exact nl_of (by assumption) (by assumption)
  all_goals simp_all
set_option maxHeartbeats 1000000 in
theorem ret_FnExactValidLosses (nl : Bool) (rows : List (List CV)) (hl : rows.length ≤ 9223372036854775807) (hn : nl = true → rows = []) (h : ∀ r ∈ rows, Okl [.str, .str, .int .i64, .int .i64, .int .i64, .int .i64, .int .i64, .int .i64] r) : Ret Try.prog 11 none [.c (.sl nl false 8 rows)] [] (.c (bc true)) := by
  obtain ⟨xs, rfl, hx⟩ := losses_of h
  rw [List.length_map] at hl
  have hn' : nl = true → xs = [] := fun e => by simpa using hn e
  refine Ret.intro (rs := [.tmp 2]) T_ok Try.func11 rfl rfl Try.ntmps11 rfl (by simp [AV.lo]) (fun E => vc_sound T_ok _ ?_)
  repeat' first | with_reducible refine Cnd_if (fun _ => ?_) (fun _ => ?_) | with_reducible refine Cnd_split (fun _ => ?_) (fun _ => ?_) | with_reducible refine Grd_if (fun _ => ?_) (fun _ => ?_) | with_reducible refine Grd_if' (fun _ => ?_) (fun _ => ?_) | with_reducible refine Grd_split (fun _ => ?_) (fun _ => ?_) | with_reducible refine Grd_split' (fun _ => ?_) (fun _ => ?_) | with_reducible refine Val_if ?_ ?_ | with_reducible refine Val_unless ?_ ?_ | (with_reducible refine Efx_makes ?_ ?_; (simp only [decide_eq_true_eq]; omega)) | (with_reducible refine vc_of_draw T_ok follows_ok ?_ ?_; kernel_rfl) | ((with_reducible refine acall_inE ?_); (refine ⟨_, (by first | exact (ret_szlossesV _ _ _ hn' hl _)), (by exact rfl), ?_⟩)) | simp only [push_cast, ↓reduceIte, Nat.reduceAdd, Nat.reduceSub, Nat.reduceMul, Nat.reduceLT, Nat.reduceLeDiff, Nat.reduceEqDiff, Nat.reduceDiv, Int.reduceNeg, Int.reduceEq, Int.reduceLT, Int.reduceLE, Int.reduceToNat, Nat.succ_eq_add_one, reduceCtorEq, decide_true, decide_false, true_and, and_true, ↓Int.cast_ofNat_Int, ne_eq, not_true_eq_false, not_false_eq_true, *] | omega | exact nl_of (by assumption) (by assumption)
  have c1 : ¬ szG szLs 1048576 xs < 0 := ‹_›
  have hlen := szG_ge c1 hl (by omega) (by omega)
  clear c1
  repeat' first | with_reducible refine Cnd_if (fun _ => ?_) (fun _ => ?_) | with_reducible refine Cnd_split (fun _ => ?_) (fun _ => ?_) | with_reducible refine Grd_if (fun _ => ?_) (fun _ => ?_) | with_reducible refine Grd_if' (fun _ => ?_) (fun _ => ?_) | with_reducible refine Grd_split (fun _ => ?_) (fun _ => ?_) | with_reducible refine Grd_split' (fun _ => ?_) (fun _ => ?_) | with_reducible refine Val_if ?_ ?_ | with_reducible refine Val_unless ?_ ?_ | (with_reducible refine Efx_makes ?_ ?_; (simp only [decide_eq_true_eq]; omega)) | (with_reducible refine vc_of_draw T_ok follows_ok ?_ ?_; kernel_rfl) | ((with_reducible refine acall_inE ?_); (refine ⟨_, (by first | exact (ret_tolossesV _ _ _ hn' hlen)), (by exact rfl), ?_⟩)) | ((with_reducible refine acall_lookE ?_); (refine ⟨_, (by repeat' first | exact snapArgs_nil | apply snapArgs_cons | exact snapA_c _ | exact snapA_fn0 _ | exact snap_lsl rfl (by simp)), _, (by first | exact (ret_sValidLosses _ _ _ (fun h => by cases h) hlen) | exact (ret_iValidLosses _ _ _ (fun h => by cases h) hlen) | exact (ret_eqlossesV _ _ _ (fun h => by cases h) hlen)), (by exact rfl), ?_⟩)) | simp only [push_cast, ↓reduceIte, Nat.reduceAdd, Nat.reduceSub, Nat.reduceMul, Nat.reduceLT, Nat.reduceLeDiff, Nat.reduceEqDiff, Nat.reduceDiv, Int.reduceNeg, Int.reduceEq, Int.reduceLT, Int.reduceLE, Int.reduceToNat, Nat.succ_eq_add_one, reduceCtorEq, decide_true, decide_false, true_and, and_true, ↓Int.cast_ofNat_Int, ne_eq, not_true_eq_false, not_false_eq_true, *] | omega | exact nl_of (by assumption) (by assumption)
end Go.Proofs.Ytdglnjgjonbfbaa.Fw
