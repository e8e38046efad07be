/- Contracts of the functions on orders of gluing. No condition. -/
import Derived.Test.YtijkfgpnajdckaaBaseF
namespace Go.Proofs.Ytijkfgpnajdckaa.Fw
open Go.RowKit
set_option linter.unusedSimpArgs false
set_option linter.unusedVariables false
set_option maxRecDepth 100000
def boolRow (b : Bool) : List CV := [bc b]
def goOrd (seen : List Bool) : List Int → Bool
  | [] => true
  | x :: xs => if inB x 0 ((seen.length : Int) - 1) = false ∨ seen.getD x.toNat default = true then false else goOrd (seen.set x.toNat true) xs
def isOrd (xs : List Int) (n : Nat) : Bool := decide (xs.length = n) && goOrd (List.replicate n false) xs
theorem inB_iff (a b c : Int) : inB a b c = true ↔ b ≤ a ∧ a ≤ c := by simp [inB]
theorem not_in {a b c : Int} (h : ¬ inB a b c = true) : inB a b c = false := by simpa using h
theorem ret_isOrder (nl f : Bool) (xs : List Int) (hn : nl = true → xs = []) (hl : xs.length ≤ 1048576) (n : Nat) (hn2 : n ≤ 1048576) : Ret Try.prog 109 none [.c (intsV nl f xs), iv n] [] (.c (bc (isOrd xs n))) := by
  refine Ret.intro (rs := [.tmp 4]) T_ok Try.func109 rfl rfl Try.ntmps109 rfl (by simp [AV.lo]) (fun E => vc_sound T_ok _ ?_)
  repeat' first | (with_reducible first | refine z1 ?_ ?_ | refine z2 ?_ ?_ | refine z3 ?_ ?_ | refine z4 ?_ ?_ | refine z5 ?_ ?_ | refine z6 ?_ ?_ | refine z7 ?_ ?_ | refine z8 ?_ ?_ | refine z9 ?_ ?_ | intro _) | ((with_reducible first | refine z10 ?_ ?_ | refine z11 ?_ ?_ | refine z12 ?_ ?_); ((try simp only [decide_eq_true_eq, List.length_append, List.length_map, List.length_cons, List.length_nil, List.length_take, List.length_replicate]); omega)) | ((with_reducible refine z13 T_ok follows_ok ?_ ?_ ?_); rfl; kernel_rfl) | ((with_reducible refine z14 T_ok follows_ok ?_ ?_); kernel_rfl) | ((with_reducible refine z15 ?_ ?_); rfl) | simp only [push_cast, ↓reduceIte, Nat.reduceAdd, Nat.reduceSub, Nat.reduceMul, Nat.reduceLT, Nat.reduceLeDiff, Nat.reduceEqDiff, Nat.reduceDiv, Int.reduceNeg, Int.reduceEq, Int.reduceLT, Int.reduceLE, Int.reduceToNat, reduceCtorEq, ↓Int.cast_ofNat_Int, *] | omega | exact nl_of (by assumption) (by assumption)
  · have : ¬ xs.length = n := by omega
    simp [isOrd, this]
  · have hx : xs.length = n := by omega
    rw [show isOrd xs n = goOrd (List.replicate n false) xs from by simp [isOrd, hx], show List.replicate n [CV.v (.bool false)] = (List.replicate n false).map boolRow from by simp [boolRow]]
    refine vc_of_loopW T_ok (ι := {q : Nat × List Bool // q.1 ≤ xs.length ∧ q.2.length = n ∧ goOrd (List.replicate n false) xs = goOrd q.2 (xs.drop q.1)}) (fun q => ⟨.junk :: iv n :: .junk :: .junk :: .junk :: .lsl 7 1 0 n :: .junk :: .junk :: .junk :: .junk :: .junk :: .junk :: .junk :: .junk :: .c (intsV nl f xs) :: iv xs.length :: iv q.1.1 :: List.replicate 18 .junk, objsOf [(7, .arr 4 1 (q.1.2.map boolRow))], 8⟩) (fun q => xs.length - q.1.1) ⟨(0, List.replicate n false), Nat.zero_le _, List.length_replicate, rfl⟩ ?_ ?_
    · refine Wk.of_le ?_; refine Le.of (by repeat' first | exact trivial | refine ⟨Or.inr rfl, ?_⟩ | refine ⟨Or.inl rfl, ?_⟩) (by simp [AV.lo] <;> omega) (by (simp only [leO, objsOf_cons, objsOf_nil, upd_apply, renO, renB, AObj.ren, AV.ren, renF, Option.map_some, Option.map_none, AObj.kill, AV.kill, AObj.frz, AV.frz, objLo_box, objLo_arr, loAll, AV.lo, ↓reduceIte, Nat.reduceAdd, Nat.reduceLT, Nat.reduceEqDiff, Nat.left_eq_add, Nat.add_eq_left, Nat.add_left_cancel_iff, Nat.add_right_cancel_iff, reduceCtorEq, and_true, true_and, List.map_append, List.map_cons, List.map_nil]) <;> omega) (by omega)
    · rintro ⟨⟨i, seen⟩, hi, hsl, hs⟩
      simp only at hi hsl hs
      have e0 : i < xs.length → IntKind.wrap .i64 (↑i + 1) = ↑i + 1 := fun _ => wrap_i64 (by omega) (by omega)
      have e1 : IntKind.wrap .i64 ((n : Int) - 1) = n - 1 := wrap_i64 (by omega) (by omega)
      by_cases hlt : i < xs.length
      · have e2 : nl = false := nl_of hn hlt
        subst e2
        rw [drop_getD hlt, goOrd, hsl] at hs
        by_cases hin : inB (xs.getD i default) 0 ((n : Int) - 1) = true
        · have hr := (inB_iff _ _ _).1 hin
          have hk : (xs.getD i default).toNat < seen.length := by omega
          have hk2 : 0 ≤ xs.getD i default ∧ xs.getD i default < (n : Int) := by omega
          by_cases hm : seen.getD (xs.getD i default).toNat default = true
          · rw [if_pos (.inr hm)] at hs
            repeat' first | (with_reducible first | refine z1 ?_ ?_ | refine z2 ?_ ?_ | refine z3 ?_ ?_ | refine z4 ?_ ?_ | refine z5 ?_ ?_ | refine z6 ?_ ?_ | refine z7 ?_ ?_ | refine z8 ?_ ?_ | refine z9 ?_ ?_ | intro _) | ((with_reducible first | refine z10 ?_ ?_ | refine z11 ?_ ?_ | refine z12 ?_ ?_); ((try simp only [decide_eq_true_eq, List.length_append, List.length_map, List.length_cons, List.length_nil, List.length_take, List.length_replicate]); omega)) | ((with_reducible refine z13 T_ok follows_ok ?_ ?_ ?_); rfl; kernel_rfl) | ((with_reducible refine z14 T_ok follows_ok ?_ ?_); kernel_rfl) | ((with_reducible refine z15 ?_ ?_); rfl) | ((with_reducible refine z16 ?_); refine ⟨_, (by exact ret_within _ _ _), (by exact rfl), ?_⟩) | simp only [push_cast, ↓reduceIte, Nat.reduceAdd, Nat.reduceSub, Nat.reduceMul, Nat.reduceLT, Nat.reduceLeDiff, Nat.reduceEqDiff, Nat.reduceDiv, Int.reduceNeg, Int.reduceEq, Int.reduceLT, Int.reduceLE, Int.reduceToNat, reduceCtorEq, ↓Int.cast_ofNat_Int, hlt, e0, e1, hin, hk, hk2, hm, intRow, boolRow, rows_get] | omega | exact nl_of (by assumption) (by assumption)
            rw [hs]
          · rw [if_neg (by rintro (h | h); (rw [hin] at h; cases h); exact hm h)] at hs
            have hm : seen.getD (xs.getD i default).toNat default = false := by simpa using hm
            repeat' first | (with_reducible first | refine z1 ?_ ?_ | refine z2 ?_ ?_ | refine z3 ?_ ?_ | refine z4 ?_ ?_ | refine z5 ?_ ?_ | refine z6 ?_ ?_ | refine z7 ?_ ?_ | refine z8 ?_ ?_ | refine z9 ?_ ?_ | intro _) | ((with_reducible first | refine z10 ?_ ?_ | refine z11 ?_ ?_ | refine z12 ?_ ?_); ((try simp only [decide_eq_true_eq, List.length_append, List.length_map, List.length_cons, List.length_nil, List.length_take, List.length_replicate]); omega)) | ((with_reducible refine z13 T_ok follows_ok ?_ ?_ ?_); rfl; kernel_rfl) | ((with_reducible refine z14 T_ok follows_ok ?_ ?_); kernel_rfl) | ((with_reducible refine z15 ?_ ?_); rfl) | ((with_reducible refine z16 ?_); refine ⟨_, (by exact ret_within _ _ _), (by exact rfl), ?_⟩) | simp only [push_cast, ↓reduceIte, Nat.reduceAdd, Nat.reduceSub, Nat.reduceMul, Nat.reduceLT, Nat.reduceLeDiff, Nat.reduceEqDiff, Nat.reduceDiv, Int.reduceNeg, Int.reduceEq, Int.reduceLT, Int.reduceLE, Int.reduceToNat, reduceCtorEq, ↓Int.cast_ofNat_Int, hlt, e0, e1, hin, hk, hk2, hm, intRow, boolRow, rows_get] | omega | exact nl_of (by assumption) (by assumption)
            refine ⟨⟨(i + 1, seen.set (xs.getD i default).toNat true), by simp only; omega, by simp only [List.length_set]; exact hsl, hs⟩, ?_, by simp only; omega⟩
            refine Wk.of_le ?_; refine Le.of (by repeat' first | exact trivial | refine ⟨Or.inr rfl, ?_⟩ | refine ⟨Or.inl rfl, ?_⟩) (by simp [AV.lo] <;> omega) (by (simp only [leO, objsOf_cons, objsOf_nil, upd_apply, renO, renB, AObj.ren, AV.ren, renF, Option.map_some, Option.map_none, AObj.kill, AV.kill, AObj.frz, AV.frz, objLo_box, objLo_arr, loAll, AV.lo, ↓reduceIte, Nat.reduceAdd, Nat.reduceLT, Nat.reduceEqDiff, Nat.left_eq_add, Nat.add_eq_left, Nat.add_left_cancel_iff, Nat.add_right_cancel_iff, reduceCtorEq, and_true, true_and, List.map_append, List.map_cons, List.map_nil, List.map_set, boolRow]) <;> omega) (by omega)
        · have hin := not_in hin
          rw [if_pos (.inl hin)] at hs
          repeat' first | (with_reducible first | refine z1 ?_ ?_ | refine z2 ?_ ?_ | refine z3 ?_ ?_ | refine z4 ?_ ?_ | refine z5 ?_ ?_ | refine z6 ?_ ?_ | refine z7 ?_ ?_ | refine z8 ?_ ?_ | refine z9 ?_ ?_ | intro _) | ((with_reducible first | refine z10 ?_ ?_ | refine z11 ?_ ?_ | refine z12 ?_ ?_); ((try simp only [decide_eq_true_eq, List.length_append, List.length_map, List.length_cons, List.length_nil, List.length_take, List.length_replicate]); omega)) | ((with_reducible refine z13 T_ok follows_ok ?_ ?_ ?_); rfl; kernel_rfl) | ((with_reducible refine z14 T_ok follows_ok ?_ ?_); kernel_rfl) | ((with_reducible refine z15 ?_ ?_); rfl) | ((with_reducible refine z16 ?_); refine ⟨_, (by exact ret_within _ _ _), (by exact rfl), ?_⟩) | simp only [push_cast, ↓reduceIte, Nat.reduceAdd, Nat.reduceSub, Nat.reduceMul, Nat.reduceLT, Nat.reduceLeDiff, Nat.reduceEqDiff, Nat.reduceDiv, Int.reduceNeg, Int.reduceEq, Int.reduceLT, Int.reduceLE, Int.reduceToNat, reduceCtorEq, ↓Int.cast_ofNat_Int, hlt, e0, e1, hin, intRow, boolRow, rows_get] | omega | exact nl_of (by assumption) (by assumption)
          rw [hs]
      · rw [List.drop_of_length_le (by omega), goOrd] at hs
        repeat' first | (with_reducible first | refine z1 ?_ ?_ | refine z2 ?_ ?_ | refine z3 ?_ ?_ | refine z4 ?_ ?_ | refine z5 ?_ ?_ | refine z6 ?_ ?_ | refine z7 ?_ ?_ | refine z8 ?_ ?_ | refine z9 ?_ ?_ | intro _) | ((with_reducible first | refine z10 ?_ ?_ | refine z11 ?_ ?_ | refine z12 ?_ ?_); ((try simp only [decide_eq_true_eq, List.length_append, List.length_map, List.length_cons, List.length_nil, List.length_take, List.length_replicate]); omega)) | ((with_reducible refine z13 T_ok follows_ok ?_ ?_ ?_); rfl; kernel_rfl) | ((with_reducible refine z14 T_ok follows_ok ?_ ?_); kernel_rfl) | ((with_reducible refine z15 ?_ ?_); rfl) | simp only [push_cast, ↓reduceIte, Nat.reduceAdd, Nat.reduceSub, Nat.reduceMul, Nat.reduceLT, Nat.reduceLeDiff, Nat.reduceEqDiff, Nat.reduceDiv, Int.reduceNeg, Int.reduceEq, Int.reduceLT, Int.reduceLE, Int.reduceToNat, reduceCtorEq, ↓Int.cast_ofNat_Int, hlt, e0] | omega | exact nl_of (by assumption) (by assumption)
        rw [hs]
theorem ret_l14Is (nl f : Bool) (xs : List Int) (hn : nl = true → xs = []) (hl : xs.length ≤ 1048576) (n : Nat) (hn2 : n ≤ 1048576) : Ret Try.prog 106 none [.c (intsV nl f xs), iv n] [] (.c (bc (isOrd xs n))) := by
  refine Ret.intro (rs := [.tmp 4]) T_ok Try.func106 rfl rfl Try.ntmps106 rfl (by simp [AV.lo]) (fun E => vc_sound T_ok _ ?_)
  repeat' first | (with_reducible first | refine z1 ?_ ?_ | refine z2 ?_ ?_ | refine z3 ?_ ?_ | refine z4 ?_ ?_ | refine z5 ?_ ?_ | refine z6 ?_ ?_ | refine z7 ?_ ?_ | refine z8 ?_ ?_ | refine z9 ?_ ?_ | intro _) | ((with_reducible first | refine z10 ?_ ?_ | refine z11 ?_ ?_ | refine z12 ?_ ?_); ((try simp only [decide_eq_true_eq, List.length_append, List.length_map, List.length_cons, List.length_nil, List.length_take, List.length_replicate]); omega)) | ((with_reducible refine z13 T_ok follows_ok ?_ ?_ ?_); rfl; kernel_rfl) | ((with_reducible refine z14 T_ok follows_ok ?_ ?_); kernel_rfl) | ((with_reducible refine z15 ?_ ?_); rfl) | simp only [push_cast, ↓reduceIte, Nat.reduceAdd, Nat.reduceSub, Nat.reduceMul, Nat.reduceLT, Nat.reduceLeDiff, Nat.reduceEqDiff, Nat.reduceDiv, Int.reduceNeg, Int.reduceEq, Int.reduceLT, Int.reduceLE, Int.reduceToNat, reduceCtorEq, ↓Int.cast_ofNat_Int, *] | omega | exact nl_of (by assumption) (by assumption)
  · have : ¬ xs.length = n := by omega
    simp [isOrd, this]
  · have hx : xs.length = n := by omega
    rw [show isOrd xs n = goOrd (List.replicate n false) xs from by simp [isOrd, hx], show List.replicate n [CV.v (.bool false)] = (List.replicate n false).map boolRow from by simp [boolRow]]
    refine vc_of_loopW T_ok (ι := {q : Nat × List Bool // q.1 ≤ xs.length ∧ q.2.length = n ∧ goOrd (List.replicate n false) xs = goOrd q.2 (xs.drop q.1)}) (fun q => ⟨.c (intsV nl f xs) :: iv n :: .junk :: .junk :: .junk :: .lsl 7 1 0 n :: iv q.1.1 :: List.replicate 34 .junk, objsOf [(7, .arr 4 1 (q.1.2.map boolRow))], 8⟩) (fun q => xs.length - q.1.1) ⟨(0, List.replicate n false), Nat.zero_le _, List.length_replicate, rfl⟩ ?_ ?_
    · refine Wk.of_le ?_; refine Le.of (by repeat' first | exact trivial | refine ⟨Or.inr rfl, ?_⟩ | refine ⟨Or.inl rfl, ?_⟩) (by simp [AV.lo] <;> omega) (by (simp only [leO, objsOf_cons, objsOf_nil, upd_apply, renO, renB, AObj.ren, AV.ren, renF, Option.map_some, Option.map_none, AObj.kill, AV.kill, AObj.frz, AV.frz, objLo_box, objLo_arr, loAll, AV.lo, ↓reduceIte, Nat.reduceAdd, Nat.reduceLT, Nat.reduceEqDiff, Nat.left_eq_add, Nat.add_eq_left, Nat.add_left_cancel_iff, Nat.add_right_cancel_iff, reduceCtorEq, and_true, true_and, List.map_append, List.map_cons, List.map_nil]) <;> omega) (by omega)
    · rintro ⟨⟨i, seen⟩, hi, hsl, hs⟩
      simp only at hi hsl hs
      have e0 : i < xs.length → IntKind.wrap .i64 (↑i + 1) = ↑i + 1 := fun _ => wrap_i64 (by omega) (by omega)
      have e1 : IntKind.wrap .i64 ((n : Int) - 1) = n - 1 := wrap_i64 (by omega) (by omega)
      by_cases hlt : i < xs.length
      · have e2 : nl = false := nl_of hn hlt
        subst e2
        have hlt2 : i < n := by omega
        rw [drop_getD hlt, goOrd, hsl] at hs
        by_cases hin : inB (xs.getD i default) 0 ((n : Int) - 1) = true
        · have hr := (inB_iff _ _ _).1 hin
          have hk : (xs.getD i default).toNat < seen.length := by omega
          have hk2 : 0 ≤ xs.getD i default ∧ xs.getD i default < (n : Int) := by omega
          by_cases hm : seen.getD (xs.getD i default).toNat default = true
          · rw [if_pos (.inr hm)] at hs
            repeat' first | (with_reducible first | refine z1 ?_ ?_ | refine z2 ?_ ?_ | refine z3 ?_ ?_ | refine z4 ?_ ?_ | refine z5 ?_ ?_ | refine z6 ?_ ?_ | refine z7 ?_ ?_ | refine z8 ?_ ?_ | refine z9 ?_ ?_ | intro _) | ((with_reducible first | refine z10 ?_ ?_ | refine z11 ?_ ?_ | refine z12 ?_ ?_); ((try simp only [decide_eq_true_eq, List.length_append, List.length_map, List.length_cons, List.length_nil, List.length_take, List.length_replicate]); omega)) | ((with_reducible refine z13 T_ok follows_ok ?_ ?_ ?_); rfl; kernel_rfl) | ((with_reducible refine z14 T_ok follows_ok ?_ ?_); kernel_rfl) | ((with_reducible refine z15 ?_ ?_); rfl) | ((with_reducible refine z16 ?_); refine ⟨_, (by exact ret_l00In _ _ _), (by exact rfl), ?_⟩) | simp only [push_cast, ↓reduceIte, Nat.reduceAdd, Nat.reduceSub, Nat.reduceMul, Nat.reduceLT, Nat.reduceLeDiff, Nat.reduceEqDiff, Nat.reduceDiv, Int.reduceNeg, Int.reduceEq, Int.reduceLT, Int.reduceLE, Int.reduceToNat, reduceCtorEq, ↓Int.cast_ofNat_Int, hlt, hlt2, e0, e1, hin, hk, hk2, hm, intRow, boolRow, rows_get] | omega | exact nl_of (by assumption) (by assumption)
            rw [hs]
          · rw [if_neg (by rintro (h | h); (rw [hin] at h; cases h); exact hm h)] at hs
            have hm : seen.getD (xs.getD i default).toNat default = false := by simpa using hm
            repeat' first | (with_reducible first | refine z1 ?_ ?_ | refine z2 ?_ ?_ | refine z3 ?_ ?_ | refine z4 ?_ ?_ | refine z5 ?_ ?_ | refine z6 ?_ ?_ | refine z7 ?_ ?_ | refine z8 ?_ ?_ | refine z9 ?_ ?_ | intro _) | ((with_reducible first | refine z10 ?_ ?_ | refine z11 ?_ ?_ | refine z12 ?_ ?_); ((try simp only [decide_eq_true_eq, List.length_append, List.length_map, List.length_cons, List.length_nil, List.length_take, List.length_replicate]); omega)) | ((with_reducible refine z13 T_ok follows_ok ?_ ?_ ?_); rfl; kernel_rfl) | ((with_reducible refine z14 T_ok follows_ok ?_ ?_); kernel_rfl) | ((with_reducible refine z15 ?_ ?_); rfl) | ((with_reducible refine z16 ?_); refine ⟨_, (by exact ret_l00In _ _ _), (by exact rfl), ?_⟩) | simp only [push_cast, ↓reduceIte, Nat.reduceAdd, Nat.reduceSub, Nat.reduceMul, Nat.reduceLT, Nat.reduceLeDiff, Nat.reduceEqDiff, Nat.reduceDiv, Int.reduceNeg, Int.reduceEq, Int.reduceLT, Int.reduceLE, Int.reduceToNat, reduceCtorEq, ↓Int.cast_ofNat_Int, hlt, hlt2, e0, e1, hin, hk, hk2, hm, intRow, boolRow, rows_get] | omega | exact nl_of (by assumption) (by assumption)
            refine ⟨⟨(i + 1, seen.set (xs.getD i default).toNat true), by simp only; omega, by simp only [List.length_set]; exact hsl, hs⟩, ?_, by simp only; omega⟩
            refine Wk.of_le ?_; refine Le.of (by repeat' first | exact trivial | refine ⟨Or.inr rfl, ?_⟩ | refine ⟨Or.inl rfl, ?_⟩) (by simp [AV.lo] <;> omega) (by (simp only [leO, objsOf_cons, objsOf_nil, upd_apply, renO, renB, AObj.ren, AV.ren, renF, Option.map_some, Option.map_none, AObj.kill, AV.kill, AObj.frz, AV.frz, objLo_box, objLo_arr, loAll, AV.lo, ↓reduceIte, Nat.reduceAdd, Nat.reduceLT, Nat.reduceEqDiff, Nat.left_eq_add, Nat.add_eq_left, Nat.add_left_cancel_iff, Nat.add_right_cancel_iff, reduceCtorEq, and_true, true_and, List.map_append, List.map_cons, List.map_nil, List.map_set, boolRow]) <;> omega) (by omega)
        · have hin := not_in hin
          rw [if_pos (.inl hin)] at hs
          repeat' first | (with_reducible first | refine z1 ?_ ?_ | refine z2 ?_ ?_ | refine z3 ?_ ?_ | refine z4 ?_ ?_ | refine z5 ?_ ?_ | refine z6 ?_ ?_ | refine z7 ?_ ?_ | refine z8 ?_ ?_ | refine z9 ?_ ?_ | intro _) | ((with_reducible first | refine z10 ?_ ?_ | refine z11 ?_ ?_ | refine z12 ?_ ?_); ((try simp only [decide_eq_true_eq, List.length_append, List.length_map, List.length_cons, List.length_nil, List.length_take, List.length_replicate]); omega)) | ((with_reducible refine z13 T_ok follows_ok ?_ ?_ ?_); rfl; kernel_rfl) | ((with_reducible refine z14 T_ok follows_ok ?_ ?_); kernel_rfl) | ((with_reducible refine z15 ?_ ?_); rfl) | ((with_reducible refine z16 ?_); refine ⟨_, (by exact ret_l00In _ _ _), (by exact rfl), ?_⟩) | simp only [push_cast, ↓reduceIte, Nat.reduceAdd, Nat.reduceSub, Nat.reduceMul, Nat.reduceLT, Nat.reduceLeDiff, Nat.reduceEqDiff, Nat.reduceDiv, Int.reduceNeg, Int.reduceEq, Int.reduceLT, Int.reduceLE, Int.reduceToNat, reduceCtorEq, ↓Int.cast_ofNat_Int, hlt, hlt2, e0, e1, hin, intRow, boolRow, rows_get] | omega | exact nl_of (by assumption) (by assumption)
          rw [hs]
      · have hlt2 : ¬ i < n := by omega
        rw [List.drop_of_length_le (by omega), goOrd] at hs
        repeat' first | (with_reducible first | refine z1 ?_ ?_ | refine z2 ?_ ?_ | refine z3 ?_ ?_ | refine z4 ?_ ?_ | refine z5 ?_ ?_ | refine z6 ?_ ?_ | refine z7 ?_ ?_ | refine z8 ?_ ?_ | refine z9 ?_ ?_ | intro _) | ((with_reducible first | refine z10 ?_ ?_ | refine z11 ?_ ?_ | refine z12 ?_ ?_); ((try simp only [decide_eq_true_eq, List.length_append, List.length_map, List.length_cons, List.length_nil, List.length_take, List.length_replicate]); omega)) | ((with_reducible refine z13 T_ok follows_ok ?_ ?_ ?_); rfl; kernel_rfl) | ((with_reducible refine z14 T_ok follows_ok ?_ ?_); kernel_rfl) | ((with_reducible refine z15 ?_ ?_); rfl) | simp only [push_cast, ↓reduceIte, Nat.reduceAdd, Nat.reduceSub, Nat.reduceMul, Nat.reduceLT, Nat.reduceLeDiff, Nat.reduceEqDiff, Nat.reduceDiv, Int.reduceNeg, Int.reduceEq, Int.reduceLT, Int.reduceLE, Int.reduceToNat, reduceCtorEq, ↓Int.cast_ofNat_Int, hlt, hlt2, e0] | omega | exact nl_of (by assumption) (by assumption)
        rw [hs]
def glueCode (bs : List Bond) (xs : List Int) (p : Int) : Int := if validBonds bs then (if inB p 1 4 && isOrd xs bs.length then 0 else 2) else 1
theorem ret_glueCode (nl f : Bool) (bs : List Bond) (hn : nl = true → bs = []) (hl : bs.length ≤ 1048576) (nl' f' : Bool) (xs : List Int) (hn' : nl' = true → xs = []) (hl' : xs.length ≤ 1048576) (p : Int) : Ret Try.prog 59 none [.c (bondsV nl f bs), .c (intsV nl' f' xs), iv p] [] (.c (ic (glueCode bs xs p))) := by
  refine Ret.intro (rs := [.tmp 6]) T_ok Try.func59 rfl rfl Try.ntmps59 rfl (by simp [AV.lo]) (fun E => vc_sound T_ok _ ?_)
  repeat' first | (with_reducible first | refine z1 ?_ ?_ | refine z2 ?_ ?_ | refine z3 ?_ ?_ | refine z4 ?_ ?_ | refine z5 ?_ ?_ | refine z6 ?_ ?_ | refine z7 ?_ ?_ | refine z8 ?_ ?_ | refine z9 ?_ ?_ | intro _) | ((with_reducible first | refine z10 ?_ ?_ | refine z11 ?_ ?_ | refine z12 ?_ ?_); ((try simp only [decide_eq_true_eq, List.length_append, List.length_map, List.length_cons, List.length_nil, List.length_take, List.length_replicate]); omega)) | ((with_reducible refine z13 T_ok follows_ok ?_ ?_ ?_); rfl; kernel_rfl) | ((with_reducible refine z14 T_ok follows_ok ?_ ?_); kernel_rfl) | ((with_reducible refine z15 ?_ ?_); rfl) | ((with_reducible refine z16 ?_); refine ⟨_, (by first | exact ret_iValidBonds _ _ _ hn hl | exact ret_within _ _ _ | exact ret_isOrder _ _ _ hn' hl' _ hl), (by exact rfl), ?_⟩) | simp only [push_cast, ↓reduceIte, Nat.reduceAdd, Nat.reduceSub, Nat.reduceMul, Nat.reduceLT, Nat.reduceLeDiff, Nat.reduceEqDiff, Nat.reduceDiv, Int.reduceNeg, Int.reduceEq, Int.reduceLT, Int.reduceLE, Int.reduceToNat, reduceCtorEq, ↓Int.cast_ofNat_Int, *] | omega | exact nl_of (by assumption) (by assumption)
  all_goals simp_all [glueCode]
theorem ret_l24Ask (nl f : Bool) (bs : List Bond) (hn : nl = true → bs = []) (hl : bs.length ≤ 1048576) (nl' f' : Bool) (xs : List Int) (hn' : nl' = true → xs = []) (hl' : xs.length ≤ 1048576) (p : Int) : Ret Try.prog 55 none [.c (bondsV nl f bs), .c (intsV nl' f' xs), iv p] [] (.c (ic (glueCode bs xs p))) := by
  refine Ret.intro (rs := [.tmp 6]) T_ok Try.func55 rfl rfl Try.ntmps55 rfl (by simp [AV.lo]) (fun E => vc_sound T_ok _ ?_)
  repeat' first | (with_reducible first | refine z1 ?_ ?_ | refine z2 ?_ ?_ | refine z3 ?_ ?_ | refine z4 ?_ ?_ | refine z5 ?_ ?_ | refine z6 ?_ ?_ | refine z7 ?_ ?_ | refine z8 ?_ ?_ | refine z9 ?_ ?_ | intro _) | ((with_reducible first | refine z10 ?_ ?_ | refine z11 ?_ ?_ | refine z12 ?_ ?_); ((try simp only [decide_eq_true_eq, List.length_append, List.length_map, List.length_cons, List.length_nil, List.length_take, List.length_replicate]); omega)) | ((with_reducible refine z13 T_ok follows_ok ?_ ?_ ?_); rfl; kernel_rfl) | ((with_reducible refine z14 T_ok follows_ok ?_ ?_); kernel_rfl) | ((with_reducible refine z15 ?_ ?_); rfl) | ((with_reducible refine z16 ?_); refine ⟨_, (by first | exact ret_l24Ok _ _ _ hn hl | exact ret_l00In _ _ _ | exact ret_l14Is _ _ _ hn' hl' _ hl), (by exact rfl), ?_⟩) | simp only [push_cast, ↓reduceIte, Nat.reduceAdd, Nat.reduceSub, Nat.reduceMul, Nat.reduceLT, Nat.reduceLeDiff, Nat.reduceEqDiff, Nat.reduceDiv, Int.reduceNeg, Int.reduceEq, Int.reduceLT, Int.reduceLE, Int.reduceToNat, reduceCtorEq, ↓Int.cast_ofNat_Int, *] | omega | exact nl_of (by assumption) (by assumption)
  all_goals simp_all [glueCode]
def pk (free : List Int) : Nat → Nat
  | 0 => 0
  | k + 1 => if free.getD k default < free.getD (pk free k) default then k else pk free k
theorem pk_le (free : List Int) : ∀ n, pk free n ≤ n - 1
  | 0 => Nat.le_refl _
  | k + 1 => by
    simp only [pk]
    have := pk_le free k
    split <;> omega
structure Glu where
  ready : Int
  free : List Int
  en : Int
def gluCells (g : Glu) : List CV := ic g.ready :: (g.free.map ic ++ [ic g.en])
def gAt (g : Glu) (n : Nat) : Int := g.free.getD (pk g.free n) default
def gStart (g : Glu) (b : Bond) (n : Nat) : Int := max g.ready (IntKind.wrap .i64 (gAt g n - b.opn))
def gBegin (g : Glu) (b : Bond) (n : Nat) : Int := max (IntKind.wrap .i64 (gStart g b n + b.spread)) (gAt g n)
def gEnd (g : Glu) (b : Bond) (n : Nat) : Int := IntKind.wrap .i64 (gBegin g b n + b.press)
def gNext (g : Glu) (b : Bond) (n : Nat) : Glu := ⟨IntKind.wrap .i64 (gStart g b n + b.spread), g.free.set (pk g.free n) (gEnd g b n), max g.en (gEnd g b n)⟩
theorem wr1 : IntKind.wrap .i64 (0 + 1) = 1 := by decide
theorem wr2 : IntKind.wrap .i64 (1 + 1) = 2 := by decide
theorem wr3 : IntKind.wrap .i64 (2 + 1) = 3 := by decide
theorem wr4 : IntKind.wrap .i64 (3 + 1) = 4 := by decide
set_option maxHeartbeats 4000000 in
theorem ret_add (r f0 f1 f2 f3 e : Int) (b : Bond) (n : Nat) (h1 : n ≤ 4) : Ret Try.prog 110 (some (133, gluCells ⟨r, [f0, f1, f2, f3], e⟩)) [.agg [sv b.name, iv b.spread, iv b.opn, iv b.press], iv n] (gluCells (gNext ⟨r, [f0, f1, f2, f3], e⟩ b n)) (.agg [ic (gStart ⟨r, [f0, f1, f2, f3], e⟩ b n), ic (pk [f0, f1, f2, f3] n), ic (gBegin ⟨r, [f0, f1, f2, f3], e⟩ b n), ic (gEnd ⟨r, [f0, f1, f2, f3], e⟩ b n)]) := by
  refine Ret.intro (rs := [.cell 6 94]) T_ok Try.func110 rfl rfl Try.ntmps110 rfl (by simp [AV.lo]) (fun E => vc_sound T_ok _ ?_)
  repeat' first | (with_reducible first | refine z1 ?_ ?_ | refine z2 ?_ ?_ | refine z3 ?_ ?_ | refine z4 ?_ ?_ | refine z5 ?_ ?_ | refine z6 ?_ ?_ | refine z7 ?_ ?_ | refine z8 ?_ ?_ | refine z9 ?_ ?_ | intro _) | ((with_reducible first | refine z10 ?_ ?_ | refine z11 ?_ ?_ | refine z12 ?_ ?_); ((try simp only [decide_eq_true_eq, List.length_append, List.length_map, List.length_cons, List.length_nil, List.length_take, List.length_replicate]); omega)) | ((with_reducible refine z13 T_ok follows_ok ?_ ?_ ?_); rfl; kernel_rfl) | ((with_reducible refine z14 T_ok follows_ok ?_ ?_); kernel_rfl) | ((with_reducible refine z15 ?_ ?_); rfl) | simp only [push_cast, ↓reduceIte, Nat.reduceAdd, Nat.reduceSub, Nat.reduceMul, Nat.reduceLT, Nat.reduceLeDiff, Nat.reduceEqDiff, Nat.reduceDiv, Int.reduceNeg, Int.reduceEq, Int.reduceLT, Int.reduceLE, Int.reduceToNat, reduceCtorEq, ↓Int.cast_ofNat_Int, gluCells] | omega | exact nl_of (by assumption) (by assumption)
  refine vc_of_loopW T_ok (ι := {i : Nat // i ≤ n}) (fun i => ⟨.ref 0 0 :: .junk :: iv n :: .junk :: .ref 1 0 :: .junk :: .ref 2 0 :: iv (pk [f0, f1, f2, f3] i.1) :: .junk :: .junk :: .junk :: iv n :: iv i.1 :: List.replicate 74 .junk, objsOf [(0, .box 133 [iv r, iv f0, iv f1, iv f2, iv f3, iv e]), (1, .box 73 [sv b.name, iv b.spread, iv b.opn, iv b.press]), (2, .box 94 [iv 0, iv 0, iv 0, iv 0])], 6⟩) (fun i => n - i.1) ⟨0, Nat.zero_le _⟩ ?_ ?_
  · refine Wk.of_le ?_; refine Le.of (by repeat' first | exact trivial | refine ⟨Or.inr rfl, ?_⟩ | refine ⟨Or.inl rfl, ?_⟩) (by simp [AV.lo] <;> omega) (by (simp only [leO, objsOf_cons, objsOf_nil, upd_apply, renO, renB, AObj.ren, AV.ren, renF, Option.map_some, Option.map_none, AObj.kill, AV.kill, AObj.frz, AV.frz, objLo_box, objLo_arr, loAll, AV.lo, ↓reduceIte, Nat.reduceAdd, Nat.reduceLT, Nat.reduceEqDiff, Nat.left_eq_add, Nat.add_eq_left, Nat.add_left_cancel_iff, Nat.add_right_cancel_iff, reduceCtorEq, and_true, true_and, List.map_append, List.map_cons, List.map_nil]) <;> omega) (by omega)
  · rintro ⟨i, hi⟩
    have hp := pk_le [f0, f1, f2, f3] i
    by_cases hlt : i < n
    · have hs : pk [f0, f1, f2, f3] (i + 1) = if [f0, f1, f2, f3].getD i default < [f0, f1, f2, f3].getD (pk [f0, f1, f2, f3] i) default then i else pk [f0, f1, f2, f3] i := rfl
      have hi' : i + 1 ≤ n := hlt
      generalize pk [f0, f1, f2, f3] i = p at hs hp
      have hi4 : i = 0 ∨ i = 1 ∨ i = 2 ∨ i = 3 := by omega
      have hp4 : p = 0 ∨ p = 1 ∨ p = 2 ∨ p = 3 := by omega
      rcases hi4 with rfl | rfl | rfl | rfl <;> rcases hp4 with rfl | rfl | rfl | rfl <;> (try omega) <;> simp only [List.getD_cons_zero, List.getD_cons_succ] at hs
      all_goals
        repeat' first | (with_reducible first | refine z1 ?_ ?_ | refine z2 ?_ ?_ | refine z3 ?_ ?_ | refine z4 ?_ ?_ | refine z5 ?_ ?_ | refine z6 ?_ ?_ | refine z7 ?_ ?_ | refine z8 ?_ ?_ | refine z9 ?_ ?_ | intro _) | ((with_reducible first | refine z10 ?_ ?_ | refine z11 ?_ ?_ | refine z12 ?_ ?_); ((try simp only [decide_eq_true_eq, List.length_append, List.length_map, List.length_cons, List.length_nil, List.length_take, List.length_replicate]); omega)) | ((with_reducible refine z13 T_ok follows_ok ?_ ?_ ?_); rfl; kernel_rfl) | ((with_reducible refine z14 T_ok follows_ok ?_ ?_); kernel_rfl) | ((with_reducible refine z15 ?_ ?_); rfl) | simp only [push_cast, ↓reduceIte, Nat.reduceAdd, Nat.reduceSub, Nat.reduceMul, Nat.reduceLT, Nat.reduceLeDiff, Nat.reduceEqDiff, Nat.reduceDiv, Int.reduceNeg, Int.reduceEq, Int.reduceLT, Int.reduceLE, Int.reduceToNat, reduceCtorEq, ↓Int.cast_ofNat_Int, hlt, wr1, wr2, wr3, wr4] | omega | exact nl_of (by assumption) (by assumption)
      all_goals first
        | omega
        | (rw [if_pos ‹_›] at hs
           refine ⟨⟨_, hi'⟩, ?_, by simp only; omega⟩
           simp only [hs]
           refine Wk.of_le ?_; refine Le.of (by repeat' first | exact trivial | refine ⟨Or.inr rfl, ?_⟩ | refine ⟨Or.inl rfl, ?_⟩) (by simp [AV.lo] <;> omega) (by (simp only [leO, objsOf_cons, objsOf_nil, upd_apply, renO, renB, AObj.ren, AV.ren, renF, Option.map_some, Option.map_none, AObj.kill, AV.kill, AObj.frz, AV.frz, objLo_box, objLo_arr, loAll, AV.lo, ↓reduceIte, Nat.reduceAdd, Nat.reduceLT, Nat.reduceEqDiff, Nat.left_eq_add, Nat.add_eq_left, Nat.add_left_cancel_iff, Nat.add_right_cancel_iff, reduceCtorEq, and_true, true_and, List.map_append, List.map_cons, List.map_nil]) <;> omega) (by omega))
        | (rw [if_neg ‹_›] at hs
           refine ⟨⟨_, hi'⟩, ?_, by simp only; omega⟩
           simp only [hs]
           refine Wk.of_le ?_; refine Le.of (by repeat' first | exact trivial | refine ⟨Or.inr rfl, ?_⟩ | refine ⟨Or.inl rfl, ?_⟩) (by simp [AV.lo] <;> omega) (by (simp only [leO, objsOf_cons, objsOf_nil, upd_apply, renO, renB, AObj.ren, AV.ren, renF, Option.map_some, Option.map_none, AObj.kill, AV.kill, AObj.frz, AV.frz, objLo_box, objLo_arr, loAll, AV.lo, ↓reduceIte, Nat.reduceAdd, Nat.reduceLT, Nat.reduceEqDiff, Nat.left_eq_add, Nat.add_eq_left, Nat.add_left_cancel_iff, Nat.add_right_cancel_iff, reduceCtorEq, and_true, true_and, List.map_append, List.map_cons, List.map_nil]) <;> omega) (by omega))
    · obtain rfl : i = n := by omega
      have hf : pk [f0, f1, f2, f3] i = pk [f0, f1, f2, f3] i := rfl
      simp only [gStart, gBegin, gEnd, gNext, gAt]
      generalize pk [f0, f1, f2, f3] i = p at *
      have hp4 : p = 0 ∨ p = 1 ∨ p = 2 ∨ p = 3 := by omega
      rcases hp4 with rfl | rfl | rfl | rfl
      all_goals
        repeat' first | (with_reducible first | refine z1 ?_ ?_ | refine z2 ?_ ?_ | refine z3 ?_ ?_ | refine z4 ?_ ?_ | refine z5 ?_ ?_ | refine z6 ?_ ?_ | refine z7 ?_ ?_ | refine z8 ?_ ?_ | refine z9 ?_ ?_ | intro _) | ((with_reducible first | refine z10 ?_ ?_ | refine z11 ?_ ?_ | refine z12 ?_ ?_); ((try simp only [decide_eq_true_eq, List.length_append, List.length_map, List.length_cons, List.length_nil, List.length_take, List.length_replicate]); omega)) | ((with_reducible refine z13 T_ok follows_ok ?_ ?_ ?_); rfl; kernel_rfl) | ((with_reducible refine z14 T_ok follows_ok ?_ ?_); kernel_rfl) | ((with_reducible refine z15 ?_ ?_); rfl) | simp only [push_cast, ↓reduceIte, Nat.reduceAdd, Nat.reduceSub, Nat.reduceMul, Nat.reduceLT, Nat.reduceLeDiff, Nat.reduceEqDiff, Nat.reduceDiv, Int.reduceNeg, Int.reduceEq, Int.reduceLT, Int.reduceLE, Int.reduceToNat, reduceCtorEq, ↓Int.cast_ofNat_Int, hlt] | omega | exact nl_of (by assumption) (by assumption)
theorem toCVs_map : ∀ (cs : List CV), toCVs (cs.map .c) = some cs
  | [] => rfl
  | c :: cs => by simp [toCVs, toCVs_map cs]
theorem ret_add' (g : Glu) (hg : g.free.length = 4) (b : Bond) (n : Nat) (h1 : n ≤ 4) : Ret Try.prog 110 (some (133, gluCells g)) [.agg [sv b.name, iv b.spread, iv b.opn, iv b.press], iv n] (gluCells (gNext g b n)) (.agg [ic (gStart g b n), ic (pk g.free n), ic (gBegin g b n), ic (gEnd g b n)]) := by
  obtain ⟨r, fr, e⟩ := g
  match fr, hg with
  | [f0, f1, f2, f3], _ => exact ret_add r f0 f1 f2 f3 e b n h1
end Go.Proofs.Ytijkfgpnajdckaa.Fw
