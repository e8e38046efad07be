/- Contracts of the functions on lists of whole numbers and on features. No condition. -/
import Derived.Test.YtijkfgpnajdckaaBaseA
import Derived.Test.YtijkfgpnajdckaaFwZb
namespace Go.Proofs.Ytijkfgpnajdckaa.Fw
open Go.RowKit
set_option linter.unusedSimpArgs false
set_option linter.unusedVariables false
set_option maxRecDepth 100000
def intRow (x : Int) : List CV := [ic x]
abbrev intsV (nl f : Bool) (xs : List Int) : CV := .sl nl f 1 (xs.map intRow)
theorem ints_of {rows : List (List CV)} (h : ∀ r ∈ rows, Okl [.int .i64] r) : ∃ xs : List Int, rows = xs.map intRow ∧ ∀ x ∈ xs, -9223372036854775808 ≤ x ∧ x ≤ 9223372036854775807 := by
  refine rows_of (f := intRow) (rows := rows) (fun r hr => ?_)
  obtain ⟨y0, ys0, rfl, e0, k0⟩ := okcons (h r hr)
  obtain rfl := oknil k0
  obtain ⟨v0, rfl, h1, h2⟩ := okint e0
  exact ⟨v0, rfl, h1, h2⟩
def szI (l n : Int) : Int := if IntKind.wrap .i64 (l - n) < 0 then -1 else IntKind.wrap .i64 (l - n)
theorem ret_szInt64S (nl f : Bool) (xs : List Int) (l : Int) : Ret Try.prog 147 none [.c (intsV nl f xs), iv l] [] (.c (ic (szI l xs.length))) := by
  refine Ret.intro (rs := [.tmp 4]) T_ok Try.func147 rfl rfl Try.ntmps147 rfl (by simp [AV.lo]) (fun E => vc_sound T_ok _ ?_)
  repeat' first | (with_reducible first | refine z1 ?_ ?_ | refine z2 ?_ ?_ | refine z3 ?_ ?_ | refine z4 ?_ ?_ | refine z5 ?_ ?_ | refine z6 ?_ ?_ | refine z7 ?_ ?_ | refine z8 ?_ ?_ | refine z9 ?_ ?_ | intro _) | ((with_reducible first | refine z10 ?_ ?_ | refine z11 ?_ ?_ | refine z12 ?_ ?_); ((try simp only [decide_eq_true_eq, List.length_append, List.length_map, List.length_cons, List.length_nil, List.length_take, List.length_replicate]); omega)) | ((with_reducible refine z13 T_ok follows_ok ?_ ?_ ?_); rfl; kernel_rfl) | ((with_reducible refine z14 T_ok follows_ok ?_ ?_); kernel_rfl) | ((with_reducible refine z15 ?_ ?_); rfl) | simp only [push_cast, ↓reduceIte, Nat.reduceAdd, Nat.reduceSub, Nat.reduceMul, Nat.reduceLT, Nat.reduceLeDiff, Nat.reduceEqDiff, Nat.reduceDiv, Int.reduceNeg, Int.reduceEq, Int.reduceLT, Int.reduceLE, Int.reduceToNat, reduceCtorEq, ↓Int.cast_ofNat_Int, *] | omega | exact nl_of (by assumption) (by assumption)
  all_goals simp [szI, *]
set_option maxHeartbeats 1000000 in
theorem ret_toInt64S (nl f : Bool) (xs : List Int) (hn : nl = true → xs = []) (hl : xs.length ≤ 1048576) : Ret Try.prog 18 none [.c (intsV nl f xs)] [] (.own 2 1 (xs.map intRow)) := by
  refine Ret.intro (rs := [.tmp 2]) T_ok Try.func18 rfl rfl Try.ntmps18 rfl (by simp [AV.lo]) (fun E => vc_sound T_ok _ ?_)
  repeat' first | (with_reducible first | refine z1 ?_ ?_ | refine z2 ?_ ?_ | refine z3 ?_ ?_ | refine z4 ?_ ?_ | refine z5 ?_ ?_ | refine z6 ?_ ?_ | refine z7 ?_ ?_ | refine z8 ?_ ?_ | refine z9 ?_ ?_ | intro _) | ((with_reducible first | refine z10 ?_ ?_ | refine z11 ?_ ?_ | refine z12 ?_ ?_); ((try simp only [decide_eq_true_eq, List.length_append, List.length_map, List.length_cons, List.length_nil, List.length_take, List.length_replicate]); omega)) | ((with_reducible refine z13 T_ok follows_ok ?_ ?_ ?_); rfl; kernel_rfl) | ((with_reducible refine z14 T_ok follows_ok ?_ ?_); kernel_rfl) | ((with_reducible refine z15 ?_ ?_); rfl) | simp only [push_cast, ↓reduceIte, Nat.reduceAdd, Nat.reduceSub, Nat.reduceMul, Nat.reduceLT, Nat.reduceLeDiff, Nat.reduceEqDiff, Nat.reduceDiv, Int.reduceNeg, Int.reduceEq, Int.reduceLT, Int.reduceLE, Int.reduceToNat, reduceCtorEq, ↓Int.cast_ofNat_Int, *] | omega | exact nl_of (by assumption) (by assumption)
  rw [← mix_zero intRow]
  refine vc_of_loop T_ok (ι := {i : Nat // i ≤ xs.length}) (fun i => ⟨.c (intsV nl f xs) :: .junk :: .junk :: .lsl 4 1 0 xs.length :: iv i.1 :: List.replicate 17 .junk, objsOf [(4, .arr 2 1 (mix intRow [.v (.int .i64 0)] xs i.1))], 5⟩) (fun i => xs.length - i.1) ⟨0, by simp⟩ ?_ ?_
  · refine Le.of (by repeat' first | exact trivial | refine ⟨Or.inr rfl, ?_⟩ | refine ⟨Or.inl rfl, ?_⟩) (by simp [AV.lo]) (by simp [leO, objsOf, upd, AObj.lo, AV.lo, AObj.kill, AV.kill, AObj.frz, AV.frz]) (by omega)
  · rintro ⟨i, hi⟩
    have e0 : i < xs.length → IntKind.wrap .i64 (↑i + 1) = ↑i + 1 := fun _ => wrap_i64 (by omega) (by omega)
    repeat' first | (with_reducible first | refine z1 ?_ ?_ | refine z2 ?_ ?_ | refine z3 ?_ ?_ | refine z4 ?_ ?_ | refine z5 ?_ ?_ | refine z6 ?_ ?_ | refine z7 ?_ ?_ | refine z8 ?_ ?_ | refine z9 ?_ ?_ | intro _) | ((with_reducible first | refine z10 ?_ ?_ | refine z11 ?_ ?_ | refine z12 ?_ ?_); ((try simp only [decide_eq_true_eq, List.length_append, List.length_map, List.length_cons, List.length_nil, List.length_take, List.length_replicate]); omega)) | ((with_reducible refine z13 T_ok follows_ok ?_ ?_ ?_); rfl; kernel_rfl) | ((with_reducible refine z14 T_ok follows_ok ?_ ?_); kernel_rfl) | ((with_reducible refine z15 ?_ ?_); rfl) | simp only [push_cast, ↓reduceIte, Nat.reduceAdd, Nat.reduceSub, Nat.reduceMul, Nat.reduceLT, Nat.reduceLeDiff, Nat.reduceEqDiff, Nat.reduceDiv, Int.reduceNeg, Int.reduceEq, Int.reduceLT, Int.reduceLE, Int.reduceToNat, reduceCtorEq, ↓Int.cast_ofNat_Int, *, mix_get, intRow] | omega | exact nl_of (by assumption) (by assumption)
    · have e2 := mix_set intRow [.v (.int .i64 0)] xs ‹i < xs.length›
      simp only [intRow] at e2
      rw [e2]
      refine ⟨⟨i + 1, by omega⟩, ?_, by simp only; omega⟩
      refine Le.of (by repeat' first | exact trivial | refine ⟨Or.inr rfl, ?_⟩ | refine ⟨Or.inl rfl, ?_⟩) (by simp [AV.lo]) (by simp [leO, objsOf, upd, AObj.lo, AV.lo, AObj.kill, AV.kill, AObj.frz, AV.frz]) (by omega)
    · rw [mix_all intRow _ xs (by omega)]
def sameFrom (xs ys : List Int) : Bool := decide (xs.length = ys.length) && allN (fun i => decide (xs.getD i default = ys.getD i default)) xs.length
set_option maxHeartbeats 1000000 in
theorem ret_eqInt64S (nl f nl' f' : Bool) (xs ys : List Int) (hn : nl = true → xs = []) (hn' : nl' = true → ys = []) (hl : xs.length ≤ 9223372036854775807) : Ret Try.prog 21 none [.c (intsV nl f xs), .c (intsV nl' f' ys)] [] (.c (bc (sameFrom xs ys))) := by
  refine Ret.intro (rs := [.tmp 4]) T_ok Try.func21 rfl rfl Try.ntmps21 rfl (by simp [AV.lo]) (fun E => vc_sound T_ok _ ?_)
  repeat' first | (with_reducible first | refine z1 ?_ ?_ | refine z2 ?_ ?_ | refine z3 ?_ ?_ | refine z4 ?_ ?_ | refine z5 ?_ ?_ | refine z6 ?_ ?_ | refine z7 ?_ ?_ | refine z8 ?_ ?_ | refine z9 ?_ ?_ | intro _) | ((with_reducible first | refine z10 ?_ ?_ | refine z11 ?_ ?_ | refine z12 ?_ ?_); ((try simp only [decide_eq_true_eq, List.length_append, List.length_map, List.length_cons, List.length_nil, List.length_take, List.length_replicate]); omega)) | ((with_reducible refine z13 T_ok follows_ok ?_ ?_ ?_); rfl; kernel_rfl) | ((with_reducible refine z14 T_ok follows_ok ?_ ?_); kernel_rfl) | ((with_reducible refine z15 ?_ ?_); rfl) | simp only [push_cast, ↓reduceIte, Nat.reduceAdd, Nat.reduceSub, Nat.reduceMul, Nat.reduceLT, Nat.reduceLeDiff, Nat.reduceEqDiff, Nat.reduceDiv, Int.reduceNeg, Int.reduceEq, Int.reduceLT, Int.reduceLE, Int.reduceToNat, reduceCtorEq, ↓Int.cast_ofNat_Int, *] | omega | exact nl_of (by assumption) (by assumption)
  · rw [show sameFrom xs ys = false from by unfold sameFrom; simp_all <;> omega]
  · refine vc_of_loop T_ok (ι := {i : Nat // i ≤ xs.length ∧ ∀ j, j < i → decide (xs.getD j default = ys.getD j default) = true}) (fun i => ⟨.c (intsV nl f xs) :: .c (intsV nl' f' ys) :: .junk :: .junk :: .junk :: iv i.1 :: List.replicate 20 .junk, objsOf [], 1⟩) (fun i => xs.length - i.1) ⟨0, by simp⟩ ?_ ?_
    · refine Le.of (by repeat' first | exact trivial | refine ⟨Or.inr rfl, ?_⟩ | refine ⟨Or.inl rfl, ?_⟩) (by simp [AV.lo]) (by simp [leO, objsOf, upd, AObj.lo, AV.lo, AObj.kill, AV.kill, AObj.frz, AV.frz]) (by omega)
    · rintro ⟨i, hi, hall⟩
      have e0 : i < xs.length → IntKind.wrap .i64 (↑i + 1) = ↑i + 1 := fun _ => wrap_i64 (by omega) (by omega)
      have e1 : i < xs.length → i < ys.length := fun _ => by omega
      have e2 : i < xs.length → nl = false := fun h => nl_of hn h
      have e3 : i < xs.length → nl' = false := fun h => nl_of hn' (e1 h)
      repeat' first | (with_reducible first | refine z1 ?_ ?_ | refine z2 ?_ ?_ | refine z3 ?_ ?_ | refine z4 ?_ ?_ | refine z5 ?_ ?_ | refine z6 ?_ ?_ | refine z7 ?_ ?_ | refine z8 ?_ ?_ | refine z9 ?_ ?_ | intro _) | ((with_reducible first | refine z10 ?_ ?_ | refine z11 ?_ ?_ | refine z12 ?_ ?_); ((try simp only [decide_eq_true_eq, List.length_append, List.length_map, List.length_cons, List.length_nil, List.length_take, List.length_replicate]); omega)) | ((with_reducible refine z13 T_ok follows_ok ?_ ?_ ?_); rfl; kernel_rfl) | ((with_reducible refine z14 T_ok follows_ok ?_ ?_); kernel_rfl) | ((with_reducible refine z15 ?_ ?_); rfl) | simp only [push_cast, ↓reduceIte, Nat.reduceAdd, Nat.reduceSub, Nat.reduceMul, Nat.reduceLT, Nat.reduceLeDiff, Nat.reduceEqDiff, Nat.reduceDiv, Int.reduceNeg, Int.reduceEq, Int.reduceLT, Int.reduceLE, Int.reduceToNat, reduceCtorEq, ↓Int.cast_ofNat_Int, *, intRow] | omega | exact nl_of (by assumption) (by assumption)
      · rw [show sameFrom xs ys = false from by unfold sameFrom; rw [allN_false (i := i) ‹_› (by simp_all)]; simp]
      · refine ⟨⟨i + 1, by omega, below_succ hall (by simp_all)⟩, ?_, by simp only; omega⟩
        refine Le.of (by repeat' first | exact trivial | refine ⟨Or.inr rfl, ?_⟩ | refine ⟨Or.inl rfl, ?_⟩) (by simp [AV.lo]) (by simp [leO, objsOf, upd, AObj.lo, AV.lo, AObj.kill, AV.kill, AObj.frz, AV.frz]) (by omega)
      · rw [show sameFrom xs ys = true from by unfold sameFrom; rw [allN_true (i := i) (by omega) hall]; simp; omega]
theorem same_self (xs : List Int) : sameFrom xs xs = true := by
  unfold sameFrom
  rw [allN_true (i := xs.length) (by omega) (by simp)]
  simp
def szFt (l n k : Int) : Int := if IntKind.wrap .i64 (l - n) < 0 then -1 else if szI (IntKind.wrap .i64 (l - n)) k < 0 then -1 else szI (IntKind.wrap .i64 (l - n)) k
def featOk (b : ByteArray) (xs : List Int) : Bool := isName b && (decide (xs.length = 6) && allN (fun i => inB (xs.getD i default) 0 255) xs.length)
set_option maxHeartbeats 1000000 in
theorem ret_indexInt (g : FuncId) (p : Int → Bool) (hg : ∀ x, Ret Try.prog g none [iv x] [] (.c (bc (p x)))) (nl f : Bool) (xs : List Int) (hn : nl = true → xs = []) (hl : xs.length ≤ 9223372036854775807) :
    Ret Try.prog 142 none [.c (intsV nl f xs), .c (.fn g [])] [] (.c (ic (ixOf (fun i => p (xs.getD i default)) xs.length))) := by
  refine Ret.intro (rs := [.tmp 4]) T_ok Try.func142 rfl rfl Try.ntmps142 rfl (by simp [AV.lo]) (fun E => vc_sound T_ok _ ?_)
  repeat' first | (with_reducible first | refine z1 ?_ ?_ | refine z2 ?_ ?_ | refine z3 ?_ ?_ | refine z4 ?_ ?_ | refine z5 ?_ ?_ | refine z6 ?_ ?_ | refine z7 ?_ ?_ | refine z8 ?_ ?_ | refine z9 ?_ ?_ | intro _) | ((with_reducible first | refine z10 ?_ ?_ | refine z11 ?_ ?_ | refine z12 ?_ ?_); ((try simp only [decide_eq_true_eq, List.length_append, List.length_map, List.length_cons, List.length_nil, List.length_take, List.length_replicate]); omega)) | ((with_reducible refine z13 T_ok follows_ok ?_ ?_ ?_); rfl; kernel_rfl) | ((with_reducible refine z14 T_ok follows_ok ?_ ?_); kernel_rfl) | ((with_reducible refine z15 ?_ ?_); rfl) | simp only [push_cast, ↓reduceIte, Nat.reduceAdd, Nat.reduceSub, Nat.reduceMul, Nat.reduceLT, Nat.reduceLeDiff, Nat.reduceEqDiff, Nat.reduceDiv, Int.reduceNeg, Int.reduceEq, Int.reduceLT, Int.reduceLE, Int.reduceToNat, reduceCtorEq, ↓Int.cast_ofNat_Int, *] | omega | exact nl_of (by assumption) (by assumption)
  refine vc_of_loop T_ok (ι := {i : Nat // i ≤ xs.length ∧ ∀ j, j < i → (!p (xs.getD j default)) = true}) (fun i => ⟨.c (intsV nl f xs) :: .c (.fn g []) :: (List.replicate 5 .junk ++ iv xs.length :: iv i.1 :: List.replicate 10 .junk), objsOf [], 1⟩) (fun i => xs.length - i.1) ⟨0, by simp⟩ ?_ ?_
  · refine Le.of (by repeat' first | exact trivial | refine ⟨Or.inr rfl, ?_⟩ | refine ⟨Or.inl rfl, ?_⟩) (by simp [AV.lo]) (by simp [leO, objsOf, upd, AObj.lo, AV.lo, AObj.kill, AV.kill, AObj.frz, AV.frz]) (by omega)
  · rintro ⟨i, hi, hall⟩
    have e0 : i < xs.length → IntKind.wrap .i64 (↑i + 1) = ↑i + 1 := fun _ => wrap_i64 (by omega) (by omega)
    have e2 : i < xs.length → nl = false := fun h => nl_of hn h
    repeat' first | (with_reducible first | refine z1 ?_ ?_ | refine z2 ?_ ?_ | refine z3 ?_ ?_ | refine z4 ?_ ?_ | refine z5 ?_ ?_ | refine z6 ?_ ?_ | refine z7 ?_ ?_ | refine z8 ?_ ?_ | refine z9 ?_ ?_ | intro _) | ((with_reducible first | refine z10 ?_ ?_ | refine z11 ?_ ?_ | refine z12 ?_ ?_); ((try simp only [decide_eq_true_eq, List.length_append, List.length_map, List.length_cons, List.length_nil, List.length_take, List.length_replicate]); omega)) | ((with_reducible refine z13 T_ok follows_ok ?_ ?_ ?_); rfl; kernel_rfl) | ((with_reducible refine z14 T_ok follows_ok ?_ ?_); kernel_rfl) | ((with_reducible refine z15 ?_ ?_); rfl) | ((with_reducible refine z16 ?_); refine ⟨_, (by exact hg _), (by exact rfl), ?_⟩) | simp only [push_cast, ↓reduceIte, Nat.reduceAdd, Nat.reduceSub, Nat.reduceMul, Nat.reduceLT, Nat.reduceLeDiff, Nat.reduceEqDiff, Nat.reduceDiv, Int.reduceNeg, Int.reduceEq, Int.reduceLT, Int.reduceLE, Int.reduceToNat, reduceCtorEq, ↓Int.cast_ofNat_Int, *, intRow] | omega | exact nl_of (by assumption) (by assumption)
    · rw [ixOf_at (i := i) ‹_› (by simp_all) hall]
    · refine ⟨⟨i + 1, by omega, below_succ hall (by simp_all)⟩, ?_, by simp only; omega⟩
      refine Le.of (by repeat' first | exact trivial | refine ⟨Or.inr rfl, ?_⟩ | refine ⟨Or.inl rfl, ?_⟩) (by simp [AV.lo]) (by simp [leO, objsOf, upd, AObj.lo, AV.lo, AObj.kill, AV.kill, AObj.frz, AV.frz]) (by omega)
    · rw [ixOf_none (i := i) (by omega) hall]
theorem ret_containsInt (g : FuncId) (p : Int → Bool) (hg : ∀ x, Ret Try.prog g none [iv x] [] (.c (bc (p x)))) (nl f : Bool) (xs : List Int) (hn : nl = true → xs = []) (hl : xs.length ≤ 9223372036854775807) :
    Ret Try.prog 99 none [.c (intsV nl f xs), .c (.fn g [])] [] (.c (bc (!allN (fun i => !p (xs.getD i default)) xs.length))) := by
  refine Ret.intro (rs := [.tmp 4]) T_ok Try.func99 rfl rfl Try.ntmps99 rfl (by simp [AV.lo]) (fun E => vc_sound T_ok _ ?_)
  repeat' first | (with_reducible first | refine z1 ?_ ?_ | refine z2 ?_ ?_ | refine z3 ?_ ?_ | refine z4 ?_ ?_ | refine z5 ?_ ?_ | refine z6 ?_ ?_ | refine z7 ?_ ?_ | refine z8 ?_ ?_ | refine z9 ?_ ?_ | intro _) | ((with_reducible first | refine z10 ?_ ?_ | refine z11 ?_ ?_ | refine z12 ?_ ?_); ((try simp only [decide_eq_true_eq, List.length_append, List.length_map, List.length_cons, List.length_nil, List.length_take, List.length_replicate]); omega)) | ((with_reducible refine z13 T_ok follows_ok ?_ ?_ ?_); rfl; kernel_rfl) | ((with_reducible refine z14 T_ok follows_ok ?_ ?_); kernel_rfl) | ((with_reducible refine z15 ?_ ?_); rfl) | ((with_reducible refine z16 ?_); refine ⟨_, (by exact (ret_indexInt _ _ hg _ _ _ hn hl)), (by exact rfl), ?_⟩) | simp only [push_cast, ↓reduceIte, Nat.reduceAdd, Nat.reduceSub, Nat.reduceMul, Nat.reduceLT, Nat.reduceLeDiff, Nat.reduceEqDiff, Nat.reduceDiv, Int.reduceNeg, Int.reduceEq, Int.reduceLT, Int.reduceLE, Int.reduceToNat, reduceCtorEq, ↓Int.cast_ofNat_Int, *, ixOf_nonneg] | omega | exact nl_of (by assumption) (by assumption)
theorem szFt_ge {n k : Nat} {l : Int} (h : ¬ szFt l n k < 0) (hn : n ≤ 9223372036854775807) (hk : k ≤ 9223372036854775807) (h0 : 0 ≤ l) (hl : l ≤ 1048576) : k ≤ 1048576 ∧ 0 ≤ szFt l n k ∧ szFt l n k ≤ 1048576 := by
  have e1 : IntKind.wrap .i64 (l - n) = l - n := wrap_i64 (by omega) (by omega)
  by_cases c1 : l - n < 0
  · simp only [szFt, e1, if_pos c1] at h
    omega
  · have e2 : IntKind.wrap .i64 (l - n - k) = l - n - k := wrap_i64 (by omega) (by omega)
    by_cases c2 : l - n - k < 0
    · simp only [szFt, szI, e1, e2, if_neg c1, if_pos c2] at h
      omega
    · simp only [szFt, szI, e1, e2, if_neg c1, if_neg c2]
      omega
end Go.Proofs.Ytijkfgpnajdckaa.Fw
