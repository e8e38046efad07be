/- Contracts of small functions: bounds, names, bonds; and of the law FnExactValidBond. No condition. -/
import Derived.Test.YtijkfgpnajdckaaFwYd
import Derived.Test.YtijkfgpnajdckaaTab
namespace Go.Proofs.Ytijkfgpnajdckaa.Fw
open Go.RowKit
set_option linter.unusedSimpArgs false
set_option maxRecDepth 100000
def inB (a b c : Int) : Bool := decide (b ≤ a) && decide (a ≤ c)
def smallB (c : Int) : Bool := decide (97 ≤ c) && decide (c ≤ 122)
def digitB (c : Int) : Bool := decide (48 ≤ c) && decide (c ≤ 57)
def isName (b : ByteArray) : Bool := decide (1 ≤ b.size) && (decide (b.size ≤ 10) && (smallB (byteAt b 0) && (List.range b.size).all fun i => smallB (byteAt b i) || digitB (byteAt b i)))

theorem ret_l00In (a b c : Int) : Ret Try.prog 105 none [iv a, iv b, iv c] [] (.c (bc (inB a b c))) := by
  refine Ret.intro (rs := [.tmp 6]) T_ok Try.func105 rfl rfl Try.ntmps105 rfl (by simp [AV.lo]) (fun E => vc_sound T_ok _ ?_)
  repeat' first | (with_reducible first | refine z1 ?_ ?_ | refine z2 ?_ ?_ | refine z3 ?_ ?_ | refine z4 ?_ ?_ | refine z5 ?_ ?_ | refine z6 ?_ ?_ | refine z7 ?_ ?_ | refine z8 ?_ ?_ | refine z9 ?_ ?_ | intro _) | ((with_reducible first | refine z10 ?_ ?_ | refine z11 ?_ ?_ | refine z12 ?_ ?_); ((try simp only [decide_eq_true_eq, List.length_append, List.length_map, List.length_cons, List.length_nil, List.length_take, List.length_replicate]); omega)) | ((with_reducible refine z13 T_ok follows_ok ?_ ?_ ?_); rfl; kernel_rfl) | ((with_reducible refine z14 T_ok follows_ok ?_ ?_); kernel_rfl) | ((with_reducible refine z15 ?_ ?_); rfl) | simp only [push_cast, ↓reduceIte, Nat.reduceAdd, Nat.reduceSub, Nat.reduceMul, Nat.reduceLT, Nat.reduceLeDiff, Nat.reduceEqDiff, Nat.reduceDiv, Int.reduceNeg, Int.reduceEq, Int.reduceLT, Int.reduceLE, Int.reduceToNat, reduceCtorEq, ↓Int.cast_ofNat_Int, *] | omega | exact nl_of (by assumption) (by assumption)
  all_goals simp [inB, *]
theorem ret_l01Small (a : Int) : Ret Try.prog 148 none [.c (.v (.int .u8 a))] [] (.c (bc (smallB a))) := by
  refine Ret.intro (rs := [.tmp 2]) T_ok Try.func148 rfl rfl Try.ntmps148 rfl (by simp [AV.lo]) (fun E => vc_sound T_ok _ ?_)
  repeat' first | (with_reducible first | refine z1 ?_ ?_ | refine z2 ?_ ?_ | refine z3 ?_ ?_ | refine z4 ?_ ?_ | refine z5 ?_ ?_ | refine z6 ?_ ?_ | refine z7 ?_ ?_ | refine z8 ?_ ?_ | refine z9 ?_ ?_ | intro _) | ((with_reducible first | refine z10 ?_ ?_ | refine z11 ?_ ?_ | refine z12 ?_ ?_); ((try simp only [decide_eq_true_eq, List.length_append, List.length_map, List.length_cons, List.length_nil, List.length_take, List.length_replicate]); omega)) | ((with_reducible refine z13 T_ok follows_ok ?_ ?_ ?_); rfl; kernel_rfl) | ((with_reducible refine z14 T_ok follows_ok ?_ ?_); kernel_rfl) | ((with_reducible refine z15 ?_ ?_); rfl) | simp only [push_cast, ↓reduceIte, Nat.reduceAdd, Nat.reduceSub, Nat.reduceMul, Nat.reduceLT, Nat.reduceLeDiff, Nat.reduceEqDiff, Nat.reduceDiv, Int.reduceNeg, Int.reduceEq, Int.reduceLT, Int.reduceLE, Int.reduceToNat, reduceCtorEq, ↓Int.cast_ofNat_Int, *] | omega | exact nl_of (by assumption) (by assumption)
  all_goals simp [smallB, *]
  done
theorem ret_l01Digit (a : Int) : Ret Try.prog 149 none [.c (.v (.int .u8 a))] [] (.c (bc (digitB a))) := by
  refine Ret.intro (rs := [.tmp 2]) T_ok Try.func149 rfl rfl Try.ntmps149 rfl (by simp [AV.lo]) (fun E => vc_sound T_ok _ ?_)
  repeat' first | (with_reducible first | refine z1 ?_ ?_ | refine z2 ?_ ?_ | refine z3 ?_ ?_ | refine z4 ?_ ?_ | refine z5 ?_ ?_ | refine z6 ?_ ?_ | refine z7 ?_ ?_ | refine z8 ?_ ?_ | refine z9 ?_ ?_ | intro _) | ((with_reducible first | refine z10 ?_ ?_ | refine z11 ?_ ?_ | refine z12 ?_ ?_); ((try simp only [decide_eq_true_eq, List.length_append, List.length_map, List.length_cons, List.length_nil, List.length_take, List.length_replicate]); omega)) | ((with_reducible refine z13 T_ok follows_ok ?_ ?_ ?_); rfl; kernel_rfl) | ((with_reducible refine z14 T_ok follows_ok ?_ ?_); kernel_rfl) | ((with_reducible refine z15 ?_ ?_); rfl) | simp only [push_cast, ↓reduceIte, Nat.reduceAdd, Nat.reduceSub, Nat.reduceMul, Nat.reduceLT, Nat.reduceLeDiff, Nat.reduceEqDiff, Nat.reduceDiv, Int.reduceNeg, Int.reduceEq, Int.reduceLT, Int.reduceLE, Int.reduceToNat, reduceCtorEq, ↓Int.cast_ofNat_Int, *] | omega | exact nl_of (by assumption) (by assumption)
  all_goals simp [digitB, *]
  done


def okB (b : ByteArray) (i : Nat) : Bool := smallB (byteAt b i) || digitB (byteAt b i)
theorem isName_false {b : ByteArray} {i : Nat} (hi : i < b.size) (h : okB b i = false) : isName b = false := by
  have h2 : ((List.range b.size).all fun i => smallB (byteAt b i) || digitB (byteAt b i)) = false := by
    rw [Bool.eq_false_iff]
    intro hc
    rw [List.all_eq_true] at hc
    have := hc i (List.mem_range.2 hi)
    unfold okB at h
    rw [h] at this
    cases this
  simp only [isName, h2, Bool.and_false]
theorem isName_true {b : ByteArray} {n : Nat} (h1 : 1 ≤ b.size) (h2 : b.size ≤ 10) (h3 : smallB (byteAt b 0) = true) (hn : b.size ≤ n) (h : ∀ i, i < n → okB b i = true) : isName b = true := by
  simp only [isName, h1, h2, h3, decide_true, Bool.true_and, List.all_eq_true, List.mem_range]
  exact fun i hi => h i (by omega)
set_option maxHeartbeats 1000000 in
theorem ret_IsName (b : ByteArray) : Ret Try.prog 126 none [sv b] [] (.c (bc (isName b))) := by
  refine Ret.intro (rs := [.tmp 2]) T_ok Try.func126 rfl rfl Try.ntmps126 rfl (by simp [AV.lo]) (fun E => vc_sound T_ok _ ?_)
  repeat' first | (with_reducible first | refine z1 ?_ ?_ | refine z2 ?_ ?_ | refine z3 ?_ ?_ | refine z4 ?_ ?_ | refine z5 ?_ ?_ | refine z6 ?_ ?_ | refine z7 ?_ ?_ | refine z8 ?_ ?_ | refine z9 ?_ ?_ | intro _) | ((with_reducible first | refine z10 ?_ ?_ | refine z11 ?_ ?_ | refine z12 ?_ ?_); ((try simp only [decide_eq_true_eq, List.length_append, List.length_map, List.length_cons, List.length_nil, List.length_take, List.length_replicate]); omega)) | ((with_reducible refine z13 T_ok follows_ok ?_ ?_ ?_); rfl; kernel_rfl) | ((with_reducible refine z14 T_ok follows_ok ?_ ?_); kernel_rfl) | ((with_reducible refine z15 ?_ ?_); rfl) | simp only [push_cast, ↓reduceIte, Nat.reduceAdd, Nat.reduceSub, Nat.reduceMul, Nat.reduceLT, Nat.reduceLeDiff, Nat.reduceEqDiff, Nat.reduceDiv, Int.reduceNeg, Int.reduceEq, Int.reduceLT, Int.reduceLE, Int.reduceToNat, reduceCtorEq, ↓Int.cast_ofNat_Int, *] | omega | exact nl_of (by assumption) (by assumption)
  · have : isName b = false := by simp [isName, smallB]; omega
    rw [this]
  · refine vc_of_loop T_ok (ι := {i : Nat // i ≤ b.size ∧ ∀ j, j < i → okB b j = true}) (fun i => ⟨sv b :: (List.replicate 2 .junk ++ iv i.1 :: List.replicate 46 .junk), objsOf [], 1⟩) (fun i => b.size - i.1) ⟨0, by simp⟩ ?_ ?_
    · refine Le.of (by repeat' first | exact trivial | refine ⟨Or.inr rfl, ?_⟩ | refine ⟨Or.inl rfl, ?_⟩) (by simp [AV.lo]) (by simp [leO, objsOf, upd, AObj.lo, AV.lo, AObj.kill, AV.kill, AObj.frz, AV.frz]) (by omega)
    · rintro ⟨i, hi, hall⟩
      repeat' first | (with_reducible first | refine z1 ?_ ?_ | refine z2 ?_ ?_ | refine z3 ?_ ?_ | refine z4 ?_ ?_ | refine z5 ?_ ?_ | refine z6 ?_ ?_ | refine z7 ?_ ?_ | refine z8 ?_ ?_ | refine z9 ?_ ?_ | intro _) | ((with_reducible first | refine z10 ?_ ?_ | refine z11 ?_ ?_ | refine z12 ?_ ?_); ((try simp only [decide_eq_true_eq, List.length_append, List.length_map, List.length_cons, List.length_nil, List.length_take, List.length_replicate]); omega)) | ((with_reducible refine z13 T_ok follows_ok ?_ ?_ ?_); rfl; kernel_rfl) | ((with_reducible refine z14 T_ok follows_ok ?_ ?_); kernel_rfl) | ((with_reducible refine z15 ?_ ?_); rfl) | simp only [push_cast, ↓reduceIte, Nat.reduceAdd, Nat.reduceSub, Nat.reduceMul, Nat.reduceLT, Nat.reduceLeDiff, Nat.reduceEqDiff, Nat.reduceDiv, Int.reduceNeg, Int.reduceEq, Int.reduceLT, Int.reduceLE, Int.reduceToNat, reduceCtorEq, ↓Int.cast_ofNat_Int, *] | omega | exact nl_of (by assumption) (by assumption)
      all_goals first
        | (rw [isName_false (i := i) (by omega) (by simp [okB, smallB, digitB]; omega)]; done)
        | (rw [isName_true (n := i) (by omega) (by omega) (by simp [smallB]; omega) (by omega) hall]; done)
        | (have e : IntKind.wrap .i64 (↑i + 1) = ((i + 1 : Nat) : Int) := wrap_i64 (by omega) (by omega)
           rw [e]
           refine ⟨⟨i + 1, by omega, below_succ hall (by simp [okB, smallB, digitB]; omega)⟩, ?_, by simp only; omega⟩
           refine Le.of (by repeat' first | exact trivial | refine ⟨Or.inr rfl, ?_⟩ | refine ⟨Or.inl rfl, ?_⟩) (by simp [AV.lo]) (by simp [leO, objsOf, upd, AObj.lo, AV.lo, AObj.kill, AV.kill, AObj.frz, AV.frz]) (by omega))
  all_goals (have : isName b = false := by (simp [isName, smallB]; omega)); rw [this]

set_option maxHeartbeats 1000000 in
theorem ret_l01Name (b : ByteArray) : Ret Try.prog 118 none [sv b] [] (.c (bc (isName b))) := by
  refine Ret.intro (rs := [.tmp 2]) T_ok Try.func118 rfl rfl Try.ntmps118 rfl (by simp [AV.lo]) (fun E => vc_sound T_ok _ ?_)
  repeat' first | (with_reducible first | refine z1 ?_ ?_ | refine z2 ?_ ?_ | refine z3 ?_ ?_ | refine z4 ?_ ?_ | refine z5 ?_ ?_ | refine z6 ?_ ?_ | refine z7 ?_ ?_ | refine z8 ?_ ?_ | refine z9 ?_ ?_ | intro _) | ((with_reducible first | refine z10 ?_ ?_ | refine z11 ?_ ?_ | refine z12 ?_ ?_); ((try simp only [decide_eq_true_eq, List.length_append, List.length_map, List.length_cons, List.length_nil, List.length_take, List.length_replicate]); omega)) | ((with_reducible refine z13 T_ok follows_ok ?_ ?_ ?_); rfl; kernel_rfl) | ((with_reducible refine z14 T_ok follows_ok ?_ ?_); kernel_rfl) | ((with_reducible refine z15 ?_ ?_); rfl) | ((with_reducible refine z16 ?_); refine ⟨_, (by first | exact ret_l01Small _ | exact ret_l01Digit _), (by exact rfl), ?_⟩) | simp only [push_cast, ↓reduceIte, Nat.reduceAdd, Nat.reduceSub, Nat.reduceMul, Nat.reduceLT, Nat.reduceLeDiff, Nat.reduceEqDiff, Nat.reduceDiv, Int.reduceNeg, Int.reduceEq, Int.reduceLT, Int.reduceLE, Int.reduceToNat, reduceCtorEq, ↓Int.cast_ofNat_Int, *] | omega | exact nl_of (by assumption) (by assumption)
  · have : isName b = false := by simp_all [isName]
    rw [this]
  · refine vc_of_loop T_ok (ι := {i : Nat // i ≤ b.size ∧ ∀ j, j < i → okB b j = true}) (fun i => ⟨sv b :: (List.replicate 2 .junk ++ iv i.1 :: List.replicate 31 .junk), objsOf [], 1⟩) (fun i => b.size - i.1) ⟨0, by simp⟩ ?_ ?_
    · refine Le.of (by repeat' first | exact trivial | refine ⟨Or.inr rfl, ?_⟩ | refine ⟨Or.inl rfl, ?_⟩) (by simp [AV.lo]) (by simp [leO, objsOf, upd, AObj.lo, AV.lo, AObj.kill, AV.kill, AObj.frz, AV.frz]) (by omega)
    · rintro ⟨i, hi, hall⟩
      repeat' first | (with_reducible first | refine z1 ?_ ?_ | refine z2 ?_ ?_ | refine z3 ?_ ?_ | refine z4 ?_ ?_ | refine z5 ?_ ?_ | refine z6 ?_ ?_ | refine z7 ?_ ?_ | refine z8 ?_ ?_ | refine z9 ?_ ?_ | intro _) | ((with_reducible first | refine z10 ?_ ?_ | refine z11 ?_ ?_ | refine z12 ?_ ?_); ((try simp only [decide_eq_true_eq, List.length_append, List.length_map, List.length_cons, List.length_nil, List.length_take, List.length_replicate]); omega)) | ((with_reducible refine z13 T_ok follows_ok ?_ ?_ ?_); rfl; kernel_rfl) | ((with_reducible refine z14 T_ok follows_ok ?_ ?_); kernel_rfl) | ((with_reducible refine z15 ?_ ?_); rfl) | ((with_reducible refine z16 ?_); refine ⟨_, (by first | exact ret_l01Small _ | exact ret_l01Digit _), (by exact rfl), ?_⟩) | simp only [push_cast, ↓reduceIte, Nat.reduceAdd, Nat.reduceSub, Nat.reduceMul, Nat.reduceLT, Nat.reduceLeDiff, Nat.reduceEqDiff, Nat.reduceDiv, Int.reduceNeg, Int.reduceEq, Int.reduceLT, Int.reduceLE, Int.reduceToNat, reduceCtorEq, ↓Int.cast_ofNat_Int, *] | omega | exact nl_of (by assumption) (by assumption)
      all_goals first
        | (rw [isName_false (i := i) (by omega) (by simp_all [okB])]; done)
        | (rw [isName_true (n := i) (by omega) (by omega) (by simp_all) (by omega) hall]; done)
        | (have e : IntKind.wrap .i64 (↑i + 1) = ((i + 1 : Nat) : Int) := wrap_i64 (by omega) (by omega)
           rw [e]
           refine ⟨⟨i + 1, by omega, below_succ hall (by simp_all [okB])⟩, ?_, by simp only; omega⟩
           refine Le.of (by repeat' first | exact trivial | refine ⟨Or.inr rfl, ?_⟩ | refine ⟨Or.inl rfl, ?_⟩) (by simp [AV.lo]) (by simp [leO, objsOf, upd, AObj.lo, AV.lo, AObj.kill, AV.kill, AObj.frz, AV.frz]) (by omega))
  · have : isName b = false := by (simp [isName]; omega)
    rw [this]
  · have : isName b = false := by (simp [isName]; omega)
    rw [this]
theorem ret_within (a b c : Int) : Ret Try.prog 68 none [iv a, iv b, iv c] [] (.c (bc (inB a b c))) := by
  refine Ret.intro (rs := [.tmp 6]) T_ok Try.func68 rfl rfl Try.ntmps68 rfl (by simp [AV.lo]) (fun E => vc_sound T_ok _ ?_)
  repeat' first | (with_reducible first | refine z1 ?_ ?_ | refine z2 ?_ ?_ | refine z3 ?_ ?_ | refine z4 ?_ ?_ | refine z5 ?_ ?_ | refine z6 ?_ ?_ | refine z7 ?_ ?_ | refine z8 ?_ ?_ | refine z9 ?_ ?_ | intro _) | ((with_reducible first | refine z10 ?_ ?_ | refine z11 ?_ ?_ | refine z12 ?_ ?_); ((try simp only [decide_eq_true_eq, List.length_append, List.length_map, List.length_cons, List.length_nil, List.length_take, List.length_replicate]); omega)) | ((with_reducible refine z13 T_ok follows_ok ?_ ?_ ?_); rfl; kernel_rfl) | ((with_reducible refine z14 T_ok follows_ok ?_ ?_); kernel_rfl) | ((with_reducible refine z15 ?_ ?_); rfl) | simp only [push_cast, ↓reduceIte, Nat.reduceAdd, Nat.reduceSub, Nat.reduceMul, Nat.reduceLT, Nat.reduceLeDiff, Nat.reduceEqDiff, Nat.reduceDiv, Int.reduceNeg, Int.reduceEq, Int.reduceLT, Int.reduceLE, Int.reduceToNat, reduceCtorEq, ↓Int.cast_ofNat_Int, *] | omega | exact nl_of (by assumption) (by assumption)
  all_goals simp [inB, *]
def validBond (n : ByteArray) (a b c : Int) : Bool := isName n && (inB a 1 120 && (inB b a 240 && inB c 1 1440))
theorem ret_l24One (n : ByteArray) (a b c : Int) : Ret Try.prog 143 none [.c (.rp [sc n, ic a, ic b, ic c])] [] (.c (bc (validBond n a b c))) := by
  refine Ret.intro (rs := [.tmp 2]) T_ok Try.func143 rfl rfl Try.ntmps143 rfl (by simp [AV.lo]) (fun E => vc_sound T_ok _ ?_)
  repeat' first | (with_reducible first | refine z1 ?_ ?_ | refine z2 ?_ ?_ | refine z3 ?_ ?_ | refine z4 ?_ ?_ | refine z5 ?_ ?_ | refine z6 ?_ ?_ | refine z7 ?_ ?_ | refine z8 ?_ ?_ | refine z9 ?_ ?_ | intro _) | ((with_reducible first | refine z10 ?_ ?_ | refine z11 ?_ ?_ | refine z12 ?_ ?_); ((try simp only [decide_eq_true_eq, List.length_append, List.length_map, List.length_cons, List.length_nil, List.length_take, List.length_replicate]); omega)) | ((with_reducible refine z13 T_ok follows_ok ?_ ?_ ?_); rfl; kernel_rfl) | ((with_reducible refine z14 T_ok follows_ok ?_ ?_); kernel_rfl) | ((with_reducible refine z15 ?_ ?_); rfl) | ((with_reducible refine z16 ?_); refine ⟨_, (by first | exact ret_l01Name _ | exact ret_l00In _ _ _), (by exact rfl), ?_⟩) | simp only [push_cast, ↓reduceIte, Nat.reduceAdd, Nat.reduceSub, Nat.reduceMul, Nat.reduceLT, Nat.reduceLeDiff, Nat.reduceEqDiff, Nat.reduceDiv, Int.reduceNeg, Int.reduceEq, Int.reduceLT, Int.reduceLE, Int.reduceToNat, reduceCtorEq, ↓Int.cast_ofNat_Int, *] | omega | exact nl_of (by assumption) (by assumption)
  all_goals simp [validBond, *]
theorem ret_iValidBond (n : ByteArray) (a b c : Int) : Ret Try.prog 144 none [.agg [sv n, iv a, iv b, iv c]] [] (.c (bc (validBond n a b c))) := by
  refine Ret.intro (rs := [.tmp 2]) T_ok Try.func144 rfl rfl Try.ntmps144 rfl (by simp [AV.lo]) (fun E => vc_sound T_ok _ ?_)
  repeat' first | (with_reducible first | refine z1 ?_ ?_ | refine z2 ?_ ?_ | refine z3 ?_ ?_ | refine z4 ?_ ?_ | refine z5 ?_ ?_ | refine z6 ?_ ?_ | refine z7 ?_ ?_ | refine z8 ?_ ?_ | refine z9 ?_ ?_ | intro _) | ((with_reducible first | refine z10 ?_ ?_ | refine z11 ?_ ?_ | refine z12 ?_ ?_); ((try simp only [decide_eq_true_eq, List.length_append, List.length_map, List.length_cons, List.length_nil, List.length_take, List.length_replicate]); omega)) | ((with_reducible refine z13 T_ok follows_ok ?_ ?_ ?_); rfl; kernel_rfl) | ((with_reducible refine z14 T_ok follows_ok ?_ ?_); kernel_rfl) | ((with_reducible refine z15 ?_ ?_); rfl) | ((with_reducible refine z16 ?_); refine ⟨_, (by first | exact ret_IsName _ | exact ret_within _ _ _), (by exact rfl), ?_⟩) | simp only [push_cast, ↓reduceIte, Nat.reduceAdd, Nat.reduceSub, Nat.reduceMul, Nat.reduceLT, Nat.reduceLeDiff, Nat.reduceEqDiff, Nat.reduceDiv, Int.reduceNeg, Int.reduceEq, Int.reduceLT, Int.reduceLE, Int.reduceToNat, reduceCtorEq, ↓Int.cast_ofNat_Int, *] | omega | exact nl_of (by assumption) (by assumption)
  all_goals simp [validBond, *]

def szV (l n : Int) : Int := if IntKind.wrap .i64 (l - n) < 0 then -1 else IntKind.wrap .i64 (l - n)
theorem ret_szBond (n : ByteArray) (a b c l : Int) : Ret Try.prog 54 none [.agg [sv n, iv a, iv b, iv c], iv l] [] (.c (ic (szV l n.size))) := by
  refine Ret.intro (rs := [.tmp 4]) T_ok Try.func54 rfl rfl Try.ntmps54 rfl (by simp [AV.lo]) (fun E => vc_sound T_ok _ ?_)
  repeat' first | (with_reducible first | refine z1 ?_ ?_ | refine z2 ?_ ?_ | refine z3 ?_ ?_ | refine z4 ?_ ?_ | refine z5 ?_ ?_ | refine z6 ?_ ?_ | refine z7 ?_ ?_ | refine z8 ?_ ?_ | refine z9 ?_ ?_ | intro _) | ((with_reducible first | refine z10 ?_ ?_ | refine z11 ?_ ?_ | refine z12 ?_ ?_); ((try simp only [decide_eq_true_eq, List.length_append, List.length_map, List.length_cons, List.length_nil, List.length_take, List.length_replicate]); omega)) | ((with_reducible refine z13 T_ok follows_ok ?_ ?_ ?_); rfl; kernel_rfl) | ((with_reducible refine z14 T_ok follows_ok ?_ ?_); kernel_rfl) | ((with_reducible refine z15 ?_ ?_); rfl) | simp only [push_cast, ↓reduceIte, Nat.reduceAdd, Nat.reduceSub, Nat.reduceMul, Nat.reduceLT, Nat.reduceLeDiff, Nat.reduceEqDiff, Nat.reduceDiv, Int.reduceNeg, Int.reduceEq, Int.reduceLT, Int.reduceLE, Int.reduceToNat, reduceCtorEq, ↓Int.cast_ofNat_Int, *] | omega | exact nl_of (by assumption) (by assumption)
  all_goals simp [szV, *]
theorem ret_toBond (n : ByteArray) (a b c : Int) : Ret Try.prog 58 none [.agg [sv n, iv a, iv b, iv c]] [] (.agg [sc n, ic a, ic b, ic c]) := by
  refine Ret.intro (rs := [.cell 2 73]) T_ok Try.func58 rfl rfl Try.ntmps58 rfl (by simp [AV.lo]) (fun E => vc_sound T_ok _ ?_)
  repeat' first | (with_reducible first | refine z1 ?_ ?_ | refine z2 ?_ ?_ | refine z3 ?_ ?_ | refine z4 ?_ ?_ | refine z5 ?_ ?_ | refine z6 ?_ ?_ | refine z7 ?_ ?_ | refine z8 ?_ ?_ | refine z9 ?_ ?_ | intro _) | ((with_reducible first | refine z10 ?_ ?_ | refine z11 ?_ ?_ | refine z12 ?_ ?_); ((try simp only [decide_eq_true_eq, List.length_append, List.length_map, List.length_cons, List.length_nil, List.length_take, List.length_replicate]); omega)) | ((with_reducible refine z13 T_ok follows_ok ?_ ?_ ?_); rfl; kernel_rfl) | ((with_reducible refine z14 T_ok follows_ok ?_ ?_); kernel_rfl) | ((with_reducible refine z15 ?_ ?_); rfl) | simp only [push_cast, ↓reduceIte, Nat.reduceAdd, Nat.reduceSub, Nat.reduceMul, Nat.reduceLT, Nat.reduceLeDiff, Nat.reduceEqDiff, Nat.reduceDiv, Int.reduceNeg, Int.reduceEq, Int.reduceLT, Int.reduceLE, Int.reduceToNat, reduceCtorEq, ↓Int.cast_ofNat_Int, *] | omega | exact nl_of (by assumption) (by assumption)
end Go.Proofs.Ytijkfgpnajdckaa.Fw
