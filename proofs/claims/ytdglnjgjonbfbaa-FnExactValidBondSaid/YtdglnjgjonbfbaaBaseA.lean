/- Contracts of small functions: bounds, names, bonds; and of the law FnExactValidBond. No condition. -/
import Derived.Test.YtdglnjgjonbfbaaFwY
import Derived.Test.YtdglnjgjonbfbaaTab
namespace Go.Proofs.Ytdglnjgjonbfbaa.Fw
open Go.RowKit
set_option linter.unusedSimpArgs false
set_option maxRecDepth 100000
def inB (a b c : Int) : Bool := decide (b ≤ a) && decide (a ≤ c)
def smallB (c : Int) : Bool := decide (97 ≤ c) && decide (c ≤ 122)
def digitB (c : Int) : Bool := decide (48 ≤ c) && decide (c ≤ 57)
def isName (b : ByteArray) : Bool := decide (1 ≤ b.size) && (decide (b.size ≤ 10) && (smallB (byteAt b 0) && (List.range b.size).all fun i => smallB (byteAt b i) || digitB (byteAt b i)))

theorem ret_l00In (a b c : Int) : Ret Try.prog 80 none [iv a, iv b, iv c] [] (.c (bc (inB a b c))) := by
  refine Ret.intro (rs := [.tmp 6]) T_ok Try.func80 rfl rfl Try.ntmps80 rfl (by simp [AV.lo]) (fun E => vc_sound T_ok _ ?_)
  repeat' first | with_reducible refine Cnd_if (fun _ => ?_) (fun _ => ?_) | with_reducible refine Cnd_split (fun _ => ?_) (fun _ => ?_) | with_reducible refine Grd_if (fun _ => ?_) (fun _ => ?_) | with_reducible refine Grd_if' (fun _ => ?_) (fun _ => ?_) | with_reducible refine Grd_split (fun _ => ?_) (fun _ => ?_) | with_reducible refine Grd_split' (fun _ => ?_) (fun _ => ?_) | with_reducible refine Val_if ?_ ?_ | with_reducible refine Val_unless ?_ ?_ | (with_reducible refine vc_of_draw T_ok follows_ok ?_ ?_; kernel_rfl) | simp only [push_cast, ↓reduceIte, Nat.reduceAdd, Nat.reduceSub, Nat.reduceMul, Nat.reduceLT, Nat.reduceLeDiff, Nat.reduceEqDiff, Nat.reduceDiv, Int.reduceNeg, Int.reduceEq, Int.reduceLT, Int.reduceLE, Int.reduceToNat, Nat.succ_eq_add_one, reduceCtorEq, decide_true, decide_false, true_and, and_true, *] | omega
  all_goals simp [inB, *]
theorem ret_l01Small (a : Int) : Ret Try.prog 137 none [.c (.v (.int .u8 a))] [] (.c (bc (smallB a))) := by
  refine Ret.intro (rs := [.tmp 2]) T_ok Try.func137 rfl rfl Try.ntmps137 rfl (by simp [AV.lo]) (fun E => vc_sound T_ok _ ?_)
  repeat' first | with_reducible refine Cnd_if (fun _ => ?_) (fun _ => ?_) | with_reducible refine Cnd_split (fun _ => ?_) (fun _ => ?_) | with_reducible refine Grd_if (fun _ => ?_) (fun _ => ?_) | with_reducible refine Grd_if' (fun _ => ?_) (fun _ => ?_) | with_reducible refine Grd_split (fun _ => ?_) (fun _ => ?_) | with_reducible refine Grd_split' (fun _ => ?_) (fun _ => ?_) | with_reducible refine Val_if ?_ ?_ | with_reducible refine Val_unless ?_ ?_ | (with_reducible refine vc_of_draw T_ok follows_ok ?_ ?_; kernel_rfl) | simp only [push_cast, ↓reduceIte, Nat.reduceAdd, Nat.reduceSub, Nat.reduceMul, Nat.reduceLT, Nat.reduceLeDiff, Nat.reduceEqDiff, Nat.reduceDiv, Int.reduceNeg, Int.reduceEq, Int.reduceLT, Int.reduceLE, Int.reduceToNat, Nat.succ_eq_add_one, reduceCtorEq, decide_true, decide_false, true_and, and_true, *] | omega
  all_goals simp [smallB, *]
  done
theorem ret_l01Digit (a : Int) : Ret Try.prog 138 none [.c (.v (.int .u8 a))] [] (.c (bc (digitB a))) := by
  refine Ret.intro (rs := [.tmp 2]) T_ok Try.func138 rfl rfl Try.ntmps138 rfl (by simp [AV.lo]) (fun E => vc_sound T_ok _ ?_)
  repeat' first | with_reducible refine Cnd_if (fun _ => ?_) (fun _ => ?_) | with_reducible refine Cnd_split (fun _ => ?_) (fun _ => ?_) | with_reducible refine Grd_if (fun _ => ?_) (fun _ => ?_) | with_reducible refine Grd_if' (fun _ => ?_) (fun _ => ?_) | with_reducible refine Grd_split (fun _ => ?_) (fun _ => ?_) | with_reducible refine Grd_split' (fun _ => ?_) (fun _ => ?_) | with_reducible refine Val_if ?_ ?_ | with_reducible refine Val_unless ?_ ?_ | (with_reducible refine vc_of_draw T_ok follows_ok ?_ ?_; kernel_rfl) | simp only [push_cast, ↓reduceIte, Nat.reduceAdd, Nat.reduceSub, Nat.reduceMul, Nat.reduceLT, Nat.reduceLeDiff, Nat.reduceEqDiff, Nat.reduceDiv, Int.reduceNeg, Int.reduceEq, Int.reduceLT, Int.reduceLE, Int.reduceToNat, Nat.succ_eq_add_one, reduceCtorEq, decide_true, decide_false, true_and, and_true, *] | omega
  all_goals simp [digitB, *]
  done


def okB (b : ByteArray) (i : Nat) : Bool := smallB (byteAt b i) || digitB (byteAt b i)
theorem isName_false {b : ByteArray} {i : Nat} (hi : i < b.size) (h : okB b i = false) : isName b = false := by
  have h2 : ((List.range b.size).all fun i => smallB (byteAt b i) || digitB (byteAt b i)) = false := by
    rw [Bool.eq_false_iff]
    intro hc
    rw [List.all_eq_true] at hc
    have := hc i (List.mem_range.2 hi)
    unfold okB at h
    rw [h] at this
    cases this
  simp only [isName, h2, Bool.and_false]
theorem isName_true {b : ByteArray} {n : Nat} (h1 : 1 ≤ b.size) (h2 : b.size ≤ 10) (h3 : smallB (byteAt b 0) = true) (hn : b.size ≤ n) (h : ∀ i, i < n → okB b i = true) : isName b = true := by
  simp only [isName, h1, h2, h3, decide_true, Bool.true_and, List.all_eq_true, List.mem_range]
  exact fun i hi => h i (by omega)
theorem below_succ {p : Nat → Prop} {i : Nat} (h : ∀ j, j < i → p j) (h1 : p i) : ∀ j, j < i + 1 → p j := fun j hj => by
  rcases Nat.lt_or_eq_of_le (Nat.le_of_lt_succ hj) with h2 | h2
  · exact h j h2
  · exact h2 ▸ h1
set_option maxHeartbeats 1000000 in
theorem ret_IsName (b : ByteArray) : Ret Try.prog 64 none [sv b] [] (.c (bc (isName b))) := by
  refine Ret.intro (rs := [.tmp 2]) T_ok Try.func64 rfl rfl Try.ntmps64 rfl (by simp [AV.lo]) (fun E => vc_sound T_ok _ ?_)
  repeat' first | with_reducible refine Cnd_if (fun _ => ?_) (fun _ => ?_) | with_reducible refine Cnd_split (fun _ => ?_) (fun _ => ?_) | with_reducible refine Grd_if (fun _ => ?_) (fun _ => ?_) | with_reducible refine Grd_if' (fun _ => ?_) (fun _ => ?_) | with_reducible refine Grd_split (fun _ => ?_) (fun _ => ?_) | with_reducible refine Grd_split' (fun _ => ?_) (fun _ => ?_) | with_reducible refine Val_if ?_ ?_ | with_reducible refine Val_unless ?_ ?_ | (with_reducible refine vc_of_draw T_ok follows_ok ?_ ?_; kernel_rfl) | simp only [push_cast, ↓reduceIte, Nat.reduceAdd, Nat.reduceSub, Nat.reduceMul, Nat.reduceLT, Nat.reduceLeDiff, Nat.reduceEqDiff, Nat.reduceDiv, Int.reduceNeg, Int.reduceEq, Int.reduceLT, Int.reduceLE, Int.reduceToNat, Nat.succ_eq_add_one, reduceCtorEq, decide_true, decide_false, true_and, and_true, *] | omega
  · have : isName b = false := by simp [isName, smallB]; omega
    rw [this]
  · refine vc_of_loop T_ok (ι := {i : Nat // i ≤ b.size ∧ ∀ j, j < i → okB b j = true}) (fun i => ⟨sv b :: (List.replicate 2 .junk ++ iv i.1 :: List.replicate 46 .junk), objsOf [], 1⟩) (fun i => b.size - i.1) ⟨0, by simp⟩ ?_ ?_
    · refine Le.of (by repeat' first | exact trivial | refine ⟨Or.inr rfl, ?_⟩ | refine ⟨Or.inl rfl, ?_⟩) (by simp [AV.lo]) (by simp [leO, objsOf, AObj.lo, AV.lo]) (by omega)
    · rintro ⟨i, hi, hall⟩
      repeat' first | with_reducible refine Cnd_if (fun _ => ?_) (fun _ => ?_) | with_reducible refine Cnd_split (fun _ => ?_) (fun _ => ?_) | with_reducible refine Grd_if (fun _ => ?_) (fun _ => ?_) | with_reducible refine Grd_if' (fun _ => ?_) (fun _ => ?_) | with_reducible refine Grd_split (fun _ => ?_) (fun _ => ?_) | with_reducible refine Grd_split' (fun _ => ?_) (fun _ => ?_) | with_reducible refine Val_if ?_ ?_ | with_reducible refine Val_unless ?_ ?_ | (with_reducible refine vc_of_draw T_ok follows_ok ?_ ?_; kernel_rfl) | simp only [push_cast, ↓reduceIte, Nat.reduceAdd, Nat.reduceSub, Nat.reduceMul, Nat.reduceLT, Nat.reduceLeDiff, Nat.reduceEqDiff, Nat.reduceDiv, Int.reduceNeg, Int.reduceEq, Int.reduceLT, Int.reduceLE, Int.reduceToNat, Nat.succ_eq_add_one, reduceCtorEq, decide_true, decide_false, true_and, and_true, *] | omega
      all_goals first
        | (rw [isName_false (i := i) (by omega) (by simp [okB, smallB, digitB]; omega)]; done)
        | (rw [isName_true (n := i) (by omega) (by omega) (by simp [smallB]; omega) (by omega) hall]; done)
        | (have e : IntKind.wrap .i64 (↑i + 1) = ((i + 1 : Nat) : Int) := wrap_i64 (by omega) (by omega)
           rw [e]
           refine ⟨⟨i + 1, by omega, below_succ hall (by simp [okB, smallB, digitB]; omega)⟩, ?_, by simp only; omega⟩
           refine Le.of (by repeat' first | exact trivial | refine ⟨Or.inr rfl, ?_⟩ | refine ⟨Or.inl rfl, ?_⟩) (by simp [AV.lo]) (by simp [leO, objsOf, AObj.lo, AV.lo]) (by omega))
  all_goals (have : isName b = false := by (simp [isName, smallB]; omega)); rw [this]

set_option maxHeartbeats 1000000 in
theorem ret_l01Name (b : ByteArray) : Ret Try.prog 110 none [sv b] [] (.c (bc (isName b))) := by
  refine Ret.intro (rs := [.tmp 2]) T_ok Try.func110 rfl rfl Try.ntmps110 rfl (by simp [AV.lo]) (fun E => vc_sound T_ok _ ?_)
  repeat' first | with_reducible refine Cnd_if (fun _ => ?_) (fun _ => ?_) | with_reducible refine Cnd_split (fun _ => ?_) (fun _ => ?_) | with_reducible refine Grd_if (fun _ => ?_) (fun _ => ?_) | with_reducible refine Grd_if' (fun _ => ?_) (fun _ => ?_) | with_reducible refine Grd_split (fun _ => ?_) (fun _ => ?_) | with_reducible refine Grd_split' (fun _ => ?_) (fun _ => ?_) | with_reducible refine Val_if ?_ ?_ | with_reducible refine Val_unless ?_ ?_ | (with_reducible refine vc_of_draw T_ok follows_ok ?_ ?_; kernel_rfl) | refine acall_in (by first | exact ret_l01Small _ | exact ret_l01Digit _) rfl ?_ | simp only [push_cast, ↓reduceIte, Nat.reduceAdd, Nat.reduceSub, Nat.reduceMul, Nat.reduceLT, Nat.reduceLeDiff, Nat.reduceEqDiff, Nat.reduceDiv, Int.reduceNeg, Int.reduceEq, Int.reduceLT, Int.reduceLE, Int.reduceToNat, Nat.succ_eq_add_one, reduceCtorEq, decide_true, decide_false, true_and, and_true, *] | omega
  · have : isName b = false := by simp_all [isName]
    rw [this]
  · refine vc_of_loop T_ok (ι := {i : Nat // i ≤ b.size ∧ ∀ j, j < i → okB b j = true}) (fun i => ⟨sv b :: (List.replicate 2 .junk ++ iv i.1 :: List.replicate 31 .junk), objsOf [], 1⟩) (fun i => b.size - i.1) ⟨0, by simp⟩ ?_ ?_
    · refine Le.of (by repeat' first | exact trivial | refine ⟨Or.inr rfl, ?_⟩ | refine ⟨Or.inl rfl, ?_⟩) (by simp [AV.lo]) (by simp [leO, objsOf, AObj.lo, AV.lo]) (by omega)
    · rintro ⟨i, hi, hall⟩
      repeat' first | with_reducible refine Cnd_if (fun _ => ?_) (fun _ => ?_) | with_reducible refine Cnd_split (fun _ => ?_) (fun _ => ?_) | with_reducible refine Grd_if (fun _ => ?_) (fun _ => ?_) | with_reducible refine Grd_if' (fun _ => ?_) (fun _ => ?_) | with_reducible refine Grd_split (fun _ => ?_) (fun _ => ?_) | with_reducible refine Grd_split' (fun _ => ?_) (fun _ => ?_) | with_reducible refine Val_if ?_ ?_ | with_reducible refine Val_unless ?_ ?_ | (with_reducible refine vc_of_draw T_ok follows_ok ?_ ?_; kernel_rfl) | refine acall_in (by first | exact ret_l01Small _ | exact ret_l01Digit _) rfl ?_ | simp only [push_cast, ↓reduceIte, Nat.reduceAdd, Nat.reduceSub, Nat.reduceMul, Nat.reduceLT, Nat.reduceLeDiff, Nat.reduceEqDiff, Nat.reduceDiv, Int.reduceNeg, Int.reduceEq, Int.reduceLT, Int.reduceLE, Int.reduceToNat, Nat.succ_eq_add_one, reduceCtorEq, decide_true, decide_false, true_and, and_true, *] | omega
      all_goals first
        | (rw [isName_false (i := i) (by omega) (by simp_all [okB])]; done)
        | (rw [isName_true (n := i) (by omega) (by omega) (by simp_all) (by omega) hall]; done)
        | (have e : IntKind.wrap .i64 (↑i + 1) = ((i + 1 : Nat) : Int) := wrap_i64 (by omega) (by omega)
           rw [e]
           refine ⟨⟨i + 1, by omega, below_succ hall (by simp_all [okB])⟩, ?_, by simp only; omega⟩
           refine Le.of (by repeat' first | exact trivial | refine ⟨Or.inr rfl, ?_⟩ | refine ⟨Or.inl rfl, ?_⟩) (by simp [AV.lo]) (by simp [leO, objsOf, AObj.lo, AV.lo]) (by omega))
  · have : isName b = false := by (simp [isName]; omega)
    rw [this]
  · have : isName b = false := by (simp [isName]; omega)
    rw [this]
theorem ret_within (a b c : Int) : Ret Try.prog 65 none [iv a, iv b, iv c] [] (.c (bc (inB a b c))) := by
  refine Ret.intro (rs := [.tmp 6]) T_ok Try.func65 rfl rfl Try.ntmps65 rfl (by simp [AV.lo]) (fun E => vc_sound T_ok _ ?_)
  repeat' first | with_reducible refine Cnd_if (fun _ => ?_) (fun _ => ?_) | with_reducible refine Cnd_split (fun _ => ?_) (fun _ => ?_) | with_reducible refine Grd_if (fun _ => ?_) (fun _ => ?_) | with_reducible refine Grd_if' (fun _ => ?_) (fun _ => ?_) | with_reducible refine Grd_split (fun _ => ?_) (fun _ => ?_) | with_reducible refine Grd_split' (fun _ => ?_) (fun _ => ?_) | with_reducible refine Val_if ?_ ?_ | with_reducible refine Val_unless ?_ ?_ | (with_reducible refine vc_of_draw T_ok follows_ok ?_ ?_; kernel_rfl) | simp only [push_cast, ↓reduceIte, Nat.reduceAdd, Nat.reduceSub, Nat.reduceMul, Nat.reduceLT, Nat.reduceLeDiff, Nat.reduceEqDiff, Nat.reduceDiv, Int.reduceNeg, Int.reduceEq, Int.reduceLT, Int.reduceLE, Int.reduceToNat, Nat.succ_eq_add_one, reduceCtorEq, decide_true, decide_false, true_and, and_true, *] | omega
  all_goals simp [inB, *]
def validBond (n : ByteArray) (a b c : Int) : Bool := isName n && (inB a 1 120 && (inB b a 240 && inB c 1 1440))
theorem ret_l24One (n : ByteArray) (a b c : Int) : Ret Try.prog 63 none [.c (.rp [sc n, ic a, ic b, ic c])] [] (.c (bc (validBond n a b c))) := by
  refine Ret.intro (rs := [.tmp 2]) T_ok Try.func63 rfl rfl Try.ntmps63 rfl (by simp [AV.lo]) (fun E => vc_sound T_ok _ ?_)
  repeat' first | with_reducible refine Cnd_if (fun _ => ?_) (fun _ => ?_) | with_reducible refine Cnd_split (fun _ => ?_) (fun _ => ?_) | with_reducible refine Grd_if (fun _ => ?_) (fun _ => ?_) | with_reducible refine Grd_if' (fun _ => ?_) (fun _ => ?_) | with_reducible refine Grd_split (fun _ => ?_) (fun _ => ?_) | with_reducible refine Grd_split' (fun _ => ?_) (fun _ => ?_) | with_reducible refine Val_if ?_ ?_ | with_reducible refine Val_unless ?_ ?_ | (with_reducible refine vc_of_draw T_ok follows_ok ?_ ?_; kernel_rfl) | refine acall_in (by first | exact ret_l01Name _ | exact ret_l00In _ _ _) rfl ?_ | simp only [push_cast, ↓reduceIte, Nat.reduceAdd, Nat.reduceSub, Nat.reduceMul, Nat.reduceLT, Nat.reduceLeDiff, Nat.reduceEqDiff, Nat.reduceDiv, Int.reduceNeg, Int.reduceEq, Int.reduceLT, Int.reduceLE, Int.reduceToNat, Nat.succ_eq_add_one, reduceCtorEq, decide_true, decide_false, true_and, and_true, *] | omega
  all_goals simp [validBond, *]
theorem ret_sValidBond (n : ByteArray) (a b c : Int) : Ret Try.prog 16 none [.agg [sv n, iv a, iv b, iv c]] [] (.c (bc (validBond n a b c))) := by
  refine Ret.intro (rs := [.tmp 2]) T_ok Try.func16 rfl rfl Try.ntmps16 rfl (by simp [AV.lo]) (fun E => vc_sound T_ok _ ?_)
  repeat' first | with_reducible refine Cnd_if (fun _ => ?_) (fun _ => ?_) | with_reducible refine Cnd_split (fun _ => ?_) (fun _ => ?_) | with_reducible refine Grd_if (fun _ => ?_) (fun _ => ?_) | with_reducible refine Grd_if' (fun _ => ?_) (fun _ => ?_) | with_reducible refine Grd_split (fun _ => ?_) (fun _ => ?_) | with_reducible refine Grd_split' (fun _ => ?_) (fun _ => ?_) | with_reducible refine Val_if ?_ ?_ | with_reducible refine Val_unless ?_ ?_ | (with_reducible refine vc_of_draw T_ok follows_ok ?_ ?_; kernel_rfl) | simp only [push_cast, ↓reduceIte, Nat.reduceAdd, Nat.reduceSub, Nat.reduceMul, Nat.reduceLT, Nat.reduceLeDiff, Nat.reduceEqDiff, Nat.reduceDiv, Int.reduceNeg, Int.reduceEq, Int.reduceLT, Int.reduceLE, Int.reduceToNat, Nat.succ_eq_add_one, reduceCtorEq, decide_true, decide_false, true_and, and_true, *] | omega
  refine acall_look rfl (ret_l24One _ _ _ _) rfl ?_
  repeat' first | with_reducible refine Cnd_if (fun _ => ?_) (fun _ => ?_) | with_reducible refine Cnd_split (fun _ => ?_) (fun _ => ?_) | with_reducible refine Grd_if (fun _ => ?_) (fun _ => ?_) | with_reducible refine Grd_if' (fun _ => ?_) (fun _ => ?_) | with_reducible refine Grd_split (fun _ => ?_) (fun _ => ?_) | with_reducible refine Grd_split' (fun _ => ?_) (fun _ => ?_) | with_reducible refine Val_if ?_ ?_ | with_reducible refine Val_unless ?_ ?_ | (with_reducible refine vc_of_draw T_ok follows_ok ?_ ?_; kernel_rfl) | simp only [push_cast, ↓reduceIte, Nat.reduceAdd, Nat.reduceSub, Nat.reduceMul, Nat.reduceLT, Nat.reduceLeDiff, Nat.reduceEqDiff, Nat.reduceDiv, Int.reduceNeg, Int.reduceEq, Int.reduceLT, Int.reduceLE, Int.reduceToNat, Nat.succ_eq_add_one, reduceCtorEq, decide_true, decide_false, true_and, and_true, *] | omega
theorem ret_iValidBond (n : ByteArray) (a b c : Int) : Ret Try.prog 18 none [.agg [sv n, iv a, iv b, iv c]] [] (.c (bc (validBond n a b c))) := by
  refine Ret.intro (rs := [.tmp 2]) T_ok Try.func18 rfl rfl Try.ntmps18 rfl (by simp [AV.lo]) (fun E => vc_sound T_ok _ ?_)
  repeat' first | with_reducible refine Cnd_if (fun _ => ?_) (fun _ => ?_) | with_reducible refine Cnd_split (fun _ => ?_) (fun _ => ?_) | with_reducible refine Grd_if (fun _ => ?_) (fun _ => ?_) | with_reducible refine Grd_if' (fun _ => ?_) (fun _ => ?_) | with_reducible refine Grd_split (fun _ => ?_) (fun _ => ?_) | with_reducible refine Grd_split' (fun _ => ?_) (fun _ => ?_) | with_reducible refine Val_if ?_ ?_ | with_reducible refine Val_unless ?_ ?_ | (with_reducible refine vc_of_draw T_ok follows_ok ?_ ?_; kernel_rfl) | refine acall_in (by first | exact ret_IsName _ | exact ret_within _ _ _) rfl ?_ | simp only [push_cast, ↓reduceIte, Nat.reduceAdd, Nat.reduceSub, Nat.reduceMul, Nat.reduceLT, Nat.reduceLeDiff, Nat.reduceEqDiff, Nat.reduceDiv, Int.reduceNeg, Int.reduceEq, Int.reduceLT, Int.reduceLE, Int.reduceToNat, Nat.succ_eq_add_one, reduceCtorEq, decide_true, decide_false, true_and, and_true, *] | omega
  all_goals simp [validBond, *]

def szV (l n : Int) : Int := if IntKind.wrap .i64 (l - n) < 0 then -1 else IntKind.wrap .i64 (l - n)
theorem ret_szBond (n : ByteArray) (a b c l : Int) : Ret Try.prog 15 none [.agg [sv n, iv a, iv b, iv c], iv l] [] (.c (ic (szV l n.size))) := by
  refine Ret.intro (rs := [.tmp 4]) T_ok Try.func15 rfl rfl Try.ntmps15 rfl (by simp [AV.lo]) (fun E => vc_sound T_ok _ ?_)
  repeat' first | with_reducible refine Cnd_if (fun _ => ?_) (fun _ => ?_) | with_reducible refine Cnd_split (fun _ => ?_) (fun _ => ?_) | with_reducible refine Grd_if (fun _ => ?_) (fun _ => ?_) | with_reducible refine Grd_if' (fun _ => ?_) (fun _ => ?_) | with_reducible refine Grd_split (fun _ => ?_) (fun _ => ?_) | with_reducible refine Grd_split' (fun _ => ?_) (fun _ => ?_) | with_reducible refine Val_if ?_ ?_ | with_reducible refine Val_unless ?_ ?_ | (with_reducible refine vc_of_draw T_ok follows_ok ?_ ?_; kernel_rfl) | simp only [push_cast, ↓reduceIte, Nat.reduceAdd, Nat.reduceSub, Nat.reduceMul, Nat.reduceLT, Nat.reduceLeDiff, Nat.reduceEqDiff, Nat.reduceDiv, Int.reduceNeg, Int.reduceEq, Int.reduceLT, Int.reduceLE, Int.reduceToNat, Nat.succ_eq_add_one, reduceCtorEq, decide_true, decide_false, true_and, and_true, *] | omega
  all_goals simp [szV, *]
theorem ret_toBond (n : ByteArray) (a b c : Int) : Ret Try.prog 17 none [.agg [sv n, iv a, iv b, iv c]] [] (.agg [sc n, ic a, ic b, ic c]) := by
  refine Ret.intro (rs := [.cell 2 26]) T_ok Try.func17 rfl rfl Try.ntmps17 rfl (by simp [AV.lo]) (fun E => vc_sound T_ok _ ?_)
  repeat' first | with_reducible refine Cnd_if (fun _ => ?_) (fun _ => ?_) | with_reducible refine Cnd_split (fun _ => ?_) (fun _ => ?_) | with_reducible refine Grd_if (fun _ => ?_) (fun _ => ?_) | with_reducible refine Grd_if' (fun _ => ?_) (fun _ => ?_) | with_reducible refine Grd_split (fun _ => ?_) (fun _ => ?_) | with_reducible refine Grd_split' (fun _ => ?_) (fun _ => ?_) | with_reducible refine Val_if ?_ ?_ | with_reducible refine Val_unless ?_ ?_ | (with_reducible refine vc_of_draw T_ok follows_ok ?_ ?_; kernel_rfl) | simp only [push_cast, ↓reduceIte, Nat.reduceAdd, Nat.reduceSub, Nat.reduceMul, Nat.reduceLT, Nat.reduceLeDiff, Nat.reduceEqDiff, Nat.reduceDiv, Int.reduceNeg, Int.reduceEq, Int.reduceLT, Int.reduceLE, Int.reduceToNat, Nat.succ_eq_add_one, reduceCtorEq, decide_true, decide_false, true_and, and_true, *] | omega
theorem ret_FnExactValidBond (n : ByteArray) (_ : n.size ≤ 9223372036854775807) (a : Int) (_ : IntKind.min .i64 ≤ a) (_ : a ≤ IntKind.max .i64) (b : Int) (_ : IntKind.min .i64 ≤ b) (_ : b ≤ IntKind.max .i64) (c : Int) (_ : IntKind.min .i64 ≤ c) (_ : c ≤ IntKind.max .i64) :
    Ret Try.prog 3 none [.agg [sv n, iv a, iv b, iv c]] [] (.c (bc true)) := by
  refine Ret.intro (rs := [.tmp 2]) T_ok Try.func3 rfl rfl Try.ntmps3 rfl (by simp [AV.lo]) (fun E => vc_sound T_ok _ ?_)
  repeat' first | with_reducible refine Cnd_if (fun _ => ?_) (fun _ => ?_) | with_reducible refine Cnd_split (fun _ => ?_) (fun _ => ?_) | with_reducible refine Grd_if (fun _ => ?_) (fun _ => ?_) | with_reducible refine Grd_if' (fun _ => ?_) (fun _ => ?_) | with_reducible refine Grd_split (fun _ => ?_) (fun _ => ?_) | with_reducible refine Grd_split' (fun _ => ?_) (fun _ => ?_) | with_reducible refine Val_if ?_ ?_ | with_reducible refine Val_unless ?_ ?_ | (with_reducible refine vc_of_draw T_ok follows_ok ?_ ?_; kernel_rfl) | refine acall_in (by first | exact ret_szBond _ _ _ _ _ | exact ret_toBond _ _ _ _ | exact ret_sValidBond _ _ _ _ | exact ret_iValidBond _ _ _ _) rfl ?_ | simp only [push_cast, ↓reduceIte, Nat.reduceAdd, Nat.reduceSub, Nat.reduceMul, Nat.reduceLT, Nat.reduceLeDiff, Nat.reduceEqDiff, Nat.reduceDiv, Int.reduceNeg, Int.reduceEq, Int.reduceLT, Int.reduceLE, Int.reduceToNat, Nat.succ_eq_add_one, reduceCtorEq, decide_true, decide_false, true_and, and_true, *] | omega
  all_goals simp_all
end Go.Proofs.Ytdglnjgjonbfbaa.Fw
