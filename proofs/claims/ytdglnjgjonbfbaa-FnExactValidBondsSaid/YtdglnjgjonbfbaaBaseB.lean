/- Contracts of the functions on lists of bonds. No condition. -/
import Derived.Test.YtdglnjgjonbfbaaBaseA
import Derived.Test.YtdglnjgjonbfbaaFwZb
namespace Go.Proofs.Ytdglnjgjonbfbaa.Fw
open Go.RowKit
set_option linter.unusedSimpArgs false
set_option linter.unusedVariables false
set_option maxRecDepth 100000
structure Bond where
  name : ByteArray
  spread : Int
  opn : Int
  press : Int
instance : Inhabited Bond := ⟨⟨⟨#[]⟩, 0, 0, 0⟩⟩
def bondRow (b : Bond) : List CV := [sc b.name, ic b.spread, ic b.opn, ic b.press]
abbrev bondsV (nl f : Bool) (bs : List Bond) : CV := .sl nl f 4 (bs.map bondRow)
def szGo (l : Int) : List Bond → Int
  | [] => l
  | b :: bs => if szV l b.name.size < 0 then -1 else szGo (szV l b.name.size) bs
def szS (l : Int) (bs : List Bond) : Int := if IntKind.wrap .i64 (l - bs.length) < 0 then -1 else szGo (IntKind.wrap .i64 (l - bs.length)) bs
set_option maxHeartbeats 1000000 in
theorem ret_szBondS (nl f : Bool) (bs : List Bond) (hn : nl = true → bs = []) (hl : bs.length ≤ 9223372036854775807) (l : Int) : Ret Try.prog 26 none [.c (bondsV nl f bs), iv l] [] (.c (ic (szS l bs))) := by
  refine Ret.intro (rs := [.tmp 4]) T_ok Try.func26 rfl rfl Try.ntmps26 rfl (by simp [AV.lo]) (fun E => vc_sound T_ok _ ?_)
  repeat' first | with_reducible refine Cnd_if (fun _ => ?_) (fun _ => ?_) | with_reducible refine Cnd_split (fun _ => ?_) (fun _ => ?_) | with_reducible refine Grd_if (fun _ => ?_) (fun _ => ?_) | with_reducible refine Grd_if' (fun _ => ?_) (fun _ => ?_) | with_reducible refine Grd_split (fun _ => ?_) (fun _ => ?_) | with_reducible refine Grd_split' (fun _ => ?_) (fun _ => ?_) | with_reducible refine Val_if ?_ ?_ | with_reducible refine Val_unless ?_ ?_ | (with_reducible refine Efx_makes ?_ ?_; (simp only [decide_eq_true_eq]; omega)) | (with_reducible refine vc_of_draw T_ok follows_ok ?_ ?_; kernel_rfl) | simp only [push_cast, ↓reduceIte, Nat.reduceAdd, Nat.reduceSub, Nat.reduceMul, Nat.reduceLT, Nat.reduceLeDiff, Nat.reduceEqDiff, Nat.reduceDiv, Int.reduceNeg, Int.reduceEq, Int.reduceLT, Int.reduceLE, Int.reduceToNat, Nat.succ_eq_add_one, reduceCtorEq, decide_true, decide_false, true_and, and_true, ↓Int.cast_ofNat_Int, ne_eq, not_true_eq_false, not_false_eq_true, *] | omega | exact nl_of (by assumption) (by assumption)
  · simp [szS, *]
  · refine vc_of_loop T_ok (ι := {p : Nat × Int // p.1 ≤ bs.length ∧ szS l bs = szGo p.2 (bs.drop p.1)}) (fun p => ⟨.c (bondsV nl f bs) :: iv p.1.2 :: (List.replicate 3 .junk ++ iv p.1.1 :: List.replicate 21 .junk), objsOf [], 1⟩) (fun p => bs.length - p.1.1) ⟨(0, IntKind.wrap .i64 (l - bs.length)), by simp [szS, *]⟩ ?_ ?_
    · refine Le.of (by repeat' first | exact trivial | refine ⟨Or.inr rfl, ?_⟩ | refine ⟨Or.inl rfl, ?_⟩) (by simp [AV.lo]) (by simp [leO, objsOf, upd, AObj.lo, AV.lo]) (by omega)
    · rintro ⟨⟨i, l'⟩, hi, hs⟩
      simp only at hi hs
      repeat' first | with_reducible refine Cnd_if (fun _ => ?_) (fun _ => ?_) | with_reducible refine Cnd_split (fun _ => ?_) (fun _ => ?_) | with_reducible refine Grd_if (fun _ => ?_) (fun _ => ?_) | with_reducible refine Grd_if' (fun _ => ?_) (fun _ => ?_) | with_reducible refine Grd_split (fun _ => ?_) (fun _ => ?_) | with_reducible refine Grd_split' (fun _ => ?_) (fun _ => ?_) | with_reducible refine Val_if ?_ ?_ | with_reducible refine Val_unless ?_ ?_ | (with_reducible refine Efx_makes ?_ ?_; (simp only [decide_eq_true_eq]; omega)) | (with_reducible refine vc_of_draw T_ok follows_ok ?_ ?_; kernel_rfl) | refine acall_in (by first | exact ret_szBond _ _ _ _ _) rfl ?_ | simp only [push_cast, ↓reduceIte, Nat.reduceAdd, Nat.reduceSub, Nat.reduceMul, Nat.reduceLT, Nat.reduceLeDiff, Nat.reduceEqDiff, Nat.reduceDiv, Int.reduceNeg, Int.reduceEq, Int.reduceLT, Int.reduceLE, Int.reduceToNat, Nat.succ_eq_add_one, reduceCtorEq, decide_true, decide_false, true_and, and_true, ↓Int.cast_ofNat_Int, ne_eq, not_true_eq_false, not_false_eq_true, *, bondRow] | omega | exact nl_of (by assumption) (by assumption)
      · rw [drop_getD ‹_›, szGo, if_pos ‹_›]
      · have e : IntKind.wrap .i64 (↑i + 1) = ((i + 1 : Nat) : Int) := wrap_i64 (by omega) (by omega)
        rw [e]
        refine ⟨⟨(i + 1, szV l' (bs.getD i default).name.size), by simp only; omega, by rw [hs, drop_getD ‹_›, szGo, if_neg ‹_›]⟩, ?_, by simp only; omega⟩
        refine Le.of (by repeat' first | exact trivial | refine ⟨Or.inr rfl, ?_⟩ | refine ⟨Or.inl rfl, ?_⟩) (by simp [AV.lo]) (by simp [leO, objsOf, upd, AObj.lo, AV.lo]) (by omega)
      · rw [List.drop_of_length_le (by omega), szGo]
set_option maxHeartbeats 1000000 in
theorem ret_toBondS (nl f : Bool) (bs : List Bond) (hn : nl = true → bs = []) (hl : bs.length ≤ 1048576) : Ret Try.prog 28 none [.c (bondsV nl f bs)] [] (.own 26 4 (bs.map bondRow)) := by
  refine Ret.intro (rs := [.tmp 2]) T_ok Try.func28 rfl rfl Try.ntmps28 rfl (by simp [AV.lo]) (fun E => vc_sound T_ok _ ?_)
  repeat' first | with_reducible refine Cnd_if (fun _ => ?_) (fun _ => ?_) | with_reducible refine Cnd_split (fun _ => ?_) (fun _ => ?_) | with_reducible refine Grd_if (fun _ => ?_) (fun _ => ?_) | with_reducible refine Grd_if' (fun _ => ?_) (fun _ => ?_) | with_reducible refine Grd_split (fun _ => ?_) (fun _ => ?_) | with_reducible refine Grd_split' (fun _ => ?_) (fun _ => ?_) | with_reducible refine Val_if ?_ ?_ | with_reducible refine Val_unless ?_ ?_ | (with_reducible refine Efx_makes ?_ ?_; (simp only [decide_eq_true_eq]; omega)) | (with_reducible refine vc_of_draw T_ok follows_ok ?_ ?_; kernel_rfl) | simp only [push_cast, ↓reduceIte, Nat.reduceAdd, Nat.reduceSub, Nat.reduceMul, Nat.reduceLT, Nat.reduceLeDiff, Nat.reduceEqDiff, Nat.reduceDiv, Int.reduceNeg, Int.reduceEq, Int.reduceLT, Int.reduceLE, Int.reduceToNat, Nat.succ_eq_add_one, reduceCtorEq, decide_true, decide_false, true_and, and_true, ↓Int.cast_ofNat_Int, ne_eq, not_true_eq_false, not_false_eq_true, *] | omega | exact nl_of (by assumption) (by assumption)
  rw [← mix_zero bondRow]
  refine vc_of_loop T_ok (ι := {i : Nat // i ≤ bs.length}) (fun i => ⟨.c (bondsV nl f bs) :: .junk :: .junk :: .lsl 4 4 0 bs.length :: iv i.1 :: List.replicate 18 .junk, objsOf [(4, .arr 26 4 (mix bondRow [.v (.string ⟨#[]⟩), .v (.int .i64 0), .v (.int .i64 0), .v (.int .i64 0)] bs i.1))], 5⟩) (fun i => bs.length - i.1) ⟨0, by simp⟩ ?_ ?_
  · refine Le.of (by repeat' first | exact trivial | refine ⟨Or.inr rfl, ?_⟩ | refine ⟨Or.inl rfl, ?_⟩) (by simp [AV.lo]) (by simp [leO, objsOf, upd, AObj.lo, AV.lo]) (by omega)
  · rintro ⟨i, hi⟩
    repeat' first | with_reducible refine Cnd_if (fun _ => ?_) (fun _ => ?_) | with_reducible refine Cnd_split (fun _ => ?_) (fun _ => ?_) | with_reducible refine Grd_if (fun _ => ?_) (fun _ => ?_) | with_reducible refine Grd_if' (fun _ => ?_) (fun _ => ?_) | with_reducible refine Grd_split (fun _ => ?_) (fun _ => ?_) | with_reducible refine Grd_split' (fun _ => ?_) (fun _ => ?_) | with_reducible refine Val_if ?_ ?_ | with_reducible refine Val_unless ?_ ?_ | (with_reducible refine Efx_makes ?_ ?_; (simp only [decide_eq_true_eq]; omega)) | (with_reducible refine vc_of_draw T_ok follows_ok ?_ ?_; kernel_rfl) | refine acall_in (by first | exact ret_toBond _ _ _ _) rfl ?_ | simp only [push_cast, ↓reduceIte, Nat.reduceAdd, Nat.reduceSub, Nat.reduceMul, Nat.reduceLT, Nat.reduceLeDiff, Nat.reduceEqDiff, Nat.reduceDiv, Int.reduceNeg, Int.reduceEq, Int.reduceLT, Int.reduceLE, Int.reduceToNat, Nat.succ_eq_add_one, reduceCtorEq, decide_true, decide_false, true_and, and_true, ↓Int.cast_ofNat_Int, ne_eq, not_true_eq_false, not_false_eq_true, *, mix_get, bondRow] | omega | exact nl_of (by assumption) (by assumption)
    · have e : IntKind.wrap .i64 (↑i + 1) = ((i + 1 : Nat) : Int) := wrap_i64 (by omega) (by omega)
      have e2 := mix_set bondRow [.v (.string ⟨#[]⟩), .v (.int .i64 0), .v (.int .i64 0), .v (.int .i64 0)] bs ‹i < bs.length›
      simp only [bondRow] at e2
      rw [e, e2]
      refine ⟨⟨i + 1, by omega⟩, ?_, by simp only; omega⟩
      refine Le.of (by repeat' first | exact trivial | refine ⟨Or.inr rfl, ?_⟩ | refine ⟨Or.inl rfl, ?_⟩) (by simp [AV.lo]) (by simp [leO, objsOf, upd, AObj.lo, AV.lo]) (by omega)
    · rw [mix_all bondRow _ bs (by omega)]
set_option maxHeartbeats 1000000 in
theorem ret_eqBond (b : Bond) : Ret Try.prog 73 none [.agg ((bondRow b).map .c), .agg ((bondRow b).map .c)] [] (.c (bc true)) := by
  refine Ret.intro (rs := [.tmp 4]) T_ok Try.func73 rfl rfl Try.ntmps73 rfl (by simp [AV.lo]) (fun E => vc_sound T_ok _ ?_)
  repeat' first | with_reducible refine Cnd_if (fun _ => ?_) (fun _ => ?_) | with_reducible refine Cnd_split (fun _ => ?_) (fun _ => ?_) | with_reducible refine Grd_if (fun _ => ?_) (fun _ => ?_) | with_reducible refine Grd_if' (fun _ => ?_) (fun _ => ?_) | with_reducible refine Grd_split (fun _ => ?_) (fun _ => ?_) | with_reducible refine Grd_split' (fun _ => ?_) (fun _ => ?_) | with_reducible refine Val_if ?_ ?_ | with_reducible refine Val_unless ?_ ?_ | (with_reducible refine Efx_makes ?_ ?_; (simp only [decide_eq_true_eq]; omega)) | (with_reducible refine vc_of_draw T_ok follows_ok ?_ ?_; kernel_rfl) | simp only [push_cast, ↓reduceIte, Nat.reduceAdd, Nat.reduceSub, Nat.reduceMul, Nat.reduceLT, Nat.reduceLeDiff, Nat.reduceEqDiff, Nat.reduceDiv, Int.reduceNeg, Int.reduceEq, Int.reduceLT, Int.reduceLE, Int.reduceToNat, Nat.succ_eq_add_one, reduceCtorEq, decide_true, decide_false, true_and, and_true, ↓Int.cast_ofNat_Int, ne_eq, not_true_eq_false, not_false_eq_true, *, bondRow] | omega | exact nl_of (by assumption) (by assumption)
set_option maxHeartbeats 1000000 in
theorem ret_eqBondS (nl f : Bool) (bs : List Bond) (hn : nl = true → bs = []) (hl : bs.length ≤ 1048576) : Ret Try.prog 30 none [.c (bondsV nl f bs), .c (bondsV nl f bs)] [] (.c (bc true)) := by
  refine Ret.intro (rs := [.tmp 4]) T_ok Try.func30 rfl rfl Try.ntmps30 rfl (by simp [AV.lo]) (fun E => vc_sound T_ok _ ?_)
  repeat' first | with_reducible refine Cnd_if (fun _ => ?_) (fun _ => ?_) | with_reducible refine Cnd_split (fun _ => ?_) (fun _ => ?_) | with_reducible refine Grd_if (fun _ => ?_) (fun _ => ?_) | with_reducible refine Grd_if' (fun _ => ?_) (fun _ => ?_) | with_reducible refine Grd_split (fun _ => ?_) (fun _ => ?_) | with_reducible refine Grd_split' (fun _ => ?_) (fun _ => ?_) | with_reducible refine Val_if ?_ ?_ | with_reducible refine Val_unless ?_ ?_ | (with_reducible refine Efx_makes ?_ ?_; (simp only [decide_eq_true_eq]; omega)) | (with_reducible refine vc_of_draw T_ok follows_ok ?_ ?_; kernel_rfl) | simp only [push_cast, ↓reduceIte, Nat.reduceAdd, Nat.reduceSub, Nat.reduceMul, Nat.reduceLT, Nat.reduceLeDiff, Nat.reduceEqDiff, Nat.reduceDiv, Int.reduceNeg, Int.reduceEq, Int.reduceLT, Int.reduceLE, Int.reduceToNat, Nat.succ_eq_add_one, reduceCtorEq, decide_true, decide_false, true_and, and_true, ↓Int.cast_ofNat_Int, ne_eq, not_true_eq_false, not_false_eq_true, *] | omega | exact nl_of (by assumption) (by assumption)
  refine vc_of_loop T_ok (ι := {i : Nat // i ≤ bs.length}) (fun i => ⟨.c (bondsV nl f bs) :: .c (bondsV nl f bs) :: .junk :: .junk :: .junk :: iv i.1 :: List.replicate 21 .junk, objsOf [], 1⟩) (fun i => bs.length - i.1) ⟨0, by simp⟩ ?_ ?_
  · refine Le.of (by repeat' first | exact trivial | refine ⟨Or.inr rfl, ?_⟩ | refine ⟨Or.inl rfl, ?_⟩) (by simp [AV.lo]) (by simp [leO, objsOf, upd, AObj.lo, AV.lo]) (by omega)
  · rintro ⟨i, hi⟩
    repeat' first | with_reducible refine Cnd_if (fun _ => ?_) (fun _ => ?_) | with_reducible refine Cnd_split (fun _ => ?_) (fun _ => ?_) | with_reducible refine Grd_if (fun _ => ?_) (fun _ => ?_) | with_reducible refine Grd_if' (fun _ => ?_) (fun _ => ?_) | with_reducible refine Grd_split (fun _ => ?_) (fun _ => ?_) | with_reducible refine Grd_split' (fun _ => ?_) (fun _ => ?_) | with_reducible refine Val_if ?_ ?_ | with_reducible refine Val_unless ?_ ?_ | (with_reducible refine Efx_makes ?_ ?_; (simp only [decide_eq_true_eq]; omega)) | (with_reducible refine vc_of_draw T_ok follows_ok ?_ ?_; kernel_rfl) | refine acall_in (by first | exact (ret_eqBond (bs.getD i default))) rfl ?_ | simp only [push_cast, ↓reduceIte, Nat.reduceAdd, Nat.reduceSub, Nat.reduceMul, Nat.reduceLT, Nat.reduceLeDiff, Nat.reduceEqDiff, Nat.reduceDiv, Int.reduceNeg, Int.reduceEq, Int.reduceLT, Int.reduceLE, Int.reduceToNat, Nat.succ_eq_add_one, reduceCtorEq, decide_true, decide_false, true_and, and_true, ↓Int.cast_ofNat_Int, ne_eq, not_true_eq_false, not_false_eq_true, *, bondRow] | omega | exact nl_of (by assumption) (by assumption)
    · have e : IntKind.wrap .i64 (↑i + 1) = ((i + 1 : Nat) : Int) := wrap_i64 (by omega) (by omega)
      rw [e]
      refine ⟨⟨i + 1, by omega⟩, ?_, by simp only; omega⟩
      refine Le.of (by repeat' first | exact trivial | refine ⟨Or.inr rfl, ?_⟩ | refine ⟨Or.inl rfl, ?_⟩) (by simp [AV.lo]) (by simp [leO, objsOf, upd, AObj.lo, AV.lo]) (by omega)
def bondOk (bs : List Bond) (i : Nat) : Bool := validBond (bs.getD i default).name (bs.getD i default).spread (bs.getD i default).opn (bs.getD i default).press && (decide (i = 0) || strLt (bs.getD (i - 1) default).name (bs.getD i default).name)
def validBonds (bs : List Bond) : Bool := allN (bondOk bs) bs.length && decide (bs.length ≤ 12)
set_option maxHeartbeats 1000000 in
theorem ret_iValidBonds (nl f : Bool) (bs : List Bond) (hn : nl = true → bs = []) (hl : bs.length ≤ 1048576) : Ret Try.prog 29 none [.c (bondsV nl f bs)] [] (.c (bc (validBonds bs))) := by
  refine Ret.intro (rs := [.tmp 2]) T_ok Try.func29 rfl rfl Try.ntmps29 rfl (by simp [AV.lo]) (fun E => vc_sound T_ok _ ?_)
  repeat' first | with_reducible refine Cnd_if (fun _ => ?_) (fun _ => ?_) | with_reducible refine Cnd_split (fun _ => ?_) (fun _ => ?_) | with_reducible refine Grd_if (fun _ => ?_) (fun _ => ?_) | with_reducible refine Grd_if' (fun _ => ?_) (fun _ => ?_) | with_reducible refine Grd_split (fun _ => ?_) (fun _ => ?_) | with_reducible refine Grd_split' (fun _ => ?_) (fun _ => ?_) | with_reducible refine Val_if ?_ ?_ | with_reducible refine Val_unless ?_ ?_ | (with_reducible refine Efx_makes ?_ ?_; (simp only [decide_eq_true_eq]; omega)) | (with_reducible refine vc_of_draw T_ok follows_ok ?_ ?_; kernel_rfl) | simp only [push_cast, ↓reduceIte, Nat.reduceAdd, Nat.reduceSub, Nat.reduceMul, Nat.reduceLT, Nat.reduceLeDiff, Nat.reduceEqDiff, Nat.reduceDiv, Int.reduceNeg, Int.reduceEq, Int.reduceLT, Int.reduceLE, Int.reduceToNat, Nat.succ_eq_add_one, reduceCtorEq, decide_true, decide_false, true_and, and_true, ↓Int.cast_ofNat_Int, ne_eq, not_true_eq_false, not_false_eq_true, *] | omega | exact nl_of (by assumption) (by assumption)
  refine vc_of_loop T_ok (ι := {i : Nat // i ≤ bs.length ∧ ∀ j, j < i → bondOk bs j = true}) (fun i => ⟨.c (bondsV nl f bs) :: .junk :: .junk :: .junk :: .junk :: .c (bondsV nl f bs) :: iv bs.length :: iv i.1 :: List.replicate 26 .junk, objsOf [], 1⟩) (fun i => bs.length - i.1) ⟨0, by simp⟩ ?_ ?_
  · refine Le.of (by repeat' first | exact trivial | refine ⟨Or.inr rfl, ?_⟩ | refine ⟨Or.inl rfl, ?_⟩) (by simp [AV.lo]) (by simp [leO, objsOf, upd, AObj.lo, AV.lo]) (by omega)
  · rintro ⟨i, hi, hall⟩
    have e0 : i < bs.length → IntKind.wrap .i64 (↑i + 1) = ↑i + 1 := fun _ => wrap_i64 (by omega) (by omega)
    have e1 : (0 : Int) < ↑i → IntKind.wrap .i64 (↑i - 1) = ((i - 1 : Nat) : Int) := fun _ => by rw [wrap_i64 (by omega) (by omega)]; omega
    have e2 : i < bs.length → i - 1 < bs.length := fun _ => by omega
    repeat' first | with_reducible refine Cnd_if (fun _ => ?_) (fun _ => ?_) | with_reducible refine Cnd_split (fun _ => ?_) (fun _ => ?_) | with_reducible refine Grd_if (fun _ => ?_) (fun _ => ?_) | with_reducible refine Grd_if' (fun _ => ?_) (fun _ => ?_) | with_reducible refine Grd_split (fun _ => ?_) (fun _ => ?_) | with_reducible refine Grd_split' (fun _ => ?_) (fun _ => ?_) | with_reducible refine Val_if ?_ ?_ | with_reducible refine Val_unless ?_ ?_ | (with_reducible refine Efx_makes ?_ ?_; (simp only [decide_eq_true_eq]; omega)) | (with_reducible refine vc_of_draw T_ok follows_ok ?_ ?_; kernel_rfl) | refine acall_in (by first | exact ret_iValidBond _ _ _ _) rfl ?_ | simp only [push_cast, ↓reduceIte, Nat.reduceAdd, Nat.reduceSub, Nat.reduceMul, Nat.reduceLT, Nat.reduceLeDiff, Nat.reduceEqDiff, Nat.reduceDiv, Int.reduceNeg, Int.reduceEq, Int.reduceLT, Int.reduceLE, Int.reduceToNat, Nat.succ_eq_add_one, reduceCtorEq, decide_true, decide_false, true_and, and_true, ↓Int.cast_ofNat_Int, ne_eq, not_true_eq_false, not_false_eq_true, *, bondRow] | omega | exact nl_of (by assumption) (by assumption)
    all_goals first
      | (rw [show validBonds bs = false from by unfold validBonds; rw [allN_false (i := i) ‹_› (by simp_all [bondOk] <;> omega)]; rfl]; done)
      | (refine ⟨⟨i + 1, by omega, below_succ hall (by simp_all [bondOk] <;> omega)⟩, ?_, by simp only; omega⟩
         refine Le.of (by repeat' first | exact trivial | refine ⟨Or.inr rfl, ?_⟩ | refine ⟨Or.inl rfl, ?_⟩) (by simp [AV.lo]) (by simp [leO, objsOf, upd, AObj.lo, AV.lo]) (by omega))
      | (rw [show validBonds bs = decide (bs.length ≤ 12) from by unfold validBonds; rw [allN_true (i := i) (by omega) hall]; rfl]
         simp; omega)
set_option maxHeartbeats 1000000 in
theorem ret_l24Ok (nl f : Bool) (bs : List Bond) (hn : nl = true → bs = []) (hl : bs.length ≤ 1048576) : Ret Try.prog 72 none [.c (bondsV nl f bs)] [] (.c (bc (validBonds bs))) := by
  refine Ret.intro (rs := [.tmp 2]) T_ok Try.func72 rfl rfl Try.ntmps72 rfl (by simp [AV.lo]) (fun E => vc_sound T_ok _ ?_)
  repeat' first | with_reducible refine Cnd_if (fun _ => ?_) (fun _ => ?_) | with_reducible refine Cnd_split (fun _ => ?_) (fun _ => ?_) | with_reducible refine Grd_if (fun _ => ?_) (fun _ => ?_) | with_reducible refine Grd_if' (fun _ => ?_) (fun _ => ?_) | with_reducible refine Grd_split (fun _ => ?_) (fun _ => ?_) | with_reducible refine Grd_split' (fun _ => ?_) (fun _ => ?_) | with_reducible refine Val_if ?_ ?_ | with_reducible refine Val_unless ?_ ?_ | (with_reducible refine Efx_makes ?_ ?_; (simp only [decide_eq_true_eq]; omega)) | (with_reducible refine vc_of_draw T_ok follows_ok ?_ ?_; kernel_rfl) | simp only [push_cast, ↓reduceIte, Nat.reduceAdd, Nat.reduceSub, Nat.reduceMul, Nat.reduceLT, Nat.reduceLeDiff, Nat.reduceEqDiff, Nat.reduceDiv, Int.reduceNeg, Int.reduceEq, Int.reduceLT, Int.reduceLE, Int.reduceToNat, Nat.succ_eq_add_one, reduceCtorEq, decide_true, decide_false, true_and, and_true, ↓Int.cast_ofNat_Int, ne_eq, not_true_eq_false, not_false_eq_true, *] | omega | exact nl_of (by assumption) (by assumption)
  refine vc_of_loop T_ok (ι := {i : Nat // i ≤ bs.length ∧ ∀ j, j < i → bondOk bs j = true}) (fun i => ⟨.c (bondsV nl f bs) :: .junk :: .junk :: iv i.1 :: List.replicate 32 .junk, objsOf [], 1⟩) (fun i => bs.length - i.1) ⟨0, by simp⟩ ?_ ?_
  · refine Le.of (by repeat' first | exact trivial | refine ⟨Or.inr rfl, ?_⟩ | refine ⟨Or.inl rfl, ?_⟩) (by simp [AV.lo]) (by simp [leO, objsOf, upd, AObj.lo, AV.lo]) (by omega)
  · rintro ⟨i, hi, hall⟩
    have e0 : i < bs.length → IntKind.wrap .i64 (↑i + 1) = ↑i + 1 := fun _ => wrap_i64 (by omega) (by omega)
    have e1 : (0 : Int) < ↑i → IntKind.wrap .i64 (↑i - 1) = ((i - 1 : Nat) : Int) := fun _ => by rw [wrap_i64 (by omega) (by omega)]; omega
    have e2 : i < bs.length → i - 1 < bs.length := fun _ => by omega
    repeat' first | with_reducible refine Cnd_if (fun _ => ?_) (fun _ => ?_) | with_reducible refine Cnd_split (fun _ => ?_) (fun _ => ?_) | with_reducible refine Grd_if (fun _ => ?_) (fun _ => ?_) | with_reducible refine Grd_if' (fun _ => ?_) (fun _ => ?_) | with_reducible refine Grd_split (fun _ => ?_) (fun _ => ?_) | with_reducible refine Grd_split' (fun _ => ?_) (fun _ => ?_) | with_reducible refine Val_if ?_ ?_ | with_reducible refine Val_unless ?_ ?_ | (with_reducible refine Efx_makes ?_ ?_; (simp only [decide_eq_true_eq]; omega)) | (with_reducible refine vc_of_draw T_ok follows_ok ?_ ?_; kernel_rfl) | refine acall_in (by first | exact ret_l24One _ _ _ _) rfl ?_ | simp only [push_cast, ↓reduceIte, Nat.reduceAdd, Nat.reduceSub, Nat.reduceMul, Nat.reduceLT, Nat.reduceLeDiff, Nat.reduceEqDiff, Nat.reduceDiv, Int.reduceNeg, Int.reduceEq, Int.reduceLT, Int.reduceLE, Int.reduceToNat, Nat.succ_eq_add_one, reduceCtorEq, decide_true, decide_false, true_and, and_true, ↓Int.cast_ofNat_Int, ne_eq, not_true_eq_false, not_false_eq_true, *, bondRow] | omega | exact nl_of (by assumption) (by assumption)
    all_goals first
      | (rw [show validBonds bs = false from by unfold validBonds; rw [allN_false (i := i) ‹_› (by simp_all [bondOk] <;> omega)]; rfl]; done)
      | (refine ⟨⟨i + 1, by omega, below_succ hall (by simp_all [bondOk] <;> omega)⟩, ?_, by simp only; omega⟩
         refine Le.of (by repeat' first | exact trivial | refine ⟨Or.inr rfl, ?_⟩ | refine ⟨Or.inl rfl, ?_⟩) (by simp [AV.lo]) (by simp [leO, objsOf, upd, AObj.lo, AV.lo]) (by omega))
      | (rw [show validBonds bs = decide (bs.length ≤ 12) from by unfold validBonds; rw [allN_true (i := i) (by omega) hall]; rfl]
         simp; omega)
theorem ret_sValidBonds (nl f : Bool) (bs : List Bond) (hn : nl = true → bs = []) (hl : bs.length ≤ 1048576) : Ret Try.prog 27 none [.c (bondsV nl f bs)] [] (.c (bc (validBonds bs))) := by
  refine Ret.intro (rs := [.tmp 2]) T_ok Try.func27 rfl rfl Try.ntmps27 rfl (by simp [AV.lo]) (fun E => vc_sound T_ok _ ?_)
  repeat' first | with_reducible refine Cnd_if (fun _ => ?_) (fun _ => ?_) | with_reducible refine Cnd_split (fun _ => ?_) (fun _ => ?_) | with_reducible refine Grd_if (fun _ => ?_) (fun _ => ?_) | with_reducible refine Grd_if' (fun _ => ?_) (fun _ => ?_) | with_reducible refine Grd_split (fun _ => ?_) (fun _ => ?_) | with_reducible refine Grd_split' (fun _ => ?_) (fun _ => ?_) | with_reducible refine Val_if ?_ ?_ | with_reducible refine Val_unless ?_ ?_ | (with_reducible refine Efx_makes ?_ ?_; (simp only [decide_eq_true_eq]; omega)) | (with_reducible refine vc_of_draw T_ok follows_ok ?_ ?_; kernel_rfl) | refine acall_in (by first | exact ret_l24Ok _ _ _ hn hl) rfl ?_ | simp only [push_cast, ↓reduceIte, Nat.reduceAdd, Nat.reduceSub, Nat.reduceMul, Nat.reduceLT, Nat.reduceLeDiff, Nat.reduceEqDiff, Nat.reduceDiv, Int.reduceNeg, Int.reduceEq, Int.reduceLT, Int.reduceLE, Int.reduceToNat, Nat.succ_eq_add_one, reduceCtorEq, decide_true, decide_false, true_and, and_true, ↓Int.cast_ofNat_Int, ne_eq, not_true_eq_false, not_false_eq_true, *] | omega | exact nl_of (by assumption) (by assumption)
theorem szS_ge {bs : List Bond} (hl : bs.length ≤ 9223372036854775807) (h : ¬ szS 1048576 bs < 0) : bs.length ≤ 1048576 := by
  unfold szS at h
  rw [wrap_i64 (by omega) (by omega)] at h
  split at h
  · omega
  · omega
theorem bonds_of {rows : List (List CV)} (h : ∀ r ∈ rows, Okl [.str, .int .i64, .int .i64, .int .i64] r) : ∃ bs : List Bond, rows = bs.map bondRow := by
  obtain ⟨bs, h1, _⟩ := rows_of (f := bondRow) (p := fun _ => True) (rows := rows) (fun r hr => by
    obtain ⟨y0, ys0, rfl, e0, k0⟩ := okcons (h r hr)
    obtain ⟨y1, ys1, rfl, e1, k1⟩ := okcons k0
    obtain ⟨y2, ys2, rfl, e2, k2⟩ := okcons k1
    obtain ⟨y3, ys3, rfl, e3, k3⟩ := okcons k2
    obtain rfl := oknil k3
    obtain ⟨v0, rfl, _⟩ := okstr e0
    obtain ⟨v1, rfl, _⟩ := okint e1
    obtain ⟨v2, rfl, _⟩ := okint e2
    obtain ⟨v3, rfl, _⟩ := okint e3
    exact ⟨⟨v0, v1, v2, v3⟩, rfl, trivial⟩)
  exact ⟨bs, h1⟩
set_option maxHeartbeats 1000000 in
theorem ret_law6 (nl f : Bool) (bs : List Bond) (hn : nl = true → bs = []) (hl : bs.length ≤ 9223372036854775807) : Ret Try.prog 6 none [.c (bondsV nl f bs)] [] (.c (bc true)) := by
  refine Ret.intro (rs := [.tmp 2]) T_ok Try.func6 rfl rfl Try.ntmps6 rfl (by simp [AV.lo]) (fun E => vc_sound T_ok _ ?_)
  repeat' first | with_reducible refine Cnd_if (fun _ => ?_) (fun _ => ?_) | with_reducible refine Cnd_split (fun _ => ?_) (fun _ => ?_) | with_reducible refine Grd_if (fun _ => ?_) (fun _ => ?_) | with_reducible refine Grd_if' (fun _ => ?_) (fun _ => ?_) | with_reducible refine Grd_split (fun _ => ?_) (fun _ => ?_) | with_reducible refine Grd_split' (fun _ => ?_) (fun _ => ?_) | with_reducible refine Val_if ?_ ?_ | with_reducible refine Val_unless ?_ ?_ | (with_reducible refine Efx_makes ?_ ?_; (simp only [decide_eq_true_eq]; omega)) | (with_reducible refine vc_of_draw T_ok follows_ok ?_ ?_; kernel_rfl) | refine acall_in (by first | exact (ret_szBondS _ _ _ hn hl _)) rfl ?_ | simp only [push_cast, ↓reduceIte, Nat.reduceAdd, Nat.reduceSub, Nat.reduceMul, Nat.reduceLT, Nat.reduceLeDiff, Nat.reduceEqDiff, Nat.reduceDiv, Int.reduceNeg, Int.reduceEq, Int.reduceLT, Int.reduceLE, Int.reduceToNat, Nat.succ_eq_add_one, reduceCtorEq, decide_true, decide_false, true_and, and_true, ↓Int.cast_ofNat_Int, ne_eq, not_true_eq_false, not_false_eq_true, *] | omega | exact nl_of (by assumption) (by assumption)
  have hlen := szS_ge hl ‹_›
  repeat' first | with_reducible refine Cnd_if (fun _ => ?_) (fun _ => ?_) | with_reducible refine Cnd_split (fun _ => ?_) (fun _ => ?_) | with_reducible refine Grd_if (fun _ => ?_) (fun _ => ?_) | with_reducible refine Grd_if' (fun _ => ?_) (fun _ => ?_) | with_reducible refine Grd_split (fun _ => ?_) (fun _ => ?_) | with_reducible refine Grd_split' (fun _ => ?_) (fun _ => ?_) | with_reducible refine Val_if ?_ ?_ | with_reducible refine Val_unless ?_ ?_ | (with_reducible refine Efx_makes ?_ ?_; (simp only [decide_eq_true_eq]; omega)) | (with_reducible refine vc_of_draw T_ok follows_ok ?_ ?_; kernel_rfl) | refine acall_in (by first | exact (ret_toBondS _ _ _ hn hlen)) rfl ?_ | refine acall_look (by repeat' first | exact snapArgs_nil | refine snapArgs_cons ?_ ?_ | exact snapA_c _ | exact snap_lsl rfl (by simp)) (ret_sValidBonds false false bs (fun h => by cases h) hlen) rfl ?_ | refine acall_look (by repeat' first | exact snapArgs_nil | refine snapArgs_cons ?_ ?_ | exact snapA_c _ | exact snap_lsl rfl (by simp)) (ret_iValidBonds false false bs (fun h => by cases h) hlen) rfl ?_ | refine acall_look (by repeat' first | exact snapArgs_nil | refine snapArgs_cons ?_ ?_ | exact snapA_c _ | exact snap_lsl rfl (by simp)) (ret_eqBondS false false bs (fun h => by cases h) hlen) rfl ?_ | simp only [push_cast, ↓reduceIte, Nat.reduceAdd, Nat.reduceSub, Nat.reduceMul, Nat.reduceLT, Nat.reduceLeDiff, Nat.reduceEqDiff, Nat.reduceDiv, Int.reduceNeg, Int.reduceEq, Int.reduceLT, Int.reduceLE, Int.reduceToNat, Nat.succ_eq_add_one, reduceCtorEq, decide_true, decide_false, true_and, and_true, ↓Int.cast_ofNat_Int, ne_eq, not_true_eq_false, not_false_eq_true, *] | omega | exact nl_of (by assumption) (by assumption)
theorem ret_FnExactValidBonds (nl : Bool) (rows : List (List CV)) (hl : rows.length ≤ 9223372036854775807) (hn : nl = true → rows = []) (h : ∀ r ∈ rows, Okl [.str, .int .i64, .int .i64, .int .i64] r) : Ret Try.prog 6 none [.c (.sl nl false 4 rows)] [] (.c (bc true)) := by
  obtain ⟨bs, rfl⟩ := bonds_of h
  exact ret_law6 nl false bs (fun e => by simpa using hn e) (by simpa using hl)
end Go.Proofs.Ytdglnjgjonbfbaa.Fw
