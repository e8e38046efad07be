/- Contracts of the functions on lists of bonds. No condition. -/
import Derived.Test.YtijkfgpnajdckaaBaseA
import Derived.Test.YtijkfgpnajdckaaFwZb
namespace Go.Proofs.Ytijkfgpnajdckaa.Fw
open Go.RowKit
set_option linter.unusedSimpArgs false
set_option linter.unusedVariables false
set_option maxRecDepth 100000
structure Bond where
  name : ByteArray
  spread : Int
  opn : Int
  press : Int
instance : Inhabited Bond := ⟨⟨⟨#[]⟩, 0, 0, 0⟩⟩
def bondRow (b : Bond) : List CV := [sc b.name, ic b.spread, ic b.opn, ic b.press]
abbrev bondsV (nl f : Bool) (bs : List Bond) : CV := .sl nl f 4 (bs.map bondRow)
def szGo (l : Int) : List Bond → Int
  | [] => l
  | b :: bs => if szV l b.name.size < 0 then -1 else szGo (szV l b.name.size) bs
def szS (l : Int) (bs : List Bond) : Int := if IntKind.wrap .i64 (l - bs.length) < 0 then -1 else szGo (IntKind.wrap .i64 (l - bs.length)) bs
set_option maxHeartbeats 1000000 in
theorem ret_szBondS (nl f : Bool) (bs : List Bond) (hn : nl = true → bs = []) (hl : bs.length ≤ 9223372036854775807) (l : Int) : Ret Try.prog 15 none [.c (bondsV nl f bs), iv l] [] (.c (ic (szS l bs))) := by
  refine Ret.intro (rs := [.tmp 4]) T_ok Try.func15 rfl rfl Try.ntmps15 rfl (by simp [AV.lo]) (fun E => vc_sound T_ok _ ?_)
  repeat' first | (with_reducible first | refine z1 ?_ ?_ | refine z2 ?_ ?_ | refine z3 ?_ ?_ | refine z4 ?_ ?_ | refine z5 ?_ ?_ | refine z6 ?_ ?_ | refine z7 ?_ ?_ | refine z8 ?_ ?_ | refine z9 ?_ ?_ | intro _) | ((with_reducible first | refine z10 ?_ ?_ | refine z11 ?_ ?_ | refine z12 ?_ ?_); ((try simp only [decide_eq_true_eq, List.length_append, List.length_map, List.length_cons, List.length_nil, List.length_take, List.length_replicate]); omega)) | ((with_reducible refine z13 T_ok follows_ok ?_ ?_ ?_); rfl; kernel_rfl) | ((with_reducible refine z14 T_ok follows_ok ?_ ?_); kernel_rfl) | ((with_reducible refine z15 ?_ ?_); rfl) | simp only [push_cast, ↓reduceIte, Nat.reduceAdd, Nat.reduceSub, Nat.reduceMul, Nat.reduceLT, Nat.reduceLeDiff, Nat.reduceEqDiff, Nat.reduceDiv, Int.reduceNeg, Int.reduceEq, Int.reduceLT, Int.reduceLE, Int.reduceToNat, reduceCtorEq, ↓Int.cast_ofNat_Int, *] | omega | exact nl_of (by assumption) (by assumption)
  · simp [szS, *]
  · refine vc_of_loop T_ok (ι := {p : Nat × Int // p.1 ≤ bs.length ∧ szS l bs = szGo p.2 (bs.drop p.1)}) (fun p => ⟨.c (bondsV nl f bs) :: iv p.1.2 :: (List.replicate 3 .junk ++ iv p.1.1 :: List.replicate 21 .junk), objsOf [], 1⟩) (fun p => bs.length - p.1.1) ⟨(0, IntKind.wrap .i64 (l - bs.length)), by simp [szS, *]⟩ ?_ ?_
    · refine Le.of (by repeat' first | exact trivial | refine ⟨Or.inr rfl, ?_⟩ | refine ⟨Or.inl rfl, ?_⟩) (by simp [AV.lo]) (by simp [leO, objsOf, upd, AObj.lo, AV.lo, AObj.kill, AV.kill, AObj.frz, AV.frz]) (by omega)
    · rintro ⟨⟨i, l'⟩, hi, hs⟩
      simp only at hi hs
      repeat' first | (with_reducible first | refine z1 ?_ ?_ | refine z2 ?_ ?_ | refine z3 ?_ ?_ | refine z4 ?_ ?_ | refine z5 ?_ ?_ | refine z6 ?_ ?_ | refine z7 ?_ ?_ | refine z8 ?_ ?_ | refine z9 ?_ ?_ | intro _) | ((with_reducible first | refine z10 ?_ ?_ | refine z11 ?_ ?_ | refine z12 ?_ ?_); ((try simp only [decide_eq_true_eq, List.length_append, List.length_map, List.length_cons, List.length_nil, List.length_take, List.length_replicate]); omega)) | ((with_reducible refine z13 T_ok follows_ok ?_ ?_ ?_); rfl; kernel_rfl) | ((with_reducible refine z14 T_ok follows_ok ?_ ?_); kernel_rfl) | ((with_reducible refine z15 ?_ ?_); rfl) | ((with_reducible refine z16 ?_); refine ⟨_, (by exact ret_szBond _ _ _ _ _), (by exact rfl), ?_⟩) | simp only [push_cast, ↓reduceIte, Nat.reduceAdd, Nat.reduceSub, Nat.reduceMul, Nat.reduceLT, Nat.reduceLeDiff, Nat.reduceEqDiff, Nat.reduceDiv, Int.reduceNeg, Int.reduceEq, Int.reduceLT, Int.reduceLE, Int.reduceToNat, reduceCtorEq, ↓Int.cast_ofNat_Int, *, bondRow] | omega | exact nl_of (by assumption) (by assumption)
      · rw [drop_getD ‹_›, szGo, if_pos ‹_›]
      · have e : IntKind.wrap .i64 (↑i + 1) = ((i + 1 : Nat) : Int) := wrap_i64 (by omega) (by omega)
        rw [e]
        refine ⟨⟨(i + 1, szV l' (bs.getD i default).name.size), by simp only; omega, by rw [hs, drop_getD ‹_›, szGo, if_neg ‹_›]⟩, ?_, by simp only; omega⟩
        refine Le.of (by repeat' first | exact trivial | refine ⟨Or.inr rfl, ?_⟩ | refine ⟨Or.inl rfl, ?_⟩) (by simp [AV.lo]) (by simp [leO, objsOf, upd, AObj.lo, AV.lo, AObj.kill, AV.kill, AObj.frz, AV.frz]) (by omega)
      · rw [List.drop_of_length_le (by omega), szGo]
set_option maxHeartbeats 1000000 in
theorem ret_toBondS (nl f : Bool) (bs : List Bond) (hn : nl = true → bs = []) (hl : bs.length ≤ 1048576) : Ret Try.prog 17 none [.c (bondsV nl f bs)] [] (.own 73 4 (bs.map bondRow)) := by
  refine Ret.intro (rs := [.tmp 2]) T_ok Try.func17 rfl rfl Try.ntmps17 rfl (by simp [AV.lo]) (fun E => vc_sound T_ok _ ?_)
  repeat' first | (with_reducible first | refine z1 ?_ ?_ | refine z2 ?_ ?_ | refine z3 ?_ ?_ | refine z4 ?_ ?_ | refine z5 ?_ ?_ | refine z6 ?_ ?_ | refine z7 ?_ ?_ | refine z8 ?_ ?_ | refine z9 ?_ ?_ | intro _) | ((with_reducible first | refine z10 ?_ ?_ | refine z11 ?_ ?_ | refine z12 ?_ ?_); ((try simp only [decide_eq_true_eq, List.length_append, List.length_map, List.length_cons, List.length_nil, List.length_take, List.length_replicate]); omega)) | ((with_reducible refine z13 T_ok follows_ok ?_ ?_ ?_); rfl; kernel_rfl) | ((with_reducible refine z14 T_ok follows_ok ?_ ?_); kernel_rfl) | ((with_reducible refine z15 ?_ ?_); rfl) | simp only [push_cast, ↓reduceIte, Nat.reduceAdd, Nat.reduceSub, Nat.reduceMul, Nat.reduceLT, Nat.reduceLeDiff, Nat.reduceEqDiff, Nat.reduceDiv, Int.reduceNeg, Int.reduceEq, Int.reduceLT, Int.reduceLE, Int.reduceToNat, reduceCtorEq, ↓Int.cast_ofNat_Int, *] | omega | exact nl_of (by assumption) (by assumption)
  rw [← mix_zero bondRow]
  refine vc_of_loop T_ok (ι := {i : Nat // i ≤ bs.length}) (fun i => ⟨.c (bondsV nl f bs) :: .junk :: .junk :: .lsl 4 4 0 bs.length :: iv i.1 :: List.replicate 18 .junk, objsOf [(4, .arr 73 4 (mix bondRow [.v (.string ⟨#[]⟩), .v (.int .i64 0), .v (.int .i64 0), .v (.int .i64 0)] bs i.1))], 5⟩) (fun i => bs.length - i.1) ⟨0, by simp⟩ ?_ ?_
  · refine Le.of (by repeat' first | exact trivial | refine ⟨Or.inr rfl, ?_⟩ | refine ⟨Or.inl rfl, ?_⟩) (by simp [AV.lo]) (by simp [leO, objsOf, upd, AObj.lo, AV.lo, AObj.kill, AV.kill, AObj.frz, AV.frz]) (by omega)
  · rintro ⟨i, hi⟩
    repeat' first | (with_reducible first | refine z1 ?_ ?_ | refine z2 ?_ ?_ | refine z3 ?_ ?_ | refine z4 ?_ ?_ | refine z5 ?_ ?_ | refine z6 ?_ ?_ | refine z7 ?_ ?_ | refine z8 ?_ ?_ | refine z9 ?_ ?_ | intro _) | ((with_reducible first | refine z10 ?_ ?_ | refine z11 ?_ ?_ | refine z12 ?_ ?_); ((try simp only [decide_eq_true_eq, List.length_append, List.length_map, List.length_cons, List.length_nil, List.length_take, List.length_replicate]); omega)) | ((with_reducible refine z13 T_ok follows_ok ?_ ?_ ?_); rfl; kernel_rfl) | ((with_reducible refine z14 T_ok follows_ok ?_ ?_); kernel_rfl) | ((with_reducible refine z15 ?_ ?_); rfl) | ((with_reducible refine z16 ?_); refine ⟨_, (by exact ret_toBond _ _ _ _), (by exact rfl), ?_⟩) | simp only [push_cast, ↓reduceIte, Nat.reduceAdd, Nat.reduceSub, Nat.reduceMul, Nat.reduceLT, Nat.reduceLeDiff, Nat.reduceEqDiff, Nat.reduceDiv, Int.reduceNeg, Int.reduceEq, Int.reduceLT, Int.reduceLE, Int.reduceToNat, reduceCtorEq, ↓Int.cast_ofNat_Int, *, mix_get, bondRow] | omega | exact nl_of (by assumption) (by assumption)
    · have e : IntKind.wrap .i64 (↑i + 1) = ((i + 1 : Nat) : Int) := wrap_i64 (by omega) (by omega)
      have e2 := mix_set bondRow [.v (.string ⟨#[]⟩), .v (.int .i64 0), .v (.int .i64 0), .v (.int .i64 0)] bs ‹i < bs.length›
      simp only [bondRow] at e2
      rw [e, e2]
      refine ⟨⟨i + 1, by omega⟩, ?_, by simp only; omega⟩
      refine Le.of (by repeat' first | exact trivial | refine ⟨Or.inr rfl, ?_⟩ | refine ⟨Or.inl rfl, ?_⟩) (by simp [AV.lo]) (by simp [leO, objsOf, upd, AObj.lo, AV.lo, AObj.kill, AV.kill, AObj.frz, AV.frz]) (by omega)
    · rw [mix_all bondRow _ bs (by omega)]
set_option maxHeartbeats 1000000 in
theorem ret_eqBond (b : Bond) : Ret Try.prog 61 none [.agg ((bondRow b).map .c), .agg ((bondRow b).map .c)] [] (.c (bc true)) := by
  refine Ret.intro (rs := [.tmp 4]) T_ok Try.func61 rfl rfl Try.ntmps61 rfl (by simp [AV.lo]) (fun E => vc_sound T_ok _ ?_)
  repeat' first | (with_reducible first | refine z1 ?_ ?_ | refine z2 ?_ ?_ | refine z3 ?_ ?_ | refine z4 ?_ ?_ | refine z5 ?_ ?_ | refine z6 ?_ ?_ | refine z7 ?_ ?_ | refine z8 ?_ ?_ | refine z9 ?_ ?_ | intro _) | ((with_reducible first | refine z10 ?_ ?_ | refine z11 ?_ ?_ | refine z12 ?_ ?_); ((try simp only [decide_eq_true_eq, List.length_append, List.length_map, List.length_cons, List.length_nil, List.length_take, List.length_replicate]); omega)) | ((with_reducible refine z13 T_ok follows_ok ?_ ?_ ?_); rfl; kernel_rfl) | ((with_reducible refine z14 T_ok follows_ok ?_ ?_); kernel_rfl) | ((with_reducible refine z15 ?_ ?_); rfl) | simp only [push_cast, ↓reduceIte, Nat.reduceAdd, Nat.reduceSub, Nat.reduceMul, Nat.reduceLT, Nat.reduceLeDiff, Nat.reduceEqDiff, Nat.reduceDiv, Int.reduceNeg, Int.reduceEq, Int.reduceLT, Int.reduceLE, Int.reduceToNat, reduceCtorEq, ↓Int.cast_ofNat_Int, *, bondRow] | omega | exact nl_of (by assumption) (by assumption)
set_option maxHeartbeats 1000000 in
theorem ret_eqBondS (nl f : Bool) (bs : List Bond) (hn : nl = true → bs = []) (hl : bs.length ≤ 1048576) : Ret Try.prog 20 none [.c (bondsV nl f bs), .c (bondsV nl f bs)] [] (.c (bc true)) := by
  refine Ret.intro (rs := [.tmp 4]) T_ok Try.func20 rfl rfl Try.ntmps20 rfl (by simp [AV.lo]) (fun E => vc_sound T_ok _ ?_)
  repeat' first | (with_reducible first | refine z1 ?_ ?_ | refine z2 ?_ ?_ | refine z3 ?_ ?_ | refine z4 ?_ ?_ | refine z5 ?_ ?_ | refine z6 ?_ ?_ | refine z7 ?_ ?_ | refine z8 ?_ ?_ | refine z9 ?_ ?_ | intro _) | ((with_reducible first | refine z10 ?_ ?_ | refine z11 ?_ ?_ | refine z12 ?_ ?_); ((try simp only [decide_eq_true_eq, List.length_append, List.length_map, List.length_cons, List.length_nil, List.length_take, List.length_replicate]); omega)) | ((with_reducible refine z13 T_ok follows_ok ?_ ?_ ?_); rfl; kernel_rfl) | ((with_reducible refine z14 T_ok follows_ok ?_ ?_); kernel_rfl) | ((with_reducible refine z15 ?_ ?_); rfl) | simp only [push_cast, ↓reduceIte, Nat.reduceAdd, Nat.reduceSub, Nat.reduceMul, Nat.reduceLT, Nat.reduceLeDiff, Nat.reduceEqDiff, Nat.reduceDiv, Int.reduceNeg, Int.reduceEq, Int.reduceLT, Int.reduceLE, Int.reduceToNat, reduceCtorEq, ↓Int.cast_ofNat_Int, *] | omega | exact nl_of (by assumption) (by assumption)
  refine vc_of_loop T_ok (ι := {i : Nat // i ≤ bs.length}) (fun i => ⟨.c (bondsV nl f bs) :: .c (bondsV nl f bs) :: .junk :: .junk :: .junk :: iv i.1 :: List.replicate 21 .junk, objsOf [], 1⟩) (fun i => bs.length - i.1) ⟨0, by simp⟩ ?_ ?_
  · refine Le.of (by repeat' first | exact trivial | refine ⟨Or.inr rfl, ?_⟩ | refine ⟨Or.inl rfl, ?_⟩) (by simp [AV.lo]) (by simp [leO, objsOf, upd, AObj.lo, AV.lo, AObj.kill, AV.kill, AObj.frz, AV.frz]) (by omega)
  · rintro ⟨i, hi⟩
    repeat' first | (with_reducible first | refine z1 ?_ ?_ | refine z2 ?_ ?_ | refine z3 ?_ ?_ | refine z4 ?_ ?_ | refine z5 ?_ ?_ | refine z6 ?_ ?_ | refine z7 ?_ ?_ | refine z8 ?_ ?_ | refine z9 ?_ ?_ | intro _) | ((with_reducible first | refine z10 ?_ ?_ | refine z11 ?_ ?_ | refine z12 ?_ ?_); ((try simp only [decide_eq_true_eq, List.length_append, List.length_map, List.length_cons, List.length_nil, List.length_take, List.length_replicate]); omega)) | ((with_reducible refine z13 T_ok follows_ok ?_ ?_ ?_); rfl; kernel_rfl) | ((with_reducible refine z14 T_ok follows_ok ?_ ?_); kernel_rfl) | ((with_reducible refine z15 ?_ ?_); rfl) | ((with_reducible refine z16 ?_); refine ⟨_, (by exact (ret_eqBond (bs.getD i default))), (by exact rfl), ?_⟩) | simp only [push_cast, ↓reduceIte, Nat.reduceAdd, Nat.reduceSub, Nat.reduceMul, Nat.reduceLT, Nat.reduceLeDiff, Nat.reduceEqDiff, Nat.reduceDiv, Int.reduceNeg, Int.reduceEq, Int.reduceLT, Int.reduceLE, Int.reduceToNat, reduceCtorEq, ↓Int.cast_ofNat_Int, *, bondRow] | omega | exact nl_of (by assumption) (by assumption)
    · have e : IntKind.wrap .i64 (↑i + 1) = ((i + 1 : Nat) : Int) := wrap_i64 (by omega) (by omega)
      rw [e]
      refine ⟨⟨i + 1, by omega⟩, ?_, by simp only; omega⟩
      refine Le.of (by repeat' first | exact trivial | refine ⟨Or.inr rfl, ?_⟩ | refine ⟨Or.inl rfl, ?_⟩) (by simp [AV.lo]) (by simp [leO, objsOf, upd, AObj.lo, AV.lo, AObj.kill, AV.kill, AObj.frz, AV.frz]) (by omega)
def bondOk (bs : List Bond) (i : Nat) : Bool := validBond (bs.getD i default).name (bs.getD i default).spread (bs.getD i default).opn (bs.getD i default).press && (decide (i = 0) || strLt (bs.getD (i - 1) default).name (bs.getD i default).name)
def validBonds (bs : List Bond) : Bool := allN (bondOk bs) bs.length && decide (bs.length ≤ 12)
set_option maxHeartbeats 1000000 in
theorem ret_iValidBonds (nl f : Bool) (bs : List Bond) (hn : nl = true → bs = []) (hl : bs.length ≤ 1048576) : Ret Try.prog 108 none [.c (bondsV nl f bs)] [] (.c (bc (validBonds bs))) := by
  refine Ret.intro (rs := [.tmp 2]) T_ok Try.func108 rfl rfl Try.ntmps108 rfl (by simp [AV.lo]) (fun E => vc_sound T_ok _ ?_)
  repeat' first | (with_reducible first | refine z1 ?_ ?_ | refine z2 ?_ ?_ | refine z3 ?_ ?_ | refine z4 ?_ ?_ | refine z5 ?_ ?_ | refine z6 ?_ ?_ | refine z7 ?_ ?_ | refine z8 ?_ ?_ | refine z9 ?_ ?_ | intro _) | ((with_reducible first | refine z10 ?_ ?_ | refine z11 ?_ ?_ | refine z12 ?_ ?_); ((try simp only [decide_eq_true_eq, List.length_append, List.length_map, List.length_cons, List.length_nil, List.length_take, List.length_replicate]); omega)) | ((with_reducible refine z13 T_ok follows_ok ?_ ?_ ?_); rfl; kernel_rfl) | ((with_reducible refine z14 T_ok follows_ok ?_ ?_); kernel_rfl) | ((with_reducible refine z15 ?_ ?_); rfl) | simp only [push_cast, ↓reduceIte, Nat.reduceAdd, Nat.reduceSub, Nat.reduceMul, Nat.reduceLT, Nat.reduceLeDiff, Nat.reduceEqDiff, Nat.reduceDiv, Int.reduceNeg, Int.reduceEq, Int.reduceLT, Int.reduceLE, Int.reduceToNat, reduceCtorEq, ↓Int.cast_ofNat_Int, *] | omega | exact nl_of (by assumption) (by assumption)
  refine vc_of_loop T_ok (ι := {i : Nat // i ≤ bs.length ∧ ∀ j, j < i → bondOk bs j = true}) (fun i => ⟨.c (bondsV nl f bs) :: .junk :: .junk :: .junk :: .junk :: .c (bondsV nl f bs) :: iv bs.length :: iv i.1 :: List.replicate 26 .junk, objsOf [], 1⟩) (fun i => bs.length - i.1) ⟨0, by simp⟩ ?_ ?_
  · refine Le.of (by repeat' first | exact trivial | refine ⟨Or.inr rfl, ?_⟩ | refine ⟨Or.inl rfl, ?_⟩) (by simp [AV.lo]) (by simp [leO, objsOf, upd, AObj.lo, AV.lo, AObj.kill, AV.kill, AObj.frz, AV.frz]) (by omega)
  · rintro ⟨i, hi, hall⟩
    have e0 : i < bs.length → IntKind.wrap .i64 (↑i + 1) = ↑i + 1 := fun _ => wrap_i64 (by omega) (by omega)
    have e1 : (0 : Int) < ↑i → IntKind.wrap .i64 (↑i - 1) = ((i - 1 : Nat) : Int) := fun _ => by rw [wrap_i64 (by omega) (by omega)]; omega
    have e2 : i < bs.length → i - 1 < bs.length := fun _ => by omega
    repeat' first | (with_reducible first | refine z1 ?_ ?_ | refine z2 ?_ ?_ | refine z3 ?_ ?_ | refine z4 ?_ ?_ | refine z5 ?_ ?_ | refine z6 ?_ ?_ | refine z7 ?_ ?_ | refine z8 ?_ ?_ | refine z9 ?_ ?_ | intro _) | ((with_reducible first | refine z10 ?_ ?_ | refine z11 ?_ ?_ | refine z12 ?_ ?_); ((try simp only [decide_eq_true_eq, List.length_append, List.length_map, List.length_cons, List.length_nil, List.length_take, List.length_replicate]); omega)) | ((with_reducible refine z13 T_ok follows_ok ?_ ?_ ?_); rfl; kernel_rfl) | ((with_reducible refine z14 T_ok follows_ok ?_ ?_); kernel_rfl) | ((with_reducible refine z15 ?_ ?_); rfl) | ((with_reducible refine z16 ?_); refine ⟨_, (by exact ret_iValidBond _ _ _ _), (by exact rfl), ?_⟩) | simp only [push_cast, ↓reduceIte, Nat.reduceAdd, Nat.reduceSub, Nat.reduceMul, Nat.reduceLT, Nat.reduceLeDiff, Nat.reduceEqDiff, Nat.reduceDiv, Int.reduceNeg, Int.reduceEq, Int.reduceLT, Int.reduceLE, Int.reduceToNat, reduceCtorEq, ↓Int.cast_ofNat_Int, *, bondRow] | omega | exact nl_of (by assumption) (by assumption)
    all_goals first
      | (rw [show validBonds bs = false from by unfold validBonds; rw [allN_false (i := i) ‹_› (by simp_all [bondOk] <;> omega)]; rfl]; done)
      | (refine ⟨⟨i + 1, by omega, below_succ hall (by simp_all [bondOk] <;> omega)⟩, ?_, by simp only; omega⟩
         refine Le.of (by repeat' first | exact trivial | refine ⟨Or.inr rfl, ?_⟩ | refine ⟨Or.inl rfl, ?_⟩) (by simp [AV.lo]) (by simp [leO, objsOf, upd, AObj.lo, AV.lo, AObj.kill, AV.kill, AObj.frz, AV.frz]) (by omega))
      | (rw [show validBonds bs = decide (bs.length ≤ 12) from by unfold validBonds; rw [allN_true (i := i) (by omega) hall]; rfl]
         simp; omega)
set_option maxHeartbeats 1000000 in
theorem ret_l24Ok (nl f : Bool) (bs : List Bond) (hn : nl = true → bs = []) (hl : bs.length ≤ 1048576) : Ret Try.prog 104 none [.c (bondsV nl f bs)] [] (.c (bc (validBonds bs))) := by
  refine Ret.intro (rs := [.tmp 2]) T_ok Try.func104 rfl rfl Try.ntmps104 rfl (by simp [AV.lo]) (fun E => vc_sound T_ok _ ?_)
  repeat' first | (with_reducible first | refine z1 ?_ ?_ | refine z2 ?_ ?_ | refine z3 ?_ ?_ | refine z4 ?_ ?_ | refine z5 ?_ ?_ | refine z6 ?_ ?_ | refine z7 ?_ ?_ | refine z8 ?_ ?_ | refine z9 ?_ ?_ | intro _) | ((with_reducible first | refine z10 ?_ ?_ | refine z11 ?_ ?_ | refine z12 ?_ ?_); ((try simp only [decide_eq_true_eq, List.length_append, List.length_map, List.length_cons, List.length_nil, List.length_take, List.length_replicate]); omega)) | ((with_reducible refine z13 T_ok follows_ok ?_ ?_ ?_); rfl; kernel_rfl) | ((with_reducible refine z14 T_ok follows_ok ?_ ?_); kernel_rfl) | ((with_reducible refine z15 ?_ ?_); rfl) | simp only [push_cast, ↓reduceIte, Nat.reduceAdd, Nat.reduceSub, Nat.reduceMul, Nat.reduceLT, Nat.reduceLeDiff, Nat.reduceEqDiff, Nat.reduceDiv, Int.reduceNeg, Int.reduceEq, Int.reduceLT, Int.reduceLE, Int.reduceToNat, reduceCtorEq, ↓Int.cast_ofNat_Int, *] | omega | exact nl_of (by assumption) (by assumption)
  refine vc_of_loop T_ok (ι := {i : Nat // i ≤ bs.length ∧ ∀ j, j < i → bondOk bs j = true}) (fun i => ⟨.c (bondsV nl f bs) :: .junk :: .junk :: iv i.1 :: List.replicate 32 .junk, objsOf [], 1⟩) (fun i => bs.length - i.1) ⟨0, by simp⟩ ?_ ?_
  · refine Le.of (by repeat' first | exact trivial | refine ⟨Or.inr rfl, ?_⟩ | refine ⟨Or.inl rfl, ?_⟩) (by simp [AV.lo]) (by simp [leO, objsOf, upd, AObj.lo, AV.lo, AObj.kill, AV.kill, AObj.frz, AV.frz]) (by omega)
  · rintro ⟨i, hi, hall⟩
    have e0 : i < bs.length → IntKind.wrap .i64 (↑i + 1) = ↑i + 1 := fun _ => wrap_i64 (by omega) (by omega)
    have e1 : (0 : Int) < ↑i → IntKind.wrap .i64 (↑i - 1) = ((i - 1 : Nat) : Int) := fun _ => by rw [wrap_i64 (by omega) (by omega)]; omega
    have e2 : i < bs.length → i - 1 < bs.length := fun _ => by omega
    repeat' first | (with_reducible first | refine z1 ?_ ?_ | refine z2 ?_ ?_ | refine z3 ?_ ?_ | refine z4 ?_ ?_ | refine z5 ?_ ?_ | refine z6 ?_ ?_ | refine z7 ?_ ?_ | refine z8 ?_ ?_ | refine z9 ?_ ?_ | intro _) | ((with_reducible first | refine z10 ?_ ?_ | refine z11 ?_ ?_ | refine z12 ?_ ?_); ((try simp only [decide_eq_true_eq, List.length_append, List.length_map, List.length_cons, List.length_nil, List.length_take, List.length_replicate]); omega)) | ((with_reducible refine z13 T_ok follows_ok ?_ ?_ ?_); rfl; kernel_rfl) | ((with_reducible refine z14 T_ok follows_ok ?_ ?_); kernel_rfl) | ((with_reducible refine z15 ?_ ?_); rfl) | ((with_reducible refine z16 ?_); refine ⟨_, (by exact ret_l24One _ _ _ _), (by exact rfl), ?_⟩) | simp only [push_cast, ↓reduceIte, Nat.reduceAdd, Nat.reduceSub, Nat.reduceMul, Nat.reduceLT, Nat.reduceLeDiff, Nat.reduceEqDiff, Nat.reduceDiv, Int.reduceNeg, Int.reduceEq, Int.reduceLT, Int.reduceLE, Int.reduceToNat, reduceCtorEq, ↓Int.cast_ofNat_Int, *, bondRow] | omega | exact nl_of (by assumption) (by assumption)
    all_goals first
      | (rw [show validBonds bs = false from by unfold validBonds; rw [allN_false (i := i) ‹_› (by simp_all [bondOk] <;> omega)]; rfl]; done)
      | (refine ⟨⟨i + 1, by omega, below_succ hall (by simp_all [bondOk] <;> omega)⟩, ?_, by simp only; omega⟩
         refine Le.of (by repeat' first | exact trivial | refine ⟨Or.inr rfl, ?_⟩ | refine ⟨Or.inl rfl, ?_⟩) (by simp [AV.lo]) (by simp [leO, objsOf, upd, AObj.lo, AV.lo, AObj.kill, AV.kill, AObj.frz, AV.frz]) (by omega))
      | (rw [show validBonds bs = decide (bs.length ≤ 12) from by unfold validBonds; rw [allN_true (i := i) (by omega) hall]; rfl]
         simp; omega)
theorem szS_ge {bs : List Bond} (hl : bs.length ≤ 9223372036854775807) (h : ¬ szS 1048576 bs < 0) : bs.length ≤ 1048576 := by
  unfold szS at h
  rw [wrap_i64 (by omega) (by omega)] at h
  split at h
  · omega
  · omega
theorem bonds_of {rows : List (List CV)} (h : ∀ r ∈ rows, Okl [.str, .int .i64, .int .i64, .int .i64] r) : ∃ bs : List Bond, rows = bs.map bondRow := by
  obtain ⟨bs, h1, _⟩ := rows_of (f := bondRow) (p := fun _ => True) (rows := rows) (fun r hr => by
    obtain ⟨y0, ys0, rfl, e0, k0⟩ := okcons (h r hr)
    obtain ⟨y1, ys1, rfl, e1, k1⟩ := okcons k0
    obtain ⟨y2, ys2, rfl, e2, k2⟩ := okcons k1
    obtain ⟨y3, ys3, rfl, e3, k3⟩ := okcons k2
    obtain rfl := oknil k3
    obtain ⟨v0, rfl, _⟩ := okstr e0
    obtain ⟨v1, rfl, _⟩ := okint e1
    obtain ⟨v2, rfl, _⟩ := okint e2
    obtain ⟨v3, rfl, _⟩ := okint e3
    exact ⟨⟨v0, v1, v2, v3⟩, rfl, trivial⟩)
  exact ⟨bs, h1⟩
end Go.Proofs.Ytijkfgpnajdckaa.Fw
