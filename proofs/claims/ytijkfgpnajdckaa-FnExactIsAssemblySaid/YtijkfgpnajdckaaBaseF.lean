/- Contracts of the functions on gluing. No condition. -/
import Derived.Test.YtijkfgpnajdckaaBaseB
import Derived.Test.YtijkfgpnajdckaaBaseC
namespace Go.Proofs.Ytijkfgpnajdckaa.Fw
open Go.RowKit
set_option linter.unusedSimpArgs false
set_option linter.unusedVariables false
set_option maxRecDepth 100000
theorem ret_l00Min (a b : Int) : Ret Try.prog 167 none [iv a, iv b] [] (.c (ic (min a b))) := by
  refine Ret.intro (rs := [.tmp 4]) T_ok Try.func167 rfl rfl Try.ntmps167 rfl (by simp [AV.lo]) (fun E => vc_sound T_ok _ ?_)
  repeat' first | (with_reducible first | refine z1 ?_ ?_ | refine z2 ?_ ?_ | refine z3 ?_ ?_ | refine z4 ?_ ?_ | refine z5 ?_ ?_ | refine z6 ?_ ?_ | refine z7 ?_ ?_ | refine z8 ?_ ?_ | refine z9 ?_ ?_ | intro _) | ((with_reducible first | refine z10 ?_ ?_ | refine z11 ?_ ?_ | refine z12 ?_ ?_); ((try simp only [decide_eq_true_eq, List.length_append, List.length_map, List.length_cons, List.length_nil, List.length_take, List.length_replicate]); omega)) | ((with_reducible refine z13 T_ok follows_ok ?_ ?_ ?_); rfl; kernel_rfl) | ((with_reducible refine z14 T_ok follows_ok ?_ ?_); kernel_rfl) | ((with_reducible refine z15 ?_ ?_); rfl) | simp only [push_cast, ↓reduceIte, Nat.reduceAdd, Nat.reduceSub, Nat.reduceMul, Nat.reduceLT, Nat.reduceLeDiff, Nat.reduceEqDiff, Nat.reduceDiv, Int.reduceNeg, Int.reduceEq, Int.reduceLT, Int.reduceLE, Int.reduceToNat, reduceCtorEq, ↓Int.cast_ofNat_Int, *] | omega | exact nl_of (by assumption) (by assumption)
  · rw [Int.min_eq_left (by omega)]
  · rw [Int.min_eq_right (by omega)]
theorem ret_l00Max (a b : Int) : Ret Try.prog 107 none [iv a, iv b] [] (.c (ic (max a b))) := by
  refine Ret.intro (rs := [.tmp 4]) T_ok Try.func107 rfl rfl Try.ntmps107 rfl (by simp [AV.lo]) (fun E => vc_sound T_ok _ ?_)
  repeat' first | (with_reducible first | refine z1 ?_ ?_ | refine z2 ?_ ?_ | refine z3 ?_ ?_ | refine z4 ?_ ?_ | refine z5 ?_ ?_ | refine z6 ?_ ?_ | refine z7 ?_ ?_ | refine z8 ?_ ?_ | refine z9 ?_ ?_ | intro _) | ((with_reducible first | refine z10 ?_ ?_ | refine z11 ?_ ?_ | refine z12 ?_ ?_); ((try simp only [decide_eq_true_eq, List.length_append, List.length_map, List.length_cons, List.length_nil, List.length_take, List.length_replicate]); omega)) | ((with_reducible refine z13 T_ok follows_ok ?_ ?_ ?_); rfl; kernel_rfl) | ((with_reducible refine z14 T_ok follows_ok ?_ ?_); kernel_rfl) | ((with_reducible refine z15 ?_ ?_); rfl) | simp only [push_cast, ↓reduceIte, Nat.reduceAdd, Nat.reduceSub, Nat.reduceMul, Nat.reduceLT, Nat.reduceLeDiff, Nat.reduceEqDiff, Nat.reduceDiv, Int.reduceNeg, Int.reduceEq, Int.reduceLT, Int.reduceLE, Int.reduceToNat, reduceCtorEq, ↓Int.cast_ofNat_Int, *] | omega | exact nl_of (by assumption) (by assumption)
  · rw [Int.max_eq_left (by omega)]
  · rw [Int.max_eq_right (by omega)]
def wsum (a : Int) (xs : List Int) : Int := xs.foldl (fun a x => IntKind.wrap .i64 (a + x)) a
def mn (m : Int) (xs : List Int) : Int := xs.foldl (fun m x => min m x) m
theorem min_if (a b : Int) : (if b < a then b else a) = min a b := by
  split
  · rw [Int.min_eq_right (by omega)]
  · rw [Int.min_eq_left (by omega)]
theorem max_if (a b : Int) : (if b > a then b else a) = max a b := by
  split
  · rw [Int.max_eq_right (by omega)]
  · rw [Int.max_eq_left (by omega)]
def glueCode0 (bs : List Bond) (p : Int) : Int := if validBonds bs then (if inB p 1 4 then 0 else 2) else 1
def bound2 (bs : List Bond) (p : Int) : Int :=
  let sp := bs.map Bond.spread
  let pr := bs.map Bond.press
  max (IntKind.wrap .i64 (wsum 0 sp + mn (pr.getD 0 default) (pr.drop 1))) (IntKind.wrap .i64 (IntKind.wrap .i64 ((IntKind.wrap .i64 (IntKind.wrap .i64 (wsum 0 pr + p) - 1)).tdiv p) + mn (sp.getD 0 default) (sp.drop 1)))
def glueBound (bs : List Bond) (p : Int) : Int := if glueCode0 bs p = 0 then (if bs.length = 0 then 0 else bound2 bs p) else 0
end Go.Proofs.Ytijkfgpnajdckaa.Fw
