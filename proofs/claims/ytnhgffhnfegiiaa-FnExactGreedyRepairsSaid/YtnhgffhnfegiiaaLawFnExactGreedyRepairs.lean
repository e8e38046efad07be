/- The row of the law FnExactGreedyRepairs: out of the contract of its call. No condition. -/
import Derived.Test.YtnhgffhnfegiiaaRows
import Derived.Test.YtnhgffhnfegiiaaPuGY
import Derived.Test.YtnhgffhnfegiiaaFwZb
import Derived.WalkKit
import Derived.ProofKit
import Derived.OpenShut
import Derived.ShutString
import Derived.ChangeOld
import Derived.Below
import Derived.SizedLaws
namespace Go.Proofs.Ytnhgffhnfegiiaa.LawFnExactGreedyRepairs
open Go.ChangeShapes Go.WideShapes Go.ChangeAt Go.RowKit Fw
set_option linter.unusedVariables false
theorem own : ownKnob Try.prog.godebug = none := by kernel_rfl
theorem laidOut : laidOutB Try.prog = true := by kernel_rfl
theorem args (xs : List AV) (h : OkArgs [(false, [.sl [.str, .str, .int .i64, .int .i64, .int .i64, .int .i64, .int .i64, .int .i64]]), (false, [.int .i64]), (false, [.int .i64])] xs) : Ret Try.prog 9 none xs [] (.c (.v (.bool true))) := by
  obtain ⟨y0, xs0, rfl, e0, h0⟩ := okone h
  obtain ⟨y1, xs1, rfl, e1, h1⟩ := okone h0
  obtain ⟨y2, xs2, rfl, e2, h2⟩ := okone h1
  obtain rfl := okdone h2
  obtain ⟨nlv0, v0, rfl, hlv0, hnv0, hrv0⟩ := oksl e0
  obtain ⟨v1, rfl, lov1, hiv1⟩ := okint e1
  obtain ⟨v2, rfl, lov2, hiv2⟩ := okint e2
  exact ret_FnExactGreedyRepairs nlv0 v0 hlv0 hnv0 hrv0 v1 lov1 hiv1 v2 lov2 hiv2
set_option maxRecDepth 100000 in
theorem lifted (os : Os) (started : os.Started) (H : Type) (enc : TypeId × Value → H) :
    ReturnsInHanded {} Try.checked os 9 .any (Rows.fnExactGreedyRepairsSpec.pre6 enc Try.prog Try.f9 Rows.fnExactGreedyRepairsRow.domain false) (Rows.fnExactGreedyRepairsSpec.post enc Try.prog Try.f9 false true false false) := by
  refine returnsInHanded_of_change_sized (C := Try.checked) own started (by kernel_rfl) Try.func9
    (ChangeSpec.witness6 (enc := enc) (C := Try.checked) false ⟨#[], #[.slice none 0 0, .int .i64 0, .int .i64 0], []⟩ 8 (by kernel_rfl) (by kernel_rfl) (by kernel_rfl) (by kernel_rfl)) ?_
  intro W base args ds gs before hval hW _ _ _
  exact row_of_ret T_ok laidOut rfl (by kernel_rfl) (by kernel_rfl) (n := 3) (by kernel_rfl) rfl (by kernel_rfl) (fun ds hd => match ds, hd with | [_, _, _], _ => rfl) LawFnExactGreedyRepairs.args (by intro x hx; cases hx) hval hW
theorem over : Rows.fnExactGreedyRepairsRow.holds Try.pinned (OpenSpec.ofChange Rows.fnExactGreedyRepairsSpec) :=
  OpenClaim.holds_of_wide 9 Try.f9 rfl rfl rfl rfl rfl rfl rfl ⟨rfl, rfl, rfl, rfl, rfl⟩ rfl rfl rfl rfl rfl (by kernel_rfl) Try.func9 (by kernel_rfl)
    (of_decide_eq_true (by kernel_rfl)) (by unfold Func.isWrapper; first | (rw [if_pos (by decide +kernel)]; kernel_rfl) | (rw [if_neg (by decide +kernel)]; exact ⟨rfl, rfl⟩))
    (fun os started H enc _ => lifted os started H enc)
end Go.Proofs.Ytnhgffhnfegiiaa.LawFnExactGreedyRepairs
namespace Go.Proofs.Ytnhgffhnfegiiaa
/-- The law's row. -/
theorem fnExactGreedyRepairs_holds : Rows.FnExactGreedyRepairsSaid := LawFnExactGreedyRepairs.over
#print axioms fnExactGreedyRepairs_holds
end Go.Proofs.Ytnhgffhnfegiiaa
