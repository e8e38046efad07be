/- The row of the law FnGlue: out of the contract of its call. No condition. -/
import Derived.Test.YtnhgffhnfegiiaaRows
import Derived.Test.YtnhgffhnfegiiaaPuGL
import Derived.Test.YtnhgffhnfegiiaaFwZb
import Derived.WalkKit
import Derived.ProofKit
import Derived.OpenShut
import Derived.ShutString
import Derived.ChangeOld
import Derived.Below
import Derived.SizedLaws
namespace Go.Proofs.Ytnhgffhnfegiiaa.LawFnGlue
open Go.ChangeShapes Go.WideShapes Go.ChangeAt Go.RowKit Fw
set_option linter.unusedVariables false
theorem own : ownKnob Try.prog.godebug = none := by kernel_rfl
theorem laidOut : laidOutB Try.prog = true := by kernel_rfl
theorem args (xs : List AV) (h : OkArgs [(false, [.sl [.int .u8]])] xs) : Ret Try.prog 10 none xs [] (.c (.v (.bool true))) := by
  obtain ⟨y0, xs0, rfl, e0, h0⟩ := okone h
  obtain rfl := okdone h0
  obtain ⟨nlv0, v0, rfl, hlv0, hnv0, hrv0⟩ := oksl e0
  exact ret_FnGlue nlv0 v0 hlv0 hnv0 hrv0
set_option maxRecDepth 100000 in
theorem lifted (os : Os) (started : os.Started) (H : Type) (enc : TypeId × Value → H) :
    ReturnsInHanded {} Try.checked os 10 .any (Rows.fnGlueSpec.pre6 enc Try.prog Try.f10 Rows.fnGlueRow.domain false) (Rows.fnGlueSpec.post enc Try.prog Try.f10 false true false false) := by
  refine returnsInHanded_of_change_sized (C := Try.checked) own started (by kernel_rfl) Try.func10
    (ChangeSpec.witness6 (enc := enc) (C := Try.checked) false ⟨#[], #[.slice none 0 0], []⟩ 8 (by kernel_rfl) (by kernel_rfl) (by kernel_rfl) (by kernel_rfl)) ?_
  intro W base args ds gs before hval hW _ _ _
  exact row_of_ret T_ok laidOut rfl (by kernel_rfl) (by kernel_rfl) (n := 1) (by kernel_rfl) rfl (by kernel_rfl) (fun ds hd => match ds, hd with | [_], _ => rfl) LawFnGlue.args hval hW
theorem over : Rows.fnGlueRow.holds Try.pinned (OpenSpec.ofChange Rows.fnGlueSpec) :=
  OpenClaim.holds_of_wide 10 Try.f10 rfl rfl rfl rfl rfl rfl rfl ⟨rfl, rfl, rfl, rfl, rfl⟩ rfl rfl rfl rfl rfl (by kernel_rfl) Try.func10 (by kernel_rfl)
    (of_decide_eq_true (by kernel_rfl)) (by unfold Func.isWrapper; first | (rw [if_pos (by decide +kernel)]; kernel_rfl) | (rw [if_neg (by decide +kernel)]; exact ⟨rfl, rfl⟩))
    (fun os started H enc _ => lifted os started H enc)
end Go.Proofs.Ytnhgffhnfegiiaa.LawFnGlue
namespace Go.Proofs.Ytnhgffhnfegiiaa
/-- The law's row. -/
theorem fnGlue_holds : Rows.FnGlueSaid := LawFnGlue.over
#print axioms fnGlue_holds
end Go.Proofs.Ytnhgffhnfegiiaa
