/- The row of the law FnExactValidLosses: out of the contract of its call. No condition. -/
import Derived.Test.YtdglnjgjonbfbaaRows
import Derived.Test.YtdglnjgjonbfbaaBaseE
import Derived.Test.YtdglnjgjonbfbaaFwZb
import Derived.WalkKit
import Derived.ProofKit
import Derived.OpenShut
import Derived.ShutString
import Derived.ChangeOld
import Derived.Below
import Derived.SizedLaws
namespace Go.Proofs.Ytdglnjgjonbfbaa.LawFnExactValidLosses
open Go.ChangeShapes Go.WideShapes Go.ChangeAt Go.RowKit Fw
set_option linter.unusedVariables false
theorem own : ownKnob Try.prog.godebug = none := by kernel_rfl
theorem laidOut : laidOutB Try.prog = true := by kernel_rfl
theorem args (xs : List AV) (h : OkArgs [(false, [.sl [.str, .str, .int .i64, .int .i64, .int .i64, .int .i64, .int .i64, .int .i64]])] xs) : Ret Try.prog 11 none xs [] (.c (.v (.bool true))) := by
  obtain ⟨y0, xs0, rfl, e0, h0⟩ := okone h
  obtain rfl := okdone h0
  obtain ⟨nlv0, v0, rfl, hlv0, hnv0, hrv0⟩ := oksl e0
  exact ret_FnExactValidLosses nlv0 v0 hlv0 hnv0 hrv0
set_option maxRecDepth 100000 in
theorem lifted (os : Os) (started : os.Started) (H : Type) (enc : TypeId × Value → H) :
    ReturnsInHanded {} Try.checked os 11 .any (Rows.fnExactValidLossesSpec.pre6 enc Try.prog Try.f11 Rows.fnExactValidLossesRow.domain false) (Rows.fnExactValidLossesSpec.post enc Try.prog Try.f11 false true false false) := by
  refine returnsInHanded_of_change_sized (C := Try.checked) own started (by kernel_rfl) Try.func11
    (ChangeSpec.witness6 (enc := enc) (C := Try.checked) false ⟨#[], #[.slice none 0 0], []⟩ 8 (by kernel_rfl) (by kernel_rfl) (by kernel_rfl) (by kernel_rfl)) ?_
  intro W base args ds gs before hval hW _ _ _
  exact row_of_ret T_ok laidOut rfl (by kernel_rfl) (by kernel_rfl) (n := 1) (by kernel_rfl) rfl (by kernel_rfl) (fun ds hd => match ds, hd with | [_], _ => rfl) LawFnExactValidLosses.args hval hW
theorem over : Rows.fnExactValidLossesRow.holds Try.pinned (OpenSpec.ofChange Rows.fnExactValidLossesSpec) :=
  OpenClaim.holds_of_wide 11 Try.f11 rfl rfl rfl rfl rfl rfl rfl ⟨rfl, rfl, rfl, rfl, rfl⟩ rfl rfl rfl rfl rfl (by kernel_rfl) Try.func11 (by kernel_rfl)
    (of_decide_eq_true (by kernel_rfl)) (by unfold Func.isWrapper; first | (rw [if_pos (by decide +kernel)]; kernel_rfl) | (rw [if_neg (by decide +kernel)]; exact ⟨rfl, rfl⟩))
    (fun os started H enc _ => lifted os started H enc)
end Go.Proofs.Ytdglnjgjonbfbaa.LawFnExactValidLosses
namespace Go.Proofs.Ytdglnjgjonbfbaa
/-- The law's row. -/
theorem fnExactValidLosses_holds : Rows.FnExactValidLossesSaid := LawFnExactValidLosses.over
#print axioms fnExactValidLosses_holds
end Go.Proofs.Ytdglnjgjonbfbaa
