/- The row of the law FnClear: out of the contract of its call. No condition. -/
import Derived.Test.YtnnpjblpiecfdaaRows
import Derived.Test.YtnnpjblpiecfdaaPuZZ
import Derived.Test.YtnnpjblpiecfdaaFwZb
import Derived.WalkKit
import Derived.ProofKit
import Derived.OpenShut
import Derived.ShutString
import Derived.ChangeOld
import Derived.Below
import Derived.SizedLaws
namespace Go.Proofs.Ytnnpjblpiecfdaa.LawFnClear
open Go.ChangeShapes Go.WideShapes Go.ChangeAt Go.RowKit Fw
set_option linter.unusedVariables false
theorem own : ownKnob Try.prog.godebug = none := by kernel_rfl
theorem laidOut : laidOutB Try.prog = true := by kernel_rfl
theorem args (xs : List AV) (h : OkArgs [(false, [.sl [.int .u8]]), (false, [.sl [.int .u8]])] xs) : Ret Try.prog 3 none xs [] (.c (.v (.bool true))) := by
  obtain ⟨y0, xs0, rfl, e0, h0⟩ := okone h
  obtain ⟨y1, xs1, rfl, e1, h1⟩ := okone h0
  obtain rfl := okdone h1
  obtain ⟨nlv0, v0, rfl, hlv0, hnv0, hrv0⟩ := oksl e0
  obtain ⟨nlv1, v1, rfl, hlv1, hnv1, hrv1⟩ := oksl e1
  exact ret_FnClear nlv0 v0 hlv0 hnv0 hrv0 nlv1 v1 hlv1 hnv1 hrv1
set_option maxRecDepth 100000 in
theorem lifted (os : Os) (started : os.Started) (H : Type) (enc : TypeId × Value → H) :
    ReturnsInHanded {} Try.checked os 3 .any (Rows.fnClearSpec.pre6 enc Try.prog Try.f3 Rows.fnClearRow.domain false) (Rows.fnClearSpec.post enc Try.prog Try.f3 false true false false) := by
  refine returnsInHanded_of_change_sized (C := Try.checked) own started (by kernel_rfl) Try.func3
    (ChangeSpec.witness6 (enc := enc) (C := Try.checked) false ⟨#[], #[.slice none 0 0, .slice none 0 0], []⟩ 8 (by kernel_rfl) (by kernel_rfl) (by kernel_rfl) (by kernel_rfl)) ?_
  intro W base args ds gs before hval hW _ _ _
  exact row_of_ret T_ok laidOut rfl (by kernel_rfl) (by kernel_rfl) (n := 2) (by kernel_rfl) rfl (by kernel_rfl) (fun ds hd => match ds, hd with | [_, _], _ => rfl) LawFnClear.args (by intro x hx; cases hx) hval hW
theorem over : Rows.fnClearRow.holds Try.pinned (OpenSpec.ofChange Rows.fnClearSpec) :=
  OpenClaim.holds_of_wide 3 Try.f3 rfl rfl rfl rfl rfl rfl rfl ⟨rfl, rfl, rfl, rfl, rfl⟩ rfl rfl rfl rfl rfl (by kernel_rfl) Try.func3 (by kernel_rfl)
    (of_decide_eq_true (by kernel_rfl)) (by unfold Func.isWrapper; first | (rw [if_pos (by decide +kernel)]; kernel_rfl) | (rw [if_neg (by decide +kernel)]; exact ⟨rfl, rfl⟩))
    (fun os started H enc _ => lifted os started H enc)
end Go.Proofs.Ytnnpjblpiecfdaa.LawFnClear
namespace Go.Proofs.Ytnnpjblpiecfdaa
/-- The law's row. -/
theorem fnClear_holds : Rows.FnClearSaid := LawFnClear.over
#print axioms fnClear_holds
end Go.Proofs.Ytnnpjblpiecfdaa
