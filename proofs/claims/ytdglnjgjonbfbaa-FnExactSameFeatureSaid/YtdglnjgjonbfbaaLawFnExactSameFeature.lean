/- The row of the law FnExactSameFeature: out of the contract of its call. No condition. -/
import Derived.Test.YtdglnjgjonbfbaaRows
import Derived.Test.YtdglnjgjonbfbaaBaseC
import Derived.Test.YtdglnjgjonbfbaaFwZb
import Derived.WalkKit
import Derived.ProofKit
import Derived.OpenShut
import Derived.ShutString
import Derived.ChangeOld
import Derived.Below
import Derived.SizedLaws
namespace Go.Proofs.Ytdglnjgjonbfbaa.LawFnExactSameFeature
open Go.ChangeShapes Go.WideShapes Go.ChangeAt Go.RowKit Fw
set_option linter.unusedVariables false
theorem own : ownKnob Try.prog.godebug = none := by kernel_rfl
theorem laidOut : laidOutB Try.prog = true := by kernel_rfl
theorem args (xs : List AV) (h : OkArgs [(true, [.str, .sl [.int .i64]]), (true, [.str, .sl [.int .i64]])] xs) : Ret Try.prog 4 none xs [] (.c (.v (.bool true))) := by
  obtain ⟨ys0, xs0, rfl, k0, h0⟩ := okagg h
  obtain ⟨y0_0, ys0_0, rfl, e0_0, k0_0⟩ := okcons k0
  obtain ⟨y0_1, ys0_1, rfl, e0_1, k0_1⟩ := okcons k0_0
  obtain rfl := oknil k0_1
  obtain ⟨ys1, xs1, rfl, k1, h1⟩ := okagg h0
  obtain ⟨y1_0, ys1_0, rfl, e1_0, k1_0⟩ := okcons k1
  obtain ⟨y1_1, ys1_1, rfl, e1_1, k1_1⟩ := okcons k1_0
  obtain rfl := oknil k1_1
  obtain rfl := okdone h1
  obtain ⟨v0, rfl, hsv0⟩ := okstr e0_0
  obtain ⟨nlv1, v1, rfl, hlv1, hnv1, hrv1⟩ := oksl e0_1
  obtain ⟨v2, rfl, hsv2⟩ := okstr e1_0
  obtain ⟨nlv3, v3, rfl, hlv3, hnv3, hrv3⟩ := oksl e1_1
  exact ret_FnExactSameFeature v0 hsv0 nlv1 v1 hlv1 hnv1 hrv1 v2 hsv2 nlv3 v3 hlv3 hnv3 hrv3
set_option maxRecDepth 100000 in
theorem lifted (os : Os) (started : os.Started) (H : Type) (enc : TypeId × Value → H) :
    ReturnsInHanded {} Try.checked os 4 .any (Rows.fnExactSameFeatureSpec.pre6 enc Try.prog Try.f4 Rows.fnExactSameFeatureRow.domain false) (Rows.fnExactSameFeatureSpec.post enc Try.prog Try.f4 false true false false) := by
  refine returnsInHanded_of_change_sized (C := Try.checked) own started (by kernel_rfl) Try.func4
    (ChangeSpec.witness6 (enc := enc) (C := Try.checked) false ⟨#[], #[.agg #[.string ByteArray.empty, .slice none 0 0], .agg #[.string ByteArray.empty, .slice none 0 0]], []⟩ 8 (by kernel_rfl) (by kernel_rfl) (by kernel_rfl) (by kernel_rfl)) ?_
  intro W base args ds gs before hval hW _ _ _
  exact row_of_ret T_ok laidOut rfl (by kernel_rfl) (by kernel_rfl) (n := 2) (by kernel_rfl) rfl (by kernel_rfl) (fun ds hd => match ds, hd with | [_, _], _ => rfl) LawFnExactSameFeature.args hval hW
theorem over : Rows.fnExactSameFeatureRow.holds Try.pinned (OpenSpec.ofChange Rows.fnExactSameFeatureSpec) :=
  OpenClaim.holds_of_wide 4 Try.f4 rfl rfl rfl rfl rfl rfl rfl ⟨rfl, rfl, rfl, rfl, rfl⟩ rfl rfl rfl rfl rfl (by kernel_rfl) Try.func4 (by kernel_rfl)
    (of_decide_eq_true (by kernel_rfl)) (by unfold Func.isWrapper; first | (rw [if_pos (by decide +kernel)]; kernel_rfl) | (rw [if_neg (by decide +kernel)]; exact ⟨rfl, rfl⟩))
    (fun os started H enc _ => lifted os started H enc)
end Go.Proofs.Ytdglnjgjonbfbaa.LawFnExactSameFeature
namespace Go.Proofs.Ytdglnjgjonbfbaa
/-- The law's row. -/
theorem fnExactSameFeature_holds : Rows.FnExactSameFeatureSaid := LawFnExactSameFeature.over
#print axioms fnExactSameFeature_holds
end Go.Proofs.Ytdglnjgjonbfbaa
