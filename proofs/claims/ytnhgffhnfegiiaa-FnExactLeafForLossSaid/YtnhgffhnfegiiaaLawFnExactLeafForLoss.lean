/- The row of the law FnExactLeafForLoss: out of the contract of its call. No condition. -/
import Derived.Test.YtnhgffhnfegiiaaRows
import Derived.Test.YtnhgffhnfegiiaaPuLF
import Derived.Test.YtnhgffhnfegiiaaFwZb
import Derived.WalkKit
import Derived.ProofKit
import Derived.OpenShut
import Derived.ShutString
import Derived.ChangeOld
import Derived.Below
import Derived.SizedLaws
namespace Go.Proofs.Ytnhgffhnfegiiaa.LawFnExactLeafForLoss
open Go.ChangeShapes Go.WideShapes Go.ChangeAt Go.RowKit Fw
set_option linter.unusedVariables false
theorem own : ownKnob Try.prog.godebug = none := by kernel_rfl
theorem laidOut : laidOutB Try.prog = true := by kernel_rfl
theorem args (xs : List AV) (h : OkArgs [(true, [.str, .str, .int .i64, .int .i64, .int .i64, .int .i64, .int .i64, .int .i64]), (false, [.sl [.str, .str, .int .i64, .str, .int .i64, .int .i64, .int .i64, .int .i64, .sl [.int .i64, .int .i64, .int .i64, .int .i64]]])] xs) : Ret Try.prog 8 none xs [] (.c (.v (.bool true))) := by
  obtain ⟨ys0, xs0, rfl, k0, h0⟩ := okagg h
  obtain ⟨y0_0, ys0_0, rfl, e0_0, k0_0⟩ := okcons k0
  obtain ⟨y0_1, ys0_1, rfl, e0_1, k0_1⟩ := okcons k0_0
  obtain ⟨y0_2, ys0_2, rfl, e0_2, k0_2⟩ := okcons k0_1
  obtain ⟨y0_3, ys0_3, rfl, e0_3, k0_3⟩ := okcons k0_2
  obtain ⟨y0_4, ys0_4, rfl, e0_4, k0_4⟩ := okcons k0_3
  obtain ⟨y0_5, ys0_5, rfl, e0_5, k0_5⟩ := okcons k0_4
  obtain ⟨y0_6, ys0_6, rfl, e0_6, k0_6⟩ := okcons k0_5
  obtain ⟨y0_7, ys0_7, rfl, e0_7, k0_7⟩ := okcons k0_6
  obtain rfl := oknil k0_7
  obtain ⟨y1, xs1, rfl, e1, h1⟩ := okone h0
  obtain rfl := okdone h1
  obtain ⟨v0, rfl, hsv0⟩ := okstr e0_0
  obtain ⟨v1, rfl, hsv1⟩ := okstr e0_1
  obtain ⟨v2, rfl, lov2, hiv2⟩ := okint e0_2
  obtain ⟨v3, rfl, lov3, hiv3⟩ := okint e0_3
  obtain ⟨v4, rfl, lov4, hiv4⟩ := okint e0_4
  obtain ⟨v5, rfl, lov5, hiv5⟩ := okint e0_5
  obtain ⟨v6, rfl, lov6, hiv6⟩ := okint e0_6
  obtain ⟨v7, rfl, lov7, hiv7⟩ := okint e0_7
  obtain ⟨nlv8, v8, rfl, hlv8, hnv8, hrv8⟩ := oksl e1
  exact ret_FnExactLeafForLoss v0 hsv0 v1 hsv1 v2 lov2 hiv2 v3 lov3 hiv3 v4 lov4 hiv4 v5 lov5 hiv5 v6 lov6 hiv6 v7 lov7 hiv7 nlv8 v8 hlv8 hnv8 hrv8
set_option maxRecDepth 100000 in
theorem lifted (os : Os) (started : os.Started) (H : Type) (enc : TypeId × Value → H) :
    ReturnsInHanded {} Try.checked os 8 .any (Rows.fnExactLeafForLossSpec.pre6 enc Try.prog Try.f8 Rows.fnExactLeafForLossRow.domain false) (Rows.fnExactLeafForLossSpec.post enc Try.prog Try.f8 false true false false) := by
  refine returnsInHanded_of_change_sized (C := Try.checked) own started (by kernel_rfl) Try.func8
    (ChangeSpec.witness6 (enc := enc) (C := Try.checked) false ⟨#[], #[.agg #[.string ByteArray.empty, .string ByteArray.empty, .int .i64 0, .int .i64 0, .int .i64 0, .int .i64 0, .int .i64 0, .int .i64 0], .slice none 0 0], []⟩ 8 (by kernel_rfl) (by kernel_rfl) (by kernel_rfl) (by kernel_rfl)) ?_
  intro W base args ds gs before hval hW _ _ _
  exact row_of_ret T_ok laidOut rfl (by kernel_rfl) (by kernel_rfl) (n := 2) (by kernel_rfl) rfl (by kernel_rfl) (fun ds hd => match ds, hd with | [_, _], _ => rfl) LawFnExactLeafForLoss.args (by intro x hx; cases hx) hval hW
theorem over : Rows.fnExactLeafForLossRow.holds Try.pinned (OpenSpec.ofChange Rows.fnExactLeafForLossSpec) :=
  OpenClaim.holds_of_wide 8 Try.f8 rfl rfl rfl rfl rfl rfl rfl ⟨rfl, rfl, rfl, rfl, rfl⟩ rfl rfl rfl rfl rfl (by kernel_rfl) Try.func8 (by kernel_rfl)
    (of_decide_eq_true (by kernel_rfl)) (by unfold Func.isWrapper; first | (rw [if_pos (by decide +kernel)]; kernel_rfl) | (rw [if_neg (by decide +kernel)]; exact ⟨rfl, rfl⟩))
    (fun os started H enc _ => lifted os started H enc)
end Go.Proofs.Ytnhgffhnfegiiaa.LawFnExactLeafForLoss
namespace Go.Proofs.Ytnhgffhnfegiiaa
/-- The law's row. -/
theorem fnExactLeafForLoss_holds : Rows.FnExactLeafForLossSaid := LawFnExactLeafForLoss.over
#print axioms fnExactLeafForLoss_holds
end Go.Proofs.Ytnhgffhnfegiiaa
