/- The row of the law FnExactFirstAsFault: out of the contract of its call. No condition. -/
import Derived.Test.YtijkfgpnajdckaaRows
import Derived.Test.YtijkfgpnajdckaaBaseZ
import Derived.Test.YtijkfgpnajdckaaFwZb
import Derived.WalkKit
import Derived.ProofKit
import Derived.OpenShut
import Derived.ShutString
import Derived.ChangeOld
import Derived.Below
import Derived.SizedLaws
namespace Go.Proofs.Ytijkfgpnajdckaa.LawFnExactFirstAsFault
open Go.ChangeShapes Go.WideShapes Go.ChangeAt Go.RowKit Fw
set_option linter.unusedVariables false
theorem own : ownKnob Try.prog.godebug = none := by kernel_rfl
theorem laidOut : laidOutB Try.prog = true := by kernel_rfl
theorem args (xs : List AV) (h : OkArgs [(true, [.int .i64, .int .i64, .sl [.int .i64, .int .i64], .sl [.str, .sl [.int .i64]]]), (false, [.sl [.int .i64]])] xs) : Ret Try.prog 9 none xs [] (.c (.v (.bool true))) := by
  obtain ⟨ys0, xs0, rfl, k0, h0⟩ := okagg h
  obtain ⟨y0_0, ys0_0, rfl, e0_0, k0_0⟩ := okcons k0
  obtain ⟨y0_1, ys0_1, rfl, e0_1, k0_1⟩ := okcons k0_0
  obtain ⟨y0_2, ys0_2, rfl, e0_2, k0_2⟩ := okcons k0_1
  obtain ⟨y0_3, ys0_3, rfl, e0_3, k0_3⟩ := okcons k0_2
  obtain rfl := oknil k0_3
  obtain ⟨y1, xs1, rfl, e1, h1⟩ := okone h0
  obtain rfl := okdone h1
  obtain ⟨v0, rfl, lov0, hiv0⟩ := okint e0_0
  obtain ⟨v1, rfl, lov1, hiv1⟩ := okint e0_1
  obtain ⟨nlv2, v2, rfl, hlv2, hnv2, hrv2⟩ := oksl e0_2
  obtain ⟨nlv3, v3, rfl, hlv3, hnv3, hrv3⟩ := oksl e0_3
  obtain ⟨nlv4, v4, rfl, hlv4, hnv4, hrv4⟩ := oksl e1
  exact ret_FnExactFirstAsFault v0 lov0 hiv0 v1 lov1 hiv1 nlv2 v2 hlv2 hnv2 hrv2 nlv3 v3 hlv3 hnv3 hrv3 nlv4 v4 hlv4 hnv4 hrv4
set_option maxRecDepth 100000 in
theorem lifted (os : Os) (started : os.Started) (H : Type) (enc : TypeId × Value → H) :
    ReturnsInHanded {} Try.checked os 9 .any (Rows.fnExactFirstAsFaultSpec.pre6 enc Try.prog Try.f9 Rows.fnExactFirstAsFaultRow.domain false) (Rows.fnExactFirstAsFaultSpec.post enc Try.prog Try.f9 false true false false) := by
  refine returnsInHanded_of_change_sized (C := Try.checked) own started (by kernel_rfl) Try.func9
    (ChangeSpec.witness6 (enc := enc) (C := Try.checked) false ⟨#[], #[.agg #[.int .i64 0, .int .i64 0, .slice none 0 0, .slice none 0 0], .slice none 0 0], []⟩ 8 (by kernel_rfl) (by kernel_rfl) (by kernel_rfl) (by kernel_rfl)) ?_
  intro W base args ds gs before hval hW _ _ _
  exact row_of_ret T_ok laidOut rfl (by kernel_rfl) (by kernel_rfl) (n := 2) (by kernel_rfl) rfl (by kernel_rfl) (fun ds hd => match ds, hd with | [_, _], _ => rfl) LawFnExactFirstAsFault.args hval hW
theorem over : Rows.fnExactFirstAsFaultRow.holds Try.pinned (OpenSpec.ofChange Rows.fnExactFirstAsFaultSpec) :=
  OpenClaim.holds_of_wide 9 Try.f9 rfl rfl rfl rfl rfl rfl rfl ⟨rfl, rfl, rfl, rfl, rfl⟩ rfl rfl rfl rfl rfl (by kernel_rfl) Try.func9 (by kernel_rfl)
    (of_decide_eq_true (by kernel_rfl)) (by unfold Func.isWrapper; first | (rw [if_pos (by decide +kernel)]; kernel_rfl) | (rw [if_neg (by decide +kernel)]; exact ⟨rfl, rfl⟩))
    (fun os started H enc _ => lifted os started H enc)
end Go.Proofs.Ytijkfgpnajdckaa.LawFnExactFirstAsFault
namespace Go.Proofs.Ytijkfgpnajdckaa
/-- The law's row. -/
theorem fnExactFirstAsFault_holds : Rows.FnExactFirstAsFaultSaid := LawFnExactFirstAsFault.over
#print axioms fnExactFirstAsFault_holds
end Go.Proofs.Ytijkfgpnajdckaa
