/-
  No cell of these rows narrows 'for every input' (looked for: loops, veiled, ifaces, maps, wideKeys, modest, calm, conditions, laid).
  DERIVED. THE GIVEN ROWS OF THIS SEAT. 12 by the template 'for every input the law returns true; each argument reads behind the call as it read before'; 0 by the template 'total and deterministic' (their statements: YtdglnjgjonbfbaaTotals.lean).
  GIVEN WITH THE SEED: the statements are not yours to turn. If you find one false, say at which input.
  Laid BY PROGRAM, IN A SANDBOX (cutbox-rows.mjs): the forced cells as the released guide's own fill.sh prints them over the translation ae357b14b4bc3c99… (all of the seat's roots in one cut). By AI agents, Wed Nov 11 2026. No macro, syntax, notation, axiom, sorry.
-/
import Derived.Test.YtdglnjgjonbfbaaChecked
import GoSem.Claim
import GoSem.ClaimJoined
import GoSem.ClaimMapViews
import Derived.JoinedTies
import Derived.KernelRfl
namespace Go.Proofs.Ytdglnjgjonbfbaa
/- THE CELL 'sum', in the pinned program and in every row, IS THE sha256 OF THE DUMP (.gsa) THAT YtdglnjgjonbfbaaProg.lean LOADS. Nothing in Lean hashes anything: it is a label: what it is worth is what the hold of that sum in a sandbox is worth. -/
noncomputable def Try.pinned : Pinned := { name := "ytdglnjgjonbfbaa", sum := "ae357b14b4bc3c996de8470ef37addd17eddc9e5a7146549dae15eed01dd88ca", checked := Try.checked }
namespace Rows
def none {H : Type} : Left H := { results := [], args := [] }

/-- 'laws.FnExactValidBond': WHATEVER THE INPUT: true; the input reads as it did. -/
def fnExactValidBondSpec : ChangeSpec := { name := "fnExactValidBond", fn := fun _ => fun
  | [d] => { results := [.lit (.bool true)], args := [d] }
  | _ => none }
def fnExactValidBondRow : OpenClaim := { program := "ytdglnjgjonbfbaa", sum := "ae357b14b4bc3c996de8470ef37addd17eddc9e5a7146549dae15eed01dd88ca", func := "loop.example/g00956/laws.FnExactValidBond", spec := "fnExactValidBond", apart := false }
def FnExactValidBondSaid : Prop := fnExactValidBondRow.holds Try.pinned (OpenSpec.ofChange fnExactValidBondSpec)

/-- ITS FALSE NEIGHBOUR: 'it returns false'. Refute it at one input. -/
def fnExactValidBondWrong : ChangeSpec := { name := "fnExactValidBond", fn := fun _ => fun
  | [d] => { results := [.lit (.bool false)], args := [d] }
  | _ => none }
def FnExactValidBondWrongFalsely : Prop := fnExactValidBondRow.holds Try.pinned (OpenSpec.ofChange fnExactValidBondWrong)

/-- 'laws.FnExactSameFeature': WHATEVER THE INPUT: true; the input reads as it did. -/
def fnExactSameFeatureSpec : ChangeSpec := { name := "fnExactSameFeature", fn := fun _ => fun
  | [d1, d2] => { results := [.lit (.bool true)], args := [d1, d2] }
  | _ => none }
def fnExactSameFeatureRow : OpenClaim := { program := "ytdglnjgjonbfbaa", sum := "ae357b14b4bc3c996de8470ef37addd17eddc9e5a7146549dae15eed01dd88ca", func := "loop.example/g00956/laws.FnExactSameFeature", spec := "fnExactSameFeature", apart := false }
def FnExactSameFeatureSaid : Prop := fnExactSameFeatureRow.holds Try.pinned (OpenSpec.ofChange fnExactSameFeatureSpec)

/-- ITS FALSE NEIGHBOUR: 'it returns false'. Refute it at one input. -/
def fnExactSameFeatureWrong : ChangeSpec := { name := "fnExactSameFeature", fn := fun _ => fun
  | [d1, d2] => { results := [.lit (.bool false)], args := [d1, d2] }
  | _ => none }
def FnExactSameFeatureWrongFalsely : Prop := fnExactSameFeatureRow.holds Try.pinned (OpenSpec.ofChange fnExactSameFeatureWrong)

/-- 'laws.FnExactValidFeature': WHATEVER THE INPUT: true; the input reads as it did. -/
def fnExactValidFeatureSpec : ChangeSpec := { name := "fnExactValidFeature", fn := fun _ => fun
  | [d] => { results := [.lit (.bool true)], args := [d] }
  | _ => none }
def fnExactValidFeatureRow : OpenClaim := { program := "ytdglnjgjonbfbaa", sum := "ae357b14b4bc3c996de8470ef37addd17eddc9e5a7146549dae15eed01dd88ca", func := "loop.example/g00956/laws.FnExactValidFeature", spec := "fnExactValidFeature", unfollowed := true, recurses := true, apart := false }
def FnExactValidFeatureSaid : Prop := fnExactValidFeatureRow.holds Try.pinned (OpenSpec.ofChange fnExactValidFeatureSpec)

/-- ITS FALSE NEIGHBOUR: 'it returns false'. Refute it at one input. -/
def fnExactValidFeatureWrong : ChangeSpec := { name := "fnExactValidFeature", fn := fun _ => fun
  | [d] => { results := [.lit (.bool false)], args := [d] }
  | _ => none }
def FnExactValidFeatureWrongFalsely : Prop := fnExactValidFeatureRow.holds Try.pinned (OpenSpec.ofChange fnExactValidFeatureWrong)

/-- 'laws.FnExactValidBonds': WHATEVER THE INPUT: true; the input reads as it did. -/
def fnExactValidBondsSpec : ChangeSpec := { name := "fnExactValidBonds", fn := fun _ => fun
  | [d] => { results := [.lit (.bool true)], args := [d] }
  | _ => none }
def fnExactValidBondsRow : OpenClaim := { program := "ytdglnjgjonbfbaa", sum := "ae357b14b4bc3c996de8470ef37addd17eddc9e5a7146549dae15eed01dd88ca", func := "loop.example/g00956/laws.FnExactValidBonds", spec := "fnExactValidBonds", apart := false }
def FnExactValidBondsSaid : Prop := fnExactValidBondsRow.holds Try.pinned (OpenSpec.ofChange fnExactValidBondsSpec)

/-- ITS FALSE NEIGHBOUR: 'it returns false'. Refute it at one input. -/
def fnExactValidBondsWrong : ChangeSpec := { name := "fnExactValidBonds", fn := fun _ => fun
  | [d] => { results := [.lit (.bool false)], args := [d] }
  | _ => none }
def FnExactValidBondsWrongFalsely : Prop := fnExactValidBondsRow.holds Try.pinned (OpenSpec.ofChange fnExactValidBondsWrong)

/-- 'laws.FnExactSameLosses': WHATEVER THE INPUT: true; the input reads as it did. -/
def fnExactSameLossesSpec : ChangeSpec := { name := "fnExactSameLosses", fn := fun _ => fun
  | [d1, d2] => { results := [.lit (.bool true)], args := [d1, d2] }
  | _ => none }
def fnExactSameLossesRow : OpenClaim := { program := "ytdglnjgjonbfbaa", sum := "ae357b14b4bc3c996de8470ef37addd17eddc9e5a7146549dae15eed01dd88ca", func := "loop.example/g00956/laws.FnExactSameLosses", spec := "fnExactSameLosses", apart := false }
def FnExactSameLossesSaid : Prop := fnExactSameLossesRow.holds Try.pinned (OpenSpec.ofChange fnExactSameLossesSpec)

/-- ITS FALSE NEIGHBOUR: 'it returns false'. Refute it at one input. -/
def fnExactSameLossesWrong : ChangeSpec := { name := "fnExactSameLosses", fn := fun _ => fun
  | [d1, d2] => { results := [.lit (.bool false)], args := [d1, d2] }
  | _ => none }
def FnExactSameLossesWrongFalsely : Prop := fnExactSameLossesRow.holds Try.pinned (OpenSpec.ofChange fnExactSameLossesWrong)

/-- 'laws.FnExactValidLoss': WHATEVER THE INPUT: true; the input reads as it did. -/
def fnExactValidLossSpec : ChangeSpec := { name := "fnExactValidLoss", fn := fun _ => fun
  | [d] => { results := [.lit (.bool true)], args := [d] }
  | _ => none }
def fnExactValidLossRow : OpenClaim := { program := "ytdglnjgjonbfbaa", sum := "ae357b14b4bc3c996de8470ef37addd17eddc9e5a7146549dae15eed01dd88ca", func := "loop.example/g00956/laws.FnExactValidLoss", spec := "fnExactValidLoss", apart := false }
def FnExactValidLossSaid : Prop := fnExactValidLossRow.holds Try.pinned (OpenSpec.ofChange fnExactValidLossSpec)

/-- ITS FALSE NEIGHBOUR: 'it returns false'. Refute it at one input. -/
def fnExactValidLossWrong : ChangeSpec := { name := "fnExactValidLoss", fn := fun _ => fun
  | [d] => { results := [.lit (.bool false)], args := [d] }
  | _ => none }
def FnExactValidLossWrongFalsely : Prop := fnExactValidLossRow.holds Try.pinned (OpenSpec.ofChange fnExactValidLossWrong)

/-- 'laws.FnExactGlueBound': WHATEVER THE INPUT: true; the input reads as it did. -/
def fnExactGlueBoundSpec : ChangeSpec := { name := "fnExactGlueBound", fn := fun _ => fun
  | [d1, d2] => { results := [.lit (.bool true)], args := [d1, d2] }
  | _ => none }
def fnExactGlueBoundRow : OpenClaim := { program := "ytdglnjgjonbfbaa", sum := "ae357b14b4bc3c996de8470ef37addd17eddc9e5a7146549dae15eed01dd88ca", func := "loop.example/g00956/laws.FnExactGlueBound", spec := "fnExactGlueBound", apart := false }
def FnExactGlueBoundSaid : Prop := fnExactGlueBoundRow.holds Try.pinned (OpenSpec.ofChange fnExactGlueBoundSpec)

/-- ITS FALSE NEIGHBOUR: 'it returns false'. Refute it at one input. -/
def fnExactGlueBoundWrong : ChangeSpec := { name := "fnExactGlueBound", fn := fun _ => fun
  | [d1, d2] => { results := [.lit (.bool false)], args := [d1, d2] }
  | _ => none }
def FnExactGlueBoundWrongFalsely : Prop := fnExactGlueBoundRow.holds Try.pinned (OpenSpec.ofChange fnExactGlueBoundWrong)

/-- 'laws.FnDisjoint': WHATEVER THE INPUT: true; the input reads as it did. -/
def fnDisjointSpec : ChangeSpec := { name := "fnDisjoint", fn := fun _ => fun
  | [d1, d2] => { results := [.lit (.bool true)], args := [d1, d2] }
  | _ => none }
def fnDisjointRow : OpenClaim := { program := "ytdglnjgjonbfbaa", sum := "ae357b14b4bc3c996de8470ef37addd17eddc9e5a7146549dae15eed01dd88ca", func := "loop.example/g00956/laws.FnDisjoint", spec := "fnDisjoint", unfollowed := true, recurses := true, named := ["math/bits.divideError", "math/bits.overflowError"], apart := false }
def FnDisjointSaid : Prop := fnDisjointRow.holds Try.pinned (OpenSpec.ofChange fnDisjointSpec)

/-- ITS FALSE NEIGHBOUR: 'it returns false'. Refute it at one input. -/
def fnDisjointWrong : ChangeSpec := { name := "fnDisjoint", fn := fun _ => fun
  | [d1, d2] => { results := [.lit (.bool false)], args := [d1, d2] }
  | _ => none }
def FnDisjointWrongFalsely : Prop := fnDisjointRow.holds Try.pinned (OpenSpec.ofChange fnDisjointWrong)

/-- 'laws.FnExactValidLosses': WHATEVER THE INPUT: true; the input reads as it did. -/
def fnExactValidLossesSpec : ChangeSpec := { name := "fnExactValidLosses", fn := fun _ => fun
  | [d] => { results := [.lit (.bool true)], args := [d] }
  | _ => none }
def fnExactValidLossesRow : OpenClaim := { program := "ytdglnjgjonbfbaa", sum := "ae357b14b4bc3c996de8470ef37addd17eddc9e5a7146549dae15eed01dd88ca", func := "loop.example/g00956/laws.FnExactValidLosses", spec := "fnExactValidLosses", apart := false }
def FnExactValidLossesSaid : Prop := fnExactValidLossesRow.holds Try.pinned (OpenSpec.ofChange fnExactValidLossesSpec)

/-- ITS FALSE NEIGHBOUR: 'it returns false'. Refute it at one input. -/
def fnExactValidLossesWrong : ChangeSpec := { name := "fnExactValidLosses", fn := fun _ => fun
  | [d] => { results := [.lit (.bool false)], args := [d] }
  | _ => none }
def FnExactValidLossesWrongFalsely : Prop := fnExactValidLossesRow.holds Try.pinned (OpenSpec.ofChange fnExactValidLossesWrong)

/-- 'laws.FnGlue': WHATEVER THE INPUT: true; the input reads as it did. -/
def fnGlueSpec : ChangeSpec := { name := "fnGlue", fn := fun _ => fun
  | [d] => { results := [.lit (.bool true)], args := [d] }
  | _ => none }
def fnGlueRow : OpenClaim := { program := "ytdglnjgjonbfbaa", sum := "ae357b14b4bc3c996de8470ef37addd17eddc9e5a7146549dae15eed01dd88ca", func := "loop.example/g00956/laws.FnGlue", spec := "fnGlue", apart := false }
def FnGlueSaid : Prop := fnGlueRow.holds Try.pinned (OpenSpec.ofChange fnGlueSpec)

/-- ITS FALSE NEIGHBOUR: 'it returns false'. Refute it at one input. -/
def fnGlueWrong : ChangeSpec := { name := "fnGlue", fn := fun _ => fun
  | [d] => { results := [.lit (.bool false)], args := [d] }
  | _ => none }
def FnGlueWrongFalsely : Prop := fnGlueRow.holds Try.pinned (OpenSpec.ofChange fnGlueWrong)

/-- 'laws.FnExactGlueEnd': WHATEVER THE INPUT: true; the input reads as it did. -/
def fnExactGlueEndSpec : ChangeSpec := { name := "fnExactGlueEnd", fn := fun _ => fun
  | [d1, d2, d3] => { results := [.lit (.bool true)], args := [d1, d2, d3] }
  | _ => none }
def fnExactGlueEndRow : OpenClaim := { program := "ytdglnjgjonbfbaa", sum := "ae357b14b4bc3c996de8470ef37addd17eddc9e5a7146549dae15eed01dd88ca", func := "loop.example/g00956/laws.FnExactGlueEnd", spec := "fnExactGlueEnd", apart := false }
def FnExactGlueEndSaid : Prop := fnExactGlueEndRow.holds Try.pinned (OpenSpec.ofChange fnExactGlueEndSpec)

/-- ITS FALSE NEIGHBOUR: 'it returns false'. Refute it at one input. -/
def fnExactGlueEndWrong : ChangeSpec := { name := "fnExactGlueEnd", fn := fun _ => fun
  | [d1, d2, d3] => { results := [.lit (.bool false)], args := [d1, d2, d3] }
  | _ => none }
def FnExactGlueEndWrongFalsely : Prop := fnExactGlueEndRow.holds Try.pinned (OpenSpec.ofChange fnExactGlueEndWrong)

/-- 'laws.FnExactOpenWaste': WHATEVER THE INPUT: true; the input reads as it did. -/
def fnExactOpenWasteSpec : ChangeSpec := { name := "fnExactOpenWaste", fn := fun _ => fun
  | [d1, d2, d3] => { results := [.lit (.bool true)], args := [d1, d2, d3] }
  | _ => none }
def fnExactOpenWasteRow : OpenClaim := { program := "ytdglnjgjonbfbaa", sum := "ae357b14b4bc3c996de8470ef37addd17eddc9e5a7146549dae15eed01dd88ca", func := "loop.example/g00956/laws.FnExactOpenWaste", spec := "fnExactOpenWaste", apart := false }
def FnExactOpenWasteSaid : Prop := fnExactOpenWasteRow.holds Try.pinned (OpenSpec.ofChange fnExactOpenWasteSpec)

/-- ITS FALSE NEIGHBOUR: 'it returns false'. Refute it at one input. -/
def fnExactOpenWasteWrong : ChangeSpec := { name := "fnExactOpenWaste", fn := fun _ => fun
  | [d1, d2, d3] => { results := [.lit (.bool false)], args := [d1, d2, d3] }
  | _ => none }
def FnExactOpenWasteWrongFalsely : Prop := fnExactOpenWasteRow.holds Try.pinned (OpenSpec.ofChange fnExactOpenWasteWrong)

/- THE SECOND FORM. 'bulk': how many values and letters a reading holds, each counted each time it is reached (what is shared counts as often as it is met; a slice's spare places count too). A statement '..UptoSaid' is the law's where the arguments, and the package variables that the reading takes, are together of bulk at most 1048576: NARROWER than '..Said'. Prove '..Said' where nothing that the law and all that it calls make is longer than what came in: it says more and counts as full. Else prove '..UptoSaid'. A law counts once. -/
mutual
def uptoBulk {H : Type} : DataW H → Nat
  | .lit (.string bytes) => bytes.length + 1
  | .lit _ => 1
  | .nil => 1
  | .ptr d => uptoBulk d + 1
  | .slice elems spare => uptoBulkAll elems + uptoBulkAll spare + 1
  | .agg parts => uptoBulkAll parts + 1
  | .iface _ d => uptoBulk d + 1
  | .map entries => uptoBulkEntries entries + 1
  | .held _ => 1
def uptoBulkAll {H : Type} : List (DataW H) → Nat
  | [] => 0
  | d :: r => uptoBulk d + uptoBulkAll r
def uptoBulkEntries {H : Type} : List (Lit × DataW H) → Nat
  | [] => 0
  | x :: r => uptoBulkEntry x + uptoBulkEntries r
def uptoBulkEntry {H : Type} : Lit × DataW H → Nat
  | (.string bytes, d) => bytes.length + uptoBulk d + 1
  | (_, d) => uptoBulk d + 1
 end
def uptoSmall : (H : Type) → List (DataW H) → Bool := fun _ ds => decide (uptoBulkAll ds ≤ 1048576)
def OpenSpec.upto (s : _root_.Go.ChangeSpec) : _root_.Go.OpenSpec := { _root_.Go.OpenSpec.ofChange s with cond := some uptoSmall }

/-- 'laws.FnExactValidBond', WHERE WHAT IT READS IS OF BULK AT MOST 1048576: true; the input reads as it did. -/
def fnExactValidBondUptoRow : OpenClaim := { program := "ytdglnjgjonbfbaa", sum := "ae357b14b4bc3c996de8470ef37addd17eddc9e5a7146549dae15eed01dd88ca", func := "loop.example/g00956/laws.FnExactValidBond", spec := "fnExactValidBond", apart := false, narrowed := true }
def FnExactValidBondUptoSaid : Prop := fnExactValidBondUptoRow.holds Try.pinned (OpenSpec.upto fnExactValidBondSpec)

/-- 'laws.FnExactSameFeature', WHERE WHAT IT READS IS OF BULK AT MOST 1048576: true; the input reads as it did. -/
def fnExactSameFeatureUptoRow : OpenClaim := { program := "ytdglnjgjonbfbaa", sum := "ae357b14b4bc3c996de8470ef37addd17eddc9e5a7146549dae15eed01dd88ca", func := "loop.example/g00956/laws.FnExactSameFeature", spec := "fnExactSameFeature", apart := false, narrowed := true }
def FnExactSameFeatureUptoSaid : Prop := fnExactSameFeatureUptoRow.holds Try.pinned (OpenSpec.upto fnExactSameFeatureSpec)

/-- 'laws.FnExactValidFeature', WHERE WHAT IT READS IS OF BULK AT MOST 1048576: true; the input reads as it did. -/
def fnExactValidFeatureUptoRow : OpenClaim := { program := "ytdglnjgjonbfbaa", sum := "ae357b14b4bc3c996de8470ef37addd17eddc9e5a7146549dae15eed01dd88ca", func := "loop.example/g00956/laws.FnExactValidFeature", spec := "fnExactValidFeature", unfollowed := true, recurses := true, apart := false, narrowed := true }
def FnExactValidFeatureUptoSaid : Prop := fnExactValidFeatureUptoRow.holds Try.pinned (OpenSpec.upto fnExactValidFeatureSpec)

/-- 'laws.FnExactValidBonds', WHERE WHAT IT READS IS OF BULK AT MOST 1048576: true; the input reads as it did. -/
def fnExactValidBondsUptoRow : OpenClaim := { program := "ytdglnjgjonbfbaa", sum := "ae357b14b4bc3c996de8470ef37addd17eddc9e5a7146549dae15eed01dd88ca", func := "loop.example/g00956/laws.FnExactValidBonds", spec := "fnExactValidBonds", apart := false, narrowed := true }
def FnExactValidBondsUptoSaid : Prop := fnExactValidBondsUptoRow.holds Try.pinned (OpenSpec.upto fnExactValidBondsSpec)

/-- 'laws.FnExactSameLosses', WHERE WHAT IT READS IS OF BULK AT MOST 1048576: true; the input reads as it did. -/
def fnExactSameLossesUptoRow : OpenClaim := { program := "ytdglnjgjonbfbaa", sum := "ae357b14b4bc3c996de8470ef37addd17eddc9e5a7146549dae15eed01dd88ca", func := "loop.example/g00956/laws.FnExactSameLosses", spec := "fnExactSameLosses", apart := false, narrowed := true }
def FnExactSameLossesUptoSaid : Prop := fnExactSameLossesUptoRow.holds Try.pinned (OpenSpec.upto fnExactSameLossesSpec)

/-- 'laws.FnExactValidLoss', WHERE WHAT IT READS IS OF BULK AT MOST 1048576: true; the input reads as it did. -/
def fnExactValidLossUptoRow : OpenClaim := { program := "ytdglnjgjonbfbaa", sum := "ae357b14b4bc3c996de8470ef37addd17eddc9e5a7146549dae15eed01dd88ca", func := "loop.example/g00956/laws.FnExactValidLoss", spec := "fnExactValidLoss", apart := false, narrowed := true }
def FnExactValidLossUptoSaid : Prop := fnExactValidLossUptoRow.holds Try.pinned (OpenSpec.upto fnExactValidLossSpec)

/-- 'laws.FnExactGlueBound', WHERE WHAT IT READS IS OF BULK AT MOST 1048576: true; the input reads as it did. -/
def fnExactGlueBoundUptoRow : OpenClaim := { program := "ytdglnjgjonbfbaa", sum := "ae357b14b4bc3c996de8470ef37addd17eddc9e5a7146549dae15eed01dd88ca", func := "loop.example/g00956/laws.FnExactGlueBound", spec := "fnExactGlueBound", apart := false, narrowed := true }
def FnExactGlueBoundUptoSaid : Prop := fnExactGlueBoundUptoRow.holds Try.pinned (OpenSpec.upto fnExactGlueBoundSpec)

/-- 'laws.FnDisjoint', WHERE WHAT IT READS IS OF BULK AT MOST 1048576: true; the input reads as it did. -/
def fnDisjointUptoRow : OpenClaim := { program := "ytdglnjgjonbfbaa", sum := "ae357b14b4bc3c996de8470ef37addd17eddc9e5a7146549dae15eed01dd88ca", func := "loop.example/g00956/laws.FnDisjoint", spec := "fnDisjoint", unfollowed := true, recurses := true, named := ["math/bits.divideError", "math/bits.overflowError"], apart := false, narrowed := true }
def FnDisjointUptoSaid : Prop := fnDisjointUptoRow.holds Try.pinned (OpenSpec.upto fnDisjointSpec)

/-- 'laws.FnExactValidLosses', WHERE WHAT IT READS IS OF BULK AT MOST 1048576: true; the input reads as it did. -/
def fnExactValidLossesUptoRow : OpenClaim := { program := "ytdglnjgjonbfbaa", sum := "ae357b14b4bc3c996de8470ef37addd17eddc9e5a7146549dae15eed01dd88ca", func := "loop.example/g00956/laws.FnExactValidLosses", spec := "fnExactValidLosses", apart := false, narrowed := true }
def FnExactValidLossesUptoSaid : Prop := fnExactValidLossesUptoRow.holds Try.pinned (OpenSpec.upto fnExactValidLossesSpec)

/-- 'laws.FnGlue', WHERE WHAT IT READS IS OF BULK AT MOST 1048576: true; the input reads as it did. -/
def fnGlueUptoRow : OpenClaim := { program := "ytdglnjgjonbfbaa", sum := "ae357b14b4bc3c996de8470ef37addd17eddc9e5a7146549dae15eed01dd88ca", func := "loop.example/g00956/laws.FnGlue", spec := "fnGlue", apart := false, narrowed := true }
def FnGlueUptoSaid : Prop := fnGlueUptoRow.holds Try.pinned (OpenSpec.upto fnGlueSpec)

/-- 'laws.FnExactGlueEnd', WHERE WHAT IT READS IS OF BULK AT MOST 1048576: true; the input reads as it did. -/
def fnExactGlueEndUptoRow : OpenClaim := { program := "ytdglnjgjonbfbaa", sum := "ae357b14b4bc3c996de8470ef37addd17eddc9e5a7146549dae15eed01dd88ca", func := "loop.example/g00956/laws.FnExactGlueEnd", spec := "fnExactGlueEnd", apart := false, narrowed := true }
def FnExactGlueEndUptoSaid : Prop := fnExactGlueEndUptoRow.holds Try.pinned (OpenSpec.upto fnExactGlueEndSpec)

/-- 'laws.FnExactOpenWaste', WHERE WHAT IT READS IS OF BULK AT MOST 1048576: true; the input reads as it did. -/
def fnExactOpenWasteUptoRow : OpenClaim := { program := "ytdglnjgjonbfbaa", sum := "ae357b14b4bc3c996de8470ef37addd17eddc9e5a7146549dae15eed01dd88ca", func := "loop.example/g00956/laws.FnExactOpenWaste", spec := "fnExactOpenWaste", apart := false, narrowed := true }
def FnExactOpenWasteUptoSaid : Prop := fnExactOpenWasteUptoRow.holds Try.pinned (OpenSpec.upto fnExactOpenWasteSpec)

end Rows
end Go.Proofs.Ytdglnjgjonbfbaa
