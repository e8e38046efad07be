/-
  No cell of these rows narrows 'for every input' (looked for: loops, veiled, ifaces, maps, wideKeys, modest, calm, conditions, laid).
  DERIVED. THE GIVEN ROWS OF THIS SEAT. 12 by the template 'for every input the law returns true; each argument reads behind the call as it read before'; 0 by the template 'total and deterministic' (their statements: YtijkfgpnajdckaaTotals.lean).
  GIVEN WITH THE SEED: the statements are not yours to turn. If you find one false, say at which input.
  Laid BY PROGRAM, IN A SANDBOX (cutbox-rows.mjs): the forced cells as the released guide's own fill.sh prints them over the translation 061bad03005c381b… (all of the seat's roots in one cut). By AI agents, Wed Nov 11 2026. No macro, syntax, notation, axiom, sorry.
-/
import Derived.Test.YtijkfgpnajdckaaChecked
import GoSem.Claim
import GoSem.ClaimJoined
import GoSem.ClaimMapViews
import Derived.JoinedTies
import Derived.KernelRfl
namespace Go.Proofs.Ytijkfgpnajdckaa
/- THE CELL 'sum', in the pinned program and in every row, IS THE sha256 OF THE DUMP (.gsa) THAT YtijkfgpnajdckaaProg.lean LOADS. Nothing in Lean hashes anything: it is a label: what it is worth is what the hold of that sum in a sandbox is worth. -/
noncomputable def Try.pinned : Pinned := { name := "ytijkfgpnajdckaa", sum := "061bad03005c381bd91bcee2ebbc5096d25ed33068025f4695b7634d721fef85", checked := Try.checked }
namespace Rows
def none {H : Type} : Left H := { results := [], args := [] }

/-- 'laws.FnExactPressesFor': WHATEVER THE INPUT: true; the input reads as it did. -/
def fnExactPressesForSpec : ChangeSpec := { name := "fnExactPressesFor", fn := fun _ => fun
  | [d1, d2, d3] => { results := [.lit (.bool true)], args := [d1, d2, d3] }
  | _ => none }
def fnExactPressesForRow : OpenClaim := { program := "ytijkfgpnajdckaa", sum := "061bad03005c381bd91bcee2ebbc5096d25ed33068025f4695b7634d721fef85", func := "loop.example/g00956/laws.FnExactPressesFor", spec := "fnExactPressesFor", apart := false }
def FnExactPressesForSaid : Prop := fnExactPressesForRow.holds Try.pinned (OpenSpec.ofChange fnExactPressesForSpec)

/-- ITS FALSE NEIGHBOUR: 'it returns false'. Refute it at one input. -/
def fnExactPressesForWrong : ChangeSpec := { name := "fnExactPressesFor", fn := fun _ => fun
  | [d1, d2, d3] => { results := [.lit (.bool false)], args := [d1, d2, d3] }
  | _ => none }
def FnExactPressesForWrongFalsely : Prop := fnExactPressesForRow.holds Try.pinned (OpenSpec.ofChange fnExactPressesForWrong)

/-- 'laws.FnExactLossSums': WHATEVER THE INPUT: true; the input reads as it did. -/
def fnExactLossSumsSpec : ChangeSpec := { name := "fnExactLossSums", fn := fun _ => fun
  | [d1, d2] => { results := [.lit (.bool true)], args := [d1, d2] }
  | _ => none }
def fnExactLossSumsRow : OpenClaim := { program := "ytijkfgpnajdckaa", sum := "061bad03005c381bd91bcee2ebbc5096d25ed33068025f4695b7634d721fef85", func := "loop.example/g00956/laws.FnExactLossSums", spec := "fnExactLossSums", apart := false }
def FnExactLossSumsSaid : Prop := fnExactLossSumsRow.holds Try.pinned (OpenSpec.ofChange fnExactLossSumsSpec)

/-- ITS FALSE NEIGHBOUR: 'it returns false'. Refute it at one input. -/
def fnExactLossSumsWrong : ChangeSpec := { name := "fnExactLossSums", fn := fun _ => fun
  | [d1, d2] => { results := [.lit (.bool false)], args := [d1, d2] }
  | _ => none }
def FnExactLossSumsWrongFalsely : Prop := fnExactLossSumsRow.holds Try.pinned (OpenSpec.ofChange fnExactLossSumsWrong)

/-- 'laws.FnExactGlueStarts': WHATEVER THE INPUT: true; the input reads as it did. -/
def fnExactGlueStartsSpec : ChangeSpec := { name := "fnExactGlueStarts", fn := fun _ => fun
  | [d1, d2, d3] => { results := [.lit (.bool true)], args := [d1, d2, d3] }
  | _ => none }
def fnExactGlueStartsRow : OpenClaim := { program := "ytijkfgpnajdckaa", sum := "061bad03005c381bd91bcee2ebbc5096d25ed33068025f4695b7634d721fef85", func := "loop.example/g00956/laws.FnExactGlueStarts", spec := "fnExactGlueStarts", apart := false }
def FnExactGlueStartsSaid : Prop := fnExactGlueStartsRow.holds Try.pinned (OpenSpec.ofChange fnExactGlueStartsSpec)

/-- ITS FALSE NEIGHBOUR: 'it returns false'. Refute it at one input. -/
def fnExactGlueStartsWrong : ChangeSpec := { name := "fnExactGlueStarts", fn := fun _ => fun
  | [d1, d2, d3] => { results := [.lit (.bool false)], args := [d1, d2, d3] }
  | _ => none }
def FnExactGlueStartsWrongFalsely : Prop := fnExactGlueStartsRow.holds Try.pinned (OpenSpec.ofChange fnExactGlueStartsWrong)

/-- 'laws.FnExactBorderFaces': WHATEVER THE INPUT: true; the input reads as it did. -/
def fnExactBorderFacesSpec : ChangeSpec := { name := "fnExactBorderFaces", fn := fun _ => fun
  | [d] => { results := [.lit (.bool true)], args := [d] }
  | _ => none }
def fnExactBorderFacesRow : OpenClaim := { program := "ytijkfgpnajdckaa", sum := "061bad03005c381bd91bcee2ebbc5096d25ed33068025f4695b7634d721fef85", func := "loop.example/g00956/laws.FnExactBorderFaces", spec := "fnExactBorderFaces", unfollowed := true, recurses := true, apart := false }
def FnExactBorderFacesSaid : Prop := fnExactBorderFacesRow.holds Try.pinned (OpenSpec.ofChange fnExactBorderFacesSpec)

/-- ITS FALSE NEIGHBOUR: 'it returns false'. Refute it at one input. -/
def fnExactBorderFacesWrong : ChangeSpec := { name := "fnExactBorderFaces", fn := fun _ => fun
  | [d] => { results := [.lit (.bool false)], args := [d] }
  | _ => none }
def FnExactBorderFacesWrongFalsely : Prop := fnExactBorderFacesRow.holds Try.pinned (OpenSpec.ofChange fnExactBorderFacesWrong)

/-- 'laws.FnExactIsHeld': WHATEVER THE INPUT: true; the input reads as it did. -/
def fnExactIsHeldSpec : ChangeSpec := { name := "fnExactIsHeld", fn := fun _ => fun
  | [d1, d2, d3] => { results := [.lit (.bool true)], args := [d1, d2, d3] }
  | _ => none }
def fnExactIsHeldRow : OpenClaim := { program := "ytijkfgpnajdckaa", sum := "061bad03005c381bd91bcee2ebbc5096d25ed33068025f4695b7634d721fef85", func := "loop.example/g00956/laws.FnExactIsHeld", spec := "fnExactIsHeld", unfollowed := true, recurses := true, apart := false }
def FnExactIsHeldSaid : Prop := fnExactIsHeldRow.holds Try.pinned (OpenSpec.ofChange fnExactIsHeldSpec)

/-- ITS FALSE NEIGHBOUR: 'it returns false'. Refute it at one input. -/
def fnExactIsHeldWrong : ChangeSpec := { name := "fnExactIsHeld", fn := fun _ => fun
  | [d1, d2, d3] => { results := [.lit (.bool false)], args := [d1, d2, d3] }
  | _ => none }
def FnExactIsHeldWrongFalsely : Prop := fnExactIsHeldRow.holds Try.pinned (OpenSpec.ofChange fnExactIsHeldWrong)

/-- 'laws.FnExactIsTrapped': WHATEVER THE INPUT: true; the input reads as it did. -/
def fnExactIsTrappedSpec : ChangeSpec := { name := "fnExactIsTrapped", fn := fun _ => fun
  | [d1, d2, d3] => { results := [.lit (.bool true)], args := [d1, d2, d3] }
  | _ => none }
def fnExactIsTrappedRow : OpenClaim := { program := "ytijkfgpnajdckaa", sum := "061bad03005c381bd91bcee2ebbc5096d25ed33068025f4695b7634d721fef85", func := "loop.example/g00956/laws.FnExactIsTrapped", spec := "fnExactIsTrapped", unfollowed := true, recurses := true, apart := false }
def FnExactIsTrappedSaid : Prop := fnExactIsTrappedRow.holds Try.pinned (OpenSpec.ofChange fnExactIsTrappedSpec)

/-- ITS FALSE NEIGHBOUR: 'it returns false'. Refute it at one input. -/
def fnExactIsTrappedWrong : ChangeSpec := { name := "fnExactIsTrapped", fn := fun _ => fun
  | [d1, d2, d3] => { results := [.lit (.bool false)], args := [d1, d2, d3] }
  | _ => none }
def FnExactIsTrappedWrongFalsely : Prop := fnExactIsTrappedRow.holds Try.pinned (OpenSpec.ofChange fnExactIsTrappedWrong)

/-- 'laws.FnExactFirstAsFault': WHATEVER THE INPUT: true; the input reads as it did. -/
def fnExactFirstAsFaultSpec : ChangeSpec := { name := "fnExactFirstAsFault", fn := fun _ => fun
  | [d1, d2] => { results := [.lit (.bool true)], args := [d1, d2] }
  | _ => none }
def fnExactFirstAsFaultRow : OpenClaim := { program := "ytijkfgpnajdckaa", sum := "061bad03005c381bd91bcee2ebbc5096d25ed33068025f4695b7634d721fef85", func := "loop.example/g00956/laws.FnExactFirstAsFault", spec := "fnExactFirstAsFault", unfollowed := true, recurses := true, apart := false }
def FnExactFirstAsFaultSaid : Prop := fnExactFirstAsFaultRow.holds Try.pinned (OpenSpec.ofChange fnExactFirstAsFaultSpec)

/-- ITS FALSE NEIGHBOUR: 'it returns false'. Refute it at one input. -/
def fnExactFirstAsFaultWrong : ChangeSpec := { name := "fnExactFirstAsFault", fn := fun _ => fun
  | [d1, d2] => { results := [.lit (.bool false)], args := [d1, d2] }
  | _ => none }
def FnExactFirstAsFaultWrongFalsely : Prop := fnExactFirstAsFaultRow.holds Try.pinned (OpenSpec.ofChange fnExactFirstAsFaultWrong)

/-- 'laws.FnExactIsAssembly': WHATEVER THE INPUT: true; the input reads as it did. -/
def fnExactIsAssemblySpec : ChangeSpec := { name := "fnExactIsAssembly", fn := fun _ => fun
  | [d1, d2] => { results := [.lit (.bool true)], args := [d1, d2] }
  | _ => none }
def fnExactIsAssemblyRow : OpenClaim := { program := "ytijkfgpnajdckaa", sum := "061bad03005c381bd91bcee2ebbc5096d25ed33068025f4695b7634d721fef85", func := "loop.example/g00956/laws.FnExactIsAssembly", spec := "fnExactIsAssembly", unfollowed := true, recurses := true, apart := false }
def FnExactIsAssemblySaid : Prop := fnExactIsAssemblyRow.holds Try.pinned (OpenSpec.ofChange fnExactIsAssemblySpec)

/-- ITS FALSE NEIGHBOUR: 'it returns false'. Refute it at one input. -/
def fnExactIsAssemblyWrong : ChangeSpec := { name := "fnExactIsAssembly", fn := fun _ => fun
  | [d1, d2] => { results := [.lit (.bool false)], args := [d1, d2] }
  | _ => none }
def FnExactIsAssemblyWrongFalsely : Prop := fnExactIsAssemblyRow.holds Try.pinned (OpenSpec.ofChange fnExactIsAssemblyWrong)

/-- 'laws.FnExactEnclosedFaces': WHATEVER THE INPUT: true; the input reads as it did. -/
def fnExactEnclosedFacesSpec : ChangeSpec := { name := "fnExactEnclosedFaces", fn := fun _ => fun
  | [d] => { results := [.lit (.bool true)], args := [d] }
  | _ => none }
def fnExactEnclosedFacesRow : OpenClaim := { program := "ytijkfgpnajdckaa", sum := "061bad03005c381bd91bcee2ebbc5096d25ed33068025f4695b7634d721fef85", func := "loop.example/g00956/laws.FnExactEnclosedFaces", spec := "fnExactEnclosedFaces", unfollowed := true, recurses := true, apart := false }
def FnExactEnclosedFacesSaid : Prop := fnExactEnclosedFacesRow.holds Try.pinned (OpenSpec.ofChange fnExactEnclosedFacesSpec)

/-- ITS FALSE NEIGHBOUR: 'it returns false'. Refute it at one input. -/
def fnExactEnclosedFacesWrong : ChangeSpec := { name := "fnExactEnclosedFaces", fn := fun _ => fun
  | [d] => { results := [.lit (.bool false)], args := [d] }
  | _ => none }
def FnExactEnclosedFacesWrongFalsely : Prop := fnExactEnclosedFacesRow.holds Try.pinned (OpenSpec.ofChange fnExactEnclosedFacesWrong)

/-- 'laws.FnExactSafeOrder': WHATEVER THE INPUT: true; the input reads as it did. -/
def fnExactSafeOrderSpec : ChangeSpec := { name := "fnExactSafeOrder", fn := fun _ => fun
  | [d] => { results := [.lit (.bool true)], args := [d] }
  | _ => none }
def fnExactSafeOrderRow : OpenClaim := { program := "ytijkfgpnajdckaa", sum := "061bad03005c381bd91bcee2ebbc5096d25ed33068025f4695b7634d721fef85", func := "loop.example/g00956/laws.FnExactSafeOrder", spec := "fnExactSafeOrder", unfollowed := true, recurses := true, apart := false }
def FnExactSafeOrderSaid : Prop := fnExactSafeOrderRow.holds Try.pinned (OpenSpec.ofChange fnExactSafeOrderSpec)

/-- ITS FALSE NEIGHBOUR: 'it returns false'. Refute it at one input. -/
def fnExactSafeOrderWrong : ChangeSpec := { name := "fnExactSafeOrder", fn := fun _ => fun
  | [d] => { results := [.lit (.bool false)], args := [d] }
  | _ => none }
def FnExactSafeOrderWrongFalsely : Prop := fnExactSafeOrderRow.holds Try.pinned (OpenSpec.ofChange fnExactSafeOrderWrong)

/-- 'laws.FnExactGreedyAssembly': WHATEVER THE INPUT: true; the input reads as it did. -/
def fnExactGreedyAssemblySpec : ChangeSpec := { name := "fnExactGreedyAssembly", fn := fun _ => fun
  | [d] => { results := [.lit (.bool true)], args := [d] }
  | _ => none }
def fnExactGreedyAssemblyRow : OpenClaim := { program := "ytijkfgpnajdckaa", sum := "061bad03005c381bd91bcee2ebbc5096d25ed33068025f4695b7634d721fef85", func := "loop.example/g00956/laws.FnExactGreedyAssembly", spec := "fnExactGreedyAssembly", unfollowed := true, recurses := true, apart := false }
def FnExactGreedyAssemblySaid : Prop := fnExactGreedyAssemblyRow.holds Try.pinned (OpenSpec.ofChange fnExactGreedyAssemblySpec)

/-- ITS FALSE NEIGHBOUR: 'it returns false'. Refute it at one input. -/
def fnExactGreedyAssemblyWrong : ChangeSpec := { name := "fnExactGreedyAssembly", fn := fun _ => fun
  | [d] => { results := [.lit (.bool false)], args := [d] }
  | _ => none }
def FnExactGreedyAssemblyWrongFalsely : Prop := fnExactGreedyAssemblyRow.holds Try.pinned (OpenSpec.ofChange fnExactGreedyAssemblyWrong)

/-- 'laws.FnExactNextFaces': WHATEVER THE INPUT: true; the input reads as it did. -/
def fnExactNextFacesSpec : ChangeSpec := { name := "fnExactNextFaces", fn := fun _ => fun
  | [d1, d2] => { results := [.lit (.bool true)], args := [d1, d2] }
  | _ => none }
def fnExactNextFacesRow : OpenClaim := { program := "ytijkfgpnajdckaa", sum := "061bad03005c381bd91bcee2ebbc5096d25ed33068025f4695b7634d721fef85", func := "loop.example/g00956/laws.FnExactNextFaces", spec := "fnExactNextFaces", unfollowed := true, recurses := true, apart := false }
def FnExactNextFacesSaid : Prop := fnExactNextFacesRow.holds Try.pinned (OpenSpec.ofChange fnExactNextFacesSpec)

/-- ITS FALSE NEIGHBOUR: 'it returns false'. Refute it at one input. -/
def fnExactNextFacesWrong : ChangeSpec := { name := "fnExactNextFaces", fn := fun _ => fun
  | [d1, d2] => { results := [.lit (.bool false)], args := [d1, d2] }
  | _ => none }
def FnExactNextFacesWrongFalsely : Prop := fnExactNextFacesRow.holds Try.pinned (OpenSpec.ofChange fnExactNextFacesWrong)

/- THE SECOND FORM. 'bulk': how many values and letters a reading holds, each counted each time it is reached (what is shared counts as often as it is met; a slice's spare places count too). A statement '..UptoSaid' is the law's where the arguments, and the package variables that the reading takes, are together of bulk at most 1048576: NARROWER than '..Said'. Prove '..Said' where nothing that the law and all that it calls make is longer than what came in: it says more and counts as full. Else prove '..UptoSaid'. A law counts once. -/
mutual
def uptoBulk {H : Type} : DataW H → Nat
  | .lit (.string bytes) => bytes.length + 1
  | .lit _ => 1
  | .nil => 1
  | .ptr d => uptoBulk d + 1
  | .slice elems spare => uptoBulkAll elems + uptoBulkAll spare + 1
  | .agg parts => uptoBulkAll parts + 1
  | .iface _ d => uptoBulk d + 1
  | .map entries => uptoBulkEntries entries + 1
  | .held _ => 1
def uptoBulkAll {H : Type} : List (DataW H) → Nat
  | [] => 0
  | d :: r => uptoBulk d + uptoBulkAll r
def uptoBulkEntries {H : Type} : List (Lit × DataW H) → Nat
  | [] => 0
  | x :: r => uptoBulkEntry x + uptoBulkEntries r
def uptoBulkEntry {H : Type} : Lit × DataW H → Nat
  | (.string bytes, d) => bytes.length + uptoBulk d + 1
  | (_, d) => uptoBulk d + 1
 end
def uptoSmall : (H : Type) → List (DataW H) → Bool := fun _ ds => decide (uptoBulkAll ds ≤ 1048576)
def OpenSpec.upto (s : _root_.Go.ChangeSpec) : _root_.Go.OpenSpec := { _root_.Go.OpenSpec.ofChange s with cond := some uptoSmall }

/-- 'laws.FnExactPressesFor', WHERE WHAT IT READS IS OF BULK AT MOST 1048576: true; the input reads as it did. -/
def fnExactPressesForUptoRow : OpenClaim := { program := "ytijkfgpnajdckaa", sum := "061bad03005c381bd91bcee2ebbc5096d25ed33068025f4695b7634d721fef85", func := "loop.example/g00956/laws.FnExactPressesFor", spec := "fnExactPressesFor", apart := false, narrowed := true }
def FnExactPressesForUptoSaid : Prop := fnExactPressesForUptoRow.holds Try.pinned (OpenSpec.upto fnExactPressesForSpec)

/-- 'laws.FnExactLossSums', WHERE WHAT IT READS IS OF BULK AT MOST 1048576: true; the input reads as it did. -/
def fnExactLossSumsUptoRow : OpenClaim := { program := "ytijkfgpnajdckaa", sum := "061bad03005c381bd91bcee2ebbc5096d25ed33068025f4695b7634d721fef85", func := "loop.example/g00956/laws.FnExactLossSums", spec := "fnExactLossSums", apart := false, narrowed := true }
def FnExactLossSumsUptoSaid : Prop := fnExactLossSumsUptoRow.holds Try.pinned (OpenSpec.upto fnExactLossSumsSpec)

/-- 'laws.FnExactGlueStarts', WHERE WHAT IT READS IS OF BULK AT MOST 1048576: true; the input reads as it did. -/
def fnExactGlueStartsUptoRow : OpenClaim := { program := "ytijkfgpnajdckaa", sum := "061bad03005c381bd91bcee2ebbc5096d25ed33068025f4695b7634d721fef85", func := "loop.example/g00956/laws.FnExactGlueStarts", spec := "fnExactGlueStarts", apart := false, narrowed := true }
def FnExactGlueStartsUptoSaid : Prop := fnExactGlueStartsUptoRow.holds Try.pinned (OpenSpec.upto fnExactGlueStartsSpec)

/-- 'laws.FnExactBorderFaces', WHERE WHAT IT READS IS OF BULK AT MOST 1048576: true; the input reads as it did. -/
def fnExactBorderFacesUptoRow : OpenClaim := { program := "ytijkfgpnajdckaa", sum := "061bad03005c381bd91bcee2ebbc5096d25ed33068025f4695b7634d721fef85", func := "loop.example/g00956/laws.FnExactBorderFaces", spec := "fnExactBorderFaces", unfollowed := true, recurses := true, apart := false, narrowed := true }
def FnExactBorderFacesUptoSaid : Prop := fnExactBorderFacesUptoRow.holds Try.pinned (OpenSpec.upto fnExactBorderFacesSpec)

/-- 'laws.FnExactIsHeld', WHERE WHAT IT READS IS OF BULK AT MOST 1048576: true; the input reads as it did. -/
def fnExactIsHeldUptoRow : OpenClaim := { program := "ytijkfgpnajdckaa", sum := "061bad03005c381bd91bcee2ebbc5096d25ed33068025f4695b7634d721fef85", func := "loop.example/g00956/laws.FnExactIsHeld", spec := "fnExactIsHeld", unfollowed := true, recurses := true, apart := false, narrowed := true }
def FnExactIsHeldUptoSaid : Prop := fnExactIsHeldUptoRow.holds Try.pinned (OpenSpec.upto fnExactIsHeldSpec)

/-- 'laws.FnExactIsTrapped', WHERE WHAT IT READS IS OF BULK AT MOST 1048576: true; the input reads as it did. -/
def fnExactIsTrappedUptoRow : OpenClaim := { program := "ytijkfgpnajdckaa", sum := "061bad03005c381bd91bcee2ebbc5096d25ed33068025f4695b7634d721fef85", func := "loop.example/g00956/laws.FnExactIsTrapped", spec := "fnExactIsTrapped", unfollowed := true, recurses := true, apart := false, narrowed := true }
def FnExactIsTrappedUptoSaid : Prop := fnExactIsTrappedUptoRow.holds Try.pinned (OpenSpec.upto fnExactIsTrappedSpec)

/-- 'laws.FnExactFirstAsFault', WHERE WHAT IT READS IS OF BULK AT MOST 1048576: true; the input reads as it did. -/
def fnExactFirstAsFaultUptoRow : OpenClaim := { program := "ytijkfgpnajdckaa", sum := "061bad03005c381bd91bcee2ebbc5096d25ed33068025f4695b7634d721fef85", func := "loop.example/g00956/laws.FnExactFirstAsFault", spec := "fnExactFirstAsFault", unfollowed := true, recurses := true, apart := false, narrowed := true }
def FnExactFirstAsFaultUptoSaid : Prop := fnExactFirstAsFaultUptoRow.holds Try.pinned (OpenSpec.upto fnExactFirstAsFaultSpec)

/-- 'laws.FnExactIsAssembly', WHERE WHAT IT READS IS OF BULK AT MOST 1048576: true; the input reads as it did. -/
def fnExactIsAssemblyUptoRow : OpenClaim := { program := "ytijkfgpnajdckaa", sum := "061bad03005c381bd91bcee2ebbc5096d25ed33068025f4695b7634d721fef85", func := "loop.example/g00956/laws.FnExactIsAssembly", spec := "fnExactIsAssembly", unfollowed := true, recurses := true, apart := false, narrowed := true }
def FnExactIsAssemblyUptoSaid : Prop := fnExactIsAssemblyUptoRow.holds Try.pinned (OpenSpec.upto fnExactIsAssemblySpec)

/-- 'laws.FnExactEnclosedFaces', WHERE WHAT IT READS IS OF BULK AT MOST 1048576: true; the input reads as it did. -/
def fnExactEnclosedFacesUptoRow : OpenClaim := { program := "ytijkfgpnajdckaa", sum := "061bad03005c381bd91bcee2ebbc5096d25ed33068025f4695b7634d721fef85", func := "loop.example/g00956/laws.FnExactEnclosedFaces", spec := "fnExactEnclosedFaces", unfollowed := true, recurses := true, apart := false, narrowed := true }
def FnExactEnclosedFacesUptoSaid : Prop := fnExactEnclosedFacesUptoRow.holds Try.pinned (OpenSpec.upto fnExactEnclosedFacesSpec)

/-- 'laws.FnExactSafeOrder', WHERE WHAT IT READS IS OF BULK AT MOST 1048576: true; the input reads as it did. -/
def fnExactSafeOrderUptoRow : OpenClaim := { program := "ytijkfgpnajdckaa", sum := "061bad03005c381bd91bcee2ebbc5096d25ed33068025f4695b7634d721fef85", func := "loop.example/g00956/laws.FnExactSafeOrder", spec := "fnExactSafeOrder", unfollowed := true, recurses := true, apart := false, narrowed := true }
def FnExactSafeOrderUptoSaid : Prop := fnExactSafeOrderUptoRow.holds Try.pinned (OpenSpec.upto fnExactSafeOrderSpec)

/-- 'laws.FnExactGreedyAssembly', WHERE WHAT IT READS IS OF BULK AT MOST 1048576: true; the input reads as it did. -/
def fnExactGreedyAssemblyUptoRow : OpenClaim := { program := "ytijkfgpnajdckaa", sum := "061bad03005c381bd91bcee2ebbc5096d25ed33068025f4695b7634d721fef85", func := "loop.example/g00956/laws.FnExactGreedyAssembly", spec := "fnExactGreedyAssembly", unfollowed := true, recurses := true, apart := false, narrowed := true }
def FnExactGreedyAssemblyUptoSaid : Prop := fnExactGreedyAssemblyUptoRow.holds Try.pinned (OpenSpec.upto fnExactGreedyAssemblySpec)

/-- 'laws.FnExactNextFaces', WHERE WHAT IT READS IS OF BULK AT MOST 1048576: true; the input reads as it did. -/
def fnExactNextFacesUptoRow : OpenClaim := { program := "ytijkfgpnajdckaa", sum := "061bad03005c381bd91bcee2ebbc5096d25ed33068025f4695b7634d721fef85", func := "loop.example/g00956/laws.FnExactNextFaces", spec := "fnExactNextFaces", unfollowed := true, recurses := true, apart := false, narrowed := true }
def FnExactNextFacesUptoSaid : Prop := fnExactNextFacesUptoRow.holds Try.pinned (OpenSpec.upto fnExactNextFacesSpec)

end Rows
end Go.Proofs.Ytijkfgpnajdckaa
