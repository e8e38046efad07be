/-
  No cell of these rows narrows 'for every input' (looked for: loops, veiled, ifaces, maps, wideKeys, modest, calm, conditions, laid).
  DERIVED. THE GIVEN ROWS OF THIS SEAT. 8 by the template 'for every input the law returns true; each argument reads behind the call as it read before'; 0 by the template 'total and deterministic' (their statements: YtnhgffhnfegiiaaTotals.lean).
  GIVEN WITH THE SEED: the statements are not yours to turn. If you find one false, say at which input.
  Laid BY PROGRAM, IN A SANDBOX (cutbox-rows.mjs): the forced cells as the released guide's own fill.sh prints them over the translation 727cfdee8fe358f6… (all of the seat's roots in one cut). By AI agents, Wed Nov 11 2026. No macro, syntax, notation, axiom, sorry.
-/
import Derived.Test.YtnhgffhnfegiiaaChecked
import GoSem.Claim
import GoSem.ClaimJoined
import GoSem.ClaimMapViews
import Derived.JoinedTies
import Derived.KernelRfl
namespace Go.Proofs.Ytnhgffhnfegiiaa
/- THE CELL 'sum', in the pinned program and in every row, IS THE sha256 OF THE DUMP (.gsa) THAT YtnhgffhnfegiiaaProg.lean LOADS. Nothing in Lean hashes anything: it is a label: what it is worth is what the hold of that sum in a sandbox is worth. -/
noncomputable def Try.pinned : Pinned := { name := "ytnhgffhnfegiiaa", sum := "727cfdee8fe358f699ba2199419049e73bd1f1d21e98c7a63991f17253954548", checked := Try.checked }
namespace Rows
def none {H : Type} : Left H := { results := [], args := [] }

/-- 'laws.FnExactPressTimes': WHATEVER THE INPUT: true; the input reads as it did. -/
def fnExactPressTimesSpec : ChangeSpec := { name := "fnExactPressTimes", fn := fun _ => fun
  | [d1, d2, d3] => { results := [.lit (.bool true)], args := [d1, d2, d3] }
  | _ => none }
def fnExactPressTimesRow : OpenClaim := { program := "ytnhgffhnfegiiaa", sum := "727cfdee8fe358f699ba2199419049e73bd1f1d21e98c7a63991f17253954548", func := "loop.example/g00956/laws.FnExactPressTimes", spec := "fnExactPressTimes", apart := false }
def FnExactPressTimesSaid : Prop := fnExactPressTimesRow.holds Try.pinned (OpenSpec.ofChange fnExactPressTimesSpec)

/-- ITS FALSE NEIGHBOUR: 'it returns false'. Refute it at one input. -/
def fnExactPressTimesWrong : ChangeSpec := { name := "fnExactPressTimes", fn := fun _ => fun
  | [d1, d2, d3] => { results := [.lit (.bool false)], args := [d1, d2, d3] }
  | _ => none }
def FnExactPressTimesWrongFalsely : Prop := fnExactPressTimesRow.holds Try.pinned (OpenSpec.ofChange fnExactPressTimesWrong)

/-- 'laws.FnExactDropLoss': WHATEVER THE INPUT: true; the input reads as it did. -/
def fnExactDropLossSpec : ChangeSpec := { name := "fnExactDropLoss", fn := fun _ => fun
  | [d1, d2] => { results := [.lit (.bool true)], args := [d1, d2] }
  | _ => none }
def fnExactDropLossRow : OpenClaim := { program := "ytnhgffhnfegiiaa", sum := "727cfdee8fe358f699ba2199419049e73bd1f1d21e98c7a63991f17253954548", func := "loop.example/g00956/laws.FnExactDropLoss", spec := "fnExactDropLoss", inPlace := ["internal/bytealg.abigen_runtime_cmpstring"], unfollowed := true, recurses := true, apart := false }
def FnExactDropLossSaid : Prop := fnExactDropLossRow.holds Try.pinned (OpenSpec.ofChange fnExactDropLossSpec)

/-- ITS FALSE NEIGHBOUR: 'it returns false'. Refute it at one input. -/
def fnExactDropLossWrong : ChangeSpec := { name := "fnExactDropLoss", fn := fun _ => fun
  | [d1, d2] => { results := [.lit (.bool false)], args := [d1, d2] }
  | _ => none }
def FnExactDropLossWrongFalsely : Prop := fnExactDropLossRow.holds Try.pinned (OpenSpec.ofChange fnExactDropLossWrong)

/-- 'laws.FnExactLongestFirst': WHATEVER THE INPUT: true; the input reads as it did. -/
def fnExactLongestFirstSpec : ChangeSpec := { name := "fnExactLongestFirst", fn := fun _ => fun
  | [d1, d2] => { results := [.lit (.bool true)], args := [d1, d2] }
  | _ => none }
def fnExactLongestFirstRow : OpenClaim := { program := "ytnhgffhnfegiiaa", sum := "727cfdee8fe358f699ba2199419049e73bd1f1d21e98c7a63991f17253954548", func := "loop.example/g00956/laws.FnExactLongestFirst", spec := "fnExactLongestFirst", unfollowed := true, recurses := true, apart := false }
def FnExactLongestFirstSaid : Prop := fnExactLongestFirstRow.holds Try.pinned (OpenSpec.ofChange fnExactLongestFirstSpec)

/-- ITS FALSE NEIGHBOUR: 'it returns false'. Refute it at one input. -/
def fnExactLongestFirstWrong : ChangeSpec := { name := "fnExactLongestFirst", fn := fun _ => fun
  | [d1, d2] => { results := [.lit (.bool false)], args := [d1, d2] }
  | _ => none }
def FnExactLongestFirstWrongFalsely : Prop := fnExactLongestFirstRow.holds Try.pinned (OpenSpec.ofChange fnExactLongestFirstWrong)

/-- 'laws.FnExactUrgentFirst': WHATEVER THE INPUT: true; the input reads as it did. -/
def fnExactUrgentFirstSpec : ChangeSpec := { name := "fnExactUrgentFirst", fn := fun _ => fun
  | [d] => { results := [.lit (.bool true)], args := [d] }
  | _ => none }
def fnExactUrgentFirstRow : OpenClaim := { program := "ytnhgffhnfegiiaa", sum := "727cfdee8fe358f699ba2199419049e73bd1f1d21e98c7a63991f17253954548", func := "loop.example/g00956/laws.FnExactUrgentFirst", spec := "fnExactUrgentFirst", unfollowed := true, recurses := true, apart := false }
def FnExactUrgentFirstSaid : Prop := fnExactUrgentFirstRow.holds Try.pinned (OpenSpec.ofChange fnExactUrgentFirstSpec)

/-- ITS FALSE NEIGHBOUR: 'it returns false'. Refute it at one input. -/
def fnExactUrgentFirstWrong : ChangeSpec := { name := "fnExactUrgentFirst", fn := fun _ => fun
  | [d] => { results := [.lit (.bool false)], args := [d] }
  | _ => none }
def FnExactUrgentFirstWrongFalsely : Prop := fnExactUrgentFirstRow.holds Try.pinned (OpenSpec.ofChange fnExactUrgentFirstWrong)

/-- 'laws.FnExactAddLoss': WHATEVER THE INPUT: true; the input reads as it did. -/
def fnExactAddLossSpec : ChangeSpec := { name := "fnExactAddLoss", fn := fun _ => fun
  | [d1, d2] => { results := [.lit (.bool true)], args := [d1, d2] }
  | _ => none }
def fnExactAddLossRow : OpenClaim := { program := "ytnhgffhnfegiiaa", sum := "727cfdee8fe358f699ba2199419049e73bd1f1d21e98c7a63991f17253954548", func := "loop.example/g00956/laws.FnExactAddLoss", spec := "fnExactAddLoss", inPlace := ["internal/bytealg.abigen_runtime_cmpstring", "slices.overlaps[loop.example/g00956/impl.Loss]"], unfollowed := true, recurses := true, apart := false }
def FnExactAddLossSaid : Prop := fnExactAddLossRow.holds Try.pinned (OpenSpec.ofChange fnExactAddLossSpec)

/-- ITS FALSE NEIGHBOUR: 'it returns false'. Refute it at one input. -/
def fnExactAddLossWrong : ChangeSpec := { name := "fnExactAddLoss", fn := fun _ => fun
  | [d1, d2] => { results := [.lit (.bool false)], args := [d1, d2] }
  | _ => none }
def FnExactAddLossWrongFalsely : Prop := fnExactAddLossRow.holds Try.pinned (OpenSpec.ofChange fnExactAddLossWrong)

/-- 'laws.FnExactLeafForLoss': WHATEVER THE INPUT: true; the input reads as it did. -/
def fnExactLeafForLossSpec : ChangeSpec := { name := "fnExactLeafForLoss", fn := fun _ => fun
  | [d1, d2] => { results := [.lit (.bool true)], args := [d1, d2] }
  | _ => none }
def fnExactLeafForLossRow : OpenClaim := { program := "ytnhgffhnfegiiaa", sum := "727cfdee8fe358f699ba2199419049e73bd1f1d21e98c7a63991f17253954548", func := "loop.example/g00956/laws.FnExactLeafForLoss", spec := "fnExactLeafForLoss", unfollowed := true, recurses := true, apart := false }
def FnExactLeafForLossSaid : Prop := fnExactLeafForLossRow.holds Try.pinned (OpenSpec.ofChange fnExactLeafForLossSpec)

/-- ITS FALSE NEIGHBOUR: 'it returns false'. Refute it at one input. -/
def fnExactLeafForLossWrong : ChangeSpec := { name := "fnExactLeafForLoss", fn := fun _ => fun
  | [d1, d2] => { results := [.lit (.bool false)], args := [d1, d2] }
  | _ => none }
def FnExactLeafForLossWrongFalsely : Prop := fnExactLeafForLossRow.holds Try.pinned (OpenSpec.ofChange fnExactLeafForLossWrong)

/-- 'laws.FnExactGreedyRepairs': WHATEVER THE INPUT: true; the input reads as it did. -/
def fnExactGreedyRepairsSpec : ChangeSpec := { name := "fnExactGreedyRepairs", fn := fun _ => fun
  | [d1, d2, d3] => { results := [.lit (.bool true)], args := [d1, d2, d3] }
  | _ => none }
def fnExactGreedyRepairsRow : OpenClaim := { program := "ytnhgffhnfegiiaa", sum := "727cfdee8fe358f699ba2199419049e73bd1f1d21e98c7a63991f17253954548", func := "loop.example/g00956/laws.FnExactGreedyRepairs", spec := "fnExactGreedyRepairs", unfollowed := true, recurses := true, apart := false }
def FnExactGreedyRepairsSaid : Prop := fnExactGreedyRepairsRow.holds Try.pinned (OpenSpec.ofChange fnExactGreedyRepairsSpec)

/-- ITS FALSE NEIGHBOUR: 'it returns false'. Refute it at one input. -/
def fnExactGreedyRepairsWrong : ChangeSpec := { name := "fnExactGreedyRepairs", fn := fun _ => fun
  | [d1, d2, d3] => { results := [.lit (.bool false)], args := [d1, d2, d3] }
  | _ => none }
def FnExactGreedyRepairsWrongFalsely : Prop := fnExactGreedyRepairsRow.holds Try.pinned (OpenSpec.ofChange fnExactGreedyRepairsWrong)

/-- 'laws.FnGlue': WHATEVER THE INPUT: true; the input reads as it did. -/
def fnGlueSpec : ChangeSpec := { name := "fnGlue", fn := fun _ => fun
  | [d] => { results := [.lit (.bool true)], args := [d] }
  | _ => none }
def fnGlueRow : OpenClaim := { program := "ytnhgffhnfegiiaa", sum := "727cfdee8fe358f699ba2199419049e73bd1f1d21e98c7a63991f17253954548", func := "loop.example/g00956/laws.FnGlue", spec := "fnGlue", apart := false }
def FnGlueSaid : Prop := fnGlueRow.holds Try.pinned (OpenSpec.ofChange fnGlueSpec)

/-- ITS FALSE NEIGHBOUR: 'it returns false'. Refute it at one input. -/
def fnGlueWrong : ChangeSpec := { name := "fnGlue", fn := fun _ => fun
  | [d] => { results := [.lit (.bool false)], args := [d] }
  | _ => none }
def FnGlueWrongFalsely : Prop := fnGlueRow.holds Try.pinned (OpenSpec.ofChange fnGlueWrong)

/- THE SECOND FORM. 'bulk': how many values and letters a reading holds, each counted each time it is reached (what is shared counts as often as it is met; a slice's spare places count too). A statement '..UptoSaid' is the law's where the arguments, and the package variables that the reading takes, are together of bulk at most 1048576: NARROWER than '..Said'. Prove '..Said' where nothing that the law and all that it calls make is longer than what came in: it says more and counts as full. Else prove '..UptoSaid'. A law counts once. -/
mutual
def uptoBulk {H : Type} : DataW H → Nat
  | .lit (.string bytes) => bytes.length + 1
  | .lit _ => 1
  | .nil => 1
  | .ptr d => uptoBulk d + 1
  | .slice elems spare => uptoBulkAll elems + uptoBulkAll spare + 1
  | .agg parts => uptoBulkAll parts + 1
  | .iface _ d => uptoBulk d + 1
  | .map entries => uptoBulkEntries entries + 1
  | .held _ => 1
def uptoBulkAll {H : Type} : List (DataW H) → Nat
  | [] => 0
  | d :: r => uptoBulk d + uptoBulkAll r
def uptoBulkEntries {H : Type} : List (Lit × DataW H) → Nat
  | [] => 0
  | x :: r => uptoBulkEntry x + uptoBulkEntries r
def uptoBulkEntry {H : Type} : Lit × DataW H → Nat
  | (.string bytes, d) => bytes.length + uptoBulk d + 1
  | (_, d) => uptoBulk d + 1
 end
def uptoSmall : (H : Type) → List (DataW H) → Bool := fun _ ds => decide (uptoBulkAll ds ≤ 1048576)
def OpenSpec.upto (s : _root_.Go.ChangeSpec) : _root_.Go.OpenSpec := { _root_.Go.OpenSpec.ofChange s with cond := some uptoSmall }

/-- 'laws.FnExactPressTimes', WHERE WHAT IT READS IS OF BULK AT MOST 1048576: true; the input reads as it did. -/
def fnExactPressTimesUptoRow : OpenClaim := { program := "ytnhgffhnfegiiaa", sum := "727cfdee8fe358f699ba2199419049e73bd1f1d21e98c7a63991f17253954548", func := "loop.example/g00956/laws.FnExactPressTimes", spec := "fnExactPressTimes", apart := false, narrowed := true }
def FnExactPressTimesUptoSaid : Prop := fnExactPressTimesUptoRow.holds Try.pinned (OpenSpec.upto fnExactPressTimesSpec)

/-- 'laws.FnExactDropLoss', WHERE WHAT IT READS IS OF BULK AT MOST 1048576: true; the input reads as it did. -/
def fnExactDropLossUptoRow : OpenClaim := { program := "ytnhgffhnfegiiaa", sum := "727cfdee8fe358f699ba2199419049e73bd1f1d21e98c7a63991f17253954548", func := "loop.example/g00956/laws.FnExactDropLoss", spec := "fnExactDropLoss", inPlace := ["internal/bytealg.abigen_runtime_cmpstring"], unfollowed := true, recurses := true, apart := false, narrowed := true }
def FnExactDropLossUptoSaid : Prop := fnExactDropLossUptoRow.holds Try.pinned (OpenSpec.upto fnExactDropLossSpec)

/-- 'laws.FnExactLongestFirst', WHERE WHAT IT READS IS OF BULK AT MOST 1048576: true; the input reads as it did. -/
def fnExactLongestFirstUptoRow : OpenClaim := { program := "ytnhgffhnfegiiaa", sum := "727cfdee8fe358f699ba2199419049e73bd1f1d21e98c7a63991f17253954548", func := "loop.example/g00956/laws.FnExactLongestFirst", spec := "fnExactLongestFirst", unfollowed := true, recurses := true, apart := false, narrowed := true }
def FnExactLongestFirstUptoSaid : Prop := fnExactLongestFirstUptoRow.holds Try.pinned (OpenSpec.upto fnExactLongestFirstSpec)

/-- 'laws.FnExactUrgentFirst', WHERE WHAT IT READS IS OF BULK AT MOST 1048576: true; the input reads as it did. -/
def fnExactUrgentFirstUptoRow : OpenClaim := { program := "ytnhgffhnfegiiaa", sum := "727cfdee8fe358f699ba2199419049e73bd1f1d21e98c7a63991f17253954548", func := "loop.example/g00956/laws.FnExactUrgentFirst", spec := "fnExactUrgentFirst", unfollowed := true, recurses := true, apart := false, narrowed := true }
def FnExactUrgentFirstUptoSaid : Prop := fnExactUrgentFirstUptoRow.holds Try.pinned (OpenSpec.upto fnExactUrgentFirstSpec)

/-- 'laws.FnExactAddLoss', WHERE WHAT IT READS IS OF BULK AT MOST 1048576: true; the input reads as it did. -/
def fnExactAddLossUptoRow : OpenClaim := { program := "ytnhgffhnfegiiaa", sum := "727cfdee8fe358f699ba2199419049e73bd1f1d21e98c7a63991f17253954548", func := "loop.example/g00956/laws.FnExactAddLoss", spec := "fnExactAddLoss", inPlace := ["internal/bytealg.abigen_runtime_cmpstring", "slices.overlaps[loop.example/g00956/impl.Loss]"], unfollowed := true, recurses := true, apart := false, narrowed := true }
def FnExactAddLossUptoSaid : Prop := fnExactAddLossUptoRow.holds Try.pinned (OpenSpec.upto fnExactAddLossSpec)

/-- 'laws.FnExactLeafForLoss', WHERE WHAT IT READS IS OF BULK AT MOST 1048576: true; the input reads as it did. -/
def fnExactLeafForLossUptoRow : OpenClaim := { program := "ytnhgffhnfegiiaa", sum := "727cfdee8fe358f699ba2199419049e73bd1f1d21e98c7a63991f17253954548", func := "loop.example/g00956/laws.FnExactLeafForLoss", spec := "fnExactLeafForLoss", unfollowed := true, recurses := true, apart := false, narrowed := true }
def FnExactLeafForLossUptoSaid : Prop := fnExactLeafForLossUptoRow.holds Try.pinned (OpenSpec.upto fnExactLeafForLossSpec)

/-- 'laws.FnExactGreedyRepairs', WHERE WHAT IT READS IS OF BULK AT MOST 1048576: true; the input reads as it did. -/
def fnExactGreedyRepairsUptoRow : OpenClaim := { program := "ytnhgffhnfegiiaa", sum := "727cfdee8fe358f699ba2199419049e73bd1f1d21e98c7a63991f17253954548", func := "loop.example/g00956/laws.FnExactGreedyRepairs", spec := "fnExactGreedyRepairs", unfollowed := true, recurses := true, apart := false, narrowed := true }
def FnExactGreedyRepairsUptoSaid : Prop := fnExactGreedyRepairsUptoRow.holds Try.pinned (OpenSpec.upto fnExactGreedyRepairsSpec)

/-- 'laws.FnGlue', WHERE WHAT IT READS IS OF BULK AT MOST 1048576: true; the input reads as it did. -/
def fnGlueUptoRow : OpenClaim := { program := "ytnhgffhnfegiiaa", sum := "727cfdee8fe358f699ba2199419049e73bd1f1d21e98c7a63991f17253954548", func := "loop.example/g00956/laws.FnGlue", spec := "fnGlue", apart := false, narrowed := true }
def FnGlueUptoSaid : Prop := fnGlueUptoRow.holds Try.pinned (OpenSpec.upto fnGlueSpec)

end Rows
end Go.Proofs.Ytnhgffhnfegiiaa
