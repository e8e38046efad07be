/-
  DERIVED. GIVEN WITH THE SEED: THE CARDS: each row of YtnhgffhnfegiiaaDoorRows.lean that lists a variable, with what it lists TIED to the program's text (the seventh form; the later family's looks); each row that meets fmt, with fmt's text TOLD by the authors' own Lean function (tested against real Go, not proved from fmt's source: count such statements apart). THE CARD IS WHAT COUNTS. Prove the row's statement (the work); the ties are given (YtnhgffhnfegiiaaDoorTie.lean); close each card by the builder's one call (the guide's Derived/Test/ToyasCard.lean, 'card_holds'). Laid BY PROGRAM, IN A SANDBOX (cutbox-door.mjs). By AI agents, Wed Nov 11 2026. No macro, syntax, notation, axiom, sorry.
-/
import Derived.Test.YtnhgffhnfegiiaaDoorRows
import GoSem.ClaimSeven
namespace Go.Proofs.YtnhgffhnfegiiaaDoor
namespace Rows

/-- THE TIED CARD OF 'laws.FnExactBondText'. -/
def fnExactBondTextCard : Claim7 := { stood := { row := fnExactBondTextRow, standIns := [], harness := (true, "7ab3bfc4bb4c88354199e83e6fe603515cf92a248389fcf3a55983a36b67d383"), looks := false }, kinds := [], alts := [], laidByText := true, laidKinds := [.data, .data, .data], laidTests := true, laidLooks := .later }
def FnExactBondTextCardSaid : Prop := Claim7.holds Tryd.pinned (.plain (OpenSpec.ofChange fnExactBondTextSpec)) fnExactBondTextCard

/-- THE TIED CARD OF 'laws.FnExactLossText'. -/
def fnExactLossTextCard : Claim7 := { stood := { row := fnExactLossTextRow, standIns := [], harness := (true, "7ab3bfc4bb4c88354199e83e6fe603515cf92a248389fcf3a55983a36b67d383"), looks := false }, kinds := [], alts := [], laidByText := true, laidKinds := [.data, .data, .data], laidTests := true, laidLooks := .later }
def FnExactLossTextCardSaid : Prop := Claim7.holds Tryd.pinned (.plain (OpenSpec.ofChange fnExactLossTextSpec)) fnExactLossTextCard

/-- THE TIED CARD OF 'laws.FnExactReadBond'. -/
def fnExactReadBondCard : Claim7 := { stood := { row := fnExactReadBondRow, standIns := [], harness := (true, "7ab3bfc4bb4c88354199e83e6fe603515cf92a248389fcf3a55983a36b67d383"), looks := false }, kinds := [], alts := [], laidByText := true, laidKinds := [.data, .data, .data, .data, .pinned], laidTests := true, laidLooks := .later }
def FnExactReadBondCardSaid : Prop := Claim7.holds Tryd.pinned (.plain (OpenSpec.ofChange fnExactReadBondSpec)) fnExactReadBondCard

/-- THE TIED CARD OF 'laws.FnExactReadLoss'. -/
def fnExactReadLossCard : Claim7 := { stood := { row := fnExactReadLossRow, standIns := [], harness := (true, "7ab3bfc4bb4c88354199e83e6fe603515cf92a248389fcf3a55983a36b67d383"), looks := false }, kinds := [], alts := [], laidByText := true, laidKinds := [.data, .data, .data, .data, .pinned], laidTests := true, laidLooks := .later }
def FnExactReadLossCardSaid : Prop := Claim7.holds Tryd.pinned (.plain (OpenSpec.ofChange fnExactReadLossSpec)) fnExactReadLossCard

/-- THE SECOND FORM's CARD OF 'laws.FnExactBondText'. -/
def fnExactBondTextUptoCard : Claim7 := { stood := { row := fnExactBondTextUptoRow, standIns := [], harness := (true, "7ab3bfc4bb4c88354199e83e6fe603515cf92a248389fcf3a55983a36b67d383"), looks := false }, kinds := [], alts := [], laidByText := true, laidKinds := [.data, .data, .data], laidTests := true, laidLooks := .later }
def FnExactBondTextUptoCardSaid : Prop := Claim7.holds Tryd.pinned (.plain (OpenSpec.upto fnExactBondTextSpec)) fnExactBondTextUptoCard

/-- THE SECOND FORM's CARD OF 'laws.FnExactLossText'. -/
def fnExactLossTextUptoCard : Claim7 := { stood := { row := fnExactLossTextUptoRow, standIns := [], harness := (true, "7ab3bfc4bb4c88354199e83e6fe603515cf92a248389fcf3a55983a36b67d383"), looks := false }, kinds := [], alts := [], laidByText := true, laidKinds := [.data, .data, .data], laidTests := true, laidLooks := .later }
def FnExactLossTextUptoCardSaid : Prop := Claim7.holds Tryd.pinned (.plain (OpenSpec.upto fnExactLossTextSpec)) fnExactLossTextUptoCard

/-- THE SECOND FORM's CARD OF 'laws.FnExactReadBond'. -/
def fnExactReadBondUptoCard : Claim7 := { stood := { row := fnExactReadBondUptoRow, standIns := [], harness := (true, "7ab3bfc4bb4c88354199e83e6fe603515cf92a248389fcf3a55983a36b67d383"), looks := false }, kinds := [], alts := [], laidByText := true, laidKinds := [.data, .data, .data, .data, .pinned], laidTests := true, laidLooks := .later }
def FnExactReadBondUptoCardSaid : Prop := Claim7.holds Tryd.pinned (.plain (OpenSpec.upto fnExactReadBondSpec)) fnExactReadBondUptoCard

/-- THE SECOND FORM's CARD OF 'laws.FnExactReadLoss'. -/
def fnExactReadLossUptoCard : Claim7 := { stood := { row := fnExactReadLossUptoRow, standIns := [], harness := (true, "7ab3bfc4bb4c88354199e83e6fe603515cf92a248389fcf3a55983a36b67d383"), looks := false }, kinds := [], alts := [], laidByText := true, laidKinds := [.data, .data, .data, .data, .pinned], laidTests := true, laidLooks := .later }
def FnExactReadLossUptoCardSaid : Prop := Claim7.holds Tryd.pinned (.plain (OpenSpec.upto fnExactReadLossSpec)) fnExactReadLossUptoCard
end Rows
end Go.Proofs.YtnhgffhnfegiiaaDoor
