/-
  DERIVED. GIVEN WITH THE SEED: THE CARDS: each row of YtkjhlfleojcgjaaGreatDoorRows.lean that lists a variable, with what it lists TIED to the program's text (the seventh form; the later family's looks); each row that meets fmt, with fmt's text TOLD by the authors' own Lean function (tested against real Go, not proved from fmt's source: count such statements apart). THE CARD IS WHAT COUNTS. Prove the row's statement (the work); the ties are given (YtkjhlfleojcgjaaGreatDoorTie.lean); close each card by the builder's one call (the guide's Derived/Test/ToyasCard.lean, 'card_holds'). Laid BY PROGRAM, IN A SANDBOX (cutbox-door.mjs). By AI agents, Wed Nov 11 2026. No macro, syntax, notation, axiom, sorry.
-/
import Derived.Test.YtkjhlfleojcgjaaGreatDoorRows
import GoSem.ClaimSeven
namespace Go.Proofs.YtkjhlfleojcgjaaGreatDoor
namespace Rows

/-- THE TIED CARD OF 'decretallaw17.CellParses'. -/
def cellParsesCard : Claim7 := { stood := { row := cellParsesRow, standIns := [], harness := (true, "661586646b6cb4b34650c7da349da32f912dd5ceb858f3c21d6cdc7492113511"), looks := true }, kinds := [], alts := [], laidByText := true, laidKinds := [.data, .data, .data], laidTests := true, laidLooks := .later }
def CellParsesCardSaid : Prop := Claim7.holds Tryz.pinned (.plain (OpenSpec.ofChange cellParsesSpec)) cellParsesCard

/-- THE TIED CARD OF 'decretallaw17.CellHolds'. -/
def cellHoldsCard : Claim7 := { stood := { row := cellHoldsRow, standIns := [], harness := (true, "661586646b6cb4b34650c7da349da32f912dd5ceb858f3c21d6cdc7492113511"), looks := true }, kinds := [], alts := [], laidByText := true, laidKinds := [.data, .data, .data], laidTests := true, laidLooks := .later }
def CellHoldsCardSaid : Prop := Claim7.holds Tryz.pinned (.plain (OpenSpec.ofChange cellHoldsSpec)) cellHoldsCard

/-- THE TIED CARD OF 'decretallaw17.CellNot'. -/
def cellNotCard : Claim7 := { stood := { row := cellNotRow, standIns := [], harness := (true, "661586646b6cb4b34650c7da349da32f912dd5ceb858f3c21d6cdc7492113511"), looks := true }, kinds := [], alts := [], laidByText := true, laidKinds := [.data, .data, .data], laidTests := true, laidLooks := .later }
def CellNotCardSaid : Prop := Claim7.holds Tryz.pinned (.plain (OpenSpec.ofChange cellNotSpec)) cellNotCard

/-- THE TIED CARD OF 'decretallaw17.CellBack'. -/
def cellBackCard : Claim7 := { stood := { row := cellBackRow, standIns := [], harness := (true, "661586646b6cb4b34650c7da349da32f912dd5ceb858f3c21d6cdc7492113511"), looks := true }, kinds := [], alts := [], laidByText := true, laidKinds := [.data, .data, .data], laidTests := true, laidLooks := .later }
def CellBackCardSaid : Prop := Claim7.holds Tryz.pinned (.plain (OpenSpec.ofChange cellBackSpec)) cellBackCard

/-- THE TIED CARD OF 'decretallaw17.CellTexts'. -/
def cellTextsCard : Claim7 := { stood := { row := cellTextsRow, standIns := [], harness := (true, "661586646b6cb4b34650c7da349da32f912dd5ceb858f3c21d6cdc7492113511"), looks := true }, kinds := [], alts := [], laidByText := true, laidKinds := [.data, .data, .data], laidTests := true, laidLooks := .later }
def CellTextsCardSaid : Prop := Claim7.holds Tryz.pinned (.plain (OpenSpec.ofChange cellTextsSpec)) cellTextsCard

/-- THE TIED CARD OF 'decretallaw17.CellTyped'. -/
def cellTypedCard : Claim7 := { stood := { row := cellTypedRow, standIns := [], harness := (true, "661586646b6cb4b34650c7da349da32f912dd5ceb858f3c21d6cdc7492113511"), looks := true }, kinds := [], alts := [], laidByText := true, laidKinds := [.data, .data, .data], laidTests := true, laidLooks := .later }
def CellTypedCardSaid : Prop := Claim7.holds Tryz.pinned (.plain (OpenSpec.ofChange cellTypedSpec)) cellTypedCard

/-- THE TIED CARD OF 'decretallaw17.CellSound'. -/
def cellSoundCard : Claim7 := { stood := { row := cellSoundRow, standIns := [], harness := (true, "661586646b6cb4b34650c7da349da32f912dd5ceb858f3c21d6cdc7492113511"), looks := true }, kinds := [], alts := [], laidByText := true, laidKinds := [.data, .data, .data], laidTests := true, laidLooks := .later }
def CellSoundCardSaid : Prop := Claim7.holds Tryz.pinned (.plain (OpenSpec.ofChange cellSoundSpec)) cellSoundCard

/-- THE SECOND FORM's CARD OF 'decretallaw17.CellParses'. -/
def cellParsesUptoCard : Claim7 := { stood := { row := cellParsesUptoRow, standIns := [], harness := (true, "661586646b6cb4b34650c7da349da32f912dd5ceb858f3c21d6cdc7492113511"), looks := true }, kinds := [], alts := [], laidByText := true, laidKinds := [.data, .data, .data], laidTests := true, laidLooks := .later }
def CellParsesUptoCardSaid : Prop := Claim7.holds Tryz.pinned (.plain (OpenSpec.upto cellParsesSpec)) cellParsesUptoCard

/-- THE SECOND FORM's CARD OF 'decretallaw17.CellHolds'. -/
def cellHoldsUptoCard : Claim7 := { stood := { row := cellHoldsUptoRow, standIns := [], harness := (true, "661586646b6cb4b34650c7da349da32f912dd5ceb858f3c21d6cdc7492113511"), looks := true }, kinds := [], alts := [], laidByText := true, laidKinds := [.data, .data, .data], laidTests := true, laidLooks := .later }
def CellHoldsUptoCardSaid : Prop := Claim7.holds Tryz.pinned (.plain (OpenSpec.upto cellHoldsSpec)) cellHoldsUptoCard

/-- THE SECOND FORM's CARD OF 'decretallaw17.CellNot'. -/
def cellNotUptoCard : Claim7 := { stood := { row := cellNotUptoRow, standIns := [], harness := (true, "661586646b6cb4b34650c7da349da32f912dd5ceb858f3c21d6cdc7492113511"), looks := true }, kinds := [], alts := [], laidByText := true, laidKinds := [.data, .data, .data], laidTests := true, laidLooks := .later }
def CellNotUptoCardSaid : Prop := Claim7.holds Tryz.pinned (.plain (OpenSpec.upto cellNotSpec)) cellNotUptoCard

/-- THE SECOND FORM's CARD OF 'decretallaw17.CellBack'. -/
def cellBackUptoCard : Claim7 := { stood := { row := cellBackUptoRow, standIns := [], harness := (true, "661586646b6cb4b34650c7da349da32f912dd5ceb858f3c21d6cdc7492113511"), looks := true }, kinds := [], alts := [], laidByText := true, laidKinds := [.data, .data, .data], laidTests := true, laidLooks := .later }
def CellBackUptoCardSaid : Prop := Claim7.holds Tryz.pinned (.plain (OpenSpec.upto cellBackSpec)) cellBackUptoCard

/-- THE SECOND FORM's CARD OF 'decretallaw17.CellTexts'. -/
def cellTextsUptoCard : Claim7 := { stood := { row := cellTextsUptoRow, standIns := [], harness := (true, "661586646b6cb4b34650c7da349da32f912dd5ceb858f3c21d6cdc7492113511"), looks := true }, kinds := [], alts := [], laidByText := true, laidKinds := [.data, .data, .data], laidTests := true, laidLooks := .later }
def CellTextsUptoCardSaid : Prop := Claim7.holds Tryz.pinned (.plain (OpenSpec.upto cellTextsSpec)) cellTextsUptoCard

/-- THE SECOND FORM's CARD OF 'decretallaw17.CellTyped'. -/
def cellTypedUptoCard : Claim7 := { stood := { row := cellTypedUptoRow, standIns := [], harness := (true, "661586646b6cb4b34650c7da349da32f912dd5ceb858f3c21d6cdc7492113511"), looks := true }, kinds := [], alts := [], laidByText := true, laidKinds := [.data, .data, .data], laidTests := true, laidLooks := .later }
def CellTypedUptoCardSaid : Prop := Claim7.holds Tryz.pinned (.plain (OpenSpec.upto cellTypedSpec)) cellTypedUptoCard

/-- THE SECOND FORM's CARD OF 'decretallaw17.CellSound'. -/
def cellSoundUptoCard : Claim7 := { stood := { row := cellSoundUptoRow, standIns := [], harness := (true, "661586646b6cb4b34650c7da349da32f912dd5ceb858f3c21d6cdc7492113511"), looks := true }, kinds := [], alts := [], laidByText := true, laidKinds := [.data, .data, .data], laidTests := true, laidLooks := .later }
def CellSoundUptoCardSaid : Prop := Claim7.holds Tryz.pinned (.plain (OpenSpec.upto cellSoundSpec)) cellSoundUptoCard
end Rows
end Go.Proofs.YtkjhlfleojcgjaaGreatDoor
