/-
  DERIVED. GIVEN WITH THE SEED: THE CARDS: each row of YtbmmnalndollkaaGreatDoorRows.lean that lists a variable, with what it lists TIED to the program's text (the seventh form; the later family's looks); each row that meets fmt, with fmt's text TOLD by the authors' own Lean function (tested against real Go, not proved from fmt's source: count such statements apart). THE CARD IS WHAT COUNTS. Prove the row's statement (the work); the ties are given (YtbmmnalndollkaaGreatDoorTie.lean); close each card by the builder's one call (the guide's Derived/Test/ToyasCard.lean, 'card_holds'). Laid BY PROGRAM, IN A SANDBOX (cutbox-door.mjs). By AI agents, Wed Nov 11 2026. No macro, syntax, notation, axiom, sorry.
-/
import Derived.Test.YtbmmnalndollkaaGreatDoorRows
import GoSem.ClaimSeven
namespace Go.Proofs.YtbmmnalndollkaaGreatDoor
namespace Rows

/-- THE TIED CARD OF 'decretallaw31.ScanTells'. -/
def scanTellsCard : Claim7 := { stood := { row := scanTellsRow, standIns := [], harness := (true, "8df3493db3fb72f535c77321997f520d5244c034d4e4c7a71f92c1318aa86af5"), looks := true }, kinds := [], alts := [], laidByText := true, laidKinds := [.data, .pinned], laidTests := true, laidLooks := .later }
def ScanTellsCardSaid : Prop := Claim7.holds Tryz.pinned (.plain (OpenSpec.ofChange scanTellsSpec)) scanTellsCard

/-- THE TIED CARD OF 'decretallaw31.ScanPoints'. -/
def scanPointsCard : Claim7 := { stood := { row := scanPointsRow, standIns := [], harness := (true, "8df3493db3fb72f535c77321997f520d5244c034d4e4c7a71f92c1318aa86af5"), looks := true }, kinds := [], alts := [], laidByText := true, laidKinds := [.data, .pinned], laidTests := true, laidLooks := .later }
def ScanPointsCardSaid : Prop := Claim7.holds Tryz.pinned (.plain (OpenSpec.ofChange scanPointsSpec)) scanPointsCard

/-- THE TIED CARD OF 'decretallaw31.ScanLike'. -/
def scanLikeCard : Claim7 := { stood := { row := scanLikeRow, standIns := [], harness := (true, "8df3493db3fb72f535c77321997f520d5244c034d4e4c7a71f92c1318aa86af5"), looks := true }, kinds := [], alts := [], laidByText := true, laidKinds := [.data, .pinned], laidTests := true, laidLooks := .later }
def ScanLikeCardSaid : Prop := Claim7.holds Tryz.pinned (.plain (OpenSpec.ofChange scanLikeSpec)) scanLikeCard

/-- THE TIED CARD OF 'decretallaw31.ScanSound'. -/
def scanSoundCard : Claim7 := { stood := { row := scanSoundRow, standIns := [], harness := (true, "8df3493db3fb72f535c77321997f520d5244c034d4e4c7a71f92c1318aa86af5"), looks := true }, kinds := [], alts := [], laidByText := true, laidKinds := [.data, .pinned], laidTests := true, laidLooks := .later }
def ScanSoundCardSaid : Prop := Claim7.holds Tryz.pinned (.plain (OpenSpec.ofChange scanSoundSpec)) scanSoundCard

/-- THE TIED CARD OF 'decretallaw31.ScanGaps'. -/
def scanGapsCard : Claim7 := { stood := { row := scanGapsRow, standIns := [], harness := (true, "8df3493db3fb72f535c77321997f520d5244c034d4e4c7a71f92c1318aa86af5"), looks := true }, kinds := [], alts := [], laidByText := true, laidKinds := [.data, .pinned], laidTests := true, laidLooks := .later }
def ScanGapsCardSaid : Prop := Claim7.holds Tryz.pinned (.plain (OpenSpec.ofChange scanGapsSpec)) scanGapsCard

/-- THE SECOND FORM's CARD OF 'decretallaw31.ScanTells'. -/
def scanTellsUptoCard : Claim7 := { stood := { row := scanTellsUptoRow, standIns := [], harness := (true, "8df3493db3fb72f535c77321997f520d5244c034d4e4c7a71f92c1318aa86af5"), looks := true }, kinds := [], alts := [], laidByText := true, laidKinds := [.data, .pinned], laidTests := true, laidLooks := .later }
def ScanTellsUptoCardSaid : Prop := Claim7.holds Tryz.pinned (.plain (OpenSpec.upto scanTellsSpec)) scanTellsUptoCard

/-- THE SECOND FORM's CARD OF 'decretallaw31.ScanPoints'. -/
def scanPointsUptoCard : Claim7 := { stood := { row := scanPointsUptoRow, standIns := [], harness := (true, "8df3493db3fb72f535c77321997f520d5244c034d4e4c7a71f92c1318aa86af5"), looks := true }, kinds := [], alts := [], laidByText := true, laidKinds := [.data, .pinned], laidTests := true, laidLooks := .later }
def ScanPointsUptoCardSaid : Prop := Claim7.holds Tryz.pinned (.plain (OpenSpec.upto scanPointsSpec)) scanPointsUptoCard

/-- THE SECOND FORM's CARD OF 'decretallaw31.ScanLike'. -/
def scanLikeUptoCard : Claim7 := { stood := { row := scanLikeUptoRow, standIns := [], harness := (true, "8df3493db3fb72f535c77321997f520d5244c034d4e4c7a71f92c1318aa86af5"), looks := true }, kinds := [], alts := [], laidByText := true, laidKinds := [.data, .pinned], laidTests := true, laidLooks := .later }
def ScanLikeUptoCardSaid : Prop := Claim7.holds Tryz.pinned (.plain (OpenSpec.upto scanLikeSpec)) scanLikeUptoCard

/-- THE SECOND FORM's CARD OF 'decretallaw31.ScanSound'. -/
def scanSoundUptoCard : Claim7 := { stood := { row := scanSoundUptoRow, standIns := [], harness := (true, "8df3493db3fb72f535c77321997f520d5244c034d4e4c7a71f92c1318aa86af5"), looks := true }, kinds := [], alts := [], laidByText := true, laidKinds := [.data, .pinned], laidTests := true, laidLooks := .later }
def ScanSoundUptoCardSaid : Prop := Claim7.holds Tryz.pinned (.plain (OpenSpec.upto scanSoundSpec)) scanSoundUptoCard

/-- THE SECOND FORM's CARD OF 'decretallaw31.ScanGaps'. -/
def scanGapsUptoCard : Claim7 := { stood := { row := scanGapsUptoRow, standIns := [], harness := (true, "8df3493db3fb72f535c77321997f520d5244c034d4e4c7a71f92c1318aa86af5"), looks := true }, kinds := [], alts := [], laidByText := true, laidKinds := [.data, .pinned], laidTests := true, laidLooks := .later }
def ScanGapsUptoCardSaid : Prop := Claim7.holds Tryz.pinned (.plain (OpenSpec.upto scanGapsSpec)) scanGapsUptoCard
end Rows
end Go.Proofs.YtbmmnalndollkaaGreatDoor
