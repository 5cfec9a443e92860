/-
  DERIVED. GIVEN WITH THE SEED: THE CARDS: each row of YtcdbgeefhpmjfaaGreatDoorRows.lean that lists a variable, with what it lists TIED to the program's text (the seventh form; the later family's looks); each row that meets fmt, with fmt's text TOLD by the authors' own Lean function (tested against real Go, not proved from fmt's source: count such statements apart). THE CARD IS WHAT COUNTS. Prove the row's statement (the work); the ties are given (YtcdbgeefhpmjfaaGreatDoorTie.lean); close each card by the builder's one call (the guide's Derived/Test/ToyasCard.lean, 'card_holds'). Laid BY PROGRAM, IN A SANDBOX (cutbox-door.mjs). By AI agents, Wed Nov 11 2026. No macro, syntax, notation, axiom, sorry.
-/
import Derived.Test.YtcdbgeefhpmjfaaGreatDoorRows
import GoSem.ClaimSeven
namespace Go.Proofs.YtcdbgeefhpmjfaaGreatDoor
namespace Rows

/-- THE TIED CARD OF 'decretallaw16.EvalAlike'. -/
def evalAlikeCard : Claim7 := { stood := { row := evalAlikeRow, standIns := [], harness := (true, "a277a1ddd75770dc586a2396baf9b27bd3548b1e8420fd7db7a09e6050ff6ce6"), looks := true }, kinds := [], alts := [], laidByText := true, laidKinds := [.data, .data, .data], laidTests := true, laidLooks := .later }
def EvalAlikeCardSaid : Prop := Claim7.holds Tryz.pinned (.plain (OpenSpec.ofChange evalAlikeSpec)) evalAlikeCard

/-- THE SECOND FORM's CARD OF 'decretallaw16.EvalAlike'. -/
def evalAlikeUptoCard : Claim7 := { stood := { row := evalAlikeUptoRow, standIns := [], harness := (true, "a277a1ddd75770dc586a2396baf9b27bd3548b1e8420fd7db7a09e6050ff6ce6"), looks := true }, kinds := [], alts := [], laidByText := true, laidKinds := [.data, .data, .data], laidTests := true, laidLooks := .later }
def EvalAlikeUptoCardSaid : Prop := Claim7.holds Tryz.pinned (.plain (OpenSpec.upto evalAlikeSpec)) evalAlikeUptoCard
end Rows
end Go.Proofs.YtcdbgeefhpmjfaaGreatDoor
