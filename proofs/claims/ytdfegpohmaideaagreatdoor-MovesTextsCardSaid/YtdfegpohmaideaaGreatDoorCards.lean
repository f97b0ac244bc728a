/-
  DERIVED. GIVEN WITH THE SEED: THE CARDS: each row of YtdfegpohmaideaaGreatDoorRows.lean that lists a variable, with what it lists TIED to the program's text (the seventh form; the later family's looks); each row that meets fmt, with fmt's text TOLD by the authors' own Lean function (tested against real Go, not proved from fmt's source: count such statements apart). THE CARD IS WHAT COUNTS. Prove the row's statement (the work); the ties are given (YtdfegpohmaideaaGreatDoorTie.lean); close each card by the builder's one call (the guide's Derived/Test/ToyasCard.lean, 'card_holds'). Laid BY PROGRAM, IN A SANDBOX (cutbox-door.mjs). By AI agents, Wed Nov 11 2026. No macro, syntax, notation, axiom, sorry.
-/
import Derived.Test.YtdfegpohmaideaaGreatDoorRows
import GoSem.ClaimSeven
namespace Go.Proofs.YtdfegpohmaideaaGreatDoor
namespace Rows

/-- THE TIED CARD OF 'gamelaw.MovesTexts'. -/
def movesTextsCard : Claim7 := { stood := { row := movesTextsRow, standIns := [], harness := (true, "ff6b6454bfbe956bfcaacecb100cd40ee450ce1d71fd6524387d021b02f0c622"), looks := false }, kinds := [], alts := [], laidByText := true, laidKinds := [.data, .data, .data], laidTests := true, laidLooks := .later }
def MovesTextsCardSaid : Prop := Claim7.holds Tryz.pinned (.plain (OpenSpec.ofChange movesTextsSpec)) movesTextsCard

/-- THE SECOND FORM's CARD OF 'gamelaw.MovesTexts'. -/
def movesTextsUptoCard : Claim7 := { stood := { row := movesTextsUptoRow, standIns := [], harness := (true, "ff6b6454bfbe956bfcaacecb100cd40ee450ce1d71fd6524387d021b02f0c622"), looks := false }, kinds := [], alts := [], laidByText := true, laidKinds := [.data, .data, .data], laidTests := true, laidLooks := .later }
def MovesTextsUptoCardSaid : Prop := Claim7.holds Tryz.pinned (.plain (OpenSpec.upto movesTextsSpec)) movesTextsUptoCard
end Rows
end Go.Proofs.YtdfegpohmaideaaGreatDoor
