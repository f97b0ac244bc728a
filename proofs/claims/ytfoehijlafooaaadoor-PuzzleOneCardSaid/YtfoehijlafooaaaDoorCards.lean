/-
  DERIVED. GIVEN WITH THE SEED: THE CARDS: each row of YtfoehijlafooaaaDoorRows.lean that lists a variable, with what it lists TIED to the program's text (the seventh form; the later family's looks); each row that meets fmt, with fmt's text TOLD by the authors' own Lean function (tested against real Go, not proved from fmt's source: count such statements apart). THE CARD IS WHAT COUNTS. Prove the row's statement (the work); the ties are given (YtfoehijlafooaaaDoorTie.lean); close each card by the builder's one call (the guide's Derived/Test/ToyasCard.lean, 'card_holds'). Laid BY PROGRAM, IN A SANDBOX (cutbox-door.mjs). By AI agents, Wed Nov 11 2026. No macro, syntax, notation, axiom, sorry.
-/
import Derived.Test.YtfoehijlafooaaaDoorRows
import GoSem.ClaimSeven
namespace Go.Proofs.YtfoehijlafooaaaDoor
namespace Rows

/-- THE TIED CARD OF 'gamelaw.PuzzleSolves'. -/
def puzzleSolvesCard : Claim7 := { stood := { row := puzzleSolvesRow, standIns := [], harness := (true, "f1596b5f35806c86eb977e626336a7fb5ed4fd88fe37a7ab71483e1aaf025d39"), looks := false }, kinds := [], alts := [], laidByText := true, laidKinds := [.data, .data], laidTests := true, laidLooks := .later }
def PuzzleSolvesCardSaid : Prop := Claim7.holds Tryd.pinned (.plain (OpenSpec.ofChange puzzleSolvesSpec)) puzzleSolvesCard

/-- THE TIED CARD OF 'gamelaw.PuzzleMakes'. -/
def puzzleMakesCard : Claim7 := { stood := { row := puzzleMakesRow, standIns := [], harness := (true, "f1596b5f35806c86eb977e626336a7fb5ed4fd88fe37a7ab71483e1aaf025d39"), looks := false }, kinds := [], alts := [], laidByText := true, laidKinds := [.data, .data], laidTests := true, laidLooks := .later }
def PuzzleMakesCardSaid : Prop := Claim7.holds Tryd.pinned (.plain (OpenSpec.ofChange puzzleMakesSpec)) puzzleMakesCard

/-- THE TIED CARD OF 'gamekeep.PuzzleOne'. -/
def puzzleOneCard : Claim7 := { stood := { row := puzzleOneRow, standIns := [], harness := (true, "f1596b5f35806c86eb977e626336a7fb5ed4fd88fe37a7ab71483e1aaf025d39"), looks := false }, kinds := [], alts := [], laidByText := true, laidKinds := [.data, .data], laidTests := true, laidLooks := .later }
def PuzzleOneCardSaid : Prop := Claim7.holds Tryd.pinned (.plain (OpenSpec.ofChange puzzleOneSpec)) puzzleOneCard

/-- THE SECOND FORM's CARD OF 'gamelaw.PuzzleSolves'. -/
def puzzleSolvesUptoCard : Claim7 := { stood := { row := puzzleSolvesUptoRow, standIns := [], harness := (true, "f1596b5f35806c86eb977e626336a7fb5ed4fd88fe37a7ab71483e1aaf025d39"), looks := false }, kinds := [], alts := [], laidByText := true, laidKinds := [.data, .data], laidTests := true, laidLooks := .later }
def PuzzleSolvesUptoCardSaid : Prop := Claim7.holds Tryd.pinned (.plain (OpenSpec.upto puzzleSolvesSpec)) puzzleSolvesUptoCard

/-- THE SECOND FORM's CARD OF 'gamelaw.PuzzleMakes'. -/
def puzzleMakesUptoCard : Claim7 := { stood := { row := puzzleMakesUptoRow, standIns := [], harness := (true, "f1596b5f35806c86eb977e626336a7fb5ed4fd88fe37a7ab71483e1aaf025d39"), looks := false }, kinds := [], alts := [], laidByText := true, laidKinds := [.data, .data], laidTests := true, laidLooks := .later }
def PuzzleMakesUptoCardSaid : Prop := Claim7.holds Tryd.pinned (.plain (OpenSpec.upto puzzleMakesSpec)) puzzleMakesUptoCard

/-- THE SECOND FORM's CARD OF 'gamekeep.PuzzleOne'. -/
def puzzleOneUptoCard : Claim7 := { stood := { row := puzzleOneUptoRow, standIns := [], harness := (true, "f1596b5f35806c86eb977e626336a7fb5ed4fd88fe37a7ab71483e1aaf025d39"), looks := false }, kinds := [], alts := [], laidByText := true, laidKinds := [.data, .data], laidTests := true, laidLooks := .later }
def PuzzleOneUptoCardSaid : Prop := Claim7.holds Tryd.pinned (.plain (OpenSpec.upto puzzleOneSpec)) puzzleOneUptoCard
end Rows
end Go.Proofs.YtfoehijlafooaaaDoor
