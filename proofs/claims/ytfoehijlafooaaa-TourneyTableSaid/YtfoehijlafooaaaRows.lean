/-
  No cell of these rows narrows 'for every input' (looked for: loops, veiled, ifaces, maps, wideKeys, modest, calm, conditions, laid).
  DERIVED. THE GIVEN ROWS OF THIS SEAT. 10 by the template 'for every input the law returns true; each argument reads behind the call as it read before'; 0 by the template 'total and deterministic' (their statements: YtfoehijlafooaaaTotals.lean).
  GIVEN WITH THE SEED: the statements are not yours to turn. If you find one false, say at which input.
  Laid BY PROGRAM, IN A SANDBOX (cutbox-rows.mjs): the forced cells as the released guide's own fill.sh prints them over the translation e6b6006b73770146… (all of the seat's roots in one cut). By AI agents, Wed Nov 11 2026. No macro, syntax, notation, axiom, sorry.
-/
import Derived.Test.YtfoehijlafooaaaChecked
import GoSem.Claim
import GoSem.ClaimJoined
import GoSem.ClaimMapViews
import Derived.JoinedTies
import Derived.KernelRfl
namespace Go.Proofs.Ytfoehijlafooaaa
/- THE CELL 'sum', in the pinned program and in every row, IS THE sha256 OF THE DUMP (.gsa) THAT YtfoehijlafooaaaProg.lean LOADS. Nothing in Lean hashes anything: it is a label: what it is worth is what the hold of that sum in a sandbox is worth. -/
noncomputable def Try.pinned : Pinned := { name := "ytfoehijlafooaaa", sum := "e6b6006b737701464f32e5bb620b4adb15cea6e0227c1962ab7473fc455ff295", checked := Try.checked }
namespace Rows
def none {H : Type} : Left H := { results := [], args := [] }

/-- 'gamelaw.Names': WHATEVER THE INPUT: true; the input reads as it did. -/
def namesSpec : ChangeSpec := { name := "names", fn := fun _ => fun
  | [] => { results := [.lit (.bool true)], args := [] }
  | _ => none }
def namesRow : OpenClaim := { program := "ytfoehijlafooaaa", sum := "e6b6006b737701464f32e5bb620b4adb15cea6e0227c1962ab7473fc455ff295", func := "parlour/gamelaw.Names", spec := "names", plainKeys := false, apart := false }
def NamesSaid : Prop := namesRow.holds Try.pinned (OpenSpec.ofChange namesSpec)

/-- ITS FALSE NEIGHBOUR: 'it returns false'. Refute it at one input. -/
def namesWrong : ChangeSpec := { name := "names", fn := fun _ => fun
  | [] => { results := [.lit (.bool false)], args := [] }
  | _ => none }
def NamesWrongFalsely : Prop := namesRow.holds Try.pinned (OpenSpec.ofChange namesWrong)

/-- 'gamelaw.NimGraphs': WHATEVER THE INPUT: true; the input reads as it did. -/
def nimGraphsSpec : ChangeSpec := { name := "nimGraphs", fn := fun _ => fun
  | [d1, d2] => { results := [.lit (.bool true)], args := [d1, d2] }
  | _ => none }
def nimGraphsRow : OpenClaim := { program := "ytfoehijlafooaaa", sum := "e6b6006b737701464f32e5bb620b4adb15cea6e0227c1962ab7473fc455ff295", func := "parlour/gamelaw.NimGraphs", spec := "nimGraphs", unfollowed := true, recurses := true, plainKeys := false, apart := false }
def NimGraphsSaid : Prop := nimGraphsRow.holds Try.pinned (OpenSpec.ofChange nimGraphsSpec)

/-- ITS FALSE NEIGHBOUR: 'it returns false'. Refute it at one input. -/
def nimGraphsWrong : ChangeSpec := { name := "nimGraphs", fn := fun _ => fun
  | [d1, d2] => { results := [.lit (.bool false)], args := [d1, d2] }
  | _ => none }
def NimGraphsWrongFalsely : Prop := nimGraphsRow.holds Try.pinned (OpenSpec.ofChange nimGraphsWrong)

/-- 'gamekeep.NimSum': WHATEVER THE INPUT: true; the input reads as it did. -/
def nimSumSpec : ChangeSpec := { name := "nimSum", fn := fun _ => fun
  | [d1, d2] => { results := [.lit (.bool true)], args := [d1, d2] }
  | _ => none }
def nimSumRow : OpenClaim := { program := "ytfoehijlafooaaa", sum := "e6b6006b737701464f32e5bb620b4adb15cea6e0227c1962ab7473fc455ff295", func := "parlour/gamekeep.NimSum", spec := "nimSum", unfollowed := true, recurses := true, plainKeys := false, apart := false }
def NimSumSaid : Prop := nimSumRow.holds Try.pinned (OpenSpec.ofChange nimSumSpec)

/-- ITS FALSE NEIGHBOUR: 'it returns false'. Refute it at one input. -/
def nimSumWrong : ChangeSpec := { name := "nimSum", fn := fun _ => fun
  | [d1, d2] => { results := [.lit (.bool false)], args := [d1, d2] }
  | _ => none }
def NimSumWrongFalsely : Prop := nimSumRow.holds Try.pinned (OpenSpec.ofChange nimSumWrong)

/-- 'gamelaw.BoardTurns': WHATEVER THE INPUT: true; the input reads as it did. -/
def boardTurnsSpec : ChangeSpec := { name := "boardTurns", fn := fun _ => fun
  | [d1, d2, d3] => { results := [.lit (.bool true)], args := [d1, d2, d3] }
  | _ => none }
def boardTurnsRow : OpenClaim := { program := "ytfoehijlafooaaa", sum := "e6b6006b737701464f32e5bb620b4adb15cea6e0227c1962ab7473fc455ff295", func := "parlour/gamelaw.BoardTurns", spec := "boardTurns", inPlace := ["internal/bytealg.abigen_runtime_cmpstring"], unfollowed := true, recurses := true, plainKeys := false, apart := false }
def BoardTurnsSaid : Prop := boardTurnsRow.holds Try.pinned (OpenSpec.ofChange boardTurnsSpec)

/-- ITS FALSE NEIGHBOUR: 'it returns false'. Refute it at one input. -/
def boardTurnsWrong : ChangeSpec := { name := "boardTurns", fn := fun _ => fun
  | [d1, d2, d3] => { results := [.lit (.bool false)], args := [d1, d2, d3] }
  | _ => none }
def BoardTurnsWrongFalsely : Prop := boardTurnsRow.holds Try.pinned (OpenSpec.ofChange boardTurnsWrong)

/-- 'gamekeep.BoardGroup': WHATEVER THE INPUT: true; the input reads as it did. -/
def boardGroupSpec : ChangeSpec := { name := "boardGroup", fn := fun _ => fun
  | [d1, d2, d3] => { results := [.lit (.bool true)], args := [d1, d2, d3] }
  | _ => none }
def boardGroupRow : OpenClaim := { program := "ytfoehijlafooaaa", sum := "e6b6006b737701464f32e5bb620b4adb15cea6e0227c1962ab7473fc455ff295", func := "parlour/gamekeep.BoardGroup", spec := "boardGroup", inPlace := ["internal/bytealg.abigen_runtime_cmpstring"], plainKeys := false, apart := false }
def BoardGroupSaid : Prop := boardGroupRow.holds Try.pinned (OpenSpec.ofChange boardGroupSpec)

/-- ITS FALSE NEIGHBOUR: 'it returns false'. Refute it at one input. -/
def boardGroupWrong : ChangeSpec := { name := "boardGroup", fn := fun _ => fun
  | [d1, d2, d3] => { results := [.lit (.bool false)], args := [d1, d2, d3] }
  | _ => none }
def BoardGroupWrongFalsely : Prop := boardGroupRow.holds Try.pinned (OpenSpec.ofChange boardGroupWrong)

/-- 'gamelaw.NimGrundy': WHATEVER THE INPUT: true; the input reads as it did. -/
def nimGrundySpec : ChangeSpec := { name := "nimGrundy", fn := fun _ => fun
  | [d1, d2, d3] => { results := [.lit (.bool true)], args := [d1, d2, d3] }
  | _ => none }
def nimGrundyRow : OpenClaim := { program := "ytfoehijlafooaaa", sum := "e6b6006b737701464f32e5bb620b4adb15cea6e0227c1962ab7473fc455ff295", func := "parlour/gamelaw.NimGrundy", spec := "nimGrundy", unfollowed := true, recurses := true, plainKeys := false, apart := false }
def NimGrundySaid : Prop := nimGrundyRow.holds Try.pinned (OpenSpec.ofChange nimGrundySpec)

/-- ITS FALSE NEIGHBOUR: 'it returns false'. Refute it at one input. -/
def nimGrundyWrong : ChangeSpec := { name := "nimGrundy", fn := fun _ => fun
  | [d1, d2, d3] => { results := [.lit (.bool false)], args := [d1, d2, d3] }
  | _ => none }
def NimGrundyWrongFalsely : Prop := nimGrundyRow.holds Try.pinned (OpenSpec.ofChange nimGrundyWrong)

/-- 'gamekeep.NimTrue': WHATEVER THE INPUT: true; the input reads as it did. -/
def nimTrueSpec : ChangeSpec := { name := "nimTrue", fn := fun _ => fun
  | [d1, d2] => { results := [.lit (.bool true)], args := [d1, d2] }
  | _ => none }
def nimTrueRow : OpenClaim := { program := "ytfoehijlafooaaa", sum := "e6b6006b737701464f32e5bb620b4adb15cea6e0227c1962ab7473fc455ff295", func := "parlour/gamekeep.NimTrue", spec := "nimTrue", unfollowed := true, recurses := true, plainKeys := false, apart := false }
def NimTrueSaid : Prop := nimTrueRow.holds Try.pinned (OpenSpec.ofChange nimTrueSpec)

/-- ITS FALSE NEIGHBOUR: 'it returns false'. Refute it at one input. -/
def nimTrueWrong : ChangeSpec := { name := "nimTrue", fn := fun _ => fun
  | [d1, d2] => { results := [.lit (.bool false)], args := [d1, d2] }
  | _ => none }
def NimTrueWrongFalsely : Prop := nimTrueRow.holds Try.pinned (OpenSpec.ofChange nimTrueWrong)

/-- 'gamekeep.TourneyPairs': WHATEVER THE INPUT: true; the input reads as it did. -/
def tourneyPairsSpec : ChangeSpec := { name := "tourneyPairs", fn := fun _ => fun
  | [d1, d2] => { results := [.lit (.bool true)], args := [d1, d2] }
  | _ => none }
def tourneyPairsRow : OpenClaim := { program := "ytfoehijlafooaaa", sum := "e6b6006b737701464f32e5bb620b4adb15cea6e0227c1962ab7473fc455ff295", func := "parlour/gamekeep.TourneyPairs", spec := "tourneyPairs", unfollowed := true, recurses := true, plainKeys := false, apart := false }
def TourneyPairsSaid : Prop := tourneyPairsRow.holds Try.pinned (OpenSpec.ofChange tourneyPairsSpec)

/-- ITS FALSE NEIGHBOUR: 'it returns false'. Refute it at one input. -/
def tourneyPairsWrong : ChangeSpec := { name := "tourneyPairs", fn := fun _ => fun
  | [d1, d2] => { results := [.lit (.bool false)], args := [d1, d2] }
  | _ => none }
def TourneyPairsWrongFalsely : Prop := tourneyPairsRow.holds Try.pinned (OpenSpec.ofChange tourneyPairsWrong)

/-- 'gamekeep.TourneySums': WHATEVER THE INPUT: true; the input reads as it did. -/
def tourneySumsSpec : ChangeSpec := { name := "tourneySums", fn := fun _ => fun
  | [d1, d2, d3] => { results := [.lit (.bool true)], args := [d1, d2, d3] }
  | _ => none }
def tourneySumsRow : OpenClaim := { program := "ytfoehijlafooaaa", sum := "e6b6006b737701464f32e5bb620b4adb15cea6e0227c1962ab7473fc455ff295", func := "parlour/gamekeep.TourneySums", spec := "tourneySums", unfollowed := true, recurses := true, plainKeys := false, apart := false }
def TourneySumsSaid : Prop := tourneySumsRow.holds Try.pinned (OpenSpec.ofChange tourneySumsSpec)

/-- ITS FALSE NEIGHBOUR: 'it returns false'. Refute it at one input. -/
def tourneySumsWrong : ChangeSpec := { name := "tourneySums", fn := fun _ => fun
  | [d1, d2, d3] => { results := [.lit (.bool false)], args := [d1, d2, d3] }
  | _ => none }
def TourneySumsWrongFalsely : Prop := tourneySumsRow.holds Try.pinned (OpenSpec.ofChange tourneySumsWrong)

/-- 'gamelaw.TourneyTable': WHATEVER THE INPUT: true; the input reads as it did. -/
def tourneyTableSpec : ChangeSpec := { name := "tourneyTable", fn := fun _ => fun
  | [d1, d2, d3, d4] => { results := [.lit (.bool true)], args := [d1, d2, d3, d4] }
  | _ => none }
def tourneyTableRow : OpenClaim := { program := "ytfoehijlafooaaa", sum := "e6b6006b737701464f32e5bb620b4adb15cea6e0227c1962ab7473fc455ff295", func := "parlour/gamelaw.TourneyTable", spec := "tourneyTable", unfollowed := true, recurses := true, plainKeys := false, apart := false }
def TourneyTableSaid : Prop := tourneyTableRow.holds Try.pinned (OpenSpec.ofChange tourneyTableSpec)

/-- ITS FALSE NEIGHBOUR: 'it returns false'. Refute it at one input. -/
def tourneyTableWrong : ChangeSpec := { name := "tourneyTable", fn := fun _ => fun
  | [d1, d2, d3, d4] => { results := [.lit (.bool false)], args := [d1, d2, d3, d4] }
  | _ => none }
def TourneyTableWrongFalsely : Prop := tourneyTableRow.holds Try.pinned (OpenSpec.ofChange tourneyTableWrong)

/- THE SECOND FORM. 'bulk': how many values and letters a reading holds, each counted each time it is reached (what is shared counts as often as it is met; a slice's spare places count too). A statement '..UptoSaid' is the law's where the arguments, and the package variables that the reading takes, are together of bulk at most 1048576: NARROWER than '..Said'. Prove '..Said' where nothing that the law and all that it calls make is longer than what came in: it says more and counts as full. Else prove '..UptoSaid'. A law counts once. -/
mutual
def uptoBulk {H : Type} : DataW H → Nat
  | .lit (.string bytes) => bytes.length + 1
  | .lit _ => 1
  | .nil => 1
  | .ptr d => uptoBulk d + 1
  | .slice elems spare => uptoBulkAll elems + uptoBulkAll spare + 1
  | .agg parts => uptoBulkAll parts + 1
  | .iface _ d => uptoBulk d + 1
  | .map entries => uptoBulkEntries entries + 1
  | .held _ => 1
def uptoBulkAll {H : Type} : List (DataW H) → Nat
  | [] => 0
  | d :: r => uptoBulk d + uptoBulkAll r
def uptoBulkEntries {H : Type} : List (Lit × DataW H) → Nat
  | [] => 0
  | x :: r => uptoBulkEntry x + uptoBulkEntries r
def uptoBulkEntry {H : Type} : Lit × DataW H → Nat
  | (.string bytes, d) => bytes.length + uptoBulk d + 1
  | (_, d) => uptoBulk d + 1
 end
def uptoSmall : (H : Type) → List (DataW H) → Bool := fun _ ds => decide (uptoBulkAll ds ≤ 1048576)
def OpenSpec.upto (s : _root_.Go.ChangeSpec) : _root_.Go.OpenSpec := { _root_.Go.OpenSpec.ofChange s with cond := some uptoSmall }

/-- 'gamelaw.Names', WHERE WHAT IT READS IS OF BULK AT MOST 1048576: true; the input reads as it did. -/
def namesUptoRow : OpenClaim := { program := "ytfoehijlafooaaa", sum := "e6b6006b737701464f32e5bb620b4adb15cea6e0227c1962ab7473fc455ff295", func := "parlour/gamelaw.Names", spec := "names", plainKeys := false, apart := false, narrowed := true }
def NamesUptoSaid : Prop := namesUptoRow.holds Try.pinned (OpenSpec.upto namesSpec)

/-- 'gamelaw.NimGraphs', WHERE WHAT IT READS IS OF BULK AT MOST 1048576: true; the input reads as it did. -/
def nimGraphsUptoRow : OpenClaim := { program := "ytfoehijlafooaaa", sum := "e6b6006b737701464f32e5bb620b4adb15cea6e0227c1962ab7473fc455ff295", func := "parlour/gamelaw.NimGraphs", spec := "nimGraphs", unfollowed := true, recurses := true, plainKeys := false, apart := false, narrowed := true }
def NimGraphsUptoSaid : Prop := nimGraphsUptoRow.holds Try.pinned (OpenSpec.upto nimGraphsSpec)

/-- 'gamekeep.NimSum', WHERE WHAT IT READS IS OF BULK AT MOST 1048576: true; the input reads as it did. -/
def nimSumUptoRow : OpenClaim := { program := "ytfoehijlafooaaa", sum := "e6b6006b737701464f32e5bb620b4adb15cea6e0227c1962ab7473fc455ff295", func := "parlour/gamekeep.NimSum", spec := "nimSum", unfollowed := true, recurses := true, plainKeys := false, apart := false, narrowed := true }
def NimSumUptoSaid : Prop := nimSumUptoRow.holds Try.pinned (OpenSpec.upto nimSumSpec)

/-- 'gamelaw.BoardTurns', WHERE WHAT IT READS IS OF BULK AT MOST 1048576: true; the input reads as it did. -/
def boardTurnsUptoRow : OpenClaim := { program := "ytfoehijlafooaaa", sum := "e6b6006b737701464f32e5bb620b4adb15cea6e0227c1962ab7473fc455ff295", func := "parlour/gamelaw.BoardTurns", spec := "boardTurns", inPlace := ["internal/bytealg.abigen_runtime_cmpstring"], unfollowed := true, recurses := true, plainKeys := false, apart := false, narrowed := true }
def BoardTurnsUptoSaid : Prop := boardTurnsUptoRow.holds Try.pinned (OpenSpec.upto boardTurnsSpec)

/-- 'gamekeep.BoardGroup', WHERE WHAT IT READS IS OF BULK AT MOST 1048576: true; the input reads as it did. -/
def boardGroupUptoRow : OpenClaim := { program := "ytfoehijlafooaaa", sum := "e6b6006b737701464f32e5bb620b4adb15cea6e0227c1962ab7473fc455ff295", func := "parlour/gamekeep.BoardGroup", spec := "boardGroup", inPlace := ["internal/bytealg.abigen_runtime_cmpstring"], plainKeys := false, apart := false, narrowed := true }
def BoardGroupUptoSaid : Prop := boardGroupUptoRow.holds Try.pinned (OpenSpec.upto boardGroupSpec)

/-- 'gamelaw.NimGrundy', WHERE WHAT IT READS IS OF BULK AT MOST 1048576: true; the input reads as it did. -/
def nimGrundyUptoRow : OpenClaim := { program := "ytfoehijlafooaaa", sum := "e6b6006b737701464f32e5bb620b4adb15cea6e0227c1962ab7473fc455ff295", func := "parlour/gamelaw.NimGrundy", spec := "nimGrundy", unfollowed := true, recurses := true, plainKeys := false, apart := false, narrowed := true }
def NimGrundyUptoSaid : Prop := nimGrundyUptoRow.holds Try.pinned (OpenSpec.upto nimGrundySpec)

/-- 'gamekeep.NimTrue', WHERE WHAT IT READS IS OF BULK AT MOST 1048576: true; the input reads as it did. -/
def nimTrueUptoRow : OpenClaim := { program := "ytfoehijlafooaaa", sum := "e6b6006b737701464f32e5bb620b4adb15cea6e0227c1962ab7473fc455ff295", func := "parlour/gamekeep.NimTrue", spec := "nimTrue", unfollowed := true, recurses := true, plainKeys := false, apart := false, narrowed := true }
def NimTrueUptoSaid : Prop := nimTrueUptoRow.holds Try.pinned (OpenSpec.upto nimTrueSpec)

/-- 'gamekeep.TourneyPairs', WHERE WHAT IT READS IS OF BULK AT MOST 1048576: true; the input reads as it did. -/
def tourneyPairsUptoRow : OpenClaim := { program := "ytfoehijlafooaaa", sum := "e6b6006b737701464f32e5bb620b4adb15cea6e0227c1962ab7473fc455ff295", func := "parlour/gamekeep.TourneyPairs", spec := "tourneyPairs", unfollowed := true, recurses := true, plainKeys := false, apart := false, narrowed := true }
def TourneyPairsUptoSaid : Prop := tourneyPairsUptoRow.holds Try.pinned (OpenSpec.upto tourneyPairsSpec)

/-- 'gamekeep.TourneySums', WHERE WHAT IT READS IS OF BULK AT MOST 1048576: true; the input reads as it did. -/
def tourneySumsUptoRow : OpenClaim := { program := "ytfoehijlafooaaa", sum := "e6b6006b737701464f32e5bb620b4adb15cea6e0227c1962ab7473fc455ff295", func := "parlour/gamekeep.TourneySums", spec := "tourneySums", unfollowed := true, recurses := true, plainKeys := false, apart := false, narrowed := true }
def TourneySumsUptoSaid : Prop := tourneySumsUptoRow.holds Try.pinned (OpenSpec.upto tourneySumsSpec)

/-- 'gamelaw.TourneyTable', WHERE WHAT IT READS IS OF BULK AT MOST 1048576: true; the input reads as it did. -/
def tourneyTableUptoRow : OpenClaim := { program := "ytfoehijlafooaaa", sum := "e6b6006b737701464f32e5bb620b4adb15cea6e0227c1962ab7473fc455ff295", func := "parlour/gamelaw.TourneyTable", spec := "tourneyTable", unfollowed := true, recurses := true, plainKeys := false, apart := false, narrowed := true }
def TourneyTableUptoSaid : Prop := tourneyTableUptoRow.holds Try.pinned (OpenSpec.upto tourneyTableSpec)

end Rows
end Go.Proofs.Ytfoehijlafooaaa
