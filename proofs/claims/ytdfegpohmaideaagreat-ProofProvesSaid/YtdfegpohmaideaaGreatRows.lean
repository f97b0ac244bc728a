/-
  NARROWER THAN 'FOR EVERY INPUT', by the rows' own cells (each row's printed sentence says how): ProofProves: loops.
  DERIVED. THE GIVEN ROWS OF THIS SEAT. 5 by the template 'for every input the law returns true; each argument reads behind the call as it read before'; 0 by the template 'total and deterministic' (their statements: YtdfegpohmaideaaGreatTotals.lean).
  GIVEN WITH THE SEED: the statements are not yours to turn. If you find one false, say at which input.
  Laid BY PROGRAM, IN A SANDBOX (cutbox-rows.mjs): the forced cells as the released guide's own fill.sh prints them over the translation 95aec46f9ce951e8… (all of the seat's roots in one cut). By AI agents, Wed Nov 11 2026. No macro, syntax, notation, axiom, sorry.
-/
import Derived.Test.YtdfegpohmaideaaGreatChecked
import GoSem.Claim
import GoSem.ClaimJoined
import GoSem.ClaimMapViews
import Derived.JoinedTies
import Derived.KernelRfl
namespace Go.Proofs.YtdfegpohmaideaaGreat
/- THE CELL 'sum', in the pinned program and in every row, IS THE sha256 OF THE DUMP (.gsa) THAT YtdfegpohmaideaaGreatProg.lean LOADS. Nothing in Lean hashes anything: it is a label: what it is worth is what the hold of that sum in a sandbox is worth. -/
noncomputable def Tryz.pinned : Pinned := { name := "ytdfegpohmaideaagreat", sum := "95aec46f9ce951e88d372e034850e7941aa78282714161114731a79cdb6d70e1", checked := Tryz.checked }
namespace Rows
def none {H : Type} : Left H := { results := [], args := [] }

/-- 'gamelaw.MovesAll': WHATEVER THE INPUT: true; the input reads as it did. -/
def movesAllSpec : ChangeSpec := { name := "movesAll", fn := fun _ => fun
  | [d1, d2, d3] => { results := [.lit (.bool true)], args := [d1, d2, d3] }
  | _ => none }
def movesAllRow : OpenClaim := { program := "ytdfegpohmaideaagreat", sum := "95aec46f9ce951e88d372e034850e7941aa78282714161114731a79cdb6d70e1", func := "parlour/gamelaw.MovesAll", spec := "movesAll", inPlace := ["internal/bytealg.IndexByteString", "internal/bytealg.IndexString"], unfollowed := true, recurses := true, named := ["internal/bytealg.MaxLen"], plainKeys := false, apart := false }
def MovesAllSaid : Prop := movesAllRow.holds Tryz.pinned (OpenSpec.ofChange movesAllSpec)

/-- ITS FALSE NEIGHBOUR: 'it returns false'. Refute it at one input. -/
def movesAllWrong : ChangeSpec := { name := "movesAll", fn := fun _ => fun
  | [d1, d2, d3] => { results := [.lit (.bool false)], args := [d1, d2, d3] }
  | _ => none }
def MovesAllWrongFalsely : Prop := movesAllRow.holds Tryz.pinned (OpenSpec.ofChange movesAllWrong)

/-- 'gamelaw.TableBest': WHATEVER THE INPUT: true; the input reads as it did. -/
def tableBestSpec : ChangeSpec := { name := "tableBest", fn := fun _ => fun
  | [d1, d2, d3] => { results := [.lit (.bool true)], args := [d1, d2, d3] }
  | _ => none }
def tableBestRow : OpenClaim := { program := "ytdfegpohmaideaagreat", sum := "95aec46f9ce951e88d372e034850e7941aa78282714161114731a79cdb6d70e1", func := "parlour/gamelaw.TableBest", spec := "tableBest", inPlace := ["internal/bytealg.IndexByteString", "internal/bytealg.IndexString"], unfollowed := true, recurses := true, named := ["internal/bytealg.MaxLen"], plainKeys := false, apart := false }
def TableBestSaid : Prop := tableBestRow.holds Tryz.pinned (OpenSpec.ofChange tableBestSpec)

/-- ITS FALSE NEIGHBOUR: 'it returns false'. Refute it at one input. -/
def tableBestWrong : ChangeSpec := { name := "tableBest", fn := fun _ => fun
  | [d1, d2, d3] => { results := [.lit (.bool false)], args := [d1, d2, d3] }
  | _ => none }
def TableBestWrongFalsely : Prop := tableBestRow.holds Tryz.pinned (OpenSpec.ofChange tableBestWrong)

/-- 'gamekeep.TableTrue': WHATEVER THE INPUT: true; the input reads as it did. -/
def tableTrueSpec : ChangeSpec := { name := "tableTrue", fn := fun _ => fun
  | [d1, d2] => { results := [.lit (.bool true)], args := [d1, d2] }
  | _ => none }
def tableTrueRow : OpenClaim := { program := "ytdfegpohmaideaagreat", sum := "95aec46f9ce951e88d372e034850e7941aa78282714161114731a79cdb6d70e1", func := "parlour/gamekeep.TableTrue", spec := "tableTrue", inPlace := ["internal/bytealg.IndexByteString", "internal/bytealg.abigen_runtime_cmpstring"], unfollowed := true, recurses := true, plainKeys := false, apart := false }
def TableTrueSaid : Prop := tableTrueRow.holds Tryz.pinned (OpenSpec.ofChange tableTrueSpec)

/-- ITS FALSE NEIGHBOUR: 'it returns false'. Refute it at one input. -/
def tableTrueWrong : ChangeSpec := { name := "tableTrue", fn := fun _ => fun
  | [d1, d2] => { results := [.lit (.bool false)], args := [d1, d2] }
  | _ => none }
def TableTrueWrongFalsely : Prop := tableTrueRow.holds Tryz.pinned (OpenSpec.ofChange tableTrueWrong)

/-- 'gamelaw.ProofProves': WHATEVER THE INPUT: true; the input reads as it did. -/
def proofProvesSpec : ChangeSpec := { name := "proofProves", fn := fun _ => fun
  | [d1, d2, d3, d4] => { results := [.lit (.bool true)], args := [d1, d2, d3, d4] }
  | _ => none }
def proofProvesRow : OpenClaim := { program := "ytdfegpohmaideaagreat", sum := "95aec46f9ce951e88d372e034850e7941aa78282714161114731a79cdb6d70e1", func := "parlour/gamelaw.ProofProves", spec := "proofProves", inPlace := ["internal/bytealg.IndexByteString", "internal/bytealg.IndexString"], unfollowed := true, recurses := true, named := ["internal/bytealg.MaxLen"], loops := true, plainKeys := false, apart := false }
def ProofProvesSaid : Prop := proofProvesRow.holds Tryz.pinned (OpenSpec.ofChange proofProvesSpec)

/-- ITS FALSE NEIGHBOUR: 'it returns false'. Refute it at one input. -/
def proofProvesWrong : ChangeSpec := { name := "proofProves", fn := fun _ => fun
  | [d1, d2, d3, d4] => { results := [.lit (.bool false)], args := [d1, d2, d3, d4] }
  | _ => none }
def ProofProvesWrongFalsely : Prop := proofProvesRow.holds Tryz.pinned (OpenSpec.ofChange proofProvesWrong)

/-- 'gamelaw.TableMakes': WHATEVER THE INPUT: true; the input reads as it did. -/
def tableMakesSpec : ChangeSpec := { name := "tableMakes", fn := fun _ => fun
  | [d1, d2] => { results := [.lit (.bool true)], args := [d1, d2] }
  | _ => none }
def tableMakesRow : OpenClaim := { program := "ytdfegpohmaideaagreat", sum := "95aec46f9ce951e88d372e034850e7941aa78282714161114731a79cdb6d70e1", func := "parlour/gamelaw.TableMakes", spec := "tableMakes", inPlace := ["internal/bytealg.IndexByteString", "internal/bytealg.abigen_runtime_cmpstring", "internal/bytealg.IndexString"], unfollowed := true, recurses := true, named := ["internal/bytealg.MaxLen"], plainKeys := false, apart := false }
def TableMakesSaid : Prop := tableMakesRow.holds Tryz.pinned (OpenSpec.ofChange tableMakesSpec)

/-- ITS FALSE NEIGHBOUR: 'it returns false'. Refute it at one input. -/
def tableMakesWrong : ChangeSpec := { name := "tableMakes", fn := fun _ => fun
  | [d1, d2] => { results := [.lit (.bool false)], args := [d1, d2] }
  | _ => none }
def TableMakesWrongFalsely : Prop := tableMakesRow.holds Tryz.pinned (OpenSpec.ofChange tableMakesWrong)

/- THE SECOND FORM. 'bulk': how many values and letters a reading holds, each counted each time it is reached (what is shared counts as often as it is met; a slice's spare places count too). A statement '..UptoSaid' is the law's where the arguments, and the package variables that the reading takes, are together of bulk at most 1048576: NARROWER than '..Said'. Prove '..Said' where nothing that the law and all that it calls make is longer than what came in: it says more and counts as full. Else prove '..UptoSaid'. A law counts once. -/
mutual
def uptoBulk {H : Type} : DataW H → Nat
  | .lit (.string bytes) => bytes.length + 1
  | .lit _ => 1
  | .nil => 1
  | .ptr d => uptoBulk d + 1
  | .slice elems spare => uptoBulkAll elems + uptoBulkAll spare + 1
  | .agg parts => uptoBulkAll parts + 1
  | .iface _ d => uptoBulk d + 1
  | .map entries => uptoBulkEntries entries + 1
  | .held _ => 1
def uptoBulkAll {H : Type} : List (DataW H) → Nat
  | [] => 0
  | d :: r => uptoBulk d + uptoBulkAll r
def uptoBulkEntries {H : Type} : List (Lit × DataW H) → Nat
  | [] => 0
  | x :: r => uptoBulkEntry x + uptoBulkEntries r
def uptoBulkEntry {H : Type} : Lit × DataW H → Nat
  | (.string bytes, d) => bytes.length + uptoBulk d + 1
  | (_, d) => uptoBulk d + 1
 end
def uptoSmall : (H : Type) → List (DataW H) → Bool := fun _ ds => decide (uptoBulkAll ds ≤ 1048576)
def OpenSpec.upto (s : _root_.Go.ChangeSpec) : _root_.Go.OpenSpec := { _root_.Go.OpenSpec.ofChange s with cond := some uptoSmall }

/-- 'gamelaw.MovesAll', WHERE WHAT IT READS IS OF BULK AT MOST 1048576: true; the input reads as it did. -/
def movesAllUptoRow : OpenClaim := { program := "ytdfegpohmaideaagreat", sum := "95aec46f9ce951e88d372e034850e7941aa78282714161114731a79cdb6d70e1", func := "parlour/gamelaw.MovesAll", spec := "movesAll", inPlace := ["internal/bytealg.IndexByteString", "internal/bytealg.IndexString"], unfollowed := true, recurses := true, named := ["internal/bytealg.MaxLen"], plainKeys := false, apart := false, narrowed := true }
def MovesAllUptoSaid : Prop := movesAllUptoRow.holds Tryz.pinned (OpenSpec.upto movesAllSpec)

/-- 'gamelaw.TableBest', WHERE WHAT IT READS IS OF BULK AT MOST 1048576: true; the input reads as it did. -/
def tableBestUptoRow : OpenClaim := { program := "ytdfegpohmaideaagreat", sum := "95aec46f9ce951e88d372e034850e7941aa78282714161114731a79cdb6d70e1", func := "parlour/gamelaw.TableBest", spec := "tableBest", inPlace := ["internal/bytealg.IndexByteString", "internal/bytealg.IndexString"], unfollowed := true, recurses := true, named := ["internal/bytealg.MaxLen"], plainKeys := false, apart := false, narrowed := true }
def TableBestUptoSaid : Prop := tableBestUptoRow.holds Tryz.pinned (OpenSpec.upto tableBestSpec)

/-- 'gamekeep.TableTrue', WHERE WHAT IT READS IS OF BULK AT MOST 1048576: true; the input reads as it did. -/
def tableTrueUptoRow : OpenClaim := { program := "ytdfegpohmaideaagreat", sum := "95aec46f9ce951e88d372e034850e7941aa78282714161114731a79cdb6d70e1", func := "parlour/gamekeep.TableTrue", spec := "tableTrue", inPlace := ["internal/bytealg.IndexByteString", "internal/bytealg.abigen_runtime_cmpstring"], unfollowed := true, recurses := true, plainKeys := false, apart := false, narrowed := true }
def TableTrueUptoSaid : Prop := tableTrueUptoRow.holds Tryz.pinned (OpenSpec.upto tableTrueSpec)

/-- 'gamelaw.ProofProves', WHERE WHAT IT READS IS OF BULK AT MOST 1048576: true; the input reads as it did. -/
def proofProvesUptoRow : OpenClaim := { program := "ytdfegpohmaideaagreat", sum := "95aec46f9ce951e88d372e034850e7941aa78282714161114731a79cdb6d70e1", func := "parlour/gamelaw.ProofProves", spec := "proofProves", inPlace := ["internal/bytealg.IndexByteString", "internal/bytealg.IndexString"], unfollowed := true, recurses := true, named := ["internal/bytealg.MaxLen"], loops := true, plainKeys := false, apart := false, narrowed := true }
def ProofProvesUptoSaid : Prop := proofProvesUptoRow.holds Tryz.pinned (OpenSpec.upto proofProvesSpec)

/-- 'gamelaw.TableMakes', WHERE WHAT IT READS IS OF BULK AT MOST 1048576: true; the input reads as it did. -/
def tableMakesUptoRow : OpenClaim := { program := "ytdfegpohmaideaagreat", sum := "95aec46f9ce951e88d372e034850e7941aa78282714161114731a79cdb6d70e1", func := "parlour/gamelaw.TableMakes", spec := "tableMakes", inPlace := ["internal/bytealg.IndexByteString", "internal/bytealg.abigen_runtime_cmpstring", "internal/bytealg.IndexString"], unfollowed := true, recurses := true, named := ["internal/bytealg.MaxLen"], plainKeys := false, apart := false, narrowed := true }
def TableMakesUptoSaid : Prop := tableMakesUptoRow.holds Tryz.pinned (OpenSpec.upto tableMakesSpec)

end Rows
end Go.Proofs.YtdfegpohmaideaaGreat
