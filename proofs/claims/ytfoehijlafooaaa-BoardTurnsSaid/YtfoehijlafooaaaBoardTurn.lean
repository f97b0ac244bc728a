/- board.Turned, of anything -/
import Derived.Test.YtfoehijlafooaaaBoardTurnA
import Derived.Test.YtfoehijlafooaaaBoardTurnB
namespace Go.Proofs.Ytfoehijlafooaaa
open Go.RowKit

theorem turned_in (w h : Nat) (t : Int) (c h0 h1 : ByteArray) (W : World) (hp : PosOk ⟨w, h, c, t, h0, h1⟩) (k : Nat) (hk : k < 8) :
    Calls Try.prog 18 #[.agg #[.int .i64 w, .int .i64 h, .string c, .int .i64 t, .string h0, .string h1], .int .i64 k] W fun e w' => e = .returned (.tuple #[posV (turnP ⟨w, h, c, t, h0, h1⟩ k), .int .i64 0]) ∧ Below W.heap.size W w' := by
  cases hs : sBit k
  · exact turned_false w h t c h0 h1 W hp k hk hs
  · exact turned_true w h t c h0 h1 W hp k hk hs
end Go.Proofs.Ytfoehijlafooaaa
