/- gamelaw.BoardTurns, of anything -/
import Derived.Test.YtfoehijlafooaaaBtBad
import Derived.Test.YtfoehijlafooaaaBtInOk
import Derived.Test.YtfoehijlafooaaaBtInNo
import Derived.Test.YtfoehijlafooaaaBtOutOk
import Derived.Test.YtfoehijlafooaaaBtOutNo
namespace Go.Proofs.Ytfoehijlafooaaa
open Go.RowKit

theorem bt_any (w h t k : Int) (c h0 h1 : ByteArray) (A : Option Addr) (cA : Nat) (ls : List Int) (W : World) (hc9 : c.size ≤ 9223372036854775807) (l0 : h0.size ≤ 9223372036854775807) (l1 : h1.size ≤ 9223372036854775807) (hl : ls.length ≤ 9223372036854775807) (hA : Cells W W.heap.size A (ints ls)) :
    Calls Try.prog 6 #[.agg #[.int .i64 w, .int .i64 h, .string c, .int .i64 t, .string h0, .string h1], .int .i64 k, .slice A ls.length cA] W fun e w' => e = .returned (.bool true) ∧ Below W.heap.size W w' := by
  by_cases hp : PosOk ⟨w, h, c, t, h0, h1⟩
  · by_cases hk : 0 ≤ k ∧ k ≤ 7
    · obtain ⟨n, rfl⟩ : ∃ n : Nat, k = n := ⟨k.toNat, by omega⟩
      by_cases hls : ls ≠ [] ∧ ∀ k ∈ ls, 0 ≤ k ∧ k ≤ 7
      · exact bt_in_ok w h t c h0 h1 n (by omega) A cA ls W hc9 l0 l1 hl hA hp hls
      · exact bt_in_no w h t c h0 h1 n (by omega) A cA ls W hc9 l0 l1 hl hA hp hls
    · by_cases hls : ls ≠ [] ∧ ∀ k ∈ ls, 0 ≤ k ∧ k ≤ 7
      · exact bt_out_ok w h t c h0 h1 k hk A cA ls W hc9 l0 l1 hl hA hp hls
      · exact bt_out_no w h t c h0 h1 k hk A cA ls W hc9 l0 l1 hl hA hp hls
  · exact bt_bad w h t k c h0 h1 A cA ls W hc9 l0 l1 hl hA hp
end Go.Proofs.Ytfoehijlafooaaa
