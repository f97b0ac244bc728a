/- gameref.Ends -/
import Derived.Test.YtdfegpohmaideaaMvOut
import Derived.Test.YtdfegpohmaideaaMvMark
import Derived.Test.YtdfegpohmaideaaMvLined
import Derived.Test.YtdfegpohmaideaaMvEvery
import Derived.BigRegion
namespace Go.Proofs.Ytdfegpohmaideaa
open Go.RowKit

/-- the two last rows -/
def rowS (p : Pos) (n k : Nat) : ByteArray := if k = 0 then p.cells.extract (p.cells.size - n) p.cells.size else p.cells.extract 0 n
theorem rowS_eq {p : Pos} {n : Nat} (hn : p.w = n) (k : Nat) : (rowS p n k).data.toList = rowOf p (k : Int) := by
  rw [rowOf_eq hn]
  unfold rowS
  by_cases h : k = 0
  · rw [if_pos h, if_pos (by omega)]
  · rw [if_neg h, if_neg (by omega)]
theorem row_at {p : Pos} {w : World} {g n k : Nat} {t : TypeId} (h : Blk w g t #[.string (rowS p n 0), .string (rowS p n 1)]) (hk : k < 2) : w.cell? ⟨g, k, none⟩ = some (.string (rowS p n k)) := by
  match k, hk with
  | 0, _ => exact h.cellv rfl
  | 1, _ => exact h.cellv rfl
end Go.Proofs.Ytdfegpohmaideaa
