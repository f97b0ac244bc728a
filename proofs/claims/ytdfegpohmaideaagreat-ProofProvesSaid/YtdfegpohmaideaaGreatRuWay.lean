/- rules.way -/
import Derived.Test.YtdfegpohmaideaaGreatRuPiece
namespace Go.Proofs.YtdfegpohmaideaaGreat
open Go.RowKit

def wayB (w : WayD) : Bool := decide (WayOk w)
set_option maxHeartbeats 2000000 in
set_option maxRecDepth 20000 in
theorem way_any (k x y t : Int) (W : World) :
    Calls Tryz.prog 76 #[.agg #[.int .i64 k, .int .i64 x, .int .i64 y, .int .i64 t]] W fun e w' => e = .returned (.bool (wayB ⟨k, x, y, t⟩)) ∧ Later W w' := by
  have HR := hide (show ∀ (q : Int) (b : Bool), (b = true ↔ WayOk ⟨q, x, y, t⟩) → Ending.returned (.bool b) = .returned (.bool (wayB ⟨q, x, y, t⟩)) from fun q b h => by
    congr 2; rw [Bool.eq_iff_iff, h]; simp [wayB])
  go_enter Tryz.func76, Tryz.ntmps76
  go_wp2_with fail
  all_goals
    go_ret
    refine ⟨?_, Later.rfl.alloc _⟩
    refine HR.out _ _ ?_
    simp only [WayOk, decide_eq_true_eq, Bool.false_eq_true, false_iff]
    omega
end Go.Proofs.YtdfegpohmaideaaGreat
