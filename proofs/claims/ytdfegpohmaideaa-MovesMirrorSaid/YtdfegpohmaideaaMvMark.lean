/- gameref.mark, and a mark that a text contains -/
import Derived.Test.YtdfegpohmaideaaMvReach
import Derived.Laws.IdiomStrings
namespace Go.Proofs.Ytdfegpohmaideaa
open Go.RowKit

theorem letN_add {c : Nat} (h : upB c = true) : IntKind.u8.wrap ((c : Int) + 32) = ((c + 32 : Nat) : Int) := by
  have := upB_lt h
  rw [show (c : Int) + 32 = ((c + 32 : Nat) : Int) by omega]
  exact IntWalk.u8_in _ (by omega)
theorem conv_one (q : Nat) (hq : q < 256) (w : World) : (convert 55 9 (.slice (some ⟨w.heap.size, 0, none⟩) 1 1)).run Try.prog (w.alloc (.cells #[.int .u8 q] 5)) = .ok (.string (bytes [u8 q])) (w.alloc (.cells #[.int .u8 q] 5)) := by
  have h := run_convert_bytes_back (P := Try.prog) (w.alloc (.cells #[.int .u8 q] 5)) 55 9 5 ⟨w.heap.size, 0, none⟩ 1 [u8 q] Try.underlying55 Try.underlying5 Try.underlying9 (fun j hj => by
    have hj0 : j = 0 := by simpa using hj
    subst hj0
    rw [Addr.add_lit, (Blk.new w 5 #[.int .u8 q]).cell]
    simp [u8_nat hq])
  exact h
end Go.Proofs.Ytdfegpohmaideaa
