/- gameref.lined -/
import Derived.Test.YtdfegpohmaideaaMvHas
import Derived.Test.YtdfegpohmaideaaLinPlain
namespace Go.Proofs.Ytdfegpohmaideaa
open Go.RowKit

theorem own_eq {c : Nat} {pl : Int} (h : pl = 0 ∨ pl = 1) : (ownN c == pl) = mineB c pl := by
  rw [Bool.eq_iff_iff, beq_iff_eq]
  exact own_mine h
end Go.Proofs.Ytdfegpohmaideaa
