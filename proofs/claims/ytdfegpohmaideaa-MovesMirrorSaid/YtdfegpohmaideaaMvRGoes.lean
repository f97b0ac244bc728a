/- gameref.goes -/
import Derived.Test.YtdfegpohmaideaaGoesRef
import Derived.Test.YtdfegpohmaideaaMvHas
namespace Go.Proofs.Ytdfegpohmaideaa
open Go.RowKit

theorem Blk.four4 {w : World} {g : Nat} {t : TypeId} {v0 v1 v2 v3 : Value} (h : Blk w g t #[v0, v1, v2, v3]) : w.cell? ⟨g, 0, none⟩ = some v0 ∧ w.cell? ⟨g, 1, none⟩ = some v1 ∧ w.cell? ⟨g, 2, none⟩ = some v2 ∧ w.cell? ⟨g, 3, none⟩ = some v3 := ⟨h.cellv rfl, h.cellv rfl, h.cellv rfl, h.cellv rfl⟩
theorem absI_rng {n : Int} (h1 : -7 ≤ n) (h2 : n ≤ 7) : 0 ≤ absI n ∧ absI n ≤ 7 := by unfold absI; split <;> omega
theorem eqI {a b : Int} {v : Bool} (h : decide (a = b) = v) : (a == b) = v := by rw [← h, Bool.eq_iff_iff]; simp
end Go.Proofs.Ytdfegpohmaideaa
