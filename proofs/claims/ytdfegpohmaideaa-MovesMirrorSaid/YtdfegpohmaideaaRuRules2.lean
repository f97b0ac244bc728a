/- gameref.Rules: its loops -/
import Derived.Test.YtdfegpohmaideaaRuRules
namespace Go.Proofs.Ytdfegpohmaideaa
open Go.RowKit

theorem Blk.four {w : World} {g : Nat} {t : TypeId} {v0 v1 v2 v3 : Value} (h : Blk w g t #[v0, v1, v2, v3]) : w.cell? ⟨g, 0, none⟩ = some v0 ∧ w.cell? ⟨g, 1, none⟩ = some v1 ∧ w.cell? ⟨g, 2, none⟩ = some v2 ∧ w.cell? ⟨g, 3, none⟩ = some v3 := ⟨h.cellv rfl, h.cellv rfl, h.cellv rfl, h.cellv rfl⟩
end Go.Proofs.Ytdfegpohmaideaa
