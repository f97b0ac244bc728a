/- the clamp, case by case -/
import Derived.Test.YtfoehijlafooaaaFlRate
namespace Go.Proofs.Ytfoehijlafooaaa
open Go.RowKit Ieee

theorem clamp_split (d : Nat) {o0 o1 : Ordering} (h0 : FloatKind.f64.format.order d 0 = some o0) (h1 : FloatKind.f64.format.order d f1 = some o1) :
    ((FloatKind.f64.format.order d 0 == some .lt) = true ∧ clampF d = 0) ∨ ((FloatKind.f64.format.order d 0 == some .lt) = false ∧ (FloatKind.f64.format.order d 4607182418800017408 == some .gt) = true ∧ clampF d = 4607182418800017408) ∨ ((FloatKind.f64.format.order d 0 == some .lt) = false ∧ (FloatKind.f64.format.order d 4607182418800017408 == some .gt) = false ∧ clampF d = d) := by
  have h1' : FloatKind.f64.format.order d 4607182418800017408 = some o1 := h1
  have hc : clampF d = if FloatKind.f64.format.order d 0 = some .lt then 0 else if FloatKind.f64.format.order d 4607182418800017408 = some .gt then 4607182418800017408 else d := rfl
  rw [h0, h1'] at *
  rw [hc]
  cases o0 <;> cases o1 <;> simp <;> decide
end Go.Proofs.Ytfoehijlafooaaa
