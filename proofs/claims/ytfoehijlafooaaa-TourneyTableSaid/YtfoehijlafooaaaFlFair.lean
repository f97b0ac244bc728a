/- fairness of a double: tourney.fair, gameref.Fair, tourney.Rate's closure; Same of doubles -/
import Derived.Test.YtfoehijlafooaaaFlPlain
import Derived.Test.YtfoehijlafooaaaRows
import Derived.Test.YtfoehijlafooaaaSameInt
import Derived.WalkLawsBesides
namespace Go.Proofs.Ytfoehijlafooaaa
open Go.RowKit

theorem fair_any (x : Nat) (w : World) : Calls Try.prog 67 #[.float .f64 x] w fun e w' => e = .returned (.bool (fairF x)) ∧ w' = w := by
  obtain ⟨b1, h1⟩ : ∃ b, (FloatKind.f64.format.order x 13920209183539462144 == some .gt || FloatKind.f64.format.order x 13920209183539462144 == some .eq) = b := ⟨_, rfl⟩
  obtain ⟨b2, h2⟩ : ∃ b, (FloatKind.f64.format.order x 4696837146684686336 == some .lt || FloatKind.f64.format.order x 4696837146684686336 == some .eq) = b := ⟨_, rfl⟩
  have Hf := hide (show fairF x = (b1 && b2) by rw [← h1, ← h2]; rfl)
  cases b1 <;>
  · go_enter Try.func67, Try.ntmps67
    go_wp2_with fail
    go_ret
    exact ⟨by rw [Hf.out]; rfl, rfl⟩
theorem rfair_any (x : Nat) (w : World) : Calls Try.prog 40 #[.float .f64 x] w fun e w' => e = .returned (.bool (fairF x)) ∧ w' = w := by
  obtain ⟨b1, h1⟩ : ∃ b, (FloatKind.f64.format.order x 13920209183539462144 == some .gt || FloatKind.f64.format.order x 13920209183539462144 == some .eq) = b := ⟨_, rfl⟩
  obtain ⟨b2, h2⟩ : ∃ b, (FloatKind.f64.format.order x 4696837146684686336 == some .lt || FloatKind.f64.format.order x 4696837146684686336 == some .eq) = b := ⟨_, rfl⟩
  have Hf := hide (show fairF x = (b1 && b2) by rw [← h1, ← h2]; rfl)
  cases b1 <;>
  · go_enter Try.func40, Try.ntmps40
    go_wp2_with fail
    go_ret
    exact ⟨by rw [Hf.out]; rfl, rfl⟩
theorem unfair_any (x : Nat) (w : World) : Calls Try.prog 69 #[.float .f64 x] w fun e w' => e = .returned (.bool (!fairF x)) ∧ w' = w := by
  have H := hide (fair_any x w)
  go_enter Try.func69, Try.ntmps69
  go_wp2_with (go_at_call 67; refine H.out.mono ?_; rintro e w2 ⟨rfl, hw2⟩; rw [hw2]; clear hw2)
  go_ret
  exact ⟨rfl, rfl⟩
end Go.Proofs.Ytfoehijlafooaaa
