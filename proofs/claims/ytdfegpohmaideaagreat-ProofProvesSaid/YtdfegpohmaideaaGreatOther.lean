/- the other player's letters -/
import Derived.Test.YtdfegpohmaideaaGreatBoardHand
namespace Go.Proofs.YtdfegpohmaideaaGreat
open Go.RowKit

/-- the other player's letter -/
def otherN (n : Nat) : Nat := if upB n then n + 32 else if lowB n then n - 32 else n
theorem xor32 (n : Nat) (h : upB n = true ∨ lowB n = true) : bits .xor .u8 (n : Int) 32 = (otherN n : Int) := by
  have key : ∀ m : Nat, m < 123 → (upB m = true ∨ lowB m = true) → bits .xor .u8 (m : Int) 32 = (otherN m : Int) := by decide +kernel
  refine key n ?_ h
  rcases h with h | h
  · have := upB_lt h; omega
  · have := lowB_lt h; omega
theorem otherN_lt {n : Nat} (h : n < 256) : otherN n < 256 := by
  unfold otherN
  split
  · rename_i hu; have := upB_lt hu; omega
  · split <;> omega

set_option maxHeartbeats 400000 in
theorem other_any (n : Nat) (w : World) : Calls Tryz.prog 92 #[.int .u8 n] w fun e w' => e = .returned (.int .u8 (otherN n)) ∧ w' = w := by
  have Hu := hide fun n W => upper_any n W
  have Hl := hide fun n W => lower_any n W
  obtain ⟨u, hu⟩ : ∃ u, upB n = u := ⟨_, rfl⟩
  obtain ⟨l, hl⟩ : ∃ l, lowB n = l := ⟨_, rfl⟩
  obtain ⟨m, hm⟩ : ∃ m, otherN n = m := ⟨_, rfl⟩
  cases u
  · cases l
    · have hm2 := hide (show otherN n = n by simp [otherN, hu, hl])
      clear hm
      go_enter Tryz.func92, Tryz.ntmps92
      go_wp2_with (first | (go_at_call 74; refine (Hu.out _ _).mono ?_; rintro e w' ⟨rfl, rfl⟩) | (go_at_call 97; refine (Hl.out _ _).mono ?_; rintro e w' ⟨rfl, rfl⟩))
      go_ret
      exact ⟨by rw [hm2.out] <;> rfl, rfl⟩
    · have hx := xor32 n (.inr hl)
      rw [hm] at hx
      have hm2 := hide hm
      clear hm
      go_enter Tryz.func92, Tryz.ntmps92
      go_wp2_with (first | (go_at_call 74; refine (Hu.out _ _).mono ?_; rintro e w' ⟨rfl, rfl⟩) | (go_at_call 97; refine (Hl.out _ _).mono ?_; rintro e w' ⟨rfl, rfl⟩))
      go_ret
      exact ⟨by rw [hm2.out] <;> rfl, rfl⟩
  · have hx := xor32 n (.inl hu)
    rw [hm] at hx
    have hm2 := hide hm
    clear hm hl
    go_enter Tryz.func92, Tryz.ntmps92
    go_wp2_with (first | (go_at_call 74; refine (Hu.out _ _).mono ?_; rintro e w' ⟨rfl, rfl⟩) | (go_at_call 97; refine (Hl.out _ _).mono ?_; rintro e w' ⟨rfl, rfl⟩))
    go_ret
    exact ⟨by rw [hm2.out] <;> rfl, rfl⟩

end Go.Proofs.YtdfegpohmaideaaGreat
