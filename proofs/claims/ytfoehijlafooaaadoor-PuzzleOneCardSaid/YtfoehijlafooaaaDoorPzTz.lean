/- bits.TrailingZeros at small numbers: the library's table is read. -/
import Derived.Test.YtfoehijlafooaaaDoorPzMask
import Derived.Test.YtfoehijlafooaaaDoorRows
import Derived.Shelf.Spec.TrailingZeros
namespace Go.Proofs.YtfoehijlafooaaaDoor
open Go.RowKit

theorem lowBit_ctz {x : Nat} (hx : x < 512) (h0 : x ≠ 0) : Lib.ctz 64 x = lowBit x := by
  have key : ∀ x, x < 512 → x ≠ 0 → Lib.ctz 64 x = lowBit x := by decide +kernel
  exact key x hx h0
theorem lowBit_lt {x : Nat} (hx : x < 512) (h0 : x ≠ 0) : lowBit x < 9 := by
  have key : ∀ x, x < 512 → x ≠ 0 → lowBit x < 9 := by decide +kernel
  exact key x hx h0

set_option maxHeartbeats 1000000 in
theorem tz64_any (x : Nat) (hx : x < 512) (h0 : x ≠ 0) (w : World) (hT : TabAt 1 Lib.deBruijn64tab w) :
    Calls Tryd.prog 26 #[.int .u64 x] w fun e w' => e = .returned (.int .i64 (lowBit x)) ∧ w' = w := by
  obtain ⟨hlow, hk⟩ := Lib.lowest_bit 64 x h0 (by omega)
  obtain ⟨hi, htab⟩ := Lib.deBruijn64_at _ hk
  have hcell := hT _ hi
  rw [htab] at hcell
  have key := tz64_key x _ (by omega) h0 hlow
  have hx0 : ((x : Int) == 0) = false := by simp; omega
  have e := lowBit_ctz hx h0
  obtain ⟨k, hkk⟩ : ∃ k, Lib.ctz 64 x = k := ⟨_, rfl⟩
  rw [hkk] at hcell hk key hi e htab
  rw [← e]
  obtain ⟨idx, hidx⟩ : ∃ idx, 2 ^ k * 285870213051353865 % 18446744073709551616 / 288230376151711744 = idx := ⟨_, rfl⟩
  rw [hidx] at hcell key hi
  have hi2 : idx < 64 := hi
  clear htab hT hlow hkk e hi hidx
  go_enter Tryd.func26, Tryd.ntmps26
  go_wp2_with (simp only [key])
  go_ret
  exact ⟨rfl, rfl⟩

set_option maxHeartbeats 1000000 in
theorem tz_any (x : Nat) (hx : x < 512) (h0 : x ≠ 0) (w : World) (hT : TabAt 1 Lib.deBruijn64tab w) :
    Calls Tryd.prog 24 #[.int .u64 x] w fun e w' => e = .returned (.int .i64 (lowBit x)) ∧ w' = w := by
  have hw : IntKind.u64.wrap (x : Int) = (x : Int) := by rw [IntKind.wrap_u64]; omega
  have H := hide (tz64_any x hx h0 w hT)
  clear hT
  go_enter Tryd.func24, Tryd.ntmps24
  go_wp2_with (go_at_call 26; refine H.out.mono ?_; rintro e w' ⟨rfl, rfl⟩)
  go_ret
  exact ⟨rfl, rfl⟩
end Go.Proofs.YtfoehijlafooaaaDoor
