/- gameref.hand -/
import Derived.Test.YtcdfeaodfmfdnaaGreatDoorBoardHand
namespace Go.Proofs.YtcdfeaodfmfdnaaGreatDoor
open Go.RowKit
set_option maxHeartbeats 1000000 in
set_option maxRecDepth 20000 in
theorem rhand_any (s : ByteArray) (w : World) (hs : s.size ≤ 9223372036854775807) : Calls Tryz.prog 84 #[.string s] w fun e w' => e = .returned (.bool (handB s)) ∧ ∃ n, w' = w.drewN n := by
  have Hu := hide fun n W => big_any n W
  by_cases h8 : s.size ≤ 8
  case neg =>
    have Hf := hide (hand_long h8)
    have d1 : decide ((s.size : Int) > 8) = true := by simp; omega
    clear h8
    go_enter Tryz.func84, Tryz.ntmps84
    go_wp2_with fail
    go_ret
    exact ⟨by rw [Hf.out] <;> rfl, 0, rfl⟩
  have d1 : decide ((s.size : Int) > 8) = false := by simp; omega
  go_enter Tryz.func84, Tryz.ntmps84
  go_wp2_with fail
  go_loopw [3] (fun i wr => ∃ k : Nat, k ≤ s.size ∧ i = .int .i64 k ∧ HandTo s k ∧ ∃ n, wr = w.drewN n) (fun i _ => s.size - (intOf i).toNat)
  case atStart => exact ⟨0, by omega, rfl, ⟨fun j _ h => by omega, fun j _ h => by omega⟩, 0, rfl⟩
  case round =>
    rename World => wr
    obtain ⟨k, hk, rfl, hto, hwr⟩ := hrel
    have Hto := hide hto
    have Hwr := hide hwr
    clear hto hwr
    by_cases hlk : k < s.size
    · obtain ⟨v, hv⟩ : ∃ v, upB s[k].toNat = v := ⟨_, rfl⟩
      have j1 : (0 : Int) ≤ (k : Int) := by omega
      have j2 : (k : Int) < (s.size : Int) := by omega
      cases v
      · have Hf := hide (hand_not_up_ hlk hv)
        go_wp2_with fail
        go_quiet ((go_at_call 40; exact Calls.quiet_of_same (Hu.out _ _)))
        go_wp2_with fail
        go_ret
        exact ⟨by rw [Hf.out] <;> rfl, drewn_on Hwr.out _⟩
      · by_cases hk0 : k = 0
        · subst hk0
          have Hn := hide (handTo_next hlk Hto.out hv (fun h => by omega))
          go_wp2_with fail
          go_quiet ((go_at_call 40; exact Calls.quiet_of_same (Hu.out _ _)))
          go_wp2_with fail
          go_roundw
          case rel => exact ⟨1, by omega, rfl, Hn.out, drewn_on Hwr.out _⟩
          case measure => simp [intOf]; omega
        · obtain ⟨q, rfl⟩ : ∃ q, k = q + 1 := ⟨k - 1, by omega⟩
          have c1 : ((q + 1 : Nat) : Int) = (q : Int) + 1 := by omega
          rw [c1] at j1 j2 ⊢
          have j3 : (0 : Int) < (q : Int) + 1 := by omega
          have j4 : IntKind.i64.wrap ((q : Int) + 1 - 1) = (q : Int) := by rw [show (q : Int) + 1 - 1 = q by omega]; exact IntWalk.i64_in _ (by omega)
          have hq : q < s.size := by omega
          clear c1 hk0
          by_cases ho : s[q + 1].toNat < s[q].toNat
          · have Hf := hide (hand_not_in_order hlk ho)
            have d1 : decide ((s[q].toNat : Int) > (s[q + 1].toNat : Int)) = true := by simp; omega
            go_wp2_with fail
            go_quiet ((go_at_call 40; exact Calls.quiet_of_same (Hu.out _ _)))
            go_wp2_with fail
            go_ret
            exact ⟨by rw [Hf.out] <;> rfl, drewn_on Hwr.out _⟩
          · have Hn := hide (handTo_next hlk Hto.out hv (fun h => by simp; omega))
            have d1 : decide ((s[q].toNat : Int) > (s[q + 1].toNat : Int)) = false := by simp; omega
            go_wp2_with fail
            go_quiet ((go_at_call 40; exact Calls.quiet_of_same (Hu.out _ _)))
            go_wp2_with fail
            go_roundw
            case rel => exact ⟨q + 2, by omega, by go_num, Hn.out, drewn_on Hwr.out _⟩
            case measure => simp [intOf]; omega
    · obtain rfl : k = s.size := by omega
      have Hf := hide (handTo_all Hto.out h8)
      go_wp2_with fail
      go_ret
      exact ⟨by rw [Hf.out] <;> rfl, Hwr.out⟩
end Go.Proofs.YtcdfeaodfmfdnaaGreatDoor
