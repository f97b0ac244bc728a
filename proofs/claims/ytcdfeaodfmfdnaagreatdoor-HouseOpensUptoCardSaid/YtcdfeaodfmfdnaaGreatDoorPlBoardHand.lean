/- board and gameref: letters, cells, hands. -/
import Derived.Test.YtcdfeaodfmfdnaaGreatDoorPlPlainM
import Derived.Test.YtcdfeaodfmfdnaaGreatDoorPlBase
import Derived.Test.YtcdfeaodfmfdnaaGreatDoorRows
namespace Go.Proofs.YtcdfeaodfmfdnaaGreatDoor
open Go.RowKit

theorem upB_t {n : Nat} (h1 : 65 ≤ n) (h2 : n ≤ 90) : upB n = true := by simp [upB, h1, h2]
theorem upB_f {n : Nat} (h : ¬ (65 ≤ n ∧ n ≤ 90)) : upB n = false := by simp only [upB, decide_eq_false_iff_not]; exact h
theorem lowB_t {n : Nat} (h1 : 97 ≤ n) (h2 : n ≤ 122) : lowB n = true := by simp [lowB, h1, h2]
theorem lowB_f {n : Nat} (h : ¬ (97 ≤ n ∧ n ≤ 122)) : lowB n = false := by simp only [lowB, decide_eq_false_iff_not]; exact h
theorem upB_lt {n : Nat} (h : upB n = true) : 65 ≤ n ∧ n ≤ 90 := by simpa [upB] using h
theorem lowB_lt {n : Nat} (h : lowB n = true) : 97 ≤ n ∧ n ≤ 122 := by simpa [lowB] using h

set_option maxHeartbeats 400000 in
theorem upper_any (n : Nat) (w : World) : Calls Tryz.prog 44 #[.int .u8 n] w fun e w' => e = .returned (.bool (upB n)) ∧ w' = w := by
  by_cases h1 : 65 ≤ n
  · have d1 : decide ((n : Int) ≥ 65) = true := by simp; omega
    by_cases h2 : n ≤ 90
    · have d2 : decide ((n : Int) ≤ 90) = true := by simp; omega
      have H := hide (upB_t h1 h2)
      clear h1 h2
      go_enter Tryz.func44, Tryz.ntmps44
      go_wp2
      go_ret
      exact ⟨by rw [H.out] <;> rfl, rfl⟩
    · have d2 : decide ((n : Int) ≤ 90) = false := by simp; omega
      have H := hide (upB_f (n := n) (by omega))
      clear h1 h2
      go_enter Tryz.func44, Tryz.ntmps44
      go_wp2
      go_ret
      exact ⟨by rw [H.out] <;> rfl, rfl⟩
  · have d1 : decide ((n : Int) ≥ 65) = false := by simp; omega
    have H := hide (upB_f (n := n) (by omega))
    clear h1
    go_enter Tryz.func44, Tryz.ntmps44
    go_wp2
    go_ret
    exact ⟨by rw [H.out] <;> rfl, rfl⟩
set_option maxHeartbeats 400000 in
theorem lower_any (n : Nat) (w : World) : Calls Tryz.prog 88 #[.int .u8 n] w fun e w' => e = .returned (.bool (lowB n)) ∧ w' = w := by
  by_cases h1 : 97 ≤ n
  · have d1 : decide ((n : Int) ≥ 97) = true := by simp; omega
    by_cases h2 : n ≤ 122
    · have d2 : decide ((n : Int) ≤ 122) = true := by simp; omega
      have H := hide (lowB_t h1 h2)
      clear h1 h2
      go_enter Tryz.func88, Tryz.ntmps88
      go_wp2
      go_ret
      exact ⟨by rw [H.out] <;> rfl, rfl⟩
    · have d2 : decide ((n : Int) ≤ 122) = false := by simp; omega
      have H := hide (lowB_f (n := n) (by omega))
      clear h1 h2
      go_enter Tryz.func88, Tryz.ntmps88
      go_wp2
      go_ret
      exact ⟨by rw [H.out] <;> rfl, rfl⟩
  · have d1 : decide ((n : Int) ≥ 97) = false := by simp; omega
    have H := hide (lowB_f (n := n) (by omega))
    clear h1
    go_enter Tryz.func88, Tryz.ntmps88
    go_wp2
    go_ret
    exact ⟨by rw [H.out] <;> rfl, rfl⟩
set_option maxHeartbeats 400000 in
theorem big_any (n : Nat) (w : World) : Calls Tryz.prog 40 #[.int .u8 n] w fun e w' => e = .returned (.bool (upB n)) ∧ w' = w := by
  by_cases h1 : 65 ≤ n
  · have d1 : decide ((n : Int) ≥ 65) = true := by simp; omega
    by_cases h2 : n ≤ 90
    · have d2 : decide ((n : Int) ≤ 90) = true := by simp; omega
      have H := hide (upB_t h1 h2)
      clear h1 h2
      go_enter Tryz.func40, Tryz.ntmps40
      go_wp2
      go_ret
      exact ⟨by rw [H.out] <;> rfl, rfl⟩
    · have d2 : decide ((n : Int) ≤ 90) = false := by simp; omega
      have H := hide (upB_f (n := n) (by omega))
      clear h1 h2
      go_enter Tryz.func40, Tryz.ntmps40
      go_wp2
      go_ret
      exact ⟨by rw [H.out] <;> rfl, rfl⟩
  · have d1 : decide ((n : Int) ≥ 65) = false := by simp; omega
    have H := hide (upB_f (n := n) (by omega))
    clear h1
    go_enter Tryz.func40, Tryz.ntmps40
    go_wp2
    go_ret
    exact ⟨by rw [H.out] <;> rfl, rfl⟩
set_option maxHeartbeats 400000 in
theorem small_any (n : Nat) (w : World) : Calls Tryz.prog 85 #[.int .u8 n] w fun e w' => e = .returned (.bool (lowB n)) ∧ w' = w := by
  by_cases h1 : 97 ≤ n
  · have d1 : decide ((n : Int) ≥ 97) = true := by simp; omega
    by_cases h2 : n ≤ 122
    · have d2 : decide ((n : Int) ≤ 122) = true := by simp; omega
      have H := hide (lowB_t h1 h2)
      clear h1 h2
      go_enter Tryz.func85, Tryz.ntmps85
      go_wp2
      go_ret
      exact ⟨by rw [H.out] <;> rfl, rfl⟩
    · have d2 : decide ((n : Int) ≤ 122) = false := by simp; omega
      have H := hide (lowB_f (n := n) (by omega))
      clear h1 h2
      go_enter Tryz.func85, Tryz.ntmps85
      go_wp2
      go_ret
      exact ⟨by rw [H.out] <;> rfl, rfl⟩
  · have d1 : decide ((n : Int) ≥ 97) = false := by simp; omega
    have H := hide (lowB_f (n := n) (by omega))
    clear h1
    go_enter Tryz.func85, Tryz.ntmps85
    go_wp2
    go_ret
    exact ⟨by rw [H.out] <;> rfl, rfl⟩
set_option maxHeartbeats 400000 in
theorem cell_any (n : Nat) (w : World) : Calls Tryz.prog 87 #[.int .u8 n] w fun e w' => e = .returned (.bool (cellB n)) ∧ w' = w := by
  have Hu := hide fun W => upper_any n W
  have Hl := hide fun W => lower_any n W
  by_cases h1 : n = 46
  · have d1 : ((n : Int) == 46) = true := by simp; omega
    have H := hide (show cellB n = true by simp [cellB, h1])
    clear h1
    go_enter Tryz.func87, Tryz.ntmps87
    go_wp2
    go_ret
    exact ⟨by rw [H.out] <;> rfl, rfl⟩
  · have d1 : ((n : Int) == 46) = false := by simp; omega
    cases h2 : upB n
    · obtain ⟨v, h3⟩ : ∃ v, lowB n = v := ⟨_, rfl⟩
      cases v
      all_goals
        have H := hide (show cellB n = lowB n by simp [cellB, h1, h2, h3])
        clear h1
        go_enter Tryz.func87, Tryz.ntmps87
        go_wp2_with (first | (go_at_call 44; refine (Hu.out _).mono ?_; rintro e w' ⟨rfl, rfl⟩) | (go_at_call 88; refine (Hl.out _).mono ?_; rintro e w' ⟨rfl, rfl⟩))
        go_ret
        exact ⟨by rw [H.out, h3] <;> rfl, rfl⟩
    · have H := hide (show cellB n = true by simp [cellB, h2])
      clear h1
      go_enter Tryz.func87, Tryz.ntmps87
      go_wp2_with (first | (go_at_call 44; refine (Hu.out _).mono ?_; rintro e w' ⟨rfl, rfl⟩) | (go_at_call 88; refine (Hl.out _).mono ?_; rintro e w' ⟨rfl, rfl⟩))
      go_ret
      exact ⟨by rw [H.out] <;> rfl, rfl⟩

theorem hand_not_up {l : List UInt8} {k : Nat} (h : k < l.length) (hu : upB l[k].toNat = false) : ¬ HandOk l := fun H => by
  have := H.2.1 k h
  rw [hu] at this
  exact absurd this (by simp)
theorem hand_not_up_ {s : ByteArray} {k : Nat} (h : k < s.size) (hu : upB s[k].toNat = false) : handB s = false := handB_false.2 (hand_not_up (l := s.data.toList) (k := k) h hu)
theorem hand_not_in_order {s : ByteArray} {k : Nat} (h : k + 1 < s.size) (hu : s[k + 1].toNat < s[k].toNat) : handB s = false :=
  handB_false.2 fun H => by have := H.2.2 k h; exact absurd (show s[k].toNat ≤ s[k + 1].toNat from this) (by omega)
/-- what holds of the first k letters -/
def HandTo (s : ByteArray) (k : Nat) : Prop := (∀ j (h : j < s.size), j < k → upB s[j].toNat = true) ∧ ∀ j (h : j + 1 < s.size), j + 1 < k → s[j].toNat ≤ s[j + 1].toNat
theorem handTo_all {s : ByteArray} (h : HandTo s s.size) (h8 : s.size ≤ 8) : handB s = true := handB_true.2 ⟨h8, fun j hj => h.1 j hj hj, fun j hj => h.2 j hj hj⟩
theorem hand_long {s : ByteArray} (h8 : ¬ s.size ≤ 8) : handB s = false := handB_false.2 fun H => h8 H.1
theorem handTo_next {s : ByteArray} {k : Nat} (hk : k < s.size) (h : HandTo s k) (hu : upB s[k].toNat = true) (ho : ∀ h' : 0 < k, s[k - 1].toNat ≤ s[k].toNat) : HandTo s (k + 1) := by
  refine ⟨fun j hj hjk => ?_, fun j hj hjk => ?_⟩
  · by_cases e : j = k
    · subst e; exact hu
    · exact h.1 j hj (by omega)
  · by_cases e : j + 1 = k
    · subst e; exact ho (by omega)
    · exact h.2 j hj (by omega)

theorem drewn_on {w wr : World} (h : ∃ n, wr = w.drewN n) (m : Nat) : ∃ n, wr.drewN m = w.drewN n := by
  obtain ⟨n, rfl⟩ := h
  exact ⟨n + m, World.drewN_drewN _ _ _⟩

set_option maxHeartbeats 1000000 in
set_option maxRecDepth 20000 in
theorem bhand_any (s : ByteArray) (w : World) (hs : s.size ≤ 9223372036854775807) : Calls Tryz.prog 86 #[.string s] w fun e w' => e = .returned (.bool (handB s)) ∧ ∃ n, w' = w.drewN n := by
  have Hu := hide fun n W => upper_any n W
  go_enter Tryz.func86, Tryz.ntmps86
  go_wp2_with fail
  go_loopw [6] (fun i wr => ∃ k : Nat, k ≤ s.size ∧ i = .int .i64 k ∧ HandTo s k ∧ ∃ n, wr = w.drewN n) (fun i _ => s.size - (intOf i).toNat)
  case atStart => exact ⟨0, by omega, rfl, ⟨fun j _ h => by omega, fun j _ h => by omega⟩, 0, rfl⟩
  case round =>
    rename World => wr
    obtain ⟨k, hk, rfl, hto, hwr⟩ := hrel
    have Hto := hide hto
    have Hwr := hide hwr
    clear hto hwr
    by_cases hlk : k < s.size
    · obtain ⟨v, hv⟩ : ∃ v, upB s[k].toNat = v := ⟨_, rfl⟩
      have j1 : (0 : Int) ≤ (k : Int) := by omega
      have j2 : (k : Int) < (s.size : Int) := by omega
      cases v
      · have Hf := hide (hand_not_up_ hlk hv)
        go_wp2_with fail
        go_quiet ((go_at_call 44; exact Calls.quiet_of_same (Hu.out _ _)))
        go_wp2_with fail
        go_ret
        exact ⟨by rw [Hf.out] <;> rfl, drewn_on Hwr.out _⟩
      · by_cases hk0 : k = 0
        · subst hk0
          have Hn := hide (handTo_next hlk Hto.out hv (fun h => by omega))
          go_wp2_with fail
          go_quiet ((go_at_call 44; exact Calls.quiet_of_same (Hu.out _ _)))
          go_wp2_with fail
          go_roundw
          case rel => exact ⟨1, by omega, rfl, Hn.out, drewn_on Hwr.out _⟩
          case measure => simp [intOf]; omega
        · obtain ⟨q, rfl⟩ : ∃ q, k = q + 1 := ⟨k - 1, by omega⟩
          have c1 : ((q + 1 : Nat) : Int) = (q : Int) + 1 := by omega
          rw [c1] at j1 j2 ⊢
          have j3 : (0 : Int) < (q : Int) + 1 := by omega
          have j4 : IntKind.i64.wrap ((q : Int) + 1 - 1) = (q : Int) := by rw [show (q : Int) + 1 - 1 = q by omega]; exact IntWalk.i64_in _ (by omega)
          have hq : q < s.size := by omega
          clear c1 hk0
          by_cases ho : s[q + 1].toNat < s[q].toNat
          · have Hf := hide (hand_not_in_order hlk ho)
            have d1 : decide ((s[q + 1].toNat : Int) < (s[q].toNat : Int)) = true := by simp; omega
            go_wp2_with fail
            go_quiet ((go_at_call 44; exact Calls.quiet_of_same (Hu.out _ _)))
            go_wp2_with fail
            go_ret
            exact ⟨by rw [Hf.out] <;> rfl, drewn_on Hwr.out _⟩
          · have Hn := hide (handTo_next hlk Hto.out hv (fun h => by simp; omega))
            have d1 : decide ((s[q + 1].toNat : Int) < (s[q].toNat : Int)) = false := by simp; omega
            go_wp2_with fail
            go_quiet ((go_at_call 44; exact Calls.quiet_of_same (Hu.out _ _)))
            go_wp2_with fail
            go_roundw
            case rel => exact ⟨q + 2, by omega, by go_num, Hn.out, drewn_on Hwr.out _⟩
            case measure => simp [intOf]; omega
    · obtain rfl : k = s.size := by omega
      by_cases h8 : s.size ≤ 8
      · have Hf := hide (handTo_all Hto.out h8)
        have d1 : decide ((s.size : Int) ≤ 8) = true := by simp; omega
        go_wp2_with fail
        go_ret
        exact ⟨by rw [Hf.out] <;> rfl, Hwr.out⟩
      · have Hf := hide (hand_long h8)
        have d1 : decide ((s.size : Int) ≤ 8) = false := by simp; omega
        go_wp2_with fail
        go_ret
        exact ⟨by rw [Hf.out] <;> rfl, Hwr.out⟩
end Go.Proofs.YtcdfeaodfmfdnaaGreatDoor
