/- gameref.Puzzle, puzzle.Check -/
import Derived.Test.YtfoehijlafooaaaDoorPzMask
import Derived.Test.YtfoehijlafooaaaDoorRows
namespace Go.Proofs.YtfoehijlafooaaaDoor
open Go.RowKit

def PuzOk (a b : Int) (cells : List Int) : Prop := 1 ≤ a ∧ a ≤ 3 ∧ 1 ≤ b ∧ b ≤ 3 ∧ (cells.length : Int) = a * b * (a * b) ∧ ∀ j, j < cells.length → 0 ≤ gat cells j ∧ gat cells j ≤ a * b
open Classical in
noncomputable def puzB (a b : Int) (cells : List Int) : Bool := decide (PuzOk a b cells)
theorem puzB_true {a b : Int} {cells : List Int} : puzB a b cells = true ↔ PuzOk a b cells := by unfold puzB; simp
theorem puzB_false {a b : Int} {cells : List Int} : puzB a b cells = false ↔ ¬ PuzOk a b cells := by unfold puzB; simp
noncomputable def chkE (a b : Int) (cells : List Int) : Int := bif puzB a b cells then 0 else 1
theorem chkE_val {a b : Int} {cells : List Int} {v : Bool} (h : puzB a b cells = v) : chkE a b cells = bif v then 0 else 1 := by unfold chkE; rw [h]

set_option maxHeartbeats 4000000 in
set_option maxRecDepth 100000 in
theorem puzzle_any (a b : Int) (A : Option Addr) (c : Nat) (cells : List Int) (W : World) (B0 : Nat) (hm : cells.length ≤ 9223372036854775807) (hA : Cells W B0 A (ints cells)) :
    Calls Tryd.prog 7 #[.int .i64 a, .int .i64 b, .slice A cells.length c] W fun e w' => e = .returned (.bool (puzB a b cells)) ∧ w' = W := by
  have HA := hide hA
  clear hA
  by_cases q : a < 1
  · have d : decide (a < 1) = true := by simp; omega
    have HF := hide (puzB_false.2 (fun h : PuzOk a b cells => by have := h.1; omega))
    clear q
    go_enter Tryd.func7, Tryd.ntmps7
    go_wp2_with fail
    go_ret
    exact ⟨by rw [HF.out] <;> rfl, rfl⟩
  have d162 : decide (a < 1) = false := by simp; omega
  have p162 : ¬ (a < 1) := q
  clear q
  by_cases q : a > 3
  · have d : decide (a > 3) = true := by simp; omega
    have HF := hide (puzB_false.2 (fun h : PuzOk a b cells => by have := h.2.1; omega))
    clear q
    go_enter Tryd.func7, Tryd.ntmps7
    go_wp2_with fail
    go_ret
    exact ⟨by rw [HF.out] <;> rfl, rfl⟩
  have d164 : decide (a > 3) = false := by simp; omega
  have p164 : ¬ (a > 3) := q
  clear q
  by_cases q : b < 1
  · have d : decide (b < 1) = true := by simp; omega
    have HF := hide (puzB_false.2 (fun h : PuzOk a b cells => by have := h.2.2.1; omega))
    clear q
    go_enter Tryd.func7, Tryd.ntmps7
    go_wp2_with fail
    go_ret
    exact ⟨by rw [HF.out] <;> rfl, rfl⟩
  have d163 : decide (b < 1) = false := by simp; omega
  have p163 : ¬ (b < 1) := q
  clear q
  by_cases q : b > 3
  · have d : decide (b > 3) = true := by simp; omega
    have HF := hide (puzB_false.2 (fun h : PuzOk a b cells => by have := h.2.2.2.1; omega))
    clear q
    go_enter Tryd.func7, Tryd.ntmps7
    go_wp2_with fail
    go_ret
    exact ⟨by rw [HF.out] <;> rfl, rfl⟩
  have d165 : decide (b > 3) = false := by simp; omega
  have p165 : ¬ (b > 3) := q
  clear q
  obtain ⟨r, rfl⟩ := Int.eq_ofNat_of_zero_le (show 0 ≤ a by omega)
  obtain ⟨k, rfl⟩ := Int.eq_ofNat_of_zero_le (show 0 ≤ b by omega)
  have hr3 : r ≤ 3 := by omega
  have hk3 : k ≤ 3 := by omega
  obtain ⟨n, hn⟩ : ∃ n, r * k = n := ⟨_, rfl⟩
  have hn9 : n ≤ 9 := by rw [← hn]; exact Nat.le_trans (Nat.mul_le_mul hr3 hk3) (by decide)
  have eprod : (r : Int) * (k : Int) = (n : Int) := by rw [← hn]; simp
  obtain ⟨nn, hnn⟩ : ∃ nn, n * n = nn := ⟨_, rfl⟩
  have hnn81 : nn ≤ 81 := by rw [← hnn]; exact Nat.mul_le_mul hn9 hn9
  have eprod2 : (n : Int) * (n : Int) = (nn : Int) := by rw [← hnn]; simp
  obtain ⟨nr, hnr⟩ : ∃ nr, n * r = nr := ⟨_, rfl⟩
  have hnr27 : nr ≤ 27 := by rw [← hnr]; exact Nat.mul_le_mul hn9 hr3
  have eprod3 : (n : Int) * (r : Int) = (nr : Int) := by rw [← hnr]; simp
  have eprod4 : (nr : Int) * (k : Int) = (nn : Int) := by rw [← eprod3, Int.mul_assoc, eprod, eprod2]
  have hok : ∀ h : PuzOk r k cells, (cells.length : Int) = nn ∧ ∀ j, j < cells.length → 0 ≤ gat cells j ∧ gat cells j ≤ (n : Int) := fun h => by
    obtain ⟨_, _, _, _, h1, h2⟩ := h
    rw [eprod] at h1 h2
    rw [eprod2] at h1
    exact ⟨h1, h2⟩
  have hok2 : (cells.length : Int) = nn → (∀ j, j < cells.length → 0 ≤ gat cells j ∧ gat cells j ≤ (n : Int)) → PuzOk r k cells := fun h1 h2 => by
    refine ⟨by omega, by omega, by omega, by omega, ?_, ?_⟩
    · rw [eprod, eprod2]; exact h1
    · rw [eprod]; exact h2
  have Hok := hide hok
  have Hok2 := hide hok2
  clear hok hok2 hn hnn hnr
  by_cases q : (cells.length : Int) = nn
  case neg =>
    have d : ((cells.length : Int) != (nn : Int)) = true := by simp; exact fun h => q (by omega)
    have HF := hide (puzB_false.2 (fun h : PuzOk r k cells => q (Hok.out h).1))
    clear q
    go_enter Tryd.func7, Tryd.ntmps7
    go_wp2_with fail
    go_ret
    exact ⟨by rw [HF.out] <;> rfl, rfl⟩
  have d : ((cells.length : Int) != (nn : Int)) = false := by simp; omega
  have Hq := hide q
  have hlen : cells.length ≤ 81 := by omega
  clear q
  go_enter Tryd.func7, Tryd.ntmps7
  go_wp2_with fail
  go_loop [7] (fun idx => ∃ j : Nat, j ≤ cells.length ∧ idx = .int .i64 j ∧ ∀ q, q < j → 0 ≤ gat cells q ∧ gat cells q ≤ (n : Int)) (fun idx => cells.length - (intOf idx).toNat)
  case atStart => exact ⟨0, by omega, rfl, fun q hq => absurd hq (by omega)⟩
  case round =>
    obtain ⟨j, hj, rfl, hall⟩ := hrel
    have Hall := hide hall
    clear hall
    by_cases hlt : j < cells.length
    · obtain ⟨b, off, rfl, hb, c1⟩ := HA.out.at_ (k := j) (by simpa using hlt)
      rw [ints_get, ← gat_get hlt] at c1
      have Hbad := hide (show ¬ (0 ≤ gat cells j ∧ gat cells j ≤ (n : Int)) → puzB r k cells = false from fun h => puzB_false.2 (fun g => h ((Hok.out g).2 j hlt)))
      have Hnext := hide (show (0 ≤ gat cells j ∧ gat cells j ≤ (n : Int)) → ∀ q, q < j + 1 → 0 ≤ gat cells q ∧ gat cells q ≤ (n : Int) from fun h q hq => by
        by_cases e : q = j
        · subst e; exact h
        · exact Hall.out q (by omega))
      obtain ⟨x, hx⟩ : ∃ x, gat cells j = x := ⟨_, rfl⟩
      rw [hx] at c1 Hbad Hnext
      clear hx
      by_cases x1 : x < 0
      · have g1 : decide (x < 0) = true := by simp [x1]
        have HF := hide (Hbad.out (fun h => by omega))
        clear x1
        go_wp2_with fail
        go_ret
        exact ⟨by rw [HF.out] <;> rfl, rfl⟩
      · have g1 : decide (x < 0) = false := by simp; omega
        by_cases x2 : x > (n : Int)
        · have g2 : decide (x > (n : Int)) = true := by simp [x2]
          have HF := hide (Hbad.out (fun h => by omega))
          clear x1 x2
          go_wp2_with fail
          go_ret
          exact ⟨by rw [HF.out] <;> rfl, rfl⟩
        · have g2 : decide (x > (n : Int)) = false := by simp; omega
          have Hn2 := hide (Hnext.out ⟨by omega, by omega⟩)
          clear x1 x2
          go_wp2_with fail
          go_round
          case rel => exact ⟨j + 1, by omega, by go_num, Hn2.out⟩
          case measure => simp [intOf]; omega
    · obtain rfl : j = cells.length := by omega
      have HF := hide (puzB_true.2 (Hok2.out Hq.out Hall.out))
      go_wp2_with fail
      go_ret
      exact ⟨by rw [HF.out] <;> rfl, rfl⟩

set_option maxHeartbeats 4000000 in
set_option maxRecDepth 100000 in
theorem check_any (a b : Int) (A : Option Addr) (c : Nat) (cells : List Int) (W : World) (B0 : Nat) (hm : cells.length ≤ 9223372036854775807) (hA : Cells W B0 A (ints cells)) :
    Calls Tryd.prog 8 #[.int .i64 a, .int .i64 b, .slice A cells.length c] W fun e w' => e = .returned (.int .i64 (chkE a b cells)) ∧ w' = W := by
  have HA := hide hA
  clear hA
  by_cases q : a < 1
  · have d : decide (a < 1) = true := by simp; omega
    have HF := hide (puzB_false.2 (fun h : PuzOk a b cells => by have := h.1; omega))
    clear q
    go_enter Tryd.func8, Tryd.ntmps8
    go_wp2_with fail
    go_ret
    exact ⟨by rw [chkE_val HF.out] <;> rfl, rfl⟩
  have d162 : decide (a < 1) = false := by simp; omega
  have p162 : ¬ (a < 1) := q
  clear q
  by_cases q : a > 3
  · have d : decide (a > 3) = true := by simp; omega
    have HF := hide (puzB_false.2 (fun h : PuzOk a b cells => by have := h.2.1; omega))
    clear q
    go_enter Tryd.func8, Tryd.ntmps8
    go_wp2_with fail
    go_ret
    exact ⟨by rw [chkE_val HF.out] <;> rfl, rfl⟩
  have d164 : decide (a > 3) = false := by simp; omega
  have p164 : ¬ (a > 3) := q
  clear q
  by_cases q : b < 1
  · have d : decide (b < 1) = true := by simp; omega
    have HF := hide (puzB_false.2 (fun h : PuzOk a b cells => by have := h.2.2.1; omega))
    clear q
    go_enter Tryd.func8, Tryd.ntmps8
    go_wp2_with fail
    go_ret
    exact ⟨by rw [chkE_val HF.out] <;> rfl, rfl⟩
  have d163 : decide (b < 1) = false := by simp; omega
  have p163 : ¬ (b < 1) := q
  clear q
  by_cases q : b > 3
  · have d : decide (b > 3) = true := by simp; omega
    have HF := hide (puzB_false.2 (fun h : PuzOk a b cells => by have := h.2.2.2.1; omega))
    clear q
    go_enter Tryd.func8, Tryd.ntmps8
    go_wp2_with fail
    go_ret
    exact ⟨by rw [chkE_val HF.out] <;> rfl, rfl⟩
  have d165 : decide (b > 3) = false := by simp; omega
  have p165 : ¬ (b > 3) := q
  clear q
  obtain ⟨r, rfl⟩ := Int.eq_ofNat_of_zero_le (show 0 ≤ a by omega)
  obtain ⟨k, rfl⟩ := Int.eq_ofNat_of_zero_le (show 0 ≤ b by omega)
  have hr3 : r ≤ 3 := by omega
  have hk3 : k ≤ 3 := by omega
  obtain ⟨n, hn⟩ : ∃ n, r * k = n := ⟨_, rfl⟩
  have hn9 : n ≤ 9 := by rw [← hn]; exact Nat.le_trans (Nat.mul_le_mul hr3 hk3) (by decide)
  have eprod : (r : Int) * (k : Int) = (n : Int) := by rw [← hn]; simp
  obtain ⟨nn, hnn⟩ : ∃ nn, n * n = nn := ⟨_, rfl⟩
  have hnn81 : nn ≤ 81 := by rw [← hnn]; exact Nat.mul_le_mul hn9 hn9
  have eprod2 : (n : Int) * (n : Int) = (nn : Int) := by rw [← hnn]; simp
  obtain ⟨nr, hnr⟩ : ∃ nr, n * r = nr := ⟨_, rfl⟩
  have hnr27 : nr ≤ 27 := by rw [← hnr]; exact Nat.mul_le_mul hn9 hr3
  have eprod3 : (n : Int) * (r : Int) = (nr : Int) := by rw [← hnr]; simp
  have eprod4 : (nr : Int) * (k : Int) = (nn : Int) := by rw [← eprod3, Int.mul_assoc, eprod, eprod2]
  have hok : ∀ h : PuzOk r k cells, (cells.length : Int) = nn ∧ ∀ j, j < cells.length → 0 ≤ gat cells j ∧ gat cells j ≤ (n : Int) := fun h => by
    obtain ⟨_, _, _, _, h1, h2⟩ := h
    rw [eprod] at h1 h2
    rw [eprod2] at h1
    exact ⟨h1, h2⟩
  have hok2 : (cells.length : Int) = nn → (∀ j, j < cells.length → 0 ≤ gat cells j ∧ gat cells j ≤ (n : Int)) → PuzOk r k cells := fun h1 h2 => by
    refine ⟨by omega, by omega, by omega, by omega, ?_, ?_⟩
    · rw [eprod, eprod2]; exact h1
    · rw [eprod]; exact h2
  have Hok := hide hok
  have Hok2 := hide hok2
  clear hok hok2 hn hnn hnr
  by_cases q : (cells.length : Int) = nn
  case neg =>
    have d : ((cells.length : Int) != (nn : Int)) = true := by simp; exact fun h => q (by omega)
    have HF := hide (puzB_false.2 (fun h : PuzOk r k cells => q (Hok.out h).1))
    clear q
    go_enter Tryd.func8, Tryd.ntmps8
    go_wp2_with fail
    go_ret
    exact ⟨by rw [chkE_val HF.out] <;> rfl, rfl⟩
  have d : ((cells.length : Int) != (nn : Int)) = false := by simp; omega
  have Hq := hide q
  have hlen : cells.length ≤ 81 := by omega
  clear q
  go_enter Tryd.func8, Tryd.ntmps8
  go_wp2_with fail
  go_loop [35] (fun idx => ∃ j : Nat, j ≤ cells.length ∧ idx = .int .i64 j ∧ ∀ q, q < j → 0 ≤ gat cells q ∧ gat cells q ≤ (n : Int)) (fun idx => cells.length - (intOf idx).toNat)
  case atStart => exact ⟨0, by omega, rfl, fun q hq => absurd hq (by omega)⟩
  case round =>
    obtain ⟨j, hj, rfl, hall⟩ := hrel
    have Hall := hide hall
    clear hall
    by_cases hlt : j < cells.length
    · obtain ⟨b, off, rfl, hb, c1⟩ := HA.out.at_ (k := j) (by simpa using hlt)
      rw [ints_get, ← gat_get hlt] at c1
      have Hbad := hide (show ¬ (0 ≤ gat cells j ∧ gat cells j ≤ (n : Int)) → puzB r k cells = false from fun h => puzB_false.2 (fun g => h ((Hok.out g).2 j hlt)))
      have Hnext := hide (show (0 ≤ gat cells j ∧ gat cells j ≤ (n : Int)) → ∀ q, q < j + 1 → 0 ≤ gat cells q ∧ gat cells q ≤ (n : Int) from fun h q hq => by
        by_cases e : q = j
        · subst e; exact h
        · exact Hall.out q (by omega))
      obtain ⟨x, hx⟩ : ∃ x, gat cells j = x := ⟨_, rfl⟩
      rw [hx] at c1 Hbad Hnext
      clear hx
      by_cases x1 : x < 0
      · have g1 : decide (x < 0) = true := by simp [x1]
        have HF := hide (Hbad.out (fun h => by omega))
        clear x1
        go_wp2_with fail
        go_ret
        exact ⟨by rw [chkE_val HF.out] <;> rfl, rfl⟩
      · have g1 : decide (x < 0) = false := by simp; omega
        by_cases x2 : x > (n : Int)
        · have g2 : decide (x > (n : Int)) = true := by simp [x2]
          have HF := hide (Hbad.out (fun h => by omega))
          clear x1 x2
          go_wp2_with fail
          go_ret
          exact ⟨by rw [chkE_val HF.out] <;> rfl, rfl⟩
        · have g2 : decide (x > (n : Int)) = false := by simp; omega
          have Hn2 := hide (Hnext.out ⟨by omega, by omega⟩)
          clear x1 x2
          go_wp2_with fail
          go_round
          case rel => exact ⟨j + 1, by omega, by go_num, Hn2.out⟩
          case measure => simp [intOf]; omega
    · obtain rfl : j = cells.length := by omega
      have HF := hide (puzB_true.2 (Hok2.out Hq.out Hall.out))
      go_wp2_with fail
      go_ret
      exact ⟨by rw [chkE_val HF.out] <;> rfl, rfl⟩
end Go.Proofs.YtfoehijlafooaaaDoor
