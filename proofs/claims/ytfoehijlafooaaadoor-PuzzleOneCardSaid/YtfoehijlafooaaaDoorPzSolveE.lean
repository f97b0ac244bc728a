/- puzzle.Solve -/
import Derived.Test.YtfoehijlafooaaaDoorPzSolutions
import Derived.Test.YtfoehijlafooaaaDoorPzChk
namespace Go.Proofs.YtfoehijlafooaaaDoor
open Go.RowKit

theorem puz_nat {a b : Int} {cells : List Int} (h : PuzOk a b cells) : ∃ r k : Nat, a = r ∧ b = k ∧ 0 < r ∧ r ≤ 3 ∧ 0 < k ∧ k ≤ 3 ∧ cells.length = r * k * (r * k) ∧ ∀ j, j < cells.length → 0 ≤ gat cells j ∧ gat cells j ≤ (r * k : Nat) := by
  obtain ⟨h1, h2, h3, h4, h5, h6⟩ := h
  obtain ⟨r, rfl⟩ := Int.eq_ofNat_of_zero_le (show 0 ≤ a by omega)
  obtain ⟨k, rfl⟩ := Int.eq_ofNat_of_zero_le (show 0 ≤ b by omega)
  have e : ((r * k : Nat) : Int) = (r : Int) * (k : Int) := by simp
  refine ⟨r, k, rfl, rfl, by omega, by omega, by omega, by omega, ?_, fun j hj => ?_⟩
  · have : (cells.length : Int) = ((r * k * (r * k) : Nat) : Int) := by rw [h5]; simp
    exact Int.ofNat.inj this
  · rw [e]; exact h6 j hj

set_option maxHeartbeats 2000000 in
set_option maxRecDepth 100000 in
theorem solveE_bad (a b most : Int) (A : Option Addr) (c : Nat) (cells : List Int) (W : World) (B0 : Nat) (hm : cells.length ≤ 9223372036854775807) (hA : Cells W B0 A (ints cells)) (hbad : ¬ PuzOk a b cells) :
    Calls Tryd.prog 6 #[.int .i64 a, .int .i64 b, .slice A cells.length c, .int .i64 most] W fun e w' => e = .returned (.tuple #[.slice none 0 0, .int .i64 1]) ∧ w' = W := by
  have hc := check_any a b A c cells W B0 hm hA
  rw [chkE_val (puzB_false.2 hbad)] at hc
  have HC := hide hc
  clear hc hA hbad
  go_enter Tryd.func6, Tryd.ntmps6
  go_wp2_with (go_at_call 8; refine HC.out.mono ?_; rintro e w2 ⟨rfl, hw2⟩; rw [hw2]; clear hw2; simp only [cond_false])
  go_ret2
  exact ⟨rfl, rfl⟩
set_option maxHeartbeats 2000000 in
set_option maxRecDepth 100000 in
theorem solveE_range (a b most : Int) (A : Option Addr) (c : Nat) (cells : List Int) (W : World) (B0 : Nat) (hm : cells.length ≤ 9223372036854775807) (hA : Cells W B0 A (ints cells)) (hok : PuzOk a b cells) (hbad : most < 1 ∨ 20 < most) :
    Calls Tryd.prog 6 #[.int .i64 a, .int .i64 b, .slice A cells.length c, .int .i64 most] W fun e w' => e = .returned (.tuple #[.slice none 0 0, .int .i64 4]) ∧ w' = W := by
  have hc := check_any a b A c cells W B0 hm hA
  rw [chkE_val (puzB_true.2 hok)] at hc
  have HC := hide hc
  clear hc hA hok
  by_cases h1 : most < 1
  · have d1 : decide (most < 1) = true := by simp [h1]
    clear hbad h1
    go_enter Tryd.func6, Tryd.ntmps6
    go_wp2_with (go_at_call 8; refine HC.out.mono ?_; rintro e w2 ⟨rfl, hw2⟩; rw [hw2]; clear hw2; simp only [cond_true])
    go_ret2
    exact ⟨rfl, rfl⟩
  · have d1 : decide (most < 1) = false := decide_eq_false h1
    have d2 : decide (most > 20) = true := decide_eq_true (by omega)
    clear hbad h1
    go_enter Tryd.func6, Tryd.ntmps6
    go_wp2_with (go_at_call 8; refine HC.out.mono ?_; rintro e w2 ⟨rfl, hw2⟩; rw [hw2]; clear hw2; simp only [cond_true])
    go_ret2
    exact ⟨rfl, rfl⟩
set_option maxHeartbeats 2000000 in
set_option maxRecDepth 100000 in
theorem solveE_ok (r k most : Nat) (A : Option Addr) (c : Nat) (cells : List Int) (W : World) (hA : Cells W W.heap.size A (ints cells)) (hT : TabAt 1 Lib.deBruijn64tab W) (hr : 0 < r) (hk : 0 < k) (hr3 : r ≤ 3) (hk3 : k ≤ 3) (hl : cells.length = r * k * (r * k))
    (hin : ∀ j, j < cells.length → 0 ≤ gat cells j ∧ gat cells j ≤ (r * k : Nat)) (hok : PuzOk r k cells) (hm0 : 0 < most) (hm : most ≤ 20) :
    Calls Tryd.prog 6 #[.int .i64 r, .int .i64 k, .slice A cells.length c, .int .i64 most] W fun e w' =>
      ∃ A' c', e = .returned (.tuple #[.slice A' (answers r k cells most).length c', .int .i64 0]) ∧ (answers r k cells most).length ≤ c' ∧ Rows2 w' w'.heap.size A' (answers r k cells most) ∧ Below W.heap.size W w' := by
  have hn9 : r * k ≤ 9 := Nat.le_trans (Nat.mul_le_mul hr3 hk3) (by decide)
  have hN81 : cells.length ≤ 81 := by rw [hl]; exact Nat.mul_le_mul hn9 hn9
  have hc := check_any r k A c cells W _ (by omega) hA
  rw [chkE_val (puzB_true.2 hok)] at hc
  have HC := hide hc
  have HS := hide (solve_any r k most A c cells W hr hk hr3 hk3 hl hin hm0 (by omega) hA hT)
  have d1 : decide ((most : Int) < 1) = false := decide_eq_false (by omega)
  have d2 : decide ((most : Int) > 20) = false := decide_eq_false (by omega)
  clear hc hA hT hok hin hl
  go_enter Tryd.func6, Tryd.ntmps6
  go_wp2_with (first | (go_at_call 8; refine HC.out.mono ?_; rintro e w2 ⟨rfl, hw2⟩; rw [hw2]; clear hw2; simp only [cond_true]) | (go_at_call 13; refine HS.out.mono ?_; rintro e w3 ⟨A', c', rfl, hle, hrows, hb3⟩))
  go_ret2
  exact ⟨A', c', rfl, hle, hrows, hb3⟩
end Go.Proofs.YtfoehijlafooaaaDoor
