/- gamelaw.PuzzleSolves walked -/
import Derived.Test.YtfoehijlafooaaaDoorPzSolveE
import Derived.Test.YtfoehijlafooaaaDoorSameInt
namespace Go.Proofs.YtfoehijlafooaaaDoor
open Go.RowKit

theorem solves_bad (a b most : Int) (A : Option Addr) (c : Nat) (cells : List Int) (W : World) (B0 : Nat) (hm : cells.length ≤ 9223372036854775807) (hA : Cells W B0 A (ints cells)) (hbad : ¬ PuzOk a b cells) :
    Calls Tryd.prog 3 #[.int .i64 a, .int .i64 b, .slice A cells.length c, .int .i64 most] W fun e w' => e = .returned (.bool true) ∧ w' = W := by
  have hc := check_any a b A c cells W B0 hm hA
  rw [chkE_val (puzB_false.2 hbad)] at hc
  have HC := hide hc
  have hp := puzzle_any a b A c cells W B0 hm hA
  rw [puzB_false.2 hbad] at hp
  have HP := hide hp
  have HS := hide (solveE_bad a b most A c cells W B0 hm hA hbad)
  clear hc hp hA hbad
  obtain ⟨b1, hb1⟩ : ∃ b1, decide (most < 1) = b1 := ⟨_, rfl⟩
  obtain ⟨b2, hb2⟩ : ∃ b2, decide (most > 20) = b2 := ⟨_, rfl⟩
  cases b1 <;> cases b2 <;>
  · go_enter Tryd.func3, Tryd.ntmps3
    go_wp2_with (first
      | (go_at_call 6; refine HS.out.mono ?_; rintro e w2 ⟨rfl, hw2⟩; rw [hw2]; clear hw2)
      | (go_at_call 7; refine HP.out.mono ?_; rintro e w2 ⟨rfl, hw2⟩; rw [hw2]; clear hw2)
      | (go_at_call 8; refine HC.out.mono ?_; rintro e w2 ⟨rfl, hw2⟩; rw [hw2]; clear hw2; simp only [cond_false]))
    go_ret
    exact ⟨rfl, rfl⟩
theorem solves_range (a b most : Int) (A : Option Addr) (c : Nat) (cells : List Int) (W : World) (B0 : Nat) (hm : cells.length ≤ 9223372036854775807) (hA : Cells W B0 A (ints cells)) (hok : PuzOk a b cells) (hbad : most < 1 ∨ 20 < most) :
    Calls Tryd.prog 3 #[.int .i64 a, .int .i64 b, .slice A cells.length c, .int .i64 most] W fun e w' => e = .returned (.bool true) ∧ w' = W := by
  have hc := check_any a b A c cells W B0 hm hA
  rw [chkE_val (puzB_true.2 hok)] at hc
  have HC := hide hc
  have hp := puzzle_any a b A c cells W B0 hm hA
  rw [puzB_true.2 hok] at hp
  have HP := hide hp
  have HS := hide (solveE_range a b most A c cells W B0 hm hA hok hbad)
  have hd : decide (most < 1) = true ∨ (decide (most < 1) = false ∧ decide (most > 20) = true) := by
    by_cases h : most < 1
    · exact .inl (decide_eq_true h)
    · exact .inr ⟨decide_eq_false h, decide_eq_true (by omega)⟩
  clear hc hp hA hok hbad
  rcases hd with hd1 | ⟨hd1, hd2⟩
  · go_enter Tryd.func3, Tryd.ntmps3
    go_wp2_with (first
      | (go_at_call 6; refine HS.out.mono ?_; rintro e w2 ⟨rfl, hw2⟩; rw [hw2]; clear hw2)
      | (go_at_call 7; refine HP.out.mono ?_; rintro e w2 ⟨rfl, hw2⟩; rw [hw2]; clear hw2)
      | (go_at_call 8; refine HC.out.mono ?_; rintro e w2 ⟨rfl, hw2⟩; rw [hw2]; clear hw2; simp only [cond_true]))
    go_ret
    exact ⟨rfl, rfl⟩
  · go_enter Tryd.func3, Tryd.ntmps3
    go_wp2_with (first
      | (go_at_call 6; refine HS.out.mono ?_; rintro e w2 ⟨rfl, hw2⟩; rw [hw2]; clear hw2)
      | (go_at_call 7; refine HP.out.mono ?_; rintro e w2 ⟨rfl, hw2⟩; rw [hw2]; clear hw2)
      | (go_at_call 8; refine HC.out.mono ?_; rintro e w2 ⟨rfl, hw2⟩; rw [hw2]; clear hw2; simp only [cond_true]))
    go_ret
    exact ⟨rfl, rfl⟩
theorem rows_len {r k most : Nat} {cells : List Int} : (answers r k cells most).length ≤ most := by
  unfold answers
  split
  · exact addT_len
  · simp
theorem sols_len {r k : Nat} : ∀ (m i : Nat) (now : List Int), ∀ s ∈ sols r k m i now, s.length = now.length
  | 0, _, now, s, h => by simp [sols] at h; rw [h]
  | m + 1, i, now, s, h => by
    rw [sols] at h
    split at h
    · exact sols_len m _ _ s h
    · obtain ⟨c, _, hs⟩ := List.mem_flatMap.1 h
      have := sols_len m _ _ s hs
      rw [this, List.length_set]
theorem answers_len {r k most : Nat} {cells : List Int} : ∀ s ∈ answers r k cells most, s.length = cells.length := by
  intro s hs
  unfold answers at hs
  split at hs
  · unfold addT at hs
    exact sols_len _ _ _ s (List.mem_of_mem_take hs)
  · simp at hs

set_option maxHeartbeats 1000000 in
set_option maxRecDepth 100000 in
theorem solves_ok (r k most : Nat) (A : Option Addr) (c : Nat) (cells : List Int) (W : World) (hA : Cells W W.heap.size A (ints cells)) (hT : TabAt 1 Lib.deBruijn64tab W) (hr : 0 < r) (hk : 0 < k) (hr3 : r ≤ 3) (hk3 : k ≤ 3) (hl : cells.length = r * k * (r * k))
    (hin : ∀ j, j < cells.length → 0 ≤ gat cells j ∧ gat cells j ≤ (r * k : Nat)) (hok : PuzOk r k cells) (hm0 : 0 < most) (hm : most ≤ 20) :
    Calls Tryd.prog 3 #[.int .i64 r, .int .i64 k, .slice A cells.length c, .int .i64 most] W fun e w' => e = .returned (.bool true) ∧ Below W.heap.size W w' := by
  have hn9 : r * k ≤ 9 := Nat.le_trans (Nat.mul_le_mul hr3 hk3) (by decide)
  have hN81 : cells.length ≤ 81 := by rw [hl]; exact Nat.mul_le_mul hn9 hn9
  have HC := hide (show ∀ w, Below W.heap.size W w → Calls Tryd.prog 8 #[.int .i64 r, .int .i64 k, .slice A cells.length c] w fun e w' => e = .returned (.int .i64 0) ∧ w' = w from fun w hb => by
    have h := check_any r k A c cells w W.heap.size (by omega) (hA.below hb)
    rw [chkE_val (puzB_true.2 hok)] at h
    exact h)
  have HP := hide (show ∀ w, Below W.heap.size W w → Calls Tryd.prog 7 #[.int .i64 r, .int .i64 k, .slice A cells.length c] w fun e w' => e = .returned (.bool true) ∧ w' = w from fun w hb => by
    have h := puzzle_any r k A c cells w W.heap.size (by omega) (hA.below hb)
    rw [puzB_true.2 hok] at h
    exact h)
  have HS := hide (solveE_ok r k most A c cells W hA hT hr hk hr3 hk3 hl hin hok hm0 hm)
  have HM := hide (fun w (hb : Below W.heap.size W w) => solutions_any r k most A c cells w hr hk hr3 hk3 hl hin (by omega) ((hA.below hb).more hb.size))
  have d1 : decide ((most : Int) < 1) = false := decide_eq_false (by omega)
  have d2 : decide ((most : Int) > 20) = false := decide_eq_false (by omega)
  have hlen := rows_len (r := r) (k := k) (most := most) (cells := cells)
  have hal := answers_len (r := r) (k := k) (most := most) (cells := cells)
  obtain ⟨rows, hrows⟩ : ∃ rows, answers r k cells most = rows := ⟨_, rfl⟩
  rw [hrows] at HS hlen hal
  simp only [hrows] at HM
  have Hal := hide hal
  clear hA hT hok hin hl hrows hal
  go_enter Tryd.func3, Tryd.ntmps3
  go_wp2_with (first
      | (go_at_call 6; refine HS.out.mono ?_; rintro e w2 ⟨A1, c1, rfl, hle1, hr1, hb1⟩)
      | (go_at_call 7; refine (HP.out _ hb1).mono ?_; rintro e w3 ⟨rfl, hw3⟩; rw [hw3]; clear hw3)
      | (go_at_call 8; refine (HC.out _ hb1).mono ?_; rintro e w3 ⟨rfl, hw3⟩; rw [hw3]; clear hw3)
      | (go_at_call 9; refine (HM.out _ hb1).mono ?_; rintro e w4 ⟨A2, c2, rfl, hle2, hr2, hb2⟩))
  have Hr1 := hide (hr1.below hb2)
  have Hr2 := hide hr2
  have Hb := hide (hb1.trans (hb2.mono hb1.size))
  clear hr1 hr2 hb1 hb2
  go_loopw [63] (fun idx wr => ∃ q n : Nat, q ≤ rows.length ∧ idx = .int .i64 q ∧ wr = w4.drewN n) (fun idx _ => rows.length - (intOf idx).toNat)
  case atStart => exact ⟨0, 0, by omega, rfl, rfl⟩
  case round =>
    obtain ⟨q, nd, hq, rfl, rfl⟩ := hrel
    by_cases hlt : q < rows.length
    · obtain ⟨x1, o1, rfl, -, B1, k1, -, y1, z1⟩ := Hr1.out.at_ hlt
      obtain ⟨x2, o2, rfl, -, B2, k2, -, y2, z2⟩ := Hr2.out.at_ hlt
      have hql := Hal.out _ (List.getElem_mem hlt)
      obtain ⟨lq, hlq⟩ : ∃ lq, rows[q] = lq := ⟨_, rfl⟩
      rw [hlq] at y1 z1 y2 z2 hql
      clear hlq
      have hsame := fun n => same_int B1 B2 k1 k2 lq lq (w4.drewN n) _ _ (by omega) (by omega) z1 z2
      simp only [decide_true] at hsame
      have HSame := hide hsame
      clear hsame z1 z2 hql
      go_wp2_with fail
      obtain ⟨w5, hw5⟩ : ∃ w5, w4.drewN nd = w5 := ⟨_, rfl⟩
      have v1 : w5.cell? ⟨x1, o1 + q, none⟩ = some (.slice B1 lq.length k1) := by rw [← hw5]; exact y1
      have v2 : w5.cell? ⟨x2, o2 + q, none⟩ = some (.slice B2 lq.length k2) := by rw [← hw5]; exact y2
      have HS5 := hide (show ∀ n, Calls Tryd.prog 10 #[.slice B1 lq.length k1, .slice B2 lq.length k2] (w5.drewN n) fun e w' => e = .returned (.bool true) ∧ ∃ m, w' = (w5.drewN n).drewN m from fun n => by
        have h := HSame.out (nd + n)
        rw [← World.drewN_drewN, hw5] at h
        exact h)
      rw [hw5]
      have Hw5 := hide hw5
      clear hw5 y1 y2 HSame
      go_quiet ((go_at_call 10; exact quiet_call (HS5.out _)))
      go_wp2_with fail
      go_roundw
      case rel => exact ⟨q + 1, _, by omega, by go_num, by rw [← Hw5.out]; exact World.drewN_drewN _ _ _⟩
      case measure => simp [intOf]; omega
    · go_wp2_with fail
      go_ret
      exact ⟨rfl, below_drewN Hb.out _⟩
theorem solves_any (a b most : Int) (A : Option Addr) (c : Nat) (cells : List Int) (W : World) (hm : cells.length ≤ 9223372036854775807) (hA : Cells W W.heap.size A (ints cells)) (hT : TabAt 1 Lib.deBruijn64tab W) :
    Calls Tryd.prog 3 #[.int .i64 a, .int .i64 b, .slice A cells.length c, .int .i64 most] W fun e w' => e = .returned (.bool true) ∧ Below W.heap.size W w' := by
  by_cases hok : PuzOk a b cells
  · by_cases hr : 1 ≤ most ∧ most ≤ 20
    · have hok0 := hok
      obtain ⟨r, k, rfl, rfl, h1, h2, h3, h4, h5, h6⟩ := puz_nat hok
      obtain ⟨mo, rfl⟩ := Int.eq_ofNat_of_zero_le (show 0 ≤ most by omega)
      exact solves_ok r k mo A c cells W hA hT h1 h3 h2 h4 h5 h6 hok0 (by omega) (by omega)
    · refine (solves_range a b most A c cells W _ hm hA hok ?_).mono fun e w' h => ⟨h.1, by rw [h.2]; exact Below.refl _ _⟩
      by_cases h1 : most < 1
      · exact .inl h1
      · exact .inr (by omega)
  · exact (solves_bad a b most A c cells W _ hm hA hok).mono fun e w' h => ⟨h.1, by rw [h.2]; exact Below.refl _ _⟩
end Go.Proofs.YtfoehijlafooaaaDoor
