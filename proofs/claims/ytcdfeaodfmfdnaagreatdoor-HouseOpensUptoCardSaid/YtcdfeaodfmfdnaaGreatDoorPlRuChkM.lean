/- gameref.hand board.Check: is a position right? gameref.Position: is a position right? rules.Check rules.Check: its loops gameref.Rules -/
import Derived.Test.YtcdfeaodfmfdnaaGreatDoorPlBoardHand
import Derived.Test.YtcdfeaodfmfdnaaGreatDoorPlRuM
namespace Go.Proofs.YtcdfeaodfmfdnaaGreatDoor
open Go.RowKit
set_option maxHeartbeats 1000000 in
set_option maxRecDepth 20000 in
theorem rhand_any (s : ByteArray) (w : World) (hs : s.size ≤ 9223372036854775807) : Calls Tryz.prog 84 #[.string s] w fun e w' => e = .returned (.bool (handB s)) ∧ ∃ n, w' = w.drewN n := by
  have Hu := hide fun n W => big_any n W
  by_cases h8 : s.size ≤ 8
  case neg =>
    have Hf := hide (hand_long h8)
    have d1 : decide ((s.size : Int) > 8) = true := by simp; omega
    clear h8
    go_enter Tryz.func84, Tryz.ntmps84
    go_wp2_with fail
    go_ret
    exact ⟨by rw [Hf.out] <;> rfl, 0, rfl⟩
  have d1 : decide ((s.size : Int) > 8) = false := by simp; omega
  go_enter Tryz.func84, Tryz.ntmps84
  go_wp2_with fail
  go_loopw [3] (fun i wr => ∃ k : Nat, k ≤ s.size ∧ i = .int .i64 k ∧ HandTo s k ∧ ∃ n, wr = w.drewN n) (fun i _ => s.size - (intOf i).toNat)
  case atStart => exact ⟨0, by omega, rfl, ⟨fun j _ h => by omega, fun j _ h => by omega⟩, 0, rfl⟩
  case round =>
    rename World => wr
    obtain ⟨k, hk, rfl, hto, hwr⟩ := hrel
    have Hto := hide hto
    have Hwr := hide hwr
    clear hto hwr
    by_cases hlk : k < s.size
    · obtain ⟨v, hv⟩ : ∃ v, upB s[k].toNat = v := ⟨_, rfl⟩
      have j1 : (0 : Int) ≤ (k : Int) := by omega
      have j2 : (k : Int) < (s.size : Int) := by omega
      cases v
      · have Hf := hide (hand_not_up_ hlk hv)
        go_wp2_with fail
        go_quiet ((go_at_call 40; exact Calls.quiet_of_same (Hu.out _ _)))
        go_wp2_with fail
        go_ret
        exact ⟨by rw [Hf.out] <;> rfl, drewn_on Hwr.out _⟩
      · by_cases hk0 : k = 0
        · subst hk0
          have Hn := hide (handTo_next hlk Hto.out hv (fun h => by omega))
          go_wp2_with fail
          go_quiet ((go_at_call 40; exact Calls.quiet_of_same (Hu.out _ _)))
          go_wp2_with fail
          go_roundw
          case rel => exact ⟨1, by omega, rfl, Hn.out, drewn_on Hwr.out _⟩
          case measure => simp [intOf]; omega
        · obtain ⟨q, rfl⟩ : ∃ q, k = q + 1 := ⟨k - 1, by omega⟩
          have c1 : ((q + 1 : Nat) : Int) = (q : Int) + 1 := by omega
          rw [c1] at j1 j2 ⊢
          have j3 : (0 : Int) < (q : Int) + 1 := by omega
          have j4 : IntKind.i64.wrap ((q : Int) + 1 - 1) = (q : Int) := by rw [show (q : Int) + 1 - 1 = q by omega]; exact IntWalk.i64_in _ (by omega)
          have hq : q < s.size := by omega
          clear c1 hk0
          by_cases ho : s[q + 1].toNat < s[q].toNat
          · have Hf := hide (hand_not_in_order hlk ho)
            have d1 : decide ((s[q].toNat : Int) > (s[q + 1].toNat : Int)) = true := by simp; omega
            go_wp2_with fail
            go_quiet ((go_at_call 40; exact Calls.quiet_of_same (Hu.out _ _)))
            go_wp2_with fail
            go_ret
            exact ⟨by rw [Hf.out] <;> rfl, drewn_on Hwr.out _⟩
          · have Hn := hide (handTo_next hlk Hto.out hv (fun h => by simp; omega))
            have d1 : decide ((s[q].toNat : Int) > (s[q + 1].toNat : Int)) = false := by simp; omega
            go_wp2_with fail
            go_quiet ((go_at_call 40; exact Calls.quiet_of_same (Hu.out _ _)))
            go_wp2_with fail
            go_roundw
            case rel => exact ⟨q + 2, by omega, by go_num, Hn.out, drewn_on Hwr.out _⟩
            case measure => simp [intOf]; omega
    · obtain rfl : k = s.size := by omega
      have Hf := hide (handTo_all Hto.out h8)
      go_wp2_with fail
      go_ret
      exact ⟨by rw [Hf.out] <;> rfl, Hwr.out⟩
end Go.Proofs.YtcdfeaodfmfdnaaGreatDoor
namespace Go.Proofs.YtcdfeaodfmfdnaaGreatDoor
open Go.RowKit

theorem below_fresh (w : World) (o : Obj) : Below w.heap.size w (w.alloc o) := ((Only.refl (fun _ => False) w).alloc o).below_ (fun _ h => h.elim) (Nat.le_refl _)
theorem mul_in {w h : Int} (p1 : 1 ≤ w) (p2 : w ≤ 8) (p3 : 1 ≤ h) (p4 : h ≤ 8) : 0 ≤ w * h ∧ w * h ≤ 64 :=
  ⟨Int.mul_nonneg (by omega) (by omega), Int.le_trans (Int.mul_le_mul p2 p4 (by omega) (by omega)) (by omega)⟩
set_option maxHeartbeats 1000000 in
set_option maxRecDepth 100000 in
theorem chk_f1 (w h t : Int) (c h0 h1 : ByteArray) (W : World) (_hc9 : c.size ≤ 9223372036854775807) (_l0 : h0.size ≤ 9223372036854775807) (_l1 : h1.size ≤ 9223372036854775807) (d1 : decide (w < 1) = true) :
    Calls Tryz.prog 43 #[.agg #[.int .i64 w, .int .i64 h, .string c, .int .i64 t, .string h0, .string h1]] W fun e w' => e = .returned (.int .i64 1) ∧ Below W.heap.size W w' := by
  go_enter Tryz.func43, Tryz.ntmps43
  go_wp2_with fail
  go_ret
  exact ⟨rfl, below_fresh _ _⟩
set_option maxHeartbeats 1000000 in
set_option maxRecDepth 100000 in
theorem chk_f2 (w h t : Int) (c h0 h1 : ByteArray) (W : World) (_hc9 : c.size ≤ 9223372036854775807) (_l0 : h0.size ≤ 9223372036854775807) (_l1 : h1.size ≤ 9223372036854775807) (d1 : decide (w < 1) = false) (d2 : decide (w > 8) = true) :
    Calls Tryz.prog 43 #[.agg #[.int .i64 w, .int .i64 h, .string c, .int .i64 t, .string h0, .string h1]] W fun e w' => e = .returned (.int .i64 1) ∧ Below W.heap.size W w' := by
  go_enter Tryz.func43, Tryz.ntmps43
  go_wp2_with fail
  go_ret
  exact ⟨rfl, below_fresh _ _⟩
set_option maxHeartbeats 1000000 in
set_option maxRecDepth 100000 in
theorem chk_f3 (w h t : Int) (c h0 h1 : ByteArray) (W : World) (_hc9 : c.size ≤ 9223372036854775807) (_l0 : h0.size ≤ 9223372036854775807) (_l1 : h1.size ≤ 9223372036854775807) (d1 : decide (w < 1) = false) (d2 : decide (w > 8) = false) (d3 : decide (h < 1) = true) :
    Calls Tryz.prog 43 #[.agg #[.int .i64 w, .int .i64 h, .string c, .int .i64 t, .string h0, .string h1]] W fun e w' => e = .returned (.int .i64 1) ∧ Below W.heap.size W w' := by
  go_enter Tryz.func43, Tryz.ntmps43
  go_wp2_with fail
  go_ret
  exact ⟨rfl, below_fresh _ _⟩
set_option maxHeartbeats 1000000 in
set_option maxRecDepth 100000 in
theorem chk_f4 (w h t : Int) (c h0 h1 : ByteArray) (W : World) (_hc9 : c.size ≤ 9223372036854775807) (_l0 : h0.size ≤ 9223372036854775807) (_l1 : h1.size ≤ 9223372036854775807) (d1 : decide (w < 1) = false) (d2 : decide (w > 8) = false) (d3 : decide (h < 1) = false) (d4 : decide (h > 8) = true) :
    Calls Tryz.prog 43 #[.agg #[.int .i64 w, .int .i64 h, .string c, .int .i64 t, .string h0, .string h1]] W fun e w' => e = .returned (.int .i64 1) ∧ Below W.heap.size W w' := by
  go_enter Tryz.func43, Tryz.ntmps43
  go_wp2_with fail
  go_ret
  exact ⟨rfl, below_fresh _ _⟩
set_option maxHeartbeats 1000000 in
set_option maxRecDepth 100000 in
theorem chk_f5 (w h t : Int) (c h0 h1 : ByteArray) (W : World) (_hc9 : c.size ≤ 9223372036854775807) (_l0 : h0.size ≤ 9223372036854775807) (_l1 : h1.size ≤ 9223372036854775807) (m1 : 0 ≤ w * h) (m2 : w * h ≤ 64) (d1 : decide (w < 1) = false) (d2 : decide (w > 8) = false) (d3 : decide (h < 1) = false) (d4 : decide (h > 8) = false) (d5 : ((c.size : Int) != w * h) = true) :
    Calls Tryz.prog 43 #[.agg #[.int .i64 w, .int .i64 h, .string c, .int .i64 t, .string h0, .string h1]] W fun e w' => e = .returned (.int .i64 1) ∧ Below W.heap.size W w' := by
  go_enter Tryz.func43, Tryz.ntmps43
  go_wp2_with fail
  go_ret
  exact ⟨rfl, below_fresh _ _⟩
set_option maxHeartbeats 1000000 in
set_option maxRecDepth 100000 in
theorem chk_f6 (w h t : Int) (c h0 h1 : ByteArray) (W : World) (_hc9 : c.size ≤ 9223372036854775807) (_l0 : h0.size ≤ 9223372036854775807) (_l1 : h1.size ≤ 9223372036854775807) (m1 : 0 ≤ w * h) (m2 : w * h ≤ 64) (d1 : decide (w < 1) = false) (d2 : decide (w > 8) = false) (d3 : decide (h < 1) = false) (d4 : decide (h > 8) = false) (d5 : ((c.size : Int) != w * h) = false) (d6 : decide (t < 0) = true) :
    Calls Tryz.prog 43 #[.agg #[.int .i64 w, .int .i64 h, .string c, .int .i64 t, .string h0, .string h1]] W fun e w' => e = .returned (.int .i64 1) ∧ Below W.heap.size W w' := by
  go_enter Tryz.func43, Tryz.ntmps43
  go_wp2_with fail
  go_ret
  exact ⟨rfl, below_fresh _ _⟩
set_option maxHeartbeats 1000000 in
set_option maxRecDepth 100000 in
theorem chk_f7 (w h t : Int) (c h0 h1 : ByteArray) (W : World) (_hc9 : c.size ≤ 9223372036854775807) (_l0 : h0.size ≤ 9223372036854775807) (_l1 : h1.size ≤ 9223372036854775807) (m1 : 0 ≤ w * h) (m2 : w * h ≤ 64) (d1 : decide (w < 1) = false) (d2 : decide (w > 8) = false) (d3 : decide (h < 1) = false) (d4 : decide (h > 8) = false) (d5 : ((c.size : Int) != w * h) = false) (d6 : decide (t < 0) = false) (d7 : decide (t > 1) = true) :
    Calls Tryz.prog 43 #[.agg #[.int .i64 w, .int .i64 h, .string c, .int .i64 t, .string h0, .string h1]] W fun e w' => e = .returned (.int .i64 1) ∧ Below W.heap.size W w' := by
  go_enter Tryz.func43, Tryz.ntmps43
  go_wp2_with fail
  go_ret
  exact ⟨rfl, below_fresh _ _⟩
set_option maxHeartbeats 1000000 in
set_option maxRecDepth 100000 in
theorem chk_g (w h t : Int) (c h0 h1 : ByteArray) (W : World) (_hc9 : c.size ≤ 9223372036854775807) (l0 : h0.size ≤ 9223372036854775807) (_l1 : h1.size ≤ 9223372036854775807) (m1 : 0 ≤ w * h) (m2 : w * h ≤ 64) (d1 : decide (w < 1) = false) (d2 : decide (w > 8) = false) (d3 : decide (h < 1) = false) (d4 : decide (h > 8) = false) (d5 : ((c.size : Int) != w * h) = false) (d6 : decide (t < 0) = false) (d7 : decide (t > 1) = false) (p8 : handB h0 = false) :
    Calls Tryz.prog 43 #[.agg #[.int .i64 w, .int .i64 h, .string c, .int .i64 t, .string h0, .string h1]] W fun e w' => e = .returned (.int .i64 1) ∧ Below W.heap.size W w' := by
  have Hh := hide fun s W hs => bhand_any s W hs
  go_enter Tryz.func43, Tryz.ntmps43
  go_wp2_with fail
  refine (Hh.out h0 _ l0).mono ?_
  rintro e w1 ⟨rfl, n1, rfl⟩
  rw [p8]
  go_wp2_with fail
  go_ret
  exact ⟨rfl, below_drewN (below_fresh _ _) _⟩
set_option maxHeartbeats 1000000 in
set_option maxRecDepth 100000 in
theorem chk_h (w h t : Int) (c h0 h1 : ByteArray) (W : World) (_hc9 : c.size ≤ 9223372036854775807) (l0 : h0.size ≤ 9223372036854775807) (l1 : h1.size ≤ 9223372036854775807) (m1 : 0 ≤ w * h) (m2 : w * h ≤ 64) (d1 : decide (w < 1) = false) (d2 : decide (w > 8) = false) (d3 : decide (h < 1) = false) (d4 : decide (h > 8) = false) (d5 : ((c.size : Int) != w * h) = false) (d6 : decide (t < 0) = false) (d7 : decide (t > 1) = false) (p8 : handB h0 = true) (p9 : handB h1 = false) :
    Calls Tryz.prog 43 #[.agg #[.int .i64 w, .int .i64 h, .string c, .int .i64 t, .string h0, .string h1]] W fun e w' => e = .returned (.int .i64 1) ∧ Below W.heap.size W w' := by
  have Hh := hide fun s W hs => bhand_any s W hs
  go_enter Tryz.func43, Tryz.ntmps43
  go_wp2_with fail
  refine (Hh.out h0 _ l0).mono ?_
  rintro e w1 ⟨rfl, n1, rfl⟩
  rw [p8]
  go_wp2_with fail
  refine (Hh.out h1 _ l1).mono ?_
  rintro e w2 ⟨rfl, n2, rfl⟩
  rw [p9]
  go_wp2_with fail
  go_ret
  exact ⟨rfl, below_drewN (below_fresh _ _) _⟩
set_option maxHeartbeats 1000000 in
set_option maxRecDepth 100000 in
theorem chk_c (w h t : Int) (c h0 h1 : ByteArray) (W : World) (hc9 : c.size ≤ 9223372036854775807) (l0 : h0.size ≤ 9223372036854775807) (l1 : h1.size ≤ 9223372036854775807) (m1 : 0 ≤ w * h) (m2 : w * h ≤ 64) (d1 : decide (w < 1) = false) (d2 : decide (w > 8) = false) (d3 : decide (h < 1) = false) (d4 : decide (h > 8) = false) (d5 : ((c.size : Int) != w * h) = false) (d6 : decide (t < 0) = false) (d7 : decide (t > 1) = false) (p8 : handB h0 = true) (p9 : handB h1 = true) (p10 : ¬ CellsOk c.data.toList) :
    Calls Tryz.prog 43 #[.agg #[.int .i64 w, .int .i64 h, .string c, .int .i64 t, .string h0, .string h1]] W fun e w' => e = .returned (.int .i64 1) ∧ Below W.heap.size W w' := by
  have Hh := hide fun s W hs => bhand_any s W hs
  have Hc := hide fun n W => cell_any n W
  have P10 := hide p10
  clear p10
  go_enter Tryz.func43, Tryz.ntmps43
  go_wp2_with fail
  refine (Hh.out h0 _ l0).mono ?_
  rintro e w1 ⟨rfl, n1, rfl⟩
  rw [p8]
  go_wp2_with fail
  refine (Hh.out h1 _ l1).mono ?_
  rintro e w2 ⟨rfl, n2, rfl⟩
  rw [p9]
  go_wp2_with fail
  go_loop [60] (fun i => ∃ k : Nat, k ≤ c.size ∧ i = .int .i64 k ∧ ∀ j (h : j < c.size), j < k → cellB c[j].toNat = true) (fun i => c.size - (intOf i).toNat)
  case atStart => exact ⟨0, by omega, rfl, fun j _ h => by omega⟩
  case round =>
    obtain ⟨k, hk, rfl, hto⟩ := hrel
    have Hto := hide hto
    clear hto
    by_cases hlk : k < c.size
    · by_cases hcell : cellB c[k].toNat = true
      · skip
        have Hnx := hide (fun j (h : j < c.size) (hj : j < k + 1) => show cellB c[j].toNat = true from by
          by_cases e : j = k
          · subst e; exact hcell
          · exact Hto.out j h (by omega))
        go_wp2_with (first | (go_at_call 87; refine (Hc.out _ _).mono ?_; rintro e w' ⟨rfl, rfl⟩) | fail)
        go_round
        case rel => exact ⟨k + 1, by omega, by go_num, Hnx.out⟩
        case measure => simp [intOf]; omega
      · have hcell2 : cellB c[k].toNat = false := by simpa using hcell
        clear hcell
        go_wp2_with (first | (go_at_call 87; refine (Hc.out _ _).mono ?_; rintro e w' ⟨rfl, rfl⟩) | fail)
        go_ret
        exact ⟨rfl, below_drewN (below_fresh _ _) _⟩
    · exact absurd (fun j hj => Hto.out j hj (by have : c.data.toList.length = c.size := rfl; omega)) P10.out
set_option maxHeartbeats 1000000 in
set_option maxRecDepth 100000 in
theorem chk_k (w h t : Int) (c h0 h1 : ByteArray) (W : World) (hc9 : c.size ≤ 9223372036854775807) (l0 : h0.size ≤ 9223372036854775807) (l1 : h1.size ≤ 9223372036854775807) (m1 : 0 ≤ w * h) (m2 : w * h ≤ 64) (d1 : decide (w < 1) = false) (d2 : decide (w > 8) = false) (d3 : decide (h < 1) = false) (d4 : decide (h > 8) = false) (d5 : ((c.size : Int) != w * h) = false) (d6 : decide (t < 0) = false) (d7 : decide (t > 1) = false) (p8 : handB h0 = true) (p9 : handB h1 = true) (p10 : CellsOk c.data.toList) :
    Calls Tryz.prog 43 #[.agg #[.int .i64 w, .int .i64 h, .string c, .int .i64 t, .string h0, .string h1]] W fun e w' => e = .returned (.int .i64 0) ∧ Below W.heap.size W w' := by
  have Hh := hide fun s W hs => bhand_any s W hs
  have Hc := hide fun n W => cell_any n W
  have P10 := hide p10
  clear p10
  go_enter Tryz.func43, Tryz.ntmps43
  go_wp2_with fail
  refine (Hh.out h0 _ l0).mono ?_
  rintro e w1 ⟨rfl, n1, rfl⟩
  rw [p8]
  go_wp2_with fail
  refine (Hh.out h1 _ l1).mono ?_
  rintro e w2 ⟨rfl, n2, rfl⟩
  rw [p9]
  go_wp2_with fail
  go_loop [60] (fun i => ∃ k : Nat, k ≤ c.size ∧ i = .int .i64 k) (fun i => c.size - (intOf i).toNat)
  case atStart => exact ⟨0, by omega, rfl⟩
  case round =>
    obtain ⟨k, hk, rfl⟩ := hrel
    by_cases hlk : k < c.size
    · by_cases hcell : cellB c[k].toNat = true
      · skip
        go_wp2_with (first | (go_at_call 87; refine (Hc.out _ _).mono ?_; rintro e w' ⟨rfl, rfl⟩) | fail)
        go_round
        case rel => exact ⟨k + 1, by omega, by go_num⟩
        case measure => simp [intOf]; omega
      · exact absurd (P10.out k hlk) hcell
    · go_wp2_with fail
      go_ret
      exact ⟨rfl, below_drewN (below_fresh _ _) _⟩
theorem chk_good (w h t : Int) (c h0 h1 : ByteArray) (W : World) (hc9 : c.size ≤ 9223372036854775807) (l0 : h0.size ≤ 9223372036854775807) (l1 : h1.size ≤ 9223372036854775807) (hp : PosOk ⟨w, h, c, t, h0, h1⟩) :
    Calls Tryz.prog 43 #[.agg #[.int .i64 w, .int .i64 h, .string c, .int .i64 t, .string h0, .string h1]] W fun e w' => e = .returned (.int .i64 0) ∧ Below W.heap.size W w' := by
  obtain ⟨p1, p2, p3, p4, p5, p6, p7, p8, p9, p10⟩ := hp
  simp only at p1 p2 p3 p4 p5 p6 p7 p8 p9 p10
  have d1 : decide (w < 1) = false := by simp; omega
  have d2 : decide (w > 8) = false := by simp; omega
  have d3 : decide (h < 1) = false := by simp; omega
  have d4 : decide (h > 8) = false := by simp; omega
  have d5 : ((c.size : Int) != w * h) = false := by simp [p5]
  obtain ⟨m1, m2⟩ := mul_in p1 p2 p3 p4
  exact chk_k w h t c h0 h1 W hc9 l0 l1 m1 m2 d1 d2 d3 d4 d5 (by simp; omega) (by simp; omega) p8 p9 p10
theorem chk_bad (w h t : Int) (c h0 h1 : ByteArray) (W : World) (hc9 : c.size ≤ 9223372036854775807) (l0 : h0.size ≤ 9223372036854775807) (l1 : h1.size ≤ 9223372036854775807) (hp : ¬ PosOk ⟨w, h, c, t, h0, h1⟩) :
    Calls Tryz.prog 43 #[.agg #[.int .i64 w, .int .i64 h, .string c, .int .i64 t, .string h0, .string h1]] W fun e w' => e = .returned (.int .i64 1) ∧ Below W.heap.size W w' := by
  by_cases p1 : 1 ≤ w
  case neg => exact chk_f1 w h t c h0 h1 W hc9 l0 l1 (by simp; omega)
  by_cases p2 : w ≤ 8
  case neg => exact chk_f2 w h t c h0 h1 W hc9 l0 l1 (by simp; omega) (by simp; omega)
  by_cases p3 : 1 ≤ h
  case neg => exact chk_f3 w h t c h0 h1 W hc9 l0 l1 (by simp; omega) (by simp; omega) (by simp; omega)
  by_cases p4 : h ≤ 8
  case neg => exact chk_f4 w h t c h0 h1 W hc9 l0 l1 (by simp; omega) (by simp; omega) (by simp; omega) (by simp; omega)
  have d1 : decide (w < 1) = false := by simp; omega
  have d2 : decide (w > 8) = false := by simp; omega
  have d3 : decide (h < 1) = false := by simp; omega
  have d4 : decide (h > 8) = false := by simp; omega
  obtain ⟨m1, m2⟩ := mul_in p1 p2 p3 p4
  by_cases p5 : (c.size : Int) = w * h
  case neg => exact chk_f5 w h t c h0 h1 W hc9 l0 l1 m1 m2 d1 d2 d3 d4 (by simp [p5])
  have d5 : ((c.size : Int) != w * h) = false := by simp [p5]
  by_cases p6 : 0 ≤ t
  case neg => exact chk_f6 w h t c h0 h1 W hc9 l0 l1 m1 m2 d1 d2 d3 d4 d5 (by simp; omega)
  have d6 : decide (t < 0) = false := by simp; omega
  by_cases p7 : t ≤ 1
  case neg => exact chk_f7 w h t c h0 h1 W hc9 l0 l1 m1 m2 d1 d2 d3 d4 d5 d6 (by simp; omega)
  have d7 : decide (t > 1) = false := by simp; omega
  by_cases p8 : handB h0 = true
  case neg => exact chk_g w h t c h0 h1 W hc9 l0 l1 m1 m2 d1 d2 d3 d4 d5 d6 d7 (by simpa using p8)
  by_cases p9 : handB h1 = true
  case neg => exact chk_h w h t c h0 h1 W hc9 l0 l1 m1 m2 d1 d2 d3 d4 d5 d6 d7 p8 (by simpa using p9)
  exact chk_c w h t c h0 h1 W hc9 l0 l1 m1 m2 d1 d2 d3 d4 d5 d6 d7 p8 p9 (fun p10 => hp ⟨p1, p2, p3, p4, p5, p6, p7, p8, p9, p10⟩)
end Go.Proofs.YtcdfeaodfmfdnaaGreatDoor
namespace Go.Proofs.YtcdfeaodfmfdnaaGreatDoor
open Go.RowKit

set_option maxHeartbeats 1000000 in
set_option maxRecDepth 100000 in
theorem pos_f1 (w h t : Int) (c h0 h1 : ByteArray) (W : World) (_hc9 : c.size ≤ 9223372036854775807) (_l0 : h0.size ≤ 9223372036854775807) (_l1 : h1.size ≤ 9223372036854775807) (d1 : decide (w < 1) = true) :
    Calls Tryz.prog 39 #[.agg #[.int .i64 w, .int .i64 h, .string c, .int .i64 t, .string h0, .string h1]] W fun e w' => e = .returned (.bool false) ∧ Below W.heap.size W w' := by
  go_enter Tryz.func39, Tryz.ntmps39
  go_wp2_with fail
  go_ret
  exact ⟨rfl, below_fresh _ _⟩
set_option maxHeartbeats 1000000 in
set_option maxRecDepth 100000 in
theorem pos_f2 (w h t : Int) (c h0 h1 : ByteArray) (W : World) (_hc9 : c.size ≤ 9223372036854775807) (_l0 : h0.size ≤ 9223372036854775807) (_l1 : h1.size ≤ 9223372036854775807) (d1 : decide (w < 1) = false) (d2 : decide (w > 8) = true) :
    Calls Tryz.prog 39 #[.agg #[.int .i64 w, .int .i64 h, .string c, .int .i64 t, .string h0, .string h1]] W fun e w' => e = .returned (.bool false) ∧ Below W.heap.size W w' := by
  go_enter Tryz.func39, Tryz.ntmps39
  go_wp2_with fail
  go_ret
  exact ⟨rfl, below_fresh _ _⟩
set_option maxHeartbeats 1000000 in
set_option maxRecDepth 100000 in
theorem pos_f3 (w h t : Int) (c h0 h1 : ByteArray) (W : World) (_hc9 : c.size ≤ 9223372036854775807) (_l0 : h0.size ≤ 9223372036854775807) (_l1 : h1.size ≤ 9223372036854775807) (d1 : decide (w < 1) = false) (d2 : decide (w > 8) = false) (d3 : decide (h < 1) = true) :
    Calls Tryz.prog 39 #[.agg #[.int .i64 w, .int .i64 h, .string c, .int .i64 t, .string h0, .string h1]] W fun e w' => e = .returned (.bool false) ∧ Below W.heap.size W w' := by
  go_enter Tryz.func39, Tryz.ntmps39
  go_wp2_with fail
  go_ret
  exact ⟨rfl, below_fresh _ _⟩
set_option maxHeartbeats 1000000 in
set_option maxRecDepth 100000 in
theorem pos_f4 (w h t : Int) (c h0 h1 : ByteArray) (W : World) (_hc9 : c.size ≤ 9223372036854775807) (_l0 : h0.size ≤ 9223372036854775807) (_l1 : h1.size ≤ 9223372036854775807) (d1 : decide (w < 1) = false) (d2 : decide (w > 8) = false) (d3 : decide (h < 1) = false) (d4 : decide (h > 8) = true) :
    Calls Tryz.prog 39 #[.agg #[.int .i64 w, .int .i64 h, .string c, .int .i64 t, .string h0, .string h1]] W fun e w' => e = .returned (.bool false) ∧ Below W.heap.size W w' := by
  go_enter Tryz.func39, Tryz.ntmps39
  go_wp2_with fail
  go_ret
  exact ⟨rfl, below_fresh _ _⟩
set_option maxHeartbeats 1000000 in
set_option maxRecDepth 100000 in
theorem pos_f5 (w h t : Int) (c h0 h1 : ByteArray) (W : World) (_hc9 : c.size ≤ 9223372036854775807) (_l0 : h0.size ≤ 9223372036854775807) (_l1 : h1.size ≤ 9223372036854775807) (m1 : 0 ≤ w * h) (m2 : w * h ≤ 64) (d1 : decide (w < 1) = false) (d2 : decide (w > 8) = false) (d3 : decide (h < 1) = false) (d4 : decide (h > 8) = false) (d5 : ((c.size : Int) != w * h) = true) :
    Calls Tryz.prog 39 #[.agg #[.int .i64 w, .int .i64 h, .string c, .int .i64 t, .string h0, .string h1]] W fun e w' => e = .returned (.bool false) ∧ Below W.heap.size W w' := by
  go_enter Tryz.func39, Tryz.ntmps39
  go_wp2_with fail
  go_ret
  exact ⟨rfl, below_fresh _ _⟩
set_option maxHeartbeats 1000000 in
set_option maxRecDepth 100000 in
theorem pos_f7 (w h t : Int) (c h0 h1 : ByteArray) (W : World) (_hc9 : c.size ≤ 9223372036854775807) (_l0 : h0.size ≤ 9223372036854775807) (_l1 : h1.size ≤ 9223372036854775807) (m1 : 0 ≤ w * h) (m2 : w * h ≤ 64) (d1 : decide (w < 1) = false) (d2 : decide (w > 8) = false) (d3 : decide (h < 1) = false) (d4 : decide (h > 8) = false) (d5 : ((c.size : Int) != w * h) = false) (d6 : (t != 0) = true) (d7 : (t != 1) = true) :
    Calls Tryz.prog 39 #[.agg #[.int .i64 w, .int .i64 h, .string c, .int .i64 t, .string h0, .string h1]] W fun e w' => e = .returned (.bool false) ∧ Below W.heap.size W w' := by
  go_enter Tryz.func39, Tryz.ntmps39
  go_wp2_with fail
  go_ret
  exact ⟨rfl, below_fresh _ _⟩
set_option maxHeartbeats 1000000 in
set_option maxRecDepth 100000 in
theorem pos_ga (w h t : Int) (c h0 h1 : ByteArray) (W : World) (_hc9 : c.size ≤ 9223372036854775807) (l0 : h0.size ≤ 9223372036854775807) (_l1 : h1.size ≤ 9223372036854775807) (m1 : 0 ≤ w * h) (m2 : w * h ≤ 64) (d1 : decide (w < 1) = false) (d2 : decide (w > 8) = false) (d3 : decide (h < 1) = false) (d4 : decide (h > 8) = false) (d5 : ((c.size : Int) != w * h) = false) (d6 : (t != 0) = false) (p8 : handB h0 = false) :
    Calls Tryz.prog 39 #[.agg #[.int .i64 w, .int .i64 h, .string c, .int .i64 t, .string h0, .string h1]] W fun e w' => e = .returned (.bool false) ∧ Below W.heap.size W w' := by
  have Hh := hide fun s W hs => rhand_any s W hs
  go_enter Tryz.func39, Tryz.ntmps39
  go_wp2_with fail
  refine (Hh.out h0 _ l0).mono ?_
  rintro e w1 ⟨rfl, n1, rfl⟩
  rw [p8]
  go_wp2_with fail
  go_ret
  exact ⟨rfl, below_drewN (below_fresh _ _) _⟩
set_option maxHeartbeats 1000000 in
set_option maxRecDepth 100000 in
theorem pos_ha (w h t : Int) (c h0 h1 : ByteArray) (W : World) (_hc9 : c.size ≤ 9223372036854775807) (l0 : h0.size ≤ 9223372036854775807) (l1 : h1.size ≤ 9223372036854775807) (m1 : 0 ≤ w * h) (m2 : w * h ≤ 64) (d1 : decide (w < 1) = false) (d2 : decide (w > 8) = false) (d3 : decide (h < 1) = false) (d4 : decide (h > 8) = false) (d5 : ((c.size : Int) != w * h) = false) (d6 : (t != 0) = false) (p8 : handB h0 = true) (p9 : handB h1 = false) :
    Calls Tryz.prog 39 #[.agg #[.int .i64 w, .int .i64 h, .string c, .int .i64 t, .string h0, .string h1]] W fun e w' => e = .returned (.bool false) ∧ Below W.heap.size W w' := by
  have Hh := hide fun s W hs => rhand_any s W hs
  go_enter Tryz.func39, Tryz.ntmps39
  go_wp2_with fail
  refine (Hh.out h0 _ l0).mono ?_
  rintro e w1 ⟨rfl, n1, rfl⟩
  rw [p8]
  go_wp2_with fail
  refine (Hh.out h1 _ l1).mono ?_
  rintro e w2 ⟨rfl, n2, rfl⟩
  rw [p9]
  go_wp2_with fail
  go_ret
  exact ⟨rfl, below_drewN (below_fresh _ _) _⟩
set_option maxHeartbeats 1000000 in
set_option maxRecDepth 100000 in
theorem pos_ca (w h t : Int) (c h0 h1 : ByteArray) (W : World) (hc9 : c.size ≤ 9223372036854775807) (l0 : h0.size ≤ 9223372036854775807) (l1 : h1.size ≤ 9223372036854775807) (m1 : 0 ≤ w * h) (m2 : w * h ≤ 64) (d1 : decide (w < 1) = false) (d2 : decide (w > 8) = false) (d3 : decide (h < 1) = false) (d4 : decide (h > 8) = false) (d5 : ((c.size : Int) != w * h) = false) (d6 : (t != 0) = false) (p8 : handB h0 = true) (p9 : handB h1 = true) (p10 : ¬ CellsOk c.data.toList) :
    Calls Tryz.prog 39 #[.agg #[.int .i64 w, .int .i64 h, .string c, .int .i64 t, .string h0, .string h1]] W fun e w' => e = .returned (.bool false) ∧ Below W.heap.size W w' := by
  have Hh := hide fun s W hs => rhand_any s W hs
  have Hc := hide fun n W => big_any n W
  have Hs := hide fun n W => small_any n W
  have P10 := hide p10
  clear p10
  go_enter Tryz.func39, Tryz.ntmps39
  go_wp2_with fail
  refine (Hh.out h0 _ l0).mono ?_
  rintro e w1 ⟨rfl, n1, rfl⟩
  rw [p8]
  go_wp2_with fail
  refine (Hh.out h1 _ l1).mono ?_
  rintro e w2 ⟨rfl, n2, rfl⟩
  rw [p9]
  go_wp2_with fail
  go_loop [3] (fun i => ∃ k : Nat, k ≤ c.size ∧ i = .int .i64 k ∧ ∀ j (h : j < c.size), j < k → cellB c[j].toNat = true) (fun i => c.size - (intOf i).toNat)
  case atStart => exact ⟨0, by omega, rfl, fun j _ h => by omega⟩
  case round =>
    obtain ⟨k, hk, rfl, hto⟩ := hrel
    have Hto := hide hto
    clear hto
    by_cases hlk : k < c.size
    · obtain ⟨b, hb⟩ : ∃ b : UInt8, c[k] = b := ⟨_, rfl⟩
      have HB := hide hb
      by_cases h46 : b.toNat = 46
      · have hcell : cellB c[k].toNat = true := by rw [hb]; simp [cellB, h46]
        have Hnx := hide (fun j (h : j < c.size) (hj : j < k + 1) => show cellB c[j].toNat = true from by
          by_cases e : j = k
          · subst e; exact hcell
          · exact Hto.out j h (by omega))
        have e46 : ((b.toNat : Int) != 46) = false := by simp; omega
        clear h46 hcell
        go_wp2_with (first | (go_at_call 40; refine (Hc.out _ _).mono ?_; rintro e w' ⟨rfl, rfl⟩) | (go_at_call 85; refine (Hs.out _ _).mono ?_; rintro e w' ⟨rfl, rfl⟩) | fail)
        go_round
        case rel => exact ⟨k + 1, by omega, by go_num, Hnx.out⟩
        case measure => simp [intOf]; omega
      have e46 : ((b.toNat : Int) != 46) = true := by simp; omega
      obtain ⟨u, hu⟩ : ∃ u, upB b.toNat = u := ⟨_, rfl⟩
      obtain ⟨l, hl⟩ : ∃ l, lowB b.toNat = l := ⟨_, rfl⟩
      cases u
      case true =>
        have hcell : cellB c[k].toNat = true := by rw [hb]; simp [cellB, hu]
        have Hnx := hide (fun j (h : j < c.size) (hj : j < k + 1) => show cellB c[j].toNat = true from by
          by_cases e : j = k
          · subst e; exact hcell
          · exact Hto.out j h (by omega))
        clear h46 hcell hl
        go_wp2_with (first | (go_at_call 40; refine (Hc.out _ _).mono ?_; rintro e w' ⟨rfl, rfl⟩) | (go_at_call 85; refine (Hs.out _ _).mono ?_; rintro e w' ⟨rfl, rfl⟩) | fail)
        go_round
        case rel => exact ⟨k + 1, by omega, by go_num, Hnx.out⟩
        case measure => simp [intOf]; omega
      cases l
      case true =>
        have hcell : cellB c[k].toNat = true := by rw [hb]; simp [cellB, hl]
        have Hnx := hide (fun j (h : j < c.size) (hj : j < k + 1) => show cellB c[j].toNat = true from by
          by_cases e : j = k
          · subst e; exact hcell
          · exact Hto.out j h (by omega))
        clear h46 hcell
        go_wp2_with (first | (go_at_call 40; refine (Hc.out _ _).mono ?_; rintro e w' ⟨rfl, rfl⟩) | (go_at_call 85; refine (Hs.out _ _).mono ?_; rintro e w' ⟨rfl, rfl⟩) | fail)
        go_round
        case rel => exact ⟨k + 1, by omega, by go_num, Hnx.out⟩
        case measure => simp [intOf]; omega
      · clear h46
        go_wp2_with (first | (go_at_call 40; refine (Hc.out _ _).mono ?_; rintro e w' ⟨rfl, rfl⟩) | (go_at_call 85; refine (Hs.out _ _).mono ?_; rintro e w' ⟨rfl, rfl⟩) | fail)
        go_ret
        exact ⟨rfl, below_drewN (below_fresh _ _) _⟩
    · exact absurd (fun j hj => Hto.out j hj (by have : c.data.toList.length = c.size := rfl; omega)) P10.out
set_option maxHeartbeats 1000000 in
set_option maxRecDepth 100000 in
theorem pos_ka (w h t : Int) (c h0 h1 : ByteArray) (W : World) (hc9 : c.size ≤ 9223372036854775807) (l0 : h0.size ≤ 9223372036854775807) (l1 : h1.size ≤ 9223372036854775807) (m1 : 0 ≤ w * h) (m2 : w * h ≤ 64) (d1 : decide (w < 1) = false) (d2 : decide (w > 8) = false) (d3 : decide (h < 1) = false) (d4 : decide (h > 8) = false) (d5 : ((c.size : Int) != w * h) = false) (d6 : (t != 0) = false) (p8 : handB h0 = true) (p9 : handB h1 = true) (p10 : CellsOk c.data.toList) :
    Calls Tryz.prog 39 #[.agg #[.int .i64 w, .int .i64 h, .string c, .int .i64 t, .string h0, .string h1]] W fun e w' => e = .returned (.bool true) ∧ Below W.heap.size W w' := by
  have Hh := hide fun s W hs => rhand_any s W hs
  have Hc := hide fun n W => big_any n W
  have Hs := hide fun n W => small_any n W
  have P10 := hide p10
  clear p10
  go_enter Tryz.func39, Tryz.ntmps39
  go_wp2_with fail
  refine (Hh.out h0 _ l0).mono ?_
  rintro e w1 ⟨rfl, n1, rfl⟩
  rw [p8]
  go_wp2_with fail
  refine (Hh.out h1 _ l1).mono ?_
  rintro e w2 ⟨rfl, n2, rfl⟩
  rw [p9]
  go_wp2_with fail
  go_loop [3] (fun i => ∃ k : Nat, k ≤ c.size ∧ i = .int .i64 k) (fun i => c.size - (intOf i).toNat)
  case atStart => exact ⟨0, by omega, rfl⟩
  case round =>
    obtain ⟨k, hk, rfl⟩ := hrel
    by_cases hlk : k < c.size
    · obtain ⟨b, hb⟩ : ∃ b : UInt8, c[k] = b := ⟨_, rfl⟩
      have HB := hide hb
      by_cases h46 : b.toNat = 46
      · have hcell : cellB c[k].toNat = true := by rw [hb]; simp [cellB, h46]
        have e46 : ((b.toNat : Int) != 46) = false := by simp; omega
        clear h46 hcell
        go_wp2_with (first | (go_at_call 40; refine (Hc.out _ _).mono ?_; rintro e w' ⟨rfl, rfl⟩) | (go_at_call 85; refine (Hs.out _ _).mono ?_; rintro e w' ⟨rfl, rfl⟩) | fail)
        go_round
        case rel => exact ⟨k + 1, by omega, by go_num⟩
        case measure => simp [intOf]; omega
      have e46 : ((b.toNat : Int) != 46) = true := by simp; omega
      obtain ⟨u, hu⟩ : ∃ u, upB b.toNat = u := ⟨_, rfl⟩
      obtain ⟨l, hl⟩ : ∃ l, lowB b.toNat = l := ⟨_, rfl⟩
      cases u
      case true =>
        have hcell : cellB c[k].toNat = true := by rw [hb]; simp [cellB, hu]
        clear h46 hcell hl
        go_wp2_with (first | (go_at_call 40; refine (Hc.out _ _).mono ?_; rintro e w' ⟨rfl, rfl⟩) | (go_at_call 85; refine (Hs.out _ _).mono ?_; rintro e w' ⟨rfl, rfl⟩) | fail)
        go_round
        case rel => exact ⟨k + 1, by omega, by go_num⟩
        case measure => simp [intOf]; omega
      cases l
      case true =>
        have hcell : cellB c[k].toNat = true := by rw [hb]; simp [cellB, hl]
        clear h46 hcell
        go_wp2_with (first | (go_at_call 40; refine (Hc.out _ _).mono ?_; rintro e w' ⟨rfl, rfl⟩) | (go_at_call 85; refine (Hs.out _ _).mono ?_; rintro e w' ⟨rfl, rfl⟩) | fail)
        go_round
        case rel => exact ⟨k + 1, by omega, by go_num⟩
        case measure => simp [intOf]; omega
      · exact absurd (P10.out k hlk) (show ¬ cellB c[k].toNat = true by rw [hb]; simp [cellB, hu, hl, h46])
    · go_wp2_with fail
      go_ret
      exact ⟨rfl, below_drewN (below_fresh _ _) _⟩
set_option maxHeartbeats 1000000 in
set_option maxRecDepth 100000 in
theorem pos_gb (w h t : Int) (c h0 h1 : ByteArray) (W : World) (_hc9 : c.size ≤ 9223372036854775807) (l0 : h0.size ≤ 9223372036854775807) (_l1 : h1.size ≤ 9223372036854775807) (m1 : 0 ≤ w * h) (m2 : w * h ≤ 64) (d1 : decide (w < 1) = false) (d2 : decide (w > 8) = false) (d3 : decide (h < 1) = false) (d4 : decide (h > 8) = false) (d5 : ((c.size : Int) != w * h) = false) (d6 : (t != 0) = true) (d7 : (t != 1) = false) (p8 : handB h0 = false) :
    Calls Tryz.prog 39 #[.agg #[.int .i64 w, .int .i64 h, .string c, .int .i64 t, .string h0, .string h1]] W fun e w' => e = .returned (.bool false) ∧ Below W.heap.size W w' := by
  have Hh := hide fun s W hs => rhand_any s W hs
  go_enter Tryz.func39, Tryz.ntmps39
  go_wp2_with fail
  refine (Hh.out h0 _ l0).mono ?_
  rintro e w1 ⟨rfl, n1, rfl⟩
  rw [p8]
  go_wp2_with fail
  go_ret
  exact ⟨rfl, below_drewN (below_fresh _ _) _⟩
set_option maxHeartbeats 1000000 in
set_option maxRecDepth 100000 in
theorem pos_hb (w h t : Int) (c h0 h1 : ByteArray) (W : World) (_hc9 : c.size ≤ 9223372036854775807) (l0 : h0.size ≤ 9223372036854775807) (l1 : h1.size ≤ 9223372036854775807) (m1 : 0 ≤ w * h) (m2 : w * h ≤ 64) (d1 : decide (w < 1) = false) (d2 : decide (w > 8) = false) (d3 : decide (h < 1) = false) (d4 : decide (h > 8) = false) (d5 : ((c.size : Int) != w * h) = false) (d6 : (t != 0) = true) (d7 : (t != 1) = false) (p8 : handB h0 = true) (p9 : handB h1 = false) :
    Calls Tryz.prog 39 #[.agg #[.int .i64 w, .int .i64 h, .string c, .int .i64 t, .string h0, .string h1]] W fun e w' => e = .returned (.bool false) ∧ Below W.heap.size W w' := by
  have Hh := hide fun s W hs => rhand_any s W hs
  go_enter Tryz.func39, Tryz.ntmps39
  go_wp2_with fail
  refine (Hh.out h0 _ l0).mono ?_
  rintro e w1 ⟨rfl, n1, rfl⟩
  rw [p8]
  go_wp2_with fail
  refine (Hh.out h1 _ l1).mono ?_
  rintro e w2 ⟨rfl, n2, rfl⟩
  rw [p9]
  go_wp2_with fail
  go_ret
  exact ⟨rfl, below_drewN (below_fresh _ _) _⟩
set_option maxHeartbeats 1000000 in
set_option maxRecDepth 100000 in
theorem pos_cb (w h t : Int) (c h0 h1 : ByteArray) (W : World) (hc9 : c.size ≤ 9223372036854775807) (l0 : h0.size ≤ 9223372036854775807) (l1 : h1.size ≤ 9223372036854775807) (m1 : 0 ≤ w * h) (m2 : w * h ≤ 64) (d1 : decide (w < 1) = false) (d2 : decide (w > 8) = false) (d3 : decide (h < 1) = false) (d4 : decide (h > 8) = false) (d5 : ((c.size : Int) != w * h) = false) (d6 : (t != 0) = true) (d7 : (t != 1) = false) (p8 : handB h0 = true) (p9 : handB h1 = true) (p10 : ¬ CellsOk c.data.toList) :
    Calls Tryz.prog 39 #[.agg #[.int .i64 w, .int .i64 h, .string c, .int .i64 t, .string h0, .string h1]] W fun e w' => e = .returned (.bool false) ∧ Below W.heap.size W w' := by
  have Hh := hide fun s W hs => rhand_any s W hs
  have Hc := hide fun n W => big_any n W
  have Hs := hide fun n W => small_any n W
  have P10 := hide p10
  clear p10
  go_enter Tryz.func39, Tryz.ntmps39
  go_wp2_with fail
  refine (Hh.out h0 _ l0).mono ?_
  rintro e w1 ⟨rfl, n1, rfl⟩
  rw [p8]
  go_wp2_with fail
  refine (Hh.out h1 _ l1).mono ?_
  rintro e w2 ⟨rfl, n2, rfl⟩
  rw [p9]
  go_wp2_with fail
  go_loop [3] (fun i => ∃ k : Nat, k ≤ c.size ∧ i = .int .i64 k ∧ ∀ j (h : j < c.size), j < k → cellB c[j].toNat = true) (fun i => c.size - (intOf i).toNat)
  case atStart => exact ⟨0, by omega, rfl, fun j _ h => by omega⟩
  case round =>
    obtain ⟨k, hk, rfl, hto⟩ := hrel
    have Hto := hide hto
    clear hto
    by_cases hlk : k < c.size
    · obtain ⟨b, hb⟩ : ∃ b : UInt8, c[k] = b := ⟨_, rfl⟩
      have HB := hide hb
      by_cases h46 : b.toNat = 46
      · have hcell : cellB c[k].toNat = true := by rw [hb]; simp [cellB, h46]
        have Hnx := hide (fun j (h : j < c.size) (hj : j < k + 1) => show cellB c[j].toNat = true from by
          by_cases e : j = k
          · subst e; exact hcell
          · exact Hto.out j h (by omega))
        have e46 : ((b.toNat : Int) != 46) = false := by simp; omega
        clear h46 hcell
        go_wp2_with (first | (go_at_call 40; refine (Hc.out _ _).mono ?_; rintro e w' ⟨rfl, rfl⟩) | (go_at_call 85; refine (Hs.out _ _).mono ?_; rintro e w' ⟨rfl, rfl⟩) | fail)
        go_round
        case rel => exact ⟨k + 1, by omega, by go_num, Hnx.out⟩
        case measure => simp [intOf]; omega
      have e46 : ((b.toNat : Int) != 46) = true := by simp; omega
      obtain ⟨u, hu⟩ : ∃ u, upB b.toNat = u := ⟨_, rfl⟩
      obtain ⟨l, hl⟩ : ∃ l, lowB b.toNat = l := ⟨_, rfl⟩
      cases u
      case true =>
        have hcell : cellB c[k].toNat = true := by rw [hb]; simp [cellB, hu]
        have Hnx := hide (fun j (h : j < c.size) (hj : j < k + 1) => show cellB c[j].toNat = true from by
          by_cases e : j = k
          · subst e; exact hcell
          · exact Hto.out j h (by omega))
        clear h46 hcell hl
        go_wp2_with (first | (go_at_call 40; refine (Hc.out _ _).mono ?_; rintro e w' ⟨rfl, rfl⟩) | (go_at_call 85; refine (Hs.out _ _).mono ?_; rintro e w' ⟨rfl, rfl⟩) | fail)
        go_round
        case rel => exact ⟨k + 1, by omega, by go_num, Hnx.out⟩
        case measure => simp [intOf]; omega
      cases l
      case true =>
        have hcell : cellB c[k].toNat = true := by rw [hb]; simp [cellB, hl]
        have Hnx := hide (fun j (h : j < c.size) (hj : j < k + 1) => show cellB c[j].toNat = true from by
          by_cases e : j = k
          · subst e; exact hcell
          · exact Hto.out j h (by omega))
        clear h46 hcell
        go_wp2_with (first | (go_at_call 40; refine (Hc.out _ _).mono ?_; rintro e w' ⟨rfl, rfl⟩) | (go_at_call 85; refine (Hs.out _ _).mono ?_; rintro e w' ⟨rfl, rfl⟩) | fail)
        go_round
        case rel => exact ⟨k + 1, by omega, by go_num, Hnx.out⟩
        case measure => simp [intOf]; omega
      · clear h46
        go_wp2_with (first | (go_at_call 40; refine (Hc.out _ _).mono ?_; rintro e w' ⟨rfl, rfl⟩) | (go_at_call 85; refine (Hs.out _ _).mono ?_; rintro e w' ⟨rfl, rfl⟩) | fail)
        go_ret
        exact ⟨rfl, below_drewN (below_fresh _ _) _⟩
    · exact absurd (fun j hj => Hto.out j hj (by have : c.data.toList.length = c.size := rfl; omega)) P10.out
set_option maxHeartbeats 1000000 in
set_option maxRecDepth 100000 in
theorem pos_kb (w h t : Int) (c h0 h1 : ByteArray) (W : World) (hc9 : c.size ≤ 9223372036854775807) (l0 : h0.size ≤ 9223372036854775807) (l1 : h1.size ≤ 9223372036854775807) (m1 : 0 ≤ w * h) (m2 : w * h ≤ 64) (d1 : decide (w < 1) = false) (d2 : decide (w > 8) = false) (d3 : decide (h < 1) = false) (d4 : decide (h > 8) = false) (d5 : ((c.size : Int) != w * h) = false) (d6 : (t != 0) = true) (d7 : (t != 1) = false) (p8 : handB h0 = true) (p9 : handB h1 = true) (p10 : CellsOk c.data.toList) :
    Calls Tryz.prog 39 #[.agg #[.int .i64 w, .int .i64 h, .string c, .int .i64 t, .string h0, .string h1]] W fun e w' => e = .returned (.bool true) ∧ Below W.heap.size W w' := by
  have Hh := hide fun s W hs => rhand_any s W hs
  have Hc := hide fun n W => big_any n W
  have Hs := hide fun n W => small_any n W
  have P10 := hide p10
  clear p10
  go_enter Tryz.func39, Tryz.ntmps39
  go_wp2_with fail
  refine (Hh.out h0 _ l0).mono ?_
  rintro e w1 ⟨rfl, n1, rfl⟩
  rw [p8]
  go_wp2_with fail
  refine (Hh.out h1 _ l1).mono ?_
  rintro e w2 ⟨rfl, n2, rfl⟩
  rw [p9]
  go_wp2_with fail
  go_loop [3] (fun i => ∃ k : Nat, k ≤ c.size ∧ i = .int .i64 k) (fun i => c.size - (intOf i).toNat)
  case atStart => exact ⟨0, by omega, rfl⟩
  case round =>
    obtain ⟨k, hk, rfl⟩ := hrel
    by_cases hlk : k < c.size
    · obtain ⟨b, hb⟩ : ∃ b : UInt8, c[k] = b := ⟨_, rfl⟩
      have HB := hide hb
      by_cases h46 : b.toNat = 46
      · have hcell : cellB c[k].toNat = true := by rw [hb]; simp [cellB, h46]
        have e46 : ((b.toNat : Int) != 46) = false := by simp; omega
        clear h46 hcell
        go_wp2_with (first | (go_at_call 40; refine (Hc.out _ _).mono ?_; rintro e w' ⟨rfl, rfl⟩) | (go_at_call 85; refine (Hs.out _ _).mono ?_; rintro e w' ⟨rfl, rfl⟩) | fail)
        go_round
        case rel => exact ⟨k + 1, by omega, by go_num⟩
        case measure => simp [intOf]; omega
      have e46 : ((b.toNat : Int) != 46) = true := by simp; omega
      obtain ⟨u, hu⟩ : ∃ u, upB b.toNat = u := ⟨_, rfl⟩
      obtain ⟨l, hl⟩ : ∃ l, lowB b.toNat = l := ⟨_, rfl⟩
      cases u
      case true =>
        have hcell : cellB c[k].toNat = true := by rw [hb]; simp [cellB, hu]
        clear h46 hcell hl
        go_wp2_with (first | (go_at_call 40; refine (Hc.out _ _).mono ?_; rintro e w' ⟨rfl, rfl⟩) | (go_at_call 85; refine (Hs.out _ _).mono ?_; rintro e w' ⟨rfl, rfl⟩) | fail)
        go_round
        case rel => exact ⟨k + 1, by omega, by go_num⟩
        case measure => simp [intOf]; omega
      cases l
      case true =>
        have hcell : cellB c[k].toNat = true := by rw [hb]; simp [cellB, hl]
        clear h46 hcell
        go_wp2_with (first | (go_at_call 40; refine (Hc.out _ _).mono ?_; rintro e w' ⟨rfl, rfl⟩) | (go_at_call 85; refine (Hs.out _ _).mono ?_; rintro e w' ⟨rfl, rfl⟩) | fail)
        go_round
        case rel => exact ⟨k + 1, by omega, by go_num⟩
        case measure => simp [intOf]; omega
      · exact absurd (P10.out k hlk) (show ¬ cellB c[k].toNat = true by rw [hb]; simp [cellB, hu, hl, h46])
    · go_wp2_with fail
      go_ret
      exact ⟨rfl, below_drewN (below_fresh _ _) _⟩
theorem pos_good (w h t : Int) (c h0 h1 : ByteArray) (W : World) (hc9 : c.size ≤ 9223372036854775807) (l0 : h0.size ≤ 9223372036854775807) (l1 : h1.size ≤ 9223372036854775807) (hp : PosOk ⟨w, h, c, t, h0, h1⟩) :
    Calls Tryz.prog 39 #[.agg #[.int .i64 w, .int .i64 h, .string c, .int .i64 t, .string h0, .string h1]] W fun e w' => e = .returned (.bool true) ∧ Below W.heap.size W w' := by
  obtain ⟨p1, p2, p3, p4, p5, p6, p7, p8, p9, p10⟩ := hp
  simp only at p1 p2 p3 p4 p5 p6 p7 p8 p9 p10
  have d1 : decide (w < 1) = false := by simp; omega
  have d2 : decide (w > 8) = false := by simp; omega
  have d3 : decide (h < 1) = false := by simp; omega
  have d4 : decide (h > 8) = false := by simp; omega
  have d5 : ((c.size : Int) != w * h) = false := by simp [p5]
  obtain ⟨m1, m2⟩ := mul_in p1 p2 p3 p4
  by_cases z0 : t = 0
  · exact pos_ka w h t c h0 h1 W hc9 l0 l1 m1 m2 d1 d2 d3 d4 d5 (by simp [z0]) p8 p9 p10
  · exact pos_kb w h t c h0 h1 W hc9 l0 l1 m1 m2 d1 d2 d3 d4 d5 (by simp [z0]) (by simp; omega) p8 p9 p10
theorem pos_bad (w h t : Int) (c h0 h1 : ByteArray) (W : World) (hc9 : c.size ≤ 9223372036854775807) (l0 : h0.size ≤ 9223372036854775807) (l1 : h1.size ≤ 9223372036854775807) (hp : ¬ PosOk ⟨w, h, c, t, h0, h1⟩) :
    Calls Tryz.prog 39 #[.agg #[.int .i64 w, .int .i64 h, .string c, .int .i64 t, .string h0, .string h1]] W fun e w' => e = .returned (.bool false) ∧ Below W.heap.size W w' := by
  by_cases p1 : 1 ≤ w
  case neg => exact pos_f1 w h t c h0 h1 W hc9 l0 l1 (by simp; omega)
  by_cases p2 : w ≤ 8
  case neg => exact pos_f2 w h t c h0 h1 W hc9 l0 l1 (by simp; omega) (by simp; omega)
  by_cases p3 : 1 ≤ h
  case neg => exact pos_f3 w h t c h0 h1 W hc9 l0 l1 (by simp; omega) (by simp; omega) (by simp; omega)
  by_cases p4 : h ≤ 8
  case neg => exact pos_f4 w h t c h0 h1 W hc9 l0 l1 (by simp; omega) (by simp; omega) (by simp; omega) (by simp; omega)
  have d1 : decide (w < 1) = false := by simp; omega
  have d2 : decide (w > 8) = false := by simp; omega
  have d3 : decide (h < 1) = false := by simp; omega
  have d4 : decide (h > 8) = false := by simp; omega
  obtain ⟨m1, m2⟩ := mul_in p1 p2 p3 p4
  by_cases p5 : (c.size : Int) = w * h
  case neg => exact pos_f5 w h t c h0 h1 W hc9 l0 l1 m1 m2 d1 d2 d3 d4 (by simp [p5])
  have d5 : ((c.size : Int) != w * h) = false := by simp [p5]
  by_cases z0 : t = 0
  · by_cases p8 : handB h0 = true
    case neg => exact pos_ga w h t c h0 h1 W hc9 l0 l1 m1 m2 d1 d2 d3 d4 d5 (by simp [z0]) (by simpa using p8)
    by_cases p9 : handB h1 = true
    case neg => exact pos_ha w h t c h0 h1 W hc9 l0 l1 m1 m2 d1 d2 d3 d4 d5 (by simp [z0]) p8 (by simpa using p9)
    exact pos_ca w h t c h0 h1 W hc9 l0 l1 m1 m2 d1 d2 d3 d4 d5 (by simp [z0]) p8 p9 (fun p10 => hp ⟨p1, p2, p3, p4, p5, by simp only; omega, by simp only; omega, p8, p9, p10⟩)
  · by_cases z1 : t = 1
    case neg => exact pos_f7 w h t c h0 h1 W hc9 l0 l1 m1 m2 d1 d2 d3 d4 d5 (by simp [z0]) (by simp [z1])
    by_cases p8 : handB h0 = true
    case neg => exact pos_gb w h t c h0 h1 W hc9 l0 l1 m1 m2 d1 d2 d3 d4 d5 (by simp [z0]) (by simp [z1]) (by simpa using p8)
    by_cases p9 : handB h1 = true
    case neg => exact pos_hb w h t c h0 h1 W hc9 l0 l1 m1 m2 d1 d2 d3 d4 d5 (by simp [z0]) (by simp [z1]) p8 (by simpa using p9)
    exact pos_cb w h t c h0 h1 W hc9 l0 l1 m1 m2 d1 d2 d3 d4 d5 (by simp [z0]) (by simp [z1]) p8 p9 (fun p10 => hp ⟨p1, p2, p3, p4, p5, by simp only; omega, by simp only; omega, p8, p9, p10⟩)
end Go.Proofs.YtcdfeaodfmfdnaaGreatDoor
namespace Go.Proofs.YtcdfeaodfmfdnaaGreatDoor
open Go.RowKit

/-- rules as they come in: no length is too great -/
structure RFit (r : RulesD) : Prop where
  c : r.start.cells.size ≤ 9223372036854775807
  h0 : r.start.h0.size ≤ 9223372036854775807
  h1 : r.start.h1.size ≤ 9223372036854775807
  n : r.pieces.length ≤ 9223372036854775807
  len : ∀ k (h : k < r.pieces.length), r.pieces[k].ways.length ≤ 9223372036854775807
def codeN (b : Bool) : Int := if b then 0 else 1
theorem code_bad {r : RulesD} (h : ¬ RulesOk r) : Ending.returned (.int .i64 1) = .returned (.int .i64 (codeN (rulesB r))) := by rw [rulesB_false.2 h]; rfl
theorem code_good {r : RulesD} (h : RulesOk r) : Ending.returned (.int .i64 0) = .returned (.int .i64 (codeN (rulesB r))) := by rw [rulesB_true.2 h]; rfl
theorem chk_l (p : Pos) (W : World) (hc : p.cells.size ≤ 9223372036854775807) (h0 : p.h0.size ≤ 9223372036854775807) (h1 : p.h1.size ≤ 9223372036854775807) (n : Int) (hn : (PosOk p → n = 0) ∧ (¬ PosOk p → n = 1)) :
    Calls Tryz.prog 43 #[.agg #[.int .i64 p.w, .int .i64 p.h, .string p.cells, .int .i64 p.turn, .string p.h0, .string p.h1]] W fun e w' => e = .returned (.int .i64 n) ∧ Later W w' := by
  by_cases h : PosOk p
  · rw [hn.1 h]; exact chk_good p.w p.h p.turn p.cells p.h0 p.h1 W hc h0 h1 h
  · rw [hn.2 h]; exact chk_bad p.w p.h p.turn p.cells p.h0 p.h1 W hc h0 h1 h
theorem Blk.three {w : World} {g : Nat} {t : TypeId} {v0 v1 v2 : Value} (h : Blk w g t #[v0, v1, v2]) : w.cell? ⟨g, 0, none⟩ = some v0 ∧ w.cell? ⟨g, 1, none⟩ = some v1 ∧ w.cell? ⟨g, 2, none⟩ = some v2 := ⟨h.cellv rfl, h.cellv rfl, h.cellv rfl⟩
theorem Later.blk {w w' : World} {g : Nat} {t : TypeId} {cs : Array Value} (h : Later w w') (k : Blk w g t cs) : Blk w' g t cs := k.below h k.lt

/-- how many there are, and the like -/
def HeadOk (r : RulesD) : Prop := 1 ≤ r.pieces.length ∧ r.pieces.length ≤ 10 ∧ (r.line = 0 ∨ (2 ≤ r.line ∧ r.line ≤ 8)) ∧ 1 ≤ r.plies ∧ r.plies ≤ 1000
theorem RulesOk.head {r : RulesD} (k : RulesOk r) : HeadOk r := ⟨k.p1, k.p10, k.line, k.pl1, k.pl2⟩
set_option maxHeartbeats 4000000 in
set_option maxRecDepth 100000 in
theorem check_b1 (r : RulesD) (A : Option Addr) (cp : Nat) (W : World) (hf : RFit r) (hpos : ¬ PosOk r.start) :
    Calls Tryz.prog 14 #[.agg #[.int .i64 r.start.w, .int .i64 r.start.h, .string r.start.cells, .int .i64 r.start.turn, .string r.start.h0, .string r.start.h1, .slice A r.pieces.length cp, .bool r.drops, .int .u8 r.lose, .int .i64 r.line, .int .u8 r.reach, .bool r.stuck, .int .i64 r.plies]] W fun e w' => e = .returned (.int .i64 (codeN (rulesB r))) ∧ Later W w' := by
  have HC := hide (fun w => chk_l r.start w hf.c hf.h0 hf.h1 1 ⟨fun h => absurd h hpos, fun _ => rfl⟩)
  have Hb1 := hide (code_bad (r := r) (fun h => hpos h.start))
  have Hlb := hide (show Later W (W.alloc (.cells #[.int .i64 r.start.w, .int .i64 r.start.h, .string r.start.cells, .int .i64 r.start.turn, .string r.start.h0, .string r.start.h1, .slice A r.pieces.length cp, .bool r.drops, .int .u8 r.lose, .int .i64 r.line, .int .u8 r.reach, .bool r.stuck, .int .i64 r.plies] 27)) from Later.rfl.alloc _)
  clear hpos hf
  go_enter Tryz.func14, Tryz.ntmps14
  go_wp2_with (go_at_call 43; refine (HC.out _).mono ?_; rintro e w1 ⟨rfl, hw1⟩)
  go_ret
  exact ⟨by rw [← Hb1.out] <;> rfl, Hlb.out.trans hw1⟩
set_option maxHeartbeats 4000000 in
set_option maxRecDepth 100000 in
theorem check_b2 (r : RulesD) (A : Option Addr) (cp : Nat) (W : World) (hf : RFit r) (hpos : PosOk r.start) (hall : ¬ HeadOk r) :
    Calls Tryz.prog 14 #[.agg #[.int .i64 r.start.w, .int .i64 r.start.h, .string r.start.cells, .int .i64 r.start.turn, .string r.start.h0, .string r.start.h1, .slice A r.pieces.length cp, .bool r.drops, .int .u8 r.lose, .int .i64 r.line, .int .u8 r.reach, .bool r.stuck, .int .i64 r.plies]] W fun e w' => e = .returned (.int .i64 (codeN (rulesB r))) ∧ Later W w' := by
  have HC := hide (fun w => chk_l r.start w hf.c hf.h0 hf.h1 0 ⟨fun _ => rfl, fun h => absurd hpos h⟩)
  have hn := hf.n
  have Hbx := hide (Blk.new W 27 #[.int .i64 r.start.w, .int .i64 r.start.h, .string r.start.cells, .int .i64 r.start.turn, .string r.start.h0, .string r.start.h1, .slice A r.pieces.length cp, .bool r.drops, .int .u8 r.lose, .int .i64 r.line, .int .u8 r.reach, .bool r.stuck, .int .i64 r.plies])
  have Hlb := hide (show Later W (W.alloc (.cells #[.int .i64 r.start.w, .int .i64 r.start.h, .string r.start.cells, .int .i64 r.start.turn, .string r.start.h0, .string r.start.h1, .slice A r.pieces.length cp, .bool r.drops, .int .u8 r.lose, .int .i64 r.line, .int .u8 r.reach, .bool r.stuck, .int .i64 r.plies] 27)) from Later.rfl.alloc _)
  have Hb1 := hide (code_bad (r := r) (fun h => hall h.head))
  have Hall := hide hall
  clear hpos hf hall
  go_enter Tryz.func14, Tryz.ntmps14
  go_wp2_with (go_at_call 43; refine (HC.out _).mono ?_; rintro e w1 ⟨rfl, hw1⟩; obtain ⟨x0, x1, x2, x3, x4, x5, x6, x7, x8, x9, x10, x11, x12⟩ := (hw1.blk Hbx.out).rules)
  all_goals first
    | (exfalso; exact Hall.out ⟨by omega, by omega, by omega, by omega, by omega⟩)
    | (go_ret; exact ⟨by rw [← Hb1.out] <;> rfl, Hlb.out.trans hw1⟩)
end Go.Proofs.YtcdfeaodfmfdnaaGreatDoor
namespace Go.Proofs.YtcdfeaodfmfdnaaGreatDoor
open Go.RowKit

theorem Later.cells {w w' : World} {B : Nat} {A : Option Addr} {xs : List Value} (h : Later w w') (hB : B ≤ w.heap.size) (k : Cells w B A xs) : Cells w' B A xs := k.below (h.mono hB)
theorem pos_small {p : Pos} (h : PosOk p) : p.cells.size ≤ 64 ∧ p.h0.size ≤ 8 ∧ p.h1.size ≤ 8 := by
  have h1 := (handB_true.1 h.hand0).1
  have h2 := (handB_true.1 h.hand1).1
  have h3 := (mul_in h.w1 h.w8 h.h1 h.h8).2
  have h4 := h.size
  exact ⟨by omega, h1, h2⟩
theorem num_at {ps : List PieceD} {c k : Nat} (h : pieceI ps c = (k : Int)) : pieceX ps c = some k := by
  unfold pieceI at h
  cases hx : pieceX ps c with
  | none => rw [hx] at h; exact absurd h (by show ¬ (-1 : Int) = _; omega)
  | some i =>
    rw [hx] at h
    have h2 : (i : Int) = (k : Int) := h
    congr 1; omega
set_option maxHeartbeats 8000000 in
set_option maxRecDepth 100000 in
theorem check_g (r : RulesD) (A : Option Addr) (cp : Nat) (W : World) (hf : RFit r) (hP : PiecesAt W W.heap.size A r.pieces) (hpos : PosOk r.start) (hall : HeadOk r) :
    Calls Tryz.prog 14 #[.agg #[.int .i64 r.start.w, .int .i64 r.start.h, .string r.start.cells, .int .i64 r.start.turn, .string r.start.h0, .string r.start.h1, .slice A r.pieces.length cp, .bool r.drops, .int .u8 r.lose, .int .i64 r.line, .int .u8 r.reach, .bool r.stuck, .int .i64 r.plies]] W fun e w' => e = .returned (.int .i64 (codeN (rulesB r))) ∧ Later W w' := by
  have HC := hide (fun w => chk_l r.start w hf.c hf.h0 hf.h1 0 ⟨fun _ => rfl, fun h => absurd hpos h⟩)
  have hn := hf.n
  have Hbx := hide (Blk.new W 27 #[.int .i64 r.start.w, .int .i64 r.start.h, .string r.start.cells, .int .i64 r.start.turn, .string r.start.h0, .string r.start.h1, .slice A r.pieces.length cp, .bool r.drops, .int .u8 r.lose, .int .i64 r.line, .int .u8 r.reach, .bool r.stuck, .int .i64 r.plies])
  have Hlb := hide (show Later W (W.alloc (.cells #[.int .i64 r.start.w, .int .i64 r.start.h, .string r.start.cells, .int .i64 r.start.turn, .string r.start.h0, .string r.start.h1, .slice A r.pieces.length cp, .bool r.drops, .int .u8 r.lose, .int .i64 r.line, .int .u8 r.reach, .bool r.stuck, .int .i64 r.plies] 27)) from Later.rfl.alloc _)
  have HQ := hide (fun (k : Nat) (w : World) (hw : Later W w) => rpiece_any r A cp k w hf.n ((hP.below hw).more hw.size))
  have HP := hide hP
  have Hf := hide hf
  have Hway := hide (fun (x : WayD) w => way_any x.kind x.x x.y x.take w)
  have Hup := hide (fun n w => upper_any n w)
  have HB := hide (fun h => code_bad (r := r) h)
  have HG := hide (fun h => code_good (r := r) h)
  obtain ⟨l1, l2, l3, l4, l5⟩ := hall
  have Hl := hide l3
  have Hpos := hide hpos
  clear l3 hpos hf hP
  go_enter Tryz.func14, Tryz.ntmps14
  go_upto_region 1 with (fail)
  go_cut [49] (fun s w' => s = .bool false ∧ Blk w' W.heap.size 27 #[.int .i64 r.start.w, .int .i64 r.start.h, .string r.start.cells, .int .i64 r.start.turn, .string r.start.h0, .string r.start.h1, .slice A r.pieces.length cp, .bool r.drops, .int .u8 r.lose, .int .i64 r.line, .int .u8 r.reach, .bool r.stuck, .int .i64 r.plies] ∧ Later W w')
  case first =>
    have e1 : decide ((r.pieces.length : Int) < 1) = false := decide_eq_false (by omega)
    have e2 : decide ((r.pieces.length : Int) > 10) = false := decide_eq_false (by omega)
    have e3 : decide (r.plies < 1) = false := decide_eq_false (by omega)
    have e4 : decide (r.plies > 1000) = false := decide_eq_false (by omega)
    clear l1 l2 l4 l5
    by_cases hl0 : r.line = 0
    · have e5 : (r.line != 0) = false := by simp [hl0]
      clear hl0
      go_wp2_with (go_at_call 43; refine (HC.out _).mono ?_; rintro e w1 ⟨rfl, hw1⟩; obtain ⟨x0, x1, x2, x3, x4, x5, x6, x7, x8, x9, x10, x11, x12⟩ := (hw1.blk Hbx.out).rules)
      go_meet
      case rel => exact ⟨rfl, hw1.blk Hbx.out, Hlb.out.trans hw1⟩
    · have e5 : (r.line != 0) = true := by simpa using hl0
      have e6 : decide (r.line < 2) = false := decide_eq_false (by rcases Hl.out with h | h <;> omega)
      have e7 : decide (r.line > 8) = false := decide_eq_false (by rcases Hl.out with h | h <;> omega)
      clear hl0
      go_wp2_with (go_at_call 43; refine (HC.out _).mono ?_; rintro e w1 ⟨rfl, hw1⟩; obtain ⟨x0, x1, x2, x3, x4, x5, x6, x7, x8, x9, x10, x11, x12⟩ := (hw1.blk Hbx.out).rules)
      go_meet
      case rel => exact ⟨rfl, hw1.blk Hbx.out, Hlb.out.trans hw1⟩
  case rest =>
    obtain ⟨rfl, hbx, hw⟩ := hcut
    have Hb := hide hbx
    have Hw := hide hw
    obtain ⟨x0, x1, x2, x3, x4, x5, x6, x7, x8, x9, x10, x11, x12⟩ := hbx.rules
    clear hbx hw Hbx Hlb HC
    go_wp2_with fail
    clear x0 x1 x2 x3 x4 x5 x6 x7 x8 x9 x10 x11 x12
    have hk0 : (∀ j (h : j < r.pieces.length), j < 0 → PieceOk r.pieces j r.pieces[j]) := fun j _ h => by omega
    have Hk0 := hide hk0
    clear hk0
    go_loopw [53] (fun i wr => ∃ k : Nat, k ≤ r.pieces.length ∧ i = .int .i64 k ∧ (∀ j (h : j < r.pieces.length), j < k → PieceOk r.pieces j r.pieces[j]) ∧ Blk wr W.heap.size 27 #[.int .i64 r.start.w, .int .i64 r.start.h, .string r.start.cells, .int .i64 r.start.turn, .string r.start.h0, .string r.start.h1, .slice A r.pieces.length cp, .bool r.drops, .int .u8 r.lose, .int .i64 r.line, .int .u8 r.reach, .bool r.stuck, .int .i64 r.plies] ∧ Later W wr) (fun i _ => r.pieces.length - (intOf i).toNat)
    case atStart => exact ⟨0, by omega, rfl, Hk0.out, Hb.out, Hw.out⟩
    case round =>
      rename World => wr
      clear Hk0 Hb Hw
      obtain ⟨k, hk, rfl, hall, hbx, hw⟩ := hrel
      have Hall := hide hall
      have Hb := hide hbx
      have Hw := hide hw
      clear hall hbx hw
      by_cases hlt : k < r.pieces.length
      · have Hpk := hide (show ∀ h : RulesOk r, PieceOk r.pieces k r.pieces[k] from fun h => h.pieces k hlt)
        have Hnx := hide (show PieceOk r.pieces k r.pieces[k] → ∀ j (h : j < r.pieces.length), j < k + 1 → PieceOk r.pieces j r.pieces[j] from fun h2 j h hj => by
          by_cases e : j = k
          · subst e; exact h2
          · exact Hall.out j h (by omega))
        obtain ⟨b, off, rfl, hbA, z0, z1, Ak, ck, hck, z2, hways⟩ := (HP.out.below Hw.out).at_ hlt
        have hlen := Hf.out.len k hlt
        have hwr : W.heap.size ≤ wr.heap.size := Hw.out.size
        obtain ⟨pc, hpc⟩ : ∃ pc, r.pieces[k] = pc := ⟨_, rfl⟩
        rw [hpc] at Hpk Hnx z0 z1 z2 hck hways hlen
        have Hways := hide hways
        clear hpc hways
        go_upto_region 6 with (fail)
        have BP := hide (Blk.new wr 77 #[.int .u8 pc.letter, .int .i64 pc.worth, .slice Ak pc.ways.length ck])
        have BR := hide (Hb.out.alloc (.cells #[.int .u8 pc.letter, .int .i64 pc.worth, .slice Ak pc.ways.length ck] 77))
        have HW1 := hide (Hw.out.alloc (.cells #[.int .u8 pc.letter, .int .i64 pc.worth, .slice Ak pc.ways.length ck] 77))
        have HV1 := hide (show Later wr (wr.alloc (.cells #[.int .u8 pc.letter, .int .i64 pc.worth, .slice Ak pc.ways.length ck] 77)) from Later.rfl.alloc _)
        obtain ⟨wp, hwp⟩ : ∃ wp, wr.alloc (.cells #[.int .u8 pc.letter, .int .i64 pc.worth, .slice Ak pc.ways.length ck] 77) = wp := ⟨_, rfl⟩
        obtain ⟨gp, hgp⟩ : ∃ gp, wr.heap.size = gp := ⟨_, rfl⟩
        rw [hwp] at BP BR HW1 HV1 ⊢
        rw [hgp] at BP ⊢
        clear hwp hgp Hb Hw z0 z1 z2
        obtain ⟨u1, hu1⟩ : ∃ u, upB pc.letter = u := ⟨_, rfl⟩
        obtain ⟨y0, y1, y2⟩ := BP.out.three
        have Hu1 := hide (fun w => hu1 ▸ Hup.out pc.letter w)
        cases u1
        case false =>
          have Hbad := hide (HB.out (fun h => by have := (Hpk.out h).letter; rw [hu1] at this; exact absurd this (by decide)))
          clear hu1
          go_wp2_with (go_at_call 44; refine (Hu1.out _).mono ?_; rintro e w' ⟨rfl, hw'⟩; rw [hw']; clear hw')
          go_ret
          exact ⟨by rw [← Hbad.out] <;> rfl, HW1.out⟩
        obtain ⟨x0, x1, x2, x3, x4, x5, x6, x7, x8, x9, x10, x11, x12⟩ := BR.out.rules
        obtain ⟨pi, hpi⟩ : ∃ pi, pieceI r.pieces pc.letter = pi := ⟨_, rfl⟩
        have hq := HQ.out pc.letter
        rw [hpi] at hq
        have Hq := hide hq
        have hnum : pi = (k : Int) → pieceX r.pieces pc.letter = some k := fun h => num_at (hpi.trans h)
        have hnum2 : pieceX r.pieces pc.letter = some k → pi = (k : Int) := fun h => by rw [← hpi]; unfold pieceI; rw [h]; rfl
        clear hq hpi
        obtain ⟨u2, hu2⟩ : ∃ u, (pi != (k : Int)) = u := ⟨_, rfl⟩
        cases u2
        case true =>
          have Hbad := hide (HB.out (fun h => by rw [hnum2 (Hpk.out h).place] at hu2; simp at hu2))
          clear hnum hnum2 hu1
          go_wp2_with (first
            | (go_at_call 44; refine (Hu1.out _).mono ?_; rintro e w' ⟨rfl, hw'⟩; rw [hw']; clear hw')
            | (go_at_call 45; refine (Hq.out _ HW1.out).mono ?_; rintro e w2 ⟨rfl, hw2⟩))
          go_ret
          exact ⟨by rw [← Hbad.out] <;> rfl, HW1.out.trans hw2⟩
        have hplace := hnum (by simpa using hu2)
        clear hnum hnum2
        by_cases h3 : 0 ≤ pc.worth ∧ pc.worth ≤ 100 ∧ pc.ways.length ≤ 8
        case neg =>
          have Hbad := hide (HB.out (fun h => h3 ⟨(Hpk.out h).w0, (Hpk.out h).w1, (Hpk.out h).len⟩))
          have H3 := hide h3
          clear h3 hplace hu1
          go_wp2_with (first
            | (go_at_call 44; refine (Hu1.out _).mono ?_; rintro e w' ⟨rfl, hw'⟩; rw [hw']; clear hw')
            | (go_at_call 45; refine (Hq.out _ HW1.out).mono ?_; rintro e w2 ⟨rfl, hw2⟩; obtain ⟨y0, y1, y2⟩ := (hw2.blk BP.out).three))
          all_goals first
            | (exfalso; exact H3.out ⟨by omega, by omega, by omega⟩)
            | (go_ret; exact ⟨by rw [← Hbad.out] <;> rfl, HW1.out.trans hw2⟩)
        obtain ⟨m0, m1, m2⟩ := h3
        have Hmk := hide (show (∀ j (h : j < pc.ways.length), WayOk pc.ways[j]) → PieceOk r.pieces k pc from fun h => ⟨hu1, hplace, m0, m1, m2, h⟩)
        have Hwbad := hide (show ∀ j (h : j < pc.ways.length), ¬ WayOk pc.ways[j] → Ending.returned (.int .i64 1) = .returned (.int .i64 (codeN (rulesB r))) from fun j h hn => HB.out (fun h2 => hn ((Hpk.out h2).ways j h)))
        have e1 : decide (pc.worth < 0) = false := decide_eq_false (by omega)
        have e2 : decide (pc.worth > 100) = false := decide_eq_false (by omega)
        have e3 : decide ((pc.ways.length : Int) > 8) = false := decide_eq_false (by omega)
        clear hplace hu1 m0 m1
        go_wp2_with (first
          | (go_at_call 44; refine (Hu1.out _).mono ?_; rintro e w' ⟨rfl, hw'⟩; rw [hw']; clear hw')
          | (go_at_call 45; refine (Hq.out _ HW1.out).mono ?_; rintro e w2 ⟨rfl, hw2⟩; obtain ⟨y0, y1, y2⟩ := (hw2.blk BP.out).three))
        have BR2 := hide (hw2.blk BR.out)
        have HW2 := hide (HW1.out.trans hw2)
        have HV2 := hide (HV1.out.trans hw2)
        clear x0 x1 x2 x3 x4 x5 x6 x7 x8 x9 x10 x11 x12 y0 y1 y2 e1 e2 e3 hu2 hw2 BP BR HW1 HV1
        go_loopw [89] (fun i wi => ∃ q : Nat, q ≤ pc.ways.length ∧ i = .int .i64 q ∧ (∀ j (h : j < pc.ways.length), j < q → WayOk pc.ways[j]) ∧ Blk wi W.heap.size 27 #[.int .i64 r.start.w, .int .i64 r.start.h, .string r.start.cells, .int .i64 r.start.turn, .string r.start.h0, .string r.start.h1, .slice (some ⟨b, off, none⟩) r.pieces.length cp, .bool r.drops, .int .u8 r.lose, .int .i64 r.line, .int .u8 r.reach, .bool r.stuck, .int .i64 r.plies] ∧ Later W wi ∧ Later wr wi) (fun i _ => pc.ways.length - (intOf i).toNat)
        case atStart => exact ⟨0, by omega, rfl, fun j _ h => by omega, BR2.out, HW2.out, HV2.out⟩
        case round =>
          rename World => wi
          clear BR2 HW2 HV2
          obtain ⟨q, hq, rfl, hallq, hbx, hw, hv⟩ := hrel
          have Hallq := hide hallq
          have Hb := hide hbx
          have Hw := hide hw
          have Hv := hide hv
          clear hallq hbx hw hv
          by_cases hlq : q < pc.ways.length
          · obtain ⟨b2, off2, rfl, hb2, z0, z1, z2, z3⟩ := ways_at (Hv.out.cells hwr Hways.out) hlq
            have Hnq := hide (show WayOk pc.ways[q] → ∀ j (h : j < pc.ways.length), j < q + 1 → WayOk pc.ways[j] from fun h2 j h hj => by
              by_cases e : j = q
              · subst e; exact h2
              · exact Hallq.out j h (by omega))
            have hwb := Hwbad.out q hlq
            have hwc := Hway.out pc.ways[q]
            obtain ⟨x, hx⟩ : ∃ x, pc.ways[q] = x := ⟨_, rfl⟩
            rw [hx] at z0 z1 z2 z3 Hnq hwb hwc
            obtain ⟨u, hu⟩ : ∃ u, wayB ⟨x.kind, x.x, x.y, x.take⟩ = u := ⟨_, rfl⟩
            rw [hu] at hwc
            have Hwc := hide hwc
            clear hx hwc
            cases u
            · have Hbad := hide (hwb (fun h => by have : wayB x = true := decide_eq_true h; rw [show wayB x = false from hu] at this; exact absurd this (by decide)))
              clear hwb hu
              go_wp2_with (go_at_call 46; refine (Hwc.out _).mono ?_; rintro e w4 ⟨rfl, hw4⟩)
              go_ret
              exact ⟨by rw [← Hbad.out] <;> rfl, (Hw.out.alloc _).trans hw4⟩
            · have Hnq2 := hide (Hnq.out (of_decide_eq_true hu))
              clear hwb hu Hnq
              go_wp2_with (go_at_call 46; refine (Hwc.out _).mono ?_; rintro e w4 ⟨rfl, hw4⟩)
              go_roundw
              case rel => exact ⟨q + 1, by omega, by go_num, Hnq2.out, hw4.blk (Hb.out.alloc _), (Hw.out.alloc _).trans hw4, (Hv.out.alloc _).trans hw4⟩
              case measure => simp [intOf]; omega
          · have Hnk := hide (Hnx.out (Hmk.out (fun j h => Hallq.out j h (by omega))))
            go_wp2_with fail
            go_roundw
            case rel => exact ⟨k + 1, by omega, by go_num, Hnk.out, Hb.out, Hw.out⟩
            case measure => simp [intOf]; omega
      · have Hps := hide (show ∀ j (h : j < r.pieces.length), PieceOk r.pieces j r.pieces[j] from fun j h => Hall.out j h (by omega))
        clear Hall
        obtain ⟨x0, x1, x2, x3, x4, x5, x6, x7, x8, x9, x10, x11, x12⟩ := Hb.out.rules
        go_wp2_with fail
        clear x0 x1 x2 x3 x4 x5 x6 x7 x8 x9 x10 x11 x12
        have BS := hide (Blk.new wr 5 #[.int .u8 r.lose, .int .u8 r.reach])
        have BR := hide (Hb.out.alloc (.cells #[.int .u8 r.lose, .int .u8 r.reach] 5))
        have HW1 := hide (Hw.out.alloc (.cells #[.int .u8 r.lose, .int .u8 r.reach] 5))
        obtain ⟨ws, hws⟩ : ∃ ws, wr.alloc (.cells #[.int .u8 r.lose, .int .u8 r.reach] 5) = ws := ⟨_, rfl⟩
        obtain ⟨gs, hgs⟩ : ∃ gs, wr.heap.size = gs := ⟨_, rfl⟩
        rw [hws] at BS BR HW1 ⊢
        rw [hgs] at BS ⊢
        clear hws hgs Hb Hw
        go_loopw [104] (fun i wi => ∃ q : Nat, q ≤ 2 ∧ i = .int .i64 q ∧ (0 < q → LetOk r.pieces r.lose) ∧ (1 < q → LetOk r.pieces r.reach) ∧ Blk wi W.heap.size 27 #[.int .i64 r.start.w, .int .i64 r.start.h, .string r.start.cells, .int .i64 r.start.turn, .string r.start.h0, .string r.start.h1, .slice A r.pieces.length cp, .bool r.drops, .int .u8 r.lose, .int .i64 r.line, .int .u8 r.reach, .bool r.stuck, .int .i64 r.plies] ∧ Blk wi gs 5 #[.int .u8 r.lose, .int .u8 r.reach] ∧ Later W wi) (fun i _ => 2 - (intOf i).toNat)
        case atStart => exact ⟨0, by omega, rfl, fun h => by omega, fun h => by omega, BR.out, BS.out, HW1.out⟩
        case round =>
          rename World => wi
          clear BS BR HW1
          obtain ⟨q, hq, rfl, hq0, hq1, hbx, hbs, hw⟩ := hrel
          have Hq0 := hide hq0
          have Hq1 := hide hq1
          have Hb := hide hbx
          have Hs := hide hbs
          have Hw := hide hw
          clear hq0 hq1 hbx hbs hw
          by_cases hlq : q < 2
          · obtain ⟨cq, hcell, hlet, hnext⟩ : ∃ cq : Nat, wi.cell? ⟨gs, q, none⟩ = some (.int .u8 cq) ∧ (∀ _ : RulesOk r, LetOk r.pieces cq) ∧ (LetOk r.pieces cq → (0 < q + 1 → LetOk r.pieces r.lose) ∧ (1 < q + 1 → LetOk r.pieces r.reach)) := by
              have h2 : q = 0 ∨ q = 1 := by omega
              rcases h2 with rfl | rfl
              · exact ⟨r.lose, Hs.out.cellv rfl, fun h => h.lose, fun h => ⟨fun _ => h, fun h1 => by omega⟩⟩
              · exact ⟨r.reach, Hs.out.cellv rfl, fun h => h.reach, fun h => ⟨fun _ => Hq0.out (by omega), fun _ => h⟩⟩
            have Hlet := hide hlet
            have Hnext := hide hnext
            clear hlet hnext
            have hq2 : (q : Int) < 2 := by omega
            by_cases hc0 : cq = 0
            · have d1 : ((cq : Int) != 0) = false := by simp [hc0]
              have Hn := hide (Hnext.out (.inl hc0))
              clear hc0
              go_wp2_with fail
              go_roundw
              case rel => exact ⟨q + 1, by omega, by go_num, Hn.out.1, Hn.out.2, Hb.out, Hs.out, Hw.out⟩
              case measure => simp [intOf]; omega
            have d1 : ((cq : Int) != 0) = true := by simp; omega
            obtain ⟨u1, hu1⟩ : ∃ u, upB cq = u := ⟨_, rfl⟩
            have Hu1 := hide (fun w => hu1 ▸ Hup.out cq w)
            cases u1
            case false =>
              have Hbad := hide (HB.out (fun h => by
                rcases Hlet.out h with h2 | ⟨h2, _⟩
                · exact hc0 h2
                · rw [hu1] at h2; exact absurd h2 (by decide)))
              clear hu1 hc0
              go_wp2_with (go_at_call 44; refine (Hu1.out _).mono ?_; rintro e w' ⟨rfl, hw'⟩; rw [hw']; clear hw')
              go_ret
              exact ⟨by rw [← Hbad.out] <;> rfl, Hw.out⟩
            obtain ⟨x0, x1, x2, x3, x4, x5, x6, x7, x8, x9, x10, x11, x12⟩ := Hb.out.rules
            obtain ⟨u, hu⟩ : ∃ u, (pieceX r.pieces cq).isSome = u := ⟨_, rfl⟩
            have d2 : decide (pieceI r.pieces cq < 0) = !u := by rw [← hu]; exact numX_neg (pieceX r.pieces cq)
            have hqq := HQ.out cq
            obtain ⟨pi, hpi⟩ : ∃ pi, pieceI r.pieces cq = pi := ⟨_, rfl⟩
            rw [hpi] at d2 hqq
            have Hqq := hide hqq
            clear hpi hqq
            cases u
            · have Hbad := hide (HB.out (fun h => by
                rcases Hlet.out h with h2 | ⟨_, h2⟩
                · exact hc0 h2
                · rw [hu] at h2; exact absurd h2 (by decide)))
              clear hu1 hc0 hu
              go_wp2_with (first
                | (go_at_call 44; refine (Hu1.out _).mono ?_; rintro e w' ⟨rfl, hw'⟩; rw [hw']; clear hw')
                | (go_at_call 45; refine (Hqq.out _ Hw.out).mono ?_; rintro e w2 ⟨rfl, hw2⟩))
              go_ret
              exact ⟨by rw [← Hbad.out] <;> rfl, Hw.out.trans hw2⟩
            · have Hn := hide (Hnext.out (.inr ⟨hu1, hu⟩))
              clear hu1 hc0 hu
              go_wp2_with (first
                | (go_at_call 44; refine (Hu1.out _).mono ?_; rintro e w' ⟨rfl, hw'⟩; rw [hw']; clear hw')
                | (go_at_call 45; refine (Hqq.out _ Hw.out).mono ?_; rintro e w2 ⟨rfl, hw2⟩))
              clear x0 x1 x2 x3 x4 x5 x6 x7 x8 x9 x10 x11 x12
              go_roundw
              case rel => exact ⟨q + 1, by omega, by go_num, Hn.out.1, Hn.out.2, hw2.blk Hb.out, hw2.blk Hs.out, Hw.out.trans hw2⟩
              case measure => simp [intOf]; omega
          · obtain rfl : q = 2 := by omega
            have Hl0 := hide (Hq0.out (by omega))
            have Hl1 := hide (Hq1.out (by omega))
            obtain ⟨x0, x1, x2, x3, x4, x5, x6, x7, x8, x9, x10, x11, x12⟩ := Hb.out.rules
            have hsz := Hpos.out
            obtain ⟨s1, s2, s3⟩ := pos_small hsz
            have hff := fits_any r A cp r.start wi (by omega) (by omega) (by omega) hn ((HP.out.below Hw.out).more Hw.out.size)
            obtain ⟨u, hu⟩ : ∃ u, fitsB r.pieces r.start.all = u := ⟨_, rfl⟩
            rw [hu] at hff
            have Hff := hide hff
            clear hff hsz s1 s2 s3
            cases u
            · have Hbad := hide (HB.out (fun h => fitsB_false.1 hu h.fits))
              clear hu
              go_wp2_with (go_at_call 47; refine (Hff.out).mono ?_; rintro e w2 ⟨rfl, hw2⟩)
              go_ret
              exact ⟨by rw [← Hbad.out] <;> rfl, Hw.out.trans hw2⟩
            · have Hgood := hide (HG.out ⟨Hpos.out, l1, l2, Hl.out, l4, l5, Hps.out, Hl0.out, Hl1.out, fitsB_true.1 hu⟩)
              clear hu
              go_wp2_with (go_at_call 47; refine (Hff.out).mono ?_; rintro e w2 ⟨rfl, hw2⟩)
              go_ret
              exact ⟨by rw [← Hgood.out] <;> rfl, Hw.out.trans hw2⟩
theorem check_any (r : RulesD) (A : Option Addr) (cp : Nat) (W : World) (hf : RFit r) (hP : PiecesAt W W.heap.size A r.pieces) :
    Calls Tryz.prog 14 #[.agg #[.int .i64 r.start.w, .int .i64 r.start.h, .string r.start.cells, .int .i64 r.start.turn, .string r.start.h0, .string r.start.h1, .slice A r.pieces.length cp, .bool r.drops, .int .u8 r.lose, .int .i64 r.line, .int .u8 r.reach, .bool r.stuck, .int .i64 r.plies]] W fun e w' => e = .returned (.int .i64 (codeN (rulesB r))) ∧ Later W w' := by
  by_cases hpos : PosOk r.start
  · by_cases hall : HeadOk r
    · exact check_g r A cp W hf hP hpos hall
    · exact check_b2 r A cp W hf hpos hall
  · exact check_b1 r A cp W hf hpos
end Go.Proofs.YtcdfeaodfmfdnaaGreatDoor
namespace Go.Proofs.YtcdfeaodfmfdnaaGreatDoor
open Go.RowKit

theorem rb_bad {r : RulesD} (h : ¬ RulesOk r) : Ending.returned (.bool false) = .returned (.bool (rulesB r)) := by rw [rulesB_false.2 h]
theorem rb_good {r : RulesD} (h : RulesOk r) : Ending.returned (.bool true) = .returned (.bool (rulesB r)) := by rw [rulesB_true.2 h]
theorem pos_l (p : Pos) (W : World) (hc : p.cells.size ≤ 9223372036854775807) (h0 : p.h0.size ≤ 9223372036854775807) (h1 : p.h1.size ≤ 9223372036854775807) (n : Bool) (hn : (PosOk p → n = true) ∧ (¬ PosOk p → n = false)) :
    Calls Tryz.prog 39 #[.agg #[.int .i64 p.w, .int .i64 p.h, .string p.cells, .int .i64 p.turn, .string p.h0, .string p.h1]] W fun e w' => e = .returned (.bool n) ∧ Later W w' := by
  by_cases h : PosOk p
  · rw [hn.1 h]; exact pos_good p.w p.h p.turn p.cells p.h0 p.h1 W hc h0 h1 h
  · rw [hn.2 h]; exact pos_bad p.w p.h p.turn p.cells p.h0 p.h1 W hc h0 h1 h

set_option maxHeartbeats 4000000 in
set_option maxRecDepth 100000 in
theorem rules_b1 (r : RulesD) (A : Option Addr) (cp : Nat) (W : World) (hf : RFit r) (hpos : ¬ PosOk r.start) :
    Calls Tryz.prog 13 #[.agg #[.int .i64 r.start.w, .int .i64 r.start.h, .string r.start.cells, .int .i64 r.start.turn, .string r.start.h0, .string r.start.h1, .slice A r.pieces.length cp, .bool r.drops, .int .u8 r.lose, .int .i64 r.line, .int .u8 r.reach, .bool r.stuck, .int .i64 r.plies]] W fun e w' => e = .returned (.bool (rulesB r)) ∧ Later W w' := by
  have HC := hide (fun w => pos_l r.start w hf.c hf.h0 hf.h1 false ⟨fun h => absurd h hpos, fun _ => rfl⟩)
  have Hb1 := hide (rb_bad (r := r) (fun h => hpos h.start))
  have Hlb := hide (show Later W (W.alloc (.cells #[.int .i64 r.start.w, .int .i64 r.start.h, .string r.start.cells, .int .i64 r.start.turn, .string r.start.h0, .string r.start.h1, .slice A r.pieces.length cp, .bool r.drops, .int .u8 r.lose, .int .i64 r.line, .int .u8 r.reach, .bool r.stuck, .int .i64 r.plies] 27)) from Later.rfl.alloc _)
  clear hpos hf
  go_enter Tryz.func13, Tryz.ntmps13
  go_wp2_with (go_at_call 39; refine (HC.out _).mono ?_; rintro e w1 ⟨rfl, hw1⟩)
  go_ret
  exact ⟨by rw [← Hb1.out] <;> rfl, Hlb.out.trans hw1⟩
set_option maxHeartbeats 4000000 in
set_option maxRecDepth 100000 in
theorem rules_b2 (r : RulesD) (A : Option Addr) (cp : Nat) (W : World) (hf : RFit r) (hpos : PosOk r.start) (hall : ¬ HeadOk r) :
    Calls Tryz.prog 13 #[.agg #[.int .i64 r.start.w, .int .i64 r.start.h, .string r.start.cells, .int .i64 r.start.turn, .string r.start.h0, .string r.start.h1, .slice A r.pieces.length cp, .bool r.drops, .int .u8 r.lose, .int .i64 r.line, .int .u8 r.reach, .bool r.stuck, .int .i64 r.plies]] W fun e w' => e = .returned (.bool (rulesB r)) ∧ Later W w' := by
  have HC := hide (fun w => pos_l r.start w hf.c hf.h0 hf.h1 true ⟨fun _ => rfl, fun h => absurd hpos h⟩)
  have hn := hf.n
  have Hbx := hide (Blk.new W 27 #[.int .i64 r.start.w, .int .i64 r.start.h, .string r.start.cells, .int .i64 r.start.turn, .string r.start.h0, .string r.start.h1, .slice A r.pieces.length cp, .bool r.drops, .int .u8 r.lose, .int .i64 r.line, .int .u8 r.reach, .bool r.stuck, .int .i64 r.plies])
  have Hlb := hide (show Later W (W.alloc (.cells #[.int .i64 r.start.w, .int .i64 r.start.h, .string r.start.cells, .int .i64 r.start.turn, .string r.start.h0, .string r.start.h1, .slice A r.pieces.length cp, .bool r.drops, .int .u8 r.lose, .int .i64 r.line, .int .u8 r.reach, .bool r.stuck, .int .i64 r.plies] 27)) from Later.rfl.alloc _)
  have Hb1 := hide (rb_bad (r := r) (fun h => hall h.head))
  have Hall := hide hall
  clear hpos hf hall
  go_enter Tryz.func13, Tryz.ntmps13
  go_wp2_with (go_at_call 39; refine (HC.out _).mono ?_; rintro e w1 ⟨rfl, hw1⟩; obtain ⟨x0, x1, x2, x3, x4, x5, x6, x7, x8, x9, x10, x11, x12⟩ := (hw1.blk Hbx.out).rules)
  all_goals first
    | (exfalso; exact Hall.out ⟨by omega, by omega, by omega, by omega, by omega⟩)
    | (go_ret; exact ⟨by rw [← Hb1.out] <;> rfl, Hlb.out.trans hw1⟩)
end Go.Proofs.YtcdfeaodfmfdnaaGreatDoor
