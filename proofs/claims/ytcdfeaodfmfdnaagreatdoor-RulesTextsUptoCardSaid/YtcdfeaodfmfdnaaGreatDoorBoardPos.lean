/- gameref.Position: is a position right? -/
import Derived.Test.YtcdfeaodfmfdnaaGreatDoorBoardCheck
namespace Go.Proofs.YtcdfeaodfmfdnaaGreatDoor
open Go.RowKit

set_option maxHeartbeats 1000000 in
set_option maxRecDepth 100000 in
theorem pos_f1 (w h t : Int) (c h0 h1 : ByteArray) (W : World) (_hc9 : c.size ≤ 9223372036854775807) (_l0 : h0.size ≤ 9223372036854775807) (_l1 : h1.size ≤ 9223372036854775807) (d1 : decide (w < 1) = true) :
    Calls Tryz.prog 39 #[.agg #[.int .i64 w, .int .i64 h, .string c, .int .i64 t, .string h0, .string h1]] W fun e w' => e = .returned (.bool false) ∧ Below W.heap.size W w' := by
  go_enter Tryz.func39, Tryz.ntmps39
  go_wp2_with fail
  go_ret
  exact ⟨rfl, below_fresh _ _⟩
set_option maxHeartbeats 1000000 in
set_option maxRecDepth 100000 in
theorem pos_f2 (w h t : Int) (c h0 h1 : ByteArray) (W : World) (_hc9 : c.size ≤ 9223372036854775807) (_l0 : h0.size ≤ 9223372036854775807) (_l1 : h1.size ≤ 9223372036854775807) (d1 : decide (w < 1) = false) (d2 : decide (w > 8) = true) :
    Calls Tryz.prog 39 #[.agg #[.int .i64 w, .int .i64 h, .string c, .int .i64 t, .string h0, .string h1]] W fun e w' => e = .returned (.bool false) ∧ Below W.heap.size W w' := by
  go_enter Tryz.func39, Tryz.ntmps39
  go_wp2_with fail
  go_ret
  exact ⟨rfl, below_fresh _ _⟩
set_option maxHeartbeats 1000000 in
set_option maxRecDepth 100000 in
theorem pos_f3 (w h t : Int) (c h0 h1 : ByteArray) (W : World) (_hc9 : c.size ≤ 9223372036854775807) (_l0 : h0.size ≤ 9223372036854775807) (_l1 : h1.size ≤ 9223372036854775807) (d1 : decide (w < 1) = false) (d2 : decide (w > 8) = false) (d3 : decide (h < 1) = true) :
    Calls Tryz.prog 39 #[.agg #[.int .i64 w, .int .i64 h, .string c, .int .i64 t, .string h0, .string h1]] W fun e w' => e = .returned (.bool false) ∧ Below W.heap.size W w' := by
  go_enter Tryz.func39, Tryz.ntmps39
  go_wp2_with fail
  go_ret
  exact ⟨rfl, below_fresh _ _⟩
set_option maxHeartbeats 1000000 in
set_option maxRecDepth 100000 in
theorem pos_f4 (w h t : Int) (c h0 h1 : ByteArray) (W : World) (_hc9 : c.size ≤ 9223372036854775807) (_l0 : h0.size ≤ 9223372036854775807) (_l1 : h1.size ≤ 9223372036854775807) (d1 : decide (w < 1) = false) (d2 : decide (w > 8) = false) (d3 : decide (h < 1) = false) (d4 : decide (h > 8) = true) :
    Calls Tryz.prog 39 #[.agg #[.int .i64 w, .int .i64 h, .string c, .int .i64 t, .string h0, .string h1]] W fun e w' => e = .returned (.bool false) ∧ Below W.heap.size W w' := by
  go_enter Tryz.func39, Tryz.ntmps39
  go_wp2_with fail
  go_ret
  exact ⟨rfl, below_fresh _ _⟩
set_option maxHeartbeats 1000000 in
set_option maxRecDepth 100000 in
theorem pos_f5 (w h t : Int) (c h0 h1 : ByteArray) (W : World) (_hc9 : c.size ≤ 9223372036854775807) (_l0 : h0.size ≤ 9223372036854775807) (_l1 : h1.size ≤ 9223372036854775807) (m1 : 0 ≤ w * h) (m2 : w * h ≤ 64) (d1 : decide (w < 1) = false) (d2 : decide (w > 8) = false) (d3 : decide (h < 1) = false) (d4 : decide (h > 8) = false) (d5 : ((c.size : Int) != w * h) = true) :
    Calls Tryz.prog 39 #[.agg #[.int .i64 w, .int .i64 h, .string c, .int .i64 t, .string h0, .string h1]] W fun e w' => e = .returned (.bool false) ∧ Below W.heap.size W w' := by
  go_enter Tryz.func39, Tryz.ntmps39
  go_wp2_with fail
  go_ret
  exact ⟨rfl, below_fresh _ _⟩
set_option maxHeartbeats 1000000 in
set_option maxRecDepth 100000 in
theorem pos_f7 (w h t : Int) (c h0 h1 : ByteArray) (W : World) (_hc9 : c.size ≤ 9223372036854775807) (_l0 : h0.size ≤ 9223372036854775807) (_l1 : h1.size ≤ 9223372036854775807) (m1 : 0 ≤ w * h) (m2 : w * h ≤ 64) (d1 : decide (w < 1) = false) (d2 : decide (w > 8) = false) (d3 : decide (h < 1) = false) (d4 : decide (h > 8) = false) (d5 : ((c.size : Int) != w * h) = false) (d6 : (t != 0) = true) (d7 : (t != 1) = true) :
    Calls Tryz.prog 39 #[.agg #[.int .i64 w, .int .i64 h, .string c, .int .i64 t, .string h0, .string h1]] W fun e w' => e = .returned (.bool false) ∧ Below W.heap.size W w' := by
  go_enter Tryz.func39, Tryz.ntmps39
  go_wp2_with fail
  go_ret
  exact ⟨rfl, below_fresh _ _⟩
set_option maxHeartbeats 1000000 in
set_option maxRecDepth 100000 in
theorem pos_ga (w h t : Int) (c h0 h1 : ByteArray) (W : World) (_hc9 : c.size ≤ 9223372036854775807) (l0 : h0.size ≤ 9223372036854775807) (_l1 : h1.size ≤ 9223372036854775807) (m1 : 0 ≤ w * h) (m2 : w * h ≤ 64) (d1 : decide (w < 1) = false) (d2 : decide (w > 8) = false) (d3 : decide (h < 1) = false) (d4 : decide (h > 8) = false) (d5 : ((c.size : Int) != w * h) = false) (d6 : (t != 0) = false) (p8 : handB h0 = false) :
    Calls Tryz.prog 39 #[.agg #[.int .i64 w, .int .i64 h, .string c, .int .i64 t, .string h0, .string h1]] W fun e w' => e = .returned (.bool false) ∧ Below W.heap.size W w' := by
  have Hh := hide fun s W hs => rhand_any s W hs
  go_enter Tryz.func39, Tryz.ntmps39
  go_wp2_with fail
  refine (Hh.out h0 _ l0).mono ?_
  rintro e w1 ⟨rfl, n1, rfl⟩
  rw [p8]
  go_wp2_with fail
  go_ret
  exact ⟨rfl, below_drewN (below_fresh _ _) _⟩
set_option maxHeartbeats 1000000 in
set_option maxRecDepth 100000 in
theorem pos_ha (w h t : Int) (c h0 h1 : ByteArray) (W : World) (_hc9 : c.size ≤ 9223372036854775807) (l0 : h0.size ≤ 9223372036854775807) (l1 : h1.size ≤ 9223372036854775807) (m1 : 0 ≤ w * h) (m2 : w * h ≤ 64) (d1 : decide (w < 1) = false) (d2 : decide (w > 8) = false) (d3 : decide (h < 1) = false) (d4 : decide (h > 8) = false) (d5 : ((c.size : Int) != w * h) = false) (d6 : (t != 0) = false) (p8 : handB h0 = true) (p9 : handB h1 = false) :
    Calls Tryz.prog 39 #[.agg #[.int .i64 w, .int .i64 h, .string c, .int .i64 t, .string h0, .string h1]] W fun e w' => e = .returned (.bool false) ∧ Below W.heap.size W w' := by
  have Hh := hide fun s W hs => rhand_any s W hs
  go_enter Tryz.func39, Tryz.ntmps39
  go_wp2_with fail
  refine (Hh.out h0 _ l0).mono ?_
  rintro e w1 ⟨rfl, n1, rfl⟩
  rw [p8]
  go_wp2_with fail
  refine (Hh.out h1 _ l1).mono ?_
  rintro e w2 ⟨rfl, n2, rfl⟩
  rw [p9]
  go_wp2_with fail
  go_ret
  exact ⟨rfl, below_drewN (below_fresh _ _) _⟩
set_option maxHeartbeats 1000000 in
set_option maxRecDepth 100000 in
theorem pos_ca (w h t : Int) (c h0 h1 : ByteArray) (W : World) (hc9 : c.size ≤ 9223372036854775807) (l0 : h0.size ≤ 9223372036854775807) (l1 : h1.size ≤ 9223372036854775807) (m1 : 0 ≤ w * h) (m2 : w * h ≤ 64) (d1 : decide (w < 1) = false) (d2 : decide (w > 8) = false) (d3 : decide (h < 1) = false) (d4 : decide (h > 8) = false) (d5 : ((c.size : Int) != w * h) = false) (d6 : (t != 0) = false) (p8 : handB h0 = true) (p9 : handB h1 = true) (p10 : ¬ CellsOk c.data.toList) :
    Calls Tryz.prog 39 #[.agg #[.int .i64 w, .int .i64 h, .string c, .int .i64 t, .string h0, .string h1]] W fun e w' => e = .returned (.bool false) ∧ Below W.heap.size W w' := by
  have Hh := hide fun s W hs => rhand_any s W hs
  have Hc := hide fun n W => big_any n W
  have Hs := hide fun n W => small_any n W
  have P10 := hide p10
  clear p10
  go_enter Tryz.func39, Tryz.ntmps39
  go_wp2_with fail
  refine (Hh.out h0 _ l0).mono ?_
  rintro e w1 ⟨rfl, n1, rfl⟩
  rw [p8]
  go_wp2_with fail
  refine (Hh.out h1 _ l1).mono ?_
  rintro e w2 ⟨rfl, n2, rfl⟩
  rw [p9]
  go_wp2_with fail
  go_loop [3] (fun i => ∃ k : Nat, k ≤ c.size ∧ i = .int .i64 k ∧ ∀ j (h : j < c.size), j < k → cellB c[j].toNat = true) (fun i => c.size - (intOf i).toNat)
  case atStart => exact ⟨0, by omega, rfl, fun j _ h => by omega⟩
  case round =>
    obtain ⟨k, hk, rfl, hto⟩ := hrel
    have Hto := hide hto
    clear hto
    by_cases hlk : k < c.size
    · obtain ⟨b, hb⟩ : ∃ b : UInt8, c[k] = b := ⟨_, rfl⟩
      have HB := hide hb
      by_cases h46 : b.toNat = 46
      · have hcell : cellB c[k].toNat = true := by rw [hb]; simp [cellB, h46]
        have Hnx := hide (fun j (h : j < c.size) (hj : j < k + 1) => show cellB c[j].toNat = true from by
          by_cases e : j = k
          · subst e; exact hcell
          · exact Hto.out j h (by omega))
        have e46 : ((b.toNat : Int) != 46) = false := by simp; omega
        clear h46 hcell
        go_wp2_with (first | (go_at_call 40; refine (Hc.out _ _).mono ?_; rintro e w' ⟨rfl, rfl⟩) | (go_at_call 85; refine (Hs.out _ _).mono ?_; rintro e w' ⟨rfl, rfl⟩) | fail)
        go_round
        case rel => exact ⟨k + 1, by omega, by go_num, Hnx.out⟩
        case measure => simp [intOf]; omega
      have e46 : ((b.toNat : Int) != 46) = true := by simp; omega
      obtain ⟨u, hu⟩ : ∃ u, upB b.toNat = u := ⟨_, rfl⟩
      obtain ⟨l, hl⟩ : ∃ l, lowB b.toNat = l := ⟨_, rfl⟩
      cases u
      case true =>
        have hcell : cellB c[k].toNat = true := by rw [hb]; simp [cellB, hu]
        have Hnx := hide (fun j (h : j < c.size) (hj : j < k + 1) => show cellB c[j].toNat = true from by
          by_cases e : j = k
          · subst e; exact hcell
          · exact Hto.out j h (by omega))
        clear h46 hcell hl
        go_wp2_with (first | (go_at_call 40; refine (Hc.out _ _).mono ?_; rintro e w' ⟨rfl, rfl⟩) | (go_at_call 85; refine (Hs.out _ _).mono ?_; rintro e w' ⟨rfl, rfl⟩) | fail)
        go_round
        case rel => exact ⟨k + 1, by omega, by go_num, Hnx.out⟩
        case measure => simp [intOf]; omega
      cases l
      case true =>
        have hcell : cellB c[k].toNat = true := by rw [hb]; simp [cellB, hl]
        have Hnx := hide (fun j (h : j < c.size) (hj : j < k + 1) => show cellB c[j].toNat = true from by
          by_cases e : j = k
          · subst e; exact hcell
          · exact Hto.out j h (by omega))
        clear h46 hcell
        go_wp2_with (first | (go_at_call 40; refine (Hc.out _ _).mono ?_; rintro e w' ⟨rfl, rfl⟩) | (go_at_call 85; refine (Hs.out _ _).mono ?_; rintro e w' ⟨rfl, rfl⟩) | fail)
        go_round
        case rel => exact ⟨k + 1, by omega, by go_num, Hnx.out⟩
        case measure => simp [intOf]; omega
      · clear h46
        go_wp2_with (first | (go_at_call 40; refine (Hc.out _ _).mono ?_; rintro e w' ⟨rfl, rfl⟩) | (go_at_call 85; refine (Hs.out _ _).mono ?_; rintro e w' ⟨rfl, rfl⟩) | fail)
        go_ret
        exact ⟨rfl, below_drewN (below_fresh _ _) _⟩
    · exact absurd (fun j hj => Hto.out j hj (by have : c.data.toList.length = c.size := rfl; omega)) P10.out
set_option maxHeartbeats 1000000 in
set_option maxRecDepth 100000 in
theorem pos_ka (w h t : Int) (c h0 h1 : ByteArray) (W : World) (hc9 : c.size ≤ 9223372036854775807) (l0 : h0.size ≤ 9223372036854775807) (l1 : h1.size ≤ 9223372036854775807) (m1 : 0 ≤ w * h) (m2 : w * h ≤ 64) (d1 : decide (w < 1) = false) (d2 : decide (w > 8) = false) (d3 : decide (h < 1) = false) (d4 : decide (h > 8) = false) (d5 : ((c.size : Int) != w * h) = false) (d6 : (t != 0) = false) (p8 : handB h0 = true) (p9 : handB h1 = true) (p10 : CellsOk c.data.toList) :
    Calls Tryz.prog 39 #[.agg #[.int .i64 w, .int .i64 h, .string c, .int .i64 t, .string h0, .string h1]] W fun e w' => e = .returned (.bool true) ∧ Below W.heap.size W w' := by
  have Hh := hide fun s W hs => rhand_any s W hs
  have Hc := hide fun n W => big_any n W
  have Hs := hide fun n W => small_any n W
  have P10 := hide p10
  clear p10
  go_enter Tryz.func39, Tryz.ntmps39
  go_wp2_with fail
  refine (Hh.out h0 _ l0).mono ?_
  rintro e w1 ⟨rfl, n1, rfl⟩
  rw [p8]
  go_wp2_with fail
  refine (Hh.out h1 _ l1).mono ?_
  rintro e w2 ⟨rfl, n2, rfl⟩
  rw [p9]
  go_wp2_with fail
  go_loop [3] (fun i => ∃ k : Nat, k ≤ c.size ∧ i = .int .i64 k) (fun i => c.size - (intOf i).toNat)
  case atStart => exact ⟨0, by omega, rfl⟩
  case round =>
    obtain ⟨k, hk, rfl⟩ := hrel
    by_cases hlk : k < c.size
    · obtain ⟨b, hb⟩ : ∃ b : UInt8, c[k] = b := ⟨_, rfl⟩
      have HB := hide hb
      by_cases h46 : b.toNat = 46
      · have hcell : cellB c[k].toNat = true := by rw [hb]; simp [cellB, h46]
        have e46 : ((b.toNat : Int) != 46) = false := by simp; omega
        clear h46 hcell
        go_wp2_with (first | (go_at_call 40; refine (Hc.out _ _).mono ?_; rintro e w' ⟨rfl, rfl⟩) | (go_at_call 85; refine (Hs.out _ _).mono ?_; rintro e w' ⟨rfl, rfl⟩) | fail)
        go_round
        case rel => exact ⟨k + 1, by omega, by go_num⟩
        case measure => simp [intOf]; omega
      have e46 : ((b.toNat : Int) != 46) = true := by simp; omega
      obtain ⟨u, hu⟩ : ∃ u, upB b.toNat = u := ⟨_, rfl⟩
      obtain ⟨l, hl⟩ : ∃ l, lowB b.toNat = l := ⟨_, rfl⟩
      cases u
      case true =>
        have hcell : cellB c[k].toNat = true := by rw [hb]; simp [cellB, hu]
        clear h46 hcell hl
        go_wp2_with (first | (go_at_call 40; refine (Hc.out _ _).mono ?_; rintro e w' ⟨rfl, rfl⟩) | (go_at_call 85; refine (Hs.out _ _).mono ?_; rintro e w' ⟨rfl, rfl⟩) | fail)
        go_round
        case rel => exact ⟨k + 1, by omega, by go_num⟩
        case measure => simp [intOf]; omega
      cases l
      case true =>
        have hcell : cellB c[k].toNat = true := by rw [hb]; simp [cellB, hl]
        clear h46 hcell
        go_wp2_with (first | (go_at_call 40; refine (Hc.out _ _).mono ?_; rintro e w' ⟨rfl, rfl⟩) | (go_at_call 85; refine (Hs.out _ _).mono ?_; rintro e w' ⟨rfl, rfl⟩) | fail)
        go_round
        case rel => exact ⟨k + 1, by omega, by go_num⟩
        case measure => simp [intOf]; omega
      · exact absurd (P10.out k hlk) (show ¬ cellB c[k].toNat = true by rw [hb]; simp [cellB, hu, hl, h46])
    · go_wp2_with fail
      go_ret
      exact ⟨rfl, below_drewN (below_fresh _ _) _⟩
set_option maxHeartbeats 1000000 in
set_option maxRecDepth 100000 in
theorem pos_gb (w h t : Int) (c h0 h1 : ByteArray) (W : World) (_hc9 : c.size ≤ 9223372036854775807) (l0 : h0.size ≤ 9223372036854775807) (_l1 : h1.size ≤ 9223372036854775807) (m1 : 0 ≤ w * h) (m2 : w * h ≤ 64) (d1 : decide (w < 1) = false) (d2 : decide (w > 8) = false) (d3 : decide (h < 1) = false) (d4 : decide (h > 8) = false) (d5 : ((c.size : Int) != w * h) = false) (d6 : (t != 0) = true) (d7 : (t != 1) = false) (p8 : handB h0 = false) :
    Calls Tryz.prog 39 #[.agg #[.int .i64 w, .int .i64 h, .string c, .int .i64 t, .string h0, .string h1]] W fun e w' => e = .returned (.bool false) ∧ Below W.heap.size W w' := by
  have Hh := hide fun s W hs => rhand_any s W hs
  go_enter Tryz.func39, Tryz.ntmps39
  go_wp2_with fail
  refine (Hh.out h0 _ l0).mono ?_
  rintro e w1 ⟨rfl, n1, rfl⟩
  rw [p8]
  go_wp2_with fail
  go_ret
  exact ⟨rfl, below_drewN (below_fresh _ _) _⟩
set_option maxHeartbeats 1000000 in
set_option maxRecDepth 100000 in
theorem pos_hb (w h t : Int) (c h0 h1 : ByteArray) (W : World) (_hc9 : c.size ≤ 9223372036854775807) (l0 : h0.size ≤ 9223372036854775807) (l1 : h1.size ≤ 9223372036854775807) (m1 : 0 ≤ w * h) (m2 : w * h ≤ 64) (d1 : decide (w < 1) = false) (d2 : decide (w > 8) = false) (d3 : decide (h < 1) = false) (d4 : decide (h > 8) = false) (d5 : ((c.size : Int) != w * h) = false) (d6 : (t != 0) = true) (d7 : (t != 1) = false) (p8 : handB h0 = true) (p9 : handB h1 = false) :
    Calls Tryz.prog 39 #[.agg #[.int .i64 w, .int .i64 h, .string c, .int .i64 t, .string h0, .string h1]] W fun e w' => e = .returned (.bool false) ∧ Below W.heap.size W w' := by
  have Hh := hide fun s W hs => rhand_any s W hs
  go_enter Tryz.func39, Tryz.ntmps39
  go_wp2_with fail
  refine (Hh.out h0 _ l0).mono ?_
  rintro e w1 ⟨rfl, n1, rfl⟩
  rw [p8]
  go_wp2_with fail
  refine (Hh.out h1 _ l1).mono ?_
  rintro e w2 ⟨rfl, n2, rfl⟩
  rw [p9]
  go_wp2_with fail
  go_ret
  exact ⟨rfl, below_drewN (below_fresh _ _) _⟩
set_option maxHeartbeats 1000000 in
set_option maxRecDepth 100000 in
theorem pos_cb (w h t : Int) (c h0 h1 : ByteArray) (W : World) (hc9 : c.size ≤ 9223372036854775807) (l0 : h0.size ≤ 9223372036854775807) (l1 : h1.size ≤ 9223372036854775807) (m1 : 0 ≤ w * h) (m2 : w * h ≤ 64) (d1 : decide (w < 1) = false) (d2 : decide (w > 8) = false) (d3 : decide (h < 1) = false) (d4 : decide (h > 8) = false) (d5 : ((c.size : Int) != w * h) = false) (d6 : (t != 0) = true) (d7 : (t != 1) = false) (p8 : handB h0 = true) (p9 : handB h1 = true) (p10 : ¬ CellsOk c.data.toList) :
    Calls Tryz.prog 39 #[.agg #[.int .i64 w, .int .i64 h, .string c, .int .i64 t, .string h0, .string h1]] W fun e w' => e = .returned (.bool false) ∧ Below W.heap.size W w' := by
  have Hh := hide fun s W hs => rhand_any s W hs
  have Hc := hide fun n W => big_any n W
  have Hs := hide fun n W => small_any n W
  have P10 := hide p10
  clear p10
  go_enter Tryz.func39, Tryz.ntmps39
  go_wp2_with fail
  refine (Hh.out h0 _ l0).mono ?_
  rintro e w1 ⟨rfl, n1, rfl⟩
  rw [p8]
  go_wp2_with fail
  refine (Hh.out h1 _ l1).mono ?_
  rintro e w2 ⟨rfl, n2, rfl⟩
  rw [p9]
  go_wp2_with fail
  go_loop [3] (fun i => ∃ k : Nat, k ≤ c.size ∧ i = .int .i64 k ∧ ∀ j (h : j < c.size), j < k → cellB c[j].toNat = true) (fun i => c.size - (intOf i).toNat)
  case atStart => exact ⟨0, by omega, rfl, fun j _ h => by omega⟩
  case round =>
    obtain ⟨k, hk, rfl, hto⟩ := hrel
    have Hto := hide hto
    clear hto
    by_cases hlk : k < c.size
    · obtain ⟨b, hb⟩ : ∃ b : UInt8, c[k] = b := ⟨_, rfl⟩
      have HB := hide hb
      by_cases h46 : b.toNat = 46
      · have hcell : cellB c[k].toNat = true := by rw [hb]; simp [cellB, h46]
        have Hnx := hide (fun j (h : j < c.size) (hj : j < k + 1) => show cellB c[j].toNat = true from by
          by_cases e : j = k
          · subst e; exact hcell
          · exact Hto.out j h (by omega))
        have e46 : ((b.toNat : Int) != 46) = false := by simp; omega
        clear h46 hcell
        go_wp2_with (first | (go_at_call 40; refine (Hc.out _ _).mono ?_; rintro e w' ⟨rfl, rfl⟩) | (go_at_call 85; refine (Hs.out _ _).mono ?_; rintro e w' ⟨rfl, rfl⟩) | fail)
        go_round
        case rel => exact ⟨k + 1, by omega, by go_num, Hnx.out⟩
        case measure => simp [intOf]; omega
      have e46 : ((b.toNat : Int) != 46) = true := by simp; omega
      obtain ⟨u, hu⟩ : ∃ u, upB b.toNat = u := ⟨_, rfl⟩
      obtain ⟨l, hl⟩ : ∃ l, lowB b.toNat = l := ⟨_, rfl⟩
      cases u
      case true =>
        have hcell : cellB c[k].toNat = true := by rw [hb]; simp [cellB, hu]
        have Hnx := hide (fun j (h : j < c.size) (hj : j < k + 1) => show cellB c[j].toNat = true from by
          by_cases e : j = k
          · subst e; exact hcell
          · exact Hto.out j h (by omega))
        clear h46 hcell hl
        go_wp2_with (first | (go_at_call 40; refine (Hc.out _ _).mono ?_; rintro e w' ⟨rfl, rfl⟩) | (go_at_call 85; refine (Hs.out _ _).mono ?_; rintro e w' ⟨rfl, rfl⟩) | fail)
        go_round
        case rel => exact ⟨k + 1, by omega, by go_num, Hnx.out⟩
        case measure => simp [intOf]; omega
      cases l
      case true =>
        have hcell : cellB c[k].toNat = true := by rw [hb]; simp [cellB, hl]
        have Hnx := hide (fun j (h : j < c.size) (hj : j < k + 1) => show cellB c[j].toNat = true from by
          by_cases e : j = k
          · subst e; exact hcell
          · exact Hto.out j h (by omega))
        clear h46 hcell
        go_wp2_with (first | (go_at_call 40; refine (Hc.out _ _).mono ?_; rintro e w' ⟨rfl, rfl⟩) | (go_at_call 85; refine (Hs.out _ _).mono ?_; rintro e w' ⟨rfl, rfl⟩) | fail)
        go_round
        case rel => exact ⟨k + 1, by omega, by go_num, Hnx.out⟩
        case measure => simp [intOf]; omega
      · clear h46
        go_wp2_with (first | (go_at_call 40; refine (Hc.out _ _).mono ?_; rintro e w' ⟨rfl, rfl⟩) | (go_at_call 85; refine (Hs.out _ _).mono ?_; rintro e w' ⟨rfl, rfl⟩) | fail)
        go_ret
        exact ⟨rfl, below_drewN (below_fresh _ _) _⟩
    · exact absurd (fun j hj => Hto.out j hj (by have : c.data.toList.length = c.size := rfl; omega)) P10.out
set_option maxHeartbeats 1000000 in
set_option maxRecDepth 100000 in
theorem pos_kb (w h t : Int) (c h0 h1 : ByteArray) (W : World) (hc9 : c.size ≤ 9223372036854775807) (l0 : h0.size ≤ 9223372036854775807) (l1 : h1.size ≤ 9223372036854775807) (m1 : 0 ≤ w * h) (m2 : w * h ≤ 64) (d1 : decide (w < 1) = false) (d2 : decide (w > 8) = false) (d3 : decide (h < 1) = false) (d4 : decide (h > 8) = false) (d5 : ((c.size : Int) != w * h) = false) (d6 : (t != 0) = true) (d7 : (t != 1) = false) (p8 : handB h0 = true) (p9 : handB h1 = true) (p10 : CellsOk c.data.toList) :
    Calls Tryz.prog 39 #[.agg #[.int .i64 w, .int .i64 h, .string c, .int .i64 t, .string h0, .string h1]] W fun e w' => e = .returned (.bool true) ∧ Below W.heap.size W w' := by
  have Hh := hide fun s W hs => rhand_any s W hs
  have Hc := hide fun n W => big_any n W
  have Hs := hide fun n W => small_any n W
  have P10 := hide p10
  clear p10
  go_enter Tryz.func39, Tryz.ntmps39
  go_wp2_with fail
  refine (Hh.out h0 _ l0).mono ?_
  rintro e w1 ⟨rfl, n1, rfl⟩
  rw [p8]
  go_wp2_with fail
  refine (Hh.out h1 _ l1).mono ?_
  rintro e w2 ⟨rfl, n2, rfl⟩
  rw [p9]
  go_wp2_with fail
  go_loop [3] (fun i => ∃ k : Nat, k ≤ c.size ∧ i = .int .i64 k) (fun i => c.size - (intOf i).toNat)
  case atStart => exact ⟨0, by omega, rfl⟩
  case round =>
    obtain ⟨k, hk, rfl⟩ := hrel
    by_cases hlk : k < c.size
    · obtain ⟨b, hb⟩ : ∃ b : UInt8, c[k] = b := ⟨_, rfl⟩
      have HB := hide hb
      by_cases h46 : b.toNat = 46
      · have hcell : cellB c[k].toNat = true := by rw [hb]; simp [cellB, h46]
        have e46 : ((b.toNat : Int) != 46) = false := by simp; omega
        clear h46 hcell
        go_wp2_with (first | (go_at_call 40; refine (Hc.out _ _).mono ?_; rintro e w' ⟨rfl, rfl⟩) | (go_at_call 85; refine (Hs.out _ _).mono ?_; rintro e w' ⟨rfl, rfl⟩) | fail)
        go_round
        case rel => exact ⟨k + 1, by omega, by go_num⟩
        case measure => simp [intOf]; omega
      have e46 : ((b.toNat : Int) != 46) = true := by simp; omega
      obtain ⟨u, hu⟩ : ∃ u, upB b.toNat = u := ⟨_, rfl⟩
      obtain ⟨l, hl⟩ : ∃ l, lowB b.toNat = l := ⟨_, rfl⟩
      cases u
      case true =>
        have hcell : cellB c[k].toNat = true := by rw [hb]; simp [cellB, hu]
        clear h46 hcell hl
        go_wp2_with (first | (go_at_call 40; refine (Hc.out _ _).mono ?_; rintro e w' ⟨rfl, rfl⟩) | (go_at_call 85; refine (Hs.out _ _).mono ?_; rintro e w' ⟨rfl, rfl⟩) | fail)
        go_round
        case rel => exact ⟨k + 1, by omega, by go_num⟩
        case measure => simp [intOf]; omega
      cases l
      case true =>
        have hcell : cellB c[k].toNat = true := by rw [hb]; simp [cellB, hl]
        clear h46 hcell
        go_wp2_with (first | (go_at_call 40; refine (Hc.out _ _).mono ?_; rintro e w' ⟨rfl, rfl⟩) | (go_at_call 85; refine (Hs.out _ _).mono ?_; rintro e w' ⟨rfl, rfl⟩) | fail)
        go_round
        case rel => exact ⟨k + 1, by omega, by go_num⟩
        case measure => simp [intOf]; omega
      · exact absurd (P10.out k hlk) (show ¬ cellB c[k].toNat = true by rw [hb]; simp [cellB, hu, hl, h46])
    · go_wp2_with fail
      go_ret
      exact ⟨rfl, below_drewN (below_fresh _ _) _⟩
theorem pos_good (w h t : Int) (c h0 h1 : ByteArray) (W : World) (hc9 : c.size ≤ 9223372036854775807) (l0 : h0.size ≤ 9223372036854775807) (l1 : h1.size ≤ 9223372036854775807) (hp : PosOk ⟨w, h, c, t, h0, h1⟩) :
    Calls Tryz.prog 39 #[.agg #[.int .i64 w, .int .i64 h, .string c, .int .i64 t, .string h0, .string h1]] W fun e w' => e = .returned (.bool true) ∧ Below W.heap.size W w' := by
  obtain ⟨p1, p2, p3, p4, p5, p6, p7, p8, p9, p10⟩ := hp
  simp only at p1 p2 p3 p4 p5 p6 p7 p8 p9 p10
  have d1 : decide (w < 1) = false := by simp; omega
  have d2 : decide (w > 8) = false := by simp; omega
  have d3 : decide (h < 1) = false := by simp; omega
  have d4 : decide (h > 8) = false := by simp; omega
  have d5 : ((c.size : Int) != w * h) = false := by simp [p5]
  obtain ⟨m1, m2⟩ := mul_in p1 p2 p3 p4
  by_cases z0 : t = 0
  · exact pos_ka w h t c h0 h1 W hc9 l0 l1 m1 m2 d1 d2 d3 d4 d5 (by simp [z0]) p8 p9 p10
  · exact pos_kb w h t c h0 h1 W hc9 l0 l1 m1 m2 d1 d2 d3 d4 d5 (by simp [z0]) (by simp; omega) p8 p9 p10
theorem pos_bad (w h t : Int) (c h0 h1 : ByteArray) (W : World) (hc9 : c.size ≤ 9223372036854775807) (l0 : h0.size ≤ 9223372036854775807) (l1 : h1.size ≤ 9223372036854775807) (hp : ¬ PosOk ⟨w, h, c, t, h0, h1⟩) :
    Calls Tryz.prog 39 #[.agg #[.int .i64 w, .int .i64 h, .string c, .int .i64 t, .string h0, .string h1]] W fun e w' => e = .returned (.bool false) ∧ Below W.heap.size W w' := by
  by_cases p1 : 1 ≤ w
  case neg => exact pos_f1 w h t c h0 h1 W hc9 l0 l1 (by simp; omega)
  by_cases p2 : w ≤ 8
  case neg => exact pos_f2 w h t c h0 h1 W hc9 l0 l1 (by simp; omega) (by simp; omega)
  by_cases p3 : 1 ≤ h
  case neg => exact pos_f3 w h t c h0 h1 W hc9 l0 l1 (by simp; omega) (by simp; omega) (by simp; omega)
  by_cases p4 : h ≤ 8
  case neg => exact pos_f4 w h t c h0 h1 W hc9 l0 l1 (by simp; omega) (by simp; omega) (by simp; omega) (by simp; omega)
  have d1 : decide (w < 1) = false := by simp; omega
  have d2 : decide (w > 8) = false := by simp; omega
  have d3 : decide (h < 1) = false := by simp; omega
  have d4 : decide (h > 8) = false := by simp; omega
  obtain ⟨m1, m2⟩ := mul_in p1 p2 p3 p4
  by_cases p5 : (c.size : Int) = w * h
  case neg => exact pos_f5 w h t c h0 h1 W hc9 l0 l1 m1 m2 d1 d2 d3 d4 (by simp [p5])
  have d5 : ((c.size : Int) != w * h) = false := by simp [p5]
  by_cases z0 : t = 0
  · by_cases p8 : handB h0 = true
    case neg => exact pos_ga w h t c h0 h1 W hc9 l0 l1 m1 m2 d1 d2 d3 d4 d5 (by simp [z0]) (by simpa using p8)
    by_cases p9 : handB h1 = true
    case neg => exact pos_ha w h t c h0 h1 W hc9 l0 l1 m1 m2 d1 d2 d3 d4 d5 (by simp [z0]) p8 (by simpa using p9)
    exact pos_ca w h t c h0 h1 W hc9 l0 l1 m1 m2 d1 d2 d3 d4 d5 (by simp [z0]) p8 p9 (fun p10 => hp ⟨p1, p2, p3, p4, p5, by simp only; omega, by simp only; omega, p8, p9, p10⟩)
  · by_cases z1 : t = 1
    case neg => exact pos_f7 w h t c h0 h1 W hc9 l0 l1 m1 m2 d1 d2 d3 d4 d5 (by simp [z0]) (by simp [z1])
    by_cases p8 : handB h0 = true
    case neg => exact pos_gb w h t c h0 h1 W hc9 l0 l1 m1 m2 d1 d2 d3 d4 d5 (by simp [z0]) (by simp [z1]) (by simpa using p8)
    by_cases p9 : handB h1 = true
    case neg => exact pos_hb w h t c h0 h1 W hc9 l0 l1 m1 m2 d1 d2 d3 d4 d5 (by simp [z0]) (by simp [z1]) p8 (by simpa using p9)
    exact pos_cb w h t c h0 h1 W hc9 l0 l1 m1 m2 d1 d2 d3 d4 d5 (by simp [z0]) (by simp [z1]) p8 p9 (fun p10 => hp ⟨p1, p2, p3, p4, p5, by simp only; omega, by simp only; omega, p8, p9, p10⟩)
end Go.Proofs.YtcdfeaodfmfdnaaGreatDoor
