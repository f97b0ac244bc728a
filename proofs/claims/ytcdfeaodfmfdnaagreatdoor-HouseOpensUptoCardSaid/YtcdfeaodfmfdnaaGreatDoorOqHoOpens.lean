/- gamelaw.HouseOpens: walked. -/
import Derived.Test.YtcdfeaodfmfdnaaGreatDoorOqOpOpen
import Derived.Test.YtcdfeaodfmfdnaaGreatDoorOqOpRef
import Derived.Test.YtcdfeaodfmfdnaaGreatDoorOqKit
namespace Go.Proofs.YtcdfeaodfmfdnaaGreatDoor
open Go.RowKit

theorem hown_ne_ {W : World} {v v' : Value} {g : Nat} (hl : v'.ownBlock = v.ownBlock ∨ ∃ b, v'.ownBlock = some b ∧ W.heap.size ≤ b) (hn : ∀ k, v.ownBlock = some k → k ≠ g) (hg : g < W.heap.size) : ∀ k, v'.ownBlock = some k → k ≠ g := fun k hk => by
 rcases hl with h | ⟨b, h, hb⟩
 ·
  rw [h] at hk; exact hn k hk
 ·
  rw [h] at hk; injection hk with hk; omega
theorem Env.toH {w : World} (h : Env w) : EnvH w := ⟨h.tb⟩
set_option maxHeartbeats 8000000 in
set_option maxRecDepth 100000 in
theorem opens_no (r : RulesD) (A : Option Addr) (cp : Nat) (t : Int) (tx : ByteArray) (Al : Option Addr) (cl : Nat) (ms : List MsgD) (W : World) (hf : RFit r) (he : Env W) (hP : PiecesAt W W.heap.size A r.pieces) (hno : ¬ (RulesOk r ∧ 1 ≤ t ∧ t ≤ 1000000)) :
  Calls Tryz.prog 7 #[.agg #[.int .i64 r.start.w, .int .i64 r.start.h, .string r.start.cells, .int .i64 r.start.turn, .string r.start.h0, .string r.start.h1, .slice A r.pieces.length cp, .bool r.drops, .int .u8 (r.lose : Int), .int .i64 r.line, .int .u8 (r.reach : Int), .bool r.stuck, .int .i64 r.plies], .int .i64 t, .string tx, .slice Al ms.length cl] W fun e w' => e = .returned (.bool true) ∧ Only (fun _ => False) W w' := by
 have HE0 := hide (he.no (show Only (fun _ => False) W (W.alloc (.cells #[.int .i64 r.start.w, .int .i64 r.start.h, .string r.start.cells, .int .i64 r.start.turn, .string r.start.h0, .string r.start.h1, .slice A r.pieces.length cp, .bool r.drops, .int .u8 (r.lose : Int), .int .i64 r.line, .int .u8 (r.reach : Int), .bool r.stuck, .int .i64 r.plies] 27)) from (Only.refl _ W).alloc _))
 have HP := hide (show ∀ w', Only (fun _ => False) W w' → PiecesAt w' w'.heap.size A r.pieces from fun w' ho => (hP.below (ho.below_ (fun _ h => h.elim) (Nat.le_refl _))).more ho.size)
 have hbig := he.big
 have Hb0 := hide (Blk.new W 27 #[.int .i64 r.start.w, .int .i64 r.start.h, .string r.start.cells, .int .i64 r.start.turn, .string r.start.h0, .string r.start.h1, .slice A r.pieces.length cp, .bool r.drops, .int .u8 (r.lose : Int), .int .i64 r.line, .int .u8 (r.reach : Int), .bool r.stuck, .int .i64 r.plies])
 have Ho0 := hide (show Only (fun _ => False) W (W.alloc (.cells #[.int .i64 r.start.w, .int .i64 r.start.h, .string r.start.cells, .int .i64 r.start.turn, .string r.start.h0, .string r.start.h1, .slice A r.pieces.length cp, .bool r.drops, .int .u8 (r.lose : Int), .int .i64 r.line, .int .u8 (r.reach : Int), .bool r.stuck, .int .i64 r.plies] 27)) from (Only.refl _ W).alloc _)
 go_enter Tryz.func7, Tryz.ntmps7
 go_upto_region 1 with (fail)
 obtain ⟨w0, hw0⟩ : ∃ w0, W.alloc (.cells #[.int .i64 r.start.w, .int .i64 r.start.h, .string r.start.cells, .int .i64 r.start.turn, .string r.start.h0, .string r.start.h1, .slice A r.pieces.length cp, .bool r.drops, .int .u8 (r.lose : Int), .int .i64 r.line, .int .u8 (r.reach : Int), .bool r.stuck, .int .i64 r.plies] 27) = w0 := ⟨_, rfl⟩
 rw [hw0] at Hb0 Ho0 HE0 ⊢
 clear hw0
 obtain ⟨x0, x1, x2, x3, x4, x5, x6, x7, x8, x9, x10, x11, x12⟩ := Hb0.out.rules
 clear he
 go_upto_region 2 with (go_at_call 26; refine (hopen_no r A cp t tx w0 hf (HP.out _ Ho0.out) hno).mono ?_; rintro e w2 ⟨rfl, hl2⟩)
 have Hb2 := hide (Hb0.out.only hl2 (fun h => h))
 have Ho2 := hide (Ho0.out.trans hl2)
 have HR := hide (rules_any r A cp w2 hf (HP.out _ Ho2.out))
 clear hl2 Hb0 Ho0 x0 x1 x2 x3 x4 x5 x6 x7 x8 x9 x10 x11 x12 hP HP
 obtain ⟨x0, x1, x2, x3, x4, x5, x6, x7, x8, x9, x10, x11, x12⟩ := Hb2.out.rules
 by_cases q : RulesOk r
 ·
  rw [rulesB_true.2 q] at HR
  by_cases q1 : t < 1
  ·
   have d1 : decide (t < 1) = true := by simpa using q1
   clear hno q q1
   go_wp2_with (go_at_call 13; refine HR.out.mono ?_; rintro e w3 ⟨rfl, hl3⟩)
   go_ret
   exact ⟨rfl, Ho2.out.trans (later_only hl3)⟩
  ·
   have d1 : decide (t < 1) = false := by simpa using q1
   have d2 : decide (t > 1000000) = true := by
    have : ¬ t ≤ 1000000 := fun h => hno ⟨q, by omega, h⟩
    simpa using this
   clear hno q q1
   go_wp2_with (go_at_call 13; refine HR.out.mono ?_; rintro e w3 ⟨rfl, hl3⟩)
   go_ret
   exact ⟨rfl, Ho2.out.trans (later_only hl3)⟩
 ·
  rw [show rulesB r = false from by cases hb : rulesB r with | false => rfl | true => exact absurd (rulesB_true.1 hb) q] at HR
  clear hno q
  go_wp2_with (go_at_call 13; refine HR.out.mono ?_; rintro e w3 ⟨rfl, hl3⟩)
  go_ret
  exact ⟨rfl, Ho2.out.trans (later_only hl3)⟩
set_option maxHeartbeats 32000000 in
set_option maxRecDepth 100000 in
theorem opens_ok (r : RulesD) (A : Option Addr) (cp : Nat) (t : Int) (tx : ByteArray) (Al : Option Addr) (cl : Nat) (ms : List MsgD) (W : World) (hf : RFit r) (he : Env W) (hP : PiecesAt W W.heap.size A r.pieces) (htx : tx.size < 4294967281) (hms : Cells W W.heap.size Al (cellsG ms)) (hml : ms.length ≤ 9223372036854775807) (hmr : ∀ m ∈ ms, -9223372036854775808 ≤ m.at_ ∧ m.at_ ≤ 9223372036854775807) (hok : RulesOk r) (t1 : 1 ≤ t) (t2 : t ≤ 1000000) :
  Calls Tryz.prog 7 #[.agg #[.int .i64 r.start.w, .int .i64 r.start.h, .string r.start.cells, .int .i64 r.start.turn, .string r.start.h0, .string r.start.h1, .slice A r.pieces.length cp, .bool r.drops, .int .u8 (r.lose : Int), .int .i64 r.line, .int .u8 (r.reach : Int), .bool r.stuck, .int .i64 r.plies], .int .i64 t, .string tx, .slice Al ms.length cl] W fun e w' => e = .returned (.bool true) ∧ Only (fun _ => False) W w' := by
 have HEn := hide (fun w (ho : Only (fun x => W.heap.size ≤ x) W w) => he.step ho (fun i hi => by have := he.big; omega))
 have HP := hide (show ∀ w', Only (fun _ => False) W w' → PiecesAt w' w'.heap.size A r.pieces from fun w' ho => (hP.below (ho.below_ (fun _ h => h.elim) (Nat.le_refl _))).more ho.size)
 have hbig := he.big
 have Hb0 := hide (Blk.new W 27 #[.int .i64 r.start.w, .int .i64 r.start.h, .string r.start.cells, .int .i64 r.start.turn, .string r.start.h0, .string r.start.h1, .slice A r.pieces.length cp, .bool r.drops, .int .u8 (r.lose : Int), .int .i64 r.line, .int .u8 (r.reach : Int), .bool r.stuck, .int .i64 r.plies])
 have Ho0 := hide (show Only (fun _ => False) W (W.alloc (.cells #[.int .i64 r.start.w, .int .i64 r.start.h, .string r.start.cells, .int .i64 r.start.turn, .string r.start.h0, .string r.start.h1, .slice A r.pieces.length cp, .bool r.drops, .int .u8 (r.lose : Int), .int .i64 r.line, .int .u8 (r.reach : Int), .bool r.stuck, .int .i64 r.plies] 27)) from (Only.refl _ W).alloc _)
 go_enter Tryz.func7, Tryz.ntmps7
 go_upto_region 1 with (fail)
 obtain ⟨w0, hw0⟩ : ∃ w0, W.alloc (.cells #[.int .i64 r.start.w, .int .i64 r.start.h, .string r.start.cells, .int .i64 r.start.turn, .string r.start.h0, .string r.start.h1, .slice A r.pieces.length cp, .bool r.drops, .int .u8 (r.lose : Int), .int .i64 r.line, .int .u8 (r.reach : Int), .bool r.stuck, .int .i64 r.plies] 27) = w0 := ⟨_, rfl⟩
 rw [hw0] at Hb0 Ho0 ⊢
 clear hw0
 obtain ⟨x0, x1, x2, x3, x4, x5, x6, x7, x8, x9, x10, x11, x12⟩ := Hb0.out.rules
 have HPr := hide (show ∀ w, Only (fun x => W.heap.size ≤ x) W w → PAt w (fun x => x < W.heap.size) A r.pieces from fun w ho w' ho' => (hP.below ((ho.trans' ho' (fun i hi hn => by omega)).below_ (B := W.heap.size) (fun _ h => h) (Nat.le_refl _))).more (Nat.le_trans ho.size ho'.size))
 have HE0 := hide (he.no Ho0.out)
 go_upto_region 2 with (go_at_call 26; refine (hopen_ok r A cp t tx w0 hf HE0.out (HP.out _ Ho0.out) hok t1 t2 htx).mono ?_; rintro e w2 ⟨h1, lo1, BB, v0, s0, n0, rfl, ha2, hlo1, hgB, hBw2, hWl, hst, hsr, hfl, hor, ho2⟩)
 have Ha2 := hide ha2
 have Hst := hide hst
 have Hsr0 := hide hsr
 have Hor0 := hide hor
 have Hb2 := hide (Hb0.out.only ho2 (fun h => h))
 have Ho2 := hide (Ho0.out.trans ho2)
 have HR := hide (rules_any r A cp w2 hf (HP.out _ Ho2.out))
 rw [rulesB_true.2 hok] at HR
 have hlt0 : W.heap.size < w0.heap.size := Hb0.out.lt
 have hWl1 : W.heap.size < lo1 := by omega
 clear ha2 hst hsr hfl hor ho2 Hb0 Ho0 x0 x1 x2 x3 x4 x5 x6 x7 x8 x9 x10 x11 x12 hP he HE0
 obtain ⟨x0, x1, x2, x3, x4, x5, x6, x7, x8, x9, x10, x11, x12⟩ := Hb2.out.rules
 have d1 : decide (t < 1) = false := by simp; omega
 have d2 : decide (t > 1000000) = false := by simp; omega
 go_upto_region 4 with (go_at_call 13; refine HR.out.mono ?_; rintro e w3 ⟨rfl, hl3⟩)
 have Hb3 := hide (Hb2.out.only (later_only hl3) (fun h => h))
 have Ho3 := hide (Ho2.out.trans (later_only hl3))
 have Ha3 := hide (Ha2.out.only (later_only hl3) (fun _ h => h.elim) hlo1 (fun _ _ h => h))
 have hBw3 : BB ≤ w3.heap.size := Nat.le_trans hBw2 hl3.size
 clear hl3 Hb2 Ho2 Ha2 x0 x1 x2 x3 x4 x5 x6 x7 x8 x9 x10 x11 x12 HR d1 d2 hBw2
 obtain ⟨x0, x1, x2, x3, x4, x5, x6, x7, x8, x9, x10, x11, x12⟩ := Hb3.out.rules
 go_upto_region 5 with (go_at_call 27; refine (opened_ok r A cp t tx w3 (HEn.out _ (Ho3.out.mono (fun _ _ h => h.elim))) (HP.out _ Ho3.out) hok t1 t2 htx).mono ?_; rintro e w4 ⟨g, s9, n9, rfl, hg4, hwg, hok9, hsr9, hfl9, hor9, ho4⟩)
 obtain ⟨rfl, rfl⟩ := OpenR.uniq (start_ok hok t1 t2) Hor0.out hor9
 have Hg4 := hide hg4
 have Ha4 := hide (Ha3.out.only ho4 (fun _ h => h.elim) hlo1 (fun _ _ h => h))
 have Ho4 := hide (show Only (fun x => W.heap.size ≤ x) W w4 from (Ho3.out.trans ho4).mono (fun _ _ h => h.elim))
 have Hn4 := hide (show ∀ k, v0.ownBlock = some k → k ≠ g from fun k hk => by have := (Ha3.out.own k hk).2; omega)
 have h1g : h1 < g := by omega
 clear hg4 hok9 hsr9 hfl9 hor9 ho4 Hb3 Ho3 Ha3 x0 x1 x2 x3 x4 x5 x6 x7 x8 x9 x10 x11 x12 Hor0 HP hlt0
 obtain ⟨ls, hls⟩ : ∃ ls, bytes s0.lines = ls := ⟨_, rfl⟩
 have Hsv := hide (fun (w : World) (ha : HoAt w lo1 h1 BB s0 v0) => hsave_at ha (by omega))
 rw [hls] at Hsv
 have Hls := hide hls
 have tb : (ls.toList == ls.toList) = true := by simp
 have d3 : ((n0 : Int) != (n0 : Int)) = false := by simp
 have d3n : ((n0 : Nat) != n0) = false := by simp
 have HS := hide (show ∀ w' : World, Blk w' g 57 (rhC s0 A cp) → (w'.cell? ⟨g, 24, none⟩ = some (.string ls)) from fun w' hb => by
  obtain ⟨-, -, -, -, -, z5⟩ := rh_rest hb
  rw [Hls.out] at z5
  exact z5)
 clear hls
 go_upto_region 5 with (fail)
 refine wp_region_held_drew (S := fun w' : World => (w'.cell? ⟨g, 24, none⟩ = some (.string ls))) (by kernel_rfl) (HS.out _ Hg4.out.drew) (fun hHeld => ?_)
 refine tk 0 (some 51) (v := ?_) ?_ ?_; rotate_left 1; (intro w hSw; (try dsimp only at hSw); go_simp <;> with_reducible rfl); try simp only [Act.put, List.setIfInBounds_toArray, List.set_cons_zero, List.set_cons_succ]
 refine tk 1 (some 52) (v := ?_) ?_ ?_; rotate_left 1; (intro w hSw; (try dsimp only at hSw); go_simp <;> with_reducible rfl); try simp only [Act.put, List.setIfInBounds_toArray, List.set_cons_zero, List.set_cons_succ]
 refine tk 2 (some 53) (v := ?_) ?_ ?_; rotate_left 1; (intro w hSw; (try dsimp only at hSw); go_simp <;> with_reducible rfl); try simp only [Act.put, List.setIfInBounds_toArray, List.set_cons_zero, List.set_cons_succ]
 refine tk 3 (some 54) (v := ?_) ?_ ?_; rotate_left 1; (intro w hSw; (try dsimp only at hSw); go_simp <;> with_reducible rfl); try simp only [Act.put, List.setIfInBounds_toArray, List.set_cons_zero, List.set_cons_succ]
 refine tk 4 (some 55) (v := ?_) ?_ ?_; rotate_left 1; (intro w hSw; (try dsimp only at hSw); go_simp <;> with_reducible rfl); try simp only [Act.put, List.setIfInBounds_toArray, List.set_cons_zero, List.set_cons_succ]
 refine tk 5 (some 56) (v := ?_) ?_ ?_; rotate_left 1; (intro w hSw; (try dsimp only at hSw); go_simp <;> with_reducible rfl); try simp only [Act.put, List.setIfInBounds_toArray, List.set_cons_zero, List.set_cons_succ]
 refine tk 6 (some 57) (v := ?_) ?_ ?_; rotate_left 1; (intro w hSw; (try dsimp only at hSw); go_simp <;> with_reducible rfl); try simp only [Act.put, List.setIfInBounds_toArray, List.set_cons_zero, List.set_cons_succ]
 refine tk 7 (some 58) (v := ?_) ?_ ?_; rotate_left 1; (intro w hSw; (try dsimp only at hSw); go_simp <;> with_reducible rfl); try simp only [Act.put, List.setIfInBounds_toArray, List.set_cons_zero, List.set_cons_succ]
 refine tk 8 (some 59) (v := ?_) ?_ ?_; rotate_left 1; (intro w hSw; (try dsimp only at hSw); go_simp <;> with_reducible rfl); try simp only [Act.put, List.setIfInBounds_toArray, List.set_cons_zero, List.set_cons_succ]
 refine tk 9 (some 60) (v := ?_) ?_ ?_; rotate_left 1; (intro w hSw; (try dsimp only at hSw); go_simp <;> with_reducible rfl); try simp only [Act.put, List.setIfInBounds_toArray, List.set_cons_zero, List.set_cons_succ]
 refine tk 10 (some 61) (v := ?_) ?_ ?_; rotate_left 1; (intro w hSw; (try dsimp only at hSw); go_simp <;> with_reducible rfl); try simp only [Act.put, List.setIfInBounds_toArray, List.set_cons_zero, List.set_cons_succ]
 refine tk 11 (some 62) (v := ?_) ?_ ?_; rotate_left 1; (intro w hSw; (try dsimp only at hSw); go_simp <;> with_reducible rfl); try simp only [Act.put, List.setIfInBounds_toArray, List.set_cons_zero, List.set_cons_succ]
 refine tk 12 (some 63) (v := ?_) ?_ ?_; rotate_left 1; (intro w hSw; (try dsimp only at hSw); go_simp <;> with_reducible rfl); try simp only [Act.put, List.setIfInBounds_toArray, List.set_cons_zero, List.set_cons_succ]
 refine tk 14 (some 65) (v := ?_) ?_ ?_; rotate_left 1; (intro w hSw; (try dsimp only at hSw); go_simp <;> with_reducible rfl); try simp only [Act.put, List.setIfInBounds_toArray, List.set_cons_zero, List.set_cons_succ]
 refine tk 15 (some 66) (v := ?_) ?_ ?_; rotate_left 1; (intro w hSw; (try dsimp only at hSw); go_simp <;> with_reducible rfl); try simp only [Act.put, List.setIfInBounds_toArray, List.set_cons_zero, List.set_cons_succ]
 refine tk 16 (some 67) (v := ?_) ?_ ?_; rotate_left 1; (intro w hSw; (try dsimp only at hSw); go_simp <;> with_reducible rfl); try simp only [Act.put, List.setIfInBounds_toArray, List.set_cons_zero, List.set_cons_succ]
 refine tk 17 (some 68) (v := ?_) ?_ ?_; rotate_left 1; (intro w hSw; (try dsimp only at hSw); go_simp <;> with_reducible rfl); try simp only [Act.put, List.setIfInBounds_toArray, List.set_cons_zero, List.set_cons_succ]
 refine wpAnyH_ready (rs := [13]) (by kernel_rfl) (by simp) ?_
 refine AllReadyH.cons (o := ⟨some 64, _, _, _, _, _⟩) rfl (fun K hK => ?_) ?_
 ·
  clear hHeld
  go_simp
  go_at_call 22
  refine (Hsv.out _ (Ha4.out.only ((Only.refl (fun _ => False) w4).drew) (fun _ h => h.elim) hlo1 (fun _ _ h => h))).mono ?_
  rintro e w5 ⟨rfl, hat, ho⟩
  have Ha5 := hide hat
  have Hg5 := hide (Hg4.out.only (((Only.refl (fun x => v0.ownBlock = some x) w4).drew).trans ho) (fun h => Hn4.out _ h rfl))
  have Ho5 := hide (Ho4.out.trans' (((Only.refl (fun x => v0.ownBlock = some x) w4).drew).trans ho) (fun i hi hs => by have := (Ha4.out.own i hs).1; omega))
  clear hat ho
  try go_wp2_with fail
  refine hK.out _ _ (by first | exact HS.out _ Hg5.out | exact HS.out _ Hg4.out.drew) (fun hHeld => ?_)
  clear hK K
  try simp only [Act.put, List.setIfInBounds_toArray, List.set_cons_zero, List.set_cons_succ]
  refine tk 18 (some 69) (v := ?_) ?_ ?_; rotate_left 1; (intro w hSw; (try dsimp only at hSw); go_simp <;> with_reducible rfl); try simp only [Act.put, List.setIfInBounds_toArray, List.set_cons_zero, List.set_cons_succ]
  refine tk 19 (some 70) (v := ?_) ?_ ?_; rotate_left 1; (intro w hSw; (try dsimp only at hSw); go_simp <;> with_reducible rfl); try simp only [Act.put, List.setIfInBounds_toArray, List.set_cons_zero, List.set_cons_succ]
  refine wpAnyH_done (by kernel_rfl) ?_ _
  clear HS Hsv Hls tb d3 d3n hHeld Ha4 Hg4 Ho4
  go_wp2_with fail
  go_loopw [73] (fun iv wr => ∃ (i : Nat) (s : HoD) (va : Value), i ≤ ms.length ∧ iv = .int .i64 (i : Int) ∧ HoAt wr lo1 h1 BB s va ∧ Blk wr g 57 (rhC s A cp) ∧ HoOk s ∧ s.r = r ∧ Only (fun x => W.heap.size ≤ x) W wr ∧ (∀ k, va.ownBlock = some k → k ≠ g)) (fun iv _ => ms.length - (intOf iv).toNat)
  case atStart => exact ⟨0, s0, v0, by omega, rfl, Ha5.out, Hg5.out, Hst.out, Hsr0.out, Ho5.out, Hn4.out⟩
  case round =>
   rename World => wr
   obtain ⟨i, s, va, hi, rfl, ha, hg, hos, hsr, ho, hn⟩ := hrel
   have Hn := hide hn
   have Ha := hide ha
   have Hg := hide hg
   have Hos := hide hos
   have Hsr := hide hsr
   have Hor := hide ho
   have hBr : BB ≤ wr.heap.size := by have := hg.lt; omega
   clear ha hg hos hsr ho hn Ha5 Hg5 Ho5
   by_cases hil : i = ms.length
   ·
    subst hil
    have d1 : decide ((ms.length : Int) < (ms.length : Int)) = false := by simp
    go_wp2_with fail
    go_ret
    exact ⟨rfl, Hor.out.mono (fun k hk h => by omega)⟩
   ·
    replace hil : i < ms.length := by omega
    have d1 : decide ((i : Int) < (ms.length : Int)) = true := by simp; omega
    have i0 : (0 : Int) ≤ (i : Int) := by omega
    have i1 : (i : Int) < (ms.length : Int) := by omega
    obtain ⟨bm, om, hAl, hbm, y0, y1, y2, y3⟩ := msg_at (hms.below (Hor.out.below_ (B := W.heap.size) (fun _ h => h) (Nat.le_refl _))) hil
    obtain ⟨m, hm⟩ : ∃ m, ms[i] = m := ⟨_, rfl⟩
    have hmb := hmr m (by rw [← hm]; exact List.getElem_mem hil)
    have Hcm := hide (msg_at hms hil)
    rw [hm] at y0 y1 y2 y3
    obtain ⟨s2, hs2⟩ : ∃ s2, (takeP s m).1 = s2 := ⟨_, rfl⟩
    obtain ⟨rk, hrk⟩ : ∃ rk, (takeP s m).2 = rk := ⟨_, rfl⟩
    obtain ⟨rp, hrp⟩ : ∃ rp, s2.ply = rp := ⟨_, rfl⟩
    obtain ⟨ro, hro⟩ : ∃ ro, outP s2 = ro := ⟨_, rfl⟩
    obtain ⟨rt, hrt⟩ : ∃ rt, bytes (textL s2.p) = rt := ⟨_, rfl⟩
    have hrv : repV (takeP s m) = #[.int .i64 rk, .int .i64 rp, .int .i64 ro, .string rt] := by unfold repV; rw [hs2, hrk, hrp, hro, hrt]
    have Hta := hide (fun (w : World) (v : Value) (ha : HoAt w lo1 h1 BB s v) (hB : BB ≤ w.heap.size) (he : EnvH w) => htake_any lo1 h1 BB s v m w ha Hos.out (by omega) hB (by omega) he hmb.1 hmb.2)
    have Htb := hide (fun (w : World) (hg : Blk w g 57 (rhC s A cp)) (hp : PAt w (fun x => x < W.heap.size) A r.pieces) (he : EnvH w) => rtake_any g s A cp (fun x => x < W.heap.size) m w hg Hos.out (by rw [Hsr.out]; exact hp) (by omega) hmb.1 hmb.2 (by omega) he)
    rw [hrv, hs2] at Hta Htb
    have Hok2 := hide (show HoOk s2 from by rw [← hs2]; exact take_ok Hos.out hmb.2)
    have Hsr2 := hide (show s2.r = r from by rw [← hs2, take_r, Hsr.out])
    obtain ⟨ls, hls⟩ : ∃ ls, bytes s2.lines = ls := ⟨_, rfl⟩
    have Hsv := hide (fun (w : World) (va2 : Value) (ha : HoAt w lo1 h1 BB s2 va2) => hsave_at ha (by omega))
    rw [hls] at Hsv
    have Hls := hide hls
    have HS11 := hide (show ∀ w' : World, Only (fun x => W.heap.size ≤ x) W w' → (w'.cell? ⟨bm, om + i * 4, none⟩ = some (.int .i64 m.seat) ∧ w'.cell? ⟨bm, om + i * 4 + 1, none⟩ = some (.int .i64 m.ply) ∧ w'.cell? ⟨bm, om + i * 4 + 2, none⟩ = some (.string m.mv) ∧ w'.cell? ⟨bm, om + i * 4 + 3, none⟩ = some (.int .i64 m.at_)) from fun w' ho => by
     obtain ⟨b', o', e', _, z⟩ := msg_at (hms.below (ho.below_ (B := W.heap.size) (fun _ h => h) (Nat.le_refl _))) hil
     rw [hAl] at e'
     injection e' with e'
     injection e' with e1 e2
     subst e1
     subst e2
     rw [hm] at z
     exact z)
    subst hAl
    have hne : ∀ w, (binOp .neq 59 (.agg #[.int .i64 rk, .int .i64 rp, .int .i64 ro, .string rt]) (.agg #[.int .i64 rk, .int .i64 rp, .int .i64 ro, .string rt])).run Tryz.prog w = .ok (.bool false) w := fun w => neqR rk rp ro rt w
    have hgd := fun op a b w => gdR op a b rk rp ro rk rp ro rt rt w
    have tb : (ls.toList == ls.toList) = true := by simp
    clear hm hrv hs2 hrk hrp hro hrt hls y0 y1 y2 y3 Hcm
    go_upto_region 10 with (fail)
    refine wp_region_held_drew (S := fun w' : World => (w'.cell? ⟨bm, om + i * 4, none⟩ = some (.int .i64 m.seat) ∧ w'.cell? ⟨bm, om + i * 4 + 1, none⟩ = some (.int .i64 m.ply) ∧ w'.cell? ⟨bm, om + i * 4 + 2, none⟩ = some (.string m.mv) ∧ w'.cell? ⟨bm, om + i * 4 + 3, none⟩ = some (.int .i64 m.at_))) (by kernel_rfl) (HS11.out _ Hor.out.drew) (fun hHeld => ?_)
    have hdr : Only (fun _ => False) wr wr.drew := (Only.refl _ wr).drew
    have Xa20 := hide (Ha.out.only hdr (fun _ h => h.elim) hlo1 (fun _ _ h => h))
    have Xg20 := hide (Hg.out.only hdr (fun h => h))
    have Xo20 := hide (Hor.out.trans' hdr (fun _ _ h => h.elim))
    have Xs20 := hide (show BB ≤ wr.drew.heap.size from hBr)
    have Xn20 := Hn
    obtain ⟨w20, hw⟩ : ∃ w20, wr.drew = w20 := ⟨_, rfl⟩
    rw [hw] at hHeld Xa20 Xg20 Xo20 Xs20 ⊢
    clear hw hdr
    refine tk 0 (some 76) (v := ?_) ?_ ?_; rotate_left 1; (intro w hSw; (try dsimp only at hSw); go_simp <;> with_reducible rfl); try simp only [Act.put, List.setIfInBounds_toArray, List.set_cons_zero, List.set_cons_succ]
    refine tk 1 (some 77) (v := ?_) ?_ ?_; rotate_left 1; (intro w hSw; (try dsimp only at hSw); go_simp <;> with_reducible rfl); try simp only [Act.put, List.setIfInBounds_toArray, List.set_cons_zero, List.set_cons_succ]
    refine tk 2 (some 78) (v := ?_) ?_ ?_; rotate_left 1; (intro w hSw; (try dsimp only at hSw); go_simp <;> with_reducible rfl); try simp only [Act.put, List.setIfInBounds_toArray, List.set_cons_zero, List.set_cons_succ]
    refine tk 3 (some 79) (v := ?_) ?_ ?_; rotate_left 1; (intro w hSw; (try dsimp only at hSw); go_simp <;> with_reducible rfl); try simp only [Act.put, List.setIfInBounds_toArray, List.set_cons_zero, List.set_cons_succ]
    refine tk 4 (some 80) (v := ?_) ?_ ?_; rotate_left 1; (intro w hSw; (try dsimp only at hSw); go_simp <;> with_reducible rfl); try simp only [Act.put, List.setIfInBounds_toArray, List.set_cons_zero, List.set_cons_succ]
    refine tk 6 (some 82) (v := ?_) ?_ ?_; rotate_left 1; (intro w hSw; (try dsimp only at hSw); go_simp <;> with_reducible rfl); try simp only [Act.put, List.setIfInBounds_toArray, List.set_cons_zero, List.set_cons_succ]
    refine tk 7 (some 83) (v := ?_) ?_ ?_; rotate_left 1; (intro w hSw; (try dsimp only at hSw); go_simp <;> with_reducible rfl); try simp only [Act.put, List.setIfInBounds_toArray, List.set_cons_zero, List.set_cons_succ]
    refine tk 8 (some 84) (v := ?_) ?_ ?_; rotate_left 1; (intro w hSw; (try dsimp only at hSw); go_simp <;> with_reducible rfl); try simp only [Act.put, List.setIfInBounds_toArray, List.set_cons_zero, List.set_cons_succ]
    refine tk 9 (some 85) (v := ?_) ?_ ?_; rotate_left 1; (intro w hSw; (try dsimp only at hSw); go_simp <;> with_reducible rfl); try simp only [Act.put, List.setIfInBounds_toArray, List.set_cons_zero, List.set_cons_succ]
    refine tk 10 (some 86) (v := ?_) ?_ ?_; rotate_left 1; (intro w hSw; (try dsimp only at hSw); go_simp <;> with_reducible rfl); try simp only [Act.put, List.setIfInBounds_toArray, List.set_cons_zero, List.set_cons_succ]
    refine wpAnyH_ready (rs := [5]) (by kernel_rfl) (by simp) ?_
    refine AllReadyH.cons (o := ⟨some 81, _, _, _, _, _⟩) rfl (fun K hK => ?_) ?_
    ·
     clear hHeld
     go_simp
     go_at_call 23
     refine (Hta.out _ _ Xa20.out Xs20.out (HEn.out _ Xo20.out).toH).mono ?_
     rintro e w21 ⟨rfl, va2, hat, hlie, ho⟩
     have Xa21 := hide hat
     have Xg21 := hide (Xg20.out.only ho (fun h => h.elim (fun h => by omega) (fun h => Xn20.out _ h rfl)))
     have Xn21 := hide (hown_ne_ hlie Xn20.out Xg20.out.lt)
     have Xo21 := hide (Xo20.out.trans' ho (fun i hi hs => hs.elim (fun hs => by omega) (fun hs => by have := (Xa20.out.own i hs).1; omega)))
     have Xs21 := hide (Nat.le_trans Xs20.out ho.size)
     clear hat hlie ho
     try go_wp2_with fail
     refine hK.out _ _ (HS11.out _ Xo21.out) (fun hHeld => ?_)
     clear hK K
     try simp only [Act.put, List.setIfInBounds_toArray, List.set_cons_zero, List.set_cons_succ]
     refine wpAnyH_ready (rs := [11]) (by kernel_rfl) (by simp) ?_
     refine AllReadyH.cons (o := ⟨some 87, _, _, _, _, _⟩) rfl (fun K hK => ?_) ?_
     ·
      clear hHeld
      go_simp
      go_at_call 24
      refine (Htb.out _ Xg21.out (HPr.out _ Xo21.out) (HEn.out _ Xo21.out).toH).mono ?_
      rintro e w22 ⟨rfl, hgt, ho⟩
      have Xg22 := hide hgt
      have Xa22 := hide (Xa21.out.only ho (fun k hk hq => by omega) hlo1 (fun k hk hq => Xn21.out k hk hq))
      have Xn22 := Xn21
      have Xo22 := hide (Xo21.out.trans' ho (fun i hi hs => by omega))
      have Xs22 := hide (Nat.le_trans Xs21.out ho.size)
      clear hgt ho
      try go_wp2_with fail
      refine hK.out _ _ (HS11.out _ Xo22.out) (fun hHeld => ?_)
      clear hK K
      try simp only [Act.put, List.setIfInBounds_toArray, List.set_cons_zero, List.set_cons_succ]
      refine tk 12 (some 88) (v := ?_) ?_ ?_; rotate_left 1; (intro w hSw; (try dsimp only at hSw); go_simp <;> with_reducible rfl); try simp only [Act.put, List.setIfInBounds_toArray, List.set_cons_zero, List.set_cons_succ]
      refine tk 13 (some 89) (v := ?_) ?_ ?_; rotate_left 1; (intro w hSw; (try dsimp only at hSw); go_simp <;> with_reducible rfl); try simp only [Act.put, List.setIfInBounds_toArray, List.set_cons_zero, List.set_cons_succ]
      refine tk 14 (some 90) (v := ?_) ?_ ?_; rotate_left 1; (intro w hSw; (try dsimp only at hSw); go_simp <;> with_reducible rfl); try simp only [Act.put, List.setIfInBounds_toArray, List.set_cons_zero, List.set_cons_succ]
      refine tk 16 (some 92) (v := ?_) ?_ ?_; rotate_left 1; (intro w hSw; (try dsimp only at hSw); go_simp <;> with_reducible rfl); try simp only [Act.put, List.setIfInBounds_toArray, List.set_cons_zero, List.set_cons_succ]
      refine tk 17 (some 93) (v := ?_) ?_ ?_; rotate_left 1; (intro w hSw; (try dsimp only at hSw); go_simp <;> with_reducible rfl); try simp only [Act.put, List.setIfInBounds_toArray, List.set_cons_zero, List.set_cons_succ]
      refine tk 18 (some 94) (v := ?_) ?_ ?_; rotate_left 1; (intro w hSw; (try dsimp only at hSw); go_simp <;> with_reducible rfl); try simp only [Act.put, List.setIfInBounds_toArray, List.set_cons_zero, List.set_cons_succ]
      refine wpAnyH_ready (rs := [15, 19]) (by kernel_rfl) (by simp) ?_
      refine AllReadyH.cons (o := ⟨some 91, _, _, _, _, _⟩) rfl (fun K hK => ?_) ?_
      ·
       clear hHeld
       go_simp
       go_at_call 22
       refine (Hsv.out _ _ Xa22.out).mono ?_
       rintro e w23 ⟨rfl, hat, ho⟩
       have Xa23 := hide hat
       have Xg23 := hide (Xg22.out.only ho (fun h => Xn22.out _ h rfl))
       have Xn23 := Xn22
       have Xo23 := hide (Xo22.out.trans' ho (fun i hi hs => by have := (Xa22.out.own i hs).1; omega))
       have Xs23 := hide (Nat.le_trans Xs22.out ho.size)
       clear hat ho
       try go_wp2_with fail
       refine hK.out _ _ (HS11.out _ Xo23.out) (fun hHeld => ?_)
       clear hK K
       try simp only [Act.put, List.setIfInBounds_toArray, List.set_cons_zero, List.set_cons_succ]
       refine wpAnyH_ready (rs := [19]) (by kernel_rfl) (by simp) ?_
       refine AllReadyH.cons (o := ⟨some 95, _, _, _, _, _⟩) rfl (fun K hK => ?_) ?_
       ·
        clear hHeld
        obtain ⟨-, -, -, -, -, z5⟩ := rh_rest Xg23.out
        rw [Hls.out] at z5
        go_simp
        clear z5
        have Xa24 := Xa23
        have Xg24 := Xg23
        have Xn24 := Xn23
        have Xo24 := Xo23
        have Xs24 := Xs23
        refine hK.out _ _ (HS11.out _ Xo24.out) (fun hHeld => ?_)
        clear hK K
        try simp only [Act.put, List.setIfInBounds_toArray, List.set_cons_zero, List.set_cons_succ]
        refine tk 20 (some 96) (v := ?_) ?_ ?_; rotate_left 1; (intro w hSw; (try dsimp only at hSw); go_simp <;> with_reducible rfl); try simp only [Act.put, List.setIfInBounds_toArray, List.set_cons_zero, List.set_cons_succ]
        refine tk 21 (some 97) (v := ?_) ?_ ?_; rotate_left 1; (intro w hSw; (try dsimp only at hSw); go_simp <;> with_reducible rfl); try simp only [Act.put, List.setIfInBounds_toArray, List.set_cons_zero, List.set_cons_succ]
        refine wpAnyH_done (by kernel_rfl) ?_ _
        go_wp2_with fail
        go_roundw
        case rel => exact ⟨i + 1, s2, va2, by omega, by go_num, Xa24.out, Xg24.out, Hok2.out, Hsr2.out, Xo24.out, Xn24.out⟩
        case measure => simp [intOf]; omega
       exact AllReadyH.nil
      refine AllReadyH.cons (o := ⟨some 95, _, _, _, _, _⟩) rfl (fun K hK => ?_) ?_
      ·
       clear hHeld
       obtain ⟨-, -, -, -, -, z5⟩ := rh_rest Xg22.out
       rw [Hls.out] at z5
       go_simp
       clear z5
       have Xa25 := Xa22
       have Xg25 := Xg22
       have Xn25 := Xn22
       have Xo25 := Xo22
       have Xs25 := Xs22
       refine hK.out _ _ (HS11.out _ Xo25.out) (fun hHeld => ?_)
       clear hK K
       try simp only [Act.put, List.setIfInBounds_toArray, List.set_cons_zero, List.set_cons_succ]
       refine wpAnyH_ready (rs := [15]) (by kernel_rfl) (by simp) ?_
       refine AllReadyH.cons (o := ⟨some 91, _, _, _, _, _⟩) rfl (fun K hK => ?_) ?_
       ·
        clear hHeld
        go_simp
        go_at_call 22
        refine (Hsv.out _ _ Xa25.out).mono ?_
        rintro e w26 ⟨rfl, hat, ho⟩
        have Xa26 := hide hat
        have Xg26 := hide (Xg25.out.only ho (fun h => Xn25.out _ h rfl))
        have Xn26 := Xn25
        have Xo26 := hide (Xo25.out.trans' ho (fun i hi hs => by have := (Xa25.out.own i hs).1; omega))
        have Xs26 := hide (Nat.le_trans Xs25.out ho.size)
        clear hat ho
        try go_wp2_with fail
        refine hK.out _ _ (HS11.out _ Xo26.out) (fun hHeld => ?_)
        clear hK K
        try simp only [Act.put, List.setIfInBounds_toArray, List.set_cons_zero, List.set_cons_succ]
        refine tk 20 (some 96) (v := ?_) ?_ ?_; rotate_left 1; (intro w hSw; (try dsimp only at hSw); go_simp <;> with_reducible rfl); try simp only [Act.put, List.setIfInBounds_toArray, List.set_cons_zero, List.set_cons_succ]
        refine tk 21 (some 97) (v := ?_) ?_ ?_; rotate_left 1; (intro w hSw; (try dsimp only at hSw); go_simp <;> with_reducible rfl); try simp only [Act.put, List.setIfInBounds_toArray, List.set_cons_zero, List.set_cons_succ]
        refine wpAnyH_done (by kernel_rfl) ?_ _
        go_wp2_with fail
        go_roundw
        case rel => exact ⟨i + 1, s2, va2, by omega, by go_num, Xa26.out, Xg26.out, Hok2.out, Hsr2.out, Xo26.out, Xn26.out⟩
        case measure => simp [intOf]; omega
       exact AllReadyH.nil
      exact AllReadyH.nil
     exact AllReadyH.nil
    exact AllReadyH.nil
 exact AllReadyH.nil
theorem opens_any (r : RulesD) (A : Option Addr) (cp : Nat) (t : Int) (tx : ByteArray) (Al : Option Addr) (cl : Nat) (ms : List MsgD) (W : World) (hf : RFit r) (he : Env W) (hP : PiecesAt W W.heap.size A r.pieces) (htx : tx.size < 4294967281) (hms : Cells W W.heap.size Al (cellsG ms)) (hml : ms.length ≤ 9223372036854775807) (hmr : ∀ m ∈ ms, -9223372036854775808 ≤ m.at_ ∧ m.at_ ≤ 9223372036854775807) :
  Calls Tryz.prog 7 #[.agg #[.int .i64 r.start.w, .int .i64 r.start.h, .string r.start.cells, .int .i64 r.start.turn, .string r.start.h0, .string r.start.h1, .slice A r.pieces.length cp, .bool r.drops, .int .u8 (r.lose : Int), .int .i64 r.line, .int .u8 (r.reach : Int), .bool r.stuck, .int .i64 r.plies], .int .i64 t, .string tx, .slice Al ms.length cl] W fun e w' => e = .returned (.bool true) ∧ Only (fun _ => False) W w' := by
 by_cases h : RulesOk r ∧ 1 ≤ t ∧ t ≤ 1000000
 ·
  exact opens_ok r A cp t tx Al cl ms W hf he hP htx hms hml hmr h.1 h.2.1 h.2.2
 ·
  exact opens_no r A cp t tx Al cl ms W hf he hP h
end Go.Proofs.YtcdfeaodfmfdnaaGreatDoor
