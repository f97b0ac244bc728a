/- (*house.House).outcome and reply: walked. -/
import Derived.Test.YtcdfeaodfmfdnaaGreatDoorPlTk
import Derived.Test.YtcdfeaodfmfdnaaGreatDoorPlHoBM
import Derived.Test.YtcdfeaodfmfdnaaGreatDoorPlMgTop
import Derived.Test.YtcdfeaodfmfdnaaGreatDoorPlBxWM
import Derived.Deep.RegionHeld
namespace Go.Proofs.YtcdfeaodfmfdnaaGreatDoor
open Go.RowKit

theorem hosizes {p : Pos} (h : PosOk p) : p.cells.size ≤ 64 ∧ p.h0.size ≤ 8 ∧ p.h1.size ≤ 8 := by
 have h1 := (mul_in h.w1 h.w8 h.h1 h.h8).2
 have h2 := h.size
 exact ⟨by omega, (handB_true.1 h.hand0).1, (handB_true.1 h.hand1).1⟩
theorem ho_rfit {r : RulesD} (h : RulesOk r) : RFit r := by
 have h9 := hosizes h.start
 refine ⟨by omega, by omega, by omega, by have := h.p10; omega, fun k hk => ?_⟩
 have := (h.pieces k hk).len
 omega
theorem ho_pfit {p : Pos} (h : PosOk p) : PFit p := by
 have := hosizes h
 exact ⟨by omega, by omega, by omega⟩
theorem later_only {w w' : World} (h : Later w w') : Only (fun _ => False) w w' := Only.of_below h (fun k hk h2 => by omega)
theorem HB.later {w w' : World} {B h : Nat} {C : Array Value} {v : Value} {l : List UInt8} (hb : HB w B h C v l) (hl : Later w w') : HB w' B h C v l := hb.only (later_only hl) (fun h => h) (fun _ _ h => h)
set_option maxHeartbeats 8000000 in
set_option maxRecDepth 100000 in
theorem hout_any (B h : Nat) (s : HoD) (A : Option Addr) (cp : Nat) (ad v : Value) (l : List UInt8) (W : World) (hb : HB W B h (hoC s A cp ad v) v l) (hok : HoOk s) (hP : PiecesAt W W.heap.size A s.r.pieces) :
  Calls Tryz.prog 59 #[.pointer (some ⟨h, 0, none⟩)] W fun e w' => e = .returned (.int .i64 (outP s)) ∧ Later W w' := by
 have HBd := hide hb
 have Hmo := hide (fun w (hw : Later W w) => mo_ok s.r A cp s.p w (ho_rfit hok.of.rules) (ho_pfit hok.of.pos) ((hP.below hw).more hw.size) hok.of)
 obtain ⟨t0, t1, t2, t3⟩ := hb.rest
 by_cases q : 0 < s.flag
 ·
  have d : decide (s.flag > 0) = true := by simpa using q
  have ho : outP s = s.flag := by unfold outP; rw [if_pos q]
  rw [ho]
  clear ho hb hP hok
  go_enter Tryz.func59, Tryz.ntmps59
  go_wp2_with fail
  go_ret
  exact ⟨rfl, Later.rfl⟩
 ·
  have d : decide (s.flag > 0) = false := by simpa using q
  obtain ⟨o, ho⟩ : ∃ o, outP s = o := ⟨_, rfl⟩
  have Ho := hide ho
  rw [ho]
  clear hP hok hb ho
  go_enter Tryz.func59, Tryz.ntmps59
  go_upto_region 3 with (fail)
  have HS := hide (show ∀ w' : World, Later W w' → (w'.cell? ⟨h, 3, none⟩ = some (.int .i64 s.r.start.w) ∧ w'.cell? ⟨h, 4, none⟩ = some (.int .i64 s.r.start.h) ∧ w'.cell? ⟨h, 5, none⟩ = some (.string s.r.start.cells) ∧ w'.cell? ⟨h, 6, none⟩ = some (.int .i64 s.r.start.turn) ∧ w'.cell? ⟨h, 7, none⟩ = some (.string s.r.start.h0) ∧ w'.cell? ⟨h, 8, none⟩ = some (.string s.r.start.h1) ∧ w'.cell? ⟨h, 9, none⟩ = some (.slice A s.r.pieces.length cp) ∧ w'.cell? ⟨h, 10, none⟩ = some (.bool s.r.drops) ∧ w'.cell? ⟨h, 11, none⟩ = some (.int .u8 (s.r.lose : Int)) ∧ w'.cell? ⟨h, 12, none⟩ = some (.int .i64 s.r.line) ∧ w'.cell? ⟨h, 13, none⟩ = some (.int .u8 (s.r.reach : Int)) ∧ w'.cell? ⟨h, 14, none⟩ = some (.bool s.r.stuck) ∧ w'.cell? ⟨h, 15, none⟩ = some (.int .i64 s.r.plies) ∧ w'.cell? ⟨h, 16, none⟩ = some (.int .i64 s.p.w) ∧ w'.cell? ⟨h, 17, none⟩ = some (.int .i64 s.p.h) ∧ w'.cell? ⟨h, 18, none⟩ = some (.string s.p.cells) ∧ w'.cell? ⟨h, 19, none⟩ = some (.int .i64 s.p.turn) ∧ w'.cell? ⟨h, 20, none⟩ = some (.string s.p.h0) ∧ w'.cell? ⟨h, 21, none⟩ = some (.string s.p.h1)) from fun w' hw => by
   obtain ⟨r0, r1, r2, r3, r4, r5, r6, r7, r8, r9, r10, r11, r12⟩ := (HBd.out.later hw).rules
   obtain ⟨p0, p1, p2, p3, p4, p5⟩ := (HBd.out.later hw).pos
   exact ⟨r0, r1, r2, r3, r4, r5, r6, r7, r8, r9, r10, r11, r12, p0, p1, p2, p3, p4, p5⟩)
  clear t0 t1 t2 t3 d
  refine wp_region_held_drew (S := fun w' : World => (w'.cell? ⟨h, 3, none⟩ = some (.int .i64 s.r.start.w) ∧ w'.cell? ⟨h, 4, none⟩ = some (.int .i64 s.r.start.h) ∧ w'.cell? ⟨h, 5, none⟩ = some (.string s.r.start.cells) ∧ w'.cell? ⟨h, 6, none⟩ = some (.int .i64 s.r.start.turn) ∧ w'.cell? ⟨h, 7, none⟩ = some (.string s.r.start.h0) ∧ w'.cell? ⟨h, 8, none⟩ = some (.string s.r.start.h1) ∧ w'.cell? ⟨h, 9, none⟩ = some (.slice A s.r.pieces.length cp) ∧ w'.cell? ⟨h, 10, none⟩ = some (.bool s.r.drops) ∧ w'.cell? ⟨h, 11, none⟩ = some (.int .u8 (s.r.lose : Int)) ∧ w'.cell? ⟨h, 12, none⟩ = some (.int .i64 s.r.line) ∧ w'.cell? ⟨h, 13, none⟩ = some (.int .u8 (s.r.reach : Int)) ∧ w'.cell? ⟨h, 14, none⟩ = some (.bool s.r.stuck) ∧ w'.cell? ⟨h, 15, none⟩ = some (.int .i64 s.r.plies) ∧ w'.cell? ⟨h, 16, none⟩ = some (.int .i64 s.p.w) ∧ w'.cell? ⟨h, 17, none⟩ = some (.int .i64 s.p.h) ∧ w'.cell? ⟨h, 18, none⟩ = some (.string s.p.cells) ∧ w'.cell? ⟨h, 19, none⟩ = some (.int .i64 s.p.turn) ∧ w'.cell? ⟨h, 20, none⟩ = some (.string s.p.h0) ∧ w'.cell? ⟨h, 21, none⟩ = some (.string s.p.h1))) (by kernel_rfl) (HS.out _ Later.rfl.drew) (fun hHeld => ?_)
  refine tk 0 (some 15) (v := ?_) ?_ ?_; rotate_left 1; (intro w hSw; (try dsimp only at hSw); go_simp <;> with_reducible rfl); try simp only [Act.put, List.setIfInBounds_toArray, List.set_cons_zero, List.set_cons_succ]
  refine tk 1 (some 16) (v := ?_) ?_ ?_; rotate_left 1; (intro w hSw; (try dsimp only at hSw); go_simp <;> with_reducible rfl); try simp only [Act.put, List.setIfInBounds_toArray, List.set_cons_zero, List.set_cons_succ]
  refine tk 2 (some 17) (v := ?_) ?_ ?_; rotate_left 1; (intro w hSw; (try dsimp only at hSw); go_simp <;> with_reducible rfl); try simp only [Act.put, List.setIfInBounds_toArray, List.set_cons_zero, List.set_cons_succ]
  refine tk 3 (some 18) (v := ?_) ?_ ?_; rotate_left 1; (intro w hSw; (try dsimp only at hSw); go_simp <;> with_reducible rfl); try simp only [Act.put, List.setIfInBounds_toArray, List.set_cons_zero, List.set_cons_succ]
  refine tk 4 (some 19) (v := ?_) ?_ ?_; rotate_left 1; (intro w hSw; (try dsimp only at hSw); go_simp <;> with_reducible rfl); try simp only [Act.put, List.setIfInBounds_toArray, List.set_cons_zero, List.set_cons_succ]
  refine tk 5 (some 20) (v := ?_) ?_ ?_; rotate_left 1; (intro w hSw; (try dsimp only at hSw); go_simp <;> with_reducible rfl); try simp only [Act.put, List.setIfInBounds_toArray, List.set_cons_zero, List.set_cons_succ]
  refine tk 6 (some 21) (v := ?_) ?_ ?_; rotate_left 1; (intro w hSw; (try dsimp only at hSw); go_simp <;> with_reducible rfl); try simp only [Act.put, List.setIfInBounds_toArray, List.set_cons_zero, List.set_cons_succ]
  refine tk 7 (some 22) (v := ?_) ?_ ?_; rotate_left 1; (intro w hSw; (try dsimp only at hSw); go_simp <;> with_reducible rfl); try simp only [Act.put, List.setIfInBounds_toArray, List.set_cons_zero, List.set_cons_succ]
  refine wpAnyH_ready (rs := [8]) (by kernel_rfl) (by simp) ?_
  refine AllReadyH.cons (o := ⟨some 23, _, _, _, _, _⟩) rfl (fun K hK => ?_) ?_
  ·
   clear hHeld
   go_simp
   go_at_call 106
   refine (Hmo.out _ (by repeat (first | exact Later.rfl | refine Later.drew ?_))).mono ?_
   rintro e wq ⟨rfl, hwx⟩
   have hwq : Later W wq := Later.trans (by repeat (first | exact Later.rfl | refine Later.drew ?_)) hwx
   try go_wp2_with fail
   refine hK.out _ _ (by refine HS.out _ ?_; repeat (first | exact Later.rfl | exact hwq | refine Later.drew ?_)) (fun hHeld => ?_)
   clear hK K
   try simp only [Act.put, List.setIfInBounds_toArray, List.set_cons_zero, List.set_cons_succ]
   refine tk 9 (some 14) (v := ?_) ?_ ?_; rotate_left 1; (intro w hSw; (try dsimp only at hSw); go_simp <;> with_reducible rfl); try simp only [Act.put, List.setIfInBounds_toArray, List.set_cons_zero, List.set_cons_succ]
   refine tk 10 (some 24) (v := ?_) ?_ ?_; rotate_left 1; (intro w hSw; (try dsimp only at hSw); go_simp <;> with_reducible rfl); try simp only [Act.put, List.setIfInBounds_toArray, List.set_cons_zero, List.set_cons_succ]
   refine tk 11 (some 25) (v := ?_) ?_ ?_; rotate_left 1; (intro w hSw; (try dsimp only at hSw); go_simp <;> with_reducible rfl); try simp only [Act.put, List.setIfInBounds_toArray, List.set_cons_zero, List.set_cons_succ]
   refine tk 12 (some 3) (v := ?_) ?_ ?_; rotate_left 1; (intro w hSw; (try dsimp only at hSw); go_simp <;> with_reducible rfl); try simp only [Act.put, List.setIfInBounds_toArray, List.set_cons_zero, List.set_cons_succ]
   refine tk 13 (some 4) (v := ?_) ?_ ?_; rotate_left 1; (intro w hSw; (try dsimp only at hSw); go_simp <;> with_reducible rfl); try simp only [Act.put, List.setIfInBounds_toArray, List.set_cons_zero, List.set_cons_succ]
   refine wpAnyH_done (by kernel_rfl) ?_ _
   have Hwq := hide hwq
   have hbq := HBd.out.later hwq
   obtain ⟨r0, r1, r2, r3, r4, r5, r6, r7, r8, r9, r10, r11, r12⟩ := hbq.rules
   obtain ⟨t0, t1, t2, t3⟩ := hbq.rest
   clear hwq hwx HS Hmo hHeld r0 r1 r2 r3 r4 r5 r6 r7 r8 r9 r10 r11 hbq t1 t2 t3
   by_cases qe : endsN s.r s.p = 0
   ·
    have e1 : (endsN s.r s.p == 0) = true := by rw [qe]; rfl
    by_cases ql : s.r.plies ≤ s.ply
    ·
     have e2 : decide (s.ply ≥ s.r.plies) = true := by simpa using ql
     have ho : outP s = 3 := by unfold outP; rw [if_neg (by omega), if_pos ⟨qe, ql⟩]
     have Ho2 := hide ho
     clear ho
     go_upto_region 4 with (fail)
     go_quiet (fail)
     go_wp2_with fail
     go_ret
     exact ⟨by rw [show o = _ from Ho.out.symm.trans Ho2.out]; rfl, by first | exact Hwq.out | exact Hwq.out.drew | exact Hwq.out.drewN _⟩
    ·
     have e2 : decide (s.ply ≥ s.r.plies) = false := by simpa using ql
     have ho : outP s = 0 := by unfold outP; rw [if_neg (by omega), if_neg (fun h => by have := h.2; omega)]; exact qe
     have Ho2 := hide ho
     clear ho
     go_upto_region 4 with (fail)
     go_quiet (fail)
     go_wp2_with fail
     go_ret
     exact ⟨by rw [show o = _ from Ho.out.symm.trans Ho2.out]; rfl, by first | exact Hwq.out | exact Hwq.out.drew | exact Hwq.out.drewN _⟩
   ·
    have e1 : (endsN s.r s.p == 0) = false := by simpa using qe
    have ho : outP s = endsN s.r s.p := by unfold outP; rw [if_neg (by omega), if_neg (fun h => qe h.1)]
    have Ho2 := hide ho
    clear ho
    go_upto_region 4 with (fail)
    go_quiet (fail)
    go_wp2_with fail
    go_ret
    exact ⟨by rw [show o = _ from Ho.out.symm.trans Ho2.out]; rfl, by first | exact Hwq.out | exact Hwq.out.drew | exact Hwq.out.drewN _⟩
  exact AllReadyH.nil
theorem cell_setRowH {w : World} {zb : Nat} {b o : Nat} {v : Value} {vs : Array Value} (h : w.cell? ⟨b, o, none⟩ = some v) (hb : b ≠ zb) : (w.setRow zb vs).cell? ⟨b, o, none⟩ = some v := by
 have e2 := setRow_other w zb b vs hb
 simp only [World.cell?, e2] at h ⊢
 exact h
theorem setRow_blkH {w : World} {g : Nat} {t : TypeId} {old vs : Array Value} (h : Blk w g t old) : Blk (w.setRow g vs) g t vs := setRow_heap _ _ _ _ _ _ h
theorem later_setrow4 {W w : World} {g : Nat} {vs : Array Value} (h : Later W w) (hg : W.heap.size ≤ g) : Later W (w.setRow g vs) := Below.trans h ⟨rfl, rfl, rfl, by simp [World.setRow], fun k hk => setRow_other _ _ _ _ (by omega)⟩
set_option maxHeartbeats 8000000 in
set_option maxRecDepth 100000 in
theorem hreply_any (B h : Nat) (s : HoD) (A : Option Addr) (cp : Nat) (ad v : Value) (l : List UInt8) (W : World) (hb : HB W B h (hoC s A cp ad v) v l) (hok : HoOk s) (hP : PiecesAt W W.heap.size A s.r.pieces) (kind : Int) :
  Calls Tryz.prog 60 #[.pointer (some ⟨h, 0, none⟩), .int .i64 kind] W fun e w' => e = .returned (.agg #[.int .i64 kind, .int .i64 s.ply, .int .i64 (outP s), .string (bytes (textL s.p))]) ∧ Later W w' := by
 have HBd := hide hb
 have Hout := hide (fun w (hw : Later W w) => hout_any B h s A cp ad v l w (hb.later hw) hok ((hP.below hw).more hw.size))
 have HWr := hide (fun w => write_good s.p w hok.of.pos)
 obtain ⟨tx, htx⟩ : ∃ tx, bytes (textL s.p) = tx := ⟨_, rfl⟩
 rw [htx] at HWr ⊢
 have Hl0 := hide (show Later W (W.alloc (.cells #[.int .i64 0, .int .i64 0, .int .i64 0, .string ⟨#[]⟩] 59)) from Later.rfl.alloc _)
 have HZ0 := hide (Blk.new W 59 #[.int .i64 0, .int .i64 0, .int .i64 0, .string ⟨#[]⟩])
 clear hP hok hb htx
 go_enter Tryz.func60, Tryz.ntmps60
 go_upto_region 1 with (fail)
 obtain ⟨w0, hw0⟩ : ∃ w0, W.alloc (.cells #[.int .i64 0, .int .i64 0, .int .i64 0, .string ⟨#[]⟩] 59) = w0 := ⟨_, rfl⟩
 rw [hw0] at Hl0 HZ0 ⊢
 clear hw0
 obtain ⟨p0, p1, p2, p3, p4, p5⟩ := (HBd.out.later Hl0.out).pos
 go_upto_region 2 with (go_at_call 28; refine (HWr.out _).mono ?_; rintro e w2 ⟨rfl, hw2⟩)
 have Hl2 := hide (Hl0.out.trans hw2)
 have HZ2 := hide (show Blk w2 W.heap.size 59 #[.int .i64 0, .int .i64 0, .int .i64 0, .string ⟨#[]⟩] from Later.blk hw2 HZ0.out)
 have HS := hide (show ∀ w' : World, Later w2 w' → (w'.cell? ⟨h, 22, none⟩ = some (.int .i64 s.ply)) from fun w' hw => by
  obtain ⟨t0, -⟩ := (HBd.out.later (Hl2.out.trans hw)).rest
  exact t0)
 have Hne := hide (show h ≠ W.heap.size from by have := HBd.out.blk.lt; omega)
 clear hw2 HZ0 Hl0 p0 p1 p2 p3 p4 p5
 refine wp_region_held_drew (S := fun w' : World => (w'.cell? ⟨h, 22, none⟩ = some (.int .i64 s.ply))) (by kernel_rfl) (HS.out _ Later.rfl.drew) (fun hHeld => ?_)
 refine tk 0 (some 15) (v := ?_) ?_ ?_; rotate_left 1; (intro w hSw; (try dsimp only at hSw); go_simp <;> with_reducible rfl); try simp only [Act.put, List.setIfInBounds_toArray, List.set_cons_zero, List.set_cons_succ]
 refine tk 1 (some 16) (v := ?_) ?_ ?_; rotate_left 1; (intro w hSw; (try dsimp only at hSw); go_simp <;> with_reducible rfl); try simp only [Act.put, List.setIfInBounds_toArray, List.set_cons_zero, List.set_cons_succ]
 refine tk 2 (some 17) (v := ?_) ?_ ?_; rotate_left 1; (intro w hSw; (try dsimp only at hSw); go_simp <;> with_reducible rfl); try simp only [Act.put, List.setIfInBounds_toArray, List.set_cons_zero, List.set_cons_succ]
 refine tk 3 (some 18) (v := ?_) ?_ ?_; rotate_left 1; (intro w hSw; (try dsimp only at hSw); go_simp <;> with_reducible rfl); try simp only [Act.put, List.setIfInBounds_toArray, List.set_cons_zero, List.set_cons_succ]
 refine tk 4 (some 19) (v := ?_) ?_ ?_; rotate_left 1; (intro w hSw; (try dsimp only at hSw); go_simp <;> with_reducible rfl); try simp only [Act.put, List.setIfInBounds_toArray, List.set_cons_zero, List.set_cons_succ]
 refine tk 5 (some 20) (v := ?_) ?_ ?_; rotate_left 1; (intro w hSw; (try dsimp only at hSw); go_simp <;> with_reducible rfl); try simp only [Act.put, List.setIfInBounds_toArray, List.set_cons_zero, List.set_cons_succ]
 refine tk 7 (some 22) (v := ?_) ?_ ?_; rotate_left 1; (intro w hSw; (try dsimp only at hSw); go_simp <;> with_reducible rfl); try simp only [Act.put, List.setIfInBounds_toArray, List.set_cons_zero, List.set_cons_succ]
 refine wpAnyH_ready (rs := [6]) (by kernel_rfl) (by simp) ?_
 refine AllReadyH.cons (o := ⟨some 21, _, _, _, _, _⟩) rfl (fun K hK => ?_) ?_
 ·
  clear hHeld
  go_simp
  go_at_call 59
  refine (Hout.out _ (Hl2.out.trans (by repeat (first | exact Later.rfl | refine Later.drew ?_)))).mono ?_
  rintro e wq ⟨rfl, hwx⟩
  have hwq : Later w2 wq := Later.trans (by repeat (first | exact Later.rfl | refine Later.drew ?_)) hwx
  try go_wp2_with fail
  refine hK.out _ _ (by first | exact cell_setRowH (HS.out _ hwq) Hne.out | (refine HS.out _ ?_; repeat (first | exact Later.rfl | exact hwq | refine Later.drew ?_))) (fun hHeld => ?_)
  clear hK K
  try simp only [Act.put, List.setIfInBounds_toArray, List.set_cons_zero, List.set_cons_succ]
  refine tk 8 (some 23) (v := ?_) ?_ ?_; rotate_left 1; (intro w hSw; (try dsimp only at hSw); go_simp <;> with_reducible rfl); try simp only [Act.put, List.setIfInBounds_toArray, List.set_cons_zero, List.set_cons_succ]
  refine wpAnyH_ready (rs := [9]) (by kernel_rfl) (by simp) ?_
  refine AllReadyH.cons (o := ⟨none, _, _, _, _, _⟩) rfl (fun K hK => ?_) ?_
  ·
   clear hHeld
   rw [if_pos (by rfl)]
   refine wp_store_row 59 (.tmp 4) (.tmp 23) rfl W.heap.size #[.int .i64 kind, .int .i64 s.ply, .int .i64 (outP s), .string tx] rfl rfl 59 _ (by first | exact hwq.blk HZ2.out | exact HZ2.out) (by kernel_rfl) (by simp) (by simp [Value.oneCell']) ?_
   refine hK.out _ _ (by first | exact cell_setRowH (HS.out _ hwq) Hne.out | (refine HS.out _ ?_; repeat (first | exact Later.rfl | exact hwq | refine Later.drew ?_))) (fun hHeld => ?_)
   clear hK K
   try simp only [Act.put]
   refine wpAnyH_done (by kernel_rfl) ?_ _
   have HB4 := hide (setRow_blkH (vs := #[.int .i64 kind, .int .i64 s.ply, .int .i64 (outP s), .string tx]) (by first | exact hwq.blk HZ2.out | exact HZ2.out))
   have HL4 := hide (later_setrow4 (vs := #[.int .i64 kind, .int .i64 s.ply, .int .i64 (outP s), .string tx]) (g := W.heap.size) (W := W) (Hl2.out.trans hwq) (Nat.le_refl _))
   obtain ⟨y0, y1, y2, y3⟩ := (show _ ∧ _ ∧ _ ∧ _ from ⟨HB4.out.cellv (i := 0) rfl, HB4.out.cellv (i := 1) rfl, HB4.out.cellv (i := 2) rfl, HB4.out.cellv (i := 3) rfl⟩)
   go_wp2_with fail
   refine bodyPost_ret (v := .agg #[.int .i64 kind, .int .i64 s.ply, .int .i64 (outP s), .string tx]) (by simp [results, Tryz.results60, go_sem, y0, y1, y2, y3]) rfl ⟨rfl, HL4.out⟩
  exact AllReadyH.nil
 exact AllReadyH.nil
end Go.Proofs.YtcdfeaodfmfdnaaGreatDoor
