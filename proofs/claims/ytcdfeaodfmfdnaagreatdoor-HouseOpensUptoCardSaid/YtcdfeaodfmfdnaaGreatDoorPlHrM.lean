/- gameref.House: what its cells hold; Ended: walked. (*gameref.House).kind: walked, but where moves are looked for. -/
import Derived.Test.YtcdfeaodfmfdnaaGreatDoorPlTk
import Derived.Test.YtcdfeaodfmfdnaaGreatDoorPlHoOut
import Derived.Test.YtcdfeaodfmfdnaaGreatDoorPlMtText
import Derived.Test.YtcdfeaodfmfdnaaGreatDoorPlPcsMem
import Derived.BigRegion
import Derived.Test.YtcdfeaodfmfdnaaGreatDoorPlHoTake
namespace Go.Proofs.YtcdfeaodfmfdnaaGreatDoor
open Go.RowKit

/-- the cells of the document's house -/
def rhC (s : HoD) (A : Option Addr) (cp : Nat) : Array Value :=
 #[.int .i64 s.r.start.w, .int .i64 s.r.start.h, .string s.r.start.cells, .int .i64 s.r.start.turn, .string s.r.start.h0, .string s.r.start.h1, .slice A s.r.pieces.length cp, .bool s.r.drops, .int .u8 (s.r.lose : Int), .int .i64 s.r.line, .int .u8 (s.r.reach : Int), .bool s.r.stuck, .int .i64 s.r.plies, .int .i64 s.p.w, .int .i64 s.p.h, .string s.p.cells, .int .i64 s.p.turn, .string s.p.h0, .string s.p.h1, .int .i64 s.ply, .int .i64 s.l0, .int .i64 s.l1, .int .i64 s.now, .int .i64 s.flag, .string (bytes s.lines)]
theorem rh_rules {w : World} {h : Nat} {s : HoD} {A : Option Addr} {cp : Nat} (hb : Blk w h 57 (rhC s A cp)) : w.cell? ⟨h, 0, none⟩ = some (.int .i64 s.r.start.w) ∧ w.cell? ⟨h, 1, none⟩ = some (.int .i64 s.r.start.h) ∧ w.cell? ⟨h, 2, none⟩ = some (.string s.r.start.cells) ∧ w.cell? ⟨h, 3, none⟩ = some (.int .i64 s.r.start.turn) ∧ w.cell? ⟨h, 4, none⟩ = some (.string s.r.start.h0) ∧ w.cell? ⟨h, 5, none⟩ = some (.string s.r.start.h1) ∧ w.cell? ⟨h, 6, none⟩ = some (.slice A s.r.pieces.length cp) ∧ w.cell? ⟨h, 7, none⟩ = some (.bool s.r.drops) ∧ w.cell? ⟨h, 8, none⟩ = some (.int .u8 (s.r.lose : Int)) ∧ w.cell? ⟨h, 9, none⟩ = some (.int .i64 s.r.line) ∧ w.cell? ⟨h, 10, none⟩ = some (.int .u8 (s.r.reach : Int)) ∧ w.cell? ⟨h, 11, none⟩ = some (.bool s.r.stuck) ∧ w.cell? ⟨h, 12, none⟩ = some (.int .i64 s.r.plies) := ⟨hb.cellv rfl, hb.cellv rfl, hb.cellv rfl, hb.cellv rfl, hb.cellv rfl, hb.cellv rfl, hb.cellv rfl, hb.cellv rfl, hb.cellv rfl, hb.cellv rfl, hb.cellv rfl, hb.cellv rfl, hb.cellv rfl⟩
theorem rh_pos {w : World} {h : Nat} {s : HoD} {A : Option Addr} {cp : Nat} (hb : Blk w h 57 (rhC s A cp)) : w.cell? ⟨h, 13, none⟩ = some (.int .i64 s.p.w) ∧ w.cell? ⟨h, 14, none⟩ = some (.int .i64 s.p.h) ∧ w.cell? ⟨h, 15, none⟩ = some (.string s.p.cells) ∧ w.cell? ⟨h, 16, none⟩ = some (.int .i64 s.p.turn) ∧ w.cell? ⟨h, 17, none⟩ = some (.string s.p.h0) ∧ w.cell? ⟨h, 18, none⟩ = some (.string s.p.h1) := ⟨hb.cellv rfl, hb.cellv rfl, hb.cellv rfl, hb.cellv rfl, hb.cellv rfl, hb.cellv rfl⟩
theorem rh_rest {w : World} {h : Nat} {s : HoD} {A : Option Addr} {cp : Nat} (hb : Blk w h 57 (rhC s A cp)) : w.cell? ⟨h, 19, none⟩ = some (.int .i64 s.ply) ∧ w.cell? ⟨h, 20, none⟩ = some (.int .i64 s.l0) ∧ w.cell? ⟨h, 21, none⟩ = some (.int .i64 s.l1) ∧ w.cell? ⟨h, 22, none⟩ = some (.int .i64 s.now) ∧ w.cell? ⟨h, 23, none⟩ = some (.int .i64 s.flag) ∧ w.cell? ⟨h, 24, none⟩ = some (.string (bytes s.lines)) := ⟨hb.cellv rfl, hb.cellv rfl, hb.cellv rfl, hb.cellv rfl, hb.cellv rfl, hb.cellv rfl⟩
set_option maxHeartbeats 8000000 in
set_option maxRecDepth 100000 in
theorem rended_any (h : Nat) (s : HoD) (A : Option Addr) (cp : Nat) (W : World) (hb : Blk W h 57 (rhC s A cp)) (hok : HoOk s) (hP : PiecesAt W W.heap.size A s.r.pieces) :
  Calls Tryz.prog 64 #[.pointer (some ⟨h, 0, none⟩)] W fun e w' => e = .returned (.int .i64 (outP s)) ∧ Later W w' := by
 have HBd := hide hb
 have Hok := hide hok
 have Hen := hide (fun w (hw : Later W w) => ends_any s.r A cp s.p w (hok.of.pre ((hP.below hw).more hw.size)))
 clear hP hok hb
 go_enter Tryz.func64, Tryz.ntmps64
 go_upto_region 1 with (fail)
 have HS := hide (show ∀ w' : World, Later W w' → (w'.cell? ⟨h, 0, none⟩ = some (.int .i64 s.r.start.w) ∧ w'.cell? ⟨h, 1, none⟩ = some (.int .i64 s.r.start.h) ∧ w'.cell? ⟨h, 2, none⟩ = some (.string s.r.start.cells) ∧ w'.cell? ⟨h, 3, none⟩ = some (.int .i64 s.r.start.turn) ∧ w'.cell? ⟨h, 4, none⟩ = some (.string s.r.start.h0) ∧ w'.cell? ⟨h, 5, none⟩ = some (.string s.r.start.h1) ∧ w'.cell? ⟨h, 6, none⟩ = some (.slice A s.r.pieces.length cp) ∧ w'.cell? ⟨h, 7, none⟩ = some (.bool s.r.drops) ∧ w'.cell? ⟨h, 8, none⟩ = some (.int .u8 (s.r.lose : Int)) ∧ w'.cell? ⟨h, 9, none⟩ = some (.int .i64 s.r.line) ∧ w'.cell? ⟨h, 10, none⟩ = some (.int .u8 (s.r.reach : Int)) ∧ w'.cell? ⟨h, 11, none⟩ = some (.bool s.r.stuck) ∧ w'.cell? ⟨h, 12, none⟩ = some (.int .i64 s.r.plies) ∧ w'.cell? ⟨h, 13, none⟩ = some (.int .i64 s.p.w) ∧ w'.cell? ⟨h, 14, none⟩ = some (.int .i64 s.p.h) ∧ w'.cell? ⟨h, 15, none⟩ = some (.string s.p.cells) ∧ w'.cell? ⟨h, 16, none⟩ = some (.int .i64 s.p.turn) ∧ w'.cell? ⟨h, 17, none⟩ = some (.string s.p.h0) ∧ w'.cell? ⟨h, 18, none⟩ = some (.string s.p.h1)) from fun w' hw => by
  obtain ⟨r0, r1, r2, r3, r4, r5, r6, r7, r8, r9, r10, r11, r12⟩ := rh_rules (Later.blk hw HBd.out)
  obtain ⟨p0, p1, p2, p3, p4, p5⟩ := rh_pos (Later.blk hw HBd.out)
  exact ⟨r0, r1, r2, r3, r4, r5, r6, r7, r8, r9, r10, r11, r12, p0, p1, p2, p3, p4, p5⟩)
 refine wp_region_held_drew (S := fun w' : World => (w'.cell? ⟨h, 0, none⟩ = some (.int .i64 s.r.start.w) ∧ w'.cell? ⟨h, 1, none⟩ = some (.int .i64 s.r.start.h) ∧ w'.cell? ⟨h, 2, none⟩ = some (.string s.r.start.cells) ∧ w'.cell? ⟨h, 3, none⟩ = some (.int .i64 s.r.start.turn) ∧ w'.cell? ⟨h, 4, none⟩ = some (.string s.r.start.h0) ∧ w'.cell? ⟨h, 5, none⟩ = some (.string s.r.start.h1) ∧ w'.cell? ⟨h, 6, none⟩ = some (.slice A s.r.pieces.length cp) ∧ w'.cell? ⟨h, 7, none⟩ = some (.bool s.r.drops) ∧ w'.cell? ⟨h, 8, none⟩ = some (.int .u8 (s.r.lose : Int)) ∧ w'.cell? ⟨h, 9, none⟩ = some (.int .i64 s.r.line) ∧ w'.cell? ⟨h, 10, none⟩ = some (.int .u8 (s.r.reach : Int)) ∧ w'.cell? ⟨h, 11, none⟩ = some (.bool s.r.stuck) ∧ w'.cell? ⟨h, 12, none⟩ = some (.int .i64 s.r.plies) ∧ w'.cell? ⟨h, 13, none⟩ = some (.int .i64 s.p.w) ∧ w'.cell? ⟨h, 14, none⟩ = some (.int .i64 s.p.h) ∧ w'.cell? ⟨h, 15, none⟩ = some (.string s.p.cells) ∧ w'.cell? ⟨h, 16, none⟩ = some (.int .i64 s.p.turn) ∧ w'.cell? ⟨h, 17, none⟩ = some (.string s.p.h0) ∧ w'.cell? ⟨h, 18, none⟩ = some (.string s.p.h1))) (by kernel_rfl) (HS.out _ Later.rfl.drew) (fun hHeld => ?_)
 refine tk 0 (some 4) (v := ?_) ?_ ?_; rotate_left 1; (intro w hSw; (try dsimp only at hSw); go_simp <;> with_reducible rfl); try simp only [Act.put, List.setIfInBounds_toArray, List.set_cons_zero, List.set_cons_succ]
 refine tk 1 (some 5) (v := ?_) ?_ ?_; rotate_left 1; (intro w hSw; (try dsimp only at hSw); go_simp <;> with_reducible rfl); try simp only [Act.put, List.setIfInBounds_toArray, List.set_cons_zero, List.set_cons_succ]
 refine tk 2 (some 6) (v := ?_) ?_ ?_; rotate_left 1; (intro w hSw; (try dsimp only at hSw); go_simp <;> with_reducible rfl); try simp only [Act.put, List.setIfInBounds_toArray, List.set_cons_zero, List.set_cons_succ]
 refine tk 3 (some 7) (v := ?_) ?_ ?_; rotate_left 1; (intro w hSw; (try dsimp only at hSw); go_simp <;> with_reducible rfl); try simp only [Act.put, List.setIfInBounds_toArray, List.set_cons_zero, List.set_cons_succ]
 refine tk 4 (some 8) (v := ?_) ?_ ?_; rotate_left 1; (intro w hSw; (try dsimp only at hSw); go_simp <;> with_reducible rfl); try simp only [Act.put, List.setIfInBounds_toArray, List.set_cons_zero, List.set_cons_succ]
 refine tk 5 (some 9) (v := ?_) ?_ ?_; rotate_left 1; (intro w hSw; (try dsimp only at hSw); go_simp <;> with_reducible rfl); try simp only [Act.put, List.setIfInBounds_toArray, List.set_cons_zero, List.set_cons_succ]
 refine tk 6 (some 10) (v := ?_) ?_ ?_; rotate_left 1; (intro w hSw; (try dsimp only at hSw); go_simp <;> with_reducible rfl); try simp only [Act.put, List.setIfInBounds_toArray, List.set_cons_zero, List.set_cons_succ]
 refine tk 7 (some 11) (v := ?_) ?_ ?_; rotate_left 1; (intro w hSw; (try dsimp only at hSw); go_simp <;> with_reducible rfl); try simp only [Act.put, List.setIfInBounds_toArray, List.set_cons_zero, List.set_cons_succ]
 refine wpAnyH_ready (rs := [8]) (by kernel_rfl) (by simp) ?_
 refine AllReadyH.cons (o := ⟨some 12, _, _, _, _, _⟩) rfl (fun K hK => ?_) ?_
 ·
  clear hHeld
  go_simp
  go_at_call 102
  refine (Hen.out _ (by repeat (first | exact Later.rfl | refine Later.drew ?_ | refine Later.alloc ?_ _))).mono ?_
  rintro e wq ⟨rfl, hwx⟩
  have hwq : Later W wq := Later.trans (by repeat (first | exact Later.rfl | refine Later.drew ?_ | refine Later.alloc ?_ _)) hwx
  try go_wp2_with fail
  refine hK.out _ _ (by refine HS.out _ ?_; repeat (first | exact Later.rfl | exact hwq | refine Later.drew ?_)) (fun hHeld => ?_)
  clear hK K
  try simp only [Act.put, List.setIfInBounds_toArray, List.set_cons_zero, List.set_cons_succ]
  refine tk 9 (some 3) (v := ?_) ?_ ?_; rotate_left 1; (intro w hSw; (try dsimp only at hSw); go_simp <;> with_reducible rfl); try simp only [Act.put, List.setIfInBounds_toArray, List.set_cons_zero, List.set_cons_succ]
  refine wpAnyH_done (by kernel_rfl) ?_ _
  have Hwq := hide hwq
  have hbq := Later.blk hwq HBd.out
  obtain ⟨t0, -, -, -, t4, -⟩ := rh_rest hbq
  obtain ⟨-, -, -, -, -, -, -, -, -, -, -, -, r12⟩ := rh_rules hbq
  clear hwq hwx HS Hen hHeld hbq
  by_cases q : 0 < s.flag
  ·
   have d : decide (s.flag > 0) = true := by simpa using q
   have ho : outP s = s.flag := by unfold outP; rw [if_pos q]
   have Ho2 := hide ho
   clear ho
   go_wp2_with fail
   go_ret
   exact ⟨by rw [Ho2.out]; rfl, Hwq.out⟩
  ·
   have d : decide (s.flag > 0) = false := by simpa using q
   by_cases qe : endsN s.r s.p = 0
   ·
    have e1 : (endsN s.r s.p == 0) = true := by rw [qe]; rfl
    by_cases ql : s.ply = s.r.plies
    ·
     have e2 : (s.ply == s.r.plies) = true := by rw [ql]; simp
     have ho : outP s = 3 := by unfold outP; rw [if_neg (by omega), if_pos ⟨qe, by omega⟩]
     have Ho2 := hide ho
     clear ho ql
     go_upto_region 5 with (fail)
     go_quiet (fail)
     go_wp2_with fail
     go_ret
     exact ⟨by rw [Ho2.out]; rfl, by first | exact Hwq.out | exact Hwq.out.drew | exact Hwq.out.drewN _⟩
    ·
     have e2 : (s.ply == s.r.plies) = false := by simpa using ql
     have ho : outP s = endsN s.r s.p := by unfold outP; rw [if_neg (by omega), if_neg (fun h => by have := h.2; have := Hok.out.plies; omega)]
     have Ho2 := hide ho
     clear ho
     go_upto_region 5 with (fail)
     go_quiet (fail)
     go_wp2_with fail
     go_ret
     exact ⟨by rw [Ho2.out, qe]; rfl, by first | exact Hwq.out | exact Hwq.out.drew | exact Hwq.out.drewN _⟩
   ·
    have e1 : (endsN s.r s.p == 0) = false := by simpa using qe
    have ho : outP s = endsN s.r s.p := by unfold outP; rw [if_neg (by omega), if_neg (fun h => qe h.1)]
    have Ho2 := hide ho
    clear ho
    go_upto_region 5 with (fail)
    go_quiet (fail)
    go_wp2_with fail
    go_ret
    exact ⟨by rw [Ho2.out]; rfl, by first | exact Hwq.out | exact Hwq.out.drew | exact Hwq.out.drewN _⟩
 exact AllReadyH.nil
end Go.Proofs.YtcdfeaodfmfdnaaGreatDoor
namespace Go.Proofs.YtcdfeaodfmfdnaaGreatDoor
open Go.RowKit

/-- what kind answers and does -/
def KindOut (h : Nat) (s : HoD) (A : Option Addr) (cp : Nat) (m : MsgD) (W : World) (e : Ending) (w' : World) : Prop :=
 e = .returned (.int .i64 (takeP s m).2) ∧ Blk w' h 57 (rhC (takeP s m).1 A cp) ∧ Only (fun x => x = h) W w'
set_option maxHeartbeats 8000000 in
set_option maxRecDepth 100000 in
theorem rkind_over (h : Nat) (s : HoD) (A : Option Addr) (cp : Nat) (Q : Nat → Prop) (m : MsgD) (W : World) (hb : Blk W h 57 (rhC s A cp)) (hok : HoOk s) (hP : PAt W Q A s.r.pieces) (hQ : ¬ Q h) (q : outP s ≠ 0) :
  Calls Tryz.prog 63 #[.pointer (some ⟨h, 0, none⟩), .agg #[.int .i64 m.seat, .int .i64 m.ply, .string m.mv, .int .i64 m.at_]] W (KindOut h s A cp m W) := by
 have Htk := hide (show takeP s m = (s, 5) from by unfold takeP; rw [if_pos q])
 have d : (outP s != 0) = true := by simpa using q
 clear q
 have HBd := hide hb
 have HPa := hide hP
 have Hok := hide hok
 have HQ := hide hQ
 have Hend := hide (fun w (hw : Later W w) => rended_any h s A cp w (Later.blk hw hb) hok (hP.only (later_only hw) (fun _ h => h.elim)).at_)
 have Hl0 := hide (show Later W (W.alloc (.cells #[.int .i64 m.seat, .int .i64 m.ply, .string m.mv, .int .i64 m.at_] 62)) from Later.rfl.alloc _)
 have Hm0 := hide (show Blk (W.alloc (.cells #[.int .i64 m.seat, .int .i64 m.ply, .string m.mv, .int .i64 m.at_] 62)) W.heap.size 62 #[.int .i64 m.seat, .int .i64 m.ply, .string m.mv, .int .i64 m.at_] from Blk.new W _ _)
 have hhW : h < W.heap.size := hb.lt
 clear hb hok hP hQ
 go_enter Tryz.func63, Tryz.ntmps63
 go_upto_region 1 with (fail)
 obtain ⟨w0, hw0⟩ : ∃ w0, (W.alloc (.cells #[.int .i64 m.seat, .int .i64 m.ply, .string m.mv, .int .i64 m.at_] 62)) = w0 := ⟨_, rfl⟩
 rw [hw0] at Hl0 Hm0 ⊢
 clear hw0
 go_upto_region 2 with (go_at_call 64; refine (Hend.out _ Hl0.out).mono ?_; rintro e w1 ⟨rfl, hw1⟩)
 have Hl1 := hide (Hl0.out.trans hw1)
 have Hm1 := hide (Later.blk hw1 Hm0.out)
 have HB1 := hide (Later.blk Hl1.out HBd.out)
 have HP1 := hide (HPa.out.only (later_only Hl1.out) (fun _ h => h.elim))
 have hs1 : W.heap.size < w1.heap.size := Hm1.out.lt
 clear hw1 Hm0 Hl0 Hend HPa HBd
 go_wp2_with fail
 go_ret
 exact ⟨by rw [Htk.out] <;> rfl, by rw [Htk.out]; exact HB1.out, (later_only Hl1.out).mono (fun _ _ h => h.elim)⟩
set_option maxHeartbeats 8000000 in
set_option maxRecDepth 100000 in
theorem rkind_flag (h : Nat) (s : HoD) (A : Option Addr) (cp : Nat) (Q : Nat → Prop) (m : MsgD) (W : World) (hb : Blk W h 57 (rhC s A cp)) (hok : HoOk s) (hP : PAt W Q A s.r.pieces) (hQ : ¬ Q h)  (hm0 : -9223372036854775808 ≤ m.at_) (hm1 : m.at_ ≤ 9223372036854775807) (q : outP s = 0) (ql : leftP (passP s m.at_) < 0) :
  Calls Tryz.prog 63 #[.pointer (some ⟨h, 0, none⟩), .agg #[.int .i64 m.seat, .int .i64 m.ply, .string m.mv, .int .i64 m.at_]] W (KindOut h s A cp m W) := by
 obtain ⟨hfl, hen, hpl⟩ := out_open q hok
 have d : (outP s != 0) = false := by rw [q]; rfl
 have Hq0 := hide (And.intro q hfl)
 clear q hfl hen
 have HBd := hide hb
 have HPa := hide hP
 have Hok := hide hok
 have HQ := hide hQ
 have Hend := hide (fun w (hw : Later W w) => rended_any h s A cp w (Later.blk hw hb) hok (hP.only (later_only hw) (fun _ h => h.elim)).at_)
 have Hl0 := hide (show Later W (W.alloc (.cells #[.int .i64 m.seat, .int .i64 m.ply, .string m.mv, .int .i64 m.at_] 62)) from Later.rfl.alloc _)
 have Hm0 := hide (show Blk (W.alloc (.cells #[.int .i64 m.seat, .int .i64 m.ply, .string m.mv, .int .i64 m.at_] 62)) W.heap.size 62 #[.int .i64 m.seat, .int .i64 m.ply, .string m.mv, .int .i64 m.at_] from Blk.new W _ _)
 have hhW : h < W.heap.size := hb.lt
 clear hb hok hP hQ
 go_enter Tryz.func63, Tryz.ntmps63
 go_upto_region 1 with (fail)
 obtain ⟨w0, hw0⟩ : ∃ w0, (W.alloc (.cells #[.int .i64 m.seat, .int .i64 m.ply, .string m.mv, .int .i64 m.at_] 62)) = w0 := ⟨_, rfl⟩
 rw [hw0] at Hl0 Hm0 ⊢
 clear hw0
 go_upto_region 3 with (go_at_call 64; refine (Hend.out _ Hl0.out).mono ?_; rintro e w1 ⟨rfl, hw1⟩)
 have Hl1 := hide (Hl0.out.trans hw1)
 have Hm1 := hide (Later.blk hw1 Hm0.out)
 have HB1 := hide (Later.blk Hl1.out HBd.out)
 have HP1 := hide (HPa.out.only (later_only Hl1.out) (fun _ h => h.elim))
 have hs1 : W.heap.size < w1.heap.size := Hm1.out.lt
 clear hw1 Hm0 Hl0 Hend HPa HBd
 have h01 : s.p.turn = 0 ∨ s.p.turn = 1 := by have := Hok.out.of.pos.t0; have := Hok.out.of.pos.t1; omega
 obtain ⟨tn, htn⟩ : ∃ tn, s.p.turn = tn := ⟨_, rfl⟩
 rw [htn] at h01
 have Htn := hide htn
 have hnow := Hok.out.now
 have hb0 := Hok.out.open_ Hq0.out.2
 have hb1 := Hok.out.b0.2
 have hb2 := Hok.out.b1.2
 obtain ⟨e_r, e_p, e_ply, e_fl, e_li, -, -⟩ := pass_same s m.at_
 have Hpp := hide (show passP s m.at_ = if s.now < m.at_ then (if tn = 0 then { s with l0 := s.l0 - (m.at_ - s.now), now := m.at_ } else { s with l1 := s.l1 - (m.at_ - s.now), now := m.at_ }) else s from by unfold passP; rw [htn])
 obtain ⟨s2, hs2⟩ : ∃ s2, passP s m.at_ = s2 := ⟨_, rfl⟩
 rw [hs2] at Hpp e_r e_p e_ply e_fl e_li ql
 have Hs2 := hide hs2
 have He := hide (And.intro e_r (And.intro e_p (And.intro e_ply (And.intro e_fl e_li))))
 have Hle := hide (show leftP s2 = if tn = 0 then s2.l0 else s2.l1 from by unfold leftP; rw [e_p, htn])
 have Hql := hide ql
 clear hs2 ql e_r e_p e_ply e_fl e_li d
 obtain ⟨p0, p1, p2, p3, p4, p5⟩ := rh_pos HB1.out
 obtain ⟨t0, t1, t2, t3, t4, t5⟩ := rh_rest HB1.out
 obtain ⟨m0, m1, m2, m3⟩ := (show _ ∧ _ ∧ _ ∧ _ from ⟨Hm1.out.cellv (i := 0) rfl, Hm1.out.cellv (i := 1) rfl, Hm1.out.cellv (i := 2) rfl, Hm1.out.cellv (i := 3) rfl⟩)
 rw [htn] at p3
 clear htn
 go_upto_region 4 with (fail)
 go_quiet (fail)
 clear p0 p1 p2 p3 p4 p5 t0 t1 t2 t3 t4 t5 m0 m1 m2 m3
 have hl2 : Later w1 (w1.drewN nq) := Later.rfl.drewN _
 have Hl2 := hide (Hl1.out.trans hl2)
 have HB2 := hide (Later.blk hl2 HB1.out)
 have Hm2 := hide (Later.blk hl2 Hm1.out)
 have HP2 := hide (HP1.out.only (later_only hl2) (fun _ h => h.elim))
 have hs2z : W.heap.size < (w1.drewN nq).heap.size := hs1
 obtain ⟨w2, hw2⟩ : ∃ w2, w1.drewN nq = w2 := ⟨_, rfl⟩
 rw [hw2] at Hl2 HB2 Hm2 HP2 hs2z ⊢
 clear hw2 hl2 HB1 Hm1 HP1 Hl1 hs1
 go_upto_if 22 with (fail)
 go_cut [] (fun w' => Blk w' h 57 (rhC s2 A cp) ∧ Only (fun x => x = h) w2 w')
 case first =>
  obtain ⟨p0, p1, p2, p3, p4, p5⟩ := rh_pos HB2.out
  obtain ⟨t0, t1, t2, t3, t4, t5⟩ := rh_rest HB2.out
  obtain ⟨m0, m1, m2, m3⟩ := (show _ ∧ _ ∧ _ ∧ _ from ⟨Hm2.out.cellv (i := 0) rfl, Hm2.out.cellv (i := 1) rfl, Hm2.out.cellv (i := 2) rfl, Hm2.out.cellv (i := 3) rfl⟩)
  rw [Htn.out] at p3
  have f0 := HB2.out.free 20
  have f1 := HB2.out.free 21
  have f2 := HB2.out.free 22
  by_cases q : s.now < m.at_
  ·
   have d4 : decide (m.at_ > s.now) = true := by simpa using q
   rcases h01 with rfl | rfl
   ·
    have h2 : s2 = { s with l0 := s.l0 + (s.now - m.at_), now := m.at_ } := by rw [Hpp.out, if_pos q, if_pos rfl, show s.l0 - (m.at_ - s.now) = s.l0 + (s.now - m.at_) from by omega]
    have H2 := hide h2
    have tw1 : IntKind.i64.wrap (s.now - m.at_) = s.now - m.at_ := IntWalk.i64_in _ (by omega)
    have tw2 : IntKind.i64.wrap (s.l0 + (s.now - m.at_)) = s.l0 + (s.now - m.at_) := IntWalk.i64_in _ (by omega)
    clear h2 Hpp Hle
    go_wp2_with fail
    go_big_region
    go_wp2_with fail
    go_meet
    case rel =>
     rw [H2.out]
     exact ⟨by first | exact (HB2.out.drew.set_ 20 _).set_ 22 _ | exact (HB2.out.set_ 20 _).drew.set_ 22 _, by first | exact ((Only.refl (fun x => x = h) w2).drew.setCell (p := ⟨h, 20, none⟩) (.inl rfl) _).setCell (p := ⟨h, 22, none⟩) (.inl rfl) _ | exact ((Only.refl (fun x => x = h) w2).setCell (p := ⟨h, 20, none⟩) (.inl rfl) _).drew.setCell (p := ⟨h, 22, none⟩) (.inl rfl) _⟩
   ·
    have h2 : s2 = { s with l1 := s.l1 + (s.now - m.at_), now := m.at_ } := by rw [Hpp.out, if_pos q, if_neg (by omega), show s.l1 - (m.at_ - s.now) = s.l1 + (s.now - m.at_) from by omega]
    have H2 := hide h2
    have tw1 : IntKind.i64.wrap (s.now - m.at_) = s.now - m.at_ := IntWalk.i64_in _ (by omega)
    have tw2 : IntKind.i64.wrap (s.l1 + (s.now - m.at_)) = s.l1 + (s.now - m.at_) := IntWalk.i64_in _ (by omega)
    clear h2 Hpp Hle
    go_wp2_with fail
    go_big_region
    go_wp2_with fail
    go_meet
    case rel =>
     rw [H2.out]
     exact ⟨by first | exact (HB2.out.drew.set_ 21 _).set_ 22 _ | exact (HB2.out.set_ 21 _).drew.set_ 22 _, by first | exact ((Only.refl (fun x => x = h) w2).drew.setCell (p := ⟨h, 21, none⟩) (.inl rfl) _).setCell (p := ⟨h, 22, none⟩) (.inl rfl) _ | exact ((Only.refl (fun x => x = h) w2).setCell (p := ⟨h, 21, none⟩) (.inl rfl) _).drew.setCell (p := ⟨h, 22, none⟩) (.inl rfl) _⟩
  ·
   have d4 : decide (m.at_ > s.now) = false := by simpa using q
   have h2 : s2 = s := by rw [Hpp.out, if_neg q]
   have H2 := hide h2
   clear h2 Hpp Hle
   go_wp2_with fail
   go_meet
   case rel =>
    rw [H2.out]
    exact ⟨HB2.out, Only.refl _ _⟩
 case rest =>
  obtain ⟨hb3, ho3⟩ := hcut
  rename World => w3
  have HB3 := hide hb3
  have Hm3 := hide (Hm2.out.only ho3 (by omega))
  have HP3 := hide (show PAt w3 Q A s2.r.pieces from by rw [He.out.1]; exact HP2.out.only ho3 (fun k hk hq => HQ.out (hk ▸ hq)))
  have HO3 := hide (((later_only Hl2.out).mono (fun _ _ h => h.elim)).trans' ho3 (fun _ _ h => h) : Only (fun x => x = h) W w3)
  have hs3 : W.heap.size < w3.heap.size := Hm3.out.lt
  clear hb3 ho3 HB2 Hm2 HP2 Hl2 hs2z Hpp
  go_upto_region 7 with (fail)
  go_cut [51] from 45 to 51 (fun bv w' => bv = .bool true ∧ w' = w3)
  case first =>
   obtain ⟨t0, t1, t2, t3, t4, t5⟩ := rh_rest HB3.out
   rcases h01 with rfl | rfl
   ·
    have hq := Hql.out
    rw [Hle.out, if_pos rfl] at hq
    have d7 : decide (s2.l0 < 0) = true := by simpa using hq
    go_wp2_with fail
    go_meet
    case rel => exact ⟨rfl, rfl⟩
   ·
    have hq := Hql.out
    rw [Hle.out, if_neg (by omega)] at hq
    have d7 : decide (s2.l1 < 0) = true := by simpa using hq
    go_wp2_with fail
    go_meet
    case rel => exact ⟨rfl, rfl⟩
  case rest =>
   obtain ⟨rfl, rfl⟩ := hcut
   rename World => w3
   clear Hle
   have htn2 : s2.p.turn = tn := by rw [He.out.2.1]; exact Htn.out
   have Htk := hide (show takeP s m = ({ s2 with flag := 2 - s2.p.turn }, 5) from by unfold takeP; rw [if_neg (by rw [Hq0.out.1]; exact fun h => h rfl), Hs2.out, if_pos Hql.out, show s.p.turn = s2.p.turn from by rw [He.out.2.1]])
   obtain ⟨t0, t1, t2, t3, t4, t5⟩ := rh_rest HB3.out
   have xf := HB3.out.free 23
   have tw : IntKind.i64.wrap (2 - tn) = 2 - tn := IntWalk.i64_in _ (by omega)
   have Htn2 := hide htn2
   clear htn2
   go_wp2_with fail
   go_ret
   have hb4 : Blk (w3.setCell ⟨h, 23, none⟩ (.int .i64 (2 - tn))) h 57 (rhC { s2 with flag := 2 - s2.p.turn } A cp) := by rw [Htn2.out]; exact HB3.out.set_ 23 _
   exact ⟨by rw [Htk.out] <;> rfl, by rw [Htk.out]; exact hb4, HO3.out.setCell (p := ⟨h, 23, none⟩) (.inl rfl) _⟩
set_option maxHeartbeats 8000000 in
set_option maxRecDepth 100000 in
theorem rkind_stale (h : Nat) (s : HoD) (A : Option Addr) (cp : Nat) (Q : Nat → Prop) (m : MsgD) (W : World) (hb : Blk W h 57 (rhC s A cp)) (hok : HoOk s) (hP : PAt W Q A s.r.pieces) (hQ : ¬ Q h)  (hm0 : -9223372036854775808 ≤ m.at_) (hm1 : m.at_ ≤ 9223372036854775807) (q : outP s = 0) (ql : 0 ≤ leftP (passP s m.at_)) (qp : m.ply ≠ s.ply) :
  Calls Tryz.prog 63 #[.pointer (some ⟨h, 0, none⟩), .agg #[.int .i64 m.seat, .int .i64 m.ply, .string m.mv, .int .i64 m.at_]] W (KindOut h s A cp m W) := by
 have Hqp := hide qp
 clear qp
 obtain ⟨hfl, hen, hpl⟩ := out_open q hok
 have d : (outP s != 0) = false := by rw [q]; rfl
 have Hq0 := hide (And.intro q hfl)
 clear q hfl hen
 have HBd := hide hb
 have HPa := hide hP
 have Hok := hide hok
 have HQ := hide hQ
 have Hend := hide (fun w (hw : Later W w) => rended_any h s A cp w (Later.blk hw hb) hok (hP.only (later_only hw) (fun _ h => h.elim)).at_)
 have Hl0 := hide (show Later W (W.alloc (.cells #[.int .i64 m.seat, .int .i64 m.ply, .string m.mv, .int .i64 m.at_] 62)) from Later.rfl.alloc _)
 have Hm0 := hide (show Blk (W.alloc (.cells #[.int .i64 m.seat, .int .i64 m.ply, .string m.mv, .int .i64 m.at_] 62)) W.heap.size 62 #[.int .i64 m.seat, .int .i64 m.ply, .string m.mv, .int .i64 m.at_] from Blk.new W _ _)
 have hhW : h < W.heap.size := hb.lt
 clear hb hok hP hQ
 go_enter Tryz.func63, Tryz.ntmps63
 go_upto_region 1 with (fail)
 obtain ⟨w0, hw0⟩ : ∃ w0, (W.alloc (.cells #[.int .i64 m.seat, .int .i64 m.ply, .string m.mv, .int .i64 m.at_] 62)) = w0 := ⟨_, rfl⟩
 rw [hw0] at Hl0 Hm0 ⊢
 clear hw0
 go_upto_region 3 with (go_at_call 64; refine (Hend.out _ Hl0.out).mono ?_; rintro e w1 ⟨rfl, hw1⟩)
 have Hl1 := hide (Hl0.out.trans hw1)
 have Hm1 := hide (Later.blk hw1 Hm0.out)
 have HB1 := hide (Later.blk Hl1.out HBd.out)
 have HP1 := hide (HPa.out.only (later_only Hl1.out) (fun _ h => h.elim))
 have hs1 : W.heap.size < w1.heap.size := Hm1.out.lt
 clear hw1 Hm0 Hl0 Hend HPa HBd
 have h01 : s.p.turn = 0 ∨ s.p.turn = 1 := by have := Hok.out.of.pos.t0; have := Hok.out.of.pos.t1; omega
 obtain ⟨tn, htn⟩ : ∃ tn, s.p.turn = tn := ⟨_, rfl⟩
 rw [htn] at h01
 have Htn := hide htn
 have hnow := Hok.out.now
 have hb0 := Hok.out.open_ Hq0.out.2
 have hb1 := Hok.out.b0.2
 have hb2 := Hok.out.b1.2
 obtain ⟨e_r, e_p, e_ply, e_fl, e_li, -, -⟩ := pass_same s m.at_
 have Hpp := hide (show passP s m.at_ = if s.now < m.at_ then (if tn = 0 then { s with l0 := s.l0 - (m.at_ - s.now), now := m.at_ } else { s with l1 := s.l1 - (m.at_ - s.now), now := m.at_ }) else s from by unfold passP; rw [htn])
 obtain ⟨s2, hs2⟩ : ∃ s2, passP s m.at_ = s2 := ⟨_, rfl⟩
 rw [hs2] at Hpp e_r e_p e_ply e_fl e_li ql
 have Hs2 := hide hs2
 have He := hide (And.intro e_r (And.intro e_p (And.intro e_ply (And.intro e_fl e_li))))
 have Hle := hide (show leftP s2 = if tn = 0 then s2.l0 else s2.l1 from by unfold leftP; rw [e_p, htn])
 have Hql := hide ql
 clear hs2 ql e_r e_p e_ply e_fl e_li d
 obtain ⟨p0, p1, p2, p3, p4, p5⟩ := rh_pos HB1.out
 obtain ⟨t0, t1, t2, t3, t4, t5⟩ := rh_rest HB1.out
 obtain ⟨m0, m1, m2, m3⟩ := (show _ ∧ _ ∧ _ ∧ _ from ⟨Hm1.out.cellv (i := 0) rfl, Hm1.out.cellv (i := 1) rfl, Hm1.out.cellv (i := 2) rfl, Hm1.out.cellv (i := 3) rfl⟩)
 rw [htn] at p3
 clear htn
 go_upto_region 4 with (fail)
 go_quiet (fail)
 clear p0 p1 p2 p3 p4 p5 t0 t1 t2 t3 t4 t5 m0 m1 m2 m3
 have hl2 : Later w1 (w1.drewN nq) := Later.rfl.drewN _
 have Hl2 := hide (Hl1.out.trans hl2)
 have HB2 := hide (Later.blk hl2 HB1.out)
 have Hm2 := hide (Later.blk hl2 Hm1.out)
 have HP2 := hide (HP1.out.only (later_only hl2) (fun _ h => h.elim))
 have hs2z : W.heap.size < (w1.drewN nq).heap.size := hs1
 obtain ⟨w2, hw2⟩ : ∃ w2, w1.drewN nq = w2 := ⟨_, rfl⟩
 rw [hw2] at Hl2 HB2 Hm2 HP2 hs2z ⊢
 clear hw2 hl2 HB1 Hm1 HP1 Hl1 hs1
 go_upto_if 22 with (fail)
 go_cut [] (fun w' => Blk w' h 57 (rhC s2 A cp) ∧ Only (fun x => x = h) w2 w')
 case first =>
  obtain ⟨p0, p1, p2, p3, p4, p5⟩ := rh_pos HB2.out
  obtain ⟨t0, t1, t2, t3, t4, t5⟩ := rh_rest HB2.out
  obtain ⟨m0, m1, m2, m3⟩ := (show _ ∧ _ ∧ _ ∧ _ from ⟨Hm2.out.cellv (i := 0) rfl, Hm2.out.cellv (i := 1) rfl, Hm2.out.cellv (i := 2) rfl, Hm2.out.cellv (i := 3) rfl⟩)
  rw [Htn.out] at p3
  have f0 := HB2.out.free 20
  have f1 := HB2.out.free 21
  have f2 := HB2.out.free 22
  by_cases q : s.now < m.at_
  ·
   have d4 : decide (m.at_ > s.now) = true := by simpa using q
   rcases h01 with rfl | rfl
   ·
    have h2 : s2 = { s with l0 := s.l0 + (s.now - m.at_), now := m.at_ } := by rw [Hpp.out, if_pos q, if_pos rfl, show s.l0 - (m.at_ - s.now) = s.l0 + (s.now - m.at_) from by omega]
    have H2 := hide h2
    have tw1 : IntKind.i64.wrap (s.now - m.at_) = s.now - m.at_ := IntWalk.i64_in _ (by omega)
    have tw2 : IntKind.i64.wrap (s.l0 + (s.now - m.at_)) = s.l0 + (s.now - m.at_) := IntWalk.i64_in _ (by omega)
    clear h2 Hpp Hle
    go_wp2_with fail
    go_big_region
    go_wp2_with fail
    go_meet
    case rel =>
     rw [H2.out]
     exact ⟨by first | exact (HB2.out.drew.set_ 20 _).set_ 22 _ | exact (HB2.out.set_ 20 _).drew.set_ 22 _, by first | exact ((Only.refl (fun x => x = h) w2).drew.setCell (p := ⟨h, 20, none⟩) (.inl rfl) _).setCell (p := ⟨h, 22, none⟩) (.inl rfl) _ | exact ((Only.refl (fun x => x = h) w2).setCell (p := ⟨h, 20, none⟩) (.inl rfl) _).drew.setCell (p := ⟨h, 22, none⟩) (.inl rfl) _⟩
   ·
    have h2 : s2 = { s with l1 := s.l1 + (s.now - m.at_), now := m.at_ } := by rw [Hpp.out, if_pos q, if_neg (by omega), show s.l1 - (m.at_ - s.now) = s.l1 + (s.now - m.at_) from by omega]
    have H2 := hide h2
    have tw1 : IntKind.i64.wrap (s.now - m.at_) = s.now - m.at_ := IntWalk.i64_in _ (by omega)
    have tw2 : IntKind.i64.wrap (s.l1 + (s.now - m.at_)) = s.l1 + (s.now - m.at_) := IntWalk.i64_in _ (by omega)
    clear h2 Hpp Hle
    go_wp2_with fail
    go_big_region
    go_wp2_with fail
    go_meet
    case rel =>
     rw [H2.out]
     exact ⟨by first | exact (HB2.out.drew.set_ 21 _).set_ 22 _ | exact (HB2.out.set_ 21 _).drew.set_ 22 _, by first | exact ((Only.refl (fun x => x = h) w2).drew.setCell (p := ⟨h, 21, none⟩) (.inl rfl) _).setCell (p := ⟨h, 22, none⟩) (.inl rfl) _ | exact ((Only.refl (fun x => x = h) w2).setCell (p := ⟨h, 21, none⟩) (.inl rfl) _).drew.setCell (p := ⟨h, 22, none⟩) (.inl rfl) _⟩
  ·
   have d4 : decide (m.at_ > s.now) = false := by simpa using q
   have h2 : s2 = s := by rw [Hpp.out, if_neg q]
   have H2 := hide h2
   clear h2 Hpp Hle
   go_wp2_with fail
   go_meet
   case rel =>
    rw [H2.out]
    exact ⟨HB2.out, Only.refl _ _⟩
 case rest =>
  obtain ⟨hb3, ho3⟩ := hcut
  rename World => w3
  have HB3 := hide hb3
  have Hm3 := hide (Hm2.out.only ho3 (by omega))
  have HP3 := hide (show PAt w3 Q A s2.r.pieces from by rw [He.out.1]; exact HP2.out.only ho3 (fun k hk hq => HQ.out (hk ▸ hq)))
  have HO3 := hide (((later_only Hl2.out).mono (fun _ _ h => h.elim)).trans' ho3 (fun _ _ h => h) : Only (fun x => x = h) W w3)
  have hs3 : W.heap.size < w3.heap.size := Hm3.out.lt
  clear hb3 ho3 HB2 Hm2 HP2 Hl2 hs2z Hpp
  go_upto_region 7 with (fail)
  go_cut [51] from 45 to 51 (fun bv w' => bv = .bool false ∧ w' = w3)
  case first =>
   obtain ⟨t0, t1, t2, t3, t4, t5⟩ := rh_rest HB3.out
   rcases h01 with rfl | rfl
   ·
    have hq := Hql.out
    rw [Hle.out, if_pos rfl] at hq
    have d7 : decide (s2.l0 < 0) = false := by simpa using hq
    go_wp2_with fail
    go_meet
    case rel => exact ⟨rfl, rfl⟩
   ·
    have hq := Hql.out
    rw [Hle.out, if_neg (by omega)] at hq
    have d7 : decide (s2.l1 < 0) = false := by simpa using hq
    go_wp2_with fail
    go_meet
    case rel => exact ⟨rfl, rfl⟩
  case rest =>
   obtain ⟨rfl, rfl⟩ := hcut
   rename World => w3
   clear Hle
   have Hok2 := hide (show HoOk s2 from by rw [← Hs2.out]; exact pass_ok Hok.out Hq0.out.2 hm1 (by rw [Hs2.out]; exact Hql.out))
   have Htk := hide (show takeP s m = (s2, 2) from by unfold takeP; rw [if_neg (by rw [Hq0.out.1]; exact fun h => h rfl), Hs2.out, if_neg (by have h := Hql.out; omega), if_pos Hqp.out])
   obtain ⟨t0, t1, t2, t3, t4, t5⟩ := rh_rest HB3.out
   obtain ⟨m0, m1, m2, m3⟩ := (show _ ∧ _ ∧ _ ∧ _ from ⟨Hm3.out.cellv (i := 0) rfl, Hm3.out.cellv (i := 1) rfl, Hm3.out.cellv (i := 2) rfl, Hm3.out.cellv (i := 3) rfl⟩)
   have d6 : (m.ply != s2.ply) = true := by rw [He.out.2.2.1]; simpa using Hqp.out
   go_upto_region 10 with (fail)
   go_quiet (fail)
   have hl4 : Later w3 (w3.drewN nq) := Later.rfl.drewN _
   have HB4 := hide (Later.blk hl4 HB3.out)
   have Hm4 := hide (Later.blk hl4 Hm3.out)
   have HP4 := hide (HP3.out.only (later_only hl4) (fun _ h => h.elim))
   have HO4 := hide (HO3.out.trans' (later_only hl4) (fun _ _ h => h.elim))
   have hs4 : W.heap.size < (w3.drewN nq).heap.size := hs3
   obtain ⟨w4, hw4⟩ : ∃ w4, w3.drewN nq = w4 := ⟨_, rfl⟩
   rw [hw4] at HB4 Hm4 HP4 HO4 hs4 ⊢
   clear hw4 hl4 HB3 Hm3 HP3 HO3 hs3
   clear t0 t1 t2 t3 t4 t5 m0 m1 m2 m3
   go_wp2_with fail
   go_ret
   exact ⟨by rw [Htk.out] <;> rfl, by rw [Htk.out]; exact HB4.out, HO4.out⟩
set_option maxHeartbeats 8000000 in
set_option maxRecDepth 100000 in
theorem rkind_wait (h : Nat) (s : HoD) (A : Option Addr) (cp : Nat) (Q : Nat → Prop) (m : MsgD) (W : World) (hb : Blk W h 57 (rhC s A cp)) (hok : HoOk s) (hP : PAt W Q A s.r.pieces) (hQ : ¬ Q h)  (hm0 : -9223372036854775808 ≤ m.at_) (hm1 : m.at_ ≤ 9223372036854775807) (q : outP s = 0) (ql : 0 ≤ leftP (passP s m.at_)) (qp : m.ply = s.ply) (qs : m.seat ≠ s.p.turn) :
  Calls Tryz.prog 63 #[.pointer (some ⟨h, 0, none⟩), .agg #[.int .i64 m.seat, .int .i64 m.ply, .string m.mv, .int .i64 m.at_]] W (KindOut h s A cp m W) := by
 have Hqp := hide qp
 have Hqs := hide qs
 clear qp qs
 obtain ⟨hfl, hen, hpl⟩ := out_open q hok
 have d : (outP s != 0) = false := by rw [q]; rfl
 have Hq0 := hide (And.intro q hfl)
 clear q hfl hen
 have HBd := hide hb
 have HPa := hide hP
 have Hok := hide hok
 have HQ := hide hQ
 have Hend := hide (fun w (hw : Later W w) => rended_any h s A cp w (Later.blk hw hb) hok (hP.only (later_only hw) (fun _ h => h.elim)).at_)
 have Hl0 := hide (show Later W (W.alloc (.cells #[.int .i64 m.seat, .int .i64 m.ply, .string m.mv, .int .i64 m.at_] 62)) from Later.rfl.alloc _)
 have Hm0 := hide (show Blk (W.alloc (.cells #[.int .i64 m.seat, .int .i64 m.ply, .string m.mv, .int .i64 m.at_] 62)) W.heap.size 62 #[.int .i64 m.seat, .int .i64 m.ply, .string m.mv, .int .i64 m.at_] from Blk.new W _ _)
 have hhW : h < W.heap.size := hb.lt
 clear hb hok hP hQ
 go_enter Tryz.func63, Tryz.ntmps63
 go_upto_region 1 with (fail)
 obtain ⟨w0, hw0⟩ : ∃ w0, (W.alloc (.cells #[.int .i64 m.seat, .int .i64 m.ply, .string m.mv, .int .i64 m.at_] 62)) = w0 := ⟨_, rfl⟩
 rw [hw0] at Hl0 Hm0 ⊢
 clear hw0
 go_upto_region 3 with (go_at_call 64; refine (Hend.out _ Hl0.out).mono ?_; rintro e w1 ⟨rfl, hw1⟩)
 have Hl1 := hide (Hl0.out.trans hw1)
 have Hm1 := hide (Later.blk hw1 Hm0.out)
 have HB1 := hide (Later.blk Hl1.out HBd.out)
 have HP1 := hide (HPa.out.only (later_only Hl1.out) (fun _ h => h.elim))
 have hs1 : W.heap.size < w1.heap.size := Hm1.out.lt
 clear hw1 Hm0 Hl0 Hend HPa HBd
 have h01 : s.p.turn = 0 ∨ s.p.turn = 1 := by have := Hok.out.of.pos.t0; have := Hok.out.of.pos.t1; omega
 obtain ⟨tn, htn⟩ : ∃ tn, s.p.turn = tn := ⟨_, rfl⟩
 rw [htn] at h01
 have Htn := hide htn
 have hnow := Hok.out.now
 have hb0 := Hok.out.open_ Hq0.out.2
 have hb1 := Hok.out.b0.2
 have hb2 := Hok.out.b1.2
 obtain ⟨e_r, e_p, e_ply, e_fl, e_li, -, -⟩ := pass_same s m.at_
 have Hpp := hide (show passP s m.at_ = if s.now < m.at_ then (if tn = 0 then { s with l0 := s.l0 - (m.at_ - s.now), now := m.at_ } else { s with l1 := s.l1 - (m.at_ - s.now), now := m.at_ }) else s from by unfold passP; rw [htn])
 obtain ⟨s2, hs2⟩ : ∃ s2, passP s m.at_ = s2 := ⟨_, rfl⟩
 rw [hs2] at Hpp e_r e_p e_ply e_fl e_li ql
 have Hs2 := hide hs2
 have He := hide (And.intro e_r (And.intro e_p (And.intro e_ply (And.intro e_fl e_li))))
 have Hle := hide (show leftP s2 = if tn = 0 then s2.l0 else s2.l1 from by unfold leftP; rw [e_p, htn])
 have Hql := hide ql
 clear hs2 ql e_r e_p e_ply e_fl e_li d
 obtain ⟨p0, p1, p2, p3, p4, p5⟩ := rh_pos HB1.out
 obtain ⟨t0, t1, t2, t3, t4, t5⟩ := rh_rest HB1.out
 obtain ⟨m0, m1, m2, m3⟩ := (show _ ∧ _ ∧ _ ∧ _ from ⟨Hm1.out.cellv (i := 0) rfl, Hm1.out.cellv (i := 1) rfl, Hm1.out.cellv (i := 2) rfl, Hm1.out.cellv (i := 3) rfl⟩)
 rw [htn] at p3
 clear htn
 go_upto_region 4 with (fail)
 go_quiet (fail)
 clear p0 p1 p2 p3 p4 p5 t0 t1 t2 t3 t4 t5 m0 m1 m2 m3
 have hl2 : Later w1 (w1.drewN nq) := Later.rfl.drewN _
 have Hl2 := hide (Hl1.out.trans hl2)
 have HB2 := hide (Later.blk hl2 HB1.out)
 have Hm2 := hide (Later.blk hl2 Hm1.out)
 have HP2 := hide (HP1.out.only (later_only hl2) (fun _ h => h.elim))
 have hs2z : W.heap.size < (w1.drewN nq).heap.size := hs1
 obtain ⟨w2, hw2⟩ : ∃ w2, w1.drewN nq = w2 := ⟨_, rfl⟩
 rw [hw2] at Hl2 HB2 Hm2 HP2 hs2z ⊢
 clear hw2 hl2 HB1 Hm1 HP1 Hl1 hs1
 go_upto_if 22 with (fail)
 go_cut [] (fun w' => Blk w' h 57 (rhC s2 A cp) ∧ Only (fun x => x = h) w2 w')
 case first =>
  obtain ⟨p0, p1, p2, p3, p4, p5⟩ := rh_pos HB2.out
  obtain ⟨t0, t1, t2, t3, t4, t5⟩ := rh_rest HB2.out
  obtain ⟨m0, m1, m2, m3⟩ := (show _ ∧ _ ∧ _ ∧ _ from ⟨Hm2.out.cellv (i := 0) rfl, Hm2.out.cellv (i := 1) rfl, Hm2.out.cellv (i := 2) rfl, Hm2.out.cellv (i := 3) rfl⟩)
  rw [Htn.out] at p3
  have f0 := HB2.out.free 20
  have f1 := HB2.out.free 21
  have f2 := HB2.out.free 22
  by_cases q : s.now < m.at_
  ·
   have d4 : decide (m.at_ > s.now) = true := by simpa using q
   rcases h01 with rfl | rfl
   ·
    have h2 : s2 = { s with l0 := s.l0 + (s.now - m.at_), now := m.at_ } := by rw [Hpp.out, if_pos q, if_pos rfl, show s.l0 - (m.at_ - s.now) = s.l0 + (s.now - m.at_) from by omega]
    have H2 := hide h2
    have tw1 : IntKind.i64.wrap (s.now - m.at_) = s.now - m.at_ := IntWalk.i64_in _ (by omega)
    have tw2 : IntKind.i64.wrap (s.l0 + (s.now - m.at_)) = s.l0 + (s.now - m.at_) := IntWalk.i64_in _ (by omega)
    clear h2 Hpp Hle
    go_wp2_with fail
    go_big_region
    go_wp2_with fail
    go_meet
    case rel =>
     rw [H2.out]
     exact ⟨by first | exact (HB2.out.drew.set_ 20 _).set_ 22 _ | exact (HB2.out.set_ 20 _).drew.set_ 22 _, by first | exact ((Only.refl (fun x => x = h) w2).drew.setCell (p := ⟨h, 20, none⟩) (.inl rfl) _).setCell (p := ⟨h, 22, none⟩) (.inl rfl) _ | exact ((Only.refl (fun x => x = h) w2).setCell (p := ⟨h, 20, none⟩) (.inl rfl) _).drew.setCell (p := ⟨h, 22, none⟩) (.inl rfl) _⟩
   ·
    have h2 : s2 = { s with l1 := s.l1 + (s.now - m.at_), now := m.at_ } := by rw [Hpp.out, if_pos q, if_neg (by omega), show s.l1 - (m.at_ - s.now) = s.l1 + (s.now - m.at_) from by omega]
    have H2 := hide h2
    have tw1 : IntKind.i64.wrap (s.now - m.at_) = s.now - m.at_ := IntWalk.i64_in _ (by omega)
    have tw2 : IntKind.i64.wrap (s.l1 + (s.now - m.at_)) = s.l1 + (s.now - m.at_) := IntWalk.i64_in _ (by omega)
    clear h2 Hpp Hle
    go_wp2_with fail
    go_big_region
    go_wp2_with fail
    go_meet
    case rel =>
     rw [H2.out]
     exact ⟨by first | exact (HB2.out.drew.set_ 21 _).set_ 22 _ | exact (HB2.out.set_ 21 _).drew.set_ 22 _, by first | exact ((Only.refl (fun x => x = h) w2).drew.setCell (p := ⟨h, 21, none⟩) (.inl rfl) _).setCell (p := ⟨h, 22, none⟩) (.inl rfl) _ | exact ((Only.refl (fun x => x = h) w2).setCell (p := ⟨h, 21, none⟩) (.inl rfl) _).drew.setCell (p := ⟨h, 22, none⟩) (.inl rfl) _⟩
  ·
   have d4 : decide (m.at_ > s.now) = false := by simpa using q
   have h2 : s2 = s := by rw [Hpp.out, if_neg q]
   have H2 := hide h2
   clear h2 Hpp Hle
   go_wp2_with fail
   go_meet
   case rel =>
    rw [H2.out]
    exact ⟨HB2.out, Only.refl _ _⟩
 case rest =>
  obtain ⟨hb3, ho3⟩ := hcut
  rename World => w3
  have HB3 := hide hb3
  have Hm3 := hide (Hm2.out.only ho3 (by omega))
  have HP3 := hide (show PAt w3 Q A s2.r.pieces from by rw [He.out.1]; exact HP2.out.only ho3 (fun k hk hq => HQ.out (hk ▸ hq)))
  have HO3 := hide (((later_only Hl2.out).mono (fun _ _ h => h.elim)).trans' ho3 (fun _ _ h => h) : Only (fun x => x = h) W w3)
  have hs3 : W.heap.size < w3.heap.size := Hm3.out.lt
  clear hb3 ho3 HB2 Hm2 HP2 Hl2 hs2z Hpp
  go_upto_region 7 with (fail)
  go_cut [51] from 45 to 51 (fun bv w' => bv = .bool false ∧ w' = w3)
  case first =>
   obtain ⟨t0, t1, t2, t3, t4, t5⟩ := rh_rest HB3.out
   rcases h01 with rfl | rfl
   ·
    have hq := Hql.out
    rw [Hle.out, if_pos rfl] at hq
    have d7 : decide (s2.l0 < 0) = false := by simpa using hq
    go_wp2_with fail
    go_meet
    case rel => exact ⟨rfl, rfl⟩
   ·
    have hq := Hql.out
    rw [Hle.out, if_neg (by omega)] at hq
    have d7 : decide (s2.l1 < 0) = false := by simpa using hq
    go_wp2_with fail
    go_meet
    case rel => exact ⟨rfl, rfl⟩
  case rest =>
   obtain ⟨rfl, rfl⟩ := hcut
   rename World => w3
   clear Hle
   have Hok2 := hide (show HoOk s2 from by rw [← Hs2.out]; exact pass_ok Hok.out Hq0.out.2 hm1 (by rw [Hs2.out]; exact Hql.out))
   have Htk := hide (show takeP s m = (s2, 3) from by unfold takeP; rw [if_neg (by rw [Hq0.out.1]; exact fun h => h rfl), Hs2.out, if_neg (by have h := Hql.out; omega), if_neg (fun h => h Hqp.out), if_pos Hqs.out])
   obtain ⟨t0, t1, t2, t3, t4, t5⟩ := rh_rest HB3.out
   obtain ⟨m0, m1, m2, m3⟩ := (show _ ∧ _ ∧ _ ∧ _ from ⟨Hm3.out.cellv (i := 0) rfl, Hm3.out.cellv (i := 1) rfl, Hm3.out.cellv (i := 2) rfl, Hm3.out.cellv (i := 3) rfl⟩)
   have d6 : (m.ply != s2.ply) = false := by rw [He.out.2.2.1, Hqp.out]; simp
   go_upto_region 10 with (fail)
   go_quiet (fail)
   have hl4 : Later w3 (w3.drewN nq) := Later.rfl.drewN _
   have HB4 := hide (Later.blk hl4 HB3.out)
   have Hm4 := hide (Later.blk hl4 Hm3.out)
   have HP4 := hide (HP3.out.only (later_only hl4) (fun _ h => h.elim))
   have HO4 := hide (HO3.out.trans' (later_only hl4) (fun _ _ h => h.elim))
   have hs4 : W.heap.size < (w3.drewN nq).heap.size := hs3
   obtain ⟨w4, hw4⟩ : ∃ w4, w3.drewN nq = w4 := ⟨_, rfl⟩
   rw [hw4] at HB4 Hm4 HP4 HO4 hs4 ⊢
   clear hw4 hl4 HB3 Hm3 HP3 HO3 hs3
   clear t0 t1 t2 t3 t4 t5 m0 m1 m2 m3
   obtain ⟨m0, m1, m2, m3⟩ := (show _ ∧ _ ∧ _ ∧ _ from ⟨Hm4.out.cellv (i := 0) rfl, Hm4.out.cellv (i := 1) rfl, Hm4.out.cellv (i := 2) rfl, Hm4.out.cellv (i := 3) rfl⟩)
   have d8 : (m.seat != tn) = true := by rw [← Htn.out]; simpa using Hqs.out
   go_wp2_with fail
   go_ret
   exact ⟨by rw [Htk.out] <;> rfl, by rw [Htk.out]; exact HB4.out, HO4.out⟩
end Go.Proofs.YtcdfeaodfmfdnaaGreatDoor
