/- (*house.House).Take where a move is read: walked. -/
import Derived.Test.YtcdfeaodfmfdnaaGreatDoorPlTk
import Derived.Test.YtcdfeaodfmfdnaaGreatDoorPlHoTk
namespace Go.Proofs.YtcdfeaodfmfdnaaGreatDoor
open Go.RowKit

theorem read_none {r : RulesD} {p : Pos} {b : ByteArray} (h : readM r p b = none) : ∀ m ∈ movesL r p, bytes (mv_textL p m) ≠ b := fun m hm e => by
 have := List.find?_eq_none.1 h m hm
 simp [e] at this
theorem read_some {r : RulesD} {p : Pos} {b : ByteArray} {x : Mv} (h : readM r p b = some x) : x ∈ movesL r p ∧ bytes (mv_textL p x) = b := ⟨List.mem_of_find?_eq_some h, by simpa using List.find?_some h⟩
set_option maxHeartbeats 8000000 in
set_option maxRecDepth 100000 in
theorem htake_bad (B h lo : Nat) (s : HoD) (A : Option Addr) (cp : Nat) (ad v : Value) (m : MsgD) (W : World) (hb : HB W B h (hoC s A cp ad v) v s.lines) (hok : HoOk s) (hP : PAt W (fun x => lo ≤ x ∧ x < h) A s.r.pieces)  (hm0 : -9223372036854775808 ≤ m.at_) (hm1 : m.at_ ≤ 9223372036854775807) (q : outP s = 0) (ql : 0 ≤ leftP (passP s m.at_)) (qp : m.ply = s.ply) (qs : m.seat = s.p.turn) (hx : readM s.r s.p m.mv = none) :
  Calls Tryz.prog 23 #[.pointer (some ⟨h, 0, none⟩), .agg #[.int .i64 m.seat, .int .i64 m.ply, .string m.mv, .int .i64 m.at_]] W (TakeOut B h s A cp v m W) := by
 have Hqp := hide qp
 have Hqs := hide qs
 have Hrm := hide (read_none hx)
 have Hx := hide hx
 clear qp qs hx
 obtain ⟨hfl, hen, hpl⟩ := out_open q hok
 have d : (outP s != 0) = false := by rw [q]; rfl
 have Hq0 := hide (And.intro q hfl)
 clear q hfl hen
 have HBd := hide hb
 have HPa := hide hP
 have Hok := hide hok
 have Hout := hide (fun w (hw : Later W w) => hout_any B h s A cp ad v s.lines w (hb.later hw) hok (hP.only (later_only hw) (fun _ h => h.elim)).at_)
 have Hl0 := hide (show Later W ((W.alloc (.cells #[.int .i64 m.seat, .int .i64 m.ply, .string m.mv, .int .i64 m.at_] 62)).alloc (.cells #[.int .i64 0, .int .i64 0, .int .i64 0, .string ⟨#[]⟩] 59)) from (Later.rfl.alloc _).alloc _)
 have Hm0 := hide (show Blk ((W.alloc (.cells #[.int .i64 m.seat, .int .i64 m.ply, .string m.mv, .int .i64 m.at_] 62)).alloc (.cells #[.int .i64 0, .int .i64 0, .int .i64 0, .string ⟨#[]⟩] 59)) W.heap.size 62 #[.int .i64 m.seat, .int .i64 m.ply, .string m.mv, .int .i64 m.at_] from (Blk.new W _ _).alloc _)
 have HZ0 := hide (show Blk ((W.alloc (.cells #[.int .i64 m.seat, .int .i64 m.ply, .string m.mv, .int .i64 m.at_] 62)).alloc (.cells #[.int .i64 0, .int .i64 0, .int .i64 0, .string ⟨#[]⟩] 59)) (W.heap.size + 1) 59 #[.int .i64 0, .int .i64 0, .int .i64 0, .string ⟨#[]⟩] from by
  have h := Blk.new (W.alloc (.cells #[.int .i64 m.seat, .int .i64 m.ply, .string m.mv, .int .i64 m.at_] 62)) 59 #[.int .i64 0, .int .i64 0, .int .i64 0, .string ⟨#[]⟩]
  rwa [World.size_alloc] at h)
 have hs0 : ((W.alloc (.cells #[.int .i64 m.seat, .int .i64 m.ply, .string m.mv, .int .i64 m.at_] 62)).alloc (.cells #[.int .i64 0, .int .i64 0, .int .i64 0, .string ⟨#[]⟩] 59)).heap.size = W.heap.size + 1 + 1 := by rw [World.size_alloc, World.size_alloc]
 have hhW : h < W.heap.size := hb.blk.lt
 have Hvl := hide (fun k (hk : v.ownBlock = some k) => (hb.own.lt k hk).2)
 clear hb hok hP
 go_enter Tryz.func23, Tryz.ntmps23
 go_upto_region 1 with (fail)
 obtain ⟨w0, hw0⟩ : ∃ w0, ((W.alloc (.cells #[.int .i64 m.seat, .int .i64 m.ply, .string m.mv, .int .i64 m.at_] 62)).alloc (.cells #[.int .i64 0, .int .i64 0, .int .i64 0, .string ⟨#[]⟩] 59)) = w0 := ⟨_, rfl⟩
 rw [hw0] at Hl0 Hm0 HZ0 hs0 ⊢
 clear hw0
 go_upto_region 3 with (go_at_call 59; refine (Hout.out _ Hl0.out).mono ?_; rintro e w1 ⟨rfl, hw1⟩)
 have Hl1 := hide (Hl0.out.trans hw1)
 have Hm1 := hide (Later.blk hw1 Hm0.out)
 have HZ1 := hide (Later.blk hw1 HZ0.out)
 have hs1 : W.heap.size + 1 + 1 ≤ w1.heap.size := by rw [← hs0]; exact hw1.size
 clear hw1 Hm0 HZ0 Hl0 hs0 Hout
 have hl : decide (0 ≤ leftP (passP s m.at_)) = true := by simpa using ql
 have ht : s.p.turn = 0 ∨ s.p.turn = 1 := by have := Hok.out.of.pos.t0; have := Hok.out.of.pos.t1; omega
 have Hps := hide (fun w (hw : Later w1 w) => hpass_any B h s A cp ad v s.lines m.at_ w (HBd.out.later (Hl1.out.trans hw)) ht Hok.out.now ⟨(Hok.out.open_ Hq0.out.2).1, Hok.out.b0.2⟩ ⟨(Hok.out.open_ Hq0.out.2).2, Hok.out.b1.2⟩ hm0 hm1)
 rw [hl] at Hps
 have Hl9 := hide hl
 obtain ⟨e_r, e_p, e_ply, e_fl, e_li, -, -⟩ := pass_same s m.at_
 obtain ⟨s2, hs2⟩ : ∃ s2, passP s m.at_ = s2 := ⟨_, rfl⟩
 rw [hs2] at Hps e_r e_p e_ply e_fl e_li
 have Hs2 := hide hs2
 have He := hide (And.intro e_r (And.intro e_p (And.intro e_ply (And.intro e_fl e_li))))
 have HS := hide (show ∀ w' : World, Later w1 w' → (w'.cell? ⟨W.heap.size, 3, none⟩ = some (.int .i64 m.at_) ∧ w'.cell? ⟨h, 19, none⟩ = some (.int .i64 s.p.turn)) from fun w' hw => by
  obtain ⟨_, _, _, p3, _⟩ := (HBd.out.later (Hl1.out.trans hw)).pos
  exact ⟨(Later.blk hw Hm1.out).cellv rfl, p3⟩)
 have HS2 := hide (show ∀ w' : World, HB w' B h (hoC s2 A cp ad v) v s.lines → Only (fun x => x = h) w1 w' → (w'.cell? ⟨W.heap.size, 3, none⟩ = some (.int .i64 m.at_) ∧ w'.cell? ⟨h, 19, none⟩ = some (.int .i64 s.p.turn)) from fun w' hb ho => by
  obtain ⟨_, _, _, p3, _⟩ := hb.pos
  rw [He.out.2.1] at p3
  exact ⟨(Hm1.out.only ho (by omega)).cellv rfl, p3⟩)
 clear hs2 hl ht ql e_r e_p e_ply e_fl e_li d
 refine wp_region_held_drew (S := fun w' : World => (w'.cell? ⟨W.heap.size, 3, none⟩ = some (.int .i64 m.at_) ∧ w'.cell? ⟨h, 19, none⟩ = some (.int .i64 s.p.turn))) (by kernel_rfl) (HS.out _ Later.rfl.drew) (fun hHeld => ?_)
 refine tk 0 (some 12) (v := ?_) ?_ ?_; rotate_left 1; (intro w hSw; (try dsimp only at hSw); go_simp <;> with_reducible rfl); try simp only [Act.put, List.setIfInBounds_toArray, List.set_cons_zero, List.set_cons_succ]
 refine tk 1 (some 13) (v := ?_) ?_ ?_; rotate_left 1; (intro w hSw; (try dsimp only at hSw); go_simp <;> with_reducible rfl); try simp only [Act.put, List.setIfInBounds_toArray, List.set_cons_zero, List.set_cons_succ]
 refine tk 2 (some 14) (v := ?_) ?_ ?_; rotate_left 1; (intro w hSw; (try dsimp only at hSw); go_simp <;> with_reducible rfl); try simp only [Act.put, List.setIfInBounds_toArray, List.set_cons_zero, List.set_cons_succ]
 refine tk 3 (some 15) (v := ?_) ?_ ?_; rotate_left 1; (intro w hSw; (try dsimp only at hSw); go_simp <;> with_reducible rfl); try simp only [Act.put, List.setIfInBounds_toArray, List.set_cons_zero, List.set_cons_succ]
 refine tk 4 (some 16) (v := ?_) ?_ ?_; rotate_left 1; (intro w hSw; (try dsimp only at hSw); go_simp <;> with_reducible rfl); try simp only [Act.put, List.setIfInBounds_toArray, List.set_cons_zero, List.set_cons_succ]
 refine tk 5 (some 17) (v := ?_) ?_ ?_; rotate_left 1; (intro w hSw; (try dsimp only at hSw); go_simp <;> with_reducible rfl); try simp only [Act.put, List.setIfInBounds_toArray, List.set_cons_zero, List.set_cons_succ]
 refine tk 6 (some 18) (v := ?_) ?_ ?_; rotate_left 1; (intro w hSw; (try dsimp only at hSw); go_simp <;> with_reducible rfl); try simp only [Act.put, List.setIfInBounds_toArray, List.set_cons_zero, List.set_cons_succ]
 refine tk 7 (some 19) (v := ?_) ?_ ?_; rotate_left 1; (intro w hSw; (try dsimp only at hSw); go_simp <;> with_reducible rfl); try simp only [Act.put, List.setIfInBounds_toArray, List.set_cons_zero, List.set_cons_succ]
 refine tk 8 (some 20) (v := ?_) ?_ ?_; rotate_left 1; (intro w hSw; (try dsimp only at hSw); go_simp <;> with_reducible rfl); try simp only [Act.put, List.setIfInBounds_toArray, List.set_cons_zero, List.set_cons_succ]
 refine tk 9 (some 21) (v := ?_) ?_ ?_; rotate_left 1; (intro w hSw; (try dsimp only at hSw); go_simp <;> with_reducible rfl); try simp only [Act.put, List.setIfInBounds_toArray, List.set_cons_zero, List.set_cons_succ]
 refine wpAnyH_ready (rs := [10]) (by kernel_rfl) (by simp) ?_
 refine AllReadyH.cons (o := ⟨some 22, _, _, _, _, _⟩) rfl (fun K hK => ?_) ?_
 ·
  clear hHeld
  go_simp
  go_at_call 61
  refine (Hps.out _ (by repeat (first | exact Later.rfl | refine Later.drew ?_))).mono ?_
  rintro e w2 ⟨rfl, hb2, ho2⟩
  have Hb2 := hide hb2
  have Ho2 := hide (show Only (fun x => x = h) w1 w2 from ((Only.refl (fun x => x = h) w1).drew).trans ho2)
  have Hk2 := hide (HS2.out w2 hb2 Ho2.out)
  clear hb2 ho2
  try go_wp2_with fail
  refine hK.out _ _ (by first | exact Hk2.out | (refine HS.out _ ?_; repeat (first | exact Later.rfl | refine Later.drew ?_))) (fun hHeld => ?_)
  clear hK K
  try simp only [Act.put, List.setIfInBounds_toArray, List.set_cons_zero, List.set_cons_succ]
  refine tk 11 (some 23) (v := ?_) ?_ ?_; rotate_left 1; (intro w hSw; (try dsimp only at hSw); go_simp <;> with_reducible rfl); try simp only [Act.put, List.setIfInBounds_toArray, List.set_cons_zero, List.set_cons_succ]
  refine wpAnyH_done (by kernel_rfl) ?_ _
  have Hm2 := hide (Hm1.out.only Ho2.out (by omega))
  have HZ2 := hide (HZ1.out.only Ho2.out (by omega))
  have hs2z : W.heap.size + 1 + 1 ≤ w2.heap.size := Nat.le_trans hs1 Ho2.out.size
  have HO2 := hide (show Only (fun x => x = h ∨ v.ownBlock = some x) W w2 from ((later_only Hl1.out).mono (fun _ _ h => h.elim)).trans' Ho2.out (fun _ _ h => .inl h))
  have HPb := hide (show PAt w2 (fun x => lo ≤ x ∧ x < h) A s2.r.pieces from by rw [He.out.1]; exact (HPa.out.only (later_only Hl1.out) (fun _ h => h.elim)).only Ho2.out (fun k hk hq => by omega))
  clear HS HS2 Hps Hk2 hHeld Ho2 HZ1 Hm1 hs1 Hl1 HPa HBd
  have Hok2 := hide (show HoOk s2 from by rw [← Hs2.out]; exact pass_ok Hok.out Hq0.out.2 hm1 (by have h := Hl9.out; simpa using h))
  have HP2 := HPb
  clear HPb
  obtain ⟨t0, -, -, -⟩ := Hb2.out.rest
  obtain ⟨-, -, -, p3, -, -⟩ := Hb2.out.pos
  obtain ⟨m0, m1, m2, m3⟩ := (show _ ∧ _ ∧ _ ∧ _ from ⟨Hm2.out.cellv (i := 0) rfl, Hm2.out.cellv (i := 1) rfl, Hm2.out.cellv (i := 2) rfl, Hm2.out.cellv (i := 3) rfl⟩)
  have d6 : (m.ply != s2.ply) = false := by rw [He.out.2.2.1, Hqp.out]; simp
  go_upto_region 6 with (fail)
  go_quiet (fail)
  obtain ⟨w3, hw3⟩ : ∃ w3, w2.drewN nq = w3 := ⟨_, rfl⟩
  have hl3 : Later w2 w3 := by rw [← hw3]; exact Later.rfl.drewN _
  rw [hw3]
  have Hb3 := hide (Hb2.out.later hl3)
  have Hm3 := hide (Later.blk hl3 Hm2.out)
  have HZ3 := hide (Later.blk hl3 HZ2.out)
  have HO3 := hide (HO2.out.trans' (later_only hl3) (fun _ _ h => h.elim))
  have HP3 := hide (HP2.out.only (later_only hl3) (fun _ h => h.elim))
  have hs3z : W.heap.size + 1 + 1 ≤ w3.heap.size := Nat.le_trans hs2z (hl3).size
  clear Hb2 Hm2 HZ2 HO2 HP2 hs2z
  clear hw3 hl3 t0 p3 m0 m1 m2 m3
  obtain ⟨t0, -, -, -⟩ := Hb3.out.rest
  obtain ⟨-, -, -, p3, -, -⟩ := Hb3.out.pos
  obtain ⟨m0, m1, m2, m3⟩ := (show _ ∧ _ ∧ _ ∧ _ from ⟨Hm3.out.cellv (i := 0) rfl, Hm3.out.cellv (i := 1) rfl, Hm3.out.cellv (i := 2) rfl, Hm3.out.cellv (i := 3) rfl⟩)
  have d8 : (m.seat != s2.p.turn) = false := by rw [He.out.2.1, Hqs.out]; simp
  go_upto_region 8 with (fail)
  go_quiet (fail)
  obtain ⟨w4, hw4⟩ : ∃ w4, w3.drewN nq = w4 := ⟨_, rfl⟩
  have hl4 : Later w3 w4 := by rw [← hw4]; exact Later.rfl.drewN _
  rw [hw4]
  have Hb4 := hide (Hb3.out.later hl4)
  have Hm4 := hide (Later.blk hl4 Hm3.out)
  have HZ4 := hide (Later.blk hl4 HZ3.out)
  have HO4 := hide (HO3.out.trans' (later_only hl4) (fun _ _ h => h.elim))
  have HP4 := hide (HP3.out.only (later_only hl4) (fun _ h => h.elim))
  have hs4z : W.heap.size + 1 + 1 ≤ w4.heap.size := Nat.le_trans hs3z (hl4).size
  clear Hb3 Hm3 HZ3 HO3 HP3 hs3z
  clear hw4 hl4 t0 p3 m0 m1 m2 m3
  have Hrd := hide (fun w (hw : Later w4 w) => mread_none s2.r A cp s2.p m.mv w (ho_rfit Hok2.out.of.rules) (ho_pfit Hok2.out.of.pos) (HP4.out.only (later_only hw) (fun _ h => h.elim)).at_ Hok2.out.of (by rw [He.out.1, He.out.2.1]; exact Hrm.out))
  have HS10 := hide (show ∀ w' : World, Later w4 w' → (w'.cell? ⟨h, 3, none⟩ = some (.int .i64 s2.r.start.w) ∧ w'.cell? ⟨h, 4, none⟩ = some (.int .i64 s2.r.start.h) ∧ w'.cell? ⟨h, 5, none⟩ = some (.string s2.r.start.cells) ∧ w'.cell? ⟨h, 6, none⟩ = some (.int .i64 s2.r.start.turn) ∧ w'.cell? ⟨h, 7, none⟩ = some (.string s2.r.start.h0) ∧ w'.cell? ⟨h, 8, none⟩ = some (.string s2.r.start.h1) ∧ w'.cell? ⟨h, 9, none⟩ = some (.slice A s2.r.pieces.length cp) ∧ w'.cell? ⟨h, 10, none⟩ = some (.bool s2.r.drops) ∧ w'.cell? ⟨h, 11, none⟩ = some (.int .u8 (s2.r.lose : Int)) ∧ w'.cell? ⟨h, 12, none⟩ = some (.int .i64 s2.r.line) ∧ w'.cell? ⟨h, 13, none⟩ = some (.int .u8 (s2.r.reach : Int)) ∧ w'.cell? ⟨h, 14, none⟩ = some (.bool s2.r.stuck) ∧ w'.cell? ⟨h, 15, none⟩ = some (.int .i64 s2.r.plies) ∧ w'.cell? ⟨h, 16, none⟩ = some (.int .i64 s2.p.w) ∧ w'.cell? ⟨h, 17, none⟩ = some (.int .i64 s2.p.h) ∧ w'.cell? ⟨h, 18, none⟩ = some (.string s2.p.cells) ∧ w'.cell? ⟨h, 19, none⟩ = some (.int .i64 s2.p.turn) ∧ w'.cell? ⟨h, 20, none⟩ = some (.string s2.p.h0) ∧ w'.cell? ⟨h, 21, none⟩ = some (.string s2.p.h1) ∧ w'.cell? ⟨W.heap.size, 2, none⟩ = some (.string m.mv)) from fun w' hw => by
   obtain ⟨r0, r1, r2, r3, r4, r5, r6, r7, r8, r9, r10, r11, r12⟩ := (Hb4.out.later hw).rules
   obtain ⟨p0, p1, p2, p3, p4, p5⟩ := (Hb4.out.later hw).pos
   exact ⟨r0, r1, r2, r3, r4, r5, r6, r7, r8, r9, r10, r11, r12, p0, p1, p2, p3, p4, p5, (Later.blk hw Hm4.out).cellv rfl⟩)
  go_upto_region 10 with (fail)
  go_cut [5, 6] from 55 to 118 (fun qv ev w' => ∃ gq, qv = .pointer (some ⟨gq, 0, none⟩) ∧ ev = .int .i64 5 ∧ Blk w' gq 101 #[.int .i64 0, .int .i64 0, .int .u8 0] ∧ Later w4 w')
  case first =>
   refine wp_region_held_drew (S := fun w' : World => (w'.cell? ⟨h, 3, none⟩ = some (.int .i64 s2.r.start.w) ∧ w'.cell? ⟨h, 4, none⟩ = some (.int .i64 s2.r.start.h) ∧ w'.cell? ⟨h, 5, none⟩ = some (.string s2.r.start.cells) ∧ w'.cell? ⟨h, 6, none⟩ = some (.int .i64 s2.r.start.turn) ∧ w'.cell? ⟨h, 7, none⟩ = some (.string s2.r.start.h0) ∧ w'.cell? ⟨h, 8, none⟩ = some (.string s2.r.start.h1) ∧ w'.cell? ⟨h, 9, none⟩ = some (.slice A s2.r.pieces.length cp) ∧ w'.cell? ⟨h, 10, none⟩ = some (.bool s2.r.drops) ∧ w'.cell? ⟨h, 11, none⟩ = some (.int .u8 (s2.r.lose : Int)) ∧ w'.cell? ⟨h, 12, none⟩ = some (.int .i64 s2.r.line) ∧ w'.cell? ⟨h, 13, none⟩ = some (.int .u8 (s2.r.reach : Int)) ∧ w'.cell? ⟨h, 14, none⟩ = some (.bool s2.r.stuck) ∧ w'.cell? ⟨h, 15, none⟩ = some (.int .i64 s2.r.plies) ∧ w'.cell? ⟨h, 16, none⟩ = some (.int .i64 s2.p.w) ∧ w'.cell? ⟨h, 17, none⟩ = some (.int .i64 s2.p.h) ∧ w'.cell? ⟨h, 18, none⟩ = some (.string s2.p.cells) ∧ w'.cell? ⟨h, 19, none⟩ = some (.int .i64 s2.p.turn) ∧ w'.cell? ⟨h, 20, none⟩ = some (.string s2.p.h0) ∧ w'.cell? ⟨h, 21, none⟩ = some (.string s2.p.h1) ∧ w'.cell? ⟨W.heap.size, 2, none⟩ = some (.string m.mv))) (by kernel_rfl) (HS10.out _ Later.rfl.drew) (fun hHeld => ?_)
   refine tk 0 (some 55) (v := ?_) ?_ ?_; rotate_left 1; (intro w hSw; (try dsimp only at hSw); go_simp <;> with_reducible rfl); try simp only [Act.put, List.setIfInBounds_toArray, List.set_cons_zero, List.set_cons_succ]
   refine tk 1 (some 56) (v := ?_) ?_ ?_; rotate_left 1; (intro w hSw; (try dsimp only at hSw); go_simp <;> with_reducible rfl); try simp only [Act.put, List.setIfInBounds_toArray, List.set_cons_zero, List.set_cons_succ]
   refine tk 2 (some 57) (v := ?_) ?_ ?_; rotate_left 1; (intro w hSw; (try dsimp only at hSw); go_simp <;> with_reducible rfl); try simp only [Act.put, List.setIfInBounds_toArray, List.set_cons_zero, List.set_cons_succ]
   refine tk 3 (some 58) (v := ?_) ?_ ?_; rotate_left 1; (intro w hSw; (try dsimp only at hSw); go_simp <;> with_reducible rfl); try simp only [Act.put, List.setIfInBounds_toArray, List.set_cons_zero, List.set_cons_succ]
   refine tk 4 (some 59) (v := ?_) ?_ ?_; rotate_left 1; (intro w hSw; (try dsimp only at hSw); go_simp <;> with_reducible rfl); try simp only [Act.put, List.setIfInBounds_toArray, List.set_cons_zero, List.set_cons_succ]
   refine tk 5 (some 60) (v := ?_) ?_ ?_; rotate_left 1; (intro w hSw; (try dsimp only at hSw); go_simp <;> with_reducible rfl); try simp only [Act.put, List.setIfInBounds_toArray, List.set_cons_zero, List.set_cons_succ]
   refine tk 6 (some 61) (v := ?_) ?_ ?_; rotate_left 1; (intro w hSw; (try dsimp only at hSw); go_simp <;> with_reducible rfl); try simp only [Act.put, List.setIfInBounds_toArray, List.set_cons_zero, List.set_cons_succ]
   refine tk 7 (some 62) (v := ?_) ?_ ?_; rotate_left 1; (intro w hSw; (try dsimp only at hSw); go_simp <;> with_reducible rfl); try simp only [Act.put, List.setIfInBounds_toArray, List.set_cons_zero, List.set_cons_succ]
   refine tk 8 (some 63) (v := ?_) ?_ ?_; rotate_left 1; (intro w hSw; (try dsimp only at hSw); go_simp <;> with_reducible rfl); try simp only [Act.put, List.setIfInBounds_toArray, List.set_cons_zero, List.set_cons_succ]
   refine tk 9 (some 64) (v := ?_) ?_ ?_; rotate_left 1; (intro w hSw; (try dsimp only at hSw); go_simp <;> with_reducible rfl); try simp only [Act.put, List.setIfInBounds_toArray, List.set_cons_zero, List.set_cons_succ]
   refine wpAnyH_ready (rs := [10, 14]) (by kernel_rfl) (by simp) ?_
   refine AllReadyH.cons (o := ⟨some 65, _, _, _, _, _⟩) rfl (fun K hK => ?_) ?_
   ·
    clear hHeld
    go_simp
    go_at_call 52
    refine (Hrd.out _ (by repeat (first | exact Later.rfl | refine Later.drew ?_ | refine Later.alloc ?_ _))).mono ?_
    rintro e wq ⟨rfl, hwx⟩
    have hwq : Later w4 wq := Later.trans (by repeat (first | exact Later.rfl | refine Later.drew ?_ | refine Later.alloc ?_ _)) hwx
    try go_wp2_with fail
    refine hK.out _ _ (by refine HS10.out _ ?_; repeat (first | exact Later.rfl | exact hwq | refine Later.drew ?_ | refine Later.alloc ?_ _ | refine later_setrow4 ?_ (by first | exact Nat.le_refl _ | exact hwq.size))) (fun hHeld => ?_)
    clear hK K
    try simp only [Act.put, List.setIfInBounds_toArray, List.set_cons_zero, List.set_cons_succ]
    refine tk 11 (some 54) (v := ?_) ?_ ?_; rotate_left 1; (intro w hSw; (try dsimp only at hSw); go_simp <;> with_reducible rfl); try simp only [Act.put, List.setIfInBounds_toArray, List.set_cons_zero, List.set_cons_succ]
    refine tk 12 (some 66) (v := ?_) ?_ ?_; rotate_left 1; (intro w hSw; (try dsimp only at hSw); go_simp <;> with_reducible rfl); try simp only [Act.put, List.setIfInBounds_toArray, List.set_cons_zero, List.set_cons_succ]
    refine tk 13 (some 67) (v := ?_) ?_ ?_; rotate_left 1; (intro w hSw; (try dsimp only at hSw); go_simp <;> with_reducible rfl); try simp only [Act.put, List.setIfInBounds_toArray, List.set_cons_zero, List.set_cons_succ]
    refine wpAnyH_ready (rs := [14]) (by kernel_rfl) (by simp) ?_
    refine AllReadyH.cons (o := ⟨some 5, _, _, _, _, _⟩) rfl (fun K hK => ?_) ?_
    ·
     clear hHeld
     go_simp
     refine hK.out _ _ (by refine HS10.out _ ?_; repeat (first | exact Later.rfl | exact hwq | refine Later.drew ?_ | refine Later.alloc ?_ _ | refine later_setrow4 ?_ (by first | exact Nat.le_refl _ | exact hwq.size))) (fun hHeld => ?_)
     clear hK K
     try simp only [Act.put, List.setIfInBounds_toArray, List.set_cons_zero, List.set_cons_succ]
     refine wpAnyH_ready (rs := [15]) (by kernel_rfl) (by simp) ?_
     refine AllReadyH.cons (o := ⟨none, _, _, _, _, _⟩) rfl (fun K hK => ?_) ?_
     ·
      clear hHeld
      rw [if_pos (by rfl)]
      refine wp_store_row 101 (.tmp 5) (.tmp 66) rfl _ #[.int .i64 0, .int .i64 0, .int .u8 0] rfl rfl 101 _ (by first | exact Later.blk hwx ((Blk.new w4 101 #[.int .i64 0, .int .i64 0, .int .u8 0]).drewN 1) | exact Later.blk hwx (Blk.new _ 101 #[.int .i64 0, .int .i64 0, .int .u8 0]) | exact Blk.new _ _ _) (by kernel_rfl) (by simp) (by simp [Value.oneCell']) ?_
      refine hK.out _ _ (by refine HS10.out _ ?_; repeat (first | exact Later.rfl | exact hwq | refine Later.drew ?_ | refine Later.alloc ?_ _ | refine later_setrow4 ?_ (by first | exact Nat.le_refl _ | exact hwq.size))) (fun hHeld => ?_)
      clear hK K
      try simp only [Act.put]
      refine tk 16 (some 6) (v := ?_) ?_ ?_; rotate_left 1; (intro w hSw; (try dsimp only at hSw); go_simp <;> with_reducible rfl); try simp only [Act.put, List.setIfInBounds_toArray, List.set_cons_zero, List.set_cons_succ]
      refine wpAnyH_done (by kernel_rfl) ?_ _
      go_wp2_with fail
      go_meet
      case rel => exact ⟨_, rfl, rfl, setRow_blkH (by first | exact Later.blk hwx ((Blk.new w4 101 #[.int .i64 0, .int .i64 0, .int .u8 0]).drewN 1) | exact Later.blk hwx (Blk.new _ 101 #[.int .i64 0, .int .i64 0, .int .u8 0]) | exact Blk.new _ _ _), by repeat (first | exact Later.rfl | exact hwq | refine Later.drew ?_ | refine Later.alloc ?_ _ | refine later_setrow4 ?_ (by first | exact Nat.le_refl _ | exact hwq.size))⟩
     exact AllReadyH.nil
    exact AllReadyH.nil
   refine AllReadyH.cons (o := ⟨some 5, _, _, _, _, _⟩) rfl (fun K hK => ?_) ?_
   ·
    clear hHeld
    go_simp
    refine hK.out _ _ (by refine HS10.out _ ?_; repeat (first | exact Later.rfl | exact hwq | refine Later.drew ?_ | refine Later.alloc ?_ _ | refine later_setrow4 ?_ (by first | exact Nat.le_refl _ | exact hwq.size))) (fun hHeld => ?_)
    clear hK K
    try simp only [Act.put, List.setIfInBounds_toArray, List.set_cons_zero, List.set_cons_succ]
    refine wpAnyH_ready (rs := [10]) (by kernel_rfl) (by simp) ?_
    refine AllReadyH.cons (o := ⟨some 65, _, _, _, _, _⟩) rfl (fun K hK => ?_) ?_
    ·
     clear hHeld
     go_simp
     go_at_call 52
     refine (Hrd.out _ (by repeat (first | exact Later.rfl | refine Later.drew ?_ | refine Later.alloc ?_ _))).mono ?_
     rintro e wq ⟨rfl, hwx⟩
     have hwq : Later w4 wq := Later.trans (by repeat (first | exact Later.rfl | refine Later.drew ?_ | refine Later.alloc ?_ _)) hwx
     try go_wp2_with fail
     refine hK.out _ _ (by refine HS10.out _ ?_; repeat (first | exact Later.rfl | exact hwq | refine Later.drew ?_ | refine Later.alloc ?_ _ | refine later_setrow4 ?_ (by first | exact Nat.le_refl _ | exact hwq.size))) (fun hHeld => ?_)
     clear hK K
     try simp only [Act.put, List.setIfInBounds_toArray, List.set_cons_zero, List.set_cons_succ]
     refine tk 11 (some 54) (v := ?_) ?_ ?_; rotate_left 1; (intro w hSw; (try dsimp only at hSw); go_simp <;> with_reducible rfl); try simp only [Act.put, List.setIfInBounds_toArray, List.set_cons_zero, List.set_cons_succ]
     refine tk 12 (some 66) (v := ?_) ?_ ?_; rotate_left 1; (intro w hSw; (try dsimp only at hSw); go_simp <;> with_reducible rfl); try simp only [Act.put, List.setIfInBounds_toArray, List.set_cons_zero, List.set_cons_succ]
     refine tk 13 (some 67) (v := ?_) ?_ ?_; rotate_left 1; (intro w hSw; (try dsimp only at hSw); go_simp <;> with_reducible rfl); try simp only [Act.put, List.setIfInBounds_toArray, List.set_cons_zero, List.set_cons_succ]
     refine wpAnyH_ready (rs := [15]) (by kernel_rfl) (by simp) ?_
     refine AllReadyH.cons (o := ⟨none, _, _, _, _, _⟩) rfl (fun K hK => ?_) ?_
     ·
      clear hHeld
      rw [if_pos (by rfl)]
      refine wp_store_row 101 (.tmp 5) (.tmp 66) rfl _ #[.int .i64 0, .int .i64 0, .int .u8 0] rfl rfl 101 _ (by first | exact Later.blk hwx ((Blk.new w4 101 #[.int .i64 0, .int .i64 0, .int .u8 0]).drewN 1) | exact Later.blk hwx (Blk.new _ 101 #[.int .i64 0, .int .i64 0, .int .u8 0]) | exact Blk.new _ _ _) (by kernel_rfl) (by simp) (by simp [Value.oneCell']) ?_
      refine hK.out _ _ (by refine HS10.out _ ?_; repeat (first | exact Later.rfl | exact hwq | refine Later.drew ?_ | refine Later.alloc ?_ _ | refine later_setrow4 ?_ (by first | exact Nat.le_refl _ | exact hwq.size))) (fun hHeld => ?_)
      clear hK K
      try simp only [Act.put]
      refine tk 16 (some 6) (v := ?_) ?_ ?_; rotate_left 1; (intro w hSw; (try dsimp only at hSw); go_simp <;> with_reducible rfl); try simp only [Act.put, List.setIfInBounds_toArray, List.set_cons_zero, List.set_cons_succ]
      refine wpAnyH_done (by kernel_rfl) ?_ _
      go_wp2_with fail
      go_meet
      case rel => exact ⟨_, rfl, rfl, setRow_blkH (by first | exact Later.blk hwx ((Blk.new w4 101 #[.int .i64 0, .int .i64 0, .int .u8 0]).drewN 1) | exact Later.blk hwx (Blk.new _ 101 #[.int .i64 0, .int .i64 0, .int .u8 0]) | exact Blk.new _ _ _), by repeat (first | exact Later.rfl | exact hwq | refine Later.drew ?_ | refine Later.alloc ?_ _ | refine later_setrow4 ?_ (by first | exact Nat.le_refl _ | exact hwq.size))⟩
     exact AllReadyH.nil
    exact AllReadyH.nil
   exact AllReadyH.nil
  case rest =>
   obtain ⟨gq, rfl, rfl, hq5, hl5⟩ := hcut
   rename World => w5
   clear hq5 Hrd HS10
   have Hb5 := hide (Hb4.out.later hl5)
   have Hm5 := hide (Later.blk hl5 Hm4.out)
   have HZ5 := hide (Later.blk hl5 HZ4.out)
   have HO5 := hide (HO4.out.trans' (later_only hl5) (fun _ _ h => h.elim))
   have HP5 := hide (HP4.out.only (later_only hl5) (fun _ h => h.elim))
   have hs5z : W.heap.size + 1 + 1 ≤ w5.heap.size := Nat.le_trans hs4z (hl5).size
   clear Hb4 Hm4 HZ4 HO4 HP4 hs4z
   clear hl5
   have Htk := hide (show takeP s m = (s2, 4) from by unfold takeP; rw [if_neg (by rw [Hq0.out.1]; exact fun h => h rfl), Hs2.out, if_neg (by have h := Hl9.out; rw [Hs2.out] at h; simpa using h), if_neg (fun h => h Hqp.out), if_neg (fun h => h Hqs.out), Hx.out])
   have HRp := hide (hreply_any B h (s2) A cp ad v s.lines w5 Hb5.out Hok2.out (HP5.out).at_ 4)
   obtain ⟨tx, htx⟩ : ∃ tx, bytes (textL (s2).p) = tx := ⟨_, rfl⟩
   obtain ⟨op, hop⟩ : ∃ op, outP (s2) = op := ⟨_, rfl⟩
   rw [htx, hop] at HRp
   have Htx := hide htx
   have Hop := hide hop
   clear htx hop
   go_wp2_with (go_at_call 60; refine HRp.out.mono ?_; rintro e w9 ⟨rfl, hw9⟩; have HZ9 := hide (Later.blk hw9 HZ5.out); have Hw9 := hide hw9; clear hw9; obtain ⟨z0, z1, z2, z3⟩ := (show _ ∧ _ ∧ _ ∧ _ from ⟨HZ9.out.cellv (i := 0) rfl, HZ9.out.cellv (i := 1) rfl, HZ9.out.cellv (i := 2) rfl, HZ9.out.cellv (i := 3) rfl⟩); have zf0 := HZ9.out.free 0; have zf1 := HZ9.out.free 1; have zf2 := HZ9.out.free 2; have zf3 := HZ9.out.free 3)
   have HZf := hide (Blk.set_ (Blk.set_ (Blk.set_ (Blk.set_ HZ9.out 0 (.int .i64 4)) 1 (.int .i64 (s2).ply)) 2 (.int .i64 op)) 3 (.string tx))
   have Hof := hide (show Only (fun x => x = W.heap.size + 1) w9 ((((w9.setCell ⟨W.heap.size + 1, 0, none⟩ (.int .i64 4)).setCell ⟨W.heap.size + 1, 1, none⟩ (.int .i64 (s2).ply)).setCell ⟨W.heap.size + 1, 2, none⟩ (.int .i64 op)).setCell ⟨W.heap.size + 1, 3, none⟩ (.string tx)) from ((((Only.refl (fun x => x = W.heap.size + 1) w9).setCell (p := ⟨W.heap.size + 1, 0, none⟩) (.inl rfl) _).setCell (p := ⟨W.heap.size + 1, 1, none⟩) (.inl rfl) _).setCell (p := ⟨W.heap.size + 1, 2, none⟩) (.inl rfl) _).setCell (p := ⟨W.heap.size + 1, 3, none⟩) (.inl rfl) _)
   clear z0 z1 z2 z3 zf0 zf1 zf2 zf3
   obtain ⟨q0, q1, q2, q3⟩ := (show _ ∧ _ ∧ _ ∧ _ from ⟨HZf.out.cellv (i := 0) rfl, HZf.out.cellv (i := 1) rfl, HZf.out.cellv (i := 2) rfl, HZf.out.cellv (i := 3) rfl⟩)
   refine bodyPost_ret (v := .agg #[.int .i64 4, .int .i64 (s2).ply, .int .i64 op, .string tx]) (by simp [results, Tryz.results23, go_sem, q0, q1, q2, q3]) rfl ⟨ad, v, by rw [Htk.out, ← Htx.out, ← Hop.out]; rfl, by rw [Htk.out]; simp only [He.out.2.2.2.2]; exact (Hb5.out.later Hw9.out).only Hof.out (by omega) (fun k hk e => by have := Hvl.out k hk; omega), .inl rfl, (HO5.out.trans' (later_only Hw9.out) (fun _ _ h => h.elim)).trans' Hof.out (fun i hi hs => by omega)⟩
 exact AllReadyH.nil
end Go.Proofs.YtcdfeaodfmfdnaaGreatDoor
