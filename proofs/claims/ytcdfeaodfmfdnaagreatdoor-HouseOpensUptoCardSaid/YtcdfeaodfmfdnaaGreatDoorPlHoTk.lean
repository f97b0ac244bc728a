/- (*house.House).Take: walked. -/
import Derived.Test.YtcdfeaodfmfdnaaGreatDoorPlTk
import Derived.Test.YtcdfeaodfmfdnaaGreatDoorPlHoOut
import Derived.Test.YtcdfeaodfmfdnaaGreatDoorPlTxM
import Derived.Test.YtcdfeaodfmfdnaaGreatDoorPlPcsMem
namespace Go.Proofs.YtcdfeaodfmfdnaaGreatDoor
open Go.RowKit

noncomputable def repV (q : HoD × Int) : Array Value := #[.int .i64 q.2, .int .i64 q.1.ply, .int .i64 (outP q.1), .string (bytes (textL q.1.p))]
/-- what Take answers and does -/
def TakeOut (B h : Nat) (s : HoD) (A : Option Addr) (cp : Nat) (v : Value) (m : MsgD) (W : World) (e : Ending) (w' : World) : Prop :=
 ∃ ad' v' : Value, e = .returned (.agg (repV (takeP s m))) ∧ HB w' B h (hoC (takeP s m).1 A cp ad' v') v' (takeP s m).1.lines ∧ (v'.ownBlock = v.ownBlock ∨ ∃ g, v'.ownBlock = some g ∧ W.heap.size ≤ g) ∧ Only (fun x => x = h ∨ v.ownBlock = some x) W w'
theorem pass_ok {s : HoD} {t : Int} (h : HoOk s) (hf : s.flag = 0) (ht : t ≤ 9223372036854775807) (hl : 0 ≤ leftP (passP s t)) : HoOk (passP s t) := by
 have h0 := h.open_ hf
 have h1 := h.now
 have h2 := h.nowb
 have h3 := h.b0
 have h4 := h.b1
 unfold passP at hl ⊢
 split
 ·
  rename_i q
  rw [if_pos q] at hl
  split
  ·
   rename_i q2
   rw [if_pos q2] at hl
   unfold leftP at hl
   simp only [q2, if_true] at hl
   exact ⟨h.of, by simp only; omega, ht, h.ply, h.plies, fun _ => ⟨hl, h0.2⟩, by simp only; omega, h4, h.flag, h.len⟩
  ·
   rename_i q2
   rw [if_neg q2] at hl
   unfold leftP at hl
   simp only [q2, if_false] at hl
   exact ⟨h.of, by simp only; omega, ht, h.ply, h.plies, fun _ => ⟨h0.1, hl⟩, h3, by simp only; omega, h.flag, h.len⟩
 ·
  exact h
theorem flag_ok {s : HoD} {t : Int} (h : HoOk s) (hf : s.flag = 0) (ht : t ≤ 9223372036854775807) : HoOk { passP s t with flag := 2 - (passP s t).p.turn } := by
 have h0 := h.open_ hf
 have h1 := h.now
 have h2 := h.nowb
 have h3 := h.b0
 have h4 := h.b1
 have t0 := h.of.pos.t0
 have t1 := h.of.pos.t1
 unfold passP
 split
 ·
  split
  ·
   exact ⟨h.of, by simp only; omega, ht, h.ply, h.plies, fun e => by simp only at e; omega, by simp only; omega, h4, by simp only; omega, h.len⟩
  ·
   exact ⟨h.of, by simp only; omega, ht, h.ply, h.plies, fun e => by simp only at e; omega, h3, by simp only; omega, by simp only; omega, h.len⟩
 ·
  exact ⟨h.of, h1, h2, h.ply, h.plies, fun e => by simp only at e; omega, h3, h4, by simp only; omega, h.len⟩
set_option maxHeartbeats 8000000 in
set_option maxRecDepth 100000 in
theorem htake_over (B h lo : Nat) (s : HoD) (A : Option Addr) (cp : Nat) (ad v : Value) (m : MsgD) (W : World) (hb : HB W B h (hoC s A cp ad v) v s.lines) (hok : HoOk s) (hP : PAt W (fun x => lo ≤ x ∧ x < h) A s.r.pieces) (q : outP s ≠ 0) :
  Calls Tryz.prog 23 #[.pointer (some ⟨h, 0, none⟩), .agg #[.int .i64 m.seat, .int .i64 m.ply, .string m.mv, .int .i64 m.at_]] W (TakeOut B h s A cp v m W) := by
 have Htk := hide (show takeP s m = (s, 5) from by unfold takeP; rw [if_pos q])
 have d : (outP s != 0) = true := by simpa using q
 clear q
 have HBd := hide hb
 have HPa := hide hP
 have Hok := hide hok
 have Hout := hide (fun w (hw : Later W w) => hout_any B h s A cp ad v s.lines w (hb.later hw) hok (hP.only (later_only hw) (fun _ h => h.elim)).at_)
 have Hl0 := hide (show Later W ((W.alloc (.cells #[.int .i64 m.seat, .int .i64 m.ply, .string m.mv, .int .i64 m.at_] 62)).alloc (.cells #[.int .i64 0, .int .i64 0, .int .i64 0, .string ⟨#[]⟩] 59)) from (Later.rfl.alloc _).alloc _)
 have Hm0 := hide (show Blk ((W.alloc (.cells #[.int .i64 m.seat, .int .i64 m.ply, .string m.mv, .int .i64 m.at_] 62)).alloc (.cells #[.int .i64 0, .int .i64 0, .int .i64 0, .string ⟨#[]⟩] 59)) W.heap.size 62 #[.int .i64 m.seat, .int .i64 m.ply, .string m.mv, .int .i64 m.at_] from (Blk.new W _ _).alloc _)
 have HZ0 := hide (show Blk ((W.alloc (.cells #[.int .i64 m.seat, .int .i64 m.ply, .string m.mv, .int .i64 m.at_] 62)).alloc (.cells #[.int .i64 0, .int .i64 0, .int .i64 0, .string ⟨#[]⟩] 59)) (W.heap.size + 1) 59 #[.int .i64 0, .int .i64 0, .int .i64 0, .string ⟨#[]⟩] from by
  have h := Blk.new (W.alloc (.cells #[.int .i64 m.seat, .int .i64 m.ply, .string m.mv, .int .i64 m.at_] 62)) 59 #[.int .i64 0, .int .i64 0, .int .i64 0, .string ⟨#[]⟩]
  rwa [World.size_alloc] at h)
 have hs0 : ((W.alloc (.cells #[.int .i64 m.seat, .int .i64 m.ply, .string m.mv, .int .i64 m.at_] 62)).alloc (.cells #[.int .i64 0, .int .i64 0, .int .i64 0, .string ⟨#[]⟩] 59)).heap.size = W.heap.size + 1 + 1 := by rw [World.size_alloc, World.size_alloc]
 have hhW : h < W.heap.size := hb.blk.lt
 have Hvl := hide (fun k (hk : v.ownBlock = some k) => (hb.own.lt k hk).2)
 clear hb hok hP
 go_enter Tryz.func23, Tryz.ntmps23
 go_upto_region 1 with (fail)
 obtain ⟨w0, hw0⟩ : ∃ w0, ((W.alloc (.cells #[.int .i64 m.seat, .int .i64 m.ply, .string m.mv, .int .i64 m.at_] 62)).alloc (.cells #[.int .i64 0, .int .i64 0, .int .i64 0, .string ⟨#[]⟩] 59)) = w0 := ⟨_, rfl⟩
 rw [hw0] at Hl0 Hm0 HZ0 hs0 ⊢
 clear hw0
 go_upto_region 2 with (go_at_call 59; refine (Hout.out _ Hl0.out).mono ?_; rintro e w1 ⟨rfl, hw1⟩)
 have Hl1 := hide (Hl0.out.trans hw1)
 have Hm1 := hide (Later.blk hw1 Hm0.out)
 have HZ1 := hide (Later.blk hw1 HZ0.out)
 have hs1 : W.heap.size + 1 + 1 ≤ w1.heap.size := by rw [← hs0]; exact hw1.size
 clear hw1 Hm0 HZ0 Hl0 hs0 Hout
 have HRp := hide (hreply_any B h (s) A cp ad v s.lines w1 (hide (HBd.out.later Hl1.out)).out Hok.out (HPa.out.only (later_only Hl1.out) (fun _ h => h.elim)).at_ 5)
 obtain ⟨tx, htx⟩ : ∃ tx, bytes (textL (s).p) = tx := ⟨_, rfl⟩
 obtain ⟨op, hop⟩ : ∃ op, outP (s) = op := ⟨_, rfl⟩
 rw [htx, hop] at HRp
 have Htx := hide htx
 have Hop := hide hop
 clear htx hop
 go_wp2_with (go_at_call 60; refine HRp.out.mono ?_; rintro e w9 ⟨rfl, hw9⟩; have HZ9 := hide (Later.blk hw9 HZ1.out); have Hw9 := hide hw9; clear hw9; obtain ⟨z0, z1, z2, z3⟩ := (show _ ∧ _ ∧ _ ∧ _ from ⟨HZ9.out.cellv (i := 0) rfl, HZ9.out.cellv (i := 1) rfl, HZ9.out.cellv (i := 2) rfl, HZ9.out.cellv (i := 3) rfl⟩); have zf0 := HZ9.out.free 0; have zf1 := HZ9.out.free 1; have zf2 := HZ9.out.free 2; have zf3 := HZ9.out.free 3)
 have HZf := hide (Blk.set_ (Blk.set_ (Blk.set_ (Blk.set_ HZ9.out 0 (.int .i64 5)) 1 (.int .i64 (s).ply)) 2 (.int .i64 op)) 3 (.string tx))
 have Hof := hide (show Only (fun x => x = W.heap.size + 1) w9 ((((w9.setCell ⟨W.heap.size + 1, 0, none⟩ (.int .i64 5)).setCell ⟨W.heap.size + 1, 1, none⟩ (.int .i64 (s).ply)).setCell ⟨W.heap.size + 1, 2, none⟩ (.int .i64 op)).setCell ⟨W.heap.size + 1, 3, none⟩ (.string tx)) from ((((Only.refl (fun x => x = W.heap.size + 1) w9).setCell (p := ⟨W.heap.size + 1, 0, none⟩) (.inl rfl) _).setCell (p := ⟨W.heap.size + 1, 1, none⟩) (.inl rfl) _).setCell (p := ⟨W.heap.size + 1, 2, none⟩) (.inl rfl) _).setCell (p := ⟨W.heap.size + 1, 3, none⟩) (.inl rfl) _)
 clear z0 z1 z2 z3 zf0 zf1 zf2 zf3
 obtain ⟨q0, q1, q2, q3⟩ := (show _ ∧ _ ∧ _ ∧ _ from ⟨HZf.out.cellv (i := 0) rfl, HZf.out.cellv (i := 1) rfl, HZf.out.cellv (i := 2) rfl, HZf.out.cellv (i := 3) rfl⟩)
 refine bodyPost_ret (v := .agg #[.int .i64 5, .int .i64 (s).ply, .int .i64 op, .string tx]) (by simp [results, Tryz.results23, go_sem, q0, q1, q2, q3]) rfl ⟨ad, v, by rw [Htk.out, ← Htx.out, ← Hop.out]; rfl, by rw [Htk.out]; exact ((hide (HBd.out.later Hl1.out)).out.later Hw9.out).only Hof.out (by omega) (fun k hk e => by have := Hvl.out k hk; omega), .inl rfl, (((later_only Hl1.out).mono (fun _ _ h => h.elim)).trans' (later_only Hw9.out) (fun _ _ h => h.elim)).trans' Hof.out (fun i hi hs => by omega)⟩
set_option maxHeartbeats 8000000 in
set_option maxRecDepth 100000 in
theorem htake_flag (B h lo : Nat) (s : HoD) (A : Option Addr) (cp : Nat) (ad v : Value) (m : MsgD) (W : World) (hb : HB W B h (hoC s A cp ad v) v s.lines) (hok : HoOk s) (hP : PAt W (fun x => lo ≤ x ∧ x < h) A s.r.pieces)  (hm0 : -9223372036854775808 ≤ m.at_) (hm1 : m.at_ ≤ 9223372036854775807) (q : outP s = 0) (ql : leftP (passP s m.at_) < 0) :
  Calls Tryz.prog 23 #[.pointer (some ⟨h, 0, none⟩), .agg #[.int .i64 m.seat, .int .i64 m.ply, .string m.mv, .int .i64 m.at_]] W (TakeOut B h s A cp v m W) := by
 obtain ⟨hfl, hen, hpl⟩ := out_open q hok
 have d : (outP s != 0) = false := by rw [q]; rfl
 have Hq0 := hide (And.intro q hfl)
 clear q hfl hen
 have HBd := hide hb
 have HPa := hide hP
 have Hok := hide hok
 have Hout := hide (fun w (hw : Later W w) => hout_any B h s A cp ad v s.lines w (hb.later hw) hok (hP.only (later_only hw) (fun _ h => h.elim)).at_)
 have Hl0 := hide (show Later W ((W.alloc (.cells #[.int .i64 m.seat, .int .i64 m.ply, .string m.mv, .int .i64 m.at_] 62)).alloc (.cells #[.int .i64 0, .int .i64 0, .int .i64 0, .string ⟨#[]⟩] 59)) from (Later.rfl.alloc _).alloc _)
 have Hm0 := hide (show Blk ((W.alloc (.cells #[.int .i64 m.seat, .int .i64 m.ply, .string m.mv, .int .i64 m.at_] 62)).alloc (.cells #[.int .i64 0, .int .i64 0, .int .i64 0, .string ⟨#[]⟩] 59)) W.heap.size 62 #[.int .i64 m.seat, .int .i64 m.ply, .string m.mv, .int .i64 m.at_] from (Blk.new W _ _).alloc _)
 have HZ0 := hide (show Blk ((W.alloc (.cells #[.int .i64 m.seat, .int .i64 m.ply, .string m.mv, .int .i64 m.at_] 62)).alloc (.cells #[.int .i64 0, .int .i64 0, .int .i64 0, .string ⟨#[]⟩] 59)) (W.heap.size + 1) 59 #[.int .i64 0, .int .i64 0, .int .i64 0, .string ⟨#[]⟩] from by
  have h := Blk.new (W.alloc (.cells #[.int .i64 m.seat, .int .i64 m.ply, .string m.mv, .int .i64 m.at_] 62)) 59 #[.int .i64 0, .int .i64 0, .int .i64 0, .string ⟨#[]⟩]
  rwa [World.size_alloc] at h)
 have hs0 : ((W.alloc (.cells #[.int .i64 m.seat, .int .i64 m.ply, .string m.mv, .int .i64 m.at_] 62)).alloc (.cells #[.int .i64 0, .int .i64 0, .int .i64 0, .string ⟨#[]⟩] 59)).heap.size = W.heap.size + 1 + 1 := by rw [World.size_alloc, World.size_alloc]
 have hhW : h < W.heap.size := hb.blk.lt
 have Hvl := hide (fun k (hk : v.ownBlock = some k) => (hb.own.lt k hk).2)
 clear hb hok hP
 go_enter Tryz.func23, Tryz.ntmps23
 go_upto_region 1 with (fail)
 obtain ⟨w0, hw0⟩ : ∃ w0, ((W.alloc (.cells #[.int .i64 m.seat, .int .i64 m.ply, .string m.mv, .int .i64 m.at_] 62)).alloc (.cells #[.int .i64 0, .int .i64 0, .int .i64 0, .string ⟨#[]⟩] 59)) = w0 := ⟨_, rfl⟩
 rw [hw0] at Hl0 Hm0 HZ0 hs0 ⊢
 clear hw0
 go_upto_region 3 with (go_at_call 59; refine (Hout.out _ Hl0.out).mono ?_; rintro e w1 ⟨rfl, hw1⟩)
 have Hl1 := hide (Hl0.out.trans hw1)
 have Hm1 := hide (Later.blk hw1 Hm0.out)
 have HZ1 := hide (Later.blk hw1 HZ0.out)
 have hs1 : W.heap.size + 1 + 1 ≤ w1.heap.size := by rw [← hs0]; exact hw1.size
 clear hw1 Hm0 HZ0 Hl0 hs0 Hout
 have hl : decide (0 ≤ leftP (passP s m.at_)) = false := by simpa using ql
 have ht : s.p.turn = 0 ∨ s.p.turn = 1 := by have := Hok.out.of.pos.t0; have := Hok.out.of.pos.t1; omega
 have Hps := hide (fun w (hw : Later w1 w) => hpass_any B h s A cp ad v s.lines m.at_ w (HBd.out.later (Hl1.out.trans hw)) ht Hok.out.now ⟨(Hok.out.open_ Hq0.out.2).1, Hok.out.b0.2⟩ ⟨(Hok.out.open_ Hq0.out.2).2, Hok.out.b1.2⟩ hm0 hm1)
 rw [hl] at Hps
 have Hl9 := hide hl
 obtain ⟨e_r, e_p, e_ply, e_fl, e_li, -, -⟩ := pass_same s m.at_
 obtain ⟨s2, hs2⟩ : ∃ s2, passP s m.at_ = s2 := ⟨_, rfl⟩
 rw [hs2] at Hps e_r e_p e_ply e_fl e_li
 have Hs2 := hide hs2
 have He := hide (And.intro e_r (And.intro e_p (And.intro e_ply (And.intro e_fl e_li))))
 have HS := hide (show ∀ w' : World, Later w1 w' → (w'.cell? ⟨W.heap.size, 3, none⟩ = some (.int .i64 m.at_) ∧ w'.cell? ⟨h, 19, none⟩ = some (.int .i64 s.p.turn)) from fun w' hw => by
  obtain ⟨_, _, _, p3, _⟩ := (HBd.out.later (Hl1.out.trans hw)).pos
  exact ⟨(Later.blk hw Hm1.out).cellv rfl, p3⟩)
 have HS2 := hide (show ∀ w' : World, HB w' B h (hoC s2 A cp ad v) v s.lines → Only (fun x => x = h) w1 w' → (w'.cell? ⟨W.heap.size, 3, none⟩ = some (.int .i64 m.at_) ∧ w'.cell? ⟨h, 19, none⟩ = some (.int .i64 s.p.turn)) from fun w' hb ho => by
  obtain ⟨_, _, _, p3, _⟩ := hb.pos
  rw [He.out.2.1] at p3
  exact ⟨(Hm1.out.only ho (by omega)).cellv rfl, p3⟩)
 clear hs2 hl ht ql e_r e_p e_ply e_fl e_li d
 refine wp_region_held_drew (S := fun w' : World => (w'.cell? ⟨W.heap.size, 3, none⟩ = some (.int .i64 m.at_) ∧ w'.cell? ⟨h, 19, none⟩ = some (.int .i64 s.p.turn))) (by kernel_rfl) (HS.out _ Later.rfl.drew) (fun hHeld => ?_)
 refine tk 0 (some 12) (v := ?_) ?_ ?_; rotate_left 1; (intro w hSw; (try dsimp only at hSw); go_simp <;> with_reducible rfl); try simp only [Act.put, List.setIfInBounds_toArray, List.set_cons_zero, List.set_cons_succ]
 refine tk 1 (some 13) (v := ?_) ?_ ?_; rotate_left 1; (intro w hSw; (try dsimp only at hSw); go_simp <;> with_reducible rfl); try simp only [Act.put, List.setIfInBounds_toArray, List.set_cons_zero, List.set_cons_succ]
 refine tk 2 (some 14) (v := ?_) ?_ ?_; rotate_left 1; (intro w hSw; (try dsimp only at hSw); go_simp <;> with_reducible rfl); try simp only [Act.put, List.setIfInBounds_toArray, List.set_cons_zero, List.set_cons_succ]
 refine tk 3 (some 15) (v := ?_) ?_ ?_; rotate_left 1; (intro w hSw; (try dsimp only at hSw); go_simp <;> with_reducible rfl); try simp only [Act.put, List.setIfInBounds_toArray, List.set_cons_zero, List.set_cons_succ]
 refine tk 4 (some 16) (v := ?_) ?_ ?_; rotate_left 1; (intro w hSw; (try dsimp only at hSw); go_simp <;> with_reducible rfl); try simp only [Act.put, List.setIfInBounds_toArray, List.set_cons_zero, List.set_cons_succ]
 refine tk 5 (some 17) (v := ?_) ?_ ?_; rotate_left 1; (intro w hSw; (try dsimp only at hSw); go_simp <;> with_reducible rfl); try simp only [Act.put, List.setIfInBounds_toArray, List.set_cons_zero, List.set_cons_succ]
 refine tk 6 (some 18) (v := ?_) ?_ ?_; rotate_left 1; (intro w hSw; (try dsimp only at hSw); go_simp <;> with_reducible rfl); try simp only [Act.put, List.setIfInBounds_toArray, List.set_cons_zero, List.set_cons_succ]
 refine tk 7 (some 19) (v := ?_) ?_ ?_; rotate_left 1; (intro w hSw; (try dsimp only at hSw); go_simp <;> with_reducible rfl); try simp only [Act.put, List.setIfInBounds_toArray, List.set_cons_zero, List.set_cons_succ]
 refine tk 8 (some 20) (v := ?_) ?_ ?_; rotate_left 1; (intro w hSw; (try dsimp only at hSw); go_simp <;> with_reducible rfl); try simp only [Act.put, List.setIfInBounds_toArray, List.set_cons_zero, List.set_cons_succ]
 refine tk 9 (some 21) (v := ?_) ?_ ?_; rotate_left 1; (intro w hSw; (try dsimp only at hSw); go_simp <;> with_reducible rfl); try simp only [Act.put, List.setIfInBounds_toArray, List.set_cons_zero, List.set_cons_succ]
 refine wpAnyH_ready (rs := [10]) (by kernel_rfl) (by simp) ?_
 refine AllReadyH.cons (o := ⟨some 22, _, _, _, _, _⟩) rfl (fun K hK => ?_) ?_
 ·
  clear hHeld
  go_simp
  go_at_call 61
  refine (Hps.out _ (by repeat (first | exact Later.rfl | refine Later.drew ?_))).mono ?_
  rintro e w2 ⟨rfl, hb2, ho2⟩
  have Hb2 := hide hb2
  have Ho2 := hide (show Only (fun x => x = h) w1 w2 from ((Only.refl (fun x => x = h) w1).drew).trans ho2)
  have Hk2 := hide (HS2.out w2 hb2 Ho2.out)
  clear hb2 ho2
  try go_wp2_with fail
  refine hK.out _ _ (by first | exact Hk2.out | (refine HS.out _ ?_; repeat (first | exact Later.rfl | refine Later.drew ?_))) (fun hHeld => ?_)
  clear hK K
  try simp only [Act.put, List.setIfInBounds_toArray, List.set_cons_zero, List.set_cons_succ]
  refine tk 11 (some 23) (v := ?_) ?_ ?_; rotate_left 1; (intro w hSw; (try dsimp only at hSw); go_simp <;> with_reducible rfl); try simp only [Act.put, List.setIfInBounds_toArray, List.set_cons_zero, List.set_cons_succ]
  refine wpAnyH_done (by kernel_rfl) ?_ _
  have Hm2 := hide (Hm1.out.only Ho2.out (by omega))
  have HZ2 := hide (HZ1.out.only Ho2.out (by omega))
  have hs2z : W.heap.size + 1 + 1 ≤ w2.heap.size := Nat.le_trans hs1 Ho2.out.size
  have HO2 := hide (show Only (fun x => x = h ∨ v.ownBlock = some x) W w2 from ((later_only Hl1.out).mono (fun _ _ h => h.elim)).trans' Ho2.out (fun _ _ h => .inl h))
  have HPb := hide (show PAt w2 (fun x => lo ≤ x ∧ x < h) A s2.r.pieces from by rw [He.out.1]; exact (HPa.out.only (later_only Hl1.out) (fun _ h => h.elim)).only Ho2.out (fun k hk hq => by omega))
  clear HS HS2 Hps Hk2 hHeld Ho2 HZ1 Hm1 hs1 Hl1 HPa HBd
  have Hok3 := hide (show HoOk { s2 with flag := 2 - s2.p.turn } from by rw [← Hs2.out]; exact flag_ok Hok.out Hq0.out.2 hm1)
  obtain ⟨p0, p1, p2, p3, p4, p5⟩ := Hb2.out.pos
  obtain ⟨-, t1, -, -⟩ := Hb2.out.rest
  have xf := Hb2.out.blk.free 23
  have tw : IntKind.i64.wrap (2 - s2.p.turn) = 2 - s2.p.turn := IntWalk.i64_in _ (by have := Hok3.out.flag; simp only at this; omega)
  go_upto_region 5 with (fail)
  have Hb3 := hide (show HB (w2.setCell ⟨h, 23, none⟩ (.int .i64 (2 - s2.p.turn))) B h (hoC { s2 with flag := 2 - s2.p.turn } A cp ad v) v s.lines from Hb2.out.set_ 23 (by omega) _)
  have hst : Only (fun x => x = h) w2 (w2.setCell ⟨h, 23, none⟩ (.int .i64 (2 - s2.p.turn))) := (Only.refl (fun x => x = h) w2).setCell (p := ⟨h, 23, none⟩) (.inl rfl) _
  have HO3 := hide (HO2.out.trans' hst (fun _ _ h => .inl h))
  have HZ3 := hide (HZ2.out.only hst (by omega))
  have hs3z : W.heap.size + 1 + 1 ≤ (w2.setCell ⟨h, 23, none⟩ (.int .i64 (2 - s2.p.turn))).heap.size := Nat.le_trans hs2z hst.size
  have HPc := hide (HPb.out.only hst (fun k hk hq => by omega))
  obtain ⟨w3, hw3⟩ : ∃ w3, w2.setCell ⟨h, 23, none⟩ (.int .i64 (2 - s2.p.turn)) = w3 := ⟨_, rfl⟩
  rw [hw3] at Hb3 HO3 HZ3 hs3z HPc ⊢
  clear hw3 hst p0 p1 p2 p3 p4 p5 t1 xf tw Hb2 HO2 HZ2 HPb Hm2 hs2z
  have Htk := hide (show takeP s m = ({ s2 with flag := 2 - s2.p.turn }, 5) from by unfold takeP; rw [if_neg (by rw [Hq0.out.1]; exact fun h => h rfl), Hs2.out, if_pos (by have h := Hl9.out; rw [Hs2.out] at h; simpa using h), show s.p.turn = s2.p.turn from by rw [He.out.2.1]])
  have HRp := hide (hreply_any B h ({ s2 with flag := 2 - s2.p.turn }) A cp ad v s.lines w3 Hb3.out Hok3.out (HPc.out).at_ 5)
  obtain ⟨tx, htx⟩ : ∃ tx, bytes (textL ({ s2 with flag := 2 - s2.p.turn }).p) = tx := ⟨_, rfl⟩
  obtain ⟨op, hop⟩ : ∃ op, outP ({ s2 with flag := 2 - s2.p.turn }) = op := ⟨_, rfl⟩
  rw [htx, hop] at HRp
  have Htx := hide htx
  have Hop := hide hop
  clear htx hop
  go_wp2_with (go_at_call 60; refine HRp.out.mono ?_; rintro e w9 ⟨rfl, hw9⟩; have HZ9 := hide (Later.blk hw9 HZ3.out); have Hw9 := hide hw9; clear hw9; obtain ⟨z0, z1, z2, z3⟩ := (show _ ∧ _ ∧ _ ∧ _ from ⟨HZ9.out.cellv (i := 0) rfl, HZ9.out.cellv (i := 1) rfl, HZ9.out.cellv (i := 2) rfl, HZ9.out.cellv (i := 3) rfl⟩); have zf0 := HZ9.out.free 0; have zf1 := HZ9.out.free 1; have zf2 := HZ9.out.free 2; have zf3 := HZ9.out.free 3)
  have HZf := hide (Blk.set_ (Blk.set_ (Blk.set_ (Blk.set_ HZ9.out 0 (.int .i64 5)) 1 (.int .i64 ({ s2 with flag := 2 - s2.p.turn }).ply)) 2 (.int .i64 op)) 3 (.string tx))
  have Hof := hide (show Only (fun x => x = W.heap.size + 1) w9 ((((w9.setCell ⟨W.heap.size + 1, 0, none⟩ (.int .i64 5)).setCell ⟨W.heap.size + 1, 1, none⟩ (.int .i64 ({ s2 with flag := 2 - s2.p.turn }).ply)).setCell ⟨W.heap.size + 1, 2, none⟩ (.int .i64 op)).setCell ⟨W.heap.size + 1, 3, none⟩ (.string tx)) from ((((Only.refl (fun x => x = W.heap.size + 1) w9).setCell (p := ⟨W.heap.size + 1, 0, none⟩) (.inl rfl) _).setCell (p := ⟨W.heap.size + 1, 1, none⟩) (.inl rfl) _).setCell (p := ⟨W.heap.size + 1, 2, none⟩) (.inl rfl) _).setCell (p := ⟨W.heap.size + 1, 3, none⟩) (.inl rfl) _)
  clear z0 z1 z2 z3 zf0 zf1 zf2 zf3
  obtain ⟨q0, q1, q2, q3⟩ := (show _ ∧ _ ∧ _ ∧ _ from ⟨HZf.out.cellv (i := 0) rfl, HZf.out.cellv (i := 1) rfl, HZf.out.cellv (i := 2) rfl, HZf.out.cellv (i := 3) rfl⟩)
  refine bodyPost_ret (v := .agg #[.int .i64 5, .int .i64 ({ s2 with flag := 2 - s2.p.turn }).ply, .int .i64 op, .string tx]) (by simp [results, Tryz.results23, go_sem, q0, q1, q2, q3]) rfl ⟨ad, v, by rw [Htk.out, ← Htx.out, ← Hop.out]; rfl, by rw [Htk.out]; simp only [He.out.2.2.2.2]; exact (Hb3.out.later Hw9.out).only Hof.out (by omega) (fun k hk e => by have := Hvl.out k hk; omega), .inl rfl, (HO3.out.trans' (later_only Hw9.out) (fun _ _ h => h.elim)).trans' Hof.out (fun i hi hs => by omega)⟩
 exact AllReadyH.nil
set_option maxHeartbeats 8000000 in
set_option maxRecDepth 100000 in
theorem htake_stale (B h lo : Nat) (s : HoD) (A : Option Addr) (cp : Nat) (ad v : Value) (m : MsgD) (W : World) (hb : HB W B h (hoC s A cp ad v) v s.lines) (hok : HoOk s) (hP : PAt W (fun x => lo ≤ x ∧ x < h) A s.r.pieces)  (hm0 : -9223372036854775808 ≤ m.at_) (hm1 : m.at_ ≤ 9223372036854775807) (q : outP s = 0) (ql : 0 ≤ leftP (passP s m.at_)) (qp : m.ply ≠ s.ply) :
  Calls Tryz.prog 23 #[.pointer (some ⟨h, 0, none⟩), .agg #[.int .i64 m.seat, .int .i64 m.ply, .string m.mv, .int .i64 m.at_]] W (TakeOut B h s A cp v m W) := by
 have Hqp := hide qp
 clear qp
 obtain ⟨hfl, hen, hpl⟩ := out_open q hok
 have d : (outP s != 0) = false := by rw [q]; rfl
 have Hq0 := hide (And.intro q hfl)
 clear q hfl hen
 have HBd := hide hb
 have HPa := hide hP
 have Hok := hide hok
 have Hout := hide (fun w (hw : Later W w) => hout_any B h s A cp ad v s.lines w (hb.later hw) hok (hP.only (later_only hw) (fun _ h => h.elim)).at_)
 have Hl0 := hide (show Later W ((W.alloc (.cells #[.int .i64 m.seat, .int .i64 m.ply, .string m.mv, .int .i64 m.at_] 62)).alloc (.cells #[.int .i64 0, .int .i64 0, .int .i64 0, .string ⟨#[]⟩] 59)) from (Later.rfl.alloc _).alloc _)
 have Hm0 := hide (show Blk ((W.alloc (.cells #[.int .i64 m.seat, .int .i64 m.ply, .string m.mv, .int .i64 m.at_] 62)).alloc (.cells #[.int .i64 0, .int .i64 0, .int .i64 0, .string ⟨#[]⟩] 59)) W.heap.size 62 #[.int .i64 m.seat, .int .i64 m.ply, .string m.mv, .int .i64 m.at_] from (Blk.new W _ _).alloc _)
 have HZ0 := hide (show Blk ((W.alloc (.cells #[.int .i64 m.seat, .int .i64 m.ply, .string m.mv, .int .i64 m.at_] 62)).alloc (.cells #[.int .i64 0, .int .i64 0, .int .i64 0, .string ⟨#[]⟩] 59)) (W.heap.size + 1) 59 #[.int .i64 0, .int .i64 0, .int .i64 0, .string ⟨#[]⟩] from by
  have h := Blk.new (W.alloc (.cells #[.int .i64 m.seat, .int .i64 m.ply, .string m.mv, .int .i64 m.at_] 62)) 59 #[.int .i64 0, .int .i64 0, .int .i64 0, .string ⟨#[]⟩]
  rwa [World.size_alloc] at h)
 have hs0 : ((W.alloc (.cells #[.int .i64 m.seat, .int .i64 m.ply, .string m.mv, .int .i64 m.at_] 62)).alloc (.cells #[.int .i64 0, .int .i64 0, .int .i64 0, .string ⟨#[]⟩] 59)).heap.size = W.heap.size + 1 + 1 := by rw [World.size_alloc, World.size_alloc]
 have hhW : h < W.heap.size := hb.blk.lt
 have Hvl := hide (fun k (hk : v.ownBlock = some k) => (hb.own.lt k hk).2)
 clear hb hok hP
 go_enter Tryz.func23, Tryz.ntmps23
 go_upto_region 1 with (fail)
 obtain ⟨w0, hw0⟩ : ∃ w0, ((W.alloc (.cells #[.int .i64 m.seat, .int .i64 m.ply, .string m.mv, .int .i64 m.at_] 62)).alloc (.cells #[.int .i64 0, .int .i64 0, .int .i64 0, .string ⟨#[]⟩] 59)) = w0 := ⟨_, rfl⟩
 rw [hw0] at Hl0 Hm0 HZ0 hs0 ⊢
 clear hw0
 go_upto_region 3 with (go_at_call 59; refine (Hout.out _ Hl0.out).mono ?_; rintro e w1 ⟨rfl, hw1⟩)
 have Hl1 := hide (Hl0.out.trans hw1)
 have Hm1 := hide (Later.blk hw1 Hm0.out)
 have HZ1 := hide (Later.blk hw1 HZ0.out)
 have hs1 : W.heap.size + 1 + 1 ≤ w1.heap.size := by rw [← hs0]; exact hw1.size
 clear hw1 Hm0 HZ0 Hl0 hs0 Hout
 have hl : decide (0 ≤ leftP (passP s m.at_)) = true := by simpa using ql
 have ht : s.p.turn = 0 ∨ s.p.turn = 1 := by have := Hok.out.of.pos.t0; have := Hok.out.of.pos.t1; omega
 have Hps := hide (fun w (hw : Later w1 w) => hpass_any B h s A cp ad v s.lines m.at_ w (HBd.out.later (Hl1.out.trans hw)) ht Hok.out.now ⟨(Hok.out.open_ Hq0.out.2).1, Hok.out.b0.2⟩ ⟨(Hok.out.open_ Hq0.out.2).2, Hok.out.b1.2⟩ hm0 hm1)
 rw [hl] at Hps
 have Hl9 := hide hl
 obtain ⟨e_r, e_p, e_ply, e_fl, e_li, -, -⟩ := pass_same s m.at_
 obtain ⟨s2, hs2⟩ : ∃ s2, passP s m.at_ = s2 := ⟨_, rfl⟩
 rw [hs2] at Hps e_r e_p e_ply e_fl e_li
 have Hs2 := hide hs2
 have He := hide (And.intro e_r (And.intro e_p (And.intro e_ply (And.intro e_fl e_li))))
 have HS := hide (show ∀ w' : World, Later w1 w' → (w'.cell? ⟨W.heap.size, 3, none⟩ = some (.int .i64 m.at_) ∧ w'.cell? ⟨h, 19, none⟩ = some (.int .i64 s.p.turn)) from fun w' hw => by
  obtain ⟨_, _, _, p3, _⟩ := (HBd.out.later (Hl1.out.trans hw)).pos
  exact ⟨(Later.blk hw Hm1.out).cellv rfl, p3⟩)
 have HS2 := hide (show ∀ w' : World, HB w' B h (hoC s2 A cp ad v) v s.lines → Only (fun x => x = h) w1 w' → (w'.cell? ⟨W.heap.size, 3, none⟩ = some (.int .i64 m.at_) ∧ w'.cell? ⟨h, 19, none⟩ = some (.int .i64 s.p.turn)) from fun w' hb ho => by
  obtain ⟨_, _, _, p3, _⟩ := hb.pos
  rw [He.out.2.1] at p3
  exact ⟨(Hm1.out.only ho (by omega)).cellv rfl, p3⟩)
 clear hs2 hl ht ql e_r e_p e_ply e_fl e_li d
 refine wp_region_held_drew (S := fun w' : World => (w'.cell? ⟨W.heap.size, 3, none⟩ = some (.int .i64 m.at_) ∧ w'.cell? ⟨h, 19, none⟩ = some (.int .i64 s.p.turn))) (by kernel_rfl) (HS.out _ Later.rfl.drew) (fun hHeld => ?_)
 refine tk 0 (some 12) (v := ?_) ?_ ?_; rotate_left 1; (intro w hSw; (try dsimp only at hSw); go_simp <;> with_reducible rfl); try simp only [Act.put, List.setIfInBounds_toArray, List.set_cons_zero, List.set_cons_succ]
 refine tk 1 (some 13) (v := ?_) ?_ ?_; rotate_left 1; (intro w hSw; (try dsimp only at hSw); go_simp <;> with_reducible rfl); try simp only [Act.put, List.setIfInBounds_toArray, List.set_cons_zero, List.set_cons_succ]
 refine tk 2 (some 14) (v := ?_) ?_ ?_; rotate_left 1; (intro w hSw; (try dsimp only at hSw); go_simp <;> with_reducible rfl); try simp only [Act.put, List.setIfInBounds_toArray, List.set_cons_zero, List.set_cons_succ]
 refine tk 3 (some 15) (v := ?_) ?_ ?_; rotate_left 1; (intro w hSw; (try dsimp only at hSw); go_simp <;> with_reducible rfl); try simp only [Act.put, List.setIfInBounds_toArray, List.set_cons_zero, List.set_cons_succ]
 refine tk 4 (some 16) (v := ?_) ?_ ?_; rotate_left 1; (intro w hSw; (try dsimp only at hSw); go_simp <;> with_reducible rfl); try simp only [Act.put, List.setIfInBounds_toArray, List.set_cons_zero, List.set_cons_succ]
 refine tk 5 (some 17) (v := ?_) ?_ ?_; rotate_left 1; (intro w hSw; (try dsimp only at hSw); go_simp <;> with_reducible rfl); try simp only [Act.put, List.setIfInBounds_toArray, List.set_cons_zero, List.set_cons_succ]
 refine tk 6 (some 18) (v := ?_) ?_ ?_; rotate_left 1; (intro w hSw; (try dsimp only at hSw); go_simp <;> with_reducible rfl); try simp only [Act.put, List.setIfInBounds_toArray, List.set_cons_zero, List.set_cons_succ]
 refine tk 7 (some 19) (v := ?_) ?_ ?_; rotate_left 1; (intro w hSw; (try dsimp only at hSw); go_simp <;> with_reducible rfl); try simp only [Act.put, List.setIfInBounds_toArray, List.set_cons_zero, List.set_cons_succ]
 refine tk 8 (some 20) (v := ?_) ?_ ?_; rotate_left 1; (intro w hSw; (try dsimp only at hSw); go_simp <;> with_reducible rfl); try simp only [Act.put, List.setIfInBounds_toArray, List.set_cons_zero, List.set_cons_succ]
 refine tk 9 (some 21) (v := ?_) ?_ ?_; rotate_left 1; (intro w hSw; (try dsimp only at hSw); go_simp <;> with_reducible rfl); try simp only [Act.put, List.setIfInBounds_toArray, List.set_cons_zero, List.set_cons_succ]
 refine wpAnyH_ready (rs := [10]) (by kernel_rfl) (by simp) ?_
 refine AllReadyH.cons (o := ⟨some 22, _, _, _, _, _⟩) rfl (fun K hK => ?_) ?_
 ·
  clear hHeld
  go_simp
  go_at_call 61
  refine (Hps.out _ (by repeat (first | exact Later.rfl | refine Later.drew ?_))).mono ?_
  rintro e w2 ⟨rfl, hb2, ho2⟩
  have Hb2 := hide hb2
  have Ho2 := hide (show Only (fun x => x = h) w1 w2 from ((Only.refl (fun x => x = h) w1).drew).trans ho2)
  have Hk2 := hide (HS2.out w2 hb2 Ho2.out)
  clear hb2 ho2
  try go_wp2_with fail
  refine hK.out _ _ (by first | exact Hk2.out | (refine HS.out _ ?_; repeat (first | exact Later.rfl | refine Later.drew ?_))) (fun hHeld => ?_)
  clear hK K
  try simp only [Act.put, List.setIfInBounds_toArray, List.set_cons_zero, List.set_cons_succ]
  refine tk 11 (some 23) (v := ?_) ?_ ?_; rotate_left 1; (intro w hSw; (try dsimp only at hSw); go_simp <;> with_reducible rfl); try simp only [Act.put, List.setIfInBounds_toArray, List.set_cons_zero, List.set_cons_succ]
  refine wpAnyH_done (by kernel_rfl) ?_ _
  have Hm2 := hide (Hm1.out.only Ho2.out (by omega))
  have HZ2 := hide (HZ1.out.only Ho2.out (by omega))
  have hs2z : W.heap.size + 1 + 1 ≤ w2.heap.size := Nat.le_trans hs1 Ho2.out.size
  have HO2 := hide (show Only (fun x => x = h ∨ v.ownBlock = some x) W w2 from ((later_only Hl1.out).mono (fun _ _ h => h.elim)).trans' Ho2.out (fun _ _ h => .inl h))
  have HPb := hide (show PAt w2 (fun x => lo ≤ x ∧ x < h) A s2.r.pieces from by rw [He.out.1]; exact (HPa.out.only (later_only Hl1.out) (fun _ h => h.elim)).only Ho2.out (fun k hk hq => by omega))
  clear HS HS2 Hps Hk2 hHeld Ho2 HZ1 Hm1 hs1 Hl1 HPa HBd
  have Hok2 := hide (show HoOk s2 from by rw [← Hs2.out]; exact pass_ok Hok.out Hq0.out.2 hm1 (by have h := Hl9.out; simpa using h))
  have HP2 := HPb
  clear HPb
  obtain ⟨t0, -, -, -⟩ := Hb2.out.rest
  obtain ⟨-, -, -, p3, -, -⟩ := Hb2.out.pos
  obtain ⟨m0, m1, m2, m3⟩ := (show _ ∧ _ ∧ _ ∧ _ from ⟨Hm2.out.cellv (i := 0) rfl, Hm2.out.cellv (i := 1) rfl, Hm2.out.cellv (i := 2) rfl, Hm2.out.cellv (i := 3) rfl⟩)
  have d6 : (m.ply != s2.ply) = true := by rw [He.out.2.2.1]; simpa using Hqp.out
  go_upto_region 6 with (fail)
  go_quiet (fail)
  obtain ⟨w3, hw3⟩ : ∃ w3, w2.drewN nq = w3 := ⟨_, rfl⟩
  have hl3 : Later w2 w3 := by rw [← hw3]; exact Later.rfl.drewN _
  rw [hw3]
  have Hb3 := hide (Hb2.out.later hl3)
  have Hm3 := hide (Later.blk hl3 Hm2.out)
  have HZ3 := hide (Later.blk hl3 HZ2.out)
  have HO3 := hide (HO2.out.trans' (later_only hl3) (fun _ _ h => h.elim))
  have HP3 := hide (HP2.out.only (later_only hl3) (fun _ h => h.elim))
  have hs3z : W.heap.size + 1 + 1 ≤ w3.heap.size := Nat.le_trans hs2z (hl3).size
  clear Hb2 Hm2 HZ2 HO2 HP2 hs2z
  clear hw3 hl3 t0 p3 m0 m1 m2 m3
  have Htk := hide (show takeP s m = (s2, 2) from by unfold takeP; rw [if_neg (by rw [Hq0.out.1]; exact fun h => h rfl), Hs2.out, if_neg (by have h := Hl9.out; rw [Hs2.out] at h; simpa using h), if_pos Hqp.out])
  have HRp := hide (hreply_any B h (s2) A cp ad v s.lines w3 Hb3.out Hok2.out (HP3.out).at_ 2)
  obtain ⟨tx, htx⟩ : ∃ tx, bytes (textL (s2).p) = tx := ⟨_, rfl⟩
  obtain ⟨op, hop⟩ : ∃ op, outP (s2) = op := ⟨_, rfl⟩
  rw [htx, hop] at HRp
  have Htx := hide htx
  have Hop := hide hop
  clear htx hop
  go_wp2_with (go_at_call 60; refine HRp.out.mono ?_; rintro e w9 ⟨rfl, hw9⟩; have HZ9 := hide (Later.blk hw9 HZ3.out); have Hw9 := hide hw9; clear hw9; obtain ⟨z0, z1, z2, z3⟩ := (show _ ∧ _ ∧ _ ∧ _ from ⟨HZ9.out.cellv (i := 0) rfl, HZ9.out.cellv (i := 1) rfl, HZ9.out.cellv (i := 2) rfl, HZ9.out.cellv (i := 3) rfl⟩); have zf0 := HZ9.out.free 0; have zf1 := HZ9.out.free 1; have zf2 := HZ9.out.free 2; have zf3 := HZ9.out.free 3)
  have HZf := hide (Blk.set_ (Blk.set_ (Blk.set_ (Blk.set_ HZ9.out 0 (.int .i64 2)) 1 (.int .i64 (s2).ply)) 2 (.int .i64 op)) 3 (.string tx))
  have Hof := hide (show Only (fun x => x = W.heap.size + 1) w9 ((((w9.setCell ⟨W.heap.size + 1, 0, none⟩ (.int .i64 2)).setCell ⟨W.heap.size + 1, 1, none⟩ (.int .i64 (s2).ply)).setCell ⟨W.heap.size + 1, 2, none⟩ (.int .i64 op)).setCell ⟨W.heap.size + 1, 3, none⟩ (.string tx)) from ((((Only.refl (fun x => x = W.heap.size + 1) w9).setCell (p := ⟨W.heap.size + 1, 0, none⟩) (.inl rfl) _).setCell (p := ⟨W.heap.size + 1, 1, none⟩) (.inl rfl) _).setCell (p := ⟨W.heap.size + 1, 2, none⟩) (.inl rfl) _).setCell (p := ⟨W.heap.size + 1, 3, none⟩) (.inl rfl) _)
  clear z0 z1 z2 z3 zf0 zf1 zf2 zf3
  obtain ⟨q0, q1, q2, q3⟩ := (show _ ∧ _ ∧ _ ∧ _ from ⟨HZf.out.cellv (i := 0) rfl, HZf.out.cellv (i := 1) rfl, HZf.out.cellv (i := 2) rfl, HZf.out.cellv (i := 3) rfl⟩)
  refine bodyPost_ret (v := .agg #[.int .i64 2, .int .i64 (s2).ply, .int .i64 op, .string tx]) (by simp [results, Tryz.results23, go_sem, q0, q1, q2, q3]) rfl ⟨ad, v, by rw [Htk.out, ← Htx.out, ← Hop.out]; rfl, by rw [Htk.out]; simp only [He.out.2.2.2.2]; exact (Hb3.out.later Hw9.out).only Hof.out (by omega) (fun k hk e => by have := Hvl.out k hk; omega), .inl rfl, (HO3.out.trans' (later_only Hw9.out) (fun _ _ h => h.elim)).trans' Hof.out (fun i hi hs => by omega)⟩
 exact AllReadyH.nil
set_option maxHeartbeats 8000000 in
set_option maxRecDepth 100000 in
theorem htake_wait (B h lo : Nat) (s : HoD) (A : Option Addr) (cp : Nat) (ad v : Value) (m : MsgD) (W : World) (hb : HB W B h (hoC s A cp ad v) v s.lines) (hok : HoOk s) (hP : PAt W (fun x => lo ≤ x ∧ x < h) A s.r.pieces)  (hm0 : -9223372036854775808 ≤ m.at_) (hm1 : m.at_ ≤ 9223372036854775807) (q : outP s = 0) (ql : 0 ≤ leftP (passP s m.at_)) (qp : m.ply = s.ply) (qs : m.seat ≠ s.p.turn) :
  Calls Tryz.prog 23 #[.pointer (some ⟨h, 0, none⟩), .agg #[.int .i64 m.seat, .int .i64 m.ply, .string m.mv, .int .i64 m.at_]] W (TakeOut B h s A cp v m W) := by
 have Hqp := hide qp
 have Hqs := hide qs
 clear qp qs
 obtain ⟨hfl, hen, hpl⟩ := out_open q hok
 have d : (outP s != 0) = false := by rw [q]; rfl
 have Hq0 := hide (And.intro q hfl)
 clear q hfl hen
 have HBd := hide hb
 have HPa := hide hP
 have Hok := hide hok
 have Hout := hide (fun w (hw : Later W w) => hout_any B h s A cp ad v s.lines w (hb.later hw) hok (hP.only (later_only hw) (fun _ h => h.elim)).at_)
 have Hl0 := hide (show Later W ((W.alloc (.cells #[.int .i64 m.seat, .int .i64 m.ply, .string m.mv, .int .i64 m.at_] 62)).alloc (.cells #[.int .i64 0, .int .i64 0, .int .i64 0, .string ⟨#[]⟩] 59)) from (Later.rfl.alloc _).alloc _)
 have Hm0 := hide (show Blk ((W.alloc (.cells #[.int .i64 m.seat, .int .i64 m.ply, .string m.mv, .int .i64 m.at_] 62)).alloc (.cells #[.int .i64 0, .int .i64 0, .int .i64 0, .string ⟨#[]⟩] 59)) W.heap.size 62 #[.int .i64 m.seat, .int .i64 m.ply, .string m.mv, .int .i64 m.at_] from (Blk.new W _ _).alloc _)
 have HZ0 := hide (show Blk ((W.alloc (.cells #[.int .i64 m.seat, .int .i64 m.ply, .string m.mv, .int .i64 m.at_] 62)).alloc (.cells #[.int .i64 0, .int .i64 0, .int .i64 0, .string ⟨#[]⟩] 59)) (W.heap.size + 1) 59 #[.int .i64 0, .int .i64 0, .int .i64 0, .string ⟨#[]⟩] from by
  have h := Blk.new (W.alloc (.cells #[.int .i64 m.seat, .int .i64 m.ply, .string m.mv, .int .i64 m.at_] 62)) 59 #[.int .i64 0, .int .i64 0, .int .i64 0, .string ⟨#[]⟩]
  rwa [World.size_alloc] at h)
 have hs0 : ((W.alloc (.cells #[.int .i64 m.seat, .int .i64 m.ply, .string m.mv, .int .i64 m.at_] 62)).alloc (.cells #[.int .i64 0, .int .i64 0, .int .i64 0, .string ⟨#[]⟩] 59)).heap.size = W.heap.size + 1 + 1 := by rw [World.size_alloc, World.size_alloc]
 have hhW : h < W.heap.size := hb.blk.lt
 have Hvl := hide (fun k (hk : v.ownBlock = some k) => (hb.own.lt k hk).2)
 clear hb hok hP
 go_enter Tryz.func23, Tryz.ntmps23
 go_upto_region 1 with (fail)
 obtain ⟨w0, hw0⟩ : ∃ w0, ((W.alloc (.cells #[.int .i64 m.seat, .int .i64 m.ply, .string m.mv, .int .i64 m.at_] 62)).alloc (.cells #[.int .i64 0, .int .i64 0, .int .i64 0, .string ⟨#[]⟩] 59)) = w0 := ⟨_, rfl⟩
 rw [hw0] at Hl0 Hm0 HZ0 hs0 ⊢
 clear hw0
 go_upto_region 3 with (go_at_call 59; refine (Hout.out _ Hl0.out).mono ?_; rintro e w1 ⟨rfl, hw1⟩)
 have Hl1 := hide (Hl0.out.trans hw1)
 have Hm1 := hide (Later.blk hw1 Hm0.out)
 have HZ1 := hide (Later.blk hw1 HZ0.out)
 have hs1 : W.heap.size + 1 + 1 ≤ w1.heap.size := by rw [← hs0]; exact hw1.size
 clear hw1 Hm0 HZ0 Hl0 hs0 Hout
 have hl : decide (0 ≤ leftP (passP s m.at_)) = true := by simpa using ql
 have ht : s.p.turn = 0 ∨ s.p.turn = 1 := by have := Hok.out.of.pos.t0; have := Hok.out.of.pos.t1; omega
 have Hps := hide (fun w (hw : Later w1 w) => hpass_any B h s A cp ad v s.lines m.at_ w (HBd.out.later (Hl1.out.trans hw)) ht Hok.out.now ⟨(Hok.out.open_ Hq0.out.2).1, Hok.out.b0.2⟩ ⟨(Hok.out.open_ Hq0.out.2).2, Hok.out.b1.2⟩ hm0 hm1)
 rw [hl] at Hps
 have Hl9 := hide hl
 obtain ⟨e_r, e_p, e_ply, e_fl, e_li, -, -⟩ := pass_same s m.at_
 obtain ⟨s2, hs2⟩ : ∃ s2, passP s m.at_ = s2 := ⟨_, rfl⟩
 rw [hs2] at Hps e_r e_p e_ply e_fl e_li
 have Hs2 := hide hs2
 have He := hide (And.intro e_r (And.intro e_p (And.intro e_ply (And.intro e_fl e_li))))
 have HS := hide (show ∀ w' : World, Later w1 w' → (w'.cell? ⟨W.heap.size, 3, none⟩ = some (.int .i64 m.at_) ∧ w'.cell? ⟨h, 19, none⟩ = some (.int .i64 s.p.turn)) from fun w' hw => by
  obtain ⟨_, _, _, p3, _⟩ := (HBd.out.later (Hl1.out.trans hw)).pos
  exact ⟨(Later.blk hw Hm1.out).cellv rfl, p3⟩)
 have HS2 := hide (show ∀ w' : World, HB w' B h (hoC s2 A cp ad v) v s.lines → Only (fun x => x = h) w1 w' → (w'.cell? ⟨W.heap.size, 3, none⟩ = some (.int .i64 m.at_) ∧ w'.cell? ⟨h, 19, none⟩ = some (.int .i64 s.p.turn)) from fun w' hb ho => by
  obtain ⟨_, _, _, p3, _⟩ := hb.pos
  rw [He.out.2.1] at p3
  exact ⟨(Hm1.out.only ho (by omega)).cellv rfl, p3⟩)
 clear hs2 hl ht ql e_r e_p e_ply e_fl e_li d
 refine wp_region_held_drew (S := fun w' : World => (w'.cell? ⟨W.heap.size, 3, none⟩ = some (.int .i64 m.at_) ∧ w'.cell? ⟨h, 19, none⟩ = some (.int .i64 s.p.turn))) (by kernel_rfl) (HS.out _ Later.rfl.drew) (fun hHeld => ?_)
 refine tk 0 (some 12) (v := ?_) ?_ ?_; rotate_left 1; (intro w hSw; (try dsimp only at hSw); go_simp <;> with_reducible rfl); try simp only [Act.put, List.setIfInBounds_toArray, List.set_cons_zero, List.set_cons_succ]
 refine tk 1 (some 13) (v := ?_) ?_ ?_; rotate_left 1; (intro w hSw; (try dsimp only at hSw); go_simp <;> with_reducible rfl); try simp only [Act.put, List.setIfInBounds_toArray, List.set_cons_zero, List.set_cons_succ]
 refine tk 2 (some 14) (v := ?_) ?_ ?_; rotate_left 1; (intro w hSw; (try dsimp only at hSw); go_simp <;> with_reducible rfl); try simp only [Act.put, List.setIfInBounds_toArray, List.set_cons_zero, List.set_cons_succ]
 refine tk 3 (some 15) (v := ?_) ?_ ?_; rotate_left 1; (intro w hSw; (try dsimp only at hSw); go_simp <;> with_reducible rfl); try simp only [Act.put, List.setIfInBounds_toArray, List.set_cons_zero, List.set_cons_succ]
 refine tk 4 (some 16) (v := ?_) ?_ ?_; rotate_left 1; (intro w hSw; (try dsimp only at hSw); go_simp <;> with_reducible rfl); try simp only [Act.put, List.setIfInBounds_toArray, List.set_cons_zero, List.set_cons_succ]
 refine tk 5 (some 17) (v := ?_) ?_ ?_; rotate_left 1; (intro w hSw; (try dsimp only at hSw); go_simp <;> with_reducible rfl); try simp only [Act.put, List.setIfInBounds_toArray, List.set_cons_zero, List.set_cons_succ]
 refine tk 6 (some 18) (v := ?_) ?_ ?_; rotate_left 1; (intro w hSw; (try dsimp only at hSw); go_simp <;> with_reducible rfl); try simp only [Act.put, List.setIfInBounds_toArray, List.set_cons_zero, List.set_cons_succ]
 refine tk 7 (some 19) (v := ?_) ?_ ?_; rotate_left 1; (intro w hSw; (try dsimp only at hSw); go_simp <;> with_reducible rfl); try simp only [Act.put, List.setIfInBounds_toArray, List.set_cons_zero, List.set_cons_succ]
 refine tk 8 (some 20) (v := ?_) ?_ ?_; rotate_left 1; (intro w hSw; (try dsimp only at hSw); go_simp <;> with_reducible rfl); try simp only [Act.put, List.setIfInBounds_toArray, List.set_cons_zero, List.set_cons_succ]
 refine tk 9 (some 21) (v := ?_) ?_ ?_; rotate_left 1; (intro w hSw; (try dsimp only at hSw); go_simp <;> with_reducible rfl); try simp only [Act.put, List.setIfInBounds_toArray, List.set_cons_zero, List.set_cons_succ]
 refine wpAnyH_ready (rs := [10]) (by kernel_rfl) (by simp) ?_
 refine AllReadyH.cons (o := ⟨some 22, _, _, _, _, _⟩) rfl (fun K hK => ?_) ?_
 ·
  clear hHeld
  go_simp
  go_at_call 61
  refine (Hps.out _ (by repeat (first | exact Later.rfl | refine Later.drew ?_))).mono ?_
  rintro e w2 ⟨rfl, hb2, ho2⟩
  have Hb2 := hide hb2
  have Ho2 := hide (show Only (fun x => x = h) w1 w2 from ((Only.refl (fun x => x = h) w1).drew).trans ho2)
  have Hk2 := hide (HS2.out w2 hb2 Ho2.out)
  clear hb2 ho2
  try go_wp2_with fail
  refine hK.out _ _ (by first | exact Hk2.out | (refine HS.out _ ?_; repeat (first | exact Later.rfl | refine Later.drew ?_))) (fun hHeld => ?_)
  clear hK K
  try simp only [Act.put, List.setIfInBounds_toArray, List.set_cons_zero, List.set_cons_succ]
  refine tk 11 (some 23) (v := ?_) ?_ ?_; rotate_left 1; (intro w hSw; (try dsimp only at hSw); go_simp <;> with_reducible rfl); try simp only [Act.put, List.setIfInBounds_toArray, List.set_cons_zero, List.set_cons_succ]
  refine wpAnyH_done (by kernel_rfl) ?_ _
  have Hm2 := hide (Hm1.out.only Ho2.out (by omega))
  have HZ2 := hide (HZ1.out.only Ho2.out (by omega))
  have hs2z : W.heap.size + 1 + 1 ≤ w2.heap.size := Nat.le_trans hs1 Ho2.out.size
  have HO2 := hide (show Only (fun x => x = h ∨ v.ownBlock = some x) W w2 from ((later_only Hl1.out).mono (fun _ _ h => h.elim)).trans' Ho2.out (fun _ _ h => .inl h))
  have HPb := hide (show PAt w2 (fun x => lo ≤ x ∧ x < h) A s2.r.pieces from by rw [He.out.1]; exact (HPa.out.only (later_only Hl1.out) (fun _ h => h.elim)).only Ho2.out (fun k hk hq => by omega))
  clear HS HS2 Hps Hk2 hHeld Ho2 HZ1 Hm1 hs1 Hl1 HPa HBd
  have Hok2 := hide (show HoOk s2 from by rw [← Hs2.out]; exact pass_ok Hok.out Hq0.out.2 hm1 (by have h := Hl9.out; simpa using h))
  have HP2 := HPb
  clear HPb
  obtain ⟨t0, -, -, -⟩ := Hb2.out.rest
  obtain ⟨-, -, -, p3, -, -⟩ := Hb2.out.pos
  obtain ⟨m0, m1, m2, m3⟩ := (show _ ∧ _ ∧ _ ∧ _ from ⟨Hm2.out.cellv (i := 0) rfl, Hm2.out.cellv (i := 1) rfl, Hm2.out.cellv (i := 2) rfl, Hm2.out.cellv (i := 3) rfl⟩)
  have d6 : (m.ply != s2.ply) = false := by rw [He.out.2.2.1, Hqp.out]; simp
  go_upto_region 6 with (fail)
  go_quiet (fail)
  obtain ⟨w3, hw3⟩ : ∃ w3, w2.drewN nq = w3 := ⟨_, rfl⟩
  have hl3 : Later w2 w3 := by rw [← hw3]; exact Later.rfl.drewN _
  rw [hw3]
  have Hb3 := hide (Hb2.out.later hl3)
  have Hm3 := hide (Later.blk hl3 Hm2.out)
  have HZ3 := hide (Later.blk hl3 HZ2.out)
  have HO3 := hide (HO2.out.trans' (later_only hl3) (fun _ _ h => h.elim))
  have HP3 := hide (HP2.out.only (later_only hl3) (fun _ h => h.elim))
  have hs3z : W.heap.size + 1 + 1 ≤ w3.heap.size := Nat.le_trans hs2z (hl3).size
  clear Hb2 Hm2 HZ2 HO2 HP2 hs2z
  clear hw3 hl3 t0 p3 m0 m1 m2 m3
  obtain ⟨t0, -, -, -⟩ := Hb3.out.rest
  obtain ⟨-, -, -, p3, -, -⟩ := Hb3.out.pos
  obtain ⟨m0, m1, m2, m3⟩ := (show _ ∧ _ ∧ _ ∧ _ from ⟨Hm3.out.cellv (i := 0) rfl, Hm3.out.cellv (i := 1) rfl, Hm3.out.cellv (i := 2) rfl, Hm3.out.cellv (i := 3) rfl⟩)
  have d8 : (m.seat != s2.p.turn) = true := by rw [He.out.2.1]; simpa using Hqs.out
  go_upto_region 8 with (fail)
  go_quiet (fail)
  obtain ⟨w4, hw4⟩ : ∃ w4, w3.drewN nq = w4 := ⟨_, rfl⟩
  have hl4 : Later w3 w4 := by rw [← hw4]; exact Later.rfl.drewN _
  rw [hw4]
  have Hb4 := hide (Hb3.out.later hl4)
  have Hm4 := hide (Later.blk hl4 Hm3.out)
  have HZ4 := hide (Later.blk hl4 HZ3.out)
  have HO4 := hide (HO3.out.trans' (later_only hl4) (fun _ _ h => h.elim))
  have HP4 := hide (HP3.out.only (later_only hl4) (fun _ h => h.elim))
  have hs4z : W.heap.size + 1 + 1 ≤ w4.heap.size := Nat.le_trans hs3z (hl4).size
  clear Hb3 Hm3 HZ3 HO3 HP3 hs3z
  clear hw4 hl4 t0 p3 m0 m1 m2 m3
  have Htk := hide (show takeP s m = (s2, 3) from by unfold takeP; rw [if_neg (by rw [Hq0.out.1]; exact fun h => h rfl), Hs2.out, if_neg (by have h := Hl9.out; rw [Hs2.out] at h; simpa using h), if_neg (fun h => h Hqp.out), if_pos Hqs.out])
  have HRp := hide (hreply_any B h (s2) A cp ad v s.lines w4 Hb4.out Hok2.out (HP4.out).at_ 3)
  obtain ⟨tx, htx⟩ : ∃ tx, bytes (textL (s2).p) = tx := ⟨_, rfl⟩
  obtain ⟨op, hop⟩ : ∃ op, outP (s2) = op := ⟨_, rfl⟩
  rw [htx, hop] at HRp
  have Htx := hide htx
  have Hop := hide hop
  clear htx hop
  go_wp2_with (go_at_call 60; refine HRp.out.mono ?_; rintro e w9 ⟨rfl, hw9⟩; have HZ9 := hide (Later.blk hw9 HZ4.out); have Hw9 := hide hw9; clear hw9; obtain ⟨z0, z1, z2, z3⟩ := (show _ ∧ _ ∧ _ ∧ _ from ⟨HZ9.out.cellv (i := 0) rfl, HZ9.out.cellv (i := 1) rfl, HZ9.out.cellv (i := 2) rfl, HZ9.out.cellv (i := 3) rfl⟩); have zf0 := HZ9.out.free 0; have zf1 := HZ9.out.free 1; have zf2 := HZ9.out.free 2; have zf3 := HZ9.out.free 3)
  have HZf := hide (Blk.set_ (Blk.set_ (Blk.set_ (Blk.set_ HZ9.out 0 (.int .i64 3)) 1 (.int .i64 (s2).ply)) 2 (.int .i64 op)) 3 (.string tx))
  have Hof := hide (show Only (fun x => x = W.heap.size + 1) w9 ((((w9.setCell ⟨W.heap.size + 1, 0, none⟩ (.int .i64 3)).setCell ⟨W.heap.size + 1, 1, none⟩ (.int .i64 (s2).ply)).setCell ⟨W.heap.size + 1, 2, none⟩ (.int .i64 op)).setCell ⟨W.heap.size + 1, 3, none⟩ (.string tx)) from ((((Only.refl (fun x => x = W.heap.size + 1) w9).setCell (p := ⟨W.heap.size + 1, 0, none⟩) (.inl rfl) _).setCell (p := ⟨W.heap.size + 1, 1, none⟩) (.inl rfl) _).setCell (p := ⟨W.heap.size + 1, 2, none⟩) (.inl rfl) _).setCell (p := ⟨W.heap.size + 1, 3, none⟩) (.inl rfl) _)
  clear z0 z1 z2 z3 zf0 zf1 zf2 zf3
  obtain ⟨q0, q1, q2, q3⟩ := (show _ ∧ _ ∧ _ ∧ _ from ⟨HZf.out.cellv (i := 0) rfl, HZf.out.cellv (i := 1) rfl, HZf.out.cellv (i := 2) rfl, HZf.out.cellv (i := 3) rfl⟩)
  refine bodyPost_ret (v := .agg #[.int .i64 3, .int .i64 (s2).ply, .int .i64 op, .string tx]) (by simp [results, Tryz.results23, go_sem, q0, q1, q2, q3]) rfl ⟨ad, v, by rw [Htk.out, ← Htx.out, ← Hop.out]; rfl, by rw [Htk.out]; simp only [He.out.2.2.2.2]; exact (Hb4.out.later Hw9.out).only Hof.out (by omega) (fun k hk e => by have := Hvl.out k hk; omega), .inl rfl, (HO4.out.trans' (later_only Hw9.out) (fun _ _ h => h.elim)).trans' Hof.out (fun i hi hs => by omega)⟩
 exact AllReadyH.nil
end Go.Proofs.YtcdfeaodfmfdnaaGreatDoor
