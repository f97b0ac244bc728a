/- (*house.House).Take where a move is made: walked. -/
import Derived.Test.YtcdfeaodfmfdnaaGreatDoorPlTk
import Derived.Test.YtcdfeaodfmfdnaaGreatDoorPlHoTk2
namespace Go.Proofs.YtcdfeaodfmfdnaaGreatDoor
open Go.RowKit

/-- what of the library's variables a house wants -/
structure EnvH (w : World) : Prop where
  tb : Lib.TabIs Tryz.prog w "internal/strconv.uint64pow10" .u64 Lib.pow10Tab
theorem EnvH.big {w : World} (h : EnvH w) : 5 < w.heap.size := by
  have h2 := cell_lt_ (Lib.TabIs.cell (g := 5) h.tb (by kernel_rfl) 0 (by decide))
  exact h2
theorem EnvH.step {S : Nat → Prop} {w w' : World} (h : EnvH w) (ho : Only S w w') (hS : ∀ i, S i → 5 < i) : EnvH w' := by
  have hbig := h.big
  have hb : Below (5 + 1) w w' := ⟨ho.os, ho.tape, ho.output, ho.size, fun i hi => ho.block i (by omega) (fun hs => by have := hS _ hs; omega)⟩
  exact ⟨var?_below (g := 5) hb (by kernel_rfl) (by omega) h.tb⟩
theorem EnvH.no {w w' : World} (h : EnvH w) (ho : Only (fun _ => False) w w') : EnvH w' := h.step ho (fun _ h => h.elim)
theorem dec_le : ∀ (k u : Nat), u < 10 ^ (k + 1) → (Lib.decDigits u).length ≤ k + 1
  | 0, u, h => by
    rw [Lib.decDigits, dif_pos (by simpa using h)]
    simp
  | k + 1, u, h => by
    rw [Lib.decDigits]
    split
    · simp
    · have h2 : u / 10 < 10 ^ (k + 1) := by rw [Nat.pow_succ] at h; omega
      have := dec_le k (u / 10) h2
      rw [List.length_append, List.length_singleton]
      omega
theorem itoa_le {n : Int} (h0 : 0 ≤ n) (h1 : n ≤ 9223372036854775807) : (Lib.itoa n).length ≤ 20 := by
  unfold Lib.itoa
  rw [if_neg (by omega)]
  exact dec_le 19 _ (by have : (10 : Nat) ^ (19 + 1) = 100000000000000000000 := by decide
                        omega)
theorem itoa_out (n : Int) (w : World) (h0 : 0 ≤ n) (h1 : n ≤ 9223372036854775807) (he : EnvH w) :
    Calls Tryz.prog 29 #[.int .i64 n] w fun e w' => e = .returned (.string (bytes (Lib.itoa n))) ∧ Later w w' :=
  (Tryz.strconv_Itoa n (by omega) h1 w he.tb).mono fun e w' ⟨h1, k, os, h2⟩ => ⟨h1, by rw [h2]; exact Lib.below_grow w.heap.size w (Nat.le_refl _) k os⟩
theorem mtext_le (p : Pos) (x : Mv) : (mv_textL p x).length ≤ 6 := by
  unfold mv_textL cellL
  split <;> simp
theorem done_ok {s : HoD} {m : MsgD} {x : Mv} (h : HoOk s) (h2 : s.ply < s.r.plies) (hx : x ∈ movesL s.r s.p) (ht : bytes (mv_textL s.p x) = m.mv) : HoOk (doneP s m x) := by
  have h3 := (every_made h.of (moves_every hx)).2
  have h4 := itoa_le h.ply (by have := h.of.rules.pl2; have := h.plies; omega)
  have h5 := itoa_le h.now h.nowb
  have h6 := mtext_le s.p x
  have h7 : m.mv.data.toList.length ≤ 6 := by rw [← ht]; simpa [bytes] using h6
  have h8 := h.len
  have h9 : ((lineH s m.mv).length : Int) ≤ 1000 := by
    unfold lineH
    simp only [List.length_append, List.length_cons, List.length_nil]
    omega
  exact ⟨h3, h.now, h.nowb, by show 0 ≤ s.ply + 1; have := h.ply; omega, by show s.ply + 1 ≤ s.r.plies; omega, h.open_, h.b0, h.b1, h.flag, by
    show ((s.lines ++ lineH s m.mv).length : Int) ≤ 1000 * (s.ply + 1)
    rw [List.length_append]
    omega⟩
set_option maxHeartbeats 8000000 in
set_option maxRecDepth 100000 in
theorem htake_done (B h lo : Nat) (s : HoD) (A : Option Addr) (cp : Nat) (ad v : Value) (m : MsgD) (W : World) (hb : HB W B h (hoC s A cp ad v) v s.lines) (hok : HoOk s) (hP : PAt W (fun x => lo ≤ x ∧ x < h) A s.r.pieces)  (hm0 : -9223372036854775808 ≤ m.at_) (hm1 : m.at_ ≤ 9223372036854775807) (hhB : h < B) (hBW : B ≤ W.heap.size) (h5 : 5 < h) (he : EnvH W) (q : outP s = 0) (ql : 0 ≤ leftP (passP s m.at_)) (qp : m.ply = s.ply) (qs : m.seat = s.p.turn) (x : Mv) (hx : readM s.r s.p m.mv = some x) :
    Calls Tryz.prog 23 #[.pointer (some ⟨h, 0, none⟩), .agg #[.int .i64 m.seat, .int .i64 m.ply, .string m.mv, .int .i64 m.at_]] W (TakeOut B h s A cp v m W) := by
  have Hqp := hide qp
  have Hqs := hide qs
  have Hx := hide hx
  have Hvb := hide (fun k (hk : v.ownBlock = some k) => (hb.own.lt k hk).1)
  have Hxs := hide (read_some hx)
  clear qp qs hx
  have Hen := hide he
  clear he
  obtain ⟨hfl, hen, hpl⟩ := out_open q hok
  have d : (outP s != 0) = false := by rw [q]; rfl
  have Hq0 := hide (And.intro q hfl)
  clear q hfl hen
  have HBd := hide hb
  have HPa := hide hP
  have Hok := hide hok
  have Hout := hide (fun w (hw : Later W w) => hout_any B h s A cp ad v s.lines w (hb.later hw) hok (hP.only (later_only hw) (fun _ h => h.elim)).at_)
  have Hl0 := hide (show Later W ((W.alloc (.cells #[.int .i64 m.seat, .int .i64 m.ply, .string m.mv, .int .i64 m.at_] 62)).alloc (.cells #[.int .i64 0, .int .i64 0, .int .i64 0, .string ⟨#[]⟩] 59)) from (Later.rfl.alloc _).alloc _)
  have Hm0 := hide (show Blk ((W.alloc (.cells #[.int .i64 m.seat, .int .i64 m.ply, .string m.mv, .int .i64 m.at_] 62)).alloc (.cells #[.int .i64 0, .int .i64 0, .int .i64 0, .string ⟨#[]⟩] 59)) W.heap.size 62 #[.int .i64 m.seat, .int .i64 m.ply, .string m.mv, .int .i64 m.at_] from (Blk.new W _ _).alloc _)
  have HZ0 := hide (show Blk ((W.alloc (.cells #[.int .i64 m.seat, .int .i64 m.ply, .string m.mv, .int .i64 m.at_] 62)).alloc (.cells #[.int .i64 0, .int .i64 0, .int .i64 0, .string ⟨#[]⟩] 59)) (W.heap.size + 1) 59 #[.int .i64 0, .int .i64 0, .int .i64 0, .string ⟨#[]⟩] from by
    have h := Blk.new (W.alloc (.cells #[.int .i64 m.seat, .int .i64 m.ply, .string m.mv, .int .i64 m.at_] 62)) 59 #[.int .i64 0, .int .i64 0, .int .i64 0, .string ⟨#[]⟩]
    rwa [World.size_alloc] at h)
  have hs0 : ((W.alloc (.cells #[.int .i64 m.seat, .int .i64 m.ply, .string m.mv, .int .i64 m.at_] 62)).alloc (.cells #[.int .i64 0, .int .i64 0, .int .i64 0, .string ⟨#[]⟩] 59)).heap.size = W.heap.size + 1 + 1 := by rw [World.size_alloc, World.size_alloc]
  have hhW : h < W.heap.size := hb.blk.lt
  have Hvl := hide (fun k (hk : v.ownBlock = some k) => (hb.own.lt k hk).2)
  clear hb hok hP
  go_enter Tryz.func23, Tryz.ntmps23
  go_upto_region 1 with (fail)
  obtain ⟨w0, hw0⟩ : ∃ w0, ((W.alloc (.cells #[.int .i64 m.seat, .int .i64 m.ply, .string m.mv, .int .i64 m.at_] 62)).alloc (.cells #[.int .i64 0, .int .i64 0, .int .i64 0, .string ⟨#[]⟩] 59)) = w0 := ⟨_, rfl⟩
  rw [hw0] at Hl0 Hm0 HZ0 hs0 ⊢
  clear hw0
  go_upto_region 3 with (go_at_call 59; refine (Hout.out _ Hl0.out).mono ?_; rintro e w1 ⟨rfl, hw1⟩)
  have Hl1 := hide (Hl0.out.trans hw1)
  have Hm1 := hide (Later.blk hw1 Hm0.out)
  have HZ1 := hide (Later.blk hw1 HZ0.out)
  have hs1 : W.heap.size + 1 + 1 ≤ w1.heap.size := by rw [← hs0]; exact hw1.size
  clear hw1 Hm0 HZ0 Hl0 hs0 Hout
  have hl : decide (0 ≤ leftP (passP s m.at_)) = true := by simpa using ql
  have ht : s.p.turn = 0 ∨ s.p.turn = 1 := by have := Hok.out.of.pos.t0; have := Hok.out.of.pos.t1; omega
  have Hps := hide (fun w (hw : Later w1 w) => hpass_any B h s A cp ad v s.lines m.at_ w (HBd.out.later (Hl1.out.trans hw)) ht Hok.out.now ⟨(Hok.out.open_ Hq0.out.2).1, Hok.out.b0.2⟩ ⟨(Hok.out.open_ Hq0.out.2).2, Hok.out.b1.2⟩ hm0 hm1)
  rw [hl] at Hps
  have Hl9 := hide hl
  obtain ⟨e_r, e_p, e_ply, e_fl, e_li, -, -⟩ := pass_same s m.at_
  obtain ⟨s2, hs2⟩ : ∃ s2, passP s m.at_ = s2 := ⟨_, rfl⟩
  rw [hs2] at Hps e_r e_p e_ply e_fl e_li
  have Hs2 := hide hs2
  have He := hide (And.intro e_r (And.intro e_p (And.intro e_ply (And.intro e_fl e_li))))
  have HS := hide (show ∀ w' : World, Later w1 w' → (w'.cell? ⟨W.heap.size, 3, none⟩ = some (.int .i64 m.at_) ∧ w'.cell? ⟨h, 19, none⟩ = some (.int .i64 s.p.turn)) from fun w' hw => by
    obtain ⟨_, _, _, p3, _⟩ := (HBd.out.later (Hl1.out.trans hw)).pos
    exact ⟨(Later.blk hw Hm1.out).cellv rfl, p3⟩)
  have HS2 := hide (show ∀ w' : World, HB w' B h (hoC s2 A cp ad v) v s.lines → Only (fun x => x = h) w1 w' → (w'.cell? ⟨W.heap.size, 3, none⟩ = some (.int .i64 m.at_) ∧ w'.cell? ⟨h, 19, none⟩ = some (.int .i64 s.p.turn)) from fun w' hb ho => by
    obtain ⟨_, _, _, p3, _⟩ := hb.pos
    rw [He.out.2.1] at p3
    exact ⟨(Hm1.out.only ho (by omega)).cellv rfl, p3⟩)
  clear hs2 hl ht ql e_r e_p e_ply e_fl e_li d
  refine wp_region_held_drew (S := fun w' : World => (w'.cell? ⟨W.heap.size, 3, none⟩ = some (.int .i64 m.at_) ∧ w'.cell? ⟨h, 19, none⟩ = some (.int .i64 s.p.turn))) (by kernel_rfl) (HS.out _ Later.rfl.drew) (fun hHeld => ?_)
  refine tk 0 (some 12) (v := ?_) ?_ ?_; rotate_left 1; (intro w hSw; (try dsimp only at hSw); go_simp <;> with_reducible rfl); try simp only [Act.put, List.setIfInBounds_toArray, List.set_cons_zero, List.set_cons_succ]
  refine tk 1 (some 13) (v := ?_) ?_ ?_; rotate_left 1; (intro w hSw; (try dsimp only at hSw); go_simp <;> with_reducible rfl); try simp only [Act.put, List.setIfInBounds_toArray, List.set_cons_zero, List.set_cons_succ]
  refine tk 2 (some 14) (v := ?_) ?_ ?_; rotate_left 1; (intro w hSw; (try dsimp only at hSw); go_simp <;> with_reducible rfl); try simp only [Act.put, List.setIfInBounds_toArray, List.set_cons_zero, List.set_cons_succ]
  refine tk 3 (some 15) (v := ?_) ?_ ?_; rotate_left 1; (intro w hSw; (try dsimp only at hSw); go_simp <;> with_reducible rfl); try simp only [Act.put, List.setIfInBounds_toArray, List.set_cons_zero, List.set_cons_succ]
  refine tk 4 (some 16) (v := ?_) ?_ ?_; rotate_left 1; (intro w hSw; (try dsimp only at hSw); go_simp <;> with_reducible rfl); try simp only [Act.put, List.setIfInBounds_toArray, List.set_cons_zero, List.set_cons_succ]
  refine tk 5 (some 17) (v := ?_) ?_ ?_; rotate_left 1; (intro w hSw; (try dsimp only at hSw); go_simp <;> with_reducible rfl); try simp only [Act.put, List.setIfInBounds_toArray, List.set_cons_zero, List.set_cons_succ]
  refine tk 6 (some 18) (v := ?_) ?_ ?_; rotate_left 1; (intro w hSw; (try dsimp only at hSw); go_simp <;> with_reducible rfl); try simp only [Act.put, List.setIfInBounds_toArray, List.set_cons_zero, List.set_cons_succ]
  refine tk 7 (some 19) (v := ?_) ?_ ?_; rotate_left 1; (intro w hSw; (try dsimp only at hSw); go_simp <;> with_reducible rfl); try simp only [Act.put, List.setIfInBounds_toArray, List.set_cons_zero, List.set_cons_succ]
  refine tk 8 (some 20) (v := ?_) ?_ ?_; rotate_left 1; (intro w hSw; (try dsimp only at hSw); go_simp <;> with_reducible rfl); try simp only [Act.put, List.setIfInBounds_toArray, List.set_cons_zero, List.set_cons_succ]
  refine tk 9 (some 21) (v := ?_) ?_ ?_; rotate_left 1; (intro w hSw; (try dsimp only at hSw); go_simp <;> with_reducible rfl); try simp only [Act.put, List.setIfInBounds_toArray, List.set_cons_zero, List.set_cons_succ]
  refine wpAnyH_ready (rs := [10]) (by kernel_rfl) (by simp) ?_
  refine AllReadyH.cons (o := ⟨some 22, _, _, _, _, _⟩) rfl (fun K hK => ?_) ?_
  · clear hHeld
    go_simp
    go_at_call 61
    refine (Hps.out _ (by repeat (first | exact Later.rfl | refine Later.drew ?_))).mono ?_
    rintro e w2 ⟨rfl, hb2, ho2⟩
    have Hb2 := hide hb2
    have Ho2 := hide (show Only (fun x => x = h) w1 w2 from ((Only.refl (fun x => x = h) w1).drew).trans ho2)
    have Hk2 := hide (HS2.out w2 hb2 Ho2.out)
    clear hb2 ho2
    try go_wp2_with fail
    refine hK.out _ _ (by first | exact Hk2.out | (refine HS.out _ ?_; repeat (first | exact Later.rfl | refine Later.drew ?_))) (fun hHeld => ?_)
    clear hK K
    try simp only [Act.put, List.setIfInBounds_toArray, List.set_cons_zero, List.set_cons_succ]
    refine tk 11 (some 23) (v := ?_) ?_ ?_; rotate_left 1; (intro w hSw; (try dsimp only at hSw); go_simp <;> with_reducible rfl); try simp only [Act.put, List.setIfInBounds_toArray, List.set_cons_zero, List.set_cons_succ]
    refine wpAnyH_done (by kernel_rfl) ?_ _
    have Hm2 := hide (Hm1.out.only Ho2.out (by omega))
    have HZ2 := hide (HZ1.out.only Ho2.out (by omega))
    have hs2z : W.heap.size + 1 + 1 ≤ w2.heap.size := Nat.le_trans hs1 Ho2.out.size
    have HO2 := hide (show Only (fun x => x = h ∨ v.ownBlock = some x) W w2 from ((later_only Hl1.out).mono (fun _ _ h => h.elim)).trans' Ho2.out (fun _ _ h => .inl h))
    have HPb := hide (show PAt w2 (fun x => lo ≤ x ∧ x < h) A s2.r.pieces from by rw [He.out.1]; exact (HPa.out.only (later_only Hl1.out) (fun _ h => h.elim)).only Ho2.out (fun k hk hq => by omega))
    clear HS HS2 Hps Hk2 hHeld Ho2 HZ1 Hm1 hs1 Hl1 HPa HBd
    have Hok2 := hide (show HoOk s2 from by rw [← Hs2.out]; exact pass_ok Hok.out Hq0.out.2 hm1 (by have h := Hl9.out; simpa using h))
    have HP2 := HPb
    clear HPb
    obtain ⟨t0, -, -, -⟩ := Hb2.out.rest
    obtain ⟨-, -, -, p3, -, -⟩ := Hb2.out.pos
    obtain ⟨m0, m1, m2, m3⟩ := (show _ ∧ _ ∧ _ ∧ _ from ⟨Hm2.out.cellv (i := 0) rfl, Hm2.out.cellv (i := 1) rfl, Hm2.out.cellv (i := 2) rfl, Hm2.out.cellv (i := 3) rfl⟩)
    have d6 : (m.ply != s2.ply) = false := by rw [He.out.2.2.1, Hqp.out]; simp
    go_upto_region 6 with (fail)
    go_quiet (fail)
    obtain ⟨w3, hw3⟩ : ∃ w3, w2.drewN nq = w3 := ⟨_, rfl⟩
    have hl3 : Later w2 w3 := by rw [← hw3]; exact Later.rfl.drewN _
    rw [hw3]
    have Hb3 := hide (Hb2.out.later hl3)
    have Hm3 := hide (Later.blk hl3 Hm2.out)
    have HZ3 := hide (Later.blk hl3 HZ2.out)
    have HO3 := hide (HO2.out.trans' (later_only hl3) (fun _ _ h => h.elim))
    have HP3 := hide (HP2.out.only (later_only hl3) (fun _ h => h.elim))
    have hs3z : W.heap.size + 1 + 1 ≤ w3.heap.size := Nat.le_trans hs2z (hl3).size
    clear Hb2 Hm2 HZ2 HO2 HP2 hs2z
    clear hw3 hl3 t0 p3 m0 m1 m2 m3
    obtain ⟨t0, -, -, -⟩ := Hb3.out.rest
    obtain ⟨-, -, -, p3, -, -⟩ := Hb3.out.pos
    obtain ⟨m0, m1, m2, m3⟩ := (show _ ∧ _ ∧ _ ∧ _ from ⟨Hm3.out.cellv (i := 0) rfl, Hm3.out.cellv (i := 1) rfl, Hm3.out.cellv (i := 2) rfl, Hm3.out.cellv (i := 3) rfl⟩)
    have d8 : (m.seat != s2.p.turn) = false := by rw [He.out.2.1, Hqs.out]; simp
    go_upto_region 8 with (fail)
    go_quiet (fail)
    obtain ⟨w4, hw4⟩ : ∃ w4, w3.drewN nq = w4 := ⟨_, rfl⟩
    have hl4 : Later w3 w4 := by rw [← hw4]; exact Later.rfl.drewN _
    rw [hw4]
    have Hb4 := hide (Hb3.out.later hl4)
    have Hm4 := hide (Later.blk hl4 Hm3.out)
    have HZ4 := hide (Later.blk hl4 HZ3.out)
    have HO4 := hide (HO3.out.trans' (later_only hl4) (fun _ _ h => h.elim))
    have HP4 := hide (HP3.out.only (later_only hl4) (fun _ h => h.elim))
    have hs4z : W.heap.size + 1 + 1 ≤ w4.heap.size := Nat.le_trans hs3z (hl4).size
    clear Hb3 Hm3 HZ3 HO3 HP3 hs3z
    clear hw4 hl4 t0 p3 m0 m1 m2 m3
    have hs4w := hs4z
    have Hxm := hide (show x ∈ movesL s2.r s2.p from by rw [He.out.1, He.out.2.1]; exact Hxs.out.1)
    have Hrd := hide (fun w (hw : Later w4 w) => show Calls _ _ _ _ _ from (mread_ok s2.r A cp s2.p x w (ho_rfit Hok2.out.of.rules) (ho_pfit Hok2.out.of.pos) (HP4.out.only (later_only hw) (fun _ h => h.elim)).at_ Hok2.out.of Hxm.out))
    rw [show bytes (mv_textL s2.p x) = m.mv from by rw [He.out.2.1]; exact Hxs.out.2] at Hrd
    have HS10 := hide (show ∀ w' : World, Later w4 w' → (w'.cell? ⟨h, 3, none⟩ = some (.int .i64 s2.r.start.w) ∧ w'.cell? ⟨h, 4, none⟩ = some (.int .i64 s2.r.start.h) ∧ w'.cell? ⟨h, 5, none⟩ = some (.string s2.r.start.cells) ∧ w'.cell? ⟨h, 6, none⟩ = some (.int .i64 s2.r.start.turn) ∧ w'.cell? ⟨h, 7, none⟩ = some (.string s2.r.start.h0) ∧ w'.cell? ⟨h, 8, none⟩ = some (.string s2.r.start.h1) ∧ w'.cell? ⟨h, 9, none⟩ = some (.slice A s2.r.pieces.length cp) ∧ w'.cell? ⟨h, 10, none⟩ = some (.bool s2.r.drops) ∧ w'.cell? ⟨h, 11, none⟩ = some (.int .u8 (s2.r.lose : Int)) ∧ w'.cell? ⟨h, 12, none⟩ = some (.int .i64 s2.r.line) ∧ w'.cell? ⟨h, 13, none⟩ = some (.int .u8 (s2.r.reach : Int)) ∧ w'.cell? ⟨h, 14, none⟩ = some (.bool s2.r.stuck) ∧ w'.cell? ⟨h, 15, none⟩ = some (.int .i64 s2.r.plies) ∧ w'.cell? ⟨h, 16, none⟩ = some (.int .i64 s2.p.w) ∧ w'.cell? ⟨h, 17, none⟩ = some (.int .i64 s2.p.h) ∧ w'.cell? ⟨h, 18, none⟩ = some (.string s2.p.cells) ∧ w'.cell? ⟨h, 19, none⟩ = some (.int .i64 s2.p.turn) ∧ w'.cell? ⟨h, 20, none⟩ = some (.string s2.p.h0) ∧ w'.cell? ⟨h, 21, none⟩ = some (.string s2.p.h1) ∧ w'.cell? ⟨W.heap.size, 2, none⟩ = some (.string m.mv)) from fun w' hw => by
      obtain ⟨r0, r1, r2, r3, r4, r5, r6, r7, r8, r9, r10, r11, r12⟩ := (Hb4.out.later hw).rules
      obtain ⟨p0, p1, p2, p3, p4, p5⟩ := (Hb4.out.later hw).pos
      exact ⟨r0, r1, r2, r3, r4, r5, r6, r7, r8, r9, r10, r11, r12, p0, p1, p2, p3, p4, p5, (Later.blk hw Hm4.out).cellv rfl⟩)
    go_upto_region 10 with (fail)
    go_cut [5, 6] from 55 to 118 (fun qv ev w' => ∃ gq, qv = .pointer (some ⟨gq, 0, none⟩) ∧ ev = .int .i64 0 ∧ Blk w' gq 101 #[.int .i64 x.f, .int .i64 x.t, .int .u8 (x.c : Int)] ∧ Later w4 w' ∧ w4.heap.size ≤ gq)
    case first =>
      refine wp_region_held_drew (S := fun w' : World => (w'.cell? ⟨h, 3, none⟩ = some (.int .i64 s2.r.start.w) ∧ w'.cell? ⟨h, 4, none⟩ = some (.int .i64 s2.r.start.h) ∧ w'.cell? ⟨h, 5, none⟩ = some (.string s2.r.start.cells) ∧ w'.cell? ⟨h, 6, none⟩ = some (.int .i64 s2.r.start.turn) ∧ w'.cell? ⟨h, 7, none⟩ = some (.string s2.r.start.h0) ∧ w'.cell? ⟨h, 8, none⟩ = some (.string s2.r.start.h1) ∧ w'.cell? ⟨h, 9, none⟩ = some (.slice A s2.r.pieces.length cp) ∧ w'.cell? ⟨h, 10, none⟩ = some (.bool s2.r.drops) ∧ w'.cell? ⟨h, 11, none⟩ = some (.int .u8 (s2.r.lose : Int)) ∧ w'.cell? ⟨h, 12, none⟩ = some (.int .i64 s2.r.line) ∧ w'.cell? ⟨h, 13, none⟩ = some (.int .u8 (s2.r.reach : Int)) ∧ w'.cell? ⟨h, 14, none⟩ = some (.bool s2.r.stuck) ∧ w'.cell? ⟨h, 15, none⟩ = some (.int .i64 s2.r.plies) ∧ w'.cell? ⟨h, 16, none⟩ = some (.int .i64 s2.p.w) ∧ w'.cell? ⟨h, 17, none⟩ = some (.int .i64 s2.p.h) ∧ w'.cell? ⟨h, 18, none⟩ = some (.string s2.p.cells) ∧ w'.cell? ⟨h, 19, none⟩ = some (.int .i64 s2.p.turn) ∧ w'.cell? ⟨h, 20, none⟩ = some (.string s2.p.h0) ∧ w'.cell? ⟨h, 21, none⟩ = some (.string s2.p.h1) ∧ w'.cell? ⟨W.heap.size, 2, none⟩ = some (.string m.mv))) (by kernel_rfl) (HS10.out _ Later.rfl.drew) (fun hHeld => ?_)
      refine tk 0 (some 55) (v := ?_) ?_ ?_; rotate_left 1; (intro w hSw; (try dsimp only at hSw); go_simp <;> with_reducible rfl); try simp only [Act.put, List.setIfInBounds_toArray, List.set_cons_zero, List.set_cons_succ]
      refine tk 1 (some 56) (v := ?_) ?_ ?_; rotate_left 1; (intro w hSw; (try dsimp only at hSw); go_simp <;> with_reducible rfl); try simp only [Act.put, List.setIfInBounds_toArray, List.set_cons_zero, List.set_cons_succ]
      refine tk 2 (some 57) (v := ?_) ?_ ?_; rotate_left 1; (intro w hSw; (try dsimp only at hSw); go_simp <;> with_reducible rfl); try simp only [Act.put, List.setIfInBounds_toArray, List.set_cons_zero, List.set_cons_succ]
      refine tk 3 (some 58) (v := ?_) ?_ ?_; rotate_left 1; (intro w hSw; (try dsimp only at hSw); go_simp <;> with_reducible rfl); try simp only [Act.put, List.setIfInBounds_toArray, List.set_cons_zero, List.set_cons_succ]
      refine tk 4 (some 59) (v := ?_) ?_ ?_; rotate_left 1; (intro w hSw; (try dsimp only at hSw); go_simp <;> with_reducible rfl); try simp only [Act.put, List.setIfInBounds_toArray, List.set_cons_zero, List.set_cons_succ]
      refine tk 5 (some 60) (v := ?_) ?_ ?_; rotate_left 1; (intro w hSw; (try dsimp only at hSw); go_simp <;> with_reducible rfl); try simp only [Act.put, List.setIfInBounds_toArray, List.set_cons_zero, List.set_cons_succ]
      refine tk 6 (some 61) (v := ?_) ?_ ?_; rotate_left 1; (intro w hSw; (try dsimp only at hSw); go_simp <;> with_reducible rfl); try simp only [Act.put, List.setIfInBounds_toArray, List.set_cons_zero, List.set_cons_succ]
      refine tk 7 (some 62) (v := ?_) ?_ ?_; rotate_left 1; (intro w hSw; (try dsimp only at hSw); go_simp <;> with_reducible rfl); try simp only [Act.put, List.setIfInBounds_toArray, List.set_cons_zero, List.set_cons_succ]
      refine tk 8 (some 63) (v := ?_) ?_ ?_; rotate_left 1; (intro w hSw; (try dsimp only at hSw); go_simp <;> with_reducible rfl); try simp only [Act.put, List.setIfInBounds_toArray, List.set_cons_zero, List.set_cons_succ]
      refine tk 9 (some 64) (v := ?_) ?_ ?_; rotate_left 1; (intro w hSw; (try dsimp only at hSw); go_simp <;> with_reducible rfl); try simp only [Act.put, List.setIfInBounds_toArray, List.set_cons_zero, List.set_cons_succ]
      refine wpAnyH_ready (rs := [10, 14]) (by kernel_rfl) (by simp) ?_
      refine AllReadyH.cons (o := ⟨some 65, _, _, _, _, _⟩) rfl (fun K hK => ?_) ?_
      · clear hHeld
        go_simp
        go_at_call 52
        refine (Hrd.out _ (by repeat (first | exact Later.rfl | refine Later.drew ?_ | refine Later.alloc ?_ _))).mono ?_
        rintro e wq ⟨rfl, hwx⟩
        have hwq : Later w4 wq := Later.trans (by repeat (first | exact Later.rfl | refine Later.drew ?_ | refine Later.alloc ?_ _)) hwx
        try go_wp2_with fail
        refine hK.out _ _ (by refine HS10.out _ ?_; repeat (first | exact Later.rfl | exact hwq | refine Later.drew ?_ | refine Later.alloc ?_ _ | refine later_setrow4 ?_ (by first | exact Nat.le_refl _ | exact hwq.size))) (fun hHeld => ?_)
        clear hK K
        try simp only [Act.put, List.setIfInBounds_toArray, List.set_cons_zero, List.set_cons_succ]
        refine tk 11 (some 54) (v := ?_) ?_ ?_; rotate_left 1; (intro w hSw; (try dsimp only at hSw); go_simp <;> with_reducible rfl); try simp only [Act.put, List.setIfInBounds_toArray, List.set_cons_zero, List.set_cons_succ]
        refine tk 12 (some 66) (v := ?_) ?_ ?_; rotate_left 1; (intro w hSw; (try dsimp only at hSw); go_simp <;> with_reducible rfl); try simp only [Act.put, List.setIfInBounds_toArray, List.set_cons_zero, List.set_cons_succ]
        refine tk 13 (some 67) (v := ?_) ?_ ?_; rotate_left 1; (intro w hSw; (try dsimp only at hSw); go_simp <;> with_reducible rfl); try simp only [Act.put, List.setIfInBounds_toArray, List.set_cons_zero, List.set_cons_succ]
        refine wpAnyH_ready (rs := [14]) (by kernel_rfl) (by simp) ?_
        refine AllReadyH.cons (o := ⟨some 5, _, _, _, _, _⟩) rfl (fun K hK => ?_) ?_
        · clear hHeld
          go_simp
          refine hK.out _ _ (by refine HS10.out _ ?_; repeat (first | exact Later.rfl | exact hwq | refine Later.drew ?_ | refine Later.alloc ?_ _ | refine later_setrow4 ?_ (by first | exact Nat.le_refl _ | exact hwq.size))) (fun hHeld => ?_)
          clear hK K
          try simp only [Act.put, List.setIfInBounds_toArray, List.set_cons_zero, List.set_cons_succ]
          refine wpAnyH_ready (rs := [15]) (by kernel_rfl) (by simp) ?_
          refine AllReadyH.cons (o := ⟨none, _, _, _, _, _⟩) rfl (fun K hK => ?_) ?_
          · clear hHeld
            rw [if_pos (by rfl)]
            refine wp_store_row 101 (.tmp 5) (.tmp 66) rfl _ #[.int .i64 x.f, .int .i64 x.t, .int .u8 (x.c : Int)] rfl rfl 101 _ (by first | exact Later.blk hwx ((Blk.new w4 101 #[.int .i64 0, .int .i64 0, .int .u8 0]).drewN 1) | exact Later.blk hwx (Blk.new _ 101 #[.int .i64 0, .int .i64 0, .int .u8 0]) | exact Blk.new _ _ _) (by kernel_rfl) (by simp) (by simp [Value.oneCell']) ?_
            refine hK.out _ _ (by refine HS10.out _ ?_; repeat (first | exact Later.rfl | exact hwq | refine Later.drew ?_ | refine Later.alloc ?_ _ | refine later_setrow4 ?_ (by first | exact Nat.le_refl _ | exact hwq.size))) (fun hHeld => ?_)
            clear hK K
            try simp only [Act.put]
            refine tk 16 (some 6) (v := ?_) ?_ ?_; rotate_left 1; (intro w hSw; (try dsimp only at hSw); go_simp <;> with_reducible rfl); try simp only [Act.put, List.setIfInBounds_toArray, List.set_cons_zero, List.set_cons_succ]
            refine wpAnyH_done (by kernel_rfl) ?_ _
            go_wp2_with fail
            go_meet
            case rel => exact ⟨_, rfl, rfl, setRow_blkH (by first | exact Later.blk hwx ((Blk.new w4 101 #[.int .i64 0, .int .i64 0, .int .u8 0]).drewN 1) | exact Later.blk hwx (Blk.new _ 101 #[.int .i64 0, .int .i64 0, .int .u8 0]) | exact Blk.new _ _ _), by repeat (first | exact Later.rfl | exact hwq | refine Later.drew ?_ | refine Later.alloc ?_ _ | refine later_setrow4 ?_ (by first | exact Nat.le_refl _ | exact hwq.size)), by first | exact Nat.le_refl _ | exact hwq.size⟩
          exact AllReadyH.nil
        exact AllReadyH.nil
      refine AllReadyH.cons (o := ⟨some 5, _, _, _, _, _⟩) rfl (fun K hK => ?_) ?_
      · clear hHeld
        go_simp
        refine hK.out _ _ (by refine HS10.out _ ?_; repeat (first | exact Later.rfl | exact hwq | refine Later.drew ?_ | refine Later.alloc ?_ _ | refine later_setrow4 ?_ (by first | exact Nat.le_refl _ | exact hwq.size))) (fun hHeld => ?_)
        clear hK K
        try simp only [Act.put, List.setIfInBounds_toArray, List.set_cons_zero, List.set_cons_succ]
        refine wpAnyH_ready (rs := [10]) (by kernel_rfl) (by simp) ?_
        refine AllReadyH.cons (o := ⟨some 65, _, _, _, _, _⟩) rfl (fun K hK => ?_) ?_
        · clear hHeld
          go_simp
          go_at_call 52
          refine (Hrd.out _ (by repeat (first | exact Later.rfl | refine Later.drew ?_ | refine Later.alloc ?_ _))).mono ?_
          rintro e wq ⟨rfl, hwx⟩
          have hwq : Later w4 wq := Later.trans (by repeat (first | exact Later.rfl | refine Later.drew ?_ | refine Later.alloc ?_ _)) hwx
          try go_wp2_with fail
          refine hK.out _ _ (by refine HS10.out _ ?_; repeat (first | exact Later.rfl | exact hwq | refine Later.drew ?_ | refine Later.alloc ?_ _ | refine later_setrow4 ?_ (by first | exact Nat.le_refl _ | exact hwq.size))) (fun hHeld => ?_)
          clear hK K
          try simp only [Act.put, List.setIfInBounds_toArray, List.set_cons_zero, List.set_cons_succ]
          refine tk 11 (some 54) (v := ?_) ?_ ?_; rotate_left 1; (intro w hSw; (try dsimp only at hSw); go_simp <;> with_reducible rfl); try simp only [Act.put, List.setIfInBounds_toArray, List.set_cons_zero, List.set_cons_succ]
          refine tk 12 (some 66) (v := ?_) ?_ ?_; rotate_left 1; (intro w hSw; (try dsimp only at hSw); go_simp <;> with_reducible rfl); try simp only [Act.put, List.setIfInBounds_toArray, List.set_cons_zero, List.set_cons_succ]
          refine tk 13 (some 67) (v := ?_) ?_ ?_; rotate_left 1; (intro w hSw; (try dsimp only at hSw); go_simp <;> with_reducible rfl); try simp only [Act.put, List.setIfInBounds_toArray, List.set_cons_zero, List.set_cons_succ]
          refine wpAnyH_ready (rs := [15]) (by kernel_rfl) (by simp) ?_
          refine AllReadyH.cons (o := ⟨none, _, _, _, _, _⟩) rfl (fun K hK => ?_) ?_
          · clear hHeld
            rw [if_pos (by rfl)]
            refine wp_store_row 101 (.tmp 5) (.tmp 66) rfl _ #[.int .i64 x.f, .int .i64 x.t, .int .u8 (x.c : Int)] rfl rfl 101 _ (by first | exact Later.blk hwx ((Blk.new w4 101 #[.int .i64 0, .int .i64 0, .int .u8 0]).drewN 1) | exact Later.blk hwx (Blk.new _ 101 #[.int .i64 0, .int .i64 0, .int .u8 0]) | exact Blk.new _ _ _) (by kernel_rfl) (by simp) (by simp [Value.oneCell']) ?_
            refine hK.out _ _ (by refine HS10.out _ ?_; repeat (first | exact Later.rfl | exact hwq | refine Later.drew ?_ | refine Later.alloc ?_ _ | refine later_setrow4 ?_ (by first | exact Nat.le_refl _ | exact hwq.size))) (fun hHeld => ?_)
            clear hK K
            try simp only [Act.put]
            refine tk 16 (some 6) (v := ?_) ?_ ?_; rotate_left 1; (intro w hSw; (try dsimp only at hSw); go_simp <;> with_reducible rfl); try simp only [Act.put, List.setIfInBounds_toArray, List.set_cons_zero, List.set_cons_succ]
            refine wpAnyH_done (by kernel_rfl) ?_ _
            go_wp2_with fail
            go_meet
            case rel => exact ⟨_, rfl, rfl, setRow_blkH (by first | exact Later.blk hwx ((Blk.new w4 101 #[.int .i64 0, .int .i64 0, .int .u8 0]).drewN 1) | exact Later.blk hwx (Blk.new _ 101 #[.int .i64 0, .int .i64 0, .int .u8 0]) | exact Blk.new _ _ _), by repeat (first | exact Later.rfl | exact hwq | refine Later.drew ?_ | refine Later.alloc ?_ _ | refine later_setrow4 ?_ (by first | exact Nat.le_refl _ | exact hwq.size)), by first | exact Nat.le_refl _ | exact hwq.size⟩
          exact AllReadyH.nil
        exact AllReadyH.nil
      exact AllReadyH.nil
    case rest =>
      obtain ⟨gq, rfl, rfl, hq5, hl5, hgq⟩ := hcut
      rename World => w5
      have Hg5 := hide hq5
      clear hq5 Hrd HS10
      have Hb5 := hide (Hb4.out.later hl5)
      have Hm5 := hide (Later.blk hl5 Hm4.out)
      have HZ5 := hide (Later.blk hl5 HZ4.out)
      have HO5 := hide (HO4.out.trans' (later_only hl5) (fun _ _ h => h.elim))
      have HP5 := hide (HP4.out.only (later_only hl5) (fun _ h => h.elim))
      have hs5z : W.heap.size + 1 + 1 ≤ w5.heap.size := Nat.le_trans hs4z (hl5).size
      clear Hb4 Hm4 HZ4 HO4 HP4 hs4z
      clear hl5
      have hgqb : W.heap.size + 1 + 1 ≤ gq := Nat.le_trans hs4w hgq
      clear hgq
      have HE5 := hide (Hen.out.step HO5.out (fun i hi => hi.elim (fun hi => by omega) (fun hi => by have := Hvb.out i hi; omega)))
      have hply0 := Hok2.out.ply
      have hply1 := Hok2.out.plies
      have hpl2 := Hok2.out.of.rules.pl2
      have hlen := Hok2.out.len
      rw [He.out.2.2.2.2] at hlen
      have hmvl : m.mv.size ≤ 6 := by rw [← Hxs.out.2]; show (mv_textL s.p x).toArray.size ≤ 6; simpa using mtext_le s.p x
      have hi1 := itoa_le hply0 (by omega)
      have hi2 := itoa_le Hok2.out.now Hok2.out.nowb
      have Hi1 := hide (fun w (hw : Later w5 w) => itoa_out s2.ply w hply0 (by omega) (HE5.out.no (later_only hw)))
      have Hi2 := hide (fun w (hw : Later w5 w) => itoa_out s2.now w Hok2.out.now Hok2.out.nowb (HE5.out.no (later_only hw)))
      obtain ⟨a1, ha1⟩ : ∃ a1, bytes (Lib.itoa s2.ply) = a1 := ⟨_, rfl⟩
      obtain ⟨a2, ha2⟩ : ∃ a2, bytes (Lib.itoa s2.now) = a2 := ⟨_, rfl⟩
      rw [ha1] at Hi1
      rw [ha2] at Hi2
      have l1 : a1.size ≤ 20 := by rw [← ha1]; show (Lib.itoa s2.ply).toArray.size ≤ 20; simpa using hi1
      have l2 : a2.size ≤ 20 := by rw [← ha2]; show (Lib.itoa s2.now).toArray.size ≤ 20; simpa using hi2
      have Ha1 := hide ha1
      have Ha2 := hide ha2
      clear ha1 ha2 hi1 hi2
      have HS13 := hide (show ∀ w' : World, Later w5 w' → (w'.cell? ⟨h, 22, none⟩ = some (.int .i64 s2.ply) ∧ w'.cell? ⟨h, 2, none⟩ = some (.int .i64 s2.now) ∧ w'.cell? ⟨W.heap.size, 2, none⟩ = some (.string m.mv)) from fun w' hw => by
        obtain ⟨_, _, c2⟩ := (Hb5.out.later hw).clock
        obtain ⟨t0, _⟩ := (Hb5.out.later hw).rest
        exact ⟨t0, c2, (Later.blk hw Hm5.out).cellv rfl⟩)
      have HS13b := hide (show ∀ (w' : World) (v6 : Value) (ll : List UInt8), HB w' B h (hoC s2 A cp (.pointer (some ⟨h, 24, none⟩)) v6) v6 ll → Only (fun x => x = h ∨ v.ownBlock = some x) w5 w' → (w'.cell? ⟨h, 22, none⟩ = some (.int .i64 s2.ply) ∧ w'.cell? ⟨h, 2, none⟩ = some (.int .i64 s2.now) ∧ w'.cell? ⟨W.heap.size, 2, none⟩ = some (.string m.mv)) from fun w' v6 ll hb ho => by
        obtain ⟨_, _, c2⟩ := hb.clock
        obtain ⟨t0, _⟩ := hb.rest
        exact ⟨t0, c2, (Hm5.out.only ho (fun hh => hh.elim (fun hh => by omega) (fun hh => by have := Hvl.out _ hh; omega))).cellv rfl⟩)
      have Hok9 := hide (show HoOk (doneP s2 m x) from done_ok Hok2.out (by rw [He.out.2.2.1, He.out.1]; exact hpl) Hxm.out (by rw [He.out.2.1]; exact Hxs.out.2))
      have n0b : ¬ (9223372036854775807 < a1.size + 1) := by omega
      have n1a : ¬ (9223372036854775807 < (a1 ++ ⟨#[32]⟩).size + a2.size) := by simp only [ByteArray.size_append, show (⟨#[32]⟩ : ByteArray).size = 1 from rfl]; omega
      have n1b : ¬ (9223372036854775807 < a1.size + 1 + a2.size) := by omega
      have n2a : ¬ (9223372036854775807 < (a1 ++ ⟨#[32]⟩ ++ a2).size + 1) := by simp only [ByteArray.size_append, show (⟨#[32]⟩ : ByteArray).size = 1 from rfl]; omega
      have n2b : ¬ (9223372036854775807 < a1.size + 1 + a2.size + 1) := by omega
      have n3a : ¬ (9223372036854775807 < (a1 ++ ⟨#[32]⟩ ++ a2 ++ ⟨#[32]⟩).size + m.mv.size) := by simp only [ByteArray.size_append, show (⟨#[32]⟩ : ByteArray).size = 1 from rfl]; omega
      have n3b : ¬ (9223372036854775807 < a1.size + 1 + a2.size + 1 + m.mv.size) := by omega
      have n4a : ¬ (9223372036854775807 < (a1 ++ ⟨#[32]⟩ ++ a2 ++ ⟨#[32]⟩ ++ m.mv).size + 1) := by simp only [ByteArray.size_append, show (⟨#[32]⟩ : ByteArray).size = 1 from rfl]; omega
      have n4b : ¬ (9223372036854775807 < a1.size + 1 + a2.size + 1 + m.mv.size + 1) := by omega
      go_upto_region 13 with (fail)
      refine wp_region_held_drew (S := fun w' : World => (w'.cell? ⟨h, 22, none⟩ = some (.int .i64 s2.ply) ∧ w'.cell? ⟨h, 2, none⟩ = some (.int .i64 s2.now) ∧ w'.cell? ⟨W.heap.size, 2, none⟩ = some (.string m.mv))) (by kernel_rfl) (HS13.out _ Later.rfl.drew) (fun hHeld => ?_)
      refine tk 0 (some 72) (v := ?_) ?_ ?_; rotate_left 1; (intro w hSw; (try dsimp only at hSw); go_simp <;> with_reducible rfl); try simp only [Act.put, List.setIfInBounds_toArray, List.set_cons_zero, List.set_cons_succ]
      refine tk 1 (some 73) (v := ?_) ?_ ?_; rotate_left 1; (intro w hSw; (try dsimp only at hSw); go_simp <;> with_reducible rfl); try simp only [Act.put, List.setIfInBounds_toArray, List.set_cons_zero, List.set_cons_succ]
      refine tk 2 (some 74) (v := ?_) ?_ ?_; rotate_left 1; (intro w hSw; (try dsimp only at hSw); go_simp <;> with_reducible rfl); try simp only [Act.put, List.setIfInBounds_toArray, List.set_cons_zero, List.set_cons_succ]
      refine tk 3 (some 75) (v := ?_) ?_ ?_; rotate_left 1; (intro w hSw; (try dsimp only at hSw); go_simp <;> with_reducible rfl); try simp only [Act.put, List.setIfInBounds_toArray, List.set_cons_zero, List.set_cons_succ]
      refine tk 4 (some 76) (v := ?_) ?_ ?_; rotate_left 1; (intro w hSw; (try dsimp only at hSw); go_simp <;> with_reducible rfl); try simp only [Act.put, List.setIfInBounds_toArray, List.set_cons_zero, List.set_cons_succ]
      refine tk 5 (some 77) (v := ?_) ?_ ?_; rotate_left 1; (intro w hSw; (try dsimp only at hSw); go_simp <;> with_reducible rfl); try simp only [Act.put, List.setIfInBounds_toArray, List.set_cons_zero, List.set_cons_succ]
      refine tk 6 (some 78) (v := ?_) ?_ ?_; rotate_left 1; (intro w hSw; (try dsimp only at hSw); go_simp <;> with_reducible rfl); try simp only [Act.put, List.setIfInBounds_toArray, List.set_cons_zero, List.set_cons_succ]
      refine tk 9 (some 81) (v := ?_) ?_ ?_; rotate_left 1; (intro w hSw; (try dsimp only at hSw); go_simp <;> with_reducible rfl); try simp only [Act.put, List.setIfInBounds_toArray, List.set_cons_zero, List.set_cons_succ]
      refine tk 10 (some 82) (v := ?_) ?_ ?_; rotate_left 1; (intro w hSw; (try dsimp only at hSw); go_simp <;> with_reducible rfl); try simp only [Act.put, List.setIfInBounds_toArray, List.set_cons_zero, List.set_cons_succ]
      refine tk 11 (some 83) (v := ?_) ?_ ?_; rotate_left 1; (intro w hSw; (try dsimp only at hSw); go_simp <;> with_reducible rfl); try simp only [Act.put, List.setIfInBounds_toArray, List.set_cons_zero, List.set_cons_succ]
      refine tk 12 (some 84) (v := ?_) ?_ ?_; rotate_left 1; (intro w hSw; (try dsimp only at hSw); go_simp <;> with_reducible rfl); try simp only [Act.put, List.setIfInBounds_toArray, List.set_cons_zero, List.set_cons_succ]
      refine tk 13 (some 85) (v := ?_) ?_ ?_; rotate_left 1; (intro w hSw; (try dsimp only at hSw); go_simp <;> with_reducible rfl); try simp only [Act.put, List.setIfInBounds_toArray, List.set_cons_zero, List.set_cons_succ]
      refine tk 17 (some 89) (v := ?_) ?_ ?_; rotate_left 1; (intro w hSw; (try dsimp only at hSw); go_simp <;> with_reducible rfl); try simp only [Act.put, List.setIfInBounds_toArray, List.set_cons_zero, List.set_cons_succ]
      refine tk 18 (some 90) (v := ?_) ?_ ?_; rotate_left 1; (intro w hSw; (try dsimp only at hSw); go_simp <;> with_reducible rfl); try simp only [Act.put, List.setIfInBounds_toArray, List.set_cons_zero, List.set_cons_succ]
      refine wpAnyH_ready (rs := [7]) (by kernel_rfl) (by simp) ?_
      refine AllReadyH.cons (o := ⟨some 79, _, _, _, _, _⟩) rfl (fun K hK => ?_) ?_
      · clear hHeld
        go_simp
        go_at_call 29
        refine (Hi1.out _ (by repeat (first | exact Later.rfl | refine Later.drew ?_ | refine Later.alloc ?_ _))).mono ?_
        rintro e wi ⟨rfl, hwi⟩
        have hwq : Later w5 wi := Later.trans (by repeat (first | exact Later.rfl | refine Later.drew ?_ | refine Later.alloc ?_ _)) hwi
        try go_wp2_with fail
        refine hK.out _ _ (by first | exact Hk6.out | (refine HS13.out _ ?_; repeat (first | exact Later.rfl | exact hwr | exact hwq | refine Later.drew ?_ | refine Later.alloc ?_ _))) (fun hHeld => ?_)
        clear hK K
        try simp only [Act.put, List.setIfInBounds_toArray, List.set_cons_zero, List.set_cons_succ]
        refine tk 8 (some 80) (v := ?_) ?_ ?_; rotate_left 1; (intro w hSw; (try dsimp only at hSw); go_simp <;> with_reducible rfl); try simp only [Act.put, List.setIfInBounds_toArray, List.set_cons_zero, List.set_cons_succ]
        refine wpAnyH_ready (rs := [14]) (by kernel_rfl) (by simp) ?_
        refine AllReadyH.cons (o := ⟨some 86, _, _, _, _, _⟩) rfl (fun K hK => ?_) ?_
        · clear hHeld
          go_simp
          go_at_call 29
          refine (Hi2.out _ (by repeat (first | exact Later.rfl | exact hwq | refine Later.drew ?_ | refine Later.alloc ?_ _))).mono ?_
          rintro e wj ⟨rfl, hwj⟩
          have hwr : Later w5 wj := Later.trans (by repeat (first | exact Later.rfl | exact hwq | refine Later.drew ?_ | refine Later.alloc ?_ _)) hwj
          try go_wp2_with fail
          refine hK.out _ _ (by first | exact Hk6.out | (refine HS13.out _ ?_; repeat (first | exact Later.rfl | exact hwr | exact hwq | refine Later.drew ?_ | refine Later.alloc ?_ _))) (fun hHeld => ?_)
          clear hK K
          try simp only [Act.put, List.setIfInBounds_toArray, List.set_cons_zero, List.set_cons_succ]
          refine tk 15 (some 87) (v := ?_) ?_ ?_; rotate_left 1; (intro w hSw; (try dsimp only at hSw); go_simp <;> with_reducible rfl); try simp only [Act.put, List.setIfInBounds_toArray, List.set_cons_zero, List.set_cons_succ]
          refine tk 16 (some 88) (v := ?_) ?_ ?_; rotate_left 1; (intro w hSw; (try dsimp only at hSw); go_simp <;> with_reducible rfl); try simp only [Act.put, List.setIfInBounds_toArray, List.set_cons_zero, List.set_cons_succ]
          refine tk 19 (some 91) (v := ?_) ?_ ?_; rotate_left 1; (intro w hSw; (try dsimp only at hSw); go_simp <;> with_reducible rfl); try simp only [Act.put, List.setIfInBounds_toArray, List.set_cons_zero, List.set_cons_succ]
          refine tk 20 (some 92) (v := ?_) ?_ ?_; rotate_left 1; (intro w hSw; (try dsimp only at hSw); go_simp <;> with_reducible rfl); try simp only [Act.put, List.setIfInBounds_toArray, List.set_cons_zero, List.set_cons_succ]
          refine wpAnyH_ready (rs := [21]) (by kernel_rfl) (by simp) ?_
          refine AllReadyH.cons (o := ⟨some 93, _, _, _, _, _⟩) rfl (fun K hK => ?_) ?_
          · clear hHeld
            go_simp
            go_at_call 62
            refine (hwstr_any B h (hoC s2 A cp ad v) v s.lines _ _ (Hb5.out.later (by repeat (first | exact Later.rfl | exact hwr | refine Later.drew ?_ | refine Later.alloc ?_ _))) ?hlen (Nat.le_trans hBW (Nat.le_trans (by omega) ((by repeat (first | exact Later.rfl | exact hwr | refine Later.drew ?_ | refine Later.alloc ?_ _)) : Later w5 _).size))).mono ?_
            case hlen => simp only [ByteArray.size_append, show (⟨#[32]⟩ : ByteArray).size = 1 from rfl, show (⟨#[10]⟩ : ByteArray).size = 1 from rfl]; omega
            rintro e w6 ⟨rfl, v6, hb6, hl6, ho6⟩
            have Hb6 := hide hb6
            have Hl6 := hide hl6
            have Ho6 := hide (show Only (fun x => x = h ∨ v.ownBlock = some x) w5 w6 from ((later_only ((by repeat (first | exact Later.rfl | exact hwr | refine Later.drew ?_ | refine Later.alloc ?_ _)) : Later w5 _)).mono (fun _ _ h => h.elim)).trans' ho6 (fun _ _ h => h))
            have Hk6 := hide (show w6.cell? ⟨h, 22, none⟩ = some (.int .i64 s2.ply) ∧ w6.cell? ⟨h, 2, none⟩ = some (.int .i64 s2.now) ∧ w6.cell? ⟨W.heap.size, 2, none⟩ = some (.string m.mv) from HS13b.out w6 v6 _ hb6 Ho6.out)
            clear hb6 hl6 ho6
            try go_wp2_with fail
            refine hK.out _ _ (by first | exact Hk6.out | (refine HS13.out _ ?_; repeat (first | exact Later.rfl | exact hwr | exact hwq | refine Later.drew ?_ | refine Later.alloc ?_ _))) (fun hHeld => ?_)
            clear hK K
            try simp only [Act.put, List.setIfInBounds_toArray, List.set_cons_zero, List.set_cons_succ]
            refine wpAnyH_done (by kernel_rfl) ?_ _
            have Hm6 := hide (Hm5.out.only Ho6.out (fun hh => hh.elim (fun hh => by omega) (fun hh => by have := Hvl.out _ hh; omega)))
            have HZ6 := hide (HZ5.out.only Ho6.out (fun hh => hh.elim (fun hh => by omega) (fun hh => by have := Hvl.out _ hh; omega)))
            have Hg6 := hide (Hg5.out.only Ho6.out (fun hh => hh.elim (fun hh => by omega) (fun hh => by have := Hvl.out _ hh; omega)))
            have HO6 := hide (HO5.out.trans' Ho6.out (fun _ _ h => h))
            have HP6 := hide (HP5.out.only Ho6.out (fun k hk hq => hk.elim (fun hk => by omega) (fun hk => by have := Hvb.out _ hk; omega)))
            have hs6z : W.heap.size + 1 + 1 ≤ w6.heap.size := Nat.le_trans hs5z Ho6.out.size
            have hln0 : ∀ S : ByteArray, S.data.toList = lineH s2 m.mv → s.lines ++ S.data.toList = (doneP s2 m x).lines := fun S h => by rw [h, ← He.out.2.2.2.2]; rfl
            obtain ⟨ln, hln⟩ : ∃ ln, (doneP s2 m x).lines = ln := ⟨_, rfl⟩
            have Hln := hide hln
            rw [hln0 _ (by rw [← Ha1.out, ← Ha2.out]; simp [lineH, bytes]), hln] at Hb6
            have Hb6 := hide (show HB w6 B h (hoC s2 A cp (.pointer (some ⟨h, 24, none⟩)) v6) v6 ln from Hb6.out)
            have Hv6 := hide (show ∀ k, v6.ownBlock = some k → k < W.heap.size ∨ W.heap.size + 2 ≤ k from fun k hk => by
              rcases Hl6.out with h1 | ⟨g, h1, h2⟩
              · rw [h1] at hk; exact .inl (Hvl.out k hk)
              · rw [h1] at hk; injection hk with hk; have := hwr.size; right; omega)
            have Hv6l := hide (show v6.ownBlock = v.ownBlock ∨ ∃ g, v6.ownBlock = some g ∧ W.heap.size ≤ g from by
              rcases Hl6.out with h1 | ⟨g, h1, h2⟩
              · exact .inl h1
              · have := hwr.size; exact .inr ⟨g, h1, by omega⟩)
            clear hln hln0 Hm5 HZ5 Hg5 HO5 HP5 hs5z Ho6 Hk6 HS13 HS13b Hi1 Hi2 hwi hwj hwq hwr hHeld Hl6 Hb5
            obtain ⟨q2, hq2⟩ : ∃ q2, madeP s2.r s2.p x = q2 := ⟨_, rfl⟩
            have Hq2 := hide hq2
            have Hap := hide (fun w (hw : Later w6 w) => ma_ok s2.r A cp s2.p x q2 w (ho_rfit Hok2.out.of.rules) (ho_pfit Hok2.out.of.pos) (HP6.out.only (later_only hw) (fun _ h => h.elim)).at_ Hok2.out.of Hxm.out hq2)
            have HS14b := hide (show ∀ w' : World, HB w' B h (hoC { s2 with p := q2 } A cp (.pointer (some ⟨h, 24, none⟩)) v6) v6 ln → Only (fun x => x = h) w6 w' → (w'.cell? ⟨h, 3, none⟩ = some (.int .i64 s2.r.start.w) ∧ w'.cell? ⟨h, 4, none⟩ = some (.int .i64 s2.r.start.h) ∧ w'.cell? ⟨h, 5, none⟩ = some (.string s2.r.start.cells) ∧ w'.cell? ⟨h, 6, none⟩ = some (.int .i64 s2.r.start.turn) ∧ w'.cell? ⟨h, 7, none⟩ = some (.string s2.r.start.h0) ∧ w'.cell? ⟨h, 8, none⟩ = some (.string s2.r.start.h1) ∧ w'.cell? ⟨h, 9, none⟩ = some (.slice A s2.r.pieces.length cp) ∧ w'.cell? ⟨h, 10, none⟩ = some (.bool s2.r.drops) ∧ w'.cell? ⟨h, 11, none⟩ = some (.int .u8 (s2.r.lose : Int)) ∧ w'.cell? ⟨h, 12, none⟩ = some (.int .i64 s2.r.line) ∧ w'.cell? ⟨h, 13, none⟩ = some (.int .u8 (s2.r.reach : Int)) ∧ w'.cell? ⟨h, 14, none⟩ = some (.bool s2.r.stuck) ∧ w'.cell? ⟨h, 15, none⟩ = some (.int .i64 s2.r.plies) ∧ w'.cell? ⟨gq, 0, none⟩ = some (.int .i64 x.f) ∧ w'.cell? ⟨gq, 1, none⟩ = some (.int .i64 x.t) ∧ w'.cell? ⟨gq, 2, none⟩ = some (.int .u8 (x.c : Int))) from fun w' hb ho => by
              obtain ⟨r0, r1, r2, r3, r4, r5, r6, r7, r8, r9, r10, r11, r12⟩ := hb.rules
              exact ⟨r0, r1, r2, r3, r4, r5, r6, r7, r8, r9, r10, r11, r12, (Hg6.out.only ho (by omega)).cellv rfl, (Hg6.out.only ho (by omega)).cellv rfl, (Hg6.out.only ho (by omega)).cellv rfl⟩)
            have HS14 := hide (show ∀ w' : World, Later w6 w' → (w'.cell? ⟨h, 3, none⟩ = some (.int .i64 s2.r.start.w) ∧ w'.cell? ⟨h, 4, none⟩ = some (.int .i64 s2.r.start.h) ∧ w'.cell? ⟨h, 5, none⟩ = some (.string s2.r.start.cells) ∧ w'.cell? ⟨h, 6, none⟩ = some (.int .i64 s2.r.start.turn) ∧ w'.cell? ⟨h, 7, none⟩ = some (.string s2.r.start.h0) ∧ w'.cell? ⟨h, 8, none⟩ = some (.string s2.r.start.h1) ∧ w'.cell? ⟨h, 9, none⟩ = some (.slice A s2.r.pieces.length cp) ∧ w'.cell? ⟨h, 10, none⟩ = some (.bool s2.r.drops) ∧ w'.cell? ⟨h, 11, none⟩ = some (.int .u8 (s2.r.lose : Int)) ∧ w'.cell? ⟨h, 12, none⟩ = some (.int .i64 s2.r.line) ∧ w'.cell? ⟨h, 13, none⟩ = some (.int .u8 (s2.r.reach : Int)) ∧ w'.cell? ⟨h, 14, none⟩ = some (.bool s2.r.stuck) ∧ w'.cell? ⟨h, 15, none⟩ = some (.int .i64 s2.r.plies) ∧ w'.cell? ⟨gq, 0, none⟩ = some (.int .i64 x.f) ∧ w'.cell? ⟨gq, 1, none⟩ = some (.int .i64 x.t) ∧ w'.cell? ⟨gq, 2, none⟩ = some (.int .u8 (x.c : Int))) from fun w' hw => by
              obtain ⟨r0, r1, r2, r3, r4, r5, r6, r7, r8, r9, r10, r11, r12⟩ := (Hb6.out.later hw).rules
              exact ⟨r0, r1, r2, r3, r4, r5, r6, r7, r8, r9, r10, r11, r12, (Later.blk hw Hg6.out).cellv rfl, (Later.blk hw Hg6.out).cellv rfl, (Later.blk hw Hg6.out).cellv rfl⟩)
            clear hq2
            obtain ⟨p0, p1, p2, p3, p4, p5⟩ := Hb6.out.pos
            go_upto_region 14 with (fail)
            refine wp_region_held_drew (S := fun w' : World => (w'.cell? ⟨h, 3, none⟩ = some (.int .i64 s2.r.start.w) ∧ w'.cell? ⟨h, 4, none⟩ = some (.int .i64 s2.r.start.h) ∧ w'.cell? ⟨h, 5, none⟩ = some (.string s2.r.start.cells) ∧ w'.cell? ⟨h, 6, none⟩ = some (.int .i64 s2.r.start.turn) ∧ w'.cell? ⟨h, 7, none⟩ = some (.string s2.r.start.h0) ∧ w'.cell? ⟨h, 8, none⟩ = some (.string s2.r.start.h1) ∧ w'.cell? ⟨h, 9, none⟩ = some (.slice A s2.r.pieces.length cp) ∧ w'.cell? ⟨h, 10, none⟩ = some (.bool s2.r.drops) ∧ w'.cell? ⟨h, 11, none⟩ = some (.int .u8 (s2.r.lose : Int)) ∧ w'.cell? ⟨h, 12, none⟩ = some (.int .i64 s2.r.line) ∧ w'.cell? ⟨h, 13, none⟩ = some (.int .u8 (s2.r.reach : Int)) ∧ w'.cell? ⟨h, 14, none⟩ = some (.bool s2.r.stuck) ∧ w'.cell? ⟨h, 15, none⟩ = some (.int .i64 s2.r.plies) ∧ w'.cell? ⟨gq, 0, none⟩ = some (.int .i64 x.f) ∧ w'.cell? ⟨gq, 1, none⟩ = some (.int .i64 x.t) ∧ w'.cell? ⟨gq, 2, none⟩ = some (.int .u8 (x.c : Int)))) (by kernel_rfl) (HS14.out _ Later.rfl.drew) (fun hHeld => ?_)
            refine tk 0 (some 95) (v := ?_) ?_ ?_; rotate_left 1; (intro w hSw; (try dsimp only at hSw); go_simp <;> with_reducible rfl); try simp only [Act.put, List.setIfInBounds_toArray, List.set_cons_zero, List.set_cons_succ]
            refine tk 1 (some 96) (v := ?_) ?_ ?_; rotate_left 1; (intro w hSw; (try dsimp only at hSw); go_simp <;> with_reducible rfl); try simp only [Act.put, List.setIfInBounds_toArray, List.set_cons_zero, List.set_cons_succ]
            refine tk 2 (some 97) (v := ?_) ?_ ?_; rotate_left 1; (intro w hSw; (try dsimp only at hSw); go_simp <;> with_reducible rfl); try simp only [Act.put, List.setIfInBounds_toArray, List.set_cons_zero, List.set_cons_succ]
            refine tk 3 (some 98) (v := ?_) ?_ ?_; rotate_left 1; (intro w hSw; (try dsimp only at hSw); go_simp <;> with_reducible rfl); try simp only [Act.put, List.setIfInBounds_toArray, List.set_cons_zero, List.set_cons_succ]
            refine tk 4 (some 99) (v := ?_) ?_ ?_; rotate_left 1; (intro w hSw; (try dsimp only at hSw); go_simp <;> with_reducible rfl); try simp only [Act.put, List.setIfInBounds_toArray, List.set_cons_zero, List.set_cons_succ]
            refine tk 5 (some 100) (v := ?_) ?_ ?_; rotate_left 1; (intro w hSw; (try dsimp only at hSw); go_simp <;> with_reducible rfl); try simp only [Act.put, List.setIfInBounds_toArray, List.set_cons_zero, List.set_cons_succ]
            refine tk 6 (some 101) (v := ?_) ?_ ?_; rotate_left 1; (intro w hSw; (try dsimp only at hSw); go_simp <;> with_reducible rfl); try simp only [Act.put, List.setIfInBounds_toArray, List.set_cons_zero, List.set_cons_succ]
            refine tk 7 (some 102) (v := ?_) ?_ ?_; rotate_left 1; (intro w hSw; (try dsimp only at hSw); go_simp <;> with_reducible rfl); try simp only [Act.put, List.setIfInBounds_toArray, List.set_cons_zero, List.set_cons_succ]
            refine tk 9 (some 104) (v := ?_) ?_ ?_; rotate_left 1; (intro w hSw; (try dsimp only at hSw); go_simp <;> with_reducible rfl); try simp only [Act.put, List.setIfInBounds_toArray, List.set_cons_zero, List.set_cons_succ]
            refine wpAnyH_ready (rs := [8]) (by kernel_rfl) (by simp) ?_
            refine AllReadyH.cons (o := ⟨some 103, _, _, _, _, _⟩) rfl (fun K hK => ?_) ?_
            · clear hHeld
              go_simp
              refine hK.out _ _ (by first | exact Hk7.out | (refine HS14.out _ ?_; repeat (first | exact Later.rfl | exact hwq | refine Later.drew ?_ | refine Later.alloc ?_ _))) (fun hHeld => ?_)
              clear hK K
              try simp only [Act.put, List.setIfInBounds_toArray, List.set_cons_zero, List.set_cons_succ]
              refine wpAnyH_ready (rs := [10]) (by kernel_rfl) (by simp) ?_
              refine AllReadyH.cons (o := ⟨some 105, _, _, _, _, _⟩) rfl (fun K hK => ?_) ?_
              · clear hHeld
                go_simp
                go_at_call 53
                refine (Hap.out _ (by repeat (first | exact Later.rfl | refine Later.drew ?_ | refine Later.alloc ?_ _))).mono ?_
                rintro e wq ⟨rfl, hwx⟩
                have hwq : Later w6 wq := Later.trans (by repeat (first | exact Later.rfl | refine Later.drew ?_ | refine Later.alloc ?_ _)) hwx
                try go_wp2_with fail
                refine hK.out _ _ (by first | exact Hk7.out | (refine HS14.out _ ?_; repeat (first | exact Later.rfl | exact hwq | refine Later.drew ?_ | refine Later.alloc ?_ _))) (fun hHeld => ?_)
                clear hK K
                try simp only [Act.put, List.setIfInBounds_toArray, List.set_cons_zero, List.set_cons_succ]
                refine tk 11 (some 94) (v := ?_) ?_ ?_; rotate_left 1; (intro w hSw; (try dsimp only at hSw); go_simp <;> with_reducible rfl); try simp only [Act.put, List.setIfInBounds_toArray, List.set_cons_zero, List.set_cons_succ]
                refine tk 12 (some 106) (v := ?_) ?_ ?_; rotate_left 1; (intro w hSw; (try dsimp only at hSw); go_simp <;> with_reducible rfl); try simp only [Act.put, List.setIfInBounds_toArray, List.set_cons_zero, List.set_cons_succ]
                refine tk 13 (some 107) (v := ?_) ?_ ?_; rotate_left 1; (intro w hSw; (try dsimp only at hSw); go_simp <;> with_reducible rfl); try simp only [Act.put, List.setIfInBounds_toArray, List.set_cons_zero, List.set_cons_succ]
                refine tk 14 (some 108) (v := ?_) ?_ ?_; rotate_left 1; (intro w hSw; (try dsimp only at hSw); go_simp <;> with_reducible rfl); try simp only [Act.put, List.setIfInBounds_toArray, List.set_cons_zero, List.set_cons_succ]
                refine tk 15 (some 109) (v := ?_) ?_ ?_; rotate_left 1; (intro w hSw; (try dsimp only at hSw); go_simp <;> with_reducible rfl); try simp only [Act.put, List.setIfInBounds_toArray, List.set_cons_zero, List.set_cons_succ]
                refine wpAnyH_ready (rs := [16]) (by kernel_rfl) (by simp) ?_
                refine AllReadyH.cons (o := ⟨none, _, _, _, _, _⟩) rfl (fun K hK => ?_) ?_
                · clear hHeld
                  obtain ⟨p0, p1, p2, p3, p4, p5⟩ := (Hb6.out.later hwq).pos
                  have xf0 := (Hb6.out.later hwq).blk.free 16
                  have xf1 := (Hb6.out.later hwq).blk.free 17
                  have xf2 := (Hb6.out.later hwq).blk.free 18
                  have xf3 := (Hb6.out.later hwq).blk.free 19
                  have xf4 := (Hb6.out.later hwq).blk.free 20
                  have xf5 := (Hb6.out.later hwq).blk.free 21
                  go_simp
                  have Hb7 := hide (show HB ((((((wq.setCell ⟨h, 16, none⟩ (.int .i64 q2.w)).setCell ⟨h, 17, none⟩ (.int .i64 q2.h)).setCell ⟨h, 18, none⟩ (.string q2.cells)).setCell ⟨h, 19, none⟩ (.int .i64 q2.turn)).setCell ⟨h, 20, none⟩ (.string q2.h0)).setCell ⟨h, 21, none⟩ (.string q2.h1)) B h (hoC { s2 with p := q2 } A cp (.pointer (some ⟨h, 24, none⟩)) v6) v6 ln from ((((((Hb6.out.later hwq).set_ 16 (by omega) _).set_ 17 (by omega) _).set_ 18 (by omega) _).set_ 19 (by omega) _).set_ 20 (by omega) _).set_ 21 (by omega) _)
                  have Ho7 := hide (show Only (fun x => x = h) wq ((((((wq.setCell ⟨h, 16, none⟩ (.int .i64 q2.w)).setCell ⟨h, 17, none⟩ (.int .i64 q2.h)).setCell ⟨h, 18, none⟩ (.string q2.cells)).setCell ⟨h, 19, none⟩ (.int .i64 q2.turn)).setCell ⟨h, 20, none⟩ (.string q2.h0)).setCell ⟨h, 21, none⟩ (.string q2.h1)) from ((((((Only.refl (fun x => x = h) wq).setCell (p := ⟨h, 16, none⟩) (.inl rfl) _).setCell (p := ⟨h, 17, none⟩) (.inl rfl) _).setCell (p := ⟨h, 18, none⟩) (.inl rfl) _).setCell (p := ⟨h, 19, none⟩) (.inl rfl) _).setCell (p := ⟨h, 20, none⟩) (.inl rfl) _).setCell (p := ⟨h, 21, none⟩) (.inl rfl) _)
                  have Hk7 := hide (show ((((((wq.setCell ⟨h, 16, none⟩ (.int .i64 q2.w)).setCell ⟨h, 17, none⟩ (.int .i64 q2.h)).setCell ⟨h, 18, none⟩ (.string q2.cells)).setCell ⟨h, 19, none⟩ (.int .i64 q2.turn)).setCell ⟨h, 20, none⟩ (.string q2.h0)).setCell ⟨h, 21, none⟩ (.string q2.h1)).cell? ⟨h, 3, none⟩ = some (.int .i64 s2.r.start.w) ∧ ((((((wq.setCell ⟨h, 16, none⟩ (.int .i64 q2.w)).setCell ⟨h, 17, none⟩ (.int .i64 q2.h)).setCell ⟨h, 18, none⟩ (.string q2.cells)).setCell ⟨h, 19, none⟩ (.int .i64 q2.turn)).setCell ⟨h, 20, none⟩ (.string q2.h0)).setCell ⟨h, 21, none⟩ (.string q2.h1)).cell? ⟨h, 4, none⟩ = some (.int .i64 s2.r.start.h) ∧ ((((((wq.setCell ⟨h, 16, none⟩ (.int .i64 q2.w)).setCell ⟨h, 17, none⟩ (.int .i64 q2.h)).setCell ⟨h, 18, none⟩ (.string q2.cells)).setCell ⟨h, 19, none⟩ (.int .i64 q2.turn)).setCell ⟨h, 20, none⟩ (.string q2.h0)).setCell ⟨h, 21, none⟩ (.string q2.h1)).cell? ⟨h, 5, none⟩ = some (.string s2.r.start.cells) ∧ ((((((wq.setCell ⟨h, 16, none⟩ (.int .i64 q2.w)).setCell ⟨h, 17, none⟩ (.int .i64 q2.h)).setCell ⟨h, 18, none⟩ (.string q2.cells)).setCell ⟨h, 19, none⟩ (.int .i64 q2.turn)).setCell ⟨h, 20, none⟩ (.string q2.h0)).setCell ⟨h, 21, none⟩ (.string q2.h1)).cell? ⟨h, 6, none⟩ = some (.int .i64 s2.r.start.turn) ∧ ((((((wq.setCell ⟨h, 16, none⟩ (.int .i64 q2.w)).setCell ⟨h, 17, none⟩ (.int .i64 q2.h)).setCell ⟨h, 18, none⟩ (.string q2.cells)).setCell ⟨h, 19, none⟩ (.int .i64 q2.turn)).setCell ⟨h, 20, none⟩ (.string q2.h0)).setCell ⟨h, 21, none⟩ (.string q2.h1)).cell? ⟨h, 7, none⟩ = some (.string s2.r.start.h0) ∧ ((((((wq.setCell ⟨h, 16, none⟩ (.int .i64 q2.w)).setCell ⟨h, 17, none⟩ (.int .i64 q2.h)).setCell ⟨h, 18, none⟩ (.string q2.cells)).setCell ⟨h, 19, none⟩ (.int .i64 q2.turn)).setCell ⟨h, 20, none⟩ (.string q2.h0)).setCell ⟨h, 21, none⟩ (.string q2.h1)).cell? ⟨h, 8, none⟩ = some (.string s2.r.start.h1) ∧ ((((((wq.setCell ⟨h, 16, none⟩ (.int .i64 q2.w)).setCell ⟨h, 17, none⟩ (.int .i64 q2.h)).setCell ⟨h, 18, none⟩ (.string q2.cells)).setCell ⟨h, 19, none⟩ (.int .i64 q2.turn)).setCell ⟨h, 20, none⟩ (.string q2.h0)).setCell ⟨h, 21, none⟩ (.string q2.h1)).cell? ⟨h, 9, none⟩ = some (.slice A s2.r.pieces.length cp) ∧ ((((((wq.setCell ⟨h, 16, none⟩ (.int .i64 q2.w)).setCell ⟨h, 17, none⟩ (.int .i64 q2.h)).setCell ⟨h, 18, none⟩ (.string q2.cells)).setCell ⟨h, 19, none⟩ (.int .i64 q2.turn)).setCell ⟨h, 20, none⟩ (.string q2.h0)).setCell ⟨h, 21, none⟩ (.string q2.h1)).cell? ⟨h, 10, none⟩ = some (.bool s2.r.drops) ∧ ((((((wq.setCell ⟨h, 16, none⟩ (.int .i64 q2.w)).setCell ⟨h, 17, none⟩ (.int .i64 q2.h)).setCell ⟨h, 18, none⟩ (.string q2.cells)).setCell ⟨h, 19, none⟩ (.int .i64 q2.turn)).setCell ⟨h, 20, none⟩ (.string q2.h0)).setCell ⟨h, 21, none⟩ (.string q2.h1)).cell? ⟨h, 11, none⟩ = some (.int .u8 (s2.r.lose : Int)) ∧ ((((((wq.setCell ⟨h, 16, none⟩ (.int .i64 q2.w)).setCell ⟨h, 17, none⟩ (.int .i64 q2.h)).setCell ⟨h, 18, none⟩ (.string q2.cells)).setCell ⟨h, 19, none⟩ (.int .i64 q2.turn)).setCell ⟨h, 20, none⟩ (.string q2.h0)).setCell ⟨h, 21, none⟩ (.string q2.h1)).cell? ⟨h, 12, none⟩ = some (.int .i64 s2.r.line) ∧ ((((((wq.setCell ⟨h, 16, none⟩ (.int .i64 q2.w)).setCell ⟨h, 17, none⟩ (.int .i64 q2.h)).setCell ⟨h, 18, none⟩ (.string q2.cells)).setCell ⟨h, 19, none⟩ (.int .i64 q2.turn)).setCell ⟨h, 20, none⟩ (.string q2.h0)).setCell ⟨h, 21, none⟩ (.string q2.h1)).cell? ⟨h, 13, none⟩ = some (.int .u8 (s2.r.reach : Int)) ∧ ((((((wq.setCell ⟨h, 16, none⟩ (.int .i64 q2.w)).setCell ⟨h, 17, none⟩ (.int .i64 q2.h)).setCell ⟨h, 18, none⟩ (.string q2.cells)).setCell ⟨h, 19, none⟩ (.int .i64 q2.turn)).setCell ⟨h, 20, none⟩ (.string q2.h0)).setCell ⟨h, 21, none⟩ (.string q2.h1)).cell? ⟨h, 14, none⟩ = some (.bool s2.r.stuck) ∧ ((((((wq.setCell ⟨h, 16, none⟩ (.int .i64 q2.w)).setCell ⟨h, 17, none⟩ (.int .i64 q2.h)).setCell ⟨h, 18, none⟩ (.string q2.cells)).setCell ⟨h, 19, none⟩ (.int .i64 q2.turn)).setCell ⟨h, 20, none⟩ (.string q2.h0)).setCell ⟨h, 21, none⟩ (.string q2.h1)).cell? ⟨h, 15, none⟩ = some (.int .i64 s2.r.plies) ∧ ((((((wq.setCell ⟨h, 16, none⟩ (.int .i64 q2.w)).setCell ⟨h, 17, none⟩ (.int .i64 q2.h)).setCell ⟨h, 18, none⟩ (.string q2.cells)).setCell ⟨h, 19, none⟩ (.int .i64 q2.turn)).setCell ⟨h, 20, none⟩ (.string q2.h0)).setCell ⟨h, 21, none⟩ (.string q2.h1)).cell? ⟨gq, 0, none⟩ = some (.int .i64 x.f) ∧ ((((((wq.setCell ⟨h, 16, none⟩ (.int .i64 q2.w)).setCell ⟨h, 17, none⟩ (.int .i64 q2.h)).setCell ⟨h, 18, none⟩ (.string q2.cells)).setCell ⟨h, 19, none⟩ (.int .i64 q2.turn)).setCell ⟨h, 20, none⟩ (.string q2.h0)).setCell ⟨h, 21, none⟩ (.string q2.h1)).cell? ⟨gq, 1, none⟩ = some (.int .i64 x.t) ∧ ((((((wq.setCell ⟨h, 16, none⟩ (.int .i64 q2.w)).setCell ⟨h, 17, none⟩ (.int .i64 q2.h)).setCell ⟨h, 18, none⟩ (.string q2.cells)).setCell ⟨h, 19, none⟩ (.int .i64 q2.turn)).setCell ⟨h, 20, none⟩ (.string q2.h0)).setCell ⟨h, 21, none⟩ (.string q2.h1)).cell? ⟨gq, 2, none⟩ = some (.int .u8 (x.c : Int)) from HS14b.out _ Hb7.out (((later_only hwq).mono (fun _ _ h => h.elim)).trans' Ho7.out (fun _ _ h => h)))
                  refine hK.out _ _ (by first | exact Hk7.out | (refine HS14.out _ ?_; repeat (first | exact Later.rfl | exact hwq | refine Later.drew ?_ | refine Later.alloc ?_ _))) (fun hHeld => ?_)
                  clear hK K
                  try simp only [Act.put]
                  refine wpAnyH_done (by kernel_rfl) ?_ _
                  have Ho8 := hide (show Only (fun x => x = h) w6 ((((((wq.setCell ⟨h, 16, none⟩ (.int .i64 q2.w)).setCell ⟨h, 17, none⟩ (.int .i64 q2.h)).setCell ⟨h, 18, none⟩ (.string q2.cells)).setCell ⟨h, 19, none⟩ (.int .i64 q2.turn)).setCell ⟨h, 20, none⟩ (.string q2.h0)).setCell ⟨h, 21, none⟩ (.string q2.h1)) from ((later_only hwq).mono (fun _ _ h => h.elim)).trans' Ho7.out (fun _ _ h => h))
                  obtain ⟨w7, hw7⟩ : ∃ w7, ((((((wq.setCell ⟨h, 16, none⟩ (.int .i64 q2.w)).setCell ⟨h, 17, none⟩ (.int .i64 q2.h)).setCell ⟨h, 18, none⟩ (.string q2.cells)).setCell ⟨h, 19, none⟩ (.int .i64 q2.turn)).setCell ⟨h, 20, none⟩ (.string q2.h0)).setCell ⟨h, 21, none⟩ (.string q2.h1)) = w7 := ⟨_, rfl⟩
                  rw [hw7] at Hb7 Ho8 Ho7 Hk7 ⊢
                  clear hw7 hwx hwq Ho7 Hk7 hHeld p0 p1 p2 p3 p4 p5 xf0 xf1 xf2 xf3 xf4 xf5 HS14 HS14b Hap
                  obtain ⟨t0, -, -, -⟩ := Hb7.out.rest
                  have xf := Hb7.out.blk.free 22
                  have tw : IntKind.i64.wrap (s2.ply + 1) = s2.ply + 1 := IntWalk.i64_in _ (by omega)
                  go_upto_region 16 with (fail)
                  have Hb8 := hide (show HB (w7.setCell ⟨h, 22, none⟩ (.int .i64 (s2.ply + 1))) B h (hoC (doneP s2 m x) A cp (.pointer (some ⟨h, 24, none⟩)) v6) v6 ln from by rw [show (doneP s2 m x) = { s2 with lines := s2.lines ++ lineH s2 m.mv, p := q2, ply := s2.ply + 1 } from by rw [← Hq2.out]; rfl]; exact Hb7.out.set_ 22 (by omega) _)
                  have hst : Only (fun x => x = h) w7 (w7.setCell ⟨h, 22, none⟩ (.int .i64 (s2.ply + 1))) := (Only.refl (fun x => x = h) w7).setCell (p := ⟨h, 22, none⟩) (.inl rfl) _
                  have Ho9 := hide (Ho8.out.trans' hst (fun _ _ h => h))
                  have hs8z : W.heap.size + 1 + 1 ≤ (w7.setCell ⟨h, 22, none⟩ (.int .i64 (s2.ply + 1))).heap.size := Nat.le_trans hs6z Ho9.out.size
                  obtain ⟨w8, hw8⟩ : ∃ w8, w7.setCell ⟨h, 22, none⟩ (.int .i64 (s2.ply + 1)) = w8 := ⟨_, rfl⟩
                  rw [hw8] at Hb8 Ho9 hs8z ⊢
                  clear hw8 hst t0 xf tw
                  have HZ8 := hide (HZ6.out.only Ho9.out (by omega))
                  have HO8 := hide (HO6.out.trans' Ho9.out (fun _ _ h => .inl h))
                  have HP8 := hide (HP6.out.only Ho9.out (fun k hk hq => by omega))
                  clear HZ6 HO6 HP6 Ho9 Ho8 Hb7 Hb6 hs6z Hm6 Hg6
                  have Htk := hide (show takeP s m = ((doneP s2 m x), 1) from by unfold takeP; rw [if_neg (by rw [Hq0.out.1]; exact fun h => h rfl), Hs2.out, if_neg (by have h := Hl9.out; rw [Hs2.out] at h; simpa using h), if_neg (fun h => h Hqp.out), if_neg (fun h => h Hqs.out), Hx.out])
                  have HRp := hide (hreply_any B h ((doneP s2 m x)) A cp (.pointer (some ⟨h, 24, none⟩)) v6 ln w8 Hb8.out Hok9.out ((show PAt w8 (fun x => lo ≤ x ∧ x < h) A (doneP s2 m x).r.pieces from HP8.out)).at_ 1)
                  obtain ⟨tx, htx⟩ : ∃ tx, bytes (textL ((doneP s2 m x)).p) = tx := ⟨_, rfl⟩
                  obtain ⟨op, hop⟩ : ∃ op, outP ((doneP s2 m x)) = op := ⟨_, rfl⟩
                  rw [htx, hop] at HRp
                  have Htx := hide htx
                  have Hop := hide hop
                  clear htx hop
                  go_wp2_with (go_at_call 60; refine HRp.out.mono ?_; rintro e w9 ⟨rfl, hw9⟩; have HZ9 := hide (Later.blk hw9 HZ8.out); have Hw9 := hide hw9; clear hw9; obtain ⟨z0, z1, z2, z3⟩ := (show _ ∧ _ ∧ _ ∧ _ from ⟨HZ9.out.cellv (i := 0) rfl, HZ9.out.cellv (i := 1) rfl, HZ9.out.cellv (i := 2) rfl, HZ9.out.cellv (i := 3) rfl⟩); have zf0 := HZ9.out.free 0; have zf1 := HZ9.out.free 1; have zf2 := HZ9.out.free 2; have zf3 := HZ9.out.free 3)
                  have HZf := hide (Blk.set_ (Blk.set_ (Blk.set_ (Blk.set_ HZ9.out 0 (.int .i64 1)) 1 (.int .i64 ((doneP s2 m x)).ply)) 2 (.int .i64 op)) 3 (.string tx))
                  have Hof := hide (show Only (fun x => x = W.heap.size + 1) w9 ((((w9.setCell ⟨W.heap.size + 1, 0, none⟩ (.int .i64 1)).setCell ⟨W.heap.size + 1, 1, none⟩ (.int .i64 ((doneP s2 m x)).ply)).setCell ⟨W.heap.size + 1, 2, none⟩ (.int .i64 op)).setCell ⟨W.heap.size + 1, 3, none⟩ (.string tx)) from ((((Only.refl (fun x => x = W.heap.size + 1) w9).setCell (p := ⟨W.heap.size + 1, 0, none⟩) (.inl rfl) _).setCell (p := ⟨W.heap.size + 1, 1, none⟩) (.inl rfl) _).setCell (p := ⟨W.heap.size + 1, 2, none⟩) (.inl rfl) _).setCell (p := ⟨W.heap.size + 1, 3, none⟩) (.inl rfl) _)
                  clear z0 z1 z2 z3 zf0 zf1 zf2 zf3
                  obtain ⟨q0, q1, q2, q3⟩ := (show _ ∧ _ ∧ _ ∧ _ from ⟨HZf.out.cellv (i := 0) rfl, HZf.out.cellv (i := 1) rfl, HZf.out.cellv (i := 2) rfl, HZf.out.cellv (i := 3) rfl⟩)
                  refine bodyPost_ret (v := .agg #[.int .i64 1, .int .i64 ((doneP s2 m x)).ply, .int .i64 op, .string tx]) (by simp [results, Tryz.results23, go_sem, q0, q1, q2, q3]) rfl ⟨(.pointer (some ⟨h, 24, none⟩)), v6, by rw [Htk.out, ← Htx.out, ← Hop.out]; rfl, by rw [Htk.out]; rw [← Hln.out] at Hb8; exact (Hb8.out.later Hw9.out).only Hof.out (by omega) (fun k hk e => by rcases Hv6.out k hk with h1 | h1 <;> omega), Hv6l.out, (HO8.out.trans' (later_only Hw9.out) (fun _ _ h => h.elim)).trans' Hof.out (fun i hi hs => by omega)⟩
                exact AllReadyH.nil
              exact AllReadyH.nil
            exact AllReadyH.nil
          exact AllReadyH.nil
        exact AllReadyH.nil
      exact AllReadyH.nil
  exact AllReadyH.nil
end Go.Proofs.YtcdfeaodfmfdnaaGreatDoor
