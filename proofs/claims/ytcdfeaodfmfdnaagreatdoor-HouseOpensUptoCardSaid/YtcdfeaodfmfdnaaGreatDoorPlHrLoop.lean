/- (*gameref.House).kind where moves are looked for: walked. -/
import Derived.Test.YtcdfeaodfmfdnaaGreatDoorPlTk
import Derived.Test.YtcdfeaodfmfdnaaGreatDoorPlHrM
namespace Go.Proofs.YtcdfeaodfmfdnaaGreatDoor
open Go.RowKit

theorem find_here {α : Type} {f : α → Bool} : ∀ {l : List α} {i : Nat} (h : i < l.length), f l[i] = true → (∀ j (h2 : j < i), f (l[j]'(by omega)) = false) → l.find? f = some l[i]
 | a :: l, 0, _, h1, _ => by simp only [List.getElem_cons_zero] at h1 ⊢; rw [List.find?_cons_of_pos h1]
 | a :: l, i + 1, h, h1, h2 => by
  have h0 := h2 0 (by omega)
  simp only [List.getElem_cons_zero] at h0
  rw [List.find?_cons_of_neg (by simp [h0])]
  simp only [List.getElem_cons_succ] at h1 ⊢
  exact find_here (by simpa using h) h1 (fun j hj => by have := h2 (j + 1) (by omega); simpa using this)
theorem find_none {α : Type} {f : α → Bool} {l : List α} (h : ∀ j (h : j < l.length), f l[j] = false) : l.find? f = none := by
 rw [List.find?_eq_none]
 intro x hx
 obtain ⟨j, hj, rfl⟩ := List.getElem_of_mem hx
 simp [h j hj]
theorem line_bytes (s : HoD) (mv : ByteArray) : bytes s.lines ++ (bytes (Lib.itoa s.ply) ++ ⟨#[32]⟩ ++ bytes (Lib.itoa s.now) ++ ⟨#[32]⟩ ++ mv ++ ⟨#[10]⟩) = bytes (s.lines ++ lineH s mv) := by
 apply bytes_eq
 simp [lineH, bytes]
theorem later_y {w w' : World} {bm om k : Nat} {y : Mv} (hw : Later w w') (hb : bm < w.heap.size) (h : w.cell? ⟨bm, om + k * 3, none⟩ = some (.int .i64 y.f) ∧ w.cell? ⟨bm, om + k * 3 + 1, none⟩ = some (.int .i64 y.t) ∧ w.cell? ⟨bm, om + k * 3 + 2, none⟩ = some (.int .u8 (y.c : Int))) : w'.cell? ⟨bm, om + k * 3, none⟩ = some (.int .i64 y.f) ∧ w'.cell? ⟨bm, om + k * 3 + 1, none⟩ = some (.int .i64 y.t) ∧ w'.cell? ⟨bm, om + k * 3 + 2, none⟩ = some (.int .u8 (y.c : Int)) := by
 have hc := (bcell hw).1
 exact ⟨by rw [hc _ _ hb]; exact h.1, by rw [hc _ _ hb]; exact h.2.1, by rw [hc _ _ hb]; exact h.2.2⟩
theorem only_y {S : Nat → Prop} {w w1 w' : World} {bm om k : Nat} {y : Mv} (ho : Only S w w1) (hw : Only S w1 w') (hb : ¬ S bm) (h : w.cell? ⟨bm, om + k * 3, none⟩ = some (.int .i64 y.f) ∧ w.cell? ⟨bm, om + k * 3 + 1, none⟩ = some (.int .i64 y.t) ∧ w.cell? ⟨bm, om + k * 3 + 2, none⟩ = some (.int .u8 (y.c : Int))) : w'.cell? ⟨bm, om + k * 3, none⟩ = some (.int .i64 y.f) ∧ w'.cell? ⟨bm, om + k * 3 + 1, none⟩ = some (.int .i64 y.t) ∧ w'.cell? ⟨bm, om + k * 3 + 2, none⟩ = some (.int .u8 (y.c : Int)) := by
 have key : ∀ o v, w.cell? ⟨bm, o, none⟩ = some v → w'.cell? ⟨bm, o, none⟩ = some v := fun o v hv => by
  rw [← hv]
  simp only [World.cell?, (ho.trans hw).block bm (cell_lt_ hv) hb]
 exact ⟨key _ _ h.1, key _ _ h.2.1, key _ _ h.2.2⟩
set_option maxHeartbeats 8000000 in
set_option maxRecDepth 100000 in
theorem rkind_look (h : Nat) (s : HoD) (A : Option Addr) (cp : Nat) (Q : Nat → Prop) (m : MsgD) (W : World) (hb : Blk W h 57 (rhC s A cp)) (hok : HoOk s) (hP : PAt W Q A s.r.pieces) (hQ : ¬ Q h)  (hm0 : -9223372036854775808 ≤ m.at_) (hm1 : m.at_ ≤ 9223372036854775807) (h5 : 5 < h) (he : EnvH W) (q : outP s = 0) (ql : 0 ≤ leftP (passP s m.at_)) (qp : m.ply = s.ply) (qs : m.seat = s.p.turn) :
  Calls Tryz.prog 63 #[.pointer (some ⟨h, 0, none⟩), .agg #[.int .i64 m.seat, .int .i64 m.ply, .string m.mv, .int .i64 m.at_]] W (KindOut h s A cp m W) := by
 have Hqp := hide qp
 have Hqs := hide qs
 have Hen := hide he
 clear qp qs he
 obtain ⟨hfl, hen, hpl⟩ := out_open q hok
 have d : (outP s != 0) = false := by rw [q]; rfl
 have Hq0 := hide (And.intro q hfl)
 clear q hfl hen
 have HBd := hide hb
 have HPa := hide hP
 have Hok := hide hok
 have HQ := hide hQ
 have Hend := hide (fun w (hw : Later W w) => rended_any h s A cp w (Later.blk hw hb) hok (hP.only (later_only hw) (fun _ h => h.elim)).at_)
 have Hl0 := hide (show Later W (W.alloc (.cells #[.int .i64 m.seat, .int .i64 m.ply, .string m.mv, .int .i64 m.at_] 62)) from Later.rfl.alloc _)
 have Hm0 := hide (show Blk (W.alloc (.cells #[.int .i64 m.seat, .int .i64 m.ply, .string m.mv, .int .i64 m.at_] 62)) W.heap.size 62 #[.int .i64 m.seat, .int .i64 m.ply, .string m.mv, .int .i64 m.at_] from Blk.new W _ _)
 have hhW : h < W.heap.size := hb.lt
 clear hb hok hP hQ
 go_enter Tryz.func63, Tryz.ntmps63
 go_upto_region 1 with (fail)
 obtain ⟨w0, hw0⟩ : ∃ w0, (W.alloc (.cells #[.int .i64 m.seat, .int .i64 m.ply, .string m.mv, .int .i64 m.at_] 62)) = w0 := ⟨_, rfl⟩
 rw [hw0] at Hl0 Hm0 ⊢
 clear hw0
 go_upto_region 3 with (go_at_call 64; refine (Hend.out _ Hl0.out).mono ?_; rintro e w1 ⟨rfl, hw1⟩)
 have Hl1 := hide (Hl0.out.trans hw1)
 have Hm1 := hide (Later.blk hw1 Hm0.out)
 have HB1 := hide (Later.blk Hl1.out HBd.out)
 have HP1 := hide (HPa.out.only (later_only Hl1.out) (fun _ h => h.elim))
 have hs1 : W.heap.size < w1.heap.size := Hm1.out.lt
 clear hw1 Hm0 Hl0 Hend HPa HBd
 have h01 : s.p.turn = 0 ∨ s.p.turn = 1 := by have := Hok.out.of.pos.t0; have := Hok.out.of.pos.t1; omega
 obtain ⟨tn, htn⟩ : ∃ tn, s.p.turn = tn := ⟨_, rfl⟩
 rw [htn] at h01
 have Htn := hide htn
 have hnow := Hok.out.now
 have hb0 := Hok.out.open_ Hq0.out.2
 have hb1 := Hok.out.b0.2
 have hb2 := Hok.out.b1.2
 obtain ⟨e_r, e_p, e_ply, e_fl, e_li, -, -⟩ := pass_same s m.at_
 have Hpp := hide (show passP s m.at_ = if s.now < m.at_ then (if tn = 0 then { s with l0 := s.l0 - (m.at_ - s.now), now := m.at_ } else { s with l1 := s.l1 - (m.at_ - s.now), now := m.at_ }) else s from by unfold passP; rw [htn])
 obtain ⟨s2, hs2⟩ : ∃ s2, passP s m.at_ = s2 := ⟨_, rfl⟩
 rw [hs2] at Hpp e_r e_p e_ply e_fl e_li ql
 have Hs2 := hide hs2
 have He := hide (And.intro e_r (And.intro e_p (And.intro e_ply (And.intro e_fl e_li))))
 have Hle := hide (show leftP s2 = if tn = 0 then s2.l0 else s2.l1 from by unfold leftP; rw [e_p, htn])
 have Hql := hide ql
 clear hs2 ql e_r e_p e_ply e_fl e_li d
 obtain ⟨p0, p1, p2, p3, p4, p5⟩ := rh_pos HB1.out
 obtain ⟨t0, t1, t2, t3, t4, t5⟩ := rh_rest HB1.out
 obtain ⟨m0, m1, m2, m3⟩ := (show _ ∧ _ ∧ _ ∧ _ from ⟨Hm1.out.cellv (i := 0) rfl, Hm1.out.cellv (i := 1) rfl, Hm1.out.cellv (i := 2) rfl, Hm1.out.cellv (i := 3) rfl⟩)
 rw [htn] at p3
 clear htn
 go_upto_region 4 with (fail)
 go_quiet (fail)
 clear p0 p1 p2 p3 p4 p5 t0 t1 t2 t3 t4 t5 m0 m1 m2 m3
 have hl2 : Later w1 (w1.drewN nq) := Later.rfl.drewN _
 have Hl2 := hide (Hl1.out.trans hl2)
 have HB2 := hide (Later.blk hl2 HB1.out)
 have Hm2 := hide (Later.blk hl2 Hm1.out)
 have HP2 := hide (HP1.out.only (later_only hl2) (fun _ h => h.elim))
 have hs2z : W.heap.size < (w1.drewN nq).heap.size := hs1
 obtain ⟨w2, hw2⟩ : ∃ w2, w1.drewN nq = w2 := ⟨_, rfl⟩
 rw [hw2] at Hl2 HB2 Hm2 HP2 hs2z ⊢
 clear hw2 hl2 HB1 Hm1 HP1 Hl1 hs1
 go_upto_if 22 with (fail)
 go_cut [] (fun w' => Blk w' h 57 (rhC s2 A cp) ∧ Only (fun x => x = h) w2 w')
 case first =>
  obtain ⟨p0, p1, p2, p3, p4, p5⟩ := rh_pos HB2.out
  obtain ⟨t0, t1, t2, t3, t4, t5⟩ := rh_rest HB2.out
  obtain ⟨m0, m1, m2, m3⟩ := (show _ ∧ _ ∧ _ ∧ _ from ⟨Hm2.out.cellv (i := 0) rfl, Hm2.out.cellv (i := 1) rfl, Hm2.out.cellv (i := 2) rfl, Hm2.out.cellv (i := 3) rfl⟩)
  rw [Htn.out] at p3
  have f0 := HB2.out.free 20
  have f1 := HB2.out.free 21
  have f2 := HB2.out.free 22
  by_cases q : s.now < m.at_
  ·
   have d4 : decide (m.at_ > s.now) = true := by simpa using q
   rcases h01 with rfl | rfl
   ·
    have h2 : s2 = { s with l0 := s.l0 + (s.now - m.at_), now := m.at_ } := by rw [Hpp.out, if_pos q, if_pos rfl, show s.l0 - (m.at_ - s.now) = s.l0 + (s.now - m.at_) from by omega]
    have H2 := hide h2
    have tw1 : IntKind.i64.wrap (s.now - m.at_) = s.now - m.at_ := IntWalk.i64_in _ (by omega)
    have tw2 : IntKind.i64.wrap (s.l0 + (s.now - m.at_)) = s.l0 + (s.now - m.at_) := IntWalk.i64_in _ (by omega)
    clear h2 Hpp Hle
    go_wp2_with fail
    go_big_region
    go_wp2_with fail
    go_meet
    case rel =>
     rw [H2.out]
     exact ⟨by first | exact (HB2.out.drew.set_ 20 _).set_ 22 _ | exact (HB2.out.set_ 20 _).drew.set_ 22 _, by first | exact ((Only.refl (fun x => x = h) w2).drew.setCell (p := ⟨h, 20, none⟩) (.inl rfl) _).setCell (p := ⟨h, 22, none⟩) (.inl rfl) _ | exact ((Only.refl (fun x => x = h) w2).setCell (p := ⟨h, 20, none⟩) (.inl rfl) _).drew.setCell (p := ⟨h, 22, none⟩) (.inl rfl) _⟩
   ·
    have h2 : s2 = { s with l1 := s.l1 + (s.now - m.at_), now := m.at_ } := by rw [Hpp.out, if_pos q, if_neg (by omega), show s.l1 - (m.at_ - s.now) = s.l1 + (s.now - m.at_) from by omega]
    have H2 := hide h2
    have tw1 : IntKind.i64.wrap (s.now - m.at_) = s.now - m.at_ := IntWalk.i64_in _ (by omega)
    have tw2 : IntKind.i64.wrap (s.l1 + (s.now - m.at_)) = s.l1 + (s.now - m.at_) := IntWalk.i64_in _ (by omega)
    clear h2 Hpp Hle
    go_wp2_with fail
    go_big_region
    go_wp2_with fail
    go_meet
    case rel =>
     rw [H2.out]
     exact ⟨by first | exact (HB2.out.drew.set_ 21 _).set_ 22 _ | exact (HB2.out.set_ 21 _).drew.set_ 22 _, by first | exact ((Only.refl (fun x => x = h) w2).drew.setCell (p := ⟨h, 21, none⟩) (.inl rfl) _).setCell (p := ⟨h, 22, none⟩) (.inl rfl) _ | exact ((Only.refl (fun x => x = h) w2).setCell (p := ⟨h, 21, none⟩) (.inl rfl) _).drew.setCell (p := ⟨h, 22, none⟩) (.inl rfl) _⟩
  ·
   have d4 : decide (m.at_ > s.now) = false := by simpa using q
   have h2 : s2 = s := by rw [Hpp.out, if_neg q]
   have H2 := hide h2
   clear h2 Hpp Hle
   go_wp2_with fail
   go_meet
   case rel =>
    rw [H2.out]
    exact ⟨HB2.out, Only.refl _ _⟩
 case rest =>
  obtain ⟨hb3, ho3⟩ := hcut
  rename World => w3
  have HB3 := hide hb3
  have Hm3 := hide (Hm2.out.only ho3 (by omega))
  have HP3 := hide (show PAt w3 Q A s2.r.pieces from by rw [He.out.1]; exact HP2.out.only ho3 (fun k hk hq => HQ.out (hk ▸ hq)))
  have HO3 := hide (((later_only Hl2.out).mono (fun _ _ h => h.elim)).trans' ho3 (fun _ _ h => h) : Only (fun x => x = h) W w3)
  have hs3 : W.heap.size < w3.heap.size := Hm3.out.lt
  clear hb3 ho3 HB2 Hm2 HP2 Hl2 hs2z Hpp
  go_upto_region 7 with (fail)
  go_cut [51] from 45 to 51 (fun bv w' => bv = .bool false ∧ w' = w3)
  case first =>
   obtain ⟨t0, t1, t2, t3, t4, t5⟩ := rh_rest HB3.out
   rcases h01 with rfl | rfl
   ·
    have hq := Hql.out
    rw [Hle.out, if_pos rfl] at hq
    have d7 : decide (s2.l0 < 0) = false := by simpa using hq
    go_wp2_with fail
    go_meet
    case rel => exact ⟨rfl, rfl⟩
   ·
    have hq := Hql.out
    rw [Hle.out, if_neg (by omega)] at hq
    have d7 : decide (s2.l1 < 0) = false := by simpa using hq
    go_wp2_with fail
    go_meet
    case rel => exact ⟨rfl, rfl⟩
  case rest =>
   obtain ⟨rfl, rfl⟩ := hcut
   rename World => w3
   clear Hle
   have Hok2 := hide (show HoOk s2 from by rw [← Hs2.out]; exact pass_ok Hok.out Hq0.out.2 hm1 (by rw [Hs2.out]; exact Hql.out))
   obtain ⟨t0, t1, t2, t3, t4, t5⟩ := rh_rest HB3.out
   obtain ⟨m0, m1, m2, m3⟩ := (show _ ∧ _ ∧ _ ∧ _ from ⟨Hm3.out.cellv (i := 0) rfl, Hm3.out.cellv (i := 1) rfl, Hm3.out.cellv (i := 2) rfl, Hm3.out.cellv (i := 3) rfl⟩)
   have d6 : (m.ply != s2.ply) = false := by rw [He.out.2.2.1, Hqp.out]; simp
   go_upto_region 10 with (fail)
   go_quiet (fail)
   have hl4 : Later w3 (w3.drewN nq) := Later.rfl.drewN _
   have HB4 := hide (Later.blk hl4 HB3.out)
   have Hm4 := hide (Later.blk hl4 Hm3.out)
   have HP4 := hide (HP3.out.only (later_only hl4) (fun _ h => h.elim))
   have HO4 := hide (HO3.out.trans' (later_only hl4) (fun _ _ h => h.elim))
   have hs4 : W.heap.size < (w3.drewN nq).heap.size := hs3
   obtain ⟨w4, hw4⟩ : ∃ w4, w3.drewN nq = w4 := ⟨_, rfl⟩
   rw [hw4] at HB4 Hm4 HP4 HO4 hs4 ⊢
   clear hw4 hl4 HB3 Hm3 HP3 HO3 hs3
   clear t0 t1 t2 t3 t4 t5 m0 m1 m2 m3
   obtain ⟨m0, m1, m2, m3⟩ := (show _ ∧ _ ∧ _ ∧ _ from ⟨Hm4.out.cellv (i := 0) rfl, Hm4.out.cellv (i := 1) rfl, Hm4.out.cellv (i := 2) rfl, Hm4.out.cellv (i := 3) rfl⟩)
   have d8 : (m.seat != tn) = false := by rw [← Htn.out, Hqs.out]; simp
   have Hmv := hide (fun w (hw : Later w4 w) => moves_any s2.r A cp s2.p w (Hok2.out.of.pre (HP4.out.only (later_only hw) (fun _ h => h.elim)).at_))
   have HS14 := hide (show ∀ w' : World, Later w4 w' → (w'.cell? ⟨h, 0, none⟩ = some (.int .i64 s2.r.start.w) ∧ w'.cell? ⟨h, 1, none⟩ = some (.int .i64 s2.r.start.h) ∧ w'.cell? ⟨h, 2, none⟩ = some (.string s2.r.start.cells) ∧ w'.cell? ⟨h, 3, none⟩ = some (.int .i64 s2.r.start.turn) ∧ w'.cell? ⟨h, 4, none⟩ = some (.string s2.r.start.h0) ∧ w'.cell? ⟨h, 5, none⟩ = some (.string s2.r.start.h1) ∧ w'.cell? ⟨h, 6, none⟩ = some (.slice A s2.r.pieces.length cp) ∧ w'.cell? ⟨h, 7, none⟩ = some (.bool s2.r.drops) ∧ w'.cell? ⟨h, 8, none⟩ = some (.int .u8 (s2.r.lose : Int)) ∧ w'.cell? ⟨h, 9, none⟩ = some (.int .i64 s2.r.line) ∧ w'.cell? ⟨h, 10, none⟩ = some (.int .u8 (s2.r.reach : Int)) ∧ w'.cell? ⟨h, 11, none⟩ = some (.bool s2.r.stuck) ∧ w'.cell? ⟨h, 12, none⟩ = some (.int .i64 s2.r.plies) ∧ w'.cell? ⟨h, 13, none⟩ = some (.int .i64 s2.p.w) ∧ w'.cell? ⟨h, 14, none⟩ = some (.int .i64 s2.p.h) ∧ w'.cell? ⟨h, 15, none⟩ = some (.string s2.p.cells) ∧ w'.cell? ⟨h, 16, none⟩ = some (.int .i64 s2.p.turn) ∧ w'.cell? ⟨h, 17, none⟩ = some (.string s2.p.h0) ∧ w'.cell? ⟨h, 18, none⟩ = some (.string s2.p.h1)) from fun w' hw => by
    obtain ⟨r0, r1, r2, r3, r4, r5, r6, r7, r8, r9, r10, r11, r12⟩ := rh_rules (Later.blk hw HB4.out)
    obtain ⟨p0, p1, p2, p3, p4, p5⟩ := rh_pos (Later.blk hw HB4.out)
    exact ⟨r0, r1, r2, r3, r4, r5, r6, r7, r8, r9, r10, r11, r12, p0, p1, p2, p3, p4, p5⟩)
   have hs4h : h < w4.heap.size := HB4.out.lt
   go_upto_region 14 with (fail)
   clear d8 m0 m1 m2 m3
   refine wp_region_held_drew (S := fun w' : World => (w'.cell? ⟨h, 0, none⟩ = some (.int .i64 s2.r.start.w) ∧ w'.cell? ⟨h, 1, none⟩ = some (.int .i64 s2.r.start.h) ∧ w'.cell? ⟨h, 2, none⟩ = some (.string s2.r.start.cells) ∧ w'.cell? ⟨h, 3, none⟩ = some (.int .i64 s2.r.start.turn) ∧ w'.cell? ⟨h, 4, none⟩ = some (.string s2.r.start.h0) ∧ w'.cell? ⟨h, 5, none⟩ = some (.string s2.r.start.h1) ∧ w'.cell? ⟨h, 6, none⟩ = some (.slice A s2.r.pieces.length cp) ∧ w'.cell? ⟨h, 7, none⟩ = some (.bool s2.r.drops) ∧ w'.cell? ⟨h, 8, none⟩ = some (.int .u8 (s2.r.lose : Int)) ∧ w'.cell? ⟨h, 9, none⟩ = some (.int .i64 s2.r.line) ∧ w'.cell? ⟨h, 10, none⟩ = some (.int .u8 (s2.r.reach : Int)) ∧ w'.cell? ⟨h, 11, none⟩ = some (.bool s2.r.stuck) ∧ w'.cell? ⟨h, 12, none⟩ = some (.int .i64 s2.r.plies) ∧ w'.cell? ⟨h, 13, none⟩ = some (.int .i64 s2.p.w) ∧ w'.cell? ⟨h, 14, none⟩ = some (.int .i64 s2.p.h) ∧ w'.cell? ⟨h, 15, none⟩ = some (.string s2.p.cells) ∧ w'.cell? ⟨h, 16, none⟩ = some (.int .i64 s2.p.turn) ∧ w'.cell? ⟨h, 17, none⟩ = some (.string s2.p.h0) ∧ w'.cell? ⟨h, 18, none⟩ = some (.string s2.p.h1))) (by kernel_rfl) (HS14.out _ Later.rfl.drew) (fun hHeld => ?_)
   refine tk 0 (some 68) (v := ?_) ?_ ?_; rotate_left 1; (intro w hSw; (try dsimp only at hSw); go_simp <;> with_reducible rfl); try simp only [Act.put, List.setIfInBounds_toArray, List.set_cons_zero, List.set_cons_succ]
   refine tk 1 (some 69) (v := ?_) ?_ ?_; rotate_left 1; (intro w hSw; (try dsimp only at hSw); go_simp <;> with_reducible rfl); try simp only [Act.put, List.setIfInBounds_toArray, List.set_cons_zero, List.set_cons_succ]
   refine tk 2 (some 70) (v := ?_) ?_ ?_; rotate_left 1; (intro w hSw; (try dsimp only at hSw); go_simp <;> with_reducible rfl); try simp only [Act.put, List.setIfInBounds_toArray, List.set_cons_zero, List.set_cons_succ]
   refine tk 3 (some 71) (v := ?_) ?_ ?_; rotate_left 1; (intro w hSw; (try dsimp only at hSw); go_simp <;> with_reducible rfl); try simp only [Act.put, List.setIfInBounds_toArray, List.set_cons_zero, List.set_cons_succ]
   refine tk 4 (some 72) (v := ?_) ?_ ?_; rotate_left 1; (intro w hSw; (try dsimp only at hSw); go_simp <;> with_reducible rfl); try simp only [Act.put, List.setIfInBounds_toArray, List.set_cons_zero, List.set_cons_succ]
   refine tk 5 (some 73) (v := ?_) ?_ ?_; rotate_left 1; (intro w hSw; (try dsimp only at hSw); go_simp <;> with_reducible rfl); try simp only [Act.put, List.setIfInBounds_toArray, List.set_cons_zero, List.set_cons_succ]
   refine tk 6 (some 74) (v := ?_) ?_ ?_; rotate_left 1; (intro w hSw; (try dsimp only at hSw); go_simp <;> with_reducible rfl); try simp only [Act.put, List.setIfInBounds_toArray, List.set_cons_zero, List.set_cons_succ]
   refine tk 7 (some 75) (v := ?_) ?_ ?_; rotate_left 1; (intro w hSw; (try dsimp only at hSw); go_simp <;> with_reducible rfl); try simp only [Act.put, List.setIfInBounds_toArray, List.set_cons_zero, List.set_cons_succ]
   refine wpAnyH_ready (rs := [8]) (by kernel_rfl) (by simp) ?_
   refine AllReadyH.cons (o := ⟨some 76, _, _, _, _, _⟩) rfl (fun K hK => ?_) ?_
   ·
    clear hHeld
    go_simp
    go_at_call 55
    refine (Hmv.out _ (by repeat (first | exact Later.rfl | refine Later.drew ?_ | refine Later.alloc ?_ _))).mono ?_
    rintro e w5 ⟨A5, c5, rfl, -, hc5, hge5, hwx⟩
    have hwq : Later w4 w5 := Later.trans (by repeat (first | exact Later.rfl | refine Later.drew ?_ | refine Later.alloc ?_ _)) hwx
    have hge6 : ∀ ad, A5 = some ad → w4.heap.size ≤ ad.block := fun ad ha => Nat.le_trans ((by repeat (first | exact Later.rfl | refine Later.drew ?_ | refine Later.alloc ?_ _)) : Later w4 _).size (hge5 ad ha)
    try go_wp2_with fail
    refine hK.out _ _ (by refine HS14.out _ ?_; repeat (first | exact Later.rfl | exact hwq | refine Later.drew ?_)) (fun hHeld => ?_)
    clear hK K
    try simp only [Act.put, List.setIfInBounds_toArray, List.set_cons_zero, List.set_cons_succ]
    refine tk 9 (some 6) (v := ?_) ?_ ?_; rotate_left 1; (intro w hSw; (try dsimp only at hSw); go_simp <;> with_reducible rfl); try simp only [Act.put, List.setIfInBounds_toArray, List.set_cons_zero, List.set_cons_succ]
    refine wpAnyH_done (by kernel_rfl) ?_ _
    have HB5 := hide (Later.blk hwq HB4.out)
    have Hm5 := hide (Later.blk hwq Hm4.out)
    have HP5 := hide (HP4.out.only (later_only hwq) (fun _ h => h.elim))
    have HO5 := hide (HO4.out.trans' (later_only hwq) (fun _ _ h => h.elim))
    have hs5 : W.heap.size < w5.heap.size := Hm5.out.lt
    clear HB4 Hm4 HP4 HO4 hs4
    have Hc5 := hide hc5
    have Hge := hide (show ∀ ad, A5 = some ad → h < ad.block from fun ad ha => by have := hge6 ad ha; omega)
    clear hwq hwx hc5 hge5 hge6 hHeld HS14 Hmv
    obtain ⟨L, hL⟩ : ∃ L, movesL s2.r s2.p = L := ⟨_, rfl⟩
    rw [hL] at Hc5 ⊢
    have HL := hide hL
    have Hmt := hide (fun (x : Mv) (hx : x ∈ L) w => by
      obtain ⟨q1, q2, q3, q4⟩ := every_parts Hok2.out.of (moves_every (show x ∈ movesL s2.r s2.p from by rw [HL.out]; exact hx))
      exact movetext_any (m := x) Hok2.out.of.pos q1 q2 q3 q4 w)
    have hll : L.length ≤ 10000 := by rw [← hL]; exact movesL_len Hok2.out.of.pos
    have Hrd := hide (show readM s2.r s2.p m.mv = L.find? (fun x => decide (bytes (mv_textL s2.p x) = m.mv)) from by rw [← HL.out]; rfl)
    clear hL
    go_wp2_with fail
    go_loopw [7] (fun kv wr => ∃ k : Nat, k ≤ L.length ∧ kv = .int .i64 (k : Int) ∧ Later w5 wr ∧ ∀ j (h : j < L.length), j < k → bytes (mv_textL s2.p L[j]) ≠ m.mv) (fun kv _ => L.length - (intOf kv).toNat)
    case atStart => exact ⟨0, by omega, rfl, Later.rfl, fun j _ h => by omega⟩
    case round =>
     rename World => wr
     obtain ⟨k, hk, rfl, hw, hno⟩ := hrel
     have Hwr := hide hw
     have Hno := hide hno
     clear hw hno
     by_cases hlt : k = L.length
     ·
      obtain rfl : L.length = k := hlt.symm
      have t1 : decide ((L.length : Int) < (L.length : Int)) = false := by simp
      have t1n : decide (L.length < L.length) = false := by simp
      have HRd := hide (show readM s.r s.p m.mv = none from by rw [← He.out.1, ← He.out.2.1, Hrd.out]; exact find_none (fun j hj => by simpa using Hno.out j hj hj))
      have Htk := hide (show takeP s m = (s2, 4) from by unfold takeP; rw [if_neg (by rw [Hq0.out.1]; exact fun h => h rfl), Hs2.out, if_neg (by have h := Hql.out; omega), if_neg (fun h => h Hqp.out), if_neg (fun h => h Hqs.out), HRd.out])
      go_wp2_with fail
      go_ret
      exact ⟨by rw [Htk.out] <;> rfl, by rw [Htk.out]; exact (Later.blk Hwr.out HB5.out), HO5.out.trans' (later_only Hwr.out) (fun _ _ h => h.elim)⟩
     ·
      replace hlt : k < L.length := by omega
      have t1 : decide ((k : Int) < (L.length : Int)) = true := by simp; omega
      have t1n : decide (k < L.length) = true := by simp; omega
      obtain ⟨bm, om, hAm, hbm, y0, y1, y2⟩ := mv_at Hc5.out hlt
      have hbh : bm ≠ h := by have := Hge.out _ hAm; simp only at this; omega
      subst hAm
      have hk1 : (0 : Int) ≤ (k : Int) := by omega
      have hk2 : (k : Int) < (L.length : Int) := by omega
      have hm := List.getElem_mem hlt
      obtain ⟨y, hy⟩ : ∃ y, L[k] = y := ⟨_, rfl⟩
      have Hy := hide hy
      rw [hy] at y0 y1 y2 hm
      have HmtY := hide (fun w => Hmt.out y hm w)
      have Hcy0 := hide (show w5.cell? ⟨bm, om + k * 3, none⟩ = some (.int .i64 y.f) ∧ w5.cell? ⟨bm, om + k * 3 + 1, none⟩ = some (.int .i64 y.t) ∧ w5.cell? ⟨bm, om + k * 3 + 2, none⟩ = some (.int .u8 (y.c : Int)) from ⟨y0, y1, y2⟩)
      have Hcyr := hide (later_y Hwr.out hbm Hcy0.out)
      have HBr := hide (Later.blk Hwr.out HB5.out)
      have Hmr := hide (Later.blk Hwr.out Hm5.out)
      have hbmr : bm < wr.heap.size := Nat.lt_of_lt_of_le hbm Hwr.out.size
      have HS18 := hide (show ∀ w' : World, Later wr w' → (w'.cell? ⟨h, 13, none⟩ = some (.int .i64 s2.p.w) ∧ w'.cell? ⟨h, 14, none⟩ = some (.int .i64 s2.p.h) ∧ w'.cell? ⟨h, 15, none⟩ = some (.string s2.p.cells) ∧ w'.cell? ⟨h, 16, none⟩ = some (.int .i64 s2.p.turn) ∧ w'.cell? ⟨h, 17, none⟩ = some (.string s2.p.h0) ∧ w'.cell? ⟨h, 18, none⟩ = some (.string s2.p.h1) ∧ w'.cell? ⟨bm, om + k * 3, none⟩ = some (.int .i64 y.f) ∧ w'.cell? ⟨bm, om + k * 3 + 1, none⟩ = some (.int .i64 y.t) ∧ w'.cell? ⟨bm, om + k * 3 + 2, none⟩ = some (.int .u8 (y.c : Int)) ∧ w'.cell? ⟨W.heap.size, 2, none⟩ = some (.string m.mv)) from fun w' hw => by
       obtain ⟨p0, p1, p2, p3, p4, p5⟩ := rh_pos (Later.blk hw HBr.out)
       obtain ⟨z0, z1, z2⟩ := later_y hw hbmr Hcyr.out
       exact ⟨p0, p1, p2, p3, p4, p5, z0, z1, z2, (Later.blk hw Hmr.out).cellv rfl⟩)
      obtain ⟨tx, htx⟩ : ∃ tx, bytes (mv_textL s2.p y) = tx := ⟨_, rfl⟩
      simp only [htx] at HmtY
      have Htx := hide htx
      clear htx hm hy y0 y1 y2 Hcy0
      go_upto_region 18 with (fail)
      go_cut [94] from 77 to 141 (fun bv w' => bv = .bool (tx.toList == m.mv.toList) ∧ Later wr w')
      case first =>
       refine wp_region_held_drew (S := fun w' : World => (w'.cell? ⟨h, 13, none⟩ = some (.int .i64 s2.p.w) ∧ w'.cell? ⟨h, 14, none⟩ = some (.int .i64 s2.p.h) ∧ w'.cell? ⟨h, 15, none⟩ = some (.string s2.p.cells) ∧ w'.cell? ⟨h, 16, none⟩ = some (.int .i64 s2.p.turn) ∧ w'.cell? ⟨h, 17, none⟩ = some (.string s2.p.h0) ∧ w'.cell? ⟨h, 18, none⟩ = some (.string s2.p.h1) ∧ w'.cell? ⟨bm, om + k * 3, none⟩ = some (.int .i64 y.f) ∧ w'.cell? ⟨bm, om + k * 3 + 1, none⟩ = some (.int .i64 y.t) ∧ w'.cell? ⟨bm, om + k * 3 + 2, none⟩ = some (.int .u8 (y.c : Int)) ∧ w'.cell? ⟨W.heap.size, 2, none⟩ = some (.string m.mv))) (by kernel_rfl) (HS18.out _ Later.rfl.drew) (fun hHeld => ?_)
       refine tk 0 (some 83) (v := ?_) ?_ ?_; rotate_left 1; (intro w hSw; (try dsimp only at hSw); go_simp <;> with_reducible rfl); try simp only [Act.put, List.setIfInBounds_toArray, List.set_cons_zero, List.set_cons_succ]
       refine tk 1 (some 84) (v := ?_) ?_ ?_; rotate_left 1; (intro w hSw; (try dsimp only at hSw); go_simp <;> with_reducible rfl); try simp only [Act.put, List.setIfInBounds_toArray, List.set_cons_zero, List.set_cons_succ]
       refine tk 2 (some 85) (v := ?_) ?_ ?_; rotate_left 1; (intro w hSw; (try dsimp only at hSw); go_simp <;> with_reducible rfl); try simp only [Act.put, List.setIfInBounds_toArray, List.set_cons_zero, List.set_cons_succ]
       refine tk 3 (some 86) (v := ?_) ?_ ?_; rotate_left 1; (intro w hSw; (try dsimp only at hSw); go_simp <;> with_reducible rfl); try simp only [Act.put, List.setIfInBounds_toArray, List.set_cons_zero, List.set_cons_succ]
       refine tk 4 (some 87) (v := ?_) ?_ ?_; rotate_left 1; (intro w hSw; (try dsimp only at hSw); go_simp <;> with_reducible rfl); try simp only [Act.put, List.setIfInBounds_toArray, List.set_cons_zero, List.set_cons_succ]
       refine tk 5 (some 88) (v := ?_) ?_ ?_; rotate_left 1; (intro w hSw; (try dsimp only at hSw); go_simp <;> with_reducible rfl); try simp only [Act.put, List.setIfInBounds_toArray, List.set_cons_zero, List.set_cons_succ]
       refine tk 6 (some 89) (v := ?_) ?_ ?_; rotate_left 1; (intro w hSw; (try dsimp only at hSw); go_simp <;> with_reducible rfl); try simp only [Act.put, List.setIfInBounds_toArray, List.set_cons_zero, List.set_cons_succ]
       refine tk 7 (some 90) (v := ?_) ?_ ?_; rotate_left 1; (intro w hSw; (try dsimp only at hSw); go_simp <;> with_reducible rfl); try simp only [Act.put, List.setIfInBounds_toArray, List.set_cons_zero, List.set_cons_succ]
       refine tk 9 (some 92) (v := ?_) ?_ ?_; rotate_left 1; (intro w hSw; (try dsimp only at hSw); go_simp <;> with_reducible rfl); try simp only [Act.put, List.setIfInBounds_toArray, List.set_cons_zero, List.set_cons_succ]
       refine tk 10 (some 93) (v := ?_) ?_ ?_; rotate_left 1; (intro w hSw; (try dsimp only at hSw); go_simp <;> with_reducible rfl); try simp only [Act.put, List.setIfInBounds_toArray, List.set_cons_zero, List.set_cons_succ]
       refine wpAnyH_ready (rs := [8]) (by kernel_rfl) (by simp) ?_
       refine AllReadyH.cons (o := ⟨some 91, _, _, _, _, _⟩) rfl (fun K hK => ?_) ?_
       ·
        clear hHeld
        go_simp
        go_at_call 56
        refine (HmtY.out _).mono ?_
        rintro e wq ⟨rfl, hwx⟩
        have hwq : Later wr wq := Later.trans (by repeat (first | exact Later.rfl | refine Later.drew ?_ | refine Later.alloc ?_ _)) hwx
        try go_wp2_with fail
        refine hK.out _ _ (by refine HS18.out _ ?_; repeat (first | exact Later.rfl | exact hwq | refine Later.drew ?_)) (fun hHeld => ?_)
        clear hK K
        try simp only [Act.put, List.setIfInBounds_toArray, List.set_cons_zero, List.set_cons_succ]
        refine tk 11 (some 94) (v := ?_) ?_ ?_; rotate_left 1; (intro w hSw; (try dsimp only at hSw); go_simp <;> with_reducible rfl); try simp only [Act.put, List.setIfInBounds_toArray, List.set_cons_zero, List.set_cons_succ]
        refine wpAnyH_done (by kernel_rfl) ?_ _
        go_wp2_with fail
        go_meet
        case rel => exact ⟨rfl, hwq⟩
       exact AllReadyH.nil
      case rest =>
       obtain ⟨rfl, hw8⟩ := hcut
       rename World => w8
       have Hw8 := hide hw8
       have HB8 := hide (Later.blk hw8 HBr.out)
       have Hm8 := hide (Later.blk hw8 Hmr.out)
       have HO8 := hide (show Only (fun x => x = h) W w8 from HO5.out.trans' (later_only (Hwr.out.trans hw8)) (fun _ _ h => h.elim))
       have Hcy := hide (later_y hw8 hbmr Hcyr.out)
       clear hw8 HBr Hmr Hcyr HS18
       cases hb : (tx.toList == m.mv.toList)
       ·
        have Hno2 := hide (show ∀ j (hj : j < L.length), j < k + 1 → bytes (mv_textL s2.p L[j]) ≠ m.mv from fun j hj hjk => by
         by_cases e : j = k
         ·
          subst e
          intro h
          rw [Hy.out, Htx.out] at h
          rw [h] at hb
          simp at hb
         ·
          exact Hno.out j hj (by omega))
        clear hb
        go_wp2_with fail
        go_roundw
        case rel => exact ⟨k + 1, by omega, by go_num, Hwr.out.trans Hw8.out, Hno2.out⟩
        case measure => simp [intOf]; omega
       ·
        have Heq := hide (show bytes (mv_textL s2.p y) = m.mv from by rw [Htx.out]; rw [toListB] at hb; exact of_decide_eq_true hb)
        clear hb
        have HRd := hide (show readM s.r s.p m.mv = some y from by rw [← He.out.1, ← He.out.2.1, Hrd.out, ← Hy.out]; exact find_here (l := L) (i := k) hlt (by simpa [Hy.out] using Heq.out) (fun j hj => by simpa using Hno.out j (by omega) hj))
        have Hyl := hide (show y ∈ movesL s2.r s2.p from by rw [HL.out, ← Hy.out]; exact List.getElem_mem hlt)
        have Htk := hide (show takeP s m = ((doneP s2 m y), 1) from by unfold takeP; rw [if_neg (by rw [Hq0.out.1]; exact fun h => h rfl), Hs2.out, if_neg (by have h := Hql.out; omega), if_neg (fun h => h Hqp.out), if_neg (fun h => h Hqs.out), HRd.out])
        have Hok9 := hide (show HoOk (doneP s2 m y) from done_ok Hok2.out (by rw [He.out.2.2.1, He.out.1]; exact hpl) Hyl.out Heq.out)
        have hply0 := Hok2.out.ply
        have hply1 := Hok2.out.plies
        have hpl2 := Hok2.out.of.rules.pl2
        have hlen := Hok2.out.len
        have hmvl : m.mv.size ≤ 6 := by rw [← Heq.out]; show (mv_textL s2.p y).toArray.size ≤ 6; simpa using mtext_le s2.p y
        have hi1 := itoa_le hply0 (by omega)
        have hi2 := itoa_le Hok2.out.now Hok2.out.nowb
        have HE8 := hide (Hen.out.step HO8.out (fun i hi => by omega))
        have Hi1 := hide (fun w (hw : Later w8 w) => itoa_out s2.ply w hply0 (by omega) (HE8.out.no (later_only hw)))
        have Hi2 := hide (fun w (hw : Later w8 w) => itoa_out s2.now w Hok2.out.now Hok2.out.nowb (HE8.out.no (later_only hw)))
        have Hlc := hide (line_bytes s2 m.mv)
        obtain ⟨a1, ha1⟩ : ∃ a1, bytes (Lib.itoa s2.ply) = a1 := ⟨_, rfl⟩
        obtain ⟨a2, ha2⟩ : ∃ a2, bytes (Lib.itoa s2.now) = a2 := ⟨_, rfl⟩
        obtain ⟨ln0, hln0⟩ : ∃ ln0, bytes s2.lines = ln0 := ⟨_, rfl⟩
        rw [ha1] at Hi1 Hlc
        rw [ha2] at Hi2 Hlc
        rw [hln0] at Hlc
        have l1 : a1.size ≤ 20 := by rw [← ha1]; show (Lib.itoa s2.ply).toArray.size ≤ 20; simpa using hi1
        have l2 : a2.size ≤ 20 := by rw [← ha2]; show (Lib.itoa s2.now).toArray.size ≤ 20; simpa using hi2
        have l3 : ln0.size ≤ 1000000000000 := by rw [← hln0]; show s2.lines.toArray.size ≤ 1000000000000; simp only [List.size_toArray]; omega
        have HL24 := hide (show ∀ w' : World, Later w8 w' → w'.cell? ⟨h, 24, none⟩ = some (.string ln0) from fun w' hw => by
         obtain ⟨t0, t1, t2, t3, t4, t5⟩ := rh_rest (Later.blk hw HB8.out)
         rw [hln0] at t5
         exact t5)
        clear ha1 ha2 hi1 hi2 hln0 hlen
        have HS19 := hide (show ∀ w' : World, Later w8 w' → (w'.cell? ⟨h, 19, none⟩ = some (.int .i64 s2.ply) ∧ w'.cell? ⟨h, 22, none⟩ = some (.int .i64 s2.now) ∧ w'.cell? ⟨W.heap.size, 2, none⟩ = some (.string m.mv)) from fun w' hw => by
         obtain ⟨t0, t1, t2, t3, t4, t5⟩ := rh_rest (Later.blk hw HB8.out)
         exact ⟨t0, t3, (Later.blk hw Hm8.out).cellv rfl⟩)
        have HS19s := hide (show ∀ w' : World, Later w8 w' → ((w'.setCell ⟨h, 24, none⟩ (.string (ln0 ++ (a1 ++ ⟨#[32]⟩ ++ a2 ++ ⟨#[32]⟩ ++ m.mv ++ ⟨#[10]⟩)))).cell? ⟨h, 19, none⟩ = some (.int .i64 s2.ply) ∧ (w'.setCell ⟨h, 24, none⟩ (.string (ln0 ++ (a1 ++ ⟨#[32]⟩ ++ a2 ++ ⟨#[32]⟩ ++ m.mv ++ ⟨#[10]⟩)))).cell? ⟨h, 22, none⟩ = some (.int .i64 s2.now) ∧ (w'.setCell ⟨h, 24, none⟩ (.string (ln0 ++ (a1 ++ ⟨#[32]⟩ ++ a2 ++ ⟨#[32]⟩ ++ m.mv ++ ⟨#[10]⟩)))).cell? ⟨W.heap.size, 2, none⟩ = some (.string m.mv)) from fun w' hw => by
         obtain ⟨t0, t1, t2, t3, t4, t5⟩ := rh_rest (s := { s2 with lines := s2.lines ++ lineH s2 m.mv }) (A := A) (cp := cp) (h := h) (by rw [show rhC { s2 with lines := s2.lines ++ lineH s2 m.mv } A cp = (rhC s2 A cp).setIfInBounds 24 (.string (ln0 ++ (a1 ++ ⟨#[32]⟩ ++ a2 ++ ⟨#[32]⟩ ++ m.mv ++ ⟨#[10]⟩))) from by rw [Hlc.out]; rfl]; exact (Later.blk hw HB8.out).set_ 24 _)
         exact ⟨t0, t3, ((Later.blk hw Hm8.out).far (show W.heap.size ≠ h from by omega) _).cellv rfl⟩)
        have Hrc := hide (show rhC { s2 with lines := s2.lines ++ lineH s2 m.mv } A cp = (rhC s2 A cp).setIfInBounds 24 (.string (ln0 ++ (a1 ++ ⟨#[32]⟩ ++ a2 ++ ⟨#[32]⟩ ++ m.mv ++ ⟨#[10]⟩))) from by rw [Hlc.out]; rfl)
        have hl24 : w8.drew.cell? ⟨h, 24, none⟩ = some (.string ln0) := HL24.out _ Later.rfl.drew
        have n0b : ¬ (9223372036854775807 < a1.size + 1) := by omega
        have n1a : ¬ (9223372036854775807 < (a1 ++ ⟨#[32]⟩).size + a2.size) := by simp only [ByteArray.size_append, show (⟨#[32]⟩ : ByteArray).size = 1 from rfl]; omega
        have n1b : ¬ (9223372036854775807 < a1.size + 1 + a2.size) := by omega
        have n2a : ¬ (9223372036854775807 < (a1 ++ ⟨#[32]⟩ ++ a2).size + 1) := by simp only [ByteArray.size_append, show (⟨#[32]⟩ : ByteArray).size = 1 from rfl]; omega
        have n2b : ¬ (9223372036854775807 < a1.size + 1 + a2.size + 1) := by omega
        have n3a : ¬ (9223372036854775807 < (a1 ++ ⟨#[32]⟩ ++ a2 ++ ⟨#[32]⟩).size + m.mv.size) := by simp only [ByteArray.size_append, show (⟨#[32]⟩ : ByteArray).size = 1 from rfl]; omega
        have n3b : ¬ (9223372036854775807 < a1.size + 1 + a2.size + 1 + m.mv.size) := by omega
        have n4a : ¬ (9223372036854775807 < (a1 ++ ⟨#[32]⟩ ++ a2 ++ ⟨#[32]⟩ ++ m.mv).size + 1) := by simp only [ByteArray.size_append, show (⟨#[32]⟩ : ByteArray).size = 1 from rfl]; omega
        have n4b : ¬ (9223372036854775807 < a1.size + 1 + a2.size + 1 + m.mv.size + 1) := by omega
        have n5a : ¬ (9223372036854775807 < ln0.size + (a1 ++ ⟨#[32]⟩ ++ a2 ++ ⟨#[32]⟩ ++ m.mv ++ ⟨#[10]⟩).size) := by simp only [ByteArray.size_append, show (⟨#[32]⟩ : ByteArray).size = 1 from rfl, show (⟨#[10]⟩ : ByteArray).size = 1 from rfl]; omega
        have n5b : ¬ (9223372036854775807 < ln0.size + (a1.size + 1 + a2.size + 1 + m.mv.size + 1)) := by omega
        go_upto_region 19 with (fail)
        go_cut [] from 77 to 141 (fun w' => Blk w' h 57 (rhC { s2 with lines := s2.lines ++ lineH s2 m.mv } A cp) ∧ Only (fun x => x = h) w8 w')
        case first =>
         refine wp_region_held_drew (S := fun w' : World => (w'.cell? ⟨h, 19, none⟩ = some (.int .i64 s2.ply) ∧ w'.cell? ⟨h, 22, none⟩ = some (.int .i64 s2.now) ∧ w'.cell? ⟨W.heap.size, 2, none⟩ = some (.string m.mv))) (by kernel_rfl) (HS19.out _ Later.rfl.drew) (fun hHeld => ?_)
         refine tk 0 (some 95) (v := ?_) ?_ ?_; rotate_left 1; (intro w hSw; (try dsimp only at hSw); go_simp <;> with_reducible rfl); try simp only [Act.put, List.setIfInBounds_toArray, List.set_cons_zero, List.set_cons_succ]
         refine tk 1 (some 96) (v := ?_) ?_ ?_; rotate_left 1; (intro w hSw; (try dsimp only at hSw); go_simp <;> with_reducible rfl); try simp only [Act.put, List.setIfInBounds_toArray, List.set_cons_zero, List.set_cons_succ]
         refine tk 2 (some 97) (v := ?_) ?_ ?_; rotate_left 1; (intro w hSw; (try dsimp only at hSw); go_simp <;> with_reducible rfl); try simp only [Act.put, List.setIfInBounds_toArray, List.set_cons_zero, List.set_cons_succ]
         refine tk 4 (some 99) (v := ?_) ?_ ?_; rotate_left 1; (intro w hSw; (try dsimp only at hSw); go_simp <;> with_reducible rfl); try simp only [Act.put, List.setIfInBounds_toArray, List.set_cons_zero, List.set_cons_succ]
         refine tk 5 (some 100) (v := ?_) ?_ ?_; rotate_left 1; (intro w hSw; (try dsimp only at hSw); go_simp <;> with_reducible rfl); try simp only [Act.put, List.setIfInBounds_toArray, List.set_cons_zero, List.set_cons_succ]
         refine tk 6 (some 101) (v := ?_) ?_ ?_; rotate_left 1; (intro w hSw; (try dsimp only at hSw); go_simp <;> with_reducible rfl); try simp only [Act.put, List.setIfInBounds_toArray, List.set_cons_zero, List.set_cons_succ]
         refine tk 7 (some 102) (v := ?_) ?_ ?_; rotate_left 1; (intro w hSw; (try dsimp only at hSw); go_simp <;> with_reducible rfl); try simp only [Act.put, List.setIfInBounds_toArray, List.set_cons_zero, List.set_cons_succ]
         refine tk 10 (some 105) (v := ?_) ?_ ?_; rotate_left 1; (intro w hSw; (try dsimp only at hSw); go_simp <;> with_reducible rfl); try simp only [Act.put, List.setIfInBounds_toArray, List.set_cons_zero, List.set_cons_succ]
         refine tk 11 (some 106) (v := ?_) ?_ ?_; rotate_left 1; (intro w hSw; (try dsimp only at hSw); go_simp <;> with_reducible rfl); try simp only [Act.put, List.setIfInBounds_toArray, List.set_cons_zero, List.set_cons_succ]
         refine tk 12 (some 107) (v := ?_) ?_ ?_; rotate_left 1; (intro w hSw; (try dsimp only at hSw); go_simp <;> with_reducible rfl); try simp only [Act.put, List.setIfInBounds_toArray, List.set_cons_zero, List.set_cons_succ]
         refine tk 13 (some 108) (v := ?_) ?_ ?_; rotate_left 1; (intro w hSw; (try dsimp only at hSw); go_simp <;> with_reducible rfl); try simp only [Act.put, List.setIfInBounds_toArray, List.set_cons_zero, List.set_cons_succ]
         refine tk 17 (some 112) (v := ?_) ?_ ?_; rotate_left 1; (intro w hSw; (try dsimp only at hSw); go_simp <;> with_reducible rfl); try simp only [Act.put, List.setIfInBounds_toArray, List.set_cons_zero, List.set_cons_succ]
         refine tk 18 (some 113) (v := ?_) ?_ ?_; rotate_left 1; (intro w hSw; (try dsimp only at hSw); go_simp <;> with_reducible rfl); try simp only [Act.put, List.setIfInBounds_toArray, List.set_cons_zero, List.set_cons_succ]
         refine wpAnyH_ready (rs := [3, 8]) (by kernel_rfl) (by simp) ?_
         refine AllReadyH.cons (o := ⟨some 98, _, _, _, _, _⟩) rfl (fun K hK => ?_) ?_
         ·
          clear hHeld
          go_simp
          refine hK.out _ _ (by first | exact HS19s.out _ hwr | (refine HS19.out _ ?_; repeat (first | exact Later.rfl | exact hwr | exact hwq | refine Later.drew ?_ | refine Later.alloc ?_ _))) (fun hHeld => ?_)
          clear hK K
          try simp only [Act.put, List.setIfInBounds_toArray, List.set_cons_zero, List.set_cons_succ]
          refine wpAnyH_ready (rs := [8]) (by kernel_rfl) (by simp) ?_
          refine AllReadyH.cons (o := ⟨some 103, _, _, _, _, _⟩) rfl (fun K hK => ?_) ?_
          ·
           clear hHeld
           go_simp
           go_at_call 29
           with_reducible refine (Hi1.out _ (by repeat (first | exact Later.rfl | refine Later.drew ?_ | refine Later.alloc ?_ _))).mono ?_
           rintro e wi ⟨rfl, hwi⟩
           have hwq : Later w8 wi := Later.trans (by repeat (first | exact Later.rfl | refine Later.drew ?_ | refine Later.alloc ?_ _)) hwi
           have hl24 := HL24.out wi hwq
           try go_wp2_with fail
           refine hK.out _ _ (by first | exact HS19s.out _ hwr | (refine HS19.out _ ?_; repeat (first | exact Later.rfl | exact hwr | exact hwq | refine Later.drew ?_ | refine Later.alloc ?_ _))) (fun hHeld => ?_)
           clear hK K
           try simp only [Act.put, List.setIfInBounds_toArray, List.set_cons_zero, List.set_cons_succ]
           refine tk 9 (some 104) (v := ?_) ?_ ?_; rotate_left 1; (intro w hSw; (try dsimp only at hSw); go_simp <;> with_reducible rfl); try simp only [Act.put, List.setIfInBounds_toArray, List.set_cons_zero, List.set_cons_succ]
           refine wpAnyH_ready (rs := [14]) (by kernel_rfl) (by simp) ?_
           refine AllReadyH.cons (o := ⟨some 109, _, _, _, _, _⟩) rfl (fun K hK => ?_) ?_
           ·
            clear hHeld
            go_simp
            go_at_call 29
            with_reducible refine (Hi2.out _ (by repeat (first | exact Later.rfl | exact hwq | refine Later.drew ?_ | refine Later.alloc ?_ _))).mono ?_
            rintro e wj ⟨rfl, hwj⟩
            have hwr : Later w8 wj := Later.trans (by repeat (first | exact Later.rfl | exact hwq | refine Later.drew ?_ | refine Later.alloc ?_ _)) hwj
            have hl24j := HL24.out wj hwr
            try go_wp2_with fail
            refine hK.out _ _ (by first | exact HS19s.out _ hwr | (refine HS19.out _ ?_; repeat (first | exact Later.rfl | exact hwr | exact hwq | refine Later.drew ?_ | refine Later.alloc ?_ _))) (fun hHeld => ?_)
            clear hK K
            try simp only [Act.put, List.setIfInBounds_toArray, List.set_cons_zero, List.set_cons_succ]
            refine tk 15 (some 110) (v := ?_) ?_ ?_; rotate_left 1; (intro w hSw; (try dsimp only at hSw); go_simp <;> with_reducible rfl); try simp only [Act.put, List.setIfInBounds_toArray, List.set_cons_zero, List.set_cons_succ]
            refine tk 16 (some 111) (v := ?_) ?_ ?_; rotate_left 1; (intro w hSw; (try dsimp only at hSw); go_simp <;> with_reducible rfl); try simp only [Act.put, List.setIfInBounds_toArray, List.set_cons_zero, List.set_cons_succ]
            refine tk 19 (some 114) (v := ?_) ?_ ?_; rotate_left 1; (intro w hSw; (try dsimp only at hSw); go_simp <;> with_reducible rfl); try simp only [Act.put, List.setIfInBounds_toArray, List.set_cons_zero, List.set_cons_succ]
            refine tk 20 (some 115) (v := ?_) ?_ ?_; rotate_left 1; (intro w hSw; (try dsimp only at hSw); go_simp <;> with_reducible rfl); try simp only [Act.put, List.setIfInBounds_toArray, List.set_cons_zero, List.set_cons_succ]
            refine tk 21 (some 116) (v := ?_) ?_ ?_; rotate_left 1; (intro w hSw; (try dsimp only at hSw); go_simp <;> with_reducible rfl); try simp only [Act.put, List.setIfInBounds_toArray, List.set_cons_zero, List.set_cons_succ]
            refine tk 22 (some 117) (v := ?_) ?_ ?_; rotate_left 1; (intro w hSw; (try dsimp only at hSw); go_simp <;> with_reducible rfl); try simp only [Act.put, List.setIfInBounds_toArray, List.set_cons_zero, List.set_cons_succ]
            refine tk 23 (some 118) (v := ?_) ?_ ?_; rotate_left 1; (intro w hSw; (try dsimp only at hSw); go_simp <;> with_reducible rfl); try simp only [Act.put, List.setIfInBounds_toArray, List.set_cons_zero, List.set_cons_succ]
            refine wpAnyH_ready (rs := [24]) (by kernel_rfl) (by simp) ?_
            refine AllReadyH.cons (o := ⟨none, _, _, _, _, _⟩) rfl (fun K hK => ?_) ?_
            ·
             clear hHeld
             have xf := (Later.blk hwr HB8.out).free 24
             go_simp
             refine hK.out _ _ (by first | exact HS19s.out _ hwr | (refine HS19.out _ ?_; repeat (first | exact Later.rfl | exact hwr | exact hwq | refine Later.drew ?_ | refine Later.alloc ?_ _))) (fun hHeld => ?_)
             clear hK K
             try simp only [Act.put]
             refine wpAnyH_done (by kernel_rfl) ?_ _
             go_wp2_with fail
             go_meet
             case rel => exact ⟨by rw [Hrc.out]; exact (Later.blk hwr HB8.out).set_ 24 _, Only.setCell (S := fun x => x = h) ((later_only hwr).mono (fun _ _ h => h.elim)) (p := ⟨h, 24, none⟩) (.inl rfl) _⟩
            exact AllReadyH.nil
           exact AllReadyH.nil
          exact AllReadyH.nil
         refine AllReadyH.cons (o := ⟨some 103, _, _, _, _, _⟩) rfl (fun K hK => ?_) ?_
         ·
          clear hHeld
          go_simp
          go_at_call 29
          with_reducible refine (Hi1.out _ (by repeat (first | exact Later.rfl | refine Later.drew ?_ | refine Later.alloc ?_ _))).mono ?_
          rintro e wi ⟨rfl, hwi⟩
          have hwq : Later w8 wi := Later.trans (by repeat (first | exact Later.rfl | refine Later.drew ?_ | refine Later.alloc ?_ _)) hwi
          have hl24 := HL24.out wi hwq
          try go_wp2_with fail
          refine hK.out _ _ (by first | exact HS19s.out _ hwr | (refine HS19.out _ ?_; repeat (first | exact Later.rfl | exact hwr | exact hwq | refine Later.drew ?_ | refine Later.alloc ?_ _))) (fun hHeld => ?_)
          clear hK K
          try simp only [Act.put, List.setIfInBounds_toArray, List.set_cons_zero, List.set_cons_succ]
          refine tk 9 (some 104) (v := ?_) ?_ ?_; rotate_left 1; (intro w hSw; (try dsimp only at hSw); go_simp <;> with_reducible rfl); try simp only [Act.put, List.setIfInBounds_toArray, List.set_cons_zero, List.set_cons_succ]
          refine wpAnyH_ready (rs := [3, 14]) (by kernel_rfl) (by simp) ?_
          refine AllReadyH.cons (o := ⟨some 98, _, _, _, _, _⟩) rfl (fun K hK => ?_) ?_
          ·
           clear hHeld
           go_simp
           refine hK.out _ _ (by first | exact HS19s.out _ hwr | (refine HS19.out _ ?_; repeat (first | exact Later.rfl | exact hwr | exact hwq | refine Later.drew ?_ | refine Later.alloc ?_ _))) (fun hHeld => ?_)
           clear hK K
           try simp only [Act.put, List.setIfInBounds_toArray, List.set_cons_zero, List.set_cons_succ]
           refine wpAnyH_ready (rs := [14]) (by kernel_rfl) (by simp) ?_
           refine AllReadyH.cons (o := ⟨some 109, _, _, _, _, _⟩) rfl (fun K hK => ?_) ?_
           ·
            clear hHeld
            go_simp
            go_at_call 29
            with_reducible refine (Hi2.out _ (by repeat (first | exact Later.rfl | exact hwq | refine Later.drew ?_ | refine Later.alloc ?_ _))).mono ?_
            rintro e wj ⟨rfl, hwj⟩
            have hwr : Later w8 wj := Later.trans (by repeat (first | exact Later.rfl | exact hwq | refine Later.drew ?_ | refine Later.alloc ?_ _)) hwj
            have hl24j := HL24.out wj hwr
            try go_wp2_with fail
            refine hK.out _ _ (by first | exact HS19s.out _ hwr | (refine HS19.out _ ?_; repeat (first | exact Later.rfl | exact hwr | exact hwq | refine Later.drew ?_ | refine Later.alloc ?_ _))) (fun hHeld => ?_)
            clear hK K
            try simp only [Act.put, List.setIfInBounds_toArray, List.set_cons_zero, List.set_cons_succ]
            refine tk 15 (some 110) (v := ?_) ?_ ?_; rotate_left 1; (intro w hSw; (try dsimp only at hSw); go_simp <;> with_reducible rfl); try simp only [Act.put, List.setIfInBounds_toArray, List.set_cons_zero, List.set_cons_succ]
            refine tk 16 (some 111) (v := ?_) ?_ ?_; rotate_left 1; (intro w hSw; (try dsimp only at hSw); go_simp <;> with_reducible rfl); try simp only [Act.put, List.setIfInBounds_toArray, List.set_cons_zero, List.set_cons_succ]
            refine tk 19 (some 114) (v := ?_) ?_ ?_; rotate_left 1; (intro w hSw; (try dsimp only at hSw); go_simp <;> with_reducible rfl); try simp only [Act.put, List.setIfInBounds_toArray, List.set_cons_zero, List.set_cons_succ]
            refine tk 20 (some 115) (v := ?_) ?_ ?_; rotate_left 1; (intro w hSw; (try dsimp only at hSw); go_simp <;> with_reducible rfl); try simp only [Act.put, List.setIfInBounds_toArray, List.set_cons_zero, List.set_cons_succ]
            refine tk 21 (some 116) (v := ?_) ?_ ?_; rotate_left 1; (intro w hSw; (try dsimp only at hSw); go_simp <;> with_reducible rfl); try simp only [Act.put, List.setIfInBounds_toArray, List.set_cons_zero, List.set_cons_succ]
            refine tk 22 (some 117) (v := ?_) ?_ ?_; rotate_left 1; (intro w hSw; (try dsimp only at hSw); go_simp <;> with_reducible rfl); try simp only [Act.put, List.setIfInBounds_toArray, List.set_cons_zero, List.set_cons_succ]
            refine tk 23 (some 118) (v := ?_) ?_ ?_; rotate_left 1; (intro w hSw; (try dsimp only at hSw); go_simp <;> with_reducible rfl); try simp only [Act.put, List.setIfInBounds_toArray, List.set_cons_zero, List.set_cons_succ]
            refine wpAnyH_ready (rs := [24]) (by kernel_rfl) (by simp) ?_
            refine AllReadyH.cons (o := ⟨none, _, _, _, _, _⟩) rfl (fun K hK => ?_) ?_
            ·
             clear hHeld
             have xf := (Later.blk hwr HB8.out).free 24
             go_simp
             refine hK.out _ _ (by first | exact HS19s.out _ hwr | (refine HS19.out _ ?_; repeat (first | exact Later.rfl | exact hwr | exact hwq | refine Later.drew ?_ | refine Later.alloc ?_ _))) (fun hHeld => ?_)
             clear hK K
             try simp only [Act.put]
             refine wpAnyH_done (by kernel_rfl) ?_ _
             go_wp2_with fail
             go_meet
             case rel => exact ⟨by rw [Hrc.out]; exact (Later.blk hwr HB8.out).set_ 24 _, Only.setCell (S := fun x => x = h) ((later_only hwr).mono (fun _ _ h => h.elim)) (p := ⟨h, 24, none⟩) (.inl rfl) _⟩
            exact AllReadyH.nil
           exact AllReadyH.nil
          refine AllReadyH.cons (o := ⟨some 109, _, _, _, _, _⟩) rfl (fun K hK => ?_) ?_
          ·
           clear hHeld
           go_simp
           go_at_call 29
           with_reducible refine (Hi2.out _ (by repeat (first | exact Later.rfl | exact hwq | refine Later.drew ?_ | refine Later.alloc ?_ _))).mono ?_
           rintro e wj ⟨rfl, hwj⟩
           have hwr : Later w8 wj := Later.trans (by repeat (first | exact Later.rfl | exact hwq | refine Later.drew ?_ | refine Later.alloc ?_ _)) hwj
           have hl24j := HL24.out wj hwr
           try go_wp2_with fail
           refine hK.out _ _ (by first | exact HS19s.out _ hwr | (refine HS19.out _ ?_; repeat (first | exact Later.rfl | exact hwr | exact hwq | refine Later.drew ?_ | refine Later.alloc ?_ _))) (fun hHeld => ?_)
           clear hK K
           try simp only [Act.put, List.setIfInBounds_toArray, List.set_cons_zero, List.set_cons_succ]
           refine tk 15 (some 110) (v := ?_) ?_ ?_; rotate_left 1; (intro w hSw; (try dsimp only at hSw); go_simp <;> with_reducible rfl); try simp only [Act.put, List.setIfInBounds_toArray, List.set_cons_zero, List.set_cons_succ]
           refine tk 16 (some 111) (v := ?_) ?_ ?_; rotate_left 1; (intro w hSw; (try dsimp only at hSw); go_simp <;> with_reducible rfl); try simp only [Act.put, List.setIfInBounds_toArray, List.set_cons_zero, List.set_cons_succ]
           refine tk 19 (some 114) (v := ?_) ?_ ?_; rotate_left 1; (intro w hSw; (try dsimp only at hSw); go_simp <;> with_reducible rfl); try simp only [Act.put, List.setIfInBounds_toArray, List.set_cons_zero, List.set_cons_succ]
           refine tk 20 (some 115) (v := ?_) ?_ ?_; rotate_left 1; (intro w hSw; (try dsimp only at hSw); go_simp <;> with_reducible rfl); try simp only [Act.put, List.setIfInBounds_toArray, List.set_cons_zero, List.set_cons_succ]
           refine wpAnyH_ready (rs := [3]) (by kernel_rfl) (by simp) ?_
           refine AllReadyH.cons (o := ⟨some 98, _, _, _, _, _⟩) rfl (fun K hK => ?_) ?_
           ·
            clear hHeld
            go_simp
            refine hK.out _ _ (by first | exact HS19s.out _ hwr | (refine HS19.out _ ?_; repeat (first | exact Later.rfl | exact hwr | exact hwq | refine Later.drew ?_ | refine Later.alloc ?_ _))) (fun hHeld => ?_)
            clear hK K
            try simp only [Act.put, List.setIfInBounds_toArray, List.set_cons_zero, List.set_cons_succ]
            refine tk 21 (some 116) (v := ?_) ?_ ?_; rotate_left 1; (intro w hSw; (try dsimp only at hSw); go_simp <;> with_reducible rfl); try simp only [Act.put, List.setIfInBounds_toArray, List.set_cons_zero, List.set_cons_succ]
            refine tk 22 (some 117) (v := ?_) ?_ ?_; rotate_left 1; (intro w hSw; (try dsimp only at hSw); go_simp <;> with_reducible rfl); try simp only [Act.put, List.setIfInBounds_toArray, List.set_cons_zero, List.set_cons_succ]
            refine tk 23 (some 118) (v := ?_) ?_ ?_; rotate_left 1; (intro w hSw; (try dsimp only at hSw); go_simp <;> with_reducible rfl); try simp only [Act.put, List.setIfInBounds_toArray, List.set_cons_zero, List.set_cons_succ]
            refine wpAnyH_ready (rs := [24]) (by kernel_rfl) (by simp) ?_
            refine AllReadyH.cons (o := ⟨none, _, _, _, _, _⟩) rfl (fun K hK => ?_) ?_
            ·
             clear hHeld
             have xf := (Later.blk hwr HB8.out).free 24
             go_simp
             refine hK.out _ _ (by first | exact HS19s.out _ hwr | (refine HS19.out _ ?_; repeat (first | exact Later.rfl | exact hwr | exact hwq | refine Later.drew ?_ | refine Later.alloc ?_ _))) (fun hHeld => ?_)
             clear hK K
             try simp only [Act.put]
             refine wpAnyH_done (by kernel_rfl) ?_ _
             go_wp2_with fail
             go_meet
             case rel => exact ⟨by rw [Hrc.out]; exact (Later.blk hwr HB8.out).set_ 24 _, Only.setCell (S := fun x => x = h) ((later_only hwr).mono (fun _ _ h => h.elim)) (p := ⟨h, 24, none⟩) (.inl rfl) _⟩
            exact AllReadyH.nil
           exact AllReadyH.nil
          exact AllReadyH.nil
         exact AllReadyH.nil
        case rest =>
         obtain ⟨hb9, ho9⟩ := hcut
         rename World => w9
         have HB9 := hide hb9
         have HO9 := hide (HO8.out.trans' ho9 (fun _ _ h => h))
         clear n0b n1a n1b n2a n2b n3a n3b n4a n4b n5a n5b HS19 HS19s Hi1 Hi2 HL24 hl24 l1 l2 l3 Hlc HE8 hb9
         have Hd9 := hide (fun w (hw : Only (fun x => x = h) w9 w) => only_y (k := k) ho9 hw hbh Hcy.out)
         clear ho9
         have Hq3 := hide (every_made Hok2.out.of (moves_every Hyl.out)).2
         obtain ⟨q2, hq2⟩ : ∃ q2, madeP s2.r s2.p y = q2 := ⟨_, rfl⟩
         have Hq2 := hide hq2
         have Hma := hide (fun w => made_any s2.r A cp s2.p y q2 w Hok2.out.of (moves_every Hyl.out) hq2)
         clear hq2
         have HS20 := hide (show ∀ w' : World, Later w9 w' → (w'.cell? ⟨h, 0, none⟩ = some (.int .i64 s2.r.start.w) ∧ w'.cell? ⟨h, 1, none⟩ = some (.int .i64 s2.r.start.h) ∧ w'.cell? ⟨h, 2, none⟩ = some (.string s2.r.start.cells) ∧ w'.cell? ⟨h, 3, none⟩ = some (.int .i64 s2.r.start.turn) ∧ w'.cell? ⟨h, 4, none⟩ = some (.string s2.r.start.h0) ∧ w'.cell? ⟨h, 5, none⟩ = some (.string s2.r.start.h1) ∧ w'.cell? ⟨h, 6, none⟩ = some (.slice A s2.r.pieces.length cp) ∧ w'.cell? ⟨h, 7, none⟩ = some (.bool s2.r.drops) ∧ w'.cell? ⟨h, 8, none⟩ = some (.int .u8 (s2.r.lose : Int)) ∧ w'.cell? ⟨h, 9, none⟩ = some (.int .i64 s2.r.line) ∧ w'.cell? ⟨h, 10, none⟩ = some (.int .u8 (s2.r.reach : Int)) ∧ w'.cell? ⟨h, 11, none⟩ = some (.bool s2.r.stuck) ∧ w'.cell? ⟨h, 12, none⟩ = some (.int .i64 s2.r.plies) ∧ w'.cell? ⟨bm, om + k * 3, none⟩ = some (.int .i64 y.f) ∧ w'.cell? ⟨bm, om + k * 3 + 1, none⟩ = some (.int .i64 y.t) ∧ w'.cell? ⟨bm, om + k * 3 + 2, none⟩ = some (.int .u8 (y.c : Int))) from fun w' hw => by
          obtain ⟨r0, r1, r2, r3, r4, r5, r6, r7, r8, r9, r10, r11, r12⟩ := rh_rules (Later.blk hw HB9.out)
          obtain ⟨z0, z1, z2⟩ := Hd9.out w' ((later_only hw).mono (fun _ _ h => h.elim))
          exact ⟨r0, r1, r2, r3, r4, r5, r6, r7, r8, r9, r10, r11, r12, z0, z1, z2⟩)
         have HS20s := hide (show ∀ w' : World, Blk w' h 57 (rhC { s2 with lines := s2.lines ++ lineH s2 m.mv, p := q2 } A cp) → Only (fun x => x = h) w9 w' → (w'.cell? ⟨h, 0, none⟩ = some (.int .i64 s2.r.start.w) ∧ w'.cell? ⟨h, 1, none⟩ = some (.int .i64 s2.r.start.h) ∧ w'.cell? ⟨h, 2, none⟩ = some (.string s2.r.start.cells) ∧ w'.cell? ⟨h, 3, none⟩ = some (.int .i64 s2.r.start.turn) ∧ w'.cell? ⟨h, 4, none⟩ = some (.string s2.r.start.h0) ∧ w'.cell? ⟨h, 5, none⟩ = some (.string s2.r.start.h1) ∧ w'.cell? ⟨h, 6, none⟩ = some (.slice A s2.r.pieces.length cp) ∧ w'.cell? ⟨h, 7, none⟩ = some (.bool s2.r.drops) ∧ w'.cell? ⟨h, 8, none⟩ = some (.int .u8 (s2.r.lose : Int)) ∧ w'.cell? ⟨h, 9, none⟩ = some (.int .i64 s2.r.line) ∧ w'.cell? ⟨h, 10, none⟩ = some (.int .u8 (s2.r.reach : Int)) ∧ w'.cell? ⟨h, 11, none⟩ = some (.bool s2.r.stuck) ∧ w'.cell? ⟨h, 12, none⟩ = some (.int .i64 s2.r.plies) ∧ w'.cell? ⟨bm, om + k * 3, none⟩ = some (.int .i64 y.f) ∧ w'.cell? ⟨bm, om + k * 3 + 1, none⟩ = some (.int .i64 y.t) ∧ w'.cell? ⟨bm, om + k * 3 + 2, none⟩ = some (.int .u8 (y.c : Int))) from fun w' hb ho => by
          obtain ⟨r0, r1, r2, r3, r4, r5, r6, r7, r8, r9, r10, r11, r12⟩ := rh_rules hb
          obtain ⟨z0, z1, z2⟩ := Hd9.out w' ho
          exact ⟨r0, r1, r2, r3, r4, r5, r6, r7, r8, r9, r10, r11, r12, z0, z1, z2⟩)
         obtain ⟨p0, p1, p2, p3, p4, p5⟩ := rh_pos (Later.blk (Later.rfl (w := w9)).drew HB9.out)
         simp only at p0 p1 p2 p3 p4 p5
         go_upto_region 20 with (fail)
         refine wp_region_held_drew (S := fun w' : World => (w'.cell? ⟨h, 0, none⟩ = some (.int .i64 s2.r.start.w) ∧ w'.cell? ⟨h, 1, none⟩ = some (.int .i64 s2.r.start.h) ∧ w'.cell? ⟨h, 2, none⟩ = some (.string s2.r.start.cells) ∧ w'.cell? ⟨h, 3, none⟩ = some (.int .i64 s2.r.start.turn) ∧ w'.cell? ⟨h, 4, none⟩ = some (.string s2.r.start.h0) ∧ w'.cell? ⟨h, 5, none⟩ = some (.string s2.r.start.h1) ∧ w'.cell? ⟨h, 6, none⟩ = some (.slice A s2.r.pieces.length cp) ∧ w'.cell? ⟨h, 7, none⟩ = some (.bool s2.r.drops) ∧ w'.cell? ⟨h, 8, none⟩ = some (.int .u8 (s2.r.lose : Int)) ∧ w'.cell? ⟨h, 9, none⟩ = some (.int .i64 s2.r.line) ∧ w'.cell? ⟨h, 10, none⟩ = some (.int .u8 (s2.r.reach : Int)) ∧ w'.cell? ⟨h, 11, none⟩ = some (.bool s2.r.stuck) ∧ w'.cell? ⟨h, 12, none⟩ = some (.int .i64 s2.r.plies) ∧ w'.cell? ⟨bm, om + k * 3, none⟩ = some (.int .i64 y.f) ∧ w'.cell? ⟨bm, om + k * 3 + 1, none⟩ = some (.int .i64 y.t) ∧ w'.cell? ⟨bm, om + k * 3 + 2, none⟩ = some (.int .u8 (y.c : Int)))) (by kernel_rfl) (HS20.out _ Later.rfl.drew) (fun hHeld => ?_)
         refine tk 0 (some 119) (v := ?_) ?_ ?_; rotate_left 1; (intro w hSw; (try dsimp only at hSw); go_simp <;> with_reducible rfl); try simp only [Act.put, List.setIfInBounds_toArray, List.set_cons_zero, List.set_cons_succ]
         refine tk 1 (some 120) (v := ?_) ?_ ?_; rotate_left 1; (intro w hSw; (try dsimp only at hSw); go_simp <;> with_reducible rfl); try simp only [Act.put, List.setIfInBounds_toArray, List.set_cons_zero, List.set_cons_succ]
         refine tk 2 (some 121) (v := ?_) ?_ ?_; rotate_left 1; (intro w hSw; (try dsimp only at hSw); go_simp <;> with_reducible rfl); try simp only [Act.put, List.setIfInBounds_toArray, List.set_cons_zero, List.set_cons_succ]
         refine tk 3 (some 122) (v := ?_) ?_ ?_; rotate_left 1; (intro w hSw; (try dsimp only at hSw); go_simp <;> with_reducible rfl); try simp only [Act.put, List.setIfInBounds_toArray, List.set_cons_zero, List.set_cons_succ]
         refine tk 4 (some 123) (v := ?_) ?_ ?_; rotate_left 1; (intro w hSw; (try dsimp only at hSw); go_simp <;> with_reducible rfl); try simp only [Act.put, List.setIfInBounds_toArray, List.set_cons_zero, List.set_cons_succ]
         refine tk 5 (some 124) (v := ?_) ?_ ?_; rotate_left 1; (intro w hSw; (try dsimp only at hSw); go_simp <;> with_reducible rfl); try simp only [Act.put, List.setIfInBounds_toArray, List.set_cons_zero, List.set_cons_succ]
         refine tk 6 (some 125) (v := ?_) ?_ ?_; rotate_left 1; (intro w hSw; (try dsimp only at hSw); go_simp <;> with_reducible rfl); try simp only [Act.put, List.setIfInBounds_toArray, List.set_cons_zero, List.set_cons_succ]
         refine tk 7 (some 126) (v := ?_) ?_ ?_; rotate_left 1; (intro w hSw; (try dsimp only at hSw); go_simp <;> with_reducible rfl); try simp only [Act.put, List.setIfInBounds_toArray, List.set_cons_zero, List.set_cons_succ]
         refine tk 9 (some 128) (v := ?_) ?_ ?_; rotate_left 1; (intro w hSw; (try dsimp only at hSw); go_simp <;> with_reducible rfl); try simp only [Act.put, List.setIfInBounds_toArray, List.set_cons_zero, List.set_cons_succ]
         refine tk 10 (some 129) (v := ?_) ?_ ?_; rotate_left 1; (intro w hSw; (try dsimp only at hSw); go_simp <;> with_reducible rfl); try simp only [Act.put, List.setIfInBounds_toArray, List.set_cons_zero, List.set_cons_succ]
         refine tk 11 (some 130) (v := ?_) ?_ ?_; rotate_left 1; (intro w hSw; (try dsimp only at hSw); go_simp <;> with_reducible rfl); try simp only [Act.put, List.setIfInBounds_toArray, List.set_cons_zero, List.set_cons_succ]
         refine tk 12 (some 131) (v := ?_) ?_ ?_; rotate_left 1; (intro w hSw; (try dsimp only at hSw); go_simp <;> with_reducible rfl); try simp only [Act.put, List.setIfInBounds_toArray, List.set_cons_zero, List.set_cons_succ]
         refine wpAnyH_ready (rs := [8]) (by kernel_rfl) (by simp) ?_
         refine AllReadyH.cons (o := ⟨some 127, _, _, _, _, _⟩) rfl (fun K hK => ?_) ?_
         ·
          clear hHeld
          go_simp
          refine hK.out _ _ (by first | exact Hk10.out | (refine HS20.out _ ?_; repeat (first | exact Later.rfl | exact hwq | refine Later.drew ?_ | refine Later.alloc ?_ _))) (fun hHeld => ?_)
          clear hK K
          try simp only [Act.put, List.setIfInBounds_toArray, List.set_cons_zero, List.set_cons_succ]
          refine wpAnyH_ready (rs := [13]) (by kernel_rfl) (by simp) ?_
          refine AllReadyH.cons (o := ⟨some 132, _, _, _, _, _⟩) rfl (fun K hK => ?_) ?_
          ·
           clear hHeld
           go_simp
           go_at_call 57
           refine (Hma.out _).mono ?_
           rintro e wq ⟨rfl, hwx⟩
           have hwq : Later w9 wq := Later.trans (by repeat (first | exact Later.rfl | refine Later.drew ?_ | refine Later.alloc ?_ _)) hwx
           try go_wp2_with fail
           refine hK.out _ _ (by first | exact Hk10.out | (refine HS20.out _ ?_; repeat (first | exact Later.rfl | exact hwq | refine Later.drew ?_ | refine Later.alloc ?_ _))) (fun hHeld => ?_)
           clear hK K
           try simp only [Act.put, List.setIfInBounds_toArray, List.set_cons_zero, List.set_cons_succ]
           refine tk 14 (some 133) (v := ?_) ?_ ?_; rotate_left 1; (intro w hSw; (try dsimp only at hSw); go_simp <;> with_reducible rfl); try simp only [Act.put, List.setIfInBounds_toArray, List.set_cons_zero, List.set_cons_succ]
           refine tk 15 (some 134) (v := ?_) ?_ ?_; rotate_left 1; (intro w hSw; (try dsimp only at hSw); go_simp <;> with_reducible rfl); try simp only [Act.put, List.setIfInBounds_toArray, List.set_cons_zero, List.set_cons_succ]
           refine wpAnyH_ready (rs := [16]) (by kernel_rfl) (by simp) ?_
           refine AllReadyH.cons (o := ⟨none, _, _, _, _, _⟩) rfl (fun K hK => ?_) ?_
           ·
            clear hHeld
            obtain ⟨p0, p1, p2, p3, p4, p5⟩ := rh_pos (Later.blk hwq HB9.out)
            have xf0 := (Later.blk hwq HB9.out).free 13
            have xf1 := (Later.blk hwq HB9.out).free 14
            have xf2 := (Later.blk hwq HB9.out).free 15
            have xf3 := (Later.blk hwq HB9.out).free 16
            have xf4 := (Later.blk hwq HB9.out).free 17
            have xf5 := (Later.blk hwq HB9.out).free 18
            go_simp
            have HB10 := hide (show Blk ((((((wq.setCell ⟨h, 13, none⟩ (.int .i64 q2.w)).setCell ⟨h, 14, none⟩ (.int .i64 q2.h)).setCell ⟨h, 15, none⟩ (.string q2.cells)).setCell ⟨h, 16, none⟩ (.int .i64 q2.turn)).setCell ⟨h, 17, none⟩ (.string q2.h0)).setCell ⟨h, 18, none⟩ (.string q2.h1)) h 57 (rhC { s2 with lines := s2.lines ++ lineH s2 m.mv, p := q2 } A cp) from (((((((Later.blk hwq HB9.out).set_ 13 _).set_ 14 _).set_ 15 _).set_ 16 _).set_ 17 _).set_ 18 _))
            have Ho10 := hide (show Only (fun x => x = h) wq ((((((wq.setCell ⟨h, 13, none⟩ (.int .i64 q2.w)).setCell ⟨h, 14, none⟩ (.int .i64 q2.h)).setCell ⟨h, 15, none⟩ (.string q2.cells)).setCell ⟨h, 16, none⟩ (.int .i64 q2.turn)).setCell ⟨h, 17, none⟩ (.string q2.h0)).setCell ⟨h, 18, none⟩ (.string q2.h1)) from ((((((Only.refl (fun x => x = h) wq).setCell (p := ⟨h, 13, none⟩) (.inl rfl) _).setCell (p := ⟨h, 14, none⟩) (.inl rfl) _).setCell (p := ⟨h, 15, none⟩) (.inl rfl) _).setCell (p := ⟨h, 16, none⟩) (.inl rfl) _).setCell (p := ⟨h, 17, none⟩) (.inl rfl) _).setCell (p := ⟨h, 18, none⟩) (.inl rfl) _)
            have Hk10 := hide (show ((((((wq.setCell ⟨h, 13, none⟩ (.int .i64 q2.w)).setCell ⟨h, 14, none⟩ (.int .i64 q2.h)).setCell ⟨h, 15, none⟩ (.string q2.cells)).setCell ⟨h, 16, none⟩ (.int .i64 q2.turn)).setCell ⟨h, 17, none⟩ (.string q2.h0)).setCell ⟨h, 18, none⟩ (.string q2.h1)).cell? ⟨h, 0, none⟩ = some (.int .i64 s2.r.start.w) ∧ ((((((wq.setCell ⟨h, 13, none⟩ (.int .i64 q2.w)).setCell ⟨h, 14, none⟩ (.int .i64 q2.h)).setCell ⟨h, 15, none⟩ (.string q2.cells)).setCell ⟨h, 16, none⟩ (.int .i64 q2.turn)).setCell ⟨h, 17, none⟩ (.string q2.h0)).setCell ⟨h, 18, none⟩ (.string q2.h1)).cell? ⟨h, 1, none⟩ = some (.int .i64 s2.r.start.h) ∧ ((((((wq.setCell ⟨h, 13, none⟩ (.int .i64 q2.w)).setCell ⟨h, 14, none⟩ (.int .i64 q2.h)).setCell ⟨h, 15, none⟩ (.string q2.cells)).setCell ⟨h, 16, none⟩ (.int .i64 q2.turn)).setCell ⟨h, 17, none⟩ (.string q2.h0)).setCell ⟨h, 18, none⟩ (.string q2.h1)).cell? ⟨h, 2, none⟩ = some (.string s2.r.start.cells) ∧ ((((((wq.setCell ⟨h, 13, none⟩ (.int .i64 q2.w)).setCell ⟨h, 14, none⟩ (.int .i64 q2.h)).setCell ⟨h, 15, none⟩ (.string q2.cells)).setCell ⟨h, 16, none⟩ (.int .i64 q2.turn)).setCell ⟨h, 17, none⟩ (.string q2.h0)).setCell ⟨h, 18, none⟩ (.string q2.h1)).cell? ⟨h, 3, none⟩ = some (.int .i64 s2.r.start.turn) ∧ ((((((wq.setCell ⟨h, 13, none⟩ (.int .i64 q2.w)).setCell ⟨h, 14, none⟩ (.int .i64 q2.h)).setCell ⟨h, 15, none⟩ (.string q2.cells)).setCell ⟨h, 16, none⟩ (.int .i64 q2.turn)).setCell ⟨h, 17, none⟩ (.string q2.h0)).setCell ⟨h, 18, none⟩ (.string q2.h1)).cell? ⟨h, 4, none⟩ = some (.string s2.r.start.h0) ∧ ((((((wq.setCell ⟨h, 13, none⟩ (.int .i64 q2.w)).setCell ⟨h, 14, none⟩ (.int .i64 q2.h)).setCell ⟨h, 15, none⟩ (.string q2.cells)).setCell ⟨h, 16, none⟩ (.int .i64 q2.turn)).setCell ⟨h, 17, none⟩ (.string q2.h0)).setCell ⟨h, 18, none⟩ (.string q2.h1)).cell? ⟨h, 5, none⟩ = some (.string s2.r.start.h1) ∧ ((((((wq.setCell ⟨h, 13, none⟩ (.int .i64 q2.w)).setCell ⟨h, 14, none⟩ (.int .i64 q2.h)).setCell ⟨h, 15, none⟩ (.string q2.cells)).setCell ⟨h, 16, none⟩ (.int .i64 q2.turn)).setCell ⟨h, 17, none⟩ (.string q2.h0)).setCell ⟨h, 18, none⟩ (.string q2.h1)).cell? ⟨h, 6, none⟩ = some (.slice A s2.r.pieces.length cp) ∧ ((((((wq.setCell ⟨h, 13, none⟩ (.int .i64 q2.w)).setCell ⟨h, 14, none⟩ (.int .i64 q2.h)).setCell ⟨h, 15, none⟩ (.string q2.cells)).setCell ⟨h, 16, none⟩ (.int .i64 q2.turn)).setCell ⟨h, 17, none⟩ (.string q2.h0)).setCell ⟨h, 18, none⟩ (.string q2.h1)).cell? ⟨h, 7, none⟩ = some (.bool s2.r.drops) ∧ ((((((wq.setCell ⟨h, 13, none⟩ (.int .i64 q2.w)).setCell ⟨h, 14, none⟩ (.int .i64 q2.h)).setCell ⟨h, 15, none⟩ (.string q2.cells)).setCell ⟨h, 16, none⟩ (.int .i64 q2.turn)).setCell ⟨h, 17, none⟩ (.string q2.h0)).setCell ⟨h, 18, none⟩ (.string q2.h1)).cell? ⟨h, 8, none⟩ = some (.int .u8 (s2.r.lose : Int)) ∧ ((((((wq.setCell ⟨h, 13, none⟩ (.int .i64 q2.w)).setCell ⟨h, 14, none⟩ (.int .i64 q2.h)).setCell ⟨h, 15, none⟩ (.string q2.cells)).setCell ⟨h, 16, none⟩ (.int .i64 q2.turn)).setCell ⟨h, 17, none⟩ (.string q2.h0)).setCell ⟨h, 18, none⟩ (.string q2.h1)).cell? ⟨h, 9, none⟩ = some (.int .i64 s2.r.line) ∧ ((((((wq.setCell ⟨h, 13, none⟩ (.int .i64 q2.w)).setCell ⟨h, 14, none⟩ (.int .i64 q2.h)).setCell ⟨h, 15, none⟩ (.string q2.cells)).setCell ⟨h, 16, none⟩ (.int .i64 q2.turn)).setCell ⟨h, 17, none⟩ (.string q2.h0)).setCell ⟨h, 18, none⟩ (.string q2.h1)).cell? ⟨h, 10, none⟩ = some (.int .u8 (s2.r.reach : Int)) ∧ ((((((wq.setCell ⟨h, 13, none⟩ (.int .i64 q2.w)).setCell ⟨h, 14, none⟩ (.int .i64 q2.h)).setCell ⟨h, 15, none⟩ (.string q2.cells)).setCell ⟨h, 16, none⟩ (.int .i64 q2.turn)).setCell ⟨h, 17, none⟩ (.string q2.h0)).setCell ⟨h, 18, none⟩ (.string q2.h1)).cell? ⟨h, 11, none⟩ = some (.bool s2.r.stuck) ∧ ((((((wq.setCell ⟨h, 13, none⟩ (.int .i64 q2.w)).setCell ⟨h, 14, none⟩ (.int .i64 q2.h)).setCell ⟨h, 15, none⟩ (.string q2.cells)).setCell ⟨h, 16, none⟩ (.int .i64 q2.turn)).setCell ⟨h, 17, none⟩ (.string q2.h0)).setCell ⟨h, 18, none⟩ (.string q2.h1)).cell? ⟨h, 12, none⟩ = some (.int .i64 s2.r.plies) ∧ ((((((wq.setCell ⟨h, 13, none⟩ (.int .i64 q2.w)).setCell ⟨h, 14, none⟩ (.int .i64 q2.h)).setCell ⟨h, 15, none⟩ (.string q2.cells)).setCell ⟨h, 16, none⟩ (.int .i64 q2.turn)).setCell ⟨h, 17, none⟩ (.string q2.h0)).setCell ⟨h, 18, none⟩ (.string q2.h1)).cell? ⟨bm, om + k * 3, none⟩ = some (.int .i64 y.f) ∧ ((((((wq.setCell ⟨h, 13, none⟩ (.int .i64 q2.w)).setCell ⟨h, 14, none⟩ (.int .i64 q2.h)).setCell ⟨h, 15, none⟩ (.string q2.cells)).setCell ⟨h, 16, none⟩ (.int .i64 q2.turn)).setCell ⟨h, 17, none⟩ (.string q2.h0)).setCell ⟨h, 18, none⟩ (.string q2.h1)).cell? ⟨bm, om + k * 3 + 1, none⟩ = some (.int .i64 y.t) ∧ ((((((wq.setCell ⟨h, 13, none⟩ (.int .i64 q2.w)).setCell ⟨h, 14, none⟩ (.int .i64 q2.h)).setCell ⟨h, 15, none⟩ (.string q2.cells)).setCell ⟨h, 16, none⟩ (.int .i64 q2.turn)).setCell ⟨h, 17, none⟩ (.string q2.h0)).setCell ⟨h, 18, none⟩ (.string q2.h1)).cell? ⟨bm, om + k * 3 + 2, none⟩ = some (.int .u8 (y.c : Int)) from HS20s.out _ HB10.out (((later_only hwq).mono (fun _ _ h => h.elim)).trans' Ho10.out (fun _ _ h => h)))
            refine hK.out _ _ (by first | exact Hk10.out | (refine HS20.out _ ?_; repeat (first | exact Later.rfl | exact hwq | refine Later.drew ?_ | refine Later.alloc ?_ _))) (fun hHeld => ?_)
            clear hK K
            try simp only [Act.put]
            refine wpAnyH_done (by kernel_rfl) ?_ _
            have HO10 := hide ((HO9.out.trans' (later_only hwq) (fun _ _ h => h.elim)).trans' Ho10.out (fun _ _ h => h))
            obtain ⟨w10, hw10⟩ : ∃ w10, ((((((wq.setCell ⟨h, 13, none⟩ (.int .i64 q2.w)).setCell ⟨h, 14, none⟩ (.int .i64 q2.h)).setCell ⟨h, 15, none⟩ (.string q2.cells)).setCell ⟨h, 16, none⟩ (.int .i64 q2.turn)).setCell ⟨h, 17, none⟩ (.string q2.h0)).setCell ⟨h, 18, none⟩ (.string q2.h1)) = w10 := ⟨_, rfl⟩
            rw [hw10] at HB10 HO10 ⊢
            clear hw10 hwx hwq Ho10 Hk10 hHeld p0 p1 p2 p3 p4 p5 xf0 xf1 xf2 xf3 xf4 xf5 HS20 HS20s Hma
            obtain ⟨t0, t1, t2, t3, t4, t5⟩ := rh_rest HB10.out
            have xf := HB10.out.free 19
            have tw : IntKind.i64.wrap (s2.ply + 1) = s2.ply + 1 := IntWalk.i64_in _ (by omega)
            simp only at t0
            go_wp2_with fail
            go_ret
            have hb11 : Blk (w10.setCell ⟨h, 19, none⟩ (.int .i64 (s2.ply + 1))) h 57 (rhC (doneP s2 m y) A cp) := by rw [show (doneP s2 m y) = { s2 with lines := s2.lines ++ lineH s2 m.mv, p := q2, ply := s2.ply + 1 } from by rw [← Hq2.out]; rfl]; exact HB10.out.set_ 19 _
            exact ⟨by rw [Htk.out] <;> rfl, by rw [Htk.out]; exact hb11, HO10.out.setCell (p := ⟨h, 19, none⟩) (.inl rfl) _⟩
           exact AllReadyH.nil
          exact AllReadyH.nil
         exact AllReadyH.nil
   exact AllReadyH.nil
end Go.Proofs.YtcdfeaodfmfdnaaGreatDoor
