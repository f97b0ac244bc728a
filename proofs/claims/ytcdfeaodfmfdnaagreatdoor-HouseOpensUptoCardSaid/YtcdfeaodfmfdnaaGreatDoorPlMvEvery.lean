/- gameref.every -/
import Derived.Test.YtcdfeaodfmfdnaaGreatDoorPlMvSortM
import Derived.Test.YtcdfeaodfmfdnaaGreatDoorPlMvAll
import Derived.Test.YtcdfeaodfmfdnaaGreatDoorPlMvRGoes
namespace Go.Proofs.YtcdfeaodfmfdnaaGreatDoor
open Go.RowKit

/-- a row of the call's own that holds the moves L -/
structure EvS (W : World) (L : List Mv) (v : Value) (w : World) : Prop where
 own : OwnM w W.heap.size v L
 later : Later W w
theorem EvS.alloc {W w : World} {L : List Mv} {v : Value} (h : EvS W L v w) (o : Obj) : EvS W L v (w.alloc o) := ⟨World.ownsRow.alloc h.own o, h.later.alloc o⟩
theorem EvS.drewN {W w : World} {L : List Mv} {v : Value} (h : EvS W L v w) (n : Nat) : EvS W L v (w.drewN n) := ⟨h.own, h.later.drewN n⟩
theorem EvS.on {W w w' : World} {L : List Mv} {v : Value} (h : EvS W L v w) (hw : Later w w') : EvS W L v w' :=
 ⟨ownsRow_only (S := fun k => w.heap.size ≤ k) h.own (Only.of_below hw (fun _ _ hk => hk)) (fun g hg hk => by have := (h.own.lt g hg).2; omega), h.later.trans hw⟩
/-- one more move -/
theorem EvS.push {W w w' : World} {L : List Mv} {v v' : Value} {m : Mv} (h : EvS W L v w) (hown : w'.ownsRow W.heap.size 101 3 v' (L.length + 1) (cellsM L ++ [.int .i64 m.f, .int .i64 m.t, .int .u8 (m.c : Int)])) (hO : Only (fun k => v.ownBlock = some k) w w') : EvS W (L ++ [m]) v' w' :=
 ⟨by unfold OwnM; rw [cellsM_app, List.length_append]; exact hown, Below.trans h.later (hO.below_ (B := W.heap.size) (fun k hk => (h.own.lt k hk).1) h.later.size)⟩
theorem EvS.blk {W w w' : World} {L : List Mv} {v : Value} (h : EvS W L v w) (hO : Only (fun k => v.ownBlock = some k) w w') {g : Nat} {t : TypeId} {cs : Array Value} (hb : Blk w g t cs) (ht : t ≠ 101) : Blk w' g t cs := hb.only hO (own_ne h.own hb ht)
set_option maxHeartbeats 8000000 in
set_option maxRecDepth 100000 in
theorem every_any (r : RulesD) (A : Option Addr) (cp : Nat) (p : Pos) (W : World) (h : AllPre r p A W) :
  Calls Tryz.prog 103 #[.agg #[.int .i64 r.start.w, .int .i64 r.start.h, .string r.start.cells, .int .i64 r.start.turn, .string r.start.h0, .string r.start.h1, .slice A r.pieces.length cp, .bool r.drops, .int .u8 r.lose, .int .i64 r.line, .int .u8 r.reach, .bool r.stuck, .int .i64 r.plies], .agg #[.int .i64 p.w, .int .i64 p.h, .string p.cells, .int .i64 p.turn, .string p.h0, .string p.h1]] W (MovesOut W (everyL r p)) := by
 obtain ⟨n, m, hn, hm, n1, n8, m1, m8, hsz, h64⟩ := pos_wh h.pos
 have hpl := h.rules.p10
 have Hpre := hide h
 have Hbr := hide ((Blk.new W 27 #[.int .i64 r.start.w, .int .i64 r.start.h, .string r.start.cells, .int .i64 r.start.turn, .string r.start.h0, .string r.start.h1, .slice A r.pieces.length cp, .bool r.drops, .int .u8 r.lose, .int .i64 r.line, .int .u8 r.reach, .bool r.stuck, .int .i64 r.plies]).alloc (.cells #[.int .i64 p.w, .int .i64 p.h, .string p.cells, .int .i64 p.turn, .string p.h0, .string p.h1] 24))
 have hbp := (Blk.new (W.alloc (.cells #[.int .i64 r.start.w, .int .i64 r.start.h, .string r.start.cells, .int .i64 r.start.turn, .string r.start.h0, .string r.start.h1, .slice A r.pieces.length cp, .bool r.drops, .int .u8 r.lose, .int .i64 r.line, .int .u8 r.reach, .bool r.stuck, .int .i64 r.plies] 27)) 24 #[.int .i64 p.w, .int .i64 p.h, .string p.cells, .int .i64 p.turn, .string p.h0, .string p.h1])
 rw [World.size_alloc] at hbp
 have Hbp := hide hbp
 have Hs0 := hide (show EvS W [] (.slice none 0 0) ((W.alloc (.cells #[.int .i64 r.start.w, .int .i64 r.start.h, .string r.start.cells, .int .i64 r.start.turn, .string r.start.h0, .string r.start.h1, .slice A r.pieces.length cp, .bool r.drops, .int .u8 r.lose, .int .i64 r.line, .int .u8 r.reach, .bool r.stuck, .int .i64 r.plies] 27)).alloc (.cells #[.int .i64 p.w, .int .i64 p.h, .string p.cells, .int .i64 p.turn, .string p.h0, .string p.h1] 24)) from ⟨World.ownsRow_nil _ _ _ _, (Later.rfl.alloc _).alloc _⟩)
 have Hown := hide (fun c w => owner_any c w)
 have HQ := hide (fun (k : Nat) (w : World) (hw : Later W w) => refpiece_any r A cp k w (by omega) ((h.at_.below hw).more hw.size))
 obtain ⟨hd, tn, htn, hhd, hcell⟩ := hand_at h.pos
 have Htn := hide htn
 have Hhd := hide hhd
 have Hcell := hide hcell
 have hlt3 : tn < 2 := by have := h.pos.t1; omega
 have hh8 : hd.size ≤ 8 := by
  have := (hand_ok h.pos p.turn).1
  rw [hhd] at this
  exact this
 obtain ⟨ti, hi, hz0, hz1, hz2⟩ := info_parts info_mv
 have Hi := hide hi
 have Hz0 := hide hz0
 have Hz1 := hide hz1
 have Hz2 := hide hz2
 clear hi hz0 hz1 hz2 h hn hm hsz hbp htn hhd hcell
 have q3 : ((W.alloc (.cells #[.int .i64 r.start.w, .int .i64 r.start.h, .string r.start.cells, .int .i64 r.start.turn, .string r.start.h0, .string r.start.h1, .slice A r.pieces.length cp, .bool r.drops, .int .u8 r.lose, .int .i64 r.line, .int .u8 r.reach, .bool r.stuck, .int .i64 r.plies] 27)).alloc (.cells #[.int .i64 p.w, .int .i64 p.h, .string p.cells, .int .i64 p.turn, .string p.h0, .string p.h1] 24)).cell? ⟨W.heap.size + 1, 3, none⟩ = some (.int .i64 (tn : Int)) := by rw [← Htn.out]; exact Hbp.out.cellv (i := 3) rfl
 have q4 := Hcell.out _ _ _ Hbp.out
 go_enter Tryz.func103, Tryz.ntmps103
 go_upto_region 5 with (fail)
 obtain ⟨w0, hw0⟩ : ∃ w0, (W.alloc (.cells #[.int .i64 r.start.w, .int .i64 r.start.h, .string r.start.cells, .int .i64 r.start.turn, .string r.start.h0, .string r.start.h1, .slice A r.pieces.length cp, .bool r.drops, .int .u8 r.lose, .int .i64 r.line, .int .u8 r.reach, .bool r.stuck, .int .i64 r.plies] 27)).alloc (.cells #[.int .i64 p.w, .int .i64 p.h, .string p.cells, .int .i64 p.turn, .string p.h0, .string p.h1] 24) = w0 := ⟨_, rfl⟩
 rw [hw0] at Hbr Hbp Hs0 ⊢
 clear hw0 q3 q4
 go_loopw [5, 8] (fun v i wr => ∃ t : Nat, t ≤ p.cells.size ∧ i = .int .i64 t ∧ (r.drops = false → t = 0) ∧ EvS W (eDropTo p t) v wr ∧ Blk wr W.heap.size 27 #[.int .i64 r.start.w, .int .i64 r.start.h, .string r.start.cells, .int .i64 r.start.turn, .string r.start.h0, .string r.start.h1, .slice A r.pieces.length cp, .bool r.drops, .int .u8 r.lose, .int .i64 r.line, .int .u8 r.reach, .bool r.stuck, .int .i64 r.plies] ∧ Blk wr (W.heap.size + 1) 24 #[.int .i64 p.w, .int .i64 p.h, .string p.cells, .int .i64 p.turn, .string p.h0, .string p.h1]) (fun _ i _ => p.cells.size - (intOf i).toNat)
 case atStart => exact ⟨0, by omega, rfl, fun _ => rfl, Hs0.out, Hbr.out, Hbp.out⟩
 case round =>
  rename World => wr
  obtain ⟨t, ht, rfl, hd0, hst, hbr, hbp⟩ := hrel
  have Hst := hide hst
  have Hbr := hide hbr
  have Hbp := hide hbp
  have Hd0 := hide hd0
  have hdl : (eDropTo p t).length ≤ 8 * t := eDropTo_len Hpre.out.pos t
  obtain ⟨db, hdb⟩ : ∃ db, r.drops = db := ⟨_, rfl⟩
  have Hdb := hide hdb
  obtain ⟨x0, x1, x2, x3, x4, x5, x6, x7, x8, x9, x10, x11, x12⟩ := hbr.rules
  rw [hdb] at x7
  clear hst hbr hbp hd0 hdb
  go_upto_region 5 with (fail)
  go_cut [32] (fun s w' => s = .bool (decide (t < p.cells.size) && db) ∧ w' = wr)
  case first =>
   by_cases hlt : t < p.cells.size
   ·
    have e1 : decide ((t : Int) < (p.cells.size : Int)) = true := decide_eq_true (by omega)
    have Hr := hide (show (decide (t < p.cells.size) && db) = db by simp [hlt])
    go_wp2_with fail
    go_meet
    case rel => exact ⟨by rw [Hr.out], rfl⟩
   ·
    have e1 : decide ((t : Int) < (p.cells.size : Int)) = false := decide_eq_false (by omega)
    have Hr := hide (show (decide (t < p.cells.size) && db) = false by simp [hlt])
    go_wp2_with fail
    go_meet
    case rel => exact ⟨by rw [Hr.out], rfl⟩
  case rest =>
   obtain ⟨rfl, rfl⟩ := hcut
   clear x0 x1 x2 x3 x4 x5 x6 x7 x8 x9 x10 x11 x12
   obtain ⟨gb, hgb⟩ : ∃ gb, (decide (t < p.cells.size) && db) = gb := ⟨_, rfl⟩
   rw [hgb]
   cases gb
   ·
    have Hfin := hide (show eDropTo p t = eDrops r p by
     unfold eDrops
     cases hdr : r.drops with
     | false => rw [Hd0.out hdr]; rfl
     | true =>
      have : t = p.cells.size := by
       rw [← Hdb.out, hdr] at hgb
       simp at hgb
       omega
      rw [this]; rfl)
    clear hgb
    rw [Hfin.out] at Hst hdl
    have hdl2 : (eDrops r p).length ≤ 512 := by omega
    clear hdl
    go_upto_region 13 with (fail)
    go_loopw [5, 10] (fun v i wr => ∃ a : Nat, a ≤ p.cells.size ∧ i = .int .i64 a ∧ EvS W (eDrops r p ++ eBoardTo r.pieces p a) v wr ∧ Blk wr W.heap.size 27 #[.int .i64 r.start.w, .int .i64 r.start.h, .string r.start.cells, .int .i64 r.start.turn, .string r.start.h0, .string r.start.h1, .slice A r.pieces.length cp, .bool r.drops, .int .u8 r.lose, .int .i64 r.line, .int .u8 r.reach, .bool r.stuck, .int .i64 r.plies] ∧ Blk wr (W.heap.size + 1) 24 #[.int .i64 p.w, .int .i64 p.h, .string p.cells, .int .i64 p.turn, .string p.h0, .string p.h1]) (fun _ i _ => p.cells.size - (intOf i).toNat)
    case atStart => exact ⟨0, by omega, rfl, (by simpa [eBoardTo] using Hst.out), Hbr.out, Hbp.out⟩
    case round =>
     rename World => wr
     clear Hst Hbr Hbp
     obtain ⟨a, ha, rfl, hst, hbr, hbp⟩ := hrel
     have Hst := hide hst
     have Hbr := hide hbr
     have Hbp := hide hbp
     obtain ⟨q0, q1, q2, q3, q4, q5⟩ := hbp.pos6
     have hbl : (eBoardTo r.pieces p a).length ≤ p.cells.size * a := eBoardTo_len r.pieces p a
     clear hst hbr hbp
     by_cases hlt : a < p.cells.size
     ·
      have hmul : p.cells.size * a ≤ 4096 := Nat.le_trans (Nat.mul_le_mul h64 (by omega : a ≤ 64)) (by omega)
      have ej : decide ((a : Int) < (p.cells.size : Int)) = true := decide_eq_true (by omega)
      have j1 : (0 : Int) ≤ (a : Int) := by omega
      have j2 : (a : Int) < (p.cells.size : Int) := by omega
      have hcn : cellN p a = p.cells[a].toNat := by unfold cellN; rw [getD_get (show a < p.cells.data.toList.length from hlt)]; rfl
      have hoc := fun w => Hown.out p.cells[a].toNat w
      obtain ⟨on, hon⟩ : ∃ on, ownN p.cells[a].toNat = on := ⟨_, rfl⟩
      simp only [hon] at hoc
      have Hoc := hide hoc
      obtain ⟨ob, hob⟩ : ∃ ob, (on != p.turn) = ob := ⟨_, rfl⟩
      have Hob := hide hob
      clear hoc
      go_upto_region 15 with (fail)
      go_quiet ((go_at_call 134; exact Calls.quiet_of_same (Hoc.out _)))
      cases ob
      ·
       have hown : ownN (cellN p a) = p.turn := by
        rw [hcn, hon]
        have := Hob.out
        simpa using this
       obtain ⟨k, hk, hpx, hpa⟩ := own_fits Hpre.out.pos Hpre.out.fits hlt hown
       have Hb1 := hide (everyBoard_some hown hpa)
       have hpi : pieceI r.pieces p.cells[a].toNat = (k : Int) := by unfold pieceI; rw [← hcn, hpx]; rfl
       have hq := fun w hw => HQ.out p.cells[a].toNat w hw
       rw [hpi] at hq
       have Hq := hide hq
       have Hsa2 := hide (fun q => Hst.out.drewN q)
       have Hbr2' := hide (fun q => Hbr.out.drewN q)
       have Hbp2' := hide (fun q => Hbp.out.drewN q)
       obtain ⟨wa, hwa⟩ : ∃ wa, wr.drewN nq = wa := ⟨_, rfl⟩
       have Hsa := hide (hwa ▸ Hsa2.out nq)
       have Hbr2 := hide (hwa ▸ Hbr2'.out nq)
       have Hbp2 := hide (hwa ▸ Hbp2'.out nq)
       have Hlwa := hide Hsa.out.later
       rw [hwa]
       clear hwa Hsa2 Hbr2' Hbp2' Hst Hbr Hbp hq hpi hpx hpa hown hcn hon hob q0 q1 q2 q3 q4 q5
       obtain ⟨b, off, hA, hbA, z0, z1, Ak, ck, hck, z2, hways⟩ := (Hpre.out.at_.below Hlwa.out).at_ hk
       have Hways := hide hways
       have Hck := hide hck
       subst hA
       obtain ⟨x, hx⟩ : ∃ x, r.pieces[k] = x := ⟨_, rfl⟩
       have Hxm := hide (show x ∈ r.pieces from hx ▸ List.getElem_mem hk)
       rw [hx] at z0 z1 z2 Hb1 Hways Hck
       obtain ⟨x0, x1, x2, x3, x4, x5, x6, x7, x8, x9, x10, x11, x12⟩ := Hbr2.out.rules
       obtain ⟨q0, q1, q2, q3, q4, q5⟩ := Hbp2.out.pos6
       have hbw : b < wa.heap.size := Nat.lt_of_lt_of_le hbA Hlwa.out.size
       have hn1 : W.heap.size ≠ wa.heap.size := by have := Hbr2.out.lt; omega
       have hn2 : b ≠ wa.heap.size := by omega
       have hn3 : wa.heap.size ≠ W.heap.size := by omega
       have hn4 : wa.heap.size ≠ b := by omega
       have hn5 : W.heap.size + 1 ≠ wa.heap.size := by have := Hbp2.out.lt; omega
       have hn6 : wa.heap.size ≠ W.heap.size + 1 := by omega
       have i1 : (0 : Int) ≤ (k : Int) := by omega
       have i2 : (k : Int) < (r.pieces.length : Int) := by omega
       clear hways hck hx
       go_upto_region 16 with (fail)
       go_cut [11] (fun s w' => ∃ gp, s = .pointer (some ⟨gp, 0, none⟩) ∧ Blk w' gp 77 #[.int .u8 x.letter, .int .i64 x.worth, .slice Ak x.ways.length ck] ∧ Later wa w')
       case first =>
        go_region_held3 (fun w' => w'.cell? ⟨W.heap.size, 0, none⟩ = some (.int .i64 r.start.w) ∧ w'.cell? ⟨W.heap.size, 1, none⟩ = some (.int .i64 r.start.h) ∧ w'.cell? ⟨W.heap.size, 2, none⟩ = some (.string r.start.cells) ∧ w'.cell? ⟨W.heap.size, 3, none⟩ = some (.int .i64 r.start.turn) ∧ w'.cell? ⟨W.heap.size, 4, none⟩ = some (.string r.start.h0) ∧ w'.cell? ⟨W.heap.size, 5, none⟩ = some (.string r.start.h1) ∧ w'.cell? ⟨W.heap.size, 6, none⟩ = some (.slice (some ⟨b, off, none⟩) r.pieces.length cp) ∧ w'.cell? ⟨W.heap.size, 7, none⟩ = some (.bool r.drops) ∧ w'.cell? ⟨W.heap.size, 8, none⟩ = some (.int .u8 r.lose) ∧ w'.cell? ⟨W.heap.size, 9, none⟩ = some (.int .i64 r.line) ∧ w'.cell? ⟨W.heap.size, 10, none⟩ = some (.int .u8 r.reach) ∧ w'.cell? ⟨W.heap.size, 11, none⟩ = some (.bool r.stuck) ∧ w'.cell? ⟨W.heap.size, 12, none⟩ = some (.int .i64 r.plies) ∧ w'.cell? ⟨W.heap.size + 1, 2, none⟩ = some (.string p.cells) ∧ w'.cell? ⟨b, off + k * 3, none⟩ = some (.int .u8 x.letter) ∧ w'.cell? ⟨b, off + k * 3 + 1, none⟩ = some (.int .i64 x.worth) ∧ w'.cell? ⟨b, off + k * 3 + 2, none⟩ = some (.slice Ak x.ways.length ck)) (first | exact ⟨x0, x1, x2, x3, x4, x5, x6, x7, x8, x9, x10, x11, x12, q2, z0, z1, z2⟩ | (refine ⟨?_, ?_, ?_, ?_, ?_, ?_, ?_, ?_, ?_, ?_, ?_, ?_, ?_, ?_, ?_, ?_, ?_⟩ <;> assumption) | go_keep)
         ((first
          | (go_at_call 41; (with_reducible refine (Hq.out wa.drew Hlwa.out.drew).mono ?_); rintro e w2 ⟨rfl, hw2⟩; have hl2 := Later.trans (Later.rfl (w := wa)).drew hw2; obtain ⟨x0, x1, x2, x3, x4, x5, x6, x7, x8, x9, x10, x11, x12⟩ := (hl2.blk Hbr2.out).rules; have q2 := (hl2.blk Hbp2.out).pos6.2.2.1; have y0 := (Below.cell (p := ⟨b, off + k * 3, none⟩) hl2 hbw).trans z0; have y1 := (Below.cell (p := ⟨b, off + k * 3 + 1, none⟩) hl2 hbw).trans z1; have y2 := (Below.cell (p := ⟨b, off + k * 3 + 2, none⟩) hl2 hbw).trans z2)
          | (go_at_call 41; (with_reducible refine (Hq.out (wa.alloc (.cells #[.int .u8 0, .int .i64 0, .slice none 0 0] 77)).drew (Hlwa.out.alloc _).drew).mono ?_); rintro e w2 ⟨rfl, hw2⟩; have hl2 := Later.trans ((Later.rfl (w := wa)).alloc (.cells #[.int .u8 0, .int .i64 0, .slice none 0 0] 77)).drew hw2; have hnb := hw2.blk (Blk.new wa 77 #[.int .u8 0, .int .i64 0, .slice none 0 0]).drew; obtain ⟨n0, n1, n2, n3, n4, n5, n6⟩ := hnb.three6; obtain ⟨x0, x1, x2, x3, x4, x5, x6, x7, x8, x9, x10, x11, x12⟩ := (hl2.blk Hbr2.out).rules; have q2 := (hl2.blk Hbp2.out).pos6.2.2.1; have y0 := (Below.cell (p := ⟨b, off + k * 3, none⟩) hl2 hbw).trans z0; have y1 := (Below.cell (p := ⟨b, off + k * 3 + 1, none⟩) hl2 hbw).trans z1; have y2 := (Below.cell (p := ⟨b, off + k * 3 + 2, none⟩) hl2 hbw).trans z2)))
        all_goals
         go_wp2_with fail
         go_meet
         case rel =>
          first
           | exact ⟨_, rfl, Blk.new _ _ _, hl2.alloc _⟩
           | exact ⟨_, rfl, (by simpa using ((hnb.set_ 0 (.int .u8 x.letter)).set_ 1 (.int .i64 x.worth)).set_ 2 (.slice Ak x.ways.length ck)), ((hl2.set (p := ⟨wa.heap.size, 0, none⟩) (Nat.le_refl _) _).set (p := ⟨wa.heap.size, 1, none⟩) (Nat.le_refl _) _).set (p := ⟨wa.heap.size, 2, none⟩) (Nat.le_refl _) _⟩
       case rest =>
        obtain ⟨gp, rfl, hgp, hlp⟩ := hcut
        have Hgp := hide hgp
        have Hsc := hide (Hsa.out.on hlp)
        have Hbrc := hide (hlp.blk Hbr2.out)
        have Hbpc := hide (hlp.blk Hbp2.out)
        have Hwc := hide (show WaysAt wc W.heap.size Ak x.ways from Cells.below Hways.out (hlp.mono (show W.heap.size ≤ wa.heap.size by have := Hlwa.out.size; omega)))
        have hx8 := Hpre.out.rules.ways8 x Hxm.out
        have Hxok := hide (Hpre.out.rules.waysOk x Hxm.out)
        have Hn1 := hide (show eBoardTo r.pieces p (a + 1) = eBoardTo r.pieces p a ++ eBoardI p x a p.cells.size by rw [eBoardTo_succ, Hb1.out])
        clear hgp hlp x0 x1 x2 x3 x4 x5 x6 x7 x8 x9 x10 x11 x12 z0 z1 z2 hn1 hn2 hn3 hn4 hn5 hn6 i1 i2 q0 q1 q2 q3 q4 q5
        go_upto_region 18 with (fail)
        go_loopw [5, 12] (fun v i wi => ∃ t : Nat, t ≤ p.cells.size ∧ i = .int .i64 t ∧ EvS W (eDrops r p ++ eBoardTo r.pieces p a ++ eBoardI p x a t) v wi ∧ Blk wi W.heap.size 27 #[.int .i64 r.start.w, .int .i64 r.start.h, .string r.start.cells, .int .i64 r.start.turn, .string r.start.h0, .string r.start.h1, .slice (some ⟨b, off, none⟩) r.pieces.length cp, .bool r.drops, .int .u8 r.lose, .int .i64 r.line, .int .u8 r.reach, .bool r.stuck, .int .i64 r.plies] ∧ Blk wi (W.heap.size + 1) 24 #[.int .i64 p.w, .int .i64 p.h, .string p.cells, .int .i64 p.turn, .string p.h0, .string p.h1] ∧ Blk wi gp 77 #[.int .u8 x.letter, .int .i64 x.worth, .slice Ak x.ways.length ck] ∧ WaysAt wi W.heap.size Ak x.ways) (fun _ i _ => p.cells.size - (intOf i).toNat)
        case atStart => exact ⟨0, by omega, rfl, (by simpa [eBoardI] using Hsc.out), Hbrc.out, Hbpc.out, Hgp.out, Hwc.out⟩
        case round =>
         rename World => wi
         clear Hsc Hbrc Hbpc Hgp Hwc
         obtain ⟨t, ht, rfl, hst, hbr, hbp, hgp, hwy⟩ := hrel
         have Hst := hide hst
         have Hbr := hide hbr
         have Hbp := hide hbp
         have Hgp := hide hgp
         have Hwy := hide hwy
         have hil : (eBoardI p x a t).length ≤ t := eBoardI_len p x a t
         clear hst hbr hbp hgp hwy
         by_cases hltt : t < p.cells.size
         ·
          have ejt : decide ((t : Int) < (p.cells.size : Int)) = true := decide_eq_true (by omega)
          have jt1 : (0 : Int) ≤ (t : Int) := by omega
          have jt2 : (t : Int) < (p.cells.size : Int) := by omega
          have hlen : (eDrops r p ++ eBoardTo r.pieces p a ++ eBoardI p x a t).length < 100000 := by rw [List.length_append, List.length_append]; omega
          go_upto_region 22 with (fail)
          go_loopw [13, 14] (fun c i wj => ∃ q : Nat, q ≤ x.ways.length ∧ i = .int .i64 q ∧ c = .bool (canB p (x.ways.take q) a t) ∧ EvS W (eDrops r p ++ eBoardTo r.pieces p a ++ eBoardI p x a t) u5 wj ∧ Blk wj W.heap.size 27 #[.int .i64 r.start.w, .int .i64 r.start.h, .string r.start.cells, .int .i64 r.start.turn, .string r.start.h0, .string r.start.h1, .slice (some ⟨b, off, none⟩) r.pieces.length cp, .bool r.drops, .int .u8 r.lose, .int .i64 r.line, .int .u8 r.reach, .bool r.stuck, .int .i64 r.plies] ∧ Blk wj (W.heap.size + 1) 24 #[.int .i64 p.w, .int .i64 p.h, .string p.cells, .int .i64 p.turn, .string p.h0, .string p.h1] ∧ Blk wj gp 77 #[.int .u8 x.letter, .int .i64 x.worth, .slice Ak x.ways.length ck] ∧ WaysAt wj W.heap.size Ak x.ways) (fun _ i _ => x.ways.length - (intOf i).toNat)
          case atStart => exact ⟨0, by omega, rfl, by rw [canB_zero], Hst.out, Hbr.out, Hbp.out, Hgp.out, Hwy.out⟩
          case round =>
           rename World => wj
           clear Hst Hbr Hbp Hgp Hwy
           obtain ⟨q, hq, rfl, rfl, hst, hbr, hbp, hgp, hwy⟩ := hrel
           have Hst := hide hst
           have Hbr := hide hbr
           have Hbp := hide hbp
           have Hgp := hide hgp
           have Hwy := hide hwy
           obtain ⟨q0, q1, q2, q3, q4, q5⟩ := hbp.pos6
           obtain ⟨g0, g1, g2, -⟩ := hgp.three6
           clear hst hbr hbp hgp hwy
           by_cases hlq : q < x.ways.length
           ·
            obtain ⟨b2, off2, rfl, hb2, y0, y1, y2, y3⟩ := ways_at Hwy.out hlq
            have hcs := canB_succ p x.ways a t q hlq
            obtain ⟨wy, hwy⟩ : ∃ wy, x.ways[q] = wy := ⟨_, rfl⟩
            have Hwok := hide (show WayOk wy from hwy ▸ Hxok.out _ (List.getElem_mem hlq))
            rw [hwy] at y0 y1 y2 y3 hcs
            have hct : cellN p t = p.cells[t].toNat := by unfold cellN; rw [getD_get (show t < p.cells.data.toList.length from hltt)]; rfl
            rw [hct] at hcs
            have Hcs := hide hcs
            obtain ⟨on2, hon2⟩ : ∃ on, ownN p.cells[t].toNat = on := ⟨_, rfl⟩
            have hoc := fun w => Hown.out p.cells[t].toNat w
            simp only [hon2] at hoc
            have Hoc2 := hide hoc
            have Hff := hide (show fitsR p.turn wy.take p.cells[t].toNat = (((on2 == 2) && (wy.take != 1)) || ((on2 == 1 - p.turn) && (wy.take != 2))) by rw [← hon2]; rfl)
            have Hgoes := hide (fun w => rgoes_any p wy a t w Hpre.out.pos Hwok.out hlt hltt)
            clear hwy hct hcs hon2 hoc
            have hcond : decide ((q : Int) < (x.ways.length : Int)) = true := decide_eq_true (by omega)
            go_upto_region 25 with (fail)
            have HO := hide (show Later wj (wj.alloc (.cells #[.int .i64 wy.kind, .int .i64 wy.x, .int .i64 wy.y, .int .i64 wy.take] 80)) from Later.rfl.alloc _)
            have Hbw := hide (Blk.new wj 80 #[.int .i64 wy.kind, .int .i64 wy.x, .int .i64 wy.y, .int .i64 wy.take])
            obtain ⟨gw, hgw⟩ : ∃ gw, wj.heap.size = gw := ⟨_, rfl⟩
            obtain ⟨wk, hwk⟩ : ∃ wk, wj.alloc (.cells #[.int .i64 wy.kind, .int .i64 wy.x, .int .i64 wy.y, .int .i64 wy.take] 80) = wk := ⟨_, rfl⟩
            rw [hgw] at Hbw ⊢
            rw [hwk] at HO Hbw ⊢
            have Hst1 := hide (Hst.out.on HO.out)
            have Hbr1 := hide (HO.out.blk Hbr.out)
            have Hbp1 := hide (HO.out.blk Hbp.out)
            have Hgp1 := hide (HO.out.blk Hgp.out)
            have Hwy1 := hide (show WaysAt wk W.heap.size (some ⟨b2, off2, none⟩) x.ways from Cells.below Hwy.out (HO.out.mono (show W.heap.size ≤ wj.heap.size by have := Hst.out.later.size; omega)))
            clear hgw hwk HO Hst Hbr Hbp Hgp Hwy q0 q1 q2 q3 q4 q5 g0 g1 g2 y0 y1 y2 y3
            obtain ⟨q0, q1, q2, q3, q4, q5⟩ := Hbp1.out.pos6
            obtain ⟨v0, v1, v2, v3⟩ := Hbw.out.four4
            go_upto_region 26 with ((go_at_call 134; refine (Hoc2.out _).mono ?_; rintro e w' ⟨rfl, hw'⟩; rw [hw']; clear hw'))
            go_cut [17] (fun s w2 => s = .bool (fitsR p.turn wy.take p.cells[t].toNat) ∧ w2 = wk)
            case first =>
             have t01 : 0 ≤ p.turn := Hpre.out.pos.t0
             have t02 : p.turn ≤ 1 := Hpre.out.pos.t1
             obtain ⟨b1, hb1⟩ : ∃ b, (on2 == 2) = b := ⟨_, rfl⟩
             obtain ⟨k1, hk1⟩ : ∃ b, (wy.take != 1) = b := ⟨_, rfl⟩
             obtain ⟨b2', hb2'⟩ : ∃ b, (on2 == 1 - p.turn) = b := ⟨_, rfl⟩
             obtain ⟨k2, hk2⟩ : ∃ b, (wy.take != 2) = b := ⟨_, rfl⟩
             have Hf := hide (show fitsR p.turn wy.take p.cells[t].toNat = ((b1 && k1) || (b2' && k2)) by rw [Hff.out, hb1, hk1, hb2', hk2])
             go_wp2_with fail
             all_goals
              go_meet
              case rel => exact ⟨by rw [Hf.out]; first | rfl | simp [*], rfl⟩
            case rest =>
             obtain ⟨rfl, rfl⟩ := hcut
             have Hst := Hst1
             have Hbr := Hbr1
             have Hbp := Hbp1
             have Hgp := Hgp1
             have Hwy := Hwy1
             clear Hst1 Hbr1 Hbp1 Hgp1 Hwy1
             obtain ⟨cb, hcb⟩ : ∃ cb, canB p (x.ways.take q) a t = cb := ⟨_, rfl⟩
             obtain ⟨fb, hfb⟩ : ∃ fb, fitsR p.turn wy.take p.cells[t].toNat = fb := ⟨_, rfl⟩
             obtain ⟨ne, hne⟩ : ∃ ne, (a != t) = ne := ⟨_, rfl⟩
             have e9 : ((a : Int) != (t : Int)) = ne := by rw [← hne, Bool.eq_iff_iff]; simp only [bne_iff_ne, ne_eq]; omega
             rw [hcb, hfb]
             cases cb
             ·
              cases fb
              ·
               have Hr := hide (show canB p (x.ways.take (q + 1)) a t = false from by rw [Hcs.out, hcb, hfb]; simp)
               clear hcb hfb hne
               go_wp2_with fail
               go_roundw
               case rel => exact ⟨q + 1, by omega, by go_num, by rw [Hr.out], Hst.out, Hbr.out, Hbp.out, Hgp.out, Hwy.out⟩
               case measure => simp [intOf]; omega
              ·
               cases ne
               ·
                have Hr := hide (show canB p (x.ways.take (q + 1)) a t = false from by rw [Hcs.out, hcb, hfb, hne]; simp)
                clear hcb hfb hne
                go_wp2_with fail
                go_roundw
                case rel => exact ⟨q + 1, by omega, by go_num, by rw [Hr.out], Hst.out, Hbr.out, Hbp.out, Hgp.out, Hwy.out⟩
                case measure => simp [intOf]; omega
               ·
                obtain ⟨gb, hgb⟩ : ∃ gb, goesB p wy a t = gb := ⟨_, rfl⟩
                have Hr := hide (show canB p (x.ways.take (q + 1)) a t = gb from by rw [Hcs.out, hcb, hfb, hne, hgb]; simp)
                have hgc := fun w => Hgoes.out w
                rw [hgb] at hgc
                have Hgc := hide hgc
                clear hcb hfb hne hgb hgc
                go_wp2_with (go_at_call 135; refine (Hgc.out _).mono ?_; rintro e w7 ⟨rfl, hw7⟩)
                go_roundw
                case rel => exact ⟨q + 1, by omega, by go_num, by rw [Hr.out], Hst.out.on hw7, hw7.blk Hbr.out, hw7.blk Hbp.out, hw7.blk Hgp.out, Cells.below Hwy.out (hw7.mono Hst.out.later.size)⟩
                case measure => simp [intOf]; omega
             ·
              have Hr := hide (show canB p (x.ways.take (q + 1)) a t = true from by rw [Hcs.out, hcb, hfb]; simp)
              clear hcb hfb hne
              go_wp2_with fail
              go_roundw
              case rel => exact ⟨q + 1, by omega, by go_num, by rw [Hr.out], Hst.out, Hbr.out, Hbp.out, Hgp.out, Hwy.out⟩
              case measure => simp [intOf]; omega
           ·
            obtain rfl : q = x.ways.length := by omega
            rw [List.take_length]
            obtain ⟨cb, hcb⟩ : ∃ cb, canB p x.ways a t = cb := ⟨_, rfl⟩
            have hsucc := eBoardI_succ p x a t
            rw [hcb] at hsucc ⊢
            have Hsucc := hide hsucc
            clear hcb hsucc
            obtain ⟨L, hL⟩ : ∃ L, eDrops r p ++ eBoardTo r.pieces p a ++ eBoardI p x a t = L := ⟨_, rfl⟩
            have Happ := hide (show eDrops r p ++ eBoardTo r.pieces p a ++ eBoardI p x a (t + 1) = L ++ (if cb = true then [⟨(a : Int), (t : Int), x.letter⟩] else []) by rw [Hsucc.out, ← List.append_assoc, hL])
            rw [hL] at Hst hlen
            clear hL Hsucc
            cases cb
            ·
             go_wp2_with fail
             go_roundw
             case rel => exact ⟨t + 1, by omega, by go_num, (by rw [Happ.out]; simpa using Hst.out), Hbr.out, Hbp.out, Hgp.out, Hwy.out⟩
             case measure => simp [intOf]; omega
            ·
             have Hal := hide (Hst.out.alloc (.cells #[.int .i64 (a : Int), .int .i64 (t : Int), .int .u8 (x.letter : Int)] 101))
             have Hbr4 := hide (Hbr.out.alloc (.cells #[.int .i64 (a : Int), .int .i64 (t : Int), .int .u8 (x.letter : Int)] 101))
             have Hbp4 := hide (Hbp.out.alloc (.cells #[.int .i64 (a : Int), .int .i64 (t : Int), .int .u8 (x.letter : Int)] 101))
             have Hgp4 := hide (Hgp.out.alloc (.cells #[.int .i64 (a : Int), .int .i64 (t : Int), .int .u8 (x.letter : Int)] 101))
             have hgpl := Hgp.out.lt
             go_wp2_with (at_builtin; refine wpList_appendK _ rfl (.tmp 149) (.tmp 155) 111 rfl W.heap.size 101 ti (.agg #[.int .i64 0, .int .i64 0, .int .u8 0]) 3 24 Tryz.underlying111 Hi.out Hz0.out Hz1.out Hz2.out rfl (by decide) _ L.length (cellsM L) rfl Hal.out.own [.int .i64 (a : Int), .int .i64 (t : Int), .int .u8 (x.letter : Int)] rfl wj.heap.size 101 rfl (Blk.new wj _ _) ?h1 ?h2 ?h3 ?h4 ?_)
             case h1 => simp [Value.oneCell']
             case h2 => unfold maxLen; omega
             case h3 => omega
             case h4 => have := Hal.out.later.size; simpa using this
             intro v' w6 hown6 hO6 hwh6
             have Hs6 := hide (show EvS W (L ++ [⟨(a : Int), (t : Int), x.letter⟩]) v' w6 from Hal.out.push hown6 hO6)
             have Hbr6 := hide (Hal.out.blk hO6 Hbr4.out (by decide))
             have Hbp6 := hide (Hal.out.blk hO6 Hbp4.out (by decide))
             have Hgp6 := hide (Hal.out.blk hO6 Hgp4.out (by decide))
             have Hwy6 := hide (show WaysAt w6 W.heap.size Ak x.ways from Cells.below Hwy.out (Below.trans ((below_fresh wj _).mono Hst.out.later.size) (hO6.below_ (B := W.heap.size) (fun k hk => (Hal.out.own.lt k hk).1) Hal.out.later.size)))
             clear hown6 hO6 hwh6
             go_wp2_with fail
             go_roundw
             case rel => exact ⟨t + 1, by omega, by go_num, (by rw [Happ.out]; exact Hs6.out), Hbr6.out, Hbp6.out, Hgp6.out, Hwy6.out⟩
             case measure => simp [intOf]; omega
         ·
          obtain rfl : t = p.cells.size := by omega
          go_wp2_with fail
          go_roundw
          case rel => exact ⟨a + 1, by omega, by go_num, (by rw [Hn1.out, ← List.append_assoc]; exact Hst.out), Hbr.out, Hbp.out⟩
          case measure => simp [intOf]; omega
      ·
       have Hn := hide (show eBoardTo r.pieces p (a + 1) = eBoardTo r.pieces p a by
        rw [eBoardTo_succ, everyBoard_none (by
         rw [hcn, hon]
         have := Hob.out
         simpa using this), List.append_nil])
       clear hcn hon hob
       go_wp2_with fail
       go_roundw
       case rel => exact ⟨a + 1, by omega, by go_num, (by rw [Hn.out]; exact Hst.out.drewN _), Hbr.out.drewN _, Hbp.out.drewN _⟩
       case measure => simp [intOf]; omega
     ·
      obtain rfl : a = p.cells.size := by omega
      have Hev := hide (everyL_eq r p)
      rw [← Hev.out] at Hst
      obtain ⟨A2, c2, rfl, hc2, _, hcells2⟩ := Cells.of_ownK Hst.out.own
      have Hc2 := hide hc2
      have Hcells2 := hide hcells2
      clear hc2 hcells2
      go_wp2_with fail
      go_ret
      exact ⟨A2, c2, rfl, Hc2.out, Hcells2.out, (fun ad h => by subst h; exact (Hst.out.own.lt ad.block rfl).1), Hst.out.later⟩
   ·
    have hlt : t < p.cells.size := by
     simp at hgb; exact hgb.1
    have Hdt := hide (show r.drops = true by rw [Hdb.out]; simp at hgb; exact hgb.2)
    clear hgb
    go_upto_region 8 with (fail)
    go_loopw [5, 9] (fun v i wi => ∃ i0 : Nat, i0 ≤ hd.size ∧ i = .int .i64 i0 ∧ EvS W (eDropTo p t ++ eDropI p t i0) v wi ∧ Blk wi W.heap.size 27 #[.int .i64 r.start.w, .int .i64 r.start.h, .string r.start.cells, .int .i64 r.start.turn, .string r.start.h0, .string r.start.h1, .slice A r.pieces.length cp, .bool r.drops, .int .u8 r.lose, .int .i64 r.line, .int .u8 r.reach, .bool r.stuck, .int .i64 r.plies] ∧ Blk wi (W.heap.size + 1) 24 #[.int .i64 p.w, .int .i64 p.h, .string p.cells, .int .i64 p.turn, .string p.h0, .string p.h1]) (fun _ i _ => hd.size - (intOf i).toNat)
    case atStart => exact ⟨0, by omega, rfl, (by simpa [eDropI] using Hst.out), Hbr.out, Hbp.out⟩
    case round =>
     rename World => wi
     clear Hst Hbr Hbp
     obtain ⟨i0, hi0, rfl, hst, hbr, hbp⟩ := hrel
     have Hst := hide hst
     have Hbr := hide hbr
     have Hbp := hide hbp
     have hil : (eDropI p t i0).length ≤ i0 := eDropI_len p t i0
     have hlen : (eDropTo p t ++ eDropI p t i0).length ≤ 1000 := by rw [List.length_append]; omega
     obtain ⟨q0, q1, q2, q3, q4, q5⟩ := hbp.pos6
     clear hst hbr hbp
     by_cases hlt4 : i0 < hd.size
     ·
      have hcn : cellN p t = p.cells[t].toNat := by unfold cellN; rw [getD_get (show t < p.cells.data.toList.length from hlt)]; rfl
      have hlh : i0 < (handOf p p.turn).length := by rw [Hhd.out]; exact hlt4
      have hsucc := eDropI_succ p t i0
      have hle : (handOf p p.turn).getD i0 0 = hd[i0] := by rw [Hhd.out, getD_get (show i0 < hd.data.toList.length from hlt4)]; rfl
      rw [hle, hcn] at hsucc
      have j1 : (0 : Int) ≤ (i0 : Int) := by omega
      have j2 : (i0 : Int) < (hd.size : Int) := by omega
      have j3 : (0 : Int) ≤ (t : Int) := by omega
      have j4 : (t : Int) < (p.cells.size : Int) := by omega
      obtain ⟨ce, hce⟩ : ∃ ce, (p.cells[t].toNat == 46) = ce := ⟨_, rfl⟩
      have e1 : ((p.cells[t].toNat : Int) == 46) = ce := eq_bool hce
      rw [hce] at hsucc
      have Hsucc := hide hsucc
      clear hsucc hcn hlh hce
      cases ce
      ·
       clear hle
       have Hno := hide (show eDropI p t (i0 + 1) = eDropI p t i0 by rw [Hsucc.out]; simp)
       go_upto_region 10 with (fail)
       go_quiet (fail)
       go_wp2_with fail
       go_roundw
       case rel => exact ⟨i0 + 1, by omega, by go_num, (by rw [Hno.out]; exact Hst.out.drewN _), Hbr.out.drewN _, Hbp.out.drewN _⟩
       case measure => simp [intOf]; omega
      ·
       by_cases h0 : i0 = 0
       ·
        have e2 : ((i0 : Int) == 0) = true := by simp [h0]
        have hfr : (true && freshB (handOf p p.turn) i0) = true := by simp [freshB, h0]
        clear h0 hle
        have Hyes := hide (show eDropTo p t ++ eDropI p t (i0 + 1) = (eDropTo p t ++ eDropI p t i0) ++ [⟨-1, (t : Int), hd[i0].toNat⟩] by rw [Hsucc.out, if_pos hfr, ← List.append_assoc])
        go_upto_region 10 with (fail)
        go_quiet (fail)
        have Hst2 := hide (fun q => Hst.out.drewN q)
        have Hbr2 := hide (fun q => Hbr.out.drewN q)
        have Hbp2 := hide (fun q => Hbp.out.drewN q)
        obtain ⟨wq, hwq⟩ : ∃ wq, wi.drewN nq = wq := ⟨_, rfl⟩
        have Hst3 := hide (hwq ▸ Hst2.out nq)
        have Hbr3 := hide (hwq ▸ Hbr2.out nq)
        have Hbp3 := hide (hwq ▸ Hbp2.out nq)
        rw [hwq]
        clear hwq Hst2 Hbr2 Hbp2 Hst Hbr Hbp
        obtain ⟨L, hL⟩ : ∃ L, eDropTo p t ++ eDropI p t i0 = L := ⟨_, rfl⟩
        rw [hL] at Hst3 hlen Hyes
        have Hal := hide (Hst3.out.alloc (.cells #[.int .i64 (-1), .int .i64 (t : Int), .int .u8 (hd[i0].toNat : Int)] 101))
        have Hbr4 := hide (Hbr3.out.alloc (.cells #[.int .i64 (-1), .int .i64 (t : Int), .int .u8 (hd[i0].toNat : Int)] 101))
        have Hbp4 := hide (Hbp3.out.alloc (.cells #[.int .i64 (-1), .int .i64 (t : Int), .int .u8 (hd[i0].toNat : Int)] 101))
        clear hL
        go_wp2_with (at_builtin; refine wpList_appendK _ rfl (.tmp 60) (.tmp 66) 111 rfl W.heap.size 101 ti (.agg #[.int .i64 0, .int .i64 0, .int .u8 0]) 3 24 Tryz.underlying111 Hi.out Hz0.out Hz1.out Hz2.out rfl (by decide) _ L.length (cellsM L) rfl Hal.out.own [.int .i64 (-1), .int .i64 (t : Int), .int .u8 (hd[i0].toNat : Int)] rfl wq.heap.size 101 rfl (Blk.new wq _ _) ?h1 ?h2 ?h3 ?h4 ?_)
        case h1 => simp [Value.oneCell']
        case h2 => unfold maxLen; omega
        case h3 => omega
        case h4 => exact Hal.out.later.size
        intro v' w6 hown6 hO6 hwh6
        have Hs6 := hide (show EvS W (L ++ [⟨-1, (t : Int), hd[i0].toNat⟩]) v' w6 from Hal.out.push hown6 hO6)
        have Hbr6 := hide (Hal.out.blk hO6 Hbr4.out (by decide))
        have Hbp6 := hide (Hal.out.blk hO6 Hbp4.out (by decide))
        clear hown6 hO6 hwh6
        go_wp2_with fail
        go_roundw
        case rel => exact ⟨i0 + 1, by omega, by go_num, (by rw [Hyes.out]; exact Hs6.out), Hbr6.out, Hbp6.out⟩
        case measure => simp [intOf]; omega
       ·
        obtain ⟨j0, hjl, hij⟩ : ∃ j0, j0 < hd.size ∧ i0 = j0 + 1 := ⟨i0 - 1, by omega, by omega⟩
        have e2 : ((i0 : Int) == 0) = false := by simp; omega
        have hlj : (handOf p p.turn).getD j0 0 = (hd[j0]'hjl) := by rw [Hhd.out, getD_get (show j0 < hd.data.toList.length by show j0 < hd.size; omega)]; rfl
        obtain ⟨ne, hne⟩ : ∃ ne, (hd[i0].toNat != (hd[j0]'hjl).toNat) = ne := ⟨_, rfl⟩
        have hfr0 : freshB (handOf p p.turn) i0 = ne := by
         unfold freshB
         rw [show i0 - 1 = j0 by omega, hle, hlj, ← hne]
         rw [Bool.eq_iff_iff]
         simp only [Bool.or_eq_true, beq_iff_eq, bne_iff_ne, ne_eq, UInt8.toNat_inj]
         constructor
         ·
          rintro (h | h)
          ·
           omega
          ·
           exact h
         ·
          exact .inr
        have e3 : ((hd[i0].toNat : Int) != ((hd[j0]'hjl).toNat : Int)) = ne := by
         rw [← hne, Bool.eq_iff_iff]; simp only [bne_iff_ne, ne_eq]; omega
        have jj1 : (0 : Int) ≤ (j0 : Int) := by omega
        have jj2 : (j0 : Int) < (hd.size : Int) := by omega
        have z1 : (i0 : Int) - 1 = (j0 : Int) := by omega
        have z2 : IntKind.i64.wrap (j0 : Int) = (j0 : Int) := IntWalk.i64_in _ (by omega)
        have hfr : (true && freshB (handOf p p.turn) i0) = ne := by rw [hfr0]; rfl
        clear hle hlj hne hfr0 hij h0
        cases ne
        ·
         have Hno := hide (show eDropI p t (i0 + 1) = eDropI p t i0 by rw [Hsucc.out, hfr]; simp)
         clear hfr
         go_upto_region 10 with (fail)
         go_quiet (fail)
         clear z1 z2
         go_wp2_with fail
         go_roundw
         case rel => exact ⟨i0 + 1, by omega, by go_num, (by rw [Hno.out]; exact Hst.out.drewN _), Hbr.out.drewN _, Hbp.out.drewN _⟩
         case measure => simp [intOf]; omega
        ·
         have Hyes := hide (show eDropTo p t ++ eDropI p t (i0 + 1) = (eDropTo p t ++ eDropI p t i0) ++ [⟨-1, (t : Int), hd[i0].toNat⟩] by rw [Hsucc.out, if_pos hfr, ← List.append_assoc])
         go_upto_region 10 with (fail)
         go_quiet (fail)
         clear z1 z2
         have Hst2 := hide (fun q => Hst.out.drewN q)
         have Hbr2 := hide (fun q => Hbr.out.drewN q)
         have Hbp2 := hide (fun q => Hbp.out.drewN q)
         obtain ⟨wq, hwq⟩ : ∃ wq, wi.drewN nq = wq := ⟨_, rfl⟩
         have Hst3 := hide (hwq ▸ Hst2.out nq)
         have Hbr3 := hide (hwq ▸ Hbr2.out nq)
         have Hbp3 := hide (hwq ▸ Hbp2.out nq)
         rw [hwq]
         clear hwq Hst2 Hbr2 Hbp2 Hst Hbr Hbp
         obtain ⟨L, hL⟩ : ∃ L, eDropTo p t ++ eDropI p t i0 = L := ⟨_, rfl⟩
         rw [hL] at Hst3 hlen Hyes
         have Hal := hide (Hst3.out.alloc (.cells #[.int .i64 (-1), .int .i64 (t : Int), .int .u8 (hd[i0].toNat : Int)] 101))
         have Hbr4 := hide (Hbr3.out.alloc (.cells #[.int .i64 (-1), .int .i64 (t : Int), .int .u8 (hd[i0].toNat : Int)] 101))
         have Hbp4 := hide (Hbp3.out.alloc (.cells #[.int .i64 (-1), .int .i64 (t : Int), .int .u8 (hd[i0].toNat : Int)] 101))
         clear hL
         go_wp2_with (at_builtin; refine wpList_appendK _ rfl (.tmp 60) (.tmp 66) 111 rfl W.heap.size 101 ti (.agg #[.int .i64 0, .int .i64 0, .int .u8 0]) 3 24 Tryz.underlying111 Hi.out Hz0.out Hz1.out Hz2.out rfl (by decide) _ L.length (cellsM L) rfl Hal.out.own [.int .i64 (-1), .int .i64 (t : Int), .int .u8 (hd[i0].toNat : Int)] rfl wq.heap.size 101 rfl (Blk.new wq _ _) ?h1 ?h2 ?h3 ?h4 ?_)
         case h1 => simp [Value.oneCell']
         case h2 => unfold maxLen; omega
         case h3 => omega
         case h4 => exact Hal.out.later.size
         intro v' w6 hown6 hO6 hwh6
         have Hs6 := hide (show EvS W (L ++ [⟨-1, (t : Int), hd[i0].toNat⟩]) v' w6 from Hal.out.push hown6 hO6)
         have Hbr6 := hide (Hal.out.blk hO6 Hbr4.out (by decide))
         have Hbp6 := hide (Hal.out.blk hO6 Hbp4.out (by decide))
         clear hown6 hO6 hwh6
         go_wp2_with fail
         go_roundw
         case rel => exact ⟨i0 + 1, by omega, by go_num, (by rw [Hyes.out]; exact Hs6.out), Hbr6.out, Hbp6.out⟩
         case measure => simp [intOf]; omega
     ·
      obtain rfl : i0 = hd.size := by omega
      have Hn := hide (show eDropTo p (t + 1) = eDropTo p t ++ eDropI p t hd.size by
       rw [eDropTo_succ, ← eDropI_all, Hhd.out]; rfl)
      have Hnd := hide (show r.drops = false → t + 1 = 0 from fun h => by rw [Hdt.out] at h; exact absurd h (by decide))
      go_wp2_with fail
      go_roundw
      case rel => exact ⟨t + 1, by omega, by go_num, Hnd.out, (by rw [Hn.out]; exact Hst.out), Hbr.out, Hbp.out⟩
      case measure => simp [intOf]; omega
end Go.Proofs.YtcdfeaodfmfdnaaGreatDoor
