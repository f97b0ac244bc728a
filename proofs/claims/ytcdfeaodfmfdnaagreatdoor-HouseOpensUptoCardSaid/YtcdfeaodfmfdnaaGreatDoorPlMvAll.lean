/- moves.all: the cells -/
import Derived.Test.YtcdfeaodfmfdnaaGreatDoorPlMvSortM
import Derived.Test.YtcdfeaodfmfdnaaGreatDoorPlRuM
import Derived.Test.YtcdfeaodfmfdnaaGreatDoorPlApM
namespace Go.Proofs.YtcdfeaodfmfdnaaGreatDoor
open Go.RowKit

/-- rules and a position as a call finds them -/
structure AllPre (r : RulesD) (p : Pos) (A : Option Addr) (W : World) : Prop where
 rules : RulesOk r
 pos : PosOk p
 fits : FitsL r.pieces p.all
 at_ : PiecesAt W W.heap.size A r.pieces
theorem RulesOk.ways8 {r : RulesD} (h : RulesOk r) : ∀ x ∈ r.pieces, x.ways.length ≤ 8 := fun x hx => by
 obtain ⟨i, hi, rfl⟩ := List.getElem_of_mem hx
 exact (h.pieces i hi).len
theorem RulesOk.waysOk {r : RulesD} (h : RulesOk r) : ∀ x ∈ r.pieces, ∀ w ∈ x.ways, WayOk w := fun x hx w hw => by
 obtain ⟨i, hi, rfl⟩ := List.getElem_of_mem hx
 obtain ⟨k, hk, rfl⟩ := List.getElem_of_mem hw
 exact (h.pieces i hi).ways k hk
theorem Blk.three6 {w : World} {g : Nat} {t : TypeId} {a b c : Value} (h : Blk w g t #[a, b, c]) :
  w.cell? ⟨g, 0, none⟩ = some a ∧ w.cell? ⟨g, 1, none⟩ = some b ∧ w.cell? ⟨g, 2, none⟩ = some c ∧ w.frozen? ⟨g, 0, none⟩ = false ∧ w.frozen? ⟨g, 1, none⟩ = false ∧ w.frozen? ⟨g, 2, none⟩ = false ∧ g < w.heap.size :=
 ⟨h.cellv rfl, h.cellv rfl, h.cellv rfl, h.free 0, h.free 1, h.free 2, h.lt⟩
/-- the hand of who is to move -/
theorem hand_at {p : Pos} (hp : PosOk p) : ∃ (hd : ByteArray) (tn : Nat), p.turn = tn ∧ handOf p p.turn = hd.data.toList ∧ ∀ (w : World) (g : Nat) (t : TypeId), Blk w g t #[.int .i64 p.w, .int .i64 p.h, .string p.cells, .int .i64 p.turn, .string p.h0, .string p.h1] → w.cell? ⟨g, 4 + tn, none⟩ = some (.string hd) := by
 have h0 := hp.t0
 have h1 := hp.t1
 have ht : p.turn = 0 ∨ p.turn = 1 := by omega
 rcases ht with ht | ht
 ·
  exact ⟨p.h0, 0, ht, by unfold handOf; rw [if_pos ht], fun w g t hb => hb.cellv rfl⟩
 ·
  exact ⟨p.h1, 1, ht, by unfold handOf; rw [if_neg (by omega)], fun w g t hb => hb.cellv rfl⟩
/-- one more move in the row and its variable -/
theorem pushedM {w5 w6 : World} {gl g6 cap6 : Nat} {v : Value} {L : List Mv} {m : Mv} (hs : MvSt w5 gl gl v L)
  (hown : w6.ownsRow gl 101 3 (.slice (some ⟨g6, 0, none⟩) (L.length + 1) cap6) (L.length + 1) (cellsM L ++ [.int .i64 m.f, .int .i64 m.t, .int .u8 (m.c : Int)]))
  (hO : Only (fun k => v.ownBlock = some k) w5 w6) (hwh : v.ownBlock = some g6 ∨ g6 = w5.heap.size) :
  MvSt (w6.setCell ⟨gl, 0, none⟩ (.slice (some ⟨g6, 0, none⟩) (L.length + 1) cap6)) gl gl (.slice (some ⟨g6, 0, none⟩) (L.length + 1) cap6) (L ++ [m]) ∧
  Grew gl w5 (w6.setCell ⟨gl, 0, none⟩ (.slice (some ⟨g6, 0, none⟩) (L.length + 1) cap6)) v (.slice (some ⟨g6, 0, none⟩) (L.length + 1) cap6) := by
 have hb6 : Blk w6 gl 111 #[v] := hs.1.only hO (own_ne hs.2.1 hs.1 (by decide))
 have hne := own_ne hown hb6 (by decide)
 refine ⟨⟨hb6.set_ 0 _, ?_, ?_⟩, ⟨?_, fun k hk => ?_⟩⟩
 ·
  unfold OwnM
  rw [cellsM_app, List.length_append]
  exact ownsRow_only (S := fun k => k = gl) hown (Only.setCell (p := ⟨gl, 0, none⟩) (Only.refl (fun k => k = gl) w6) (.inl rfl) _) (fun g hg hk => hne (by rw [hg, hk]))
 ·
  have := hb6.lt
  simp [World.setCell]
  omega
 ·
  exact (hO.mono (fun k _ hk => .inr hk)).setCell (.inl (.inl rfl)) _
 ·
  injection hk with hk
  simp only at hk
  subst hk
  rcases hwh with h | h
  ·
   exact .inl h
  ·
   exact .inr (by omega)
/-- the variable gl, its row, made behind w1 -/
def AllS (gl : Nat) (w1 : World) (L : List Mv) (wr : World) : Prop := ∃ v, MvSt wr gl gl v L ∧ Grew gl w1 wr (.slice none 0 0) v
set_option maxHeartbeats 8000000 in
set_option maxRecDepth 100000 in
theorem all_any (r : RulesD) (A : Option Addr) (cp : Nat) (p : Pos) (W : World) (h : AllPre r p A W) :
  Calls Tryz.prog 161 #[.agg #[.int .i64 r.start.w, .int .i64 r.start.h, .string r.start.cells, .int .i64 r.start.turn, .string r.start.h0, .string r.start.h1, .slice A r.pieces.length cp, .bool r.drops, .int .u8 r.lose, .int .i64 r.line, .int .u8 r.reach, .bool r.stuck, .int .i64 r.plies], .agg #[.int .i64 p.w, .int .i64 p.h, .string p.cells, .int .i64 p.turn, .string p.h0, .string p.h1]] W (MovesOut W (everyL r p)) := by
 obtain ⟨n, m, hn, hm, n1, n8, m1, m8, hsz, h64⟩ := pos_wh h.pos
 have hpl := h.rules.p10
 have Hpre := hide h
 have Hbr := hide (((Blk.new W 27 #[.int .i64 r.start.w, .int .i64 r.start.h, .string r.start.cells, .int .i64 r.start.turn, .string r.start.h0, .string r.start.h1, .slice A r.pieces.length cp, .bool r.drops, .int .u8 r.lose, .int .i64 r.line, .int .u8 r.reach, .bool r.stuck, .int .i64 r.plies]).alloc (.cells #[.int .i64 p.w, .int .i64 p.h, .string p.cells, .int .i64 p.turn, .string p.h0, .string p.h1] 24)).alloc (.cells #[.slice none 0 0] 111))
 have hbp := ((Blk.new (W.alloc (.cells #[.int .i64 r.start.w, .int .i64 r.start.h, .string r.start.cells, .int .i64 r.start.turn, .string r.start.h0, .string r.start.h1, .slice A r.pieces.length cp, .bool r.drops, .int .u8 r.lose, .int .i64 r.line, .int .u8 r.reach, .bool r.stuck, .int .i64 r.plies] 27)) 24 #[.int .i64 p.w, .int .i64 p.h, .string p.cells, .int .i64 p.turn, .string p.h0, .string p.h1])).alloc (.cells #[.slice none 0 0] 111)
 have hbl := Blk.new ((W.alloc (.cells #[.int .i64 r.start.w, .int .i64 r.start.h, .string r.start.cells, .int .i64 r.start.turn, .string r.start.h0, .string r.start.h1, .slice A r.pieces.length cp, .bool r.drops, .int .u8 r.lose, .int .i64 r.line, .int .u8 r.reach, .bool r.stuck, .int .i64 r.plies] 27)).alloc (.cells #[.int .i64 p.w, .int .i64 p.h, .string p.cells, .int .i64 p.turn, .string p.h0, .string p.h1] 24)) 111 #[.slice none 0 0]
 rw [World.size_alloc] at hbp
 rw [World.size_alloc, World.size_alloc] at hbl
 have hsz1 : (((W.alloc (.cells #[.int .i64 r.start.w, .int .i64 r.start.h, .string r.start.cells, .int .i64 r.start.turn, .string r.start.h0, .string r.start.h1, .slice A r.pieces.length cp, .bool r.drops, .int .u8 r.lose, .int .i64 r.line, .int .u8 r.reach, .bool r.stuck, .int .i64 r.plies] 27)).alloc (.cells #[.int .i64 p.w, .int .i64 p.h, .string p.cells, .int .i64 p.turn, .string p.h0, .string p.h1] 24)).alloc (.cells #[.slice none 0 0] 111)).heap.size = W.heap.size + 3 := by simp
 have Hbp := hide hbp
 have Hbl := hide hbl
 have Hlw := hide (show Later W (((W.alloc (.cells #[.int .i64 r.start.w, .int .i64 r.start.h, .string r.start.cells, .int .i64 r.start.turn, .string r.start.h0, .string r.start.h1, .slice A r.pieces.length cp, .bool r.drops, .int .u8 r.lose, .int .i64 r.line, .int .u8 r.reach, .bool r.stuck, .int .i64 r.plies] 27)).alloc (.cells #[.int .i64 p.w, .int .i64 p.h, .string p.cells, .int .i64 p.turn, .string p.h0, .string p.h1] 24)).alloc (.cells #[.slice none 0 0] 111)) from ((Later.rfl.alloc _).alloc _).alloc _)
 have Hmine := hide (fun c w => mine_any c p.turn w)
 have HQ := hide (fun (k : Nat) (w : World) (hw : Later W w) => rpiece_any r A cp k w (by omega) ((h.at_.below hw).more hw.size))
 clear h hn hm hsz hbp hbl
 go_enter Tryz.func161, Tryz.ntmps161
 go_upto_region 3 with (fail)
 obtain ⟨gl, hgl⟩ : ∃ gl, W.heap.size + 1 + 1 = gl := ⟨_, rfl⟩
 rw [hgl] at Hbl ⊢
 obtain ⟨w1, hw1⟩ : ∃ w1, ((W.alloc (.cells #[.int .i64 r.start.w, .int .i64 r.start.h, .string r.start.cells, .int .i64 r.start.turn, .string r.start.h0, .string r.start.h1, .slice A r.pieces.length cp, .bool r.drops, .int .u8 r.lose, .int .i64 r.line, .int .u8 r.reach, .bool r.stuck, .int .i64 r.plies] 27)).alloc (.cells #[.int .i64 p.w, .int .i64 p.h, .string p.cells, .int .i64 p.turn, .string p.h0, .string p.h1] 24)).alloc (.cells #[.slice none 0 0] 111) = w1 := ⟨_, rfl⟩
 rw [hw1] at Hbr Hbp Hbl Hlw hsz1 ⊢
 have Hs1 := hide (show MvSt w1 gl gl (.slice none 0 0) [] from ⟨Hbl.out, World.ownsRow_nil _ _ _ _, by omega⟩)
 have Hgw := hide (show W.heap.size ≤ gl by omega)
 clear hgl hw1 hsz1 Hbl
 go_loopw [17] (fun i wr => ∃ a : Nat, a ≤ p.cells.size ∧ i = .int .i64 a ∧ AllS gl w1 (boardTo r.pieces p a) wr) (fun i _ => p.cells.size - (intOf i).toNat)
 case atStart => exact ⟨0, by omega, rfl, _, Hs1.out, Grew.rfl⟩
 case round =>
  rename World => wr
  obtain ⟨a, ha, rfl, v, hst, hgr⟩ := hrel
  have Hst := hide hst
  have Hgr := hide hgr
  have hbl : (boardTo r.pieces p a).length ≤ 512 * a := boardTo_len Hpre.out.rules.ways8 p a
  clear hst hgr
  by_cases hlt : a < p.cells.size
  ·
   have ej : decide ((a : Int) < (p.cells.size : Int)) = true := decide_eq_true (by omega)
   have Hbp1 := hide (Hgr.out.blk Hs1.out Hbp.out (by decide) (by decide))
   have Hbr1 := hide (Hgr.out.blk Hs1.out Hbr.out (by decide) (by decide))
   obtain ⟨q0, q1, q2, q3, q4, q5⟩ := Hbp1.out.pos6
   have j1 : (0 : Int) ≤ (a : Int) := by omega
   have j2 : (a : Int) < (p.cells.size : Int) := by omega
   obtain ⟨v1, hv1⟩ : ∃ v1, mineB p.cells[a].toNat p.turn = v1 := ⟨_, rfl⟩
   have hcn : cellN p a = p.cells[a].toNat := by unfold cellN; rw [getD_get (show a < p.cells.data.toList.length from hlt)]; rfl
   have hmc := fun w => Hmine.out p.cells[a].toNat w
   rw [hv1] at hmc
   have Hmc := hide hmc
   have Hwa := hide (show Grew gl w1 (wr.alloc (.cells #[.int .i64 a] 3)) (.slice none 0 0) v from Hgr.out.alloc _)
   have Hsa := hide (Hst.out.alloc (.cells #[.int .i64 a] 3))
   have Hba := hide (Blk.new wr 3 #[.int .i64 a])
   have hlta : W.heap.size + 1 < wr.heap.size := Hbp1.out.lt
   clear hmc
   cases v1
   ·
    have Hn := hide (show boardTo r.pieces p (a + 1) = boardTo r.pieces p a by rw [boardTo_succ, allBoard_none (by rw [hcn]; exact hv1), List.append_nil])
    clear hv1 hcn
    go_wp2_with (go_at_call 176; refine (Hmc.out _).mono ?_; rintro e w' ⟨rfl, hw'⟩; rw [hw']; clear hw')
    go_roundw
    case rel => exact ⟨a + 1, by omega, by go_num, v, (by rw [Hn.out]; exact Hsa.out), Hwa.out⟩
    case measure => simp [intOf]; omega
   ·
    obtain ⟨k, hk, hpx, hpa⟩ := mine_fits Hpre.out.fits hlt (by rw [hcn]; exact hv1)
    have Hb1 := hide (allBoard_some (by rw [hcn]; exact hv1) hpa)
    have hpi : pieceI r.pieces p.cells[a].toNat = (k : Int) := by unfold pieceI; rw [← hcn, hpx]; rfl
    have hq := fun w hw => HQ.out p.cells[a].toNat w hw
    rw [hpi] at hq
    have Hq := hide hq
    clear hv1 hcn hq hpi hpx hpa
    go_wp2_with (go_at_call 176; refine (Hmc.out _).mono ?_; rintro e w' ⟨rfl, hw'⟩; rw [hw']; clear hw')
    have Hbp2 := hide (Hwa.out.blk Hs1.out Hbp.out (by decide) (by decide))
    have Hbr2 := hide (Hwa.out.blk Hs1.out Hbr.out (by decide) (by decide))
    have Hlwa := hide (show Later W (wr.alloc (.cells #[.int .i64 a] 3)) from Below.trans Hlw.out (Hwa.out.below Hs1.out Hgw.out Hgw.out))
    obtain ⟨ga, hga⟩ : ∃ ga, wr.heap.size = ga := ⟨_, rfl⟩
    obtain ⟨wa, hwa⟩ : ∃ wa, wr.alloc (.cells #[.int .i64 a] 3) = wa := ⟨_, rfl⟩
    rw [hga] at Hba ⊢
    rw [hwa] at Hwa Hsa Hba Hbp2 Hbr2 Hlwa ⊢
    clear hga hwa Hst Hgr Hbp1 Hbr1 q0 q1 q2 q3 q4 q5 hlta
    obtain ⟨b, off, hA, hbA, z0, z1, Ak, ck, hck, z2, hways⟩ := (Hpre.out.at_.below Hlwa.out).at_ hk
    have Hways := hide hways
    have Hck := hide hck
    subst hA
    obtain ⟨x, hx⟩ : ∃ x, r.pieces[k] = x := ⟨_, rfl⟩
    have Hxm := hide (show x ∈ r.pieces from hx ▸ List.getElem_mem hk)
    rw [hx] at z0 z1 z2 Hb1 Hways Hck
    obtain ⟨x0, x1, x2, x3, x4, x5, x6, x7, x8, x9, x10, x11, x12⟩ := Hbr2.out.rules
    have hbw : b < wa.heap.size := Nat.lt_of_lt_of_le hbA Hlwa.out.size
    clear hways hck hx
    have hn1 : W.heap.size ≠ wa.heap.size := by have := Hbr2.out.lt; omega
    have hn2 : b ≠ wa.heap.size := by omega
    have hn3 : wa.heap.size ≠ W.heap.size := by omega
    have hn4 : wa.heap.size ≠ b := by omega
    have i1 : (0 : Int) ≤ (k : Int) := by omega
    have i2 : (k : Int) < (r.pieces.length : Int) := by omega
    go_cut [8] (fun s w' => ∃ gp, s = .pointer (some ⟨gp, 0, none⟩) ∧ Blk w' gp 77 #[.int .u8 x.letter, .int .i64 x.worth, .slice Ak x.ways.length ck] ∧ Later wa w')
    case first =>
     go_region_held3 (fun w' => w'.cell? ⟨W.heap.size, 0, none⟩ = some (.int .i64 r.start.w) ∧ w'.cell? ⟨W.heap.size, 1, none⟩ = some (.int .i64 r.start.h) ∧ w'.cell? ⟨W.heap.size, 2, none⟩ = some (.string r.start.cells) ∧ w'.cell? ⟨W.heap.size, 3, none⟩ = some (.int .i64 r.start.turn) ∧ w'.cell? ⟨W.heap.size, 4, none⟩ = some (.string r.start.h0) ∧ w'.cell? ⟨W.heap.size, 5, none⟩ = some (.string r.start.h1) ∧ w'.cell? ⟨W.heap.size, 6, none⟩ = some (.slice (some ⟨b, off, none⟩) r.pieces.length cp) ∧ w'.cell? ⟨W.heap.size, 7, none⟩ = some (.bool r.drops) ∧ w'.cell? ⟨W.heap.size, 8, none⟩ = some (.int .u8 r.lose) ∧ w'.cell? ⟨W.heap.size, 9, none⟩ = some (.int .i64 r.line) ∧ w'.cell? ⟨W.heap.size, 10, none⟩ = some (.int .u8 r.reach) ∧ w'.cell? ⟨W.heap.size, 11, none⟩ = some (.bool r.stuck) ∧ w'.cell? ⟨W.heap.size, 12, none⟩ = some (.int .i64 r.plies) ∧ w'.cell? ⟨b, off + k * 3, none⟩ = some (.int .u8 x.letter) ∧ w'.cell? ⟨b, off + k * 3 + 1, none⟩ = some (.int .i64 x.worth) ∧ w'.cell? ⟨b, off + k * 3 + 2, none⟩ = some (.slice Ak x.ways.length ck)) (first | exact ⟨x0, x1, x2, x3, x4, x5, x6, x7, x8, x9, x10, x11, x12, z0, z1, z2⟩ | (refine ⟨?_, ?_, ?_, ?_, ?_, ?_, ?_, ?_, ?_, ?_, ?_, ?_, ?_, ?_, ?_, ?_⟩ <;> assumption) | go_keep)
      ((first
       | (go_at_call 45; (with_reducible refine (Hq.out wa.drew Hlwa.out.drew).mono ?_); rintro e w2 ⟨rfl, hw2⟩; have hl2 := Later.trans (Later.rfl (w := wa)).drew hw2; obtain ⟨x0, x1, x2, x3, x4, x5, x6, x7, x8, x9, x10, x11, x12⟩ := (hl2.blk Hbr2.out).rules; have y0 := (Below.cell (p := ⟨b, off + k * 3, none⟩) hl2 hbw).trans z0; have y1 := (Below.cell (p := ⟨b, off + k * 3 + 1, none⟩) hl2 hbw).trans z1; have y2 := (Below.cell (p := ⟨b, off + k * 3 + 2, none⟩) hl2 hbw).trans z2)
       | (go_at_call 45; (with_reducible refine (Hq.out (wa.alloc (.cells #[.int .u8 0, .int .i64 0, .slice none 0 0] 77)).drew (Hlwa.out.alloc _).drew).mono ?_); rintro e w2 ⟨rfl, hw2⟩; have hl2 := Later.trans ((Later.rfl (w := wa)).alloc (.cells #[.int .u8 0, .int .i64 0, .slice none 0 0] 77)).drew hw2; have hnb := hw2.blk (Blk.new wa 77 #[.int .u8 0, .int .i64 0, .slice none 0 0]).drew; obtain ⟨n0, n1, n2, n3, n4, n5, n6⟩ := hnb.three6; obtain ⟨x0, x1, x2, x3, x4, x5, x6, x7, x8, x9, x10, x11, x12⟩ := (hl2.blk Hbr2.out).rules; have y0 := (Below.cell (p := ⟨b, off + k * 3, none⟩) hl2 hbw).trans z0; have y1 := (Below.cell (p := ⟨b, off + k * 3 + 1, none⟩) hl2 hbw).trans z1; have y2 := (Below.cell (p := ⟨b, off + k * 3 + 2, none⟩) hl2 hbw).trans z2)))
     all_goals
      go_wp2_with fail
      go_meet
      case rel =>
       first
        | exact ⟨_, rfl, Blk.new _ _ _, hl2.alloc _⟩
        | exact ⟨_, rfl, (by simpa using ((hnb.set_ 0 (.int .u8 x.letter)).set_ 1 (.int .i64 x.worth)).set_ 2 (.slice Ak x.ways.length ck)), ((hl2.set (p := ⟨wa.heap.size, 0, none⟩) (Nat.le_refl _) _).set (p := ⟨wa.heap.size, 1, none⟩) (Nat.le_refl _) _).set (p := ⟨wa.heap.size, 2, none⟩) (Nat.le_refl _) _⟩
    case rest =>
     obtain ⟨gp, rfl, hbp, hlp⟩ := hcut
     have Hgp := hide hbp
     have Hsc := hide (Hsa.out.later hlp)
     have Hgc := hide (Hwa.out.trans hlp.grew)
     have Hgac := hide (hlp.blk Hba.out)
     have Hbpc := hide (hlp.blk Hbp2.out)
     have Hlc := hide (hlp.mono (show W.heap.size ≤ wa.heap.size by have := Hlwa.out.size; omega))
     have hx8 := Hpre.out.rules.ways8 x Hxm.out
     have Hxok := hide (Hpre.out.rules.waysOk x Hxm.out)
     obtain ⟨g0, g1, g2, -⟩ := hbp.three6
     clear hbp hlp x0 x1 x2 x3 x4 x5 x6 x7 x8 x9 x10 x11 x12 z0 z1 z2 hn1 hn2 hn3 hn4 i1 i2
     go_upto_region 9 with (fail)
     clear g0 g1 g2
     go_loopw [39] (fun i wi => ∃ q : Nat, q ≤ x.ways.length ∧ i = .int .i64 q ∧ ∃ v2, MvSt wi gl gl v2 (boardTo r.pieces p a ++ waysM p x a q) ∧ Grew gl wc wi v v2) (fun i _ => x.ways.length - (intOf i).toNat)
     case atStart => exact ⟨0, by omega, rfl, v, (by simpa [waysM] using Hsc.out), Grew.rfl⟩
     case round =>
      rename World => wi
      obtain ⟨q, hq, rfl, v2, hst, hgr⟩ := hrel
      have Hst := hide hst
      have Hgr := hide hgr
      clear hst hgr
      by_cases hlq : q < x.ways.length
      ·
       have Hbelow := hide (show Below W.heap.size wa wi from Below.trans Hlc.out (Hgr.out.below Hsc.out Hgw.out Hgw.out))
       obtain ⟨b2, off2, rfl, hb2, y0, y1, y2, y3⟩ := ways_at (Cells.below Hways.out Hbelow.out) hlq
       obtain ⟨wy, hwy⟩ : ∃ wy, x.ways[q] = wy := ⟨_, rfl⟩
       have Hwok := hide (show WayOk wy from hwy ▸ Hxok.out _ (List.getElem_mem hlq))
       have Hws := hide (show waysM p x a (q + 1) = waysM p x a q ++ toM p wy a x.letter from hwy ▸ waysM_succ p x a q hlq)
       rw [hwy] at y0 y1 y2 y3
       have Hbi := hide (Hgr.out.blk Hsc.out Hbpc.out (by decide) (by decide))
       have Hgai := hide (Hgr.out.blk Hsc.out Hgac.out (by decide) (by decide))
       have Hgpi := hide (Hgr.out.blk Hsc.out Hgp.out (by decide) (by decide))
       have hlen : (boardTo r.pieces p a ++ waysM p x a q).length < 900000 := by
        have := waysM_len p x a q hx8
        rw [List.length_append]
        omega
       have Hgo := hide (fun (w2 : World) (hw2 : Later wi w2) => goes_any p wy a x.letter x.worth (some ⟨b2, off2, none⟩) x.ways.length ck gl ga gp gl v2 (boardTo r.pieces p a ++ waysM p x a q) w2 Hpre.out.pos Hwok.out hlt (Hst.out.later hw2) hlen (hw2.blk Hgai.out) (hw2.blk Hgpi.out))
       obtain ⟨p0, p1, p2, p3, p4, p5⟩ := Hbi.out.pos6
       have a0 : wi.cell? ⟨ga, 0, none⟩ = some (.int .i64 a) := Hgai.out.cellv (i := 0) rfl
       have hgal : ga < wi.heap.size := Hgai.out.lt
       have hgpl : W.heap.size + 1 < wi.heap.size := Hbi.out.lt
       have Hgrow := hide (fun (w2 w3 : World) (v3 : Value) (hw2 : Later wi w2) (h3 : Grew gl w2 w3 v2 v3) => show Grew gl wc w3 v v3 from (Hgr.out.trans hw2.grew).trans h3)
       have Hl4 := hide (show Later wi (wi.alloc (.cells #[.int .i64 wy.kind, .int .i64 wy.x, .int .i64 wy.y, .int .i64 wy.take] 80)) from Later.rfl.alloc _)
       clear hwy hlen
       go_wp2_with (go_at_call 177; refine (Hgo.out _ Hl4.out).mono ?_; rintro e w5 ⟨rfl, v5, hs5, hg5⟩)
       go_roundw
       case rel => exact ⟨q + 1, by omega, by go_num, v5, (by rw [Hws.out, ← List.append_assoc]; exact hs5), Hgrow.out _ _ _ Hl4.out hg5⟩
       case measure => simp [intOf]; omega
      ·
       obtain rfl : q = x.ways.length := by omega
       have Hn := hide (show boardTo r.pieces p (a + 1) = boardTo r.pieces p a ++ waysM p x a x.ways.length by rw [boardTo_succ, Hb1.out])
       go_wp2_with fail
       go_roundw
       case rel => exact ⟨a + 1, by omega, by go_num, v2, (by rw [Hn.out]; exact Hst.out), Hgc.out.trans Hgr.out⟩
       case measure => simp [intOf]; omega
  ·
   obtain rfl : a = p.cells.size := by omega
   have Hbp1 := hide (Hgr.out.blk Hs1.out Hbp.out (by decide) (by decide))
   obtain ⟨q0, q1, q2, q3, q4, q5⟩ := Hbp1.out.pos6
   go_upto_region 15 with (fail)
   clear q0 q1 q2 q3 q4 q5
   obtain ⟨hd, tn, htn, hhd, hcell⟩ := hand_at Hpre.out.pos
   have Htn := hide htn
   have Hhd := hide hhd
   have Hcell := hide hcell
   have hh8 : hd.size ≤ 8 := by
    have := (hand_ok Hpre.out.pos p.turn).1
    rw [hhd] at this
    exact this
   have hbl2 : (boardTo r.pieces p p.cells.size).length ≤ 32768 := by omega
   clear htn hhd hcell hbl
   go_loopw [53] (fun i wi => ∃ a : Nat, a ≤ p.cells.size ∧ i = .int .i64 a ∧ ∃ v2, MvSt wi gl gl v2 (boardTo r.pieces p p.cells.size ++ dropTo r.drops p a) ∧ Grew gl w1 wi (.slice none 0 0) v2) (fun i _ => p.cells.size - (intOf i).toNat)
   case atStart => exact ⟨0, by omega, rfl, v, (by simpa [dropTo] using Hst.out), Hgr.out⟩
   case round =>
    rename World => wi
    clear Hst Hgr Hbp1
    obtain ⟨a, ha2, rfl, v2, hst, hgr⟩ := hrel
    have Hst := hide hst
    have Hgr := hide hgr
    have hdl : (dropTo r.drops p a).length ≤ 8 * a := dropTo_len Hpre.out.pos a
    clear hst hgr
    by_cases hlt2 : a < p.cells.size
    ·
     have ej : decide ((a : Int) < (p.cells.size : Int)) = true := decide_eq_true (by omega)
     have Hbp2 := hide (Hgr.out.blk Hs1.out Hbp.out (by decide) (by decide))
     have Hbr2 := hide (Hgr.out.blk Hs1.out Hbr.out (by decide) (by decide))
     have q3 : wi.cell? ⟨W.heap.size + 1, 3, none⟩ = some (.int .i64 (tn : Int)) := by rw [← Htn.out]; exact Hbp2.out.cellv (i := 3) rfl
     have q4 := Hcell.out _ _ _ Hbp2.out
     have hlt3 : tn < 2 := by have := Hpre.out.pos.t1; have := Htn.out; omega
     go_upto_region 19 with (fail)
     clear q3 q4 Hbp2 Hbr2
     go_loopw [63] (fun i wj => ∃ i0 : Nat, i0 ≤ hd.size ∧ i = .int .i64 i0 ∧ ∃ v3, MvSt wj gl gl v3 (boardTo r.pieces p p.cells.size ++ dropTo r.drops p a ++ dropI r.drops p a i0) ∧ Grew gl w1 wj (.slice none 0 0) v3) (fun i _ => hd.size - (intOf i).toNat)
     case atStart => exact ⟨0, by omega, rfl, v2, (by simpa [dropI] using Hst.out), Hgr.out⟩
     case round =>
      rename World => wj
      clear Hst Hgr
      obtain ⟨i0, hi0, rfl, v3, hst, hgr⟩ := hrel
      have Hst := hide hst
      have Hgr := hide hgr
      have hil : (dropI r.drops p a i0).length ≤ i0 := dropI_len r.drops p a i0
      clear hst hgr
      by_cases hlt4 : i0 < hd.size
      ·
       have Hbp2 := hide (Hgr.out.blk Hs1.out Hbp.out (by decide) (by decide))
       have Hbr2 := hide (Hgr.out.blk Hs1.out Hbr.out (by decide) (by decide))
       obtain ⟨q0, q1, q2, q3, q4, q5⟩ := Hbp2.out.pos6
       obtain ⟨x0, x1, x2, x3, x4, x5, x6, x7, x8, x9, x10, x11, x12⟩ := Hbr2.out.rules
       have hcn : cellN p a = p.cells[a].toNat := by unfold cellN; rw [getD_get (show a < p.cells.data.toList.length from hlt2)]; rfl
       have hlh : i0 < (handOf p p.turn).length := by rw [Hhd.out]; exact hlt4
       have hsucc := dropI_succ r.drops p a i0 hlh
       have hle : (handOf p p.turn)[i0] = hd[i0] := by simp only [Hhd.out]; rfl
       rw [hle, hcn] at hsucc
       have j1 : (0 : Int) ≤ (i0 : Int) := by omega
       have j2 : (i0 : Int) < (hd.size : Int) := by omega
       have j3 : (0 : Int) ≤ (a : Int) := by omega
       have j4 : (a : Int) < (p.cells.size : Int) := by omega
       obtain ⟨db, hdb⟩ : ∃ db, r.drops = db := ⟨_, rfl⟩
       obtain ⟨ce, hce⟩ : ∃ ce, (p.cells[a].toNat == 46) = ce := ⟨_, rfl⟩
       have e1 : ((p.cells[a].toNat : Int) == 46) = ce := eq_bool hce
       rw [hce] at hsucc
       have Hsucc := hide hsucc
       have Hdb := hide hdb
       rw [hdb] at x7
       clear hsucc hcn hle hlh hdb hce
       cases db
       ·
        have Hno := hide (show dropI r.drops p a (i0 + 1) = dropI r.drops p a i0 by rw [Hsucc.out, Hdb.out]; simp)
        go_wp2_with fail
        go_roundw
        case rel => exact ⟨i0 + 1, by omega, by go_num, v3, (by rw [Hno.out]; exact Hst.out), Hgr.out⟩
        case measure => simp [intOf]; omega
       ·
        cases ce
        ·
         have Hno := hide (show dropI r.drops p a (i0 + 1) = dropI r.drops p a i0 by rw [Hsucc.out, Hdb.out]; simp)
         go_wp2_with fail
         go_roundw
         case rel => exact ⟨i0 + 1, by omega, by go_num, v3, (by rw [Hno.out]; exact Hst.out), Hgr.out⟩
         case measure => simp [intOf]; omega
        ·
         have Hyes := hide (show dropI r.drops p a (i0 + 1) = dropI r.drops p a i0 ++ [⟨-1, (a : Int), hd[i0].toNat⟩] by rw [Hsucc.out, Hdb.out]; simp)
         clear Hsucc
         have l0 : wj.cell? ⟨gl, 0, none⟩ = some v3 := Hst.out.1.cellv (i := 0) rfl
         have l1 := Hst.out.1.free 0
         have hgl := Hst.out.1.lt
         have Hown := hide Hst.out.2.1
         have hlen : (boardTo r.pieces p p.cells.size ++ dropTo r.drops p a ++ dropI r.drops p a i0).length < 900000 := by
          rw [List.length_append, List.length_append]; omega
         obtain ⟨L, hL⟩ : ∃ L, boardTo r.pieces p p.cells.size ++ dropTo r.drops p a ++ dropI r.drops p a i0 = L := ⟨_, rfl⟩
         have Hyes2 := hide (show boardTo r.pieces p p.cells.size ++ dropTo r.drops p a ++ dropI r.drops p a (i0 + 1) = L ++ [⟨-1, (a : Int), hd[i0].toNat⟩] by rw [Hyes.out, ← List.append_assoc, hL])
         rw [hL] at hlen Hst Hown
         obtain ⟨c0, hc0⟩ : ∃ c0, hd[i0].toNat = c0 := ⟨_, rfl⟩
         have Hc0 := hide hc0
         clear hc0 hL Hyes
         obtain ⟨ti, hi, hz0, hz1, hz2⟩ := info_parts info_mv
         have Hi := hide hi
         have Hz0 := hide hz0
         have Hz1 := hide hz1
         have Hz2 := hide hz2
         clear hi hz0 hz1 hz2
         go_upto_region 22 with (fail)
         clear q0 q1 q2 q3 q4 q5 x0 x1 x2 x3 x4 x5 x6 x7 x8 x9 x10 x11 x12 e1
         have H1 := hide (show ∀ u ∈ [Value.int .i64 (-1), .int .i64 (a : Int), .int .u8 (hd[i0].toNat : Int)], u.oneCell' = true from by simp [Value.oneCell'])
         have H2 := hide (show L.length + 1 ≤ maxLen by unfold maxLen; omega)
         have H3 := hide (show (L.length + 1) * 24 ≤ 140737488355328 by omega)
         have H4 := hide (show gl ≤ (wj.alloc (.cells #[.int .i64 (-1), .int .i64 (a : Int), .int .u8 (hd[i0].toNat : Int)] 101)).heap.size from Nat.le_trans Hst.out.2.2 (by simp))
         have Hba := hide (Hst.out.1.alloc (.cells #[.int .i64 (-1), .int .i64 (a : Int), .int .u8 (hd[i0].toNat : Int)] 101))
         have Hne := hide (own_ne Hown.out Hst.out.1 (by decide))
         go_region_law ((refine step_appendK rfl (.tmp 75) (.tmp 81) 111 (by rfl) gl 101 ti (.agg #[.int .i64 0, .int .i64 0, .int .u8 0]) 3 24 Tryz.underlying111 Hi.out Hz0.out Hz1.out Hz2.out rfl (by decide) v3 L.length (cellsM L) (by rfl) (ownsRow_drew0 (World.ownsRow.alloc Hown.out _)) [.int .i64 (-1), .int .i64 (a : Int), .int .u8 (hd[i0].toNat : Int)] rfl wj.heap.size 101 (by rfl) (Blk.new wj _ _).drew H1.out H2.out H3.out H4.out ?_; intro g6 cap6 w6 hown6 hO6 hwh6; have hb6 := Blk.only Hba.out.drew hO6 Hne.out; have m0 : w6.cell? ⟨gl, 0, none⟩ = some v3 := hb6.cellv (i := 0) rfl; have m1 := hb6.free 0; have m2 := hb6.lt))
         all_goals
          obtain ⟨hs7, hg7⟩ := pushedM (m := ⟨-1, (a : Int), hd[i0].toNat⟩) (Hst.out.alloc _).drew hown6 hO6 hwh6
          have Hs7 := hide hs7
          have Hg7 := hide (Grew.trans (Hgr.out.alloc _).drew hg7)
          clear hs7 hg7 hown6 hO6 hwh6 m0 m1 m2 hb6
          go_wp2_with fail
          go_roundw
          case rel => exact ⟨i0 + 1, by omega, by go_num, _, (by rw [Hyes2.out]; exact Hs7.out), Hg7.out⟩
          case measure => simp [intOf]; omega
      ·
       obtain rfl : i0 = hd.size := by omega
       have Hn := hide (show dropTo r.drops p (a + 1) = dropTo r.drops p a ++ dropI r.drops p a hd.size by
        rw [dropTo_succ, ← dropI_all, Hhd.out]; rfl)
       go_wp2_with fail
       go_roundw
       case rel => exact ⟨a + 1, by omega, by go_num, v3, (by rw [Hn.out, ← List.append_assoc]; exact Hst.out), Hgr.out⟩
       case measure => simp [intOf]; omega
    ·
     obtain rfl : a = p.cells.size := by omega
     have hev := cleanM_every Hpre.out.pos Hpre.out.rules.waysOk
     rw [allL_eq] at hev
     have hLl : (boardTo r.pieces p p.cells.size ++ dropTo r.drops p p.cells.size).length ≤ 100000 := by rw [List.length_append]; omega
     obtain ⟨L, hL⟩ : ∃ L, boardTo r.pieces p p.cells.size ++ dropTo r.drops p p.cells.size = L := ⟨_, rfl⟩
     rw [hL] at hev Hst hLl
     have Hev := hide hev
     have HW := hide (show Below W.heap.size W wi from Below.trans Hlw.out (Hgr.out.below Hs1.out Hgw.out Hgw.out))
     have l0 : wi.cell? ⟨gl, 0, none⟩ = some v2 := Hst.out.1.cellv (i := 0) rfl
     clear hL hev
     rcases own_form Hst.out.2.1 with ⟨rfl, h0⟩ | ⟨g, cap, rfl, hgb⟩
     ·
      have H0 := hide (show everyL r p = [] by
       rw [← Hev.out]
       have : L = [] := List.eq_nil_of_length_eq_zero h0
       rw [this, cleanM_nil])
      clear h0 Hev
      go_wp2_with (first | (go_at_call 179; refine (sort_zero _ _ _).mono ?_; rintro e w2 ⟨rfl, rfl⟩) | (go_at_call 184; refine (compact_zero _ _ _).mono ?_; rintro e w2 ⟨rfl, rfl⟩))
      go_ret
      refine ⟨none, 0, by rw [H0.out]; rfl, by rw [H0.out]; exact Nat.le_refl _, by rw [H0.out]; exact Cells.nil_, (fun ad h => by cases h), HW.out⟩
     ·
      obtain ⟨hH, hcap, hgl2⟩ := own_holds Hst.out.2.1
      have hne : gl ≠ g := fun h => own_ne Hst.out.2.1 Hst.out.1 (by decide) (by rw [h]; rfl)
      have HS := hide (sort_any g cap L wi hH hgl2 (by omega))
      have HK := hide (fun (w2 : World) (h : HeldM w2 g (sortM L)) (hg : g < w2.heap.size) => clean_any g cap L w2 h hg hcap (by omega))
      have Hgl2 := hide hgl2
      have Hlen := hide (show (everyL r p).length ≤ cap by
       rw [← Hev.out]
       exact Nat.le_trans (cleanM_len L) hcap)
      have hgW : W.heap.size ≤ g := by have := Hgw.out; omega
      clear hH hcap
      go_wp2_with (go_at_call 179; refine HS.out.mono ?_; rintro e w2 ⟨rfl, hH2, hO2⟩; have l2 : w2.cell? ⟨gl, 0, none⟩ = some (.slice (some ⟨g, 0, none⟩) L.length cap) := (Hst.out.1.only hO2 hne).cellv (i := 0) rfl)
      have HW2 := hide (Below.trans HW.out (hO2.below_ (B := W.heap.size) (fun k hk => by subst hk; exact hgW) HW.out.size))
      have HK2 := hide (HK.out w2 hH2 (Nat.lt_of_lt_of_le Hgl2.out hO2.size))
      clear hH2 hO2 l0
      go_wp2_with (go_at_call 184; refine HK2.out.mono ?_; rintro e w3 ⟨rfl, hc3, hO3⟩)
      go_ret
      rw [Hev.out] at hc3
      exact ⟨_, cap, (by rw [Hev.out] <;> rfl), Hlen.out, hc3, (fun ad h => by injection h with h; subst h; exact hgW), Below.trans HW2.out (hO3.below_ (B := W.heap.size) (fun k hk => by subst hk; exact hgW) HW2.out.size)⟩
end Go.Proofs.YtcdfeaodfmfdnaaGreatDoor
