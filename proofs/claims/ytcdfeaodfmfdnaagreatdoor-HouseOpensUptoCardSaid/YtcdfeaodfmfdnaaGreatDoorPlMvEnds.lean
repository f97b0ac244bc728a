/- gameref.Ends -/
import Derived.Test.YtcdfeaodfmfdnaaGreatDoorPlMvOut
import Derived.Test.YtcdfeaodfmfdnaaGreatDoorPlMvLetM
import Derived.Test.YtcdfeaodfmfdnaaGreatDoorPlMvEvery
import Derived.BigRegion
namespace Go.Proofs.YtcdfeaodfmfdnaaGreatDoor
open Go.RowKit

/-- the two last rows -/
def rowS (p : Pos) (n k : Nat) : ByteArray := if k = 0 then p.cells.extract (p.cells.size - n) p.cells.size else p.cells.extract 0 n
theorem rowS_eq {p : Pos} {n : Nat} (hn : p.w = n) (k : Nat) : (rowS p n k).data.toList = rowOf p (k : Int) := by
 rw [rowOf_eq hn]
 unfold rowS
 by_cases h : k = 0
 ·
  rw [if_pos h, if_pos (by omega)]
 ·
  rw [if_neg h, if_neg (by omega)]
theorem row_at {p : Pos} {w : World} {g n k : Nat} {t : TypeId} (h : Blk w g t #[.string (rowS p n 0), .string (rowS p n 1)]) (hk : k < 2) : w.cell? ⟨g, k, none⟩ = some (.string (rowS p n k)) := by
 match k, hk with
 | 0, _ => exact h.cellv rfl
 | 1, _ => exact h.cellv rfl
set_option maxHeartbeats 16000000 in
set_option maxRecDepth 100000 in
theorem ends_any (r : RulesD) (A : Option Addr) (cp : Nat) (p : Pos) (W : World) (h : AllPre r p A W) :
  Calls Tryz.prog 102 #[.agg #[.int .i64 r.start.w, .int .i64 r.start.h, .string r.start.cells, .int .i64 r.start.turn, .string r.start.h0, .string r.start.h1, .slice A r.pieces.length cp, .bool r.drops, .int .u8 r.lose, .int .i64 r.line, .int .u8 r.reach, .bool r.stuck, .int .i64 r.plies], .agg #[.int .i64 p.w, .int .i64 p.h, .string p.cells, .int .i64 p.turn, .string p.h0, .string p.h1]] W fun e w' => e = .returned (.int .i64 (endsN r p)) ∧ Later W w' := by
 obtain ⟨n, hn, n1, n8, nc, c64⟩ := pos_w h.pos
 obtain ⟨tn, htn⟩ : ∃ tn : Nat, p.turn = tn := ⟨p.turn.toNat, by have := h.pos.t0; omega⟩
 have tn2 : tn < 2 := by have := h.pos.t1; omega
 obtain ⟨kn, hkn⟩ : ∃ kn : Nat, kn = 1 - tn := ⟨_, rfl⟩
 have hkt : 1 - p.turn = (kn : Int) := by omega
 have hkn2 : kn < 2 := by omega
 have hks1 : kn + tn ≤ 1 := by omega
 have hks2 : 1 ≤ kn + tn := by omega
 clear hkn
 have Hbr := hide ((Blk.new W 27 #[.int .i64 r.start.w, .int .i64 r.start.h, .string r.start.cells, .int .i64 r.start.turn, .string r.start.h0, .string r.start.h1, .slice A r.pieces.length cp, .bool r.drops, .int .u8 r.lose, .int .i64 r.line, .int .u8 r.reach, .bool r.stuck, .int .i64 r.plies]).alloc (.cells #[.int .i64 p.w, .int .i64 p.h, .string p.cells, .int .i64 p.turn, .string p.h0, .string p.h1] 24))
 have hbp := (Blk.new (W.alloc (.cells #[.int .i64 r.start.w, .int .i64 r.start.h, .string r.start.cells, .int .i64 r.start.turn, .string r.start.h0, .string r.start.h1, .slice A r.pieces.length cp, .bool r.drops, .int .u8 r.lose, .int .i64 r.line, .int .u8 r.reach, .bool r.stuck, .int .i64 r.plies] 27)) 24 #[.int .i64 p.w, .int .i64 p.h, .string p.cells, .int .i64 p.turn, .string p.h0, .string p.h1])
 rw [World.size_alloc] at hbp
 have hw0 := (show Later W ((W.alloc (.cells #[.int .i64 r.start.w, .int .i64 r.start.h, .string r.start.cells, .int .i64 r.start.turn, .string r.start.h0, .string r.start.h1, .slice A r.pieces.length cp, .bool r.drops, .int .u8 r.lose, .int .i64 r.line, .int .u8 r.reach, .bool r.stuck, .int .i64 r.plies] 27)).alloc (.cells #[.int .i64 p.w, .int .i64 p.h, .string p.cells, .int .i64 p.turn, .string p.h0, .string p.h1] 24)) from (Later.rfl.alloc _).alloc _)
 have HE := hide (endsF_eq r p)
 have hlo := h.rules.lose.cap
 have hre := h.rules.reach.cap
 have hli := h.rules.line
 have l1 : lacksB r p p.turn = (r.lose != 0 && !hasL p.cells.data.toList (letN r.lose p.turn)) := rfl
 have l2 : lacksB r p (1 - p.turn) = (r.lose != 0 && !hasL p.cells.data.toList (letN r.lose (1 - p.turn))) := rfl
 have l5 : reachB r p (1 - p.turn) = (r.reach != 0 && hasL (rowOf p (1 - p.turn)) (letN r.reach (1 - p.turn))) := rfl
 have l6 : reachB r p p.turn = (r.reach != 0 && hasL (rowOf p p.turn) (letN r.reach p.turn)) := rfl
 have Hev := hide (fun w (hw : Later W w) => every_any r A cp p w (h.on hw))
 obtain ⟨b1, hb1⟩ : ∃ b, lacksB r p p.turn = b := ⟨_, rfl⟩
 obtain ⟨b2, hb2⟩ : ∃ b, lacksB r p (1 - p.turn) = b := ⟨_, rfl⟩
 obtain ⟨b3, hb3⟩ : ∃ b, lineB r p (1 - p.turn) = b := ⟨_, rfl⟩
 obtain ⟨b4, hb4⟩ : ∃ b, lineB r p p.turn = b := ⟨_, rfl⟩
 obtain ⟨b5, hb5⟩ : ∃ b, reachB r p (1 - p.turn) = b := ⟨_, rfl⟩
 obtain ⟨b6, hb6⟩ : ∃ b, reachB r p p.turn = b := ⟨_, rfl⟩
 rw [hb1, hb2, hb3, hb4, hb5, hb6] at HE
 have Hz3 := hide (fun (hl : r.line = 0) => show b3 = false from hb3 ▸ line_zero2 hl)
 have Hz4 := hide (fun (hl : r.line = 0) => show b4 = false from hb4 ▸ line_zero2 hl)
 have h01 : p.turn = 0 ∨ p.turn = 1 := by omega
 have H3 := hide (fun w (hl : 0 < r.line) (h8 : r.line ≤ 8) => show Calls Tryz.prog 133 #[.agg #[.int .i64 p.w, .int .i64 p.h, .string p.cells, .int .i64 p.turn, .string p.h0, .string p.h1], .int .i64 (1 - p.turn), .int .i64 r.line] w (fun e w' => e = .returned (.bool b3) ∧ Later w w') from by
  rw [← hb3, line_some hl]; exact lined_any p (1 - p.turn) r.line w h.pos (by omega) (by omega) h8)
 have H4 := hide (fun w (hl : 0 < r.line) (h8 : r.line ≤ 8) => show Calls Tryz.prog 133 #[.agg #[.int .i64 p.w, .int .i64 p.h, .string p.cells, .int .i64 p.turn, .string p.h0, .string p.h1], .int .i64 (tn : Int), .int .i64 r.line] w (fun e w' => e = .returned (.bool b4) ∧ Later w w') from by
  rw [← htn, ← hb4, line_some hl]; exact lined_any p p.turn r.line w h.pos h01 (by omega) h8)
 rw [hb1, htn] at l1
 rw [hb2, hkt] at l2
 rw [hb5, hkt, ← rowS_eq hn] at l5
 rw [hb6, htn, ← rowS_eq hn] at l6
 have L1 := hide l1
 have L2 := hide l2
 have L5 := hide l5
 have L6 := hide l6
 rw [hkt] at H3
 rw [htn] at HE
 have hE2 : ∀ n, endsN r p = endsF b1 b2 b3 b4 b5 b6 (tn : Int) n r.stuck → True := fun _ _ => trivial
 have Hlo := hide hlo
 have Hre := hide hre
 have Hli := hide hli
 have Htn := hide htn
 have Hkt := hide hkt
 rw [hn] at hbp hw0 H3 H4 Hev ⊢
 have Hbp := hide hbp
 have Hw := hide hw0
 clear h h01 hn hbp hw0 hb1 hb2 hb3 hb4 hb5 hb6 l1 l2 l5 l6 hlo hre hli hE2 htn hkt
 obtain ⟨q0, q1, q2, q3, q4, q5⟩ := Hbp.out.pos6
 have t0 : 0 ≤ p.turn := by have := Htn.out; omega
 have t1 : p.turn ≤ 1 := by have := Htn.out; omega
 have s1 : IntKind.i64.wrap (1 - p.turn) = 1 - p.turn := IntWalk.i64_in _ (by omega)
 go_enter Tryz.func102, Tryz.ntmps102
 go_upto_region 1 with (fail)
 obtain ⟨w0, hw0⟩ : ∃ w0, (W.alloc (.cells #[.int .i64 r.start.w, .int .i64 r.start.h, .string r.start.cells, .int .i64 r.start.turn, .string r.start.h0, .string r.start.h1, .slice A r.pieces.length cp, .bool r.drops, .int .u8 r.lose, .int .i64 r.line, .int .u8 r.reach, .bool r.stuck, .int .i64 r.plies] 27)).alloc (.cells #[.int .i64 (n : Int), .int .i64 p.h, .string p.cells, .int .i64 p.turn, .string p.h0, .string p.h1] 24) = w0 := ⟨_, rfl⟩
 rw [hw0] at Hbp Hw q0 q1 q2 q3 q4 q5 ⊢
 have Hbr0 := hide (show Blk w0 W.heap.size 27 #[.int .i64 r.start.w, .int .i64 r.start.h, .string r.start.cells, .int .i64 r.start.turn, .string r.start.h0, .string r.start.h1, .slice A r.pieces.length cp, .bool r.drops, .int .u8 r.lose, .int .i64 r.line, .int .u8 r.reach, .bool r.stuck, .int .i64 r.plies] from hw0 ▸ (Blk.new W 27 #[.int .i64 r.start.w, .int .i64 r.start.h, .string r.start.cells, .int .i64 r.start.turn, .string r.start.h0, .string r.start.h1, .slice A r.pieces.length cp, .bool r.drops, .int .u8 r.lose, .int .i64 r.line, .int .u8 r.reach, .bool r.stuck, .int .i64 r.plies]).alloc _)
 clear hw0 Hbr
 go_cut [5, 6] (fun a b w' => a = .int .i64 (tn : Int) ∧ b = .int .i64 (kn : Int) ∧ Blk w' W.heap.size 27 #[.int .i64 r.start.w, .int .i64 r.start.h, .string r.start.cells, .int .i64 r.start.turn, .string r.start.h0, .string r.start.h1, .slice A r.pieces.length cp, .bool r.drops, .int .u8 r.lose, .int .i64 r.line, .int .u8 r.reach, .bool r.stuck, .int .i64 r.plies] ∧ Blk w' (W.heap.size + 1) 24 #[.int .i64 (n : Int), .int .i64 p.h, .string p.cells, .int .i64 p.turn, .string p.h0, .string p.h1] ∧ Later W w')
 case first =>
  go_quiet (fail)
  go_wp2_with fail
  go_meet
  case rel => exact ⟨by rw [Htn.out], by rw [Hkt.out], Hbr0.out.drewN _, Hbp.out.drewN _, Hw.out.drewN _⟩
 case rest =>
  obtain ⟨rfl, rfl, hbr, hbp, hw⟩ := hcut
  have Hbr1 := hide hbr
  have Hbp1 := hide hbp
  have Hw1 := hide hw
  clear hbr hbp hw Hbr0 Hbp Hw q0 q1 q2 q3 q4 q5 s1
  obtain ⟨q0, q1, q2, q3, q4, q5⟩ := Hbp1.out.pos6
  go_upto_region 2 with (fail)
  go_cut [7] (fun s w' => ∃ g, s = .pointer (some ⟨g, 0, none⟩) ∧ Blk w' g 22 #[.string (rowS p n 0), .string (rowS p n 1)] ∧ Blk w' W.heap.size 27 #[.int .i64 r.start.w, .int .i64 r.start.h, .string r.start.cells, .int .i64 r.start.turn, .string r.start.h0, .string r.start.h1, .slice A r.pieces.length cp, .bool r.drops, .int .u8 r.lose, .int .i64 r.line, .int .u8 r.reach, .bool r.stuck, .int .i64 r.plies] ∧ Blk w' (W.heap.size + 1) 24 #[.int .i64 (n : Int), .int .i64 p.h, .string p.cells, .int .i64 p.turn, .string p.h0, .string p.h1] ∧ Later W w')
  case first =>
   have hpl : W.heap.size + 1 < wc.heap.size := Hbp1.out.lt
   have s3 : IntKind.i64.wrap ((p.cells.size : Int) - (n : Int)) = ((p.cells.size - n : Nat) : Int) := by rw [show (p.cells.size : Int) - (n : Int) = ((p.cells.size - n : Nat) : Int) by omega]; exact IntWalk.i64_in _ (by omega)
   have s4 : (p.cells.size : Int) - (n : Int) = ((p.cells.size - n : Nat) : Int) := by omega
   have j1 : (0 : Int) ≤ ((p.cells.size - n : Nat) : Int) := by omega
   have j2 : ((p.cells.size - n : Nat) : Int) ≤ (p.cells.size : Int) := by omega
   have j3 : (n : Int) ≤ (p.cells.size : Int) := by omega
   go_big_region
   go_wp2_with fail
   go_meet
   case rel =>
    exact ⟨_, rfl, (Blk.new _ _ _).drew, (Hbr1.out.alloc _).drew, (Hbp1.out.alloc _).drew, (Hw1.out.alloc _).drew⟩
  case rest =>
   obtain ⟨gr, rfl, hgr, hbr, hbp, hw⟩ := hcut
   clear q0 q1 q2 q3 q4 q5
   have Hbr2 := hide hbr
   have Hbp2 := hide hbp
   have Hw2 := hide hw
   have Hgr2 := hide hgr
   clear hgr hbr hbp hw
   obtain ⟨x0, x1, x2, x3, x4, x5, x6, x7, x8, x9, x10, x11, x12⟩ := Hbr2.out.rules
   obtain ⟨q0, q1, q2, q3, q4, q5⟩ := Hbp2.out.pos6
   go_upto_region 3 with (fail)
   go_cut [28] (fun s w' => s = .bool b1 ∧ Blk w' gr 22 #[.string (rowS p n 0), .string (rowS p n 1)] ∧ Blk w' W.heap.size 27 #[.int .i64 r.start.w, .int .i64 r.start.h, .string r.start.cells, .int .i64 r.start.turn, .string r.start.h0, .string r.start.h1, .slice A r.pieces.length cp, .bool r.drops, .int .u8 r.lose, .int .i64 r.line, .int .u8 r.reach, .bool r.stuck, .int .i64 r.plies] ∧ Blk w' (W.heap.size + 1) 24 #[.int .i64 (n : Int), .int .i64 p.h, .string p.cells, .int .i64 p.turn, .string p.h0, .string p.h1] ∧ Later W w')
   case first =>
    by_cases h0 : r.lose = 0
    ·
     have d1 : decide ((r.lose : Int) > 0) = false := by simp [h0]
     have d2 : decide (0 < r.lose) = false := by simp [h0]
     have d3 : ¬ 0 < r.lose := by omega
     have Hb := hide (show b1 = false by rw [L1.out, h0]; rfl)
     clear h0
     go_quiet (fail)
     go_wp2_with fail
     go_meet
     case rel => exact ⟨by rw [Hb.out], Hgr2.out.drewN _, Hbr2.out.drewN _, Hbp2.out.drewN _, Hw2.out.drewN _⟩
    ·
     have hu : upB r.lose = true := by
      rcases Hlo.out with h | h
      ·
       exact absurd h h0
      ·
       exact h
     have d1 : decide ((r.lose : Int) > 0) = true := decide_eq_true (by omega)
     have d2 : decide (0 < r.lose) = true := decide_eq_true (by omega)
     have d3 : 0 < r.lose := by omega
     have hb : b1 = !hasL p.cells.data.toList (letN r.lose (tn : Int)) := by rw [L1.out]; simp [h0]
     have hm := fun w => mark_any r.lose (tn : Int) hu w
     have hlt := letN_lt hu (tn : Int)
     obtain ⟨q, hq⟩ : ∃ q, letN r.lose (tn : Int) = q := ⟨_, rfl⟩
     rw [hq] at hb hlt
     simp only [hq] at hm
     have hc := fun w => contains_any p.cells q hlt w
     obtain ⟨hv, hhv⟩ : ∃ hv, hasL p.cells.data.toList q = hv := ⟨_, rfl⟩
     rw [hhv] at hb
     simp only [hhv] at hc
     have Hm := hide hm
     have Hc := hide hc
     have Hb := hide hb
     clear hm hc hb hq hhv hlt hu h0
     have hpl : W.heap.size + 1 < wc.heap.size := Hbp2.out.lt
     have hrl : W.heap.size < wc.heap.size := Hbr2.out.lt
     have hgl : gr < wc.heap.size := Hgr2.out.lt
     go_region_held3 (fun w' => w'.cell? ⟨W.heap.size, 8, none⟩ = some (.int .u8 r.lose) ∧ w'.cell? ⟨W.heap.size + 1, 2, none⟩ = some (.string p.cells)) (first | exact ⟨x8, q2⟩ | (refine ⟨?_, ?_⟩ <;> assumption) | go_keep)
      ((first
       | (go_at_call 105; refine (Hm.out _).mono ?_; rintro e w2 ⟨rfl, hw2⟩; have hl2 := Later.trans (show Later wc _ from (Later.rfl (w := wc)).drew) hw2; obtain ⟨x0, x1, x2, x3, x4, x5, x6, x7, x8, x9, x10, x11, x12⟩ := (hl2.blk Hbr2.out).rules; have q2 := (hl2.blk Hbp2.out).pos6.2.2.1)
       | (go_at_call 132; refine (Hc.out _).mono ?_; rintro e w3 ⟨rfl, rfl⟩)))
     all_goals
      go_wp2_with fail
      go_meet
      case rel =>
       refine ⟨by rw [Hb.out] <;> rfl, ?_⟩
       first
        | exact ⟨hl2.blk Hgr2.out, hl2.blk Hbr2.out, hl2.blk Hbp2.out, Hw2.out.trans hl2⟩
        | exact ⟨(hl2.blk Hgr2.out).drew, (hl2.blk Hbr2.out).drew, (hl2.blk Hbp2.out).drew, (Hw2.out.trans hl2).drew⟩
   case rest =>
    obtain ⟨rfl, hgr, hbr, hbp, hw⟩ := hcut
    clear Hgr2 Hbr2 Hbp2 Hw2 x0 x1 x2 x3 x4 x5 x6 x7 x8 x9 x10 x11 x12 q0 q1 q2 q3 q4 q5
    have Hbr3 := hide hbr
    have Hbp3 := hide hbp
    have Hw3 := hide hw
    have Hgr3 := hide hgr
    clear hgr hbr hbp hw
    cases b1
    case true =>
     go_wp2_with fail
     go_ret
     exact ⟨ret_int (by rw [HE.out]; unfold endsF; simp; omega), Hw3.out⟩
    obtain ⟨x0, x1, x2, x3, x4, x5, x6, x7, x8, x9, x10, x11, x12⟩ := Hbr3.out.rules
    obtain ⟨q0, q1, q2, q3, q4, q5⟩ := Hbp3.out.pos6
    go_upto_region 5 with (fail)
    go_cut [44] (fun s w' => s = .bool b2 ∧ Blk w' gr 22 #[.string (rowS p n 0), .string (rowS p n 1)] ∧ Blk w' W.heap.size 27 #[.int .i64 r.start.w, .int .i64 r.start.h, .string r.start.cells, .int .i64 r.start.turn, .string r.start.h0, .string r.start.h1, .slice A r.pieces.length cp, .bool r.drops, .int .u8 r.lose, .int .i64 r.line, .int .u8 r.reach, .bool r.stuck, .int .i64 r.plies] ∧ Blk w' (W.heap.size + 1) 24 #[.int .i64 (n : Int), .int .i64 p.h, .string p.cells, .int .i64 p.turn, .string p.h0, .string p.h1] ∧ Later W w')
    case first =>
     by_cases h0 : r.lose = 0
     ·
      have d1 : decide ((r.lose : Int) > 0) = false := by simp [h0]
      have d2 : decide (0 < r.lose) = false := by simp [h0]
      have d3 : ¬ 0 < r.lose := by omega
      have Hb := hide (show b2 = false by rw [L2.out, h0]; rfl)
      clear h0
      go_quiet (fail)
      go_wp2_with fail
      go_meet
      case rel => exact ⟨by rw [Hb.out], Hgr3.out.drewN _, Hbr3.out.drewN _, Hbp3.out.drewN _, Hw3.out.drewN _⟩
     ·
      have hu : upB r.lose = true := by
       rcases Hlo.out with h | h
       ·
        exact absurd h h0
       ·
        exact h
      have d1 : decide ((r.lose : Int) > 0) = true := decide_eq_true (by omega)
      have d2 : decide (0 < r.lose) = true := decide_eq_true (by omega)
      have d3 : 0 < r.lose := by omega
      have hb : b2 = !hasL p.cells.data.toList (letN r.lose (kn : Int)) := by rw [L2.out]; simp [h0]
      have hm := fun w => mark_any r.lose (kn : Int) hu w
      have hlt := letN_lt hu (kn : Int)
      obtain ⟨q, hq⟩ : ∃ q, letN r.lose (kn : Int) = q := ⟨_, rfl⟩
      rw [hq] at hb hlt
      simp only [hq] at hm
      have hc := fun w => contains_any p.cells q hlt w
      obtain ⟨hv, hhv⟩ : ∃ hv, hasL p.cells.data.toList q = hv := ⟨_, rfl⟩
      rw [hhv] at hb
      simp only [hhv] at hc
      have Hm := hide hm
      have Hc := hide hc
      have Hb := hide hb
      clear hm hc hb hq hhv hlt hu h0
      have hpl : W.heap.size + 1 < wc.heap.size := Hbp3.out.lt
      have hrl : W.heap.size < wc.heap.size := Hbr3.out.lt
      have hgl : gr < wc.heap.size := Hgr3.out.lt
      go_region_held3 (fun w' => w'.cell? ⟨W.heap.size, 8, none⟩ = some (.int .u8 r.lose) ∧ w'.cell? ⟨W.heap.size + 1, 2, none⟩ = some (.string p.cells)) (first | exact ⟨x8, q2⟩ | (refine ⟨?_, ?_⟩ <;> assumption) | go_keep)
       ((first
        | (go_at_call 105; refine (Hm.out _).mono ?_; rintro e w2 ⟨rfl, hw2⟩; have hl2 := Later.trans (show Later wc _ from (Later.rfl (w := wc)).drew) hw2; obtain ⟨x0, x1, x2, x3, x4, x5, x6, x7, x8, x9, x10, x11, x12⟩ := (hl2.blk Hbr3.out).rules; have q2 := (hl2.blk Hbp3.out).pos6.2.2.1)
        | (go_at_call 132; refine (Hc.out _).mono ?_; rintro e w3 ⟨rfl, rfl⟩)))
      all_goals
       go_wp2_with fail
       go_meet
       case rel =>
        refine ⟨by rw [Hb.out] <;> rfl, ?_⟩
        first
         | exact ⟨hl2.blk Hgr3.out, hl2.blk Hbr3.out, hl2.blk Hbp3.out, Hw3.out.trans hl2⟩
         | exact ⟨(hl2.blk Hgr3.out).drew, (hl2.blk Hbr3.out).drew, (hl2.blk Hbp3.out).drew, (Hw3.out.trans hl2).drew⟩
    case rest =>
     obtain ⟨rfl, hgr, hbr, hbp, hw⟩ := hcut
     clear Hgr3 Hbr3 Hbp3 Hw3 x0 x1 x2 x3 x4 x5 x6 x7 x8 x9 x10 x11 x12 q0 q1 q2 q3 q4 q5
     have Hbr4 := hide hbr
     have Hbp4 := hide hbp
     have Hw4 := hide hw
     have Hgr4 := hide hgr
     clear hgr hbr hbp hw
     cases b2
     case true =>
      go_wp2_with fail
      go_ret
      exact ⟨ret_int (by rw [HE.out]; unfold endsF; simp; omega), Hw4.out⟩
     obtain ⟨x0, x1, x2, x3, x4, x5, x6, x7, x8, x9, x10, x11, x12⟩ := Hbr4.out.rules
     obtain ⟨q0, q1, q2, q3, q4, q5⟩ := Hbp4.out.pos6
     go_upto_region 7 with (fail)
     go_cut [60] (fun s w' => s = .bool b3 ∧ Blk w' gr 22 #[.string (rowS p n 0), .string (rowS p n 1)] ∧ Blk w' W.heap.size 27 #[.int .i64 r.start.w, .int .i64 r.start.h, .string r.start.cells, .int .i64 r.start.turn, .string r.start.h0, .string r.start.h1, .slice A r.pieces.length cp, .bool r.drops, .int .u8 r.lose, .int .i64 r.line, .int .u8 r.reach, .bool r.stuck, .int .i64 r.plies] ∧ Blk w' (W.heap.size + 1) 24 #[.int .i64 (n : Int), .int .i64 p.h, .string p.cells, .int .i64 p.turn, .string p.h0, .string p.h1] ∧ Later W w')
     case first =>
      rcases Hli.out with hl0 | ⟨hl2, hl8⟩
      ·
       have e1 : decide (r.line > 0) = false := decide_eq_false (by omega)
       have Hb := hide (Hz3.out hl0)
       clear hl0
       go_wp2_with fail
       go_meet
       case rel => exact ⟨by rw [Hb.out], Hgr4.out, Hbr4.out, Hbp4.out, Hw4.out⟩
      ·
       have e1 : decide (r.line > 0) = true := decide_eq_true (by omega)
       have Hh := hide (fun w => H3.out w (by omega) hl8)
       clear hl2 hl8
       go_wp2_with (go_at_call 133; refine (Hh.out _).mono ?_; rintro e w2 ⟨rfl, hw⟩)
       go_meet
       case rel => exact ⟨rfl, hw.blk Hgr4.out, hw.blk Hbr4.out, hw.blk Hbp4.out, Hw4.out.trans hw⟩
     case rest =>
      obtain ⟨rfl, hgr, hbr, hbp, hw⟩ := hcut
      clear Hgr4 Hbr4 Hbp4 Hw4 x0 x1 x2 x3 x4 x5 x6 x7 x8 x9 x10 x11 x12 q0 q1 q2 q3 q4 q5
      have Hbr5 := hide hbr
      have Hbp5 := hide hbp
      have Hw5 := hide hw
      have Hgr5 := hide hgr
      clear hgr hbr hbp hw
      cases b3
      case true =>
       go_wp2_with fail
       go_ret
       exact ⟨ret_int (by rw [HE.out]; unfold endsF; simp; omega), Hw5.out⟩
      obtain ⟨x0, x1, x2, x3, x4, x5, x6, x7, x8, x9, x10, x11, x12⟩ := Hbr5.out.rules
      obtain ⟨q0, q1, q2, q3, q4, q5⟩ := Hbp5.out.pos6
      go_upto_region 9 with (fail)
      go_cut [73] (fun s w' => s = .bool b4 ∧ Blk w' gr 22 #[.string (rowS p n 0), .string (rowS p n 1)] ∧ Blk w' W.heap.size 27 #[.int .i64 r.start.w, .int .i64 r.start.h, .string r.start.cells, .int .i64 r.start.turn, .string r.start.h0, .string r.start.h1, .slice A r.pieces.length cp, .bool r.drops, .int .u8 r.lose, .int .i64 r.line, .int .u8 r.reach, .bool r.stuck, .int .i64 r.plies] ∧ Blk w' (W.heap.size + 1) 24 #[.int .i64 (n : Int), .int .i64 p.h, .string p.cells, .int .i64 p.turn, .string p.h0, .string p.h1] ∧ Later W w')
      case first =>
       rcases Hli.out with hl0 | ⟨hl2, hl8⟩
       ·
        have e1 : decide (r.line > 0) = false := decide_eq_false (by omega)
        have Hb := hide (Hz4.out hl0)
        clear hl0
        go_wp2_with fail
        go_meet
        case rel => exact ⟨by rw [Hb.out], Hgr5.out, Hbr5.out, Hbp5.out, Hw5.out⟩
       ·
        have e1 : decide (r.line > 0) = true := decide_eq_true (by omega)
        have Hh := hide (fun w => H4.out w (by omega) hl8)
        clear hl2 hl8
        go_wp2_with (go_at_call 133; refine (Hh.out _).mono ?_; rintro e w2 ⟨rfl, hw⟩)
        go_meet
        case rel => exact ⟨rfl, hw.blk Hgr5.out, hw.blk Hbr5.out, hw.blk Hbp5.out, Hw5.out.trans hw⟩
      case rest =>
       obtain ⟨rfl, hgr, hbr, hbp, hw⟩ := hcut
       clear Hgr5 Hbr5 Hbp5 Hw5 x0 x1 x2 x3 x4 x5 x6 x7 x8 x9 x10 x11 x12 q0 q1 q2 q3 q4 q5
       have Hbr6 := hide hbr
       have Hbp6 := hide hbp
       have Hw6 := hide hw
       have Hgr6 := hide hgr
       clear hgr hbr hbp hw
       cases b4
       case true =>
        go_wp2_with fail
        go_ret
        exact ⟨ret_int (by rw [HE.out]; unfold endsF; simp; omega), Hw6.out⟩
       obtain ⟨x0, x1, x2, x3, x4, x5, x6, x7, x8, x9, x10, x11, x12⟩ := Hbr6.out.rules
       obtain ⟨q0, q1, q2, q3, q4, q5⟩ := Hbp6.out.pos6
       go_upto_region 11 with (fail)
       go_cut [86] (fun s w' => s = .bool b5 ∧ Blk w' gr 22 #[.string (rowS p n 0), .string (rowS p n 1)] ∧ Blk w' W.heap.size 27 #[.int .i64 r.start.w, .int .i64 r.start.h, .string r.start.cells, .int .i64 r.start.turn, .string r.start.h0, .string r.start.h1, .slice A r.pieces.length cp, .bool r.drops, .int .u8 r.lose, .int .i64 r.line, .int .u8 r.reach, .bool r.stuck, .int .i64 r.plies] ∧ Blk w' (W.heap.size + 1) 24 #[.int .i64 (n : Int), .int .i64 p.h, .string p.cells, .int .i64 p.turn, .string p.h0, .string p.h1] ∧ Later W w')
       case first =>
        by_cases h0 : r.reach = 0
        ·
         have d1 : decide ((r.reach : Int) > 0) = false := by simp [h0]
         have d2 : decide (0 < r.reach) = false := by simp [h0]
         have d3 : ¬ 0 < r.reach := by omega
         have Hb := hide (show b5 = false by rw [L5.out, h0]; rfl)
         clear h0
         go_quiet (fail)
         go_wp2_with fail
         go_meet
         case rel => exact ⟨by rw [Hb.out], Hgr6.out.drewN _, Hbr6.out.drewN _, Hbp6.out.drewN _, Hw6.out.drewN _⟩
        ·
         have hu : upB r.reach = true := by
          rcases Hre.out with h | h
          ·
           exact absurd h h0
          ·
           exact h
         have d1 : decide ((r.reach : Int) > 0) = true := decide_eq_true (by omega)
         have d2 : decide (0 < r.reach) = true := decide_eq_true (by omega)
         have d3 : 0 < r.reach := by omega
         have hb : b5 = hasL (rowS p n kn).data.toList (letN r.reach (kn : Int)) := by rw [L5.out]; simp [h0]
         have hm := fun w => mark_any r.reach (kn : Int) hu w
         have hlt := letN_lt hu (kn : Int)
         obtain ⟨q, hq⟩ : ∃ q, letN r.reach (kn : Int) = q := ⟨_, rfl⟩
         rw [hq] at hb hlt
         simp only [hq] at hm
         have hc := fun w => contains_any (rowS p n kn) q hlt w
         obtain ⟨hv, hhv⟩ : ∃ hv, hasL (rowS p n kn).data.toList q = hv := ⟨_, rfl⟩
         rw [hhv] at hb
         simp only [hhv] at hc
         have Hm := hide hm
         have Hc := hide hc
         have Hb := hide hb
         clear hm hc hb hq hhv hlt hu h0
         have rr : wc.cell? ⟨gr, kn, none⟩ = some (.string (rowS p n kn)) := row_at Hgr6.out hkn2
         have i1 : (0 : Int) ≤ (kn : Int) := by omega
         have i2 : (kn : Int) < 2 := by omega
         have hpl : W.heap.size + 1 < wc.heap.size := Hbp6.out.lt
         have hrl : W.heap.size < wc.heap.size := Hbr6.out.lt
         have hgl : gr < wc.heap.size := Hgr6.out.lt
         go_region_held3 (fun w' => w'.cell? ⟨W.heap.size, 10, none⟩ = some (.int .u8 r.reach) ∧ w'.cell? ⟨gr, kn, none⟩ = some (.string (rowS p n kn))) (first | exact ⟨x10, rr⟩ | (refine ⟨?_, ?_⟩ <;> assumption) | go_keep)
          ((first
           | (go_at_call 105; refine (Hm.out _).mono ?_; rintro e w2 ⟨rfl, hw2⟩; have hl2 := Later.trans (show Later wc _ from (Later.rfl (w := wc)).drew) hw2; obtain ⟨x0, x1, x2, x3, x4, x5, x6, x7, x8, x9, x10, x11, x12⟩ := (hl2.blk Hbr6.out).rules; have rr := row_at (hl2.blk Hgr6.out) hkn2)
           | (go_at_call 132; refine (Hc.out _).mono ?_; rintro e w3 ⟨rfl, rfl⟩)))
         all_goals
          go_wp2_with fail
          go_meet
          case rel =>
           refine ⟨by rw [Hb.out] <;> rfl, ?_⟩
           first
            | exact ⟨hl2.blk Hgr6.out, hl2.blk Hbr6.out, hl2.blk Hbp6.out, Hw6.out.trans hl2⟩
            | exact ⟨(hl2.blk Hgr6.out).drew, (hl2.blk Hbr6.out).drew, (hl2.blk Hbp6.out).drew, (Hw6.out.trans hl2).drew⟩
       case rest =>
        obtain ⟨rfl, hgr, hbr, hbp, hw⟩ := hcut
        clear Hgr6 Hbr6 Hbp6 Hw6 x0 x1 x2 x3 x4 x5 x6 x7 x8 x9 x10 x11 x12 q0 q1 q2 q3 q4 q5
        have Hbr7 := hide hbr
        have Hbp7 := hide hbp
        have Hw7 := hide hw
        have Hgr7 := hide hgr
        clear hgr hbr hbp hw
        cases b5
        case true =>
         go_wp2_with fail
         go_ret
         exact ⟨ret_int (by rw [HE.out]; unfold endsF; simp; omega), Hw7.out⟩
        obtain ⟨x0, x1, x2, x3, x4, x5, x6, x7, x8, x9, x10, x11, x12⟩ := Hbr7.out.rules
        obtain ⟨q0, q1, q2, q3, q4, q5⟩ := Hbp7.out.pos6
        go_upto_region 13 with (fail)
        go_cut [102] (fun s w' => s = .bool b6 ∧ Blk w' gr 22 #[.string (rowS p n 0), .string (rowS p n 1)] ∧ Blk w' W.heap.size 27 #[.int .i64 r.start.w, .int .i64 r.start.h, .string r.start.cells, .int .i64 r.start.turn, .string r.start.h0, .string r.start.h1, .slice A r.pieces.length cp, .bool r.drops, .int .u8 r.lose, .int .i64 r.line, .int .u8 r.reach, .bool r.stuck, .int .i64 r.plies] ∧ Blk w' (W.heap.size + 1) 24 #[.int .i64 (n : Int), .int .i64 p.h, .string p.cells, .int .i64 p.turn, .string p.h0, .string p.h1] ∧ Later W w')
        case first =>
         by_cases h0 : r.reach = 0
         ·
          have d1 : decide ((r.reach : Int) > 0) = false := by simp [h0]
          have d2 : decide (0 < r.reach) = false := by simp [h0]
          have d3 : ¬ 0 < r.reach := by omega
          have Hb := hide (show b6 = false by rw [L6.out, h0]; rfl)
          clear h0
          go_quiet (fail)
          go_wp2_with fail
          go_meet
          case rel => exact ⟨by rw [Hb.out], Hgr7.out.drewN _, Hbr7.out.drewN _, Hbp7.out.drewN _, Hw7.out.drewN _⟩
         ·
          have hu : upB r.reach = true := by
           rcases Hre.out with h | h
           ·
            exact absurd h h0
           ·
            exact h
          have d1 : decide ((r.reach : Int) > 0) = true := decide_eq_true (by omega)
          have d2 : decide (0 < r.reach) = true := decide_eq_true (by omega)
          have d3 : 0 < r.reach := by omega
          have hb : b6 = hasL (rowS p n tn).data.toList (letN r.reach (tn : Int)) := by rw [L6.out]; simp [h0]
          have hm := fun w => mark_any r.reach (tn : Int) hu w
          have hlt := letN_lt hu (tn : Int)
          obtain ⟨q, hq⟩ : ∃ q, letN r.reach (tn : Int) = q := ⟨_, rfl⟩
          rw [hq] at hb hlt
          simp only [hq] at hm
          have hc := fun w => contains_any (rowS p n tn) q hlt w
          obtain ⟨hv, hhv⟩ : ∃ hv, hasL (rowS p n tn).data.toList q = hv := ⟨_, rfl⟩
          rw [hhv] at hb
          simp only [hhv] at hc
          have Hm := hide hm
          have Hc := hide hc
          have Hb := hide hb
          clear hm hc hb hq hhv hlt hu h0
          have rr : wc.cell? ⟨gr, tn, none⟩ = some (.string (rowS p n tn)) := row_at Hgr7.out tn2
          have i1 : (0 : Int) ≤ (tn : Int) := by omega
          have i2 : (tn : Int) < 2 := by omega
          have hpl : W.heap.size + 1 < wc.heap.size := Hbp7.out.lt
          have hrl : W.heap.size < wc.heap.size := Hbr7.out.lt
          have hgl : gr < wc.heap.size := Hgr7.out.lt
          go_region_held3 (fun w' => w'.cell? ⟨W.heap.size, 10, none⟩ = some (.int .u8 r.reach) ∧ w'.cell? ⟨gr, tn, none⟩ = some (.string (rowS p n tn))) (first | exact ⟨x10, rr⟩ | (refine ⟨?_, ?_⟩ <;> assumption) | go_keep)
           ((first
            | (go_at_call 105; refine (Hm.out _).mono ?_; rintro e w2 ⟨rfl, hw2⟩; have hl2 := Later.trans (show Later wc _ from (Later.rfl (w := wc)).drew) hw2; obtain ⟨x0, x1, x2, x3, x4, x5, x6, x7, x8, x9, x10, x11, x12⟩ := (hl2.blk Hbr7.out).rules; have rr := row_at (hl2.blk Hgr7.out) tn2)
            | (go_at_call 132; refine (Hc.out _).mono ?_; rintro e w3 ⟨rfl, rfl⟩)))
          all_goals
           go_wp2_with fail
           go_meet
           case rel =>
            refine ⟨by rw [Hb.out] <;> rfl, ?_⟩
            first
             | exact ⟨hl2.blk Hgr7.out, hl2.blk Hbr7.out, hl2.blk Hbp7.out, Hw7.out.trans hl2⟩
             | exact ⟨(hl2.blk Hgr7.out).drew, (hl2.blk Hbr7.out).drew, (hl2.blk Hbp7.out).drew, (Hw7.out.trans hl2).drew⟩
        case rest =>
         obtain ⟨rfl, hgr, hbr, hbp, hw⟩ := hcut
         clear Hgr7 Hbr7 Hbp7 Hw7 x0 x1 x2 x3 x4 x5 x6 x7 x8 x9 x10 x11 x12 q0 q1 q2 q3 q4 q5
         have Hbr8 := hide hbr
         have Hbp8 := hide hbp
         have Hw8 := hide hw
         have Hgr8 := hide hgr
         clear hgr hbr hbp hw
         cases b6
         case true =>
          go_wp2_with fail
          go_ret
          exact ⟨ret_int (by rw [HE.out]; unfold endsF; simp; omega), Hw8.out⟩
         obtain ⟨x0, x1, x2, x3, x4, x5, x6, x7, x8, x9, x10, x11, x12⟩ := Hbr8.out.rules
         obtain ⟨q0, q1, q2, q3, q4, q5⟩ := Hbp8.out.pos6
         go_upto_region 15 with (fail)
         by_cases h0 : (everyL r p).length = 0
         ·
          have d0 : decide (0 < (everyL r p).length) = false := decide_eq_false (by omega)
          have d1 : ¬ 0 < (everyL r p).length := by omega
          obtain ⟨st, hst⟩ : ∃ st, r.stuck = st := ⟨_, rfl⟩
          have hev : endsN r p = if st then 1 + (1 - (tn : Int)) else 3 := by rw [HE.out, hst, h0]; rfl
          have Hst := hide hst
          have Hevn := hide hev
          clear hst hev h0
          cases st
          ·
           go_wp2_with (go_at_call 103; refine (Hev.out _ Hw8.out).mono ?_; rintro e w2 ⟨A2, c2, rfl, hc2, hcells2, hge2, hw⟩; have y11 := (hw.blk Hbr8.out).rules.2.2.2.2.2.2.2.2.2.2.2.1; rw [Hst.out] at y11)
           go_ret
           exact ⟨ret_int (by have := Hevn.out; simp at this; omega), Hw8.out.trans hw⟩
          ·
           go_wp2_with (go_at_call 103; refine (Hev.out _ Hw8.out).mono ?_; rintro e w2 ⟨A2, c2, rfl, hc2, hcells2, hge2, hw⟩; have y11 := (hw.blk Hbr8.out).rules.2.2.2.2.2.2.2.2.2.2.2.1; rw [Hst.out] at y11)
           go_ret
           exact ⟨ret_int (by have := Hevn.out; simp at this; omega), Hw8.out.trans hw⟩
         ·
          have d0 : decide (0 < (everyL r p).length) = true := decide_eq_true (by omega)
          have d1 : 0 < (everyL r p).length := by omega
          have Hevn := hide (show endsN r p = 0 by rw [HE.out]; unfold endsF; simp [h0])
          clear h0
          go_wp2_with (go_at_call 103; refine (Hev.out _ Hw8.out).mono ?_; rintro e w2 ⟨A2, c2, rfl, hc2, hcells2, hge2, hw⟩)
          go_ret
          exact ⟨ret_int (by rw [Hevn.out]), Hw8.out.trans hw⟩
end Go.Proofs.YtcdfeaodfmfdnaaGreatDoor
