/- The rules and the moves of a position, asked from outside. -/
import Derived.Test.YtcdfeaodfmfdnaaGreatDoorPlRuRules2
import Derived.Test.YtcdfeaodfmfdnaaGreatDoorPlMvLetM
import Derived.Test.YtcdfeaodfmfdnaaGreatDoorPlMvEnds
import Derived.Test.YtcdfeaodfmfdnaaGreatDoorPlMvSortM
import Derived.Test.YtcdfeaodfmfdnaaGreatDoorGen
import Derived.Test.YtcdfeaodfmfdnaaGreatDoorRows
import Derived.Test.YtcdfeaodfmfdnaaGreatDoorPlMvOut
import Derived.Test.YtcdfeaodfmfdnaaGreatDoorPlMgMake
/- gameref.Of, moves.Of -/
namespace Go.Proofs.YtcdfeaodfmfdnaaGreatDoor
open Go.RowKit

/-- a position as it comes in: no text is too long -/
structure PFit (p : Pos) : Prop where
 c : p.cells.size ≤ 9223372036854775807
 h0 : p.h0.size ≤ 9223372036854775807
 h1 : p.h1.size ≤ 9223372036854775807
theorem mof_no {r : RulesD} {p : Pos} (h : ¬ OfOk r p) : Ending.returned (.int .i64 1) = .returned (.int .i64 (codeN (ofB r p))) := by rw [ofB_false.2 h]; rfl
theorem mof_yes {r : RulesD} {p : Pos} (h : OfOk r p) : Ending.returned (.int .i64 0) = .returned (.int .i64 (codeN (ofB r p))) := by rw [ofB_true.2 h]; rfl
theorem codeN_f : codeN false = 1 := rfl
theorem codeN_t : codeN true = 0 := rfl

set_option maxHeartbeats 4000000 in
set_option maxRecDepth 100000 in
theorem mof_any (r : RulesD) (A : Option Addr) (cp : Nat) (p : Pos) (W : World) (hf : RFit r) (hg : PFit p) (hP : PiecesAt W W.heap.size A r.pieces) :
  Calls Tryz.prog 123 #[.agg #[.int .i64 r.start.w, .int .i64 r.start.h, .string r.start.cells, .int .i64 r.start.turn, .string r.start.h0, .string r.start.h1, .slice A r.pieces.length cp, .bool r.drops, .int .u8 r.lose, .int .i64 r.line, .int .u8 r.reach, .bool r.stuck, .int .i64 r.plies], .agg #[.int .i64 p.w, .int .i64 p.h, .string p.cells, .int .i64 p.turn, .string p.h0, .string p.h1]] W fun e w' => e = .returned (.int .i64 (codeN (ofB r p))) ∧ Later W w' := by
 have Hbr := hide ((Blk.new W 27 #[.int .i64 r.start.w, .int .i64 r.start.h, .string r.start.cells, .int .i64 r.start.turn, .string r.start.h0, .string r.start.h1, .slice A r.pieces.length cp, .bool r.drops, .int .u8 r.lose, .int .i64 r.line, .int .u8 r.reach, .bool r.stuck, .int .i64 r.plies]).alloc (.cells #[.int .i64 p.w, .int .i64 p.h, .string p.cells, .int .i64 p.turn, .string p.h0, .string p.h1] 24))
 have hbp := (Blk.new (W.alloc (.cells #[.int .i64 r.start.w, .int .i64 r.start.h, .string r.start.cells, .int .i64 r.start.turn, .string r.start.h0, .string r.start.h1, .slice A r.pieces.length cp, .bool r.drops, .int .u8 r.lose, .int .i64 r.line, .int .u8 r.reach, .bool r.stuck, .int .i64 r.plies] 27)) 24 #[.int .i64 p.w, .int .i64 p.h, .string p.cells, .int .i64 p.turn, .string p.h0, .string p.h1])
 rw [World.size_alloc] at hbp
 have Hbp := hide hbp
 have Hw := hide (show Later W ((W.alloc (.cells #[.int .i64 r.start.w, .int .i64 r.start.h, .string r.start.cells, .int .i64 r.start.turn, .string r.start.h0, .string r.start.h1, .slice A r.pieces.length cp, .bool r.drops, .int .u8 r.lose, .int .i64 r.line, .int .u8 r.reach, .bool r.stuck, .int .i64 r.plies] 27)).alloc (.cells #[.int .i64 p.w, .int .i64 p.h, .string p.cells, .int .i64 p.turn, .string p.h0, .string p.h1] 24)) from (Later.rfl.alloc _).alloc _)
 have HR := hide (fun w (hw : Later W w) => check_any r A cp w hf ((hP.below hw).more hw.size))
 have HL := hide (fun (hc : p.cells.size ≤ 1000) (h0 : p.h0.size ≤ 1000) (h1 : p.h1.size ≤ 1000) w (hw : Later W w) => fits_any r A cp p w hc h0 h1 hf.n ((hP.below hw).more hw.size))
 have HC := hide (fun n hn w => chk_l p w hg.c hg.h0 hg.h1 n hn)
 have HB := hide (fun h => mof_no (r := r) (p := p) h)
 have HG := hide (fun h => mof_yes (r := r) (p := p) h)
 clear hf hg hP hbp
 go_enter Tryz.func123, Tryz.ntmps123
 go_upto_region 1 with (fail)
 obtain ⟨w0, hw0⟩ : ∃ w0, (W.alloc (.cells #[.int .i64 r.start.w, .int .i64 r.start.h, .string r.start.cells, .int .i64 r.start.turn, .string r.start.h0, .string r.start.h1, .slice A r.pieces.length cp, .bool r.drops, .int .u8 r.lose, .int .i64 r.line, .int .u8 r.reach, .bool r.stuck, .int .i64 r.plies] 27)).alloc (.cells #[.int .i64 p.w, .int .i64 p.h, .string p.cells, .int .i64 p.turn, .string p.h0, .string p.h1] 24) = w0 := ⟨_, rfl⟩
 rw [hw0] at Hbr Hbp Hw ⊢
 clear hw0
 obtain ⟨b, hb⟩ : ∃ b, rulesB r = b := ⟨_, rfl⟩
 rw [hb] at HR
 obtain ⟨x0, x1, x2, x3, x4, x5, x6, x7, x8, x9, x10, x11, x12⟩ := Hbr.out.rules
 cases b
 case false =>
  rw [codeN_f] at HR
  have Hbad := hide (HB.out (fun h => rulesB_false.1 hb h.rules))
  clear hb
  go_wp2_with (go_at_call 14; refine (HR.out _ Hw.out).mono ?_; rintro e w2 ⟨rfl, hw2⟩)
  go_ret
  exact ⟨by rw [← Hbad.out] <;> rfl, Hw.out.trans hw2⟩
 rw [codeN_t] at HR
 have Hrul := hide (rulesB_true.1 hb)
 clear hb
 by_cases hp : PosOk p
 case neg =>
  have Hbad := hide (HB.out (fun h => hp h.pos))
  have HC0 := hide (HC.out 1 ⟨fun h => absurd h hp, fun _ => rfl⟩)
  clear hp
  go_wp2_with (first
   | (go_at_call 14; refine (HR.out _ Hw.out).mono ?_; rintro e w2 ⟨rfl, hw2⟩; obtain ⟨q0, q1, q2, q3, q4, q5⟩ := (hw2.blk Hbp.out).pos6)
   | (go_at_call 43; refine (HC0.out _).mono ?_; rintro e w3 ⟨rfl, hw3⟩))
  go_ret
  exact ⟨by rw [← Hbad.out] <;> rfl, (Hw.out.trans hw2).trans hw3⟩
 have HC1 := hide (HC.out 0 ⟨fun _ => rfl, fun h => absurd hp h⟩)
 obtain ⟨s1, s2, s3⟩ := pos_small hp
 have Hpos := hide hp
 have hff := HL.out (by omega) (by omega) (by omega)
 obtain ⟨u, hu⟩ : ∃ u, fitsB r.pieces p.all = u := ⟨_, rfl⟩
 rw [hu] at hff
 have Hff := hide hff
 clear hff s1 s2 s3 hp HC
 by_cases hw : p.w = r.start.w
 case neg =>
  have Hbad := hide (HB.out (fun h => hw h.w))
  have d1 : (p.w != r.start.w) = true := by simpa using hw
  clear hw hu
  go_wp2_with (first
   | (go_at_call 14; refine (HR.out _ Hw.out).mono ?_; rintro e w2 ⟨rfl, hw2⟩; obtain ⟨q0, q1, q2, q3, q4, q5⟩ := (hw2.blk Hbp.out).pos6)
   | (go_at_call 43; refine (HC1.out _).mono ?_; rintro e w3 ⟨rfl, hw3⟩; obtain ⟨z0, z1, z2, z3, z4, z5, z6, z7, z8, z9, z10, z11, z12⟩ := (hw3.blk (hw2.blk Hbr.out)).rules; obtain ⟨v0, v1, v2, v3, v4, v5⟩ := (hw3.blk (hw2.blk Hbp.out)).pos6))
  go_ret
  exact ⟨by rw [← Hbad.out] <;> rfl, (Hw.out.trans hw2).trans hw3⟩
 by_cases hh : p.h = r.start.h
 case neg =>
  have Hbad := hide (HB.out (fun h => hh h.h))
  have d1 : (p.w != r.start.w) = false := by simpa using hw
  have d2 : (p.h != r.start.h) = true := by simpa using hh
  clear hw hh hu
  go_wp2_with (first
   | (go_at_call 14; refine (HR.out _ Hw.out).mono ?_; rintro e w2 ⟨rfl, hw2⟩; obtain ⟨q0, q1, q2, q3, q4, q5⟩ := (hw2.blk Hbp.out).pos6)
   | (go_at_call 43; refine (HC1.out _).mono ?_; rintro e w3 ⟨rfl, hw3⟩; obtain ⟨z0, z1, z2, z3, z4, z5, z6, z7, z8, z9, z10, z11, z12⟩ := (hw3.blk (hw2.blk Hbr.out)).rules; obtain ⟨v0, v1, v2, v3, v4, v5⟩ := (hw3.blk (hw2.blk Hbp.out)).pos6))
  go_ret
  exact ⟨by rw [← Hbad.out] <;> rfl, (Hw.out.trans hw2).trans hw3⟩
 have d1 : (p.w != r.start.w) = false := by simpa using hw
 have d2 : (p.h != r.start.h) = false := by simpa using hh
 cases u
 ·
  have Hbad := hide (HB.out (fun h => fitsB_false.1 hu h.fits))
  clear hw hh hu
  go_wp2_with (first
   | (go_at_call 14; refine (HR.out _ Hw.out).mono ?_; rintro e w2 ⟨rfl, hw2⟩; obtain ⟨q0, q1, q2, q3, q4, q5⟩ := (hw2.blk Hbp.out).pos6)
   | (go_at_call 43; refine (HC1.out _).mono ?_; rintro e w3 ⟨rfl, hw3⟩; obtain ⟨z0, z1, z2, z3, z4, z5, z6, z7, z8, z9, z10, z11, z12⟩ := (hw3.blk (hw2.blk Hbr.out)).rules; obtain ⟨v0, v1, v2, v3, v4, v5⟩ := (hw3.blk (hw2.blk Hbp.out)).pos6)
   | (go_at_call 47; refine (Hff.out _ ((Hw.out.trans hw2).trans hw3)).mono ?_; rintro e w4 ⟨rfl, hw4⟩))
  go_ret
  exact ⟨by rw [← Hbad.out] <;> rfl, ((Hw.out.trans hw2).trans hw3).trans hw4⟩
 ·
  have Hgood := hide (HG.out ⟨Hrul.out, Hpos.out, hw, hh, fitsB_true.1 hu⟩)
  clear hw hh hu
  go_wp2_with (first
   | (go_at_call 14; refine (HR.out _ Hw.out).mono ?_; rintro e w2 ⟨rfl, hw2⟩; obtain ⟨q0, q1, q2, q3, q4, q5⟩ := (hw2.blk Hbp.out).pos6)
   | (go_at_call 43; refine (HC1.out _).mono ?_; rintro e w3 ⟨rfl, hw3⟩; obtain ⟨z0, z1, z2, z3, z4, z5, z6, z7, z8, z9, z10, z11, z12⟩ := (hw3.blk (hw2.blk Hbr.out)).rules; obtain ⟨v0, v1, v2, v3, v4, v5⟩ := (hw3.blk (hw2.blk Hbp.out)).pos6)
   | (go_at_call 47; refine (Hff.out _ ((Hw.out.trans hw2).trans hw3)).mono ?_; rintro e w4 ⟨rfl, hw4⟩))
  go_ret
  exact ⟨by rw [← Hgood.out] <;> rfl, ((Hw.out.trans hw2).trans hw3).trans hw4⟩
end Go.Proofs.YtcdfeaodfmfdnaaGreatDoor
/- gameref.Moves -/
namespace Go.Proofs.YtcdfeaodfmfdnaaGreatDoor
open Go.RowKit

set_option maxHeartbeats 2000000 in
set_option maxRecDepth 100000 in
theorem moves_any (r : RulesD) (A : Option Addr) (cp : Nat) (p : Pos) (W : World) (h : AllPre r p A W) :
  Calls Tryz.prog 55 #[.agg #[.int .i64 r.start.w, .int .i64 r.start.h, .string r.start.cells, .int .i64 r.start.turn, .string r.start.h0, .string r.start.h1, .slice A r.pieces.length cp, .bool r.drops, .int .u8 r.lose, .int .i64 r.line, .int .u8 r.reach, .bool r.stuck, .int .i64 r.plies], .agg #[.int .i64 p.w, .int .i64 p.h, .string p.cells, .int .i64 p.turn, .string p.h0, .string p.h1]] W (MovesOut W (movesL r p)) := by
 have Hbr := hide ((Blk.new W 27 #[.int .i64 r.start.w, .int .i64 r.start.h, .string r.start.cells, .int .i64 r.start.turn, .string r.start.h0, .string r.start.h1, .slice A r.pieces.length cp, .bool r.drops, .int .u8 r.lose, .int .i64 r.line, .int .u8 r.reach, .bool r.stuck, .int .i64 r.plies]).alloc (.cells #[.int .i64 p.w, .int .i64 p.h, .string p.cells, .int .i64 p.turn, .string p.h0, .string p.h1] 24))
 have hbp := (Blk.new (W.alloc (.cells #[.int .i64 r.start.w, .int .i64 r.start.h, .string r.start.cells, .int .i64 r.start.turn, .string r.start.h0, .string r.start.h1, .slice A r.pieces.length cp, .bool r.drops, .int .u8 r.lose, .int .i64 r.line, .int .u8 r.reach, .bool r.stuck, .int .i64 r.plies] 27)) 24 #[.int .i64 p.w, .int .i64 p.h, .string p.cells, .int .i64 p.turn, .string p.h0, .string p.h1])
 rw [World.size_alloc] at hbp
 have Hbp := hide hbp
 have Hw := hide (show Later W ((W.alloc (.cells #[.int .i64 r.start.w, .int .i64 r.start.h, .string r.start.cells, .int .i64 r.start.turn, .string r.start.h0, .string r.start.h1, .slice A r.pieces.length cp, .bool r.drops, .int .u8 r.lose, .int .i64 r.line, .int .u8 r.reach, .bool r.stuck, .int .i64 r.plies] 27)).alloc (.cells #[.int .i64 p.w, .int .i64 p.h, .string p.cells, .int .i64 p.turn, .string p.h0, .string p.h1] 24)) from (Later.rfl.alloc _).alloc _)
 have Hev := hide (fun w (hw : Later W w) => every_any r A cp p w (h.on hw))
 have Hen := hide (fun w (hw : Later W w) => ends_any r A cp p w (h.on hw))
 have Hm := hide (show ∀ n, endsN r p = n → (n = 0 → movesL r p = everyL r p) ∧ (n ≠ 0 → movesL r p = []) from fun n hn => ⟨fun h0 => movesL_some (by rw [hn, h0]), fun h0 => movesL_none (by rw [hn]; exact h0)⟩)
 obtain ⟨n, hn⟩ : ∃ n, endsN r p = n := ⟨_, rfl⟩
 rw [hn] at Hen
 have Hmn := hide (Hm.out n hn)
 clear h hn Hm hbp
 obtain ⟨x0, x1, x2, x3, x4, x5, x6, x7, x8, x9, x10, x11, x12⟩ := Hbr.out.rules
 obtain ⟨q0, q1, q2, q3, q4, q5⟩ := Hbp.out.pos6
 go_enter Tryz.func55, Tryz.ntmps55
 go_upto_region 1 with (fail)
 by_cases h0 : n = 0
 ·
  have d1 : (n != 0) = false := by simp [h0]
  have Hml := hide (Hmn.out.1 h0)
  clear h0
  go_wp2_with (first
   | (go_at_call 102; refine (Hen.out _ Hw.out).mono ?_; rintro e w2 ⟨rfl, hw2⟩; obtain ⟨y0, y1, y2, y3, y4, y5, y6, y7, y8, y9, y10, y11, y12⟩ := (hw2.blk Hbr.out).rules; obtain ⟨z0, z1, z2, z3, z4, z5⟩ := (hw2.blk Hbp.out).pos6)
   | (go_at_call 103; refine (Hev.out _ (Hw.out.trans hw2)).mono ?_; rintro e w3 ⟨A', c', rfl, h1, h2, h3, h4⟩))
  go_ret
  have hsz := (Hw.out.trans hw2).size
  exact ⟨A', c', by rw [Hml.out] <;> rfl, by rw [Hml.out]; exact h1, by rw [Hml.out]; exact h2, fun ad ha => by have := h3 ad ha; omega, (Hw.out.trans hw2).trans h4⟩
 ·
  have d1 : (n != 0) = true := by simp [h0]
  have Hml := hide (Hmn.out.2 h0)
  clear h0
  go_wp2_with (go_at_call 102; refine (Hen.out _ Hw.out).mono ?_; rintro e w2 ⟨rfl, hw2⟩)
  go_ret
  exact ⟨none, 0, by rw [Hml.out] <;> rfl, by rw [Hml.out]; exact Nat.le_refl _, by rw [Hml.out]; exact Cells.nil_, (fun ad h => by cases h), Hw.out.trans hw2⟩
end Go.Proofs.YtcdfeaodfmfdnaaGreatDoor
/- gamelaw.Same of moves, gameref.In, slices.Contains of moves -/
namespace Go.Proofs.YtcdfeaodfmfdnaaGreatDoor
open Go.RowKit Go.Shelf

theorem mv_at {w : World} {B : Nat} {A : Option Addr} {l : List Mv} (h : Cells w B A (cellsM l)) {i : Nat} (hi : i < l.length) :
  ∃ b off, A = some ⟨b, off, none⟩ ∧ b < B ∧ w.cell? ⟨b, off + i * 3, none⟩ = some (.int .i64 l[i].f) ∧ w.cell? ⟨b, off + i * 3 + 1, none⟩ = some (.int .i64 l[i].t) ∧ w.cell? ⟨b, off + i * 3 + 2, none⟩ = some (.int .u8 (l[i].c : Int)) := by
 have hl := cellsM_len l
 obtain ⟨b, off, hA, hb, hcell⟩ := h (by omega)
 obtain ⟨g0, g1, g2⟩ := cellsM_get l i hi
 have key : ∀ j v, (cellsM l)[j]? = some v → w.cell? ⟨b, off + j, none⟩ = some v := by
  intro j v hv
  obtain ⟨hj, hjv⟩ := List.getElem?_eq_some_iff.1 hv
  rw [hcell j hj, hjv]
 exact ⟨b, off, hA, hb, key _ _ g0, by rw [Nat.add_assoc]; exact key _ _ g1, by rw [Nat.add_assoc]; exact key _ _ g2⟩

set_option maxHeartbeats 1000000 in
theorem index_empty (A : Option Addr) (c : Nat) (m : Mv) (W : World) :
  Calls Tryz.prog 126 #[.slice A 0 c, .agg #[.int .i64 m.f, .int .i64 m.t, .int .u8 m.c]] W fun e w' => e = .returned (.int .i64 (-1)) ∧ Later W w' := by
 have Hw := hide (show Later W (W.alloc (.cells #[.int .i64 m.f, .int .i64 m.t, .int .u8 m.c] 101)) from Later.rfl.alloc _)
 go_enter Tryz.func126, Tryz.ntmps126
 go_wp2_with fail
 go_loopw [8] (fun i wr => i = .int .i64 0 ∧ wr = W.alloc (.cells #[.int .i64 m.f, .int .i64 m.t, .int .u8 m.c] 101)) (fun _ _ => 0)
 case atStart => exact ⟨rfl, rfl⟩
 case round =>
  obtain ⟨rfl, rfl⟩ := hrel
  go_wp2_with fail
  go_ret
  exact ⟨rfl, Hw.out⟩
set_option maxHeartbeats 1000000 in
theorem contains_mv (A : Option Addr) (c : Nat) (l : List Mv) (m : Mv) (W : World) (hm : l.length ≤ 9223372036854775807) (h : Cells W W.heap.size A (cellsM l)) :
  Calls Tryz.prog 97 #[.slice A l.length c, .agg #[.int .i64 m.f, .int .i64 m.t, .int .u8 m.c]] W fun e w' => e = .returned (.bool (decide (m ∈ l))) ∧ Later W w' := by
 by_cases hl : 0 < l.length
 ·
  obtain ⟨b, off, hA, _, _⟩ := mv_at h hl
  subst hA
  have := AnyQ.slices_Contains Tryz.containsM 3 (fun w => Tryz.isAgg101 w) (fun w => Tryz.sizeOf101 w) encM (fun _ => rfl) (fun x y => decide (x = y)) eqM b off l.length c l m W (Nat.le_refl _) hm (fun j hj i v hi => by
   obtain ⟨b', off', hb, _, x0, x1, x2⟩ := mv_at h hj
   injection hb with hb
   injection hb with hb1 hb2
   subst hb1; subst hb2
   rw [getElem!_pos l j hj] at hi
   match i, hi with
   | 0, hi => simp only [encM] at hi; rw [Nat.add_zero, x0]; simpa using hi
   | 1, hi => simp only [encM] at hi; rw [x1]; simpa using hi
   | 2, hi => simp only [encM] at hi; rw [x2]; simpa using hi
   | i + 3, hi => simp [encM] at hi)
  refine this.mono ?_
  rintro e w' ⟨rfl, hw⟩
  refine ⟨?_, hw⟩
  congr 2
  rw [List.take_length, Bool.eq_iff_iff, List.any_eq_true, decide_eq_true_eq]
  constructor
  ·
   rintro ⟨x, hx, he⟩
   rw [of_decide_eq_true he]; exact hx
  ·
   intro hx
   exact ⟨m, hx, decide_eq_true rfl⟩
 ·
  have he : l = [] := List.eq_nil_of_length_eq_zero (by omega)
  subst he
  have Hi := hide (fun w => index_empty A c m w)
  have Hb := hide (Blk.new W 101 #[.int .i64 m.f, .int .i64 m.t, .int .u8 m.c])
  have Hw := hide (show Later W (W.alloc (.cells #[.int .i64 m.f, .int .i64 m.t, .int .u8 m.c] 101)) from Later.rfl.alloc _)
  clear hl h hm
  have hd : decide (m ∈ ([] : List Mv)) = false := by simp
  rw [hd]
  clear hd
  simp only [List.length_nil]
  go_enter Tryz.func97, Tryz.ntmps97
  go_wp2_with (go_at_call 126; refine (Hi.out _).mono ?_; rintro e w2 ⟨rfl, hw2⟩)
  go_ret
  exact ⟨rfl, Hw.out.trans hw2⟩
end Go.Proofs.YtcdfeaodfmfdnaaGreatDoor
/- moves.Moves, moves.Outcome, moves.Apply; a move of a list made -/
namespace Go.Proofs.YtcdfeaodfmfdnaaGreatDoor
open Go.RowKit

theorem OfOk.pre {r : RulesD} {p : Pos} {A : Option Addr} {W : World} (h : OfOk r p) (hP : PiecesAt W W.heap.size A r.pieces) : AllPre r p A W := ⟨h.rules, h.pos, h.fits, hP⟩
theorem moves_every {r : RulesD} {p : Pos} {m : Mv} (h : m ∈ movesL r p) : m ∈ everyL r p := by
 unfold movesL at h
 split at h
 ·
  exact h
 ·
  simp at h
theorem everyL_len {r : RulesD} {p : Pos} (hp : PosOk p) : (everyL r p).length ≤ 10000 := by
 obtain ⟨s1, s2, s3⟩ := pos_small hp
 have hh : (handOf p p.turn).length ≤ 8 := (hand_ok hp p.turn).1
 have hd : ∀ t, (everyDrop p t).length ≤ 8 := fun t => by
  unfold everyDrop
  refine Nat.le_trans (mv_flat_len _ 1 (fun i => ?_) _) (by rw [List.length_range]; omega)
  split <;> simp
 have h1 := mv_flat_len (everyDrop p) 8 hd (List.range p.cells.size)
 have h2 := mv_flat_len (everyBoard r.pieces p) p.cells.size (everyBoard_len r.pieces p) (List.range p.cells.size)
 rw [List.length_range] at h1 h2
 have h3 : p.cells.size * p.cells.size ≤ 64 * 64 := Nat.mul_le_mul s1 s1
 unfold everyL
 rw [List.length_append]
 split
 ·
  omega
 ·
  simp only [List.length_nil]; omega
theorem movesL_len {r : RulesD} {p : Pos} (hp : PosOk p) : (movesL r p).length ≤ 10000 := by
 unfold movesL
 split
 ·
  exact everyL_len hp
 ·
  simp

/-- what the makers of moves are told -/
structure MkOk (p : Pos) (m : Mv) (tn : Nat) (H : ByteArray) (t8 : UInt8) : Prop where
 turn : p.turn = (tn : Int)
 tn1 : tn ≤ 1
 hand : H = if tn = 0 then p.h0 else p.h1
 mt : ((m.t.toNat : Nat) : Int) = m.t
 mtl : m.t.toNat < p.cells.size
 c64 : p.cells.size ≤ 64
 h8 : H.size ≤ 8
 sort : H.data.toList.Pairwise LeU
 mc : (u8 m.c).toNat = m.c
 mf : (m.f = -1 ∧ u8 m.c ∈ H.data.toList) ∨ ∃ fn : Nat, m.f = (fn : Int) ∧ fn < p.cells.size ∧ fn ≠ m.t.toNat
 up : upB (u8 m.c).toNat = true
 at8 : p.cells.data.toList[m.t.toNat]? = some t8
 t8n : t8.toNat = cellN p m.t.toNat
 take : t8.toNat ≠ 46 → letG t8.toNat (1 - (tn : Int)) = capN t8.toNat
theorem mk_ok {r : RulesD} {p : Pos} {m : Mv} (ho : OfOk r p) (hm : m ∈ everyL r p) : ∃ tn H t8, MkOk p m tn H t8 := by
 have htn : p.turn = 0 ∨ p.turn = 1 := by have := ho.pos.t0; have := ho.pos.t1; omega
 obtain ⟨e0, e1, e2⟩ := every_form htn hm
 have hup := (every_made ho hm).1
 have hmc : (u8 m.c).toNat = m.c := u8_nat (by have := upB_lt hup; omega)
 obtain ⟨s1, s2, s3⟩ := pos_small ho.pos
 have hlen : p.cells.data.toList.length = p.cells.size := rfl
 have hcell := cellN_ok ho.pos e1
 have hh := hand_ok ho.pos p.turn
 have e3 : p.turn = ((p.turn.toNat : Nat) : Int) := by omega
 have hHof : handOf p p.turn = (if p.turn.toNat = 0 then p.h0 else p.h1).data.toList := by
  unfold handOf
  rcases htn with h | h <;> rw [h] <;> rfl
 have hcN : cellN p m.t.toNat = (p.cells.data.toList[m.t.toNat]'(by omega)).toNat := by
  unfold cellN
  rw [List.getD_eq_getElem?_getD, List.getElem?_eq_getElem (by omega)]
  rfl
 have f1 : p.turn.toNat ≤ 1 := by omega
 have f2 : ((m.t.toNat : Nat) : Int) = m.t := Int.toNat_of_nonneg e0
 have f3 : (if p.turn.toNat = 0 then p.h0 else p.h1).size ≤ 8 := by split <;> omega
 refine ⟨p.turn.toNat, if p.turn.toNat = 0 then p.h0 else p.h1, p.cells.data.toList[m.t.toNat]'(by omega), e3, f1, rfl, f2, e1, s1, f3, by rw [← hHof]; exact hand_sorted hh, hmc, ?_, by rw [hmc]; exact hup, List.getElem?_eq_getElem (by omega), hcN.symm, fun h46 => ?_⟩
 ·
  rcases e2 with ⟨h1, _, _, x, hx, hxc⟩ | ⟨h1, h2, h3, _⟩
  ·
   left
   refine ⟨h1, ?_⟩
   rw [← hHof]
   have : u8 m.c = x := UInt8.toNat_inj.1 (by rw [hmc, hxc])
   rw [this]; exact hx
  ·
   right
   exact ⟨m.f.toNat, by omega, h2, by omega⟩
 ·
  rw [← hcN] at h46 ⊢
  rw [← e3]
  refine letG_take htn hcell h46 ?_
  rcases e2 with ⟨_, _, h3, _⟩ | ⟨_, _, _, _, _, h3⟩
  ·
   exact absurd h3 h46
  ·
   exact h3
theorem madeP_eq {r : RulesD} {p : Pos} {m : Mv} {tn : Nat} {H : ByteArray} {t8 : UInt8} (h : MkOk p m tn H t8) {q : Pos} (hq : madeP r p m = q) :
  #[Value.int .i64 p.w, .int .i64 p.h, .string (bytes (apCells p.cells.data.toList m.f m.t.toNat (u8 (letN (u8 m.c).toNat tn)))), .int .i64 (1 - (tn : Int)), .string (if tn = 0 then bytes (apHand (apLeft H.data.toList m.f (u8 m.c)) t8 r.drops) else p.h0), .string (if tn = 0 then p.h1 else bytes (apHand (apLeft H.data.toList m.f (u8 m.c)) t8 r.drops))] = #[.int .i64 q.w, .int .i64 q.h, .string q.cells, .int .i64 q.turn, .string q.h0, .string q.h1] := by
 have hHof : handOf p p.turn = H.data.toList := by
  rw [h.hand]
  unfold handOf
  have := h.tn1
  rw [h.turn]
  by_cases e : tn = 0
  ·
   rw [if_pos e, if_pos (by omega)]
  ·
   rw [if_neg e, if_neg (by omega)]
 have hleft : leftHand p m = apLeft H.data.toList m.f (u8 m.c) := by unfold leftHand apLeft; rw [hHof]
 have hhand : madeHand r p m = apHand (apLeft H.data.toList m.f (u8 m.c)) t8 r.drops := by
  unfold madeHand apHand
  rw [hleft, ← h.t8n]
 have hcells : madeCells p m = apCells p.cells.data.toList m.f m.t.toNat (u8 (letN (u8 m.c).toNat tn)) := by
  unfold madeCells apCells
  rw [h.mc, ← h.turn]
 have ht0 : ((tn : Int) = 0) = (tn = 0) := by simp
 subst hq
 simp only [madeP, hhand, hcells, h.turn, ht0]
theorem apply_any (r : RulesD) (A : Option Addr) (cp : Nat) (p : Pos) (m : Mv) (q : Pos) (W : World) (ho : OfOk r p) (hm : m ∈ everyL r p) (hq : madeP r p m = q) :
  Calls Tryz.prog 98 #[.agg #[.int .i64 r.start.w, .int .i64 r.start.h, .string r.start.cells, .int .i64 r.start.turn, .string r.start.h0, .string r.start.h1, .slice A r.pieces.length cp, .bool r.drops, .int .u8 r.lose, .int .i64 r.line, .int .u8 r.reach, .bool r.stuck, .int .i64 r.plies], .agg #[.int .i64 p.w, .int .i64 p.h, .string p.cells, .int .i64 p.turn, .string p.h0, .string p.h1], .agg #[.int .i64 m.f, .int .i64 m.t, .int .u8 m.c]] W fun e w' => e = .returned (.agg #[.int .i64 q.w, .int .i64 q.h, .string q.cells, .int .i64 q.turn, .string q.h0, .string q.h1]) ∧ Later W w' := by
 obtain ⟨tn, H, t8, h⟩ := mk_ok ho hm
 have := apply_core r A cp p.w p.h p.cells tn p.h0 p.h1 m.f m.t.toNat (u8 m.c) W H h.tn1 h.hand h.mtl h.c64 h.h8 h.sort (by
  rcases h.mf with h1 | ⟨fn, h1, h2, _⟩
  ·
   exact .inl h1
  ·
   exact .inr ⟨fn, h1, h2⟩) h.up t8 h.at8 h.take
 rw [madeP_eq h hq, h.mt, h.mc, ← h.turn] at this
 exact this
theorem made_any (r : RulesD) (A : Option Addr) (cp : Nat) (p : Pos) (m : Mv) (q : Pos) (W : World) (ho : OfOk r p) (hm : m ∈ everyL r p) (hq : madeP r p m = q) :
  Calls Tryz.prog 57 #[.agg #[.int .i64 r.start.w, .int .i64 r.start.h, .string r.start.cells, .int .i64 r.start.turn, .string r.start.h0, .string r.start.h1, .slice A r.pieces.length cp, .bool r.drops, .int .u8 r.lose, .int .i64 r.line, .int .u8 r.reach, .bool r.stuck, .int .i64 r.plies], .agg #[.int .i64 p.w, .int .i64 p.h, .string p.cells, .int .i64 p.turn, .string p.h0, .string p.h1], .agg #[.int .i64 m.f, .int .i64 m.t, .int .u8 m.c]] W fun e w' => e = .returned (.agg #[.int .i64 q.w, .int .i64 q.h, .string q.cells, .int .i64 q.turn, .string q.h0, .string q.h1]) ∧ Later W w' := by
 obtain ⟨tn, H, t8, h⟩ := mk_ok ho hm
 have := made_core r A cp p.w p.h p.cells tn p.h0 p.h1 m.f m.t.toNat (u8 m.c) W H h.tn1 h.hand h.mtl h.c64 h.h8 h.mf h.up t8 h.at8
 rw [madeP_eq h hq, h.mt, h.mc, ← h.turn] at this
 exact this
end Go.Proofs.YtcdfeaodfmfdnaaGreatDoor
/- moves.Moves, moves.Outcome, moves.Apply -/
namespace Go.Proofs.YtcdfeaodfmfdnaaGreatDoor
open Go.RowKit

set_option maxHeartbeats 2000000 in
set_option maxRecDepth 100000 in
theorem mm_no (r : RulesD) (A : Option Addr) (cp : Nat) (p : Pos) (W : World) (hf : RFit r) (hg : PFit p) (hP : PiecesAt W W.heap.size A r.pieces) (hno : ¬ OfOk r p) :
  Calls Tryz.prog 95 #[.agg #[.int .i64 r.start.w, .int .i64 r.start.h, .string r.start.cells, .int .i64 r.start.turn, .string r.start.h0, .string r.start.h1, .slice A r.pieces.length cp, .bool r.drops, .int .u8 r.lose, .int .i64 r.line, .int .u8 r.reach, .bool r.stuck, .int .i64 r.plies], .agg #[.int .i64 p.w, .int .i64 p.h, .string p.cells, .int .i64 p.turn, .string p.h0, .string p.h1]] W fun e w' => e = .returned (.tuple #[.slice none 0 0, .int .i64 1]) ∧ Later W w' := by
 have Hw := hide (show Later W ((W.alloc (.cells #[.int .i64 r.start.w, .int .i64 r.start.h, .string r.start.cells, .int .i64 r.start.turn, .string r.start.h0, .string r.start.h1, .slice A r.pieces.length cp, .bool r.drops, .int .u8 r.lose, .int .i64 r.line, .int .u8 r.reach, .bool r.stuck, .int .i64 r.plies] 27)).alloc (.cells #[.int .i64 p.w, .int .i64 p.h, .string p.cells, .int .i64 p.turn, .string p.h0, .string p.h1] 24)) from (Later.rfl.alloc _).alloc _)
 have Hof := hide (fun w (hw : Later W w) => mof_any r A cp p w hf hg ((hP.below hw).more hw.size))
 rw [ofB_false.2 hno, codeN_f] at Hof
 clear hf hg hP hno
 go_enter Tryz.func95, Tryz.ntmps95
 go_wp2_with (go_at_call 123; refine (Hof.out _ Hw.out).mono ?_; rintro e w2 ⟨rfl, hw2⟩)
 go_ret2
 exact ⟨rfl, Hw.out.trans hw2⟩
set_option maxHeartbeats 2000000 in
set_option maxRecDepth 100000 in
theorem mm_ok (r : RulesD) (A : Option Addr) (cp : Nat) (p : Pos) (W : World) (hf : RFit r) (hg : PFit p) (hP : PiecesAt W W.heap.size A r.pieces) (hok : OfOk r p) :
  Calls Tryz.prog 95 #[.agg #[.int .i64 r.start.w, .int .i64 r.start.h, .string r.start.cells, .int .i64 r.start.turn, .string r.start.h0, .string r.start.h1, .slice A r.pieces.length cp, .bool r.drops, .int .u8 r.lose, .int .i64 r.line, .int .u8 r.reach, .bool r.stuck, .int .i64 r.plies], .agg #[.int .i64 p.w, .int .i64 p.h, .string p.cells, .int .i64 p.turn, .string p.h0, .string p.h1]] W fun e w' => ∃ A' c', e = .returned (.tuple #[.slice A' (movesL r p).length c', .int .i64 0]) ∧ Cells w' w'.heap.size A' (cellsM (movesL r p)) ∧ Later W w' := by
 have Hbr := hide ((Blk.new W 27 #[.int .i64 r.start.w, .int .i64 r.start.h, .string r.start.cells, .int .i64 r.start.turn, .string r.start.h0, .string r.start.h1, .slice A r.pieces.length cp, .bool r.drops, .int .u8 r.lose, .int .i64 r.line, .int .u8 r.reach, .bool r.stuck, .int .i64 r.plies]).alloc (.cells #[.int .i64 p.w, .int .i64 p.h, .string p.cells, .int .i64 p.turn, .string p.h0, .string p.h1] 24))
 have hbp := (Blk.new (W.alloc (.cells #[.int .i64 r.start.w, .int .i64 r.start.h, .string r.start.cells, .int .i64 r.start.turn, .string r.start.h0, .string r.start.h1, .slice A r.pieces.length cp, .bool r.drops, .int .u8 r.lose, .int .i64 r.line, .int .u8 r.reach, .bool r.stuck, .int .i64 r.plies] 27)) 24 #[.int .i64 p.w, .int .i64 p.h, .string p.cells, .int .i64 p.turn, .string p.h0, .string p.h1])
 rw [World.size_alloc] at hbp
 have Hbp := hide hbp
 have Hw := hide (show Later W ((W.alloc (.cells #[.int .i64 r.start.w, .int .i64 r.start.h, .string r.start.cells, .int .i64 r.start.turn, .string r.start.h0, .string r.start.h1, .slice A r.pieces.length cp, .bool r.drops, .int .u8 r.lose, .int .i64 r.line, .int .u8 r.reach, .bool r.stuck, .int .i64 r.plies] 27)).alloc (.cells #[.int .i64 p.w, .int .i64 p.h, .string p.cells, .int .i64 p.turn, .string p.h0, .string p.h1] 24)) from (Later.rfl.alloc _).alloc _)
 have Hof := hide (fun w (hw : Later W w) => mof_any r A cp p w hf hg ((hP.below hw).more hw.size))
 have Hou := hide (fun w (hw : Later W w) => outcome_any r A cp p w ((hok.pre hP).on hw))
 rw [ofB_true.2 hok, codeN_t] at Hof
 clear hf hg hP hok hbp
 go_enter Tryz.func95, Tryz.ntmps95
 go_wp2_with (first
  | (go_at_call 123; refine (Hof.out _ Hw.out).mono ?_; rintro e w2 ⟨rfl, hw2⟩; obtain ⟨y0, y1, y2, y3, y4, y5, y6, y7, y8, y9, y10, y11, y12⟩ := (hw2.blk Hbr.out).rules; obtain ⟨z0, z1, z2, z3, z4, z5⟩ := (hw2.blk Hbp.out).pos6)
  | (go_at_call 124; refine (Hou.out _ (Hw.out.trans hw2)).mono ?_; rintro e w3 ⟨A', c', rfl, h1, h2, h3, h4⟩))
 go_ret2
 exact ⟨A', c', rfl, h2, (Hw.out.trans hw2).trans h4⟩
set_option maxHeartbeats 2000000 in
set_option maxRecDepth 100000 in
theorem mo_ok (r : RulesD) (A : Option Addr) (cp : Nat) (p : Pos) (W : World) (hf : RFit r) (hg : PFit p) (hP : PiecesAt W W.heap.size A r.pieces) (hok : OfOk r p) :
  Calls Tryz.prog 106 #[.agg #[.int .i64 r.start.w, .int .i64 r.start.h, .string r.start.cells, .int .i64 r.start.turn, .string r.start.h0, .string r.start.h1, .slice A r.pieces.length cp, .bool r.drops, .int .u8 r.lose, .int .i64 r.line, .int .u8 r.reach, .bool r.stuck, .int .i64 r.plies], .agg #[.int .i64 p.w, .int .i64 p.h, .string p.cells, .int .i64 p.turn, .string p.h0, .string p.h1]] W fun e w' => e = .returned (.tuple #[.int .i64 (endsN r p), .int .i64 0]) ∧ Later W w' := by
 have Hbr := hide ((Blk.new W 27 #[.int .i64 r.start.w, .int .i64 r.start.h, .string r.start.cells, .int .i64 r.start.turn, .string r.start.h0, .string r.start.h1, .slice A r.pieces.length cp, .bool r.drops, .int .u8 r.lose, .int .i64 r.line, .int .u8 r.reach, .bool r.stuck, .int .i64 r.plies]).alloc (.cells #[.int .i64 p.w, .int .i64 p.h, .string p.cells, .int .i64 p.turn, .string p.h0, .string p.h1] 24))
 have hbp := (Blk.new (W.alloc (.cells #[.int .i64 r.start.w, .int .i64 r.start.h, .string r.start.cells, .int .i64 r.start.turn, .string r.start.h0, .string r.start.h1, .slice A r.pieces.length cp, .bool r.drops, .int .u8 r.lose, .int .i64 r.line, .int .u8 r.reach, .bool r.stuck, .int .i64 r.plies] 27)) 24 #[.int .i64 p.w, .int .i64 p.h, .string p.cells, .int .i64 p.turn, .string p.h0, .string p.h1])
 rw [World.size_alloc] at hbp
 have Hbp := hide hbp
 have Hw := hide (show Later W ((W.alloc (.cells #[.int .i64 r.start.w, .int .i64 r.start.h, .string r.start.cells, .int .i64 r.start.turn, .string r.start.h0, .string r.start.h1, .slice A r.pieces.length cp, .bool r.drops, .int .u8 r.lose, .int .i64 r.line, .int .u8 r.reach, .bool r.stuck, .int .i64 r.plies] 27)).alloc (.cells #[.int .i64 p.w, .int .i64 p.h, .string p.cells, .int .i64 p.turn, .string p.h0, .string p.h1] 24)) from (Later.rfl.alloc _).alloc _)
 have Hof := hide (fun w (hw : Later W w) => mof_any r A cp p w hf hg ((hP.below hw).more hw.size))
 have Hou := hide (fun w (hw : Later W w) => outcome_any r A cp p w ((hok.pre hP).on hw))
 rw [ofB_true.2 hok, codeN_t] at Hof
 clear hf hg hP hok hbp
 go_enter Tryz.func106, Tryz.ntmps106
 go_wp2_with (first
  | (go_at_call 123; refine (Hof.out _ Hw.out).mono ?_; rintro e w2 ⟨rfl, hw2⟩; obtain ⟨y0, y1, y2, y3, y4, y5, y6, y7, y8, y9, y10, y11, y12⟩ := (hw2.blk Hbr.out).rules; obtain ⟨z0, z1, z2, z3, z4, z5⟩ := (hw2.blk Hbp.out).pos6)
  | (go_at_call 124; refine (Hou.out _ (Hw.out.trans hw2)).mono ?_; rintro e w3 ⟨A', c', rfl, h1, h2, h3, h4⟩))
 go_ret2
 exact ⟨rfl, (Hw.out.trans hw2).trans h4⟩
end Go.Proofs.YtcdfeaodfmfdnaaGreatDoor
/- moves.Apply -/
namespace Go.Proofs.YtcdfeaodfmfdnaaGreatDoor
open Go.RowKit

set_option maxHeartbeats 4000000 in
set_option maxRecDepth 100000 in
theorem ma_no (r : RulesD) (A : Option Addr) (cp : Nat) (p : Pos) (m : Mv) (W : World) (hf : RFit r) (hg : PFit p) (hP : PiecesAt W W.heap.size A r.pieces) (hno : ¬ OfOk r p) :
  Calls Tryz.prog 53 #[.agg #[.int .i64 r.start.w, .int .i64 r.start.h, .string r.start.cells, .int .i64 r.start.turn, .string r.start.h0, .string r.start.h1, .slice A r.pieces.length cp, .bool r.drops, .int .u8 r.lose, .int .i64 r.line, .int .u8 r.reach, .bool r.stuck, .int .i64 r.plies], .agg #[.int .i64 p.w, .int .i64 p.h, .string p.cells, .int .i64 p.turn, .string p.h0, .string p.h1], .agg #[.int .i64 m.f, .int .i64 m.t, .int .u8 m.c]] W fun e w' => e = .returned (.tuple #[.agg #[.int .i64 0, .int .i64 0, .string ⟨#[]⟩, .int .i64 0, .string ⟨#[]⟩, .string ⟨#[]⟩], .int .i64 1]) ∧ Later W w' := by
 have Hst := hide (ApSt.first (W := W) (R := #[.int .i64 r.start.w, .int .i64 r.start.h, .string r.start.cells, .int .i64 r.start.turn, .string r.start.h0, .string r.start.h1, .slice A r.pieces.length cp, .bool r.drops, .int .u8 r.lose, .int .i64 r.line, .int .u8 r.reach, .bool r.stuck, .int .i64 r.plies]) (P := #[.int .i64 p.w, .int .i64 p.h, .string p.cells, .int .i64 p.turn, .string p.h0, .string p.h1]) (M := #[.int .i64 m.f, .int .i64 m.t, .int .u8 m.c]) (Z := #[.int .i64 0, .int .i64 0, .string ⟨#[]⟩, .int .i64 0, .string ⟨#[]⟩, .string ⟨#[]⟩]))
 have Hmm := hide (fun w (hw : Later W w) => mm_no r A cp p w hf hg ((hP.below hw).more hw.size) hno)
 clear hf hg hP hno
 go_enter Tryz.func53, Tryz.ntmps53
 go_upto_region 1 with (fail)
 obtain ⟨w0, hw0⟩ : ∃ w0, ((((W.alloc (.cells #[.int .i64 r.start.w, .int .i64 r.start.h, .string r.start.cells, .int .i64 r.start.turn, .string r.start.h0, .string r.start.h1, .slice A r.pieces.length cp, .bool r.drops, .int .u8 r.lose, .int .i64 r.line, .int .u8 r.reach, .bool r.stuck, .int .i64 r.plies] 27)).alloc (.cells #[.int .i64 p.w, .int .i64 p.h, .string p.cells, .int .i64 p.turn, .string p.h0, .string p.h1] 24)).alloc (.cells #[.int .i64 m.f, .int .i64 m.t, .int .u8 m.c] 101)).alloc (.cells #[.int .i64 0, .int .i64 0, .string ⟨#[]⟩, .int .i64 0, .string ⟨#[]⟩, .string ⟨#[]⟩] 24)) = w0 := ⟨_, rfl⟩
 rw [hw0] at Hst ⊢
 clear hw0
 obtain ⟨x0, x1, x2, x3, x4, x5, x6, x7, x8, x9, x10, x11, x12⟩ := Hst.out.r.rules
 obtain ⟨p0, p1, p2, p3, p4, p5⟩ := Hst.out.p.pos6
 go_upto_region 3 with (go_at_call 95; refine (Hmm.out _ Hst.out.later).mono ?_; rintro e w2 ⟨rfl, hw2⟩)
 have Hst2 := hide (Hst.out.later_ hw2)
 clear hw2 Hst x0 x1 x2 x3 x4 x5 x6 x7 x8 x9 x10 x11 x12 p0 p1 p2 p3 p4 p5
 obtain ⟨z0, z1, z2, z3, z4, z5⟩ := Hst2.out.z.pos6
 have f0 := Hst2.out.z.free 0
 have f1 := Hst2.out.z.free 1
 have f2 := Hst2.out.z.free 2
 have f3 := Hst2.out.z.free 3
 have f4 := Hst2.out.z.free 4
 have f5 := Hst2.out.z.free 5
 have HL := hide Hst2.out.later
 clear Hst2
 go_wp2_with fail
 refine bodyPost_ret (v := .tuple #[.agg #[.int .i64 0, .int .i64 0, .string ⟨#[]⟩, .int .i64 0, .string ⟨#[]⟩, .string ⟨#[]⟩], .int .i64 1]) (by simp [results, Tryz.results53, go_sem, z0, z1, z2, z3, z4, z5]) rfl ⟨rfl, ?_⟩
 repeat (first | with_reducible exact HL.out | (with_reducible refine Later.set ?_ (by simp; omega) _))
set_option maxHeartbeats 4000000 in
set_option maxRecDepth 100000 in
theorem ma_out (r : RulesD) (A : Option Addr) (cp : Nat) (p : Pos) (m : Mv) (W : World) (hf : RFit r) (hg : PFit p) (hP : PiecesAt W W.heap.size A r.pieces) (hok : OfOk r p) (hm : m ∉ movesL r p) :
  Calls Tryz.prog 53 #[.agg #[.int .i64 r.start.w, .int .i64 r.start.h, .string r.start.cells, .int .i64 r.start.turn, .string r.start.h0, .string r.start.h1, .slice A r.pieces.length cp, .bool r.drops, .int .u8 r.lose, .int .i64 r.line, .int .u8 r.reach, .bool r.stuck, .int .i64 r.plies], .agg #[.int .i64 p.w, .int .i64 p.h, .string p.cells, .int .i64 p.turn, .string p.h0, .string p.h1], .agg #[.int .i64 m.f, .int .i64 m.t, .int .u8 m.c]] W fun e w' => e = .returned (.tuple #[.agg #[.int .i64 0, .int .i64 0, .string ⟨#[]⟩, .int .i64 0, .string ⟨#[]⟩, .string ⟨#[]⟩], .int .i64 5]) ∧ Later W w' := by
 have Hst := hide (ApSt.first (W := W) (R := #[.int .i64 r.start.w, .int .i64 r.start.h, .string r.start.cells, .int .i64 r.start.turn, .string r.start.h0, .string r.start.h1, .slice A r.pieces.length cp, .bool r.drops, .int .u8 r.lose, .int .i64 r.line, .int .u8 r.reach, .bool r.stuck, .int .i64 r.plies]) (P := #[.int .i64 p.w, .int .i64 p.h, .string p.cells, .int .i64 p.turn, .string p.h0, .string p.h1]) (M := #[.int .i64 m.f, .int .i64 m.t, .int .u8 m.c]) (Z := #[.int .i64 0, .int .i64 0, .string ⟨#[]⟩, .int .i64 0, .string ⟨#[]⟩, .string ⟨#[]⟩]))
 have Hmm := hide (fun w (hw : Later W w) => mm_ok r A cp p w hf hg ((hP.below hw).more hw.size) hok)
 have Hlen := hide (show (movesL r p).length ≤ 9223372036854775807 by have := movesL_len (r := r) hok.pos; omega)
 have Hm := hide (show decide (m ∈ movesL r p) = false from decide_eq_false hm)
 clear hm
 clear hf hg hP hok
 go_enter Tryz.func53, Tryz.ntmps53
 go_upto_region 1 with (fail)
 obtain ⟨w0, hw0⟩ : ∃ w0, ((((W.alloc (.cells #[.int .i64 r.start.w, .int .i64 r.start.h, .string r.start.cells, .int .i64 r.start.turn, .string r.start.h0, .string r.start.h1, .slice A r.pieces.length cp, .bool r.drops, .int .u8 r.lose, .int .i64 r.line, .int .u8 r.reach, .bool r.stuck, .int .i64 r.plies] 27)).alloc (.cells #[.int .i64 p.w, .int .i64 p.h, .string p.cells, .int .i64 p.turn, .string p.h0, .string p.h1] 24)).alloc (.cells #[.int .i64 m.f, .int .i64 m.t, .int .u8 m.c] 101)).alloc (.cells #[.int .i64 0, .int .i64 0, .string ⟨#[]⟩, .int .i64 0, .string ⟨#[]⟩, .string ⟨#[]⟩] 24)) = w0 := ⟨_, rfl⟩
 rw [hw0] at Hst ⊢
 clear hw0
 obtain ⟨x0, x1, x2, x3, x4, x5, x6, x7, x8, x9, x10, x11, x12⟩ := Hst.out.r.rules
 obtain ⟨p0, p1, p2, p3, p4, p5⟩ := Hst.out.p.pos6
 go_upto_region 4 with (go_at_call 95; refine (Hmm.out _ Hst.out.later).mono ?_; rintro e w2 ⟨A', c', rfl, hc2, hw2⟩)
 have Hst2 := hide (Hst.out.later_ hw2)
 have Hco := hide (contains_mv A' c' (movesL r p) m w2 Hlen.out hc2)
 clear hw2 hc2 Hst x0 x1 x2 x3 x4 x5 x6 x7 x8 x9 x10 x11 x12 p0 p1 p2 p3 p4 p5
 obtain ⟨⟨m0, m1, m2⟩, -⟩ := Hst2.out.m.mv
 rw [Hm.out] at Hco
 go_upto_region 5 with (go_at_call 97; refine Hco.out.mono ?_; rintro e w3 ⟨rfl, hw3⟩)
 have Hst3 := hide (Hst2.out.later_ hw3)
 clear Hst2 hw3 m0 m1 m2
 obtain ⟨z0, z1, z2, z3, z4, z5⟩ := Hst3.out.z.pos6
 have f0 := Hst3.out.z.free 0
 have f1 := Hst3.out.z.free 1
 have f2 := Hst3.out.z.free 2
 have f3 := Hst3.out.z.free 3
 have f4 := Hst3.out.z.free 4
 have f5 := Hst3.out.z.free 5
 have HL := hide Hst3.out.later
 clear Hst3
 go_wp2_with fail
 refine bodyPost_ret (v := .tuple #[.agg #[.int .i64 0, .int .i64 0, .string ⟨#[]⟩, .int .i64 0, .string ⟨#[]⟩, .string ⟨#[]⟩], .int .i64 5]) (by simp [results, Tryz.results53, go_sem, z0, z1, z2, z3, z4, z5]) rfl ⟨rfl, ?_⟩
 repeat (first | with_reducible exact HL.out | (with_reducible refine Later.set ?_ (by simp; omega) _))
set_option maxHeartbeats 4000000 in
set_option maxRecDepth 100000 in
theorem ma_ok (r : RulesD) (A : Option Addr) (cp : Nat) (p : Pos) (m : Mv) (q : Pos) (W : World) (hf : RFit r) (hg : PFit p) (hP : PiecesAt W W.heap.size A r.pieces) (hok : OfOk r p) (hm : m ∈ movesL r p) (hq : madeP r p m = q) :
  Calls Tryz.prog 53 #[.agg #[.int .i64 r.start.w, .int .i64 r.start.h, .string r.start.cells, .int .i64 r.start.turn, .string r.start.h0, .string r.start.h1, .slice A r.pieces.length cp, .bool r.drops, .int .u8 r.lose, .int .i64 r.line, .int .u8 r.reach, .bool r.stuck, .int .i64 r.plies], .agg #[.int .i64 p.w, .int .i64 p.h, .string p.cells, .int .i64 p.turn, .string p.h0, .string p.h1], .agg #[.int .i64 m.f, .int .i64 m.t, .int .u8 m.c]] W fun e w' => e = .returned (.tuple #[.agg #[.int .i64 q.w, .int .i64 q.h, .string q.cells, .int .i64 q.turn, .string q.h0, .string q.h1], .int .i64 0]) ∧ Later W w' := by
 have Hst := hide (ApSt.first (W := W) (R := #[.int .i64 r.start.w, .int .i64 r.start.h, .string r.start.cells, .int .i64 r.start.turn, .string r.start.h0, .string r.start.h1, .slice A r.pieces.length cp, .bool r.drops, .int .u8 r.lose, .int .i64 r.line, .int .u8 r.reach, .bool r.stuck, .int .i64 r.plies]) (P := #[.int .i64 p.w, .int .i64 p.h, .string p.cells, .int .i64 p.turn, .string p.h0, .string p.h1]) (M := #[.int .i64 m.f, .int .i64 m.t, .int .u8 m.c]) (Z := #[.int .i64 0, .int .i64 0, .string ⟨#[]⟩, .int .i64 0, .string ⟨#[]⟩, .string ⟨#[]⟩]))
 have Hmm := hide (fun w (hw : Later W w) => mm_ok r A cp p w hf hg ((hP.below hw).more hw.size) hok)
 have Hlen := hide (show (movesL r p).length ≤ 9223372036854775807 by have := movesL_len (r := r) hok.pos; omega)
 have Hm := hide (show decide (m ∈ movesL r p) = true from decide_eq_true hm)
 have Hap := hide (fun w => apply_any r A cp p m q w hok (moves_every hm) hq)
 clear hm hq
 clear hf hg hP hok
 go_enter Tryz.func53, Tryz.ntmps53
 go_upto_region 1 with (fail)
 obtain ⟨w0, hw0⟩ : ∃ w0, ((((W.alloc (.cells #[.int .i64 r.start.w, .int .i64 r.start.h, .string r.start.cells, .int .i64 r.start.turn, .string r.start.h0, .string r.start.h1, .slice A r.pieces.length cp, .bool r.drops, .int .u8 r.lose, .int .i64 r.line, .int .u8 r.reach, .bool r.stuck, .int .i64 r.plies] 27)).alloc (.cells #[.int .i64 p.w, .int .i64 p.h, .string p.cells, .int .i64 p.turn, .string p.h0, .string p.h1] 24)).alloc (.cells #[.int .i64 m.f, .int .i64 m.t, .int .u8 m.c] 101)).alloc (.cells #[.int .i64 0, .int .i64 0, .string ⟨#[]⟩, .int .i64 0, .string ⟨#[]⟩, .string ⟨#[]⟩] 24)) = w0 := ⟨_, rfl⟩
 rw [hw0] at Hst ⊢
 clear hw0
 obtain ⟨x0, x1, x2, x3, x4, x5, x6, x7, x8, x9, x10, x11, x12⟩ := Hst.out.r.rules
 obtain ⟨p0, p1, p2, p3, p4, p5⟩ := Hst.out.p.pos6
 go_upto_region 4 with (go_at_call 95; refine (Hmm.out _ Hst.out.later).mono ?_; rintro e w2 ⟨A', c', rfl, hc2, hw2⟩)
 have Hst2 := hide (Hst.out.later_ hw2)
 have Hco := hide (contains_mv A' c' (movesL r p) m w2 Hlen.out hc2)
 clear hw2 hc2 Hst x0 x1 x2 x3 x4 x5 x6 x7 x8 x9 x10 x11 x12 p0 p1 p2 p3 p4 p5
 obtain ⟨⟨m0, m1, m2⟩, -⟩ := Hst2.out.m.mv
 rw [Hm.out] at Hco
 go_upto_region 6 with (go_at_call 97; refine Hco.out.mono ?_; rintro e w3 ⟨rfl, hw3⟩)
 have Hst3 := hide (Hst2.out.later_ hw3)
 clear Hst2 hw3 m0 m1 m2
 obtain ⟨x0, x1, x2, x3, x4, x5, x6, x7, x8, x9, x10, x11, x12⟩ := Hst3.out.r.rules
 obtain ⟨p0, p1, p2, p3, p4, p5⟩ := Hst3.out.p.pos6
 obtain ⟨⟨m0, m1, m2⟩, -⟩ := Hst3.out.m.mv
 go_wp2_with (go_at_call 98; refine (Hap.out _).mono ?_; rintro e w4 ⟨rfl, hw4⟩; have Hst4 := hide (Hst3.out.later_ hw4); obtain ⟨z0, z1, z2, z3, z4, z5⟩ := Hst4.out.z.pos6; have f0 := Hst4.out.z.free 0; have f1 := Hst4.out.z.free 1; have f2 := Hst4.out.z.free 2; have f3 := Hst4.out.z.free 3; have f4 := Hst4.out.z.free 4; have f5 := Hst4.out.z.free 5; have HL := hide Hst4.out.later; clear hw4 Hst4 Hst3 m0 m1 m2 p0 p1 p2 p3 p4 p5 x0 x1 x2 x3 x4 x5 x6 x7 x8 x9 x10 x11 x12)
 refine bodyPost_ret (v := .tuple #[.agg #[.int .i64 q.w, .int .i64 q.h, .string q.cells, .int .i64 q.turn, .string q.h0, .string q.h1], .int .i64 0]) (by simp [results, Tryz.results53, go_sem, z0, z1, z2, z3, z4, z5]) rfl ⟨rfl, ?_⟩
 repeat (first | with_reducible exact HL.out | (with_reducible refine Later.set ?_ (by simp; omega) _))
end Go.Proofs.YtcdfeaodfmfdnaaGreatDoor
