/- The rules and the moves of a position, asked from outside; moves.Next; maps as lists; the ways to move are counted; the text of a move, written and read. -/
import Derived.Test.YtdfegpohmaideaaGreatDoorRuRules2
import Derived.Test.YtdfegpohmaideaaGreatDoorMvHas
import Derived.Test.YtdfegpohmaideaaGreatDoorMvEnds
import Derived.Test.YtdfegpohmaideaaGreatDoorMvSort
import Derived.Test.YtdfegpohmaideaaGreatDoorGen
import Derived.Test.YtdfegpohmaideaaGreatDoorRows
import Derived.Test.YtdfegpohmaideaaGreatDoorMvOut
import Derived.Test.YtdfegpohmaideaaGreatDoorMgMake
import Derived.OwnWalk
import Derived.Maps.RangeWalk
import Derived.Maps.OwnSet
import Derived.DeepKeys4
import Derived.Test.YtdfegpohmaideaaGreatDoorBase
import Derived.WideKeyEntry
import Derived.Test.YtdfegpohmaideaaGreatDoorRuPiece
import Derived.Test.YtdfegpohmaideaaGreatDoorBoardCheck
import Derived.Test.YtdfegpohmaideaaGreatDoorMadePlain
import Derived.BigRegion
import Derived.Deep.CutRange
import Derived.Deep.RegionHeld
/- The rules and the moves of a position, asked from outside. -/
/- gameref.Of, moves.Of -/
namespace Go.Proofs.YtdfegpohmaideaaGreatDoor
open Go.RowKit

/-- a position as it comes in: no text is too long -/
structure PFit (p : Pos) : Prop where
  c : p.cells.size ≤ 9223372036854775807
  h0 : p.h0.size ≤ 9223372036854775807
  h1 : p.h1.size ≤ 9223372036854775807
theorem gof_no {r : RulesD} {p : Pos} (h : ¬ OfOk r p) : Ending.returned (.bool false) = .returned (.bool (ofB r p)) := by rw [ofB_false.2 h]
theorem gof_yes {r : RulesD} {p : Pos} (h : OfOk r p) : Ending.returned (.bool true) = .returned (.bool (ofB r p)) := by rw [ofB_true.2 h]
theorem mof_no {r : RulesD} {p : Pos} (h : ¬ OfOk r p) : Ending.returned (.int .i64 1) = .returned (.int .i64 (codeN (ofB r p))) := by rw [ofB_false.2 h]; rfl
theorem mof_yes {r : RulesD} {p : Pos} (h : OfOk r p) : Ending.returned (.int .i64 0) = .returned (.int .i64 (codeN (ofB r p))) := by rw [ofB_true.2 h]; rfl
theorem codeN_f : codeN false = 1 := rfl
theorem codeN_t : codeN true = 0 := rfl

set_option maxHeartbeats 4000000 in
set_option maxRecDepth 100000 in
theorem gof_any (r : RulesD) (A : Option Addr) (cp : Nat) (p : Pos) (W : World) (hf : RFit r) (hg : PFit p) (hP : PiecesAt W W.heap.size A r.pieces) :
    Calls Tryz.prog 7 #[.agg #[.int .i64 r.start.w, .int .i64 r.start.h, .string r.start.cells, .int .i64 r.start.turn, .string r.start.h0, .string r.start.h1, .slice A r.pieces.length cp, .bool r.drops, .int .u8 r.lose, .int .i64 r.line, .int .u8 r.reach, .bool r.stuck, .int .i64 r.plies], .agg #[.int .i64 p.w, .int .i64 p.h, .string p.cells, .int .i64 p.turn, .string p.h0, .string p.h1]] W fun e w' => e = .returned (.bool (ofB r p)) ∧ Later W w' := by
  have Hbr := hide ((Blk.new W 27 #[.int .i64 r.start.w, .int .i64 r.start.h, .string r.start.cells, .int .i64 r.start.turn, .string r.start.h0, .string r.start.h1, .slice A r.pieces.length cp, .bool r.drops, .int .u8 r.lose, .int .i64 r.line, .int .u8 r.reach, .bool r.stuck, .int .i64 r.plies]).alloc (.cells #[.int .i64 p.w, .int .i64 p.h, .string p.cells, .int .i64 p.turn, .string p.h0, .string p.h1] 24))
  have hbp := (Blk.new (W.alloc (.cells #[.int .i64 r.start.w, .int .i64 r.start.h, .string r.start.cells, .int .i64 r.start.turn, .string r.start.h0, .string r.start.h1, .slice A r.pieces.length cp, .bool r.drops, .int .u8 r.lose, .int .i64 r.line, .int .u8 r.reach, .bool r.stuck, .int .i64 r.plies] 27)) 24 #[.int .i64 p.w, .int .i64 p.h, .string p.cells, .int .i64 p.turn, .string p.h0, .string p.h1])
  rw [World.size_alloc] at hbp
  have Hbp := hide hbp
  have Hw := hide (show Later W ((W.alloc (.cells #[.int .i64 r.start.w, .int .i64 r.start.h, .string r.start.cells, .int .i64 r.start.turn, .string r.start.h0, .string r.start.h1, .slice A r.pieces.length cp, .bool r.drops, .int .u8 r.lose, .int .i64 r.line, .int .u8 r.reach, .bool r.stuck, .int .i64 r.plies] 27)).alloc (.cells #[.int .i64 p.w, .int .i64 p.h, .string p.cells, .int .i64 p.turn, .string p.h0, .string p.h1] 24)) from (Later.rfl.alloc _).alloc _)
  have HR := hide (fun w (hw : Later W w) => rules_any r A cp w hf ((hP.below hw).more hw.size))
  have HL := hide (fun s (hs : s.size ≤ 9223372036854775807) w (hw : Later W w) => letters_any r A cp s w hs hf.n ((hP.below hw).more hw.size))
  have HC := hide (fun n hn w => pos_l p w hg.c hg.h0 hg.h1 n hn)
  have HB := hide (fun h => gof_no (r := r) (p := p) h)
  have HG := hide (fun h => gof_yes (r := r) (p := p) h)
  clear hf hg hP hbp
  go_enter Tryz.func7, Tryz.ntmps7
  go_upto_region 1 with (fail)
  obtain ⟨w0, hw0⟩ : ∃ w0, (W.alloc (.cells #[.int .i64 r.start.w, .int .i64 r.start.h, .string r.start.cells, .int .i64 r.start.turn, .string r.start.h0, .string r.start.h1, .slice A r.pieces.length cp, .bool r.drops, .int .u8 r.lose, .int .i64 r.line, .int .u8 r.reach, .bool r.stuck, .int .i64 r.plies] 27)).alloc (.cells #[.int .i64 p.w, .int .i64 p.h, .string p.cells, .int .i64 p.turn, .string p.h0, .string p.h1] 24) = w0 := ⟨_, rfl⟩
  rw [hw0] at Hbr Hbp Hw ⊢
  clear hw0
  obtain ⟨b, hb⟩ : ∃ b, rulesB r = b := ⟨_, rfl⟩
  rw [hb] at HR
  obtain ⟨x0, x1, x2, x3, x4, x5, x6, x7, x8, x9, x10, x11, x12⟩ := Hbr.out.rules
  cases b
  case false =>
    have Hbad := hide (HB.out (fun h => rulesB_false.1 hb h.rules))
    clear hb
    go_wp2_with (go_at_call 17; refine (HR.out _ Hw.out).mono ?_; rintro e w2 ⟨rfl, hw2⟩)
    go_ret
    exact ⟨by rw [← Hbad.out] <;> rfl, Hw.out.trans hw2⟩
  have Hrul := hide (rulesB_true.1 hb)
  clear hb
  by_cases hp : PosOk p
  case neg =>
    have Hbad := hide (HB.out (fun h => hp h.pos))
    have HC0 := hide (HC.out false ⟨fun h => absurd h hp, fun _ => rfl⟩)
    clear hp
    go_wp2_with (first
      | (go_at_call 17; refine (HR.out _ Hw.out).mono ?_; rintro e w2 ⟨rfl, hw2⟩; obtain ⟨y0, y1, y2, y3, y4, y5, y6, y7, y8, y9, y10, y11, y12⟩ := (hw2.blk Hbr.out).rules; obtain ⟨q0, q1, q2, q3, q4, q5⟩ := (hw2.blk Hbp.out).pos6)
      | (go_at_call 18; refine (HC0.out _).mono ?_; rintro e w3 ⟨rfl, hw3⟩))
    go_ret
    exact ⟨by rw [← Hbad.out] <;> rfl, (Hw.out.trans hw2).trans hw3⟩
  have HC1 := hide (HC.out true ⟨fun _ => rfl, fun h => absurd hp h⟩)
  obtain ⟨s1, s2, s3⟩ := pos_small hp
  have Hpos := hide hp
  have hall2 : (p.cells ++ p.h0 ++ p.h1).data.toList = p.all := by unfold Pos.all; simp
  have hff := HL.out (p.cells ++ p.h0 ++ p.h1) (by simp; omega)
  obtain ⟨u, hu⟩ : ∃ u, fitsB r.pieces p.all = u := ⟨_, rfl⟩
  rw [hall2, hu] at hff
  have Hff := hide hff
  have s1' : p.cells.size ≤ 1000 := by omega
  have s2' : p.h0.size ≤ 1000 := by omega
  have s3' : p.h1.size ≤ 1000 := by omega
  clear hff hall2 s1 s2 s3 hp HC
  by_cases hw : p.w = r.start.w
  case neg =>
    have Hbad := hide (HB.out (fun h => hw h.w))
    have d1 : (p.w == r.start.w) = false := by simpa using hw
    clear hw hu
    go_wp2_with (first
      | (go_at_call 17; refine (HR.out _ Hw.out).mono ?_; rintro e w2 ⟨rfl, hw2⟩; obtain ⟨q0, q1, q2, q3, q4, q5⟩ := (hw2.blk Hbp.out).pos6)
      | (go_at_call 18; refine (HC1.out _).mono ?_; rintro e w3 ⟨rfl, hw3⟩; obtain ⟨z0, z1, z2, z3, z4, z5, z6, z7, z8, z9, z10, z11, z12⟩ := (hw3.blk (hw2.blk Hbr.out)).rules; obtain ⟨v0, v1, v2, v3, v4, v5⟩ := (hw3.blk (hw2.blk Hbp.out)).pos6))
    go_ret
    exact ⟨by rw [← Hbad.out] <;> rfl, (Hw.out.trans hw2).trans hw3⟩
  by_cases hh : p.h = r.start.h
  case neg =>
    have Hbad := hide (HB.out (fun h => hh h.h))
    have d1 : (p.w == r.start.w) = true := by simpa using hw
    have d2 : (p.h == r.start.h) = false := by simpa using hh
    clear hw hh hu
    go_wp2_with (first
      | (go_at_call 17; refine (HR.out _ Hw.out).mono ?_; rintro e w2 ⟨rfl, hw2⟩; obtain ⟨q0, q1, q2, q3, q4, q5⟩ := (hw2.blk Hbp.out).pos6)
      | (go_at_call 18; refine (HC1.out _).mono ?_; rintro e w3 ⟨rfl, hw3⟩; obtain ⟨z0, z1, z2, z3, z4, z5, z6, z7, z8, z9, z10, z11, z12⟩ := (hw3.blk (hw2.blk Hbr.out)).rules; obtain ⟨v0, v1, v2, v3, v4, v5⟩ := (hw3.blk (hw2.blk Hbp.out)).pos6))
    go_ret
    exact ⟨by rw [← Hbad.out] <;> rfl, (Hw.out.trans hw2).trans hw3⟩
  have d1 : (p.w == r.start.w) = true := by simpa using hw
  have d2 : (p.h == r.start.h) = true := by simpa using hh
  have Hend : Hid (Ending.returned (.bool u) = .returned (.bool (ofB r p))) := hide (by
    cases u
    · exact HB.out (fun h => fitsB_false.1 hu h.fits)
    · exact HG.out ⟨Hrul.out, Hpos.out, hw, hh, fitsB_true.1 hu⟩)
  clear hw hh hu
  go_wp2_with (first
    | (go_at_call 17; refine (HR.out _ Hw.out).mono ?_; rintro e w2 ⟨rfl, hw2⟩; obtain ⟨q0, q1, q2, q3, q4, q5⟩ := (hw2.blk Hbp.out).pos6)
    | (go_at_call 18; refine (HC1.out _).mono ?_; rintro e w3 ⟨rfl, hw3⟩; obtain ⟨z0, z1, z2, z3, z4, z5, z6, z7, z8, z9, z10, z11, z12⟩ := (hw3.blk (hw2.blk Hbr.out)).rules; obtain ⟨v0, v1, v2, v3, v4, v5⟩ := (hw3.blk (hw2.blk Hbp.out)).pos6)
    | (go_at_call 19; refine (Hff.out _ ((Hw.out.trans hw2).trans hw3)).mono ?_; rintro e w4 ⟨rfl, hw4⟩))
  go_ret
  exact ⟨by rw [← Hend.out] <;> rfl, ((Hw.out.trans hw2).trans hw3).trans hw4⟩

set_option maxHeartbeats 4000000 in
set_option maxRecDepth 100000 in
theorem mof_any (r : RulesD) (A : Option Addr) (cp : Nat) (p : Pos) (W : World) (hf : RFit r) (hg : PFit p) (hP : PiecesAt W W.heap.size A r.pieces) :
    Calls Tryz.prog 15 #[.agg #[.int .i64 r.start.w, .int .i64 r.start.h, .string r.start.cells, .int .i64 r.start.turn, .string r.start.h0, .string r.start.h1, .slice A r.pieces.length cp, .bool r.drops, .int .u8 r.lose, .int .i64 r.line, .int .u8 r.reach, .bool r.stuck, .int .i64 r.plies], .agg #[.int .i64 p.w, .int .i64 p.h, .string p.cells, .int .i64 p.turn, .string p.h0, .string p.h1]] W fun e w' => e = .returned (.int .i64 (codeN (ofB r p))) ∧ Later W w' := by
  have Hbr := hide ((Blk.new W 27 #[.int .i64 r.start.w, .int .i64 r.start.h, .string r.start.cells, .int .i64 r.start.turn, .string r.start.h0, .string r.start.h1, .slice A r.pieces.length cp, .bool r.drops, .int .u8 r.lose, .int .i64 r.line, .int .u8 r.reach, .bool r.stuck, .int .i64 r.plies]).alloc (.cells #[.int .i64 p.w, .int .i64 p.h, .string p.cells, .int .i64 p.turn, .string p.h0, .string p.h1] 24))
  have hbp := (Blk.new (W.alloc (.cells #[.int .i64 r.start.w, .int .i64 r.start.h, .string r.start.cells, .int .i64 r.start.turn, .string r.start.h0, .string r.start.h1, .slice A r.pieces.length cp, .bool r.drops, .int .u8 r.lose, .int .i64 r.line, .int .u8 r.reach, .bool r.stuck, .int .i64 r.plies] 27)) 24 #[.int .i64 p.w, .int .i64 p.h, .string p.cells, .int .i64 p.turn, .string p.h0, .string p.h1])
  rw [World.size_alloc] at hbp
  have Hbp := hide hbp
  have Hw := hide (show Later W ((W.alloc (.cells #[.int .i64 r.start.w, .int .i64 r.start.h, .string r.start.cells, .int .i64 r.start.turn, .string r.start.h0, .string r.start.h1, .slice A r.pieces.length cp, .bool r.drops, .int .u8 r.lose, .int .i64 r.line, .int .u8 r.reach, .bool r.stuck, .int .i64 r.plies] 27)).alloc (.cells #[.int .i64 p.w, .int .i64 p.h, .string p.cells, .int .i64 p.turn, .string p.h0, .string p.h1] 24)) from (Later.rfl.alloc _).alloc _)
  have HR := hide (fun w (hw : Later W w) => check_any r A cp w hf ((hP.below hw).more hw.size))
  have HL := hide (fun (hc : p.cells.size ≤ 1000) (h0 : p.h0.size ≤ 1000) (h1 : p.h1.size ≤ 1000) w (hw : Later W w) => fits_any r A cp p w hc h0 h1 hf.n ((hP.below hw).more hw.size))
  have HC := hide (fun n hn w => chk_l p w hg.c hg.h0 hg.h1 n hn)
  have HB := hide (fun h => mof_no (r := r) (p := p) h)
  have HG := hide (fun h => mof_yes (r := r) (p := p) h)
  clear hf hg hP hbp
  go_enter Tryz.func15, Tryz.ntmps15
  go_upto_region 1 with (fail)
  obtain ⟨w0, hw0⟩ : ∃ w0, (W.alloc (.cells #[.int .i64 r.start.w, .int .i64 r.start.h, .string r.start.cells, .int .i64 r.start.turn, .string r.start.h0, .string r.start.h1, .slice A r.pieces.length cp, .bool r.drops, .int .u8 r.lose, .int .i64 r.line, .int .u8 r.reach, .bool r.stuck, .int .i64 r.plies] 27)).alloc (.cells #[.int .i64 p.w, .int .i64 p.h, .string p.cells, .int .i64 p.turn, .string p.h0, .string p.h1] 24) = w0 := ⟨_, rfl⟩
  rw [hw0] at Hbr Hbp Hw ⊢
  clear hw0
  obtain ⟨b, hb⟩ : ∃ b, rulesB r = b := ⟨_, rfl⟩
  rw [hb] at HR
  obtain ⟨x0, x1, x2, x3, x4, x5, x6, x7, x8, x9, x10, x11, x12⟩ := Hbr.out.rules
  cases b
  case false =>
    rw [codeN_f] at HR
    have Hbad := hide (HB.out (fun h => rulesB_false.1 hb h.rules))
    clear hb
    go_wp2_with (go_at_call 28; refine (HR.out _ Hw.out).mono ?_; rintro e w2 ⟨rfl, hw2⟩)
    go_ret
    exact ⟨by rw [← Hbad.out] <;> rfl, Hw.out.trans hw2⟩
  rw [codeN_t] at HR
  have Hrul := hide (rulesB_true.1 hb)
  clear hb
  by_cases hp : PosOk p
  case neg =>
    have Hbad := hide (HB.out (fun h => hp h.pos))
    have HC0 := hide (HC.out 1 ⟨fun h => absurd h hp, fun _ => rfl⟩)
    clear hp
    go_wp2_with (first
      | (go_at_call 28; refine (HR.out _ Hw.out).mono ?_; rintro e w2 ⟨rfl, hw2⟩; obtain ⟨q0, q1, q2, q3, q4, q5⟩ := (hw2.blk Hbp.out).pos6)
      | (go_at_call 29; refine (HC0.out _).mono ?_; rintro e w3 ⟨rfl, hw3⟩))
    go_ret
    exact ⟨by rw [← Hbad.out] <;> rfl, (Hw.out.trans hw2).trans hw3⟩
  have HC1 := hide (HC.out 0 ⟨fun _ => rfl, fun h => absurd hp h⟩)
  obtain ⟨s1, s2, s3⟩ := pos_small hp
  have Hpos := hide hp
  have hff := HL.out (by omega) (by omega) (by omega)
  obtain ⟨u, hu⟩ : ∃ u, fitsB r.pieces p.all = u := ⟨_, rfl⟩
  rw [hu] at hff
  have Hff := hide hff
  clear hff s1 s2 s3 hp HC
  by_cases hw : p.w = r.start.w
  case neg =>
    have Hbad := hide (HB.out (fun h => hw h.w))
    have d1 : (p.w != r.start.w) = true := by simpa using hw
    clear hw hu
    go_wp2_with (first
      | (go_at_call 28; refine (HR.out _ Hw.out).mono ?_; rintro e w2 ⟨rfl, hw2⟩; obtain ⟨q0, q1, q2, q3, q4, q5⟩ := (hw2.blk Hbp.out).pos6)
      | (go_at_call 29; refine (HC1.out _).mono ?_; rintro e w3 ⟨rfl, hw3⟩; obtain ⟨z0, z1, z2, z3, z4, z5, z6, z7, z8, z9, z10, z11, z12⟩ := (hw3.blk (hw2.blk Hbr.out)).rules; obtain ⟨v0, v1, v2, v3, v4, v5⟩ := (hw3.blk (hw2.blk Hbp.out)).pos6))
    go_ret
    exact ⟨by rw [← Hbad.out] <;> rfl, (Hw.out.trans hw2).trans hw3⟩
  by_cases hh : p.h = r.start.h
  case neg =>
    have Hbad := hide (HB.out (fun h => hh h.h))
    have d1 : (p.w != r.start.w) = false := by simpa using hw
    have d2 : (p.h != r.start.h) = true := by simpa using hh
    clear hw hh hu
    go_wp2_with (first
      | (go_at_call 28; refine (HR.out _ Hw.out).mono ?_; rintro e w2 ⟨rfl, hw2⟩; obtain ⟨q0, q1, q2, q3, q4, q5⟩ := (hw2.blk Hbp.out).pos6)
      | (go_at_call 29; refine (HC1.out _).mono ?_; rintro e w3 ⟨rfl, hw3⟩; obtain ⟨z0, z1, z2, z3, z4, z5, z6, z7, z8, z9, z10, z11, z12⟩ := (hw3.blk (hw2.blk Hbr.out)).rules; obtain ⟨v0, v1, v2, v3, v4, v5⟩ := (hw3.blk (hw2.blk Hbp.out)).pos6))
    go_ret
    exact ⟨by rw [← Hbad.out] <;> rfl, (Hw.out.trans hw2).trans hw3⟩
  have d1 : (p.w != r.start.w) = false := by simpa using hw
  have d2 : (p.h != r.start.h) = false := by simpa using hh
  cases u
  · have Hbad := hide (HB.out (fun h => fitsB_false.1 hu h.fits))
    clear hw hh hu
    go_wp2_with (first
      | (go_at_call 28; refine (HR.out _ Hw.out).mono ?_; rintro e w2 ⟨rfl, hw2⟩; obtain ⟨q0, q1, q2, q3, q4, q5⟩ := (hw2.blk Hbp.out).pos6)
      | (go_at_call 29; refine (HC1.out _).mono ?_; rintro e w3 ⟨rfl, hw3⟩; obtain ⟨z0, z1, z2, z3, z4, z5, z6, z7, z8, z9, z10, z11, z12⟩ := (hw3.blk (hw2.blk Hbr.out)).rules; obtain ⟨v0, v1, v2, v3, v4, v5⟩ := (hw3.blk (hw2.blk Hbp.out)).pos6)
      | (go_at_call 30; refine (Hff.out _ ((Hw.out.trans hw2).trans hw3)).mono ?_; rintro e w4 ⟨rfl, hw4⟩))
    go_ret
    exact ⟨by rw [← Hbad.out] <;> rfl, ((Hw.out.trans hw2).trans hw3).trans hw4⟩
  · have Hgood := hide (HG.out ⟨Hrul.out, Hpos.out, hw, hh, fitsB_true.1 hu⟩)
    clear hw hh hu
    go_wp2_with (first
      | (go_at_call 28; refine (HR.out _ Hw.out).mono ?_; rintro e w2 ⟨rfl, hw2⟩; obtain ⟨q0, q1, q2, q3, q4, q5⟩ := (hw2.blk Hbp.out).pos6)
      | (go_at_call 29; refine (HC1.out _).mono ?_; rintro e w3 ⟨rfl, hw3⟩; obtain ⟨z0, z1, z2, z3, z4, z5, z6, z7, z8, z9, z10, z11, z12⟩ := (hw3.blk (hw2.blk Hbr.out)).rules; obtain ⟨v0, v1, v2, v3, v4, v5⟩ := (hw3.blk (hw2.blk Hbp.out)).pos6)
      | (go_at_call 30; refine (Hff.out _ ((Hw.out.trans hw2).trans hw3)).mono ?_; rintro e w4 ⟨rfl, hw4⟩))
    go_ret
    exact ⟨by rw [← Hgood.out] <;> rfl, ((Hw.out.trans hw2).trans hw3).trans hw4⟩
end Go.Proofs.YtdfegpohmaideaaGreatDoor
/- gameref.Moves -/
namespace Go.Proofs.YtdfegpohmaideaaGreatDoor
open Go.RowKit

set_option maxHeartbeats 2000000 in
set_option maxRecDepth 100000 in
theorem moves_any (r : RulesD) (A : Option Addr) (cp : Nat) (p : Pos) (W : World) (h : AllPre r p A W) :
    Calls Tryz.prog 8 #[.agg #[.int .i64 r.start.w, .int .i64 r.start.h, .string r.start.cells, .int .i64 r.start.turn, .string r.start.h0, .string r.start.h1, .slice A r.pieces.length cp, .bool r.drops, .int .u8 r.lose, .int .i64 r.line, .int .u8 r.reach, .bool r.stuck, .int .i64 r.plies], .agg #[.int .i64 p.w, .int .i64 p.h, .string p.cells, .int .i64 p.turn, .string p.h0, .string p.h1]] W (MovesOut W (movesL r p)) := by
  have Hbr := hide ((Blk.new W 27 #[.int .i64 r.start.w, .int .i64 r.start.h, .string r.start.cells, .int .i64 r.start.turn, .string r.start.h0, .string r.start.h1, .slice A r.pieces.length cp, .bool r.drops, .int .u8 r.lose, .int .i64 r.line, .int .u8 r.reach, .bool r.stuck, .int .i64 r.plies]).alloc (.cells #[.int .i64 p.w, .int .i64 p.h, .string p.cells, .int .i64 p.turn, .string p.h0, .string p.h1] 24))
  have hbp := (Blk.new (W.alloc (.cells #[.int .i64 r.start.w, .int .i64 r.start.h, .string r.start.cells, .int .i64 r.start.turn, .string r.start.h0, .string r.start.h1, .slice A r.pieces.length cp, .bool r.drops, .int .u8 r.lose, .int .i64 r.line, .int .u8 r.reach, .bool r.stuck, .int .i64 r.plies] 27)) 24 #[.int .i64 p.w, .int .i64 p.h, .string p.cells, .int .i64 p.turn, .string p.h0, .string p.h1])
  rw [World.size_alloc] at hbp
  have Hbp := hide hbp
  have Hw := hide (show Later W ((W.alloc (.cells #[.int .i64 r.start.w, .int .i64 r.start.h, .string r.start.cells, .int .i64 r.start.turn, .string r.start.h0, .string r.start.h1, .slice A r.pieces.length cp, .bool r.drops, .int .u8 r.lose, .int .i64 r.line, .int .u8 r.reach, .bool r.stuck, .int .i64 r.plies] 27)).alloc (.cells #[.int .i64 p.w, .int .i64 p.h, .string p.cells, .int .i64 p.turn, .string p.h0, .string p.h1] 24)) from (Later.rfl.alloc _).alloc _)
  have Hev := hide (fun w (hw : Later W w) => every_any r A cp p w (h.on hw))
  have Hen := hide (fun w (hw : Later W w) => ends_any r A cp p w (h.on hw))
  have Hm := hide (show ∀ n, endsN r p = n → (n = 0 → movesL r p = everyL r p) ∧ (n ≠ 0 → movesL r p = []) from fun n hn => ⟨fun h0 => movesL_some (by rw [hn, h0]), fun h0 => movesL_none (by rw [hn]; exact h0)⟩)
  obtain ⟨n, hn⟩ : ∃ n, endsN r p = n := ⟨_, rfl⟩
  rw [hn] at Hen
  have Hmn := hide (Hm.out n hn)
  clear h hn Hm hbp
  obtain ⟨x0, x1, x2, x3, x4, x5, x6, x7, x8, x9, x10, x11, x12⟩ := Hbr.out.rules
  obtain ⟨q0, q1, q2, q3, q4, q5⟩ := Hbp.out.pos6
  go_enter Tryz.func8, Tryz.ntmps8
  go_upto_region 1 with (fail)
  by_cases h0 : n = 0
  · have d1 : (n != 0) = false := by simp [h0]
    have Hml := hide (Hmn.out.1 h0)
    clear h0
    go_wp2_with (first
      | (go_at_call 20; refine (Hen.out _ Hw.out).mono ?_; rintro e w2 ⟨rfl, hw2⟩; obtain ⟨y0, y1, y2, y3, y4, y5, y6, y7, y8, y9, y10, y11, y12⟩ := (hw2.blk Hbr.out).rules; obtain ⟨z0, z1, z2, z3, z4, z5⟩ := (hw2.blk Hbp.out).pos6)
      | (go_at_call 21; refine (Hev.out _ (Hw.out.trans hw2)).mono ?_; rintro e w3 ⟨A', c', rfl, h1, h2, h3, h4⟩))
    go_ret
    have hsz := (Hw.out.trans hw2).size
    exact ⟨A', c', by rw [Hml.out] <;> rfl, by rw [Hml.out]; exact h1, by rw [Hml.out]; exact h2, fun ad ha => by have := h3 ad ha; omega, (Hw.out.trans hw2).trans h4⟩
  · have d1 : (n != 0) = true := by simp [h0]
    have Hml := hide (Hmn.out.2 h0)
    clear h0
    go_wp2_with (go_at_call 20; refine (Hen.out _ Hw.out).mono ?_; rintro e w2 ⟨rfl, hw2⟩)
    go_ret
    exact ⟨none, 0, by rw [Hml.out] <;> rfl, by rw [Hml.out]; exact Nat.le_refl _, by rw [Hml.out]; exact Cells.nil_, (fun ad h => by cases h), Hw.out.trans hw2⟩
end Go.Proofs.YtdfegpohmaideaaGreatDoor
/- gamelaw.Same of moves, gameref.In, slices.Contains of moves -/
namespace Go.Proofs.YtdfegpohmaideaaGreatDoor
open Go.RowKit Go.Shelf

theorem mv_at {w : World} {B : Nat} {A : Option Addr} {l : List Mv} (h : Cells w B A (cellsM l)) {i : Nat} (hi : i < l.length) :
    ∃ b off, A = some ⟨b, off, none⟩ ∧ b < B ∧ w.cell? ⟨b, off + i * 3, none⟩ = some (.int .i64 l[i].f) ∧ w.cell? ⟨b, off + i * 3 + 1, none⟩ = some (.int .i64 l[i].t) ∧ w.cell? ⟨b, off + i * 3 + 2, none⟩ = some (.int .u8 (l[i].c : Int)) := by
  have hl := cellsM_len l
  obtain ⟨b, off, hA, hb, hcell⟩ := h (by omega)
  obtain ⟨g0, g1, g2⟩ := cellsM_get l i hi
  have key : ∀ j v, (cellsM l)[j]? = some v → w.cell? ⟨b, off + j, none⟩ = some v := by
    intro j v hv
    obtain ⟨hj, hjv⟩ := List.getElem?_eq_some_iff.1 hv
    rw [hcell j hj, hjv]
  exact ⟨b, off, hA, hb, key _ _ g0, by rw [Nat.add_assoc]; exact key _ _ g1, by rw [Nat.add_assoc]; exact key _ _ g2⟩

theorem not_in_all {l : List Mv} {m : Mv} (h : ∀ j (hj : j < l.length), l[j] ≠ m) : decide (m ∈ l) = false := by
  simp only [decide_eq_false_iff_not]
  intro hm
  obtain ⟨j, hj, e⟩ := List.getElem_of_mem hm
  exact h j hj e
set_option maxHeartbeats 1000000 in
set_option maxRecDepth 20000 in
theorem in_any (A : Option Addr) (c : Nat) (l : List Mv) (m : Mv) (W : World) (hm : l.length ≤ 9223372036854775807) (h : Cells W W.heap.size A (cellsM l)) :
    Calls Tryz.prog 9 #[.slice A l.length c, .agg #[.int .i64 m.f, .int .i64 m.t, .int .u8 m.c]] W fun e w' => e = .returned (.bool (decide (m ∈ l))) ∧ Later W w' := by
  have H := hide (show Cells (W.alloc (.cells #[.int .i64 m.f, .int .i64 m.t, .int .u8 m.c] 29)) W.heap.size A (cellsM l) from h.below (below_fresh W _))
  have Hb := hide (Blk.new W 29 #[.int .i64 m.f, .int .i64 m.t, .int .u8 m.c])
  have Hw := hide (show Later W (W.alloc (.cells #[.int .i64 m.f, .int .i64 m.t, .int .u8 m.c] 29)) from Later.rfl.alloc _)
  have Hyes := hide (fun (hm : m ∈ l) => show decide (m ∈ l) = true from decide_eq_true hm)
  have Hno := hide (fun h => not_in_all (l := l) (m := m) h)
  obtain ⟨bb, hbb⟩ : ∃ bb, decide (m ∈ l) = bb := ⟨_, rfl⟩
  rw [hbb] at Hyes Hno ⊢
  clear h hbb
  go_enter Tryz.func9, Tryz.ntmps9
  go_upto_region 1 with (fail)
  obtain ⟨w0, hw0⟩ : ∃ w0, W.alloc (.cells #[.int .i64 m.f, .int .i64 m.t, .int .u8 m.c] 29) = w0 := ⟨_, rfl⟩
  rw [hw0] at H Hb Hw ⊢
  clear hw0
  go_wp2_with fail
  go_loopw [5] (fun i wr => ∃ k n : Nat, k ≤ l.length ∧ i = .int .i64 k ∧ wr = w0.drewN n ∧ ∀ j (h : j < l.length), j < k → l[j] ≠ m) (fun i _ => l.length - (intOf i).toNat)
  case atStart => exact ⟨0, 0, by omega, rfl, rfl, fun j _ h => by omega⟩
  case round =>
    obtain ⟨k, n, hk, rfl, rfl, hall⟩ := hrel
    have Hall := hide hall
    clear hall
    by_cases hlt : k < l.length
    · obtain ⟨b, off, rfl, hb, x0, x1, x2⟩ := mv_at H.out hlt
      have y0 := Hb.out.cellv (i := 0) rfl
      have y1 := Hb.out.cellv (i := 1) rfl
      have y2 := Hb.out.cellv (i := 2) rfl
      obtain ⟨x, hx⟩ : ∃ x, l[k] = x := ⟨_, rfl⟩
      rw [hx] at x0 x1 x2
      have heq := fun w => eqM.1 x m w
      have hgd := fun op a b w => eqM.2 op a b x m w
      simp only [encM] at heq hgd
      obtain ⟨u, hu⟩ : ∃ u, decide (x = m) = u := ⟨_, rfl⟩
      rw [hu] at heq
      have Hu := hide hu
      have Hx := hide hx
      clear hx hu
      go_upto_region 4 with (fail)
      go_quiet (fail)
      clear heq hgd x0 x1 x2 y0 y1 y2
      cases u
      · have hn := of_decide_eq_false Hu.out
        have Hn := hide (show ∀ j (h : j < l.length), j < k + 1 → l[j] ≠ m from fun j h hj => by
          by_cases e : j = k
          · subst e; rw [Hx.out]; exact hn
          · exact Hall.out j h (by omega))
        clear hn
        go_wp2_with fail
        go_roundw
        case rel => exact ⟨k + 1, _, by omega, by go_num, rfl, Hn.out⟩
        case measure => simp [intOf]; omega
      · have hy := of_decide_eq_true Hu.out
        have Hb2 := hide (Hyes.out (by rw [← hy, ← Hx.out]; exact List.getElem_mem hlt))
        clear hy
        go_wp2_with fail
        go_ret
        exact ⟨by rw [Hb2.out] <;> rfl, (Hw.out.drewN _).drewN _⟩
    · have Hb2 := hide (Hno.out (fun j hj => Hall.out j hj (by omega)))
      go_wp2_with fail
      go_ret
      exact ⟨by rw [Hb2.out] <;> rfl, Hw.out.drewN _⟩

set_option maxHeartbeats 1000000 in
theorem index_empty (A : Option Addr) (c : Nat) (m : Mv) (W : World) :
    Calls Tryz.prog 26 #[.slice A 0 c, .agg #[.int .i64 m.f, .int .i64 m.t, .int .u8 m.c]] W fun e w' => e = .returned (.int .i64 (-1)) ∧ Later W w' := by
  have Hw := hide (show Later W (W.alloc (.cells #[.int .i64 m.f, .int .i64 m.t, .int .u8 m.c] 29)) from Later.rfl.alloc _)
  go_enter Tryz.func26, Tryz.ntmps26
  go_wp2_with fail
  go_loopw [8] (fun i wr => i = .int .i64 0 ∧ wr = W.alloc (.cells #[.int .i64 m.f, .int .i64 m.t, .int .u8 m.c] 29)) (fun _ _ => 0)
  case atStart => exact ⟨rfl, rfl⟩
  case round =>
    obtain ⟨rfl, rfl⟩ := hrel
    go_wp2_with fail
    go_ret
    exact ⟨rfl, Hw.out⟩
set_option maxHeartbeats 1000000 in
theorem contains_mv (A : Option Addr) (c : Nat) (l : List Mv) (m : Mv) (W : World) (hm : l.length ≤ 9223372036854775807) (h : Cells W W.heap.size A (cellsM l)) :
    Calls Tryz.prog 13 #[.slice A l.length c, .agg #[.int .i64 m.f, .int .i64 m.t, .int .u8 m.c]] W fun e w' => e = .returned (.bool (decide (m ∈ l))) ∧ Later W w' := by
  by_cases hl : 0 < l.length
  · obtain ⟨b, off, hA, _, _⟩ := mv_at h hl
    subst hA
    have := AnyQ.slices_Contains Tryz.containsM 3 (fun w => Tryz.isAgg29 w) (fun w => Tryz.sizeOf29 w) encM (fun _ => rfl) (fun x y => decide (x = y)) eqM b off l.length c l m W (Nat.le_refl _) hm (fun j hj i v hi => by
      obtain ⟨b', off', hb, _, x0, x1, x2⟩ := mv_at h hj
      injection hb with hb
      injection hb with hb1 hb2
      subst hb1; subst hb2
      rw [getElem!_pos l j hj] at hi
      match i, hi with
      | 0, hi => simp only [encM] at hi; rw [Nat.add_zero, x0]; simpa using hi
      | 1, hi => simp only [encM] at hi; rw [x1]; simpa using hi
      | 2, hi => simp only [encM] at hi; rw [x2]; simpa using hi
      | i + 3, hi => simp [encM] at hi)
    refine this.mono ?_
    rintro e w' ⟨rfl, hw⟩
    refine ⟨?_, hw⟩
    congr 2
    rw [List.take_length, Bool.eq_iff_iff, List.any_eq_true, decide_eq_true_eq]
    constructor
    · rintro ⟨x, hx, he⟩
      rw [of_decide_eq_true he]; exact hx
    · intro hx
      exact ⟨m, hx, decide_eq_true rfl⟩
  · have he : l = [] := List.eq_nil_of_length_eq_zero (by omega)
    subst he
    have Hi := hide (fun w => index_empty A c m w)
    have Hb := hide (Blk.new W 29 #[.int .i64 m.f, .int .i64 m.t, .int .u8 m.c])
    have Hw := hide (show Later W (W.alloc (.cells #[.int .i64 m.f, .int .i64 m.t, .int .u8 m.c] 29)) from Later.rfl.alloc _)
    clear hl h hm
    have hd : decide (m ∈ ([] : List Mv)) = false := by simp
    rw [hd]
    clear hd
    simp only [List.length_nil]
    go_enter Tryz.func13, Tryz.ntmps13
    go_wp2_with (go_at_call 26; refine (Hi.out _).mono ?_; rintro e w2 ⟨rfl, hw2⟩)
    go_ret
    exact ⟨rfl, Hw.out.trans hw2⟩
end Go.Proofs.YtdfegpohmaideaaGreatDoor
/- moves.Moves, moves.Outcome, moves.Apply; a move of a list made -/
namespace Go.Proofs.YtdfegpohmaideaaGreatDoor
open Go.RowKit

theorem OfOk.pre {r : RulesD} {p : Pos} {A : Option Addr} {W : World} (h : OfOk r p) (hP : PiecesAt W W.heap.size A r.pieces) : AllPre r p A W := ⟨h.rules, h.pos, h.fits, hP⟩
theorem moves_every {r : RulesD} {p : Pos} {m : Mv} (h : m ∈ movesL r p) : m ∈ everyL r p := by
  unfold movesL at h
  split at h
  · exact h
  · simp at h
theorem everyL_len {r : RulesD} {p : Pos} (hp : PosOk p) : (everyL r p).length ≤ 10000 := by
  obtain ⟨s1, s2, s3⟩ := pos_small hp
  have hh : (handOf p p.turn).length ≤ 8 := (hand_ok hp p.turn).1
  have hd : ∀ t, (everyDrop p t).length ≤ 8 := fun t => by
    unfold everyDrop
    refine Nat.le_trans (flat_len _ 1 (fun i => ?_) _) (by rw [List.length_range]; omega)
    split <;> simp
  have h1 := flat_len (everyDrop p) 8 hd (List.range p.cells.size)
  have h2 := flat_len (everyBoard r.pieces p) p.cells.size (everyBoard_len r.pieces p) (List.range p.cells.size)
  rw [List.length_range] at h1 h2
  have h3 : p.cells.size * p.cells.size ≤ 64 * 64 := Nat.mul_le_mul s1 s1
  unfold everyL
  rw [List.length_append]
  split
  · omega
  · simp only [List.length_nil]; omega
theorem movesL_len {r : RulesD} {p : Pos} (hp : PosOk p) : (movesL r p).length ≤ 10000 := by
  unfold movesL
  split
  · exact everyL_len hp
  · simp

/-- what the makers of moves are told -/
structure MkOk (p : Pos) (m : Mv) (tn : Nat) (H : ByteArray) (t8 : UInt8) : Prop where
  turn : p.turn = (tn : Int)
  tn1 : tn ≤ 1
  hand : H = if tn = 0 then p.h0 else p.h1
  mt : ((m.t.toNat : Nat) : Int) = m.t
  mtl : m.t.toNat < p.cells.size
  c64 : p.cells.size ≤ 64
  h8 : H.size ≤ 8
  sort : H.data.toList.Pairwise LeU
  mc : (u8 m.c).toNat = m.c
  mf : (m.f = -1 ∧ u8 m.c ∈ H.data.toList) ∨ ∃ fn : Nat, m.f = (fn : Int) ∧ fn < p.cells.size ∧ fn ≠ m.t.toNat
  up : upB (u8 m.c).toNat = true
  at8 : p.cells.data.toList[m.t.toNat]? = some t8
  t8n : t8.toNat = cellN p m.t.toNat
  take : t8.toNat ≠ 46 → letG t8.toNat (1 - (tn : Int)) = capN t8.toNat
theorem mk_ok {r : RulesD} {p : Pos} {m : Mv} (ho : OfOk r p) (hm : m ∈ everyL r p) : ∃ tn H t8, MkOk p m tn H t8 := by
  have htn : p.turn = 0 ∨ p.turn = 1 := by have := ho.pos.t0; have := ho.pos.t1; omega
  obtain ⟨e0, e1, e2⟩ := every_form htn hm
  have hup := (every_made ho hm).1
  have hmc : (u8 m.c).toNat = m.c := u8_nat (by have := upB_lt hup; omega)
  obtain ⟨s1, s2, s3⟩ := pos_small ho.pos
  have hlen : p.cells.data.toList.length = p.cells.size := rfl
  have hcell := cellN_ok ho.pos e1
  have hh := hand_ok ho.pos p.turn
  have e3 : p.turn = ((p.turn.toNat : Nat) : Int) := by omega
  have hHof : handOf p p.turn = (if p.turn.toNat = 0 then p.h0 else p.h1).data.toList := by
    unfold handOf
    rcases htn with h | h <;> rw [h] <;> rfl
  have hcN : cellN p m.t.toNat = (p.cells.data.toList[m.t.toNat]'(by omega)).toNat := by
    unfold cellN
    rw [List.getD_eq_getElem?_getD, List.getElem?_eq_getElem (by omega)]
    rfl
  have f1 : p.turn.toNat ≤ 1 := by omega
  have f2 : ((m.t.toNat : Nat) : Int) = m.t := Int.toNat_of_nonneg e0
  have f3 : (if p.turn.toNat = 0 then p.h0 else p.h1).size ≤ 8 := by split <;> omega
  refine ⟨p.turn.toNat, if p.turn.toNat = 0 then p.h0 else p.h1, p.cells.data.toList[m.t.toNat]'(by omega), e3, f1, rfl, f2, e1, s1, f3, by rw [← hHof]; exact hand_sorted hh, hmc, ?_, by rw [hmc]; exact hup, List.getElem?_eq_getElem (by omega), hcN.symm, fun h46 => ?_⟩
  · rcases e2 with ⟨h1, _, _, x, hx, hxc⟩ | ⟨h1, h2, h3, _⟩
    · left
      refine ⟨h1, ?_⟩
      rw [← hHof]
      have : u8 m.c = x := UInt8.toNat_inj.1 (by rw [hmc, hxc])
      rw [this]; exact hx
    · right
      exact ⟨m.f.toNat, by omega, h2, by omega⟩
  · rw [← hcN] at h46 ⊢
    rw [← e3]
    refine letG_take htn hcell h46 ?_
    rcases e2 with ⟨_, _, h3, _⟩ | ⟨_, _, _, _, _, h3⟩
    · exact absurd h3 h46
    · exact h3
theorem madeP_eq {r : RulesD} {p : Pos} {m : Mv} {tn : Nat} {H : ByteArray} {t8 : UInt8} (h : MkOk p m tn H t8) {q : Pos} (hq : madeP r p m = q) :
    #[Value.int .i64 p.w, .int .i64 p.h, .string (bytes (apCells p.cells.data.toList m.f m.t.toNat (u8 (letN (u8 m.c).toNat tn)))), .int .i64 (1 - (tn : Int)), .string (if tn = 0 then bytes (apHand (apLeft H.data.toList m.f (u8 m.c)) t8 r.drops) else p.h0), .string (if tn = 0 then p.h1 else bytes (apHand (apLeft H.data.toList m.f (u8 m.c)) t8 r.drops))] = #[.int .i64 q.w, .int .i64 q.h, .string q.cells, .int .i64 q.turn, .string q.h0, .string q.h1] := by
  have hHof : handOf p p.turn = H.data.toList := by
    rw [h.hand]
    unfold handOf
    have := h.tn1
    rw [h.turn]
    by_cases e : tn = 0
    · rw [if_pos e, if_pos (by omega)]
    · rw [if_neg e, if_neg (by omega)]
  have hleft : leftHand p m = apLeft H.data.toList m.f (u8 m.c) := by unfold leftHand apLeft; rw [hHof]
  have hhand : madeHand r p m = apHand (apLeft H.data.toList m.f (u8 m.c)) t8 r.drops := by
    unfold madeHand apHand
    rw [hleft, ← h.t8n]
  have hcells : madeCells p m = apCells p.cells.data.toList m.f m.t.toNat (u8 (letN (u8 m.c).toNat tn)) := by
    unfold madeCells apCells
    rw [h.mc, ← h.turn]
  have ht0 : ((tn : Int) = 0) = (tn = 0) := by simp
  subst hq
  simp only [madeP, hhand, hcells, h.turn, ht0]
theorem apply_any (r : RulesD) (A : Option Addr) (cp : Nat) (p : Pos) (m : Mv) (q : Pos) (W : World) (ho : OfOk r p) (hm : m ∈ everyL r p) (hq : madeP r p m = q) :
    Calls Tryz.prog 31 #[.agg #[.int .i64 r.start.w, .int .i64 r.start.h, .string r.start.cells, .int .i64 r.start.turn, .string r.start.h0, .string r.start.h1, .slice A r.pieces.length cp, .bool r.drops, .int .u8 r.lose, .int .i64 r.line, .int .u8 r.reach, .bool r.stuck, .int .i64 r.plies], .agg #[.int .i64 p.w, .int .i64 p.h, .string p.cells, .int .i64 p.turn, .string p.h0, .string p.h1], .agg #[.int .i64 m.f, .int .i64 m.t, .int .u8 m.c]] W fun e w' => e = .returned (.agg #[.int .i64 q.w, .int .i64 q.h, .string q.cells, .int .i64 q.turn, .string q.h0, .string q.h1]) ∧ Later W w' := by
  obtain ⟨tn, H, t8, h⟩ := mk_ok ho hm
  have := apply_core r A cp p.w p.h p.cells tn p.h0 p.h1 m.f m.t.toNat (u8 m.c) W H h.tn1 h.hand h.mtl h.c64 h.h8 h.sort (by
    rcases h.mf with h1 | ⟨fn, h1, h2, _⟩
    · exact .inl h1
    · exact .inr ⟨fn, h1, h2⟩) h.up t8 h.at8 h.take
  rw [madeP_eq h hq, h.mt, h.mc, ← h.turn] at this
  exact this
theorem made_any (r : RulesD) (A : Option Addr) (cp : Nat) (p : Pos) (m : Mv) (q : Pos) (W : World) (ho : OfOk r p) (hm : m ∈ everyL r p) (hq : madeP r p m = q) :
    Calls Tryz.prog 24 #[.agg #[.int .i64 r.start.w, .int .i64 r.start.h, .string r.start.cells, .int .i64 r.start.turn, .string r.start.h0, .string r.start.h1, .slice A r.pieces.length cp, .bool r.drops, .int .u8 r.lose, .int .i64 r.line, .int .u8 r.reach, .bool r.stuck, .int .i64 r.plies], .agg #[.int .i64 p.w, .int .i64 p.h, .string p.cells, .int .i64 p.turn, .string p.h0, .string p.h1], .agg #[.int .i64 m.f, .int .i64 m.t, .int .u8 m.c]] W fun e w' => e = .returned (.agg #[.int .i64 q.w, .int .i64 q.h, .string q.cells, .int .i64 q.turn, .string q.h0, .string q.h1]) ∧ Later W w' := by
  obtain ⟨tn, H, t8, h⟩ := mk_ok ho hm
  have := made_core r A cp p.w p.h p.cells tn p.h0 p.h1 m.f m.t.toNat (u8 m.c) W H h.tn1 h.hand h.mtl h.c64 h.h8 h.mf h.up t8 h.at8
  rw [madeP_eq h hq, h.mt, h.mc, ← h.turn] at this
  exact this
end Go.Proofs.YtdfegpohmaideaaGreatDoor
/- moves.Moves, moves.Outcome, moves.Apply -/
namespace Go.Proofs.YtdfegpohmaideaaGreatDoor
open Go.RowKit

set_option maxHeartbeats 2000000 in
set_option maxRecDepth 100000 in
theorem mm_no (r : RulesD) (A : Option Addr) (cp : Nat) (p : Pos) (W : World) (hf : RFit r) (hg : PFit p) (hP : PiecesAt W W.heap.size A r.pieces) (hno : ¬ OfOk r p) :
    Calls Tryz.prog 12 #[.agg #[.int .i64 r.start.w, .int .i64 r.start.h, .string r.start.cells, .int .i64 r.start.turn, .string r.start.h0, .string r.start.h1, .slice A r.pieces.length cp, .bool r.drops, .int .u8 r.lose, .int .i64 r.line, .int .u8 r.reach, .bool r.stuck, .int .i64 r.plies], .agg #[.int .i64 p.w, .int .i64 p.h, .string p.cells, .int .i64 p.turn, .string p.h0, .string p.h1]] W fun e w' => e = .returned (.tuple #[.slice none 0 0, .int .i64 1]) ∧ Later W w' := by
  have Hw := hide (show Later W ((W.alloc (.cells #[.int .i64 r.start.w, .int .i64 r.start.h, .string r.start.cells, .int .i64 r.start.turn, .string r.start.h0, .string r.start.h1, .slice A r.pieces.length cp, .bool r.drops, .int .u8 r.lose, .int .i64 r.line, .int .u8 r.reach, .bool r.stuck, .int .i64 r.plies] 27)).alloc (.cells #[.int .i64 p.w, .int .i64 p.h, .string p.cells, .int .i64 p.turn, .string p.h0, .string p.h1] 24)) from (Later.rfl.alloc _).alloc _)
  have Hof := hide (fun w (hw : Later W w) => mof_any r A cp p w hf hg ((hP.below hw).more hw.size))
  rw [ofB_false.2 hno, codeN_f] at Hof
  clear hf hg hP hno
  go_enter Tryz.func12, Tryz.ntmps12
  go_wp2_with (go_at_call 15; refine (Hof.out _ Hw.out).mono ?_; rintro e w2 ⟨rfl, hw2⟩)
  go_ret2
  exact ⟨rfl, Hw.out.trans hw2⟩
set_option maxHeartbeats 2000000 in
set_option maxRecDepth 100000 in
theorem mm_ok (r : RulesD) (A : Option Addr) (cp : Nat) (p : Pos) (W : World) (hf : RFit r) (hg : PFit p) (hP : PiecesAt W W.heap.size A r.pieces) (hok : OfOk r p) :
    Calls Tryz.prog 12 #[.agg #[.int .i64 r.start.w, .int .i64 r.start.h, .string r.start.cells, .int .i64 r.start.turn, .string r.start.h0, .string r.start.h1, .slice A r.pieces.length cp, .bool r.drops, .int .u8 r.lose, .int .i64 r.line, .int .u8 r.reach, .bool r.stuck, .int .i64 r.plies], .agg #[.int .i64 p.w, .int .i64 p.h, .string p.cells, .int .i64 p.turn, .string p.h0, .string p.h1]] W fun e w' => ∃ A' c', e = .returned (.tuple #[.slice A' (movesL r p).length c', .int .i64 0]) ∧ Cells w' w'.heap.size A' (cellsM (movesL r p)) ∧ Later W w' := by
  have Hbr := hide ((Blk.new W 27 #[.int .i64 r.start.w, .int .i64 r.start.h, .string r.start.cells, .int .i64 r.start.turn, .string r.start.h0, .string r.start.h1, .slice A r.pieces.length cp, .bool r.drops, .int .u8 r.lose, .int .i64 r.line, .int .u8 r.reach, .bool r.stuck, .int .i64 r.plies]).alloc (.cells #[.int .i64 p.w, .int .i64 p.h, .string p.cells, .int .i64 p.turn, .string p.h0, .string p.h1] 24))
  have hbp := (Blk.new (W.alloc (.cells #[.int .i64 r.start.w, .int .i64 r.start.h, .string r.start.cells, .int .i64 r.start.turn, .string r.start.h0, .string r.start.h1, .slice A r.pieces.length cp, .bool r.drops, .int .u8 r.lose, .int .i64 r.line, .int .u8 r.reach, .bool r.stuck, .int .i64 r.plies] 27)) 24 #[.int .i64 p.w, .int .i64 p.h, .string p.cells, .int .i64 p.turn, .string p.h0, .string p.h1])
  rw [World.size_alloc] at hbp
  have Hbp := hide hbp
  have Hw := hide (show Later W ((W.alloc (.cells #[.int .i64 r.start.w, .int .i64 r.start.h, .string r.start.cells, .int .i64 r.start.turn, .string r.start.h0, .string r.start.h1, .slice A r.pieces.length cp, .bool r.drops, .int .u8 r.lose, .int .i64 r.line, .int .u8 r.reach, .bool r.stuck, .int .i64 r.plies] 27)).alloc (.cells #[.int .i64 p.w, .int .i64 p.h, .string p.cells, .int .i64 p.turn, .string p.h0, .string p.h1] 24)) from (Later.rfl.alloc _).alloc _)
  have Hof := hide (fun w (hw : Later W w) => mof_any r A cp p w hf hg ((hP.below hw).more hw.size))
  have Hou := hide (fun w (hw : Later W w) => outcome_any r A cp p w ((hok.pre hP).on hw))
  rw [ofB_true.2 hok, codeN_t] at Hof
  clear hf hg hP hok hbp
  go_enter Tryz.func12, Tryz.ntmps12
  go_wp2_with (first
    | (go_at_call 15; refine (Hof.out _ Hw.out).mono ?_; rintro e w2 ⟨rfl, hw2⟩; obtain ⟨y0, y1, y2, y3, y4, y5, y6, y7, y8, y9, y10, y11, y12⟩ := (hw2.blk Hbr.out).rules; obtain ⟨z0, z1, z2, z3, z4, z5⟩ := (hw2.blk Hbp.out).pos6)
    | (go_at_call 25; refine (Hou.out _ (Hw.out.trans hw2)).mono ?_; rintro e w3 ⟨A', c', rfl, h1, h2, h3, h4⟩))
  go_ret2
  exact ⟨A', c', rfl, h2, (Hw.out.trans hw2).trans h4⟩
end Go.Proofs.YtdfegpohmaideaaGreatDoor
/- moves.Apply -/
namespace Go.Proofs.YtdfegpohmaideaaGreatDoor
open Go.RowKit

end Go.Proofs.YtdfegpohmaideaaGreatDoor
/- moves.Next: the positions behind the moves -/
namespace Go.Proofs.YtdfegpohmaideaaGreatDoor
open Go.RowKit

def cellsQ (l : List Pos) : List Value := l.flatMap posC
theorem cellsQ_app (a b : List Pos) : cellsQ (a ++ b) = cellsQ a ++ cellsQ b := by simp [cellsQ]
theorem cellsQ_len : ∀ l : List Pos, (cellsQ l).length = l.length * 6
  | [] => rfl
  | p :: l => by
    have : cellsQ (p :: l) = posC p ++ cellsQ l := rfl
    have h6 : (posC p).length = 6 := rfl
    rw [this, List.length_append, cellsQ_len l, h6, List.length_cons]
    omega
theorem info_pos : (Tryz.prog.info? 24).map (fun i => (i.zero, i.size, i.bytes)) = some (some (.agg #[.int .i64 0, .int .i64 0, .string ⟨#[]⟩, .int .i64 0, .string ⟨#[]⟩, .string ⟨#[]⟩]), 6, 72) := by kernel_rfl
theorem own_later {w w' : World} {base size n : Nat} {e : TypeId} {v : Value} {xs : List Value} (h : w.ownsRow base e size v n xs) (hw : Later w w') : w'.ownsRow base e size v n xs :=
  ownsRow_only (S := fun k => w.heap.size ≤ k) h (Only.of_below hw (fun _ _ hk => hk)) (fun g hg hk => by have := (h.lt g hg).2; omega)
theorem Later.trans' {S : Nat → Prop} {a b c : World} (h : Later a b) (ho : Only S b c) (hS : ∀ k, S k → a.heap.size ≤ k) : Later a c :=
  Below.trans h (ho.below_ (B := a.heap.size) hS h.size)
/-- the positions behind the moves -/
noncomputable def nextL (r : RulesD) (p : Pos) : List Pos := (movesL r p).map (madeP r p)
def NextOut (W : World) (r : RulesD) (p : Pos) (e : Ending) (w' : World) : Prop :=
  ∃ A1 c1 A2 c2, e = .returned (.tuple #[.int .i64 (endsN r p), .slice A1 (movesL r p).length c1, .slice A2 (movesL r p).length c2]) ∧ Cells w' w'.heap.size A1 (cellsM (movesL r p)) ∧ Cells w' w'.heap.size A2 (cellsQ (nextL r p)) ∧ Later W w'
set_option maxHeartbeats 4000000 in
set_option maxRecDepth 100000 in
theorem next_any (r : RulesD) (A : Option Addr) (cp : Nat) (p : Pos) (W : World) (hok : OfOk r p) (hP : PiecesAt W W.heap.size A r.pieces) :
    Calls Tryz.prog 16 #[.agg #[.int .i64 r.start.w, .int .i64 r.start.h, .string r.start.cells, .int .i64 r.start.turn, .string r.start.h0, .string r.start.h1, .slice A r.pieces.length cp, .bool r.drops, .int .u8 r.lose, .int .i64 r.line, .int .u8 r.reach, .bool r.stuck, .int .i64 r.plies], .agg #[.int .i64 p.w, .int .i64 p.h, .string p.cells, .int .i64 p.turn, .string p.h0, .string p.h1]] W (NextOut W r p) := by
  have Hbr := hide ((Blk.new W 27 #[.int .i64 r.start.w, .int .i64 r.start.h, .string r.start.cells, .int .i64 r.start.turn, .string r.start.h0, .string r.start.h1, .slice A r.pieces.length cp, .bool r.drops, .int .u8 r.lose, .int .i64 r.line, .int .u8 r.reach, .bool r.stuck, .int .i64 r.plies]).alloc (.cells #[.int .i64 p.w, .int .i64 p.h, .string p.cells, .int .i64 p.turn, .string p.h0, .string p.h1] 24))
  have hbp := (Blk.new (W.alloc (.cells #[.int .i64 r.start.w, .int .i64 r.start.h, .string r.start.cells, .int .i64 r.start.turn, .string r.start.h0, .string r.start.h1, .slice A r.pieces.length cp, .bool r.drops, .int .u8 r.lose, .int .i64 r.line, .int .u8 r.reach, .bool r.stuck, .int .i64 r.plies] 27)) 24 #[.int .i64 p.w, .int .i64 p.h, .string p.cells, .int .i64 p.turn, .string p.h0, .string p.h1])
  rw [World.size_alloc] at hbp
  have Hbp := hide hbp
  have Hw := hide (show Later W ((W.alloc (.cells #[.int .i64 r.start.w, .int .i64 r.start.h, .string r.start.cells, .int .i64 r.start.turn, .string r.start.h0, .string r.start.h1, .slice A r.pieces.length cp, .bool r.drops, .int .u8 r.lose, .int .i64 r.line, .int .u8 r.reach, .bool r.stuck, .int .i64 r.plies] 27)).alloc (.cells #[.int .i64 p.w, .int .i64 p.h, .string p.cells, .int .i64 p.turn, .string p.h0, .string p.h1] 24)) from (Later.rfl.alloc _).alloc _)
  have Hou := hide (fun w (hw : Later W w) => outcome_any r A cp p w ((hok.pre hP).on hw))
  have Hap := hide (fun m q w (hm : m ∈ movesL r p) (hq : madeP r p m = q) => apply_any r A cp p m q w hok (moves_every hm) hq)
  have hlen := movesL_len (r := r) hok.pos
  obtain ⟨i0, hi, hz0, hz1, hz2⟩ := info_parts info_pos
  have Hi := hide hi
  have Hz0 := hide hz0
  have Hz1 := hide hz1
  have Hz2 := hide hz2
  have HNO := hide (show ∀ w' A1 c1 A2 c2, Cells w' w'.heap.size A1 (cellsM (movesL r p)) → Cells w' w'.heap.size A2 (cellsQ ((movesL r p).map (madeP r p))) → Later W w' → NextOut W r p (.returned (.tuple #[.int .i64 (endsN r p), .slice A1 (movesL r p).length c1, .slice A2 (movesL r p).length c2])) w' from fun w' A1 c1 A2 c2 h1 h2 h3 => ⟨A1, c1, A2, c2, rfl, h1, h2, h3⟩)
  obtain ⟨L, hL⟩ : ∃ L, movesL r p = L := ⟨_, rfl⟩
  rw [hL] at hlen Hap HNO
  have HL := hide hL
  clear hi hz0 hz1 hz2 hok hP hbp hL
  go_enter Tryz.func16, Tryz.ntmps16
  obtain ⟨x0, x1, x2, x3, x4, x5, x6, x7, x8, x9, x10, x11, x12⟩ := Hbr.out.rules
  obtain ⟨p0, p1, p2, p3, p4, p5⟩ := Hbp.out.pos6
  go_upto_region 1 with (fail)
  go_upto_region 2 with (go_at_call 25; refine (Hou.out _ Hw.out).mono ?_; rintro e w3 ⟨A1, c1, rfl, h1, h2, h3, h4⟩)
  have Hbr3 := hide (h4.blk Hbr.out)
  have Hbp3 := hide (h4.blk Hbp.out)
  have Hw3 := hide (Hw.out.trans h4)
  have Hc3 := hide (show Cells w3 w3.heap.size A1 (cellsM L) from HL.out ▸ h2)
  clear h1 h2 h3 h4 Hbr Hbp Hw x0 x1 x2 x3 x4 x5 x6 x7 x8 x9 x10 x11 x12 p0 p1 p2 p3 p4 p5 Hou
  rw [HL.out]
  go_wp2_with fail
  have Hnil := hide (World.ownsRow_nil w3 w3.heap.size 24 6)
  go_loopw [9, 20] (fun nv kv wr => ∃ k : Nat, k ≤ L.length ∧ kv = .int .i64 (k : Int) ∧ wr.ownsRow w3.heap.size 24 6 nv k (cellsQ ((L.map (madeP r p)).take k)) ∧ Later w3 wr) (fun _ kv _ => L.length - (intOf kv).toNat)
  case atStart => exact ⟨0, by omega, rfl, by rw [List.take_zero]; exact Hnil.out, Later.rfl⟩
  case round =>
    rename World => wr
    obtain ⟨k, hk, rfl, hown, hwr⟩ := hrel
    have Hown := hide hown
    have Hwr := hide hwr
    clear hown hwr Hnil
    by_cases hlt : k < L.length
    · have hcc := Hc3.out.below Hwr.out
      obtain ⟨b, off, rfl, hb, y0, y1, y2⟩ := mv_at hcc hlt
      have Hap2 := hide (fun w => Hap.out L[k] (madeP r p L[k]) w (List.getElem_mem hlt) rfl)
      have Htk := hide (show cellsQ ((L.map (madeP r p)).take (k + 1)) = cellsQ ((L.map (madeP r p)).take k) ++ posC (madeP r p L[k]) by
        rw [List.take_succ_eq_append_getElem (by simpa using hlt), cellsQ_app, List.getElem_map]
        simp [cellsQ])
      obtain ⟨m, hm⟩ : ∃ m, L[k] = m := ⟨_, rfl⟩
      rw [hm] at y0 y1 y2
      simp only [hm] at Hap2 Htk
      obtain ⟨q, hq⟩ : ∃ q, madeP r p m = q := ⟨_, rfl⟩
      rw [hq] at Hap2 Htk
      clear hm hq hcc
      go_upto_region 6 with (fail)
      have Hm4 := hide (Blk.new wr 29 #[.int .i64 m.f, .int .i64 m.t, .int .u8 m.c])
      have Hw4 := hide (show Later w3 (wr.alloc (.cells #[.int .i64 m.f, .int .i64 m.t, .int .u8 m.c] 29)) from Hwr.out.alloc _)
      have Hown4 := hide (World.ownsRow.alloc Hown.out (.cells #[.int .i64 m.f, .int .i64 m.t, .int .u8 m.c] 29))
      obtain ⟨w4, hw4⟩ : ∃ w4, wr.alloc (.cells #[.int .i64 m.f, .int .i64 m.t, .int .u8 m.c] 29) = w4 := ⟨_, rfl⟩
      obtain ⟨gm, hgm⟩ : ∃ gm, wr.heap.size = gm := ⟨_, rfl⟩
      rw [hw4] at Hm4 Hw4 Hown4 ⊢
      rw [hgm] at Hm4 ⊢
      clear hw4 hgm Hown Hwr y0 y1 y2
      obtain ⟨x0, x1, x2, x3, x4, x5, x6, x7, x8, x9, x10, x11, x12⟩ := (Hw4.out.blk Hbr3.out).rules
      obtain ⟨p0, p1, p2, p3, p4, p5⟩ := (Hw4.out.blk Hbp3.out).pos6
      obtain ⟨⟨m0, m1, m2⟩, -⟩ := Hm4.out.mv
      go_wp2_with (first
        | (go_at_call 31; refine (Hap2.out _).mono ?_; rintro e w5 ⟨rfl, hw5⟩; have Hw5 := hide (Hw4.out.trans hw5); have Hown5 := hide (own_later Hown4.out hw5); have Hle5 := hide Hw5.out.size; clear hw5 Hw4 Hown4 Hm4 x0 x1 x2 x3 x4 x5 x6 x7 x8 x9 x10 x11 x12 p0 p1 p2 p3 p4 p5 m0 m1 m2)
        | (at_builtin; refine wpList_appendK _ rfl (.tmp 24) (.tmp 29) 48 rfl w3.heap.size 24 i0 (.agg #[.int .i64 0, .int .i64 0, .string ⟨#[]⟩, .int .i64 0, .string ⟨#[]⟩, .string ⟨#[]⟩]) 6 72 Tryz.underlying48 Hi.out Hz0.out Hz1.out Hz2.out rfl (by decide) u9 k (cellsQ ((L.map (madeP r p)).take k)) rfl (World.ownsRow.alloc Hown5.out _) [.int .i64 q.w, .int .i64 q.h, .string q.cells, .int .i64 q.turn, .string q.h0, .string q.h1] rfl w5.heap.size 24 rfl (Blk.new w5 _ _) ?h1 ?h2 ?h3 ?h4 ?_))
      case h1 => simp [Value.oneCell']
      case h2 => unfold maxLen; omega
      case h3 => omega
      case h4 => exact Nat.le_trans Hle5.out (by simp)
      intro v' w6 hown6 hO hwh
      have Hown6 := hide (show w6.ownsRow w3.heap.size 24 6 v' (k + 1) (cellsQ ((L.map (madeP r p)).take (k + 1))) by rw [Htk.out]; exact hown6)
      have Hw6 := hide (show Later w3 w6 from (Hw5.out.alloc (.cells #[.int .i64 q.w, .int .i64 q.h, .string q.cells, .int .i64 q.turn, .string q.h0, .string q.h1] 24)).trans' hO (fun g hg => (Hown5.out.lt g hg).1))
      clear hown6 hO hwh
      go_wp2_with fail
      go_roundw
      case rel => exact ⟨k + 1, by omega, by go_num, Hown6.out, Hw6.out⟩
      case measure => simp [intOf]; omega
    · obtain rfl : k = L.length := by omega
      have Hc4 := hide ((Hc3.out.below Hwr.out).more Hwr.out.size)
      have hown := Hown.out
      rw [List.take_of_length_le (by simp)] at hown
      obtain ⟨A2, c2, rfl, -, -, hc⟩ := Cells.of_ownK hown
      have Hc := hide hc
      have Hw4 := hide (Hw3.out.trans Hwr.out)
      clear hown hc
      go_wp2_with fail
      go_ret3
      exact HNO.out _ _ _ _ _ Hc4.out Hc.out Hw4.out
end Go.Proofs.YtdfegpohmaideaaGreatDoor
/- Maps that a call makes, as lists of keys and values; ranging over one. -/
namespace Go.Proofs.YtdfegpohmaideaaGreatDoor
open Go.RowKit Go.WideMaps Go.Maps
open Go.MapKept (Stamped stamped_empty stamped_push stamped_modify heap_alloc)
open Go.ChangeMaps (setBlock modify_eq_set)

/-- a list read as a map -/
def getK {α β : Type} [DecidableEq α] (m : List (α × β)) (a : α) : Option β := (m.find? fun x => decide (x.1 = a)).map (·.2)
def hasK {α β : Type} [DecidableEq α] (m : List (α × β)) (a : α) : Bool := m.any fun x => decide (x.1 = a)
def putK {α β : Type} [DecidableEq α] (m : List (α × β)) (a : α) (v : β) : List (α × β) := if hasK m a then m.map (fun x => if x.1 = a then (a, v) else x) else m ++ [(a, v)]
section
variable {α β : Type} [DecidableEq α]
theorem getK_nil (a : α) : getK ([] : List (α × β)) a = none := rfl
theorem getK_cons (x : α × β) (m : List (α × β)) (a : α) : getK (x :: m) a = if x.1 = a then some x.2 else getK m a := by
  unfold getK
  by_cases h : x.1 = a <;> simp [h]
theorem getK_append (m n : List (α × β)) (a : α) : getK (m ++ n) a = (getK m a).or (getK n a) := by
  induction m with
  | nil => simp [getK_nil]
  | cons x m ih => rw [List.cons_append, getK_cons, getK_cons, ih]; split <;> simp
theorem getK_none {m : List (α × β)} {a : α} : getK m a = none ↔ ∀ x ∈ m, x.1 ≠ a := by
  unfold getK; simp
theorem hasK_iff {m : List (α × β)} {a : α} : hasK m a = true ↔ ∃ v, getK m a = some v := by
  unfold hasK
  rw [List.any_eq_true]
  constructor
  · rintro ⟨x, hx, hd⟩
    cases h : getK m a with
    | none => exact absurd (of_decide_eq_true hd) (getK_none.1 h x hx)
    | some v => exact ⟨v, rfl⟩
  · rintro ⟨v, h⟩
    obtain ⟨x, hx, hv⟩ := Option.map_eq_some_iff.1 h
    exact ⟨x, List.mem_of_find?_eq_some hx, List.find?_some (p := fun x : α × β => decide (x.1 = a)) hx⟩
theorem getK_mem {m : List (α × β)} {a : α} {v : β} (h : getK m a = some v) : (a, v) ∈ m := by
  obtain ⟨x, hx, hv⟩ := Option.map_eq_some_iff.1 h
  have h1 := List.mem_of_find?_eq_some hx
  have h2 : x.1 = a := of_decide_eq_true (List.find?_some (p := fun x : α × β => decide (x.1 = a)) hx)
  obtain ⟨x1, x2⟩ := x
  simp only at hv h2
  subst hv; subst h2
  exact h1
theorem getK_of_mem {m : List (α × β)} (hn : (m.map (·.1)).Nodup) {a : α} {v : β} (h : (a, v) ∈ m) : getK m a = some v := by
  induction m with
  | nil => simp at h
  | cons x m ih =>
    rw [List.map_cons, List.nodup_cons] at hn
    rw [getK_cons]
    rcases List.mem_cons.1 h with rfl | h'
    · simp
    · have hne : x.1 ≠ a := fun e => hn.1 (by rw [e]; exact List.mem_map.2 ⟨_, h', rfl⟩)
      rw [if_neg hne]
      exact ih hn.2 h'
theorem getK_map_same {m : List (α × β)} {a : α} {v : β} (h : hasK m a = true) : getK (m.map fun x => if x.1 = a then (a, v) else x) a = some v := by
  induction m with
  | nil => simp [hasK] at h
  | cons x m ih =>
    rw [List.map_cons, getK_cons]
    by_cases e : x.1 = a
    · simp [e]
    · have h2 : hasK m a = true := by simpa [hasK, e] using h
      simp only [if_neg e]
      exact ih h2
theorem getK_map_other {m : List (α × β)} {a b : α} {v : β} (hne : b ≠ a) : getK (m.map fun x => if x.1 = a then (a, v) else x) b = getK m b := by
  induction m with
  | nil => rfl
  | cons x m ih =>
    rw [List.map_cons, getK_cons, getK_cons, ih]
    by_cases e : x.1 = a
    · simp [e, Ne.symm hne]
    · simp only [if_neg e]
theorem getK_put_same (m : List (α × β)) (a : α) (v : β) : getK (putK m a v) a = some v := by
  unfold putK
  split
  · exact getK_map_same (by assumption)
  · rename_i h
    have : getK m a = none := by
      cases h2 : getK m a with
      | none => rfl
      | some u => exact absurd (hasK_iff.2 ⟨u, h2⟩) h
    rw [getK_append, this, getK_cons]; simp
theorem getK_put_other (m : List (α × β)) {a b : α} (v : β) (hne : b ≠ a) : getK (putK m a v) b = getK m b := by
  unfold putK
  split
  · exact getK_map_other hne
  · rw [getK_append, getK_cons, if_neg (by exact fun h => hne h.symm), getK_nil]; simp
theorem putK_keys_of_has {m : List (α × β)} {a : α} {v : β} (h : hasK m a = true) : (putK m a v).map (·.1) = m.map (·.1) := by
  unfold putK
  rw [if_pos h, List.map_map]
  refine List.map_congr_left (fun x _ => ?_)
  simp only [Function.comp]
  split
  · rename_i e; exact e.symm
  · rfl
theorem putK_of_not {m : List (α × β)} {a : α} {v : β} (h : ¬ hasK m a = true) : putK m a v = m ++ [(a, v)] := if_neg h
theorem putK_ok {ok : α → Prop} {m : List (α × β)} {a : α} {v : β} (h : ∀ x ∈ m, ok x.1) (ha : ok a) : ∀ x ∈ putK m a v, ok x.1 := by
  intro x hx
  unfold putK at hx
  split at hx
  · obtain ⟨y, hy, rfl⟩ := List.mem_map.1 hx
    split
    · exact ha
    · exact h y hy
  · rcases List.mem_append.1 hx with h1 | h1
    · exact h x h1
    · rw [List.mem_singleton.1 h1]; exact ha
end

theorem putK_set {α β : Type} [DecidableEq α] {m : List (α × β)} {a : α} {v : β} {j : Nat} {y : α × β} (hnd : (m.map (·.1)).Nodup) (hy : m[j]? = some y) (e3 : y.1 = a) : putK m a v = m.set j (a, v) := by
  have hh : hasK m a = true := hasK_iff.2 ⟨y.2, getK_of_mem hnd (by rw [← e3]; exact List.mem_of_getElem? hy)⟩
  unfold putK
  rw [if_pos hh]
  apply List.ext_getElem?
  intro i
  rw [List.getElem?_map, List.getElem?_set]
  by_cases hij : j = i
  · subst hij
    have hlt : j < m.length := (List.getElem?_eq_some_iff.1 hy).1
    rw [if_pos rfl, if_pos hlt, hy, Option.map_some, if_pos e3]
  · rw [if_neg hij]
    cases hmi : m[i]? with
    | none => rfl
    | some z =>
      simp only [Option.map_some]
      have : z.1 ≠ a := fun e5 => by
        have i1 : (m.map (·.1))[i]? = some a := by rw [List.getElem?_map, hmi]; simp [e5]
        have i2 : (m.map (·.1))[j]? = some a := by rw [List.getElem?_map, hy]; simp [e3]
        obtain ⟨l1, q1⟩ := List.getElem?_eq_some_iff.1 i1
        obtain ⟨l2, q2⟩ := List.getElem?_eq_some_iff.1 i2
        exact hij ((List.getElem_inj hnd).1 (q2.trans q1.symm))
      rw [if_neg this]
/-- how keys are written -/
structure KeyEnc {α : Type} (P : Program) (k : TypeId) (ka : α → Value) (ok : α → Prop) : Prop where
  keyed : Keyed P k
  key : ∀ a, ok a → ∃ l, keyOf P k (ka a) = some l
  inj : ∀ a b, ka a = ka b → a = b
/-- block b is a map that reads as m -/
def MapL {α β : Type} (ka : α → Value) (kb : β → Value) (ok : α → Prop) (w : World) (b : Nat) (m : List (α × β)) : Prop :=
  ∃ es clock, w.heap[b]? = some (.map es clock) ∧ es.toList.map (fun x => (x.key, x.val)) = m.map (fun x => (ka x.1, kb x.2)) ∧ Stamped es clock ∧ ∀ x ∈ m, ok x.1
section
variable {α β : Type} {P : Program} {k e t : TypeId} {ka : α → Value} {kb : β → Value} {ok : α → Prop} {w : World} {b : Nat} {m : List (α × β)}
theorem MapL.made (w : World) : MapL ka kb ok (w.alloc (.map #[] 0)) w.heap.size [] := ⟨#[], 0, (heap_alloc w _).1, rfl, stamped_empty 0, by simp⟩
theorem MapL.lt (h : MapL ka kb ok w b m) : b < w.heap.size := by
  obtain ⟨es, clock, hb, _⟩ := h
  exact (Array.getElem?_eq_some_iff.1 hb).1
theorem MapL.kept {w' : World} {row : Option Nat} (h : MapL ka kb ok w b m) (hg : w.grownBy w' row) (hne : some b ≠ row) : MapL ka kb ok w' b m := by
  have hlt := h.lt
  obtain ⟨es, clock, hb, rest⟩ := h
  exact ⟨es, clock, (hg.block b hlt hne).trans hb, rest⟩
theorem MapL.nodup (h : MapL ka kb ok w b m) : (m.map (·.1)).Nodup := by
  obtain ⟨es, clock, hb, he, hs, _⟩ := h
  have h3 := hs.2.2
  have e1 : es.toList.map (·.key) = (m.map (·.1)).map ka := by
    have := congrArg (List.map Prod.fst) he
    simpa [List.map_map, Function.comp_def] using this
  rw [e1] at h3
  exact List.Pairwise.of_map ka (fun a b h e => h (by rw [e])) h3
theorem MapL.keys (h : MapL ka kb ok w b m) (K : KeyEnc P k ka ok) : ∃ es clock, w.heap[b]? = some (.map es clock) ∧ es.toList.map (fun x => (x.key, x.val)) = m.map (fun x => (ka x.1, kb x.2)) ∧ Stamped es clock ∧ (∀ x ∈ m, ok x.1) ∧ ∀ x ∈ es.toList, ∃ l, keyOf P k x.key = some l := by
  obtain ⟨es, clock, hb, he, hs, ho⟩ := h
  refine ⟨es, clock, hb, he, hs, ho, fun x hx => ?_⟩
  have : (x.key, x.val) ∈ es.toList.map (fun x => (x.key, x.val)) := List.mem_map.2 ⟨x, hx, rfl⟩
  rw [he] at this
  obtain ⟨y, hy, e1⟩ := List.mem_map.1 this
  injection e1 with e1 _
  obtain ⟨l, hl⟩ := K.key y.1 (ho y hy)
  exact ⟨l, by rw [← e1]; exact hl⟩
theorem MapL.len (h : MapL ka kb ok w b m) (ht : P.underlying t = some (.map k e)) (ty : TypeId) : (Builtin.len_ #[t] ty #[.map (some b)]).run P w = .ok (.int .i64 m.length) w := by
  obtain ⟨es, clock, hb, he, _⟩ := h
  have e1 : es.size = m.length := by have := congrArg List.length he; simpa using this
  simp [Builtin.len_, run_underlying ht, Go.MapKept.run_getObj_map hb, goInt, Result.andThen, e1]
theorem heap_setBlock_eq {w : World} {b : Nat} {o o' : Obj} (h : w.heap[b]? = some o) : (setBlock w b o').heap[b]? = some o' := by
  have hlt := (Array.getElem?_eq_some_iff.1 h).1
  simp [setBlock, hlt]
theorem grown_setBlock {w : World} {b : Nat} (o' : Obj) : w.grownBy (setBlock w b o') (some b) := ⟨rfl, rfl, rfl, by simp [setBlock], fun i _ hi => by
  simp only [setBlock]
  exact Array.getElem?_setIfInBounds_ne (fun e => hi (by rw [e]))⟩
end
section
variable {α β : Type} [DecidableEq α] {P : Program} {k e t : TypeId} {ka : α → Value} {kb : β → Value} {ok : α → Prop} {w : World} {b : Nat} {m : List (α × β)}
theorem MapL.look (h : MapL ka kb ok w b m) (K : KeyEnc P k ka ok) (ht : P.underlying t = some (.map k e)) {z : Value} (hz : (zeroValue e).run P w = .ok z w) {a : α} (ha : ok a) (c : Bool) :
    (Instr.lookup t (.map (some b)) (ka a) c).run P w = .ok (if c then .tuple #[((getK m a).map kb).getD z, .bool (getK m a).isSome] else ((getK m a).map kb).getD z) w := by
  have hnd := h.nodup
  obtain ⟨es, clock, hb, he, hs, ho, hk⟩ := h.keys K
  obtain ⟨l, hkey⟩ := K.key a ha
  have hlen : es.toList.length = m.length := by have := congrArg List.length he; simpa using this
  rcases K.keyed.find w hkey es.toList hk with ⟨h1, h2⟩ | ⟨j, e0, h1, h2, h3⟩
  · have hn : getK m a = none := by
      rw [getK_none]
      intro x hx e1
      have : (ka x.1, kb x.2) ∈ es.toList.map (fun x => (x.key, x.val)) := by rw [he]; exact List.mem_map.2 ⟨x, hx, rfl⟩
      obtain ⟨y, hy, e2⟩ := List.mem_map.1 this
      injection e2 with e2 _
      exact h2 y hy (by rw [e2, e1])
    rw [hn]
    simp [Instr.lookup, run_underlying ht, Go.MapKept.run_getObj_map hb, K.keyed.check w _ hkey, h1, hz, Result.andThen]
  · have : (e0.key, e0.val) ∈ es.toList.map (fun x => (x.key, x.val)) := List.mem_map.2 ⟨e0, List.mem_of_getElem? h2, rfl⟩
    rw [he] at this
    obtain ⟨y, hy, e1⟩ := List.mem_map.1 this
    injection e1 with e1 e2
    have e3 : y.1 = a := K.inj _ _ (e1.trans h3)
    have hs2 : getK m a = some y.2 := getK_of_mem hnd (by rw [← e3]; exact hy)
    rw [hs2]
    simp [Instr.lookup, run_underlying ht, Go.MapKept.run_getObj_map hb, K.keyed.check w _ hkey, h1, Result.andThen, e2]
theorem MapL.put (h : MapL ka kb ok w b m) (K : KeyEnc P k ka ok) (ht : P.underlying t = some (.map k e)) {a : α} (ha : ok a) (v : β) :
    ∃ w', (Instr.mapUpdate t (.map (some b)) (ka a) (kb v)).run P w = .ok () w' ∧ MapL ka kb ok w' b (putK m a v) ∧ w.grownBy w' (some b) ∧ w'.heap.size = w.heap.size := by
  have hnd := h.nodup
  obtain ⟨es, clock, hb, he, hs, ho, hk⟩ := h.keys K
  obtain ⟨l, hkey⟩ := K.key a ha
  rcases K.keyed.find w hkey es.toList hk with ⟨h1, h2⟩ | ⟨j, e0, h1, h2, h3⟩
  · have hn : ¬ hasK m a = true := fun hh => by
      obtain ⟨u, hu⟩ := hasK_iff.1 hh
      have : (ka a, kb u) ∈ es.toList.map (fun x => (x.key, x.val)) := by rw [he]; exact List.mem_map.2 ⟨_, getK_mem hu, rfl⟩
      obtain ⟨y, hy, e2⟩ := List.mem_map.1 this
      injection e2 with e2 _
      exact h2 y hy e2
    refine ⟨setBlock w b (.map (es.push ⟨ka a, kb v, clock⟩) (clock + 1)), ?_, ⟨_, _, heap_setBlock_eq hb, ?_, stamped_push hs h2, putK_ok ho ha⟩, grown_setBlock _, by simp [setBlock]⟩
    · simp [Instr.mapUpdate, run_underlying ht, Go.MapKept.run_getObj_map hb, K.keyed.check w false hkey, h1, Go.MapKept.run_setObj_map _ hb, Result.andThen, setBlock]
    · rw [putK_of_not hn, Array.toList_push, List.map_append, List.map_append, he]
      rfl
  · have hj : es[j]? = some e0 := by simpa using h2
    have hkeyf : ∀ e' ∈ es.toList, es[j]? = some e' → ({ e' with key := ka a, val := kb v } : MapEntry).key = e'.key := fun e' _ he' => by rw [hj] at he'; cases he'; exact h3.symm
    have hlist : (es.modify j (fun e' => { e' with key := ka a, val := kb v })).toList = es.toList.set j { e0 with key := ka a, val := kb v } := by
      rw [Array.toList_modify, modify_eq_set _ _ _ _ h2]
    refine ⟨setBlock w b (.map (es.modify j (fun e' => { e' with key := ka a, val := kb v })) clock), ?_, ⟨_, _, heap_setBlock_eq hb, ?_, stamped_modify hs _ _ (fun _ _ => rfl) hkeyf, putK_ok ho ha⟩, grown_setBlock _, by simp [setBlock]⟩
    · simp [Instr.mapUpdate, run_underlying ht, Go.MapKept.run_getObj_map hb, K.keyed.check w false hkey, h1, hj, h3, K.keyed.stays w hkey, Go.MapKept.run_setObj_map _ hb, Result.andThen, setBlock]
    · have hm : (m.map (fun x => (ka x.1, kb x.2)))[j]? = some (e0.key, e0.val) := by rw [← he, List.getElem?_map, h2]; rfl
      rw [List.getElem?_map] at hm
      obtain ⟨y, hy, e1⟩ := Option.map_eq_some_iff.1 hm
      injection e1 with e1 e2
      have e3 : y.1 = a := K.inj _ _ (e1.trans h3)
      have e4 : putK m a v = m.set j (a, v) := putK_set hnd hy e3
      rw [hlist, e4, List.map_set, List.map_set, he]
end

/-- ranging over the map in block b, by the iterator in block r: what is left -/
def RangeL {α β : Type} (ka : α → Value) (kb : β → Value) (ok : α → Prop) (w : World) (b r : Nat) (m left : List (α × β)) : Prop :=
  ∃ es clock since seen c0, w.heap[b]? = some (.map es clock) ∧ es.toList.map (fun x => (x.key, x.val)) = m.map (fun x => (ka x.1, kb x.2)) ∧ Stamped es clock ∧ (∀ x ∈ m, ok x.1) ∧
    w.heap[r]? = some (.mapIter (some b) since seen c0) ∧ (∀ x ∈ es.toList, x.born < since) ∧ since ≤ c0 ∧ since ≤ clock ∧ (leftOf es seen).toList.map (fun x => (x.key, x.val)) = left.map (fun x => (ka x.1, kb x.2))
section
variable {α β : Type} {P : Program} {k e t : TypeId} {ka : α → Value} {kb : β → Value} {ok : α → Prop} {w : World} {b r : Nat} {m left : List (α × β)}
theorem RangeL.map (h : RangeL ka kb ok w b r m left) : MapL ka kb ok w b m := by
  obtain ⟨es, clock, since, seen, c0, h1, h2, h3, h4, _⟩ := h
  exact ⟨es, clock, h1, h2, h3, h4⟩
theorem RangeL.lt (h : RangeL ka kb ok w b r m left) : r < w.heap.size := by
  obtain ⟨es, clock, since, seen, c0, h1, h2, h3, h4, h5, _⟩ := h
  exact (Array.getElem?_eq_some_iff.1 h5).1
theorem RangeL.kept {w' : World} {row : Option Nat} (h : RangeL ka kb ok w b r m left) (hg : w.grownBy w' row) (hb' : some b ≠ row) (hr' : some r ≠ row) : RangeL ka kb ok w' b r m left := by
  have l1 := h.map.lt
  have l2 := h.lt
  obtain ⟨es, clock, since, seen, c0, h1, h2, h3, h4, h5, rest⟩ := h
  exact ⟨es, clock, since, seen, c0, (hg.block b l1 hb').trans h1, h2, h3, h4, (hg.block r l2 hr').trans h5, rest⟩
theorem MapL.range (h : MapL ka kb ok w b m) (ht : P.underlying t = some (.map k e)) :
    ∃ w', (Instr.range t (.map (some b))).run P w = .ok (.pointer (some ⟨w.heap.size, 0, none⟩)) w' ∧ RangeL ka kb ok w' b w.heap.size m m ∧ w.grownBy w' none ∧ w'.heap.size = w.heap.size + 1 := by
  have hlt := h.lt
  obtain ⟨es, clock, hb, he, hs, ho⟩ := h
  refine ⟨_, run_range_map w t k e b es clock ht hb, ⟨es, clock, clock, #[], clock, ((heap_alloc w _).2 b hlt).trans hb, he, hs, ho, (heap_alloc w _).1, hs.1, Nat.le_refl _, Nat.le_refl _, ?_⟩, World.grownBy_alloc w _ none, by simp⟩
  have e1 : (leftOf es #[]).toList = es.toList := by
    unfold leftOf
    rw [Array.toList_filter]
    exact List.filter_eq_self.2 (fun x _ => by simp)
  rw [e1]; exact he
theorem split_born : ∀ (L : List MapEntry) (x : MapEntry), (L.map (·.born)).Nodup → x ∈ L → ∃ l1 l2, L = l1 ++ x :: l2 ∧ L.filter (fun y => !(y.born == x.born)) = l1 ++ l2
  | [], x, _, h => by simp at h
  | y :: L, x, hn, h => by
    rw [List.map_cons, List.nodup_cons] at hn
    by_cases e : y = x
    · subst e
      refine ⟨[], L, rfl, ?_⟩
      rw [List.filter_cons_of_neg (by simp), List.nil_append]
      refine List.filter_eq_self.2 (fun z hz => ?_)
      have : z.born ≠ y.born := fun e2 => hn.1 (by rw [← e2]; exact List.mem_map.2 ⟨z, hz, rfl⟩)
      simpa using this
    · have hx : x ∈ L := by
        rcases List.mem_cons.1 h with h1 | h1
        · exact absurd h1.symm e
        · exact h1
      obtain ⟨l1, l2, e1, e2⟩ := split_born L x hn.2 hx
      have hne : y.born ≠ x.born := fun e3 => hn.1 (by rw [e3]; exact List.mem_map.2 ⟨x, hx, rfl⟩)
      refine ⟨y :: l1, l2, by rw [e1]; rfl, ?_⟩
      rw [List.filter_cons_of_pos (by simpa using hne), e2]
      rfl
theorem map_split {γ δ ε : Type} {f : γ → ε} {g : δ → ε} : ∀ (l1 : List γ) (x : γ) (l2 : List γ) (m : List δ), (l1 ++ x :: l2).map f = m.map g → ∃ m1 y m2, m = m1 ++ y :: m2 ∧ f x = g y ∧ (l1 ++ l2).map f = (m1 ++ m2).map g
  | [], x, l2, m, h => by
    cases m with
    | nil => simp at h
    | cons y m =>
      simp only [List.nil_append, List.map_cons, List.cons.injEq] at h
      exact ⟨[], y, m, rfl, h.1, by simpa using h.2⟩
  | z :: l1, x, l2, m, h => by
    cases m with
    | nil => simp at h
    | cons y m =>
      simp only [List.cons_append, List.map_cons, List.cons.injEq] at h
      obtain ⟨m1, u, m2, e1, e2, e3⟩ := map_split l1 x l2 m h.2
      exact ⟨y :: m1, u, m2, by rw [e1]; rfl, e2, by simp only [List.cons_append, List.map_cons, h.1, e3]⟩
theorem RangeL.next (h : RangeL ka kb ok w b r m left) (ty : TypeId) :
    (left = [] ∧ (Instr.next (.pointer (some ⟨r, 0, none⟩)) false ty).run P w = .ok (.tuple #[.bool false]) w) ∨
    ∃ l1 x l2 w', left = l1 ++ x :: l2 ∧ (Instr.next (.pointer (some ⟨r, 0, none⟩)) false ty).run P w = .ok (.tuple #[.bool true, ka x.1, kb x.2]) w' ∧ RangeL ka kb ok w' b r m (l1 ++ l2) ∧ w.grownBy w' (some r) ∧ w'.heap.size = w.heap.size ∧
      (Instr.entry (.pointer (some ⟨r, 0, none⟩))).run P w' = .ok (.tuple #[ka x.1, kb x.2]) w' := by
  obtain ⟨es, clock, since, seen, c0, hb, he, hs, ho, hr, hold, hsc, hsk, hleft⟩ := h
  have hne : r ≠ b := fun e1 => by rw [e1, hb] at hr; cases hr
  rcases run_next_at (P := P) w ty r b since c0 seen es clock hr hb hold hsc with ⟨h0, hrun⟩ | ⟨x, hx, w1, hal, hrun⟩
  · refine Or.inl ⟨?_, hrun⟩
    have h1 : (leftOf es seen).toList = [] := by
      have : (leftOf es seen).toList.length = 0 := by simpa using h0
      exact List.length_eq_zero_iff.1 this
    rw [h1] at hleft
    cases left with
    | nil => rfl
    | cons y l => simp at hleft
  · have hbn : ((leftOf es seen).toList.map (·.born)).Nodup := by
      unfold leftOf
      rw [Array.toList_filter]
      exact (List.filter_sublist.map _).nodup hs.2.1
    obtain ⟨l1, l2, e1, e2⟩ := split_born _ x hbn hx
    rw [e1] at hleft
    obtain ⟨m1, y, m2, e3, e4, e5⟩ := map_split l1 x l2 left hleft
    injection e4 with e4 e6
    have hxe : x ∈ es.toList := by
      unfold leftOf at hx
      rw [Array.toList_filter] at hx
      exact (List.mem_filter.1 hx).1
    have hr1 : w1.heap[r]? = some (.mapIter (some b) since seen c0) := by rcases hal with rfl | rfl <;> exact hr
    have hb1 : w1.heap[b]? = some (.map es clock) := by rcases hal with rfl | rfl <;> exact hb
    have hb' : (setBlock w1 r (.mapIter (some b) since (seen.push x.born) clock)).heap[b]? = some (.map es clock) := ((grown_setBlock (w := w1) (b := r) _).block b (Array.getElem?_eq_some_iff.1 hb1).1 (fun e => hne (Option.some.inj e).symm)).trans hb1
    have hl2 : (leftOf es (seen.push x.born)).toList = l1 ++ l2 := by
      rw [← e2]
      unfold leftOf
      rw [Array.toList_filter, Array.toList_filter, List.filter_filter]
      refine List.filter_congr (fun z _ => ?_)
      rw [Array.contains_push]
      simp [Bool.and_comm]
    refine Or.inr ⟨m1, y, m2, setBlock w1 r (.mapIter (some b) since (seen.push x.born) clock), e3, ?_, ⟨es, clock, since, seen.push x.born, clock, hb', he, hs, ho, heap_setBlock_eq hr1, hold, hsk, hsk, by rw [hl2]; exact e5⟩, ?_, ?_, ?_⟩
    · rw [← e4, ← e6]; exact hrun
    · have h1 := grown_setBlock (w := w1) (b := r) (.mapIter (some b) since (seen.push x.born) clock)
      rcases hal with rfl | rfl
      · exact h1
      · exact ⟨h1.os, rfl, h1.output, h1.size, h1.block⟩
    · rcases hal with rfl | rfl <;> simp [setBlock]
    · rw [← e4, ← e6]
      exact run_entry_at _ r b since seen es clock x (heap_setBlock_eq hr1) hb' hxe hs.2.1
end
end Go.Proofs.YtdfegpohmaideaaGreatDoor
/- m[k] op= v: the entry laid first, then stored. -/
namespace Go.Proofs.YtdfegpohmaideaaGreatDoor
open Go.RowKit Go.WideMaps Go.Maps
open Go.MapKept (Stamped stamped_push stamped_modify)
open Go.ChangeMaps (setBlock modify_eq_set)
open Go.WideElems (findIdx_arr findIdx_born modify_last set_self)

/-- the map with a place for a key -/
def openK {α β : Type} [DecidableEq α] (m : List (α × β)) (a : α) (z : β) : List (α × β) := if hasK m a then m else m ++ [(a, z)]
theorem getK_open {α β : Type} [DecidableEq α] (m : List (α × β)) (a : α) (z : β) : (getK (openK m a z) a).getD z = (getK m a).getD z := by
  unfold openK
  split
  · rfl
  · rename_i h
    have : getK m a = none := by
      cases h2 : getK m a with
      | none => rfl
      | some u => exact absurd (hasK_iff.2 ⟨u, h2⟩) h
    rw [getK_append, this, getK_cons]; simp
section
variable {α β : Type} [DecidableEq α] {P : Program} {k e t : TypeId} {ka : α → Value} {kb : β → Value} {ok : α → Prop} {w : World} {b : Nat} {m : List (α × β)}
theorem MapL.entry (h : MapL ka kb ok w b m) (K : KeyEnc P k ka ok) (ht : P.underlying t = some (.map k e)) {z : β} (hz : ∀ u, (zeroValue e).run P u = .ok (kb z) u) {a : α} (ha : ok a) :
    ∃ (st : Nat) (es1 : Array MapEntry) (clock1 : Nat), (∀ u : World, u.heap = w.heap → (Instr.mapEntry t (.map (some b)) (ka a)).run P u = .ok (.tuple #[kb ((getK m a).getD z), goInt st]) (setBlock u b (.map es1 clock1))) ∧
      MapL ka kb ok (setBlock w b (.map es1 clock1)) b (openK m a z) ∧
      ∀ v : β, ∃ es2 clock2, (∀ u : World, u.heap[b]? = some (.map es1 clock1) → (Instr.entryStore t (.map (some b)) (goInt st) (kb v)).run P u = .ok () (setBlock u b (.map es2 clock2))) ∧
        ∀ u : World, b < u.heap.size → MapL ka kb ok (setBlock u b (.map es2 clock2)) b (putK m a v) := by
  have hnd := h.nodup
  obtain ⟨es, clock, hb, he, hs, ho, hk⟩ := h.keys K
  obtain ⟨l, hkey⟩ := K.key a ha
  have heap_same : ∀ (u : World) (o : Obj), b < u.heap.size → (setBlock u b o).heap[b]? = some o := fun u o hu => by simp [setBlock, hu]
  rcases K.keyed.find w hkey es.toList hk with ⟨h1, h2⟩ | ⟨j, e0, h1, h2, h3⟩
  · have hn : ¬ hasK m a = true := fun hh => by
      obtain ⟨u, hu⟩ := hasK_iff.1 hh
      have : (ka a, kb u) ∈ es.toList.map (fun x => (x.key, x.val)) := by rw [he]; exact List.mem_map.2 ⟨_, getK_mem hu, rfl⟩
      obtain ⟨y, hy, e2⟩ := List.mem_map.1 this
      injection e2 with e2 _
      exact h2 y hy e2
    have hg : getK m a = none := by
      cases h2 : getK m a with
      | none => rfl
      | some u => exact absurd (hasK_iff.2 ⟨u, h2⟩) hn
    refine ⟨clock, es.push ⟨ka a, kb z, clock⟩, clock + 1, fun u hu => ?_, ⟨_, _, heap_setBlock_eq hb, ?_, stamped_push hs h2, ?_⟩, fun v => ⟨es.push ⟨ka a, kb v, clock⟩, clock + 1, fun u hu => ?_, fun u hu => ⟨_, _, heap_same u _ hu, ?_, stamped_push hs h2, putK_ok ho ha⟩⟩⟩
    · have hbu : u.heap[b]? = some (.map es clock) := by rw [hu]; exact hb
      have h1u : (Instr.findKey k (ka a) es.toList).run P u = .ok none u := by
        rcases K.keyed.find u hkey es.toList hk with ⟨q1, _⟩ | ⟨j, e0, _, q2, q3⟩
        · exact q1
        · exact absurd q3 (h2 e0 (List.mem_of_getElem? q2))
      rw [hg]
      simp [Instr.mapEntry, run_underlying ht, Go.MapKept.run_getObj_map hbu, K.keyed.check u false hkey, h1u, hz, Go.MapKept.run_setObj_map _ hbu, Result.andThen, setBlock]
    · unfold openK
      rw [if_neg hn, Array.toList_push, List.map_append, List.map_append, he]
      rfl
    · intro x hx
      unfold openK at hx
      rw [if_neg hn] at hx
      rcases List.mem_append.1 hx with q | q
      · exact ho x q
      · rw [List.mem_singleton.1 q]; exact ha
    · have hidx : (es.push ⟨ka a, kb z, clock⟩).findIdx? (fun e => ((e.born : Nat) : Int) == ((clock : Nat) : Int)) = some es.size := by
        rw [findIdx_arr]
        have := findIdx_born (l := (es.push ⟨ka a, kb z, clock⟩).toList) (j := es.size) (e0 := ⟨ka a, kb z, clock⟩) (by
          simp only [Array.toList_push, List.map_append, List.map_cons, List.map_nil]
          refine List.nodup_append.2 ⟨hs.2.1, by simp, fun a ha c hc e1 => ?_⟩
          simp only [List.mem_singleton] at hc
          obtain ⟨x, hx, rfl⟩ := List.mem_map.1 ha
          have := hs.1 x hx
          omega) (by simp)
        exact this
      have hmod : (es.push ⟨ka a, kb z, clock⟩).modify es.size (fun e => { e with val := kb v }) = es.push ⟨ka a, kb v, clock⟩ := by
        apply Array.ext'
        rw [Array.toList_modify, Array.toList_push, Array.toList_push, ← Array.length_toList, modify_last]
      simp [Instr.entryStore, Go.MapKept.run_getObj_map hu, asInt, asIntOf, goInt, hidx, hmod, Go.MapKept.run_setObj_map _ hu, Result.andThen, setBlock]
    · rw [putK_of_not hn, Array.toList_push, List.map_append, List.map_append, he]
      rfl
  · have hj : es[j]? = some e0 := by simpa using h2
    have hsame : es.modify j (fun e => { e with key := ka a }) = es := by
      apply Array.ext'
      rw [Array.toList_modify, modify_eq_set _ _ _ _ h2]
      have : ({ e0 with key := ka a } : MapEntry) = e0 := by rw [← h3]
      rw [this]
      exact set_self _ _ _ h2
    have hmm : (m.map (fun x => (ka x.1, kb x.2)))[j]? = some (e0.key, e0.val) := by rw [← he, List.getElem?_map, h2]; rfl
    rw [List.getElem?_map] at hmm
    obtain ⟨y, hy, e1⟩ := Option.map_eq_some_iff.1 hmm
    injection e1 with e1 e2
    have e3 : y.1 = a := K.inj _ _ (e1.trans h3)
    have hgy : getK m a = some y.2 := getK_of_mem hnd (by rw [← e3]; exact List.mem_of_getElem? hy)
    have hh : hasK m a = true := hasK_iff.2 ⟨y.2, hgy⟩
    have hkeyf : ∀ v : β, ∀ e' ∈ es.toList, es[j]? = some e' → ({ e' with key := ka a, val := kb v } : MapEntry).key = e'.key := fun v e' _ he' => by rw [hj] at he'; cases he'; exact h3.symm
    refine ⟨e0.born, es, clock, fun u hu => ?_, ⟨_, _, heap_setBlock_eq hb, ?_, hs, ?_⟩, fun v => ⟨es.modify j (fun e' => { e' with key := ka a, val := kb v }), clock, fun u hu => ?_, fun u hu => ⟨_, _, heap_same u _ hu, ?_, stamped_modify hs _ _ (fun _ _ => rfl) (hkeyf v), putK_ok ho ha⟩⟩⟩
    · have hbu : u.heap[b]? = some (.map es clock) := by rw [hu]; exact hb
      have h1u : (Instr.findKey k (ka a) es.toList).run P u = .ok (some (j, e0.val)) u := by
        rcases K.keyed.find u hkey es.toList hk with ⟨_, q2⟩ | ⟨j', e0', q1, q2, q3⟩
        · exact absurd h3 (q2 e0 (List.mem_of_getElem? h2))
        · have : j' = j := by
            have hnk := hs.2.2
            obtain ⟨l1, p1⟩ := List.getElem?_eq_some_iff.1 q2
            obtain ⟨l2, p2⟩ := List.getElem?_eq_some_iff.1 h2
            refine (List.getElem_inj (h₀ := by simpa using l1) (h₁ := by simpa using l2) hs.2.2).1 ?_
            simp only [List.getElem_map, p1, p2, q3, h3]
          subst this
          rw [h2] at q2
          cases q2
          exact q1
      rw [hgy]
      simp [Instr.mapEntry, run_underlying ht, Go.MapKept.run_getObj_map hbu, K.keyed.check u false hkey, h1u, hj, h3, K.keyed.stays u hkey, hsame, Go.MapKept.run_setObj_map _ hbu, Result.andThen, setBlock, e2]
    · unfold openK
      rw [if_pos hh]
      exact he
    · unfold openK
      rw [if_pos hh]
      exact ho
    · have hidx : es.findIdx? (fun e => ((e.born : Nat) : Int) == ((e0.born : Nat) : Int)) = some j := by
        rw [findIdx_arr]
        exact findIdx_born hs.2.1 h2
      have hmod : es.modify j (fun e => { e with val := kb v }) = es.modify j (fun e' => { e' with key := ka a, val := kb v }) := by
        apply Array.ext'
        rw [Array.toList_modify, Array.toList_modify, modify_eq_set _ _ _ _ h2, modify_eq_set _ _ _ _ h2, ← h3]
      simp [Instr.entryStore, Go.MapKept.run_getObj_map hu, asInt, asIntOf, goInt, hidx, hmod, Go.MapKept.run_setObj_map _ hu, Result.andThen, setBlock]
    · have hlist : (es.modify j (fun e' => { e' with key := ka a, val := kb v })).toList = es.toList.set j { e0 with key := ka a, val := kb v } := by
        rw [Array.toList_modify, modify_eq_set _ _ _ _ h2]
      have e4 : putK m a v = m.set j (a, v) := putK_set hnd hy e3
      rw [hlist, e4, List.map_set, List.map_set, he]
end
end Go.Proofs.YtdfegpohmaideaaGreatDoor
/- Maps at the operations, for the walk. -/
namespace Go.Proofs.YtdfegpohmaideaaGreatDoor
open Go.RowKit Go.Maps

section
variable {α β : Type} {P : Program} {k e t : TypeId} {ka : α → Value} {kb : β → Value} {ok : α → Prop} (w : World) {b r : Nat} {m left : List (α × β)} {ops : Array Oper} {rest : List Oper} {o : Oper} {a : Act} {Q : Exit → Act → World → Prop}
theorem RangeL.left_eq {w : World} (h : RangeL ka kb ok w b r m left) : w.rangeLeft b r = left.length := by
  obtain ⟨es, clock, since, seen, c0, h1, h2, h3, h4, h5, h6, h7, h8, h9⟩ := h
  simp only [World.rangeLeft, h1, h5]
  have := congrArg List.length h9
  simpa using this
theorem wpList_rangeL (hg : o.guard = none) (x : Operand) (t : TypeId) (hop : o.op = Op.range t x) (k e : TypeId) (ht : P.underlying t = some (.map k e)) (b : Nat) (m : List (α × β)) (hm : a.eval x = .map (some b)) (h : MapL ka kb ok w b m)
    (hK : ∀ w', RangeL ka kb ok w' b w.heap.size m m → w.grownBy w' none → w'.heap.size = w.heap.size + 1 → wpList P ops Q rest (a.put o.dst (.pointer (some ⟨w.heap.size, 0, none⟩))) w') :
    wpList P ops Q (o :: rest) a w := by
  refine wpList_plain hg fun K' hK' => ?_
  obtain ⟨w', hrun, r1, r2, r3⟩ := h.range ht
  unfold Oper.wp
  simp [execOp, hop, hm, hrun, Result.andThen]
  exact hK' _ _ (hK w' r1 r2 r3)
theorem wpList_nextL (hg : o.guard = none) (it : Operand) (hop : o.op = Op.next it false) (b r : Nat) (m left : List (α × β)) (hit : a.eval it = .pointer (some ⟨r, 0, none⟩)) (h : RangeL ka kb ok w b r m left)
    (hDone : left = [] → wpList P ops Q rest (a.put o.dst (.tuple #[.bool false])) w)
    (hMore : ∀ l1 x l2 w', left = l1 ++ x :: l2 → RangeL ka kb ok w' b r m (l1 ++ l2) → w.grownBy w' (some r) → w'.heap.size = w.heap.size → (Instr.entry (.pointer (some ⟨r, 0, none⟩))).run P w' = .ok (.tuple #[ka x.1, kb x.2]) w' →
      wpList P ops Q rest (a.put o.dst (.tuple #[.bool true, ka x.1, kb x.2])) w') :
    wpList P ops Q (o :: rest) a w := by
  refine wpList_plain hg fun K' hK' => ?_
  unfold Oper.wp
  rcases h.next (P := P) o.type with ⟨h0, hrun⟩ | ⟨l1, x, l2, w', e1, hrun, h1, h2, h3, h4⟩
  · simp [execOp, hop, hit, hrun, Result.andThen]
    exact hK' _ _ (hDone h0)
  · simp [execOp, hop, hit, hrun, Result.andThen]
    exact hK' _ _ (hMore l1 x l2 w' e1 h1 h2 h3 h4)
theorem wpList_nextL_done (hg : o.guard = none) (it : Operand) (hop : o.op = Op.next it false) (b r : Nat) (m : List (α × β)) (hit : a.eval it = .pointer (some ⟨r, 0, none⟩)) (h : RangeL ka kb ok w b r m [])
    (hDone : wpList P ops Q rest (a.put o.dst (.tuple #[.bool false])) w) : wpList P ops Q (o :: rest) a w :=
  wpList_nextL w hg it hop b r m [] hit h (fun _ => hDone) (fun l1 x l2 _ e => by simp at e)
theorem wpList_nextL_more (hg : o.guard = none) (it : Operand) (hop : o.op = Op.next it false) (b r : Nat) (m : List (α × β)) (y : α × β) (l : List (α × β)) (hit : a.eval it = .pointer (some ⟨r, 0, none⟩)) (h : RangeL ka kb ok w b r m (y :: l))
    (hMore : ∀ l1 x l2 w', y :: l = l1 ++ x :: l2 → RangeL ka kb ok w' b r m (l1 ++ l2) → w.grownBy w' (some r) → w'.heap.size = w.heap.size → (Instr.entry (.pointer (some ⟨r, 0, none⟩))).run P w' = .ok (.tuple #[ka x.1, kb x.2]) w' →
      wpList P ops Q rest (a.put o.dst (.tuple #[.bool true, ka x.1, kb x.2])) w') : wpList P ops Q (o :: rest) a w :=
  wpList_nextL w hg it hop b r m (y :: l) hit h (fun e => by simp at e) hMore
end
section
variable {α β : Type} [DecidableEq α] {P : Program} {ka : α → Value} {kb : β → Value} {ok : α → Prop} (w : World) {ops : Array Oper} {rest : List Oper} {o : Oper} {a : Act} {Q : Exit → Act → World → Prop}
theorem wpList_insertL (hg : o.guard = none) (x y v : Operand) (t : TypeId) (hop : o.op = Op.insert t x y v) (k e : TypeId) (K : KeyEnc P k ka ok) (ht : P.underlying t = some (.map k e)) (b : Nat) (m : List (α × β)) (hm : a.eval x = .map (some b)) (h : MapL ka kb ok w b m)
    (kk : α) (vv : β) (hy : a.eval y = ka kk) (hv : a.eval v = kb vv) (hk : ok kk)
    (hK : ∀ w', MapL ka kb ok w' b (putK m kk vv) → w.grownBy w' (some b) → w'.heap.size = w.heap.size → wpList P ops Q rest (a.put o.dst undef) w') :
    wpList P ops Q (o :: rest) a w := by
  refine wpList_plain hg fun K' hK' => ?_
  obtain ⟨w', hrun, r1, r2, r3⟩ := h.put K ht hk vv
  unfold Oper.wp
  simp [execOp, hop, hm, hy, hv, hrun, Result.andThen]
  exact hK' _ _ (hK w' r1 r2 r3)
theorem wpList_mapUpdateL (hg : o.guard = none) (x y v : Operand) (t : TypeId) (hop : o.op = Op.mapUpdate t x y v) (k e : TypeId) (K : KeyEnc P k ka ok) (ht : P.underlying t = some (.map k e)) (b : Nat) (m : List (α × β)) (hm : a.eval x = .map (some b)) (h : MapL ka kb ok w b m)
    (kk : α) (vv : β) (hy : a.eval y = ka kk) (hv : a.eval v = kb vv) (hk : ok kk)
    (hK : ∀ w', MapL ka kb ok w' b (putK m kk vv) → w.grownBy w' (some b) → w'.heap.size = w.heap.size → wpList P ops Q rest (a.put o.dst undef) w') :
    wpList P ops Q (o :: rest) a w := by
  refine wpList_plain hg fun K' hK' => ?_
  obtain ⟨w', hrun, r1, r2, r3⟩ := h.put K ht hk vv
  unfold Oper.wp
  simp [execOp, hop, hm, hy, hv, hrun, Result.andThen]
  exact hK' _ _ (hK w' r1 r2 r3)
end
/-- what a grown world keeps -/
theorem Later.grown {w w' : World} (h : w.grownBy w' none) : Later w w' := ⟨h.os, h.tape, h.output, h.size, fun k hk => h.block k hk (by simp)⟩
theorem Later.grownAt {W w w' : World} {b : Nat} (hw : Later W w) (h : w.grownBy w' (some b)) (hb : W.heap.size ≤ b) : Later W w' :=
  Below.trans hw ⟨h.os, h.tape, h.output, h.size, fun k hk => h.block k (Nat.lt_of_lt_of_le hk hw.size) (by simp; omega)⟩
end Go.Proofs.YtdfegpohmaideaaGreatDoor
/- Positions as keys of maps. -/
namespace Go.Proofs.YtdfegpohmaideaaGreatDoor
open Go.RowKit Go.WideMaps Go.Maps

def posK (p : Pos) : Value := .agg #[.int .i64 p.w, .int .i64 p.h, .string p.cells, .int .i64 p.turn, .string p.h0, .string p.h1]
theorem posK_inj (a b : Pos) (h : posK a = posK b) : a = b := by
  obtain ⟨a0, a1, a2, a3, a4, a5⟩ := a
  obtain ⟨b0, b1, b2, b3, b4, b5⟩ := b
  simp only [posK] at h
  injection h with h
  have h := congrArg Array.toList h
  simp at h
  obtain ⟨e0, e1, e2, e3, e4, e5⟩ := h
  rw [e0, e1, e2, e3, e4, e5]
theorem keyLits_int {P : Program} {t : TypeId} {q : IntKind} (h : P.underlying t = some (.int q)) (d : Nat) {n : Int} (hw : (Lit.int q n).wf = true) : P.keyLits (d + 1) t [.int q n] = some [.int q n] := by
  unfold Program.keyLits
  simp [h, hw]
theorem keyLits_string {P : Program} {t : TypeId} (h : P.underlying t = some .string) (d : Nat) {s : ByteArray} (hs : s.size ≤ maxLen) : P.keyLits (d + 1) t [.string s] = some [.string s.data.toList] := by
  unfold Program.keyLits
  simp [h, hs]
set_option maxRecDepth 100000 in
theorem keyLits_hands (d : Nat) {a b : ByteArray} (ha : a.size ≤ maxLen) (hb : b.size ≤ maxLen) : Tryz.prog.keyLits (d + 1 + 1) 22 [.string a, .string b] = some [.string a.data.toList, .string b.data.toList] := by
  have c2 : Tryz.prog.cellsOf 22 = 2 := by kernel_rfl
  have c1 : Tryz.prog.cellsOf 9 = 1 := by kernel_rfl
  unfold Program.keyLits
  simp only [Tryz.underlying22, c2, c1]
  simp [List.range, List.range.loop, keyLits_string Tryz.underlying9 d ha, keyLits_string Tryz.underlying9 d hb]
set_option maxRecDepth 100000 in
theorem keyLits_pos (d : Nat) {p : Pos} (hw : (Lit.int .i64 p.w).wf = true) (hh : (Lit.int .i64 p.h).wf = true) (ht : (Lit.int .i64 p.turn).wf = true) (hc : p.cells.size ≤ maxLen) (h0 : p.h0.size ≤ maxLen) (h1 : p.h1.size ≤ maxLen) :
    Tryz.prog.keyLits (d + 1 + 1 + 1) 24 [.int .i64 p.w, .int .i64 p.h, .string p.cells, .int .i64 p.turn, .string p.h0, .string p.h1] = some [.int .i64 p.w, .int .i64 p.h, .string p.cells.data.toList, .int .i64 p.turn, .string p.h0.data.toList, .string p.h1.data.toList] := by
  have c6 : Tryz.prog.cellsOf 24 = 6 := by kernel_rfl
  have c2 : Tryz.prog.cellsOf 22 = 2 := by kernel_rfl
  have c1 : Tryz.prog.cellsOf 9 = 1 := by kernel_rfl
  have ci : Tryz.prog.cellsOf 3 = 1 := by kernel_rfl
  unfold Program.keyLits
  simp only [Tryz.underlying24]
  simp [c6, c2, c1, ci, keyLits_int Tryz.underlying3 (d + 1) hw, keyLits_int Tryz.underlying3 (d + 1) hh, keyLits_int Tryz.underlying3 (d + 1) ht, keyLits_string Tryz.underlying9 (d + 1) hc, keyLits_hands d h0 h1]
theorem wf_i64 {n : Int} (h : -9223372036854775808 ≤ n ∧ n ≤ 9223372036854775807) : (Lit.int .i64 n).wf = true := by
  have m1 : IntKind.i64.min = -9223372036854775808 := rfl
  have m2 : IntKind.i64.max = 9223372036854775807 := rfl
  simp [Lit.wf, m1, m2, h]
theorem posOk_sizes {p : Pos} (h : PosOk p) : p.cells.size ≤ 64 ∧ p.h0.size ≤ 8 ∧ p.h1.size ≤ 8 := by
  have h1 := (mul_in h.w1 h.w8 h.h1 h.h8).2
  have h2 := h.size
  exact ⟨by omega, (handB_true.1 h.hand0).1, (handB_true.1 h.hand1).1⟩
theorem types_pos : ∃ d, Tryz.prog.types.size + 1 = d + 1 + 1 + 1 + 1 := ⟨Tryz.prog.types.size - 3, by have : 3 ≤ Tryz.prog.types.size := of_decide_eq_true (by kernel_rfl); omega⟩
theorem key_pos (p : Pos) (h : PosOk p) : ∃ l, keyOf Tryz.prog 24 (posK p) = some l := by
  have hk : Tryz.prog.keyType 24 = true := by kernel_rfl
  have hf : (posK p).formed Tryz.prog 24 = true := by
    have c6 : Tryz.prog.cellsOf 24 = 6 := by kernel_rfl
    simp [posK, Value.formed, Tryz.underlying24, c6]
  have hsz := posOk_sizes h
  unfold keyOf
  simp only [Tryz.underlying24]
  rw [hk, hf]
  obtain ⟨d, hd⟩ := types_pos
  rw [hd]
  have m : maxLen = 9223372036854775807 := rfl
  have := keyLits_pos (d + 1) (p := p) (wf_i64 (by have := h.w1; have := h.w8; omega)) (wf_i64 (by have := h.h1; have := h.h8; omega)) (wf_i64 (by have := h.t0; have := h.t1; omega)) (by omega) (by omega) (by omega)
  have e : (posK p).cells.toList = [.int .i64 p.w, .int .i64 p.h, .string p.cells, .int .i64 p.turn, .string p.h0, .string p.h1] := rfl
  rw [e, this]
  exact ⟨_, rfl⟩
theorem keyedP : Keyed Tryz.prog 24 := Keyed.of_law (deep_law_laid (by kernel_rfl) (m := 5) (by omega) (of_decide_eq_true (by kernel_rfl)) (by kernel_rfl) (by rw [Tryz.underlying24]))
theorem keyEncP : KeyEnc Tryz.prog 24 posK PosOk := ⟨keyedP, key_pos, posK_inj⟩
end Go.Proofs.YtdfegpohmaideaaGreatDoor
/- Counting the ways to move, plainly. -/
namespace Go.Proofs.YtdfegpohmaideaaGreatDoor
open Go.RowKit

instance : DecidableEq Pos := fun a b =>
  if h : a.w = b.w ∧ a.h = b.h ∧ a.cells = b.cells ∧ a.turn = b.turn ∧ a.h0 = b.h0 ∧ a.h1 = b.h1 then isTrue (by
    obtain ⟨a0, a1, a2, a3, a4, a5⟩ := a
    obtain ⟨b0, b1, b2, b3, b4, b5⟩ := b
    simp only at h
    obtain ⟨rfl, rfl, rfl, rfl, rfl, rfl⟩ := h
    rfl) else isFalse (fun e => h (by rw [e]; exact ⟨rfl, rfl, rfl, rfl, rfl, rfl⟩))

/-- the weight of a map's entries -/
def wsum (m : List (Pos × Nat)) (f : Pos → Nat) : Nat := (m.map fun x => x.2 * f x.1).sum
def lsum (l : List Pos) (f : Pos → Nat) : Nat := (l.map f).sum
theorem wsum_nil (f : Pos → Nat) : wsum [] f = 0 := rfl
theorem wsum_cons (x : Pos × Nat) (m : List (Pos × Nat)) (f : Pos → Nat) : wsum (x :: m) f = x.2 * f x.1 + wsum m f := by simp [wsum]
theorem wsum_append (m n : List (Pos × Nat)) (f : Pos → Nat) : wsum (m ++ n) f = wsum m f + wsum n f := by simp [wsum]
theorem lsum_nil (f : Pos → Nat) : lsum [] f = 0 := rfl
theorem lsum_snoc (l : List Pos) (x : Pos) (f : Pos → Nat) : lsum (l ++ [x]) f = lsum l f + f x := by simp [lsum]
theorem lsum_one : ∀ l : List Pos, lsum l (fun _ => 1) = l.length
  | [] => rfl
  | x :: l => by
    have := lsum_one l
    unfold lsum at this ⊢
    rw [List.map_cons, List.sum_cons, this, List.length_cons]
    omega
theorem wsum_perm {m n : List (Pos × Nat)} (h : m.Perm n) (f : Pos → Nat) : wsum m f = wsum n f := (h.map _).sum_nat
theorem wsum_put {m : List (Pos × Nat)} (hn : (m.map (·.1)).Nodup) (x : Pos) (k : Nat) (f : Pos → Nat) : wsum (putK m x ((getK m x).getD 0 + k)) f = wsum m f + k * f x := by
  by_cases h : hasK m x = true
  · unfold putK
    rw [if_pos h]
    obtain ⟨v, hv⟩ := hasK_iff.1 h
    rw [hv, Option.getD_some]
    clear h
    induction m with
    | nil => simp [getK_nil] at hv
    | cons y m ih =>
      rw [List.map_cons, List.nodup_cons] at hn
      rw [getK_cons] at hv
      rw [List.map_cons, wsum_cons, wsum_cons]
      by_cases e : y.1 = x
      · rw [if_pos e] at hv
        injection hv with hv
        simp only [if_pos e]
        have : m.map (fun z => if z.1 = x then (x, v + k) else z) = m := by
          have : m.map (fun z => if z.1 = x then (x, v + k) else z) = m.map id := List.map_congr_left (fun z hz => by
            have : z.1 ≠ x := fun e2 => hn.1 (by rw [e, ← e2]; exact List.mem_map.2 ⟨z, hz, rfl⟩)
            rw [if_neg this]; rfl)
          rw [this, List.map_id]
        rw [this, hv, e, Nat.add_mul]
        omega
      · rw [if_neg e] at hv
        simp only [if_neg e]
        rw [ih hn.2 hv]
        omega
  · have h2 : getK m x = none := by
      cases h2 : getK m x with
      | none => rfl
      | some u => exact absurd (hasK_iff.2 ⟨u, h2⟩) h
    rw [putK_of_not h, h2, wsum_append, wsum_cons, wsum_nil]
    simp
theorem wsum_le {m : List (Pos × Nat)} {f : Pos → Nat} {c : Nat} (h : ∀ x ∈ m, f x.1 ≤ c) : wsum m f ≤ wsum m (fun _ => 1) * c := by
  induction m with
  | nil => simp [wsum_nil]
  | cons x m ih =>
    rw [wsum_cons, wsum_cons, Nat.add_mul, Nat.mul_one]
    have h1 := Nat.mul_le_mul_left x.2 (h x (by simp))
    have h2 := ih (fun y hy => h y (by simp [hy]))
    omega
theorem wsum_mem {m : List (Pos × Nat)} {x : Pos × Nat} (h : x ∈ m) : x.2 ≤ wsum m (fun _ => 1) := by
  induction m with
  | nil => simp at h
  | cons y m ih =>
    rw [wsum_cons, Nat.mul_one]
    rcases List.mem_cons.1 h with rfl | h'
    · omega
    · have := ih h'; omega
/-- the weight of all ends of so many moves -/
noncomputable def levN (r : RulesD) : Nat → (Pos → Nat) → Pos → Nat
  | 0, f, p => f p
  | d + 1, f, p => levN r d (fun q => lsum (nextL r q) f) p
theorem levN_in (r : RulesD) : ∀ (d : Nat) (f : Pos → Nat) (p : Pos), levN r (d + 1) f p = lsum (nextL r p) (levN r d f)
  | 0, _, _ => rfl
  | d + 1, f, p => by
    have h : levN r (d + 1 + 1) f p = levN r (d + 1) (fun q => lsum (nextL r q) f) p := rfl
    rw [h, levN_in r d]
    rfl
/-- how many ways -/
noncomputable def waysN (r : RulesD) (d : Nat) (p : Pos) : Nat := levN r d (fun _ => 1) p
theorem waysN_zero (r : RulesD) (p : Pos) : waysN r 0 p = 1 := rfl
theorem waysN_one (r : RulesD) (p : Pos) : waysN r 1 p = (movesL r p).length := by
  show lsum (nextL r p) (fun _ => 1) = _
  unfold lsum nextL
  rw [List.map_map]
  have : ∀ l : List Mv, (l.map ((fun _ => 1) ∘ madeP r p)).sum = l.length := fun l => by
    induction l with
    | nil => rfl
    | cons x l ih => rw [List.map_cons, List.sum_cons, ih, List.length_cons]; simp only [Function.comp]; omega
  exact this _
theorem waysN_succ (r : RulesD) (d : Nat) (p : Pos) : waysN r (d + 1) p = lsum (nextL r p) (waysN r d) := levN_in r d _ p
open Classical in
/-- what Count answers -/
noncomputable def countA (r : RulesD) (p : Pos) (d : Nat) : Nat × Int := if ∃ j, j ≤ d ∧ 100000 < waysN r j p then (0, 2) else (waysN r d p, 0)
theorem countA_large {r : RulesD} {p : Pos} {d j : Nat} (hj : j ≤ d) (h : 100000 < waysN r j p) : countA r p d = (0, 2) := by
  unfold countA; rw [if_pos ⟨j, hj, h⟩]
theorem countA_ok {r : RulesD} {p : Pos} {d : Nat} (h : ∀ j, j ≤ d → waysN r j p ≤ 100000) : countA r p d = (waysN r d p, 0) := by
  unfold countA; rw [if_neg]
  rintro ⟨j, hj, h2⟩
  have := h j hj
  omega
theorem next_ok {r : RulesD} {q : Pos} (h : OfOk r q) : ∀ x ∈ nextL r q, OfOk r x := by
  intro x hx
  obtain ⟨m, hm, rfl⟩ := List.mem_map.1 hx
  exact (every_made h (moves_every hm)).2
end Go.Proofs.YtdfegpohmaideaaGreatDoor
/- One position out of a list of them. -/
namespace Go.Proofs.YtdfegpohmaideaaGreatDoor
open Go.RowKit

theorem flat_getQ {α : Type} (f : α → List Value) (k : Nat) (hf : ∀ x, (f x).length = k) : ∀ (xs : List α) (i j : Nat) (hi : i < xs.length), j < k → (xs.flatMap f)[i * k + j]? = (f xs[i])[j]?
  | [], i, _, hi, _ => absurd hi (by simp)
  | x :: xs, 0, j, _, hj => by
    rw [List.flatMap_cons, Nat.zero_mul, Nat.zero_add, List.getElem?_append_left (by rw [hf]; exact hj)]
    rfl
  | x :: xs, i + 1, j, hi, hj => by
    have e : (i + 1) * k + j = k + (i * k + j) := by rw [Nat.succ_mul]; omega
    rw [List.flatMap_cons, e, List.getElem?_append_right (by rw [hf]; omega), hf, Nat.add_sub_cancel_left, flat_getQ f k hf xs i j (by simpa using hi) hj]
    rfl
theorem qAt {w : World} {B : Nat} {A : Option Addr} {l : List Pos} (h : Cells w B A (cellsQ l)) {i : Nat} (hi : i < l.length) :
    ∃ b off, A = some ⟨b, off, none⟩ ∧ b < B ∧ w.cell? ⟨b, off + i * 6, none⟩ = some (.int .i64 l[i].w) ∧ w.cell? ⟨b, off + i * 6 + 1, none⟩ = some (.int .i64 l[i].h) ∧ w.cell? ⟨b, off + i * 6 + 2, none⟩ = some (.string l[i].cells) ∧ w.cell? ⟨b, off + i * 6 + 3, none⟩ = some (.int .i64 l[i].turn) ∧
      w.cell? ⟨b, off + i * 6 + 4, none⟩ = some (.string l[i].h0) ∧ w.cell? ⟨b, off + i * 6 + 5, none⟩ = some (.string l[i].h1) := by
  have hl := cellsQ_len l
  obtain ⟨b, off, hA, hb, hcell⟩ := h (by omega)
  have key : ∀ j v, (posC l[i])[j]? = some v → j < 6 → w.cell? ⟨b, off + i * 6 + j, none⟩ = some v := by
    intro j v hv hj
    have := flat_getQ posC 6 (fun _ => rfl) l i j hi hj
    rw [hv] at this
    obtain ⟨h1, h2⟩ := List.getElem?_eq_some_iff.1 this
    rw [Nat.add_assoc, hcell _ h1]
    exact congrArg some h2
  exact ⟨b, off, hA, hb, key 0 _ rfl (by omega), key 1 _ rfl (by omega), key 2 _ rfl (by omega), key 3 _ rfl (by omega), key 4 _ rfl (by omega), key 5 _ rfl (by omega)⟩
end Go.Proofs.YtdfegpohmaideaaGreatDoor
/- moves.Count -/
namespace Go.Proofs.YtdfegpohmaideaaGreatDoor
open Go.RowKit Go.Maps
open Go.ChangeMaps (setBlock)

def kbN (n : Nat) : Value := .int .i64 (n : Int)
theorem zeroN (u : World) : (zeroValue 3).run Tryz.prog u = .ok (kbN 0) u := by kernel_rfl
abbrev PMap (w : World) (b : Nat) (m : List (Pos × Nat)) : Prop := MapL posK kbN PosOk w b m
theorem RangeL.alloc {w : World} {b r : Nat} {m left : List (Pos × Nat)} (h : RangeL posK kbN PosOk w b r m left) (o : Obj) : RangeL posK kbN PosOk (w.alloc o) b r m left := h.kept (World.grownBy_alloc w o none) (by simp) (by simp)
theorem Later.grow {w w' : World} (h : Later w w') : w.grownBy w' none := ⟨h.os, h.tape, h.output, h.size, fun i hi _ => h.block i hi⟩
theorem RangeL.later {w w' : World} {b r : Nat} {m left : List (Pos × Nat)} (h : RangeL posK kbN PosOk w b r m left) (hw : Later w w') : RangeL posK kbN PosOk w' b r m left := h.kept hw.grow (by simp) (by simp)
theorem MapL.later {w w' : World} {b : Nat} {m : List (Pos × Nat)} (h : MapL posK kbN PosOk w b m) (hw : Later w w') : MapL posK kbN PosOk w' b m := h.kept hw.grow (by simp)
theorem grownB_trans {a b c : World} {x : Nat} (h : a.grownBy b (some x)) (k : b.grownBy c (some x)) : a.grownBy c (some x) :=
  ⟨k.os.trans h.os, k.tape.trans h.tape, k.output.trans h.output, Nat.le_trans h.size k.size, fun i hi hb => (k.block i (Nat.lt_of_lt_of_le hi h.size) hb).trans (h.block i hi hb)⟩
theorem grownB_drew {a b : World} {x : Nat} (h : a.grownBy b (some x)) : a.grownBy b.drew (some x) := ⟨h.os, h.tape, h.output, h.size, h.block⟩
theorem grownB_cell {a b : World} {x : Nat} (h : a.grownBy b (some x)) {g o : Nat} (hg : g < a.heap.size) (hx : g ≠ x) : b.cell? ⟨g, o, none⟩ = a.cell? ⟨g, o, none⟩ := by
  have := h.block g hg (by simpa using hx)
  simp only [World.cell?, this]
theorem MapL.no_cell {w : World} {b o : Nat} {m : List (Pos × Nat)} (h : PMap w b m) : w.cell? ⟨b, o, none⟩ = none := by
  obtain ⟨es, clock, hb, _⟩ := h
  simp [World.cell?, hb]
theorem countN_t : codeN true = 0 := rfl
theorem countN_f : codeN false = 1 := rfl
set_option maxHeartbeats 8000000 in
set_option maxRecDepth 100000 in
theorem count_ok (Q : Ending → World → Prop) (r : RulesD) (A : Option Addr) (cp : Nat) (p : Pos) (d : Nat) (hd : d ≤ 6) (W : World) (hf : RFit r) (hg : PFit p) (hP : PiecesAt W W.heap.size A r.pieces) (hok : OfOk r p)
    (hQ : ∀ e w', e = .returned (.tuple #[.int .i64 ((countA r p d).1 : Int), .int .i64 (countA r p d).2]) → Later W w' → Q e w') :
    Calls Tryz.prog 6 #[.agg #[.int .i64 r.start.w, .int .i64 r.start.h, .string r.start.cells, .int .i64 r.start.turn, .string r.start.h0, .string r.start.h1, .slice A r.pieces.length cp, .bool r.drops, .int .u8 r.lose, .int .i64 r.line, .int .u8 r.reach, .bool r.stuck, .int .i64 r.plies], .agg #[.int .i64 p.w, .int .i64 p.h, .string p.cells, .int .i64 p.turn, .string p.h0, .string p.h1], .int .i64 (d : Int)] W Q := by
  have HQ := hide hQ
  clear hQ
  have Hbr := hide ((Blk.new W 27 #[.int .i64 r.start.w, .int .i64 r.start.h, .string r.start.cells, .int .i64 r.start.turn, .string r.start.h0, .string r.start.h1, .slice A r.pieces.length cp, .bool r.drops, .int .u8 r.lose, .int .i64 r.line, .int .u8 r.reach, .bool r.stuck, .int .i64 r.plies]).alloc (.cells #[.int .i64 p.w, .int .i64 p.h, .string p.cells, .int .i64 p.turn, .string p.h0, .string p.h1] 24))
  have hbp := (Blk.new (W.alloc (.cells #[.int .i64 r.start.w, .int .i64 r.start.h, .string r.start.cells, .int .i64 r.start.turn, .string r.start.h0, .string r.start.h1, .slice A r.pieces.length cp, .bool r.drops, .int .u8 r.lose, .int .i64 r.line, .int .u8 r.reach, .bool r.stuck, .int .i64 r.plies] 27)) 24 #[.int .i64 p.w, .int .i64 p.h, .string p.cells, .int .i64 p.turn, .string p.h0, .string p.h1])
  rw [World.size_alloc] at hbp
  have Hbp := hide hbp
  have Hw := hide (show Later W ((W.alloc (.cells #[.int .i64 r.start.w, .int .i64 r.start.h, .string r.start.cells, .int .i64 r.start.turn, .string r.start.h0, .string r.start.h1, .slice A r.pieces.length cp, .bool r.drops, .int .u8 r.lose, .int .i64 r.line, .int .u8 r.reach, .bool r.stuck, .int .i64 r.plies] 27)).alloc (.cells #[.int .i64 p.w, .int .i64 p.h, .string p.cells, .int .i64 p.turn, .string p.h0, .string p.h1] 24)) from (Later.rfl.alloc _).alloc _)
  have Hof := hide (fun w (hw : Later W w) => mof_any r A cp p w hf hg ((hP.below hw).more hw.size))
  rw [ofB_true.2 hok, countN_t] at Hof
  have HN := hide (fun q (hq : OfOk r q) w (hw : Later W w) => next_any r A cp q w hq ((hP.below hw).more hw.size))
  have Hok := hide hok
  have t1 : decide ((d : Int) < 0) = false := by simp
  have t2 : decide (6 < (d : Int)) = false := by simp; omega
  have hmm := @run_makeMap Tryz.prog
  clear hf hg hP hbp hok
  go_enter Tryz.func6, Tryz.ntmps6
  go_upto_region 1 with (fail)
  obtain ⟨w0, hw0⟩ : ∃ w0, (W.alloc (.cells #[.int .i64 r.start.w, .int .i64 r.start.h, .string r.start.cells, .int .i64 r.start.turn, .string r.start.h0, .string r.start.h1, .slice A r.pieces.length cp, .bool r.drops, .int .u8 r.lose, .int .i64 r.line, .int .u8 r.reach, .bool r.stuck, .int .i64 r.plies] 27)).alloc (.cells #[.int .i64 p.w, .int .i64 p.h, .string p.cells, .int .i64 p.turn, .string p.h0, .string p.h1] 24) = w0 := ⟨_, rfl⟩
  rw [hw0] at Hbr Hbp Hw ⊢
  clear hw0
  obtain ⟨x0, x1, x2, x3, x4, x5, x6, x7, x8, x9, x10, x11, x12⟩ := Hbr.out.rules
  obtain ⟨p0, p1, p2, p3, p4, p5⟩ := Hbp.out.pos6
  go_upto_region 2 with (go_at_call 15; refine (Hof.out _ Hw.out).mono ?_; rintro e w1 ⟨rfl, hw1⟩)
  have Hbr1 := hide (hw1.blk Hbr.out)
  have Hbp1 := hide (hw1.blk Hbp.out)
  have Hw1 := hide (Hw.out.trans hw1)
  clear hw1 Hbr Hbp Hw x0 x1 x2 x3 x4 x5 x6 x7 x8 x9 x10 x11 x12 p0 p1 p2 p3 p4 p5 Hof
  go_upto_region 6 with (fail)
  clear t1 t2
  have Hbp2 := Hbp1.out.alloc (.map #[] 0)
  obtain ⟨p0, p1, p2, p3, p4, p5⟩ := Hbp2.pos6
  clear Hbp2
  have Hm2 := hide (MapL.made (ka := posK) (kb := kbN) (ok := PosOk) w1)
  go_upto_region 7 with (refine wpList_insertL (ka := posK) (kb := kbN) (ok := PosOk) _ rfl _ _ _ 47 rfl 24 3 keyEncP Tryz.underlying47 w1.heap.size [] rfl Hm2.out p 1 rfl rfl Hok.out.pos ?_; intro w3 hm3 hg3 hs3)
  have hL3 : Later w1 w3 := Later.grownAt (Later.rfl.alloc (.map #[] 0)) hg3 (Nat.le_refl _)
  have HL3 := hide hL3
  have Hm3 := hide hm3
  obtain ⟨b0, hb0⟩ : ∃ b0, w1.heap.size = b0 := ⟨_, rfl⟩
  rw [hb0] at Hm3 ⊢
  have hgw : w1.heap.size ≤ b0 := by omega
  clear hb0 hm3 hg3 hs3 hL3 Hm2 Hbp1 p0 p1 p2 p3 p4 p5
  go_wp2_with fail
  go_loopw [9, 10, 35] (fun mv nv kv wr => ∃ (j b : Nat) (m : List (Pos × Nat)), j ≤ d ∧ mv = .map (some b) ∧ nv = .int .i64 (waysN r j p : Int) ∧ kv = .int .i64 (j : Int) ∧ w1.heap.size ≤ b ∧ PMap wr b m ∧ (∀ x ∈ m, OfOk r x.1) ∧ (∀ f, wsum m f = levN r j f p) ∧ (∀ i, i ≤ j → waysN r i p ≤ 100000) ∧ Later w1 wr) (fun _ _ kv _ => d - (intOf kv).toNat)
  case atStart =>
    refine ⟨0, b0, putK [] p 1, by omega, rfl, rfl, rfl, hgw, Hm3.out, ?_, ?_, ?_, HL3.out⟩
    · intro x hx
      have : x = (p, 1) := by simpa [putK, hasK] using hx
      rw [this]; exact Hok.out
    · intro f
      simp [putK, hasK, wsum, levN]
    · intro i hi
      have : i = 0 := by omega
      subst this
      rw [waysN_zero]; omega
  case round =>
    rename World => wr
    obtain ⟨j, b, m, hj, rfl, rfl, rfl, hbW, hm, hmo, hms, hlow, hw⟩ := hrel
    have Hm := hide hm
    have Hmo := hide hmo
    have Hms := hide hms
    have Hlow := hide hlow
    have Hw := hide hw
    clear hm hmo hms hlow hw HL3 Hm3
    by_cases hjd : d ≤ j
    · have ej : j = d := by omega
      have t1 : decide ((j : Int) < (d : Int)) = false := by simp; omega
      go_wp2_with fail
      subst ej
      exact HQ.out _ _ (by rw [countA_ok Hlow.out]; rfl) (Hw1.out.trans Hw.out)
    · have t1 : decide ((j : Int) < (d : Int)) = true := by simp; omega
      have t1n : decide (j < d) = true := by simp; omega
      have hb2 := Hm.out.lt
      have Hma := hide (show PMap (wr.alloc (.map #[] 0)) b m from Hm.out.kept (World.grownBy_alloc wr _ none) (by simp))
      have Hm2 := hide (show PMap (wr.alloc (.map #[] 0)) wr.heap.size [] from MapL.made wr)
      have Hwa := hide (show Later w1 (wr.alloc (.map #[] 0)) from Hw.out.alloc _)
      go_wp2_with (at_range; refine wpList_rangeL (ka := posK) (kb := kbN) (ok := PosOk) _ rfl _ 47 rfl 24 3 Tryz.underlying47 b m rfl Hma.out ?_; intro w5 hr5 hg5 hs5)
      have Hr5 := hide hr5
      have H25 := hide (Hm2.out.kept hg5 (by simp))
      have Hw5 := hide (Hwa.out.trans (Later.grown hg5))
      rw [World.size_alloc] at Hr5
      obtain ⟨b2, hb2'⟩ : ∃ b2, wr.heap.size = b2 := ⟨_, rfl⟩
      have hbb : b < b2 := by rw [← hb2']; exact hb2
      have hs5' : b2 + 1 < w5.heap.size := by rw [hs5, World.size_alloc, hb2']; omega
      simp only [World.size_alloc]
      rw [hb2'] at Hr5 H25 ⊢
      clear hr5 hg5 hs5 Hma Hm2 Hwa Hm Hw hb2 t1 t1n hb2'
      go_wp2_with fail
      go_frame
      go_loopw [10] (fun nv w6 => ∃ (left m2 : List (Pos × Nat)), RangeL posK kbN PosOk w6 b (b2 + 1) m left ∧ PMap w6 b2 m2 ∧ nv = .int .i64 (wsum m2 (fun _ => 1) : Int) ∧ (∀ x ∈ m2, OfOk r x.1) ∧ (∀ f, wsum m2 f + wsum left (fun q => lsum (nextL r q) f) = levN r (j + 1) f p) ∧ (∀ x ∈ left, x ∈ m) ∧ Later w1 w6) (fun _ w6 => w6.rangeLeft b (b2 + 1))
      case atStart => exact ⟨m, [], Hr5.out, H25.out, rfl, fun x hx => by simp at hx, fun f => by rw [wsum_nil, Nat.zero_add]; exact Hms.out _, fun x hx => hx, Hw5.out⟩
      case round =>
        rename World => w6
        obtain ⟨left, m2, hr6, h26, rfl, hmo2, hsum, hsub, hw6⟩ := hrel
        have Hr6 := hide hr6
        have H26 := hide h26
        have Hmo2 := hide hmo2
        have Hsum := hide hsum
        have Hsub := hide hsub
        have Hw6 := hide hw6
        clear hr6 h26 hmo2 hsum hsub hw6 Hr5 H25 Hw5 hs5'
        cases left with
        | nil =>
          have hnv : wsum m2 (fun _ => 1) = waysN r (j + 1) p := by
            have := Hsum.out (fun _ => 1)
            rw [wsum_nil, Nat.add_zero] at this
            exact this
          rw [hnv]
          have Hnv := hide hnv
          clear hnv
          by_cases hbig : 100000 < waysN r (j + 1) p
          · have t1 : decide ((100000 : Int) < (waysN r (j + 1) p : Int)) = true := by simp; omega
            have Hbig := hide hbig
            clear hbig
            go_wp2_with (at_next; refine wpList_nextL_done _ rfl _ rfl b (b2 + 1) m rfl Hr6.out ?_)
            exact HQ.out _ _ (by rw [countA_large (j := j + 1) (by omega) Hbig.out]; rfl) (Hw1.out.trans Hw6.out)
          · have t1 : decide ((100000 : Int) < (waysN r (j + 1) p : Int)) = false := by simp; omega
            have Hbig := hide hbig
            clear hbig
            go_wp2_with (at_next; refine wpList_nextL_done _ rfl _ rfl b (b2 + 1) m rfl Hr6.out ?_)
            go_roundw
            case rel =>
              refine ⟨j + 1, b2, m2, by omega, rfl, rfl, by go_num, by omega, H26.out, Hmo2.out, ?_, ?_, Hw6.out⟩
              · intro f
                have := Hsum.out f
                rwa [wsum_nil, Nat.add_zero] at this
              · intro i hi
                rcases Nat.lt_or_ge j i with h | h
                · have : i = j + 1 := by omega
                  subst this
                  have := Hbig.out; omega
                · exact Hlow.out i h
            case measure => simp [intOf]; omega
        | cons y l =>
          go_upto_region 14 with (at_next; refine wpList_nextL_more _ rfl _ rfl b (b2 + 1) m y l rfl Hr6.out ?_; intro l1 x l2 w7 hl hr7 hg7 hs7 hent)
          have Hr7 := hide hr7
          have H27 := hide (H26.out.kept hg7 (by simp))
          have Hw7 := hide (Later.grownAt Hw6.out hg7 (by omega))
          have hxm : x ∈ m := Hsub.out x (by rw [hl]; simp)
          have hxo : OfOk r x.1 := Hmo.out x hxm
          have hxk : x.2 ≤ 100000 := by
            have h1 := wsum_mem hxm
            have h2 := Hms.out (fun _ => 1)
            have h3 := Hlow.out j (Nat.le_refl _)
            unfold waysN at h3
            omega
          have Hsum7 := hide (show ∀ f, wsum m2 f + x.2 * lsum (nextL r x.1) f + wsum (l1 ++ l2) (fun q => lsum (nextL r q) f) = levN r (j + 1) f p from fun f => by
            have h1 := Hsum.out f
            rw [hl, wsum_append, wsum_cons] at h1
            rw [wsum_append]
            omega)
          have Hsub7 := hide (show ∀ z ∈ l1 ++ l2, z ∈ m from fun z hz => Hsub.out z (by rw [hl]; rcases List.mem_append.1 hz with h | h <;> simp [h]))
          have Hleft := hide (show (l1 ++ l2).length < w6.rangeLeft b (b2 + 1) from by
            rw [Hr6.out.left_eq, hl]
            simp)
          have hbd : wsum m2 (fun _ => 1) + x.2 * (nextL r x.1).length ≤ 1000000000 := by
            have h1 := Hsum7.out (fun _ => 1)
            have h2 : levN r (j + 1) (fun _ => 1) p = wsum m (fun q => lsum (nextL r q) (fun _ => 1)) := (Hms.out _).symm
            have h3 : wsum m (fun q => lsum (nextL r q) (fun _ => 1)) ≤ wsum m (fun _ => 1) * 10000 := wsum_le (fun z hz => by
              rw [lsum_one]
              have := movesL_len (r := r) (Hmo.out z hz).pos
              simpa [nextL] using this)
            have h4 := Hms.out (fun _ => 1)
            have h5 := Hlow.out j (Nat.le_refl _)
            unfold waysN at h5
            rw [lsum_one] at h1
            omega
          have HN7 := hide (HN.out x.1 hxo)
          obtain ⟨q, k⟩ := x
          simp only at hxo hxk Hsum7 hbd HN7 hent
          have hk63 : (k : Int) ≤ 100000 := by omega
          simp only [posK, kbN] at hent
          clear hl hr7 hg7 hs7 hxm Hsum Hsub Hr6 H26 Hw6
          go_upto_region 15 with (fail)
          have Ha8 := hide (show Later w1 (w7.alloc (.cells #[.int .i64 q.w, .int .i64 q.h, .string q.cells, .int .i64 q.turn, .string q.h0, .string q.h1] 24)) from Hw7.out.alloc _)
          have Hq8 := hide (Blk.new w7 24 #[.int .i64 q.w, .int .i64 q.h, .string q.cells, .int .i64 q.turn, .string q.h0, .string q.h1])
          have Hr8 := hide (Hr7.out.alloc (.cells #[.int .i64 q.w, .int .i64 q.h, .string q.cells, .int .i64 q.turn, .string q.h0, .string q.h1] 24))
          have H28 := hide (H27.out.kept (World.grownBy_alloc w7 (.cells #[.int .i64 q.w, .int .i64 q.h, .string q.cells, .int .i64 q.turn, .string q.h0, .string q.h1] 24) none) (by simp))
          obtain ⟨gq, hgq⟩ : ∃ gq, w7.heap.size = gq := ⟨_, rfl⟩
          obtain ⟨w8, hw8⟩ : ∃ w8, w7.alloc (.cells #[.int .i64 q.w, .int .i64 q.h, .string q.cells, .int .i64 q.turn, .string q.h0, .string q.h1] 24) = w8 := ⟨_, rfl⟩
          rw [hw8] at Ha8 Hq8 Hr8 H28 ⊢
          rw [hgq] at Hq8 ⊢
          clear hw8 hgq Hr7 H27 Hw7 hent
          obtain ⟨q0, q1, q2, q3, q4, q5⟩ := Hq8.out.pos6
          obtain ⟨x0, x1, x2, x3, x4, x5, x6, x7, x8, x9, x10, x11, x12⟩ := (Ha8.out.blk Hbr1.out).rules
          go_upto_region 16 with (go_at_call 16; refine (HN7.out _ (Hw1.out.trans Ha8.out)).mono ?_; rintro e w9 ⟨A1, c1, A2, c2, rfl, hc1, hc2, hw9⟩)
          have Hc9 := hide hc2
          have Hr9 := hide (Hr8.out.later hw9)
          have H29 := hide (H28.out.later hw9)
          have Hw9 := hide (Ha8.out.trans hw9)
          have hLl : (movesL r q).length ≤ 10000 := movesL_len hxo.pos
          have Hxo := hide hxo
          clear hc1 hc2 hw9 Hr8 H28 Ha8 Hq8 q0 q1 q2 q3 q4 q5 x0 x1 x2 x3 x4 x5 x6 x7 x8 x9 x10 x11 x12 HN7 hxo
          obtain ⟨L, hL⟩ : ∃ L, nextL r q = L := ⟨_, rfl⟩
          have hLn : (movesL r q).length = L.length := by rw [← hL]; simp [nextL]
          have Hlo := hide (show ∀ z ∈ L, OfOk r z from hL ▸ next_ok Hxo.out)
          rw [hL] at Hsum7 hbd Hc9
          rw [hLn] at hLl ⊢
          clear hL hLn
          go_wp2_with fail
          go_loopw [10, 54] (fun nv iv wz => ∃ (i : Nat) (m3 : List (Pos × Nat)), i ≤ L.length ∧ iv = .int .i64 (i : Int) ∧ nv = .int .i64 (wsum m3 (fun _ => 1) : Int) ∧ RangeL posK kbN PosOk wz b (b2 + 1) m (l1 ++ l2) ∧ PMap wz b2 m3 ∧ (∀ z ∈ m3, OfOk r z.1) ∧ (∀ f, wsum m3 f = wsum m2 f + k * lsum (L.take i) f) ∧ w9.grownBy wz (some b2)) (fun _ iv _ => L.length - (intOf iv).toNat)
          case atStart => exact ⟨0, m2, by omega, rfl, rfl, Hr9.out, H29.out, Hmo2.out, fun f => by simp [lsum], (Later.rfl (w := w9)).grow.but _⟩
          case round =>
            rename World => wz
            obtain ⟨i, m3, hi, rfl, rfl, hrz, hmz, hoz, hsz, hwz⟩ := hrel
            have Hrz := hide hrz
            have Hmz := hide hmz
            have Hoz := hide hoz
            have Hsz := hide hsz
            have Hwz := hide hwz
            have H9 := H29
            clear hrz hmz hoz hsz hwz Hr9 H29
            by_cases hiL : L.length ≤ i
            · have ei : i = L.length := by omega
              have t1 : decide ((i : Int) < (L.length : Int)) = false := by simp; omega
              have t1n : decide (i < L.length) = false := by simp; omega
              go_wp2_with fail
              go_roundw
              case rel =>
                exact ⟨l1 ++ l2, m3, Hrz.out, Hmz.out, rfl, Hoz.out, fun f => by
                  have h1 := Hsz.out f
                  have h2 := Hsum7.out f
                  rw [ei, List.take_length] at h1
                  rw [h1]
                  exact h2, Hsub7.out, Later.grownAt Hw9.out Hwz.out (by omega)⟩
              case measure =>
                rw [Hrz.out.left_eq]
                exact Hleft.out
            · have t1 : decide ((i : Int) < (L.length : Int)) = true := by simp; omega
              have t1n : decide (i < L.length) = true := by simp; omega
              have hil : i < L.length := by omega
              obtain ⟨bq, oq, rfl, hbq, q0, q1, q2, q3, q4, q5⟩ := qAt Hc9.out hil
              have hne : bq ≠ b2 := fun e => by rw [e, H9.out.no_cell] at q0; cases q0
              rw [← grownB_cell Hwz.out hbq hne] at q0 q1 q2 q3 q4 q5
              obtain ⟨z, hz⟩ : ∃ z, L[i] = z := ⟨_, rfl⟩
              have Hzo := hide (show OfOk r z from hz ▸ Hlo.out _ (List.getElem_mem hil))
              have Htake := hide (show ∀ f, lsum (L.take (i + 1)) f = lsum (L.take i) f + f z from fun f => by
                rw [List.take_succ_eq_append_getElem hil, lsum_snoc, hz])
              rw [hz] at q0 q1 q2 q3 q4 q5
              clear hz
              go_upto_region 19 with (fail)
              have Hza := hide (Blk.new wz 24 #[.int .i64 z.w, .int .i64 z.h, .string z.cells, .int .i64 z.turn, .string z.h0, .string z.h1])
              have Hra := hide (Hrz.out.alloc (.cells #[.int .i64 z.w, .int .i64 z.h, .string z.cells, .int .i64 z.turn, .string z.h0, .string z.h1] 24))
              have Hma := hide (Hmz.out.kept (World.grownBy_alloc wz (.cells #[.int .i64 z.w, .int .i64 z.h, .string z.cells, .int .i64 z.turn, .string z.h0, .string z.h1] 24) none) (by simp))
              have Hwa := hide (show w9.grownBy (wz.alloc (.cells #[.int .i64 z.w, .int .i64 z.h, .string z.cells, .int .i64 z.turn, .string z.h0, .string z.h1] 24)) (some b2) from grownB_trans Hwz.out ((World.grownBy_alloc wz _ none).but _))
              have hbz : b2 < wz.heap.size := Hmz.out.lt
              obtain ⟨gz, hgz⟩ : ∃ gz, wz.heap.size = gz := ⟨_, rfl⟩
              obtain ⟨wa, hwa⟩ : ∃ wa, wz.alloc (.cells #[.int .i64 z.w, .int .i64 z.h, .string z.cells, .int .i64 z.turn, .string z.h0, .string z.h1] 24) = wa := ⟨_, rfl⟩
              rw [hwa] at Hza Hra Hma Hwa ⊢
              rw [hgz] at Hza hbz ⊢
              clear hwa hgz q0 q1 q2 q3 q4 q5 Hrz Hmz Hwz
              obtain ⟨st, es1, ck1, hE, hMe, hSt⟩ := MapL.entry (e := 3) (t := 47) Hma.out keyEncP Tryz.underlying47 (z := 0) zeroN (a := z) Hzo.out.pos
              obtain ⟨v, hv⟩ : ∃ v, (getK m3 z).getD 0 = v := ⟨_, rfl⟩
              have hvb : v ≤ wsum m3 (fun _ => 1) := by
                rw [← hv]
                cases hgz : getK m3 z with
                | none => simp
                | some u => exact wsum_mem (getK_mem hgz)
              have hsb : wsum m3 (fun _ => 1) + k ≤ 1000000000 := by
                have h1 := Hsz.out (fun _ => 1)
                have h2 : lsum (L.take i) (fun _ => 1) + 1 ≤ L.length := by rw [lsum_one, List.length_take]; omega
                have h3 := Nat.mul_le_mul_left k h2
                rw [Nat.mul_add, Nat.mul_one] at h3
                omega
              obtain ⟨es2, ck2, hS, hMs⟩ := hSt (v + k)
              have hgE : wa.grownBy (setBlock wa b2 (.map es1 ck1)) (some b2) := grown_setBlock _
              have hL2 := MapL.look (e := 3) (t := 47) (w := wa.drew) Hma.out keyEncP Tryz.underlying47 (zeroN _) (a := z) Hzo.out.pos false
              have hL3 := MapL.look (e := 3) (t := 47) (w := (setBlock wa b2 (.map es1 ck1)).drew) hMe keyEncP Tryz.underlying47 (zeroN _) (a := z) Hzo.out.pos false
              have hL0 := MapL.look (e := 3) (t := 47) Hma.out keyEncP Tryz.underlying47 (zeroN _) (a := z) Hzo.out.pos false
              have hL1 := MapL.look (e := 3) (t := 47) hMe keyEncP Tryz.underlying47 (zeroN _) (a := z) Hzo.out.pos false
              have hkv : ∀ o : Option Nat, (o.map kbN).getD (kbN 0) = kbN (o.getD 0) := fun o => by cases o <;> rfl
              simp only [Bool.false_eq_true, if_false, hkv, getK_open, hv] at hL0 hL1 hL2 hL3
              simp only [posK, kbN] at hL0 hL1 hL2 hL3
              have hE0 := hE wa rfl
              have hE1 := hE wa.drew rfl
              rw [show setBlock wa.drew b2 (.map es1 ck1) = (setBlock wa b2 (.map es1 ck1)).drew from rfl] at hE1
              have hee : (setBlock wa b2 (.map es1 ck1)).heap[b2]? = some (.map es1 ck1) := by
                have := Hma.out.lt
                simp [setBlock, this]
              obtain ⟨we, hwe⟩ : ∃ we, setBlock wa b2 (.map es1 ck1) = we := ⟨_, rfl⟩
              rw [hwe] at hE0 hE1 hL1 hL3 hgE hee
              clear hwe hMe hE
              have hS0 := hS we hee
              have hS1 := hS we.drew hee
              have hMe2 := hMs we (Array.getElem?_eq_some_iff.1 hee).1
              rw [show setBlock we.drew b2 (.map es2 ck2) = (setBlock we b2 (.map es2 ck2)).drew from rfl] at hS1
              have hgS : we.grownBy (setBlock we b2 (.map es2 ck2)) (some b2) := grown_setBlock _
              obtain ⟨ws, hws⟩ : ∃ ws, setBlock we b2 (.map es2 ck2) = ws := ⟨_, rfl⟩
              rw [hws] at hS0 hS1 hMe2 hgS
              simp only [hv, posK, kbN, goInt] at hE0 hE1 hS0 hS1
              clear hws hS hMs hee hkv
              have Hze : Blk we gz 24 #[.int .i64 z.w, .int .i64 z.h, .string z.cells, .int .i64 z.turn, .string z.h0, .string z.h1] := (hgE.block gz Hza.out.lt (by simp; omega)).trans Hza.out
              obtain ⟨z0, z1, z2, z3, z4, z5⟩ := Hza.out.pos6
              obtain ⟨e0, e1, e2, e3, e4, e5⟩ := Hze.pos6
              have vk : (v : Int) + (k : Int) ≤ 2000000000 := by omega
              have vk0 : (0 : Int) ≤ (v : Int) + (k : Int) := by omega
              push_cast at hS0 hS1
              go_big_region
              go_upto_region 20 with (fail)
              have hLs : w9.grownBy ws.drew (some b2) := grownB_drew (grownB_trans (grownB_trans Hwa.out hgE) hgS)
              have Hms9 := hide (show PMap ws.drew b2 (putK m3 z (v + k)) from hMe2)
              have hrs : RangeL posK kbN PosOk ws b (b2 + 1) m (l1 ++ l2) := (Hra.out.kept hgE (by simp; omega) (by simp)).kept hgS (by simp; omega) (by simp)
              have Hrs := hide (show RangeL posK kbN PosOk ws.drew b (b2 + 1) m (l1 ++ l2) from hrs)
              clear hrs
              clear hE0 hE1 hS0 hS1 hL0 hL1 hL2 hL3 e0 e1 e2 e3 e4 e5 z0 z1 z2 z3 z4 z5 Hze hgE hgS Hza Hra Hwa hMe2
              have vn : (wsum m3 (fun _ => 1) : Int) + (k : Int) ≤ 2000000000 := by omega
              have vn0 : (0 : Int) ≤ (wsum m3 (fun _ => 1) : Int) + (k : Int) := by omega
              have hpw : ∀ f, wsum (putK m3 z (v + k)) f = wsum m3 f + k * f z := fun f => by
                rw [← hv]
                exact wsum_put Hma.out.nodup z k f
              have h1p := hpw (fun _ => 1)
              rw [Nat.mul_one] at h1p
              have Hpw := hide hpw
              clear hpw Hma hv hSt
              go_wp2_with fail
              go_roundw
              case rel =>
                refine ⟨i + 1, putK m3 z (v + k), by omega, by go_num, by rw [h1p]; go_num, Hrs.out, Hms9.out, ?_, ?_, ?_⟩
                · intro y hy
                  exact putK_ok (ok := fun q => OfOk r q) Hoz.out Hzo.out y hy
                · intro f
                  rw [Hpw.out, Hsz.out f, Htake.out f, Nat.mul_add]
                  omega
                · exact hLs
              case measure => simp [intOf]; omega
end Go.Proofs.YtdfegpohmaideaaGreatDoor
/- moves.cell, moves.text: a move's text. -/
namespace Go.Proofs.YtdfegpohmaideaaGreatDoor
open Go.RowKit

/-- a cell's name -/
def cellL (p : Pos) (a : Nat) : List UInt8 := [u8 (97 + a % p.w.toNat), u8 (49 + a / p.w.toNat)]
theorem conv_two (x y : Nat) (hx : x < 256) (hy : y < 256) (w : World) : (convert 56 9 (.slice (some ⟨w.heap.size, 0, none⟩) 2 2)).run Tryz.prog (w.alloc (.cells #[.int .u8 x, .int .u8 y] 5)).drew = .ok (.string (bytes [u8 x, u8 y])) (w.alloc (.cells #[.int .u8 x, .int .u8 y] 5)).drew := by
  have h := run_convert_bytes_back (P := Tryz.prog) (w.alloc (.cells #[.int .u8 x, .int .u8 y] 5)).drew 56 9 5 ⟨w.heap.size, 0, none⟩ 2 [u8 x, u8 y] Tryz.underlying56 Tryz.underlying5 Tryz.underlying9 (fun j hj => by
    have hj0 : j = 0 ∨ j = 1 := by simp at hj; omega
    rw [Addr.add_lit]
    rcases hj0 with rfl | rfl
    · rw [show (w.alloc (.cells #[.int .u8 x, .int .u8 y] 5)).drew.cell? ⟨w.heap.size, 0 + 0, none⟩ = _ from (Blk.new w 5 #[.int .u8 x, .int .u8 y]).cell _]
      simp [u8_nat hx]
    · rw [show (w.alloc (.cells #[.int .u8 x, .int .u8 y] 5)).drew.cell? ⟨w.heap.size, 0 + 1, none⟩ = _ from (Blk.new w 5 #[.int .u8 x, .int .u8 y]).cell _]
      simp [u8_nat hy])
  exact h
set_option maxHeartbeats 4000000 in
set_option maxRecDepth 100000 in
theorem mcell_any (p : Pos) (a : Nat) (W : World) (hp : PosOk p) (ha : a < p.cells.size) :
    Calls Tryz.prog 27 #[.agg #[.int .i64 p.w, .int .i64 p.h, .string p.cells, .int .i64 p.turn, .string p.h0, .string p.h1], .int .i64 (a : Int)] W fun e w' => e = .returned (.string (bytes (cellL p a))) ∧ Later W w' := by
  have Hb := hide (Blk.new W 24 #[.int .i64 p.w, .int .i64 p.h, .string p.cells, .int .i64 p.turn, .string p.h0, .string p.h1])
  have Hw := hide (show Later W (W.alloc (.cells #[.int .i64 p.w, .int .i64 p.h, .string p.cells, .int .i64 p.turn, .string p.h0, .string p.h1] 24)) from Later.rfl.alloc _)
  obtain ⟨n, hn⟩ : ∃ n : Nat, p.w = (n : Int) := ⟨p.w.toNat, by have := hp.w1; omega⟩
  have hn8 : 1 ≤ n ∧ n ≤ 8 := by have := hp.w1; have := hp.w8; omega
  have hsz := hp.size
  have hx : a % n < n := Nat.mod_lt _ (by omega)
  have hy : a / n < 8 := by
    rw [Nat.div_lt_iff_lt_mul (by omega)]
    have h1 := hp.h8
    have h2 : p.w * p.h ≤ p.w * 8 := Int.mul_le_mul_of_nonneg_left h1 (by omega)
    rw [hn] at h2
    rw [hn] at hsz
    have : (a : Int) < (n : Int) * 8 := by omega
    omega
  have HR := hide (show bytes [u8 (97 + a % n), u8 (49 + a / n)] = bytes (cellL p a) from by unfold cellL; rw [hn]; simp)
  obtain ⟨w0, hw0⟩ : ∃ w0, W.alloc (.cells #[.int .i64 p.w, .int .i64 p.h, .string p.cells, .int .i64 p.turn, .string p.h0, .string p.h1] 24) = w0 := ⟨_, rfl⟩
  have ez : ((n : Int) == 0) = false := by simp; omega
  have ex := mod_eqn a n
  have ey := div_eqn a n
  obtain ⟨x, hxx⟩ : ∃ x, a % n = x := ⟨_, rfl⟩
  obtain ⟨y, hyy⟩ : ∃ y, a / n = y := ⟨_, rfl⟩
  rw [hxx] at hx ex HR
  rw [hyy] at hy ey HR
  rw [hw0] at Hb Hw
  have cx : IntKind.u8.wrap (x : Int) = (x : Int) := IntWalk.u8_in _ (by omega)
  have cy : IntKind.u8.wrap (y : Int) = (y : Int) := IntWalk.u8_in _ (by omega)
  have dx : IntKind.u8.wrap (97 + (x : Int)) = ((97 + x : Nat) : Int) := by rw [show (97 + (x : Int)) = ((97 + x : Nat) : Int) by omega]; exact IntWalk.u8_in _ (by omega)
  have dy : IntKind.u8.wrap (49 + (y : Int)) = ((49 + y : Nat) : Int) := by rw [show (49 + (y : Int)) = ((49 + y : Nat) : Int) by omega]; exact IntWalk.u8_in _ (by omega)
  have hcv := conv_two (97 + x) (49 + y) (by omega) (by omega) w0
  push_cast at hcv dx dy
  obtain ⟨p0, p1, p2, p3, p4, p5⟩ := Hb.out.pos6
  rw [hn] at p0
  have hw0' := Eq.trans hw0 rfl
  rw [hn] at hw0'
  have HW0 := hide hw0'
  rw [hn]
  clear hxx hyy hsz hp ha hw0 hw0'
  go_enter Tryz.func27, Tryz.ntmps27
  go_upto_region 1 with (fail)
  rw [HW0.out]
  go_big_region
  go_wp2_with fail
  go_ret
  exact ⟨by rw [HR.out] <;> rfl, (Hw.out.alloc _).drew⟩
/-- a move's text -/
def textL (p : Pos) (m : Mv) : List UInt8 :=
  if m.f < 0 then [u8 m.c, u8 64] ++ cellL p m.t.toNat else [u8 m.c] ++ cellL p m.f.toNat ++ [if cellN p m.t.toNat = 46 then 45 else 120] ++ cellL p m.t.toNat
def u8V (l : List Nat) : Array Value := (l.map fun n : Nat => Value.int .u8 (n : Int)).toArray
theorem conv_blk {w : World} {g : Nat} (cap : Nat) (l : List Nat) (hl : ∀ n ∈ l, n < 256) (hb : Blk w g 5 (u8V l)) : (convert 56 9 (.slice (some ⟨g, 0, none⟩) l.length cap)).run Tryz.prog w = .ok (.string (bytes (l.map u8))) w := by
  have hrun := run_convert_bytes_back (P := Tryz.prog) w 56 9 5 ⟨g, 0, none⟩ cap (l.map u8) Tryz.underlying56 Tryz.underlying5 Tryz.underlying9 (fun j hj => by
    have hj' : j < l.length := by simpa using hj
    rw [Addr.add_lit, hb.cell]
    unfold u8V
    simp [hj', u8_nat (hl _ (List.getElem_mem hj'))])
  rw [List.length_map] at hrun
  exact hrun
theorem conv_at {w : World} {g : Nat} (c : Nat) (hc : c < 256) (hb : Blk w g 5 #[.int .u8 (c : Int), .int .u8 64]) : (convert 56 9 (.slice (some ⟨g, 0, none⟩) 2 2)).run Tryz.prog w = .ok (.string (bytes [u8 c, u8 64])) w :=
  conv_blk 2 [c, 64] (by simp; exact hc) hb
theorem conv_on {w : World} {g : Nat} (c : Nat) (hc : c < 256) (hb : Blk w g 5 #[.int .u8 (c : Int)]) : (convert 56 9 (.slice (some ⟨g, 0, none⟩) 1 1)).run Tryz.prog w = .ok (.string (bytes [u8 c])) w :=
  conv_blk 1 [c] (by simp; exact hc) hb
theorem posOk_size {p : Pos} (hp : PosOk p) : p.cells.size ≤ 64 := (pos_small hp).1
theorem step_conv {ops : Array Oper} {o : Oper} {a : Act} {K : Act → World → Prop} {Q : Exit → Act → World → Prop} {E : Prop} {w : World} (hgd : o.guard = none) (x : Operand) (ho : o.op = .convert 56 9 x)
    (l : List Nat) (hl : ∀ n ∈ l, n < 256) (g cap n : Nat) (hn : l.length = n) (hx : a.eval x = .slice (some ⟨g, 0, none⟩) n cap) (hb : Blk w g 5 (u8V l))
    (h : K (a.put o.dst (.string (bytes (l.map u8)))) w) : if Region.wanted o (yielded ops a.tmps) = true then Oper.wp Tryz.prog o a w K Q else E := by
  have hw : Region.wanted o (yielded ops a.tmps) = true := by simp [Region.wanted, hgd]
  rw [if_pos hw]
  subst hn
  have hr := conv_blk cap l hl hb
  unfold Oper.wp
  simp [execOp, ho, hx, hr, Result.andThen]
  exact h
theorem bytes_cat (a b : List UInt8) : bytes a ++ bytes b = bytes (a ++ b) := by
  apply bytes_eq
  show (bytes a ++ bytes b).data.toList = a ++ b
  simp [bytes]
-- TEXTS BY mktext.py
set_option maxHeartbeats 4000000 in
set_option maxRecDepth 100000 in
theorem text_drop (p : Pos) (c t : Nat) (W : World) (hp : PosOk p) (hc : c < 256) (ht : t < p.cells.size) :
    Calls Tryz.prog 14 #[.agg #[.int .i64 p.w, .int .i64 p.h, .string p.cells, .int .i64 p.turn, .string p.h0, .string p.h1], .agg #[.int .i64 (-1), .int .i64 (t : Int), .int .u8 (c : Int)]] W fun e w' => e = .returned (.string (bytes ([u8 c, u8 64] ++ cellL p t))) ∧ Later W w' := by
  have Hbp := hide ((Blk.new W 24 #[.int .i64 p.w, .int .i64 p.h, .string p.cells, .int .i64 p.turn, .string p.h0, .string p.h1]).alloc (.cells #[.int .i64 (-1), .int .i64 (t : Int), .int .u8 (c : Int)] 29))
  have hbm := (Blk.new (W.alloc (.cells #[.int .i64 p.w, .int .i64 p.h, .string p.cells, .int .i64 p.turn, .string p.h0, .string p.h1] 24)) 29 #[.int .i64 (-1), .int .i64 (t : Int), .int .u8 (c : Int)])
  rw [World.size_alloc] at hbm
  have Hbm := hide hbm
  have Hw := hide (show Later W ((W.alloc (.cells #[.int .i64 p.w, .int .i64 p.h, .string p.cells, .int .i64 p.turn, .string p.h0, .string p.h1] 24)).alloc (.cells #[.int .i64 (-1), .int .i64 (t : Int), .int .u8 (c : Int)] 29)) from (Later.rfl.alloc _).alloc _)
  have HC := hide (fun w => mcell_any p t w hp ht)
  have Hc := hide hc
  clear hbm hp ht hc
  rw [← bytes_cat]
  go_enter Tryz.func14, Tryz.ntmps14
  go_upto_region 1 with (fail)
  obtain ⟨w0, hw0⟩ : ∃ w0, (W.alloc (.cells #[.int .i64 p.w, .int .i64 p.h, .string p.cells, .int .i64 p.turn, .string p.h0, .string p.h1] 24)).alloc (.cells #[.int .i64 (-1), .int .i64 (t : Int), .int .u8 (c : Int)] 29) = w0 := ⟨_, rfl⟩
  rw [hw0] at Hbp Hbm Hw ⊢
  clear hw0
  obtain ⟨⟨m0, m1, m2⟩, -⟩ := Hbm.out.mv
  go_upto_region 2 with (fail)
  have s3 : (cellL p t).length = 2 := rfl
  have HSh := hide (show ∀ w' : World, Later w0 w' → (w'.cell? ⟨W.heap.size + 1, 0, none⟩ = some (.int .i64 (-1)) ∧ w'.cell? ⟨W.heap.size + 1, 1, none⟩ = some (.int .i64 (t : Int)) ∧ w'.cell? ⟨W.heap.size + 1, 2, none⟩ = some (.int .u8 (c : Int)) ∧ w'.cell? ⟨W.heap.size, 0, none⟩ = some (.int .i64 p.w) ∧ w'.cell? ⟨W.heap.size, 1, none⟩ = some (.int .i64 p.h) ∧ w'.cell? ⟨W.heap.size, 2, none⟩ = some (.string p.cells) ∧ w'.cell? ⟨W.heap.size, 3, none⟩ = some (.int .i64 p.turn) ∧ w'.cell? ⟨W.heap.size, 4, none⟩ = some (.string p.h0) ∧ w'.cell? ⟨W.heap.size, 5, none⟩ = some (.string p.h1)) from fun w' hw => by
    obtain ⟨⟨m0, m1, m2⟩, -⟩ := (hw.blk Hbm.out).mv
    obtain ⟨p0, p1, p2, p3, p4, p5⟩ := (hw.blk Hbp.out).pos6
    exact ⟨m0, m1, m2, p0, p1, p2, p3, p4, p5⟩)
  clear m0 m1 m2
  refine wp_region_held_drew (S := fun w' : World => (w'.cell? ⟨W.heap.size + 1, 0, none⟩ = some (.int .i64 (-1)) ∧ w'.cell? ⟨W.heap.size + 1, 1, none⟩ = some (.int .i64 (t : Int)) ∧ w'.cell? ⟨W.heap.size + 1, 2, none⟩ = some (.int .u8 (c : Int)) ∧ w'.cell? ⟨W.heap.size, 0, none⟩ = some (.int .i64 p.w) ∧ w'.cell? ⟨W.heap.size, 1, none⟩ = some (.int .i64 p.h) ∧ w'.cell? ⟨W.heap.size, 2, none⟩ = some (.string p.cells) ∧ w'.cell? ⟨W.heap.size, 3, none⟩ = some (.int .i64 p.turn) ∧ w'.cell? ⟨W.heap.size, 4, none⟩ = some (.string p.h0) ∧ w'.cell? ⟨W.heap.size, 5, none⟩ = some (.string p.h1))) (by kernel_rfl) (HSh.out _ Later.rfl.drew) (fun hHeld => ?_)
  refine wpAnyH_take (i := 0) (oi := ⟨some 9, _, _, _, _, _⟩) (v := ?_) rfl (by kernel_rfl) (by kernel_rfl) (by kernel_rfl) (fun _ _ _ h => h) (Or.inl ⟨by rfl, ?_⟩) (by assumption) ?_
  rotate_left 1
  · intro w hSw
    try dsimp only at hSw
    go_simp <;> with_reducible rfl
  try simp only [Act.put, List.setIfInBounds_toArray, List.set_cons_zero, List.set_cons_succ]
  refine wpAnyH_take (i := 1) (oi := ⟨some 10, _, _, _, _, _⟩) (v := ?_) rfl (by kernel_rfl) (by kernel_rfl) (by kernel_rfl) (fun _ _ _ h => h) (Or.inl ⟨by rfl, ?_⟩) (by assumption) ?_
  rotate_left 1
  · intro w hSw
    try dsimp only at hSw
    go_simp <;> with_reducible rfl
  try simp only [Act.put, List.setIfInBounds_toArray, List.set_cons_zero, List.set_cons_succ]
  refine wpAnyH_take (i := 4) (oi := ⟨some 13, _, _, _, _, _⟩) (v := ?_) rfl (by kernel_rfl) (by kernel_rfl) (by kernel_rfl) (fun _ _ _ h => h) (Or.inl ⟨by rfl, ?_⟩) (by assumption) ?_
  rotate_left 1
  · intro w hSw
    try dsimp only at hSw
    go_simp <;> with_reducible rfl
  try simp only [Act.put, List.setIfInBounds_toArray, List.set_cons_zero, List.set_cons_succ]
  refine wpAnyH_take (i := 5) (oi := ⟨some 14, _, _, _, _, _⟩) (v := ?_) rfl (by kernel_rfl) (by kernel_rfl) (by kernel_rfl) (fun _ _ _ h => h) (Or.inl ⟨by rfl, ?_⟩) (by assumption) ?_
  rotate_left 1
  · intro w hSw
    try dsimp only at hSw
    go_simp <;> with_reducible rfl
  try simp only [Act.put, List.setIfInBounds_toArray, List.set_cons_zero, List.set_cons_succ]
  refine wpAnyH_take (i := 6) (oi := ⟨some 15, _, _, _, _, _⟩) (v := ?_) rfl (by kernel_rfl) (by kernel_rfl) (by kernel_rfl) (fun _ _ _ h => h) (Or.inl ⟨by rfl, ?_⟩) (by assumption) ?_
  rotate_left 1
  · intro w hSw
    try dsimp only at hSw
    go_simp <;> with_reducible rfl
  try simp only [Act.put, List.setIfInBounds_toArray, List.set_cons_zero, List.set_cons_succ]
  refine wpAnyH_ready (rs := [2, 7]) (by kernel_rfl) (by simp) ?_
  refine AllReadyH.cons (o := ⟨some 11, _, _, _, _, _⟩) rfl (fun K hK => ?_) ?_
  · clear hHeld
    go_simp
    refine hK.out _ _ (by refine HSh.out _ ?_; repeat (first | exact Later.rfl | exact hwr | exact hwq | refine Later.drew ?_ | refine Later.alloc ?_ _)) (fun hHeld => ?_)
    clear hK K
    try simp only [Act.put, List.setIfInBounds_toArray, List.set_cons_zero, List.set_cons_succ]
    refine wpAnyH_ready (rs := [3, 7]) (by kernel_rfl) (by simp) ?_
    refine AllReadyH.cons (o := ⟨some 12, _, _, _, _, _⟩) rfl (fun K hK => ?_) ?_
    · clear hHeld
      refine step_conv rfl _ rfl [c, 64] (by simp; exact Hc.out) _ 2 2 rfl rfl (by first | exact (Blk.new w0 _ _).drewN 1 | exact hwx.blk ((Blk.new w0 _ _).drewN 1) | exact Blk.new wq _ _) ?_
      refine hK.out _ _ (by refine HSh.out _ ?_; repeat (first | exact Later.rfl | exact hwr | exact hwq | refine Later.drew ?_ | refine Later.alloc ?_ _)) (fun hHeld => ?_)
      clear hK K
      try simp only [Act.put, List.setIfInBounds_toArray, List.set_cons_zero, List.set_cons_succ]
      refine wpAnyH_ready (rs := [7]) (by kernel_rfl) (by simp) ?_
      refine AllReadyH.cons (o := ⟨some 16, _, _, _, _, _⟩) rfl (fun K hK => ?_) ?_
      · clear hHeld
        go_simp
        go_at_call 27
        refine (HC.out _).mono ?_
        rintro e wq ⟨rfl, hwx⟩
        have hwq := Later.trans (a := w0) (by repeat (first | exact Later.rfl | refine Later.drew ?_ | refine Later.alloc ?_ _)) hwx
        try go_wp2_with fail
        refine hK.out _ _ (by refine HSh.out _ ?_; repeat (first | exact Later.rfl | exact hwr | exact hwq | refine Later.drew ?_ | refine Later.alloc ?_ _)) (fun hHeld => ?_)
        clear hK K
        try simp only [Act.put, List.setIfInBounds_toArray, List.set_cons_zero, List.set_cons_succ]
        refine wpAnyH_take (i := 8) (oi := ⟨some 17, _, _, _, _, _⟩) (v := ?_) rfl (by kernel_rfl) (by kernel_rfl) (by kernel_rfl) (fun _ _ _ h => h) (Or.inl ⟨by rfl, ?_⟩) (by assumption) ?_
        rotate_left 1
        · intro w hSw
          try dsimp only at hSw
          go_simp <;> with_reducible rfl
        try simp only [Act.put, List.setIfInBounds_toArray, List.set_cons_zero, List.set_cons_succ]
        refine wpAnyH_take (i := 9) (oi := ⟨some 4, _, _, _, _, _⟩) (v := ?_) rfl (by kernel_rfl) (by kernel_rfl) (by kernel_rfl) (fun _ _ _ h => h) (Or.inl ⟨by rfl, ?_⟩) (by assumption) ?_
        rotate_left 1
        · intro w hSw
          try dsimp only at hSw
          go_simp <;> with_reducible rfl
        try simp only [Act.put, List.setIfInBounds_toArray, List.set_cons_zero, List.set_cons_succ]
        refine wpAnyH_done (by kernel_rfl) ?_ _
        go_wp2_with fail
        go_ret
        exact ⟨rfl, Hw.out.trans (by repeat (first | exact Later.rfl | exact hwq | refine Later.drew ?_ | refine Later.alloc ?_ _))⟩
      exact AllReadyH.nil
    refine AllReadyH.cons (o := ⟨some 16, _, _, _, _, _⟩) rfl (fun K hK => ?_) ?_
    · clear hHeld
      go_simp
      go_at_call 27
      refine (HC.out _).mono ?_
      rintro e wq ⟨rfl, hwx⟩
      have hwq := Later.trans (a := w0) (by repeat (first | exact Later.rfl | refine Later.drew ?_ | refine Later.alloc ?_ _)) hwx
      try go_wp2_with fail
      refine hK.out _ _ (by refine HSh.out _ ?_; repeat (first | exact Later.rfl | exact hwr | exact hwq | refine Later.drew ?_ | refine Later.alloc ?_ _)) (fun hHeld => ?_)
      clear hK K
      try simp only [Act.put, List.setIfInBounds_toArray, List.set_cons_zero, List.set_cons_succ]
      refine wpAnyH_ready (rs := [3]) (by kernel_rfl) (by simp) ?_
      refine AllReadyH.cons (o := ⟨some 12, _, _, _, _, _⟩) rfl (fun K hK => ?_) ?_
      · clear hHeld
        refine step_conv rfl _ rfl [c, 64] (by simp; exact Hc.out) _ 2 2 rfl rfl (by first | exact (Blk.new w0 _ _).drewN 1 | exact hwx.blk ((Blk.new w0 _ _).drewN 1) | exact Blk.new wq _ _) ?_
        refine hK.out _ _ (by refine HSh.out _ ?_; repeat (first | exact Later.rfl | exact hwr | exact hwq | refine Later.drew ?_ | refine Later.alloc ?_ _)) (fun hHeld => ?_)
        clear hK K
        try simp only [Act.put, List.setIfInBounds_toArray, List.set_cons_zero, List.set_cons_succ]
        refine wpAnyH_take (i := 8) (oi := ⟨some 17, _, _, _, _, _⟩) (v := ?_) rfl (by kernel_rfl) (by kernel_rfl) (by kernel_rfl) (fun _ _ _ h => h) (Or.inl ⟨by rfl, ?_⟩) (by assumption) ?_
        rotate_left 1
        · intro w hSw
          try dsimp only at hSw
          go_simp <;> with_reducible rfl
        try simp only [Act.put, List.setIfInBounds_toArray, List.set_cons_zero, List.set_cons_succ]
        refine wpAnyH_take (i := 9) (oi := ⟨some 4, _, _, _, _, _⟩) (v := ?_) rfl (by kernel_rfl) (by kernel_rfl) (by kernel_rfl) (fun _ _ _ h => h) (Or.inl ⟨by rfl, ?_⟩) (by assumption) ?_
        rotate_left 1
        · intro w hSw
          try dsimp only at hSw
          go_simp <;> with_reducible rfl
        try simp only [Act.put, List.setIfInBounds_toArray, List.set_cons_zero, List.set_cons_succ]
        refine wpAnyH_done (by kernel_rfl) ?_ _
        go_wp2_with fail
        go_ret
        exact ⟨rfl, Hw.out.trans (by repeat (first | exact Later.rfl | exact hwq | refine Later.drew ?_ | refine Later.alloc ?_ _))⟩
      exact AllReadyH.nil
    exact AllReadyH.nil
  refine AllReadyH.cons (o := ⟨some 16, _, _, _, _, _⟩) rfl (fun K hK => ?_) ?_
  · clear hHeld
    go_simp
    go_at_call 27
    refine (HC.out _).mono ?_
    rintro e wq ⟨rfl, hwx⟩
    have hwq := Later.trans (a := w0) (by repeat (first | exact Later.rfl | refine Later.drew ?_ | refine Later.alloc ?_ _)) hwx
    try go_wp2_with fail
    refine hK.out _ _ (by refine HSh.out _ ?_; repeat (first | exact Later.rfl | exact hwr | exact hwq | refine Later.drew ?_ | refine Later.alloc ?_ _)) (fun hHeld => ?_)
    clear hK K
    try simp only [Act.put, List.setIfInBounds_toArray, List.set_cons_zero, List.set_cons_succ]
    refine wpAnyH_ready (rs := [2]) (by kernel_rfl) (by simp) ?_
    refine AllReadyH.cons (o := ⟨some 11, _, _, _, _, _⟩) rfl (fun K hK => ?_) ?_
    · clear hHeld
      go_simp
      refine hK.out _ _ (by refine HSh.out _ ?_; repeat (first | exact Later.rfl | exact hwr | exact hwq | refine Later.drew ?_ | refine Later.alloc ?_ _)) (fun hHeld => ?_)
      clear hK K
      try simp only [Act.put, List.setIfInBounds_toArray, List.set_cons_zero, List.set_cons_succ]
      refine wpAnyH_ready (rs := [3]) (by kernel_rfl) (by simp) ?_
      refine AllReadyH.cons (o := ⟨some 12, _, _, _, _, _⟩) rfl (fun K hK => ?_) ?_
      · clear hHeld
        refine step_conv rfl _ rfl [c, 64] (by simp; exact Hc.out) _ 2 2 rfl rfl (by first | exact (Blk.new w0 _ _).drewN 1 | exact hwx.blk ((Blk.new w0 _ _).drewN 1) | exact Blk.new wq _ _) ?_
        refine hK.out _ _ (by refine HSh.out _ ?_; repeat (first | exact Later.rfl | exact hwr | exact hwq | refine Later.drew ?_ | refine Later.alloc ?_ _)) (fun hHeld => ?_)
        clear hK K
        try simp only [Act.put, List.setIfInBounds_toArray, List.set_cons_zero, List.set_cons_succ]
        refine wpAnyH_take (i := 8) (oi := ⟨some 17, _, _, _, _, _⟩) (v := ?_) rfl (by kernel_rfl) (by kernel_rfl) (by kernel_rfl) (fun _ _ _ h => h) (Or.inl ⟨by rfl, ?_⟩) (by assumption) ?_
        rotate_left 1
        · intro w hSw
          try dsimp only at hSw
          go_simp <;> with_reducible rfl
        try simp only [Act.put, List.setIfInBounds_toArray, List.set_cons_zero, List.set_cons_succ]
        refine wpAnyH_take (i := 9) (oi := ⟨some 4, _, _, _, _, _⟩) (v := ?_) rfl (by kernel_rfl) (by kernel_rfl) (by kernel_rfl) (fun _ _ _ h => h) (Or.inl ⟨by rfl, ?_⟩) (by assumption) ?_
        rotate_left 1
        · intro w hSw
          try dsimp only at hSw
          go_simp <;> with_reducible rfl
        try simp only [Act.put, List.setIfInBounds_toArray, List.set_cons_zero, List.set_cons_succ]
        refine wpAnyH_done (by kernel_rfl) ?_ _
        go_wp2_with fail
        go_ret
        exact ⟨rfl, Hw.out.trans (by repeat (first | exact Later.rfl | exact hwq | refine Later.drew ?_ | refine Later.alloc ?_ _))⟩
      exact AllReadyH.nil
    exact AllReadyH.nil
  exact AllReadyH.nil
set_option maxHeartbeats 4000000 in
set_option maxRecDepth 100000 in
theorem text_board (p : Pos) (c f t : Nat) (W : World) (hp : PosOk p) (hc : c < 256) (ht : t < p.cells.size) (hfs : f < p.cells.size) :
    Calls Tryz.prog 14 #[.agg #[.int .i64 p.w, .int .i64 p.h, .string p.cells, .int .i64 p.turn, .string p.h0, .string p.h1], .agg #[.int .i64 (f : Int), .int .i64 (t : Int), .int .u8 (c : Int)]] W fun e w' => e = .returned (.string (bytes ([u8 c] ++ cellL p f ++ [if cellN p t = 46 then 45 else 120] ++ cellL p t))) ∧ Later W w' := by
  have Hbp := hide ((Blk.new W 24 #[.int .i64 p.w, .int .i64 p.h, .string p.cells, .int .i64 p.turn, .string p.h0, .string p.h1]).alloc (.cells #[.int .i64 (f : Int), .int .i64 (t : Int), .int .u8 (c : Int)] 29))
  have hbm := (Blk.new (W.alloc (.cells #[.int .i64 p.w, .int .i64 p.h, .string p.cells, .int .i64 p.turn, .string p.h0, .string p.h1] 24)) 29 #[.int .i64 (f : Int), .int .i64 (t : Int), .int .u8 (c : Int)])
  rw [World.size_alloc] at hbm
  have Hbm := hide hbm
  have Hw := hide (show Later W ((W.alloc (.cells #[.int .i64 p.w, .int .i64 p.h, .string p.cells, .int .i64 p.turn, .string p.h0, .string p.h1] 24)).alloc (.cells #[.int .i64 (f : Int), .int .i64 (t : Int), .int .u8 (c : Int)] 29)) from (Later.rfl.alloc _).alloc _)
  have HC := hide (fun w => mcell_any p t w hp ht)
  have HF := hide (fun w => mcell_any p f w hp hfs)
  have Hc := hide hc
  have hsz := (posOk_size hp)
  have t1 : decide ((f : Int) < 0) = false := by simp
  have i6 : p.cells[t].toNat = cellN p t := by
    unfold cellN
    rw [getD_get (show t < p.cells.data.toList.length from ht)]
    rfl
  obtain ⟨y, hy⟩ : ∃ y, cellN p t = y := ⟨_, rfl⟩
  rw [hy] at i6 ⊢
  have ti : (t : Int) < (p.cells.size : Int) := by omega
  obtain ⟨x, hx⟩ : ∃ x : UInt8, (if y = 46 then 45 else 120) = x := ⟨_, rfl⟩
  rw [hx]
  have Hx := hide hx
  clear hbm hp hfs hc hy hx
  rw [← bytes_cat, ← bytes_cat, ← bytes_cat]
  go_enter Tryz.func14, Tryz.ntmps14
  go_upto_region 1 with (fail)
  obtain ⟨w0, hw0⟩ : ∃ w0, (W.alloc (.cells #[.int .i64 p.w, .int .i64 p.h, .string p.cells, .int .i64 p.turn, .string p.h0, .string p.h1] 24)).alloc (.cells #[.int .i64 (f : Int), .int .i64 (t : Int), .int .u8 (c : Int)] 29) = w0 := ⟨_, rfl⟩
  rw [hw0] at Hbp Hbm Hw ⊢
  clear hw0
  obtain ⟨⟨m0, m1, m2⟩, -⟩ := Hbm.out.mv
  obtain ⟨p0, p1, p2, p3, p4, p5⟩ := Hbp.out.pos6
  have s3 : (cellL p t).length = 2 := rfl
  have s4 : (cellL p f).length = 2 := rfl
  have HSh := hide (show ∀ w' : World, Later w0 w' → (w'.cell? ⟨W.heap.size + 1, 0, none⟩ = some (.int .i64 (f : Int)) ∧ w'.cell? ⟨W.heap.size + 1, 1, none⟩ = some (.int .i64 (t : Int)) ∧ w'.cell? ⟨W.heap.size + 1, 2, none⟩ = some (.int .u8 (c : Int)) ∧ w'.cell? ⟨W.heap.size, 0, none⟩ = some (.int .i64 p.w) ∧ w'.cell? ⟨W.heap.size, 1, none⟩ = some (.int .i64 p.h) ∧ w'.cell? ⟨W.heap.size, 2, none⟩ = some (.string p.cells) ∧ w'.cell? ⟨W.heap.size, 3, none⟩ = some (.int .i64 p.turn) ∧ w'.cell? ⟨W.heap.size, 4, none⟩ = some (.string p.h0) ∧ w'.cell? ⟨W.heap.size, 5, none⟩ = some (.string p.h1)) from fun w' hw => by
    obtain ⟨⟨m0, m1, m2⟩, -⟩ := (hw.blk Hbm.out).mv
    obtain ⟨p0, p1, p2, p3, p4, p5⟩ := (hw.blk Hbp.out).pos6
    exact ⟨m0, m1, m2, p0, p1, p2, p3, p4, p5⟩)
  by_cases h46 : y = 46
  · have tb : ((y : Int) != 46) = false := by simp; omega
    obtain rfl : (45 : UInt8) = x := by rw [← Hx.out, if_pos h46]
    clear h46
    go_upto_region 6 with (fail)
    clear m0 m1 m2 p0 p1 p2 p3 p4 p5 i6 ti tb t1 ht hsz
    refine wp_region_held_drew (S := fun w' : World => (w'.cell? ⟨W.heap.size + 1, 0, none⟩ = some (.int .i64 (f : Int)) ∧ w'.cell? ⟨W.heap.size + 1, 1, none⟩ = some (.int .i64 (t : Int)) ∧ w'.cell? ⟨W.heap.size + 1, 2, none⟩ = some (.int .u8 (c : Int)) ∧ w'.cell? ⟨W.heap.size, 0, none⟩ = some (.int .i64 p.w) ∧ w'.cell? ⟨W.heap.size, 1, none⟩ = some (.int .i64 p.h) ∧ w'.cell? ⟨W.heap.size, 2, none⟩ = some (.string p.cells) ∧ w'.cell? ⟨W.heap.size, 3, none⟩ = some (.int .i64 p.turn) ∧ w'.cell? ⟨W.heap.size, 4, none⟩ = some (.string p.h0) ∧ w'.cell? ⟨W.heap.size, 5, none⟩ = some (.string p.h1))) (by kernel_rfl) (HSh.out _ Later.rfl.drew) (fun hHeld => ?_)
    refine wpAnyH_take (i := 0) (oi := ⟨some 24, _, _, _, _, _⟩) (v := ?_) rfl (by kernel_rfl) (by kernel_rfl) (by kernel_rfl) (fun _ _ _ h => h) (Or.inl ⟨by rfl, ?_⟩) (by assumption) ?_
    rotate_left 1
    · intro w hSw
      try dsimp only at hSw
      go_simp <;> with_reducible rfl
    try simp only [Act.put, List.setIfInBounds_toArray, List.set_cons_zero, List.set_cons_succ]
    refine wpAnyH_take (i := 1) (oi := ⟨some 25, _, _, _, _, _⟩) (v := ?_) rfl (by kernel_rfl) (by kernel_rfl) (by kernel_rfl) (fun _ _ _ h => h) (Or.inl ⟨by rfl, ?_⟩) (by assumption) ?_
    rotate_left 1
    · intro w hSw
      try dsimp only at hSw
      go_simp <;> with_reducible rfl
    try simp only [Act.put, List.setIfInBounds_toArray, List.set_cons_zero, List.set_cons_succ]
    refine wpAnyH_take (i := 4) (oi := ⟨some 28, _, _, _, _, _⟩) (v := ?_) rfl (by kernel_rfl) (by kernel_rfl) (by kernel_rfl) (fun _ _ _ h => h) (Or.inl ⟨by rfl, ?_⟩) (by assumption) ?_
    rotate_left 1
    · intro w hSw
      try dsimp only at hSw
      go_simp <;> with_reducible rfl
    try simp only [Act.put, List.setIfInBounds_toArray, List.set_cons_zero, List.set_cons_succ]
    refine wpAnyH_take (i := 5) (oi := ⟨some 29, _, _, _, _, _⟩) (v := ?_) rfl (by kernel_rfl) (by kernel_rfl) (by kernel_rfl) (fun _ _ _ h => h) (Or.inl ⟨by rfl, ?_⟩) (by assumption) ?_
    rotate_left 1
    · intro w hSw
      try dsimp only at hSw
      go_simp <;> with_reducible rfl
    try simp only [Act.put, List.setIfInBounds_toArray, List.set_cons_zero, List.set_cons_succ]
    refine wpAnyH_take (i := 6) (oi := ⟨some 30, _, _, _, _, _⟩) (v := ?_) rfl (by kernel_rfl) (by kernel_rfl) (by kernel_rfl) (fun _ _ _ h => h) (Or.inl ⟨by rfl, ?_⟩) (by assumption) ?_
    rotate_left 1
    · intro w hSw
      try dsimp only at hSw
      go_simp <;> with_reducible rfl
    try simp only [Act.put, List.setIfInBounds_toArray, List.set_cons_zero, List.set_cons_succ]
    refine wpAnyH_take (i := 9) (oi := ⟨some 33, _, _, _, _, _⟩) (v := ?_) rfl (by kernel_rfl) (by kernel_rfl) (by kernel_rfl) (fun _ _ _ h => h) (Or.inl ⟨by rfl, ?_⟩) (by assumption) ?_
    rotate_left 1
    · intro w hSw
      try dsimp only at hSw
      go_simp <;> with_reducible rfl
    try simp only [Act.put, List.setIfInBounds_toArray, List.set_cons_zero, List.set_cons_succ]
    refine wpAnyH_take (i := 11) (oi := ⟨some 35, _, _, _, _, _⟩) (v := ?_) rfl (by kernel_rfl) (by kernel_rfl) (by kernel_rfl) (fun _ _ _ h => h) (Or.inl ⟨by rfl, ?_⟩) (by assumption) ?_
    rotate_left 1
    · intro w hSw
      try dsimp only at hSw
      go_simp <;> with_reducible rfl
    try simp only [Act.put, List.setIfInBounds_toArray, List.set_cons_zero, List.set_cons_succ]
    refine wpAnyH_take (i := 12) (oi := ⟨some 36, _, _, _, _, _⟩) (v := ?_) rfl (by kernel_rfl) (by kernel_rfl) (by kernel_rfl) (fun _ _ _ h => h) (Or.inl ⟨by rfl, ?_⟩) (by assumption) ?_
    rotate_left 1
    · intro w hSw
      try dsimp only at hSw
      go_simp <;> with_reducible rfl
    try simp only [Act.put, List.setIfInBounds_toArray, List.set_cons_zero, List.set_cons_succ]
    refine wpAnyH_take (i := 13) (oi := ⟨some 37, _, _, _, _, _⟩) (v := ?_) rfl (by kernel_rfl) (by kernel_rfl) (by kernel_rfl) (fun _ _ _ h => h) (Or.inl ⟨by rfl, ?_⟩) (by assumption) ?_
    rotate_left 1
    · intro w hSw
      try dsimp only at hSw
      go_simp <;> with_reducible rfl
    try simp only [Act.put, List.setIfInBounds_toArray, List.set_cons_zero, List.set_cons_succ]
    refine wpAnyH_ready (rs := [2, 7]) (by kernel_rfl) (by simp) ?_
    refine AllReadyH.cons (o := ⟨some 26, _, _, _, _, _⟩) rfl (fun K hK => ?_) ?_
    · clear hHeld
      go_simp
      refine hK.out _ _ (by refine HSh.out _ ?_; repeat (first | exact Later.rfl | exact hwr | exact hwq | refine Later.drew ?_ | refine Later.alloc ?_ _)) (fun hHeld => ?_)
      clear hK K
      try simp only [Act.put, List.setIfInBounds_toArray, List.set_cons_zero, List.set_cons_succ]
      refine wpAnyH_ready (rs := [3, 7]) (by kernel_rfl) (by simp) ?_
      refine AllReadyH.cons (o := ⟨some 27, _, _, _, _, _⟩) rfl (fun K hK => ?_) ?_
      · clear hHeld
        refine step_conv rfl _ rfl [c] (by simp; exact Hc.out) _ 1 1 rfl rfl (by first | exact (Blk.new w0 _ _).drewN 1 | exact hwx.blk ((Blk.new w0 _ _).drewN 1) | exact hwy.blk (hwx.blk ((Blk.new w0 _ _).drewN 1)) | exact Blk.new wq _ _ | exact hwy.blk (Blk.new wq _ _) | exact Blk.new wr _ _) ?_
        refine hK.out _ _ (by refine HSh.out _ ?_; repeat (first | exact Later.rfl | exact hwr | exact hwq | refine Later.drew ?_ | refine Later.alloc ?_ _)) (fun hHeld => ?_)
        clear hK K
        try simp only [Act.put, List.setIfInBounds_toArray, List.set_cons_zero, List.set_cons_succ]
        refine wpAnyH_ready (rs := [7]) (by kernel_rfl) (by simp) ?_
        refine AllReadyH.cons (o := ⟨some 31, _, _, _, _, _⟩) rfl (fun K hK => ?_) ?_
        · clear hHeld
          go_simp
          go_at_call 27
          refine (HF.out _).mono ?_
          rintro e wq ⟨rfl, hwx⟩
          have hwq : Later w0 wq := Later.trans (by repeat (first | exact Later.rfl | exact hwq | refine Later.drew ?_ | refine Later.alloc ?_ _)) hwx
          try go_wp2_with fail
          refine hK.out _ _ (by refine HSh.out _ ?_; repeat (first | exact Later.rfl | exact hwr | exact hwq | refine Later.drew ?_ | refine Later.alloc ?_ _)) (fun hHeld => ?_)
          clear hK K
          try simp only [Act.put, List.setIfInBounds_toArray, List.set_cons_zero, List.set_cons_succ]
          refine wpAnyH_take (i := 8) (oi := ⟨some 32, _, _, _, _, _⟩) (v := ?_) rfl (by kernel_rfl) (by kernel_rfl) (by kernel_rfl) (fun _ _ _ h => h) (Or.inl ⟨by rfl, ?_⟩) (by assumption) ?_
          rotate_left 1
          · intro w hSw
            try dsimp only at hSw
            go_simp <;> with_reducible rfl
          try simp only [Act.put, List.setIfInBounds_toArray, List.set_cons_zero, List.set_cons_succ]
          refine wpAnyH_take (i := 10) (oi := ⟨some 34, _, _, _, _, _⟩) (v := ?_) rfl (by kernel_rfl) (by kernel_rfl) (by kernel_rfl) (fun _ _ _ h => h) (Or.inl ⟨by rfl, ?_⟩) (by assumption) ?_
          rotate_left 1
          · intro w hSw
            try dsimp only at hSw
            go_simp <;> with_reducible rfl
          try simp only [Act.put, List.setIfInBounds_toArray, List.set_cons_zero, List.set_cons_succ]
          refine wpAnyH_ready (rs := [14]) (by kernel_rfl) (by simp) ?_
          refine AllReadyH.cons (o := ⟨some 38, _, _, _, _, _⟩) rfl (fun K hK => ?_) ?_
          · clear hHeld
            go_simp
            go_at_call 27
            refine (HC.out _).mono ?_
            rintro e wr ⟨rfl, hwy⟩
            have hwr : Later w0 wr := Later.trans (by repeat (first | exact Later.rfl | exact hwq | refine Later.drew ?_ | refine Later.alloc ?_ _)) hwy
            try go_wp2_with fail
            refine hK.out _ _ (by refine HSh.out _ ?_; repeat (first | exact Later.rfl | exact hwr | exact hwq | refine Later.drew ?_ | refine Later.alloc ?_ _)) (fun hHeld => ?_)
            clear hK K
            try simp only [Act.put, List.setIfInBounds_toArray, List.set_cons_zero, List.set_cons_succ]
            refine wpAnyH_take (i := 15) (oi := ⟨some 39, _, _, _, _, _⟩) (v := ?_) rfl (by kernel_rfl) (by kernel_rfl) (by kernel_rfl) (fun _ _ _ h => h) (Or.inl ⟨by rfl, ?_⟩) (by assumption) ?_
            rotate_left 1
            · intro w hSw
              try dsimp only at hSw
              go_simp <;> with_reducible rfl
            try simp only [Act.put, List.setIfInBounds_toArray, List.set_cons_zero, List.set_cons_succ]
            refine wpAnyH_take (i := 16) (oi := ⟨some 4, _, _, _, _, _⟩) (v := ?_) rfl (by kernel_rfl) (by kernel_rfl) (by kernel_rfl) (fun _ _ _ h => h) (Or.inl ⟨by rfl, ?_⟩) (by assumption) ?_
            rotate_left 1
            · intro w hSw
              try dsimp only at hSw
              go_simp <;> with_reducible rfl
            try simp only [Act.put, List.setIfInBounds_toArray, List.set_cons_zero, List.set_cons_succ]
            refine wpAnyH_done (by kernel_rfl) ?_ _
            go_wp2_with fail
            go_ret
            exact ⟨rfl, Hw.out.trans (by repeat (first | exact Later.rfl | exact hwr | exact hwq | refine Later.drew ?_ | refine Later.alloc ?_ _))⟩
          exact AllReadyH.nil
        exact AllReadyH.nil
      refine AllReadyH.cons (o := ⟨some 31, _, _, _, _, _⟩) rfl (fun K hK => ?_) ?_
      · clear hHeld
        go_simp
        go_at_call 27
        refine (HF.out _).mono ?_
        rintro e wq ⟨rfl, hwx⟩
        have hwq : Later w0 wq := Later.trans (by repeat (first | exact Later.rfl | exact hwq | refine Later.drew ?_ | refine Later.alloc ?_ _)) hwx
        try go_wp2_with fail
        refine hK.out _ _ (by refine HSh.out _ ?_; repeat (first | exact Later.rfl | exact hwr | exact hwq | refine Later.drew ?_ | refine Later.alloc ?_ _)) (fun hHeld => ?_)
        clear hK K
        try simp only [Act.put, List.setIfInBounds_toArray, List.set_cons_zero, List.set_cons_succ]
        refine wpAnyH_ready (rs := [3, 14]) (by kernel_rfl) (by simp) ?_
        refine AllReadyH.cons (o := ⟨some 27, _, _, _, _, _⟩) rfl (fun K hK => ?_) ?_
        · clear hHeld
          refine step_conv rfl _ rfl [c] (by simp; exact Hc.out) _ 1 1 rfl rfl (by first | exact (Blk.new w0 _ _).drewN 1 | exact hwx.blk ((Blk.new w0 _ _).drewN 1) | exact hwy.blk (hwx.blk ((Blk.new w0 _ _).drewN 1)) | exact Blk.new wq _ _ | exact hwy.blk (Blk.new wq _ _) | exact Blk.new wr _ _) ?_
          refine hK.out _ _ (by refine HSh.out _ ?_; repeat (first | exact Later.rfl | exact hwr | exact hwq | refine Later.drew ?_ | refine Later.alloc ?_ _)) (fun hHeld => ?_)
          clear hK K
          try simp only [Act.put, List.setIfInBounds_toArray, List.set_cons_zero, List.set_cons_succ]
          refine wpAnyH_take (i := 8) (oi := ⟨some 32, _, _, _, _, _⟩) (v := ?_) rfl (by kernel_rfl) (by kernel_rfl) (by kernel_rfl) (fun _ _ _ h => h) (Or.inl ⟨by rfl, ?_⟩) (by assumption) ?_
          rotate_left 1
          · intro w hSw
            try dsimp only at hSw
            go_simp <;> with_reducible rfl
          try simp only [Act.put, List.setIfInBounds_toArray, List.set_cons_zero, List.set_cons_succ]
          refine wpAnyH_take (i := 10) (oi := ⟨some 34, _, _, _, _, _⟩) (v := ?_) rfl (by kernel_rfl) (by kernel_rfl) (by kernel_rfl) (fun _ _ _ h => h) (Or.inl ⟨by rfl, ?_⟩) (by assumption) ?_
          rotate_left 1
          · intro w hSw
            try dsimp only at hSw
            go_simp <;> with_reducible rfl
          try simp only [Act.put, List.setIfInBounds_toArray, List.set_cons_zero, List.set_cons_succ]
          refine wpAnyH_ready (rs := [14]) (by kernel_rfl) (by simp) ?_
          refine AllReadyH.cons (o := ⟨some 38, _, _, _, _, _⟩) rfl (fun K hK => ?_) ?_
          · clear hHeld
            go_simp
            go_at_call 27
            refine (HC.out _).mono ?_
            rintro e wr ⟨rfl, hwy⟩
            have hwr : Later w0 wr := Later.trans (by repeat (first | exact Later.rfl | exact hwq | refine Later.drew ?_ | refine Later.alloc ?_ _)) hwy
            try go_wp2_with fail
            refine hK.out _ _ (by refine HSh.out _ ?_; repeat (first | exact Later.rfl | exact hwr | exact hwq | refine Later.drew ?_ | refine Later.alloc ?_ _)) (fun hHeld => ?_)
            clear hK K
            try simp only [Act.put, List.setIfInBounds_toArray, List.set_cons_zero, List.set_cons_succ]
            refine wpAnyH_take (i := 15) (oi := ⟨some 39, _, _, _, _, _⟩) (v := ?_) rfl (by kernel_rfl) (by kernel_rfl) (by kernel_rfl) (fun _ _ _ h => h) (Or.inl ⟨by rfl, ?_⟩) (by assumption) ?_
            rotate_left 1
            · intro w hSw
              try dsimp only at hSw
              go_simp <;> with_reducible rfl
            try simp only [Act.put, List.setIfInBounds_toArray, List.set_cons_zero, List.set_cons_succ]
            refine wpAnyH_take (i := 16) (oi := ⟨some 4, _, _, _, _, _⟩) (v := ?_) rfl (by kernel_rfl) (by kernel_rfl) (by kernel_rfl) (fun _ _ _ h => h) (Or.inl ⟨by rfl, ?_⟩) (by assumption) ?_
            rotate_left 1
            · intro w hSw
              try dsimp only at hSw
              go_simp <;> with_reducible rfl
            try simp only [Act.put, List.setIfInBounds_toArray, List.set_cons_zero, List.set_cons_succ]
            refine wpAnyH_done (by kernel_rfl) ?_ _
            go_wp2_with fail
            go_ret
            exact ⟨rfl, Hw.out.trans (by repeat (first | exact Later.rfl | exact hwr | exact hwq | refine Later.drew ?_ | refine Later.alloc ?_ _))⟩
          exact AllReadyH.nil
        refine AllReadyH.cons (o := ⟨some 38, _, _, _, _, _⟩) rfl (fun K hK => ?_) ?_
        · clear hHeld
          go_simp
          go_at_call 27
          refine (HC.out _).mono ?_
          rintro e wr ⟨rfl, hwy⟩
          have hwr : Later w0 wr := Later.trans (by repeat (first | exact Later.rfl | exact hwq | refine Later.drew ?_ | refine Later.alloc ?_ _)) hwy
          try go_wp2_with fail
          refine hK.out _ _ (by refine HSh.out _ ?_; repeat (first | exact Later.rfl | exact hwr | exact hwq | refine Later.drew ?_ | refine Later.alloc ?_ _)) (fun hHeld => ?_)
          clear hK K
          try simp only [Act.put, List.setIfInBounds_toArray, List.set_cons_zero, List.set_cons_succ]
          refine wpAnyH_ready (rs := [3]) (by kernel_rfl) (by simp) ?_
          refine AllReadyH.cons (o := ⟨some 27, _, _, _, _, _⟩) rfl (fun K hK => ?_) ?_
          · clear hHeld
            refine step_conv rfl _ rfl [c] (by simp; exact Hc.out) _ 1 1 rfl rfl (by first | exact (Blk.new w0 _ _).drewN 1 | exact hwx.blk ((Blk.new w0 _ _).drewN 1) | exact hwy.blk (hwx.blk ((Blk.new w0 _ _).drewN 1)) | exact Blk.new wq _ _ | exact hwy.blk (Blk.new wq _ _) | exact Blk.new wr _ _) ?_
            refine hK.out _ _ (by refine HSh.out _ ?_; repeat (first | exact Later.rfl | exact hwr | exact hwq | refine Later.drew ?_ | refine Later.alloc ?_ _)) (fun hHeld => ?_)
            clear hK K
            try simp only [Act.put, List.setIfInBounds_toArray, List.set_cons_zero, List.set_cons_succ]
            refine wpAnyH_take (i := 8) (oi := ⟨some 32, _, _, _, _, _⟩) (v := ?_) rfl (by kernel_rfl) (by kernel_rfl) (by kernel_rfl) (fun _ _ _ h => h) (Or.inl ⟨by rfl, ?_⟩) (by assumption) ?_
            rotate_left 1
            · intro w hSw
              try dsimp only at hSw
              go_simp <;> with_reducible rfl
            try simp only [Act.put, List.setIfInBounds_toArray, List.set_cons_zero, List.set_cons_succ]
            refine wpAnyH_take (i := 10) (oi := ⟨some 34, _, _, _, _, _⟩) (v := ?_) rfl (by kernel_rfl) (by kernel_rfl) (by kernel_rfl) (fun _ _ _ h => h) (Or.inl ⟨by rfl, ?_⟩) (by assumption) ?_
            rotate_left 1
            · intro w hSw
              try dsimp only at hSw
              go_simp <;> with_reducible rfl
            try simp only [Act.put, List.setIfInBounds_toArray, List.set_cons_zero, List.set_cons_succ]
            refine wpAnyH_take (i := 15) (oi := ⟨some 39, _, _, _, _, _⟩) (v := ?_) rfl (by kernel_rfl) (by kernel_rfl) (by kernel_rfl) (fun _ _ _ h => h) (Or.inl ⟨by rfl, ?_⟩) (by assumption) ?_
            rotate_left 1
            · intro w hSw
              try dsimp only at hSw
              go_simp <;> with_reducible rfl
            try simp only [Act.put, List.setIfInBounds_toArray, List.set_cons_zero, List.set_cons_succ]
            refine wpAnyH_take (i := 16) (oi := ⟨some 4, _, _, _, _, _⟩) (v := ?_) rfl (by kernel_rfl) (by kernel_rfl) (by kernel_rfl) (fun _ _ _ h => h) (Or.inl ⟨by rfl, ?_⟩) (by assumption) ?_
            rotate_left 1
            · intro w hSw
              try dsimp only at hSw
              go_simp <;> with_reducible rfl
            try simp only [Act.put, List.setIfInBounds_toArray, List.set_cons_zero, List.set_cons_succ]
            refine wpAnyH_done (by kernel_rfl) ?_ _
            go_wp2_with fail
            go_ret
            exact ⟨rfl, Hw.out.trans (by repeat (first | exact Later.rfl | exact hwr | exact hwq | refine Later.drew ?_ | refine Later.alloc ?_ _))⟩
          exact AllReadyH.nil
        exact AllReadyH.nil
      exact AllReadyH.nil
    refine AllReadyH.cons (o := ⟨some 31, _, _, _, _, _⟩) rfl (fun K hK => ?_) ?_
    · clear hHeld
      go_simp
      go_at_call 27
      refine (HF.out _).mono ?_
      rintro e wq ⟨rfl, hwx⟩
      have hwq : Later w0 wq := Later.trans (by repeat (first | exact Later.rfl | exact hwq | refine Later.drew ?_ | refine Later.alloc ?_ _)) hwx
      try go_wp2_with fail
      refine hK.out _ _ (by refine HSh.out _ ?_; repeat (first | exact Later.rfl | exact hwr | exact hwq | refine Later.drew ?_ | refine Later.alloc ?_ _)) (fun hHeld => ?_)
      clear hK K
      try simp only [Act.put, List.setIfInBounds_toArray, List.set_cons_zero, List.set_cons_succ]
      refine wpAnyH_ready (rs := [2, 14]) (by kernel_rfl) (by simp) ?_
      refine AllReadyH.cons (o := ⟨some 26, _, _, _, _, _⟩) rfl (fun K hK => ?_) ?_
      · clear hHeld
        go_simp
        refine hK.out _ _ (by refine HSh.out _ ?_; repeat (first | exact Later.rfl | exact hwr | exact hwq | refine Later.drew ?_ | refine Later.alloc ?_ _)) (fun hHeld => ?_)
        clear hK K
        try simp only [Act.put, List.setIfInBounds_toArray, List.set_cons_zero, List.set_cons_succ]
        refine wpAnyH_ready (rs := [3, 14]) (by kernel_rfl) (by simp) ?_
        refine AllReadyH.cons (o := ⟨some 27, _, _, _, _, _⟩) rfl (fun K hK => ?_) ?_
        · clear hHeld
          refine step_conv rfl _ rfl [c] (by simp; exact Hc.out) _ 1 1 rfl rfl (by first | exact (Blk.new w0 _ _).drewN 1 | exact hwx.blk ((Blk.new w0 _ _).drewN 1) | exact hwy.blk (hwx.blk ((Blk.new w0 _ _).drewN 1)) | exact Blk.new wq _ _ | exact hwy.blk (Blk.new wq _ _) | exact Blk.new wr _ _) ?_
          refine hK.out _ _ (by refine HSh.out _ ?_; repeat (first | exact Later.rfl | exact hwr | exact hwq | refine Later.drew ?_ | refine Later.alloc ?_ _)) (fun hHeld => ?_)
          clear hK K
          try simp only [Act.put, List.setIfInBounds_toArray, List.set_cons_zero, List.set_cons_succ]
          refine wpAnyH_take (i := 8) (oi := ⟨some 32, _, _, _, _, _⟩) (v := ?_) rfl (by kernel_rfl) (by kernel_rfl) (by kernel_rfl) (fun _ _ _ h => h) (Or.inl ⟨by rfl, ?_⟩) (by assumption) ?_
          rotate_left 1
          · intro w hSw
            try dsimp only at hSw
            go_simp <;> with_reducible rfl
          try simp only [Act.put, List.setIfInBounds_toArray, List.set_cons_zero, List.set_cons_succ]
          refine wpAnyH_take (i := 10) (oi := ⟨some 34, _, _, _, _, _⟩) (v := ?_) rfl (by kernel_rfl) (by kernel_rfl) (by kernel_rfl) (fun _ _ _ h => h) (Or.inl ⟨by rfl, ?_⟩) (by assumption) ?_
          rotate_left 1
          · intro w hSw
            try dsimp only at hSw
            go_simp <;> with_reducible rfl
          try simp only [Act.put, List.setIfInBounds_toArray, List.set_cons_zero, List.set_cons_succ]
          refine wpAnyH_ready (rs := [14]) (by kernel_rfl) (by simp) ?_
          refine AllReadyH.cons (o := ⟨some 38, _, _, _, _, _⟩) rfl (fun K hK => ?_) ?_
          · clear hHeld
            go_simp
            go_at_call 27
            refine (HC.out _).mono ?_
            rintro e wr ⟨rfl, hwy⟩
            have hwr : Later w0 wr := Later.trans (by repeat (first | exact Later.rfl | exact hwq | refine Later.drew ?_ | refine Later.alloc ?_ _)) hwy
            try go_wp2_with fail
            refine hK.out _ _ (by refine HSh.out _ ?_; repeat (first | exact Later.rfl | exact hwr | exact hwq | refine Later.drew ?_ | refine Later.alloc ?_ _)) (fun hHeld => ?_)
            clear hK K
            try simp only [Act.put, List.setIfInBounds_toArray, List.set_cons_zero, List.set_cons_succ]
            refine wpAnyH_take (i := 15) (oi := ⟨some 39, _, _, _, _, _⟩) (v := ?_) rfl (by kernel_rfl) (by kernel_rfl) (by kernel_rfl) (fun _ _ _ h => h) (Or.inl ⟨by rfl, ?_⟩) (by assumption) ?_
            rotate_left 1
            · intro w hSw
              try dsimp only at hSw
              go_simp <;> with_reducible rfl
            try simp only [Act.put, List.setIfInBounds_toArray, List.set_cons_zero, List.set_cons_succ]
            refine wpAnyH_take (i := 16) (oi := ⟨some 4, _, _, _, _, _⟩) (v := ?_) rfl (by kernel_rfl) (by kernel_rfl) (by kernel_rfl) (fun _ _ _ h => h) (Or.inl ⟨by rfl, ?_⟩) (by assumption) ?_
            rotate_left 1
            · intro w hSw
              try dsimp only at hSw
              go_simp <;> with_reducible rfl
            try simp only [Act.put, List.setIfInBounds_toArray, List.set_cons_zero, List.set_cons_succ]
            refine wpAnyH_done (by kernel_rfl) ?_ _
            go_wp2_with fail
            go_ret
            exact ⟨rfl, Hw.out.trans (by repeat (first | exact Later.rfl | exact hwr | exact hwq | refine Later.drew ?_ | refine Later.alloc ?_ _))⟩
          exact AllReadyH.nil
        refine AllReadyH.cons (o := ⟨some 38, _, _, _, _, _⟩) rfl (fun K hK => ?_) ?_
        · clear hHeld
          go_simp
          go_at_call 27
          refine (HC.out _).mono ?_
          rintro e wr ⟨rfl, hwy⟩
          have hwr : Later w0 wr := Later.trans (by repeat (first | exact Later.rfl | exact hwq | refine Later.drew ?_ | refine Later.alloc ?_ _)) hwy
          try go_wp2_with fail
          refine hK.out _ _ (by refine HSh.out _ ?_; repeat (first | exact Later.rfl | exact hwr | exact hwq | refine Later.drew ?_ | refine Later.alloc ?_ _)) (fun hHeld => ?_)
          clear hK K
          try simp only [Act.put, List.setIfInBounds_toArray, List.set_cons_zero, List.set_cons_succ]
          refine wpAnyH_ready (rs := [3]) (by kernel_rfl) (by simp) ?_
          refine AllReadyH.cons (o := ⟨some 27, _, _, _, _, _⟩) rfl (fun K hK => ?_) ?_
          · clear hHeld
            refine step_conv rfl _ rfl [c] (by simp; exact Hc.out) _ 1 1 rfl rfl (by first | exact (Blk.new w0 _ _).drewN 1 | exact hwx.blk ((Blk.new w0 _ _).drewN 1) | exact hwy.blk (hwx.blk ((Blk.new w0 _ _).drewN 1)) | exact Blk.new wq _ _ | exact hwy.blk (Blk.new wq _ _) | exact Blk.new wr _ _) ?_
            refine hK.out _ _ (by refine HSh.out _ ?_; repeat (first | exact Later.rfl | exact hwr | exact hwq | refine Later.drew ?_ | refine Later.alloc ?_ _)) (fun hHeld => ?_)
            clear hK K
            try simp only [Act.put, List.setIfInBounds_toArray, List.set_cons_zero, List.set_cons_succ]
            refine wpAnyH_take (i := 8) (oi := ⟨some 32, _, _, _, _, _⟩) (v := ?_) rfl (by kernel_rfl) (by kernel_rfl) (by kernel_rfl) (fun _ _ _ h => h) (Or.inl ⟨by rfl, ?_⟩) (by assumption) ?_
            rotate_left 1
            · intro w hSw
              try dsimp only at hSw
              go_simp <;> with_reducible rfl
            try simp only [Act.put, List.setIfInBounds_toArray, List.set_cons_zero, List.set_cons_succ]
            refine wpAnyH_take (i := 10) (oi := ⟨some 34, _, _, _, _, _⟩) (v := ?_) rfl (by kernel_rfl) (by kernel_rfl) (by kernel_rfl) (fun _ _ _ h => h) (Or.inl ⟨by rfl, ?_⟩) (by assumption) ?_
            rotate_left 1
            · intro w hSw
              try dsimp only at hSw
              go_simp <;> with_reducible rfl
            try simp only [Act.put, List.setIfInBounds_toArray, List.set_cons_zero, List.set_cons_succ]
            refine wpAnyH_take (i := 15) (oi := ⟨some 39, _, _, _, _, _⟩) (v := ?_) rfl (by kernel_rfl) (by kernel_rfl) (by kernel_rfl) (fun _ _ _ h => h) (Or.inl ⟨by rfl, ?_⟩) (by assumption) ?_
            rotate_left 1
            · intro w hSw
              try dsimp only at hSw
              go_simp <;> with_reducible rfl
            try simp only [Act.put, List.setIfInBounds_toArray, List.set_cons_zero, List.set_cons_succ]
            refine wpAnyH_take (i := 16) (oi := ⟨some 4, _, _, _, _, _⟩) (v := ?_) rfl (by kernel_rfl) (by kernel_rfl) (by kernel_rfl) (fun _ _ _ h => h) (Or.inl ⟨by rfl, ?_⟩) (by assumption) ?_
            rotate_left 1
            · intro w hSw
              try dsimp only at hSw
              go_simp <;> with_reducible rfl
            try simp only [Act.put, List.setIfInBounds_toArray, List.set_cons_zero, List.set_cons_succ]
            refine wpAnyH_done (by kernel_rfl) ?_ _
            go_wp2_with fail
            go_ret
            exact ⟨rfl, Hw.out.trans (by repeat (first | exact Later.rfl | exact hwr | exact hwq | refine Later.drew ?_ | refine Later.alloc ?_ _))⟩
          exact AllReadyH.nil
        exact AllReadyH.nil
      refine AllReadyH.cons (o := ⟨some 38, _, _, _, _, _⟩) rfl (fun K hK => ?_) ?_
      · clear hHeld
        go_simp
        go_at_call 27
        refine (HC.out _).mono ?_
        rintro e wr ⟨rfl, hwy⟩
        have hwr : Later w0 wr := Later.trans (by repeat (first | exact Later.rfl | exact hwq | refine Later.drew ?_ | refine Later.alloc ?_ _)) hwy
        try go_wp2_with fail
        refine hK.out _ _ (by refine HSh.out _ ?_; repeat (first | exact Later.rfl | exact hwr | exact hwq | refine Later.drew ?_ | refine Later.alloc ?_ _)) (fun hHeld => ?_)
        clear hK K
        try simp only [Act.put, List.setIfInBounds_toArray, List.set_cons_zero, List.set_cons_succ]
        refine wpAnyH_ready (rs := [2]) (by kernel_rfl) (by simp) ?_
        refine AllReadyH.cons (o := ⟨some 26, _, _, _, _, _⟩) rfl (fun K hK => ?_) ?_
        · clear hHeld
          go_simp
          refine hK.out _ _ (by refine HSh.out _ ?_; repeat (first | exact Later.rfl | exact hwr | exact hwq | refine Later.drew ?_ | refine Later.alloc ?_ _)) (fun hHeld => ?_)
          clear hK K
          try simp only [Act.put, List.setIfInBounds_toArray, List.set_cons_zero, List.set_cons_succ]
          refine wpAnyH_ready (rs := [3]) (by kernel_rfl) (by simp) ?_
          refine AllReadyH.cons (o := ⟨some 27, _, _, _, _, _⟩) rfl (fun K hK => ?_) ?_
          · clear hHeld
            refine step_conv rfl _ rfl [c] (by simp; exact Hc.out) _ 1 1 rfl rfl (by first | exact (Blk.new w0 _ _).drewN 1 | exact hwx.blk ((Blk.new w0 _ _).drewN 1) | exact hwy.blk (hwx.blk ((Blk.new w0 _ _).drewN 1)) | exact Blk.new wq _ _ | exact hwy.blk (Blk.new wq _ _) | exact Blk.new wr _ _) ?_
            refine hK.out _ _ (by refine HSh.out _ ?_; repeat (first | exact Later.rfl | exact hwr | exact hwq | refine Later.drew ?_ | refine Later.alloc ?_ _)) (fun hHeld => ?_)
            clear hK K
            try simp only [Act.put, List.setIfInBounds_toArray, List.set_cons_zero, List.set_cons_succ]
            refine wpAnyH_take (i := 8) (oi := ⟨some 32, _, _, _, _, _⟩) (v := ?_) rfl (by kernel_rfl) (by kernel_rfl) (by kernel_rfl) (fun _ _ _ h => h) (Or.inl ⟨by rfl, ?_⟩) (by assumption) ?_
            rotate_left 1
            · intro w hSw
              try dsimp only at hSw
              go_simp <;> with_reducible rfl
            try simp only [Act.put, List.setIfInBounds_toArray, List.set_cons_zero, List.set_cons_succ]
            refine wpAnyH_take (i := 10) (oi := ⟨some 34, _, _, _, _, _⟩) (v := ?_) rfl (by kernel_rfl) (by kernel_rfl) (by kernel_rfl) (fun _ _ _ h => h) (Or.inl ⟨by rfl, ?_⟩) (by assumption) ?_
            rotate_left 1
            · intro w hSw
              try dsimp only at hSw
              go_simp <;> with_reducible rfl
            try simp only [Act.put, List.setIfInBounds_toArray, List.set_cons_zero, List.set_cons_succ]
            refine wpAnyH_take (i := 15) (oi := ⟨some 39, _, _, _, _, _⟩) (v := ?_) rfl (by kernel_rfl) (by kernel_rfl) (by kernel_rfl) (fun _ _ _ h => h) (Or.inl ⟨by rfl, ?_⟩) (by assumption) ?_
            rotate_left 1
            · intro w hSw
              try dsimp only at hSw
              go_simp <;> with_reducible rfl
            try simp only [Act.put, List.setIfInBounds_toArray, List.set_cons_zero, List.set_cons_succ]
            refine wpAnyH_take (i := 16) (oi := ⟨some 4, _, _, _, _, _⟩) (v := ?_) rfl (by kernel_rfl) (by kernel_rfl) (by kernel_rfl) (fun _ _ _ h => h) (Or.inl ⟨by rfl, ?_⟩) (by assumption) ?_
            rotate_left 1
            · intro w hSw
              try dsimp only at hSw
              go_simp <;> with_reducible rfl
            try simp only [Act.put, List.setIfInBounds_toArray, List.set_cons_zero, List.set_cons_succ]
            refine wpAnyH_done (by kernel_rfl) ?_ _
            go_wp2_with fail
            go_ret
            exact ⟨rfl, Hw.out.trans (by repeat (first | exact Later.rfl | exact hwr | exact hwq | refine Later.drew ?_ | refine Later.alloc ?_ _))⟩
          exact AllReadyH.nil
        exact AllReadyH.nil
      exact AllReadyH.nil
    exact AllReadyH.nil
  · have tb : ((y : Int) != 46) = true := by simp; omega
    obtain rfl : (120 : UInt8) = x := by rw [← Hx.out, if_neg h46]
    clear h46
    go_upto_region 6 with (fail)
    clear m0 m1 m2 p0 p1 p2 p3 p4 p5 i6 ti tb t1 ht hsz
    refine wp_region_held_drew (S := fun w' : World => (w'.cell? ⟨W.heap.size + 1, 0, none⟩ = some (.int .i64 (f : Int)) ∧ w'.cell? ⟨W.heap.size + 1, 1, none⟩ = some (.int .i64 (t : Int)) ∧ w'.cell? ⟨W.heap.size + 1, 2, none⟩ = some (.int .u8 (c : Int)) ∧ w'.cell? ⟨W.heap.size, 0, none⟩ = some (.int .i64 p.w) ∧ w'.cell? ⟨W.heap.size, 1, none⟩ = some (.int .i64 p.h) ∧ w'.cell? ⟨W.heap.size, 2, none⟩ = some (.string p.cells) ∧ w'.cell? ⟨W.heap.size, 3, none⟩ = some (.int .i64 p.turn) ∧ w'.cell? ⟨W.heap.size, 4, none⟩ = some (.string p.h0) ∧ w'.cell? ⟨W.heap.size, 5, none⟩ = some (.string p.h1))) (by kernel_rfl) (HSh.out _ Later.rfl.drew) (fun hHeld => ?_)
    refine wpAnyH_take (i := 0) (oi := ⟨some 24, _, _, _, _, _⟩) (v := ?_) rfl (by kernel_rfl) (by kernel_rfl) (by kernel_rfl) (fun _ _ _ h => h) (Or.inl ⟨by rfl, ?_⟩) (by assumption) ?_
    rotate_left 1
    · intro w hSw
      try dsimp only at hSw
      go_simp <;> with_reducible rfl
    try simp only [Act.put, List.setIfInBounds_toArray, List.set_cons_zero, List.set_cons_succ]
    refine wpAnyH_take (i := 1) (oi := ⟨some 25, _, _, _, _, _⟩) (v := ?_) rfl (by kernel_rfl) (by kernel_rfl) (by kernel_rfl) (fun _ _ _ h => h) (Or.inl ⟨by rfl, ?_⟩) (by assumption) ?_
    rotate_left 1
    · intro w hSw
      try dsimp only at hSw
      go_simp <;> with_reducible rfl
    try simp only [Act.put, List.setIfInBounds_toArray, List.set_cons_zero, List.set_cons_succ]
    refine wpAnyH_take (i := 4) (oi := ⟨some 28, _, _, _, _, _⟩) (v := ?_) rfl (by kernel_rfl) (by kernel_rfl) (by kernel_rfl) (fun _ _ _ h => h) (Or.inl ⟨by rfl, ?_⟩) (by assumption) ?_
    rotate_left 1
    · intro w hSw
      try dsimp only at hSw
      go_simp <;> with_reducible rfl
    try simp only [Act.put, List.setIfInBounds_toArray, List.set_cons_zero, List.set_cons_succ]
    refine wpAnyH_take (i := 5) (oi := ⟨some 29, _, _, _, _, _⟩) (v := ?_) rfl (by kernel_rfl) (by kernel_rfl) (by kernel_rfl) (fun _ _ _ h => h) (Or.inl ⟨by rfl, ?_⟩) (by assumption) ?_
    rotate_left 1
    · intro w hSw
      try dsimp only at hSw
      go_simp <;> with_reducible rfl
    try simp only [Act.put, List.setIfInBounds_toArray, List.set_cons_zero, List.set_cons_succ]
    refine wpAnyH_take (i := 6) (oi := ⟨some 30, _, _, _, _, _⟩) (v := ?_) rfl (by kernel_rfl) (by kernel_rfl) (by kernel_rfl) (fun _ _ _ h => h) (Or.inl ⟨by rfl, ?_⟩) (by assumption) ?_
    rotate_left 1
    · intro w hSw
      try dsimp only at hSw
      go_simp <;> with_reducible rfl
    try simp only [Act.put, List.setIfInBounds_toArray, List.set_cons_zero, List.set_cons_succ]
    refine wpAnyH_take (i := 9) (oi := ⟨some 33, _, _, _, _, _⟩) (v := ?_) rfl (by kernel_rfl) (by kernel_rfl) (by kernel_rfl) (fun _ _ _ h => h) (Or.inl ⟨by rfl, ?_⟩) (by assumption) ?_
    rotate_left 1
    · intro w hSw
      try dsimp only at hSw
      go_simp <;> with_reducible rfl
    try simp only [Act.put, List.setIfInBounds_toArray, List.set_cons_zero, List.set_cons_succ]
    refine wpAnyH_take (i := 11) (oi := ⟨some 35, _, _, _, _, _⟩) (v := ?_) rfl (by kernel_rfl) (by kernel_rfl) (by kernel_rfl) (fun _ _ _ h => h) (Or.inl ⟨by rfl, ?_⟩) (by assumption) ?_
    rotate_left 1
    · intro w hSw
      try dsimp only at hSw
      go_simp <;> with_reducible rfl
    try simp only [Act.put, List.setIfInBounds_toArray, List.set_cons_zero, List.set_cons_succ]
    refine wpAnyH_take (i := 12) (oi := ⟨some 36, _, _, _, _, _⟩) (v := ?_) rfl (by kernel_rfl) (by kernel_rfl) (by kernel_rfl) (fun _ _ _ h => h) (Or.inl ⟨by rfl, ?_⟩) (by assumption) ?_
    rotate_left 1
    · intro w hSw
      try dsimp only at hSw
      go_simp <;> with_reducible rfl
    try simp only [Act.put, List.setIfInBounds_toArray, List.set_cons_zero, List.set_cons_succ]
    refine wpAnyH_take (i := 13) (oi := ⟨some 37, _, _, _, _, _⟩) (v := ?_) rfl (by kernel_rfl) (by kernel_rfl) (by kernel_rfl) (fun _ _ _ h => h) (Or.inl ⟨by rfl, ?_⟩) (by assumption) ?_
    rotate_left 1
    · intro w hSw
      try dsimp only at hSw
      go_simp <;> with_reducible rfl
    try simp only [Act.put, List.setIfInBounds_toArray, List.set_cons_zero, List.set_cons_succ]
    refine wpAnyH_ready (rs := [2, 7]) (by kernel_rfl) (by simp) ?_
    refine AllReadyH.cons (o := ⟨some 26, _, _, _, _, _⟩) rfl (fun K hK => ?_) ?_
    · clear hHeld
      go_simp
      refine hK.out _ _ (by refine HSh.out _ ?_; repeat (first | exact Later.rfl | exact hwr | exact hwq | refine Later.drew ?_ | refine Later.alloc ?_ _)) (fun hHeld => ?_)
      clear hK K
      try simp only [Act.put, List.setIfInBounds_toArray, List.set_cons_zero, List.set_cons_succ]
      refine wpAnyH_ready (rs := [3, 7]) (by kernel_rfl) (by simp) ?_
      refine AllReadyH.cons (o := ⟨some 27, _, _, _, _, _⟩) rfl (fun K hK => ?_) ?_
      · clear hHeld
        refine step_conv rfl _ rfl [c] (by simp; exact Hc.out) _ 1 1 rfl rfl (by first | exact (Blk.new w0 _ _).drewN 1 | exact hwx.blk ((Blk.new w0 _ _).drewN 1) | exact hwy.blk (hwx.blk ((Blk.new w0 _ _).drewN 1)) | exact Blk.new wq _ _ | exact hwy.blk (Blk.new wq _ _) | exact Blk.new wr _ _) ?_
        refine hK.out _ _ (by refine HSh.out _ ?_; repeat (first | exact Later.rfl | exact hwr | exact hwq | refine Later.drew ?_ | refine Later.alloc ?_ _)) (fun hHeld => ?_)
        clear hK K
        try simp only [Act.put, List.setIfInBounds_toArray, List.set_cons_zero, List.set_cons_succ]
        refine wpAnyH_ready (rs := [7]) (by kernel_rfl) (by simp) ?_
        refine AllReadyH.cons (o := ⟨some 31, _, _, _, _, _⟩) rfl (fun K hK => ?_) ?_
        · clear hHeld
          go_simp
          go_at_call 27
          refine (HF.out _).mono ?_
          rintro e wq ⟨rfl, hwx⟩
          have hwq : Later w0 wq := Later.trans (by repeat (first | exact Later.rfl | exact hwq | refine Later.drew ?_ | refine Later.alloc ?_ _)) hwx
          try go_wp2_with fail
          refine hK.out _ _ (by refine HSh.out _ ?_; repeat (first | exact Later.rfl | exact hwr | exact hwq | refine Later.drew ?_ | refine Later.alloc ?_ _)) (fun hHeld => ?_)
          clear hK K
          try simp only [Act.put, List.setIfInBounds_toArray, List.set_cons_zero, List.set_cons_succ]
          refine wpAnyH_take (i := 8) (oi := ⟨some 32, _, _, _, _, _⟩) (v := ?_) rfl (by kernel_rfl) (by kernel_rfl) (by kernel_rfl) (fun _ _ _ h => h) (Or.inl ⟨by rfl, ?_⟩) (by assumption) ?_
          rotate_left 1
          · intro w hSw
            try dsimp only at hSw
            go_simp <;> with_reducible rfl
          try simp only [Act.put, List.setIfInBounds_toArray, List.set_cons_zero, List.set_cons_succ]
          refine wpAnyH_take (i := 10) (oi := ⟨some 34, _, _, _, _, _⟩) (v := ?_) rfl (by kernel_rfl) (by kernel_rfl) (by kernel_rfl) (fun _ _ _ h => h) (Or.inl ⟨by rfl, ?_⟩) (by assumption) ?_
          rotate_left 1
          · intro w hSw
            try dsimp only at hSw
            go_simp <;> with_reducible rfl
          try simp only [Act.put, List.setIfInBounds_toArray, List.set_cons_zero, List.set_cons_succ]
          refine wpAnyH_ready (rs := [14]) (by kernel_rfl) (by simp) ?_
          refine AllReadyH.cons (o := ⟨some 38, _, _, _, _, _⟩) rfl (fun K hK => ?_) ?_
          · clear hHeld
            go_simp
            go_at_call 27
            refine (HC.out _).mono ?_
            rintro e wr ⟨rfl, hwy⟩
            have hwr : Later w0 wr := Later.trans (by repeat (first | exact Later.rfl | exact hwq | refine Later.drew ?_ | refine Later.alloc ?_ _)) hwy
            try go_wp2_with fail
            refine hK.out _ _ (by refine HSh.out _ ?_; repeat (first | exact Later.rfl | exact hwr | exact hwq | refine Later.drew ?_ | refine Later.alloc ?_ _)) (fun hHeld => ?_)
            clear hK K
            try simp only [Act.put, List.setIfInBounds_toArray, List.set_cons_zero, List.set_cons_succ]
            refine wpAnyH_take (i := 15) (oi := ⟨some 39, _, _, _, _, _⟩) (v := ?_) rfl (by kernel_rfl) (by kernel_rfl) (by kernel_rfl) (fun _ _ _ h => h) (Or.inl ⟨by rfl, ?_⟩) (by assumption) ?_
            rotate_left 1
            · intro w hSw
              try dsimp only at hSw
              go_simp <;> with_reducible rfl
            try simp only [Act.put, List.setIfInBounds_toArray, List.set_cons_zero, List.set_cons_succ]
            refine wpAnyH_take (i := 16) (oi := ⟨some 4, _, _, _, _, _⟩) (v := ?_) rfl (by kernel_rfl) (by kernel_rfl) (by kernel_rfl) (fun _ _ _ h => h) (Or.inl ⟨by rfl, ?_⟩) (by assumption) ?_
            rotate_left 1
            · intro w hSw
              try dsimp only at hSw
              go_simp <;> with_reducible rfl
            try simp only [Act.put, List.setIfInBounds_toArray, List.set_cons_zero, List.set_cons_succ]
            refine wpAnyH_done (by kernel_rfl) ?_ _
            go_wp2_with fail
            go_ret
            exact ⟨rfl, Hw.out.trans (by repeat (first | exact Later.rfl | exact hwr | exact hwq | refine Later.drew ?_ | refine Later.alloc ?_ _))⟩
          exact AllReadyH.nil
        exact AllReadyH.nil
      refine AllReadyH.cons (o := ⟨some 31, _, _, _, _, _⟩) rfl (fun K hK => ?_) ?_
      · clear hHeld
        go_simp
        go_at_call 27
        refine (HF.out _).mono ?_
        rintro e wq ⟨rfl, hwx⟩
        have hwq : Later w0 wq := Later.trans (by repeat (first | exact Later.rfl | exact hwq | refine Later.drew ?_ | refine Later.alloc ?_ _)) hwx
        try go_wp2_with fail
        refine hK.out _ _ (by refine HSh.out _ ?_; repeat (first | exact Later.rfl | exact hwr | exact hwq | refine Later.drew ?_ | refine Later.alloc ?_ _)) (fun hHeld => ?_)
        clear hK K
        try simp only [Act.put, List.setIfInBounds_toArray, List.set_cons_zero, List.set_cons_succ]
        refine wpAnyH_ready (rs := [3, 14]) (by kernel_rfl) (by simp) ?_
        refine AllReadyH.cons (o := ⟨some 27, _, _, _, _, _⟩) rfl (fun K hK => ?_) ?_
        · clear hHeld
          refine step_conv rfl _ rfl [c] (by simp; exact Hc.out) _ 1 1 rfl rfl (by first | exact (Blk.new w0 _ _).drewN 1 | exact hwx.blk ((Blk.new w0 _ _).drewN 1) | exact hwy.blk (hwx.blk ((Blk.new w0 _ _).drewN 1)) | exact Blk.new wq _ _ | exact hwy.blk (Blk.new wq _ _) | exact Blk.new wr _ _) ?_
          refine hK.out _ _ (by refine HSh.out _ ?_; repeat (first | exact Later.rfl | exact hwr | exact hwq | refine Later.drew ?_ | refine Later.alloc ?_ _)) (fun hHeld => ?_)
          clear hK K
          try simp only [Act.put, List.setIfInBounds_toArray, List.set_cons_zero, List.set_cons_succ]
          refine wpAnyH_take (i := 8) (oi := ⟨some 32, _, _, _, _, _⟩) (v := ?_) rfl (by kernel_rfl) (by kernel_rfl) (by kernel_rfl) (fun _ _ _ h => h) (Or.inl ⟨by rfl, ?_⟩) (by assumption) ?_
          rotate_left 1
          · intro w hSw
            try dsimp only at hSw
            go_simp <;> with_reducible rfl
          try simp only [Act.put, List.setIfInBounds_toArray, List.set_cons_zero, List.set_cons_succ]
          refine wpAnyH_take (i := 10) (oi := ⟨some 34, _, _, _, _, _⟩) (v := ?_) rfl (by kernel_rfl) (by kernel_rfl) (by kernel_rfl) (fun _ _ _ h => h) (Or.inl ⟨by rfl, ?_⟩) (by assumption) ?_
          rotate_left 1
          · intro w hSw
            try dsimp only at hSw
            go_simp <;> with_reducible rfl
          try simp only [Act.put, List.setIfInBounds_toArray, List.set_cons_zero, List.set_cons_succ]
          refine wpAnyH_ready (rs := [14]) (by kernel_rfl) (by simp) ?_
          refine AllReadyH.cons (o := ⟨some 38, _, _, _, _, _⟩) rfl (fun K hK => ?_) ?_
          · clear hHeld
            go_simp
            go_at_call 27
            refine (HC.out _).mono ?_
            rintro e wr ⟨rfl, hwy⟩
            have hwr : Later w0 wr := Later.trans (by repeat (first | exact Later.rfl | exact hwq | refine Later.drew ?_ | refine Later.alloc ?_ _)) hwy
            try go_wp2_with fail
            refine hK.out _ _ (by refine HSh.out _ ?_; repeat (first | exact Later.rfl | exact hwr | exact hwq | refine Later.drew ?_ | refine Later.alloc ?_ _)) (fun hHeld => ?_)
            clear hK K
            try simp only [Act.put, List.setIfInBounds_toArray, List.set_cons_zero, List.set_cons_succ]
            refine wpAnyH_take (i := 15) (oi := ⟨some 39, _, _, _, _, _⟩) (v := ?_) rfl (by kernel_rfl) (by kernel_rfl) (by kernel_rfl) (fun _ _ _ h => h) (Or.inl ⟨by rfl, ?_⟩) (by assumption) ?_
            rotate_left 1
            · intro w hSw
              try dsimp only at hSw
              go_simp <;> with_reducible rfl
            try simp only [Act.put, List.setIfInBounds_toArray, List.set_cons_zero, List.set_cons_succ]
            refine wpAnyH_take (i := 16) (oi := ⟨some 4, _, _, _, _, _⟩) (v := ?_) rfl (by kernel_rfl) (by kernel_rfl) (by kernel_rfl) (fun _ _ _ h => h) (Or.inl ⟨by rfl, ?_⟩) (by assumption) ?_
            rotate_left 1
            · intro w hSw
              try dsimp only at hSw
              go_simp <;> with_reducible rfl
            try simp only [Act.put, List.setIfInBounds_toArray, List.set_cons_zero, List.set_cons_succ]
            refine wpAnyH_done (by kernel_rfl) ?_ _
            go_wp2_with fail
            go_ret
            exact ⟨rfl, Hw.out.trans (by repeat (first | exact Later.rfl | exact hwr | exact hwq | refine Later.drew ?_ | refine Later.alloc ?_ _))⟩
          exact AllReadyH.nil
        refine AllReadyH.cons (o := ⟨some 38, _, _, _, _, _⟩) rfl (fun K hK => ?_) ?_
        · clear hHeld
          go_simp
          go_at_call 27
          refine (HC.out _).mono ?_
          rintro e wr ⟨rfl, hwy⟩
          have hwr : Later w0 wr := Later.trans (by repeat (first | exact Later.rfl | exact hwq | refine Later.drew ?_ | refine Later.alloc ?_ _)) hwy
          try go_wp2_with fail
          refine hK.out _ _ (by refine HSh.out _ ?_; repeat (first | exact Later.rfl | exact hwr | exact hwq | refine Later.drew ?_ | refine Later.alloc ?_ _)) (fun hHeld => ?_)
          clear hK K
          try simp only [Act.put, List.setIfInBounds_toArray, List.set_cons_zero, List.set_cons_succ]
          refine wpAnyH_ready (rs := [3]) (by kernel_rfl) (by simp) ?_
          refine AllReadyH.cons (o := ⟨some 27, _, _, _, _, _⟩) rfl (fun K hK => ?_) ?_
          · clear hHeld
            refine step_conv rfl _ rfl [c] (by simp; exact Hc.out) _ 1 1 rfl rfl (by first | exact (Blk.new w0 _ _).drewN 1 | exact hwx.blk ((Blk.new w0 _ _).drewN 1) | exact hwy.blk (hwx.blk ((Blk.new w0 _ _).drewN 1)) | exact Blk.new wq _ _ | exact hwy.blk (Blk.new wq _ _) | exact Blk.new wr _ _) ?_
            refine hK.out _ _ (by refine HSh.out _ ?_; repeat (first | exact Later.rfl | exact hwr | exact hwq | refine Later.drew ?_ | refine Later.alloc ?_ _)) (fun hHeld => ?_)
            clear hK K
            try simp only [Act.put, List.setIfInBounds_toArray, List.set_cons_zero, List.set_cons_succ]
            refine wpAnyH_take (i := 8) (oi := ⟨some 32, _, _, _, _, _⟩) (v := ?_) rfl (by kernel_rfl) (by kernel_rfl) (by kernel_rfl) (fun _ _ _ h => h) (Or.inl ⟨by rfl, ?_⟩) (by assumption) ?_
            rotate_left 1
            · intro w hSw
              try dsimp only at hSw
              go_simp <;> with_reducible rfl
            try simp only [Act.put, List.setIfInBounds_toArray, List.set_cons_zero, List.set_cons_succ]
            refine wpAnyH_take (i := 10) (oi := ⟨some 34, _, _, _, _, _⟩) (v := ?_) rfl (by kernel_rfl) (by kernel_rfl) (by kernel_rfl) (fun _ _ _ h => h) (Or.inl ⟨by rfl, ?_⟩) (by assumption) ?_
            rotate_left 1
            · intro w hSw
              try dsimp only at hSw
              go_simp <;> with_reducible rfl
            try simp only [Act.put, List.setIfInBounds_toArray, List.set_cons_zero, List.set_cons_succ]
            refine wpAnyH_take (i := 15) (oi := ⟨some 39, _, _, _, _, _⟩) (v := ?_) rfl (by kernel_rfl) (by kernel_rfl) (by kernel_rfl) (fun _ _ _ h => h) (Or.inl ⟨by rfl, ?_⟩) (by assumption) ?_
            rotate_left 1
            · intro w hSw
              try dsimp only at hSw
              go_simp <;> with_reducible rfl
            try simp only [Act.put, List.setIfInBounds_toArray, List.set_cons_zero, List.set_cons_succ]
            refine wpAnyH_take (i := 16) (oi := ⟨some 4, _, _, _, _, _⟩) (v := ?_) rfl (by kernel_rfl) (by kernel_rfl) (by kernel_rfl) (fun _ _ _ h => h) (Or.inl ⟨by rfl, ?_⟩) (by assumption) ?_
            rotate_left 1
            · intro w hSw
              try dsimp only at hSw
              go_simp <;> with_reducible rfl
            try simp only [Act.put, List.setIfInBounds_toArray, List.set_cons_zero, List.set_cons_succ]
            refine wpAnyH_done (by kernel_rfl) ?_ _
            go_wp2_with fail
            go_ret
            exact ⟨rfl, Hw.out.trans (by repeat (first | exact Later.rfl | exact hwr | exact hwq | refine Later.drew ?_ | refine Later.alloc ?_ _))⟩
          exact AllReadyH.nil
        exact AllReadyH.nil
      exact AllReadyH.nil
    refine AllReadyH.cons (o := ⟨some 31, _, _, _, _, _⟩) rfl (fun K hK => ?_) ?_
    · clear hHeld
      go_simp
      go_at_call 27
      refine (HF.out _).mono ?_
      rintro e wq ⟨rfl, hwx⟩
      have hwq : Later w0 wq := Later.trans (by repeat (first | exact Later.rfl | exact hwq | refine Later.drew ?_ | refine Later.alloc ?_ _)) hwx
      try go_wp2_with fail
      refine hK.out _ _ (by refine HSh.out _ ?_; repeat (first | exact Later.rfl | exact hwr | exact hwq | refine Later.drew ?_ | refine Later.alloc ?_ _)) (fun hHeld => ?_)
      clear hK K
      try simp only [Act.put, List.setIfInBounds_toArray, List.set_cons_zero, List.set_cons_succ]
      refine wpAnyH_ready (rs := [2, 14]) (by kernel_rfl) (by simp) ?_
      refine AllReadyH.cons (o := ⟨some 26, _, _, _, _, _⟩) rfl (fun K hK => ?_) ?_
      · clear hHeld
        go_simp
        refine hK.out _ _ (by refine HSh.out _ ?_; repeat (first | exact Later.rfl | exact hwr | exact hwq | refine Later.drew ?_ | refine Later.alloc ?_ _)) (fun hHeld => ?_)
        clear hK K
        try simp only [Act.put, List.setIfInBounds_toArray, List.set_cons_zero, List.set_cons_succ]
        refine wpAnyH_ready (rs := [3, 14]) (by kernel_rfl) (by simp) ?_
        refine AllReadyH.cons (o := ⟨some 27, _, _, _, _, _⟩) rfl (fun K hK => ?_) ?_
        · clear hHeld
          refine step_conv rfl _ rfl [c] (by simp; exact Hc.out) _ 1 1 rfl rfl (by first | exact (Blk.new w0 _ _).drewN 1 | exact hwx.blk ((Blk.new w0 _ _).drewN 1) | exact hwy.blk (hwx.blk ((Blk.new w0 _ _).drewN 1)) | exact Blk.new wq _ _ | exact hwy.blk (Blk.new wq _ _) | exact Blk.new wr _ _) ?_
          refine hK.out _ _ (by refine HSh.out _ ?_; repeat (first | exact Later.rfl | exact hwr | exact hwq | refine Later.drew ?_ | refine Later.alloc ?_ _)) (fun hHeld => ?_)
          clear hK K
          try simp only [Act.put, List.setIfInBounds_toArray, List.set_cons_zero, List.set_cons_succ]
          refine wpAnyH_take (i := 8) (oi := ⟨some 32, _, _, _, _, _⟩) (v := ?_) rfl (by kernel_rfl) (by kernel_rfl) (by kernel_rfl) (fun _ _ _ h => h) (Or.inl ⟨by rfl, ?_⟩) (by assumption) ?_
          rotate_left 1
          · intro w hSw
            try dsimp only at hSw
            go_simp <;> with_reducible rfl
          try simp only [Act.put, List.setIfInBounds_toArray, List.set_cons_zero, List.set_cons_succ]
          refine wpAnyH_take (i := 10) (oi := ⟨some 34, _, _, _, _, _⟩) (v := ?_) rfl (by kernel_rfl) (by kernel_rfl) (by kernel_rfl) (fun _ _ _ h => h) (Or.inl ⟨by rfl, ?_⟩) (by assumption) ?_
          rotate_left 1
          · intro w hSw
            try dsimp only at hSw
            go_simp <;> with_reducible rfl
          try simp only [Act.put, List.setIfInBounds_toArray, List.set_cons_zero, List.set_cons_succ]
          refine wpAnyH_ready (rs := [14]) (by kernel_rfl) (by simp) ?_
          refine AllReadyH.cons (o := ⟨some 38, _, _, _, _, _⟩) rfl (fun K hK => ?_) ?_
          · clear hHeld
            go_simp
            go_at_call 27
            refine (HC.out _).mono ?_
            rintro e wr ⟨rfl, hwy⟩
            have hwr : Later w0 wr := Later.trans (by repeat (first | exact Later.rfl | exact hwq | refine Later.drew ?_ | refine Later.alloc ?_ _)) hwy
            try go_wp2_with fail
            refine hK.out _ _ (by refine HSh.out _ ?_; repeat (first | exact Later.rfl | exact hwr | exact hwq | refine Later.drew ?_ | refine Later.alloc ?_ _)) (fun hHeld => ?_)
            clear hK K
            try simp only [Act.put, List.setIfInBounds_toArray, List.set_cons_zero, List.set_cons_succ]
            refine wpAnyH_take (i := 15) (oi := ⟨some 39, _, _, _, _, _⟩) (v := ?_) rfl (by kernel_rfl) (by kernel_rfl) (by kernel_rfl) (fun _ _ _ h => h) (Or.inl ⟨by rfl, ?_⟩) (by assumption) ?_
            rotate_left 1
            · intro w hSw
              try dsimp only at hSw
              go_simp <;> with_reducible rfl
            try simp only [Act.put, List.setIfInBounds_toArray, List.set_cons_zero, List.set_cons_succ]
            refine wpAnyH_take (i := 16) (oi := ⟨some 4, _, _, _, _, _⟩) (v := ?_) rfl (by kernel_rfl) (by kernel_rfl) (by kernel_rfl) (fun _ _ _ h => h) (Or.inl ⟨by rfl, ?_⟩) (by assumption) ?_
            rotate_left 1
            · intro w hSw
              try dsimp only at hSw
              go_simp <;> with_reducible rfl
            try simp only [Act.put, List.setIfInBounds_toArray, List.set_cons_zero, List.set_cons_succ]
            refine wpAnyH_done (by kernel_rfl) ?_ _
            go_wp2_with fail
            go_ret
            exact ⟨rfl, Hw.out.trans (by repeat (first | exact Later.rfl | exact hwr | exact hwq | refine Later.drew ?_ | refine Later.alloc ?_ _))⟩
          exact AllReadyH.nil
        refine AllReadyH.cons (o := ⟨some 38, _, _, _, _, _⟩) rfl (fun K hK => ?_) ?_
        · clear hHeld
          go_simp
          go_at_call 27
          refine (HC.out _).mono ?_
          rintro e wr ⟨rfl, hwy⟩
          have hwr : Later w0 wr := Later.trans (by repeat (first | exact Later.rfl | exact hwq | refine Later.drew ?_ | refine Later.alloc ?_ _)) hwy
          try go_wp2_with fail
          refine hK.out _ _ (by refine HSh.out _ ?_; repeat (first | exact Later.rfl | exact hwr | exact hwq | refine Later.drew ?_ | refine Later.alloc ?_ _)) (fun hHeld => ?_)
          clear hK K
          try simp only [Act.put, List.setIfInBounds_toArray, List.set_cons_zero, List.set_cons_succ]
          refine wpAnyH_ready (rs := [3]) (by kernel_rfl) (by simp) ?_
          refine AllReadyH.cons (o := ⟨some 27, _, _, _, _, _⟩) rfl (fun K hK => ?_) ?_
          · clear hHeld
            refine step_conv rfl _ rfl [c] (by simp; exact Hc.out) _ 1 1 rfl rfl (by first | exact (Blk.new w0 _ _).drewN 1 | exact hwx.blk ((Blk.new w0 _ _).drewN 1) | exact hwy.blk (hwx.blk ((Blk.new w0 _ _).drewN 1)) | exact Blk.new wq _ _ | exact hwy.blk (Blk.new wq _ _) | exact Blk.new wr _ _) ?_
            refine hK.out _ _ (by refine HSh.out _ ?_; repeat (first | exact Later.rfl | exact hwr | exact hwq | refine Later.drew ?_ | refine Later.alloc ?_ _)) (fun hHeld => ?_)
            clear hK K
            try simp only [Act.put, List.setIfInBounds_toArray, List.set_cons_zero, List.set_cons_succ]
            refine wpAnyH_take (i := 8) (oi := ⟨some 32, _, _, _, _, _⟩) (v := ?_) rfl (by kernel_rfl) (by kernel_rfl) (by kernel_rfl) (fun _ _ _ h => h) (Or.inl ⟨by rfl, ?_⟩) (by assumption) ?_
            rotate_left 1
            · intro w hSw
              try dsimp only at hSw
              go_simp <;> with_reducible rfl
            try simp only [Act.put, List.setIfInBounds_toArray, List.set_cons_zero, List.set_cons_succ]
            refine wpAnyH_take (i := 10) (oi := ⟨some 34, _, _, _, _, _⟩) (v := ?_) rfl (by kernel_rfl) (by kernel_rfl) (by kernel_rfl) (fun _ _ _ h => h) (Or.inl ⟨by rfl, ?_⟩) (by assumption) ?_
            rotate_left 1
            · intro w hSw
              try dsimp only at hSw
              go_simp <;> with_reducible rfl
            try simp only [Act.put, List.setIfInBounds_toArray, List.set_cons_zero, List.set_cons_succ]
            refine wpAnyH_take (i := 15) (oi := ⟨some 39, _, _, _, _, _⟩) (v := ?_) rfl (by kernel_rfl) (by kernel_rfl) (by kernel_rfl) (fun _ _ _ h => h) (Or.inl ⟨by rfl, ?_⟩) (by assumption) ?_
            rotate_left 1
            · intro w hSw
              try dsimp only at hSw
              go_simp <;> with_reducible rfl
            try simp only [Act.put, List.setIfInBounds_toArray, List.set_cons_zero, List.set_cons_succ]
            refine wpAnyH_take (i := 16) (oi := ⟨some 4, _, _, _, _, _⟩) (v := ?_) rfl (by kernel_rfl) (by kernel_rfl) (by kernel_rfl) (fun _ _ _ h => h) (Or.inl ⟨by rfl, ?_⟩) (by assumption) ?_
            rotate_left 1
            · intro w hSw
              try dsimp only at hSw
              go_simp <;> with_reducible rfl
            try simp only [Act.put, List.setIfInBounds_toArray, List.set_cons_zero, List.set_cons_succ]
            refine wpAnyH_done (by kernel_rfl) ?_ _
            go_wp2_with fail
            go_ret
            exact ⟨rfl, Hw.out.trans (by repeat (first | exact Later.rfl | exact hwr | exact hwq | refine Later.drew ?_ | refine Later.alloc ?_ _))⟩
          exact AllReadyH.nil
        exact AllReadyH.nil
      refine AllReadyH.cons (o := ⟨some 38, _, _, _, _, _⟩) rfl (fun K hK => ?_) ?_
      · clear hHeld
        go_simp
        go_at_call 27
        refine (HC.out _).mono ?_
        rintro e wr ⟨rfl, hwy⟩
        have hwr : Later w0 wr := Later.trans (by repeat (first | exact Later.rfl | exact hwq | refine Later.drew ?_ | refine Later.alloc ?_ _)) hwy
        try go_wp2_with fail
        refine hK.out _ _ (by refine HSh.out _ ?_; repeat (first | exact Later.rfl | exact hwr | exact hwq | refine Later.drew ?_ | refine Later.alloc ?_ _)) (fun hHeld => ?_)
        clear hK K
        try simp only [Act.put, List.setIfInBounds_toArray, List.set_cons_zero, List.set_cons_succ]
        refine wpAnyH_ready (rs := [2]) (by kernel_rfl) (by simp) ?_
        refine AllReadyH.cons (o := ⟨some 26, _, _, _, _, _⟩) rfl (fun K hK => ?_) ?_
        · clear hHeld
          go_simp
          refine hK.out _ _ (by refine HSh.out _ ?_; repeat (first | exact Later.rfl | exact hwr | exact hwq | refine Later.drew ?_ | refine Later.alloc ?_ _)) (fun hHeld => ?_)
          clear hK K
          try simp only [Act.put, List.setIfInBounds_toArray, List.set_cons_zero, List.set_cons_succ]
          refine wpAnyH_ready (rs := [3]) (by kernel_rfl) (by simp) ?_
          refine AllReadyH.cons (o := ⟨some 27, _, _, _, _, _⟩) rfl (fun K hK => ?_) ?_
          · clear hHeld
            refine step_conv rfl _ rfl [c] (by simp; exact Hc.out) _ 1 1 rfl rfl (by first | exact (Blk.new w0 _ _).drewN 1 | exact hwx.blk ((Blk.new w0 _ _).drewN 1) | exact hwy.blk (hwx.blk ((Blk.new w0 _ _).drewN 1)) | exact Blk.new wq _ _ | exact hwy.blk (Blk.new wq _ _) | exact Blk.new wr _ _) ?_
            refine hK.out _ _ (by refine HSh.out _ ?_; repeat (first | exact Later.rfl | exact hwr | exact hwq | refine Later.drew ?_ | refine Later.alloc ?_ _)) (fun hHeld => ?_)
            clear hK K
            try simp only [Act.put, List.setIfInBounds_toArray, List.set_cons_zero, List.set_cons_succ]
            refine wpAnyH_take (i := 8) (oi := ⟨some 32, _, _, _, _, _⟩) (v := ?_) rfl (by kernel_rfl) (by kernel_rfl) (by kernel_rfl) (fun _ _ _ h => h) (Or.inl ⟨by rfl, ?_⟩) (by assumption) ?_
            rotate_left 1
            · intro w hSw
              try dsimp only at hSw
              go_simp <;> with_reducible rfl
            try simp only [Act.put, List.setIfInBounds_toArray, List.set_cons_zero, List.set_cons_succ]
            refine wpAnyH_take (i := 10) (oi := ⟨some 34, _, _, _, _, _⟩) (v := ?_) rfl (by kernel_rfl) (by kernel_rfl) (by kernel_rfl) (fun _ _ _ h => h) (Or.inl ⟨by rfl, ?_⟩) (by assumption) ?_
            rotate_left 1
            · intro w hSw
              try dsimp only at hSw
              go_simp <;> with_reducible rfl
            try simp only [Act.put, List.setIfInBounds_toArray, List.set_cons_zero, List.set_cons_succ]
            refine wpAnyH_take (i := 15) (oi := ⟨some 39, _, _, _, _, _⟩) (v := ?_) rfl (by kernel_rfl) (by kernel_rfl) (by kernel_rfl) (fun _ _ _ h => h) (Or.inl ⟨by rfl, ?_⟩) (by assumption) ?_
            rotate_left 1
            · intro w hSw
              try dsimp only at hSw
              go_simp <;> with_reducible rfl
            try simp only [Act.put, List.setIfInBounds_toArray, List.set_cons_zero, List.set_cons_succ]
            refine wpAnyH_take (i := 16) (oi := ⟨some 4, _, _, _, _, _⟩) (v := ?_) rfl (by kernel_rfl) (by kernel_rfl) (by kernel_rfl) (fun _ _ _ h => h) (Or.inl ⟨by rfl, ?_⟩) (by assumption) ?_
            rotate_left 1
            · intro w hSw
              try dsimp only at hSw
              go_simp <;> with_reducible rfl
            try simp only [Act.put, List.setIfInBounds_toArray, List.set_cons_zero, List.set_cons_succ]
            refine wpAnyH_done (by kernel_rfl) ?_ _
            go_wp2_with fail
            go_ret
            exact ⟨rfl, Hw.out.trans (by repeat (first | exact Later.rfl | exact hwr | exact hwq | refine Later.drew ?_ | refine Later.alloc ?_ _))⟩
          exact AllReadyH.nil
        exact AllReadyH.nil
      exact AllReadyH.nil
    exact AllReadyH.nil
theorem text_any {p : Pos} {m : Mv} (hp : PosOk p) (hc : m.c < 256) (h0 : 0 ≤ m.t) (ht : m.t.toNat < p.cells.size) (hf : m.f = -1 ∨ (0 ≤ m.f ∧ m.f.toNat < p.cells.size)) (W : World) :
    Calls Tryz.prog 14 #[.agg #[.int .i64 p.w, .int .i64 p.h, .string p.cells, .int .i64 p.turn, .string p.h0, .string p.h1], .agg #[.int .i64 m.f, .int .i64 m.t, .int .u8 (m.c : Int)]] W fun e w' => e = .returned (.string (bytes (textL p m))) ∧ Later W w' := by
  obtain ⟨f, t, c⟩ := m
  simp only at hc h0 ht hf ⊢
  obtain ⟨tn, rfl⟩ : ∃ tn : Nat, t = (tn : Int) := ⟨t.toNat, by omega⟩
  rw [Int.toNat_natCast] at ht
  rcases hf with rfl | ⟨hf0, hf1⟩
  · refine (text_drop p c tn W hp hc ht).mono fun e w' h => ⟨?_, h.2⟩
    rw [h.1, show textL p ⟨-1, (tn : Int), c⟩ = [u8 c, u8 64] ++ cellL p tn from if_pos (show (-1 : Int) < 0 by decide)]
  · obtain ⟨fn, rfl⟩ : ∃ fn : Nat, f = (fn : Int) := ⟨f.toNat, by omega⟩
    rw [Int.toNat_natCast] at hf1
    refine (text_board p c fn tn W hp hc ht hf1).mono fun e w' h => ⟨?_, h.2⟩
    rw [h.1, show textL p ⟨(fn : Int), (tn : Int), c⟩ = [u8 c] ++ cellL p fn ++ [if cellN p tn = 46 then 45 else 120] ++ cellL p tn from if_neg (show ¬ ((fn : Int) < 0) by omega)]
end Go.Proofs.YtdfegpohmaideaaGreatDoor
/- Moves of one position have texts of their own, plainly. -/
namespace Go.Proofs.YtdfegpohmaideaaGreatDoor
open Go.RowKit

theorem u8_inj {a b : Nat} (ha : a < 256) (hb : b < 256) (h : u8 a = u8 b) : a = b := by
  have := congrArg UInt8.toNat h
  rwa [u8_nat ha, u8_nat hb] at this
theorem cellL_inj {p : Pos} (hp : PosOk p) {a b : Nat} (ha : a < p.cells.size) (hb : b < p.cells.size) (h : cellL p a = cellL p b) : a = b := by
  obtain ⟨n, m, hn, hm, n1, n8, m1, m8, hs, h64⟩ := pos_wh hp
  unfold cellL at h
  rw [hn, Int.toNat_natCast] at h
  injection h with h1 h2
  injection h2 with h2 _
  have d1 : ∀ x, x < p.cells.size → x / n ≤ 64 := fun x hx => Nat.le_trans (Nat.div_le_self _ _) (by omega)
  have m0 : ∀ x, x % n < n := fun x => Nat.mod_lt _ (by omega)
  have e1 := u8_inj (by have := m0 a; omega) (by have := m0 b; omega) h1
  have e2 := u8_inj (by have := d1 a ha; omega) (by have := d1 b hb; omega) h2
  have q1 := Nat.div_add_mod a n
  have q2 := Nat.div_add_mod b n
  have e3 : a / n = b / n := by omega
  have e4 : a % n = b % n := by omega
  rw [e3, e4] at q1
  omega
/-- how a move of a position looks -/
theorem every_parts {r : RulesD} {p : Pos} (ho : OfOk r p) {m : Mv} (h : m ∈ everyL r p) : m.c < 256 ∧ 0 ≤ m.t ∧ m.t.toNat < p.cells.size ∧ (m.f = -1 ∨ (0 ≤ m.f ∧ m.f.toNat < p.cells.size)) := by
  obtain ⟨h0, h1, h2⟩ := every_form (by have := ho.pos.t0; have := ho.pos.t1; omega) h
  have hc := upB_lt (every_made ho h).1
  refine ⟨by omega, h0, h1, ?_⟩
  rcases h2 with ⟨e, _⟩ | ⟨e1, e2, _⟩
  · exact Or.inl e
  · exact Or.inr ⟨e1, e2⟩
theorem cellL_at {p : Pos} (hp : PosOk p) (a : Nat) : cellL p a ≠ [] ∧ (cellL p a)[0]? ≠ some (u8 64) := by
  refine ⟨by simp [cellL], ?_⟩
  unfold cellL
  intro h
  simp only [List.getElem?_cons_zero, Option.some.injEq] at h
  have h8 : a % p.w.toNat < 8 := Nat.lt_of_lt_of_le (Nat.mod_lt _ (by have := hp.w1; omega)) (by have := hp.w8; omega)
  have := u8_inj (by omega) (by omega) h
  omega
theorem textL_drop {p : Pos} {m : Mv} (h : m.f < 0) : textL p m = [u8 m.c, u8 64] ++ cellL p m.t.toNat := if_pos h
theorem textL_board {p : Pos} {m : Mv} (h : ¬ m.f < 0) : textL p m = [u8 m.c] ++ cellL p m.f.toNat ++ [if cellN p m.t.toNat = 46 then 45 else 120] ++ cellL p m.t.toNat := if_neg h
/-- a text is the text of one move -/
theorem textL_inj {r : RulesD} {p : Pos} (ho : OfOk r p) {m k : Mv} (hm : m ∈ everyL r p) (hk : k ∈ everyL r p) (h : textL p m = textL p k) : m = k := by
  obtain ⟨m1, m2, m3, m4⟩ := every_parts ho hm
  obtain ⟨k1, k2, k3, k4⟩ := every_parts ho hk
  have hp := ho.pos
  have ht : ∀ {a b : Int}, 0 ≤ a → 0 ≤ b → a.toNat = b.toNat → a = b := fun ha hb e => by omega
  rcases m4 with f1 | ⟨f1, g1⟩ <;> rcases k4 with f2 | ⟨f2, g2⟩
  · rw [textL_drop (by omega), textL_drop (by omega)] at h
    simp only [List.cons_append, List.nil_append, List.cons.injEq] at h
    have e1 := u8_inj m1 k1 h.1
    have e2 := cellL_inj hp m3 k3 h.2.2
    exact Mv.ext_ (by omega) (ht m2 k2 e2) e1
  · rw [textL_drop (by omega), textL_board (by omega)] at h
    exfalso
    have h2 := congrArg (fun l : List UInt8 => l[1]?) h
    simp [cellL] at h2
    have h8 : k.f.toNat % p.w.toNat < 8 := Nat.lt_of_lt_of_le (Nat.mod_lt _ (by have := hp.w1; omega)) (by have := hp.w8; omega)
    have := u8_inj (by omega) (by omega) h2
    omega
  · rw [textL_board (by omega), textL_drop (by omega)] at h
    exfalso
    have h2 := congrArg (fun l : List UInt8 => l[1]?) h
    simp [cellL] at h2
    have h8 : m.f.toNat % p.w.toNat < 8 := Nat.lt_of_lt_of_le (Nat.mod_lt _ (by have := hp.w1; omega)) (by have := hp.w8; omega)
    have := u8_inj (by omega) (by omega) h2
    omega
  · rw [textL_board (by omega), textL_board (by omega)] at h
    have hl : ∀ a, (cellL p a).length = 2 := fun _ => rfl
    have e0 : u8 m.c = u8 k.c ∧ cellL p m.f.toNat = cellL p k.f.toNat ∧ cellL p m.t.toNat = cellL p k.t.toNat := by
      simp only [List.cons_append, List.nil_append, List.append_assoc, List.cons.injEq] at h
      obtain ⟨h1, h2⟩ := h
      have h3 := List.append_inj h2 (by rw [hl, hl])
      have h4 := h3.2
      simp only [List.cons.injEq] at h4
      exact ⟨h1, h3.1, h4.2⟩
    have e1 := u8_inj m1 k1 e0.1
    have e2 := cellL_inj hp g1 g2 e0.2.1
    have e3 := cellL_inj hp m3 k3 e0.2.2
    exact Mv.ext_ (ht f1 f2 e2) (ht m2 k2 e3) e1
end Go.Proofs.YtdfegpohmaideaaGreatDoor
/- moves.Text, moves.Read -/
namespace Go.Proofs.YtdfegpohmaideaaGreatDoor
open Go.RowKit Go.Shelf

/-- the boxes of a call with rules, a position and a move -/
structure TxSt (W : World) (R P M : Array Value) (w : World) : Prop where
  r : Blk w W.heap.size 27 R
  p : Blk w (W.heap.size + 1) 24 P
  m : Blk w (W.heap.size + 1 + 1) 29 M
  later : Later W w
section
variable {W w w' : World} {R P M : Array Value}
theorem TxSt.later_ (h : TxSt W R P M w) (hw : Later w w') : TxSt W R P M w' := ⟨hw.blk h.r, hw.blk h.p, hw.blk h.m, h.later.trans hw⟩
theorem TxSt.first : TxSt W R P M (((W.alloc (.cells R 27)).alloc (.cells P 24)).alloc (.cells M 29)) := by
  refine ⟨((Blk.new W _ R).alloc _).alloc _, ?_, ?_, ((Later.rfl.alloc _).alloc _).alloc _⟩
  · have := (Blk.new (W.alloc (.cells R 27)) 24 P).alloc (.cells M 29)
    rwa [World.size_alloc] at this
  · have := Blk.new ((W.alloc (.cells R 27)).alloc (.cells P 24)) 29 M
    rwa [World.size_alloc, World.size_alloc] at this
end
set_option maxHeartbeats 4000000 in
set_option maxRecDepth 100000 in
theorem mtext_ok (r : RulesD) (A : Option Addr) (cp : Nat) (p : Pos) (m : Mv) (W : World) (hf : RFit r) (hg : PFit p) (hP : PiecesAt W W.heap.size A r.pieces) (hok : OfOk r p) (hm : m ∈ movesL r p) :
    Calls Tryz.prog 4 #[.agg #[.int .i64 r.start.w, .int .i64 r.start.h, .string r.start.cells, .int .i64 r.start.turn, .string r.start.h0, .string r.start.h1, .slice A r.pieces.length cp, .bool r.drops, .int .u8 r.lose, .int .i64 r.line, .int .u8 r.reach, .bool r.stuck, .int .i64 r.plies], .agg #[.int .i64 p.w, .int .i64 p.h, .string p.cells, .int .i64 p.turn, .string p.h0, .string p.h1], .agg #[.int .i64 m.f, .int .i64 m.t, .int .u8 m.c]] W fun e w' => e = .returned (.tuple #[.string (bytes (textL p m)), .int .i64 0]) ∧ Later W w' := by
  have Hst := hide (TxSt.first (W := W) (R := #[.int .i64 r.start.w, .int .i64 r.start.h, .string r.start.cells, .int .i64 r.start.turn, .string r.start.h0, .string r.start.h1, .slice A r.pieces.length cp, .bool r.drops, .int .u8 r.lose, .int .i64 r.line, .int .u8 r.reach, .bool r.stuck, .int .i64 r.plies]) (P := #[.int .i64 p.w, .int .i64 p.h, .string p.cells, .int .i64 p.turn, .string p.h0, .string p.h1]) (M := #[.int .i64 m.f, .int .i64 m.t, .int .u8 m.c]))
  have Hmm := hide (fun w (hw : Later W w) => mm_ok r A cp p w hf hg ((hP.below hw).more hw.size) hok)
  have Hlen := hide (show (movesL r p).length ≤ 9223372036854775807 by have := movesL_len (r := r) hok.pos; omega)
  have Hm := hide (show decide (m ∈ movesL r p) = true from decide_eq_true hm)
  obtain ⟨q1, q2, q3, q4⟩ := every_parts hok (moves_every hm)
  have HT := hide (fun w => text_any hok.pos q1 q2 q3 q4 w)
  clear hm hf hg hP hok q1 q2 q3 q4
  go_enter Tryz.func4, Tryz.ntmps4
  go_upto_region 1 with (fail)
  obtain ⟨w0, hw0⟩ : ∃ w0, (((W.alloc (.cells #[.int .i64 r.start.w, .int .i64 r.start.h, .string r.start.cells, .int .i64 r.start.turn, .string r.start.h0, .string r.start.h1, .slice A r.pieces.length cp, .bool r.drops, .int .u8 r.lose, .int .i64 r.line, .int .u8 r.reach, .bool r.stuck, .int .i64 r.plies] 27)).alloc (.cells #[.int .i64 p.w, .int .i64 p.h, .string p.cells, .int .i64 p.turn, .string p.h0, .string p.h1] 24)).alloc (.cells #[.int .i64 m.f, .int .i64 m.t, .int .u8 m.c] 29)) = w0 := ⟨_, rfl⟩
  rw [hw0] at Hst ⊢
  clear hw0
  obtain ⟨x0, x1, x2, x3, x4, x5, x6, x7, x8, x9, x10, x11, x12⟩ := Hst.out.r.rules
  obtain ⟨p0, p1, p2, p3, p4, p5⟩ := Hst.out.p.pos6
  go_upto_region 4 with (go_at_call 12; refine (Hmm.out _ Hst.out.later).mono ?_; rintro e w2 ⟨A', c', rfl, hc2, hw2⟩)
  have Hst2 := hide (Hst.out.later_ hw2)
  have Hco := hide (contains_mv A' c' (movesL r p) m w2 Hlen.out hc2)
  clear hw2 hc2 Hst x0 x1 x2 x3 x4 x5 x6 x7 x8 x9 x10 x11 x12 p0 p1 p2 p3 p4 p5
  obtain ⟨⟨m0, m1, m2⟩, -⟩ := Hst2.out.m.mv
  rw [Hm.out] at Hco
  go_upto_region 6 with (go_at_call 13; refine Hco.out.mono ?_; rintro e w3 ⟨rfl, hw3⟩)
  have Hst3 := hide (Hst2.out.later_ hw3)
  clear Hst2 hw3 m0 m1 m2
  obtain ⟨p0, p1, p2, p3, p4, p5⟩ := Hst3.out.p.pos6
  obtain ⟨⟨m0, m1, m2⟩, -⟩ := Hst3.out.m.mv
  go_wp2_with (go_at_call 14; refine (HT.out _).mono ?_; rintro e w4 ⟨rfl, hw4⟩)
  first
    | exact ⟨rfl, Hst3.out.later.trans hw4⟩
    | (go_ret2; exact ⟨rfl, Hst3.out.later.trans hw4⟩)
theorem setRow_blk3 {w : World} {g : Nat} {t : TypeId} {old vs : Array Value} (h : Blk w g t old) : Blk (w.setRow g vs) g t vs := setRow_heap _ _ _ _ _ _ h
theorem setRow_later3 {W w : World} {vs : Array Value} (h : Later W w) : Later W (w.setRow (W.heap.size + 1 + 1) vs) := Below.trans h ⟨rfl, rfl, rfl, by simp [World.setRow], fun k hk => setRow_other _ _ _ _ (by omega)⟩
theorem bytes_inj {a b : List UInt8} (h : bytes a = bytes b) : a = b := by
  have := congrArg (fun s : ByteArray => s.data.toList) h
  simpa [bytes] using this
theorem toListB (a b : ByteArray) : (a.toList == b.toList) = decide (a = b) := by
  rw [Bool.eq_iff_iff, beq_iff_eq, decide_eq_true_iff]
  constructor
  · intro h
    rw [Go.ByteArray.toList_eq, Go.ByteArray.toList_eq] at h
    exact bytes_eq h
  · intro h; rw [h]
set_option maxHeartbeats 4000000 in
set_option maxRecDepth 100000 in
theorem mread_ok (r : RulesD) (A : Option Addr) (cp : Nat) (p : Pos) (m : Mv) (W : World) (hf : RFit r) (hg : PFit p) (hP : PiecesAt W W.heap.size A r.pieces) (hok : OfOk r p) (hm : m ∈ movesL r p) :
    Calls Tryz.prog 5 #[.agg #[.int .i64 r.start.w, .int .i64 r.start.h, .string r.start.cells, .int .i64 r.start.turn, .string r.start.h0, .string r.start.h1, .slice A r.pieces.length cp, .bool r.drops, .int .u8 r.lose, .int .i64 r.line, .int .u8 r.reach, .bool r.stuck, .int .i64 r.plies], .agg #[.int .i64 p.w, .int .i64 p.h, .string p.cells, .int .i64 p.turn, .string p.h0, .string p.h1], .string (bytes (textL p m))] W fun e w' => e = .returned (.tuple #[.agg #[.int .i64 m.f, .int .i64 m.t, .int .u8 m.c], .int .i64 0]) ∧ Later W w' := by
  have Hst := hide (TxSt.first (W := W) (R := #[.int .i64 r.start.w, .int .i64 r.start.h, .string r.start.cells, .int .i64 r.start.turn, .string r.start.h0, .string r.start.h1, .slice A r.pieces.length cp, .bool r.drops, .int .u8 r.lose, .int .i64 r.line, .int .u8 r.reach, .bool r.stuck, .int .i64 r.plies]) (P := #[.int .i64 p.w, .int .i64 p.h, .string p.cells, .int .i64 p.turn, .string p.h0, .string p.h1]) (M := #[.int .i64 0, .int .i64 0, .int .u8 0]))
  have Hmm := hide (fun w (hw : Later W w) => mm_ok r A cp p w hf hg ((hP.below hw).more hw.size) hok)
  have hll : (movesL r p).length ≤ 10000 := movesL_len hok.pos
  have HT := hide (fun x (hx : x ∈ movesL r p) w => by
    obtain ⟨q1, q2, q3, q4⟩ := every_parts hok (moves_every hx)
    exact text_any (m := x) hok.pos q1 q2 q3 q4 w)
  have HI := hide (fun x (hx : x ∈ movesL r p) (h : bytes (textL p x) = bytes (textL p m)) => textL_inj hok (moves_every hx) (moves_every hm) (bytes_inj h))
  have Hm := hide hm
  obtain ⟨L, hL⟩ : ∃ L, movesL r p = L := ⟨_, rfl⟩
  rw [hL] at Hmm hll HT HI Hm
  clear hm hf hg hP hok hL
  obtain ⟨s, hs⟩ : ∃ s, bytes (textL p m) = s := ⟨_, rfl⟩
  rw [hs]
  have Hs := hide hs
  clear hs
  go_enter Tryz.func5, Tryz.ntmps5
  go_upto_region 1 with (fail)
  obtain ⟨w0, hw0⟩ : ∃ w0, (((W.alloc (.cells #[.int .i64 r.start.w, .int .i64 r.start.h, .string r.start.cells, .int .i64 r.start.turn, .string r.start.h0, .string r.start.h1, .slice A r.pieces.length cp, .bool r.drops, .int .u8 r.lose, .int .i64 r.line, .int .u8 r.reach, .bool r.stuck, .int .i64 r.plies] 27)).alloc (.cells #[.int .i64 p.w, .int .i64 p.h, .string p.cells, .int .i64 p.turn, .string p.h0, .string p.h1] 24)).alloc (.cells #[.int .i64 0, .int .i64 0, .int .u8 0] 29)) = w0 := ⟨_, rfl⟩
  rw [hw0] at Hst ⊢
  clear hw0
  obtain ⟨x0, x1, x2, x3, x4, x5, x6, x7, x8, x9, x10, x11, x12⟩ := Hst.out.r.rules
  obtain ⟨p0, p1, p2, p3, p4, p5⟩ := Hst.out.p.pos6
  go_upto_region 4 with (go_at_call 12; refine (Hmm.out _ Hst.out.later).mono ?_; rintro e w2 ⟨A', c', rfl, hc2, hw2⟩)
  have Hst2 := hide (Hst.out.later_ hw2)
  have Hc2 := hide hc2
  clear hw2 hc2 Hst x0 x1 x2 x3 x4 x5 x6 x7 x8 x9 x10 x11 x12 p0 p1 p2 p3 p4 p5 Hmm
  go_wp2_with fail
  go_loopw [24] (fun kv wr => ∃ k : Nat, k ≤ L.length ∧ kv = .int .i64 (k : Int) ∧ (∀ j (h : j < L.length), j < k → L[j] ≠ m) ∧ Later w2 wr) (fun kv _ => L.length - (intOf kv).toNat)
  case atStart => exact ⟨0, by omega, rfl, fun j _ h => by omega, Later.rfl⟩
  case round =>
    rename World => wr
    obtain ⟨k, hk, rfl, hall, hw⟩ := hrel
    have Hall := hide hall
    have Hstr := hide (Hst2.out.later_ hw)
    have Hcr := hide ((Hc2.out.below hw).more hw.size)
    have Hwr := hide hw
    clear hall hw
    by_cases hlt : k < L.length
    · have t1 : decide ((k : Int) < (L.length : Int)) = true := by simp; omega
      have t1n : decide (k < L.length) = true := by simp; omega
      obtain ⟨b, off, rfl, hb, y0, y1, y2⟩ := mv_at Hcr.out hlt
      have HTx := hide (fun w => HT.out L[k] (List.getElem_mem hlt) w)
      have HIx := hide (HI.out L[k] (List.getElem_mem hlt))
      have Hnext := hide (show L[k] ≠ m → ∀ j (h : j < L.length), j < k + 1 → L[j] ≠ m from fun h0 j h hj => by
        by_cases e : j = k
        · subst e; exact h0
        · exact Hall.out j h (by omega))
      obtain ⟨x, hx⟩ : ∃ x, L[k] = x := ⟨_, rfl⟩
      rw [hx] at y0 y1 y2
      simp only [hx] at HTx HIx Hnext
      clear hx
      go_upto_region 7 with (fail)
      have hla : Later wr (wr.alloc (.cells #[.int .i64 x.f, .int .i64 x.t, .int .u8 x.c] 29)) := Later.rfl.alloc _
      have Hxa := hide (Blk.new wr 29 #[.int .i64 x.f, .int .i64 x.t, .int .u8 x.c])
      have Hsta := hide (Hstr.out.later_ hla)
      have Hwa := hide (Hwr.out.trans hla)
      obtain ⟨gx, hgx⟩ : ∃ gx, wr.heap.size = gx := ⟨_, rfl⟩
      obtain ⟨wa, hwa⟩ : ∃ wa, wr.alloc (.cells #[.int .i64 x.f, .int .i64 x.t, .int .u8 x.c] 29) = wa := ⟨_, rfl⟩
      rw [hwa] at Hxa Hsta Hwa ⊢
      rw [hgx] at Hxa ⊢
      clear hwa hgx hla y0 y1 y2 Hstr Hwr
      obtain ⟨⟨m0, m1, m2⟩, -⟩ := Hxa.out.mv
      obtain ⟨p0, p1, p2, p3, p4, p5⟩ := Hsta.out.p.pos6
      obtain ⟨sx, hsx⟩ : ∃ sx, bytes (textL p x) = sx := ⟨_, rfl⟩
      rw [hsx] at HTx HIx
      have Hsx := hide hsx
      clear hsx
      by_cases hxm : sx = s
      · have Hx := hide (HIx.out (hxm.trans Hs.out.symm))
        have tb : (sx.toList == s.toList) = true := by rw [toListB]; exact decide_eq_true hxm
        have Hxm := hide hxm
        clear hxm
        go_upto_region 8 with (go_at_call 14; refine (HTx.out _).mono ?_; rintro e w8 ⟨rfl, hw8⟩)
        have Hst8 := hide (Hsta.out.later_ hw8)
        obtain ⟨⟨m0, m1, m2⟩, -⟩ := (hw8.blk Hxa.out).mv
        clear hw8 Hxa Hsta Hwa p0 p1 p2 p3 p4 p5 tb
        refine wp_region_lit ?_
        refine wpList_plain rfl (fun K hK => ?_)
        go_simp
        refine hK _ _ ?_
        clear hK K
        refine wpList_plain rfl (fun K hK => ?_)
        refine wp_store_row 29 (.tmp 6) (.tmp 33) rfl (W.heap.size + 1 + 1) #[.int .i64 x.f, .int .i64 x.t, .int .u8 x.c] rfl rfl 29 _ Hst8.out.m (by kernel_rfl) (by simp) (by simp [Value.oneCell']) ?_
        refine hK _ _ ?_
        clear hK K
        have hz9 := setRow_blk3 (vs := #[.int .i64 x.f, .int .i64 x.t, .int .u8 x.c]) Hst8.out.m
        have HL9 := hide (setRow_later3 (vs := #[.int .i64 x.f, .int .i64 x.t, .int .u8 x.c]) Hst8.out.later)
        obtain ⟨w9, hw9⟩ : ∃ w9, World.setRow w8 (W.heap.size + 1 + 1) #[.int .i64 x.f, .int .i64 x.t, .int .u8 x.c] = w9 := ⟨_, rfl⟩
        rw [hw9] at hz9 HL9 ⊢
        clear hw9 Hst8
        obtain ⟨⟨z0, z1, z2⟩, -⟩ := hz9.mv
        go_wp2_with fail
        refine bodyPost_ret (v := .tuple #[.agg #[.int .i64 x.f, .int .i64 x.t, .int .u8 x.c], .int .i64 0]) (by simp [results, Tryz.results5, go_sem, z0, z1, z2]) rfl ⟨by rw [Hx.out], HL9.out⟩
      · have Hn := hide (Hnext.out (fun e => hxm (by rw [← Hsx.out, ← Hs.out, e])))
        have tb : (sx.toList == s.toList) = false := by rw [toListB]; exact decide_eq_false hxm
        have Hxm := hide hxm
        clear hxm
        go_wp2_with (go_at_call 14; refine (HTx.out _).mono ?_; rintro e w8 ⟨rfl, hw8⟩)
        go_roundw
        case rel => exact ⟨k + 1, by omega, by go_num, Hn.out, Hwa.out.trans hw8⟩
        case measure => simp [intOf]; omega
    · exfalso
      obtain ⟨j, hj, e⟩ := List.getElem_of_mem Hm.out
      exact Hall.out j hj (by omega) e
end Go.Proofs.YtdfegpohmaideaaGreatDoor
