/- moves.outcome -/
import Derived.Test.YtcdfeaodfmfdnaaGreatDoorPlMvAll
import Derived.Test.YtcdfeaodfmfdnaaGreatDoorPlMvLetM
namespace Go.Proofs.YtcdfeaodfmfdnaaGreatDoor
open Go.RowKit

theorem movesL_none {r : RulesD} {p : Pos} (h : endsN r p ≠ 0) : movesL r p = [] := by unfold movesL; rw [if_neg h]
theorem movesL_some {r : RulesD} {p : Pos} (h : endsN r p = 0) : movesL r p = everyL r p := by unfold movesL; rw [if_pos h]
theorem LetOk.cap {ps : List PieceD} {c : Nat} (h : LetOk ps c) : CapOk c := by
 rcases h with h | h
 ·
  exact .inl h
 ·
  exact .inr h.1
/-- who has won, by what was asked -/
def endsF (b1 b2 b3 b4 b5 b6 : Bool) (t : Int) (n : Nat) (st : Bool) : Int :=
 if b1 then 1 + (1 - t) else if b2 then 1 + t else if b3 then 1 + (1 - t) else if b4 then 1 + t else if b5 then 1 + (1 - t) else if b6 then 1 + t else if n = 0 then (if st then 1 + (1 - t) else 3) else 0
theorem endsF_eq (r : RulesD) (p : Pos) : endsN r p = endsF (lacksB r p p.turn) (lacksB r p (1 - p.turn)) (lineB r p (1 - p.turn)) (lineB r p p.turn) (reachB r p (1 - p.turn)) (reachB r p p.turn) p.turn (everyL r p).length r.stuck := rfl
def OutOut (W : World) (r : RulesD) (p : Pos) (e : Ending) (w' : World) : Prop :=
 ∃ A c, e = .returned (.tuple #[.int .i64 (endsN r p), .slice A (movesL r p).length c]) ∧ (movesL r p).length ≤ c ∧ Cells w' w'.heap.size A (cellsM (movesL r p)) ∧ (∀ ad, A = some ad → W.heap.size ≤ ad.block) ∧ Later W w'
theorem outOut_won {W w' : World} {r : RulesD} {p : Pos} {n : Int} (h : endsN r p = n) (h0 : n ≠ 0) (hw : Later W w') : OutOut W r p (.returned (.tuple #[.int .i64 n, .slice none 0 0])) w' := by
 have hm := movesL_none (r := r) (p := p) (by rw [h]; exact h0)
 exact ⟨none, 0, by rw [h, hm]; rfl, by rw [hm]; exact Nat.le_refl _, by rw [hm]; exact Cells.nil_, (fun ad h => by cases h), hw⟩
theorem line_zero2 {r : RulesD} {p : Pos} {pl : Int} (h : r.line = 0) : lineB r p pl = false := by simp [lineB, h]
theorem line_some {r : RulesD} {p : Pos} {pl : Int} (h : 0 < r.line) : lineB r p pl = hasB p pl r.line.toNat := by simp [lineB, h]
theorem AllPre.on {r : RulesD} {p : Pos} {A : Option Addr} {W w : World} (h : AllPre r p A W) (hw : Later W w) : AllPre r p A w := ⟨h.rules, h.pos, h.fits, (h.at_.below hw).more hw.size⟩
set_option maxHeartbeats 8000000 in
set_option maxRecDepth 100000 in
theorem outcome_any (r : RulesD) (A : Option Addr) (cp : Nat) (p : Pos) (W : World) (h : AllPre r p A W) :
  Calls Tryz.prog 124 #[.agg #[.int .i64 r.start.w, .int .i64 r.start.h, .string r.start.cells, .int .i64 r.start.turn, .string r.start.h0, .string r.start.h1, .slice A r.pieces.length cp, .bool r.drops, .int .u8 r.lose, .int .i64 r.line, .int .u8 r.reach, .bool r.stuck, .int .i64 r.plies], .agg #[.int .i64 p.w, .int .i64 p.h, .string p.cells, .int .i64 p.turn, .string p.h0, .string p.h1]] W (OutOut W r p) := by
 have Hpre := hide h
 have t0 := h.pos.t0
 have t1 := h.pos.t1
 have hl := h.rules.line
 have Hbr := hide ((Blk.new W 27 #[.int .i64 r.start.w, .int .i64 r.start.h, .string r.start.cells, .int .i64 r.start.turn, .string r.start.h0, .string r.start.h1, .slice A r.pieces.length cp, .bool r.drops, .int .u8 r.lose, .int .i64 r.line, .int .u8 r.reach, .bool r.stuck, .int .i64 r.plies]).alloc (.cells #[.int .i64 p.w, .int .i64 p.h, .string p.cells, .int .i64 p.turn, .string p.h0, .string p.h1] 24))
 have hbp := (Blk.new (W.alloc (.cells #[.int .i64 r.start.w, .int .i64 r.start.h, .string r.start.cells, .int .i64 r.start.turn, .string r.start.h0, .string r.start.h1, .slice A r.pieces.length cp, .bool r.drops, .int .u8 r.lose, .int .i64 r.line, .int .u8 r.reach, .bool r.stuck, .int .i64 r.plies] 27)) 24 #[.int .i64 p.w, .int .i64 p.h, .string p.cells, .int .i64 p.turn, .string p.h0, .string p.h1])
 rw [World.size_alloc] at hbp
 have Hbp := hide hbp
 have Hw := hide (show Later W ((W.alloc (.cells #[.int .i64 r.start.w, .int .i64 r.start.h, .string r.start.cells, .int .i64 r.start.turn, .string r.start.h0, .string r.start.h1, .slice A r.pieces.length cp, .bool r.drops, .int .u8 r.lose, .int .i64 r.line, .int .u8 r.reach, .bool r.stuck, .int .i64 r.plies] 27)).alloc (.cells #[.int .i64 p.w, .int .i64 p.h, .string p.cells, .int .i64 p.turn, .string p.h0, .string p.h1] 24)) from (Later.rfl.alloc _).alloc _)
 have HE := hide (endsF_eq r p)
 obtain ⟨b1, hb1⟩ : ∃ b, lacksB r p p.turn = b := ⟨_, rfl⟩
 obtain ⟨b2, hb2⟩ : ∃ b, lacksB r p (1 - p.turn) = b := ⟨_, rfl⟩
 obtain ⟨b3, hb3⟩ : ∃ b, lineB r p (1 - p.turn) = b := ⟨_, rfl⟩
 obtain ⟨b4, hb4⟩ : ∃ b, lineB r p p.turn = b := ⟨_, rfl⟩
 obtain ⟨b5, hb5⟩ : ∃ b, reachB r p (1 - p.turn) = b := ⟨_, rfl⟩
 obtain ⟨b6, hb6⟩ : ∃ b, reachB r p p.turn = b := ⟨_, rfl⟩
 rw [hb1, hb2, hb3, hb4, hb5, hb6] at HE
 have H1 := hide (fun w => hb1 ▸ lacks_any r A cp p p.turn w h.rules.lose.cap)
 have H2 := hide (fun w => hb2 ▸ lacks_any r A cp p (1 - p.turn) w h.rules.lose.cap)
 have H5 := hide (fun w => hb5 ▸ reached_any r A cp p (1 - p.turn) w h.pos h.rules.reach.cap)
 have H6 := hide (fun w => hb6 ▸ reached_any r A cp p p.turn w h.pos h.rules.reach.cap)
 have H3 := hide (fun w (hl : 0 < r.line) (h8 : r.line ≤ 8) => show Calls Tryz.prog 159 #[.agg #[.int .i64 p.w, .int .i64 p.h, .string p.cells, .int .i64 p.turn, .string p.h0, .string p.h1], .int .i64 (1 - p.turn), .int .i64 r.line] w (fun e w' => e = .returned (.bool b3) ∧ Later w w') from by
  rw [← hb3, line_some hl]; exact has_any p (1 - p.turn) r.line w h.pos (by omega) h8)
 have H4 := hide (fun w (hl : 0 < r.line) (h8 : r.line ≤ 8) => show Calls Tryz.prog 159 #[.agg #[.int .i64 p.w, .int .i64 p.h, .string p.cells, .int .i64 p.turn, .string p.h0, .string p.h1], .int .i64 p.turn, .int .i64 r.line] w (fun e w' => e = .returned (.bool b4) ∧ Later w w') from by
  rw [← hb4, line_some hl]; exact has_any p p.turn r.line w h.pos (by omega) h8)
 have Hz3 := hide (fun (hl : r.line = 0) => show b3 = false from hb3 ▸ line_zero2 hl)
 have Hz4 := hide (fun (hl : r.line = 0) => show b4 = false from hb4 ▸ line_zero2 hl)
 have Hl := hide hl
 have Hall := hide (fun w (hw : Later W w) => all_any r A cp p w (h.on hw))
 clear h hl hbp hb1 hb2 hb3 hb4 hb5 hb6
 obtain ⟨q0, q1, q2, q3, q4, q5⟩ := Hbp.out.pos6
 have s1 : IntKind.i64.wrap (1 - p.turn) = 1 - p.turn := IntWalk.i64_in _ (by omega)
 go_enter Tryz.func124, Tryz.ntmps124
 go_upto_region 1 with (fail)
 obtain ⟨w0, hw0⟩ : ∃ w0, (W.alloc (.cells #[.int .i64 r.start.w, .int .i64 r.start.h, .string r.start.cells, .int .i64 r.start.turn, .string r.start.h0, .string r.start.h1, .slice A r.pieces.length cp, .bool r.drops, .int .u8 r.lose, .int .i64 r.line, .int .u8 r.reach, .bool r.stuck, .int .i64 r.plies] 27)).alloc (.cells #[.int .i64 p.w, .int .i64 p.h, .string p.cells, .int .i64 p.turn, .string p.h0, .string p.h1] 24) = w0 := ⟨_, rfl⟩
 rw [hw0] at Hbr Hbp Hw q0 q1 q2 q3 q4 q5 ⊢
 clear hw0
 go_quiet (fail)
 have Hbr' := hide (fun q => Hbr.out.drewN q)
 have Hbp' := hide (fun q => Hbp.out.drewN q)
 have Hw' := hide (fun q => Hw.out.drewN q)
 obtain ⟨w1, hw1⟩ : ∃ w1, w0.drewN nq = w1 := ⟨_, rfl⟩
 have Hbr1 := hide (hw1 ▸ Hbr'.out nq)
 have Hbp1 := hide (hw1 ▸ Hbp'.out nq)
 have Hw1 := hide (hw1 ▸ Hw'.out nq)
 rw [hw1]
 clear hw1 Hbr Hbp Hw Hbr' Hbp' Hw' q0 q1 q2 q3 q4 q5 s1
 obtain ⟨x0, x1, x2, x3, x4, x5, x6, x7, x8, x9, x10, x11, x12⟩ := Hbr1.out.rules
 obtain ⟨q0, q1, q2, q3, q4, q5⟩ := Hbp1.out.pos6
 cases b1
 case true =>
  go_wp2_with (go_at_call 158; refine (H1.out _).mono ?_; rintro e w2 ⟨rfl, hw⟩)
  go_ret2
  exact outOut_won (by rw [HE.out]; rfl) (by omega) (Hw1.out.trans hw)
 go_upto_region 4 with (go_at_call 158; refine (H1.out _).mono ?_; rintro e w2 ⟨rfl, hw⟩)
 have Hbr2 := hide (hw.blk Hbr1.out)
 have Hbp2 := hide (hw.blk Hbp1.out)
 have Hw2 := hide (Hw1.out.trans hw)
 clear hw Hbr1 Hbp1 Hw1 x0 x1 x2 x3 x4 x5 x6 x7 x8 x9 x10 x11 x12 q0 q1 q2 q3 q4 q5
 obtain ⟨x0, x1, x2, x3, x4, x5, x6, x7, x8, x9, x10, x11, x12⟩ := Hbr2.out.rules
 obtain ⟨q0, q1, q2, q3, q4, q5⟩ := Hbp2.out.pos6
 cases b2
 case true =>
  go_wp2_with (go_at_call 158; refine (H2.out _).mono ?_; rintro e w2 ⟨rfl, hw⟩)
  go_ret2
  exact outOut_won (by rw [HE.out]; rfl) (by omega) (Hw2.out.trans hw)
 go_upto_region 6 with (go_at_call 158; refine (H2.out _).mono ?_; rintro e w2 ⟨rfl, hw⟩)
 have Hbr3 := hide (hw.blk Hbr2.out)
 have Hbp3 := hide (hw.blk Hbp2.out)
 have Hw3 := hide (Hw2.out.trans hw)
 clear hw Hbr2 Hbp2 Hw2 x0 x1 x2 x3 x4 x5 x6 x7 x8 x9 x10 x11 x12 q0 q1 q2 q3 q4 q5
 go_cut [28] (fun s w' => s = .bool b3 ∧ Blk w' W.heap.size 27 #[.int .i64 r.start.w, .int .i64 r.start.h, .string r.start.cells, .int .i64 r.start.turn, .string r.start.h0, .string r.start.h1, .slice A r.pieces.length cp, .bool r.drops, .int .u8 r.lose, .int .i64 r.line, .int .u8 r.reach, .bool r.stuck, .int .i64 r.plies] ∧ Blk w' (W.heap.size + 1) 24 #[.int .i64 p.w, .int .i64 p.h, .string p.cells, .int .i64 p.turn, .string p.h0, .string p.h1] ∧ Later W w')
 case first =>
  obtain ⟨x0, x1, x2, x3, x4, x5, x6, x7, x8, x9, x10, x11, x12⟩ := Hbr3.out.rules
  obtain ⟨q0, q1, q2, q3, q4, q5⟩ := Hbp3.out.pos6
  rcases Hl.out with hl0 | ⟨hl2, hl8⟩
  ·
   have e1 : decide (r.line > 0) = false := decide_eq_false (by omega)
   have Hb := hide (Hz3.out hl0)
   clear hl0
   go_wp2_with fail
   go_meet
   case rel => exact ⟨by rw [Hb.out], Hbr3.out, Hbp3.out, Hw3.out⟩
  ·
   have e1 : decide (r.line > 0) = true := decide_eq_true (by omega)
   have Hh := hide (fun w => H3.out w (by omega) hl8)
   clear hl2 hl8
   go_wp2_with (go_at_call 159; refine (Hh.out _).mono ?_; rintro e w2 ⟨rfl, hw⟩)
   go_meet
   case rel => exact ⟨rfl, hw.blk Hbr3.out, hw.blk Hbp3.out, Hw3.out.trans hw⟩
 case rest =>
  obtain ⟨rfl, hbr, hbp, hww⟩ := hcut
  have Hbr4 := hide hbr
  have Hbp4 := hide hbp
  have Hw4 := hide hww
  clear hbr hbp hww Hbr3 Hbp3 Hw3
  cases b3
  case true =>
   go_wp2_with fail
   go_ret2
   exact outOut_won (by rw [HE.out]; rfl) (by omega) Hw4.out
  go_upto_region 8 with (fail)
  go_cut [41] (fun s w' => s = .bool b4 ∧ Blk w' W.heap.size 27 #[.int .i64 r.start.w, .int .i64 r.start.h, .string r.start.cells, .int .i64 r.start.turn, .string r.start.h0, .string r.start.h1, .slice A r.pieces.length cp, .bool r.drops, .int .u8 r.lose, .int .i64 r.line, .int .u8 r.reach, .bool r.stuck, .int .i64 r.plies] ∧ Blk w' (W.heap.size + 1) 24 #[.int .i64 p.w, .int .i64 p.h, .string p.cells, .int .i64 p.turn, .string p.h0, .string p.h1] ∧ Later W w')
  case first =>
   obtain ⟨x0, x1, x2, x3, x4, x5, x6, x7, x8, x9, x10, x11, x12⟩ := Hbr4.out.rules
   obtain ⟨q0, q1, q2, q3, q4, q5⟩ := Hbp4.out.pos6
   rcases Hl.out with hl0 | ⟨hl2, hl8⟩
   ·
    have e1 : decide (r.line > 0) = false := decide_eq_false (by omega)
    have Hb := hide (Hz4.out hl0)
    clear hl0
    go_wp2_with fail
    go_meet
    case rel => exact ⟨by rw [Hb.out], Hbr4.out, Hbp4.out, Hw4.out⟩
   ·
    have e1 : decide (r.line > 0) = true := decide_eq_true (by omega)
    have Hh := hide (fun w => H4.out w (by omega) hl8)
    clear hl2 hl8
    go_wp2_with (go_at_call 159; refine (Hh.out _).mono ?_; rintro e w2 ⟨rfl, hw⟩)
    go_meet
    case rel => exact ⟨rfl, hw.blk Hbr4.out, hw.blk Hbp4.out, Hw4.out.trans hw⟩
  case rest =>
   obtain ⟨rfl, hbr, hbp, hww⟩ := hcut
   have Hbr5 := hide hbr
   have Hbp5 := hide hbp
   have Hw5 := hide hww
   clear hbr hbp hww Hbr4 Hbp4 Hw4
   cases b4
   case true =>
    go_wp2_with fail
    go_ret2
    exact outOut_won (by rw [HE.out]; rfl) (by omega) Hw5.out
   go_upto_region 10 with (fail)
   obtain ⟨x0, x1, x2, x3, x4, x5, x6, x7, x8, x9, x10, x11, x12⟩ := Hbr5.out.rules
   obtain ⟨q0, q1, q2, q3, q4, q5⟩ := Hbp5.out.pos6
   cases b5
   case true =>
    go_wp2_with (go_at_call 160; refine (H5.out _).mono ?_; rintro e w2 ⟨rfl, hw⟩)
    go_ret2
    exact outOut_won (by rw [HE.out]; rfl) (by omega) (Hw5.out.trans hw)
   go_upto_region 12 with (go_at_call 160; refine (H5.out _).mono ?_; rintro e w2 ⟨rfl, hw⟩)
   have Hbr6 := hide (hw.blk Hbr5.out)
   have Hbp6 := hide (hw.blk Hbp5.out)
   have Hw6 := hide (Hw5.out.trans hw)
   clear hw Hbr5 Hbp5 Hw5 x0 x1 x2 x3 x4 x5 x6 x7 x8 x9 x10 x11 x12 q0 q1 q2 q3 q4 q5
   obtain ⟨x0, x1, x2, x3, x4, x5, x6, x7, x8, x9, x10, x11, x12⟩ := Hbr6.out.rules
   obtain ⟨q0, q1, q2, q3, q4, q5⟩ := Hbp6.out.pos6
   cases b6
   case true =>
    go_wp2_with (go_at_call 160; refine (H6.out _).mono ?_; rintro e w2 ⟨rfl, hw⟩)
    go_ret2
    exact outOut_won (by rw [HE.out]; rfl) (by omega) (Hw6.out.trans hw)
   go_upto_region 14 with (go_at_call 160; refine (H6.out _).mono ?_; rintro e w2 ⟨rfl, hw⟩)
   have Hbr7 := hide (hw.blk Hbr6.out)
   have Hbp7 := hide (hw.blk Hbp6.out)
   have Hw7 := hide (Hw6.out.trans hw)
   clear hw Hbr6 Hbp6 Hw6 x0 x1 x2 x3 x4 x5 x6 x7 x8 x9 x10 x11 x12 q0 q1 q2 q3 q4 q5
   obtain ⟨x0, x1, x2, x3, x4, x5, x6, x7, x8, x9, x10, x11, x12⟩ := Hbr7.out.rules
   obtain ⟨q0, q1, q2, q3, q4, q5⟩ := Hbp7.out.pos6
   go_upto_region 15 with (go_at_call 161; refine (Hall.out _ Hw7.out).mono ?_; rintro e w2 ⟨A2, c2, rfl, hc2, hcells2, hge2, hw⟩)
   have Hc2 := hide hc2
   have Hcells2 := hide hcells2
   have Hge2 := hide (show ∀ ad, A2 = some ad → W.heap.size ≤ ad.block from fun ad h => Nat.le_trans Hw7.out.size (hge2 ad h))
   clear hc2 hcells2 hge2
   have Hbr8 := hide (hw.blk Hbr7.out)
   have Hbp8 := hide (hw.blk Hbp7.out)
   have Hw8 := hide (Hw7.out.trans hw)
   clear hw Hbr7 Hbp7 Hw7 x0 x1 x2 x3 x4 x5 x6 x7 x8 x9 x10 x11 x12 q0 q1 q2 q3 q4 q5
   obtain ⟨x0, x1, x2, x3, x4, x5, x6, x7, x8, x9, x10, x11, x12⟩ := Hbr8.out.rules
   obtain ⟨q0, q1, q2, q3, q4, q5⟩ := Hbp8.out.pos6
   obtain ⟨nn, hnn⟩ : ∃ nn, (everyL r p).length = nn := ⟨_, rfl⟩
   by_cases h0 : nn = 0
   ·
    have d0 : decide (0 < nn) = false := decide_eq_false (by omega)
    have d1 : ¬ 0 < nn := by omega
    obtain ⟨st, hst⟩ : ∃ st, r.stuck = st := ⟨_, rfl⟩
    have hev : endsN r p = if st then 1 + (1 - p.turn) else 3 := by rw [HE.out, hnn, hst, h0]; rfl
    rw [hst] at x11
    have Hev := hide hev
    rw [hnn]
    clear hst hev h0 hnn
    cases st
    ·
     go_wp2_with fail
     go_ret2
     exact outOut_won (n := 3) (by have := Hev.out; simpa using this) (by omega) Hw8.out
    ·
     go_wp2_with fail
     go_ret2
     exact outOut_won (n := 1 + (1 - p.turn)) (by have := Hev.out; simpa using this) (by omega) Hw8.out
   ·
    have d0 : decide (0 < nn) = true := decide_eq_true (by omega)
    have d1 : 0 < nn := by omega
    have Hev := hide (show endsN r p = 0 by rw [HE.out, hnn]; unfold endsF; simp [h0])
    have Hmv := hide (movesL_some Hev.out)
    rw [hnn]
    have Hnn := hide hnn
    clear hnn h0
    go_wp2_with fail
    go_ret2
    exact ⟨A2, c2, (by rw [Hev.out, Hmv.out, Hnn.out] <;> rfl), by rw [Hmv.out]; exact Hc2.out, by rw [Hmv.out]; exact Hcells2.out, Hge2.out, Hw8.out⟩
end Go.Proofs.YtcdfeaodfmfdnaaGreatDoor
