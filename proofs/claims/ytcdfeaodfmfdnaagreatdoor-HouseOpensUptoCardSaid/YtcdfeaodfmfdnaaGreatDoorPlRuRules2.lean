/- gameref.Rules: its loops -/
import Derived.Test.YtcdfeaodfmfdnaaGreatDoorPlRuChkM
namespace Go.Proofs.YtcdfeaodfmfdnaaGreatDoor
open Go.RowKit

theorem Blk.four {w : World} {g : Nat} {t : TypeId} {v0 v1 v2 v3 : Value} (h : Blk w g t #[v0, v1, v2, v3]) : w.cell? ⟨g, 0, none⟩ = some v0 ∧ w.cell? ⟨g, 1, none⟩ = some v1 ∧ w.cell? ⟨g, 2, none⟩ = some v2 ∧ w.cell? ⟨g, 3, none⟩ = some v3 := ⟨h.cellv rfl, h.cellv rfl, h.cellv rfl, h.cellv rfl⟩
set_option maxHeartbeats 8000000 in
set_option maxRecDepth 100000 in
theorem rules_g (r : RulesD) (A : Option Addr) (cp : Nat) (W : World) (hf : RFit r) (hP : PiecesAt W W.heap.size A r.pieces) (hpos : PosOk r.start) (hall : HeadOk r) :
  Calls Tryz.prog 13 #[.agg #[.int .i64 r.start.w, .int .i64 r.start.h, .string r.start.cells, .int .i64 r.start.turn, .string r.start.h0, .string r.start.h1, .slice A r.pieces.length cp, .bool r.drops, .int .u8 r.lose, .int .i64 r.line, .int .u8 r.reach, .bool r.stuck, .int .i64 r.plies]] W fun e w' => e = .returned (.bool (rulesB r)) ∧ Later W w' := by
 have HC := hide (fun w => pos_l r.start w hf.c hf.h0 hf.h1 true ⟨fun _ => rfl, fun h => absurd hpos h⟩)
 have hn := hf.n
 have Hbx := hide (Blk.new W 27 #[.int .i64 r.start.w, .int .i64 r.start.h, .string r.start.cells, .int .i64 r.start.turn, .string r.start.h0, .string r.start.h1, .slice A r.pieces.length cp, .bool r.drops, .int .u8 r.lose, .int .i64 r.line, .int .u8 r.reach, .bool r.stuck, .int .i64 r.plies])
 have Hlb := hide (show Later W (W.alloc (.cells #[.int .i64 r.start.w, .int .i64 r.start.h, .string r.start.cells, .int .i64 r.start.turn, .string r.start.h0, .string r.start.h1, .slice A r.pieces.length cp, .bool r.drops, .int .u8 r.lose, .int .i64 r.line, .int .u8 r.reach, .bool r.stuck, .int .i64 r.plies] 27)) from Later.rfl.alloc _)
 have HQ := hide (fun (k : Nat) (w : World) (hw : Later W w) => refpiece_any r A cp k w hf.n ((hP.below hw).more hw.size))
 have HP := hide hP
 have Hf := hide hf
 have Hup := hide (fun n w => big_any n w)
 have HB := hide (fun h => rb_bad (r := r) h)
 have HG := hide (fun h => rb_good (r := r) h)
 obtain ⟨l1, l2, l3, l4, l5⟩ := hall
 have Hl := hide l3
 have Hpos := hide hpos
 clear l3 hpos hf hP
 go_enter Tryz.func13, Tryz.ntmps13
 go_upto_region 1 with (fail)
 go_cut [49] (fun s w' => s = .bool false ∧ Blk w' W.heap.size 27 #[.int .i64 r.start.w, .int .i64 r.start.h, .string r.start.cells, .int .i64 r.start.turn, .string r.start.h0, .string r.start.h1, .slice A r.pieces.length cp, .bool r.drops, .int .u8 r.lose, .int .i64 r.line, .int .u8 r.reach, .bool r.stuck, .int .i64 r.plies] ∧ Later W w')
 case first =>
  have e1 : decide ((r.pieces.length : Int) < 1) = false := decide_eq_false (by omega)
  have e2 : decide ((r.pieces.length : Int) > 10) = false := decide_eq_false (by omega)
  have e3 : decide (r.plies < 1) = false := decide_eq_false (by omega)
  have e4 : decide (r.plies > 1000) = false := decide_eq_false (by omega)
  clear l1 l2 l4 l5
  have e5 : decide (r.line < 0) = false := decide_eq_false (by rcases Hl.out with h | h <;> omega)
  have e6 : (r.line == 1) = false := by simp; rcases Hl.out with h | h <;> omega
  have e7 : decide (r.line > 8) = false := decide_eq_false (by rcases Hl.out with h | h <;> omega)
  go_wp2_with (go_at_call 39; refine (HC.out _).mono ?_; rintro e w1 ⟨rfl, hw1⟩; obtain ⟨x0, x1, x2, x3, x4, x5, x6, x7, x8, x9, x10, x11, x12⟩ := (hw1.blk Hbx.out).rules)
  go_meet
  case rel => exact ⟨rfl, hw1.blk Hbx.out, Hlb.out.trans hw1⟩
 case rest =>
  obtain ⟨rfl, hbx, hw⟩ := hcut
  have Hb := hide hbx
  have Hw := hide hw
  obtain ⟨x0, x1, x2, x3, x4, x5, x6, x7, x8, x9, x10, x11, x12⟩ := hbx.rules
  clear hbx hw Hbx Hlb HC
  go_wp2_with fail
  clear x0 x1 x2 x3 x4 x5 x6 x7 x8 x9 x10 x11 x12
  have hk0 : (∀ j (h : j < r.pieces.length), j < 0 → PieceOk r.pieces j r.pieces[j]) := fun j _ h => by omega
  have Hk0 := hide hk0
  clear hk0
  go_loopw [3] (fun i wr => ∃ k : Nat, k ≤ r.pieces.length ∧ i = .int .i64 k ∧ (∀ j (h : j < r.pieces.length), j < k → PieceOk r.pieces j r.pieces[j]) ∧ Blk wr W.heap.size 27 #[.int .i64 r.start.w, .int .i64 r.start.h, .string r.start.cells, .int .i64 r.start.turn, .string r.start.h0, .string r.start.h1, .slice A r.pieces.length cp, .bool r.drops, .int .u8 r.lose, .int .i64 r.line, .int .u8 r.reach, .bool r.stuck, .int .i64 r.plies] ∧ Later W wr) (fun i _ => r.pieces.length - (intOf i).toNat)
  case atStart => exact ⟨0, by omega, rfl, Hk0.out, Hb.out, Hw.out⟩
  case round =>
   rename World => wr
   clear Hk0 Hb Hw
   obtain ⟨k, hk, rfl, hall, hbx, hw⟩ := hrel
   have Hall := hide hall
   have Hb := hide hbx
   have Hw := hide hw
   clear hall hbx hw
   obtain ⟨x0, x1, x2, x3, x4, x5, x6, x7, x8, x9, x10, x11, x12⟩ := Hb.out.rules
   by_cases hlt : k < r.pieces.length
   ·
    have Hpk := hide (show ∀ h : RulesOk r, PieceOk r.pieces k r.pieces[k] from fun h => h.pieces k hlt)
    have Hnx := hide (show PieceOk r.pieces k r.pieces[k] → ∀ j (h : j < r.pieces.length), j < k + 1 → PieceOk r.pieces j r.pieces[j] from fun h2 j h hj => by
     by_cases e : j = k
     ·
      subst e; exact h2
     ·
      exact Hall.out j h (by omega))
    obtain ⟨b, off, rfl, hbA, z0, z1, Ak, ck, hck, z2, hways⟩ := (HP.out.below Hw.out).at_ hlt
    have hlen := Hf.out.len k hlt
    have hwr : W.heap.size ≤ wr.heap.size := Hw.out.size
    obtain ⟨pc, hpc⟩ : ∃ pc, r.pieces[k] = pc := ⟨_, rfl⟩
    rw [hpc] at Hpk Hnx z0 z1 z2 hck hways hlen
    have Hways := hide hways
    clear hpc hways
    go_upto_region 7 with (fail)
    have BP := hide (Blk.new wr 77 #[.int .u8 pc.letter, .int .i64 pc.worth, .slice Ak pc.ways.length ck])
    have BR := hide (Hb.out.alloc (.cells #[.int .u8 pc.letter, .int .i64 pc.worth, .slice Ak pc.ways.length ck] 77))
    have HW1 := hide (Hw.out.alloc (.cells #[.int .u8 pc.letter, .int .i64 pc.worth, .slice Ak pc.ways.length ck] 77))
    have HV1 := hide (show Later wr (wr.alloc (.cells #[.int .u8 pc.letter, .int .i64 pc.worth, .slice Ak pc.ways.length ck] 77)) from Later.rfl.alloc _)
    obtain ⟨wp, hwp⟩ : ∃ wp, wr.alloc (.cells #[.int .u8 pc.letter, .int .i64 pc.worth, .slice Ak pc.ways.length ck] 77) = wp := ⟨_, rfl⟩
    obtain ⟨gp, hgp⟩ : ∃ gp, wr.heap.size = gp := ⟨_, rfl⟩
    rw [hwp] at BP BR HW1 HV1 ⊢
    rw [hgp] at BP ⊢
    clear hwp hgp Hb Hw z0 z1 z2 x0 x1 x2 x3 x4 x5 x6 x7 x8 x9 x10 x11 x12
    obtain ⟨u1, hu1⟩ : ∃ u, upB pc.letter = u := ⟨_, rfl⟩
    obtain ⟨y0, y1, y2⟩ := BP.out.three
    have Hu1 := hide (fun w => hu1 ▸ Hup.out pc.letter w)
    cases u1
    case false =>
     have Hbad := hide (HB.out (fun h => by have := (Hpk.out h).letter; rw [hu1] at this; exact absurd this (by decide)))
     clear hu1
     go_wp2_with (go_at_call 40; refine (Hu1.out _).mono ?_; rintro e w' ⟨rfl, hw'⟩; rw [hw']; clear hw')
     go_ret
     exact ⟨by rw [← Hbad.out] <;> rfl, HW1.out⟩
    obtain ⟨x0, x1, x2, x3, x4, x5, x6, x7, x8, x9, x10, x11, x12⟩ := BR.out.rules
    obtain ⟨pi, hpi⟩ : ∃ pi, pieceI r.pieces pc.letter = pi := ⟨_, rfl⟩
    have hq := HQ.out pc.letter
    rw [hpi] at hq
    have Hq := hide hq
    have hnum : pi = (k : Int) → pieceX r.pieces pc.letter = some k := fun h => num_at (hpi.trans h)
    have hnum2 : pieceX r.pieces pc.letter = some k → pi = (k : Int) := fun h => by rw [← hpi]; unfold pieceI; rw [h]; rfl
    clear hq hpi
    obtain ⟨u2, hu2⟩ : ∃ u, (pi != (k : Int)) = u := ⟨_, rfl⟩
    cases u2
    case true =>
     have Hbad := hide (HB.out (fun h => by rw [hnum2 (Hpk.out h).place] at hu2; simp at hu2))
     clear hnum hnum2 hu1
     go_wp2_with (first
      | (go_at_call 40; refine (Hu1.out _).mono ?_; rintro e w' ⟨rfl, hw'⟩; rw [hw']; clear hw')
      | (go_at_call 41; refine (Hq.out _ HW1.out).mono ?_; rintro e w2 ⟨rfl, hw2⟩))
     go_ret
     exact ⟨by rw [← Hbad.out] <;> rfl, HW1.out.trans hw2⟩
    have hplace := hnum (by simpa using hu2)
    clear hnum hnum2
    by_cases h3 : 0 ≤ pc.worth ∧ pc.worth ≤ 100 ∧ pc.ways.length ≤ 8
    case neg =>
     have Hbad := hide (HB.out (fun h => h3 ⟨(Hpk.out h).w0, (Hpk.out h).w1, (Hpk.out h).len⟩))
     have H3 := hide h3
     clear h3 hplace hu1
     go_wp2_with (first
      | (go_at_call 40; refine (Hu1.out _).mono ?_; rintro e w' ⟨rfl, hw'⟩; rw [hw']; clear hw')
      | (go_at_call 41; refine (Hq.out _ HW1.out).mono ?_; rintro e w2 ⟨rfl, hw2⟩; obtain ⟨y0, y1, y2⟩ := (hw2.blk BP.out).three))
     all_goals first
      | (exfalso; exact H3.out ⟨by omega, by omega, by omega⟩)
      | (go_ret; exact ⟨by rw [← Hbad.out] <;> rfl, HW1.out.trans hw2⟩)
    obtain ⟨m0, m1, m2⟩ := h3
    have Hmk := hide (show (∀ j (h : j < pc.ways.length), WayOk pc.ways[j]) → PieceOk r.pieces k pc from fun h => ⟨hu1, hplace, m0, m1, m2, h⟩)
    have Hwbad := hide (show ∀ j (h : j < pc.ways.length), ¬ WayOk pc.ways[j] → Ending.returned (.bool false) = .returned (.bool (rulesB r)) from fun j h hn => HB.out (fun h2 => hn ((Hpk.out h2).ways j h)))
    have e1 : decide (pc.worth < 0) = false := decide_eq_false (by omega)
    have e2 : decide (pc.worth > 100) = false := decide_eq_false (by omega)
    have e3 : decide ((pc.ways.length : Int) > 8) = false := decide_eq_false (by omega)
    clear hplace hu1 m0 m1
    go_wp2_with (first
     | (go_at_call 40; refine (Hu1.out _).mono ?_; rintro e w' ⟨rfl, hw'⟩; rw [hw']; clear hw')
     | (go_at_call 41; refine (Hq.out _ HW1.out).mono ?_; rintro e w2 ⟨rfl, hw2⟩; obtain ⟨y0, y1, y2⟩ := (hw2.blk BP.out).three))
    have BR2 := hide (hw2.blk BR.out)
    have HW2 := hide (HW1.out.trans hw2)
    have HV2 := hide (HV1.out.trans hw2)
    clear x0 x1 x2 x3 x4 x5 x6 x7 x8 x9 x10 x11 x12 y0 y1 y2 e1 e2 e3 hu2 BR HW1 HV1
    have BP2 := hide (hw2.blk BP.out)
    clear hw2 BP
    go_loopw [5] (fun i wi => ∃ q : Nat, q ≤ pc.ways.length ∧ i = .int .i64 q ∧ (∀ j (h : j < pc.ways.length), j < q → WayOk pc.ways[j]) ∧ Blk wi W.heap.size 27 #[.int .i64 r.start.w, .int .i64 r.start.h, .string r.start.cells, .int .i64 r.start.turn, .string r.start.h0, .string r.start.h1, .slice (some ⟨b, off, none⟩) r.pieces.length cp, .bool r.drops, .int .u8 r.lose, .int .i64 r.line, .int .u8 r.reach, .bool r.stuck, .int .i64 r.plies] ∧ Blk wi gp 77 #[.int .u8 pc.letter, .int .i64 pc.worth, .slice Ak pc.ways.length ck] ∧ Later W wi ∧ Later wr wi) (fun i _ => pc.ways.length - (intOf i).toNat)
    case atStart => exact ⟨0, by omega, rfl, fun j _ h => by omega, BR2.out, BP2.out, HW2.out, HV2.out⟩
    case round =>
     rename World => wi
     clear BR2 BP2 HW2 HV2
     obtain ⟨q, hq, rfl, hallq, hbx, hbp, hw, hv⟩ := hrel
     have Hp := hide hbp
     obtain ⟨y0, y1, y2⟩ := hbp.three
     have Hallq := hide hallq
     have Hb := hide hbx
     have Hw := hide hw
     have Hv := hide hv
     clear hallq hbx hbp hw hv
     by_cases hlq : q < pc.ways.length
     ·
      obtain ⟨b2, off2, rfl, hb2, z0, z1, z2, z3⟩ := ways_at (Hv.out.cells hwr Hways.out) hlq
      have Hnq := hide (show WayOk pc.ways[q] → ∀ j (h : j < pc.ways.length), j < q + 1 → WayOk pc.ways[j] from fun h2 j h hj => by
       by_cases e : j = q
       ·
        subst e; exact h2
       ·
        exact Hallq.out j h (by omega))
      have hwb := Hwbad.out q hlq
      obtain ⟨x, hx⟩ : ∃ x, pc.ways[q] = x := ⟨_, rfl⟩
      rw [hx] at z0 z1 z2 z3 Hnq hwb
      have Hwb := hide hwb
      clear hx hwb
      go_upto_region 13 with (fail)
      have Hlw := hide (Hw.out.alloc (.cells #[.int .i64 x.kind, .int .i64 x.x, .int .i64 x.y, .int .i64 x.take] 80))
      have Hbw := hide (Hb.out.alloc (.cells #[.int .i64 x.kind, .int .i64 x.x, .int .i64 x.y, .int .i64 x.take] 80))
      have Hpw := hide (Hp.out.alloc (.cells #[.int .i64 x.kind, .int .i64 x.x, .int .i64 x.y, .int .i64 x.take] 80))
      have Hvw := hide (Hv.out.alloc (.cells #[.int .i64 x.kind, .int .i64 x.x, .int .i64 x.y, .int .i64 x.take] 80))
      have Hxw := hide (Blk.new wi 80 #[.int .i64 x.kind, .int .i64 x.x, .int .i64 x.y, .int .i64 x.take])
      obtain ⟨wy, hwy⟩ : ∃ wy, wi.alloc (.cells #[.int .i64 x.kind, .int .i64 x.x, .int .i64 x.y, .int .i64 x.take] 80) = wy := ⟨_, rfl⟩
      obtain ⟨gy, hgy⟩ : ∃ gy, wi.heap.size = gy := ⟨_, rfl⟩
      rw [hwy] at Hlw Hbw Hpw Hvw Hxw ⊢
      rw [hgy] at Hxw ⊢
      clear hwy hgy z0 z1 z2 z3 Hb Hp Hw Hv y0 y1 y2
      obtain ⟨v0, v1, v2, v3⟩ := Hxw.out.four
      have hwok : ∀ P : Prop, (WayOk x → P) → (¬ WayOk x → P) → P := fun P h1 h2 => (Classical.em (WayOk x)).elim h1 h2
      clear hwok
      by_cases hok : WayOk x
      ·
       have Hnq2 := hide (Hnq.out hok)
       obtain ⟨o1, o2, o3, o4, o5, o6, o7, o8, o9, o10⟩ := hok
       have d1 : decide (x.kind < 1) = false := decide_eq_false (by omega)
       have d2 : decide (x.kind > 3) = false := decide_eq_false (by omega)
       have d3 : decide (x.x < 0) = false := decide_eq_false (by omega)
       have d4 : decide (x.x > 7) = false := decide_eq_false (by omega)
       have d5 : decide (x.y < 0) = false := decide_eq_false (by omega)
       have d6 : decide (x.y > 7) = false := decide_eq_false (by omega)
       have d7 : decide (x.take < 0) = false := decide_eq_false (by omega)
       have d8 : decide (x.take > 2) = false := decide_eq_false (by omega)
       obtain ⟨bx, hbx⟩ : ∃ bx, (x.x == 0) = bx := ⟨_, rfl⟩
       obtain ⟨bk, hbk⟩ : ∃ bk, decide (x.kind < 3) = bk := ⟨_, rfl⟩
       have d9 : bx = true → (x.y == 0) = false := fun h => by rw [h] at hbx; simp at hbx ⊢; omega
       have d10 : bk = true → decide (x.x > x.y) = false := fun h => decide_eq_false (by rw [h] at hbk; have := of_decide_eq_true hbk; omega)
       clear o1 o2 o3 o4 o5 o6 o7 o8 o9 o10 Hnq Hwb
       cases bx <;> cases bk
       all_goals
        have d9' := hide d9
        have d10' := hide d10
        clear d9 d10
        try have d9 := d9'.out (by first | exact rfl | exact trivial)
        try have d10 := d10'.out (by first | exact rfl | exact trivial)
        clear d9' d10'
        go_wp2_with fail
        go_roundw
        case rel => exact ⟨q + 1, by omega, by go_num, Hnq2.out, Hbw.out, Hpw.out, Hlw.out, Hvw.out⟩
        case measure => simp [intOf]; omega
      ·
       have Hbad := hide (Hwb.out hok)
       have Hno := hide hok
       clear hok Hnq Hwb
       go_wp2_with fail
       all_goals first
        | (exfalso; exact Hno.out ⟨by omega, by omega, by omega, by omega, by omega, by omega, by omega, by omega, by omega, by omega⟩)
        | (go_ret; exact ⟨by rw [← Hbad.out] <;> rfl, Hlw.out⟩)
     ·
      have Hnk := hide (Hnx.out (Hmk.out (fun j h => Hallq.out j h (by omega))))
      go_wp2_with fail
      go_roundw
      case rel => exact ⟨k + 1, by omega, by go_num, Hnk.out, Hb.out, Hw.out⟩
      case measure => simp [intOf]; omega
   ·
    have Hps := hide (show ∀ j (h : j < r.pieces.length), PieceOk r.pieces j r.pieces[j] from fun j h => Hall.out j h (by omega))
    clear Hall
    go_wp2_with fail
    clear x0 x1 x2 x3 x4 x5 x6 x7 x8 x9 x10 x11 x12
    go_loopw [7] (fun i wi => ∃ q : Nat, q ≤ 2 ∧ i = .int .i64 q ∧ (0 < q → LetOk r.pieces r.lose) ∧ (1 < q → LetOk r.pieces r.reach) ∧ Blk wi W.heap.size 27 #[.int .i64 r.start.w, .int .i64 r.start.h, .string r.start.cells, .int .i64 r.start.turn, .string r.start.h0, .string r.start.h1, .slice A r.pieces.length cp, .bool r.drops, .int .u8 r.lose, .int .i64 r.line, .int .u8 r.reach, .bool r.stuck, .int .i64 r.plies] ∧ Later W wi) (fun i _ => 2 - (intOf i).toNat)
    case atStart => exact ⟨0, by omega, rfl, fun h => by omega, fun h => by omega, Hb.out, Hw.out⟩
    case round =>
     rename World => wi
     clear Hb Hw
     obtain ⟨q, hq, rfl, hq0, hq1, hbx, hw⟩ := hrel
     have Hq0 := hide hq0
     have Hq1 := hide hq1
     have Hb := hide hbx
     have Hw := hide hw
     clear hq0 hq1 hbx hw
     obtain ⟨x0, x1, x2, x3, x4, x5, x6, x7, x8, x9, x10, x11, x12⟩ := Hb.out.rules
     by_cases hlq : q < 2
     ·
      obtain ⟨cq, hcell, hlet, hnext⟩ : ∃ cq : Nat, (∀ w, (Instr.index 93 (.agg #[.int .u8 r.lose, .int .u8 r.reach]) (.int .i64 (q : Int))).run Tryz.prog w = .ok (.int .u8 cq) w) ∧ (∀ _ : RulesOk r, LetOk r.pieces cq) ∧ (LetOk r.pieces cq → (0 < q + 1 → LetOk r.pieces r.lose) ∧ (1 < q + 1 → LetOk r.pieces r.reach)) := by
       have h2 : q = 0 ∨ q = 1 := by omega
       rcases h2 with rfl | rfl
       ·
        exact ⟨r.lose, fun w => by simp [Instr.index, go_sem], fun h => h.lose, fun h => ⟨fun _ => h, fun h1 => by omega⟩⟩
       ·
        exact ⟨r.reach, fun w => by simp [Instr.index, go_sem], fun h => h.reach, fun h => ⟨fun _ => Hq0.out (by omega), fun _ => h⟩⟩
      have Hlet := hide hlet
      have Hnext := hide hnext
      clear hlet hnext
      have hq2 : (q : Int) < 2 := by omega
      by_cases hc0 : cq = 0
      ·
       have d1 : ((cq : Int) != 0) = false := by simp [hc0]
       have Hn := hide (Hnext.out (.inl hc0))
       clear hc0
       go_wp2_with fail
       go_roundw
       case rel => exact ⟨q + 1, by omega, by go_num, Hn.out.1, Hn.out.2, Hb.out, Hw.out⟩
       case measure => simp [intOf]; omega
      have d1 : ((cq : Int) != 0) = true := by simp; omega
      obtain ⟨u1, hu1⟩ : ∃ u, upB cq = u := ⟨_, rfl⟩
      have Hu1 := hide (fun w => hu1 ▸ Hup.out cq w)
      cases u1
      case false =>
       have Hbad := hide (HB.out (fun h => by
        rcases Hlet.out h with h2 | ⟨h2, _⟩
        ·
         exact hc0 h2
        ·
         rw [hu1] at h2; exact absurd h2 (by decide)))
       clear hu1 hc0
       go_wp2_with (go_at_call 40; refine (Hu1.out _).mono ?_; rintro e w' ⟨rfl, hw'⟩; rw [hw']; clear hw')
       go_ret
       exact ⟨by rw [← Hbad.out] <;> rfl, Hw.out⟩
      obtain ⟨u, hu⟩ : ∃ u, (pieceX r.pieces cq).isSome = u := ⟨_, rfl⟩
      have d2 : decide (pieceI r.pieces cq < 0) = !u := by rw [← hu]; exact numX_neg (pieceX r.pieces cq)
      have hqq := HQ.out cq
      obtain ⟨pi, hpi⟩ : ∃ pi, pieceI r.pieces cq = pi := ⟨_, rfl⟩
      rw [hpi] at d2 hqq
      have Hqq := hide hqq
      clear hpi hqq
      cases u
      ·
       have Hbad := hide (HB.out (fun h => by
        rcases Hlet.out h with h2 | ⟨_, h2⟩
        ·
         exact hc0 h2
        ·
         rw [hu] at h2; exact absurd h2 (by decide)))
       clear hu1 hc0 hu
       go_wp2_with (first
        | (go_at_call 40; refine (Hu1.out _).mono ?_; rintro e w' ⟨rfl, hw'⟩; rw [hw']; clear hw')
        | (go_at_call 41; refine (Hqq.out _ Hw.out).mono ?_; rintro e w2 ⟨rfl, hw2⟩))
       go_ret
       exact ⟨by rw [← Hbad.out] <;> rfl, Hw.out.trans hw2⟩
      ·
       have Hn := hide (Hnext.out (.inr ⟨hu1, hu⟩))
       clear hu1 hc0 hu
       go_wp2_with (first
        | (go_at_call 40; refine (Hu1.out _).mono ?_; rintro e w' ⟨rfl, hw'⟩; rw [hw']; clear hw')
        | (go_at_call 41; refine (Hqq.out _ Hw.out).mono ?_; rintro e w2 ⟨rfl, hw2⟩))
       clear x0 x1 x2 x3 x4 x5 x6 x7 x8 x9 x10 x11 x12
       go_roundw
       case rel => exact ⟨q + 1, by omega, by go_num, Hn.out.1, Hn.out.2, hw2.blk Hb.out, Hw.out.trans hw2⟩
       case measure => simp [intOf]; omega
     ·
      obtain rfl : q = 2 := by omega
      have Hl0 := hide (Hq0.out (by omega))
      have Hl1 := hide (Hq1.out (by omega))
      have hsz := Hpos.out
      obtain ⟨s1, s2, s3⟩ := pos_small hsz
      have hall2 : (r.start.cells ++ r.start.h0 ++ r.start.h1).data.toList = r.start.all := by unfold Pos.all; simp
      have hff := letters_any r A cp (r.start.cells ++ r.start.h0 ++ r.start.h1) wi (by simp; omega) hn ((HP.out.below Hw.out).more Hw.out.size)
      obtain ⟨u, hu⟩ : ∃ u, fitsB r.pieces r.start.all = u := ⟨_, rfl⟩
      rw [hall2, hu] at hff
      have Hff := hide hff
      have s1' : r.start.cells.size ≤ 1000 := by omega
      have s2' : r.start.h0.size ≤ 1000 := by omega
      have s3' : r.start.h1.size ≤ 1000 := by omega
      clear hff hsz s1 s2 s3 hall2
      cases u
      ·
       have Hbad := hide (HB.out (fun h => fitsB_false.1 hu h.fits))
       clear hu
       go_wp2_with (go_at_call 42; refine (Hff.out).mono ?_; rintro e w2 ⟨rfl, hw2⟩)
       go_ret
       exact ⟨by rw [← Hbad.out] <;> rfl, Hw.out.trans hw2⟩
      ·
       have Hgood := hide (HG.out ⟨Hpos.out, l1, l2, Hl.out, l4, l5, Hps.out, Hl0.out, Hl1.out, fitsB_true.1 hu⟩)
       clear hu
       go_wp2_with (go_at_call 42; refine (Hff.out).mono ?_; rintro e w2 ⟨rfl, hw2⟩)
       go_ret
       exact ⟨by rw [← Hgood.out] <;> rfl, Hw.out.trans hw2⟩
theorem rules_any (r : RulesD) (A : Option Addr) (cp : Nat) (W : World) (hf : RFit r) (hP : PiecesAt W W.heap.size A r.pieces) :
  Calls Tryz.prog 13 #[.agg #[.int .i64 r.start.w, .int .i64 r.start.h, .string r.start.cells, .int .i64 r.start.turn, .string r.start.h0, .string r.start.h1, .slice A r.pieces.length cp, .bool r.drops, .int .u8 r.lose, .int .i64 r.line, .int .u8 r.reach, .bool r.stuck, .int .i64 r.plies]] W fun e w' => e = .returned (.bool (rulesB r)) ∧ Later W w' := by
 by_cases hpos : PosOk r.start
 ·
  by_cases hall : HeadOk r
  ·
   exact rules_g r A cp W hf hP hpos hall
  ·
   exact rules_b2 r A cp W hf hpos hall
 ·
  exact rules_b1 r A cp W hf hpos
end Go.Proofs.YtcdfeaodfmfdnaaGreatDoor
