/- gamelaw.ProofProves answers true and leaves what was there as it was, for all rules, every position, every depth and every cert. No condition. -/
import Derived.Test.YtdfegpohmaideaaGreatPvAllM
import Derived.Test.YtdfegpohmaideaaGreatBase
import Derived.Deep.Matrix
import Derived.ProofKit
import Derived.Test.YtdfegpohmaideaaGreatRows
import Derived.OpenShut
import Derived.ChangeMaps5
import Derived.Test.YtdfegpohmaideaaGreatRuCheck
import Derived.ChangeArms
import Derived.Below
import Derived.ChangeSame
import Derived.WalkKit
/- proof.shows: does a cert show it? walked -/
namespace Go.Proofs.YtdfegpohmaideaaGreat
open Go.RowKit

set_option maxHeartbeats 4000000 in
set_option maxRecDepth 100000 in
/-- the game is over, or no move is left -/
theorem pshows_end (r : RulesD) (A : Option Addr) (cp : Nat) (wn : Int) (d : Nat) (p : Pos) (c : CertD) (Ak : Option Addr) (ck : Nat) (W : World) (h0 : 0 ≤ wn) (h1 : wn ≤ 1) (hP : PiecesAt W W.heap.size A r.pieces) (hok : OfOk r p) (hd : endsN r p ≠ 0 ∨ d = 0)
    (hR : showsB r wn d p c = (endsN r p == wn + 1 && (noneB c && (c.kids.length == 0)))) :
    Calls Tryz.prog 54 #[.agg #[.int .i64 r.start.w, .int .i64 r.start.h, .string r.start.cells, .int .i64 r.start.turn, .string r.start.h0, .string r.start.h1, .slice A r.pieces.length cp, .bool r.drops, .int .u8 r.lose, .int .i64 r.line, .int .u8 r.reach, .bool r.stuck, .int .i64 r.plies], .agg #[.int .i64 p.w, .int .i64 p.h, .string p.cells, .int .i64 p.turn, .string p.h0, .string p.h1], .int .i64 (d : Int), .int .i64 wn, .agg #[.bool c.s, .int .i64 c.m.f, .int .i64 c.m.t, .int .u8 (c.m.c : Int), .slice Ak c.kids.length ck]] W fun e w' => e = .returned (.bool (showsB r wn d p c)) ∧ Later W w' := by
  have Hst := hide (ShSt.first (W := W) (R := #[.int .i64 r.start.w, .int .i64 r.start.h, .string r.start.cells, .int .i64 r.start.turn, .string r.start.h0, .string r.start.h1, .slice A r.pieces.length cp, .bool r.drops, .int .u8 r.lose, .int .i64 r.line, .int .u8 r.reach, .bool r.stuck, .int .i64 r.plies]) (P := #[.int .i64 p.w, .int .i64 p.h, .string p.cells, .int .i64 p.turn, .string p.h0, .string p.h1]) (C := #[.bool c.s, .int .i64 c.m.f, .int .i64 c.m.t, .int .u8 (c.m.c : Int), .slice Ak c.kids.length ck]))
  have Hnx := hide (fun w (hw : Later W w) => nextN_any r A cp p w hok ((hP.below hw).more hw.size))
  have hen := ends_range (r := r) (p := p) (by have := hok.pos.t0; have := hok.pos.t1; omega)
  obtain ⟨n, hn⟩ : ∃ n, endsN r p = n := ⟨_, rfl⟩
  rw [hn] at hR hd hen
  simp only [hn] at Hnx
  rw [hR]
  clear hP hok hn hR
  have tw : IntKind.i64.wrap (1 + wn) = 1 + wn := IntWalk.i64_in _ (by omega)
  obtain ⟨s, m, ks⟩ := c
  have hnb : noneB (.mk s m ks) = (!s && decide (m = ⟨0, 0, 0⟩)) := by
    unfold noneB CertD.none
    simp only [CertD.s, CertD.m]
    cases s <;> simp
  rw [hnb]
  simp only [CertD.s, CertD.m, CertD.kids] at Hst ⊢
  have heq := fun w => eqM.1 m ⟨0, 0, 0⟩ w
  have hgd := fun op a b w => eqM.2 op a b m ⟨0, 0, 0⟩ w
  simp [encM] at heq hgd
  obtain ⟨u, hu⟩ : ∃ u, decide (m = ⟨0, 0, 0⟩) = u := ⟨_, rfl⟩
  obtain ⟨k, hk⟩ : ∃ k, ks.length = k := ⟨_, rfl⟩
  obtain ⟨b1, hb1⟩ : ∃ b, (n == 1 + wn) = b := ⟨_, rfl⟩
  have hb1' : (n == wn + 1) = b1 := by rw [← hb1, Int.add_comm]
  obtain ⟨b2, hb2⟩ : ∃ b, (k == 0) = b := ⟨_, rfl⟩
  have t2 : ((k : Int) == 0) = b2 := by rw [← hb2, beq_dec, Bool.eq_iff_iff]; simp
  rw [hk] at Hst ⊢
  rw [hu, hb1', hb2]
  simp only [hu] at heq
  clear hnb hu hk hb2 hb1'
  have tn : ∃ bn, (n != 0) = bn ∧ (bn = true ∨ d = 0) := by
    by_cases hz : n = 0
    · exact ⟨false, by simp [hz], .inr (hd.resolve_left (fun h => h hz))⟩
    · exact ⟨true, by simp [hz], .inl rfl⟩
  obtain ⟨bn, tn1, tn2⟩ := tn
  clear hd
  go_enter Tryz.func54, Tryz.ntmps54
  go_upto_region 1 with (fail)
  obtain ⟨w0, hw0⟩ : ∃ w0, (((W.alloc (.cells #[.int .i64 r.start.w, .int .i64 r.start.h, .string r.start.cells, .int .i64 r.start.turn, .string r.start.h0, .string r.start.h1, .slice A r.pieces.length cp, .bool r.drops, .int .u8 r.lose, .int .i64 r.line, .int .u8 r.reach, .bool r.stuck, .int .i64 r.plies] 27)).alloc (.cells #[.int .i64 p.w, .int .i64 p.h, .string p.cells, .int .i64 p.turn, .string p.h0, .string p.h1] 24)).alloc (.cells #[.bool s, .int .i64 m.f, .int .i64 m.t, .int .u8 (m.c : Int), .slice Ak k ck] 58)) = w0 := ⟨_, rfl⟩
  rw [hw0] at Hst ⊢
  clear hw0
  obtain ⟨x0, x1, x2, x3, x4, x5, x6, x7, x8, x9, x10, x11, x12⟩ := Hst.out.r.rules
  obtain ⟨p0, p1, p2, p3, p4, p5⟩ := Hst.out.p.pos6
  go_upto_region 2 with (go_at_call 44; refine (Hnx.out _ Hst.out.later).mono ?_; rintro e w2 ⟨A1, c1, A2, c2, rfl, -, -, hw2⟩)
  have Hst2 := hide (Hst.out.later_ hw2)
  clear hw2 Hst x0 x1 x2 x3 x4 x5 x6 x7 x8 x9 x10 x11 x12 p0 p1 p2 p3 p4 p5
  obtain ⟨c0, c1, c2, c3, c4⟩ := Hst2.out.c.five
  rcases tn2 with rfl | rfl
  · cases s <;> cases u <;> cases b1 <;> cases b2 <;> (go_wp2_with fail; go_ret; exact ⟨rfl, Hst2.out.later⟩)
  · cases bn <;> cases s <;> cases u <;> cases b1 <;> cases b2 <;> (go_wp2_with fail; go_ret; exact ⟨rfl, Hst2.out.later⟩)
theorem IdxOut.cases {l : List Mv} {m : Mv} {W w' : World} {e : Ending} (h : IdxOut l m W e w') : ∃ i : Int, e = .returned (.int .i64 i) ∧ Later W w' ∧ ((i = -1 ∧ m ∉ l) ∨ ∃ (k : Nat) (h : k < l.length), i = (k : Int) ∧ l[k] = m) := by
  obtain ⟨h1, ⟨h2, h3⟩ | ⟨k, hk, h2, h3⟩⟩ := h
  · exact ⟨-1, h2, h1, .inl ⟨rfl, h3⟩⟩
  · exact ⟨k, h2, h1, .inr ⟨k, hk, rfl, h3⟩⟩
set_option maxHeartbeats 16000000 in
set_option maxRecDepth 100000 in
theorem pshows_own_no (r : RulesD) (A : Option Addr) (cp : Nat) (wn : Int) (d : Nat) (hd : d < 9) (p : Pos) (m : Mv) (s : Bool) (k : Nat) (Ak : Option Addr) (ck : Nat) (W : World) (R : Bool) (hP : PiecesAt W W.heap.size A r.pieces) (hok : OfOk r p) (hop : endsN r p = 0) (htn : p.turn = wn)
    (hno : s = false ∨ (s = true ∧ k ≠ 1)) (hR : R = false) :
    Calls Tryz.prog 54 #[.agg #[.int .i64 r.start.w, .int .i64 r.start.h, .string r.start.cells, .int .i64 r.start.turn, .string r.start.h0, .string r.start.h1, .slice A r.pieces.length cp, .bool r.drops, .int .u8 r.lose, .int .i64 r.line, .int .u8 r.reach, .bool r.stuck, .int .i64 r.plies], .agg #[.int .i64 p.w, .int .i64 p.h, .string p.cells, .int .i64 p.turn, .string p.h0, .string p.h1], .int .i64 ((d : Int) + 1), .int .i64 wn, .agg #[.bool s, .int .i64 m.f, .int .i64 m.t, .int .u8 (m.c : Int), .slice Ak k ck]] W fun e w' => e = .returned (.bool R) ∧ Later W w' := by
  have Hst := hide (ShSt.first (W := W) (R := #[.int .i64 r.start.w, .int .i64 r.start.h, .string r.start.cells, .int .i64 r.start.turn, .string r.start.h0, .string r.start.h1, .slice A r.pieces.length cp, .bool r.drops, .int .u8 r.lose, .int .i64 r.line, .int .u8 r.reach, .bool r.stuck, .int .i64 r.plies]) (P := #[.int .i64 p.w, .int .i64 p.h, .string p.cells, .int .i64 p.turn, .string p.h0, .string p.h1]) (C := #[.bool s, .int .i64 m.f, .int .i64 m.t, .int .u8 (m.c : Int), .slice Ak k ck]))
  have Hnx := hide (fun w (hw : Later W w) => nextN_any r A cp p w hok ((hP.below hw).more hw.size))
  simp only [hop] at Hnx
  have hll : (movesL r p).length ≤ 10000 := movesL_len hok.pos
  have tz : (((d : Int) + 1) == 0) = false := by simp; omega
  have tw : IntKind.i64.wrap ((d : Int) + 1 - 1) = (d : Int) := by rw [show (d : Int) + 1 - 1 = d by omega]; exact IntWalk.i64_in _ (by omega)
  have tw2 : IntKind.i64.wrap (d : Int) = (d : Int) := IntWalk.i64_in _ (by omega)
  have t3 : (p.turn == wn) = true := by rw [beq_dec]; exact decide_eq_true htn
  have HR := hide hR
  have Hno := hide hno
  obtain ⟨L, hL⟩ : ∃ L, movesL r p = L := ⟨_, rfl⟩
  simp only [hL] at Hnx hll
  clear hP hok hop htn hR hno hd hL
  go_enter Tryz.func54, Tryz.ntmps54
  go_upto_region 1 with (fail)
  obtain ⟨w0, hw0⟩ : ∃ w0, (((W.alloc (.cells #[.int .i64 r.start.w, .int .i64 r.start.h, .string r.start.cells, .int .i64 r.start.turn, .string r.start.h0, .string r.start.h1, .slice A r.pieces.length cp, .bool r.drops, .int .u8 r.lose, .int .i64 r.line, .int .u8 r.reach, .bool r.stuck, .int .i64 r.plies] 27)).alloc (.cells #[.int .i64 p.w, .int .i64 p.h, .string p.cells, .int .i64 p.turn, .string p.h0, .string p.h1] 24)).alloc (.cells #[.bool s, .int .i64 m.f, .int .i64 m.t, .int .u8 (m.c : Int), .slice Ak k ck] 58)) = w0 := ⟨_, rfl⟩
  rw [hw0] at Hst ⊢
  clear hw0
  obtain ⟨x0, x1, x2, x3, x4, x5, x6, x7, x8, x9, x10, x11, x12⟩ := Hst.out.r.rules
  obtain ⟨p0, p1, p2, p3, p4, p5⟩ := Hst.out.p.pos6
  go_upto_region 2 with (go_at_call 44; refine (Hnx.out _ Hst.out.later).mono ?_; rintro e w2 ⟨A1, cc1, A2, cc2, rfl, hcm, hcq, hw2⟩)
  have Hst2 := hide (Hst.out.later_ hw2)
  have Hcm := hide hcm
  have Hcq := hide hcq
  clear hcm hcq hw2 Hst x0 x1 x2 x3 x4 x5 x6 x7 x8 x9 x10 x11 x12 p0 p1 p2 p3 p4 p5
  obtain ⟨p0, p1, p2, p3, p4, p5⟩ := Hst2.out.p.pos6
  obtain ⟨c0, c1, c2, c3, c4⟩ := Hst2.out.c.five
  have Hix := hide (fun w (hw : Later w2 w) => index_mv A1 cc1 L m w (by omega) ((Hcm.out.below hw).more hw.size))
  go_upto_region 6 with (go_at_call 62; refine (Hix.out _ Later.rfl).mono ?_; rintro e w5 hx; obtain ⟨ix, rfl, hw5, hx⟩ := hx.cases)
  have Hst5 := hide (Hst2.out.later_ hw5)
  have HX := hide hx
  have Hcq5 := hide ((Hcq.out.below hw5).more hw5.size)
  clear hw5 hx Hst2 Hix Hcm Hcq tz t3 p0 p1 p2 p3 p4 p5 c0 c1 c2 c3 c4
  rcases Hno.out with rfl | ⟨rfl, hk⟩
  · have HS := hide (show ∀ w' : World, Later w5 w' → (w'.cell? ⟨W.heap.size, 0, none⟩ = some (.int .i64 r.start.w) ∧ w'.cell? ⟨W.heap.size, 1, none⟩ = some (.int .i64 r.start.h) ∧ w'.cell? ⟨W.heap.size, 2, none⟩ = some (.string r.start.cells) ∧ w'.cell? ⟨W.heap.size, 3, none⟩ = some (.int .i64 r.start.turn) ∧ w'.cell? ⟨W.heap.size, 4, none⟩ = some (.string r.start.h0) ∧ w'.cell? ⟨W.heap.size, 5, none⟩ = some (.string r.start.h1) ∧ w'.cell? ⟨W.heap.size, 6, none⟩ = some (.slice A r.pieces.length cp) ∧ w'.cell? ⟨W.heap.size, 7, none⟩ = some (.bool r.drops) ∧ w'.cell? ⟨W.heap.size, 8, none⟩ = some (.int .u8 r.lose) ∧ w'.cell? ⟨W.heap.size, 9, none⟩ = some (.int .i64 r.line) ∧ w'.cell? ⟨W.heap.size, 10, none⟩ = some (.int .u8 r.reach) ∧ w'.cell? ⟨W.heap.size, 11, none⟩ = some (.bool r.stuck) ∧ w'.cell? ⟨W.heap.size, 12, none⟩ = some (.int .i64 r.plies) ∧ w'.cell? ⟨W.heap.size + 1, 0, none⟩ = some (.int .i64 p.w) ∧ w'.cell? ⟨W.heap.size + 1, 1, none⟩ = some (.int .i64 p.h) ∧ w'.cell? ⟨W.heap.size + 1, 2, none⟩ = some (.string p.cells) ∧ w'.cell? ⟨W.heap.size + 1, 3, none⟩ = some (.int .i64 p.turn) ∧ w'.cell? ⟨W.heap.size + 1, 4, none⟩ = some (.string p.h0) ∧ w'.cell? ⟨W.heap.size + 1, 5, none⟩ = some (.string p.h1) ∧ w'.cell? ⟨W.heap.size + 1 + 1, 0, none⟩ = some (.bool false) ∧ w'.cell? ⟨W.heap.size + 1 + 1, 1, none⟩ = some (.int .i64 m.f) ∧ w'.cell? ⟨W.heap.size + 1 + 1, 2, none⟩ = some (.int .i64 m.t) ∧ w'.cell? ⟨W.heap.size + 1 + 1, 3, none⟩ = some (.int .u8 (m.c : Int)) ∧ w'.cell? ⟨W.heap.size + 1 + 1, 4, none⟩ = some (.slice Ak k ck)) from fun w' hw => by
      obtain ⟨x0, x1, x2, x3, x4, x5, x6, x7, x8, x9, x10, x11, x12⟩ := (hw.blk Hst5.out.r).rules
      obtain ⟨p0, p1, p2, p3, p4, p5⟩ := (hw.blk Hst5.out.p).pos6
      obtain ⟨c0, c1, c2, c3, c4⟩ := (hw.blk Hst5.out.c).five
      exact ⟨x0, x1, x2, x3, x4, x5, x6, x7, x8, x9, x10, x11, x12, p0, p1, p2, p3, p4, p5, c0, c1, c2, c3, c4⟩)
    refine wp_region_held_drew (S := fun w' : World => (w'.cell? ⟨W.heap.size, 0, none⟩ = some (.int .i64 r.start.w) ∧ w'.cell? ⟨W.heap.size, 1, none⟩ = some (.int .i64 r.start.h) ∧ w'.cell? ⟨W.heap.size, 2, none⟩ = some (.string r.start.cells) ∧ w'.cell? ⟨W.heap.size, 3, none⟩ = some (.int .i64 r.start.turn) ∧ w'.cell? ⟨W.heap.size, 4, none⟩ = some (.string r.start.h0) ∧ w'.cell? ⟨W.heap.size, 5, none⟩ = some (.string r.start.h1) ∧ w'.cell? ⟨W.heap.size, 6, none⟩ = some (.slice A r.pieces.length cp) ∧ w'.cell? ⟨W.heap.size, 7, none⟩ = some (.bool r.drops) ∧ w'.cell? ⟨W.heap.size, 8, none⟩ = some (.int .u8 r.lose) ∧ w'.cell? ⟨W.heap.size, 9, none⟩ = some (.int .i64 r.line) ∧ w'.cell? ⟨W.heap.size, 10, none⟩ = some (.int .u8 r.reach) ∧ w'.cell? ⟨W.heap.size, 11, none⟩ = some (.bool r.stuck) ∧ w'.cell? ⟨W.heap.size, 12, none⟩ = some (.int .i64 r.plies) ∧ w'.cell? ⟨W.heap.size + 1, 0, none⟩ = some (.int .i64 p.w) ∧ w'.cell? ⟨W.heap.size + 1, 1, none⟩ = some (.int .i64 p.h) ∧ w'.cell? ⟨W.heap.size + 1, 2, none⟩ = some (.string p.cells) ∧ w'.cell? ⟨W.heap.size + 1, 3, none⟩ = some (.int .i64 p.turn) ∧ w'.cell? ⟨W.heap.size + 1, 4, none⟩ = some (.string p.h0) ∧ w'.cell? ⟨W.heap.size + 1, 5, none⟩ = some (.string p.h1) ∧ w'.cell? ⟨W.heap.size + 1 + 1, 0, none⟩ = some (.bool false) ∧ w'.cell? ⟨W.heap.size + 1 + 1, 1, none⟩ = some (.int .i64 m.f) ∧ w'.cell? ⟨W.heap.size + 1 + 1, 2, none⟩ = some (.int .i64 m.t) ∧ w'.cell? ⟨W.heap.size + 1 + 1, 3, none⟩ = some (.int .u8 (m.c : Int)) ∧ w'.cell? ⟨W.heap.size + 1 + 1, 4, none⟩ = some (.slice Ak k ck))) (by kernel_rfl) (HS.out _ Later.rfl.drew) (fun hHeld => ?_)
    refine wpAnyH_take (i := 0) (oi := ⟨some 59, _, _, _, _, _⟩) (v := ?_) rfl (by kernel_rfl) (by kernel_rfl) (by kernel_rfl) (fun _ _ _ h => h) (Or.inl ⟨by rfl, ?_⟩) (by assumption) ?_
    rotate_left 1
    · intro w hSw
      try dsimp only at hSw
      go_simp <;> with_reducible rfl
    try simp only [Act.put, List.setIfInBounds_toArray, List.set_cons_zero, List.set_cons_succ]
    refine wpAnyH_take (i := 1) (oi := ⟨some 60, _, _, _, _, _⟩) (v := ?_) rfl (by kernel_rfl) (by kernel_rfl) (by kernel_rfl) (fun _ _ _ h => h) (Or.inl ⟨by rfl, ?_⟩) (by assumption) ?_
    rotate_left 1
    · intro w hSw
      try dsimp only at hSw
      go_simp <;> with_reducible rfl
    try simp only [Act.put, List.setIfInBounds_toArray, List.set_cons_zero, List.set_cons_succ]
    refine wpAnyH_take (i := 2) (oi := ⟨some 61, _, _, _, _, _⟩) (v := ?_) rfl (by kernel_rfl) (by kernel_rfl) (by kernel_rfl) (fun _ _ _ h => h) (Or.inl ⟨by rfl, ?_⟩) (by assumption) ?_
    rotate_left 1
    · intro w hSw
      try dsimp only at hSw
      go_simp <;> with_reducible rfl
    try simp only [Act.put, List.setIfInBounds_toArray, List.set_cons_zero, List.set_cons_succ]
    refine wpAnyH_take (i := 3) (oi := ⟨some 62, _, _, _, _, _⟩) (v := undef) rfl (by kernel_rfl) (by kernel_rfl) (by kernel_rfl) (fun _ _ _ h => h) (Or.inr ⟨by rfl, rfl⟩) (by assumption) ?_
    try simp only [Act.put, List.setIfInBounds_toArray, List.set_cons_zero, List.set_cons_succ]
    refine wpAnyH_take (i := 4) (oi := ⟨some 63, _, _, _, _, _⟩) (v := undef) rfl (by kernel_rfl) (by kernel_rfl) (by kernel_rfl) (fun _ _ _ h => h) (Or.inr ⟨by rfl, rfl⟩) (by assumption) ?_
    try simp only [Act.put, List.setIfInBounds_toArray, List.set_cons_zero, List.set_cons_succ]
    refine wpAnyH_take (i := 5) (oi := ⟨some 64, _, _, _, _, _⟩) (v := ?_) rfl (by kernel_rfl) (by kernel_rfl) (by kernel_rfl) (fun _ _ _ h => h) (Or.inl ⟨by rfl, ?_⟩) (by assumption) ?_
    rotate_left 1
    · intro w hSw
      try dsimp only at hSw
      go_simp <;> with_reducible rfl
    try simp only [Act.put, List.setIfInBounds_toArray, List.set_cons_zero, List.set_cons_succ]
    refine wpAnyH_take (i := 6) (oi := ⟨some 65, _, _, _, _, _⟩) (v := ?_) rfl (by kernel_rfl) (by kernel_rfl) (by kernel_rfl) (fun _ _ _ h => h) (Or.inl ⟨by rfl, ?_⟩) (by assumption) ?_
    rotate_left 1
    · intro w hSw
      try dsimp only at hSw
      go_simp <;> with_reducible rfl
    try simp only [Act.put, List.setIfInBounds_toArray, List.set_cons_zero, List.set_cons_succ]
    refine wpAnyH_take (i := 7) (oi := ⟨some 66, _, _, _, _, _⟩) (v := undef) rfl (by kernel_rfl) (by kernel_rfl) (by kernel_rfl) (fun _ _ _ h => h) (Or.inr ⟨by rfl, rfl⟩) (by assumption) ?_
    try simp only [Act.put, List.setIfInBounds_toArray, List.set_cons_zero, List.set_cons_succ]
    refine wpAnyH_take (i := 8) (oi := ⟨some 67, _, _, _, _, _⟩) (v := undef) rfl (by kernel_rfl) (by kernel_rfl) (by kernel_rfl) (fun _ _ _ h => h) (Or.inr ⟨by rfl, rfl⟩) (by assumption) ?_
    try simp only [Act.put, List.setIfInBounds_toArray, List.set_cons_zero, List.set_cons_succ]
    refine wpAnyH_take (i := 9) (oi := ⟨some 68, _, _, _, _, _⟩) (v := undef) rfl (by kernel_rfl) (by kernel_rfl) (by kernel_rfl) (fun _ _ _ h => h) (Or.inr ⟨by rfl, rfl⟩) (by assumption) ?_
    try simp only [Act.put, List.setIfInBounds_toArray, List.set_cons_zero, List.set_cons_succ]
    refine wpAnyH_take (i := 10) (oi := ⟨some 69, _, _, _, _, _⟩) (v := undef) rfl (by kernel_rfl) (by kernel_rfl) (by kernel_rfl) (fun _ _ _ h => h) (Or.inr ⟨by rfl, rfl⟩) (by assumption) ?_
    try simp only [Act.put, List.setIfInBounds_toArray, List.set_cons_zero, List.set_cons_succ]
    refine wpAnyH_take (i := 11) (oi := ⟨some 70, _, _, _, _, _⟩) (v := ?_) rfl (by kernel_rfl) (by kernel_rfl) (by kernel_rfl) (fun _ _ _ h => h) (Or.inl ⟨by rfl, ?_⟩) (by assumption) ?_
    rotate_left 1
    · intro w hSw
      try dsimp only at hSw
      go_simp <;> with_reducible rfl
    try simp only [Act.put, List.setIfInBounds_toArray, List.set_cons_zero, List.set_cons_succ]
    refine wpAnyH_take (i := 12) (oi := ⟨some 71, _, _, _, _, _⟩) (v := ?_) rfl (by kernel_rfl) (by kernel_rfl) (by kernel_rfl) (fun _ _ _ h => h) (Or.inl ⟨by rfl, ?_⟩) (by assumption) ?_
    rotate_left 1
    · intro w hSw
      try dsimp only at hSw
      go_simp <;> with_reducible rfl
    try simp only [Act.put, List.setIfInBounds_toArray, List.set_cons_zero, List.set_cons_succ]
    refine wpAnyH_take (i := 13) (oi := ⟨some 72, _, _, _, _, _⟩) (v := undef) rfl (by kernel_rfl) (by kernel_rfl) (by kernel_rfl) (fun _ _ _ h => h) (Or.inr ⟨by rfl, rfl⟩) (by assumption) ?_
    try simp only [Act.put, List.setIfInBounds_toArray, List.set_cons_zero, List.set_cons_succ]
    refine wpAnyH_take (i := 14) (oi := ⟨some 73, _, _, _, _, _⟩) (v := undef) rfl (by kernel_rfl) (by kernel_rfl) (by kernel_rfl) (fun _ _ _ h => h) (Or.inr ⟨by rfl, rfl⟩) (by assumption) ?_
    try simp only [Act.put, List.setIfInBounds_toArray, List.set_cons_zero, List.set_cons_succ]
    refine wpAnyH_take (i := 15) (oi := ⟨some 74, _, _, _, _, _⟩) (v := undef) rfl (by kernel_rfl) (by kernel_rfl) (by kernel_rfl) (fun _ _ _ h => h) (Or.inr ⟨by rfl, rfl⟩) (by assumption) ?_
    try simp only [Act.put, List.setIfInBounds_toArray, List.set_cons_zero, List.set_cons_succ]
    refine wpAnyH_take (i := 16) (oi := ⟨some 75, _, _, _, _, _⟩) (v := undef) rfl (by kernel_rfl) (by kernel_rfl) (by kernel_rfl) (fun _ _ _ h => h) (Or.inr ⟨by rfl, rfl⟩) (by assumption) ?_
    try simp only [Act.put, List.setIfInBounds_toArray, List.set_cons_zero, List.set_cons_succ]
    refine wpAnyH_take (i := 17) (oi := ⟨some 76, _, _, _, _, _⟩) (v := undef) rfl (by kernel_rfl) (by kernel_rfl) (by kernel_rfl) (fun _ _ _ h => h) (Or.inr ⟨by rfl, rfl⟩) (by assumption) ?_
    try simp only [Act.put, List.setIfInBounds_toArray, List.set_cons_zero, List.set_cons_succ]
    refine wpAnyH_take (i := 18) (oi := ⟨some 77, _, _, _, _, _⟩) (v := undef) rfl (by kernel_rfl) (by kernel_rfl) (by kernel_rfl) (fun _ _ _ h => h) (Or.inr ⟨by rfl, rfl⟩) (by assumption) ?_
    try simp only [Act.put, List.setIfInBounds_toArray, List.set_cons_zero, List.set_cons_succ]
    refine wpAnyH_take (i := 19) (oi := ⟨some 78, _, _, _, _, _⟩) (v := undef) rfl (by kernel_rfl) (by kernel_rfl) (by kernel_rfl) (fun _ _ _ h => h) (Or.inr ⟨by rfl, rfl⟩) (by assumption) ?_
    try simp only [Act.put, List.setIfInBounds_toArray, List.set_cons_zero, List.set_cons_succ]
    refine wpAnyH_take (i := 20) (oi := ⟨some 79, _, _, _, _, _⟩) (v := undef) rfl (by kernel_rfl) (by kernel_rfl) (by kernel_rfl) (fun _ _ _ h => h) (Or.inr ⟨by rfl, rfl⟩) (by assumption) ?_
    try simp only [Act.put, List.setIfInBounds_toArray, List.set_cons_zero, List.set_cons_succ]
    refine wpAnyH_take (i := 21) (oi := ⟨some 80, _, _, _, _, _⟩) (v := undef) rfl (by kernel_rfl) (by kernel_rfl) (by kernel_rfl) (fun _ _ _ h => h) (Or.inr ⟨by rfl, rfl⟩) (by assumption) ?_
    try simp only [Act.put, List.setIfInBounds_toArray, List.set_cons_zero, List.set_cons_succ]
    refine wpAnyH_take (i := 22) (oi := ⟨some 81, _, _, _, _, _⟩) (v := undef) rfl (by kernel_rfl) (by kernel_rfl) (by kernel_rfl) (fun _ _ _ h => h) (Or.inr ⟨by rfl, rfl⟩) (by assumption) ?_
    try simp only [Act.put, List.setIfInBounds_toArray, List.set_cons_zero, List.set_cons_succ]
    refine wpAnyH_take (i := 23) (oi := ⟨some 82, _, _, _, _, _⟩) (v := undef) rfl (by kernel_rfl) (by kernel_rfl) (by kernel_rfl) (fun _ _ _ h => h) (Or.inr ⟨by rfl, rfl⟩) (by assumption) ?_
    try simp only [Act.put, List.setIfInBounds_toArray, List.set_cons_zero, List.set_cons_succ]
    refine wpAnyH_take (i := 24) (oi := ⟨some 83, _, _, _, _, _⟩) (v := undef) rfl (by kernel_rfl) (by kernel_rfl) (by kernel_rfl) (fun _ _ _ h => h) (Or.inr ⟨by rfl, rfl⟩) (by assumption) ?_
    try simp only [Act.put, List.setIfInBounds_toArray, List.set_cons_zero, List.set_cons_succ]
    refine wpAnyH_take (i := 25) (oi := ⟨some 84, _, _, _, _, _⟩) (v := undef) rfl (by kernel_rfl) (by kernel_rfl) (by kernel_rfl) (fun _ _ _ h => h) (Or.inr ⟨by rfl, rfl⟩) (by assumption) ?_
    try simp only [Act.put, List.setIfInBounds_toArray, List.set_cons_zero, List.set_cons_succ]
    refine wpAnyH_take (i := 26) (oi := ⟨some 85, _, _, _, _, _⟩) (v := ?_) rfl (by kernel_rfl) (by kernel_rfl) (by kernel_rfl) (fun _ _ _ h => h) (Or.inl ⟨by rfl, ?_⟩) (by assumption) ?_
    rotate_left 1
    · intro w hSw
      try dsimp only at hSw
      go_simp <;> with_reducible rfl
    try simp only [Act.put, List.setIfInBounds_toArray, List.set_cons_zero, List.set_cons_succ]
    refine wpAnyH_take (i := 27) (oi := ⟨some 10, _, _, _, _, _⟩) (v := ?_) rfl (by kernel_rfl) (by kernel_rfl) (by kernel_rfl) (fun _ _ _ h => h) (Or.inl ⟨by rfl, ?_⟩) (by assumption) ?_
    rotate_left 1
    · intro w hSw
      try dsimp only at hSw
      go_simp <;> with_reducible rfl
    try simp only [Act.put, List.setIfInBounds_toArray, List.set_cons_zero, List.set_cons_succ]
    refine wpAnyH_done (by kernel_rfl) ?_ _
    go_wp2_with fail
    go_ret
    exact ⟨by rw [HR.out] <;> rfl, Hst5.out.later.trans (by repeat (first | exact Later.rfl | exact hwq | refine Later.drew ?_))⟩
  · have tk : ((k : Int) == 1) = false := by rw [beq_dec]; exact decide_eq_false (by omega)
    have HS := hide (show ∀ w' : World, Later w5 w' → (w'.cell? ⟨W.heap.size, 0, none⟩ = some (.int .i64 r.start.w) ∧ w'.cell? ⟨W.heap.size, 1, none⟩ = some (.int .i64 r.start.h) ∧ w'.cell? ⟨W.heap.size, 2, none⟩ = some (.string r.start.cells) ∧ w'.cell? ⟨W.heap.size, 3, none⟩ = some (.int .i64 r.start.turn) ∧ w'.cell? ⟨W.heap.size, 4, none⟩ = some (.string r.start.h0) ∧ w'.cell? ⟨W.heap.size, 5, none⟩ = some (.string r.start.h1) ∧ w'.cell? ⟨W.heap.size, 6, none⟩ = some (.slice A r.pieces.length cp) ∧ w'.cell? ⟨W.heap.size, 7, none⟩ = some (.bool r.drops) ∧ w'.cell? ⟨W.heap.size, 8, none⟩ = some (.int .u8 r.lose) ∧ w'.cell? ⟨W.heap.size, 9, none⟩ = some (.int .i64 r.line) ∧ w'.cell? ⟨W.heap.size, 10, none⟩ = some (.int .u8 r.reach) ∧ w'.cell? ⟨W.heap.size, 11, none⟩ = some (.bool r.stuck) ∧ w'.cell? ⟨W.heap.size, 12, none⟩ = some (.int .i64 r.plies) ∧ w'.cell? ⟨W.heap.size + 1, 0, none⟩ = some (.int .i64 p.w) ∧ w'.cell? ⟨W.heap.size + 1, 1, none⟩ = some (.int .i64 p.h) ∧ w'.cell? ⟨W.heap.size + 1, 2, none⟩ = some (.string p.cells) ∧ w'.cell? ⟨W.heap.size + 1, 3, none⟩ = some (.int .i64 p.turn) ∧ w'.cell? ⟨W.heap.size + 1, 4, none⟩ = some (.string p.h0) ∧ w'.cell? ⟨W.heap.size + 1, 5, none⟩ = some (.string p.h1) ∧ w'.cell? ⟨W.heap.size + 1 + 1, 0, none⟩ = some (.bool true) ∧ w'.cell? ⟨W.heap.size + 1 + 1, 1, none⟩ = some (.int .i64 m.f) ∧ w'.cell? ⟨W.heap.size + 1 + 1, 2, none⟩ = some (.int .i64 m.t) ∧ w'.cell? ⟨W.heap.size + 1 + 1, 3, none⟩ = some (.int .u8 (m.c : Int)) ∧ w'.cell? ⟨W.heap.size + 1 + 1, 4, none⟩ = some (.slice Ak k ck)) from fun w' hw => by
      obtain ⟨x0, x1, x2, x3, x4, x5, x6, x7, x8, x9, x10, x11, x12⟩ := (hw.blk Hst5.out.r).rules
      obtain ⟨p0, p1, p2, p3, p4, p5⟩ := (hw.blk Hst5.out.p).pos6
      obtain ⟨c0, c1, c2, c3, c4⟩ := (hw.blk Hst5.out.c).five
      exact ⟨x0, x1, x2, x3, x4, x5, x6, x7, x8, x9, x10, x11, x12, p0, p1, p2, p3, p4, p5, c0, c1, c2, c3, c4⟩)
    rcases HX.out with ⟨rfl, -⟩ | ⟨j, hj, rfl, -⟩
    · have ti : decide ((0 : Int) ≤ -1) = false := by decide
      refine wp_region_held_drew (S := fun w' : World => (w'.cell? ⟨W.heap.size, 0, none⟩ = some (.int .i64 r.start.w) ∧ w'.cell? ⟨W.heap.size, 1, none⟩ = some (.int .i64 r.start.h) ∧ w'.cell? ⟨W.heap.size, 2, none⟩ = some (.string r.start.cells) ∧ w'.cell? ⟨W.heap.size, 3, none⟩ = some (.int .i64 r.start.turn) ∧ w'.cell? ⟨W.heap.size, 4, none⟩ = some (.string r.start.h0) ∧ w'.cell? ⟨W.heap.size, 5, none⟩ = some (.string r.start.h1) ∧ w'.cell? ⟨W.heap.size, 6, none⟩ = some (.slice A r.pieces.length cp) ∧ w'.cell? ⟨W.heap.size, 7, none⟩ = some (.bool r.drops) ∧ w'.cell? ⟨W.heap.size, 8, none⟩ = some (.int .u8 r.lose) ∧ w'.cell? ⟨W.heap.size, 9, none⟩ = some (.int .i64 r.line) ∧ w'.cell? ⟨W.heap.size, 10, none⟩ = some (.int .u8 r.reach) ∧ w'.cell? ⟨W.heap.size, 11, none⟩ = some (.bool r.stuck) ∧ w'.cell? ⟨W.heap.size, 12, none⟩ = some (.int .i64 r.plies) ∧ w'.cell? ⟨W.heap.size + 1, 0, none⟩ = some (.int .i64 p.w) ∧ w'.cell? ⟨W.heap.size + 1, 1, none⟩ = some (.int .i64 p.h) ∧ w'.cell? ⟨W.heap.size + 1, 2, none⟩ = some (.string p.cells) ∧ w'.cell? ⟨W.heap.size + 1, 3, none⟩ = some (.int .i64 p.turn) ∧ w'.cell? ⟨W.heap.size + 1, 4, none⟩ = some (.string p.h0) ∧ w'.cell? ⟨W.heap.size + 1, 5, none⟩ = some (.string p.h1) ∧ w'.cell? ⟨W.heap.size + 1 + 1, 0, none⟩ = some (.bool true) ∧ w'.cell? ⟨W.heap.size + 1 + 1, 1, none⟩ = some (.int .i64 m.f) ∧ w'.cell? ⟨W.heap.size + 1 + 1, 2, none⟩ = some (.int .i64 m.t) ∧ w'.cell? ⟨W.heap.size + 1 + 1, 3, none⟩ = some (.int .u8 (m.c : Int)) ∧ w'.cell? ⟨W.heap.size + 1 + 1, 4, none⟩ = some (.slice Ak k ck))) (by kernel_rfl) (HS.out _ Later.rfl.drew) (fun hHeld => ?_)
      refine wpAnyH_take (i := 0) (oi := ⟨some 59, _, _, _, _, _⟩) (v := ?_) rfl (by kernel_rfl) (by kernel_rfl) (by kernel_rfl) (fun _ _ _ h => h) (Or.inl ⟨by rfl, ?_⟩) (by assumption) ?_
      rotate_left 1
      · intro w hSw
        try dsimp only at hSw
        go_simp <;> with_reducible rfl
      try simp only [Act.put, List.setIfInBounds_toArray, List.set_cons_zero, List.set_cons_succ]
      refine wpAnyH_take (i := 1) (oi := ⟨some 60, _, _, _, _, _⟩) (v := ?_) rfl (by kernel_rfl) (by kernel_rfl) (by kernel_rfl) (fun _ _ _ h => h) (Or.inl ⟨by rfl, ?_⟩) (by assumption) ?_
      rotate_left 1
      · intro w hSw
        try dsimp only at hSw
        go_simp <;> with_reducible rfl
      try simp only [Act.put, List.setIfInBounds_toArray, List.set_cons_zero, List.set_cons_succ]
      refine wpAnyH_take (i := 2) (oi := ⟨some 61, _, _, _, _, _⟩) (v := ?_) rfl (by kernel_rfl) (by kernel_rfl) (by kernel_rfl) (fun _ _ _ h => h) (Or.inl ⟨by rfl, ?_⟩) (by assumption) ?_
      rotate_left 1
      · intro w hSw
        try dsimp only at hSw
        go_simp <;> with_reducible rfl
      try simp only [Act.put, List.setIfInBounds_toArray, List.set_cons_zero, List.set_cons_succ]
      refine wpAnyH_take (i := 3) (oi := ⟨some 62, _, _, _, _, _⟩) (v := ?_) rfl (by kernel_rfl) (by kernel_rfl) (by kernel_rfl) (fun _ _ _ h => h) (Or.inl ⟨by rfl, ?_⟩) (by assumption) ?_
      rotate_left 1
      · intro w hSw
        try dsimp only at hSw
        go_simp <;> with_reducible rfl
      try simp only [Act.put, List.setIfInBounds_toArray, List.set_cons_zero, List.set_cons_succ]
      refine wpAnyH_take (i := 4) (oi := ⟨some 63, _, _, _, _, _⟩) (v := ?_) rfl (by kernel_rfl) (by kernel_rfl) (by kernel_rfl) (fun _ _ _ h => h) (Or.inl ⟨by rfl, ?_⟩) (by assumption) ?_
      rotate_left 1
      · intro w hSw
        try dsimp only at hSw
        go_simp <;> with_reducible rfl
      try simp only [Act.put, List.setIfInBounds_toArray, List.set_cons_zero, List.set_cons_succ]
      refine wpAnyH_take (i := 5) (oi := ⟨some 64, _, _, _, _, _⟩) (v := ?_) rfl (by kernel_rfl) (by kernel_rfl) (by kernel_rfl) (fun _ _ _ h => h) (Or.inl ⟨by rfl, ?_⟩) (by assumption) ?_
      rotate_left 1
      · intro w hSw
        try dsimp only at hSw
        go_simp <;> with_reducible rfl
      try simp only [Act.put, List.setIfInBounds_toArray, List.set_cons_zero, List.set_cons_succ]
      refine wpAnyH_take (i := 6) (oi := ⟨some 65, _, _, _, _, _⟩) (v := ?_) rfl (by kernel_rfl) (by kernel_rfl) (by kernel_rfl) (fun _ _ _ h => h) (Or.inl ⟨by rfl, ?_⟩) (by assumption) ?_
      rotate_left 1
      · intro w hSw
        try dsimp only at hSw
        go_simp <;> with_reducible rfl
      try simp only [Act.put, List.setIfInBounds_toArray, List.set_cons_zero, List.set_cons_succ]
      refine wpAnyH_take (i := 7) (oi := ⟨some 66, _, _, _, _, _⟩) (v := undef) rfl (by kernel_rfl) (by kernel_rfl) (by kernel_rfl) (fun _ _ _ h => h) (Or.inr ⟨by rfl, rfl⟩) (by assumption) ?_
      try simp only [Act.put, List.setIfInBounds_toArray, List.set_cons_zero, List.set_cons_succ]
      refine wpAnyH_take (i := 8) (oi := ⟨some 67, _, _, _, _, _⟩) (v := undef) rfl (by kernel_rfl) (by kernel_rfl) (by kernel_rfl) (fun _ _ _ h => h) (Or.inr ⟨by rfl, rfl⟩) (by assumption) ?_
      try simp only [Act.put, List.setIfInBounds_toArray, List.set_cons_zero, List.set_cons_succ]
      refine wpAnyH_take (i := 9) (oi := ⟨some 68, _, _, _, _, _⟩) (v := undef) rfl (by kernel_rfl) (by kernel_rfl) (by kernel_rfl) (fun _ _ _ h => h) (Or.inr ⟨by rfl, rfl⟩) (by assumption) ?_
      try simp only [Act.put, List.setIfInBounds_toArray, List.set_cons_zero, List.set_cons_succ]
      refine wpAnyH_take (i := 10) (oi := ⟨some 69, _, _, _, _, _⟩) (v := undef) rfl (by kernel_rfl) (by kernel_rfl) (by kernel_rfl) (fun _ _ _ h => h) (Or.inr ⟨by rfl, rfl⟩) (by assumption) ?_
      try simp only [Act.put, List.setIfInBounds_toArray, List.set_cons_zero, List.set_cons_succ]
      refine wpAnyH_take (i := 11) (oi := ⟨some 70, _, _, _, _, _⟩) (v := ?_) rfl (by kernel_rfl) (by kernel_rfl) (by kernel_rfl) (fun _ _ _ h => h) (Or.inl ⟨by rfl, ?_⟩) (by assumption) ?_
      rotate_left 1
      · intro w hSw
        try dsimp only at hSw
        go_simp <;> with_reducible rfl
      try simp only [Act.put, List.setIfInBounds_toArray, List.set_cons_zero, List.set_cons_succ]
      refine wpAnyH_take (i := 12) (oi := ⟨some 71, _, _, _, _, _⟩) (v := ?_) rfl (by kernel_rfl) (by kernel_rfl) (by kernel_rfl) (fun _ _ _ h => h) (Or.inl ⟨by rfl, ?_⟩) (by assumption) ?_
      rotate_left 1
      · intro w hSw
        try dsimp only at hSw
        go_simp <;> with_reducible rfl
      try simp only [Act.put, List.setIfInBounds_toArray, List.set_cons_zero, List.set_cons_succ]
      refine wpAnyH_take (i := 13) (oi := ⟨some 72, _, _, _, _, _⟩) (v := undef) rfl (by kernel_rfl) (by kernel_rfl) (by kernel_rfl) (fun _ _ _ h => h) (Or.inr ⟨by rfl, rfl⟩) (by assumption) ?_
      try simp only [Act.put, List.setIfInBounds_toArray, List.set_cons_zero, List.set_cons_succ]
      refine wpAnyH_take (i := 14) (oi := ⟨some 73, _, _, _, _, _⟩) (v := undef) rfl (by kernel_rfl) (by kernel_rfl) (by kernel_rfl) (fun _ _ _ h => h) (Or.inr ⟨by rfl, rfl⟩) (by assumption) ?_
      try simp only [Act.put, List.setIfInBounds_toArray, List.set_cons_zero, List.set_cons_succ]
      refine wpAnyH_take (i := 15) (oi := ⟨some 74, _, _, _, _, _⟩) (v := undef) rfl (by kernel_rfl) (by kernel_rfl) (by kernel_rfl) (fun _ _ _ h => h) (Or.inr ⟨by rfl, rfl⟩) (by assumption) ?_
      try simp only [Act.put, List.setIfInBounds_toArray, List.set_cons_zero, List.set_cons_succ]
      refine wpAnyH_take (i := 16) (oi := ⟨some 75, _, _, _, _, _⟩) (v := undef) rfl (by kernel_rfl) (by kernel_rfl) (by kernel_rfl) (fun _ _ _ h => h) (Or.inr ⟨by rfl, rfl⟩) (by assumption) ?_
      try simp only [Act.put, List.setIfInBounds_toArray, List.set_cons_zero, List.set_cons_succ]
      refine wpAnyH_take (i := 17) (oi := ⟨some 76, _, _, _, _, _⟩) (v := undef) rfl (by kernel_rfl) (by kernel_rfl) (by kernel_rfl) (fun _ _ _ h => h) (Or.inr ⟨by rfl, rfl⟩) (by assumption) ?_
      try simp only [Act.put, List.setIfInBounds_toArray, List.set_cons_zero, List.set_cons_succ]
      refine wpAnyH_take (i := 18) (oi := ⟨some 77, _, _, _, _, _⟩) (v := undef) rfl (by kernel_rfl) (by kernel_rfl) (by kernel_rfl) (fun _ _ _ h => h) (Or.inr ⟨by rfl, rfl⟩) (by assumption) ?_
      try simp only [Act.put, List.setIfInBounds_toArray, List.set_cons_zero, List.set_cons_succ]
      refine wpAnyH_take (i := 19) (oi := ⟨some 78, _, _, _, _, _⟩) (v := undef) rfl (by kernel_rfl) (by kernel_rfl) (by kernel_rfl) (fun _ _ _ h => h) (Or.inr ⟨by rfl, rfl⟩) (by assumption) ?_
      try simp only [Act.put, List.setIfInBounds_toArray, List.set_cons_zero, List.set_cons_succ]
      refine wpAnyH_take (i := 20) (oi := ⟨some 79, _, _, _, _, _⟩) (v := undef) rfl (by kernel_rfl) (by kernel_rfl) (by kernel_rfl) (fun _ _ _ h => h) (Or.inr ⟨by rfl, rfl⟩) (by assumption) ?_
      try simp only [Act.put, List.setIfInBounds_toArray, List.set_cons_zero, List.set_cons_succ]
      refine wpAnyH_take (i := 21) (oi := ⟨some 80, _, _, _, _, _⟩) (v := undef) rfl (by kernel_rfl) (by kernel_rfl) (by kernel_rfl) (fun _ _ _ h => h) (Or.inr ⟨by rfl, rfl⟩) (by assumption) ?_
      try simp only [Act.put, List.setIfInBounds_toArray, List.set_cons_zero, List.set_cons_succ]
      refine wpAnyH_take (i := 22) (oi := ⟨some 81, _, _, _, _, _⟩) (v := undef) rfl (by kernel_rfl) (by kernel_rfl) (by kernel_rfl) (fun _ _ _ h => h) (Or.inr ⟨by rfl, rfl⟩) (by assumption) ?_
      try simp only [Act.put, List.setIfInBounds_toArray, List.set_cons_zero, List.set_cons_succ]
      refine wpAnyH_take (i := 23) (oi := ⟨some 82, _, _, _, _, _⟩) (v := undef) rfl (by kernel_rfl) (by kernel_rfl) (by kernel_rfl) (fun _ _ _ h => h) (Or.inr ⟨by rfl, rfl⟩) (by assumption) ?_
      try simp only [Act.put, List.setIfInBounds_toArray, List.set_cons_zero, List.set_cons_succ]
      refine wpAnyH_take (i := 24) (oi := ⟨some 83, _, _, _, _, _⟩) (v := undef) rfl (by kernel_rfl) (by kernel_rfl) (by kernel_rfl) (fun _ _ _ h => h) (Or.inr ⟨by rfl, rfl⟩) (by assumption) ?_
      try simp only [Act.put, List.setIfInBounds_toArray, List.set_cons_zero, List.set_cons_succ]
      refine wpAnyH_take (i := 25) (oi := ⟨some 84, _, _, _, _, _⟩) (v := undef) rfl (by kernel_rfl) (by kernel_rfl) (by kernel_rfl) (fun _ _ _ h => h) (Or.inr ⟨by rfl, rfl⟩) (by assumption) ?_
      try simp only [Act.put, List.setIfInBounds_toArray, List.set_cons_zero, List.set_cons_succ]
      refine wpAnyH_take (i := 26) (oi := ⟨some 85, _, _, _, _, _⟩) (v := ?_) rfl (by kernel_rfl) (by kernel_rfl) (by kernel_rfl) (fun _ _ _ h => h) (Or.inl ⟨by rfl, ?_⟩) (by assumption) ?_
      rotate_left 1
      · intro w hSw
        try dsimp only at hSw
        go_simp <;> with_reducible rfl
      try simp only [Act.put, List.setIfInBounds_toArray, List.set_cons_zero, List.set_cons_succ]
      refine wpAnyH_take (i := 27) (oi := ⟨some 10, _, _, _, _, _⟩) (v := ?_) rfl (by kernel_rfl) (by kernel_rfl) (by kernel_rfl) (fun _ _ _ h => h) (Or.inl ⟨by rfl, ?_⟩) (by assumption) ?_
      rotate_left 1
      · intro w hSw
        try dsimp only at hSw
        go_simp <;> with_reducible rfl
      try simp only [Act.put, List.setIfInBounds_toArray, List.set_cons_zero, List.set_cons_succ]
      refine wpAnyH_done (by kernel_rfl) ?_ _
      go_wp2_with fail
      go_ret
      exact ⟨by rw [HR.out] <;> rfl, Hst5.out.later.trans (by repeat (first | exact Later.rfl | exact hwq | refine Later.drew ?_))⟩
    · have ti : decide ((0 : Int) ≤ (j : Int)) = true := by simp
      have ti0 : (0 : Int) ≤ (j : Int) := by omega
      refine wp_region_held_drew (S := fun w' : World => (w'.cell? ⟨W.heap.size, 0, none⟩ = some (.int .i64 r.start.w) ∧ w'.cell? ⟨W.heap.size, 1, none⟩ = some (.int .i64 r.start.h) ∧ w'.cell? ⟨W.heap.size, 2, none⟩ = some (.string r.start.cells) ∧ w'.cell? ⟨W.heap.size, 3, none⟩ = some (.int .i64 r.start.turn) ∧ w'.cell? ⟨W.heap.size, 4, none⟩ = some (.string r.start.h0) ∧ w'.cell? ⟨W.heap.size, 5, none⟩ = some (.string r.start.h1) ∧ w'.cell? ⟨W.heap.size, 6, none⟩ = some (.slice A r.pieces.length cp) ∧ w'.cell? ⟨W.heap.size, 7, none⟩ = some (.bool r.drops) ∧ w'.cell? ⟨W.heap.size, 8, none⟩ = some (.int .u8 r.lose) ∧ w'.cell? ⟨W.heap.size, 9, none⟩ = some (.int .i64 r.line) ∧ w'.cell? ⟨W.heap.size, 10, none⟩ = some (.int .u8 r.reach) ∧ w'.cell? ⟨W.heap.size, 11, none⟩ = some (.bool r.stuck) ∧ w'.cell? ⟨W.heap.size, 12, none⟩ = some (.int .i64 r.plies) ∧ w'.cell? ⟨W.heap.size + 1, 0, none⟩ = some (.int .i64 p.w) ∧ w'.cell? ⟨W.heap.size + 1, 1, none⟩ = some (.int .i64 p.h) ∧ w'.cell? ⟨W.heap.size + 1, 2, none⟩ = some (.string p.cells) ∧ w'.cell? ⟨W.heap.size + 1, 3, none⟩ = some (.int .i64 p.turn) ∧ w'.cell? ⟨W.heap.size + 1, 4, none⟩ = some (.string p.h0) ∧ w'.cell? ⟨W.heap.size + 1, 5, none⟩ = some (.string p.h1) ∧ w'.cell? ⟨W.heap.size + 1 + 1, 0, none⟩ = some (.bool true) ∧ w'.cell? ⟨W.heap.size + 1 + 1, 1, none⟩ = some (.int .i64 m.f) ∧ w'.cell? ⟨W.heap.size + 1 + 1, 2, none⟩ = some (.int .i64 m.t) ∧ w'.cell? ⟨W.heap.size + 1 + 1, 3, none⟩ = some (.int .u8 (m.c : Int)) ∧ w'.cell? ⟨W.heap.size + 1 + 1, 4, none⟩ = some (.slice Ak k ck))) (by kernel_rfl) (HS.out _ Later.rfl.drew) (fun hHeld => ?_)
      refine wpAnyH_take (i := 0) (oi := ⟨some 59, _, _, _, _, _⟩) (v := ?_) rfl (by kernel_rfl) (by kernel_rfl) (by kernel_rfl) (fun _ _ _ h => h) (Or.inl ⟨by rfl, ?_⟩) (by assumption) ?_
      rotate_left 1
      · intro w hSw
        try dsimp only at hSw
        go_simp <;> with_reducible rfl
      try simp only [Act.put, List.setIfInBounds_toArray, List.set_cons_zero, List.set_cons_succ]
      refine wpAnyH_take (i := 1) (oi := ⟨some 60, _, _, _, _, _⟩) (v := ?_) rfl (by kernel_rfl) (by kernel_rfl) (by kernel_rfl) (fun _ _ _ h => h) (Or.inl ⟨by rfl, ?_⟩) (by assumption) ?_
      rotate_left 1
      · intro w hSw
        try dsimp only at hSw
        go_simp <;> with_reducible rfl
      try simp only [Act.put, List.setIfInBounds_toArray, List.set_cons_zero, List.set_cons_succ]
      refine wpAnyH_take (i := 2) (oi := ⟨some 61, _, _, _, _, _⟩) (v := ?_) rfl (by kernel_rfl) (by kernel_rfl) (by kernel_rfl) (fun _ _ _ h => h) (Or.inl ⟨by rfl, ?_⟩) (by assumption) ?_
      rotate_left 1
      · intro w hSw
        try dsimp only at hSw
        go_simp <;> with_reducible rfl
      try simp only [Act.put, List.setIfInBounds_toArray, List.set_cons_zero, List.set_cons_succ]
      refine wpAnyH_take (i := 3) (oi := ⟨some 62, _, _, _, _, _⟩) (v := ?_) rfl (by kernel_rfl) (by kernel_rfl) (by kernel_rfl) (fun _ _ _ h => h) (Or.inl ⟨by rfl, ?_⟩) (by assumption) ?_
      rotate_left 1
      · intro w hSw
        try dsimp only at hSw
        go_simp <;> with_reducible rfl
      try simp only [Act.put, List.setIfInBounds_toArray, List.set_cons_zero, List.set_cons_succ]
      refine wpAnyH_take (i := 4) (oi := ⟨some 63, _, _, _, _, _⟩) (v := ?_) rfl (by kernel_rfl) (by kernel_rfl) (by kernel_rfl) (fun _ _ _ h => h) (Or.inl ⟨by rfl, ?_⟩) (by assumption) ?_
      rotate_left 1
      · intro w hSw
        try dsimp only at hSw
        go_simp <;> with_reducible rfl
      try simp only [Act.put, List.setIfInBounds_toArray, List.set_cons_zero, List.set_cons_succ]
      refine wpAnyH_take (i := 5) (oi := ⟨some 64, _, _, _, _, _⟩) (v := ?_) rfl (by kernel_rfl) (by kernel_rfl) (by kernel_rfl) (fun _ _ _ h => h) (Or.inl ⟨by rfl, ?_⟩) (by assumption) ?_
      rotate_left 1
      · intro w hSw
        try dsimp only at hSw
        go_simp <;> with_reducible rfl
      try simp only [Act.put, List.setIfInBounds_toArray, List.set_cons_zero, List.set_cons_succ]
      refine wpAnyH_take (i := 6) (oi := ⟨some 65, _, _, _, _, _⟩) (v := ?_) rfl (by kernel_rfl) (by kernel_rfl) (by kernel_rfl) (fun _ _ _ h => h) (Or.inl ⟨by rfl, ?_⟩) (by assumption) ?_
      rotate_left 1
      · intro w hSw
        try dsimp only at hSw
        go_simp <;> with_reducible rfl
      try simp only [Act.put, List.setIfInBounds_toArray, List.set_cons_zero, List.set_cons_succ]
      refine wpAnyH_take (i := 7) (oi := ⟨some 66, _, _, _, _, _⟩) (v := ?_) rfl (by kernel_rfl) (by kernel_rfl) (by kernel_rfl) (fun _ _ _ h => h) (Or.inl ⟨by rfl, ?_⟩) (by assumption) ?_
      rotate_left 1
      · intro w hSw
        try dsimp only at hSw
        go_simp <;> with_reducible rfl
      try simp only [Act.put, List.setIfInBounds_toArray, List.set_cons_zero, List.set_cons_succ]
      refine wpAnyH_take (i := 8) (oi := ⟨some 67, _, _, _, _, _⟩) (v := ?_) rfl (by kernel_rfl) (by kernel_rfl) (by kernel_rfl) (fun _ _ _ h => h) (Or.inl ⟨by rfl, ?_⟩) (by assumption) ?_
      rotate_left 1
      · intro w hSw
        try dsimp only at hSw
        go_simp <;> with_reducible rfl
      try simp only [Act.put, List.setIfInBounds_toArray, List.set_cons_zero, List.set_cons_succ]
      refine wpAnyH_take (i := 9) (oi := ⟨some 68, _, _, _, _, _⟩) (v := ?_) rfl (by kernel_rfl) (by kernel_rfl) (by kernel_rfl) (fun _ _ _ h => h) (Or.inl ⟨by rfl, ?_⟩) (by assumption) ?_
      rotate_left 1
      · intro w hSw
        try dsimp only at hSw
        go_simp <;> with_reducible rfl
      try simp only [Act.put, List.setIfInBounds_toArray, List.set_cons_zero, List.set_cons_succ]
      refine wpAnyH_take (i := 10) (oi := ⟨some 69, _, _, _, _, _⟩) (v := ?_) rfl (by kernel_rfl) (by kernel_rfl) (by kernel_rfl) (fun _ _ _ h => h) (Or.inl ⟨by rfl, ?_⟩) (by assumption) ?_
      rotate_left 1
      · intro w hSw
        try dsimp only at hSw
        go_simp <;> with_reducible rfl
      try simp only [Act.put, List.setIfInBounds_toArray, List.set_cons_zero, List.set_cons_succ]
      refine wpAnyH_take (i := 11) (oi := ⟨some 70, _, _, _, _, _⟩) (v := ?_) rfl (by kernel_rfl) (by kernel_rfl) (by kernel_rfl) (fun _ _ _ h => h) (Or.inl ⟨by rfl, ?_⟩) (by assumption) ?_
      rotate_left 1
      · intro w hSw
        try dsimp only at hSw
        go_simp <;> with_reducible rfl
      try simp only [Act.put, List.setIfInBounds_toArray, List.set_cons_zero, List.set_cons_succ]
      refine wpAnyH_take (i := 12) (oi := ⟨some 71, _, _, _, _, _⟩) (v := ?_) rfl (by kernel_rfl) (by kernel_rfl) (by kernel_rfl) (fun _ _ _ h => h) (Or.inl ⟨by rfl, ?_⟩) (by assumption) ?_
      rotate_left 1
      · intro w hSw
        try dsimp only at hSw
        go_simp <;> with_reducible rfl
      try simp only [Act.put, List.setIfInBounds_toArray, List.set_cons_zero, List.set_cons_succ]
      refine wpAnyH_take (i := 13) (oi := ⟨some 72, _, _, _, _, _⟩) (v := undef) rfl (by kernel_rfl) (by kernel_rfl) (by kernel_rfl) (fun _ _ _ h => h) (Or.inr ⟨by rfl, rfl⟩) (by assumption) ?_
      try simp only [Act.put, List.setIfInBounds_toArray, List.set_cons_zero, List.set_cons_succ]
      refine wpAnyH_take (i := 14) (oi := ⟨some 73, _, _, _, _, _⟩) (v := undef) rfl (by kernel_rfl) (by kernel_rfl) (by kernel_rfl) (fun _ _ _ h => h) (Or.inr ⟨by rfl, rfl⟩) (by assumption) ?_
      try simp only [Act.put, List.setIfInBounds_toArray, List.set_cons_zero, List.set_cons_succ]
      refine wpAnyH_take (i := 15) (oi := ⟨some 74, _, _, _, _, _⟩) (v := undef) rfl (by kernel_rfl) (by kernel_rfl) (by kernel_rfl) (fun _ _ _ h => h) (Or.inr ⟨by rfl, rfl⟩) (by assumption) ?_
      try simp only [Act.put, List.setIfInBounds_toArray, List.set_cons_zero, List.set_cons_succ]
      refine wpAnyH_take (i := 16) (oi := ⟨some 75, _, _, _, _, _⟩) (v := undef) rfl (by kernel_rfl) (by kernel_rfl) (by kernel_rfl) (fun _ _ _ h => h) (Or.inr ⟨by rfl, rfl⟩) (by assumption) ?_
      try simp only [Act.put, List.setIfInBounds_toArray, List.set_cons_zero, List.set_cons_succ]
      refine wpAnyH_take (i := 17) (oi := ⟨some 76, _, _, _, _, _⟩) (v := undef) rfl (by kernel_rfl) (by kernel_rfl) (by kernel_rfl) (fun _ _ _ h => h) (Or.inr ⟨by rfl, rfl⟩) (by assumption) ?_
      try simp only [Act.put, List.setIfInBounds_toArray, List.set_cons_zero, List.set_cons_succ]
      refine wpAnyH_take (i := 18) (oi := ⟨some 77, _, _, _, _, _⟩) (v := undef) rfl (by kernel_rfl) (by kernel_rfl) (by kernel_rfl) (fun _ _ _ h => h) (Or.inr ⟨by rfl, rfl⟩) (by assumption) ?_
      try simp only [Act.put, List.setIfInBounds_toArray, List.set_cons_zero, List.set_cons_succ]
      refine wpAnyH_take (i := 19) (oi := ⟨some 78, _, _, _, _, _⟩) (v := undef) rfl (by kernel_rfl) (by kernel_rfl) (by kernel_rfl) (fun _ _ _ h => h) (Or.inr ⟨by rfl, rfl⟩) (by assumption) ?_
      try simp only [Act.put, List.setIfInBounds_toArray, List.set_cons_zero, List.set_cons_succ]
      refine wpAnyH_take (i := 20) (oi := ⟨some 79, _, _, _, _, _⟩) (v := undef) rfl (by kernel_rfl) (by kernel_rfl) (by kernel_rfl) (fun _ _ _ h => h) (Or.inr ⟨by rfl, rfl⟩) (by assumption) ?_
      try simp only [Act.put, List.setIfInBounds_toArray, List.set_cons_zero, List.set_cons_succ]
      refine wpAnyH_take (i := 21) (oi := ⟨some 80, _, _, _, _, _⟩) (v := undef) rfl (by kernel_rfl) (by kernel_rfl) (by kernel_rfl) (fun _ _ _ h => h) (Or.inr ⟨by rfl, rfl⟩) (by assumption) ?_
      try simp only [Act.put, List.setIfInBounds_toArray, List.set_cons_zero, List.set_cons_succ]
      refine wpAnyH_take (i := 22) (oi := ⟨some 81, _, _, _, _, _⟩) (v := undef) rfl (by kernel_rfl) (by kernel_rfl) (by kernel_rfl) (fun _ _ _ h => h) (Or.inr ⟨by rfl, rfl⟩) (by assumption) ?_
      try simp only [Act.put, List.setIfInBounds_toArray, List.set_cons_zero, List.set_cons_succ]
      refine wpAnyH_take (i := 23) (oi := ⟨some 82, _, _, _, _, _⟩) (v := undef) rfl (by kernel_rfl) (by kernel_rfl) (by kernel_rfl) (fun _ _ _ h => h) (Or.inr ⟨by rfl, rfl⟩) (by assumption) ?_
      try simp only [Act.put, List.setIfInBounds_toArray, List.set_cons_zero, List.set_cons_succ]
      refine wpAnyH_take (i := 24) (oi := ⟨some 83, _, _, _, _, _⟩) (v := undef) rfl (by kernel_rfl) (by kernel_rfl) (by kernel_rfl) (fun _ _ _ h => h) (Or.inr ⟨by rfl, rfl⟩) (by assumption) ?_
      try simp only [Act.put, List.setIfInBounds_toArray, List.set_cons_zero, List.set_cons_succ]
      refine wpAnyH_take (i := 25) (oi := ⟨some 84, _, _, _, _, _⟩) (v := undef) rfl (by kernel_rfl) (by kernel_rfl) (by kernel_rfl) (fun _ _ _ h => h) (Or.inr ⟨by rfl, rfl⟩) (by assumption) ?_
      try simp only [Act.put, List.setIfInBounds_toArray, List.set_cons_zero, List.set_cons_succ]
      refine wpAnyH_take (i := 26) (oi := ⟨some 85, _, _, _, _, _⟩) (v := ?_) rfl (by kernel_rfl) (by kernel_rfl) (by kernel_rfl) (fun _ _ _ h => h) (Or.inl ⟨by rfl, ?_⟩) (by assumption) ?_
      rotate_left 1
      · intro w hSw
        try dsimp only at hSw
        go_simp <;> with_reducible rfl
      try simp only [Act.put, List.setIfInBounds_toArray, List.set_cons_zero, List.set_cons_succ]
      refine wpAnyH_take (i := 27) (oi := ⟨some 10, _, _, _, _, _⟩) (v := ?_) rfl (by kernel_rfl) (by kernel_rfl) (by kernel_rfl) (fun _ _ _ h => h) (Or.inl ⟨by rfl, ?_⟩) (by assumption) ?_
      rotate_left 1
      · intro w hSw
        try dsimp only at hSw
        go_simp <;> with_reducible rfl
      try simp only [Act.put, List.setIfInBounds_toArray, List.set_cons_zero, List.set_cons_succ]
      refine wpAnyH_done (by kernel_rfl) ?_ _
      go_wp2_with fail
      go_ret
      exact ⟨by rw [HR.out] <;> rfl, Hst5.out.later.trans (by repeat (first | exact Later.rfl | exact hwq | refine Later.drew ?_))⟩
set_option maxHeartbeats 16000000 in
set_option maxRecDepth 100000 in
theorem pshows_own_one (r : RulesD) (A : Option Addr) (cp : Nat) (wn : Int) (d : Nat) (hd : d < 9) (p : Pos) (m : Mv) (bk ok ck : Nat) (kd : CertD) (Ad : Option Addr) (cd : Nat) (W : World) (R : Bool) (hP : PiecesAt W W.heap.size A r.pieces) (hok : OfOk r p) (hop : endsN r p = 0) (htn : p.turn = wn)
    (hkid : ∀ w', Later W w' → (w'.cell? ⟨bk, ok, none⟩ = some (.bool kd.s) ∧ w'.cell? ⟨bk, ok + 1, none⟩ = some (.int .i64 kd.m.f) ∧ w'.cell? ⟨bk, ok + 2, none⟩ = some (.int .i64 kd.m.t) ∧ w'.cell? ⟨bk, ok + 3, none⟩ = some (.int .u8 (kd.m.c : Int)) ∧ w'.cell? ⟨bk, ok + 4, none⟩ = some (.slice Ad kd.kids.length cd)))
    (hno : m ∉ movesL r p → R = false) (hyes : m ∈ movesL r p → R = showsB r wn d (madeP r p m) kd)
    (ih : ∀ q, OfOk r q → ∀ w, Later W w → Calls Tryz.prog 54 #[.agg #[.int .i64 r.start.w, .int .i64 r.start.h, .string r.start.cells, .int .i64 r.start.turn, .string r.start.h0, .string r.start.h1, .slice A r.pieces.length cp, .bool r.drops, .int .u8 r.lose, .int .i64 r.line, .int .u8 r.reach, .bool r.stuck, .int .i64 r.plies], .agg #[.int .i64 q.w, .int .i64 q.h, .string q.cells, .int .i64 q.turn, .string q.h0, .string q.h1], .int .i64 (d : Int), .int .i64 wn, .agg #[.bool kd.s, .int .i64 kd.m.f, .int .i64 kd.m.t, .int .u8 (kd.m.c : Int), .slice Ad kd.kids.length cd]] w fun e w' => e = .returned (.bool (showsB r wn d q kd)) ∧ Later w w') :
    Calls Tryz.prog 54 #[.agg #[.int .i64 r.start.w, .int .i64 r.start.h, .string r.start.cells, .int .i64 r.start.turn, .string r.start.h0, .string r.start.h1, .slice A r.pieces.length cp, .bool r.drops, .int .u8 r.lose, .int .i64 r.line, .int .u8 r.reach, .bool r.stuck, .int .i64 r.plies], .agg #[.int .i64 p.w, .int .i64 p.h, .string p.cells, .int .i64 p.turn, .string p.h0, .string p.h1], .int .i64 ((d : Int) + 1), .int .i64 wn, .agg #[.bool true, .int .i64 m.f, .int .i64 m.t, .int .u8 (m.c : Int), .slice (some ⟨bk, ok, none⟩) 1 ck]] W fun e w' => e = .returned (.bool R) ∧ Later W w' := by
  have Hst := hide (ShSt.first (W := W) (R := #[.int .i64 r.start.w, .int .i64 r.start.h, .string r.start.cells, .int .i64 r.start.turn, .string r.start.h0, .string r.start.h1, .slice A r.pieces.length cp, .bool r.drops, .int .u8 r.lose, .int .i64 r.line, .int .u8 r.reach, .bool r.stuck, .int .i64 r.plies]) (P := #[.int .i64 p.w, .int .i64 p.h, .string p.cells, .int .i64 p.turn, .string p.h0, .string p.h1]) (C := #[.bool true, .int .i64 m.f, .int .i64 m.t, .int .u8 (m.c : Int), .slice (some ⟨bk, ok, none⟩) 1 ck]))
  have Hnx := hide (fun w (hw : Later W w) => nextN_any r A cp p w hok ((hP.below hw).more hw.size))
  simp only [hop] at Hnx
  have hll : (movesL r p).length ≤ 10000 := movesL_len hok.pos
  have tz : (((d : Int) + 1) == 0) = false := by simp; omega
  have tw : IntKind.i64.wrap ((d : Int) + 1 - 1) = (d : Int) := by rw [show (d : Int) + 1 - 1 = d by omega]; exact IntWalk.i64_in _ (by omega)
  have tw2 : IntKind.i64.wrap (d : Int) = (d : Int) := IntWalk.i64_in _ (by omega)
  have t3 : (p.turn == wn) = true := by rw [beq_dec]; exact decide_eq_true htn
  have Hkid := hide hkid
  have HY := hide (show ∀ (L : List Mv) (Q : List Pos), movesL r p = L → nextL r p = Q → ∀ k (h : k < L.length) (h2 : k < Q.length), L[k] = m → ∃ q, Q[k] = q ∧ OfOk r q ∧ R = showsB r wn d q kd from fun L Q hL hQ k h h2 hm => by
    subst hL hQ
    have hmem : m ∈ movesL r p := by rw [← hm]; exact List.getElem_mem h
    refine ⟨madeP r p m, by simp [nextL, hm], (every_made hok (moves_every hmem)).2, hyes hmem⟩)
  have HN := hide hno
  have Hih0 := hide ih
  have hnl : (nextL r p).length = (movesL r p).length := by simp [nextL]
  obtain ⟨L, hL⟩ : ∃ L, movesL r p = L := ⟨_, rfl⟩
  obtain ⟨Q, hQ⟩ : ∃ Q, nextL r p = Q := ⟨_, rfl⟩
  have HY := hide (HY.out L Q hL hQ)
  simp only [hL, hQ] at Hnx hll HN hnl
  have Hnl := hide hnl
  clear hP hok hop htn hno hyes ih hkid hL hQ hnl
  go_enter Tryz.func54, Tryz.ntmps54
  go_upto_region 1 with (fail)
  obtain ⟨w0, hw0⟩ : ∃ w0, (((W.alloc (.cells #[.int .i64 r.start.w, .int .i64 r.start.h, .string r.start.cells, .int .i64 r.start.turn, .string r.start.h0, .string r.start.h1, .slice A r.pieces.length cp, .bool r.drops, .int .u8 r.lose, .int .i64 r.line, .int .u8 r.reach, .bool r.stuck, .int .i64 r.plies] 27)).alloc (.cells #[.int .i64 p.w, .int .i64 p.h, .string p.cells, .int .i64 p.turn, .string p.h0, .string p.h1] 24)).alloc (.cells #[.bool true, .int .i64 m.f, .int .i64 m.t, .int .u8 (m.c : Int), .slice (some ⟨bk, ok, none⟩) 1 ck] 58)) = w0 := ⟨_, rfl⟩
  rw [hw0] at Hst ⊢
  clear hw0
  obtain ⟨x0, x1, x2, x3, x4, x5, x6, x7, x8, x9, x10, x11, x12⟩ := Hst.out.r.rules
  obtain ⟨p0, p1, p2, p3, p4, p5⟩ := Hst.out.p.pos6
  go_upto_region 2 with (go_at_call 44; refine (Hnx.out _ Hst.out.later).mono ?_; rintro e w2 ⟨A1, cc1, A2, cc2, rfl, hcm, hcq, hw2⟩)
  have Hst2 := hide (Hst.out.later_ hw2)
  have Hcm := hide hcm
  have Hcq := hide hcq
  clear hcm hcq hw2 Hst x0 x1 x2 x3 x4 x5 x6 x7 x8 x9 x10 x11 x12 p0 p1 p2 p3 p4 p5
  obtain ⟨p0, p1, p2, p3, p4, p5⟩ := Hst2.out.p.pos6
  obtain ⟨c0, c1, c2, c3, c4⟩ := Hst2.out.c.five
  have Hix := hide (fun w (hw : Later w2 w) => index_mv A1 cc1 L m w (by omega) ((Hcm.out.below hw).more hw.size))
  go_upto_region 6 with (go_at_call 62; refine (Hix.out _ Later.rfl).mono ?_; rintro e w5 hx; obtain ⟨ix, rfl, hw5, hx⟩ := hx.cases)
  have Hst5 := hide (Hst2.out.later_ hw5)
  have HX := hide hx
  have Hcq5 := hide ((Hcq.out.below hw5).more hw5.size)
  clear hw5 hx Hst2 Hix Hcm Hcq tz t3 p0 p1 p2 p3 p4 p5 c0 c1 c2 c3 c4
  rcases HX.out with ⟨rfl, hm⟩ | ⟨k, hk, rfl, hm⟩
  · have HR := hide (HN.out hm)
    have ti : decide ((0 : Int) ≤ -1) = false := by decide
    clear hm HY HN
    have HS := hide (show ∀ w' : World, Later w5 w' → (w'.cell? ⟨W.heap.size, 0, none⟩ = some (.int .i64 r.start.w) ∧ w'.cell? ⟨W.heap.size, 1, none⟩ = some (.int .i64 r.start.h) ∧ w'.cell? ⟨W.heap.size, 2, none⟩ = some (.string r.start.cells) ∧ w'.cell? ⟨W.heap.size, 3, none⟩ = some (.int .i64 r.start.turn) ∧ w'.cell? ⟨W.heap.size, 4, none⟩ = some (.string r.start.h0) ∧ w'.cell? ⟨W.heap.size, 5, none⟩ = some (.string r.start.h1) ∧ w'.cell? ⟨W.heap.size, 6, none⟩ = some (.slice A r.pieces.length cp) ∧ w'.cell? ⟨W.heap.size, 7, none⟩ = some (.bool r.drops) ∧ w'.cell? ⟨W.heap.size, 8, none⟩ = some (.int .u8 r.lose) ∧ w'.cell? ⟨W.heap.size, 9, none⟩ = some (.int .i64 r.line) ∧ w'.cell? ⟨W.heap.size, 10, none⟩ = some (.int .u8 r.reach) ∧ w'.cell? ⟨W.heap.size, 11, none⟩ = some (.bool r.stuck) ∧ w'.cell? ⟨W.heap.size, 12, none⟩ = some (.int .i64 r.plies) ∧ w'.cell? ⟨W.heap.size + 1, 0, none⟩ = some (.int .i64 p.w) ∧ w'.cell? ⟨W.heap.size + 1, 1, none⟩ = some (.int .i64 p.h) ∧ w'.cell? ⟨W.heap.size + 1, 2, none⟩ = some (.string p.cells) ∧ w'.cell? ⟨W.heap.size + 1, 3, none⟩ = some (.int .i64 p.turn) ∧ w'.cell? ⟨W.heap.size + 1, 4, none⟩ = some (.string p.h0) ∧ w'.cell? ⟨W.heap.size + 1, 5, none⟩ = some (.string p.h1) ∧ w'.cell? ⟨W.heap.size + 1 + 1, 0, none⟩ = some (.bool true) ∧ w'.cell? ⟨W.heap.size + 1 + 1, 1, none⟩ = some (.int .i64 m.f) ∧ w'.cell? ⟨W.heap.size + 1 + 1, 2, none⟩ = some (.int .i64 m.t) ∧ w'.cell? ⟨W.heap.size + 1 + 1, 3, none⟩ = some (.int .u8 (m.c : Int)) ∧ w'.cell? ⟨W.heap.size + 1 + 1, 4, none⟩ = some (.slice (some ⟨bk, ok, none⟩) 1 ck) ∧ w'.cell? ⟨bk, ok, none⟩ = some (.bool kd.s) ∧ w'.cell? ⟨bk, ok + 1, none⟩ = some (.int .i64 kd.m.f) ∧ w'.cell? ⟨bk, ok + 2, none⟩ = some (.int .i64 kd.m.t) ∧ w'.cell? ⟨bk, ok + 3, none⟩ = some (.int .u8 (kd.m.c : Int)) ∧ w'.cell? ⟨bk, ok + 4, none⟩ = some (.slice Ad kd.kids.length cd)) from fun w' hw => by
      obtain ⟨x0, x1, x2, x3, x4, x5, x6, x7, x8, x9, x10, x11, x12⟩ := (hw.blk Hst5.out.r).rules
      obtain ⟨p0, p1, p2, p3, p4, p5⟩ := (hw.blk Hst5.out.p).pos6
      obtain ⟨c0, c1, c2, c3, c4⟩ := (hw.blk Hst5.out.c).five
      obtain ⟨k0, k1, k2, k3, k4⟩ := Hkid.out w' (Hst5.out.later.trans hw)
      exact ⟨x0, x1, x2, x3, x4, x5, x6, x7, x8, x9, x10, x11, x12, p0, p1, p2, p3, p4, p5, c0, c1, c2, c3, c4, k0, k1, k2, k3, k4⟩)
    refine wp_region_held_drew (S := fun w' : World => (w'.cell? ⟨W.heap.size, 0, none⟩ = some (.int .i64 r.start.w) ∧ w'.cell? ⟨W.heap.size, 1, none⟩ = some (.int .i64 r.start.h) ∧ w'.cell? ⟨W.heap.size, 2, none⟩ = some (.string r.start.cells) ∧ w'.cell? ⟨W.heap.size, 3, none⟩ = some (.int .i64 r.start.turn) ∧ w'.cell? ⟨W.heap.size, 4, none⟩ = some (.string r.start.h0) ∧ w'.cell? ⟨W.heap.size, 5, none⟩ = some (.string r.start.h1) ∧ w'.cell? ⟨W.heap.size, 6, none⟩ = some (.slice A r.pieces.length cp) ∧ w'.cell? ⟨W.heap.size, 7, none⟩ = some (.bool r.drops) ∧ w'.cell? ⟨W.heap.size, 8, none⟩ = some (.int .u8 r.lose) ∧ w'.cell? ⟨W.heap.size, 9, none⟩ = some (.int .i64 r.line) ∧ w'.cell? ⟨W.heap.size, 10, none⟩ = some (.int .u8 r.reach) ∧ w'.cell? ⟨W.heap.size, 11, none⟩ = some (.bool r.stuck) ∧ w'.cell? ⟨W.heap.size, 12, none⟩ = some (.int .i64 r.plies) ∧ w'.cell? ⟨W.heap.size + 1, 0, none⟩ = some (.int .i64 p.w) ∧ w'.cell? ⟨W.heap.size + 1, 1, none⟩ = some (.int .i64 p.h) ∧ w'.cell? ⟨W.heap.size + 1, 2, none⟩ = some (.string p.cells) ∧ w'.cell? ⟨W.heap.size + 1, 3, none⟩ = some (.int .i64 p.turn) ∧ w'.cell? ⟨W.heap.size + 1, 4, none⟩ = some (.string p.h0) ∧ w'.cell? ⟨W.heap.size + 1, 5, none⟩ = some (.string p.h1) ∧ w'.cell? ⟨W.heap.size + 1 + 1, 0, none⟩ = some (.bool true) ∧ w'.cell? ⟨W.heap.size + 1 + 1, 1, none⟩ = some (.int .i64 m.f) ∧ w'.cell? ⟨W.heap.size + 1 + 1, 2, none⟩ = some (.int .i64 m.t) ∧ w'.cell? ⟨W.heap.size + 1 + 1, 3, none⟩ = some (.int .u8 (m.c : Int)) ∧ w'.cell? ⟨W.heap.size + 1 + 1, 4, none⟩ = some (.slice (some ⟨bk, ok, none⟩) 1 ck) ∧ w'.cell? ⟨bk, ok, none⟩ = some (.bool kd.s) ∧ w'.cell? ⟨bk, ok + 1, none⟩ = some (.int .i64 kd.m.f) ∧ w'.cell? ⟨bk, ok + 2, none⟩ = some (.int .i64 kd.m.t) ∧ w'.cell? ⟨bk, ok + 3, none⟩ = some (.int .u8 (kd.m.c : Int)) ∧ w'.cell? ⟨bk, ok + 4, none⟩ = some (.slice Ad kd.kids.length cd))) (by kernel_rfl) (HS.out _ Later.rfl.drew) (fun hHeld => ?_)
    refine wpAnyH_take (i := 0) (oi := ⟨some 59, _, _, _, _, _⟩) (v := ?_) rfl (by kernel_rfl) (by kernel_rfl) (by kernel_rfl) (fun _ _ _ h => h) (Or.inl ⟨by rfl, ?_⟩) (by assumption) ?_
    rotate_left 1
    · intro w hSw
      try dsimp only at hSw
      go_simp <;> with_reducible rfl
    try simp only [Act.put, List.setIfInBounds_toArray, List.set_cons_zero, List.set_cons_succ]
    refine wpAnyH_take (i := 1) (oi := ⟨some 60, _, _, _, _, _⟩) (v := ?_) rfl (by kernel_rfl) (by kernel_rfl) (by kernel_rfl) (fun _ _ _ h => h) (Or.inl ⟨by rfl, ?_⟩) (by assumption) ?_
    rotate_left 1
    · intro w hSw
      try dsimp only at hSw
      go_simp <;> with_reducible rfl
    try simp only [Act.put, List.setIfInBounds_toArray, List.set_cons_zero, List.set_cons_succ]
    refine wpAnyH_take (i := 2) (oi := ⟨some 61, _, _, _, _, _⟩) (v := ?_) rfl (by kernel_rfl) (by kernel_rfl) (by kernel_rfl) (fun _ _ _ h => h) (Or.inl ⟨by rfl, ?_⟩) (by assumption) ?_
    rotate_left 1
    · intro w hSw
      try dsimp only at hSw
      go_simp <;> with_reducible rfl
    try simp only [Act.put, List.setIfInBounds_toArray, List.set_cons_zero, List.set_cons_succ]
    refine wpAnyH_take (i := 3) (oi := ⟨some 62, _, _, _, _, _⟩) (v := ?_) rfl (by kernel_rfl) (by kernel_rfl) (by kernel_rfl) (fun _ _ _ h => h) (Or.inl ⟨by rfl, ?_⟩) (by assumption) ?_
    rotate_left 1
    · intro w hSw
      try dsimp only at hSw
      go_simp <;> with_reducible rfl
    try simp only [Act.put, List.setIfInBounds_toArray, List.set_cons_zero, List.set_cons_succ]
    refine wpAnyH_take (i := 4) (oi := ⟨some 63, _, _, _, _, _⟩) (v := ?_) rfl (by kernel_rfl) (by kernel_rfl) (by kernel_rfl) (fun _ _ _ h => h) (Or.inl ⟨by rfl, ?_⟩) (by assumption) ?_
    rotate_left 1
    · intro w hSw
      try dsimp only at hSw
      go_simp <;> with_reducible rfl
    try simp only [Act.put, List.setIfInBounds_toArray, List.set_cons_zero, List.set_cons_succ]
    refine wpAnyH_take (i := 5) (oi := ⟨some 64, _, _, _, _, _⟩) (v := ?_) rfl (by kernel_rfl) (by kernel_rfl) (by kernel_rfl) (fun _ _ _ h => h) (Or.inl ⟨by rfl, ?_⟩) (by assumption) ?_
    rotate_left 1
    · intro w hSw
      try dsimp only at hSw
      go_simp <;> with_reducible rfl
    try simp only [Act.put, List.setIfInBounds_toArray, List.set_cons_zero, List.set_cons_succ]
    refine wpAnyH_take (i := 6) (oi := ⟨some 65, _, _, _, _, _⟩) (v := ?_) rfl (by kernel_rfl) (by kernel_rfl) (by kernel_rfl) (fun _ _ _ h => h) (Or.inl ⟨by rfl, ?_⟩) (by assumption) ?_
    rotate_left 1
    · intro w hSw
      try dsimp only at hSw
      go_simp <;> with_reducible rfl
    try simp only [Act.put, List.setIfInBounds_toArray, List.set_cons_zero, List.set_cons_succ]
    refine wpAnyH_take (i := 7) (oi := ⟨some 66, _, _, _, _, _⟩) (v := undef) rfl (by kernel_rfl) (by kernel_rfl) (by kernel_rfl) (fun _ _ _ h => h) (Or.inr ⟨by rfl, rfl⟩) (by assumption) ?_
    try simp only [Act.put, List.setIfInBounds_toArray, List.set_cons_zero, List.set_cons_succ]
    refine wpAnyH_take (i := 8) (oi := ⟨some 67, _, _, _, _, _⟩) (v := undef) rfl (by kernel_rfl) (by kernel_rfl) (by kernel_rfl) (fun _ _ _ h => h) (Or.inr ⟨by rfl, rfl⟩) (by assumption) ?_
    try simp only [Act.put, List.setIfInBounds_toArray, List.set_cons_zero, List.set_cons_succ]
    refine wpAnyH_take (i := 9) (oi := ⟨some 68, _, _, _, _, _⟩) (v := undef) rfl (by kernel_rfl) (by kernel_rfl) (by kernel_rfl) (fun _ _ _ h => h) (Or.inr ⟨by rfl, rfl⟩) (by assumption) ?_
    try simp only [Act.put, List.setIfInBounds_toArray, List.set_cons_zero, List.set_cons_succ]
    refine wpAnyH_take (i := 10) (oi := ⟨some 69, _, _, _, _, _⟩) (v := undef) rfl (by kernel_rfl) (by kernel_rfl) (by kernel_rfl) (fun _ _ _ h => h) (Or.inr ⟨by rfl, rfl⟩) (by assumption) ?_
    try simp only [Act.put, List.setIfInBounds_toArray, List.set_cons_zero, List.set_cons_succ]
    refine wpAnyH_take (i := 11) (oi := ⟨some 70, _, _, _, _, _⟩) (v := ?_) rfl (by kernel_rfl) (by kernel_rfl) (by kernel_rfl) (fun _ _ _ h => h) (Or.inl ⟨by rfl, ?_⟩) (by assumption) ?_
    rotate_left 1
    · intro w hSw
      try dsimp only at hSw
      go_simp <;> with_reducible rfl
    try simp only [Act.put, List.setIfInBounds_toArray, List.set_cons_zero, List.set_cons_succ]
    refine wpAnyH_take (i := 12) (oi := ⟨some 71, _, _, _, _, _⟩) (v := ?_) rfl (by kernel_rfl) (by kernel_rfl) (by kernel_rfl) (fun _ _ _ h => h) (Or.inl ⟨by rfl, ?_⟩) (by assumption) ?_
    rotate_left 1
    · intro w hSw
      try dsimp only at hSw
      go_simp <;> with_reducible rfl
    try simp only [Act.put, List.setIfInBounds_toArray, List.set_cons_zero, List.set_cons_succ]
    refine wpAnyH_take (i := 13) (oi := ⟨some 72, _, _, _, _, _⟩) (v := undef) rfl (by kernel_rfl) (by kernel_rfl) (by kernel_rfl) (fun _ _ _ h => h) (Or.inr ⟨by rfl, rfl⟩) (by assumption) ?_
    try simp only [Act.put, List.setIfInBounds_toArray, List.set_cons_zero, List.set_cons_succ]
    refine wpAnyH_take (i := 14) (oi := ⟨some 73, _, _, _, _, _⟩) (v := undef) rfl (by kernel_rfl) (by kernel_rfl) (by kernel_rfl) (fun _ _ _ h => h) (Or.inr ⟨by rfl, rfl⟩) (by assumption) ?_
    try simp only [Act.put, List.setIfInBounds_toArray, List.set_cons_zero, List.set_cons_succ]
    refine wpAnyH_take (i := 15) (oi := ⟨some 74, _, _, _, _, _⟩) (v := undef) rfl (by kernel_rfl) (by kernel_rfl) (by kernel_rfl) (fun _ _ _ h => h) (Or.inr ⟨by rfl, rfl⟩) (by assumption) ?_
    try simp only [Act.put, List.setIfInBounds_toArray, List.set_cons_zero, List.set_cons_succ]
    refine wpAnyH_take (i := 16) (oi := ⟨some 75, _, _, _, _, _⟩) (v := undef) rfl (by kernel_rfl) (by kernel_rfl) (by kernel_rfl) (fun _ _ _ h => h) (Or.inr ⟨by rfl, rfl⟩) (by assumption) ?_
    try simp only [Act.put, List.setIfInBounds_toArray, List.set_cons_zero, List.set_cons_succ]
    refine wpAnyH_take (i := 17) (oi := ⟨some 76, _, _, _, _, _⟩) (v := undef) rfl (by kernel_rfl) (by kernel_rfl) (by kernel_rfl) (fun _ _ _ h => h) (Or.inr ⟨by rfl, rfl⟩) (by assumption) ?_
    try simp only [Act.put, List.setIfInBounds_toArray, List.set_cons_zero, List.set_cons_succ]
    refine wpAnyH_take (i := 18) (oi := ⟨some 77, _, _, _, _, _⟩) (v := undef) rfl (by kernel_rfl) (by kernel_rfl) (by kernel_rfl) (fun _ _ _ h => h) (Or.inr ⟨by rfl, rfl⟩) (by assumption) ?_
    try simp only [Act.put, List.setIfInBounds_toArray, List.set_cons_zero, List.set_cons_succ]
    refine wpAnyH_take (i := 19) (oi := ⟨some 78, _, _, _, _, _⟩) (v := undef) rfl (by kernel_rfl) (by kernel_rfl) (by kernel_rfl) (fun _ _ _ h => h) (Or.inr ⟨by rfl, rfl⟩) (by assumption) ?_
    try simp only [Act.put, List.setIfInBounds_toArray, List.set_cons_zero, List.set_cons_succ]
    refine wpAnyH_take (i := 20) (oi := ⟨some 79, _, _, _, _, _⟩) (v := undef) rfl (by kernel_rfl) (by kernel_rfl) (by kernel_rfl) (fun _ _ _ h => h) (Or.inr ⟨by rfl, rfl⟩) (by assumption) ?_
    try simp only [Act.put, List.setIfInBounds_toArray, List.set_cons_zero, List.set_cons_succ]
    refine wpAnyH_take (i := 21) (oi := ⟨some 80, _, _, _, _, _⟩) (v := undef) rfl (by kernel_rfl) (by kernel_rfl) (by kernel_rfl) (fun _ _ _ h => h) (Or.inr ⟨by rfl, rfl⟩) (by assumption) ?_
    try simp only [Act.put, List.setIfInBounds_toArray, List.set_cons_zero, List.set_cons_succ]
    refine wpAnyH_take (i := 22) (oi := ⟨some 81, _, _, _, _, _⟩) (v := undef) rfl (by kernel_rfl) (by kernel_rfl) (by kernel_rfl) (fun _ _ _ h => h) (Or.inr ⟨by rfl, rfl⟩) (by assumption) ?_
    try simp only [Act.put, List.setIfInBounds_toArray, List.set_cons_zero, List.set_cons_succ]
    refine wpAnyH_take (i := 23) (oi := ⟨some 82, _, _, _, _, _⟩) (v := undef) rfl (by kernel_rfl) (by kernel_rfl) (by kernel_rfl) (fun _ _ _ h => h) (Or.inr ⟨by rfl, rfl⟩) (by assumption) ?_
    try simp only [Act.put, List.setIfInBounds_toArray, List.set_cons_zero, List.set_cons_succ]
    refine wpAnyH_take (i := 24) (oi := ⟨some 83, _, _, _, _, _⟩) (v := undef) rfl (by kernel_rfl) (by kernel_rfl) (by kernel_rfl) (fun _ _ _ h => h) (Or.inr ⟨by rfl, rfl⟩) (by assumption) ?_
    try simp only [Act.put, List.setIfInBounds_toArray, List.set_cons_zero, List.set_cons_succ]
    refine wpAnyH_take (i := 25) (oi := ⟨some 84, _, _, _, _, _⟩) (v := undef) rfl (by kernel_rfl) (by kernel_rfl) (by kernel_rfl) (fun _ _ _ h => h) (Or.inr ⟨by rfl, rfl⟩) (by assumption) ?_
    try simp only [Act.put, List.setIfInBounds_toArray, List.set_cons_zero, List.set_cons_succ]
    refine wpAnyH_take (i := 26) (oi := ⟨some 85, _, _, _, _, _⟩) (v := ?_) rfl (by kernel_rfl) (by kernel_rfl) (by kernel_rfl) (fun _ _ _ h => h) (Or.inl ⟨by rfl, ?_⟩) (by assumption) ?_
    rotate_left 1
    · intro w hSw
      try dsimp only at hSw
      go_simp <;> with_reducible rfl
    try simp only [Act.put, List.setIfInBounds_toArray, List.set_cons_zero, List.set_cons_succ]
    refine wpAnyH_take (i := 27) (oi := ⟨some 10, _, _, _, _, _⟩) (v := ?_) rfl (by kernel_rfl) (by kernel_rfl) (by kernel_rfl) (fun _ _ _ h => h) (Or.inl ⟨by rfl, ?_⟩) (by assumption) ?_
    rotate_left 1
    · intro w hSw
      try dsimp only at hSw
      go_simp <;> with_reducible rfl
    try simp only [Act.put, List.setIfInBounds_toArray, List.set_cons_zero, List.set_cons_succ]
    refine wpAnyH_done (by kernel_rfl) ?_ _
    go_wp2_with fail
    go_ret
    exact ⟨by rw [HR.out] <;> rfl, Hst5.out.later.trans (by repeat (first | exact Later.rfl | exact hwq | refine Later.drew ?_))⟩
  · have hk2 : k < Q.length := by rw [Hnl.out]; exact hk
    obtain ⟨q, hq, hqo, hR⟩ := HY.out k hk hk2 hm
    have Hih := hide (fun w hw => Hih0.out q hqo w hw)
    obtain ⟨v, hv⟩ : ∃ v, showsB r wn d q kd = v := ⟨_, rfl⟩
    rw [hv] at hR
    simp only [hv] at Hih
    have HR := hide hR
    obtain ⟨bq, oq, rfl, hbq, q0, q1, q2, q3, q4, q5⟩ := qAt Hcq5.out hk2
    have ti : decide ((0 : Int) ≤ (k : Int)) = true := by simp
    have ti0 : (0 : Int) ≤ (k : Int) := by omega
    have ti1 : (k : Int) < (Q.length : Int) := by omega
    have Hq := hide hq
    clear hm hqo hv HY HN hR hq q0 q1 q2 q3 q4 q5 hbq
    have HS := hide (show ∀ w' : World, Later w5 w' → (w'.cell? ⟨W.heap.size, 0, none⟩ = some (.int .i64 r.start.w) ∧ w'.cell? ⟨W.heap.size, 1, none⟩ = some (.int .i64 r.start.h) ∧ w'.cell? ⟨W.heap.size, 2, none⟩ = some (.string r.start.cells) ∧ w'.cell? ⟨W.heap.size, 3, none⟩ = some (.int .i64 r.start.turn) ∧ w'.cell? ⟨W.heap.size, 4, none⟩ = some (.string r.start.h0) ∧ w'.cell? ⟨W.heap.size, 5, none⟩ = some (.string r.start.h1) ∧ w'.cell? ⟨W.heap.size, 6, none⟩ = some (.slice A r.pieces.length cp) ∧ w'.cell? ⟨W.heap.size, 7, none⟩ = some (.bool r.drops) ∧ w'.cell? ⟨W.heap.size, 8, none⟩ = some (.int .u8 r.lose) ∧ w'.cell? ⟨W.heap.size, 9, none⟩ = some (.int .i64 r.line) ∧ w'.cell? ⟨W.heap.size, 10, none⟩ = some (.int .u8 r.reach) ∧ w'.cell? ⟨W.heap.size, 11, none⟩ = some (.bool r.stuck) ∧ w'.cell? ⟨W.heap.size, 12, none⟩ = some (.int .i64 r.plies) ∧ w'.cell? ⟨W.heap.size + 1, 0, none⟩ = some (.int .i64 p.w) ∧ w'.cell? ⟨W.heap.size + 1, 1, none⟩ = some (.int .i64 p.h) ∧ w'.cell? ⟨W.heap.size + 1, 2, none⟩ = some (.string p.cells) ∧ w'.cell? ⟨W.heap.size + 1, 3, none⟩ = some (.int .i64 p.turn) ∧ w'.cell? ⟨W.heap.size + 1, 4, none⟩ = some (.string p.h0) ∧ w'.cell? ⟨W.heap.size + 1, 5, none⟩ = some (.string p.h1) ∧ w'.cell? ⟨W.heap.size + 1 + 1, 0, none⟩ = some (.bool true) ∧ w'.cell? ⟨W.heap.size + 1 + 1, 1, none⟩ = some (.int .i64 m.f) ∧ w'.cell? ⟨W.heap.size + 1 + 1, 2, none⟩ = some (.int .i64 m.t) ∧ w'.cell? ⟨W.heap.size + 1 + 1, 3, none⟩ = some (.int .u8 (m.c : Int)) ∧ w'.cell? ⟨W.heap.size + 1 + 1, 4, none⟩ = some (.slice (some ⟨bk, ok, none⟩) 1 ck) ∧ w'.cell? ⟨bk, ok, none⟩ = some (.bool kd.s) ∧ w'.cell? ⟨bk, ok + 1, none⟩ = some (.int .i64 kd.m.f) ∧ w'.cell? ⟨bk, ok + 2, none⟩ = some (.int .i64 kd.m.t) ∧ w'.cell? ⟨bk, ok + 3, none⟩ = some (.int .u8 (kd.m.c : Int)) ∧ w'.cell? ⟨bk, ok + 4, none⟩ = some (.slice Ad kd.kids.length cd) ∧ w'.cell? ⟨bq, oq + k * 6, none⟩ = some (.int .i64 q.w) ∧ w'.cell? ⟨bq, oq + k * 6 + 1, none⟩ = some (.int .i64 q.h) ∧ w'.cell? ⟨bq, oq + k * 6 + 2, none⟩ = some (.string q.cells) ∧ w'.cell? ⟨bq, oq + k * 6 + 3, none⟩ = some (.int .i64 q.turn) ∧ w'.cell? ⟨bq, oq + k * 6 + 4, none⟩ = some (.string q.h0) ∧ w'.cell? ⟨bq, oq + k * 6 + 5, none⟩ = some (.string q.h1)) from fun w' hw => by
      obtain ⟨x0, x1, x2, x3, x4, x5, x6, x7, x8, x9, x10, x11, x12⟩ := (hw.blk Hst5.out.r).rules
      obtain ⟨p0, p1, p2, p3, p4, p5⟩ := (hw.blk Hst5.out.p).pos6
      obtain ⟨c0, c1, c2, c3, c4⟩ := (hw.blk Hst5.out.c).five
      obtain ⟨k0, k1, k2, k3, k4⟩ := Hkid.out w' (Hst5.out.later.trans hw)
      obtain ⟨b', o', hbb, -, z0, z1, z2, z3, z4, z5⟩ := qAt ((Hcq5.out.below hw).more hw.size) hk2
      injection hbb with hbb
      injection hbb with hbb1 hbb2
      subst hbb1
      subst hbb2
      rw [Hq.out] at z0 z1 z2 z3 z4 z5
      exact ⟨x0, x1, x2, x3, x4, x5, x6, x7, x8, x9, x10, x11, x12, p0, p1, p2, p3, p4, p5, c0, c1, c2, c3, c4, k0, k1, k2, k3, k4, z0, z1, z2, z3, z4, z5⟩)
    refine wp_region_held_drew (S := fun w' : World => (w'.cell? ⟨W.heap.size, 0, none⟩ = some (.int .i64 r.start.w) ∧ w'.cell? ⟨W.heap.size, 1, none⟩ = some (.int .i64 r.start.h) ∧ w'.cell? ⟨W.heap.size, 2, none⟩ = some (.string r.start.cells) ∧ w'.cell? ⟨W.heap.size, 3, none⟩ = some (.int .i64 r.start.turn) ∧ w'.cell? ⟨W.heap.size, 4, none⟩ = some (.string r.start.h0) ∧ w'.cell? ⟨W.heap.size, 5, none⟩ = some (.string r.start.h1) ∧ w'.cell? ⟨W.heap.size, 6, none⟩ = some (.slice A r.pieces.length cp) ∧ w'.cell? ⟨W.heap.size, 7, none⟩ = some (.bool r.drops) ∧ w'.cell? ⟨W.heap.size, 8, none⟩ = some (.int .u8 r.lose) ∧ w'.cell? ⟨W.heap.size, 9, none⟩ = some (.int .i64 r.line) ∧ w'.cell? ⟨W.heap.size, 10, none⟩ = some (.int .u8 r.reach) ∧ w'.cell? ⟨W.heap.size, 11, none⟩ = some (.bool r.stuck) ∧ w'.cell? ⟨W.heap.size, 12, none⟩ = some (.int .i64 r.plies) ∧ w'.cell? ⟨W.heap.size + 1, 0, none⟩ = some (.int .i64 p.w) ∧ w'.cell? ⟨W.heap.size + 1, 1, none⟩ = some (.int .i64 p.h) ∧ w'.cell? ⟨W.heap.size + 1, 2, none⟩ = some (.string p.cells) ∧ w'.cell? ⟨W.heap.size + 1, 3, none⟩ = some (.int .i64 p.turn) ∧ w'.cell? ⟨W.heap.size + 1, 4, none⟩ = some (.string p.h0) ∧ w'.cell? ⟨W.heap.size + 1, 5, none⟩ = some (.string p.h1) ∧ w'.cell? ⟨W.heap.size + 1 + 1, 0, none⟩ = some (.bool true) ∧ w'.cell? ⟨W.heap.size + 1 + 1, 1, none⟩ = some (.int .i64 m.f) ∧ w'.cell? ⟨W.heap.size + 1 + 1, 2, none⟩ = some (.int .i64 m.t) ∧ w'.cell? ⟨W.heap.size + 1 + 1, 3, none⟩ = some (.int .u8 (m.c : Int)) ∧ w'.cell? ⟨W.heap.size + 1 + 1, 4, none⟩ = some (.slice (some ⟨bk, ok, none⟩) 1 ck) ∧ w'.cell? ⟨bk, ok, none⟩ = some (.bool kd.s) ∧ w'.cell? ⟨bk, ok + 1, none⟩ = some (.int .i64 kd.m.f) ∧ w'.cell? ⟨bk, ok + 2, none⟩ = some (.int .i64 kd.m.t) ∧ w'.cell? ⟨bk, ok + 3, none⟩ = some (.int .u8 (kd.m.c : Int)) ∧ w'.cell? ⟨bk, ok + 4, none⟩ = some (.slice Ad kd.kids.length cd) ∧ w'.cell? ⟨bq, oq + k * 6, none⟩ = some (.int .i64 q.w) ∧ w'.cell? ⟨bq, oq + k * 6 + 1, none⟩ = some (.int .i64 q.h) ∧ w'.cell? ⟨bq, oq + k * 6 + 2, none⟩ = some (.string q.cells) ∧ w'.cell? ⟨bq, oq + k * 6 + 3, none⟩ = some (.int .i64 q.turn) ∧ w'.cell? ⟨bq, oq + k * 6 + 4, none⟩ = some (.string q.h0) ∧ w'.cell? ⟨bq, oq + k * 6 + 5, none⟩ = some (.string q.h1))) (by kernel_rfl) (HS.out _ Later.rfl.drew) (fun hHeld => ?_)
    refine wpAnyH_take (i := 0) (oi := ⟨some 59, _, _, _, _, _⟩) (v := ?_) rfl (by kernel_rfl) (by kernel_rfl) (by kernel_rfl) (fun _ _ _ h => h) (Or.inl ⟨by rfl, ?_⟩) (by assumption) ?_
    rotate_left 1
    · intro w hSw
      try dsimp only at hSw
      go_simp <;> with_reducible rfl
    try simp only [Act.put, List.setIfInBounds_toArray, List.set_cons_zero, List.set_cons_succ]
    refine wpAnyH_take (i := 1) (oi := ⟨some 60, _, _, _, _, _⟩) (v := ?_) rfl (by kernel_rfl) (by kernel_rfl) (by kernel_rfl) (fun _ _ _ h => h) (Or.inl ⟨by rfl, ?_⟩) (by assumption) ?_
    rotate_left 1
    · intro w hSw
      try dsimp only at hSw
      go_simp <;> with_reducible rfl
    try simp only [Act.put, List.setIfInBounds_toArray, List.set_cons_zero, List.set_cons_succ]
    refine wpAnyH_take (i := 2) (oi := ⟨some 61, _, _, _, _, _⟩) (v := ?_) rfl (by kernel_rfl) (by kernel_rfl) (by kernel_rfl) (fun _ _ _ h => h) (Or.inl ⟨by rfl, ?_⟩) (by assumption) ?_
    rotate_left 1
    · intro w hSw
      try dsimp only at hSw
      go_simp <;> with_reducible rfl
    try simp only [Act.put, List.setIfInBounds_toArray, List.set_cons_zero, List.set_cons_succ]
    refine wpAnyH_take (i := 3) (oi := ⟨some 62, _, _, _, _, _⟩) (v := ?_) rfl (by kernel_rfl) (by kernel_rfl) (by kernel_rfl) (fun _ _ _ h => h) (Or.inl ⟨by rfl, ?_⟩) (by assumption) ?_
    rotate_left 1
    · intro w hSw
      try dsimp only at hSw
      go_simp <;> with_reducible rfl
    try simp only [Act.put, List.setIfInBounds_toArray, List.set_cons_zero, List.set_cons_succ]
    refine wpAnyH_take (i := 4) (oi := ⟨some 63, _, _, _, _, _⟩) (v := ?_) rfl (by kernel_rfl) (by kernel_rfl) (by kernel_rfl) (fun _ _ _ h => h) (Or.inl ⟨by rfl, ?_⟩) (by assumption) ?_
    rotate_left 1
    · intro w hSw
      try dsimp only at hSw
      go_simp <;> with_reducible rfl
    try simp only [Act.put, List.setIfInBounds_toArray, List.set_cons_zero, List.set_cons_succ]
    refine wpAnyH_take (i := 5) (oi := ⟨some 64, _, _, _, _, _⟩) (v := ?_) rfl (by kernel_rfl) (by kernel_rfl) (by kernel_rfl) (fun _ _ _ h => h) (Or.inl ⟨by rfl, ?_⟩) (by assumption) ?_
    rotate_left 1
    · intro w hSw
      try dsimp only at hSw
      go_simp <;> with_reducible rfl
    try simp only [Act.put, List.setIfInBounds_toArray, List.set_cons_zero, List.set_cons_succ]
    refine wpAnyH_take (i := 6) (oi := ⟨some 65, _, _, _, _, _⟩) (v := ?_) rfl (by kernel_rfl) (by kernel_rfl) (by kernel_rfl) (fun _ _ _ h => h) (Or.inl ⟨by rfl, ?_⟩) (by assumption) ?_
    rotate_left 1
    · intro w hSw
      try dsimp only at hSw
      go_simp <;> with_reducible rfl
    try simp only [Act.put, List.setIfInBounds_toArray, List.set_cons_zero, List.set_cons_succ]
    refine wpAnyH_take (i := 7) (oi := ⟨some 66, _, _, _, _, _⟩) (v := ?_) rfl (by kernel_rfl) (by kernel_rfl) (by kernel_rfl) (fun _ _ _ h => h) (Or.inl ⟨by rfl, ?_⟩) (by assumption) ?_
    rotate_left 1
    · intro w hSw
      try dsimp only at hSw
      go_simp <;> with_reducible rfl
    try simp only [Act.put, List.setIfInBounds_toArray, List.set_cons_zero, List.set_cons_succ]
    refine wpAnyH_take (i := 8) (oi := ⟨some 67, _, _, _, _, _⟩) (v := ?_) rfl (by kernel_rfl) (by kernel_rfl) (by kernel_rfl) (fun _ _ _ h => h) (Or.inl ⟨by rfl, ?_⟩) (by assumption) ?_
    rotate_left 1
    · intro w hSw
      try dsimp only at hSw
      go_simp <;> with_reducible rfl
    try simp only [Act.put, List.setIfInBounds_toArray, List.set_cons_zero, List.set_cons_succ]
    refine wpAnyH_take (i := 9) (oi := ⟨some 68, _, _, _, _, _⟩) (v := ?_) rfl (by kernel_rfl) (by kernel_rfl) (by kernel_rfl) (fun _ _ _ h => h) (Or.inl ⟨by rfl, ?_⟩) (by assumption) ?_
    rotate_left 1
    · intro w hSw
      try dsimp only at hSw
      go_simp <;> with_reducible rfl
    try simp only [Act.put, List.setIfInBounds_toArray, List.set_cons_zero, List.set_cons_succ]
    refine wpAnyH_take (i := 10) (oi := ⟨some 69, _, _, _, _, _⟩) (v := ?_) rfl (by kernel_rfl) (by kernel_rfl) (by kernel_rfl) (fun _ _ _ h => h) (Or.inl ⟨by rfl, ?_⟩) (by assumption) ?_
    rotate_left 1
    · intro w hSw
      try dsimp only at hSw
      go_simp <;> with_reducible rfl
    try simp only [Act.put, List.setIfInBounds_toArray, List.set_cons_zero, List.set_cons_succ]
    refine wpAnyH_take (i := 11) (oi := ⟨some 70, _, _, _, _, _⟩) (v := ?_) rfl (by kernel_rfl) (by kernel_rfl) (by kernel_rfl) (fun _ _ _ h => h) (Or.inl ⟨by rfl, ?_⟩) (by assumption) ?_
    rotate_left 1
    · intro w hSw
      try dsimp only at hSw
      go_simp <;> with_reducible rfl
    try simp only [Act.put, List.setIfInBounds_toArray, List.set_cons_zero, List.set_cons_succ]
    refine wpAnyH_take (i := 12) (oi := ⟨some 71, _, _, _, _, _⟩) (v := ?_) rfl (by kernel_rfl) (by kernel_rfl) (by kernel_rfl) (fun _ _ _ h => h) (Or.inl ⟨by rfl, ?_⟩) (by assumption) ?_
    rotate_left 1
    · intro w hSw
      try dsimp only at hSw
      go_simp <;> with_reducible rfl
    try simp only [Act.put, List.setIfInBounds_toArray, List.set_cons_zero, List.set_cons_succ]
    refine wpAnyH_take (i := 13) (oi := ⟨some 72, _, _, _, _, _⟩) (v := ?_) rfl (by kernel_rfl) (by kernel_rfl) (by kernel_rfl) (fun _ _ _ h => h) (Or.inl ⟨by rfl, ?_⟩) (by assumption) ?_
    rotate_left 1
    · intro w hSw
      try dsimp only at hSw
      go_simp <;> with_reducible rfl
    try simp only [Act.put, List.setIfInBounds_toArray, List.set_cons_zero, List.set_cons_succ]
    refine wpAnyH_take (i := 14) (oi := ⟨some 73, _, _, _, _, _⟩) (v := ?_) rfl (by kernel_rfl) (by kernel_rfl) (by kernel_rfl) (fun _ _ _ h => h) (Or.inl ⟨by rfl, ?_⟩) (by assumption) ?_
    rotate_left 1
    · intro w hSw
      try dsimp only at hSw
      go_simp <;> with_reducible rfl
    try simp only [Act.put, List.setIfInBounds_toArray, List.set_cons_zero, List.set_cons_succ]
    refine wpAnyH_take (i := 15) (oi := ⟨some 74, _, _, _, _, _⟩) (v := ?_) rfl (by kernel_rfl) (by kernel_rfl) (by kernel_rfl) (fun _ _ _ h => h) (Or.inl ⟨by rfl, ?_⟩) (by assumption) ?_
    rotate_left 1
    · intro w hSw
      try dsimp only at hSw
      go_simp <;> with_reducible rfl
    try simp only [Act.put, List.setIfInBounds_toArray, List.set_cons_zero, List.set_cons_succ]
    refine wpAnyH_take (i := 16) (oi := ⟨some 75, _, _, _, _, _⟩) (v := ?_) rfl (by kernel_rfl) (by kernel_rfl) (by kernel_rfl) (fun _ _ _ h => h) (Or.inl ⟨by rfl, ?_⟩) (by assumption) ?_
    rotate_left 1
    · intro w hSw
      try dsimp only at hSw
      go_simp <;> with_reducible rfl
    try simp only [Act.put, List.setIfInBounds_toArray, List.set_cons_zero, List.set_cons_succ]
    refine wpAnyH_take (i := 17) (oi := ⟨some 76, _, _, _, _, _⟩) (v := ?_) rfl (by kernel_rfl) (by kernel_rfl) (by kernel_rfl) (fun _ _ _ h => h) (Or.inl ⟨by rfl, ?_⟩) (by assumption) ?_
    rotate_left 1
    · intro w hSw
      try dsimp only at hSw
      go_simp <;> with_reducible rfl
    try simp only [Act.put, List.setIfInBounds_toArray, List.set_cons_zero, List.set_cons_succ]
    refine wpAnyH_take (i := 18) (oi := ⟨some 77, _, _, _, _, _⟩) (v := ?_) rfl (by kernel_rfl) (by kernel_rfl) (by kernel_rfl) (fun _ _ _ h => h) (Or.inl ⟨by rfl, ?_⟩) (by assumption) ?_
    rotate_left 1
    · intro w hSw
      try dsimp only at hSw
      go_simp <;> with_reducible rfl
    try simp only [Act.put, List.setIfInBounds_toArray, List.set_cons_zero, List.set_cons_succ]
    refine wpAnyH_take (i := 19) (oi := ⟨some 78, _, _, _, _, _⟩) (v := ?_) rfl (by kernel_rfl) (by kernel_rfl) (by kernel_rfl) (fun _ _ _ h => h) (Or.inl ⟨by rfl, ?_⟩) (by assumption) ?_
    rotate_left 1
    · intro w hSw
      try dsimp only at hSw
      go_simp <;> with_reducible rfl
    try simp only [Act.put, List.setIfInBounds_toArray, List.set_cons_zero, List.set_cons_succ]
    refine wpAnyH_take (i := 20) (oi := ⟨some 79, _, _, _, _, _⟩) (v := ?_) rfl (by kernel_rfl) (by kernel_rfl) (by kernel_rfl) (fun _ _ _ h => h) (Or.inl ⟨by rfl, ?_⟩) (by assumption) ?_
    rotate_left 1
    · intro w hSw
      try dsimp only at hSw
      go_simp <;> with_reducible rfl
    try simp only [Act.put, List.setIfInBounds_toArray, List.set_cons_zero, List.set_cons_succ]
    refine wpAnyH_take (i := 21) (oi := ⟨some 80, _, _, _, _, _⟩) (v := ?_) rfl (by kernel_rfl) (by kernel_rfl) (by kernel_rfl) (fun _ _ _ h => h) (Or.inl ⟨by rfl, ?_⟩) (by assumption) ?_
    rotate_left 1
    · intro w hSw
      try dsimp only at hSw
      go_simp <;> with_reducible rfl
    try simp only [Act.put, List.setIfInBounds_toArray, List.set_cons_zero, List.set_cons_succ]
    refine wpAnyH_take (i := 22) (oi := ⟨some 81, _, _, _, _, _⟩) (v := ?_) rfl (by kernel_rfl) (by kernel_rfl) (by kernel_rfl) (fun _ _ _ h => h) (Or.inl ⟨by rfl, ?_⟩) (by assumption) ?_
    rotate_left 1
    · intro w hSw
      try dsimp only at hSw
      go_simp <;> with_reducible rfl
    try simp only [Act.put, List.setIfInBounds_toArray, List.set_cons_zero, List.set_cons_succ]
    refine wpAnyH_take (i := 23) (oi := ⟨some 82, _, _, _, _, _⟩) (v := ?_) rfl (by kernel_rfl) (by kernel_rfl) (by kernel_rfl) (fun _ _ _ h => h) (Or.inl ⟨by rfl, ?_⟩) (by assumption) ?_
    rotate_left 1
    · intro w hSw
      try dsimp only at hSw
      go_simp <;> with_reducible rfl
    try simp only [Act.put, List.setIfInBounds_toArray, List.set_cons_zero, List.set_cons_succ]
    refine wpAnyH_take (i := 24) (oi := ⟨some 83, _, _, _, _, _⟩) (v := ?_) rfl (by kernel_rfl) (by kernel_rfl) (by kernel_rfl) (fun _ _ _ h => h) (Or.inl ⟨by rfl, ?_⟩) (by assumption) ?_
    rotate_left 1
    · intro w hSw
      try dsimp only at hSw
      go_simp <;> with_reducible rfl
    try simp only [Act.put, List.setIfInBounds_toArray, List.set_cons_zero, List.set_cons_succ]
    refine wpAnyH_ready (rs := [25]) (by kernel_rfl) (by simp) ?_
    refine AllReadyH.cons (o := ⟨some 84, _, _, _, _, _⟩) rfl (fun K hK => ?_) ?_
    · clear hHeld
      go_simp
      go_at_call 54
      refine (Hih.out _ (Hst5.out.later.trans (by repeat (first | exact Later.rfl | refine Later.drew ?_)))).mono ?_
      rintro e wt ⟨rfl, hwx⟩
      have hwq : Later w5 wt := Later.trans (by repeat (first | exact Later.rfl | refine Later.drew ?_)) hwx
      try go_wp2_with fail
      refine hK.out _ _ (by refine HS.out _ ?_; repeat (first | exact Later.rfl | exact hwq | refine Later.drew ?_)) (fun hHeld => ?_)
      clear hK K
      try simp only [Act.put, List.setIfInBounds_toArray, List.set_cons_zero, List.set_cons_succ]
      refine wpAnyH_take (i := 26) (oi := ⟨some 85, _, _, _, _, _⟩) (v := ?_) rfl (by kernel_rfl) (by kernel_rfl) (by kernel_rfl) (fun _ _ _ h => h) (Or.inl ⟨by rfl, ?_⟩) (by assumption) ?_
      rotate_left 1
      · intro w hSw
        try dsimp only at hSw
        go_simp <;> with_reducible rfl
      try simp only [Act.put, List.setIfInBounds_toArray, List.set_cons_zero, List.set_cons_succ]
      refine wpAnyH_take (i := 27) (oi := ⟨some 10, _, _, _, _, _⟩) (v := ?_) rfl (by kernel_rfl) (by kernel_rfl) (by kernel_rfl) (fun _ _ _ h => h) (Or.inl ⟨by rfl, ?_⟩) (by assumption) ?_
      rotate_left 1
      · intro w hSw
        try dsimp only at hSw
        go_simp <;> with_reducible rfl
      try simp only [Act.put, List.setIfInBounds_toArray, List.set_cons_zero, List.set_cons_succ]
      refine wpAnyH_done (by kernel_rfl) ?_ _
      cases v <;> (go_wp2_with fail; go_ret; exact ⟨by rw [HR.out] <;> rfl, Hst5.out.later.trans (by repeat (first | exact Later.rfl | exact hwq | refine Later.drew ?_))⟩)
    exact AllReadyH.nil
end Go.Proofs.YtdfegpohmaideaaGreat
/- proof.shows where the other one moves, walked -/
namespace Go.Proofs.YtdfegpohmaideaaGreat
open Go.RowKit

set_option maxHeartbeats 16000000 in
set_option maxRecDepth 100000 in
theorem pshows_other (r : RulesD) (A : Option Addr) (cp : Nat) (wn : Int) (d : Nat) (hd : d < 9) (p : Pos) (s : Bool) (m : Mv) (ks : List CertD) (Ak : Option Addr) (ck : Nat) (W : World) (R : Bool) (Q : List Pos) (hQ : nextL r p = Q) (hP : PiecesAt W W.heap.size A r.pieces) (hok : OfOk r p) (hop : endsN r p = 0) (htn : p.turn ≠ wn)
    (hkid : ∀ i (h : i < ks.length), ∃ bk ok Ad cd, Ak = some ⟨bk, ok, none⟩ ∧ (∀ w', Later W w' → (w'.cell? ⟨bk, ok + i * 5, none⟩ = some (.bool ks[i].s) ∧ w'.cell? ⟨bk, ok + i * 5 + 1, none⟩ = some (.int .i64 ks[i].m.f) ∧ w'.cell? ⟨bk, ok + i * 5 + 2, none⟩ = some (.int .i64 ks[i].m.t) ∧ w'.cell? ⟨bk, ok + i * 5 + 3, none⟩ = some (.int .u8 (ks[i].m.c : Int)) ∧ w'.cell? ⟨bk, ok + i * 5 + 4, none⟩ = some (.slice Ad ks[i].kids.length cd))) ∧
      ∀ q, OfOk r q → ∀ w, Later W w → Calls Tryz.prog 54 #[.agg #[.int .i64 r.start.w, .int .i64 r.start.h, .string r.start.cells, .int .i64 r.start.turn, .string r.start.h0, .string r.start.h1, .slice A r.pieces.length cp, .bool r.drops, .int .u8 r.lose, .int .i64 r.line, .int .u8 r.reach, .bool r.stuck, .int .i64 r.plies], .agg #[.int .i64 q.w, .int .i64 q.h, .string q.cells, .int .i64 q.turn, .string q.h0, .string q.h1], .int .i64 (d : Int), .int .i64 wn, .agg #[.bool ks[i].s, .int .i64 ks[i].m.f, .int .i64 ks[i].m.t, .int .u8 (ks[i].m.c : Int), .slice Ad ks[i].kids.length cd]] w fun e w' => e = .returned (.bool (showsB r wn d q ks[i])) ∧ Later w w')
    (hbad : (s = true ∨ m ≠ ⟨0, 0, 0⟩ ∨ ks.length ≠ Q.length) → R = false)
    (hno : ∀ i (h : i < ks.length) (h2 : i < Q.length), showsB r wn d Q[i] ks[i] = false → R = false)
    (hyes : s = false → m = ⟨0, 0, 0⟩ → ks.length = Q.length → (∀ i (h : i < ks.length) (h2 : i < Q.length), showsB r wn d Q[i] ks[i] = true) → R = true) :
    Calls Tryz.prog 54 #[.agg #[.int .i64 r.start.w, .int .i64 r.start.h, .string r.start.cells, .int .i64 r.start.turn, .string r.start.h0, .string r.start.h1, .slice A r.pieces.length cp, .bool r.drops, .int .u8 r.lose, .int .i64 r.line, .int .u8 r.reach, .bool r.stuck, .int .i64 r.plies], .agg #[.int .i64 p.w, .int .i64 p.h, .string p.cells, .int .i64 p.turn, .string p.h0, .string p.h1], .int .i64 ((d : Int) + 1), .int .i64 wn, .agg #[.bool s, .int .i64 m.f, .int .i64 m.t, .int .u8 (m.c : Int), .slice Ak ks.length ck]] W fun e w' => e = .returned (.bool R) ∧ Later W w' := by
  have Hst := hide (ShSt.first (W := W) (R := #[.int .i64 r.start.w, .int .i64 r.start.h, .string r.start.cells, .int .i64 r.start.turn, .string r.start.h0, .string r.start.h1, .slice A r.pieces.length cp, .bool r.drops, .int .u8 r.lose, .int .i64 r.line, .int .u8 r.reach, .bool r.stuck, .int .i64 r.plies]) (P := #[.int .i64 p.w, .int .i64 p.h, .string p.cells, .int .i64 p.turn, .string p.h0, .string p.h1]) (C := #[.bool s, .int .i64 m.f, .int .i64 m.t, .int .u8 (m.c : Int), .slice Ak ks.length ck]))
  have Hnx := hide (fun w (hw : Later W w) => nextN_any r A cp p w hok ((hP.below hw).more hw.size))
  simp only [hop] at Hnx
  have hll : (movesL r p).length ≤ 10000 := movesL_len hok.pos
  have tz : (((d : Int) + 1) == 0) = false := by simp; omega
  have tw : IntKind.i64.wrap ((d : Int) + 1 - 1) = (d : Int) := by rw [show (d : Int) + 1 - 1 = d by omega]; exact IntWalk.i64_in _ (by omega)
  have tw2 : IntKind.i64.wrap (d : Int) = (d : Int) := IntWalk.i64_in _ (by omega)
  have hne := fun w => neqM m ⟨0, 0, 0⟩ w
  have hgd := fun op a b w => eqM.2 op a b m ⟨0, 0, 0⟩ w
  simp [encM] at hne hgd
  obtain ⟨u, hu⟩ : ∃ u, decide (m = ⟨0, 0, 0⟩) = u := ⟨_, rfl⟩
  simp only [hu] at hne
  have Hu := hide hu
  have t3 : (p.turn == wn) = false := by rw [beq_dec]; exact decide_eq_false htn
  have Hkid := hide hkid
  have hqq : Q.length ≤ 10000 := by rw [← hQ]; simpa [nextL] using hll
  have Hqo := hide (show ∀ i (h : i < Q.length), OfOk r Q[i] from fun i h => by
    have hm : Q[i] ∈ nextL r p := by rw [hQ]; exact List.getElem_mem h
    obtain ⟨x, hx, e⟩ := List.mem_map.1 hm
    rw [← e]
    exact (every_made hok (moves_every hx)).2)
  have Hbad := hide hbad
  have Hno := hide hno
  have Hyes := hide hyes
  simp only [hQ] at Hnx
  clear hll hP hok hop htn hno hyes hbad hkid hQ hu
  go_enter Tryz.func54, Tryz.ntmps54
  go_upto_region 1 with (fail)
  obtain ⟨w0, hw0⟩ : ∃ w0, (((W.alloc (.cells #[.int .i64 r.start.w, .int .i64 r.start.h, .string r.start.cells, .int .i64 r.start.turn, .string r.start.h0, .string r.start.h1, .slice A r.pieces.length cp, .bool r.drops, .int .u8 r.lose, .int .i64 r.line, .int .u8 r.reach, .bool r.stuck, .int .i64 r.plies] 27)).alloc (.cells #[.int .i64 p.w, .int .i64 p.h, .string p.cells, .int .i64 p.turn, .string p.h0, .string p.h1] 24)).alloc (.cells #[.bool s, .int .i64 m.f, .int .i64 m.t, .int .u8 (m.c : Int), .slice Ak ks.length ck] 58)) = w0 := ⟨_, rfl⟩
  rw [hw0] at Hst ⊢
  clear hw0
  obtain ⟨x0, x1, x2, x3, x4, x5, x6, x7, x8, x9, x10, x11, x12⟩ := Hst.out.r.rules
  obtain ⟨p0, p1, p2, p3, p4, p5⟩ := Hst.out.p.pos6
  go_upto_region 2 with (go_at_call 44; refine (Hnx.out _ Hst.out.later).mono ?_; rintro e w2 ⟨A1, cc1, A2, cc2, rfl, hcm, hcq, hw2⟩)
  have Hst2 := hide (Hst.out.later_ hw2)
  have Hcm := hide hcm
  have Hcq := hide hcq
  clear hcm hcq hw2 Hst x0 x1 x2 x3 x4 x5 x6 x7 x8 x9 x10 x11 x12 p0 p1 p2 p3 p4 p5
  obtain ⟨p0, p1, p2, p3, p4, p5⟩ := Hst2.out.p.pos6
  obtain ⟨c0, c1, c2, c3, c4⟩ := Hst2.out.c.five
  have hbs : s = true ∨ (s = false ∧ u = false) ∨ (s = false ∧ u = true) := by cases s <;> cases u <;> simp
  rcases hbs with rfl | ⟨rfl, rfl⟩ | ⟨rfl, rfl⟩
  · have HR := hide (Hbad.out (.inl rfl))
    go_wp2_with fail
    go_ret
    exact ⟨by rw [HR.out] <;> rfl, Hst2.out.later⟩
  · have HR := hide (Hbad.out (.inr (.inl (of_decide_eq_false Hu.out))))
    go_wp2_with fail
    go_ret
    exact ⟨by rw [HR.out] <;> rfl, Hst2.out.later⟩
  · by_cases hlen : ks.length = Q.length
    · have tl : ((ks.length : Int) != (Q.length : Int)) = false := by rw [hlen]; simp
      have Hlen := hide hlen
      have HY := hide (Hyes.out rfl (of_decide_eq_true Hu.out) hlen)
      clear hlen
      go_upto_region 9 with (fail)
      have Hcq2 := Hcq
      clear Hcm Hcq tz t3 tl hne hgd p0 p1 p2 p3 p4 p5 c0 c1 c2 c3 c4
      go_wp2_with fail
      go_loopw [104] (fun kv wr => ∃ k : Nat, k ≤ Q.length ∧ kv = .int .i64 (k : Int) ∧ (∀ i (h : i < ks.length) (h2 : i < Q.length), i < k → showsB r wn d Q[i] ks[i] = true) ∧ Later w2 wr) (fun kv _ => Q.length - (intOf kv).toNat)
      case atStart => exact ⟨0, by omega, rfl, fun i _ _ h => by omega, Later.rfl⟩
      case round =>
        rename World => wr
        obtain ⟨k, hk, rfl, hall, hw⟩ := hrel
        have Hall := hide hall
        have Hstr := hide (Hst2.out.later_ hw)
        have Hcr := hide ((Hcq2.out.below hw).more hw.size)
        have Hwr := hide hw
        clear hall hw
        by_cases hlt : k < Q.length
        · have t1 : decide ((k : Int) < (Q.length : Int)) = true := by simp; omega
          have t1n : decide (k < Q.length) = true := by simp; omega
          have hlt2 : k < ks.length := by rw [Hlen.out]; exact hlt
          have hk3 : (k : Int) < (ks.length : Int) := by omega
          obtain ⟨bk, ok, Ad, cd, rfl, hcl, hsh⟩ := Hkid.out k hlt2
          obtain ⟨bq, oq, rfl, hbq, q0, q1, q2, q3, q4, q5⟩ := qAt Hcr.out hlt
          have hk1 : (0 : Int) ≤ (k : Int) := by omega
          have hk2 : (k : Int) < (Q.length : Int) := by omega
          have HnoK := hide (Hno.out k hlt2 hlt)
          have HallN := hide (show showsB r wn d Q[k] ks[k] = true → ∀ i (h : i < ks.length) (h2 : i < Q.length), i < k + 1 → showsB r wn d Q[i] ks[i] = true from fun h0 i h h2 hi => by
            by_cases e : i = k
            · subst e; exact h0
            · exact Hall.out i h h2 (by omega))
          have hqo := Hqo.out k hlt
          obtain ⟨q, hq⟩ : ∃ q, Q[k] = q := ⟨_, rfl⟩
          rw [hq] at HnoK hqo q0 q1 q2 q3 q4 q5
          simp only [hq] at HallN
          have hshq := fun w hw => hsh q hqo w hw
          obtain ⟨kd, hkd⟩ : ∃ kd, ks[k] = kd := ⟨_, rfl⟩
          rw [hkd] at HnoK
          simp only [hkd] at hshq hcl HallN
          obtain ⟨v, hv⟩ : ∃ v, showsB r wn d q kd = v := ⟨_, rfl⟩
          rw [hv] at HnoK
          simp only [hv] at hshq HallN
          have HshQ := hide hshq
          have Hcl := hide hcl
          clear hq hqo hsh hshq hcl hkd hv hlt2
          go_upto_region 12 with (fail)
          have Hla := hide (show Later wr (wr.alloc (.cells #[.int .i64 q.w, .int .i64 q.h, .string q.cells, .int .i64 q.turn, .string q.h0, .string q.h1] 24)) from Later.rfl.alloc _)
          have Hba := hide (Blk.new wr 24 #[.int .i64 q.w, .int .i64 q.h, .string q.cells, .int .i64 q.turn, .string q.h0, .string q.h1])
          obtain ⟨wa, hwa⟩ : ∃ wa, wr.alloc (.cells #[.int .i64 q.w, .int .i64 q.h, .string q.cells, .int .i64 q.turn, .string q.h0, .string q.h1] 24) = wa := ⟨_, rfl⟩
          rw [hwa] at Hla Hba ⊢
          obtain ⟨gq, hgq⟩ : ∃ gq, wr.heap.size = gq := ⟨_, rfl⟩
          rw [hgq] at Hba ⊢
          clear hwa hgq q0 q1 q2 q3 q4 q5
          have HS := hide (show ∀ w' : World, Later wa w' → (w'.cell? ⟨W.heap.size, 0, none⟩ = some (.int .i64 r.start.w) ∧ w'.cell? ⟨W.heap.size, 1, none⟩ = some (.int .i64 r.start.h) ∧ w'.cell? ⟨W.heap.size, 2, none⟩ = some (.string r.start.cells) ∧ w'.cell? ⟨W.heap.size, 3, none⟩ = some (.int .i64 r.start.turn) ∧ w'.cell? ⟨W.heap.size, 4, none⟩ = some (.string r.start.h0) ∧ w'.cell? ⟨W.heap.size, 5, none⟩ = some (.string r.start.h1) ∧ w'.cell? ⟨W.heap.size, 6, none⟩ = some (.slice A r.pieces.length cp) ∧ w'.cell? ⟨W.heap.size, 7, none⟩ = some (.bool r.drops) ∧ w'.cell? ⟨W.heap.size, 8, none⟩ = some (.int .u8 r.lose) ∧ w'.cell? ⟨W.heap.size, 9, none⟩ = some (.int .i64 r.line) ∧ w'.cell? ⟨W.heap.size, 10, none⟩ = some (.int .u8 r.reach) ∧ w'.cell? ⟨W.heap.size, 11, none⟩ = some (.bool r.stuck) ∧ w'.cell? ⟨W.heap.size, 12, none⟩ = some (.int .i64 r.plies) ∧ w'.cell? ⟨gq, 0, none⟩ = some (.int .i64 q.w) ∧ w'.cell? ⟨gq, 1, none⟩ = some (.int .i64 q.h) ∧ w'.cell? ⟨gq, 2, none⟩ = some (.string q.cells) ∧ w'.cell? ⟨gq, 3, none⟩ = some (.int .i64 q.turn) ∧ w'.cell? ⟨gq, 4, none⟩ = some (.string q.h0) ∧ w'.cell? ⟨gq, 5, none⟩ = some (.string q.h1) ∧ w'.cell? ⟨W.heap.size + 1 + 1, 0, none⟩ = some (.bool false) ∧ w'.cell? ⟨W.heap.size + 1 + 1, 1, none⟩ = some (.int .i64 m.f) ∧ w'.cell? ⟨W.heap.size + 1 + 1, 2, none⟩ = some (.int .i64 m.t) ∧ w'.cell? ⟨W.heap.size + 1 + 1, 3, none⟩ = some (.int .u8 (m.c : Int)) ∧ w'.cell? ⟨W.heap.size + 1 + 1, 4, none⟩ = some (.slice (some ⟨bk, ok, none⟩) ks.length ck) ∧ w'.cell? ⟨bk, ok + k * 5, none⟩ = some (.bool kd.s) ∧ w'.cell? ⟨bk, ok + k * 5 + 1, none⟩ = some (.int .i64 kd.m.f) ∧ w'.cell? ⟨bk, ok + k * 5 + 2, none⟩ = some (.int .i64 kd.m.t) ∧ w'.cell? ⟨bk, ok + k * 5 + 3, none⟩ = some (.int .u8 (kd.m.c : Int)) ∧ w'.cell? ⟨bk, ok + k * 5 + 4, none⟩ = some (.slice Ad kd.kids.length cd)) from fun w' hw => by
            obtain ⟨x0, x1, x2, x3, x4, x5, x6, x7, x8, x9, x10, x11, x12⟩ := ((Hla.out.trans hw).blk Hstr.out.r).rules
            obtain ⟨q0, q1, q2, q3, q4, q5⟩ := (hw.blk Hba.out).pos6
            obtain ⟨c0, c1, c2, c3, c4⟩ := ((Hla.out.trans hw).blk Hstr.out.c).five
            obtain ⟨k0, k1, k2, k3, k4⟩ := Hcl.out w' (Hstr.out.later.trans (Hla.out.trans hw))
            exact ⟨x0, x1, x2, x3, x4, x5, x6, x7, x8, x9, x10, x11, x12, q0, q1, q2, q3, q4, q5, c0, c1, c2, c3, c4, k0, k1, k2, k3, k4⟩)
          have HLa := hide (Hstr.out.later.trans Hla.out)
          clear Hba
          go_cut [120] from 109 to 120 (fun nv w' => nv = .bool (!v) ∧ Later wa w')
          case first =>
            clear t1 t1n
            refine wp_region_held_drew (S := fun w' : World => (w'.cell? ⟨W.heap.size, 0, none⟩ = some (.int .i64 r.start.w) ∧ w'.cell? ⟨W.heap.size, 1, none⟩ = some (.int .i64 r.start.h) ∧ w'.cell? ⟨W.heap.size, 2, none⟩ = some (.string r.start.cells) ∧ w'.cell? ⟨W.heap.size, 3, none⟩ = some (.int .i64 r.start.turn) ∧ w'.cell? ⟨W.heap.size, 4, none⟩ = some (.string r.start.h0) ∧ w'.cell? ⟨W.heap.size, 5, none⟩ = some (.string r.start.h1) ∧ w'.cell? ⟨W.heap.size, 6, none⟩ = some (.slice A r.pieces.length cp) ∧ w'.cell? ⟨W.heap.size, 7, none⟩ = some (.bool r.drops) ∧ w'.cell? ⟨W.heap.size, 8, none⟩ = some (.int .u8 r.lose) ∧ w'.cell? ⟨W.heap.size, 9, none⟩ = some (.int .i64 r.line) ∧ w'.cell? ⟨W.heap.size, 10, none⟩ = some (.int .u8 r.reach) ∧ w'.cell? ⟨W.heap.size, 11, none⟩ = some (.bool r.stuck) ∧ w'.cell? ⟨W.heap.size, 12, none⟩ = some (.int .i64 r.plies) ∧ w'.cell? ⟨gq, 0, none⟩ = some (.int .i64 q.w) ∧ w'.cell? ⟨gq, 1, none⟩ = some (.int .i64 q.h) ∧ w'.cell? ⟨gq, 2, none⟩ = some (.string q.cells) ∧ w'.cell? ⟨gq, 3, none⟩ = some (.int .i64 q.turn) ∧ w'.cell? ⟨gq, 4, none⟩ = some (.string q.h0) ∧ w'.cell? ⟨gq, 5, none⟩ = some (.string q.h1) ∧ w'.cell? ⟨W.heap.size + 1 + 1, 0, none⟩ = some (.bool false) ∧ w'.cell? ⟨W.heap.size + 1 + 1, 1, none⟩ = some (.int .i64 m.f) ∧ w'.cell? ⟨W.heap.size + 1 + 1, 2, none⟩ = some (.int .i64 m.t) ∧ w'.cell? ⟨W.heap.size + 1 + 1, 3, none⟩ = some (.int .u8 (m.c : Int)) ∧ w'.cell? ⟨W.heap.size + 1 + 1, 4, none⟩ = some (.slice (some ⟨bk, ok, none⟩) ks.length ck) ∧ w'.cell? ⟨bk, ok + k * 5, none⟩ = some (.bool kd.s) ∧ w'.cell? ⟨bk, ok + k * 5 + 1, none⟩ = some (.int .i64 kd.m.f) ∧ w'.cell? ⟨bk, ok + k * 5 + 2, none⟩ = some (.int .i64 kd.m.t) ∧ w'.cell? ⟨bk, ok + k * 5 + 3, none⟩ = some (.int .u8 (kd.m.c : Int)) ∧ w'.cell? ⟨bk, ok + k * 5 + 4, none⟩ = some (.slice Ad kd.kids.length cd))) (by kernel_rfl) (HS.out _ Later.rfl.drew) (fun hHeld => ?_)
            refine wpAnyH_take (i := 0) (oi := ⟨some 109, _, _, _, _, _⟩) (v := ?_) rfl (by kernel_rfl) (by kernel_rfl) (by kernel_rfl) (fun _ _ _ h => h) (Or.inl ⟨by rfl, ?_⟩) (by assumption) ?_
            rotate_left 1
            · intro w hSw
              try dsimp only at hSw
              go_simp <;> with_reducible rfl
            try simp only [Act.put, List.setIfInBounds_toArray, List.set_cons_zero, List.set_cons_succ]
            refine wpAnyH_take (i := 1) (oi := ⟨some 110, _, _, _, _, _⟩) (v := ?_) rfl (by kernel_rfl) (by kernel_rfl) (by kernel_rfl) (fun _ _ _ h => h) (Or.inl ⟨by rfl, ?_⟩) (by assumption) ?_
            rotate_left 1
            · intro w hSw
              try dsimp only at hSw
              go_simp <;> with_reducible rfl
            try simp only [Act.put, List.setIfInBounds_toArray, List.set_cons_zero, List.set_cons_succ]
            refine wpAnyH_take (i := 2) (oi := ⟨some 111, _, _, _, _, _⟩) (v := ?_) rfl (by kernel_rfl) (by kernel_rfl) (by kernel_rfl) (fun _ _ _ h => h) (Or.inl ⟨by rfl, ?_⟩) (by assumption) ?_
            rotate_left 1
            · intro w hSw
              try dsimp only at hSw
              go_simp <;> with_reducible rfl
            try simp only [Act.put, List.setIfInBounds_toArray, List.set_cons_zero, List.set_cons_succ]
            refine wpAnyH_take (i := 3) (oi := ⟨some 112, _, _, _, _, _⟩) (v := ?_) rfl (by kernel_rfl) (by kernel_rfl) (by kernel_rfl) (fun _ _ _ h => h) (Or.inl ⟨by rfl, ?_⟩) (by assumption) ?_
            rotate_left 1
            · intro w hSw
              try dsimp only at hSw
              go_simp <;> with_reducible rfl
            try simp only [Act.put, List.setIfInBounds_toArray, List.set_cons_zero, List.set_cons_succ]
            refine wpAnyH_take (i := 4) (oi := ⟨some 113, _, _, _, _, _⟩) (v := ?_) rfl (by kernel_rfl) (by kernel_rfl) (by kernel_rfl) (fun _ _ _ h => h) (Or.inl ⟨by rfl, ?_⟩) (by assumption) ?_
            rotate_left 1
            · intro w hSw
              try dsimp only at hSw
              go_simp <;> with_reducible rfl
            try simp only [Act.put, List.setIfInBounds_toArray, List.set_cons_zero, List.set_cons_succ]
            refine wpAnyH_take (i := 5) (oi := ⟨some 114, _, _, _, _, _⟩) (v := ?_) rfl (by kernel_rfl) (by kernel_rfl) (by kernel_rfl) (fun _ _ _ h => h) (Or.inl ⟨by rfl, ?_⟩) (by assumption) ?_
            rotate_left 1
            · intro w hSw
              try dsimp only at hSw
              go_simp <;> with_reducible rfl
            try simp only [Act.put, List.setIfInBounds_toArray, List.set_cons_zero, List.set_cons_succ]
            refine wpAnyH_take (i := 6) (oi := ⟨some 115, _, _, _, _, _⟩) (v := ?_) rfl (by kernel_rfl) (by kernel_rfl) (by kernel_rfl) (fun _ _ _ h => h) (Or.inl ⟨by rfl, ?_⟩) (by assumption) ?_
            rotate_left 1
            · intro w hSw
              try dsimp only at hSw
              go_simp <;> with_reducible rfl
            try simp only [Act.put, List.setIfInBounds_toArray, List.set_cons_zero, List.set_cons_succ]
            refine wpAnyH_take (i := 7) (oi := ⟨some 116, _, _, _, _, _⟩) (v := ?_) rfl (by kernel_rfl) (by kernel_rfl) (by kernel_rfl) (fun _ _ _ h => h) (Or.inl ⟨by rfl, ?_⟩) (by assumption) ?_
            rotate_left 1
            · intro w hSw
              try dsimp only at hSw
              go_simp <;> with_reducible rfl
            try simp only [Act.put, List.setIfInBounds_toArray, List.set_cons_zero, List.set_cons_succ]
            refine wpAnyH_take (i := 8) (oi := ⟨some 117, _, _, _, _, _⟩) (v := ?_) rfl (by kernel_rfl) (by kernel_rfl) (by kernel_rfl) (fun _ _ _ h => h) (Or.inl ⟨by rfl, ?_⟩) (by assumption) ?_
            rotate_left 1
            · intro w hSw
              try dsimp only at hSw
              go_simp <;> with_reducible rfl
            try simp only [Act.put, List.setIfInBounds_toArray, List.set_cons_zero, List.set_cons_succ]
            refine wpAnyH_take (i := 9) (oi := ⟨some 118, _, _, _, _, _⟩) (v := ?_) rfl (by kernel_rfl) (by kernel_rfl) (by kernel_rfl) (fun _ _ _ h => h) (Or.inl ⟨by rfl, ?_⟩) (by assumption) ?_
            rotate_left 1
            · intro w hSw
              try dsimp only at hSw
              go_simp <;> with_reducible rfl
            try simp only [Act.put, List.setIfInBounds_toArray, List.set_cons_zero, List.set_cons_succ]
            refine wpAnyH_ready (rs := [10]) (by kernel_rfl) (by simp) ?_
            refine AllReadyH.cons (o := ⟨some 119, _, _, _, _, _⟩) rfl (fun K hK => ?_) ?_
            · clear hHeld
              go_simp
              go_at_call 54
              refine (HshQ.out _ (HLa.out.trans (by repeat (first | exact Later.rfl | refine Later.drew ?_)))).mono ?_
              rintro e wt ⟨rfl, hwx⟩
              have hwq : Later wa wt := Later.trans (by repeat (first | exact Later.rfl | refine Later.drew ?_)) hwx
              try go_wp2_with fail
              refine hK.out _ _ (by refine HS.out _ ?_; repeat (first | exact Later.rfl | exact hwq | refine Later.drew ?_)) (fun hHeld => ?_)
              clear hK K
              try simp only [Act.put, List.setIfInBounds_toArray, List.set_cons_zero, List.set_cons_succ]
              refine wpAnyH_take (i := 11) (oi := ⟨some 120, _, _, _, _, _⟩) (v := ?_) rfl (by kernel_rfl) (by kernel_rfl) (by kernel_rfl) (fun _ _ _ h => h) (Or.inl ⟨by rfl, ?_⟩) (by assumption) ?_
              rotate_left 1
              · intro w hSw
                try dsimp only at hSw
                go_simp <;> with_reducible rfl
              try simp only [Act.put, List.setIfInBounds_toArray, List.set_cons_zero, List.set_cons_succ]
              refine wpAnyH_done (by kernel_rfl) ?_ _
              go_wp2_with fail
              go_meet
              case rel => exact ⟨rfl, hwq⟩
            exact AllReadyH.nil
          case rest =>
            obtain ⟨rfl, hw8⟩ := hcut
            rename World => w8
            have Hw8 := hide (Hwr.out.trans (Hla.out.trans hw8))
            have HL8 := hide (HLa.out.trans hw8)
            clear hw8 tw tw2
            cases v
            · have HR := hide (HnoK.out rfl)
              go_wp2_with fail
              go_ret
              exact ⟨by rw [HR.out] <;> rfl, HL8.out⟩
            · have HN := hide (HallN.out rfl)
              go_wp2_with fail
              go_roundw
              case rel => exact ⟨k + 1, by omega, by go_num, HN.out, Hw8.out⟩
              case measure => simp [intOf]; omega
        · obtain rfl : Q.length = k := by omega
          have t1 : decide ((Q.length : Int) < (Q.length : Int)) = false := by simp
          have t1n : decide (Q.length < Q.length) = false := by simp
          have HR := hide (HY.out (fun i h h2 => Hall.out i h h2 h2))
          go_wp2_with fail
          go_ret
          exact ⟨by rw [HR.out] <;> rfl, Hstr.out.later⟩
    · have tl : ((ks.length : Int) != (Q.length : Int)) = true := by simp; omega
      have HR := hide (Hbad.out (.inr (.inr hlen)))
      clear hlen
      go_wp2_with fail
      go_ret
      exact ⟨by rw [HR.out] <;> rfl, Hst2.out.later⟩
end Go.Proofs.YtdfegpohmaideaaGreat
/- proof.shows answers what a cert shows. -/
namespace Go.Proofs.YtdfegpohmaideaaGreat
open Go.RowKit

theorem pshows_any (r : RulesD) (A : Option Addr) (cp : Nat) (wn : Int) (h0 : 0 ≤ wn) (h1 : wn ≤ 1) : ∀ (d : Nat), d ≤ 9 → ∀ (p : Pos), OfOk r p → ∀ (c : CertD) (Ak : Option Addr) (ck : Nat) (W : World), PiecesAt W W.heap.size A r.pieces → CertAt W W.heap.size d c Ak →
    Calls Tryz.prog 54 #[.agg #[.int .i64 r.start.w, .int .i64 r.start.h, .string r.start.cells, .int .i64 r.start.turn, .string r.start.h0, .string r.start.h1, .slice A r.pieces.length cp, .bool r.drops, .int .u8 r.lose, .int .i64 r.line, .int .u8 r.reach, .bool r.stuck, .int .i64 r.plies], .agg #[.int .i64 p.w, .int .i64 p.h, .string p.cells, .int .i64 p.turn, .string p.h0, .string p.h1], .int .i64 (d : Int), .int .i64 wn, .agg #[.bool c.s, .int .i64 c.m.f, .int .i64 c.m.t, .int .u8 (c.m.c : Int), .slice Ak c.kids.length ck]] W fun e w' => e = .returned (.bool (showsB r wn d p c)) ∧ Later W w'
  | 0, _, p, hok, c, Ak, ck, W, hP, _ => pshows_end r A cp wn 0 p c Ak ck W h0 h1 hP hok (.inr rfl) (showsB_end (.inr rfl))
  | d + 1, hd, p, hok, ⟨s, m, ks⟩, Ak, ck, W, hP, hC => by
    by_cases hop : endsN r p = 0
    · have hkid : ∀ i (h : i < ks.length), ∃ bk ok Ad cd, Ak = some ⟨bk, ok, none⟩ ∧ (∀ w', Later W w' → (w'.cell? ⟨bk, ok + i * 5, none⟩ = some (.bool ks[i].s) ∧ w'.cell? ⟨bk, ok + i * 5 + 1, none⟩ = some (.int .i64 ks[i].m.f) ∧ w'.cell? ⟨bk, ok + i * 5 + 2, none⟩ = some (.int .i64 ks[i].m.t) ∧ w'.cell? ⟨bk, ok + i * 5 + 3, none⟩ = some (.int .u8 (ks[i].m.c : Int)) ∧ w'.cell? ⟨bk, ok + i * 5 + 4, none⟩ = some (.slice Ad ks[i].kids.length cd))) ∧
          ∀ q, OfOk r q → ∀ w, Later W w → Calls Tryz.prog 54 #[.agg #[.int .i64 r.start.w, .int .i64 r.start.h, .string r.start.cells, .int .i64 r.start.turn, .string r.start.h0, .string r.start.h1, .slice A r.pieces.length cp, .bool r.drops, .int .u8 r.lose, .int .i64 r.line, .int .u8 r.reach, .bool r.stuck, .int .i64 r.plies], .agg #[.int .i64 q.w, .int .i64 q.h, .string q.cells, .int .i64 q.turn, .string q.h0, .string q.h1], .int .i64 (d : Int), .int .i64 wn, .agg #[.bool ks[i].s, .int .i64 ks[i].m.f, .int .i64 ks[i].m.t, .int .u8 (ks[i].m.c : Int), .slice Ad ks[i].kids.length cd]] w fun e w' => e = .returned (.bool (showsB r wn d q ks[i])) ∧ Later w w' := fun i hi => by
        obtain ⟨b, off, Ad, cd, hA, hlt, _, ⟨y0, y1, y2, y3, y4⟩, hn⟩ := hC i hi
        refine ⟨b, off, Ad, cd, hA, fun w' hw => ?_, fun q hq w hw => ?_⟩
        · exact ⟨(cell_later hw hlt _).trans y0, (cell_later hw hlt _).trans y1, (cell_later hw hlt _).trans y2, (cell_later hw hlt _).trans y3, (cell_later hw hlt _).trans y4⟩
        · exact pshows_any r A cp wn h0 h1 d (by omega) q hq _ Ad cd w ((hP.below hw).more hw.size) (CertAt.more hw.size _ _ _ (CertAt.below hw _ _ _ hn))
      rw [show ((d + 1 : Nat) : Int) = (d : Int) + 1 by omega]
      by_cases htn : p.turn = wn
      · have hown := showsB_own (d := d) (s := s) (m := m) (ks := ks) hop htn
        by_cases hb : s = true ∧ ks.length = 1
        · obtain ⟨rfl, hl⟩ := hb
          obtain ⟨kd, rfl⟩ := List.length_eq_one_iff.1 hl
          obtain ⟨bk, ok, Ad, cd, rfl, hcl, hsh⟩ := hkid 0 (by simp)
          simp only [Nat.zero_mul, Nat.add_zero] at hcl
          refine pshows_own_one r A cp wn d (by omega) p m bk ok ck kd Ad cd W _ hP hok hop htn hcl (fun hm => ?_) (fun hm => ?_) hsh
          · cases hv : showsB r wn (d + 1) p (.mk true m [kd]) with
            | false => rfl
            | true => exact absurd (hown.1 hv).2.1 hm
          · rw [Bool.eq_iff_iff, hown]
            constructor
            · rintro ⟨_, _, k, hk, hs⟩
              simp only [List.cons.injEq, and_true] at hk
              subst hk
              exact hs
            · exact fun hs => ⟨rfl, hm, kd, rfl, hs⟩
        · refine pshows_own_no r A cp wn d (by omega) p m s ks.length Ak ck W _ hP hok hop htn ?_ ?_
          · cases s
            · exact .inl rfl
            · exact .inr ⟨rfl, fun e => hb ⟨rfl, e⟩⟩
          · cases hv : showsB r wn (d + 1) p (.mk s m ks) with
            | false => rfl
            | true =>
              obtain ⟨hs, _, k, hk, _⟩ := hown.1 hv
              exact absurd ⟨hs, by rw [hk]; rfl⟩ hb
      · have hoth := showsB_other (d := d) (s := s) (m := m) (ks := ks) hop htn
        refine pshows_other r A cp wn d (by omega) p s m ks Ak ck W _ (nextL r p) rfl hP hok hop htn hkid (fun hb => ?_) (fun i h h2 hf => ?_) (fun hs hm hl hall => ?_)
        · cases hv : showsB r wn (d + 1) p (.mk s m ks) with
          | false => rfl
          | true =>
            obtain ⟨⟨e1, e2⟩, e3, _⟩ := hoth.1 hv
            rcases hb with h | h | h
            · rw [e1] at h; cases h
            · exact absurd e2 h
            · exact absurd e3 h
        · cases hv : showsB r wn (d + 1) p (.mk s m ks) with
          | false => rfl
          | true =>
            have := (hoth.1 hv).2.2 i h2 ks[i] (List.getElem?_eq_getElem h)
            rw [hf] at this
            cases this
        · refine hoth.2 ⟨⟨hs, hm⟩, hl, fun i h k hk => ?_⟩
          have hi : i < ks.length := by rw [hl]; exact h
          rw [List.getElem?_eq_getElem hi] at hk
          injection hk with hk
          rw [← hk]
          exact hall i hi h
    · exact pshows_end r A cp wn (d + 1) p ⟨s, m, ks⟩ Ak ck W h0 h1 hP hok (.inl hop) (showsB_end (.inl hop))
end Go.Proofs.YtdfegpohmaideaaGreat
/- The prover where the game is open, walked. -/
namespace Go.Proofs.YtdfegpohmaideaaGreat
open Go.RowKit Go.Maps
open Go.ChangeMaps (setBlock)

set_option maxHeartbeats 16000000 in
set_option maxRecDepth 100000 in
theorem prove_open (r : RulesD) (A : Option Addr) (cp : Nat) (wn : Int) (d : Nat) (hd9 : d < 9) (p : Pos) (W : World) (bx bm B0 : Nat) (m : List (St × Int)) (hok : OfOk r p) (hx : Blk W bx 103 #[.int .i64 r.start.w, .int .i64 r.start.h, .string r.start.cells, .int .i64 r.start.turn, .string r.start.h0, .string r.start.h1, .slice A r.pieces.length cp, .bool r.drops, .int .u8 r.lose, .int .i64 r.line, .int .u8 r.reach, .bool r.stuck, .int .i64 r.plies, .int .i64 wn, .map (some bm)]) (hm : SMap W bm m) (hg : GoodM r wn m) (hp : PiecesAt W B0 A r.pieces) (hb : B0 ≤ bm) (hop : endsN r p = 0)
    (ih : ∀ q, OfOk r q → ∀ w m', Blk w bx 103 #[.int .i64 r.start.w, .int .i64 r.start.h, .string r.start.cells, .int .i64 r.start.turn, .string r.start.h0, .string r.start.h1, .slice A r.pieces.length cp, .bool r.drops, .int .u8 r.lose, .int .i64 r.line, .int .u8 r.reach, .bool r.stuck, .int .i64 r.plies, .int .i64 wn, .map (some bm)] → SMap w bm m' → GoodM r wn m' → PiecesAt w B0 A r.pieces → Calls Tryz.prog 53 #[.pointer (some ⟨bx, 0, none⟩), .agg #[.int .i64 q.w, .int .i64 q.h, .string q.cells, .int .i64 q.turn, .string q.h0, .string q.h1], .int .i64 (d : Int)] w (PrOut r wn d q bm w)) :
    Calls Tryz.prog 53 #[.pointer (some ⟨bx, 0, none⟩), .agg #[.int .i64 p.w, .int .i64 p.h, .string p.cells, .int .i64 p.turn, .string p.h0, .string p.h1], .int .i64 ((d : Int) + 1)] W (PrOut r wn (d + 1) p bm W) := by
  have Hst := hide (PrSt.first (P := #[.int .i64 p.w, .int .i64 p.h, .string p.cells, .int .i64 p.turn, .string p.h0, .string p.h1]) hx hm hp hb)
  have Hnx := hide (fun w (hw : Later ((W.alloc (.cells #[.int .i64 p.w, .int .i64 p.h, .string p.cells, .int .i64 p.turn, .string p.h0, .string p.h1] 24)).alloc (.cells #[.bool false, .int .i64 0, .int .i64 0, .int .u8 0, .slice none 0 0] 58)) w) => nextN_any r A cp p w hok ((Hst.out.later_ hw).pcs.more (by have h := (Hst.out.later_ hw).map.lt; omega)))
  have Hg := hide hg
  have Hih := hide ih
  simp only [hop] at Hnx
  have hll : (movesL r p).length ≤ 10000 := movesL_len hok.pos
  have hnl : (nextL r p).length = (movesL r p).length := by simp [nextL]
  have tz : (((d : Int) + 1) == 0) = false := by simp; omega
  have tw : IntKind.i64.wrap ((d : Int) + 1 - 1) = (d : Int) := by rw [show (d : Int) + 1 - 1 = d by omega]; exact IntWalk.i64_in _ (by omega)
  have tw2 : IntKind.i64.wrap (d : Int) = (d : Int) := IntWalk.i64_in _ (by omega)
  have Hks := hide (show okS ((p, (d : Int) + 1) : St) from ⟨hok.pos, by simp only; omega, by simp only; omega⟩)
  have hx0 : bx < W.heap.size := hx.lt
  have hm0 : bm < W.heap.size := hm.lt
  obtain ⟨tb, htb⟩ : ∃ tb, decide (p.turn = wn) = tb := ⟨_, rfl⟩
  have t2 : (p.turn == wn) = tb := by rw [beq_dec]; exact htb
  have t3 : (p.turn != wn) = !tb := by rw [← t2]; rfl
  have Hlost := hide (fun (m' : List (St × Int)) (hg' : GoodM r wn m') (h : 0 < (getK m' ((p, (d : Int) + 1) : St)).getD 0) => hg'.hit (d := d + 1) (by omega) h)
  have Hput := hide (fun (m' : List (St × Int)) (hg' : GoodM r wn m') (h : winsN r wn (d + 1) p = false) (u : Int) => hg'.put (p := p) (d := d + 1) (x := (d : Int) + 1) (by omega) h u)
  have Hqo := hide (show ∀ Q, nextL r p = Q → ∀ i (h : i < Q.length), OfOk r Q[i] from fun Q hQ i h => by
    subst hQ
    obtain ⟨x, hx, e⟩ := List.mem_map.1 (List.getElem_mem h)
    rw [← e]
    exact (every_made hok (moves_every hx)).2)
  have Hown := hide (fun (e : tb = true) => own_hit (d := d) hop (htb.trans e))
  have Hoth := hide (fun (e : tb = false) => other_hit (d := d) hop (htb.trans e))
  have Hmis := hide (fun (e : tb = true) => own_miss (d := d) hop (htb.trans e))
  have Hall := hide (fun (e : tb = false) => other_all (d := d) hop (htb.trans e))
  obtain ⟨L, hL⟩ : ∃ L, movesL r p = L := ⟨_, rfl⟩
  obtain ⟨Q, hQ⟩ : ∃ Q, nextL r p = Q := ⟨_, rfl⟩
  have Hqo := hide (Hqo.out Q hQ)
  have Hown := hide (fun e => Hown.out e L Q hL hQ)
  have Hoth := hide (fun e => Hoth.out e Q hQ)
  have Hmis := hide (fun e => Hmis.out e Q hQ)
  have Hall := hide (fun e => Hall.out e Q hQ)
  simp only [hL, hQ] at Hnx hll hnl
  have Hnl := hide hnl
  clear hx hm hp hg hok ih hop htb hL hQ hnl
  go_enter Tryz.func53, Tryz.ntmps53
  go_upto_region 1 with (fail)
  obtain ⟨w0, hw0⟩ : ∃ w0, ((W.alloc (.cells #[.int .i64 p.w, .int .i64 p.h, .string p.cells, .int .i64 p.turn, .string p.h0, .string p.h1] 24)).alloc (.cells #[.bool false, .int .i64 0, .int .i64 0, .int .u8 0, .slice none 0 0] 58)) = w0 := ⟨_, rfl⟩
  rw [hw0] at Hst Hnx ⊢
  clear hw0
  have HS := hide (show ∀ w' : World, Later w0 w' → (w'.cell? ⟨bx, 0, none⟩ = some (.int .i64 r.start.w) ∧ w'.cell? ⟨bx, 1, none⟩ = some (.int .i64 r.start.h) ∧ w'.cell? ⟨bx, 2, none⟩ = some (.string r.start.cells) ∧ w'.cell? ⟨bx, 3, none⟩ = some (.int .i64 r.start.turn) ∧ w'.cell? ⟨bx, 4, none⟩ = some (.string r.start.h0) ∧ w'.cell? ⟨bx, 5, none⟩ = some (.string r.start.h1) ∧ w'.cell? ⟨bx, 6, none⟩ = some (.slice A r.pieces.length cp) ∧ w'.cell? ⟨bx, 7, none⟩ = some (.bool r.drops) ∧ w'.cell? ⟨bx, 8, none⟩ = some (.int .u8 r.lose) ∧ w'.cell? ⟨bx, 9, none⟩ = some (.int .i64 r.line) ∧ w'.cell? ⟨bx, 10, none⟩ = some (.int .u8 r.reach) ∧ w'.cell? ⟨bx, 11, none⟩ = some (.bool r.stuck) ∧ w'.cell? ⟨bx, 12, none⟩ = some (.int .i64 r.plies) ∧ w'.cell? ⟨bx, 13, none⟩ = some (.int .i64 wn) ∧ w'.cell? ⟨bx, 14, none⟩ = some (.map (some bm)) ∧ w'.cell? ⟨W.heap.size, 0, none⟩ = some (.int .i64 p.w) ∧ w'.cell? ⟨W.heap.size, 1, none⟩ = some (.int .i64 p.h) ∧ w'.cell? ⟨W.heap.size, 2, none⟩ = some (.string p.cells) ∧ w'.cell? ⟨W.heap.size, 3, none⟩ = some (.int .i64 p.turn) ∧ w'.cell? ⟨W.heap.size, 4, none⟩ = some (.string p.h0) ∧ w'.cell? ⟨W.heap.size, 5, none⟩ = some (.string p.h1)) from fun w' hw => by
    have h := Hst.out.later_ hw
    obtain ⟨x0, x1, x2, x3, x4, x5, x6, x7, x8, x9, x10, x11, x12, x13, x14⟩ := h.x.prover
    obtain ⟨p0, p1, p2, p3, p4, p5⟩ := h.p.pos6
    exact ⟨x0, x1, x2, x3, x4, x5, x6, x7, x8, x9, x10, x11, x12, x13, x14, p0, p1, p2, p3, p4, p5⟩)
  refine wp_region_held_drew (S := fun w' : World => (w'.cell? ⟨bx, 0, none⟩ = some (.int .i64 r.start.w) ∧ w'.cell? ⟨bx, 1, none⟩ = some (.int .i64 r.start.h) ∧ w'.cell? ⟨bx, 2, none⟩ = some (.string r.start.cells) ∧ w'.cell? ⟨bx, 3, none⟩ = some (.int .i64 r.start.turn) ∧ w'.cell? ⟨bx, 4, none⟩ = some (.string r.start.h0) ∧ w'.cell? ⟨bx, 5, none⟩ = some (.string r.start.h1) ∧ w'.cell? ⟨bx, 6, none⟩ = some (.slice A r.pieces.length cp) ∧ w'.cell? ⟨bx, 7, none⟩ = some (.bool r.drops) ∧ w'.cell? ⟨bx, 8, none⟩ = some (.int .u8 r.lose) ∧ w'.cell? ⟨bx, 9, none⟩ = some (.int .i64 r.line) ∧ w'.cell? ⟨bx, 10, none⟩ = some (.int .u8 r.reach) ∧ w'.cell? ⟨bx, 11, none⟩ = some (.bool r.stuck) ∧ w'.cell? ⟨bx, 12, none⟩ = some (.int .i64 r.plies) ∧ w'.cell? ⟨bx, 13, none⟩ = some (.int .i64 wn) ∧ w'.cell? ⟨bx, 14, none⟩ = some (.map (some bm)) ∧ w'.cell? ⟨W.heap.size, 0, none⟩ = some (.int .i64 p.w) ∧ w'.cell? ⟨W.heap.size, 1, none⟩ = some (.int .i64 p.h) ∧ w'.cell? ⟨W.heap.size, 2, none⟩ = some (.string p.cells) ∧ w'.cell? ⟨W.heap.size, 3, none⟩ = some (.int .i64 p.turn) ∧ w'.cell? ⟨W.heap.size, 4, none⟩ = some (.string p.h0) ∧ w'.cell? ⟨W.heap.size, 5, none⟩ = some (.string p.h1))) (by kernel_rfl) (HS.out _ Later.rfl.drew) (fun hHeld => ?_)
  refine wpAnyH_take (i := 0) (oi := ⟨some 17, _, _, _, _, _⟩) (v := ?_) rfl (by kernel_rfl) (by kernel_rfl) (by kernel_rfl) (fun _ _ _ h => h) (Or.inl ⟨by rfl, ?_⟩) (by assumption) ?_
  rotate_left 1
  · intro w hSw
    try dsimp only at hSw
    go_simp <;> with_reducible rfl
  try simp only [Act.put, List.setIfInBounds_toArray, List.set_cons_zero, List.set_cons_succ]
  refine wpAnyH_take (i := 1) (oi := ⟨some 18, _, _, _, _, _⟩) (v := ?_) rfl (by kernel_rfl) (by kernel_rfl) (by kernel_rfl) (fun _ _ _ h => h) (Or.inl ⟨by rfl, ?_⟩) (by assumption) ?_
  rotate_left 1
  · intro w hSw
    try dsimp only at hSw
    go_simp <;> with_reducible rfl
  try simp only [Act.put, List.setIfInBounds_toArray, List.set_cons_zero, List.set_cons_succ]
  refine wpAnyH_take (i := 2) (oi := ⟨some 19, _, _, _, _, _⟩) (v := ?_) rfl (by kernel_rfl) (by kernel_rfl) (by kernel_rfl) (fun _ _ _ h => h) (Or.inl ⟨by rfl, ?_⟩) (by assumption) ?_
  rotate_left 1
  · intro w hSw
    try dsimp only at hSw
    go_simp <;> with_reducible rfl
  try simp only [Act.put, List.setIfInBounds_toArray, List.set_cons_zero, List.set_cons_succ]
  refine wpAnyH_take (i := 3) (oi := ⟨some 20, _, _, _, _, _⟩) (v := ?_) rfl (by kernel_rfl) (by kernel_rfl) (by kernel_rfl) (fun _ _ _ h => h) (Or.inl ⟨by rfl, ?_⟩) (by assumption) ?_
  rotate_left 1
  · intro w hSw
    try dsimp only at hSw
    go_simp <;> with_reducible rfl
  try simp only [Act.put, List.setIfInBounds_toArray, List.set_cons_zero, List.set_cons_succ]
  refine wpAnyH_take (i := 4) (oi := ⟨some 21, _, _, _, _, _⟩) (v := ?_) rfl (by kernel_rfl) (by kernel_rfl) (by kernel_rfl) (fun _ _ _ h => h) (Or.inl ⟨by rfl, ?_⟩) (by assumption) ?_
  rotate_left 1
  · intro w hSw
    try dsimp only at hSw
    go_simp <;> with_reducible rfl
  try simp only [Act.put, List.setIfInBounds_toArray, List.set_cons_zero, List.set_cons_succ]
  refine wpAnyH_ready (rs := [5]) (by kernel_rfl) (by simp) ?_
  refine AllReadyH.cons (o := ⟨some 22, _, _, _, _, _⟩) rfl (fun K hK => ?_) ?_
  · clear hHeld
    go_simp
    go_at_call 44
    refine (Hnx.out _ (by repeat (first | exact Later.rfl | refine Later.drew ?_))).mono ?_
    rintro e wt ⟨A1, c1, A2, c2, rfl, hcm, hcq, hwx⟩
    have hwq : Later w0 wt := Later.trans (by repeat (first | exact Later.rfl | refine Later.drew ?_)) hwx
    clear hwx
    try go_wp2_with fail
    refine hK.out _ _ (by refine HS.out _ ?_; repeat (first | exact Later.rfl | exact hwq | refine Later.drew ?_)) (fun hHeld => ?_)
    clear hK K
    try simp only [Act.put, List.setIfInBounds_toArray, List.set_cons_zero, List.set_cons_succ]
    refine wpAnyH_take (i := 6) (oi := ⟨some 16, _, _, _, _, _⟩) (v := ?_) rfl (by kernel_rfl) (by kernel_rfl) (by kernel_rfl) (fun _ _ _ h => h) (Or.inl ⟨by rfl, ?_⟩) (by assumption) ?_
    rotate_left 1
    · intro w hSw
      try dsimp only at hSw
      go_simp <;> with_reducible rfl
    try simp only [Act.put, List.setIfInBounds_toArray, List.set_cons_zero, List.set_cons_succ]
    refine wpAnyH_take (i := 7) (oi := ⟨some 23, _, _, _, _, _⟩) (v := ?_) rfl (by kernel_rfl) (by kernel_rfl) (by kernel_rfl) (fun _ _ _ h => h) (Or.inl ⟨by rfl, ?_⟩) (by assumption) ?_
    rotate_left 1
    · intro w hSw
      try dsimp only at hSw
      go_simp <;> with_reducible rfl
    try simp only [Act.put, List.setIfInBounds_toArray, List.set_cons_zero, List.set_cons_succ]
    refine wpAnyH_take (i := 8) (oi := ⟨some 24, _, _, _, _, _⟩) (v := ?_) rfl (by kernel_rfl) (by kernel_rfl) (by kernel_rfl) (fun _ _ _ h => h) (Or.inl ⟨by rfl, ?_⟩) (by assumption) ?_
    rotate_left 1
    · intro w hSw
      try dsimp only at hSw
      go_simp <;> with_reducible rfl
    try simp only [Act.put, List.setIfInBounds_toArray, List.set_cons_zero, List.set_cons_succ]
    refine wpAnyH_take (i := 9) (oi := ⟨some 25, _, _, _, _, _⟩) (v := ?_) rfl (by kernel_rfl) (by kernel_rfl) (by kernel_rfl) (fun _ _ _ h => h) (Or.inl ⟨by rfl, ?_⟩) (by assumption) ?_
    rotate_left 1
    · intro w hSw
      try dsimp only at hSw
      go_simp <;> with_reducible rfl
    try simp only [Act.put, List.setIfInBounds_toArray, List.set_cons_zero, List.set_cons_succ]
    refine wpAnyH_take (i := 10) (oi := ⟨some 8, _, _, _, _, _⟩) (v := ?_) rfl (by kernel_rfl) (by kernel_rfl) (by kernel_rfl) (fun _ _ _ h => h) (Or.inl ⟨by rfl, ?_⟩) (by assumption) ?_
    rotate_left 1
    · intro w hSw
      try dsimp only at hSw
      go_simp <;> with_reducible rfl
    try simp only [Act.put, List.setIfInBounds_toArray, List.set_cons_zero, List.set_cons_succ]
    refine wpAnyH_take (i := 11) (oi := ⟨some 9, _, _, _, _, _⟩) (v := ?_) rfl (by kernel_rfl) (by kernel_rfl) (by kernel_rfl) (fun _ _ _ h => h) (Or.inl ⟨by rfl, ?_⟩) (by assumption) ?_
    rotate_left 1
    · intro w hSw
      try dsimp only at hSw
      go_simp <;> with_reducible rfl
    try simp only [Act.put, List.setIfInBounds_toArray, List.set_cons_zero, List.set_cons_succ]
    refine wpAnyH_take (i := 12) (oi := ⟨some 10, _, _, _, _, _⟩) (v := ?_) rfl (by kernel_rfl) (by kernel_rfl) (by kernel_rfl) (fun _ _ _ h => h) (Or.inl ⟨by rfl, ?_⟩) (by assumption) ?_
    rotate_left 1
    · intro w hSw
      try dsimp only at hSw
      go_simp <;> with_reducible rfl
    try simp only [Act.put, List.setIfInBounds_toArray, List.set_cons_zero, List.set_cons_succ]
    refine wpAnyH_done (by kernel_rfl) ?_ _
    have Hst1 := hide (Hst.out.later_ hwq)
    have Hcm := hide hcm
    have Hcq := hide hcq
    clear hHeld HS Hst hwq hcm hcq
    obtain ⟨w1, hw1⟩ : ∃ w1, wt = w1 := ⟨_, rfl⟩
    rw [hw1] at Hst1 Hcm Hcq ⊢
    clear hw1
    clear Hnx
    go_upto_region 4 with (fail)
    clear tz
    obtain ⟨v0, hv0⟩ : ∃ v0, (getK m ((p, (d : Int) + 1) : St)).getD 0 = v0 := ⟨_, rfl⟩
    obtain ⟨bl, hbl⟩ : ∃ bl, decide (0 < v0) = bl := ⟨_, rfl⟩
    go_cut [48] from 40 to 48 (fun x w' => x = .bool bl ∧ Later w1 w')
    case first =>
      have hL0 := MapL.look (e := 3) (t := 101) Hst1.out.map keyEncS Tryz.underlying101 (zeroI _) (a := ((p, (d : Int) + 1) : St)) Hks.out false
      have hL1 := MapL.look (e := 3) (t := 101) (w := w1.drew) Hst1.out.map keyEncS Tryz.underlying101 (zeroI _) (a := ((p, (d : Int) + 1) : St)) Hks.out false
      have hkv : ∀ o : Option Int, (o.map kbI).getD (kbI 0) = kbI (o.getD 0) := fun o => by cases o <;> rfl
      simp only [Bool.false_eq_true, if_false, hkv, hv0] at hL0 hL1
      simp only [stK, kbI] at hL0 hL1
      obtain ⟨x0, x1, x2, x3, x4, x5, x6, x7, x8, x9, x10, x11, x12, x13, x14⟩ := Hst1.out.x.prover
      obtain ⟨p0, p1, p2, p3, p4, p5⟩ := Hst1.out.p.pos6
      clear hkv hv0
      go_big_region
      go_wp2_with fail
      go_meet
      case rel => exact ⟨by rw [← hbl] <;> simp, (by repeat (first | exact Later.rfl | refine Later.drewN ?_ _ | refine Later.drew ?_ | refine Later.alloc ?_ _))⟩
    case rest =>
      obtain ⟨rfl, hw⟩ := hcut
      rename World => w2
      have Hst2 := hide (Hst1.out.later_ hw)
      have Hcm2 := hide ((Hcm.out.below hw).more hw.size)
      have Hcq2 := hide ((Hcq.out.below hw).more hw.size)
      clear hw Hst1 Hcm Hcq
      cases bl
      case true =>
        have HR := hide (Hlost.out m Hg.out (by rw [hv0]; exact of_decide_eq_true hbl))
        clear hbl hv0
        go_upto_region 5 with (fail)
        refine wp_region_lit ?_
        refine wpList_plain rfl (fun K hK => ?_)
        go_simp
        refine hK _ _ ?_
        clear hK K
        refine wpList_plain rfl (fun K hK => ?_)
        refine wp_store_row 58 (.tmp 6) (.tmp 49) rfl (W.heap.size + 1) #[.bool false, .int .i64 0, .int .i64 0, .int .u8 0, .slice none 0 0] rfl rfl 58 _ Hst2.out.z (by kernel_rfl) (by simp) (by simp [Value.oneCell']) ?_
        refine hK _ _ ?_
        clear hK K
        have hzz := setRow_blk5 (vs := #[.bool false, .int .i64 0, .int .i64 0, .int .u8 0, .slice none 0 0]) Hst2.out.z
        have Hkz := hide (Hst2.out.kp.setRow (g := W.heap.size + 1) (vs := #[.bool false, .int .i64 0, .int .i64 0, .int .u8 0, .slice none 0 0]) (by omega))
        have Hmz := hide (SMap.setRow (g := W.heap.size + 1) (vs := #[.bool false, .int .i64 0, .int .i64 0, .int .u8 0, .slice none 0 0]) Hst2.out.map (by omega))
        obtain ⟨wz, hwz⟩ : ∃ wz, World.setRow w2 (W.heap.size + 1) #[.bool false, .int .i64 0, .int .i64 0, .int .u8 0, .slice none 0 0] = wz := ⟨_, rfl⟩
        rw [hwz] at hzz Hkz Hmz ⊢
        clear hwz
        obtain ⟨z0, z1, z2, z3, z4⟩ := hzz.cert5
        go_wp2_with fail
        refine bodyPost_ret (v := .tuple #[.agg #[.bool false, .int .i64 0, .int .i64 0, .int .u8 0, .slice none 0 0], .bool false]) (by simp [results, Tryz.results53, go_sem, z0, z1, z2, z3, z4]) rfl ?_
        exact PrOut.zero Hmz.out Hg.out Hkz.out HR.out (fun e => by cases e)
      case false =>
        clear hbl hv0
        go_wp2_with fail
        have Hnil := hide (World.ownsRow_nil w2 w2.heap.size 58 5)
        go_loopw [11, 52] (fun sv kv wr => ∃ (k : Nat) (m' : List (St × Int)) (l : List Kid), k ≤ Q.length ∧ kv = .int .i64 (k : Int) ∧ l.length = k ∧ wr.ownsRow w2.heap.size 58 5 sv k (kidsC l) ∧ KidsIn wr (fun b => sv.ownBlock ≠ some b ∧ w2.heap.size ≤ b) d l ∧ PrSt W #[.int .i64 p.w, .int .i64 p.h, .string p.cells, .int .i64 p.turn, .string p.h0, .string p.h1] #[.int .i64 r.start.w, .int .i64 r.start.h, .string r.start.cells, .int .i64 r.start.turn, .string r.start.h0, .string r.start.h1, .slice A r.pieces.length cp, .bool r.drops, .int .u8 r.lose, .int .i64 r.line, .int .u8 r.reach, .bool r.stuck, .int .i64 r.plies, .int .i64 wn, .map (some bm)] bx bm B0 A r.pieces m' wr ∧ GoodM r wn m' ∧ Kp bm w2 wr ∧ LoopP r wn d tb Q l) (fun _ kv _ => Q.length - (intOf kv).toNat)
        case atStart => exact ⟨0, m, [], by omega, rfl, rfl, Hnil.out, fun x hx => absurd hx (by simp), Hst2.out, Hg.out, Only.refl _ _, fun i h h2 => absurd h2 (by simp)⟩
        case round =>
          rename World => wr
          obtain ⟨k, m1, l, hk, rfl, hlk, hown, hkids, hst, hgm, hkp, hlp⟩ := hrel
          have Hlk := hide hlk
          have Hrow := hide hown
          have Hkids := hide hkids
          have Hstr := hide hst
          have Hgm := hide hgm
          have Hkp := hide hkp
          have Hlp := hide hlp
          clear hlk hown hkids hst hgm hkp hlp Hnil
          have Hsz := hide (show w2.heap.size ≤ wr.heap.size from Hkp.out.size)
          have hz2 : W.heap.size + 1 < w2.heap.size := Hst2.out.z.lt
          by_cases hlt : k < Q.length
          · have hk1 : (0 : Int) ≤ (k : Int) := by omega
            have hk2 : (k : Int) < (Q.length : Int) := by omega
            have t1 : decide ((k : Int) < (Q.length : Int)) = true := by simp; omega
            have t1n : decide (k < Q.length) = true := by simp; omega
            have hkl : k < L.length := by rw [← Hnl.out]; exact hlt
            have hk3 : (k : Int) < (L.length : Int) := by omega
            have Hcqr := hide (Kp.cells Hkp.out Hst2.out.map Hcq2.out)
            have Hcmr := hide (Kp.cells Hkp.out Hst2.out.map Hcm2.out)
            obtain ⟨bq, oq, rfl, hbq, q0, q1, q2, q3, q4, q5⟩ := qAt Hcqr.out hlt
            have hqo := Hqo.out k hlt
            have hown := fun e => Hown.out e k hlt hkl
            have hoth := fun e => Hoth.out e k hlt
            have hsn := fun (x : Kid) => LoopP.snoc' (x := x) Hlp.out Hlk.out hlt
            obtain ⟨q, hq⟩ : ∃ q, Q[k] = q := ⟨_, rfl⟩
            rw [hq] at q0 q1 q2 q3 q4 q5 hqo
            simp only [hq] at hown hoth hsn
            obtain ⟨v, hv⟩ : ∃ v, winsN r wn d q = v := ⟨_, rfl⟩
            simp only [hv] at hown hoth hsn
            obtain ⟨mm, hmm⟩ : ∃ mm, L[k] = mm := ⟨_, rfl⟩
            simp only [hmm] at hown
            have HownK := hide hown
            have HothK := hide hoth
            have Hsn := hide hsn
            have Hmm := hide hmm
            clear hq hown hoth hsn hmm
            go_upto_region 10 with (fail)
            have Hla := hide (show Later wr (wr.alloc (.cells #[.int .i64 q.w, .int .i64 q.h, .string q.cells, .int .i64 q.turn, .string q.h0, .string q.h1] 24)) from Later.rfl.alloc _)
            have Hba := hide (Blk.new wr 24 #[.int .i64 q.w, .int .i64 q.h, .string q.cells, .int .i64 q.turn, .string q.h0, .string q.h1])
            obtain ⟨wa, hwa⟩ : ∃ wa, wr.alloc (.cells #[.int .i64 q.w, .int .i64 q.h, .string q.cells, .int .i64 q.turn, .string q.h0, .string q.h1] 24) = wa := ⟨_, rfl⟩
            rw [hwa] at Hla Hba ⊢
            obtain ⟨gq, hgq⟩ : ∃ gq, wr.heap.size = gq := ⟨_, rfl⟩
            rw [hgq] at Hba ⊢
            clear hwa hgq q0 q1 q2 q3 q4 q5 hbq Hcqr
            obtain ⟨q0, q1, q2, q3, q4, q5⟩ := Hba.out.pos6
            have Hsta := hide (Hstr.out.later_ Hla.out)
            have hia := Hih.out q hqo wa m1 Hsta.out.x Hsta.out.map Hgm.out Hsta.out.pcs
            rw [show PrOut r wn d q bm wa = PrAns r wn (winsN r wn d q) (ShowsN r wn d q) d bm wa from rfl, hv] at hia
            have HihA := hide hia
            clear hia hqo hv
            go_upto_region 11 with (go_at_call 53; refine HihA.out.mono ?_; rintro e wb ⟨m2, c, A', cp', hmb, hgb, hkb, rfl, hle, hci, hsh, -⟩)
            have Hgb := hide hgb
            have Hkb := hide hkb
            have Hle := hide hle
            have Hci := hide hci
            have Hsh := hide hsh
            have Hstb := hide (Hsta.out.kp_ hkb hmb)
            have Hkeep := hide (show ∀ b o v, wr.cell? ⟨b, o, none⟩ = some v → wb.cell? ⟨b, o, none⟩ = some v from fun b o v h => Kp.cell hkb Hsta.out.map (Kp.cell (Kp.of_later Hla.out) Hstr.out.map h))
            have Hrowb := hide (ownsRow_only (own_later Hrow.out Hla.out) hkb (fun g hg e => by have := (Hrow.out.lt g hg).1; omega))
            have Hkpb := hide ((Hkp.out.trans (Kp.of_later Hla.out)).trans hkb)
            have Hcmb := hide (Kp.cells hkb Hsta.out.map (Kp.cells (Kp.of_later Hla.out) Hstr.out.map Hcmr.out))
            have hab : wa.heap.size ≤ wb.heap.size := hkb.size
            have hra : wr.heap.size ≤ wa.heap.size := Hla.out.size
            clear hgb hkb hle hci hsh hmb q0 q1 q2 q3 q4 q5 tw tw2
            have Hlc := hide (show Later wb (wb.alloc (.cells #[.bool c.s, .int .i64 c.m.f, .int .i64 c.m.t, .int .u8 (c.m.c : Int), .slice A' c.kids.length cp'] 58)) from Later.rfl.alloc _)
            have Hbc := hide (Blk.new wb 58 #[.bool c.s, .int .i64 c.m.f, .int .i64 c.m.t, .int .u8 (c.m.c : Int), .slice A' c.kids.length cp'])
            obtain ⟨wc, hwc⟩ : ∃ wc, wb.alloc (.cells #[.bool c.s, .int .i64 c.m.f, .int .i64 c.m.t, .int .u8 (c.m.c : Int), .slice A' c.kids.length cp'] 58) = wc := ⟨_, rfl⟩
            rw [hwc] at Hlc Hbc ⊢
            obtain ⟨gc, hgc⟩ : ∃ gc, wb.heap.size = gc := ⟨_, rfl⟩
            have hgc2 : W.heap.size + 1 < gc := by have := Hsz.out; omega
            rw [hgc] at Hbc ⊢
            clear hwc
            have Hstc := hide (Hstb.out.later_ Hlc.out)
            go_cut [74] from 65 to 74 (fun x w' => x = .bool (v && tb) ∧ Later wc w')
            case first =>
              obtain ⟨x0, x1, x2, x3, x4, x5, x6, x7, x8, x9, x10, x11, x12, x13, x14⟩ := Hstc.out.x.prover
              obtain ⟨p0, p1, p2, p3, p4, p5⟩ := Hstc.out.p.pos6
              cases v <;> cases tb <;> (go_quiet (fail); go_wp2_with fail; go_meet; case rel => exact ⟨rfl, (by repeat (first | exact Later.rfl | refine Later.drewN ?_ _ | refine Later.drew ?_ | refine Later.alloc ?_ _))⟩)
            case rest =>
              obtain ⟨rfl, hw⟩ := hcut
              rename World => wd
              have Hld := hide (Hlc.out.trans hw)
              have Hstd := hide (Hstc.out.later_ hw)
              have Hbd := hide (hw.blk Hbc.out)
              clear hw Hstc Hbc Hlc
              have hvt : (v = true ∧ tb = true) ∨ (v = false ∧ tb = false) ∨ (v = !tb) := by cases v <;> cases tb <;> simp
              rcases hvt with ⟨rfl, rfl⟩ | ⟨rfl, rfl⟩ | hvt
              · go_upto_region 12 with (fail)
                obtain ⟨b1, o1, rfl, hb1, y0, y1, y2⟩ := mv_at (Hcmb.out.keep' (fun b o v h => Kp.cell (bm := bm) (Kp.of_later Hld.out) Hstb.out.map h)) hkl
                rw [Hmm.out] at y0 y1 y2
                have HS := hide (show ∀ w' : World, Later wd w' → (w'.cell? ⟨b1, o1 + k * 3, none⟩ = some (.int .i64 mm.f) ∧ w'.cell? ⟨b1, o1 + k * 3 + 1, none⟩ = some (.int .i64 mm.t) ∧ w'.cell? ⟨b1, o1 + k * 3 + 2, none⟩ = some (.int .u8 (mm.c : Int)) ∧ w'.cell? ⟨gc, 0, none⟩ = some (.bool c.s) ∧ w'.cell? ⟨gc, 1, none⟩ = some (.int .i64 c.m.f) ∧ w'.cell? ⟨gc, 2, none⟩ = some (.int .i64 c.m.t) ∧ w'.cell? ⟨gc, 3, none⟩ = some (.int .u8 (c.m.c : Int)) ∧ w'.cell? ⟨gc, 4, none⟩ = some (.slice A' c.kids.length cp')) from fun w' hw => by
                  obtain ⟨c0, c1, c2, c3, c4⟩ := (hw.blk Hbd.out).cert5
                  have hk := fun b o v h => Kp.cell (bm := bm) (Kp.of_later hw) Hstd.out.map (b := b) (o := o) (v := v) h
                  exact ⟨hk _ _ _ y0, hk _ _ _ y1, hk _ _ _ y2, c0, c1, c2, c3, c4⟩)
                have HT := hide (show ∀ X : World, Later wd X → (fun w' : World => (w'.cell? ⟨b1, o1 + k * 3, none⟩ = some (.int .i64 mm.f) ∧ w'.cell? ⟨b1, o1 + k * 3 + 1, none⟩ = some (.int .i64 mm.t) ∧ w'.cell? ⟨b1, o1 + k * 3 + 2, none⟩ = some (.int .u8 (mm.c : Int)) ∧ w'.cell? ⟨gc, 0, none⟩ = some (.bool c.s) ∧ w'.cell? ⟨gc, 1, none⟩ = some (.int .i64 c.m.f) ∧ w'.cell? ⟨gc, 2, none⟩ = some (.int .i64 c.m.t) ∧ w'.cell? ⟨gc, 3, none⟩ = some (.int .u8 (c.m.c : Int)) ∧ w'.cell? ⟨gc, 4, none⟩ = some (.slice A' c.kids.length cp'))) (X.setRow (W.heap.size + 1) #[.bool true, .int .i64 mm.f, .int .i64 mm.t, .int .u8 (mm.c : Int), .slice (some ⟨wd.heap.size, 0, none⟩) 1 1]) from fun X hw => by
                  obtain ⟨z0, z1, z2, c0, c1, c2, c3, c4⟩ := HS.out X hw
                  obtain ⟨m0, m1, m2⟩ := mv_setRow (sl := .slice (some ⟨wd.heap.size, 0, none⟩) 1 1) (Hstd.out.later_ hw).z z0 z1 z2
                  have hg : gc ≠ W.heap.size + 1 := by omega
                  exact ⟨m0, m1, m2, cell_setRow c0 hg, cell_setRow c1 hg, cell_setRow c2 hg, cell_setRow c3 hg, cell_setRow c4 hg⟩)
                clear y0 y1 y2
                refine wp_region_held_drew (S := fun w' : World => (w'.cell? ⟨b1, o1 + k * 3, none⟩ = some (.int .i64 mm.f) ∧ w'.cell? ⟨b1, o1 + k * 3 + 1, none⟩ = some (.int .i64 mm.t) ∧ w'.cell? ⟨b1, o1 + k * 3 + 2, none⟩ = some (.int .u8 (mm.c : Int)) ∧ w'.cell? ⟨gc, 0, none⟩ = some (.bool c.s) ∧ w'.cell? ⟨gc, 1, none⟩ = some (.int .i64 c.m.f) ∧ w'.cell? ⟨gc, 2, none⟩ = some (.int .i64 c.m.t) ∧ w'.cell? ⟨gc, 3, none⟩ = some (.int .u8 (c.m.c : Int)) ∧ w'.cell? ⟨gc, 4, none⟩ = some (.slice A' c.kids.length cp'))) (by kernel_rfl) (HS.out _ Later.rfl.drew) (fun hHeld => ?_)
                refine wpAnyH_take (i := 0) (oi := ⟨some 75, _, _, _, _, _⟩) (v := ?_) rfl (by kernel_rfl) (by kernel_rfl) (by kernel_rfl) (fun _ _ _ h => h) (Or.inl ⟨by rfl, ?_⟩) (by assumption) ?_
                rotate_left 1
                · intro w hSw
                  try dsimp only at hSw
                  go_simp <;> with_reducible rfl
                try simp only [Act.put, List.setIfInBounds_toArray, List.set_cons_zero, List.set_cons_succ]
                refine wpAnyH_take (i := 1) (oi := ⟨some 76, _, _, _, _, _⟩) (v := ?_) rfl (by kernel_rfl) (by kernel_rfl) (by kernel_rfl) (fun _ _ _ h => h) (Or.inl ⟨by rfl, ?_⟩) (by assumption) ?_
                rotate_left 1
                · intro w hSw
                  try dsimp only at hSw
                  go_simp <;> with_reducible rfl
                try simp only [Act.put, List.setIfInBounds_toArray, List.set_cons_zero, List.set_cons_succ]
                refine wpAnyH_take (i := 2) (oi := ⟨some 77, _, _, _, _, _⟩) (v := ?_) rfl (by kernel_rfl) (by kernel_rfl) (by kernel_rfl) (fun _ _ _ h => h) (Or.inl ⟨by rfl, ?_⟩) (by assumption) ?_
                rotate_left 1
                · intro w hSw
                  try dsimp only at hSw
                  go_simp <;> with_reducible rfl
                try simp only [Act.put, List.setIfInBounds_toArray, List.set_cons_zero, List.set_cons_succ]
                refine wpAnyH_take (i := 3) (oi := ⟨some 78, _, _, _, _, _⟩) (v := ?_) rfl (by kernel_rfl) (by kernel_rfl) (by kernel_rfl) (fun _ _ _ h => h) (Or.inl ⟨by rfl, ?_⟩) (by assumption) ?_
                rotate_left 1
                · intro w hSw
                  try dsimp only at hSw
                  go_simp <;> with_reducible rfl
                try simp only [Act.put, List.setIfInBounds_toArray, List.set_cons_zero, List.set_cons_succ]
                refine wpAnyH_take (i := 4) (oi := ⟨some 79, _, _, _, _, _⟩) (v := ?_) rfl (by kernel_rfl) (by kernel_rfl) (by kernel_rfl) (fun _ _ _ h => h) (Or.inl ⟨by rfl, ?_⟩) (by assumption) ?_
                rotate_left 1
                · intro w hSw
                  try dsimp only at hSw
                  go_simp <;> with_reducible rfl
                try simp only [Act.put, List.setIfInBounds_toArray, List.set_cons_zero, List.set_cons_succ]
                refine wpAnyH_ready (rs := [5]) (by kernel_rfl) (by simp) ?_
                refine AllReadyH.cons (o := ⟨some 80, _, _, _, _, _⟩) rfl (fun K hK => ?_) ?_
                · clear hHeld
                  go_simp
                  refine hK.out _ _ (by first | exact HS.out _ (Later.rfl.alloc _).drew | exact HS.out _ (Later.rfl.drew.alloc _) | exact HT.out _ (Later.rfl.alloc _).drew | exact HT.out _ (Later.rfl.drew.alloc _)) (fun hHeld => ?_)
                  clear hK K
                  try simp only [Act.put, List.setIfInBounds_toArray, List.set_cons_zero, List.set_cons_succ]
                  refine wpAnyH_take (i := 6) (oi := ⟨some 81, _, _, _, _, _⟩) (v := ?_) rfl (by kernel_rfl) (by kernel_rfl) (by kernel_rfl) (fun _ _ _ h => h) (Or.inl ⟨by rfl, ?_⟩) (by assumption) ?_
                  rotate_left 1
                  · intro w hSw
                    try dsimp only at hSw
                    go_simp <;> with_reducible rfl
                  try simp only [Act.put, List.setIfInBounds_toArray, List.set_cons_zero, List.set_cons_succ]
                  refine wpAnyH_ready (rs := [7]) (by kernel_rfl) (by simp) ?_
                  refine AllReadyH.cons (o := ⟨none, _, _, _, _, _⟩) rfl (fun K hK => ?_) ?_
                  · clear hHeld
                    rw [if_pos (by rfl)]
                    refine wp_store_row 58 (.tmp 6) (.tmp 81) rfl (W.heap.size + 1) #[.bool true, .int .i64 mm.f, .int .i64 mm.t, .int .u8 (mm.c : Int), .slice (some ⟨wd.heap.size, 0, none⟩) 1 1] rfl rfl 58 _ (show Blk _ _ 58 #[.bool false, .int .i64 0, .int .i64 0, .int .u8 0, .slice none 0 0] from (Hstd.out.z.alloc _).drew) (by kernel_rfl) (by simp) (by simp [Value.oneCell']) ?_
                    try go_wp2_with fail
                    refine hK.out _ _ (by first | exact HS.out _ (Later.rfl.alloc _).drew | exact HS.out _ (Later.rfl.drew.alloc _) | exact HT.out _ (Later.rfl.alloc _).drew | exact HT.out _ (Later.rfl.drew.alloc _)) (fun hHeld => ?_)
                    clear hK K
                    try simp only [Act.put]
                    refine wpAnyH_take (i := 8) (oi := ⟨some 7, _, _, _, _, _⟩) (v := ?_) rfl (by kernel_rfl) (by kernel_rfl) (by kernel_rfl) (fun _ _ _ h => h) (Or.inl ⟨by rfl, ?_⟩) (by assumption) ?_
                    rotate_left 1
                    · intro w hSw
                      try dsimp only at hSw
                      go_simp <;> with_reducible rfl
                    try simp only [Act.put, List.setIfInBounds_toArray, List.set_cons_zero, List.set_cons_succ]
                    refine wpAnyH_done (by kernel_rfl) ?_ _
                    obtain ⟨wy, hwy⟩ : ∃ wy, (wd.alloc (.cells #[.bool c.s, .int .i64 c.m.f, .int .i64 c.m.t, .int .u8 (c.m.c : Int), .slice A' c.kids.length cp'] 58)).drew = wy := ⟨_, rfl⟩
                    have hby : Blk wy wd.heap.size 58 #[.bool c.s, .int .i64 c.m.f, .int .i64 c.m.t, .int .u8 (c.m.c : Int), .slice A' c.kids.length cp'] := by rw [← hwy]; exact (Blk.new wd _ _).drew
                    have hly : Later wd wy := by rw [← hwy]; exact (Later.rfl.alloc _).drew
                    rw [hwy]
                    clear hwy
                    have hsty := Hstd.out.later_ hly
                    have hzz := setRow_blk5 (vs := #[.bool true, .int .i64 mm.f, .int .i64 mm.t, .int .u8 (mm.c : Int), .slice (some ⟨wd.heap.size, 0, none⟩) 1 1]) hsty.z
                    have Hkz := hide (hsty.kp.setRow (g := W.heap.size + 1) (vs := #[.bool true, .int .i64 mm.f, .int .i64 mm.t, .int .u8 (mm.c : Int), .slice (some ⟨wd.heap.size, 0, none⟩) 1 1]) (by omega))
                    have Hmz := hide (SMap.setRow (g := W.heap.size + 1) (vs := #[.bool true, .int .i64 mm.f, .int .i64 mm.t, .int .u8 (mm.c : Int), .slice (some ⟨wd.heap.size, 0, none⟩) 1 1]) hsty.map (by omega))
                    have hdz : wb.heap.size ≤ wd.heap.size := Hld.out.size
                    have hfar : Blk (World.setRow wy (W.heap.size + 1) #[.bool true, .int .i64 mm.f, .int .i64 mm.t, .int .u8 (mm.c : Int), .slice (some ⟨wd.heap.size, 0, none⟩) 1 1]) wd.heap.size 58 #[.bool c.s, .int .i64 c.m.f, .int .i64 c.m.t, .int .u8 (c.m.c : Int), .slice A' c.kids.length cp'] := (setRow_other _ _ _ _ (by omega)).trans hby
                    have hcz := CertIn.one (P' := fun b => W.heap.size ≤ b) (s := true) (m := mm) hfar (Hci.out.keep (w' := World.setRow wy (W.heap.size + 1) #[.bool true, .int .i64 mm.f, .int .i64 mm.t, .int .u8 (mm.c : Int), .slice (some ⟨wd.heap.size, 0, none⟩) 1 1]) (P' := fun b => wa.heap.size ≤ b) (fun b hb o v h => cell_setRow (Kp.cell (bm := bm) (Kp.of_later (Hld.out.trans hly)) Hstb.out.map h) (by have := Hsz.out; omega)) (fun b hb _ => hb)) Hle.out (by have := Hsz.out; omega) (fun b hb _ => by have := Hsz.out; omega)
                    have Hcz := hide hcz
                    have HW := hide (HownK.out (by simp) (by simp) c (Hsh.out (by simp)))
                    obtain ⟨wz, hwz⟩ : ∃ wz, World.setRow wy (W.heap.size + 1) #[.bool true, .int .i64 mm.f, .int .i64 mm.t, .int .u8 (mm.c : Int), .slice (some ⟨wd.heap.size, 0, none⟩) 1 1] = wz := ⟨_, rfl⟩
                    rw [hwz] at hzz Hkz Hmz Hcz ⊢
                    clear hwz hcz hfar hby hly hsty
                    obtain ⟨z0, z1, z2, z3, z4⟩ := hzz.cert5
                    go_wp2_with fail
                    refine bodyPost_ret (v := .tuple #[.agg #[.bool true, .int .i64 mm.f, .int .i64 mm.t, .int .u8 (mm.c : Int), .slice (some ⟨wd.heap.size, 0, none⟩) 1 1], .bool true]) (by simp [results, Tryz.results53, go_sem, z0, z1, z2, z3, z4]) rfl ?_
                    exact PrOut.won Hmz.out Hgb.out Hkz.out HW.out.1 _ _ _ HW.out.2 (by simp [CertD.kids]) Hcz.out rfl rfl rfl rfl rfl
                  exact AllReadyH.nil
                exact AllReadyH.nil
              · go_upto_region 13 with (fail)
                go_cut [92] from 82 to 92 (fun x w' => x = .bool true ∧ Later wd w')
                case first =>
                  obtain ⟨x0, x1, x2, x3, x4, x5, x6, x7, x8, x9, x10, x11, x12, x13, x14⟩ := Hstd.out.x.prover
                  obtain ⟨p0, p1, p2, p3, p4, p5⟩ := Hstd.out.p.pos6
                  (go_quiet (fail); go_wp2_with fail; go_meet; case rel => exact ⟨rfl, (by repeat (first | exact Later.rfl | refine Later.drewN ?_ _ | refine Later.drew ?_ | refine Later.alloc ?_ _))⟩)
                case rest =>
                  obtain ⟨rfl, hw⟩ := hcut
                  rename World => we
                  have Hle2 := hide (Hld.out.trans hw)
                  have Hste := hide (Hstd.out.later_ hw)
                  have Hbe := hide (hw.blk Hbd.out)
                  clear hw Hstd Hbd Hld
                  have HR := hide (HothK.out (by simp) (by simp))
                  go_upto_region 14 with (fail)
                  obtain ⟨st, es1, ck1, hE, hMe, hSt⟩ := MapL.entry (e := 3) (t := 101) Hste.out.map keyEncS Tryz.underlying101 (z := (0 : Int)) zeroI (a := ((p, (d : Int) + 1) : St)) Hks.out
                  obtain ⟨v0, hv0⟩ : ∃ v0, (getK m2 ((p, (d : Int) + 1) : St)).getD 0 = v0 := ⟨_, rfl⟩
                  obtain ⟨u, hu⟩ : ∃ u, IntKind.i64.wrap (v0 + 1) = u := ⟨_, rfl⟩
                  obtain ⟨es2, ck2, hS, hMs⟩ := hSt u
                  have hgE : (we).grownBy (setBlock we bm (.map es1 ck1)) (some bm) := grown_setBlock _
                  have hL2 := MapL.look (e := 3) (t := 101) (w := (we).drew) Hste.out.map keyEncS Tryz.underlying101 (zeroI _) (a := ((p, (d : Int) + 1) : St)) Hks.out false
                  have hL3 := MapL.look (e := 3) (t := 101) (w := (setBlock we bm (.map es1 ck1)).drew) hMe keyEncS Tryz.underlying101 (zeroI _) (a := ((p, (d : Int) + 1) : St)) Hks.out false
                  have hL0 := MapL.look (e := 3) (t := 101) Hste.out.map keyEncS Tryz.underlying101 (zeroI _) (a := ((p, (d : Int) + 1) : St)) Hks.out false
                  have hL1 := MapL.look (e := 3) (t := 101) hMe keyEncS Tryz.underlying101 (zeroI _) (a := ((p, (d : Int) + 1) : St)) Hks.out false
                  have hkv : ∀ o : Option Int, (o.map kbI).getD (kbI 0) = kbI (o.getD 0) := fun o => by cases o <;> rfl
                  simp only [Bool.false_eq_true, if_false, hkv, getK_open, hv0] at hL0 hL1 hL2 hL3
                  simp only [stK, kbI] at hL0 hL1 hL2 hL3
                  have hE0 := hE we rfl
                  have hE1 := hE (we).drew rfl
                  rw [show setBlock (we).drew bm (.map es1 ck1) = (setBlock we bm (.map es1 ck1)).drew from rfl] at hE1
                  have hee : (setBlock we bm (.map es1 ck1)).heap[bm]? = some (.map es1 ck1) := by
                    have := Hste.out.map.lt
                    simp [setBlock, this]
                  have hKe := Kp.blk (Kp.grown hgE) Hste.out.map Hste.out.x
                  have hPe := Kp.blk (Kp.grown hgE) Hste.out.map Hste.out.p
                  obtain ⟨wo, hwe⟩ : ∃ wo, setBlock we bm (.map es1 ck1) = wo := ⟨_, rfl⟩
                  rw [hwe] at hE0 hE1 hL1 hL3 hgE hee hKe hPe
                  clear hwe hMe hE
                  have hS0 := hS wo hee
                  have hS1 := hS wo.drew hee
                  have hMe2 := hMs wo (Array.getElem?_eq_some_iff.1 hee).1
                  rw [show setBlock wo.drew bm (.map es2 ck2) = (setBlock wo bm (.map es2 ck2)).drew from rfl] at hS1
                  have hgS : wo.grownBy (setBlock wo bm (.map es2 ck2)) (some bm) := grown_setBlock _
                  obtain ⟨ws, hws⟩ : ∃ ws, setBlock wo bm (.map es2 ck2) = ws := ⟨_, rfl⟩
                  rw [hws] at hS0 hS1 hMe2 hgS
                  simp only [hv0, stK, kbI, goInt] at hE0 hE1 hS0 hS1
                  clear hws hS hMs hee hkv
                  have Hs0 := hide (show PrSt W #[.int .i64 p.w, .int .i64 p.h, .string p.cells, .int .i64 p.turn, .string p.h0, .string p.h1] #[.int .i64 r.start.w, .int .i64 r.start.h, .string r.start.cells, .int .i64 r.start.turn, .string r.start.h0, .string r.start.h1, .slice A r.pieces.length cp, .bool r.drops, .int .u8 r.lose, .int .i64 r.line, .int .u8 r.reach, .bool r.stuck, .int .i64 r.plies, .int .i64 wn, .map (some bm)] bx bm B0 A r.pieces (putK m2 ((p, (d : Int) + 1) : St) u) ws.drew from Hste.out.kp_ (Kp.grown (grownB_drew (grownB_trans hgE hgS))) (hMe2 : SMap ws.drew bm _))
                  obtain ⟨x0, x1, x2, x3, x4, x5, x6, x7, x8, x9, x10, x11, x12, x13, x14⟩ := Hste.out.x.prover
                  obtain ⟨p0, p1, p2, p3, p4, p5⟩ := Hste.out.p.pos6
                  obtain ⟨y0, y1, y2, y3, y4, y5, y6, y7, y8, y9, y10, y11, y12, y13, y14⟩ := hKe.prover
                  obtain ⟨s0, s1, s2, s3, s4, s5⟩ := hPe.pos6
                  clear hgE hgS hMe2 hKe hPe
                  go_big_region
                  go_upto_region 15 with (fail)
                  clear hE0 hE1 hS0 hS1 hL0 hL1 hL2 hL3 x0 x1 x2 x3 x4 x5 x6 x7 x8 x9 x10 x11 x12 x13 x14 p0 p1 p2 p3 p4 p5 y0 y1 y2 y3 y4 y5 y6 y7 y8 y9 y10 y11 y12 y13 y14 s0 s1 s2 s3 s4 s5 hu hv0
                  obtain ⟨wi, hwi⟩ : ∃ wi, ws.drew = wi := ⟨_, rfl⟩
                  rw [hwi] at Hs0 ⊢
                  clear hwi
                  go_upto_region 15 with (fail)
                  refine wp_region_lit ?_
                  refine wpList_plain rfl (fun K hK => ?_)
                  go_simp
                  refine hK _ _ ?_
                  clear hK K
                  refine wpList_plain rfl (fun K hK => ?_)
                  refine wp_store_row 58 (.tmp 6) (.tmp 104) rfl (W.heap.size + 1) #[.bool false, .int .i64 0, .int .i64 0, .int .u8 0, .slice none 0 0] rfl rfl 58 _ Hs0.out.z (by kernel_rfl) (by simp) (by simp [Value.oneCell']) ?_
                  refine hK _ _ ?_
                  clear hK K
                  have hzz := setRow_blk5 (vs := #[.bool false, .int .i64 0, .int .i64 0, .int .u8 0, .slice none 0 0]) Hs0.out.z
                  have Hkz := hide (Hs0.out.kp.setRow (g := W.heap.size + 1) (vs := #[.bool false, .int .i64 0, .int .i64 0, .int .u8 0, .slice none 0 0]) (by omega))
                  have Hmz := hide (SMap.setRow (g := W.heap.size + 1) (vs := #[.bool false, .int .i64 0, .int .i64 0, .int .u8 0, .slice none 0 0]) Hs0.out.map (by omega))
                  obtain ⟨wz, hwz⟩ : ∃ wz, World.setRow wi (W.heap.size + 1) #[.bool false, .int .i64 0, .int .i64 0, .int .u8 0, .slice none 0 0] = wz := ⟨_, rfl⟩
                  rw [hwz] at hzz Hkz Hmz ⊢
                  clear hwz
                  obtain ⟨z0, z1, z2, z3, z4⟩ := hzz.cert5
                  go_wp2_with fail
                  refine bodyPost_ret (v := .tuple #[.agg #[.bool false, .int .i64 0, .int .i64 0, .int .u8 0, .slice none 0 0], .bool false]) (by simp [results, Tryz.results53, go_sem, z0, z1, z2, z3, z4]) rfl ?_
                  exact PrOut.zero Hmz.out (Hput.out m2 Hgb.out HR.out u) Hkz.out HR.out (fun e => by cases e)
              · subst hvt
                rw [show (!tb && tb) = false from by cases tb <;> rfl]
                go_upto_region 13 with (fail)
                go_cut [92] from 82 to 92 (fun x w' => x = .bool false ∧ Later wd w')
                case first =>
                  obtain ⟨x0, x1, x2, x3, x4, x5, x6, x7, x8, x9, x10, x11, x12, x13, x14⟩ := Hstd.out.x.prover
                  obtain ⟨p0, p1, p2, p3, p4, p5⟩ := Hstd.out.p.pos6
                  cases tb <;> (go_quiet (fail); go_wp2_with fail; go_meet; case rel => exact ⟨rfl, (by repeat (first | exact Later.rfl | refine Later.drewN ?_ _ | refine Later.drew ?_ | refine Later.alloc ?_ _))⟩)
                case rest =>
                  obtain ⟨rfl, hw⟩ := hcut
                  rename World => we
                  have Hle2 := hide (Hld.out.trans hw)
                  have Hste := hide (Hstd.out.later_ hw)
                  have Hbe := hide (hw.blk Hbd.out)
                  clear hw Hstd Hbd Hld
                  obtain ⟨i0, hi, hz0, hz1, hz2⟩ := info_parts info_cert
                  have Hi := hide hi
                  have Hz0 := hide hz0
                  have Hz1 := hide hz1
                  have Hz2 := hide hz2
                  clear hi hz0 hz1 hz2
                  have Hrowe := hide (own_later Hrowb.out Hle2.out)
                  have hse : wb.heap.size ≤ we.heap.size := Hle2.out.size
                  go_upto_region 16 with (fail)
                  obtain ⟨c0, c1, c2, c3, c4⟩ := Hbe.out.cert5
                  go_wp2_with (at_builtin; refine wpList_appendK _ rfl (.tmp 105) (.tmp 107) 56 rfl w2.heap.size 58 i0 (.agg #[.bool false, .int .i64 0, .int .i64 0, .int .u8 0, .slice none 0 0]) 5 56 Tryz.underlying56 Hi.out Hz0.out Hz1.out Hz2.out rfl (by decide) u11 k (kidsC l) rfl (World.ownsRow.alloc Hrowe.out _) [.bool c.s, .int .i64 c.m.f, .int .i64 c.m.t, .int .u8 (c.m.c : Int), .slice A' c.kids.length cp'] rfl we.heap.size 58 rfl (Blk.new we _ _) ?h1 ?h2 ?h3 ?h4 ?_)
                  case h1 => simp [Value.oneCell']
                  case h2 => unfold maxLen; omega
                  case h3 => omega
                  case h4 => have := Hsz.out; first | omega | (simp; omega)
                  intro v' w6 hown6 hO hwh
                  have Hown6 := hide (show w6.ownsRow w2.heap.size 58 5 v' (k + 1) (kidsC (l ++ [(c, A', cp')])) by rw [kidsC_app, kidsC_one]; exact hown6)
                  have HK := hide (KidsIn.step (x := (c, A', cp')) Hkids.out (fun g hg => (Hrow.out.lt g hg).2) Hkeep.out Hle.out Hci.out hra hab (by have := Hsz.out; omega) (Hle2.out.alloc _) hO (by simpa using hwh))
                  have HS6 := hide ((Hste.out.later_ (Later.rfl.alloc _)).own_ hO (fun g hg => by have := (Hrow.out.lt g hg).1; omega) hx0 hm0)
                  have HK6 := hide (Kp.own_ (Hkpb.out.trans (Kp.of_later (Hle2.out.alloc _))) hO (fun g hg => (Hrow.out.lt g hg).1))
                  have HL6 := hide (Hsn.out (c, A', cp') (by simp) (fun e => Hsh.out (by rw [e]; rfl)))
                  have Hlen := hide (show (l ++ [(c, A', cp')]).length = k + 1 by rw [List.length_append, Hlk.out]; rfl)
                  clear hown6 hO hwh c0 c1 c2 c3 c4
                  go_wp2_with fail
                  go_roundw
                  case rel => exact ⟨k + 1, m2, l ++ [(c, A', cp')], by omega, by go_num, Hlen.out, Hown6.out, HK.out, HS6.out, Hgb.out, HK6.out, HL6.out⟩
                  case measure => simp [intOf]; omega
          · obtain rfl : Q.length = k := by omega
            have t1 : decide ((Q.length : Int) < (Q.length : Int)) = false := by simp
            have t1n : decide (Q.length < Q.length) = false := by simp
            go_upto_region 18 with (fail)
            clear t1 t1n
            go_cut [116] from 110 to 116 (fun x w' => x = .bool tb ∧ Later wr w')
            case first =>
              obtain ⟨x0, x1, x2, x3, x4, x5, x6, x7, x8, x9, x10, x11, x12, x13, x14⟩ := Hstr.out.x.prover
              obtain ⟨p0, p1, p2, p3, p4, p5⟩ := Hstr.out.p.pos6
              go_quiet (fail)
              go_wp2_with fail
              go_meet
              case rel => exact ⟨rfl, (by repeat (first | exact Later.rfl | refine Later.drewN ?_ _ | refine Later.drew ?_ | refine Later.alloc ?_ _))⟩
            case rest =>
              obtain ⟨rfl, hw⟩ := hcut
              rename World => we
              have Hste := hide (Hstr.out.later_ hw)
              have Hrowe := hide (own_later Hrow.out hw)
              have Hkide := hide (Hkids.out.keep (P' := fun b => w2.heap.size ≤ b) (fun b _ o v h => Kp.cell (bm := bm) (Kp.of_later hw) Hstr.out.map h) (fun b hb _ => hb.2))
              clear hw Hstr
              cases tb
              · have HW := hide (Hall.out (by simp) l Hlk.out Hlp.out)
                have hrow := Hrowe.out
                rw [← Hlk.out] at hrow
                obtain ⟨A3, c3, rfl, hle3, hci3⟩ := CertIn.of_row (P' := fun b => w2.heap.size ≤ b) (s := false) (m := ⟨0, 0, 0⟩) hrow (fun g hg => hg) Hkide.out (fun b hb _ => hb)
                have Hle3 := hide hle3
                have Hci3 := hide hci3
                clear hle3 hci3 hrow
                go_upto_region 21 with (fail)
                refine wp_region_lit ?_
                refine wpList_plain rfl (fun K hK => ?_)
                go_simp
                refine hK _ _ ?_
                clear hK K
                refine wpList_plain rfl (fun K hK => ?_)
                go_simp
                refine hK _ _ ?_
                clear hK K
                refine wpList_plain rfl (fun K hK => ?_)
                refine wp_store_row 58 (.tmp 6) (.tmp 130) rfl (W.heap.size + 1) #[.bool false, .int .i64 0, .int .i64 0, .int .u8 0, .slice A3 l.length c3] rfl rfl 58 _ Hste.out.z (by kernel_rfl) (by simp) (by simp [Value.oneCell']) ?_
                refine hK _ _ ?_
                clear hK K
                have hzz := setRow_blk5 (vs := #[.bool false, .int .i64 0, .int .i64 0, .int .u8 0, .slice A3 l.length c3]) Hste.out.z
                have Hkz := hide (Hste.out.kp.setRow (g := W.heap.size + 1) (vs := #[.bool false, .int .i64 0, .int .i64 0, .int .u8 0, .slice A3 l.length c3]) (by omega))
                have Hmz := hide (SMap.setRow (g := W.heap.size + 1) (vs := #[.bool false, .int .i64 0, .int .i64 0, .int .u8 0, .slice A3 l.length c3]) Hste.out.map (by omega))
                have Hcz := hide (show CertIn (World.setRow we (W.heap.size + 1) #[.bool false, .int .i64 0, .int .i64 0, .int .u8 0, .slice A3 l.length c3]) (fun b => W.heap.size ≤ b) (d + 1) (.mk false ⟨0, 0, 0⟩ (l.map (·.1))) A3 from Hci3.out.keep (fun b hb o v h => cell_setRow h (by omega)) (fun b hb _ => by omega))
                obtain ⟨wz, hwz⟩ : ∃ wz, World.setRow we (W.heap.size + 1) #[.bool false, .int .i64 0, .int .i64 0, .int .u8 0, .slice A3 l.length c3] = wz := ⟨_, rfl⟩
                rw [hwz] at hzz Hkz Hmz Hcz ⊢
                clear hwz
                obtain ⟨z0, z1, z2, z3, z4⟩ := hzz.cert5
                go_wp2_with fail
                refine bodyPost_ret (v := .tuple #[.agg #[.bool false, .int .i64 0, .int .i64 0, .int .u8 0, .slice A3 l.length c3], .bool true]) (by simp [results, Tryz.results53, go_sem, z0, z1, z2, z3, z4]) rfl ?_
                exact PrOut.won Hmz.out Hgm.out Hkz.out HW.out.1 _ _ _ HW.out.2 (by simpa [CertD.kids] using Hle3.out) Hcz.out rfl rfl rfl rfl (by simp [CertD.kids])
              · have HR := hide (Hmis.out (by simp) l Hlk.out Hlp.out)
                go_upto_region 19 with (fail)
                obtain ⟨st, es1, ck1, hE, hMe, hSt⟩ := MapL.entry (e := 3) (t := 101) Hste.out.map keyEncS Tryz.underlying101 (z := (0 : Int)) zeroI (a := ((p, (d : Int) + 1) : St)) Hks.out
                obtain ⟨v0, hv0⟩ : ∃ v0, (getK m1 ((p, (d : Int) + 1) : St)).getD 0 = v0 := ⟨_, rfl⟩
                obtain ⟨u, hu⟩ : ∃ u, IntKind.i64.wrap (v0 + 1) = u := ⟨_, rfl⟩
                obtain ⟨es2, ck2, hS, hMs⟩ := hSt u
                have hgE : (we).grownBy (setBlock we bm (.map es1 ck1)) (some bm) := grown_setBlock _
                have hL2 := MapL.look (e := 3) (t := 101) (w := (we).drew) Hste.out.map keyEncS Tryz.underlying101 (zeroI _) (a := ((p, (d : Int) + 1) : St)) Hks.out false
                have hL3 := MapL.look (e := 3) (t := 101) (w := (setBlock we bm (.map es1 ck1)).drew) hMe keyEncS Tryz.underlying101 (zeroI _) (a := ((p, (d : Int) + 1) : St)) Hks.out false
                have hL0 := MapL.look (e := 3) (t := 101) Hste.out.map keyEncS Tryz.underlying101 (zeroI _) (a := ((p, (d : Int) + 1) : St)) Hks.out false
                have hL1 := MapL.look (e := 3) (t := 101) hMe keyEncS Tryz.underlying101 (zeroI _) (a := ((p, (d : Int) + 1) : St)) Hks.out false
                have hkv : ∀ o : Option Int, (o.map kbI).getD (kbI 0) = kbI (o.getD 0) := fun o => by cases o <;> rfl
                simp only [Bool.false_eq_true, if_false, hkv, getK_open, hv0] at hL0 hL1 hL2 hL3
                simp only [stK, kbI] at hL0 hL1 hL2 hL3
                have hE0 := hE we rfl
                have hE1 := hE (we).drew rfl
                rw [show setBlock (we).drew bm (.map es1 ck1) = (setBlock we bm (.map es1 ck1)).drew from rfl] at hE1
                have hee : (setBlock we bm (.map es1 ck1)).heap[bm]? = some (.map es1 ck1) := by
                  have := Hste.out.map.lt
                  simp [setBlock, this]
                have hKe := Kp.blk (Kp.grown hgE) Hste.out.map Hste.out.x
                have hPe := Kp.blk (Kp.grown hgE) Hste.out.map Hste.out.p
                obtain ⟨wo, hwe⟩ : ∃ wo, setBlock we bm (.map es1 ck1) = wo := ⟨_, rfl⟩
                rw [hwe] at hE0 hE1 hL1 hL3 hgE hee hKe hPe
                clear hwe hMe hE
                have hS0 := hS wo hee
                have hS1 := hS wo.drew hee
                have hMe2 := hMs wo (Array.getElem?_eq_some_iff.1 hee).1
                rw [show setBlock wo.drew bm (.map es2 ck2) = (setBlock wo bm (.map es2 ck2)).drew from rfl] at hS1
                have hgS : wo.grownBy (setBlock wo bm (.map es2 ck2)) (some bm) := grown_setBlock _
                obtain ⟨ws, hws⟩ : ∃ ws, setBlock wo bm (.map es2 ck2) = ws := ⟨_, rfl⟩
                rw [hws] at hS0 hS1 hMe2 hgS
                simp only [hv0, stK, kbI, goInt] at hE0 hE1 hS0 hS1
                clear hws hS hMs hee hkv
                have Hs0 := hide (show PrSt W #[.int .i64 p.w, .int .i64 p.h, .string p.cells, .int .i64 p.turn, .string p.h0, .string p.h1] #[.int .i64 r.start.w, .int .i64 r.start.h, .string r.start.cells, .int .i64 r.start.turn, .string r.start.h0, .string r.start.h1, .slice A r.pieces.length cp, .bool r.drops, .int .u8 r.lose, .int .i64 r.line, .int .u8 r.reach, .bool r.stuck, .int .i64 r.plies, .int .i64 wn, .map (some bm)] bx bm B0 A r.pieces (putK m1 ((p, (d : Int) + 1) : St) u) ws.drew from Hste.out.kp_ (Kp.grown (grownB_drew (grownB_trans hgE hgS))) (hMe2 : SMap ws.drew bm _))
                obtain ⟨x0, x1, x2, x3, x4, x5, x6, x7, x8, x9, x10, x11, x12, x13, x14⟩ := Hste.out.x.prover
                obtain ⟨p0, p1, p2, p3, p4, p5⟩ := Hste.out.p.pos6
                obtain ⟨y0, y1, y2, y3, y4, y5, y6, y7, y8, y9, y10, y11, y12, y13, y14⟩ := hKe.prover
                obtain ⟨s0, s1, s2, s3, s4, s5⟩ := hPe.pos6
                clear hgE hgS hMe2 hKe hPe
                go_big_region
                go_upto_region 20 with (fail)
                clear hE0 hE1 hS0 hS1 hL0 hL1 hL2 hL3 x0 x1 x2 x3 x4 x5 x6 x7 x8 x9 x10 x11 x12 x13 x14 p0 p1 p2 p3 p4 p5 y0 y1 y2 y3 y4 y5 y6 y7 y8 y9 y10 y11 y12 y13 y14 s0 s1 s2 s3 s4 s5 hu hv0
                obtain ⟨wi, hwi⟩ : ∃ wi, ws.drew = wi := ⟨_, rfl⟩
                rw [hwi] at Hs0 ⊢
                clear hwi
                go_upto_region 20 with (fail)
                refine wp_region_lit ?_
                refine wpList_plain rfl (fun K hK => ?_)
                go_simp
                refine hK _ _ ?_
                clear hK K
                refine wpList_plain rfl (fun K hK => ?_)
                refine wp_store_row 58 (.tmp 6) (.tmp 128) rfl (W.heap.size + 1) #[.bool false, .int .i64 0, .int .i64 0, .int .u8 0, .slice none 0 0] rfl rfl 58 _ Hs0.out.z (by kernel_rfl) (by simp) (by simp [Value.oneCell']) ?_
                refine hK _ _ ?_
                clear hK K
                have hzz := setRow_blk5 (vs := #[.bool false, .int .i64 0, .int .i64 0, .int .u8 0, .slice none 0 0]) Hs0.out.z
                have Hkz := hide (Hs0.out.kp.setRow (g := W.heap.size + 1) (vs := #[.bool false, .int .i64 0, .int .i64 0, .int .u8 0, .slice none 0 0]) (by omega))
                have Hmz := hide (SMap.setRow (g := W.heap.size + 1) (vs := #[.bool false, .int .i64 0, .int .i64 0, .int .u8 0, .slice none 0 0]) Hs0.out.map (by omega))
                obtain ⟨wz, hwz⟩ : ∃ wz, World.setRow wi (W.heap.size + 1) #[.bool false, .int .i64 0, .int .i64 0, .int .u8 0, .slice none 0 0] = wz := ⟨_, rfl⟩
                rw [hwz] at hzz Hkz Hmz ⊢
                clear hwz
                obtain ⟨z0, z1, z2, z3, z4⟩ := hzz.cert5
                go_wp2_with fail
                refine bodyPost_ret (v := .tuple #[.agg #[.bool false, .int .i64 0, .int .i64 0, .int .u8 0, .slice none 0 0], .bool false]) (by simp [results, Tryz.results53, go_sem, z0, z1, z2, z3, z4]) rfl ?_
                exact PrOut.zero Hmz.out (Hput.out m1 Hgm.out HR.out u) Hkz.out HR.out (fun e => by cases e)
  exact AllReadyH.nil
end Go.Proofs.YtdfegpohmaideaaGreat
/- proof.Prove and proof.Check. -/
namespace Go.Proofs.YtdfegpohmaideaaGreat
open Go.RowKit Go.Maps

theorem prove_any (r : RulesD) (A : Option Addr) (cp : Nat) (wn : Int) (h0 : 0 ≤ wn) (h1 : wn ≤ 1) (bx bm B0 : Nat) (hb : B0 ≤ bm) : ∀ (d : Nat), d ≤ 9 → ∀ (p : Pos), OfOk r p → ∀ (W : World) (m : List (St × Int)), Blk W bx 103 #[.int .i64 r.start.w, .int .i64 r.start.h, .string r.start.cells, .int .i64 r.start.turn, .string r.start.h0, .string r.start.h1, .slice A r.pieces.length cp, .bool r.drops, .int .u8 r.lose, .int .i64 r.line, .int .u8 r.reach, .bool r.stuck, .int .i64 r.plies, .int .i64 wn, .map (some bm)] → SMap W bm m → GoodM r wn m → PiecesAt W B0 A r.pieces →
    Calls Tryz.prog 53 #[.pointer (some ⟨bx, 0, none⟩), .agg #[.int .i64 p.w, .int .i64 p.h, .string p.cells, .int .i64 p.turn, .string p.h0, .string p.h1], .int .i64 (d : Int)] W (PrOut r wn d p bm W)
  | 0, hd, p, hok, W, m, hx, hm, hg, hp => prove_end r A cp wn h0 h1 0 hd p W bx bm B0 m hok hx hm hg hp hb (.inr rfl)
  | d + 1, hd, p, hok, W, m, hx, hm, hg, hp => by
    by_cases hop : endsN r p = 0
    · exact prove_open r A cp wn d (by omega) p W bx bm B0 m hok hx hm hg hp hb hop (fun q hq w m' h1' h2' h3' h4' => prove_any r A cp wn h0 h1 bx bm B0 hb d (by omega) q hq w m' h1' h2' h3' h4')
    · exact prove_end r A cp wn h0 h1 (d + 1) hd p W bx bm B0 m hok hx hm hg hp hb (.inl hop)
/-- what is answered ahead of all -/
def AskC (r : RulesD) (p : Pos) (d code : Int) : Prop := (¬ OfOk r p ∧ code = 1) ∨ (OfOk r p ∧ (d < 0 ∨ 9 < d) ∧ code = 4) ∨ (OfOk r p ∧ (0 ≤ d ∧ d ≤ 9) ∧ code = 0)
theorem ask_code (r : RulesD) (A : Option Addr) (cp : Nat) (p : Pos) (d : Int) (W : World) (hf : RFit r) (hg : PFit p) (hP : PiecesAt W W.heap.size A r.pieces) (code : Int) (hc : AskC r p d code) :
    Calls Tryz.prog 52 #[.agg #[.int .i64 r.start.w, .int .i64 r.start.h, .string r.start.cells, .int .i64 r.start.turn, .string r.start.h0, .string r.start.h1, .slice A r.pieces.length cp, .bool r.drops, .int .u8 r.lose, .int .i64 r.line, .int .u8 r.reach, .bool r.stuck, .int .i64 r.plies], .agg #[.int .i64 p.w, .int .i64 p.h, .string p.cells, .int .i64 p.turn, .string p.h0, .string p.h1], .int .i64 d] W fun e w' => e = .returned (.int .i64 code) ∧ Later W w' := by
  rcases hc with ⟨h, rfl⟩ | ⟨h, h2, rfl⟩ | ⟨h, h2, rfl⟩
  · exact ask_no r A cp p d W hf hg hP h
  · have := ask_ok r A cp p d W hf hg hP h
    rwa [if_pos h2] at this
  · have := ask_ok r A cp p d W hf hg hP h
    rwa [if_neg (by omega)] at this
theorem Later.setRow {W w : World} {g : Nat} {vs : Array Value} (h : Later W w) (hg : W.heap.size ≤ g) : Later W (w.setRow g vs) := Below.trans h ⟨Eq.refl _, Eq.refl _, Eq.refl _, by simp [World.setRow], fun k hk => setRow_other _ _ _ _ (by omega)⟩
theorem Kp.later_ {bm : Nat} {W w w' : World} (hw : Later W w) (h : Kp bm w w') (hb : W.heap.size ≤ bm) : Later W w' := Below.trans hw (h.below_ (B := W.heap.size) (fun k hk => by omega) hw.size)
set_option maxHeartbeats 4000000 in
set_option maxRecDepth 100000 in
theorem prv_bad (r : RulesD) (A : Option Addr) (cp : Nat) (p : Pos) (d : Int) (W : World) (hf : RFit r) (hg : PFit p) (hP : PiecesAt W W.heap.size A r.pieces) (code : Int) (hc : AskC r p d code) (hne : code ≠ 0) :
    Calls Tryz.prog 21 #[.agg #[.int .i64 r.start.w, .int .i64 r.start.h, .string r.start.cells, .int .i64 r.start.turn, .string r.start.h0, .string r.start.h1, .slice A r.pieces.length cp, .bool r.drops, .int .u8 r.lose, .int .i64 r.line, .int .u8 r.reach, .bool r.stuck, .int .i64 r.plies], .agg #[.int .i64 p.w, .int .i64 p.h, .string p.cells, .int .i64 p.turn, .string p.h0, .string p.h1], .int .i64 d] W fun e w' => e = .returned (.tuple #[.agg #[.bool false, .int .i64 0, .int .i64 0, .int .u8 0, .slice none 0 0], .bool false, .int .i64 code]) ∧ Later W w' := by
  have Hst := hide (ShSt.first (W := W) (R := #[.int .i64 r.start.w, .int .i64 r.start.h, .string r.start.cells, .int .i64 r.start.turn, .string r.start.h0, .string r.start.h1, .slice A r.pieces.length cp, .bool r.drops, .int .u8 r.lose, .int .i64 r.line, .int .u8 r.reach, .bool r.stuck, .int .i64 r.plies]) (P := #[.int .i64 p.w, .int .i64 p.h, .string p.cells, .int .i64 p.turn, .string p.h0, .string p.h1]) (C := #[.bool false, .int .i64 0, .int .i64 0, .int .u8 0, .slice none 0 0]))
  have Hask := hide (fun w (hw : Later W w) => ask_code r A cp p d w hf hg ((hP.below hw).more hw.size) code hc)
  have tc : (code != 0) = true := by simpa using hne
  clear hf hg hP hc hne
  go_enter Tryz.func21, Tryz.ntmps21
  go_upto_region 1 with (fail)
  obtain ⟨w0, hw0⟩ : ∃ w0, (((W.alloc (.cells #[.int .i64 r.start.w, .int .i64 r.start.h, .string r.start.cells, .int .i64 r.start.turn, .string r.start.h0, .string r.start.h1, .slice A r.pieces.length cp, .bool r.drops, .int .u8 r.lose, .int .i64 r.line, .int .u8 r.reach, .bool r.stuck, .int .i64 r.plies] 27)).alloc (.cells #[.int .i64 p.w, .int .i64 p.h, .string p.cells, .int .i64 p.turn, .string p.h0, .string p.h1] 24)).alloc (.cells #[.bool false, .int .i64 0, .int .i64 0, .int .u8 0, .slice none 0 0] 58)) = w0 := ⟨_, rfl⟩
  rw [hw0] at Hst ⊢
  clear hw0
  obtain ⟨x0, x1, x2, x3, x4, x5, x6, x7, x8, x9, x10, x11, x12⟩ := Hst.out.r.rules
  obtain ⟨p0, p1, p2, p3, p4, p5⟩ := Hst.out.p.pos6
  go_upto_region 3 with (go_at_call 52; refine (Hask.out _ Hst.out.later).mono ?_; rintro e w1 ⟨rfl, hw1⟩)
  have Hst1 := hide (Hst.out.later_ hw1)
  clear hw1 Hst x0 x1 x2 x3 x4 x5 x6 x7 x8 x9 x10 x11 x12 p0 p1 p2 p3 p4 p5
  refine wp_region_lit ?_
  refine wpList_plain rfl (fun K hK => ?_)
  go_simp
  refine hK _ _ ?_
  clear hK K
  refine wpList_plain rfl (fun K hK => ?_)
  go_simp
  refine hK _ _ ?_
  clear hK K
  refine wpList_plain rfl (fun K hK => ?_)
  refine wp_store_row 58 (.tmp 6) (.tmp 19) rfl (W.heap.size + 1 + 1) #[.bool false, .int .i64 0, .int .i64 0, .int .u8 0, .slice none 0 0] rfl rfl 58 _ Hst1.out.c (by kernel_rfl) (by simp) (by simp [Value.oneCell']) ?_
  refine hK _ _ ?_
  clear hK K
  have hzz := setRow_blk5 (vs := #[.bool false, .int .i64 0, .int .i64 0, .int .u8 0, .slice none 0 0]) Hst1.out.c
  have Hl := hide (Later.setRow (vs := #[.bool false, .int .i64 0, .int .i64 0, .int .u8 0, .slice none 0 0]) Hst1.out.later (show W.heap.size ≤ W.heap.size + 1 + 1 by omega))
  obtain ⟨wz, hwz⟩ : ∃ wz, World.setRow w1 (W.heap.size + 1 + 1) #[.bool false, .int .i64 0, .int .i64 0, .int .u8 0, .slice none 0 0] = wz := ⟨_, rfl⟩
  rw [hwz] at hzz Hl ⊢
  clear hwz
  obtain ⟨z0, z1, z2, z3, z4⟩ := hzz.cert5
  go_wp2_with fail
  refine bodyPost_ret (v := .tuple #[.agg #[.bool false, .int .i64 0, .int .i64 0, .int .u8 0, .slice none 0 0], .bool false, .int .i64 code]) (by simp [results, Tryz.results21, go_sem, z0, z1, z2, z3, z4]) rfl ⟨rfl, Hl.out⟩
def PrvOk (r : RulesD) (p : Pos) (d : Nat) (W : World) (e : Ending) (w' : World) : Prop :=
  ∃ (c : CertD) (A' : Option Addr) (cp' : Nat), e = .returned (.tuple #[.agg #[.bool c.s, .int .i64 c.m.f, .int .i64 c.m.t, .int .u8 (c.m.c : Int), .slice A' c.kids.length cp'], .bool (winsN r p.turn d p), .int .i64 0]) ∧ Later W w' ∧ CertAt w' w'.heap.size d c A' ∧ (winsN r p.turn d p = true → ShowsN r p.turn d p c) ∧ (winsN r p.turn d p = false → c = noCert ∧ A' = none ∧ cp' = 0)
set_option maxHeartbeats 4000000 in
set_option maxRecDepth 100000 in
theorem prv_ok (r : RulesD) (A : Option Addr) (cp : Nat) (p : Pos) (d : Nat) (hd : d ≤ 9) (W : World) (hf : RFit r) (hg : PFit p) (hP : PiecesAt W W.heap.size A r.pieces) (hok : OfOk r p) :
    Calls Tryz.prog 21 #[.agg #[.int .i64 r.start.w, .int .i64 r.start.h, .string r.start.cells, .int .i64 r.start.turn, .string r.start.h0, .string r.start.h1, .slice A r.pieces.length cp, .bool r.drops, .int .u8 r.lose, .int .i64 r.line, .int .u8 r.reach, .bool r.stuck, .int .i64 r.plies], .agg #[.int .i64 p.w, .int .i64 p.h, .string p.cells, .int .i64 p.turn, .string p.h0, .string p.h1], .int .i64 (d : Int)] W (PrvOk r p d W) := by
  have Hst := hide (ShSt.first (W := W) (R := #[.int .i64 r.start.w, .int .i64 r.start.h, .string r.start.cells, .int .i64 r.start.turn, .string r.start.h0, .string r.start.h1, .slice A r.pieces.length cp, .bool r.drops, .int .u8 r.lose, .int .i64 r.line, .int .u8 r.reach, .bool r.stuck, .int .i64 r.plies]) (P := #[.int .i64 p.w, .int .i64 p.h, .string p.cells, .int .i64 p.turn, .string p.h0, .string p.h1]) (C := #[.bool false, .int .i64 0, .int .i64 0, .int .u8 0, .slice none 0 0]))
  have Hask := hide (fun w (hw : Later W w) => ask_code r A cp p d w hf hg ((hP.below hw).more hw.size) 0 (.inr (.inr ⟨hok, by omega, rfl⟩)))
  have Hprv := hide (fun (bx bm B0 : Nat) (hb : B0 ≤ bm) => prove_any r A cp p.turn (by have := hok.pos.t0; omega) (by have := hok.pos.t1; omega) bx bm B0 hb d hd p hok)
  have HP := hide hP
  have HF := hide (show ∀ (w' : World) (c : CertD) (A' : Option Addr) (cp' : Nat), Later W w' → CertAt w' w'.heap.size d c A' → (winsN r p.turn d p = true → ShowsN r p.turn d p c) → (winsN r p.turn d p = false → c = noCert ∧ A' = none ∧ cp' = 0) → PrvOk r p d W (.returned (.tuple #[.agg #[.bool c.s, .int .i64 c.m.f, .int .i64 c.m.t, .int .u8 (c.m.c : Int), .slice A' c.kids.length cp'], .bool (winsN r p.turn d p), .int .i64 0])) w' from fun w' c A' cp' h1 h2 h3 h4 => ⟨c, A', cp', rfl, h1, h2, h3, h4⟩)
  obtain ⟨v, hv⟩ : ∃ v, winsN r p.turn d p = v := ⟨_, rfl⟩
  have Hprv2 := hide (show ∀ (bx bm B0 : Nat) (hb : B0 ≤ bm) (w : World) (m : List (St × Int)), Blk w bx 103 #[.int .i64 r.start.w, .int .i64 r.start.h, .string r.start.cells, .int .i64 r.start.turn, .string r.start.h0, .string r.start.h1, .slice A r.pieces.length cp, .bool r.drops, .int .u8 r.lose, .int .i64 r.line, .int .u8 r.reach, .bool r.stuck, .int .i64 r.plies, .int .i64 p.turn, .map (some bm)] → SMap w bm m → GoodM r p.turn m → PiecesAt w B0 A r.pieces → Calls Tryz.prog 53 #[.pointer (some ⟨bx, 0, none⟩), .agg #[.int .i64 p.w, .int .i64 p.h, .string p.cells, .int .i64 p.turn, .string p.h0, .string p.h1], .int .i64 (d : Int)] w (PrAns r p.turn v (ShowsN r p.turn d p) d bm w) from fun bx bm B0 hb w m h1 h2 h3 h4 => by
    have := Hprv.out bx bm B0 hb w m h1 h2 h3 h4
    rwa [show PrOut r p.turn d p bm w = PrAns r p.turn (winsN r p.turn d p) (ShowsN r p.turn d p) d bm w from rfl, hv] at this)
  rw [hv] at HF
  clear hf hg hP hok Hprv hv
  go_enter Tryz.func21, Tryz.ntmps21
  go_upto_region 1 with (fail)
  obtain ⟨w0, hw0⟩ : ∃ w0, (((W.alloc (.cells #[.int .i64 r.start.w, .int .i64 r.start.h, .string r.start.cells, .int .i64 r.start.turn, .string r.start.h0, .string r.start.h1, .slice A r.pieces.length cp, .bool r.drops, .int .u8 r.lose, .int .i64 r.line, .int .u8 r.reach, .bool r.stuck, .int .i64 r.plies] 27)).alloc (.cells #[.int .i64 p.w, .int .i64 p.h, .string p.cells, .int .i64 p.turn, .string p.h0, .string p.h1] 24)).alloc (.cells #[.bool false, .int .i64 0, .int .i64 0, .int .u8 0, .slice none 0 0] 58)) = w0 := ⟨_, rfl⟩
  rw [hw0] at Hst ⊢
  clear hw0
  obtain ⟨x0, x1, x2, x3, x4, x5, x6, x7, x8, x9, x10, x11, x12⟩ := Hst.out.r.rules
  obtain ⟨p0, p1, p2, p3, p4, p5⟩ := Hst.out.p.pos6
  go_upto_region 4 with (go_at_call 52; refine (Hask.out _ Hst.out.later).mono ?_; rintro e w1 ⟨rfl, hw1⟩)
  have Hst1 := hide (Hst.out.later_ hw1)
  clear hw1 Hst x0 x1 x2 x3 x4 x5 x6 x7 x8 x9 x10 x11 x12 p0 p1 p2 p3 p4 p5
  obtain ⟨x0, x1, x2, x3, x4, x5, x6, x7, x8, x9, x10, x11, x12⟩ := Hst1.out.r.rules
  obtain ⟨p0, p1, p2, p3, p4, p5⟩ := Hst1.out.p.pos6
  have Hl2 := hide (show Later w1 ((w1.alloc (.map #[] 0)).alloc (.cells #[.int .i64 r.start.w, .int .i64 r.start.h, .string r.start.cells, .int .i64 r.start.turn, .string r.start.h0, .string r.start.h1, .slice A r.pieces.length cp, .bool r.drops, .int .u8 r.lose, .int .i64 r.line, .int .u8 r.reach, .bool r.stuck, .int .i64 r.plies, .int .i64 p.turn, .map (some w1.heap.size)] 103)) from (Later.rfl.alloc _).alloc _)
  have Hm2 := hide (SMap.later (MapL.made (ka := stK) (kb := kbI) (ok := okS) w1) (Later.rfl.alloc (.cells #[.int .i64 r.start.w, .int .i64 r.start.h, .string r.start.cells, .int .i64 r.start.turn, .string r.start.h0, .string r.start.h1, .slice A r.pieces.length cp, .bool r.drops, .int .u8 r.lose, .int .i64 r.line, .int .u8 r.reach, .bool r.stuck, .int .i64 r.plies, .int .i64 p.turn, .map (some w1.heap.size)] 103)))
  have hb2 := Blk.new (w1.alloc (.map #[] 0)) 103 #[.int .i64 r.start.w, .int .i64 r.start.h, .string r.start.cells, .int .i64 r.start.turn, .string r.start.h0, .string r.start.h1, .slice A r.pieces.length cp, .bool r.drops, .int .u8 r.lose, .int .i64 r.line, .int .u8 r.reach, .bool r.stuck, .int .i64 r.plies, .int .i64 p.turn, .map (some w1.heap.size)]
  rw [World.size_alloc] at hb2
  have Hb2 := hide hb2
  clear hb2
  have hmm := @run_makeMap Tryz.prog
  go_upto_region 5 with (fail)
  clear hmm
  obtain ⟨w2, hw2⟩ : ∃ w2, ((w1.alloc (.map #[] 0)).alloc (.cells #[.int .i64 r.start.w, .int .i64 r.start.h, .string r.start.cells, .int .i64 r.start.turn, .string r.start.h0, .string r.start.h1, .slice A r.pieces.length cp, .bool r.drops, .int .u8 r.lose, .int .i64 r.line, .int .u8 r.reach, .bool r.stuck, .int .i64 r.plies, .int .i64 p.turn, .map (some w1.heap.size)] 103)) = w2 := ⟨_, rfl⟩
  rw [hw2] at Hl2 Hm2 Hb2 ⊢
  clear hw2
  obtain ⟨bm, hbm⟩ : ∃ bm, w1.heap.size = bm := ⟨_, rfl⟩
  have hWb : W.heap.size ≤ bm := by rw [← hbm]; exact Hst1.out.later.size
  rw [hbm] at Hm2 Hb2 ⊢
  clear hbm x0 x1 x2 x3 x4 x5 x6 x7 x8 x9 x10 x11 x12 p0 p1 p2 p3 p4 p5
  have Hst2 := hide (Hst1.out.later_ Hl2.out)
  have Hp2 := hide (Hprv2.out (bm + 1) bm W.heap.size hWb w2 [] Hb2.out Hm2.out GoodM.nil (HP.out.below Hst2.out.later))
  obtain ⟨x0, x1, x2, x3, x4, x5, x6, x7, x8, x9, x10, x11, x12⟩ := Hst2.out.r.rules
  obtain ⟨p0, p1, p2, p3, p4, p5⟩ := Hst2.out.p.pos6
  go_upto_region 6 with (go_at_call 53; refine Hp2.out.mono ?_; rintro e w3 ⟨m2, c, A', cp', hm3, -, hk3, rfl, hle, hci, hsh, hno⟩)
  have Hl3 := hide (Kp.later_ Hst2.out.later hk3 hWb)
  have Hz3 := hide (Kp.blk hk3 Hm2.out Hst2.out.c)
  have Hsh := hide hsh
  have Hno := hide hno
  have Hci := hide hci
  have hz3 := Hz3.out.lt
  clear hm3 hk3 hle hci hsh hno x0 x1 x2 x3 x4 x5 x6 x7 x8 x9 x10 x11 x12 p0 p1 p2 p3 p4 p5
  have Hl4 := hide (Hl3.out.alloc (.cells #[.bool c.s, .int .i64 c.m.f, .int .i64 c.m.t, .int .u8 (c.m.c : Int), .slice A' c.kids.length cp'] 58))
  have Hz4 := hide (Hz3.out.alloc (.cells #[.bool c.s, .int .i64 c.m.f, .int .i64 c.m.t, .int .u8 (c.m.c : Int), .slice A' c.kids.length cp'] 58))
  have Hb4 := hide (Blk.new w3 58 #[.bool c.s, .int .i64 c.m.f, .int .i64 c.m.t, .int .u8 (c.m.c : Int), .slice A' c.kids.length cp'])
  have Hl34 := hide (show Later w3 (w3.alloc (.cells #[.bool c.s, .int .i64 c.m.f, .int .i64 c.m.t, .int .u8 (c.m.c : Int), .slice A' c.kids.length cp'] 58)) from Later.rfl.alloc _)
  obtain ⟨w4, hw4⟩ : ∃ w4, w3.alloc (.cells #[.bool c.s, .int .i64 c.m.f, .int .i64 c.m.t, .int .u8 (c.m.c : Int), .slice A' c.kids.length cp'] 58) = w4 := ⟨_, rfl⟩
  rw [hw4] at Hl4 Hz4 Hb4 Hl34 ⊢
  clear hw4
  obtain ⟨c0, c1, c2, c3, c4⟩ := Hb4.out.cert5
  refine wp_region_lit ?_
  refine wpList_plain rfl (fun K hK => ?_)
  go_simp
  refine hK _ _ ?_
  clear hK K
  refine wpList_plain rfl (fun K hK => ?_)
  go_simp
  refine hK _ _ ?_
  clear hK K
  refine wpList_plain rfl (fun K hK => ?_)
  refine wp_store_row 58 (.tmp 6) (.tmp 34) rfl (W.heap.size + 1 + 1) #[.bool c.s, .int .i64 c.m.f, .int .i64 c.m.t, .int .u8 (c.m.c : Int), .slice A' c.kids.length cp'] rfl rfl 58 _ Hz4.out (by kernel_rfl) (by simp) (by simp [Value.oneCell']) ?_
  refine hK _ _ ?_
  clear hK K
  have hzz := setRow_blk5 (vs := #[.bool c.s, .int .i64 c.m.f, .int .i64 c.m.t, .int .u8 (c.m.c : Int), .slice A' c.kids.length cp']) Hz4.out
  have Hl5 := hide (Later.setRow (vs := #[.bool c.s, .int .i64 c.m.f, .int .i64 c.m.t, .int .u8 (c.m.c : Int), .slice A' c.kids.length cp']) Hl4.out (show W.heap.size ≤ W.heap.size + 1 + 1 by omega))
  have hw2z : W.heap.size + 1 + 1 < w2.heap.size := Hst2.out.c.lt
  have hc5 := Hci.out.keep (w' := World.setRow w4 (W.heap.size + 1 + 1) #[.bool c.s, .int .i64 c.m.f, .int .i64 c.m.t, .int .u8 (c.m.c : Int), .slice A' c.kids.length cp']) (P' := fun b => b < (World.setRow w4 (W.heap.size + 1 + 1) #[.bool c.s, .int .i64 c.m.f, .int .i64 c.m.t, .int .u8 (c.m.c : Int), .slice A' c.kids.length cp']).heap.size) (fun b hb o v h => cell_setRow (by
    have hlt := World.block_lt_of_cell? w3 _ h
    have e := Hl34.out.block b hlt
    rw [← h]
    simp only [World.cell?, e]) (by omega)) (fun b hb hl => by have := Hl34.out.size; rw [size_setRow]; omega)
  have Hc5 := hide (hc5.at_ (fun b hb => hb))
  clear hc5
  obtain ⟨wz, hwz⟩ : ∃ wz, World.setRow w4 (W.heap.size + 1 + 1) #[.bool c.s, .int .i64 c.m.f, .int .i64 c.m.t, .int .u8 (c.m.c : Int), .slice A' c.kids.length cp'] = wz := ⟨_, rfl⟩
  rw [hwz] at hzz Hl5 Hc5 ⊢
  clear hwz c0 c1 c2 c3 c4
  obtain ⟨z0, z1, z2, z3, z4⟩ := hzz.cert5
  go_wp2_with fail
  refine bodyPost_ret (v := .tuple #[.agg #[.bool c.s, .int .i64 c.m.f, .int .i64 c.m.t, .int .u8 (c.m.c : Int), .slice A' c.kids.length cp'], .bool v, .int .i64 0]) (by simp [results, Tryz.results21, go_sem, z0, z1, z2, z3, z4]) rfl (HF.out wz c A' cp' Hl5.out Hc5.out Hsh.out Hno.out)
set_option maxHeartbeats 4000000 in
set_option maxRecDepth 100000 in
theorem pchk_bad (r : RulesD) (A : Option Addr) (cp : Nat) (p : Pos) (d : Int) (c : CertD) (Ak : Option Addr) (ck : Nat) (W : World) (hf : RFit r) (hg : PFit p) (hP : PiecesAt W W.heap.size A r.pieces) (code : Int) (hc : AskC r p d code) (hne : code ≠ 0) :
    Calls Tryz.prog 22 #[.agg #[.int .i64 r.start.w, .int .i64 r.start.h, .string r.start.cells, .int .i64 r.start.turn, .string r.start.h0, .string r.start.h1, .slice A r.pieces.length cp, .bool r.drops, .int .u8 r.lose, .int .i64 r.line, .int .u8 r.reach, .bool r.stuck, .int .i64 r.plies], .agg #[.int .i64 p.w, .int .i64 p.h, .string p.cells, .int .i64 p.turn, .string p.h0, .string p.h1], .int .i64 d, .agg #[.bool c.s, .int .i64 c.m.f, .int .i64 c.m.t, .int .u8 (c.m.c : Int), .slice Ak c.kids.length ck]] W fun e w' => e = .returned (.tuple #[.bool false, .int .i64 code]) ∧ Later W w' := by
  have Hst := hide (ShSt.first (W := W) (R := #[.int .i64 r.start.w, .int .i64 r.start.h, .string r.start.cells, .int .i64 r.start.turn, .string r.start.h0, .string r.start.h1, .slice A r.pieces.length cp, .bool r.drops, .int .u8 r.lose, .int .i64 r.line, .int .u8 r.reach, .bool r.stuck, .int .i64 r.plies]) (P := #[.int .i64 p.w, .int .i64 p.h, .string p.cells, .int .i64 p.turn, .string p.h0, .string p.h1]) (C := #[.bool c.s, .int .i64 c.m.f, .int .i64 c.m.t, .int .u8 (c.m.c : Int), .slice Ak c.kids.length ck]))
  have Hask := hide (fun w (hw : Later W w) => ask_code r A cp p d w hf hg ((hP.below hw).more hw.size) code hc)
  have tc : (code != 0) = true := by simpa using hne
  clear hf hg hP hc hne
  go_enter Tryz.func22, Tryz.ntmps22
  go_upto_region 1 with (fail)
  obtain ⟨w0, hw0⟩ : ∃ w0, (((W.alloc (.cells #[.int .i64 r.start.w, .int .i64 r.start.h, .string r.start.cells, .int .i64 r.start.turn, .string r.start.h0, .string r.start.h1, .slice A r.pieces.length cp, .bool r.drops, .int .u8 r.lose, .int .i64 r.line, .int .u8 r.reach, .bool r.stuck, .int .i64 r.plies] 27)).alloc (.cells #[.int .i64 p.w, .int .i64 p.h, .string p.cells, .int .i64 p.turn, .string p.h0, .string p.h1] 24)).alloc (.cells #[.bool c.s, .int .i64 c.m.f, .int .i64 c.m.t, .int .u8 (c.m.c : Int), .slice Ak c.kids.length ck] 58)) = w0 := ⟨_, rfl⟩
  rw [hw0] at Hst ⊢
  clear hw0
  obtain ⟨x0, x1, x2, x3, x4, x5, x6, x7, x8, x9, x10, x11, x12⟩ := Hst.out.r.rules
  obtain ⟨p0, p1, p2, p3, p4, p5⟩ := Hst.out.p.pos6
  go_wp2_with (go_at_call 52; refine (Hask.out _ Hst.out.later).mono ?_; rintro e w1 ⟨rfl, hw1⟩)
  go_ret2
  exact ⟨rfl, Hst.out.later.trans hw1⟩
set_option maxHeartbeats 4000000 in
set_option maxRecDepth 100000 in
theorem pchk_ok (r : RulesD) (A : Option Addr) (cp : Nat) (p : Pos) (d : Nat) (hd : d ≤ 9) (c : CertD) (Ak : Option Addr) (ck : Nat) (W : World) (hf : RFit r) (hg : PFit p) (hP : PiecesAt W W.heap.size A r.pieces) (hok : OfOk r p) (hC : CertAt W W.heap.size d c Ak) :
    Calls Tryz.prog 22 #[.agg #[.int .i64 r.start.w, .int .i64 r.start.h, .string r.start.cells, .int .i64 r.start.turn, .string r.start.h0, .string r.start.h1, .slice A r.pieces.length cp, .bool r.drops, .int .u8 r.lose, .int .i64 r.line, .int .u8 r.reach, .bool r.stuck, .int .i64 r.plies], .agg #[.int .i64 p.w, .int .i64 p.h, .string p.cells, .int .i64 p.turn, .string p.h0, .string p.h1], .int .i64 (d : Int), .agg #[.bool c.s, .int .i64 c.m.f, .int .i64 c.m.t, .int .u8 (c.m.c : Int), .slice Ak c.kids.length ck]] W fun e w' => e = .returned (.tuple #[.bool (showsB r p.turn d p c), .int .i64 0]) ∧ Later W w' := by
  have Hst := hide (ShSt.first (W := W) (R := #[.int .i64 r.start.w, .int .i64 r.start.h, .string r.start.cells, .int .i64 r.start.turn, .string r.start.h0, .string r.start.h1, .slice A r.pieces.length cp, .bool r.drops, .int .u8 r.lose, .int .i64 r.line, .int .u8 r.reach, .bool r.stuck, .int .i64 r.plies]) (P := #[.int .i64 p.w, .int .i64 p.h, .string p.cells, .int .i64 p.turn, .string p.h0, .string p.h1]) (C := #[.bool c.s, .int .i64 c.m.f, .int .i64 c.m.t, .int .u8 (c.m.c : Int), .slice Ak c.kids.length ck]))
  have Hask := hide (fun w (hw : Later W w) => ask_code r A cp p d w hf hg ((hP.below hw).more hw.size) 0 (.inr (.inr ⟨hok, by omega, rfl⟩)))
  have Hsw := hide (fun w (hw : Later W w) => pshows_any r A cp p.turn (by have := hok.pos.t0; omega) (by have := hok.pos.t1; omega) d hd p hok c Ak ck w ((hP.below hw).more hw.size) (CertAt.more hw.size _ _ _ (CertAt.below hw _ _ _ hC)))
  obtain ⟨v, hv⟩ : ∃ v, showsB r p.turn d p c = v := ⟨_, rfl⟩
  simp only [hv] at Hsw
  rw [hv]
  clear hf hg hP hok hC hv
  go_enter Tryz.func22, Tryz.ntmps22
  go_upto_region 1 with (fail)
  obtain ⟨w0, hw0⟩ : ∃ w0, (((W.alloc (.cells #[.int .i64 r.start.w, .int .i64 r.start.h, .string r.start.cells, .int .i64 r.start.turn, .string r.start.h0, .string r.start.h1, .slice A r.pieces.length cp, .bool r.drops, .int .u8 r.lose, .int .i64 r.line, .int .u8 r.reach, .bool r.stuck, .int .i64 r.plies] 27)).alloc (.cells #[.int .i64 p.w, .int .i64 p.h, .string p.cells, .int .i64 p.turn, .string p.h0, .string p.h1] 24)).alloc (.cells #[.bool c.s, .int .i64 c.m.f, .int .i64 c.m.t, .int .u8 (c.m.c : Int), .slice Ak c.kids.length ck] 58)) = w0 := ⟨_, rfl⟩
  rw [hw0] at Hst ⊢
  clear hw0
  obtain ⟨x0, x1, x2, x3, x4, x5, x6, x7, x8, x9, x10, x11, x12⟩ := Hst.out.r.rules
  obtain ⟨p0, p1, p2, p3, p4, p5⟩ := Hst.out.p.pos6
  go_upto_region 4 with (go_at_call 52; refine (Hask.out _ Hst.out.later).mono ?_; rintro e w1 ⟨rfl, hw1⟩)
  have Hst1 := hide (Hst.out.later_ hw1)
  clear hw1 Hst x0 x1 x2 x3 x4 x5 x6 x7 x8 x9 x10 x11 x12 p0 p1 p2 p3 p4 p5
  obtain ⟨x0, x1, x2, x3, x4, x5, x6, x7, x8, x9, x10, x11, x12⟩ := Hst1.out.r.rules
  obtain ⟨p0, p1, p2, p3, p4, p5⟩ := Hst1.out.p.pos6
  obtain ⟨c0, c1, c2, c3, c4⟩ := Hst1.out.c.five
  go_wp2_with (go_at_call 54; refine (Hsw.out _ Hst1.out.later).mono ?_; rintro e w2 ⟨rfl, hw2⟩)
  go_ret2
  exact ⟨rfl, Hst1.out.later.trans hw2⟩
end Go.Proofs.YtdfegpohmaideaaGreat
/- gamelaw.ProofProves, walked -/
namespace Go.Proofs.YtdfegpohmaideaaGreat
open Go.RowKit

set_option maxHeartbeats 8000000 in
set_option maxRecDepth 100000 in
theorem pp_bad (r : RulesD) (A : Option Addr) (cp : Nat) (p : Pos) (d : Int) (c : CertD) (Ak : Option Addr) (ck : Nat) (W : World) (hf : RFit r) (hg : PFit p) (hP : PiecesAt W W.heap.size A r.pieces) (code : Int) (hc : AskC r p d code) (hne : code ≠ 0) :
    Calls Tryz.prog 6 #[.agg #[.int .i64 r.start.w, .int .i64 r.start.h, .string r.start.cells, .int .i64 r.start.turn, .string r.start.h0, .string r.start.h1, .slice A r.pieces.length cp, .bool r.drops, .int .u8 r.lose, .int .i64 r.line, .int .u8 r.reach, .bool r.stuck, .int .i64 r.plies], .agg #[.int .i64 p.w, .int .i64 p.h, .string p.cells, .int .i64 p.turn, .string p.h0, .string p.h1], .int .i64 d, .agg #[.bool c.s, .int .i64 c.m.f, .int .i64 c.m.t, .int .u8 (c.m.c : Int), .slice Ak c.kids.length ck]] W fun e w' => e = .returned (.bool true) ∧ Later W w' := by
  have Hst := hide (ShSt.first (W := W) (R := #[.int .i64 r.start.w, .int .i64 r.start.h, .string r.start.cells, .int .i64 r.start.turn, .string r.start.h0, .string r.start.h1, .slice A r.pieces.length cp, .bool r.drops, .int .u8 r.lose, .int .i64 r.line, .int .u8 r.reach, .bool r.stuck, .int .i64 r.plies]) (P := #[.int .i64 p.w, .int .i64 p.h, .string p.cells, .int .i64 p.turn, .string p.h0, .string p.h1]) (C := #[.bool c.s, .int .i64 c.m.f, .int .i64 c.m.t, .int .u8 (c.m.c : Int), .slice Ak c.kids.length ck]))
  have Hprv := hide (fun w (hw : Later W w) => prv_bad r A cp p d w hf hg ((hP.below hw).more hw.size) code hc hne)
  have Hchk := hide (fun w (hw : Later W w) => pchk_bad r A cp p d c Ak ck w hf hg ((hP.below hw).more hw.size) code hc hne)
  have Hof := hide (fun w (hw : Later W w) => gof_any r A cp p w hf hg ((hP.below hw).more hw.size))
  have heq : ∀ w, (binOp .eql 29 (.agg #[.int .i64 0, .int .i64 0, .int .u8 0]) (.agg #[.int .i64 0, .int .i64 0, .int .u8 0])).run Tryz.prog w = .ok (.bool true) w := fun w => by
    have h := eqM.1 ⟨0, 0, 0⟩ ⟨0, 0, 0⟩ w
    have e : decide ((⟨0, 0, 0⟩ : Mv) = ⟨0, 0, 0⟩) = true := decide_eq_true rfl
    rw [← e]
    exact h
  have hgd : ∀ op a b w, (eqGuard op 29 a b (.agg #[.int .i64 0, .int .i64 0, .int .u8 0]) (.agg #[.int .i64 0, .int .i64 0, .int .u8 0])).run Tryz.prog w = .ok () w := fun op a b w => eqM.2 op a b ⟨0, 0, 0⟩ ⟨0, 0, 0⟩ w
  have hq : (ofB r p = false ∧ code = 1) ∨ (ofB r p = true ∧ (d < 0 ∨ 9 < d) ∧ code = 4) := by
    rcases hc with ⟨h, e⟩ | ⟨h, h2, e⟩ | ⟨_, _, e⟩
    · exact .inl ⟨ofB_false.2 h, e⟩
    · exact .inr ⟨ofB_true.2 h, h2, e⟩
    · exact absurd e hne
  obtain ⟨bo, hbo⟩ : ∃ bo, ofB r p = bo := ⟨_, rfl⟩
  simp only [hbo] at Hof hq
  have Hq := hide hq
  clear hf hg hP hc hbo hq
  go_enter Tryz.func6, Tryz.ntmps6
  go_upto_region 1 with (fail)
  obtain ⟨w0, hw0⟩ : ∃ w0, (((W.alloc (.cells #[.int .i64 r.start.w, .int .i64 r.start.h, .string r.start.cells, .int .i64 r.start.turn, .string r.start.h0, .string r.start.h1, .slice A r.pieces.length cp, .bool r.drops, .int .u8 r.lose, .int .i64 r.line, .int .u8 r.reach, .bool r.stuck, .int .i64 r.plies] 27)).alloc (.cells #[.int .i64 p.w, .int .i64 p.h, .string p.cells, .int .i64 p.turn, .string p.h0, .string p.h1] 24)).alloc (.cells #[.bool c.s, .int .i64 c.m.f, .int .i64 c.m.t, .int .u8 (c.m.c : Int), .slice Ak c.kids.length ck] 58)) = w0 := ⟨_, rfl⟩
  rw [hw0] at Hst ⊢
  clear hw0
  obtain ⟨x0, x1, x2, x3, x4, x5, x6, x7, x8, x9, x10, x11, x12⟩ := Hst.out.r.rules
  obtain ⟨p0, p1, p2, p3, p4, p5⟩ := Hst.out.p.pos6
  obtain ⟨k0, k1, k2, k3, k4⟩ := Hst.out.c.five
  go_upto_region 2 with (go_at_call 21; refine (Hprv.out _ Hst.out.later).mono ?_; rintro e w1 ⟨rfl, hw1⟩)
  have Hsa := hide (Hst.out.later_ hw1)
  have Hb := hide (Blk.new w1 58 #[.bool false, .int .i64 0, .int .i64 0, .int .u8 0, .slice none 0 0])
  have Hl := hide (show Later w1 (w1.alloc (.cells #[.bool false, .int .i64 0, .int .i64 0, .int .u8 0, .slice none 0 0] 58)) from Later.rfl.alloc _)
  obtain ⟨w2, hw2⟩ : ∃ w2, w1.alloc (.cells #[.bool false, .int .i64 0, .int .i64 0, .int .u8 0, .slice none 0 0] 58) = w2 := ⟨_, rfl⟩
  rw [hw2] at Hb Hl ⊢
  obtain ⟨g, hgg⟩ : ∃ g, w1.heap.size = g := ⟨_, rfl⟩
  rw [hgg] at Hb ⊢
  have Hst2 := hide (Hsa.out.later_ Hl.out)
  clear hw2 hgg Hst Hsa x0 x1 x2 x3 x4 x5 x6 x7 x8 x9 x10 x11 x12 p0 p1 p2 p3 p4 p5 k0 k1 k2 k3 k4
  obtain ⟨x0, x1, x2, x3, x4, x5, x6, x7, x8, x9, x10, x11, x12⟩ := Hst2.out.r.rules
  obtain ⟨p0, p1, p2, p3, p4, p5⟩ := Hst2.out.p.pos6
  obtain ⟨k0, k1, k2, k3, k4⟩ := Hst2.out.c.five
  obtain ⟨b0, b1, b2, b3, b4⟩ := Hb.out.cert5
  go_upto_region 3 with (go_at_call 22; refine (Hchk.out _ Hst2.out.later).mono ?_; rintro e w3 ⟨rfl, hw3⟩)
  have Hst3 := hide (Hst2.out.later_ hw3)
  have Hb3 := hide (hw3.blk Hb.out)
  clear hw3 Hst2 Hb Hl b0 b1 b2 b3 b4
  clear x0 x1 x2 x3 x4 x5 x6 x7 x8 x9 x10 x11 x12 p0 p1 p2 p3 p4 p5 k0 k1 k2 k3 k4
  obtain ⟨x0, x1, x2, x3, x4, x5, x6, x7, x8, x9, x10, x11, x12⟩ := Hst3.out.r.rules
  obtain ⟨p0, p1, p2, p3, p4, p5⟩ := Hst3.out.p.pos6
  rcases Hq.out with ⟨rfl, rfl⟩ | ⟨rfl, hd, rfl⟩
  · clear hne
    have hdc : (decide (d < 0) = true) ∨ (decide (d < 0) = false ∧ decide (9 < d) = true) ∨ (decide (d < 0) = false ∧ decide (9 < d) = false) := by
      cases decide (d < 0) <;> cases decide (9 < d) <;> simp
    rcases hdc with h1 | ⟨h1, h2⟩ | ⟨h1, h2⟩
    all_goals
      go_wp2_with (go_at_call 11; refine (Hof.out _ Hst3.out.later).mono ?_; rintro e w4 ⟨rfl, hw4⟩; obtain ⟨b0, b1, b2, b3, b4⟩ := (hw4.blk Hb3.out).cert5)
      go_ret
      exact ⟨rfl, Hst3.out.later.trans hw4⟩
  · clear hne
    have hdc : (decide (d < 0) = true) ∨ (decide (d < 0) = false ∧ decide (9 < d) = true) := by
      by_cases h0 : d < 0
      · exact .inl (decide_eq_true h0)
      · exact .inr ⟨decide_eq_false h0, decide_eq_true (hd.resolve_left h0)⟩
    clear hd
    rcases hdc with h1 | ⟨h1, h2⟩
    all_goals
      go_wp2_with (go_at_call 11; refine (Hof.out _ Hst3.out.later).mono ?_; rintro e w4 ⟨rfl, hw4⟩; obtain ⟨b0, b1, b2, b3, b4⟩ := (hw4.blk Hb3.out).cert5)
      go_ret
      exact ⟨rfl, Hst3.out.later.trans hw4⟩
set_option maxHeartbeats 8000000 in
set_option maxRecDepth 100000 in
theorem pp_ok (r : RulesD) (A : Option Addr) (cp : Nat) (p : Pos) (d : Nat) (c : CertD) (Ak : Option Addr) (ck : Nat) (W : World) (hf : RFit r) (hg : PFit p) (hP : PiecesAt W W.heap.size A r.pieces) (hd : d ≤ 9) (hok : OfOk r p) (hC : CertAt W W.heap.size d c Ak) :
    Calls Tryz.prog 6 #[.agg #[.int .i64 r.start.w, .int .i64 r.start.h, .string r.start.cells, .int .i64 r.start.turn, .string r.start.h0, .string r.start.h1, .slice A r.pieces.length cp, .bool r.drops, .int .u8 r.lose, .int .i64 r.line, .int .u8 r.reach, .bool r.stuck, .int .i64 r.plies], .agg #[.int .i64 p.w, .int .i64 p.h, .string p.cells, .int .i64 p.turn, .string p.h0, .string p.h1], .int .i64 (d : Int), .agg #[.bool c.s, .int .i64 c.m.f, .int .i64 c.m.t, .int .u8 (c.m.c : Int), .slice Ak c.kids.length ck]] W fun e w' => e = .returned (.bool true) ∧ Later W w' := by
  have Hst := hide (ShSt.first (W := W) (R := #[.int .i64 r.start.w, .int .i64 r.start.h, .string r.start.cells, .int .i64 r.start.turn, .string r.start.h0, .string r.start.h1, .slice A r.pieces.length cp, .bool r.drops, .int .u8 r.lose, .int .i64 r.line, .int .u8 r.reach, .bool r.stuck, .int .i64 r.plies]) (P := #[.int .i64 p.w, .int .i64 p.h, .string p.cells, .int .i64 p.turn, .string p.h0, .string p.h1]) (C := #[.bool c.s, .int .i64 c.m.f, .int .i64 c.m.t, .int .u8 (c.m.c : Int), .slice Ak c.kids.length ck]))
  have Hprv := hide (fun w (hw : Later W w) => prv_ok r A cp p d hd w hf hg ((hP.below hw).more hw.size) hok)
  have Hchk := hide (fun w (hw : Later W w) => pchk_ok r A cp p d hd c Ak ck w hf hg ((hP.below hw).more hw.size) hok (CertAt.more hw.size _ _ _ (CertAt.below hw _ _ _ hC)))
  have Hof := hide (fun w (hw : Later W w) => gof_any r A cp p w hf hg ((hP.below hw).more hw.size))
  have Hsh := hide (fun (c : CertD) (Ak : Option Addr) (ck : Nat) w (hw : Later W w) (hC : CertAt w w.heap.size d c Ak) => shows_any r A cp p.turn (by have := hok.pos.t0; omega) (by have := hok.pos.t1; omega) d hd p hok c Ak ck w ((hP.below hw).more hw.size) hC)
  have HC := hide (fun w (hw : Later W w) => CertAt.more hw.size _ _ _ (CertAt.below hw _ _ _ hC))
  have Hwn := hide (fun w (hw : Later W w) => wins_any r A cp p.turn (by have := hok.pos.t0; omega) (by have := hok.pos.t1; omega) d hd p hok w ((hP.below hw).more hw.size))
  simp only [ofB_true.2 hok] at Hof
  unfold PrvOk at Hprv
  obtain ⟨v, hv⟩ : ∃ v, winsN r p.turn d p = v := ⟨_, rfl⟩
  simp only [hv] at Hprv Hwn
  have t1 : decide ((d : Int) < 0) = false := decide_eq_false (by omega)
  have t2 : decide ((9 : Int) < (d : Int)) = false := decide_eq_false (by omega)
  have t2n : decide (9 < d) = false := decide_eq_false (by omega)
  clear hf hg hP hok hC hv
  go_enter Tryz.func6, Tryz.ntmps6
  go_upto_region 1 with (fail)
  obtain ⟨w0, hw0⟩ : ∃ w0, (((W.alloc (.cells #[.int .i64 r.start.w, .int .i64 r.start.h, .string r.start.cells, .int .i64 r.start.turn, .string r.start.h0, .string r.start.h1, .slice A r.pieces.length cp, .bool r.drops, .int .u8 r.lose, .int .i64 r.line, .int .u8 r.reach, .bool r.stuck, .int .i64 r.plies] 27)).alloc (.cells #[.int .i64 p.w, .int .i64 p.h, .string p.cells, .int .i64 p.turn, .string p.h0, .string p.h1] 24)).alloc (.cells #[.bool c.s, .int .i64 c.m.f, .int .i64 c.m.t, .int .u8 (c.m.c : Int), .slice Ak c.kids.length ck] 58)) = w0 := ⟨_, rfl⟩
  rw [hw0] at Hst ⊢
  clear hw0
  obtain ⟨x0, x1, x2, x3, x4, x5, x6, x7, x8, x9, x10, x11, x12⟩ := Hst.out.r.rules
  obtain ⟨p0, p1, p2, p3, p4, p5⟩ := Hst.out.p.pos6
  obtain ⟨k0, k1, k2, k3, k4⟩ := Hst.out.c.five
  go_upto_region 2 with (go_at_call 21; refine (Hprv.out _ Hst.out.later).mono ?_; rintro e w1 ⟨y, Ay, cy, rfl, hw1, hcy, hsy, hny⟩)
  have Hcy1 := hide hcy
  have Hsy := hide hsy
  have Hny := hide hny
  clear hcy hsy hny
  have Hsa := hide (Hst.out.later_ hw1)
  have Hb := hide (Blk.new w1 58 #[.bool y.s, .int .i64 y.m.f, .int .i64 y.m.t, .int .u8 (y.m.c : Int), .slice Ay y.kids.length cy])
  have Hl := hide (show Later w1 (w1.alloc (.cells #[.bool y.s, .int .i64 y.m.f, .int .i64 y.m.t, .int .u8 (y.m.c : Int), .slice Ay y.kids.length cy] 58)) from Later.rfl.alloc _)
  obtain ⟨w2, hw2⟩ : ∃ w2, w1.alloc (.cells #[.bool y.s, .int .i64 y.m.f, .int .i64 y.m.t, .int .u8 (y.m.c : Int), .slice Ay y.kids.length cy] 58) = w2 := ⟨_, rfl⟩
  rw [hw2] at Hb Hl ⊢
  obtain ⟨g, hgg⟩ : ∃ g, w1.heap.size = g := ⟨_, rfl⟩
  rw [hgg] at Hb ⊢
  have Hst2 := hide (Hsa.out.later_ Hl.out)
  clear hw2 hgg Hst Hsa x0 x1 x2 x3 x4 x5 x6 x7 x8 x9 x10 x11 x12 p0 p1 p2 p3 p4 p5 k0 k1 k2 k3 k4
  obtain ⟨x0, x1, x2, x3, x4, x5, x6, x7, x8, x9, x10, x11, x12⟩ := Hst2.out.r.rules
  obtain ⟨p0, p1, p2, p3, p4, p5⟩ := Hst2.out.p.pos6
  obtain ⟨k0, k1, k2, k3, k4⟩ := Hst2.out.c.five
  have Hcy := hide (CertAt.more Hl.out.size _ _ _ (CertAt.below Hl.out _ _ _ Hcy1.out))
  clear Hcy1
  go_upto_region 3 with (go_at_call 22; refine (Hchk.out _ Hst2.out.later).mono ?_; rintro e w3 ⟨rfl, hw3⟩)
  have Hst3 := hide (Hst2.out.later_ hw3)
  have Hb3 := hide (hw3.blk Hb.out)
  have Hcy3 := hide (CertAt.more hw3.size _ _ _ (CertAt.below hw3 _ _ _ Hcy.out))
  clear hw3 Hst2 Hb Hl Hcy
  clear x0 x1 x2 x3 x4 x5 x6 x7 x8 x9 x10 x11 x12 p0 p1 p2 p3 p4 p5 k0 k1 k2 k3 k4
  obtain ⟨x0, x1, x2, x3, x4, x5, x6, x7, x8, x9, x10, x11, x12⟩ := Hst3.out.r.rules
  obtain ⟨p0, p1, p2, p3, p4, p5⟩ := Hst3.out.p.pos6
  go_upto_region 8 with (go_at_call 11; refine (Hof.out _ Hst3.out.later).mono ?_; rintro e w4 ⟨rfl, hw4⟩)
  have Hst4 := hide (Hst3.out.later_ hw4)
  have Hb4 := hide (hw4.blk Hb3.out)
  have Hcy4 := hide (CertAt.more hw4.size _ _ _ (CertAt.below hw4 _ _ _ Hcy3.out))
  clear hw4 Hst3 Hb3 Hcy3 t1 t2 t2n x0 x1 x2 x3 x4 x5 x6 x7 x8 x9 x10 x11 x12 p0 p1 p2 p3 p4 p5
  go_cut [15] from 42 to 56 (fun x w' => (∃ b, x = .bool b ∧ (v = false → b = true)) ∧ w' = w4)
  case first =>
    obtain ⟨b0, b1, b2, b3, b4⟩ := Hb4.out.cert5
    obtain ⟨ys, ym, yk⟩ := y
    simp only [CertD.s, CertD.m, CertD.kids] at b0 b1 b2 b3 b4
    have heq := fun w => eqM.1 ym ⟨0, 0, 0⟩ w
    have hgd := fun op a b w => eqM.2 op a b ym ⟨0, 0, 0⟩ w
    simp [encM] at heq hgd
    obtain ⟨u, hu⟩ : ∃ u, decide (ym = ⟨0, 0, 0⟩) = u := ⟨_, rfl⟩
    simp only [hu] at heq
    obtain ⟨n, hn⟩ : ∃ n, yk.length = n := ⟨_, rfl⟩
    obtain ⟨bn, hbn⟩ : ∃ bn, (((n : Nat) : Int) == 0) = bn := ⟨_, rfl⟩
    rw [hn] at b4
    have HZ := hide (show v = false → ys = false ∧ u = true ∧ bn = true from fun e => by
      obtain ⟨h1, _, _⟩ := Hny.out e
      unfold noCert at h1
      injection h1 with h1 h2 h3
      subst h1 h2 h3
      refine ⟨rfl, ?_, ?_⟩
      · rw [← hu]; exact decide_eq_true rfl
      · rw [← hbn, ← hn]; rfl)
    clear hu hn
    cases ys <;> cases u <;> cases bn <;> (go_wp2_with fail; go_meet; case rel => exact ⟨⟨_, rfl, fun e => by first | rfl | (obtain ⟨e1, e2, e3⟩ := HZ.out e; simp at e1 e2 e3)⟩, rfl⟩)
  case rest =>
    obtain ⟨⟨b, rfl, hb⟩, rfl⟩ := hcut
    rename World => w5
    have Hbv := hide hb
    clear hb
    have Hcc := hide (fun w (hw : Later w5 w) => HC.out w (Hst4.out.later.trans hw))
    obtain ⟨sv, hsv⟩ : ∃ sv, showsB r p.turn d p c = sv := ⟨_, rfl⟩
    have Hshc := hide (fun w (hw : Later w5 w) => Hsh.out c Ak ck w (Hst4.out.later.trans hw) (HC.out w (Hst4.out.later.trans hw)))
    have Hwn5 := hide (fun w (hw : Later w5 w) => Hwn.out w (Hst4.out.later.trans hw))
    have Hshy := hide (fun (e : v = true) w (hw : Later w5 w) => show Calls Tryz.prog 23 #[.agg #[.int .i64 r.start.w, .int .i64 r.start.h, .string r.start.cells, .int .i64 r.start.turn, .string r.start.h0, .string r.start.h1, .slice A r.pieces.length cp, .bool r.drops, .int .u8 r.lose, .int .i64 r.line, .int .u8 r.reach, .bool r.stuck, .int .i64 r.plies], .agg #[.int .i64 p.w, .int .i64 p.h, .string p.cells, .int .i64 p.turn, .string p.h0, .string p.h1], .int .i64 (d : Int), .int .i64 p.turn, .agg #[.bool y.s, .int .i64 y.m.f, .int .i64 y.m.t, .int .u8 (y.m.c : Int), .slice Ay y.kids.length cy]] w fun e w' => e = .returned (.bool true) ∧ Later w w' from by
      have h := Hsh.out y Ay cy w (Hst4.out.later.trans hw) (CertAt.more hw.size _ _ _ (CertAt.below hw _ _ _ Hcy4.out))
      have e2 : showsB r p.turn d p y = true := by unfold showsB; simp only [decide_eq_true_eq]; exact Hsy.out e
      rwa [e2] at h)
    simp only [hsv] at Hshc ⊢
    obtain ⟨x0, x1, x2, x3, x4, x5, x6, x7, x8, x9, x10, x11, x12⟩ := Hst4.out.r.rules
    obtain ⟨p0, p1, p2, p3, p4, p5⟩ := Hst4.out.p.pos6
    obtain ⟨k0, k1, k2, k3, k4⟩ := Hst4.out.c.five
    clear hsv
    cases v
    · obtain rfl := Hbv.out rfl
      cases sv
      all_goals
        go_wp2_with (first
          | (go_at_call 23; refine (Hshc.out _ Later.rfl).mono ?_; rintro e w6 ⟨rfl, hw6⟩; obtain ⟨y0, y1, y2, y3, y4, y5, y6, y7, y8, y9, y10, y11, y12⟩ := (hw6.blk Hst4.out.r).rules; obtain ⟨q0, q1, q2, q3, q4, q5⟩ := (hw6.blk Hst4.out.p).pos6)
          | (go_at_call 24; refine (Hwn5.out _ hw6).mono ?_; rintro e w7 ⟨rfl, hw7⟩))
        go_ret
        exact ⟨rfl, (Hst4.out.later.trans hw6).trans hw7⟩
    · cases sv
      all_goals
        go_upto_region 13 with (first
          | (go_at_call 23; refine (Hshc.out _ Later.rfl).mono ?_; rintro e w6 ⟨rfl, hw6⟩; obtain ⟨y0, y1, y2, y3, y4, y5, y6, y7, y8, y9, y10, y11, y12⟩ := (hw6.blk Hst4.out.r).rules; obtain ⟨q0, q1, q2, q3, q4, q5⟩ := (hw6.blk Hst4.out.p).pos6)
          | (go_at_call 24; refine (Hwn5.out _ hw6).mono ?_; rintro e w7 ⟨rfl, hw7⟩))
        have Hst7 := hide (Hst4.out.later_ (hw6.trans hw7))
        have Hb7 := hide ((hw6.trans hw7).blk Hb4.out)
        have Hl7 := hide (hw6.trans hw7)
        clear hw6 hw7 Hst4 x0 x1 x2 x3 x4 x5 x6 x7 x8 x9 x10 x11 x12 p0 p1 p2 p3 p4 p5 k0 k1 k2 k3 k4 y0 y1 y2 y3 y4 y5 y6 y7 y8 y9 y10 y11 y12 q0 q1 q2 q3 q4 q5
        obtain ⟨x0, x1, x2, x3, x4, x5, x6, x7, x8, x9, x10, x11, x12⟩ := Hst7.out.r.rules
        obtain ⟨p0, p1, p2, p3, p4, p5⟩ := Hst7.out.p.pos6
        obtain ⟨b0, b1, b2, b3, b4⟩ := Hb7.out.cert5
        go_wp2_with (go_at_call 23; refine (Hshy.out (by simp) _ Hl7.out).mono ?_; rintro e w8 ⟨rfl, hw8⟩)
        go_ret
        exact ⟨rfl, Hst7.out.later.trans hw8⟩
theorem CertAt.le {w : World} {B n k : Nat} (h : n ≤ k) {c : CertD} {A : Option Addr} (hc : CertAt w B k c A) : CertAt w B n c A := by
  obtain ⟨j, rfl⟩ := Nat.exists_eq_add_of_le h
  clear h
  induction j with
  | zero => exact hc
  | succ j ih => exact ih (CertAt.less _ _ _ hc)
open Classical in
theorem pp_any (r : RulesD) (A : Option Addr) (cp : Nat) (p : Pos) (d : Int) (c : CertD) (Ak : Option Addr) (ck : Nat) (W : World) (hf : RFit r) (hg : PFit p) (hP : PiecesAt W W.heap.size A r.pieces) (hd : ∀ n : Nat, d = (n : Int) → n ≤ 9 → CertAt W W.heap.size n c Ak) :
    Calls Tryz.prog 6 #[.agg #[.int .i64 r.start.w, .int .i64 r.start.h, .string r.start.cells, .int .i64 r.start.turn, .string r.start.h0, .string r.start.h1, .slice A r.pieces.length cp, .bool r.drops, .int .u8 r.lose, .int .i64 r.line, .int .u8 r.reach, .bool r.stuck, .int .i64 r.plies], .agg #[.int .i64 p.w, .int .i64 p.h, .string p.cells, .int .i64 p.turn, .string p.h0, .string p.h1], .int .i64 d, .agg #[.bool c.s, .int .i64 c.m.f, .int .i64 c.m.t, .int .u8 (c.m.c : Int), .slice Ak c.kids.length ck]] W fun e w' => e = .returned (.bool true) ∧ Later W w' := by
  by_cases hok : OfOk r p
  · by_cases h0 : d < 0 ∨ 9 < d
    · exact pp_bad r A cp p d c Ak ck W hf hg hP 4 (.inr (.inl ⟨hok, h0, rfl⟩)) (by decide)
    · obtain ⟨n, rfl⟩ : ∃ n : Nat, d = (n : Int) := ⟨d.toNat, by omega⟩
      exact pp_ok r A cp p n c Ak ck W hf hg hP (by omega) hok (hd n rfl (by omega))
  · exact pp_bad r A cp p d c Ak ck W hf hg hP 1 (.inl ⟨hok, rfl⟩) (by decide)
end Go.Proofs.YtdfegpohmaideaaGreat
/- Arguments opened into the words of Base. -/
namespace Go.Proofs.YtdfegpohmaideaaGreat
open Go.RowKit Go.ChangeShapes Go.WideShapes Go.Deep

theorem addr_of_cell {w : World} {a : Addr} {v : Value} (h : w.cell? a = some v) : a = ⟨a.block, a.off, none⟩ := by
  obtain ⟨b, o, s⟩ := a
  cases s with
  | none => rfl
  | some x =>
    unfold World.cell? at h
    split at h <;> simp at h

section
variable {H : Type} {enc : TypeId × Value → H} {P : Program} {w : World}

theorem cells_of {a : Addr} {xs : List Value} (h : ∀ k (hk : k < xs.length), w.cell? (a.add k) = some xs[k]) : Cells w w.heap.size (some a) xs := fun hn => by
  have h0 := h 0 hn
  have ha : a = ⟨a.block, a.off, none⟩ := by
    have := addr_of_cell h0
    simpa [Addr.add] using this
  refine ⟨a.block, a.off, by rw [← ha], ?_, fun k hk => ?_⟩
  · have := World.block_lt_of_cell? w _ h0
    simpa [Addr.add] using this
  · have h1 := h k hk
    rw [ha] at h1
    simp only [Addr.add_lit] at h1
    exact h1

theorem open_ints1 {t e : TypeId} (ht : P.underlying t = some (.slice e)) (he : P.underlying e = some (.int .i64)) (ce : P.cellsOf e = 1)
    {v : Value} {d : DataW H} {ps : List MemPlace} (hok : ∃ a n c, v = .slice a n c) (h : DataW.Trod enc P w 0 (fun _ => true) true t v d ps) :
    ∃ A c l, v = .slice A l.length c ∧ l.length ≤ c ∧ c ≤ maxLen ∧ Cells w w.heap.size A (ints l) ∧ (∀ x ∈ l, -9223372036854775808 ≤ x ∧ x ≤ 9223372036854775807) := by
  obtain ⟨a0, n0, c0, rfl⟩ := hok
  obtain ⟨fuel, hf⟩ := h
  rcases open_ints ht he ce hf with ⟨hcs, hx⟩ | ⟨a, len, cap, zs, hcs, _, hl, hm, hz, hx, hcell, hwz⟩
  · simp [Value.cells] at hcs
    obtain ⟨rfl, rfl, rfl⟩ := hcs
    exact ⟨none, 0, [], rfl, by simp, by simp [maxLen], Cells.nil_, by simp⟩
  · simp [Value.cells] at hcs
    obtain ⟨rfl, rfl, rfl⟩ := hcs
    simp only [if_true] at hz
    have hlen : (zs.take n0).length = n0 := by simp; omega
    refine ⟨some a, c0, zs.take n0, by rw [hlen], by omega, hm, cells_of (fun k hk => ?_), fun x hx => ?_⟩
    · rw [ints_get]
      simp only [ints_length, hlen] at hk
      rw [hcell k (by omega)]
      simp [List.getD_eq_getElem?_getD, hz, Nat.lt_of_lt_of_le hk hl]
    · have := hwz x (List.mem_of_mem_take hx)
      have h1 : IntKind.i64.min = -9223372036854775808 := rfl
      have h2 : IntKind.i64.max = 9223372036854775807 := rfl
      simp [Lit.wf, h1, h2] at this
      omega

theorem open_rows2 {t e q : TypeId} (ht : P.underlying t = some (.slice e)) (he : P.underlying e = some (.slice q)) (hq : P.underlying q = some (.int .i64))
    (ce : P.cellsOf e = 1) (cq : P.cellsOf q = 1) {v : Value} {d : DataW H} {ps : List MemPlace} (hok : ∃ a n c, v = .slice a n c) (h : DataW.Trod enc P w 0 (fun _ => true) true t v d ps) :
    ∃ A c rows, v = .slice A rows.length c ∧ rows.length ≤ c ∧ c ≤ maxLen ∧ Rows2 w w.heap.size A rows ∧ (∀ k (hk : k < rows.length), rows[k].length ≤ maxLen) := by
  obtain ⟨a0, n0, c0, rfl⟩ := hok
  obtain ⟨fuel, hf⟩ := h
  rcases open_int_rows ht he hq ce cq hf with ⟨hcs, hx⟩ | ⟨a, len, cap, A, L, C, Z, hcs, _, hl, hm, hx, hr⟩
  · simp [Value.cells] at hcs
    obtain ⟨rfl, rfl, rfl⟩ := hcs
    exact ⟨none, 0, [], rfl, by simp, by simp [maxLen], ⟨[], rfl, Cells.nil_, fun k h => by simp at h⟩, fun k h => by simp at h⟩
  · simp [Value.cells] at hcs
    obtain ⟨rfl, rfl, rfl⟩ := hcs
    have hlen : ((List.range n0).map fun r => (Z r).take (L r)).length = n0 := by simp
    have hrow : ∀ k (hk : k < ((List.range n0).map fun r => (Z r).take (L r)).length), ((List.range n0).map fun r => (Z r).take (L r))[k] = (Z k).take (L k) := fun k hk => by simp
    have hZ : ∀ k, k < n0 → ((Z k).take (L k)).length = L k := fun k hk => by
      obtain ⟨_, h1, _, h3, _⟩ := hr k (by omega)
      simp; omega
    refine ⟨some a, c0, (List.range n0).map fun r => (Z r).take (L r), by rw [hlen], by omega, hm, ⟨(List.range n0).map fun r => .slice (A r) (L r) (C r), by simp, cells_of (fun k hk => ?_), fun k hk => ?_⟩, fun k hk => ?_⟩
    · simp only [List.length_map, List.length_range] at hk
      rw [(hr k (by omega)).1]
      simp
    · have hk' : k < n0 := by rw [hlen] at hk; exact hk
      obtain ⟨h0, h1, h2, h3, h4, h5, h6⟩ := hr k (by omega)
      refine ⟨A k, C k, ?_, ?_, ?_⟩
      · rw [hrow, hZ k hk']; exact h1
      · rw [hrow, hZ k hk']; simp [hk']
      · rw [hrow]
        cases hA : A k with
        | none =>
          have : L k = 0 := by have := h5 hA; omega
          rw [this]
          exact Cells.nil_
        | some a' =>
          refine cells_of (fun c hc => ?_)
          rw [ints_get]
          simp only [ints_length, hZ k hk'] at hc
          rw [(h6 a' hA).2 c (by omega)]
          simp [List.getD_eq_getElem?_getD, h3, Nat.lt_of_lt_of_le hc h1]
    · have hk' : k < n0 := by rw [hlen] at hk; exact hk
      obtain ⟨h0, h1, h2, h3, h4, h5, h6⟩ := hr k (by omega)
      rw [hrow, hZ k hk']
      omega
end
end Go.Proofs.YtdfegpohmaideaaGreat
/- A position as an argument, opened. -/
namespace Go.Proofs.YtdfegpohmaideaaGreat
open Go.RowKit Go.ChangeShapes Go.WideShapes Go.Deep Go.ChangeMaps

section
variable {H : Type} {enc : TypeId × Value → H} {w : World} {base : Nat} {spare : Nat → Bool} {held : Bool}

set_option maxRecDepth 100000 in
/-- the six cells of a position, wherever they stand -/
theorem trod_pos {fuel : Nat} {cs : List Value} {x : DataW H × List MemPlace} (h : DataW.trod enc Tryz.prog w base spare held fuel 24 cs = some x) :
    ∃ (a b : Int) (c : ByteArray) (t : Int) (h0 h1 : ByteArray), cs = [.int .i64 a, .int .i64 b, .string c, .int .i64 t, .string h0, .string h1] ∧ x.2 = [] ∧
      c.size ≤ 9223372036854775807 ∧ h0.size ≤ 9223372036854775807 ∧ h1.size ≤ 9223372036854775807 ∧ (-9223372036854775808 ≤ a ∧ a ≤ 9223372036854775807) ∧ (-9223372036854775808 ≤ b ∧ b ≤ 9223372036854775807) ∧ (-9223372036854775808 ≤ t ∧ t ≤ 9223372036854775807) := by
  obtain ⟨xs, n, _, hx, hlen, hxl, hg⟩ := DataW.trod_struct Tryz.underlying24 h
  have c6 : Tryz.prog.cellsOf 24 = 6 := by kernel_rfl
  have ci : Tryz.prog.cellsOf 3 = 1 := by kernel_rfl
  have cst : Tryz.prog.cellsOf 9 = 1 := by kernel_rfl
  have c2 : Tryz.prog.cellsOf 22 = 2 := by kernel_rfl
  rw [c6] at hlen
  match cs, hlen with
  | [e0, e1, e2, e3, e4, e5], _ =>
    match xs, hxl with
    | [y0, y1, y2, y3, y4], _ =>
      have g0 : DataW.trod enc Tryz.prog w base spare held n 3 (([e0, e1, e2, e3, e4, e5].drop 0).take (Tryz.prog.cellsOf 3)) = [y0, y1, y2, y3, y4][0]? := hg 0 _ rfl
      have g1 : DataW.trod enc Tryz.prog w base spare held n 3 (([e0, e1, e2, e3, e4, e5].drop 1).take (Tryz.prog.cellsOf 3)) = [y0, y1, y2, y3, y4][1]? := hg 1 _ rfl
      have g2 : DataW.trod enc Tryz.prog w base spare held n 9 (([e0, e1, e2, e3, e4, e5].drop 2).take (Tryz.prog.cellsOf 9)) = [y0, y1, y2, y3, y4][2]? := hg 2 _ rfl
      have g3 : DataW.trod enc Tryz.prog w base spare held n 3 (([e0, e1, e2, e3, e4, e5].drop 3).take (Tryz.prog.cellsOf 3)) = [y0, y1, y2, y3, y4][3]? := hg 3 _ rfl
      have g4 : DataW.trod enc Tryz.prog w base spare held n 22 (([e0, e1, e2, e3, e4, e5].drop 4).take (Tryz.prog.cellsOf 22)) = [y0, y1, y2, y3, y4][4]? := hg 4 _ rfl
      simp only [ci, cst, c2, List.drop_zero, List.drop_succ_cons, List.take_succ_cons, List.take_zero, List.getElem?_cons_zero, List.getElem?_cons_succ] at g0 g1 g2 g3 g4
      obtain ⟨a, ha, ea, wa⟩ := DataW.trod_int Tryz.underlying3 g0
      obtain ⟨b, hb, eb, wb⟩ := DataW.trod_int Tryz.underlying3 g1
      obtain ⟨c, hc, ec, wc⟩ := DataW.trod_string Tryz.underlying9 g2
      obtain ⟨t, ht, et, wt⟩ := DataW.trod_int Tryz.underlying3 g3
      obtain ⟨zs, m, _, hz, _, hzl, hzg⟩ := DataW.trod_array Tryz.underlying22 g4
      match zs, hzl with
      | [z0, z1], _ =>
        have k0 := hzg 0 (by omega)
        have k1 := hzg 1 (by omega)
        simp only [cst, Nat.zero_mul, Nat.one_mul, List.drop_zero, List.drop_succ_cons, List.take_succ_cons, List.take_zero, List.getElem?_cons_zero, List.getElem?_cons_succ] at k0 k1
        obtain ⟨h0, q0, r0, s0⟩ := DataW.trod_string Tryz.underlying9 k0
        obtain ⟨h1, q1, r1, s1⟩ := DataW.trod_string Tryz.underlying9 k1
        simp only [List.cons.injEq, and_true] at ha hb hc ht q0 q1
        have m1 : IntKind.i64.min = -9223372036854775808 := rfl
        have m2 : IntKind.i64.max = 9223372036854775807 := rfl
        simp [Lit.wf, m1, m2] at wa wb wt
        have m3 : maxLen = 9223372036854775807 := rfl
        rw [m3] at wc s0 s1
        refine ⟨a, b, c, t, h0, h1, by rw [ha, hb, hc, ht, q0, q1], ?_, by omega, by omega, by omega, wa, wb, wt⟩
        rw [hx]
        simp [ea, eb, ec, et, hz, r0, r1]

set_option maxRecDepth 100000 in
theorem open_pos {r : Reach} {b0 : Nat} {v : Value} {d : DataW H} {p : List MemPlace} (hv : Value.okWide Tryz.prog w r b0 24 v) (h : DataW.Trod enc Tryz.prog w base spare held 24 v d p) :
    ∃ (a b : Int) (c : ByteArray) (t : Int) (h0 h1 : ByteArray), v = .agg #[.int .i64 a, .int .i64 b, .string c, .int .i64 t, .string h0, .string h1] ∧ p = [] ∧
      c.size ≤ 9223372036854775807 ∧ h0.size ≤ 9223372036854775807 ∧ h1.size ≤ 9223372036854775807 ∧ (-9223372036854775808 ≤ a ∧ a ≤ 9223372036854775807) ∧ (-9223372036854775808 ≤ b ∧ b ≤ 9223372036854775807) ∧ (-9223372036854775808 ≤ t ∧ t ≤ 9223372036854775807) := by
  obtain ⟨cs, rfl, hsz⟩ := okWide_struct Tryz.underlying24 hv
  obtain ⟨fuel, hf⟩ := h
  obtain ⟨a, b, c, t, h0, h1, hcs, hp, rest⟩ := trod_pos hf
  obtain ⟨l⟩ := cs
  refine ⟨a, b, c, t, h0, h1, ?_, hp, rest⟩
  have hcs2 : l = [.int .i64 a, .int .i64 b, .string c, .int .i64 t, .string h0, .string h1] := by simpa [Value.cells] using hcs
  rw [hcs2]
end
end Go.Proofs.YtdfegpohmaideaaGreat
/- Rules as an argument, opened. -/
namespace Go.Proofs.YtdfegpohmaideaaGreat
open Go.RowKit Go.ChangeShapes Go.WideShapes Go.Deep Go.ChangeMaps

theorem each_of {α : Type} {P : Nat → α → Prop} : ∀ {n : Nat} (_ : ∀ i, i < n → ∃ x, P i x), ∃ xs : List α, xs.length = n ∧ ∀ i (hi : i < xs.length), P i xs[i]
  | 0, _ => ⟨[], rfl, fun i hi => absurd hi (by simp)⟩
  | n + 1, h => by
    obtain ⟨xs, hl, hx⟩ := each_of (n := n) (fun i hi => h i (by omega))
    obtain ⟨x, hp⟩ := h n (by omega)
    refine ⟨xs ++ [x], by simp [hl], fun i hi => ?_⟩
    by_cases hi' : i < xs.length
    · rw [List.getElem_append_left hi']; exact hx i hi'
    · have : i = n := by simp at hi; omega
      subst this
      rw [List.getElem_append_right (by omega)]
      simpa [hl] using hp
theorem flat_get {α : Type} (f : α → List Value) (k : Nat) (hf : ∀ x, (f x).length = k) : ∀ (xs : List α) (i j : Nat) (hi : i < xs.length), j < k → (xs.flatMap f)[i * k + j]? = (f xs[i])[j]?
  | [], i, _, hi, _ => absurd hi (by simp)
  | x :: xs, 0, j, _, hj => by
    rw [List.flatMap_cons, Nat.zero_mul, Nat.zero_add, List.getElem?_append_left (by rw [hf]; exact hj)]
    rfl
  | x :: xs, i + 1, j, hi, hj => by
    have e : (i + 1) * k + j = k + (i * k + j) := by rw [Nat.succ_mul]; omega
    rw [List.flatMap_cons, e, List.getElem?_append_right (by rw [hf]; omega), hf, Nat.add_sub_cancel_left, flat_get f k hf xs i j (by simpa using hi) hj]
    rfl
theorem flat_length {α : Type} (f : α → List Value) (k : Nat) (hf : ∀ x, (f x).length = k) : ∀ xs : List α, (xs.flatMap f).length = xs.length * k
  | [] => by simp
  | x :: xs => by rw [List.flatMap_cons, List.length_append, hf, flat_length f k hf xs, List.length_cons, Nat.succ_mul]; omega

section
variable {H : Type} {enc : TypeId × Value → H} {w : World} {base : Nat} {spare : Nat → Bool} {held : Bool}

theorem cells_rows {α : Type} (f : α → List Value) (k : Nat) (hk : 0 < k) (hf : ∀ x, (f x).length = k) (a : Addr) (xs : List α) (h : ∀ i (hi : i < xs.length), w.cells? base (a.add (i * k)) k = some (f xs[i])) :
    Cells w w.heap.size (some a) (xs.flatMap f) := by
  refine cells_of (fun j hj => ?_)
  rw [flat_length f k hf] at hj
  have hi : j / k < xs.length := (Nat.div_lt_iff_lt_mul hk).2 hj
  have hjk : j % k < k := Nat.mod_lt _ hk
  obtain ⟨_, _, h1⟩ := World.cells?_some (h _ hi)
  have h2 := h1 (j % k) hjk
  have hdm : j / k * k + j % k = j := by rw [Nat.mul_comm]; exact Nat.div_add_mod j k
  have ha : a = ⟨a.block, a.off, none⟩ := by
    obtain ⟨_, _, z1⟩ := World.cells?_some (h 0 (Nat.lt_of_le_of_lt (Nat.zero_le _) hi))
    have hz : 0 < (f (xs[0]'(Nat.lt_of_le_of_lt (Nat.zero_le _) hi))).length := by rw [hf]; exact hk
    have z2 := addr_of_cell ((z1 0 hk).trans (List.getElem?_eq_getElem hz))
    simpa [Addr.add] using z2
  have e0 : (a.add (j / k * k)).add (j % k) = a.add j := by
    rw [ha]
    simp only [Addr.add_lit]
    rw [Nat.add_assoc, hdm]
  rw [e0] at h2
  rw [h2, ← flat_get f k hf xs (j / k) (j % k) hi hjk, hdm, List.getElem?_eq_getElem (by rw [flat_length f k hf]; exact hj)]

def wayV (r : WayD) : List Value := [.int .i64 r.kind, .int .i64 r.x, .int .i64 r.y, .int .i64 r.take]
theorem wayV_flat (ws : List WayD) : ws.flatMap wayV = ints (flatW ws) := by
  induction ws with
  | nil => rfl
  | cons x ws ih => rw [List.flatMap_cons, ih]; simp [flatW, ints, wayV]
set_option maxRecDepth 100000 in
theorem trod_way {fuel : Nat} {cs : List Value} {x : DataW H × List MemPlace} (h : DataW.trod enc Tryz.prog w base spare held fuel 120 cs = some x) : ∃ r : WayD, cs = wayV r := by
  obtain ⟨xs, n, _, hx, hlen, hxl, hg⟩ := DataW.trod_struct Tryz.underlying120 h
  have c6 : Tryz.prog.cellsOf 120 = 4 := by kernel_rfl
  have ci : Tryz.prog.cellsOf 3 = 1 := by kernel_rfl
  rw [c6] at hlen
  match cs, hlen with
  | [e0, e1, e2, e3], _ =>
    match xs, hxl with
    | [y0, y1, y2, y3], _ =>
      have g0 : DataW.trod enc Tryz.prog w base spare held n 3 (([e0, e1, e2, e3].drop 0).take (Tryz.prog.cellsOf 3)) = [y0, y1, y2, y3][0]? := hg 0 _ rfl
      have g1 : DataW.trod enc Tryz.prog w base spare held n 3 (([e0, e1, e2, e3].drop 1).take (Tryz.prog.cellsOf 3)) = [y0, y1, y2, y3][1]? := hg 1 _ rfl
      have g2 : DataW.trod enc Tryz.prog w base spare held n 3 (([e0, e1, e2, e3].drop 2).take (Tryz.prog.cellsOf 3)) = [y0, y1, y2, y3][2]? := hg 2 _ rfl
      have g3 : DataW.trod enc Tryz.prog w base spare held n 3 (([e0, e1, e2, e3].drop 3).take (Tryz.prog.cellsOf 3)) = [y0, y1, y2, y3][3]? := hg 3 _ rfl
      simp only [ci, List.drop_zero, List.drop_succ_cons, List.take_succ_cons, List.take_zero, List.getElem?_cons_zero, List.getElem?_cons_succ] at g0 g1 g2 g3
      obtain ⟨a, ha, _, _⟩ := DataW.trod_int Tryz.underlying3 g0
      obtain ⟨b, hb, _, _⟩ := DataW.trod_int Tryz.underlying3 g1
      obtain ⟨c, hc, _, _⟩ := DataW.trod_int Tryz.underlying3 g2
      obtain ⟨d, hd, _, _⟩ := DataW.trod_int Tryz.underlying3 g3
      simp only [List.cons.injEq, and_true] at ha hb hc hd
      exact ⟨⟨a, b, c, d⟩, by rw [ha, hb, hc, hd]; rfl⟩
theorem trod_ways {fuel : Nat} {cs : List Value} {x : DataW H × List MemPlace} (h : DataW.trod enc Tryz.prog w base spare held fuel 115 cs = some x) :
    ∃ A c ws, cs = [.slice A ws.length c] ∧ ws.length ≤ c ∧ c ≤ maxLen ∧ WaysAt w w.heap.size A ws := by
  have c4 : Tryz.prog.cellsOf 120 = 4 := by kernel_rfl
  rcases DataW.trod_slice Tryz.underlying115 h with ⟨hcs, _⟩ | ⟨a, len, cap, elems, rest, n, _, hcs, _, _, hl, hm, he, hg, _⟩
  · exact ⟨none, 0, [], hcs, by simp, by simp [maxLen], Cells.nil_⟩
  · rw [c4] at hg
    have hall : ∀ i, i < len → ∃ r : WayD, w.cells? base (a.add (i * 4)) 4 = some (wayV r) := fun i hi => by
      have h1 := hg i hi
      rw [List.getElem?_eq_getElem (by omega)] at h1
      obtain ⟨cs, q1, q2⟩ := Option.bind_eq_some_iff.1 h1
      obtain ⟨r, rfl⟩ := trod_way q2
      exact ⟨r, q1⟩
    obtain ⟨ws, hlen, hws⟩ := each_of hall
    subst hlen
    refine ⟨some a, cap, ws, hcs, hl, hm, ?_⟩
    have := cells_rows wayV 4 (by decide) (fun _ => rfl) a ws hws
    rw [wayV_flat] at this
    exact this
/-- a piece, with where its ways lie -/
def pieceV (z : PieceD × (Option Addr × Nat)) : List Value := [.int .u8 z.1.letter, .int .i64 z.1.worth, .slice z.2.1 z.1.ways.length z.2.2]
theorem pieceV_flat : ∀ zs : List (PieceD × (Option Addr × Nat)), zs.flatMap pieceV = cellsP (zs.map (·.1)) (zs.map (·.2))
  | [] => rfl
  | z :: zs => by rw [List.flatMap_cons, pieceV_flat zs]; rfl
set_option maxRecDepth 100000 in
theorem trod_piece {fuel : Nat} {cs : List Value} {x : DataW H × List MemPlace} (h : DataW.trod enc Tryz.prog w base spare held fuel 117 cs = some x) :
    ∃ z : PieceD × (Option Addr × Nat), cs = pieceV z ∧ z.1.ways.length ≤ z.2.2 ∧ z.2.2 ≤ maxLen ∧ WaysAt w w.heap.size z.2.1 z.1.ways := by
  obtain ⟨xs, n, _, hx, hlen, hxl, hg⟩ := DataW.trod_struct Tryz.underlying117 h
  have c6 : Tryz.prog.cellsOf 117 = 3 := by kernel_rfl
  have ci : Tryz.prog.cellsOf 3 = 1 := by kernel_rfl
  have cu : Tryz.prog.cellsOf 5 = 1 := by kernel_rfl
  have cs1 : Tryz.prog.cellsOf 115 = 1 := by kernel_rfl
  rw [c6] at hlen
  match cs, hlen with
  | [e0, e1, e2], _ =>
    match xs, hxl with
    | [y0, y1, y2], _ =>
      have g0 : DataW.trod enc Tryz.prog w base spare held n 5 (([e0, e1, e2].drop 0).take (Tryz.prog.cellsOf 5)) = [y0, y1, y2][0]? := hg 0 _ rfl
      have g1 : DataW.trod enc Tryz.prog w base spare held n 3 (([e0, e1, e2].drop 1).take (Tryz.prog.cellsOf 3)) = [y0, y1, y2][1]? := hg 1 _ rfl
      have g2 : DataW.trod enc Tryz.prog w base spare held n 115 (([e0, e1, e2].drop 2).take (Tryz.prog.cellsOf 115)) = [y0, y1, y2][2]? := hg 2 _ rfl
      simp only [ci, cu, cs1, List.drop_zero, List.drop_succ_cons, List.take_succ_cons, List.take_zero, List.getElem?_cons_zero, List.getElem?_cons_succ] at g0 g1 g2
      obtain ⟨a, ha, _, wa⟩ := DataW.trod_int Tryz.underlying5 g0
      obtain ⟨b, hb, _, _⟩ := DataW.trod_int Tryz.underlying3 g1
      obtain ⟨A, c, ws, hc, hl, hm, hw⟩ := trod_ways g2
      simp only [List.cons.injEq, and_true] at ha hb hc
      have m1 : IntKind.u8.min = 0 := rfl
      have m2 : IntKind.u8.max = 255 := rfl
      simp [Lit.wf, m1, m2] at wa
      refine ⟨(⟨a.toNat, b, ws⟩, (A, c)), ?_, hl, hm, hw⟩
      rw [ha, hb, hc]
      simp only [pieceV]
      rw [show ((a.toNat : Nat) : Int) = a by omega]
theorem trod_pieces {fuel : Nat} {cs : List Value} {x : DataW H × List MemPlace} (h : DataW.trod enc Tryz.prog w base spare held fuel 25 cs = some x) :
    ∃ A c ps, cs = [.slice A ps.length c] ∧ ps.length ≤ maxLen ∧ (∀ k (h : k < ps.length), ps[k].ways.length ≤ maxLen) ∧ PiecesAt w w.heap.size A ps := by
  have c3 : Tryz.prog.cellsOf 117 = 3 := by kernel_rfl
  rcases DataW.trod_slice Tryz.underlying25 h with ⟨hcs, _⟩ | ⟨a, len, cap, elems, rest, n, _, hcs, _, _, hl, hm, he, hg, _⟩
  · exact ⟨none, 0, [], hcs, by simp [maxLen], fun k h => by simp at h, [], rfl, Cells.nil_, fun k h => by simp at h⟩
  · rw [c3] at hg
    have hall : ∀ i, i < len → ∃ z : PieceD × (Option Addr × Nat), w.cells? base (a.add (i * 3)) 3 = some (pieceV z) ∧ z.1.ways.length ≤ z.2.2 ∧ z.2.2 ≤ maxLen ∧ WaysAt w w.heap.size z.2.1 z.1.ways := fun i hi => by
      have h1 := hg i hi
      rw [List.getElem?_eq_getElem (by omega)] at h1
      obtain ⟨cs, q1, q2⟩ := Option.bind_eq_some_iff.1 h1
      obtain ⟨z, rfl, q3⟩ := trod_piece q2
      exact ⟨z, q1, q3⟩
    obtain ⟨zs, hlen, hzs⟩ := each_of hall
    subst hlen
    refine ⟨some a, cap, zs.map (·.1), by rw [List.length_map]; exact hcs, by rw [List.length_map]; omega, fun k hk => ?_, zs.map (·.2), by simp, ?_, fun k hk => ?_⟩
    · rw [List.length_map] at hk
      rw [List.getElem_map]
      have := hzs k hk
      omega
    · have := cells_rows pieceV 3 (by decide) (fun _ => rfl) a zs (fun i hi => (hzs i hi).1)
      rw [pieceV_flat] at this
      exact this
    · rw [List.length_map] at hk
      rw [List.getElem_map, List.getElem_map]
      exact ⟨(hzs k hk).2.1, (hzs k hk).2.2.2⟩
set_option maxRecDepth 100000 in
theorem trod_rules {fuel : Nat} {cs : List Value} {x : DataW H × List MemPlace} (h : DataW.trod enc Tryz.prog w base spare held fuel 27 cs = some x) :
    ∃ (r : RulesD) (A : Option Addr) (cp : Nat), cs.toArray = #[.int .i64 r.start.w, .int .i64 r.start.h, .string r.start.cells, .int .i64 r.start.turn, .string r.start.h0, .string r.start.h1, .slice A r.pieces.length cp, .bool r.drops, .int .u8 r.lose, .int .i64 r.line, .int .u8 r.reach, .bool r.stuck, .int .i64 r.plies] ∧ RFit r ∧ PiecesAt w w.heap.size A r.pieces := by
  obtain ⟨xs, n, _, hx, hlen, hxl, hg⟩ := DataW.trod_struct Tryz.underlying27 h
  have c13 : Tryz.prog.cellsOf 27 = 13 := by kernel_rfl
  have c6 : Tryz.prog.cellsOf 24 = 6 := by kernel_rfl
  have ci : Tryz.prog.cellsOf 3 = 1 := by kernel_rfl
  have cu : Tryz.prog.cellsOf 5 = 1 := by kernel_rfl
  have cb : Tryz.prog.cellsOf 4 = 1 := by kernel_rfl
  have cs1 : Tryz.prog.cellsOf 25 = 1 := by kernel_rfl
  rw [c13] at hlen
  match cs, hlen with
  | [e0, e1, e2, e3, e4, e5, e6, e7, e8, e9, e10, e11, e12], _ =>
    match xs, hxl with
    | [y0, y1, y2, y3, y4, y5, y6, y7], _ =>
      have g0 : DataW.trod enc Tryz.prog w base spare held n 24 (([e0, e1, e2, e3, e4, e5, e6, e7, e8, e9, e10, e11, e12].drop 0).take (Tryz.prog.cellsOf 24)) = [y0, y1, y2, y3, y4, y5, y6, y7][0]? := hg 0 _ rfl
      have g1 : DataW.trod enc Tryz.prog w base spare held n 25 (([e0, e1, e2, e3, e4, e5, e6, e7, e8, e9, e10, e11, e12].drop 6).take (Tryz.prog.cellsOf 25)) = [y0, y1, y2, y3, y4, y5, y6, y7][1]? := hg 1 _ rfl
      have g2 : DataW.trod enc Tryz.prog w base spare held n 4 (([e0, e1, e2, e3, e4, e5, e6, e7, e8, e9, e10, e11, e12].drop 7).take (Tryz.prog.cellsOf 4)) = [y0, y1, y2, y3, y4, y5, y6, y7][2]? := hg 2 _ rfl
      have g3 : DataW.trod enc Tryz.prog w base spare held n 5 (([e0, e1, e2, e3, e4, e5, e6, e7, e8, e9, e10, e11, e12].drop 8).take (Tryz.prog.cellsOf 5)) = [y0, y1, y2, y3, y4, y5, y6, y7][3]? := hg 3 _ rfl
      have g4 : DataW.trod enc Tryz.prog w base spare held n 3 (([e0, e1, e2, e3, e4, e5, e6, e7, e8, e9, e10, e11, e12].drop 9).take (Tryz.prog.cellsOf 3)) = [y0, y1, y2, y3, y4, y5, y6, y7][4]? := hg 4 _ rfl
      have g5 : DataW.trod enc Tryz.prog w base spare held n 5 (([e0, e1, e2, e3, e4, e5, e6, e7, e8, e9, e10, e11, e12].drop 10).take (Tryz.prog.cellsOf 5)) = [y0, y1, y2, y3, y4, y5, y6, y7][5]? := hg 5 _ rfl
      have g6 : DataW.trod enc Tryz.prog w base spare held n 4 (([e0, e1, e2, e3, e4, e5, e6, e7, e8, e9, e10, e11, e12].drop 11).take (Tryz.prog.cellsOf 4)) = [y0, y1, y2, y3, y4, y5, y6, y7][6]? := hg 6 _ rfl
      have g7 : DataW.trod enc Tryz.prog w base spare held n 3 (([e0, e1, e2, e3, e4, e5, e6, e7, e8, e9, e10, e11, e12].drop 12).take (Tryz.prog.cellsOf 3)) = [y0, y1, y2, y3, y4, y5, y6, y7][7]? := hg 7 _ rfl
      simp only [c6, ci, cu, cb, cs1, List.drop_zero, List.drop_succ_cons, List.take_succ_cons, List.take_zero, List.getElem?_cons_zero, List.getElem?_cons_succ] at g0 g1 g2 g3 g4 g5 g6 g7
      obtain ⟨a, b, c, t, h0, h1, ha, _, hc, hh0, hh1, _⟩ := trod_pos g0
      obtain ⟨A, cp, ps, hp, hpl, hpw, hpa⟩ := trod_pieces g1
      obtain ⟨dr, hdr, _⟩ := DataW.trod_bool Tryz.underlying4 g2
      obtain ⟨lo, hlo, _, wlo⟩ := DataW.trod_int Tryz.underlying5 g3
      obtain ⟨li, hli, _, _⟩ := DataW.trod_int Tryz.underlying3 g4
      obtain ⟨re, hre, _, wre⟩ := DataW.trod_int Tryz.underlying5 g5
      obtain ⟨st, hst, _⟩ := DataW.trod_bool Tryz.underlying4 g6
      obtain ⟨pl, hpl2, _, _⟩ := DataW.trod_int Tryz.underlying3 g7
      simp only [List.cons.injEq, and_true] at ha hp hdr hlo hli hre hst hpl2
      obtain ⟨a0, a1, a2, a3, a4, a5⟩ := ha
      have m1 : IntKind.u8.min = 0 := rfl
      have m2 : IntKind.u8.max = 255 := rfl
      simp [Lit.wf, m1, m2] at wlo wre
      have m3 : maxLen = 9223372036854775807 := rfl
      refine ⟨⟨⟨a, b, c, t, h0, h1⟩, ps, dr, lo.toNat, li, re.toNat, st, pl⟩, A, cp, ?_, ⟨hc, hh0, hh1, by rw [← m3]; exact hpl, fun k h => by rw [← m3]; exact hpw k h⟩, hpa⟩
      rw [a0, a1, a2, a3, a4, a5, hp, hdr, hlo, hli, hre, hst, hpl2]
      simp only
      rw [show ((lo.toNat : Nat) : Int) = lo by omega, show ((re.toNat : Nat) : Int) = re by omega]
set_option maxRecDepth 100000 in
theorem open_rules {r0 : Reach} {b0 : Nat} {v : Value} {d : DataW H} {p : List MemPlace} (hv : Value.okWide Tryz.prog w r0 b0 27 v) (h : DataW.Trod enc Tryz.prog w base spare held 27 v d p) :
    ∃ (r : RulesD) (A : Option Addr) (cp : Nat), v = .agg #[.int .i64 r.start.w, .int .i64 r.start.h, .string r.start.cells, .int .i64 r.start.turn, .string r.start.h0, .string r.start.h1, .slice A r.pieces.length cp, .bool r.drops, .int .u8 r.lose, .int .i64 r.line, .int .u8 r.reach, .bool r.stuck, .int .i64 r.plies] ∧ RFit r ∧ PiecesAt w w.heap.size A r.pieces := by
  obtain ⟨cs, rfl, hsz⟩ := okWide_struct Tryz.underlying27 hv
  obtain ⟨fuel, hf⟩ := h
  obtain ⟨r, A, cp, hcs, h1, h2⟩ := trod_rules hf
  obtain ⟨l⟩ := cs
  refine ⟨r, A, cp, ?_, h1, h2⟩
  exact congrArg Value.agg hcs
set_option maxRecDepth 100000 in
theorem open_move {r0 : Reach} {b0 : Nat} {v : Value} {d : DataW H} {p : List MemPlace} (hv : Value.okWide Tryz.prog w r0 b0 29 v) (h : DataW.Trod enc Tryz.prog w base spare held 29 v d p) :
    ∃ (f t : Int) (c : Nat), v = .agg #[.int .i64 f, .int .i64 t, .int .u8 c] := by
  obtain ⟨cs, rfl, hsz⟩ := okWide_struct Tryz.underlying29 hv
  obtain ⟨fuel, hf⟩ := h
  obtain ⟨xs, n, _, hx, hlen, hxl, hg⟩ := DataW.trod_struct Tryz.underlying29 hf
  have c6 : Tryz.prog.cellsOf 29 = 3 := by kernel_rfl
  have ci : Tryz.prog.cellsOf 3 = 1 := by kernel_rfl
  have cu : Tryz.prog.cellsOf 5 = 1 := by kernel_rfl
  obtain ⟨l⟩ := cs
  rw [c6] at hlen
  have hl3 : l.length = 3 := by simpa [Value.cells] using hlen
  match l, hl3 with
  | [e0, e1, e2], _ =>
    match xs, hxl with
    | [y0, y1, y2], _ =>
      have g0 : DataW.trod enc Tryz.prog w base spare held n 3 (([e0, e1, e2].drop 0).take (Tryz.prog.cellsOf 3)) = [y0, y1, y2][0]? := hg 0 _ rfl
      have g1 : DataW.trod enc Tryz.prog w base spare held n 3 (([e0, e1, e2].drop 1).take (Tryz.prog.cellsOf 3)) = [y0, y1, y2][1]? := hg 1 _ rfl
      have g2 : DataW.trod enc Tryz.prog w base spare held n 5 (([e0, e1, e2].drop 2).take (Tryz.prog.cellsOf 5)) = [y0, y1, y2][2]? := hg 2 _ rfl
      simp only [ci, cu, List.drop_zero, List.drop_succ_cons, List.take_succ_cons, List.take_zero, List.getElem?_cons_zero, List.getElem?_cons_succ] at g0 g1 g2
      obtain ⟨a, ha, _, _⟩ := DataW.trod_int Tryz.underlying3 g0
      obtain ⟨b, hb, _, _⟩ := DataW.trod_int Tryz.underlying3 g1
      obtain ⟨c, hc, _, wc⟩ := DataW.trod_int Tryz.underlying5 g2
      simp only [List.cons.injEq, and_true] at ha hb hc
      have m1 : IntKind.u8.min = 0 := rfl
      have m2 : IntKind.u8.max = 255 := rfl
      simp [Lit.wf, m1, m2] at wc
      refine ⟨a, b, c.toNat, ?_⟩
      rw [ha, hb, hc, show ((c.toNat : Nat) : Int) = c by omega]
end
end Go.Proofs.YtdfegpohmaideaaGreat
/- A cert as an argument, opened. -/
namespace Go.Proofs.YtdfegpohmaideaaGreat
open Go.RowKit Go.ChangeShapes Go.WideShapes Go.Deep Go.ChangeMaps

section
variable {H : Type} {enc : TypeId × Value → H} {w : World} {base : Nat} {spare : Nat → Bool} {held : Bool}
set_option maxRecDepth 100000 in
theorem trod_mv {fuel : Nat} {cs : List Value} {x : DataW H × List MemPlace} (h : DataW.trod enc Tryz.prog w base spare held fuel 29 cs = some x) : ∃ m : Mv, cs = [.int .i64 m.f, .int .i64 m.t, .int .u8 (m.c : Int)] := by
  obtain ⟨xs, n, _, hx, hlen, hxl, hg⟩ := DataW.trod_struct Tryz.underlying29 h
  have c6 : Tryz.prog.cellsOf 29 = 3 := by kernel_rfl
  have ci : Tryz.prog.cellsOf 3 = 1 := by kernel_rfl
  have cu : Tryz.prog.cellsOf 5 = 1 := by kernel_rfl
  rw [c6] at hlen
  match cs, hlen with
  | [e0, e1, e2], _ =>
    match xs, hxl with
    | [y0, y1, y2], _ =>
      have g0 : DataW.trod enc Tryz.prog w base spare held n 3 (([e0, e1, e2].drop 0).take (Tryz.prog.cellsOf 3)) = [y0, y1, y2][0]? := hg 0 _ rfl
      have g1 : DataW.trod enc Tryz.prog w base spare held n 3 (([e0, e1, e2].drop 1).take (Tryz.prog.cellsOf 3)) = [y0, y1, y2][1]? := hg 1 _ rfl
      have g2 : DataW.trod enc Tryz.prog w base spare held n 5 (([e0, e1, e2].drop 2).take (Tryz.prog.cellsOf 5)) = [y0, y1, y2][2]? := hg 2 _ rfl
      simp only [ci, cu, List.drop_zero, List.drop_succ_cons, List.take_succ_cons, List.take_zero, List.getElem?_cons_zero, List.getElem?_cons_succ] at g0 g1 g2
      obtain ⟨a, ha, _, _⟩ := DataW.trod_int Tryz.underlying3 g0
      obtain ⟨b, hb, _, _⟩ := DataW.trod_int Tryz.underlying3 g1
      obtain ⟨c, hc, _, wc⟩ := DataW.trod_int Tryz.underlying5 g2
      simp only [List.cons.injEq, and_true] at ha hb hc
      have m1 : IntKind.u8.min = 0 := rfl
      have m2 : IntKind.u8.max = 255 := rfl
      simp [Lit.wf, m1, m2] at wc
      refine ⟨⟨a, b, c.toNat⟩, ?_⟩
      rw [ha, hb, hc]
      simp only
      rw [show ((c.toNat : Nat) : Int) = c by omega]
def CertIs (w : World) (n : Nat) (cs : List Value) (c : CertD) : Prop := ∃ (A : Option Addr) (cap : Nat), cs = (certC c A cap).toList ∧ c.kids.length ≤ cap ∧ CertAt w w.heap.size n c A
set_option maxRecDepth 100000 in
/-- a cert's five cells, and what lies behind them -/
theorem cert_shape {fuel : Nat} {cs : List Value} {x : DataW H × List MemPlace} (h : DataW.trod enc Tryz.prog w base spare held fuel 58 cs = some x) :
    ∃ (s : Bool) (m : Mv) (A : Option Addr) (len cap : Nat), cs = [.bool s, .int .i64 m.f, .int .i64 m.t, .int .u8 (m.c : Int), .slice A len cap] ∧ len ≤ cap ∧
      ∀ i, i < len → ∃ a ks f2, ∃ x2 : DataW H × List MemPlace, A = some a ∧ w.cells? base (a.add (i * 5)) 5 = some ks ∧ DataW.trod enc Tryz.prog w base spare held f2 58 ks = some x2 := by
  obtain ⟨xs, n', _, hx, hlen, hxl, hg⟩ := DataW.trod_struct Tryz.underlying58 h
  have c5 : Tryz.prog.cellsOf 58 = 5 := by kernel_rfl
  have c3 : Tryz.prog.cellsOf 29 = 3 := by kernel_rfl
  have cb : Tryz.prog.cellsOf 4 = 1 := by kernel_rfl
  have cl : Tryz.prog.cellsOf 56 = 1 := by kernel_rfl
  rw [c5] at hlen
  match cs, hlen with
  | [e0, e1, e2, e3, e4], _ =>
    match xs, hxl with
    | [y0, y1, y2], _ =>
      have g0 : DataW.trod enc Tryz.prog w base spare held n' 4 (([e0, e1, e2, e3, e4].drop 0).take (Tryz.prog.cellsOf 4)) = [y0, y1, y2][0]? := hg 0 _ rfl
      have g1 : DataW.trod enc Tryz.prog w base spare held n' 29 (([e0, e1, e2, e3, e4].drop 1).take (Tryz.prog.cellsOf 29)) = [y0, y1, y2][1]? := hg 1 _ rfl
      have g2 : DataW.trod enc Tryz.prog w base spare held n' 56 (([e0, e1, e2, e3, e4].drop 4).take (Tryz.prog.cellsOf 56)) = [y0, y1, y2][2]? := hg 2 _ rfl
      simp only [c3, cb, cl, List.drop_zero, List.drop_succ_cons, List.take_succ_cons, List.take_zero, List.getElem?_cons_zero, List.getElem?_cons_succ] at g0 g1 g2
      obtain ⟨s, hs, _⟩ := DataW.trod_bool Tryz.underlying4 g0
      obtain ⟨m, hm⟩ := trod_mv g1
      simp only [List.cons.injEq, and_true] at hs hm
      obtain ⟨m0, m1, m2⟩ := hm
      rcases DataW.trod_slice Tryz.underlying56 g2 with ⟨hcs, _⟩ | ⟨a, len, cap, elems, rest, n2, _, hcs, _, _, hl, _, he, hgk, _⟩
      · simp only [List.cons.injEq, and_true] at hcs
        exact ⟨s, m, none, 0, 0, by rw [hs, m0, m1, m2, hcs], Nat.le_refl 0, fun i hi => absurd hi (by omega)⟩
      · simp only [List.cons.injEq, and_true] at hcs
        rw [c5] at hgk
        refine ⟨s, m, some a, len, cap, by rw [hs, m0, m1, m2, hcs], hl, fun i hi => ?_⟩
        have h1 := hgk i hi
        rw [List.getElem?_eq_getElem (by omega)] at h1
        obtain ⟨ks, q1, q2⟩ := Option.bind_eq_some_iff.1 h1
        exact ⟨a, ks, _, _, rfl, q1, q2⟩
theorem trod_cert : ∀ (n : Nat) {fuel : Nat} {cs : List Value} {x : DataW H × List MemPlace}, DataW.trod enc Tryz.prog w base spare held fuel 58 cs = some x → ∃ c : CertD, CertIs w n cs c
  | 0, _, _, _, h => by
    obtain ⟨s, m, A, len, cap, rfl, hle, _⟩ := cert_shape h
    exact ⟨.mk s m (List.replicate len noCert), A, cap, by simp [certC, CertD.s, CertD.m, CertD.kids], by simpa [CertD.kids] using hle, trivial⟩
  | n + 1, _, _, _, h => by
    obtain ⟨s, m, A, len, cap, rfl, hle, hall⟩ := cert_shape h
    obtain ⟨ks, hks, hk⟩ := each_of (n := len) (P := fun i c => ∃ a cs, A = some a ∧ w.cells? base (a.add (i * 5)) 5 = some cs ∧ CertIs w n cs c) (fun i hi => by
      obtain ⟨a, cs, f2, x2, hA, q1, q2⟩ := hall i hi
      obtain ⟨c, hc⟩ := trod_cert n q2
      exact ⟨c, a, cs, hA, q1, hc⟩)
    subst hks
    refine ⟨.mk s m ks, A, cap, rfl, hle, fun k hkl => ?_⟩
    obtain ⟨a, cs', hA, q1, A', cap', rfl, hc1, hc2⟩ := hk k hkl
    obtain ⟨_, _, z1⟩ := World.cells?_some q1
    have z : ∀ j v, (certC ks[k] A' cap').toList[j]? = some v → j < 5 → w.cell? ((a.add (k * 5)).add j) = some v := fun j v hv hj => by rw [z1 j hj, hv]
    obtain ⟨ab, ao, ap⟩ := a
    have hp : ap = none := by
      obtain ⟨a2, cs2, hA2, q2, A2, cap2, rfl, _, _⟩ := hk 0 (Nat.lt_of_le_of_lt (Nat.zero_le _) hkl)
      obtain rfl := Option.some.inj (hA.symm.trans hA2)
      obtain ⟨_, _, z2⟩ := World.cells?_some q2
      have ha := addr_of_cell (z2 0 (by omega))
      simpa [Addr.add] using ha
    subst hp
    simp only [Addr.add_lit] at z
    exact ⟨ab, ao, A', cap', hA, World.block_lt_of_cell? w _ (z 0 _ rfl (by omega)), hc1, ⟨z 0 _ rfl (by omega), z 1 _ rfl (by omega), z 2 _ rfl (by omega), z 3 _ rfl (by omega), z 4 _ rfl (by omega)⟩, hc2⟩
set_option maxRecDepth 100000 in
theorem open_cert (n : Nat) {r0 : Reach} {b0 : Nat} {v : Value} {d : DataW H} {p : List MemPlace} (hv : Value.okWide Tryz.prog w r0 b0 58 v) (h : DataW.Trod enc Tryz.prog w base spare held 58 v d p) :
    ∃ (c : CertD) (A : Option Addr) (cap : Nat), v = .agg (certC c A cap) ∧ CertAt w w.heap.size n c A := by
  obtain ⟨cs, rfl, hsz⟩ := okWide_struct Tryz.underlying58 hv
  obtain ⟨fuel, hf⟩ := h
  obtain ⟨c, A, cap, hc, _, hat⟩ := trod_cert n hf
  refine ⟨c, A, cap, ?_, hat⟩
  have hc2 : cs.toList = (certC c A cap).toList := by simpa [Value.cells] using hc
  rw [← Array.toList_inj.1 hc2]
end
end Go.Proofs.YtdfegpohmaideaaGreat
/- What every law's proof ends with: where a call answers true and leaves all that was there as it was, the row's post-condition holds. -/
namespace Go.Proofs.YtdfegpohmaideaaGreat
open Go.RowKit Go.WideShapes Go.ChangeShapes
theorem trodAll_stays {H : Type} {enc : TypeId × Value → H} {P : Program} (hl : laidOutB P = true) {W W' : World} (hb : Below W.heap.size W W') {sp' : Nat → Bool} :
    ∀ (ts : List TypeId) (vs : List Value) (ds : List (DataW H)) (ps : List MemPlace), (∀ t ∈ ts, P.readableRec t = true ∧ t < P.types.size) →
      (∀ p ∈ ps, p.block < W.heap.size) → (∀ p ∈ ps, sp' p.block = true) →
      DataW.TrodAll enc P W 0 (fun _ => true) true ts vs ds ps → DataW.TrodAll enc P W' 0 sp' true ts vs ds ps
  | [], [], [], _, _, _, _, h => h
  | t :: ts, v :: vs, d :: ds, ps, hr, hlt, hs, h => by
    obtain ⟨p, q, h1, h2, rfl⟩ := h
    refine ⟨p, q, WideElems.Trod_stays hl (hr t (by simp)).1 (hr t (by simp)).2 h1 (fun x hx => hb.same (hlt x (by simp [hx]))) (fun x hx => hs x (by simp [hx])), ?_, rfl⟩
    exact trodAll_stays hl hb ts vs ds q (fun t ht => hr t (by simp [ht])) (fun x hx => hlt x (by simp [hx])) (fun x hx => hs x (by simp [hx])) h2
  | [], _ :: _, _, _, _, _, _, h => h.elim
  | [], [], _ :: _, _, _, _, _, h => h.elim
  | _ :: _, [], _, _, _, _, _, h => h.elim
  | _ :: _, _ :: _, [], _, _, _, _, h => h.elim

theorem law_post {H : Type} {enc : TypeId × Value → H} {P : Program} {f : Func} {s : ChangeSpec} {W W' : World} {args : Array Value} {ds : List (DataW H)} {before : List MemPlace} {tb : TypeId}
    (hl : laidOutB P = true) (hread0 : (f.params.toList.all fun t => P.readableRec t && decide (t < P.types.size)) = true)
    (hW : DataW.Whole enc P f.params.toList s.vars false W args.toList ds [] before)
    (hvars : s.vars = []) (hrt : f.resultTypes = #[tb]) (ht : P.underlying tb = some .bool)
    (hres : (s.fn H (ds ++ [])).results = [.lit (.bool true)]) (hargs : (s.fn H (ds ++ [])).args = ds) (hvs : (s.fn H (ds ++ [])).vars = [])
    (hb : Below W.heap.size W W') :
    s.post enc P f false true false false W args (.bool true) W' := by
  have hread : ∀ t ∈ f.params.toList, P.readableRec t = true ∧ t < P.types.size := fun t ht => by
    have := List.all_eq_true.1 hread0 t ht
    simpa using this
  have hlt : ∀ p ∈ before, p.block < W.heap.size := fun p hp => hW.lt p hp
  obtain ⟨p, q, hA, hV, hpq, hz, hn⟩ := id hW
  rw [hvars] at hV
  obtain ⟨_, rfl⟩ := trodVars_none hV
  have hp : p = before := by rw [hpq]; simp
  rw [hp] at hA
  have args' : ∀ sp : Nat → Bool, (∀ x ∈ before, sp x.block = true) → DataW.TrodAll enc P W' 0 sp true f.params.toList args.toList (s.fn H (ds ++ [])).args before := fun sp hsp => by
    rw [hargs]; exact trodAll_stays hl hb _ _ _ _ hread hlt hsp hA
  have res' : ∀ (b : Nat) (sp : Nat → Bool) (hd : Bool), DataW.TrodAll enc P W' b sp hd f.resultTypes.toList ((Value.bool true).resultList f.resultTypes.size) (s.fn H (ds ++ [])).results [] := fun _ _ _ => by
    rw [hres, hrt]; exact trodAll_mk1 (shut_bool ht _)
  have vars' : ∀ sp : Nat → Bool, DataW.TrodVars enc P W' sp s.vars (s.fn H (ds ++ [])).vars [] := fun sp => by rw [hvs, hvars]; rfl
  refine ⟨ds, [], before, [], before, [], hW, res' _ _ _, args' _ (fun x hx => by simpa using hlt x hx), vars' _, ?_, fun _ => ?_⟩
  · exact World.keptBut_mono (fun x hx => ⟨hx, .inr (.inl hx)⟩) (hb.frame (· ∈ before))
  · refine ⟨ok_one hrt rfl (okWide_bool_mk ht _), (s.fn H (ds ++ [])).results ++ (s.fn H (ds ++ [])).args, (s.fn H (ds ++ [])).vars, ([] ++ before) ++ [], ⟨[] ++ before, [], ?_, vars' (fun _ => true), rfl, ?_, fun h => by cases h⟩, ?_⟩
    · exact trodAll_append (args' (fun _ => true) (fun _ _ => rfl)) (res' 0 (fun _ => true) true)
    · intro b off hin
      have hin' : MemPlace.cell b off ∈ before := by simpa using hin
      rw [hb.frozen (hlt _ hin')]
      exact hz b off hin'
    · intro x hx _
      simpa using hx
end Go.Proofs.YtdfegpohmaideaaGreat
/- gamelaw.ProofProves answers true and leaves what was there as it was, for all rules, every position, every depth and every cert. No condition. -/
namespace Go.Proofs.YtdfegpohmaideaaGreat
open Go.ChangeShapes Go.WideShapes Go.ChangeAt Go.RowKit Go.ChangeMaps

theorem own_proofProves : ownKnob Tryz.prog.godebug = none := by kernel_rfl
theorem laidOut_proofProves : laidOutB Tryz.prog = true := by kernel_rfl

set_option maxRecDepth 100000 in
theorem proofProves_lifted (os : Os) (started : os.Started) (H : Type) (enc : TypeId × Value → H) :
    ReturnsInHanded {} Tryz.checked os 6 .any (Rows.proofProvesSpec.pre6 enc Tryz.prog Tryz.f6 Rows.proofProvesRow.domain false) (Rows.proofProvesSpec.post enc Tryz.prog Tryz.f6 false true false false) := by
  refine returnsInHanded_of_change (C := Tryz.checked) own_proofProves started (by kernel_rfl) Tryz.func6
    (ChangeSpec.witness6 (enc := enc) (C := Tryz.checked) false ⟨#[], #[.agg #[.int .i64 0, .int .i64 0, .string ByteArray.empty, .int .i64 0, .string ByteArray.empty, .string ByteArray.empty, .slice none 0 0, .bool false, .int .u8 0, .int .i64 0, .int .u8 0, .bool false, .int .i64 0], .agg #[.int .i64 0, .int .i64 0, .string ByteArray.empty, .int .i64 0, .string ByteArray.empty, .string ByteArray.empty], .int .i64 0, .agg #[.bool false, .int .i64 0, .int .i64 0, .int .u8 0, .slice none 0 0]], []⟩ 8 (by kernel_rfl) (by kernel_rfl) (by kernel_rfl) (by kernel_rfl)) ?_
  intro W base args ds gs before hval0 hW hcnd _
  have hval : ∀ (j : Nat) t v, Tryz.f6.params[j]? = some t → args[j]? = some v → Value.okWide Tryz.prog W .any base t v := hval0
  obtain ⟨p, q, hA0, hV, hpq, hfz, hnd⟩ := id hW
  have hA : DataW.TrodAll enc Tryz.prog W 0 (fun _ => true) true Tryz.f6.params.toList args.toList ds p := hA0
  obtain ⟨rfl, -⟩ := trodVars_none hV
  rw [Tryz.params6] at hA hval
  obtain ⟨v0, v1, v2, v3, d0, d1, d2, d3, p0, p1, p2, p3, rfl, rfl, rfl, h0, h1, h2, h3⟩ := trodAll_four hA
  obtain ⟨r, Ar, cr, rfl, hfr, hPr⟩ := open_rules (hval 0 27 v0 rfl rfl) h0
  obtain ⟨wp, hp, cp, tp, z0p, z1p, rfl, rfl, hcp, hyp, hzp, -, -, -⟩ := open_pos (hval 1 24 v1 rfl rfl) h1
  obtain ⟨dd, rfl, rfl, rfl, wdd⟩ := open_int Tryz.underlying3 (hval 2 3 v2 rfl rfl) h2
  obtain ⟨c, Ak, ck, rfl, hcert⟩ := open_cert 10 (hval 3 58 v3 rfl rfl) h3
  refine (pp_any r Ar cr ⟨wp, hp, cp, tp, z0p, z1p⟩ dd c Ak ck W hfr ⟨hcp, hyp, hzp⟩ hPr (fun n _ hn => CertAt.le (by omega) hcert)).mono fun e W' ⟨he, hg⟩ => ?_
  subst he
  exact ⟨_, rfl, law_post laidOut_proofProves (by kernel_rfl) hW rfl rfl Tryz.underlying4 rfl rfl rfl hg⟩

theorem proofProves_holds : Rows.ProofProvesSaid :=
  OpenClaim.holds_of_wide 6 Tryz.f6 rfl rfl rfl rfl rfl rfl rfl ⟨rfl, rfl, rfl, rfl, rfl⟩ rfl rfl rfl rfl rfl (by kernel_rfl) Tryz.func6 (by kernel_rfl)
    (of_decide_eq_true (by kernel_rfl)) (by unfold Func.isWrapper; first | (rw [if_pos (by decide +kernel)]; kernel_rfl) | (rw [if_neg (by decide +kernel)]; exact ⟨rfl, rfl⟩))
    (fun os started H enc _ => proofProves_lifted os started H enc)
#print axioms proofProves_holds
end Go.Proofs.YtdfegpohmaideaaGreat
