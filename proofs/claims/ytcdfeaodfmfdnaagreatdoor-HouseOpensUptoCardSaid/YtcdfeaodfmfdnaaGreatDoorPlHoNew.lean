/- house.New: walked. -/
import Derived.Test.YtcdfeaodfmfdnaaGreatDoorPlHoBM
import Derived.Test.YtcdfeaodfmfdnaaGreatDoorPlPcsMem
import Derived.Test.YtcdfeaodfmfdnaaGreatDoorPlRuChkM
namespace Go.Proofs.YtcdfeaodfmfdnaaGreatDoor
open Go.RowKit

theorem ownsRow_mono_ {w : World} {base base' size n : Nat} {e : TypeId} {v : Value} {xs : List Value} (h : w.ownsRow base e size v n xs) (hb : base' ≤ base) : w.ownsRow base' e size v n xs := by
 refine ⟨h.1, ?_⟩
 rcases h.2 with h2 | ⟨g, cap, cur, h1, h2, h3⟩
 ·
  exact .inl h2
 ·
  exact .inr ⟨g, cap, cur, h1, Nat.le_trans hb h2, h3⟩
theorem PAt.more {w : World} {Q Q' : Nat → Prop} {A : Option Addr} {ps : List PieceD} (h : PAt w Q A ps) (hQ : ∀ k, Q k → Q' k) : PAt w Q' A ps := fun w' ho => h w' (ho.mono (fun k _ hk hq => hk (hQ k hq)))
theorem later_only' {w w' : World} (h : Later w w') : Only (fun _ => False) w w' := Only.of_below h (fun k hk h2 => by omega)
/-- a house at its start -/
def startP (r : RulesD) (t : Int) : HoD := ⟨t, t, 0, r, r.start, 0, 0, []⟩
/-- what New answers where it says yes -/
def NewOut (r : RulesD) (t : Int) (W : World) (e : Ending) (w' : World) : Prop :=
 ∃ (h : Nat) (A' : Option Addr) (cp' : Nat), e = .returned (.tuple #[.pointer (some ⟨h, 0, none⟩), .int .i64 0]) ∧ W.heap.size < h ∧ HB w' (h + 1) h (hoC (startP r t) A' cp' (.pointer none) (.slice none 0 0)) (.slice none 0 0) [] ∧ PAt w' (fun x => W.heap.size < x ∧ x < h) A' r.pieces ∧ Later W w' ∧ w'.heap.size = h + 1
set_option maxHeartbeats 8000000 in
set_option maxRecDepth 100000 in
theorem hnew_no (r : RulesD) (A : Option Addr) (cp : Nat) (t : Int) (W : World) (hf : RFit r) (hP : PiecesAt W W.heap.size A r.pieces) (hno : ¬ (RulesOk r ∧ 1 ≤ t ∧ t ≤ 1000000)) :
  Calls Tryz.prog 21 #[.agg #[.int .i64 r.start.w, .int .i64 r.start.h, .string r.start.cells, .int .i64 r.start.turn, .string r.start.h0, .string r.start.h1, .slice A r.pieces.length cp, .bool r.drops, .int .u8 (r.lose : Int), .int .i64 r.line, .int .u8 (r.reach : Int), .bool r.stuck, .int .i64 r.plies], .int .i64 t] W fun e w' => e = .returned (.tuple #[.pointer none, .int .i64 1]) ∧ Later W w' := by
 have Hck := hide (fun w (hw : Later W w) => check_any r A cp w hf ((hP.below hw).more hw.size))
 have Hb0 := hide (Blk.new W 27 #[.int .i64 r.start.w, .int .i64 r.start.h, .string r.start.cells, .int .i64 r.start.turn, .string r.start.h0, .string r.start.h1, .slice A r.pieces.length cp, .bool r.drops, .int .u8 (r.lose : Int), .int .i64 r.line, .int .u8 (r.reach : Int), .bool r.stuck, .int .i64 r.plies])
 have Hl0 := hide (show Later W (W.alloc (.cells #[.int .i64 r.start.w, .int .i64 r.start.h, .string r.start.cells, .int .i64 r.start.turn, .string r.start.h0, .string r.start.h1, .slice A r.pieces.length cp, .bool r.drops, .int .u8 (r.lose : Int), .int .i64 r.line, .int .u8 (r.reach : Int), .bool r.stuck, .int .i64 r.plies] 27)) from Later.rfl.alloc _)
 clear hP hf
 by_cases q : RulesOk r
 ·
  have e1 : codeN (rulesB r) = 0 := by rw [rulesB_true.2 q]; rfl
  rw [e1] at Hck
  by_cases q1 : t < 1
  ·
   have d1 : decide (t < 1) = true := by simpa using q1
   clear hno
   go_enter Tryz.func21, Tryz.ntmps21
   go_upto_region 1 with (fail)
   obtain ⟨x0, x1, x2, x3, x4, x5, x6, x7, x8, x9, x10, x11, x12⟩ := Hb0.out.rules
   go_wp2_with (go_at_call 14; refine (Hck.out _ Hl0.out).mono ?_; rintro e w1 ⟨rfl, hw1⟩)
   go_ret2
   exact ⟨rfl, Hl0.out.trans hw1⟩
  ·
   have d1 : decide (t < 1) = false := by simpa using q1
   have d2 : decide (t > 1000000) = true := by simp; by_cases h : 1000000 < t; exact h; exact absurd ⟨q, by omega, by omega⟩ hno
   clear hno
   go_enter Tryz.func21, Tryz.ntmps21
   go_upto_region 1 with (fail)
   obtain ⟨x0, x1, x2, x3, x4, x5, x6, x7, x8, x9, x10, x11, x12⟩ := Hb0.out.rules
   go_wp2_with (go_at_call 14; refine (Hck.out _ Hl0.out).mono ?_; rintro e w1 ⟨rfl, hw1⟩)
   go_ret2
   exact ⟨rfl, Hl0.out.trans hw1⟩
 ·
  have e1 : codeN (rulesB r) = 1 := by rw [rulesB_false.2 q]; rfl
  rw [e1] at Hck
  clear hno
  go_enter Tryz.func21, Tryz.ntmps21
  go_upto_region 1 with (fail)
  obtain ⟨x0, x1, x2, x3, x4, x5, x6, x7, x8, x9, x10, x11, x12⟩ := Hb0.out.rules
  go_wp2_with (go_at_call 14; refine (Hck.out _ Hl0.out).mono ?_; rintro e w1 ⟨rfl, hw1⟩)
  go_ret2
  exact ⟨rfl, Hl0.out.trans hw1⟩
set_option maxHeartbeats 16000000 in
set_option maxRecDepth 100000 in
theorem hnew_ok (r : RulesD) (A : Option Addr) (cp : Nat) (t : Int) (W : World) (hf : RFit r) (hP : PiecesAt W W.heap.size A r.pieces) (hok : RulesOk r) (t1 : 1 ≤ t) (t2 : t ≤ 1000000) :
  Calls Tryz.prog 21 #[.agg #[.int .i64 r.start.w, .int .i64 r.start.h, .string r.start.cells, .int .i64 r.start.turn, .string r.start.h0, .string r.start.h1, .slice A r.pieces.length cp, .bool r.drops, .int .u8 (r.lose : Int), .int .i64 r.line, .int .u8 (r.reach : Int), .bool r.stuck, .int .i64 r.plies], .int .i64 t] W (NewOut r t W) := by
 have e1 : codeN (rulesB r) = 0 := by rw [rulesB_true.2 hok]; rfl
 have Hck := hide (fun w (hw : Later W w) => check_any r A cp w hf ((hP.below hw).more hw.size))
 rw [e1] at Hck
 have hn10 : r.pieces.length ≤ 10 := hok.p10
 have Hwl := hide (fun k (hk : k < r.pieces.length) => (hok.pieces k hk).len)
 have Hb0 := hide (Blk.new W 27 #[.int .i64 r.start.w, .int .i64 r.start.h, .string r.start.cells, .int .i64 r.start.turn, .string r.start.h0, .string r.start.h1, .slice A r.pieces.length cp, .bool r.drops, .int .u8 (r.lose : Int), .int .i64 r.line, .int .u8 (r.reach : Int), .bool r.stuck, .int .i64 r.plies])
 have Hl0 := hide (show Later W (W.alloc (.cells #[.int .i64 r.start.w, .int .i64 r.start.h, .string r.start.cells, .int .i64 r.start.turn, .string r.start.h0, .string r.start.h1, .slice A r.pieces.length cp, .bool r.drops, .int .u8 (r.lose : Int), .int .i64 r.line, .int .u8 (r.reach : Int), .bool r.stuck, .int .i64 r.plies] 27)) from Later.rfl.alloc _)
 have HP := hide hP
 have d1 : decide (t < 1) = false := by simp; omega
 have d2 : decide (t > 1000000) = false := by simp; omega
 clear hP hf hok e1
 go_enter Tryz.func21, Tryz.ntmps21
 go_upto_region 1 with (fail)
 obtain ⟨x0, x1, x2, x3, x4, x5, x6, x7, x8, x9, x10, x11, x12⟩ := Hb0.out.rules
 go_upto_region 3 with (go_at_call 14; refine (Hck.out _ Hl0.out).mono ?_; rintro e w1 ⟨rfl, hw1⟩)
 have Hb1 := hide (hw1.blk Hb0.out)
 have Hl1 := hide (Hl0.out.trans hw1)
 have hg1W : W.heap.size < w1.heap.size := by have := hw1.size; rw [World.size_alloc] at this; omega
 clear hw1 Hck Hb0 Hl0 x0 x1 x2 x3 x4 x5 x6 x7 x8 x9 x10 x11 x12
 obtain ⟨x0, x1, x2, x3, x4, x5, x6, x7, x8, x9, x10, x11, x12⟩ := Hb1.out.rules
 go_upto_region 4 with (fail)
 have Hb2 := hide (Hb1.out.alloc (.cells #[.int .i64 r.start.w, .int .i64 r.start.h, .string r.start.cells, .int .i64 r.start.turn, .string r.start.h0, .string r.start.h1, .slice A r.pieces.length cp, .bool r.drops, .int .u8 (r.lose : Int), .int .i64 r.line, .int .u8 (r.reach : Int), .bool r.stuck, .int .i64 r.plies] 27))
 have Hn2 := hide (Blk.new w1 27 #[.int .i64 r.start.w, .int .i64 r.start.h, .string r.start.cells, .int .i64 r.start.turn, .string r.start.h0, .string r.start.h1, .slice A r.pieces.length cp, .bool r.drops, .int .u8 (r.lose : Int), .int .i64 r.line, .int .u8 (r.reach : Int), .bool r.stuck, .int .i64 r.plies])
 have Hl2 := hide (show Later W (w1.alloc (.cells #[.int .i64 r.start.w, .int .i64 r.start.h, .string r.start.cells, .int .i64 r.start.turn, .string r.start.h0, .string r.start.h1, .slice A r.pieces.length cp, .bool r.drops, .int .u8 (r.lose : Int), .int .i64 r.line, .int .u8 (r.reach : Int), .bool r.stuck, .int .i64 r.plies] 27)) from Hl1.out.alloc _)
 have hs2 : (w1.alloc (.cells #[.int .i64 r.start.w, .int .i64 r.start.h, .string r.start.cells, .int .i64 r.start.turn, .string r.start.h0, .string r.start.h1, .slice A r.pieces.length cp, .bool r.drops, .int .u8 (r.lose : Int), .int .i64 r.line, .int .u8 (r.reach : Int), .bool r.stuck, .int .i64 r.plies] 27)).heap.size = w1.heap.size + 1 := World.size_alloc _ _
 obtain ⟨g1, hg1⟩ : ∃ g1, w1.heap.size = g1 := ⟨_, rfl⟩
 obtain ⟨w2, hw2⟩ : ∃ w2, w1.alloc (.cells #[.int .i64 r.start.w, .int .i64 r.start.h, .string r.start.cells, .int .i64 r.start.turn, .string r.start.h0, .string r.start.h1, .slice A r.pieces.length cp, .bool r.drops, .int .u8 (r.lose : Int), .int .i64 r.line, .int .u8 (r.reach : Int), .bool r.stuck, .int .i64 r.plies] 27) = w2 := ⟨_, rfl⟩
 rw [hw2] at Hb2 Hn2 Hl2 hs2 ⊢
 rw [hg1] at Hn2 hg1W hs2 ⊢
 clear hw2 hg1 Hb1 Hl1 x0 x1 x2 x3 x4 x5 x6 x7 x8 x9 x10 x11 x12
 obtain ⟨z0, z1, z2, z3, z4, z5, z6, z7, z8, z9, z10, z11, z12⟩ := Hn2.out.rules
 have zf := Hn2.out.free 6
 go_upto_region 5 with (fail)
 have hst : Only (fun x => x = g1) w2 (w2.setCell ⟨g1, 6, none⟩ (.slice none 0 0)) := (Only.refl (fun x => x = g1) w2).setCell (p := ⟨g1, 6, none⟩) (.inl rfl) _
 have Hb3 := hide (Hb2.out.only hst (by omega))
 have Hn3 := hide (show Blk (w2.setCell ⟨g1, 6, none⟩ (.slice none 0 0)) g1 27 #[.int .i64 r.start.w, .int .i64 r.start.h, .string r.start.cells, .int .i64 r.start.turn, .string r.start.h0, .string r.start.h1, .slice none 0 0, .bool r.drops, .int .u8 (r.lose : Int), .int .i64 r.line, .int .u8 (r.reach : Int), .bool r.stuck, .int .i64 r.plies] from Hn2.out.set_ 6 _)
 have Hl3 := hide (show Later W (w2.setCell ⟨g1, 6, none⟩ (.slice none 0 0)) from Hl2.out.set (by simp only; omega) _)
 have hs3 : (w2.setCell ⟨g1, 6, none⟩ (.slice none 0 0)).heap.size = g1 + 1 := by simpa using hs2
 obtain ⟨w3, hw3⟩ : ∃ w3, w2.setCell ⟨g1, 6, none⟩ (.slice none 0 0) = w3 := ⟨_, rfl⟩
 rw [hw3] at Hb3 Hn3 Hl3 hs3 ⊢
 clear hw3 hst Hb2 Hn2 Hl2 hs2 z0 z1 z2 z3 z4 z5 z6 z7 z8 z9 z10 z11 z12 zf
 obtain ⟨x0, x1, x2, x3, x4, x5, x6, x7, x8, x9, x10, x11, x12⟩ := Hb3.out.rules
 obtain ⟨iy, hiy, hiz, his, hib⟩ := info_parts info_way
 have HIw := hide (And.intro hiy (And.intro hiz (And.intro his hib)))
 obtain ⟨ip, hip, hiz2, his2, hib2⟩ := info_parts info_piece
 have HIp := hide (And.intro hip (And.intro hiz2 (And.intro his2 hib2)))
 clear hiy hiz his hib hip hiz2 his2 hib2
 go_wp2_with fail
 go_loopw [25] (fun iv wr => ∃ (k : Nat) (svp : Value) (hs : List (Option Addr × Nat)), k ≤ r.pieces.length ∧ iv = .int .i64 (k : Int) ∧ Blk wr g1 27 #[.int .i64 r.start.w, .int .i64 r.start.h, .string r.start.cells, .int .i64 r.start.turn, .string r.start.h0, .string r.start.h1, svp, .bool r.drops, .int .u8 (r.lose : Int), .int .i64 r.line, .int .u8 (r.reach : Int), .bool r.stuck, .int .i64 r.plies] ∧ PcsOwn wr (g1 + 1) g1 svp (r.pieces.take k) hs ∧ Only (fun x => x = g1) w3 wr) (fun iv _ => r.pieces.length - (intOf iv).toNat)
 case atStart => exact ⟨0, .slice none 0 0, [], by omega, rfl, Hn3.out, PcsOwn.nil _ _ _, Only.refl _ _⟩
 case round =>
  rename World => wr
  obtain ⟨k, svp, hs, hk, rfl, hb, hpo, ho⟩ := hrel
  have Hbr := hide hb
  have Hpo := hide hpo
  have Hor := hide ho
  have hsz : g1 + 1 ≤ wr.heap.size := by rw [← hs3]; exact ho.size
  have Hb0r := hide (Hb3.out.only ho (by omega))
  have Hlr := hide (show Later W wr from ((later_only' Hl3.out).trans' ho (fun i hi hs => by omega)).below_ (B := W.heap.size) (fun _ h => h.elim) (Nat.le_refl _))
  clear hb hpo ho x0 x1 x2 x3 x4 x5 x6 x7 x8 x9 x10 x11 x12
  by_cases hkl : k < r.pieces.length
  ·
   have d3 : decide ((k : Int) < (r.pieces.length : Int)) = true := by simp; omega
   have k0 : (0 : Int) ≤ (k : Int) := by omega
   have k1 : (k : Int) < (r.pieces.length : Int) := by omega
   obtain ⟨bb, off, hA, hbb, y0, y1, Ak, ck, hck, y2, hway⟩ := PiecesAt.at_ (HP.out.below Hlr.out) hkl
   obtain ⟨p, hp⟩ : ∃ p, r.pieces[k] = p := ⟨_, rfl⟩
   have hwl8 : p.ways.length ≤ 8 := by rw [← hp]; exact Hwl.out k hkl
   have Hp := hide hp
   rw [hp] at y0 y1 hck y2 hway
   have Hway := hide hway
   subst hA
   obtain ⟨ps, hps⟩ : ∃ ps, r.pieces.take k = ps := ⟨_, rfl⟩
   have Hps := hide hps
   have hpl : ps.length ≤ 10 := by rw [← hps, List.length_take]; omega
   rw [hps] at Hpo
   obtain ⟨A2, c2, rfl⟩ := own_lit Hpo.out.2.1
   clear hp hps hway hck
   go_upto_region 8 with (fail)
   have hal8 : Only (fun _ => False) wr (wr.alloc (.cells #[.int .u8 (p.letter : Int), .int .i64 p.worth, .slice Ak p.ways.length ck] 77)) := (Only.refl _ wr).alloc _
   have Hp8 := hide (Blk.new wr 77 #[.int .u8 (p.letter : Int), .int .i64 p.worth, .slice Ak p.ways.length ck])
   have hs8 : (wr.alloc (.cells #[.int .u8 (p.letter : Int), .int .i64 p.worth, .slice Ak p.ways.length ck] 77)).heap.size = wr.heap.size + 1 := World.size_alloc _ _
   have Hway8 := hide (Cells.below Hway.out (hal8.below_ (B := W.heap.size) (fun _ h => h.elim) Hlr.out.size))
   obtain ⟨g8, hg8⟩ : ∃ g8, wr.heap.size = g8 := ⟨_, rfl⟩
   have Hg8 := hide hg8
   obtain ⟨w8, hw8⟩ : ∃ w8, wr.alloc (.cells #[.int .u8 (p.letter : Int), .int .i64 p.worth, .slice Ak p.ways.length ck] 77) = w8 := ⟨_, rfl⟩
   rw [hw8] at hal8 Hp8 hs8 Hway8 ⊢
   rw [hg8] at Hp8 hs8 hsz ⊢
   have Hal8 := hide hal8
   have Hs8 := hide hs8
   clear hw8 hg8 hal8 hs8 y0 y1 y2 hbb
   obtain ⟨z0, z1, z2, -⟩ := Blk.three_ Hp8.out
   go_upto_region 9 with (at_builtin; refine wpList_appendsK _ rfl (.const (.slice none 0 0)) (.tmp 30) 75 rfl (g8 + 1) 80 iy (.agg #[.int .i64 0, .int .i64 0, .int .i64 0, .int .i64 0]) 4 32 Tryz.underlying75 HIw.out.1 HIw.out.2.1 HIw.out.2.2.1 HIw.out.2.2.2 rfl (by decide) (.slice none 0 0) 0 [] rfl (World.ownsRow_nil _ _ _ _) W.heap.size Ak ck p.ways.length (ints (flatW p.ways)) ?a1 rfl Hway8.out ?a3 ?a4 ?a5 ?a6 ?_)
   case a1 => rw [ints_length, flatW_len]
   case a3 =>
    intro u hu
    obtain ⟨x, _, rfl⟩ := List.mem_map.1 hu
    rfl
   case a4 => unfold maxLen; omega
   case a5 => omega
   case a6 => have := Hs8.out; omega
   intro wv w9 hwn hO9 hbk
   obtain ⟨Aw, cw, rfl⟩ := own_lit hwn
   have hO9' : Only (fun _ => False) w8 w9 := hO9.mono (fun _ _ h => by cases h)
   have Hp9 := hide (Hp8.out.only hO9' (fun h => h))
   clear z0 z1 z2 hO9 hbk
   obtain ⟨z0, z1, z2, zf⟩ := Blk.three_ Hp9.out
   have zf2 := zf 2
   clear zf
   go_upto_region 9 with (fail)
   have hst : Only (fun x => x = g8) w9 (w9.setCell ⟨g8, 2, none⟩ (.slice Aw p.ways.length cw)) := (Only.refl (fun x => x = g8) w9).setCell (p := ⟨g8, 2, none⟩) (.inl rfl) _
   have Hp10 := hide (show Blk (w9.setCell ⟨g8, 2, none⟩ (.slice Aw p.ways.length cw)) g8 77 #[.int .u8 (p.letter : Int), .int .i64 p.worth, .slice Aw p.ways.length cw] from Hp9.out.set_ 2 _)
   have Hwn10 := hide (ownsRow_only hwn hst (fun i hi e => by have := (hwn.lt i hi).1; omega))
   have HO10 := hide (show Only (fun _ => False) wr (w9.setCell ⟨g8, 2, none⟩ (.slice Aw p.ways.length cw)) from (Hal8.out.trans hO9').trans' hst (fun i hi hs => by have := Hg8.out; omega))
   obtain ⟨w10, hw10⟩ : ∃ w10, w9.setCell ⟨g8, 2, none⟩ (.slice Aw p.ways.length cw) = w10 := ⟨_, rfl⟩
   rw [hw10] at Hp10 Hwn10 HO10 ⊢
   have hs10 : g8 + 1 ≤ w10.heap.size := by
    have h1 := hO9'.size
    have h2 := hst.size
    rw [hw10] at h2
    have := Hs8.out
    omega
   clear hw10 hst hwn hO9' z0 z1 z2 zf2 Hp9 Hp8 Hal8 Hs8 Hway8
   have Hbr10 := hide (Hbr.out.only HO10.out (fun h => h))
   have Hro10 := hide (ownsRow_only Hpo.out.2.1 HO10.out (fun _ _ h => h))
   obtain ⟨z0, z1, z2, -⟩ := Blk.three_ Hp10.out
   obtain ⟨x0, x1, x2, x3, x4, x5, x6, x7, x8, x9, x10, x11, x12⟩ := Hbr10.out.rules
   go_wp2_with (at_builtin; refine wpList_appendK _ rfl (.tmp 34) (.tmp 36) 25 rfl (g1 + 1) 77 ip (.agg #[.int .u8 0, .int .i64 0, .slice none 0 0]) 3 40 Tryz.underlying25 HIp.out.1 HIp.out.2.1 HIp.out.2.2.1 HIp.out.2.2.2 rfl (by decide) _ ps.length (cellsP ps hs) rfl (World.ownsRow.alloc Hro10.out _) [.int .u8 (p.letter : Int), .int .i64 p.worth, .slice Aw p.ways.length cw] rfl w10.heap.size 77 rfl (Blk.new w10 _ _) ?h1 ?h2 ?h3 ?h4 ?_)
   case h1 => simp [Value.oneCell']
   case h2 => unfold maxLen; omega
   case h3 => omega
   case h4 => simp only [World.size_alloc]; omega
   intro v' w11 hown11 hO11 hwh
   have hal : Only (fun _ => False) w10 (w10.alloc (.cells #[.int .u8 (p.letter : Int), .int .i64 p.worth, .slice Aw p.ways.length cw] 77)) := (Only.refl _ w10).alloc _
   have hneg : ∀ i, (Value.slice A2 ps.length c2).ownBlock = some i → i ≠ g1 := fun i hi => by have := (Hro10.out.lt i hi).1; omega
   have Hb11 := hide ((Hbr10.out.only hal (fun h => h)).only hO11 (fun h => hneg g1 h rfl))
   have hst : Only (fun x => x = g1) w11 (w11.setCell ⟨g1, 6, none⟩ v') := (Only.refl (fun x => x = g1) w11).setCell (p := ⟨g1, 6, none⟩) (.inl rfl) _
   have HO12 := hide (show Only (fun x => x = g1 ∨ (Value.slice A2 ps.length c2).ownBlock = some x) wr (w11.setCell ⟨g1, 6, none⟩ v') from (((HO10.out.trans hal).mono (fun _ _ h => h.elim)).trans' hO11 (fun _ _ h => .inr h)).trans' hst (fun _ _ h => .inl h))
   have Hown12 := hide (ownsRow_only hown11 hst (fun i hi e => by have := (hown11.lt i hi).1; omega))
   have hlw := fun i hi => Hwn10.out.lt i hi
   have Hwn12 := hide (ownsRow_only (ownsRow_only (ownsRow_only Hwn10.out hal (fun _ _ h => h)) hO11 (fun i hi h => by have h1 := (hlw i hi).1; have h2 := (Hpo.out.2.1.lt i h).2; have := Hg8.out; omega)) hst (fun i hi e => by have := (hlw i hi).1; omega))
   have Hg := hide (show v'.ownBlock = (Value.slice A2 ps.length c2).ownBlock ∨ ∃ g, v'.ownBlock = some g ∧ wr.heap.size ≤ g ∧ ∀ i, (Value.slice Aw p.ways.length cw).ownBlock = some i → i < g from by
    rcases hwh with h | h
    ·
     exact .inl h
    ·
     refine .inr ⟨_, h, ?_, fun i hi => ?_⟩
     ·
      have := Hg8.out; omega
     ·
      have := (hlw i hi).2; omega)
   obtain ⟨hs', hpo'⟩ := PcsOwn.push (p := p) Hpo.out (Nat.lt_succ_self g1) (by have := Hg8.out; omega) Hown12.out (ownsRow_mono_ Hwn12.out (by have := Hg8.out; omega)) Hg.out HO12.out
   have Hpo' := hide hpo'
   have HOf := hide (show Only (fun x => x = g1) w3 (w11.setCell ⟨g1, 6, none⟩ v') from Hor.out.trans' HO12.out (fun i hi h => by
    rcases h with h | h
    ·
     exact h
    ·
     have := (Hpo.out.2.1.lt i h).1; omega))
   obtain ⟨Av, cv, rfl⟩ := own_lit hown11
   clear hal hneg hst hlw hown11 hO11 hwh hpo' x0 x1 x2 x3 x4 x5 x6 x7 x8 x9 x10 x11 x12 z0 z1 z2 Hown12 Hwn12 Hg HO12 Hro10 Hbr10 Hwn10 HO10 Hp10
   obtain ⟨x0, x1, x2, x3, x4, x5, x6, x7, x8, x9, x10, x11, x12⟩ := Hb11.out.rules
   have xf := Hb11.out.free 6
   go_wp2_with fail
   go_roundw
   case rel => exact ⟨k + 1, _, hs', by omega, by go_num, Hb11.out.set_ 6 _, by rw [List.take_succ_eq_append_getElem hkl, Hps.out, Hp.out]; exact Hpo'.out, HOf.out⟩
   case measure => simp [intOf]; omega
  ·
   have hkn : r.pieces.length = k := by omega
   have d3 : decide ((k : Int) < (r.pieces.length : Int)) = false := by simp; omega
   obtain ⟨A2, c2, rfl⟩ := own_lit Hpo.out.2.1
   have Hpo2 := hide (show PcsOwn wr (g1 + 1) g1 (.slice A2 r.pieces.length c2) r.pieces hs from by
    have h := Hpo.out
    rw [List.take_of_length_le (by omega)] at h
    exact h)
   have htk : (r.pieces.take k).length = r.pieces.length := by rw [List.take_of_length_le (by omega)]
   rw [htk] at Hbr
   clear htk Hpo hkn
   obtain ⟨x0, x1, x2, x3, x4, x5, x6, x7, x8, x9, x10, x11, x12⟩ := Hbr.out.rules
   obtain ⟨z0, z1, z2, z3, z4, z5, -⟩ := Hb0r.out.rules
   go_wp2_with fail
   go_ret2
   exact ⟨wr.heap.size, A2, c2, rfl, by omega, ⟨Blk.new wr _ _, rfl, .inl rfl, rfl, World.ownsRowF_nil _ _ _ _, by simp [Value.ownBlock]⟩,
    ((Hpo2.out.pat (Nat.lt_succ_self g1)).more (fun i hi => by omega)).only ((Only.refl (fun _ => False) wr).alloc _) (fun _ h => h.elim), Hlr.out.alloc _, World.size_alloc _ _⟩
end Go.Proofs.YtcdfeaodfmfdnaaGreatDoor
