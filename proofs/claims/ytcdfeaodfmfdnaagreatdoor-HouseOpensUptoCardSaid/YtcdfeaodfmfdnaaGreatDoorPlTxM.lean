/- Moves of one position have texts of their own, plainly. moves.Text, moves.Read Counting the ways to move, plainly. moves.Text, moves.Read, moves.Count where they say no -/
import Derived.Test.YtcdfeaodfmfdnaaGreatDoorPlMvText
import Derived.Test.YtcdfeaodfmfdnaaGreatDoorPlPlainM
import Derived.Test.YtcdfeaodfmfdnaaGreatDoorPlMgTop
import Derived.OwnWalk
import Derived.Deep.CutRange
import Derived.Maps.RangeWalk
import Derived.Maps.OwnSet
import Derived.DeepKeys4
import Derived.Test.YtcdfeaodfmfdnaaGreatDoorPlBase
import Derived.WideKeyEntry
import Derived.Test.YtcdfeaodfmfdnaaGreatDoorPlRuM
import Derived.Test.YtcdfeaodfmfdnaaGreatDoorPlRuChkM
import Derived.BigRegion
namespace Go.Proofs.YtcdfeaodfmfdnaaGreatDoor
open Go.RowKit

theorem u8_inj {a b : Nat} (ha : a < 256) (hb : b < 256) (h : u8 a = u8 b) : a = b := by
 have := congrArg UInt8.toNat h
 rwa [u8_nat ha, u8_nat hb] at this
theorem cellL_inj {p : Pos} (hp : PosOk p) {a b : Nat} (ha : a < p.cells.size) (hb : b < p.cells.size) (h : cellL p a = cellL p b) : a = b := by
 obtain ⟨n, m, hn, hm, n1, n8, m1, m8, hs, h64⟩ := pos_wh hp
 unfold cellL at h
 rw [hn, Int.toNat_natCast] at h
 injection h with h1 h2
 injection h2 with h2 _
 have d1 : ∀ x, x < p.cells.size → x / n ≤ 64 := fun x hx => Nat.le_trans (Nat.div_le_self _ _) (by omega)
 have m0 : ∀ x, x % n < n := fun x => Nat.mod_lt _ (by omega)
 have e1 := u8_inj (by have := m0 a; omega) (by have := m0 b; omega) h1
 have e2 := u8_inj (by have := d1 a ha; omega) (by have := d1 b hb; omega) h2
 have q1 := Nat.div_add_mod a n
 have q2 := Nat.div_add_mod b n
 have e3 : a / n = b / n := by omega
 have e4 : a % n = b % n := by omega
 rw [e3, e4] at q1
 omega
/-- how a move of a position looks -/
theorem every_parts {r : RulesD} {p : Pos} (ho : OfOk r p) {m : Mv} (h : m ∈ everyL r p) : m.c < 256 ∧ 0 ≤ m.t ∧ m.t.toNat < p.cells.size ∧ (m.f = -1 ∨ (0 ≤ m.f ∧ m.f.toNat < p.cells.size)) := by
 obtain ⟨h0, h1, h2⟩ := every_form (by have := ho.pos.t0; have := ho.pos.t1; omega) h
 have hc := upB_lt (every_made ho h).1
 refine ⟨by omega, h0, h1, ?_⟩
 rcases h2 with ⟨e, _⟩ | ⟨e1, e2, _⟩
 ·
  exact Or.inl e
 ·
  exact Or.inr ⟨e1, e2⟩
theorem textL_drop {p : Pos} {m : Mv} (h : m.f < 0) : mv_textL p m = [u8 m.c, u8 64] ++ cellL p m.t.toNat := if_pos h
theorem textL_board {p : Pos} {m : Mv} (h : ¬ m.f < 0) : mv_textL p m = [u8 m.c] ++ cellL p m.f.toNat ++ [if cellN p m.t.toNat = 46 then 45 else 120] ++ cellL p m.t.toNat := if_neg h
/-- a text is the text of one move -/
theorem textL_inj {r : RulesD} {p : Pos} (ho : OfOk r p) {m k : Mv} (hm : m ∈ everyL r p) (hk : k ∈ everyL r p) (h : mv_textL p m = mv_textL p k) : m = k := by
 obtain ⟨m1, m2, m3, m4⟩ := every_parts ho hm
 obtain ⟨k1, k2, k3, k4⟩ := every_parts ho hk
 have hp := ho.pos
 have ht : ∀ {a b : Int}, 0 ≤ a → 0 ≤ b → a.toNat = b.toNat → a = b := fun ha hb e => by omega
 rcases m4 with f1 | ⟨f1, g1⟩ <;> rcases k4 with f2 | ⟨f2, g2⟩
 ·
  rw [textL_drop (by omega), textL_drop (by omega)] at h
  simp only [List.cons_append, List.nil_append, List.cons.injEq] at h
  have e1 := u8_inj m1 k1 h.1
  have e2 := cellL_inj hp m3 k3 h.2.2
  exact Mv.ext_ (by omega) (ht m2 k2 e2) e1
 ·
  rw [textL_drop (by omega), textL_board (by omega)] at h
  exfalso
  have h2 := congrArg (fun l : List UInt8 => l[1]?) h
  simp [cellL] at h2
  have h8 : k.f.toNat % p.w.toNat < 8 := Nat.lt_of_lt_of_le (Nat.mod_lt _ (by have := hp.w1; omega)) (by have := hp.w8; omega)
  have := u8_inj (by omega) (by omega) h2
  omega
 ·
  rw [textL_board (by omega), textL_drop (by omega)] at h
  exfalso
  have h2 := congrArg (fun l : List UInt8 => l[1]?) h
  simp [cellL] at h2
  have h8 : m.f.toNat % p.w.toNat < 8 := Nat.lt_of_lt_of_le (Nat.mod_lt _ (by have := hp.w1; omega)) (by have := hp.w8; omega)
  have := u8_inj (by omega) (by omega) h2
  omega
 ·
  rw [textL_board (by omega), textL_board (by omega)] at h
  have hl : ∀ a, (cellL p a).length = 2 := fun _ => rfl
  have e0 : u8 m.c = u8 k.c ∧ cellL p m.f.toNat = cellL p k.f.toNat ∧ cellL p m.t.toNat = cellL p k.t.toNat := by
   simp only [List.cons_append, List.nil_append, List.append_assoc, List.cons.injEq] at h
   obtain ⟨h1, h2⟩ := h
   have h3 := List.append_inj h2 (by rw [hl, hl])
   have h4 := h3.2
   simp only [List.cons.injEq] at h4
   exact ⟨h1, h3.1, h4.2⟩
  have e1 := u8_inj m1 k1 e0.1
  have e2 := cellL_inj hp g1 g2 e0.2.1
  have e3 := cellL_inj hp m3 k3 e0.2.2
  exact Mv.ext_ (ht f1 f2 e2) (ht m2 k2 e3) e1
end Go.Proofs.YtcdfeaodfmfdnaaGreatDoor
namespace Go.Proofs.YtcdfeaodfmfdnaaGreatDoor
open Go.RowKit Go.Shelf

/-- the boxes of a call with rules, a position and a move -/
structure TxSt (W : World) (R P M : Array Value) (w : World) : Prop where
 r : Blk w W.heap.size 27 R
 p : Blk w (W.heap.size + 1) 24 P
 m : Blk w (W.heap.size + 1 + 1) 101 M
 later : Later W w
section
variable {W w w' : World} {R P M : Array Value}
theorem TxSt.later_ (h : TxSt W R P M w) (hw : Later w w') : TxSt W R P M w' := ⟨hw.blk h.r, hw.blk h.p, hw.blk h.m, h.later.trans hw⟩
theorem TxSt.first : TxSt W R P M (((W.alloc (.cells R 27)).alloc (.cells P 24)).alloc (.cells M 101)) := by
 refine ⟨((Blk.new W _ R).alloc _).alloc _, ?_, ?_, ((Later.rfl.alloc _).alloc _).alloc _⟩
 ·
  have := (Blk.new (W.alloc (.cells R 27)) 24 P).alloc (.cells M 101)
  rwa [World.size_alloc] at this
 ·
  have := Blk.new ((W.alloc (.cells R 27)).alloc (.cells P 24)) 101 M
  rwa [World.size_alloc, World.size_alloc] at this
end
theorem setRow_blk3 {w : World} {g : Nat} {t : TypeId} {old vs : Array Value} (h : Blk w g t old) : Blk (w.setRow g vs) g t vs := setRow_heap _ _ _ _ _ _ h
theorem setRow_later3 {W w : World} {vs : Array Value} (h : Later W w) : Later W (w.setRow (W.heap.size + 1 + 1) vs) := Below.trans h ⟨rfl, rfl, rfl, by simp [World.setRow], fun k hk => setRow_other _ _ _ _ (by omega)⟩
theorem bytes_inj {a b : List UInt8} (h : bytes a = bytes b) : a = b := by
 have := congrArg (fun s : ByteArray => s.data.toList) h
 simpa [bytes] using this
theorem toListB (a b : ByteArray) : (a.toList == b.toList) = decide (a = b) := by
 rw [Bool.eq_iff_iff, beq_iff_eq, decide_eq_true_iff]
 constructor
 ·
  intro h
  rw [Go.ByteArray.toList_eq, Go.ByteArray.toList_eq] at h
  exact bytes_eq h
 ·
  intro h; rw [h]
set_option maxHeartbeats 4000000 in
set_option maxRecDepth 100000 in
theorem mread_ok (r : RulesD) (A : Option Addr) (cp : Nat) (p : Pos) (m : Mv) (W : World) (hf : RFit r) (hg : PFit p) (hP : PiecesAt W W.heap.size A r.pieces) (hok : OfOk r p) (hm : m ∈ movesL r p) :
  Calls Tryz.prog 52 #[.agg #[.int .i64 r.start.w, .int .i64 r.start.h, .string r.start.cells, .int .i64 r.start.turn, .string r.start.h0, .string r.start.h1, .slice A r.pieces.length cp, .bool r.drops, .int .u8 r.lose, .int .i64 r.line, .int .u8 r.reach, .bool r.stuck, .int .i64 r.plies], .agg #[.int .i64 p.w, .int .i64 p.h, .string p.cells, .int .i64 p.turn, .string p.h0, .string p.h1], .string (bytes (mv_textL p m))] W fun e w' => e = .returned (.tuple #[.agg #[.int .i64 m.f, .int .i64 m.t, .int .u8 m.c], .int .i64 0]) ∧ Later W w' := by
 have Hst := hide (TxSt.first (W := W) (R := #[.int .i64 r.start.w, .int .i64 r.start.h, .string r.start.cells, .int .i64 r.start.turn, .string r.start.h0, .string r.start.h1, .slice A r.pieces.length cp, .bool r.drops, .int .u8 r.lose, .int .i64 r.line, .int .u8 r.reach, .bool r.stuck, .int .i64 r.plies]) (P := #[.int .i64 p.w, .int .i64 p.h, .string p.cells, .int .i64 p.turn, .string p.h0, .string p.h1]) (M := #[.int .i64 0, .int .i64 0, .int .u8 0]))
 have Hmm := hide (fun w (hw : Later W w) => mm_ok r A cp p w hf hg ((hP.below hw).more hw.size) hok)
 have hll : (movesL r p).length ≤ 10000 := movesL_len hok.pos
 have HT := hide (fun x (hx : x ∈ movesL r p) w => by
  obtain ⟨q1, q2, q3, q4⟩ := every_parts hok (moves_every hx)
  exact mv_text_any (m := x) hok.pos q1 q2 q3 q4 w)
 have HI := hide (fun x (hx : x ∈ movesL r p) (h : bytes (mv_textL p x) = bytes (mv_textL p m)) => textL_inj hok (moves_every hx) (moves_every hm) (bytes_inj h))
 have Hm := hide hm
 obtain ⟨L, hL⟩ : ∃ L, movesL r p = L := ⟨_, rfl⟩
 rw [hL] at Hmm hll HT HI Hm
 clear hm hf hg hP hok hL
 obtain ⟨s, hs⟩ : ∃ s, bytes (mv_textL p m) = s := ⟨_, rfl⟩
 rw [hs]
 have Hs := hide hs
 clear hs
 go_enter Tryz.func52, Tryz.ntmps52
 go_upto_region 1 with (fail)
 obtain ⟨w0, hw0⟩ : ∃ w0, (((W.alloc (.cells #[.int .i64 r.start.w, .int .i64 r.start.h, .string r.start.cells, .int .i64 r.start.turn, .string r.start.h0, .string r.start.h1, .slice A r.pieces.length cp, .bool r.drops, .int .u8 r.lose, .int .i64 r.line, .int .u8 r.reach, .bool r.stuck, .int .i64 r.plies] 27)).alloc (.cells #[.int .i64 p.w, .int .i64 p.h, .string p.cells, .int .i64 p.turn, .string p.h0, .string p.h1] 24)).alloc (.cells #[.int .i64 0, .int .i64 0, .int .u8 0] 101)) = w0 := ⟨_, rfl⟩
 rw [hw0] at Hst ⊢
 clear hw0
 obtain ⟨x0, x1, x2, x3, x4, x5, x6, x7, x8, x9, x10, x11, x12⟩ := Hst.out.r.rules
 obtain ⟨p0, p1, p2, p3, p4, p5⟩ := Hst.out.p.pos6
 go_upto_region 4 with (go_at_call 95; refine (Hmm.out _ Hst.out.later).mono ?_; rintro e w2 ⟨A', c', rfl, hc2, hw2⟩)
 have Hst2 := hide (Hst.out.later_ hw2)
 have Hc2 := hide hc2
 clear hw2 hc2 Hst x0 x1 x2 x3 x4 x5 x6 x7 x8 x9 x10 x11 x12 p0 p1 p2 p3 p4 p5 Hmm
 go_wp2_with fail
 go_loopw [24] (fun kv wr => ∃ k : Nat, k ≤ L.length ∧ kv = .int .i64 (k : Int) ∧ (∀ j (h : j < L.length), j < k → L[j] ≠ m) ∧ Later w2 wr) (fun kv _ => L.length - (intOf kv).toNat)
 case atStart => exact ⟨0, by omega, rfl, fun j _ h => by omega, Later.rfl⟩
 case round =>
  rename World => wr
  obtain ⟨k, hk, rfl, hall, hw⟩ := hrel
  have Hall := hide hall
  have Hstr := hide (Hst2.out.later_ hw)
  have Hcr := hide ((Hc2.out.below hw).more hw.size)
  have Hwr := hide hw
  clear hall hw
  by_cases hlt : k < L.length
  ·
   have t1 : decide ((k : Int) < (L.length : Int)) = true := by simp; omega
   have t1n : decide (k < L.length) = true := by simp; omega
   obtain ⟨b, off, rfl, hb, y0, y1, y2⟩ := mv_at Hcr.out hlt
   have HTx := hide (fun w => HT.out L[k] (List.getElem_mem hlt) w)
   have HIx := hide (HI.out L[k] (List.getElem_mem hlt))
   have Hnext := hide (show L[k] ≠ m → ∀ j (h : j < L.length), j < k + 1 → L[j] ≠ m from fun h0 j h hj => by
    by_cases e : j = k
    ·
     subst e; exact h0
    ·
     exact Hall.out j h (by omega))
   obtain ⟨x, hx⟩ : ∃ x, L[k] = x := ⟨_, rfl⟩
   rw [hx] at y0 y1 y2
   simp only [hx] at HTx HIx Hnext
   clear hx
   go_upto_region 7 with (fail)
   have hla : Later wr (wr.alloc (.cells #[.int .i64 x.f, .int .i64 x.t, .int .u8 x.c] 101)) := Later.rfl.alloc _
   have Hxa := hide (Blk.new wr 101 #[.int .i64 x.f, .int .i64 x.t, .int .u8 x.c])
   have Hsta := hide (Hstr.out.later_ hla)
   have Hwa := hide (Hwr.out.trans hla)
   obtain ⟨gx, hgx⟩ : ∃ gx, wr.heap.size = gx := ⟨_, rfl⟩
   obtain ⟨wa, hwa⟩ : ∃ wa, wr.alloc (.cells #[.int .i64 x.f, .int .i64 x.t, .int .u8 x.c] 101) = wa := ⟨_, rfl⟩
   rw [hwa] at Hxa Hsta Hwa ⊢
   rw [hgx] at Hxa ⊢
   clear hwa hgx hla y0 y1 y2 Hstr Hwr
   obtain ⟨⟨m0, m1, m2⟩, -⟩ := Hxa.out.mv
   obtain ⟨p0, p1, p2, p3, p4, p5⟩ := Hsta.out.p.pos6
   obtain ⟨sx, hsx⟩ : ∃ sx, bytes (mv_textL p x) = sx := ⟨_, rfl⟩
   rw [hsx] at HTx HIx
   have Hsx := hide hsx
   clear hsx
   by_cases hxm : sx = s
   ·
    have Hx := hide (HIx.out (hxm.trans Hs.out.symm))
    have tb : (sx.toList == s.toList) = true := by rw [toListB]; exact decide_eq_true hxm
    have Hxm := hide hxm
    clear hxm
    go_upto_region 8 with (go_at_call 96; refine (HTx.out _).mono ?_; rintro e w8 ⟨rfl, hw8⟩)
    have Hst8 := hide (Hsta.out.later_ hw8)
    obtain ⟨⟨m0, m1, m2⟩, -⟩ := (hw8.blk Hxa.out).mv
    clear hw8 Hxa Hsta Hwa p0 p1 p2 p3 p4 p5 tb
    refine wp_region_lit ?_
    refine wpList_plain rfl (fun K hK => ?_)
    go_simp
    refine hK _ _ ?_
    clear hK K
    refine wpList_plain rfl (fun K hK => ?_)
    refine wp_store_row 101 (.tmp 6) (.tmp 33) rfl (W.heap.size + 1 + 1) #[.int .i64 x.f, .int .i64 x.t, .int .u8 x.c] rfl rfl 101 _ Hst8.out.m (by kernel_rfl) (by simp) (by simp [Value.oneCell']) ?_
    refine hK _ _ ?_
    clear hK K
    have hz9 := setRow_blk3 (vs := #[.int .i64 x.f, .int .i64 x.t, .int .u8 x.c]) Hst8.out.m
    have HL9 := hide (setRow_later3 (vs := #[.int .i64 x.f, .int .i64 x.t, .int .u8 x.c]) Hst8.out.later)
    obtain ⟨w9, hw9⟩ : ∃ w9, World.setRow w8 (W.heap.size + 1 + 1) #[.int .i64 x.f, .int .i64 x.t, .int .u8 x.c] = w9 := ⟨_, rfl⟩
    rw [hw9] at hz9 HL9 ⊢
    clear hw9 Hst8
    obtain ⟨⟨z0, z1, z2⟩, -⟩ := hz9.mv
    go_wp2_with fail
    refine bodyPost_ret (v := .tuple #[.agg #[.int .i64 x.f, .int .i64 x.t, .int .u8 x.c], .int .i64 0]) (by simp [results, Tryz.results52, go_sem, z0, z1, z2]) rfl ⟨by rw [Hx.out], HL9.out⟩
   ·
    have Hn := hide (Hnext.out (fun e => hxm (by rw [← Hsx.out, ← Hs.out, e])))
    have tb : (sx.toList == s.toList) = false := by rw [toListB]; exact decide_eq_false hxm
    have Hxm := hide hxm
    clear hxm
    go_wp2_with (go_at_call 96; refine (HTx.out _).mono ?_; rintro e w8 ⟨rfl, hw8⟩)
    go_roundw
    case rel => exact ⟨k + 1, by omega, by go_num, Hn.out, Hwa.out.trans hw8⟩
    case measure => simp [intOf]; omega
  ·
   exfalso
   obtain ⟨j, hj, e⟩ := List.getElem_of_mem Hm.out
   exact Hall.out j hj (by omega) e
end Go.Proofs.YtcdfeaodfmfdnaaGreatDoor
namespace Go.Proofs.YtcdfeaodfmfdnaaGreatDoor
open Go.RowKit

instance : DecidableEq Pos := fun a b =>
 if h : a.w = b.w ∧ a.h = b.h ∧ a.cells = b.cells ∧ a.turn = b.turn ∧ a.h0 = b.h0 ∧ a.h1 = b.h1 then isTrue (by
  obtain ⟨a0, a1, a2, a3, a4, a5⟩ := a
  obtain ⟨b0, b1, b2, b3, b4, b5⟩ := b
  simp only at h
  obtain ⟨rfl, rfl, rfl, rfl, rfl, rfl⟩ := h
  rfl) else isFalse (fun e => h (by rw [e]; exact ⟨rfl, rfl, rfl, rfl, rfl, rfl⟩))

end Go.Proofs.YtcdfeaodfmfdnaaGreatDoor
namespace Go.Proofs.YtcdfeaodfmfdnaaGreatDoor
open Go.RowKit Go.Shelf

set_option maxHeartbeats 4000000 in
set_option maxRecDepth 100000 in
theorem mread_none (r : RulesD) (A : Option Addr) (cp : Nat) (p : Pos) (s : ByteArray) (W : World) (hf : RFit r) (hg : PFit p) (hP : PiecesAt W W.heap.size A r.pieces) (hok : OfOk r p) (hs : ∀ m ∈ movesL r p, bytes (mv_textL p m) ≠ s) :
  Calls Tryz.prog 52 #[.agg #[.int .i64 r.start.w, .int .i64 r.start.h, .string r.start.cells, .int .i64 r.start.turn, .string r.start.h0, .string r.start.h1, .slice A r.pieces.length cp, .bool r.drops, .int .u8 r.lose, .int .i64 r.line, .int .u8 r.reach, .bool r.stuck, .int .i64 r.plies], .agg #[.int .i64 p.w, .int .i64 p.h, .string p.cells, .int .i64 p.turn, .string p.h0, .string p.h1], .string s] W fun e w' => e = .returned (.tuple #[.agg #[.int .i64 0, .int .i64 0, .int .u8 0], .int .i64 5]) ∧ Later W w' := by
 have Hst := hide (TxSt.first (W := W) (R := #[.int .i64 r.start.w, .int .i64 r.start.h, .string r.start.cells, .int .i64 r.start.turn, .string r.start.h0, .string r.start.h1, .slice A r.pieces.length cp, .bool r.drops, .int .u8 r.lose, .int .i64 r.line, .int .u8 r.reach, .bool r.stuck, .int .i64 r.plies]) (P := #[.int .i64 p.w, .int .i64 p.h, .string p.cells, .int .i64 p.turn, .string p.h0, .string p.h1]) (M := #[.int .i64 0, .int .i64 0, .int .u8 0]))
 have Hmm := hide (fun w (hw : Later W w) => mm_ok r A cp p w hf hg ((hP.below hw).more hw.size) hok)
 have hll : (movesL r p).length ≤ 10000 := movesL_len hok.pos
 have HT := hide (fun x (hx : x ∈ movesL r p) w => by
  obtain ⟨q1, q2, q3, q4⟩ := every_parts hok (moves_every hx)
  exact mv_text_any (m := x) hok.pos q1 q2 q3 q4 w)
 have HI := hide hs
 obtain ⟨L, hL⟩ : ∃ L, movesL r p = L := ⟨_, rfl⟩
 rw [hL] at Hmm hll HT HI
 clear hf hg hP hok hL hs
 go_enter Tryz.func52, Tryz.ntmps52
 go_upto_region 1 with (fail)
 obtain ⟨w0, hw0⟩ : ∃ w0, (((W.alloc (.cells #[.int .i64 r.start.w, .int .i64 r.start.h, .string r.start.cells, .int .i64 r.start.turn, .string r.start.h0, .string r.start.h1, .slice A r.pieces.length cp, .bool r.drops, .int .u8 r.lose, .int .i64 r.line, .int .u8 r.reach, .bool r.stuck, .int .i64 r.plies] 27)).alloc (.cells #[.int .i64 p.w, .int .i64 p.h, .string p.cells, .int .i64 p.turn, .string p.h0, .string p.h1] 24)).alloc (.cells #[.int .i64 0, .int .i64 0, .int .u8 0] 101)) = w0 := ⟨_, rfl⟩
 rw [hw0] at Hst ⊢
 clear hw0
 obtain ⟨x0, x1, x2, x3, x4, x5, x6, x7, x8, x9, x10, x11, x12⟩ := Hst.out.r.rules
 obtain ⟨p0, p1, p2, p3, p4, p5⟩ := Hst.out.p.pos6
 go_upto_region 4 with (go_at_call 95; refine (Hmm.out _ Hst.out.later).mono ?_; rintro e w2 ⟨A', c', rfl, hc2, hw2⟩)
 have Hst2 := hide (Hst.out.later_ hw2)
 have Hc2 := hide hc2
 clear hw2 hc2 Hst x0 x1 x2 x3 x4 x5 x6 x7 x8 x9 x10 x11 x12 p0 p1 p2 p3 p4 p5 Hmm
 go_wp2_with fail
 go_loopw [24] (fun kv wr => ∃ k : Nat, k ≤ L.length ∧ kv = .int .i64 (k : Int) ∧ Later w2 wr) (fun kv _ => L.length - (intOf kv).toNat)
 case atStart => exact ⟨0, by omega, rfl, Later.rfl⟩
 case round =>
  rename World => wr
  obtain ⟨k, hk, rfl, hw⟩ := hrel
  have Hstr := hide (Hst2.out.later_ hw)
  have Hcr := hide ((Hc2.out.below hw).more hw.size)
  have Hwr := hide hw
  clear hw
  by_cases hlt : k < L.length
  ·
   have t1 : decide ((k : Int) < (L.length : Int)) = true := by simp; omega
   have t1n : decide (k < L.length) = true := by simp; omega
   obtain ⟨b, off, rfl, hb, y0, y1, y2⟩ := mv_at Hcr.out hlt
   have HTx := hide (fun w => HT.out L[k] (List.getElem_mem hlt) w)
   have HIx := hide (HI.out L[k] (List.getElem_mem hlt))
   obtain ⟨x, hx⟩ : ∃ x, L[k] = x := ⟨_, rfl⟩
   rw [hx] at y0 y1 y2
   simp only [hx] at HTx HIx
   clear hx
   go_upto_region 7 with (fail)
   have hla : Later wr (wr.alloc (.cells #[.int .i64 x.f, .int .i64 x.t, .int .u8 x.c] 101)) := Later.rfl.alloc _
   have Hxa := hide (Blk.new wr 101 #[.int .i64 x.f, .int .i64 x.t, .int .u8 x.c])
   have Hsta := hide (Hstr.out.later_ hla)
   have Hwa := hide (Hwr.out.trans hla)
   obtain ⟨gx, hgx⟩ : ∃ gx, wr.heap.size = gx := ⟨_, rfl⟩
   obtain ⟨wa, hwa⟩ : ∃ wa, wr.alloc (.cells #[.int .i64 x.f, .int .i64 x.t, .int .u8 x.c] 101) = wa := ⟨_, rfl⟩
   rw [hwa] at Hxa Hsta Hwa ⊢
   rw [hgx] at Hxa ⊢
   clear hwa hgx hla y0 y1 y2 Hstr Hwr
   obtain ⟨⟨m0, m1, m2⟩, -⟩ := Hxa.out.mv
   obtain ⟨p0, p1, p2, p3, p4, p5⟩ := Hsta.out.p.pos6
   obtain ⟨sx, hsx⟩ : ∃ sx, bytes (mv_textL p x) = sx := ⟨_, rfl⟩
   rw [hsx] at HTx HIx
   clear hsx
   have tb : (sx.toList == s.toList) = false := by rw [toListB]; exact decide_eq_false HIx.out
   go_wp2_with (go_at_call 96; refine (HTx.out _).mono ?_; rintro e w8 ⟨rfl, hw8⟩)
   go_roundw
   case rel => exact ⟨k + 1, by omega, by go_num, Hwa.out.trans hw8⟩
   case measure => simp [intOf]; omega
  ·
   obtain rfl : L.length = k := by omega
   have t1 : decide ((L.length : Int) < (L.length : Int)) = false := by simp
   have t1n : decide (L.length < L.length) = false := by simp
   obtain ⟨⟨z0, z1, z2⟩, -⟩ := Hstr.out.m.mv
   have f0 := Hstr.out.m.free 0
   have f1 := Hstr.out.m.free 1
   have f2 := Hstr.out.m.free 2
   have HL := hide Hstr.out.later
   clear Hstr
   go_wp2_with fail
   refine bodyPost_ret (v := .tuple #[.agg #[.int .i64 0, .int .i64 0, .int .u8 0], .int .i64 5]) (by simp [results, Tryz.results52, go_sem, z0, z1, z2]) rfl ⟨rfl, ?_⟩
   repeat (first | with_reducible exact HL.out | (with_reducible refine Later.set ?_ (by simp; omega) _))
end Go.Proofs.YtcdfeaodfmfdnaaGreatDoor
