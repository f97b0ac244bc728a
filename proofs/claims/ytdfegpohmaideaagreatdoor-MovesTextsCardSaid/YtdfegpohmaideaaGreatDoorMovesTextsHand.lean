/- gamelaw.MovesTexts answers true and leaves what was there as it was, for all rules, every position, move, text and depth, where bits.deBruijn32tab, deBruijn64tab and strconv.uint64pow10 hold what the library lays in them (tied to its text). -/
import Derived.Test.YtdfegpohmaideaaGreatDoorMtBase
import Derived.Test.YtdfegpohmaideaaGreatDoorShelf
import Derived.Deep.RegionHeld
import Derived.Deep.CutRange
import Derived.Test.YtdfegpohmaideaaGreatDoorRows
import Derived.ProofKit
import Derived.LaidMore
import Derived.OpenShut
import Derived.Stop.Joined
import Derived.Test.YtdfegpohmaideaaGreatDoorBase
import Derived.Deep.Matrix
import Derived.ChangeMaps5
import Derived.Test.YtdfegpohmaideaaGreatDoorRuCheck
import Derived.ChangeArms
import Derived.Below
import Derived.ChangeSame
import Derived.WalkKit
import Derived.Test.YtdfegpohmaideaaGreatDoorCards
import Derived.Test.YtdfegpohmaideaaGreatDoorTie
/- The ways to make so many moves, counted up to a bound; plain. -/
namespace Go.Proofs.YtdfegpohmaideaaGreatDoor

/-- a sum that stops behind a bound -/
def sumTo (f : Pos → Nat) : List Pos → Nat → Nat
  | [], n => n
  | q :: l, n => if n ≤ 100000 then sumTo f l (n + f q) else n
theorem sumTo_big {f : Pos → Nat} {l : List Pos} {n : Nat} (h : 100000 < n) : sumTo f l n = n := by
  cases l with
  | nil => rfl
  | cons q l => unfold sumTo; rw [if_neg (by omega)]
theorem sumTo_drop {f : Pos → Nat} {l : List Pos} {n k : Nat} (h : n ≤ 100000) (hk : k < l.length) : sumTo f (l.drop k) n = sumTo f (l.drop (k + 1)) (n + f l[k]) := by
  rw [List.drop_eq_getElem_cons hk]
  conv => lhs; unfold sumTo
  rw [if_pos h]
theorem sumTo_end {f : Pos → Nat} {l : List Pos} {n : Nat} : sumTo f (l.drop l.length) n = n := by rw [List.drop_length]; rfl
/-- what is the same up to the bound -/
def Near (a b : Nat) : Prop := (b ≤ 100000 → a = b) ∧ (100000 < b → 100000 < a)
theorem sumTo_near {f g : Pos → Nat} : ∀ (l : List Pos) (n : Nat), (∀ q ∈ l, Near (f q) (g q)) → Near (sumTo f l n) (lsum l g + n)
  | [], n, _ => by
    have : lsum [] g = 0 := rfl
    rw [this]
    exact ⟨fun _ => by unfold sumTo; omega, fun h => by unfold sumTo; omega⟩
  | q :: l, n, h => by
    have e : lsum (q :: l) g = g q + lsum l g := by simp [lsum]
    have h1 := h q (by simp)
    have h2 := sumTo_near l (n + f q) (fun x hx => h x (by simp [hx]))
    unfold sumTo
    by_cases hn : n ≤ 100000
    · rw [if_pos hn, e]
      refine ⟨fun hb => ?_, fun hb => ?_⟩
      · have := h1.1 (by omega)
        rw [h2.1 (by omega)]
        omega
      · by_cases hg : g q ≤ 100000
        · have := h1.1 hg
          exact h2.2 (by omega)
        · have := h1.2 (by omega)
          rw [sumTo_big (by omega)]
          omega
    · rw [if_neg hn]
      exact ⟨fun hb => by omega, fun _ => by omega⟩
theorem sumTo_le {f : Pos → Nat} {B : Nat} : ∀ (l : List Pos) (n : Nat), (∀ q ∈ l, f q ≤ B) → sumTo f l n ≤ max n (100000 + B)
  | [], n, _ => by unfold sumTo; omega
  | q :: l, n, h => by
    have h1 := h q (by simp)
    have h2 := sumTo_le l (n + f q) (fun x hx => h x (by simp [hx]))
    unfold sumTo
    split <;> omega
/-- what gameref.Paths answers -/
noncomputable def pathsN (r : RulesD) : Nat → Pos → Nat
  | 0, _ => 1
  | d + 1, p => sumTo (pathsN r d) (nextL r p) 0
theorem paths_near (r : RulesD) : ∀ (d : Nat) (p : Pos), Near (pathsN r d p) (waysN r d p)
  | 0, p => by rw [waysN_zero]; exact ⟨fun _ => rfl, fun h => by omega⟩
  | d + 1, p => by
    have h := sumTo_near (nextL r p) 0 (fun q _ => paths_near r d q)
    rw [Nat.add_zero, ← waysN_succ] at h
    exact h
theorem paths_le (r : RulesD) : ∀ (d : Nat) (p : Pos), pathsN r d p ≤ 100000 * d + 1
  | 0, p => Nat.le_refl _
  | d + 1, p => by
    have h := sumTo_le (nextL r p) 0 (fun q _ => paths_le r d q)
    have e : pathsN r (d + 1) p = sumTo (pathsN r d) (nextL r p) 0 := rfl
    rw [e]
    omega
end Go.Proofs.YtdfegpohmaideaaGreatDoor
/- moves.Text, moves.Read, moves.Count where they say no -/
namespace Go.Proofs.YtdfegpohmaideaaGreatDoor
open Go.RowKit Go.Shelf

set_option maxHeartbeats 4000000 in
set_option maxRecDepth 100000 in
theorem mtext_no (r : RulesD) (A : Option Addr) (cp : Nat) (p : Pos) (m : Mv) (W : World) (hf : RFit r) (hg : PFit p) (hP : PiecesAt W W.heap.size A r.pieces) (hno : ¬ OfOk r p) :
    Calls Tryz.prog 4 #[.agg #[.int .i64 r.start.w, .int .i64 r.start.h, .string r.start.cells, .int .i64 r.start.turn, .string r.start.h0, .string r.start.h1, .slice A r.pieces.length cp, .bool r.drops, .int .u8 r.lose, .int .i64 r.line, .int .u8 r.reach, .bool r.stuck, .int .i64 r.plies], .agg #[.int .i64 p.w, .int .i64 p.h, .string p.cells, .int .i64 p.turn, .string p.h0, .string p.h1], .agg #[.int .i64 m.f, .int .i64 m.t, .int .u8 m.c]] W fun e w' => e = .returned (.tuple #[.string ⟨#[]⟩, .int .i64 1]) ∧ Later W w' := by
  have Hst := hide (TxSt.first (W := W) (R := #[.int .i64 r.start.w, .int .i64 r.start.h, .string r.start.cells, .int .i64 r.start.turn, .string r.start.h0, .string r.start.h1, .slice A r.pieces.length cp, .bool r.drops, .int .u8 r.lose, .int .i64 r.line, .int .u8 r.reach, .bool r.stuck, .int .i64 r.plies]) (P := #[.int .i64 p.w, .int .i64 p.h, .string p.cells, .int .i64 p.turn, .string p.h0, .string p.h1]) (M := #[.int .i64 m.f, .int .i64 m.t, .int .u8 m.c]))
  have Hmm := hide (fun w (hw : Later W w) => mm_no r A cp p w hf hg ((hP.below hw).more hw.size) hno)
  clear hf hg hP hno
  go_enter Tryz.func4, Tryz.ntmps4
  go_upto_region 1 with (fail)
  obtain ⟨w0, hw0⟩ : ∃ w0, (((W.alloc (.cells #[.int .i64 r.start.w, .int .i64 r.start.h, .string r.start.cells, .int .i64 r.start.turn, .string r.start.h0, .string r.start.h1, .slice A r.pieces.length cp, .bool r.drops, .int .u8 r.lose, .int .i64 r.line, .int .u8 r.reach, .bool r.stuck, .int .i64 r.plies] 27)).alloc (.cells #[.int .i64 p.w, .int .i64 p.h, .string p.cells, .int .i64 p.turn, .string p.h0, .string p.h1] 24)).alloc (.cells #[.int .i64 m.f, .int .i64 m.t, .int .u8 m.c] 29)) = w0 := ⟨_, rfl⟩
  rw [hw0] at Hst ⊢
  clear hw0
  obtain ⟨x0, x1, x2, x3, x4, x5, x6, x7, x8, x9, x10, x11, x12⟩ := Hst.out.r.rules
  obtain ⟨p0, p1, p2, p3, p4, p5⟩ := Hst.out.p.pos6
  go_wp2_with (go_at_call 12; refine (Hmm.out _ Hst.out.later).mono ?_; rintro e w2 ⟨rfl, hw2⟩)
  first
    | exact ⟨rfl, Hst.out.later.trans hw2⟩
    | (go_ret2; exact ⟨rfl, Hst.out.later.trans hw2⟩)
set_option maxHeartbeats 4000000 in
set_option maxRecDepth 100000 in
theorem mtext_out (r : RulesD) (A : Option Addr) (cp : Nat) (p : Pos) (m : Mv) (W : World) (hf : RFit r) (hg : PFit p) (hP : PiecesAt W W.heap.size A r.pieces) (hok : OfOk r p) (hm : m ∉ movesL r p) :
    Calls Tryz.prog 4 #[.agg #[.int .i64 r.start.w, .int .i64 r.start.h, .string r.start.cells, .int .i64 r.start.turn, .string r.start.h0, .string r.start.h1, .slice A r.pieces.length cp, .bool r.drops, .int .u8 r.lose, .int .i64 r.line, .int .u8 r.reach, .bool r.stuck, .int .i64 r.plies], .agg #[.int .i64 p.w, .int .i64 p.h, .string p.cells, .int .i64 p.turn, .string p.h0, .string p.h1], .agg #[.int .i64 m.f, .int .i64 m.t, .int .u8 m.c]] W fun e w' => e = .returned (.tuple #[.string ⟨#[]⟩, .int .i64 5]) ∧ Later W w' := by
  have Hst := hide (TxSt.first (W := W) (R := #[.int .i64 r.start.w, .int .i64 r.start.h, .string r.start.cells, .int .i64 r.start.turn, .string r.start.h0, .string r.start.h1, .slice A r.pieces.length cp, .bool r.drops, .int .u8 r.lose, .int .i64 r.line, .int .u8 r.reach, .bool r.stuck, .int .i64 r.plies]) (P := #[.int .i64 p.w, .int .i64 p.h, .string p.cells, .int .i64 p.turn, .string p.h0, .string p.h1]) (M := #[.int .i64 m.f, .int .i64 m.t, .int .u8 m.c]))
  have Hmm := hide (fun w (hw : Later W w) => mm_ok r A cp p w hf hg ((hP.below hw).more hw.size) hok)
  have Hlen := hide (show (movesL r p).length ≤ 9223372036854775807 by have := movesL_len (r := r) hok.pos; omega)
  have Hm := hide (show decide (m ∈ movesL r p) = false from decide_eq_false hm)
  clear hm hf hg hP hok
  go_enter Tryz.func4, Tryz.ntmps4
  go_upto_region 1 with (fail)
  obtain ⟨w0, hw0⟩ : ∃ w0, (((W.alloc (.cells #[.int .i64 r.start.w, .int .i64 r.start.h, .string r.start.cells, .int .i64 r.start.turn, .string r.start.h0, .string r.start.h1, .slice A r.pieces.length cp, .bool r.drops, .int .u8 r.lose, .int .i64 r.line, .int .u8 r.reach, .bool r.stuck, .int .i64 r.plies] 27)).alloc (.cells #[.int .i64 p.w, .int .i64 p.h, .string p.cells, .int .i64 p.turn, .string p.h0, .string p.h1] 24)).alloc (.cells #[.int .i64 m.f, .int .i64 m.t, .int .u8 m.c] 29)) = w0 := ⟨_, rfl⟩
  rw [hw0] at Hst ⊢
  clear hw0
  obtain ⟨x0, x1, x2, x3, x4, x5, x6, x7, x8, x9, x10, x11, x12⟩ := Hst.out.r.rules
  obtain ⟨p0, p1, p2, p3, p4, p5⟩ := Hst.out.p.pos6
  go_upto_region 4 with (go_at_call 12; refine (Hmm.out _ Hst.out.later).mono ?_; rintro e w2 ⟨A', c', rfl, hc2, hw2⟩)
  have Hst2 := hide (Hst.out.later_ hw2)
  have Hco := hide (contains_mv A' c' (movesL r p) m w2 Hlen.out hc2)
  clear hw2 hc2 Hst x0 x1 x2 x3 x4 x5 x6 x7 x8 x9 x10 x11 x12 p0 p1 p2 p3 p4 p5
  obtain ⟨⟨m0, m1, m2⟩, -⟩ := Hst2.out.m.mv
  rw [Hm.out] at Hco
  go_wp2_with (go_at_call 13; refine Hco.out.mono ?_; rintro e w3 ⟨rfl, hw3⟩)
  first
    | exact ⟨rfl, Hst2.out.later.trans hw3⟩
    | (go_ret2; exact ⟨rfl, Hst2.out.later.trans hw3⟩)
set_option maxHeartbeats 4000000 in
set_option maxRecDepth 100000 in
theorem mread_no (r : RulesD) (A : Option Addr) (cp : Nat) (p : Pos) (s : ByteArray) (W : World) (hf : RFit r) (hg : PFit p) (hP : PiecesAt W W.heap.size A r.pieces) (hno : ¬ OfOk r p) :
    Calls Tryz.prog 5 #[.agg #[.int .i64 r.start.w, .int .i64 r.start.h, .string r.start.cells, .int .i64 r.start.turn, .string r.start.h0, .string r.start.h1, .slice A r.pieces.length cp, .bool r.drops, .int .u8 r.lose, .int .i64 r.line, .int .u8 r.reach, .bool r.stuck, .int .i64 r.plies], .agg #[.int .i64 p.w, .int .i64 p.h, .string p.cells, .int .i64 p.turn, .string p.h0, .string p.h1], .string s] W fun e w' => e = .returned (.tuple #[.agg #[.int .i64 0, .int .i64 0, .int .u8 0], .int .i64 1]) ∧ Later W w' := by
  have Hst := hide (TxSt.first (W := W) (R := #[.int .i64 r.start.w, .int .i64 r.start.h, .string r.start.cells, .int .i64 r.start.turn, .string r.start.h0, .string r.start.h1, .slice A r.pieces.length cp, .bool r.drops, .int .u8 r.lose, .int .i64 r.line, .int .u8 r.reach, .bool r.stuck, .int .i64 r.plies]) (P := #[.int .i64 p.w, .int .i64 p.h, .string p.cells, .int .i64 p.turn, .string p.h0, .string p.h1]) (M := #[.int .i64 0, .int .i64 0, .int .u8 0]))
  have Hmm := hide (fun w (hw : Later W w) => mm_no r A cp p w hf hg ((hP.below hw).more hw.size) hno)
  clear hf hg hP hno
  go_enter Tryz.func5, Tryz.ntmps5
  go_upto_region 1 with (fail)
  obtain ⟨w0, hw0⟩ : ∃ w0, (((W.alloc (.cells #[.int .i64 r.start.w, .int .i64 r.start.h, .string r.start.cells, .int .i64 r.start.turn, .string r.start.h0, .string r.start.h1, .slice A r.pieces.length cp, .bool r.drops, .int .u8 r.lose, .int .i64 r.line, .int .u8 r.reach, .bool r.stuck, .int .i64 r.plies] 27)).alloc (.cells #[.int .i64 p.w, .int .i64 p.h, .string p.cells, .int .i64 p.turn, .string p.h0, .string p.h1] 24)).alloc (.cells #[.int .i64 0, .int .i64 0, .int .u8 0] 29)) = w0 := ⟨_, rfl⟩
  rw [hw0] at Hst ⊢
  clear hw0
  obtain ⟨x0, x1, x2, x3, x4, x5, x6, x7, x8, x9, x10, x11, x12⟩ := Hst.out.r.rules
  obtain ⟨p0, p1, p2, p3, p4, p5⟩ := Hst.out.p.pos6
  go_upto_region 3 with (go_at_call 12; refine (Hmm.out _ Hst.out.later).mono ?_; rintro e w2 ⟨rfl, hw2⟩)
  have Hst2 := hide (Hst.out.later_ hw2)
  clear hw2 Hst x0 x1 x2 x3 x4 x5 x6 x7 x8 x9 x10 x11 x12 p0 p1 p2 p3 p4 p5
  obtain ⟨⟨z0, z1, z2⟩, -⟩ := Hst2.out.m.mv
  have f0 := Hst2.out.m.free 0
  have f1 := Hst2.out.m.free 1
  have f2 := Hst2.out.m.free 2
  have HL := hide Hst2.out.later
  clear Hst2
  go_wp2_with fail
  refine bodyPost_ret (v := .tuple #[.agg #[.int .i64 0, .int .i64 0, .int .u8 0], .int .i64 1]) (by simp [results, Tryz.results5, go_sem, z0, z1, z2]) rfl ⟨rfl, ?_⟩
  repeat (first | with_reducible exact HL.out | (with_reducible refine Later.set ?_ (by simp; omega) _))
set_option maxHeartbeats 4000000 in
set_option maxRecDepth 100000 in
theorem mread_none (r : RulesD) (A : Option Addr) (cp : Nat) (p : Pos) (s : ByteArray) (W : World) (hf : RFit r) (hg : PFit p) (hP : PiecesAt W W.heap.size A r.pieces) (hok : OfOk r p) (hs : ∀ m ∈ movesL r p, bytes (textL p m) ≠ s) :
    Calls Tryz.prog 5 #[.agg #[.int .i64 r.start.w, .int .i64 r.start.h, .string r.start.cells, .int .i64 r.start.turn, .string r.start.h0, .string r.start.h1, .slice A r.pieces.length cp, .bool r.drops, .int .u8 r.lose, .int .i64 r.line, .int .u8 r.reach, .bool r.stuck, .int .i64 r.plies], .agg #[.int .i64 p.w, .int .i64 p.h, .string p.cells, .int .i64 p.turn, .string p.h0, .string p.h1], .string s] W fun e w' => e = .returned (.tuple #[.agg #[.int .i64 0, .int .i64 0, .int .u8 0], .int .i64 5]) ∧ Later W w' := by
  have Hst := hide (TxSt.first (W := W) (R := #[.int .i64 r.start.w, .int .i64 r.start.h, .string r.start.cells, .int .i64 r.start.turn, .string r.start.h0, .string r.start.h1, .slice A r.pieces.length cp, .bool r.drops, .int .u8 r.lose, .int .i64 r.line, .int .u8 r.reach, .bool r.stuck, .int .i64 r.plies]) (P := #[.int .i64 p.w, .int .i64 p.h, .string p.cells, .int .i64 p.turn, .string p.h0, .string p.h1]) (M := #[.int .i64 0, .int .i64 0, .int .u8 0]))
  have Hmm := hide (fun w (hw : Later W w) => mm_ok r A cp p w hf hg ((hP.below hw).more hw.size) hok)
  have hll : (movesL r p).length ≤ 10000 := movesL_len hok.pos
  have HT := hide (fun x (hx : x ∈ movesL r p) w => by
    obtain ⟨q1, q2, q3, q4⟩ := every_parts hok (moves_every hx)
    exact text_any (m := x) hok.pos q1 q2 q3 q4 w)
  have HI := hide hs
  obtain ⟨L, hL⟩ : ∃ L, movesL r p = L := ⟨_, rfl⟩
  rw [hL] at Hmm hll HT HI
  clear hf hg hP hok hL hs
  go_enter Tryz.func5, Tryz.ntmps5
  go_upto_region 1 with (fail)
  obtain ⟨w0, hw0⟩ : ∃ w0, (((W.alloc (.cells #[.int .i64 r.start.w, .int .i64 r.start.h, .string r.start.cells, .int .i64 r.start.turn, .string r.start.h0, .string r.start.h1, .slice A r.pieces.length cp, .bool r.drops, .int .u8 r.lose, .int .i64 r.line, .int .u8 r.reach, .bool r.stuck, .int .i64 r.plies] 27)).alloc (.cells #[.int .i64 p.w, .int .i64 p.h, .string p.cells, .int .i64 p.turn, .string p.h0, .string p.h1] 24)).alloc (.cells #[.int .i64 0, .int .i64 0, .int .u8 0] 29)) = w0 := ⟨_, rfl⟩
  rw [hw0] at Hst ⊢
  clear hw0
  obtain ⟨x0, x1, x2, x3, x4, x5, x6, x7, x8, x9, x10, x11, x12⟩ := Hst.out.r.rules
  obtain ⟨p0, p1, p2, p3, p4, p5⟩ := Hst.out.p.pos6
  go_upto_region 4 with (go_at_call 12; refine (Hmm.out _ Hst.out.later).mono ?_; rintro e w2 ⟨A', c', rfl, hc2, hw2⟩)
  have Hst2 := hide (Hst.out.later_ hw2)
  have Hc2 := hide hc2
  clear hw2 hc2 Hst x0 x1 x2 x3 x4 x5 x6 x7 x8 x9 x10 x11 x12 p0 p1 p2 p3 p4 p5 Hmm
  go_wp2_with fail
  go_loopw [24] (fun kv wr => ∃ k : Nat, k ≤ L.length ∧ kv = .int .i64 (k : Int) ∧ Later w2 wr) (fun kv _ => L.length - (intOf kv).toNat)
  case atStart => exact ⟨0, by omega, rfl, Later.rfl⟩
  case round =>
    rename World => wr
    obtain ⟨k, hk, rfl, hw⟩ := hrel
    have Hstr := hide (Hst2.out.later_ hw)
    have Hcr := hide ((Hc2.out.below hw).more hw.size)
    have Hwr := hide hw
    clear hw
    by_cases hlt : k < L.length
    · have t1 : decide ((k : Int) < (L.length : Int)) = true := by simp; omega
      have t1n : decide (k < L.length) = true := by simp; omega
      obtain ⟨b, off, rfl, hb, y0, y1, y2⟩ := mv_at Hcr.out hlt
      have HTx := hide (fun w => HT.out L[k] (List.getElem_mem hlt) w)
      have HIx := hide (HI.out L[k] (List.getElem_mem hlt))
      obtain ⟨x, hx⟩ : ∃ x, L[k] = x := ⟨_, rfl⟩
      rw [hx] at y0 y1 y2
      simp only [hx] at HTx HIx
      clear hx
      go_upto_region 7 with (fail)
      have hla : Later wr (wr.alloc (.cells #[.int .i64 x.f, .int .i64 x.t, .int .u8 x.c] 29)) := Later.rfl.alloc _
      have Hxa := hide (Blk.new wr 29 #[.int .i64 x.f, .int .i64 x.t, .int .u8 x.c])
      have Hsta := hide (Hstr.out.later_ hla)
      have Hwa := hide (Hwr.out.trans hla)
      obtain ⟨gx, hgx⟩ : ∃ gx, wr.heap.size = gx := ⟨_, rfl⟩
      obtain ⟨wa, hwa⟩ : ∃ wa, wr.alloc (.cells #[.int .i64 x.f, .int .i64 x.t, .int .u8 x.c] 29) = wa := ⟨_, rfl⟩
      rw [hwa] at Hxa Hsta Hwa ⊢
      rw [hgx] at Hxa ⊢
      clear hwa hgx hla y0 y1 y2 Hstr Hwr
      obtain ⟨⟨m0, m1, m2⟩, -⟩ := Hxa.out.mv
      obtain ⟨p0, p1, p2, p3, p4, p5⟩ := Hsta.out.p.pos6
      obtain ⟨sx, hsx⟩ : ∃ sx, bytes (textL p x) = sx := ⟨_, rfl⟩
      rw [hsx] at HTx HIx
      clear hsx
      have tb : (sx.toList == s.toList) = false := by rw [toListB]; exact decide_eq_false HIx.out
      go_wp2_with (go_at_call 14; refine (HTx.out _).mono ?_; rintro e w8 ⟨rfl, hw8⟩)
      go_roundw
      case rel => exact ⟨k + 1, by omega, by go_num, Hwa.out.trans hw8⟩
      case measure => simp [intOf]; omega
    · obtain rfl : L.length = k := by omega
      have t1 : decide ((L.length : Int) < (L.length : Int)) = false := by simp
      have t1n : decide (L.length < L.length) = false := by simp
      obtain ⟨⟨z0, z1, z2⟩, -⟩ := Hstr.out.m.mv
      have f0 := Hstr.out.m.free 0
      have f1 := Hstr.out.m.free 1
      have f2 := Hstr.out.m.free 2
      have HL := hide Hstr.out.later
      clear Hstr
      go_wp2_with fail
      refine bodyPost_ret (v := .tuple #[.agg #[.int .i64 0, .int .i64 0, .int .u8 0], .int .i64 5]) (by simp [results, Tryz.results5, go_sem, z0, z1, z2]) rfl ⟨rfl, ?_⟩
      repeat (first | with_reducible exact HL.out | (with_reducible refine Later.set ?_ (by simp; omega) _))
set_option maxHeartbeats 4000000 in
set_option maxRecDepth 100000 in
theorem count_no (r : RulesD) (A : Option Addr) (cp : Nat) (p : Pos) (d : Int) (W : World) (hf : RFit r) (hg : PFit p) (hP : PiecesAt W W.heap.size A r.pieces) (hno : ¬ OfOk r p) :
    Calls Tryz.prog 6 #[.agg #[.int .i64 r.start.w, .int .i64 r.start.h, .string r.start.cells, .int .i64 r.start.turn, .string r.start.h0, .string r.start.h1, .slice A r.pieces.length cp, .bool r.drops, .int .u8 r.lose, .int .i64 r.line, .int .u8 r.reach, .bool r.stuck, .int .i64 r.plies], .agg #[.int .i64 p.w, .int .i64 p.h, .string p.cells, .int .i64 p.turn, .string p.h0, .string p.h1], .int .i64 d] W fun e w' => e = .returned (.tuple #[.int .i64 0, .int .i64 1]) ∧ Later W w' := by
  have Hw := hide (show Later W ((W.alloc (.cells #[.int .i64 r.start.w, .int .i64 r.start.h, .string r.start.cells, .int .i64 r.start.turn, .string r.start.h0, .string r.start.h1, .slice A r.pieces.length cp, .bool r.drops, .int .u8 r.lose, .int .i64 r.line, .int .u8 r.reach, .bool r.stuck, .int .i64 r.plies] 27)).alloc (.cells #[.int .i64 p.w, .int .i64 p.h, .string p.cells, .int .i64 p.turn, .string p.h0, .string p.h1] 24)) from (Later.rfl.alloc _).alloc _)
  have Hof := hide (fun w (hw : Later W w) => mof_any r A cp p w hf hg ((hP.below hw).more hw.size))
  rw [ofB_false.2 hno, codeN_f] at Hof
  clear hf hg hP hno
  go_enter Tryz.func6, Tryz.ntmps6
  go_wp2_with (go_at_call 15; refine (Hof.out _ Hw.out).mono ?_; rintro e w1 ⟨rfl, hw1⟩)
  go_ret2
  exact ⟨rfl, Hw.out.trans hw1⟩
set_option maxHeartbeats 4000000 in
set_option maxRecDepth 100000 in
theorem count_range (r : RulesD) (A : Option Addr) (cp : Nat) (p : Pos) (d : Int) (W : World) (hf : RFit r) (hg : PFit p) (hP : PiecesAt W W.heap.size A r.pieces) (hok : OfOk r p) (hd : d < 0 ∨ 6 < d) :
    Calls Tryz.prog 6 #[.agg #[.int .i64 r.start.w, .int .i64 r.start.h, .string r.start.cells, .int .i64 r.start.turn, .string r.start.h0, .string r.start.h1, .slice A r.pieces.length cp, .bool r.drops, .int .u8 r.lose, .int .i64 r.line, .int .u8 r.reach, .bool r.stuck, .int .i64 r.plies], .agg #[.int .i64 p.w, .int .i64 p.h, .string p.cells, .int .i64 p.turn, .string p.h0, .string p.h1], .int .i64 d] W fun e w' => e = .returned (.tuple #[.int .i64 0, .int .i64 4]) ∧ Later W w' := by
  have Hw := hide (show Later W ((W.alloc (.cells #[.int .i64 r.start.w, .int .i64 r.start.h, .string r.start.cells, .int .i64 r.start.turn, .string r.start.h0, .string r.start.h1, .slice A r.pieces.length cp, .bool r.drops, .int .u8 r.lose, .int .i64 r.line, .int .u8 r.reach, .bool r.stuck, .int .i64 r.plies] 27)).alloc (.cells #[.int .i64 p.w, .int .i64 p.h, .string p.cells, .int .i64 p.turn, .string p.h0, .string p.h1] 24)) from (Later.rfl.alloc _).alloc _)
  have Hof := hide (fun w (hw : Later W w) => mof_any r A cp p w hf hg ((hP.below hw).more hw.size))
  rw [ofB_true.2 hok, codeN_t] at Hof
  clear hf hg hP hok
  by_cases h0 : d < 0
  · have t1 : decide (d < 0) = true := decide_eq_true h0
    clear h0 hd
    go_enter Tryz.func6, Tryz.ntmps6
    go_wp2_with (go_at_call 15; refine (Hof.out _ Hw.out).mono ?_; rintro e w1 ⟨rfl, hw1⟩)
    go_ret2
    exact ⟨rfl, Hw.out.trans hw1⟩
  · have t1 : decide (d < 0) = false := decide_eq_false h0
    have t2 : decide (6 < d) = true := decide_eq_true (by omega)
    clear h0 hd
    go_enter Tryz.func6, Tryz.ntmps6
    go_wp2_with (go_at_call 15; refine (Hof.out _ Hw.out).mono ?_; rintro e w1 ⟨rfl, hw1⟩)
    go_ret2
    exact ⟨rfl, Hw.out.trans hw1⟩
end Go.Proofs.YtdfegpohmaideaaGreatDoor
/- gameref.MoveText: the document's text of a move -/
namespace Go.Proofs.YtdfegpohmaideaaGreatDoor
open Go.RowKit

theorem World.drewN_later {w : World} (n : Nat) : Later w (w.drewN n) := Later.rfl.drewN n
theorem abc_cut : ∀ x : Nat, x < 8 → (⟨#[97, 98, 99, 100, 101, 102, 103, 104]⟩ : ByteArray).extract x (x + 1) = bytes [u8 (97 + x)] := by decide +kernel
theorem dig_one : ∀ y : Nat, y < 8 → (⟨(Lib.decDigits (y + 1)).toArray⟩ : ByteArray) = bytes [u8 (49 + y)] := by decide +kernel
theorem quiet_call {P : Program} {f : FuncId} {args : Array Value} {w : World} {n : Nat} {v : Value}
    (h : Calls P f args (w.drewN n) fun e w' => e = .returned v ∧ ∃ m, w' = (w.drewN n).drewN m) : Calls P f args (w.drewN n) fun e w' => e = .returned v ∧ ∃ m, w' = w.drewN m :=
  h.mono fun _ _ ⟨h1, _, h2⟩ => ⟨h1, _, h2.trans (World.drewN_drewN _ _ _)⟩
set_option maxHeartbeats 4000000 in
set_option maxRecDepth 100000 in
theorem mtcell_any (p : Pos) (a gp : Nat) (W : World) (hp : PosOk p) (ha : a < p.cells.size) (hb : Blk W gp 24 #[.int .i64 p.w, .int .i64 p.h, .string p.cells, .int .i64 p.turn, .string p.h0, .string p.h1]) :
    Calls Tryz.prog 22 #[.int .i64 (a : Int), .pointer (some ⟨gp, 0, none⟩)] W fun e w' => e = .returned (.string (bytes (cellL p a))) ∧ ∃ n, w' = W.drewN n := by
  obtain ⟨n, m, hn, hm, n1, n8, m1, m8, hs, h64⟩ := pos_wh hp
  obtain ⟨p0, p1, p2, p3, p4, p5⟩ := hb.pos6
  rw [hn] at p0
  have hx : a % n < 8 := by have := Nat.mod_lt a (show n > 0 by omega); omega
  have hy : a / n < 8 := by
    rw [Nat.div_lt_iff_lt_mul (by omega)]
    have h1 : n * m ≤ n * 8 := Nat.mul_le_mul_left n m8
    have h2 := Nat.mul_comm n 8
    omega
  have HR := hide (show bytes (cellL p a) = bytes [u8 (97 + a % n)] ++ bytes [u8 (49 + a / n)] from by rw [bytes_cat]; unfold cellL; rw [hn]; simp)
  have ez : ((n : Int) == 0) = false := by simp; omega
  have ex := mod_eqn a n
  have ey := div_eqn a n
  obtain ⟨x, hxx⟩ : ∃ x, a % n = x := ⟨_, rfl⟩
  obtain ⟨y, hyy⟩ : ∃ y, a / n = y := ⟨_, rfl⟩
  rw [hxx] at hx ex HR
  rw [hyy] at hy ey HR
  have HI := hide (fun w => Tryz.strconv_Itoa_small (y + 1) (by omega) w)
  have HX := hide (abc_cut x hx)
  rw [dig_one y hy] at HI
  push_cast at HI
  clear hp hb hn hm hs hxx hyy
  go_enter Tryz.func22, Tryz.ntmps22
  go_wp2_with fail
  go_quiet ((go_at_call 23; exact quiet_call ((HI.out _).mono fun _ _ ⟨h1, h2⟩ => ⟨h1, 0, h2⟩)))
  go_wp2_with fail
  go_ret
  exact ⟨congrArg (fun b : ByteArray => Ending.returned (.string b)) ((congrArg (· ++ bytes [u8 (49 + y)]) HX.out).trans HR.out.symm), _, rfl⟩
theorem mt_hr1 (p : Pos) (c t : Nat) : (bytes [u8 c] ++ ⟨#[64]⟩) ++ bytes (cellL p t) = bytes ([u8 c, u8 64] ++ cellL p t) := by
  rw [show (⟨#[64]⟩ : ByteArray) = bytes [u8 64] from rfl, bytes_cat, bytes_cat]; rfl
theorem mt_hr2 (p : Pos) (c f t : Nat) (x : UInt8) : ((bytes [u8 c] ++ bytes (cellL p f)) ++ ⟨#[x]⟩) ++ bytes (cellL p t) = bytes ([u8 c] ++ cellL p f ++ [x] ++ cellL p t) := by
  rw [show (⟨#[x]⟩ : ByteArray) = bytes [x] from rfl, bytes_cat, bytes_cat, bytes_cat]
set_option maxHeartbeats 4000000 in
set_option maxRecDepth 100000 in
theorem movetext_drop (p : Pos) (c t : Nat) (W : World) (hp : PosOk p) (hc : c < 256) (ht : t < p.cells.size) :
    Calls Tryz.prog 10 #[.agg #[.int .i64 p.w, .int .i64 p.h, .string p.cells, .int .i64 p.turn, .string p.h0, .string p.h1], .agg #[.int .i64 (-1), .int .i64 (t : Int), .int .u8 (c : Int)]] W fun e w' => e = .returned (.string (bytes ([u8 c, u8 64] ++ cellL p t))) ∧ Later W w' := by
  have Hbp := hide ((Blk.new W 24 #[.int .i64 p.w, .int .i64 p.h, .string p.cells, .int .i64 p.turn, .string p.h0, .string p.h1]).alloc (.cells #[.int .i64 (-1), .int .i64 (t : Int), .int .u8 (c : Int)] 29))
  have hbm := (Blk.new (W.alloc (.cells #[.int .i64 p.w, .int .i64 p.h, .string p.cells, .int .i64 p.turn, .string p.h0, .string p.h1] 24)) 29 #[.int .i64 (-1), .int .i64 (t : Int), .int .u8 (c : Int)])
  rw [World.size_alloc] at hbm
  have Hbm := hide hbm
  have Hw := hide (show Later W ((W.alloc (.cells #[.int .i64 p.w, .int .i64 p.h, .string p.cells, .int .i64 p.turn, .string p.h0, .string p.h1] 24)).alloc (.cells #[.int .i64 (-1), .int .i64 (t : Int), .int .u8 (c : Int)] 29)) from (Later.rfl.alloc _).alloc _)
  have HC := hide (fun w (hb : Blk w W.heap.size 24 #[.int .i64 p.w, .int .i64 p.h, .string p.cells, .int .i64 p.turn, .string p.h0, .string p.h1]) => mtcell_any p t W.heap.size w hp ht hb)
  have HR := hide (mt_hr1 p c t)
  have s3 : (cellL p t).length = 2 := rfl
  clear hbm hp ht
  go_enter Tryz.func10, Tryz.ntmps10
  go_upto_region 1 with (fail)
  obtain ⟨w0, hw0⟩ : ∃ w0, (W.alloc (.cells #[.int .i64 p.w, .int .i64 p.h, .string p.cells, .int .i64 p.turn, .string p.h0, .string p.h1] 24)).alloc (.cells #[.int .i64 (-1), .int .i64 (t : Int), .int .u8 (c : Int)] 29) = w0 := ⟨_, rfl⟩
  rw [hw0] at Hbp Hbm Hw ⊢
  clear hw0
  obtain ⟨⟨m0, m1, m2⟩, -⟩ := Hbm.out.mv
  have hcv := conv_on c hc (Blk.new w0 5 #[.int .u8 (c : Int)])
  go_upto_region 3 with (fail)
  clear hcv m0 m1 m2 hc
  have hw1 := (Later.rfl (w := w0)).alloc (.cells #[.int .u8 (c : Int)] 5)
  have Hbp1 := hide (hw1.blk Hbp.out)
  have Hbm1 := hide (hw1.blk Hbm.out)
  have HL := hide (Hw.out.trans hw1)
  obtain ⟨w1, hww⟩ : ∃ w1, w0.alloc (.cells #[.int .u8 (c : Int)] 5) = w1 := ⟨_, rfl⟩
  rw [hww] at Hbp1 Hbm1 HL ⊢
  clear hww hw1 Hbp Hbm Hw
  obtain ⟨⟨m0, m1, m2⟩, -⟩ := Hbm1.out.mv
  go_wp2_with (go_at_call 22; refine (HC.out _ Hbp1.out).mono ?_; rintro e w2 ⟨rfl, n2, rfl⟩)
  go_ret
  exact ⟨congrArg (fun b : ByteArray => Ending.returned (.string b)) HR.out, HL.out.drewN _⟩
set_option maxHeartbeats 4000000 in
set_option maxRecDepth 100000 in
theorem movetext_board (p : Pos) (c f t : Nat) (W : World) (hp : PosOk p) (hc : c < 256) (ht : t < p.cells.size) (hfs : f < p.cells.size) :
    Calls Tryz.prog 10 #[.agg #[.int .i64 p.w, .int .i64 p.h, .string p.cells, .int .i64 p.turn, .string p.h0, .string p.h1], .agg #[.int .i64 (f : Int), .int .i64 (t : Int), .int .u8 (c : Int)]] W fun e w' => e = .returned (.string (bytes ([u8 c] ++ cellL p f ++ [if cellN p t = 46 then 45 else 120] ++ cellL p t))) ∧ Later W w' := by
  have Hbp := hide ((Blk.new W 24 #[.int .i64 p.w, .int .i64 p.h, .string p.cells, .int .i64 p.turn, .string p.h0, .string p.h1]).alloc (.cells #[.int .i64 (f : Int), .int .i64 (t : Int), .int .u8 (c : Int)] 29))
  have hbm := (Blk.new (W.alloc (.cells #[.int .i64 p.w, .int .i64 p.h, .string p.cells, .int .i64 p.turn, .string p.h0, .string p.h1] 24)) 29 #[.int .i64 (f : Int), .int .i64 (t : Int), .int .u8 (c : Int)])
  rw [World.size_alloc] at hbm
  have Hbm := hide hbm
  have Hw := hide (show Later W ((W.alloc (.cells #[.int .i64 p.w, .int .i64 p.h, .string p.cells, .int .i64 p.turn, .string p.h0, .string p.h1] 24)).alloc (.cells #[.int .i64 (f : Int), .int .i64 (t : Int), .int .u8 (c : Int)] 29)) from (Later.rfl.alloc _).alloc _)
  have HT := hide (fun w (hb : Blk w W.heap.size 24 #[.int .i64 p.w, .int .i64 p.h, .string p.cells, .int .i64 p.turn, .string p.h0, .string p.h1]) => mtcell_any p t W.heap.size w hp ht hb)
  have HF := hide (fun w (hb : Blk w W.heap.size 24 #[.int .i64 p.w, .int .i64 p.h, .string p.cells, .int .i64 p.turn, .string p.h0, .string p.h1]) => mtcell_any p f W.heap.size w hp hfs hb)
  have HR := hide (fun x => mt_hr2 p c f t x)
  have hsz := (posOk_size hp)
  have t1 : decide ((f : Int) < 0) = false := by simp
  have i6 : p.cells[t].toNat = cellN p t := by
    unfold cellN
    rw [getD_get (show t < p.cells.data.toList.length from ht)]
    rfl
  obtain ⟨y, hy⟩ : ∃ y, cellN p t = y := ⟨_, rfl⟩
  rw [hy] at i6 ⊢
  obtain ⟨T, hT⟩ : ∃ T, bytes ([u8 c] ++ cellL p f ++ [if y = 46 then 45 else 120] ++ cellL p t) = T := ⟨_, rfl⟩
  rw [hT]
  have HT1 := hide (fun h : y = 46 => show ((bytes [u8 c] ++ bytes (cellL p f)) ++ ⟨#[45]⟩) ++ bytes (cellL p t) = T by rw [← hT, if_pos h]; exact HR.out 45)
  have HT2 := hide (fun h : ¬ y = 46 => show ((bytes [u8 c] ++ bytes (cellL p f)) ++ ⟨#[120]⟩) ++ bytes (cellL p t) = T by rw [← hT, if_neg h]; exact HR.out 120)
  clear hT
  have ti : (t : Int) < (p.cells.size : Int) := by omega
  have s3 : (cellL p t).length = 2 := rfl
  have s4 : (cellL p f).length = 2 := rfl
  clear hbm hp hfs hy
  go_enter Tryz.func10, Tryz.ntmps10
  go_upto_region 1 with (fail)
  obtain ⟨w0, hw0⟩ : ∃ w0, (W.alloc (.cells #[.int .i64 p.w, .int .i64 p.h, .string p.cells, .int .i64 p.turn, .string p.h0, .string p.h1] 24)).alloc (.cells #[.int .i64 (f : Int), .int .i64 (t : Int), .int .u8 (c : Int)] 29) = w0 := ⟨_, rfl⟩
  rw [hw0] at Hbp Hbm Hw ⊢
  clear hw0
  obtain ⟨⟨m0, m1, m2⟩, -⟩ := Hbm.out.mv
  have hcv := conv_on c hc (Blk.new w0 5 #[.int .u8 (c : Int)])
  go_upto_region 3 with (fail)
  clear hcv m0 m1 m2 hc
  have hw1 := (Later.rfl (w := w0)).alloc (.cells #[.int .u8 (c : Int)] 5)
  have Hbp1 := hide (hw1.blk Hbp.out)
  have Hbm1 := hide (hw1.blk Hbm.out)
  have HL := hide (Hw.out.trans hw1)
  obtain ⟨w1, hww⟩ : ∃ w1, w0.alloc (.cells #[.int .u8 (c : Int)] 5) = w1 := ⟨_, rfl⟩
  rw [hww] at Hbp1 Hbm1 HL ⊢
  clear hww hw1 Hbp Hbm Hw
  obtain ⟨⟨m0, m1, m2⟩, -⟩ := Hbm1.out.mv
  obtain ⟨p0, p1, p2, p3, p4, p5⟩ := Hbp1.out.pos6
  by_cases h46 : y = 46
  · have tb : ((y : Int) == 46) = true := by simp; omega
    have HX := hide (HT1.out h46)
    clear h46
    go_wp2_with fail
    go_quiet ((go_at_call 22; first | with_reducible exact quiet_call (HF.out _ (Hbp1.out.drewN _)) | with_reducible exact quiet_call (HT.out _ (Hbp1.out.drewN _))))
    go_wp2_with fail
    go_ret
    exact ⟨congrArg (fun b : ByteArray => Ending.returned (.string b)) HX.out, HL.out.drewN _⟩
  · have tb : ((y : Int) == 46) = false := by simp; omega
    have HX := hide (HT2.out h46)
    clear h46
    go_wp2_with fail
    go_quiet ((go_at_call 22; first | with_reducible exact quiet_call (HF.out _ (Hbp1.out.drewN _)) | with_reducible exact quiet_call (HT.out _ (Hbp1.out.drewN _))))
    go_wp2_with fail
    go_ret
    exact ⟨congrArg (fun b : ByteArray => Ending.returned (.string b)) HX.out, HL.out.drewN _⟩
theorem movetext_any {p : Pos} {m : Mv} (hp : PosOk p) (hc : m.c < 256) (h0 : 0 ≤ m.t) (ht : m.t.toNat < p.cells.size) (hf : m.f = -1 ∨ (0 ≤ m.f ∧ m.f.toNat < p.cells.size)) (W : World) :
    Calls Tryz.prog 10 #[.agg #[.int .i64 p.w, .int .i64 p.h, .string p.cells, .int .i64 p.turn, .string p.h0, .string p.h1], .agg #[.int .i64 m.f, .int .i64 m.t, .int .u8 (m.c : Int)]] W fun e w' => e = .returned (.string (bytes (textL p m))) ∧ Later W w' := by
  obtain ⟨f, t, c⟩ := m
  simp only at hc h0 ht hf ⊢
  obtain ⟨tn, rfl⟩ : ∃ tn : Nat, t = (tn : Int) := ⟨t.toNat, by omega⟩
  rw [Int.toNat_natCast] at ht
  rcases hf with rfl | ⟨hf0, hf1⟩
  · refine (movetext_drop p c tn W hp hc ht).mono fun e w' h => ⟨?_, h.2⟩
    rw [h.1, show textL p ⟨-1, (tn : Int), c⟩ = [u8 c, u8 64] ++ cellL p tn from if_pos (show (-1 : Int) < 0 by decide)]
  · obtain ⟨fn, rfl⟩ : ∃ fn : Nat, f = (fn : Int) := ⟨f.toNat, by omega⟩
    rw [Int.toNat_natCast] at hf1
    refine (movetext_board p c fn tn W hp hc ht hf1).mono fun e w' h => ⟨?_, h.2⟩
    rw [h.1, show textL p ⟨(fn : Int), (tn : Int), c⟩ = [u8 c] ++ cellL p fn ++ [if cellN p tn = 46 then 45 else 120] ++ cellL p tn from if_neg (show ¬ ((fn : Int) < 0) by omega)]
end Go.Proofs.YtdfegpohmaideaaGreatDoor
/- gameref.Paths: the document's count of ways, walked -/
namespace Go.Proofs.YtdfegpohmaideaaGreatDoor
open Go.RowKit

/-- the boxes of a call with rules and a position -/
structure PaSt (W : World) (R P : Array Value) (w : World) : Prop where
  r : Blk w W.heap.size 27 R
  p : Blk w (W.heap.size + 1) 24 P
  later : Later W w
theorem PaSt.later_ {W w w' : World} {R P : Array Value} (h : PaSt W R P w) (hw : Later w w') : PaSt W R P w' := ⟨hw.blk h.r, hw.blk h.p, h.later.trans hw⟩
theorem PaSt.first {W : World} {R P : Array Value} : PaSt W R P ((W.alloc (.cells R 27)).alloc (.cells P 24)) := by
  refine ⟨(Blk.new W _ R).alloc _, ?_, (Later.rfl.alloc _).alloc _⟩
  have := Blk.new (W.alloc (.cells R 27)) 24 P
  rwa [World.size_alloc] at this
set_option maxHeartbeats 4000000 in
set_option maxRecDepth 100000 in
theorem paths_zero (r : RulesD) (A : Option Addr) (cp : Nat) (p : Pos) (W : World) :
    Calls Tryz.prog 11 #[.agg #[.int .i64 r.start.w, .int .i64 r.start.h, .string r.start.cells, .int .i64 r.start.turn, .string r.start.h0, .string r.start.h1, .slice A r.pieces.length cp, .bool r.drops, .int .u8 r.lose, .int .i64 r.line, .int .u8 r.reach, .bool r.stuck, .int .i64 r.plies], .agg #[.int .i64 p.w, .int .i64 p.h, .string p.cells, .int .i64 p.turn, .string p.h0, .string p.h1], .int .i64 0] W fun e w' => e = .returned (.int .i64 1) ∧ Later W w' := by
  have Hst := hide (PaSt.first (W := W) (R := #[.int .i64 r.start.w, .int .i64 r.start.h, .string r.start.cells, .int .i64 r.start.turn, .string r.start.h0, .string r.start.h1, .slice A r.pieces.length cp, .bool r.drops, .int .u8 r.lose, .int .i64 r.line, .int .u8 r.reach, .bool r.stuck, .int .i64 r.plies]) (P := #[.int .i64 p.w, .int .i64 p.h, .string p.cells, .int .i64 p.turn, .string p.h0, .string p.h1]))
  go_enter Tryz.func11, Tryz.ntmps11
  go_wp2_with fail
  go_ret
  exact ⟨rfl, Hst.out.later⟩
set_option maxHeartbeats 16000000 in
set_option maxRecDepth 100000 in
theorem paths_succ (r : RulesD) (A : Option Addr) (cp : Nat) (d : Nat) (hd : d < 6) (p : Pos) (W : World) (hP : PiecesAt W W.heap.size A r.pieces) (hok : OfOk r p)
    (ih : ∀ q, OfOk r q → ∀ w, PiecesAt w w.heap.size A r.pieces → Calls Tryz.prog 11 #[.agg #[.int .i64 r.start.w, .int .i64 r.start.h, .string r.start.cells, .int .i64 r.start.turn, .string r.start.h0, .string r.start.h1, .slice A r.pieces.length cp, .bool r.drops, .int .u8 r.lose, .int .i64 r.line, .int .u8 r.reach, .bool r.stuck, .int .i64 r.plies], .agg #[.int .i64 q.w, .int .i64 q.h, .string q.cells, .int .i64 q.turn, .string q.h0, .string q.h1], .int .i64 (d : Int)] w fun e w' => e = .returned (.int .i64 (pathsN r d q : Int)) ∧ Later w w') :
    Calls Tryz.prog 11 #[.agg #[.int .i64 r.start.w, .int .i64 r.start.h, .string r.start.cells, .int .i64 r.start.turn, .string r.start.h0, .string r.start.h1, .slice A r.pieces.length cp, .bool r.drops, .int .u8 r.lose, .int .i64 r.line, .int .u8 r.reach, .bool r.stuck, .int .i64 r.plies], .agg #[.int .i64 p.w, .int .i64 p.h, .string p.cells, .int .i64 p.turn, .string p.h0, .string p.h1], .int .i64 ((d : Int) + 1)] W fun e w' => e = .returned (.int .i64 (pathsN r (d + 1) p : Int)) ∧ Later W w' := by
  have Hst := hide (PaSt.first (W := W) (R := #[.int .i64 r.start.w, .int .i64 r.start.h, .string r.start.cells, .int .i64 r.start.turn, .string r.start.h0, .string r.start.h1, .slice A r.pieces.length cp, .bool r.drops, .int .u8 r.lose, .int .i64 r.line, .int .u8 r.reach, .bool r.stuck, .int .i64 r.plies]) (P := #[.int .i64 p.w, .int .i64 p.h, .string p.cells, .int .i64 p.turn, .string p.h0, .string p.h1]))
  have Hmv := hide (fun w (hw : Later W w) => moves_any r A cp p w ((hok.pre hP).on hw))
  have Hmd := hide (fun m (hm : m ∈ movesL r p) q (hq : madeP r p m = q) w => made_any r A cp p m q w hok (moves_every hm) hq)
  have Hih := hide (fun q (hq : OfOk r q) w (hw : Later W w) => ih q hq w ((hP.below hw).more hw.size))
  have Hnx := hide (fun m (hm : m ∈ movesL r p) => (every_made hok (moves_every hm)).2)
  have Hle := hide (fun q => Nat.le_trans (paths_le r d q) (show 100000 * d + 1 ≤ 500001 by omega))
  have hll : (movesL r p).length ≤ 10000 := movesL_len hok.pos
  obtain ⟨f, hf⟩ : ∃ f, pathsN r d = f := ⟨_, rfl⟩
  have hR0 : sumTo f (nextL r p) 0 = pathsN r (d + 1) p := by rw [← hf]; rfl
  obtain ⟨R, hR⟩ : ∃ R, pathsN r (d + 1) p = R := ⟨_, rfl⟩
  rw [hR] at hR0 ⊢
  simp only [hf] at Hih Hle
  have hnl : nextL r p = (movesL r p).map (madeP r p) := rfl
  rw [hnl] at hR0
  obtain ⟨L, hL⟩ : ∃ L, movesL r p = L := ⟨_, rfl⟩
  rw [hL] at hll hR0
  simp only [hL] at Hmv Hmd Hnx
  have HR0 := hide hR0
  have tz : (((d : Int) + 1) == 0) = false := by simp; omega
  have tw : IntKind.i64.wrap ((d : Int) + 1 - 1) = (d : Int) := by rw [show (d : Int) + 1 - 1 = d by omega]; exact IntWalk.i64_in _ (by omega)
  have tw2 : IntKind.i64.wrap (d : Int) = (d : Int) := IntWalk.i64_in _ (by omega)
  clear hP hok ih hf hR hR0 hnl hL
  go_enter Tryz.func11, Tryz.ntmps11
  go_upto_region 1 with (fail)
  obtain ⟨w0, hw0⟩ : ∃ w0, (W.alloc (.cells #[.int .i64 r.start.w, .int .i64 r.start.h, .string r.start.cells, .int .i64 r.start.turn, .string r.start.h0, .string r.start.h1, .slice A r.pieces.length cp, .bool r.drops, .int .u8 r.lose, .int .i64 r.line, .int .u8 r.reach, .bool r.stuck, .int .i64 r.plies] 27)).alloc (.cells #[.int .i64 p.w, .int .i64 p.h, .string p.cells, .int .i64 p.turn, .string p.h0, .string p.h1] 24) = w0 := ⟨_, rfl⟩
  rw [hw0] at Hst ⊢
  clear hw0
  obtain ⟨x0, x1, x2, x3, x4, x5, x6, x7, x8, x9, x10, x11, x12⟩ := Hst.out.r.rules
  obtain ⟨p0, p1, p2, p3, p4, p5⟩ := Hst.out.p.pos6
  go_upto_region 5 with (go_at_call 8; refine (Hmv.out _ Hst.out.later).mono ?_; rintro e w2 ⟨A2, c2, rfl, -, hc2, -, hw2⟩)
  have Hst2 := hide (Hst.out.later_ hw2)
  have Hc2 := hide hc2
  clear hw2 hc2 Hst tz x0 x1 x2 x3 x4 x5 x6 x7 x8 x9 x10 x11 x12 p0 p1 p2 p3 p4 p5
  go_wp2_with fail
  go_loopw [7, 9] (fun nv kv wr => ∃ k n : Nat, k ≤ L.length ∧ nv = .int .i64 (n : Int) ∧ kv = .int .i64 (k : Int) ∧ sumTo f ((L.map (madeP r p)).drop k) n = R ∧ n ≤ 700000 ∧ Later w2 wr) (fun _ kv _ => L.length - (intOf kv).toNat)
  case atStart => exact ⟨0, 0, by omega, rfl, rfl, HR0.out, by omega, Later.rfl⟩
  case round =>
    rename World => wr
    obtain ⟨k, n, hk, rfl, rfl, hs, hn, hw⟩ := hrel
    have Hs := hide hs
    have Hstr := hide (Hst2.out.later_ hw)
    have Hcr := hide ((Hc2.out.below hw).more hw.size)
    have Hwr := hide hw
    clear hs hw
    by_cases hlt : k < L.length
    · have t1 : decide ((k : Int) < (L.length : Int)) = true := by simp; omega
      have t1n : decide (k < L.length) = true := by simp; omega
      by_cases hbig : n ≤ 100000
      · have t2 : decide ((n : Int) ≤ 100000) = true := by simp; omega
        have t2n : decide (n ≤ 100000) = true := by simp; omega
        obtain ⟨bm, om, rfl, hbm, y0, y1, y2⟩ := mv_at Hcr.out hlt
        have hk1 : (0 : Int) ≤ (k : Int) := by omega
        have hk2 : (k : Int) < (L.length : Int) := by omega
        have hm := List.getElem_mem hlt
        have hlt2 : k < (L.map (madeP r p)).length := by rw [List.length_map]; exact hlt
        have hs2 := Hs.out
        rw [sumTo_drop hbig hlt2, List.getElem_map] at hs2
        obtain ⟨m, hmm⟩ : ∃ m, L[k] = m := ⟨_, rfl⟩
        rw [hmm] at y0 y1 y2 hm hs2
        obtain ⟨q, hq⟩ : ∃ q, madeP r p m = q := ⟨_, rfl⟩
        rw [hq] at hs2
        have HmdM := hide (fun w => Hmd.out m hm q hq w)
        have hqo := Hnx.out m hm
        rw [hq] at hqo
        have HihQ := hide (fun w hw => Hih.out q hqo w hw)
        have hfq := Hle.out q
        obtain ⟨v, hv⟩ : ∃ v, f q = v := ⟨_, rfl⟩
        rw [hv] at hs2 hfq
        simp only [hv] at HihQ
        have Hs2 := hide hs2
        have tw3 : IntKind.i64.wrap ((n : Int) + (v : Int)) = ((n + v : Nat) : Int) := by rw [show (n : Int) + (v : Int) = ((n + v : Nat) : Int) by omega]; exact IntWalk.i64_in _ (by omega)
        have HS8 := hide (show ∀ w' : World, Later wr w' → (w'.cell? ⟨W.heap.size, 0, none⟩ = some (.int .i64 r.start.w) ∧ w'.cell? ⟨W.heap.size, 1, none⟩ = some (.int .i64 r.start.h) ∧ w'.cell? ⟨W.heap.size, 2, none⟩ = some (.string r.start.cells) ∧ w'.cell? ⟨W.heap.size, 3, none⟩ = some (.int .i64 r.start.turn) ∧ w'.cell? ⟨W.heap.size, 4, none⟩ = some (.string r.start.h0) ∧ w'.cell? ⟨W.heap.size, 5, none⟩ = some (.string r.start.h1) ∧ w'.cell? ⟨W.heap.size, 6, none⟩ = some (.slice A r.pieces.length cp) ∧ w'.cell? ⟨W.heap.size, 7, none⟩ = some (.bool r.drops) ∧ w'.cell? ⟨W.heap.size, 8, none⟩ = some (.int .u8 r.lose) ∧ w'.cell? ⟨W.heap.size, 9, none⟩ = some (.int .i64 r.line) ∧ w'.cell? ⟨W.heap.size, 10, none⟩ = some (.int .u8 r.reach) ∧ w'.cell? ⟨W.heap.size, 11, none⟩ = some (.bool r.stuck) ∧ w'.cell? ⟨W.heap.size, 12, none⟩ = some (.int .i64 r.plies) ∧ w'.cell? ⟨W.heap.size + 1, 0, none⟩ = some (.int .i64 p.w) ∧ w'.cell? ⟨W.heap.size + 1, 1, none⟩ = some (.int .i64 p.h) ∧ w'.cell? ⟨W.heap.size + 1, 2, none⟩ = some (.string p.cells) ∧ w'.cell? ⟨W.heap.size + 1, 3, none⟩ = some (.int .i64 p.turn) ∧ w'.cell? ⟨W.heap.size + 1, 4, none⟩ = some (.string p.h0) ∧ w'.cell? ⟨W.heap.size + 1, 5, none⟩ = some (.string p.h1) ∧ w'.cell? ⟨bm, om + k * 3, none⟩ = some (.int .i64 m.f) ∧ w'.cell? ⟨bm, om + k * 3 + 1, none⟩ = some (.int .i64 m.t) ∧ w'.cell? ⟨bm, om + k * 3 + 2, none⟩ = some (.int .u8 m.c)) from fun w' hw => by
          obtain ⟨x0, x1, x2, x3, x4, x5, x6, x7, x8, x9, x10, x11, x12⟩ := (hw.blk Hstr.out.r).rules
          obtain ⟨p0, p1, p2, p3, p4, p5⟩ := (hw.blk Hstr.out.p).pos6
          obtain ⟨b', o', hbb, -, z0, z1, z2⟩ := mv_at ((Hcr.out.below hw).more hw.size) hlt
          injection hbb with hbb
          injection hbb with hbb1 hbb2
          subst hbb1
          subst hbb2
          rw [hmm] at z0 z1 z2
          exact ⟨x0, x1, x2, x3, x4, x5, x6, x7, x8, x9, x10, x11, x12, p0, p1, p2, p3, p4, p5, z0, z1, z2⟩)
        have HC8 := hide (show Later W wr from Hst2.out.later.trans Hwr.out)
        clear hs2 hm hmm hq hqo hv y0 y1 y2 hlt2
        go_upto_region 8 with (fail)
        clear t1 t1n t2 t2n
        refine wp_region_held_drew (S := fun w' : World => (w'.cell? ⟨W.heap.size, 0, none⟩ = some (.int .i64 r.start.w) ∧ w'.cell? ⟨W.heap.size, 1, none⟩ = some (.int .i64 r.start.h) ∧ w'.cell? ⟨W.heap.size, 2, none⟩ = some (.string r.start.cells) ∧ w'.cell? ⟨W.heap.size, 3, none⟩ = some (.int .i64 r.start.turn) ∧ w'.cell? ⟨W.heap.size, 4, none⟩ = some (.string r.start.h0) ∧ w'.cell? ⟨W.heap.size, 5, none⟩ = some (.string r.start.h1) ∧ w'.cell? ⟨W.heap.size, 6, none⟩ = some (.slice A r.pieces.length cp) ∧ w'.cell? ⟨W.heap.size, 7, none⟩ = some (.bool r.drops) ∧ w'.cell? ⟨W.heap.size, 8, none⟩ = some (.int .u8 r.lose) ∧ w'.cell? ⟨W.heap.size, 9, none⟩ = some (.int .i64 r.line) ∧ w'.cell? ⟨W.heap.size, 10, none⟩ = some (.int .u8 r.reach) ∧ w'.cell? ⟨W.heap.size, 11, none⟩ = some (.bool r.stuck) ∧ w'.cell? ⟨W.heap.size, 12, none⟩ = some (.int .i64 r.plies) ∧ w'.cell? ⟨W.heap.size + 1, 0, none⟩ = some (.int .i64 p.w) ∧ w'.cell? ⟨W.heap.size + 1, 1, none⟩ = some (.int .i64 p.h) ∧ w'.cell? ⟨W.heap.size + 1, 2, none⟩ = some (.string p.cells) ∧ w'.cell? ⟨W.heap.size + 1, 3, none⟩ = some (.int .i64 p.turn) ∧ w'.cell? ⟨W.heap.size + 1, 4, none⟩ = some (.string p.h0) ∧ w'.cell? ⟨W.heap.size + 1, 5, none⟩ = some (.string p.h1) ∧ w'.cell? ⟨bm, om + k * 3, none⟩ = some (.int .i64 m.f) ∧ w'.cell? ⟨bm, om + k * 3 + 1, none⟩ = some (.int .i64 m.t) ∧ w'.cell? ⟨bm, om + k * 3 + 2, none⟩ = some (.int .u8 m.c))) (by kernel_rfl) (HS8.out _ Later.rfl.drew) (fun hHeld => ?_)
        refine wpAnyH_take (i := 0) (oi := ⟨some 25, _, _, _, _, _⟩) (v := ?_) rfl (by kernel_rfl) (by kernel_rfl) (by kernel_rfl) (fun _ _ _ h => h) (Or.inl ⟨by rfl, ?_⟩) (by assumption) ?_
        rotate_left 1
        · intro w hSw
          try dsimp only at hSw
          go_simp <;> with_reducible rfl
        try simp only [Act.put, List.setIfInBounds_toArray, List.set_cons_zero, List.set_cons_succ]
        refine wpAnyH_take (i := 1) (oi := ⟨some 26, _, _, _, _, _⟩) (v := ?_) rfl (by kernel_rfl) (by kernel_rfl) (by kernel_rfl) (fun _ _ _ h => h) (Or.inl ⟨by rfl, ?_⟩) (by assumption) ?_
        rotate_left 1
        · intro w hSw
          try dsimp only at hSw
          go_simp <;> with_reducible rfl
        try simp only [Act.put, List.setIfInBounds_toArray, List.set_cons_zero, List.set_cons_succ]
        refine wpAnyH_take (i := 2) (oi := ⟨some 27, _, _, _, _, _⟩) (v := ?_) rfl (by kernel_rfl) (by kernel_rfl) (by kernel_rfl) (fun _ _ _ h => h) (Or.inl ⟨by rfl, ?_⟩) (by assumption) ?_
        rotate_left 1
        · intro w hSw
          try dsimp only at hSw
          go_simp <;> with_reducible rfl
        try simp only [Act.put, List.setIfInBounds_toArray, List.set_cons_zero, List.set_cons_succ]
        refine wpAnyH_take (i := 3) (oi := ⟨some 28, _, _, _, _, _⟩) (v := ?_) rfl (by kernel_rfl) (by kernel_rfl) (by kernel_rfl) (fun _ _ _ h => h) (Or.inl ⟨by rfl, ?_⟩) (by assumption) ?_
        rotate_left 1
        · intro w hSw
          try dsimp only at hSw
          go_simp <;> with_reducible rfl
        try simp only [Act.put, List.setIfInBounds_toArray, List.set_cons_zero, List.set_cons_succ]
        refine wpAnyH_take (i := 4) (oi := ⟨some 29, _, _, _, _, _⟩) (v := ?_) rfl (by kernel_rfl) (by kernel_rfl) (by kernel_rfl) (fun _ _ _ h => h) (Or.inl ⟨by rfl, ?_⟩) (by assumption) ?_
        rotate_left 1
        · intro w hSw
          try dsimp only at hSw
          go_simp <;> with_reducible rfl
        try simp only [Act.put, List.setIfInBounds_toArray, List.set_cons_zero, List.set_cons_succ]
        refine wpAnyH_take (i := 5) (oi := ⟨some 30, _, _, _, _, _⟩) (v := ?_) rfl (by kernel_rfl) (by kernel_rfl) (by kernel_rfl) (fun _ _ _ h => h) (Or.inl ⟨by rfl, ?_⟩) (by assumption) ?_
        rotate_left 1
        · intro w hSw
          try dsimp only at hSw
          go_simp <;> with_reducible rfl
        try simp only [Act.put, List.setIfInBounds_toArray, List.set_cons_zero, List.set_cons_succ]
        refine wpAnyH_take (i := 6) (oi := ⟨some 31, _, _, _, _, _⟩) (v := ?_) rfl (by kernel_rfl) (by kernel_rfl) (by kernel_rfl) (fun _ _ _ h => h) (Or.inl ⟨by rfl, ?_⟩) (by assumption) ?_
        rotate_left 1
        · intro w hSw
          try dsimp only at hSw
          go_simp <;> with_reducible rfl
        try simp only [Act.put, List.setIfInBounds_toArray, List.set_cons_zero, List.set_cons_succ]
        refine wpAnyH_take (i := 7) (oi := ⟨some 32, _, _, _, _, _⟩) (v := ?_) rfl (by kernel_rfl) (by kernel_rfl) (by kernel_rfl) (fun _ _ _ h => h) (Or.inl ⟨by rfl, ?_⟩) (by assumption) ?_
        rotate_left 1
        · intro w hSw
          try dsimp only at hSw
          go_simp <;> with_reducible rfl
        try simp only [Act.put, List.setIfInBounds_toArray, List.set_cons_zero, List.set_cons_succ]
        refine wpAnyH_take (i := 9) (oi := ⟨some 34, _, _, _, _, _⟩) (v := ?_) rfl (by kernel_rfl) (by kernel_rfl) (by kernel_rfl) (fun _ _ _ h => h) (Or.inl ⟨by rfl, ?_⟩) (by assumption) ?_
        rotate_left 1
        · intro w hSw
          try dsimp only at hSw
          go_simp <;> with_reducible rfl
        try simp only [Act.put, List.setIfInBounds_toArray, List.set_cons_zero, List.set_cons_succ]
        refine wpAnyH_take (i := 10) (oi := ⟨some 35, _, _, _, _, _⟩) (v := ?_) rfl (by kernel_rfl) (by kernel_rfl) (by kernel_rfl) (fun _ _ _ h => h) (Or.inl ⟨by rfl, ?_⟩) (by assumption) ?_
        rotate_left 1
        · intro w hSw
          try dsimp only at hSw
          go_simp <;> with_reducible rfl
        try simp only [Act.put, List.setIfInBounds_toArray, List.set_cons_zero, List.set_cons_succ]
        refine wpAnyH_ready (rs := [8]) (by kernel_rfl) (by simp) ?_
        refine AllReadyH.cons (o := ⟨some 33, _, _, _, _, _⟩) rfl (fun K hK => ?_) ?_
        · clear hHeld
          go_simp
          go_at_call 24
          refine (HmdM.out _).mono ?_
          rintro e wq ⟨rfl, hwx⟩
          have hwq : Later wr wq := Later.trans (by repeat (first | exact Later.rfl | refine Later.drew ?_)) hwx
          try go_wp2_with fail
          refine hK.out _ _ (by refine HS8.out _ ?_; repeat (first | exact Later.rfl | exact hwq | refine Later.drew ?_)) (fun hHeld => ?_)
          clear hK K
          try simp only [Act.put, List.setIfInBounds_toArray, List.set_cons_zero, List.set_cons_succ]
          refine wpAnyH_ready (rs := [11]) (by kernel_rfl) (by simp) ?_
          refine AllReadyH.cons (o := ⟨some 36, _, _, _, _, _⟩) rfl (fun K hK => ?_) ?_
          · clear hHeld
            go_simp
            go_at_call 11
            refine (HihQ.out _ (HC8.out.trans hwq)).mono ?_
            rintro e wt ⟨rfl, hwx⟩
            have hwq : Later wr wt := Later.trans hwq hwx
            try go_wp2_with fail
            refine hK.out _ _ (by refine HS8.out _ ?_; repeat (first | exact Later.rfl | exact hwq | refine Later.drew ?_)) (fun hHeld => ?_)
            clear hK K
            try simp only [Act.put, List.setIfInBounds_toArray, List.set_cons_zero, List.set_cons_succ]
            refine wpAnyH_take (i := 12) (oi := ⟨some 37, _, _, _, _, _⟩) (v := ?_) rfl (by kernel_rfl) (by kernel_rfl) (by kernel_rfl) (fun _ _ _ h => h) (Or.inl ⟨by rfl, ?_⟩) (by assumption) ?_
            rotate_left 1
            · intro w hSw
              try dsimp only at hSw
              go_simp <;> with_reducible rfl
            try simp only [Act.put, List.setIfInBounds_toArray, List.set_cons_zero, List.set_cons_succ]
            refine wpAnyH_take (i := 13) (oi := ⟨some 7, _, _, _, _, _⟩) (v := ?_) rfl (by kernel_rfl) (by kernel_rfl) (by kernel_rfl) (fun _ _ _ h => h) (Or.inl ⟨by rfl, ?_⟩) (by assumption) ?_
            rotate_left 1
            · intro w hSw
              try dsimp only at hSw
              go_simp <;> with_reducible rfl
            try simp only [Act.put, List.setIfInBounds_toArray, List.set_cons_zero, List.set_cons_succ]
            refine wpAnyH_done (by kernel_rfl) ?_ _
            clear tw tw2 tw3
            go_wp2_with fail
            go_roundw
            case rel => exact ⟨k + 1, n + v, by omega, by go_num, by go_num, Hs2.out, by omega, Hwr.out.trans hwq⟩
            case measure => simp [intOf]; omega
          exact AllReadyH.nil
        exact AllReadyH.nil
      · have t2 : decide ((n : Int) ≤ 100000) = false := by simp; omega
        have t2n : decide (n ≤ 100000) = false := by simp; omega
        have HE := hide (show R = n from Hs.out.symm.trans (sumTo_big (by omega)))
        go_wp2_with fail
        go_ret
        exact ⟨by rw [HE.out] <;> rfl, Hstr.out.later⟩
    · obtain rfl : L.length = k := by omega
      have t1 : decide ((L.length : Int) < (L.length : Int)) = false := by simp
      have t1n : decide (L.length < L.length) = false := by simp
      have HE := hide (show R = n from Hs.out.symm.trans (by rw [show L.length = (L.map (madeP r p)).length by simp]; exact sumTo_end))
      go_wp2_with fail
      go_ret
      exact ⟨by rw [HE.out] <;> rfl, Hstr.out.later⟩
theorem paths_any (r : RulesD) (A : Option Addr) (cp : Nat) : ∀ (d : Nat), d ≤ 6 → ∀ (p : Pos), OfOk r p → ∀ (W : World), PiecesAt W W.heap.size A r.pieces →
    Calls Tryz.prog 11 #[.agg #[.int .i64 r.start.w, .int .i64 r.start.h, .string r.start.cells, .int .i64 r.start.turn, .string r.start.h0, .string r.start.h1, .slice A r.pieces.length cp, .bool r.drops, .int .u8 r.lose, .int .i64 r.line, .int .u8 r.reach, .bool r.stuck, .int .i64 r.plies], .agg #[.int .i64 p.w, .int .i64 p.h, .string p.cells, .int .i64 p.turn, .string p.h0, .string p.h1], .int .i64 (d : Int)] W fun e w' => e = .returned (.int .i64 (pathsN r d p : Int)) ∧ Later W w'
  | 0, _, p, _, W, _ => paths_zero r A cp p W
  | d + 1, hd, p, hok, W, hP => by
    have := paths_succ r A cp d (by omega) p W hP hok (fun q hq w hw => paths_any r A cp d (by omega) q hq w hw)
    rw [show ((d + 1 : Nat) : Int) = (d : Int) + 1 by omega]
    exact this
end Go.Proofs.YtdfegpohmaideaaGreatDoor
/- gamelaw.MovesTexts, walked -/
namespace Go.Proofs.YtdfegpohmaideaaGreatDoor
open Go.RowKit Go.Shelf

/-- what the document has found among the first moves -/
def WantS (p : Pos) (s : ByteArray) (L : List Mv) (k : Nat) (x : Mv) (g2 : Int) : Prop :=
  (x = ⟨0, 0, 0⟩ ∧ g2 = 5 ∧ ∀ j (h : j < L.length), j < k → bytes (textL p L[j]) ≠ s) ∨ (x ∈ L ∧ g2 = 0 ∧ bytes (textL p x) = s)
theorem WantS.next {p : Pos} {s : ByteArray} {L : List Mv} {k : Nat} {x : Mv} {g2 : Int} (hk : k < L.length) (h : WantS p s L k x g2) :
    (bytes (textL p L[k]) = s → WantS p s L (k + 1) L[k] 0) ∧ (bytes (textL p L[k]) ≠ s → WantS p s L (k + 1) x g2) := by
  refine ⟨fun e => .inr ⟨List.getElem_mem hk, rfl, e⟩, fun e => ?_⟩
  rcases h with ⟨h1, h2, h3⟩ | h
  · refine .inl ⟨h1, h2, fun j hj hlt => ?_⟩
    by_cases e2 : j = k
    · subst e2; exact e
    · exact h3 j hj (by omega)
  · exact .inr h
theorem WantS.final {p : Pos} {s : ByteArray} {L : List Mv} {x a : Mv} {g2 f : Int} (hin : ∀ x y, x ∈ L → y ∈ L → bytes (textL p x) = bytes (textL p y) → x = y)
    (h : WantS p s L L.length x g2) (h2 : (a ∈ L ∧ f = 0 ∧ bytes (textL p a) = s) ∨ (a = ⟨0, 0, 0⟩ ∧ f = 5 ∧ ∀ y ∈ L, bytes (textL p y) ≠ s)) : a = x ∧ f = g2 := by
  rcases h with ⟨h1, h3, h4⟩ | ⟨h1, h3, h4⟩ <;> rcases h2 with ⟨k1, k2, k3⟩ | ⟨k1, k2, k3⟩
  · obtain ⟨j, hj, e⟩ := List.getElem_of_mem k1
    exact absurd (e ▸ k3) (h4 j hj hj)
  · exact ⟨k1.trans h1.symm, k2.trans h3.symm⟩
  · exact ⟨hin _ _ k1 h1 (k3.trans h4.symm), k2.trans h3.symm⟩
  · exact absurd h4 (k3 x h1)
set_option maxHeartbeats 4000000 in
set_option maxRecDepth 100000 in
theorem mt_no (r : RulesD) (A : Option Addr) (cp : Nat) (p : Pos) (m : Mv) (s : ByteArray) (dp : Int) (W : World) (hf : RFit r) (hg : PFit p) (hP : PiecesAt W W.heap.size A r.pieces) (hno : ¬ OfOk r p) :
    Calls Tryz.prog 3 #[.agg #[.int .i64 r.start.w, .int .i64 r.start.h, .string r.start.cells, .int .i64 r.start.turn, .string r.start.h0, .string r.start.h1, .slice A r.pieces.length cp, .bool r.drops, .int .u8 r.lose, .int .i64 r.line, .int .u8 r.reach, .bool r.stuck, .int .i64 r.plies], .agg #[.int .i64 p.w, .int .i64 p.h, .string p.cells, .int .i64 p.turn, .string p.h0, .string p.h1], .agg #[.int .i64 m.f, .int .i64 m.t, .int .u8 m.c], .string s, .int .i64 dp] W fun e w' => e = .returned (.bool true) ∧ Later W w' := by
  have Hst := hide (TxSt.first (W := W) (R := #[.int .i64 r.start.w, .int .i64 r.start.h, .string r.start.cells, .int .i64 r.start.turn, .string r.start.h0, .string r.start.h1, .slice A r.pieces.length cp, .bool r.drops, .int .u8 r.lose, .int .i64 r.line, .int .u8 r.reach, .bool r.stuck, .int .i64 r.plies]) (P := #[.int .i64 p.w, .int .i64 p.h, .string p.cells, .int .i64 p.turn, .string p.h0, .string p.h1]) (M := #[.int .i64 m.f, .int .i64 m.t, .int .u8 m.c]))
  have Htx := hide (fun w (hw : Later W w) => mtext_no r A cp p m w hf hg ((hP.below hw).more hw.size) hno)
  have Hrd := hide (fun w (hw : Later W w) => mread_no r A cp p s w hf hg ((hP.below hw).more hw.size) hno)
  have Hct := hide (fun w (hw : Later W w) => count_no r A cp p dp w hf hg ((hP.below hw).more hw.size) hno)
  have Hof := hide (fun w (hw : Later W w) => gof_any r A cp p w hf hg ((hP.below hw).more hw.size))
  rw [ofB_false.2 hno] at Hof
  clear hf hg hP hno
  go_enter Tryz.func3, Tryz.ntmps3
  go_upto_region 1 with (fail)
  obtain ⟨w0, hw0⟩ : ∃ w0, (((W.alloc (.cells #[.int .i64 r.start.w, .int .i64 r.start.h, .string r.start.cells, .int .i64 r.start.turn, .string r.start.h0, .string r.start.h1, .slice A r.pieces.length cp, .bool r.drops, .int .u8 r.lose, .int .i64 r.line, .int .u8 r.reach, .bool r.stuck, .int .i64 r.plies] 27)).alloc (.cells #[.int .i64 p.w, .int .i64 p.h, .string p.cells, .int .i64 p.turn, .string p.h0, .string p.h1] 24)).alloc (.cells #[.int .i64 m.f, .int .i64 m.t, .int .u8 m.c] 29)) = w0 := ⟨_, rfl⟩
  rw [hw0] at Hst ⊢
  clear hw0
  obtain ⟨x0, x1, x2, x3, x4, x5, x6, x7, x8, x9, x10, x11, x12⟩ := Hst.out.r.rules
  obtain ⟨p0, p1, p2, p3, p4, p5⟩ := Hst.out.p.pos6
  obtain ⟨⟨m0, m1, m2⟩, -⟩ := Hst.out.m.mv
  go_upto_region 2 with (go_at_call 4; refine (Htx.out _ Hst.out.later).mono ?_; rintro e w1 ⟨rfl, hw1⟩)
  have Hst1 := hide (Hst.out.later_ hw1)
  clear hw1 Hst x0 x1 x2 x3 x4 x5 x6 x7 x8 x9 x10 x11 x12 p0 p1 p2 p3 p4 p5 m0 m1 m2
  obtain ⟨x0, x1, x2, x3, x4, x5, x6, x7, x8, x9, x10, x11, x12⟩ := Hst1.out.r.rules
  obtain ⟨p0, p1, p2, p3, p4, p5⟩ := Hst1.out.p.pos6
  go_upto_region 3 with (go_at_call 5; refine (Hrd.out _ Hst1.out.later).mono ?_; rintro e w2 ⟨rfl, hw2⟩)
  have hst := Hst1.out.later_ (hw2.alloc (.cells #[.int .i64 0, .int .i64 0, .int .u8 0] 29))
  have hb := Blk.new w2 29 #[.int .i64 0, .int .i64 0, .int .u8 0]
  obtain ⟨ga, hga⟩ : ∃ g, w2.heap.size = g := ⟨_, rfl⟩
  obtain ⟨v2, hv2⟩ : ∃ v, w2.alloc (.cells #[.int .i64 0, .int .i64 0, .int .u8 0] 29) = v := ⟨_, rfl⟩
  rw [hv2] at hst hb ⊢
  rw [hga] at hb ⊢
  have Hst2 := hide hst
  have Ha2 := hide hb
  clear hst hb hw2 hv2 hga Hst1 x0 x1 x2 x3 x4 x5 x6 x7 x8 x9 x10 x11 x12 p0 p1 p2 p3 p4 p5
  obtain ⟨x0, x1, x2, x3, x4, x5, x6, x7, x8, x9, x10, x11, x12⟩ := Hst2.out.r.rules
  obtain ⟨p0, p1, p2, p3, p4, p5⟩ := Hst2.out.p.pos6
  go_upto_region 4 with (go_at_call 6; refine (Hct.out _ Hst2.out.later).mono ?_; rintro e w3 ⟨rfl, hw3⟩)
  have Hst3 := hide (Hst2.out.later_ hw3)
  have Ha3 := hide (hw3.blk Ha2.out)
  clear hw3 Hst2 Ha2 x0 x1 x2 x3 x4 x5 x6 x7 x8 x9 x10 x11 x12 p0 p1 p2 p3 p4 p5
  obtain ⟨x0, x1, x2, x3, x4, x5, x6, x7, x8, x9, x10, x11, x12⟩ := Hst3.out.r.rules
  obtain ⟨p0, p1, p2, p3, p4, p5⟩ := Hst3.out.p.pos6
  go_upto_region 5 with (go_at_call 7; refine (Hof.out _ Hst3.out.later).mono ?_; rintro e w4 ⟨rfl, hw4⟩)
  have HL := hide (Hst3.out.later.trans hw4)
  obtain ⟨⟨z0, z1, z2⟩, -⟩ := (hw4.blk Ha3.out).mv
  clear hw4 Hst3 Ha3 x0 x1 x2 x3 x4 x5 x6 x7 x8 x9 x10 x11 x12 p0 p1 p2 p3 p4 p5
  have heq := fun w => eqM.1 (⟨0, 0, 0⟩ : Mv) ⟨0, 0, 0⟩ w
  have hgd := fun op a b w => eqM.2 op a b (⟨0, 0, 0⟩ : Mv) ⟨0, 0, 0⟩ w
  simp [encM] at heq hgd
  go_wp2_with fail
  go_ret
  exact ⟨rfl, HL.out⟩
set_option maxHeartbeats 16000000 in
set_option maxRecDepth 100000 in
theorem mt_ok (r : RulesD) (A : Option Addr) (cp : Nat) (p : Pos) (m : Mv) (s : ByteArray) (dp : Int) (W : World) (hf : RFit r) (hg : PFit p) (hP : PiecesAt W W.heap.size A r.pieces) (hok : OfOk r p) (t : ByteArray) (e0 : Int) (a : Mv) (f n g : Int)
    (Htx : Hid (∀ w, Later W w → Calls Tryz.prog 4 #[.agg #[.int .i64 r.start.w, .int .i64 r.start.h, .string r.start.cells, .int .i64 r.start.turn, .string r.start.h0, .string r.start.h1, .slice A r.pieces.length cp, .bool r.drops, .int .u8 r.lose, .int .i64 r.line, .int .u8 r.reach, .bool r.stuck, .int .i64 r.plies], .agg #[.int .i64 p.w, .int .i64 p.h, .string p.cells, .int .i64 p.turn, .string p.h0, .string p.h1], .agg #[.int .i64 m.f, .int .i64 m.t, .int .u8 m.c]] w fun e w' => e = .returned (.tuple #[.string t, .int .i64 e0]) ∧ Later w w'))
    (Hrd : Hid (∀ w, Later W w → Calls Tryz.prog 5 #[.agg #[.int .i64 r.start.w, .int .i64 r.start.h, .string r.start.cells, .int .i64 r.start.turn, .string r.start.h0, .string r.start.h1, .slice A r.pieces.length cp, .bool r.drops, .int .u8 r.lose, .int .i64 r.line, .int .u8 r.reach, .bool r.stuck, .int .i64 r.plies], .agg #[.int .i64 p.w, .int .i64 p.h, .string p.cells, .int .i64 p.turn, .string p.h0, .string p.h1], .string s] w fun e w' => e = .returned (.tuple #[.agg #[.int .i64 a.f, .int .i64 a.t, .int .u8 a.c], .int .i64 f]) ∧ Later w w'))
    (Hct : Hid (∀ w, Later W w → Calls Tryz.prog 6 #[.agg #[.int .i64 r.start.w, .int .i64 r.start.h, .string r.start.cells, .int .i64 r.start.turn, .string r.start.h0, .string r.start.h1, .slice A r.pieces.length cp, .bool r.drops, .int .u8 r.lose, .int .i64 r.line, .int .u8 r.reach, .bool r.stuck, .int .i64 r.plies], .agg #[.int .i64 p.w, .int .i64 p.h, .string p.cells, .int .i64 p.turn, .string p.h0, .string p.h1], .int .i64 dp] w fun e w' => e = .returned (.tuple #[.int .i64 n, .int .i64 g]) ∧ Later w w'))
    (h1 : (m ∈ movesL r p ∧ e0 = 0 ∧ t = bytes (textL p m)) ∨ (m ∉ movesL r p ∧ e0 = 5 ∧ t = ⟨#[]⟩))
    (h2 : (a ∈ movesL r p ∧ f = 0 ∧ bytes (textL p a) = s) ∨ (a = ⟨0, 0, 0⟩ ∧ f = 5 ∧ ∀ y ∈ movesL r p, bytes (textL p y) ≠ s))
    (h3 : ((dp < 0 ∨ 6 < dp) ∧ n = 0 ∧ g = 4) ∨ ∃ d : Nat, d ≤ 6 ∧ dp = d ∧ n = (countA r p d).1 ∧ g = (countA r p d).2) :
    Calls Tryz.prog 3 #[.agg #[.int .i64 r.start.w, .int .i64 r.start.h, .string r.start.cells, .int .i64 r.start.turn, .string r.start.h0, .string r.start.h1, .slice A r.pieces.length cp, .bool r.drops, .int .u8 r.lose, .int .i64 r.line, .int .u8 r.reach, .bool r.stuck, .int .i64 r.plies], .agg #[.int .i64 p.w, .int .i64 p.h, .string p.cells, .int .i64 p.turn, .string p.h0, .string p.h1], .agg #[.int .i64 m.f, .int .i64 m.t, .int .u8 m.c], .string s, .int .i64 dp] W fun e w' => e = .returned (.bool true) ∧ Later W w' := by
  have Hst := hide (TxSt.first (W := W) (R := #[.int .i64 r.start.w, .int .i64 r.start.h, .string r.start.cells, .int .i64 r.start.turn, .string r.start.h0, .string r.start.h1, .slice A r.pieces.length cp, .bool r.drops, .int .u8 r.lose, .int .i64 r.line, .int .u8 r.reach, .bool r.stuck, .int .i64 r.plies]) (P := #[.int .i64 p.w, .int .i64 p.h, .string p.cells, .int .i64 p.turn, .string p.h0, .string p.h1]) (M := #[.int .i64 m.f, .int .i64 m.t, .int .u8 m.c]))
  have Hof := hide (fun w (hw : Later W w) => gof_any r A cp p w hf hg ((hP.below hw).more hw.size))
  rw [ofB_true.2 hok] at Hof
  have Hmv := hide (fun w (hw : Later W w) => moves_any r A cp p w ((hok.pre hP).on hw))
  have Hpa := hide (fun (d : Nat) (hd : d ≤ 6) w (hw : Later W w) => paths_any r A cp d hd p hok w ((hP.below hw).more hw.size))
  have hll : (movesL r p).length ≤ 10000 := movesL_len hok.pos
  have Hmt := hide (fun (x : Mv) (hx : x ∈ movesL r p) w => by
      obtain ⟨q1, q2, q3, q4⟩ := every_parts hok (moves_every hx)
      exact movetext_any (m := x) hok.pos q1 q2 q3 q4 w)
  have Hin := hide (fun x y (hx : x ∈ movesL r p) (hy : y ∈ movesL r p) (h : bytes (textL p x) = bytes (textL p y)) => textL_inj hok (moves_every hx) (moves_every hy) (bytes_inj h))
  have Hnear := hide (fun j => paths_near r j p)
  have H1 := hide h1
  have H2 := hide h2
  have H3 := hide h3
  obtain ⟨L, hL⟩ : ∃ L, movesL r p = L := ⟨_, rfl⟩
  simp only [hL] at Hmv Hmt Hin H1 H2 hll
  clear hf hg hP hok hL h1 h2 h3
  go_enter Tryz.func3, Tryz.ntmps3
  go_upto_region 1 with (fail)
  obtain ⟨w0, hw0⟩ : ∃ w0, (((W.alloc (.cells #[.int .i64 r.start.w, .int .i64 r.start.h, .string r.start.cells, .int .i64 r.start.turn, .string r.start.h0, .string r.start.h1, .slice A r.pieces.length cp, .bool r.drops, .int .u8 r.lose, .int .i64 r.line, .int .u8 r.reach, .bool r.stuck, .int .i64 r.plies] 27)).alloc (.cells #[.int .i64 p.w, .int .i64 p.h, .string p.cells, .int .i64 p.turn, .string p.h0, .string p.h1] 24)).alloc (.cells #[.int .i64 m.f, .int .i64 m.t, .int .u8 m.c] 29)) = w0 := ⟨_, rfl⟩
  rw [hw0] at Hst ⊢
  clear hw0
  obtain ⟨x0, x1, x2, x3, x4, x5, x6, x7, x8, x9, x10, x11, x12⟩ := Hst.out.r.rules
  obtain ⟨p0, p1, p2, p3, p4, p5⟩ := Hst.out.p.pos6
  obtain ⟨⟨m0, m1, m2⟩, -⟩ := Hst.out.m.mv
  go_upto_region 2 with (go_at_call 4; refine (Htx.out _ Hst.out.later).mono ?_; rintro e w1 ⟨rfl, hw1⟩)
  have Hst1 := hide (Hst.out.later_ hw1)
  clear hw1 Hst x0 x1 x2 x3 x4 x5 x6 x7 x8 x9 x10 x11 x12 p0 p1 p2 p3 p4 p5 m0 m1 m2
  obtain ⟨x0, x1, x2, x3, x4, x5, x6, x7, x8, x9, x10, x11, x12⟩ := Hst1.out.r.rules
  obtain ⟨p0, p1, p2, p3, p4, p5⟩ := Hst1.out.p.pos6
  go_upto_region 3 with (go_at_call 5; refine (Hrd.out _ Hst1.out.later).mono ?_; rintro e w2 ⟨rfl, hw2⟩)
  have hst := Hst1.out.later_ (hw2.alloc (.cells #[.int .i64 a.f, .int .i64 a.t, .int .u8 a.c] 29))
  have hb := Blk.new w2 29 #[.int .i64 a.f, .int .i64 a.t, .int .u8 a.c]
  obtain ⟨ga, hga⟩ : ∃ g, w2.heap.size = g := ⟨_, rfl⟩
  obtain ⟨v2, hv2⟩ : ∃ v, w2.alloc (.cells #[.int .i64 a.f, .int .i64 a.t, .int .u8 a.c] 29) = v := ⟨_, rfl⟩
  rw [hv2] at hst hb ⊢
  rw [hga] at hb ⊢
  have Hst2 := hide hst
  have Ha2 := hide hb
  clear hst hb hw2 hv2 hga Hst1 x0 x1 x2 x3 x4 x5 x6 x7 x8 x9 x10 x11 x12 p0 p1 p2 p3 p4 p5
  obtain ⟨x0, x1, x2, x3, x4, x5, x6, x7, x8, x9, x10, x11, x12⟩ := Hst2.out.r.rules
  obtain ⟨p0, p1, p2, p3, p4, p5⟩ := Hst2.out.p.pos6
  go_upto_region 4 with (go_at_call 6; refine (Hct.out _ Hst2.out.later).mono ?_; rintro e w3 ⟨rfl, hw3⟩)
  have Hst3 := hide (Hst2.out.later_ hw3)
  have Ha3 := hide (hw3.blk Ha2.out)
  clear hw3 Hst2 Ha2 x0 x1 x2 x3 x4 x5 x6 x7 x8 x9 x10 x11 x12 p0 p1 p2 p3 p4 p5
  obtain ⟨x0, x1, x2, x3, x4, x5, x6, x7, x8, x9, x10, x11, x12⟩ := Hst3.out.r.rules
  obtain ⟨p0, p1, p2, p3, p4, p5⟩ := Hst3.out.p.pos6
  go_upto_region 6 with (go_at_call 7; refine (Hof.out _ Hst3.out.later).mono ?_; rintro e w4 ⟨rfl, hw4⟩)
  have Hst4 := hide (Hst3.out.later_ hw4)
  have Ha4 := hide (hw4.blk Ha3.out)
  clear hw4 Hst3 Ha3 Hof Htx Hrd Hct x0 x1 x2 x3 x4 x5 x6 x7 x8 x9 x10 x11 x12 p0 p1 p2 p3 p4 p5
  obtain ⟨x0, x1, x2, x3, x4, x5, x6, x7, x8, x9, x10, x11, x12⟩ := Hst4.out.r.rules
  obtain ⟨p0, p1, p2, p3, p4, p5⟩ := Hst4.out.p.pos6
  go_upto_region 7 with (go_at_call 8; refine (Hmv.out _ Hst4.out.later).mono ?_; rintro e w5 ⟨A5, c5, rfl, -, hc5, -, hw5⟩)
  have Hst5 := hide (Hst4.out.later_ hw5)
  have Ha5 := hide (hw5.blk Ha4.out)
  have Hc5 := hide hc5
  clear hw5 hc5 Hst4 Ha4 Hmv x0 x1 x2 x3 x4 x5 x6 x7 x8 x9 x10 x11 x12 p0 p1 p2 p3 p4 p5
  have Hinl := hide (fun w (hw : Later w5 w) => in_any A5 c5 L m w (by omega) ((Hc5.out.below hw).more hw.size))
  go_cut [103] from 76 to 103 (fun bv w' => bv = .bool false ∧ Later w5 w')
  case first =>
    obtain ⟨p0, p1, p2, p3, p4, p5⟩ := Hst5.out.p.pos6
    obtain ⟨⟨m0, m1, m2⟩, -⟩ := Hst5.out.m.mv
    rcases H1.out with ⟨hm, rfl, ht⟩ | ⟨hm, rfl, rfl⟩
    · have hd := decide_eq_true hm
      rw [hd] at Hinl
      have HmtM := hide (fun w => Hmt.out m hm w)
      clear hm hd H1
      simp only [← ht] at HmtM
      clear ht
      have tb : (t.toList == t.toList) = true := by simp
      have HB := hide (show ∀ w, Later w5 w → Blk w (W.heap.size + 1) 24 #[.int .i64 p.w, .int .i64 p.h, .string p.cells, .int .i64 p.turn, .string p.h0, .string p.h1] ∧ Blk w (W.heap.size + 1 + 1) 29 #[.int .i64 m.f, .int .i64 m.t, .int .u8 m.c] from fun w hw => ⟨hw.blk Hst5.out.p, hw.blk Hst5.out.m⟩)
      have Hq : Hid (Later w5 w5) := hide Later.rfl
      go_wp2_with (first
        | (go_at_call 9; with_reducible refine (Hinl.out _ Hq.out).mono ?_; rintro e wa ⟨rfl, hwa⟩; replace Hq := hide (Hq.out.trans hwa); clear hwa p0 p1 p2 p3 p4 p5 m0 m1 m2; obtain ⟨p0, p1, p2, p3, p4, p5⟩ := (HB.out _ Hq.out).1.pos6; obtain ⟨⟨m0, m1, m2⟩, -⟩ := (HB.out _ Hq.out).2.mv)
        | (go_at_call 10; with_reducible refine (HmtM.out _).mono ?_; rintro e wa ⟨rfl, hwa⟩; replace Hq := hide (Hq.out.trans hwa); clear hwa p0 p1 p2 p3 p4 p5 m0 m1 m2; obtain ⟨p0, p1, p2, p3, p4, p5⟩ := (HB.out _ Hq.out).1.pos6; obtain ⟨⟨m0, m1, m2⟩, -⟩ := (HB.out _ Hq.out).2.mv))
      go_meet
      case rel => exact ⟨rfl, Hq.out⟩
    · have hd := decide_eq_false hm
      rw [hd] at Hinl
      clear hm hd H1
      have HB := hide (show ∀ w, Later w5 w → Blk w (W.heap.size + 1) 24 #[.int .i64 p.w, .int .i64 p.h, .string p.cells, .int .i64 p.turn, .string p.h0, .string p.h1] ∧ Blk w (W.heap.size + 1 + 1) 29 #[.int .i64 m.f, .int .i64 m.t, .int .u8 m.c] from fun w hw => ⟨hw.blk Hst5.out.p, hw.blk Hst5.out.m⟩)
      have Hq : Hid (Later w5 w5) := hide Later.rfl
      go_wp2_with (go_at_call 9; with_reducible refine (Hinl.out _ Hq.out).mono ?_; rintro e wa ⟨rfl, hwa⟩; replace Hq := hide (Hq.out.trans hwa); clear hwa p0 p1 p2 p3 p4 p5 m0 m1 m2; obtain ⟨p0, p1, p2, p3, p4, p5⟩ := (HB.out _ Hq.out).1.pos6; obtain ⟨⟨m0, m1, m2⟩, -⟩ := (HB.out _ Hq.out).2.mv)
      go_meet
      case rel => exact ⟨rfl, Hq.out⟩
  case rest =>
    obtain ⟨rfl, hw6⟩ := hcut
    rename World => w6
    have Hst6 := hide (Hst5.out.later_ hw6)
    have Ha6 := hide (hw6.blk Ha5.out)
    have Hc6 := hide ((Hc5.out.below hw6).more hw6.size)
    clear hw6 Hst5 Ha5 Hc5 Hinl H1
    go_upto_region 10 with (fail)
    have hb := Blk.new w6 29 #[.int .i64 0, .int .i64 0, .int .u8 0]
    have hl7 := hide (show Later w6 (w6.alloc (.cells #[.int .i64 0, .int .i64 0, .int .u8 0] 29)) from Later.rfl.alloc _)
    obtain ⟨gw, hgw⟩ : ∃ g, w6.heap.size = g := ⟨_, rfl⟩
    obtain ⟨w7, hw7⟩ : ∃ v, w6.alloc (.cells #[.int .i64 0, .int .i64 0, .int .u8 0] 29) = v := ⟨_, rfl⟩
    rw [hw7] at hb hl7 ⊢
    rw [hgw] at hb ⊢
    have hgw2 : w6.heap.size ≤ gw := by omega
    have Hgw := hide hgw2
    have Hb := hide hb
    have Hl7 := hl7
    clear hb hl7 hw7 hgw hgw2
    go_wp2_with fail
    go_loopw [19, 107] (fun gv kv wr => ∃ (k : Nat) (x : Mv) (g2 : Int), k ≤ L.length ∧ kv = .int .i64 (k : Int) ∧ gv = .int .i64 g2 ∧ Later w6 wr ∧ Blk wr gw 29 #[.int .i64 x.f, .int .i64 x.t, .int .u8 x.c] ∧ WantS p s L k x g2) (fun _ kv _ => L.length - (intOf kv).toNat)
    case atStart => exact ⟨0, ⟨0, 0, 0⟩, 5, by omega, rfl, rfl, Hl7.out, Hb.out, .inl ⟨rfl, rfl, fun j _ h => by omega⟩⟩
    case round =>
      rename World => wr
      obtain ⟨k, x, g2, hk, rfl, rfl, hw, hbx, hst⟩ := hrel
      have Hstr := hide (Hst6.out.later_ hw)
      have Har := hide (hw.blk Ha6.out)
      have Hcr := hide ((Hc6.out.below hw).more hw.size)
      have Hwr := hide hw
      have Hbx := hide hbx
      have HW := hide hst
      clear hw hbx hst
      by_cases hlt : k < L.length
      · have t1 : decide ((k : Int) < (L.length : Int)) = true := by simp; omega
        have t1n : decide (k < L.length) = true := by simp; omega
        obtain ⟨bm, om, rfl, hbm, y0, y1, y2⟩ := mv_at Hcr.out hlt
        have hk1 : (0 : Int) ≤ (k : Int) := by omega
        have hk2 : (k : Int) < (L.length : Int) := by omega
        have hm := List.getElem_mem hlt
        have HWn := hide (WantS.next (p := p) (s := s) (x := x) (g2 := g2) hlt HW.out)
        obtain ⟨y, hy⟩ : ∃ y, L[k] = y := ⟨_, rfl⟩
        rw [hy] at y0 y1 y2 hm
        simp only [hy] at HWn
        have HmtY := hide (fun w => Hmt.out y hm w)
        have HS13 := hide (show ∀ w' : World, Later wr w' → (w'.cell? ⟨W.heap.size + 1, 0, none⟩ = some (.int .i64 p.w) ∧ w'.cell? ⟨W.heap.size + 1, 1, none⟩ = some (.int .i64 p.h) ∧ w'.cell? ⟨W.heap.size + 1, 2, none⟩ = some (.string p.cells) ∧ w'.cell? ⟨W.heap.size + 1, 3, none⟩ = some (.int .i64 p.turn) ∧ w'.cell? ⟨W.heap.size + 1, 4, none⟩ = some (.string p.h0) ∧ w'.cell? ⟨W.heap.size + 1, 5, none⟩ = some (.string p.h1) ∧ w'.cell? ⟨bm, om + k * 3, none⟩ = some (.int .i64 y.f) ∧ w'.cell? ⟨bm, om + k * 3 + 1, none⟩ = some (.int .i64 y.t) ∧ w'.cell? ⟨bm, om + k * 3 + 2, none⟩ = some (.int .u8 y.c)) from fun w' hw => by
          obtain ⟨p0, p1, p2, p3, p4, p5⟩ := (hw.blk Hstr.out.p).pos6
          obtain ⟨b', o', hbb, -, z0, z1, z2⟩ := mv_at ((Hcr.out.below hw).more hw.size) hlt
          injection hbb with hbb
          injection hbb with hbb1 hbb2
          subst hbb1
          subst hbb2
          rw [hy] at z0 z1 z2
          exact ⟨p0, p1, p2, p3, p4, p5, z0, z1, z2⟩)
        obtain ⟨tx, htx⟩ : ∃ tx, bytes (textL p y) = tx := ⟨_, rfl⟩
        rw [htx] at HWn
        simp only [htx] at HmtY
        clear htx hm hy y0 y1 y2
        go_upto_region 13 with (fail)
        go_cut [117] from 108 to 121 (fun bv w' => bv = .bool (tx.toList == s.toList) ∧ Later wr w')
        case first =>
          refine wp_region_held_drew (S := fun w' : World => (w'.cell? ⟨W.heap.size + 1, 0, none⟩ = some (.int .i64 p.w) ∧ w'.cell? ⟨W.heap.size + 1, 1, none⟩ = some (.int .i64 p.h) ∧ w'.cell? ⟨W.heap.size + 1, 2, none⟩ = some (.string p.cells) ∧ w'.cell? ⟨W.heap.size + 1, 3, none⟩ = some (.int .i64 p.turn) ∧ w'.cell? ⟨W.heap.size + 1, 4, none⟩ = some (.string p.h0) ∧ w'.cell? ⟨W.heap.size + 1, 5, none⟩ = some (.string p.h1) ∧ w'.cell? ⟨bm, om + k * 3, none⟩ = some (.int .i64 y.f) ∧ w'.cell? ⟨bm, om + k * 3 + 1, none⟩ = some (.int .i64 y.t) ∧ w'.cell? ⟨bm, om + k * 3 + 2, none⟩ = some (.int .u8 y.c))) (by kernel_rfl) (HS13.out _ Later.rfl.drew) (fun hHeld => ?_)
          refine wpAnyH_take (i := 0) (oi := ⟨some 110, _, _, _, _, _⟩) (v := ?_) rfl (by kernel_rfl) (by kernel_rfl) (by kernel_rfl) (fun _ _ _ h => h) (Or.inl ⟨by rfl, ?_⟩) (by assumption) ?_
          rotate_left 1
          · intro w hSw
            try dsimp only at hSw
            go_simp <;> with_reducible rfl
          try simp only [Act.put, List.setIfInBounds_toArray, List.set_cons_zero, List.set_cons_succ]
          refine wpAnyH_take (i := 1) (oi := ⟨some 111, _, _, _, _, _⟩) (v := ?_) rfl (by kernel_rfl) (by kernel_rfl) (by kernel_rfl) (fun _ _ _ h => h) (Or.inl ⟨by rfl, ?_⟩) (by assumption) ?_
          rotate_left 1
          · intro w hSw
            try dsimp only at hSw
            go_simp <;> with_reducible rfl
          try simp only [Act.put, List.setIfInBounds_toArray, List.set_cons_zero, List.set_cons_succ]
          refine wpAnyH_take (i := 2) (oi := ⟨some 112, _, _, _, _, _⟩) (v := ?_) rfl (by kernel_rfl) (by kernel_rfl) (by kernel_rfl) (fun _ _ _ h => h) (Or.inl ⟨by rfl, ?_⟩) (by assumption) ?_
          rotate_left 1
          · intro w hSw
            try dsimp only at hSw
            go_simp <;> with_reducible rfl
          try simp only [Act.put, List.setIfInBounds_toArray, List.set_cons_zero, List.set_cons_succ]
          refine wpAnyH_take (i := 3) (oi := ⟨some 113, _, _, _, _, _⟩) (v := ?_) rfl (by kernel_rfl) (by kernel_rfl) (by kernel_rfl) (fun _ _ _ h => h) (Or.inl ⟨by rfl, ?_⟩) (by assumption) ?_
          rotate_left 1
          · intro w hSw
            try dsimp only at hSw
            go_simp <;> with_reducible rfl
          try simp only [Act.put, List.setIfInBounds_toArray, List.set_cons_zero, List.set_cons_succ]
          refine wpAnyH_take (i := 4) (oi := ⟨some 114, _, _, _, _, _⟩) (v := ?_) rfl (by kernel_rfl) (by kernel_rfl) (by kernel_rfl) (fun _ _ _ h => h) (Or.inl ⟨by rfl, ?_⟩) (by assumption) ?_
          rotate_left 1
          · intro w hSw
            try dsimp only at hSw
            go_simp <;> with_reducible rfl
          try simp only [Act.put, List.setIfInBounds_toArray, List.set_cons_zero, List.set_cons_succ]
          refine wpAnyH_take (i := 6) (oi := ⟨some 116, _, _, _, _, _⟩) (v := ?_) rfl (by kernel_rfl) (by kernel_rfl) (by kernel_rfl) (fun _ _ _ h => h) (Or.inl ⟨by rfl, ?_⟩) (by assumption) ?_
          rotate_left 1
          · intro w hSw
            try dsimp only at hSw
            go_simp <;> with_reducible rfl
          try simp only [Act.put, List.setIfInBounds_toArray, List.set_cons_zero, List.set_cons_succ]
          refine wpAnyH_ready (rs := [5]) (by kernel_rfl) (by simp) ?_
          refine AllReadyH.cons (o := ⟨some 115, _, _, _, _, _⟩) rfl (fun K hK => ?_) ?_
          · clear hHeld
            go_simp
            go_at_call 10
            refine (HmtY.out _).mono ?_
            rintro e wq ⟨rfl, hwx⟩
            have hwq : Later wr wq := Later.trans (by repeat (first | exact Later.rfl | refine Later.drew ?_)) hwx
            try go_wp2_with fail
            refine hK.out _ _ (by refine HS13.out _ ?_; repeat (first | exact Later.rfl | exact hwq | refine Later.drew ?_)) (fun hHeld => ?_)
            clear hK K
            try simp only [Act.put, List.setIfInBounds_toArray, List.set_cons_zero, List.set_cons_succ]
            refine wpAnyH_take (i := 7) (oi := ⟨some 117, _, _, _, _, _⟩) (v := ?_) rfl (by kernel_rfl) (by kernel_rfl) (by kernel_rfl) (fun _ _ _ h => h) (Or.inl ⟨by rfl, ?_⟩) (by assumption) ?_
            rotate_left 1
            · intro w hSw
              try dsimp only at hSw
              go_simp <;> with_reducible rfl
            try simp only [Act.put, List.setIfInBounds_toArray, List.set_cons_zero, List.set_cons_succ]
            refine wpAnyH_done (by kernel_rfl) ?_ _
            go_wp2_with fail
            go_meet
            case rel => exact ⟨rfl, hwq⟩
          exact AllReadyH.nil
        case rest =>
          obtain ⟨rfl, hw8⟩ := hcut
          rename World => w8
          have hxx := (Hwr.out.trans hw8)
          obtain ⟨-, -, -, -, -, -, z0, z1, z2⟩ := HS13.out _ hw8
          have hb8 := hw8.blk Hbx.out
          have Hw8 := hide hxx
          clear hw8 hxx
          cases hb : (tx.toList == s.toList)
          · have HWf := hide (HWn.out.2 (fun e => by rw [e] at hb; simp at hb))
            have Hb8 := hide hb8
            clear hb hb8 z0 z1 z2
            go_wp2_with fail
            go_roundw
            case rel => exact ⟨k + 1, x, g2, by omega, by go_num, rfl, Hw8.out, Hb8.out, HWf.out⟩
            case measure => simp [intOf]; omega
          · have HWt := hide (HWn.out.1 (by rw [toListB] at hb; exact of_decide_eq_true hb))
            clear hb
            have f0 := hb8.free 0
            have f1 := hb8.free 1
            have f2 := hb8.free 2
            obtain ⟨⟨n0, n1, n2⟩, -⟩ := hb8.mv
            have Hb8 := hide hb8
            clear hb8
            go_wp2_with fail
            go_roundw
            case rel => exact ⟨k + 1, y, 0, by omega, by go_num, rfl, ((Hw8.out.setCell Hgw.out _).setCell Hgw.out _).setCell Hgw.out _, ((Hb8.out.set_ 0 _).set_ 1 _).set_ 2 _, HWt.out⟩
            case measure => simp [intOf]; omega
      · obtain rfl : L.length = k := by omega
        have t1 : decide ((L.length : Int) < (L.length : Int)) = false := by simp
        have t1n : decide (L.length < L.length) = false := by simp
        obtain ⟨rfl, rfl⟩ := WantS.final Hin.out HW.out H2.out
        obtain ⟨⟨n0, n1, n2⟩, -⟩ := Hbx.out.mv
        obtain ⟨⟨a0, a1, a2⟩, -⟩ := Har.out.mv
        have hne : ∀ w, (binOp .neq 29 (.agg #[.int .i64 a.f, .int .i64 a.t, .int .u8 a.c]) (.agg #[.int .i64 a.f, .int .i64 a.t, .int .u8 a.c])).run Tryz.prog w = .ok (.bool false) w := fun w => by
          have h := neqM a a w
          have e : (!decide (a = a)) = false := by simp
          rw [← e]
          exact h
        have hgd : ∀ op u v w, (eqGuard op 29 u v (.agg #[.int .i64 a.f, .int .i64 a.t, .int .u8 a.c]) (.agg #[.int .i64 a.f, .int .i64 a.t, .int .u8 a.c])).run Tryz.prog w = .ok () w := fun op u v w => eqM.2 op u v a a w
        have tg : ((f : Int) != f) = false := by simp
        go_upto_region 18 with (fail)
        clear hne hgd tg n0 n1 n2 a0 a1 a2
        rcases H3.out with ⟨hdp, rfl, rfl⟩ | ⟨d, hd6, rfl, hn, hg⟩
        · by_cases h0 : dp < 0
          · have d1 : decide (dp < 0) = true := decide_eq_true h0
            clear h0 hdp
            go_wp2_with fail
            go_ret
            exact ⟨rfl, Hstr.out.later⟩
          · have d1 : decide (dp < 0) = false := decide_eq_false h0
            have d2 : decide (6 < dp) = true := decide_eq_true (by omega)
            clear h0 hdp
            go_wp2_with fail
            go_ret
            exact ⟨rfl, Hstr.out.later⟩
        · have d1 : decide ((d : Int) < 0) = false := by simp
          have d2 : decide (6 < (d : Int)) = false := by simp; omega
          have Hn := hide hn
          have Hg := hide hg
          clear hn hg H3
          go_upto_region 20 with (fail)
          clear d1 d2
          have HL := hide (show Later W wr from Hstr.out.later)
          go_wp2_with fail
          go_loopw [21] (fun jv wq => ∃ j : Nat, j ≤ d ∧ jv = .int .i64 (j : Int) ∧ (∀ i, i < j → waysN r i p ≤ 100000) ∧ Later wr wq) (fun jv _ => d + 1 - (intOf jv).toNat)
          case atStart => exact ⟨0, by omega, rfl, fun i h => by omega, Later.rfl⟩
          case round =>
            rename World => wq
            obtain ⟨j, hj, rfl, hall, hq⟩ := hrel
            have Hall := hide hall
            have Hstq := hide (Hstr.out.later_ hq)
            have Hq := hide hq
            clear hall hq
            have d3 : decide ((j : Int) ≤ (d : Int)) = true := by simp; omega
            have d3n : decide (j ≤ d) = true := by simp; omega
            have HpaJ := hide (fun w hw => Hpa.out j (by omega) w hw)
            obtain ⟨hn1, hn2⟩ := Hnear.out j
            obtain ⟨v, hv⟩ : ∃ v, pathsN r j p = v := ⟨_, rfl⟩
            simp only [hv] at HpaJ
            rw [hv] at hn1 hn2
            clear hv
            obtain ⟨x0, x1, x2, x3, x4, x5, x6, x7, x8, x9, x10, x11, x12⟩ := Hstq.out.r.rules
            obtain ⟨p0, p1, p2, p3, p4, p5⟩ := Hstq.out.p.pos6
            by_cases hbig : 100000 < waysN r j p
            · have hv := hn2 hbig
              have d4 : decide ((100000 : Int) < (v : Int)) = true := by simp; omega
              have d4n : decide (100000 < v) = true := by simp; omega
              have hc := countA_large (d := d) hj hbig
              obtain rfl : n = 0 := by have := Hn.out; rw [hc] at this; exact this
              obtain rfl : g = 2 := by have := Hg.out; rw [hc] at this; exact this
              clear hn1 hn2 hbig hv hc Hn Hg
              go_wp2_with (go_at_call 11; refine (HpaJ.out _ Hstq.out.later).mono ?_; rintro e w9 ⟨rfl, hw9⟩)
              go_ret
              exact ⟨rfl, Hstq.out.later.trans hw9⟩
            · have hv := hn1 (by omega)
              have d4 : decide ((100000 : Int) < (v : Int)) = false := by simp; omega
              have d4n : decide (100000 < v) = false := by simp; omega
              by_cases hjd : j = d
              · subst hjd
                have hc := countA_ok (r := r) (p := p) (d := j) (fun i hi => by
                  by_cases e : i = j
                  · subst e; omega
                  · exact Hall.out i (by omega))
                obtain rfl : n = (v : Int) := by have := Hn.out; rw [hc] at this; rw [hv]; exact this
                obtain rfl : g = 0 := by have := Hg.out; rw [hc] at this; exact this
                have d5 : ((j : Int) == (j : Int)) = true := by simp
                have d6 : ((v : Int) == (v : Int)) = true := by simp
                clear hn1 hn2 hbig hv hc Hn Hg
                go_wp2_with (go_at_call 11; refine (HpaJ.out _ Hstq.out.later).mono ?_; rintro e w9 ⟨rfl, hw9⟩)
                go_ret
                exact ⟨rfl, Hstq.out.later.trans hw9⟩
              · have d5 : ((j : Int) == (d : Int)) = false := by simp; omega
                have Hall2 := hide (show ∀ i, i < j + 1 → waysN r i p ≤ 100000 from fun i hi => by
                  by_cases e : i = j
                  · subst e; omega
                  · exact Hall.out i (by omega))
                clear hn1 hn2 hbig hv
                go_wp2_with (go_at_call 11; refine (HpaJ.out _ Hstq.out.later).mono ?_; rintro e w9 ⟨rfl, hw9⟩)
                go_roundw
                case rel => exact ⟨j + 1, by omega, by go_num, Hall2.out, Hq.out.trans hw9⟩
                case measure => simp [intOf]; omega
theorem mt_any (r : RulesD) (A : Option Addr) (cp : Nat) (p : Pos) (m : Mv) (s : ByteArray) (dp : Int) (W : World) (hf : RFit r) (hg : PFit p) (hP : PiecesAt W W.heap.size A r.pieces) :
    Calls Tryz.prog 3 #[.agg #[.int .i64 r.start.w, .int .i64 r.start.h, .string r.start.cells, .int .i64 r.start.turn, .string r.start.h0, .string r.start.h1, .slice A r.pieces.length cp, .bool r.drops, .int .u8 r.lose, .int .i64 r.line, .int .u8 r.reach, .bool r.stuck, .int .i64 r.plies], .agg #[.int .i64 p.w, .int .i64 p.h, .string p.cells, .int .i64 p.turn, .string p.h0, .string p.h1], .agg #[.int .i64 m.f, .int .i64 m.t, .int .u8 m.c], .string s, .int .i64 dp] W fun e w' => e = .returned (.bool true) ∧ Later W w' := by
  by_cases hok : OfOk r p
  · have H1 : ∃ (t : ByteArray) (e0 : Int), ((m ∈ movesL r p ∧ e0 = 0 ∧ t = bytes (textL p m)) ∨ (m ∉ movesL r p ∧ e0 = 5 ∧ t = ⟨#[]⟩)) ∧ ∀ w, Later W w → Calls Tryz.prog 4 #[.agg #[.int .i64 r.start.w, .int .i64 r.start.h, .string r.start.cells, .int .i64 r.start.turn, .string r.start.h0, .string r.start.h1, .slice A r.pieces.length cp, .bool r.drops, .int .u8 r.lose, .int .i64 r.line, .int .u8 r.reach, .bool r.stuck, .int .i64 r.plies], .agg #[.int .i64 p.w, .int .i64 p.h, .string p.cells, .int .i64 p.turn, .string p.h0, .string p.h1], .agg #[.int .i64 m.f, .int .i64 m.t, .int .u8 m.c]] w fun e w' => e = .returned (.tuple #[.string t, .int .i64 e0]) ∧ Later w w' := by
      by_cases hm : m ∈ movesL r p
      · exact ⟨_, _, .inl ⟨hm, rfl, rfl⟩, fun w hw => mtext_ok r A cp p m w hf hg ((hP.below hw).more hw.size) hok hm⟩
      · exact ⟨_, _, .inr ⟨hm, rfl, rfl⟩, fun w hw => mtext_out r A cp p m w hf hg ((hP.below hw).more hw.size) hok hm⟩
    have H2 : ∃ (a : Mv) (f : Int), ((a ∈ movesL r p ∧ f = 0 ∧ bytes (textL p a) = s) ∨ (a = ⟨0, 0, 0⟩ ∧ f = 5 ∧ ∀ y ∈ movesL r p, bytes (textL p y) ≠ s)) ∧ ∀ w, Later W w → Calls Tryz.prog 5 #[.agg #[.int .i64 r.start.w, .int .i64 r.start.h, .string r.start.cells, .int .i64 r.start.turn, .string r.start.h0, .string r.start.h1, .slice A r.pieces.length cp, .bool r.drops, .int .u8 r.lose, .int .i64 r.line, .int .u8 r.reach, .bool r.stuck, .int .i64 r.plies], .agg #[.int .i64 p.w, .int .i64 p.h, .string p.cells, .int .i64 p.turn, .string p.h0, .string p.h1], .string s] w fun e w' => e = .returned (.tuple #[.agg #[.int .i64 a.f, .int .i64 a.t, .int .u8 a.c], .int .i64 f]) ∧ Later w w' := by
      by_cases hs : ∃ y ∈ movesL r p, bytes (textL p y) = s
      · obtain ⟨y, hy, hys⟩ := hs
        refine ⟨y, 0, .inl ⟨hy, rfl, hys⟩, fun w hw => ?_⟩
        have := mread_ok r A cp p y w hf hg ((hP.below hw).more hw.size) hok hy
        rw [hys] at this
        exact this
      · have hs2 : ∀ y ∈ movesL r p, bytes (textL p y) ≠ s := fun y hy e => hs ⟨y, hy, e⟩
        exact ⟨⟨0, 0, 0⟩, 5, .inr ⟨rfl, rfl, hs2⟩, fun w hw => mread_none r A cp p s w hf hg ((hP.below hw).more hw.size) hok hs2⟩
    have H3 : ∃ n g : Int, (((dp < 0 ∨ 6 < dp) ∧ n = 0 ∧ g = 4) ∨ ∃ d : Nat, d ≤ 6 ∧ dp = d ∧ n = (countA r p d).1 ∧ g = (countA r p d).2) ∧ ∀ w, Later W w → Calls Tryz.prog 6 #[.agg #[.int .i64 r.start.w, .int .i64 r.start.h, .string r.start.cells, .int .i64 r.start.turn, .string r.start.h0, .string r.start.h1, .slice A r.pieces.length cp, .bool r.drops, .int .u8 r.lose, .int .i64 r.line, .int .u8 r.reach, .bool r.stuck, .int .i64 r.plies], .agg #[.int .i64 p.w, .int .i64 p.h, .string p.cells, .int .i64 p.turn, .string p.h0, .string p.h1], .int .i64 dp] w fun e w' => e = .returned (.tuple #[.int .i64 n, .int .i64 g]) ∧ Later w w' := by
      by_cases hd : dp < 0 ∨ 6 < dp
      · exact ⟨0, 4, .inl ⟨hd, rfl, rfl⟩, fun w hw => count_range r A cp p dp w hf hg ((hP.below hw).more hw.size) hok hd⟩
      · obtain ⟨d, rfl⟩ := Int.eq_ofNat_of_zero_le (show 0 ≤ dp by omega)
        exact ⟨_, _, .inr ⟨d, by omega, rfl, rfl, rfl⟩, fun w hw => count_ok _ r A cp p d (by omega) w hf hg ((hP.below hw).more hw.size) hok (fun e w' he hw' => ⟨he, hw'⟩)⟩
    obtain ⟨t, e0, h1, Htx⟩ := H1
    obtain ⟨a, f, h2, Hrd⟩ := H2
    obtain ⟨n, g, h3, Hct⟩ := H3
    exact mt_ok r A cp p m s dp W hf hg hP hok t e0 a f n g (hide Htx) (hide Hrd) (hide Hct) h1 h2 h3
  · exact mt_no r A cp p m s dp W hf hg hP hok
end Go.Proofs.YtdfegpohmaideaaGreatDoor
/- The library's tables as the row lists them. -/
namespace Go.Proofs.YtdfegpohmaideaaGreatDoor
open Go.ChangeShapes Go.WideShapes Go.ChangeAt Go.WideMaps Go.WideElems Go.RowKit

def laid3 : List (String × DataW Unit) := [("math/bits.deBruijn32tab", Rows.laid_math_bits_deBruijn32tab), ("math/bits.deBruijn64tab", Rows.laid_math_bits_deBruijn64tab), ("internal/strconv.uint64pow10", Rows.laid_internal_strconv_uint64pow10)]
theorem own_door : ownKnob Tryz.prog.godebug = none := by kernel_rfl
theorem door_met (os : Os) (args : Array Value) : laidMetH Tryz.prog laid3 ((World.doorLaid Tryz.prog 100 os).forCall (fun _ _ => 0) ⟨#[], args, []⟩).memory :=
  laidMetH_of_parts3 (fuel := 8) (laidMet_of_run' 8 (by kernel_rfl) (by kernel_rfl)) (by kernel_rfl) (by kernel_rfl)
section
variable {H : Type} {enc : TypeId × Value → H} {P : Program} {w : World} {base : Nat} {spare : Nat → Bool} {held : Bool}
theorem trodAll_five {t t' t'' t3 t4 : TypeId} {args : Array Value} {ds : List (DataW H)} {ps : List MemPlace} (h : DataW.TrodAll enc P w base spare held [t, t', t'', t3, t4] args.toList ds ps) :
    ∃ v v' v'' v3 v4 d d' d'' d3 d4 p p' p'' p3 p4, args = #[v, v', v'', v3, v4] ∧ ds = [d, d', d'', d3, d4] ∧ ps = p ++ p' ++ p'' ++ p3 ++ p4 ∧ DataW.Trod enc P w base spare held t v d p ∧ DataW.Trod enc P w base spare held t' v' d' p' ∧ DataW.Trod enc P w base spare held t'' v'' d'' p'' ∧ DataW.Trod enc P w base spare held t3 v3 d3 p3 ∧ DataW.Trod enc P w base spare held t4 v4 d4 p4 := by
  obtain ⟨v, vs, d, ds', p, q, hargs, rfl, rfl, hd, hrest⟩ := trodAll_cons h
  obtain ⟨v', vs', d', ds'', p', q', rfl, rfl, rfl, hd', hrest'⟩ := trodAll_cons hrest
  obtain ⟨v'', vs'', d'', dsc, p'', q'', rfl, rfl, rfl, hd'', hrest''⟩ := trodAll_cons hrest'
  obtain ⟨v3, vs3, d3, ds3, p3, q3, rfl, rfl, rfl, hd3, hrest3⟩ := trodAll_cons hrest''
  obtain ⟨v4, vs4, d4, ds4, p4, q4, rfl, rfl, rfl, hd4, hrest4⟩ := trodAll_cons hrest3
  obtain ⟨rfl, rfl, rfl⟩ := trodAll_nil hrest4
  exact ⟨v, v', v'', v3, v4, d, d', d'', d3, d4, p, p', p'', p3, p4, by cases args; simp_all, rfl, by simp, hd, hd', hd'', hd3, hd4⟩
end
end Go.Proofs.YtdfegpohmaideaaGreatDoor
/- Arguments opened into the words of Base. -/
namespace Go.Proofs.YtdfegpohmaideaaGreatDoor
open Go.RowKit Go.ChangeShapes Go.WideShapes Go.Deep

theorem addr_of_cell {w : World} {a : Addr} {v : Value} (h : w.cell? a = some v) : a = ⟨a.block, a.off, none⟩ := by
  obtain ⟨b, o, s⟩ := a
  cases s with
  | none => rfl
  | some x =>
    unfold World.cell? at h
    split at h <;> simp at h

section
variable {H : Type} {enc : TypeId × Value → H} {P : Program} {w : World}

theorem cells_of {a : Addr} {xs : List Value} (h : ∀ k (hk : k < xs.length), w.cell? (a.add k) = some xs[k]) : Cells w w.heap.size (some a) xs := fun hn => by
  have h0 := h 0 hn
  have ha : a = ⟨a.block, a.off, none⟩ := by
    have := addr_of_cell h0
    simpa [Addr.add] using this
  refine ⟨a.block, a.off, by rw [← ha], ?_, fun k hk => ?_⟩
  · have := World.block_lt_of_cell? w _ h0
    simpa [Addr.add] using this
  · have h1 := h k hk
    rw [ha] at h1
    simp only [Addr.add_lit] at h1
    exact h1

theorem open_ints1 {t e : TypeId} (ht : P.underlying t = some (.slice e)) (he : P.underlying e = some (.int .i64)) (ce : P.cellsOf e = 1)
    {v : Value} {d : DataW H} {ps : List MemPlace} (hok : ∃ a n c, v = .slice a n c) (h : DataW.Trod enc P w 0 (fun _ => true) true t v d ps) :
    ∃ A c l, v = .slice A l.length c ∧ l.length ≤ c ∧ c ≤ maxLen ∧ Cells w w.heap.size A (ints l) ∧ (∀ x ∈ l, -9223372036854775808 ≤ x ∧ x ≤ 9223372036854775807) := by
  obtain ⟨a0, n0, c0, rfl⟩ := hok
  obtain ⟨fuel, hf⟩ := h
  rcases open_ints ht he ce hf with ⟨hcs, hx⟩ | ⟨a, len, cap, zs, hcs, _, hl, hm, hz, hx, hcell, hwz⟩
  · simp [Value.cells] at hcs
    obtain ⟨rfl, rfl, rfl⟩ := hcs
    exact ⟨none, 0, [], rfl, by simp, by simp [maxLen], Cells.nil_, by simp⟩
  · simp [Value.cells] at hcs
    obtain ⟨rfl, rfl, rfl⟩ := hcs
    simp only [if_true] at hz
    have hlen : (zs.take n0).length = n0 := by simp; omega
    refine ⟨some a, c0, zs.take n0, by rw [hlen], by omega, hm, cells_of (fun k hk => ?_), fun x hx => ?_⟩
    · rw [ints_get]
      simp only [ints_length, hlen] at hk
      rw [hcell k (by omega)]
      simp [List.getD_eq_getElem?_getD, hz, Nat.lt_of_lt_of_le hk hl]
    · have := hwz x (List.mem_of_mem_take hx)
      have h1 : IntKind.i64.min = -9223372036854775808 := rfl
      have h2 : IntKind.i64.max = 9223372036854775807 := rfl
      simp [Lit.wf, h1, h2] at this
      omega

theorem open_rows2 {t e q : TypeId} (ht : P.underlying t = some (.slice e)) (he : P.underlying e = some (.slice q)) (hq : P.underlying q = some (.int .i64))
    (ce : P.cellsOf e = 1) (cq : P.cellsOf q = 1) {v : Value} {d : DataW H} {ps : List MemPlace} (hok : ∃ a n c, v = .slice a n c) (h : DataW.Trod enc P w 0 (fun _ => true) true t v d ps) :
    ∃ A c rows, v = .slice A rows.length c ∧ rows.length ≤ c ∧ c ≤ maxLen ∧ Rows2 w w.heap.size A rows ∧ (∀ k (hk : k < rows.length), rows[k].length ≤ maxLen) := by
  obtain ⟨a0, n0, c0, rfl⟩ := hok
  obtain ⟨fuel, hf⟩ := h
  rcases open_int_rows ht he hq ce cq hf with ⟨hcs, hx⟩ | ⟨a, len, cap, A, L, C, Z, hcs, _, hl, hm, hx, hr⟩
  · simp [Value.cells] at hcs
    obtain ⟨rfl, rfl, rfl⟩ := hcs
    exact ⟨none, 0, [], rfl, by simp, by simp [maxLen], ⟨[], rfl, Cells.nil_, fun k h => by simp at h⟩, fun k h => by simp at h⟩
  · simp [Value.cells] at hcs
    obtain ⟨rfl, rfl, rfl⟩ := hcs
    have hlen : ((List.range n0).map fun r => (Z r).take (L r)).length = n0 := by simp
    have hrow : ∀ k (hk : k < ((List.range n0).map fun r => (Z r).take (L r)).length), ((List.range n0).map fun r => (Z r).take (L r))[k] = (Z k).take (L k) := fun k hk => by simp
    have hZ : ∀ k, k < n0 → ((Z k).take (L k)).length = L k := fun k hk => by
      obtain ⟨_, h1, _, h3, _⟩ := hr k (by omega)
      simp; omega
    refine ⟨some a, c0, (List.range n0).map fun r => (Z r).take (L r), by rw [hlen], by omega, hm, ⟨(List.range n0).map fun r => .slice (A r) (L r) (C r), by simp, cells_of (fun k hk => ?_), fun k hk => ?_⟩, fun k hk => ?_⟩
    · simp only [List.length_map, List.length_range] at hk
      rw [(hr k (by omega)).1]
      simp
    · have hk' : k < n0 := by rw [hlen] at hk; exact hk
      obtain ⟨h0, h1, h2, h3, h4, h5, h6⟩ := hr k (by omega)
      refine ⟨A k, C k, ?_, ?_, ?_⟩
      · rw [hrow, hZ k hk']; exact h1
      · rw [hrow, hZ k hk']; simp [hk']
      · rw [hrow]
        cases hA : A k with
        | none =>
          have : L k = 0 := by have := h5 hA; omega
          rw [this]
          exact Cells.nil_
        | some a' =>
          refine cells_of (fun c hc => ?_)
          rw [ints_get]
          simp only [ints_length, hZ k hk'] at hc
          rw [(h6 a' hA).2 c (by omega)]
          simp [List.getD_eq_getElem?_getD, h3, Nat.lt_of_lt_of_le hc h1]
    · have hk' : k < n0 := by rw [hlen] at hk; exact hk
      obtain ⟨h0, h1, h2, h3, h4, h5, h6⟩ := hr k (by omega)
      rw [hrow, hZ k hk']
      omega
end
end Go.Proofs.YtdfegpohmaideaaGreatDoor
/- A position as an argument, opened. -/
namespace Go.Proofs.YtdfegpohmaideaaGreatDoor
open Go.RowKit Go.ChangeShapes Go.WideShapes Go.Deep Go.ChangeMaps

section
variable {H : Type} {enc : TypeId × Value → H} {w : World} {base : Nat} {spare : Nat → Bool} {held : Bool}

set_option maxRecDepth 100000 in
/-- the six cells of a position, wherever they stand -/
theorem trod_pos {fuel : Nat} {cs : List Value} {x : DataW H × List MemPlace} (h : DataW.trod enc Tryz.prog w base spare held fuel 24 cs = some x) :
    ∃ (a b : Int) (c : ByteArray) (t : Int) (h0 h1 : ByteArray), cs = [.int .i64 a, .int .i64 b, .string c, .int .i64 t, .string h0, .string h1] ∧ x.2 = [] ∧
      c.size ≤ 9223372036854775807 ∧ h0.size ≤ 9223372036854775807 ∧ h1.size ≤ 9223372036854775807 ∧ (-9223372036854775808 ≤ a ∧ a ≤ 9223372036854775807) ∧ (-9223372036854775808 ≤ b ∧ b ≤ 9223372036854775807) ∧ (-9223372036854775808 ≤ t ∧ t ≤ 9223372036854775807) := by
  obtain ⟨xs, n, _, hx, hlen, hxl, hg⟩ := DataW.trod_struct Tryz.underlying24 h
  have c6 : Tryz.prog.cellsOf 24 = 6 := by kernel_rfl
  have ci : Tryz.prog.cellsOf 3 = 1 := by kernel_rfl
  have cst : Tryz.prog.cellsOf 9 = 1 := by kernel_rfl
  have c2 : Tryz.prog.cellsOf 22 = 2 := by kernel_rfl
  rw [c6] at hlen
  match cs, hlen with
  | [e0, e1, e2, e3, e4, e5], _ =>
    match xs, hxl with
    | [y0, y1, y2, y3, y4], _ =>
      have g0 : DataW.trod enc Tryz.prog w base spare held n 3 (([e0, e1, e2, e3, e4, e5].drop 0).take (Tryz.prog.cellsOf 3)) = [y0, y1, y2, y3, y4][0]? := hg 0 _ rfl
      have g1 : DataW.trod enc Tryz.prog w base spare held n 3 (([e0, e1, e2, e3, e4, e5].drop 1).take (Tryz.prog.cellsOf 3)) = [y0, y1, y2, y3, y4][1]? := hg 1 _ rfl
      have g2 : DataW.trod enc Tryz.prog w base spare held n 9 (([e0, e1, e2, e3, e4, e5].drop 2).take (Tryz.prog.cellsOf 9)) = [y0, y1, y2, y3, y4][2]? := hg 2 _ rfl
      have g3 : DataW.trod enc Tryz.prog w base spare held n 3 (([e0, e1, e2, e3, e4, e5].drop 3).take (Tryz.prog.cellsOf 3)) = [y0, y1, y2, y3, y4][3]? := hg 3 _ rfl
      have g4 : DataW.trod enc Tryz.prog w base spare held n 22 (([e0, e1, e2, e3, e4, e5].drop 4).take (Tryz.prog.cellsOf 22)) = [y0, y1, y2, y3, y4][4]? := hg 4 _ rfl
      simp only [ci, cst, c2, List.drop_zero, List.drop_succ_cons, List.take_succ_cons, List.take_zero, List.getElem?_cons_zero, List.getElem?_cons_succ] at g0 g1 g2 g3 g4
      obtain ⟨a, ha, ea, wa⟩ := DataW.trod_int Tryz.underlying3 g0
      obtain ⟨b, hb, eb, wb⟩ := DataW.trod_int Tryz.underlying3 g1
      obtain ⟨c, hc, ec, wc⟩ := DataW.trod_string Tryz.underlying9 g2
      obtain ⟨t, ht, et, wt⟩ := DataW.trod_int Tryz.underlying3 g3
      obtain ⟨zs, m, _, hz, _, hzl, hzg⟩ := DataW.trod_array Tryz.underlying22 g4
      match zs, hzl with
      | [z0, z1], _ =>
        have k0 := hzg 0 (by omega)
        have k1 := hzg 1 (by omega)
        simp only [cst, Nat.zero_mul, Nat.one_mul, List.drop_zero, List.drop_succ_cons, List.take_succ_cons, List.take_zero, List.getElem?_cons_zero, List.getElem?_cons_succ] at k0 k1
        obtain ⟨h0, q0, r0, s0⟩ := DataW.trod_string Tryz.underlying9 k0
        obtain ⟨h1, q1, r1, s1⟩ := DataW.trod_string Tryz.underlying9 k1
        simp only [List.cons.injEq, and_true] at ha hb hc ht q0 q1
        have m1 : IntKind.i64.min = -9223372036854775808 := rfl
        have m2 : IntKind.i64.max = 9223372036854775807 := rfl
        simp [Lit.wf, m1, m2] at wa wb wt
        have m3 : maxLen = 9223372036854775807 := rfl
        rw [m3] at wc s0 s1
        refine ⟨a, b, c, t, h0, h1, by rw [ha, hb, hc, ht, q0, q1], ?_, by omega, by omega, by omega, wa, wb, wt⟩
        rw [hx]
        simp [ea, eb, ec, et, hz, r0, r1]

set_option maxRecDepth 100000 in
theorem open_pos {r : Reach} {b0 : Nat} {v : Value} {d : DataW H} {p : List MemPlace} (hv : Value.okWide Tryz.prog w r b0 24 v) (h : DataW.Trod enc Tryz.prog w base spare held 24 v d p) :
    ∃ (a b : Int) (c : ByteArray) (t : Int) (h0 h1 : ByteArray), v = .agg #[.int .i64 a, .int .i64 b, .string c, .int .i64 t, .string h0, .string h1] ∧ p = [] ∧
      c.size ≤ 9223372036854775807 ∧ h0.size ≤ 9223372036854775807 ∧ h1.size ≤ 9223372036854775807 ∧ (-9223372036854775808 ≤ a ∧ a ≤ 9223372036854775807) ∧ (-9223372036854775808 ≤ b ∧ b ≤ 9223372036854775807) ∧ (-9223372036854775808 ≤ t ∧ t ≤ 9223372036854775807) := by
  obtain ⟨cs, rfl, hsz⟩ := okWide_struct Tryz.underlying24 hv
  obtain ⟨fuel, hf⟩ := h
  obtain ⟨a, b, c, t, h0, h1, hcs, hp, rest⟩ := trod_pos hf
  obtain ⟨l⟩ := cs
  refine ⟨a, b, c, t, h0, h1, ?_, hp, rest⟩
  have hcs2 : l = [.int .i64 a, .int .i64 b, .string c, .int .i64 t, .string h0, .string h1] := by simpa [Value.cells] using hcs
  rw [hcs2]
end
end Go.Proofs.YtdfegpohmaideaaGreatDoor
/- Rules as an argument, opened. -/
namespace Go.Proofs.YtdfegpohmaideaaGreatDoor
open Go.RowKit Go.ChangeShapes Go.WideShapes Go.Deep Go.ChangeMaps

theorem each_of {α : Type} {P : Nat → α → Prop} : ∀ {n : Nat} (_ : ∀ i, i < n → ∃ x, P i x), ∃ xs : List α, xs.length = n ∧ ∀ i (hi : i < xs.length), P i xs[i]
  | 0, _ => ⟨[], rfl, fun i hi => absurd hi (by simp)⟩
  | n + 1, h => by
    obtain ⟨xs, hl, hx⟩ := each_of (n := n) (fun i hi => h i (by omega))
    obtain ⟨x, hp⟩ := h n (by omega)
    refine ⟨xs ++ [x], by simp [hl], fun i hi => ?_⟩
    by_cases hi' : i < xs.length
    · rw [List.getElem_append_left hi']; exact hx i hi'
    · have : i = n := by simp at hi; omega
      subst this
      rw [List.getElem_append_right (by omega)]
      simpa [hl] using hp
theorem flat_get {α : Type} (f : α → List Value) (k : Nat) (hf : ∀ x, (f x).length = k) : ∀ (xs : List α) (i j : Nat) (hi : i < xs.length), j < k → (xs.flatMap f)[i * k + j]? = (f xs[i])[j]?
  | [], i, _, hi, _ => absurd hi (by simp)
  | x :: xs, 0, j, _, hj => by
    rw [List.flatMap_cons, Nat.zero_mul, Nat.zero_add, List.getElem?_append_left (by rw [hf]; exact hj)]
    rfl
  | x :: xs, i + 1, j, hi, hj => by
    have e : (i + 1) * k + j = k + (i * k + j) := by rw [Nat.succ_mul]; omega
    rw [List.flatMap_cons, e, List.getElem?_append_right (by rw [hf]; omega), hf, Nat.add_sub_cancel_left, flat_get f k hf xs i j (by simpa using hi) hj]
    rfl
theorem flat_length {α : Type} (f : α → List Value) (k : Nat) (hf : ∀ x, (f x).length = k) : ∀ xs : List α, (xs.flatMap f).length = xs.length * k
  | [] => by simp
  | x :: xs => by rw [List.flatMap_cons, List.length_append, hf, flat_length f k hf xs, List.length_cons, Nat.succ_mul]; omega

section
variable {H : Type} {enc : TypeId × Value → H} {w : World} {base : Nat} {spare : Nat → Bool} {held : Bool}

theorem cells_rows {α : Type} (f : α → List Value) (k : Nat) (hk : 0 < k) (hf : ∀ x, (f x).length = k) (a : Addr) (xs : List α) (h : ∀ i (hi : i < xs.length), w.cells? base (a.add (i * k)) k = some (f xs[i])) :
    Cells w w.heap.size (some a) (xs.flatMap f) := by
  refine cells_of (fun j hj => ?_)
  rw [flat_length f k hf] at hj
  have hi : j / k < xs.length := (Nat.div_lt_iff_lt_mul hk).2 hj
  have hjk : j % k < k := Nat.mod_lt _ hk
  obtain ⟨_, _, h1⟩ := World.cells?_some (h _ hi)
  have h2 := h1 (j % k) hjk
  have hdm : j / k * k + j % k = j := by rw [Nat.mul_comm]; exact Nat.div_add_mod j k
  have ha : a = ⟨a.block, a.off, none⟩ := by
    obtain ⟨_, _, z1⟩ := World.cells?_some (h 0 (Nat.lt_of_le_of_lt (Nat.zero_le _) hi))
    have hz : 0 < (f (xs[0]'(Nat.lt_of_le_of_lt (Nat.zero_le _) hi))).length := by rw [hf]; exact hk
    have z2 := addr_of_cell ((z1 0 hk).trans (List.getElem?_eq_getElem hz))
    simpa [Addr.add] using z2
  have e0 : (a.add (j / k * k)).add (j % k) = a.add j := by
    rw [ha]
    simp only [Addr.add_lit]
    rw [Nat.add_assoc, hdm]
  rw [e0] at h2
  rw [h2, ← flat_get f k hf xs (j / k) (j % k) hi hjk, hdm, List.getElem?_eq_getElem (by rw [flat_length f k hf]; exact hj)]

def wayV (r : WayD) : List Value := [.int .i64 r.kind, .int .i64 r.x, .int .i64 r.y, .int .i64 r.take]
theorem wayV_flat (ws : List WayD) : ws.flatMap wayV = ints (flatW ws) := by
  induction ws with
  | nil => rfl
  | cons x ws ih => rw [List.flatMap_cons, ih]; simp [flatW, ints, wayV]
set_option maxRecDepth 100000 in
theorem trod_way {fuel : Nat} {cs : List Value} {x : DataW H × List MemPlace} (h : DataW.trod enc Tryz.prog w base spare held fuel 70 cs = some x) : ∃ r : WayD, cs = wayV r := by
  obtain ⟨xs, n, _, hx, hlen, hxl, hg⟩ := DataW.trod_struct Tryz.underlying70 h
  have c6 : Tryz.prog.cellsOf 70 = 4 := by kernel_rfl
  have ci : Tryz.prog.cellsOf 3 = 1 := by kernel_rfl
  rw [c6] at hlen
  match cs, hlen with
  | [e0, e1, e2, e3], _ =>
    match xs, hxl with
    | [y0, y1, y2, y3], _ =>
      have g0 : DataW.trod enc Tryz.prog w base spare held n 3 (([e0, e1, e2, e3].drop 0).take (Tryz.prog.cellsOf 3)) = [y0, y1, y2, y3][0]? := hg 0 _ rfl
      have g1 : DataW.trod enc Tryz.prog w base spare held n 3 (([e0, e1, e2, e3].drop 1).take (Tryz.prog.cellsOf 3)) = [y0, y1, y2, y3][1]? := hg 1 _ rfl
      have g2 : DataW.trod enc Tryz.prog w base spare held n 3 (([e0, e1, e2, e3].drop 2).take (Tryz.prog.cellsOf 3)) = [y0, y1, y2, y3][2]? := hg 2 _ rfl
      have g3 : DataW.trod enc Tryz.prog w base spare held n 3 (([e0, e1, e2, e3].drop 3).take (Tryz.prog.cellsOf 3)) = [y0, y1, y2, y3][3]? := hg 3 _ rfl
      simp only [ci, List.drop_zero, List.drop_succ_cons, List.take_succ_cons, List.take_zero, List.getElem?_cons_zero, List.getElem?_cons_succ] at g0 g1 g2 g3
      obtain ⟨a, ha, _, _⟩ := DataW.trod_int Tryz.underlying3 g0
      obtain ⟨b, hb, _, _⟩ := DataW.trod_int Tryz.underlying3 g1
      obtain ⟨c, hc, _, _⟩ := DataW.trod_int Tryz.underlying3 g2
      obtain ⟨d, hd, _, _⟩ := DataW.trod_int Tryz.underlying3 g3
      simp only [List.cons.injEq, and_true] at ha hb hc hd
      exact ⟨⟨a, b, c, d⟩, by rw [ha, hb, hc, hd]; rfl⟩
theorem trod_ways {fuel : Nat} {cs : List Value} {x : DataW H × List MemPlace} (h : DataW.trod enc Tryz.prog w base spare held fuel 64 cs = some x) :
    ∃ A c ws, cs = [.slice A ws.length c] ∧ ws.length ≤ c ∧ c ≤ maxLen ∧ WaysAt w w.heap.size A ws := by
  have c4 : Tryz.prog.cellsOf 70 = 4 := by kernel_rfl
  rcases DataW.trod_slice Tryz.underlying64 h with ⟨hcs, _⟩ | ⟨a, len, cap, elems, rest, n, _, hcs, _, _, hl, hm, he, hg, _⟩
  · exact ⟨none, 0, [], hcs, by simp, by simp [maxLen], Cells.nil_⟩
  · rw [c4] at hg
    have hall : ∀ i, i < len → ∃ r : WayD, w.cells? base (a.add (i * 4)) 4 = some (wayV r) := fun i hi => by
      have h1 := hg i hi
      rw [List.getElem?_eq_getElem (by omega)] at h1
      obtain ⟨cs, q1, q2⟩ := Option.bind_eq_some_iff.1 h1
      obtain ⟨r, rfl⟩ := trod_way q2
      exact ⟨r, q1⟩
    obtain ⟨ws, hlen, hws⟩ := each_of hall
    subst hlen
    refine ⟨some a, cap, ws, hcs, hl, hm, ?_⟩
    have := cells_rows wayV 4 (by decide) (fun _ => rfl) a ws hws
    rw [wayV_flat] at this
    exact this
/-- a piece, with where its ways lie -/
def pieceV (z : PieceD × (Option Addr × Nat)) : List Value := [.int .u8 z.1.letter, .int .i64 z.1.worth, .slice z.2.1 z.1.ways.length z.2.2]
theorem pieceV_flat : ∀ zs : List (PieceD × (Option Addr × Nat)), zs.flatMap pieceV = cellsP (zs.map (·.1)) (zs.map (·.2))
  | [] => rfl
  | z :: zs => by rw [List.flatMap_cons, pieceV_flat zs]; rfl
set_option maxRecDepth 100000 in
theorem trod_piece {fuel : Nat} {cs : List Value} {x : DataW H × List MemPlace} (h : DataW.trod enc Tryz.prog w base spare held fuel 66 cs = some x) :
    ∃ z : PieceD × (Option Addr × Nat), cs = pieceV z ∧ z.1.ways.length ≤ z.2.2 ∧ z.2.2 ≤ maxLen ∧ WaysAt w w.heap.size z.2.1 z.1.ways := by
  obtain ⟨xs, n, _, hx, hlen, hxl, hg⟩ := DataW.trod_struct Tryz.underlying66 h
  have c6 : Tryz.prog.cellsOf 66 = 3 := by kernel_rfl
  have ci : Tryz.prog.cellsOf 3 = 1 := by kernel_rfl
  have cu : Tryz.prog.cellsOf 5 = 1 := by kernel_rfl
  have cs1 : Tryz.prog.cellsOf 64 = 1 := by kernel_rfl
  rw [c6] at hlen
  match cs, hlen with
  | [e0, e1, e2], _ =>
    match xs, hxl with
    | [y0, y1, y2], _ =>
      have g0 : DataW.trod enc Tryz.prog w base spare held n 5 (([e0, e1, e2].drop 0).take (Tryz.prog.cellsOf 5)) = [y0, y1, y2][0]? := hg 0 _ rfl
      have g1 : DataW.trod enc Tryz.prog w base spare held n 3 (([e0, e1, e2].drop 1).take (Tryz.prog.cellsOf 3)) = [y0, y1, y2][1]? := hg 1 _ rfl
      have g2 : DataW.trod enc Tryz.prog w base spare held n 64 (([e0, e1, e2].drop 2).take (Tryz.prog.cellsOf 64)) = [y0, y1, y2][2]? := hg 2 _ rfl
      simp only [ci, cu, cs1, List.drop_zero, List.drop_succ_cons, List.take_succ_cons, List.take_zero, List.getElem?_cons_zero, List.getElem?_cons_succ] at g0 g1 g2
      obtain ⟨a, ha, _, wa⟩ := DataW.trod_int Tryz.underlying5 g0
      obtain ⟨b, hb, _, _⟩ := DataW.trod_int Tryz.underlying3 g1
      obtain ⟨A, c, ws, hc, hl, hm, hw⟩ := trod_ways g2
      simp only [List.cons.injEq, and_true] at ha hb hc
      have m1 : IntKind.u8.min = 0 := rfl
      have m2 : IntKind.u8.max = 255 := rfl
      simp [Lit.wf, m1, m2] at wa
      refine ⟨(⟨a.toNat, b, ws⟩, (A, c)), ?_, hl, hm, hw⟩
      rw [ha, hb, hc]
      simp only [pieceV]
      rw [show ((a.toNat : Nat) : Int) = a by omega]
theorem trod_pieces {fuel : Nat} {cs : List Value} {x : DataW H × List MemPlace} (h : DataW.trod enc Tryz.prog w base spare held fuel 25 cs = some x) :
    ∃ A c ps, cs = [.slice A ps.length c] ∧ ps.length ≤ maxLen ∧ (∀ k (h : k < ps.length), ps[k].ways.length ≤ maxLen) ∧ PiecesAt w w.heap.size A ps := by
  have c3 : Tryz.prog.cellsOf 66 = 3 := by kernel_rfl
  rcases DataW.trod_slice Tryz.underlying25 h with ⟨hcs, _⟩ | ⟨a, len, cap, elems, rest, n, _, hcs, _, _, hl, hm, he, hg, _⟩
  · exact ⟨none, 0, [], hcs, by simp [maxLen], fun k h => by simp at h, [], rfl, Cells.nil_, fun k h => by simp at h⟩
  · rw [c3] at hg
    have hall : ∀ i, i < len → ∃ z : PieceD × (Option Addr × Nat), w.cells? base (a.add (i * 3)) 3 = some (pieceV z) ∧ z.1.ways.length ≤ z.2.2 ∧ z.2.2 ≤ maxLen ∧ WaysAt w w.heap.size z.2.1 z.1.ways := fun i hi => by
      have h1 := hg i hi
      rw [List.getElem?_eq_getElem (by omega)] at h1
      obtain ⟨cs, q1, q2⟩ := Option.bind_eq_some_iff.1 h1
      obtain ⟨z, rfl, q3⟩ := trod_piece q2
      exact ⟨z, q1, q3⟩
    obtain ⟨zs, hlen, hzs⟩ := each_of hall
    subst hlen
    refine ⟨some a, cap, zs.map (·.1), by rw [List.length_map]; exact hcs, by rw [List.length_map]; omega, fun k hk => ?_, zs.map (·.2), by simp, ?_, fun k hk => ?_⟩
    · rw [List.length_map] at hk
      rw [List.getElem_map]
      have := hzs k hk
      omega
    · have := cells_rows pieceV 3 (by decide) (fun _ => rfl) a zs (fun i hi => (hzs i hi).1)
      rw [pieceV_flat] at this
      exact this
    · rw [List.length_map] at hk
      rw [List.getElem_map, List.getElem_map]
      exact ⟨(hzs k hk).2.1, (hzs k hk).2.2.2⟩
set_option maxRecDepth 100000 in
theorem trod_rules {fuel : Nat} {cs : List Value} {x : DataW H × List MemPlace} (h : DataW.trod enc Tryz.prog w base spare held fuel 27 cs = some x) :
    ∃ (r : RulesD) (A : Option Addr) (cp : Nat), cs.toArray = #[.int .i64 r.start.w, .int .i64 r.start.h, .string r.start.cells, .int .i64 r.start.turn, .string r.start.h0, .string r.start.h1, .slice A r.pieces.length cp, .bool r.drops, .int .u8 r.lose, .int .i64 r.line, .int .u8 r.reach, .bool r.stuck, .int .i64 r.plies] ∧ RFit r ∧ PiecesAt w w.heap.size A r.pieces := by
  obtain ⟨xs, n, _, hx, hlen, hxl, hg⟩ := DataW.trod_struct Tryz.underlying27 h
  have c13 : Tryz.prog.cellsOf 27 = 13 := by kernel_rfl
  have c6 : Tryz.prog.cellsOf 24 = 6 := by kernel_rfl
  have ci : Tryz.prog.cellsOf 3 = 1 := by kernel_rfl
  have cu : Tryz.prog.cellsOf 5 = 1 := by kernel_rfl
  have cb : Tryz.prog.cellsOf 4 = 1 := by kernel_rfl
  have cs1 : Tryz.prog.cellsOf 25 = 1 := by kernel_rfl
  rw [c13] at hlen
  match cs, hlen with
  | [e0, e1, e2, e3, e4, e5, e6, e7, e8, e9, e10, e11, e12], _ =>
    match xs, hxl with
    | [y0, y1, y2, y3, y4, y5, y6, y7], _ =>
      have g0 : DataW.trod enc Tryz.prog w base spare held n 24 (([e0, e1, e2, e3, e4, e5, e6, e7, e8, e9, e10, e11, e12].drop 0).take (Tryz.prog.cellsOf 24)) = [y0, y1, y2, y3, y4, y5, y6, y7][0]? := hg 0 _ rfl
      have g1 : DataW.trod enc Tryz.prog w base spare held n 25 (([e0, e1, e2, e3, e4, e5, e6, e7, e8, e9, e10, e11, e12].drop 6).take (Tryz.prog.cellsOf 25)) = [y0, y1, y2, y3, y4, y5, y6, y7][1]? := hg 1 _ rfl
      have g2 : DataW.trod enc Tryz.prog w base spare held n 4 (([e0, e1, e2, e3, e4, e5, e6, e7, e8, e9, e10, e11, e12].drop 7).take (Tryz.prog.cellsOf 4)) = [y0, y1, y2, y3, y4, y5, y6, y7][2]? := hg 2 _ rfl
      have g3 : DataW.trod enc Tryz.prog w base spare held n 5 (([e0, e1, e2, e3, e4, e5, e6, e7, e8, e9, e10, e11, e12].drop 8).take (Tryz.prog.cellsOf 5)) = [y0, y1, y2, y3, y4, y5, y6, y7][3]? := hg 3 _ rfl
      have g4 : DataW.trod enc Tryz.prog w base spare held n 3 (([e0, e1, e2, e3, e4, e5, e6, e7, e8, e9, e10, e11, e12].drop 9).take (Tryz.prog.cellsOf 3)) = [y0, y1, y2, y3, y4, y5, y6, y7][4]? := hg 4 _ rfl
      have g5 : DataW.trod enc Tryz.prog w base spare held n 5 (([e0, e1, e2, e3, e4, e5, e6, e7, e8, e9, e10, e11, e12].drop 10).take (Tryz.prog.cellsOf 5)) = [y0, y1, y2, y3, y4, y5, y6, y7][5]? := hg 5 _ rfl
      have g6 : DataW.trod enc Tryz.prog w base spare held n 4 (([e0, e1, e2, e3, e4, e5, e6, e7, e8, e9, e10, e11, e12].drop 11).take (Tryz.prog.cellsOf 4)) = [y0, y1, y2, y3, y4, y5, y6, y7][6]? := hg 6 _ rfl
      have g7 : DataW.trod enc Tryz.prog w base spare held n 3 (([e0, e1, e2, e3, e4, e5, e6, e7, e8, e9, e10, e11, e12].drop 12).take (Tryz.prog.cellsOf 3)) = [y0, y1, y2, y3, y4, y5, y6, y7][7]? := hg 7 _ rfl
      simp only [c6, ci, cu, cb, cs1, List.drop_zero, List.drop_succ_cons, List.take_succ_cons, List.take_zero, List.getElem?_cons_zero, List.getElem?_cons_succ] at g0 g1 g2 g3 g4 g5 g6 g7
      obtain ⟨a, b, c, t, h0, h1, ha, _, hc, hh0, hh1, _⟩ := trod_pos g0
      obtain ⟨A, cp, ps, hp, hpl, hpw, hpa⟩ := trod_pieces g1
      obtain ⟨dr, hdr, _⟩ := DataW.trod_bool Tryz.underlying4 g2
      obtain ⟨lo, hlo, _, wlo⟩ := DataW.trod_int Tryz.underlying5 g3
      obtain ⟨li, hli, _, _⟩ := DataW.trod_int Tryz.underlying3 g4
      obtain ⟨re, hre, _, wre⟩ := DataW.trod_int Tryz.underlying5 g5
      obtain ⟨st, hst, _⟩ := DataW.trod_bool Tryz.underlying4 g6
      obtain ⟨pl, hpl2, _, _⟩ := DataW.trod_int Tryz.underlying3 g7
      simp only [List.cons.injEq, and_true] at ha hp hdr hlo hli hre hst hpl2
      obtain ⟨a0, a1, a2, a3, a4, a5⟩ := ha
      have m1 : IntKind.u8.min = 0 := rfl
      have m2 : IntKind.u8.max = 255 := rfl
      simp [Lit.wf, m1, m2] at wlo wre
      have m3 : maxLen = 9223372036854775807 := rfl
      refine ⟨⟨⟨a, b, c, t, h0, h1⟩, ps, dr, lo.toNat, li, re.toNat, st, pl⟩, A, cp, ?_, ⟨hc, hh0, hh1, by rw [← m3]; exact hpl, fun k h => by rw [← m3]; exact hpw k h⟩, hpa⟩
      rw [a0, a1, a2, a3, a4, a5, hp, hdr, hlo, hli, hre, hst, hpl2]
      simp only
      rw [show ((lo.toNat : Nat) : Int) = lo by omega, show ((re.toNat : Nat) : Int) = re by omega]
set_option maxRecDepth 100000 in
theorem open_rules {r0 : Reach} {b0 : Nat} {v : Value} {d : DataW H} {p : List MemPlace} (hv : Value.okWide Tryz.prog w r0 b0 27 v) (h : DataW.Trod enc Tryz.prog w base spare held 27 v d p) :
    ∃ (r : RulesD) (A : Option Addr) (cp : Nat), v = .agg #[.int .i64 r.start.w, .int .i64 r.start.h, .string r.start.cells, .int .i64 r.start.turn, .string r.start.h0, .string r.start.h1, .slice A r.pieces.length cp, .bool r.drops, .int .u8 r.lose, .int .i64 r.line, .int .u8 r.reach, .bool r.stuck, .int .i64 r.plies] ∧ RFit r ∧ PiecesAt w w.heap.size A r.pieces := by
  obtain ⟨cs, rfl, hsz⟩ := okWide_struct Tryz.underlying27 hv
  obtain ⟨fuel, hf⟩ := h
  obtain ⟨r, A, cp, hcs, h1, h2⟩ := trod_rules hf
  obtain ⟨l⟩ := cs
  refine ⟨r, A, cp, ?_, h1, h2⟩
  exact congrArg Value.agg hcs
set_option maxRecDepth 100000 in
theorem open_move {r0 : Reach} {b0 : Nat} {v : Value} {d : DataW H} {p : List MemPlace} (hv : Value.okWide Tryz.prog w r0 b0 29 v) (h : DataW.Trod enc Tryz.prog w base spare held 29 v d p) :
    ∃ (f t : Int) (c : Nat), v = .agg #[.int .i64 f, .int .i64 t, .int .u8 c] := by
  obtain ⟨cs, rfl, hsz⟩ := okWide_struct Tryz.underlying29 hv
  obtain ⟨fuel, hf⟩ := h
  obtain ⟨xs, n, _, hx, hlen, hxl, hg⟩ := DataW.trod_struct Tryz.underlying29 hf
  have c6 : Tryz.prog.cellsOf 29 = 3 := by kernel_rfl
  have ci : Tryz.prog.cellsOf 3 = 1 := by kernel_rfl
  have cu : Tryz.prog.cellsOf 5 = 1 := by kernel_rfl
  obtain ⟨l⟩ := cs
  rw [c6] at hlen
  have hl3 : l.length = 3 := by simpa [Value.cells] using hlen
  match l, hl3 with
  | [e0, e1, e2], _ =>
    match xs, hxl with
    | [y0, y1, y2], _ =>
      have g0 : DataW.trod enc Tryz.prog w base spare held n 3 (([e0, e1, e2].drop 0).take (Tryz.prog.cellsOf 3)) = [y0, y1, y2][0]? := hg 0 _ rfl
      have g1 : DataW.trod enc Tryz.prog w base spare held n 3 (([e0, e1, e2].drop 1).take (Tryz.prog.cellsOf 3)) = [y0, y1, y2][1]? := hg 1 _ rfl
      have g2 : DataW.trod enc Tryz.prog w base spare held n 5 (([e0, e1, e2].drop 2).take (Tryz.prog.cellsOf 5)) = [y0, y1, y2][2]? := hg 2 _ rfl
      simp only [ci, cu, List.drop_zero, List.drop_succ_cons, List.take_succ_cons, List.take_zero, List.getElem?_cons_zero, List.getElem?_cons_succ] at g0 g1 g2
      obtain ⟨a, ha, _, _⟩ := DataW.trod_int Tryz.underlying3 g0
      obtain ⟨b, hb, _, _⟩ := DataW.trod_int Tryz.underlying3 g1
      obtain ⟨c, hc, _, wc⟩ := DataW.trod_int Tryz.underlying5 g2
      simp only [List.cons.injEq, and_true] at ha hb hc
      have m1 : IntKind.u8.min = 0 := rfl
      have m2 : IntKind.u8.max = 255 := rfl
      simp [Lit.wf, m1, m2] at wc
      refine ⟨a, b, c.toNat, ?_⟩
      rw [ha, hb, hc, show ((c.toNat : Nat) : Int) = c by omega]
end
end Go.Proofs.YtdfegpohmaideaaGreatDoor
/- What every law's proof ends with: where a call answers true and leaves all that was there as it was, the row's post-condition holds. -/
namespace Go.Proofs.YtdfegpohmaideaaGreatDoor
open Go.RowKit Go.WideShapes Go.ChangeShapes
theorem trodAll_stays {H : Type} {enc : TypeId × Value → H} {P : Program} (hl : laidOutB P = true) {W W' : World} (hb : Below W.heap.size W W') {sp' : Nat → Bool} :
    ∀ (ts : List TypeId) (vs : List Value) (ds : List (DataW H)) (ps : List MemPlace), (∀ t ∈ ts, P.readableRec t = true ∧ t < P.types.size) →
      (∀ p ∈ ps, p.block < W.heap.size) → (∀ p ∈ ps, sp' p.block = true) →
      DataW.TrodAll enc P W 0 (fun _ => true) true ts vs ds ps → DataW.TrodAll enc P W' 0 sp' true ts vs ds ps
  | [], [], [], _, _, _, _, h => h
  | t :: ts, v :: vs, d :: ds, ps, hr, hlt, hs, h => by
    obtain ⟨p, q, h1, h2, rfl⟩ := h
    refine ⟨p, q, WideElems.Trod_stays hl (hr t (by simp)).1 (hr t (by simp)).2 h1 (fun x hx => hb.same (hlt x (by simp [hx]))) (fun x hx => hs x (by simp [hx])), ?_, rfl⟩
    exact trodAll_stays hl hb ts vs ds q (fun t ht => hr t (by simp [ht])) (fun x hx => hlt x (by simp [hx])) (fun x hx => hs x (by simp [hx])) h2
  | [], _ :: _, _, _, _, _, _, h => h.elim
  | [], [], _ :: _, _, _, _, _, h => h.elim
  | _ :: _, [], _, _, _, _, _, h => h.elim
  | _ :: _, _ :: _, [], _, _, _, _, h => h.elim

theorem law_post {H : Type} {enc : TypeId × Value → H} {P : Program} {f : Func} {s : ChangeSpec} {W W' : World} {args : Array Value} {ds : List (DataW H)} {before : List MemPlace} {tb : TypeId}
    (hl : laidOutB P = true) (hread0 : (f.params.toList.all fun t => P.readableRec t && decide (t < P.types.size)) = true)
    (hW : DataW.Whole enc P f.params.toList s.vars false W args.toList ds [] before)
    (hvars : s.vars = []) (hrt : f.resultTypes = #[tb]) (ht : P.underlying tb = some .bool)
    (hres : (s.fn H (ds ++ [])).results = [.lit (.bool true)]) (hargs : (s.fn H (ds ++ [])).args = ds) (hvs : (s.fn H (ds ++ [])).vars = [])
    (hb : Below W.heap.size W W') :
    s.post enc P f false true false false W args (.bool true) W' := by
  have hread : ∀ t ∈ f.params.toList, P.readableRec t = true ∧ t < P.types.size := fun t ht => by
    have := List.all_eq_true.1 hread0 t ht
    simpa using this
  have hlt : ∀ p ∈ before, p.block < W.heap.size := fun p hp => hW.lt p hp
  obtain ⟨p, q, hA, hV, hpq, hz, hn⟩ := id hW
  rw [hvars] at hV
  obtain ⟨_, rfl⟩ := trodVars_none hV
  have hp : p = before := by rw [hpq]; simp
  rw [hp] at hA
  have args' : ∀ sp : Nat → Bool, (∀ x ∈ before, sp x.block = true) → DataW.TrodAll enc P W' 0 sp true f.params.toList args.toList (s.fn H (ds ++ [])).args before := fun sp hsp => by
    rw [hargs]; exact trodAll_stays hl hb _ _ _ _ hread hlt hsp hA
  have res' : ∀ (b : Nat) (sp : Nat → Bool) (hd : Bool), DataW.TrodAll enc P W' b sp hd f.resultTypes.toList ((Value.bool true).resultList f.resultTypes.size) (s.fn H (ds ++ [])).results [] := fun _ _ _ => by
    rw [hres, hrt]; exact trodAll_mk1 (shut_bool ht _)
  have vars' : ∀ sp : Nat → Bool, DataW.TrodVars enc P W' sp s.vars (s.fn H (ds ++ [])).vars [] := fun sp => by rw [hvs, hvars]; rfl
  refine ⟨ds, [], before, [], before, [], hW, res' _ _ _, args' _ (fun x hx => by simpa using hlt x hx), vars' _, ?_, fun _ => ?_⟩
  · exact World.keptBut_mono (fun x hx => ⟨hx, .inr (.inl hx)⟩) (hb.frame (· ∈ before))
  · refine ⟨ok_one hrt rfl (okWide_bool_mk ht _), (s.fn H (ds ++ [])).results ++ (s.fn H (ds ++ [])).args, (s.fn H (ds ++ [])).vars, ([] ++ before) ++ [], ⟨[] ++ before, [], ?_, vars' (fun _ => true), rfl, ?_, fun h => by cases h⟩, ?_⟩
    · exact trodAll_append (args' (fun _ => true) (fun _ _ => rfl)) (res' 0 (fun _ => true) true)
    · intro b off hin
      have hin' : MemPlace.cell b off ∈ before := by simpa using hin
      rw [hb.frozen (hlt _ hin')]
      exact hz b off hin'
    · intro x hx _
      simpa using hx
end Go.Proofs.YtdfegpohmaideaaGreatDoor
/- gamelaw.MovesTexts answers true and leaves what was there as it was, for all rules, every position, move, text and depth, where bits.deBruijn32tab, deBruijn64tab and strconv.uint64pow10 hold what the library lays in them (tied to its text). -/
namespace Go.Proofs.YtdfegpohmaideaaGreatDoor
open Go.ChangeShapes Go.WideShapes Go.ChangeAt Go.RowKit Go.ChangeMaps

theorem laidOut_movesTexts : laidOutB Tryz.prog = true := by kernel_rfl

set_option maxRecDepth 100000 in
theorem movesTexts_lifted (os : Os) (started : os.Started) (H : Type) (enc : TypeId × Value → H) :
    ReturnsInHanded {} Tryz.checked os 3 .any (fun w args => (Rows.movesTextsSpec.pre enc Tryz.prog Tryz.f3 [] false w args ∧ laidMetH Tryz.prog laid3 w) ∧ sizedMet enc Tryz.prog Tryz.f3 (OpenSpec.ofChange Rows.movesTextsSpec) false w args)
      (Rows.movesTextsSpec.post enc Tryz.prog Tryz.f3 false true false false) := by
  refine returnsInHanded_of_change_and (C := Tryz.checked) (X := fun w _ => laidMetH Tryz.prog laid3 w) (fun _ _ _ hh h => h.of_heap hh) own_door started (by kernel_rfl) Tryz.func3
    (ChangeSpec.witness_shaped (enc := enc) (C := Tryz.checked) (os := os) (X := fun w _ => laidMetH Tryz.prog laid3 w) false (World.doorLaid Tryz.prog 100 os) #[.agg #[.int .i64 0, .int .i64 0, .string ByteArray.empty, .int .i64 0, .string ByteArray.empty, .string ByteArray.empty, .slice none 0 0, .bool false, .int .u8 0, .int .i64 0, .int .u8 0, .bool false, .int .i64 0], .agg #[.int .i64 0, .int .i64 0, .string ByteArray.empty, .int .i64 0, .string ByteArray.empty, .string ByteArray.empty], .agg #[.int .i64 0, .int .i64 0, .int .u8 0], .string ByteArray.empty, .int .i64 0] 8 rfl (World.shaped_of_RefB (by kernel_rfl) (by kernel_rfl)) (by kernel_rfl) (by kernel_rfl) (by kernel_rfl) (door_met os _)) ?_
  intro W base args ds gs before hval0 hW _ _ _ _
  have hval : ∀ (j : Nat) t v, Tryz.f3.params[j]? = some t → args[j]? = some v → Value.okWide Tryz.prog W .any base t v := hval0
  obtain ⟨p, q, hA0, hV, hpq, hfz, hnd⟩ := id hW
  have hA : DataW.TrodAll enc Tryz.prog W 0 (fun _ => true) true Tryz.f3.params.toList args.toList ds p := hA0
  obtain ⟨rfl, -⟩ := trodVars_none hV
  rw [Tryz.params3] at hA hval
  obtain ⟨v0, v1, v2, v3, v4, d0, d1, d2, d3, d4, p0, p1, p2, p3, p4, rfl, rfl, rfl, h0, h1, h2, h3, h4⟩ := trodAll_five hA
  obtain ⟨r, Ar, cr, rfl, hfr, hPr⟩ := open_rules (hval 0 27 v0 rfl rfl) h0
  obtain ⟨wp, hp, cp, tp, z0p, z1p, rfl, rfl, hcp, hyp, hzp, -, -, -⟩ := open_pos (hval 1 24 v1 rfl rfl) h1
  obtain ⟨mf, mt, mc, rfl⟩ := open_move (hval 2 29 v2 rfl rfl) h2
  obtain ⟨s, rfl, rfl, rfl, -⟩ := open_string Tryz.underlying9 (hval 3 9 v3 rfl rfl) h3
  obtain ⟨dp, rfl, rfl, rfl, -⟩ := open_int Tryz.underlying3 (hval 4 3 v4 rfl rfl) h4

  refine (mt_any r Ar cr ⟨wp, hp, cp, tp, z0p, z1p⟩ ⟨mf, mt, mc⟩ s dp W hfr ⟨hcp, hyp, hzp⟩ hPr).mono fun e W' ⟨he, hg⟩ => ?_
  subst he
  exact ⟨_, rfl, law_post laidOut_movesTexts (by kernel_rfl) hW rfl rfl Tryz.underlying4 rfl rfl rfl hg⟩

theorem movesTexts_row : Rows.MovesTextsSaid :=
  OpenClaim.holds_of_wide 3 Tryz.f3 rfl rfl rfl rfl rfl rfl rfl ⟨rfl, rfl, rfl, rfl, rfl⟩ rfl rfl rfl rfl rfl (by kernel_rfl) Tryz.func3 (by kernel_rfl)
    (of_decide_eq_true (by kernel_rfl)) (by unfold Func.isWrapper; first | (rw [if_pos (by decide +kernel)]; kernel_rfl) | (rw [if_neg (by decide +kernel)]; exact ⟨rfl, rfl⟩))
    (fun os started H enc _ => movesTexts_lifted os started H enc)

theorem movesTexts_holds : Rows.MovesTextsCardSaid :=
  Claim7.holds_tied_plain_at .later [] [.data, .data, .data] true (true, "ff6b6454bfbe956bfcaacecb100cd40ee450ce1d71fd6524387d021b02f0c622") false
    movesTexts_row (fun _ h => by cases h) (by kernel_rfl) (fun _ h => by cases h) movesTexts_row_tie rfl ⟨rfl, rfl⟩ (by kernel_rfl) rfl
    (fun f fn hf hfn => by
      obtain rfl : f = 3 := Option.some.inj ((show Tryz.prog.funcNamed "parlour/gamelaw.MovesTexts" = some 3 by kernel_rfl).symm.trans hf) |>.symm
      obtain rfl : fn = Tryz.f3 := (Option.some.inj (Tryz.func3.symm.trans hfn)).symm
      exact ⟨by kernel_rfl, fun j t ht => by
        rw [Tryz.params3] at ht
        have h3 : t = 27 ∨ t = 24 ∨ t = 29 ∨ t = 9 ∨ t = 3 := by
          rcases j with _ | _ | _ | _ | _ | j
          · exact .inl (by simpa using ht.symm)
          · exact .inr (.inl (by simpa using ht.symm))
          · exact .inr (.inr (.inl (by simpa using ht.symm)))
          · exact .inr (.inr (.inr (.inl (by simpa using ht.symm))))
          · exact .inr (.inr (.inr (.inr (by simpa using ht.symm))))
          · simp at ht
        rcases h3 with h3 | h3 | h3 | h3 | h3
        · subst h3
          exact (show Tryz.prog.wantsStandIn 27 = false by kernel_rfl)
        · subst h3
          exact (show Tryz.prog.wantsStandIn 24 = false by kernel_rfl)
        · subst h3
          exact (show Tryz.prog.wantsStandIn 29 = false by kernel_rfl)
        · subst h3
          exact (show Tryz.prog.wantsStandIn 9 = false by kernel_rfl)
        · subst h3
          exact (show Tryz.prog.wantsStandIn 3 = false by kernel_rfl)⟩)
    (by kernel_rfl)
#print axioms movesTexts_holds
end Go.Proofs.YtdfegpohmaideaaGreatDoor
