/- The best move by a table: what is asked, and what the document answers. -/
import Derived.Test.YtdfegpohmaideaaGreatMgTop
import Derived.OwnWalk
import Derived.Deep.CutRange
import Derived.BigRegion
/- moves.Next: the positions behind the moves -/
namespace Go.Proofs.YtdfegpohmaideaaGreat
open Go.RowKit

def cellsQ (l : List Pos) : List Value := l.flatMap posC
theorem cellsQ_app (a b : List Pos) : cellsQ (a ++ b) = cellsQ a ++ cellsQ b := by simp [cellsQ]
theorem cellsQ_len : ∀ l : List Pos, (cellsQ l).length = l.length * 6
  | [] => rfl
  | p :: l => by
    have : cellsQ (p :: l) = posC p ++ cellsQ l := rfl
    have h6 : (posC p).length = 6 := rfl
    rw [this, List.length_append, cellsQ_len l, h6, List.length_cons]
    omega
theorem info_pos : (Tryz.prog.info? 24).map (fun i => (i.zero, i.size, i.bytes)) = some (some (.agg #[.int .i64 0, .int .i64 0, .string ⟨#[]⟩, .int .i64 0, .string ⟨#[]⟩, .string ⟨#[]⟩]), 6, 72) := by kernel_rfl
theorem own_later {w w' : World} {base size n : Nat} {e : TypeId} {v : Value} {xs : List Value} (h : w.ownsRow base e size v n xs) (hw : Later w w') : w'.ownsRow base e size v n xs :=
  ownsRow_only (S := fun k => w.heap.size ≤ k) h (Only.of_below hw (fun _ _ hk => hk)) (fun g hg hk => by have := (h.lt g hg).2; omega)
theorem Later.trans' {S : Nat → Prop} {a b c : World} (h : Later a b) (ho : Only S b c) (hS : ∀ k, S k → a.heap.size ≤ k) : Later a c :=
  Below.trans h (ho.below_ (B := a.heap.size) hS h.size)
/-- the positions behind the moves -/
noncomputable def nextL (r : RulesD) (p : Pos) : List Pos := (movesL r p).map (madeP r p)
def NextOut (W : World) (r : RulesD) (p : Pos) (e : Ending) (w' : World) : Prop :=
  ∃ A1 c1 A2 c2, e = .returned (.tuple #[.int .i64 (endsN r p), .slice A1 (movesL r p).length c1, .slice A2 (movesL r p).length c2]) ∧ Cells w' w'.heap.size A1 (cellsM (movesL r p)) ∧ Cells w' w'.heap.size A2 (cellsQ (nextL r p)) ∧ Later W w'
set_option maxHeartbeats 4000000 in
set_option maxRecDepth 100000 in
theorem next_any (r : RulesD) (A : Option Addr) (cp : Nat) (p : Pos) (W : World) (hok : OfOk r p) (hP : PiecesAt W W.heap.size A r.pieces) :
    Calls Tryz.prog 44 #[.agg #[.int .i64 r.start.w, .int .i64 r.start.h, .string r.start.cells, .int .i64 r.start.turn, .string r.start.h0, .string r.start.h1, .slice A r.pieces.length cp, .bool r.drops, .int .u8 r.lose, .int .i64 r.line, .int .u8 r.reach, .bool r.stuck, .int .i64 r.plies], .agg #[.int .i64 p.w, .int .i64 p.h, .string p.cells, .int .i64 p.turn, .string p.h0, .string p.h1]] W (NextOut W r p) := by
  have Hbr := hide ((Blk.new W 27 #[.int .i64 r.start.w, .int .i64 r.start.h, .string r.start.cells, .int .i64 r.start.turn, .string r.start.h0, .string r.start.h1, .slice A r.pieces.length cp, .bool r.drops, .int .u8 r.lose, .int .i64 r.line, .int .u8 r.reach, .bool r.stuck, .int .i64 r.plies]).alloc (.cells #[.int .i64 p.w, .int .i64 p.h, .string p.cells, .int .i64 p.turn, .string p.h0, .string p.h1] 24))
  have hbp := (Blk.new (W.alloc (.cells #[.int .i64 r.start.w, .int .i64 r.start.h, .string r.start.cells, .int .i64 r.start.turn, .string r.start.h0, .string r.start.h1, .slice A r.pieces.length cp, .bool r.drops, .int .u8 r.lose, .int .i64 r.line, .int .u8 r.reach, .bool r.stuck, .int .i64 r.plies] 27)) 24 #[.int .i64 p.w, .int .i64 p.h, .string p.cells, .int .i64 p.turn, .string p.h0, .string p.h1])
  rw [World.size_alloc] at hbp
  have Hbp := hide hbp
  have Hw := hide (show Later W ((W.alloc (.cells #[.int .i64 r.start.w, .int .i64 r.start.h, .string r.start.cells, .int .i64 r.start.turn, .string r.start.h0, .string r.start.h1, .slice A r.pieces.length cp, .bool r.drops, .int .u8 r.lose, .int .i64 r.line, .int .u8 r.reach, .bool r.stuck, .int .i64 r.plies] 27)).alloc (.cells #[.int .i64 p.w, .int .i64 p.h, .string p.cells, .int .i64 p.turn, .string p.h0, .string p.h1] 24)) from (Later.rfl.alloc _).alloc _)
  have Hou := hide (fun w (hw : Later W w) => outcome_any r A cp p w ((hok.pre hP).on hw))
  have Hap := hide (fun m q w (hm : m ∈ movesL r p) (hq : madeP r p m = q) => apply_any r A cp p m q w hok (moves_every hm) hq)
  have hlen := movesL_len (r := r) hok.pos
  obtain ⟨i0, hi, hz0, hz1, hz2⟩ := info_parts info_pos
  have Hi := hide hi
  have Hz0 := hide hz0
  have Hz1 := hide hz1
  have Hz2 := hide hz2
  have HNO := hide (show ∀ w' A1 c1 A2 c2, Cells w' w'.heap.size A1 (cellsM (movesL r p)) → Cells w' w'.heap.size A2 (cellsQ ((movesL r p).map (madeP r p))) → Later W w' → NextOut W r p (.returned (.tuple #[.int .i64 (endsN r p), .slice A1 (movesL r p).length c1, .slice A2 (movesL r p).length c2])) w' from fun w' A1 c1 A2 c2 h1 h2 h3 => ⟨A1, c1, A2, c2, rfl, h1, h2, h3⟩)
  obtain ⟨L, hL⟩ : ∃ L, movesL r p = L := ⟨_, rfl⟩
  rw [hL] at hlen Hap HNO
  have HL := hide hL
  clear hi hz0 hz1 hz2 hok hP hbp hL
  go_enter Tryz.func44, Tryz.ntmps44
  obtain ⟨x0, x1, x2, x3, x4, x5, x6, x7, x8, x9, x10, x11, x12⟩ := Hbr.out.rules
  obtain ⟨p0, p1, p2, p3, p4, p5⟩ := Hbp.out.pos6
  go_upto_region 1 with (fail)
  go_upto_region 2 with (go_at_call 28; refine (Hou.out _ Hw.out).mono ?_; rintro e w3 ⟨A1, c1, rfl, h1, h2, h3, h4⟩)
  have Hbr3 := hide (h4.blk Hbr.out)
  have Hbp3 := hide (h4.blk Hbp.out)
  have Hw3 := hide (Hw.out.trans h4)
  have Hc3 := hide (show Cells w3 w3.heap.size A1 (cellsM L) from HL.out ▸ h2)
  clear h1 h2 h3 h4 Hbr Hbp Hw x0 x1 x2 x3 x4 x5 x6 x7 x8 x9 x10 x11 x12 p0 p1 p2 p3 p4 p5 Hou
  rw [HL.out]
  go_wp2_with fail
  have Hnil := hide (World.ownsRow_nil w3 w3.heap.size 24 6)
  go_loopw [9, 20] (fun nv kv wr => ∃ k : Nat, k ≤ L.length ∧ kv = .int .i64 (k : Int) ∧ wr.ownsRow w3.heap.size 24 6 nv k (cellsQ ((L.map (madeP r p)).take k)) ∧ Later w3 wr) (fun _ kv _ => L.length - (intOf kv).toNat)
  case atStart => exact ⟨0, by omega, rfl, by rw [List.take_zero]; exact Hnil.out, Later.rfl⟩
  case round =>
    rename World => wr
    obtain ⟨k, hk, rfl, hown, hwr⟩ := hrel
    have Hown := hide hown
    have Hwr := hide hwr
    clear hown hwr Hnil
    by_cases hlt : k < L.length
    · have hcc := Hc3.out.below Hwr.out
      obtain ⟨b, off, rfl, hb, y0, y1, y2⟩ := mv_at hcc hlt
      have Hap2 := hide (fun w => Hap.out L[k] (madeP r p L[k]) w (List.getElem_mem hlt) rfl)
      have Htk := hide (show cellsQ ((L.map (madeP r p)).take (k + 1)) = cellsQ ((L.map (madeP r p)).take k) ++ posC (madeP r p L[k]) by
        rw [List.take_succ_eq_append_getElem (by simpa using hlt), cellsQ_app, List.getElem_map]
        simp [cellsQ])
      obtain ⟨m, hm⟩ : ∃ m, L[k] = m := ⟨_, rfl⟩
      rw [hm] at y0 y1 y2
      simp only [hm] at Hap2 Htk
      obtain ⟨q, hq⟩ : ∃ q, madeP r p m = q := ⟨_, rfl⟩
      rw [hq] at Hap2 Htk
      clear hm hq hcc
      go_upto_region 6 with (fail)
      have Hm4 := hide (Blk.new wr 29 #[.int .i64 m.f, .int .i64 m.t, .int .u8 m.c])
      have Hw4 := hide (show Later w3 (wr.alloc (.cells #[.int .i64 m.f, .int .i64 m.t, .int .u8 m.c] 29)) from Hwr.out.alloc _)
      have Hown4 := hide (World.ownsRow.alloc Hown.out (.cells #[.int .i64 m.f, .int .i64 m.t, .int .u8 m.c] 29))
      obtain ⟨w4, hw4⟩ : ∃ w4, wr.alloc (.cells #[.int .i64 m.f, .int .i64 m.t, .int .u8 m.c] 29) = w4 := ⟨_, rfl⟩
      obtain ⟨gm, hgm⟩ : ∃ gm, wr.heap.size = gm := ⟨_, rfl⟩
      rw [hw4] at Hm4 Hw4 Hown4 ⊢
      rw [hgm] at Hm4 ⊢
      clear hw4 hgm Hown Hwr y0 y1 y2
      obtain ⟨x0, x1, x2, x3, x4, x5, x6, x7, x8, x9, x10, x11, x12⟩ := (Hw4.out.blk Hbr3.out).rules
      obtain ⟨p0, p1, p2, p3, p4, p5⟩ := (Hw4.out.blk Hbp3.out).pos6
      obtain ⟨⟨m0, m1, m2⟩, -⟩ := Hm4.out.mv
      go_wp2_with (first
        | (go_at_call 30; refine (Hap2.out _).mono ?_; rintro e w5 ⟨rfl, hw5⟩; have Hw5 := hide (Hw4.out.trans hw5); have Hown5 := hide (own_later Hown4.out hw5); have Hle5 := hide Hw5.out.size; clear hw5 Hw4 Hown4 Hm4 x0 x1 x2 x3 x4 x5 x6 x7 x8 x9 x10 x11 x12 p0 p1 p2 p3 p4 p5 m0 m1 m2)
        | (at_builtin; refine wpList_appendK _ rfl (.tmp 24) (.tmp 29) 84 rfl w3.heap.size 24 i0 (.agg #[.int .i64 0, .int .i64 0, .string ⟨#[]⟩, .int .i64 0, .string ⟨#[]⟩, .string ⟨#[]⟩]) 6 72 Tryz.underlying84 Hi.out Hz0.out Hz1.out Hz2.out rfl (by decide) u9 k (cellsQ ((L.map (madeP r p)).take k)) rfl (World.ownsRow.alloc Hown5.out _) [.int .i64 q.w, .int .i64 q.h, .string q.cells, .int .i64 q.turn, .string q.h0, .string q.h1] rfl w5.heap.size 24 rfl (Blk.new w5 _ _) ?h1 ?h2 ?h3 ?h4 ?_))
      case h1 => simp [Value.oneCell']
      case h2 => unfold maxLen; omega
      case h3 => omega
      case h4 => exact Nat.le_trans Hle5.out (by simp)
      intro v' w6 hown6 hO hwh
      have Hown6 := hide (show w6.ownsRow w3.heap.size 24 6 v' (k + 1) (cellsQ ((L.map (madeP r p)).take (k + 1))) by rw [Htk.out]; exact hown6)
      have Hw6 := hide (show Later w3 w6 from (Hw5.out.alloc (.cells #[.int .i64 q.w, .int .i64 q.h, .string q.cells, .int .i64 q.turn, .string q.h0, .string q.h1] 24)).trans' hO (fun g hg => (Hown5.out.lt g hg).1))
      clear hown6 hO hwh
      go_wp2_with fail
      go_roundw
      case rel => exact ⟨k + 1, by omega, by go_num, Hown6.out, Hw6.out⟩
      case measure => simp [intOf]; omega
    · obtain rfl : k = L.length := by omega
      have Hc4 := hide ((Hc3.out.below Hwr.out).more Hwr.out.size)
      have hown := Hown.out
      rw [List.take_of_length_le (by simp)] at hown
      obtain ⟨A2, c2, rfl, -, -, hc⟩ := Cells.of_ownK hown
      have Hc := hide hc
      have Hw4 := hide (Hw3.out.trans Hwr.out)
      clear hown hc
      go_wp2_with fail
      go_ret3
      exact HNO.out _ _ _ _ _ Hc4.out Hc.out Hw4.out
end Go.Proofs.YtdfegpohmaideaaGreat
/- Where a position stands in a table: table.Best's find and the document's -/
namespace Go.Proofs.YtdfegpohmaideaaGreat
open Go.RowKit Go.Shelf

theorem pos_ext {x y : Pos} (h1 : x.w = y.w) (h2 : x.h = y.h) (h3 : x.cells = y.cells) (h4 : x.turn = y.turn) (h5 : x.h0 = y.h0) (h6 : x.h1 = y.h1) : x = y := by
  cases x; cases y; simp only at h1 h2 h3 h4 h5 h6; subst h1 h2 h3 h4 h5 h6; rfl
instance : DecidableEq Pos := fun x y =>
  if h : x.w = y.w ∧ x.h = y.h ∧ x.cells = y.cells ∧ x.turn = y.turn ∧ x.h0 = y.h0 ∧ x.h1 = y.h1 then isTrue (pos_ext h.1 h.2.1 h.2.2.1 h.2.2.2.1 h.2.2.2.2.1 h.2.2.2.2.2)
  else isFalse (fun e => h (by rw [e]; exact ⟨rfl, rfl, rfl, rfl, rfl, rfl⟩))
theorem flat_getE {α : Type} (f : α → List Value) (k : Nat) (hf : ∀ x, (f x).length = k) : ∀ (xs : List α) (i j : Nat) (hi : i < xs.length), j < k → (xs.flatMap f)[i * k + j]? = (f xs[i])[j]?
  | [], i, _, hi, _ => absurd hi (by simp)
  | x :: xs, 0, j, _, hj => by
    rw [List.flatMap_cons, Nat.zero_mul, Nat.zero_add, List.getElem?_append_left (by rw [hf]; exact hj)]
    rfl
  | x :: xs, i + 1, j, hi, hj => by
    have e : (i + 1) * k + j = k + (i * k + j) := by rw [Nat.succ_mul]; omega
    rw [List.flatMap_cons, e, List.getElem?_append_right (by rw [hf]; omega), hf, Nat.add_sub_cancel_left, flat_getE f k hf xs i j (by simpa using hi) hj]
    rfl
theorem flat_lengthE {α : Type} (f : α → List Value) (k : Nat) (hf : ∀ x, (f x).length = k) : ∀ xs : List α, (xs.flatMap f).length = xs.length * k
  | [] => by simp
  | x :: xs => by rw [List.flatMap_cons, List.length_append, hf, flat_lengthE f k hf xs, List.length_cons, Nat.succ_mul]; omega
theorem toList_eq {a b : ByteArray} : (a.toList = b.toList) ↔ a = b := by
  constructor
  · intro h
    rw [Go.ByteArray.toList_eq, Go.ByteArray.toList_eq] at h
    exact bytes_eq h
  · intro h; rw [h]
theorem eqHands (a0 a1 b0 b1 : ByteArray) (w : World) : (Op.equalIn 9999 22 (.agg #[.string a0, .string a1]) (.agg #[.string b0, .string b1])).run Tryz.prog w = .ok (a0.toList == b0.toList && a1.toList == b1.toList) w := by
  rw [show (9999 : Nat) = 9998 + 1 from rfl]
  unfold Op.equalIn
  simp only [Sem.run_bind, run_underlying Tryz.underlying22, Result.andThen_ok]
  go_simp
  rw [show List.range' 0 2 = [0, 1] from rfl]
  simp only [List.forIn_cons, List.forIn_nil]
  go_simp
  by_cases h0 : a0.toList = b0.toList <;> by_cases h1 : a1.toList = b1.toList <;> simp [h0, h1]
theorem eqP : EqlAt Tryz.prog 24 (fun x => .agg (posC x).toArray) (fun x y => decide (x = y)) := by
  refine ⟨fun x y w => ?_, GuardAt.agg _ (by kernel_rfl)⟩
  have u3 := Tryz.underlying3
  have a3 := Tryz.isAgg3
  have z3 := Tryz.sizeOf3
  have u9 := Tryz.underlying9
  have a9 := Tryz.isAgg9
  have z9 := Tryz.sizeOf9
  have a22 := Tryz.isAgg22
  have z22 := Tryz.sizeOf22
  have hS : Tryz.prog.underlying 24 = some (.struct (Tryz.prog.fieldsOf 24)) := by kernel_rfl
  have hp : Tryz.prog.stoodInHeld 24 = false := by kernel_rfl
  have heq := eqHands
  simp only [posC]
  rw [run_eql_struct, show (10000 : Nat) = 9999 + 1 from rfl, run_equalIn_agg w 9999 24 _ _ hS hp]
  simp only [Program.fieldsOf, Tryz.underlying24]
  go_simp
  simp only [toList_eq]
  obtain ⟨a1, a2, a3, a4, a5, a6⟩ := x
  obtain ⟨b1, b2, b3, b4, b5, b6⟩ := y
  simp only [Pos.mk.injEq]
  by_cases h1 : a1 = b1 <;> by_cases h2 : a2 = b2 <;> by_cases h3 : a3 = b3 <;> by_cases h4 : a4 = b4 <;> by_cases h5 : a5 = b5 <;> by_cases h6 : a6 = b6 <;> simp [h1, h2, h3, h4, h5, h6]

/-! a table's entries -/
structure EntD where
  pos : Pos
  v : Int
  d : Int
def entC (e : EntD) : List Value := posC e.pos ++ [.int .i64 e.v, .int .i64 e.d]
def cellsE (l : List EntD) : List Value := l.flatMap entC
theorem entC_len (e : EntD) : (entC e).length = 8 := rfl
theorem cellsE_len (l : List EntD) : (cellsE l).length = l.length * 8 := flat_lengthE entC 8 entC_len l
theorem ent_at {w : World} {B : Nat} {A : Option Addr} {l : List EntD} (h : Cells w B A (cellsE l)) {i : Nat} (hi : i < l.length) :
    ∃ b off, A = some ⟨b, off, none⟩ ∧ b < B ∧ w.cell? ⟨b, off + i * 8, none⟩ = some (.int .i64 l[i].pos.w) ∧ w.cell? ⟨b, off + i * 8 + 1, none⟩ = some (.int .i64 l[i].pos.h) ∧ w.cell? ⟨b, off + i * 8 + 2, none⟩ = some (.string l[i].pos.cells) ∧ w.cell? ⟨b, off + i * 8 + 3, none⟩ = some (.int .i64 l[i].pos.turn) ∧
      w.cell? ⟨b, off + i * 8 + 4, none⟩ = some (.string l[i].pos.h0) ∧ w.cell? ⟨b, off + i * 8 + 5, none⟩ = some (.string l[i].pos.h1) ∧ w.cell? ⟨b, off + i * 8 + 6, none⟩ = some (.int .i64 l[i].v) ∧ w.cell? ⟨b, off + i * 8 + 7, none⟩ = some (.int .i64 l[i].d) := by
  have hl := cellsE_len l
  obtain ⟨b, off, hA, hb, hcell⟩ := h (by omega)
  have key : ∀ j v, (entC l[i])[j]? = some v → j < 8 → w.cell? ⟨b, off + i * 8 + j, none⟩ = some v := by
    intro j v hv hj
    have := flat_getE entC 8 entC_len l i j hi hj
    rw [hv] at this
    obtain ⟨h1, h2⟩ := List.getElem?_eq_some_iff.1 this
    rw [Nat.add_assoc, hcell _ h1]
    exact congrArg some h2
  exact ⟨b, off, hA, hb, key 0 _ rfl (by omega), key 1 _ rfl (by omega), key 2 _ rfl (by omega), key 3 _ rfl (by omega), key 4 _ rfl (by omega), key 5 _ rfl (by omega), key 6 _ rfl (by omega), key 7 _ rfl (by omega)⟩
/-- where a position stands -/
def findO (l : List EntD) (q : Pos) : Option Nat := l.findIdx? fun e => decide (e.pos = q)
def findI (l : List EntD) (q : Pos) : Int := numX (findO l q)
theorem findO_some {l : List EntD} {q : Pos} {k : Nat} (hk : k < l.length) (he : l[k].pos = q) (h : ∀ j (hj : j < l.length), j < k → l[j].pos ≠ q) : findO l q = some k := by
  unfold findO
  rw [List.findIdx?_eq_some_iff_getElem]
  refine ⟨hk, by simpa using he, fun j hj => ?_⟩
  have := h j (by omega) hj
  simpa using this
theorem findO_none {l : List EntD} {q : Pos} (h : ∀ j (hj : j < l.length), l[j].pos ≠ q) : findO l q = none := by
  unfold findO
  rw [List.findIdx?_eq_none_iff]
  intro e he
  obtain ⟨j, hj, rfl⟩ := List.getElem_of_mem he
  simpa using h j hj
theorem findO_lt {l : List EntD} {q : Pos} {k : Nat} (h : findO l q = some k) : k < l.length := by
  unfold findO at h
  rw [List.findIdx?_eq_some_iff_getElem] at h
  exact h.1
end Go.Proofs.YtdfegpohmaideaaGreat
/- table.Best's find, walked; the document's find, walked -/
namespace Go.Proofs.YtdfegpohmaideaaGreat
open Go.RowKit Go.Shelf

set_option maxHeartbeats 1000000 in
set_option maxRecDepth 100000 in
theorem pred_any (e : EntD) (q : Pos) (gq : Nat) (W : World) (hq : Blk W gq 24 #[.int .i64 q.w, .int .i64 q.h, .string q.cells, .int .i64 q.turn, .string q.h0, .string q.h1]) :
    Calls Tryz.prog 43 #[.agg #[.int .i64 e.pos.w, .int .i64 e.pos.h, .string e.pos.cells, .int .i64 e.pos.turn, .string e.pos.h0, .string e.pos.h1, .int .i64 e.v, .int .i64 e.d], .pointer (some ⟨gq, 0, none⟩)] W fun x w' => x = .returned (.bool (decide (e.pos = q))) ∧ Later W w' := by
  have heq := fun w => eqP.1 e.pos q w
  have hgd := fun op a b w => eqP.2 op a b e.pos q w
  simp only [posC] at heq hgd
  have Hw := hide (show Later W (W.alloc (.cells #[.int .i64 e.pos.w, .int .i64 e.pos.h, .string e.pos.cells, .int .i64 e.pos.turn, .string e.pos.h0, .string e.pos.h1, .int .i64 e.v, .int .i64 e.d] 53)) from Later.rfl.alloc _)
  obtain ⟨q0, q1, q2, q3, q4, q5⟩ := (hq.alloc (.cells #[.int .i64 e.pos.w, .int .i64 e.pos.h, .string e.pos.cells, .int .i64 e.pos.turn, .string e.pos.h0, .string e.pos.h1, .int .i64 e.v, .int .i64 e.d] 53)).pos6
  have hb := Blk.new W 53 #[.int .i64 e.pos.w, .int .i64 e.pos.h, .string e.pos.cells, .int .i64 e.pos.turn, .string e.pos.h0, .string e.pos.h1, .int .i64 e.v, .int .i64 e.d]
  have y0 := hb.cellv (i := 0) rfl
  have y1 := hb.cellv (i := 1) rfl
  have y2 := hb.cellv (i := 2) rfl
  have y3 := hb.cellv (i := 3) rfl
  have y4 := hb.cellv (i := 4) rfl
  have y5 := hb.cellv (i := 5) rfl
  obtain ⟨u, hu⟩ : ∃ u, decide (e.pos = q) = u := ⟨_, rfl⟩
  rw [hu] at heq ⊢
  clear hb hu hq
  go_enter Tryz.func43, Tryz.ntmps43
  go_upto_region 1 with (fail)
  obtain ⟨w0, hw0⟩ : ∃ w0, W.alloc (.cells #[.int .i64 e.pos.w, .int .i64 e.pos.h, .string e.pos.cells, .int .i64 e.pos.turn, .string e.pos.h0, .string e.pos.h1, .int .i64 e.v, .int .i64 e.d] 53) = w0 := ⟨_, rfl⟩
  rw [hw0] at Hw q0 q1 q2 q3 q4 q5 y0 y1 y2 y3 y4 y5 ⊢
  clear hw0
  go_wp2_with fail
  go_ret
  exact ⟨rfl, Hw.out⟩
set_option maxHeartbeats 1000000 in
set_option maxRecDepth 100000 in
theorem idxE_any (A : Option Addr) (c : Nat) (l : List EntD) (q : Pos) (gq : Nat) (W : World) (hm : l.length ≤ 9223372036854775807) (hq : Blk W gq 24 #[.int .i64 q.w, .int .i64 q.h, .string q.cells, .int .i64 q.turn, .string q.h0, .string q.h1]) (h : Cells W W.heap.size A (cellsE l)) :
    Calls Tryz.prog 42 #[.slice A l.length c, .func (.func 43) #[] #[.pointer (some ⟨gq, 0, none⟩)]] W fun x w' => x = .returned (.int .i64 (findI l q)) ∧ Later W w' := by
  have Hq := hide hq
  have H := hide h
  have Hp := hide (fun e w (hw : Later W w) => pred_any e q gq w (hw.blk hq))
  have Hs := hide (fun k (hk : k < l.length) he hh => show findI l q = (k : Int) from by unfold findI; rw [findO_some (l := l) (q := q) hk he hh]; rfl)
  have Hn := hide (fun hh => show findI l q = -1 from by unfold findI; rw [findO_none (l := l) (q := q) hh]; rfl)
  obtain ⟨n, hn⟩ : ∃ n, findI l q = n := ⟨_, rfl⟩
  rw [hn] at Hs Hn ⊢
  clear hq h hn
  go_enter Tryz.func42, Tryz.ntmps42
  go_wp2_with fail
  go_loopw [8] (fun i wr => ∃ k : Nat, k ≤ l.length ∧ i = .int .i64 (k : Int) ∧ Later W wr ∧ ∀ j (h : j < l.length), j < k → l[j].pos ≠ q) (fun i _ => l.length - (intOf i).toNat)
  case atStart => exact ⟨0, by omega, rfl, Later.rfl, fun j _ h => by omega⟩
  case round =>
    rename World => wr
    obtain ⟨k, hk, rfl, hw, hall⟩ := hrel
    have Hw := hide hw
    have Hall := hide hall
    clear hw hall
    by_cases hlt : k < l.length
    · obtain ⟨b, off, rfl, hb, y0, y1, y2, y3, y4, y5, y6, y7⟩ := ent_at (H.out.below Hw.out) hlt
      obtain ⟨e, he⟩ : ∃ e, l[k] = e := ⟨_, rfl⟩
      rw [he] at y0 y1 y2 y3 y4 y5 y6 y7
      have Hp2 := hide (Hp.out e)
      have He := hide he
      clear he
      by_cases hpq : e.pos = q
      · have hd : decide (e.pos = q) = true := decide_eq_true hpq
        have Hs2 := hide (Hs.out k hlt (by rw [He.out]; exact hpq) (fun j hj h => Hall.out j hj h))
        rw [hd] at Hp2
        clear hpq hd
        go_wp2_with (go_at_call 43; refine (Hp2.out _ Hw.out).mono ?_; rintro x w2 ⟨rfl, hw2⟩)
        go_ret
        exact ⟨by rw [Hs2.out] <;> rfl, Hw.out.trans hw2⟩
      · have hd : decide (e.pos = q) = false := decide_eq_false hpq
        have Hn2 := hide (show ∀ j (h : j < l.length), j < k + 1 → l[j].pos ≠ q from fun j h hj => by
          by_cases ej : j = k
          · subst ej; rw [He.out]; exact hpq
          · exact Hall.out j h (by omega))
        rw [hd] at Hp2
        clear hpq hd
        go_wp2_with (go_at_call 43; refine (Hp2.out _ Hw.out).mono ?_; rintro x w2 ⟨rfl, hw2⟩)
        go_roundw
        case rel => exact ⟨k + 1, by omega, by go_num, Hw.out.trans hw2, Hn2.out⟩
        case measure => simp [intOf]; omega
    · have Hn2 := hide (Hn.out (fun j hj => Hall.out j hj (by omega)))
      go_wp2_with fail
      go_ret
      exact ⟨by rw [Hn2.out] <;> rfl, Hw.out⟩
set_option maxHeartbeats 1000000 in
set_option maxRecDepth 100000 in
theorem find_any (A : Option Addr) (c : Nat) (l : List EntD) (q : Pos) (gl : Nat) (W : World) (hm : l.length ≤ 9223372036854775807) (hl : Blk W gl 45 #[.slice A l.length c]) (h : Cells W W.heap.size A (cellsE l)) :
    Calls Tryz.prog 41 #[.agg #[.int .i64 q.w, .int .i64 q.h, .string q.cells, .int .i64 q.turn, .string q.h0, .string q.h1], .pointer (some ⟨gl, 0, none⟩)] W fun x w' => x = .returned (.int .i64 (findI l q)) ∧ Later W w' := by
  have hla : Later W (W.alloc (.cells #[.int .i64 q.w, .int .i64 q.h, .string q.cells, .int .i64 q.turn, .string q.h0, .string q.h1] 24)) := Later.rfl.alloc _
  have Hw := hide hla
  have Hi := hide (idxE_any A c l q W.heap.size (W.alloc (.cells #[.int .i64 q.w, .int .i64 q.h, .string q.cells, .int .i64 q.turn, .string q.h0, .string q.h1] 24)) hm (Blk.new W _ _) ((h.below hla).more hla.size))
  have z0 : (W.alloc (.cells #[.int .i64 q.w, .int .i64 q.h, .string q.cells, .int .i64 q.turn, .string q.h0, .string q.h1] 24)).cell? ⟨gl, 0, none⟩ = some (.slice A l.length c) := (hla.blk hl).cellv (i := 0) rfl
  clear hl h hla
  go_enter Tryz.func41, Tryz.ntmps41
  go_upto_region 1 with (fail)
  obtain ⟨gq, hgq⟩ : ∃ gq, W.heap.size = gq := ⟨_, rfl⟩
  obtain ⟨w0, hw0⟩ : ∃ w0, W.alloc (.cells #[.int .i64 q.w, .int .i64 q.h, .string q.cells, .int .i64 q.turn, .string q.h0, .string q.h1] 24) = w0 := ⟨_, rfl⟩
  rw [hw0] at Hw Hi z0 ⊢
  rw [hgq] at Hi ⊢
  clear hw0 hgq
  go_wp2_with (go_at_call 42; refine Hi.out.mono ?_; rintro x w2 ⟨rfl, hw2⟩)
  go_ret
  exact ⟨rfl, Hw.out.trans hw2⟩
set_option maxHeartbeats 1000000 in
set_option maxRecDepth 100000 in
theorem rfind_any (A : Option Addr) (c : Nat) (l : List EntD) (q : Pos) (gl : Nat) (W : World) (hm : l.length ≤ 9223372036854775807) (hl : Blk W gl 45 #[.slice A l.length c]) (h : Cells W W.heap.size A (cellsE l)) :
    Calls Tryz.prog 45 #[.agg #[.int .i64 q.w, .int .i64 q.h, .string q.cells, .int .i64 q.turn, .string q.h0, .string q.h1], .pointer (some ⟨gl, 0, none⟩)] W fun x w' => x = .returned (.int .i64 (findI l q)) ∧ Later W w' := by
  have hla : Later W (W.alloc (.cells #[.int .i64 q.w, .int .i64 q.h, .string q.cells, .int .i64 q.turn, .string q.h0, .string q.h1] 24)) := Later.rfl.alloc _
  have Hw := hide hla
  have Hq := hide (Blk.new W 24 #[.int .i64 q.w, .int .i64 q.h, .string q.cells, .int .i64 q.turn, .string q.h0, .string q.h1])
  have H := hide ((h.below hla).more hla.size)
  have Hl := hide (hla.blk hl)
  have Hs := hide (fun k (hk : k < l.length) he hh => show findI l q = (k : Int) from by unfold findI; rw [findO_some (l := l) (q := q) hk he hh]; rfl)
  have Hn := hide (fun hh => show findI l q = -1 from by unfold findI; rw [findO_none (l := l) (q := q) hh]; rfl)
  obtain ⟨n, hn⟩ : ∃ n, findI l q = n := ⟨_, rfl⟩
  rw [hn] at Hs Hn ⊢
  clear hl h hla hn
  go_enter Tryz.func45, Tryz.ntmps45
  go_upto_region 1 with (fail)
  obtain ⟨gq, hgq⟩ : ∃ gq, W.heap.size = gq := ⟨_, rfl⟩
  obtain ⟨w0, hw0⟩ : ∃ w0, W.alloc (.cells #[.int .i64 q.w, .int .i64 q.h, .string q.cells, .int .i64 q.turn, .string q.h0, .string q.h1] 24) = w0 := ⟨_, rfl⟩
  rw [hw0] at Hw H Hq Hl ⊢
  rw [hgq] at Hq ⊢
  clear hw0 hgq
  go_wp2_with fail
  go_loopw [4] (fun i wr => ∃ k n : Nat, k ≤ l.length ∧ i = .int .i64 (k : Int) ∧ wr = w0.drewN n ∧ ∀ j (h : j < l.length), j < k → l[j].pos ≠ q) (fun i _ => l.length - (intOf i).toNat)
  case atStart => exact ⟨0, 0, by omega, rfl, rfl, fun j _ h => by omega⟩
  case round =>
    obtain ⟨k, m, hk, rfl, rfl, hall⟩ := hrel
    have Hall := hide hall
    clear hall
    have l0 : w0.cell? ⟨gl, 0, none⟩ = some (.slice A l.length c) := Hl.out.cellv (i := 0) rfl
    by_cases hlt : k < l.length
    · obtain ⟨b, off, rfl, hb, y0, y1, y2, y3, y4, y5, -, -⟩ := ent_at H.out hlt
      obtain ⟨q0, q1, q2, q3, q4, q5⟩ := Hq.out.pos6
      obtain ⟨e, he⟩ : ∃ e, l[k] = e := ⟨_, rfl⟩
      rw [he] at y0 y1 y2 y3 y4 y5
      have heq := fun w => eqP.1 e.pos q w
      have hgd := fun op a b w => eqP.2 op a b e.pos q w
      simp only [posC] at heq hgd
      obtain ⟨u, hu⟩ : ∃ u, decide (e.pos = q) = u := ⟨_, rfl⟩
      rw [hu] at heq
      have Hu := hide hu
      have He := hide he
      clear he hu
      go_upto_region 4 with (fail)
      go_quiet (fail)
      clear heq hgd y0 y1 y2 y3 y4 y5 q0 q1 q2 q3 q4 q5
      cases u
      · have hpq := of_decide_eq_false Hu.out
        have Hn2 := hide (show ∀ j (h : j < l.length), j < k + 1 → l[j].pos ≠ q from fun j h hj => by
          by_cases ej : j = k
          · subst ej; rw [He.out]; exact hpq
          · exact Hall.out j h (by omega))
        clear hpq
        go_wp2_with fail
        go_roundw
        case rel => exact ⟨k + 1, _, by omega, by go_num, rfl, Hn2.out⟩
        case measure => simp [intOf]; omega
      · have hpq := of_decide_eq_true Hu.out
        have Hs2 := hide (Hs.out k hlt (by rw [He.out]; exact hpq) (fun j hj h => Hall.out j hj h))
        clear hpq
        go_wp2_with fail
        go_ret
        exact ⟨by rw [Hs2.out] <;> rfl, (Hw.out.drewN _).drewN _⟩
    · have Hn2 := hide (Hn.out (fun j hj => Hall.out j hj (by omega)))
      go_wp2_with fail
      go_ret
      exact ⟨by rw [Hn2.out] <;> rfl, Hw.out.drewN _⟩
end Go.Proofs.YtdfegpohmaideaaGreat
/- The best move by a table, plain; two pairs compared -/
namespace Go.Proofs.YtdfegpohmaideaaGreat
open Go.RowKit Go.Shelf

/-- does a move lead from (v, d) to (v', d') as it must? -/
def okP (v d v' d' : Int) : Bool := (v == 1 && v' == 2 && d' == IntKind.i64.wrap (d - 1)) || (v == 2 && v' == 1 && d' == IntKind.i64.wrap (d - 1)) || (v == 3 && v' == 3)
def hitB (l : List EntD) (e : EntD) (q : Pos) : Bool := ((findO l q).bind fun j => l[j]?).any fun x => okP e.v e.d x.v x.d
noncomputable def bestO (r : RulesD) (l : List EntD) (p : Pos) (e : EntD) : Option Mv := (movesL r p).find? fun m => hitB l e (madeP r p m)
open Classical in
/-- the move, and what is said of it -/
noncomputable def bestA (r : RulesD) (l : List EntD) (p : Pos) : Mv × Int :=
  if ¬ RulesOk r then (⟨0, 0, 0⟩, 1) else
  match (findO l p).bind fun i => l[i]? with
  | none => (⟨0, 0, 0⟩, 6)
  | some e => if ¬ OfOk r p then (⟨0, 0, 0⟩, 6) else
    match bestO r l p e with
    | none => (⟨0, 0, 0⟩, 6)
    | some m => (m, 0)
theorem bestA_bad {r : RulesD} {l : List EntD} {p : Pos} (h : ¬ RulesOk r) : bestA r l p = (⟨0, 0, 0⟩, 1) := by unfold bestA; rw [if_pos h]
theorem bestA_none {r : RulesD} {l : List EntD} {p : Pos} (h : RulesOk r) (hf : findO l p = none) : bestA r l p = (⟨0, 0, 0⟩, 6) := by
  unfold bestA; rw [if_neg (fun k => k h), hf]; rfl
theorem bestA_of {r : RulesD} {l : List EntD} {p : Pos} (h : RulesOk r) (ho : ¬ OfOk r p) : bestA r l p = (⟨0, 0, 0⟩, 6) := by
  unfold bestA; rw [if_neg (fun k => k h)]
  split
  · rfl
  · rw [if_pos ho]
theorem bestA_out {r : RulesD} {l : List EntD} {p : Pos} {i : Nat} (ho : OfOk r p) (hf : findO l p = some i) (hi : i < l.length) (hn : ∀ m ∈ movesL r p, hitB l l[i] (madeP r p m) = false) : bestA r l p = (⟨0, 0, 0⟩, 6) := by
  unfold bestA; rw [if_neg (fun k => k ho.rules), hf]
  simp only [Option.bind_some, List.getElem?_eq_getElem hi]
  rw [if_neg (fun k => k ho)]
  have : bestO r l p l[i] = none := by
    unfold bestO
    rw [List.find?_eq_none]
    intro m hm
    rw [hn m hm]; simp
  rw [this]
theorem bestA_in {r : RulesD} {l : List EntD} {p : Pos} {i k : Nat} (ho : OfOk r p) (hf : findO l p = some i) (hi : i < l.length) (hk : k < (movesL r p).length) (hy : hitB l l[i] (madeP r p (movesL r p)[k]) = true)
    (hn : ∀ j (h : j < (movesL r p).length), j < k → hitB l l[i] (madeP r p (movesL r p)[j]) = false) : bestA r l p = ((movesL r p)[k], 0) := by
  unfold bestA; rw [if_neg (fun k => k ho.rules), hf]
  simp only [Option.bind_some, List.getElem?_eq_getElem hi]
  rw [if_neg (fun k => k ho)]
  have : bestO r l p l[i] = some (movesL r p)[k] := by
    unfold bestO
    rw [List.find?_eq_some_iff_getElem]
    refine ⟨by simpa using hy, k, hk, rfl, fun j hj => ?_⟩
    have := hn j (by omega) hj
    simp [this]
  rw [this]
theorem hitB_none {l : List EntD} {e : EntD} {q : Pos} (h : findO l q = none) : hitB l e q = false := by unfold hitB; rw [h]; rfl
theorem hitB_some {l : List EntD} {e : EntD} {q : Pos} {j : Nat} (h : findO l q = some j) (hj : j < l.length) : hitB l e q = okP e.v e.d l[j].v l[j].d := by
  unfold hitB; rw [h]; simp [List.getElem?_eq_getElem hj]
theorem eqPair (a b c d : Int) (w : World) : (binOp .eql 87 (.agg #[.int .i64 a, .int .i64 b]) (.agg #[.int .i64 c, .int .i64 d])).run Tryz.prog w = .ok (.bool (a == c && b == d)) w := by
  rw [run_eql_struct, show (10000 : Nat) = 9999 + 1 from rfl]
  unfold Op.equalIn
  simp only [Sem.run_bind, run_underlying Tryz.underlying87, Result.andThen_ok]
  go_simp
  rw [show List.range' 0 2 = [0, 1] from rfl]
  simp only [List.forIn_cons, List.forIn_nil]
  go_simp
  by_cases h0 : a = c <;> by_cases h1 : b = d <;> simp [h0, h1]
end Go.Proofs.YtdfegpohmaideaaGreat
/- The boxes of a call of Best; what is said of it -/
namespace Go.Proofs.YtdfegpohmaideaaGreat
open Go.RowKit Go.Shelf

/-- the boxes of a call of Best -/
structure BsSt (W : World) (R L P Z : Array Value) (w : World) : Prop where
  r : Blk w W.heap.size 27 R
  l : Blk w (W.heap.size + 1) 45 L
  p : Blk w (W.heap.size + 1 + 1) 24 P
  z : Blk w (W.heap.size + 1 + 1 + 1) 29 Z
  later : Later W w
section
variable {W w w' : World} {R L P Z : Array Value}
theorem BsSt.later_ (h : BsSt W R L P Z w) (hw : Later w w') : BsSt W R L P Z w' := ⟨hw.blk h.r, hw.blk h.l, hw.blk h.p, hw.blk h.z, h.later.trans hw⟩
theorem BsSt.drewN (h : BsSt W R L P Z w) (n : Nat) : BsSt W R L P Z (w.drewN n) := ⟨h.r.drewN n, h.l.drewN n, h.p.drewN n, h.z.drewN n, h.later.drewN n⟩
theorem BsSt.first : BsSt W R L P Z ((((W.alloc (.cells R 27)).alloc (.cells L 45)).alloc (.cells P 24)).alloc (.cells Z 29)) := by
  refine ⟨(((Blk.new W _ R).alloc _).alloc _).alloc _, ?_, ?_, ?_, (((Later.rfl.alloc _).alloc _).alloc _).alloc _⟩
  · have := ((Blk.new (W.alloc (.cells R 27)) 45 L).alloc (.cells P 24)).alloc (.cells Z 29)
    rwa [World.size_alloc] at this
  · have := (Blk.new ((W.alloc (.cells R 27)).alloc (.cells L 45)) 24 P).alloc (.cells Z 29)
    rwa [World.size_alloc, World.size_alloc] at this
  · have := Blk.new (((W.alloc (.cells R 27)).alloc (.cells L 45)).alloc (.cells P 24)) 29 Z
    rwa [World.size_alloc, World.size_alloc, World.size_alloc] at this
end
theorem gdPair (op : BinOp) (a b : Operand) (x y z v : Int) (w : World) : (eqGuard op 87 a b (.agg #[.int .i64 x, .int .i64 y]) (.agg #[.int .i64 z, .int .i64 v])).run Tryz.prog w = .ok () w :=
  (GuardAt.agg (P := Tryz.prog) (T := 87) (fun x : Int × Int => #[.int .i64 x.1, .int .i64 x.2]) (by kernel_rfl)) op a b (x, y) (z, v) w
theorem setRow_blk {w : World} {g : Nat} {t : TypeId} {old vs : Array Value} (h : Blk w g t old) : Blk (w.setRow g vs) g t vs := setRow_heap _ _ _ _ _ _ h
theorem setRow_later {W w : World} {vs : Array Value} (h : Later W w) : Later W (w.setRow (W.heap.size + 1 + 1 + 1) vs) := Below.trans h ⟨rfl, rfl, rfl, by simp [World.setRow], fun k hk => setRow_other _ _ _ _ (by omega)⟩
/-- what both say -/
def BestSays (r : RulesD) (l : List EntD) (p : Pos) (W : World) (e : Ending) (w' : World) : Prop :=
  e = .returned (.tuple #[.agg #[.int .i64 (bestA r l p).1.f, .int .i64 (bestA r l p).1.t, .int .u8 (bestA r l p).1.c], .int .i64 (bestA r l p).2]) ∧ Later W w'
theorem says_of {r : RulesD} {l : List EntD} {p : Pos} {W w' : World} {m : Mv} {c : Int} (h : bestA r l p = (m, c)) (hw : Later W w') : BestSays r l p W (.returned (.tuple #[.agg #[.int .i64 m.f, .int .i64 m.t, .int .u8 m.c], .int .i64 c])) w' := ⟨by rw [h], hw⟩
end Go.Proofs.YtdfegpohmaideaaGreat
/- gameref.BestOf -/
namespace Go.Proofs.YtdfegpohmaideaaGreat
open Go.RowKit Go.Shelf

set_option maxHeartbeats 8000000 in
set_option maxRecDepth 100000 in
theorem bestOf_q (Q : Ending → World → Prop) (r : RulesD) (A Al : Option Addr) (cp cl : Nat) (l : List EntD) (p : Pos) (W : World) (hf : RFit r) (hg : PFit p) (hP : PiecesAt W W.heap.size A r.pieces) (hm : l.length ≤ 9223372036854775807) (hl : Cells W W.heap.size Al (cellsE l)) (hQ : ∀ e w', BestSays r l p W e w' → Q e w') :
    Calls Tryz.prog 18 #[.agg #[.int .i64 r.start.w, .int .i64 r.start.h, .string r.start.cells, .int .i64 r.start.turn, .string r.start.h0, .string r.start.h1, .slice A r.pieces.length cp, .bool r.drops, .int .u8 r.lose, .int .i64 r.line, .int .u8 r.reach, .bool r.stuck, .int .i64 r.plies], .slice Al l.length cl, .agg #[.int .i64 p.w, .int .i64 p.h, .string p.cells, .int .i64 p.turn, .string p.h0, .string p.h1]] W Q := by
  have HQ := hide hQ
  clear hQ
  have Hst := hide (BsSt.first (W := W) (R := #[.int .i64 r.start.w, .int .i64 r.start.h, .string r.start.cells, .int .i64 r.start.turn, .string r.start.h0, .string r.start.h1, .slice A r.pieces.length cp, .bool r.drops, .int .u8 r.lose, .int .i64 r.line, .int .u8 r.reach, .bool r.stuck, .int .i64 r.plies]) (L := #[.slice Al l.length cl]) (P := #[.int .i64 p.w, .int .i64 p.h, .string p.cells, .int .i64 p.turn, .string p.h0, .string p.h1]) (Z := #[.int .i64 0, .int .i64 0, .int .u8 0]))
  have HR := hide (fun w (hw : Later W w) => rules_any r A cp w hf ((hP.below hw).more hw.size))
  have HF := hide (fun q gl w (hw : Later W w) (hb : Blk w gl 45 #[.slice Al l.length cl]) => rfind_any Al cl l q gl w hm hb ((hl.below hw).more hw.size))
  have HO := hide (fun w (hw : Later W w) => gof_any r A cp p w hf hg ((hP.below hw).more hw.size))
  have HM := hide (fun (hok : OfOk r p) w (hw : Later W w) => moves_any r A cp p w ((hok.pre hP).on hw))
  have HD := hide (fun (hok : OfOk r p) m q w (hm : m ∈ movesL r p) (hq : madeP r p m = q) => made_any r A cp p m q w hok (moves_every hm) hq)
  have HE := hide (fun w (hw : Later W w) => hl.below hw)
  have HLen := hide (fun (hok : OfOk r p) => movesL_len (r := r) hok.pos)
  clear hf hg hP hl
  go_enter Tryz.func18, Tryz.ntmps18
  go_upto_region 1 with (fail)
  obtain ⟨w0, hw0⟩ : ∃ w0, ((((W.alloc (.cells #[.int .i64 r.start.w, .int .i64 r.start.h, .string r.start.cells, .int .i64 r.start.turn, .string r.start.h0, .string r.start.h1, .slice A r.pieces.length cp, .bool r.drops, .int .u8 r.lose, .int .i64 r.line, .int .u8 r.reach, .bool r.stuck, .int .i64 r.plies] 27)).alloc (.cells #[.slice Al l.length cl] 45)).alloc (.cells #[.int .i64 p.w, .int .i64 p.h, .string p.cells, .int .i64 p.turn, .string p.h0, .string p.h1] 24)).alloc (.cells #[.int .i64 0, .int .i64 0, .int .u8 0] 29)) = w0 := ⟨_, rfl⟩
  rw [hw0] at Hst ⊢
  clear hw0
  obtain ⟨x0, x1, x2, x3, x4, x5, x6, x7, x8, x9, x10, x11, x12⟩ := Hst.out.r.rules
  obtain ⟨rb, hrb⟩ : ∃ rb, rulesB r = rb := ⟨_, rfl⟩
  rw [hrb] at HR
  cases rb
  case false =>
    have Hbad := hide (fun w' (hw : Later W w') => says_of (bestA_bad (l := l) (p := p) (rulesB_false.1 hrb)) hw)
    clear hrb
    go_upto_region 2 with (go_at_call 31; refine (HR.out _ Hst.out.later).mono ?_; rintro e w1 ⟨rfl, hw1⟩)
    have Hst1 := hide (Hst.out.later_ hw1)
    clear hw1 Hst x0 x1 x2 x3 x4 x5 x6 x7 x8 x9 x10 x11 x12
    obtain ⟨⟨z0, z1, z2⟩, -⟩ := Hst1.out.z.mv
    have f0 := Hst1.out.z.free 0
    have f1 := Hst1.out.z.free 1
    have f2 := Hst1.out.z.free 2
    have HL := hide Hst1.out.later
    clear Hst1
    go_wp2_with fail
    refine bodyPost_ret (v := .tuple #[.agg #[.int .i64 0, .int .i64 0, .int .u8 0], .int .i64 1]) (by simp [results, Tryz.results18, go_sem, z0, z1, z2]) rfl (HQ.out _ _ (Hbad.out _ ?_))
    repeat (first | with_reducible exact HL.out | (with_reducible refine Later.set ?_ (by simp; omega) _))
  have Hrul := hide (rulesB_true.1 hrb)
  clear hrb
  go_upto_region 3 with (go_at_call 31; refine (HR.out _ Hst.out.later).mono ?_; rintro e w1 ⟨rfl, hw1⟩)
  have Hst1 := hide (Hst.out.later_ hw1)
  clear hw1 Hst x0 x1 x2 x3 x4 x5 x6 x7 x8 x9 x10 x11 x12
  obtain ⟨p0, p1, p2, p3, p4, p5⟩ := Hst1.out.p.pos6
  have HF1 := hide (HF.out p _ w1 Hst1.out.later Hst1.out.l)
  obtain ⟨fo, hfo⟩ : ∃ fo, findO l p = fo := ⟨_, rfl⟩
  have hfi : findI l p = numX fo := by unfold findI; rw [hfo]
  rw [hfi] at HF1
  cases fo
  case none =>
    have Hbad := hide (fun w' (hw : Later W w') => says_of (bestA_none Hrul.out hfo) hw)
    have e1 : numX none = -1 := rfl
    rw [e1] at HF1
    clear hfo hfi e1
    go_upto_region 6 with (go_at_call 45; refine HF1.out.mono ?_; rintro e w2 ⟨rfl, hw2⟩)
    have Hst2 := hide (Hst1.out.later_ hw2)
    clear hw2 Hst1 p0 p1 p2 p3 p4 p5
    obtain ⟨⟨z0, z1, z2⟩, -⟩ := Hst2.out.z.mv
    have f0 := Hst2.out.z.free 0
    have f1 := Hst2.out.z.free 1
    have f2 := Hst2.out.z.free 2
    have HL := hide Hst2.out.later
    clear Hst2
    go_wp2_with fail
    refine bodyPost_ret (v := .tuple #[.agg #[.int .i64 0, .int .i64 0, .int .u8 0], .int .i64 6]) (by simp [results, Tryz.results18, go_sem, z0, z1, z2]) rfl (HQ.out _ _ (Hbad.out _ ?_))
    repeat (first | with_reducible exact HL.out | (with_reducible refine Later.set ?_ (by simp; omega) _))
  case some i =>
    have hil := findO_lt hfo
    have Hfo := hide hfo
    have e1 : numX (some i) = (i : Int) := rfl
    rw [e1] at HF1
    clear hfo hfi e1
    go_upto_region 5 with (go_at_call 45; refine HF1.out.mono ?_; rintro e w2 ⟨rfl, hw2⟩)
    have Hst2 := hide (Hst1.out.later_ hw2)
    clear hw2 Hst1 p0 p1 p2 p3 p4 p5
    obtain ⟨x0, x1, x2, x3, x4, x5, x6, x7, x8, x9, x10, x11, x12⟩ := Hst2.out.r.rules
    obtain ⟨p0, p1, p2, p3, p4, p5⟩ := Hst2.out.p.pos6
    obtain ⟨ob, hob⟩ : ∃ ob, ofB r p = ob := ⟨_, rfl⟩
    rw [hob] at HO
    cases ob
    case false =>
      have Hbad := hide (fun w' (hw : Later W w') => says_of (bestA_of (l := l) Hrul.out (ofB_false.1 hob)) hw)
      clear hob
      go_upto_region 6 with (go_at_call 11; refine (HO.out _ Hst2.out.later).mono ?_; rintro e w3 ⟨rfl, hw3⟩)
      have Hst3 := hide (Hst2.out.later_ hw3)
      clear hw3 Hst2 x0 x1 x2 x3 x4 x5 x6 x7 x8 x9 x10 x11 x12 p0 p1 p2 p3 p4 p5
      obtain ⟨⟨z0, z1, z2⟩, -⟩ := Hst3.out.z.mv
      have f0 := Hst3.out.z.free 0
      have f1 := Hst3.out.z.free 1
      have f2 := Hst3.out.z.free 2
      have HL := hide Hst3.out.later
      clear Hst3
      go_wp2_with fail
      refine bodyPost_ret (v := .tuple #[.agg #[.int .i64 0, .int .i64 0, .int .u8 0], .int .i64 6]) (by simp [results, Tryz.results18, go_sem, z0, z1, z2]) rfl (HQ.out _ _ (Hbad.out _ ?_))
      repeat (first | with_reducible exact HL.out | (with_reducible refine Later.set ?_ (by simp; omega) _))
    have Hok := hide (ofB_true.1 hob)
    clear hob
    have HM2 := hide (HM.out Hok.out)
    go_upto_region 7 with (go_at_call 11; refine (HO.out _ Hst2.out.later).mono ?_; rintro e w3 ⟨rfl, hw3⟩)
    have Hst3 := hide (Hst2.out.later_ hw3)
    clear hw3 Hst2 x0 x1 x2 x3 x4 x5 x6 x7 x8 x9 x10 x11 x12 p0 p1 p2 p3 p4 p5
    obtain ⟨x0, x1, x2, x3, x4, x5, x6, x7, x8, x9, x10, x11, x12⟩ := Hst3.out.r.rules
    obtain ⟨p0, p1, p2, p3, p4, p5⟩ := Hst3.out.p.pos6
    go_upto_region 8 with (go_at_call 12; refine (HM2.out _ Hst3.out.later).mono ?_; rintro e w4 ⟨A2, c2, rfl, hle4, hc4, ha4, hw4⟩)
    have Hst4 := hide (Hst3.out.later_ hw4)
    have Hc4 := hide hc4
    clear hle4 hc4 ha4 hw4 Hst3 x0 x1 x2 x3 x4 x5 x6 x7 x8 x9 x10 x11 x12 p0 p1 p2 p3 p4 p5
    have hLl := HLen.out Hok.out
    obtain ⟨L, hL⟩ : ∃ L, movesL r p = L := ⟨_, rfl⟩
    have Hout := hide (show (∀ m ∈ L, hitB l l[i] (madeP r p m) = false) → ∀ w', Later W w' → BestSays r l p W (.returned (.tuple #[.agg #[.int .i64 0, .int .i64 0, .int .u8 0], .int .i64 6])) w' from fun hn w' hw => says_of (bestA_out (l := l) Hok.out Hfo.out hil (hL ▸ hn)) hw)
    have Hin := hide (show ∀ k (hk : k < L.length), hitB l l[i] (madeP r p L[k]) = true → (∀ j (h : j < L.length), j < k → hitB l l[i] (madeP r p L[j]) = false) → ∀ w', Later W w' → BestSays r l p W (.returned (.tuple #[.agg #[.int .i64 L[k].f, .int .i64 L[k].t, .int .u8 L[k].c], .int .i64 0])) w' from by
      subst hL
      exact fun k hk hy hn w' hw => says_of (bestA_in (l := l) (k := k) Hok.out Hfo.out hil hk hy hn) hw)
    have HD2 := hide (fun m q w (hm : m ∈ L) (hq : madeP r p m = q) => HD.out Hok.out m q w (hL ▸ hm) hq)
    rw [hL] at Hc4 hLl ⊢
    clear hL HM HM2 HD HR HO HF1 HLen
    go_wp2_with fail
    go_loopw [11] (fun kv wr => ∃ k : Nat, k ≤ L.length ∧ kv = .int .i64 (k : Int) ∧ (∀ j (h : j < L.length), j < k → hitB l l[i] (madeP r p L[j]) = false) ∧ Later w4 wr) (fun kv _ => L.length - (intOf kv).toNat)
    case atStart => exact ⟨0, by omega, rfl, fun j _ h => by omega, Later.rfl⟩
    case round =>
      rename World => wr
      obtain ⟨k, hk, rfl, hall, hw⟩ := hrel
      have Hall := hide hall
      have Hstr := hide (Hst4.out.later_ hw)
      have Hcr := hide ((Hc4.out.below hw).more hw.size)
      have Hwr := hide hw
      clear hall hw
      by_cases hge : L.length ≤ k
      · as_aux_lemma =>
          have Hn := hide (Hout.out (fun m hm => by
            obtain ⟨j, hj, rfl⟩ := List.getElem_of_mem hm
            exact Hall.out j hj (by omega)))
          clear Hcr Hwr
          go_upto_region 17 with (fail)
          refine wp_region_lit ?_
          refine wpList_plain rfl (fun K hK => ?_)
          go_simp
          refine hK _ _ ?_
          clear hK K
          refine wpList_plain rfl (fun K hK => ?_)
          refine wp_store_row 29 (.tmp 6) (.tmp 98) rfl (W.heap.size + 1 + 1 + 1) #[.int .i64 0, .int .i64 0, .int .u8 0] rfl rfl 29 _ Hstr.out.z (by kernel_rfl) (by simp) (by simp [Value.oneCell']) ?_
          refine hK _ _ ?_
          clear hK K
          have hz9 := setRow_blk (vs := #[.int .i64 0, .int .i64 0, .int .u8 0]) Hstr.out.z
          have HL9 := hide (setRow_later (vs := #[.int .i64 0, .int .i64 0, .int .u8 0]) Hstr.out.later)
          obtain ⟨w9, hw9⟩ : ∃ w9, World.setRow wr (W.heap.size + 1 + 1 + 1) #[.int .i64 0, .int .i64 0, .int .u8 0] = w9 := ⟨_, rfl⟩
          rw [hw9] at hz9 HL9 ⊢
          clear hw9 Hstr
          obtain ⟨⟨z0, z1, z2⟩, -⟩ := hz9.mv
          go_wp2_with fail
          refine bodyPost_ret (v := .tuple #[.agg #[.int .i64 0, .int .i64 0, .int .u8 0], .int .i64 6]) (by simp [results, Tryz.results18, go_sem, z0, z1, z2]) rfl (HQ.out _ _ (Hn.out _ HL9.out))
      · have hlt : k < L.length := Nat.lt_of_not_le hge
        obtain ⟨b, off, rfl, hb, y0, y1, y2⟩ := mv_at Hcr.out hlt
        have HD3 := hide (fun w => HD2.out L[k] (madeP r p L[k]) w (List.getElem_mem hlt) rfl)
        have Hin2 := hide (Hin.out k hlt)
        have Hnext := hide (show hitB l l[i] (madeP r p L[k]) = false → ∀ j (h : j < L.length), j < k + 1 → hitB l l[i] (madeP r p L[j]) = false from fun h0 j h hj => by
          by_cases e : j = k
          · subst e; exact h0
          · exact Hall.out j h (by omega))
        obtain ⟨q, hq⟩ : ∃ q, madeP r p L[k] = q := ⟨_, rfl⟩
        rw [hq] at HD3 Hin2 Hnext
        obtain ⟨m, hmm⟩ : ∃ m, L[k] = m := ⟨_, rfl⟩
        simp only [hmm] at HD3 Hin2
        have Hmm := hide hmm
        rw [hmm] at y0 y1 y2
        clear hq hmm
        obtain ⟨x0, x1, x2, x3, x4, x5, x6, x7, x8, x9, x10, x11, x12⟩ := Hstr.out.r.rules
        obtain ⟨p0, p1, p2, p3, p4, p5⟩ := Hstr.out.p.pos6
        have HF2 := hide (fun w hw hb => HF.out q (W.heap.size + 1) w hw hb)
        obtain ⟨fj, hfj⟩ : ∃ fj, findO l q = fj := ⟨_, rfl⟩
        have hfi : findI l q = numX fj := by unfold findI; rw [hfj]
        simp only [hfi] at HF2
        go_upto_region 11 with (fail)
        have HstD := hide (show BsSt W #[.int .i64 r.start.w, .int .i64 r.start.h, .string r.start.cells, .int .i64 r.start.turn, .string r.start.h0, .string r.start.h1, .slice A r.pieces.length cp, .bool r.drops, .int .u8 r.lose, .int .i64 r.line, .int .u8 r.reach, .bool r.stuck, .int .i64 r.plies] #[.slice Al l.length cl] #[.int .i64 p.w, .int .i64 p.h, .string p.cells, .int .i64 p.turn, .string p.h0, .string p.h1] #[.int .i64 0, .int .i64 0, .int .u8 0] wr.drew from Hstr.out.drewN 1)
        go_cut [12] from 35 to 97 (fun jv wx => jv = .int .i64 (numX fj) ∧ Later wr wx)
        case first =>
          as_aux_lemma =>
            go_region_with (first
              | (go_at_call 16; refine (HD3.out _).mono ?_; rintro e w5 ⟨rfl, hw5⟩)
              | (go_at_call 45; refine (HF2.out _ (HstD.out.later_ hw5).later (HstD.out.later_ hw5).l).mono ?_; rintro e w6 ⟨rfl, hw6⟩))
            all_goals
              go_wp2_with fail
              go_meet
              case rel => exact ⟨rfl, ((Later.rfl (w := wr)).drew.trans hw5).trans hw6⟩
        case rest =>
          obtain ⟨rfl, hw6⟩ := hcut
          rename World => w6
          have Hst6 := hide (Hstr.out.later_ hw6)
          have Hc6 := hide ((Hcr.out.below hw6).more hw6.size)
          have Hw6 := hide (Hwr.out.trans hw6)
          clear hw6 HstD Hstr Hcr Hwr x0 x1 x2 x3 x4 x5 x6 x7 x8 x9 x10 x11 x12 p0 p1 p2 p3 p4 p5 y0 y1 y2 HD3 HF2 hfi
          cases fj
          case none =>
            have Hn := hide (Hnext.out (hitB_none hfj))
            have e1 : numX none = -1 := rfl
            rw [e1]
            clear hfj e1
            go_wp2_with fail
            go_roundw
            case rel => exact ⟨k + 1, by omega, by go_num, Hn.out, Hw6.out⟩
            case measure => simp [intOf]; omega
          case some j =>
            have hjl := findO_lt hfj
            have hhit : hitB l l[i] q = okP l[i].v l[i].d l[j].v l[j].d := hitB_some hfj hjl
            have e1 : numX (some j) = (j : Int) := rfl
            rw [e1]
            have hcE := HE.out w6 Hst6.out.later
            obtain ⟨bl, ol, rfl, hbl, -, -, -, -, -, -, vi6, vi7⟩ := ent_at hcE hil
            obtain ⟨bl', ol', hbb, -, -, -, -, -, -, -, vj6, vj7⟩ := ent_at hcE hjl
            injection hbb with hbb
            injection hbb with hbb1 hbb2
            subst hbb1
            subst hbb2
            obtain ⟨ei, hei⟩ : ∃ ei, l[i] = ei := ⟨_, rfl⟩
            obtain ⟨ej, hej⟩ : ∃ ej, l[j] = ej := ⟨_, rfl⟩
            rw [hei] at hhit vi6 vi7 Hin2 Hnext
            rw [hej] at hhit vj6 vj7
            obtain ⟨pe, vi, di⟩ := ei
            obtain ⟨pf, vj, dj⟩ := ej
            simp only at hhit vi6 vi7 vj6 vj7
            have l0 : w6.cell? ⟨W.heap.size + 1, 0, none⟩ = some (.slice (some ⟨bl, ol, none⟩) l.length cl) := Hst6.out.l.cellv (i := 0) rfl
            have i1 : (0 : Int) ≤ (i : Int) := by omega
            have i2 : (i : Int) < (l.length : Int) := by omega
            have j1 : (0 : Int) ≤ (j : Int) := by omega
            have j2 : (j : Int) < (l.length : Int) := by omega
            have Hhit := hide hhit
            have Hei := hide hei
            have Hej := hide hej
            clear hfj e1 hcE hhit hei hej
            have s1 : W.heap.size + 1 < w6.heap.size := Hst6.out.l.lt
            have s2 : bl < w6.heap.size := by have := Hst6.out.later.size; omega
            have s3 : ¬ (W.heap.size + 1 = w6.heap.size) := by omega
            have s4 : ¬ (bl = w6.heap.size) := by omega
            go_upto_region 13 with (fail)
            go_big_region
            go_upto_region 14 with (fail)
            have Hl7 := hide (show Later w6 (w6.alloc (.cells #[.int .i64 vi, .int .i64 vj] 87)).drew from (Later.rfl.alloc _).drew)
            have Hp7 := hide (show Blk (w6.alloc (.cells #[.int .i64 vi, .int .i64 vj] 87)).drew w6.heap.size 87 #[.int .i64 vi, .int .i64 vj] from (Blk.new w6 _ _).drewN 1)
            obtain ⟨gp, hgp⟩ : ∃ gp, w6.heap.size = gp := ⟨_, rfl⟩
            obtain ⟨w7, hw7⟩ : ∃ w7, (w6.alloc (.cells #[.int .i64 vi, .int .i64 vj] 87)).drew = w7 := ⟨_, rfl⟩
            rw [hw7] at Hl7 Hp7 ⊢
            rw [hgp] at Hp7 ⊢
            have Hst7 := hide (Hst6.out.later_ Hl7.out)
            have Hc7 := hide ((Hc6.out.below Hl7.out).more Hl7.out.size)
            have Hw7 := hide (Hw6.out.trans Hl7.out)
            clear hw7 hgp s1 s2 s3 s4 l0 vi6 vi7 vj6 vj7
            have hcE := HE.out w7 Hst7.out.later
            obtain ⟨bl', ol', hbb, -, -, -, -, -, -, -, vi6, vi7⟩ := ent_at hcE hil
            injection hbb with hbb
            injection hbb with hbb1 hbb2
            subst hbb1
            subst hbb2
            obtain ⟨bl', ol', hbb, -, -, -, -, -, -, -, vj6, vj7⟩ := ent_at hcE hjl
            injection hbb with hbb
            injection hbb with hbb1 hbb2
            subst hbb1
            subst hbb2
            rw [Hei.out] at vi6 vi7
            rw [Hej.out] at vj6 vj7
            simp only at vi6 vi7 vj6 vj7
            have l0 : w7.cell? ⟨W.heap.size + 1, 0, none⟩ = some (.slice (some ⟨bl, ol, none⟩) l.length cl) := Hst7.out.l.cellv (i := 0) rfl
            obtain ⟨wv, hwv⟩ : ∃ wv, IntKind.i64.wrap (di - 1) = wv := ⟨_, rfl⟩
            obtain ⟨nb, hnb⟩ : ∃ nb, (dj == wv) = nb := ⟨_, rfl⟩
            go_quiet (fail)
            have Hst8 := hide (Hst7.out.drewN nq)
            have Hp8 := hide (Hp7.out.drewN nq)
            have Hc8 := hide (show Cells (w7.drewN nq) (w7.drewN nq).heap.size (some ⟨b, off, none⟩) (cellsM L) from Hc7.out)
            have Hw8 := hide (Hw7.out.drewN nq)
            obtain ⟨w8, hw8⟩ : ∃ w8, w7.drewN nq = w8 := ⟨_, rfl⟩
            rw [hw8] at Hst8 Hp8 Hc8 Hw8 ⊢
            clear hw8 Hst6 Hst7 Hp7 Hc6 Hc7 Hw6 Hw7 Hl7 vi6 vi7 vj6 vj7 l0 hcE
            obtain ⟨b1, hb1⟩ : ∃ b1, (vi == 1 && vj == 2) = b1 := ⟨_, rfl⟩
            obtain ⟨b2, hb2⟩ : ∃ b2, (vi == 2 && vj == 1) = b2 := ⟨_, rfl⟩
            obtain ⟨b3, hb3⟩ : ∃ b3, (vi == 3 && vj == 3) = b3 := ⟨_, rfl⟩
            have hq1 := fun w => eqPair vi vj 1 2 w
            have hq2 := fun w => eqPair vi vj 2 1 w
            have hq3 := fun w => eqPair vi vj 3 3 w
            have hg := fun op a b c d w => gdPair op a b vi vj c d w
            rw [hb1] at hq1
            rw [hb2] at hq2
            rw [hb3] at hq3
            have hval : hitB l ⟨pe, vi, di⟩ q = ((b1 && nb) || (b2 && nb) || b3) := by
              rw [Hhit.out]; unfold okP; rw [hwv, hnb, hb1, hb2, hb3]
            have H12 := hide (show b1 = true → b2 = false ∧ b3 = false from by
              rw [← hb1, ← hb2, ← hb3]
              intro h
              simp only [Bool.and_eq_true, beq_iff_eq] at h
              rw [h.1, h.2]
              exact ⟨rfl, rfl⟩)
            have H23 := hide (show b2 = true → b3 = false from by
              rw [← hb2, ← hb3]
              intro h
              simp only [Bool.and_eq_true, beq_iff_eq] at h
              rw [h.1, h.2]
              rfl)
            obtain ⟨hb, hhb⟩ : ∃ hb, ((b1 && nb) || (b2 && nb) || b3) = hb := ⟨_, rfl⟩
            rw [hhb] at hval
            have Hval := hide hval
            have Hhb := hide hhb
            have g0 : w8.cell? ⟨gp, 0, none⟩ = some (.int .i64 vi) := Hp8.out.cellv (i := 0) rfl
            have g1 : w8.cell? ⟨gp, 1, none⟩ = some (.int .i64 vj) := Hp8.out.cellv (i := 1) rfl
            clear hval hhb hb1 hb2 hb3 hwv hnb Hhit
            go_upto_region 15 with (fail)
            go_cut [93] from 35 to 97 (fun s wx => s = .bool hb ∧ wx = w8)
            case first =>
              as_aux_lemma =>
                have Hhb2 := Hhb
                cases b1
                · cases b2
                  · cases b3
                    all_goals
                      go_wp2_with fail
                      go_meet
                      case rel => exact ⟨by rw [← Hhb2.out] <;> simp, rfl⟩
                  · have e3 := H23.out rfl
                    subst e3
                    cases nb
                    all_goals
                      go_wp2_with fail
                      go_meet
                      case rel => exact ⟨by rw [← Hhb2.out] <;> rfl, rfl⟩
                · obtain ⟨e2, e3⟩ := H12.out rfl
                  subst e2
                  subst e3
                  cases nb
                  all_goals
                    go_wp2_with fail
                    go_meet
                    case rel => exact ⟨by rw [← Hhb2.out] <;> rfl, rfl⟩
            case rest =>
              obtain ⟨rfl, rfl⟩ := hcut
              rename World => w8
              as_aux_lemma =>
                clear g0 g1 hq1 hq2 hq3 hg
                cases hb
                · have Hn := hide (Hnext.out Hval.out)
                  go_wp2_with fail
                  go_roundw
                  case rel => exact ⟨k + 1, by omega, by go_num, fun j h hj => by rw [Hei.out]; exact Hn.out j h hj, Hw8.out⟩
                  case measure => simp [intOf]; omega
                · have Hi := hide (Hin2.out Hval.out (fun j h hj => by have := Hall.out j h hj; rw [Hei.out] at this; exact this))
                  obtain ⟨b', off', hbb, -, y0, y1, y2⟩ := mv_at Hc8.out hlt
                  injection hbb with hbb
                  injection hbb with hbb1 hbb2
                  subst hbb1
                  subst hbb2
                  rw [Hmm.out] at y0 y1 y2
                  clear Hp8 Hc8 Hw8
                  go_upto_region 16 with (fail)
                  refine wp_region_lit ?_
                  refine wpList_plain rfl (fun K hK => ?_)
                  go_simp
                  refine hK _ _ ?_
                  clear hK K
                  refine wpList_plain rfl (fun K hK => ?_)
                  go_simp
                  refine hK _ _ ?_
                  clear hK K
                  refine wpList_plain rfl (fun K hK => ?_)
                  go_simp
                  refine hK _ _ ?_
                  clear hK K
                  refine wpList_plain rfl (fun K hK => ?_)
                  go_simp
                  refine hK _ _ ?_
                  clear hK K
                  refine wpList_plain rfl (fun K hK => ?_)
                  refine wp_store_row 29 (.tmp 6) (.tmp 97) rfl (W.heap.size + 1 + 1 + 1) #[.int .i64 m.f, .int .i64 m.t, .int .u8 m.c] rfl rfl 29 _ Hst8.out.z (by kernel_rfl) (by simp) (by simp [Value.oneCell']) ?_
                  refine hK _ _ ?_
                  clear hK K
                  have hz9 := setRow_blk (vs := #[.int .i64 m.f, .int .i64 m.t, .int .u8 m.c]) Hst8.out.z
                  have HL9 := hide (setRow_later (vs := #[.int .i64 m.f, .int .i64 m.t, .int .u8 m.c]) Hst8.out.later)
                  obtain ⟨w9, hw9⟩ : ∃ w9, World.setRow w8 (W.heap.size + 1 + 1 + 1) #[.int .i64 m.f, .int .i64 m.t, .int .u8 m.c] = w9 := ⟨_, rfl⟩
                  rw [hw9] at hz9 HL9 ⊢
                  clear hw9 Hst8
                  obtain ⟨⟨z0, z1, z2⟩, -⟩ := hz9.mv
                  go_wp2_with fail
                  refine bodyPost_ret (v := .tuple #[.agg #[.int .i64 m.f, .int .i64 m.t, .int .u8 m.c], .int .i64 0]) (by simp [results, Tryz.results18, go_sem, z0, z1, z2]) rfl (HQ.out _ _ (Hi.out _ HL9.out))
theorem bestOf_any (r : RulesD) (A Al : Option Addr) (cp cl : Nat) (l : List EntD) (p : Pos) (W : World) (hf : RFit r) (hg : PFit p) (hP : PiecesAt W W.heap.size A r.pieces) (hm : l.length ≤ 9223372036854775807) (hl : Cells W W.heap.size Al (cellsE l)) :
    Calls Tryz.prog 18 #[.agg #[.int .i64 r.start.w, .int .i64 r.start.h, .string r.start.cells, .int .i64 r.start.turn, .string r.start.h0, .string r.start.h1, .slice A r.pieces.length cp, .bool r.drops, .int .u8 r.lose, .int .i64 r.line, .int .u8 r.reach, .bool r.stuck, .int .i64 r.plies], .slice Al l.length cl, .agg #[.int .i64 p.w, .int .i64 p.h, .string p.cells, .int .i64 p.turn, .string p.h0, .string p.h1]] W (BestSays r l p W) := bestOf_q _ r A Al cp cl l p W hf hg hP hm hl (fun _ _ h => h)
end Go.Proofs.YtdfegpohmaideaaGreat
