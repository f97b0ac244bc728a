/- gamelaw.TableBest answers true and leaves what was there as it was, for all rules, every list of entries and every position. No condition. -/
import Derived.Test.YtdfegpohmaideaaGreatBase
import Derived.Deep.Matrix
import Derived.ProofKit
import Derived.Test.YtdfegpohmaideaaGreatRows
import Derived.OpenShut
import Derived.ChangeMaps5
import Derived.Test.YtdfegpohmaideaaGreatRuCheck
import Derived.ChangeArms
import Derived.Test.YtdfegpohmaideaaGreatTbRefM
import Derived.Below
import Derived.ChangeSame
import Derived.WalkKit
/- Arguments opened into the words of Base. -/
namespace Go.Proofs.YtdfegpohmaideaaGreat
open Go.RowKit Go.ChangeShapes Go.WideShapes Go.Deep

theorem addr_of_cell {w : World} {a : Addr} {v : Value} (h : w.cell? a = some v) : a = ⟨a.block, a.off, none⟩ := by
  obtain ⟨b, o, s⟩ := a
  cases s with
  | none => rfl
  | some x =>
    unfold World.cell? at h
    split at h <;> simp at h

section
variable {H : Type} {enc : TypeId × Value → H} {P : Program} {w : World}

theorem cells_of {a : Addr} {xs : List Value} (h : ∀ k (hk : k < xs.length), w.cell? (a.add k) = some xs[k]) : Cells w w.heap.size (some a) xs := fun hn => by
  have h0 := h 0 hn
  have ha : a = ⟨a.block, a.off, none⟩ := by
    have := addr_of_cell h0
    simpa [Addr.add] using this
  refine ⟨a.block, a.off, by rw [← ha], ?_, fun k hk => ?_⟩
  · have := World.block_lt_of_cell? w _ h0
    simpa [Addr.add] using this
  · have h1 := h k hk
    rw [ha] at h1
    simp only [Addr.add_lit] at h1
    exact h1

theorem open_ints1 {t e : TypeId} (ht : P.underlying t = some (.slice e)) (he : P.underlying e = some (.int .i64)) (ce : P.cellsOf e = 1)
    {v : Value} {d : DataW H} {ps : List MemPlace} (hok : ∃ a n c, v = .slice a n c) (h : DataW.Trod enc P w 0 (fun _ => true) true t v d ps) :
    ∃ A c l, v = .slice A l.length c ∧ l.length ≤ c ∧ c ≤ maxLen ∧ Cells w w.heap.size A (ints l) ∧ (∀ x ∈ l, -9223372036854775808 ≤ x ∧ x ≤ 9223372036854775807) := by
  obtain ⟨a0, n0, c0, rfl⟩ := hok
  obtain ⟨fuel, hf⟩ := h
  rcases open_ints ht he ce hf with ⟨hcs, hx⟩ | ⟨a, len, cap, zs, hcs, _, hl, hm, hz, hx, hcell, hwz⟩
  · simp [Value.cells] at hcs
    obtain ⟨rfl, rfl, rfl⟩ := hcs
    exact ⟨none, 0, [], rfl, by simp, by simp [maxLen], Cells.nil_, by simp⟩
  · simp [Value.cells] at hcs
    obtain ⟨rfl, rfl, rfl⟩ := hcs
    simp only [if_true] at hz
    have hlen : (zs.take n0).length = n0 := by simp; omega
    refine ⟨some a, c0, zs.take n0, by rw [hlen], by omega, hm, cells_of (fun k hk => ?_), fun x hx => ?_⟩
    · rw [ints_get]
      simp only [ints_length, hlen] at hk
      rw [hcell k (by omega)]
      simp [List.getD_eq_getElem?_getD, hz, Nat.lt_of_lt_of_le hk hl]
    · have := hwz x (List.mem_of_mem_take hx)
      have h1 : IntKind.i64.min = -9223372036854775808 := rfl
      have h2 : IntKind.i64.max = 9223372036854775807 := rfl
      simp [Lit.wf, h1, h2] at this
      omega

theorem open_rows2 {t e q : TypeId} (ht : P.underlying t = some (.slice e)) (he : P.underlying e = some (.slice q)) (hq : P.underlying q = some (.int .i64))
    (ce : P.cellsOf e = 1) (cq : P.cellsOf q = 1) {v : Value} {d : DataW H} {ps : List MemPlace} (hok : ∃ a n c, v = .slice a n c) (h : DataW.Trod enc P w 0 (fun _ => true) true t v d ps) :
    ∃ A c rows, v = .slice A rows.length c ∧ rows.length ≤ c ∧ c ≤ maxLen ∧ Rows2 w w.heap.size A rows ∧ (∀ k (hk : k < rows.length), rows[k].length ≤ maxLen) := by
  obtain ⟨a0, n0, c0, rfl⟩ := hok
  obtain ⟨fuel, hf⟩ := h
  rcases open_int_rows ht he hq ce cq hf with ⟨hcs, hx⟩ | ⟨a, len, cap, A, L, C, Z, hcs, _, hl, hm, hx, hr⟩
  · simp [Value.cells] at hcs
    obtain ⟨rfl, rfl, rfl⟩ := hcs
    exact ⟨none, 0, [], rfl, by simp, by simp [maxLen], ⟨[], rfl, Cells.nil_, fun k h => by simp at h⟩, fun k h => by simp at h⟩
  · simp [Value.cells] at hcs
    obtain ⟨rfl, rfl, rfl⟩ := hcs
    have hlen : ((List.range n0).map fun r => (Z r).take (L r)).length = n0 := by simp
    have hrow : ∀ k (hk : k < ((List.range n0).map fun r => (Z r).take (L r)).length), ((List.range n0).map fun r => (Z r).take (L r))[k] = (Z k).take (L k) := fun k hk => by simp
    have hZ : ∀ k, k < n0 → ((Z k).take (L k)).length = L k := fun k hk => by
      obtain ⟨_, h1, _, h3, _⟩ := hr k (by omega)
      simp; omega
    refine ⟨some a, c0, (List.range n0).map fun r => (Z r).take (L r), by rw [hlen], by omega, hm, ⟨(List.range n0).map fun r => .slice (A r) (L r) (C r), by simp, cells_of (fun k hk => ?_), fun k hk => ?_⟩, fun k hk => ?_⟩
    · simp only [List.length_map, List.length_range] at hk
      rw [(hr k (by omega)).1]
      simp
    · have hk' : k < n0 := by rw [hlen] at hk; exact hk
      obtain ⟨h0, h1, h2, h3, h4, h5, h6⟩ := hr k (by omega)
      refine ⟨A k, C k, ?_, ?_, ?_⟩
      · rw [hrow, hZ k hk']; exact h1
      · rw [hrow, hZ k hk']; simp [hk']
      · rw [hrow]
        cases hA : A k with
        | none =>
          have : L k = 0 := by have := h5 hA; omega
          rw [this]
          exact Cells.nil_
        | some a' =>
          refine cells_of (fun c hc => ?_)
          rw [ints_get]
          simp only [ints_length, hZ k hk'] at hc
          rw [(h6 a' hA).2 c (by omega)]
          simp [List.getD_eq_getElem?_getD, h3, Nat.lt_of_lt_of_le hc h1]
    · have hk' : k < n0 := by rw [hlen] at hk; exact hk
      obtain ⟨h0, h1, h2, h3, h4, h5, h6⟩ := hr k (by omega)
      rw [hrow, hZ k hk']
      omega
end
end Go.Proofs.YtdfegpohmaideaaGreat
/- A position as an argument, opened. -/
namespace Go.Proofs.YtdfegpohmaideaaGreat
open Go.RowKit Go.ChangeShapes Go.WideShapes Go.Deep Go.ChangeMaps

section
variable {H : Type} {enc : TypeId × Value → H} {w : World} {base : Nat} {spare : Nat → Bool} {held : Bool}

set_option maxRecDepth 100000 in
/-- the six cells of a position, wherever they stand -/
theorem trod_pos {fuel : Nat} {cs : List Value} {x : DataW H × List MemPlace} (h : DataW.trod enc Tryz.prog w base spare held fuel 24 cs = some x) :
    ∃ (a b : Int) (c : ByteArray) (t : Int) (h0 h1 : ByteArray), cs = [.int .i64 a, .int .i64 b, .string c, .int .i64 t, .string h0, .string h1] ∧ x.2 = [] ∧
      c.size ≤ 9223372036854775807 ∧ h0.size ≤ 9223372036854775807 ∧ h1.size ≤ 9223372036854775807 ∧ (-9223372036854775808 ≤ a ∧ a ≤ 9223372036854775807) ∧ (-9223372036854775808 ≤ b ∧ b ≤ 9223372036854775807) ∧ (-9223372036854775808 ≤ t ∧ t ≤ 9223372036854775807) := by
  obtain ⟨xs, n, _, hx, hlen, hxl, hg⟩ := DataW.trod_struct Tryz.underlying24 h
  have c6 : Tryz.prog.cellsOf 24 = 6 := by kernel_rfl
  have ci : Tryz.prog.cellsOf 3 = 1 := by kernel_rfl
  have cst : Tryz.prog.cellsOf 9 = 1 := by kernel_rfl
  have c2 : Tryz.prog.cellsOf 22 = 2 := by kernel_rfl
  rw [c6] at hlen
  match cs, hlen with
  | [e0, e1, e2, e3, e4, e5], _ =>
    match xs, hxl with
    | [y0, y1, y2, y3, y4], _ =>
      have g0 : DataW.trod enc Tryz.prog w base spare held n 3 (([e0, e1, e2, e3, e4, e5].drop 0).take (Tryz.prog.cellsOf 3)) = [y0, y1, y2, y3, y4][0]? := hg 0 _ rfl
      have g1 : DataW.trod enc Tryz.prog w base spare held n 3 (([e0, e1, e2, e3, e4, e5].drop 1).take (Tryz.prog.cellsOf 3)) = [y0, y1, y2, y3, y4][1]? := hg 1 _ rfl
      have g2 : DataW.trod enc Tryz.prog w base spare held n 9 (([e0, e1, e2, e3, e4, e5].drop 2).take (Tryz.prog.cellsOf 9)) = [y0, y1, y2, y3, y4][2]? := hg 2 _ rfl
      have g3 : DataW.trod enc Tryz.prog w base spare held n 3 (([e0, e1, e2, e3, e4, e5].drop 3).take (Tryz.prog.cellsOf 3)) = [y0, y1, y2, y3, y4][3]? := hg 3 _ rfl
      have g4 : DataW.trod enc Tryz.prog w base spare held n 22 (([e0, e1, e2, e3, e4, e5].drop 4).take (Tryz.prog.cellsOf 22)) = [y0, y1, y2, y3, y4][4]? := hg 4 _ rfl
      simp only [ci, cst, c2, List.drop_zero, List.drop_succ_cons, List.take_succ_cons, List.take_zero, List.getElem?_cons_zero, List.getElem?_cons_succ] at g0 g1 g2 g3 g4
      obtain ⟨a, ha, ea, wa⟩ := DataW.trod_int Tryz.underlying3 g0
      obtain ⟨b, hb, eb, wb⟩ := DataW.trod_int Tryz.underlying3 g1
      obtain ⟨c, hc, ec, wc⟩ := DataW.trod_string Tryz.underlying9 g2
      obtain ⟨t, ht, et, wt⟩ := DataW.trod_int Tryz.underlying3 g3
      obtain ⟨zs, m, _, hz, _, hzl, hzg⟩ := DataW.trod_array Tryz.underlying22 g4
      match zs, hzl with
      | [z0, z1], _ =>
        have k0 := hzg 0 (by omega)
        have k1 := hzg 1 (by omega)
        simp only [cst, Nat.zero_mul, Nat.one_mul, List.drop_zero, List.drop_succ_cons, List.take_succ_cons, List.take_zero, List.getElem?_cons_zero, List.getElem?_cons_succ] at k0 k1
        obtain ⟨h0, q0, r0, s0⟩ := DataW.trod_string Tryz.underlying9 k0
        obtain ⟨h1, q1, r1, s1⟩ := DataW.trod_string Tryz.underlying9 k1
        simp only [List.cons.injEq, and_true] at ha hb hc ht q0 q1
        have m1 : IntKind.i64.min = -9223372036854775808 := rfl
        have m2 : IntKind.i64.max = 9223372036854775807 := rfl
        simp [Lit.wf, m1, m2] at wa wb wt
        have m3 : maxLen = 9223372036854775807 := rfl
        rw [m3] at wc s0 s1
        refine ⟨a, b, c, t, h0, h1, by rw [ha, hb, hc, ht, q0, q1], ?_, by omega, by omega, by omega, wa, wb, wt⟩
        rw [hx]
        simp [ea, eb, ec, et, hz, r0, r1]

set_option maxRecDepth 100000 in
theorem open_pos {r : Reach} {b0 : Nat} {v : Value} {d : DataW H} {p : List MemPlace} (hv : Value.okWide Tryz.prog w r b0 24 v) (h : DataW.Trod enc Tryz.prog w base spare held 24 v d p) :
    ∃ (a b : Int) (c : ByteArray) (t : Int) (h0 h1 : ByteArray), v = .agg #[.int .i64 a, .int .i64 b, .string c, .int .i64 t, .string h0, .string h1] ∧ p = [] ∧
      c.size ≤ 9223372036854775807 ∧ h0.size ≤ 9223372036854775807 ∧ h1.size ≤ 9223372036854775807 ∧ (-9223372036854775808 ≤ a ∧ a ≤ 9223372036854775807) ∧ (-9223372036854775808 ≤ b ∧ b ≤ 9223372036854775807) ∧ (-9223372036854775808 ≤ t ∧ t ≤ 9223372036854775807) := by
  obtain ⟨cs, rfl, hsz⟩ := okWide_struct Tryz.underlying24 hv
  obtain ⟨fuel, hf⟩ := h
  obtain ⟨a, b, c, t, h0, h1, hcs, hp, rest⟩ := trod_pos hf
  obtain ⟨l⟩ := cs
  refine ⟨a, b, c, t, h0, h1, ?_, hp, rest⟩
  have hcs2 : l = [.int .i64 a, .int .i64 b, .string c, .int .i64 t, .string h0, .string h1] := by simpa [Value.cells] using hcs
  rw [hcs2]
end
end Go.Proofs.YtdfegpohmaideaaGreat
/- Rules as an argument, opened. -/
namespace Go.Proofs.YtdfegpohmaideaaGreat
open Go.RowKit Go.ChangeShapes Go.WideShapes Go.Deep Go.ChangeMaps

theorem each_of {α : Type} {P : Nat → α → Prop} : ∀ {n : Nat} (_ : ∀ i, i < n → ∃ x, P i x), ∃ xs : List α, xs.length = n ∧ ∀ i (hi : i < xs.length), P i xs[i]
  | 0, _ => ⟨[], rfl, fun i hi => absurd hi (by simp)⟩
  | n + 1, h => by
    obtain ⟨xs, hl, hx⟩ := each_of (n := n) (fun i hi => h i (by omega))
    obtain ⟨x, hp⟩ := h n (by omega)
    refine ⟨xs ++ [x], by simp [hl], fun i hi => ?_⟩
    by_cases hi' : i < xs.length
    · rw [List.getElem_append_left hi']; exact hx i hi'
    · have : i = n := by simp at hi; omega
      subst this
      rw [List.getElem_append_right (by omega)]
      simpa [hl] using hp
theorem flat_get {α : Type} (f : α → List Value) (k : Nat) (hf : ∀ x, (f x).length = k) : ∀ (xs : List α) (i j : Nat) (hi : i < xs.length), j < k → (xs.flatMap f)[i * k + j]? = (f xs[i])[j]?
  | [], i, _, hi, _ => absurd hi (by simp)
  | x :: xs, 0, j, _, hj => by
    rw [List.flatMap_cons, Nat.zero_mul, Nat.zero_add, List.getElem?_append_left (by rw [hf]; exact hj)]
    rfl
  | x :: xs, i + 1, j, hi, hj => by
    have e : (i + 1) * k + j = k + (i * k + j) := by rw [Nat.succ_mul]; omega
    rw [List.flatMap_cons, e, List.getElem?_append_right (by rw [hf]; omega), hf, Nat.add_sub_cancel_left, flat_get f k hf xs i j (by simpa using hi) hj]
    rfl
theorem flat_length {α : Type} (f : α → List Value) (k : Nat) (hf : ∀ x, (f x).length = k) : ∀ xs : List α, (xs.flatMap f).length = xs.length * k
  | [] => by simp
  | x :: xs => by rw [List.flatMap_cons, List.length_append, hf, flat_length f k hf xs, List.length_cons, Nat.succ_mul]; omega

section
variable {H : Type} {enc : TypeId × Value → H} {w : World} {base : Nat} {spare : Nat → Bool} {held : Bool}

theorem cells_rows {α : Type} (f : α → List Value) (k : Nat) (hk : 0 < k) (hf : ∀ x, (f x).length = k) (a : Addr) (xs : List α) (h : ∀ i (hi : i < xs.length), w.cells? base (a.add (i * k)) k = some (f xs[i])) :
    Cells w w.heap.size (some a) (xs.flatMap f) := by
  refine cells_of (fun j hj => ?_)
  rw [flat_length f k hf] at hj
  have hi : j / k < xs.length := (Nat.div_lt_iff_lt_mul hk).2 hj
  have hjk : j % k < k := Nat.mod_lt _ hk
  obtain ⟨_, _, h1⟩ := World.cells?_some (h _ hi)
  have h2 := h1 (j % k) hjk
  have hdm : j / k * k + j % k = j := by rw [Nat.mul_comm]; exact Nat.div_add_mod j k
  have ha : a = ⟨a.block, a.off, none⟩ := by
    obtain ⟨_, _, z1⟩ := World.cells?_some (h 0 (Nat.lt_of_le_of_lt (Nat.zero_le _) hi))
    have hz : 0 < (f (xs[0]'(Nat.lt_of_le_of_lt (Nat.zero_le _) hi))).length := by rw [hf]; exact hk
    have z2 := addr_of_cell ((z1 0 hk).trans (List.getElem?_eq_getElem hz))
    simpa [Addr.add] using z2
  have e0 : (a.add (j / k * k)).add (j % k) = a.add j := by
    rw [ha]
    simp only [Addr.add_lit]
    rw [Nat.add_assoc, hdm]
  rw [e0] at h2
  rw [h2, ← flat_get f k hf xs (j / k) (j % k) hi hjk, hdm, List.getElem?_eq_getElem (by rw [flat_length f k hf]; exact hj)]

def wayV (r : WayD) : List Value := [.int .i64 r.kind, .int .i64 r.x, .int .i64 r.y, .int .i64 r.take]
theorem wayV_flat (ws : List WayD) : ws.flatMap wayV = ints (flatW ws) := by
  induction ws with
  | nil => rfl
  | cons x ws ih => rw [List.flatMap_cons, ih]; simp [flatW, ints, wayV]
set_option maxRecDepth 100000 in
theorem trod_way {fuel : Nat} {cs : List Value} {x : DataW H × List MemPlace} (h : DataW.trod enc Tryz.prog w base spare held fuel 120 cs = some x) : ∃ r : WayD, cs = wayV r := by
  obtain ⟨xs, n, _, hx, hlen, hxl, hg⟩ := DataW.trod_struct Tryz.underlying120 h
  have c6 : Tryz.prog.cellsOf 120 = 4 := by kernel_rfl
  have ci : Tryz.prog.cellsOf 3 = 1 := by kernel_rfl
  rw [c6] at hlen
  match cs, hlen with
  | [e0, e1, e2, e3], _ =>
    match xs, hxl with
    | [y0, y1, y2, y3], _ =>
      have g0 : DataW.trod enc Tryz.prog w base spare held n 3 (([e0, e1, e2, e3].drop 0).take (Tryz.prog.cellsOf 3)) = [y0, y1, y2, y3][0]? := hg 0 _ rfl
      have g1 : DataW.trod enc Tryz.prog w base spare held n 3 (([e0, e1, e2, e3].drop 1).take (Tryz.prog.cellsOf 3)) = [y0, y1, y2, y3][1]? := hg 1 _ rfl
      have g2 : DataW.trod enc Tryz.prog w base spare held n 3 (([e0, e1, e2, e3].drop 2).take (Tryz.prog.cellsOf 3)) = [y0, y1, y2, y3][2]? := hg 2 _ rfl
      have g3 : DataW.trod enc Tryz.prog w base spare held n 3 (([e0, e1, e2, e3].drop 3).take (Tryz.prog.cellsOf 3)) = [y0, y1, y2, y3][3]? := hg 3 _ rfl
      simp only [ci, List.drop_zero, List.drop_succ_cons, List.take_succ_cons, List.take_zero, List.getElem?_cons_zero, List.getElem?_cons_succ] at g0 g1 g2 g3
      obtain ⟨a, ha, _, _⟩ := DataW.trod_int Tryz.underlying3 g0
      obtain ⟨b, hb, _, _⟩ := DataW.trod_int Tryz.underlying3 g1
      obtain ⟨c, hc, _, _⟩ := DataW.trod_int Tryz.underlying3 g2
      obtain ⟨d, hd, _, _⟩ := DataW.trod_int Tryz.underlying3 g3
      simp only [List.cons.injEq, and_true] at ha hb hc hd
      exact ⟨⟨a, b, c, d⟩, by rw [ha, hb, hc, hd]; rfl⟩
theorem trod_ways {fuel : Nat} {cs : List Value} {x : DataW H × List MemPlace} (h : DataW.trod enc Tryz.prog w base spare held fuel 115 cs = some x) :
    ∃ A c ws, cs = [.slice A ws.length c] ∧ ws.length ≤ c ∧ c ≤ maxLen ∧ WaysAt w w.heap.size A ws := by
  have c4 : Tryz.prog.cellsOf 120 = 4 := by kernel_rfl
  rcases DataW.trod_slice Tryz.underlying115 h with ⟨hcs, _⟩ | ⟨a, len, cap, elems, rest, n, _, hcs, _, _, hl, hm, he, hg, _⟩
  · exact ⟨none, 0, [], hcs, by simp, by simp [maxLen], Cells.nil_⟩
  · rw [c4] at hg
    have hall : ∀ i, i < len → ∃ r : WayD, w.cells? base (a.add (i * 4)) 4 = some (wayV r) := fun i hi => by
      have h1 := hg i hi
      rw [List.getElem?_eq_getElem (by omega)] at h1
      obtain ⟨cs, q1, q2⟩ := Option.bind_eq_some_iff.1 h1
      obtain ⟨r, rfl⟩ := trod_way q2
      exact ⟨r, q1⟩
    obtain ⟨ws, hlen, hws⟩ := each_of hall
    subst hlen
    refine ⟨some a, cap, ws, hcs, hl, hm, ?_⟩
    have := cells_rows wayV 4 (by decide) (fun _ => rfl) a ws hws
    rw [wayV_flat] at this
    exact this
/-- a piece, with where its ways lie -/
def pieceV (z : PieceD × (Option Addr × Nat)) : List Value := [.int .u8 z.1.letter, .int .i64 z.1.worth, .slice z.2.1 z.1.ways.length z.2.2]
theorem pieceV_flat : ∀ zs : List (PieceD × (Option Addr × Nat)), zs.flatMap pieceV = cellsP (zs.map (·.1)) (zs.map (·.2))
  | [] => rfl
  | z :: zs => by rw [List.flatMap_cons, pieceV_flat zs]; rfl
set_option maxRecDepth 100000 in
theorem trod_piece {fuel : Nat} {cs : List Value} {x : DataW H × List MemPlace} (h : DataW.trod enc Tryz.prog w base spare held fuel 117 cs = some x) :
    ∃ z : PieceD × (Option Addr × Nat), cs = pieceV z ∧ z.1.ways.length ≤ z.2.2 ∧ z.2.2 ≤ maxLen ∧ WaysAt w w.heap.size z.2.1 z.1.ways := by
  obtain ⟨xs, n, _, hx, hlen, hxl, hg⟩ := DataW.trod_struct Tryz.underlying117 h
  have c6 : Tryz.prog.cellsOf 117 = 3 := by kernel_rfl
  have ci : Tryz.prog.cellsOf 3 = 1 := by kernel_rfl
  have cu : Tryz.prog.cellsOf 5 = 1 := by kernel_rfl
  have cs1 : Tryz.prog.cellsOf 115 = 1 := by kernel_rfl
  rw [c6] at hlen
  match cs, hlen with
  | [e0, e1, e2], _ =>
    match xs, hxl with
    | [y0, y1, y2], _ =>
      have g0 : DataW.trod enc Tryz.prog w base spare held n 5 (([e0, e1, e2].drop 0).take (Tryz.prog.cellsOf 5)) = [y0, y1, y2][0]? := hg 0 _ rfl
      have g1 : DataW.trod enc Tryz.prog w base spare held n 3 (([e0, e1, e2].drop 1).take (Tryz.prog.cellsOf 3)) = [y0, y1, y2][1]? := hg 1 _ rfl
      have g2 : DataW.trod enc Tryz.prog w base spare held n 115 (([e0, e1, e2].drop 2).take (Tryz.prog.cellsOf 115)) = [y0, y1, y2][2]? := hg 2 _ rfl
      simp only [ci, cu, cs1, List.drop_zero, List.drop_succ_cons, List.take_succ_cons, List.take_zero, List.getElem?_cons_zero, List.getElem?_cons_succ] at g0 g1 g2
      obtain ⟨a, ha, _, wa⟩ := DataW.trod_int Tryz.underlying5 g0
      obtain ⟨b, hb, _, _⟩ := DataW.trod_int Tryz.underlying3 g1
      obtain ⟨A, c, ws, hc, hl, hm, hw⟩ := trod_ways g2
      simp only [List.cons.injEq, and_true] at ha hb hc
      have m1 : IntKind.u8.min = 0 := rfl
      have m2 : IntKind.u8.max = 255 := rfl
      simp [Lit.wf, m1, m2] at wa
      refine ⟨(⟨a.toNat, b, ws⟩, (A, c)), ?_, hl, hm, hw⟩
      rw [ha, hb, hc]
      simp only [pieceV]
      rw [show ((a.toNat : Nat) : Int) = a by omega]
theorem trod_pieces {fuel : Nat} {cs : List Value} {x : DataW H × List MemPlace} (h : DataW.trod enc Tryz.prog w base spare held fuel 25 cs = some x) :
    ∃ A c ps, cs = [.slice A ps.length c] ∧ ps.length ≤ maxLen ∧ (∀ k (h : k < ps.length), ps[k].ways.length ≤ maxLen) ∧ PiecesAt w w.heap.size A ps := by
  have c3 : Tryz.prog.cellsOf 117 = 3 := by kernel_rfl
  rcases DataW.trod_slice Tryz.underlying25 h with ⟨hcs, _⟩ | ⟨a, len, cap, elems, rest, n, _, hcs, _, _, hl, hm, he, hg, _⟩
  · exact ⟨none, 0, [], hcs, by simp [maxLen], fun k h => by simp at h, [], rfl, Cells.nil_, fun k h => by simp at h⟩
  · rw [c3] at hg
    have hall : ∀ i, i < len → ∃ z : PieceD × (Option Addr × Nat), w.cells? base (a.add (i * 3)) 3 = some (pieceV z) ∧ z.1.ways.length ≤ z.2.2 ∧ z.2.2 ≤ maxLen ∧ WaysAt w w.heap.size z.2.1 z.1.ways := fun i hi => by
      have h1 := hg i hi
      rw [List.getElem?_eq_getElem (by omega)] at h1
      obtain ⟨cs, q1, q2⟩ := Option.bind_eq_some_iff.1 h1
      obtain ⟨z, rfl, q3⟩ := trod_piece q2
      exact ⟨z, q1, q3⟩
    obtain ⟨zs, hlen, hzs⟩ := each_of hall
    subst hlen
    refine ⟨some a, cap, zs.map (·.1), by rw [List.length_map]; exact hcs, by rw [List.length_map]; omega, fun k hk => ?_, zs.map (·.2), by simp, ?_, fun k hk => ?_⟩
    · rw [List.length_map] at hk
      rw [List.getElem_map]
      have := hzs k hk
      omega
    · have := cells_rows pieceV 3 (by decide) (fun _ => rfl) a zs (fun i hi => (hzs i hi).1)
      rw [pieceV_flat] at this
      exact this
    · rw [List.length_map] at hk
      rw [List.getElem_map, List.getElem_map]
      exact ⟨(hzs k hk).2.1, (hzs k hk).2.2.2⟩
set_option maxRecDepth 100000 in
theorem trod_rules {fuel : Nat} {cs : List Value} {x : DataW H × List MemPlace} (h : DataW.trod enc Tryz.prog w base spare held fuel 27 cs = some x) :
    ∃ (r : RulesD) (A : Option Addr) (cp : Nat), cs.toArray = #[.int .i64 r.start.w, .int .i64 r.start.h, .string r.start.cells, .int .i64 r.start.turn, .string r.start.h0, .string r.start.h1, .slice A r.pieces.length cp, .bool r.drops, .int .u8 r.lose, .int .i64 r.line, .int .u8 r.reach, .bool r.stuck, .int .i64 r.plies] ∧ RFit r ∧ PiecesAt w w.heap.size A r.pieces := by
  obtain ⟨xs, n, _, hx, hlen, hxl, hg⟩ := DataW.trod_struct Tryz.underlying27 h
  have c13 : Tryz.prog.cellsOf 27 = 13 := by kernel_rfl
  have c6 : Tryz.prog.cellsOf 24 = 6 := by kernel_rfl
  have ci : Tryz.prog.cellsOf 3 = 1 := by kernel_rfl
  have cu : Tryz.prog.cellsOf 5 = 1 := by kernel_rfl
  have cb : Tryz.prog.cellsOf 4 = 1 := by kernel_rfl
  have cs1 : Tryz.prog.cellsOf 25 = 1 := by kernel_rfl
  rw [c13] at hlen
  match cs, hlen with
  | [e0, e1, e2, e3, e4, e5, e6, e7, e8, e9, e10, e11, e12], _ =>
    match xs, hxl with
    | [y0, y1, y2, y3, y4, y5, y6, y7], _ =>
      have g0 : DataW.trod enc Tryz.prog w base spare held n 24 (([e0, e1, e2, e3, e4, e5, e6, e7, e8, e9, e10, e11, e12].drop 0).take (Tryz.prog.cellsOf 24)) = [y0, y1, y2, y3, y4, y5, y6, y7][0]? := hg 0 _ rfl
      have g1 : DataW.trod enc Tryz.prog w base spare held n 25 (([e0, e1, e2, e3, e4, e5, e6, e7, e8, e9, e10, e11, e12].drop 6).take (Tryz.prog.cellsOf 25)) = [y0, y1, y2, y3, y4, y5, y6, y7][1]? := hg 1 _ rfl
      have g2 : DataW.trod enc Tryz.prog w base spare held n 4 (([e0, e1, e2, e3, e4, e5, e6, e7, e8, e9, e10, e11, e12].drop 7).take (Tryz.prog.cellsOf 4)) = [y0, y1, y2, y3, y4, y5, y6, y7][2]? := hg 2 _ rfl
      have g3 : DataW.trod enc Tryz.prog w base spare held n 5 (([e0, e1, e2, e3, e4, e5, e6, e7, e8, e9, e10, e11, e12].drop 8).take (Tryz.prog.cellsOf 5)) = [y0, y1, y2, y3, y4, y5, y6, y7][3]? := hg 3 _ rfl
      have g4 : DataW.trod enc Tryz.prog w base spare held n 3 (([e0, e1, e2, e3, e4, e5, e6, e7, e8, e9, e10, e11, e12].drop 9).take (Tryz.prog.cellsOf 3)) = [y0, y1, y2, y3, y4, y5, y6, y7][4]? := hg 4 _ rfl
      have g5 : DataW.trod enc Tryz.prog w base spare held n 5 (([e0, e1, e2, e3, e4, e5, e6, e7, e8, e9, e10, e11, e12].drop 10).take (Tryz.prog.cellsOf 5)) = [y0, y1, y2, y3, y4, y5, y6, y7][5]? := hg 5 _ rfl
      have g6 : DataW.trod enc Tryz.prog w base spare held n 4 (([e0, e1, e2, e3, e4, e5, e6, e7, e8, e9, e10, e11, e12].drop 11).take (Tryz.prog.cellsOf 4)) = [y0, y1, y2, y3, y4, y5, y6, y7][6]? := hg 6 _ rfl
      have g7 : DataW.trod enc Tryz.prog w base spare held n 3 (([e0, e1, e2, e3, e4, e5, e6, e7, e8, e9, e10, e11, e12].drop 12).take (Tryz.prog.cellsOf 3)) = [y0, y1, y2, y3, y4, y5, y6, y7][7]? := hg 7 _ rfl
      simp only [c6, ci, cu, cb, cs1, List.drop_zero, List.drop_succ_cons, List.take_succ_cons, List.take_zero, List.getElem?_cons_zero, List.getElem?_cons_succ] at g0 g1 g2 g3 g4 g5 g6 g7
      obtain ⟨a, b, c, t, h0, h1, ha, _, hc, hh0, hh1, _⟩ := trod_pos g0
      obtain ⟨A, cp, ps, hp, hpl, hpw, hpa⟩ := trod_pieces g1
      obtain ⟨dr, hdr, _⟩ := DataW.trod_bool Tryz.underlying4 g2
      obtain ⟨lo, hlo, _, wlo⟩ := DataW.trod_int Tryz.underlying5 g3
      obtain ⟨li, hli, _, _⟩ := DataW.trod_int Tryz.underlying3 g4
      obtain ⟨re, hre, _, wre⟩ := DataW.trod_int Tryz.underlying5 g5
      obtain ⟨st, hst, _⟩ := DataW.trod_bool Tryz.underlying4 g6
      obtain ⟨pl, hpl2, _, _⟩ := DataW.trod_int Tryz.underlying3 g7
      simp only [List.cons.injEq, and_true] at ha hp hdr hlo hli hre hst hpl2
      obtain ⟨a0, a1, a2, a3, a4, a5⟩ := ha
      have m1 : IntKind.u8.min = 0 := rfl
      have m2 : IntKind.u8.max = 255 := rfl
      simp [Lit.wf, m1, m2] at wlo wre
      have m3 : maxLen = 9223372036854775807 := rfl
      refine ⟨⟨⟨a, b, c, t, h0, h1⟩, ps, dr, lo.toNat, li, re.toNat, st, pl⟩, A, cp, ?_, ⟨hc, hh0, hh1, by rw [← m3]; exact hpl, fun k h => by rw [← m3]; exact hpw k h⟩, hpa⟩
      rw [a0, a1, a2, a3, a4, a5, hp, hdr, hlo, hli, hre, hst, hpl2]
      simp only
      rw [show ((lo.toNat : Nat) : Int) = lo by omega, show ((re.toNat : Nat) : Int) = re by omega]
set_option maxRecDepth 100000 in
theorem open_rules {r0 : Reach} {b0 : Nat} {v : Value} {d : DataW H} {p : List MemPlace} (hv : Value.okWide Tryz.prog w r0 b0 27 v) (h : DataW.Trod enc Tryz.prog w base spare held 27 v d p) :
    ∃ (r : RulesD) (A : Option Addr) (cp : Nat), v = .agg #[.int .i64 r.start.w, .int .i64 r.start.h, .string r.start.cells, .int .i64 r.start.turn, .string r.start.h0, .string r.start.h1, .slice A r.pieces.length cp, .bool r.drops, .int .u8 r.lose, .int .i64 r.line, .int .u8 r.reach, .bool r.stuck, .int .i64 r.plies] ∧ RFit r ∧ PiecesAt w w.heap.size A r.pieces := by
  obtain ⟨cs, rfl, hsz⟩ := okWide_struct Tryz.underlying27 hv
  obtain ⟨fuel, hf⟩ := h
  obtain ⟨r, A, cp, hcs, h1, h2⟩ := trod_rules hf
  obtain ⟨l⟩ := cs
  refine ⟨r, A, cp, ?_, h1, h2⟩
  exact congrArg Value.agg hcs
set_option maxRecDepth 100000 in
theorem open_move {r0 : Reach} {b0 : Nat} {v : Value} {d : DataW H} {p : List MemPlace} (hv : Value.okWide Tryz.prog w r0 b0 29 v) (h : DataW.Trod enc Tryz.prog w base spare held 29 v d p) :
    ∃ (f t : Int) (c : Nat), v = .agg #[.int .i64 f, .int .i64 t, .int .u8 c] := by
  obtain ⟨cs, rfl, hsz⟩ := okWide_struct Tryz.underlying29 hv
  obtain ⟨fuel, hf⟩ := h
  obtain ⟨xs, n, _, hx, hlen, hxl, hg⟩ := DataW.trod_struct Tryz.underlying29 hf
  have c6 : Tryz.prog.cellsOf 29 = 3 := by kernel_rfl
  have ci : Tryz.prog.cellsOf 3 = 1 := by kernel_rfl
  have cu : Tryz.prog.cellsOf 5 = 1 := by kernel_rfl
  obtain ⟨l⟩ := cs
  rw [c6] at hlen
  have hl3 : l.length = 3 := by simpa [Value.cells] using hlen
  match l, hl3 with
  | [e0, e1, e2], _ =>
    match xs, hxl with
    | [y0, y1, y2], _ =>
      have g0 : DataW.trod enc Tryz.prog w base spare held n 3 (([e0, e1, e2].drop 0).take (Tryz.prog.cellsOf 3)) = [y0, y1, y2][0]? := hg 0 _ rfl
      have g1 : DataW.trod enc Tryz.prog w base spare held n 3 (([e0, e1, e2].drop 1).take (Tryz.prog.cellsOf 3)) = [y0, y1, y2][1]? := hg 1 _ rfl
      have g2 : DataW.trod enc Tryz.prog w base spare held n 5 (([e0, e1, e2].drop 2).take (Tryz.prog.cellsOf 5)) = [y0, y1, y2][2]? := hg 2 _ rfl
      simp only [ci, cu, List.drop_zero, List.drop_succ_cons, List.take_succ_cons, List.take_zero, List.getElem?_cons_zero, List.getElem?_cons_succ] at g0 g1 g2
      obtain ⟨a, ha, _, _⟩ := DataW.trod_int Tryz.underlying3 g0
      obtain ⟨b, hb, _, _⟩ := DataW.trod_int Tryz.underlying3 g1
      obtain ⟨c, hc, _, wc⟩ := DataW.trod_int Tryz.underlying5 g2
      simp only [List.cons.injEq, and_true] at ha hb hc
      have m1 : IntKind.u8.min = 0 := rfl
      have m2 : IntKind.u8.max = 255 := rfl
      simp [Lit.wf, m1, m2] at wc
      refine ⟨a, b, c.toNat, ?_⟩
      rw [ha, hb, hc, show ((c.toNat : Nat) : Int) = c by omega]
end
end Go.Proofs.YtdfegpohmaideaaGreat
/- A list of entries as an argument, opened -/
namespace Go.Proofs.YtdfegpohmaideaaGreat
open Go.RowKit Go.ChangeShapes Go.WideShapes Go.Deep Go.ChangeMaps

section
variable {H : Type} {enc : TypeId × Value → H} {w : World} {base : Nat} {spare : Nat → Bool} {held : Bool}
set_option maxRecDepth 100000 in
theorem trod_entry {fuel : Nat} {cs : List Value} {x : DataW H × List MemPlace} (h : DataW.trod enc Tryz.prog w base spare held fuel 53 cs = some x) : ∃ e : EntD, cs = entC e := by
  obtain ⟨xs, n, _, hx, hlen, hxl, hg⟩ := DataW.trod_struct Tryz.underlying53 h
  have c8 : Tryz.prog.cellsOf 53 = 8 := by kernel_rfl
  have c6 : Tryz.prog.cellsOf 24 = 6 := by kernel_rfl
  have ci : Tryz.prog.cellsOf 3 = 1 := by kernel_rfl
  rw [c8] at hlen
  match cs, hlen with
  | [e0, e1, e2, e3, e4, e5, e6, e7], _ =>
    match xs, hxl with
    | [y0, y1, y2], _ =>
      have g0 : DataW.trod enc Tryz.prog w base spare held n 24 (([e0, e1, e2, e3, e4, e5, e6, e7].drop 0).take (Tryz.prog.cellsOf 24)) = [y0, y1, y2][0]? := hg 0 _ rfl
      have g1 : DataW.trod enc Tryz.prog w base spare held n 3 (([e0, e1, e2, e3, e4, e5, e6, e7].drop 6).take (Tryz.prog.cellsOf 3)) = [y0, y1, y2][1]? := hg 1 _ rfl
      have g2 : DataW.trod enc Tryz.prog w base spare held n 3 (([e0, e1, e2, e3, e4, e5, e6, e7].drop 7).take (Tryz.prog.cellsOf 3)) = [y0, y1, y2][2]? := hg 2 _ rfl
      simp only [c6, ci, List.drop_zero, List.drop_succ_cons, List.take_succ_cons, List.take_zero, List.getElem?_cons_zero, List.getElem?_cons_succ] at g0 g1 g2
      obtain ⟨a, b, c, t, h0, h1, ha, _⟩ := trod_pos g0
      obtain ⟨v, hv, _, _⟩ := DataW.trod_int Tryz.underlying3 g1
      obtain ⟨d, hd, _, _⟩ := DataW.trod_int Tryz.underlying3 g2
      simp only [List.cons.injEq, and_true] at ha hv hd
      obtain ⟨a0, a1, a2, a3, a4, a5⟩ := ha
      exact ⟨⟨⟨a, b, c, t, h0, h1⟩, v, d⟩, by rw [a0, a1, a2, a3, a4, a5, hv, hd]; rfl⟩
theorem open_entries {A : Option Addr} {len cap : Nat} {d : DataW H} {p : List MemPlace} (h : DataW.Trod enc Tryz.prog w base spare held 45 (.slice A len cap) d p) :
    ∃ l : List EntD, len = l.length ∧ l.length ≤ 9223372036854775807 ∧ Cells w w.heap.size A (cellsE l) := by
  obtain ⟨fuel, hf⟩ := h
  have c8 : Tryz.prog.cellsOf 53 = 8 := by kernel_rfl
  rcases DataW.trod_slice Tryz.underlying45 hf with ⟨hcs, _⟩ | ⟨a, len, cap, elems, rest, n, _, hcs, _, _, hl, hm, he, hg, _⟩
  · simp [Value.cells] at hcs
    obtain ⟨rfl, rfl, rfl⟩ := hcs
    exact ⟨[], rfl, by simp, Cells.nil_⟩
  · simp [Value.cells] at hcs
    obtain ⟨rfl, rfl, rfl⟩ := hcs
    rw [c8] at hg
    have hall : ∀ i, i < len → ∃ e : EntD, w.cells? base (a.add (i * 8)) 8 = some (entC e) := fun i hi => by
      have h1 := hg i hi
      rw [List.getElem?_eq_getElem (by omega)] at h1
      obtain ⟨cs, q1, q2⟩ := Option.bind_eq_some_iff.1 h1
      obtain ⟨r, rfl⟩ := trod_entry q2
      exact ⟨r, q1⟩
    obtain ⟨es, hlen, hes⟩ := each_of hall
    subst hlen
    have m3 : maxLen = 9223372036854775807 := rfl
    exact ⟨es, rfl, by rw [← m3]; exact Nat.le_trans hl hm, cells_rows entC 8 (by decide) entC_len a es hes⟩
end
end Go.Proofs.YtdfegpohmaideaaGreat
/- What every law's proof ends with: where a call answers true and leaves all that was there as it was, the row's post-condition holds. -/
namespace Go.Proofs.YtdfegpohmaideaaGreat
open Go.RowKit Go.WideShapes Go.ChangeShapes
theorem trodAll_stays {H : Type} {enc : TypeId × Value → H} {P : Program} (hl : laidOutB P = true) {W W' : World} (hb : Below W.heap.size W W') {sp' : Nat → Bool} :
    ∀ (ts : List TypeId) (vs : List Value) (ds : List (DataW H)) (ps : List MemPlace), (∀ t ∈ ts, P.readableRec t = true ∧ t < P.types.size) →
      (∀ p ∈ ps, p.block < W.heap.size) → (∀ p ∈ ps, sp' p.block = true) →
      DataW.TrodAll enc P W 0 (fun _ => true) true ts vs ds ps → DataW.TrodAll enc P W' 0 sp' true ts vs ds ps
  | [], [], [], _, _, _, _, h => h
  | t :: ts, v :: vs, d :: ds, ps, hr, hlt, hs, h => by
    obtain ⟨p, q, h1, h2, rfl⟩ := h
    refine ⟨p, q, WideElems.Trod_stays hl (hr t (by simp)).1 (hr t (by simp)).2 h1 (fun x hx => hb.same (hlt x (by simp [hx]))) (fun x hx => hs x (by simp [hx])), ?_, rfl⟩
    exact trodAll_stays hl hb ts vs ds q (fun t ht => hr t (by simp [ht])) (fun x hx => hlt x (by simp [hx])) (fun x hx => hs x (by simp [hx])) h2
  | [], _ :: _, _, _, _, _, _, h => h.elim
  | [], [], _ :: _, _, _, _, _, h => h.elim
  | _ :: _, [], _, _, _, _, _, h => h.elim
  | _ :: _, _ :: _, [], _, _, _, _, h => h.elim

theorem law_post {H : Type} {enc : TypeId × Value → H} {P : Program} {f : Func} {s : ChangeSpec} {W W' : World} {args : Array Value} {ds : List (DataW H)} {before : List MemPlace} {tb : TypeId}
    (hl : laidOutB P = true) (hread0 : (f.params.toList.all fun t => P.readableRec t && decide (t < P.types.size)) = true)
    (hW : DataW.Whole enc P f.params.toList s.vars false W args.toList ds [] before)
    (hvars : s.vars = []) (hrt : f.resultTypes = #[tb]) (ht : P.underlying tb = some .bool)
    (hres : (s.fn H (ds ++ [])).results = [.lit (.bool true)]) (hargs : (s.fn H (ds ++ [])).args = ds) (hvs : (s.fn H (ds ++ [])).vars = [])
    (hb : Below W.heap.size W W') :
    s.post enc P f false true false false W args (.bool true) W' := by
  have hread : ∀ t ∈ f.params.toList, P.readableRec t = true ∧ t < P.types.size := fun t ht => by
    have := List.all_eq_true.1 hread0 t ht
    simpa using this
  have hlt : ∀ p ∈ before, p.block < W.heap.size := fun p hp => hW.lt p hp
  obtain ⟨p, q, hA, hV, hpq, hz, hn⟩ := id hW
  rw [hvars] at hV
  obtain ⟨_, rfl⟩ := trodVars_none hV
  have hp : p = before := by rw [hpq]; simp
  rw [hp] at hA
  have args' : ∀ sp : Nat → Bool, (∀ x ∈ before, sp x.block = true) → DataW.TrodAll enc P W' 0 sp true f.params.toList args.toList (s.fn H (ds ++ [])).args before := fun sp hsp => by
    rw [hargs]; exact trodAll_stays hl hb _ _ _ _ hread hlt hsp hA
  have res' : ∀ (b : Nat) (sp : Nat → Bool) (hd : Bool), DataW.TrodAll enc P W' b sp hd f.resultTypes.toList ((Value.bool true).resultList f.resultTypes.size) (s.fn H (ds ++ [])).results [] := fun _ _ _ => by
    rw [hres, hrt]; exact trodAll_mk1 (shut_bool ht _)
  have vars' : ∀ sp : Nat → Bool, DataW.TrodVars enc P W' sp s.vars (s.fn H (ds ++ [])).vars [] := fun sp => by rw [hvs, hvars]; rfl
  refine ⟨ds, [], before, [], before, [], hW, res' _ _ _, args' _ (fun x hx => by simpa using hlt x hx), vars' _, ?_, fun _ => ?_⟩
  · exact World.keptBut_mono (fun x hx => ⟨hx, .inr (.inl hx)⟩) (hb.frame (· ∈ before))
  · refine ⟨ok_one hrt rfl (okWide_bool_mk ht _), (s.fn H (ds ++ [])).results ++ (s.fn H (ds ++ [])).args, (s.fn H (ds ++ [])).vars, ([] ++ before) ++ [], ⟨[] ++ before, [], ?_, vars' (fun _ => true), rfl, ?_, fun h => by cases h⟩, ?_⟩
    · exact trodAll_append (args' (fun _ => true) (fun _ _ => rfl)) (res' 0 (fun _ => true) true)
    · intro b off hin
      have hin' : MemPlace.cell b off ∈ before := by simpa using hin
      rw [hb.frozen (hlt _ hin')]
      exact hz b off hin'
    · intro x hx _
      simpa using hx
end Go.Proofs.YtdfegpohmaideaaGreat
/- table.Best -/
namespace Go.Proofs.YtdfegpohmaideaaGreat
open Go.RowKit Go.Shelf

theorem codeN_f' : codeN false = 1 := rfl
theorem codeN_t' : codeN true = 0 := rfl
/-- what is wanted behind a move from what is worth v -/
def wantV (v : Int) : Int := if v = 1 then 2 else if v = 2 then 1 else 3
theorem okP_eq {v d v' d' : Int} (h1 : 1 ≤ v) (h3 : v ≤ 3) : okP v d v' d' = (v' == wantV v && (v == 3 || d' == IntKind.i64.wrap (d - 1))) := by
  unfold okP wantV
  rcases (by omega : v = 1 ∨ v = 2 ∨ v = 3) with rfl | rfl | rfl <;> simp <;> rfl
theorem okP_out {v d v' d' : Int} (h : v < 1 ∨ 3 < v) : okP v d v' d' = false := by
  unfold okP
  have h1 : (v == 1) = false := by simp; omega
  have h2 : (v == 2) = false := by simp; omega
  have h3 : (v == 3) = false := by simp; omega
  rw [h1, h2, h3]; rfl
theorem hitB_out {l : List EntD} {e : EntD} (h : e.v < 1 ∨ 3 < e.v) (q : Pos) : hitB l e q = false := by
  unfold hitB
  cases hb : ((findO l q).bind fun j => l[j]?) with
  | none => rfl
  | some x => simp [okP_out h]
theorem q_at {w : World} {B : Nat} {A : Option Addr} {l : List Pos} (h : Cells w B A (cellsQ l)) {i : Nat} (hi : i < l.length) :
    ∃ b off, A = some ⟨b, off, none⟩ ∧ b < B ∧ w.cell? ⟨b, off + i * 6, none⟩ = some (.int .i64 l[i].w) ∧ w.cell? ⟨b, off + i * 6 + 1, none⟩ = some (.int .i64 l[i].h) ∧ w.cell? ⟨b, off + i * 6 + 2, none⟩ = some (.string l[i].cells) ∧ w.cell? ⟨b, off + i * 6 + 3, none⟩ = some (.int .i64 l[i].turn) ∧
      w.cell? ⟨b, off + i * 6 + 4, none⟩ = some (.string l[i].h0) ∧ w.cell? ⟨b, off + i * 6 + 5, none⟩ = some (.string l[i].h1) := by
  have hl := cellsQ_len l
  obtain ⟨b, off, hA, hb, hcell⟩ := h (by omega)
  have key : ∀ j v, (posC l[i])[j]? = some v → j < 6 → w.cell? ⟨b, off + i * 6 + j, none⟩ = some v := by
    intro j v hv hj
    have := flat_getE posC 6 (fun _ => rfl) l i j hi hj
    rw [hv] at this
    obtain ⟨h1, h2⟩ := List.getElem?_eq_some_iff.1 this
    rw [Nat.add_assoc, hcell _ h1]
    exact congrArg some h2
  exact ⟨b, off, hA, hb, key 0 _ rfl (by omega), key 1 _ rfl (by omega), key 2 _ rfl (by omega), key 3 _ rfl (by omega), key 4 _ rfl (by omega), key 5 _ rfl (by omega)⟩
set_option maxHeartbeats 8000000 in
set_option maxRecDepth 100000 in
theorem best_q (Q : Ending → World → Prop) (r : RulesD) (A Al : Option Addr) (cp cl : Nat) (l : List EntD) (p : Pos) (W : World) (hf : RFit r) (hg : PFit p) (hP : PiecesAt W W.heap.size A r.pieces) (hm : l.length ≤ 9223372036854775807) (hl : Cells W W.heap.size Al (cellsE l)) (hQ : ∀ e w', BestSays r l p W e w' → Q e w') :
    Calls Tryz.prog 17 #[.agg #[.int .i64 r.start.w, .int .i64 r.start.h, .string r.start.cells, .int .i64 r.start.turn, .string r.start.h0, .string r.start.h1, .slice A r.pieces.length cp, .bool r.drops, .int .u8 r.lose, .int .i64 r.line, .int .u8 r.reach, .bool r.stuck, .int .i64 r.plies], .slice Al l.length cl, .agg #[.int .i64 p.w, .int .i64 p.h, .string p.cells, .int .i64 p.turn, .string p.h0, .string p.h1]] W Q := by
  have HQ := hide hQ
  clear hQ
  have Hst := hide (BsSt.first (W := W) (R := #[.int .i64 r.start.w, .int .i64 r.start.h, .string r.start.cells, .int .i64 r.start.turn, .string r.start.h0, .string r.start.h1, .slice A r.pieces.length cp, .bool r.drops, .int .u8 r.lose, .int .i64 r.line, .int .u8 r.reach, .bool r.stuck, .int .i64 r.plies]) (L := #[.slice Al l.length cl]) (P := #[.int .i64 p.w, .int .i64 p.h, .string p.cells, .int .i64 p.turn, .string p.h0, .string p.h1]) (Z := #[.int .i64 0, .int .i64 0, .int .u8 0]))
  have HR := hide (fun w (hw : Later W w) => check_any r A cp w hf ((hP.below hw).more hw.size))
  have HF := hide (fun q gl w (hw : Later W w) (hb : Blk w gl 45 #[.slice Al l.length cl]) => find_any Al cl l q gl w hm hb ((hl.below hw).more hw.size))
  have HO := hide (fun w (hw : Later W w) => mof_any r A cp p w hf hg ((hP.below hw).more hw.size))
  have HN := hide (fun (hok : OfOk r p) w (hw : Later W w) => next_any r A cp p w hok ((hP.below hw).more hw.size))
  have HE := hide (fun w (hw : Later W w) => hl.below hw)
  have HLen := hide (fun (hok : OfOk r p) => movesL_len (r := r) hok.pos)
  clear hf hg hP hl
  go_enter Tryz.func17, Tryz.ntmps17
  go_upto_region 1 with (fail)
  obtain ⟨w0, hw0⟩ : ∃ w0, ((((W.alloc (.cells #[.int .i64 r.start.w, .int .i64 r.start.h, .string r.start.cells, .int .i64 r.start.turn, .string r.start.h0, .string r.start.h1, .slice A r.pieces.length cp, .bool r.drops, .int .u8 r.lose, .int .i64 r.line, .int .u8 r.reach, .bool r.stuck, .int .i64 r.plies] 27)).alloc (.cells #[.slice Al l.length cl] 45)).alloc (.cells #[.int .i64 p.w, .int .i64 p.h, .string p.cells, .int .i64 p.turn, .string p.h0, .string p.h1] 24)).alloc (.cells #[.int .i64 0, .int .i64 0, .int .u8 0] 29)) = w0 := ⟨_, rfl⟩
  rw [hw0] at Hst ⊢
  clear hw0
  obtain ⟨x0, x1, x2, x3, x4, x5, x6, x7, x8, x9, x10, x11, x12⟩ := Hst.out.r.rules
  obtain ⟨rb, hrb⟩ : ∃ rb, rulesB r = rb := ⟨_, rfl⟩
  rw [hrb] at HR
  cases rb
  case false =>
    have Hbad := hide (fun w' (hw : Later W w') => says_of (bestA_bad (l := l) (p := p) (rulesB_false.1 hrb)) hw)
    rw [codeN_f'] at HR
    clear hrb
    go_upto_region 2 with (go_at_call 40; refine (HR.out _ Hst.out.later).mono ?_; rintro e w1 ⟨rfl, hw1⟩)
    have Hst1 := hide (Hst.out.later_ hw1)
    clear hw1 Hst x0 x1 x2 x3 x4 x5 x6 x7 x8 x9 x10 x11 x12
    obtain ⟨⟨z0, z1, z2⟩, -⟩ := Hst1.out.z.mv
    have f0 := Hst1.out.z.free 0
    have f1 := Hst1.out.z.free 1
    have f2 := Hst1.out.z.free 2
    have HL := hide Hst1.out.later
    clear Hst1
    go_wp2_with fail
    refine bodyPost_ret (v := .tuple #[.agg #[.int .i64 0, .int .i64 0, .int .u8 0], .int .i64 1]) (by simp [results, Tryz.results17, go_sem, z0, z1, z2]) rfl (HQ.out _ _ (Hbad.out _ ?_))
    repeat (first | with_reducible exact HL.out | (with_reducible refine Later.set ?_ (by simp; omega) _))
  have Hrul := hide (rulesB_true.1 hrb)
  rw [codeN_t'] at HR
  clear hrb
  go_upto_region 3 with (go_at_call 40; refine (HR.out _ Hst.out.later).mono ?_; rintro e w1 ⟨rfl, hw1⟩)
  have Hst1 := hide (Hst.out.later_ hw1)
  clear hw1 Hst x0 x1 x2 x3 x4 x5 x6 x7 x8 x9 x10 x11 x12
  obtain ⟨p0, p1, p2, p3, p4, p5⟩ := Hst1.out.p.pos6
  have HF1 := hide (HF.out p _ w1 Hst1.out.later Hst1.out.l)
  obtain ⟨fo, hfo⟩ : ∃ fo, findO l p = fo := ⟨_, rfl⟩
  have hfi : findI l p = numX fo := by unfold findI; rw [hfo]
  rw [hfi] at HF1
  cases fo
  case none =>
    have Hbad := hide (fun w' (hw : Later W w') => says_of (bestA_none Hrul.out hfo) hw)
    have e1 : numX none = -1 := rfl
    rw [e1] at HF1
    clear hfo hfi e1
    go_upto_region 6 with (go_at_call 41; refine HF1.out.mono ?_; rintro e w2 ⟨rfl, hw2⟩)
    have Hst2 := hide (Hst1.out.later_ hw2)
    clear hw2 Hst1 p0 p1 p2 p3 p4 p5
    obtain ⟨⟨z0, z1, z2⟩, -⟩ := Hst2.out.z.mv
    have f0 := Hst2.out.z.free 0
    have f1 := Hst2.out.z.free 1
    have f2 := Hst2.out.z.free 2
    have HL := hide Hst2.out.later
    clear Hst2
    go_wp2_with fail
    refine bodyPost_ret (v := .tuple #[.agg #[.int .i64 0, .int .i64 0, .int .u8 0], .int .i64 6]) (by simp [results, Tryz.results17, go_sem, z0, z1, z2]) rfl (HQ.out _ _ (Hbad.out _ ?_))
    repeat (first | with_reducible exact HL.out | (with_reducible refine Later.set ?_ (by simp; omega) _))
  case some i =>
    have hil := findO_lt hfo
    have Hfo := hide hfo
    have e1 : numX (some i) = (i : Int) := rfl
    rw [e1] at HF1
    clear hfo hfi e1
    go_upto_region 5 with (go_at_call 41; refine HF1.out.mono ?_; rintro e w2 ⟨rfl, hw2⟩)
    have Hst2 := hide (Hst1.out.later_ hw2)
    clear hw2 Hst1 p0 p1 p2 p3 p4 p5
    obtain ⟨x0, x1, x2, x3, x4, x5, x6, x7, x8, x9, x10, x11, x12⟩ := Hst2.out.r.rules
    obtain ⟨p0, p1, p2, p3, p4, p5⟩ := Hst2.out.p.pos6
    obtain ⟨ob, hob⟩ : ∃ ob, ofB r p = ob := ⟨_, rfl⟩
    rw [hob] at HO
    cases ob
    case false =>
      have Hbad := hide (fun w' (hw : Later W w') => says_of (bestA_of (l := l) Hrul.out (ofB_false.1 hob)) hw)
      rw [codeN_f'] at HO
      clear hob
      go_upto_region 6 with (go_at_call 27; refine (HO.out _ Hst2.out.later).mono ?_; rintro e w3 ⟨rfl, hw3⟩)
      have Hst3 := hide (Hst2.out.later_ hw3)
      clear hw3 Hst2 x0 x1 x2 x3 x4 x5 x6 x7 x8 x9 x10 x11 x12 p0 p1 p2 p3 p4 p5
      obtain ⟨⟨z0, z1, z2⟩, -⟩ := Hst3.out.z.mv
      have f0 := Hst3.out.z.free 0
      have f1 := Hst3.out.z.free 1
      have f2 := Hst3.out.z.free 2
      have HL := hide Hst3.out.later
      clear Hst3
      go_wp2_with fail
      refine bodyPost_ret (v := .tuple #[.agg #[.int .i64 0, .int .i64 0, .int .u8 0], .int .i64 6]) (by simp [results, Tryz.results17, go_sem, z0, z1, z2]) rfl (HQ.out _ _ (Hbad.out _ ?_))
      repeat (first | with_reducible exact HL.out | (with_reducible refine Later.set ?_ (by simp; omega) _))
    have Hok := hide (ofB_true.1 hob)
    rw [codeN_t'] at HO
    clear hob
    have HN2 := hide (HN.out Hok.out)
    go_upto_region 7 with (go_at_call 27; refine (HO.out _ Hst2.out.later).mono ?_; rintro e w3 ⟨rfl, hw3⟩)
    have Hst3 := hide (Hst2.out.later_ hw3)
    clear hw3 Hst2 x0 x1 x2 x3 x4 x5 x6 x7 x8 x9 x10 x11 x12 p0 p1 p2 p3 p4 p5
    go_upto_region 8 with (fail)
    have Hl4 := hide (show Later w3 (w3.alloc (.cells #[.int .i64 0, .int .i64 2, .int .i64 1, .int .i64 3] 83)) from (Later.rfl.alloc _))
    have Hp4 := hide (show Blk (w3.alloc (.cells #[.int .i64 0, .int .i64 2, .int .i64 1, .int .i64 3] 83)) w3.heap.size 83 #[.int .i64 0, .int .i64 2, .int .i64 1, .int .i64 3] from Blk.new w3 _ _)
    obtain ⟨w4, hw4⟩ : ∃ w4, w3.alloc (.cells #[.int .i64 0, .int .i64 2, .int .i64 1, .int .i64 3] 83) = w4 := ⟨_, rfl⟩
    rw [hw4] at Hl4 Hp4 ⊢
    have Hst4 := hide (Hst3.out.later_ Hl4.out)
    obtain ⟨ga, hga⟩ : ∃ ga, w3.heap.size = ga := ⟨_, rfl⟩
    rw [hga] at Hp4 ⊢
    clear hw4 hga Hl4 Hst3
    have hcE := HE.out w4 Hst4.out.later
    obtain ⟨bl, ol, rfl, hbl, -, -, -, -, -, -, vi6, vi7⟩ := ent_at hcE hil
    obtain ⟨ei, hei⟩ : ∃ ei, l[i] = ei := ⟨_, rfl⟩
    have Hei := hide hei
    rw [hei] at vi6 vi7
    clear hei
    obtain ⟨pe, vi, di⟩ := ei
    simp only at vi6 vi7
    have l0 : w4.cell? ⟨W.heap.size + 1, 0, none⟩ = some (.slice (some ⟨bl, ol, none⟩) l.length cl) := Hst4.out.l.cellv (i := 0) rfl
    have i1 : (0 : Int) ≤ (i : Int) := by omega
    have i2 : (i : Int) < (l.length : Int) := by omega
    clear hcE
    go_quiet (fail)
    have Hst5 := hide (Hst4.out.drewN nq)
    have Hp5 := hide (Hp4.out.drewN nq)
    obtain ⟨w5, hw5⟩ : ∃ w5, w4.drewN nq = w5 := ⟨_, rfl⟩
    rw [hw5] at Hst5 Hp5 ⊢
    clear hw5 Hst4 Hp4 vi6 vi7 l0
    by_cases h1 : vi < 1
    · have Hbad := hide (fun w' (hw : Later W w') => says_of (bestA_out (l := l) Hok.out Hfo.out hil (fun m _ => hitB_out (by rw [Hei.out]; exact Or.inl h1) _)) hw)
      have t1 : decide (vi < 1) = true := by simpa using h1
      clear h1
      go_upto_region 10 with (fail)
      clear t1
      obtain ⟨⟨z0, z1, z2⟩, -⟩ := Hst5.out.z.mv
      have f0 := Hst5.out.z.free 0
      have f1 := Hst5.out.z.free 1
      have f2 := Hst5.out.z.free 2
      have HL := hide Hst5.out.later
      clear Hst5
      go_wp2_with fail
      refine bodyPost_ret (v := .tuple #[.agg #[.int .i64 0, .int .i64 0, .int .u8 0], .int .i64 6]) (by simp [results, Tryz.results17, go_sem, z0, z1, z2]) rfl (HQ.out _ _ (Hbad.out _ ?_))
      repeat (first | with_reducible exact HL.out | (with_reducible refine Later.set ?_ (by simp; omega) _))
    have t1 : decide (vi < 1) = false := by simpa using h1
    by_cases h3 : 3 < vi
    · have Hbad := hide (fun w' (hw : Later W w') => says_of (bestA_out (l := l) Hok.out Hfo.out hil (fun m _ => hitB_out (by rw [Hei.out]; exact Or.inr h3) _)) hw)
      have t2 : decide (3 < vi) = true := by simpa using h3
      clear h3
      go_upto_region 10 with (fail)
      clear t1 t2
      obtain ⟨⟨z0, z1, z2⟩, -⟩ := Hst5.out.z.mv
      have f0 := Hst5.out.z.free 0
      have f1 := Hst5.out.z.free 1
      have f2 := Hst5.out.z.free 2
      have HL := hide Hst5.out.later
      clear Hst5
      go_wp2_with fail
      refine bodyPost_ret (v := .tuple #[.agg #[.int .i64 0, .int .i64 0, .int .u8 0], .int .i64 6]) (by simp [results, Tryz.results17, go_sem, z0, z1, z2]) rfl (HQ.out _ _ (Hbad.out _ ?_))
      repeat (first | with_reducible exact HL.out | (with_reducible refine Later.set ?_ (by simp; omega) _))
    have t2 : decide (3 < vi) = false := by simpa using h3
    go_upto_region 11 with (fail)
    have Hv := hide (show 1 ≤ vi ∧ vi ≤ 3 by omega)
    clear t1 t2 h1 h3
    obtain ⟨x0, x1, x2, x3, x4, x5, x6, x7, x8, x9, x10, x11, x12⟩ := Hst5.out.r.rules
    obtain ⟨p0, p1, p2, p3, p4, p5⟩ := Hst5.out.p.pos6
    go_upto_region 12 with (go_at_call 44; refine (HN2.out _ Hst5.out.later).mono ?_; rintro e w6 ⟨A1, c1, A2, c2, rfl, hc1, hc2, hw6⟩)
    have Hst6 := hide (Hst5.out.later_ hw6)
    have Hp6 := hide (hw6.blk Hp5.out)
    have Hm6 := hide hc1
    have Hq6 := hide hc2
    clear hc1 hc2 hw6 Hst5 Hp5 x0 x1 x2 x3 x4 x5 x6 x7 x8 x9 x10 x11 x12 p0 p1 p2 p3 p4 p5
    have hLl := HLen.out Hok.out
    obtain ⟨NL, hNL⟩ : ∃ NL, nextL r p = NL := ⟨_, rfl⟩
    obtain ⟨L, hL⟩ : ∃ L, movesL r p = L := ⟨_, rfl⟩
    have Hnl := hide (show ∀ k (hk : k < L.length) (hk2 : k < NL.length), NL[k] = madeP r p L[k] from by subst hL hNL; intro k hk hk2; simp [nextL])
    have Hnn := hide (show NL.length = L.length by rw [← hNL, ← hL]; simp [nextL])
    have Hout := hide (show (∀ m ∈ L, hitB l l[i] (madeP r p m) = false) → ∀ w', Later W w' → BestSays r l p W (.returned (.tuple #[.agg #[.int .i64 0, .int .i64 0, .int .u8 0], .int .i64 6])) w' from fun hn w' hw => says_of (bestA_out (l := l) Hok.out Hfo.out hil (hL ▸ hn)) hw)
    have Hin := hide (show ∀ k (hk : k < L.length), hitB l l[i] (madeP r p L[k]) = true → (∀ j (h : j < L.length), j < k → hitB l l[i] (madeP r p L[j]) = false) → ∀ w', Later W w' → BestSays r l p W (.returned (.tuple #[.agg #[.int .i64 L[k].f, .int .i64 L[k].t, .int .u8 L[k].c], .int .i64 0])) w' from by
      subst hL
      exact fun k hk hy hn w' hw => says_of (bestA_in (l := l) (k := k) Hok.out Hfo.out hil hk hy hn) hw)
    simp only [hL] at Hm6 hLl ⊢
    simp only [hNL] at Hq6
    clear hL hNL HN HN2 HR HO HF1 HLen Hrul
    go_wp2_with fail
    go_loopw [63] (fun kv wr => ∃ k : Nat, k ≤ L.length ∧ kv = .int .i64 (k : Int) ∧ (∀ j (h : j < L.length), j < k → hitB l l[i] (madeP r p L[j]) = false) ∧ Later w6 wr) (fun kv _ => L.length - (intOf kv).toNat)
    case atStart => exact ⟨0, by omega, rfl, fun j _ h => by omega, Later.rfl⟩
    case round =>
      rename World => wr
      obtain ⟨k, hk, rfl, hall, hw⟩ := hrel
      have Hall := hide hall
      have Hstr := hide (Hst6.out.later_ hw)
      have Hmr := hide ((Hm6.out.below hw).more hw.size)
      have Hqr := hide ((Hq6.out.below hw).more hw.size)
      have Hpr := hide (hw.blk Hp6.out)
      have Hwr := hide hw
      clear hall hw
      by_cases hlt : k < L.length
      · have hk2 : k < NL.length := by have := Hnn.out; omega
        obtain ⟨b, off, rfl, hb, q0, q1, q2, q3, q4, q5⟩ := q_at Hqr.out hk2
        rw [Hnl.out k hlt hk2] at q0 q1 q2 q3 q4 q5
        have Hin2 := hide (Hin.out k hlt)
        have Hnext := hide (show hitB l l[i] (madeP r p L[k]) = false → ∀ j (h : j < L.length), j < k + 1 → hitB l l[i] (madeP r p L[j]) = false from fun h0 j h hj => by
          by_cases e : j = k
          · subst e; exact h0
          · exact Hall.out j h (by omega))
        obtain ⟨q, hq⟩ : ∃ q, madeP r p L[k] = q := ⟨_, rfl⟩
        rw [hq] at q0 q1 q2 q3 q4 q5 Hin2 Hnext
        clear hq hk2
        have HF2 := hide (fun w hw hb => HF.out q (W.heap.size + 1) w hw hb)
        obtain ⟨fj, hfj⟩ : ∃ fj, findO l q = fj := ⟨_, rfl⟩
        have hfi : findI l q = numX fj := by unfold findI; rw [hfj]
        simp only [hfi] at HF2
        clear hfi
        go_upto_region 15 with (fail)
        have Hla := hide (show Later wr (wr.alloc (.cells #[.int .i64 q.w, .int .i64 q.h, .string q.cells, .int .i64 q.turn, .string q.h0, .string q.h1] 24)) from Later.rfl.alloc _)
        have Hba := hide (Blk.new wr 24 #[.int .i64 q.w, .int .i64 q.h, .string q.cells, .int .i64 q.turn, .string q.h0, .string q.h1])
        obtain ⟨wa, hwa⟩ : ∃ wa, wr.alloc (.cells #[.int .i64 q.w, .int .i64 q.h, .string q.cells, .int .i64 q.turn, .string q.h0, .string q.h1] 24) = wa := ⟨_, rfl⟩
        rw [hwa] at Hla Hba ⊢
        obtain ⟨gq, hgq⟩ : ∃ gq, wr.heap.size = gq := ⟨_, rfl⟩
        rw [hgq] at Hba ⊢
        clear hwa hgq q0 q1 q2 q3 q4 q5
        obtain ⟨q0, q1, q2, q3, q4, q5⟩ := Hba.out.pos6
        have Hsta := hide (Hstr.out.later_ Hla.out)
        go_upto_region 16 with (go_at_call 41; refine (HF2.out _ Hsta.out.later Hsta.out.l).mono ?_; rintro e w8 ⟨rfl, hw8⟩)
        have hlw := Hla.out.trans hw8
        have Hst8 := hide (Hstr.out.later_ hlw)
        have Hm8 := hide ((Hmr.out.below hlw).more hlw.size)
        have Hp8 := hide (hlw.blk Hpr.out)
        have Hw8 := hide (Hwr.out.trans hlw)
        clear hlw hw8 Hla Hba Hsta Hstr Hmr Hqr Hpr Hwr q0 q1 q2 q3 q4 q5 HF2
        cases fj
        case none =>
          have Hn := hide (Hnext.out (hitB_none hfj))
          have e1 : numX none = -1 := rfl
          rw [e1]
          clear hfj e1
          go_quiet (fail)
          go_wp2_with fail
          go_roundw
          case rel => exact ⟨k + 1, by omega, by go_num, Hn.out, Hw8.out.drewN _⟩
          case measure => simp [intOf]; omega
        case some j =>
          have hjl := findO_lt hfj
          have hhit : hitB l l[i] q = okP l[i].v l[i].d l[j].v l[j].d := hitB_some hfj hjl
          have e1 : numX (some j) = (j : Int) := rfl
          rw [e1]
          have hcE := HE.out w8 Hst8.out.later
          obtain ⟨bl', ol', hbb, -, -, -, -, -, -, -, vj6, vj7⟩ := ent_at hcE hjl
          injection hbb with hbb
          injection hbb with hbb1 hbb2
          subst hbb1
          subst hbb2
          obtain ⟨ej, hej⟩ : ∃ ej, l[j] = ej := ⟨_, rfl⟩
          rw [Hei.out, hej] at hhit
          rw [hej] at vj6 vj7
          obtain ⟨pf, vj, dj⟩ := ej
          simp only at hhit vj6 vj7
          rw [okP_eq Hv.out.1 Hv.out.2] at hhit
          have l0 : w8.cell? ⟨W.heap.size + 1, 0, none⟩ = some (.slice (some ⟨bl, ol, none⟩) l.length cl) := Hst8.out.l.cellv (i := 0) rfl
          have a1 : w8.cell? ⟨ga, 1, none⟩ = some (.int .i64 2) := Hp8.out.cellv (i := 1) rfl
          have a2 : w8.cell? ⟨ga, 2, none⟩ = some (.int .i64 1) := Hp8.out.cellv (i := 2) rfl
          have a3 : w8.cell? ⟨ga, 3, none⟩ = some (.int .i64 3) := Hp8.out.cellv (i := 3) rfl
          have j1 : (0 : Int) ≤ (j : Int) := by omega
          have j2 : (j : Int) < (l.length : Int) := by omega
          obtain ⟨wv, hwv⟩ : ∃ wv, IntKind.i64.wrap (di - 1) = wv := ⟨_, rfl⟩
          obtain ⟨nb, hnb⟩ : ∃ nb, (dj == wv) = nb := ⟨_, rfl⟩
          rw [hwv, hnb] at hhit
          obtain ⟨hb', hhb⟩ : ∃ hb', (vj == wantV vi && (vi == 3 || nb)) = hb' := ⟨_, rfl⟩
          rw [hhb] at hhit
          rw [← Hei.out] at hhit
          have Hval := hide hhit
          have Hhb := hide hhb
          clear hfj e1 hcE hhit hej hhb
          go_cut [97] from 64 to 102 (fun s wx => s = .bool hb' ∧ ∃ n, wx = w8.drewN n)
          case first =>
            have Hhb2 := Hhb
            have hv3 : vi = 1 ∨ vi = 2 ∨ vi = 3 := by have := Hv.out; omega
            obtain ⟨b1, hb1⟩ : ∃ b1, (vj == wantV vi) = b1 := ⟨_, rfl⟩
            rw [hb1] at Hhb2
            rcases hv3 with rfl | rfl | rfl
            all_goals
              simp only [wantV] at hb1
              simp at hb1
              cases b1
              all_goals
                go_quiet (fail)
                go_wp2_with fail
                go_meet
                case rel => exact ⟨by rw [← Hhb2.out] <;> simp, _, rfl⟩
          case rest =>
            obtain ⟨rfl, nd, rfl⟩ := hcut
            rename World => w8
            have Hst9 := hide (Hst8.out.drewN nd)
            have Hm9 := hide (show Cells (w8.drewN nd) (w8.drewN nd).heap.size _ (cellsM L) from Hm8.out)
            have Hw9 := hide (Hw8.out.drewN nd)
            obtain ⟨w9, hw9⟩ : ∃ w9, w8.drewN nd = w9 := ⟨_, rfl⟩
            rw [hw9] at Hst9 Hm9 Hw9 ⊢
            clear hw9 vj6 vj7 l0 a1 a2 a3 Hst8 Hm8 Hw8 Hp8
            cases hb'
            · have Hn := hide (Hnext.out Hval.out)
              go_wp2_with fail
              go_roundw
              case rel => exact ⟨k + 1, by omega, by go_num, Hn.out, Hw9.out⟩
              case measure => simp [intOf]; omega
            · have Hi := hide (Hin2.out Hval.out (fun j h hj => Hall.out j h hj))
              obtain ⟨bm, om, rfl, hbm, y0, y1, y2⟩ := mv_at Hm9.out hlt
              obtain ⟨m, hmm⟩ : ∃ m, L[k] = m := ⟨_, rfl⟩
              rw [hmm] at y0 y1 y2
              simp only [hmm] at Hi
              clear Hm9 Hw9 hmm
              go_upto_region 17 with (fail)
              refine wp_region_lit ?_
              refine wpList_plain rfl (fun K hK => ?_)
              go_simp
              refine hK _ _ ?_
              clear hK K
              refine wpList_plain rfl (fun K hK => ?_)
              go_simp
              refine hK _ _ ?_
              clear hK K
              refine wpList_plain rfl (fun K hK => ?_)
              go_simp
              refine hK _ _ ?_
              clear hK K
              refine wpList_plain rfl (fun K hK => ?_)
              go_simp
              refine hK _ _ ?_
              clear hK K
              refine wpList_plain rfl (fun K hK => ?_)
              refine wp_store_row 29 (.tmp 6) (.tmp 101) rfl (W.heap.size + 1 + 1 + 1) #[.int .i64 m.f, .int .i64 m.t, .int .u8 m.c] rfl rfl 29 _ Hst9.out.z (by kernel_rfl) (by simp) (by simp [Value.oneCell']) ?_
              refine hK _ _ ?_
              clear hK K
              have hz9 := setRow_blk (vs := #[.int .i64 m.f, .int .i64 m.t, .int .u8 m.c]) Hst9.out.z
              have HL9 := hide (setRow_later (vs := #[.int .i64 m.f, .int .i64 m.t, .int .u8 m.c]) Hst9.out.later)
              obtain ⟨wz, hwz⟩ : ∃ wz, World.setRow w9 (W.heap.size + 1 + 1 + 1) #[.int .i64 m.f, .int .i64 m.t, .int .u8 m.c] = wz := ⟨_, rfl⟩
              rw [hwz] at hz9 HL9 ⊢
              clear hwz Hst9
              obtain ⟨⟨z0, z1, z2⟩, -⟩ := hz9.mv
              go_wp2_with fail
              refine bodyPost_ret (v := .tuple #[.agg #[.int .i64 m.f, .int .i64 m.t, .int .u8 m.c], .int .i64 0]) (by simp [results, Tryz.results17, go_sem, z0, z1, z2]) rfl (HQ.out _ _ (Hi.out _ HL9.out))
      · have Hn := hide (Hout.out (fun m hm => by
          obtain ⟨j, hj, rfl⟩ := List.getElem_of_mem hm
          exact Hall.out j hj (by omega)))
        clear Hmr Hqr Hpr Hwr
        go_upto_region 19 with (fail)
        refine wp_region_lit ?_
        refine wpList_plain rfl (fun K hK => ?_)
        go_simp
        refine hK _ _ ?_
        clear hK K
        refine wpList_plain rfl (fun K hK => ?_)
        refine wp_store_row 29 (.tmp 6) (.tmp 103) rfl (W.heap.size + 1 + 1 + 1) #[.int .i64 0, .int .i64 0, .int .u8 0] rfl rfl 29 _ Hstr.out.z (by kernel_rfl) (by simp) (by simp [Value.oneCell']) ?_
        refine hK _ _ ?_
        clear hK K
        have hz9 := setRow_blk (vs := #[.int .i64 0, .int .i64 0, .int .u8 0]) Hstr.out.z
        have HL9 := hide (setRow_later (vs := #[.int .i64 0, .int .i64 0, .int .u8 0]) Hstr.out.later)
        obtain ⟨w9, hw9⟩ : ∃ w9, World.setRow wr (W.heap.size + 1 + 1 + 1) #[.int .i64 0, .int .i64 0, .int .u8 0] = w9 := ⟨_, rfl⟩
        rw [hw9] at hz9 HL9 ⊢
        clear hw9 Hstr
        obtain ⟨⟨z0, z1, z2⟩, -⟩ := hz9.mv
        go_wp2_with fail
        refine bodyPost_ret (v := .tuple #[.agg #[.int .i64 0, .int .i64 0, .int .u8 0], .int .i64 6]) (by simp [results, Tryz.results17, go_sem, z0, z1, z2]) rfl (HQ.out _ _ (Hn.out _ HL9.out))
theorem best_any (r : RulesD) (A Al : Option Addr) (cp cl : Nat) (l : List EntD) (p : Pos) (W : World) (hf : RFit r) (hg : PFit p) (hP : PiecesAt W W.heap.size A r.pieces) (hm : l.length ≤ 9223372036854775807) (hl : Cells W W.heap.size Al (cellsE l)) :
    Calls Tryz.prog 17 #[.agg #[.int .i64 r.start.w, .int .i64 r.start.h, .string r.start.cells, .int .i64 r.start.turn, .string r.start.h0, .string r.start.h1, .slice A r.pieces.length cp, .bool r.drops, .int .u8 r.lose, .int .i64 r.line, .int .u8 r.reach, .bool r.stuck, .int .i64 r.plies], .slice Al l.length cl, .agg #[.int .i64 p.w, .int .i64 p.h, .string p.cells, .int .i64 p.turn, .string p.h0, .string p.h1]] W (BestSays r l p W) := best_q _ r A Al cp cl l p W hf hg hP hm hl (fun _ _ h => h)
end Go.Proofs.YtdfegpohmaideaaGreat
/- gamelaw.TableBest, walked -/
namespace Go.Proofs.YtdfegpohmaideaaGreat
open Go.RowKit

set_option maxHeartbeats 8000000 in
set_option maxRecDepth 100000 in
theorem tb_any (r : RulesD) (A Al : Option Addr) (cp cl : Nat) (l : List EntD) (p : Pos) (W : World) (hf : RFit r) (hg : PFit p) (hP : PiecesAt W W.heap.size A r.pieces) (hm : l.length ≤ 9223372036854775807) (hl : Cells W W.heap.size Al (cellsE l)) :
    Calls Tryz.prog 4 #[.agg #[.int .i64 r.start.w, .int .i64 r.start.h, .string r.start.cells, .int .i64 r.start.turn, .string r.start.h0, .string r.start.h1, .slice A r.pieces.length cp, .bool r.drops, .int .u8 r.lose, .int .i64 r.line, .int .u8 r.reach, .bool r.stuck, .int .i64 r.plies], .slice Al l.length cl, .agg #[.int .i64 p.w, .int .i64 p.h, .string p.cells, .int .i64 p.turn, .string p.h0, .string p.h1]] W fun e w' => e = .returned (.bool true) ∧ Later W w' := by
  have Hbr := hide ((Blk.new W 27 #[.int .i64 r.start.w, .int .i64 r.start.h, .string r.start.cells, .int .i64 r.start.turn, .string r.start.h0, .string r.start.h1, .slice A r.pieces.length cp, .bool r.drops, .int .u8 r.lose, .int .i64 r.line, .int .u8 r.reach, .bool r.stuck, .int .i64 r.plies]).alloc (.cells #[.int .i64 p.w, .int .i64 p.h, .string p.cells, .int .i64 p.turn, .string p.h0, .string p.h1] 24))
  have hbp := (Blk.new (W.alloc (.cells #[.int .i64 r.start.w, .int .i64 r.start.h, .string r.start.cells, .int .i64 r.start.turn, .string r.start.h0, .string r.start.h1, .slice A r.pieces.length cp, .bool r.drops, .int .u8 r.lose, .int .i64 r.line, .int .u8 r.reach, .bool r.stuck, .int .i64 r.plies] 27)) 24 #[.int .i64 p.w, .int .i64 p.h, .string p.cells, .int .i64 p.turn, .string p.h0, .string p.h1])
  rw [World.size_alloc] at hbp
  have Hbp := hide hbp
  have Hw := hide (show Later W ((W.alloc (.cells #[.int .i64 r.start.w, .int .i64 r.start.h, .string r.start.cells, .int .i64 r.start.turn, .string r.start.h0, .string r.start.h1, .slice A r.pieces.length cp, .bool r.drops, .int .u8 r.lose, .int .i64 r.line, .int .u8 r.reach, .bool r.stuck, .int .i64 r.plies] 27)).alloc (.cells #[.int .i64 p.w, .int .i64 p.h, .string p.cells, .int .i64 p.turn, .string p.h0, .string p.h1] 24)) from (Later.rfl.alloc _).alloc _)
  have HB := hide (fun w (hw : Later W w) => best_any r A Al cp cl l p w hf hg ((hP.below hw).more hw.size) hm ((hl.below hw).more hw.size))
  have HR := hide (fun w (hw : Later W w) => bestOf_any r A Al cp cl l p w hf hg ((hP.below hw).more hw.size) hm ((hl.below hw).more hw.size))
  obtain ⟨⟨m, c⟩, hmc⟩ : ∃ x, bestA r l p = x := ⟨_, rfl⟩
  unfold BestSays at HB HR
  simp only [hmc] at HB HR
  clear hmc hf hg hP hl hbp
  have heq : ∀ w, (binOp .eql 29 (.agg #[.int .i64 m.f, .int .i64 m.t, .int .u8 m.c]) (.agg #[.int .i64 m.f, .int .i64 m.t, .int .u8 m.c])).run Tryz.prog w = .ok (.bool true) w := fun w => by
    have h := eqM.1 m m w
    have e : decide (m = m) = true := decide_eq_true rfl
    rw [← e]
    exact h
  have hgd : ∀ op a b w, (eqGuard op 29 a b (.agg #[.int .i64 m.f, .int .i64 m.t, .int .u8 m.c]) (.agg #[.int .i64 m.f, .int .i64 m.t, .int .u8 m.c])).run Tryz.prog w = .ok () w := fun op a b w => eqM.2 op a b m m w
  have c1 : (c == c) = true := by simp
  have c2 : decide (c = c) = true := by simp
  go_enter Tryz.func4, Tryz.ntmps4
  go_upto_region 1 with (fail)
  obtain ⟨x0, x1, x2, x3, x4, x5, x6, x7, x8, x9, x10, x11, x12⟩ := Hbr.out.rules
  obtain ⟨p0, p1, p2, p3, p4, p5⟩ := Hbp.out.pos6
  go_upto_region 2 with (go_at_call 17; refine (HB.out _ Hw.out).mono ?_; rintro e w1 ⟨rfl, hw1⟩)
  have Hbr1 := hide ((hw1.blk Hbr.out).alloc (.cells #[.int .i64 m.f, .int .i64 m.t, .int .u8 m.c] 29))
  have Hbp1 := hide ((hw1.blk Hbp.out).alloc (.cells #[.int .i64 m.f, .int .i64 m.t, .int .u8 m.c] 29))
  have Hb1 := hide (Blk.new w1 29 #[.int .i64 m.f, .int .i64 m.t, .int .u8 m.c])
  have Hw1 := hide (show Later W (w1.alloc (.cells #[.int .i64 m.f, .int .i64 m.t, .int .u8 m.c] 29)) from (Hw.out.trans hw1).alloc _)
  clear hw1 Hbr Hbp Hw x0 x1 x2 x3 x4 x5 x6 x7 x8 x9 x10 x11 x12 p0 p1 p2 p3 p4 p5
  obtain ⟨g1, hg1⟩ : ∃ g1, w1.heap.size = g1 := ⟨_, rfl⟩
  obtain ⟨w2, hw2⟩ : ∃ w2, w1.alloc (.cells #[.int .i64 m.f, .int .i64 m.t, .int .u8 m.c] 29) = w2 := ⟨_, rfl⟩
  rw [hw2] at Hbr1 Hbp1 Hb1 Hw1 ⊢
  rw [hg1] at Hb1 ⊢
  clear hw2 hg1
  obtain ⟨x0, x1, x2, x3, x4, x5, x6, x7, x8, x9, x10, x11, x12⟩ := Hbr1.out.rules
  obtain ⟨p0, p1, p2, p3, p4, p5⟩ := Hbp1.out.pos6
  go_upto_region 3 with (go_at_call 18; refine (HR.out _ Hw1.out).mono ?_; rintro e w3 ⟨rfl, hw3⟩)
  have Hb3 := hide ((hw3.blk Hb1.out).alloc (.cells #[.int .i64 m.f, .int .i64 m.t, .int .u8 m.c] 29))
  have Hc3 := hide (Blk.new w3 29 #[.int .i64 m.f, .int .i64 m.t, .int .u8 m.c])
  have Hw3 := hide (show Later W (w3.alloc (.cells #[.int .i64 m.f, .int .i64 m.t, .int .u8 m.c] 29)) from (Hw1.out.trans hw3).alloc _)
  clear hw3 Hbr1 Hbp1 Hb1 Hw1 x0 x1 x2 x3 x4 x5 x6 x7 x8 x9 x10 x11 x12 p0 p1 p2 p3 p4 p5
  obtain ⟨g3, hg3⟩ : ∃ g3, w3.heap.size = g3 := ⟨_, rfl⟩
  obtain ⟨w4, hw4⟩ : ∃ w4, w3.alloc (.cells #[.int .i64 m.f, .int .i64 m.t, .int .u8 m.c] 29) = w4 := ⟨_, rfl⟩
  rw [hw4] at Hb3 Hc3 Hw3 ⊢
  rw [hg3] at Hc3 ⊢
  clear hw4 hg3
  obtain ⟨⟨z0, z1, z2⟩, -⟩ := Hb3.out.mv
  obtain ⟨⟨y0, y1, y2⟩, -⟩ := Hc3.out.mv
  go_wp2_with fail
  go_ret
  exact ⟨rfl, Hw3.out⟩
end Go.Proofs.YtdfegpohmaideaaGreat
/- gamelaw.TableBest answers true and leaves what was there as it was, for all rules, every list of entries and every position. No condition. -/
namespace Go.Proofs.YtdfegpohmaideaaGreat
open Go.ChangeShapes Go.WideShapes Go.ChangeAt Go.RowKit Go.ChangeMaps

theorem own_tableBest : ownKnob Tryz.prog.godebug = none := by kernel_rfl
theorem laidOut_tableBest : laidOutB Tryz.prog = true := by kernel_rfl

set_option maxRecDepth 100000 in
theorem tableBest_lifted (os : Os) (started : os.Started) (H : Type) (enc : TypeId × Value → H) :
    ReturnsInHanded {} Tryz.checked os 4 .any (Rows.tableBestSpec.pre6 enc Tryz.prog Tryz.f4 Rows.tableBestRow.domain false) (Rows.tableBestSpec.post enc Tryz.prog Tryz.f4 false true false false) := by
  refine returnsInHanded_of_change (C := Tryz.checked) own_tableBest started (by kernel_rfl) Tryz.func4
    (ChangeSpec.witness6 (enc := enc) (C := Tryz.checked) false ⟨#[], #[.agg #[.int .i64 0, .int .i64 0, .string ByteArray.empty, .int .i64 0, .string ByteArray.empty, .string ByteArray.empty, .slice none 0 0, .bool false, .int .u8 0, .int .i64 0, .int .u8 0, .bool false, .int .i64 0], .slice none 0 0, .agg #[.int .i64 0, .int .i64 0, .string ByteArray.empty, .int .i64 0, .string ByteArray.empty, .string ByteArray.empty]], []⟩ 8 (by kernel_rfl) (by kernel_rfl) (by kernel_rfl) (by kernel_rfl)) ?_
  intro W base args ds gs before hval0 hW hcnd _
  have hval : ∀ (j : Nat) t v, Tryz.f4.params[j]? = some t → args[j]? = some v → Value.okWide Tryz.prog W .any base t v := hval0
  obtain ⟨p, q, hA0, hV, hpq, hfz, hnd⟩ := id hW
  have hA : DataW.TrodAll enc Tryz.prog W 0 (fun _ => true) true Tryz.f4.params.toList args.toList ds p := hA0
  obtain ⟨rfl, -⟩ := trodVars_none hV
  rw [Tryz.params4] at hA hval
  obtain ⟨v0, v1, v2, d0, d1, d2, p0, p1, p2, rfl, rfl, rfl, h0, h1, h2⟩ := trodAll_three hA
  obtain ⟨r, Ar, cr, rfl, hfr, hPr⟩ := open_rules (hval 0 27 v0 rfl rfl) h0
  obtain ⟨Al, lenl, cl, rfl⟩ := okWide_slice Tryz.underlying45 (hval 1 45 v1 rfl rfl)
  obtain ⟨l, rfl, hml, hCl⟩ := open_entries h1
  obtain ⟨wp, hp, cp, tp, z0p, z1p, rfl, rfl, hcp, hyp, hzp, -, -, -⟩ := open_pos (hval 2 24 v2 rfl rfl) h2
  refine (tb_any r Ar Al cr cl l ⟨wp, hp, cp, tp, z0p, z1p⟩ W hfr ⟨hcp, hyp, hzp⟩ hPr hml hCl).mono fun e W' ⟨he, hg⟩ => ?_
  subst he
  exact ⟨_, rfl, law_post laidOut_tableBest (by kernel_rfl) hW rfl rfl Tryz.underlying4 rfl rfl rfl hg⟩

theorem tableBest_holds : Rows.TableBestSaid :=
  OpenClaim.holds_of_wide 4 Tryz.f4 rfl rfl rfl rfl rfl rfl rfl ⟨rfl, rfl, rfl, rfl, rfl⟩ rfl rfl rfl rfl rfl (by kernel_rfl) Tryz.func4 (by kernel_rfl)
    (of_decide_eq_true (by kernel_rfl)) (by unfold Func.isWrapper; first | (rw [if_pos (by decide +kernel)]; kernel_rfl) | (rw [if_neg (by decide +kernel)]; exact ⟨rfl, rfl⟩))
    (fun os started H enc _ => tableBest_lifted os started H enc)
#print axioms tableBest_holds
end Go.Proofs.YtdfegpohmaideaaGreat
