/- A list of results as an argument, opened. -/
import Derived.Test.YtfoehijlafooaaaOpen
import Derived.Test.YtfoehijlafooaaaRows
import Derived.Test.YtfoehijlafooaaaTourRes
import Derived.ChangeArms
namespace Go.Proofs.Ytfoehijlafooaaa
open Go.RowKit Go.ChangeShapes Go.WideShapes Go.Deep

theorem list_each {α : Type} {P : Nat → α → Prop} : ∀ {n : Nat} (_ : ∀ i, i < n → ∃ x, P i x), ∃ xs : List α, xs.length = n ∧ ∀ i (hi : i < xs.length), P i xs[i]
  | 0, _ => ⟨[], rfl, fun i hi => absurd hi (by simp)⟩
  | n + 1, h => by
    obtain ⟨xs, hl, hx⟩ := list_each (n := n) (fun i hi => h i (by omega))
    obtain ⟨x, hp⟩ := h n (by omega)
    refine ⟨xs ++ [x], by simp [hl], fun i hi => ?_⟩
    by_cases hi' : i < xs.length
    · rw [List.getElem_append_left hi']; exact hx i hi'
    · have : i = n := by simp at hi; omega
      subst this
      rw [List.getElem_append_right (by omega)]
      simpa [hl] using hp

def InR (x : Int) : Prop := -9223372036854775808 ≤ x ∧ x ≤ 9223372036854775807

section
variable {H : Type} {enc : TypeId × Value → H} {w : World} {base : Nat} {spare : Nat → Bool} {held : Bool}

set_option maxRecDepth 100000 in
theorem trod_res {fuel : Nat} {cs : List Value} {x : DataW H × List MemPlace} (h : DataW.trod enc Try.prog w base spare held fuel 72 cs = some x) :
    ∃ r : Res, cs = [.int .i64 r.a, .int .i64 r.b, .int .i64 r.h] ∧ x.2 = [] ∧ InR r.a ∧ InR r.b ∧ InR r.h := by
  obtain ⟨xs, n, _, hx, hlen, hxl, hg⟩ := DataW.trod_struct Try.underlying72 h
  have c6 : Try.prog.cellsOf 72 = 3 := by kernel_rfl
  have ci : Try.prog.cellsOf 3 = 1 := by kernel_rfl
  rw [c6] at hlen
  match cs, hlen with
  | [e0, e1, e2], _ =>
    match xs, hxl with
    | [y0, y1, y2], _ =>
      have g0 : DataW.trod enc Try.prog w base spare held n 3 (([e0, e1, e2].drop 0).take (Try.prog.cellsOf 3)) = [y0, y1, y2][0]? := hg 0 _ rfl
      have g1 : DataW.trod enc Try.prog w base spare held n 3 (([e0, e1, e2].drop 1).take (Try.prog.cellsOf 3)) = [y0, y1, y2][1]? := hg 1 _ rfl
      have g2 : DataW.trod enc Try.prog w base spare held n 3 (([e0, e1, e2].drop 2).take (Try.prog.cellsOf 3)) = [y0, y1, y2][2]? := hg 2 _ rfl
      simp only [ci, List.drop_zero, List.drop_succ_cons, List.take_succ_cons, List.take_zero, List.getElem?_cons_zero, List.getElem?_cons_succ] at g0 g1 g2
      obtain ⟨a, ha, ea, wa⟩ := DataW.trod_int Try.underlying3 g0
      obtain ⟨b, hb, eb, wb⟩ := DataW.trod_int Try.underlying3 g1
      obtain ⟨c, hc, ec, wc⟩ := DataW.trod_int Try.underlying3 g2
      simp only [List.cons.injEq, and_true] at ha hb hc
      have m1 : IntKind.i64.min = -9223372036854775808 := rfl
      have m2 : IntKind.i64.max = 9223372036854775807 := rfl
      simp [Lit.wf, m1, m2] at wa wb wc
      refine ⟨⟨a, b, c⟩, by rw [ha, hb, hc], ?_, wa, wb, wc⟩
      rw [hx]
      simp [ea, eb, ec]

set_option maxRecDepth 100000 in
theorem open_results {v : Value} {d : DataW H} {p : List MemPlace} (hok : ∃ a n c, v = .slice a n c) (h : DataW.Trod enc Try.prog w base spare held 67 v d p) :
    ∃ A c rs, v = .slice A rs.length c ∧ rs.length ≤ c ∧ c ≤ maxLen ∧ Cells w w.heap.size A (ints (flatR rs)) ∧ ∀ r ∈ rs, InR r.a ∧ InR r.b ∧ InR r.h := by
  obtain ⟨a0, n0, c0, rfl⟩ := hok
  obtain ⟨fuel, hf⟩ := h
  have c3 : Try.prog.cellsOf 72 = 3 := by kernel_rfl
  rcases DataW.trod_slice Try.underlying67 hf with ⟨hcs, hx⟩ | ⟨a, len, cap, elems, rest, n, _, hcs, _, _, hl, hm, he, hg, _⟩
  · simp [Value.cells] at hcs
    obtain ⟨rfl, rfl, rfl⟩ := hcs
    exact ⟨none, 0, [], rfl, by simp, by simp [maxLen], Cells.nil_, by simp⟩
  · simp [Value.cells] at hcs
    obtain ⟨rfl, rfl, rfl⟩ := hcs
    rw [c3] at hg
    have hall : ∀ i, i < n0 → ∃ r : Res, w.cells? base (a.add (i * 3)) 3 = some [.int .i64 r.a, .int .i64 r.b, .int .i64 r.h] ∧ InR r.a ∧ InR r.b ∧ InR r.h := fun i hi => by
      have h1 := hg i hi
      rw [List.getElem?_eq_getElem (by omega)] at h1
      obtain ⟨cs, q1, q2⟩ := Option.bind_eq_some_iff.1 h1
      obtain ⟨r, rfl, -, q3⟩ := trod_res q2
      exact ⟨r, q1, q3⟩
    obtain ⟨rs, hlen, hrs⟩ := list_each hall
    subst hlen
    refine ⟨some a, c0, rs, rfl, hl, hm, cells_of (fun k hk => ?_), fun r hr => ?_⟩
    · rw [ints_length, flatR_len] at hk
      have hi : k / 3 < rs.length := by omega
      obtain ⟨_, _, h1⟩ := World.cells?_some (hrs _ hi).1
      obtain ⟨f0, f1, f2⟩ := flatR_get rs (k / 3) hi
      have h2 := h1 (k % 3) (by omega)
      have e0 : (a.add (k / 3 * 3)).add (k % 3) = a.add k := by
        have : k / 3 * 3 + k % 3 = k := by omega
        have ha : a = ⟨a.block, a.off, none⟩ := by
          obtain ⟨_, _, z1⟩ := World.cells?_some (hrs 0 (by omega)).1
          have z2 := addr_of_cell ((z1 0 (by omega)).trans rfl)
          simpa [Addr.add] using z2
        rw [ha]
        simp only [Addr.add_lit]
        rw [Nat.add_assoc, this]
      rw [e0] at h2
      rw [h2, ints_get]
      have hk3 : k % 3 = 0 ∨ k % 3 = 1 ∨ k % 3 = 2 := by omega
      rcases hk3 with h3 | h3 | h3
      · have : k / 3 * 3 = k := by omega
        simp only [this] at f0
        rw [List.getElem?_eq_getElem (by rw [flatR_len]; omega)] at f0
        injection f0 with f0
        rw [h3, f0]; rfl
      · have : k / 3 * 3 + 1 = k := by omega
        simp only [this] at f1
        rw [List.getElem?_eq_getElem (by rw [flatR_len]; omega)] at f1
        injection f1 with f1
        rw [h3, f1]; rfl
      · have : k / 3 * 3 + 2 = k := by omega
        simp only [this] at f2
        rw [List.getElem?_eq_getElem (by rw [flatR_len]; omega)] at f2
        injection f2 with f2
        rw [h3, f2]; rfl
    · obtain ⟨i, hi, rfl⟩ := List.getElem_of_mem hr
      exact (hrs i hi).2
end
end Go.Proofs.Ytfoehijlafooaaa
