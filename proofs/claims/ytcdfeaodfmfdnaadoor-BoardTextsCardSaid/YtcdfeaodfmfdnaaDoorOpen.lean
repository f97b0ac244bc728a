/- Arguments opened into the words of Base. -/
import Derived.Test.YtcdfeaodfmfdnaaDoorBase
import Derived.Deep.Matrix
import Derived.ProofKit
namespace Go.Proofs.YtcdfeaodfmfdnaaDoor
open Go.RowKit Go.ChangeShapes Go.WideShapes Go.Deep

theorem addr_of_cell {w : World} {a : Addr} {v : Value} (h : w.cell? a = some v) : a = ⟨a.block, a.off, none⟩ := by
  obtain ⟨b, o, s⟩ := a
  cases s with
  | none => rfl
  | some x =>
    unfold World.cell? at h
    split at h <;> simp at h

section
variable {H : Type} {enc : TypeId × Value → H} {P : Program} {w : World}

theorem cells_of {a : Addr} {xs : List Value} (h : ∀ k (hk : k < xs.length), w.cell? (a.add k) = some xs[k]) : Cells w w.heap.size (some a) xs := fun hn => by
  have h0 := h 0 hn
  have ha : a = ⟨a.block, a.off, none⟩ := by
    have := addr_of_cell h0
    simpa [Addr.add] using this
  refine ⟨a.block, a.off, by rw [← ha], ?_, fun k hk => ?_⟩
  · have := World.block_lt_of_cell? w _ h0
    simpa [Addr.add] using this
  · have h1 := h k hk
    rw [ha] at h1
    simp only [Addr.add_lit] at h1
    exact h1

theorem open_ints1 {t e : TypeId} (ht : P.underlying t = some (.slice e)) (he : P.underlying e = some (.int .i64)) (ce : P.cellsOf e = 1)
    {v : Value} {d : DataW H} {ps : List MemPlace} (hok : ∃ a n c, v = .slice a n c) (h : DataW.Trod enc P w 0 (fun _ => true) true t v d ps) :
    ∃ A c l, v = .slice A l.length c ∧ l.length ≤ c ∧ c ≤ maxLen ∧ Cells w w.heap.size A (ints l) ∧ (∀ x ∈ l, -9223372036854775808 ≤ x ∧ x ≤ 9223372036854775807) := by
  obtain ⟨a0, n0, c0, rfl⟩ := hok
  obtain ⟨fuel, hf⟩ := h
  rcases open_ints ht he ce hf with ⟨hcs, hx⟩ | ⟨a, len, cap, zs, hcs, _, hl, hm, hz, hx, hcell, hwz⟩
  · simp [Value.cells] at hcs
    obtain ⟨rfl, rfl, rfl⟩ := hcs
    exact ⟨none, 0, [], rfl, by simp, by simp [maxLen], Cells.nil_, by simp⟩
  · simp [Value.cells] at hcs
    obtain ⟨rfl, rfl, rfl⟩ := hcs
    simp only [if_true] at hz
    have hlen : (zs.take n0).length = n0 := by simp; omega
    refine ⟨some a, c0, zs.take n0, by rw [hlen], by omega, hm, cells_of (fun k hk => ?_), fun x hx => ?_⟩
    · rw [ints_get]
      simp only [ints_length, hlen] at hk
      rw [hcell k (by omega)]
      simp [List.getD_eq_getElem?_getD, hz, Nat.lt_of_lt_of_le hk hl]
    · have := hwz x (List.mem_of_mem_take hx)
      have h1 : IntKind.i64.min = -9223372036854775808 := rfl
      have h2 : IntKind.i64.max = 9223372036854775807 := rfl
      simp [Lit.wf, h1, h2] at this
      omega

theorem open_rows2 {t e q : TypeId} (ht : P.underlying t = some (.slice e)) (he : P.underlying e = some (.slice q)) (hq : P.underlying q = some (.int .i64))
    (ce : P.cellsOf e = 1) (cq : P.cellsOf q = 1) {v : Value} {d : DataW H} {ps : List MemPlace} (hok : ∃ a n c, v = .slice a n c) (h : DataW.Trod enc P w 0 (fun _ => true) true t v d ps) :
    ∃ A c rows, v = .slice A rows.length c ∧ rows.length ≤ c ∧ c ≤ maxLen ∧ Rows2 w w.heap.size A rows ∧ (∀ k (hk : k < rows.length), rows[k].length ≤ maxLen) := by
  obtain ⟨a0, n0, c0, rfl⟩ := hok
  obtain ⟨fuel, hf⟩ := h
  rcases open_int_rows ht he hq ce cq hf with ⟨hcs, hx⟩ | ⟨a, len, cap, A, L, C, Z, hcs, _, hl, hm, hx, hr⟩
  · simp [Value.cells] at hcs
    obtain ⟨rfl, rfl, rfl⟩ := hcs
    exact ⟨none, 0, [], rfl, by simp, by simp [maxLen], ⟨[], rfl, Cells.nil_, fun k h => by simp at h⟩, fun k h => by simp at h⟩
  · simp [Value.cells] at hcs
    obtain ⟨rfl, rfl, rfl⟩ := hcs
    have hlen : ((List.range n0).map fun r => (Z r).take (L r)).length = n0 := by simp
    have hrow : ∀ k (hk : k < ((List.range n0).map fun r => (Z r).take (L r)).length), ((List.range n0).map fun r => (Z r).take (L r))[k] = (Z k).take (L k) := fun k hk => by simp
    have hZ : ∀ k, k < n0 → ((Z k).take (L k)).length = L k := fun k hk => by
      obtain ⟨_, h1, _, h3, _⟩ := hr k (by omega)
      simp; omega
    refine ⟨some a, c0, (List.range n0).map fun r => (Z r).take (L r), by rw [hlen], by omega, hm, ⟨(List.range n0).map fun r => .slice (A r) (L r) (C r), by simp, cells_of (fun k hk => ?_), fun k hk => ?_⟩, fun k hk => ?_⟩
    · simp only [List.length_map, List.length_range] at hk
      rw [(hr k (by omega)).1]
      simp
    · have hk' : k < n0 := by rw [hlen] at hk; exact hk
      obtain ⟨h0, h1, h2, h3, h4, h5, h6⟩ := hr k (by omega)
      refine ⟨A k, C k, ?_, ?_, ?_⟩
      · rw [hrow, hZ k hk']; exact h1
      · rw [hrow, hZ k hk']; simp [hk']
      · rw [hrow]
        cases hA : A k with
        | none =>
          have : L k = 0 := by have := h5 hA; omega
          rw [this]
          exact Cells.nil_
        | some a' =>
          refine cells_of (fun c hc => ?_)
          rw [ints_get]
          simp only [ints_length, hZ k hk'] at hc
          rw [(h6 a' hA).2 c (by omega)]
          simp [List.getD_eq_getElem?_getD, h3, Nat.lt_of_lt_of_le hc h1]
    · have hk' : k < n0 := by rw [hlen] at hk; exact hk
      obtain ⟨h0, h1, h2, h3, h4, h5, h6⟩ := hr k (by omega)
      rw [hrow, hZ k hk']
      omega
end
end Go.Proofs.YtcdfeaodfmfdnaaDoor
