/- append of one element of three cells; a row of a call's own as cells -/
import Derived.Test.YtfoehijlafooaaaOwn
import Derived.Test.YtfoehijlafooaaaTourRes
namespace Go.Proofs.Ytfoehijlafooaaa
open Go.RowKit

theorem Cells.of_ownK {w : World} {base size : Nat} {e : TypeId} {v : Value} {n : Nat} {xs : List Value} (h : w.ownsRow base e size v n xs) : ∃ A c, v = .slice A n c ∧ n ≤ c ∧ xs.length = n * size ∧ Cells w w.heap.size A xs := by
  obtain ⟨hl, h2⟩ := h
  rcases h2 with ⟨rfl, rfl⟩ | ⟨g, cap, cur, rfl, hbg, hg, hnc, hcm, hcs, htake⟩
  · have : xs = [] := List.eq_nil_of_length_eq_zero (by simpa using hl)
    subst this
    exact ⟨none, 0, rfl, Nat.le_refl _, by simp, Cells.nil_⟩
  · refine ⟨_, cap, rfl, hnc, hl, fun hn => ⟨g, 0, rfl, (Array.getElem?_eq_some_iff.1 hg).1, fun k hk => ?_⟩⟩
    have hcell : w.cell? ⟨g, 0 + k, none⟩ = cur[0 + k]? := by simp [World.cell?, hg]
    rw [hcell]
    subst htake
    simp

/-- 'append(s, u)' onto a row of the call's own, elements of three cells -/
theorem wpList_append3 {P : Program} {ops : Array Oper} {rest : List Oper} {o : Oper} {a : Act} {Q : Exit → Act → World → Prop} (w : World) (hgd : o.guard = none) (s x : Operand) (t : TypeId)
    (ho : o.op = .call { callee := .builtin .append, args := #[s, x], argTypes := #[t, t] })
    (base : Nat) (e : TypeId) (i : TypeInfo) (z : Value) (bytes : Nat) (ht : P.underlying t = some (.slice e)) (hi : P.info? e = some i) (hz : i.zero = some z)
    (hsize : i.size = 3) (hby : i.bytes = bytes) (hzs : z.cells.size = 3)
    (v : Value) (n : Nat) (xs : List Value) (hs : a.eval s = v) (hown : w.ownsRow base e 3 v n xs) (u0 u1 u2 : Value) (g : Nat)
    (hx : a.eval x = .slice (some ⟨g, 0, none⟩) 1 1) (hc0 : w.cell? ⟨g, 0, none⟩ = some u0) (hc1 : w.cell? ⟨g, 1, none⟩ = some u1) (hc2 : w.cell? ⟨g, 2, none⟩ = some u2)
    (hu0 : u0.oneCell' = true) (hu1 : u1.oneCell' = true) (hu2 : u2.oneCell' = true)
    (h63 : n + 1 ≤ maxLen) (hbytes : (n + 1) * bytes ≤ 140737488355328) (hbase : base ≤ w.heap.size)
    (h : ∀ v' w', w'.ownsRow base e 3 v' (n + 1) (xs ++ [u0, u1, u2]) → Only (fun k => base ≤ k) w w' → wpList P ops Q rest (a.put o.dst v') w') : wpList P ops Q (o :: rest) a w := by
  refine wpList_append_own w hgd s x t ho base e i z 3 bytes ht hi hz hsize hby hzs (by decide) v n xs hs hown ⟨g, 0, none⟩ 1 1 [u0, u1, u2] hx rfl ?_ ?_ h63 hbytes hbase ?_
  · intro j u' hj
    rw [Addr.add_lit, Nat.zero_add]
    match j, hj with
    | 0, hj => simp at hj; subst hj; exact hc0
    | 1, hj => simp at hj; subst hj; exact hc1
    | 2, hj => simp at hj; subst hj; exact hc2
  · intro u hu
    simp at hu
    rcases hu with rfl | rfl | rfl <;> assumption
  · intro v' w' h1 h2 _
    exact h v' w' h1 ((Only.refl _ _).grown h2 (fun k hk => .inl (hown.lt k hk).1))
end Go.Proofs.Ytfoehijlafooaaa
