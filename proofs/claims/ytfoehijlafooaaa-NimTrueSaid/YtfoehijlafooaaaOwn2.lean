/- A row of ints pushed onto a slice of rows of the call's own. -/
import Derived.Test.YtfoehijlafooaaaOwn
namespace Go.Proofs.Ytfoehijlafooaaa
open Go.RowKit

theorem RowsOwn.lt {w : World} {base : Nat} {e : TypeId} {v : Value} {rows : List (List Int)} (h : RowsOwn w base e v rows) : ∀ k, v.ownBlock = some k → base ≤ k ∧ k < w.heap.size := by
  obtain ⟨vs, hown, _⟩ := h
  exact hown.lt
theorem RowsOwn.alloc {w : World} {base : Nat} {e : TypeId} {v : Value} {rows : List (List Int)} (h : RowsOwn w base e v rows) (o : Obj) : RowsOwn (w.alloc o) base e v rows :=
  h.only ((Only.refl (fun _ => False) w).alloc o) (fun _ _ h => h)

theorem wpList_pushrow {P : Program} {ops : Array Oper} {rest : List Oper} {o : Oper} {a : Act} {Q : Exit → Act → World → Prop} (w : World) (hgd : o.guard = none) (s x : Operand) (t : TypeId)
    (ho : o.op = .call { callee := .builtin .append, args := #[s, x], argTypes := #[t, t] })
    (base : Nat) (e : TypeId) (i : TypeInfo) (z : Value) (ht : P.underlying t = some (.slice e)) (hi : P.info? e = some i) (hz : i.zero = some z)
    (hsize : i.size = 1) (hby : i.bytes = 24) (hzs : z.cells.size = 1)
    (v : Value) (rows : List (List Int)) (hs : a.eval s = v) (hown : RowsOwn w base e v rows) (A : Option Addr) (n c : Nat) (r : List Int) (g : Nat)
    (hx : a.eval x = .slice (some ⟨g, 0, none⟩) 1 1) (hcell : w.cell? ⟨g, 0, none⟩ = some (.slice A n c)) (hn : r.length = n) (hrc : n ≤ c) (hA : Cells w w.heap.size A (ints r)) (hne : 0 < r.length → ∀ ad, A = some ad → v.ownBlock ≠ some ad.block)
    (hlen : rows.length < 1000000) (hbase : base ≤ w.heap.size)
    (h : ∀ v' w', RowsOwn w' base e v' (rows ++ [r]) → Only (fun k => base ≤ k) w w' → wpList P ops Q rest (a.put o.dst v') w') : wpList P ops Q (o :: rest) a w := by
  subst hn
  obtain ⟨vs, hvs, hr⟩ := hown
  refine wpList_push1 w hgd s x t ho base e i z 24 ht hi hz hsize hby hzs v rows.length vs hs hvs (.slice A r.length c) g hx hcell rfl (by unfold maxLen; omega) (by omega) hbase ?_
  intro v' w' hown' hO hwh
  refine h v' w' (RowsOwn.push hrc hA hne hvs hr hown' hO ?_) (hO.mono (fun k _ hk => (hvs.lt k hk).1))
  rcases hwh with h1 | h1
  · exact .inl h1
  · exact .inr ⟨_, h1, Nat.le_refl _⟩
end Go.Proofs.Ytfoehijlafooaaa
