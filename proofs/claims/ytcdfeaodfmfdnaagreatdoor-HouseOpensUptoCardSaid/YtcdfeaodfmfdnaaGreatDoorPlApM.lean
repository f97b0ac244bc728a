/- append of one element of several cells onto a row of a call's own; what else stays. Nothing of the program. append of one element of several cells as a step of a drawn region. Nothing of the program. -/
import Derived.Test.YtcdfeaodfmfdnaaGreatDoorPlRuM
import Derived.Deep.AppendLies
namespace Go.Proofs.YtcdfeaodfmfdnaaGreatDoor
open Go.RowKit

theorem Cells.of_ownK {w : World} {base size : Nat} {e : TypeId} {v : Value} {n : Nat} {xs : List Value} (h : w.ownsRow base e size v n xs) : ∃ A c, v = .slice A n c ∧ n ≤ c ∧ xs.length = n * size ∧ Cells w w.heap.size A xs := by
  obtain ⟨hl, h2⟩ := h
  rcases h2 with ⟨rfl, rfl⟩ | ⟨g, cap, cur, rfl, hbg, hg, hnc, hcm, hcs, htake⟩
  · have : xs = [] := List.eq_nil_of_length_eq_zero (by simpa using hl)
    subst this
    exact ⟨none, 0, rfl, Nat.le_refl _, by simp, Cells.nil_⟩
  · refine ⟨_, cap, rfl, hnc, hl, fun hn => ⟨g, 0, rfl, (Array.getElem?_eq_some_iff.1 hg).1, fun k hk => ?_⟩⟩
    have hcell : w.cell? ⟨g, 0 + k, none⟩ = cur[0 + k]? := by simp [World.cell?, hg]
    rw [hcell]
    subst htake
    simp
/-- a row's own block is no block of another type -/
theorem own_ne {w : World} {base size : Nat} {e t : TypeId} {v : Value} {n g : Nat} {xs : List Value} {cs : Array Value} (h : w.ownsRow base e size v n xs) (hb : Blk w g t cs) (ht : t ≠ e) : v.ownBlock ≠ some g := by
  obtain ⟨_, h2⟩ := h
  rcases h2 with ⟨rfl, rfl⟩ | ⟨g', cap, cur, rfl, _, hg, _⟩
  · intro e; cases e
  · intro he
    injection he with he
    simp only at he
    subst he
    have := hb.symm.trans hg
    simp at this
    exact ht this.2
theorem wpList_appendK {P : Program} {ops : Array Oper} {rest : List Oper} {o : Oper} {a : Act} {Q : Exit → Act → World → Prop} (w : World) (hgd : o.guard = none) (s x : Operand) (t : TypeId)
    (ho : o.op = .call { callee := .builtin .append, args := #[s, x], argTypes := #[t, t] })
    (base : Nat) (e : TypeId) (i : TypeInfo) (z : Value) (size bytes : Nat) (ht : P.underlying t = some (.slice e)) (hi : P.info? e = some i) (hz : i.zero = some z)
    (hsize : i.size = size) (hby : i.bytes = bytes) (hzs : z.cells.size = size) (h0 : 0 < size)
    (v : Value) (n : Nat) (xs : List Value) (hs : a.eval s = v) (hown : w.ownsRow base e size v n xs) (us : List Value) (hus : us.length = size) (g : Nat) (tg : TypeId)
    (hx : a.eval x = .slice (some ⟨g, 0, none⟩) 1 1) (hblk : Blk w g tg us.toArray) (hone : ∀ u ∈ us, u.oneCell' = true)
    (h63 : n + 1 ≤ maxLen) (hbytes : (n + 1) * bytes ≤ 140737488355328) (hbase : base ≤ w.heap.size)
    (h : ∀ v' w', w'.ownsRow base e size v' (n + 1) (xs ++ us) → Only (fun k => v.ownBlock = some k) w w' → (v'.ownBlock = v.ownBlock ∨ v'.ownBlock = some w.heap.size) → wpList P ops Q rest (a.put o.dst v') w') : wpList P ops Q (o :: rest) a w := by
  refine wpList_append_own_at w hgd s x t ho base e i z size bytes ht hi hz hsize hby hzs h0 v n xs hs hown ⟨g, 0, none⟩ 1 1 us hx (by rw [hus]; omega) ?_ hone h63 hbytes hbase ?_
  · intro j u' hj
    rw [Addr.add_lit, Nat.zero_add, hblk.cell]
    simpa using hj
  · intro v' w' h1 h2 _ h4
    exact h v' w' h1 ((Only.refl _ _).grown h2 (fun k hk => .inl hk)) h4
end Go.Proofs.YtcdfeaodfmfdnaaGreatDoor
namespace Go.Proofs.YtcdfeaodfmfdnaaGreatDoor
open Go.RowKit

theorem step_appendK {P : Program} {ops : Array Oper} {o : Oper} {a : Act} {K : Act → World → Prop} {Q : Exit → Act → World → Prop} {E : Prop} {w : World} (hgd : o.guard = none) (s x : Operand) (t : TypeId)
    (ho : o.op = .call { callee := .builtin .append, args := #[s, x], argTypes := #[t, t] })
    (base : Nat) (e : TypeId) (i : TypeInfo) (z : Value) (size bytes : Nat) (ht : P.underlying t = some (.slice e)) (hi : P.info? e = some i) (hz : i.zero = some z)
    (hsize : i.size = size) (hby : i.bytes = bytes) (hzs : z.cells.size = size) (h0 : 0 < size)
    (v : Value) (n : Nat) (xs : List Value) (hs : a.eval s = v) (hown : w.ownsRow base e size v n xs) (us : List Value) (hus : us.length = size) (g : Nat) (tg : TypeId)
    (hx : a.eval x = .slice (some ⟨g, 0, none⟩) 1 1) (hblk : Blk w g tg us.toArray) (hone : ∀ u ∈ us, u.oneCell' = true)
    (h63 : n + 1 ≤ maxLen) (hbytes : (n + 1) * bytes ≤ 140737488355328) (hbase : base ≤ w.heap.size)
    (h : ∀ g' cap w', w'.ownsRow base e size (.slice (some ⟨g', 0, none⟩) (n + 1) cap) (n + 1) (xs ++ us) → Only (fun k => v.ownBlock = some k) w w' → (v.ownBlock = some g' ∨ g' = w.heap.size) → K (a.put o.dst (.slice (some ⟨g', 0, none⟩) (n + 1) cap)) w') :
    if Region.wanted o (yielded ops a.tmps) = true then Oper.wp P o a w K Q else E := by
  refine step_append_lies w hgd s x t ho base e i z size bytes ht hi hz hsize hby hzs h0 v n xs hs hown ⟨g, 0, none⟩ 1 1 us hx (by rw [hus]; omega) ?_ hone (by omega) h63 hbytes hbase w.heap.size rfl ?_
  · intro j u' hj
    rw [Addr.add_lit, Nat.zero_add, hblk.cell]
    simpa using hj
  · intro g' cap w' h1 h2 h3 _
    exact h g' cap w' h1 ((Only.refl _ _).grown h2 (fun k hk => .inl hk)) h3
end Go.Proofs.YtcdfeaodfmfdnaaGreatDoor
