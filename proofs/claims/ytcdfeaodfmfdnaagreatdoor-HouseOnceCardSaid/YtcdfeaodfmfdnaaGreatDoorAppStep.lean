/- append of one element of several cells as a step of a drawn region. Nothing of the program. -/
import Derived.Test.YtcdfeaodfmfdnaaGreatDoorAppK
import Derived.Deep.AppendLies
namespace Go.Proofs.YtcdfeaodfmfdnaaGreatDoor
open Go.RowKit

theorem step_appendK {P : Program} {ops : Array Oper} {o : Oper} {a : Act} {K : Act → World → Prop} {Q : Exit → Act → World → Prop} {E : Prop} {w : World} (hgd : o.guard = none) (s x : Operand) (t : TypeId)
    (ho : o.op = .call { callee := .builtin .append, args := #[s, x], argTypes := #[t, t] })
    (base : Nat) (e : TypeId) (i : TypeInfo) (z : Value) (size bytes : Nat) (ht : P.underlying t = some (.slice e)) (hi : P.info? e = some i) (hz : i.zero = some z)
    (hsize : i.size = size) (hby : i.bytes = bytes) (hzs : z.cells.size = size) (h0 : 0 < size)
    (v : Value) (n : Nat) (xs : List Value) (hs : a.eval s = v) (hown : w.ownsRow base e size v n xs) (us : List Value) (hus : us.length = size) (g : Nat) (tg : TypeId)
    (hx : a.eval x = .slice (some ⟨g, 0, none⟩) 1 1) (hblk : Blk w g tg us.toArray) (hone : ∀ u ∈ us, u.oneCell' = true)
    (h63 : n + 1 ≤ maxLen) (hbytes : (n + 1) * bytes ≤ 140737488355328) (hbase : base ≤ w.heap.size)
    (h : ∀ g' cap w', w'.ownsRow base e size (.slice (some ⟨g', 0, none⟩) (n + 1) cap) (n + 1) (xs ++ us) → Only (fun k => v.ownBlock = some k) w w' → (v.ownBlock = some g' ∨ g' = w.heap.size) → K (a.put o.dst (.slice (some ⟨g', 0, none⟩) (n + 1) cap)) w') :
    if Region.wanted o (yielded ops a.tmps) = true then Oper.wp P o a w K Q else E := by
  refine step_append_lies w hgd s x t ho base e i z size bytes ht hi hz hsize hby hzs h0 v n xs hs hown ⟨g, 0, none⟩ 1 1 us hx (by rw [hus]; omega) ?_ hone (by omega) h63 hbytes hbase w.heap.size rfl ?_
  · intro j u' hj
    rw [Addr.add_lit, Nat.zero_add, hblk.cell]
    simpa using hj
  · intro g' cap w' h1 h2 h3 _
    exact h g' cap w' h1 ((Only.refl _ _).grown h2 (fun k hk => .inl hk)) h3
end Go.Proofs.YtcdfeaodfmfdnaaGreatDoor
