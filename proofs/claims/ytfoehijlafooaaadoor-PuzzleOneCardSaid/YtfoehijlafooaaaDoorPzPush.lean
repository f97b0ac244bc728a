/- an answer is put behind the others: memory -/
import Derived.Test.YtfoehijlafooaaaDoorPzSol
namespace Go.Proofs.YtfoehijlafooaaaDoor
open Go.RowKit

theorem step_appends2 {P : Program} {ops : Array Oper} {o : Oper} {a : Act} {K : Act → World → Prop} {Q : Exit → Act → World → Prop} {E : Prop} {w : World} (hgd : o.guard = none) (s x : Operand) (t : TypeId)
    (ho : o.op = .call { callee := .builtin .append, args := #[s, x], argTypes := #[t, t] })
    (base : Nat) (e : TypeId) (i : TypeInfo) (z : Value) (bytes : Nat) (ht : P.underlying t = some (.slice e)) (hi : P.info? e = some i) (hz : i.zero = some z)
    (hsize : i.size = 1) (hby : i.bytes = bytes) (hzs : z.cells.size = 1) (v : Value) (n : Nat) (ys : List Value) (hs : a.eval s = v) (hown : w.ownsRow base e 1 v n ys)
    (B : Nat) (A : Option Addr) (c : Nat) (xs : List Value) (m : Nat) (hm : xs.length = m) (hxe : a.eval x = .slice A m c) (hx : Cells w B A xs) (h1 : ∀ u ∈ xs, u.oneCell' = true) (hA : A = none → xs = [])
    (h63 : n + xs.length ≤ maxLen) (hbytes : (n + xs.length) * bytes ≤ 140737488355328) (hbase : base ≤ w.heap.size) (q : Nat) (hq : n + m = q)
    (h : ∀ A' c' w', w'.ownsRow base e 1 (.slice A' q c') q (ys ++ xs) → w.grownBy w' v.ownBlock → ((Value.slice A' q c').ownBlock = v.ownBlock ∨ (Value.slice A' q c').ownBlock = some w.heap.size) → K (a.put o.dst (.slice A' q c')) w') :
    if Region.wanted o (yielded ops a.tmps) = true then Oper.wp P o a w K Q else E := by
  have hw : Region.wanted o (yielded ops a.tmps) = true := by simp [Region.wanted, hgd]
  rw [if_pos hw]
  subst hm
  subst hq
  obtain ⟨v', w', hr, h2, h3, h4⟩ := run_appends (P := P) w base t o.type e i z bytes ht hi hz hsize hby hzs v n ys hown B A c xs hx h1 hA h63 hbytes hbase
  obtain ⟨A', c', hv, _⟩ := Cells.of_own h2
  subst hv
  unfold Oper.wp execOp
  simp only [ho, resolve, invoke, builtin, Sem.run_bind, Sem.run_pure, Result.andThen_ok, List.map_toArray, List.map_cons, List.map_nil, Act.eval] at hs hxe ⊢
  rw [hxe, hs]
  simp only [hr]
  exact h A' c' w' h2 h3 h4

theorem cell_alloc_some {w : World} {p : Addr} {v : Value} (h : w.cell? p = some v) (o : Obj) : (w.alloc o).cell? p = some v := by
  rw [← h]
  exact World.cell?_of_block (Below.heap_alloc w o p.block (World.block_lt_of_cell? w _ h))
theorem cells_box (w : World) (t : TypeId) (u : Value) : Cells (w.alloc (.cells #[u] t)) (w.heap.size + 1) (some ⟨w.heap.size, 0, none⟩) [u] := fun _ =>
  ⟨w.heap.size, 0, rfl, Nat.lt_succ_self _, fun k hk => by
    match k, hk with
    | 0, _ => exact (Blk.new w t #[u]).cellv rfl⟩
theorem SolS.base {G : SolB} {b2 b : Nat} (h : b2 ≤ b) : SolS G b2 b := .inr (.inr (.inr (.inr (.inr h))))

section
variable {G : SolB} {b2 r k cap most : Nat} {now : List Int} {R K B : Nat → Nat} {v : Value} {rows : List (List Int)} {w1 wc w3 : World}
theorem sol_push (hG : SolG G b2) (hW : SolW w1 G b2 r k cap most now R K B v rows) {A : Option Addr} {ca : Nat} (hca : now.length ≤ ca) (hcells : Cells wc wc.heap.size A (ints now))
    (hAb : 0 < now.length → ∀ a, A = some a → w1.heap.size ≤ a.block) (hbc : Below w1.heap.size w1 wc) {vs : List Value} (hvs : w1.ownsRow b2 22 1 v rows.length vs)
    (hrs : ∀ k (h : k < rows.length), ∃ Ak ck, rows[k].length ≤ ck ∧ vs[k]? = some (.slice Ak rows[k].length ck) ∧ Cells w1 w1.heap.size Ak (ints rows[k]) ∧ (0 < rows[k].length → ∀ a, Ak = some a → b2 ≤ a.block ∧ v.ownBlock ≠ some a.block))
    {A3 : Option Addr} {c3 : Nat} {o : Obj} (hown3 : w3.ownsRow b2 22 1 (.slice A3 (rows.length + 1) c3) (rows.length + 1) (vs ++ [.slice A now.length ca])) (hgr3 : (wc.alloc o).grownBy w3 v.ownBlock)
    (hwh : (Value.slice A3 (rows.length + 1) c3).ownBlock = v.ownBlock ∨ (Value.slice A3 (rows.length + 1) c3).ownBlock = some (wc.alloc o).heap.size) :
    SolW (w3.setCell ⟨G.gs, 8, none⟩ (.slice A3 (rows.length + 1) c3)) G b2 r k cap most now R K B (.slice A3 (rows.length + 1) c3) (rows ++ [now]) ∧ Only (SolS G b2) w1 (w3.setCell ⟨G.gs, 8, none⟩ (.slice A3 (rows.length + 1) c3)) := by
  have hlt : ∀ g, v.ownBlock = some g → b2 ≤ g ∧ g < w1.heap.size := hvs.lt
  have hbA0 : Below wc.heap.size wc (wc.alloc o) := below_alloc0 (Below.refl _ _) _
  have hbA : Below w1.heap.size w1 (wc.alloc o) := hbc.trans (hbA0.mono hbc.size)
  have O3 : Only (fun b => w1.heap.size ≤ b ∨ v.ownBlock = some b) w1 w3 := (Only.of_below hbA (fun b _ hb => .inl hb)).grown hgr3 (fun k hk => .inl (.inr hk))
  have nb : ∀ b, b < b2 → ¬ (w1.heap.size ≤ b ∨ v.ownBlock = some b) := by
    rintro b hb (h | h)
    · have := hW.z; omega
    · have := (hlt b h).1; omega
  have hsz : w1.heap.size ≤ w3.heap.size := O3.size
  have push : OutAt w3 b2 (.slice A3 (rows.length + 1) c3) (rows ++ [now]) := by
    refine OutAt.push (w := wc.alloc o) (v := v) (vs := vs) hca ((hcells.below hbA0).more hbA0.size) (fun hn a ha => ?_) ?_ (fun j hj => ?_) hown3 ((Only.refl _ _).grown hgr3 (fun k hk => .inl hk)) ?_
    · have h1 := hAb hn a ha
      refine ⟨Nat.le_trans hW.z h1, fun e => ?_⟩
      have := (hlt _ e).2
      omega
    · exact ownsRow_only hvs (Only.of_below (S := fun k => w1.heap.size ≤ k) hbA (fun k _ h => h)) (fun g hg => by have := (hlt g hg).2; omega)
    · obtain ⟨Ak, ck, q1, q2, q3, q4⟩ := hrs j hj
      exact ⟨Ak, ck, q1, q2, (q3.below hbA).more hbA.size, q4⟩
    · rcases hwh with h | h
      · exact .inl h
      · exact .inr ⟨_, h, Nat.le_refl _⟩
  have hne : ∀ b, b < b2 → some b ≠ v.ownBlock := fun b hb e => by have := (hlt b e.symm).1; omega
  have hgs : G.gs < w1.heap.size := hW.a.box.lt
  have O4 : Only (fun b => b = G.gs) w3 (w3.setCell ⟨G.gs, 8, none⟩ (.slice A3 (rows.length + 1) c3)) := (Only.refl (fun b => b = G.gs) w3).setCell (p := ⟨G.gs, 8, none⟩) (.inl rfl) _
  have bx := (hW.a.box.only O3 (nb _ hG.s2)).set_ 8 (.slice A3 (rows.length + 1) c3)
  refine ⟨⟨⟨bx, (hW.a.row.only O3 (nb _ hG.r2)).only O4 (fun e => hG.sr e.symm), (hW.a.col.only O3 (nb _ hG.k2)).only O4 (fun e => hG.sk e.symm), (hW.a.sq.only O3 (nb _ hG.bb)).only O4 (fun e => hG.sb e.symm)⟩,
    (hW.c.only O3 (nb _ hG.c2)).only O4 (fun e => hG.sc e.symm), push.only O4 (fun j hj _ e => by have := hG.s2; omega), tab_only (tab_only hW.t O3 (nb 1 (by have := hG.s1; have := hG.s2; omega))) O4 (fun e => by have := hG.s1; omega), Nat.le_trans hW.z (Nat.le_trans hsz O4.size)⟩, ?_⟩
  refine Only.trans (O3.mono (fun b _ hb => SolS.base ?_)) (O4.mono (fun b _ hb => .inl hb))
  rcases hb with h | h
  · exact Nat.le_trans hW.z h
  · exact (hlt b h).1
end
end Go.Proofs.YtfoehijlafooaaaDoor
