/- gameref.Solutions' search, a closure -/
import Derived.Test.YtfoehijlafooaaaDoorPzPush
import Derived.Test.YtfoehijlafooaaaDoorPzTouch
import Derived.Test.YtfoehijlafooaaaDoorPzFrom
import Derived.Deep.RegionLaw
namespace Go.Proofs.YtfoehijlafooaaaDoor
open Go.RowKit

section
variable {b2 : Nat} {now : List Int} {v : Value} {rows : List (List Int)} {w1 wc w3 : World}
theorem out_push (hz : b2 ≤ w1.heap.size) {A : Option Addr} {ca : Nat} (hca : now.length ≤ ca) (hcells : Cells wc wc.heap.size A (ints now))
    (hAb : 0 < now.length → ∀ a, A = some a → w1.heap.size ≤ a.block) (hbc : Below w1.heap.size w1 wc) {vs : List Value} (hvs : w1.ownsRow b2 22 1 v rows.length vs)
    (hrs : ∀ k (h : k < rows.length), ∃ Ak ck, rows[k].length ≤ ck ∧ vs[k]? = some (.slice Ak rows[k].length ck) ∧ Cells w1 w1.heap.size Ak (ints rows[k]) ∧ (0 < rows[k].length → ∀ a, Ak = some a → b2 ≤ a.block ∧ v.ownBlock ≠ some a.block))
    {A3 : Option Addr} {c3 : Nat} {o : Obj} (hown3 : w3.ownsRow b2 22 1 (.slice A3 (rows.length + 1) c3) (rows.length + 1) (vs ++ [.slice A now.length ca])) (hgr3 : (wc.alloc o).grownBy w3 v.ownBlock)
    (hwh : (Value.slice A3 (rows.length + 1) c3).ownBlock = v.ownBlock ∨ (Value.slice A3 (rows.length + 1) c3).ownBlock = some (wc.alloc o).heap.size) :
    OutAt w3 b2 (.slice A3 (rows.length + 1) c3) (rows ++ [now]) ∧ Only (fun b => b2 ≤ b) w1 w3 := by
  have hlt : ∀ g, v.ownBlock = some g → b2 ≤ g ∧ g < w1.heap.size := hvs.lt
  have hbA0 : Below wc.heap.size wc (wc.alloc o) := below_alloc0 (Below.refl _ _) _
  have hbA : Below w1.heap.size w1 (wc.alloc o) := hbc.trans (hbA0.mono hbc.size)
  have O3 : Only (fun b => w1.heap.size ≤ b ∨ v.ownBlock = some b) w1 w3 := (Only.of_below hbA (fun b _ hb => .inl hb)).grown hgr3 (fun k hk => .inl (.inr hk))
  refine ⟨?_, O3.mono (fun b _ hb => ?_)⟩
  · refine OutAt.push (w := wc.alloc o) (v := v) (vs := vs) hca ((hcells.below hbA0).more hbA0.size) (fun hn a ha => ?_) ?_ (fun j hj => ?_) hown3 ((Only.refl _ _).grown hgr3 (fun k hk => .inl hk)) ?_
    · have h1 := hAb hn a ha
      refine ⟨Nat.le_trans hz h1, fun e => ?_⟩
      have := (hlt _ e).2
      omega
    · exact ownsRow_only hvs (Only.of_below (S := fun k => w1.heap.size ≤ k) hbA (fun k _ h => h)) (fun g hg => by have := (hlt g hg).2; omega)
    · obtain ⟨Ak, ck, q1, q2, q3, q4⟩ := hrs j hj
      exact ⟨Ak, ck, q1, q2, (q3.below hbA).more hbA.size, q4⟩
    · rcases hwh with h | h
      · exact .inl h
      · exact .inr ⟨_, h, Nat.le_refl _⟩
  · rcases hb with h | h
    · exact Nat.le_trans hz h
    · exact (hlt b h).1
end

/-- the boxes of the reference's search -/
structure RefB where
  (bO bM bN bC bF bR bK gn : Nat)
/-- what the search reads -/
structure RSol (w : World) (E : RefB) (b2 r k cap most : Nat) (A : Option Addr) (c : Nat) (cells now : List Int) (v : Value) (rows : List (List Int)) : Prop where
  boxO : Blk w E.bO 23 #[v]
  boxM : Blk w E.bM 3 #[.int .i64 most]
  boxN : Blk w E.bN 22 #[.slice (some ⟨E.gn, 0, none⟩) cells.length cap]
  boxC : Blk w E.bC 22 #[.slice A cells.length c]
  boxF : Blk w E.bF 35 #[.func (.func 14) #[] #[.pointer (some ⟨E.bO, 0, none⟩), .pointer (some ⟨E.bM, 0, none⟩), .pointer (some ⟨E.bN, 0, none⟩), .pointer (some ⟨E.bC, 0, none⟩), .pointer (some ⟨E.bF, 0, none⟩), .pointer (some ⟨E.bR, 0, none⟩), .pointer (some ⟨E.bK, 0, none⟩)]]
  boxR : Blk w E.bR 3 #[.int .i64 r]
  boxK : Blk w E.bK 3 #[.int .i64 k]
  cel : ∀ j, j < cells.length → ∃ b off, A = some ⟨b, off, none⟩ ∧ b < E.bO ∧ w.cell? ⟨b, off + j, none⟩ = some (.int .i64 (gat cells j))
  g : CellsG w E.gn now
  o : OutAt w b2 v rows
  z : b2 ≤ w.heap.size
structure RefG (E : RefB) (b2 : Nat) : Prop where
  n2 : E.gn < b2
  o2 : E.bO < b2
  aO : ∀ b, b < E.bO → b ≠ E.gn
  nO : E.gn ≠ E.bO
  oM : E.bM ≠ E.bO ∧ E.bM ≠ E.gn ∧ E.bM < b2
  oN : E.bN ≠ E.bO ∧ E.bN ≠ E.gn ∧ E.bN < b2
  oC : E.bC ≠ E.bO ∧ E.bC ≠ E.gn ∧ E.bC < b2
  oF : E.bF ≠ E.bO ∧ E.bF ≠ E.gn ∧ E.bF < b2
  oR : E.bR ≠ E.bO ∧ E.bR ≠ E.gn ∧ E.bR < b2
  oK : E.bK ≠ E.bO ∧ E.bK ≠ E.gn ∧ E.bK < b2
def RefS (E : RefB) (b2 : Nat) : Nat → Prop := fun b => b = E.bO ∨ b = E.gn ∨ b2 ≤ b

section
variable {w w' : World} {E : RefB} {b2 r k cap most c : Nat} {A : Option Addr} {cells now : List Int} {v v' : Value} {rows rows' : List (List Int)}
theorem RSol.drewN (h : RSol w E b2 r k cap most A c cells now v rows) (n : Nat) : RSol (w.drewN n) E b2 r k cap most A c cells now v rows :=
  ⟨h.boxO.drewN n, h.boxM.drewN n, h.boxN.drewN n, h.boxC.drewN n, h.boxF.drewN n, h.boxR.drewN n, h.boxK.drewN n, h.cel, h.g, h.o, h.z⟩
/-- all but the out box, the now row and what lies above stays -/
theorem RSol.move (h : RSol w E b2 r k cap most A c cells now v rows) (hG : RefG E b2) (hO : Only (RefS E b2) w w') {now' : List Int} (ho : Blk w' E.bO 23 #[v']) (hg : CellsG w' E.gn now') (hout : OutAt w' b2 v' rows') :
    RSol w' E b2 r k cap most A c cells now' v' rows' := by
  have nb : ∀ b, b ≠ E.bO ∧ b ≠ E.gn ∧ b < b2 → ¬ RefS E b2 b := by
    rintro b ⟨h1, h2, h3⟩ (e | e | e)
    · exact h1 e
    · exact h2 e
    · omega
  refine ⟨ho, h.boxM.only hO (nb _ hG.oM), h.boxN.only hO (nb _ hG.oN), h.boxC.only hO (nb _ hG.oC), h.boxF.only hO (nb _ hG.oF), h.boxR.only hO (nb _ hG.oR), h.boxK.only hO (nb _ hG.oK), fun j hj => ?_, hg, hout, Nat.le_trans h.z hO.size⟩
  obtain ⟨b, off, e, hb, hc⟩ := h.cel j hj
  refine ⟨b, off, e, hb, ?_⟩
  rw [← hc]
  have hlt := World.block_lt_of_cell? w _ hc
  exact World.cell?_of_block (hO.block b hlt (nb b ⟨by omega, hG.aO b hb, by have := hG.o2; omega⟩))
theorem RSol.cell (h : RSol w E b2 r k cap most A c cells now v rows) (hG : RefG E b2) {i : Nat} (hi : i < now.length) (x : Int) :
    RSol (w.setCell ⟨E.gn, i, none⟩ (.int .i64 x)) E b2 r k cap most A c cells (now.set i x) v rows ∧ Only (RefS E b2) w (w.setCell ⟨E.gn, i, none⟩ (.int .i64 x)) := by
  have hO : Only (fun b => b = E.gn) w (w.setCell ⟨E.gn, i, none⟩ (.int .i64 x)) := (Only.refl (fun b => b = E.gn) w).setCell (p := ⟨E.gn, i, none⟩) (.inl rfl) _
  have hO2 := hO.mono (S' := RefS E b2) (fun b _ hb => .inr (.inl hb))
  exact ⟨h.move hG hO2 (h.boxO.only hO (fun e => hG.nO e.symm)) (h.g.set_ hi x) (h.o.only hO (fun k hk _ e => by have := hG.n2; omega)), hO2⟩
end
end Go.Proofs.YtfoehijlafooaaaDoor
