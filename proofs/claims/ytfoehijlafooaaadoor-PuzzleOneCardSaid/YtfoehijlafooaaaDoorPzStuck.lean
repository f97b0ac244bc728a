/- the solver's stuck -/
import Derived.Test.YtfoehijlafooaaaDoorPzFlip
namespace Go.Proofs.YtfoehijlafooaaaDoor
open Go.RowKit

/-- the cells that a solver fills -/
def CellsG (w : World) (gc : Nat) (now : List Int) : Prop := ∃ cs : Array Value, Blk w gc 3 cs ∧ ∀ j, j < now.length → cs[j]? = some (.int .i64 (gat now j))
section
variable {w w' : World} {gc : Nat} {now : List Int} {G : SolB} {r k cap most : Nat} {R K B : Nat → Nat} {v : Value}
theorem CellsG.at_ (h : CellsG w gc now) {j : Nat} (hj : j < now.length) : w.cell? ⟨gc, j, none⟩ = some (.int .i64 (gat now j)) := by
  obtain ⟨cs, hb, hc⟩ := h
  exact hb.cellv (hc j hj)
theorem CellsG.free (h : CellsG w gc now) (j : Nat) : w.frozen? ⟨gc, j, none⟩ = false := by
  obtain ⟨cs, hb, _⟩ := h
  exact hb.free j
theorem CellsG.drewN (h : CellsG w gc now) (n : Nat) : CellsG (w.drewN n) gc now := h
theorem CellsG.only {S : Nat → Prop} (h : CellsG w gc now) (hb : Only S w w') (hg : ¬ S gc) : CellsG w' gc now := by
  obtain ⟨cs, h1, h2⟩ := h
  exact ⟨cs, h1.only hb hg, h2⟩
theorem CellsG.set_ (h : CellsG w gc now) {i : Nat} (hi : i < now.length) (v : Int) : CellsG (w.setCell ⟨gc, i, none⟩ (.int .i64 v)) gc (now.set i v) := by
  obtain ⟨cs, h1, h2⟩ := h
  refine ⟨_, h1.set_ i _, fun j hj => ?_⟩
  rw [List.length_set] at hj
  rw [gat_set hi, Array.getElem?_setIfInBounds]
  have hs : i < cs.size := by
    have := h2 i hi
    exact (Array.getElem?_eq_some_iff.1 this).1
  by_cases e : j = i
  · subst e; rw [if_pos rfl, if_pos hs, if_pos rfl]
  · rw [if_neg (fun x => e x.symm), if_neg e]; exact h2 j hj
theorem CellsG.far (h : CellsG w gc now) {p : Addr} (hp : gc ≠ p.block) (u : Value) : CellsG (w.setCell p u) gc now := by
  obtain ⟨cs, h1, h2⟩ := h
  exact ⟨cs, h1.far hp u, h2⟩
theorem SolA.drewN (h : SolA w G r k cap most R K B v) (n : Nat) : SolA (w.drewN n) G r k cap most R K B v := ⟨h.box.drewN n, h.row.drewN n, h.col.drewN n, h.sq.drewN n⟩
theorem SolA.only {S : Nat → Prop} (h : SolA w G r k cap most R K B v) (hb : Only S w w') (h0 : ¬ S G.gs) (h1 : ¬ S G.gr) (h2 : ¬ S G.gk) (h3 : ¬ S G.gb) : SolA w' G r k cap most R K B v :=
  ⟨h.box.only hb h0, h.row.only hb h1, h.col.only hb h2, h.sq.only hb h3⟩
end
def stuckB (r k : Nat) (now : List Int) (R K B : Nat → Nat) : Bool := (List.range now.length).any fun q => gat now q == 0 && freeN r k R K B q == 0

set_option maxHeartbeats 2000000 in
set_option maxRecDepth 100000 in
theorem stuck_any (G : SolB) (r k cap most : Nat) (R K B : Nat → Nat) (v : Value) (now : List Int) (w : World) (hr : 0 < r) (hk : 0 < k) (hr3 : r ≤ 3) (hk3 : k ≤ 3) (hl : now.length = r * k * (r * k))
    (hS : SolA w G r k cap most R K B v) (hC : CellsG w G.gc now) (hR : ∀ a, a < r * k → R a < 2 ^ (r * k)) (hK : ∀ a, a < r * k → K a < 2 ^ (r * k)) (hB : ∀ a, a < r * k → B a < 2 ^ (r * k)) :
    Calls Tryd.prog 23 #[.pointer (some ⟨G.gs, 0, none⟩)] w fun e w' => e = .returned (.bool (stuckB r k now R K B)) ∧ ∃ n, w' = w.drewN n := by
  have HF := hide (fun i hi w hS => free_any G r k i cap most R K B v w hr hk hr3 hk3 hi hS hR hK hB)
  have HS := hide hS
  have HC := hide hC
  have x3 : w.cell? ⟨G.gs, 3, none⟩ = some (.slice (some ⟨G.gc, 0, none⟩) now.length cap) := by rw [hl]; exact hS.box.cellv rfl
  have hN81 : now.length ≤ 81 := by
    have hn9 : r * k ≤ 9 := Nat.le_trans (Nat.mul_le_mul hr3 hk3) (by decide)
    rw [hl]; exact Nat.mul_le_mul hn9 hn9
  have Hl := hide hl
  clear hS hC hR hK hB hl hr hk hr3 hk3
  unfold stuckB
  obtain ⟨gs, gc, gr, gk, gb⟩ := G
  simp only at x3
  go_enter Tryd.func23, Tryd.ntmps23
  go_wp2_with fail
  go_loopw [10] (fun idx wr => ∃ q n : Nat, q ≤ now.length ∧ idx = .int .i64 q ∧ wr = w.drewN n ∧ ∀ j, j < q → (gat now j == 0 && freeN r k R K B j == 0) = false) (fun idx _ => now.length - (intOf idx).toNat)
  case atStart => exact ⟨0, 0, by omega, rfl, rfl, by intro j hj; omega⟩
  case round =>
    obtain ⟨q, nd, hq, rfl, rfl, hall⟩ := hrel
    have Hall := hide hall
    clear hall
    by_cases hlt : q < now.length
    · have y := HC.out.at_ hlt
      have hS2 := HS.out.drewN nd
      by_cases h0 : gat now q = 0
      · rw [h0] at y
        have hf := HF.out q (by rw [← Hl.out]; exact hlt) (w.drewN nd) hS2
        obtain ⟨f, hff⟩ : ∃ f, freeN r k R K B q = f := ⟨_, rfl⟩
        rw [hff] at hf
        have Hf := hide hf
        have H0 := hide h0
        have Hff := hide hff
        clear hS2 h0 hf hff
        by_cases hz : f = 0
        · subst hz
          have Hres := hide (show ((List.range now.length).any fun q => gat now q == 0 && freeN r k R K B q == 0) = true by
            rw [List.any_eq_true]
            exact ⟨q, by simpa using hlt, by rw [H0.out, Hff.out]; rfl⟩)
          go_wp2_with (go_at_call 18; refine Hf.out.mono ?_; rintro e w2 ⟨rfl, m, rfl⟩)
          go_ret
          exact ⟨by rw [Hres.out]; rfl, _, rfl⟩
        · have hz2 : ((f : Int) == 0) = false := by simp [hz]
          have Hnew := hide (show ∀ j, j < q + 1 → (gat now j == 0 && freeN r k R K B j == 0) = false from fun j hj => by
            by_cases e : j = q
            · subst e; rw [H0.out, Hff.out]; simp [hz]
            · exact Hall.out j (by omega))
          clear hz
          go_wp2_with (go_at_call 18; refine Hf.out.mono ?_; rintro e w2 ⟨rfl, m, rfl⟩)
          go_roundw
          case rel => exact ⟨q + 1, _, by omega, by go_num, rfl, Hnew.out⟩
          case measure => simp [intOf]; omega
      · have h02 : (gat now q == 0) = false := by simp [h0]
        have Hnew := hide (show ∀ j, j < q + 1 → (gat now j == 0 && freeN r k R K B j == 0) = false from fun j hj => by
            by_cases e : j = q
            · subst e; rw [h02]; rfl
            · exact Hall.out j (by omega))
        clear h0 hS2
        go_wp2_with fail
        go_roundw
        case rel => exact ⟨q + 1, _, by omega, by go_num, rfl, Hnew.out⟩
        case measure => simp [intOf]; omega
    · have Hres := hide (show ((List.range now.length).any fun q => gat now q == 0 && freeN r k R K B q == 0) = false by
        rw [List.any_eq_false]
        intro j hj
        rw [Hall.out j (by simp at hj; omega)]; simp)
      go_wp2_with fail
      go_ret
      exact ⟨by rw [Hres.out]; rfl, _, rfl⟩
end Go.Proofs.YtfoehijlafooaaaDoor
