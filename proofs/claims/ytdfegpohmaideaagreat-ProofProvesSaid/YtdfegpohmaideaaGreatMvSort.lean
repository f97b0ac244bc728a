/- moves sorted and without doubles, in memory -/
import Derived.Test.YtdfegpohmaideaaGreatAllPlain
namespace Go.Proofs.YtdfegpohmaideaaGreat
open Go.RowKit Go.Shelf Go.Lib Go.Sort

theorem cellsM_get : ∀ (l : List Mv) (i : Nat) (h : i < l.length), (cellsM l)[i * 3]? = some (.int .i64 l[i].f) ∧ (cellsM l)[i * 3 + 1]? = some (.int .i64 l[i].t) ∧ (cellsM l)[i * 3 + 2]? = some (.int .u8 (l[i].c : Int))
  | d :: l, 0, _ => by simp [cellsM]
  | d :: l, i + 1, h => by
    have ih := cellsM_get l i (by simpa using h)
    have e : cellsM (d :: l) = .int .i64 d.f :: .int .i64 d.t :: .int .u8 (d.c : Int) :: cellsM l := by simp [cellsM]
    rw [e, show (i + 1) * 3 = i * 3 + 1 + 1 + 1 by omega]
    simpa using ih
theorem flatM_get (l : List Mv) (j : Nat) (h : j < l.length * 3) : (cellsM l)[j]? = some ((flatK encM 3 l.toArray)[j]!) := by
  obtain ⟨q, c, hc, rfl⟩ : ∃ q c, c < 3 ∧ j = q * 3 + c := ⟨j / 3, j % 3, by omega, by omega⟩
  rw [get_flatK encM 3 _ _ (by simpa using h)]
  have hq : q < l.length := by omega
  obtain ⟨g0, g1, g2⟩ := cellsM_get l q hq
  have e1 : (q * 3 + c) / 3 = q := by omega
  have e2 : (q * 3 + c) % 3 = c := by omega
  have e : l.toArray[q]! = l[q] := by rw [getElem!_pos _ _ (by simpa using hq)]; simp
  rw [e1, e2, e]
  match c, hc with
  | 0, _ => rw [Nat.add_zero, g0]; rfl
  | 1, _ => rw [g1]; rfl
  | 2, _ => rw [g2]; rfl
theorem holds_cells {w : World} {g : Nat} {l : List Mv} (h : HoldsK encM 3 w g 0 l.toArray) (hg : g < w.heap.size) : Cells w w.heap.size (some ⟨g, 0, none⟩) (cellsM l) := fun _ =>
  ⟨g, 0, rfl, hg, fun k hk => by
    rw [cellsM_len] at hk
    have h1 := (h k (by rw [size_flatK]; simpa using hk)).1
    have h2 := flatM_get l k hk
    rw [List.getElem?_eq_getElem (by rw [cellsM_len]; exact hk)] at h2
    injection h2 with h2
    rw [h1, h2]
    rfl⟩
theorem own_holds {w : World} {base g n cap : Nat} {l : List Mv} (h : w.ownsRow base 29 3 (.slice (some ⟨g, 0, none⟩) n cap) n (cellsM l)) : HoldsK encM 3 w g 0 l.toArray ∧ n ≤ cap ∧ g < w.heap.size := by
  obtain ⟨hl, h2⟩ := h
  rcases h2 with ⟨h3, _⟩ | ⟨g', cap', cur, h3, hbg, hg, hnc, hcm, hcs, htake⟩
  · cases h3
  · injection h3 with h3 _ h4
    injection h3 with h3
    injection h3 with h3
    subst h3 h4
    have hb : Blk w g 29 cur := hg
    refine ⟨fun j hj => ?_, hnc, hb.lt⟩
    have hj' : j < l.length * 3 := by rw [size_flatK] at hj; simpa using hj
    rw [Nat.zero_add]
    refine ⟨?_, hb.free j⟩
    rw [hb.cell]
    have h5 := flatM_get l j hj'
    rw [← htake] at h5
    rw [List.getElem?_take] at h5
    split at h5
    · simpa using h5
    · cases h5
theorem own_form {w : World} {base n : Nat} {v : Value} {l : List Mv} (h : w.ownsRow base 29 3 v n (cellsM l)) : (v = .slice none 0 0 ∧ n = 0) ∨ ∃ g cap, v = .slice (some ⟨g, 0, none⟩) n cap ∧ base ≤ g := by
  have hl := h.1
  rcases h.2 with ⟨h3, h4⟩ | ⟨g', cap', cur, h3, hbg, _⟩
  · rw [h4] at hl
    left
    refine ⟨h3, ?_⟩
    simp at hl
    omega
  · exact .inr ⟨g', cap', h3, hbg⟩
def MovesOut (W : World) (l : List Mv) (e : Ending) (w' : World) : Prop := ∃ A c, e = .returned (.slice A l.length c) ∧ l.length ≤ c ∧ Cells w' w'.heap.size A (cellsM l) ∧ (∀ ad, A = some ad → W.heap.size ≤ ad.block) ∧ Later W w'
set_option maxHeartbeats 400000 in
theorem compact_zero (A : Option Addr) (c : Nat) (w : World) : Calls Tryz.prog 91 #[.slice A 0 c] w fun e w' => e = .returned (.slice A 0 c) ∧ w' = w := by
  go_enter Tryz.func91, Tryz.ntmps91
  go_wp2_with fail
  go_ret
  exact ⟨rfl, rfl⟩
theorem sort_any (g c : Nat) (l : List Mv) (w : World) (hH : HoldsK encM 3 w g 0 l.toArray) (hg : g < w.heap.size) (hl : l.length < 4611686018427387904) :
    Calls Tryz.prog 88 #[.slice (some ⟨g, 0, none⟩) l.length c, .func (.func 89) #[] #[]] w fun e w' => e = .returned (.tuple #[]) ∧ HoldsK encM 3 w' g 0 (sortM l).toArray ∧ Only (fun k => k = g) w w' := by
  have eg : ∀ args w, (callFunc 89 args).run Tryz.prog w = .ok (.enter 89 args) w := enters_of Tryz.func89 (by kernel_rfl) rfl
  have h := AnyQ.slices_SortFunc_total Tryz.sortM 3 Tryz.isAgg29 Tryz.sizeOf29 encM (fun _ => rfl) (fun x v hv => encM_one x v hv) cfM swoM 89 #[] g 0 c l.toArray w eg (fun _ _ _ _ x y => cmpM_any x y _) hH hg (by simpa using hl) totM
  refine h.mono ?_
  rintro e w' ⟨rfl, nn, os, rfl⟩
  exact ⟨rfl, holdsK_sortWorldK_c encM 3 w g 0 _ _ nn os hH hg (by simp), only_sorted _ os⟩
theorem sort_zero (A : Option Addr) (c : Nat) (w : World) : Calls Tryz.prog 88 #[.slice A 0 c, .func (.func 89) #[] #[]] w fun e w' => e = .returned (.tuple #[]) ∧ w' = w :=
  AnyF.slices_SortFunc_none Tryz.sortM A c _ w
theorem cleanM_nil : cleanM [] = [] := by simp [cleanM, sortM, compactUpTo]
theorem cleanM_len (l : List Mv) : (cleanM l).length ≤ l.length := by
  unfold cleanM compactUpTo
  rw [List.length_map]
  refine Nat.le_trans (List.length_filter_le _ _) ?_
  simp [sortM_len]
def HeldM (w : World) (g : Nat) (l : List Mv) : Prop := HoldsK encM 3 w g 0 l.toArray
def CleanOut (W : World) (g c : Nat) (l : List Mv) (e : Ending) (w' : World) : Prop := e = .returned (.slice (some ⟨g, 0, none⟩) (cleanM l).length c) ∧ Cells w' w'.heap.size (some ⟨g, 0, none⟩) (cellsM (cleanM l)) ∧ Only (fun k => k = g) W w'
theorem clean_any (g c : Nat) (l : List Mv) (w : World) (h : HeldM w g (sortM l)) (hg : g < w.heap.size) (hc : l.length ≤ c) (hl : l.length ≤ 10000000) :
    Calls Tryz.prog 91 #[.slice (some ⟨g, 0, none⟩) l.length c] w (CleanOut w g c l) := by
  have hs : (sortM l).toArray.size = l.length := by simp [sortM_len]
  have h2 := compact_any g c (sortM l).toArray w h hg (by rw [hs]; exact hc) (by rw [hs]; exact hl)
  rw [hs] at h2
  refine h2.mono ?_
  rintro e w' ⟨rfl, hh, hO⟩
  refine ⟨rfl, ?_, hO⟩
  exact holds_cells hh (Nat.lt_of_lt_of_le hg hO.size)
end Go.Proofs.YtdfegpohmaideaaGreat
