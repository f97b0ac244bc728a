/- board.Turned -/
import Derived.Test.YtfoehijlafooaaaBoardCheck
import Derived.Laws.IdiomStrings
import Derived.Test.YtfoehijlafooaaaAppends
namespace Go.Proofs.Ytfoehijlafooaaa
open Go.RowKit

theorem and4 : ∀ k : Nat, k < 8 → ∃ v : Nat, bits .and .i64 (k : Int) 4 = (v : Int) ∧ decide (0 < v) = sBit k := by
  intro k hk
  match k, hk with
  | 0, _ => exact ⟨0, by decide, by decide⟩
  | 1, _ => exact ⟨0, by decide, by decide⟩
  | 2, _ => exact ⟨0, by decide, by decide⟩
  | 3, _ => exact ⟨0, by decide, by decide⟩
  | 4, _ => exact ⟨4, by decide, by decide⟩
  | 5, _ => exact ⟨4, by decide, by decide⟩
  | 6, _ => exact ⟨4, by decide, by decide⟩
  | 7, _ => exact ⟨4, by decide, by decide⟩
theorem and1 : ∀ k : Nat, k < 8 → ∃ v : Nat, bits .and .i64 (k : Int) 1 = (v : Int) ∧ decide (0 < v) = aBit k := by
  intro k hk
  match k, hk with
  | 0, _ => exact ⟨0, by decide, by decide⟩
  | 1, _ => exact ⟨1, by decide, by decide⟩
  | 2, _ => exact ⟨0, by decide, by decide⟩
  | 3, _ => exact ⟨1, by decide, by decide⟩
  | 4, _ => exact ⟨0, by decide, by decide⟩
  | 5, _ => exact ⟨1, by decide, by decide⟩
  | 6, _ => exact ⟨0, by decide, by decide⟩
  | 7, _ => exact ⟨1, by decide, by decide⟩
theorem and2 : ∀ k : Nat, k < 8 → ∃ v : Nat, bits .and .i64 (k : Int) 2 = (v : Int) ∧ decide (0 < v) = bBit k := by
  intro k hk
  match k, hk with
  | 0, _ => exact ⟨0, by decide, by decide⟩
  | 1, _ => exact ⟨0, by decide, by decide⟩
  | 2, _ => exact ⟨2, by decide, by decide⟩
  | 3, _ => exact ⟨2, by decide, by decide⟩
  | 4, _ => exact ⟨0, by decide, by decide⟩
  | 5, _ => exact ⟨0, by decide, by decide⟩
  | 6, _ => exact ⟨2, by decide, by decide⟩
  | 7, _ => exact ⟨2, by decide, by decide⟩

/-- no position -/
def noPos : Value := .agg #[.int .i64 0, .int .i64 0, .string ⟨#[]⟩, .int .i64 0, .string ⟨#[]⟩, .string ⟨#[]⟩]
/-- a block of six cells, read and free to be written -/
theorem Blk.six {w : World} {g : Nat} {t : TypeId} {a b c d e f : Value} (h : Blk w g t #[a, b, c, d, e, f]) :
    (w.cell? ⟨g, 0, none⟩ = some a ∧ w.cell? ⟨g, 1, none⟩ = some b ∧ w.cell? ⟨g, 2, none⟩ = some c ∧ w.cell? ⟨g, 3, none⟩ = some d ∧ w.cell? ⟨g, 4, none⟩ = some e ∧ w.cell? ⟨g, 5, none⟩ = some f) ∧
    (w.frozen? ⟨g, 0, none⟩ = false ∧ w.frozen? ⟨g, 1, none⟩ = false ∧ w.frozen? ⟨g, 2, none⟩ = false ∧ w.frozen? ⟨g, 3, none⟩ = false ∧ w.frozen? ⟨g, 4, none⟩ = false ∧ w.frozen? ⟨g, 5, none⟩ = false) := by
  refine ⟨⟨?_, ?_, ?_, ?_, ?_, ?_⟩, h.free 0, h.free 1, h.free 2, h.free 3, h.free 4, h.free 5⟩
  all_goals (rw [h.cell]; rfl)
theorem below_set1 {a w : World} (h : Below a.heap.size a w) (k o : Nat) (v : Value) : Below a.heap.size a (w.setCell ⟨a.heap.size + k, o, none⟩ v) := h.setCell (Nat.le_add_right _ _) v
theorem below_alloc_ {a w : World} {B : Nat} (h : Below B a w) (hB : B ≤ a.heap.size) (o : Obj) : Below B a (w.alloc o) := h.trans ((below_fresh w o).mono (Nat.le_trans hB h.size))

set_option maxHeartbeats 1000000 in
set_option maxRecDepth 100000 in
theorem turned_no (w h t k : Int) (c h0 h1 : ByteArray) (W : World) (hc9 : c.size ≤ 9223372036854775807) (l0 : h0.size ≤ 9223372036854775807) (l1 : h1.size ≤ 9223372036854775807) (hno : ¬ (PosOk ⟨w, h, c, t, h0, h1⟩ ∧ 0 ≤ k ∧ k ≤ 7)) :
    Calls Try.prog 18 #[.agg #[.int .i64 w, .int .i64 h, .string c, .int .i64 t, .string h0, .string h1], .int .i64 k] W fun e w' => e = .returned (.tuple #[noPos, .int .i64 1]) ∧ Below W.heap.size W w' := by
  by_cases hp : PosOk ⟨w, h, c, t, h0, h1⟩
  · have Hc := hide fun W => chk_good w h t c h0 h1 W hc9 l0 l1 hp
    have hk : ¬ (0 ≤ k ∧ k ≤ 7) := fun h => hno ⟨hp, h⟩
    clear hno hp
    by_cases hk0 : 0 ≤ k
    · have d1 : decide (k < 0) = false := by simp; omega
      have d2 : decide (k > 7) = true := by simp; omega
      clear hk hk0
      go_enter Try.func18, Try.ntmps18
      go_wp2_with fail
      refine (Hc.out _).mono ?_
      rintro e w1 ⟨rfl, hb1⟩
      obtain ⟨⟨y0, y1, y2, y3, y4, y5⟩, z0, z1, z2, z3, z4, z5⟩ := ((Blk.new (W.alloc (.cells #[.int .i64 w, .int .i64 h, .string c, .int .i64 t, .string h0, .string h1] 36)) 36 #[.int .i64 0, .int .i64 0, .string ⟨#[]⟩, .int .i64 0, .string ⟨#[]⟩, .string ⟨#[]⟩]).below hb1 (by simp)).six
      simp at y0 y1 y2 y3 y4 y5 z0 z1 z2 z3 z4 z5
      have Hb := hide (((below_alloc_ (below_fresh W (.cells #[.int .i64 w, .int .i64 h, .string c, .int .i64 t, .string h0, .string h1] 36)) (Nat.le_refl _) (.cells #[.int .i64 0, .int .i64 0, .string ⟨#[]⟩, .int .i64 0, .string ⟨#[]⟩, .string ⟨#[]⟩] 36))).trans (hb1.mono (by simp; omega)))
      clear hb1
      go_wp2_with fail
      refine bodyPost_ret (v := .tuple #[noPos, .int .i64 1]) (by simp [results, Try.results18, go_sem, noPos, y0, y1, y2, y3, y4, y5]) rfl ⟨rfl, ?_⟩
      repeat (first | with_reducible exact Hb.out | with_reducible refine below_drew_ ?_ | with_reducible refine below_set1 ?_ _ _ _)
    · have d1 : decide (k < 0) = true := by simp; omega
      clear hk hk0
      go_enter Try.func18, Try.ntmps18
      go_wp2_with fail
      refine (Hc.out _).mono ?_
      rintro e w1 ⟨rfl, hb1⟩
      obtain ⟨⟨y0, y1, y2, y3, y4, y5⟩, z0, z1, z2, z3, z4, z5⟩ := ((Blk.new (W.alloc (.cells #[.int .i64 w, .int .i64 h, .string c, .int .i64 t, .string h0, .string h1] 36)) 36 #[.int .i64 0, .int .i64 0, .string ⟨#[]⟩, .int .i64 0, .string ⟨#[]⟩, .string ⟨#[]⟩]).below hb1 (by simp)).six
      simp at y0 y1 y2 y3 y4 y5 z0 z1 z2 z3 z4 z5
      have Hb := hide (((below_alloc_ (below_fresh W (.cells #[.int .i64 w, .int .i64 h, .string c, .int .i64 t, .string h0, .string h1] 36)) (Nat.le_refl _) (.cells #[.int .i64 0, .int .i64 0, .string ⟨#[]⟩, .int .i64 0, .string ⟨#[]⟩, .string ⟨#[]⟩] 36))).trans (hb1.mono (by simp; omega)))
      clear hb1
      go_wp2_with fail
      refine bodyPost_ret (v := .tuple #[noPos, .int .i64 1]) (by simp [results, Try.results18, go_sem, noPos, y0, y1, y2, y3, y4, y5]) rfl ⟨rfl, ?_⟩
      repeat (first | with_reducible exact Hb.out | with_reducible refine below_drew_ ?_ | with_reducible refine below_set1 ?_ _ _ _)
  · have Hc := hide fun W => chk_bad w h t c h0 h1 W hc9 l0 l1 hp
    clear hno hp
    go_enter Try.func18, Try.ntmps18
    go_wp2_with fail
    refine (Hc.out _).mono ?_
    rintro e w1 ⟨rfl, hb1⟩
    obtain ⟨⟨y0, y1, y2, y3, y4, y5⟩, z0, z1, z2, z3, z4, z5⟩ := ((Blk.new (W.alloc (.cells #[.int .i64 w, .int .i64 h, .string c, .int .i64 t, .string h0, .string h1] 36)) 36 #[.int .i64 0, .int .i64 0, .string ⟨#[]⟩, .int .i64 0, .string ⟨#[]⟩, .string ⟨#[]⟩]).below hb1 (by simp)).six
    simp at y0 y1 y2 y3 y4 y5 z0 z1 z2 z3 z4 z5
    have Hb := hide (((below_alloc_ (below_fresh W (.cells #[.int .i64 w, .int .i64 h, .string c, .int .i64 t, .string h0, .string h1] 36)) (Nat.le_refl _) (.cells #[.int .i64 0, .int .i64 0, .string ⟨#[]⟩, .int .i64 0, .string ⟨#[]⟩, .string ⟨#[]⟩] 36))).trans (hb1.mono (by simp; omega)))
    clear hb1
    go_wp2_with fail
    refine bodyPost_ret (v := .tuple #[noPos, .int .i64 1]) (by simp [results, Try.results18, go_sem, noPos, y0, y1, y2, y3, y4, y5]) rfl ⟨rfl, ?_⟩
    repeat (first | with_reducible exact Hb.out | with_reducible refine below_drew_ ?_ | with_reducible refine below_set1 ?_ _ _ _)

def posV (p : Pos) : Value := .agg #[.int .i64 p.w, .int .i64 p.h, .string p.cells, .int .i64 p.turn, .string p.h0, .string p.h1]

theorem info_u8 : (Try.prog.info? 5).map (fun i => (i.zero, i.size, i.bytes)) = some (some (.int .u8 0), 1, 1) := by kernel_rfl
/-- what the scattered array holds once the first i cells are laid -/
def scat (s a b : Bool) (w h i : Nat) (l : List UInt8) (j : Nat) : Value := .int .u8 (if srcI s a b w h j < i then ((l.getD (srcI s a b w h j) 0).toNat : Int) else 0)
theorem scat_done {s a b : Bool} {w h : Nat} {l : List UInt8} {n : Nat} (hn : n = w * h) (hl : l.length = n) {j : Nat} (hj : j < l.length) :
    scat s a b w h n l j = .int .u8 (((turnCells s a b w h l)[j]'(by simpa using hj)).toNat : Int) := by
  unfold scat
  have := srcI_lt (s := s) (a := a) (b := b) (w := w) (h := h) (j := j) (by omega)
  rw [if_pos (by omega), turnCells_get (by omega) hj]
  simp [List.getD_eq_getElem?_getD, show srcI s a b w h j < l.length by omega]
theorem scat_set {s a b : Bool} {w h i : Nat} {l : List UInt8} (hl : l.length = w * h) (hi : i < l.length) :
    (arrV l.length (scat s a b w h i l)).setIfInBounds (dstI s a b w h i) (.int .u8 (l[i].toNat : Int)) = arrV l.length (scat s a b w h (i + 1) l) := by
  refine arrV_set _ _ _ _ _ ?_ ?_
  · unfold scat
    rw [src_dst (by omega), if_pos (by omega)]
    simp [List.getD_eq_getElem?_getD, hi]
  · intro j hj hne
    unfold scat
    have h1 : srcI s a b w h j ≠ i := fun e => hne (by rw [← e, dst_src (by omega)])
    congr 1
    by_cases h2 : srcI s a b w h j < i
    · rw [if_pos h2, if_pos (by omega)]
    · rw [if_neg h2, if_neg (by omega)]

end Go.Proofs.Ytfoehijlafooaaa
