/- board.Turned and board.Swapped. -/
import Derived.Test.YtdfegpohmaideaaBoardCheck
import Derived.Laws.IdiomStrings
import Derived.Test.YtdfegpohmaideaaAppends
import Derived.Test.YtdfegpohmaideaaOther
import Derived.BigRegion
import Derived.Test.YtdfegpohmaideaaShelf
import Derived.Test.YtdfegpohmaideaaOrderPlain
import Derived.Test.YtdfegpohmaideaaBase
/- board.Turned -/
namespace Go.Proofs.Ytdfegpohmaideaa
open Go.RowKit

theorem and4 : ∀ k : Nat, k < 8 → ∃ v : Nat, bits .and .i64 (k : Int) 4 = (v : Int) ∧ decide (0 < v) = sBit k := by
  intro k hk
  match k, hk with
  | 0, _ => exact ⟨0, by decide, by decide⟩
  | 1, _ => exact ⟨0, by decide, by decide⟩
  | 2, _ => exact ⟨0, by decide, by decide⟩
  | 3, _ => exact ⟨0, by decide, by decide⟩
  | 4, _ => exact ⟨4, by decide, by decide⟩
  | 5, _ => exact ⟨4, by decide, by decide⟩
  | 6, _ => exact ⟨4, by decide, by decide⟩
  | 7, _ => exact ⟨4, by decide, by decide⟩
theorem and1 : ∀ k : Nat, k < 8 → ∃ v : Nat, bits .and .i64 (k : Int) 1 = (v : Int) ∧ decide (0 < v) = aBit k := by
  intro k hk
  match k, hk with
  | 0, _ => exact ⟨0, by decide, by decide⟩
  | 1, _ => exact ⟨1, by decide, by decide⟩
  | 2, _ => exact ⟨0, by decide, by decide⟩
  | 3, _ => exact ⟨1, by decide, by decide⟩
  | 4, _ => exact ⟨0, by decide, by decide⟩
  | 5, _ => exact ⟨1, by decide, by decide⟩
  | 6, _ => exact ⟨0, by decide, by decide⟩
  | 7, _ => exact ⟨1, by decide, by decide⟩
theorem and2 : ∀ k : Nat, k < 8 → ∃ v : Nat, bits .and .i64 (k : Int) 2 = (v : Int) ∧ decide (0 < v) = bBit k := by
  intro k hk
  match k, hk with
  | 0, _ => exact ⟨0, by decide, by decide⟩
  | 1, _ => exact ⟨0, by decide, by decide⟩
  | 2, _ => exact ⟨2, by decide, by decide⟩
  | 3, _ => exact ⟨2, by decide, by decide⟩
  | 4, _ => exact ⟨0, by decide, by decide⟩
  | 5, _ => exact ⟨0, by decide, by decide⟩
  | 6, _ => exact ⟨2, by decide, by decide⟩
  | 7, _ => exact ⟨2, by decide, by decide⟩

/-- no position -/
def noPos : Value := .agg #[.int .i64 0, .int .i64 0, .string ⟨#[]⟩, .int .i64 0, .string ⟨#[]⟩, .string ⟨#[]⟩]
/-- a block of six cells, read and free to be written -/
theorem Blk.six {w : World} {g : Nat} {t : TypeId} {a b c d e f : Value} (h : Blk w g t #[a, b, c, d, e, f]) :
    (w.cell? ⟨g, 0, none⟩ = some a ∧ w.cell? ⟨g, 1, none⟩ = some b ∧ w.cell? ⟨g, 2, none⟩ = some c ∧ w.cell? ⟨g, 3, none⟩ = some d ∧ w.cell? ⟨g, 4, none⟩ = some e ∧ w.cell? ⟨g, 5, none⟩ = some f) ∧
    (w.frozen? ⟨g, 0, none⟩ = false ∧ w.frozen? ⟨g, 1, none⟩ = false ∧ w.frozen? ⟨g, 2, none⟩ = false ∧ w.frozen? ⟨g, 3, none⟩ = false ∧ w.frozen? ⟨g, 4, none⟩ = false ∧ w.frozen? ⟨g, 5, none⟩ = false) := by
  refine ⟨⟨?_, ?_, ?_, ?_, ?_, ?_⟩, h.free 0, h.free 1, h.free 2, h.free 3, h.free 4, h.free 5⟩
  all_goals (rw [h.cell]; rfl)
theorem below_set1 {a w : World} (h : Below a.heap.size a w) (k o : Nat) (v : Value) : Below a.heap.size a (w.setCell ⟨a.heap.size + k, o, none⟩ v) := h.setCell (Nat.le_add_right _ _) v
theorem below_alloc_ {a w : World} {B : Nat} (h : Below B a w) (hB : B ≤ a.heap.size) (o : Obj) : Below B a (w.alloc o) := h.trans ((below_fresh w o).mono (Nat.le_trans hB h.size))

set_option maxHeartbeats 1000000 in
set_option maxRecDepth 100000 in
theorem turned_no (w h t k : Int) (c h0 h1 : ByteArray) (W : World) (hc9 : c.size ≤ 9223372036854775807) (l0 : h0.size ≤ 9223372036854775807) (l1 : h1.size ≤ 9223372036854775807) (hno : ¬ (PosOk ⟨w, h, c, t, h0, h1⟩ ∧ 0 ≤ k ∧ k ≤ 7)) :
    Calls Try.prog 8 #[.agg #[.int .i64 w, .int .i64 h, .string c, .int .i64 t, .string h0, .string h1], .int .i64 k] W fun e w' => e = .returned (.tuple #[noPos, .int .i64 1]) ∧ Below W.heap.size W w' := by
  by_cases hp : PosOk ⟨w, h, c, t, h0, h1⟩
  · have Hc := hide fun W => chk_good w h t c h0 h1 W hc9 l0 l1 hp
    have hk : ¬ (0 ≤ k ∧ k ≤ 7) := fun h => hno ⟨hp, h⟩
    clear hno hp
    by_cases hk0 : 0 ≤ k
    · have d1 : decide (k < 0) = false := by simp; omega
      have d2 : decide (k > 7) = true := by simp; omega
      clear hk hk0
      go_enter Try.func8, Try.ntmps8
      go_wp2_with fail
      refine (Hc.out _).mono ?_
      rintro e w1 ⟨rfl, hb1⟩
      obtain ⟨⟨y0, y1, y2, y3, y4, y5⟩, z0, z1, z2, z3, z4, z5⟩ := ((Blk.new (W.alloc (.cells #[.int .i64 w, .int .i64 h, .string c, .int .i64 t, .string h0, .string h1] 24)) 24 #[.int .i64 0, .int .i64 0, .string ⟨#[]⟩, .int .i64 0, .string ⟨#[]⟩, .string ⟨#[]⟩]).below hb1 (by simp)).six
      simp at y0 y1 y2 y3 y4 y5 z0 z1 z2 z3 z4 z5
      have Hb := hide (((below_alloc_ (below_fresh W (.cells #[.int .i64 w, .int .i64 h, .string c, .int .i64 t, .string h0, .string h1] 24)) (Nat.le_refl _) (.cells #[.int .i64 0, .int .i64 0, .string ⟨#[]⟩, .int .i64 0, .string ⟨#[]⟩, .string ⟨#[]⟩] 24))).trans (hb1.mono (by simp; omega)))
      clear hb1
      go_wp2_with fail
      refine bodyPost_ret (v := .tuple #[noPos, .int .i64 1]) (by simp [results, Try.results8, go_sem, noPos, y0, y1, y2, y3, y4, y5]) rfl ⟨rfl, ?_⟩
      repeat (first | with_reducible exact Hb.out | with_reducible refine below_drew_ ?_ | with_reducible refine below_set1 ?_ _ _ _)
    · have d1 : decide (k < 0) = true := by simp; omega
      clear hk hk0
      go_enter Try.func8, Try.ntmps8
      go_wp2_with fail
      refine (Hc.out _).mono ?_
      rintro e w1 ⟨rfl, hb1⟩
      obtain ⟨⟨y0, y1, y2, y3, y4, y5⟩, z0, z1, z2, z3, z4, z5⟩ := ((Blk.new (W.alloc (.cells #[.int .i64 w, .int .i64 h, .string c, .int .i64 t, .string h0, .string h1] 24)) 24 #[.int .i64 0, .int .i64 0, .string ⟨#[]⟩, .int .i64 0, .string ⟨#[]⟩, .string ⟨#[]⟩]).below hb1 (by simp)).six
      simp at y0 y1 y2 y3 y4 y5 z0 z1 z2 z3 z4 z5
      have Hb := hide (((below_alloc_ (below_fresh W (.cells #[.int .i64 w, .int .i64 h, .string c, .int .i64 t, .string h0, .string h1] 24)) (Nat.le_refl _) (.cells #[.int .i64 0, .int .i64 0, .string ⟨#[]⟩, .int .i64 0, .string ⟨#[]⟩, .string ⟨#[]⟩] 24))).trans (hb1.mono (by simp; omega)))
      clear hb1
      go_wp2_with fail
      refine bodyPost_ret (v := .tuple #[noPos, .int .i64 1]) (by simp [results, Try.results8, go_sem, noPos, y0, y1, y2, y3, y4, y5]) rfl ⟨rfl, ?_⟩
      repeat (first | with_reducible exact Hb.out | with_reducible refine below_drew_ ?_ | with_reducible refine below_set1 ?_ _ _ _)
  · have Hc := hide fun W => chk_bad w h t c h0 h1 W hc9 l0 l1 hp
    clear hno hp
    go_enter Try.func8, Try.ntmps8
    go_wp2_with fail
    refine (Hc.out _).mono ?_
    rintro e w1 ⟨rfl, hb1⟩
    obtain ⟨⟨y0, y1, y2, y3, y4, y5⟩, z0, z1, z2, z3, z4, z5⟩ := ((Blk.new (W.alloc (.cells #[.int .i64 w, .int .i64 h, .string c, .int .i64 t, .string h0, .string h1] 24)) 24 #[.int .i64 0, .int .i64 0, .string ⟨#[]⟩, .int .i64 0, .string ⟨#[]⟩, .string ⟨#[]⟩]).below hb1 (by simp)).six
    simp at y0 y1 y2 y3 y4 y5 z0 z1 z2 z3 z4 z5
    have Hb := hide (((below_alloc_ (below_fresh W (.cells #[.int .i64 w, .int .i64 h, .string c, .int .i64 t, .string h0, .string h1] 24)) (Nat.le_refl _) (.cells #[.int .i64 0, .int .i64 0, .string ⟨#[]⟩, .int .i64 0, .string ⟨#[]⟩, .string ⟨#[]⟩] 24))).trans (hb1.mono (by simp; omega)))
    clear hb1
    go_wp2_with fail
    refine bodyPost_ret (v := .tuple #[noPos, .int .i64 1]) (by simp [results, Try.results8, go_sem, noPos, y0, y1, y2, y3, y4, y5]) rfl ⟨rfl, ?_⟩
    repeat (first | with_reducible exact Hb.out | with_reducible refine below_drew_ ?_ | with_reducible refine below_set1 ?_ _ _ _)

def posV (p : Pos) : Value := .agg #[.int .i64 p.w, .int .i64 p.h, .string p.cells, .int .i64 p.turn, .string p.h0, .string p.h1]

theorem info_u8 : (Try.prog.info? 5).map (fun i => (i.zero, i.size, i.bytes)) = some (some (.int .u8 0), 1, 1) := by kernel_rfl
/-- what the scattered array holds once the first i cells are laid -/
def scat (s a b : Bool) (w h i : Nat) (l : List UInt8) (j : Nat) : Value := .int .u8 (if srcI s a b w h j < i then ((l.getD (srcI s a b w h j) 0).toNat : Int) else 0)
theorem scat_done {s a b : Bool} {w h : Nat} {l : List UInt8} {n : Nat} (hn : n = w * h) (hl : l.length = n) {j : Nat} (hj : j < l.length) :
    scat s a b w h n l j = .int .u8 (((turnCells s a b w h l)[j]'(by simpa using hj)).toNat : Int) := by
  unfold scat
  have := srcI_lt (s := s) (a := a) (b := b) (w := w) (h := h) (j := j) (by omega)
  rw [if_pos (by omega), turnCells_get (by omega) hj]
  simp [List.getD_eq_getElem?_getD, show srcI s a b w h j < l.length by omega]
theorem scat_set {s a b : Bool} {w h i : Nat} {l : List UInt8} (hl : l.length = w * h) (hi : i < l.length) :
    (arrV l.length (scat s a b w h i l)).setIfInBounds (dstI s a b w h i) (.int .u8 (l[i].toNat : Int)) = arrV l.length (scat s a b w h (i + 1) l) := by
  refine arrV_set _ _ _ _ _ ?_ ?_
  · unfold scat
    rw [src_dst (by omega), if_pos (by omega)]
    simp [List.getD_eq_getElem?_getD, hi]
  · intro j hj hne
    unfold scat
    have h1 : srcI s a b w h j ≠ i := fun e => hne (by rw [← e, dst_src (by omega)])
    congr 1
    by_cases h2 : srcI s a b w h j < i
    · rw [if_pos h2, if_pos (by omega)]
    · rw [if_neg h2, if_neg (by omega)]

end Go.Proofs.Ytdfegpohmaideaa
/- board.Turned at right positions -/
namespace Go.Proofs.Ytdfegpohmaideaa
open Go.RowKit

set_option maxHeartbeats 4000000 in
set_option maxRecDepth 100000 in
theorem turned_false (w h : Nat) (t : Int) (c h0 h1 : ByteArray) (W : World) (hp : PosOk ⟨w, h, c, t, h0, h1⟩) (k : Nat) (hk : k < 8) (hs : sBit k = false) :
    Calls Try.prog 8 #[.agg #[.int .i64 w, .int .i64 h, .string c, .int .i64 t, .string h0, .string h1], .int .i64 k] W fun e w' => e = .returned (.tuple #[posV (turnP ⟨w, h, c, t, h0, h1⟩ k), .int .i64 0]) ∧ Below W.heap.size W w' := by
  have hsz := hp.size
  have hw1 := hp.w1
  have hw8 := hp.w8
  have hh1 := hp.h1
  have hh8 := hp.h8
  have hlen := hp.len
  simp only [Int.toNat_natCast] at hsz hw1 hw8 hh1 hh8 hlen
  have hm := mul_in hw1 hw8 hh1 hh8
  have l0 : h0.size ≤ 9223372036854775807 := by have := (handB_true.1 hp.hand0).1; have e : h0.data.toList.length = h0.size := rfl; simp only at this; omega
  have l1 : h1.size ≤ 9223372036854775807 := by have := (handB_true.1 hp.hand1).1; have e : h1.data.toList.length = h1.size := rfl; simp only at this; omega
  have hc9 : c.size ≤ 64 := by omega
  have Hc := hide fun W => chk_good w h t c h0 h1 W (by omega) l0 l1 hp
  obtain ⟨v4, hv4, hb4⟩ := and4 k hk
  obtain ⟨v1, hv1, hb1⟩ := and1 k hk
  obtain ⟨v2, hv2, hb2⟩ := and2 k hk
  have d1 : decide ((k : Int) < 0) = false := by simp
  have d2 : decide ((k : Int) > 7) = false := by simp; omega
  have Hlen := hide (show c.size = w * h from hlen)
  rw [hs] at hb4
  obtain ⟨a, ha⟩ : ∃ a, aBit k = a := ⟨_, rfl⟩
  obtain ⟨b, hb⟩ : ∃ b, bBit k = b := ⟨_, rfl⟩
  rw [ha] at hb1
  rw [hb] at hb2
  have Hfin := hide (show turnP ⟨w, h, c, t, h0, h1⟩ k = ⟨w, h, bytes (turnCells false a b w h c.data.toList), t, h0, h1⟩ by simp [turnP, hs, ha, hb])
  have Hb1 := hide hb1
  have Hb2 := hide hb2
  obtain ⟨i0, hi0, iz0, iz1, iz2⟩ := info_parts info_u8
  have hmk := fun W => run_make1 (P := Try.prog) 55 5 i0 (.int .u8 0) Try.underlying55 hi0 iz0 iz1 rfl .i64 .i64 c.size (by rw [iz2]; omega) (by omega) W
  clear hsz hlen hb1 hb2 hs hp hk ha hb hi0 iz0 iz1 iz2
  go_enter Try.func8, Try.ntmps8
  go_wp2_with fail
  refine (Hc.out _).mono ?_
  rintro e w1 ⟨rfl, hbw⟩
  have b0 := ((Blk.new W 24 #[.int .i64 w, .int .i64 h, .string c, .int .i64 t, .string h0, .string h1]).alloc (.cells #[.int .i64 0, .int .i64 0, .string ⟨#[]⟩, .int .i64 0, .string ⟨#[]⟩, .string ⟨#[]⟩] 24)).below hbw (by simp; omega)
  have b1 := (Blk.new (W.alloc (.cells #[.int .i64 w, .int .i64 h, .string c, .int .i64 t, .string h0, .string h1] 24)) 24 #[.int .i64 0, .int .i64 0, .string ⟨#[]⟩, .int .i64 0, .string ⟨#[]⟩, .string ⟨#[]⟩]).below hbw (by simp)
  simp only [World.size_alloc] at b1
  obtain ⟨⟨x0, x1, x2, x3, x4, x5⟩, _⟩ := b0.six
  have hz : W.heap.size + 1 < w1.heap.size := by have := hbw.size; simp at this; omega
  have hz0 : W.heap.size < w1.heap.size := by omega
  have hz2 : ¬ (W.heap.size = w1.heap.size + 1) := by omega
  have hz3 : ¬ (w1.heap.size + 1 = W.heap.size) := by omega
  have B0 := hide b0
  have B1 := hide b1
  have Hb := hide (((below_alloc_ (below_fresh W (.cells #[.int .i64 w, .int .i64 h, .string c, .int .i64 t, .string h0, .string h1] 24)) (Nat.le_refl _) (.cells #[.int .i64 0, .int .i64 0, .string ⟨#[]⟩, .int .i64 0, .string ⟨#[]⟩, .string ⟨#[]⟩] 24))).trans (hbw.mono (by simp; omega)))
  clear b0 b1 hbw
  go_wp2_with fail
  clear hmk
  go_loopw [41] (fun idx wr => ∃ i : Nat, i ≤ c.size ∧ idx = .int .i64 i ∧ Blk wr (w1.heap.size + 1) 5 (arrV c.size (scat false a b w h i c.data.toList)) ∧ Blk wr w1.heap.size 24 #[.int .i64 w, .int .i64 h, .string c, .int .i64 t, .string h0, .string h1] ∧ Only (fun _ => False) w1 wr) (fun idx _ => c.size - (intOf idx).toNat)
  case atStart =>
    refine ⟨0, by omega, rfl, ?_, ((Blk.new _ _ _).alloc _), ((Only.refl _ _).alloc _).alloc _⟩
    rw [← arrV_replicate c.size (scat false a b w h 0 c.data.toList) (.int .u8 0) (fun j _ => by unfold scat; rw [if_neg (by omega)])]
    simpa using Blk.new (w1.alloc (.cells #[.int .i64 w, .int .i64 h, .string c, .int .i64 t, .string h0, .string h1] 24)) 5 (Array.replicate c.size (.int .u8 0))
  case round =>
    rename World => wr
    obtain ⟨i, hi, rfl, hA, hO, hK⟩ := hrel
    have q0 := (B0.out.only hK id)
    obtain ⟨⟨x0, x1, x2, x3, x4, x5⟩, -⟩ := q0.six
    obtain ⟨⟨y0, y1, y2, y3, y4, y5⟩, y6, y7, y8, y9, y10, y11⟩ := hO.six
    have HA := hide hA
    have HO := hide hO
    have HK := hide hK
    clear hA hO hK q0
    by_cases hlt : i < c.size
    · have hi2 : i < w * h := by have := Hlen.out; omega
      have hxl := col_lt hi2
      have hyl := row_lt hi2
      have hDn : dstI false a b w h i < c.size := by have := dstI_lt (s := false) (a := a) (b := b) hi2; have := Hlen.out; omega
      have f1 := HA.out.cellv (i := dstI false a b w h i) (arrV_get hDn)
      have f2 := HA.out.free (dstI false a b w h i)
      have Hset := hide (scat_set (s := false) (a := a) (b := b) (l := c.data.toList) (i := i) Hlen.out hlt)
      obtain ⟨x, hx⟩ : ∃ x, i % w = x := ⟨_, rfl⟩
      obtain ⟨y, hy⟩ : ∃ y, i / w = y := ⟨_, rfl⟩
      rw [hx] at hxl
      rw [hy] at hyl
      have ex : (i : Int) % (w : Int) = (x : Int) := by rw [← hx]; rfl
      have ey : (i : Int) / (w : Int) = (y : Int) := by rw [← hy]; rfl
      have ez : ((w : Int) == 0) = false := by simp; omega
      have j1 : (0 : Int) ≤ (i : Int) := by omega
      have j2 : (i : Int) < (c.size : Int) := by omega
      have hD0 : dstI false a b w h i = flipN b h y * w + flipN a w x := by simp [dstI, hx, hy, oW, oH]
      have hX := flipN_lt (f := a) hxl
      have hY := flipN_lt (f := b) hyl
      obtain ⟨X, hXe⟩ : ∃ X, flipN a w x = X := ⟨_, rfl⟩
      obtain ⟨Y, hYe⟩ : ∃ Y, flipN b h y = Y := ⟨_, rfl⟩
      rw [hXe] at hX hD0
      rw [hYe] at hY hD0
      obtain ⟨D, hD⟩ : ∃ D, dstI false a b w h i = D := ⟨_, rfl⟩
      have Hset2 : Hid ((arrV c.size (scat false a b w h i c.data.toList)).setIfInBounds D (.int .u8 (c[i].toNat : Int)) = arrV c.size (scat false a b w h (i + 1) c.data.toList)) := hide (by rw [← hD]; exact Hset.out)
      rw [hD] at f1 f2 hDn hD0
      have m1 : (Y : Int) * (w : Int) + (X : Int) = (D : Int) := by rw [hD0]; simp
      have m2 : 0 ≤ (Y : Int) * (w : Int) := Int.mul_nonneg (by omega) (by omega)
      have m3 : (Y : Int) * (w : Int) ≤ 64 := by omega
      have m6 : IntKind.i64.wrap ((Y : Int) * (w : Int)) = (Y : Int) * (w : Int) := IntWalk.i64_in _ (by omega)
      have m7 : IntKind.i64.wrap (D : Int) = (D : Int) := IntWalk.i64_in _ (by omega)
      have m4 : (0 : Int) ≤ (D : Int) := by omega
      have m5 : (D : Int) < (c.size : Int) := by omega
      clear hx hy hD hD0 Hset hi2
      cases a
      · cases b
        · have e1 := Hb1.out
          have e2 := Hb2.out
          obtain rfl : x = X := by simpa [flipN] using hXe
          obtain rfl : y = Y := by simpa [flipN] using hYe
          clear hXe hYe
          go_wp2_with fail
          go_quiet (fail)
          go_wp2_with fail
          try simp only [ex]
          go_region_held3 (fun w' => w'.cell? ⟨w1.heap.size, 0, none⟩ = some (.int .i64 w) ∧ w'.cell? ⟨W.heap.size, 2, none⟩ = some (.string c)) (first | exact ⟨y0, x2⟩ | go_keep) (fail)
          go_wp2_with fail
          go_roundw
          case rel => exact ⟨i + 1, by omega, by go_num, by rw [← Hset2.out]; exact (HA.out.drewN _).set_ D _, (HO.out.drewN _).far (by simp) _, (HK.out.drewN _).setCell (.inr (by simp)) _⟩
          case measure => simp [intOf]; omega
        · have e1 := Hb1.out
          have e2 := Hb2.out
          obtain rfl : x = X := by simpa [flipN] using hXe
          have n2 : (h : Int) - 1 - (y : Int) = (Y : Int) := by simp [flipN] at hYe; omega
          clear hXe hYe
          go_wp2_with fail
          go_quiet (fail)
          go_wp2_with fail
          try simp only [ex]
          go_region_held3 (fun w' => w'.cell? ⟨w1.heap.size, 0, none⟩ = some (.int .i64 w) ∧ w'.cell? ⟨W.heap.size, 2, none⟩ = some (.string c)) (first | exact ⟨y0, x2⟩ | go_keep) (fail)
          go_wp2_with fail
          go_roundw
          case rel => exact ⟨i + 1, by omega, by go_num, by rw [← Hset2.out]; exact (HA.out.drewN _).set_ D _, (HO.out.drewN _).far (by simp) _, (HK.out.drewN _).setCell (.inr (by simp)) _⟩
          case measure => simp [intOf]; omega
      · cases b
        · have e1 := Hb1.out
          have e2 := Hb2.out
          have n1 : (w : Int) - 1 - (x : Int) = (X : Int) := by simp [flipN] at hXe; omega
          obtain rfl : y = Y := by simpa [flipN] using hYe
          clear hXe hYe
          go_wp2_with fail
          go_quiet (fail)
          go_wp2_with fail
          try simp only [ex]
          go_region_held3 (fun w' => w'.cell? ⟨w1.heap.size, 0, none⟩ = some (.int .i64 w) ∧ w'.cell? ⟨W.heap.size, 2, none⟩ = some (.string c)) (first | exact ⟨y0, x2⟩ | go_keep) (fail)
          go_wp2_with fail
          go_roundw
          case rel => exact ⟨i + 1, by omega, by go_num, by rw [← Hset2.out]; exact (HA.out.drewN _).set_ D _, (HO.out.drewN _).far (by simp) _, (HK.out.drewN _).setCell (.inr (by simp)) _⟩
          case measure => simp [intOf]; omega
        · have e1 := Hb1.out
          have e2 := Hb2.out
          have n1 : (w : Int) - 1 - (x : Int) = (X : Int) := by simp [flipN] at hXe; omega
          have n2 : (h : Int) - 1 - (y : Int) = (Y : Int) := by simp [flipN] at hYe; omega
          clear hXe hYe
          go_wp2_with fail
          go_quiet (fail)
          go_wp2_with fail
          try simp only [ex]
          go_region_held3 (fun w' => w'.cell? ⟨w1.heap.size, 0, none⟩ = some (.int .i64 w) ∧ w'.cell? ⟨W.heap.size, 2, none⟩ = some (.string c)) (first | exact ⟨y0, x2⟩ | go_keep) (fail)
          go_wp2_with fail
          go_roundw
          case rel => exact ⟨i + 1, by omega, by go_num, by rw [← Hset2.out]; exact (HA.out.drewN _).set_ D _, (HO.out.drewN _).far (by simp) _, (HK.out.drewN _).setCell (.inr (by simp)) _⟩
          case measure => simp [intOf]; omega
    · obtain rfl : i = c.size := by omega
      obtain ⟨S, hS⟩ : ∃ S : ByteArray, bytes (turnCells false a b w h c.data.toList) = S := ⟨_, rfl⟩
      have hcv : (convert 55 9 (.slice (some ⟨w1.heap.size + 1, 0, none⟩) c.size c.size)).run Try.prog wr = .ok (.string S) wr := by
        have := run_convert_bytes_back (P := Try.prog) wr 55 9 5 ⟨w1.heap.size + 1, 0, none⟩ c.size (turnCells false a b w h c.data.toList) Try.underlying55 Try.underlying5 Try.underlying9 (fun j hj => by
          rw [turnCells_len] at hj
          rw [Addr.add_lit, Nat.zero_add, HA.out.cellv (arrV_get (by have : c.data.toList.length = c.size := rfl; omega)), scat_done Hlen.out rfl hj])
        rw [turnCells_len] at this
        rw [← hS]
        exact this
      have HS := hide hS
      have b1 := B1.out.only HK.out id
      obtain ⟨⟨r0, r1, r2, r3, r4, r5⟩, r6, r7, r8, r9, r10, r11⟩ := b1.six
      clear hS b1
      go_wp2_with fail
      refine bodyPost_ret (v := .tuple #[.agg #[.int .i64 w, .int .i64 h, .string S, .int .i64 t, .string h0, .string h1], .int .i64 0]) (by simp [results, Try.results8, go_sem, r0, r1, r2, r3, r4, r5]) rfl ⟨by rw [Hfin.out, ← HS.out]; rfl, ?_⟩
      have hB := Hb.out.trans ((HK.out.below_ (B := w1.heap.size) (fun _ h => h.elim) (Nat.le_refl _)).mono (by omega))
      have hgo : W.heap.size ≤ w1.heap.size := by omega
      repeat (first | with_reducible exact hB | with_reducible refine below_drew_ ?_ | with_reducible refine below_set1 ?_ _ _ _ | with_reducible refine Below.setCell ?_ (p := ⟨w1.heap.size, _, none⟩) hgo _)
end Go.Proofs.Ytdfegpohmaideaa
/- board.Turned at right positions -/
namespace Go.Proofs.Ytdfegpohmaideaa
open Go.RowKit

set_option maxHeartbeats 4000000 in
set_option maxRecDepth 100000 in
theorem turned_true (w h : Nat) (t : Int) (c h0 h1 : ByteArray) (W : World) (hp : PosOk ⟨w, h, c, t, h0, h1⟩) (k : Nat) (hk : k < 8) (hs : sBit k = true) :
    Calls Try.prog 8 #[.agg #[.int .i64 w, .int .i64 h, .string c, .int .i64 t, .string h0, .string h1], .int .i64 k] W fun e w' => e = .returned (.tuple #[posV (turnP ⟨w, h, c, t, h0, h1⟩ k), .int .i64 0]) ∧ Below W.heap.size W w' := by
  have hsz := hp.size
  have hw1 := hp.w1
  have hw8 := hp.w8
  have hh1 := hp.h1
  have hh8 := hp.h8
  have hlen := hp.len
  simp only [Int.toNat_natCast] at hsz hw1 hw8 hh1 hh8 hlen
  have hm := mul_in hw1 hw8 hh1 hh8
  have l0 : h0.size ≤ 9223372036854775807 := by have := (handB_true.1 hp.hand0).1; have e : h0.data.toList.length = h0.size := rfl; simp only at this; omega
  have l1 : h1.size ≤ 9223372036854775807 := by have := (handB_true.1 hp.hand1).1; have e : h1.data.toList.length = h1.size := rfl; simp only at this; omega
  have hc9 : c.size ≤ 64 := by omega
  have Hc := hide fun W => chk_good w h t c h0 h1 W (by omega) l0 l1 hp
  obtain ⟨v4, hv4, hb4⟩ := and4 k hk
  obtain ⟨v1, hv1, hb1⟩ := and1 k hk
  obtain ⟨v2, hv2, hb2⟩ := and2 k hk
  have d1 : decide ((k : Int) < 0) = false := by simp
  have d2 : decide ((k : Int) > 7) = false := by simp; omega
  have Hlen := hide (show c.size = w * h from hlen)
  rw [hs] at hb4
  obtain ⟨a, ha⟩ : ∃ a, aBit k = a := ⟨_, rfl⟩
  obtain ⟨b, hb⟩ : ∃ b, bBit k = b := ⟨_, rfl⟩
  rw [ha] at hb1
  rw [hb] at hb2
  have Hfin := hide (show turnP ⟨w, h, c, t, h0, h1⟩ k = ⟨h, w, bytes (turnCells true a b w h c.data.toList), t, h0, h1⟩ by simp [turnP, hs, ha, hb])
  have Hb1 := hide hb1
  have Hb2 := hide hb2
  obtain ⟨i0, hi0, iz0, iz1, iz2⟩ := info_parts info_u8
  have hmk := fun W => run_make1 (P := Try.prog) 55 5 i0 (.int .u8 0) Try.underlying55 hi0 iz0 iz1 rfl .i64 .i64 c.size (by rw [iz2]; omega) (by omega) W
  clear hsz hlen hb1 hb2 hs hp hk ha hb hi0 iz0 iz1 iz2
  go_enter Try.func8, Try.ntmps8
  go_wp2_with fail
  refine (Hc.out _).mono ?_
  rintro e w1 ⟨rfl, hbw⟩
  have b0 := ((Blk.new W 24 #[.int .i64 w, .int .i64 h, .string c, .int .i64 t, .string h0, .string h1]).alloc (.cells #[.int .i64 0, .int .i64 0, .string ⟨#[]⟩, .int .i64 0, .string ⟨#[]⟩, .string ⟨#[]⟩] 24)).below hbw (by simp; omega)
  have b1 := (Blk.new (W.alloc (.cells #[.int .i64 w, .int .i64 h, .string c, .int .i64 t, .string h0, .string h1] 24)) 24 #[.int .i64 0, .int .i64 0, .string ⟨#[]⟩, .int .i64 0, .string ⟨#[]⟩, .string ⟨#[]⟩]).below hbw (by simp)
  simp only [World.size_alloc] at b1
  obtain ⟨⟨x0, x1, x2, x3, x4, x5⟩, _⟩ := b0.six
  have hz : W.heap.size + 1 < w1.heap.size := by have := hbw.size; simp at this; omega
  have hz0 : W.heap.size < w1.heap.size := by omega
  have hz2 : ¬ (W.heap.size = w1.heap.size + 1) := by omega
  have hz3 : ¬ (w1.heap.size + 1 = W.heap.size) := by omega
  have B0 := hide b0
  have B1 := hide b1
  have Hb := hide (((below_alloc_ (below_fresh W (.cells #[.int .i64 w, .int .i64 h, .string c, .int .i64 t, .string h0, .string h1] 24)) (Nat.le_refl _) (.cells #[.int .i64 0, .int .i64 0, .string ⟨#[]⟩, .int .i64 0, .string ⟨#[]⟩, .string ⟨#[]⟩] 24))).trans (hbw.mono (by simp; omega)))
  clear b0 b1 hbw
  go_wp2_with fail
  go_region
  go_wp2_with fail
  clear hmk
  go_loopw [41] (fun idx wr => ∃ i : Nat, i ≤ c.size ∧ idx = .int .i64 i ∧ Blk wr (w1.heap.size + 1) 5 (arrV c.size (scat true a b w h i c.data.toList)) ∧ Blk wr w1.heap.size 24 #[.int .i64 h, .int .i64 w, .string c, .int .i64 t, .string h0, .string h1] ∧ Only (fun _ => False) w1 wr) (fun idx _ => c.size - (intOf idx).toNat)
  case atStart =>
    refine ⟨0, by omega, rfl, ?_, Blk.drew ((Blk.new _ _ _).alloc _), Only.drew (((Only.refl _ _).alloc _).alloc _)⟩
    rw [← arrV_replicate c.size (scat true a b w h 0 c.data.toList) (.int .u8 0) (fun j _ => by unfold scat; rw [if_neg (by omega)])]
    refine Blk.drew ?_
    simpa using Blk.new (w1.alloc (.cells #[.int .i64 h, .int .i64 w, .string c, .int .i64 t, .string h0, .string h1] 24)) 5 (Array.replicate c.size (.int .u8 0))
  case round =>
    rename World => wr
    obtain ⟨i, hi, rfl, hA, hO, hK⟩ := hrel
    have q0 := (B0.out.only hK id)
    obtain ⟨⟨x0, x1, x2, x3, x4, x5⟩, -⟩ := q0.six
    obtain ⟨⟨y0, y1, y2, y3, y4, y5⟩, y6, y7, y8, y9, y10, y11⟩ := hO.six
    have HA := hide hA
    have HO := hide hO
    have HK := hide hK
    clear hA hO hK q0
    by_cases hlt : i < c.size
    · have hi2 : i < w * h := by have := Hlen.out; omega
      have hxl := col_lt hi2
      have hyl := row_lt hi2
      have hDn : dstI true a b w h i < c.size := by have := dstI_lt (s := true) (a := a) (b := b) hi2; have := Hlen.out; omega
      have f1 := HA.out.cellv (i := dstI true a b w h i) (arrV_get hDn)
      have f2 := HA.out.free (dstI true a b w h i)
      have Hset := hide (scat_set (s := true) (a := a) (b := b) (l := c.data.toList) (i := i) Hlen.out hlt)
      obtain ⟨x, hx⟩ : ∃ x, i % w = x := ⟨_, rfl⟩
      obtain ⟨y, hy⟩ : ∃ y, i / w = y := ⟨_, rfl⟩
      rw [hx] at hxl
      rw [hy] at hyl
      have ex : (i : Int) % (w : Int) = (x : Int) := by rw [← hx]; rfl
      have ey : (i : Int) / (w : Int) = (y : Int) := by rw [← hy]; rfl
      have ez : ((w : Int) == 0) = false := by simp; omega
      have j1 : (0 : Int) ≤ (i : Int) := by omega
      have j2 : (i : Int) < (c.size : Int) := by omega
      have hD0 : dstI true a b w h i = flipN b w x * h + flipN a h y := by simp [dstI, hx, hy, oW, oH]
      have hX := flipN_lt (f := a) hyl
      have hY := flipN_lt (f := b) hxl
      obtain ⟨X, hXe⟩ : ∃ X, flipN a h y = X := ⟨_, rfl⟩
      obtain ⟨Y, hYe⟩ : ∃ Y, flipN b w x = Y := ⟨_, rfl⟩
      rw [hXe] at hX hD0
      rw [hYe] at hY hD0
      obtain ⟨D, hD⟩ : ∃ D, dstI true a b w h i = D := ⟨_, rfl⟩
      have Hset2 : Hid ((arrV c.size (scat true a b w h i c.data.toList)).setIfInBounds D (.int .u8 (c[i].toNat : Int)) = arrV c.size (scat true a b w h (i + 1) c.data.toList)) := hide (by rw [← hD]; exact Hset.out)
      rw [hD] at f1 f2 hDn hD0
      have m1 : (Y : Int) * (h : Int) + (X : Int) = (D : Int) := by rw [hD0]; simp
      have m2 : 0 ≤ (Y : Int) * (h : Int) := Int.mul_nonneg (by omega) (by omega)
      have m3 : (Y : Int) * (h : Int) ≤ 64 := by omega
      have m6 : IntKind.i64.wrap ((Y : Int) * (h : Int)) = (Y : Int) * (h : Int) := IntWalk.i64_in _ (by omega)
      have m7 : IntKind.i64.wrap (D : Int) = (D : Int) := IntWalk.i64_in _ (by omega)
      have m4 : (0 : Int) ≤ (D : Int) := by omega
      have m5 : (D : Int) < (c.size : Int) := by omega
      clear hx hy hD hD0 Hset hi2
      cases a
      · cases b
        · have e1 := Hb1.out
          have e2 := Hb2.out
          obtain rfl : y = X := by simpa [flipN] using hXe
          obtain rfl : x = Y := by simpa [flipN] using hYe
          clear hXe hYe
          go_wp2_with fail
          go_quiet (fail)
          go_wp2_with fail
          try simp only [ex]
          go_region_held3 (fun w' => w'.cell? ⟨w1.heap.size, 0, none⟩ = some (.int .i64 h) ∧ w'.cell? ⟨W.heap.size, 2, none⟩ = some (.string c)) (first | exact ⟨y0, x2⟩ | go_keep) (fail)
          go_wp2_with fail
          go_roundw
          case rel => exact ⟨i + 1, by omega, by go_num, by rw [← Hset2.out]; exact (HA.out.drewN _).set_ D _, (HO.out.drewN _).far (by simp) _, (HK.out.drewN _).setCell (.inr (by simp)) _⟩
          case measure => simp [intOf]; omega
        · have e1 := Hb1.out
          have e2 := Hb2.out
          obtain rfl : y = X := by simpa [flipN] using hXe
          have n2 : (w : Int) - 1 - (x : Int) = (Y : Int) := by simp [flipN] at hYe; omega
          clear hXe hYe
          go_wp2_with fail
          go_quiet (fail)
          go_wp2_with fail
          try simp only [ex]
          go_region_held3 (fun w' => w'.cell? ⟨w1.heap.size, 0, none⟩ = some (.int .i64 h) ∧ w'.cell? ⟨W.heap.size, 2, none⟩ = some (.string c)) (first | exact ⟨y0, x2⟩ | go_keep) (fail)
          go_wp2_with fail
          go_roundw
          case rel => exact ⟨i + 1, by omega, by go_num, by rw [← Hset2.out]; exact (HA.out.drewN _).set_ D _, (HO.out.drewN _).far (by simp) _, (HK.out.drewN _).setCell (.inr (by simp)) _⟩
          case measure => simp [intOf]; omega
      · cases b
        · have e1 := Hb1.out
          have e2 := Hb2.out
          have n1 : (h : Int) - 1 - (y : Int) = (X : Int) := by simp [flipN] at hXe; omega
          obtain rfl : x = Y := by simpa [flipN] using hYe
          clear hXe hYe
          go_wp2_with fail
          go_quiet (fail)
          go_wp2_with fail
          try simp only [ex]
          go_region_held3 (fun w' => w'.cell? ⟨w1.heap.size, 0, none⟩ = some (.int .i64 h) ∧ w'.cell? ⟨W.heap.size, 2, none⟩ = some (.string c)) (first | exact ⟨y0, x2⟩ | go_keep) (fail)
          go_wp2_with fail
          go_roundw
          case rel => exact ⟨i + 1, by omega, by go_num, by rw [← Hset2.out]; exact (HA.out.drewN _).set_ D _, (HO.out.drewN _).far (by simp) _, (HK.out.drewN _).setCell (.inr (by simp)) _⟩
          case measure => simp [intOf]; omega
        · have e1 := Hb1.out
          have e2 := Hb2.out
          have n1 : (h : Int) - 1 - (y : Int) = (X : Int) := by simp [flipN] at hXe; omega
          have n2 : (w : Int) - 1 - (x : Int) = (Y : Int) := by simp [flipN] at hYe; omega
          clear hXe hYe
          go_wp2_with fail
          go_quiet (fail)
          go_wp2_with fail
          try simp only [ex]
          go_region_held3 (fun w' => w'.cell? ⟨w1.heap.size, 0, none⟩ = some (.int .i64 h) ∧ w'.cell? ⟨W.heap.size, 2, none⟩ = some (.string c)) (first | exact ⟨y0, x2⟩ | go_keep) (fail)
          go_wp2_with fail
          go_roundw
          case rel => exact ⟨i + 1, by omega, by go_num, by rw [← Hset2.out]; exact (HA.out.drewN _).set_ D _, (HO.out.drewN _).far (by simp) _, (HK.out.drewN _).setCell (.inr (by simp)) _⟩
          case measure => simp [intOf]; omega
    · obtain rfl : i = c.size := by omega
      obtain ⟨S, hS⟩ : ∃ S : ByteArray, bytes (turnCells true a b w h c.data.toList) = S := ⟨_, rfl⟩
      have hcv : (convert 55 9 (.slice (some ⟨w1.heap.size + 1, 0, none⟩) c.size c.size)).run Try.prog wr = .ok (.string S) wr := by
        have := run_convert_bytes_back (P := Try.prog) wr 55 9 5 ⟨w1.heap.size + 1, 0, none⟩ c.size (turnCells true a b w h c.data.toList) Try.underlying55 Try.underlying5 Try.underlying9 (fun j hj => by
          rw [turnCells_len] at hj
          rw [Addr.add_lit, Nat.zero_add, HA.out.cellv (arrV_get (by have : c.data.toList.length = c.size := rfl; omega)), scat_done Hlen.out rfl hj])
        rw [turnCells_len] at this
        rw [← hS]
        exact this
      have HS := hide hS
      have b1 := B1.out.only HK.out id
      obtain ⟨⟨r0, r1, r2, r3, r4, r5⟩, r6, r7, r8, r9, r10, r11⟩ := b1.six
      clear hS b1
      go_wp2_with fail
      refine bodyPost_ret (v := .tuple #[.agg #[.int .i64 h, .int .i64 w, .string S, .int .i64 t, .string h0, .string h1], .int .i64 0]) (by simp [results, Try.results8, go_sem, r0, r1, r2, r3, r4, r5]) rfl ⟨by rw [Hfin.out, ← HS.out]; rfl, ?_⟩
      have hB := Hb.out.trans ((HK.out.below_ (B := w1.heap.size) (fun _ h => h.elim) (Nat.le_refl _)).mono (by omega))
      have hgo : W.heap.size ≤ w1.heap.size := by omega
      repeat (first | with_reducible exact hB | with_reducible refine below_drew_ ?_ | with_reducible refine below_set1 ?_ _ _ _ | with_reducible refine Below.setCell ?_ (p := ⟨w1.heap.size, _, none⟩) hgo _)
end Go.Proofs.Ytdfegpohmaideaa
/- board.Turned, of anything -/
namespace Go.Proofs.Ytdfegpohmaideaa
open Go.RowKit

theorem turned_in (w h : Nat) (t : Int) (c h0 h1 : ByteArray) (W : World) (hp : PosOk ⟨w, h, c, t, h0, h1⟩) (k : Nat) (hk : k < 8) :
    Calls Try.prog 8 #[.agg #[.int .i64 w, .int .i64 h, .string c, .int .i64 t, .string h0, .string h1], .int .i64 k] W fun e w' => e = .returned (.tuple #[posV (turnP ⟨w, h, c, t, h0, h1⟩ k), .int .i64 0]) ∧ Below W.heap.size W w' := by
  cases hs : sBit k
  · exact turned_false w h t c h0 h1 W hp k hk hs
  · exact turned_true w h t c h0 h1 W hp k hk hs
end Go.Proofs.Ytdfegpohmaideaa
/- gameref.Round at right positions -/
namespace Go.Proofs.Ytdfegpohmaideaa
open Go.RowKit

theorem bit_eq (n : Nat) : ((n : Int) % 2 == 1) = decide (n % 2 = 1) := by
  rw [Bool.eq_iff_iff]; simp; omega
def bvals (l : List UInt8) : List Value := l.map fun c => .int .u8 (c.toNat : Int)
@[simp] theorem bvals_len (l : List UInt8) : (bvals l).length = l.length := by simp [bvals]
theorem below_setg {a w : World} {g o : Nat} (h : Below a.heap.size a w) (hg : a.heap.size ≤ g) (v : Value) : Below a.heap.size a (w.setCell ⟨g, o, none⟩ v) := h.setCell hg v
theorem bvals_app (l l' : List UInt8) : bvals (l ++ l') = bvals l ++ bvals l' := by simp [bvals]
/-- the bytes of a row of the call's own as a text -/
theorem own_convert {P : Program} {w : World} {base : Nat} {v : Value} {l : List UInt8} {n : Nat} (src dst e : TypeId) (hs : P.underlying src = some (.slice e)) (he : P.underlying e = some (.int .u8)) (hd : P.underlying dst = some .string)
    (hown : w.ownsRow base e 1 v n (bvals l)) (hl : l.length = n) (h0 : 0 < n) : ∃ g cap, v = .slice (some ⟨g, 0, none⟩) n cap ∧ (convert src dst (.slice (some ⟨g, 0, none⟩) n cap)).run P w = .ok (.string (bytes l)) w := by
  obtain ⟨A, c, rfl, hle, hlen, hC⟩ := Cells.of_own hown
  obtain ⟨b, off, rfl, hb, hc⟩ := hC (by rw [bvals_len]; omega)
  have hoff : off = 0 := by
    rcases hown.2 with ⟨h1, _⟩ | ⟨g, cap, cur, h1, _⟩
    · cases h1
    · injection h1 with h1; injection h1 with h1; injection h1
  subst hoff
  refine ⟨b, c, rfl, ?_⟩
  have := run_convert_bytes_back (P := P) w src dst e ⟨b, 0, none⟩ c l hs he hd (fun j hj => by
    rw [Addr.add_lit, hc j (by rw [bvals_len]; exact hj)]
    simp [bvals])
  rw [hl] at this
  exact this
theorem run_make0 {P : Program} (t e : TypeId) (i : TypeInfo) (z : Value) (ht : P.underlying t = some (.slice e)) (hi : P.info? e = some i) (hz : i.zero = some z)
    (hsize : i.size = 1) (hone : z.cells = #[z]) (kl kc : IntKind) (n : Nat) (hbytes : i.bytes * n ≤ 281474976710656) (h63 : n ≤ 9223372036854775807) (w : World) :
    (Instr.makeSlice t (.int kl 0) (.int kc (n : Int))).run P w = .ok (.slice (some ⟨w.heap.size, 0, none⟩) 0 n) (w.alloc (.cells (Array.replicate n z) e)) := by
  have hb : (i.bytes : Int) * (n : Int) ≤ 281474976710656 := by
    have h : ((i.bytes * n : Nat) : Int) ≤ 281474976710656 := by omega
    rwa [Int.natCast_mul] at h
  have hr := run_make (P := P) w t e i z ht hi hz kl kc 0 n (by omega) (by omega) hb (by omega)
  simp only [Int.toNat_natCast, Int.toNat_zero] at hr
  rw [hr]
  have : madeCells z.cells (n * i.size) = Array.replicate n z := by
    rw [hsize, hone]
    apply Array.ext
    · simp [madeCells]
    · intro j h1 h2
      have hj : j % 1 = 0 := Nat.mod_one j
      simp [madeCells, hj]
  rw [this]

end Go.Proofs.Ytdfegpohmaideaa
/- gameref.Round at right positions -/
namespace Go.Proofs.Ytdfegpohmaideaa
open Go.RowKit

end Go.Proofs.Ytdfegpohmaideaa
/- gameref.Round, of anything right; the other player's letters -/
namespace Go.Proofs.Ytdfegpohmaideaa
open Go.RowKit

/-- a position as the other player sees it -/
def otherL (l : List UInt8) : List UInt8 := l.map fun c => UInt8.ofNat (otherN c.toNat)
def exchP (p : Pos) : Pos := ⟨p.w, p.h, bytes (otherL (turnP p 2).cells.data.toList), 1 - p.turn, p.h1, p.h0⟩

set_option maxHeartbeats 1000000 in
set_option maxRecDepth 100000 in
theorem swapped_no (w h t : Int) (c h0 h1 : ByteArray) (W : World) (hc9 : c.size ≤ 9223372036854775807) (l0 : h0.size ≤ 9223372036854775807) (l1 : h1.size ≤ 9223372036854775807) (hno : ¬ PosOk ⟨w, h, c, t, h0, h1⟩) :
    Calls Try.prog 9 #[.agg #[.int .i64 w, .int .i64 h, .string c, .int .i64 t, .string h0, .string h1]] W fun e w' => e = .returned (.tuple #[noPos, .int .i64 1]) ∧ Below W.heap.size W w' := by
  have Ht := hide fun W => turned_no w h t 2 c h0 h1 W hc9 l0 l1 (fun hh => hno hh.1)
  clear hno
  go_enter Try.func9, Try.ntmps9
  go_wp2_with fail
  refine (Ht.out _).mono ?_
  rintro e w1 ⟨rfl, hb1⟩
  have b1 := (Blk.new (W.alloc (.cells #[.int .i64 w, .int .i64 h, .string c, .int .i64 t, .string h0, .string h1] 24)) 24 #[.int .i64 0, .int .i64 0, .string ⟨#[]⟩, .int .i64 0, .string ⟨#[]⟩, .string ⟨#[]⟩]).below hb1 (by simp)
  simp only [World.size_alloc] at b1
  have B1 := hide (b1.alloc (.cells #[.int .i64 0, .int .i64 0, .string ⟨#[]⟩, .int .i64 0, .string ⟨#[]⟩, .string ⟨#[]⟩] 24))
  have B2 := hide (Blk.new w1 24 #[.int .i64 0, .int .i64 0, .string ⟨#[]⟩, .int .i64 0, .string ⟨#[]⟩, .string ⟨#[]⟩])
  have hz : W.heap.size + 1 < w1.heap.size := by have := hb1.size; simp at this; omega
  have Hb := hide (below_alloc0 ((below_alloc0 (below_fresh W (.cells #[.int .i64 w, .int .i64 h, .string c, .int .i64 t, .string h0, .string h1] 24)) (.cells #[.int .i64 0, .int .i64 0, .string ⟨#[]⟩, .int .i64 0, .string ⟨#[]⟩, .string ⟨#[]⟩] 24)).trans (hb1.mono (by simp; omega))) (.cells #[.int .i64 0, .int .i64 0, .string ⟨#[]⟩, .int .i64 0, .string ⟨#[]⟩, .string ⟨#[]⟩] 24))
  clear hb1 b1
  unfold noPos
  go_upto_region 3 with (fail)
  generalize w1.alloc (.cells #[.int .i64 0, .int .i64 0, .string ⟨#[]⟩, .int .i64 0, .string ⟨#[]⟩, .string ⟨#[]⟩] 24) = w2 at *
  generalize w1.heap.size = g at *
  obtain ⟨⟨y0, y1, y2, y3, y4, y5⟩, z0, z1, z2, z3, z4, z5⟩ := B1.out.six
  obtain ⟨⟨x0, x1, x2, x3, x4, x5⟩, -⟩ := B2.out.six
  go_wp2_with fail
  refine bodyPost_ret (v := .tuple #[noPos, .int .i64 1]) (by simp [results, Try.results9, go_sem, noPos, y0, y1, y2, y3, y4, y5]) rfl ⟨rfl, ?_⟩
  repeat (first | with_reducible exact Hb.out | with_reducible refine below_drew_ ?_ | with_reducible refine below_setg ?_ (by omega) _)
end Go.Proofs.Ytdfegpohmaideaa
/- board.Swapped at right positions -/
namespace Go.Proofs.Ytdfegpohmaideaa
open Go.RowKit

/-! A block that is known whole, with what of it is shut. -/
def BlkF (w : World) (g : Nat) (t : TypeId) (fr : Nat × Nat) (cs : Array Value) : Prop := w.heap[g]? = some (.cells cs t fr)
section
variable {w w' : World} {g : Nat} {t : TypeId} {fr : Nat × Nat} {cs : Array Value}
theorem BlkF.lt (h : BlkF w g t fr cs) : g < w.heap.size := (Array.getElem?_eq_some_iff.1 h).1
theorem BlkF.cell (h : BlkF w g t fr cs) (i : Nat) : w.cell? ⟨g, i, none⟩ = cs[i]? := by simp [World.cell?, show w.heap[g]? = _ from h]
theorem BlkF.cellv (h : BlkF w g t fr cs) {i : Nat} {v : Value} (hv : cs[i]? = some v) : w.cell? ⟨g, i, none⟩ = some v := by rw [h.cell, hv]
theorem BlkF.free (h : BlkF w g t fr cs) {i : Nat} (hi : i < fr.1) : w.frozen? ⟨g, i, none⟩ = false := by
  simp [World.frozen?, show w.heap[g]? = _ from h]; omega
theorem BlkF.set_ (h : BlkF w g t fr cs) (i : Nat) (u : Value) : BlkF (w.setCell ⟨g, i, none⟩ u) g t fr (cs.setIfInBounds i u) := by
  simp [BlkF, World.setCell, Array.getElem?_modify, show w.heap[g]? = _ from h]
theorem BlkF.only {S : Nat → Prop} (h : BlkF w g t fr cs) (hb : Only S w w') (hg : ¬ S g) : BlkF w' g t fr cs := (hb.block g h.lt hg).trans h
theorem BlkF.drewN (h : BlkF w g t fr cs) (n : Nat) : BlkF (w.drewN n) g t fr cs := h
end

def byteV (l : List UInt8) (j : Nat) : Value := .int .u8 ((l.getD j 0).toNat : Int)
theorem bytesRow_arr (s : ByteArray) (cap : Nat) (h : s.size ≤ cap) : bytesRow s cap = arrV cap (byteV s.data.toList) := by
  apply Array.ext_getElem?
  intro j
  by_cases hj : j < cap
  · rw [arrV_get hj]
    by_cases hs : j < s.size
    · have : j < s.data.size := hs
      simp [bytesRow, byteV, Array.getElem?_append, hs, List.getD_eq_getElem?_getD]
    · have h2 : s.data.toList[j]? = none := List.getElem?_eq_none (by have : s.data.toList.length = s.size := rfl; omega)
      simp only [bytesRow, byteV, List.getD_eq_getElem?_getD, h2]
      have h3 : (Array.map (fun b : UInt8 => Value.int .u8 (b.toNat : Int)) s.data).size = s.size := by rw [Array.size_map]; rfl
      rw [Array.getElem?_append_right (by rw [h3]; omega), h3, Array.getElem?_replicate, if_pos (by omega)]
      rfl
  · rw [arrV_out hj]
    rw [Array.getElem?_eq_none]
    simp [bytesRow]
    omega

/-- '[]byte(s)' -/
theorem run_bytes_to {P : Program} (w : World) (src dst e : TypeId) (s : ByteArray) (hs : P.underlying src = some .string) (hd : P.underlying dst = some (.slice e)) (he : P.underlying e = some (.int .u8)) :
    ∃ cap w', s.size ≤ cap ∧ (convert src dst (.string s)).run P w = .ok (.slice (some ⟨w.heap.size, 0, none⟩) s.size cap) w' ∧ Only (fun _ => False) w w' ∧ w'.heap.size = w.heap.size + 1 ∧
      BlkF w' w.heap.size e (cap, cap + 1) (arrV cap (byteV s.data.toList)) := by
  refine ⟨grownCap w s.size 0 e, _, ?_, run_bytes_of_string w src dst e s hs hd he, ((Only.refl _ w).drew).alloc _, by simp, ?_⟩
  · exact grownCap_ge _ _ _ _
  · rw [bytesRow_arr _ _ (grownCap_ge _ _ _ _)]
    simp only [arrV_size]
    exact heap_new w.drew _

theorem otherL_get {l : List UInt8} {j : Nat} (h : j < l.length) : ((otherL l)[j]'(by simpa [otherL] using h)).toNat = otherN l[j].toNat := by
  simp only [otherL, List.getElem_map]
  have := otherN_lt (n := l[j].toNat) (UInt8.toNat_lt _)
  simp only [UInt8.toNat_ofNat']
  omega
theorem getD_byte {s : ByteArray} {i : Nat} (h : i < s.size) : s.data.toList.getD i 0 = s[i] := by
  have h2 : i < s.data.toList.length := h
  rw [List.getD_eq_getElem?_getD, List.getElem?_eq_getElem h2]; rfl
/-- the array once the first i letters are the other player's -/
def swapV (l : List UInt8) (i j : Nat) : Value := .int .u8 ((if j < i then otherN (l.getD j 0).toNat else (l.getD j 0).toNat : Nat) : Int)

set_option maxHeartbeats 4000000 in
set_option maxRecDepth 100000 in
theorem swapped_in (w h : Nat) (t : Int) (c h0 h1 : ByteArray) (W : World) (hp : PosOk ⟨w, h, c, t, h0, h1⟩) :
    Calls Try.prog 9 #[.agg #[.int .i64 w, .int .i64 h, .string c, .int .i64 t, .string h0, .string h1]] W fun e w' => e = .returned (.tuple #[posV (exchP ⟨w, h, c, t, h0, h1⟩), .int .i64 0]) ∧ Below W.heap.size W w' := by
  have Ht := hide fun W => turned_in w h t c h0 h1 W hp 2 (by omega)
  obtain ⟨C, hC⟩ : ∃ C, (turnP ⟨w, h, c, t, h0, h1⟩ 2).cells = C := ⟨_, rfl⟩
  have hq : turnP ⟨w, h, c, t, h0, h1⟩ 2 = ⟨w, h, C, t, h0, h1⟩ := by rw [← hC]; rfl
  have hqo := turn_ok hp 2
  rw [hq] at Ht hqo
  have hC64 : C.size ≤ 64 := by
    have h1 := hqo.size
    have h2 := mul_in hqo.w1 hqo.w8 hqo.h1 hqo.h8
    simp only at h1 h2
    omega
  have ht0 := hp.t0
  have ht1 := hp.t1
  simp only at ht0 ht1
  have Hfin := hide (show exchP ⟨w, h, c, t, h0, h1⟩ = ⟨w, h, bytes (otherL C.data.toList), 1 - t, h1, h0⟩ by simp [exchP, hC])
  clear hp hqo hC hq
  go_enter Try.func9, Try.ntmps9
  go_wp2_with fail
  refine (Ht.out _).mono ?_
  rintro e w1 ⟨rfl, hb1⟩
  simp only [posV]
  have b0 := ((Blk.new W 24 #[.int .i64 w, .int .i64 h, .string c, .int .i64 t, .string h0, .string h1]).alloc (.cells #[.int .i64 0, .int .i64 0, .string ⟨#[]⟩, .int .i64 0, .string ⟨#[]⟩, .string ⟨#[]⟩] 24)).below hb1 (by simp; omega)
  have b1 := (Blk.new (W.alloc (.cells #[.int .i64 w, .int .i64 h, .string c, .int .i64 t, .string h0, .string h1] 24)) 24 #[.int .i64 0, .int .i64 0, .string ⟨#[]⟩, .int .i64 0, .string ⟨#[]⟩, .string ⟨#[]⟩]).below hb1 (by simp)
  simp only [World.size_alloc] at b1
  have B0 := hide (b0.alloc (.cells #[.int .i64 w, .int .i64 h, .string C, .int .i64 t, .string h0, .string h1] 24))
  have B1 := hide (b1.alloc (.cells #[.int .i64 w, .int .i64 h, .string C, .int .i64 t, .string h0, .string h1] 24))
  have B2 := hide (Blk.new w1 24 #[.int .i64 w, .int .i64 h, .string C, .int .i64 t, .string h0, .string h1])
  have hz : W.heap.size + 1 < w1.heap.size := by have := hb1.size; simp at this; omega
  have Hb := hide (below_alloc0 ((below_alloc0 (below_fresh W (.cells #[.int .i64 w, .int .i64 h, .string c, .int .i64 t, .string h0, .string h1] 24)) (.cells #[.int .i64 0, .int .i64 0, .string ⟨#[]⟩, .int .i64 0, .string ⟨#[]⟩, .string ⟨#[]⟩] 24)).trans (hb1.mono (by simp; omega))) (.cells #[.int .i64 w, .int .i64 h, .string C, .int .i64 t, .string h0, .string h1] 24))
  have hz2 : w1.heap.size + 1 = (w1.alloc (.cells #[.int .i64 w, .int .i64 h, .string C, .int .i64 t, .string h0, .string h1] 24)).heap.size := by simp
  clear hb1 b0 b1
  go_upto_region 4 with (fail)
  generalize w1.alloc (.cells #[.int .i64 w, .int .i64 h, .string C, .int .i64 t, .string h0, .string h1] 24) = w2 at *
  generalize w1.heap.size = g at *
  obtain ⟨⟨x0, x1, x2, x3, x4, x5⟩, -⟩ := B2.out.six
  obtain ⟨cap, w3, hcap, hcv, hO3, hs3, hA3⟩ := run_bytes_to (P := Try.prog) w2 9 55 5 C Try.underlying9 Try.underlying55 Try.underlying5
  have HA3 := hide hA3
  have HO3 := hide hO3
  have Hs3 := hide hs3
  clear hA3 hO3 hs3
  obtain ⟨gA, hgA⟩ : ∃ gA, w2.heap.size = gA := ⟨_, rfl⟩
  rw [hgA] at hz2 hcv HA3
  have HgA := hide hgA
  clear hgA
  go_wp2_with fail
  clear hcv x0 x1 x2 x3 x4 x5
  go_loopw [23] (fun idx wr => ∃ i : Nat, i ≤ C.size ∧ idx = .int .i64 i ∧ BlkF wr gA 5 (cap, cap + 1) (arrV cap (swapV C.data.toList i)) ∧ Only (fun k => k = gA) w3 wr) (fun idx _ => C.size - (intOf idx).toNat)
  case atStart =>
    refine ⟨0, by omega, rfl, ?_, Only.refl _ _⟩
    have he : arrV cap (swapV C.data.toList 0) = arrV cap (byteV C.data.toList) := by
      congr 1
    rw [he]
    exact HA3.out
  case round =>
    rename World => wr
    obtain ⟨i, hi, rfl, hA, hK⟩ := hrel
    have HA := hide hA
    have HK := hide hK
    clear hA hK
    by_cases hlt : i < C.size
    · have f1 := HA.out.cellv (i := i) (arrV_get (by omega))
      have f2 := HA.out.free (i := i) (show i < cap by omega)
      have f3 : swapV C.data.toList i i = .int .u8 (C[i].toNat : Int) := by
        unfold swapV
        rw [if_neg (by omega), getD_byte hlt]
      rw [f3] at f1
      have j1 : (0 : Int) ≤ (i : Int) := by omega
      have j2 : (i : Int) < (C.size : Int) := by omega
      have Hset := hide (show (arrV cap (swapV C.data.toList i)).setIfInBounds i (.int .u8 (otherN C[i].toNat : Int)) = arrV cap (swapV C.data.toList (i + 1)) by
        refine arrV_set _ _ _ _ _ ?_ ?_
        · unfold swapV
          rw [if_pos (by omega), getD_byte hlt]
        · intro j hj hne
          unfold swapV
          by_cases h2 : j < i
          · rw [if_pos h2, if_pos (by omega)]
          · rw [if_neg h2, if_neg (by omega)])
      have Hot := hide fun W => other_any C[i].toNat W
      clear f3
      go_wp2_with (first | (go_at_call 21; refine (Hot.out _).mono ?_; rintro e w' ⟨rfl, rfl⟩) | fail)
      go_roundw
      case rel => exact ⟨i + 1, by omega, by go_num, by rw [← Hset.out]; exact HA.out.set_ i _, HK.out.setCell (.inl rfl) _⟩
      case measure => simp [intOf]; omega
    · obtain rfl : i = C.size := by omega
      have hg3 : g < w3.heap.size := by have := Hs3.out; have := HgA.out; omega
      have hK := HK.out
      have c0 := (B0.out.only HO3.out id).only hK (by have := HgA.out; omega)
      have c1 := (B1.out.only HO3.out id).only hK (by have := HgA.out; omega)
      have c2 := (B2.out.only HO3.out id).only hK (by have := HgA.out; omega)
      obtain ⟨⟨p0, p1, p2, p3, p4, p5⟩, -⟩ := c0.six
      obtain ⟨⟨r0, r1, r2, r3, r4, r5⟩, r6, r7, r8, r9, r10, r11⟩ := c1.six
      obtain ⟨⟨x0, x1, x2, x3, x4, x5⟩, x6, x7, x8, x9, x10, x11⟩ := c2.six
      obtain ⟨S, hS⟩ : ∃ S : ByteArray, bytes (otherL C.data.toList) = S := ⟨_, rfl⟩
      have hcv : (convert 55 9 (.slice (some ⟨gA, 0, none⟩) C.size cap)).run Try.prog wr.drew = .ok (.string S) wr.drew := by
        have := run_convert_bytes_back (P := Try.prog) wr.drew 55 9 5 ⟨gA, 0, none⟩ cap (otherL C.data.toList) Try.underlying55 Try.underlying5 Try.underlying9 (fun j hj => by
          have hj2 : j < C.data.toList.length := by simpa [otherL] using hj
          have hj3 : j < C.size := hj2
          rw [Addr.add_lit, Nat.zero_add, show wr.drew.cell? _ = wr.cell? _ from rfl, HA.out.cellv (arrV_get (by omega)), otherL_get hj2]
          unfold swapV
          rw [if_pos hj3, getD_byte hj3]
          rfl)
        have hl : (otherL C.data.toList).length = C.size := by simp only [otherL, List.length_map]; rfl
        rw [hl, show (⟨(otherL C.data.toList).toArray⟩ : ByteArray) = S from hS] at this
        exact this
      have HS := hide hS
      have hzg : ¬ (W.heap.size = g) := by omega
      have hzg1 : ¬ (W.heap.size + 1 = g) := by omega
      have hsub : IntKind.i64.wrap (1 - t) = 1 - t := IntWalk.i64_in _ (by omega)
      have hB := Hb.out.trans (((HO3.out.mono (fun _ _ h => h.elim)).trans hK).below_ (fun k h => by subst h; exact Nat.le_refl _) (by have := HgA.out; omega) |>.mono (by have := HgA.out; omega))
      have HB := hide hB
      clear c0 c1 c2 hS hK hB
      go_wp2_with fail
      go_big_region
      clear hcv
      go_wp2_with fail
      refine bodyPost_ret (v := .tuple #[.agg #[.int .i64 w, .int .i64 h, .string S, .int .i64 (1 - t), .string h1, .string h0], .int .i64 0]) (by simp [results, Try.results9, go_sem, r0, r1, r2, r3, r4, r5]) rfl ⟨by rw [Hfin.out, ← HS.out]; rfl, ?_⟩
      repeat (first | with_reducible exact HB.out | with_reducible refine below_drew_ ?_ | with_reducible refine below_setg ?_ (by omega) _)
end Go.Proofs.Ytdfegpohmaideaa
/- gameref.Exchanged at right positions -/
namespace Go.Proofs.Ytdfegpohmaideaa
open Go.RowKit

theorem bytes_append (a b : List UInt8) : bytes a ++ bytes b = bytes (a ++ b) := by
  apply bytes_eq
  show (bytes a ++ bytes b).data.toList = a ++ b
  simp [bytes]

end Go.Proofs.Ytdfegpohmaideaa
/- board.Least: the order of positions -/
namespace Go.Proofs.Ytdfegpohmaideaa
open Go.RowKit


set_option maxHeartbeats 1000000 in
set_option maxRecDepth 100000 in
theorem or_any (x y z : Int) (g : Nat) (w : World) (c0 : w.cell? ⟨g, 0, none⟩ = some (.int .i64 x)) (c1 : w.cell? ⟨g, 1, none⟩ = some (.int .i64 y)) (c2 : w.cell? ⟨g, 2, none⟩ = some (.int .i64 z)) :
    Calls Try.prog 51 #[.slice (some ⟨g, 0, none⟩) 3 3] w fun e w' => e = .returned (.int .i64 (or3 x y z)) ∧ w' = w := by
  have C0 := hide c0
  have C1 := hide c1
  have C2 := hide c2
  clear c0 c1 c2
  go_enter Try.func51, Try.ntmps51
  go_wp2_with fail
  go_loop [8] (fun idx => ∃ k : Nat, k ≤ 3 ∧ idx = .int .i64 k ∧ (0 < k → x = 0) ∧ (1 < k → y = 0) ∧ (2 < k → z = 0)) (fun idx => 3 - (intOf idx).toNat)
  case atStart => exact ⟨0, by omega, rfl, by omega, by omega, by omega⟩
  case round =>
    obtain ⟨k, hk, rfl, h1, h2, h3⟩ := hrel
    have H1 := hide h1
    have H2 := hide h2
    have H3 := hide h3
    clear h1 h2 h3
    by_cases k0 : k = 0
    · subst k0
      have e0 := C0.out
      by_cases hx : x = 0
      · have q : (x != 0) = false := by simp [hx]
        have Hx := hide hx
        clear hx
        go_wp2_with fail
        go_round
        case rel => exact ⟨1, by omega, rfl, fun _ => Hx.out, by omega, by omega⟩
        case measure => simp [intOf]
      · have q : (x != 0) = true := by simp [hx]
        have hf := hide (show x = or3 x y z by simp [or3, hx])
        clear hx
        go_wp2_with fail
        go_ret
        exact ⟨ret_int hf.out, rfl⟩
    · by_cases k1 : k = 1
      · subst k1
        have e1 := C1.out
        by_cases hy : y = 0
        · have q : (y != 0) = false := by simp [hy]
          have Hy := hide hy
          clear hy
          go_wp2_with fail
          go_round
          case rel => exact ⟨2, by omega, rfl, fun _ => H1.out (by omega), fun _ => Hy.out, by omega⟩
          case measure => simp [intOf]
        · have q : (y != 0) = true := by simp [hy]
          have hf := hide (show y = or3 x y z by rw [H1.out (by omega)]; simp [or3, hy])
          clear hy
          go_wp2_with fail
          go_ret
          exact ⟨ret_int hf.out, rfl⟩
      · by_cases k2 : k = 2
        · subst k2
          have e2 := C2.out
          by_cases hz : z = 0
          · have q : (z != 0) = false := by simp [hz]
            have Hz := hide hz
            clear hz
            go_wp2_with fail
            go_round
            case rel => exact ⟨3, by omega, rfl, fun _ => H1.out (by omega), fun _ => H2.out (by omega), fun _ => Hz.out⟩
            case measure => simp [intOf]
          · have q : (z != 0) = true := by simp [hz]
            have hf := hide (show z = or3 x y z by rw [H1.out (by omega), H2.out (by omega)]; simp [or3])
            clear hz
            go_wp2_with fail
            go_ret
            exact ⟨ret_int hf.out, rfl⟩
        · obtain rfl : k = 3 := by omega
          have hf := hide (show 0 = or3 x y z by rw [H1.out (by omega), H2.out (by omega), H3.out (by omega)]; simp [or3])
          go_wp2_with fail
          go_ret
          exact ⟨ret_int hf.out, rfl⟩

theorem Blk.put6 {w : World} {g : Nat} {t : TypeId} {a b c d e f : Value} (h : Blk w g t #[a, b, c, d, e, f]) (a' b' c' d' e' f' : Value) :
    Blk ((((((w.setCell ⟨g, 0, none⟩ a').setCell ⟨g, 1, none⟩ b').setCell ⟨g, 2, none⟩ c').setCell ⟨g, 3, none⟩ d').setCell ⟨g, 4, none⟩ e').setCell ⟨g, 5, none⟩ f') g t #[a', b', c', d', e', f'] :=
  (((((h.set_ 0 a').set_ 1 b').set_ 2 c').set_ 3 d').set_ 4 e').set_ 5 f'
theorem only_put6 {S : Nat → Prop} {w0 w : World} {g : Nat} (h : Only S w0 w) (hg : S g ∨ w0.heap.size ≤ g) (a' b' c' d' e' f' : Value) :
    Only S w0 ((((((w.setCell ⟨g, 0, none⟩ a').setCell ⟨g, 1, none⟩ b').setCell ⟨g, 2, none⟩ c').setCell ⟨g, 3, none⟩ d').setCell ⟨g, 4, none⟩ e').setCell ⟨g, 5, none⟩ f') :=
  (((((h.setCell hg a').setCell hg b').setCell hg c').setCell hg d').setCell hg e').setCell hg f'
theorem below_put6 {B : Nat} {w0 w : World} {g : Nat} (h : Below B w0 w) (hg : B ≤ g) (a' b' c' d' e' f' : Value) :
    Below B w0 ((((((w.setCell ⟨g, 0, none⟩ a').setCell ⟨g, 1, none⟩ b').setCell ⟨g, 2, none⟩ c').setCell ⟨g, 3, none⟩ d').setCell ⟨g, 4, none⟩ e').setCell ⟨g, 5, none⟩ f') :=
  (((((h.setCell hg a').setCell hg b').setCell hg c').setCell hg d').setCell hg e').setCell hg f'
def posCl (p : Pos) : Array Value := #[.int .i64 p.w, .int .i64 p.h, .string p.cells, .int .i64 p.turn, .string p.h0, .string p.h1]
def zeroC : Array Value := #[.int .i64 0, .int .i64 0, .string ⟨#[]⟩, .int .i64 0, .string ⟨#[]⟩, .string ⟨#[]⟩]
/-- what is known at the head of a round -/
def LstRel (p : Pos) (ks : List Nat) (g : Nat) (i : Nat) (wv : Value) (w : World) : Prop :=
  (i = 0 ∧ wv = .int .i64 (-1) ∧ Blk w g 24 zeroC) ∨ (0 < i ∧ wv = .int .i64 (leastK p (ks.take i)) ∧ Blk w g 24 (posCl (turnP p (leastK p (ks.take i)))))

end Go.Proofs.Ytdfegpohmaideaa
/- Turns are a group: plain. -/
namespace Go.Proofs.Ytdfegpohmaideaa

theorem flipN_two {f g : Bool} {n x : Nat} (h : x < n) : flipN f n (flipN g n x) = flipN (f ^^ g) n x := by
  cases f <;> cases g <;> simp [flipN] <;> omega

/-- one turn behind the other -/
def compK (a b : Nat) : Nat := if sBit b then ((((a ^^^ b) &&& 4) ||| (((a &&& 1) * 2) ||| ((a &&& 2) / 2))) ^^^ (b &&& 3)) else a ^^^ b
theorem compK_bits : ∀ a, a < 8 → ∀ b, b < 8 → compK a b < 8 ∧ sBit (compK a b) = (sBit b ^^ sBit a) ∧
    aBit (compK a b) = (aBit b ^^ (if sBit b then bBit a else aBit a)) ∧ bBit (compK a b) = (bBit b ^^ (if sBit b then aBit a else bBit a)) := by decide
theorem compK_onto : ∀ a, a < 8 → ∀ k, k < 8 → ∃ j, j < 8 ∧ compK a j = k := by decide

theorem src_two (sa aa ba sb ab bb : Bool) (w h j : Nat) (hj : j < w * h) :
    srcI sa aa ba w h (srcI sb ab bb (oW sa w h) (oH sa w h) j) = srcI (sb ^^ sa) (ab ^^ (if sb then ba else aa)) (bb ^^ (if sb then aa else ba)) w h j := by
  have hj' : j < h * w := by rw [Nat.mul_comm]; exact hj
  have c1 := col_lt hj
  have r1 := row_lt hj
  have c2 := col_lt hj'
  have r2 := row_lt hj'
  cases sa <;> cases sb <;> simp only [srcI, oW, oH, Bool.false_eq_true, if_false, if_true, Bool.xor_false, Bool.xor_true, Bool.not_false, Bool.not_true] at *
  · have x1 := flipN_lt (f := ab) c1
    rw [mod_cell x1, div_cell x1, flipN_two c1, flipN_two r1, Bool.xor_comm aa, Bool.xor_comm ba]
  · have y1 := flipN_lt (f := bb) r2
    rw [mod_cell y1, div_cell y1, flipN_two c2, flipN_two r2, Bool.xor_comm aa, Bool.xor_comm ba]
  · have x1 := flipN_lt (f := ab) c2
    rw [mod_cell x1, div_cell x1, flipN_two c2, flipN_two r2, Bool.xor_comm aa, Bool.xor_comm ba]
  · have y1 := flipN_lt (f := bb) r1
    rw [mod_cell y1, div_cell y1, flipN_two c1, flipN_two r1, Bool.xor_comm aa, Bool.xor_comm ba]
theorem turn_two {p : Pos} (hp : PosOk p) {a b : Nat} (ha : a < 8) (hb : b < 8) : turnP (turnP p a) b = turnP p (compK a b) := by
  obtain ⟨_, e1, e2, e3⟩ := compK_bits a ha b hb
  have hl := hp.len
  have hw : (turnP p a).w.toNat = oW (sBit a) p.w.toNat p.h.toNat := by unfold turnP oW; simp only; split <;> rfl
  have hh : (turnP p a).h.toNat = oH (sBit a) p.w.toNat p.h.toNat := by unfold turnP oH; simp only; split <;> rfl
  have hcells : (turnP (turnP p a) b).cells = (turnP p (compK a b)).cells := by
    apply bytes_eq
    show turnCells (sBit b) (aBit b) (bBit b) (turnP p a).w.toNat (turnP p a).h.toNat (turnP p a).cells.data.toList = turnCells (sBit (compK a b)) (aBit (compK a b)) (bBit (compK a b)) p.w.toNat p.h.toNat p.cells.data.toList
    have hx : (turnP p a).cells.data.toList = turnCells (sBit a) (aBit a) (bBit a) p.w.toNat p.h.toNat p.cells.data.toList := rfl
    rw [hx, hw, hh, e1, e2, e3]
    have hl1 : (turnCells (sBit a) (aBit a) (bBit a) p.w.toNat p.h.toNat p.cells.data.toList).length = oW (sBit a) p.w.toNat p.h.toNat * oH (sBit a) p.w.toNat p.h.toNat := by rw [turnCells_len, oWH, hl]
    apply List.ext_getElem
    · simp
    · intro j h1 h2
      have hj : j < p.cells.data.toList.length := by simpa using h1
      rw [turnCells_get hl1 (by rw [turnCells_len]; exact hj), turnCells_get hl hj]
      have hs : srcI (sBit b) (aBit b) (bBit b) (oW (sBit a) p.w.toNat p.h.toNat) (oH (sBit a) p.w.toNat p.h.toNat) j < p.cells.data.toList.length := by
        rw [hl, ← oWH (s := sBit a)]; exact srcI_lt (by rw [oWH]; omega)
      rw [turnCells_get hl hs]
      congr 1
      exact src_two _ _ _ _ _ _ _ _ _ (by omega)
  have hq : ∀ x y : Pos, x.w = y.w → x.h = y.h → x.cells = y.cells → x.turn = y.turn → x.h0 = y.h0 → x.h1 = y.h1 → x = y := by
    rintro ⟨⟩ ⟨⟩ h1 h2 h3 h4 h5 h6
    simp only at *
    subst h1 h2 h3 h4 h5 h6
    rfl
  apply hq
  · show (if sBit b then (turnP p a).h else (turnP p a).w) = (if sBit (compK a b) then p.h else p.w)
    rw [e1]
    show (if sBit b then (if sBit a then p.w else p.h) else (if sBit a then p.h else p.w)) = _
    cases sBit b <;> cases sBit a <;> simp
  · show (if sBit b then (turnP p a).w else (turnP p a).h) = (if sBit (compK a b) then p.w else p.h)
    rw [e1]
    show (if sBit b then (if sBit a then p.h else p.w) else (if sBit a then p.w else p.h)) = _
    cases sBit b <;> cases sBit a <;> simp
  · exact hcells
  · rfl
  · rfl
  · rfl

def all8 : List Nat := [0, 1, 2, 3, 4, 5, 6, 7]
theorem all8_mem {k : Nat} : k ∈ all8 ↔ k < 8 := by
  simp only [all8, List.mem_cons, List.not_mem_nil, or_false]
  omega
theorem least_turn {p : Pos} (hp : PosOk p) {a : Nat} (ha : a < 8) : turnP (turnP p a) (leastK (turnP p a) all8) = turnP p (leastK p all8) := by
  obtain ⟨m1, h1⟩ := leastK_least p (ks := all8) (by simp [all8])
  obtain ⟨m2, h2⟩ := leastK_least (turnP p a) (ks := all8) (by simp [all8])
  have k1 := all8_mem.1 m1
  have k2 := all8_mem.1 m2
  have e2 := turn_two hp ha k2
  obtain ⟨j, hj, hje⟩ := compK_onto a ha (leastK p all8) k1
  have e1 := turn_two hp ha hj
  rw [hje] at e1
  have n1 : ¬ ltP (turnP (turnP p a) (leastK (turnP p a) all8)) (turnP p (leastK p all8)) := by
    rw [e2]; exact h1 _ (all8_mem.2 (compK_bits a ha _ k2).1)
  have n2 : ¬ ltP (turnP p (leastK p all8)) (turnP (turnP p a) (leastK (turnP p a) all8)) := by
    rw [← e1]; exact h2 _ (all8_mem.2 hj)
  obtain ⟨q1, q2, q3⟩ := ltP_total n1 n2
  have hq : ∀ x y : Pos, x.w = y.w → x.h = y.h → x.cells = y.cells → x.turn = y.turn → x.h0 = y.h0 → x.h1 = y.h1 → x = y := by
    rintro ⟨⟩ ⟨⟩ h1 h2 h3 h4 h5 h6
    simp only at *
    subst h1 h2 h3 h4 h5 h6
    rfl
  exact hq _ _ q1 q2 q3 rfl rfl rfl
end Go.Proofs.Ytdfegpohmaideaa
/- Bits of small numbers. -/
namespace Go.Proofs.Ytdfegpohmaideaa
open Go.RowKit

theorem bit_nat (c : Nat) (hc : c < 4294967296) : (BitVec.ofInt 64 (c : Int)).toNat = c := by
  rw [BitVec.ofInt_natCast, BitVec.toNat_ofNat]; exact Nat.mod_eq_of_lt (by omega)
theorem bxor (a b : Nat) (ha : a < 4294967296) (hb : b < 4294967296) : bits .xor .i64 (a : Int) (b : Int) = ((a ^^^ b : Nat) : Int) := by
  have hx : a ^^^ b < 2 ^ 63 := Nat.xor_lt_two_pow (by omega) (by omega)
  show IntKind.i64.wrap ((BitVec.ofInt 64 (a : Int) ^^^ BitVec.ofInt 64 (b : Int)).toNat : Int) = _
  rw [BitVec.toNat_xor, bit_nat a ha, bit_nat b hb, IntKind.wrap_i64]
  omega
theorem band (a b : Nat) (ha : a < 4294967296) (hb : b < 4294967296) : bits .and .i64 (a : Int) (b : Int) = ((a &&& b : Nat) : Int) := by
  have hx : a &&& b < 2 ^ 63 := Nat.and_lt_two_pow _ (by omega)
  show IntKind.i64.wrap ((BitVec.ofInt 64 (a : Int) &&& BitVec.ofInt 64 (b : Int)).toNat : Int) = _
  rw [BitVec.toNat_and, bit_nat a ha, bit_nat b hb, IntKind.wrap_i64]
  omega
theorem bor (a b : Nat) (ha : a < 4294967296) (hb : b < 4294967296) : bits .or .i64 (a : Int) (b : Int) = ((a ||| b : Nat) : Int) := by
  have hx : a ||| b < 2 ^ 63 := Nat.or_lt_two_pow (by omega) (by omega)
  show IntKind.i64.wrap ((BitVec.ofInt 64 (a : Int) ||| BitVec.ofInt 64 (b : Int)).toNat : Int) = _
  rw [BitVec.toNat_or, bit_nat a ha, bit_nat b hb, IntKind.wrap_i64]
  omega

theorem group_bits {a b : Nat} (ha : a < 8) (hb : b < 8) : ∃ X1 X2 A1 A2 B4 B3 O1 O2 : Nat, bits .xor .i64 (a : Int) (b : Int) = (X1 : Int) ∧ bits .and .i64 (b : Int) 4 = (B4 : Int) ∧ decide (0 < B4) = sBit b ∧
    bits .and .i64 (X1 : Int) 4 = (X2 : Int) ∧ bits .and .i64 (a : Int) 1 = (A1 : Int) ∧ A1 ≤ 1 ∧ bits .and .i64 (a : Int) 2 = (A2 : Int) ∧ A2 ≤ 2 ∧ bits .or .i64 ((A1 : Int) * 2) ((A2 : Int) / 2) = (O1 : Int) ∧
    bits .or .i64 (X2 : Int) (O1 : Int) = (O2 : Int) ∧ bits .and .i64 (b : Int) 3 = (B3 : Int) ∧ (sBit b = true → bits .xor .i64 (O2 : Int) (B3 : Int) = (compK a b : Int)) ∧ (sBit b = false → X1 = compK a b) := by
  have key : ∀ a, a < 8 → ∀ b, b < 8 → a ^^^ b < 8 ∧ decide (0 < b &&& 4) = sBit b ∧ a &&& 1 ≤ 1 ∧ a &&& 2 ≤ 2 ∧ ((a ^^^ b) &&& 4) < 8 ∧ ((a &&& 1) * 2 ||| (a &&& 2) / 2) < 8 ∧ b &&& 3 < 8 := by decide
  obtain ⟨k1, k2, k3, k4, k5, k6, k7⟩ := key a ha b hb
  have ho2 : ((a ^^^ b) &&& 4) ||| ((a &&& 1) * 2 ||| (a &&& 2) / 2) < 8 := Nat.or_lt_two_pow (n := 3) (by omega) (by omega)
  refine ⟨a ^^^ b, (a ^^^ b) &&& 4, a &&& 1, a &&& 2, b &&& 4, b &&& 3, (a &&& 1) * 2 ||| (a &&& 2) / 2, ((a ^^^ b) &&& 4) ||| ((a &&& 1) * 2 ||| (a &&& 2) / 2),
    bxor a b (by omega) (by omega), band b 4 (by omega) (by omega), k2, band _ 4 (by omega) (by omega), band a 1 (by omega) (by omega), k3, band a 2 (by omega) (by omega), k4, ?_, bor _ _ (by omega) (by omega), band b 3 (by omega) (by omega), fun hs => ?_, fun hs => ?_⟩
  · have := bor ((a &&& 1) * 2) ((a &&& 2) / 2) (by omega) (by omega)
    simpa using this
  · rw [bxor _ _ (by omega) (by omega)]
    simp [compK, hs]
  · simp [compK, hs]
end Go.Proofs.Ytdfegpohmaideaa
/- For gamekeep.BoardGroup: contracts at positions; exchanged twice it is as it was -/
namespace Go.Proofs.Ytdfegpohmaideaa
open Go.RowKit

theorem pos_ext : ∀ x y : Pos, x.w = y.w → x.h = y.h → x.cells = y.cells → x.turn = y.turn → x.h0 = y.h0 → x.h1 = y.h1 → x = y := by
  rintro ⟨⟩ ⟨⟩ h1 h2 h3 h4 h5 h6
  simp only at *
  subst h1 h2 h3 h4 h5 h6
  rfl
theorem otherN_otherN (n : Nat) : otherN (otherN n) = n := by
  unfold otherN
  by_cases hu : upB n = true
  · have h := upB_lt hu
    rw [if_pos hu, if_neg (by rw [upB_f (by omega)]; simp), if_pos (lowB_t (by omega) (by omega))]
    omega
  · rw [if_neg hu]
    by_cases hl : lowB n = true
    · have h := lowB_lt hl
      rw [if_pos hl, if_pos (upB_t (by omega) (by omega))]
      omega
    · rw [if_neg hl, if_neg hu, if_neg hl]
theorem otherL_len (l : List UInt8) : (otherL l).length = l.length := by simp [otherL]
theorem otherL_otherL (l : List UInt8) : otherL (otherL l) = l := by
  apply List.ext_getElem
  · simp [otherL]
  · intro j h1 h2
    apply UInt8.toNat_inj.1
    rw [otherL_get (by rw [otherL_len]; exact h2), otherL_get h2, otherN_otherN]
theorem otherL_turn {s a b : Bool} {w h : Nat} {l : List UInt8} (hl : l.length = w * h) : otherL (turnCells s a b w h l) = turnCells s a b w h (otherL l) := by
  apply List.ext_getElem
  · simp [otherL]
  · intro j h1 h2
    have hj : j < l.length := by simpa [otherL] using h1
    rw [turnCells_get (by rw [otherL_len]; exact hl) (by rw [otherL_len]; exact hj)]
    simp only [otherL, List.getElem_map]
    rw [turnCells_get hl hj]
theorem turn_none {p : Pos} (hp : PosOk p) : turnP p 0 = p := by
  refine pos_ext _ _ rfl rfl (bytes_eq ?_) rfl rfl rfl
  show turnCells false false false p.w.toNat p.h.toNat p.cells.data.toList = p.cells.data.toList
  have hl := hp.len
  apply List.ext_getElem
  · simp
  · intro j h1 h2
    rw [turnCells_get hl h2]
    congr 1
    simp only [srcI, oW, oH, flipN, Bool.false_eq_true, if_false]
    exact cell_back
theorem exch_ok {p : Pos} (hp : PosOk p) : PosOk (exchP p) := by
  have ht := turn_ok hp 2
  obtain ⟨a1, a2, a3, a4, a5, a6, a7, a8, a9, a10⟩ := hp
  obtain ⟨b1, b2, b3, b4, b5, b6, b7, b8, b9, b10⟩ := ht
  refine ⟨a1, a2, a3, a4, ?_, by simp only [exchP]; omega, by simp only [exchP]; omega, a9, a8, ?_⟩
  · have : (exchP p).cells.size = (turnP p 2).cells.size := by
      simp only [exchP, bytes_size, otherL_len]; rfl
    rw [this]; exact b5
  · intro j hj
    have hj2 : j < (turnP p 2).cells.data.toList.length := by simpa [exchP, otherL] using hj
    have h1 := b10 j hj2
    show cellB ((otherL (turnP p 2).cells.data.toList)[j]'(by rw [otherL_len]; exact hj2)).toNat = true
    rw [otherL_get hj2]
    revert h1
    generalize (turnP p 2).cells.data.toList[j].toNat = n
    intro h1
    simp only [cellB, decide_eq_true_eq] at h1 ⊢
    unfold otherN
    by_cases hu : upB n = true
    · have := upB_lt hu
      rw [if_pos hu]; exact .inr (.inr (lowB_t (by omega) (by omega)))
    · rw [if_neg hu]
      by_cases hl : lowB n = true
      · have := lowB_lt hl
        rw [if_pos hl]; exact .inr (.inl (upB_t (by omega) (by omega)))
      · rw [if_neg hl]; exact h1
theorem exch_exch {p : Pos} (hp : PosOk p) : exchP (exchP p) = p := by
  have hl := hp.len
  have h2 := turn_two hp (a := 2) (b := 2) (by omega) (by omega)
  have h0 : compK 2 2 = 0 := by decide
  rw [h0, turn_none hp] at h2
  have hc := congrArg (fun q : Pos => q.cells.data.toList) h2
  refine pos_ext _ _ rfl rfl (bytes_eq ?_) (by simp only [exchP]; omega) rfl rfl
  show otherL (turnCells false false true p.w.toNat p.h.toNat (otherL (turnCells false false true p.w.toNat p.h.toNat p.cells.data.toList))) = p.cells.data.toList
  rw [← otherL_turn (by rw [turnCells_len, hl]), otherL_otherL]
  exact hc

section
variable (w h t : Int) (c h0 h1 : ByteArray) (W : World)
theorem turned_at (hp : PosOk ⟨w, h, c, t, h0, h1⟩) (k : Nat) (hk : k < 8) :
    Calls Try.prog 8 #[.agg #[.int .i64 w, .int .i64 h, .string c, .int .i64 t, .string h0, .string h1], .int .i64 k] W fun e w' => e = .returned (.tuple #[posV (turnP ⟨w, h, c, t, h0, h1⟩ k), .int .i64 0]) ∧ Below W.heap.size W w' := by
  obtain ⟨wn, rfl⟩ : ∃ n : Nat, w = n := ⟨w.toNat, by have := hp.w1; simp only at this; omega⟩
  obtain ⟨hn, rfl⟩ : ∃ n : Nat, h = n := ⟨h.toNat, by have := hp.h1; simp only at this; omega⟩
  exact turned_in wn hn t c h0 h1 W hp k hk
theorem swapped_at (hp : PosOk ⟨w, h, c, t, h0, h1⟩) :
    Calls Try.prog 9 #[.agg #[.int .i64 w, .int .i64 h, .string c, .int .i64 t, .string h0, .string h1]] W fun e w' => e = .returned (.tuple #[posV (exchP ⟨w, h, c, t, h0, h1⟩), .int .i64 0]) ∧ Below W.heap.size W w' := by
  obtain ⟨wn, rfl⟩ : ∃ n : Nat, w = n := ⟨w.toNat, by have := hp.w1; simp only at this; omega⟩
  obtain ⟨hn, rfl⟩ : ∃ n : Nat, h = n := ⟨h.toNat, by have := hp.h1; simp only at this; omega⟩
  exact swapped_in wn hn t c h0 h1 W hp
end

theorem run_eq_hands (a0 a1 b0 b1 : ByteArray) (w : World) : (Op.equalIn 9999 22 (.agg #[.string a0, .string a1]) (.agg #[.string b0, .string b1])).run Try.prog w = .ok (a0.toList == b0.toList && a1.toList == b1.toList) w := by
  rw [show (9999 : Nat) = 9998 + 1 from rfl]
  unfold Op.equalIn
  simp only [Sem.run_bind, run_underlying Try.underlying22, Result.andThen_ok]
  go_simp
  rw [show List.range' 0 2 = [0, 1] from rfl]
  simp only [List.forIn_cons, List.forIn_nil]
  go_simp
  by_cases h0 : a0.toList = b0.toList <;> by_cases h1 : a1.toList = b1.toList <;> simp [h0, h1]

def cells8 : Array Value := #[.int .i64 0, .int .i64 1, .int .i64 2, .int .i64 3, .int .i64 4, .int .i64 5, .int .i64 6, .int .i64 7]
theorem pos_csize {p : Pos} (hp : PosOk p) : p.cells.size ≤ 9223372036854775807 := by
  have h1 := hp.size
  have h2 := mul_in hp.w1 hp.w8 hp.h1 hp.h8
  omega
end Go.Proofs.Ytdfegpohmaideaa
