/- gameref.Solutions -/
import Derived.Test.YtfoehijlafooaaaDoorPzRefFrom
import Derived.Test.YtfoehijlafooaaaDoorPzSolve
namespace Go.Proofs.YtfoehijlafooaaaDoor
open Go.RowKit

theorem own_cellsG {w : World} {base : Nat} {v : Value} {l : List Int} (h : w.ownsRow base 3 1 v l.length (ints l)) (hn : 0 < l.length) :
    ∃ g cap, v = .slice (some ⟨g, 0, none⟩) l.length cap ∧ base ≤ g ∧ g < w.heap.size ∧ l.length ≤ cap ∧ CellsG w g l := by
  obtain ⟨h1, h2⟩ := h
  rcases h2 with ⟨rfl, h3⟩ | ⟨g, cap, cur, rfl, hbg, hg, hnc, hcm, hcs, htake⟩
  · rw [h3] at hn; omega
  · refine ⟨g, cap, rfl, hbg, (Array.getElem?_eq_some_iff.1 hg).1, hnc, ⟨cur, hg, fun j hj => ?_⟩⟩
    have h5 : cur.toList[j]? = (ints l)[j]? := by
      rw [← htake, List.getElem?_take, if_pos (by omega)]
    rw [← Array.getElem?_toList, h5, List.getElem?_eq_getElem (by simpa using hj), ints_get, gat_get hj]

set_option maxHeartbeats 8000000 in
set_option maxRecDepth 100000 in
theorem solutions_any (r k most : Nat) (A : Option Addr) (c : Nat) (cells : List Int) (W : World) (hr : 0 < r) (hk : 0 < k) (hr3 : r ≤ 3) (hk3 : k ≤ 3) (hl : cells.length = r * k * (r * k)) (hin : ∀ j, j < cells.length → 0 ≤ gat cells j ∧ gat cells j ≤ (r * k : Nat))
    (hm : most ≤ 100) (hA : Cells W W.heap.size A (ints cells)) :
    Calls Tryd.prog 9 #[.int .i64 r, .int .i64 k, .slice A cells.length c, .int .i64 most] W fun e w' =>
      ∃ A' c', e = .returned (.slice A' (answers r k cells most).length c') ∧ (answers r k cells most).length ≤ c' ∧ Rows2 w' w'.heap.size A' (answers r k cells most) ∧ Below W.heap.size W w' := by
  have hn9 : r * k ≤ 9 := Nat.le_trans (Nat.mul_le_mul hr3 hk3) (by decide)
  have hn0 : 0 < r * k := Nat.mul_pos hr hk
  have hN81 : cells.length ≤ 81 := by rw [hl]; exact Nat.mul_le_mul hn9 hn9
  have hN0 : 0 < cells.length := by rw [hl]; exact Nat.mul_pos hn0 hn0
  obtain ⟨i1, hi1⟩ := info_pint
  have Hi1 := hide hi1
  obtain ⟨b, off, rfl, hbA, hcA⟩ := hA (by simpa using hN0)
  have HcA := hide hcA
  have HF := hide (fun w (hb : Below W.heap.size W w) => fits_any r k (some ⟨b, off, none⟩) c cells w W.heap.size hr hk hr3 hk3 hN81 (hA.below hb))
  have Hin := hide hin
  have Hl := hide hl
  obtain ⟨fb, hfb⟩ : ∃ fb, fitsG r k cells = fb := ⟨_, rfl⟩
  rw [hfb] at HF
  cases fb
  case false =>
    have Hans := hide (show answers r k cells most = [] by unfold answers; rw [hfb]; rfl)
    clear hi1 hcA hA hin hl hfb
    go_enter Tryd.func9, Tryd.ntmps9
    go_wp2_with (go_at_call 12; refine (HF.out _ (by repeat (first | exact Below.refl _ _ | refine below_alloc0 ?_ _))).mono ?_; rintro e w2 ⟨rfl, m2, rfl⟩)
    go_ret
    refine ⟨none, 0, ?_, ?_, ?_, ?_⟩
    · rw [Hans.out]; rfl
    · rw [Hans.out]; exact Nat.le_refl _
    · rw [Hans.out]; exact ⟨[], rfl, Cells.nil_, fun k h => by simp at h⟩
    · refine below_drewN ?_ _
      repeat (first | exact Below.refl _ _ | refine below_alloc0 ?_ _)
  have Hans := hide (show answers r k cells most = addT most [] (solsF r k 0 cells) by unfold answers; rw [if_pos hfb])
  clear hi1 hcA hA hin hl hfb
  go_enter Tryd.func9, Tryd.ntmps9
  go_wp2_with (first
    | (go_at_call 12; refine (HF.out _ (by repeat (first | exact Below.refl _ _ | refine below_alloc0 ?_ _))).mono ?_; rintro e w2 ⟨rfl, m2, rfl⟩)
    | (at_builtin; refine wpList_append_own _ rfl (.const (.slice none 0 0)) (.tmp 17) 22 rfl (W.heap.size + 5) 3 i1 (.int .i64 0) 1 8 Tryd.underlying22 Hi1.out.1 Hi1.out.2.1 Hi1.out.2.2.1 Hi1.out.2.2.2 rfl (by decide) (.slice none 0 0) 0 [] rfl (World.ownsRow_nil _ _ _ _) ⟨b, off, none⟩ cells.length c (ints cells) rfl (by simp) ?hnews (by simp [ints, Value.oneCell']) ?h63 ?hb ?hbase ?_))
  case hnews =>
    intro j u hu
    obtain ⟨hj, hju⟩ := List.getElem?_eq_some_iff.1 hu
    have hb : ∀ X, Below W.heap.size W X → X.cell? ⟨b, off + j, none⟩ = some u := fun X hX => by rw [hX.cell hbA, HcA.out j hj, hju]
    rw [Addr.add_lit]
    refine hb _ ?_
    repeat (first | exact Below.refl _ _ | refine below_alloc0 ?_ _ | refine below_drewN ?_ _)
  case h63 => unfold maxLen; omega
  case hb => omega
  case hbase => simp [go_sem]
  intro v3 w3 hown3 hg3 _
  obtain ⟨gn, cap, rfl, hgb, hgl, -, hcg⟩ := own_cellsG hown3 hN0
  have hB3 : Below W.heap.size W w3 := by
    have hB2 := grown_below (B := W.heap.size) hg3 (by simp [go_sem]; omega) nofun
    refine Below.trans ?_ hB2
    repeat (first | exact Below.refl _ _ | refine below_alloc0 ?_ _ | refine below_drewN ?_ _)
  have hB5 := below_alloc0 (below_alloc0 hB3 (.cells #[.slice (some ⟨gn, 0, none⟩) cells.length cap] 22)) (.cells #[.func (.func 14) #[] #[.pointer (some ⟨W.heap.size + 1 + 1 + 1 + 1, 0, none⟩), .pointer (some ⟨W.heap.size + 1 + 1 + 1, 0, none⟩), .pointer (some ⟨w3.heap.size, 0, none⟩), .pointer (some ⟨W.heap.size + 1 + 1, 0, none⟩), .pointer (some ⟨w3.heap.size + 1, 0, none⟩), .pointer (some ⟨W.heap.size, 0, none⟩), .pointer (some ⟨W.heap.size + 1, 0, none⟩)]] 35)
  have hR : RSol ((w3.alloc (.cells #[.slice (some ⟨gn, 0, none⟩) cells.length cap] 22)).alloc (.cells #[.func (.func 14) #[] #[.pointer (some ⟨W.heap.size + 1 + 1 + 1 + 1, 0, none⟩), .pointer (some ⟨W.heap.size + 1 + 1 + 1, 0, none⟩), .pointer (some ⟨w3.heap.size, 0, none⟩), .pointer (some ⟨W.heap.size + 1 + 1, 0, none⟩), .pointer (some ⟨w3.heap.size + 1, 0, none⟩), .pointer (some ⟨W.heap.size, 0, none⟩), .pointer (some ⟨W.heap.size + 1, 0, none⟩)]] 35)) ⟨W.heap.size + 1 + 1 + 1 + 1, W.heap.size + 1 + 1 + 1, w3.heap.size, W.heap.size + 1 + 1, w3.heap.size + 1, W.heap.size, W.heap.size + 1, gn⟩ (w3.heap.size + 2) r k cap most (some ⟨b, off, none⟩) c cells cells (.slice none 0 0) [] := by
    refine ⟨?_, ?_, ?_, ?_, ?_, ?_, ?_, fun j hj => ⟨b, off, rfl, by simp only; omega, (hB5.cell hbA).trans ?_⟩, (hcg.alloc _).alloc _, OutAt.nil_ _ _, ?_⟩
    · refine Blk.alloc (Blk.alloc (Blk.grown ?_ hg3 nofun) _) _
      repeat (first | (refine Blk.new' ?_; simp [go_sem]; done) | refine Blk.alloc ?_ _ | refine Blk.drewN ?_ _)
    · refine Blk.alloc (Blk.alloc (Blk.grown ?_ hg3 nofun) _) _
      repeat (first | (refine Blk.new' ?_; simp [go_sem]; done) | refine Blk.alloc ?_ _ | refine Blk.drewN ?_ _)
    · exact (Blk.new w3 _ _).alloc _
    · refine Blk.alloc (Blk.alloc (Blk.grown ?_ hg3 nofun) _) _
      repeat (first | (refine Blk.new' ?_; simp [go_sem]; done) | refine Blk.alloc ?_ _ | refine Blk.drewN ?_ _)
    · exact Blk.new' (by simp [go_sem])
    · refine Blk.alloc (Blk.alloc (Blk.grown ?_ hg3 nofun) _) _
      repeat (first | (refine Blk.new' ?_; simp [go_sem]; done) | refine Blk.alloc ?_ _ | refine Blk.drewN ?_ _)
    · refine Blk.alloc (Blk.alloc (Blk.grown ?_ hg3 nofun) _) _
      repeat (first | (refine Blk.new' ?_; simp [go_sem]; done) | refine Blk.alloc ?_ _ | refine Blk.drewN ?_ _)
    · have h1 := HcA.out j (by simpa using hj)
      rw [ints_get, ← gat_get hj] at h1
      exact h1
    · simp [go_sem]
  have hRG : RefG ⟨W.heap.size + 1 + 1 + 1 + 1, W.heap.size + 1 + 1 + 1, w3.heap.size, W.heap.size + 1 + 1, w3.heap.size + 1, W.heap.size, W.heap.size + 1, gn⟩ (w3.heap.size + 2) := by
    refine ⟨?_, ?_, fun b hb => ?_, ?_, ⟨?_, ?_, ?_⟩, ⟨?_, ?_, ?_⟩, ⟨?_, ?_, ?_⟩, ⟨?_, ?_, ?_⟩, ⟨?_, ?_, ?_⟩, ⟨?_, ?_, ?_⟩⟩ <;> simp only at * <;> omega
  have hF := ref_any _ _ r k cap most c (some ⟨b, off, none⟩) cells hr hk hr3 hk3 hRG Hl.out (fun j hj => (Hin.out j hj).1) hm (cells.length + 1) 0 cells [] _ _ (by omega) (by omega) rfl (fun j _ => rfl) hR (by simp)
  have e0 : ((0 : Nat) : Int) = 0 := rfl
  rw [e0, ← Hans.out] at hF
  have HFn := hide hF
  have HB5 := hide hB5
  clear hF hR hB5 hB3 hown3 hcg hg3 e0 HcA Hi1
  go_wp2_with (go_at_call 14; refine HFn.out.mono ?_; rintro e w6 ⟨rfl, ⟨v6, hW6⟩, hO6⟩; have x6 := hW6.boxO.cell 0; simp at x6)
  go_ret
  obtain ⟨A', c', rfl, hle, hrows⟩ := hW6.o.rows2
  refine ⟨A', c', rfl, hle, hrows, HB5.out.trans (hO6.below_ (B := W.heap.size) (fun b hb => ?_) HB5.out.size)⟩
  rcases hb with e | e | e
  · rw [e]; simp only; omega
  · rw [e]; simp only; omega
  · omega
end Go.Proofs.YtfoehijlafooaaaDoor
