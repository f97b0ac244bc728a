/- gameref.Ranks: the points of one player; rows of three in a slice of the call's own -/
import Derived.Test.YtfoehijlafooaaaRkPlain
import Derived.Test.YtfoehijlafooaaaSumsKit
import Derived.BigRegion
namespace Go.Proofs.Ytfoehijlafooaaa
open Go.RowKit

theorem ptsR_step {rs : List Res} {k : Nat} (hk : k < rs.length) (p : Int) : ptsR (rs.take (k + 1)) p = ptsR (rs.take k) p + pt1 rs[k] p := by rw [take_one rs k hk, ptsR_append, ptsR_one]
theorem othR_step (f : Int → Int) {rs : List Res} {k : Nat} (hk : k < rs.length) (p : Int) : othR f (rs.take (k + 1)) p = othR f (rs.take k) p + ot1 f rs[k] p := by rw [take_one rs k hk, othR_append, othR_one]
theorem good_of_take {n : Int} {rs : List Res} (h : ∀ r ∈ rs, ResGood n r) (k : Nat) : ∀ r ∈ rs.take k, ResGood n r := fun r hr => h r (List.mem_of_mem_take hr)

set_option maxHeartbeats 2000000 in
set_option maxRecDepth 100000 in
theorem points_any (n : Int) (p bx : Nat) (A : Option Addr) (c : Nat) (rs : List Res) (w : World) (B0 : Nat) (hbx : w.cell? ⟨bx, 0, none⟩ = some (.slice A rs.length c)) (hA : Cells w B0 A (ints (flatR rs))) (hok : ResOk n rs) :
    Calls Try.prog 71 #[.int .i64 p, .pointer (some ⟨bx, 0, none⟩)] w fun e w' => e = .returned (.int .i64 (ptsR rs p)) ∧ w' = w := by
  have HA := hide hA
  have Hok := hide hok
  have hL := hok.1
  clear hA hok
  go_enter Try.func71, Try.ntmps71
  go_wp2_with fail
  go_loop [4, 5] (fun sm idx => ∃ k : Nat, k ≤ rs.length ∧ idx = .int .i64 k ∧ sm = .int .i64 (ptsR (rs.take k) p)) (fun sm idx => rs.length - (intOf idx).toNat)
  case atStart => exact ⟨0, by omega, rfl, by simp [ptsR]⟩
  case round =>
    obtain ⟨k, hk, rfl, rfl⟩ := hrel
    by_cases hlt : k < rs.length
    · obtain ⟨b, off, rfl, hb, c1, c2, c3⟩ := res_at HA.out hlt
      have hg := Hok.out.2 _ (List.getElem_mem hlt)
      have hst := ptsR_step hlt (p : Int)
      have hbn := ptsR_bnd (good_of_take Hok.out.2 k) (p : Int)
      rw [List.length_take] at hbn
      obtain ⟨r, hr⟩ : ∃ r, rs[k] = r := ⟨_, rfl⟩
      rw [hr] at c1 c2 c3 hg hst
      clear hr
      obtain ⟨x, y, h⟩ := r
      obtain ⟨g1, g2, g3, g4, g5, g6, g7⟩ := hg
      simp only at c1 c2 c3 g1 g2 g3 g4 g5 g6 g7
      obtain ⟨s, hs⟩ : ∃ s, ptsR (rs.take k) (p : Int) = s := ⟨_, rfl⟩
      rw [hs] at hbn hst ⊢
      have hbn2 : s ≤ 20000 := by omega
      have Hst := hide hst
      clear hs hst
      by_cases hx : x = (p : Int)
      · have e1 : (x == (p : Int)) = true := by simp [hx]
        have e2 : (y == (p : Int)) = false := by simp; omega
        have Hf := hide (show s + h = ptsR (rs.take (k + 1)) p by rw [Hst.out]; unfold pt1; simp only; rw [if_pos hx, if_neg (by omega)]; omega)
        clear hx
        go_wp2_with fail
        go_round
        case rel => exact ⟨k + 1, by omega, by go_num, by rw [Hf.out]⟩
        case measure => simp [intOf]; omega
      · have e1 : (x == (p : Int)) = false := by simp [hx]
        by_cases hy : y = (p : Int)
        · have e2 : (y == (p : Int)) = true := by simp [hy]
          have Hf := hide (show s + (2 - h) = ptsR (rs.take (k + 1)) p by rw [Hst.out]; unfold pt1; simp only; rw [if_neg hx, if_pos hy]; omega)
          clear hx hy
          go_wp2_with fail
          go_round
          case rel => exact ⟨k + 1, by omega, by go_num, by rw [Hf.out]⟩
          case measure => simp [intOf]; omega
        · have e2 : (y == (p : Int)) = false := by simp [hy]
          have Hf := hide (show s = ptsR (rs.take (k + 1)) p by rw [Hst.out]; unfold pt1; simp only; rw [if_neg hx, if_neg hy]; omega)
          clear hx hy
          go_wp2_with fail
          go_round
          case rel => exact ⟨k + 1, by omega, by go_num, by rw [← Hf.out]⟩
          case measure => simp [intOf]; omega
    · obtain rfl : k = rs.length := by omega
      rw [List.take_length]
      go_wp2_with fail
      go_ret
      exact ⟨rfl, rfl⟩

/-- a store into a row of the call's own -/
theorem ownsRow_set {w : World} {base : Nat} {e : TypeId} {size g n c : Nat} {xs : List Value} (h : w.ownsRow base e size (.slice (some ⟨g, 0, none⟩) n c) n xs) (i : Nat) (u : Value) :
    (w.setCell ⟨g, i, none⟩ u).ownsRow base e size (.slice (some ⟨g, 0, none⟩) n c) n (xs.set i u) := by
  obtain ⟨h1, h2⟩ := h
  refine ⟨by rw [List.length_set]; exact h1, ?_⟩
  rcases h2 with ⟨h3, _⟩ | ⟨g', cap, cur, hv, hbg, hg, hnc, hcm, hcs, htake⟩
  · cases h3
  · injection hv with hv1 hv2 hv3
    injection hv1 with hv1
    injection hv1 with hv1
    subst hv1
    subst hv3
    refine .inr ⟨g, c, cur.setIfInBounds i u, rfl, hbg, ?_, hnc, hcm, by simpa using hcs, ?_⟩
    · exact (show Blk w g e cur from hg).set_ i u
    · rw [← htake, Array.toList_setIfInBounds, List.take_set]
theorem ownsRow_blk {w : World} {base : Nat} {e : TypeId} {size g n c : Nat} {xs : List Value} (h : w.ownsRow base e size (.slice (some ⟨g, 0, none⟩) n c) n xs) : ∃ cs, Blk w g e cs ∧ ∀ j, j < xs.length → cs[j]? = xs[j]? := by
  obtain ⟨h1, h2⟩ := h
  rcases h2 with ⟨h3, _⟩ | ⟨g', cap, cur, hv, hbg, hg, hnc, hcm, hcs, htake⟩
  · cases h3
  · injection hv with hv1 hv2 hv3
    injection hv1 with hv1
    injection hv1 with hv1
    subst hv1
    refine ⟨cur, hg, fun j hj => ?_⟩
    rw [← htake, List.getElem?_take, ← Array.getElem?_toList]
    have : j < n * size := by omega
    rw [if_pos this]
theorem flat_set (l : List Res) (j : Nat) (hj : j < l.length) (r : Res) : (((ints (flatR l)).set (j * 3) (.int .i64 r.a)).set (j * 3 + 1) (.int .i64 r.b)).set (j * 3 + 2) (.int .i64 r.h) = ints (flatR (l.set j r)) := by
  have hlen : (ints (flatR l)).length = l.length * 3 := by rw [ints_length, flatR_len]
  apply List.ext_getElem
  · simp [ints_length, flatR_len]
  · intro i h1 h2
    have hi : i < l.length * 3 := by simpa [ints_length, flatR_len] using h2
    have h3 : i / 3 < l.length := by omega
    rw [ints_get]
    simp only [List.getElem_set]
    obtain ⟨f0, f1, f2⟩ := flatR_get (l.set j r) (i / 3) (by simpa using h3)
    obtain ⟨g0, g1, g2⟩ := flatR_get l (i / 3) h3
    have hl2 : i < (flatR (l.set j r)).length := by rw [flatR_len, List.length_set]; exact hi
    have hl1 : i < (flatR l).length := by rw [flatR_len]; exact hi
    simp only [List.getElem_set] at f0 f1 f2
    have h4 : i % 3 = 0 ∨ i % 3 = 1 ∨ i % 3 = 2 := by omega
    by_cases e : j = i / 3
    · subst e
      simp only [if_true] at f0 f1 f2
      rcases h4 with h4 | h4 | h4
      · have q : i / 3 * 3 = i := by omega
        simp only [q] at f0
        rw [List.getElem?_eq_getElem hl2] at f0
        injection f0 with f0
        rw [f0, if_neg (by omega), if_neg (by omega), if_pos q]
      · have q : i / 3 * 3 + 1 = i := by omega
        simp only [q] at f1
        rw [List.getElem?_eq_getElem hl2] at f1
        injection f1 with f1
        rw [f1, if_neg (by omega), if_pos q]
      · have q : i / 3 * 3 + 2 = i := by omega
        simp only [q] at f2
        rw [List.getElem?_eq_getElem hl2] at f2
        injection f2 with f2
        rw [f2, if_pos q]
    · simp only [if_neg e] at f0 f1 f2
      rw [if_neg (by omega), if_neg (by omega), if_neg (by omega), ints_get]
      congr 1
      rcases h4 with h4 | h4 | h4
      · have q : i / 3 * 3 = i := by omega
        simp only [q] at f0 g0
        rw [List.getElem?_eq_getElem hl2] at f0
        rw [List.getElem?_eq_getElem hl1] at g0
        injection f0 with f0; injection g0 with g0
        rw [f0, g0]
      · have q : i / 3 * 3 + 1 = i := by omega
        simp only [q] at f1 g1
        rw [List.getElem?_eq_getElem hl2] at f1
        rw [List.getElem?_eq_getElem hl1] at g1
        injection f1 with f1; injection g1 with g1
        rw [f1, g1]
      · have q : i / 3 * 3 + 2 = i := by omega
        simp only [q] at f2 g2
        rw [List.getElem?_eq_getElem hl2] at f2
        rw [List.getElem?_eq_getElem hl1] at g2
        injection f2 with f2; injection g2 with g2
        rw [f2, g2]
theorem putAt_swap (x : Res) (L : List Res) {k : Nat} (hk : k < L.length) : ((putAt x L (k + 1)).set (k + 1) L[k]).set k x = putAt x L k := by
  apply List.ext_getElem
  · simp [putAt]; omega
  · intro i h1 h2
    have hlen : (putAt x L (k + 1)).length = L.length + 1 := putAt_len _ _ (by omega)
    have hi : i < L.length + 1 := by simpa [hlen] using h1
    simp only [List.getElem_set, putAt, List.getElem_append, List.length_take, List.getElem_take, List.getElem_cons, List.getElem_drop]
    by_cases e1 : k = i
    · subst e1
      rw [if_pos rfl, dif_neg (by omega), dif_pos (by omega)]
    · rw [if_neg e1]
      by_cases e2 : k + 1 = i
      · subst e2
        rw [if_pos rfl, dif_neg (by omega), dif_neg (by omega)]
        congr 1
        omega
      · rw [if_neg e2]
        by_cases e3 : i < k
        · rw [dif_pos (by omega), dif_pos (by omega)]
        · rw [dif_neg (by omega), dif_neg (by omega), dif_neg (by omega), dif_neg (by omega)]
          congr 1
          omega
theorem putAt_at (x : Res) (L : List Res) {k : Nat} (hk : k ≤ L.length) (h : k < (putAt x L k).length) : (putAt x L k)[k] = x := by
  simp only [putAt, List.getElem_append, List.length_take]
  rw [dif_neg (by omega)]
  simp [Nat.min_eq_left hk]
theorem putAt_before (x : Res) (L : List Res) {k j : Nat} (hk : k ≤ L.length) (hj : j < k) (h : j < (putAt x L k).length) : (putAt x L k)[j] = L[j] := by
  simp only [putAt, List.getElem_append, List.length_take]
  rw [dif_pos (by omega), List.getElem_take]
theorem putAt_end (x : Res) (L : List Res) : putAt x L L.length = L ++ [x] := by simp [putAt]
theorem flatR_snoc (L : List Res) (x : Res) : ints (flatR (L ++ [x])) = ints (flatR L) ++ [.int .i64 x.a, .int .i64 x.b, .int .i64 x.h] := by simp [flatR, ints]
end Go.Proofs.Ytfoehijlafooaaa
