/- gamekeep.TourneySums: walked. -/
import Derived.Test.YtfoehijlafooaaaSumsPlain
import Derived.Test.YtfoehijlafooaaaSumsKit
import Derived.Test.YtfoehijlafooaaaTabGood
import Derived.Test.YtfoehijlafooaaaSameRk
namespace Go.Proofs.Ytfoehijlafooaaa
open Go.RowKit Go.Shelf Go.Lib Go.Sort

theorem info_res3 : ∃ i : TypeInfo, Try.prog.info? 72 = some i ∧ i.zero = some (.agg #[.int .i64 0, .int .i64 0, .int .i64 0]) ∧ i.size = 3 ∧ i.bytes = 24 := by
  have h : (Try.prog.info? 72).map (fun i => (i.zero, i.size, i.bytes)) = some (some (.agg #[.int .i64 0, .int .i64 0, .int .i64 0]), 3, 24) := by kernel_rfl
  cases hi : Try.prog.info? 72 with
  | none => rw [hi] at h; simp at h
  | some i => rw [hi] at h; simp at h; exact ⟨i, rfl, h.1, h.2.1, h.2.2⟩
theorem flatK_flatR (l : List Rk) : (flatK encRk 3 l.toArray).toList = ints (flatR (l.map rkR)) := by
  apply List.ext_getElem
  · simp [ints_length, flatR_len]
  · intro i h1 h2
    rw [ints_length, flatR_len, List.length_map] at h2
    have hi : i / 3 < (l.map rkR).length := by rw [List.length_map]; omega
    have hl : i / 3 < l.toArray.size := by simpa using hi
    have hf := get_flatK encRk 3 l.toArray i (by simpa using h2)
    rw [getElem!_pos (flatK encRk 3 l.toArray) i (by simpa using h2), getElem!_pos l.toArray (i / 3) hl] at hf
    rw [Array.getElem_toList, hf, ints_get]
    obtain ⟨f0, f1, f2⟩ := flatR_get (l.map rkR) (i / 3) hi
    have e1 : (l.map rkR)[i / 3] = rkR l[i / 3] := by simp
    rw [e1] at f0 f1 f2
    have e2 : l.toArray[i / 3] = l[i / 3] := by simp
    rw [e2]
    have hk3 : i % 3 = 0 ∨ i % 3 = 1 ∨ i % 3 = 2 := by omega
    have hlen : i < (flatR (l.map rkR)).length := by rw [flatR_len, List.length_map]; omega
    rcases hk3 with h3 | h3 | h3
    · have q : i / 3 * 3 = i := by omega
      simp only [q] at f0
      rw [List.getElem?_eq_getElem hlen] at f0
      injection f0 with f0
      rw [h3, f0]; rfl
    · have q : i / 3 * 3 + 1 = i := by omega
      simp only [q] at f1
      rw [List.getElem?_eq_getElem hlen] at f1
      injection f1 with f1
      rw [h3, f1]; rfl
    · have q : i / 3 * 3 + 2 = i := by omega
      simp only [q] at f2
      rw [List.getElem?_eq_getElem hlen] at f2
      injection f2 with f2
      rw [h3, f2]; rfl
theorem tab_cells {w : World} {g n : Nat} {rs : List Res} (h : HoldsK encRk 3 w g 0 (tabR n rs).toArray) (hg : g < w.heap.size) : Cells w w.heap.size (some ⟨g, 0, none⟩) (ints (flatR ((tabR n rs).map rkR))) := fun hn => by
  refine ⟨g, 0, rfl, hg, fun k hk => ?_⟩
  have e := flatK_flatR (tabR n rs)
  have hk2 : k < (flatK encRk 3 (tabR n rs).toArray).size := by
    rw [← Array.length_toList, e]; exact hk
  have h1 := h k hk2
  simp only [id] at h1
  rw [h1.1]
  congr 1
  rw [getElem!_pos (flatK encRk 3 (tabR n rs).toArray) k hk2, ← Array.getElem_toList]
  simp only [e]

set_option maxHeartbeats 4000000 in
set_option maxRecDepth 100000 in
theorem sums_bad (n : Int) (A : Option Addr) (c : Nat) (rs : List Res) (t : Int) (W : World) (hl : rs.length ≤ 9223372036854775807) (hA : Cells W W.heap.size A (ints (flatR rs))) (hbad : n < 0 ∨ 200 < n ∨ ¬ ResOk n rs) :
    Calls Try.prog 11 #[.int .i64 n, .slice A rs.length c, .int .i64 t] W fun e w' => e = .returned (.bool true) ∧ Below W.heap.size W w' := by
  have HA := hide hA
  have Hbad := hide hbad
  clear hA hbad
  go_enter Try.func11, Try.ntmps11
  go_wp2_with (go_at_call 35; refine (table_bad n A c rs W hl HA.out Hbad.out).mono ?_; rintro e w2 ⟨rfl, hb2⟩)
  go_ret
  exact ⟨rfl, hb2⟩

set_option maxHeartbeats 8000000 in
set_option maxRecDepth 100000 in
theorem sums_good (n : Nat) (A : Option Addr) (c : Nat) (rs : List Res) (t : Int) (W : World) (hA : Cells W W.heap.size A (ints (flatR rs))) (hn : n ≤ 200) (hok : ResOk n rs) (ht : InR t) :
    Calls Try.prog 11 #[.int .i64 n, .slice A rs.length c, .int .i64 t] W fun e w' => e = .returned (.bool true) ∧ Below W.heap.size W w' := by
  have HA := hide hA
  have Hok := hide hok
  have hL := hok.1
  have HT := hide (table_good n A c rs W hA hn hok)
  clear hA hok
  obtain ⟨ii, hii⟩ := info_res3
  have Hii := hide hii
  clear hii
  obtain ⟨ht1, ht2⟩ := ht
  go_enter Try.func11, Try.ntmps11
  go_wp2_with (go_at_call 35; refine HT.out.mono ?_; rintro e w2 ⟨g, rfl, hb2, hgW, hg2, hh2⟩)
  have HA2 := hide (HA.out.below hb2)
  have HG2 := hide (tab_cells hh2 hg2)
  have Hb2 := hide hb2
  have hbs := hb2.size
  clear hb2 hh2 HT HA
  go_wp2_with fail
  go_loopw [9, 28] (fun v idx wr => ∃ k : Nat, k ≤ rs.length ∧ idx = .int .i64 k ∧ wr.ownsRow w2.heap.size 72 3 v k (ints (flatR ((turnedR rs t).take k))) ∧ Below w2.heap.size w2 wr) (fun v idx _ => rs.length - (intOf idx).toNat)
  case atStart => exact ⟨0, by omega, rfl, by simpa [flatR, ints] using World.ownsRow_nil _ _ _ _, Below.refl _ _⟩
  case round =>
    rename World => wr
    obtain ⟨k, hk, rfl, hown, hb⟩ := hrel
    have Hown := hide hown
    have Hb := hide hb
    clear hown
    by_cases hlt : k < rs.length
    · have hL0 : 0 < rs.length := by omega
      obtain ⟨j, hj⟩ : ∃ j, rotR rs.length t k = j := ⟨_, rfl⟩
      have hrot := rotR_eq hL0 t k
      have hjl := rotR_lt hL0 t k
      have hnx := turned_take (rs := rs) (t := t) hlt
      rw [hj] at hrot hjl hnx
      rw [getElem!_pos rs j hjl] at hnx
      obtain ⟨bA, oA, rfl, hbA, c1, c2, c3⟩ := res_at ((HA2.out.more hbs).below hb) hjl
      obtain ⟨r, hr⟩ : ∃ r, rs[j] = r := ⟨_, rfl⟩
      rw [hr] at c1 c2 c3 hnx
      have hg := Hok.out.2 _ (List.getElem_mem hjl)
      rw [hr] at hg
      have Hnx := hide hnx
      clear hnx hr hj
      obtain ⟨x, y, h⟩ := r
      simp only at c1 c2 c3
      have htm := tmod_bnd t hL0
      have Hg := hide hg
      clear hg hb
      by_cases hev : t.tmod 2 = 0
      · have hev1 : (t.tmod 2 == 0) = true := by simp [hev]
        have hm : IntKind.i64.wrap (2 - h) = 2 - h := IntWalk.i64_in _ (by have := Hg.out.2.2.2.2.2; simp only at this; omega)
        have Hfin := hide (show ints (flatR ((turnedR rs t).take (k + 1))) = ints (flatR ((turnedR rs t).take k)) ++ [.int .i64 y, .int .i64 x, .int .i64 (2 - h)] by rw [Hnx.out]; simp [ints, mkR, hev, swpR])
        clear hev
        go_wp2_with (at_builtin; refine wpList_append3 _ rfl (.tmp 57) (.tmp 59) 67 rfl w2.heap.size 72 ii (.agg #[.int .i64 0, .int .i64 0, .int .i64 0]) 24 Try.underlying67 Hii.out.1 Hii.out.2.1 Hii.out.2.2.1 Hii.out.2.2.2 rfl _ k (ints (flatR ((turnedR rs t).take k))) rfl ?own (.int .i64 y) (.int .i64 x) (.int .i64 (2 - h)) _ rfl ?c0 ?c1 ?c2 rfl rfl rfl ?h1 ?h2 ?h3 ?_)
        case own => exact (Hown.out.alloc _).alloc _
        case c0 => simp [go_sem]
        case c1 => simp [go_sem]
        case c2 => simp [go_sem]
        case h1 => unfold maxLen; omega
        case h2 => omega
        case h3 => have := Hb.out.size; simp [go_sem]; omega
        intro v3 w3 hown3 hO3
        have hBt : Below w2.heap.size w2 w3 := (below_alloc0 (below_alloc0 Hb.out _) _).trans (hO3.below_ (fun _ h => h) (by have := Hb.out.size; simp [go_sem]; omega))
        have Hown3 := hide hown3
        have HBt := hide hBt
        clear hown3 hO3 hBt
        go_wp2_with fail
        go_roundw
        case rel => exact ⟨k + 1, by omega, by go_num, by rw [Hfin.out]; exact Hown3.out, HBt.out⟩
        case measure => simp [intOf]; omega
      · have hev1 : (t.tmod 2 == 0) = false := by simp [hev]
        have hm : IntKind.i64.wrap (2 - h) = 2 - h := IntWalk.i64_in _ (by have := Hg.out.2.2.2.2.2; simp only at this; omega)
        have Hfin := hide (show ints (flatR ((turnedR rs t).take (k + 1))) = ints (flatR ((turnedR rs t).take k)) ++ [.int .i64 x, .int .i64 y, .int .i64 h] by rw [Hnx.out]; simp [ints, mkR, hev])
        clear hev
        go_wp2_with (at_builtin; refine wpList_append3 _ rfl (.tmp 57) (.tmp 59) 67 rfl w2.heap.size 72 ii (.agg #[.int .i64 0, .int .i64 0, .int .i64 0]) 24 Try.underlying67 Hii.out.1 Hii.out.2.1 Hii.out.2.2.1 Hii.out.2.2.2 rfl _ k (ints (flatR ((turnedR rs t).take k))) rfl ?own (.int .i64 x) (.int .i64 y) (.int .i64 h) _ rfl ?c0 ?c1 ?c2 rfl rfl rfl ?h1 ?h2 ?h3 ?_)
        case own => exact (Hown.out.alloc _).alloc _
        case c0 => simp [go_sem]
        case c1 => simp [go_sem]
        case c2 => simp [go_sem]
        case h1 => unfold maxLen; omega
        case h2 => omega
        case h3 => have := Hb.out.size; simp [go_sem]; omega
        intro v3 w3 hown3 hO3
        have hBt : Below w2.heap.size w2 w3 := (below_alloc0 (below_alloc0 Hb.out _) _).trans (hO3.below_ (fun _ h => h) (by have := Hb.out.size; simp [go_sem]; omega))
        have Hown3 := hide hown3
        have HBt := hide hBt
        clear hown3 hO3 hBt
        go_wp2_with fail
        go_roundw
        case rel => exact ⟨k + 1, by omega, by go_num, by rw [Hfin.out]; exact Hown3.out, HBt.out⟩
        case measure => simp [intOf]; omega
    · obtain rfl : k = rs.length := by omega
      have ho2 := Hown.out
      rw [List.take_of_length_le (by rw [turnedR_len]; exact Nat.le_refl _)] at ho2
      obtain ⟨A2, c2, rfl, -, -, hA2⟩ := Cells.of_ownK ho2
      have HT2 := hide (table_good n A2 c2 (turnedR rs t) wr hA2 hn (turned_ok Hok.out t))
      rw [turnedR_len, turned_tab] at HT2
      have HG3 := hide (HG2.out.below Hb.out)
      have Hbw := hide (Hb2.out.trans (Hb.out.mono hbs))
      have hbw := Hb.out.size
      have HC2 := hide (HA2.out.below (Hb.out.mono hbs))
      clear ho2 hA2 Hown HG2 Hb2 Hb hb HA2
      go_wp2_with (go_at_call 35; refine HT2.out.mono ?_; rintro e w4 ⟨g4, rfl, hb4, hgW4, hg4, hh4⟩)
      have HG4 := hide (tab_cells hh4 hg4)
      have HG5 := hide ((HG3.out.more hbw).below hb4)
      have Hb4 := hide (Hbw.out.trans (hb4.mono (Nat.le_trans hbs hbw)))
      have hb4s := hb4.size
      clear hb4 hh4 HG3 Hbw HT2
      have hlen : ((tabR n rs).map rkR).length = n := by rw [List.length_map, tabR_len]
      have HS := hide (same_rk (some ⟨g, 0, none⟩) (some ⟨g4, 0, none⟩) n n _ _ w4 _ _ (by rw [hlen]; omega) (by rw [hlen]; omega) HG5.out HG4.out)
      rw [hlen, decide_eq_true rfl] at HS
      have Hsum := hide (tabS_sum Hok.out)
      have Htk := hide fun k => take_bnd Hok.out hn k
      go_wp2_with fail
      go_loop [13, 70] (fun sm idx => ∃ k : Nat, k ≤ n ∧ idx = .int .i64 k ∧ sm = .int .i64 ((tabS n rs).take k).sum) (fun sm idx => n - (intOf idx).toNat)
      case atStart => exact ⟨0, by omega, rfl, by simp⟩
      case round =>
        obtain ⟨k, hk, rfl, rfl⟩ := hrel
        by_cases hlt : k < n
        · obtain ⟨b, off, hb, -, -, x1, -⟩ := res_at HG5.out (i := k) (by rw [hlen]; exact hlt)
          injection hb with hb
          injection hb with hb1 hb2
          subst hb1
          subst hb2
          rw [Nat.zero_add] at x1
          have hks : k < (tabS n rs).length := by unfold tabS; rw [List.length_map, tabR_len]; exact hlt
          have e1 : (((tabR n rs).map rkR)[k]'(by rw [hlen]; exact hlt)).b = (tabS n rs)[k] := by simp [tabS, rkR]
          rw [e1] at x1
          have hs1 := Htk.out k
          have hs2 := Htk.out (k + 1)
          have he := sum_take (tabS n rs) k hks
          obtain ⟨v, hv⟩ : ∃ v, (tabS n rs)[k] = v := ⟨_, rfl⟩
          rw [hv] at x1 he
          rw [he] at hs2
          have He := hide he
          clear he hv e1 hks
          obtain ⟨s0, hs0⟩ : ∃ s0, ((tabS n rs).take k).sum = s0 := ⟨_, rfl⟩
          rw [hs0] at hs1 hs2 He ⊢
          clear hs0
          go_wp2_with fail
          go_round
          case rel => exact ⟨k + 1, by omega, by go_num, by rw [He.out]⟩
          case measure => simp [intOf]; omega
        · obtain rfl : k = n := by omega
          have hs := Hsum.out
          rw [List.take_of_length_le (by unfold tabS; rw [List.length_map, tabR_len]; exact Nat.le_refl _), hs]
          clear hs
          go_wp2_with (go_at_call 36; refine HS.out.mono ?_; rintro e w5 ⟨rfl, nn, rfl⟩)
          go_ret
          exact ⟨rfl, below_drewN Hb4.out _⟩

theorem wf_inr {t : Int} (h : (Lit.int .i64 t).wf = true) : InR t := by
  have m1 : IntKind.i64.min = -9223372036854775808 := rfl
  have m2 : IntKind.i64.max = 9223372036854775807 := rfl
  simp [Lit.wf, m1, m2] at h
  exact h
theorem sums_any (n : Int) (A : Option Addr) (c : Nat) (rs : List Res) (t : Int) (W : World) (hl : rs.length ≤ 9223372036854775807) (hA : Cells W W.heap.size A (ints (flatR rs))) (ht : (Lit.int .i64 t).wf = true) :
    Calls Try.prog 11 #[.int .i64 n, .slice A rs.length c, .int .i64 t] W fun e w' => e = .returned (.bool true) ∧ Below W.heap.size W w' := by
  by_cases h : 0 ≤ n ∧ n ≤ 200 ∧ ResOk n rs
  · obtain ⟨h1, h2, h3⟩ := h
    obtain ⟨n, rfl⟩ := Int.eq_ofNat_of_zero_le h1
    exact sums_good n A c rs t W hA (by omega) h3 (wf_inr ht)
  · refine sums_bad n A c rs t W hl hA ?_
    by_cases h1 : n < 0
    · exact .inl h1
    · by_cases h2 : 200 < n
      · exact .inr (.inl h2)
      · exact .inr (.inr (fun h3 => h ⟨by omega, by omega, h3⟩))
end Go.Proofs.Ytfoehijlafooaaa
