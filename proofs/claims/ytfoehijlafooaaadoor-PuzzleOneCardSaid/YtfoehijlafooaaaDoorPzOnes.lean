/- gamekeep.PuzzleOne walked -/
import Derived.Test.YtfoehijlafooaaaDoorPzOne
import Derived.Test.YtfoehijlafooaaaDoorSameInt
namespace Go.Proofs.YtfoehijlafooaaaDoor
open Go.RowKit

theorem ones_bad (a b : Int) (A A2 : Option Addr) (c c2 : Nat) (cells order : List Int) (W : World) (hm : cells.length ≤ 9223372036854775807) (hA : Cells W W.heap.size A (ints cells)) (hbad : ¬ PuzOk a b cells) :
    Calls Tryd.prog 5 #[.int .i64 a, .int .i64 b, .slice A cells.length c, .slice A2 order.length c2] W fun e w' => e = .returned (.bool true) ∧ w' = W := by
  have HM := hide (make_bad a b A A2 c c2 cells order W _ hm hA hbad)
  clear hA hbad
  go_enter Tryd.func5, Tryd.ntmps5
  go_wp2_with (go_at_call 11; refine HM.out.mono ?_; rintro e w2 ⟨rfl, hw2⟩; rw [hw2]; clear hw2)
  go_ret
  exact ⟨rfl, rfl⟩

theorem puz_sub {r k : Nat} {cells p : List Int} (h : PuzOk r k cells) (hl : p.length = cells.length) (hp : InN r k p) : PuzOk r k p := by
  obtain ⟨h1, h2, h3, h4, h5, h6⟩ := h
  refine ⟨h1, h2, h3, h4, by rw [hl]; exact h5, fun j hj => ?_⟩
  have := hp j hj
  have e : ((r * k : Nat) : Int) = (r : Int) * (k : Int) := by simp
  rw [e] at this
  exact this

set_option maxHeartbeats 8000000 in
set_option maxRecDepth 100000 in
theorem ones_ok (r k : Nat) (A A2 : Option Addr) (c c2 : Nat) (cells order : List Int) (W : World) (hA : Cells W W.heap.size A (ints cells)) (hA2 : Cells W W.heap.size A2 (ints order)) (hm2 : order.length ≤ 9223372036854775807) (hT : TabAt 1 Lib.deBruijn64tab W)
    (hr : 0 < r) (hk : 0 < k) (hr3 : r ≤ 3) (hk3 : k ≤ 3) (hl : cells.length = r * k * (r * k)) (hin : ∀ j, j < cells.length → 0 ≤ gat cells j ∧ gat cells j ≤ (r * k : Nat)) (hok : PuzOk r k cells) :
    Calls Tryd.prog 5 #[.int .i64 r, .int .i64 k, .slice A cells.length c, .slice A2 order.length c2] W fun e w' => e = .returned (.bool true) ∧ Below W.heap.size W w' := by
  have hn9 : r * k ≤ 9 := Nat.le_trans (Nat.mul_le_mul hr3 hk3) (by decide)
  have hN81 : cells.length ≤ 81 := by rw [hl]; exact Nat.mul_le_mul hn9 hn9
  have hN0 : 0 < cells.length := by rw [hl]; exact Nat.mul_pos (Nat.mul_pos hr hk) (Nat.mul_pos hr hk)
  have HM := hide (make_ok r k A A2 c c2 cells order W hA hA2 hm2 hT hr hk hr3 hk3 hl hin hok)
  obtain ⟨good, hgood⟩ : ∃ good, (anyZ cells cells.length || !fitsG r k cells || anyB cells.length order order.length) = good := ⟨_, rfl⟩
  rw [hgood] at HM
  cases good
  case true =>
    have HM2 := hide (HM.out.mono fun e w' h => (⟨h.2.1 rfl, h.1⟩ : e = .returned (.tuple #[.slice none 0 0, .int .i64 4]) ∧ Below W.heap.size W w'))
    clear HM hA hA2 hT hl hin hok hgood
    go_enter Tryd.func5, Tryd.ntmps5
    go_wp2_with (go_at_call 11; refine HM2.out.mono ?_; rintro e w2 ⟨rfl, hb2⟩)
    go_ret
    exact ⟨rfl, hb2⟩
  have HM2 := hide (HM.out.mono fun e w' h => (⟨h.2.2 rfl, h.1⟩ : (∃ g cap, e = .returned (.tuple #[.slice (some ⟨g, 0, none⟩) cells.length cap, .int .i64 0]) ∧ W.heap.size ≤ g ∧ g < w'.heap.size ∧ cells.length ≤ cap ∧ CellsG w' g (makeL r k cells order)) ∧ Below W.heap.size W w'))
  clear HM
  obtain ⟨hz, hfit, hob⟩ : anyZ cells cells.length = false ∧ fitsG r k cells = true ∧ anyB cells.length order order.length = false := by
    revert hgood
    cases anyZ cells cells.length <;> cases fitsG r k cells <;> cases anyB cells.length order order.length <;> simp
  have hpos := anyZ_pos hz (fun j hj => (hin j hj).1)
  have ho := anyB_all hob
  have hsub := makeL_sub (r := r) (k := k) (full := cells) order.length (order := order) (Nat.le_refl _) ho
  rw [List.take_length] at hsub
  have hone := one_answer hn9 hl hin hfit ho hpos order.length (Nat.le_refl _)
  rw [List.take_length] at hone
  have hmore := fun {i t : Nat} (ht : t < order.length) (hti : gat order t = (i : Int)) => one_more hn9 hl hin hfit ho ht hti
  have hunt := fun {i : Nat} => makeL_untouched (r := r) (k := k) ho (i := i) order.length (Nat.le_refl _)
  rw [List.take_length] at hunt
  have hnl : (makeL r k cells order).length = cells.length := makeL_len _
  obtain ⟨p, hp⟩ : ∃ p, makeL r k cells order = p := ⟨_, rfl⟩
  rw [hp] at HM2 hsub hone hmore hunt hnl
  have hinp : InN r k p := sub_inN hnl hsub hin
  have hncp := sub_fits hnl hsub (noConf_of_fits hfit hin)
  have hans : answers r k p 2 = [cells] := by rw [answers_eq (fits_of_noConf hncp), hone]; rfl
  have hokp := puz_sub hok hnl hinp
  have hw1 : 1 < W.heap.size := World.block_lt_of_cell? W _ (hT 0 (by decide))
  have HSv := hide (show ∀ g cap w, Below W.heap.size W w → CellsG w g p → Calls Tryd.prog 6 #[.int .i64 r, .int .i64 k, .slice (some ⟨g, 0, none⟩) cells.length cap, .int .i64 2] w fun e w' =>
      ∃ A' c', e = .returned (.tuple #[.slice A' 1 c', .int .i64 0]) ∧ Rows2 w' w'.heap.size A' [cells] ∧ Below w.heap.size w w' from fun g cap w hb hcg => by
    have h := solveE_ok r k 2 (some ⟨g, 0, none⟩) cap p w hcg.cells (fun j hj => by rw [hb.cell hw1]; exact hT j hj) hr hk hr3 hk3 (by rw [hnl]; exact hl) hinp hokp (by decide) (by decide)
    rw [hans, hnl] at h
    exact h.mono fun e w' ⟨A', c', q1, _, q3, q4⟩ => ⟨A', c', q1, q3, q4⟩)
  have HSq := hide (show ∀ (i : Nat), i < cells.length → (∃ t, t < order.length ∧ gat order t = (i : Int)) → gat p i ≠ 0 → ∀ g cap w, Below W.heap.size W w → CellsG w g (p.set i 0) → Calls Tryd.prog 6 #[.int .i64 r, .int .i64 k, .slice (some ⟨g, 0, none⟩) cells.length cap, .int .i64 2] w fun e w' =>
      ∃ A' c', e = .returned (.tuple #[.slice A' 2 c', .int .i64 0]) ∧ Below w.heap.size w w' from fun i hi ⟨t, ht, hti⟩ hne g cap w hb hcg => by
    have hpl : (p.set i 0).length = cells.length := by rw [List.length_set]; exact hnl
    have hin2 : InN r k (p.set i 0) := inN_set (by omega) hinp (by omega)
    have h := solveE_ok r k 2 (some ⟨g, 0, none⟩) cap (p.set i 0) w hcg.cells (fun j hj => by rw [hb.cell hw1]; exact hT j hj) hr hk hr3 hk3 (by rw [hpl]; exact hl) hin2 (puz_sub hok hpl hin2) (by decide) (by decide)
    rw [hmore ht hti hne, hpl] at h
    exact h.mono fun e w' ⟨A', c', q1, _, _, q4⟩ => ⟨A', c', q1, q4⟩)
  have Hsub := hide hsub
  have Hunt := hide (show ∀ i, i < cells.length → gat p i = 0 → ∃ t, t < order.length ∧ gat order t = (i : Int) from fun i hi h0 => by
    by_cases h : ∃ t, t < order.length ∧ gat order t = (i : Int)
    · exact h
    · exfalso
      have h1 := hunt (i := i) (fun t ht e => h ⟨t, ht, e⟩)
      rw [h0] at h1
      have := hpos i hi
      omega)
  have HA := hide hA
  have HA2 := hide hA2
  have Ho := hide ho
  have Hnl := hide hnl
  obtain ⟨i1, hi1⟩ := info_pint
  have Hi1 := hide hi1
  have hmk : ∀ w, (Instr.makeSlice 22 (.int .i64 (cells.length : Int)) (.int .i64 (cells.length : Int))).run Tryd.prog w = .ok (.slice (some ⟨w.heap.size, 0, none⟩) cells.length cells.length) (w.alloc (.cells (Array.replicate cells.length (.int .i64 0)) 3)) := fun w =>
    run_make1 22 3 i1 (.int .i64 0) Tryd.underlying22 hi1.1 hi1.2.1 hi1.2.2.1 rfl .i64 .i64 cells.length (by rw [hi1.2.2.2]; omega) (by omega) w
  clear hA hA2 hT hl hin hok hgood hz hfit hob hpos ho hsub hone hmore hunt hp hinp hncp hans hokp hnl hi1
  go_enter Tryd.func5, Tryd.ntmps5
  go_wp2_with (first
    | (go_at_call 11; refine HM2.out.mono ?_; rintro e w2 ⟨⟨g, cap, rfl, hgW, hgl, hcap, hcg⟩, hb2⟩)
    | (go_at_call 6; refine (HSv.out g cap w2 hb2 hcg).mono ?_; rintro e w3 ⟨A3, c3, rfl, hr3, hb3⟩; obtain ⟨x1, o1, rfl, -, B1, k1, -, y1, z1⟩ := hr3.at_ (k := 0) (by simp); have hb23 := hb2.trans (hb3.mono hb2.size); have hsame := same_int B1 A k1 c cells cells w3 _ _ (by omega) (by omega) z1 (HA.out.below hb23); rw [decide_eq_true rfl] at hsame; have HSame := hide hsame; simp only [List.getElem_cons_zero, Nat.add_zero] at y1; clear hsame z1)
    | (go_at_call 10; refine HSame.out.mono ?_; rintro e w4 ⟨rfl, m4, rfl⟩))
  have Hcg3 := hide (hcg.below hb3 hgl)
  have hg3 : g < w3.heap.size := Nat.lt_of_lt_of_le hgl hb3.size
  have HB3 := hide hb23
  have hrep : CellsG ((w3.drewN m4).alloc (.cells (Array.replicate cells.length (.int .i64 0)) 3)) w3.heap.size (List.replicate cells.length 0) := ⟨_, Blk.new _ _ _, fun j hj => by
    have hj' : j < cells.length := by simpa using hj
    rw [gat_get hj]
    simp [hj']⟩
  have Hrep := hide hrep
  clear hrep hcg hb2 hb3 hb23 hr3 y1 HSame HM2 hmk
  go_loopw [66] (fun idx wr => ∃ (t : Nat) (tl : List Int), t ≤ order.length ∧ idx = .int .i64 t ∧ tl.length = cells.length ∧ CellsG wr w3.heap.size tl ∧ (∀ j, j < cells.length → 0 ≤ gat tl j ∧ gat tl j ≤ t) ∧ (∀ j : Nat, j < cells.length → (gat tl j ≠ 0 ↔ ∃ s, s < t ∧ gat order s = (j : Int))) ∧ Below w3.heap.size w3 wr) (fun idx _ => order.length - (intOf idx).toNat)
  case atStart =>
    have hz : ∀ j, gat (List.replicate cells.length 0) j = 0 := fun j => by
      unfold gat
      rw [List.getD_eq_getElem?_getD, List.getElem?_replicate]
      split <;> rfl
    exact ⟨0, _, by omega, rfl, by simp, Hrep.out, fun j _ => by rw [hz]; omega, fun j _ => by rw [hz]; constructor <;> (intro h; first | exact absurd rfl h | (obtain ⟨s, hs, _⟩ := h; omega)), below_alloc0 (below_drewN (Below.refl _ _) _) _⟩
  case round =>
    clear Hrep
    rename World => wr
    obtain ⟨t, tl, ht, rfl, htl, hct, hbt, hit, hbr⟩ := hrel
    have Hct := hide hct
    have Hbt := hide hbt
    have Hit := hide hit
    have Hbr := hide hbr
    have HbW := hide (HB3.out.trans (hbr.mono HB3.out.size))
    clear hct hbt hit hbr
    by_cases hlt : t < order.length
    · obtain ⟨b2, off2, rfl, hb2, c1⟩ := (HA2.out.below HbW.out).at_ (k := t) (by simpa using hlt)
      rw [ints_get, ← gat_get hlt] at c1
      have hx := Ho.out t hlt
      obtain ⟨x, hxx⟩ : ∃ x, gat order t = x := ⟨_, rfl⟩
      rw [hxx] at c1 hx
      obtain ⟨i0, rfl⟩ := Int.eq_ofNat_of_zero_le hx.1
      have hi0 : i0 < cells.length := by omega
      have hi1 : i0 < tl.length := by omega
      have y := Hct.out.at_ hi1
      have f := Hct.out.free i0
      have hb := Hbt.out i0 hi0
      obtain ⟨v, hv⟩ : ∃ v, gat tl i0 = v := ⟨_, rfl⟩
      rw [hv] at y hb
      have Hxx := hide hxx
      have Hv := hide hv
      clear hxx hv hx
      go_wp2_with fail
      go_roundw
      case rel =>
        refine ⟨t + 1, tl.set i0 (v + 1), by omega, by go_num, by rw [List.length_set]; exact htl, Hct.out.set_ hi1 _, fun j hj => ?_, fun j hj => ?_, Hbr.out.setCell (p := ⟨w3.heap.size, i0, none⟩) (Nat.le_refl _) _⟩
        · rw [gat_set hi1]
          have := Hbt.out j hj
          split <;> omega
        · rw [gat_set hi1]
          have h1 := Hit.out j hj
          split
          · rename_i e
            subst e
            exact ⟨fun _ => ⟨t, by omega, Hxx.out⟩, fun _ => by omega⟩
          · rename_i e
            rw [h1]
            constructor
            · rintro ⟨s, s1, s2⟩; exact ⟨s, by omega, s2⟩
            · rintro ⟨s, s1, s2⟩
              by_cases es : s = t
              · subst es; rw [Hxx.out] at s2; omega
              · exact ⟨s, by omega, s2⟩
      case measure => simp [intOf]; omega
    · obtain rfl : t = order.length := by omega
      have Hcp := hide (Hcg3.out.below Hbr.out hg3)
      have hgr : g < wr.heap.size := Nat.lt_of_lt_of_le hg3 Hbr.out.size
      have hgt : w3.heap.size < wr.heap.size := by
        obtain ⟨cs, hb, _⟩ := Hct.out
        exact hb.lt
      clear Hbr Hcg3 HB3
      go_wp2_with fail
      go_loopw [79] (fun idx w6 => ∃ q : Nat, q ≤ cells.length ∧ idx = .int .i64 q ∧ Below wr.heap.size wr w6) (fun idx _ => cells.length - (intOf idx).toNat)
      case atStart => exact ⟨0, by omega, rfl, Below.refl _ _⟩
      case round =>
        rename World => w6
        obtain ⟨q, hq, rfl, hb6⟩ := hrel
        have Hb6 := hide hb6
        have HbW6 := hide (HbW.out.trans (hb6.mono HbW.out.size))
        have Hcp6 := hide (Hcp.out.below hb6 hgr)
        have Hct6 := hide (Hct.out.below hb6 hgt)
        clear hb6
        by_cases hlt : q < cells.length
        · have hqp : q < p.length := by rw [Hnl.out]; exact hlt
          have z1 := Hcp6.out.at_ hqp
          have z2 := Hct6.out.at_ (j := q) (by omega)
          obtain ⟨bA, oA, rfl, hbA, z3⟩ := (HA.out.below HbW6.out).at_ (k := q) (by simpa using hlt)
          rw [ints_get, ← gat_get hlt] at z3
          have hun := Hunt.out q hlt
          have hit := Hit.out q hlt
          have hsb := Hsub.out q
          have hsq := HSq.out q hlt
          obtain ⟨x, hx⟩ : ∃ x, gat p q = x := ⟨_, rfl⟩
          obtain ⟨v, hv⟩ : ∃ v, gat tl q = v := ⟨_, rfl⟩
          obtain ⟨y, hy⟩ : ∃ y, gat cells q = y := ⟨_, rfl⟩
          rw [hx] at z1 hun hsb hsq
          rw [hv] at z2 hit
          rw [hy] at z3 hsb
          have Hsq := hide hsq
          clear hx hv hy hsq
          by_cases hx0 : x = 0
          · subst hx0
            have hv0 : v ≠ 0 := hit.2 (hun rfl)
            have d1 : (v == 0) = false := by simp [hv0]
            clear hun hit hsb hv0
            go_wp2_with fail
            go_quiet (fail)
            go_wp2_with fail
            go_roundw
            case rel => exact ⟨q + 1, by omega, by go_num, below_drewN Hb6.out _⟩
            case measure => simp [intOf]; omega
          · have hxy : x = y := by
              rcases hsb with h | h
              · exact h
              · exact absurd h hx0
            subst hxy
            have d0 : (x == 0) = false := by simp [hx0]
            have d0' : (x != 0) = true := by simp [hx0]
            by_cases hv0 : v = 0
            · subst hv0
              clear hun hit hsb hx0
              go_wp2_with fail
              go_quiet (fail)
              go_wp2_with fail
              go_roundw
              case rel => exact ⟨q + 1, by omega, by go_num, below_drewN Hb6.out _⟩
              case measure => simp [intOf]; omega
            · have d1 : (v == 0) = false := by simp [hv0]
              have HSq2 := hide (Hsq.out (hit.1 hv0) hx0)
              clear hun hit hsb hx0 hv0 Hsq
              go_wp2_with fail
              go_quiet (fail)
              go_wp2_with (at_builtin; refine wpList_append_own _ rfl (.const (.slice none 0 0)) (.tmp 124) 22 rfl w6.heap.size 3 i1 (.int .i64 0) 1 8 Tryd.underlying22 Hi1.out.1 Hi1.out.2.1 Hi1.out.2.2.1 Hi1.out.2.2.2 rfl (by decide) (.slice none 0 0) 0 [] rfl (World.ownsRow_nil _ _ _ _) ⟨g, 0, none⟩ cells.length cap (ints p) rfl (by simp; exact Hnl.out) ?hnews (by simp [ints, Value.oneCell']) ?h63 ?hb ?hbase ?_)
              case hnews =>
                intro j u hu
                obtain ⟨hj, hju⟩ := List.getElem?_eq_some_iff.1 hu
                have hj' : j < p.length := by simpa using hj
                rw [Addr.add_lit, Nat.zero_add]
                refine (Hcp6.out.at_ hj').trans ?_
                rw [← hju, ints_get, gat_get hj']
              case h63 => unfold maxLen; omega
              case hb => omega
              case hbase => exact Nat.le_refl _
              intro v7 w7 hown7 hg7 _
              have hown8 : w7.ownsRow w6.heap.size 3 1 v7 p.length (ints p) := by rw [Hnl.out]; simpa using hown7
              obtain ⟨gq, capq, hv7, hgq1, hgq2, -, hcq⟩ := own_cellsG hown8 (by rw [Hnl.out]; exact hN0)
              rw [Hnl.out] at hv7
              subst hv7
              have hB7 : Below w6.heap.size w6 w7 := Below.trans (below_drewN (Below.refl _ _) _) (grown_below (B := w6.heap.size) hg7 (Nat.le_refl _) nofun)
              have y7 := hcq.at_ hqp
              have f7 := hcq.free q
              have hcz := hcq.set_ hqp 0
              have hBz := hB7.setCell (p := ⟨gq, q, none⟩) hgq1 (.int .i64 0)
              have Hcz := hide hcz
              have HBz := hide hBz
              have HBWz := hide (HbW6.out.trans (hBz.mono HbW6.out.size))
              clear hown7 hown8 hg7 hcq hB7 hcz hBz
              go_wp2_with (go_at_call 6; refine (HSq2.out gq capq _ HBWz.out Hcz.out).mono ?_; rintro e w8 ⟨A8, c8, rfl, hb8⟩)
              go_roundw
              case rel => exact ⟨q + 1, by omega, by go_num, Hb6.out.trans ((HBz.out.trans (hb8.mono HBz.out.size)).mono Hb6.out.size)⟩
              case measure => simp [intOf]; omega
        · go_wp2_with fail
          go_ret
          exact ⟨rfl, HbW6.out⟩
theorem ones_any (a b : Int) (A A2 : Option Addr) (c c2 : Nat) (cells order : List Int) (W : World) (hm : cells.length ≤ 9223372036854775807) (hm2 : order.length ≤ 9223372036854775807) (hA : Cells W W.heap.size A (ints cells)) (hA2 : Cells W W.heap.size A2 (ints order)) (hT : TabAt 1 Lib.deBruijn64tab W) :
    Calls Tryd.prog 5 #[.int .i64 a, .int .i64 b, .slice A cells.length c, .slice A2 order.length c2] W fun e w' => e = .returned (.bool true) ∧ Below W.heap.size W w' := by
  by_cases hok : PuzOk a b cells
  · have hok0 := hok
    obtain ⟨r, k, rfl, rfl, h1, h2, h3, h4, h5, h6⟩ := puz_nat hok
    exact ones_ok r k A A2 c c2 cells order W hA hA2 hm2 hT h1 h3 h2 h4 h5 h6 hok0
  · exact (ones_bad a b A A2 c c2 cells order W hm hA hok).mono fun e w' h => ⟨h.1, by rw [h.2]; exact Below.refl _ _⟩
end Go.Proofs.YtfoehijlafooaaaDoor
