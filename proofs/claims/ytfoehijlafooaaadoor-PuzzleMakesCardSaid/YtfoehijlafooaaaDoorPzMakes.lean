/- gamelaw.PuzzleMakes walked -/
import Derived.Test.YtfoehijlafooaaaDoorPzMake
namespace Go.Proofs.YtfoehijlafooaaaDoor
open Go.RowKit

def want4 (b : Bool) : Int := bif b then 4 else 0

set_option maxHeartbeats 4000000 in
set_option maxRecDepth 100000 in
theorem makes_bad (a b : Int) (A A2 : Option Addr) (c c2 : Nat) (cells order : List Int) (W : World) (hm : cells.length ≤ 9223372036854775807) (hm2 : order.length ≤ 9223372036854775807) (hA : Cells W W.heap.size A (ints cells)) (hA2 : Cells W W.heap.size A2 (ints order)) (hbad : ¬ PuzOk a b cells) :
    Calls Tryd.prog 4 #[.int .i64 a, .int .i64 b, .slice A cells.length c, .slice A2 order.length c2] W fun e w' => e = .returned (.bool true) ∧ w' = W := by
  have HM := hide (make_bad a b A A2 c c2 cells order W _ hm hA hbad)
  have hp := puzzle_any a b A c cells W _ hm hA
  rw [puzB_false.2 hbad] at hp
  have HP := hide hp
  have HA := hide hA
  have HA2 := hide hA2
  clear hp hA hA2 hbad
  go_enter Tryd.func4, Tryd.ntmps4
  go_wp2_with (go_at_call 11; refine HM.out.mono ?_; rintro e w2 ⟨rfl, hw2⟩; rw [hw2]; clear hw2)
  go_loop [11, 28] (fun wv idx => ∃ (q : Nat) (x : Bool), q ≤ cells.length ∧ idx = .int .i64 q ∧ wv = .int .i64 (want4 x)) (fun wv idx => cells.length - (intOf idx).toNat)
  case atStart => exact ⟨0, false, by omega, rfl, rfl⟩
  case round =>
    obtain ⟨q, x, hq, rfl, rfl⟩ := hrel
    by_cases hlt : q < cells.length
    · obtain ⟨b1, off1, rfl, hb1, c1⟩ := HA.out.at_ (k := q) (by simpa using hlt)
      rw [ints_get, ← gat_get hlt] at c1
      by_cases h0 : gat cells q = 0
      · rw [h0] at c1
        clear h0
        go_wp2_with fail
        go_round
        case rel => exact ⟨q + 1, true, by omega, by go_num, rfl⟩
        case measure => simp [intOf]; omega
      · have d : (gat cells q == 0) = false := by simp [h0]
        clear h0
        go_wp2_with fail
        go_round
        case rel => exact ⟨q + 1, x, by omega, by go_num, rfl⟩
        case measure => simp [intOf]; omega
    · go_wp2_with fail
      go_loop [11, 39] (fun wv idx => ∃ (q : Nat) (x : Bool), q ≤ order.length ∧ idx = .int .i64 q ∧ wv = .int .i64 (want4 x)) (fun wv idx => order.length - (intOf idx).toNat)
      case atStart => exact ⟨0, x, by omega, rfl, rfl⟩
      case round =>
        obtain ⟨t, x, ht, rfl, rfl⟩ := hrel
        by_cases hlt2 : t < order.length
        · obtain ⟨b1, off1, rfl, hb1, c1⟩ := HA2.out.at_ (k := t) (by simpa using hlt2)
          rw [ints_get, ← gat_get hlt2] at c1
          obtain ⟨y, hy⟩ : ∃ y, gat order t = y := ⟨_, rfl⟩
          rw [hy] at c1
          clear hy
          by_cases x1 : y < 0
          · have g1 : decide (y < 0) = true := by simp [x1]
            clear x1
            go_wp2_with fail
            go_round
            case rel => exact ⟨t + 1, true, by omega, by go_num, rfl⟩
            case measure => simp [intOf]; omega
          · have g1 : decide (y < 0) = false := by simp; omega
            by_cases x2 : y ≥ (cells.length : Int)
            · have g2 : decide (y ≥ (cells.length : Int)) = true := by simp [x2]
              clear x1 x2
              go_wp2_with fail
              go_round
              case rel => exact ⟨t + 1, true, by omega, by go_num, rfl⟩
              case measure => simp [intOf]; omega
            · have g2 : decide (y ≥ (cells.length : Int)) = false := by simp; omega
              clear x1 x2
              go_wp2_with fail
              go_round
              case rel => exact ⟨t + 1, x, by omega, by go_num, rfl⟩
              case measure => simp [intOf]; omega
        · go_wp2_with (go_at_call 7; refine HP.out.mono ?_; rintro e w2 ⟨rfl, hw2⟩; rw [hw2]; clear hw2)
          go_ret
          exact ⟨rfl, rfl⟩

set_option maxHeartbeats 8000000 in
set_option maxRecDepth 100000 in
theorem makes_ok (r k : Nat) (A A2 : Option Addr) (c c2 : Nat) (cells order : List Int) (W : World) (hA : Cells W W.heap.size A (ints cells)) (hA2 : Cells W W.heap.size A2 (ints order)) (hm2 : order.length ≤ 9223372036854775807) (hT : TabAt 1 Lib.deBruijn64tab W)
    (hr : 0 < r) (hk : 0 < k) (hr3 : r ≤ 3) (hk3 : k ≤ 3) (hl : cells.length = r * k * (r * k)) (hin : ∀ j, j < cells.length → 0 ≤ gat cells j ∧ gat cells j ≤ (r * k : Nat)) (hok : PuzOk r k cells) :
    Calls Tryd.prog 4 #[.int .i64 r, .int .i64 k, .slice A cells.length c, .slice A2 order.length c2] W fun e w' => e = .returned (.bool true) ∧ Below W.heap.size W w' := by
  have hn9 : r * k ≤ 9 := Nat.le_trans (Nat.mul_le_mul hr3 hk3) (by decide)
  have hN81 : cells.length ≤ 81 := by rw [hl]; exact Nat.mul_le_mul hn9 hn9
  have hN0 : 0 < cells.length := by rw [hl]; exact Nat.mul_pos (Nat.mul_pos hr hk) (Nat.mul_pos hr hk)
  have HM := hide (make_ok r k A A2 c c2 cells order W hA hA2 hm2 hT hr hk hr3 hk3 hl hin hok)
  have HP := hide (show ∀ w, Below W.heap.size W w → Calls Tryd.prog 7 #[.int .i64 r, .int .i64 k, .slice A cells.length c] w fun e w' => e = .returned (.bool true) ∧ w' = w from fun w hb => by
    have h := puzzle_any r k A c cells w W.heap.size (by omega) (hA.below hb)
    rw [puzB_true.2 hok] at h
    exact h)
  have HFi := hide (fun w (hb : Below W.heap.size W w) => fits_any r k A c cells w W.heap.size hr hk hr3 hk3 hN81 (hA.below hb))
  have HA := hide hA
  have HA2 := hide hA2
  have Hin := hide hin
  have Hl := hide hl
  clear hA hA2 hT hin hl hok
  obtain ⟨good, hgood⟩ : ∃ good, (anyZ cells cells.length || !fitsG r k cells || anyB cells.length order order.length) = good := ⟨_, rfl⟩
  rw [hgood] at HM
  have Hgood := hide hgood
  clear hgood
  cases good
  case true =>
    have HM2 := hide (HM.out.mono fun e w' h => (⟨h.2.1 rfl, h.1⟩ : e = .returned (.tuple #[.slice none 0 0, .int .i64 4]) ∧ Below W.heap.size W w'))
    clear HM
    go_enter Tryd.func4, Tryd.ntmps4
    go_wp2_with (go_at_call 11; refine HM2.out.mono ?_; rintro e w2 ⟨rfl, hb2⟩)
    have Hb2 := hide hb2
    clear hb2
    go_loop [11, 28] (fun wv idx => ∃ q : Nat, q ≤ cells.length ∧ idx = .int .i64 q ∧ wv = .int .i64 (want4 (anyZ cells q))) (fun wv idx => cells.length - (intOf idx).toNat)
    case atStart => exact ⟨0, by omega, rfl, rfl⟩
    case round =>
      obtain ⟨q, hq, rfl, rfl⟩ := hrel
      by_cases hlt : q < cells.length
      · obtain ⟨b1, off1, rfl, hb1, c1⟩ := (HA.out.below Hb2.out).at_ (k := q) (by simpa using hlt)
        rw [ints_get, ← gat_get hlt] at c1
        have hs := anyZ_succ hlt
        by_cases h0 : gat cells q = 0
        · rw [h0] at c1 hs
          have Hs := hide (show anyZ cells (q + 1) = true by rw [hs]; simp)
          clear h0 hs
          go_wp2_with fail
          go_round
          case rel => exact ⟨q + 1, by omega, by go_num, by rw [Hs.out]; rfl⟩
          case measure => simp [intOf]; omega
        · have d : (gat cells q == 0) = false := by simp [h0]
          rw [d, Bool.or_false] at hs
          have Hs := hide hs
          clear h0 hs
          go_wp2_with fail
          go_round
          case rel => exact ⟨q + 1, by omega, by go_num, by rw [Hs.out]⟩
          case measure => simp [intOf]; omega
      · obtain rfl : q = cells.length := by omega
        obtain ⟨zb, hzb⟩ : ∃ zb, anyZ cells cells.length = zb := ⟨_, rfl⟩
        rw [hzb]
        have Hzb := hide hzb
        clear hzb
        go_wp2_with fail
        go_loop [11, 39] (fun wv idx => ∃ q : Nat, q ≤ order.length ∧ idx = .int .i64 q ∧ wv = .int .i64 (want4 (zb || anyB cells.length order q))) (fun wv idx => order.length - (intOf idx).toNat)
        case atStart => exact ⟨0, by omega, rfl, by rw [show anyB cells.length order 0 = false from rfl, Bool.or_false]⟩
        case round =>
          obtain ⟨t, ht, rfl, rfl⟩ := hrel
          by_cases hlt2 : t < order.length
          · obtain ⟨b1, off1, rfl, hb1, c1⟩ := (HA2.out.below Hb2.out).at_ (k := t) (by simpa using hlt2)
            rw [ints_get, ← gat_get hlt2] at c1
            have hs := anyB_succ (N := cells.length) hlt2
            obtain ⟨y, hy⟩ : ∃ y, gat order t = y := ⟨_, rfl⟩
            rw [hy] at c1 hs
            clear hy
            by_cases x1 : y < 0
            · have g1 : decide (y < 0) = true := by simp [x1]
              have Hs := hide (show (zb || anyB cells.length order (t + 1)) = true by rw [hs, g1]; simp)
              clear x1 hs
              go_wp2_with fail
              go_round
              case rel => exact ⟨t + 1, by omega, by go_num, by rw [Hs.out]; rfl⟩
              case measure => simp [intOf]; omega
            · have g1 : decide (y < 0) = false := by simp; omega
              by_cases x2 : y ≥ (cells.length : Int)
              · have g2 : decide (y ≥ (cells.length : Int)) = true := by simp [x2]
                have Hs := hide (show (zb || anyB cells.length order (t + 1)) = true by rw [hs, g1, g2]; simp)
                clear x1 x2 hs
                go_wp2_with fail
                go_round
                case rel => exact ⟨t + 1, by omega, by go_num, by rw [Hs.out]; rfl⟩
                case measure => simp [intOf]; omega
              · have g2 : decide (y ≥ (cells.length : Int)) = false := by simp; omega
                have Hs := hide (show (zb || anyB cells.length order (t + 1)) = (zb || anyB cells.length order t) by rw [hs, g1, g2]; simp)
                clear x1 x2 hs
                go_wp2_with fail
                go_round
                case rel => exact ⟨t + 1, by omega, by go_num, by rw [Hs.out]⟩
                case measure => simp [intOf]; omega
          · obtain rfl : t = order.length := by omega
            obtain ⟨bb, hbb⟩ : ∃ bb, anyB cells.length order order.length = bb := ⟨_, rfl⟩
            rw [hbb]
            have Hbb := hide hbb
            clear hbb
            have hff := HFi.out _ Hb2.out
            obtain ⟨fb, hfb⟩ : ∃ fb, fitsG r k cells = fb := ⟨_, rfl⟩
            rw [hfb] at hff
            have Hff := hide hff
            have hgg := Hgood.out
            rw [Hzb.out, hfb, Hbb.out] at hgg
            have Hgg := hide hgg
            clear hff hgg hfb
            cases zb <;> cases bb <;> cases fb
            all_goals first
              | exact absurd Hgg.out (by decide)
              | skip
            all_goals
              simp only [want4, Bool.or_true, Bool.or_false, Bool.false_or, Bool.true_or, cond_true, cond_false]
              go_wp2_with (first | (go_at_call 7; refine (HP.out _ Hb2.out).mono ?_; rintro e w5 ⟨rfl, hw5⟩; rw [hw5]; clear hw5) | (go_at_call 12; refine Hff.out.mono ?_; rintro e w5 ⟨rfl, m5, rfl⟩))
              go_ret
              exact ⟨rfl, below_drewN Hb2.out _⟩
  case false =>
    have HM2 := hide (HM.out.mono fun e w' h => (⟨h.2.2 rfl, h.1⟩ : (∃ g cap, e = .returned (.tuple #[.slice (some ⟨g, 0, none⟩) cells.length cap, .int .i64 0]) ∧ W.heap.size ≤ g ∧ g < w'.heap.size ∧ cells.length ≤ cap ∧ CellsG w' g (makeL r k cells order)) ∧ Below W.heap.size W w'))
    clear HM
    go_enter Tryd.func4, Tryd.ntmps4
    go_wp2_with (go_at_call 11; refine HM2.out.mono ?_; rintro e w2 ⟨⟨g, cap, rfl, hgW, hgl, hcap, hcg⟩, hb2⟩)
    have Hb2 := hide hb2
    have Hcg := hide hcg
    clear hb2 hcg
    go_loop [11, 28] (fun wv idx => ∃ q : Nat, q ≤ cells.length ∧ idx = .int .i64 q ∧ wv = .int .i64 (want4 (anyZ cells q))) (fun wv idx => cells.length - (intOf idx).toNat)
    case atStart => exact ⟨0, by omega, rfl, rfl⟩
    case round =>
      obtain ⟨q, hq, rfl, rfl⟩ := hrel
      by_cases hlt : q < cells.length
      · obtain ⟨b1, off1, rfl, hb1, c1⟩ := (HA.out.below Hb2.out).at_ (k := q) (by simpa using hlt)
        rw [ints_get, ← gat_get hlt] at c1
        have hs := anyZ_succ hlt
        by_cases h0 : gat cells q = 0
        · rw [h0] at c1 hs
          have Hs := hide (show anyZ cells (q + 1) = true by rw [hs]; simp)
          clear h0 hs
          go_wp2_with fail
          go_round
          case rel => exact ⟨q + 1, by omega, by go_num, by rw [Hs.out]; rfl⟩
          case measure => simp [intOf]; omega
        · have d : (gat cells q == 0) = false := by simp [h0]
          rw [d, Bool.or_false] at hs
          have Hs := hide hs
          clear h0 hs
          go_wp2_with fail
          go_round
          case rel => exact ⟨q + 1, by omega, by go_num, by rw [Hs.out]⟩
          case measure => simp [intOf]; omega
      · obtain rfl : q = cells.length := by omega
        obtain ⟨zb, hzb⟩ : ∃ zb, anyZ cells cells.length = zb := ⟨_, rfl⟩
        rw [hzb]
        have Hzb := hide hzb
        clear hzb
        go_wp2_with fail
        go_loop [11, 39] (fun wv idx => ∃ q : Nat, q ≤ order.length ∧ idx = .int .i64 q ∧ wv = .int .i64 (want4 (zb || anyB cells.length order q))) (fun wv idx => order.length - (intOf idx).toNat)
        case atStart => exact ⟨0, by omega, rfl, by rw [show anyB cells.length order 0 = false from rfl, Bool.or_false]⟩
        case round =>
          obtain ⟨t, ht, rfl, rfl⟩ := hrel
          by_cases hlt2 : t < order.length
          · obtain ⟨b1, off1, rfl, hb1, c1⟩ := (HA2.out.below Hb2.out).at_ (k := t) (by simpa using hlt2)
            rw [ints_get, ← gat_get hlt2] at c1
            have hs := anyB_succ (N := cells.length) hlt2
            obtain ⟨y, hy⟩ : ∃ y, gat order t = y := ⟨_, rfl⟩
            rw [hy] at c1 hs
            clear hy
            by_cases x1 : y < 0
            · have g1 : decide (y < 0) = true := by simp [x1]
              have Hs := hide (show (zb || anyB cells.length order (t + 1)) = true by rw [hs, g1]; simp)
              clear x1 hs
              go_wp2_with fail
              go_round
              case rel => exact ⟨t + 1, by omega, by go_num, by rw [Hs.out]; rfl⟩
              case measure => simp [intOf]; omega
            · have g1 : decide (y < 0) = false := by simp; omega
              by_cases x2 : y ≥ (cells.length : Int)
              · have g2 : decide (y ≥ (cells.length : Int)) = true := by simp [x2]
                have Hs := hide (show (zb || anyB cells.length order (t + 1)) = true by rw [hs, g1, g2]; simp)
                clear x1 x2 hs
                go_wp2_with fail
                go_round
                case rel => exact ⟨t + 1, by omega, by go_num, by rw [Hs.out]; rfl⟩
                case measure => simp [intOf]; omega
              · have g2 : decide (y ≥ (cells.length : Int)) = false := by simp; omega
                have Hs := hide (show (zb || anyB cells.length order (t + 1)) = (zb || anyB cells.length order t) by rw [hs, g1, g2]; simp)
                clear x1 x2 hs
                go_wp2_with fail
                go_round
                case rel => exact ⟨t + 1, by omega, by go_num, by rw [Hs.out]⟩
                case measure => simp [intOf]; omega
          · obtain rfl : t = order.length := by omega
            obtain ⟨bb, hbb⟩ : ∃ bb, anyB cells.length order order.length = bb := ⟨_, rfl⟩
            rw [hbb]
            have Hbb := hide hbb
            clear hbb
            have hff := HFi.out _ Hb2.out
            obtain ⟨fb, hfb⟩ : ∃ fb, fitsG r k cells = fb := ⟨_, rfl⟩
            rw [hfb] at hff
            have Hff := hide hff
            have hgg := Hgood.out
            rw [Hzb.out, hfb, Hbb.out] at hgg
            have Hgg := hide hgg
            clear hff hgg hfb
            obtain ⟨rfl, rfl, rfl⟩ : zb = false ∧ fb = true ∧ bb = false := by
              have h := Hgg.out
              cases zb <;> cases fb <;> cases bb <;> simp at h ⊢
            have HO := hide (anyB_all Hbb.out)
            simp only [want4, Bool.or_false, cond_false]
            obtain ⟨i1, hi1⟩ := info_pint
            have Hi1 := hide hi1
            clear hi1
            obtain ⟨bA, offA, rfl, hbA, hcA⟩ := HA.out (by simpa using hN0)
            have HcA := hide hcA
            clear hcA
            go_wp2_with (first | (go_at_call 7; refine (HP.out _ Hb2.out).mono ?_; rintro e w5 ⟨rfl, hw5⟩; rw [hw5]; clear hw5) | (go_at_call 12; refine Hff.out.mono ?_; rintro e w5 ⟨rfl, m5, rfl⟩) | (at_builtin; refine wpList_append_own _ rfl (.const (.slice none 0 0)) (.tmp 77) 22 rfl w2.heap.size 3 i1 (.int .i64 0) 1 8 Tryd.underlying22 Hi1.out.1 Hi1.out.2.1 Hi1.out.2.2.1 Hi1.out.2.2.2 rfl (by decide) (.slice none 0 0) 0 [] rfl (World.ownsRow_nil _ _ _ _) ⟨bA, offA, none⟩ cells.length c (ints cells) rfl (by simp) ?hnews (by simp [ints, Value.oneCell']) ?h63 ?hb ?hbase ?_))
            case hnews =>
              intro j u hu
              obtain ⟨hj, hju⟩ := List.getElem?_eq_some_iff.1 hu
              rw [Addr.add_lit, (below_drewN Hb2.out _).cell hbA, HcA.out j hj, hju]
            case h63 => unfold maxLen; omega
            case hb => omega
            case hbase => exact Nat.le_refl _
            intro v3 w3 hown3 hg3 _
            obtain ⟨g2, cap2, rfl, hgb2, hgl2, -, hcg2⟩ := own_cellsG hown3 hN0
            have hB3 : Below w2.heap.size w2 w3 := Below.trans (below_drewN (Below.refl _ _) _) (grown_below (B := w2.heap.size) hg3 (Nat.le_refl _) nofun)
            have Hcg2 := hide hcg2
            have HB3 := hide hB3
            have hgW2 : W.heap.size ≤ g2 := Nat.le_trans Hb2.out.size hgb2
            clear hown3 hg3 hcg2 hB3
            go_wp2_with fail
            go_loopw [81] (fun idx wr => ∃ q : Nat, q ≤ order.length ∧ idx = .int .i64 q ∧ CellsG wr g2 (makeL r k cells (order.take q)) ∧ Below w2.heap.size w2 wr) (fun idx _ => order.length - (intOf idx).toNat)
            case atStart => exact ⟨0, by omega, rfl, Hcg2.out, HB3.out⟩
            case round =>
              rename World => wr
              obtain ⟨q, hq, rfl, hcr, hbr⟩ := hrel
              have Hcr := hide hcr
              have Hbr := hide hbr
              have HbW := hide (Hb2.out.trans (hbr.mono Hb2.out.size))
              clear hcr hbr Hcg2 HB3
              have hnl : (makeL r k cells (order.take q)).length = cells.length := makeL_len _
              by_cases hlt : q < order.length
              · obtain ⟨b2, off2, rfl, hb2, c1⟩ := (HA2.out.below HbW.out).at_ (k := q) (by simpa using hlt)
                rw [ints_get, ← gat_get hlt] at c1
                have hx := HO.out q hlt
                have hstep := makeL_take (r := r) (k := k) (full := cells) hlt
                have hsub := makeL_sub (r := r) (k := k) (full := cells) q (order := order) hq HO.out
                obtain ⟨x, hxx⟩ : ∃ x, gat order q = x := ⟨_, rfl⟩
                rw [hxx] at c1 hx hstep
                obtain ⟨i0, rfl⟩ := Int.eq_ofNat_of_zero_le hx.1
                have hi0 : i0 < cells.length := by omega
                rw [Int.toNat_natCast] at hstep
                obtain ⟨now, hnow⟩ : ∃ now, makeL r k cells (order.take q) = now := ⟨_, rfl⟩
                rw [hnow] at hstep hnl hsub
                have hcr := Hcr.out
                rw [hnow] at hcr
                have hin0 : i0 < now.length := by omega
                have y := hcr.at_ hin0
                have f := hcr.free i0
                have hcz := hcr.set_ hin0 0
                have hnl' : (now.set i0 0).length = cells.length := by rw [List.length_set]; exact hnl
                have hinn : ∀ j, j < (now.set i0 0).length → 0 ≤ gat (now.set i0 0) j ∧ gat (now.set i0 0) j ≤ (r * k : Nat) := fun j hj => by
                  rw [gat_set hin0]
                  have := Hin.out j (by omega)
                  split
                  · omega
                  · rcases hsub j with h | h
                    · rw [h]; exact this
                    · rw [h]; omega
                have hbz := Hbr.out.setCell (p := ⟨g2, i0, none⟩) hgb2 (.int .i64 0)
                have hs := solutions_any r k 2 (some ⟨g2, 0, none⟩) cap2 (now.set i0 0) (wr.setCell ⟨g2, i0, none⟩ (.int .i64 0)) hr hk hr3 hk3 (by rw [hnl']; exact Hl.out) hinn (by decide) hcz.cells
                rw [hnl'] at hs
                have hglt : g2 < (wr.setCell ⟨g2, i0, none⟩ (.int .i64 0)).heap.size := by
                  obtain ⟨cs, hb, _⟩ := hcz
                  exact hb.lt
                obtain ⟨m, hmm⟩ : ∃ m, (answers r k (now.set i0 0) 2).length = m := ⟨_, rfl⟩
                have hkeep : keepL r k now i0 = if m > 1 then now else now.set i0 0 := by unfold keepL; rw [hmm]
                rw [hmm] at hs
                have hm2' : m ≤ 2 := by rw [← hmm]; exact rows_len
                obtain ⟨wv, hwv⟩ : ∃ wv, gat now i0 = wv := ⟨_, rfl⟩
                rw [hwv] at y
                have HS2 := hide hs
                have Hcz := hide hcz
                have Hbz := hide hbz
                have Hstep := hide hstep
                have Hkeep := hide hkeep
                have Hwv := hide hwv
                have Hnl := hide hnl
                clear hs hcz hbz hinn hstep hkeep hcr hsub hxx hnow hwv hmm Hcr hx hnl hnl'
                by_cases hgt : m > 1
                · have d1 : decide ((m : Int) > 1) = true := decide_eq_true (by omega)
                  have Hk2 := hide (show keepL r k now i0 = now by rw [Hkeep.out, if_pos hgt])
                  clear hgt
                  go_wp2_with (go_at_call 9; refine HS2.out.mono ?_; rintro e w7 ⟨A', c', rfl, hle, hrows, hb7⟩; have hcz7 := Hcz.out.below hb7 hglt; have y7 := hcz7.at_ (j := i0) (by simpa using hin0); have f7 := hcz7.free i0)
                  go_roundw
                  case rel =>
                    have h9 := hcz7.set_ (i := i0) (by simpa using hin0) wv
                    rw [← Hwv.out, set_set_back hin0] at h9
                    rw [Hwv.out] at h9
                    exact ⟨q + 1, by omega, by go_num, by rw [Hstep.out, Hk2.out]; exact h9, (Hbz.out.trans (hb7.mono Hbz.out.size)).setCell (p := ⟨g2, i0, none⟩) hgb2 _⟩
                  case measure => simp [intOf]; omega
                · have d1 : decide ((m : Int) > 1) = false := decide_eq_false (by omega)
                  have Hk2 := hide (show keepL r k now i0 = now.set i0 0 by rw [Hkeep.out, if_neg hgt])
                  clear hgt
                  go_wp2_with (go_at_call 9; refine HS2.out.mono ?_; rintro e w7 ⟨A', c', rfl, hle, hrows, hb7⟩; have hcz7 := Hcz.out.below hb7 hglt)
                  go_roundw
                  case rel =>
                    exact ⟨q + 1, by omega, by go_num, by rw [Hstep.out, Hk2.out]; exact hcz7, Hbz.out.trans (hb7.mono Hbz.out.size)⟩
                  case measure => simp [intOf]; omega
              · obtain rfl : q = order.length := by omega
                have hf := Hcr.out
                rw [List.take_length] at hf hnl
                have hsame := same_int (some ⟨g, 0, none⟩) (some ⟨g2, 0, none⟩) cap cap2 (makeL r k cells order) (makeL r k cells order) wr _ _ (by omega) (by omega) ((Hcg.out.below Hbr.out hgl).cells) hf.cells
                rw [hnl, decide_eq_true rfl] at hsame
                have HSame := hide hsame
                clear hf hnl hsame
                go_wp2_with (go_at_call 10; refine HSame.out.mono ?_; rintro e w8 ⟨rfl, m8, rfl⟩)
                go_ret
                exact ⟨rfl, below_drewN HbW.out _⟩
theorem makes_any (a b : Int) (A A2 : Option Addr) (c c2 : Nat) (cells order : List Int) (W : World) (hm : cells.length ≤ 9223372036854775807) (hm2 : order.length ≤ 9223372036854775807) (hA : Cells W W.heap.size A (ints cells)) (hA2 : Cells W W.heap.size A2 (ints order)) (hT : TabAt 1 Lib.deBruijn64tab W) :
    Calls Tryd.prog 4 #[.int .i64 a, .int .i64 b, .slice A cells.length c, .slice A2 order.length c2] W fun e w' => e = .returned (.bool true) ∧ Below W.heap.size W w' := by
  by_cases hok : PuzOk a b cells
  · have hok0 := hok
    obtain ⟨r, k, rfl, rfl, h1, h2, h3, h4, h5, h6⟩ := puz_nat hok
    exact makes_ok r k A A2 c c2 cells order W hA hA2 hm2 hT h1 h3 h2 h4 h5 h6 hok0
  · exact (makes_bad a b A A2 c c2 cells order W hm hm2 hA hA2 hok).mono fun e w' h => ⟨h.1, by rw [h.2]; exact Below.refl _ _⟩
end Go.Proofs.YtfoehijlafooaaaDoor
