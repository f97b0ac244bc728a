/- tourney.Rate walked -/
import Derived.Test.YtfoehijlafooaaaFlClamp
import Derived.Test.YtfoehijlafooaaaTourRes
import Derived.BigRegion
namespace Go.Proofs.Ytfoehijlafooaaa
open Go.RowKit Ieee

theorem run_f (op : BinOp) (x y r : Nat) (h : floatBits op .f64 x y = some r) : ∀ w, (binOp op 78 (.float .f64 x) (.float .f64 y)).run Try.prog w = .ok (.float .f64 r) w := fun w => run_float_arith w op 78 .f64 x y r h
theorem store_f (a : Addr) (b : Nat) (m : Mode) (w : World) : (store a (.float .f64 b) m).run Try.prog w = stored Try.prog w a (.float .f64 b) m := run_store Try.prog w a _ m rfl
theorem half_of (h : Int) (hh : 0 ≤ h ∧ h ≤ 2) : floatBits .quo .f64 (floatOfInt .f64 h) 4611686018427387904 = some (halfF h) := by
  have h3 : h = 0 ∨ h = 1 ∨ h = 2 := by omega
  rcases h3 with rfl | rfl | rfl <;> decide +kernel

set_option maxHeartbeats 8000000 in
set_option maxRecDepth 100000 in
theorem rate_good (A0 A : Option Addr) (c0 c : Nat) (start : List Nat) (rs : List Res) (k : Nat) (W : World) (hS : Cells W W.heap.size A0 (flts start)) (hA : Cells W W.heap.size A (ints (flatR rs))) (h0 : 0 < start.length) (h200 : start.length ≤ 200) (hok : ResOk start.length rs) (hk : fairF k = true) (hu : unfair start = false) :
    Calls Try.prog 37 #[.slice A0 start.length c0, .slice A rs.length c, .float .f64 k] W fun e w' => ∃ A' c', e = .returned (.tuple #[.slice A' start.length c', .int .i64 0]) ∧ Cells w' w'.heap.size A' (flts (ratL k start rs)) ∧ Below W.heap.size W w' := by
  have hL := hok.1
  have HR := hide (results_any start.length A c rs W (by omega) hA)
  rw [resB_true.2 hok] at HR
  have hkf := fin_fair hk
  have hsf : FinAll 1000000 start := fun j hj => fin_fair (by
    unfold unfair at hu
    rw [List.any_eq_false] at hu
    have := hu start[j] (List.getElem_mem hj)
    simpa using this)
  have HFk := hide (fair_any k)
  simp only [hk] at HFk
  have HCt := hide (fun w (hb : Below W.heap.size W w) => contains_any A0 c0 start w W.heap.size (by omega) (hS.below hb))
  simp only [hu] at HCt
  obtain ⟨b, off, rfl, hbS, hcS⟩ := hS (by simpa using h0)
  have HCl := hide (fun w (hb : Below W.heap.size W w) => clonef_any b off c0 start w (by omega) (fun j hj => by
    have h := hcS j (by simpa using hj)
    rw [flts_get] at h
    rw [hb.cell hbS, h]))
  have HA := hide hA
  have Hok := hide hok
  have Hkf := hide hkf
  have Hsf := hide hsf
  have d200 : decide ((start.length : Int) > 200) = false := decide_eq_false (by omega)
  clear hA hok hk hu hcS hkf hsf
  go_enter Try.func37, Try.ntmps37
  go_wp2_with (first
    | (go_at_call 64; refine HR.out.mono ?_; rintro e w1 ⟨rfl, hb1⟩)
    | (go_at_call 67; refine (HFk.out _).mono ?_; rintro e w2 ⟨rfl, hw2⟩; rw [hw2]; clear hw2)
    | (go_at_call 68; refine (HCt.out _ hb1).mono ?_; rintro e w2 ⟨rfl, hw2⟩; rw [hw2]; clear hw2)
    | (go_at_call 70; refine (HCl.out _ hb1).mono ?_; rintro e w3 ⟨v', rfl, hown, hb3⟩))
  obtain ⟨g, cap, rfl, hg1, hg2, hcap, hfg⟩ := own_flts hown h0
  have Hfg := hide hfg
  have Hb := hide (hb1.trans (hb3.mono hb1.size))
  have hgW : W.heap.size ≤ g := Nat.le_trans hb1.size hg1
  clear hown hfg hb1 hb3 hg1
  go_wp2_with fail
  go_loopw [36] (fun idx wr => ∃ q : Nat, q ≤ rs.length ∧ idx = .int .i64 q ∧ FltsG wr g (ratL k start (rs.take q)) ∧ Below W.heap.size W wr) (fun idx _ => rs.length - (intOf idx).toNat)
  case atStart => exact ⟨0, by omega, rfl, Hfg.out, Hb.out⟩
  case round =>
    rename World => wr
    obtain ⟨q, hq, rfl, hfr, hbr⟩ := hrel
    have Hfr := hide hfr
    have Hbr := hide hbr
    clear hfr hbr Hfg Hb
    have hrl := ratL_len k start (rs.take q)
    by_cases hlt : q < rs.length
    · obtain ⟨bA, oA, rfl, hbA, c1, c2, c3⟩ := res_at (HA.out.below Hbr.out) hlt
      have hg := Hok.out.2 _ (List.getElem_mem hlt)
      have hstep := ratL_take (k := k) (out := start) hlt
      have hfin := ratL_fin Hkf.out Hsf.out rfl Hok.out q hq
      obtain ⟨r, hr⟩ : ∃ r, rs[q] = r := ⟨_, rfl⟩
      rw [hr] at c1 c2 c3 hg hstep
      clear hr
      obtain ⟨x, y, h⟩ := r
      obtain ⟨g1, g2, g3, g4, g5, g6, g7⟩ := hg
      simp only at c1 c2 c3 g1 g2 g3 g4 g5 g6 g7 hstep
      obtain ⟨x, rfl⟩ := Int.eq_ofNat_of_zero_le g1
      obtain ⟨y, rfl⟩ := Int.eq_ofNat_of_zero_le g3
      rw [Int.toNat_natCast, Int.toNat_natCast] at hstep
      obtain ⟨out, hout⟩ : ∃ out, ratL k start (rs.take q) = out := ⟨_, rfl⟩
      rw [hout] at hstep hfin hrl
      have hfo := Hfr.out
      rw [hout] at hfo
      have hxl : x < out.length := by omega
      have hyl : y < out.length := by omega
      obtain ⟨d0, d1, d2, e, cc, a', b', e0, e1, e2, ⟨o0, ho0⟩, ⟨o1, ho1⟩, e3, e4, e5, e6, hs, -⟩ := stepF_facts (A := x) (B := y) h Hkf.out hfin hxl hyl (by omega)
      rw [hs] at hstep
      have z1 := hfo.at_ hxl
      have z2 := hfo.at_ hyl
      obtain ⟨a, ha⟩ : ∃ a, out[x] = a := ⟨_, rfl⟩
      obtain ⟨bb, hbb⟩ : ∃ bb, out[y] = bb := ⟨_, rfl⟩
      have Ha := hide ha
      have Hbb := hide hbb
      rw [ha] at z1 e0 e5
      rw [hbb] at z2 e0 e6
      have Hstep := hide hstep
      have Hfo := hide hfo
      have r0 := run_f .sub a bb d0 e0
      have r1 := run_f .quo d0 4650248090236747776 d1 e1
      have r2 := run_f .add d1 4602678819172646912 d2 e2
      have r3 := run_f .quo _ _ _ (half_of h ⟨g6, g7⟩)
      have r4 := run_f .sub _ _ e e3
      have r5 := run_f .mul k e cc e4
      have r6 := run_f .add a cc a' e5
      have r7 := run_f .sub bb cc b' e6
      have hxy : x ≠ y := by omega
      clear ha hbb hstep hs hfin hfo e0 e1 e2 e3 e4 e5 e6 hout Hfr g1 g3 g5
      go_wp2_with fail
      have BX := hide (Blk.new wr 72 #[.int .i64 x, .int .i64 y, .int .i64 h])
      have Hf5 := hide (Hfo.out.alloc (.cells #[.int .i64 x, .int .i64 y, .int .i64 h] 72))
      have Hb5 := hide (below_alloc0 Hbr.out (.cells #[.int .i64 x, .int .i64 y, .int .i64 h] 72))
      have hgx0 : g < wr.heap.size := Hfo.out.lt
      obtain ⟨w5, hw5⟩ : ∃ w5, wr.alloc (.cells #[.int .i64 x, .int .i64 y, .int .i64 h] 72) = w5 := ⟨_, rfl⟩
      obtain ⟨gx, hgx⟩ : ∃ gx, wr.heap.size = gx := ⟨_, rfl⟩
      rw [hw5] at BX Hf5 Hb5 ⊢
      rw [hgx] at BX hgx0 ⊢
      have hgxW : W.heap.size ≤ gx := by rw [← hgx]; exact Hbr.out.size
      clear hw5 hgx c1 c2 c3 z1 z2 Hbr Hfo
      have s0 : w5.cell? ⟨gx, 0, none⟩ = some (.int .i64 x) := BX.out.cellv rfl
      have s1 : w5.cell? ⟨gx, 1, none⟩ = some (.int .i64 y) := BX.out.cellv rfl
      have s2 : w5.cell? ⟨gx, 2, none⟩ = some (.int .i64 h) := BX.out.cellv rfl
      have z1 := Hf5.out.at_ hxl
      have z2 := Hf5.out.at_ hyl
      rw [Ha.out] at z1
      rw [Hbb.out] at z2
      have fx := Hf5.out.free x
      have fy := Hf5.out.free y
      have sf := store_f
      have n1 : ¬ gx = g := by omega
      have n2 : ¬ g = gx := by omega
      go_quiet (fail)
      rcases clamp_split d2 ho0 ho1 with ⟨t0, hc⟩ | ⟨t0, t1, hc⟩ | ⟨t0, t1, hc⟩
      · rw [hc] at r4
        clear hc ho0 ho1
        go_wp2_with fail
        go_big_region
        go_wp2_with fail
        go_roundw
        case rel => exact ⟨q + 1, by omega, by go_num, by rw [Hstep.out]; exact (((Hf5.out.drewN _).set_ hxl a').set_ (by rw [List.length_set]; exact hyl) b'), ((below_drewN Hb5.out _).setCell (p := ⟨g,x,none⟩) hgW _).setCell (p := ⟨g,y,none⟩) hgW _⟩
        case measure => simp [intOf]; omega
      · rw [hc] at r4
        clear hc ho0 ho1
        go_wp2_with fail
        go_big_region
        go_wp2_with fail
        go_roundw
        case rel => exact ⟨q + 1, by omega, by go_num, by rw [Hstep.out]; exact (((Hf5.out.drewN _).set_ hxl a').set_ (by rw [List.length_set]; exact hyl) b'), ((below_drewN Hb5.out _).setCell (p := ⟨g,x,none⟩) hgW _).setCell (p := ⟨g,y,none⟩) hgW _⟩
        case measure => simp [intOf]; omega
      · rw [hc] at r4
        clear hc ho0 ho1
        go_wp2_with fail
        go_big_region
        go_wp2_with fail
        go_roundw
        case rel => exact ⟨q + 1, by omega, by go_num, by rw [Hstep.out]; exact (((Hf5.out.drewN _).set_ hxl a').set_ (by rw [List.length_set]; exact hyl) b'), ((below_drewN Hb5.out _).setCell (p := ⟨g,x,none⟩) hgW _).setCell (p := ⟨g,y,none⟩) hgW _⟩
        case measure => simp [intOf]; omega
    · obtain rfl : q = rs.length := by omega
      have hfr := Hfr.out
      rw [List.take_length] at hfr hrl
      have hlen : start.length = (ratL k start rs).length := hrl.symm
      go_wp2_with fail
      go_ret2
      exact ⟨_, _, rfl, hfr.cells, Hbr.out⟩
end Go.Proofs.Ytfoehijlafooaaa
