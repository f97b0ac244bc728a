/- gameref.Rated walked -/
import Derived.Test.YtfoehijlafooaaaFlClamp
import Derived.Test.YtfoehijlafooaaaTourRes
import Derived.BigRegion
namespace Go.Proofs.Ytfoehijlafooaaa
open Go.RowKit Ieee

theorem run_fr (op : BinOp) (x y r : Nat) (h : floatBits op .f64 x y = some r) : ∀ w, (binOp op 78 (.float .f64 x) (.float .f64 y)).run Try.prog w = .ok (.float .f64 r) w := fun w => run_float_arith w op 78 .f64 x y r h
theorem store_fr (a : Addr) (b : Nat) (m : Mode) (w : World) : (store a (.float .f64 b) m).run Try.prog w = stored Try.prog w a (.float .f64 b) m := run_store Try.prog w a _ m rfl
theorem run_half (h : Int) (hh : 0 ≤ h ∧ h ≤ 2) (w : World) : (Instr.index 114 (.agg #[.float .f64 0, .float .f64 4602678819172646912, .float .f64 4607182418800017408]) (.int .i64 h)).run Try.prog w = .ok (.float .f64 (halfF h)) w := by
  have h3 : h = 0 ∨ h = 1 ∨ h = 2 := by omega
  rcases h3 with rfl | rfl | rfl <;> simp [Instr.index, go_sem, halfF] <;> rfl
set_option maxHeartbeats 8000000 in
set_option maxRecDepth 100000 in
theorem rated_good (A0 A : Option Addr) (c0 c : Nat) (start : List Nat) (rs : List Res) (k : Nat) (W : World) (hS : Cells W W.heap.size A0 (flts start)) (hA : Cells W W.heap.size A (ints (flatR rs))) (h0 : 0 < start.length) (h200 : start.length ≤ 200) (hok : ResOk start.length rs) (hk : fairF k = true) (hu : unfair start = false) :
    Calls Try.prog 42 #[.slice A0 start.length c0, .slice A rs.length c, .float .f64 k] W fun e w' => ∃ A' c', e = .returned (.slice A' start.length c') ∧ Cells w' w'.heap.size A' (flts (ratL k start rs)) ∧ Below W.heap.size W w' := by
  have hL := hok.1
  have hkf := fin_fair hk
  have hsf : FinAll 1000000 start := fun j hj => fin_fair (by
    unfold unfair at hu
    rw [List.any_eq_false] at hu
    have := hu start[j] (List.getElem_mem hj)
    simpa using this)
  obtain ⟨b, off, rfl, hbS, hcS⟩ := hS (by simpa using h0)
  obtain ⟨i0, hi⟩ := info_f64
  have Hi := hide hi
  have Hc := hide (show ∀ j u, (flts start)[j]? = some u → W.cell? (Addr.add ⟨b, off, none⟩ j) = some u from fun j u hu => by
    obtain ⟨hj, hju⟩ := List.getElem?_eq_some_iff.1 hu
    have h := hcS j (by simpa using hj)
    rw [hju] at h
    rw [Addr.add_lit]
    exact h)
  have HA := hide hA
  have Hok := hide hok
  have Hkf := hide hkf
  have Hsf := hide hsf
  clear hi hA hok hk hu hcS hkf hsf
  go_enter Try.func42, Try.ntmps42
  go_wp2_with (at_builtin; refine wpList_append_own _ rfl _ _ 77 rfl W.heap.size 78 i0 (.float .f64 0) 1 8 Try.underlying77 Hi.out.1 Hi.out.2.1 Hi.out.2.2.1 Hi.out.2.2.2 rfl (by decide) _ _ _ rfl (World.ownsRow_nil _ _ _ _) ⟨b, off, none⟩ start.length c0 (flts start) rfl ?qc1 ?qc2 ?qc3 ?qc4 ?qc5 ?qc6 ?_)
  case qc1 => simp
  case qc2 => exact Hc.out
  case qc3 => simp [flts, Value.oneCell']
  case qc4 => unfold maxLen; omega
  case qc5 => omega
  case qc6 => simp
  intro v' w1 hown hgrow _
  have hown : w1.ownsRow W.heap.size 78 1 v' start.length (flts start) := by simpa using hown
  have hb3 : Below W.heap.size W w1 := (Below.refl _ W).grown hgrow (by simp) (by intro k hk; simp [Value.ownBlock] at hk)
  obtain ⟨g, cap, rfl, hg1, hg2, hcap, hfg⟩ := own_flts hown h0
  have Hfg := hide hfg
  have hgW : W.heap.size ≤ g := hg1
  have Hb := hide hb3
  clear hown hfg hb3 hgrow Hi Hc
  go_wp2_with fail
  go_loopw [8] (fun idx wr => ∃ q : Nat, q ≤ rs.length ∧ idx = .int .i64 q ∧ FltsG wr g (ratL k start (rs.take q)) ∧ Below W.heap.size W wr) (fun idx _ => rs.length - (intOf idx).toNat)
  case atStart => exact ⟨0, by omega, rfl, Hfg.out, Hb.out⟩
  case round =>
    rename World => wr
    obtain ⟨q, hq, rfl, hfr, hbr⟩ := hrel
    have Hfr := hide hfr
    have Hbr := hide hbr
    clear hfr hbr Hfg Hb
    have hrl := ratL_len k start (rs.take q)
    by_cases hlt : q < rs.length
    · obtain ⟨bA, oA, rfl, hbA, c1, c2, c3⟩ := res_at (HA.out.below Hbr.out) hlt
      have hg := Hok.out.2 _ (List.getElem_mem hlt)
      have hstep := ratL_take (k := k) (out := start) hlt
      have hfin := ratL_fin Hkf.out Hsf.out rfl Hok.out q hq
      obtain ⟨r, hr⟩ : ∃ r, rs[q] = r := ⟨_, rfl⟩
      rw [hr] at c1 c2 c3 hg hstep
      clear hr
      obtain ⟨x, y, h⟩ := r
      obtain ⟨g1, g2, g3, g4, g5, g6, g7⟩ := hg
      simp only at c1 c2 c3 g1 g2 g3 g4 g5 g6 g7 hstep
      obtain ⟨x, rfl⟩ := Int.eq_ofNat_of_zero_le g1
      obtain ⟨y, rfl⟩ := Int.eq_ofNat_of_zero_le g3
      rw [Int.toNat_natCast, Int.toNat_natCast] at hstep
      obtain ⟨out, hout⟩ : ∃ out, ratL k start (rs.take q) = out := ⟨_, rfl⟩
      rw [hout] at hstep hfin hrl
      have hfo := Hfr.out
      rw [hout] at hfo
      have hxl : x < out.length := by omega
      have hyl : y < out.length := by omega
      obtain ⟨d0, d1, d2, e, cc, a', b', e0, e1, e2, ⟨o0, ho0⟩, ⟨o1, ho1⟩, e3, e4, e5, e6, hs, -⟩ := stepF_facts (A := x) (B := y) h Hkf.out hfin hxl hyl (by omega)
      rw [hs] at hstep
      have z1 := hfo.at_ hxl
      have z2 := hfo.at_ hyl
      obtain ⟨a, ha⟩ : ∃ a, out[x] = a := ⟨_, rfl⟩
      obtain ⟨bb, hbb⟩ : ∃ bb, out[y] = bb := ⟨_, rfl⟩
      have Ha := hide ha
      have Hbb := hide hbb
      rw [ha] at z1 e0 e5
      rw [hbb] at z2 e0 e6
      have Hstep := hide hstep
      have Hfo := hide hfo
      have r0 := run_fr .sub a bb d0 e0
      have r1 := run_fr .quo d0 4650248090236747776 d1 e1
      have r2 := run_fr .add d1 4602678819172646912 d2 e2
      have r4 := run_fr .sub _ _ e e3
      have r5 := run_fr .mul k e cc e4
      have r6 := run_fr .add a cc a' e5
      have r7 := run_fr .sub bb cc b' e6
      have hxy : x ≠ y := by omega
      clear ha hbb hstep hs hfin hfo e0 e1 e2 e3 e4 e5 e6 hout Hfr g1 g3 g5
      have ri := run_half h ⟨g6, g7⟩
      have fx := Hfo.out.free x
      have fy := Hfo.out.free y
      have sf := store_fr
      have hgx0 : g < wr.heap.size := Hfo.out.lt
      rcases clamp_split d2 ho0 ho1 with ⟨t0, hc⟩ | ⟨t0, t1, hc⟩ | ⟨t0, t1, hc⟩
      · rw [hc] at r4
        clear hc ho0 ho1
        go_wp2_with fail
        go_quiet (fail)
        go_wp2_with fail
        go_roundw
        case rel => exact ⟨q + 1, by omega, by go_num, by rw [Hstep.out]; exact (((Hfo.out.drewN _).set_ hxl a').set_ (by rw [List.length_set]; exact hyl) b'), ((below_drewN Hbr.out _).setCell (p := ⟨g,x,none⟩) hgW _).setCell (p := ⟨g,y,none⟩) hgW _⟩
        case measure => simp [intOf]; omega
      · rw [hc] at r4
        clear hc ho0 ho1
        go_wp2_with fail
        go_quiet (fail)
        go_wp2_with fail
        go_roundw
        case rel => exact ⟨q + 1, by omega, by go_num, by rw [Hstep.out]; exact (((Hfo.out.drewN _).set_ hxl a').set_ (by rw [List.length_set]; exact hyl) b'), ((below_drewN Hbr.out _).setCell (p := ⟨g,x,none⟩) hgW _).setCell (p := ⟨g,y,none⟩) hgW _⟩
        case measure => simp [intOf]; omega
      · rw [hc] at r4
        clear hc ho0 ho1
        go_wp2_with fail
        go_quiet (fail)
        go_wp2_with fail
        go_roundw
        case rel => exact ⟨q + 1, by omega, by go_num, by rw [Hstep.out]; exact (((Hfo.out.drewN _).set_ hxl a').set_ (by rw [List.length_set]; exact hyl) b'), ((below_drewN Hbr.out _).setCell (p := ⟨g,x,none⟩) hgW _).setCell (p := ⟨g,y,none⟩) hgW _⟩
        case measure => simp [intOf]; omega
    · obtain rfl : q = rs.length := by omega
      have hfr := Hfr.out
      rw [List.take_length] at hfr hrl
      have hlen : start.length = (ratL k start rs).length := hrl.symm
      go_wp2_with fail
      go_ret
      exact ⟨_, _, rfl, hfr.cells, Hbr.out⟩
end Go.Proofs.Ytfoehijlafooaaa
