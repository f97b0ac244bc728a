/- gamelaw.NimGraphs answers true: where nothing is too large. -/
import Derived.Test.YtfoehijlafooaaaNimGraphs
namespace Go.Proofs.Ytfoehijlafooaaa
open Go.RowKit

set_option maxHeartbeats 4000000 in
set_option maxRecDepth 100000 in
theorem nimGraphs_b (A1 A2 : Option Addr) (c1 c2 : Nat) (a b : List (List Int)) (w : World) (hm1 : a.length ≤ 9223372036854775807) (hm2 : b.length ≤ 9223372036854775807)
    (hml1 : ∀ k (h : k < a.length), a[k].length ≤ 9223372036854775807) (hml2 : ∀ k (h : k < b.length), b[k].length ≤ 9223372036854775807)
    (h1 : Rows2 w w.heap.size A1 a) (h2 : Rows2 w w.heap.size A2 b) (ha0 : lookS a = 0) (hb0 : lookS b = 0) (hL : ¬ 1000 < a.length * b.length) :
    Calls Try.prog 4 #[.slice A1 a.length c1, .slice A2 b.length c2] w fun e w' => e = .returned (.bool true) ∧ Below w.heap.size w w' := by
  have hl7 : (valsL a).length ≤ 1000000 := by
    unfold valsL
    split
    · rename_i h; have := lookS_zero h.1; simp; omega
    · simp
  obtain ⟨vE, hvE⟩ : ∃ v, valsE a = v := ⟨_, rfl⟩
  have hvv : ((vE : Int) != vE) = false := by simp
  obtain ⟨hn1, hl1, hi1⟩ := lookS_zero ha0
  obtain ⟨hn2, hl2, hi2⟩ := lookS_zero hb0
  have hbig0 : 0 ≤ (a.length : Int) * (b.length : Int) := by rw [← Int.natCast_mul]; omega
  have hL' : (a.length : Int) * (b.length : Int) ≤ 1000 := by rw [← Int.natCast_mul]; omega
  obtain ⟨i0, hi0, hz0, hz1, hz2⟩ := info_parts info_int
  obtain ⟨s0, si0, sz0, sz1, sz2⟩ := info_parts info_ints
  have HI := hide (And.intro hi0 (And.intro hz0 (And.intro hz1 hz2)))
  have SI := hide (And.intro si0 (And.intro sz0 (And.intro sz1 sz2)))
  have HL := hide hL
  have Ha0 := hide ha0
  have Hb0 := hide hb0
  have Hi1 := hide hi1
  have Hi2 := hide hi2
  have Hl1 := hide hl1
  have Hl2 := hide hl2
  have H1 := hide h1
  have H2 := hide h2
  have Hml1 := hide hml1
  have Hml2 := hide hml2
  have HvE := hide hvE
  clear h1 h2 hml1 hml2 hvE ha0 hb0 hL hl1 hi1 hl2 hi2 hi0 hz0 hz1 hz2 si0 sz0 sz1 sz2
  go_enter Try.func4, Try.ntmps4
  go_wp2_with fail
  refine (values_any A1 c1 a w (by omega) H1.out).mono ?_
  intro e w1 he
  obtain ⟨⟨A3, c3, rfl, hc3, hcl3, hbw1⟩, hs⟩ := Vals.of he
  rw [HvE.out]
  have Hcl3 := hide hcl3
  have Hbw1 := hide hbw1
  have HR1 := hide ((H1.out.below hbw1).more hbw1.size)
  have HR2 := hide ((H2.out.below hbw1).more hbw1.size)
  clear he hs hcl3 hbw1
  go_wp2_with fail
  refine (valuesOf_any A1 c1 a w1 (by omega) (fun k h => by have := Hml1.out k h; omega) HR1.out).mono ?_
  intro e w2 he
  obtain ⟨⟨A4, c4, rfl, hc4, hcl4, hbw2⟩, hs⟩ := Vals.of he
  rw [HvE.out]
  have Hcl4 := hide hcl4
  have Hbw2 := hide hbw2
  have HR3 := hide ((HR1.out.below hbw2).more hbw2.size)
  have HR4 := hide ((HR2.out.below hbw2).more hbw2.size)
  clear he hs hcl4 hbw2
  go_wp2_with fail
  refine (both_any A1 A2 c1 c2 a b w2 (by omega) (by omega) HR3.out HR4.out).mono ?_
  intro e w3 he
  obtain ⟨A5, c5, rfl, hc5, hcl5, hbw3⟩ := BothP.of he
  have Hcl5 := hide hcl5
  have Hbw3 := hide hbw3
  have HR5 := hide ((HR3.out.below hbw3).more hbw3.size)
  have HR6 := hide ((HR4.out.below hbw3).more hbw3.size)
  have Hs := hide ((same_int A3 A4 c3 c4 (valsL a) (valsL a) w3 _ _ (by omega) (by omega) ((Hcl3.out.below Hbw2.out).below (hbw3.mono Hbw2.out.size)) (Hcl4.out.below hbw3)).mono
    fun e w' h => (⟨by simpa using h.1, h.2⟩ : e = .returned (.bool true) ∧ ∃ n, w' = w3.drewN n))
  clear he hcl5 hbw3
  go_wp2_with fail
  refine Hs.out.mono ?_
  rintro e w4 ⟨rfl, n, rfl⟩
  have HR7 := hide (HR5.out.below (below_drewN (Below.refl _ w3) n))
  have HR8 := hide (HR6.out.below (below_drewN (Below.refl _ w3) n))
  have hball : Below w.heap.size w (w3.drewN n) := below_drewN ((Hbw1.out.trans (Hbw2.out.mono Hbw1.out.size)).trans (Hbw3.out.mono (Nat.le_trans Hbw1.out.size Hbw2.out.size))) n
  have Hball := hide hball
  clear hball
  go_wp2_with fail
  refine (graph_any A1 c1 a _ _ (by omega) (fun k h => by have := Hml1.out k h; omega) HR7.out).mono ?_
  rintro e w5 ⟨rfl, rfl⟩
  rw [Ha0.out]
  go_wp2_with fail
  refine (graph_any A2 c2 b _ _ (by omega) (fun k h => by have := Hml2.out k h; omega) HR8.out).mono ?_
  rintro e w5 ⟨rfl, rfl⟩
  rw [Hb0.out]
  go_wp2_with fail
  obtain ⟨W, hW⟩ : ∃ W : World, W = w3.drewN n := ⟨_, rfl⟩
  rw [← hW] at HR7 HR8 Hball ⊢
  have HX := hide (Hcl5.out.below (below_drewN (Below.refl _ w3) n))
  rw [← hW] at HX
  have hWs : w3.heap.size ≤ W.heap.size := by rw [hW]; exact Nat.le_refl _
  have HX2 := hide (HX.out.more hWs)
  have HR9 := hide (HR7.out.more hWs)
  have HR10 := hide (HR8.out.more hWs)
  clear hW HX HR1 HR2 HR3 HR4 HR5 HR6 HR7 HR8 Hcl3 Hcl4 Hbw1 Hbw2 Hbw3 Hcl5 Hs
  go_loopw [11, 12, 13] (fun wv all idx wr => ∃ (p : Nat) (wn : Int), p ≤ a.length * b.length ∧ wv = .int .i64 wn ∧ idx = .int .i64 p ∧ RowsOwn wr W.heap.size 26 all (bothRows a b p) ∧ Below W.heap.size W wr ∧
      ((wn = 0 ∧ ∀ q, q < p → (rowS a b (q / b.length) (q % b.length)).length ≤ 1000) ∨ (wn = 2 ∧ TooLong a b))) (fun _ _ idx _ => a.length * b.length - (intOf idx).toNat)
  case atStart => exact ⟨0, 0, by omega, rfl, rfl, RowsOwn.nil_ _ _ _, Below.refl _ _, .inl ⟨rfl, fun q hq => by omega⟩⟩
  case round =>
    obtain ⟨p, wn, hp, rfl, rfl, hrow, hbw, hor⟩ := hrel
    have Hrow := hide hrow
    have Hbw := hide hbw
    have hp0 : (p : Int) ≤ (a.length : Int) * (b.length : Int) := by rw [← Int.natCast_mul]; omega
    clear hrow hbw
    rcases hor with ⟨rfl, hall⟩ | ⟨rfl, htl⟩
    · have Hall := hide hall
      clear hall
      by_cases hlt : p < a.length * b.length
      · have hp1 : (p : Int) < (a.length : Int) * (b.length : Int) := by rw [← Int.natCast_mul]; omega
        have hbpos : 0 < b.length := by
          rcases Nat.eq_zero_or_pos b.length with h | h
          · rw [h, Nat.mul_zero] at hlt; omega
          · exact h
        have hi : p / b.length < a.length := (Nat.div_lt_iff_lt_mul hbpos).2 hlt
        have hj : p % b.length < b.length := Nat.mod_lt _ hbpos
        have hpe : p / b.length * b.length + p % b.length = p := by rw [Nat.mul_comm]; exact Nat.div_add_mod p b.length
        have Hpe := hide hpe
        clear hpe
        go_wp2_with fail
        go_quiet (fail)
        have e1 : (p : Int) / (b.length : Int) = ((p / b.length : Nat) : Int) := rfl
        have e2 : (p : Int) % (b.length : Int) = ((p % b.length : Nat) : Int) := rfl
        rw [e1, e2]
        clear e1 e2
        obtain ⟨w1, hw1⟩ : ∃ w1 : World, w1 = wr.drewN nq := ⟨_, rfl⟩
        rw [← hw1]
        have hdr : Only (fun _ => False) wr w1 := by rw [hw1]; exact (Only.refl _ wr).drewN nq
        have Hrow1 := hide (Hrow.out.only hdr (fun k _ h => h))
        have Hbw1 := hide (Hbw.out.trans (hdr.below_ (fun _ h => h.elim) Hbw.out.size))
        clear hw1 hdr Hrow Hbw
        generalize hii : p / b.length = i at *
        generalize hjj : p % b.length = j at *
        have e3 : wrap64 ((i : Nat) : Int) = i := IntWalk.wrap64_in _ (by omega)
        rw [e3]
        clear e3
        have Hii := hide hii
        have Hjj := hide hjj
        clear hii hjj
        obtain ⟨b1, off1, rfl, hb1, Ak, ck, hle, hcell, hck⟩ := HR9.out.at_ hi
        have Hck := hide hck
        have Hcell := hide (fun W' (hW : Below W.heap.size W W') => (hW.cell (p := ⟨b1, off1 + i, none⟩) hb1).trans hcell)
        clear hck hcell
        obtain ⟨b2, off2, rfl, hb2, Bk, dk, hle2, hcell2, hck2⟩ := HR10.out.at_ hj
        have Hck2 := hide hck2
        have Hcell2 := hide (fun W' (hW : Below W.heap.size W W') => (hW.cell (p := ⟨b2, off2 + j, none⟩) hb2).trans hcell2)
        clear hck2 hcell2
        have hai : a[i].length ≤ 1000 := Hl1.out i hi
        have hbj : b[j].length ≤ 1000 := Hl2.out j hj
        have hc1 := Hcell.out w1 Hbw1.out
        have hbsz := Hbw1.out.size
        go_wp2_with fail
        go_loopw [16, 87] (fun l idx wr => ∃ q : Nat, q ≤ a[i].length ∧ idx = .int .i64 q ∧ wr.ownsRow w1.heap.size 3 1 l q (ints ((a[i].take q).map (fun x => x * (b.length : Int) + (j : Int)))) ∧ Only (fun k => w1.heap.size ≤ k) w1 wr) (fun _ idx _ => a[i].length - (intOf idx).toNat)
        case atStart => exact ⟨0, by omega, rfl, by simpa [ints] using World.ownsRow_nil _ _ _ _, Only.refl _ _⟩
        case round =>
          clear hc1
          obtain ⟨q, hq, rfl, hown, hO⟩ := hrel
          have Hown := hide hown
          have HO := hide hO
          have hsz := hO.size
          have Hbwr := hide (Hbw1.out.trans (hO.below_ (fun k hk => by omega) hbsz))
          clear hown hO
          by_cases hlq : q < a[i].length
          · have hc1 := Hcell.out wr Hbwr.out
            obtain ⟨b3, off3, rfl, hb3, hc3⟩ := (Hck.out.below Hbwr.out).at_ (k := q) (by simpa using hlq)
            rw [ints_get] at hc3
            have hx := Hi1.out i hi q hlq
            have hx1 : 0 ≤ a[i][q] * (b.length : Int) := Int.mul_nonneg hx.1 (by omega)
            have hx2 : a[i][q] * (b.length : Int) ≤ (a.length : Int) * (b.length : Int) := Int.mul_le_mul_of_nonneg_right (by omega) (by omega)
            have Hap := hide (Hown.out.alloc (.cells #[.int .i64 (a[i][q] * (b.length : Int) + (j : Int))] 3))
            go_wp2_with (at_builtin; refine wpList_push1 _ rfl (.tmp 90) (.tmp 103) 26 rfl w1.heap.size 3 i0 (.int .i64 0) 8 Try.underlying26 HI.out.1 HI.out.2.1 HI.out.2.2.1 HI.out.2.2.2 rfl _ q _ rfl Hap.out (.int .i64 (a[i][q] * (b.length : Int) + (j : Int))) wr.heap.size rfl ?h1 rfl ?h2 ?h3 ?h4 ?_)
            case h1 => simp [go_sem]
            case h2 => unfold maxLen; omega
            case h3 => omega
            case h4 => simp; omega
            intro v3 w4 hown3 hO3 hw3
            have Hown3 := hide hown3
            have HO3 := hide hO3
            clear hown3 hO3 hw3
            go_wp2_with fail
            go_roundw
            case rel =>
              refine ⟨q + 1, by omega, by go_num, ?_, HO.out.trans (((Only.refl _ _).alloc _).trans' (HO3.out.mono (S' := fun k => w1.heap.size ≤ k) (fun k _ hk => (Hown.out.lt k hk).1)) (fun k hk h => by omega))⟩
              have hx := Hown3.out
              rw [List.take_succ_eq_append_getElem hlq, List.map_append]
              simpa [ints] using hx
            case measure => simp [intOf]; omega
          · have hqe : q = a[i].length := by omega
            subst hqe
            obtain ⟨w2', rfl⟩ : ∃ w2 : World, w2 = wr := ⟨_, rfl⟩
            have hc2 := Hcell2.out w2' Hbwr.out
            have hal : a[i].take a[i].length = a[i] := List.take_length
            rw [hal] at Hown
            clear hal
            go_wp2_with fail
            go_loopw [16, 111] (fun l idx wr => ∃ q : Nat, q ≤ b[j].length ∧ idx = .int .i64 q ∧ wr.ownsRow w1.heap.size 3 1 l (a[i].length + q) (ints (a[i].map (fun x => x * (b.length : Int) + (j : Int)) ++ (b[j].take q).map (fun y => (i : Int) * (b.length : Int) + y))) ∧ Only (fun k => w1.heap.size ≤ k) w1 wr) (fun _ idx _ => b[j].length - (intOf idx).toNat)
            case atStart => exact ⟨0, by omega, rfl, by simpa using Hown.out, HO.out⟩
            case round =>
              clear hc2 Hown HO Hbwr hsz
              obtain ⟨q, hq, rfl, hown, hO⟩ := hrel
              have Hown := hide hown
              have HO := hide hO
              have hsz := hO.size
              have Hbwr := hide (Hbw1.out.trans (hO.below_ (fun k hk => by omega) hbsz))
              clear hown hO
              by_cases hlq : q < b[j].length
              · have hc2 := Hcell2.out wr Hbwr.out
                obtain ⟨b3, off3, rfl, hb3, hc3⟩ := (Hck2.out.below Hbwr.out).at_ (k := q) (by simpa using hlq)
                rw [ints_get] at hc3
                have hy := Hi2.out j hj q hlq
                have hx1 : 0 ≤ (i : Int) * (b.length : Int) := Int.mul_nonneg (by omega) (by omega)
                have hx2 : (i : Int) * (b.length : Int) ≤ (a.length : Int) * (b.length : Int) := Int.mul_le_mul_of_nonneg_right (by omega) (by omega)
                have Hap := hide (Hown.out.alloc (.cells #[.int .i64 ((i : Int) * (b.length : Int) + b[j][q])] 3))
                go_wp2_with (at_builtin; refine wpList_push1 _ rfl (.tmp 114) (.tmp 127) 26 rfl w1.heap.size 3 i0 (.int .i64 0) 8 Try.underlying26 HI.out.1 HI.out.2.1 HI.out.2.2.1 HI.out.2.2.2 rfl _ (a[i].length + q) _ rfl Hap.out (.int .i64 ((i : Int) * (b.length : Int) + b[j][q])) wr.heap.size rfl ?h1 rfl ?h2 ?h3 ?h4 ?_)
                case h1 => simp [go_sem]
                case h2 => unfold maxLen; omega
                case h3 => omega
                case h4 => simp; omega
                intro v3 w4 hown3 hO3 hw3
                have Hown3 := hide hown3
                have HO3 := hide hO3
                clear hown3 hO3 hw3
                go_wp2_with fail
                go_roundw
                case rel =>
                  refine ⟨q + 1, by omega, by go_num, ?_, HO.out.trans (((Only.refl _ _).alloc _).trans' (HO3.out.mono (S' := fun k => w1.heap.size ≤ k) (fun k _ hk => (Hown.out.lt k hk).1)) (fun k hk h => by omega))⟩
                  have hx := Hown3.out
                  rw [List.take_succ_eq_append_getElem hlq, List.map_append]
                  simpa [ints, Nat.add_assoc] using hx
                case measure => simp [intOf]; omega
              · have hqe : q = b[j].length := by omega
                subst hqe
                have hal : b[j].take b[j].length = b[j] := List.take_length
                rw [hal] at Hown
                clear hal
                obtain ⟨xs, hxs, hxl⟩ : ∃ xs : List Int, a[i].map (fun x => x * (b.length : Int) + (j : Int)) ++ b[j].map (fun y => (i : Int) * (b.length : Int) + y) = xs ∧ xs.length = a[i].length + b[j].length := ⟨_, rfl, by simp⟩
                have hrS : rowS a b i j = xs := by rw [← hxs]; simp [rowS, hi, hj]
                rw [hxs] at Hown
                have hownL := Hown.out
                obtain ⟨Al, cl, rfl, hcl, hll, hcells⟩ := Cells.of_own hownL
                have HrS := hide hrS
                have Hcells := hide hcells
                have HltL := hide hownL.lt
                have Hxl := hide hxl
                clear hxs hxl hrS hownL hcells hll Hown
                obtain ⟨vs, hvs, hr⟩ := Hrow1.out.only HO.out (fun k hk => by omega)
                have Hrl := hide (bothRows_len a b p)
                have Hap := hide (hvs.alloc (.cells #[.slice Al (a[i].length + b[j].length) cl] 26))
                have Hvs := hide hvs
                have Hr := hide hr
                have hLn := HL.out
                clear hvs hr
                have hWsz := Hbwr.out.size
                have step : ∀ (v3 : Value) (w4 : World), w4.ownsRow W.heap.size 26 1 v3 ((bothRows a b p).length + 1) (vs ++ [.slice Al (a[i].length + b[j].length) cl]) → Only (fun k => Value.ownBlock u12 = some k) (wr.alloc (.cells #[.slice Al (a[i].length + b[j].length) cl] 26)) w4 →
                    (v3.ownBlock = Value.ownBlock u12 ∨ v3.ownBlock = some (wr.heap.size + 1)) →
                    RowsOwn w4 W.heap.size 26 v3 (bothRows a b (p + 1)) ∧ Below W.heap.size W w4 := by
                  intro v3 w4 hown3 hO3 hw3
                  have hO4 : Only (fun k => Value.ownBlock u12 = some k) wr w4 := ((Only.refl _ _).alloc _).trans hO3
                  have hx := RowsOwn.push (w := wr) (w' := w4) (rows := bothRows a b p) (v' := v3) (A := Al) (c := cl) (r := xs) (by rw [Hxl.out]; exact hcl) Hcells.out
                    (fun hn ad hA hv => by
                      subst hA
                      have h1 := (HltL.out ad.block rfl).1
                      have h2 := (Hrow1.out.choose_spec.1.lt ad.block hv).2
                      omega) Hvs.out Hr.out (by rw [Hxl.out]; exact hown3) hO4 (by
                      rcases hw3 with h | h
                      · exact .inl h
                      · exact .inr ⟨_, h, Nat.le_succ _⟩)
                  refine ⟨?_, Hbwr.out.trans (hO4.below_ (fun k hk => (Hvs.out.lt k hk).1) hWsz)⟩
                  have hb := bothRows_succ a b (i := i) hj
                  rw [Hpe.out, HrS.out] at hb
                  rw [hb]; exact hx
                have Hstep := hide step
                clear step
                have hrow1 : rowS a b (p / b.length) (p % b.length) = xs := by rw [Hii.out, Hjj.out]; exact HrS.out
                have Hrow2 := hide hrow1
                clear hrow1
                by_cases hlong : 1000 < a[i].length + b[j].length
                · have hlong' : 1000 < (a[i].length : Int) + (b[j].length : Int) := by omega
                  go_wp2_with (at_builtin; refine wpList_push1 _ rfl (.tmp 133) (.tmp 135) 25 rfl W.heap.size 26 s0 (.slice none 0 0) 24 Try.underlying25 SI.out.1 SI.out.2.1 SI.out.2.2.1 SI.out.2.2.2 rfl _ _ _ rfl Hap.out (.slice Al (a[i].length + b[j].length) cl) wr.heap.size rfl ?h1 rfl ?h2 ?h3 ?h4 ?_)
                  case h1 => simp [go_sem]
                  case h2 => rw [Hrl.out]; unfold maxLen; omega
                  case h3 => rw [Hrl.out]; omega
                  case h4 => simp; omega
                  intro v3 w4 hown3 hO3 hw3
                  have Hs4 := hide (Hstep.out v3 w4 hown3 hO3 hw3)
                  clear hown3 hO3 hw3
                  go_wp2_with fail
                  go_roundw
                  case rel => exact ⟨p + 1, 2, by omega, rfl, by go_num, Hs4.out.1, Hs4.out.2, .inr ⟨rfl, p, hlt, by rw [Hrow2.out, Hxl.out]; exact hlong⟩⟩
                  case measure => simp [intOf]; omega
                · go_wp2_with (at_builtin; refine wpList_push1 _ rfl (.tmp 133) (.tmp 135) 25 rfl W.heap.size 26 s0 (.slice none 0 0) 24 Try.underlying25 SI.out.1 SI.out.2.1 SI.out.2.2.1 SI.out.2.2.2 rfl _ _ _ rfl Hap.out (.slice Al (a[i].length + b[j].length) cl) wr.heap.size rfl ?h1 rfl ?h2 ?h3 ?h4 ?_)
                  case h1 => simp [go_sem]
                  case h2 => rw [Hrl.out]; unfold maxLen; omega
                  case h3 => rw [Hrl.out]; omega
                  case h4 => simp; omega
                  intro v3 w4 hown3 hO3 hw3
                  have Hs4 := hide (Hstep.out v3 w4 hown3 hO3 hw3)
                  clear hown3 hO3 hw3
                  go_wp2_with fail
                  go_roundw
                  case rel => exact ⟨p + 1, 0, by omega, rfl, by go_num, Hs4.out.1, Hs4.out.2, .inl ⟨rfl, fun q hq => by
                    rcases Nat.lt_or_ge q p with hx | hx
                    · exact Hall.out q hx
                    · have : q = p := by omega
                      subst this
                      rw [Hrow2.out, Hxl.out]; omega⟩⟩
                  case measure => simp [intOf]; omega
      · have hpe : p = a.length * b.length := by omega
        have hpi : ¬ ((p : Int) < (a.length : Int) * (b.length : Int)) := by rw [← Int.natCast_mul]; omega
        have hE : bothE a b = 0 := by
          unfold bothE
          rw [if_neg (by simp [Ha0.out]), if_neg (by simp [Hb0.out]), if_neg HL.out, if_neg]
          rintro ⟨q, hq, hq2⟩
          have := Hall.out q (by omega)
          omega
        have hLL : bothL a b = bothRows a b p := by unfold bothL; rw [if_pos hE, hpe]
        rw [hLL] at HX2 hc5
        rw [hLL, hE]
        obtain ⟨A6, c6, rfl, hc6, hR6⟩ := Hrow.out.rows2
        have hR5 := (HX2.out.below Hbw.out)
        have hlen := bothRows_len a b p
        rw [hlen] at hc6 hc5 ⊢
        have HR6 := hide hR6
        have HR5 := hide hR5
        have Hlen := hide hlen
        have Hpe := hide hpe
        have hp2 : p ≤ 1000 := by have := HL.out; omega
        obtain ⟨w6, rfl⟩ : ∃ w6 : World, w6 = wr := ⟨_, rfl⟩
        clear hE hLL hpe hR6 hR5 hlen HX2
        go_wp2_with fail
        go_loopw [158] (fun idx wr => ∃ k n : Nat, k ≤ p ∧ idx = .int .i64 k ∧ wr = w6.drewN n) (fun idx _ => p - (intOf idx).toNat)
        case atStart => exact ⟨0, 0, by omega, rfl, rfl⟩
        case round =>
          obtain ⟨k, n2, hk, rfl, hwr⟩ := hrel
          have Hdr := hide (show Below w6.heap.size w6 wr by rw [hwr]; exact below_drewN (Below.refl _ _) n2)
          have Hwr := hide hwr
          clear hwr
          by_cases hlk : k < p
          · obtain ⟨b5, off5, rfl, hb5, X5, d5, hle5, hcell5, hck5⟩ := (HR5.out.below (Hdr.out.mono Hbw.out.size)).at_ (k := k) (by rw [Hlen.out]; exact hlk)
            obtain ⟨b6, off6, rfl, hb6, X6, d6, hle6, hcell6, hck6⟩ := (HR6.out.below Hdr.out).at_ (k := k) (by rw [Hlen.out]; exact hlk)
            have hmk : ((bothRows a b p)[k]'(by rw [Hlen.out]; exact hlk)).length ≤ 1000 := by
              have := Hall.out k (by omega)
              simpa [bothRows] using this
            generalize hrk : (bothRows a b p)[k]'(by rw [Hlen.out]; exact hlk) = rk at *
            have Hrk := hide hrk
            have Hck5 := hide hck5
            have Hck6 := hide hck6
            clear hrk hck5 hck6
            have Hsame := hide (fun m => (same_int X5 X6 d5 d6 rk rk (wr.drewN m) _ _ (by omega) (by omega) (Hck5.out.below (below_drewN (Below.refl _ _) m)) (Hck6.out.below (below_drewN (Below.refl _ _) m))).mono
              fun e w' h => (⟨by simpa using h.1, by obtain ⟨q, hq⟩ := h.2; exact ⟨m + q, by rw [hq, World.drewN_drewN]⟩⟩ : e = .returned (.bool true) ∧ ∃ n, w' = wr.drewN n))
            go_wp2_with fail
            go_quiet ((go_at_call 16; exact Hsame.out _))
            go_wp2_with fail
            go_roundw
            case rel => exact ⟨k + 1, _, by omega, by go_num, by rw [Hwr.out, World.drewN_drewN]⟩
            case measure => simp [intOf]; omega
          · go_wp2_with fail
            go_ret
            exact ⟨rfl, by rw [Hwr.out]; exact below_drewN (Hball.out.trans (Hbw.out.mono Hball.out.size)) _⟩
    · have hE : bothE a b = 2 := by
        unfold bothE
        rw [if_neg (by simp [Ha0.out]), if_neg (by simp [Hb0.out]), if_neg HL.out, if_pos htl]
      have hLL : bothL a b = [] := by unfold bothL; rw [if_neg (by rw [hE]; decide)]
      have Hhb := hide Hball.out
      rw [hLL, hE]
      clear hE hLL htl
      go_wp2_with fail
      go_ret
      exact ⟨rfl, Hball.out.trans (Hbw.out.mono Hball.out.size)⟩
end Go.Proofs.Ytfoehijlafooaaa
