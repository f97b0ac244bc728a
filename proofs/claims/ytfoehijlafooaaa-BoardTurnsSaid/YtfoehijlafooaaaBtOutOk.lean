/- gamelaw.BoardTurns, walked: a position -/
import Derived.Test.YtfoehijlafooaaaBtLess
import Derived.Test.YtfoehijlafooaaaBoardPos
namespace Go.Proofs.Ytfoehijlafooaaa
open Go.RowKit

set_option maxHeartbeats 4000000 in
set_option maxRecDepth 100000 in
theorem bt_out_ok (w h t : Int) (c h0 h1 : ByteArray) (k : Int) (hk : ¬ (0 ≤ k ∧ k ≤ 7)) (A : Option Addr) (cA : Nat) (ls : List Int) (W : World) (hc9 : c.size ≤ 9223372036854775807) (l0 : h0.size ≤ 9223372036854775807) (l1 : h1.size ≤ 9223372036854775807) (hl : ls.length ≤ 9223372036854775807) (hA : Cells W W.heap.size A (ints ls)) (hp : PosOk ⟨w, h, c, t, h0, h1⟩) (hls : (ls ≠ [] ∧ ∀ k ∈ ls, 0 ≤ k ∧ k ≤ 7)) :
    Calls Try.prog 6 #[.agg #[.int .i64 w, .int .i64 h, .string c, .int .i64 t, .string h0, .string h1], .int .i64 k, .slice A ls.length cA] W fun e w' => e = .returned (.bool true) ∧ Below W.heap.size W w' := by
  obtain ⟨s, hs⟩ : ∃ s, exchP ⟨w, h, c, t, h0, h1⟩ = s := ⟨_, rfl⟩
  obtain ⟨sw, sh, sc, st, s0, s1⟩ := s
  have T2 := hide fun W => swapped_at w h t c h0 h1 W hp
  have TE := hide fun W => exch_at w h t c h0 h1 W hp
  rw [hs] at T2 TE
  have T3 := hide fun V (hV : Below W.heap.size W V) => least_any w h t c h0 h1 A cA ls V hc9 l0 l1 hl ((hA.below hV).more hV.size)
  have T4 := hide fun W => pos_good w h t c h0 h1 W hc9 l0 l1 hp
  have TR := hide fun (j : Nat) (hj : j < 8) W => round_at w h t c h0 h1 W hp j hj
  have Hp := hide hp
  have HA := hide hA
  have Hls := hide hls
  obtain ⟨lb, hlb⟩ : ∃ lb, decide (0 < ls.length) = lb := ⟨_, rfl⟩
  have Hlb := hide hlb
  have T1 := hide fun W => turned_no w h t k c h0 h1 W hc9 l0 l1 (fun hh => hk hh.2)
  obtain ⟨kb, hkb⟩ : ∃ kb, decide (k < 0) = kb := ⟨_, rfl⟩
  have kd2 : kb = false → decide (k > 7) = true := fun hh => by rw [hh] at hkb; simp at hkb; simp; omega
  have Kd2 := hide kd2
  clear hk kd2
  obtain ⟨m, hm⟩ : ∃ m, leastK ⟨w, h, c, t, h0, h1⟩ (ls.map Int.toNat) = m := ⟨_, rfl⟩
  obtain ⟨u, hu⟩ : ∃ u, turnP ⟨w, h, c, t, h0, h1⟩ m = u := ⟨_, rfl⟩
  have Hm := hide hm
  rw [hm] at T3
  rw [hu] at T3
  have Hu := hide hu
  obtain ⟨uw, uh, uc, ut, u0, u1⟩ := u
  clear hm hu
  clear hp hs hA hls
  go_enter Try.func6, Try.ntmps6
  go_upto_region 1 with (fail)
  have BP := hide (Blk.new W 36 #[.int .i64 w, .int .i64 h, .string c, .int .i64 t, .string h0, .string h1])
  have HB0 := hide (below_fresh W (.cells #[.int .i64 w, .int .i64 h, .string c, .int .i64 t, .string h0, .string h1] 36))
  generalize W.alloc (.cells #[.int .i64 w, .int .i64 h, .string c, .int .i64 t, .string h0, .string h1] 36) = w0 at *
  obtain ⟨⟨bpw0_0, bpw0_1, bpw0_2, bpw0_3, bpw0_4, bpw0_5⟩, -⟩ := BP.out.six
  go_wp2_with fail
  refine (T1.out _).mono ?_
  rintro e w1 ⟨rfl, hb1⟩
  unfold noPos
  have BP1 := hide ((BP.out.below hb1 BP.out.lt).alloc (.cells #[.int .i64 0, .int .i64 0, .string ⟨#[]⟩, .int .i64 0, .string ⟨#[]⟩, .string ⟨#[]⟩] 36))
  have BX1 := hide (Blk.new w1 36 #[.int .i64 0, .int .i64 0, .string ⟨#[]⟩, .int .i64 0, .string ⟨#[]⟩, .string ⟨#[]⟩])
  have HB1 := hide (below_alloc0 (HB0.out.trans (hb1.mono HB0.out.size)) (.cells #[.int .i64 0, .int .i64 0, .string ⟨#[]⟩, .int .i64 0, .string ⟨#[]⟩, .string ⟨#[]⟩] 36))
  clear hb1
  go_upto_region 2 with (fail)
  generalize w1.alloc (.cells #[.int .i64 0, .int .i64 0, .string ⟨#[]⟩, .int .i64 0, .string ⟨#[]⟩, .string ⟨#[]⟩] 36) = v1 at *
  generalize w1.heap.size = g1 at *
  clear BP
  have BP := BP1; clear BP1
  have BX := BX1; clear BX1
  obtain ⟨⟨bpv1_0, bpv1_1, bpv1_2, bpv1_3, bpv1_4, bpv1_5⟩, -⟩ := BP.out.six
  go_wp2_with fail
  refine (T2.out _).mono ?_
  rintro e w2 ⟨rfl, hb2⟩
  simp only [posV]
  have BP2 := hide ((BP.out.below hb2 BP.out.lt).alloc (.cells #[.int .i64 sw, .int .i64 sh, .string sc, .int .i64 st, .string s0, .string s1] 36))
  have BX2 := hide ((BX.out.below hb2 BX.out.lt).alloc (.cells #[.int .i64 sw, .int .i64 sh, .string sc, .int .i64 st, .string s0, .string s1] 36))
  have BY2 := hide (Blk.new w2 36 #[.int .i64 sw, .int .i64 sh, .string sc, .int .i64 st, .string s0, .string s1])
  have HB2 := hide (below_alloc0 (HB1.out.trans (hb2.mono HB1.out.size)) (.cells #[.int .i64 sw, .int .i64 sh, .string sc, .int .i64 st, .string s0, .string s1] 36))
  clear hb2
  go_upto_region 3 with (fail)
  generalize w2.alloc (.cells #[.int .i64 sw, .int .i64 sh, .string sc, .int .i64 st, .string s0, .string s1] 36) = v2 at *
  generalize w2.heap.size = g2 at *
  clear BP BX
  have BP := BP2; clear BP2
  have BX := BX2; clear BX2
  have BY := BY2; clear BY2
  obtain ⟨⟨bpv2_0, bpv2_1, bpv2_2, bpv2_3, bpv2_4, bpv2_5⟩, -⟩ := BP.out.six
  go_wp2_with fail
  refine (T3.out _ HB2.out).mono ?_
  rintro e w3 ⟨-, he, hb3⟩
  have he2 := he ⟨Hls.out.1, Hp.out, Hls.out.2⟩
  clear he
  subst he2
  simp only [posV]
  have BP3 := hide ((BP.out.below hb3 BP.out.lt).alloc (.cells #[.int .i64 uw, .int .i64 uh, .string uc, .int .i64 ut, .string u0, .string u1] 36))
  have BX3 := hide ((BX.out.below hb3 BX.out.lt).alloc (.cells #[.int .i64 uw, .int .i64 uh, .string uc, .int .i64 ut, .string u0, .string u1] 36))
  have BY3 := hide ((BY.out.below hb3 BY.out.lt).alloc (.cells #[.int .i64 uw, .int .i64 uh, .string uc, .int .i64 ut, .string u0, .string u1] 36))
  have BC3 := hide (Blk.new w3 36 #[.int .i64 uw, .int .i64 uh, .string uc, .int .i64 ut, .string u0, .string u1])
  have HB3 := hide (below_alloc0 (HB2.out.trans (hb3.mono HB2.out.size)) (.cells #[.int .i64 uw, .int .i64 uh, .string uc, .int .i64 ut, .string u0, .string u1] 36))
  clear hb3
  go_upto_region 4 with (fail)
  generalize w3.alloc (.cells #[.int .i64 uw, .int .i64 uh, .string uc, .int .i64 ut, .string u0, .string u1] 36) = v3 at *
  generalize w3.heap.size = g3 at *
  clear BP BX BY
  have BP := BP3; clear BP3
  have BX := BX3; clear BX3
  have BY := BY3; clear BY3
  have BC := BC3; clear BC3
  obtain ⟨⟨bpv3_0, bpv3_1, bpv3_2, bpv3_3, bpv3_4, bpv3_5⟩, -⟩ := BP.out.six
  go_wp2_with fail
  refine (T4.out _).mono ?_
  rintro e w4 ⟨rfl, hb4⟩
  have BP4 := hide (BP.out.below hb4 BP.out.lt)
  have BX4 := hide (BX.out.below hb4 BX.out.lt)
  have BY4 := hide (BY.out.below hb4 BY.out.lt)
  have BC4 := hide (BC.out.below hb4 BC.out.lt)
  have HB4 := hide (HB3.out.trans (hb4.mono HB3.out.size))
  clear hb4
  clear BP BX BY BC
  have BP := BP4; clear BP4
  have BX := BX4; clear BX4
  have BY := BY4; clear BY4
  have BC := BC4; clear BC4
  obtain ⟨⟨bpw4_0, bpw4_1, bpw4_2, bpw4_3, bpw4_4, bpw4_5⟩, -⟩ := BP.out.six
  obtain ⟨⟨byw4_0, byw4_1, byw4_2, byw4_3, byw4_4, byw4_5⟩, -⟩ := BY.out.six
  have heq := run_eq_hands
  go_wp2_with fail
  go_region_held3 (fun w' => w'.cell? ⟨g2, 0, none⟩ = some (.int .i64 (sw)) ∧ w'.cell? ⟨g2, 1, none⟩ = some (.int .i64 (sh)) ∧ w'.cell? ⟨g2, 2, none⟩ = some (.string sc) ∧ w'.cell? ⟨g2, 3, none⟩ = some (.int .i64 (st)) ∧ w'.cell? ⟨g2, 4, none⟩ = some (.string s0) ∧ w'.cell? ⟨g2, 5, none⟩ = some (.string s1) ∧ w'.cell? ⟨W.heap.size, 0, none⟩ = some (.int .i64 (w)) ∧ w'.cell? ⟨W.heap.size, 1, none⟩ = some (.int .i64 (h)) ∧ w'.cell? ⟨W.heap.size, 2, none⟩ = some (.string c) ∧ w'.cell? ⟨W.heap.size, 3, none⟩ = some (.int .i64 (t)) ∧ w'.cell? ⟨W.heap.size, 4, none⟩ = some (.string h0) ∧ w'.cell? ⟨W.heap.size, 5, none⟩ = some (.string h1)) (refine ⟨?_, ?_, ?_, ?_, ?_, ?_, ?_, ?_, ?_, ?_, ?_, ?_⟩ <;> assumption)
    ((go_at_call 22; refine (TE.out _).mono ?_; rintro e w5 ⟨rfl, hb5⟩; simp only [posV]; have hbz := below_undrew hb5; have BP5 := hide (BP.out.below hbz BP.out.lt); have BX5 := hide (BX.out.below hbz BX.out.lt); have BY5 := hide (BY.out.below hbz BY.out.lt); have BC5 := hide (BC.out.below hbz BC.out.lt); have HB5 := hide (HB4.out.trans (hbz.mono HB4.out.size)); obtain ⟨⟨by_w5_0, by_w5_1, by_w5_2, by_w5_3, by_w5_4, by_w5_5⟩, -⟩ := BY5.out.six; obtain ⟨⟨bp_w5_0, bp_w5_1, bp_w5_2, bp_w5_3, bp_w5_4, bp_w5_5⟩, -⟩ := BP5.out.six; clear hb5 hbz))
  clear heq
  clear bpw4_0 bpw4_1 bpw4_2 bpw4_3 bpw4_4 bpw4_5
  clear byw4_0 byw4_1 byw4_2 byw4_3 byw4_4 byw4_5
  clear BP BX BY BC
  have BP := BP5; clear BP5
  have BX := BX5; clear BX5
  have BY := BY5; clear BY5
  have BC := BC5; clear BC5
  clear by_w5_0 by_w5_1 by_w5_2 by_w5_3 by_w5_4 by_w5_5 bp_w5_0 bp_w5_1 bp_w5_2 bp_w5_3 bp_w5_4 bp_w5_5
  obtain ⟨⟨bxw5_0, bxw5_1, bxw5_2, bxw5_3, bxw5_4, bxw5_5⟩, -⟩ := BX.out.six
  have HAc := hide (HA.out.below HB5.out)
  cases kb
  · have kd2 := Kd2.out rfl
    have heq := run_eq_hands
    go_wp2_with fail
    clear heq
    clear bxw5_0 bxw5_1 bxw5_2 bxw5_3 bxw5_4 bxw5_5
    go_loop [14, 106] (fun ov idx => ∃ (i : Nat) (b : Bool), i ≤ ls.length ∧ idx = .int .i64 i ∧ ov = .bool b ∧ (b = true ↔ (ls ≠ [] ∧ ∀ j (hj : j < ls.length), j < i → 0 ≤ ls[j] ∧ ls[j] ≤ 7))) (fun _ idx => ls.length - (intOf idx).toNat)
    case atStart => exact ⟨0, lb, by omega, rfl, rfl, by rw [← Hlb.out]; simp [List.length_pos_iff]⟩
    case round =>
      obtain ⟨i, b, hi, rfl, rfl, hb⟩ := hrel
      have Hb := hide hb
      clear hb
      by_cases hlt : i < ls.length
      · obtain ⟨bA, oA, rfl, hbA, hcA⟩ := HAc.out.at_ (k := i) (by simpa using hlt)
        rw [ints_get] at hcA
        obtain ⟨z, hz⟩ : ∃ z, ls[i] = z := ⟨_, rfl⟩
        rw [hz] at hcA
        have Hz := hide hz
        clear hz
        cases b with
        | false =>
          go_wp2_with fail
          go_round
          case rel => exact ⟨i + 1, false, by omega, by go_num, rfl, by
            simp only [Bool.false_eq_true, false_iff]
            exact fun hh => absurd (Hb.out.2 ⟨hh.1, fun j hj hji => hh.2 j hj (by omega)⟩) (by simp)⟩
          case measure => simp [intOf]; omega
        | true =>
          by_cases z0 : 0 ≤ z
          · have e1 : decide (z ≥ 0) = true := by simp; omega
            by_cases z7 : z ≤ 7
            · have e2 : decide (z ≤ 7) = true := by simp; omega
              go_wp2_with fail
              go_round
              case rel => exact ⟨i + 1, true, by omega, by go_num, rfl, by
                simp only [true_iff]
                refine ⟨(Hb.out.1 rfl).1, fun j hj hji => ?_⟩
                by_cases e : j = i
                · subst e; rw [Hz.out]; exact ⟨z0, z7⟩
                · exact (Hb.out.1 rfl).2 j hj (by omega)⟩
              case measure => simp [intOf]; omega
            · have e2 : decide (z ≤ 7) = false := by simp; omega
              go_wp2_with fail
              go_round
              case rel => exact ⟨i + 1, false, by omega, by go_num, rfl, by
                simp only [Bool.false_eq_true, false_iff]
                exact fun hh => z7 (by have := (hh.2 i hlt (by omega)).2; rw [Hz.out] at this; exact this)⟩
              case measure => simp [intOf]; omega
          · have e1 : decide (z ≥ 0) = false := by simp; omega
            go_wp2_with fail
            go_round
            case rel => exact ⟨i + 1, false, by omega, by go_num, rfl, by
              simp only [Bool.false_eq_true, false_iff]
              exact fun hh => z0 (by have := (hh.2 i hlt (by omega)).1; rw [Hz.out] at this; exact this)⟩
            case measure => simp [intOf]; omega
      · obtain rfl : i = ls.length := by omega
        obtain rfl : b = true := Hb.out.2 ⟨Hls.out.1, fun j hj _ => Hls.out.2 _ (List.getElem_mem hj)⟩
        have hpos : 0 < ls.length := List.length_pos_iff.2 Hls.out.1
        obtain ⟨bA, oA, rfl, hbA, hcs⟩ := HAc.out (by simpa using hpos)
        have Hcs := hide hcs
        clear hcs
        go_wp2_with fail
        go_loopw [16, 140] (fun av idx wr => ∃ i a : Nat, i ≤ ls.length ∧ idx = .int .i64 i ∧ a < ls.length ∧ av = .int .i64 a ∧ (i = 0 → a = 0) ∧ (0 < i → ((ls.map Int.toNat).getD a 0) = leastK ⟨w, h, c, t, h0, h1⟩ ((ls.map Int.toNat).take i)) ∧ Below w5.heap.size w5 wr) (fun _ idx _ => ls.length - (intOf idx).toNat)
        case atStart => exact ⟨0, 0, by omega, rfl, hpos, rfl, fun _ => rfl, by omega, Below.refl _ _⟩
        case round =>
          rename World => wr
          obtain ⟨i, a, hi, rfl, ha, rfl, hi0, hmin, hbr⟩ := hrel
          have Hi0 := hide hi0
          have Hmin := hide hmin
          have Hbr := hide hbr
          have BPr := hide (BP.out.below hbr BP.out.lt)
          have BCr := hide (BC.out.below hbr BC.out.lt)
          have hcat : wr.cell? ⟨bA, oA + a, none⟩ = some (.int .i64 ((ls.map Int.toNat).getD a 0 : Nat)) := by
            rw [hbr.cell (p := ⟨bA, oA + a, none⟩) (Nat.lt_of_lt_of_le hbA HB5.out.size), Hcs.out a (by simpa using ha)]
            have := Hls.out.2 _ (List.getElem_mem ha)
            simp [ints, List.getD_eq_getElem?_getD, ha]; omega
          have hka8 : (ls.map Int.toNat).getD a 0 < 8 := by have := Hls.out.2 _ (List.getElem_mem ha); simp [List.getD_eq_getElem?_getD, ha]; omega
          obtain ⟨ka, hka⟩ : ∃ ka, (ls.map Int.toNat).getD a 0 = ka := ⟨_, rfl⟩
          rw [hka] at hcat hka8
          have Hka := hide hka
          have j3 : (0 : Int) ≤ (a : Int) := by omega
          have j4 : (a : Int) < (ls.length : Int) := by omega
          have hlA : bA < wr.heap.size := Nat.lt_of_lt_of_le hbA (Nat.le_trans HB5.out.size hbr.size)
          have Hrun := hide (Below.refl wr.heap.size wr)
          clear hi0 hmin hbr hka
          by_cases hlt : i < ls.length
          · have hcit : wr.cell? ⟨bA, oA + i, none⟩ = some (.int .i64 ((ls.map Int.toNat).getD i 0 : Nat)) := by
              rw [Hbr.out.cell (p := ⟨bA, oA + i, none⟩) (Nat.lt_of_lt_of_le hbA HB5.out.size), Hcs.out i (by simpa using hlt)]
              have := Hls.out.2 _ (List.getElem_mem hlt)
              simp [ints, List.getD_eq_getElem?_getD, hlt]; omega
            have hki8 : (ls.map Int.toNat).getD i 0 < 8 := by have := Hls.out.2 _ (List.getElem_mem hlt); simp [List.getD_eq_getElem?_getD, hlt]; omega
            obtain ⟨ki, hki⟩ : ∃ ki, (ls.map Int.toNat).getD i 0 = ki := ⟨_, rfl⟩
            rw [hki] at hcit hki8
            have hnx : (ls.map Int.toNat).take (i + 1) = (ls.map Int.toNat).take i ++ [ki] := by rw [List.take_succ_eq_append_getElem (by simpa using hlt), ← hki]; simp [List.getD_eq_getElem?_getD, hlt]
            have Hki := hide hki
            have Hnx := hide hnx
            have j1 : (0 : Int) ≤ (i : Int) := by omega
            have j2 : (i : Int) < (ls.length : Int) := by omega
            obtain ⟨v, hv⟩ : ∃ v, ltB (turnP ⟨w, h, c, t, h0, h1⟩ ki) (turnP ⟨w, h, c, t, h0, h1⟩ ka) = v := ⟨_, rfl⟩
            have Hv := hide hv
            clear hki hnx hv
            have RA := hide (TR.out ka hka8)
            have RI := hide (TR.out ki hki8)
            obtain ⟨qa, hqa⟩ : ∃ qa, turnP ⟨w, h, c, t, h0, h1⟩ ka = qa := ⟨_, rfl⟩
            obtain ⟨qi, hqi⟩ : ∃ qi, turnP ⟨w, h, c, t, h0, h1⟩ ki = qi := ⟨_, rfl⟩
            have Hv2 := hide (show ltB qi qa = v by rw [← hqa, ← hqi]; exact Hv.out)
            have TR2 := hide fun (j : Nat) (hj : j < 8) V => TR.out j hj V
            obtain ⟨⟨p0, p1, p2, p3, p4, p5⟩, -⟩ := BPr.out.six
            clear hqa hqi
            go_wp2_with fail
            go_region_held3 (fun w' => w'.cell? ⟨W.heap.size, 0, none⟩ = some (.int .i64 (w)) ∧ w'.cell? ⟨W.heap.size, 1, none⟩ = some (.int .i64 (h)) ∧ w'.cell? ⟨W.heap.size, 2, none⟩ = some (.string c) ∧ w'.cell? ⟨W.heap.size, 3, none⟩ = some (.int .i64 (t)) ∧ w'.cell? ⟨W.heap.size, 4, none⟩ = some (.string h0) ∧ w'.cell? ⟨W.heap.size, 5, none⟩ = some (.string h1) ∧ w'.cell? ⟨bA, oA + i, none⟩ = some (.int .i64 (ki : Int)) ∧ w'.cell? ⟨bA, oA + a, none⟩ = some (.int .i64 (ka : Int))) (refine ⟨?_, ?_, ?_, ?_, ?_, ?_, ?_, ?_⟩ <;> assumption)
              ((first | (go_at_call 23; refine (TR.out _ (by assumption) _).mono ?_; rintro e wn ⟨rfl, hbn⟩; simp only [posV]; (first | have hbz := below_undrew hbn | have hbz := hbn); have BPn := hide (BPr.out.below hbz BPr.out.lt); clear BPr; have BPr := BPn; clear BPn; have Hrn := hide (Hrun.out.trans (hbz.mono Hrun.out.size)); clear Hrun; have Hrun := Hrn; clear Hrn; have hc1n := (hbz.cell (p := ⟨bA, oA + i, none⟩) hlA).trans hcit; have hc2n := (hbz.cell (p := ⟨bA, oA + a, none⟩) hlA).trans hcat; have hlAn := Nat.lt_of_lt_of_le hlA hbz.size; clear hcit hcat hlA p0 p1 p2 p3 p4 p5; have hcit := hc1n; have hcat := hc2n; have hlA := hlAn; clear hc1n hc2n hlAn; obtain ⟨⟨p0, p1, p2, p3, p4, p5⟩, -⟩ := BPr.out.six; clear hbn hbz)
                      | (go_at_call 24; refine (less_any _ _ _ _ _ _ _ _ _ _ _ _ _).mono ?_; rintro e wn ⟨he, hbn⟩; have he2 := he.trans (congrArg (fun b => Ending.returned (.bool b)) Hv.out); clear he; subst he2; (first | have hbz := below_undrew hbn | have hbz := hbn); have BPn := hide (BPr.out.below hbz BPr.out.lt); clear BPr; have BPr := BPn; clear BPn; have Hrn := hide (Hrun.out.trans (hbz.mono Hrun.out.size)); clear Hrun; have Hrun := Hrn; clear Hrn; have hc1n := (hbz.cell (p := ⟨bA, oA + i, none⟩) hlA).trans hcit; have hc2n := (hbz.cell (p := ⟨bA, oA + a, none⟩) hlA).trans hcat; have hlAn := Nat.lt_of_lt_of_le hlA hbz.size; clear hcit hcat hlA p0 p1 p2 p3 p4 p5; have hcit := hc1n; have hcat := hc2n; have hlA := hlAn; clear hc1n hc2n hlAn; obtain ⟨⟨p0, p1, p2, p3, p4, p5⟩, -⟩ := BPr.out.six; clear hbn hbz)))
            all_goals
              have Hst := hide (show 0 < i → leastK ⟨w, h, c, t, h0, h1⟩ ((ls.map Int.toNat).take (i + 1)) = if v then ki else ka from fun hi1 => by
                rw [Hnx.out, leastK_snoc _ _ _ (fun he => by have h2 := congrArg List.length he; rw [List.length_take, List.length_map] at h2; simp only [List.length_nil] at h2; omega), ← Hmin.out hi1, Hka.out, leastStep, Hv.out])
              have Hst0 := hide (show i = 0 → leastK ⟨w, h, c, t, h0, h1⟩ ((ls.map Int.toNat).take (i + 1)) = ki from fun hi1 => by rw [Hnx.out]; subst hi1; rfl)
              have Hsame := hide (show i = 0 → ka = ki ∧ v = false from fun hi1 => by
                have h1 : ka = ki := by rw [← Hka.out, ← Hki.out, Hi0.out hi1, hi1]
                refine ⟨h1, ?_⟩
                have h2 := Hv.out
                rw [h1] at h2
                cases v with
                | false => rfl
                | true => exact absurd (ltB_iff.1 h2) (ltP_irrefl _))
              cases v with
              | false =>
                go_wp2_with fail
                go_roundw
                case rel =>
                  refine ⟨i + 1, a, by omega, by go_num, ha, rfl, by omega, fun _ => ?_, Hbr.out.trans (Hrun.out.mono Hbr.out.size)⟩
                  by_cases h0i : i = 0
                  · rw [Hst0.out h0i, Hka.out, (Hsame.out h0i).1]
                  · rw [Hst.out (by omega), Hka.out]; rfl
                case measure => simp [intOf]; omega
              | true =>
                go_wp2_with fail
                go_roundw
                case rel =>
                  refine ⟨i + 1, i, by omega, by go_num, hlt, rfl, by omega, fun _ => ?_, Hbr.out.trans (Hrun.out.mono Hbr.out.size)⟩
                  by_cases h0i : i = 0
                  · exact absurd (Hsame.out h0i).2 (by simp)
                  · rw [Hst.out (by omega), Hki.out]; rfl
                case measure => simp [intOf]; omega
          · obtain rfl : i = ls.length := by omega
            obtain rfl : ka = m := by
              rw [← Hka.out, Hmin.out hpos, List.take_of_length_le (by simp)]; exact Hm.out
            have RA := hide (TR.out ka hka8)
            rw [Hu.out] at RA
            obtain ⟨⟨p0, p1, p2, p3, p4, p5⟩, -⟩ := BPr.out.six
            obtain ⟨⟨q0, q1, q2, q3, q4, q5⟩, -⟩ := BCr.out.six
            have heq := run_eq_hands
            go_wp2_with fail
            go_region_held3 (fun w' => w'.cell? ⟨W.heap.size, 0, none⟩ = some (.int .i64 (w)) ∧ w'.cell? ⟨W.heap.size, 1, none⟩ = some (.int .i64 (h)) ∧ w'.cell? ⟨W.heap.size, 2, none⟩ = some (.string c) ∧ w'.cell? ⟨W.heap.size, 3, none⟩ = some (.int .i64 (t)) ∧ w'.cell? ⟨W.heap.size, 4, none⟩ = some (.string h0) ∧ w'.cell? ⟨W.heap.size, 5, none⟩ = some (.string h1) ∧ w'.cell? ⟨bA, oA + a, none⟩ = some (.int .i64 (ka : Int)) ∧ w'.cell? ⟨g3, 0, none⟩ = some (.int .i64 (uw)) ∧ w'.cell? ⟨g3, 1, none⟩ = some (.int .i64 (uh)) ∧ w'.cell? ⟨g3, 2, none⟩ = some (.string uc) ∧ w'.cell? ⟨g3, 3, none⟩ = some (.int .i64 (ut)) ∧ w'.cell? ⟨g3, 4, none⟩ = some (.string u0) ∧ w'.cell? ⟨g3, 5, none⟩ = some (.string u1)) (refine ⟨?_, ?_, ?_, ?_, ?_, ?_, ?_, ?_, ?_, ?_, ?_, ?_, ?_⟩ <;> assumption)
              ((go_at_call 23; refine (RA.out _).mono ?_; rintro e wn ⟨rfl, hbn⟩; simp only [posV]; have hbz := below_undrew hbn; have Hrn := hide hbz; have hcn := (hbz.cell (p := ⟨bA, oA + a, none⟩) hlA).trans hcat; obtain ⟨⟨pp0, pp1, pp2, pp3, pp4, pp5⟩, -⟩ := (BPr.out.below hbz BPr.out.lt).six; obtain ⟨⟨qq0, qq1, qq2, qq3, qq4, qq5⟩, -⟩ := (BCr.out.below hbz BCr.out.lt).six; clear hbn hbz))
            go_wp2_with fail
            go_ret
            exact ⟨rfl, HB5.out.trans ((Hbr.out.trans (Hrn.out.mono Hbr.out.size)).mono HB5.out.size)⟩
  · have heq := run_eq_hands
    go_wp2_with fail
    clear heq
    clear bxw5_0 bxw5_1 bxw5_2 bxw5_3 bxw5_4 bxw5_5
    go_loop [14, 106] (fun ov idx => ∃ (i : Nat) (b : Bool), i ≤ ls.length ∧ idx = .int .i64 i ∧ ov = .bool b ∧ (b = true ↔ (ls ≠ [] ∧ ∀ j (hj : j < ls.length), j < i → 0 ≤ ls[j] ∧ ls[j] ≤ 7))) (fun _ idx => ls.length - (intOf idx).toNat)
    case atStart => exact ⟨0, lb, by omega, rfl, rfl, by rw [← Hlb.out]; simp [List.length_pos_iff]⟩
    case round =>
      obtain ⟨i, b, hi, rfl, rfl, hb⟩ := hrel
      have Hb := hide hb
      clear hb
      by_cases hlt : i < ls.length
      · obtain ⟨bA, oA, rfl, hbA, hcA⟩ := HAc.out.at_ (k := i) (by simpa using hlt)
        rw [ints_get] at hcA
        obtain ⟨z, hz⟩ : ∃ z, ls[i] = z := ⟨_, rfl⟩
        rw [hz] at hcA
        have Hz := hide hz
        clear hz
        cases b with
        | false =>
          go_wp2_with fail
          go_round
          case rel => exact ⟨i + 1, false, by omega, by go_num, rfl, by
            simp only [Bool.false_eq_true, false_iff]
            exact fun hh => absurd (Hb.out.2 ⟨hh.1, fun j hj hji => hh.2 j hj (by omega)⟩) (by simp)⟩
          case measure => simp [intOf]; omega
        | true =>
          by_cases z0 : 0 ≤ z
          · have e1 : decide (z ≥ 0) = true := by simp; omega
            by_cases z7 : z ≤ 7
            · have e2 : decide (z ≤ 7) = true := by simp; omega
              go_wp2_with fail
              go_round
              case rel => exact ⟨i + 1, true, by omega, by go_num, rfl, by
                simp only [true_iff]
                refine ⟨(Hb.out.1 rfl).1, fun j hj hji => ?_⟩
                by_cases e : j = i
                · subst e; rw [Hz.out]; exact ⟨z0, z7⟩
                · exact (Hb.out.1 rfl).2 j hj (by omega)⟩
              case measure => simp [intOf]; omega
            · have e2 : decide (z ≤ 7) = false := by simp; omega
              go_wp2_with fail
              go_round
              case rel => exact ⟨i + 1, false, by omega, by go_num, rfl, by
                simp only [Bool.false_eq_true, false_iff]
                exact fun hh => z7 (by have := (hh.2 i hlt (by omega)).2; rw [Hz.out] at this; exact this)⟩
              case measure => simp [intOf]; omega
          · have e1 : decide (z ≥ 0) = false := by simp; omega
            go_wp2_with fail
            go_round
            case rel => exact ⟨i + 1, false, by omega, by go_num, rfl, by
              simp only [Bool.false_eq_true, false_iff]
              exact fun hh => z0 (by have := (hh.2 i hlt (by omega)).1; rw [Hz.out] at this; exact this)⟩
            case measure => simp [intOf]; omega
      · obtain rfl : i = ls.length := by omega
        obtain rfl : b = true := Hb.out.2 ⟨Hls.out.1, fun j hj _ => Hls.out.2 _ (List.getElem_mem hj)⟩
        have hpos : 0 < ls.length := List.length_pos_iff.2 Hls.out.1
        obtain ⟨bA, oA, rfl, hbA, hcs⟩ := HAc.out (by simpa using hpos)
        have Hcs := hide hcs
        clear hcs
        go_wp2_with fail
        go_loopw [16, 140] (fun av idx wr => ∃ i a : Nat, i ≤ ls.length ∧ idx = .int .i64 i ∧ a < ls.length ∧ av = .int .i64 a ∧ (i = 0 → a = 0) ∧ (0 < i → ((ls.map Int.toNat).getD a 0) = leastK ⟨w, h, c, t, h0, h1⟩ ((ls.map Int.toNat).take i)) ∧ Below w5.heap.size w5 wr) (fun _ idx _ => ls.length - (intOf idx).toNat)
        case atStart => exact ⟨0, 0, by omega, rfl, hpos, rfl, fun _ => rfl, by omega, Below.refl _ _⟩
        case round =>
          rename World => wr
          obtain ⟨i, a, hi, rfl, ha, rfl, hi0, hmin, hbr⟩ := hrel
          have Hi0 := hide hi0
          have Hmin := hide hmin
          have Hbr := hide hbr
          have BPr := hide (BP.out.below hbr BP.out.lt)
          have BCr := hide (BC.out.below hbr BC.out.lt)
          have hcat : wr.cell? ⟨bA, oA + a, none⟩ = some (.int .i64 ((ls.map Int.toNat).getD a 0 : Nat)) := by
            rw [hbr.cell (p := ⟨bA, oA + a, none⟩) (Nat.lt_of_lt_of_le hbA HB5.out.size), Hcs.out a (by simpa using ha)]
            have := Hls.out.2 _ (List.getElem_mem ha)
            simp [ints, List.getD_eq_getElem?_getD, ha]; omega
          have hka8 : (ls.map Int.toNat).getD a 0 < 8 := by have := Hls.out.2 _ (List.getElem_mem ha); simp [List.getD_eq_getElem?_getD, ha]; omega
          obtain ⟨ka, hka⟩ : ∃ ka, (ls.map Int.toNat).getD a 0 = ka := ⟨_, rfl⟩
          rw [hka] at hcat hka8
          have Hka := hide hka
          have j3 : (0 : Int) ≤ (a : Int) := by omega
          have j4 : (a : Int) < (ls.length : Int) := by omega
          have hlA : bA < wr.heap.size := Nat.lt_of_lt_of_le hbA (Nat.le_trans HB5.out.size hbr.size)
          have Hrun := hide (Below.refl wr.heap.size wr)
          clear hi0 hmin hbr hka
          by_cases hlt : i < ls.length
          · have hcit : wr.cell? ⟨bA, oA + i, none⟩ = some (.int .i64 ((ls.map Int.toNat).getD i 0 : Nat)) := by
              rw [Hbr.out.cell (p := ⟨bA, oA + i, none⟩) (Nat.lt_of_lt_of_le hbA HB5.out.size), Hcs.out i (by simpa using hlt)]
              have := Hls.out.2 _ (List.getElem_mem hlt)
              simp [ints, List.getD_eq_getElem?_getD, hlt]; omega
            have hki8 : (ls.map Int.toNat).getD i 0 < 8 := by have := Hls.out.2 _ (List.getElem_mem hlt); simp [List.getD_eq_getElem?_getD, hlt]; omega
            obtain ⟨ki, hki⟩ : ∃ ki, (ls.map Int.toNat).getD i 0 = ki := ⟨_, rfl⟩
            rw [hki] at hcit hki8
            have hnx : (ls.map Int.toNat).take (i + 1) = (ls.map Int.toNat).take i ++ [ki] := by rw [List.take_succ_eq_append_getElem (by simpa using hlt), ← hki]; simp [List.getD_eq_getElem?_getD, hlt]
            have Hki := hide hki
            have Hnx := hide hnx
            have j1 : (0 : Int) ≤ (i : Int) := by omega
            have j2 : (i : Int) < (ls.length : Int) := by omega
            obtain ⟨v, hv⟩ : ∃ v, ltB (turnP ⟨w, h, c, t, h0, h1⟩ ki) (turnP ⟨w, h, c, t, h0, h1⟩ ka) = v := ⟨_, rfl⟩
            have Hv := hide hv
            clear hki hnx hv
            have RA := hide (TR.out ka hka8)
            have RI := hide (TR.out ki hki8)
            obtain ⟨qa, hqa⟩ : ∃ qa, turnP ⟨w, h, c, t, h0, h1⟩ ka = qa := ⟨_, rfl⟩
            obtain ⟨qi, hqi⟩ : ∃ qi, turnP ⟨w, h, c, t, h0, h1⟩ ki = qi := ⟨_, rfl⟩
            have Hv2 := hide (show ltB qi qa = v by rw [← hqa, ← hqi]; exact Hv.out)
            have TR2 := hide fun (j : Nat) (hj : j < 8) V => TR.out j hj V
            obtain ⟨⟨p0, p1, p2, p3, p4, p5⟩, -⟩ := BPr.out.six
            clear hqa hqi
            go_wp2_with fail
            go_region_held3 (fun w' => w'.cell? ⟨W.heap.size, 0, none⟩ = some (.int .i64 (w)) ∧ w'.cell? ⟨W.heap.size, 1, none⟩ = some (.int .i64 (h)) ∧ w'.cell? ⟨W.heap.size, 2, none⟩ = some (.string c) ∧ w'.cell? ⟨W.heap.size, 3, none⟩ = some (.int .i64 (t)) ∧ w'.cell? ⟨W.heap.size, 4, none⟩ = some (.string h0) ∧ w'.cell? ⟨W.heap.size, 5, none⟩ = some (.string h1) ∧ w'.cell? ⟨bA, oA + i, none⟩ = some (.int .i64 (ki : Int)) ∧ w'.cell? ⟨bA, oA + a, none⟩ = some (.int .i64 (ka : Int))) (refine ⟨?_, ?_, ?_, ?_, ?_, ?_, ?_, ?_⟩ <;> assumption)
              ((first | (go_at_call 23; refine (TR.out _ (by assumption) _).mono ?_; rintro e wn ⟨rfl, hbn⟩; simp only [posV]; (first | have hbz := below_undrew hbn | have hbz := hbn); have BPn := hide (BPr.out.below hbz BPr.out.lt); clear BPr; have BPr := BPn; clear BPn; have Hrn := hide (Hrun.out.trans (hbz.mono Hrun.out.size)); clear Hrun; have Hrun := Hrn; clear Hrn; have hc1n := (hbz.cell (p := ⟨bA, oA + i, none⟩) hlA).trans hcit; have hc2n := (hbz.cell (p := ⟨bA, oA + a, none⟩) hlA).trans hcat; have hlAn := Nat.lt_of_lt_of_le hlA hbz.size; clear hcit hcat hlA p0 p1 p2 p3 p4 p5; have hcit := hc1n; have hcat := hc2n; have hlA := hlAn; clear hc1n hc2n hlAn; obtain ⟨⟨p0, p1, p2, p3, p4, p5⟩, -⟩ := BPr.out.six; clear hbn hbz)
                      | (go_at_call 24; refine (less_any _ _ _ _ _ _ _ _ _ _ _ _ _).mono ?_; rintro e wn ⟨he, hbn⟩; have he2 := he.trans (congrArg (fun b => Ending.returned (.bool b)) Hv.out); clear he; subst he2; (first | have hbz := below_undrew hbn | have hbz := hbn); have BPn := hide (BPr.out.below hbz BPr.out.lt); clear BPr; have BPr := BPn; clear BPn; have Hrn := hide (Hrun.out.trans (hbz.mono Hrun.out.size)); clear Hrun; have Hrun := Hrn; clear Hrn; have hc1n := (hbz.cell (p := ⟨bA, oA + i, none⟩) hlA).trans hcit; have hc2n := (hbz.cell (p := ⟨bA, oA + a, none⟩) hlA).trans hcat; have hlAn := Nat.lt_of_lt_of_le hlA hbz.size; clear hcit hcat hlA p0 p1 p2 p3 p4 p5; have hcit := hc1n; have hcat := hc2n; have hlA := hlAn; clear hc1n hc2n hlAn; obtain ⟨⟨p0, p1, p2, p3, p4, p5⟩, -⟩ := BPr.out.six; clear hbn hbz)))
            all_goals
              have Hst := hide (show 0 < i → leastK ⟨w, h, c, t, h0, h1⟩ ((ls.map Int.toNat).take (i + 1)) = if v then ki else ka from fun hi1 => by
                rw [Hnx.out, leastK_snoc _ _ _ (fun he => by have h2 := congrArg List.length he; rw [List.length_take, List.length_map] at h2; simp only [List.length_nil] at h2; omega), ← Hmin.out hi1, Hka.out, leastStep, Hv.out])
              have Hst0 := hide (show i = 0 → leastK ⟨w, h, c, t, h0, h1⟩ ((ls.map Int.toNat).take (i + 1)) = ki from fun hi1 => by rw [Hnx.out]; subst hi1; rfl)
              have Hsame := hide (show i = 0 → ka = ki ∧ v = false from fun hi1 => by
                have h1 : ka = ki := by rw [← Hka.out, ← Hki.out, Hi0.out hi1, hi1]
                refine ⟨h1, ?_⟩
                have h2 := Hv.out
                rw [h1] at h2
                cases v with
                | false => rfl
                | true => exact absurd (ltB_iff.1 h2) (ltP_irrefl _))
              cases v with
              | false =>
                go_wp2_with fail
                go_roundw
                case rel =>
                  refine ⟨i + 1, a, by omega, by go_num, ha, rfl, by omega, fun _ => ?_, Hbr.out.trans (Hrun.out.mono Hbr.out.size)⟩
                  by_cases h0i : i = 0
                  · rw [Hst0.out h0i, Hka.out, (Hsame.out h0i).1]
                  · rw [Hst.out (by omega), Hka.out]; rfl
                case measure => simp [intOf]; omega
              | true =>
                go_wp2_with fail
                go_roundw
                case rel =>
                  refine ⟨i + 1, i, by omega, by go_num, hlt, rfl, by omega, fun _ => ?_, Hbr.out.trans (Hrun.out.mono Hbr.out.size)⟩
                  by_cases h0i : i = 0
                  · exact absurd (Hsame.out h0i).2 (by simp)
                  · rw [Hst.out (by omega), Hki.out]; rfl
                case measure => simp [intOf]; omega
          · obtain rfl : i = ls.length := by omega
            obtain rfl : ka = m := by
              rw [← Hka.out, Hmin.out hpos, List.take_of_length_le (by simp)]; exact Hm.out
            have RA := hide (TR.out ka hka8)
            rw [Hu.out] at RA
            obtain ⟨⟨p0, p1, p2, p3, p4, p5⟩, -⟩ := BPr.out.six
            obtain ⟨⟨q0, q1, q2, q3, q4, q5⟩, -⟩ := BCr.out.six
            have heq := run_eq_hands
            go_wp2_with fail
            go_region_held3 (fun w' => w'.cell? ⟨W.heap.size, 0, none⟩ = some (.int .i64 (w)) ∧ w'.cell? ⟨W.heap.size, 1, none⟩ = some (.int .i64 (h)) ∧ w'.cell? ⟨W.heap.size, 2, none⟩ = some (.string c) ∧ w'.cell? ⟨W.heap.size, 3, none⟩ = some (.int .i64 (t)) ∧ w'.cell? ⟨W.heap.size, 4, none⟩ = some (.string h0) ∧ w'.cell? ⟨W.heap.size, 5, none⟩ = some (.string h1) ∧ w'.cell? ⟨bA, oA + a, none⟩ = some (.int .i64 (ka : Int)) ∧ w'.cell? ⟨g3, 0, none⟩ = some (.int .i64 (uw)) ∧ w'.cell? ⟨g3, 1, none⟩ = some (.int .i64 (uh)) ∧ w'.cell? ⟨g3, 2, none⟩ = some (.string uc) ∧ w'.cell? ⟨g3, 3, none⟩ = some (.int .i64 (ut)) ∧ w'.cell? ⟨g3, 4, none⟩ = some (.string u0) ∧ w'.cell? ⟨g3, 5, none⟩ = some (.string u1)) (refine ⟨?_, ?_, ?_, ?_, ?_, ?_, ?_, ?_, ?_, ?_, ?_, ?_, ?_⟩ <;> assumption)
              ((go_at_call 23; refine (RA.out _).mono ?_; rintro e wn ⟨rfl, hbn⟩; simp only [posV]; have hbz := below_undrew hbn; have Hrn := hide hbz; have hcn := (hbz.cell (p := ⟨bA, oA + a, none⟩) hlA).trans hcat; obtain ⟨⟨pp0, pp1, pp2, pp3, pp4, pp5⟩, -⟩ := (BPr.out.below hbz BPr.out.lt).six; obtain ⟨⟨qq0, qq1, qq2, qq3, qq4, qq5⟩, -⟩ := (BCr.out.below hbz BCr.out.lt).six; clear hbn hbz))
            go_wp2_with fail
            go_ret
            exact ⟨rfl, HB5.out.trans ((Hbr.out.trans (Hrn.out.mono Hbr.out.size)).mono HB5.out.size)⟩
end Go.Proofs.Ytfoehijlafooaaa
