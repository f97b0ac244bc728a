/- gamekeep.BoardGroup, walked -/
import Derived.Test.YtfoehijlafooaaaBgPlain
namespace Go.Proofs.Ytfoehijlafooaaa
open Go.RowKit

set_option maxHeartbeats 4000000 in
set_option maxRecDepth 100000 in
theorem bg_good (w h t : Int) (c h0 h1 : ByteArray) (W : World) (a b : Nat) (ha : a < 8) (hb8 : b < 8) (hp : PosOk ⟨w, h, c, t, h0, h1⟩) :
    Calls Try.prog 7 #[.agg #[.int .i64 w, .int .i64 h, .string c, .int .i64 t, .string h0, .string h1], .int .i64 a, .int .i64 b] W fun e w' => e = .returned (.bool true) ∧ Below W.heap.size W w' := by
  have Hp := hide hp
  obtain ⟨x, hx⟩ : ∃ x, turnP ⟨w, h, c, t, h0, h1⟩ a = x := ⟨_, rfl⟩
  obtain ⟨y, hy⟩ : ∃ y, turnP x b = y := ⟨_, rfl⟩
  obtain ⟨s, hs⟩ : ∃ s, exchP ⟨w, h, c, t, h0, h1⟩ = s := ⟨_, rfl⟩
  have hxo : PosOk x := by rw [← hx]; exact turn_ok hp a
  have hso : PosOk s := by rw [← hs]; exact exch_ok hp
  have Hss := hide (show exchP s = ⟨w, h, c, t, h0, h1⟩ by rw [← hs]; exact exch_exch hp)
  have Hyc := hide (show turnP ⟨w, h, c, t, h0, h1⟩ (compK a b) = y by rw [← turn_two hp ha hb8, hx, hy])
  have Hk8 := hide (compK_bits a ha b hb8).1
  have Hle := hide (show turnP x (leastK x all8) = turnP ⟨w, h, c, t, h0, h1⟩ (leastK ⟨w, h, c, t, h0, h1⟩ all8) by rw [← hx]; exact least_turn hp ha)
  have Hx := hide hx
  have Hy := hide hy
  have Hs := hide hs
  obtain ⟨xw, xh, xc, xt, x0, x1⟩ := x
  obtain ⟨yw, yh, yc, yt, y0, y1⟩ := y
  obtain ⟨sw, sh, sc, st, s0, s1⟩ := s
  have Hxo := hide hxo
  have Hso := hide hso
  have T1 := hide fun W => turned_at w h t c h0 h1 W hp a ha
  have T2 := hide fun W => turned_at xw xh xt xc x0 x1 W hxo b hb8
  have T3 := hide fun W => swapped_at w h t c h0 h1 W hp
  have T4 := hide fun W => swapped_at sw sh st sc s0 s1 W hso
  rw [hx] at T1
  rw [hy] at T2
  rw [hs] at T3
  rw [Hss.out] at T4
  have T5 := hide fun W => turned_at w h t c h0 h1 W hp (compK a b) Hk8.out
  have T6 := hide fun W g hA => least_at w h t c h0 h1 W hp (pos_csize hp) g hA
  have T7 := hide fun W g hA => least_at xw xh xt xc x0 x1 W Hxo.out (pos_csize Hxo.out) g hA
  rw [Hyc.out] at T5
  rw [Hle.out] at T7
  obtain ⟨u, hu⟩ : ∃ u, turnP ⟨w, h, c, t, h0, h1⟩ (leastK ⟨w, h, c, t, h0, h1⟩ all8) = u := ⟨_, rfl⟩
  rw [hu] at T6 T7
  have Hu := hide hu
  obtain ⟨uw, uh, uc, ut, u0, u1⟩ := u
  obtain ⟨m1, hm1⟩ : ∃ m1, leastK ⟨w, h, c, t, h0, h1⟩ all8 = m1 := ⟨_, rfl⟩
  obtain ⟨m2, hm2⟩ : ∃ m2, leastK ⟨xw, xh, xc, xt, x0, x1⟩ all8 = m2 := ⟨_, rfl⟩
  rw [hm1] at T6
  rw [hm2] at T7
  obtain ⟨X1, X2, A1, A2, B4, B3, O1, O2, gb1, gb2, gb3, gb4, gb5, gb6, gb7, gb8, gb9, gb10, gb11, gb12, gb13⟩ := group_bits ha hb8
  obtain ⟨K, hKb⟩ : ∃ K, compK a b = K := ⟨_, rfl⟩
  rw [hKb] at T5 gb12 gb13 Hk8
  obtain ⟨sb, hsb⟩ : ∃ sb, sBit b = sb := ⟨_, rfl⟩
  rw [hsb] at gb3 gb12 gb13
  have Hb4 := hide gb3
  have HK1 := hide gb12
  have HK2 := hide gb13
  clear hp hx hy hs hxo hso hu hm1 hm2 hsb gb3 gb12 gb13
  go_enter Try.func7, Try.ntmps7
  go_upto_region 1 with (fail)
  have BP := hide (Blk.new W 36 #[.int .i64 w, .int .i64 h, .string c, .int .i64 t, .string h0, .string h1])
  have HB0 := hide (below_fresh W (.cells #[.int .i64 w, .int .i64 h, .string c, .int .i64 t, .string h0, .string h1] 36))
  generalize W.alloc (.cells #[.int .i64 w, .int .i64 h, .string c, .int .i64 t, .string h0, .string h1] 36) = w0 at *
  obtain ⟨⟨bpw0_0, bpw0_1, bpw0_2, bpw0_3, bpw0_4, bpw0_5⟩, -⟩ := BP.out.six
  go_wp2_with fail
  refine (T1.out _).mono ?_
  rintro e w1 ⟨rfl, hb1⟩
  simp only [posV]
  have BP1 := hide ((BP.out.below hb1 BP.out.lt).alloc (.cells #[.int .i64 xw, .int .i64 xh, .string xc, .int .i64 xt, .string x0, .string x1] 36))
  have BX1 := hide (Blk.new w1 36 #[.int .i64 xw, .int .i64 xh, .string xc, .int .i64 xt, .string x0, .string x1])
  have HB1 := hide (below_alloc0 (HB0.out.trans (hb1.mono HB0.out.size)) (.cells #[.int .i64 xw, .int .i64 xh, .string xc, .int .i64 xt, .string x0, .string x1] 36))
  clear hb1
  go_upto_region 2 with (fail)
  generalize w1.alloc (.cells #[.int .i64 xw, .int .i64 xh, .string xc, .int .i64 xt, .string x0, .string x1] 36) = v1 at *
  generalize w1.heap.size = g1 at *
  clear BP
  have BP := BP1; clear BP1
  have BX := BX1; clear BX1
  obtain ⟨⟨bxv1_0, bxv1_1, bxv1_2, bxv1_3, bxv1_4, bxv1_5⟩, -⟩ := BX.out.six
  go_wp2_with fail
  refine (T2.out _).mono ?_
  rintro e w2 ⟨rfl, hb2⟩
  simp only [posV]
  have BP2 := hide ((BP.out.below hb2 BP.out.lt).alloc (.cells #[.int .i64 yw, .int .i64 yh, .string yc, .int .i64 yt, .string y0, .string y1] 36))
  have BX2 := hide ((BX.out.below hb2 BX.out.lt).alloc (.cells #[.int .i64 yw, .int .i64 yh, .string yc, .int .i64 yt, .string y0, .string y1] 36))
  have BY2 := hide (Blk.new w2 36 #[.int .i64 yw, .int .i64 yh, .string yc, .int .i64 yt, .string y0, .string y1])
  have HB2 := hide (below_alloc0 (HB1.out.trans (hb2.mono HB1.out.size)) (.cells #[.int .i64 yw, .int .i64 yh, .string yc, .int .i64 yt, .string y0, .string y1] 36))
  clear hb2
  go_upto_region 3 with (fail)
  generalize w2.alloc (.cells #[.int .i64 yw, .int .i64 yh, .string yc, .int .i64 yt, .string y0, .string y1] 36) = v2 at *
  generalize w2.heap.size = g2 at *
  clear BP BX
  have BP := BP2; clear BP2
  have BX := BX2; clear BX2
  have BY := BY2; clear BY2
  obtain ⟨⟨bpv2_0, bpv2_1, bpv2_2, bpv2_3, bpv2_4, bpv2_5⟩, -⟩ := BP.out.six
  go_wp2_with fail
  refine (T3.out _).mono ?_
  rintro e w3 ⟨rfl, hb3⟩
  simp only [posV]
  have BP3 := hide ((BP.out.below hb3 BP.out.lt).alloc (.cells #[.int .i64 sw, .int .i64 sh, .string sc, .int .i64 st, .string s0, .string s1] 36))
  have BX3 := hide ((BX.out.below hb3 BX.out.lt).alloc (.cells #[.int .i64 sw, .int .i64 sh, .string sc, .int .i64 st, .string s0, .string s1] 36))
  have BY3 := hide ((BY.out.below hb3 BY.out.lt).alloc (.cells #[.int .i64 sw, .int .i64 sh, .string sc, .int .i64 st, .string s0, .string s1] 36))
  have BS3 := hide (Blk.new w3 36 #[.int .i64 sw, .int .i64 sh, .string sc, .int .i64 st, .string s0, .string s1])
  have HB3 := hide (below_alloc0 (HB2.out.trans (hb3.mono HB2.out.size)) (.cells #[.int .i64 sw, .int .i64 sh, .string sc, .int .i64 st, .string s0, .string s1] 36))
  clear hb3
  go_upto_region 4 with (fail)
  generalize w3.alloc (.cells #[.int .i64 sw, .int .i64 sh, .string sc, .int .i64 st, .string s0, .string s1] 36) = v3 at *
  generalize w3.heap.size = g3 at *
  clear BP BX BY
  have BP := BP3; clear BP3
  have BX := BX3; clear BX3
  have BY := BY3; clear BY3
  have BS := BS3; clear BS3
  obtain ⟨⟨bsv3_0, bsv3_1, bsv3_2, bsv3_3, bsv3_4, bsv3_5⟩, -⟩ := BS.out.six
  go_wp2_with fail
  refine (T4.out _).mono ?_
  rintro e w4 ⟨rfl, hb4⟩
  simp only [posV]
  have BP4 := hide ((BP.out.below hb4 BP.out.lt).alloc (.cells #[.int .i64 w, .int .i64 h, .string c, .int .i64 t, .string h0, .string h1] 36))
  have BX4 := hide ((BX.out.below hb4 BX.out.lt).alloc (.cells #[.int .i64 w, .int .i64 h, .string c, .int .i64 t, .string h0, .string h1] 36))
  have BY4 := hide ((BY.out.below hb4 BY.out.lt).alloc (.cells #[.int .i64 w, .int .i64 h, .string c, .int .i64 t, .string h0, .string h1] 36))
  have BS4 := hide ((BS.out.below hb4 BS.out.lt).alloc (.cells #[.int .i64 w, .int .i64 h, .string c, .int .i64 t, .string h0, .string h1] 36))
  have BT4 := hide (Blk.new w4 36 #[.int .i64 w, .int .i64 h, .string c, .int .i64 t, .string h0, .string h1])
  have HB4 := hide (below_alloc0 (HB3.out.trans (hb4.mono HB3.out.size)) (.cells #[.int .i64 w, .int .i64 h, .string c, .int .i64 t, .string h0, .string h1] 36))
  clear hb4
  go_upto_region 7 with (fail)
  generalize w4.alloc (.cells #[.int .i64 w, .int .i64 h, .string c, .int .i64 t, .string h0, .string h1] 36) = v4 at *
  generalize w4.heap.size = g4 at *
  clear BP BX BY BS
  have BP := BP4; clear BP4
  have BX := BX4; clear BX4
  have BY := BY4; clear BY4
  have BS := BS4; clear BS4
  have BT := BT4; clear BT4
  obtain ⟨⟨bpv4_0, bpv4_1, bpv4_2, bpv4_3, bpv4_4, bpv4_5⟩, -⟩ := BP.out.six
  obtain ⟨⟨btv4_0, btv4_1, btv4_2, btv4_3, btv4_4, btv4_5⟩, -⟩ := BT.out.six
  have heq := run_eq_hands
  go_upto_region 9 with (fail)
  clear bpv4_0 bpv4_1 bpv4_2 bpv4_3 bpv4_4 bpv4_5
  clear btv4_0 btv4_1 btv4_2 btv4_3 btv4_4 btv4_5
  clear heq
  clear hKb
  cases sb
  · have hbit := Hb4.out
    have hKK := HK2.out rfl
    subst hKK
    obtain ⟨⟨bpv4_0, bpv4_1, bpv4_2, bpv4_3, bpv4_4, bpv4_5⟩, -⟩ := BP.out.six
    go_wp2_with fail
    refine (T5.out _).mono ?_
    rintro e w5 ⟨rfl, hb5⟩
    simp only [posV]
    have BP5 := hide ((BP.out.below hb5 BP.out.lt).alloc (.cells #[.int .i64 yw, .int .i64 yh, .string yc, .int .i64 yt, .string y0, .string y1] 36))
    have BX5 := hide ((BX.out.below hb5 BX.out.lt).alloc (.cells #[.int .i64 yw, .int .i64 yh, .string yc, .int .i64 yt, .string y0, .string y1] 36))
    have BY5 := hide ((BY.out.below hb5 BY.out.lt).alloc (.cells #[.int .i64 yw, .int .i64 yh, .string yc, .int .i64 yt, .string y0, .string y1] 36))
    have BS5 := hide ((BS.out.below hb5 BS.out.lt).alloc (.cells #[.int .i64 yw, .int .i64 yh, .string yc, .int .i64 yt, .string y0, .string y1] 36))
    have BT5 := hide ((BT.out.below hb5 BT.out.lt).alloc (.cells #[.int .i64 yw, .int .i64 yh, .string yc, .int .i64 yt, .string y0, .string y1] 36))
    have BZ5 := hide (Blk.new w5 36 #[.int .i64 yw, .int .i64 yh, .string yc, .int .i64 yt, .string y0, .string y1])
    have HB5 := hide (below_alloc0 (HB4.out.trans (hb5.mono HB4.out.size)) (.cells #[.int .i64 yw, .int .i64 yh, .string yc, .int .i64 yt, .string y0, .string y1] 36))
    clear hb5
    go_upto_region 13 with (fail)
    generalize w5.alloc (.cells #[.int .i64 yw, .int .i64 yh, .string yc, .int .i64 yt, .string y0, .string y1] 36) = v5 at *
    generalize w5.heap.size = g5 at *
    clear BP BX BY BS BT
    have BP := BP5; clear BP5
    have BX := BX5; clear BX5
    have BY := BY5; clear BY5
    have BS := BS5; clear BS5
    have BT := BT5; clear BT5
    have BZ := BZ5; clear BZ5
    obtain ⟨⟨byv5_0, byv5_1, byv5_2, byv5_3, byv5_4, byv5_5⟩, -⟩ := BY.out.six
    obtain ⟨⟨bzv5_0, bzv5_1, bzv5_2, bzv5_3, bzv5_4, bzv5_5⟩, -⟩ := BZ.out.six
    have heq := run_eq_hands
    go_upto_region 15 with (fail)
    clear heq
    clear byv5_0 byv5_1 byv5_2 byv5_3 byv5_4 byv5_5
    clear bzv5_0 bzv5_1 bzv5_2 bzv5_3 bzv5_4 bzv5_5
    go_upto_region 16 with (fail)
    have BP6 := hide (BP.out.alloc (.cells #[.int .i64 0, .int .i64 1, .int .i64 2, .int .i64 3, .int .i64 4, .int .i64 5, .int .i64 6, .int .i64 7] 3))
    have BX6 := hide (BX.out.alloc (.cells #[.int .i64 0, .int .i64 1, .int .i64 2, .int .i64 3, .int .i64 4, .int .i64 5, .int .i64 6, .int .i64 7] 3))
    have BY6 := hide (BY.out.alloc (.cells #[.int .i64 0, .int .i64 1, .int .i64 2, .int .i64 3, .int .i64 4, .int .i64 5, .int .i64 6, .int .i64 7] 3))
    have BS6 := hide (BS.out.alloc (.cells #[.int .i64 0, .int .i64 1, .int .i64 2, .int .i64 3, .int .i64 4, .int .i64 5, .int .i64 6, .int .i64 7] 3))
    have BT6 := hide (BT.out.alloc (.cells #[.int .i64 0, .int .i64 1, .int .i64 2, .int .i64 3, .int .i64 4, .int .i64 5, .int .i64 6, .int .i64 7] 3))
    have BZ6 := hide (BZ.out.alloc (.cells #[.int .i64 0, .int .i64 1, .int .i64 2, .int .i64 3, .int .i64 4, .int .i64 5, .int .i64 6, .int .i64 7] 3))
    have BA := hide (Blk.new v5 3 #[.int .i64 0, .int .i64 1, .int .i64 2, .int .i64 3, .int .i64 4, .int .i64 5, .int .i64 6, .int .i64 7])
    have HB6 := hide (below_alloc0 HB5.out (.cells #[.int .i64 0, .int .i64 1, .int .i64 2, .int .i64 3, .int .i64 4, .int .i64 5, .int .i64 6, .int .i64 7] 3))
    generalize v5.alloc (.cells #[.int .i64 0, .int .i64 1, .int .i64 2, .int .i64 3, .int .i64 4, .int .i64 5, .int .i64 6, .int .i64 7] 3) = v6 at *
    generalize v5.heap.size = g6 at *
    clear BP BX BY BS BT BZ
    have BP := BP6; clear BP6
    have BX := BX6; clear BX6
    have BY := BY6; clear BY6
    have BS := BS6; clear BS6
    have BT := BT6; clear BT6
    have BZ := BZ6; clear BZ6
    obtain ⟨⟨bpv6_0, bpv6_1, bpv6_2, bpv6_3, bpv6_4, bpv6_5⟩, -⟩ := BP.out.six
    have BA0 := BA
    go_wp2_with fail
    refine (T6.out _ _ BA.out).mono ?_
    rintro e w7 ⟨rfl, hb7⟩
    simp only [posV]
    have BA2 := hide ((BA0.out.below hb7 BA0.out.lt).alloc (.cells #[.int .i64 uw, .int .i64 uh, .string uc, .int .i64 ut, .string u0, .string u1] 36))
    have BP7 := hide ((BP.out.below hb7 BP.out.lt).alloc (.cells #[.int .i64 uw, .int .i64 uh, .string uc, .int .i64 ut, .string u0, .string u1] 36))
    have BX7 := hide ((BX.out.below hb7 BX.out.lt).alloc (.cells #[.int .i64 uw, .int .i64 uh, .string uc, .int .i64 ut, .string u0, .string u1] 36))
    have BY7 := hide ((BY.out.below hb7 BY.out.lt).alloc (.cells #[.int .i64 uw, .int .i64 uh, .string uc, .int .i64 ut, .string u0, .string u1] 36))
    have BS7 := hide ((BS.out.below hb7 BS.out.lt).alloc (.cells #[.int .i64 uw, .int .i64 uh, .string uc, .int .i64 ut, .string u0, .string u1] 36))
    have BT7 := hide ((BT.out.below hb7 BT.out.lt).alloc (.cells #[.int .i64 uw, .int .i64 uh, .string uc, .int .i64 ut, .string u0, .string u1] 36))
    have BZ7 := hide ((BZ.out.below hb7 BZ.out.lt).alloc (.cells #[.int .i64 uw, .int .i64 uh, .string uc, .int .i64 ut, .string u0, .string u1] 36))
    have BU7 := hide (Blk.new w7 36 #[.int .i64 uw, .int .i64 uh, .string uc, .int .i64 ut, .string u0, .string u1])
    have HB7 := hide (below_alloc0 (HB6.out.trans (hb7.mono HB6.out.size)) (.cells #[.int .i64 uw, .int .i64 uh, .string uc, .int .i64 ut, .string u0, .string u1] 36))
    clear hb7
    go_upto_region 17 with (fail)
    generalize w7.alloc (.cells #[.int .i64 uw, .int .i64 uh, .string uc, .int .i64 ut, .string u0, .string u1] 36) = v7 at *
    generalize w7.heap.size = g7 at *
    clear BP BX BY BS BT BZ
    have BP := BP7; clear BP7
    have BX := BX7; clear BX7
    have BY := BY7; clear BY7
    have BS := BS7; clear BS7
    have BT := BT7; clear BT7
    have BZ := BZ7; clear BZ7
    have BU := BU7; clear BU7
    clear BA BA0
    obtain ⟨⟨bxv7_0, bxv7_1, bxv7_2, bxv7_3, bxv7_4, bxv7_5⟩, -⟩ := BX.out.six
    go_wp2_with fail
    refine (T7.out _ _ BA2.out).mono ?_
    rintro e w8 ⟨rfl, hb8⟩
    simp only [posV]
    have BP8 := hide ((BP.out.below hb8 BP.out.lt).alloc (.cells #[.int .i64 uw, .int .i64 uh, .string uc, .int .i64 ut, .string u0, .string u1] 36))
    have BX8 := hide ((BX.out.below hb8 BX.out.lt).alloc (.cells #[.int .i64 uw, .int .i64 uh, .string uc, .int .i64 ut, .string u0, .string u1] 36))
    have BY8 := hide ((BY.out.below hb8 BY.out.lt).alloc (.cells #[.int .i64 uw, .int .i64 uh, .string uc, .int .i64 ut, .string u0, .string u1] 36))
    have BS8 := hide ((BS.out.below hb8 BS.out.lt).alloc (.cells #[.int .i64 uw, .int .i64 uh, .string uc, .int .i64 ut, .string u0, .string u1] 36))
    have BT8 := hide ((BT.out.below hb8 BT.out.lt).alloc (.cells #[.int .i64 uw, .int .i64 uh, .string uc, .int .i64 ut, .string u0, .string u1] 36))
    have BZ8 := hide ((BZ.out.below hb8 BZ.out.lt).alloc (.cells #[.int .i64 uw, .int .i64 uh, .string uc, .int .i64 ut, .string u0, .string u1] 36))
    have BU8 := hide ((BU.out.below hb8 BU.out.lt).alloc (.cells #[.int .i64 uw, .int .i64 uh, .string uc, .int .i64 ut, .string u0, .string u1] 36))
    have BV8 := hide (Blk.new w8 36 #[.int .i64 uw, .int .i64 uh, .string uc, .int .i64 ut, .string u0, .string u1])
    have HB8 := hide (below_alloc0 (HB7.out.trans (hb8.mono HB7.out.size)) (.cells #[.int .i64 uw, .int .i64 uh, .string uc, .int .i64 ut, .string u0, .string u1] 36))
    clear hb8
    go_upto_region 18 with (fail)
    generalize w8.alloc (.cells #[.int .i64 uw, .int .i64 uh, .string uc, .int .i64 ut, .string u0, .string u1] 36) = v8 at *
    generalize w8.heap.size = g8 at *
    clear BP BX BY BS BT BZ BU
    have BP := BP8; clear BP8
    have BX := BX8; clear BX8
    have BY := BY8; clear BY8
    have BS := BS8; clear BS8
    have BT := BT8; clear BT8
    have BZ := BZ8; clear BZ8
    have BU := BU8; clear BU8
    have BV := BV8; clear BV8
    obtain ⟨⟨buv8_0, buv8_1, buv8_2, buv8_3, buv8_4, buv8_5⟩, -⟩ := BU.out.six
    obtain ⟨⟨bvv8_0, bvv8_1, bvv8_2, bvv8_3, bvv8_4, bvv8_5⟩, -⟩ := BV.out.six
    have heq := run_eq_hands
    go_wp2_with fail
    go_ret
    exact ⟨rfl, HB8.out⟩
  · have hbit := Hb4.out
    have hKK := HK1.out rfl
    obtain ⟨⟨bpv4_0, bpv4_1, bpv4_2, bpv4_3, bpv4_4, bpv4_5⟩, -⟩ := BP.out.six
    go_wp2_with fail
    refine (T5.out _).mono ?_
    rintro e w5 ⟨rfl, hb5⟩
    simp only [posV]
    have BP5 := hide ((BP.out.below hb5 BP.out.lt).alloc (.cells #[.int .i64 yw, .int .i64 yh, .string yc, .int .i64 yt, .string y0, .string y1] 36))
    have BX5 := hide ((BX.out.below hb5 BX.out.lt).alloc (.cells #[.int .i64 yw, .int .i64 yh, .string yc, .int .i64 yt, .string y0, .string y1] 36))
    have BY5 := hide ((BY.out.below hb5 BY.out.lt).alloc (.cells #[.int .i64 yw, .int .i64 yh, .string yc, .int .i64 yt, .string y0, .string y1] 36))
    have BS5 := hide ((BS.out.below hb5 BS.out.lt).alloc (.cells #[.int .i64 yw, .int .i64 yh, .string yc, .int .i64 yt, .string y0, .string y1] 36))
    have BT5 := hide ((BT.out.below hb5 BT.out.lt).alloc (.cells #[.int .i64 yw, .int .i64 yh, .string yc, .int .i64 yt, .string y0, .string y1] 36))
    have BZ5 := hide (Blk.new w5 36 #[.int .i64 yw, .int .i64 yh, .string yc, .int .i64 yt, .string y0, .string y1])
    have HB5 := hide (below_alloc0 (HB4.out.trans (hb5.mono HB4.out.size)) (.cells #[.int .i64 yw, .int .i64 yh, .string yc, .int .i64 yt, .string y0, .string y1] 36))
    clear hb5
    go_upto_region 13 with (fail)
    generalize w5.alloc (.cells #[.int .i64 yw, .int .i64 yh, .string yc, .int .i64 yt, .string y0, .string y1] 36) = v5 at *
    generalize w5.heap.size = g5 at *
    clear BP BX BY BS BT
    have BP := BP5; clear BP5
    have BX := BX5; clear BX5
    have BY := BY5; clear BY5
    have BS := BS5; clear BS5
    have BT := BT5; clear BT5
    have BZ := BZ5; clear BZ5
    obtain ⟨⟨byv5_0, byv5_1, byv5_2, byv5_3, byv5_4, byv5_5⟩, -⟩ := BY.out.six
    obtain ⟨⟨bzv5_0, bzv5_1, bzv5_2, bzv5_3, bzv5_4, bzv5_5⟩, -⟩ := BZ.out.six
    have heq := run_eq_hands
    go_upto_region 15 with (fail)
    clear heq
    clear byv5_0 byv5_1 byv5_2 byv5_3 byv5_4 byv5_5
    clear bzv5_0 bzv5_1 bzv5_2 bzv5_3 bzv5_4 bzv5_5
    go_upto_region 16 with (fail)
    have BP6 := hide (BP.out.alloc (.cells #[.int .i64 0, .int .i64 1, .int .i64 2, .int .i64 3, .int .i64 4, .int .i64 5, .int .i64 6, .int .i64 7] 3))
    have BX6 := hide (BX.out.alloc (.cells #[.int .i64 0, .int .i64 1, .int .i64 2, .int .i64 3, .int .i64 4, .int .i64 5, .int .i64 6, .int .i64 7] 3))
    have BY6 := hide (BY.out.alloc (.cells #[.int .i64 0, .int .i64 1, .int .i64 2, .int .i64 3, .int .i64 4, .int .i64 5, .int .i64 6, .int .i64 7] 3))
    have BS6 := hide (BS.out.alloc (.cells #[.int .i64 0, .int .i64 1, .int .i64 2, .int .i64 3, .int .i64 4, .int .i64 5, .int .i64 6, .int .i64 7] 3))
    have BT6 := hide (BT.out.alloc (.cells #[.int .i64 0, .int .i64 1, .int .i64 2, .int .i64 3, .int .i64 4, .int .i64 5, .int .i64 6, .int .i64 7] 3))
    have BZ6 := hide (BZ.out.alloc (.cells #[.int .i64 0, .int .i64 1, .int .i64 2, .int .i64 3, .int .i64 4, .int .i64 5, .int .i64 6, .int .i64 7] 3))
    have BA := hide (Blk.new v5 3 #[.int .i64 0, .int .i64 1, .int .i64 2, .int .i64 3, .int .i64 4, .int .i64 5, .int .i64 6, .int .i64 7])
    have HB6 := hide (below_alloc0 HB5.out (.cells #[.int .i64 0, .int .i64 1, .int .i64 2, .int .i64 3, .int .i64 4, .int .i64 5, .int .i64 6, .int .i64 7] 3))
    generalize v5.alloc (.cells #[.int .i64 0, .int .i64 1, .int .i64 2, .int .i64 3, .int .i64 4, .int .i64 5, .int .i64 6, .int .i64 7] 3) = v6 at *
    generalize v5.heap.size = g6 at *
    clear BP BX BY BS BT BZ
    have BP := BP6; clear BP6
    have BX := BX6; clear BX6
    have BY := BY6; clear BY6
    have BS := BS6; clear BS6
    have BT := BT6; clear BT6
    have BZ := BZ6; clear BZ6
    obtain ⟨⟨bpv6_0, bpv6_1, bpv6_2, bpv6_3, bpv6_4, bpv6_5⟩, -⟩ := BP.out.six
    have BA0 := BA
    go_wp2_with fail
    refine (T6.out _ _ BA.out).mono ?_
    rintro e w7 ⟨rfl, hb7⟩
    simp only [posV]
    have BA2 := hide ((BA0.out.below hb7 BA0.out.lt).alloc (.cells #[.int .i64 uw, .int .i64 uh, .string uc, .int .i64 ut, .string u0, .string u1] 36))
    have BP7 := hide ((BP.out.below hb7 BP.out.lt).alloc (.cells #[.int .i64 uw, .int .i64 uh, .string uc, .int .i64 ut, .string u0, .string u1] 36))
    have BX7 := hide ((BX.out.below hb7 BX.out.lt).alloc (.cells #[.int .i64 uw, .int .i64 uh, .string uc, .int .i64 ut, .string u0, .string u1] 36))
    have BY7 := hide ((BY.out.below hb7 BY.out.lt).alloc (.cells #[.int .i64 uw, .int .i64 uh, .string uc, .int .i64 ut, .string u0, .string u1] 36))
    have BS7 := hide ((BS.out.below hb7 BS.out.lt).alloc (.cells #[.int .i64 uw, .int .i64 uh, .string uc, .int .i64 ut, .string u0, .string u1] 36))
    have BT7 := hide ((BT.out.below hb7 BT.out.lt).alloc (.cells #[.int .i64 uw, .int .i64 uh, .string uc, .int .i64 ut, .string u0, .string u1] 36))
    have BZ7 := hide ((BZ.out.below hb7 BZ.out.lt).alloc (.cells #[.int .i64 uw, .int .i64 uh, .string uc, .int .i64 ut, .string u0, .string u1] 36))
    have BU7 := hide (Blk.new w7 36 #[.int .i64 uw, .int .i64 uh, .string uc, .int .i64 ut, .string u0, .string u1])
    have HB7 := hide (below_alloc0 (HB6.out.trans (hb7.mono HB6.out.size)) (.cells #[.int .i64 uw, .int .i64 uh, .string uc, .int .i64 ut, .string u0, .string u1] 36))
    clear hb7
    go_upto_region 17 with (fail)
    generalize w7.alloc (.cells #[.int .i64 uw, .int .i64 uh, .string uc, .int .i64 ut, .string u0, .string u1] 36) = v7 at *
    generalize w7.heap.size = g7 at *
    clear BP BX BY BS BT BZ
    have BP := BP7; clear BP7
    have BX := BX7; clear BX7
    have BY := BY7; clear BY7
    have BS := BS7; clear BS7
    have BT := BT7; clear BT7
    have BZ := BZ7; clear BZ7
    have BU := BU7; clear BU7
    clear BA BA0
    obtain ⟨⟨bxv7_0, bxv7_1, bxv7_2, bxv7_3, bxv7_4, bxv7_5⟩, -⟩ := BX.out.six
    go_wp2_with fail
    refine (T7.out _ _ BA2.out).mono ?_
    rintro e w8 ⟨rfl, hb8⟩
    simp only [posV]
    have BP8 := hide ((BP.out.below hb8 BP.out.lt).alloc (.cells #[.int .i64 uw, .int .i64 uh, .string uc, .int .i64 ut, .string u0, .string u1] 36))
    have BX8 := hide ((BX.out.below hb8 BX.out.lt).alloc (.cells #[.int .i64 uw, .int .i64 uh, .string uc, .int .i64 ut, .string u0, .string u1] 36))
    have BY8 := hide ((BY.out.below hb8 BY.out.lt).alloc (.cells #[.int .i64 uw, .int .i64 uh, .string uc, .int .i64 ut, .string u0, .string u1] 36))
    have BS8 := hide ((BS.out.below hb8 BS.out.lt).alloc (.cells #[.int .i64 uw, .int .i64 uh, .string uc, .int .i64 ut, .string u0, .string u1] 36))
    have BT8 := hide ((BT.out.below hb8 BT.out.lt).alloc (.cells #[.int .i64 uw, .int .i64 uh, .string uc, .int .i64 ut, .string u0, .string u1] 36))
    have BZ8 := hide ((BZ.out.below hb8 BZ.out.lt).alloc (.cells #[.int .i64 uw, .int .i64 uh, .string uc, .int .i64 ut, .string u0, .string u1] 36))
    have BU8 := hide ((BU.out.below hb8 BU.out.lt).alloc (.cells #[.int .i64 uw, .int .i64 uh, .string uc, .int .i64 ut, .string u0, .string u1] 36))
    have BV8 := hide (Blk.new w8 36 #[.int .i64 uw, .int .i64 uh, .string uc, .int .i64 ut, .string u0, .string u1])
    have HB8 := hide (below_alloc0 (HB7.out.trans (hb8.mono HB7.out.size)) (.cells #[.int .i64 uw, .int .i64 uh, .string uc, .int .i64 ut, .string u0, .string u1] 36))
    clear hb8
    go_upto_region 18 with (fail)
    generalize w8.alloc (.cells #[.int .i64 uw, .int .i64 uh, .string uc, .int .i64 ut, .string u0, .string u1] 36) = v8 at *
    generalize w8.heap.size = g8 at *
    clear BP BX BY BS BT BZ BU
    have BP := BP8; clear BP8
    have BX := BX8; clear BX8
    have BY := BY8; clear BY8
    have BS := BS8; clear BS8
    have BT := BT8; clear BT8
    have BZ := BZ8; clear BZ8
    have BU := BU8; clear BU8
    have BV := BV8; clear BV8
    obtain ⟨⟨buv8_0, buv8_1, buv8_2, buv8_3, buv8_4, buv8_5⟩, -⟩ := BU.out.six
    obtain ⟨⟨bvv8_0, bvv8_1, bvv8_2, bvv8_3, bvv8_4, bvv8_5⟩, -⟩ := BV.out.six
    have heq := run_eq_hands
    go_wp2_with fail
    go_ret
    exact ⟨rfl, HB8.out⟩
theorem swapped_some (w h t : Int) (c h0 h1 : ByteArray) (W : World) (hc9 : c.size ≤ 9223372036854775807) (l0 : h0.size ≤ 9223372036854775807) (l1 : h1.size ≤ 9223372036854775807) :
    Calls Try.prog 19 #[.agg #[.int .i64 w, .int .i64 h, .string c, .int .i64 t, .string h0, .string h1]] W fun e w' => (∃ sw sh sc st s0 s1 ev, e = .returned (.tuple #[.agg #[.int .i64 sw, .int .i64 sh, .string sc, .int .i64 st, .string s0, .string s1], .int .i64 ev])) ∧ Below W.heap.size W w' := by
  by_cases hp : PosOk ⟨w, h, c, t, h0, h1⟩
  · exact (swapped_at w h t c h0 h1 W hp).mono fun e w' ⟨h1, h2⟩ => ⟨⟨_, _, _, _, _, _, _, h1⟩, h2⟩
  · exact (swapped_no w h t c h0 h1 W hc9 l0 l1 hp).mono fun e w' ⟨h1, h2⟩ => ⟨⟨_, _, _, _, _, _, _, h1⟩, h2⟩
theorem zero_not : ¬ PosOk ⟨0, 0, ⟨#[]⟩, 0, ⟨#[]⟩, ⟨#[]⟩⟩ := fun h => by have := h.w1; simp at this

set_option maxHeartbeats 4000000 in
set_option maxRecDepth 100000 in
theorem bg_bad_a (w h t a b : Int) (c h0 h1 : ByteArray) (W : World) (hc9 : c.size ≤ 9223372036854775807) (l0 : h0.size ≤ 9223372036854775807) (l1 : h1.size ≤ 9223372036854775807) (hno : ¬ (PosOk ⟨w, h, c, t, h0, h1⟩ ∧ 0 ≤ a ∧ a ≤ 7)) :
    Calls Try.prog 7 #[.agg #[.int .i64 w, .int .i64 h, .string c, .int .i64 t, .string h0, .string h1], .int .i64 a, .int .i64 b] W fun e w' => e = .returned (.bool true) ∧ Below W.heap.size W w' := by
  have T1 := hide fun W => turned_no w h t a c h0 h1 W hc9 l0 l1 hno
  have T2 := hide fun W => turned_no 0 0 0 b ⟨#[]⟩ ⟨#[]⟩ ⟨#[]⟩ W (by decide) (by decide) (by decide) (fun hh => zero_not hh.1)
  have T3 := hide fun W => swapped_some w h t c h0 h1 W hc9 l0 l1
  clear hno
  go_enter Try.func7, Try.ntmps7
  go_upto_region 1 with (fail)
  have BP := hide (Blk.new W 36 #[.int .i64 w, .int .i64 h, .string c, .int .i64 t, .string h0, .string h1])
  have HB0 := hide (below_fresh W (.cells #[.int .i64 w, .int .i64 h, .string c, .int .i64 t, .string h0, .string h1] 36))
  generalize W.alloc (.cells #[.int .i64 w, .int .i64 h, .string c, .int .i64 t, .string h0, .string h1] 36) = w0 at *
  obtain ⟨⟨bpw0_0, bpw0_1, bpw0_2, bpw0_3, bpw0_4, bpw0_5⟩, -⟩ := BP.out.six
  go_wp2_with fail
  refine (T1.out _).mono ?_
  rintro e w1 ⟨rfl, hb1⟩
  unfold noPos
  have BP1 := hide ((BP.out.below hb1 BP.out.lt).alloc (.cells #[.int .i64 0, .int .i64 0, .string ⟨#[]⟩, .int .i64 0, .string ⟨#[]⟩, .string ⟨#[]⟩] 36))
  have BX1 := hide (Blk.new w1 36 #[.int .i64 0, .int .i64 0, .string ⟨#[]⟩, .int .i64 0, .string ⟨#[]⟩, .string ⟨#[]⟩])
  have HB1 := hide (below_alloc0 (HB0.out.trans (hb1.mono HB0.out.size)) (.cells #[.int .i64 0, .int .i64 0, .string ⟨#[]⟩, .int .i64 0, .string ⟨#[]⟩, .string ⟨#[]⟩] 36))
  clear hb1
  go_upto_region 2 with (fail)
  generalize w1.alloc (.cells #[.int .i64 0, .int .i64 0, .string ⟨#[]⟩, .int .i64 0, .string ⟨#[]⟩, .string ⟨#[]⟩] 36) = v1 at *
  generalize w1.heap.size = g1 at *
  clear BP
  have BP := BP1; clear BP1
  have BX := BX1; clear BX1
  obtain ⟨⟨bxv1_0, bxv1_1, bxv1_2, bxv1_3, bxv1_4, bxv1_5⟩, -⟩ := BX.out.six
  go_wp2_with fail
  refine (T2.out _).mono ?_
  rintro e w2 ⟨rfl, hb2⟩
  unfold noPos
  have BP2 := hide ((BP.out.below hb2 BP.out.lt).alloc (.cells #[.int .i64 0, .int .i64 0, .string ⟨#[]⟩, .int .i64 0, .string ⟨#[]⟩, .string ⟨#[]⟩] 36))
  have BX2 := hide ((BX.out.below hb2 BX.out.lt).alloc (.cells #[.int .i64 0, .int .i64 0, .string ⟨#[]⟩, .int .i64 0, .string ⟨#[]⟩, .string ⟨#[]⟩] 36))
  have BY2 := hide (Blk.new w2 36 #[.int .i64 0, .int .i64 0, .string ⟨#[]⟩, .int .i64 0, .string ⟨#[]⟩, .string ⟨#[]⟩])
  have HB2 := hide (below_alloc0 (HB1.out.trans (hb2.mono HB1.out.size)) (.cells #[.int .i64 0, .int .i64 0, .string ⟨#[]⟩, .int .i64 0, .string ⟨#[]⟩, .string ⟨#[]⟩] 36))
  clear hb2
  go_upto_region 3 with (fail)
  generalize w2.alloc (.cells #[.int .i64 0, .int .i64 0, .string ⟨#[]⟩, .int .i64 0, .string ⟨#[]⟩, .string ⟨#[]⟩] 36) = v2 at *
  generalize w2.heap.size = g2 at *
  clear BP BX
  have BP := BP2; clear BP2
  have BX := BX2; clear BX2
  have BY := BY2; clear BY2
  obtain ⟨⟨bpv2_0, bpv2_1, bpv2_2, bpv2_3, bpv2_4, bpv2_5⟩, -⟩ := BP.out.six
  go_wp2_with fail
  refine (T3.out _).mono ?_
  rintro e w3 ⟨⟨sw, sh, sc, st, s0, s1, ev, rfl⟩, hb3⟩
  have BP3 := hide ((BP.out.below hb3 BP.out.lt).alloc (.cells #[.int .i64 sw, .int .i64 sh, .string sc, .int .i64 st, .string s0, .string s1] 36))
  have BX3 := hide ((BX.out.below hb3 BX.out.lt).alloc (.cells #[.int .i64 sw, .int .i64 sh, .string sc, .int .i64 st, .string s0, .string s1] 36))
  have BY3 := hide ((BY.out.below hb3 BY.out.lt).alloc (.cells #[.int .i64 sw, .int .i64 sh, .string sc, .int .i64 st, .string s0, .string s1] 36))
  have BS3 := hide (Blk.new w3 36 #[.int .i64 sw, .int .i64 sh, .string sc, .int .i64 st, .string s0, .string s1])
  have HB3 := hide (below_alloc0 (HB2.out.trans (hb3.mono HB2.out.size)) (.cells #[.int .i64 sw, .int .i64 sh, .string sc, .int .i64 st, .string s0, .string s1] 36))
  clear hb3
  go_upto_region 4 with (fail)
  generalize w3.alloc (.cells #[.int .i64 sw, .int .i64 sh, .string sc, .int .i64 st, .string s0, .string s1] 36) = v3 at *
  generalize w3.heap.size = g3 at *
  clear BP BX BY
  have BP := BP3; clear BP3
  have BX := BX3; clear BX3
  have BY := BY3; clear BY3
  have BS := BS3; clear BS3
  go_wp2_with fail
  go_ret
  exact ⟨rfl, HB3.out⟩
set_option maxHeartbeats 4000000 in
set_option maxRecDepth 100000 in
theorem bg_bad_blo (w h t b : Int) (c h0 h1 : ByteArray) (W : World) (a : Nat) (ha : a < 8) (hp : PosOk ⟨w, h, c, t, h0, h1⟩) (hb : b < 0) :
    Calls Try.prog 7 #[.agg #[.int .i64 w, .int .i64 h, .string c, .int .i64 t, .string h0, .string h1], .int .i64 a, .int .i64 b] W fun e w' => e = .returned (.bool true) ∧ Below W.heap.size W w' := by
  have d1 : decide (b < 0) = true := by simp; omega
  obtain ⟨x, hx⟩ : ∃ x, turnP ⟨w, h, c, t, h0, h1⟩ a = x := ⟨_, rfl⟩
  have hxo : PosOk x := by rw [← hx]; exact turn_ok hp a
  obtain ⟨xw, xh, xc, xt, x0, x1⟩ := x
  have k0 : h0.size ≤ 9223372036854775807 := by have := (handB_true.1 hp.hand0).1; have e : h0.data.toList.length = h0.size := rfl; simp only at this; omega
  have k1 : h1.size ≤ 9223372036854775807 := by have := (handB_true.1 hp.hand1).1; have e : h1.data.toList.length = h1.size := rfl; simp only at this; omega
  have k2 : x0.size ≤ 9223372036854775807 := by have := (handB_true.1 hxo.hand0).1; have e : x0.data.toList.length = x0.size := rfl; simp only at this; omega
  have k3 : x1.size ≤ 9223372036854775807 := by have := (handB_true.1 hxo.hand1).1; have e : x1.data.toList.length = x1.size := rfl; simp only at this; omega
  have T1 := hide fun W => turned_at w h t c h0 h1 W hp a ha
  rw [hx] at T1
  have T2 := hide fun W => turned_no xw xh xt b xc x0 x1 W (pos_csize hxo) k2 k3 (fun hh => by omega)
  have T3 := hide fun W => swapped_some w h t c h0 h1 W (pos_csize hp) k0 k1
  clear hp hx hxo k0 k1 k2 k3 hb
  go_enter Try.func7, Try.ntmps7
  go_upto_region 1 with (fail)
  have BP := hide (Blk.new W 36 #[.int .i64 w, .int .i64 h, .string c, .int .i64 t, .string h0, .string h1])
  have HB0 := hide (below_fresh W (.cells #[.int .i64 w, .int .i64 h, .string c, .int .i64 t, .string h0, .string h1] 36))
  generalize W.alloc (.cells #[.int .i64 w, .int .i64 h, .string c, .int .i64 t, .string h0, .string h1] 36) = w0 at *
  obtain ⟨⟨bpw0_0, bpw0_1, bpw0_2, bpw0_3, bpw0_4, bpw0_5⟩, -⟩ := BP.out.six
  go_wp2_with fail
  refine (T1.out _).mono ?_
  rintro e w1 ⟨rfl, hb1⟩
  simp only [posV]
  have BP1 := hide ((BP.out.below hb1 BP.out.lt).alloc (.cells #[.int .i64 xw, .int .i64 xh, .string xc, .int .i64 xt, .string x0, .string x1] 36))
  have BX1 := hide (Blk.new w1 36 #[.int .i64 xw, .int .i64 xh, .string xc, .int .i64 xt, .string x0, .string x1])
  have HB1 := hide (below_alloc0 (HB0.out.trans (hb1.mono HB0.out.size)) (.cells #[.int .i64 xw, .int .i64 xh, .string xc, .int .i64 xt, .string x0, .string x1] 36))
  clear hb1
  go_upto_region 2 with (fail)
  generalize w1.alloc (.cells #[.int .i64 xw, .int .i64 xh, .string xc, .int .i64 xt, .string x0, .string x1] 36) = v1 at *
  generalize w1.heap.size = g1 at *
  clear BP
  have BP := BP1; clear BP1
  have BX := BX1; clear BX1
  obtain ⟨⟨bxv1_0, bxv1_1, bxv1_2, bxv1_3, bxv1_4, bxv1_5⟩, -⟩ := BX.out.six
  go_wp2_with fail
  refine (T2.out _).mono ?_
  rintro e w2 ⟨rfl, hb2⟩
  unfold noPos
  have BP2 := hide ((BP.out.below hb2 BP.out.lt).alloc (.cells #[.int .i64 0, .int .i64 0, .string ⟨#[]⟩, .int .i64 0, .string ⟨#[]⟩, .string ⟨#[]⟩] 36))
  have BX2 := hide ((BX.out.below hb2 BX.out.lt).alloc (.cells #[.int .i64 0, .int .i64 0, .string ⟨#[]⟩, .int .i64 0, .string ⟨#[]⟩, .string ⟨#[]⟩] 36))
  have BY2 := hide (Blk.new w2 36 #[.int .i64 0, .int .i64 0, .string ⟨#[]⟩, .int .i64 0, .string ⟨#[]⟩, .string ⟨#[]⟩])
  have HB2 := hide (below_alloc0 (HB1.out.trans (hb2.mono HB1.out.size)) (.cells #[.int .i64 0, .int .i64 0, .string ⟨#[]⟩, .int .i64 0, .string ⟨#[]⟩, .string ⟨#[]⟩] 36))
  clear hb2
  go_upto_region 3 with (fail)
  generalize w2.alloc (.cells #[.int .i64 0, .int .i64 0, .string ⟨#[]⟩, .int .i64 0, .string ⟨#[]⟩, .string ⟨#[]⟩] 36) = v2 at *
  generalize w2.heap.size = g2 at *
  clear BP BX
  have BP := BP2; clear BP2
  have BX := BX2; clear BX2
  have BY := BY2; clear BY2
  obtain ⟨⟨bpv2_0, bpv2_1, bpv2_2, bpv2_3, bpv2_4, bpv2_5⟩, -⟩ := BP.out.six
  go_wp2_with fail
  refine (T3.out _).mono ?_
  rintro e w3 ⟨⟨sw, sh, sc, st, s0, s1, ev, rfl⟩, hb3⟩
  have BP3 := hide ((BP.out.below hb3 BP.out.lt).alloc (.cells #[.int .i64 sw, .int .i64 sh, .string sc, .int .i64 st, .string s0, .string s1] 36))
  have BX3 := hide ((BX.out.below hb3 BX.out.lt).alloc (.cells #[.int .i64 sw, .int .i64 sh, .string sc, .int .i64 st, .string s0, .string s1] 36))
  have BY3 := hide ((BY.out.below hb3 BY.out.lt).alloc (.cells #[.int .i64 sw, .int .i64 sh, .string sc, .int .i64 st, .string s0, .string s1] 36))
  have BS3 := hide (Blk.new w3 36 #[.int .i64 sw, .int .i64 sh, .string sc, .int .i64 st, .string s0, .string s1])
  have HB3 := hide (below_alloc0 (HB2.out.trans (hb3.mono HB2.out.size)) (.cells #[.int .i64 sw, .int .i64 sh, .string sc, .int .i64 st, .string s0, .string s1] 36))
  clear hb3
  go_upto_region 4 with (fail)
  generalize w3.alloc (.cells #[.int .i64 sw, .int .i64 sh, .string sc, .int .i64 st, .string s0, .string s1] 36) = v3 at *
  generalize w3.heap.size = g3 at *
  clear BP BX BY
  have BP := BP3; clear BP3
  have BX := BX3; clear BX3
  have BY := BY3; clear BY3
  have BS := BS3; clear BS3
  go_wp2_with fail
  go_ret
  exact ⟨rfl, HB3.out⟩
set_option maxHeartbeats 4000000 in
set_option maxRecDepth 100000 in
theorem bg_bad_bhi (w h t b : Int) (c h0 h1 : ByteArray) (W : World) (a : Nat) (ha : a < 8) (hp : PosOk ⟨w, h, c, t, h0, h1⟩) (hb : 7 < b) :
    Calls Try.prog 7 #[.agg #[.int .i64 w, .int .i64 h, .string c, .int .i64 t, .string h0, .string h1], .int .i64 a, .int .i64 b] W fun e w' => e = .returned (.bool true) ∧ Below W.heap.size W w' := by
  have d1 : decide (b < 0) = false := by simp; omega
  have d2 : decide (b > 7) = true := by simp; omega
  obtain ⟨x, hx⟩ : ∃ x, turnP ⟨w, h, c, t, h0, h1⟩ a = x := ⟨_, rfl⟩
  have hxo : PosOk x := by rw [← hx]; exact turn_ok hp a
  obtain ⟨xw, xh, xc, xt, x0, x1⟩ := x
  have k0 : h0.size ≤ 9223372036854775807 := by have := (handB_true.1 hp.hand0).1; have e : h0.data.toList.length = h0.size := rfl; simp only at this; omega
  have k1 : h1.size ≤ 9223372036854775807 := by have := (handB_true.1 hp.hand1).1; have e : h1.data.toList.length = h1.size := rfl; simp only at this; omega
  have k2 : x0.size ≤ 9223372036854775807 := by have := (handB_true.1 hxo.hand0).1; have e : x0.data.toList.length = x0.size := rfl; simp only at this; omega
  have k3 : x1.size ≤ 9223372036854775807 := by have := (handB_true.1 hxo.hand1).1; have e : x1.data.toList.length = x1.size := rfl; simp only at this; omega
  have T1 := hide fun W => turned_at w h t c h0 h1 W hp a ha
  rw [hx] at T1
  have T2 := hide fun W => turned_no xw xh xt b xc x0 x1 W (pos_csize hxo) k2 k3 (fun hh => by omega)
  have T3 := hide fun W => swapped_some w h t c h0 h1 W (pos_csize hp) k0 k1
  clear hp hx hxo k0 k1 k2 k3 hb
  go_enter Try.func7, Try.ntmps7
  go_upto_region 1 with (fail)
  have BP := hide (Blk.new W 36 #[.int .i64 w, .int .i64 h, .string c, .int .i64 t, .string h0, .string h1])
  have HB0 := hide (below_fresh W (.cells #[.int .i64 w, .int .i64 h, .string c, .int .i64 t, .string h0, .string h1] 36))
  generalize W.alloc (.cells #[.int .i64 w, .int .i64 h, .string c, .int .i64 t, .string h0, .string h1] 36) = w0 at *
  obtain ⟨⟨bpw0_0, bpw0_1, bpw0_2, bpw0_3, bpw0_4, bpw0_5⟩, -⟩ := BP.out.six
  go_wp2_with fail
  refine (T1.out _).mono ?_
  rintro e w1 ⟨rfl, hb1⟩
  simp only [posV]
  have BP1 := hide ((BP.out.below hb1 BP.out.lt).alloc (.cells #[.int .i64 xw, .int .i64 xh, .string xc, .int .i64 xt, .string x0, .string x1] 36))
  have BX1 := hide (Blk.new w1 36 #[.int .i64 xw, .int .i64 xh, .string xc, .int .i64 xt, .string x0, .string x1])
  have HB1 := hide (below_alloc0 (HB0.out.trans (hb1.mono HB0.out.size)) (.cells #[.int .i64 xw, .int .i64 xh, .string xc, .int .i64 xt, .string x0, .string x1] 36))
  clear hb1
  go_upto_region 2 with (fail)
  generalize w1.alloc (.cells #[.int .i64 xw, .int .i64 xh, .string xc, .int .i64 xt, .string x0, .string x1] 36) = v1 at *
  generalize w1.heap.size = g1 at *
  clear BP
  have BP := BP1; clear BP1
  have BX := BX1; clear BX1
  obtain ⟨⟨bxv1_0, bxv1_1, bxv1_2, bxv1_3, bxv1_4, bxv1_5⟩, -⟩ := BX.out.six
  go_wp2_with fail
  refine (T2.out _).mono ?_
  rintro e w2 ⟨rfl, hb2⟩
  unfold noPos
  have BP2 := hide ((BP.out.below hb2 BP.out.lt).alloc (.cells #[.int .i64 0, .int .i64 0, .string ⟨#[]⟩, .int .i64 0, .string ⟨#[]⟩, .string ⟨#[]⟩] 36))
  have BX2 := hide ((BX.out.below hb2 BX.out.lt).alloc (.cells #[.int .i64 0, .int .i64 0, .string ⟨#[]⟩, .int .i64 0, .string ⟨#[]⟩, .string ⟨#[]⟩] 36))
  have BY2 := hide (Blk.new w2 36 #[.int .i64 0, .int .i64 0, .string ⟨#[]⟩, .int .i64 0, .string ⟨#[]⟩, .string ⟨#[]⟩])
  have HB2 := hide (below_alloc0 (HB1.out.trans (hb2.mono HB1.out.size)) (.cells #[.int .i64 0, .int .i64 0, .string ⟨#[]⟩, .int .i64 0, .string ⟨#[]⟩, .string ⟨#[]⟩] 36))
  clear hb2
  go_upto_region 3 with (fail)
  generalize w2.alloc (.cells #[.int .i64 0, .int .i64 0, .string ⟨#[]⟩, .int .i64 0, .string ⟨#[]⟩, .string ⟨#[]⟩] 36) = v2 at *
  generalize w2.heap.size = g2 at *
  clear BP BX
  have BP := BP2; clear BP2
  have BX := BX2; clear BX2
  have BY := BY2; clear BY2
  obtain ⟨⟨bpv2_0, bpv2_1, bpv2_2, bpv2_3, bpv2_4, bpv2_5⟩, -⟩ := BP.out.six
  go_wp2_with fail
  refine (T3.out _).mono ?_
  rintro e w3 ⟨⟨sw, sh, sc, st, s0, s1, ev, rfl⟩, hb3⟩
  have BP3 := hide ((BP.out.below hb3 BP.out.lt).alloc (.cells #[.int .i64 sw, .int .i64 sh, .string sc, .int .i64 st, .string s0, .string s1] 36))
  have BX3 := hide ((BX.out.below hb3 BX.out.lt).alloc (.cells #[.int .i64 sw, .int .i64 sh, .string sc, .int .i64 st, .string s0, .string s1] 36))
  have BY3 := hide ((BY.out.below hb3 BY.out.lt).alloc (.cells #[.int .i64 sw, .int .i64 sh, .string sc, .int .i64 st, .string s0, .string s1] 36))
  have BS3 := hide (Blk.new w3 36 #[.int .i64 sw, .int .i64 sh, .string sc, .int .i64 st, .string s0, .string s1])
  have HB3 := hide (below_alloc0 (HB2.out.trans (hb3.mono HB2.out.size)) (.cells #[.int .i64 sw, .int .i64 sh, .string sc, .int .i64 st, .string s0, .string s1] 36))
  clear hb3
  go_upto_region 4 with (fail)
  generalize w3.alloc (.cells #[.int .i64 sw, .int .i64 sh, .string sc, .int .i64 st, .string s0, .string s1] 36) = v3 at *
  generalize w3.heap.size = g3 at *
  clear BP BX BY
  have BP := BP3; clear BP3
  have BX := BX3; clear BX3
  have BY := BY3; clear BY3
  have BS := BS3; clear BS3
  go_wp2_with fail
  go_ret
  exact ⟨rfl, HB3.out⟩
theorem bg_any (w h t a b : Int) (c h0 h1 : ByteArray) (W : World) (hc9 : c.size ≤ 9223372036854775807) (l0 : h0.size ≤ 9223372036854775807) (l1 : h1.size ≤ 9223372036854775807) :
    Calls Try.prog 7 #[.agg #[.int .i64 w, .int .i64 h, .string c, .int .i64 t, .string h0, .string h1], .int .i64 a, .int .i64 b] W fun e w' => e = .returned (.bool true) ∧ Below W.heap.size W w' := by
  by_cases h1' : PosOk ⟨w, h, c, t, h0, h1⟩ ∧ 0 ≤ a ∧ a ≤ 7
  · obtain ⟨hp, ha0, ha7⟩ := h1'
    obtain ⟨m, rfl⟩ : ∃ m : Nat, a = m := ⟨a.toNat, by omega⟩
    by_cases hb0 : b < 0
    · exact bg_bad_blo w h t b c h0 h1 W m (by omega) hp hb0
    · by_cases hb7 : 7 < b
      · exact bg_bad_bhi w h t b c h0 h1 W m (by omega) hp hb7
      · obtain ⟨n, rfl⟩ : ∃ n : Nat, b = n := ⟨b.toNat, by omega⟩
        exact bg_good w h t c h0 h1 W m n (by omega) (by omega) hp
  · exact bg_bad_a w h t a b c h0 h1 W hc9 l0 l1 h1'
end Go.Proofs.Ytfoehijlafooaaa
