/- gamelaw.BoardTurns, walked: where there is no position -/
import Derived.Test.YtfoehijlafooaaaBtLess
import Derived.Test.YtfoehijlafooaaaBoardPos
namespace Go.Proofs.Ytfoehijlafooaaa
open Go.RowKit

set_option maxHeartbeats 4000000 in
set_option maxRecDepth 100000 in
theorem bt_bad (w h t k : Int) (c h0 h1 : ByteArray) (A : Option Addr) (cA : Nat) (ls : List Int) (W : World) (hc9 : c.size ≤ 9223372036854775807) (l0 : h0.size ≤ 9223372036854775807) (l1 : h1.size ≤ 9223372036854775807) (hl : ls.length ≤ 9223372036854775807) (hA : Cells W W.heap.size A (ints ls)) (hno : ¬ PosOk ⟨w, h, c, t, h0, h1⟩) :
    Calls Try.prog 6 #[.agg #[.int .i64 w, .int .i64 h, .string c, .int .i64 t, .string h0, .string h1], .int .i64 k, .slice A ls.length cA] W fun e w' => e = .returned (.bool true) ∧ Below W.heap.size W w' := by
  have T1 := hide fun W => turned_no w h t k c h0 h1 W hc9 l0 l1 (fun hh => hno hh.1)
  have T2 := hide fun W => swapped_no w h t c h0 h1 W hc9 l0 l1 hno
  have T3 := hide fun V (hV : Below W.heap.size W V) => least_any w h t c h0 h1 A cA ls V hc9 l0 l1 hl ((hA.below hV).more hV.size)
  have T4 := hide fun W => pos_bad w h t c h0 h1 W hc9 l0 l1 hno
  have Hno := hide hno
  clear hno hA
  go_enter Try.func6, Try.ntmps6
  go_upto_region 1 with (fail)
  have BP := hide (Blk.new W 36 #[.int .i64 w, .int .i64 h, .string c, .int .i64 t, .string h0, .string h1])
  have HB0 := hide (below_fresh W (.cells #[.int .i64 w, .int .i64 h, .string c, .int .i64 t, .string h0, .string h1] 36))
  generalize W.alloc (.cells #[.int .i64 w, .int .i64 h, .string c, .int .i64 t, .string h0, .string h1] 36) = w0 at *
  obtain ⟨⟨bpw0_0, bpw0_1, bpw0_2, bpw0_3, bpw0_4, bpw0_5⟩, -⟩ := BP.out.six
  go_wp2_with fail
  refine (T1.out _).mono ?_
  rintro e w1 ⟨rfl, hb1⟩
  unfold noPos
  have BP1 := hide ((BP.out.below hb1 BP.out.lt).alloc (.cells #[.int .i64 0, .int .i64 0, .string ⟨#[]⟩, .int .i64 0, .string ⟨#[]⟩, .string ⟨#[]⟩] 36))
  have BX1 := hide (Blk.new w1 36 #[.int .i64 0, .int .i64 0, .string ⟨#[]⟩, .int .i64 0, .string ⟨#[]⟩, .string ⟨#[]⟩])
  have HB1 := hide (below_alloc0 (HB0.out.trans (hb1.mono HB0.out.size)) (.cells #[.int .i64 0, .int .i64 0, .string ⟨#[]⟩, .int .i64 0, .string ⟨#[]⟩, .string ⟨#[]⟩] 36))
  clear hb1
  go_upto_region 2 with (fail)
  generalize w1.alloc (.cells #[.int .i64 0, .int .i64 0, .string ⟨#[]⟩, .int .i64 0, .string ⟨#[]⟩, .string ⟨#[]⟩] 36) = v1 at *
  generalize w1.heap.size = g1 at *
  clear BP
  have BP := BP1; clear BP1
  have BX := BX1; clear BX1
  obtain ⟨⟨bpv1_0, bpv1_1, bpv1_2, bpv1_3, bpv1_4, bpv1_5⟩, -⟩ := BP.out.six
  go_wp2_with fail
  refine (T2.out _).mono ?_
  rintro e w2 ⟨rfl, hb2⟩
  unfold noPos
  have BP2 := hide ((BP.out.below hb2 BP.out.lt).alloc (.cells #[.int .i64 0, .int .i64 0, .string ⟨#[]⟩, .int .i64 0, .string ⟨#[]⟩, .string ⟨#[]⟩] 36))
  have BX2 := hide ((BX.out.below hb2 BX.out.lt).alloc (.cells #[.int .i64 0, .int .i64 0, .string ⟨#[]⟩, .int .i64 0, .string ⟨#[]⟩, .string ⟨#[]⟩] 36))
  have BY2 := hide (Blk.new w2 36 #[.int .i64 0, .int .i64 0, .string ⟨#[]⟩, .int .i64 0, .string ⟨#[]⟩, .string ⟨#[]⟩])
  have HB2 := hide (below_alloc0 (HB1.out.trans (hb2.mono HB1.out.size)) (.cells #[.int .i64 0, .int .i64 0, .string ⟨#[]⟩, .int .i64 0, .string ⟨#[]⟩, .string ⟨#[]⟩] 36))
  clear hb2
  go_upto_region 3 with (fail)
  generalize w2.alloc (.cells #[.int .i64 0, .int .i64 0, .string ⟨#[]⟩, .int .i64 0, .string ⟨#[]⟩, .string ⟨#[]⟩] 36) = v2 at *
  generalize w2.heap.size = g2 at *
  clear BP BX
  have BP := BP2; clear BP2
  have BX := BX2; clear BX2
  have BY := BY2; clear BY2
  obtain ⟨⟨bpv2_0, bpv2_1, bpv2_2, bpv2_3, bpv2_4, bpv2_5⟩, -⟩ := BP.out.six
  go_wp2_with fail
  refine (T3.out _ HB2.out).mono ?_
  rintro e w3 ⟨he, -, hb3⟩
  have he2 := he (fun hh => Hno.out hh.2.1)
  clear he
  subst he2
  unfold noPos
  have BP3 := hide ((BP.out.below hb3 BP.out.lt).alloc (.cells #[.int .i64 0, .int .i64 0, .string ⟨#[]⟩, .int .i64 0, .string ⟨#[]⟩, .string ⟨#[]⟩] 36))
  have BX3 := hide ((BX.out.below hb3 BX.out.lt).alloc (.cells #[.int .i64 0, .int .i64 0, .string ⟨#[]⟩, .int .i64 0, .string ⟨#[]⟩, .string ⟨#[]⟩] 36))
  have BY3 := hide ((BY.out.below hb3 BY.out.lt).alloc (.cells #[.int .i64 0, .int .i64 0, .string ⟨#[]⟩, .int .i64 0, .string ⟨#[]⟩, .string ⟨#[]⟩] 36))
  have BC3 := hide (Blk.new w3 36 #[.int .i64 0, .int .i64 0, .string ⟨#[]⟩, .int .i64 0, .string ⟨#[]⟩, .string ⟨#[]⟩])
  have HB3 := hide (below_alloc0 (HB2.out.trans (hb3.mono HB2.out.size)) (.cells #[.int .i64 0, .int .i64 0, .string ⟨#[]⟩, .int .i64 0, .string ⟨#[]⟩, .string ⟨#[]⟩] 36))
  clear hb3
  go_upto_region 4 with (fail)
  generalize w3.alloc (.cells #[.int .i64 0, .int .i64 0, .string ⟨#[]⟩, .int .i64 0, .string ⟨#[]⟩, .string ⟨#[]⟩] 36) = v3 at *
  generalize w3.heap.size = g3 at *
  clear BP BX BY
  have BP := BP3; clear BP3
  have BX := BX3; clear BX3
  have BY := BY3; clear BY3
  have BC := BC3; clear BC3
  obtain ⟨⟨bpv3_0, bpv3_1, bpv3_2, bpv3_3, bpv3_4, bpv3_5⟩, -⟩ := BP.out.six
  go_wp2_with fail
  refine (T4.out _).mono ?_
  rintro e w4 ⟨rfl, hb4⟩
  have BP4 := hide (BP.out.below hb4 BP.out.lt)
  have BX4 := hide (BX.out.below hb4 BX.out.lt)
  have BY4 := hide (BY.out.below hb4 BY.out.lt)
  have BC4 := hide (BC.out.below hb4 BC.out.lt)
  have HB4 := hide (HB3.out.trans (hb4.mono HB3.out.size))
  clear hb4
  clear BP BX BY BC
  have BP := BP4; clear BP4
  have BX := BX4; clear BX4
  have BY := BY4; clear BY4
  have BC := BC4; clear BC4
  obtain ⟨⟨bxw4_0, bxw4_1, bxw4_2, bxw4_3, bxw4_4, bxw4_5⟩, -⟩ := BX.out.six
  obtain ⟨⟨byw4_0, byw4_1, byw4_2, byw4_3, byw4_4, byw4_5⟩, -⟩ := BY.out.six
  obtain ⟨⟨bcw4_0, bcw4_1, bcw4_2, bcw4_3, bcw4_4, bcw4_5⟩, -⟩ := BC.out.six
  have heq := run_eq_hands
  go_wp2_with fail
  go_ret
  exact ⟨rfl, HB4.out⟩
end Go.Proofs.Ytfoehijlafooaaa
