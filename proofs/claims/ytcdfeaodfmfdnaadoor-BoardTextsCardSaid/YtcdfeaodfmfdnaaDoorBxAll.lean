/- gamelaw.BoardTexts: walked. -/
import Derived.Test.YtcdfeaodfmfdnaaDoorBxRef
import Derived.Test.YtcdfeaodfmfdnaaDoorBxPar
import Derived.Test.YtcdfeaodfmfdnaaDoorBoardPos
namespace Go.Proofs.YtcdfeaodfmfdnaaDoor
open Go.RowKit

theorem run_eq_hnds (a0 a1 b0 b1 : ByteArray) (w : World) : (Op.equalIn 9999 22 (.agg #[.string a0, .string a1]) (.agg #[.string b0, .string b1])).run Tryd.prog w = .ok (a0.toList == b0.toList && a1.toList == b1.toList) w := by
  rw [show (9999 : Nat) = 9998 + 1 from rfl]
  unfold Op.equalIn
  simp only [Sem.run_bind, run_underlying Tryd.underlying22, Result.andThen_ok]
  go_simp
  rw [show List.range' 0 2 = [0, 1] from rfl]
  simp only [List.forIn_cons, List.forIn_nil]
  go_simp
  by_cases h0 : a0.toList = b0.toList <;> by_cases h1 : a1.toList = b1.toList <;> simp [h0, h1]
theorem only_below {W w : World} (h : Only (fun _ => False) W w) : Below W.heap.size W w := ⟨h.os, h.tape, h.output, h.size, fun i hi => h.block i hi (fun h => h)⟩
theorem below_only {W w : World} (h : Below W.heap.size W w) : Only (fun _ => False) W w := ⟨h.os, h.tape, h.output, h.size, fun i hi _ => h.block i hi⟩
theorem says_same {s : ByteArray} {p p' : Pos} {c c' a a' : Int} (h : ReadP s.data.toList p c a) (h' : ReadP s.data.toList p' c' a') : p' = p ∧ c' = c ∧ a' = a := readP_uniq h' h
set_option maxHeartbeats 16000000 in
set_option maxRecDepth 100000 in
theorem bt_good (p : Pos) (s : ByteArray) (W : World) (hc9 : p.cells.size ≤ 9223372036854775807) (l0 : p.h0.size ≤ 9223372036854775807) (l1 : p.h1.size ≤ 9223372036854775807) (hs : s.size ≤ 9223372036854775806) (hm : MaxAt W) (hp : PosOk p) :
    Calls Tryd.prog 3 #[.agg #[.int .i64 p.w, .int .i64 p.h, .string p.cells, .int .i64 p.turn, .string p.h0, .string p.h1], .string s] W fun e w' => e = .returned (.bool true) ∧ Below W.heap.size W w' := by
  have Hwr := hide (fun W => write_good p W hp)
  have Htx := hide (fun W => text_any p W hp)
  obtain ⟨T, hT⟩ : ∃ T, bytes (textL p) = T := ⟨_, rfl⟩
  rw [hT] at Hwr Htx
  obtain ⟨w, h, c, t, h0, h1⟩ := p
  simp only at hc9 l0 l1
  have Hck := hide (fun W => chk_good w h t c h0 h1 W hc9 l0 l1 hp)
  have Hps := hide (fun W => pos_good w h t c h0 h1 W hc9 l0 l1 hp)
  simp only at Hwr Htx
  clear hT hp
  go_enter Tryd.func3, Tryd.ntmps3
  go_upto_region 1 with (fail)
  have HO0 := hide (show Only (fun _ => False) W (W.alloc (.cells #[.int .i64 w, .int .i64 h, .string c, .int .i64 t, .string h0, .string h1] 24)) from (Only.refl _ W).alloc _)
  have HP0 := hide (Blk.new W 24 #[.int .i64 w, .int .i64 h, .string c, .int .i64 t, .string h0, .string h1])
  have hW0 : W.heap.size < (W.alloc (.cells #[.int .i64 w, .int .i64 h, .string c, .int .i64 t, .string h0, .string h1] 24)).heap.size := by rw [World.size_alloc]; omega
  obtain ⟨w0, hw0⟩ : ∃ w0, W.alloc (.cells #[.int .i64 w, .int .i64 h, .string c, .int .i64 t, .string h0, .string h1] 24) = w0 := ⟨_, rfl⟩
  rw [hw0] at HO0 HP0 hW0 ⊢
  clear hw0
  obtain ⟨p0, p1, p2, p3, p4, p5⟩ := Blk.cells6 HP0.out
  go_upto_region 2 with (go_at_call 7; refine (Hwr.out _).mono ?_; rintro e w1 ⟨rfl, hb1⟩)
  have HO1 := hide (HO0.out.trans (below_only hb1))
  have HP1 := hide (Blk.only HP0.out (below_only hb1) (fun h => h))
  have hm1 := hm.only HO1.out
  have hW1 : W.heap.size < w1.heap.size := Nat.lt_of_lt_of_le hW0 hb1.size
  clear hb1 HO0 HP0 p0 p1 p2 p3 p4 p5
  have Hrd := hide (read_any s w1 hs)
  go_upto_region 3 with (go_at_call 8; refine Hrd.out.mono ?_; rintro e w2 ⟨⟨⟨qw, qh, qc, qt, q0, q1⟩, cd, ca, hq, rfl⟩, ho2⟩; have HQ := hide hq; clear hq)
  have hal : Only (fun _ => False) w2 ((w2.alloc (.cells #[.int .i64 qw, .int .i64 qh, .string qc, .int .i64 qt, .string q0, .string q1] 24)).alloc (.cells #[.int .i64 cd, .int .i64 ca] 29)) := ((Only.refl _ w2).alloc _).alloc _
  have HO2 := hide ((HO1.out.trans ho2).trans hal)
  have HP2 := hide (Blk.only (Blk.only HP1.out ho2 (fun h => h)) hal (fun h => h))
  have HA2 := hide (Blk.alloc (Blk.new w2 24 #[.int .i64 qw, .int .i64 qh, .string qc, .int .i64 qt, .string q0, .string q1]) (.cells #[.int .i64 cd, .int .i64 ca] 29))
  have HB2 := hide (show Blk ((w2.alloc (.cells #[.int .i64 qw, .int .i64 qh, .string qc, .int .i64 qt, .string q0, .string q1] 24)).alloc (.cells #[.int .i64 cd, .int .i64 ca] 29)) (w2.heap.size + 1) 29 #[.int .i64 cd, .int .i64 ca] from (by have h := Blk.new (w2.alloc (.cells #[.int .i64 qw, .int .i64 qh, .string qc, .int .i64 qt, .string q0, .string q1] 24)) 29 #[.int .i64 cd, .int .i64 ca]; rw [World.size_alloc] at h; exact h))
  have hW2 : W.heap.size < w2.heap.size := Nat.lt_of_lt_of_le hW1 ho2.size
  obtain ⟨gq, hgq⟩ : ∃ gq, w2.heap.size = gq := ⟨_, rfl⟩
  have hs2 : ((w2.alloc (.cells #[.int .i64 qw, .int .i64 qh, .string qc, .int .i64 qt, .string q0, .string q1] 24)).alloc (.cells #[.int .i64 cd, .int .i64 ca] 29)).heap.size = gq + 2 := by simp only [World.size_alloc]; omega
  obtain ⟨v2, hv2⟩ : ∃ v2, (w2.alloc (.cells #[.int .i64 qw, .int .i64 qh, .string qc, .int .i64 qt, .string q0, .string q1] 24)).alloc (.cells #[.int .i64 cd, .int .i64 ca] 29) = v2 := ⟨_, rfl⟩
  rw [hv2] at HO2 HP2 HA2 HB2 hs2 ⊢
  rw [hgq] at HA2 HB2 hW2 ⊢
  clear hv2 hgq hal ho2 HP1 HO1 hm1 Hrd
  have Hpa := hide (parsed_any s v2 hs (hm.only HO2.out))
  go_upto_region 4 with (go_at_call 9; refine Hpa.out.mono ?_; rintro e w3 ⟨⟨⟨xw, xh, xc, xt, x0, x1⟩, cd', ca', hr, rfl⟩, ho3⟩; obtain ⟨hpe, rfl, rfl⟩ := says_same HQ.out hr; injection hpe with e1 e2 e3 e4 e5 e6; subst e1; subst e2; subst e3; subst e4; subst e5; subst e6; clear hr)
  have hal : Only (fun _ => False) w3 ((w3.alloc (.cells #[.int .i64 xw, .int .i64 xh, .string xc, .int .i64 xt, .string x0, .string x1] 24)).alloc (.cells #[.int .i64 cd', .int .i64 ca'] 29)) := ((Only.refl _ w3).alloc _).alloc _
  have hon : Only (fun _ => False) v2 ((w3.alloc (.cells #[.int .i64 xw, .int .i64 xh, .string xc, .int .i64 xt, .string x0, .string x1] 24)).alloc (.cells #[.int .i64 cd', .int .i64 ca'] 29)) := ho3.trans hal
  have HO3 := hide (HO2.out.trans hon)
  have HP3 := hide (Blk.only HP2.out hon (fun h => h))
  have HA3 := hide (Blk.only HA2.out hon (fun h => h))
  have HB3 := hide (Blk.only HB2.out hon (fun h => h))
  have HC3 := hide (Blk.alloc (Blk.new w3 24 #[.int .i64 xw, .int .i64 xh, .string xc, .int .i64 xt, .string x0, .string x1]) (.cells #[.int .i64 cd', .int .i64 ca'] 29))
  have HD3 := hide (show Blk ((w3.alloc (.cells #[.int .i64 xw, .int .i64 xh, .string xc, .int .i64 xt, .string x0, .string x1] 24)).alloc (.cells #[.int .i64 cd', .int .i64 ca'] 29)) (w3.heap.size + 1) 29 #[.int .i64 cd', .int .i64 ca'] from (by have h := Blk.new (w3.alloc (.cells #[.int .i64 xw, .int .i64 xh, .string xc, .int .i64 xt, .string x0, .string x1] 24)) 29 #[.int .i64 cd', .int .i64 ca']; rw [World.size_alloc] at h; exact h))
  obtain ⟨gr, hgr⟩ : ∃ gr, w3.heap.size = gr := ⟨_, rfl⟩
  obtain ⟨v3, hv3⟩ : ∃ v3, (w3.alloc (.cells #[.int .i64 xw, .int .i64 xh, .string xc, .int .i64 xt, .string x0, .string x1] 24)).alloc (.cells #[.int .i64 cd', .int .i64 ca'] 29) = v3 := ⟨_, rfl⟩
  rw [hv3] at HO3 HP3 HA3 HB3 HC3 HD3 ⊢
  rw [hgr] at HC3 HD3 ⊢
  clear hv3 hgr hal hon ho3 HP2 HO2 HA2 HB2 Hpa HQ
  obtain ⟨p0, p1, p2, p3, p4, p5⟩ := Blk.cells6 HP3.out
  obtain ⟨a0, a1, a2, a3, a4, a5⟩ := Blk.cells6 HA3.out
  obtain ⟨c0, c1, c2, c3, c4, c5⟩ := Blk.cells6 HC3.out
  obtain ⟨b0, b1, -⟩ := HB3.out.two_
  obtain ⟨d0, d1, -⟩ := HD3.out.two_
  have heq := run_eq_hnds
  go_upto_region 6 with (fail)
  clear heq a0 a1 a2 a3 a4 a5 b0 b1 c0 c1 c2 c3 c4 c5 d0 d1 HA3 HB3 HC3 HD3
  go_upto_region 8 with (go_at_call 10; refine (Hps.out _).mono ?_; rintro e w4 ⟨rfl, hb4⟩)
  have HO4 := hide (HO3.out.trans (below_only hb4))
  have HP4 := hide (Blk.only HP3.out (below_only hb4) (fun h => h))
  clear hb4 p0 p1 p2 p3 p4 p5 HO3 HP3
  obtain ⟨p0, p1, p2, p3, p4, p5⟩ := Blk.cells6 HP4.out
  go_wp2_with (first | (go_at_call 12; refine (Htx.out _).mono ?_; rintro e w5 ⟨rfl, hb5⟩; have HP5 := hide (Blk.only HP4.out (below_only hb5) (fun h => h)); have HO5 := hide (HO4.out.trans (below_only hb5)); clear hb5; obtain ⟨y0, y1, y2, y3, y4, y5⟩ := Blk.cells6 HP5.out) | (go_at_call 11; refine (Hck.out _).mono ?_; rintro e w6 ⟨rfl, hb6⟩; have HO6 := hide (HO5.out.trans (below_only hb6)); clear hb6))
  go_ret
  exact ⟨rfl, only_below HO6.out⟩
set_option maxHeartbeats 16000000 in
set_option maxRecDepth 100000 in
theorem bt_bad (p : Pos) (s : ByteArray) (W : World) (hc9 : p.cells.size ≤ 9223372036854775807) (l0 : p.h0.size ≤ 9223372036854775807) (l1 : p.h1.size ≤ 9223372036854775807) (hs : s.size ≤ 9223372036854775806) (hm : MaxAt W) (hp : ¬ PosOk p) :
    Calls Tryd.prog 3 #[.agg #[.int .i64 p.w, .int .i64 p.h, .string p.cells, .int .i64 p.turn, .string p.h0, .string p.h1], .string s] W fun e w' => e = .returned (.bool true) ∧ Below W.heap.size W w' := by
  have Hwr := hide (fun W => write_bad p W hc9 l0 l1 hp)
  obtain ⟨w, h, c, t, h0, h1⟩ := p
  simp only at hc9 l0 l1
  have Hck := hide (fun W => chk_bad w h t c h0 h1 W hc9 l0 l1 hp)
  have Hps := hide (fun W => pos_bad w h t c h0 h1 W hc9 l0 l1 hp)
  simp only at Hwr
  clear hp
  go_enter Tryd.func3, Tryd.ntmps3
  go_upto_region 1 with (fail)
  have HO0 := hide (show Only (fun _ => False) W (W.alloc (.cells #[.int .i64 w, .int .i64 h, .string c, .int .i64 t, .string h0, .string h1] 24)) from (Only.refl _ W).alloc _)
  have HP0 := hide (Blk.new W 24 #[.int .i64 w, .int .i64 h, .string c, .int .i64 t, .string h0, .string h1])
  have hW0 : W.heap.size < (W.alloc (.cells #[.int .i64 w, .int .i64 h, .string c, .int .i64 t, .string h0, .string h1] 24)).heap.size := by rw [World.size_alloc]; omega
  obtain ⟨w0, hw0⟩ : ∃ w0, W.alloc (.cells #[.int .i64 w, .int .i64 h, .string c, .int .i64 t, .string h0, .string h1] 24) = w0 := ⟨_, rfl⟩
  rw [hw0] at HO0 HP0 hW0 ⊢
  clear hw0
  obtain ⟨p0, p1, p2, p3, p4, p5⟩ := Blk.cells6 HP0.out
  go_upto_region 2 with (go_at_call 7; refine (Hwr.out _).mono ?_; rintro e w1 ⟨rfl, hb1⟩)
  have HO1 := hide (HO0.out.trans (below_only hb1))
  have HP1 := hide (Blk.only HP0.out (below_only hb1) (fun h => h))
  have hm1 := hm.only HO1.out
  have hW1 : W.heap.size < w1.heap.size := Nat.lt_of_lt_of_le hW0 hb1.size
  clear hb1 HO0 HP0 p0 p1 p2 p3 p4 p5
  have Hrd := hide (read_any s w1 hs)
  go_upto_region 3 with (go_at_call 8; refine Hrd.out.mono ?_; rintro e w2 ⟨⟨⟨qw, qh, qc, qt, q0, q1⟩, cd, ca, hq, rfl⟩, ho2⟩; have HQ := hide hq; clear hq)
  have hal : Only (fun _ => False) w2 ((w2.alloc (.cells #[.int .i64 qw, .int .i64 qh, .string qc, .int .i64 qt, .string q0, .string q1] 24)).alloc (.cells #[.int .i64 cd, .int .i64 ca] 29)) := ((Only.refl _ w2).alloc _).alloc _
  have HO2 := hide ((HO1.out.trans ho2).trans hal)
  have HP2 := hide (Blk.only (Blk.only HP1.out ho2 (fun h => h)) hal (fun h => h))
  have HA2 := hide (Blk.alloc (Blk.new w2 24 #[.int .i64 qw, .int .i64 qh, .string qc, .int .i64 qt, .string q0, .string q1]) (.cells #[.int .i64 cd, .int .i64 ca] 29))
  have HB2 := hide (show Blk ((w2.alloc (.cells #[.int .i64 qw, .int .i64 qh, .string qc, .int .i64 qt, .string q0, .string q1] 24)).alloc (.cells #[.int .i64 cd, .int .i64 ca] 29)) (w2.heap.size + 1) 29 #[.int .i64 cd, .int .i64 ca] from (by have h := Blk.new (w2.alloc (.cells #[.int .i64 qw, .int .i64 qh, .string qc, .int .i64 qt, .string q0, .string q1] 24)) 29 #[.int .i64 cd, .int .i64 ca]; rw [World.size_alloc] at h; exact h))
  have hW2 : W.heap.size < w2.heap.size := Nat.lt_of_lt_of_le hW1 ho2.size
  obtain ⟨gq, hgq⟩ : ∃ gq, w2.heap.size = gq := ⟨_, rfl⟩
  have hs2 : ((w2.alloc (.cells #[.int .i64 qw, .int .i64 qh, .string qc, .int .i64 qt, .string q0, .string q1] 24)).alloc (.cells #[.int .i64 cd, .int .i64 ca] 29)).heap.size = gq + 2 := by simp only [World.size_alloc]; omega
  obtain ⟨v2, hv2⟩ : ∃ v2, (w2.alloc (.cells #[.int .i64 qw, .int .i64 qh, .string qc, .int .i64 qt, .string q0, .string q1] 24)).alloc (.cells #[.int .i64 cd, .int .i64 ca] 29) = v2 := ⟨_, rfl⟩
  rw [hv2] at HO2 HP2 HA2 HB2 hs2 ⊢
  rw [hgq] at HA2 HB2 hW2 ⊢
  clear hv2 hgq hal ho2 HP1 HO1 hm1 Hrd
  have Hpa := hide (parsed_any s v2 hs (hm.only HO2.out))
  go_upto_region 4 with (go_at_call 9; refine Hpa.out.mono ?_; rintro e w3 ⟨⟨⟨xw, xh, xc, xt, x0, x1⟩, cd', ca', hr, rfl⟩, ho3⟩; obtain ⟨hpe, rfl, rfl⟩ := says_same HQ.out hr; injection hpe with e1 e2 e3 e4 e5 e6; subst e1; subst e2; subst e3; subst e4; subst e5; subst e6; clear hr)
  have hal : Only (fun _ => False) w3 ((w3.alloc (.cells #[.int .i64 xw, .int .i64 xh, .string xc, .int .i64 xt, .string x0, .string x1] 24)).alloc (.cells #[.int .i64 cd', .int .i64 ca'] 29)) := ((Only.refl _ w3).alloc _).alloc _
  have hon : Only (fun _ => False) v2 ((w3.alloc (.cells #[.int .i64 xw, .int .i64 xh, .string xc, .int .i64 xt, .string x0, .string x1] 24)).alloc (.cells #[.int .i64 cd', .int .i64 ca'] 29)) := ho3.trans hal
  have HO3 := hide (HO2.out.trans hon)
  have HP3 := hide (Blk.only HP2.out hon (fun h => h))
  have HA3 := hide (Blk.only HA2.out hon (fun h => h))
  have HB3 := hide (Blk.only HB2.out hon (fun h => h))
  have HC3 := hide (Blk.alloc (Blk.new w3 24 #[.int .i64 xw, .int .i64 xh, .string xc, .int .i64 xt, .string x0, .string x1]) (.cells #[.int .i64 cd', .int .i64 ca'] 29))
  have HD3 := hide (show Blk ((w3.alloc (.cells #[.int .i64 xw, .int .i64 xh, .string xc, .int .i64 xt, .string x0, .string x1] 24)).alloc (.cells #[.int .i64 cd', .int .i64 ca'] 29)) (w3.heap.size + 1) 29 #[.int .i64 cd', .int .i64 ca'] from (by have h := Blk.new (w3.alloc (.cells #[.int .i64 xw, .int .i64 xh, .string xc, .int .i64 xt, .string x0, .string x1] 24)) 29 #[.int .i64 cd', .int .i64 ca']; rw [World.size_alloc] at h; exact h))
  obtain ⟨gr, hgr⟩ : ∃ gr, w3.heap.size = gr := ⟨_, rfl⟩
  obtain ⟨v3, hv3⟩ : ∃ v3, (w3.alloc (.cells #[.int .i64 xw, .int .i64 xh, .string xc, .int .i64 xt, .string x0, .string x1] 24)).alloc (.cells #[.int .i64 cd', .int .i64 ca'] 29) = v3 := ⟨_, rfl⟩
  rw [hv3] at HO3 HP3 HA3 HB3 HC3 HD3 ⊢
  rw [hgr] at HC3 HD3 ⊢
  clear hv3 hgr hal hon ho3 HP2 HO2 HA2 HB2 Hpa HQ
  obtain ⟨p0, p1, p2, p3, p4, p5⟩ := Blk.cells6 HP3.out
  obtain ⟨a0, a1, a2, a3, a4, a5⟩ := Blk.cells6 HA3.out
  obtain ⟨c0, c1, c2, c3, c4, c5⟩ := Blk.cells6 HC3.out
  obtain ⟨b0, b1, -⟩ := HB3.out.two_
  obtain ⟨d0, d1, -⟩ := HD3.out.two_
  have heq := run_eq_hnds
  go_upto_region 6 with (fail)
  clear heq a0 a1 a2 a3 a4 a5 b0 b1 c0 c1 c2 c3 c4 c5 d0 d1 HA3 HB3 HC3 HD3
  go_upto_region 7 with (go_at_call 10; refine (Hps.out _).mono ?_; rintro e w4 ⟨rfl, hb4⟩)
  have HO4 := hide (HO3.out.trans (below_only hb4))
  have HP4 := hide (Blk.only HP3.out (below_only hb4) (fun h => h))
  clear hb4 p0 p1 p2 p3 p4 p5 HO3 HP3
  obtain ⟨p0, p1, p2, p3, p4, p5⟩ := Blk.cells6 HP4.out
  go_wp2_with (go_at_call 11; refine (Hck.out _).mono ?_; rintro e w6 ⟨rfl, hb6⟩; have HO6 := hide (HO4.out.trans (below_only hb6)); clear hb6)
  go_ret
  exact ⟨rfl, only_below HO6.out⟩
theorem bt_any (p : Pos) (s : ByteArray) (W : World) (hc9 : p.cells.size ≤ 9223372036854775807) (l0 : p.h0.size ≤ 9223372036854775807) (l1 : p.h1.size ≤ 9223372036854775807) (hs : s.size ≤ 9223372036854775806) (hm : MaxAt W) :
    Calls Tryd.prog 3 #[.agg #[.int .i64 p.w, .int .i64 p.h, .string p.cells, .int .i64 p.turn, .string p.h0, .string p.h1], .string s] W fun e w' => e = .returned (.bool true) ∧ Below W.heap.size W w' := by
  by_cases hp : PosOk p
  · exact bt_good p s W hc9 l0 l1 hs hm hp
  · exact bt_bad p s W hc9 l0 l1 hs hm hp
end Go.Proofs.YtcdfeaodfmfdnaaDoor
