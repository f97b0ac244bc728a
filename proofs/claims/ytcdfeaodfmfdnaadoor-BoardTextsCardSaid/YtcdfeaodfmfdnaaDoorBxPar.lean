/- gameref.Parsed: walked. -/
import Derived.Test.YtcdfeaodfmfdnaaDoorBxBeg
import Derived.Test.YtcdfeaodfmfdnaaDoorBxParP
import Derived.BigRegion
namespace Go.Proofs.YtcdfeaodfmfdnaaDoor
open Go.RowKit

set_option maxHeartbeats 16000000 in
set_option maxRecDepth 100000 in
theorem parsed_any (s : ByteArray) (W : World) (hs : s.size ≤ 9223372036854775806) (hm : MaxAt W) :
    Calls Tryd.prog 9 #[.string s] W (SaysB s W) := by
  go_enter Tryd.func9, Tryd.ntmps9
  go_upto_region 1 with (fail)
  have HPW0 := hide (show PW W ((W.alloc (.cells #[.int .i64 0, .int .i64 0, .string ⟨#[]⟩, .int .i64 0, .string ⟨#[]⟩, .string ⟨#[]⟩] 24)).alloc (.cells #[.int .i64 0, .int .i64 0] 29)) from
    ⟨((Only.refl _ W).alloc _).alloc _, hm.only (((Only.refl _ W).alloc _).alloc _), (Blk.new W _ _).alloc _, (by have h := Blk.new (W.alloc (.cells #[.int .i64 0, .int .i64 0, .string ⟨#[]⟩, .int .i64 0, .string ⟨#[]⟩, .string ⟨#[]⟩] 24)) 29 #[.int .i64 0, .int .i64 0]; rw [World.size_alloc] at h; exact h), (by simp only [World.size_alloc]; omega), hm.lt⟩)
  obtain ⟨w1, hw1⟩ : ∃ w1, ((W.alloc (.cells #[.int .i64 0, .int .i64 0, .string ⟨#[]⟩, .int .i64 0, .string ⟨#[]⟩, .string ⟨#[]⟩] 24)).alloc (.cells #[.int .i64 0, .int .i64 0] 29)) = w1 := ⟨_, rfl⟩
  rw [hw1] at HPW0 ⊢
  clear hw1
  have hln : s.data.toList.length = s.size := by simp
  have Hln := hide hln
  clear hln
  go_wp2_with fail
  go_loopw [4] (fun iv wr => ∃ i : Nat, i ≤ s.size ∧ iv = .int .i64 (i : Int) ∧ PW W wr ∧ ∃ st, runB (s.data.toList.take i) = some st) (fun iv _ => s.size - (intOf iv).toNat)
  case atStart => exact ⟨0, by omega, rfl, HPW0.out, _, rfl⟩
  case round =>
    rename World => wr
    obtain ⟨i, hi, rfl, hpw, st, hst⟩ := hrel
    have HPW := hide hpw
    have Hst := hide hst
    have hi4 : i ≤ 400 := by
      have := run_len hst
      rw [List.length_take, Hln.out] at this
      omega
    clear hpw hst HPW0
    by_cases hil : i < s.size
    · have t1 : decide ((i : Int) < (s.size : Int)) = true := by simp; omega
      have t1n : decide (i < s.size) = true := by simp; omega
      have i0 : (0 : Int) ≤ (i : Int) + 1 := by omega
      have i1 : (i : Int) + 1 ≤ (s.size : Int) := by omega
      have tw : IntKind.i64.wrap ((i : Int) + 1) = (i : Int) + 1 := IntWalk.i64_in _ (by omega)
      have hex : (s.extract 0 (i + 1)).data.toList = s.data.toList.take (i + 1) := by rw [Go.Lib.extract_data]; simp
      have hes : (s.extract 0 (i + 1)).size < 4294967281 := by simp; omega
      have HB := hide (begins_any (s.extract 0 (i + 1)) wr hes HPW.out.m)
      have Hex := hide hex
      obtain ⟨c, hc⟩ : ∃ c, s.data.toList[i]? = some c := ⟨_, byteAt hil⟩
      have Hc := hide hc
      clear hex hc
      go_upto_region 5 with (go_at_call 27; refine HB.out.mono ?_; rintro e w2 ⟨may, whole, rfl, hbeg, ho2⟩)
      have HP2 := hide (HPW.out.no ho2)
      have Hbeg := hide hbeg
      clear hbeg ho2 HPW HB
      cases may
      · have hf : stepB st c = none := by
          have h := Hbeg.out.1
          rw [Hex.out, may_take Hst.out Hc.out] at h
          cases hs : stepB st c with
          | none => rfl
          | some x => rw [hs] at h; simp at h
        have HF := hide (show FailB s.data.toList i from ⟨st, by rw [Hln.out]; exact hi, Hst.out, .inr ⟨c, Hc.out, hf⟩⟩)
        clear hf
        go_upto_region 6 with (fail)
        refine wp_region_lit ?_
        refine wpList_plain rfl (fun K hK => ?_)
        go_simp
        refine hK _ _ ?_
        clear hK K
        refine wpList_plain rfl (fun K hK => ?_)
        go_simp
        refine hK _ _ ?_
        clear hK K
        refine wpList_plain rfl (fun K hK => ?_)
        go_simp
        refine hK _ _ ?_
        clear hK K
        refine wpList_plain rfl (fun K hK => ?_)
        refine wp_store_row 24 (.tmp 2) (.tmp 31) rfl W.heap.size #[.int .i64 0, .int .i64 0, .string ⟨#[]⟩, .int .i64 0, .string ⟨#[]⟩, .string ⟨#[]⟩] rfl rfl 24 _ HP2.out.z (by kernel_rfl) (by simp) (by simp [Value.oneCell']) ?_
        refine hK _ _ ?_
        clear hK K
        have HP4 := hide (setRow_blk2 (vs := #[.int .i64 0, .int .i64 0, .string ⟨#[]⟩, .int .i64 0, .string ⟨#[]⟩, .string ⟨#[]⟩]) HP2.out.z)
        have HQ4 := hide (setRow_far (g := W.heap.size) (vs := #[.int .i64 0, .int .i64 0, .string ⟨#[]⟩, .int .i64 0, .string ⟨#[]⟩, .string ⟨#[]⟩]) HP2.out.f (show W.heap.size + 1 ≠ W.heap.size by omega))
        have HO4 := hide (only_setRow (vs := #[.int .i64 0, .int .i64 0, .string ⟨#[]⟩, .int .i64 0, .string ⟨#[]⟩, .string ⟨#[]⟩]) HP2.out.o (Nat.le_refl _))
        refine wpList_plain rfl (fun K hK => ?_)
        refine wp_store_row 29 (.tmp 3) (.tmp 33) rfl (W.heap.size + 1) #[.int .i64 3, .int .i64 (i : Int)] rfl rfl 29 _ HQ4.out (by kernel_rfl) (by simp) (by simp [Value.oneCell']) ?_
        refine hK _ _ ?_
        clear hK K
        have hO5 := only_setRow (g := W.heap.size + 1) (vs := #[.int .i64 3, .int .i64 (i : Int)]) HO4.out (by omega)
        have hP5 := setRow_far (g := W.heap.size + 1) (vs := #[.int .i64 3, .int .i64 (i : Int)]) HP4.out (show W.heap.size ≠ W.heap.size + 1 by omega)
        have hQ5 := setRow_blk2 (vs := #[.int .i64 3, .int .i64 (i : Int)]) HQ4.out
        obtain ⟨z0, z1, z2, z3, z4, z5, -⟩ := hP5.six_
        obtain ⟨q0, q1, -⟩ := hQ5.two_
        go_wp2_with fail
        refine bodyPost_ret (v := .tuple #[.agg #[.int .i64 0, .int .i64 0, .string ⟨#[]⟩, .int .i64 0, .string ⟨#[]⟩, .string ⟨#[]⟩], .agg #[.int .i64 3, .int .i64 (i : Int)]]) (by simp [results, Tryd.results9, go_sem, z0, z1, z2, z3, z4, z5, q0, q1]) rfl ⟨⟨zeroPos, 3, (i : Int), .inl ⟨i, HF.out, rfl, rfl, rfl⟩, rfl⟩, hO5⟩
      · have hf : ∃ st', stepB st c = some st' := by
          have h := Hbeg.out.1.1 rfl
          rw [Hex.out, may_take Hst.out Hc.out] at h
          exact Option.isSome_iff_exists.1 h
        obtain ⟨st', hst'⟩ := hf
        have Hs' := hide hst'
        clear hst'
        go_wp2_with fail
        go_roundw
        case rel => exact ⟨i + 1, by omega, by go_num, HP2.out, st', by rw [run_take_succ Hc.out, Hst.out]; exact Hs'.out⟩
        case measure => simp [intOf]; omega
    · obtain rfl : i = s.size := by omega
      have t1 : decide ((s.size : Int) < (s.size : Int)) = false := by simp
      have Hrun := hide (whole Hst.out)
      have HB := hide (begins_any s wr (by omega) HPW.out.m)
      go_upto_region 8 with (go_at_call 27; refine HB.out.mono ?_; rintro e w2 ⟨may, wh, rfl, hbeg, ho2⟩)
      have HP2 := hide (HPW.out.no ho2)
      have Hbeg := hide hbeg
      clear hbeg ho2 HPW HB Hst t1
      cases wh
      · have HF := hide (show FailB s.data.toList s.size from ⟨st, by rw [Hln.out]; exact Nat.le_refl _, by rw [List.take_of_length_le (by rw [Hln.out]; exact Nat.le_refl _)]; exact Hrun.out, .inl ⟨Hln.out.symm, by
          cases h : accB st with
          | false => rfl
          | true => have := Hbeg.out.2.2 ⟨may_whole Hrun.out h, (whole_run Hrun.out).2 h⟩; cases this⟩⟩)
        go_upto_region 9 with (fail)
        refine wp_region_lit ?_
        refine wpList_plain rfl (fun K hK => ?_)
        go_simp
        refine hK _ _ ?_
        clear hK K
        refine wpList_plain rfl (fun K hK => ?_)
        go_simp
        refine hK _ _ ?_
        clear hK K
        refine wpList_plain rfl (fun K hK => ?_)
        go_simp
        refine hK _ _ ?_
        clear hK K
        refine wpList_plain rfl (fun K hK => ?_)
        go_simp
        refine hK _ _ ?_
        clear hK K
        refine wpList_plain rfl (fun K hK => ?_)
        refine wp_store_row 24 (.tmp 2) (.tmp 41) rfl W.heap.size #[.int .i64 0, .int .i64 0, .string ⟨#[]⟩, .int .i64 0, .string ⟨#[]⟩, .string ⟨#[]⟩] rfl rfl 24 _ HP2.out.z (by kernel_rfl) (by simp) (by simp [Value.oneCell']) ?_
        refine hK _ _ ?_
        clear hK K
        have HP4 := hide (setRow_blk2 (vs := #[.int .i64 0, .int .i64 0, .string ⟨#[]⟩, .int .i64 0, .string ⟨#[]⟩, .string ⟨#[]⟩]) HP2.out.z)
        have HQ4 := hide (setRow_far (g := W.heap.size) (vs := #[.int .i64 0, .int .i64 0, .string ⟨#[]⟩, .int .i64 0, .string ⟨#[]⟩, .string ⟨#[]⟩]) HP2.out.f (show W.heap.size + 1 ≠ W.heap.size by omega))
        have HO4 := hide (only_setRow (vs := #[.int .i64 0, .int .i64 0, .string ⟨#[]⟩, .int .i64 0, .string ⟨#[]⟩, .string ⟨#[]⟩]) HP2.out.o (Nat.le_refl _))
        refine wpList_plain rfl (fun K hK => ?_)
        refine wp_store_row 29 (.tmp 3) (.tmp 44) rfl (W.heap.size + 1) #[.int .i64 3, .int .i64 (s.size : Int)] rfl rfl 29 _ HQ4.out (by kernel_rfl) (by simp) (by simp [Value.oneCell']) ?_
        refine hK _ _ ?_
        clear hK K
        have hO5 := only_setRow (g := W.heap.size + 1) (vs := #[.int .i64 3, .int .i64 (s.size : Int)]) HO4.out (by omega)
        have hP5 := setRow_far (g := W.heap.size + 1) (vs := #[.int .i64 3, .int .i64 (s.size : Int)]) HP4.out (show W.heap.size ≠ W.heap.size + 1 by omega)
        have hQ5 := setRow_blk2 (vs := #[.int .i64 3, .int .i64 (s.size : Int)]) HQ4.out
        obtain ⟨z0, z1, z2, z3, z4, z5, -⟩ := hP5.six_
        obtain ⟨q0, q1, -⟩ := hQ5.two_
        go_wp2_with fail
        refine bodyPost_ret (v := .tuple #[.agg #[.int .i64 0, .int .i64 0, .string ⟨#[]⟩, .int .i64 0, .string ⟨#[]⟩, .string ⟨#[]⟩], .agg #[.int .i64 3, .int .i64 (s.size : Int)]]) (by simp [results, Tryd.results9, go_sem, z0, z1, z2, z3, z4, z5, q0, q1]) rfl ⟨⟨zeroPos, 3, (s.size : Int), .inl ⟨s.size, HF.out, rfl, rfl, rfl⟩, rfl⟩, hO5⟩
      · have hw2 := (Hbeg.out.2.1 rfl).2
        have hacc := (whole_run Hrun.out).1 hw2
        have hpr := posRef_fin Hrun.out hacc
        have hmay := may_whole Hrun.out hacc
        obtain ⟨P, hP⟩ : ∃ P, splitL 32 s.data.toList = P := ⟨_, rfl⟩
        have HPe := hide hP
        have hpl : ∀ a ∈ P, a.length ≤ 400 := fun a ha => by
          have := splitL_mem (c := 32) (l := s.data.toList) (by rw [hP]; exact ha)
          rw [Hln.out] at this
          omega
        rw [hP] at hpr hw2 hmay
        obtain ⟨hP3, hH2, -⟩ := hw2
        have H1 := hide (split_any 32 s w2 (by omega) HP2.out.m)
        rw [hP] at H1
        have HFin := hide (And.intro Hrun.out (And.intro hacc hpr))
        have hR8 := hmay.1.1
        have HP3 := hide hP3
        have HH2 := hide hH2
        have Hpl := hide hpl
        have HR8 := hide hR8
        clear hpr hmay hP hP3 hH2 hpl hR8 hacc Hrun Hbeg
        go_upto_region 11 with (go_at_call 28; refine H1.out.mono ?_; rintro e w3 ⟨np, hnp, rfl, hp, ho3, hsz3⟩; have Hnp := hide hnp; have HS3 := hide hsz3; clear hnp hsz3)
        have hn2 : (2 : Int) < (np : Int) := by rw [Hnp.out, HP3.out]; decide
        have HW3 := hide (HP2.out.no ho3)
        obtain ⟨g1, hg1⟩ : ∃ g1, w2.heap.size = g1 := ⟨_, rfl⟩
        have hg1W : W.heap.size + 2 ≤ g1 := by rw [← hg1]; exact HP2.out.sz
        rw [hg1] at hp HS3 ⊢
        have HA3 := hide hp
        have c0 := hp.cellD (i := 0) (by rw [HP3.out]; omega)
        obtain ⟨q0, hq0⟩ : ∃ q0, P.getD 0 [] = q0 := ⟨_, rfl⟩
        have hq0l : q0.length ≤ 400 := by rw [← hq0]; exact Hpl.out _ (getD_mem (by rw [HP3.out]; omega))
        have H2 := hide (split_any 47 (bytes q0) w3 (by rw [size_bytes]; omega) HW3.out.m)
        rw [bytes_list] at H2
        have HR8' := HR8.out
        rw [headD_getD, hq0] at HR8'
        rw [hq0] at c0
        have Hq0 := hide hq0
        clear hp ho3 hg1 hq0 HP2 HR8 H1
        go_upto_region 12 with (go_at_call 28; refine H2.out.mono ?_; rintro e w4 ⟨nr, hnr, rfl, hr, ho4, hsz4⟩; have Hnr := hide hnr; have HS4 := hide hsz4; clear hnr hsz4)
        obtain ⟨R, hR⟩ : ∃ R, splitL 47 q0 = R := ⟨_, rfl⟩
        have HRe := hide (show splitL 47 (P.getD 0 []) = R from by rw [Hq0.out]; exact hR)
        have hrl : ∀ a ∈ R, a.length ≤ 400 := fun a ha => Nat.le_trans (splitL_mem (by rw [hR]; exact ha)) hq0l
        have hrne : R ≠ [] := by rw [← hR]; exact splitL_ne _ _
        rw [hR] at Hnr hr HR8'
        have hnr0 : 0 < nr := by rw [Hnr.out]; exact List.length_pos_iff.2 hrne
        have hnri : (0 : Int) < (nr : Int) := by omega
        have hnr8 : nr ≤ 8 := by rw [Hnr.out]; exact HR8'
        have HW4 := hide (HW3.out.no ho4)
        have HA4 := hide (show RowsAt w4 g1 P from Blk.only HA3.out ho4 (fun h => h))
        obtain ⟨g2, hg2⟩ : ∃ g2, w3.heap.size = g2 := ⟨_, rfl⟩
        have hg2W : W.heap.size + 2 ≤ g2 := by rw [← hg2]; exact HW3.out.sz
        have hg2l : g2 < w4.heap.size := by rw [HS4.out]; omega
        have hg1l : g1 < w4.heap.size := by rw [HS4.out, HS3.out]; omega
        have hg12 : g1 < g2 := by rw [← hg2, HS3.out]; omega
        have HRl := hide hrl
        rw [hg2] at hr ⊢
        have HB4 := hide hr
        have r0 := hr.cellD (i := 0) (by rw [← Hnr.out]; exact hnr0)
        obtain ⟨z, hz⟩ : ∃ z, bytes (R.getD 0 []) = z := ⟨_, rfl⟩
        have Hz := hide (show z.size = (R.getD 0 []).length from by rw [← hz, size_bytes])
        rw [hz] at r0
        have hz4 : z.size ≤ 400 := by rw [Hz.out]; exact hrl _ (getD_mem (by rw [← Hnr.out]; exact hnr0))
        clear hr ho4 hR hrl hz c0 H2 HW3 HA3 HR8' hrne hg2 HS3 HS4
        go_upto_region 13 with (fail)
        have HB0 := hide (Blk.new w4 24 #[.int .i64 (z.size : Int), .int .i64 (nr : Int), .string ⟨#[]⟩, .int .i64 0, .string ⟨#[]⟩, .string ⟨#[]⟩])
        have hal : Only (fun _ => False) w4 (w4.alloc (.cells #[.int .i64 (z.size : Int), .int .i64 (nr : Int), .string ⟨#[]⟩, .int .i64 0, .string ⟨#[]⟩, .string ⟨#[]⟩] 24)) := (Only.refl _ w4).alloc _
        have HK := hide (fun (w' : World) (ho : Only (fun x => x = w4.heap.size) (w4.alloc (.cells #[.int .i64 (z.size : Int), .int .i64 (nr : Int), .string ⟨#[]⟩, .int .i64 0, .string ⟨#[]⟩, .string ⟨#[]⟩] 24)) w') => (show PW W w' ∧ RowsAt w' g1 P ∧ RowsAt w' g2 R ∧ w4.heap.size < w'.heap.size from
          ⟨(HW4.out.no hal).step ho (fun x hx => by have := HW4.out.sz; omega), Blk.only (Blk.only HA4.out hal (fun h => h)) ho (by omega), Blk.only (Blk.only HB4.out hal (fun h => h)) ho (by omega), by have := ho.size; rw [World.size_alloc] at this; omega⟩))
        obtain ⟨w5, hw5⟩ : ∃ w5, w4.alloc (.cells #[.int .i64 (z.size : Int), .int .i64 (nr : Int), .string ⟨#[]⟩, .int .i64 0, .string ⟨#[]⟩, .string ⟨#[]⟩] 24) = w5 := ⟨_, rfl⟩
        rw [hw5] at HB0 ⊢
        simp only [hw5] at HK
        obtain ⟨gp, hgp⟩ : ∃ gp, w4.heap.size = gp := ⟨_, rfl⟩
        have hgpW : W.heap.size + 2 ≤ gp := by rw [← hgp]; exact HW4.out.sz
        rw [hgp] at HB0 hg1l hg2l ⊢
        simp only [hgp] at HK
        clear hal hw5 hgp HW4 HA4 HB4 r0
        go_wp2_with fail
        go_loopw [12] (fun iv wr => ∃ k : Nat, k ≤ nr ∧ iv = .int .i64 ((nr : Int) - 1 - (k : Int)) ∧ Only (fun x => x = gp) w5 wr ∧ Blk wr gp 24 #[.int .i64 (z.size : Int), .int .i64 (nr : Int), .string (bytes (catR R k)), .int .i64 0, .string ⟨#[]⟩, .string ⟨#[]⟩]) (fun iv _ => (intOf iv + 1).toNat)
        case atStart => exact ⟨0, by omega, by simp, Only.refl _ _, HB0.out⟩
        case round =>
          rename World => wq
          obtain ⟨k, hk, rfl, ho6, hb6⟩ := hrel
          have HO6 := hide ho6
          have HB6 := hide hb6
          clear ho6 hb6 HB0
          by_cases hkl : k < nr
          · obtain ⟨y, hy⟩ : ∃ y : Nat, nr = k + 1 + y := ⟨nr - 1 - k, by omega⟩
            have hye : (nr : Int) - 1 - (k : Int) = (y : Int) := by omega
            have hye2 : (nr : Int) - 1 - ((k + 1 : Nat) : Int) = (y : Int) - 1 := by omega
            have hcat := catR_succ (R := R) (k := k) (by rw [← Hnr.out]; exact hkl)
            rw [← Hnr.out, show nr - 1 - k = y by omega] at hcat
            have hyR : y < R.length := by rw [← Hnr.out]; omega
            have hcl := catR_len (R := R) (k := k) (by rw [← Hnr.out]; exact hnr8) HRl.out
            obtain ⟨hpw6, -, hr6, -⟩ := HK.out wq HO6.out
            have ry := hr6.cellD hyR
            obtain ⟨sr, hsr⟩ : ∃ sr, bytes (R.getD y []) = sr := ⟨_, rfl⟩
            have hsrl : sr.size ≤ 400 := by rw [← hsr, size_bytes]; exact HRl.out _ (getD_mem hyR)
            obtain ⟨sc, hsc⟩ : ∃ sc, bytes (catR R k) = sc := ⟨_, rfl⟩
            have hscl : sc.size ≤ 3200 := by rw [← hsc, size_bytes]; exact hcl
            have Hcat := hide (show bytes (catR R (k + 1)) = sc ++ sr from by rw [hcat, ← bytes_cat, hsc, hsr])
            rw [hsr] at ry
            rw [hsc] at HB6
            obtain ⟨b0, b1, b2, b3, b4, b5, bf⟩ := HB6.out.six_
            have bf2 := bf 2
            have t1 : decide ((0 : Int) ≤ (y : Int)) = true := by simp
            have y0 : (0 : Int) ≤ (y : Int) := by omega
            have y1 : (y : Int) < (nr : Int) := by omega
            have tw : IntKind.i64.wrap ((y : Int) - 1) = (y : Int) - 1 := IntWalk.i64_in _ (by omega)
            have Hye2 := hide hye2
            rw [hye]
            clear hye hye2 hcat hyR hcl hsr hsc hy bf hpw6 hr6
            go_upto_region 16 with (fail)
            go_big_region
            go_wp2_with fail
            go_roundw
            case rel => exact ⟨k + 1, by omega, by rw [Hye2.out], (HO6.out.setCell (p := ⟨gp, 2, none⟩) (.inl rfl) _).drew, by rw [Hcat.out]; exact Blk.set_ HB6.out 2 _⟩
            case measure => simp [intOf]
          · obtain rfl : k = nr := by omega
            have hye : (k : Int) - 1 - (k : Int) = -1 := by omega
            rw [hye]
            clear hye
            obtain ⟨cs, hcs⟩ : ∃ cs, bytes R.reverse.flatten = cs := ⟨_, rfl⟩
            have HB7 := hide (show Blk wq gp 24 #[.int .i64 (z.size : Int), .int .i64 (k : Int), .string cs, .int .i64 0, .string ⟨#[]⟩, .string ⟨#[]⟩] from by rw [← hcs, ← catR_all, ← Hnr.out]; exact HB6.out)
            have Hcs := hide hcs
            obtain ⟨hpw6, hp6, hr6, hl6⟩ := HK.out wq HO6.out
            have c1 := hp6.cellD (i := 1) (by rw [HP3.out]; omega)
            obtain ⟨sb, hsb⟩ : ∃ sb, bytes (P.getD 1 []) = sb := ⟨_, rfl⟩
            have Hsb := hide (show sb.toList = P.getD 1 [] from by rw [← hsb, Go.ByteArray.toList_eq, bytes_list])
            rw [hsb] at c1
            obtain ⟨tv, htv⟩ : ∃ tv : Int, (if P.getD 1 [] = [98] then 1 else 0) = tv := ⟨_, rfl⟩
            have Htv := hide htv
            have hn1 : (1 : Int) < (np : Int) := by omega
            clear hcs HB6 hsb htv hk hkl hpw6 hp6 hr6
            obtain ⟨b0, b1, b2, b3, b4, b5, bf⟩ := HB7.out.six_
            have bf3 := bf 3
            clear bf
            obtain ⟨bv, hbv⟩ : ∃ bv, (sb.toList == [98]) = bv := ⟨_, rfl⟩
            have Hbv := hide hbv
            go_upto_if 76 with (fail)
            clear hbv
            go_cut [] (fun w' => Only (fun x => x = gp) w5 w' ∧ Blk w' gp 24 #[.int .i64 (z.size : Int), .int .i64 (k : Int), .string cs, .int .i64 tv, .string ⟨#[]⟩, .string ⟨#[]⟩])
            case first =>
              cases bv
              · have ht : tv = 0 := by rw [← Htv.out, if_neg (by rw [← Hsb.out]; exact beq_eq_false_iff_ne.1 Hbv.out)]
                subst ht
                go_wp2_with fail
                go_meet
                case rel => exact ⟨HO6.out, HB7.out⟩
              · have ht : tv = 1 := by rw [← Htv.out, if_pos (by rw [← Hsb.out]; exact beq_iff_eq.1 Hbv.out)]
                subst ht
                go_wp2_with fail
                go_meet
                case rel => exact ⟨HO6.out.setCell (p := ⟨gp, 3, none⟩) (.inl rfl) _, Blk.set_ HB7.out 3 _⟩
            case rest =>
              rename World => wv
              obtain ⟨ho7, hb7⟩ := hcut
              have HO8 := hide ho7
              have HB8 := hide hb7
              clear ho7 hb7 HB7 HO6 c1 b0 b1 b2 b3 b4 b5 bf3
              obtain ⟨hpw8, hp8, hr8, hl8⟩ := HK.out wv HO8.out
              have c2 := hp8.cellD (i := 2) (by rw [HP3.out]; omega)
              obtain ⟨q2, hq2⟩ : ∃ q2, P.getD 2 [] = q2 := ⟨_, rfl⟩
              have hq2l : q2.length ≤ 400 := by rw [← hq2]; exact Hpl.out _ (getD_mem (by rw [HP3.out]; omega))
              rw [hq2] at c2
              have H3 := hide (split_any 47 (bytes q2) wv (by rw [size_bytes]; omega) hpw8.m)
              rw [bytes_list] at H3
              have Hq2 := hide hq2
              have HPW8 := hide hpw8
              clear hq2 hp8 hr8 hpw8
              go_upto_region 20 with (go_at_call 28; refine H3.out.mono ?_; rintro e w9 ⟨nh, hnh, rfl, hh, ho9, hsz9⟩; have Hnh := hide hnh; clear hnh hsz9)
              obtain ⟨Hs, hHs⟩ : ∃ Hs, splitL 47 q2 = Hs := ⟨_, rfl⟩
              have HHe := hide (show splitL 47 (P.getD 2 []) = Hs from by rw [Hq2.out]; exact hHs)
              rw [hHs] at Hnh hh
              have hn2' : nh = 2 := by rw [Hnh.out, ← HHe.out]; exact HH2.out
              have hnhi : (1 : Int) < (nh : Int) := by omega
              obtain ⟨g3, hg3⟩ : ∃ g3, wv.heap.size = g3 := ⟨_, rfl⟩
              rw [hg3] at hh ⊢
              have hgp3 : gp < g3 := by omega
              have HH9 := hide hh
              have HB9 := hide (show Blk w9 gp 24 #[.int .i64 (z.size : Int), .int .i64 (k : Int), .string cs, .int .i64 tv, .string ⟨#[]⟩, .string ⟨#[]⟩] from Blk.only HB8.out ho9 (fun h => h))
              have HW9 := hide (HPW8.out.no ho9)
              have hlen2 : 2 = Hs.length := by rw [← Hnh.out, hn2']
              have Hlen2 := hide hlen2
              have hgl9 : gp < w9.heap.size := Nat.lt_of_lt_of_le hl8 ho9.size
              clear hh ho9 hHs HB8 HO8 c2 hg3 H3 HPW8 hl8 hn2' hlen2
              obtain ⟨ha, hha⟩ : ∃ ha, undash (Hs.getD 0 []) = ha := ⟨_, rfl⟩
              obtain ⟨hb, hhb⟩ : ∃ hb, undash (Hs.getD 1 []) = hb := ⟨_, rfl⟩
              have Hha := hide hha
              have Hhb := hide hhb
              clear hha hhb
              go_wp2_with fail
              go_loopw [14] (fun iv wr => ∃ q : Nat, q ≤ 2 ∧ iv = .int .i64 (q : Int) ∧ Only (fun x => x = gp) w9 wr ∧ Blk wr gp 24 #[.int .i64 (z.size : Int), .int .i64 (k : Int), .string cs, .int .i64 tv, .string (bytes (if q = 0 then [] else ha)), .string (bytes (if q ≤ 1 then [] else hb))]) (fun iv _ => 2 - (intOf iv).toNat)
              case atStart => exact ⟨0, by omega, rfl, Only.refl _ _, HB9.out⟩
              case round =>
                rename World => wx
                obtain ⟨q, hq, rfl, hox, hbx⟩ := hrel
                have HOx := hide hox
                have HBx := hide hbx
                have hhx := hide (show RowsAt wx g3 Hs from Blk.only HH9.out hox (by omega))
                clear hox hbx HB9
                rcases (show q = 0 ∨ q = 1 ∨ q = 2 by omega) with rfl | rfl | rfl
                · have ch := hhx.out.cellD (i := 0) (by rw [← Hlen2.out]; omega)
                  obtain ⟨sh, hsh⟩ : ∃ sh, bytes (Hs.getD 0 []) = sh := ⟨_, rfl⟩
                  have Hsh := hide hsh
                  have Hstl := hide (show sh.toList = Hs.getD 0 [] from by rw [← hsh, Go.ByteArray.toList_eq, bytes_list])
                  rw [hsh] at ch
                  clear hsh
                  obtain ⟨b0, b1, b2, b3, b4, b5, bf⟩ := HBx.out.six_
                  have bf4 := bf 4
                  clear bf
                  by_cases e1 : sh.toList = [45]
                  · have q1 : (sh.toList == [45]) = true := by rw [e1]; rfl
                    have Hu := hide (show ha = [] from by rw [← Hha.out, ← Hstl.out, e1]; rfl)
                    clear e1
                    go_wp2_with fail
                    go_roundw
                    case rel => exact ⟨1, by omega, by go_num, HOx.out, by have h := HBx.out; simp at h ⊢; rw [Hu.out]; exact h⟩
                    case measure => simp [intOf]
                  · have q1 : (sh.toList == [45]) = false := by rw [beq_eq_false_iff_ne]; exact e1
                    have Hu := hide (show bytes ha = sh from by rw [← Hha.out, undash, if_neg (by rw [← Hstl.out]; exact e1), Hsh.out])
                    clear e1
                    go_wp2_with fail
                    go_roundw
                    case rel => exact ⟨1, by omega, by go_num, HOx.out.setCell (p := ⟨gp, 4, none⟩) (.inl rfl) _, by
                      have h := Blk.set_ HBx.out 4 (.string sh)
                      simp at h ⊢
                      rw [Hu.out]
                      exact h⟩
                    case measure => simp [intOf]
                · have ch := hhx.out.cellD (i := 1) (by rw [← Hlen2.out]; omega)
                  obtain ⟨sh, hsh⟩ : ∃ sh, bytes (Hs.getD 1 []) = sh := ⟨_, rfl⟩
                  have Hsh := hide hsh
                  have Hstl := hide (show sh.toList = Hs.getD 1 [] from by rw [← hsh, Go.ByteArray.toList_eq, bytes_list])
                  rw [hsh] at ch
                  clear hsh
                  obtain ⟨b0, b1, b2, b3, b4, b5, bf⟩ := HBx.out.six_
                  have bf4 := bf 5
                  clear bf
                  by_cases e1 : sh.toList = [45]
                  · have q1 : (sh.toList == [45]) = true := by rw [e1]; rfl
                    have Hu := hide (show hb = [] from by rw [← Hhb.out, ← Hstl.out, e1]; rfl)
                    clear e1
                    go_wp2_with fail
                    go_roundw
                    case rel => exact ⟨2, by omega, by go_num, HOx.out, by have h := HBx.out; simp at h ⊢; rw [Hu.out]; exact h⟩
                    case measure => simp [intOf]
                  · have q1 : (sh.toList == [45]) = false := by rw [beq_eq_false_iff_ne]; exact e1
                    have Hu := hide (show bytes hb = sh from by rw [← Hhb.out, undash, if_neg (by rw [← Hstl.out]; exact e1), Hsh.out])
                    clear e1
                    go_wp2_with fail
                    go_roundw
                    case rel => exact ⟨2, by omega, by go_num, HOx.out.setCell (p := ⟨gp, 5, none⟩) (.inl rfl) _, by
                      have h := Blk.set_ HBx.out 5 (.string sh)
                      simp at h ⊢
                      rw [Hu.out]
                      exact h⟩
                    case measure => simp [intOf]
                · have HWx := hide (HW9.out.step HOx.out (fun x hx => by omega))
                  have hbx : Blk wx gp 24 #[.int .i64 (z.size : Int), .int .i64 (k : Int), .string cs, .int .i64 tv, .string (bytes ha), .string (bytes hb)] := HBx.out
                  have Hpq := hide (show (⟨(z.size : Int), (k : Int), cs, tv, bytes ha, bytes hb⟩ : Pos) = finB st from by
                    rw [← HFin.out.2.2]
                    unfold posRef
                    simp only [HRe.out, HHe.out, Hha.out, Hhb.out, Hcs.out, Htv.out, ← Hz.out, ← Hnr.out])
                  obtain ⟨b0, b1, b2, b3, b4, b5, -⟩ := hbx.six_
                  go_upto_region 25 with (fail)
                  refine wp_region_lit ?_
                  refine wpList_plain rfl (fun K hK => ?_)
                  go_simp
                  refine hK _ _ ?_
                  clear hK K
                  refine wpList_plain rfl (fun K hK => ?_)
                  go_simp
                  refine hK _ _ ?_
                  clear hK K
                  refine wpList_plain rfl (fun K hK => ?_)
                  refine wp_store_row 24 (.tmp 2) (.tmp 98) rfl W.heap.size #[.int .i64 (z.size : Int), .int .i64 (k : Int), .string cs, .int .i64 tv, .string (bytes ha), .string (bytes hb)] rfl rfl 24 _ HWx.out.z (by kernel_rfl) (by simp) (by simp [Value.oneCell']) ?_
                  refine hK _ _ ?_
                  clear hK K
                  have HP4 := hide (setRow_blk2 (vs := #[.int .i64 (z.size : Int), .int .i64 (k : Int), .string cs, .int .i64 tv, .string (bytes ha), .string (bytes hb)]) HWx.out.z)
                  have HQ4 := hide (setRow_far (g := W.heap.size) (vs := #[.int .i64 (z.size : Int), .int .i64 (k : Int), .string cs, .int .i64 tv, .string (bytes ha), .string (bytes hb)]) HWx.out.f (show W.heap.size + 1 ≠ W.heap.size by omega))
                  have HO4 := hide (only_setRow (vs := #[.int .i64 (z.size : Int), .int .i64 (k : Int), .string cs, .int .i64 tv, .string (bytes ha), .string (bytes hb)]) HWx.out.o (Nat.le_refl _))
                  refine wpList_plain rfl (fun K hK => ?_)
                  refine wp_store_row 29 (.tmp 3) (.tmp 99) rfl (W.heap.size + 1) #[.int .i64 0, .int .i64 0] rfl rfl 29 _ HQ4.out (by kernel_rfl) (by simp) (by simp [Value.oneCell']) ?_
                  refine hK _ _ ?_
                  clear hK K
                  have hO5 := only_setRow (g := W.heap.size + 1) (vs := #[.int .i64 0, .int .i64 0]) HO4.out (by omega)
                  have hP5 := setRow_far (g := W.heap.size + 1) (vs := #[.int .i64 0, .int .i64 0]) HP4.out (show W.heap.size ≠ W.heap.size + 1 by omega)
                  have hQ5 := setRow_blk2 (vs := #[.int .i64 0, .int .i64 0]) HQ4.out
                  obtain ⟨z0, z1, z2, z3, z4, z5, -⟩ := hP5.six_
                  obtain ⟨q0, q1, -⟩ := hQ5.two_
                  go_wp2_with fail
                  refine bodyPost_ret (v := .tuple #[.agg #[.int .i64 (z.size : Int), .int .i64 (k : Int), .string cs, .int .i64 tv, .string (bytes ha), .string (bytes hb)], .agg #[.int .i64 0, .int .i64 0]]) (by simp [results, Tryd.results9, go_sem, z0, z1, z2, z3, z4, z5, q0, q1]) rfl ⟨⟨⟨(z.size : Int), (k : Int), cs, tv, bytes ha, bytes hb⟩, 0, 0, .inr ⟨st, HFin.out.1, HFin.out.2.1, Hpq.out, rfl, rfl⟩, rfl⟩, hO5⟩
end Go.Proofs.YtcdfeaodfmfdnaaDoor
