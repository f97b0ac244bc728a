/- gameref.Round at right positions -/
import Derived.Test.YtfoehijlafooaaaBoardRoundA
namespace Go.Proofs.Ytfoehijlafooaaa
open Go.RowKit

set_option maxHeartbeats 4000000 in
set_option maxRecDepth 100000 in
theorem round_true (w h : Nat) (t : Int) (c h0 h1 : ByteArray) (W : World) (hp : PosOk ⟨w, h, c, t, h0, h1⟩) (k : Nat) (hk : k < 8) (hs : sBit k = true) :
    Calls Try.prog 23 #[.agg #[.int .i64 w, .int .i64 h, .string c, .int .i64 t, .string h0, .string h1], .int .i64 k] W fun e w' => e = .returned (posV (turnP ⟨w, h, c, t, h0, h1⟩ k)) ∧ Below W.heap.size W w' := by
  have hsz := hp.size
  have hw1 := hp.w1
  have hw8 := hp.w8
  have hh1 := hp.h1
  have hh8 := hp.h8
  have hlen := hp.len
  simp only [Int.toNat_natCast] at hsz hw1 hw8 hh1 hh8 hlen
  have hm := mul_in hw1 hw8 hh1 hh8
  have hc9 : c.size ≤ 64 := by omega
  have d4 : ((k : Int) / 4 % 2 == 1) = true := by rw [← hs]; exact bit_eq _
  obtain ⟨a, ha⟩ : ∃ a, aBit k = a := ⟨_, rfl⟩
  obtain ⟨b, hb⟩ : ∃ b, bBit k = b := ⟨_, rfl⟩
  have hb2 : ((k : Int) / 2 % 2 == 1) = b := by rw [← hb]; exact bit_eq _
  have hb1 : ((k : Int) % 2 == 1) = a := by rw [← ha]; exact bit_eq k
  have Hlen := hide (show c.size = w * h from hlen)
  have Hfin := hide (show turnP ⟨w, h, c, t, h0, h1⟩ k = ⟨h, w, bytes (turnCells true a b w h c.data.toList), t, h0, h1⟩ by simp [turnP, hs, ha, hb])
  have Hb1 := hide hb1
  have Hb2 := hide hb2
  obtain ⟨i0, hi0, iz0, iz1, iz2⟩ := info_parts info_u8
  have hmk := fun W => run_make0 (P := Try.prog) 91 5 i0 (.int .u8 0) Try.underlying91 hi0 iz0 iz1 rfl .i64 .i64 c.size (by rw [iz2]; omega) (by omega) W
  have HJ := hide (And.intro hi0 (And.intro iz0 (And.intro iz1 iz2)))
  have hk8 : (k : Int) < 8 := by omega
  clear hsz hlen hb1 hb2 hs hp hk ha hb hi0 iz0 iz1 iz2
  go_enter Try.func23, Try.ntmps23
  go_wp2_with fail
  go_region
  go_wp2_with fail
  clear hmk
  go_loopw [6, 7] (fun cv idx wr => ∃ i : Nat, i ≤ c.size ∧ idx = .int .i64 i ∧ wr.ownsRow (W.heap.size + 3) 5 1 cv i (bvals ((turnCells true a b w h c.data.toList).take i)) ∧ Blk wr W.heap.size 36 #[.int .i64 w, .int .i64 h, .string c, .int .i64 t, .string h0, .string h1] ∧ Blk wr (W.heap.size + 1) 36 #[.int .i64 0, .int .i64 0, .string ⟨#[]⟩, .int .i64 0, .string ⟨#[]⟩, .string ⟨#[]⟩] ∧ Blk wr (W.heap.size + 2) 36 #[.int .i64 h, .int .i64 w, .string c, .int .i64 t, .string h0, .string h1] ∧ W.heap.size + 3 ≤ wr.heap.size ∧ Below W.heap.size W wr) (fun _ idx _ => c.size - (intOf idx).toNat)
  case atStart =>
    refine ⟨0, by omega, rfl, ownsRow_drew0 ⟨by simp [bvals], .inr ⟨W.heap.size + 1 + 1 + 1, c.size, Array.replicate c.size (.int .u8 0), rfl, by omega, ?_, by omega, by unfold maxLen; omega, by simp, by simp [bvals]⟩⟩, ?_, ?_, ?_, by simp, ?_⟩
    · exact show Blk ((((W.alloc (.cells #[.int .i64 w, .int .i64 h, .string c, .int .i64 t, .string h0, .string h1] 36)).alloc (.cells #[.int .i64 0, .int .i64 0, .string ⟨#[]⟩, .int .i64 0, .string ⟨#[]⟩, .string ⟨#[]⟩] 36)).alloc (.cells #[.int .i64 h, .int .i64 w, .string c, .int .i64 t, .string h0, .string h1] 36)).alloc (.cells (Array.replicate c.size (.int .u8 0)) 5)) (W.heap.size + 1 + 1 + 1) 5 (Array.replicate c.size (.int .u8 0)) from by simpa using Blk.new (((W.alloc (.cells #[.int .i64 w, .int .i64 h, .string c, .int .i64 t, .string h0, .string h1] 36)).alloc (.cells #[.int .i64 0, .int .i64 0, .string ⟨#[]⟩, .int .i64 0, .string ⟨#[]⟩, .string ⟨#[]⟩] 36)).alloc (.cells #[.int .i64 h, .int .i64 w, .string c, .int .i64 t, .string h0, .string h1] 36)) 5 (Array.replicate c.size (.int .u8 0))
    · refine Blk.drew ?_; exact (((Blk.new W _ _).alloc _).alloc _).alloc _
    · refine Blk.drew ?_; simpa using (((Blk.new (W.alloc (.cells #[.int .i64 w, .int .i64 h, .string c, .int .i64 t, .string h0, .string h1] 36)) 36 #[.int .i64 0, .int .i64 0, .string ⟨#[]⟩, .int .i64 0, .string ⟨#[]⟩, .string ⟨#[]⟩]).alloc (.cells #[.int .i64 h, .int .i64 w, .string c, .int .i64 t, .string h0, .string h1] 36)).alloc (.cells (Array.replicate c.size (.int .u8 0)) 5))
    · refine Blk.drew ?_; simpa using ((Blk.new ((W.alloc (.cells #[.int .i64 w, .int .i64 h, .string c, .int .i64 t, .string h0, .string h1] 36)).alloc (.cells #[.int .i64 0, .int .i64 0, .string ⟨#[]⟩, .int .i64 0, .string ⟨#[]⟩, .string ⟨#[]⟩] 36)) 36 #[.int .i64 h, .int .i64 w, .string c, .int .i64 t, .string h0, .string h1]).alloc (.cells (Array.replicate c.size (.int .u8 0)) 5))
    · refine below_drew_ ?_; exact below_alloc0 (below_alloc0 (below_alloc0 (below_fresh W _) _) _) _
  case round =>
    rename World => wr
    obtain ⟨i, hi, rfl, hown, hP, hZ, hO, hsz, hbl⟩ := hrel
    obtain ⟨⟨x0, x1, x2, x3, x4, x5⟩, -⟩ := hP.six
    obtain ⟨⟨y0, y1, y2, y3, y4, y5⟩, y6, y7, y8, y9, y10, y11⟩ := hO.six
    have HO := hide hO
    have HP := hide hP
    have HZ := hide hZ
    have Hown := hide hown
    have Hbl := hide hbl
    clear hown hP hO hZ hbl
    by_cases hlt : i < c.size
    · have hi2 : i < w * h := by have := Hlen.out; omega
      have hi3 : i < h * w := by have := Hlen.out; rw [Nat.mul_comm]; omega
      have hxl := col_lt hi3
      have hyl := row_lt hi3
      have hSn : srcI true a b w h i < c.size := by have := srcI_lt (s := true) (a := a) (b := b) hi2; have := Hlen.out; omega
      have hnext : (turnCells true a b w h c.data.toList).take (i + 1) = (turnCells true a b w h c.data.toList).take i ++ [c.data.toList[srcI true a b w h i]'hSn] := by
        rw [List.take_succ_eq_append_getElem (by rw [turnCells_len]; exact hlt), turnCells_get Hlen.out hlt]
      obtain ⟨x, hx⟩ : ∃ x, i % h = x := ⟨_, rfl⟩
      obtain ⟨y, hy⟩ : ∃ y, i / h = y := ⟨_, rfl⟩
      rw [hx] at hxl
      rw [hy] at hyl
      have ex : (i : Int) % (h : Int) = (x : Int) := by rw [← hx]; rfl
      have ey : (i : Int) / (h : Int) = (y : Int) := by rw [← hy]; rfl
      have ez : ((h : Int) == 0) = false := by simp; omega
      have j1 : (0 : Int) ≤ (i : Int) := by omega
      have j2 : (i : Int) < (c.size : Int) := by omega
      have hX := flipN_lt (f := a) hxl
      have hY := flipN_lt (f := b) hyl
      obtain ⟨X, hXe⟩ : ∃ X, flipN a h x = X := ⟨_, rfl⟩
      obtain ⟨Y, hYe⟩ : ∃ Y, flipN b w y = Y := ⟨_, rfl⟩
      have hD0 : srcI true a b w h i = X * w + Y := by simp [srcI, hx, hy, oW, oH, hXe, hYe]
      rw [hXe] at hX
      rw [hYe] at hY
      obtain ⟨D, hD⟩ : ∃ D, srcI true a b w h i = D := ⟨_, rfl⟩
      have Hnext : Hid (∀ hD : D < c.data.toList.length, (turnCells true a b w h c.data.toList).take (i + 1) = (turnCells true a b w h c.data.toList).take i ++ [c.data.toList[D]]) := hide (by subst hD; intro _; exact hnext)
      rw [hD] at hSn hD0
      have m1 : (X : Int) * (w : Int) + (Y : Int) = (D : Int) := by rw [hD0]; simp
      have m2 : 0 ≤ (X : Int) * (w : Int) := Int.mul_nonneg (by omega) (by omega)
      have m3 : (X : Int) * (w : Int) ≤ 64 := by omega
      have m6 : IntKind.i64.wrap ((X : Int) * (w : Int)) = (X : Int) * (w : Int) := IntWalk.i64_in _ (by omega)
      have m7 : IntKind.i64.wrap (D : Int) = (D : Int) := IntWalk.i64_in _ (by omega)
      have m4 : (0 : Int) ≤ (D : Int) := by omega
      have m5 : (D : Int) < (c.size : Int) := by omega
      obtain ⟨cb, hcb⟩ : ∃ cb : UInt8, c[D] = cb := ⟨_, rfl⟩
      have Hnx := hide (show (turnCells true a b w h c.data.toList).take (i + 1) = (turnCells true a b w h c.data.toList).take i ++ [cb] by rw [← hcb]; exact Hnext.out hSn)
      have Hap := hide (Hown.out.alloc (.cells #[.int .u8 (cb.toNat : Int)] 5))
      have Hcell := hide (show (wr.alloc (.cells #[.int .u8 (cb.toNat : Int)] 5)).cell? ⟨wr.heap.size, 0, none⟩ = some (.int .u8 (cb.toNat : Int)) by simp [go_sem])
      clear Hnext hx hy hD hD0 hnext hi2 hi3
      cases a
      · cases b
        · have e1 := Hb1.out
          have e2 := Hb2.out
          obtain rfl : x = X := by simpa [flipN] using hXe
          obtain rfl : y = Y := by simpa [flipN] using hYe
          clear hXe hYe
          go_wp2_with fail
          go_quiet (fail)
          try simp only [ex]
          go_wp2_with (at_builtin; refine wpList_append1 _ rfl (.tmp 63) (.tmp 73) 91 rfl (W.heap.size + 3) 5 i0 (.int .u8 0) 1 Try.underlying91 HJ.out.1 HJ.out.2.1 HJ.out.2.2.1 HJ.out.2.2.2 rfl _ i _ rfl Hap.out (.int .u8 (cb.toNat : Int)) wr.heap.size rfl Hcell.out rfl ?h1 ?h2 ?h3 ?_)
          case h1 => unfold maxLen; omega
          case h2 => omega
          case h3 => first | omega | (simp; omega)
          intro v3 w3 hown3 hO3
          have hOt : Only (fun k => W.heap.size + 3 ≤ k) wr w3 := (((Only.refl _ wr).drewN nq).alloc _).trans hO3
          have Hown3 := hide hown3
          have HOt := hide hOt
          clear hown3 hO3 hOt Hap Hcell
          go_wp2_with fail
          go_roundw
          case rel => exact ⟨i + 1, by omega, by go_num, by rw [Hnx.out, bvals_app]; exact Hown3.out, HP.out.only HOt.out (by omega), HZ.out.only HOt.out (by omega), HO.out.only HOt.out (by omega), Nat.le_trans hsz HOt.out.size, Hbl.out.trans ((HOt.out.below_ (fun _ h => h) hsz).mono (by omega))⟩
          case measure => simp [intOf]; omega
        · have e1 := Hb1.out
          have e2 := Hb2.out
          obtain rfl : x = X := by simpa [flipN] using hXe
          have n2 : (w : Int) - 1 - (y : Int) = (Y : Int) := by simp [flipN] at hYe; omega
          clear hXe hYe
          go_wp2_with fail
          go_quiet (fail)
          try simp only [ex]
          go_wp2_with (at_builtin; refine wpList_append1 _ rfl (.tmp 63) (.tmp 73) 91 rfl (W.heap.size + 3) 5 i0 (.int .u8 0) 1 Try.underlying91 HJ.out.1 HJ.out.2.1 HJ.out.2.2.1 HJ.out.2.2.2 rfl _ i _ rfl Hap.out (.int .u8 (cb.toNat : Int)) wr.heap.size rfl Hcell.out rfl ?h1 ?h2 ?h3 ?_)
          case h1 => unfold maxLen; omega
          case h2 => omega
          case h3 => first | omega | (simp; omega)
          intro v3 w3 hown3 hO3
          have hOt : Only (fun k => W.heap.size + 3 ≤ k) wr w3 := (((Only.refl _ wr).drewN nq).alloc _).trans hO3
          have Hown3 := hide hown3
          have HOt := hide hOt
          clear hown3 hO3 hOt Hap Hcell
          go_wp2_with fail
          go_roundw
          case rel => exact ⟨i + 1, by omega, by go_num, by rw [Hnx.out, bvals_app]; exact Hown3.out, HP.out.only HOt.out (by omega), HZ.out.only HOt.out (by omega), HO.out.only HOt.out (by omega), Nat.le_trans hsz HOt.out.size, Hbl.out.trans ((HOt.out.below_ (fun _ h => h) hsz).mono (by omega))⟩
          case measure => simp [intOf]; omega
      · cases b
        · have e1 := Hb1.out
          have e2 := Hb2.out
          have n1 : (h : Int) - 1 - (x : Int) = (X : Int) := by simp [flipN] at hXe; omega
          obtain rfl : y = Y := by simpa [flipN] using hYe
          clear hXe hYe
          go_wp2_with fail
          go_quiet (fail)
          try simp only [ex]
          go_wp2_with (at_builtin; refine wpList_append1 _ rfl (.tmp 63) (.tmp 73) 91 rfl (W.heap.size + 3) 5 i0 (.int .u8 0) 1 Try.underlying91 HJ.out.1 HJ.out.2.1 HJ.out.2.2.1 HJ.out.2.2.2 rfl _ i _ rfl Hap.out (.int .u8 (cb.toNat : Int)) wr.heap.size rfl Hcell.out rfl ?h1 ?h2 ?h3 ?_)
          case h1 => unfold maxLen; omega
          case h2 => omega
          case h3 => first | omega | (simp; omega)
          intro v3 w3 hown3 hO3
          have hOt : Only (fun k => W.heap.size + 3 ≤ k) wr w3 := (((Only.refl _ wr).drewN nq).alloc _).trans hO3
          have Hown3 := hide hown3
          have HOt := hide hOt
          clear hown3 hO3 hOt Hap Hcell
          go_wp2_with fail
          go_roundw
          case rel => exact ⟨i + 1, by omega, by go_num, by rw [Hnx.out, bvals_app]; exact Hown3.out, HP.out.only HOt.out (by omega), HZ.out.only HOt.out (by omega), HO.out.only HOt.out (by omega), Nat.le_trans hsz HOt.out.size, Hbl.out.trans ((HOt.out.below_ (fun _ h => h) hsz).mono (by omega))⟩
          case measure => simp [intOf]; omega
        · have e1 := Hb1.out
          have e2 := Hb2.out
          have n1 : (h : Int) - 1 - (x : Int) = (X : Int) := by simp [flipN] at hXe; omega
          have n2 : (w : Int) - 1 - (y : Int) = (Y : Int) := by simp [flipN] at hYe; omega
          clear hXe hYe
          go_wp2_with fail
          go_quiet (fail)
          try simp only [ex]
          go_wp2_with (at_builtin; refine wpList_append1 _ rfl (.tmp 63) (.tmp 73) 91 rfl (W.heap.size + 3) 5 i0 (.int .u8 0) 1 Try.underlying91 HJ.out.1 HJ.out.2.1 HJ.out.2.2.1 HJ.out.2.2.2 rfl _ i _ rfl Hap.out (.int .u8 (cb.toNat : Int)) wr.heap.size rfl Hcell.out rfl ?h1 ?h2 ?h3 ?_)
          case h1 => unfold maxLen; omega
          case h2 => omega
          case h3 => first | omega | (simp; omega)
          intro v3 w3 hown3 hO3
          have hOt : Only (fun k => W.heap.size + 3 ≤ k) wr w3 := (((Only.refl _ wr).drewN nq).alloc _).trans hO3
          have Hown3 := hide hown3
          have HOt := hide hOt
          clear hown3 hO3 hOt Hap Hcell
          go_wp2_with fail
          go_roundw
          case rel => exact ⟨i + 1, by omega, by go_num, by rw [Hnx.out, bvals_app]; exact Hown3.out, HP.out.only HOt.out (by omega), HZ.out.only HOt.out (by omega), HO.out.only HOt.out (by omega), Nat.le_trans hsz HOt.out.size, Hbl.out.trans ((HOt.out.below_ (fun _ h => h) hsz).mono (by omega))⟩
          case measure => simp [intOf]; omega
    · obtain rfl : i = c.size := by omega
      have h0 : 0 < c.size := by
        have : 0 < w * h := Nat.mul_pos (by omega) (by omega)
        have := Hlen.out
        omega
      obtain ⟨S, hS⟩ : ∃ S : ByteArray, bytes (turnCells true a b w h c.data.toList) = S := ⟨_, rfl⟩
      have ht : (turnCells true a b w h c.data.toList).take c.size = turnCells true a b w h c.data.toList := List.take_of_length_le (by rw [turnCells_len]; exact Nat.le_refl _)
      obtain ⟨g, cap, rfl, hcv⟩ := own_convert (P := Try.prog) 91 9 5 Try.underlying91 Try.underlying5 Try.underlying9 (by rw [ht] at Hown; exact Hown.out) (by rw [turnCells_len]; rfl) h0
      rw [hS] at hcv
      have HS := hide hS
      obtain ⟨⟨r0, r1, r2, r3, r4, r5⟩, r6, r7, r8, r9, r10, r11⟩ := HZ.out.six
      clear hS ht h0
      go_wp2_with fail
      refine bodyPost_ret (v := .agg #[.int .i64 h, .int .i64 w, .string S, .int .i64 t, .string h0, .string h1]) (by simp [results, Try.results23, go_sem, r0, r1, r2, r3, r4, r5]) rfl ⟨by rw [Hfin.out, ← HS.out]; rfl, ?_⟩
      repeat (first | with_reducible exact Hbl.out | with_reducible refine below_drew_ ?_ | with_reducible refine below_setg ?_ (by omega) _)
end Go.Proofs.Ytfoehijlafooaaa
