/- board.Turned at right positions -/
import Derived.Test.YtfoehijlafooaaaBoardTurned
namespace Go.Proofs.Ytfoehijlafooaaa
open Go.RowKit

set_option maxHeartbeats 4000000 in
set_option maxRecDepth 100000 in
theorem turned_false (w h : Nat) (t : Int) (c h0 h1 : ByteArray) (W : World) (hp : PosOk ⟨w, h, c, t, h0, h1⟩) (k : Nat) (hk : k < 8) (hs : sBit k = false) :
    Calls Try.prog 18 #[.agg #[.int .i64 w, .int .i64 h, .string c, .int .i64 t, .string h0, .string h1], .int .i64 k] W fun e w' => e = .returned (.tuple #[posV (turnP ⟨w, h, c, t, h0, h1⟩ k), .int .i64 0]) ∧ Below W.heap.size W w' := by
  have hsz := hp.size
  have hw1 := hp.w1
  have hw8 := hp.w8
  have hh1 := hp.h1
  have hh8 := hp.h8
  have hlen := hp.len
  simp only [Int.toNat_natCast] at hsz hw1 hw8 hh1 hh8 hlen
  have hm := mul_in hw1 hw8 hh1 hh8
  have l0 : h0.size ≤ 9223372036854775807 := by have := (handB_true.1 hp.hand0).1; have e : h0.data.toList.length = h0.size := rfl; simp only at this; omega
  have l1 : h1.size ≤ 9223372036854775807 := by have := (handB_true.1 hp.hand1).1; have e : h1.data.toList.length = h1.size := rfl; simp only at this; omega
  have hc9 : c.size ≤ 64 := by omega
  have Hc := hide fun W => chk_good w h t c h0 h1 W (by omega) l0 l1 hp
  obtain ⟨v4, hv4, hb4⟩ := and4 k hk
  obtain ⟨v1, hv1, hb1⟩ := and1 k hk
  obtain ⟨v2, hv2, hb2⟩ := and2 k hk
  have d1 : decide ((k : Int) < 0) = false := by simp
  have d2 : decide ((k : Int) > 7) = false := by simp; omega
  have Hlen := hide (show c.size = w * h from hlen)
  rw [hs] at hb4
  obtain ⟨a, ha⟩ : ∃ a, aBit k = a := ⟨_, rfl⟩
  obtain ⟨b, hb⟩ : ∃ b, bBit k = b := ⟨_, rfl⟩
  rw [ha] at hb1
  rw [hb] at hb2
  have Hfin := hide (show turnP ⟨w, h, c, t, h0, h1⟩ k = ⟨w, h, bytes (turnCells false a b w h c.data.toList), t, h0, h1⟩ by simp [turnP, hs, ha, hb])
  have Hb1 := hide hb1
  have Hb2 := hide hb2
  obtain ⟨i0, hi0, iz0, iz1, iz2⟩ := info_parts info_u8
  have hmk := fun W => run_make1 (P := Try.prog) 91 5 i0 (.int .u8 0) Try.underlying91 hi0 iz0 iz1 rfl .i64 .i64 c.size (by rw [iz2]; omega) (by omega) W
  clear hsz hlen hb1 hb2 hs hp hk ha hb hi0 iz0 iz1 iz2
  go_enter Try.func18, Try.ntmps18
  go_wp2_with fail
  refine (Hc.out _).mono ?_
  rintro e w1 ⟨rfl, hbw⟩
  have b0 := ((Blk.new W 36 #[.int .i64 w, .int .i64 h, .string c, .int .i64 t, .string h0, .string h1]).alloc (.cells #[.int .i64 0, .int .i64 0, .string ⟨#[]⟩, .int .i64 0, .string ⟨#[]⟩, .string ⟨#[]⟩] 36)).below hbw (by simp; omega)
  have b1 := (Blk.new (W.alloc (.cells #[.int .i64 w, .int .i64 h, .string c, .int .i64 t, .string h0, .string h1] 36)) 36 #[.int .i64 0, .int .i64 0, .string ⟨#[]⟩, .int .i64 0, .string ⟨#[]⟩, .string ⟨#[]⟩]).below hbw (by simp)
  simp only [World.size_alloc] at b1
  obtain ⟨⟨x0, x1, x2, x3, x4, x5⟩, _⟩ := b0.six
  have hz : W.heap.size + 1 < w1.heap.size := by have := hbw.size; simp at this; omega
  have hz0 : W.heap.size < w1.heap.size := by omega
  have hz2 : ¬ (W.heap.size = w1.heap.size + 1) := by omega
  have hz3 : ¬ (w1.heap.size + 1 = W.heap.size) := by omega
  have B0 := hide b0
  have B1 := hide b1
  have Hb := hide (((below_alloc_ (below_fresh W (.cells #[.int .i64 w, .int .i64 h, .string c, .int .i64 t, .string h0, .string h1] 36)) (Nat.le_refl _) (.cells #[.int .i64 0, .int .i64 0, .string ⟨#[]⟩, .int .i64 0, .string ⟨#[]⟩, .string ⟨#[]⟩] 36))).trans (hbw.mono (by simp; omega)))
  clear b0 b1 hbw
  go_wp2_with fail
  clear hmk
  go_loopw [41] (fun idx wr => ∃ i : Nat, i ≤ c.size ∧ idx = .int .i64 i ∧ Blk wr (w1.heap.size + 1) 5 (arrV c.size (scat false a b w h i c.data.toList)) ∧ Blk wr w1.heap.size 36 #[.int .i64 w, .int .i64 h, .string c, .int .i64 t, .string h0, .string h1] ∧ Only (fun _ => False) w1 wr) (fun idx _ => c.size - (intOf idx).toNat)
  case atStart =>
    refine ⟨0, by omega, rfl, ?_, ((Blk.new _ _ _).alloc _), ((Only.refl _ _).alloc _).alloc _⟩
    rw [← arrV_replicate c.size (scat false a b w h 0 c.data.toList) (.int .u8 0) (fun j _ => by unfold scat; rw [if_neg (by omega)])]
    simpa using Blk.new (w1.alloc (.cells #[.int .i64 w, .int .i64 h, .string c, .int .i64 t, .string h0, .string h1] 36)) 5 (Array.replicate c.size (.int .u8 0))
  case round =>
    rename World => wr
    obtain ⟨i, hi, rfl, hA, hO, hK⟩ := hrel
    have q0 := (B0.out.only hK id)
    obtain ⟨⟨x0, x1, x2, x3, x4, x5⟩, -⟩ := q0.six
    obtain ⟨⟨y0, y1, y2, y3, y4, y5⟩, y6, y7, y8, y9, y10, y11⟩ := hO.six
    have HA := hide hA
    have HO := hide hO
    have HK := hide hK
    clear hA hO hK q0
    by_cases hlt : i < c.size
    · have hi2 : i < w * h := by have := Hlen.out; omega
      have hxl := col_lt hi2
      have hyl := row_lt hi2
      have hDn : dstI false a b w h i < c.size := by have := dstI_lt (s := false) (a := a) (b := b) hi2; have := Hlen.out; omega
      have f1 := HA.out.cellv (i := dstI false a b w h i) (arrV_get hDn)
      have f2 := HA.out.free (dstI false a b w h i)
      have Hset := hide (scat_set (s := false) (a := a) (b := b) (l := c.data.toList) (i := i) Hlen.out hlt)
      obtain ⟨x, hx⟩ : ∃ x, i % w = x := ⟨_, rfl⟩
      obtain ⟨y, hy⟩ : ∃ y, i / w = y := ⟨_, rfl⟩
      rw [hx] at hxl
      rw [hy] at hyl
      have ex : (i : Int) % (w : Int) = (x : Int) := by rw [← hx]; rfl
      have ey : (i : Int) / (w : Int) = (y : Int) := by rw [← hy]; rfl
      have ez : ((w : Int) == 0) = false := by simp; omega
      have j1 : (0 : Int) ≤ (i : Int) := by omega
      have j2 : (i : Int) < (c.size : Int) := by omega
      have hD0 : dstI false a b w h i = flipN b h y * w + flipN a w x := by simp [dstI, hx, hy, oW, oH]
      have hX := flipN_lt (f := a) hxl
      have hY := flipN_lt (f := b) hyl
      obtain ⟨X, hXe⟩ : ∃ X, flipN a w x = X := ⟨_, rfl⟩
      obtain ⟨Y, hYe⟩ : ∃ Y, flipN b h y = Y := ⟨_, rfl⟩
      rw [hXe] at hX hD0
      rw [hYe] at hY hD0
      obtain ⟨D, hD⟩ : ∃ D, dstI false a b w h i = D := ⟨_, rfl⟩
      have Hset2 : Hid ((arrV c.size (scat false a b w h i c.data.toList)).setIfInBounds D (.int .u8 (c[i].toNat : Int)) = arrV c.size (scat false a b w h (i + 1) c.data.toList)) := hide (by rw [← hD]; exact Hset.out)
      rw [hD] at f1 f2 hDn hD0
      have m1 : (Y : Int) * (w : Int) + (X : Int) = (D : Int) := by rw [hD0]; simp
      have m2 : 0 ≤ (Y : Int) * (w : Int) := Int.mul_nonneg (by omega) (by omega)
      have m3 : (Y : Int) * (w : Int) ≤ 64 := by omega
      have m6 : IntKind.i64.wrap ((Y : Int) * (w : Int)) = (Y : Int) * (w : Int) := IntWalk.i64_in _ (by omega)
      have m7 : IntKind.i64.wrap (D : Int) = (D : Int) := IntWalk.i64_in _ (by omega)
      have m4 : (0 : Int) ≤ (D : Int) := by omega
      have m5 : (D : Int) < (c.size : Int) := by omega
      clear hx hy hD hD0 Hset hi2
      cases a
      · cases b
        · have e1 := Hb1.out
          have e2 := Hb2.out
          obtain rfl : x = X := by simpa [flipN] using hXe
          obtain rfl : y = Y := by simpa [flipN] using hYe
          clear hXe hYe
          go_wp2_with fail
          go_quiet (fail)
          go_wp2_with fail
          try simp only [ex]
          go_region_held3 (fun w' => w'.cell? ⟨w1.heap.size, 0, none⟩ = some (.int .i64 w) ∧ w'.cell? ⟨W.heap.size, 2, none⟩ = some (.string c)) (first | exact ⟨y0, x2⟩ | go_keep) (fail)
          go_wp2_with fail
          go_roundw
          case rel => exact ⟨i + 1, by omega, by go_num, by rw [← Hset2.out]; exact (HA.out.drewN _).set_ D _, (HO.out.drewN _).far (by simp) _, (HK.out.drewN _).setCell (.inr (by simp)) _⟩
          case measure => simp [intOf]; omega
        · have e1 := Hb1.out
          have e2 := Hb2.out
          obtain rfl : x = X := by simpa [flipN] using hXe
          have n2 : (h : Int) - 1 - (y : Int) = (Y : Int) := by simp [flipN] at hYe; omega
          clear hXe hYe
          go_wp2_with fail
          go_quiet (fail)
          go_wp2_with fail
          try simp only [ex]
          go_region_held3 (fun w' => w'.cell? ⟨w1.heap.size, 0, none⟩ = some (.int .i64 w) ∧ w'.cell? ⟨W.heap.size, 2, none⟩ = some (.string c)) (first | exact ⟨y0, x2⟩ | go_keep) (fail)
          go_wp2_with fail
          go_roundw
          case rel => exact ⟨i + 1, by omega, by go_num, by rw [← Hset2.out]; exact (HA.out.drewN _).set_ D _, (HO.out.drewN _).far (by simp) _, (HK.out.drewN _).setCell (.inr (by simp)) _⟩
          case measure => simp [intOf]; omega
      · cases b
        · have e1 := Hb1.out
          have e2 := Hb2.out
          have n1 : (w : Int) - 1 - (x : Int) = (X : Int) := by simp [flipN] at hXe; omega
          obtain rfl : y = Y := by simpa [flipN] using hYe
          clear hXe hYe
          go_wp2_with fail
          go_quiet (fail)
          go_wp2_with fail
          try simp only [ex]
          go_region_held3 (fun w' => w'.cell? ⟨w1.heap.size, 0, none⟩ = some (.int .i64 w) ∧ w'.cell? ⟨W.heap.size, 2, none⟩ = some (.string c)) (first | exact ⟨y0, x2⟩ | go_keep) (fail)
          go_wp2_with fail
          go_roundw
          case rel => exact ⟨i + 1, by omega, by go_num, by rw [← Hset2.out]; exact (HA.out.drewN _).set_ D _, (HO.out.drewN _).far (by simp) _, (HK.out.drewN _).setCell (.inr (by simp)) _⟩
          case measure => simp [intOf]; omega
        · have e1 := Hb1.out
          have e2 := Hb2.out
          have n1 : (w : Int) - 1 - (x : Int) = (X : Int) := by simp [flipN] at hXe; omega
          have n2 : (h : Int) - 1 - (y : Int) = (Y : Int) := by simp [flipN] at hYe; omega
          clear hXe hYe
          go_wp2_with fail
          go_quiet (fail)
          go_wp2_with fail
          try simp only [ex]
          go_region_held3 (fun w' => w'.cell? ⟨w1.heap.size, 0, none⟩ = some (.int .i64 w) ∧ w'.cell? ⟨W.heap.size, 2, none⟩ = some (.string c)) (first | exact ⟨y0, x2⟩ | go_keep) (fail)
          go_wp2_with fail
          go_roundw
          case rel => exact ⟨i + 1, by omega, by go_num, by rw [← Hset2.out]; exact (HA.out.drewN _).set_ D _, (HO.out.drewN _).far (by simp) _, (HK.out.drewN _).setCell (.inr (by simp)) _⟩
          case measure => simp [intOf]; omega
    · obtain rfl : i = c.size := by omega
      obtain ⟨S, hS⟩ : ∃ S : ByteArray, bytes (turnCells false a b w h c.data.toList) = S := ⟨_, rfl⟩
      have hcv : (convert 91 9 (.slice (some ⟨w1.heap.size + 1, 0, none⟩) c.size c.size)).run Try.prog wr = .ok (.string S) wr := by
        have := run_convert_bytes_back (P := Try.prog) wr 91 9 5 ⟨w1.heap.size + 1, 0, none⟩ c.size (turnCells false a b w h c.data.toList) Try.underlying91 Try.underlying5 Try.underlying9 (fun j hj => by
          rw [turnCells_len] at hj
          rw [Addr.add_lit, Nat.zero_add, HA.out.cellv (arrV_get (by have : c.data.toList.length = c.size := rfl; omega)), scat_done Hlen.out rfl hj])
        rw [turnCells_len] at this
        rw [← hS]
        exact this
      have HS := hide hS
      have b1 := B1.out.only HK.out id
      obtain ⟨⟨r0, r1, r2, r3, r4, r5⟩, r6, r7, r8, r9, r10, r11⟩ := b1.six
      clear hS b1
      go_wp2_with fail
      refine bodyPost_ret (v := .tuple #[.agg #[.int .i64 w, .int .i64 h, .string S, .int .i64 t, .string h0, .string h1], .int .i64 0]) (by simp [results, Try.results18, go_sem, r0, r1, r2, r3, r4, r5]) rfl ⟨by rw [Hfin.out, ← HS.out]; rfl, ?_⟩
      have hB := Hb.out.trans ((HK.out.below_ (B := w1.heap.size) (fun _ h => h.elim) (Nat.le_refl _)).mono (by omega))
      have hgo : W.heap.size ≤ w1.heap.size := by omega
      repeat (first | with_reducible exact hB | with_reducible refine below_drew_ ?_ | with_reducible refine below_set1 ?_ _ _ _ | with_reducible refine Below.setCell ?_ (p := ⟨w1.heap.size, _, none⟩) hgo _)
end Go.Proofs.Ytfoehijlafooaaa
