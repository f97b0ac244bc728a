/- gameref.Exchanged at right positions -/
import Derived.Test.YtfoehijlafooaaaBoardSwap
namespace Go.Proofs.Ytfoehijlafooaaa
open Go.RowKit

theorem bytes_append (a b : List UInt8) : bytes a ++ bytes b = bytes (a ++ b) := by
  apply bytes_eq
  show (bytes a ++ bytes b).data.toList = a ++ b
  simp [bytes]

set_option maxHeartbeats 4000000 in
set_option maxRecDepth 100000 in
theorem exch_in (w h : Nat) (t : Int) (c h0 h1 : ByteArray) (W : World) (hp : PosOk ⟨w, h, c, t, h0, h1⟩) :
    Calls Try.prog 22 #[.agg #[.int .i64 w, .int .i64 h, .string c, .int .i64 t, .string h0, .string h1]] W fun e w' => e = .returned (posV (exchP ⟨w, h, c, t, h0, h1⟩)) ∧ Below W.heap.size W w' := by
  have Ht := hide fun W => round_in w h t c h0 h1 W hp 2 (by omega)
  obtain ⟨C, hC⟩ : ∃ C, (turnP ⟨w, h, c, t, h0, h1⟩ 2).cells = C := ⟨_, rfl⟩
  have hq : turnP ⟨w, h, c, t, h0, h1⟩ 2 = ⟨w, h, C, t, h0, h1⟩ := by rw [← hC]; rfl
  have hqo := turn_ok hp 2
  rw [hq] at Ht hqo
  have hC64 : C.size ≤ 64 := by
    have h1 := hqo.size
    have h2 := mul_in hqo.w1 hqo.w8 hqo.h1 hqo.h8
    simp only at h1 h2
    omega
  have ht0 := hp.t0
  have ht1 := hp.t1
  simp only at ht0 ht1
  have Hfin := hide (show exchP ⟨w, h, c, t, h0, h1⟩ = ⟨w, h, bytes (otherL C.data.toList), 1 - t, h1, h0⟩ by simp [exchP, hC])
  have Hbig := hide fun n W => big_any n W
  have Hsm := hide fun n W => small_any n W
  clear hp hqo hC hq
  go_enter Try.func22, Try.ntmps22
  go_wp2_with fail
  refine (Ht.out _).mono ?_
  rintro e w1 ⟨rfl, hb1⟩
  simp only [posV]
  have b0 := ((Blk.new W 36 #[.int .i64 w, .int .i64 h, .string c, .int .i64 t, .string h0, .string h1]).alloc (.cells #[.int .i64 0, .int .i64 0, .string ⟨#[]⟩, .int .i64 0, .string ⟨#[]⟩, .string ⟨#[]⟩] 36)).below hb1 (by simp; omega)
  have b1 := (Blk.new (W.alloc (.cells #[.int .i64 w, .int .i64 h, .string c, .int .i64 t, .string h0, .string h1] 36)) 36 #[.int .i64 0, .int .i64 0, .string ⟨#[]⟩, .int .i64 0, .string ⟨#[]⟩, .string ⟨#[]⟩]).below hb1 (by simp)
  simp only [World.size_alloc] at b1
  have B0 := hide (b0.alloc (.cells #[.int .i64 w, .int .i64 h, .string C, .int .i64 t, .string h0, .string h1] 36))
  have B1 := hide (b1.alloc (.cells #[.int .i64 w, .int .i64 h, .string C, .int .i64 t, .string h0, .string h1] 36))
  have B2 := hide (Blk.new w1 36 #[.int .i64 w, .int .i64 h, .string C, .int .i64 t, .string h0, .string h1])
  have hz : W.heap.size + 1 < w1.heap.size := by have := hb1.size; simp at this; omega
  have Hb := hide (below_alloc0 ((below_alloc0 (below_fresh W (.cells #[.int .i64 w, .int .i64 h, .string c, .int .i64 t, .string h0, .string h1] 36)) (.cells #[.int .i64 0, .int .i64 0, .string ⟨#[]⟩, .int .i64 0, .string ⟨#[]⟩, .string ⟨#[]⟩] 36)).trans (hb1.mono (by simp; omega))) (.cells #[.int .i64 w, .int .i64 h, .string C, .int .i64 t, .string h0, .string h1] 36))
  clear hb1 b0 b1
  go_upto_region 2 with (fail)
  generalize w1.alloc (.cells #[.int .i64 w, .int .i64 h, .string C, .int .i64 t, .string h0, .string h1] 36) = w2 at *
  generalize w1.heap.size = g at *
  go_wp2_with fail
  go_loopw [4, 5] (fun sv idx wr => ∃ i : Nat, i ≤ C.size ∧ idx = .int .i64 i ∧ sv = .string (bytes ((otherL C.data.toList).take i)) ∧ Only (fun _ => False) w2 wr) (fun _ idx _ => C.size - (intOf idx).toNat)
  case atStart => exact ⟨0, by omega, rfl, rfl, Only.refl _ _⟩
  case round =>
    rename World => wr
    obtain ⟨i, hi, rfl, rfl, hK⟩ := hrel
    have c0 := B0.out.only hK id
    have c1 := B1.out.only hK id
    have c2 := B2.out.only hK id
    obtain ⟨⟨x0, x1, x2, x3, x4, x5⟩, x6, x7, x8, x9, x10, x11⟩ := c2.six
    have HK := hide hK
    have C0 := hide c0
    have C1 := hide c1
    clear hK c0 c1 c2
    by_cases hlt : i < C.size
    · have hl : i < C.data.toList.length := hlt
      have j1 : (0 : Int) ≤ (i : Int) := by omega
      have j2 : (i : Int) < (C.size : Int) := by omega
      have hnx : (otherL C.data.toList).take (i + 1) = (otherL C.data.toList).take i ++ [(otherL C.data.toList)[i]'(by simpa [otherL] using hl)] := List.take_succ_eq_append_getElem _
      have hog := otherL_get hl
      obtain ⟨d, hd⟩ : ∃ d, (otherL C.data.toList)[i]'(by simpa [otherL] using hl) = d := ⟨_, rfl⟩
      rw [hd] at hnx hog
      obtain ⟨X, hX⟩ : ∃ X, bytes ((otherL C.data.toList).take i) = X := ⟨_, rfl⟩
      rw [hX]
      have Hnx := hide (show X ++ bytes [d] = bytes ((otherL C.data.toList).take (i + 1)) by rw [← hX, bytes_append, hnx])
      obtain ⟨cc, hcc⟩ : ∃ cc : UInt8, C[i]'hlt = cc := ⟨_, rfl⟩
      have hcc2 : C.data.toList[i] = cc := hcc
      rw [hcc2] at hog
      have hXs : X.size ≤ 64 := by rw [← hX, bytes_size]; have := List.length_take_le i (otherL C.data.toList); omega
      obtain ⟨Y, hY⟩ : ∃ Y, bytes [d] = Y := ⟨_, rfl⟩
      have hYs : Y.size ≤ 1 := by rw [← hY, bytes_size]; simp
      rw [hY] at Hnx
      have hcv : ∀ V : World, (convert 91 9 (.slice (some ⟨V.heap.size, 0, none⟩) 1 1)).run Try.prog (V.alloc (.cells #[.int .u8 (d.toNat : Int)] 5)) = .ok (.string Y) (V.alloc (.cells #[.int .u8 (d.toNat : Int)] 5)) := fun V => by
        have := run_convert_bytes_back (P := Try.prog) (V.alloc (.cells #[.int .u8 (d.toNat : Int)] 5)) 91 9 5 ⟨V.heap.size, 0, none⟩ 1 [d] Try.underlying91 Try.underlying5 Try.underlying9 (fun j hj => by
          simp only [List.length_cons, List.length_nil] at hj
          obtain rfl : j = 0 := by omega
          rw [Addr.add_lit, Nat.zero_add, (Blk.new V 5 #[.int .u8 (d.toNat : Int)]).cell]
          rfl)
        rw [← hY]
        exact this
      clear hX hnx hd hcc2 hY hl
      have hc256 : (cc.toNat : Int) < 256 := by have := cc.toNat_lt; omega
      have j3 : (0 : Int) ≤ (cc.toNat : Int) := by omega
      obtain ⟨u, hu⟩ : ∃ u, upB cc.toNat = u := ⟨_, rfl⟩
      obtain ⟨l, hl2⟩ : ∃ l, lowB cc.toNat = l := ⟨_, rfl⟩
      cases u
      · cases l
        · obtain rfl : d = cc := by
            apply UInt8.toNat_inj.1
            rw [hog]; simp [otherN, hu, hl2]
          clear hog
          go_wp2_with (first | (go_at_call 52; refine (Hbig.out _ _).mono ?_; rintro e w' ⟨rfl, rfl⟩) | (go_at_call 53; refine (Hsm.out _ _).mono ?_; rintro e w' ⟨rfl, rfl⟩) | fail)
          go_roundw
          case rel => exact ⟨i + 1, by omega, by go_num, by rw [← Hnx.out], HK.out.alloc _⟩
          case measure => simp [intOf]; omega
        · have hb := lowB_lt hl2
          have hb1 : (97 : Int) ≤ (cc.toNat : Int) := by omega
          have hdc : (cc.toNat : Int) - 32 = (d.toNat : Int) := by rw [hog]; simp [otherN, hu, hl2]; omega
          clear hog
          go_wp2_with (first | (go_at_call 52; refine (Hbig.out _ _).mono ?_; rintro e w' ⟨rfl, rfl⟩) | (go_at_call 53; refine (Hsm.out _ _).mono ?_; rintro e w' ⟨rfl, rfl⟩) | fail)
          go_roundw
          case rel => exact ⟨i + 1, by omega, by go_num, by rw [← Hnx.out], HK.out.alloc _⟩
          case measure => simp [intOf]; omega
      · have hb := upB_lt hu
        have hb1 : (cc.toNat : Int) ≤ 90 := by omega
        have hdc : (cc.toNat : Int) + 32 = (d.toNat : Int) := by rw [hog]; simp [otherN, hu]
        clear hog hl2
        go_wp2_with (first | (go_at_call 52; refine (Hbig.out _ _).mono ?_; rintro e w' ⟨rfl, rfl⟩) | (go_at_call 53; refine (Hsm.out _ _).mono ?_; rintro e w' ⟨rfl, rfl⟩) | fail)
        go_roundw
        case rel => exact ⟨i + 1, by omega, by go_num, by rw [← Hnx.out], HK.out.alloc _⟩
        case measure => simp [intOf]; omega
    · obtain rfl : i = C.size := by omega
      have hg3 : g < wr.heap.size := by have := HK.out.size; have := B2.out.lt; omega
      obtain ⟨⟨p0, p1, p2, p3, p4, p5⟩, -⟩ := C0.out.six
      obtain ⟨⟨r0, r1, r2, r3, r4, r5⟩, r6, r7, r8, r9, r10, r11⟩ := C1.out.six
      have hfull : (otherL C.data.toList).take C.size = otherL C.data.toList := List.take_of_length_le (by simp only [otherL, List.length_map]; exact Nat.le_refl _)
      rw [hfull]
      obtain ⟨S, hS⟩ : ∃ S : ByteArray, bytes (otherL C.data.toList) = S := ⟨_, rfl⟩
      rw [hS]
      have HS := hide hS
      have hzg : ¬ (W.heap.size = g) := by omega
      have hzg1 : ¬ (W.heap.size + 1 = g) := by omega
      have hsub : IntKind.i64.wrap (1 - t) = 1 - t := IntWalk.i64_in _ (by omega)
      have HB := hide (Hb.out.trans (HK.out.below_ (B := W.heap.size) (fun _ h => h.elim) (by have := Hb.out.size; omega)))
      clear hS hfull
      go_wp2_with fail
      go_big_region
      go_wp2_with fail
      refine bodyPost_ret (v := .agg #[.int .i64 w, .int .i64 h, .string S, .int .i64 (1 - t), .string h1, .string h0]) (by simp [results, Try.results22, go_sem, r0, r1, r2, r3, r4, r5]) rfl ⟨by rw [Hfin.out, ← HS.out]; rfl, ?_⟩
      repeat (first | with_reducible exact HB.out | with_reducible refine below_drew_ ?_ | with_reducible refine below_setg ?_ (by omega) _)
end Go.Proofs.Ytfoehijlafooaaa
