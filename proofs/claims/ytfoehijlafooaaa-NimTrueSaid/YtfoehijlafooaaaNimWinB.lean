/- nim.Win: good heaps -/
import Derived.Test.YtfoehijlafooaaaNimWinA
namespace Go.Proofs.Ytfoehijlafooaaa
open Go.RowKit

/-- what Win answers when the place and the heaps are good -/
def WinOk (d : List Nat) (ns : List Nat) (e : Ending) (w' : World) : Prop :=
  (xorP (gv d) ns = 0 ∧ e = .returned (.tuple #[.bool false, noHeaps, .int .i64 0])) ∨
  (xorP (gv d) ns ≠ 0 ∧ e = .returned (.tuple #[.bool true, noHeaps, .int .i64 0]) ∧ ∀ j (h : j < ns.length), ∀ ps ∈ opts d ns[j], xorP (gv d) ns ^^^ gv d ns[j] ^^^ xorP (gv d) ps ≠ 0) ∨
  (xorP (gv d) ns ≠ 0 ∧ ∃ (i : Nat) (hi : i < ns.length) (dn : List (List Nat)) (ps : List Nat) (A : Option Addr) (c : Nat),
    e = .returned (.tuple #[.bool true, .agg #[.int .i64 i, .slice A ps.length c], .int .i64 0]) ∧ ps.length ≤ c ∧ Cells w' w'.heap.size A (ints (natsI ps)) ∧ dn ++ [ps] <+: opts d ns[i] ∧
    xorP (gv d) ns ^^^ gv d ns[i] ^^^ xorP (gv d) ps = 0 ∧ (∀ ps' ∈ dn, xorP (gv d) ns ^^^ gv d ns[i] ^^^ xorP (gv d) ps' ≠ 0) ∧
    ∀ j (h : j < i), ∀ ps' ∈ opts d ns[j], xorP (gv d) ns ^^^ gv d ns[j] ^^^ xorP (gv d) ps' ≠ 0)

set_option maxHeartbeats 4000000 in
set_option maxRecDepth 100000 in
theorem win_in (s : ByteArray) (A : Option Addr) (c : Nat) (ns : List Nat) (w : World) (hsz : s.size ≤ 9223372036854775807) (hl : ns.length ≤ 9223372036854775807) (hok : CodeOk s.data.toList) (hA : Cells w w.heap.size A (ints (natsI ns))) (hin : ∀ x ∈ ns, x ≤ 400) :
    Calls Try.prog 26 #[.string s, .slice A ns.length c] w fun e w' => (20 < ns.length ∧ e = .returned (.tuple #[.bool false, noHeaps, .int .i64 4]) ∨ ns.length ≤ 20 ∧ WinOk (digsOf s.data.toList) ns e w') ∧ Below w.heap.size w w' := by
  obtain ⟨_, _, hd6⟩ := code_len hok
  have hd8 : ∀ k (hk : k < (digsOf s.data.toList).length), (digsOf s.data.toList)[k] < 8 := code_lt8 hok
  obtain ⟨D, hD⟩ : ∃ D, digsOf s.data.toList = D := ⟨_, rfl⟩
  have hdg := fun W => digits_any s W hsz
  unfold DigAns at hdg
  rw [hD] at hd6 hd8
  simp only [hD] at hdg ⊢
  have Hd := hide hdg
  have Hin := hide (fun j (hj : j < ns.length) => hin _ (List.getElem_mem hj))
  have HA := hide hA
  have Hok := hide hok
  have H8 := hide hd8
  clear hin hA hok hdg hD hd8
  go_enter Try.func26, Try.ntmps26
  go_wp2_with fail
  refine (Hd.out _).mono ?_
  rintro e w1 ⟨hb1, ⟨hc, Ad, cd, rfl, _, hdc⟩ | ⟨hc, rfl⟩⟩
  case inr => exact absurd Hok.out hc
  have b1 := (Blk.new w 50 #[.int .i64 0, .slice none 0 0]).below hb1 (by simp)
  have hs1 := b1.lt
  have g0 := b1.cell 0
  have g1 := b1.cell 1
  have g2 := b1.free 0
  have g3 := b1.free 1
  simp at g0 g1
  have h0 : Below w.heap.size w w1 := ((Only.refl (fun _ => False) w).alloc _).below_ (fun _ h => h.elim) (Nat.le_refl _) |>.trans (hb1.mono (by simp))
  have Hb := hide h0
  have Hb1 := hide b1
  have HA1 := hide (HA.out.below h0)
  have Hdc := hide hdc
  clear hb1 hc b1 h0 hdc
  go_wp2_with fail
  go_loop [9, 30] (fun mv idx => ∃ k m : Nat, k ≤ ns.length ∧ idx = .int .i64 k ∧ mv = .int .i64 m ∧ m ≤ 400 ∧ ∀ j (h : j < k) (h' : j < ns.length), ns[j] ≤ m) (fun _ idx => ns.length - (intOf idx).toNat)
  case atStart => exact ⟨0, 0, by omega, rfl, rfl, by omega, fun j h => by omega⟩
  case round =>
    obtain ⟨k, m, hk, rfl, rfl, hm, hall⟩ := hrel
    have Hall := hide hall
    clear hall
    by_cases hlk : k < ns.length
    · obtain ⟨b7, o7, rfl, _, hc7⟩ := HA1.out.at_ (k := k) (by simpa [natsI] using hlk)
      rw [ints_get] at hc7
      simp only [natsI, List.getElem_map] at hc7
      have hin := Hin.out k hlk
      obtain ⟨y, hy⟩ : ∃ y, ns[k] = y := ⟨_, rfl⟩
      rw [hy] at hc7 hin
      have Hy := hide hy
      simp only [Int.ofNat_eq_natCast] at hc7
      have q1 : decide ((y : Int) < 0) = false := by simp
      have q2 : decide ((y : Int) > 400) = false := by simp; omega
      clear hy
      go_wp2_with fail
      go_round
      case rel => exact ⟨k + 1, max m y, by omega, by go_num, by simp; split <;> omega, by omega, fun j h h' => by
        by_cases e : j = k
        · subst e; rw [Hy.out]; omega
        · have := Hall.out j (by omega) h'; omega⟩
      case measure => simp [intOf]; omega
    · have hke : k = ns.length := by omega
      subst hke
      clear hlk hk
      by_cases hlong : 20 < ns.length
      · have q1 : decide ((ns.length : Int) > 20) = true := by simp; omega
        have Hlong := hide hlong
        clear hlong
        go_wp2_with fail
        refine bodyPost_ret (v := .tuple #[.bool false, noHeaps, .int .i64 4]) (by simp [results, Try.results26, go_sem, noHeaps, g0, g1]) rfl ⟨.inl ⟨Hlong.out, rfl⟩, ?_⟩
        exact (Hb.out.setCell (p := ⟨w.heap.size, 0, none⟩) (Nat.le_refl _) _).setCell (p := ⟨w.heap.size, 1, none⟩) (Nat.le_refl _) _
      · have q1 : decide ((ns.length : Int) > 20) = false := by simp; omega
        have Hshort := hide (show ns.length ≤ 20 by omega)
        clear hlong
        go_wp2_with fail
        refine (vals_any Ad cd D m hm H8.out hd6 w1 Hdc.out).mono ?_
        rintro e w2 ⟨⟨A2, rfl, hg2⟩, hb2⟩
        have Hb2 := hide hb2
        have Hg2 := hide hg2
        clear hb2 hg2 g0 g1 g2 g3
        go_wp2_with fail
        have hm1 : ∀ j (h : j < ns.length), ns[j] < m + 1 := fun j h => by have := Hall.out j h h; omega
        have Hm1 := hide hm1
        clear hm1 Hall q1
        have hs2 : w1.heap.size ≤ w2.heap.size := Hb2.out.size
        go_loopw [54] (fun idx wr => ∃ k : Nat, k ≤ ns.length ∧ idx = .int .i64 k ∧ Blk wr w2.heap.size 26 #[.slice A2 (m + 1) (m + 1)] ∧ Blk wr (w2.heap.size + 1) 3 #[.int .i64 (xorP (gv D) (ns.take k) : Nat)] ∧ Only (fun _ => False) w2 wr) (fun idx _ => ns.length - (intOf idx).toNat)
        case atStart =>
          refine ⟨0, by omega, rfl, ?_, ?_, ((Only.refl _ w2).alloc _).alloc _⟩
          · repeat (first | (refine Blk.new' ?_; (simp; done)) | refine Blk.alloc ?_ _)
          · simp only [List.take_zero, xorP]
            repeat (first | (refine Blk.new' ?_; (simp; done)) | refine Blk.alloc ?_ _)
        case round =>
          obtain ⟨k, hk, rfl, hbg, hba, hO⟩ := hrel
          have r1 := hbg.cell 0
          have r2 := hba.cell 0
          have r3 := hba.free 0
          simp at r1 r2
          have Hbg := hide hbg
          have Hba := hide hba
          have HO := hide hO
          clear hbg hba hO
          by_cases hlk : k < ns.length
          · have hb : xorP (gv D) (ns.take k) < 4096 := xorP_lt (n := 12) (fun x hx => by
              obtain ⟨j, hj, rfl⟩ := List.getElem_of_mem hx
              have hj2 : j < ns.length := by have := List.length_take_le k ns; simp at hj; omega
              have := Hin.out j hj2
              rw [List.getElem_take]
              exact gv_lt hd6 (by omega))
            have hin := Hin.out k hlk
            have hgb : gv D ns[k] < 4096 := gv_lt hd6 (by omega)
            obtain ⟨b7, o7, rfl, _, hc7⟩ := (((HA1.out.more Hb.out.size).below Hb2.out).more hs2 |>.only HO.out (fun _ _ _ => id)).at_ (k := k) (by simpa [natsI] using hlk)
            rw [ints_get] at hc7
            simp only [natsI, List.getElem_map] at hc7
            obtain ⟨b8, o8, rfl, _, hc8⟩ := (Hg2.out.only HO.out (fun _ _ _ => id)).at_ (k := ns[k]) (by simpa [gInts] using Hm1.out k hlk)
            rw [ints_get] at hc8
            simp only [gInts, List.getElem_map, List.getElem_range] at hc8
            have hym := Hm1.out k hlk
            have hxor := xor_nat64 (xorP (gv D) (ns.take k)) (gv D ns[k]) (by omega) (by omega)
            have hnext : xorP (gv D) (ns.take (k + 1)) = xorP (gv D) (ns.take k) ^^^ gv D ns[k] := by
              rw [List.take_succ_eq_append_getElem hlk, xorP_snoc]
            obtain ⟨X, hX⟩ : ∃ X, xorP (gv D) (ns.take k) = X := ⟨_, rfl⟩
            obtain ⟨Y, hY⟩ : ∃ Y, gv D ns[k] = Y := ⟨_, rfl⟩
            obtain ⟨x, hxx⟩ : ∃ x, ns[k] = x := ⟨_, rfl⟩
            rw [hX, hY] at hnext
            rw [hX, hY] at hxor
            rw [hX] at hb r2
            rw [hxx] at hc7 hc8 hin hym
            rw [hxx] at hY
            rw [hY] at hc8
            simp only [Int.ofNat_eq_natCast] at hc7
            have Hn := hide hnext
            clear hnext hY hxx hgb
            have Hba' : Hid (Blk wr (w2.heap.size + 1) 3 #[.int .i64 X]) := hide (by rw [← hX]; exact Hba.out)
            clear hX Hba
            go_wp2_with fail
            go_region
            all_goals
              go_wp2_with fail
              go_roundw
              case rel => exact ⟨k + 1, by omega, by go_num, Hbg.out.far (p := ⟨w2.heap.size + 1, 0, none⟩) (by simp) _, by rw [Hn.out]; exact Hba'.out.set_ 0 _, by first | exact (HO.out.setCell (p := ⟨w2.heap.size + 1, 0, none⟩) (.inr (by simp)) _).drew | exact HO.out.drew.setCell (p := ⟨w2.heap.size + 1, 0, none⟩) (.inr (by simp)) _⟩
              case measure => simp [intOf]; omega
          · have hke : k = ns.length := by omega
            subst hke
            clear hlk hk
            simp only [List.take_length] at r2
            obtain ⟨X, hX⟩ : ∃ X, xorP (gv D) ns = X := ⟨_, rfl⟩
            have hX4 : X < 4096 := by
              rw [← hX]
              exact xorP_lt (n := 12) (fun x hx => by
                obtain ⟨j, hj, rfl⟩ := List.getElem_of_mem hx
                have := Hin.out j hj
                exact gv_lt hd6 (by omega))
            have Hba' : Hid (Blk wr (w2.heap.size + 1) 3 #[.int .i64 X]) := hide (by have := Hba.out; rw [List.take_length, hX] at this; exact this)
            rw [hX] at r2
            have HX := hide hX
            clear hX Hba
            have hwr := Hba'.out.lt
            go_wp2_with fail
            clear r1 r2 r3
            obtain ⟨wL, hwL⟩ : ∃ x, x = wr := ⟨wr, rfl⟩
            subst hwL
            go_loopw [67] (fun idx wr => ∃ k : Nat, k ≤ ns.length ∧ idx = .int .i64 k ∧ Only (fun _ => False) (wL.alloc (.cells #[.int .i64 0, .slice none 0 0] 50)) wr ∧ (X ≠ 0 → ∀ j (h : j < k) (h2 : j < ns.length), ∀ ps ∈ opts D ns[j], X ^^^ gv D ns[j] ^^^ xorP (gv D) ps ≠ 0)) (fun idx _ => ns.length - (intOf idx).toNat)
            case atStart => exact ⟨0, by omega, rfl, Only.refl _ _, fun _ j h => by omega⟩
            case round =>
              obtain ⟨k, hk, rfl, hOx, hnone⟩ := hrel
              have hOr : Only (fun _ => False) wL wr := ((Only.refl _ wL).alloc _).trans hOx
              have hO2 : Only (fun _ => False) w2 wr := HO.out.trans hOr
              have bo := (Blk.new wL 50 #[.int .i64 0, .slice none 0 0]).only hOx id
              have b5 := (Hb1.out.below Hb2.out Hb1.out.lt).only hO2 id
              have bg := Hbg.out.only hOr id
              have ba := Hba'.out.only hOr id
              have r1 := ba.cell 0
              simp at r1
              have hA3 := (((HA1.out.more Hb.out.size).below Hb2.out).more hs2).only hO2 (fun _ _ _ => id)
              have HOx := hide hOx
              have HO2 := hide hO2
              have Hnone := hide hnone
              have Hbo := hide bo
              have Hb5 := hide b5
              have Hbgx := hide bg
              have Hbax := hide ba
              have hsx : w2.heap.size + 1 < wr.heap.size := ba.lt
              have hsx2 : wL.heap.size < wr.heap.size := bo.lt
              clear hOr hOx hO2 hnone bo b5 bg ba
              by_cases hlk : k < ns.length
              · obtain ⟨b7, o7, rfl, _, hc7⟩ := hA3.at_ (k := k) (by simpa [natsI] using hlk)
                rw [ints_get] at hc7
                simp only [natsI, List.getElem_map] at hc7
                have hym := Hm1.out k hlk
                obtain ⟨x, hxx⟩ : ∃ x, ns[k] = x := ⟨_, rfl⟩
                rw [hxx] at hc7 hym
                simp only [Int.ofNat_eq_natCast] at hc7
                have Hxx := hide hxx
                clear hxx hA3
                obtain ⟨w0, hw0⟩ : ∃ w0 : World, w0 = (wr.alloc (.cells #[.int .i64 k] 3)).alloc (.cells #[.int .i64 x] 3) := ⟨_, rfl⟩
                have hO0 : Only (fun _ => False) wr w0 := by rw [hw0]; exact ((Only.refl _ wr).alloc _).alloc _
                have hsz0 : w0.heap.size = wr.heap.size + 2 := by rw [hw0]; simp
                have bh : Blk w0 (wr.heap.size + 1) 3 #[.int .i64 x] := by rw [hw0]; exact Blk.new' (by simp)
                have bi : Blk w0 wr.heap.size 3 #[.int .i64 k] := by rw [hw0]; exact (Blk.new' rfl).alloc _
                have ba0 := Hbax.out.only hO0 id
                have r4 := ba0.cellv (i := 0) (v := .int .i64 X) rfl
                have r5 := bh.cellv (i := 0) (v := .int .i64 x) rfl
                have hWB : WBase w0 A2 (m + 1) (m + 1) D X x k (w2.heap.size + 1) w2.heap.size (wr.heap.size + 1) wr.heap.size wL.heap.size :=
                  ⟨ba0, Hbgx.out.only hO0 id, bh, bi, Hbo.out.only hO0 id, (Hg2.out.only HO2.out (fun _ _ _ => id)).only hO0 (fun _ _ _ => id), hym, by omega, hd6, hX4⟩
                have hAsk : Asks 57 #[.pointer (some ⟨w2.heap.size + 1, 0, none⟩), .pointer (some ⟨w2.heap.size, 0, none⟩), .pointer (some ⟨wr.heap.size + 1, 0, none⟩), .pointer (some ⟨wr.heap.size, 0, none⟩), .pointer (some ⟨wL.heap.size, 0, none⟩)] Ad D x (WInv w0 D X x) (WFin w0 D X x k wL.heap.size) :=
                  ⟨fun dn ps W A c hpre hI hc hA => win1_any w0 A2 (m + 1) (m + 1) D X x k _ _ _ _ _ hWB dn ps W A c hpre hI hc hA, fun dn W o h => ⟨h.1.alloc o, h.2⟩, fun dn W h => ((((Hdc.out.below Hb2.out).more hs2).only HO2.out (fun _ _ _ => id)).only hO0 (fun _ _ _ => id)).only h.1 (fun _ _ _ => id)⟩
                have Hcall := hide (each_B _ _ _ _ _ Ad cd D x _ _ hAsk H8.out hd6 (by omega) w0 ⟨Only.refl _ _, by simp⟩)
                have HWB := hide hWB
                have HO0 := hide hO0
                have Hw0 := hide hw0
                clear hWB hAsk ba0 bh bi hO0 hsz0
                rw [hw0] at Hcall r4 r5
                clear hw0
                by_cases hz : X = 0
                · have q1 : decide ((X : Int) > 0) = false := by simp [hz]
                  have hpos : ¬ 0 < X := by omega
                  have Hz := hide hz
                  clear hz
                  go_wp2_with fail
                  go_roundw
                  case rel => exact ⟨k + 1, by omega, by go_num, (HOx.out.alloc _).alloc _, fun h => absurd Hz.out h⟩
                  case measure => simp [intOf]; omega
                · have q1 : decide ((X : Int) > 0) = true := by simp; omega
                  have hpos : 0 < X := by omega
                  have Hz := hide hz
                  clear hz
                  go_wp2_with fail
                  refine Hcall.out.mono ?_
                  rintro e w4 (⟨rfl, hI⟩ | ⟨rfl, dn, ps, hpre, ⟨A4, c4, hbl, hc4, hC4, hA4⟩, hO4, hz4, hn4⟩)
                  · have HI := hide hI
                    clear hI r1 r4 r5
                    go_wp2_with fail
                    go_roundw
                    case rel => exact ⟨k + 1, by omega, by go_num, (HOx.out.trans HO0.out).trans (by rw [← Hw0.out] at HI; exact HI.out.1), fun hX0 j hj hj2 => by
                      by_cases e : j = k
                      · subst e; rw [Hxx.out]; exact HI.out.2
                      · exact Hnone.out hX0 j (by omega) hj2⟩
                    case measure => simp [intOf]; omega
                  · simp only [← Hw0.out] at hO4 hA4
                    clear r1 r4 r5
                    go_wp2_with fail
                    have hO5 : Only (fun i => i = wL.heap.size) wr w4 := (HO0.out.mono (fun _ _ h => h.elim)).trans hO4
                    have hne5 : w.heap.size ≠ wL.heap.size := by omega
                    have hne6 : w2.heap.size + 1 ≠ wL.heap.size := by omega
                    have b5 := Hb5.out.only hO5 hne5
                    have ba := Hbax.out.only hO5 hne6
                    have r1 := ba.cellv (i := 0) (v := .int .i64 X) rfl
                    have r2 := hbl.cellv (i := 0) (v := .int .i64 k) rfl
                    have r3 := hbl.cellv (i := 1) (v := .slice A4 ps.length c4) rfl
                    have r4 := b5.cellv (i := 0) (v := .int .i64 0) rfl
                    have r5 := b5.cellv (i := 1) (v := .slice none 0 0) rfl
                    have r6 := b5.free 0
                    have r7 := b5.free 1
                    have HO5 := hide hO5
                    have Hfin := hide (And.intro hpre (And.intro hC4 (And.intro hA4 (And.intro hO4 (And.intro hz4 hn4)))))
                    have Hc4 := hide hc4
                    clear hO5 hpre hC4 hA4 hO4 hz4 hn4 hc4 b5 ba hbl
                    have hbw : Below w.heap.size w w4 := ((Hb.out.trans (Hb2.out.mono (by omega))).trans (HO2.out.below_ (fun _ h => h.elim) (by omega))).trans (HO5.out.below_ (fun k hk => by omega) (by omega))
                    have h0s : wr.heap.size ≤ w0.heap.size := HO0.out.size
                    have key : ∀ W', Only (fun i => i = w.heap.size) w4 W' → WinOk D ns (.returned (.tuple #[.bool true, .agg #[.int .i64 k, .slice A4 ps.length c4], .int .i64 0])) W' ∧ Below w.heap.size w W' := by
                      intro W' hW'
                      refine ⟨.inr (.inr ⟨by rw [HX.out]; exact Hz.out, k, hlk, dn, ps, A4, c4, rfl, Hc4.out, Hfin.out.2.1.only hW' (fun _ a ha => ?_), by rw [Hxx.out]; exact Hfin.out.1, by rw [HX.out, Hxx.out]; exact Hfin.out.2.2.2.2.1, by rw [HX.out, Hxx.out]; exact Hfin.out.2.2.2.2.2, fun j hj => by rw [HX.out]; exact Hnone.out Hz.out j hj (by omega)⟩), hbw.trans (hW'.below_ (fun k hk => by omega) hbw.size)⟩
                      have := Hfin.out.2.2.1 a ha
                      show ¬ (a.block = w.heap.size)
                      omega
                    have Hkey := hide key
                    clear key hbw h0s
                    go_region
                    all_goals
                      go_wp2_with fail
                      refine bodyPost_ret (v := .tuple #[.bool true, .agg #[.int .i64 k, .slice A4 ps.length c4], .int .i64 0]) (by simp [results, Try.results26, go_sem, r4, r5]) rfl ((fun h => ⟨.inr ⟨Hshort.out, (Hkey.out _ h).1⟩, (Hkey.out _ h).2⟩) ?_)
                      first
                        | exact (((Only.refl (fun i => i = w.heap.size) w4).setCell (p := ⟨w.heap.size, 0, none⟩) (.inl rfl) _).setCell (p := ⟨w.heap.size, 1, none⟩) (.inl rfl) _).drew
                        | exact ((((Only.refl (fun i => i = w.heap.size) w4).drew).setCell (p := ⟨w.heap.size, 0, none⟩) (.inl rfl) _).setCell (p := ⟨w.heap.size, 1, none⟩) (.inl rfl) _)
              · have hke : k = ns.length := by omega
                subst hke
                clear hlk hk hA3
                have r2 := Hbo.out.cellv (i := 0) (v := .int .i64 0) rfl
                have r3 := Hbo.out.cellv (i := 1) (v := .slice none 0 0) rfl
                have r4 := Hb5.out.cellv (i := 0) (v := .int .i64 0) rfl
                have r5 := Hb5.out.cellv (i := 1) (v := .slice none 0 0) rfl
                have r6 := Hb5.out.free 0
                have r7 := Hb5.out.free 1
                have hbw : Below w.heap.size w wr := (Hb.out.trans (Hb2.out.mono (by omega))).trans (HO2.out.below_ (fun _ h => h.elim) (by omega))
                have Hbw := hide hbw
                clear hbw
                by_cases hz : X = 0
                · have hpos : ¬ 0 < X := by omega
                  have key : ∀ W', Only (fun i => i = w.heap.size) wr W' → WinOk D ns (.returned (.tuple #[.bool false, noHeaps, .int .i64 0])) W' ∧ Below w.heap.size w W' := fun W' hW' => ⟨.inl ⟨by rw [HX.out]; exact hz, rfl⟩, Hbw.out.trans (hW'.below_ (fun k hk => by omega) Hbw.out.size)⟩
                  have Hkey := hide key
                  clear key hz
                  go_wp2_with fail
                  go_region
                  all_goals
                    go_wp2_with fail
                    refine bodyPost_ret (v := .tuple #[.bool false, noHeaps, .int .i64 0]) (by simp [results, Try.results26, go_sem, noHeaps, r4, r5]) rfl ((fun h => ⟨.inr ⟨Hshort.out, (Hkey.out _ h).1⟩, (Hkey.out _ h).2⟩) ?_)
                    first
                      | exact (((Only.refl (fun i => i = w.heap.size) wr).setCell (p := ⟨w.heap.size, 0, none⟩) (.inl rfl) _).setCell (p := ⟨w.heap.size, 1, none⟩) (.inl rfl) _).drew
                      | exact ((((Only.refl (fun i => i = w.heap.size) wr).drew).setCell (p := ⟨w.heap.size, 0, none⟩) (.inl rfl) _).setCell (p := ⟨w.heap.size, 1, none⟩) (.inl rfl) _)
                · have hpos : 0 < X := by omega
                  have key : ∀ W', Only (fun i => i = w.heap.size) wr W' → WinOk D ns (.returned (.tuple #[.bool true, noHeaps, .int .i64 0])) W' ∧ Below w.heap.size w W' := fun W' hW' => ⟨.inr (.inl ⟨by rw [HX.out]; exact hz, rfl, fun j h => by rw [HX.out]; exact Hnone.out hz j h h⟩), Hbw.out.trans (hW'.below_ (fun k hk => by omega) Hbw.out.size)⟩
                  have Hkey := hide key
                  clear key hz
                  go_wp2_with fail
                  go_region
                  all_goals
                    go_wp2_with fail
                    refine bodyPost_ret (v := .tuple #[.bool true, noHeaps, .int .i64 0]) (by simp [results, Try.results26, go_sem, noHeaps, r4, r5]) rfl ((fun h => ⟨.inr ⟨Hshort.out, (Hkey.out _ h).1⟩, (Hkey.out _ h).2⟩) ?_)
                    first
                      | exact (((Only.refl (fun i => i = w.heap.size) wr).setCell (p := ⟨w.heap.size, 0, none⟩) (.inl rfl) _).setCell (p := ⟨w.heap.size, 1, none⟩) (.inl rfl) _).drew
                      | exact ((((Only.refl (fun i => i = w.heap.size) wr).drew).setCell (p := ⟨w.heap.size, 0, none⟩) (.inl rfl) _).setCell (p := ⟨w.heap.size, 1, none⟩) (.inl rfl) _)
end Go.Proofs.Ytfoehijlafooaaa
