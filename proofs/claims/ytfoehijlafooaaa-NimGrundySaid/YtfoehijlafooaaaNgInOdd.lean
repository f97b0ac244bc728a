/- gamelaw.NimGrundy, walked: in, odd (printed by mkng.py) -/
import Derived.Test.YtfoehijlafooaaaNimGrundyLaw1
import Derived.Test.YtfoehijlafooaaaNgPlain
namespace Go.Proofs.Ytfoehijlafooaaa
open Go.RowKit

set_option maxHeartbeats 4000000 in
set_option maxRecDepth 100000 in
theorem ng_in_odd (s : ByteArray) (n : Nat) (hn : n ≤ 400) (A : Option Addr) (c : Nat) (ns : List Nat) (hns : ∀ x ∈ ns, x ≤ 400) (h20 : ns.length ≤ 20) (hX : xorP (gv (digsOf s.data.toList)) ns ≠ 0) (w : World) (hsz : s.size ≤ 9223372036854775807) (hl : ns.length ≤ 9223372036854775807) (hok : CodeOk s.data.toList) (hA : Cells w w.heap.size A (ints (natsI ns))) :
    Calls Try.prog 8 #[.string s, .int .i64 n, .slice A ns.length c] w fun e w' => e = .returned (.bool true) ∧ Below w.heap.size w w' := by
  have Hg := hide (grundy_in s n w hsz hok hn)
  have q1 : decide ((n : Int) < 0) = false := by simp
  have q2 : decide ((n : Int) > 400) = false := by simp; omega
  have Hw := hide fun W (hW : Below w.heap.size w W) => win_odd s A c ns W hsz hl hok ((hA.below hW).more hW.size) hns h20 hX
  have Hns := hide (fun j (hj : j < ns.length) => hns _ (List.getElem_mem hj))
  have HX := hide hX
  have q3 : decide ((ns.length : Int) ≤ 20) = true := by simp; omega
  clear hns hX
  have Hc := hide fun W => code_any s W hsz
  have Hgr := hide fun k (hk : k ≤ 400) W => grundies_any s k hk hok W
  have Htk := hide fun k (hk : k ≤ 400) W => takings_any s k hk hok W
  have Hok := hide hok
  have HA := hide hA
  obtain ⟨_, _, hd6⟩ := code_len hok
  clear hok hA 
  go_enter Try.func8, Try.ntmps8
  go_wp2_with fail
  refine Hg.out.mono ?_
  rintro e w1 ⟨hb1, Ag, cg, rfl, hcg⟩
  have Hcg := hide hcg
  have Hb1 := hide hb1
  clear hb1 hcg
  go_wp2_with fail
  refine (Hw.out w1 Hb1.out).mono ?_
  rintro e w2 ⟨hb2, i, hi, dn, ps, A4, c4, rfl, hc4, hC4, hpre, hz4, hn4, hlow4⟩
  have Hc4 := hide hC4
  have Hfin := hide (And.intro hpre (And.intro hz4 (And.intro hn4 hlow4)))
  clear hC4 hpre hz4 hn4 hlow4
  have Hb2 := hide (Hb1.out.trans (hb2.mono Hb1.out.size))
  have hb2' := hb2
  clear hb2
  go_wp2_with (first | (go_at_call 27; refine (Hc.out _).mono ?_; rintro e w3 ⟨rfl, ⟨_, rfl⟩ | ⟨h, _⟩⟩; case inr => exact absurd Hok.out h) | fail)
  have hb3 := Hb2.out.trans (((Only.refl (fun _ => False) w2).alloc (.cells #[.int .i64 i, .slice A4 ps.length c4] 50)).below_ (fun _ h => h.elim) Hb2.out.size)
  have hbo0 := Blk.new w2 50 #[.int .i64 i, .slice A4 ps.length c4]
  have hc0 := (Hc4.out.keep (fun p hp => World.cell?_of_block (Below.heap_alloc w2 (.cells #[.int .i64 i, .slice A4 ps.length c4] 50) p.block hp))).more (B' := (w2.alloc (.cells #[.int .i64 i, .slice A4 ps.length c4] 50)).heap.size) (by simp)
  have Hb3' := hide hb3
  have Hcg3 := hide (((Hcg.out.below (hb2'.mono (Nat.le_refl _))).keep (fun p hp => World.cell?_of_block (Below.heap_alloc w2 (.cells #[.int .i64 i, .slice A4 ps.length c4] 50) p.block (Nat.lt_of_lt_of_le hp hb2'.size)))).more (B' := (w2.alloc (.cells #[.int .i64 i, .slice A4 ps.length c4] 50)).heap.size) (by have := hb2'.size; simp; omega))
  have Hbo1 := hide hbo0
  have Hc1 := hide hc0
  clear hbo0 hc0
  clear hb3 hb2'
  refine (Hgr.out n hn _).mono ?_
  rintro e w3 ⟨⟨A3, c3, rfl, hc3, hg3⟩, hb3⟩
  have hsm := (same_int Ag A3 cg c3 (gInts (digsOf s.data.toList) (n + 1)) (gInts (digsOf s.data.toList) (n + 1)) w3 _ _ (by rw [gInts_len]; omega) (by rw [gInts_len]; omega) (Hcg3.out.below hb3) hg3).mono (fun e w' h => (⟨by simpa using h.1, h.2⟩ : e = .returned (.bool true) ∧ ∃ n, w' = w3.drewN n))
  simp only [gInts_len] at hsm
  have Hsm := hide hsm
  have Hw3 := hide hb3
  clear hsm hb3 hg3 hc3
  go_wp2_with fail
  refine Hsm.out.mono ?_
  rintro e w4 ⟨rfl, nq, rfl⟩
  go_wp2_with fail
  have Hb3 := hide (below_drewN (Hb3'.out.trans (Hw3.out.mono Hb3'.out.size)) nq)
  have Hbo0 := hide ((Hbo1.out.below Hw3.out Hbo1.out.lt).drewN nq)
  have HC0 := hide (((Hc1.out.below Hw3.out).more Hw3.out.size).keep (w' := w3.drewN nq) (fun _ _ => rfl))
  have Hs0 := hide (show w2.heap.size < (w3.drewN nq).heap.size from Hbo0.out.lt)
  have HA3 := hide (HA.out.below Hb3.out)
  go_loop [13, 14, 96] (fun mv ok idx => ∃ k m : Nat, k ≤ ns.length ∧ idx = .int .i64 k ∧ mv = .int .i64 m ∧ ok = .bool true ∧ m ≤ 400 ∧ ∀ j (h : j < k) (h' : j < ns.length), ns[j] ≤ m) (fun _ _ idx => ns.length - (intOf idx).toNat)
  case atStart => exact ⟨0, 0, by omega, rfl, rfl, rfl, by omega, fun j h => by omega⟩
  case round =>
    obtain ⟨k, m, hk, rfl, rfl, rfl, hm, hall⟩ := hrel
    have Hall := hide hall
    clear hall
    by_cases hlk : k < ns.length
    · obtain ⟨b7, o7, rfl, _, hc7⟩ := HA3.out.at_ (k := k) (by simpa [natsI] using hlk)
      rw [ints_get] at hc7
      simp only [natsI, List.getElem_map] at hc7
      have hin := Hns.out k hlk
      obtain ⟨y, hy⟩ : ∃ y, ns[k] = y := ⟨_, rfl⟩
      rw [hy] at hc7 hin
      have Hy := hide hy
      simp only [Int.ofNat_eq_natCast] at hc7
      have p1 : decide ((y : Int) ≥ 0) = true := by simp
      have p2 : decide ((y : Int) ≤ 400) = true := by simp; omega
      clear hy
      go_wp2_with fail
      go_round
      case rel => exact ⟨k + 1, max m y, by omega, by go_num, by simp; split <;> omega, rfl, by omega, fun j h h' => by
        by_cases e : j = k
        · subst e; rw [Hy.out]; omega
        · have := Hall.out j (by omega) h'; omega⟩
      case measure => simp [intOf]; omega
    · have hke : k = ns.length := by omega
      subst hke
      clear hlk hk
      have Hm1 := hide (show ∀ j (h : j < ns.length), ns[j] < m + 1 from fun j h => by have := Hall.out j h h; omega)
      clear Hall
      go_wp2_with fail
      refine (Hgr.out m hm _).mono ?_
      rintro e w5 ⟨⟨A5, c5, rfl, hc5, hg5⟩, hb5⟩
      have Hg5 := hide hg5
      have Hb5 := hide (Hb3.out.trans (hb5.mono Hb3.out.size))
      have HA5 := hide (HA.out.below Hb5.out)
      have Hw5 := hide hb5
      clear hg5 hb5
      go_wp2_with fail
      go_loop [17, 133] (fun vv idx => ∃ k : Nat, k ≤ ns.length ∧ idx = .int .i64 k ∧ vv = .int .i64 (xorP (gv (digsOf s.data.toList)) (ns.take k) : Nat)) (fun _ idx => ns.length - (intOf idx).toNat)
      case atStart => exact ⟨0, by omega, rfl, rfl⟩
      case round =>
        obtain ⟨k, hk, rfl, rfl⟩ := hrel
        by_cases hlk : k < ns.length
        · have hb : xorP (gv (digsOf s.data.toList)) (ns.take k) < 4096 := xorP_lt (n := 12) (fun x hx => by
            obtain ⟨j, hj, rfl⟩ := List.getElem_of_mem hx
            have hj2 : j < ns.length := by have := List.length_take_le k ns; simp at hj; omega
            have := Hns.out j hj2
            rw [List.getElem_take]
            exact gv_lt hd6 (by omega))
          have hin := Hns.out k hlk
          have hgb : gv (digsOf s.data.toList) ns[k] < 4096 := gv_lt hd6 (by omega)
          obtain ⟨b7, o7, rfl, _, hc7⟩ := HA5.out.at_ (k := k) (by simpa [natsI] using hlk)
          rw [ints_get] at hc7
          simp only [natsI, List.getElem_map] at hc7
          obtain ⟨b8, o8, rfl, _, hc8⟩ := Hg5.out.at_ (k := ns[k]) (by simpa [gInts] using Hm1.out k hlk)
          rw [ints_get] at hc8
          simp only [gInts, List.getElem_map, List.getElem_range] at hc8
          have hym := Hm1.out k hlk
          have hxor := xor_nat64 (xorP (gv (digsOf s.data.toList)) (ns.take k)) (gv (digsOf s.data.toList) ns[k]) (by omega) (by omega)
          have hnext : xorP (gv (digsOf s.data.toList)) (ns.take (k + 1)) = xorP (gv (digsOf s.data.toList)) (ns.take k) ^^^ gv (digsOf s.data.toList) ns[k] := by
            rw [List.take_succ_eq_append_getElem hlk, xorP_snoc]
          obtain ⟨X, hX⟩ : ∃ X, xorP (gv (digsOf s.data.toList)) (ns.take k) = X := ⟨_, rfl⟩
          obtain ⟨Y, hY⟩ : ∃ Y, gv (digsOf s.data.toList) ns[k] = Y := ⟨_, rfl⟩
          obtain ⟨x, hxx⟩ : ∃ x, ns[k] = x := ⟨_, rfl⟩
          rw [hX, hY] at hnext
          rw [hX, hY] at hxor
          rw [hX] at hb ⊢
          rw [hxx] at hc7 hc8 hin hym
          rw [hxx] at hY
          rw [hY] at hc8
          simp only [Int.ofNat_eq_natCast] at hc7
          have Hn := hide hnext
          clear hnext hY hxx hgb hX
          go_wp2_with fail
          go_round
          case rel => exact ⟨k + 1, by omega, by go_num, by rw [Hn.out]⟩
          case measure => simp [intOf]; omega
        · have hke : k = ns.length := by omega
          subst hke
          clear hlk hk
          rw [List.take_length]
          obtain ⟨X, hX⟩ : ∃ X, xorP (gv (digsOf s.data.toList)) ns = X := ⟨_, rfl⟩
          rw [hX]
          have hx0 : ((X : Int) == 0) = false := by have := HX.out; rw [hX] at this; simp; omega
          have hX4 : X < 4096 := by
            rw [← hX]
            exact xorP_lt (n := 12) (fun x hx => by
              obtain ⟨j, hj, rfl⟩ := List.getElem_of_mem hx
              have := Hns.out j hj
              exact gv_lt hd6 (by omega))
          have HX1 := hide hX
          clear hX
          have hbo := Hbo0.out.below Hw5.out Hbo0.out.lt
          have Hbo := hide hbo
          have hs5 : w2.heap.size < w5.heap.size := hbo.lt
          have HC5 := hide (HC0.out.below Hw5.out)
          clear hbo
          go_wp2_with fail
          go_loopw [155] (fun idx wr => ∃ k : Nat, k ≤ ns.length ∧ idx = .int .i64 k ∧ Below w5.heap.size w5 wr ∧ ∀ j (h : j < k) (h2 : j < ns.length), ∀ ps' ∈ opts (digsOf s.data.toList) ns[j], X ^^^ gv (digsOf s.data.toList) ns[j] ^^^ xorP (gv (digsOf s.data.toList)) ps' ≠ 0) (fun idx _ => ns.length - (intOf idx).toNat)
          case atStart => exact ⟨0, by omega, rfl, Below.refl _ _, fun j h => by omega⟩
          case round =>
            obtain ⟨k, hk, rfl, hbr, hlow⟩ := hrel
            have Hbr := hide hbr
            have Hlow := hide hlow
            clear hbr hlow
            by_cases hlk : k < ns.length
            · obtain ⟨b7, o7, rfl, _, hc7⟩ := ((HA5.out.more Hb5.out.size).below Hbr.out).at_ (k := k) (by simpa [natsI] using hlk)
              rw [ints_get] at hc7
              simp only [natsI, List.getElem_map] at hc7
              have hin := Hns.out k hlk
              have hym := Hm1.out k hlk
              have hxor := xor_nat64 X (gv (digsOf s.data.toList) ns[k]) (by omega) (by have := gv_lt hd6 (h := ns[k]) (by omega); omega)
              have hgb : gv (digsOf s.data.toList) ns[k] < 4096 := gv_lt hd6 (by omega)
              obtain ⟨x, hxx⟩ : ∃ x, ns[k] = x := ⟨_, rfl⟩
              rw [hxx] at hc7 hin hym hxor hgb
              simp only [Int.ofNat_eq_natCast] at hc7
              have Hxx := hide hxx
              obtain ⟨V, hV⟩ : ∃ V, X ^^^ gv (digsOf s.data.toList) x = V := ⟨_, rfl⟩
              obtain ⟨Y, hY⟩ : ∃ Y, gv (digsOf s.data.toList) x = Y := ⟨_, rfl⟩
              have hV4 : V < 4096 := by rw [← hV]; exact Nat.xor_lt_two_pow (n := 12) (by omega) (by omega)
              rw [hV, hY] at hxor
              have HV := hide hV
              have HY := hide hY
              clear hxx hV hY hgb
              go_wp2_with fail
              refine (Htk.out x hin _).mono ?_
              rintro e w6 ⟨⟨v6, rfl, hown6⟩, hb6⟩
              obtain ⟨A6, c6, rfl, hc6, hR6⟩ := hown6.rows2
              have Hb6 := hide (Hbr.out.trans (hb6.mono Hbr.out.size))
              have HR6 := hide hR6
              have hlen := opts_len (h := x) hd6 hin
              rw [optRows_len]
              clear hown6 hb6 hR6 hc6 hc7
              obtain ⟨O, hO⟩ : ∃ O, opts (digsOf s.data.toList) x = O := ⟨_, rfl⟩
              have hmemO : ∀ q (hq : q < O.length), O[q].length ≤ 2 ∧ ∀ y ∈ O[q], y < x := fun q hq => by
                have hm : O[q] ∈ opts (digsOf s.data.toList) x := by rw [hO]; exact List.getElem_mem hq
                exact ⟨opts_parts hm, opts_lt hm⟩
              rw [hO] at hlen ⊢
              have HR6' : Hid (Rows2 w6 w6.heap.size A6 (optRows O)) := hide (by rw [← hO]; exact HR6.out)
              have HO := hide hO
              have HmO := hide hmemO
              clear hO hmemO HR6
              have HA6 := hide ((HA5.out.more Hb5.out.size).below Hb6.out)
              have Hg6 := hide (Hg5.out.below Hb6.out)
              obtain ⟨bq, oq, eA5, _, hcx⟩ := Hg6.out.at_ (k := x) (by simpa [gInts] using hym)
              subst eA5
              rw [ints_get] at hcx
              simp only [gInts, List.getElem_map, List.getElem_range, HY.out] at hcx
              obtain ⟨b7', o7', e7, _, hc7⟩ := HA6.out.at_ (k := k) (by simpa [natsI] using hlk)
              injection e7 with e7
              injection e7 with e71 e72
              subst e71
              subst e72
              rw [ints_get] at hc7
              simp only [natsI, List.getElem_map, Hxx.out, Int.ofNat_eq_natCast] at hc7
              go_wp2_with fail
              go_loop [166] (fun idx => ∃ q : Nat, q ≤ O.length ∧ idx = .int .i64 q ∧ ∀ r (h : r < q) (h2 : r < O.length), V ^^^ xorP (gv (digsOf s.data.toList)) O[r] ≠ 0) (fun idx => O.length - (intOf idx).toNat)
              case atStart => exact ⟨0, by omega, rfl, fun r h => by omega⟩
              case round =>
                obtain ⟨q, hq, rfl, hprev⟩ := hrel
                have Hprev := hide hprev
                clear hprev
                by_cases hlq : q < O.length
                · obtain ⟨b9, o9, rfl, Ak, ck, hck, hc9, hcr⟩ := rows_at HR6'.out hlq
                  have hpl := (HmO.out q hlq).1
                  have hpx := (HmO.out q hlq).2
                  obtain ⟨ps', hps'⟩ : ∃ ps', O[q] = ps' := ⟨_, rfl⟩
                  rw [hps'] at hck hc9 hcr hpl hpx
                  have Hps' := hide hps'
                  have Hcr := hide hcr
                  have Hpx := hide hpx
                  clear hps' hcr hpx
                  go_wp2_with fail
                  go_loop [22, 183] (fun vv idx => ∃ j : Nat, j ≤ ps'.length ∧ idx = .int .i64 j ∧ vv = .int .i64 (xorF (gv (digsOf s.data.toList)) V (ps'.take j) : Nat)) (fun _ idx => ps'.length - (intOf idx).toNat)
                  case atStart => exact ⟨0, by omega, rfl, rfl⟩
                  case round =>
                    obtain ⟨j, hj, rfl, rfl⟩ := hrel
                    have hgl := fun y (hy : y < x) => gv_lt (d := digsOf s.data.toList) (h := y) hd6 (by omega)
                    have hb : xorF (gv (digsOf s.data.toList)) V (ps'.take j) < 4096 := by
                      rw [xorF_eq]
                      exact Nat.xor_lt_two_pow (n := 12) (by omega) (xorP_lt (n := 12) (fun y hy => by have := hgl y (Hpx.out y (List.mem_of_mem_take hy)); omega))
                    by_cases hlj : j < ps'.length
                    · obtain ⟨b10, o10, rfl, _, hc10⟩ := Hcr.out.at_ (k := j) (by simpa [natsI] using hlj)
                      rw [ints_get] at hc10
                      simp only [natsI, List.getElem_map] at hc10
                      have hyx := Hpx.out ps'[j] (List.getElem_mem hlj)
                      obtain ⟨b11, o11, e11, _, hc11⟩ := Hg6.out.at_ (k := ps'[j]) (by simp [gInts]; omega)
                      injection e11 with e11
                      injection e11 with e12 e13
                      subst e12
                      subst e13
                      rw [ints_get] at hc11
                      simp only [gInts, List.getElem_map, List.getElem_range] at hc11
                      have hxo := xor_nat64 (xorF (gv (digsOf s.data.toList)) V (ps'.take j)) (gv (digsOf s.data.toList) ps'[j]) (by omega) (by have := hgl _ hyx; omega)
                      obtain ⟨Z, hZ⟩ : ∃ Z, xorF (gv (digsOf s.data.toList)) V (ps'.take j) = Z := ⟨_, rfl⟩
                      obtain ⟨U, hU⟩ : ∃ U, gv (digsOf s.data.toList) ps'[j] = U := ⟨_, rfl⟩
                      obtain ⟨y, hyy⟩ : ∃ y, ps'[j] = y := ⟨_, rfl⟩
                      have HZU := hide (show xorF (gv (digsOf s.data.toList)) V (ps'.take (j + 1)) = Z ^^^ U by rw [List.take_succ_eq_append_getElem hlj, xorF_snoc, hZ, hU])
                      rw [hZ, hU] at hxo
                      rw [hZ]
                      rw [hyy] at hc10 hyx hc11 hU
                      rw [hU] at hc11
                      simp only [Int.ofNat_eq_natCast] at hc10
                      clear hZ hU hyy hb hgl
                      go_wp2_with fail
                      go_round
                      case rel => exact ⟨j + 1, by omega, by go_num, by rw [HZU.out]⟩
                      case measure => simp [intOf]; omega
                    · have hje : j = ps'.length := by omega
                      subst hje
                      rw [List.take_length]
                      obtain ⟨Z, hZ⟩ : ∃ Z, xorF (gv (digsOf s.data.toList)) V ps' = Z := ⟨_, rfl⟩
                      rw [hZ]
                      have hVZ : V ^^^ xorP (gv (digsOf s.data.toList)) ps' = Z := by rw [← hZ, xorF_eq]
                      clear hZ hb hgl hlj hj
                      by_cases hz : Z = 0
                      · obtain ⟨rfl, rfl⟩ := first_same_ Hfin.out.1 (by rw [← HX1.out]; exact Hfin.out.2.1) (by rw [← HX1.out]; exact Hfin.out.2.2.1) (by rw [← HX1.out]; exact Hfin.out.2.2.2) hlk Hxx.out HO.out HV.out hlq Hps'.out (by rw [hVZ]; exact hz) Hlow.out Hprev.out
                        have hz1 : ((Z : Int) == 0) = true := by simp [hz]
                        have hbo := Hbo.out.below Hb6.out hs5
                        have t1 := hbo.cellv (i := 0) (v := .int .i64 k) rfl
                        have t2 := hbo.cellv (i := 1) (v := .slice A4 ps'.length c4) rfl
                        have hC6 := (HC5.out.more Hw5.out.size).below Hb6.out
                        have Hsame := hide (fun n => (same_int A4 Ak c4 ck (natsI ps') (natsI ps') (w6.drewN n) _ _ (by rw [natsI_len]; omega) (by rw [natsI_len]; omega) (hC6.keep (fun _ _ => rfl)) (Hcr.out.keep (fun _ _ => rfl))).mono
                          fun e w' h => (⟨by simpa using h.1, by obtain ⟨q, hq⟩ := h.2; exact ⟨n + q, by rw [hq, World.drewN_drewN]⟩⟩ : e = .returned (.bool true) ∧ ∃ n, w' = w6.drewN n))
                        simp only [natsI_len] at Hsame
                        have hii : ((k : Int) == (k : Int)) = true := by simp
                        clear hbo hC6 hz hVZ
                        go_wp2_with fail
                        go_quiet ((go_at_call 16; exact Hsame.out _))
                        go_wp2_with fail
                        go_ret
                        refine ⟨rfl, ?_⟩
                        have hbb := Hb5.out.trans (Hb6.out.mono Hb5.out.size)
                        first
                          | exact below_drewN hbb _
                          | exact hbb
                      · have hz1 : ((Z : Int) == 0) = false := by simp; omega
                        have Hnz := hide (show V ^^^ xorP (gv (digsOf s.data.toList)) ps' ≠ 0 by rw [hVZ]; exact hz)
                        clear hz hVZ
                        go_wp2_with fail
                        go_round
                        case rel => exact ⟨q + 1, by omega, by go_num, fun r hr h2 => by
                          by_cases e : r = q
                          · subst e; rw [Hps'.out]; exact Hnz.out
                          · exact Hprev.out r (by omega) h2⟩
                        case measure => simp [intOf]; omega
                · have hqe : q = O.length := by omega
                  subst hqe
                  go_wp2_with fail
                  go_roundw
                  case rel => exact ⟨k + 1, by omega, by go_num, Hb6.out, fun j hj h2 ps' hps' => by
                    by_cases e : j = k
                    · subst e
                      rw [Hxx.out] at hps' ⊢
                      rw [HO.out] at hps'
                      rw [HV.out]
                      obtain ⟨r, hr, rfl⟩ := List.getElem_of_mem hps'
                      exact Hprev.out r hr hr
                    · exact Hlow.out j (by omega) h2 ps' hps'⟩
                  case measure => simp [intOf]; omega
            · exact absurd (by rw [← HX1.out]; exact Hfin.out.2.1) (Hlow.out i (by omega) hi ps (Hfin.out.1.subset (by simp)))
end Go.Proofs.Ytfoehijlafooaaa
