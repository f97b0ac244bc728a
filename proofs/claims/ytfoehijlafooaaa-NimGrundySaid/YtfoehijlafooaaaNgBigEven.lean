/- gamelaw.NimGrundy, walked: big, even (printed by mkng.py) -/
import Derived.Test.YtfoehijlafooaaaNimGrundyLaw1
import Derived.Test.YtfoehijlafooaaaNgPlain
namespace Go.Proofs.Ytfoehijlafooaaa
open Go.RowKit

set_option maxHeartbeats 4000000 in
set_option maxRecDepth 100000 in
theorem ng_big_even (s : ByteArray) (n : Int) (hn : 400 < n) (A : Option Addr) (c : Nat) (ns : List Nat) (hns : ∀ x ∈ ns, x ≤ 400) (h20 : ns.length ≤ 20) (hX : xorP (gv (digsOf s.data.toList)) ns = 0) (w : World) (hsz : s.size ≤ 9223372036854775807) (hl : ns.length ≤ 9223372036854775807) (hok : CodeOk s.data.toList) (hA : Cells w w.heap.size A (ints (natsI ns))) :
    Calls Try.prog 8 #[.string s, .int .i64 n, .slice A ns.length c] w fun e w' => e = .returned (.bool true) ∧ Below w.heap.size w w' := by
  have Hg := hide (grundy_out s n w hsz hok (by omega))
  have q1 : decide (n < 0) = false := by simp; omega
  have q2 : decide (n > 400) = true := by simp; omega
  have Hw := hide fun W (hW : Below w.heap.size w W) => win_even s A c ns W hsz hl hok ((hA.below hW).more hW.size) hns h20 hX
  have Hns := hide (fun j (hj : j < ns.length) => hns _ (List.getElem_mem hj))
  have HX := hide hX
  have q3 : decide ((ns.length : Int) ≤ 20) = true := by simp; omega
  clear hns hX
  have Hc := hide fun W => code_any s W hsz
  have Hgr := hide fun k (hk : k ≤ 400) W => grundies_any s k hk hok W
  have Htk := hide fun k (hk : k ≤ 400) W => takings_any s k hk hok W
  have Hok := hide hok
  have HA := hide hA
  obtain ⟨_, _, hd6⟩ := code_len hok
  clear hok hA hn
  go_enter Try.func8, Try.ntmps8
  go_wp2_with fail
  refine Hg.out.mono ?_
  rintro e w1 ⟨rfl, hb1⟩
  have Hb1 := hide hb1
  clear hb1
  go_wp2_with fail
  refine (Hw.out w1 Hb1.out).mono ?_
  rintro e w2 ⟨rfl, hb2⟩
  have Hb2 := hide (Hb1.out.trans (hb2.mono Hb1.out.size))
  clear hb2
  go_wp2_with (first | (go_at_call 27; refine (Hc.out _).mono ?_; rintro e w3 ⟨rfl, ⟨_, rfl⟩ | ⟨h, _⟩⟩; case inr => exact absurd Hok.out h) | fail)
  have hb3 := Hb2.out.trans (((Only.refl (fun _ => False) w2).alloc (.cells #[.int .i64 0, .slice none 0 0] 50)).below_ (fun _ h => h.elim) Hb2.out.size)
  have Hb3 := hide hb3
  clear hb3
  have HA3 := hide (HA.out.below Hb3.out)
  go_loop [13, 14, 96] (fun mv ok idx => ∃ k m : Nat, k ≤ ns.length ∧ idx = .int .i64 k ∧ mv = .int .i64 m ∧ ok = .bool true ∧ m ≤ 400 ∧ ∀ j (h : j < k) (h' : j < ns.length), ns[j] ≤ m) (fun _ _ idx => ns.length - (intOf idx).toNat)
  case atStart => exact ⟨0, 0, by omega, rfl, rfl, rfl, by omega, fun j h => by omega⟩
  case round =>
    obtain ⟨k, m, hk, rfl, rfl, rfl, hm, hall⟩ := hrel
    have Hall := hide hall
    clear hall
    by_cases hlk : k < ns.length
    · obtain ⟨b7, o7, rfl, _, hc7⟩ := HA3.out.at_ (k := k) (by simpa [natsI] using hlk)
      rw [ints_get] at hc7
      simp only [natsI, List.getElem_map] at hc7
      have hin := Hns.out k hlk
      obtain ⟨y, hy⟩ : ∃ y, ns[k] = y := ⟨_, rfl⟩
      rw [hy] at hc7 hin
      have Hy := hide hy
      simp only [Int.ofNat_eq_natCast] at hc7
      have p1 : decide ((y : Int) ≥ 0) = true := by simp
      have p2 : decide ((y : Int) ≤ 400) = true := by simp; omega
      clear hy
      go_wp2_with fail
      go_round
      case rel => exact ⟨k + 1, max m y, by omega, by go_num, by simp; split <;> omega, rfl, by omega, fun j h h' => by
        by_cases e : j = k
        · subst e; rw [Hy.out]; omega
        · have := Hall.out j (by omega) h'; omega⟩
      case measure => simp [intOf]; omega
    · have hke : k = ns.length := by omega
      subst hke
      clear hlk hk
      have Hm1 := hide (show ∀ j (h : j < ns.length), ns[j] < m + 1 from fun j h => by have := Hall.out j h h; omega)
      clear Hall
      go_wp2_with fail
      refine (Hgr.out m hm _).mono ?_
      rintro e w5 ⟨⟨A5, c5, rfl, hc5, hg5⟩, hb5⟩
      have Hg5 := hide hg5
      have Hb5 := hide (Hb3.out.trans (hb5.mono Hb3.out.size))
      have HA5 := hide (HA.out.below Hb5.out)
      have Hw5 := hide hb5
      clear hg5 hb5
      go_wp2_with fail
      go_loop [17, 133] (fun vv idx => ∃ k : Nat, k ≤ ns.length ∧ idx = .int .i64 k ∧ vv = .int .i64 (xorP (gv (digsOf s.data.toList)) (ns.take k) : Nat)) (fun _ idx => ns.length - (intOf idx).toNat)
      case atStart => exact ⟨0, by omega, rfl, rfl⟩
      case round =>
        obtain ⟨k, hk, rfl, rfl⟩ := hrel
        by_cases hlk : k < ns.length
        · have hb : xorP (gv (digsOf s.data.toList)) (ns.take k) < 4096 := xorP_lt (n := 12) (fun x hx => by
            obtain ⟨j, hj, rfl⟩ := List.getElem_of_mem hx
            have hj2 : j < ns.length := by have := List.length_take_le k ns; simp at hj; omega
            have := Hns.out j hj2
            rw [List.getElem_take]
            exact gv_lt hd6 (by omega))
          have hin := Hns.out k hlk
          have hgb : gv (digsOf s.data.toList) ns[k] < 4096 := gv_lt hd6 (by omega)
          obtain ⟨b7, o7, rfl, _, hc7⟩ := HA5.out.at_ (k := k) (by simpa [natsI] using hlk)
          rw [ints_get] at hc7
          simp only [natsI, List.getElem_map] at hc7
          obtain ⟨b8, o8, rfl, _, hc8⟩ := Hg5.out.at_ (k := ns[k]) (by simpa [gInts] using Hm1.out k hlk)
          rw [ints_get] at hc8
          simp only [gInts, List.getElem_map, List.getElem_range] at hc8
          have hym := Hm1.out k hlk
          have hxor := xor_nat64 (xorP (gv (digsOf s.data.toList)) (ns.take k)) (gv (digsOf s.data.toList) ns[k]) (by omega) (by omega)
          have hnext : xorP (gv (digsOf s.data.toList)) (ns.take (k + 1)) = xorP (gv (digsOf s.data.toList)) (ns.take k) ^^^ gv (digsOf s.data.toList) ns[k] := by
            rw [List.take_succ_eq_append_getElem hlk, xorP_snoc]
          obtain ⟨X, hX⟩ : ∃ X, xorP (gv (digsOf s.data.toList)) (ns.take k) = X := ⟨_, rfl⟩
          obtain ⟨Y, hY⟩ : ∃ Y, gv (digsOf s.data.toList) ns[k] = Y := ⟨_, rfl⟩
          obtain ⟨x, hxx⟩ : ∃ x, ns[k] = x := ⟨_, rfl⟩
          rw [hX, hY] at hnext
          rw [hX, hY] at hxor
          rw [hX] at hb ⊢
          rw [hxx] at hc7 hc8 hin hym
          rw [hxx] at hY
          rw [hY] at hc8
          simp only [Int.ofNat_eq_natCast] at hc7
          have Hn := hide hnext
          clear hnext hY hxx hgb hX
          go_wp2_with fail
          go_round
          case rel => exact ⟨k + 1, by omega, by go_num, by rw [Hn.out]⟩
          case measure => simp [intOf]; omega
        · have hke : k = ns.length := by omega
          subst hke
          clear hlk hk
          rw [List.take_length]
          obtain ⟨X, hX⟩ : ∃ X, xorP (gv (digsOf s.data.toList)) ns = X := ⟨_, rfl⟩
          rw [hX]
          have hx0 : ((X : Int) == 0) = true := by have := HX.out; rw [hX] at this; simp [this]
          have HX1 := hide hX
          clear hX
          go_wp2_with fail
          go_ret
          exact ⟨rfl, Hb5.out⟩
end Go.Proofs.Ytfoehijlafooaaa
