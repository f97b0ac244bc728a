/- gamelaw.NimGrundy, walked: neg, bad (printed by mkng.py) -/
import Derived.Test.YtfoehijlafooaaaNimGrundyLaw1
import Derived.Test.YtfoehijlafooaaaNgPlain
namespace Go.Proofs.Ytfoehijlafooaaa
open Go.RowKit

set_option maxHeartbeats 4000000 in
set_option maxRecDepth 100000 in
theorem ng_neg_bad (s : ByteArray) (n : Int) (hn : n < 0) (A : Option Addr) (c : Nat) (hs : List Int) (hH : ¬ HOk hs) (w : World) (hsz : s.size ≤ 9223372036854775807) (hl : hs.length ≤ 9223372036854775807) (hok : CodeOk s.data.toList) (hA : Cells w w.heap.size A (ints hs)) :
    Calls Try.prog 8 #[.string s, .int .i64 n, .slice A hs.length c] w fun e w' => e = .returned (.bool true) ∧ Below w.heap.size w w' := by
  have Hg := hide (grundy_out s n w hsz hok (by omega))
  have q1 : decide (n < 0) = true := by simp [hn]
  have Hw := hide fun W (hW : Below w.heap.size w W) => win_bad s A c hs W hsz hl hok ((hA.below hW).more hW.size) hH
  have HH := hide hH
  clear hH
  obtain ⟨b0, hb0⟩ : ∃ b, decide ((hs.length : Int) ≤ 20) = b := ⟨_, rfl⟩
  have Hb0 := hide (show b0 = true → hs.length ≤ 20 by intro h; rw [h] at hb0; simp at hb0; omega)
  have Hc := hide fun W => code_any s W hsz
  have Hgr := hide fun k (hk : k ≤ 400) W => grundies_any s k hk hok W
  have Htk := hide fun k (hk : k ≤ 400) W => takings_any s k hk hok W
  have Hok := hide hok
  have HA := hide hA
  obtain ⟨_, _, hd6⟩ := code_len hok
  clear hok hA hn
  go_enter Try.func8, Try.ntmps8
  go_wp2_with fail
  refine Hg.out.mono ?_
  rintro e w1 ⟨rfl, hb1⟩
  have Hb1 := hide hb1
  clear hb1
  go_wp2_with fail
  refine (Hw.out w1 Hb1.out).mono ?_
  rintro e w2 ⟨rfl, hb2⟩
  have Hb2 := hide (Hb1.out.trans (hb2.mono Hb1.out.size))
  clear hb2
  go_wp2_with (first | (go_at_call 27; refine (Hc.out _).mono ?_; rintro e w3 ⟨rfl, ⟨_, rfl⟩ | ⟨h, _⟩⟩; case inr => exact absurd Hok.out h) | fail)
  have hb3 := Hb2.out.trans (((Only.refl (fun _ => False) w2).alloc (.cells #[.int .i64 0, .slice none 0 0] 50)).below_ (fun _ h => h.elim) Hb2.out.size)
  have Hb3 := hide hb3
  clear hb3
  have HA3 := hide (HA.out.below Hb3.out)
  go_loop [13, 14, 96] (fun mv ok idx => ∃ (k : Nat) (m : Int) (b : Bool), k ≤ hs.length ∧ idx = .int .i64 k ∧ mv = .int .i64 m ∧ ok = .bool b ∧ (b = true → hs.length ≤ 20 ∧ ∀ j (h : j < k) (h' : j < hs.length), 0 ≤ hs[j] ∧ hs[j] ≤ 400)) (fun _ _ idx => hs.length - (intOf idx).toNat)
  case atStart => exact ⟨0, 0, _, by omega, rfl, rfl, rfl, fun h => ⟨Hb0.out h, fun j h => by omega⟩⟩
  case round =>
    obtain ⟨k, m, b, hk, rfl, rfl, rfl, hall⟩ := hrel
    have Hall := hide hall
    clear hall
    by_cases hlk : k < hs.length
    · obtain ⟨b7, o7, rfl, _, hc7⟩ := HA3.out.at_ (k := k) (by simpa using hlk)
      rw [ints_get] at hc7
      obtain ⟨x, hx⟩ : ∃ x, hs[k] = x := ⟨_, rfl⟩
      rw [hx] at hc7
      have Hx := hide hx
      clear hx
      cases b with
      | false =>
        go_wp2_with fail
        go_round
        case rel => exact ⟨k + 1, _, false, by omega, by go_num, rfl, rfl, by simp⟩
        case measure => simp [intOf]; omega
      | true =>
        by_cases h1 : x ≥ 0
        · have p1 : decide (x ≥ 0) = true := by simpa using h1
          by_cases h2 : x ≤ 400
          · have p2 : decide (x ≤ 400) = true := by simpa using h2
            go_wp2_with fail
            go_round
            case rel => exact ⟨k + 1, _, true, by omega, by go_num, rfl, rfl, fun _ => ⟨(Hall.out rfl).1, fun j h h' => by
              by_cases e : j = k
              · subst e; rw [Hx.out]; exact ⟨h1, h2⟩
              · exact (Hall.out rfl).2 j (by omega) h'⟩⟩
            case measure => simp [intOf]; omega
          · have p2 : decide (x ≤ 400) = false := by simpa using h2
            go_wp2_with fail
            go_round
            case rel => exact ⟨k + 1, _, false, by omega, by go_num, rfl, rfl, by simp⟩
            case measure => simp [intOf]; omega
        · have p1 : decide (x ≥ 0) = false := by simpa using h1
          go_wp2_with fail
          go_round
          case rel => exact ⟨k + 1, _, false, by omega, by go_num, rfl, rfl, by simp⟩
          case measure => simp [intOf]; omega
    · cases b with
      | true =>
        refine absurd ⟨fun x hx => ?_, (Hall.out rfl).1⟩ HH.out
        obtain ⟨j, hj, rfl⟩ := List.getElem_of_mem hx
        exact (Hall.out rfl).2 j (by omega) hj
      | false =>
        go_wp2_with fail
        go_ret
        exact ⟨rfl, Hb3.out⟩
end Go.Proofs.Ytfoehijlafooaaa
