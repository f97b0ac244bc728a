/- gamelaw.Same of ints: are two lists the same? -/
import Derived.Test.YtfoehijlafooaaaRows
import Derived.Test.YtfoehijlafooaaaBase
namespace Go.Proofs.Ytfoehijlafooaaa
open Go.RowKit

theorem list_ne_of {α : Type} {l l' : List α} (hl : l.length = l'.length) {k : Nat} (h : k < l.length) (hne : l[k] ≠ l'[k]'(by omega)) : l ≠ l' := by
  rintro rfl; exact hne rfl

set_option maxHeartbeats 1000000 in
set_option maxRecDepth 20000 in
theorem same_int (A1 A2 : Option Addr) (c1 c2 : Nat) (l1 l2 : List Int) (w : World) (B1 B2 : Nat) (hm : l1.length ≤ 9223372036854775807) (hm2 : l2.length ≤ 9223372036854775807)
    (h1 : Cells w B1 A1 (ints l1)) (h2 : Cells w B2 A2 (ints l2)) :
    Calls Try.prog 16 #[.slice A1 l1.length c1, .slice A2 l2.length c2] w fun e w' => e = .returned (.bool (decide (l1 = l2))) ∧ ∃ n, w' = w.drewN n := by
  by_cases hl : l1.length = l2.length
  · have hl1 : ((l1.length : Int) != (l2.length : Int)) = false := by simp [hl]
    have Hl := hide hl
    have H1 := hide h1
    have H2 := hide h2
    clear hl h1 h2
    go_enter Try.func16, Try.ntmps16
    go_wp2
    go_loopw [13] (fun i wr => ∃ k n : Nat, k ≤ l1.length ∧ i = .int .i64 k ∧ wr = w.drewN n ∧ ∀ j (h : j < k) (h' : j < l1.length) (h2 : j < l2.length), l1[j] = l2[j]) (fun i _ => l1.length - (intOf i).toNat)
    case atStart => exact ⟨0, 0, by omega, rfl, rfl, by intro j hj; omega⟩
    case round =>
      obtain ⟨k, n, hk, rfl, rfl, hall⟩ := hrel
      have Hall := hide hall
      clear hall
      by_cases hlt : k < l1.length
      · have hlt2 : k < l2.length := by have := Hl.out; omega
        obtain ⟨b, off, rfl, hb, hc1⟩ := H1.out.at_ (k := k) (by simpa using hlt)
        obtain ⟨b2, off2, rfl, hb2, hc2⟩ := H2.out.at_ (k := k) (by simpa using hlt2)
        rw [ints_get] at hc1 hc2
        by_cases he : l1[k] = l2[k]
        · rw [← he] at hc2
          have He := hide he
          clear he
          go_wp2_with fail
          go_quiet (fail)
          go_wp2
          go_roundw
          case rel => exact ⟨k + 1, _, by omega, by go_num, rfl, fun j hj h' h2 => by
            by_cases e : j = k
            · subst e; exact He.out
            · exact Hall.out j (by omega) h' h2⟩
          case measure => simp [intOf]; omega
        · have hne : (l1[k] != l2[k]) = true := by simpa using he
          have hd : decide (l1 = l2) = false := by simp; exact list_ne_of Hl.out hlt he
          have Hd := hide hd
          clear he hd
          go_wp2_with fail
          go_quiet (fail)
          go_wp2
          go_ret
          exact ⟨by rw [Hd.out]; rfl, _, World.drewN_drewN _ _ _⟩
      · have hd : decide (l1 = l2) = true := by
          simp
          apply List.ext_getElem Hl.out
          intro j h1 h2
          exact Hall.out j (by omega) h1 h2
        have Hd := hide hd
        clear hd
        go_wp2
        go_ret
        exact ⟨by rw [Hd.out]; rfl, _, rfl⟩
  · have hl1 : ((l1.length : Int) != (l2.length : Int)) = true := by simp; omega
    have hd : decide (l1 = l2) = false := by simp; rintro rfl; exact hl rfl
    have Hd := hide hd
    have H1 := hide h1
    have H2 := hide h2
    clear hl h1 h2 hd
    go_enter Try.func16, Try.ntmps16
    go_wp2
    go_ret
    exact ⟨by rw [Hd.out]; rfl, 0, rfl⟩
end Go.Proofs.Ytfoehijlafooaaa
