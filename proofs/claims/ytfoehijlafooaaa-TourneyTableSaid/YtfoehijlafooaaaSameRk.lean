/- gamelaw.Same of ranks: three whole numbers each (told as the rows of TourPlain) -/
import Derived.Test.YtfoehijlafooaaaRows
import Derived.Test.YtfoehijlafooaaaTourRes
import Derived.Test.YtfoehijlafooaaaSameInt
import Derived.BigRegion
namespace Go.Proofs.Ytfoehijlafooaaa
open Go.RowKit

theorem res_ext3 {r s : Res} (h1 : r.a = s.a) (h2 : r.b = s.b) (h3 : r.h = s.h) : r = s := by
  cases r; cases s; simp at h1 h2 h3; simp [h1, h2, h3]

instance : DecidableEq Res := fun r s =>
  if h : r.a = s.a ∧ r.b = s.b ∧ r.h = s.h then isTrue (res_ext3 h.1 h.2.1 h.2.2) else isFalse (fun e => h (by rw [e]; exact ⟨rfl, rfl, rfl⟩))

set_option maxHeartbeats 1000000 in
set_option maxRecDepth 20000 in
theorem same_rk (A1 A2 : Option Addr) (c1 c2 : Nat) (l1 l2 : List Res) (w : World) (B1 B2 : Nat) (hm : l1.length ≤ 9223372036854775807) (hm2 : l2.length ≤ 9223372036854775807)
    (h1 : Cells w B1 A1 (ints (flatR l1))) (h2 : Cells w B2 A2 (ints (flatR l2))) :
    Calls Try.prog 36 #[.slice A1 l1.length c1, .slice A2 l2.length c2] w fun e w' => e = .returned (.bool (decide (l1 = l2))) ∧ ∃ n, w' = w.drewN n := by
  by_cases hl : l1.length = l2.length
  · have hl1 : ((l1.length : Int) != (l2.length : Int)) = false := by simp [hl]
    have Hl := hide hl
    have H1 := hide h1
    have H2 := hide h2
    clear hl h1 h2
    go_enter Try.func36, Try.ntmps36
    go_wp2_with fail
    go_loopw [13] (fun i wr => ∃ k n : Nat, k ≤ l1.length ∧ i = .int .i64 k ∧ wr = w.drewN n ∧ ∀ j (h : j < k) (h' : j < l1.length) (h2 : j < l2.length), l1[j] = l2[j]) (fun i _ => l1.length - (intOf i).toNat)
    case atStart => exact ⟨0, 0, by omega, rfl, rfl, by intro j hj; omega⟩
    case round =>
      obtain ⟨k, n, hk, rfl, rfl, hall⟩ := hrel
      have Hall := hide hall
      clear hall
      by_cases hlt : k < l1.length
      · have hlt2 : k < l2.length := by have := Hl.out; omega
        obtain ⟨b, off, rfl, hb, x0, x1, x2⟩ := res_at H1.out hlt
        obtain ⟨b2, off2, rfl, hb2, y0, y1, y2⟩ := res_at H2.out hlt2
        by_cases he : l1[k] = l2[k]
        · rw [← he] at y0 y1 y2
          have He := hide he
          clear he
          go_wp2_with fail
          go_big_region
          go_wp2_with fail
          go_roundw
          case rel => exact ⟨k + 1, _, by omega, by go_num, rfl, fun j hj h' h2 => by
            by_cases e : j = k
            · subst e; exact He.out
            · exact Hall.out j (by omega) h' h2⟩
          case measure => simp [intOf]; omega
        · have h3 : l1[k].a ≠ l2[k].a ∨ (l1[k].a = l2[k].a ∧ l1[k].b ≠ l2[k].b) ∨ (l1[k].a = l2[k].a ∧ l1[k].b = l2[k].b ∧ l1[k].h ≠ l2[k].h) := by
            by_cases q1 : l1[k].a = l2[k].a
            · by_cases q2 : l1[k].b = l2[k].b
              · exact .inr (.inr ⟨q1, q2, fun q3 => he (res_ext3 q1 q2 q3)⟩)
              · exact .inr (.inl ⟨q1, q2⟩)
            · exact .inl q1
          have hd : decide (l1 = l2) = false := by simp; exact list_ne_of Hl.out hlt he
          have Hd := hide hd
          clear he hd
          obtain ⟨⟨a, b, c⟩, hr⟩ : ∃ r, l1[k] = r := ⟨_, rfl⟩
          obtain ⟨⟨x, y, z⟩, hs⟩ : ∃ r, l2[k] = r := ⟨_, rfl⟩
          rw [hr] at h3 x0 x1 x2
          rw [hs] at h3 y0 y1 y2
          clear hr hs
          simp only at h3 x0 x1 x2 y0 y1 y2
          rcases h3 with h3 | ⟨rfl, h3⟩ | ⟨rfl, rfl, h3⟩
          · go_wp2_with fail
            go_big_region
            go_wp2_with fail
            go_ret
            exact ⟨by rw [Hd.out]; rfl, _, rfl⟩
          · go_wp2_with fail
            go_big_region
            go_wp2_with fail
            go_ret
            exact ⟨by rw [Hd.out]; rfl, _, rfl⟩
          · go_wp2_with fail
            go_big_region
            go_wp2_with fail
            go_ret
            exact ⟨by rw [Hd.out]; rfl, _, rfl⟩
      · have hd : decide (l1 = l2) = true := by
          simp
          apply List.ext_getElem Hl.out
          intro j h1 h2
          exact Hall.out j (by omega) h1 h2
        have Hd := hide hd
        clear hd
        go_wp2
        go_ret
        exact ⟨by rw [Hd.out]; rfl, _, rfl⟩
  · have hl1 : ((l1.length : Int) != (l2.length : Int)) = true := by simp; omega
    have hd : decide (l1 = l2) = false := by simp; rintro rfl; exact hl rfl
    have Hd := hide hd
    have H1 := hide h1
    have H2 := hide h2
    clear hl h1 h2 hd
    go_enter Try.func36, Try.ntmps36
    go_wp2
    go_ret
    exact ⟨by rw [Hd.out]; rfl, 0, rfl⟩
end Go.Proofs.Ytfoehijlafooaaa
