/- gameref.Touch, gameref.Fits -/
import Derived.Test.YtfoehijlafooaaaDoorPzMask
import Derived.Test.YtfoehijlafooaaaDoorPzBox
import Derived.BigQuiet
namespace Go.Proofs.YtfoehijlafooaaaDoor
open Go.RowKit

theorem tdivN (a b : Nat) : (a : Int).tdiv (b : Int) = ((a / b : Nat) : Int) := (Int.ofNat_tdiv a b).symm
theorem tmodN (a b : Nat) : (a : Int).tmod (b : Int) = ((a % b : Nat) : Int) := (Int.ofNat_tmod a b).symm
theorem beqN (a b : Nat) : ((a : Int) == (b : Int)) = (a == b) := by
  by_cases h : a = b
  · simp [h]
  · have : ((a : Int) == (b : Int)) = false := by simp; omega
    rw [this]; simp [h]

set_option maxHeartbeats 4000000 in
set_option maxRecDepth 100000 in
theorem touch_any (r k i j : Nat) (w : World) (hr : 0 < r) (hk : 0 < k) (hr3 : r ≤ 3) (hk3 : k ≤ 3) (hi : i < 81) (hj : j < 81) :
    Calls Tryd.prog 15 #[.int .i64 r, .int .i64 k, .int .i64 i, .int .i64 j] w fun e w' => e = .returned (.bool (touch r k i j)) ∧ ∃ n, w' = w.drewN n := by
  unfold touch
  obtain ⟨n, hn⟩ : ∃ n, r * k = n := ⟨_, rfl⟩
  have hn0 : 0 < n := by rw [← hn]; exact Nat.mul_pos hr hk
  have hn9 : n ≤ 9 := by rw [← hn]; exact Nat.le_trans (Nat.mul_le_mul hr3 hk3) (by decide)
  have eprod : (r : Int) * (k : Int) = (n : Int) := by rw [← hn]; simp
  rw [hn]
  have e1 := tdivN i n
  have e2 := tmodN i n
  have e3 := tdivN j n
  have e4 := tmodN j n
  have ba : i / n < 81 := Nat.lt_of_le_of_lt (Nat.div_le_self _ _) hi
  have bb : i % n < 81 := Nat.lt_of_le_of_lt (Nat.mod_le _ _) hi
  have bc : j / n < 81 := Nat.lt_of_le_of_lt (Nat.div_le_self _ _) hj
  have bd : j % n < 81 := Nat.lt_of_le_of_lt (Nat.mod_le _ _) hj
  obtain ⟨a, ha⟩ : ∃ a, i / n = a := ⟨_, rfl⟩
  obtain ⟨b, hb⟩ : ∃ b, i % n = b := ⟨_, rfl⟩
  obtain ⟨c, hc⟩ : ∃ c, j / n = c := ⟨_, rfl⟩
  obtain ⟨d, hd⟩ : ∃ d, j % n = d := ⟨_, rfl⟩
  rw [ha] at e1 ba ⊢
  rw [hb] at e2 bb ⊢
  rw [hc] at e3 bc ⊢
  rw [hd] at e4 bd ⊢
  have f1 := tdivN a r
  have f2 := tdivN c r
  have f3 := tdivN b k
  have f4 := tdivN d k
  have ca : a / r < 81 := Nat.lt_of_le_of_lt (Nat.div_le_self _ _) ba
  have cb : c / r < 81 := Nat.lt_of_le_of_lt (Nat.div_le_self _ _) bc
  have cc : b / k < 81 := Nat.lt_of_le_of_lt (Nat.div_le_self _ _) bb
  have cd : d / k < 81 := Nat.lt_of_le_of_lt (Nat.div_le_self _ _) bd
  obtain ⟨p, hp⟩ : ∃ p, a / r = p := ⟨_, rfl⟩
  obtain ⟨q, hq⟩ : ∃ q, c / r = q := ⟨_, rfl⟩
  obtain ⟨s, hs⟩ : ∃ s, b / k = s := ⟨_, rfl⟩
  obtain ⟨t, ht⟩ : ∃ t, d / k = t := ⟨_, rfl⟩
  rw [hp] at f1 ca ⊢
  rw [hq] at f2 cb ⊢
  rw [hs] at f3 cc ⊢
  rw [ht] at f4 cd ⊢
  clear ha hb hc hd hp hq hs ht hn
  have g1 := beqN a c
  have g2 := beqN b d
  have g3 := beqN p q
  have g4 := beqN s t
  obtain ⟨x1, h1⟩ : ∃ x, (a == c) = x := ⟨_, rfl⟩
  obtain ⟨x2, h2⟩ : ∃ x, (b == d) = x := ⟨_, rfl⟩
  obtain ⟨x3, h3⟩ : ∃ x, (p == q) = x := ⟨_, rfl⟩
  obtain ⟨x4, h4⟩ : ∃ x, (s == t) = x := ⟨_, rfl⟩
  rw [h1] at g1 ⊢
  rw [h2] at g2 ⊢
  rw [h3] at g3 ⊢
  rw [h4] at g4 ⊢
  clear h1 h2 h3 h4
  go_enter Tryd.func15, Tryd.ntmps15
  go_wp2_with fail
  go_quiet (fail)
  go_wp2_with fail
  cases x1
  · cases x2
    · cases x3
      · go_quiet (fail)
        go_wp2_with fail
        go_ret
        exact ⟨rfl, _, World.drewN_drewN _ _ _⟩
      · go_quiet (fail)
        go_wp2_with fail
        go_ret
        exact ⟨by cases x4 <;> rfl, _, World.drewN_drewN _ _ _⟩
    · go_quiet (fail)
      go_wp2_with fail
      go_ret
      exact ⟨rfl, _, World.drewN_drewN _ _ _⟩
  · go_quiet (fail)
    go_wp2_with fail
    go_ret
    exact ⟨rfl, _, World.drewN_drewN _ _ _⟩

set_option maxHeartbeats 4000000 in
set_option maxRecDepth 100000 in
theorem fits_any (r k : Nat) (A : Option Addr) (c : Nat) (cells : List Int) (W : World) (B0 : Nat) (hr : 0 < r) (hk : 0 < k) (hr3 : r ≤ 3) (hk3 : k ≤ 3) (hl : cells.length ≤ 81) (hA : Cells W B0 A (ints cells)) :
    Calls Tryd.prog 12 #[.int .i64 r, .int .i64 k, .slice A cells.length c] W fun e w' => e = .returned (.bool (fitsG r k cells)) ∧ ∃ n, w' = W.drewN n := by
  have HT := hide (fun i j hi hj w => touch_any r k i j w hr hk hr3 hk3 hi hj)
  have HA := hide hA
  clear hA
  go_enter Tryd.func12, Tryd.ntmps12
  go_wp2_with fail
  go_loopw [7] (fun idx wr => ∃ i n : Nat, i ≤ cells.length ∧ idx = .int .i64 i ∧ wr = W.drewN n ∧ FitsTo r k cells i) (fun idx _ => cells.length - (intOf idx).toNat)
  case atStart => exact ⟨0, 0, by omega, rfl, rfl, fun i hi => absurd hi (by omega)⟩
  case round =>
    obtain ⟨i, n, hi, rfl, rfl, hF⟩ := hrel
    have HF := hide hF
    clear hF
    by_cases hlt : i < cells.length
    · obtain ⟨b, off, rfl, hb, c1⟩ := HA.out.at_ (k := i) (by simpa using hlt)
      rw [ints_get, ← gat_get hlt] at c1
      go_wp2_with fail
      go_loopw [8] (fun idx wr => ∃ j n : Nat, j ≤ i ∧ idx = .int .i64 j ∧ wr = W.drewN n ∧ ∀ q, q < j → gat cells i > 0 → gat cells i = gat cells q → touch r k i q = false) (fun idx _ => i - (intOf idx).toNat)
      case atStart => exact ⟨0, n, by omega, rfl, rfl, fun q hq => absurd hq (by omega)⟩
      case round =>
        obtain ⟨j, m, hj, rfl, rfl, hJ⟩ := hrel
        have HJ := hide hJ
        clear hJ
        by_cases hjlt : j < i
        · have hjl : j < cells.length := by omega
          have c2 : W.cell? ⟨b, off + j, none⟩ = some (.int .i64 (gat cells j)) := by
            obtain ⟨b', off', e, _, h⟩ := HA.out.at_ (k := j) (by simpa using hjl)
            injection e with e
            injection e with e1 e2
            subst e1
            subst e2
            rw [h, ints_get, gat_get hjl]
          have htc := HT.out i j (by omega) (by omega)
          obtain ⟨x, hx⟩ : ∃ x, gat cells i = x := ⟨_, rfl⟩
          obtain ⟨y, hy⟩ : ∃ y, gat cells j = y := ⟨_, rfl⟩
          rw [hx] at c1
          rw [hy] at c2
          have Hx := hide hx
          have Hy := hide hy
          clear hx hy
          obtain ⟨tb, htb⟩ : ∃ tb, touch r k i j = tb := ⟨_, rfl⟩
          rw [htb] at htc
          have Htc := hide htc
          have Htb := hide htb
          clear htc htb
          have Hnext := hide (show ((gat cells i > 0 → gat cells i = gat cells j → touch r k i j = false) → ∀ q, q < j + 1 → gat cells i > 0 → gat cells i = gat cells q → touch r k i q = false) from fun h q hq g1 g2 => by
            by_cases e : q = j
            · subst e; exact h g1 g2
            · exact HJ.out q (by omega) g1 g2)
          by_cases hp : x > 0
          · have d1 : decide (x > 0) = true := by simp [hp]
            by_cases he : x = y
            · subst he
              have Hp := hide hp
              clear hp
              cases tb
              · go_wp2_with fail
                obtain ⟨w1, hw1⟩ : ∃ w1, W.drewN m = w1 := ⟨_, rfl⟩
                have z1 : w1.cell? ⟨b, off + i, none⟩ = some (.int .i64 x) := by rw [← hw1]; exact c1
                have z2 : w1.cell? ⟨b, off + j, none⟩ = some (.int .i64 x) := by rw [← hw1]; exact c2
                rw [hw1]
                have Hw1 := hide hw1
                clear hw1 c1 c2
                go_quiet ((go_at_call 15; exact quiet_call (Htc.out _)))
                go_wp2_with fail
                go_roundw
                case rel => exact ⟨j + 1, _, by omega, by go_num, by rw [← Hw1.out]; exact World.drewN_drewN _ _ _, Hnext.out (fun _ _ => Htb.out)⟩
                case measure => simp [intOf]; omega
              · have Hres := hide (show fitsG r k cells = false from fits_not hlt (fun h => by
                  have h2 := h i (by omega) j hjlt (by rw [Hx.out]; exact Hp.out) (by rw [Hx.out, Hy.out])
                  rw [Htb.out] at h2; cases h2))
                go_wp2_with fail
                obtain ⟨w1, hw1⟩ : ∃ w1, W.drewN m = w1 := ⟨_, rfl⟩
                have z1 : w1.cell? ⟨b, off + i, none⟩ = some (.int .i64 x) := by rw [← hw1]; exact c1
                have z2 : w1.cell? ⟨b, off + j, none⟩ = some (.int .i64 x) := by rw [← hw1]; exact c2
                rw [hw1]
                have Hw1 := hide hw1
                clear hw1 c1 c2
                go_quiet ((go_at_call 15; exact quiet_call (Htc.out _)))
                go_wp2_with fail
                go_ret
                exact ⟨by rw [Hres.out]; rfl, _, by rw [← Hw1.out]; exact World.drewN_drewN _ _ _⟩
            · have d2 : (x == y) = false := by simp [he]
              have Hn2 := hide (Hnext.out (fun _ g => by rw [Hx.out, Hy.out] at g; exact absurd g he))
              clear he hp
              go_wp2_with fail
              go_quiet (fail)
              go_wp2_with fail
              go_roundw
              case rel => exact ⟨j + 1, _, by omega, by go_num, rfl, Hn2.out⟩
              case measure => simp [intOf]; omega
          · have d1 : decide (x > 0) = false := by simp; omega
            have Hn2 := hide (Hnext.out (fun g _ => by rw [Hx.out] at g; exact absurd g hp))
            clear hp
            go_wp2_with fail
            go_quiet (fail)
            go_wp2_with fail
            go_roundw
            case rel => exact ⟨j + 1, _, by omega, by go_num, rfl, Hn2.out⟩
            case measure => simp [intOf]; omega
        · obtain rfl : j = i := by omega
          go_wp2_with fail
          go_roundw
          case rel => exact ⟨j + 1, _, by omega, by go_num, rfl, fun a ha q hq g1 g2 => by
            by_cases e : a = j
            · subst e; exact HJ.out q hq g1 g2
            · exact HF.out a (by omega) q hq g1 g2⟩
          case measure => simp [intOf]; omega
    · obtain rfl : i = cells.length := by omega
      have Hres := hide (fitsG_iff.2 HF.out)
      go_wp2_with fail
      go_ret
      exact ⟨by rw [Hres.out]; rfl, _, rfl⟩
end Go.Proofs.YtfoehijlafooaaaDoor
