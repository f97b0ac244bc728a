/- gamelaw.NimGraphs answers true. -/
import Derived.Test.YtfoehijlafooaaaNimAns
import Derived.Test.YtfoehijlafooaaaSameInt
namespace Go.Proofs.Ytfoehijlafooaaa
open Go.RowKit

theorem bothE_a {a b : List (List Int)} (h : lookS a ≠ 0) : bothE a b = lookS a := by unfold bothE; rw [if_pos h]
theorem bothE_b {a b : List (List Int)} (h : lookS a = 0) (h' : lookS b ≠ 0) : bothE a b = lookS b := by unfold bothE; rw [if_neg (by simp [h]), if_pos h']
theorem bothE_n {a b : List (List Int)} (h : lookS a = 0) (h' : lookS b = 0) (h2 : 1000 < a.length * b.length) : bothE a b = 2 := by
  unfold bothE; rw [if_neg (by simp [h]), if_neg (by simp [h']), if_pos h2]
theorem bothL_ne {a b : List (List Int)} (h : bothE a b ≠ 0) : bothL a b = [] := by unfold bothL; rw [if_neg h]

set_option maxHeartbeats 4000000 in
set_option maxRecDepth 100000 in
theorem nimGraphs_a (A1 A2 : Option Addr) (c1 c2 : Nat) (a b : List (List Int)) (w : World) (hm1 : a.length ≤ 9223372036854775807) (hm2 : b.length ≤ 9223372036854775807)
    (hml1 : ∀ k (h : k < a.length), a[k].length ≤ 9223372036854775807) (hml2 : ∀ k (h : k < b.length), b[k].length ≤ 9223372036854775807)
    (h1 : Rows2 w w.heap.size A1 a) (h2 : Rows2 w w.heap.size A2 b) (ha : bothE a b ≠ 0) (hT : ¬ (lookS a = 0 ∧ lookS b = 0 ∧ ¬ 1000 < a.length * b.length)) :
    Calls Try.prog 4 #[.slice A1 a.length c1, .slice A2 b.length c2] w fun e w' => e = .returned (.bool true) ∧ Below w.heap.size w w' := by
  have hl7 : (valsL a).length ≤ 1000000 := by
    unfold valsL
    split
    · rename_i h; have := lookS_zero h.1; simp; omega
    · simp
  have hL0 := bothL_ne ha
  obtain ⟨vE, hvE⟩ : ∃ v, valsE a = v := ⟨_, rfl⟩
  have hvv : ((vE : Int) != vE) = false := by simp
  obtain ⟨bE, hbE⟩ : ∃ v, bothE a b = v := ⟨_, rfl⟩
  rw [hbE] at ha
  have hb1 : ((bE : Int) != 0) = true := by simpa using ha
  have hb2 : ((bE : Int) == bE) = true := by simp
  have hb3 : ((bE : Int) == 0) = false := by simpa using ha
  have HT := hide hT
  have H1 := hide h1
  have H2 := hide h2
  have Hml1 := hide hml1
  have Hml2 := hide hml2
  have HL0 := hide hL0
  have HvE := hide hvE
  have HbE := hide hbE
  clear h1 h2 hml1 hml2 hL0 hvE hbE ha hT
  go_enter Try.func4, Try.ntmps4
  go_wp2_with fail
  refine (values_any A1 c1 a w (by omega) H1.out).mono ?_
  intro e w1 he
  obtain ⟨⟨A3, c3, rfl, hc3, hcl3, hbw1⟩, hs⟩ := Vals.of he
  rw [HvE.out]
  have Hcl3 := hide hcl3
  have Hbw1 := hide hbw1
  have HR1 := hide ((H1.out.below hbw1).more hbw1.size)
  have HR2 := hide ((H2.out.below hbw1).more hbw1.size)
  clear he hs hcl3 hbw1
  go_wp2_with fail
  refine (valuesOf_any A1 c1 a w1 (by omega) (fun k h => by have := Hml1.out k h; omega) HR1.out).mono ?_
  intro e w2 he
  obtain ⟨⟨A4, c4, rfl, hc4, hcl4, hbw2⟩, hs⟩ := Vals.of he
  rw [HvE.out]
  have Hcl4 := hide hcl4
  have Hbw2 := hide hbw2
  have HR3 := hide ((HR1.out.below hbw2).more hbw2.size)
  have HR4 := hide ((HR2.out.below hbw2).more hbw2.size)
  clear he hs hcl4 hbw2
  go_wp2_with fail
  refine (both_any A1 A2 c1 c2 a b w2 (by omega) (by omega) HR3.out HR4.out).mono ?_
  intro e w3 he
  obtain ⟨A5, c5, rfl, hc5, hcl5, hbw3⟩ := BothP.of he
  rw [HbE.out, HL0.out]
  have Hcl5 := hide hcl5
  have Hbw3 := hide hbw3
  have HR5 := hide ((HR3.out.below hbw3).more hbw3.size)
  have HR6 := hide ((HR4.out.below hbw3).more hbw3.size)
  have Hs := hide ((same_int A3 A4 c3 c4 (valsL a) (valsL a) w3 _ _ (by omega) (by omega) ((Hcl3.out.below Hbw2.out).below (hbw3.mono Hbw2.out.size)) (Hcl4.out.below hbw3)).mono
    fun e w' h => (⟨by simpa using h.1, h.2⟩ : e = .returned (.bool true) ∧ ∃ n, w' = w3.drewN n))
  clear he hcl5 hbw3
  go_wp2_with fail
  refine Hs.out.mono ?_
  rintro e w4 ⟨rfl, n, rfl⟩
  have HR7 := hide (HR5.out.below (below_drewN (Below.refl _ w3) n))
  have HR8 := hide (HR6.out.below (below_drewN (Below.refl _ w3) n))
  have hball : Below w.heap.size w (w3.drewN n) := below_drewN ((Hbw1.out.trans (Hbw2.out.mono Hbw1.out.size)).trans (Hbw3.out.mono (Nat.le_trans Hbw1.out.size Hbw2.out.size))) n
  have Hball := hide hball
  clear hball
  by_cases ha0 : lookS a = 0
  · by_cases hb0 : lookS b = 0
    · have hbig : 1000 < a.length * b.length := by
        rcases Nat.lt_or_ge 1000 (a.length * b.length) with h | h
        · exact h
        · exact absurd ⟨ha0, hb0, by omega⟩ HT.out
      have hbe : bE = 2 := by rw [← HbE.out]; exact bothE_n ha0 hb0 hbig
      subst hbe
      obtain ⟨hn1, _, _⟩ := lookS_zero ha0
      obtain ⟨hn2, _, _⟩ := lookS_zero hb0
      have hbig1 : 1000 < (a.length : Int) * (b.length : Int) := by rw [← Int.natCast_mul]; omega
      have hbig2 : (a.length : Int) * (b.length : Int) ≤ 1000000 := by
        have h : a.length * b.length ≤ 1000 * 1000 := Nat.mul_le_mul hn1 hn2
        rw [← Int.natCast_mul]; omega
      have Ha0 := hide ha0
      have Hb0 := hide hb0
      clear ha0 hb0 hbig hb1 hb2 hb3
      go_wp2_with fail
      refine (graph_any A1 c1 a _ _ (by omega) (fun k h => by have := Hml1.out k h; omega) HR7.out).mono ?_
      rintro e w5 ⟨rfl, rfl⟩
      rw [Ha0.out]
      go_wp2_with fail
      refine (graph_any A2 c2 b _ _ (by omega) (fun k h => by have := Hml2.out k h; omega) HR8.out).mono ?_
      rintro e w5 ⟨rfl, rfl⟩
      rw [Hb0.out]
      go_wp2_with fail
      go_loop [11, 13] (fun wv i => wv = .int .i64 2 ∧ i = .int .i64 0) (fun _ _ => 0)
      case atStart => exact ⟨rfl, rfl⟩
      case round =>
        obtain ⟨rfl, rfl⟩ := hrel
        go_wp2_with fail
        go_ret
        exact ⟨rfl, Hball.out⟩
    · have hbe : lookS b = bE := by rw [← HbE.out]; exact (bothE_b ha0 hb0).symm
      have Ha0 := hide ha0
      have Hbe := hide hbe
      clear ha0 hb0 hbe
      go_wp2_with fail
      refine (graph_any A1 c1 a _ _ (by omega) (fun k h => by have := Hml1.out k h; omega) HR7.out).mono ?_
      rintro e w5 ⟨rfl, rfl⟩
      rw [Ha0.out]
      go_wp2_with fail
      refine (graph_any A2 c2 b _ _ (by omega) (fun k h => by have := Hml2.out k h; omega) HR8.out).mono ?_
      rintro e w5 ⟨rfl, rfl⟩
      rw [Hbe.out]
      go_wp2_with fail
      go_loop [11, 13] (fun wv i => wv = .int .i64 bE ∧ i = .int .i64 0) (fun _ _ => 0)
      case atStart => exact ⟨rfl, rfl⟩
      case round =>
        obtain ⟨rfl, rfl⟩ := hrel
        go_wp2_with fail
        go_ret
        exact ⟨rfl, Hball.out⟩
  · have hbe : lookS a = bE := by rw [← HbE.out]; exact (bothE_a ha0).symm
    have Hbe := hide hbe
    clear ha0 hbe
    go_wp2_with fail
    refine (graph_any A1 c1 a _ _ (by omega) (fun k h => by have := Hml1.out k h; omega) HR7.out).mono ?_
    rintro e w5 ⟨rfl, rfl⟩
    rw [Hbe.out]
    go_wp2_with fail
    go_loop [11, 13] (fun wv i => wv = .int .i64 bE ∧ i = .int .i64 0) (fun _ _ => 0)
    case atStart => exact ⟨rfl, rfl⟩
    case round =>
      obtain ⟨rfl, rfl⟩ := hrel
      go_wp2_with fail
      go_ret
      exact ⟨rfl, Hball.out⟩
end Go.Proofs.Ytfoehijlafooaaa
