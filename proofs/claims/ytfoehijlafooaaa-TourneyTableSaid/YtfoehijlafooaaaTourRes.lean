/- tourney.results, gameref.Results -/
import Derived.Test.YtfoehijlafooaaaTourPlain
import Derived.Test.YtfoehijlafooaaaBase
import Derived.Test.YtfoehijlafooaaaRows
import Derived.Test.YtfoehijlafooaaaAppends
namespace Go.Proofs.Ytfoehijlafooaaa
open Go.RowKit

theorem res_at {w : World} {B : Nat} {A : Option Addr} {rs : List Res} (h : Cells w B A (ints (flatR rs))) {i : Nat} (hi : i < rs.length) :
    ∃ b off, A = some ⟨b, off, none⟩ ∧ b < B ∧ w.cell? ⟨b, off + i * 3, none⟩ = some (.int .i64 rs[i].a) ∧ w.cell? ⟨b, off + i * 3 + 1, none⟩ = some (.int .i64 rs[i].b) ∧ w.cell? ⟨b, off + i * 3 + 2, none⟩ = some (.int .i64 rs[i].h) := by
  have hl : (ints (flatR rs)).length = rs.length * 3 := by rw [ints_length, flatR_len]
  obtain ⟨g1, g2, g3⟩ := flatR_get rs i hi
  obtain ⟨b, off, rfl, hb, hc⟩ := h (by omega)
  refine ⟨b, off, rfl, hb, ?_, ?_, ?_⟩
  · rw [hc (i * 3) (by omega), ints_get]
    rw [List.getElem?_eq_getElem (by rw [flatR_len]; omega)] at g1
    injection g1 with g1; rw [g1]
  · rw [Nat.add_assoc, hc (i * 3 + 1) (by omega), ints_get]
    rw [List.getElem?_eq_getElem (by rw [flatR_len]; omega)] at g2
    injection g2 with g2; rw [g2]
  · rw [Nat.add_assoc, hc (i * 3 + 2) (by omega), ints_get]
    rw [List.getElem?_eq_getElem (by rw [flatR_len]; omega)] at g3
    injection g3 with g3; rw [g3]
set_option maxHeartbeats 2000000 in
set_option maxRecDepth 100000 in
theorem results_any (n : Int) (A : Option Addr) (c : Nat) (rs : List Res) (W : World) (hl : rs.length ≤ 9223372036854775807) (hA : Cells W W.heap.size A (ints (flatR rs))) :
    Calls Try.prog 64 #[.int .i64 n, .slice A rs.length c] W fun e w' => e = .returned (.bool (resB n rs)) ∧ Below W.heap.size W w' := by
  have HA := hide hA
  clear hA
  by_cases h10 : rs.length ≤ 10000
  case neg =>
    have d0 : decide ((rs.length : Int) > 10000) = true := by simp; omega
    have Hf := hide (resB_false.2 (fun h : ResOk n rs => h10 h.1))
    clear h10
    go_enter Try.func64, Try.ntmps64
    go_wp2_with fail
    go_ret
    exact ⟨by rw [Hf.out] <;> rfl, Below.refl _ _⟩
  have d0 : decide ((rs.length : Int) > 10000) = false := by simp; omega
  go_enter Try.func64, Try.ntmps64
  go_wp2_with fail
  go_loopw [12] (fun idx wr => ∃ i : Nat, i ≤ rs.length ∧ idx = .int .i64 i ∧ (∀ j (hj : j < rs.length), j < i → ResGood n rs[j]) ∧ Below W.heap.size W wr) (fun idx _ => rs.length - (intOf idx).toNat)
  case atStart => exact ⟨0, by omega, rfl, fun j _ hj => by omega, Below.refl _ _⟩
  case round =>
    rename World => wr
    obtain ⟨i, hi, rfl, hto, hb⟩ := hrel
    have Hto := hide hto
    have Hb := hide hb
    clear hto
    by_cases hlt : i < rs.length
    · obtain ⟨bA, oA, rfl, hbA, c1, c2, c3⟩ := res_at (HA.out.below hb) hlt
      obtain ⟨r, hr⟩ : ∃ r, rs[i] = r := ⟨_, rfl⟩
      rw [hr] at c1 c2 c3
      have Hr := hide hr
      have Hbad := hide (show ¬ ResGood n r → resB n rs = false from fun hg => resB_false.2 (fun h => hg (by rw [← hr]; exact h.2 _ (List.getElem_mem hlt))))
      obtain ⟨a, b, h⟩ := r
      simp only at c1 c2 c3
      clear hr hb
      by_cases q0 : a < 0
      case pos =>
        have e0 : decide (a < 0) = true := by simp [q0]
        have Hf := hide (Hbad.out (fun hg => by have := hg.1; have := hg.2.1; have := hg.2.2.1; have := hg.2.2.2.1; have := hg.2.2.2.2.1; have := hg.2.2.2.2.2.1; have := hg.2.2.2.2.2.2; simp only at *; omega))
        clear q0
        go_wp2_with fail
        go_ret
        exact ⟨by rw [Hf.out] <;> rfl, by repeat (first | with_reducible exact Hb.out | with_reducible refine below_drew_ ?_ | with_reducible refine below_alloc0 ?_ _)⟩
      have e0 : decide (a < 0) = false := by simp; omega
      by_cases q1 : a ≥ n
      case pos =>
        have e1 : decide (a ≥ n) = true := by simp [q1]
        have Hf := hide (Hbad.out (fun hg => by have := hg.1; have := hg.2.1; have := hg.2.2.1; have := hg.2.2.2.1; have := hg.2.2.2.2.1; have := hg.2.2.2.2.2.1; have := hg.2.2.2.2.2.2; simp only at *; omega))
        clear q1
        go_wp2_with fail
        go_ret
        exact ⟨by rw [Hf.out] <;> rfl, by repeat (first | with_reducible exact Hb.out | with_reducible refine below_drew_ ?_ | with_reducible refine below_alloc0 ?_ _)⟩
      have e1 : decide (a ≥ n) = false := by simp; omega
      by_cases q2 : b < 0
      case pos =>
        have e2 : decide (b < 0) = true := by simp [q2]
        have Hf := hide (Hbad.out (fun hg => by have := hg.1; have := hg.2.1; have := hg.2.2.1; have := hg.2.2.2.1; have := hg.2.2.2.2.1; have := hg.2.2.2.2.2.1; have := hg.2.2.2.2.2.2; simp only at *; omega))
        clear q2
        go_wp2_with fail
        go_ret
        exact ⟨by rw [Hf.out] <;> rfl, by repeat (first | with_reducible exact Hb.out | with_reducible refine below_drew_ ?_ | with_reducible refine below_alloc0 ?_ _)⟩
      have e2 : decide (b < 0) = false := by simp; omega
      by_cases q3 : b ≥ n
      case pos =>
        have e3 : decide (b ≥ n) = true := by simp [q3]
        have Hf := hide (Hbad.out (fun hg => by have := hg.1; have := hg.2.1; have := hg.2.2.1; have := hg.2.2.2.1; have := hg.2.2.2.2.1; have := hg.2.2.2.2.2.1; have := hg.2.2.2.2.2.2; simp only at *; omega))
        clear q3
        go_wp2_with fail
        go_ret
        exact ⟨by rw [Hf.out] <;> rfl, by repeat (first | with_reducible exact Hb.out | with_reducible refine below_drew_ ?_ | with_reducible refine below_alloc0 ?_ _)⟩
      have e3 : decide (b ≥ n) = false := by simp; omega
      by_cases q4 : a = b
      case pos =>
        have e4 : (a == b) = true := by simp [q4]
        have Hf := hide (Hbad.out (fun hg => by have := hg.1; have := hg.2.1; have := hg.2.2.1; have := hg.2.2.2.1; have := hg.2.2.2.2.1; have := hg.2.2.2.2.2.1; have := hg.2.2.2.2.2.2; simp only at *; omega))
        clear q4
        go_wp2_with fail
        go_ret
        exact ⟨by rw [Hf.out] <;> rfl, by repeat (first | with_reducible exact Hb.out | with_reducible refine below_drew_ ?_ | with_reducible refine below_alloc0 ?_ _)⟩
      have e4 : (a == b) = false := by simp [q4]
      by_cases q5 : h < 0
      case pos =>
        have e5 : decide (h < 0) = true := by simp [q5]
        have Hf := hide (Hbad.out (fun hg => by have := hg.1; have := hg.2.1; have := hg.2.2.1; have := hg.2.2.2.1; have := hg.2.2.2.2.1; have := hg.2.2.2.2.2.1; have := hg.2.2.2.2.2.2; simp only at *; omega))
        clear q5
        go_wp2_with fail
        go_ret
        exact ⟨by rw [Hf.out] <;> rfl, by repeat (first | with_reducible exact Hb.out | with_reducible refine below_drew_ ?_ | with_reducible refine below_alloc0 ?_ _)⟩
      have e5 : decide (h < 0) = false := by simp; omega
      by_cases q6 : h > 2
      case pos =>
        have e6 : decide (h > 2) = true := by simp [q6]
        have Hf := hide (Hbad.out (fun hg => by have := hg.1; have := hg.2.1; have := hg.2.2.1; have := hg.2.2.2.1; have := hg.2.2.2.2.1; have := hg.2.2.2.2.2.1; have := hg.2.2.2.2.2.2; simp only at *; omega))
        clear q6
        go_wp2_with fail
        go_ret
        exact ⟨by rw [Hf.out] <;> rfl, by repeat (first | with_reducible exact Hb.out | with_reducible refine below_drew_ ?_ | with_reducible refine below_alloc0 ?_ _)⟩
      have e6 : decide (h > 2) = false := by simp; omega
      have Hg := hide (show ∀ j (hj : j < rs.length), j < i + 1 → ResGood n rs[j] from fun j hj hji => by
        by_cases e : j = i
        · subst e; rw [Hr.out]; exact ⟨by simp only; omega, by simp only; omega, by simp only; omega, by simp only; omega, q4, by simp only; omega, by simp only; omega⟩
        · exact Hto.out j hj (by omega))
      clear q0 q1 q2 q3 q4 q5 q6
      go_wp2_with fail
      go_roundw
      case rel => exact ⟨i + 1, by omega, by go_num, Hg.out, below_alloc0 Hb.out _⟩
      case measure => simp [intOf]; omega
    · obtain rfl : i = rs.length := by omega
      have Hf := hide (resB_true.2 (⟨h10, fun r hr => by
        obtain ⟨j, hj, rfl⟩ := List.getElem_of_mem hr
        exact Hto.out j hj hj⟩ : ResOk n rs))
      go_wp2_with fail
      go_ret
      exact ⟨by rw [Hf.out] <;> rfl, Hb.out⟩
end Go.Proofs.Ytfoehijlafooaaa
