/- gameref.Results -/
import Derived.Test.YtfoehijlafooaaaTourRes
namespace Go.Proofs.Ytfoehijlafooaaa
open Go.RowKit

set_option maxHeartbeats 2000000 in
set_option maxRecDepth 100000 in
theorem rresults_any (n : Int) (A : Option Addr) (c : Nat) (rs : List Res) (W : World) (hl : rs.length ≤ 9223372036854775807) (hA : Cells W W.heap.size A (ints (flatR rs))) :
    Calls Try.prog 38 #[.int .i64 n, .slice A rs.length c] W fun e w' => e = .returned (.bool (resB n rs)) ∧ Below W.heap.size W w' := by
  have HA := hide hA
  clear hA
  obtain ⟨lb, hlb⟩ : ∃ lb, decide (rs.length ≤ 10000) = lb := ⟨_, rfl⟩
  have Hlb := hide hlb
  have d0 : decide ((rs.length : Int) ≤ 10000) = lb := by rw [← hlb]; rw [Bool.eq_iff_iff]; simp; omega
  clear hlb
  go_enter Try.func38, Try.ntmps38
  go_wp2_with fail
  clear d0
  go_loopw [5, 6] (fun ov idx wr => ∃ (i : Nat) (o : Bool), i ≤ rs.length ∧ idx = .int .i64 i ∧ ov = .bool o ∧ (o = true ↔ (rs.length ≤ 10000 ∧ ∀ j (hj : j < rs.length), j < i → ResGood n rs[j])) ∧ Below W.heap.size W wr) (fun _ idx _ => rs.length - (intOf idx).toNat)
  case atStart => exact ⟨0, lb, by omega, rfl, by simp [go_sem], by rw [← Hlb.out]; simp, Below.refl _ _⟩
  case round =>
    rename World => wr
    obtain ⟨i, o, hi, rfl, rfl, hto, hb⟩ := hrel
    have Hto := hide hto
    have Hb := hide hb
    clear hto
    by_cases hlt : i < rs.length
    case neg =>
      obtain rfl : i = rs.length := by omega
      have Hf := hide (show resB n rs = o by
        cases o with
        | true => exact resB_true.2 ⟨(Hto.out.1 rfl).1, fun r hr => by
            obtain ⟨j, hj, rfl⟩ := List.getElem_of_mem hr
            exact (Hto.out.1 rfl).2 j hj hj⟩
        | false => exact resB_false.2 fun h => absurd (Hto.out.2 ⟨h.1, fun j hj _ => h.2 _ (List.getElem_mem hj)⟩) (by simp))
      go_wp2_with fail
      go_ret
      exact ⟨by rw [Hf.out] <;> rfl, Hb.out⟩
    cases o with
    | false =>
      have Hf := hide (resB_false.2 (fun h : ResOk n rs => absurd (Hto.out.2 ⟨h.1, fun j hj _ => h.2 _ (List.getElem_mem hj)⟩) (by simp)))
      go_wp2_with fail
      go_ret
      exact ⟨by rw [Hf.out] <;> rfl, Hb.out⟩
    | true =>
      obtain ⟨bA, oA, rfl, hbA, c1, c2, c3⟩ := res_at (HA.out.below hb) hlt
      obtain ⟨r, hr⟩ : ∃ r, rs[i] = r := ⟨_, rfl⟩
      rw [hr] at c1 c2 c3
      have Hr := hide hr
      have Hbad := hide (show ¬ ResGood n r → ¬ (rs.length ≤ 10000 ∧ ∀ j (hj : j < rs.length), j < i + 1 → ResGood n rs[j]) from fun hg h => hg (by rw [← hr]; exact h.2 i hlt (by omega)))
      obtain ⟨a, b, h⟩ := r
      simp only at c1 c2 c3
      clear hr hb
      by_cases q0 : a = b
      case pos =>
        have e0 : (a != b) = false := by simp [q0]
        have Hf := hide (Hbad.out (fun hg => by have := hg.1; have := hg.2.1; have := hg.2.2.1; have := hg.2.2.2.1; have := hg.2.2.2.2.1; have := hg.2.2.2.2.2.1; have := hg.2.2.2.2.2.2; simp only at *; omega))
        clear q0
        go_wp2_with fail
        go_roundw
        case rel => exact ⟨i + 1, false, by omega, by go_num, rfl, by simp only [Bool.false_eq_true, false_iff]; exact Hf.out, below_alloc0 Hb.out _⟩
        case measure => simp [intOf]; omega
      have e0 : (a != b) = true := by simp [q0]
      by_cases q1 : a < 0
      case pos =>
        have e1 : decide (a ≥ 0) = false := by simp; omega
        have Hf := hide (Hbad.out (fun hg => by have := hg.1; have := hg.2.1; have := hg.2.2.1; have := hg.2.2.2.1; have := hg.2.2.2.2.1; have := hg.2.2.2.2.2.1; have := hg.2.2.2.2.2.2; simp only at *; omega))
        clear q1
        go_wp2_with fail
        go_roundw
        case rel => exact ⟨i + 1, false, by omega, by go_num, rfl, by simp only [Bool.false_eq_true, false_iff]; exact Hf.out, below_alloc0 Hb.out _⟩
        case measure => simp [intOf]; omega
      have e1 : decide (a ≥ 0) = true := by simp; omega
      by_cases q2 : ¬ a < n
      case pos =>
        have e2 : decide (a < n) = false := by simp; omega
        have Hf := hide (Hbad.out (fun hg => by have := hg.1; have := hg.2.1; have := hg.2.2.1; have := hg.2.2.2.1; have := hg.2.2.2.2.1; have := hg.2.2.2.2.2.1; have := hg.2.2.2.2.2.2; simp only at *; omega))
        clear q2
        go_wp2_with fail
        go_roundw
        case rel => exact ⟨i + 1, false, by omega, by go_num, rfl, by simp only [Bool.false_eq_true, false_iff]; exact Hf.out, below_alloc0 Hb.out _⟩
        case measure => simp [intOf]; omega
      have e2 : decide (a < n) = true := by simp; omega
      by_cases q3 : b < 0
      case pos =>
        have e3 : decide (b ≥ 0) = false := by simp; omega
        have Hf := hide (Hbad.out (fun hg => by have := hg.1; have := hg.2.1; have := hg.2.2.1; have := hg.2.2.2.1; have := hg.2.2.2.2.1; have := hg.2.2.2.2.2.1; have := hg.2.2.2.2.2.2; simp only at *; omega))
        clear q3
        go_wp2_with fail
        go_roundw
        case rel => exact ⟨i + 1, false, by omega, by go_num, rfl, by simp only [Bool.false_eq_true, false_iff]; exact Hf.out, below_alloc0 Hb.out _⟩
        case measure => simp [intOf]; omega
      have e3 : decide (b ≥ 0) = true := by simp; omega
      by_cases q4 : ¬ b < n
      case pos =>
        have e4 : decide (b < n) = false := by simp; omega
        have Hf := hide (Hbad.out (fun hg => by have := hg.1; have := hg.2.1; have := hg.2.2.1; have := hg.2.2.2.1; have := hg.2.2.2.2.1; have := hg.2.2.2.2.2.1; have := hg.2.2.2.2.2.2; simp only at *; omega))
        clear q4
        go_wp2_with fail
        go_roundw
        case rel => exact ⟨i + 1, false, by omega, by go_num, rfl, by simp only [Bool.false_eq_true, false_iff]; exact Hf.out, below_alloc0 Hb.out _⟩
        case measure => simp [intOf]; omega
      have e4 : decide (b < n) = true := by simp; omega
      by_cases q5 : h < 0
      case pos =>
        have e5 : decide (h ≥ 0) = false := by simp; omega
        have Hf := hide (Hbad.out (fun hg => by have := hg.1; have := hg.2.1; have := hg.2.2.1; have := hg.2.2.2.1; have := hg.2.2.2.2.1; have := hg.2.2.2.2.2.1; have := hg.2.2.2.2.2.2; simp only at *; omega))
        clear q5
        go_wp2_with fail
        go_roundw
        case rel => exact ⟨i + 1, false, by omega, by go_num, rfl, by simp only [Bool.false_eq_true, false_iff]; exact Hf.out, below_alloc0 Hb.out _⟩
        case measure => simp [intOf]; omega
      have e5 : decide (h ≥ 0) = true := by simp; omega
      by_cases q6 : h > 2
      case pos =>
        have e6 : decide (h ≤ 2) = false := by simp; omega
        have Hf := hide (Hbad.out (fun hg => by have := hg.1; have := hg.2.1; have := hg.2.2.1; have := hg.2.2.2.1; have := hg.2.2.2.2.1; have := hg.2.2.2.2.2.1; have := hg.2.2.2.2.2.2; simp only at *; omega))
        clear q6
        go_wp2_with fail
        go_roundw
        case rel => exact ⟨i + 1, false, by omega, by go_num, rfl, by simp only [Bool.false_eq_true, false_iff]; exact Hf.out, below_alloc0 Hb.out _⟩
        case measure => simp [intOf]; omega
      have e6 : decide (h ≤ 2) = true := by simp; omega
      have Hg := hide (show ∀ j (hj : j < rs.length), j < i + 1 → ResGood n rs[j] from fun j hj hji => by
        by_cases e : j = i
        · subst e; rw [Hr.out]; exact ⟨by simp only; omega, by simp only; omega, by simp only; omega, by simp only; omega, q0, by simp only; omega, by simp only; omega⟩
        · exact (Hto.out.1 rfl).2 j hj (by omega))
      clear q0 q1 q2 q3 q4 q5 q6
      go_wp2_with fail
      go_roundw
      case rel => exact ⟨i + 1, true, by omega, by go_num, rfl, by simp only [true_iff]; exact ⟨(Hto.out.1 rfl).1, Hg.out⟩, below_alloc0 Hb.out _⟩
      case measure => simp [intOf]; omega
end Go.Proofs.Ytfoehijlafooaaa
