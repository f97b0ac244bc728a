/- gamelaw.BoardTurns' closure: is one position less than another? -/
import Derived.Test.YtfoehijlafooaaaBgPlain
namespace Go.Proofs.Ytfoehijlafooaaa
open Go.RowKit

theorem bytesLess_eq : ∀ a b : List UInt8, Op.bytesLess a b = decide (Lib.compareBytes a b < 0)
  | [], [] => by simp [Op.bytesLess, Lib.compareBytes]
  | [], _ :: _ => by simp [Op.bytesLess, Lib.compareBytes]
  | _ :: _, [] => by simp [Op.bytesLess, Lib.compareBytes]
  | x :: a, y :: b => by
    simp only [Op.bytesLess, Lib.compareBytes, UInt8.lt_iff_toNat_lt]
    by_cases e1 : x.toNat < y.toNat
    · simp [e1]
    · by_cases e2 : y.toNat < x.toNat
      · have e3 : ¬ x = y := fun h => by rw [h] at e2; omega
        simp [e1, e2, e3]
      · have e3 : x = y := UInt8.toNat_inj.1 (by omega)
        subst e3
        simp [bytesLess_eq a b]

set_option maxHeartbeats 1000000 in
set_option maxRecDepth 100000 in
theorem less_any (w h t w' h' t' : Int) (c h0 h1 c' h0' h1' : ByteArray) (W : World) :
    Calls Try.prog 24 #[.agg #[.int .i64 w, .int .i64 h, .string c, .int .i64 t, .string h0, .string h1], .agg #[.int .i64 w', .int .i64 h', .string c', .int .i64 t', .string h0', .string h1']] W fun e V =>
      e = .returned (.bool (ltB ⟨w, h, c, t, h0, h1⟩ ⟨w', h', c', t', h0', h1'⟩)) ∧ Below W.heap.size W V := by
  have Hb := hide (below_alloc0 (below_fresh W (.cells #[.int .i64 w, .int .i64 h, .string c, .int .i64 t, .string h0, .string h1] 36)) (.cells #[.int .i64 w', .int .i64 h', .string c', .int .i64 t', .string h0', .string h1'] 36))
  by_cases e1 : w = w'
  · have d1 : (w != w') = false := by simp [e1]
    by_cases e2 : h = h'
    · have d2 : (h != h') = false := by simp [e2]
      have Hl := hide (show ltB ⟨w, h, c, t, h0, h1⟩ ⟨w', h', c', t', h0', h1'⟩ = decide (Lib.compareBytes c.data.toList c'.data.toList < 0) by
        rw [Bool.eq_iff_iff, ltB_iff]; simp [ltP, e1, e2])
      clear e1 e2
      go_enter Try.func24, Try.ntmps24
      go_wp2_with fail
      go_ret
      refine ⟨?_, Hb.out⟩
      rw [Hl.out, ← bytesLess_eq, ← ByteArray.toList_eq, ← ByteArray.toList_eq]
      rfl
    · have d2 : (h != h') = true := by simp [e2]
      have Hl := hide (show ltB ⟨w, h, c, t, h0, h1⟩ ⟨w', h', c', t', h0', h1'⟩ = decide (h < h') by
        rw [Bool.eq_iff_iff, ltB_iff]; simp [ltP, e1, e2])
      clear e1 e2
      go_enter Try.func24, Try.ntmps24
      go_wp2_with fail
      go_ret
      exact ⟨by rw [Hl.out] <;> rfl, Hb.out⟩
  · have d1 : (w != w') = true := by simp [e1]
    have Hl := hide (show ltB ⟨w, h, c, t, h0, h1⟩ ⟨w', h', c', t', h0', h1'⟩ = decide (w < w') by
        rw [Bool.eq_iff_iff, ltB_iff]; simp [ltP, e1])
    clear e1
    go_enter Try.func24, Try.ntmps24
    go_wp2_with fail
    go_ret
    exact ⟨by rw [Hl.out] <;> rfl, Hb.out⟩
end Go.Proofs.Ytfoehijlafooaaa
