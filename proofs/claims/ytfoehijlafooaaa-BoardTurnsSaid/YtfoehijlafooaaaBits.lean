/- Bits of small numbers. -/
import Derived.Test.YtfoehijlafooaaaBase
import Derived.Test.YtfoehijlafooaaaTurnPlain
namespace Go.Proofs.Ytfoehijlafooaaa
open Go.RowKit

theorem bit_nat (c : Nat) (hc : c < 4294967296) : (BitVec.ofInt 64 (c : Int)).toNat = c := by
  rw [BitVec.ofInt_natCast, BitVec.toNat_ofNat]; exact Nat.mod_eq_of_lt (by omega)
theorem bxor (a b : Nat) (ha : a < 4294967296) (hb : b < 4294967296) : bits .xor .i64 (a : Int) (b : Int) = ((a ^^^ b : Nat) : Int) := by
  have hx : a ^^^ b < 2 ^ 63 := Nat.xor_lt_two_pow (by omega) (by omega)
  show IntKind.i64.wrap ((BitVec.ofInt 64 (a : Int) ^^^ BitVec.ofInt 64 (b : Int)).toNat : Int) = _
  rw [BitVec.toNat_xor, bit_nat a ha, bit_nat b hb, IntKind.wrap_i64]
  omega
theorem band (a b : Nat) (ha : a < 4294967296) (hb : b < 4294967296) : bits .and .i64 (a : Int) (b : Int) = ((a &&& b : Nat) : Int) := by
  have hx : a &&& b < 2 ^ 63 := Nat.and_lt_two_pow _ (by omega)
  show IntKind.i64.wrap ((BitVec.ofInt 64 (a : Int) &&& BitVec.ofInt 64 (b : Int)).toNat : Int) = _
  rw [BitVec.toNat_and, bit_nat a ha, bit_nat b hb, IntKind.wrap_i64]
  omega
theorem bor (a b : Nat) (ha : a < 4294967296) (hb : b < 4294967296) : bits .or .i64 (a : Int) (b : Int) = ((a ||| b : Nat) : Int) := by
  have hx : a ||| b < 2 ^ 63 := Nat.or_lt_two_pow (by omega) (by omega)
  show IntKind.i64.wrap ((BitVec.ofInt 64 (a : Int) ||| BitVec.ofInt 64 (b : Int)).toNat : Int) = _
  rw [BitVec.toNat_or, bit_nat a ha, bit_nat b hb, IntKind.wrap_i64]
  omega

theorem group_bits {a b : Nat} (ha : a < 8) (hb : b < 8) : ∃ X1 X2 A1 A2 B4 B3 O1 O2 : Nat, bits .xor .i64 (a : Int) (b : Int) = (X1 : Int) ∧ bits .and .i64 (b : Int) 4 = (B4 : Int) ∧ decide (0 < B4) = sBit b ∧
    bits .and .i64 (X1 : Int) 4 = (X2 : Int) ∧ bits .and .i64 (a : Int) 1 = (A1 : Int) ∧ A1 ≤ 1 ∧ bits .and .i64 (a : Int) 2 = (A2 : Int) ∧ A2 ≤ 2 ∧ bits .or .i64 ((A1 : Int) * 2) ((A2 : Int) / 2) = (O1 : Int) ∧
    bits .or .i64 (X2 : Int) (O1 : Int) = (O2 : Int) ∧ bits .and .i64 (b : Int) 3 = (B3 : Int) ∧ (sBit b = true → bits .xor .i64 (O2 : Int) (B3 : Int) = (compK a b : Int)) ∧ (sBit b = false → X1 = compK a b) := by
  have key : ∀ a, a < 8 → ∀ b, b < 8 → a ^^^ b < 8 ∧ decide (0 < b &&& 4) = sBit b ∧ a &&& 1 ≤ 1 ∧ a &&& 2 ≤ 2 ∧ ((a ^^^ b) &&& 4) < 8 ∧ ((a &&& 1) * 2 ||| (a &&& 2) / 2) < 8 ∧ b &&& 3 < 8 := by decide
  obtain ⟨k1, k2, k3, k4, k5, k6, k7⟩ := key a ha b hb
  have ho2 : ((a ^^^ b) &&& 4) ||| ((a &&& 1) * 2 ||| (a &&& 2) / 2) < 8 := Nat.or_lt_two_pow (n := 3) (by omega) (by omega)
  refine ⟨a ^^^ b, (a ^^^ b) &&& 4, a &&& 1, a &&& 2, b &&& 4, b &&& 3, (a &&& 1) * 2 ||| (a &&& 2) / 2, ((a ^^^ b) &&& 4) ||| ((a &&& 1) * 2 ||| (a &&& 2) / 2),
    bxor a b (by omega) (by omega), band b 4 (by omega) (by omega), k2, band _ 4 (by omega) (by omega), band a 1 (by omega) (by omega), k3, band a 2 (by omega) (by omega), k4, ?_, bor _ _ (by omega) (by omega), band b 3 (by omega) (by omega), fun hs => ?_, fun hs => ?_⟩
  · have := bor ((a &&& 1) * 2) ((a &&& 2) / 2) (by omega) (by omega)
    simpa using this
  · rw [bxor _ _ (by omega) (by omega)]
    simp [compK, hs]
  · simp [compK, hs]
end Go.Proofs.Ytfoehijlafooaaa
