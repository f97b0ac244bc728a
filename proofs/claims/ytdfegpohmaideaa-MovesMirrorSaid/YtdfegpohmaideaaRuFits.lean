/- gameref.piece, rules.Fits, gameref.letters -/
import Derived.Test.YtdfegpohmaideaaRuPiece
namespace Go.Proofs.Ytdfegpohmaideaa
open Go.RowKit

theorem low_sub {c : Nat} (h : lowB c = true) : IntKind.u8.wrap ((c : Int) - 32) = ((capN c : Nat) : Int) := by
  have h1 := lowB_lt h
  rw [capN_low h]
  rw [show (c : Int) - 32 = ((c - 32 : Nat) : Int) by omega]
  exact IntWalk.u8_in _ (by omega)
theorem numX_neg (o : Option Nat) : decide (numX o < 0) = !o.isSome := by
  cases o with
  | none => rfl
  | some i => exact decide_eq_false (show ¬ ((i : Int) < 0) by omega)
def FitsTo (ps : List PieceD) (l : List UInt8) (k : Nat) : Prop := ∀ j (h : j < l.length), j < k → l[j].toNat = 46 ∨ (pieceX ps l[j].toNat).isSome = true
theorem fitsTo_all {ps : List PieceD} {l : List UInt8} (h : FitsTo ps l l.length) : fitsB ps l = true := fitsB_true.2 fun k hk => h k hk hk
theorem fitsTo_next {ps : List PieceD} {l : List UInt8} {k : Nat} (h : FitsTo ps l k) (hk : k < l.length) (hn : l[k].toNat = 46 ∨ (pieceX ps l[k].toNat).isSome = true) : FitsTo ps l (k + 1) := fun j hj hjk => by
  by_cases e : j = k
  · subst e; exact hn
  · exact h j hj (by omega)
theorem fits_not {ps : List PieceD} {l : List UInt8} {k : Nat} (hk : k < l.length) (h1 : l[k].toNat ≠ 46) (h2 : (pieceX ps l[k].toNat).isSome = false) : fitsB ps l = false := fitsB_false.2 fun h => by
  rcases h k hk with h3 | h3
  · exact h1 h3
  · rw [h2] at h3; exact absurd h3 (by decide)
end Go.Proofs.Ytdfegpohmaideaa
