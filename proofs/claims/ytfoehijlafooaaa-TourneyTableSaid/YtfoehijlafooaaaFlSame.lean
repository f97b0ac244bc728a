/- lists of doubles: Same, ContainsFunc -/
import Derived.Test.YtfoehijlafooaaaFlFair
import Derived.BigQuiet
namespace Go.Proofs.Ytfoehijlafooaaa
open Go.RowKit

def flts (l : List Nat) : List Value := l.map (Value.float .f64)
@[simp] theorem flts_length (l : List Nat) : (flts l).length = l.length := by simp [flts]
theorem flts_get (l : List Nat) (k : Nat) (h : k < (flts l).length) : (flts l)[k] = .float .f64 (l[k]'(by simpa using h)) := by simp [flts]
theorem order_self {x N : Nat} (h : Fin N x) : Ieee.double.order x x = some .eq := by
  obtain ⟨s, m, i, e, _, _⟩ := h
  unfold Ieee.Format.order
  rw [e]
  unfold Ieee.Datum.order
  dsimp only
  congr 1
  exact Int.compare_eq_eq.2 rfl

set_option maxHeartbeats 1000000 in
set_option maxRecDepth 20000 in
theorem same_flt (A1 A2 : Option Addr) (c1 c2 : Nat) (l : List Nat) (w : World) (B1 B2 : Nat) (hm : l.length ≤ 9223372036854775807) (hf : ∀ x ∈ l, Ieee.double.order x x = some .eq)
    (h1 : Cells w B1 A1 (flts l)) (h2 : Cells w B2 A2 (flts l)) :
    Calls Try.prog 41 #[.slice A1 l.length c1, .slice A2 l.length c2] w fun e w' => e = .returned (.bool true) ∧ ∃ n, w' = w.drewN n := by
  have H1 := hide h1
  have H2 := hide h2
  have Hf := hide hf
  clear h1 h2 hf
  go_enter Try.func41, Try.ntmps41
  go_wp2_with fail
  go_loopw [13] (fun i wr => ∃ k n : Nat, k ≤ l.length ∧ i = .int .i64 k ∧ wr = w.drewN n) (fun i _ => l.length - (intOf i).toNat)
  case atStart => exact ⟨0, 0, by omega, rfl, rfl⟩
  case round =>
    obtain ⟨k, n, hk, rfl, rfl⟩ := hrel
    by_cases hlt : k < l.length
    · obtain ⟨b, off, rfl, hb, x1⟩ := H1.out.at_ (k := k) (by simpa using hlt)
      obtain ⟨b2, off2, rfl, hb2, x2⟩ := H2.out.at_ (k := k) (by simpa using hlt)
      rw [flts_get] at x1 x2
      have ho := Hf.out _ (List.getElem_mem hlt)
      have ho2 : (FloatKind.f64.format.order l[k] l[k] != some .eq) = false := by
        have : FloatKind.f64.format.order l[k] l[k] = some .eq := ho
        rw [this]; rfl
      clear ho
      go_wp2_with fail
      go_quiet (fail)
      go_wp2_with fail
      go_roundw
      case rel => exact ⟨k + 1, _, by omega, by go_num, rfl⟩
      case measure => simp [intOf]; omega
    · go_wp2_with fail
      go_ret
      exact ⟨rfl, _, rfl⟩
end Go.Proofs.Ytfoehijlafooaaa
