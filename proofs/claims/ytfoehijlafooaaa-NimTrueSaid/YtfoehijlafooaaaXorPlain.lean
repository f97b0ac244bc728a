/- Sprague and Grundy: values of two games side by side are added without carrying: plain. -/
import Derived.Test.YtfoehijlafooaaaGraphPlain
namespace Go.Proofs.Ytfoehijlafooaaa

theorem xor_split (a b : Nat) : (a ^^^ b) / 2 = (a / 2) ^^^ (b / 2) ∧ (a ^^^ b) % 2 = (a % 2 + b % 2) % 2 := by
  refine ⟨Nat.xor_div_two, ?_⟩
  have h := Nat.xor_mod_two_eq_one (a := a) (b := b)
  omega

theorem xor_cases : ∀ (n a b t : Nat), a + b + t ≤ n → t < a ^^^ b → t ^^^ b < a ∨ t ^^^ a < b := by
  intro n
  induction n with
  | zero =>
    intro a b t h hlt
    have ha : a = 0 := by omega
    have hb : b = 0 := by omega
    subst ha hb
    simp at hlt
  | succ n ih =>
    intro a b t h hlt
    obtain ⟨d1, m1⟩ := xor_split a b
    obtain ⟨d2, m2⟩ := xor_split t b
    obtain ⟨d3, m3⟩ := xor_split t a
    by_cases hz : a = 0 ∧ b = 0
    · obtain ⟨rfl, rfl⟩ := hz; simp at hlt
    · by_cases hlt2 : t / 2 < (a / 2) ^^^ (b / 2)
      · rcases ih (a / 2) (b / 2) (t / 2) (by omega) hlt2 with h1 | h1
        · left; omega
        · right; omega
      · have he : t / 2 = (a / 2) ^^^ (b / 2) := by omega
        have e2 : (t / 2) ^^^ (b / 2) = a / 2 := by rw [he, Nat.xor_assoc, Nat.xor_self, Nat.xor_zero]
        have e3 : (t / 2) ^^^ (a / 2) = b / 2 := by rw [he, Nat.xor_comm (a / 2), Nat.xor_assoc, Nat.xor_self, Nat.xor_zero]
        have ht : t % 2 = 0 ∧ (a ^^^ b) % 2 = 1 := by omega
        by_cases ha : a % 2 = 1
        · left; omega
        · right; omega

theorem xor_cancel {a b c : Nat} (h : a ^^^ c = b ^^^ c) : a = b := by
  have : (a ^^^ c) ^^^ c = (b ^^^ c) ^^^ c := by rw [h]
  rwa [Nat.xor_assoc, Nat.xor_assoc, Nat.xor_self, Nat.xor_zero, Nat.xor_zero] at this

/-- the least number not among those that one step leads to is the sum without carrying -/
theorem mex_xor {la lb : List Int} {l : List Int} {x y : Nat} (hx : IsMex la x) (hy : IsMex lb y)
    (h1 : ∀ k : Nat, (k : Int) ∈ la → ((k ^^^ y : Nat) : Int) ∈ l) (h2 : ∀ k : Nat, (k : Int) ∈ lb → ((x ^^^ k : Nat) : Int) ∈ l)
    (h3 : ∀ t : Nat, (t : Int) ∈ l → (∃ k : Nat, (k : Int) ∈ la ∧ t = k ^^^ y) ∨ (∃ k : Nat, (k : Int) ∈ lb ∧ t = x ^^^ k)) : IsMex l (x ^^^ y) := by
  refine ⟨fun t ht => ?_, fun hm => ?_⟩
  · rcases xor_cases _ x y t (Nat.le_refl _) ht with h | h
    · have := h1 _ (hx.1 _ h)
      rwa [Nat.xor_assoc, Nat.xor_self, Nat.xor_zero] at this
    · have := h2 _ (hy.1 _ h)
      rwa [Nat.xor_comm t x, ← Nat.xor_assoc, Nat.xor_self, Nat.zero_xor] at this
  · rcases h3 _ hm with ⟨k, hk, he⟩ | ⟨k, hk, he⟩
    · have := xor_cancel he
      subst this
      exact hx.2 hk
    · rw [Nat.xor_comm x y, Nat.xor_comm x k] at he
      have := xor_cancel he
      subst this
      exact hy.2 hk
end Go.Proofs.Ytfoehijlafooaaa
