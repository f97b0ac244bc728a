/- The least natural number that is not in a list: plain. -/
namespace Go.Proofs.Ytfoehijlafooaaa

def IsMex (l : List Int) (v : Nat) : Prop := (∀ k : Nat, k < v → (k : Int) ∈ l) ∧ (v : Int) ∉ l

theorem IsMex.uniq {l : List Int} {v u : Nat} (h : IsMex l v) (h' : IsMex l u) : v = u := by
  rcases Nat.lt_trichotomy v u with hlt | he | hlt
  · exact absurd (h'.1 v hlt) h.2
  · exact he
  · exact absurd (h.1 u hlt) h'.2

theorem pigeon : ∀ (v : Nat) (l : List Int), (∀ k : Nat, k < v → (k : Int) ∈ l) → v ≤ l.length
  | 0, _, _ => Nat.zero_le _
  | v + 1, l, h => by
    have h1 : ((v : Nat) : Int) ∈ l := h v (by omega)
    have h2 := pigeon v (l.erase (v : Int)) (fun k hk => by
      have : (k : Int) ≠ (v : Int) := by omega
      exact (List.mem_erase_of_ne this).2 (h k (by omega)))
    rw [List.length_erase_of_mem h1] at h2
    have := List.length_pos_of_mem h1
    omega

theorem IsMex.le {l : List Int} {v : Nat} (h : IsMex l v) : v ≤ l.length := pigeon v l h.1

theorem mex_exists (l : List Int) : ∃ v, IsMex l v := by
  have key : ∀ n v : Nat, l.length + 1 - v ≤ n → (∀ k : Nat, k < v → (k : Int) ∈ l) → ∃ u, IsMex l u := by
    intro n
    induction n with
    | zero => intro v hv hk; have := pigeon v l hk; omega
    | succ n ih =>
      intro v hv hk
      by_cases hm : (v : Int) ∈ l
      · exact ih (v + 1) (by omega) (fun k hk' => by
          rcases Nat.lt_or_ge k v with hx | hx
          · exact hk k hx
          · have : k = v := by omega
            subst this; exact hm)
      · exact ⟨v, hk, hm⟩
  exact key _ 0 (Nat.le_refl _) (fun k hk => by omega)

noncomputable def mexS (l : List Int) : Nat := Classical.choose (mex_exists l)
theorem mexS_is (l : List Int) : IsMex l (mexS l) := Classical.choose_spec (mex_exists l)
theorem mexS_eq {l : List Int} {v : Nat} (h : IsMex l v) : mexS l = v := (mexS_is l).uniq h
theorem mexS_le (l : List Int) : mexS l ≤ l.length := (mexS_is l).le
theorem mexS_congr {l l' : List Int} (h : ∀ x, x ∈ l ↔ x ∈ l') : mexS l = mexS l' :=
  mexS_eq ⟨fun k hk => (h _).2 ((mexS_is l').1 k hk), fun hm => (mexS_is l').2 ((h _).1 hm)⟩
end Go.Proofs.Ytfoehijlafooaaa
