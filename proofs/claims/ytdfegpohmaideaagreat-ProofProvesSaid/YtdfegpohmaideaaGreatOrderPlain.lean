/- The order of positions, and the least of some turns: plain. -/
import Derived.Test.YtdfegpohmaideaaGreatBoardPlain
import Derived.Lib.Bytealg
import Derived.Lib.Small
namespace Go.Proofs.YtdfegpohmaideaaGreat
open Go.Lib

/-- the first that is not 0 -/
def or3 (x y z : Int) : Int := if x = 0 then (if y = 0 then z else y) else x
def cmpP (a b : Pos) : Int := or3 (compareInt a.w b.w) (compareInt a.h b.h) (compareBytes a.cells.data.toList b.cells.data.toList)
def ltB (a b : Pos) : Bool := decide (cmpP a b < 0)
def ltP (a b : Pos) : Prop := a.w < b.w ∨ (a.w = b.w ∧ (a.h < b.h ∨ (a.h = b.h ∧ compareBytes a.cells.data.toList b.cells.data.toList < 0)))

theorem ltB_iff {a b : Pos} : ltB a b = true ↔ ltP a b := by
  unfold ltB ltP cmpP or3 compareInt
  simp only [decide_eq_true_eq]
  rcases Int.lt_trichotomy a.w b.w with h | h | h
  · simp [h]
  · rcases Int.lt_trichotomy a.h b.h with h2 | h2 | h2
    · simp [h, h2]
    · simp [h, h2]
    · have e1 : ¬ a.h < b.h := by omega
      have e2 : ¬ a.h = b.h := by omega
      simp [h, h2, e1, e2]
  · have e1 : ¬ a.w < b.w := by omega
    have e2 : ¬ a.w = b.w := by omega
    simp [h, e1, e2]

theorem cb_self : ∀ l : List UInt8, compareBytes l l = 0
  | [] => rfl
  | a :: l => by unfold compareBytes; simp [cb_self l]
theorem cb_trans : ∀ a b c : List UInt8, compareBytes a b < 0 → compareBytes b c < 0 → compareBytes a c < 0
  | [], [], _, h, _ => by simp [compareBytes] at h
  | [], _ :: _, [], _, h => by simp [compareBytes] at h
  | [], _ :: _, _ :: _, _, _ => by simp [compareBytes]
  | _ :: _, [], _, h, _ => by simp [compareBytes] at h
  | _ :: _, _ :: _, [], _, h => by simp [compareBytes] at h
  | x :: a, y :: b, z :: c, h1, h2 => by
    unfold compareBytes at h1 h2 ⊢
    simp only [UInt8.lt_iff_toNat_lt] at h1 h2 ⊢
    by_cases e1 : x.toNat < y.toNat
    · by_cases e2 : y.toNat < z.toNat
      · rw [if_pos (by omega)]; decide
      · rw [if_neg e2] at h2
        by_cases e3 : z.toNat < y.toNat
        · rw [if_pos e3] at h2; simp at h2
        · rw [if_pos (by omega)]; decide
    · rw [if_neg e1] at h1
      by_cases e2 : y.toNat < x.toNat
      · rw [if_pos e2] at h1; simp at h1
      · rw [if_neg e2] at h1
        by_cases e3 : y.toNat < z.toNat
        · rw [if_pos (by omega)]; decide
        · rw [if_neg e3] at h2
          by_cases e4 : z.toNat < y.toNat
          · rw [if_pos e4] at h2; simp at h2
          · rw [if_neg e4] at h2
            rw [if_neg (by omega), if_neg (by omega)]
            exact cb_trans a b c h1 h2
theorem cb_total : ∀ a b : List UInt8, compareBytes a b < 0 ∨ compareBytes b a < 0 ∨ a = b
  | [], [] => .inr (.inr rfl)
  | [], _ :: _ => .inl (by simp [compareBytes])
  | _ :: _, [] => .inr (.inl (by simp [compareBytes]))
  | x :: a, y :: b => by
    unfold compareBytes
    simp only [UInt8.lt_iff_toNat_lt]
    by_cases e1 : x.toNat < y.toNat
    · rw [if_pos e1]; exact .inl (by decide)
    · by_cases e2 : y.toNat < x.toNat
      · exact .inr (.inl (by rw [if_pos e2]; decide))
      · have e3 : x = y := UInt8.toNat_inj.1 (by omega)
        rw [if_neg e1, if_neg e2, if_neg e2, if_neg e1]
        rcases cb_total a b with h | h | h
        · exact .inl h
        · exact .inr (.inl h)
        · exact .inr (.inr (by rw [e3, h]))
theorem ltP_irrefl (a : Pos) : ¬ ltP a a := by
  unfold ltP
  rw [cb_self]
  simp
theorem ltP_trans {a b c : Pos} (h1 : ltP a b) (h2 : ltP b c) : ltP a c := by
  unfold ltP at *
  rcases h1 with h1 | ⟨e1, h1⟩
  · rcases h2 with h2 | ⟨e2, _⟩
    · exact .inl (by omega)
    · exact .inl (by omega)
  · rcases h2 with h2 | ⟨e2, h2⟩
    · exact .inl (by omega)
    · refine .inr ⟨by omega, ?_⟩
      rcases h1 with h1 | ⟨e3, h1⟩
      · rcases h2 with h2 | ⟨e4, _⟩
        · exact .inl (by omega)
        · exact .inl (by omega)
      · rcases h2 with h2 | ⟨e4, h2⟩
        · exact .inl (by omega)
        · exact .inr ⟨by omega, cb_trans _ _ _ h1 h2⟩
theorem ltP_total {a b : Pos} (h1 : ¬ ltP a b) (h2 : ¬ ltP b a) : a.w = b.w ∧ a.h = b.h ∧ a.cells = b.cells := by
  unfold ltP at *
  have hw : a.w = b.w := by
    rcases Int.lt_trichotomy a.w b.w with h | h | h
    · exact absurd (.inl h) h1
    · exact h
    · exact absurd (.inl h) h2
  have hh : a.h = b.h := by
    rcases Int.lt_trichotomy a.h b.h with h | h | h
    · exact absurd (.inr ⟨hw, .inl h⟩) h1
    · exact h
    · exact absurd (.inr ⟨hw.symm, .inl h⟩) h2
  refine ⟨hw, hh, bytes_eq ?_⟩
  rcases cb_total a.cells.data.toList b.cells.data.toList with h | h | h
  · exact absurd (.inr ⟨hw, .inr ⟨hh, h⟩⟩) h1
  · exact absurd (.inr ⟨hw.symm, .inr ⟨hh.symm, h⟩⟩) h2
  · exact h

/-- the way to the least turn, the first such -/
def leastStep (p : Pos) (best k : Nat) : Nat := if ltB (turnP p k) (turnP p best) then k else best
def leastK (p : Pos) : List Nat → Nat
  | [] => 0
  | k :: ks => ks.foldl (leastStep p) k
theorem leastK_snoc (p : Pos) (ks : List Nat) (k : Nat) (h : ks ≠ []) : leastK p (ks ++ [k]) = leastStep p (leastK p ks) k := by
  cases ks with
  | nil => exact absurd rfl h
  | cons a l => simp [leastK]
theorem leastStep_least (p : Pos) : ∀ (ks seen : List Nat) (b : Nat), b ∈ seen → (∀ j ∈ seen, ¬ ltP (turnP p j) (turnP p b)) →
    (ks.foldl (leastStep p) b) ∈ seen ++ ks ∧ ∀ j ∈ seen ++ ks, ¬ ltP (turnP p j) (turnP p (ks.foldl (leastStep p) b))
  | [], seen, b, hb, h => by simpa using ⟨hb, h⟩
  | k :: ks, seen, b, hb, h => by
    simp only [List.foldl_cons]
    have e : seen ++ k :: ks = (seen ++ [k]) ++ ks := by simp
    rw [e]
    apply leastStep_least p ks (seen ++ [k])
    · unfold leastStep; split <;> simp [hb]
    · intro j hj
      unfold leastStep
      split
      · rename_i hk
        have hk2 := ltB_iff.1 hk
        simp only [List.mem_append, List.mem_singleton] at hj
        rcases hj with hj | rfl
        · exact fun hlt => h j hj (ltP_trans hlt hk2)
        · exact ltP_irrefl _
      · rename_i hk
        simp only [List.mem_append, List.mem_singleton] at hj
        rcases hj with hj | rfl
        · exact h j hj
        · exact fun hlt => hk (ltB_iff.2 hlt)
theorem leastK_least (p : Pos) {ks : List Nat} (h : ks ≠ []) : leastK p ks ∈ ks ∧ ∀ j ∈ ks, ¬ ltP (turnP p j) (turnP p (leastK p ks)) := by
  cases ks with
  | nil => exact absurd rfl h
  | cons a l =>
    have := leastStep_least p l [a] a (by simp) (by simp; exact ltP_irrefl _)
    simpa [leastK] using this
end Go.Proofs.YtdfegpohmaideaaGreat
