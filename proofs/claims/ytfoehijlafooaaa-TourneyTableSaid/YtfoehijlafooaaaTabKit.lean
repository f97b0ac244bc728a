/- a row of ranks as cells -/
import Derived.Test.YtfoehijlafooaaaTabPlain
import Derived.Test.YtfoehijlafooaaaBase
import Derived.Test.YtfoehijlafooaaaTourCmp
namespace Go.Proofs.Ytfoehijlafooaaa
open Go.RowKit Go.Shelf Go.Lib Go.Sort

def flat3 (n : Nat) (Q P O : Nat → Int) : Array Value :=
  Array.ofFn fun t : Fin (n * 3) => if t.val % 3 = 0 then .int .i64 (Q (t.val / 3)) else if t.val % 3 = 1 then .int .i64 (P (t.val / 3)) else .int .i64 (O (t.val / 3))
def updI (f : Nat → Int) (a : Nat) (v : Int) : Nat → Int := fun p => if p = a then v else f p
theorem flat3_size (n : Nat) (Q P O : Nat → Int) : (flat3 n Q P O).size = n * 3 := by simp [flat3]
theorem flat3_get (n : Nat) (Q P O : Nat → Int) {a : Nat} (ha : a < n) :
    (flat3 n Q P O)[a * 3]? = some (.int .i64 (Q a)) ∧ (flat3 n Q P O)[a * 3 + 1]? = some (.int .i64 (P a)) ∧ (flat3 n Q P O)[a * 3 + 2]? = some (.int .i64 (O a)) := by
  have e0 : a * 3 % 3 = 0 := by omega
  have e1 : (a * 3 + 1) % 3 = 1 := by omega
  have e2 : (a * 3 + 2) % 3 = 2 := by omega
  have d0 : a * 3 / 3 = a := by omega
  have d1 : (a * 3 + 1) / 3 = a := by omega
  have d2 : (a * 3 + 2) / 3 = a := by omega
  have l0 : a * 3 < n * 3 := by omega
  have l1 : a * 3 + 1 < n * 3 := by omega
  have l2 : a * 3 + 2 < n * 3 := by omega
  refine ⟨?_, ?_, ?_⟩ <;> rw [flat3, Array.getElem?_ofFn]
  · rw [dif_pos l0]; simp only [e0, d0, if_true]
  · rw [dif_pos l1]; simp only [e1, d1]; simp
  · rw [dif_pos l2]; simp only [e2, d2]; simp
theorem flat3_at (n : Nat) (Q P O : Nat → Int) {t : Nat} (h : t < (flat3 n Q P O).size) : (flat3 n Q P O)[t] = if t % 3 = 0 then .int .i64 (Q (t / 3)) else if t % 3 = 1 then .int .i64 (P (t / 3)) else .int .i64 (O (t / 3)) := by
  simp [flat3]
theorem set_at {xs : Array Value} {i t : Nat} {v : Value} (h : t < (xs.setIfInBounds i v).size) : (xs.setIfInBounds i v)[t] = if i = t then v else xs[t]'(by simpa using h) := by
  rw [Array.getElem_setIfInBounds]
theorem flat3_putQ (n : Nat) (Q P O : Nat → Int) (a : Nat) (v : Int) : (flat3 n Q P O).setIfInBounds (a * 3) (.int .i64 v) = flat3 n (updI Q a v) P O := by
  apply Array.ext
  · simp [flat3]
  intro t h1 h2
  rw [set_at, flat3_at, flat3_at]
  unfold updI
  by_cases e : a * 3 = t
  · subst e
    have e0 : a * 3 % 3 = 0 := by omega
    have d0 : a * 3 / 3 = a := by omega
    simp [e0, d0]
  · rw [if_neg e]
    by_cases m : t % 3 = 0
    · rw [if_pos m, if_pos m, if_neg (by omega)]
    · rw [if_neg m, if_neg m]
theorem flat3_putP (n : Nat) (Q P O : Nat → Int) (a : Nat) (v : Int) : (flat3 n Q P O).setIfInBounds (a * 3 + 1) (.int .i64 v) = flat3 n Q (updI P a v) O := by
  apply Array.ext
  · simp [flat3]
  intro t h1 h2
  rw [set_at, flat3_at, flat3_at]
  unfold updI
  by_cases e : a * 3 + 1 = t
  · subst e
    have e0 : (a * 3 + 1) % 3 = 1 := by omega
    have d0 : (a * 3 + 1) / 3 = a := by omega
    simp [e0, d0]
  · rw [if_neg e]
    by_cases m : t % 3 = 0
    · rw [if_pos m, if_pos m]
    · rw [if_neg m, if_neg m]
      by_cases m1 : t % 3 = 1
      · rw [if_pos m1, if_pos m1, if_neg (by omega)]
      · rw [if_neg m1, if_neg m1]
theorem flat3_putO (n : Nat) (Q P O : Nat → Int) (a : Nat) (v : Int) : (flat3 n Q P O).setIfInBounds (a * 3 + 2) (.int .i64 v) = flat3 n Q P (updI O a v) := by
  apply Array.ext
  · simp [flat3]
  intro t h1 h2
  rw [set_at, flat3_at, flat3_at]
  unfold updI
  by_cases e : a * 3 + 2 = t
  · subst e
    have e0 : (a * 3 + 2) % 3 = 2 := by omega
    have d0 : (a * 3 + 2) / 3 = a := by omega
    simp [e0, d0]
  · rw [if_neg e]
    by_cases m : t % 3 = 0
    · rw [if_pos m, if_pos m]
    · rw [if_neg m, if_neg m]
      by_cases m1 : t % 3 = 1
      · rw [if_pos m1, if_pos m1]
      · rw [if_neg m1, if_neg m1, if_neg (by omega)]
theorem flat3_congr {n : Nat} {Q P O Q' P' O' : Nat → Int} (h1 : ∀ p, p < n → Q p = Q' p) (h2 : ∀ p, p < n → P p = P' p) (h3 : ∀ p, p < n → O p = O' p) : flat3 n Q P O = flat3 n Q' P' O' := by
  apply Array.ext
  · simp [flat3]
  intro t h4 h5
  have ht : t / 3 < n := by simp [flat3] at h4; omega
  rw [flat3_at, flat3_at, h1 _ ht, h2 _ ht, h3 _ ht]
instance : Inhabited Rk := ⟨⟨0, 0, 0⟩⟩
theorem flat3_flatK (n : Nat) (P O : Nat → Int) : flat3 n (fun p => p) P O = flatK encRk 3 ((List.range n).map fun p : Nat => (⟨p, P p, O p⟩ : Rk)).toArray := by
  apply Array.ext
  · simp [flat3]
  intro t h1 h2
  have ht : t / 3 < n := by simp [flat3] at h1; omega
  have hr : t % 3 < 3 := by omega
  rw [flat3_at]
  simp only [flatK, Array.getElem_map, Array.getElem_range]
  have ek : ((List.range n).map fun p : Nat => (⟨p, P p, O p⟩ : Rk)).toArray[t / 3]! = ⟨(t / 3 : Nat), P (t / 3), O (t / 3)⟩ := by
    rw [getElem!_pos _ _ (by simpa using ht)]
    simp
  rw [ek]
  rcases (by omega : t % 3 = 0 ∨ t % 3 = 1 ∨ t % 3 = 2) with e | e | e <;> simp [e, encRk]
theorem flat3_made (n : Nat) : madeCells #[.int .i64 0, .int .i64 0, .int .i64 0] (n * 3) = flat3 n (fun _ => 0) (fun _ => 0) (fun _ => 0) := by
  apply Array.ext
  · simp [flat3, madeCells]
  intro t h1 h2
  rw [flat3_at]
  simp only [madeCells, Array.getElem_map, Array.getElem_range]
  rcases (by omega : t % 3 = 0 ∨ t % 3 = 1 ∨ t % 3 = 2) with e | e | e <;> simp [e]
theorem Blk.holdsK {w : World} {g : Nat} {t : TypeId} {d : Array Rk} (h : Blk w g t (flatK encRk 3 d)) : HoldsK encRk 3 w g 0 d := fun j hj => by
  refine ⟨?_, h.free _⟩
  rw [h.cell, Nat.zero_add, Array.getElem?_eq_getElem hj, show (flatK encRk 3 d)[j]! = (flatK encRk 3 d)[j] from getElem!_pos (flatK encRk 3 d) j hj]
  rfl
end Go.Proofs.Ytfoehijlafooaaa
