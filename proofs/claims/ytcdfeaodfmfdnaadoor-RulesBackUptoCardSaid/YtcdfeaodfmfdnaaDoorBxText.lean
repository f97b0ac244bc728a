/- A position as a text, plainly. -/
import Derived.Test.YtcdfeaodfmfdnaaDoorBxPlain
namespace Go.Proofs.YtcdfeaodfmfdnaaDoor

/-- row y of cells -/
def rowL (cells : List UInt8) (w y : Nat) : List UInt8 := (cells.drop (y * w)).take w
/-- the first k rows, the top one first -/
def topL (cells : List UInt8) (w h k : Nat) : List (List UInt8) := (List.range k).map fun i => rowL cells w (h - 1 - i)
theorem topL_zero (cells : List UInt8) (w h : Nat) : topL cells w h 0 = [] := rfl
theorem topL_succ (cells : List UInt8) (w h k : Nat) : topL cells w h (k + 1) = topL cells w h k ++ [rowL cells w (h - 1 - k)] := by
  simp [topL, List.range_succ]
theorem topL_len (cells : List UInt8) (w h k : Nat) : (topL cells w h k).length = k := by simp [topL]
theorem joinL_snoc {c : UInt8} : ∀ {l : List (List UInt8)} {a : List UInt8}, l ≠ [] → joinL c (l ++ [a]) = joinL c l ++ c :: a
  | [], _, h => absurd rfl h
  | [b], a, _ => rfl
  | b :: d :: l, a, _ => by
    have h1 : (d :: l : List (List UInt8)) ≠ [] := by simp
    have h2 : (d :: l) ++ [a] ≠ [] := by simp
    rw [List.cons_append, joinL_cons h2, joinL_cons h1, joinL_snoc h1]
    simp
def joinK (cells : List UInt8) (w h k : Nat) : List UInt8 := joinL 47 (topL cells w h k)
theorem joinK_one (cells : List UInt8) (w h : Nat) : joinK cells w h 1 = rowL cells w (h - 1) := by
  simp [joinK, topL, joinL, List.range_succ]
theorem joinK_succ (cells : List UInt8) (w h k : Nat) (hk : 0 < k) : joinK cells w h (k + 1) = joinK cells w h k ++ 47 :: rowL cells w (h - 1 - k) := by
  unfold joinK
  rw [topL_succ, joinL_snoc]
  intro e
  have := topL_len cells w h k
  rw [e] at this
  simp at this
  omega
/-- the text of a position -/
def textL (p : Pos) : List UInt8 := joinK p.cells.data.toList p.w.toNat p.h.toNat p.h.toNat ++ ((if p.turn = 0 then [32, 119, 32] else [32, 98, 32]) ++ (dashL p.h0.data.toList ++ 47 :: dashL p.h1.data.toList))
theorem rowL_len {cells : List UInt8} {w h y : Nat} (hl : cells.length = w * h) (hy : y < h) : (rowL cells w y).length = w := by
  unfold rowL
  rw [List.length_take, List.length_drop, hl]
  have := Nat.mul_le_mul_left w (show y + 1 ≤ h by omega)
  rw [Nat.mul_add, Nat.mul_one, Nat.mul_comm w y] at this
  omega
theorem joinL_len {c : UInt8} {w : Nat} : ∀ {l : List (List UInt8)}, (∀ a ∈ l, a.length = w) → l ≠ [] → (joinL c l).length + 1 = l.length * (w + 1)
  | [], _, h => absurd rfl h
  | [a], h, _ => by simp [joinL, h a]
  | a :: b :: l, h, _ => by
    rw [joinL_cons (by simp)]
    have ih := joinL_len (c := c) (l := b :: l) (fun x hx => h x (List.mem_cons_of_mem _ hx)) (by simp)
    simp only [List.length_append, List.length_cons] at ih ⊢
    rw [h a List.mem_cons_self, Nat.add_mul, Nat.one_mul, ← ih]
    omega
theorem joinK_len {cells : List UInt8} {w h k : Nat} (hl : cells.length = w * h) (hk : k ≤ h) (h8 : h ≤ 8) (w8 : w ≤ 8) : (joinK cells w h k).length ≤ 72 := by
  by_cases e : k = 0
  · subst e; simp [joinK, topL, joinL]
  · have := joinL_len (c := 47) (w := w) (l := topL cells w h k) (fun a ha => by
      obtain ⟨i, hi, rfl⟩ := List.mem_map.1 ha
      exact rowL_len hl (by have := List.mem_range.1 hi; omega)) (fun e2 => by
      have := topL_len cells w h k
      rw [e2] at this
      simp at this
      omega)
    rw [topL_len] at this
    unfold joinK
    have h1 := Nat.mul_le_mul (show k ≤ 8 by omega) (show w + 1 ≤ 9 by omega)
    omega
end Go.Proofs.YtcdfeaodfmfdnaaDoor
