/- Lines of pieces, plain: how a count goes on. -/
import Derived.Test.YtdfegpohmaideaaGreatMadePlain
namespace Go.Proofs.YtdfegpohmaideaaGreat

def d4x (i : Nat) : Int := (dirs4.getD i (0, 0)).1
def d4y (i : Nat) : Int := (dirs4.getD i (0, 0)).2
theorem d4_mem {i : Nat} (h : i < 4) : (d4x i, d4y i) ∈ dirs4 := by
  match i, h with
  | 0, _ => simp [d4x, d4y, dirs4]
  | 1, _ => simp [d4x, d4y, dirs4]
  | 2, _ => simp [d4x, d4y, dirs4]
  | 3, _ => simp [d4x, d4y, dirs4]
theorem d4_all {d : Int × Int} (h : d ∈ dirs4) : ∃ i, i < 4 ∧ d = (d4x i, d4y i) := by
  unfold dirs4 at h
  simp only [List.mem_cons, List.not_mem_nil, or_false] at h
  rcases h with rfl | rfl | rfl | rfl
  · exact ⟨0, by omega, rfl⟩
  · exact ⟨1, by omega, rfl⟩
  · exact ⟨2, by omega, rfl⟩
  · exact ⟨3, by omega, rfl⟩
theorem d4_rng {i : Nat} (h : i < 4) : -1 ≤ d4x i ∧ d4x i ≤ 1 ∧ -1 ≤ d4y i ∧ d4y i ≤ 1 ∧ (d4x i ≠ 0 ∨ d4y i ≠ 0) := by
  match i, h with
  | 0, _ => decide
  | 1, _ => decide
  | 2, _ => decide
  | 3, _ => decide
theorem stepI_zero (x dx : Int) : stepI x dx 0 = x := by unfold stepI; omega
theorem stepI_add (x dx : Int) (k : Nat) : stepI x dx k + dx = stepI x dx (k + 1) := by
  unfold stepI
  rw [Int.natCast_add, Int.add_mul]
  omega
theorem line_zero {p : Pos} {pl dx dy x y : Int} : LineR p pl 0 dx dy x y := fun k hk => by omega
theorem line_len {p : Pos} (hp : PosOk p) {pl dx dy x y : Int} {k : Nat} (hd : dx ≠ 0 ∨ dy ≠ 0) (h : LineR p pl k dx dy x y) : k ≤ 8 := by
  rcases Nat.eq_zero_or_pos k with h0 | h0
  · omega
  have hw := hp.w8
  have hh := hp.h8
  obtain ⟨a1, a2, a3, a4⟩ := (h 0 h0).1
  obtain ⟨b1, b2, b3, b4⟩ := (h (k - 1) (by omega)).1
  rw [stepI_zero] at a1 a2 a3 a4
  unfold stepI at b1 b2 b3 b4
  rcases hd with hd | hd
  · have := far_off a1 (by omega) hd b1 (by omega); omega
  · have := far_off a3 (by omega) hd b3 (by omega); omega
theorem line_next {p : Pos} {pl dx dy x y : Int} {k : Nat} (h : LineR p pl k dx dy x y) (h1 : AtB p (stepI x dx k) (stepI y dy k)) (h2 : mineB (cellN p (idxN p.w (stepI x dx k) (stepI y dy k))) pl = true) : LineR p pl (k + 1) dx dy x y := fun j hj => by
  by_cases e : j = k
  · subst e; exact ⟨h1, h2⟩
  · exact h j (by omega)
theorem line_stop {p : Pos} {pl dx dy x y : Int} {k n : Nat} (h : LineR p pl k dx dy x y) (hs : ¬ (AtB p (stepI x dx k) (stepI y dy k) ∧ mineB (cellN p (idxN p.w (stepI x dx k) (stepI y dy k))) pl = true)) : n ≤ k ↔ LineR p pl n dx dy x y := by
  constructor
  · exact fun hn => line_more h hn
  · intro hn
    rcases Nat.lt_or_ge k n with h1 | h1
    · exact absurd (hn k h1) hs
    · exact h1
/-- none so far from the cells ahead of a; none from a in the first i directions -/
def NoLine (p : Pos) (pl : Int) (n a : Nat) : Prop := ∀ b, b < a → ∀ i, i < 4 → ¬ LineR p pl n (d4x i) (d4y i) ((b % p.w.toNat : Nat) : Int) ((b / p.w.toNat : Nat) : Int)
def NoDir (p : Pos) (pl : Int) (n a i : Nat) : Prop := ∀ j, j < i → ¬ LineR p pl n (d4x j) (d4y j) ((a % p.w.toNat : Nat) : Int) ((a / p.w.toNat : Nat) : Int)
theorem noLine_next {p : Pos} {pl : Int} {n a : Nat} (h : NoLine p pl n a) (k : NoDir p pl n a 4) : NoLine p pl n (a + 1) := fun b hb i hi => by
  by_cases e : b = a
  · subst e; exact k i hi
  · exact h b (by omega) i hi
theorem noDir_next {p : Pos} {pl : Int} {n a i : Nat} (h : NoDir p pl n a i) (k : ¬ LineR p pl n (d4x i) (d4y i) ((a % p.w.toNat : Nat) : Int) ((a / p.w.toNat : Nat) : Int)) : NoDir p pl n a (i + 1) := fun j hj => by
  by_cases e : j = i
  · subst e; exact k
  · exact h j (by omega)
theorem has_none {p : Pos} {pl : Int} {n : Nat} (h : NoLine p pl n p.cells.size) : hasB p pl n = false := by
  unfold hasB
  simp only [decide_eq_false_iff_not]
  rintro ⟨a, ha, d, hd, hl⟩
  obtain ⟨i, hi, rfl⟩ := d4_all hd
  exact h a ha i hi hl
theorem has_some {p : Pos} {pl : Int} {n a i : Nat} (ha : a < p.cells.size) (hi : i < 4) (h : LineR p pl n (d4x i) (d4y i) ((a % p.w.toNat : Nat) : Int) ((a / p.w.toNat : Nat) : Int)) : hasB p pl n = true := by
  unfold hasB
  simp only [decide_eq_true_eq]
  exact ⟨a, ha, _, d4_mem hi, h⟩
end Go.Proofs.YtdfegpohmaideaaGreat
