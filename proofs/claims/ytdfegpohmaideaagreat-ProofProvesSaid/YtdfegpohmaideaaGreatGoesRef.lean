/- Where a piece goes, plain: as the document's loop asks. -/
import Derived.Test.YtdfegpohmaideaaGreatMovesPlain
namespace Go.Proofs.YtdfegpohmaideaaGreat

theorem hit_sum {p : Pos} {w : WayD} {a t k : Nat} (h : HitR p w a t k) : absI (dxI p a t) + absI (dyI p a t) = (k : Int) * (w.x + w.y) := by
  rw [Int.mul_add]
  rcases h with ⟨h1, h2⟩ | ⟨h1, h2⟩ <;> omega
theorem hit_uniq {p : Pos} {w : WayD} (hw : WayOk w) {a t k l : Nat} (h : HitR p w a t k) (g : HitR p w a t l) : k = l := by
  have h1 := hit_sum h
  rw [hit_sum g] at h1
  have hs : w.x + w.y ≠ 0 := by have := hw.2.2.2.2.2.2.1; omega
  have := Int.eq_of_mul_eq_mul_right hs h1
  omega
instance (p : Pos) (w : WayD) (a t k : Nat) : Decidable (HitR p w a t k) := by unfold HitR; infer_instance
open Classical in
noncomputable def freeB (p : Pos) (a t k : Nat) : Bool := decide (FreeR p a t k)
theorem goes_step {p : Pos} {w : WayD} {a t : Nat} (h : w.kind = 3) : goesB p w a t = ((absI (dxI p a t) == w.x) && (dyI p a t * (1 - 2 * p.turn) == w.y)) := by
  unfold goesB GoesR
  rw [if_pos h, Bool.eq_iff_iff]
  simp
theorem goes_hit {p : Pos} {w : WayD} (hw : WayOk w) {a t k : Nat} (h3 : w.kind ≠ 3) (k1 : 1 ≤ k) (k7 : k ≤ 7) (hk : w.kind = 1 → k = 1) (h : HitR p w a t k) : goesB p w a t = freeB p a t k := by
  unfold goesB GoesR freeB
  rw [if_neg h3, Bool.eq_iff_iff]
  simp only [decide_eq_true_eq]
  constructor
  · rintro ⟨l, _, _, _, h4, h5⟩
    rw [hit_uniq hw h h4]; exact h5
  · exact fun h5 => ⟨k, k1, k7, hk, h, h5⟩
theorem goes_none {p : Pos} {w : WayD} {a t : Nat} (h3 : w.kind ≠ 3) (h : ∀ k, 1 ≤ k → k ≤ 7 → (w.kind = 1 → k = 1) → ¬ HitR p w a t k) : goesB p w a t = false := by
  unfold goesB GoesR
  rw [if_neg h3]
  simp only [decide_eq_false_iff_not]
  rintro ⟨k, h1, h2, h4, h5, _⟩
  exact h k h1 h2 h4 h5
/-- free up to i -/
def FreeTo (p : Pos) (a t k j : Nat) : Prop := ∀ i : Nat, 1 ≤ i → i < j → cellN p (((a : Int) + (dxI p a t).tdiv k * i + (dyI p a t).tdiv k * i * p.w).toNat) = 46
open Classical in
noncomputable def freeToB (p : Pos) (a t k j : Nat) : Bool := decide (FreeTo p a t k j)
theorem freeTo_one (p : Pos) (a t k : Nat) : freeToB p a t k 1 = true := by unfold freeToB; simp only [decide_eq_true_eq]; intro i h1 h2; omega
theorem freeTo_all (p : Pos) (a t k : Nat) : freeToB p a t k k = freeB p a t k := rfl
theorem freeTo_next (p : Pos) (a t k j : Nat) (hj : 1 ≤ j) : freeToB p a t k (j + 1) = (freeToB p a t k j && (cellN p (((a : Int) + (dxI p a t).tdiv k * j + (dyI p a t).tdiv k * j * p.w).toNat) == 46)) := by
  unfold freeToB
  rw [Bool.eq_iff_iff]
  simp only [decide_eq_true_eq, Bool.and_eq_true, beq_iff_eq]
  constructor
  · exact fun h => ⟨fun i h1 h2 => h i h1 (by omega), h j hj (by omega)⟩
  · rintro ⟨h1, h2⟩ i h3 h4
    by_cases e : i = j
    · subst e; exact h2
    · exact h1 i h3 (by omega)
/-- what lies between two cells that a way joins is on the board -/
theorem hit_mid {p : Pos} (hp : PosOk p) {w : WayD} (hw : WayOk w) {a t k : Nat} (ha : a < p.cells.size) (ht : t < p.cells.size) (k1 : 1 ≤ k) (h : HitR p w a t k) : ∃ dx dy : Int, -7 ≤ dx ∧ dx ≤ 7 ∧ -7 ≤ dy ∧ dy ≤ 7 ∧ (dxI p a t).tdiv k = dx ∧ (dyI p a t).tdiv k = dy ∧ 
    ∀ i : Nat, i ≤ k → ∃ j : Nat, (a : Int) + dx * i + dy * i * p.w = (j : Int) ∧ j < p.cells.size := by
  have hl : p.cells.size = p.w.toNat * p.h.toNat := hp.len
  obtain ⟨hA, hAi⟩ := at_of (p := p) (a := a) hp.w1 (by omega)
  obtain ⟨hT, hTi⟩ := at_of (p := p) (a := t) hp.w1 (by omega)
  obtain ⟨_, _, x0, x7, y0, y7, _, _, _, _⟩ := hw
  have sgn : ∀ (z b : Int), 0 ≤ b → absI z = (k : Int) * b → ∃ d, z = (k : Int) * d ∧ absI d = b := by
    intro z b hb hz
    rcases absI_eq hz with h | h
    · exact ⟨b, h, absI_pos hb⟩
    · exact ⟨-b, by rw [h, Int.mul_neg], by rw [absI_neg (by omega)]; omega⟩
  obtain ⟨dx, dy, hx, hy, hdx, hdy⟩ : ∃ dx dy : Int, dxI p a t = (k : Int) * dx ∧ dyI p a t = (k : Int) * dy ∧ absI dx ≤ 7 ∧ absI dy ≤ 7 := by
    rcases h with ⟨h1, h2⟩ | ⟨h1, h2⟩
    · obtain ⟨dx, e1, e2⟩ := sgn _ _ x0 h1
      obtain ⟨dy, e3, e4⟩ := sgn _ _ y0 h2
      exact ⟨dx, dy, e1, e3, by omega, by omega⟩
    · obtain ⟨dx, e1, e2⟩ := sgn _ _ y0 h1
      obtain ⟨dy, e3, e4⟩ := sgn _ _ x0 h2
      exact ⟨dx, dy, e1, e3, by omega, by omega⟩
  have b1 : -7 ≤ dx ∧ dx ≤ 7 := by unfold absI at hdx; split at hdx <;> omega
  have b2 : -7 ≤ dy ∧ dy ≤ 7 := by unfold absI at hdy; split at hdy <;> omega
  refine ⟨dx, dy, b1.1, b1.2, b2.1, b2.2, by rw [hx]; exact tdiv_mul k1 dx, by rw [hy]; exact tdiv_mul k1 dy, fun i hi => ?_⟩
  unfold dxI at hx
  unfold dyI at hy
  obtain ⟨n1, n2, n3, n4⟩ := hA
  obtain ⟨m1, m2, m3, m4⟩ := hT
  have c1 := between (d := dx) (i := i) (k := k) n1 n2 (by omega) (by omega) hi
  have c2 := between (d := dy) (i := i) (k := k) n3 n4 (by omega) (by omega) hi
  have hon : AtB p (((a % p.w.toNat : Nat) : Int) + (i : Int) * dx) (((a / p.w.toNat : Nat) : Int) + (i : Int) * dy) := ⟨c1.1, c1.2, c2.1, c2.2⟩
  obtain ⟨f1, f2, f3, f4⟩ := idx_at hon
  refine ⟨_, ?_, by rw [hl]; exact f3⟩
  rw [f4]
  obtain ⟨g1, g2, g3, g4⟩ := idx_at (p := p) ⟨n1, n2, n3, n4⟩
  rw [hAi] at g4
  rw [g4, Int.add_mul, Int.mul_comm dx, Int.mul_comm dy]
  omega
theorem dxI_rng {p : Pos} (hp : PosOk p) {a t : Nat} (ha : a < p.cells.size) (ht : t < p.cells.size) : -7 ≤ dxI p a t ∧ dxI p a t ≤ 7 ∧ -7 ≤ dyI p a t ∧ dyI p a t ≤ 7 := by
  have hl : p.cells.size = p.w.toNat * p.h.toNat := hp.len
  obtain ⟨⟨n1, n2, n3, n4⟩, _⟩ := at_of (p := p) (a := a) hp.w1 (by omega)
  obtain ⟨⟨m1, m2, m3, m4⟩, _⟩ := at_of (p := p) (a := t) hp.w1 (by omega)
  have := hp.w8
  have := hp.h8
  unfold dxI dyI
  omega
end Go.Proofs.YtdfegpohmaideaaGreat
