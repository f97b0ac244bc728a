/- Lines of pieces, plain: as the document asks for them. -/
import Derived.Test.YtdfegpohmaideaaGreatHasPlain
namespace Go.Proofs.YtdfegpohmaideaaGreat

def r4x (i : Nat) : Int := (dirs4R.getD i (0, 0)).1
def r4y (i : Nat) : Int := (dirs4R.getD i (0, 0)).2
theorem r4_mem {i : Nat} (h : i < 4) : (r4x i, r4y i) ∈ dirs4R := by
  match i, h with
  | 0, _ => simp [r4x, r4y, dirs4R]
  | 1, _ => simp [r4x, r4y, dirs4R]
  | 2, _ => simp [r4x, r4y, dirs4R]
  | 3, _ => simp [r4x, r4y, dirs4R]
theorem r4_all {d : Int × Int} (h : d ∈ dirs4R) : ∃ i, i < 4 ∧ d = (r4x i, r4y i) := by
  unfold dirs4R at h
  simp only [List.mem_cons, List.not_mem_nil, or_false] at h
  rcases h with rfl | rfl | rfl | rfl
  · exact ⟨0, by omega, rfl⟩
  · exact ⟨1, by omega, rfl⟩
  · exact ⟨2, by omega, rfl⟩
  · exact ⟨3, by omega, rfl⟩
theorem r4_rng {i : Nat} (h : i < 4) : -1 ≤ r4x i ∧ r4x i ≤ 1 ∧ -1 ≤ r4y i ∧ r4y i ≤ 1 ∧ (r4x i ≠ 0 ∨ r4y i ≠ 0) := by
  match i, h with
  | 0, _ => decide
  | 1, _ => decide
  | 2, _ => decide
  | 3, _ => decide
/-- none from (x, y) in the first i directions; from no cell of row y ahead of x; of no row ahead of y -/
def NoD (p : Pos) (pl : Int) (n : Nat) (x y i : Nat) : Prop := ∀ j, j < i → ¬ LineR p pl n (r4x j) (r4y j) x y
def NoX (p : Pos) (pl : Int) (n : Nat) (x y : Nat) : Prop := ∀ b, b < x → NoD p pl n b y 4
def NoY (p : Pos) (pl : Int) (n : Nat) (y : Nat) : Prop := ∀ b, b < y → NoX p pl n p.w.toNat b
theorem noD_next {p : Pos} {pl : Int} {n x y i : Nat} (h : NoD p pl n x y i) (k : ¬ LineR p pl n (r4x i) (r4y i) x y) : NoD p pl n x y (i + 1) := fun j hj => by
  by_cases e : j = i
  · subst e; exact k
  · exact h j (by omega)
theorem noX_next {p : Pos} {pl : Int} {n x y : Nat} (h : NoX p pl n x y) (k : NoD p pl n x y 4) : NoX p pl n (x + 1) y := fun j hj => by
  by_cases e : j = x
  · subst e; exact k
  · exact h j (by omega)
theorem noY_next {p : Pos} {pl : Int} {n y : Nat} (h : NoY p pl n y) (k : NoX p pl n p.w.toNat y) : NoY p pl n (y + 1) := fun j hj => by
  by_cases e : j = y
  · subst e; exact k
  · exact h j (by omega)
theorem lined_none {p : Pos} (hp : PosOk p) {pl : Int} {n : Nat} (hn : 1 ≤ n) (h : NoY p pl n p.h.toNat) : hasB p pl n = false := by
  rw [← linedB_same hp pl hn]
  simp only [decide_eq_false_iff_not]
  rintro ⟨a, ha, d, hd, hl⟩
  obtain ⟨i, hi, rfl⟩ := r4_all hd
  have hs : p.cells.size = p.w.toNat * p.h.toNat := hp.len
  have ha' : a < p.w.toNat * p.h.toNat := by omega
  exact h _ (row_lt ha') _ (col_lt ha') i hi hl
theorem lined_some {p : Pos} (hp : PosOk p) {pl : Int} {n x y i : Nat} (hn : 1 ≤ n) (hx : x < p.w.toNat) (hy : y < p.h.toNat) (hi : i < 4) (h : LineR p pl n (r4x i) (r4y i) x y) : hasB p pl n = true := by
  rw [← linedB_same hp pl hn]
  simp only [decide_eq_true_eq]
  have hs : p.cells.size = p.w.toNat * p.h.toNat := hp.len
  refine ⟨y * p.w.toNat + x, by rw [hs]; exact cell_lt hx hy, _, r4_mem hi, ?_⟩
  rw [mod_cell hx, div_cell hx]
  exact h
open Classical in
noncomputable def lineB2 (p : Pos) (pl : Int) (n : Nat) (dx dy x y : Int) : Bool := decide (LineR p pl n dx dy x y)
theorem lineB2_zero {p : Pos} {pl dx dy x y : Int} : lineB2 p pl 0 dx dy x y = true := by unfold lineB2; simp [line_zero]
theorem lineB2_false {p : Pos} {pl dx dy x y : Int} {k : Nat} (h : lineB2 p pl k dx dy x y = false) : lineB2 p pl (k + 1) dx dy x y = false := by
  unfold lineB2 at *
  simp only [decide_eq_false_iff_not] at *
  exact fun h2 => h (line_more h2 (by omega))
theorem lineB2_next {p : Pos} {pl dx dy x y : Int} {k : Nat} (h : lineB2 p pl k dx dy x y = true) (h1 : AtB p (stepI x dx k) (stepI y dy k)) : lineB2 p pl (k + 1) dx dy x y = mineB (cellN p (idxN p.w (stepI x dx k) (stepI y dy k))) pl := by
  unfold lineB2 at *
  simp only [decide_eq_true_eq] at h
  rw [Bool.eq_iff_iff]
  simp only [decide_eq_true_eq]
  exact ⟨fun h2 => (h2 k (by omega)).2, fun h2 => line_next h h1 h2⟩
theorem lineB2_off {p : Pos} {pl dx dy x y : Int} {k : Nat} (h1 : ¬ AtB p (stepI x dx k) (stepI y dy k)) : lineB2 p pl (k + 1) dx dy x y = false := by
  unfold lineB2
  simp only [decide_eq_false_iff_not]
  exact fun h => h1 (h k (by omega)).1
theorem lineB2_true {p : Pos} {pl dx dy x y : Int} {k : Nat} : lineB2 p pl k dx dy x y = true ↔ LineR p pl k dx dy x y := by unfold lineB2; simp
theorem lineB2_not {p : Pos} {pl dx dy x y : Int} {k : Nat} : lineB2 p pl k dx dy x y = false ↔ ¬ LineR p pl k dx dy x y := by unfold lineB2; simp
end Go.Proofs.YtdfegpohmaideaaGreat
