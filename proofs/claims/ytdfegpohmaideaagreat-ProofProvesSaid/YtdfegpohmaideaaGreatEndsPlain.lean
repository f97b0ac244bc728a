/- Who has won, plain. -/
import Derived.Test.YtdfegpohmaideaaGreatMovesPlain
namespace Go.Proofs.YtdfegpohmaideaaGreat

/-- n pieces of a player from (x, y) on -/
def LineR (p : Pos) (pl : Int) (n : Nat) (dx dy x y : Int) : Prop :=
  ∀ k, k < n → AtB p (stepI x dx k) (stepI y dy k) ∧ mineB (cellN p (idxN p.w (stepI x dx k) (stepI y dy k))) pl = true
def dirs4 : List (Int × Int) := [(1, 0), (0, 1), (1, 1), (1, -1)]
def dirs4R : List (Int × Int) := [(1, 0), (0, 1), (1, 1), (-1, 1)]
def HasR (p : Pos) (pl : Int) (n : Nat) : Prop := ∃ a, a < p.cells.size ∧ ∃ d ∈ dirs4, LineR p pl n d.1 d.2 ((a % p.w.toNat : Nat) : Int) ((a / p.w.toNat : Nat) : Int)
def LinedR (p : Pos) (pl : Int) (n : Nat) : Prop := ∃ a, a < p.cells.size ∧ ∃ d ∈ dirs4R, LineR p pl n d.1 d.2 ((a % p.w.toNat : Nat) : Int) ((a / p.w.toNat : Nat) : Int)
open Classical in
noncomputable def hasB (p : Pos) (pl : Int) (n : Nat) : Bool := decide (HasR p pl n)

theorem line_back {p : Pos} {pl : Int} {n : Nat} {dx dy x y : Int} (h : LineR p pl (n + 1) dx dy x y) : LineR p pl (n + 1) (-dx) (-dy) (stepI x dx n) (stepI y dy n) := by
  intro k hk
  have := h (n - k) (by omega)
  have e : ∀ z dz : Int, stepI z dz (n - k) = stepI (stepI z dz n) (-dz) k := by
    intro z dz
    unfold stepI
    have e1 : ((n - k : Nat) : Int) = (n : Int) - (k : Int) := by omega
    rw [e1, Int.sub_mul, Int.mul_neg]
    omega
  rw [← e, ← e]
  exact this
theorem lines_same {p : Pos} (hp : PosOk p) (pl : Int) {n : Nat} (hn : 1 ≤ n) : HasR p pl n ↔ LinedR p pl n := by
  obtain ⟨n, rfl⟩ : ∃ m, n = m + 1 := ⟨n - 1, by omega⟩
  have hsz : p.cells.size = p.w.toNat * p.h.toNat := hp.len
  have key : ∀ {a : Nat} {dx dy : Int}, LineR p pl (n + 1) dx dy ((a % p.w.toNat : Nat) : Int) ((a / p.w.toNat : Nat) : Int) →
      ∃ b, b < p.cells.size ∧ LineR p pl (n + 1) (-dx) (-dy) ((b % p.w.toNat : Nat) : Int) ((b / p.w.toNat : Nat) : Int) := by
    intro a dx dy h
    have h1 := (h n (by omega)).1
    obtain ⟨e1, e2, e3, _⟩ := idx_at h1
    refine ⟨_, by rw [hsz]; exact e3, ?_⟩
    rw [e1, e2]
    exact line_back h
  unfold HasR LinedR dirs4 dirs4R
  constructor
  · rintro ⟨a, ha, ⟨dx, dy⟩, hd, h⟩
    simp only [List.mem_cons, Prod.mk.injEq, List.not_mem_nil, or_false] at hd
    rcases hd with ⟨rfl, rfl⟩ | ⟨rfl, rfl⟩ | ⟨rfl, rfl⟩ | ⟨rfl, rfl⟩
    · exact ⟨a, ha, (1, 0), by simp, h⟩
    · exact ⟨a, ha, (0, 1), by simp, h⟩
    · exact ⟨a, ha, (1, 1), by simp, h⟩
    · obtain ⟨b, hb, h2⟩ := key h
      exact ⟨b, hb, (-1, 1), by simp, h2⟩
  · rintro ⟨a, ha, ⟨dx, dy⟩, hd, h⟩
    simp only [List.mem_cons, Prod.mk.injEq, List.not_mem_nil, or_false] at hd
    rcases hd with ⟨rfl, rfl⟩ | ⟨rfl, rfl⟩ | ⟨rfl, rfl⟩ | ⟨rfl, rfl⟩
    · exact ⟨a, ha, (1, 0), by simp, h⟩
    · exact ⟨a, ha, (0, 1), by simp, h⟩
    · exact ⟨a, ha, (1, 1), by simp, h⟩
    · obtain ⟨b, hb, h2⟩ := key h
      exact ⟨b, hb, (1, -1), by simp, h2⟩
open Classical in
theorem linedB_same {p : Pos} (hp : PosOk p) (pl : Int) {n : Nat} (hn : 1 ≤ n) : decide (LinedR p pl n) = hasB p pl n := by
  unfold hasB
  rw [Bool.eq_iff_iff]
  simp only [decide_eq_true_eq]
  exact (lines_same hp pl hn).symm
/-- so many pieces of a player, counted on -/
theorem line_more {p : Pos} {pl : Int} {n m : Nat} {dx dy x y : Int} (h : LineR p pl n dx dy x y) (hm : m ≤ n) : LineR p pl m dx dy x y := fun k hk => h k (by omega)

/-- the letter of a player's piece -/
def letN (c : Nat) (pl : Int) : Nat := if pl = 1 then c + 32 else c
def hasL (l : List UInt8) (c : Nat) : Bool := l.any fun x => x.toNat == c
def lacksB (r : RulesD) (p : Pos) (pl : Int) : Bool := r.lose != 0 && !hasL p.cells.data.toList (letN r.lose pl)
/-- the row where a player wants to be -/
def rowOf (p : Pos) (pl : Int) : List UInt8 := if pl = 0 then p.cells.data.toList.drop (p.cells.size - p.w.toNat) else p.cells.data.toList.take p.w.toNat
def reachB (r : RulesD) (p : Pos) (pl : Int) : Bool := r.reach != 0 && hasL (rowOf p pl) (letN r.reach pl)
noncomputable def lineB (r : RulesD) (p : Pos) (pl : Int) : Bool := decide (0 < r.line) && hasB p pl r.line.toNat
noncomputable def endsN (r : RulesD) (p : Pos) : Int :=
  if lacksB r p p.turn then 1 + (1 - p.turn)
  else if lacksB r p (1 - p.turn) then 1 + p.turn
  else if lineB r p (1 - p.turn) then 1 + (1 - p.turn)
  else if lineB r p p.turn then 1 + p.turn
  else if reachB r p (1 - p.turn) then 1 + (1 - p.turn)
  else if reachB r p p.turn then 1 + p.turn
  else if (everyL r p).length = 0 then (if r.stuck then 1 + (1 - p.turn) else 3)
  else 0
/-- the moves, if the game is open -/
noncomputable def movesL (r : RulesD) (p : Pos) : List Mv := if endsN r p = 0 then everyL r p else []
theorem ends_range {r : RulesD} {p : Pos} (h : p.turn = 0 ∨ p.turn = 1) : 0 ≤ endsN r p ∧ endsN r p ≤ 3 := by
  unfold endsN
  rcases h with h | h <;> rw [h] <;> (repeat' split) <;> decide
theorem ends_open {r : RulesD} {p : Pos} (ht : p.turn = 0 ∨ p.turn = 1) (h : endsN r p = 0) : (everyL r p).length ≠ 0 := by
  intro h0
  unfold endsN at h
  rw [if_pos h0] at h
  rcases ht with h1 | h1 <;> rw [h1] at h <;> (repeat' split at h) <;> omega
end Go.Proofs.YtdfegpohmaideaaGreat
