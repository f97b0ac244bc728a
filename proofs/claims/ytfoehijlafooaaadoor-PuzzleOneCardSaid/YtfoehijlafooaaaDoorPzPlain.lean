/- Puzzles (squares of numbers): the plain law of the search. Nothing of the program. -/
import Derived.Test.YtfoehijlafooaaaDoorBase
namespace Go.Proofs.YtfoehijlafooaaaDoor

def gat (l : List Int) (j : Nat) : Int := l.getD j 0
theorem gat_get {l : List Int} {j : Nat} (h : j < l.length) : gat l j = l[j] := by simp [gat, h]
theorem gat_out {l : List Int} {j : Nat} (h : l.length ≤ j) : gat l j = 0 := by simp [gat, h]
theorem gat_set {l : List Int} {i : Nat} (hi : i < l.length) (v : Int) (j : Nat) : gat (l.set i v) j = if j = i then v else gat l j := by
  unfold gat
  simp only [List.getD_eq_getElem?_getD, List.getElem?_set]
  by_cases h : j = i
  · subst h; simp [hi]
  · rw [if_neg (fun e => h e.symm), if_neg h]
theorem gat_ext {l m : List Int} (hl : l.length = m.length) (h : ∀ j, j < l.length → gat l j = gat m j) : l = m := by
  apply List.ext_getElem hl
  intro j h1 h2
  have := h j h1
  rwa [gat_get h1, gat_get h2] at this
theorem set_back {l : List Int} {i : Nat} (hi : i < l.length) (v : Int) (h0 : gat l i = 0) : (l.set i v).set i 0 = l := by
  apply gat_ext (by simp)
  intro j hj
  rw [gat_set (by simpa using hi), gat_set hi]
  split
  · rename_i e; rw [e, h0]
  · rfl

def boxN (r k i : Nat) : Nat := i / (r * k) / r * r + i % (r * k) / k
def touch (r k i j : Nat) : Bool := i / (r * k) == j / (r * k) || i % (r * k) == j % (r * k) || (i / (r * k) / r == j / (r * k) / r && i % (r * k) / k == j % (r * k) / k)
theorem box_lt {r k i : Nat} (hr : 0 < r) (hk : 0 < k) (hi : i < r * k * (r * k)) : boxN r k i < r * k := by
  unfold boxN
  have hn : 0 < r * k := Nat.mul_pos hr hk
  have h1 : i / (r * k) < r * k := Nat.div_lt_of_lt_mul hi
  have h2 : i / (r * k) / r < k := Nat.div_lt_of_lt_mul h1
  have h3 : i % (r * k) / k < r := Nat.div_lt_of_lt_mul (by rw [Nat.mul_comm k r]; exact Nat.mod_lt _ hn)
  have h4 : i / (r * k) / r * r ≤ (k - 1) * r := Nat.mul_le_mul_right _ (by omega)
  have h5 : (k - 1) * r + r = r * k := by
    rw [← Nat.succ_mul, Nat.mul_comm]; congr 1; omega
  omega
theorem box_eq {r k i j : Nat} (hr : 0 < r) (hk : 0 < k) : boxN r k i = boxN r k j ↔ (i / (r * k) / r = j / (r * k) / r ∧ i % (r * k) / k = j % (r * k) / k) := by
  have hn : 0 < r * k := Nat.mul_pos hr hk
  have h3 : ∀ x, x % (r * k) / k < r := fun x => Nat.div_lt_of_lt_mul (by rw [Nat.mul_comm k r]; exact Nat.mod_lt _ hn)
  unfold boxN
  constructor
  · intro h
    have e : ∀ a b : Nat, b < r → (a * r + b) / r = a := fun a b hb => by
      rw [Nat.mul_comm, Nat.mul_add_div hr, Nat.div_eq_of_lt hb, Nat.add_zero]
    have h1 := congrArg (· / r) h
    simp only [e _ _ (h3 i), e _ _ (h3 j)] at h1
    rw [h1] at h
    exact ⟨h1, by omega⟩
  · rintro ⟨h1, h2⟩; rw [h1, h2]
theorem touch_iff {r k i j : Nat} (hr : 0 < r) (hk : 0 < k) : touch r k i j = true ↔ (i / (r * k) = j / (r * k) ∨ i % (r * k) = j % (r * k) ∨ boxN r k i = boxN r k j) := by
  rw [box_eq hr hk]
  unfold touch
  simp [or_assoc]
theorem touch_comm {r k i j : Nat} : touch r k i j = touch r k j i := by
  unfold touch
  congr 1
  · congr 1
    · exact Bool.beq_comm
    · exact Bool.beq_comm
  · congr 1
    · exact Bool.beq_comm
    · exact Bool.beq_comm

/-- may number c stand in cell i? -/
def fitsAt (r k : Nat) (now : List Int) (i : Nat) (c : Int) : Bool := (List.range now.length).all fun j => j == i || gat now j != c || !touch r k i j
theorem fitsAt_iff {r k : Nat} {now : List Int} {i : Nat} {c : Int} : fitsAt r k now i c = true ↔ ∀ j, j < now.length → j ≠ i → gat now j = c → touch r k i j = false := by
  unfold fitsAt
  simp only [List.all_eq_true, List.mem_range, Bool.or_eq_true, beq_iff_eq, bne_iff_ne, Bool.not_eq_true']
  constructor
  · intro h j hj hne he
    rcases h j hj with (h1 | h1) | h1
    · exact absurd h1 hne
    · exact absurd he h1
    · exact h1
  · intro h j hj
    by_cases h1 : j = i
    · exact .inl (.inl h1)
    · by_cases h2 : gat now j = c
      · exact .inr (h j hj h1 h2)
      · exact .inl (.inr h2)
def nums (r k : Nat) (now : List Int) (i : Nat) : List Nat := (List.range 9).filter fun c => decide (c < r * k) && fitsAt r k now i ((c : Int) + 1)
theorem mem_nums {r k : Nat} (hn : r * k ≤ 9) {now : List Int} {i c : Nat} : c ∈ nums r k now i ↔ c < r * k ∧ fitsAt r k now i ((c : Int) + 1) = true := by
  unfold nums
  simp only [List.mem_filter, List.mem_range, Bool.and_eq_true, decide_eq_true_eq]
  constructor
  · rintro ⟨-, h⟩; exact h
  · intro h; exact ⟨by omega, h⟩

def sols (r k : Nat) : Nat → Nat → List Int → List (List Int)
  | 0, _, now => [now]
  | m + 1, i, now => if gat now i > 0 then sols r k m (i + 1) now else (nums r k now i).flatMap fun c : Nat => sols r k m (i + 1) (now.set i ((c : Int) + 1))
def solsF (r k i : Nat) (now : List Int) : List (List Int) := sols r k (now.length - i) i now
theorem solsF_end {r k : Nat} {now : List Int} {i : Nat} (h : i = now.length) : solsF r k i now = [now] := by
  subst h; simp [solsF, sols]
theorem solsF_skip {r k : Nat} {now : List Int} {i : Nat} (h : i < now.length) (hp : gat now i > 0) : solsF r k i now = solsF r k (i + 1) now := by
  unfold solsF
  rw [show now.length - i = (now.length - (i + 1)) + 1 by omega, sols, if_pos hp]
theorem solsF_step {r k : Nat} {now : List Int} {i : Nat} (h : i < now.length) (hp : ¬ gat now i > 0) : solsF r k i now = (nums r k now i).flatMap fun c : Nat => solsF r k (i + 1) (now.set i ((c : Int) + 1)) := by
  unfold solsF
  rw [show now.length - i = (now.length - (i + 1)) + 1 by omega, sols, if_neg hp]
  congr 1
  funext c
  rw [List.length_set]

theorem fitsAt_set {r k : Nat} {now : List Int} {i q : Nat} {v c : Int} (hi : i < now.length) (h0 : gat now i = 0) (hc : c ≠ 0) (h : fitsAt r k (now.set i v) q c = true) : fitsAt r k now q c = true := by
  rw [fitsAt_iff] at h ⊢
  intro j hj hne he
  refine h j (by simpa using hj) hne ?_
  rw [gat_set hi]
  split
  · rename_i e; rw [e, h0] at he; exact absurd he.symm hc
  · exact he
/-- a cell that no number fits: nothing comes of it -/
theorem stuck_nil {r k : Nat} (hn : r * k ≤ 9) : ∀ (m : Nat) {now : List Int} {i q : Nat} (_ : now.length - i = m) (_ : i ≤ q) (_ : q < now.length) (_ : gat now q = 0) (_ : ∀ j, j < now.length → 0 ≤ gat now j) (_ : nums r k now q = []), solsF r k i now = []
  | 0, now, i, q, hm, h1, h2, _, _, _ => by omega
  | m + 1, now, i, q, hm, h1, h2, h3, h4, h5 => by
    have hi : i < now.length := by omega
    by_cases hp : gat now i > 0
    · rw [solsF_skip hi hp]
      have : i ≠ q := fun e => by rw [e, h3] at hp; omega
      exact stuck_nil hn m (by omega) (by omega) h2 h3 h4 h5
    · rw [solsF_step hi hp]
      have h0 : gat now i = 0 := by have := h4 i hi; omega
      by_cases e : i = q
      · rw [e, h5]; rfl
      · rw [List.flatMap_eq_nil_iff]
        intro c _
        refine stuck_nil hn m (by simp; omega) (by omega) (by simpa using h2) ?_ ?_ ?_ (q := q)
        · rw [gat_set hi, if_neg (fun x => e x.symm)]; exact h3
        · intro j hj
          rw [gat_set hi]
          split
          · omega
          · exact h4 j (by simpa using hj)
        · apply List.eq_nil_iff_forall_not_mem.2
          intro x hx
          obtain ⟨x1, x2⟩ := (mem_nums hn).1 hx
          have := (mem_nums hn).2 ⟨x1, fitsAt_set hi h0 (by omega) x2⟩
          rw [h5] at this
          exact absurd this (by simp)

/-- the numbers of a mask -/
def bitsOf (f : Nat) : List Nat := (List.range 9).filter fun c => f.testBit c
theorem bitsOf_zero : bitsOf 0 = [] := by simp [bitsOf]
def lowBit (f : Nat) : Nat := ((List.range 9).find? fun c => f.testBit c).getD 64
theorem bitsOf_step {f : Nat} (hf : f < 512) (h0 : f ≠ 0) : bitsOf f = lowBit f :: bitsOf (f &&& (f - 1)) := by
  have key : ∀ f, f < 512 → f ≠ 0 → bitsOf f = lowBit f :: bitsOf (f &&& (f - 1)) := by decide +kernel
  exact key f hf h0

def MaskOk (n : Nat) (g : Nat → Nat) (now : List Int) (R : Nat → Nat) : Prop :=
  ∀ a, a < n → R a < 2 ^ n ∧ ∀ c, c < n → ((R a).testBit c = true ↔ ∃ j, j < now.length ∧ g j = a ∧ gat now j = (c : Int) + 1)
structure Masks (r k : Nat) (now : List Int) (R K B : Nat → Nat) : Prop where
  row : MaskOk (r * k) (· / (r * k)) now R
  col : MaskOk (r * k) (· % (r * k)) now K
  box : MaskOk (r * k) (boxN r k) now B
def freeN (r k : Nat) (R K B : Nat → Nat) (i : Nat) : Nat := (2 ^ (r * k) - 1) ^^^ ((2 ^ (r * k) - 1) &&& (R (i / (r * k)) ||| K (i % (r * k)) ||| B (boxN r k i)))
theorem freeN_lt {r k : Nat} {R K B : Nat → Nat} {i : Nat} : freeN r k R K B i < 2 ^ (r * k) := by
  have h : 0 < 2 ^ (r * k) := Nat.two_pow_pos _
  unfold freeN
  exact Nat.xor_lt_two_pow (by omega) (Nat.lt_of_le_of_lt Nat.and_le_left (by omega))
end Go.Proofs.YtfoehijlafooaaaDoor
