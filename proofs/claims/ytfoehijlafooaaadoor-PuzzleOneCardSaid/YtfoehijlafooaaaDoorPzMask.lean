/- Puzzles: the masks of the search: plain. -/
import Derived.Test.YtfoehijlafooaaaDoorPzPlain
namespace Go.Proofs.YtfoehijlafooaaaDoor

def updN (f : Nat → Nat) (a v : Nat) : Nat → Nat := fun p => if p = a then v else f p
theorem updN_same (f : Nat → Nat) (a v : Nat) : updN f a v a = v := by simp [updN]
theorem flip_back (R : Nat → Nat) (a b : Nat) : updN (updN R a (R a ^^^ b)) a (updN R a (R a ^^^ b) a ^^^ b) = R := by
  funext p
  unfold updN
  by_cases h : p = a
  · subst h; simp [Nat.xor_assoc]
  · simp [h]

theorem MaskOk.flip {n : Nat} {g : Nat → Nat} {now : List Int} {R : Nat → Nat} (h : MaskOk n g now R) {i c : Nat} (hi : i < now.length) (h0 : gat now i = 0) (hc : c < n) (hb : (R (g i)).testBit c = false) :
    MaskOk n g (now.set i ((c : Int) + 1)) (updN R (g i) (R (g i) ^^^ 2 ^ c)) := by
  intro a ha
  obtain ⟨h1, h2⟩ := h a ha
  unfold updN
  by_cases e : a = g i
  · rw [if_pos e]
    subst e
    refine ⟨Nat.xor_lt_two_pow h1 (Nat.pow_lt_pow_right (by decide) hc), fun c' hc' => ?_⟩
    rw [Nat.testBit_xor, Nat.testBit_two_pow]
    by_cases ec : c = c'
    · subst ec
      rw [hb]
      simp only [decide_true, Bool.false_bne, true_iff]
      exact ⟨i, by simpa using hi, rfl, by rw [gat_set hi, if_pos rfl]⟩
    · simp only [ec, decide_false, Bool.bne_false]
      rw [h2 c' hc']
      constructor
      · rintro ⟨j, q1, q2, q3⟩
        refine ⟨j, by simpa using q1, q2, ?_⟩
        rw [gat_set hi, if_neg (fun x => by subst x; omega)]; exact q3
      · rintro ⟨j, q1, q2, q3⟩
        rw [gat_set hi] at q3
        split at q3
        · omega
        · exact ⟨j, by simpa using q1, q2, q3⟩
  · rw [if_neg e]
    refine ⟨h1, fun c' hc' => ?_⟩
    rw [h2 c' hc']
    constructor
    · rintro ⟨j, q1, q2, q3⟩
      refine ⟨j, by simpa using q1, q2, ?_⟩
      rw [gat_set hi, if_neg (fun x => by subst x; omega)]; exact q3
    · rintro ⟨j, q1, q2, q3⟩
      rw [gat_set hi] at q3
      split at q3
      · rename_i x; subst x; exact absurd q2.symm e
      · exact ⟨j, by simpa using q1, q2, q3⟩

section
variable {r k : Nat} {now : List Int} {R K B : Nat → Nat} {i : Nat}
theorem freeN_bit {c : Nat} : (freeN r k R K B i).testBit c = (decide (c < r * k) && !(R (i / (r * k))).testBit c && !(K (i % (r * k))).testBit c && !(B (boxN r k i)).testBit c) := by
  unfold freeN
  simp only [Nat.testBit_xor, Nat.testBit_and, Nat.testBit_or, Nat.testBit_two_pow_sub_one]
  cases decide (c < r * k) <;> cases (R (i / (r * k))).testBit c <;> cases (K (i % (r * k))).testBit c <;> cases (B (boxN r k i)).testBit c <;> rfl
theorem free_fits (hr : 0 < r) (hk : 0 < k) (hm : Masks r k now R K B) (hi : i < r * k * (r * k)) (h0 : gat now i = 0) {c : Nat} (hc : c < r * k) :
    (freeN r k R K B i).testBit c = fitsAt r k now i ((c : Int) + 1) := by
  have hn : 0 < r * k := Nat.mul_pos hr hk
  have a1 := (hm.row (i / (r * k)) (Nat.div_lt_of_lt_mul hi)).2 c hc
  have a2 := (hm.col (i % (r * k)) (Nat.mod_lt _ hn)).2 c hc
  have a3 := (hm.box (boxN r k i) (box_lt hr hk hi)).2 c hc
  rw [Bool.eq_iff_iff, freeN_bit, fitsAt_iff]
  simp only [Bool.and_eq_true, decide_eq_true_eq, Bool.not_eq_true']
  constructor
  · rintro ⟨⟨⟨-, q1⟩, q2⟩, q3⟩ j hj hne he
    cases ht : touch r k i j with
    | false => rfl
    | true =>
      rcases (touch_iff hr hk).1 ht with t | t | t
      · rw [a1.2 ⟨j, hj, t.symm, he⟩] at q1; cases q1
      · rw [a2.2 ⟨j, hj, t.symm, he⟩] at q2; cases q2
      · rw [a3.2 ⟨j, hj, t.symm, he⟩] at q3; cases q3
  · intro h
    have key : ∀ {b : Bool} {P : Nat → Prop}, (b = true ↔ ∃ j, j < now.length ∧ P j ∧ gat now j = (c : Int) + 1) → (∀ j, P j → touch r k i j = true) → b = false := by
      intro b P hb ht
      cases b with
      | false => rfl
      | true =>
        obtain ⟨j, j1, j2, j3⟩ := hb.1 rfl
        have := h j j1 (fun e => by subst e; omega) j3
        rw [ht j j2] at this; cases this
    exact ⟨⟨⟨hc, key a1 (fun j e => (touch_iff hr hk).2 (.inl e.symm))⟩, key a2 (fun j e => (touch_iff hr hk).2 (.inr (.inl e.symm)))⟩, key a3 (fun j e => (touch_iff hr hk).2 (.inr (.inr e.symm)))⟩
theorem nums_bits (hr : 0 < r) (hk : 0 < k) (hm : Masks r k now R K B) (hi : i < r * k * (r * k)) (h0 : gat now i = 0) : nums r k now i = bitsOf (freeN r k R K B i) := by
  unfold nums bitsOf
  apply List.filter_congr
  intro c _
  by_cases hc : c < r * k
  · rw [free_fits hr hk hm hi h0 hc]; simp [hc]
  · simp [freeN_bit, hc]
theorem Masks.flip (hr : 0 < r) (hk : 0 < k) (hm : Masks r k now R K B) (hl : now.length = r * k * (r * k)) (hi : i < now.length) (h0 : gat now i = 0) {c : Nat} (hc : c < r * k) (hf : fitsAt r k now i ((c : Int) + 1) = true) :
    Masks r k (now.set i ((c : Int) + 1)) (updN R (i / (r * k)) (R (i / (r * k)) ^^^ 2 ^ c)) (updN K (i % (r * k)) (K (i % (r * k)) ^^^ 2 ^ c)) (updN B (boxN r k i) (B (boxN r k i) ^^^ 2 ^ c)) := by
  rw [← free_fits hr hk hm (by omega) h0 hc, freeN_bit] at hf
  simp only [Bool.and_eq_true, Bool.not_eq_true'] at hf
  exact ⟨hm.row.flip hi h0 hc hf.1.1.2, hm.col.flip hi h0 hc hf.1.2, hm.box.flip hi h0 hc hf.2⟩
theorem Masks.zero (L : Nat) : Masks r k (List.replicate L 0) (fun _ => 0) (fun _ => 0) (fun _ => 0) := by
  have h : ∀ n g, MaskOk n g (List.replicate L 0) (fun _ => 0) := fun n g a _ => by
    refine ⟨Nat.two_pow_pos _, fun c _ => ?_⟩
    simp only [Nat.zero_testBit, Bool.false_eq_true, false_iff]
    rintro ⟨j, hj, -, h⟩
    rw [gat_get hj] at h
    simp at h
    omega
  exact ⟨h _ _, h _ _, h _ _⟩
theorem lowBit_mem {f : Nat} (hf : f < 512) (h0 : f ≠ 0) : lowBit f ∈ bitsOf f := by rw [bitsOf_step hf h0]; simp
theorem bits_and_lt {f : Nat} (hf : f < 512) : f &&& (f - 1) < 512 := Nat.lt_of_le_of_lt Nat.and_le_left hf
theorem bits_and_sub {f : Nat} (hf : f < 512) (h0 : f ≠ 0) : f &&& (f - 1) < f := by
  have key : ∀ f, f < 512 → f ≠ 0 → f &&& (f - 1) < f := by decide +kernel
  exact key f hf h0
theorem bitsOf_nil {f : Nat} (hf : f < 512) : bitsOf f = [] ↔ f = 0 := by
  constructor
  · intro h
    by_cases e : f = 0
    · exact e
    · rw [bitsOf_step hf e] at h; cases h
  · rintro rfl; exact bitsOf_zero
end

/-- the first 'most' of what there was and what comes -/
def addT {α : Type} (most : Nat) (out xs : List α) : List α := (out ++ xs).take most
theorem addT_nil {α : Type} {most : Nat} {out : List α} (h : out.length ≤ most) : addT most out [] = out := by simp [addT, List.take_of_length_le h]
theorem addT_len {α : Type} {most : Nat} {out xs : List α} : (addT most out xs).length ≤ most := by simp [addT]; omega
theorem addT_addT {α : Type} (most : Nat) (out a b : List α) : addT most (addT most out a) b = addT most out (a ++ b) := by
  unfold addT
  rw [← List.append_assoc]
  generalize out ++ a = l
  by_cases h : l.length ≤ most
  · rw [List.take_of_length_le h]
  · rw [List.take_append_of_le_length (by simp; omega), List.take_take, Nat.min_self, List.take_append_of_le_length (by omega)]
theorem addT_full {α : Type} {most : Nat} {out xs : List α} (h : out.length = most) : addT most out xs = out := by
  unfold addT
  rw [List.take_append_of_le_length (by omega), List.take_of_length_le (by omega)]
theorem addT_one {α : Type} {most : Nat} {out : List α} {x : α} (h : out.length < most) : addT most out [x] = out ++ [x] := by
  unfold addT
  rw [List.take_of_length_le (by simp; omega)]

/-- no number stands twice where it must not -/
def fitsG (r k : Nat) (cells : List Int) : Bool := (List.range cells.length).all fun i => (List.range i).all fun j => !(decide (gat cells i > 0) && (gat cells i == gat cells j && touch r k i j))
def FitsTo (r k : Nat) (cells : List Int) (t : Nat) : Prop := ∀ i, i < t → ∀ j, j < i → gat cells i > 0 → gat cells i = gat cells j → touch r k i j = false
theorem fitsG_iff {r k : Nat} {cells : List Int} : fitsG r k cells = true ↔ FitsTo r k cells cells.length := by
  unfold fitsG FitsTo
  simp only [List.all_eq_true, List.mem_range, Bool.not_eq_true', Bool.and_eq_false_iff, decide_eq_false_iff_not, beq_eq_false_iff_ne]
  constructor
  · intro h i hi j hj h1 h2
    rcases h i hi j hj with h3 | h3 | h3
    · exact absurd h1 h3
    · exact absurd h2 h3
    · exact h3
  · intro h i hi j hj
    by_cases h1 : gat cells i > 0
    · by_cases h2 : gat cells i = gat cells j
      · exact .inr (.inr (h i hi j hj h1 h2))
      · exact .inr (.inl h2)
    · exact .inl h1
noncomputable def answers (r k : Nat) (cells : List Int) (most : Nat) : List (List Int) := if fitsG r k cells = true then addT most [] (solsF r k 0 cells) else []

/-- the first t cells alone -/
def pre (cells : List Int) (t : Nat) : List Int := cells.take t ++ List.replicate (cells.length - t) 0
theorem pre_len {cells : List Int} {t : Nat} (h : t ≤ cells.length) : (pre cells t).length = cells.length := by simp [pre]; omega
theorem gat_pre {cells : List Int} {t j : Nat} (h : t ≤ cells.length) : gat (pre cells t) j = if j < t then gat cells j else 0 := by
  unfold pre gat
  simp only [List.getD_eq_getElem?_getD, List.getElem?_append, List.length_take]
  by_cases h1 : j < t
  · rw [if_pos (by omega), if_pos h1, List.getElem?_take_of_lt h1]
  · rw [if_neg (by omega), if_neg h1, List.getElem?_replicate]
    split <;> rfl
theorem pre_zero (cells : List Int) : pre cells 0 = List.replicate cells.length 0 := by simp [pre]
theorem pre_all (cells : List Int) : pre cells cells.length = cells := by simp [pre]
theorem pre_step {cells : List Int} {t : Nat} (h : t < cells.length) : pre cells (t + 1) = (pre cells t).set t (gat cells t) := by
  apply gat_ext
  · rw [List.length_set, pre_len (by omega), pre_len (by omega)]
  · intro j _
    rw [gat_set (by rw [pre_len (by omega)]; exact h), gat_pre (by omega), gat_pre (by omega)]
    by_cases h1 : j = t
    · rw [if_pos (by omega), if_pos h1, h1]
    · rw [if_neg h1]
      by_cases h2 : j < t
      · rw [if_pos (by omega), if_pos h2]
      · rw [if_neg (by omega), if_neg h2]
theorem pre_same {cells : List Int} {t : Nat} (h : t < cells.length) (h0 : gat cells t = 0) : pre cells (t + 1) = pre cells t := by
  rw [pre_step h, h0]
  apply gat_ext (by simp)
  intro j _
  rw [gat_set (by rw [pre_len (by omega)]; exact h)]
  split
  · rename_i e; rw [e, gat_pre (by omega), if_neg (by omega)]
  · rfl
theorem pre_fits {r k : Nat} {cells : List Int} {t : Nat} (h : t < cells.length) (hp : gat cells t > 0) (hf : FitsTo r k cells t) : fitsAt r k (pre cells t) t (gat cells t) = true ↔ FitsTo r k cells (t + 1) := by
  rw [fitsAt_iff]
  constructor
  · intro h1 i hi j hj g1 g2
    by_cases e : i = t
    · subst e
      exact h1 j (by rw [pre_len (by omega)]; omega) (by omega) (by rw [gat_pre (by omega), if_pos hj]; exact g2.symm)
    · exact hf i (by omega) j hj g1 g2
  · intro h1 j hj hne he
    rw [gat_pre (by omega)] at he
    split at he
    · rename_i hjt
      exact h1 t (by omega) j hjt hp he.symm
    · omega
theorem fits_not {r k : Nat} {cells : List Int} {t : Nat} (h : t < cells.length) (hn : ¬ FitsTo r k cells (t + 1)) : fitsG r k cells = false := by
  cases hg : fitsG r k cells with
  | false => rfl
  | true => exact absurd (fun i hi => fitsG_iff.1 hg i (by omega)) hn
end Go.Proofs.YtfoehijlafooaaaDoor
