/- What reading a position's text answers, plainly. -/
import Derived.Test.YtcdfeaodfmfdnaaGreatDoorBxRun
namespace Go.Proofs.YtcdfeaodfmfdnaaGreatDoor

def zeroPos : Pos := ⟨0, 0, ByteArray.empty, 0, ByteArray.empty, ByteArray.empty⟩
def posL (rs : List (List UInt8)) (t : Bool) (h0 h1 : List UInt8) : Pos := ⟨(wid rs : Int), (rs.length : Int), bytes rs.reverse.flatten, if t then 1 else 0, bytes h0, bytes h1⟩
def finB : BSt → Pos
  | .hand1 rs t h0 h => posL rs t h0 h
  | .dash1 rs t h0 => posL rs t h0 []
  | _ => zeroPos
/-- the reader can't go on, or the text is at its end too early -/
def FailB (l : List UInt8) (k : Nat) : Prop := ∃ st, k ≤ l.length ∧ runB (l.take k) = some st ∧ ((k = l.length ∧ accB st = false) ∨ ∃ c, l[k]? = some c ∧ stepB st c = none)
/-- what is answered -/
def ReadP (l : List UInt8) (p : Pos) (code at_ : Int) : Prop :=
  (∃ k, FailB l k ∧ p = zeroPos ∧ code = 3 ∧ at_ = k) ∨ (∃ st, runB l = some st ∧ accB st = true ∧ p = finB st ∧ code = 0 ∧ at_ = 0)
theorem run_take_succ {l : List UInt8} {k : Nat} {c : UInt8} (h : l[k]? = some c) : runB (l.take (k + 1)) = (runB (l.take k)).bind (stepB · c) := by
  obtain ⟨hk, e⟩ := List.getElem?_eq_some_iff.1 h
  rw [List.take_succ_eq_append_getElem hk, runB_snoc, e]
theorem run_none_of {l : List UInt8} {k : Nat} {st : BSt} {c : UInt8} (hr : runB (l.take k) = some st) (hc : l[k]? = some c) (hs : stepB st c = none) : ∀ j, k + 1 ≤ j → runB (l.take j) = none := by
  intro j hj
  induction j with
  | zero => omega
  | succ j ih =>
    by_cases e : k = j
    · subst e
      rw [run_take_succ hc, hr]
      exact hs
    · have h1 := ih (by omega)
      by_cases hl : j < l.length
      · rw [run_take_succ (List.getElem?_eq_getElem hl), h1]; rfl
      · rw [List.take_of_length_le (by omega)] at h1 ⊢
        exact h1
theorem fail_uniq {l : List UInt8} {k k' : Nat} (h : FailB l k) (h' : FailB l k') : k = k' := by
  have key : ∀ {k k' : Nat}, FailB l k → FailB l k' → ¬ k < k' := by
    rintro k k' ⟨st, hk, hr, h⟩ ⟨st', hk', hr', _⟩ hlt
    rcases h with ⟨e, _⟩ | ⟨c, hc, hs⟩
    · omega
    · rw [run_none_of hr hc hs k' (by omega)] at hr'
      cases hr'
  have := key h h'
  have := key h' h
  omega
theorem fail_not {l : List UInt8} {k : Nat} {st : BSt} (h : FailB l k) (hr : runB l = some st) : accB st = false := by
  obtain ⟨s0, hk, h0, h⟩ := h
  rcases h with ⟨e, ha⟩ | ⟨c, hc, hs⟩
  · rw [e, List.take_of_length_le (Nat.le_refl _), hr] at h0
    cases h0
    exact ha
  · have := run_none_of h0 hc hs l.length (by have := (List.getElem?_eq_some_iff.1 hc).1; omega)
    rw [List.take_of_length_le (Nat.le_refl _), hr] at this
    cases this
theorem readP_uniq {l : List UInt8} {p p' : Pos} {c c' a a' : Int} (h : ReadP l p c a) (h' : ReadP l p' c' a') : p = p' ∧ c = c' ∧ a = a' := by
  rcases h with ⟨k, hk, rfl, rfl, rfl⟩ | ⟨st, hr, ha, rfl, rfl, rfl⟩ <;> rcases h' with ⟨k', hk', rfl, rfl, rfl⟩ | ⟨st', hr', ha', rfl, rfl, rfl⟩
  · exact ⟨rfl, rfl, by rw [fail_uniq hk hk']⟩
  · rw [fail_not hk hr'] at ha'; cases ha'
  · rw [fail_not hk' hr] at ha; cases ha
  · rw [hr] at hr'
    cases hr'
    exact ⟨rfl, rfl, rfl⟩
/-- how the document reads a text that is right -/
def undash (h : List UInt8) : List UInt8 := if h = [45] then [] else h
def posRef (parts : List (List UInt8)) : Pos :=
  let rows := splitL 47 (parts.getD 0 [])
  let hands := splitL 47 (parts.getD 2 [])
  ⟨((rows.getD 0 []).length : Int), (rows.length : Int), bytes rows.reverse.flatten, if parts.getD 1 [] = [98] then 1 else 0, bytes (undash (hands.getD 0 [])), bytes (undash (hands.getD 1 []))⟩
theorem undash_dash {h : List UInt8} (hh : HandOk h) : undash (dashL h) = h := by
  unfold undash dashL
  by_cases e : h = []
  · simp [e]
  · rw [if_neg e, if_neg]
    rintro rfl
    have h0 := hh.2.1 0 (by simp)
    have h1 : upB (45 : UInt8).toNat = true := by simpa using h0
    exact absurd h1 (by decide)
theorem undash_hand {h : List UInt8} (hh : HandOk h) : undash h = h := by
  unfold undash
  rw [if_neg]
  rintro rfl
  have h0 := hh.2.1 0 (by simp)
  have h1 : upB (45 : UInt8).toNat = true := by simpa using h0
  exact absurd h1 (by decide)
theorem posRef_fin {l : List UInt8} {st : BSt} (h : runB l = some st) (ha : accB st = true) : posRef (splitL 32 l) = finB st := by
  obtain ⟨hw, hp⟩ := run_wf l st h
  rw [hp]
  cases st with
  | rows rs cur => simp [accB] at ha
  | turn rs => simp [accB] at ha
  | turned rs t => simp [accB] at ha
  | hand0 rs t hh => simp [accB] at ha
  | dash0 rs t => simp [accB] at ha
  | hand1 rs t h0 hh =>
    obtain ⟨⟨h1, h2⟩, h3, h4⟩ := hw
    unfold posRef
    simp only [partsB, List.getD_cons_zero, List.getD_cons_succ]
    rw [rows_split h2 h1.cells, split_two h3 (hand_no h4 (by decide))]
    simp only [List.getD_cons_zero, List.getD_cons_succ, undash_dash h3, undash_hand h4, finB, posL]
    congr 1
    · simp [wid, List.getD_eq_getElem?_getD, List.head?_eq_getElem?]
    · cases t <;> simp [colL]
  | dash1 rs t h0 =>
    obtain ⟨⟨h1, h2⟩, h3⟩ := hw
    unfold posRef
    simp only [partsB, List.getD_cons_zero, List.getD_cons_succ]
    rw [rows_split h2 h1.cells, split_two h3 (by decide)]
    simp only [List.getD_cons_zero, List.getD_cons_succ, undash_dash h3, finB, posL]
    congr 1
    · simp [wid, List.getD_eq_getElem?_getD, List.head?_eq_getElem?]
    · cases t <;> simp [colL]
end Go.Proofs.YtcdfeaodfmfdnaaGreatDoor
