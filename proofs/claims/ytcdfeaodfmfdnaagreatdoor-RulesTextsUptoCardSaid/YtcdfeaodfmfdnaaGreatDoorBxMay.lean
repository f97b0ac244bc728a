/- What the document asks of a beginning of a position's text: just that the reader goes on. -/
import Derived.Test.YtcdfeaodfmfdnaaGreatDoorBxPlain
namespace Go.Proofs.YtcdfeaodfmfdnaaGreatDoor

structure RowFine (rows : List (List UInt8)) (full : Bool) (a : List UInt8) : Prop where
  l8 : a.length ≤ 8
  lw : a.length ≤ wid rows
  full : full = true → a.length = wid rows ∧ a.length ≠ 0
  cells : CellsL a
def HandFine (hands : List (List UInt8)) (i : Nat) (h : List UInt8) : Prop := (h = [45] ∨ HandOk h) ∧ (h = [] → ¬ i + 1 < hands.length)
def RowsP (parts rows : List (List UInt8)) : Prop := rows.length ≤ 8 ∧ parts.length ≤ 3 ∧ ∀ i (h : i < rows.length), RowFine rows (decide (1 < parts.length) || decide (i + 1 < rows.length)) rows[i]
def TurnP (parts : List (List UInt8)) : Prop := parts.getD 1 [] = [119] ∨ parts.getD 1 [] = [98] ∨ (parts.getD 1 [] = [] ∧ parts.length ≤ 2)
def HandsP (hands : List (List UInt8)) : Prop := hands.length ≤ 2 ∧ ∀ i (h : i < hands.length), HandFine hands i hands[i]
/-- may something right begin so? -/
def MayP (parts : List (List UInt8)) : Prop :=
  RowsP parts (splitL 47 (parts.headD [])) ∧ (2 ≤ parts.length → TurnP parts ∧ (3 ≤ parts.length → HandsP (splitL 47 (parts.getD 2 []))))
/-- is it right as it stands? -/
def WholeP (parts : List (List UInt8)) : Prop := parts.length = 3 ∧ (splitL 47 (parts.getD 2 [])).length = 2 ∧ (splitL 47 (parts.getD 2 [])).getD 1 [] ≠ []
theorem splitL_snoc {c x : UInt8} {l : List UInt8} {i : List (List UInt8)} {a : List UInt8} (h : splitL c l = i ++ [a]) : splitL c (l ++ [x]) = if x = c then i ++ [a, []] else i ++ [a ++ [x]] := by
  split
  · rename_i e; subst e
    rw [splitL_snoc_hit, h]; simp
  · rename_i e
    obtain ⟨i', a', e1, e2⟩ := splitL_snoc_miss e l
    rw [h] at e1
    obtain ⟨e3, e4⟩ := List.append_inj' e1 rfl
    simp only [List.cons.injEq, and_true] at e4
    rw [e2, ← e3, ← e4]
theorem cell_no {x : UInt8} {l : List UInt8} (h : CellsL l) (hx : cellB x.toNat = false) : x ∉ l := fun hm => by
  have := h x hm
  rw [hx] at this
  cases this
theorem rows_split {rs : List (List UInt8)} (h : rs ≠ []) (hc : ∀ a ∈ rs, CellsL a) : splitL 47 (joinL 47 rs) = rs := split_join h (fun a ha => cell_no (hc a ha) (by decide))
theorem rows_no32 : ∀ {rs : List (List UInt8)}, (∀ a ∈ rs, CellsL a) → (32 : UInt8) ∉ joinL 47 rs
  | [], _ => by simp [joinL]
  | [a], h => cell_no (h a List.mem_cons_self) (by decide)
  | a :: b :: l, h => by
    rw [joinL_cons (by simp)]
    intro hm
    rcases List.mem_append.1 hm with hm | hm
    · exact cell_no (h a List.mem_cons_self) (by decide) hm
    · rcases List.mem_cons.1 hm with e | hm
      · cases e
      · exact rows_no32 (fun x hx => h x (List.mem_cons_of_mem _ hx)) hm
theorem forall_snoc {α : Type} {l : List α} {a : α} {P : Nat → α → Prop} : (∀ i (h : i < (l ++ [a]).length), P i (l ++ [a])[i]) ↔ (∀ i (h : i < l.length), P i l[i]) ∧ P l.length a := by
  constructor
  · intro h
    refine ⟨fun i hi => ?_, ?_⟩
    · have := h i (by simp; omega)
      rwa [List.getElem_append_left hi] at this
    · have := h l.length (by simp)
      rw [List.getElem_append_right (Nat.le_refl _)] at this
      simpa using this
  · rintro ⟨h1, h2⟩ i hi
    by_cases e : i < l.length
    · rw [List.getElem_append_left e]; exact h1 i e
    · have : i = l.length := by simp at hi; omega
      subst this
      rw [List.getElem_append_right (Nat.le_refl _)]
      simpa using h2
theorem fine_rows {rs rows : List (List UInt8)} (h : RowsOkL rs) (hne : rs ≠ []) (hw : wid rows = wid rs) (f : Bool) {i : Nat} (hi : i < rs.length) : RowFine rows f rs[i] := by
  have hm := List.getElem_mem hi
  have := h.wd _ hm
  have h1 := h.w1 hne
  exact ⟨by rw [this]; exact h.w8, by rw [this, hw]; exact Nat.le_refl _, fun _ => ⟨by rw [this, hw], by omega⟩, h.cells _ hm⟩
theorem rowsP_full {rs parts : List (List UInt8)} (h : RowsOkL rs) (hne : rs ≠ []) (hp : parts.length ≤ 3) : RowsP parts rs := ⟨h.len, hp, fun _ hi => fine_rows h hne rfl _ hi⟩
theorem wid_cons {rs : List (List UInt8)} {cur : List UInt8} (l : List (List UInt8)) : wid (rs ++ cur :: l) = if rs = [] then cur.length else wid rs := by
  cases rs <;> simp [wid]
/-- the rows so far and one that is not whole -/
theorem rowsP_go {rs parts : List (List UInt8)} {cur : List UInt8} (h : RowsOkL rs) (hl : rs.length < 8) (hp : parts.length = 1) : RowsP parts (rs ++ [cur]) ↔ (cur.length ≤ 8 ∧ (rs = [] ∨ cur.length ≤ wid rs) ∧ CellsL cur) := by
  unfold RowsP
  rw [forall_snoc (P := fun i a => RowFine (rs ++ [cur]) (decide (1 < parts.length) || decide (i + 1 < (rs ++ [cur]).length)) a)]
  have hf : ¬ 1 < parts.length := by omega
  constructor
  · rintro ⟨_, _, _, h4⟩
    refine ⟨h4.l8, ?_, h4.cells⟩
    have := h4.lw
    rw [wid_cons] at this
    split at this
    · exact .inl (by assumption)
    · exact .inr this
  · rintro ⟨h1, h2, h3⟩
    refine ⟨by simp; omega, by omega, fun i hi => ?_, ⟨h1, ?_, fun e => ?_, h3⟩⟩
    · have hne : rs ≠ [] := fun e => by rw [e] at hi; simp at hi
      exact fine_rows h hne (by rw [wid_cons, if_neg hne]) _ hi
    · rw [wid_cons]
      split
      · exact Nat.le_refl _
      · exact h2.resolve_left (by assumption)
    · simp [hf] at e
theorem rowEnd_iff {rs : List (List UInt8)} {cur : List UInt8} : rowEnd rs cur = true ↔ cur ≠ [] ∧ (rs = [] ∨ cur.length = wid rs) := by
  unfold rowEnd; simp
theorem rowsP_end {rs parts : List (List UInt8)} {cur : List UInt8} (h : RowsOkL rs) (hl : rs.length < 8) (hc : CellsL cur) (h8 : cur.length ≤ 8) (hp : parts.length = 2) : RowsP parts (rs ++ [cur]) ↔ rowEnd rs cur = true := by
  constructor
  · rintro ⟨_, _, h3⟩
    have h4 := (forall_snoc (P := fun i a => RowFine (rs ++ [cur]) (decide (1 < parts.length) || decide (i + 1 < (rs ++ [cur]).length)) a)).1 h3 |>.2
    obtain ⟨e1, e2⟩ := h4.full (by simp; omega)
    rw [rowEnd_iff]
    refine ⟨fun e => e2 (by rw [e]; rfl), ?_⟩
    rw [wid_cons] at e1
    split at e1
    · exact .inl (by assumption)
    · exact .inr e1
  · intro he
    exact rowsP_full (h.snoc hl hc h8 he) (by simp) (by omega)
theorem rowsP_next {rs parts : List (List UInt8)} {cur : List UInt8} (h : RowsOkL rs) (hl : rs.length < 8) (hc : CellsL cur) (h8 : cur.length ≤ 8) (hp : parts.length = 1) : RowsP parts (rs ++ [cur, []]) ↔ rowEnd rs cur = true ∧ rs.length + 1 < 8 := by
  constructor
  · rintro ⟨h1, _, h3⟩
    have h4 := h3 rs.length (by simp)
    rw [List.getElem_append_right (Nat.le_refl _)] at h4
    simp only [Nat.sub_self, List.getElem_cons_zero] at h4
    obtain ⟨e1, e2⟩ := h4.full (by simp)
    refine ⟨rowEnd_iff.2 ⟨fun e => e2 (by rw [e]; rfl), ?_⟩, by simp at h1; omega⟩
    rw [wid_cons] at e1
    split at e1
    · exact .inl (by assumption)
    · exact .inr e1
  · rintro ⟨he, h7⟩
    have hr := h.snoc hl hc h8 he
    have e : rs ++ [cur, []] = (rs ++ [cur]) ++ [[]] := by simp
    rw [e, rowsP_go hr (by simp; omega) hp]
    exact ⟨by simp, .inr (by simp), fun x hx => by simp at hx⟩
theorem col_no {t : Bool} {x : UInt8} (h1 : x ≠ 98) (h2 : x ≠ 119) : x ∉ colL t := by
  cases t <;> simp [colL, h1, h2]
theorem hand_no {h : List UInt8} {x : UInt8} (hh : HandOk h) (hx : upB x.toNat = false) : x ∉ h := fun hm => by
  obtain ⟨k, hk, e⟩ := List.getElem_of_mem hm
  have := hh.2.1 k hk
  rw [e, hx] at this
  cases this
theorem dash_no {h : List UInt8} {x : UInt8} (hh : HandOk h) (hx : upB x.toNat = false) (h45 : x ≠ 45) : x ∉ dashL h := by
  unfold dashL
  split
  · simpa using h45
  · exact hand_no hh hx
theorem dash_ne {h : List UInt8} : dashL h ≠ [] := by unfold dashL; split <;> simp_all
theorem dash_fine {h : List UInt8} (hh : HandOk h) : dashL h = [45] ∨ HandOk (dashL h) := by
  unfold dashL
  split
  · exact .inl rfl
  · exact .inr hh
theorem two_hands {h0 h : List UInt8} : joinL 47 [dashL h0, h] = dashL h0 ++ 47 :: h := rfl
theorem split_two {h0 h : List UInt8} (hh : HandOk h0) (h47 : (47 : UInt8) ∉ h) : splitL 47 (joinL 47 [dashL h0, h]) = [dashL h0, h] := by
  rw [two_hands, splitL_app (dash_no hh (by decide) (by decide)), splitL_none h47]
theorem parts_no32 {st : BSt} (h : WfB st) : ∀ a ∈ partsB st, (32 : UInt8) ∉ a := by
  intro a ha
  cases st with
  | rows rs cur =>
    obtain ⟨h1, h2, h3, _⟩ := h
    simp only [partsB, List.mem_singleton] at ha
    rw [ha]
    exact rows_no32 (fun x hx => by
      rcases List.mem_append.1 hx with hx | hx
      · exact h1.cells x hx
      · rw [List.mem_singleton.1 hx]; exact h3)
  | turn rs =>
    simp only [partsB, List.mem_cons, List.not_mem_nil, or_false] at ha
    rcases ha with rfl | rfl
    · exact rows_no32 h.1.cells
    · simp
  | turned rs t =>
    simp only [partsB, List.mem_cons, List.not_mem_nil, or_false] at ha
    rcases ha with rfl | rfl
    · exact rows_no32 h.1.cells
    · exact col_no (by decide) (by decide)
  | hand0 rs t hh =>
    simp only [partsB, List.mem_cons, List.not_mem_nil, or_false] at ha
    rcases ha with rfl | rfl | rfl
    · exact rows_no32 h.1.1.cells
    · exact col_no (by decide) (by decide)
    · exact hand_no h.2 (by decide)
  | dash0 rs t =>
    simp only [partsB, List.mem_cons, List.not_mem_nil, or_false] at ha
    rcases ha with rfl | rfl | rfl
    · exact rows_no32 h.1.cells
    · exact col_no (by decide) (by decide)
    · decide
  | hand1 rs t h0 hh =>
    simp only [partsB, List.mem_cons, List.not_mem_nil, or_false] at ha
    rcases ha with rfl | rfl | rfl
    · exact rows_no32 h.1.1.cells
    · exact col_no (by decide) (by decide)
    · rw [two_hands]
      intro hm
      rcases List.mem_append.1 hm with hm | hm
      · exact dash_no h.2.1 (by decide) (by decide) hm
      · rcases List.mem_cons.1 hm with e | hm
        · cases e
        · exact hand_no h.2.2 (by decide) hm
  | dash1 rs t h0 =>
    simp only [partsB, List.mem_cons, List.not_mem_nil, or_false] at ha
    rcases ha with rfl | rfl | rfl
    · exact rows_no32 h.1.1.cells
    · exact col_no (by decide) (by decide)
    · rw [two_hands]
      intro hm
      rcases List.mem_append.1 hm with hm | hm
      · exact dash_no h.2 (by decide) (by decide) hm
      · revert hm; decide
/-- the parts behind a byte more -/
def partsGo (st : BSt) (c : UInt8) : List (List UInt8) := if c = 32 then partsB st ++ [[]] else (partsB st).dropLast ++ [(partsB st).getLastD [] ++ [c]]
theorem parts_snoc {st : BSt} {l : List UInt8} {c : UInt8} (h : splitL 32 l = partsB st) : splitL 32 (l ++ [c]) = partsGo st c := by
  have hne : partsB st ≠ [] := by cases st <;> simp [partsB]
  have e : partsB st = (partsB st).dropLast ++ [(partsB st).getLastD []] := by
    rw [List.getLastD_eq_getLast?, List.getLast?_eq_some_getLast hne]
    exact (List.dropLast_concat_getLast hne).symm
  rw [splitL_snoc (h.trans e)]
  unfold partsGo
  split
  · rw [e]; simp
  · rfl
theorem handsP_one {h : List UInt8} : HandsP [h] ↔ (h = [45] ∨ HandOk h) := by
  unfold HandsP HandFine
  constructor
  · rintro ⟨_, h2⟩
    exact (h2 0 (by simp)).1
  · intro h1
    refine ⟨by simp, fun i hi => ?_⟩
    have : i = 0 := by simp at hi; omega
    subst this
    exact ⟨h1, fun _ => by simp⟩
theorem handsP_two {a h : List UInt8} : HandsP [a, h] ↔ (a = [45] ∨ HandOk a) ∧ a ≠ [] ∧ (h = [45] ∨ HandOk h) := by
  unfold HandsP HandFine
  constructor
  · rintro ⟨_, h2⟩
    exact ⟨(h2 0 (by simp)).1, fun e => (h2 0 (by simp)).2 e (by simp), (h2 1 (by simp)).1⟩
  · rintro ⟨h1, h2, h3⟩
    refine ⟨by simp, fun i hi => ?_⟩
    match i, hi with
    | 0, _ => exact ⟨h1, fun e => absurd e h2⟩
    | 1, _ => exact ⟨h3, fun _ => by simp⟩
theorem handsP_three {l : List (List UInt8)} (h : 2 < l.length) : ¬ HandsP l := fun h2 => by have := h2.1; omega
end Go.Proofs.YtcdfeaodfmfdnaaGreatDoor
