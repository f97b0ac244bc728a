/- Texts of positions, plainly: a reader, byte by byte; what the document asks of a beginning. -/
import Derived.Test.YtcdfeaodfmfdnaaGreatDoorSplitPlain
import Derived.Test.YtcdfeaodfmfdnaaGreatDoorBoardPlain
namespace Go.Proofs.YtcdfeaodfmfdnaaGreatDoor

/-- where a reader of a position's text is -/
inductive BSt where
  | rows (rs : List (List UInt8)) (cur : List UInt8)
  | turn (rs : List (List UInt8))
  | turned (rs : List (List UInt8)) (t : Bool)
  | hand0 (rs : List (List UInt8)) (t : Bool) (h : List UInt8)
  | dash0 (rs : List (List UInt8)) (t : Bool)
  | hand1 (rs : List (List UInt8)) (t : Bool) (h0 h : List UInt8)
  | dash1 (rs : List (List UInt8)) (t : Bool) (h0 : List UInt8)
def wid (rs : List (List UInt8)) : Nat := (rs.headD []).length
/-- may a hand go on by a letter? -/
def handGo (h : List UInt8) (c : UInt8) : Bool := upB c.toNat && decide (h.length < 8) && (match h.getLast? with | none => true | some x => decide (x.toNat ≤ c.toNat))
def rowGo (rs : List (List UInt8)) (cur : List UInt8) (c : UInt8) : Bool := cellB c.toNat && decide (cur.length < 8) && (rs.isEmpty || decide (cur.length < wid rs))
def rowEnd (rs : List (List UInt8)) (cur : List UInt8) : Bool := !cur.isEmpty && (rs.isEmpty || decide (cur.length = wid rs))
def stepB : BSt → UInt8 → Option BSt
  | .rows rs cur, c => if rowGo rs cur c then some (.rows rs (cur ++ [c])) else if rowEnd rs cur && (c == 47 && decide (rs.length + 1 < 8)) then some (.rows (rs ++ [cur]) []) else if rowEnd rs cur && c == 32 then some (.turn (rs ++ [cur])) else none
  | .turn rs, c => if c = 119 then some (.turned rs false) else if c = 98 then some (.turned rs true) else none
  | .turned rs t, c => if c = 32 then some (.hand0 rs t []) else none
  | .hand0 rs t h, c => if h.isEmpty && c == 45 then some (.dash0 rs t) else if handGo h c then some (.hand0 rs t (h ++ [c])) else if !h.isEmpty && c == 47 then some (.hand1 rs t h []) else none
  | .dash0 rs t, c => if c = 47 then some (.hand1 rs t [] []) else none
  | .hand1 rs t h0 h, c => if h.isEmpty && c == 45 then some (.dash1 rs t h0) else if handGo h c then some (.hand1 rs t h0 (h ++ [c])) else none
  | .dash1 _ _ _, _ => none
def accB : BSt → Bool
  | .hand1 _ _ _ h => !h.isEmpty
  | .dash1 _ _ _ => true
  | _ => false
/-- the reader behind a list of bytes -/
def runB (l : List UInt8) : Option BSt := l.foldl (fun s c => s.bind (stepB · c)) (some (.rows [] []))
theorem runB_snoc (l : List UInt8) (c : UInt8) : runB (l ++ [c]) = (runB l).bind (stepB · c) := by simp [runB]
def dashL (h : List UInt8) : List UInt8 := if h = [] then [45] else h
def colL (t : Bool) : List UInt8 := [if t then 98 else 119]
/-- the parts of the text between blanks -/
def partsB : BSt → List (List UInt8)
  | .rows rs cur => [joinL 47 (rs ++ [cur])]
  | .turn rs => [joinL 47 rs, []]
  | .turned rs t => [joinL 47 rs, colL t]
  | .hand0 rs t h => [joinL 47 rs, colL t, h]
  | .dash0 rs t => [joinL 47 rs, colL t, [45]]
  | .hand1 rs t h0 h => [joinL 47 rs, colL t, joinL 47 [dashL h0, h]]
  | .dash1 rs t h0 => [joinL 47 rs, colL t, joinL 47 [dashL h0, [45]]]
def CellsL (l : List UInt8) : Prop := ∀ c ∈ l, cellB c.toNat = true
structure RowsOkL (rs : List (List UInt8)) : Prop where
  len : rs.length ≤ 8
  wd : ∀ a ∈ rs, a.length = wid rs
  w1 : rs ≠ [] → 1 ≤ wid rs
  w8 : wid rs ≤ 8
  cells : ∀ a ∈ rs, CellsL a
def WfB : BSt → Prop
  | .rows rs cur => RowsOkL rs ∧ rs.length < 8 ∧ CellsL cur ∧ cur.length ≤ 8 ∧ (rs ≠ [] → cur.length ≤ wid rs)
  | .turn rs => RowsOkL rs ∧ rs ≠ []
  | .turned rs _ => RowsOkL rs ∧ rs ≠ []
  | .hand0 rs _ h => (RowsOkL rs ∧ rs ≠ []) ∧ HandOk h
  | .dash0 rs _ => RowsOkL rs ∧ rs ≠ []
  | .hand1 rs _ h0 h => (RowsOkL rs ∧ rs ≠ []) ∧ HandOk h0 ∧ HandOk h
  | .dash1 rs _ h0 => (RowsOkL rs ∧ rs ≠ []) ∧ HandOk h0
theorem wid_snoc {rs : List (List UInt8)} (cur : List UInt8) (h : rs ≠ []) : wid (rs ++ [cur]) = wid rs := by
  cases rs with
  | nil => exact absurd rfl h
  | cons a l => rfl
theorem RowsOkL.snoc {rs : List (List UInt8)} {cur : List UInt8} (h : RowsOkL rs) (hl : rs.length < 8) (hc : CellsL cur) (h8 : cur.length ≤ 8) (he : rowEnd rs cur = true) : RowsOkL (rs ++ [cur]) := by
  unfold rowEnd at he
  rw [Bool.and_eq_true, Bool.or_eq_true, decide_eq_true_eq] at he
  obtain ⟨h1, h2⟩ := he
  have hne : 1 ≤ cur.length := by
    cases cur with
    | nil => simp at h1
    | cons a l => simp
  by_cases hr : rs = []
  · subst hr
    refine ⟨by simp, fun a ha => ?_, fun _ => hne, h8, fun a ha => ?_⟩
    · simp at ha; subst ha; rfl
    · simp at ha; subst ha; exact hc
  · have hw : cur.length = wid rs := by
      rcases h2 with h2 | h2
      · simp at h2; exact absurd h2 hr
      · exact h2
    refine ⟨by simp; omega, fun a ha => ?_, fun _ => by rw [wid_snoc cur hr]; exact h.w1 hr, by rw [wid_snoc cur hr]; exact h.w8, fun a ha => ?_⟩
    · rw [wid_snoc cur hr]
      rcases List.mem_append.1 ha with ha | ha
      · exact h.wd a ha
      · rw [List.mem_singleton.1 ha]; exact hw
    · rcases List.mem_append.1 ha with ha | ha
      · exact h.cells a ha
      · rw [List.mem_singleton.1 ha]; exact hc
theorem handOk_nil : HandOk [] := ⟨by simp, fun k h => absurd h (by simp), fun k h => absurd h (by simp)⟩
theorem handOk_snoc {h : List UInt8} {c : UInt8} (hh : HandOk h) : handGo h c = true ↔ HandOk (h ++ [c]) := by
  unfold handGo
  rw [Bool.and_eq_true, Bool.and_eq_true, decide_eq_true_eq]
  constructor
  · rintro ⟨⟨h1, h2⟩, h3⟩
    refine ⟨by simp; omega, fun k hk => ?_, fun k hk => ?_⟩
    · by_cases e : k < h.length
      · rw [List.getElem_append_left e]; exact hh.2.1 k e
      · have : k = h.length := by simp at hk; omega
        subst this
        simpa using h1
    · by_cases e : k + 1 < h.length
      · rw [List.getElem_append_left (by omega), List.getElem_append_left e]; exact hh.2.2 k e
      · have e2 : k + 1 = h.length := by simp at hk; omega
        rw [List.getElem_append_left (by omega), List.getElem_append_right (by omega)]
        have hl : h.getLast? = some (h[k]'(by omega)) := by
          rw [List.getLast?_eq_getElem?, List.getElem?_eq_getElem (by omega)]
          congr 2; omega
        rw [hl] at h3
        simpa using h3
  · rintro ⟨h1, h2, h3⟩
    refine ⟨⟨?_, by simp at h1; omega⟩, ?_⟩
    · have := h2 h.length (by simp)
      simpa using this
    · cases hl : h.getLast? with
      | none => rfl
      | some x =>
        have hne : 0 < h.length := by
          cases h with
          | nil => simp at hl
          | cons a l => simp
        have := h3 (h.length - 1) (by simp; omega)
        rw [List.getElem_append_left (by omega), List.getElem_append_right (by omega)] at this
        rw [List.getLast?_eq_getElem?, List.getElem?_eq_getElem (by omega)] at hl
        injection hl with hl
        simp only [decide_eq_true_eq]
        rw [← hl]
        simpa using this
theorem rowGo_iff {rs : List (List UInt8)} {cur : List UInt8} {c : UInt8} : rowGo rs cur c = true ↔ cellB c.toNat = true ∧ cur.length < 8 ∧ (rs = [] ∨ cur.length < wid rs) := by
  unfold rowGo; simp [and_assoc]
theorem cells_snoc {l : List UInt8} {c : UInt8} (h : CellsL l) (hc : cellB c.toNat = true) : CellsL (l ++ [c]) := fun x hx => by
  rcases List.mem_append.1 hx with hx | hx
  · exact h x hx
  · rw [List.mem_singleton.1 hx]; exact hc
theorem wf_step {st st' : BSt} {c : UInt8} (h : WfB st) (hs : stepB st c = some st') : WfB st' := by
  cases st with
  | rows rs cur =>
    obtain ⟨h1, h2, h3, h4, h5⟩ := h
    simp only [stepB] at hs
    split at hs
    · rename_i hg
      obtain ⟨g1, g2, g3⟩ := rowGo_iff.1 hg
      cases hs
      refine ⟨h1, h2, cells_snoc h3 g1, by simp; omega, fun hne => ?_⟩
      have := g3.resolve_left hne
      simp; omega
    · split at hs
      · rename_i hg
        simp only [Bool.and_eq_true, beq_iff_eq, decide_eq_true_eq] at hg
        cases hs
        exact ⟨h1.snoc h2 h3 h4 hg.1, by simp; exact hg.2.2, fun x hx => by simp at hx, by simp, fun _ => by simp⟩
      · split at hs
        · rename_i hg
          simp only [Bool.and_eq_true, beq_iff_eq] at hg
          cases hs
          exact ⟨h1.snoc h2 h3 h4 hg.1, by simp⟩
        · cases hs
  | turn rs =>
    simp only [stepB] at hs
    split at hs
    · cases hs; exact h
    · split at hs
      · cases hs; exact h
      · cases hs
  | turned rs t =>
    simp only [stepB] at hs
    split at hs
    · cases hs; exact ⟨h, handOk_nil⟩
    · cases hs
  | hand0 rs t hh =>
    simp only [stepB] at hs
    split at hs
    · cases hs; exact h.1
    · split at hs
      · rename_i hg
        cases hs; exact ⟨h.1, (handOk_snoc h.2).1 hg⟩
      · split at hs
        · cases hs; exact ⟨h.1, h.2, handOk_nil⟩
        · cases hs
  | dash0 rs t =>
    simp only [stepB] at hs
    split at hs
    · cases hs; exact ⟨h, handOk_nil, handOk_nil⟩
    · cases hs
  | hand1 rs t h0 hh =>
    simp only [stepB] at hs
    split at hs
    · cases hs; exact ⟨h.1, h.2.1⟩
    · split at hs
      · rename_i hg
        cases hs; exact ⟨h.1, h.2.1, (handOk_snoc h.2.2).1 hg⟩
      · cases hs
  | dash1 rs t h0 => simp [stepB] at hs
end Go.Proofs.YtcdfeaodfmfdnaaGreatDoor
