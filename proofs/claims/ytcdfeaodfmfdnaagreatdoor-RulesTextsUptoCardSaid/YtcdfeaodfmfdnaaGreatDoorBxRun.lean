/- The document's 'begins' is just what the reader goes on by. -/
import Derived.Test.YtcdfeaodfmfdnaaGreatDoorBxMay
namespace Go.Proofs.YtcdfeaodfmfdnaaGreatDoor

theorem cells_snoc_iff {l : List UInt8} {c : UInt8} : CellsL (l ++ [c]) ↔ CellsL l ∧ cellB c.toNat = true :=
  ⟨fun h => ⟨fun x hx => h x (List.mem_append_left _ hx), h c (List.mem_append_right _ (by simp))⟩, fun h => cells_snoc h.1 h.2⟩
theorem rows_split' {rs : List (List UInt8)} {cur : List UInt8} (h : RowsOkL rs) (hc : CellsL cur) : splitL 47 (joinL 47 (rs ++ [cur])) = rs ++ [cur] := rows_split (by simp) (fun a ha => by
  rcases List.mem_append.1 ha with ha | ha
  · exact h.cells a ha
  · rw [List.mem_singleton.1 ha]; exact hc)
theorem may_three {a b h : List UInt8} {rs : List (List UInt8)} (hr : RowsOkL rs) (hne : rs ≠ []) (ha : a = joinL 47 rs) (hb : b = [119] ∨ b = [98]) : MayP [a, b, h] ↔ HandsP (splitL 47 h) := by
  subst ha
  unfold MayP
  simp only [List.headD_cons, List.length_cons, List.length_nil, List.getD_cons_succ, List.getD_cons_zero]
  rw [rows_split hne hr.cells]
  constructor
  · rintro ⟨_, h2⟩
    exact (h2 (by omega)).2 (by omega)
  · intro h3
    refine ⟨rowsP_full hr hne (by simp), fun _ => ⟨?_, fun _ => h3⟩⟩
    rcases hb with rfl | rfl
    · exact .inl rfl
    · exact .inr (.inl rfl)
theorem may_four {a b c d : List UInt8} {l : List (List UInt8)} : ¬ MayP (a :: b :: c :: d :: l) := fun h => by
  have := h.1.2.1
  simp at this
theorem colB (t : Bool) : colL t = [119] ∨ colL t = [98] := by cases t <;> simp [colL]
theorem handGo_up {h : List UInt8} {c : UInt8} (hg : handGo h c = true) : upB c.toNat = true := by
  unfold handGo at hg
  simp only [Bool.and_eq_true] at hg
  exact hg.1.1
theorem hand_go_iff {h : List UInt8} {c : UInt8} (hh : HandOk h) : (h ++ [c] = [45] ∨ HandOk (h ++ [c])) ↔ ((h.isEmpty && c == 45) = true ∨ handGo h c = true) := by
  rw [handOk_snoc hh]
  have : (h ++ [c] = [45]) ↔ ((h.isEmpty && c == 45) = true) := by
    cases h with
    | nil => simp
    | cons a l => simp
  rw [this]
theorem dash_more {c : UInt8} : ¬ ([45] ++ [c] = [45] ∨ HandOk ([45] ++ [c])) := by
  rintro (h | h)
  · simp at h
  · have h0 := h.2.1 0 (by simp)
    have h1 : upB (45 : UInt8).toNat = true := by simpa using h0
    revert h1; decide
set_option maxHeartbeats 1000000 in
theorem may_step {st : BSt} {c : UInt8} (h : WfB st) : MayP (partsGo st c) ↔ (stepB st c).isSome = true := by
  cases st with
  | rows rs cur =>
    obtain ⟨h1, h2, h3, h4, h5⟩ := h
    unfold partsGo
    by_cases e32 : c = 32
    · subst e32
      simp only [if_true, partsB, List.singleton_append]
      have hg : rowGo rs cur 32 = false := by unfold rowGo; simp; intro h; exact absurd h (by decide)
      simp only [stepB, hg, if_neg (by simp : ¬ (false = true))]
      unfold MayP
      simp only [List.headD_cons, List.length_cons, List.length_nil, List.getD_cons_succ]
      rw [rows_split' h1 h3, rowsP_end h1 h2 h3 h4 (by simp)]
      constructor
      · rintro ⟨e, _⟩
        simp [e]
      · intro hs
        refine ⟨?_, fun _ => ⟨.inr (.inr ⟨rfl, by simp⟩), fun h => absurd h (by omega)⟩⟩
        cases he : rowEnd rs cur with
        | true => rfl
        | false => simp [he] at hs
    · rw [if_neg e32]
      simp only [partsB, List.dropLast_singleton, List.nil_append, List.getLastD_cons, List.getLastD_nil]
      unfold MayP
      simp only [List.headD_cons, List.length_cons, List.length_nil]
      rw [splitL_snoc (rows_split' h1 h3)]
      by_cases e47 : c = 47
      · subst e47
        have hg : rowGo rs cur 47 = false := by unfold rowGo; simp; intro h; exact absurd h (by decide)
        rw [if_pos rfl, rowsP_next h1 h2 h3 h4 (by simp)]
        simp only [stepB, hg, if_neg (by simp : ¬ (false = true))]
        constructor
        · rintro ⟨⟨e, e2⟩, _⟩
          simp [e, e2]
        · intro hs
          refine ⟨?_, fun h => absurd h (by omega)⟩
          cases he : rowEnd rs cur with
          | false => simp [he] at hs
          | true =>
            refine ⟨rfl, ?_⟩
            rcases Nat.lt_or_ge (rs.length + 1) 8 with h | h
            · exact h
            · simp [he, Nat.not_lt.2 h] at hs
      · rw [if_neg e47, rowsP_go h1 h2 (by simp), cells_snoc_iff]
        simp only [stepB]
        constructor
        · rintro ⟨⟨g1, g2, g3, g4⟩, _⟩
          have hg : rowGo rs cur c = true := rowGo_iff.2 ⟨g4, by simp at g1; omega, by
            rcases g2 with g2 | g2
            · exact .inl g2
            · right; simp at g2; omega⟩
          simp [hg]
        · intro hs
          refine ⟨?_, fun h => absurd h (by omega)⟩
          cases hg : rowGo rs cur c with
          | true =>
            obtain ⟨g1, g2, g3⟩ := rowGo_iff.1 hg
            refine ⟨by simp; omega, ?_, h3, g1⟩
            rcases g3 with g3 | g3
            · exact .inl g3
            · right; simp; omega
          | false => simp [hg, e32, e47] at hs
  | turn rs =>
    obtain ⟨h1, h2⟩ := h
    unfold partsGo
    by_cases e32 : c = 32
    · subst e32
      simp only [if_true, partsB, List.cons_append, List.nil_append]
      unfold MayP
      simp only [List.headD_cons, List.length_cons, List.length_nil, List.getD_cons_succ, List.getD_cons_zero]
      constructor
      · rintro ⟨_, h⟩
        obtain ⟨ht, _⟩ := h (by omega)
        unfold TurnP at ht
        simp at ht
      · intro hs
        simp [stepB] at hs
    · rw [if_neg e32]
      simp only [partsB, List.dropLast, List.getLastD_cons, List.getLastD_nil, List.cons_append, List.nil_append]
      unfold MayP
      simp only [List.headD_cons, List.length_cons, List.length_nil, List.getD_cons_succ]
      rw [rows_split h2 h1.cells]
      simp only [stepB]
      constructor
      · rintro ⟨_, h⟩
        obtain ⟨ht, _⟩ := h (by omega)
        unfold TurnP at ht
        simp at ht
        rcases ht with rfl | rfl
        · rfl
        · rfl
      · intro hs
        refine ⟨rowsP_full h1 h2 (by simp), fun _ => ⟨?_, fun h => absurd h (by omega)⟩⟩
        unfold TurnP
        by_cases e1 : c = 119
        · subst e1; exact .inl rfl
        · by_cases e2 : c = 98
          · subst e2; exact .inr (.inl rfl)
          · simp [e1, e2] at hs
  | turned rs t =>
    obtain ⟨h1, h2⟩ := h
    unfold partsGo
    by_cases e32 : c = 32
    · subst e32
      simp only [if_true, partsB, List.cons_append, List.nil_append]
      rw [may_three h1 h2 rfl (colB t)]
      simp only [stepB, if_true, Option.isSome_some, iff_true]
      rw [show splitL 47 [] = [[]] from rfl, handsP_one]
      exact .inr handOk_nil
    · rw [if_neg e32]
      simp only [partsB, List.dropLast, List.getLastD_cons, List.getLastD_nil, List.cons_append, List.nil_append]
      simp only [stepB, if_neg e32, Option.isSome_none, Bool.false_eq_true, iff_false]
      rintro ⟨_, h⟩
      obtain ⟨ht, _⟩ := h (by simp)
      unfold TurnP at ht
      cases t <;> simp [colL] at ht
  | hand0 rs t hh =>
    obtain ⟨⟨h1, h2⟩, h3⟩ := h
    unfold partsGo
    by_cases e32 : c = 32
    · subst e32
      simp only [if_true, partsB, List.cons_append, List.nil_append]
      have hg : handGo hh 32 = false := by
        cases e : handGo hh 32 with
        | false => rfl
        | true => have := handGo_up e; revert this; decide
      simp only [stepB, hg]
      simp
      exact may_four
    · rw [if_neg e32]
      simp only [partsB, List.dropLast, List.getLastD_cons, List.getLastD_nil, List.cons_append, List.nil_append]
      rw [may_three h1 h2 rfl (colB t), splitL_snoc (i := []) (a := hh) (splitL_none (hand_no h3 (by decide)))]
      by_cases e47 : c = 47
      · subst e47
        have hg : handGo hh 47 = false := by
          cases e : handGo hh 47 with
          | false => rfl
          | true => have := handGo_up e; revert this; decide
        simp only [if_true, List.nil_append, handsP_two, stepB, hg]
        constructor
        · rintro ⟨_, g, _⟩
          simp [g]
        · intro hs
          refine ⟨.inr h3, fun e => ?_, .inr handOk_nil⟩
          subst e
          simp at hs
      · rw [if_neg e47, List.nil_append, handsP_one, hand_go_iff h3]
        simp only [stepB]
        cases e1 : (hh.isEmpty && c == 45) with
        | true => simp
        | false =>
          cases e2 : handGo hh c with
          | true => simp
          | false => simp [e47]
  | dash0 rs t =>
    obtain ⟨h1, h2⟩ := h
    unfold partsGo
    by_cases e32 : c = 32
    · subst e32
      simp only [if_true, partsB, List.cons_append, List.nil_append]
      simp [stepB]
      exact may_four
    · rw [if_neg e32]
      simp only [partsB, List.dropLast, List.getLastD_cons, List.getLastD_nil, List.cons_append, List.nil_append]
      have e45 : splitL 47 [45] = [] ++ [[45]] := by decide
      rw [may_three h1 h2 rfl (colB t), show ([45, c] : List UInt8) = [45] ++ [c] from rfl, splitL_snoc e45]
      by_cases e47 : c = 47
      · subst e47
        simp only [if_true, List.nil_append, handsP_two, stepB]
        simp
        exact handOk_nil
      · rw [if_neg e47, List.nil_append, handsP_one]
        simp only [stepB, if_neg e47]
        simp only [Option.isSome_none, Bool.false_eq_true, iff_false]
        exact dash_more
  | hand1 rs t h0 hh =>
    obtain ⟨⟨h1, h2⟩, h3, h4⟩ := h
    have h47 := hand_no h4 (x := 47) (by decide)
    unfold partsGo
    by_cases e32 : c = 32
    · subst e32
      simp only [if_true, partsB, List.cons_append, List.nil_append]
      have hg : handGo hh 32 = false := by
        cases e : handGo hh 32 with
        | false => rfl
        | true => have := handGo_up e; revert this; decide
      simp only [stepB, hg]
      simp
      exact may_four
    · rw [if_neg e32]
      simp only [partsB, List.dropLast, List.getLastD_cons, List.getLastD_nil, List.cons_append, List.nil_append]
      rw [may_three h1 h2 rfl (colB t), splitL_snoc (i := [dashL h0]) (a := hh) (split_two h3 h47)]
      by_cases e47 : c = 47
      · subst e47
        have hg : handGo hh 47 = false := by
          cases e : handGo hh 47 with
          | false => rfl
          | true => have := handGo_up e; revert this; decide
        simp only [if_true, stepB, hg]
        simp
        exact handsP_three (by simp)
      · rw [if_neg e47]
        simp only [List.singleton_append, handsP_two, hand_go_iff h4, stepB]
        cases e1 : (hh.isEmpty && c == 45) with
        | true => simp [dash_fine h3, dash_ne]
        | false =>
          cases e2 : handGo hh c with
          | true => simp [dash_fine h3, dash_ne]
          | false => simp
  | dash1 rs t h0 =>
    obtain ⟨⟨h1, h2⟩, h3⟩ := h
    unfold partsGo
    by_cases e32 : c = 32
    · subst e32
      simp only [if_true, partsB, List.cons_append, List.nil_append]
      simp [stepB]
      exact may_four
    · rw [if_neg e32]
      simp only [partsB, List.dropLast, List.getLastD_cons, List.getLastD_nil, List.cons_append, List.nil_append]
      rw [may_three h1 h2 rfl (colB t), splitL_snoc (i := [dashL h0]) (a := [45]) (split_two h3 (by decide))]
      simp only [stepB, Option.isSome_none, Bool.false_eq_true, iff_false]
      by_cases e47 : c = 47
      · rw [if_pos e47]
        exact handsP_three (by simp)
      · rw [if_neg e47]
        simp only [List.singleton_append, handsP_two]
        rintro ⟨_, _, h⟩
        exact dash_more h
theorem join_snoc : ∀ {rs : List (List UInt8)} {cur : List UInt8} {c : UInt8}, joinL 47 (rs ++ [cur]) ++ [c] = joinL 47 (rs ++ [cur ++ [c]])
  | [], cur, c => rfl
  | a :: rs, cur, c => by
    rw [List.cons_append, List.cons_append, joinL_cons (by simp), joinL_cons (by simp), ← join_snoc]; simp
theorem join_snoc_nil : ∀ {rs : List (List UInt8)} {cur : List UInt8}, joinL 47 (rs ++ [cur]) ++ [47] = joinL 47 (rs ++ [cur] ++ [[]])
  | [], cur => rfl
  | a :: rs, cur => by
    rw [List.cons_append, List.cons_append, joinL_cons (by simp), joinL_cons (by simp), ← join_snoc_nil]; simp
/-- the parts that a step makes -/
theorem parts_step {st st' : BSt} {c : UInt8} (h : WfB st) (hs : stepB st c = some st') : partsGo st c = partsB st' := by
  cases st with
  | rows rs cur =>
    simp only [stepB] at hs
    split at hs
    · rename_i hg
      cases hs
      have hc := (rowGo_iff.1 hg).1
      have e32 : c ≠ 32 := by rintro rfl; revert hc; decide
      unfold partsGo
      rw [if_neg e32]
      simp only [partsB, List.dropLast_singleton, List.nil_append, List.getLastD_cons, List.getLastD_nil]
      rw [join_snoc]
    · split at hs
      · rename_i hg
        simp only [Bool.and_eq_true, beq_iff_eq, decide_eq_true_eq] at hg
        obtain ⟨_, rfl, _⟩ := hg
        cases hs
        unfold partsGo
        simp only [partsB]
        rw [if_neg (by decide)]
        simp only [List.dropLast_singleton, List.nil_append, List.getLastD_cons, List.getLastD_nil]
        rw [join_snoc_nil]
      · split at hs
        · rename_i hg
          simp only [Bool.and_eq_true, beq_iff_eq] at hg
          obtain ⟨_, rfl⟩ := hg
          cases hs
          rfl
        · cases hs
  | turn rs =>
    simp only [stepB] at hs
    split at hs
    · rename_i e; subst e; cases hs; rfl
    · split at hs
      · rename_i e; subst e; cases hs; rfl
      · cases hs
  | turned rs t =>
    simp only [stepB] at hs
    split at hs
    · rename_i e; subst e; cases hs; rfl
    · cases hs
  | hand0 rs t hh =>
    simp only [stepB] at hs
    split at hs
    · rename_i e
      simp at e
      obtain ⟨rfl, rfl⟩ := e
      cases hs; rfl
    · split at hs
      · rename_i hg
        cases hs
        have e32 : c ≠ 32 := by rintro rfl; have := handGo_up hg; revert this; decide
        unfold partsGo
        rw [if_neg e32]; rfl
      · split at hs
        · rename_i e
          simp at e
          obtain ⟨e1, rfl⟩ := e
          cases hs
          unfold partsGo
          rw [if_neg (by decide)]
          simp [partsB, joinL, dashL, e1]
        · cases hs
  | dash0 rs t =>
    simp only [stepB] at hs
    split at hs
    · rename_i e; subst e; cases hs; rfl
    · cases hs
  | hand1 rs t h0 hh =>
    simp only [stepB] at hs
    split at hs
    · rename_i e
      simp at e
      obtain ⟨rfl, rfl⟩ := e
      cases hs
      unfold partsGo
      rw [if_neg (by decide)]
      simp [partsB, joinL]
    · split at hs
      · rename_i hg
        cases hs
        have e32 : c ≠ 32 := by rintro rfl; have := handGo_up hg; revert this; decide
        unfold partsGo
        rw [if_neg e32]
        simp [partsB, joinL]
      · cases hs
  | dash1 rs t h0 => simp [stepB] at hs
theorem snoc_ind {α : Type} {P : List α → Prop} (h0 : P []) (h1 : ∀ l a, P l → P (l ++ [a])) (l : List α) : P l := by
  have : ∀ r : List α, P r.reverse := fun r => by
    induction r with
    | nil => exact h0
    | cons a r ih => rw [List.reverse_cons]; exact h1 _ _ ih
  rw [← List.reverse_reverse l]
  exact this _
theorem run_wf : ∀ (l : List UInt8) (st : BSt), runB l = some st → WfB st ∧ splitL 32 l = partsB st := by
  intro l
  induction l using snoc_ind with
  | h0 =>
    intro st h
    simp [runB] at h
    subst h
    refine ⟨⟨⟨by simp, fun a ha => by simp at ha, fun h => absurd rfl h, by simp [wid], fun a ha => by simp at ha⟩, by simp, fun x hx => by simp at hx, by simp, fun h => absurd rfl h⟩, rfl⟩
  | h1 l c ih =>
    intro st h
    rw [runB_snoc] at h
    obtain ⟨s0, h0, h1⟩ := Option.bind_eq_some_iff.1 h
    obtain ⟨w0, p0⟩ := ih s0 h0
    exact ⟨wf_step w0 h1, by rw [parts_snoc p0, parts_step w0 h1]⟩
/-- a byte more may stand there just where the reader goes on -/
theorem may_run {l : List UInt8} {st : BSt} (h : runB l = some st) (c : UInt8) : MayP (splitL 32 (l ++ [c])) ↔ (stepB st c).isSome = true := by
  obtain ⟨hw, hp⟩ := run_wf l st h
  rw [parts_snoc hp, may_step hw]
theorem whole_run {l : List UInt8} {st : BSt} (h : runB l = some st) : WholeP (splitL 32 l) ↔ accB st = true := by
  obtain ⟨hw, hp⟩ := run_wf l st h
  rw [hp]
  unfold WholeP
  cases st with
  | rows rs cur => simp [partsB, accB]
  | turn rs => simp [partsB, accB]
  | turned rs t => simp [partsB, accB]
  | hand0 rs t hh =>
    simp only [partsB, accB, List.length_cons, List.length_nil, List.getD_cons_succ, List.getD_cons_zero]
    rw [splitL_none (hand_no hw.2 (by decide))]
    simp
  | dash0 rs t =>
    simp only [partsB, accB, List.length_cons, List.length_nil, List.getD_cons_succ, List.getD_cons_zero]
    rw [splitL_none (by decide)]
    simp
  | hand1 rs t h0 hh =>
    simp only [partsB, accB, List.length_cons, List.length_nil, List.getD_cons_succ, List.getD_cons_zero]
    rw [split_two hw.2.1 (hand_no hw.2.2 (by decide))]
    simp
  | dash1 rs t h0 =>
    simp only [partsB, accB, List.length_cons, List.length_nil, List.getD_cons_succ, List.getD_cons_zero]
    rw [split_two hw.2 (by decide)]
    simp
end Go.Proofs.YtcdfeaodfmfdnaaGreatDoor
