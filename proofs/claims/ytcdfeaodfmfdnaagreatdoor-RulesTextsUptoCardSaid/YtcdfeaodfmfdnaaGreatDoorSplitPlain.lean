/- Cutting a text at each instance of one byte, plainly. Nothing of the program. -/
import Derived.Lib.SplitLaws
import Derived.Lib.IndexBytes
namespace Go.Proofs.YtcdfeaodfmfdnaaGreatDoor

/-- the pieces of a list between the instances of c -/
def splitL (c : UInt8) : List UInt8 → List (List UInt8)
  | [] => [[]]
  | x :: l => if x = c then [] :: splitL c l else match splitL c l with
    | [] => [[x]]
    | y :: ys => (x :: y) :: ys
theorem splitL_ne (c : UInt8) : ∀ l, splitL c l ≠ []
  | [] => by simp [splitL]
  | x :: l => by
    unfold splitL
    split
    · simp
    · split <;> simp
theorem splitL_hit (c : UInt8) (l : List UInt8) : splitL c (c :: l) = [] :: splitL c l := by
  rw [splitL, if_pos rfl]
theorem splitL_miss {c x : UInt8} (h : x ≠ c) (l : List UInt8) : ∃ y ys, splitL c l = y :: ys ∧ splitL c (x :: l) = (x :: y) :: ys := by
  rw [splitL, if_neg h]
  cases e : splitL c l with
  | nil => exact absurd e (splitL_ne c l)
  | cons y ys => exact ⟨y, ys, rfl, rfl⟩
/-- a piece without c ahead of c -/
theorem splitL_app {c : UInt8} {a : List UInt8} (h : c ∉ a) (l : List UInt8) : splitL c (a ++ c :: l) = a :: splitL c l := by
  induction a with
  | nil => exact splitL_hit c l
  | cons x a ih =>
    have hx : x ≠ c := fun e => h (by rw [e]; exact List.mem_cons_self)
    have ha : c ∉ a := fun e => h (List.mem_cons_of_mem _ e)
    obtain ⟨y, ys, e1, e2⟩ := splitL_miss hx (a ++ c :: l)
    rw [ih ha] at e1
    injection e1 with e1 e3
    rw [List.cons_append, e2, ← e1, ← e3]
theorem splitL_none {c : UInt8} {a : List UInt8} (h : c ∉ a) : splitL c a = [a] := by
  induction a with
  | nil => rfl
  | cons x a ih =>
    have hx : x ≠ c := fun e => h (by rw [e]; exact List.mem_cons_self)
    have ha : c ∉ a := fun e => h (List.mem_cons_of_mem _ e)
    obtain ⟨y, ys, e1, e2⟩ := splitL_miss hx a
    rw [ih ha] at e1
    injection e1 with e1 e3
    rw [e2, ← e1, ← e3]
/-- pieces with c between them -/
def joinL (c : UInt8) : List (List UInt8) → List UInt8
  | [] => []
  | [a] => a
  | a :: b :: l => a ++ c :: joinL c (b :: l)
theorem joinL_cons {c : UInt8} {a : List UInt8} {l : List (List UInt8)} (h : l ≠ []) : joinL c (a :: l) = a ++ c :: joinL c l := by
  cases l with
  | nil => exact absurd rfl h
  | cons b l => rfl
theorem split_join {c : UInt8} : ∀ {l : List (List UInt8)}, l ≠ [] → (∀ a ∈ l, c ∉ a) → splitL c (joinL c l) = l
  | [], h, _ => absurd rfl h
  | [a], _, h => splitL_none (h a List.mem_cons_self)
  | a :: b :: l, _, h => by
    rw [joinL_cons (by simp), splitL_app (h a List.mem_cons_self), split_join (by simp) (fun x hx => h x (List.mem_cons_of_mem _ hx))]
theorem join_split (c : UInt8) : ∀ l, joinL c (splitL c l) = l
  | [] => rfl
  | x :: l => by
    by_cases h : x = c
    · subst h
      rw [splitL_hit, joinL_cons (splitL_ne _ _), join_split x l]; rfl
    · obtain ⟨y, ys, e1, e2⟩ := splitL_miss h l
      have ih := join_split c l
      rw [e1] at ih
      rw [e2]
      cases ys with
      | nil => simp only [joinL] at ih ⊢; rw [ih]
      | cons z zs => rw [joinL_cons (by simp)] at ih ⊢; rw [← ih]; rfl
theorem split_nosep (c : UInt8) : ∀ l, ∀ a ∈ splitL c l, c ∉ a
  | [], a, ha => by simp [splitL] at ha; rw [ha]; simp
  | x :: l, a, ha => by
    by_cases h : x = c
    · subst h
      rw [splitL_hit] at ha
      rcases List.mem_cons.1 ha with rfl | ha
      · simp
      · exact split_nosep x l a ha
    · obtain ⟨y, ys, e1, e2⟩ := splitL_miss h l
      have ih := split_nosep c l
      rw [e1] at ih
      rw [e2] at ha
      rcases List.mem_cons.1 ha with rfl | ha
      · intro hc
        rcases List.mem_cons.1 hc with e | e
        · exact h e.symm
        · exact ih y List.mem_cons_self e
      · exact ih a (List.mem_cons_of_mem _ ha)
/-- a byte more at the end -/
theorem splitL_snoc_hit (c : UInt8) : ∀ l, splitL c (l ++ [c]) = splitL c l ++ [[]]
  | [] => by simp [splitL]
  | x :: l => by
    have ih := splitL_snoc_hit c l
    by_cases h : x = c
    · subst h
      rw [List.cons_append, splitL_hit, splitL_hit, ih]; rfl
    · obtain ⟨y, ys, e1, e2⟩ := splitL_miss h l
      obtain ⟨y', ys', e3, e4⟩ := splitL_miss h (l ++ [c])
      rw [ih, e1] at e3
      rw [List.cons_append, e4, e2]
      injection e3 with e5 e6
      rw [← e5, ← e6]; rfl
theorem splitL_snoc_miss {c x : UInt8} (h : x ≠ c) : ∀ l, ∃ i a, splitL c l = i ++ [a] ∧ splitL c (l ++ [x]) = i ++ [a ++ [x]]
  | [] => ⟨[], [], rfl, by simp [splitL, h]⟩
  | z :: l => by
    obtain ⟨i, a, e1, e2⟩ := splitL_snoc_miss h l
    by_cases hz : z = c
    · subst hz
      exact ⟨[] :: i, a, by rw [splitL_hit, e1]; rfl, by rw [List.cons_append, splitL_hit, e2]; rfl⟩
    · obtain ⟨y, ys, e3, e4⟩ := splitL_miss hz l
      obtain ⟨y', ys', e5, e6⟩ := splitL_miss hz (l ++ [x])
      rw [e1] at e3
      rw [e2] at e5
      cases i with
      | nil =>
        simp only [List.nil_append, List.cons.injEq] at e3 e5
        refine ⟨[], z :: a, ?_, ?_⟩
        · rw [e4, ← e3.1, ← e3.2]; rfl
        · rw [List.cons_append, e6, ← e5.1, ← e5.2]; rfl
      | cons b i =>
        simp only [List.cons_append, List.cons.injEq] at e3 e5
        refine ⟨(z :: b) :: i, a, ?_, ?_⟩
        · rw [e4, ← e3.1, ← e3.2]; rfl
        · rw [List.cons_append, e6, ← e5.1, ← e5.2]; rfl
/-- what the library's words say of it -/
theorem splitK_one (c : UInt8) : ∀ (l : List UInt8) (k : Nat), l.count c = k → Go.Lib.splitK [c] 0 k l = splitL c l := by
  intro l
  induction h : l.length using Nat.strongRecOn generalizing l with
  | _ n ih =>
    intro k hk
    by_cases hc : c ∈ l
    · obtain ⟨a, b, rfl, ha⟩ := List.eq_append_cons_of_mem hc
      have hi : Go.Lib.index (a ++ c :: b) [c] = (a.length : Int) := by
        rw [Go.Lib.index_one]
        clear ih h hk hc
        induction a with
        | nil => simp [Go.Lib.indexByte]
        | cons x a iha =>
          have hx : x ≠ c := fun e => ha (by rw [e]; exact List.mem_cons_self)
          have h2 := iha (fun e => ha (List.mem_cons_of_mem _ e))
          rw [List.cons_append, Go.Lib.indexByte, if_neg (by simpa using hx), h2]
          rw [if_neg (by simp)]
          simp
      rw [List.count_append, List.count_eq_zero.2 ha, List.count_cons_self] at hk
      subst hk
      rw [show 0 + (List.count c b + 1) = List.count c b + 1 by omega, Go.Lib.splitK, if_neg (by rw [hi]; simp), hi, splitL_app ha]
      simp only [Int.toNat_natCast, Nat.add_zero, List.take_left', List.length_singleton]
      rw [show (a ++ c :: b).drop (a.length + 1) = b by rw [← List.drop_drop]; simp]
      rw [ih b.length (by rw [← h]; simp; omega) b rfl _ rfl]
    · rw [List.count_eq_zero.2 hc] at hk
      subst hk
      rw [splitL_none hc]; rfl
end Go.Proofs.YtcdfeaodfmfdnaaGreatDoor
