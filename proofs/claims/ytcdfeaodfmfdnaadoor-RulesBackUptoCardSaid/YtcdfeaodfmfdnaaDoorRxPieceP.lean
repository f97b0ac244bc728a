/- A piece as a text, plainly: cuts and splits at two bytes. -/
import Derived.Test.YtcdfeaodfmfdnaaDoorRxWayP
import Derived.Lib.SplitLaws
import Derived.Lib.CutLaws
namespace Go.Proofs.YtcdfeaodfmfdnaaDoor

/-- joined by a separator of several bytes -/
def joinS (sep : List UInt8) : List (List UInt8) → List UInt8
  | [] => []
  | [a] => a
  | a :: b :: l => a ++ sep ++ joinS sep (b :: l)
theorem joinS_cons {sep a : List UInt8} {l : List (List UInt8)} (h : l ≠ []) : joinS sep (a :: l) = a ++ sep ++ joinS sep l := by
  cases l with
  | nil => exact absurd rfl h
  | cons b l => rfl
theorem splitK_ne (sep : List UInt8) (sv k : Nat) (l : List UInt8) : Lib.splitK sep sv k l ≠ [] := by
  cases k with
  | zero => simp [Lib.splitK]
  | succ k => unfold Lib.splitK; split <;> simp
theorem at_index {l sep : List UInt8} {i : Nat} (h : Lib.index l sep = i) : l = l.take i ++ sep ++ l.drop (i + sep.length) := by
  rcases Lib.index_spec l sep with ⟨h1, _⟩ | ⟨j, h1, _, ho, _⟩
  · omega
  · obtain rfl : j = i := by omega
    unfold Lib.occAt at ho
    obtain ⟨t, ht⟩ := List.isPrefixOf_iff_prefix.1 ho
    have h2 : l.drop (j + sep.length) = t := by rw [← List.drop_drop, ← ht]; simp
    rw [h2, List.append_assoc, ht, List.take_append_drop]
theorem join_splitK (sep : List UInt8) : ∀ (k : Nat) (l : List UInt8), joinS sep (Lib.splitK sep 0 k l) = l
  | 0, l => rfl
  | k + 1, l => by
    unfold Lib.splitK
    split
    · rfl
    · rename_i h
      have hge := Lib.index_ge l sep
      have hne : Lib.index l sep ≠ -1 := fun e => h (by rw [e]; rfl)
      obtain ⟨i, hi⟩ : ∃ i : Nat, Lib.index l sep = i := ⟨(Lib.index l sep).toNat, by omega⟩
      rw [joinS_cons (splitK_ne _ _ _ _), join_splitK sep k, hi]
      simp only [Int.toNat_natCast, Nat.add_zero]
      exact (at_index hi).symm
/-- where the first byte of the separator is not in what stands ahead -/
theorem index_app {a r : List UInt8} {c d : UInt8} (h : c ∉ a) : Lib.index (a ++ c :: d :: r) [c, d] = a.length := by
  refine Lib.index_first (by simp) ?_ (fun j hj => ?_)
  · unfold Lib.occAt; simp
  · unfold Lib.occAt
    rw [List.drop_append_of_le_length (by omega), List.drop_eq_getElem_cons hj]
    have : (c == a[j]) = false := beq_eq_false_iff_ne.2 fun e => h (e ▸ List.getElem_mem hj)
    simp only [List.cons_append, List.isPrefixOf, this, Bool.false_and]
theorem index_no {a : List UInt8} {c d : UInt8} (h : c ∉ a) : Lib.index a [c, d] = -1 := by
  refine Lib.index_none (fun j hj => ?_)
  unfold Lib.occAt
  by_cases e : j < a.length
  · rw [List.drop_eq_getElem_cons e]
    have : (c == a[j]) = false := beq_eq_false_iff_ne.2 fun e2 => h (e2 ▸ List.getElem_mem e)
    simp only [List.isPrefixOf, this, Bool.false_and]
  · rw [List.drop_eq_nil_of_le (by omega)]; rfl
theorem splitK_two {c d : UInt8} : ∀ (xs : List (List UInt8)) (k : Nat), xs ≠ [] → (∀ a ∈ xs, c ∉ a) → xs.length ≤ k + 1 → Lib.splitK [c, d] 0 k (joinS [c, d] xs) = xs
  | [], _, h, _, _ => absurd rfl h
  | [a], k, _, h, _ => by
    cases k with
    | zero => rfl
    | succ k =>
      unfold Lib.splitK
      rw [if_pos (by rw [show joinS [c, d] [a] = a from rfl, index_no (h a (by simp))]; rfl)]
      rfl
  | a :: b :: l, k, _, h, hk => by
    cases k with
    | zero => simp at hk
    | succ k =>
      have hj : joinS [c, d] (a :: b :: l) = a ++ c :: d :: joinS [c, d] (b :: l) := by rw [joinS_cons (by simp)]; simp
      have hi := index_app (d := d) (r := joinS [c, d] (b :: l)) (h a List.mem_cons_self)
      unfold Lib.splitK
      rw [hj, hi, if_neg (by simp)]
      have hd : (a ++ c :: d :: joinS [c, d] (b :: l)).drop (a.length + 2) = joinS [c, d] (b :: l) := by
        rw [List.drop_append]
        simp
      simp only [Int.toNat_natCast, Nat.add_zero, List.length_cons, List.length_nil, Nat.zero_add, Nat.reduceAdd, hd]
      rw [splitK_two (b :: l) k (by simp) (fun x hx => h x (List.mem_cons_of_mem _ hx)) (by simpa using hk)]
      simp
theorem count_two {c d : UInt8} : ∀ (xs : List (List UInt8)), (∀ a ∈ xs, c ∉ a) → xs.length ≤ Lib.count (joinS [c, d] xs) [c, d] + 1
  | [], _ => by simp
  | [a], _ => by simp
  | a :: b :: l, h => by
    have ih := count_two (d := d) (b :: l) (fun x hx => h x (List.mem_cons_of_mem _ hx))
    have hj : joinS [c, d] (a :: b :: l) = a ++ c :: d :: joinS [c, d] (b :: l) := by rw [joinS_cons (by simp)]; simp
    have hi := index_app (d := d) (r := joinS [c, d] (b :: l)) (h a List.mem_cons_self)
    have hd : (a ++ c :: d :: joinS [c, d] (b :: l)).drop (a.length + [c, d].length) = joinS [c, d] (b :: l) := by
      rw [List.drop_append]
      simp
    rw [hj, Lib.count_hit (by simp) hi, hd]
    simp only [List.length_cons] at ih ⊢
    omega
theorem split_two' {c d : UInt8} {xs : List (List UInt8)} (hn : xs ≠ []) (h : ∀ a ∈ xs, c ∉ a) : Lib.split (joinS [c, d] xs) [c, d] = xs := splitK_two xs _ hn h (count_two xs h)
theorem join_split' (sep l : List UInt8) : joinS sep (Lib.split l sep) = l := join_splitK sep _ l
theorem cut_yes {a r : List UInt8} {c d : UInt8} (h : c ∉ a) : Lib.cut (a ++ c :: d :: r) [c, d] = (a, r, true) := by
  unfold Lib.cut
  rw [index_app h, if_pos (by omega)]
  simp [List.drop_append]
theorem cut_none {a : List UInt8} {c d : UInt8} (h : c ∉ a) : Lib.cut a [c, d] = (a, [], false) := by
  unfold Lib.cut
  rw [index_no h, if_neg (by omega)]
theorem cut_says (l sep : List UInt8) : ((Lib.cut l sep).2.2 = true → l = (Lib.cut l sep).1 ++ sep ++ (Lib.cut l sep).2.1) ∧ ((Lib.cut l sep).2.2 = false → (Lib.cut l sep).1 = l) := by
  unfold Lib.cut
  split
  · rename_i h
    obtain ⟨i, hi⟩ : ∃ i : Nat, Lib.index l sep = i := ⟨(Lib.index l sep).toNat, by omega⟩
    refine ⟨fun _ => ?_, fun h => (by cases h)⟩
    simp only [hi, Int.toNat_natCast]
    exact at_index hi
  · exact ⟨fun h => (by cases h), fun _ => rfl⟩
theorem joinS_mem {sep : List UInt8} : ∀ {xs : List (List UInt8)} {a : List UInt8}, a ∈ xs → a.length ≤ (joinS sep xs).length
  | [], _, h => by cases h
  | [b], a, h => by
    obtain rfl := List.mem_singleton.1 h
    exact Nat.le_refl _
  | b :: d :: l, a, h => by
    rw [joinS_cons (by simp)]
    rcases List.mem_cons.1 h with rfl | h
    · simp
    · have := joinS_mem (sep := sep) h
      simp only [List.length_append]
      omega
theorem split_mem' {sep l a : List UInt8} (h : a ∈ Lib.split l sep) : a.length ≤ l.length := by
  have := joinS_mem (sep := sep) h
  rwa [join_split'] at this
theorem joinS_count {sep : List UInt8} (h : sep ≠ []) : ∀ (xs : List (List UInt8)), xs.length ≤ (joinS sep xs).length + 1
  | [] => by simp
  | [a] => by simp
  | a :: b :: l => by
    have ih := joinS_count h (b :: l)
    have hp := List.length_pos_iff.2 h
    rw [joinS_cons (by simp)]
    simp only [List.length_append, List.length_cons] at ih ⊢
    omega
theorem split_count {sep l : List UInt8} (h : sep ≠ []) : (Lib.split l sep).length ≤ l.length + 1 := by
  have := joinS_count h (Lib.split l sep)
  rwa [join_split'] at this
theorem wayL_no {w : WayD} (h : WayIn w) {c : UInt8} (hc : c = 44 ∨ c = 58 ∨ c = 10) : c ∉ wayL w := by
  obtain ⟨hk, ht, -, -⟩ := h
  have n1 : ∀ m, c ∉ Lib.decDigits m := fun m => dec_no (by rcases hc with rfl | rfl | rfl <;> decide)
  have n2 : c ∉ kindL w.kind := by
    rcases hk with h | h | h <;> rw [h] <;> rcases hc with rfl | rfl | rfl <;> decide
  have n3 : c ∉ takeL w.take := by
    rcases ht with h | h | h <;> rw [h] <;> rcases hc with rfl | rfl | rfl <;> decide
  have n4 : c ≠ 32 := by rcases hc with rfl | rfl | rfl <;> decide
  unfold wayL
  simp only [List.mem_append, List.mem_cons, not_or]
  exact ⟨n2, n4, n1 _, n4, n1 _, n3⟩
end Go.Proofs.YtcdfeaodfmfdnaaDoor
