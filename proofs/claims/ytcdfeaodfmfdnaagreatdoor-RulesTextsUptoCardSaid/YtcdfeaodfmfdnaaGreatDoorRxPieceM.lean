/- A piece as a text, plainly: cuts and splits at two bytes. A piece as a text, plainly: what its reader finds. -/
import Derived.Test.YtcdfeaodfmfdnaaGreatDoorRxWayM
import Derived.Lib.SplitLaws
import Derived.Lib.CutLaws
import Derived.Test.YtcdfeaodfmfdnaaGreatDoorRxNumM
namespace Go.Proofs.YtcdfeaodfmfdnaaGreatDoor

/-- joined by a separator of several bytes -/
def joinS (sep : List UInt8) : List (List UInt8) → List UInt8
  | [] => []
  | [a] => a
  | a :: b :: l => a ++ sep ++ joinS sep (b :: l)
theorem joinS_cons {sep a : List UInt8} {l : List (List UInt8)} (h : l ≠ []) : joinS sep (a :: l) = a ++ sep ++ joinS sep l := by
  cases l with
  | nil => exact absurd rfl h
  | cons b l => rfl
theorem splitK_ne (sep : List UInt8) (sv k : Nat) (l : List UInt8) : Lib.splitK sep sv k l ≠ [] := by
  cases k with
  | zero => simp [Lib.splitK]
  | succ k => unfold Lib.splitK; split <;> simp
theorem at_index {l sep : List UInt8} {i : Nat} (h : Lib.index l sep = i) : l = l.take i ++ sep ++ l.drop (i + sep.length) := by
  rcases Lib.index_spec l sep with ⟨h1, _⟩ | ⟨j, h1, _, ho, _⟩
  · omega
  · obtain rfl : j = i := by omega
    unfold Lib.occAt at ho
    obtain ⟨t, ht⟩ := List.isPrefixOf_iff_prefix.1 ho
    have h2 : l.drop (j + sep.length) = t := by rw [← List.drop_drop, ← ht]; simp
    rw [h2, List.append_assoc, ht, List.take_append_drop]
theorem join_splitK (sep : List UInt8) : ∀ (k : Nat) (l : List UInt8), joinS sep (Lib.splitK sep 0 k l) = l
  | 0, l => rfl
  | k + 1, l => by
    unfold Lib.splitK
    split
    · rfl
    · rename_i h
      have hge := Lib.index_ge l sep
      have hne : Lib.index l sep ≠ -1 := fun e => h (by rw [e]; rfl)
      obtain ⟨i, hi⟩ : ∃ i : Nat, Lib.index l sep = i := ⟨(Lib.index l sep).toNat, by omega⟩
      rw [joinS_cons (splitK_ne _ _ _ _), join_splitK sep k, hi]
      simp only [Int.toNat_natCast, Nat.add_zero]
      exact (at_index hi).symm
/-- where the first byte of the separator is not in what stands ahead -/
theorem index_app {a r : List UInt8} {c d : UInt8} (h : c ∉ a) : Lib.index (a ++ c :: d :: r) [c, d] = a.length := by
  refine Lib.index_first (by simp) ?_ (fun j hj => ?_)
  · unfold Lib.occAt; simp
  · unfold Lib.occAt
    rw [List.drop_append_of_le_length (by omega), List.drop_eq_getElem_cons hj]
    have : (c == a[j]) = false := beq_eq_false_iff_ne.2 fun e => h (e ▸ List.getElem_mem hj)
    simp only [List.cons_append, List.isPrefixOf, this, Bool.false_and]
theorem index_no {a : List UInt8} {c d : UInt8} (h : c ∉ a) : Lib.index a [c, d] = -1 := by
  refine Lib.index_none (fun j hj => ?_)
  unfold Lib.occAt
  by_cases e : j < a.length
  · rw [List.drop_eq_getElem_cons e]
    have : (c == a[j]) = false := beq_eq_false_iff_ne.2 fun e2 => h (e2 ▸ List.getElem_mem e)
    simp only [List.isPrefixOf, this, Bool.false_and]
  · rw [List.drop_eq_nil_of_le (by omega)]; rfl
theorem splitK_two {c d : UInt8} : ∀ (xs : List (List UInt8)) (k : Nat), xs ≠ [] → (∀ a ∈ xs, c ∉ a) → xs.length ≤ k + 1 → Lib.splitK [c, d] 0 k (joinS [c, d] xs) = xs
  | [], _, h, _, _ => absurd rfl h
  | [a], k, _, h, _ => by
    cases k with
    | zero => rfl
    | succ k =>
      unfold Lib.splitK
      rw [if_pos (by rw [show joinS [c, d] [a] = a from rfl, index_no (h a (by simp))]; rfl)]
      rfl
  | a :: b :: l, k, _, h, hk => by
    cases k with
    | zero => simp at hk
    | succ k =>
      have hj : joinS [c, d] (a :: b :: l) = a ++ c :: d :: joinS [c, d] (b :: l) := by rw [joinS_cons (by simp)]; simp
      have hi := index_app (d := d) (r := joinS [c, d] (b :: l)) (h a List.mem_cons_self)
      unfold Lib.splitK
      rw [hj, hi, if_neg (by simp)]
      have hd : (a ++ c :: d :: joinS [c, d] (b :: l)).drop (a.length + 2) = joinS [c, d] (b :: l) := by
        rw [List.drop_append]
        simp
      simp only [Int.toNat_natCast, Nat.add_zero, List.length_cons, List.length_nil, Nat.zero_add, Nat.reduceAdd, hd]
      rw [splitK_two (b :: l) k (by simp) (fun x hx => h x (List.mem_cons_of_mem _ hx)) (by simpa using hk)]
      simp
theorem count_two {c d : UInt8} : ∀ (xs : List (List UInt8)), (∀ a ∈ xs, c ∉ a) → xs.length ≤ Lib.count (joinS [c, d] xs) [c, d] + 1
  | [], _ => by simp
  | [a], _ => by simp
  | a :: b :: l, h => by
    have ih := count_two (d := d) (b :: l) (fun x hx => h x (List.mem_cons_of_mem _ hx))
    have hj : joinS [c, d] (a :: b :: l) = a ++ c :: d :: joinS [c, d] (b :: l) := by rw [joinS_cons (by simp)]; simp
    have hi := index_app (d := d) (r := joinS [c, d] (b :: l)) (h a List.mem_cons_self)
    have hd : (a ++ c :: d :: joinS [c, d] (b :: l)).drop (a.length + [c, d].length) = joinS [c, d] (b :: l) := by
      rw [List.drop_append]
      simp
    rw [hj, Lib.count_hit (by simp) hi, hd]
    simp only [List.length_cons] at ih ⊢
    omega
theorem split_two' {c d : UInt8} {xs : List (List UInt8)} (hn : xs ≠ []) (h : ∀ a ∈ xs, c ∉ a) : Lib.split (joinS [c, d] xs) [c, d] = xs := splitK_two xs _ hn h (count_two xs h)
theorem join_split' (sep l : List UInt8) : joinS sep (Lib.split l sep) = l := join_splitK sep _ l
theorem cut_yes {a r : List UInt8} {c d : UInt8} (h : c ∉ a) : Lib.cut (a ++ c :: d :: r) [c, d] = (a, r, true) := by
  unfold Lib.cut
  rw [index_app h, if_pos (by omega)]
  simp [List.drop_append]
theorem cut_none {a : List UInt8} {c d : UInt8} (h : c ∉ a) : Lib.cut a [c, d] = (a, [], false) := by
  unfold Lib.cut
  rw [index_no h, if_neg (by omega)]
theorem cut_says (l sep : List UInt8) : ((Lib.cut l sep).2.2 = true → l = (Lib.cut l sep).1 ++ sep ++ (Lib.cut l sep).2.1) ∧ ((Lib.cut l sep).2.2 = false → (Lib.cut l sep).1 = l) := by
  unfold Lib.cut
  split
  · rename_i h
    obtain ⟨i, hi⟩ : ∃ i : Nat, Lib.index l sep = i := ⟨(Lib.index l sep).toNat, by omega⟩
    refine ⟨fun _ => ?_, fun h => (by cases h)⟩
    simp only [hi, Int.toNat_natCast]
    exact at_index hi
  · exact ⟨fun h => (by cases h), fun _ => rfl⟩
theorem joinS_mem {sep : List UInt8} : ∀ {xs : List (List UInt8)} {a : List UInt8}, a ∈ xs → a.length ≤ (joinS sep xs).length
  | [], _, h => by cases h
  | [b], a, h => by
    obtain rfl := List.mem_singleton.1 h
    exact Nat.le_refl _
  | b :: d :: l, a, h => by
    rw [joinS_cons (by simp)]
    rcases List.mem_cons.1 h with rfl | h
    · simp
    · have := joinS_mem (sep := sep) h
      simp only [List.length_append]
      omega
theorem split_mem' {sep l a : List UInt8} (h : a ∈ Lib.split l sep) : a.length ≤ l.length := by
  have := joinS_mem (sep := sep) h
  rwa [join_split'] at this
theorem joinS_count {sep : List UInt8} (h : sep ≠ []) : ∀ (xs : List (List UInt8)), xs.length ≤ (joinS sep xs).length + 1
  | [] => by simp
  | [a] => by simp
  | a :: b :: l => by
    have ih := joinS_count h (b :: l)
    have hp := List.length_pos_iff.2 h
    rw [joinS_cons (by simp)]
    simp only [List.length_append, List.length_cons] at ih ⊢
    omega
theorem split_count {sep l : List UInt8} (h : sep ≠ []) : (Lib.split l sep).length ≤ l.length + 1 := by
  have := joinS_count h (Lib.split l sep)
  rwa [join_split'] at this
theorem wayL_no {w : WayD} (h : WayIn w) {c : UInt8} (hc : c = 44 ∨ c = 58 ∨ c = 10) : c ∉ wayL w := by
  obtain ⟨hk, ht, -, -⟩ := h
  have n1 : ∀ m, c ∉ Lib.decDigits m := fun m => dec_no (by rcases hc with rfl | rfl | rfl <;> decide)
  have n2 : c ∉ kindL w.kind := by
    rcases hk with h | h | h <;> rw [h] <;> rcases hc with rfl | rfl | rfl <;> decide
  have n3 : c ∉ takeL w.take := by
    rcases ht with h | h | h <;> rw [h] <;> rcases hc with rfl | rfl | rfl <;> decide
  have n4 : c ≠ 32 := by rcases hc with rfl | rfl | rfl <;> decide
  unfold wayL
  simp only [List.mem_append, List.mem_cons, not_or]
  exact ⟨n2, n4, n1 _, n4, n1 _, n3⟩
end Go.Proofs.YtcdfeaodfmfdnaaGreatDoor
namespace Go.Proofs.YtcdfeaodfmfdnaaGreatDoor

def PieceIn (p : PieceD) : Prop := upB p.letter = true ∧ (∃ m : Nat, p.worth = m ∧ m ≤ 9999) ∧ ∀ w ∈ p.ways, WayIn w
def waysL (ws : List WayD) : List UInt8 := if ws = [] then [] else 58 :: 32 :: joinS [44, 32] (ws.map wayL)
def tailP (p : PieceD) : List UInt8 := 32 :: UInt8.ofNat p.letter :: 32 :: (Lib.decDigits p.worth.toNat ++ waysL p.ways)
/-- what readPiece says of the text -/
def PieceP (l : List UInt8) (p : PieceD) (ok : Bool) : Prop :=
  (ok = true → PieceIn p ∧ ∃ w0, (32 : UInt8) ∉ w0 ∧ l = w0 ++ tailP p) ∧ ∀ p', PieceIn p' → ∀ w0, (32 : UInt8) ∉ w0 → (58 : UInt8) ∉ w0 → l = w0 ++ tailP p' → ok = true
theorem up_small {n : Nat} (h : upB n = true) : (UInt8.ofNat n).toNat = n := by
  have := upB_lt h
  rw [UInt8.toNat_ofNat']
  omega
theorem letter_no {n : Nat} (h : upB n = true) {c : UInt8} (hc : c.toNat < 65) : c ≠ UInt8.ofNat n := fun e => by
  have h1 := upB_lt h
  have h2 := up_small h
  rw [← e] at h2
  omega
/-- the text of a piece, taken apart as the reader does -/
theorem piece_parts {l w0 : List UInt8} {p : PieceD} (hp : PieceIn p) (h32 : (32 : UInt8) ∉ w0) (h58 : (58 : UInt8) ∉ w0) (hl : l = w0 ++ tailP p) :
    splitL 32 (Lib.cut l [58, 32]).1 = [w0, [UInt8.ofNat p.letter], Lib.decDigits p.worth.toNat] ∧ (Lib.cut l [58, 32]).2.2 = decide (p.ways ≠ []) ∧ (p.ways ≠ [] → Lib.split (Lib.cut l [58, 32]).2.1 [44, 32] = p.ways.map wayL) := by
  obtain ⟨hu, ⟨m, hm, m9⟩, hw⟩ := hp
  have hh : (58 : UInt8) ∉ w0 ++ 32 :: UInt8.ofNat p.letter :: 32 :: Lib.decDigits p.worth.toNat := by
    simp only [List.mem_append, List.mem_cons, not_or]
    exact ⟨h58, by decide, letter_no hu (by decide), by decide, dec_no (by decide)⟩
  have hs : splitL 32 (w0 ++ 32 :: UInt8.ofNat p.letter :: 32 :: Lib.decDigits p.worth.toNat) = [w0, [UInt8.ofNat p.letter], Lib.decDigits p.worth.toNat] := by
    have h1 : (32 : UInt8) ∉ [UInt8.ofNat p.letter] := by
      rw [List.mem_singleton]
      exact letter_no hu (by decide)
    rw [splitL_app h32]
    have := splitL_app h1 (Lib.decDigits p.worth.toNat)
    rw [List.singleton_append] at this
    rw [this, splitL_none (dec_no (by decide))]
  by_cases e : p.ways = []
  · have hl' : l = w0 ++ 32 :: UInt8.ofNat p.letter :: 32 :: Lib.decDigits p.worth.toNat := by rw [hl, tailP, waysL, if_pos e, List.append_nil]
    rw [hl', cut_none hh]
    exact ⟨hs, by simp [e], fun h => absurd e h⟩
  · have hl' : l = (w0 ++ 32 :: UInt8.ofNat p.letter :: 32 :: Lib.decDigits p.worth.toNat) ++ 58 :: 32 :: joinS [44, 32] (p.ways.map wayL) := by rw [hl, tailP, waysL, if_neg e]; simp
    rw [hl', cut_yes hh]
    refine ⟨hs, by simp [e], fun _ => split_two' (by simpa using e) (fun a ha => ?_)⟩
    obtain ⟨w, hw', rfl⟩ := List.mem_map.1 ha
    exact wayL_no (hw w hw') (.inl rfl)
/-- what the reader has found is the text of a piece -/
theorem piece_found {l : List UInt8} {n : Nat} {v : Int} {ws : List WayD} (h3 : (splitL 32 (Lib.cut l [58, 32]).1).length = 3)
    (hn : LetP ((splitL 32 (Lib.cut l [58, 32]).1).getD 1 []) n true) (hv : NumP ((splitL 32 (Lib.cut l [58, 32]).1).getD 2 []) v true) (hw : ∀ w ∈ ws, WayIn w)
    (h0 : (Lib.cut l [58, 32]).2.2 = false → ws = []) (h1 : (Lib.cut l [58, 32]).2.2 = true → Lib.split (Lib.cut l [58, 32]).2.1 [44, 32] = ws.map wayL) :
    PieceIn ⟨n, v, ws⟩ ∧ ∃ w0, (32 : UInt8) ∉ w0 ∧ l = w0 ++ tailP ⟨n, v, ws⟩ := by
  obtain ⟨hu, c, hc, ec⟩ := hn.1 rfl
  obtain ⟨m, rfl, m9, em⟩ := hv.1 rfl
  refine ⟨⟨hu, ⟨m, rfl, m9⟩, hw⟩, ?_⟩
  obtain ⟨w0, b, d, hF⟩ := list3 h3
  have hj := join_split 32 (Lib.cut l [58, 32]).1
  have hns := split_nosep 32 (Lib.cut l [58, 32]).1
  rw [hF] at hj ec em hns
  simp only [List.getD_cons_zero, List.getD_cons_succ] at ec em
  subst ec
  subst em
  have hcu : UInt8.ofNat n = c := by rw [← hc]; simp
  refine ⟨w0, hns w0 (by simp), ?_⟩
  obtain ⟨s1, s2⟩ := cut_says l [58, 32]
  cases hb : (Lib.cut l [58, 32]).2.2 with
  | false =>
    rw [← s2 hb, ← hj, h0 hb]
    simp [tailP, waysL, joinL, hcu]
  | true =>
    have hjs := join_split' [44, 32] (Lib.cut l [58, 32]).2.1
    rw [h1 hb] at hjs
    have hne : ws ≠ [] := fun e => by
      have := h1 hb
      rw [e] at this
      exact splitK_ne _ _ _ _ this
    conv => lhs; rw [s1 hb]
    rw [← hj, ← hjs, tailP, waysL, if_neg hne]
    simp [joinL, hcu]
end Go.Proofs.YtcdfeaodfmfdnaaGreatDoor
