/- What a reader of rules answers, plainly: just one thing. The document's reader of a line of rules, plainly: what its questions say. gameref.RulesOf, plainly: the first end of a line; which line may stand where. -/
import Derived.Test.YtcdfeaodfmfdnaaGreatDoorRxLineM
import Derived.Test.YtcdfeaodfmfdnaaGreatDoorRtTextM
namespace Go.Proofs.YtcdfeaodfmfdnaaGreatDoor

/-- the reader stands before line i, behind lines below n that made r0; what it answers there -/
inductive StopR (L : List (List UInt8)) (i n : Nat) (r0 : RulesD) : Int → Int → RulesD → Prop
  | bad : i + 1 < L.length → (∀ k r', OrdR k n → ¬ LineK k (L.getD i []) r0 r') → StopR L i n r0 3 i zeroR
  | cut : i + 1 = L.length → L.getD i [] ≠ [] ∨ n ≠ 8 → StopR L i n r0 3 i zeroR
  | arg : i + 1 = L.length → L.getD i [] = [] → n = 8 → ¬ RulesOk r0 → StopR L i n r0 1 (-1) zeroR
  | ok : i + 1 = L.length → L.getD i [] = [] → n = 8 → RulesOk r0 → StopR L i n r0 0 0 r0
/-- what is answered of a text -/
def ReadQ (l : List UInt8) (code at_ : Int) (r : RulesD) : Prop :=
  ∃ (i n : Nat) (r0 : RulesD), i < (splitL 10 l).length ∧ RdR ((splitL 10 l).take i) n r0 ∧ StopR (splitL 10 l) i n r0 code at_ r
theorem take_at {L : List (List UInt8)} {i j : Nat} (hij : i < j) (hj : j < L.length) : ∃ b, L.take j = L.take i ++ L.getD i [] :: b := by
  refine ⟨(L.take j).drop (i + 1), ?_⟩
  have hi : i < (L.take j).length := by rw [List.length_take]; omega
  have h1 : (L.take j).take i = L.take i := by rw [List.take_take, Nat.min_eq_left (by omega)]
  have h2 : (L.take j)[i] = L.getD i [] := by
    rw [List.getElem_take, List.getD, List.getElem?_eq_getElem (by omega)]; rfl
  conv => lhs; rw [← List.take_append_drop i (L.take j)]
  rw [h1, List.drop_eq_getElem_cons hi, h2]
theorem stop_last {L : List (List UInt8)} {i j n m : Nat} {r0 r1 : RulesD} {c a : Int} {r : RulesD} (hij : i < j) (hj : j < L.length) (hi : RdR (L.take i) n r0) (hr : RdR (L.take j) m r1) (h : StopR L i n r0 c a r) : False := by
  obtain ⟨b, hb⟩ := take_at hij hj
  rw [hb] at hr
  obtain ⟨n1, r2, k, r3, g1, g2, g3⟩ := rd_begin hr
  obtain ⟨rfl, rfl⟩ := rd_one hi g1
  cases h with
  | bad _ h2 => exact h2 k r3 g2 g3
  | cut h1 _ => omega
  | arg h1 => omega
  | ok h1 => omega
theorem readQ_one {l : List UInt8} {c a c' a' : Int} {r r' : RulesD} (h : ReadQ l c a r) (h' : ReadQ l c' a' r') : c = c' ∧ a = a' ∧ r = r' := by
  obtain ⟨i, n, r0, hi, hr, hs⟩ := h
  obtain ⟨i', n', r0', hi', hr', hs'⟩ := h'
  have e : i = i' := by
    rcases Nat.lt_trichotomy i i' with h | h | h
    · exact (stop_last h hi' hr hr' hs).elim
    · exact h
    · exact (stop_last h hi hr' hr hs').elim
  subst e
  obtain ⟨rfl, rfl⟩ := rd_one hr hr'
  cases hs with
  | bad h1 h2 =>
    cases hs' with
    | bad _ _ => exact ⟨rfl, rfl, rfl⟩
    | cut _ _ => exact ⟨rfl, rfl, rfl⟩
    | arg h3 => omega
    | ok h3 => omega
  | cut h1 h2 =>
    cases hs' with
    | bad _ _ => exact ⟨rfl, rfl, rfl⟩
    | cut _ _ => exact ⟨rfl, rfl, rfl⟩
    | arg _ h4 h5 _ => rcases h2 with h2 | h2 <;> contradiction
    | ok _ h4 h5 _ => rcases h2 with h2 | h2 <;> contradiction
  | arg h1 h2 h3 h4 =>
    cases hs' with
    | bad h5 _ => omega
    | cut _ h5 => rcases h5 with h5 | h5 <;> contradiction
    | arg _ _ _ _ => exact ⟨rfl, rfl, rfl⟩
    | ok _ _ _ h5 => contradiction
  | ok h1 h2 h3 h4 =>
    cases hs' with
    | bad h5 _ => omega
    | cut _ h5 => rcases h5 with h5 | h5 <;> contradiction
    | arg _ _ _ h5 => contradiction
    | ok _ _ _ _ => exact ⟨rfl, rfl, rfl⟩
theorem stop_bad {x : List UInt8} {n : Nat} {r : RulesD} (hb : ordBad (ordI (Lib.cut x [32]).1) n = true ∨ ∀ k r', ¬ LineK k x r r') : ∀ k r', OrdR k n → ¬ LineK k x r r' := fun k r' ho hl => by
  rcases hb with hb | hb
  · obtain ⟨k7, hw⟩ := line_word hl
    rw [hw, ordI_word k7, ord_good ho] at hb
    cases hb
  · exact hb k r' hl
end Go.Proofs.YtcdfeaodfmfdnaaGreatDoor
namespace Go.Proofs.YtcdfeaodfmfdnaaGreatDoor

theorem first_word {k : Nat} {l : List UInt8} {r r' : RulesD} (h : LineK k l r r') : (splitL 32 l).getD 0 [] = wordR k := by
  match k, h with
  | 0, h => obtain ⟨p, _, rfl, _⟩ := h; rw [splitL_app (word_no (by omega))]; rfl
  | 1, h => obtain ⟨p, _, rfl, _⟩ := h; rw [tailP, splitL_app (word_no (by omega))]; rfl
  | 2, h => obtain ⟨rfl, _⟩ := h; rw [splitL_none (word_no (by omega))]; rfl
  | 3, h => obtain ⟨n, _, rfl, _⟩ := h; rw [splitL_app (word_no (by omega))]; rfl
  | 4, h => obtain ⟨m, _, _, rfl, _⟩ := h; rw [splitL_app (word_no (by omega))]; rfl
  | 5, h => obtain ⟨n, _, rfl, _⟩ := h; rw [splitL_app (word_no (by omega))]; rfl
  | 6, h => obtain ⟨rfl, _⟩ := h; rw [splitL_none (word_no (by omega))]; rfl
  | 7, h => obtain ⟨m, _, rfl, _⟩ := h; rw [splitL_app (word_no (by omega))]; rfl
theorem line_le {k : Nat} {l : List UInt8} {r r' : RulesD} (h : LineK k l r r') : k ≤ 7 := (line_word h).1
/-- another first word: no line of that kind -/
theorem not_kind {k j : Nat} {l : List UInt8} {r r' : RulesD} (hj : j ≤ 7) (hw : (splitL 32 l).getD 0 [] = wordR j) (h : LineK k l r r') : k = j :=
  word_inj (line_le h) hj (by rw [← first_word h, hw])
theorem start_pref (l : List UInt8) : Lib.hasPrefix l [115, 116, 97, 114, 116, 32] = true ↔ ∃ t, l = wordR 0 ++ 32 :: t := by
  unfold Lib.hasPrefix
  rw [List.isPrefixOf_iff_prefix]
  constructor
  · rintro ⟨t, rfl⟩; exact ⟨t, rfl⟩
  · rintro ⟨t, rfl⟩; exact ⟨t, rfl⟩
theorem one_letter {k : Nat} (hk : k ≤ 7) {c : UInt8} (hc : upB c.toNat = true) : splitL 32 (wordR k ++ [32, c]) = [wordR k, [c]] := by
  have h1 : (32 : UInt8) ∉ [c] := by
    rw [List.mem_singleton]
    intro e
    rw [← e] at hc
    exact absurd hc (by decide)
  rw [show wordR k ++ [32, c] = wordR k ++ 32 :: [c] from rfl, splitL_app (word_no hk), splitL_none h1]
theorem one_num {k : Nat} (hk : k ≤ 7) (m : Nat) : splitL 32 (wordR k ++ 32 :: Lib.decDigits m) = [wordR k, Lib.decDigits m] := by
  rw [splitL_app (word_no hk), splitL_none (dec_no (by decide))]
theorem two_back {l a b : List UInt8} (h2 : (splitL 32 l).length = 2) (h0 : (splitL 32 l).getD 0 [] = a) (h1 : (splitL 32 l).getD 1 [] = b) : l = a ++ 32 :: b := by
  have hj := join_split 32 l
  match hs : splitL 32 l, h2 with
  | [x, y], _ =>
    rw [hs] at hj h0 h1
    simp only [List.getD_cons_zero, List.getD_cons_succ] at h0 h1
    rw [← hj, ← h0, ← h1]
    simp [joinL]
theorem head_split {l : List UInt8} (h3 : (splitL 32 (Lib.cut l [58, 32]).1).length = 3) : (splitL 32 l).getD 0 [] = (splitL 32 (Lib.cut l [58, 32]).1).getD 0 [] ∧ (splitL 32 l).getD 1 [] = (splitL 32 (Lib.cut l [58, 32]).1).getD 1 [] := by
  obtain ⟨a, b, d, hF⟩ := list3 h3
  have hj := join_split 32 (Lib.cut l [58, 32]).1
  have hns := split_nosep 32 (Lib.cut l [58, 32]).1
  have hcs := cut_says l [58, 32]
  rw [hF] at hj hns ⊢
  have ha : (32 : UInt8) ∉ a := hns a (by simp)
  have hb : (32 : UInt8) ∉ b := hns b (by simp)
  have hl : ∃ t, l = a ++ 32 :: (b ++ 32 :: t) := by
    cases hc : (Lib.cut l [58, 32]).2.2 with
    | true =>
      have e := hcs.1 hc
      rw [← hj] at e
      obtain ⟨t2, ht2⟩ : ∃ t2, (Lib.cut l [58, 32]).2.1 = t2 := ⟨_, rfl⟩
      rw [ht2] at e
      exact ⟨d ++ [58, 32] ++ t2, e.trans (by simp [joinL])⟩
    | false =>
      have e := hcs.2 hc
      rw [← hj] at e
      exact ⟨d, e.symm.trans (by simp [joinL])⟩
  obtain ⟨t, ht⟩ := hl
  rw [ht, splitL_app ha, splitL_app hb]
  exact ⟨rfl, rfl⟩
/-- the six questions -/
def askP (l : List UInt8) : Bool := decide (3 ≤ (splitL 32 l).length) && (decide ((splitL 32 l).getD 0 [] = wordR 1) && (decide (((splitL 32 l).getD 1 []).length = 1) && upB (((splitL 32 l).getD 1 []).headD 0).toNat))
def askL (l : List UInt8) : Bool := decide ((splitL 32 l).length = 2) && ((decide ((splitL 32 l).getD 0 [] = wordR 3) || decide ((splitL 32 l).getD 0 [] = wordR 5)) && (decide (((splitL 32 l).getD 1 []).length = 1) && upB (((splitL 32 l).getD 1 []).headD 0).toNat))
theorem ask_piece {l : List UInt8} {r r' : RulesD} (h : LineK 1 l r r') : askP l = true := by
  obtain ⟨p, ⟨hu, _, _⟩, rfl, _⟩ := h
  have h1 : (32 : UInt8) ∉ [UInt8.ofNat p.letter] := by
    rw [List.mem_singleton]
    exact letter_no hu (by decide)
  have hs : splitL 32 (wordR 1 ++ tailP p) = wordR 1 :: [UInt8.ofNat p.letter] :: splitL 32 (Lib.decDigits p.worth.toNat ++ waysL p.ways) := by
    rw [tailP, splitL_app (word_no (by omega))]
    rw [show UInt8.ofNat p.letter :: 32 :: (Lib.decDigits p.worth.toNat ++ waysL p.ways) = [UInt8.ofNat p.letter] ++ 32 :: (Lib.decDigits p.worth.toNat ++ waysL p.ways) from rfl, splitL_app h1]
  have hne := splitL_ne 32 (Lib.decDigits p.worth.toNat ++ waysL p.ways)
  have hlen : 1 ≤ (splitL 32 (Lib.decDigits p.worth.toNat ++ waysL p.ways)).length := List.length_pos_iff.2 hne
  unfold askP
  rw [hs]
  simp [up_small hu, hu]
  omega
theorem ask_lose {k : Nat} (hk : k = 3 ∨ k = 5) {l : List UInt8} {r r' : RulesD} (h : LineK k l r r') : askL l = true := by
  have key : ∀ n, upB n = true → ∀ j, j = 3 ∨ j = 5 → askL (wordR j ++ [32, UInt8.ofNat n]) = true := fun n hn j hj => by
    have hn' : upB (UInt8.ofNat n).toNat = true := by rw [up_small hn]; exact hn
    unfold askL
    rw [one_letter (by omega) hn']
    have hm : n % 256 = n := by have := upB_lt hn; omega
    rcases hj with rfl | rfl <;> simp [hm, hn]
  rcases hk with rfl | rfl
  · obtain ⟨n, hn, rfl, _⟩ := h; exact key n hn 3 (.inl rfl)
  · obtain ⟨n, hn, rfl, _⟩ := h; exact key n hn 5 (.inr rfl)
theorem ask_lose_back {l : List UInt8} (h : askL l = true) : ∃ k c, (k = 3 ∨ k = 5) ∧ (splitL 32 l).getD 0 [] = wordR k ∧ (splitL 32 l).getD 1 [] = [c] ∧ upB c.toNat = true ∧ l = wordR k ++ [32, c] := by
  unfold askL at h
  simp only [Bool.and_eq_true, Bool.or_eq_true, decide_eq_true_eq] at h
  obtain ⟨h2, hw, h1, hu⟩ := h
  obtain ⟨c, hc⟩ := List.length_eq_one_iff.1 h1
  rw [hc] at hu
  rcases hw with hw | hw
  · exact ⟨3, c, .inl rfl, hw, hc, hu, two_back h2 hw hc⟩
  · exact ⟨5, c, .inr rfl, hw, hc, hu, two_back h2 hw hc⟩
theorem line_let {k : Nat} (hk : k = 3 ∨ k = 5) {c : UInt8} (hc : upB c.toNat = true) {l : List UInt8} (hl : l = wordR k ++ [32, c]) (r : RulesD) : LineK k l r (if k = 3 then { r with lose := c.toNat } else { r with reach := c.toNat }) := by
  have e : UInt8.ofNat c.toNat = c := by simp
  rcases hk with rfl | rfl
  · exact ⟨c.toNat, hc, by rw [e]; exact hl, rfl⟩
  · exact ⟨c.toNat, hc, by rw [e]; exact hl, rfl⟩
/-- a line with a number -/
theorem line_num {k : Nat} (hk : k = 4 ∨ k = 7) {l : List UInt8} {r r' : RulesD} (h : LineK k l r r') : (splitL 32 l).length = 2 ∧ (splitL 32 l).getD 0 [] = wordR k ∧ ∃ m : Nat, m ≤ 9999 ∧ (k = 4 → 0 < m) ∧ (splitL 32 l).getD 1 [] = Lib.decDigits m := by
  rcases hk with rfl | rfl
  · obtain ⟨m, h0, h9, rfl, _⟩ := h
    rw [one_num (by omega)]
    exact ⟨rfl, rfl, m, h9, fun _ => h0, rfl⟩
  · obtain ⟨m, h9, rfl, _⟩ := h
    rw [one_num (by omega)]
    exact ⟨rfl, rfl, m, h9, fun h => (by cases h), rfl⟩
/-- the document's reader of a piece -/
theorem piece_back {l : List UInt8} {c : UInt8} {v : Int} {ws : List WayD} (ha : (splitL 32 l).getD 0 [] = wordR 1) (hb : (splitL 32 l).getD 1 [] = [c]) (hu : upB c.toNat = true)
    (h3 : (splitL 32 (Lib.cut l [58, 32]).1).length = 3) (hv : ∃ m : Nat, v = m ∧ m ≤ 9999 ∧ (splitL 32 (Lib.cut l [58, 32]).1).getD 2 [] = Lib.decDigits m) (hw : ∀ w ∈ ws, WayIn w)
    (h0 : (Lib.cut l [58, 32]).2.2 = false → ws = []) (h1 : (Lib.cut l [58, 32]).2.2 = true → Lib.split (Lib.cut l [58, 32]).2.1 [44, 32] = ws.map wayL) :
    PieceIn ⟨c.toNat, v, ws⟩ ∧ l = wordR 1 ++ tailP ⟨c.toNat, v, ws⟩ := by
  obtain ⟨e0, e1⟩ := head_split h3
  obtain ⟨m, rfl, m9, em⟩ := hv
  obtain ⟨hin, w0, h32, hl⟩ := piece_found (l := l) (n := c.toNat) (v := (m : Int)) (ws := ws) h3
    ⟨fun _ => ⟨hu, c, rfl, by rw [← e1, hb]⟩, fun h => by cases h⟩ ⟨fun _ => ⟨m, rfl, m9, em⟩, fun _ _ _ => rfl⟩ hw h0 h1
  refine ⟨hin, ?_⟩
  have : (splitL 32 l).getD 0 [] = w0 := by rw [hl, tailP, splitL_app h32]; rfl
  rw [this] at ha
  rw [hl, ha]
end Go.Proofs.YtcdfeaodfmfdnaaGreatDoor
namespace Go.Proofs.YtcdfeaodfmfdnaaGreatDoor

theorem ib_nat : ∀ (l : List UInt8) (c : UInt8), Lib.indexByte l c = -1 ∨ 0 ≤ Lib.indexByte l c
  | [], c => .inl rfl
  | b :: l, c => by
    unfold Lib.indexByte
    rcases ib_nat l c with h | h
    · split
      · exact .inr (Int.le_refl _)
      · rw [h]; exact .inl rfl
    · split
      · exact .inr (Int.le_refl _)
      · split
        · exact .inl rfl
        · right; omega
theorem ib_none : ∀ {l : List UInt8} {c : UInt8}, Lib.indexByte l c < 0 → c ∉ l
  | [], c, _ => by simp
  | b :: l, c, h => by
    unfold Lib.indexByte at h
    split at h
    · omega
    · rename_i hb
      have hn : Lib.indexByte l c < 0 := by
        split at h
        · rename_i h1
          have : Lib.indexByte l c = -1 := by simpa using h1
          omega
        · rcases ib_nat l c with h2 | h2 <;> omega
      have ih := ib_none hn
      simp only [List.mem_cons, not_or]
      exact ⟨fun e => hb (by simp [e]), ih⟩
theorem ib_some : ∀ {l : List UInt8} {c : UInt8} {k : Nat}, Lib.indexByte l c = (k : Int) → c ∉ l.take k ∧ l = l.take k ++ c :: l.drop (k + 1) ∧ k < l.length
  | [], c, k, h => by
    unfold Lib.indexByte at h
    omega
  | b :: l, c, k, h => by
    unfold Lib.indexByte at h
    split at h
    · rename_i hb
      have hk : k = 0 := by omega
      subst hk
      have e : b = c := by simpa using hb
      subst e
      simp
    · rename_i hb
      split at h
      · omega
      · obtain ⟨j, rfl⟩ : ∃ j, k = j + 1 := ⟨k - 1, by
          rcases ib_nat l c with h2 | h2
          · rename_i h1; exact absurd (by simpa using h2) h1
          · omega⟩
        obtain ⟨i1, i2, i3⟩ := ib_some (l := l) (c := c) (k := j) (by omega)
        refine ⟨?_, ?_, by simp; omega⟩
        · rw [List.take_succ_cons]
          simp only [List.mem_cons, not_or]
          exact ⟨fun e => hb (by simp [e]), i1⟩
        · rw [List.take_succ_cons, List.drop_succ_cons, List.cons_append, ← i2]
/-- the document's test of a line's place -/
def ordD (k : Int) (n : Nat) : Bool := ((k == (n : Int)) && decide (k ≤ 1)) || ((k == 1) && ((n : Int) - 1 == 1)) || (decide (k > (n : Int) - 1) && decide (k > 1) && decide ((n : Int) - 1 ≥ 1))
theorem ordD_no (n : Nat) : ordD (-1) n = false := by
  unfold ordD
  have h1 : ((-1 : Int) == (n : Int)) = false := by rw [beq_eq_false_iff_ne]; omega
  rw [h1]
  simp
theorem ordD_iff {k n : Nat} (hk : k ≤ 7) : ordD (k : Int) n = true ↔ OrdR k n := by
  unfold ordD OrdR
  simp only [Bool.or_eq_true, Bool.and_eq_true, decide_eq_true_eq, beq_iff_eq]
  omega
end Go.Proofs.YtcdfeaodfmfdnaaGreatDoor
