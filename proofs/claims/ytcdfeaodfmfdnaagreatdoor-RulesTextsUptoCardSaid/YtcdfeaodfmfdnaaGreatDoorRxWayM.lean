/- A way of a piece as a text, plainly. A position as a text, plainly. gameref.Parsed: its plain steps, and what stays while it reads. -/
import Derived.Test.YtcdfeaodfmfdnaaGreatDoorRxNumM
import Derived.Test.YtcdfeaodfmfdnaaGreatDoorRulesPlain
import Derived.Test.YtcdfeaodfmfdnaaGreatDoorBxPlain
import Derived.Test.YtcdfeaodfmfdnaaGreatDoorBxSplit
namespace Go.Proofs.YtcdfeaodfmfdnaaGreatDoor

def kindL (k : Int) : List UInt8 := if k = 1 then [108, 101, 97, 112] else if k = 2 then [115, 108, 105, 100, 101] else if k = 3 then [115, 116, 101, 112] else []
def takeL (k : Int) : List UInt8 := if k = 1 then [32, 116, 97, 107, 101] else if k = 2 then [32, 113, 117, 105, 101, 116] else []
def kindOf (a : List UInt8) : Int := if a = kindL 1 then 1 else if a = kindL 2 then 2 else if a = kindL 3 then 3 else 0
def takeOf (a : List UInt8) : Int := if 32 :: a = takeL 1 then 1 else if 32 :: a = takeL 2 then 2 else 0
/-- ways that the texts can say -/
def WayIn (w : WayD) : Prop := (w.kind = 1 ∨ w.kind = 2 ∨ w.kind = 3) ∧ (w.take = 0 ∨ w.take = 1 ∨ w.take = 2) ∧ (∃ m : Nat, w.x = m ∧ m ≤ 9999) ∧ ∃ m : Nat, w.y = m ∧ m ≤ 9999
def wayL (w : WayD) : List UInt8 := kindL w.kind ++ 32 :: (Lib.decDigits w.x.toNat ++ 32 :: (Lib.decDigits w.y.toNat ++ takeL w.take))
theorem dec_digit {m : Nat} : ∀ c ∈ Lib.decDigits m, 48 ≤ c.toNat ∧ c.toNat ≤ 57 := by
  have key : ∀ d : Fin 10, 48 ≤ (UInt8.ofNat (48 + d.val)).toNat ∧ (UInt8.ofNat (48 + d.val)).toNat ≤ 57 := by decide
  induction m using Nat.strongRecOn with
  | _ m ih =>
    intro c hc
    by_cases h : m < 10
    · rw [Lib.decDigits_one h] at hc
      rw [List.mem_singleton.1 hc]
      exact key ⟨m, h⟩
    · rw [Lib.decDigits, dif_neg h] at hc
      rcases List.mem_append.1 hc with h1 | h1
      · exact ih (m / 10) (by omega) c h1
      · rw [List.mem_singleton.1 h1]
        exact key ⟨m % 10, by omega⟩
theorem dec_no {m : Nat} {c : UInt8} (h : c.toNat < 48 ∨ 57 < c.toNat) : c ∉ Lib.decDigits m := fun hm => by
  have := dec_digit c hm
  omega
theorem kind_no (k : Int) : (32 : UInt8) ∉ kindL k := by unfold kindL; repeat (split <;> try decide)
theorem kindOf_L {k : Int} (h : k = 1 ∨ k = 2 ∨ k = 3) : kindOf (kindL k) = k := by rcases h with rfl | rfl | rfl <;> decide
theorem kindOf_pos {a : List UInt8} (h : 0 < kindOf a) : a = kindL (kindOf a) ∧ (kindOf a = 1 ∨ kindOf a = 2 ∨ kindOf a = 3) := by
  unfold kindOf at h ⊢
  split
  · rename_i e; exact ⟨e, .inl rfl⟩
  · split
    · rename_i e; exact ⟨e, .inr (.inl rfl)⟩
    · split
      · rename_i e; exact ⟨e, .inr (.inr rfl)⟩
      · rename_i e1 e2 e3; simp [e1, e2, e3] at h
theorem takeOf_pos {a : List UInt8} (h : 0 < takeOf a) : 32 :: a = takeL (takeOf a) ∧ (takeOf a = 1 ∨ takeOf a = 2) := by
  unfold takeOf at h ⊢
  split
  · rename_i e; exact ⟨e, .inl rfl⟩
  · split
    · rename_i e; exact ⟨e, .inr rfl⟩
    · rename_i e1 e2; simp [e1, e2] at h
/-- what the reader of a way finds -/
def wayOf (P : List (List UInt8)) (x y : Int) : WayD := ⟨kindOf (P.getD 0 []), x, y, if P.length = 4 then takeOf (P.getD 3 []) else 0⟩
def wayFB (P : List (List UInt8)) (okx oky : Bool) : Bool := (decide (P.length = 3) || decide (P.length = 4)) && (decide (0 < kindOf (P.getD 0 [])) && ((decide (P.length = 3) || decide (0 < takeOf (P.getD 3 []))) && (okx && oky)))
/-- what it says of the text -/
def WayP (l : List UInt8) (w : WayD) (ok : Bool) : Prop := (ok = true → WayIn w ∧ l = wayL w) ∧ ∀ w', WayIn w' → l = wayL w' → ok = true
theorem list3 {α : Type} {P : List α} (h : P.length = 3) : ∃ a b c, P = [a, b, c] := by
  match P, h with
  | [a, b, c], _ => exact ⟨a, b, c, rfl⟩
theorem list4 {α : Type} {P : List α} (h : P.length = 4) : ∃ a b c d, P = [a, b, c, d] := by
  match P, h with
  | [a, b, c, d], _ => exact ⟨a, b, c, d, rfl⟩
theorem way_says {l : List UInt8} {x y : Int} {okx oky : Bool} (hx : NumP ((splitL 32 l).getD 1 []) x okx) (hy : NumP ((splitL 32 l).getD 2 []) y oky) : WayP l (wayOf (splitL 32 l) x y) (wayFB (splitL 32 l) okx oky) := by
  have hj := join_split 32 l
  refine ⟨fun ht => ?_, fun w' hw hl => ?_⟩
  · unfold wayFB at ht
    simp only [Bool.and_eq_true, Bool.or_eq_true, decide_eq_true_eq] at ht
    obtain ⟨h34, hk, ht, rfl, rfl⟩ := ht
    obtain ⟨mx, rfl, mx9, ex⟩ := hx.1 rfl
    obtain ⟨my, rfl, my9, ey⟩ := hy.1 rfl
    obtain ⟨ek, hk3⟩ := kindOf_pos hk
    rcases h34 with h3 | h4
    · obtain ⟨a, b, c, hP⟩ := list3 h3
      rw [hP] at hj ex ey ek hk3 ⊢
      simp only [List.getD_cons_zero, List.getD_cons_succ] at ex ey ek hk3
      refine ⟨⟨hk3, .inl (by simp [wayOf]), ⟨mx, rfl, mx9⟩, ⟨my, rfl, my9⟩⟩, ?_⟩
      rw [← hj]
      simp only [wayL, wayOf, List.getD_cons_zero, ← ek, Int.toNat_natCast, ← ex, ← ey]
      simp [joinL, takeL]
    · obtain ⟨a, b, c, d, hP⟩ := list4 h4
      rw [hP] at hj ex ey ek hk3 ht ⊢
      simp only [List.getD_cons_zero, List.getD_cons_succ] at ex ey ek hk3 ht
      have ht' : 0 < takeOf d := by
        rcases ht with h | h
        · simp at h
        · exact h
      obtain ⟨et, ht3⟩ := takeOf_pos ht'
      refine ⟨⟨hk3, by simp only [wayOf]; right; simpa using ht3, ⟨mx, rfl, mx9⟩, ⟨my, rfl, my9⟩⟩, ?_⟩
      rw [← hj]
      have e4 : (if ([a, b, c, d] : List (List UInt8)).length = 4 then takeOf ([a, b, c, d].getD 3 []) else 0) = takeOf d := rfl
      simp only [wayL, wayOf, List.getD_cons_zero, ← ek, Int.toNat_natCast, ← ex, ← ey, e4, ← et]
      simp [joinL]
  · obtain ⟨hk, ht, ⟨mx, ex, mx9⟩, my, ey, my9⟩ := hw
    have n1 : (32 : UInt8) ∉ Lib.decDigits mx := dec_no (by decide)
    have n2 : (32 : UInt8) ∉ Lib.decDigits my := dec_no (by decide)
    have hl' : l = kindL w'.kind ++ 32 :: (Lib.decDigits mx ++ 32 :: (Lib.decDigits my ++ takeL w'.take)) := by rw [hl, wayL, ex, ey]; simp
    have hs : splitL 32 l = kindL w'.kind :: Lib.decDigits mx :: splitL 32 (Lib.decDigits my ++ takeL w'.take) := by
      rw [hl', splitL_app (kind_no _), splitL_app n1]
    rcases ht with h0 | h1 | h2
    · rw [h0] at hs
      have hs3 : splitL 32 l = [kindL w'.kind, Lib.decDigits mx, Lib.decDigits my] := by rw [hs, show takeL 0 = [] from rfl, List.append_nil, splitL_none n2]
      rw [hs3] at hx hy ⊢
      have h1 := hx.2 mx mx9 rfl
      have h2 := hy.2 my my9 rfl
      subst h1; subst h2
      have hp : 0 < kindOf (kindL w'.kind) := by rw [kindOf_L hk]; rcases hk with h | h | h <;> omega
      simp [wayFB, hp]
    · rw [h1] at hs
      have hs4 : splitL 32 l = [kindL w'.kind, Lib.decDigits mx, Lib.decDigits my, [116, 97, 107, 101]] := by
        rw [hs, show takeL 1 = 32 :: [116, 97, 107, 101] from rfl, splitL_app n2]
        rfl
      rw [hs4] at hx hy ⊢
      have h1 := hx.2 mx mx9 rfl
      have h2 := hy.2 my my9 rfl
      subst h1; subst h2
      have hp : 0 < kindOf (kindL w'.kind) := by rw [kindOf_L hk]; rcases hk with h | h | h <;> omega
      have ht : takeOf [116, 97, 107, 101] = 1 := by decide
      simp [wayFB, hp, ht]
    · rw [h2] at hs
      have hs4 : splitL 32 l = [kindL w'.kind, Lib.decDigits mx, Lib.decDigits my, [113, 117, 105, 101, 116]] := by
        rw [hs, show takeL 2 = 32 :: [113, 117, 105, 101, 116] from rfl, splitL_app n2]
        rfl
      rw [hs4] at hx hy ⊢
      have h1 := hx.2 mx mx9 rfl
      have h2 := hy.2 my my9 rfl
      subst h1; subst h2
      have hp : 0 < kindOf (kindL w'.kind) := by rw [kindOf_L hk]; rcases hk with h | h | h <;> omega
      have ht : takeOf [113, 117, 105, 101, 116] = 2 := by decide
      simp [wayFB, hp, ht]
end Go.Proofs.YtcdfeaodfmfdnaaGreatDoor
namespace Go.Proofs.YtcdfeaodfmfdnaaGreatDoor

/-- row y of cells -/
def rowL (cells : List UInt8) (w y : Nat) : List UInt8 := (cells.drop (y * w)).take w
/-- the first k rows, the top one first -/
def topL (cells : List UInt8) (w h k : Nat) : List (List UInt8) := (List.range k).map fun i => rowL cells w (h - 1 - i)
theorem topL_zero (cells : List UInt8) (w h : Nat) : topL cells w h 0 = [] := rfl
theorem topL_succ (cells : List UInt8) (w h k : Nat) : topL cells w h (k + 1) = topL cells w h k ++ [rowL cells w (h - 1 - k)] := by
  simp [topL, List.range_succ]
theorem topL_len (cells : List UInt8) (w h k : Nat) : (topL cells w h k).length = k := by simp [topL]
theorem joinL_snoc {c : UInt8} : ∀ {l : List (List UInt8)} {a : List UInt8}, l ≠ [] → joinL c (l ++ [a]) = joinL c l ++ c :: a
  | [], _, h => absurd rfl h
  | [b], a, _ => rfl
  | b :: d :: l, a, _ => by
    have h1 : (d :: l : List (List UInt8)) ≠ [] := by simp
    have h2 : (d :: l) ++ [a] ≠ [] := by simp
    rw [List.cons_append, joinL_cons h2, joinL_cons h1, joinL_snoc h1]
    simp
def joinK (cells : List UInt8) (w h k : Nat) : List UInt8 := joinL 47 (topL cells w h k)
theorem joinK_one (cells : List UInt8) (w h : Nat) : joinK cells w h 1 = rowL cells w (h - 1) := by
  simp [joinK, topL, joinL, List.range_succ]
theorem joinK_succ (cells : List UInt8) (w h k : Nat) (hk : 0 < k) : joinK cells w h (k + 1) = joinK cells w h k ++ 47 :: rowL cells w (h - 1 - k) := by
  unfold joinK
  rw [topL_succ, joinL_snoc]
  intro e
  have := topL_len cells w h k
  rw [e] at this
  simp at this
  omega
/-- the text of a position -/
def textL (p : Pos) : List UInt8 := joinK p.cells.data.toList p.w.toNat p.h.toNat p.h.toNat ++ ((if p.turn = 0 then [32, 119, 32] else [32, 98, 32]) ++ (dashL p.h0.data.toList ++ 47 :: dashL p.h1.data.toList))
theorem rowL_len {cells : List UInt8} {w h y : Nat} (hl : cells.length = w * h) (hy : y < h) : (rowL cells w y).length = w := by
  unfold rowL
  rw [List.length_take, List.length_drop, hl]
  have := Nat.mul_le_mul_left w (show y + 1 ≤ h by omega)
  rw [Nat.mul_add, Nat.mul_one, Nat.mul_comm w y] at this
  omega
theorem joinL_len {c : UInt8} {w : Nat} : ∀ {l : List (List UInt8)}, (∀ a ∈ l, a.length = w) → l ≠ [] → (joinL c l).length + 1 = l.length * (w + 1)
  | [], _, h => absurd rfl h
  | [a], h, _ => by simp [joinL, h a]
  | a :: b :: l, h, _ => by
    rw [joinL_cons (by simp)]
    have ih := joinL_len (c := c) (l := b :: l) (fun x hx => h x (List.mem_cons_of_mem _ hx)) (by simp)
    simp only [List.length_append, List.length_cons] at ih ⊢
    rw [h a List.mem_cons_self, Nat.add_mul, Nat.one_mul, ← ih]
    omega
theorem joinK_len {cells : List UInt8} {w h k : Nat} (hl : cells.length = w * h) (hk : k ≤ h) (h8 : h ≤ 8) (w8 : w ≤ 8) : (joinK cells w h k).length ≤ 72 := by
  by_cases e : k = 0
  · subst e; simp [joinK, topL, joinL]
  · have := joinL_len (c := 47) (w := w) (l := topL cells w h k) (fun a ha => by
      obtain ⟨i, hi, rfl⟩ := List.mem_map.1 ha
      exact rowL_len hl (by have := List.mem_range.1 hi; omega)) (fun e2 => by
      have := topL_len cells w h k
      rw [e2] at this
      simp at this
      omega)
    rw [topL_len] at this
    unfold joinK
    have h1 := Nat.mul_le_mul (show k ≤ 8 by omega) (show w + 1 ≤ 9 by omega)
    omega
end Go.Proofs.YtcdfeaodfmfdnaaGreatDoor
namespace Go.Proofs.YtcdfeaodfmfdnaaGreatDoor
open Go.RowKit

theorem joinL_le {c : UInt8} {m : Nat} : ∀ {xs : List (List UInt8)}, (∀ a ∈ xs, a.length ≤ m) → (joinL c xs).length ≤ xs.length * (m + 1)
  | [], _ => by simp [joinL]
  | [b], h => by have := h b (by simp); simp [joinL]; omega
  | b :: d :: l, h => by
    have ih := joinL_le (c := c) (xs := d :: l) (fun a ha => h a (List.mem_cons_of_mem _ ha))
    have hb := h b List.mem_cons_self
    rw [joinL_cons (by simp)]
    simp only [List.length_append, List.length_cons] at ih ⊢
    rw [Nat.add_mul, Nat.one_mul]
    omega
theorem rowsJ {rs : List (List UInt8)} (h8 : rs.length ≤ 8) (hw : ∀ a ∈ rs, a.length ≤ 8) : (joinL 47 rs).length ≤ 72 := by
  have := joinL_le (c := 47) hw
  omega
theorem RowsOkL.le8 {rs : List (List UInt8)} (h : RowsOkL rs) : ∀ a ∈ rs, a.length ≤ 8 := fun a ha => by rw [h.wd a ha]; exact h.w8
theorem dash_le {l : List UInt8} (h : HandOk l) : (dashL l).length ≤ 8 := by
  unfold dashL
  split
  · simp
  · exact h.1
theorem two_le {a b : List UInt8} (ha : a.length ≤ 8) (hb : b.length ≤ 8) : (joinL 47 [a, b]).length ≤ 18 := by
  simp [joinL]; omega
theorem colL_len (t : Bool) : (colL t).length = 1 := by cases t <;> rfl
theorem parts_le {st : BSt} (h : WfB st) : ∀ a ∈ partsB st, a.length ≤ 100 := by
  intro a ha
  cases st with
  | rows rs cur =>
    simp only [partsB, List.mem_singleton] at ha
    subst ha
    have := rowsJ (rs := rs ++ [cur]) (by have := h.2.1; simp; omega) (fun a ha => by
      rcases List.mem_append.1 ha with h1 | h1
      · exact h.1.le8 a h1
      · rw [List.mem_singleton.1 h1]; exact h.2.2.2.1)
    omega
  | turn rs =>
    have := rowsJ h.1.len h.1.le8
    simp only [partsB, List.mem_cons, List.not_mem_nil, or_false] at ha
    rcases ha with rfl | rfl
    · omega
    · simp
  | turned rs t =>
    have := rowsJ h.1.len h.1.le8
    simp only [partsB, List.mem_cons, List.not_mem_nil, or_false] at ha
    rcases ha with rfl | rfl
    · omega
    · rw [colL_len]; omega
  | hand0 rs t hh =>
    have := rowsJ h.1.1.len h.1.1.le8
    have h8 := h.2.1
    simp only [partsB, List.mem_cons, List.not_mem_nil, or_false] at ha
    rcases ha with rfl | rfl | rfl
    · omega
    · rw [colL_len]; omega
    · omega
  | dash0 rs t =>
    have := rowsJ h.1.len h.1.le8
    simp only [partsB, List.mem_cons, List.not_mem_nil, or_false] at ha
    rcases ha with rfl | rfl | rfl
    · omega
    · rw [colL_len]; omega
    · simp
  | hand1 rs t h0 hh =>
    have := rowsJ h.1.1.len h.1.1.le8
    have h2 := two_le (dash_le h.2.1) h.2.2.1
    simp only [partsB, List.mem_cons, List.not_mem_nil, or_false] at ha
    rcases ha with rfl | rfl | rfl
    · omega
    · rw [colL_len]; omega
    · omega
  | dash1 rs t h0 =>
    have := rowsJ h.1.1.len h.1.1.le8
    have h2 := two_le (a := dashL h0) (b := [45]) (dash_le h.2) (by simp)
    simp only [partsB, List.mem_cons, List.not_mem_nil, or_false] at ha
    rcases ha with rfl | rfl | rfl
    · omega
    · rw [colL_len]; omega
    · omega
theorem parts_len (st : BSt) : (partsB st).length ≤ 3 := by cases st <;> simp [partsB]
theorem run_len {l : List UInt8} {st : BSt} (h : runB l = some st) : l.length ≤ 400 := by
  obtain ⟨hw, hp⟩ := run_wf l st h
  have h1 := joinL_le (c := 32) (parts_le hw)
  rw [← hp, join_split] at h1
  have h2 := parts_len st
  rw [← hp] at h2
  omega
theorem may_take {l : List UInt8} {i : Nat} {st : BSt} {c : UInt8} (h : runB (l.take i) = some st) (hc : l[i]? = some c) : MayP (splitL 32 (l.take (i + 1))) ↔ (stepB st c).isSome = true := by
  obtain ⟨hi, e⟩ := List.getElem?_eq_some_iff.1 hc
  rw [List.take_succ_eq_append_getElem hi, e]
  exact may_run h c
theorem may_whole {l : List UInt8} {st : BSt} (h : runB l = some st) (ha : accB st = true) : MayP (splitL 32 l) := by
  cases l using snoc_ind with
  | h0 => simp [runB] at h; subst h; simp [accB] at ha
  | h1 l c _ =>
    rw [runB_snoc] at h
    obtain ⟨s0, h0, h1⟩ := Option.bind_eq_some_iff.1 h
    exact (may_run h0 c).2 (by rw [h1]; rfl)
theorem bytes_cat (a b : List UInt8) : bytes a ++ bytes b = bytes (a ++ b) := by
  apply bytes_eq
  show (bytes a ++ bytes b).data.toList = a ++ b
  simp [bytes]
/-- the rows from the last one on, k of them -/
def catR (R : List (List UInt8)) (k : Nat) : List UInt8 := (R.reverse.take k).flatten
theorem catR_zero (R : List (List UInt8)) : catR R 0 = [] := rfl
theorem catR_succ {R : List (List UInt8)} {k : Nat} (hk : k < R.length) : catR R (k + 1) = catR R k ++ R.getD (R.length - 1 - k) [] := by
  unfold catR
  rw [List.take_succ_eq_append_getElem (by simpa using hk), List.flatten_append, List.getElem_reverse, List.getD, List.getElem?_eq_getElem (by omega)]
  simp
theorem catR_all (R : List (List UInt8)) : catR R R.length = R.reverse.flatten := by
  unfold catR
  rw [List.take_of_length_le (by simp)]
theorem flat_le {m : Nat} : ∀ {xs : List (List UInt8)}, (∀ a ∈ xs, a.length ≤ m) → xs.flatten.length ≤ xs.length * m
  | [], _ => by simp
  | a :: l, h => by
    have ih := flat_le (xs := l) (fun x hx => h x (List.mem_cons_of_mem _ hx))
    have := h a List.mem_cons_self
    simp only [List.flatten_cons, List.length_append, List.length_cons, Nat.add_mul, Nat.one_mul]
    omega
theorem catR_len {R : List (List UInt8)} {k : Nat} (h8 : R.length ≤ 8) (h : ∀ a ∈ R, a.length ≤ 400) : (catR R k).length ≤ 3200 := by
  have h1 := flat_le (xs := R.reverse.take k) (m := 400) (fun a ha => h a (by simpa using List.mem_of_mem_take ha))
  have h2 : (R.reverse.take k).length ≤ 8 := by simp; omega
  unfold catR
  omega
/-- what stays while Parsed reads -/
structure PW (W w : World) : Prop where
  o : Only (fun _ => False) W w
  m : MaxAt w
  z : Blk w W.heap.size 24 #[.int .i64 0, .int .i64 0, .string ⟨#[]⟩, .int .i64 0, .string ⟨#[]⟩, .string ⟨#[]⟩]
  f : Blk w (W.heap.size + 1) 32 #[.int .i64 0, .int .i64 0]
  sz : W.heap.size + 2 ≤ w.heap.size
  m0 : 2 < W.heap.size
theorem MaxAt.only' {S : Nat → Prop} {w w' : World} (h : MaxAt w) (ho : Only S w w') (h2 : ¬ S 2) : MaxAt w' := by
  have hl := h.lt
  obtain ⟨m, h⟩ := h
  have h1 := ho.block 2 hl h2
  refine ⟨m, ?_⟩
  rw [← h]
  simp only [World.cell?, h1]
theorem PW.step {S : Nat → Prop} {W w w' : World} (h : PW W w) (ho : Only S w w') (hS : ∀ x, S x → W.heap.size + 2 ≤ x) : PW W w' :=
  ⟨h.o.trans' ho (fun i hi hs => by have := hS i hs; omega), h.m.only' ho (fun hs => by have := hS 2 hs; have := h.m0; omega), h.z.only ho (fun hs => by have := hS _ hs; omega), h.f.only ho (fun hs => by have := hS _ hs; omega), Nat.le_trans h.sz ho.size, h.m0⟩
theorem PW.no {W w w' : World} (h : PW W w) (ho : Only (fun _ => False) w w') : PW W w' := h.step ho (fun _ h => h.elim)
end Go.Proofs.YtcdfeaodfmfdnaaGreatDoor
