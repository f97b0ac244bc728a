/- A way of a piece as a text, plainly. -/
import Derived.Test.YtcdfeaodfmfdnaaDoorRxNum
import Derived.Test.YtcdfeaodfmfdnaaDoorRulesPlain
namespace Go.Proofs.YtcdfeaodfmfdnaaDoor

def kindL (k : Int) : List UInt8 := if k = 1 then [108, 101, 97, 112] else if k = 2 then [115, 108, 105, 100, 101] else if k = 3 then [115, 116, 101, 112] else []
def takeL (k : Int) : List UInt8 := if k = 1 then [32, 116, 97, 107, 101] else if k = 2 then [32, 113, 117, 105, 101, 116] else []
def kindOf (a : List UInt8) : Int := if a = kindL 1 then 1 else if a = kindL 2 then 2 else if a = kindL 3 then 3 else 0
def takeOf (a : List UInt8) : Int := if 32 :: a = takeL 1 then 1 else if 32 :: a = takeL 2 then 2 else 0
/-- ways that the texts can say -/
def WayIn (w : WayD) : Prop := (w.kind = 1 ∨ w.kind = 2 ∨ w.kind = 3) ∧ (w.take = 0 ∨ w.take = 1 ∨ w.take = 2) ∧ (∃ m : Nat, w.x = m ∧ m ≤ 9999) ∧ ∃ m : Nat, w.y = m ∧ m ≤ 9999
def wayL (w : WayD) : List UInt8 := kindL w.kind ++ 32 :: (Lib.decDigits w.x.toNat ++ 32 :: (Lib.decDigits w.y.toNat ++ takeL w.take))
theorem dec_digit {m : Nat} : ∀ c ∈ Lib.decDigits m, 48 ≤ c.toNat ∧ c.toNat ≤ 57 := by
  have key : ∀ d : Fin 10, 48 ≤ (UInt8.ofNat (48 + d.val)).toNat ∧ (UInt8.ofNat (48 + d.val)).toNat ≤ 57 := by decide
  induction m using Nat.strongRecOn with
  | _ m ih =>
    intro c hc
    by_cases h : m < 10
    · rw [Lib.decDigits_one h] at hc
      rw [List.mem_singleton.1 hc]
      exact key ⟨m, h⟩
    · rw [Lib.decDigits, dif_neg h] at hc
      rcases List.mem_append.1 hc with h1 | h1
      · exact ih (m / 10) (by omega) c h1
      · rw [List.mem_singleton.1 h1]
        exact key ⟨m % 10, by omega⟩
theorem dec_no {m : Nat} {c : UInt8} (h : c.toNat < 48 ∨ 57 < c.toNat) : c ∉ Lib.decDigits m := fun hm => by
  have := dec_digit c hm
  omega
theorem kind_no (k : Int) : (32 : UInt8) ∉ kindL k := by unfold kindL; repeat (split <;> try decide)
theorem kindOf_L {k : Int} (h : k = 1 ∨ k = 2 ∨ k = 3) : kindOf (kindL k) = k := by rcases h with rfl | rfl | rfl <;> decide
theorem kindOf_pos {a : List UInt8} (h : 0 < kindOf a) : a = kindL (kindOf a) ∧ (kindOf a = 1 ∨ kindOf a = 2 ∨ kindOf a = 3) := by
  unfold kindOf at h ⊢
  split
  · rename_i e; exact ⟨e, .inl rfl⟩
  · split
    · rename_i e; exact ⟨e, .inr (.inl rfl)⟩
    · split
      · rename_i e; exact ⟨e, .inr (.inr rfl)⟩
      · rename_i e1 e2 e3; simp [e1, e2, e3] at h
theorem takeOf_pos {a : List UInt8} (h : 0 < takeOf a) : 32 :: a = takeL (takeOf a) ∧ (takeOf a = 1 ∨ takeOf a = 2) := by
  unfold takeOf at h ⊢
  split
  · rename_i e; exact ⟨e, .inl rfl⟩
  · split
    · rename_i e; exact ⟨e, .inr rfl⟩
    · rename_i e1 e2; simp [e1, e2] at h
/-- what the reader of a way finds -/
def wayOf (P : List (List UInt8)) (x y : Int) : WayD := ⟨kindOf (P.getD 0 []), x, y, if P.length = 4 then takeOf (P.getD 3 []) else 0⟩
def wayFB (P : List (List UInt8)) (okx oky : Bool) : Bool := (decide (P.length = 3) || decide (P.length = 4)) && (decide (0 < kindOf (P.getD 0 [])) && ((decide (P.length = 3) || decide (0 < takeOf (P.getD 3 []))) && (okx && oky)))
/-- what it says of the text -/
def WayP (l : List UInt8) (w : WayD) (ok : Bool) : Prop := (ok = true → WayIn w ∧ l = wayL w) ∧ ∀ w', WayIn w' → l = wayL w' → ok = true
theorem list3 {α : Type} {P : List α} (h : P.length = 3) : ∃ a b c, P = [a, b, c] := by
  match P, h with
  | [a, b, c], _ => exact ⟨a, b, c, rfl⟩
theorem list4 {α : Type} {P : List α} (h : P.length = 4) : ∃ a b c d, P = [a, b, c, d] := by
  match P, h with
  | [a, b, c, d], _ => exact ⟨a, b, c, d, rfl⟩
theorem way_says {l : List UInt8} {x y : Int} {okx oky : Bool} (hx : NumP ((splitL 32 l).getD 1 []) x okx) (hy : NumP ((splitL 32 l).getD 2 []) y oky) : WayP l (wayOf (splitL 32 l) x y) (wayFB (splitL 32 l) okx oky) := by
  have hj := join_split 32 l
  refine ⟨fun ht => ?_, fun w' hw hl => ?_⟩
  · unfold wayFB at ht
    simp only [Bool.and_eq_true, Bool.or_eq_true, decide_eq_true_eq] at ht
    obtain ⟨h34, hk, ht, rfl, rfl⟩ := ht
    obtain ⟨mx, rfl, mx9, ex⟩ := hx.1 rfl
    obtain ⟨my, rfl, my9, ey⟩ := hy.1 rfl
    obtain ⟨ek, hk3⟩ := kindOf_pos hk
    rcases h34 with h3 | h4
    · obtain ⟨a, b, c, hP⟩ := list3 h3
      rw [hP] at hj ex ey ek hk3 ⊢
      simp only [List.getD_cons_zero, List.getD_cons_succ] at ex ey ek hk3
      refine ⟨⟨hk3, .inl (by simp [wayOf]), ⟨mx, rfl, mx9⟩, ⟨my, rfl, my9⟩⟩, ?_⟩
      rw [← hj]
      simp only [wayL, wayOf, List.getD_cons_zero, ← ek, Int.toNat_natCast, ← ex, ← ey]
      simp [joinL, takeL]
    · obtain ⟨a, b, c, d, hP⟩ := list4 h4
      rw [hP] at hj ex ey ek hk3 ht ⊢
      simp only [List.getD_cons_zero, List.getD_cons_succ] at ex ey ek hk3 ht
      have ht' : 0 < takeOf d := by
        rcases ht with h | h
        · simp at h
        · exact h
      obtain ⟨et, ht3⟩ := takeOf_pos ht'
      refine ⟨⟨hk3, by simp only [wayOf]; right; simpa using ht3, ⟨mx, rfl, mx9⟩, ⟨my, rfl, my9⟩⟩, ?_⟩
      rw [← hj]
      have e4 : (if ([a, b, c, d] : List (List UInt8)).length = 4 then takeOf ([a, b, c, d].getD 3 []) else 0) = takeOf d := rfl
      simp only [wayL, wayOf, List.getD_cons_zero, ← ek, Int.toNat_natCast, ← ex, ← ey, e4, ← et]
      simp [joinL]
  · obtain ⟨hk, ht, ⟨mx, ex, mx9⟩, my, ey, my9⟩ := hw
    have n1 : (32 : UInt8) ∉ Lib.decDigits mx := dec_no (by decide)
    have n2 : (32 : UInt8) ∉ Lib.decDigits my := dec_no (by decide)
    have hl' : l = kindL w'.kind ++ 32 :: (Lib.decDigits mx ++ 32 :: (Lib.decDigits my ++ takeL w'.take)) := by rw [hl, wayL, ex, ey]; simp
    have hs : splitL 32 l = kindL w'.kind :: Lib.decDigits mx :: splitL 32 (Lib.decDigits my ++ takeL w'.take) := by
      rw [hl', splitL_app (kind_no _), splitL_app n1]
    rcases ht with h0 | h1 | h2
    · rw [h0] at hs
      have hs3 : splitL 32 l = [kindL w'.kind, Lib.decDigits mx, Lib.decDigits my] := by rw [hs, show takeL 0 = [] from rfl, List.append_nil, splitL_none n2]
      rw [hs3] at hx hy ⊢
      have h1 := hx.2 mx mx9 rfl
      have h2 := hy.2 my my9 rfl
      subst h1; subst h2
      have hp : 0 < kindOf (kindL w'.kind) := by rw [kindOf_L hk]; rcases hk with h | h | h <;> omega
      simp [wayFB, hp]
    · rw [h1] at hs
      have hs4 : splitL 32 l = [kindL w'.kind, Lib.decDigits mx, Lib.decDigits my, [116, 97, 107, 101]] := by
        rw [hs, show takeL 1 = 32 :: [116, 97, 107, 101] from rfl, splitL_app n2]
        rfl
      rw [hs4] at hx hy ⊢
      have h1 := hx.2 mx mx9 rfl
      have h2 := hy.2 my my9 rfl
      subst h1; subst h2
      have hp : 0 < kindOf (kindL w'.kind) := by rw [kindOf_L hk]; rcases hk with h | h | h <;> omega
      have ht : takeOf [116, 97, 107, 101] = 1 := by decide
      simp [wayFB, hp, ht]
    · rw [h2] at hs
      have hs4 : splitL 32 l = [kindL w'.kind, Lib.decDigits mx, Lib.decDigits my, [113, 117, 105, 101, 116]] := by
        rw [hs, show takeL 2 = 32 :: [113, 117, 105, 101, 116] from rfl, splitL_app n2]
        rfl
      rw [hs4] at hx hy ⊢
      have h1 := hx.2 mx mx9 rfl
      have h2 := hy.2 my my9 rfl
      subst h1; subst h2
      have hp : 0 < kindOf (kindL w'.kind) := by rw [kindOf_L hk]; rcases hk with h | h | h <;> omega
      have ht : takeOf [113, 117, 105, 101, 116] = 2 := by decide
      simp [wayFB, hp, ht]
end Go.Proofs.YtcdfeaodfmfdnaaDoor
