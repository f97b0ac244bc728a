/- rules.number: what it says of a text; what the library's own variables hold. -/
import Derived.Test.YtcdfeaodfmfdnaaDoorBxSplit
import Derived.Test.YtcdfeaodfmfdnaaDoorRxShelf
import Derived.Lib.SmallJoins
import Derived.Lib.AppendIntMem
namespace Go.Proofs.YtcdfeaodfmfdnaaDoor
open Go.RowKit

theorem b_of_only {W w : World} (h : Only (fun _ => False) W w) : Below W.heap.size W w := ⟨h.os, h.tape, h.output, h.size, fun i hi => h.block i hi (fun h => h)⟩
theorem only_of_b {W w : World} (h : Below W.heap.size W w) : Only (fun _ => False) W w := ⟨h.os, h.tape, h.output, h.size, fun i hi _ => h.block i hi⟩
theorem digit_of {d : Nat} (h : d < 10) : Lib.digitVal (UInt8.ofNat (48 + d)) = some d := by
  have : ∀ d : Fin 10, Lib.digitVal (UInt8.ofNat (48 + d.val)) = some d.val := by decide
  exact this ⟨d, h⟩
theorem decFrom_snoc {l : List UInt8} {a m d : Nat} {c : UInt8} (h : Lib.decFrom a l = some m) (hc : Lib.digitVal c = some d) : Lib.decFrom a (l ++ [c]) = some (m * 10 + d) := by
  have h2 := Lib.decFrom_take (l ++ [c]) l.length a m c d (by simpa using h) (by simp) hc
  rwa [List.take_of_length_le (by simp)] at h2
theorem decFrom_dec : ∀ (m : Nat), Lib.decFrom 0 (Lib.decDigits m) = some m := by
  intro m
  induction m using Nat.strongRecOn with
  | _ m ih =>
    by_cases h : m < 10
    · rw [Lib.decDigits_one h]
      rw [Lib.decFrom, digit_of h]
      simp [Lib.decFrom]
    · rw [Lib.decDigits, dif_neg h, decFrom_snoc (ih (m / 10) (by omega)) (digit_of (by omega))]
      congr 1
      omega
theorem dec_cons (m : Nat) : ∃ d r, d < 10 ∧ Lib.decDigits m = UInt8.ofNat (48 + d) :: r := by
  induction m using Nat.strongRecOn with
  | _ m ih =>
    by_cases h : m < 10
    · exact ⟨m, [], h, Lib.decDigits_one h⟩
    · obtain ⟨d, r, h1, h2⟩ := ih (m / 10) (by omega)
      exact ⟨d, r ++ [UInt8.ofNat (48 + m % 10)], h1, by rw [Lib.decDigits, dif_neg h, h2]; rfl⟩
theorem not_sign {d : Nat} (h : d < 10) : (UInt8.ofNat (48 + d) == 45) = false ∧ (UInt8.ofNat (48 + d) == 43) = false := by
  have : ∀ d : Fin 10, (UInt8.ofNat (48 + d.val) == 45) = false ∧ (UInt8.ofNat (48 + d.val) == 43) = false := by decide
  exact this ⟨d, h⟩
theorem atoi_dec (m : Nat) : Lib.atoi (Lib.decDigits m) = some (m : Int) := by
  have hd := decFrom_dec m
  obtain ⟨d, r, h1, h2⟩ := dec_cons m
  rw [h2] at hd ⊢
  obtain ⟨n1, n2⟩ := not_sign h1
  simp only [Lib.atoi, n1, n2, Bool.false_eq_true, if_false, Lib.decNat, List.isEmpty_cons, hd, Option.map_some]
theorem dec_len {m : Nat} (h : m ≤ 9999) : (Lib.decDigits m).length ≤ 4 := by
  rw [Lib.decDigits]
  split
  · simp
  · rw [Lib.decDigits]
    split
    · simp
    · rw [Lib.decDigits]
      split
      · simp
      · rw [Lib.decDigits, dif_pos (by omega)]
        simp
theorem dec_small {m : Nat} (h : (Lib.decDigits m).length ≤ 4) : m ≤ 9999 := by
  have h1 := Lib.lt_pow_nDigits m
  rw [Lib.decDigits_length] at h
  have h2 : 10 ^ Lib.nDigits m ≤ 10 ^ 4 := Nat.pow_le_pow_right (by omega) h
  omega
/-- what number says of a text -/
def NumP (l : List UInt8) (n : Int) (ok : Bool) : Prop := (ok = true → ∃ m : Nat, n = m ∧ m ≤ 9999 ∧ l = Lib.decDigits m) ∧ ∀ m : Nat, m ≤ 9999 → l = Lib.decDigits m → ok = true
theorem num_none {l : List UInt8} {n : Int} (h : Lib.atoi l = none) : NumP l n false :=
  ⟨fun h => (by cases h), fun m _ hl => by rw [hl, atoi_dec] at h; cases h⟩
theorem num_long {l : List UInt8} {n : Int} (h : ¬ l.length ≤ 4) : NumP l n false :=
  ⟨fun h => (by cases h), fun m hm hl => absurd (by rw [hl]; exact dec_len hm) h⟩
theorem num_some {l : List UInt8} {n : Int} (h : Lib.atoi l = some n) (h4 : l.length ≤ 4) : NumP l n ((Lib.itoa n == l) && decide (0 ≤ n)) := by
  refine ⟨fun ht => ?_, fun m hm hl => ?_⟩
  · rw [Bool.and_eq_true, beq_iff_eq, decide_eq_true_eq] at ht
    obtain ⟨h1, h2⟩ := ht
    obtain ⟨m, rfl⟩ : ∃ m : Nat, n = m := ⟨n.toNat, by omega⟩
    rw [Lib.itoa_nonneg] at h1
    exact ⟨m, rfl, dec_small (by rw [h1]; exact h4), h1.symm⟩
  · rw [hl, atoi_dec] at h
    cases h
    rw [Lib.itoa_nonneg, hl]
    simp
/-- what the library's own variables hold -/
structure Env (w : World) : Prop where
  m : MaxAt w
  es : ∃ ev, w.cell? ⟨4, 0, none⟩ = some ev ∧ (ev = .nilIface ∨ ∃ te pe, ev = .iface te pe)
  er : ∃ ev, w.cell? ⟨5, 0, none⟩ = some ev ∧ (ev = .nilIface ∨ ∃ te pe, ev = .iface te pe)
  tb : Lib.TabIs Tryd.prog w "internal/strconv.uint64pow10" .u64 Lib.pow10Tab
theorem cell_lt_ {w : World} {a : Addr} {v : Value} (h : w.cell? a = some v) : a.block < w.heap.size := by
  rcases Nat.lt_or_ge a.block w.heap.size with h' | h'
  · exact h'
  · simp [World.cell?, Array.getElem?_eq_none h'] at h
theorem cell_only {w w' : World} {a : Addr} {v : Value} (h : w.cell? a = some v) (ho : Only (fun _ => False) w w') : w'.cell? a = some v := by
  rw [← h]
  simp only [World.cell?, ho.block a.block (cell_lt_ h) (fun h => h)]
theorem Env.no {w w' : World} (h : Env w) (ho : Only (fun _ => False) w w') : Env w' := by
  obtain ⟨e1, h1, k1⟩ := h.es
  obtain ⟨e2, h2, k2⟩ := h.er
  exact ⟨h.m.only ho, ⟨e1, cell_only h1 ho, k1⟩, ⟨e2, cell_only h2 ho, k2⟩, Go.Joins.var_stays (g := 3) (by kernel_rfl) h.tb (b_of_only ho) (Nat.le_refl _)⟩
end Go.Proofs.YtcdfeaodfmfdnaaDoor
