/- nim.each hands each way to take from a heap to a function, in order, till it says yes. -/
import Derived.Test.YtfoehijlafooaaaHeapPlain
import Derived.Test.YtfoehijlafooaaaNimValues
namespace Go.Proofs.Ytfoehijlafooaaa
open Go.RowKit

def natsI (l : List Nat) : List Int := l.map Int.ofNat
theorem natsI_len (l : List Nat) : (natsI l).length = l.length := by simp [natsI]

theorem and_digit (dg : Nat) (h : dg < 8) : bits .and .i64 (dg : Int) 1 = ((dg % 2 : Nat) : Int) ∧ bits .and .i64 (dg : Int) 2 = ((2 * (dg / 2 % 2) : Nat) : Int) ∧ bits .and .i64 (dg : Int) 4 = ((4 * (dg / 4) : Nat) : Int) := by
  match dg, h with
  | 0, _ => decide
  | 1, _ => decide
  | 2, _ => decide
  | 3, _ => decide
  | 4, _ => decide
  | 5, _ => decide
  | 6, _ => decide
  | 7, _ => decide

theorem optsC_split (dg r : Nat) : ∀ m M, m ≤ M → ∃ l', optsC dg r m ++ l' = optsC dg r M := by
  intro m M h
  by_cases c : dg / 4 = 1
  · induction M with
    | zero => have e : m = 0 := by omega
              subst e
              exact ⟨[], by simp⟩
    | succ M ih =>
      by_cases e : m = M + 1
      · subst e; exact ⟨[], by simp⟩
      · obtain ⟨l', hl⟩ := ih (by omega)
        exact ⟨l' ++ [[M + 1, r - (M + 1)]], by rw [optsC_succ c, ← List.append_assoc, hl]⟩
  · exact ⟨[], by simp [optsC, c]⟩

/-- a function that is called with each way in turn: Inv: it has said no to those; Fin: it has just said yes -/
structure Asks (fn : Nat) (caps : Array Value) (Ad : Option Addr) (d : List Nat) (h : Nat) (Inv : List (List Nat) → World → Prop) (Fin : List (List Nat) → List Nat → World → Prop) : Prop where
  call : ∀ dn ps W A c, dn ++ [ps] <+: opts d h → Inv dn W → ps.length ≤ c → Cells W W.heap.size A (ints (natsI ps)) →
    Calls Try.prog fn (#[.slice A ps.length c] ++ caps) W fun e w' => (e = .returned (.bool false) ∧ Inv (dn ++ [ps]) w') ∨ (e = .returned (.bool true) ∧ Fin dn ps w')
  alloc : ∀ dn W o, Inv dn W → Inv dn (W.alloc o)
  digs : ∀ dn W, Inv dn W → Cells W W.heap.size Ad (ints (natsI d))

theorem prefix_of {d : List Nat} {h n : Nat} (hn : n < min d.length h) {l l' : List (List Nat)} (he : l ++ l' = optsK (d.getD n 0) (h - (n + 1))) : optsTo d h n ++ l <+: opts d h := by
  have key : ∀ m, n + 1 ≤ m → optsTo d h (n + 1) <+: optsTo d h m := by
    intro m hm
    induction m with
    | zero => omega
    | succ m ih =>
      by_cases e : n = m
      · subst e; exact List.prefix_refl _
      · rw [optsTo_succ d h m]
        exact (ih (by omega)).trans (List.prefix_append _ _)
  refine List.IsPrefix.trans ?_ (key (min d.length h) hn)
  rw [optsTo_succ, ← he, ← List.append_assoc]
  exact List.prefix_append _ _

end Go.Proofs.Ytfoehijlafooaaa
