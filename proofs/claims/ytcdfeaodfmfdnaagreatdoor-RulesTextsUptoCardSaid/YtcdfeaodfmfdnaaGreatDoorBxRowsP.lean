/- Rows of a position's text: the plain steps. -/
import Derived.Test.YtcdfeaodfmfdnaaGreatDoorBxHand
namespace Go.Proofs.YtcdfeaodfmfdnaaGreatDoor

def segL (l : List UInt8) (f k : Nat) : List UInt8 := (l.drop f).take (k - f)
theorem segL_len {l : List UInt8} {f k : Nat} (hf : f ≤ k) (hk : k ≤ l.length) : (segL l f k).length = k - f := by simp [segL]; omega
theorem segL_nil (l : List UInt8) (f : Nat) : segL l f f = [] := by simp [segL]
theorem segL_succ {l : List UInt8} {f k : Nat} {c : UInt8} (hf : f ≤ k) (hc : l[k]? = some c) : segL l f (k + 1) = segL l f k ++ [c] := by
  obtain ⟨hk, e⟩ := List.getElem?_eq_some_iff.1 hc
  unfold segL
  have h1 : k - f < (l.drop f).length := by simp; omega
  rw [show k + 1 - f = k - f + 1 by omega, List.take_succ_eq_append_getElem h1]
  congr 2
  rw [List.getElem_drop]
  simp only [show f + (k - f) = k by omega, e]
/-- may a row that began at f go on at k? -/
def goR (l : List UInt8) (rs : List (List UInt8)) (f k : Nat) : Bool := match l[k]? with
  | none => false
  | some c => rowGo rs (segL l f k) c
theorem goR_end {l : List UInt8} {rs : List (List UInt8)} {f k : Nat} (h : l.length ≤ k) : goR l rs f k = false := by
  unfold goR
  rw [List.getElem?_eq_none h]
theorem goR_in {s : ByteArray} {rs : List (List UInt8)} {f k : Nat} (hk : k < s.size) (hf : f ≤ k) : goR s.data.toList rs f k = (cellB s[k].toNat && decide (k - f < 8) && (rs.isEmpty || decide (k - f < wid rs))) := by
  unfold goR
  rw [byteAt hk]
  simp only [rowGo]
  rw [segL_len hf (by simp; omega)]
theorem run_go {l : List UInt8} {rs : List (List UInt8)} {f k : Nat} (hf : f ≤ k) (hr : runB (l.take k) = some (.rows rs (segL l f k))) (hg : goR l rs f k = true) : runB (l.take (k + 1)) = some (.rows rs (segL l f (k + 1))) := by
  unfold goR at hg
  cases hc : l[k]? with
  | none => rw [hc] at hg; cases hg
  | some c =>
    rw [hc] at hg
    simp only at hg
    rw [run_take_succ hc, hr, segL_succ hf hc]
    simp [stepB, hg]
theorem run_stop {l : List UInt8} {rs : List (List UInt8)} {f k : Nat} (hk : k ≤ l.length) (hr : runB (l.take k) = some (.rows rs (segL l f k))) (hg : goR l rs f k = false)
    (hs : ∀ c, l[k]? = some c → ¬ (rowEnd rs (segL l f k) = true ∧ ((c = 47 ∧ rs.length + 1 < 8) ∨ c = 32))) : FailB l k := by
  refine ⟨_, hk, hr, ?_⟩
  cases hc : l[k]? with
  | none => exact .inl ⟨by have := List.getElem?_eq_none_iff.1 hc; omega, rfl⟩
  | some c =>
    refine .inr ⟨c, rfl, ?_⟩
    unfold goR at hg
    rw [hc] at hg
    simp only at hg
    have h2 := hs c hc
    simp only [stepB, hg, Bool.false_eq_true, if_false]
    cases he : rowEnd rs (segL l f k) with
    | false => simp
    | true =>
      simp only [he, true_and, not_or, not_and] at h2
      rw [if_neg (by simp; exact fun e => by have := h2.1 e; omega), if_neg (by simpa using h2.2)]
theorem run_slash {l : List UInt8} {rs : List (List UInt8)} {f k : Nat} {c : UInt8} (hr : runB (l.take k) = some (.rows rs (segL l f k))) (hc : l[k]? = some c) (e : c = 47) (h8 : rs.length + 1 < 8) (he : rowEnd rs (segL l f k) = true) :
    runB (l.take (k + 1)) = some (.rows (rs ++ [segL l f k]) []) := by
  subst e
  have hg : rowGo rs (segL l f k) 47 = false := by
    unfold rowGo
    rw [show cellB (47 : UInt8).toNat = false by decide]
    rfl
  rw [run_take_succ hc, hr]
  simp [stepB, hg, he, h8]
theorem run_blank {l : List UInt8} {rs : List (List UInt8)} {f k : Nat} {c : UInt8} (hr : runB (l.take k) = some (.rows rs (segL l f k))) (hc : l[k]? = some c) (e : c = 32) (he : rowEnd rs (segL l f k) = true) :
    runB (l.take (k + 1)) = some (.turn (rs ++ [segL l f k])) := by
  subst e
  have hg : rowGo rs (segL l f k) 32 = false := by
    unfold rowGo
    rw [show cellB (32 : UInt8).toNat = false by decide]
    rfl
  rw [run_take_succ hc, hr]
  simp [stepB, hg, he]
theorem map_nat {l : List UInt8} {k n : Nat} (h : l[k]?.map (·.toNat) = some n) : ∃ c, l[k]? = some c ∧ c.toNat = n := by
  obtain ⟨c, h1, h2⟩ := Option.map_eq_some_iff.1 h
  exact ⟨c, h1, h2⟩
theorem u8_eq {c : UInt8} {n : Nat} (d : UInt8) (hd : d.toNat = n) (h : c.toNat = n) : c = d := UInt8.toNat_inj.1 (by rw [h, hd])
end Go.Proofs.YtcdfeaodfmfdnaaGreatDoor
