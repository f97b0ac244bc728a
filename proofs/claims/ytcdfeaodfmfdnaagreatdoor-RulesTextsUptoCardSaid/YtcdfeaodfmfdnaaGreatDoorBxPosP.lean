/- The reader of a position's text: plain steps behind the rows. -/
import Derived.Test.YtcdfeaodfmfdnaaGreatDoorBxRev
namespace Go.Proofs.YtcdfeaodfmfdnaaGreatDoor

open Go.RowKit in
theorem is_lit (b : Nat) (s : ByteArray) (k c : Nat) (ci : Int) (hci : ci = (c : Int)) (w : World) (h : RdAt w b s k) (hs : s.size ≤ 9223372036854775806) :
    Calls Tryz.prog 155 #[.pointer (some ⟨b, 0, none⟩), .int .u8 ci] w (IsOut s k c b w) := by
  subst hci
  exact is_any b s k c w h hs
theorem fail_of {l : List UInt8} {k : Nat} {st : BSt} (hk : k ≤ l.length) (hr : runB (l.take k) = some st) (ha : accB st = false) (hs : ∀ c, l[k]? = some c → stepB st c = none) : FailB l k := by
  refine ⟨st, hk, hr, ?_⟩
  cases hc : l[k]? with
  | none => exact .inl ⟨by have := List.getElem?_eq_none_iff.1 hc; omega, ha⟩
  | some c => exact .inr ⟨c, rfl, hs c hc⟩
theorem run_yes {l : List UInt8} {k n : Nat} {st st' : BSt} (d : UInt8) (hr : runB (l.take k) = some st) (hc : l[k]?.map (·.toNat) = some n) (hd : d.toNat = n) (hs : stepB st d = some st') : runB (l.take (k + 1)) = some st' := by
  obtain ⟨c, h1, h2⟩ := map_nat hc
  have := u8_eq d hd h2
  subst this
  rw [run_take_succ h1, hr]
  exact hs
theorem nat_ne {l : List UInt8} {k n : Nat} {c d : UInt8} (h : l[k]?.map (·.toNat) ≠ some n) (hc : l[k]? = some c) (hd : d.toNat = n) : c ≠ d := fun e => h (by rw [hc, e]; simp [hd])
theorem in_len {s : ByteArray} {k n : Nat} (h : s.data.toList[k]?.map (·.toNat) = some n) : k + 1 ≤ s.size := by
  obtain ⟨c, h1, _⟩ := map_nat h
  have := (List.getElem?_eq_some_iff.1 h1).1
  have h : k < s.size := by simpa using this
  omega
theorem fail_turn {l : List UInt8} {k : Nat} {rs : List (List UInt8)} (hk : k ≤ l.length) (hr : runB (l.take k) = some (.turn rs)) (h1 : l[k]?.map (·.toNat) ≠ some 98) (h2 : l[k]?.map (·.toNat) ≠ some 119) : FailB l k :=
  fail_of hk hr rfl (fun c hc => by
    have e1 := nat_ne (d := 98) h1 hc rfl
    have e2 := nat_ne (d := 119) h2 hc rfl
    simp [stepB, e1, e2])
theorem fail_turned {l : List UInt8} {k : Nat} {rs : List (List UInt8)} {t : Bool} (hk : k ≤ l.length) (hr : runB (l.take k) = some (.turned rs t)) (h1 : l[k]?.map (·.toNat) ≠ some 32) : FailB l k :=
  fail_of hk hr rfl (fun c hc => by
    have e1 := nat_ne (d := 32) h1 hc rfl
    simp [stepB, e1])
theorem goH_seg {s : ByteArray} {f k : Nat} {c : UInt8} (hc : s.data.toList[k]? = some c) : goH s f k = handGo (segL s.data.toList f k) c := by
  unfold goH segL
  rw [hc]
/-- letters of a hand -/
theorem run_hand0 {s : ByteArray} {f : Nat} {rs : List (List UInt8)} {t : Bool} (hr : runB (s.data.toList.take f) = some (.hand0 rs t [])) (h45 : s.data.toList[f]?.map (·.toNat) ≠ some 45) :
    ∀ k, f ≤ k → k ≤ s.size → (∀ j, f ≤ j → j < k → goH s f j = true) → runB (s.data.toList.take k) = some (.hand0 rs t (segL s.data.toList f k)) := by
  intro k
  induction k with
  | zero =>
    intro h1 _ _
    obtain rfl : f = 0 := by omega
    rw [segL_nil]; exact hr
  | succ k ih =>
    intro h1 h2 h3
    by_cases e : f = k + 1
    · subst e; rw [segL_nil]; exact hr
    · have h4 := ih (by omega) (by omega) (fun j h5 h6 => h3 j h5 (by omega))
      have hc : s.data.toList[k]? = some (s[k]'(by omega)) := byteAt (by omega)
      have hg := h3 k (by omega) (by omega)
      rw [goH_seg hc] at hg
      rw [run_take_succ hc, h4, segL_succ (by omega) hc]
      have hn : ((segL s.data.toList f k).isEmpty && (s[k]'(by omega)) == 45) = false := by
        by_cases e2 : f = k
        · subst e2
          have := nat_ne (d := 45) h45 hc rfl
          simp [this]
        · have hl := segL_len (l := s.data.toList) (f := f) (k := k) (by omega) (by simp; omega)
          cases hs : segL s.data.toList f k with
          | nil => rw [hs] at hl; simp at hl; omega
          | cons a l => rfl
      simp only [Option.bind_some, stepB, hn, hg, Bool.false_eq_true, if_false, if_true]
theorem run_hand1 {s : ByteArray} {f : Nat} {rs : List (List UInt8)} {t : Bool} {h0 : List UInt8} (hr : runB (s.data.toList.take f) = some (.hand1 rs t h0 [])) (h45 : s.data.toList[f]?.map (·.toNat) ≠ some 45) :
    ∀ k, f ≤ k → k ≤ s.size → (∀ j, f ≤ j → j < k → goH s f j = true) → runB (s.data.toList.take k) = some (.hand1 rs t h0 (segL s.data.toList f k)) := by
  intro k
  induction k with
  | zero =>
    intro h1 _ _
    obtain rfl : f = 0 := by omega
    rw [segL_nil]; exact hr
  | succ k ih =>
    intro h1 h2 h3
    by_cases e : f = k + 1
    · subst e; rw [segL_nil]; exact hr
    · have h4 := ih (by omega) (by omega) (fun j h5 h6 => h3 j h5 (by omega))
      have hc : s.data.toList[k]? = some (s[k]'(by omega)) := byteAt (by omega)
      have hg := h3 k (by omega) (by omega)
      rw [goH_seg hc] at hg
      rw [run_take_succ hc, h4, segL_succ (by omega) hc]
      have hn : ((segL s.data.toList f k).isEmpty && (s[k]'(by omega)) == 45) = false := by
        by_cases e2 : f = k
        · subst e2
          have := nat_ne (d := 45) h45 hc rfl
          simp [this]
        · have hl := segL_len (l := s.data.toList) (f := f) (k := k) (by omega) (by simp; omega)
          cases hs : segL s.data.toList f k with
          | nil => rw [hs] at hl; simp at hl; omega
          | cons a l => rfl
      simp only [Option.bind_some, stepB, hn, hg, Bool.false_eq_true, if_false, if_true]
theorem seg_ne {l : List UInt8} {f k : Nat} (h1 : f < k) (h2 : k ≤ l.length) : segL l f k ≠ [] := fun e => by
  have := segL_len (l := l) (f := f) (k := k) (by omega) h2
  rw [e] at this
  simp at this
  omega
theorem fail_hand0 {s : ByteArray} {f k : Nat} {rs : List (List UInt8)} {t : Bool} (hf : f ≤ k) (hk : k ≤ s.size) (hr : runB (s.data.toList.take k) = some (.hand0 rs t (segL s.data.toList f k))) (h45 : s.data.toList[f]?.map (·.toNat) ≠ some 45) (hg : goH s f k = false) (h47 : f < k → s.data.toList[k]?.map (·.toNat) ≠ some 47) : FailB s.data.toList k :=
  fail_of (by simpa using hk) hr rfl (fun c hc => by
    rw [goH_seg hc] at hg
    by_cases e : f = k
    · subst e
      have := nat_ne (d := 45) h45 hc rfl
      rw [segL_nil] at hg ⊢
      simp [stepB, hg, this]
    · have hn := seg_ne (l := s.data.toList) (f := f) (k := k) (by omega) (by simpa using hk)
      have := nat_ne (d := 47) (h47 (by omega)) hc rfl
      simp [stepB, hg, this, hn])
theorem fail_dash0 {s : ByteArray} {k : Nat} {rs : List (List UInt8)} {t : Bool} (hk : k ≤ s.size) (hr : runB (s.data.toList.take k) = some (.dash0 rs t)) (h47 : s.data.toList[k]?.map (·.toNat) ≠ some 47) : FailB s.data.toList k :=
  fail_of (by simpa using hk) hr rfl (fun c hc => by
    have := nat_ne (d := 47) h47 hc rfl
    simp [stepB, this])
theorem fail_hand1 {s : ByteArray} {f k : Nat} {rs : List (List UInt8)} {t : Bool} {h0 : List UInt8} (hf : f ≤ k) (hk : k ≤ s.size) (hr : runB (s.data.toList.take k) = some (.hand1 rs t h0 (segL s.data.toList f k))) (h45 : s.data.toList[f]?.map (·.toNat) ≠ some 45) (hg : goH s f k = false) (he : f = k ∨ k < s.size) : FailB s.data.toList k := by
  refine ⟨_, by simpa using hk, hr, ?_⟩
  cases hc : s.data.toList[k]? with
  | none =>
    have h1 : s.size ≤ k := by have := List.getElem?_eq_none_iff.1 hc; simpa using this
    rcases he with rfl | he
    · exact .inl ⟨by simp; omega, by rw [segL_nil]; rfl⟩
    · omega
  | some c =>
    refine .inr ⟨c, rfl, ?_⟩
    rw [goH_seg hc] at hg
    by_cases e : f = k
    · subst e
      have := nat_ne (d := 45) h45 hc rfl
      rw [segL_nil] at hg ⊢
      simp [stepB, hg, this]
    · have hn := seg_ne (l := s.data.toList) (f := f) (k := k) (by omega) (by simpa using hk)
      simp [stepB, hg, hn]
theorem fail_dash1 {s : ByteArray} {k : Nat} {rs : List (List UInt8)} {t : Bool} {h0 : List UInt8} (hk : k < s.size) (hr : runB (s.data.toList.take k) = some (.dash1 rs t h0)) : FailB s.data.toList k :=
  ⟨_, by simp; omega, hr, .inr ⟨_, byteAt hk, rfl⟩⟩
theorem whole {s : ByteArray} {st : BSt} (hr : runB (s.data.toList.take s.size) = some st) : runB s.data.toList = some st := by
  rwa [List.take_of_length_le (by simp)] at hr
end Go.Proofs.YtcdfeaodfmfdnaaGreatDoor
