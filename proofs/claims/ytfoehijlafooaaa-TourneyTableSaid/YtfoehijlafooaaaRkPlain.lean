/- the document's ranking: put in one by one: the plain law -/
import Derived.Test.YtfoehijlafooaaaSumsPlain
namespace Go.Proofs.Ytfoehijlafooaaa
open Go.Shelf Go.Lib Go.Sort

def betR (x y : Res) : Bool := decide (x.b > y.b) || (x.b == y.b && decide (x.h > y.h))
def insK (x : Res) (L : List Res) : Nat → Nat
  | 0 => 0
  | k + 1 => if betR x (L[k]!) = true then insK x L k else k + 1
def putAt (x : Res) (L : List Res) (k : Nat) : List Res := L.take k ++ x :: L.drop k
def insL (x : Res) (L : List Res) : List Res := putAt x L (insK x L L.length)
def rowX (rs : List Res) (p : Nat) : Res := ⟨p, ptsR rs p, othR (ptsR rs) rs p⟩
def rankL (rs : List Res) : Nat → List Res
  | 0 => []
  | n + 1 => insL (rowX rs n) (rankL rs n)
theorem putAt_len (x : Res) (L : List Res) {k : Nat} (h : k ≤ L.length) : (putAt x L k).length = L.length + 1 := by simp [putAt]; omega
theorem insK_le (x : Res) (L : List Res) : ∀ k, insK x L k ≤ k
  | 0 => Nat.le_refl _
  | k + 1 => by
    unfold insK
    split
    · exact Nat.le_succ_of_le (insK_le x L k)
    · exact Nat.le_refl _
theorem rankL_len (rs : List Res) : ∀ n, (rankL rs n).length = n
  | 0 => rfl
  | n + 1 => by
    rw [rankL, insL, putAt_len _ _ (insK_le _ _ _), rankL_len rs n]
theorem putAt_perm (x : Res) (L : List Res) (k : Nat) : (putAt x L k).Perm (x :: L) := by
  unfold putAt
  have h := List.perm_middle (a := x) (l₁ := L.take k) (l₂ := L.drop k)
  rwa [List.take_append_drop] at h
def rkLtR (x y : Res) : Prop := y.b < x.b ∨ (y.b = x.b ∧ (y.h < x.h ∨ (y.h = x.h ∧ x.a < y.a)))
theorem rkLtR_trans {x y z : Res} (h1 : rkLtR x y) (h2 : rkLtR y z) : rkLtR x z := by unfold rkLtR at *; omega
theorem betR_iff {x y : Res} : betR x y = true ↔ (x.b > y.b ∨ (x.b = y.b ∧ x.h > y.h)) := by unfold betR; simp
theorem bet_lt {x y : Res} (h : betR x y = true) : rkLtR x y := by rw [betR_iff] at h; unfold rkLtR; omega
theorem not_bet_lt {x y : Res} (h : betR x y = false) (ha : y.a < x.a) : rkLtR y x := by
  have h1 : ¬ (x.b > y.b ∨ (x.b = y.b ∧ x.h > y.h)) := fun g => by rw [betR_iff.2 g] at h; cases h
  unfold rkLtR; omega
theorem insK_after {x : Res} {L : List Res} : ∀ (k : Nat), k ≤ L.length → (∀ j (h : j < L.length), k ≤ j → betR x L[j] = true) → ∀ j (h : j < L.length), insK x L k ≤ j → betR x L[j] = true
  | 0, _, h, j, hj, hk => h j hj (by omega)
  | k + 1, hk, h, j, hj, hjk => by
    unfold insK at hjk
    split at hjk
    · rename_i hb
      refine insK_after k (by omega) (fun i hi hik => ?_) j hj hjk
      by_cases e : i = k
      · subst e; rwa [getElem!_pos L i hi] at hb
      · exact h i hi (by omega)
    · exact h j hj hjk
theorem insK_stop {x : Res} {L : List Res} : ∀ (k : Nat), k ≤ L.length → insK x L k = 0 ∨ ∃ q, insK x L k = q + 1 ∧ ∃ h : q < L.length, betR x L[q] = false
  | 0, _ => .inl rfl
  | k + 1, hk => by
    unfold insK
    split
    · exact insK_stop k (by omega)
    · rename_i hb
      refine .inr ⟨k, rfl, by omega, ?_⟩
      rw [getElem!_pos L k (by omega)] at hb
      simpa using hb
theorem insL_sorted {x : Res} {L : List Res} (hs : L.Pairwise rkLtR) (ha : ∀ y ∈ L, y.a < x.a) : (insL x L).Pairwise rkLtR := by
  unfold insL putAt
  rw [List.pairwise_append]
  have hk := insK_le x L L.length
  refine ⟨hs.sublist (List.take_sublist _ _), ?_, ?_⟩
  · rw [List.pairwise_cons]
    refine ⟨fun y hy => ?_, hs.sublist (List.drop_sublist _ _)⟩
    obtain ⟨j, hj, rfl⟩ := List.getElem_of_mem hy
    rw [List.getElem_drop]
    exact bet_lt (insK_after L.length (Nat.le_refl _) (fun j h h2 => by omega) _ (by rw [List.length_drop] at hj; omega) (by omega))
  · have hbef : ∀ y ∈ L.take (insK x L L.length), rkLtR y x := by
      intro y hy
      rcases insK_stop (x := x) (L := L) L.length (Nat.le_refl _) with h | ⟨q, hq, hql, hqb⟩
      · rw [h] at hy; simp at hy
      · obtain ⟨j, hj, rfl⟩ := List.getElem_of_mem hy
        rw [List.getElem_take]
        rw [List.length_take] at hj
        have hqx := not_bet_lt hqb (ha _ (List.getElem_mem hql))
        by_cases e : j = q
        · subst e; exact hqx
        · exact rkLtR_trans (List.pairwise_iff_getElem.1 hs j q (by omega) hql (by omega)) hqx
    intro y hy z hz
    rcases List.mem_cons.1 hz with rfl | hz
    · exact hbef y hy
    · obtain ⟨j, hj, rfl⟩ := List.getElem_of_mem hz
      rw [List.getElem_drop]
      exact rkLtR_trans (hbef y hy) (bet_lt (insK_after L.length (Nat.le_refl _) (fun j h h2 => by omega) _ (by rw [List.length_drop] at hj; omega) (by omega)))
theorem rankL_perm (rs : List Res) : ∀ n, (rankL rs n).Perm ((List.range n).map (rowX rs))
  | 0 => by simp [rankL]
  | n + 1 => by
    rw [rankL, insL, List.range_succ, List.map_append]
    refine (putAt_perm _ _ _).trans ?_
    refine ((rankL_perm rs n).cons _).trans ?_
    exact (List.perm_append_comm (l₁ := [rowX rs n]) (l₂ := (List.range n).map (rowX rs)))
theorem rankL_sorted (rs : List Res) : ∀ n, (rankL rs n).Pairwise rkLtR
  | 0 => by simp [rankL]
  | n + 1 => by
    rw [rankL]
    refine insL_sorted (rankL_sorted rs n) (fun y hy => ?_)
    have h := (rankL_perm rs n).mem_iff.1 hy
    obtain ⟨p, hp, rfl⟩ := List.mem_map.1 h
    have := List.mem_range.1 hp
    simp only [rowX]
    omega
theorem tabR_perm (n : Nat) (rs : List Res) : ((tabR n rs).map rkR).Perm ((List.range n).map (rowX rs)) := by
  have h := (List.mergeSort_perm (rowO n rs rs) (fun a b => !(ltOf cfRk b a))).map rkR
  refine h.trans ?_
  unfold rowO
  rw [List.map_map]
  exact List.Perm.refl _
theorem tabR_sorted (n : Nat) (rs : List Res) : ((tabR n rs).map rkR).Pairwise rkLtR := by
  have hle : (tabR n rs).Pairwise fun a b => (!(ltOf cfRk b a)) = true := by
    unfold tabR
    refine List.pairwise_mergeSort (fun a b c h1 h2 => ?_) (fun a b => ?_) _
    · simp only [Bool.not_eq_true'] at h1 h2 ⊢
      rw [cfRk_false] at h1 h2 ⊢
      unfold rkLt at *; omega
    · simp only [Bool.or_eq_true, Bool.not_eq_true']
      rw [cfRk_false, cfRk_false]
      unfold rkLt; omega
  have hnd : ((tabR n rs).map (·.p)).Pairwise (· ≠ ·) := by
    have hp : ((tabR n rs).map (·.p)).Perm ((rowO n rs rs).map (·.p)) := (List.mergeSort_perm _ _).map _
    refine (hp.pairwise_iff (fun h => fun e => h e.symm)).2 ?_
    unfold rowO
    rw [List.map_map, List.pairwise_map]
    exact List.nodup_range.imp (fun h e => h (by simp only [Function.comp] at e; omega))
  rw [List.pairwise_map] at hnd ⊢
  refine (hle.and hnd).imp (fun {a b} h => ?_)
  obtain ⟨h1, h2⟩ := h
  simp only [Bool.not_eq_true'] at h1
  rw [cfRk_false] at h1
  unfold rkLt at h1
  unfold rkLtR rkR
  simp only
  omega
theorem rank_tab (n : Nat) (rs : List Res) : rankL rs n = (tabR n rs).map rkR := by
  have hp : (rankL rs n).Perm ((tabR n rs).map rkR) := (rankL_perm rs n).trans (tabR_perm n rs).symm
  exact hp.eq_of_pairwise (le := rkLtR) (fun a b _ _ h1 h2 => by unfold rkLtR at h1 h2; omega) (rankL_sorted rs n) (tabR_sorted n rs)
end Go.Proofs.Ytfoehijlafooaaa
