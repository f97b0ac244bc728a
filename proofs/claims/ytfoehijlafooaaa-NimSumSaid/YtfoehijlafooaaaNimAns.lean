/- What nim.Values, gameref.ValuesOf and nim.Both answer, each as one pair. -/
import Derived.Test.YtfoehijlafooaaaNimValuesOf
import Derived.Test.YtfoehijlafooaaaNimBoth
namespace Go.Proofs.Ytfoehijlafooaaa
open Go.RowKit

def SolvedPos (n : Nat) (nx : Nat → List Nat) (O : Nat → Int) : Prop := Solved n nx O ∧ ∀ j, j < n → 0 ≤ O j
open Classical in
noncomputable def valsL (rows : List (List Int)) : List Int :=
  if h : lookS rows = 0 ∧ Acyc rows.length (nxOf rows) ∧ ∃ O, SolvedPos rows.length (nxOf rows) O then (List.range rows.length).map (Classical.choose h.2.2) else []
open Classical in
noncomputable def valsE (rows : List (List Int)) : Int := if lookS rows ≠ 0 then lookS rows else if Acyc rows.length (nxOf rows) then 0 else 7

def Vals (rows : List (List Int)) (w : World) (e : Ending) (w' : World) : Prop :=
  ∃ A c, e = .returned (.tuple #[.slice A (valsL rows).length c, .int .i64 (valsE rows)]) ∧ (valsL rows).length ≤ c ∧ Cells w' w'.heap.size A (ints (valsL rows)) ∧ Below w.heap.size w w'

/-- what is known of the pair -/
theorem vals_facts {rows : List (List Int)} (h : valsE rows = 0) (hs : Acyc rows.length (nxOf rows) → ∃ O, SolvedPos rows.length (nxOf rows) O) : lookS rows = 0 ∧ Acyc rows.length (nxOf rows) ∧ ∃ O, SolvedPos rows.length (nxOf rows) O ∧ valsL rows = (List.range rows.length).map O := by
  unfold valsE at h
  split at h
  · rename_i h1; exact absurd h h1
  · rename_i h1
    split at h
    · rename_i h2
      have h0 : lookS rows = 0 := by simpa using h1
      have h3 : lookS rows = 0 ∧ Acyc rows.length (nxOf rows) ∧ ∃ O, SolvedPos rows.length (nxOf rows) O := ⟨h0, h2, hs h2⟩
      refine ⟨h0, h2, Classical.choose h3.2.2, Classical.choose_spec h3.2.2, ?_⟩
      unfold valsL; rw [dif_pos h3]
    · cases h

theorem Vals.of {rows : List (List Int)} {w w' : World} {e : Ending} (h : ValAns rows w.heap.size w e w') : Vals rows w e w' ∧ (lookS rows = 0 → Acyc rows.length (nxOf rows) → ∃ O, SolvedPos rows.length (nxOf rows) O) := by
  obtain ⟨hb, _, h⟩ := h
  by_cases h0 : lookS rows = 0
  · rw [if_pos h0] at h
    rcases h with ⟨ha, O, hs, hp, A, c, he, hc, hcells⟩ | ⟨hna, he⟩
    · have h3 : lookS rows = 0 ∧ Acyc rows.length (nxOf rows) ∧ ∃ O, SolvedPos rows.length (nxOf rows) O := ⟨h0, ha, O, hs, hp⟩
      have hL : valsL rows = (List.range rows.length).map O := by
        unfold valsL; rw [dif_pos h3]
        apply List.map_congr_left
        intro j hj
        exact solved_uniq (nxOf_in (lookS_zero h0).2.2) ha (Classical.choose_spec h3.2.2).1 hs j (by simpa using hj)
      have hE : valsE rows = 0 := by unfold valsE; rw [if_neg (by simp [h0]), if_pos ha]
      refine ⟨⟨A, c, ?_, ?_, ?_, hb⟩, fun _ _ => ⟨O, hs, hp⟩⟩
      · rw [hL, hE, he]; simp
      · rw [hL]; simpa using hc
      · rw [hL]
        have : ints ((List.range rows.length).map O) = (List.range rows.length).map (intV O) := by simp [ints, intV]
        rw [this]; exact hcells
    · have hL : valsL rows = [] := by unfold valsL; rw [dif_neg (fun h => hna h.2.1)]
      have hE : valsE rows = 7 := by unfold valsE; rw [if_neg (by simp [h0]), if_neg hna]
      exact ⟨⟨none, 0, by rw [hL, hE, he]; rfl, by rw [hL]; simp, by rw [hL]; exact Cells.nil_, hb⟩, fun _ h => absurd h hna⟩
  · rw [if_neg h0] at h
    have hL : valsL rows = [] := by unfold valsL; rw [dif_neg (fun h => h0 h.1)]
    have hE : valsE rows = lookS rows := by unfold valsE; rw [if_pos h0]
    exact ⟨⟨none, 0, by rw [hL, hE, h]; rfl, by rw [hL]; simp, by rw [hL]; exact Cells.nil_, hb⟩, fun h => absurd h h0⟩

open Classical in
noncomputable def bothE (a b : List (List Int)) : Int := if lookS a ≠ 0 then lookS a else if lookS b ≠ 0 then lookS b else if 1000 < a.length * b.length then 2 else if TooLong a b then 2 else 0
open Classical in
noncomputable def bothL (a b : List (List Int)) : List (List Int) := if bothE a b = 0 then bothRows a b (a.length * b.length) else []
def BothP (a b : List (List Int)) (w : World) (e : Ending) (w' : World) : Prop :=
  ∃ A c, e = .returned (.tuple #[.slice A (bothL a b).length c, .int .i64 (bothE a b)]) ∧ (bothL a b).length ≤ c ∧ Rows2 w' w'.heap.size A (bothL a b) ∧ Below w.heap.size w w'

theorem Rows2.nil_ {w : World} {B : Nat} {A : Option Addr} : Rows2 w B A [] := ⟨[], rfl, Cells.nil_, fun k h => by simp at h⟩

theorem BothP.of {a b : List (List Int)} {w w' : World} {e : Ending} (h : BothAns a b w e w') : BothP a b w e w' := by
  obtain ⟨hb, h⟩ := h
  have nil_case : ∀ x : Int, bothE a b = x → x ≠ 0 → e = .returned (.tuple #[.slice none 0 0, .int .i64 x]) → BothP a b w e w' := by
    intro x hx hx0 he
    have hL : bothL a b = [] := by unfold bothL; rw [if_neg (by rw [hx]; exact hx0)]
    exact ⟨none, 0, by rw [hL, hx, he]; rfl, by rw [hL]; simp, by rw [hL]; exact Rows2.nil_, hb⟩
  split at h
  · rename_i h1
    exact nil_case _ (by unfold bothE; rw [if_pos h1]) h1 h
  · rename_i h1
    split at h
    · rename_i h2
      exact nil_case _ (by unfold bothE; rw [if_neg h1, if_pos h2]) h2 h
    · rename_i h2
      split at h
      · rename_i h3
        exact nil_case _ (by unfold bothE; rw [if_neg h1, if_neg h2, if_pos h3]) (by decide) h
      · rename_i h3
        rcases h with ⟨ht, h⟩ | ⟨ht, A, c, he, hc, hr⟩
        · exact nil_case _ (by unfold bothE; rw [if_neg h1, if_neg h2, if_neg h3, if_pos ht]) (by decide) h
        · have hE : bothE a b = 0 := by unfold bothE; rw [if_neg h1, if_neg h2, if_neg h3, if_neg ht]
          have hL : bothL a b = bothRows a b (a.length * b.length) := by unfold bothL; rw [if_pos hE]
          exact ⟨A, c, by rw [hL, hE, bothRows_len, he], by rw [hL, bothRows_len]; exact hc, by rw [hL]; exact hr, hb⟩
end Go.Proofs.Ytfoehijlafooaaa
