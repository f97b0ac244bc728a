/- gameref.Graph answers as nim.look; gamelaw.Same of ints. -/
import Derived.Test.YtfoehijlafooaaaNimLook
namespace Go.Proofs.Ytfoehijlafooaaa
open Go.RowKit

def LargeTo (rows : List (List Int)) (k : Nat) : Prop := 1000 < rows.length ∨ ∃ j, ∃ h : j < rows.length, j < k ∧ 1000 < rows[j].length
def OutTo (rows : List (List Int)) (k m : Nat) : Prop := ∃ j, ∃ h : j < rows.length, ∃ q, ∃ h' : q < rows[j].length, (j < k ∨ j = k ∧ q < m) ∧ (rows[j][q] < 0 ∨ (rows.length : Int) ≤ rows[j][q])

set_option maxHeartbeats 1000000 in
set_option maxRecDepth 20000 in
theorem graph_any (A : Option Addr) (c : Nat) (rows : List (List Int)) (w : World) (B : Nat) (hm : rows.length ≤ 9223372036854775807) (hml : ∀ k (h : k < rows.length), rows[k].length ≤ 9223372036854775807) (h : Rows2 w B A rows) :
    Calls Try.prog 17 #[.slice A rows.length c] w fun e w' => e = .returned (.int .i64 (lookS rows)) ∧ w = w' := by
  obtain ⟨b0, hb0, hb0'⟩ : ∃ b : Bool, (decide (1000 < (rows.length : Int)) = b) ∧ (b = true ↔ LargeTo rows 0) := by
    refine ⟨_, rfl, ?_⟩
    simp [LargeTo]
    omega
  have Hb0 := hide hb0'
  clear hb0'
  go_enter Try.func17, Try.ntmps17
  go_wp2
  go_loop [3, 4, 5] (fun lg ou i => ∃ (k : Nat) (bL bO : Bool), k ≤ rows.length ∧ i = .int .i64 k ∧ lg = .bool bL ∧ ou = .bool bO ∧ (bL = true ↔ LargeTo rows k) ∧ (bO = true ↔ OutTo rows k 0)) (fun _ _ i => rows.length - (intOf i).toNat)
  case atStart => exact ⟨0, b0, false, by omega, rfl, rfl, rfl, Hb0.out, by simp [OutTo]⟩
  case round =>
    obtain ⟨k, bL, bO, hk, rfl, rfl, rfl, hL, hO⟩ := hrel
    have HL := hide hL
    have HO := hide hO
    clear hL hO hb0
    by_cases hlt : k < rows.length
    · obtain ⟨b, off, rfl, hb, Ak, ck, hle, hcell, hck⟩ := h.at_ hlt
      have hml2 := hml k hlt
      have Hml := hide hml
      have Hh := hide h
      have Hck := hide hck
      clear hml h hck
      obtain ⟨bL', hbL', hbL2⟩ : ∃ b : Bool, (bL || decide (1000 < (rows[k].length : Int))) = b ∧ (b = true ↔ LargeTo rows (k + 1)) := by
        refine ⟨_, rfl, ?_⟩
        rw [Bool.or_eq_true, HL.out]
        simp only [decide_eq_true_eq]
        constructor
        · rintro ((h1 | ⟨j, hj, hjk, h1⟩) | h1)
          · exact .inl h1
          · exact .inr ⟨j, hj, by omega, h1⟩
          · exact .inr ⟨k, hlt, by omega, by omega⟩
        · rintro (h1 | ⟨j, hj, hjk, h1⟩)
          · exact .inl (.inl h1)
          · by_cases e : j = k
            · subst e; exact .inr (by omega)
            · exact .inl (.inr ⟨j, hj, by omega, h1⟩)
      have hcase : (bL = true ∧ bL' = true) ∨ (bL = false ∧ decide (1000 < (rows[k].length : Int)) = true ∧ bL' = true) ∨ (bL = false ∧ decide (1000 < (rows[k].length : Int)) = false ∧ bL' = false) := by
        subst hbL'
        cases bL
        · by_cases h1 : 1000 < rows[k].length
          · exact .inr (.inl ⟨rfl, by simp; omega, by simp; omega⟩)
          · exact .inr (.inr ⟨rfl, by simp; omega, by simp; omega⟩)
        · exact .inl ⟨rfl, rfl⟩
      have HL2 := hide hbL2
      clear hbL2 hbL'
      have out_step : ∀ m (hm : m < rows[k].length), OutTo rows k (m + 1) ↔ OutTo rows k m ∨ rows[k][m] < 0 ∨ (rows.length : Int) ≤ rows[k][m] := by
        intro m hm
        constructor
        · rintro ⟨j, hj, q, hq, hor, h1⟩
          by_cases e : j = k ∧ q = m
          · obtain ⟨rfl, rfl⟩ := e; exact .inr h1
          · exact .inl ⟨j, hj, q, hq, by omega, h1⟩
        · rintro (⟨j, hj, q, hq, hor, h1⟩ | h1)
          · exact ⟨j, hj, q, hq, by omega, h1⟩
          · exact ⟨k, hlt, m, hm, by omega, h1⟩
      have out_next : OutTo rows k rows[k].length ↔ OutTo rows (k + 1) 0 := by
        constructor
        · rintro ⟨j, hj, q, hq, hor, h1⟩; exact ⟨j, hj, q, hq, by omega, h1⟩
        · rintro ⟨j, hj, q, hq, hor, h1⟩
          by_cases e : j = k
          · subst e; exact ⟨j, hj, q, hq, by omega, h1⟩
          · exact ⟨j, hj, q, hq, by omega, h1⟩
      have Hstep := hide out_step
      have Hnext := hide out_next
      clear out_step out_next
      rcases hcase with ⟨rfl, rfl⟩ | ⟨rfl, h1000, rfl⟩ | ⟨rfl, h1000, rfl⟩
      all_goals
        go_wp2
        go_loop [4, 6] (fun ou i => ∃ (m : Nat) (bO : Bool), m ≤ rows[k].length ∧ i = .int .i64 m ∧ ou = .bool bO ∧ (bO = true ↔ OutTo rows k m)) (fun _ i => rows[k].length - (intOf i).toNat)
        case atStart => exact ⟨0, bO, by omega, rfl, rfl, HO.out⟩
        case round =>
          obtain ⟨m, bO2, hm2, rfl, rfl, hO2⟩ := hrel
          have HO2 := hide hO2
          clear hO2
          by_cases hlm : m < rows[k].length
          · obtain ⟨b2, off2, rfl, hb2, hc2⟩ := Hck.out.at_ (k := m) (by simpa using hlm)
            rw [ints_get] at hc2
            cases bO2 with
            | true =>
              go_wp2
              go_round
              case rel => exact ⟨m + 1, true, by omega, by go_num, rfl, by rw [Hstep.out m hlm, ← HO2.out]; simp⟩
              case measure => simp [intOf]; omega
            | false =>
              by_cases h1 : rows[k][m] < 0
              · go_wp2
                go_round
                case rel => exact ⟨m + 1, true, by omega, by go_num, rfl, by rw [Hstep.out m hlm]; simp [h1]⟩
                case measure => simp [intOf]; omega
              · by_cases h2 : (rows.length : Int) ≤ rows[k][m]
                · go_wp2
                  go_round
                  case rel => exact ⟨m + 1, true, by omega, by go_num, rfl, by rw [Hstep.out m hlm]; simp [h2]⟩
                  case measure => simp [intOf]; omega
                · go_wp2
                  go_round
                  case rel => exact ⟨m + 1, false, by omega, by go_num, rfl, by rw [Hstep.out m hlm, ← HO2.out]; simp [h1, h2]⟩
                  case measure => simp [intOf]; omega
          · have hml3 : m = rows[k].length := by omega
            have hO3 : bO2 = true ↔ OutTo rows (k + 1) 0 := by rw [HO2.out, hml3]; exact Hnext.out
            have HO3 := hide hO3
            clear hO3 hml3
            go_wp2
            go_round
            case rel => exact ⟨k + 1, _, bO2, by omega, by go_num, rfl, rfl, by simpa using HL2.out, HO3.out⟩
            case measure => simp [intOf]; omega
    · have hkl : k = rows.length := by omega
      have h1 : LargeTo rows k ↔ Large rows := by
        subst hkl
        constructor
        · rintro (h1 | ⟨j, hj, _, h1⟩)
          · exact .inl h1
          · exact .inr ⟨j, hj, h1⟩
        · rintro (h1 | ⟨j, hj, h1⟩)
          · exact .inl h1
          · exact .inr ⟨j, hj, hj, h1⟩
      have h2 : OutTo rows k 0 ↔ OutOf rows := by
        subst hkl
        constructor
        · rintro ⟨j, hj, q, hq, _, h1⟩; exact ⟨j, hj, q, hq, h1⟩
        · rintro ⟨j, hj, q, hq, h1⟩; exact ⟨j, hj, q, hq, .inl hj, h1⟩
      have hs : lookS rows = if bL then 2 else if bO then 4 else 0 := by
        unfold lookS
        have e1 := HL.out.trans h1
        have e2 := HO.out.trans h2
        cases bL <;> cases bO <;> simp_all
      have Hs := hide hs
      clear hs h1 h2 hkl
      cases bL with
      | true =>
        go_wp2
        go_ret
        exact ⟨by rw [Hs.out]; rfl, rfl⟩
      | false =>
        cases bO with
        | true =>
          go_wp2
          go_ret
          exact ⟨by rw [Hs.out]; rfl, rfl⟩
        | false =>
          go_wp2
          go_ret
          exact ⟨by rw [Hs.out]; rfl, rfl⟩
end Go.Proofs.Ytfoehijlafooaaa
