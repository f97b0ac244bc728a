/- nim.look and gameref.Graph: what they answer. -/
import Derived.Test.YtfoehijlafooaaaRows
import Derived.Test.YtfoehijlafooaaaBase
namespace Go.Proofs.Ytfoehijlafooaaa
open Go.RowKit

def Large (rows : List (List Int)) : Prop := 1000 < rows.length ∨ ∃ k, ∃ h : k < rows.length, 1000 < rows[k].length
def OutOf (rows : List (List Int)) : Prop := ∃ k, ∃ h : k < rows.length, ∃ j, ∃ h' : j < rows[k].length, rows[k][j] < 0 ∨ (rows.length : Int) ≤ rows[k][j]
open Classical in
noncomputable def lookS (rows : List (List Int)) : Int := if Large rows then 2 else if OutOf rows then 4 else 0

set_option maxHeartbeats 400000 in
theorem look_any (A : Option Addr) (c : Nat) (rows : List (List Int)) (w : World) (B : Nat) (hm : rows.length ≤ 9223372036854775807) (h : Rows2 w B A rows) :
    Calls Try.prog 43 #[.slice A rows.length c] w fun e w' => e = .returned (.int .i64 (lookS rows)) ∧ w = w' := by
  by_cases h0 : 1000 < rows.length
  · have hL : lookS rows = 2 := by unfold lookS; rw [if_pos (.inl h0)]
    have HL := hide hL
    clear hL
    go_enter Try.func43, Try.ntmps43
    go_wp2
    go_ret
    exact ⟨by rw [HL.out]; rfl, rfl⟩
  go_enter Try.func43, Try.ntmps43
  go_wp2
  go_loop [14] (fun i => ∃ k : Nat, k ≤ rows.length ∧ i = .int .i64 k ∧ ∀ j (h : j < k) (h' : j < rows.length), rows[j].length ≤ 1000) (fun i => rows.length - (intOf i).toNat)
  case atStart => exact ⟨0, by omega, rfl, by intro j h; omega⟩
  case round =>
    obtain ⟨k, hk, rfl, hall⟩ := hrel
    by_cases hlt : k < rows.length
    · obtain ⟨b, off, rfl, hb, Ak, ck, hle, hcell, hck⟩ := h.at_ hlt
      by_cases h1 : 1000 < rows[k].length
      · have hL : lookS rows = 2 := by unfold lookS; rw [if_pos (.inr ⟨k, hlt, h1⟩)]
        have HL := hide hL
        clear hL
        have Hh := hide h
        have Hhall := hide hall
        have Hck := hide hck
        clear h hall hck
        go_wp2
        go_ret
        exact ⟨by rw [HL.out]; rfl, rfl⟩
      · have Hh := hide h
        have Hhall := hide hall
        have Hck := hide hck
        clear h hall hck
        go_wp2
        go_round
        case rel => exact ⟨k + 1, by omega, by go_num, fun j hj h' => by
          by_cases e : j = k
          · subst e; omega
          · exact Hhall.out j (by omega) h'⟩
        case measure => simp [intOf]; omega
    · have hnL : ¬ Large rows := by
        rintro (hL | ⟨j, hj, hL⟩)
        · omega
        · have := hall j (by omega) hj; omega
      have HnL := hide hnL
      clear hnL hall
      go_wp2
      go_loop [24] (fun i => ∃ k : Nat, k ≤ rows.length ∧ i = .int .i64 k ∧ ∀ j (h : j < k) (h' : j < rows.length) m (h2 : m < rows[j].length), 0 ≤ rows[j][m] ∧ rows[j][m] < rows.length) (fun i => rows.length - (intOf i).toNat)
      case atStart => exact ⟨0, by omega, rfl, by intro j h; omega⟩
      case round =>
        obtain ⟨k, hk, rfl, hall⟩ := hrel
        by_cases hlt : k < rows.length
        · obtain ⟨b, off, rfl, hb, Ak, ck, hle, hcell, hck⟩ := h.at_ hlt
          have Hh := hide h
          have Hhall := hide hall
          have hlen : rows[k].length ≤ 1000 := by
            rcases Nat.lt_or_ge 1000 rows[k].length with hx | hx
            · exact absurd (.inr ⟨k, hlt, hx⟩) HnL.out
            · exact hx
          clear h hall
          go_wp2
          go_loop [30] (fun i => ∃ m : Nat, m ≤ rows[k].length ∧ i = .int .i64 m ∧ ∀ j (h : j < m) (h' : j < rows[k].length), 0 ≤ rows[k][j] ∧ rows[k][j] < rows.length) (fun i => rows[k].length - (intOf i).toNat)
          case atStart => exact ⟨0, by omega, rfl, by intro j h; omega⟩
          case round =>
            obtain ⟨m, hm, rfl, hin⟩ := hrel
            have Hhin := hide hin
            clear hin
            by_cases hlm : m < rows[k].length
            · obtain ⟨b2, off2, rfl, hb2, hc2⟩ := hck.at_ (k := m) (by simpa using hlm)
              simp only [ints, List.getElem_map] at hc2
              by_cases h1 : rows[k][m] < 0
              · have hL : lookS rows = 4 := by unfold lookS; rw [if_neg HnL.out, if_pos ⟨k, hlt, m, hlm, .inl h1⟩]
                have HL := hide hL
                clear hL
                have Hck := hide hck
                clear hck
                go_wp2
                go_ret
                exact ⟨by rw [HL.out]; rfl, rfl⟩
              · by_cases h2 : (rows.length : Int) ≤ rows[k][m]
                · have hL : lookS rows = 4 := by unfold lookS; rw [if_neg HnL.out, if_pos ⟨k, hlt, m, hlm, .inr h2⟩]
                  have HL := hide hL
                  clear hL
                  have Hck := hide hck
                  clear hck
                  go_wp2
                  go_ret
                  exact ⟨by rw [HL.out]; rfl, rfl⟩
                · have Hck := hide hck
                  clear hck
                  go_wp2
                  go_round
                  case rel => exact ⟨m + 1, by omega, by go_num, fun j hj h' => by
                    by_cases e : j = m
                    · subst e; omega
                    · exact Hhin.out j (by omega) h'⟩
                  case measure => simp [intOf]; omega
            · go_wp2
              go_round
              case rel => exact ⟨k + 1, by omega, by go_num, fun j hj h' q h2 => by
                by_cases e : j = k
                · subst e; exact Hhin.out q (by omega) h2
                · exact Hhall.out j (by omega) h' q h2⟩
              case measure => simp [intOf]; omega
        · have hL : lookS rows = 0 := by
            unfold lookS; rw [if_neg HnL.out, if_neg]
            rintro ⟨j, hj, q, hq, hor⟩
            have := hall j (by omega) hj q hq
            omega
          have HL := hide hL
          clear hL hall
          go_wp2
          go_ret
          exact ⟨by rw [HL.out]; rfl, rfl⟩
end Go.Proofs.Ytfoehijlafooaaa
