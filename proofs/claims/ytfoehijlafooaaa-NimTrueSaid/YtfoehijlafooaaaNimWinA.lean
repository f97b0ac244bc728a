/- nim.Win: the answers that say no -/
import Derived.Test.YtfoehijlafooaaaNimGrundyF
import Derived.Test.YtfoehijlafooaaaNimWin1
namespace Go.Proofs.Ytfoehijlafooaaa
open Go.RowKit

def noHeaps : Value := .agg #[.int .i64 0, .slice none 0 0]

set_option maxHeartbeats 4000000 in
set_option maxRecDepth 100000 in
theorem win_no_code (s : ByteArray) (A : Option Addr) (n c : Nat) (w : World) (hs : s.size ≤ 9223372036854775807) (hno : ¬ CodeOk s.data.toList) :
    Calls Try.prog 26 #[.string s, .slice A n c] w fun e w' => e = .returned (.tuple #[.bool false, noHeaps, .int .i64 3]) ∧ Below w.heap.size w w' := by
  have Hd := hide fun W => digits_any s W hs
  have Hno := hide hno
  clear hno
  go_enter Try.func26, Try.ntmps26
  go_wp2_with fail
  refine (Hd.out _).mono ?_
  rintro e w1 ⟨hb1, ⟨hc, _⟩ | ⟨hc, rfl⟩⟩
  · exact absurd hc Hno.out
  have b1 := (Blk.new w 50 #[.int .i64 0, .slice none 0 0]).below hb1 (by simp)
  have g0 := b1.cell 0
  have g1 := b1.cell 1
  have g2 := b1.free 0
  have g3 := b1.free 1
  simp at g0 g1
  have Hb := hide hb1
  clear hb1 hc b1
  go_wp2_with fail
  refine bodyPost_ret (v := .tuple #[.bool false, noHeaps, .int .i64 3]) (by simp [results, Try.results26, go_sem, noHeaps, g0, g1]) rfl ⟨rfl, ?_⟩
  have h0 : Below w.heap.size w w1 := ((Only.refl (fun _ => False) w).alloc _).below_ (fun _ h => h.elim) (Nat.le_refl _) |>.trans (Hb.out.mono (by simp))
  exact (h0.setCell (p := ⟨w.heap.size, 0, none⟩) (Nat.le_refl _) _).setCell (p := ⟨w.heap.size, 1, none⟩) (Nat.le_refl _) _

set_option maxHeartbeats 4000000 in
set_option maxRecDepth 100000 in
theorem win_no_range (s : ByteArray) (A : Option Addr) (c : Nat) (hs : List Int) (w : World) (hsz : s.size ≤ 9223372036854775807) (hl : hs.length ≤ 9223372036854775807) (hok : CodeOk s.data.toList) (hA : Cells w w.heap.size A (ints hs)) (hno : ¬ ∀ x ∈ hs, 0 ≤ x ∧ x ≤ 400) :
    Calls Try.prog 26 #[.string s, .slice A hs.length c] w fun e w' => e = .returned (.tuple #[.bool false, noHeaps, .int .i64 4]) ∧ Below w.heap.size w w' := by
  have Hd := hide fun W => digits_any s W hsz
  have Hno := hide hno
  have HA := hide hA
  have Hok := hide hok
  clear hno hA hok
  go_enter Try.func26, Try.ntmps26
  go_wp2_with fail
  refine (Hd.out _).mono ?_
  rintro e w1 ⟨hb1, ⟨hc, Ad, cd, rfl, _, _⟩ | ⟨hc, rfl⟩⟩
  case inr => exact absurd Hok.out hc
  have b1 := (Blk.new w 50 #[.int .i64 0, .slice none 0 0]).below hb1 (by simp)
  have g0 := b1.cell 0
  have g1 := b1.cell 1
  have g2 := b1.free 0
  have g3 := b1.free 1
  simp at g0 g1
  have h0 : Below w.heap.size w w1 := ((Only.refl (fun _ => False) w).alloc _).below_ (fun _ h => h.elim) (Nat.le_refl _) |>.trans (hb1.mono (by simp))
  have Hb := hide h0
  have HA1 := hide (HA.out.below h0)
  clear hb1 hc b1 h0
  go_wp2_with fail
  go_loop [9, 30] (fun mv idx => ∃ k m : Nat, k ≤ hs.length ∧ idx = .int .i64 k ∧ mv = .int .i64 m ∧ m ≤ 400 ∧ ∀ j (h : j < k) (h' : j < hs.length), 0 ≤ hs[j] ∧ hs[j] ≤ 400) (fun _ idx => hs.length - (intOf idx).toNat)
  case atStart => exact ⟨0, 0, by omega, rfl, rfl, by omega, fun j h => by omega⟩
  case round =>
    obtain ⟨k, m, hk, rfl, rfl, hm, hall⟩ := hrel
    have Hall := hide hall
    clear hall
    by_cases hlk : k < hs.length
    · obtain ⟨b7, o7, rfl, _, hc7⟩ := HA1.out.at_ (k := k) (by simpa using hlk)
      rw [ints_get] at hc7
      obtain ⟨x, hx⟩ : ∃ x, hs[k] = x := ⟨_, rfl⟩
      rw [hx] at hc7
      by_cases hin : 0 ≤ x ∧ x ≤ 400
      · obtain ⟨y, rfl⟩ : ∃ y : Nat, x = y := ⟨x.toNat, by omega⟩
        have q1 : decide ((y : Int) < 0) = false := by simp
        have q2 : decide ((y : Int) > 400) = false := by simp; omega
        have q3 : ((max m y : Nat) : Int) = max (m : Int) (y : Int) := by omega
        have Hx := hide hx
        clear hx
        go_wp2_with fail
        go_round
        case rel => exact ⟨k + 1, max m y, by omega, by go_num, by simp; split <;> omega, by omega, fun j h h' => by
          by_cases e : j = k
          · subst e; rw [Hx.out]; exact hin
          · exact Hall.out j (by omega) h'⟩
        case measure => simp [intOf]; omega
      · clear hx
        by_cases hneg : x < 0
        · have q1 : decide (x < 0) = true := by simp [hneg]
          go_wp2_with fail
          refine bodyPost_ret (v := .tuple #[.bool false, noHeaps, .int .i64 4]) (by simp [results, Try.results26, go_sem, noHeaps, g0, g1]) rfl ⟨rfl, ?_⟩
          exact (Hb.out.setCell (p := ⟨w.heap.size, 0, none⟩) (Nat.le_refl _) _).setCell (p := ⟨w.heap.size, 1, none⟩) (Nat.le_refl _) _
        · have q1 : decide (x < 0) = false := by simp; omega
          have q2 : decide (x > 400) = true := by simp; omega
          go_wp2_with fail
          refine bodyPost_ret (v := .tuple #[.bool false, noHeaps, .int .i64 4]) (by simp [results, Try.results26, go_sem, noHeaps, g0, g1]) rfl ⟨rfl, ?_⟩
          exact (Hb.out.setCell (p := ⟨w.heap.size, 0, none⟩) (Nat.le_refl _) _).setCell (p := ⟨w.heap.size, 1, none⟩) (Nat.le_refl _) _
    · exact absurd (fun x hx => by
        obtain ⟨j, hj, rfl⟩ := List.getElem_of_mem hx
        exact Hall.out j (by omega) hj) Hno.out
end Go.Proofs.Ytfoehijlafooaaa
