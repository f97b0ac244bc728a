/- tourney.Rate when what comes is bad; an empty list of starts -/
import Derived.Test.YtfoehijlafooaaaFlRate
import Derived.Test.YtfoehijlafooaaaTourRes
import Derived.BigRegion
namespace Go.Proofs.Ytfoehijlafooaaa
open Go.RowKit Ieee

set_option maxHeartbeats 4000000 in
set_option maxRecDepth 100000 in
theorem rate_bad (A0 A : Option Addr) (c0 c : Nat) (start : List Nat) (rs : List Res) (k : Nat) (W : World) (hm : start.length ≤ 9223372036854775807) (hr : rs.length ≤ 9223372036854775807) (hS : Cells W W.heap.size A0 (flts start)) (hA : Cells W W.heap.size A (ints (flatR rs))) (hbad : ¬ (start.length ≤ 200 ∧ ResOk start.length rs ∧ fairF k = true ∧ unfair start = false)) :
    Calls Try.prog 37 #[.slice A0 start.length c0, .slice A rs.length c, .float .f64 k] W fun e w' => e = .returned (.tuple #[.slice none 0 0, .int .i64 1]) ∧ Below W.heap.size W w' := by
  have HR := hide (results_any start.length A c rs W hr hA)
  have HFk := hide (fair_any k)
  have HCt := hide (fun w (hb : Below W.heap.size W w) => contains_any A0 c0 start w W.heap.size hm (hS.below hb))
  clear hS hA
  by_cases hl : start.length ≤ 200
  case neg =>
    have d200 : decide ((start.length : Int) > 200) = true := decide_eq_true (by omega)
    clear hbad
    go_enter Try.func37, Try.ntmps37
    go_wp2_with fail
    go_ret2
    exact ⟨rfl, Below.refl _ _⟩
  have d200 : decide ((start.length : Int) > 200) = false := decide_eq_false (by omega)
  by_cases hok : ResOk start.length rs
  case neg =>
    rw [resB_false.2 hok] at HR
    clear hbad hok
    go_enter Try.func37, Try.ntmps37
    go_wp2_with (go_at_call 64; refine HR.out.mono ?_; rintro e w1 ⟨rfl, hb1⟩)
    go_ret2
    exact ⟨rfl, hb1⟩
  rw [resB_true.2 hok] at HR
  obtain ⟨fk, hfk⟩ : ∃ b, fairF k = b := ⟨_, rfl⟩
  rw [hfk] at hbad
  simp only [hfk] at HFk
  clear hfk
  cases fk with
  | false =>
    clear hbad hok
    go_enter Try.func37, Try.ntmps37
    go_wp2_with (first
      | (go_at_call 64; refine HR.out.mono ?_; rintro e w1 ⟨rfl, hb1⟩)
      | (go_at_call 67; refine (HFk.out _).mono ?_; rintro e w2 ⟨rfl, hw2⟩; rw [hw2]; clear hw2))
    go_ret2
    exact ⟨rfl, hb1⟩
  | true =>
    have hu : unfair start = true := by
      cases h : unfair start with
      | true => rfl
      | false => exact absurd ⟨hl, hok, rfl, h⟩ hbad
    simp only [hu] at HCt
    clear hbad hok hu
    go_enter Try.func37, Try.ntmps37
    go_wp2_with (first
      | (go_at_call 64; refine HR.out.mono ?_; rintro e w1 ⟨rfl, hb1⟩)
      | (go_at_call 67; refine (HFk.out _).mono ?_; rintro e w2 ⟨rfl, hw2⟩; rw [hw2]; clear hw2)
      | (go_at_call 68; refine (HCt.out _ hb1).mono ?_; rintro e w2 ⟨rfl, hw2⟩; rw [hw2]; clear hw2))
    go_ret2
    exact ⟨rfl, hb1⟩

set_option maxHeartbeats 4000000 in
set_option maxRecDepth 100000 in
theorem rate_empty (A0 A : Option Addr) (c0 c : Nat) (k : Nat) (W : World) (hk : fairF k = true) :
    Calls Try.prog 37 #[.slice A0 0 c0, .slice A 0 c, .float .f64 k] W fun e w' => ∃ A' c', e = .returned (.tuple #[.slice A' 0 c', .int .i64 0]) ∧ Below W.heap.size W w' := by
  have HR := hide (results_any 0 A c [] W (by decide) (by intro h; simp [flatR, ints] at h))
  rw [resB_true.2 ⟨by decide, by simp⟩] at HR
  have HFk := hide (fair_any k)
  simp only [hk] at HFk
  have HCt := hide (fun w (_ : Below W.heap.size W w) => contains_any A0 c0 [] w W.heap.size (by decide) (by intro h; simp [flts] at h))
  have HCl := hide (show ∀ w, Calls Try.prog 70 #[.slice A0 0 c0] w fun e w' => ∃ A' c', e = .returned (.slice A' 0 c') ∧ Below w.heap.size w w' from fun w => by
    cases A0 with
    | none => exact (clonef_nil 0 c0 w).mono fun e w' ⟨h1, h2⟩ => ⟨none, 0, h1, by rw [h2]; exact Below.refl _ _⟩
    | some a => exact (clonef_empty a c0 w).mono fun e w' ⟨v', h1, h2, h3⟩ => (h2.2.elim (fun h => ⟨none, 0, by rw [h1, h.1], h3⟩) (fun ⟨g, cap, cur, h, _⟩ => ⟨some ⟨g, 0, none⟩, cap, by rw [h1, h], h3⟩)))
  simp only [List.length_nil] at HR HCt
  have hu : unfair [] = false := rfl
  simp only [hu] at HCt
  clear hk hu
  go_enter Try.func37, Try.ntmps37
  go_wp2_with (first
    | (go_at_call 64; refine HR.out.mono ?_; rintro e w1 ⟨rfl, hb1⟩)
    | (go_at_call 67; refine (HFk.out _).mono ?_; rintro e w2 ⟨rfl, hw2⟩; rw [hw2]; clear hw2)
    | (go_at_call 68; refine (HCt.out _ hb1).mono ?_; rintro e w2 ⟨rfl, hw2⟩; rw [hw2]; clear hw2)
    | (go_at_call 70; refine (HCl.out _).mono ?_; rintro e w3 ⟨A', c', rfl, hb3⟩))
  go_loopw [36] (fun idx wr => idx = .int .i64 0 ∧ Below W.heap.size W wr) (fun _ _ => 0)
  case atStart => exact ⟨rfl, hb1.trans (hb3.mono hb1.size)⟩
  case round =>
    rename World => wr
    obtain ⟨rfl, hbr⟩ := hrel
    go_wp2_with fail
    go_ret2
    exact ⟨_, _, rfl, hbr⟩

set_option maxHeartbeats 4000000 in
set_option maxRecDepth 100000 in
theorem rated_empty (A0 A : Option Addr) (c0 c : Nat) (k : Nat) (W : World) :
    Calls Try.prog 42 #[.slice A0 0 c0, .slice A 0 c, .float .f64 k] W fun e w' => ∃ A' c', e = .returned (.slice A' 0 c') ∧ Below W.heap.size W w' := by
  cases A0 with
  | none =>
    go_enter Try.func42, Try.ntmps42
    go_wp2_with fail
    go_loopw [8] (fun idx wr => idx = .int .i64 0 ∧ Below W.heap.size W wr) (fun _ _ => 0)
    case atStart => exact ⟨rfl, Below.refl _ _⟩
    case round =>
      rename World => wr
      obtain ⟨rfl, hbr⟩ := hrel
      go_wp2_with fail
      go_ret
      exact ⟨_, _, rfl, hbr⟩
  | some a =>
    go_enter Try.func42, Try.ntmps42
    go_wp2_with fail
    go_loopw [8] (fun idx wr => idx = .int .i64 0 ∧ Below W.heap.size W wr) (fun _ _ => 0)
    case atStart => exact ⟨rfl, Below.refl _ _⟩
    case round =>
      rename World => wr
      obtain ⟨rfl, hbr⟩ := hrel
      go_wp2_with fail
      go_ret
      exact ⟨_, _, rfl, hbr⟩
end Go.Proofs.Ytfoehijlafooaaa
