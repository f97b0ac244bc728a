/- moves.letter, moves.mine; gameref.owner, mark, abs -/
import Derived.Test.YtdfegpohmaideaaOther
import Derived.Test.YtdfegpohmaideaaEndsPlain
import Derived.Test.YtdfegpohmaideaaMadePlain
namespace Go.Proofs.Ytdfegpohmaideaa
open Go.RowKit

/-- a letter as a player's -/
def letG (c : Nat) (pl : Int) : Nat := if pl = 1 then otherN c else c
theorem letG_up {c : Nat} (h : upB c = true) (pl : Int) : letG c pl = letN c pl := by
  unfold letG letN otherN
  rw [if_pos h]
set_option maxHeartbeats 400000 in
theorem letter_any (c : Nat) (pl : Int) (w : World) : Calls Try.prog 39 #[.int .u8 c, .int .i64 pl] w fun e w' => e = .returned (.int .u8 (letG c pl)) ∧ w' = w := by
  have Ho := hide fun w => other_any c w
  obtain ⟨m, hm⟩ : ∃ m, letG c pl = m := ⟨_, rfl⟩
  by_cases h : pl = 1
  · have H := hide (show otherN c = m by rw [← hm, letG, if_pos h])
    have d : (pl == 1) = true := by simp [h]
    have Hm := hide hm
    clear hm h
    go_enter Try.func39, Try.ntmps39
    go_wp2_with (go_at_call 21; refine (Ho.out _).mono ?_; rintro e w' ⟨rfl, rfl⟩)
    go_ret
    exact ⟨by rw [H.out, Hm.out] <;> rfl, rfl⟩
  · have H := hide (show c = m by rw [← hm, letG, if_neg h])
    have d : (pl == 1) = false := by simpa using h
    have Hm := hide hm
    clear hm h
    go_enter Try.func39, Try.ntmps39
    go_wp2_with fail
    go_ret
    exact ⟨by rw [Hm.out, ← H.out] <;> rfl, rfl⟩
set_option maxHeartbeats 400000 in
theorem mine_any (c : Nat) (pl : Int) (w : World) : Calls Try.prog 46 #[.int .u8 c, .int .i64 pl] w fun e w' => e = .returned (.bool (mineB c pl)) ∧ w' = w := by
  have Hu := hide fun w => upper_any c w
  have Hl := hide fun w => lower_any c w
  obtain ⟨m, hm⟩ : ∃ m, mineB c pl = m := ⟨_, rfl⟩
  by_cases h : pl = 0
  · have H := hide (show upB c = m by rw [← hm, mineB, if_pos h])
    have d : (pl == 0) = true := by simp [h]
    have Hm := hide hm
    clear hm h
    go_enter Try.func46, Try.ntmps46
    go_wp2_with (go_at_call 35; refine (Hu.out _).mono ?_; rintro e w' ⟨rfl, rfl⟩)
    go_ret
    exact ⟨by rw [H.out, Hm.out] <;> rfl, rfl⟩
  · have H := hide (show lowB c = m by rw [← hm, mineB, if_neg h])
    have d : (pl == 0) = false := by simpa using h
    have Hm := hide hm
    clear hm h
    go_enter Try.func46, Try.ntmps46
    go_wp2_with (go_at_call 36; refine (Hl.out _).mono ?_; rintro e w' ⟨rfl, rfl⟩)
    go_ret
    exact ⟨by rw [H.out, Hm.out] <;> rfl, rfl⟩
/-- one byte as a string -/
def markS (n : Nat) : ByteArray := bytes [u8 n]
end Go.Proofs.Ytdfegpohmaideaa
