/- moves.letter, moves.mine; gameref.owner, mark, abs -/
import Derived.Test.YtdfegpohmaideaaGreatOther
import Derived.Test.YtdfegpohmaideaaGreatEndsPlain
import Derived.Test.YtdfegpohmaideaaGreatMadePlain
namespace Go.Proofs.YtdfegpohmaideaaGreat
open Go.RowKit

/-- a letter as a player's -/
def letG (c : Nat) (pl : Int) : Nat := if pl = 1 then otherN c else c
theorem letG_up {c : Nat} (h : upB c = true) (pl : Int) : letG c pl = letN c pl := by
  unfold letG letN otherN
  rw [if_pos h]
set_option maxHeartbeats 400000 in
theorem letter_any (c : Nat) (pl : Int) (w : World) : Calls Tryz.prog 63 #[.int .u8 c, .int .i64 pl] w fun e w' => e = .returned (.int .u8 (letG c pl)) ∧ w' = w := by
  have Ho := hide fun w => other_any c w
  obtain ⟨m, hm⟩ : ∃ m, letG c pl = m := ⟨_, rfl⟩
  by_cases h : pl = 1
  · have H := hide (show otherN c = m by rw [← hm, letG, if_pos h])
    have d : (pl == 1) = true := by simp [h]
    have Hm := hide hm
    clear hm h
    go_enter Tryz.func63, Tryz.ntmps63
    go_wp2_with (go_at_call 92; refine (Ho.out _).mono ?_; rintro e w' ⟨rfl, rfl⟩)
    go_ret
    exact ⟨by rw [H.out, Hm.out] <;> rfl, rfl⟩
  · have H := hide (show c = m by rw [← hm, letG, if_neg h])
    have d : (pl == 1) = false := by simpa using h
    have Hm := hide hm
    clear hm h
    go_enter Tryz.func63, Tryz.ntmps63
    go_wp2_with fail
    go_ret
    exact ⟨by rw [Hm.out, ← H.out] <;> rfl, rfl⟩
set_option maxHeartbeats 400000 in
theorem mine_any (c : Nat) (pl : Int) (w : World) : Calls Tryz.prog 85 #[.int .u8 c, .int .i64 pl] w fun e w' => e = .returned (.bool (mineB c pl)) ∧ w' = w := by
  have Hu := hide fun w => upper_any c w
  have Hl := hide fun w => lower_any c w
  obtain ⟨m, hm⟩ : ∃ m, mineB c pl = m := ⟨_, rfl⟩
  by_cases h : pl = 0
  · have H := hide (show upB c = m by rw [← hm, mineB, if_pos h])
    have d : (pl == 0) = true := by simp [h]
    have Hm := hide hm
    clear hm h
    go_enter Tryz.func85, Tryz.ntmps85
    go_wp2_with (go_at_call 74; refine (Hu.out _).mono ?_; rintro e w' ⟨rfl, rfl⟩)
    go_ret
    exact ⟨by rw [H.out, Hm.out] <;> rfl, rfl⟩
  · have H := hide (show lowB c = m by rw [← hm, mineB, if_neg h])
    have d : (pl == 0) = false := by simpa using h
    have Hm := hide hm
    clear hm h
    go_enter Tryz.func85, Tryz.ntmps85
    go_wp2_with (go_at_call 97; refine (Hl.out _).mono ?_; rintro e w' ⟨rfl, rfl⟩)
    go_ret
    exact ⟨by rw [H.out, Hm.out] <;> rfl, rfl⟩
set_option maxHeartbeats 400000 in
theorem owner_any (c : Nat) (w : World) : Calls Tryz.prog 70 #[.int .u8 c] w fun e w' => e = .returned (.int .i64 (ownN c)) ∧ w' = w := by
  have Hu := hide fun w => big_any c w
  have Hl := hide fun w => small_any c w
  obtain ⟨u, hu⟩ : ∃ u, upB c = u := ⟨_, rfl⟩
  obtain ⟨l, hl⟩ : ∃ l, lowB c = l := ⟨_, rfl⟩
  obtain ⟨m, hm⟩ : ∃ m, ownN c = m := ⟨_, rfl⟩
  rw [hu] at Hu
  rw [hl] at Hl
  have Hm := hide hm
  cases u
  · cases l
    · have H := hide (show 2 = m by rw [← hm]; simp [ownN, hu, hl])
      clear hm hu hl
      go_enter Tryz.func70, Tryz.ntmps70
      go_wp2_with (first | (go_at_call 67; refine (Hu.out _).mono ?_; rintro e w' ⟨rfl, rfl⟩) | (go_at_call 39; refine (Hl.out _).mono ?_; rintro e w' ⟨rfl, rfl⟩))
      go_ret
      exact ⟨ret_int (H.out.trans Hm.out.symm), rfl⟩
    · have H := hide (show 1 = m by rw [← hm]; simp [ownN, hu, hl])
      clear hm hu hl
      go_enter Tryz.func70, Tryz.ntmps70
      go_wp2_with (first | (go_at_call 67; refine (Hu.out _).mono ?_; rintro e w' ⟨rfl, rfl⟩) | (go_at_call 39; refine (Hl.out _).mono ?_; rintro e w' ⟨rfl, rfl⟩))
      go_ret
      exact ⟨ret_int (H.out.trans Hm.out.symm), rfl⟩
  · have H := hide (show 0 = m by rw [← hm]; simp [ownN, hu])
    clear hm hu hl Hl
    go_enter Tryz.func70, Tryz.ntmps70
    go_wp2_with (go_at_call 67; refine (Hu.out _).mono ?_; rintro e w' ⟨rfl, rfl⟩)
    go_ret
    exact ⟨ret_int (H.out.trans Hm.out.symm), rfl⟩
set_option maxHeartbeats 400000 in
theorem abs_any (n : Int) (hn : -9223372036854775807 ≤ n) (hn2 : n ≤ 9223372036854775807) (w : World) : Calls Tryz.prog 94 #[.int .i64 n] w fun e w' => e = .returned (.int .i64 (absI n)) ∧ w' = w := by
  obtain ⟨m, hm⟩ : ∃ m, absI n = m := ⟨_, rfl⟩
  have Hm := hide hm
  by_cases h : n < 0
  · have H := hide (show -n = m by rw [← hm]; unfold absI; rw [if_pos h])
    clear hm
    go_enter Tryz.func94, Tryz.ntmps94
    go_wp2_with fail
    go_ret
    exact ⟨ret_int (H.out.trans Hm.out.symm), rfl⟩
  · have H := hide (show n = m by rw [← hm]; unfold absI; rw [if_neg h])
    clear hm
    go_enter Tryz.func94, Tryz.ntmps94
    go_wp2_with fail
    go_ret
    exact ⟨ret_int (H.out.trans Hm.out.symm), rfl⟩
/-- one byte as a string -/
def markS (n : Nat) : ByteArray := bytes [u8 n]
end Go.Proofs.YtdfegpohmaideaaGreat
