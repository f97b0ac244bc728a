/- gameref.mark, and a mark that a text contains -/
import Derived.Test.YtdfegpohmaideaaGreatMvReach
import Derived.Laws.IdiomStrings
namespace Go.Proofs.YtdfegpohmaideaaGreat
open Go.RowKit

theorem letN_add {c : Nat} (h : upB c = true) : IntKind.u8.wrap ((c : Int) + 32) = ((c + 32 : Nat) : Int) := by
  have := upB_lt h
  rw [show (c : Int) + 32 = ((c + 32 : Nat) : Int) by omega]
  exact IntWalk.u8_in _ (by omega)
theorem conv_one (q : Nat) (hq : q < 256) (w : World) : (convert 78 9 (.slice (some ⟨w.heap.size, 0, none⟩) 1 1)).run Tryz.prog (w.alloc (.cells #[.int .u8 q] 5)) = .ok (.string (bytes [u8 q])) (w.alloc (.cells #[.int .u8 q] 5)) := by
  have h := run_convert_bytes_back (P := Tryz.prog) (w.alloc (.cells #[.int .u8 q] 5)) 78 9 5 ⟨w.heap.size, 0, none⟩ 1 [u8 q] Tryz.underlying78 Tryz.underlying5 Tryz.underlying9 (fun j hj => by
    have hj0 : j = 0 := by simpa using hj
    subst hj0
    rw [Addr.add_lit, (Blk.new w 5 #[.int .u8 q]).cell]
    simp [u8_nat hq])
  exact h
set_option maxHeartbeats 1000000 in
theorem mark_any (c : Nat) (pl : Int) (hc : upB c = true) (w : World) : Calls Tryz.prog 36 #[.int .u8 c, .int .i64 pl] w fun e w' => e = .returned (.string (bytes [u8 (letN c pl)])) ∧ Later w w' := by
  have HB := hide (letN_lt hc pl)
  have Hl : Hid (Later w w) := Later.rfl
  obtain ⟨m, hm⟩ : ∃ m, letN c pl = m := ⟨_, rfl⟩
  rw [hm] at HB
  have hcv := conv_one m HB.out w
  have Hm := hide hm
  by_cases h : pl = 1
  · have H := hide (show c + 32 = m by rw [← hm, letN, if_pos h])
    have d : (pl == 1) = true := by simp [h]
    have hw := letN_add hc
    rw [H.out] at hw
    clear hm h hc
    go_enter Tryz.func36, Tryz.ntmps36
    go_wp2_with fail
    go_ret
    exact ⟨by rw [Hm.out] <;> rfl, Hl.out.alloc _⟩
  · have H : c = m := by rw [← hm, letN, if_neg h]
    have d : (pl == 1) = false := by simpa using h
    subst H
    clear hm h hc
    go_enter Tryz.func36, Tryz.ntmps36
    go_wp2_with fail
    go_ret
    exact ⟨by rw [Hm.out] <;> rfl, Hl.out.alloc _⟩
theorem contains_any (s : ByteArray) (c : Nat) (hc : c < 256) (w : World) : Calls Tryz.prog 35 #[.string s, .string (bytes [u8 c])] w fun e w' => e = .returned (.bool (hasL s.data.toList c)) ∧ w' = w := by
  refine (Tryz.strings_Contains_one s (u8 c) w).mono ?_
  rintro e w' ⟨rfl, rfl⟩
  refine ⟨?_, rfl⟩
  congr 2
  have := indexByte_has (u8 c) s.data.toList
  rw [u8_any hc] at this
  rw [Bool.eq_iff_iff, decide_eq_true_eq, this]
end Go.Proofs.YtdfegpohmaideaaGreat
