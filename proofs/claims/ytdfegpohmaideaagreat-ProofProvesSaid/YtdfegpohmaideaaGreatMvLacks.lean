/- moves.lacks, moves.reached -/
import Derived.Test.YtdfegpohmaideaaGreatMvLetter
import Derived.Test.YtdfegpohmaideaaGreatRuCheck
import Derived.Test.YtdfegpohmaideaaGreatShelf
import Derived.Lib.IndexLaws
namespace Go.Proofs.YtdfegpohmaideaaGreat
open Go.RowKit

theorem indexByte_has (c : UInt8) : ∀ l : List UInt8, 0 ≤ Lib.indexByte l c ↔ hasL l c.toNat = true
  | [] => by simp [Lib.indexByte, hasL]
  | b :: l => by
    have ih := indexByte_has c l
    have hge := Lib.indexByte_ge l c
    unfold Lib.indexByte hasL
    rw [List.any_cons]
    by_cases h : b = c
    · subst h; simp
    · have h1 : (b == c) = false := by simpa using h
      have h2 : (b.toNat == c.toNat) = false := by
        simp only [beq_eq_false_iff_ne, ne_eq]
        exact fun e => h (UInt8.toNat_inj.1 e)
      rw [h1, h2]
      simp only [Bool.false_eq_true, if_false, Bool.false_or]
      unfold hasL at ih
      rw [← ih]
      split
      · rename_i h3
        have h4 : Lib.indexByte l c = -1 := by simpa using h3
        omega
      · rename_i h3
        have h4 : Lib.indexByte l c ≠ -1 := by simpa using h3
        omega
theorem toU8 {c : Nat} : ((c : Int).toNat.toUInt8) = u8 c := by simp [u8]
theorem u8_any {l : List UInt8} {c : Nat} (h : c < 256) : hasL l (u8 c).toNat = hasL l c := by rw [u8_nat h]
theorem index_neg {l : List UInt8} {c : Nat} (h : c < 256) : decide (Lib.indexByte l ((c : Int).toNat.toUInt8) < 0) = !hasL l c := by
  have := indexByte_has (u8 c) l
  rw [u8_any h] at this
  rw [toU8, Bool.eq_iff_iff]
  simp only [decide_eq_true_eq, Bool.not_eq_true', ← Bool.not_eq_true, ← this]
  omega
theorem index_pos {l : List UInt8} {c : Nat} (h : c < 256) : decide (Lib.indexByte l ((c : Int).toNat.toUInt8) ≥ 0) = hasL l c := by
  have := indexByte_has (u8 c) l
  rw [u8_any h] at this
  rw [toU8, Bool.eq_iff_iff]
  simp only [decide_eq_true_eq, ← this, ge_iff_le]
theorem letN_lt {c : Nat} (h : upB c = true) (pl : Int) : letN c pl < 256 := by
  have := upB_lt h
  unfold letN
  split <;> omega
/-- no letter, or a capital one -/
def CapOk (c : Nat) : Prop := c = 0 ∨ upB c = true

set_option maxHeartbeats 1000000 in
set_option maxRecDepth 20000 in
theorem lacks_any (r : RulesD) (A : Option Addr) (cp : Nat) (p : Pos) (pl : Int) (W : World) (hl : CapOk r.lose) :
    Calls Tryz.prog 58 #[.agg #[.int .i64 r.start.w, .int .i64 r.start.h, .string r.start.cells, .int .i64 r.start.turn, .string r.start.h0, .string r.start.h1, .slice A r.pieces.length cp, .bool r.drops, .int .u8 r.lose, .int .i64 r.line, .int .u8 r.reach, .bool r.stuck, .int .i64 r.plies], .agg #[.int .i64 p.w, .int .i64 p.h, .string p.cells, .int .i64 p.turn, .string p.h0, .string p.h1], .int .i64 pl] W fun e w' => e = .returned (.bool (lacksB r p pl)) ∧ Later W w' := by
  have hbx := (Blk.new W 27 #[.int .i64 r.start.w, .int .i64 r.start.h, .string r.start.cells, .int .i64 r.start.turn, .string r.start.h0, .string r.start.h1, .slice A r.pieces.length cp, .bool r.drops, .int .u8 r.lose, .int .i64 r.line, .int .u8 r.reach, .bool r.stuck, .int .i64 r.plies]).alloc (.cells #[.int .i64 p.w, .int .i64 p.h, .string p.cells, .int .i64 p.turn, .string p.h0, .string p.h1] 24)
  have hbp := Blk.new (W.alloc (.cells #[.int .i64 r.start.w, .int .i64 r.start.h, .string r.start.cells, .int .i64 r.start.turn, .string r.start.h0, .string r.start.h1, .slice A r.pieces.length cp, .bool r.drops, .int .u8 r.lose, .int .i64 r.line, .int .u8 r.reach, .bool r.stuck, .int .i64 r.plies] 27)) 24 #[.int .i64 p.w, .int .i64 p.h, .string p.cells, .int .i64 p.turn, .string p.h0, .string p.h1]
  have Hlb := hide (show Later W ((W.alloc (.cells #[.int .i64 r.start.w, .int .i64 r.start.h, .string r.start.cells, .int .i64 r.start.turn, .string r.start.h0, .string r.start.h1, .slice A r.pieces.length cp, .bool r.drops, .int .u8 r.lose, .int .i64 r.line, .int .u8 r.reach, .bool r.stuck, .int .i64 r.plies] 27)).alloc (.cells #[.int .i64 p.w, .int .i64 p.h, .string p.cells, .int .i64 p.turn, .string p.h0, .string p.h1] 24)) from (Later.rfl.alloc _).alloc _)
  by_cases h0 : r.lose = 0
  · have d1 : ((r.lose : Int) != 0) = false := by simp [h0]
    have Hr := hide (show lacksB r p pl = false by simp [lacksB, h0])
    clear h0 hl hbx hbp
    go_enter Tryz.func58, Tryz.ntmps58
    go_wp2_with fail
    go_quiet (fail)
    go_wp2_with fail
    go_ret
    exact ⟨by rw [Hr.out] <;> rfl, Hlb.out.drewN _⟩
  · have hu : upB r.lose = true := by
      rcases hl with h | h
      · exact absurd h h0
      · exact h
    have d1 : ((r.lose : Int) != 0) = true := by simp; omega
    have hlet := fun w => letter_any r.lose pl w
    rw [letG_up hu] at hlet
    have hx := index_neg (l := p.cells.data.toList) (letN_lt hu pl)
    have hr : lacksB r p pl = !hasL p.cells.data.toList (letN r.lose pl) := by simp [lacksB, h0]
    obtain ⟨q, hq⟩ : ∃ q, letN r.lose pl = q := ⟨_, rfl⟩
    rw [hq] at hlet hx hr
    have hcall := fun w => Tryz.strings_IndexByte p.cells q w
    obtain ⟨k, hk⟩ : ∃ k, Lib.indexByte p.cells.data.toList ((q : Int).toNat.toUInt8) = k := ⟨_, rfl⟩
    rw [hk] at hx
    simp only [hk] at hcall
    rw [← hr] at hx
    obtain ⟨v, hv⟩ : ∃ v, lacksB r p pl = v := ⟨_, rfl⟩
    rw [hv] at hx ⊢
    have Hlet := hide hlet
    have Hcall := hide hcall
    clear hlet hcall hk hr hv hq h0 hl hu hbx hbp
    go_enter Tryz.func58, Tryz.ntmps58
    go_wp2_with fail
    go_quiet ((first | (go_at_call 63; exact Calls.quiet_of_same (Hlet.out _)) | (go_at_call 38; exact Calls.quiet_of_same (Hcall.out _))))
    go_wp2_with fail
    go_ret
    exact ⟨rfl, Hlb.out.drewN _⟩
end Go.Proofs.YtdfegpohmaideaaGreat
