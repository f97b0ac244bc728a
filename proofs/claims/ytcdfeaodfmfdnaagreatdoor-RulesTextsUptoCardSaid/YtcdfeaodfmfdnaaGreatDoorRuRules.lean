/- gameref.Rules -/
import Derived.Test.YtcdfeaodfmfdnaaGreatDoorRuChk
namespace Go.Proofs.YtcdfeaodfmfdnaaGreatDoor
open Go.RowKit

theorem rb_bad {r : RulesD} (h : ¬ RulesOk r) : Ending.returned (.bool false) = .returned (.bool (rulesB r)) := by rw [rulesB_false.2 h]
theorem rb_good {r : RulesD} (h : RulesOk r) : Ending.returned (.bool true) = .returned (.bool (rulesB r)) := by rw [rulesB_true.2 h]
theorem pos_l (p : Pos) (W : World) (hc : p.cells.size ≤ 9223372036854775807) (h0 : p.h0.size ≤ 9223372036854775807) (h1 : p.h1.size ≤ 9223372036854775807) (n : Bool) (hn : (PosOk p → n = true) ∧ (¬ PosOk p → n = false)) :
    Calls Tryz.prog 39 #[.agg #[.int .i64 p.w, .int .i64 p.h, .string p.cells, .int .i64 p.turn, .string p.h0, .string p.h1]] W fun e w' => e = .returned (.bool n) ∧ Later W w' := by
  by_cases h : PosOk p
  · rw [hn.1 h]; exact pos_good p.w p.h p.turn p.cells p.h0 p.h1 W hc h0 h1 h
  · rw [hn.2 h]; exact pos_bad p.w p.h p.turn p.cells p.h0 p.h1 W hc h0 h1 h

set_option maxHeartbeats 4000000 in
set_option maxRecDepth 100000 in
theorem rules_b1 (r : RulesD) (A : Option Addr) (cp : Nat) (W : World) (hf : RFit r) (hpos : ¬ PosOk r.start) :
    Calls Tryz.prog 13 #[.agg #[.int .i64 r.start.w, .int .i64 r.start.h, .string r.start.cells, .int .i64 r.start.turn, .string r.start.h0, .string r.start.h1, .slice A r.pieces.length cp, .bool r.drops, .int .u8 r.lose, .int .i64 r.line, .int .u8 r.reach, .bool r.stuck, .int .i64 r.plies]] W fun e w' => e = .returned (.bool (rulesB r)) ∧ Later W w' := by
  have HC := hide (fun w => pos_l r.start w hf.c hf.h0 hf.h1 false ⟨fun h => absurd h hpos, fun _ => rfl⟩)
  have Hb1 := hide (rb_bad (r := r) (fun h => hpos h.start))
  have Hlb := hide (show Later W (W.alloc (.cells #[.int .i64 r.start.w, .int .i64 r.start.h, .string r.start.cells, .int .i64 r.start.turn, .string r.start.h0, .string r.start.h1, .slice A r.pieces.length cp, .bool r.drops, .int .u8 r.lose, .int .i64 r.line, .int .u8 r.reach, .bool r.stuck, .int .i64 r.plies] 27)) from Later.rfl.alloc _)
  clear hpos hf
  go_enter Tryz.func13, Tryz.ntmps13
  go_wp2_with (go_at_call 39; refine (HC.out _).mono ?_; rintro e w1 ⟨rfl, hw1⟩)
  go_ret
  exact ⟨by rw [← Hb1.out] <;> rfl, Hlb.out.trans hw1⟩
set_option maxHeartbeats 4000000 in
set_option maxRecDepth 100000 in
theorem rules_b2 (r : RulesD) (A : Option Addr) (cp : Nat) (W : World) (hf : RFit r) (hpos : PosOk r.start) (hall : ¬ HeadOk r) :
    Calls Tryz.prog 13 #[.agg #[.int .i64 r.start.w, .int .i64 r.start.h, .string r.start.cells, .int .i64 r.start.turn, .string r.start.h0, .string r.start.h1, .slice A r.pieces.length cp, .bool r.drops, .int .u8 r.lose, .int .i64 r.line, .int .u8 r.reach, .bool r.stuck, .int .i64 r.plies]] W fun e w' => e = .returned (.bool (rulesB r)) ∧ Later W w' := by
  have HC := hide (fun w => pos_l r.start w hf.c hf.h0 hf.h1 true ⟨fun _ => rfl, fun h => absurd hpos h⟩)
  have hn := hf.n
  have Hbx := hide (Blk.new W 27 #[.int .i64 r.start.w, .int .i64 r.start.h, .string r.start.cells, .int .i64 r.start.turn, .string r.start.h0, .string r.start.h1, .slice A r.pieces.length cp, .bool r.drops, .int .u8 r.lose, .int .i64 r.line, .int .u8 r.reach, .bool r.stuck, .int .i64 r.plies])
  have Hlb := hide (show Later W (W.alloc (.cells #[.int .i64 r.start.w, .int .i64 r.start.h, .string r.start.cells, .int .i64 r.start.turn, .string r.start.h0, .string r.start.h1, .slice A r.pieces.length cp, .bool r.drops, .int .u8 r.lose, .int .i64 r.line, .int .u8 r.reach, .bool r.stuck, .int .i64 r.plies] 27)) from Later.rfl.alloc _)
  have Hb1 := hide (rb_bad (r := r) (fun h => hall h.head))
  have Hall := hide hall
  clear hpos hf hall
  go_enter Tryz.func13, Tryz.ntmps13
  go_wp2_with (go_at_call 39; refine (HC.out _).mono ?_; rintro e w1 ⟨rfl, hw1⟩; obtain ⟨x0, x1, x2, x3, x4, x5, x6, x7, x8, x9, x10, x11, x12⟩ := (hw1.blk Hbx.out).rules)
  all_goals first
    | (exfalso; exact Hall.out ⟨by omega, by omega, by omega, by omega, by omega⟩)
    | (go_ret; exact ⟨by rw [← Hb1.out] <;> rfl, Hlb.out.trans hw1⟩)
end Go.Proofs.YtcdfeaodfmfdnaaGreatDoor
