/- rules.Check -/
import Derived.Test.YtdfegpohmaideaaGreatRuFits2
import Derived.Test.YtdfegpohmaideaaGreatRuWay
import Derived.Test.YtdfegpohmaideaaGreatBoardPos
namespace Go.Proofs.YtdfegpohmaideaaGreat
open Go.RowKit

/-- rules as they come in: no length is too great -/
structure RFit (r : RulesD) : Prop where
  c : r.start.cells.size ≤ 9223372036854775807
  h0 : r.start.h0.size ≤ 9223372036854775807
  h1 : r.start.h1.size ≤ 9223372036854775807
  n : r.pieces.length ≤ 9223372036854775807
  len : ∀ k (h : k < r.pieces.length), r.pieces[k].ways.length ≤ 9223372036854775807
def codeN (b : Bool) : Int := if b then 0 else 1
theorem code_bad {r : RulesD} (h : ¬ RulesOk r) : Ending.returned (.int .i64 1) = .returned (.int .i64 (codeN (rulesB r))) := by rw [rulesB_false.2 h]; rfl
theorem code_good {r : RulesD} (h : RulesOk r) : Ending.returned (.int .i64 0) = .returned (.int .i64 (codeN (rulesB r))) := by rw [rulesB_true.2 h]; rfl
theorem chk_l (p : Pos) (W : World) (hc : p.cells.size ≤ 9223372036854775807) (h0 : p.h0.size ≤ 9223372036854775807) (h1 : p.h1.size ≤ 9223372036854775807) (n : Int) (hn : (PosOk p → n = 0) ∧ (¬ PosOk p → n = 1)) :
    Calls Tryz.prog 56 #[.agg #[.int .i64 p.w, .int .i64 p.h, .string p.cells, .int .i64 p.turn, .string p.h0, .string p.h1]] W fun e w' => e = .returned (.int .i64 n) ∧ Later W w' := by
  by_cases h : PosOk p
  · rw [hn.1 h]; exact chk_good p.w p.h p.turn p.cells p.h0 p.h1 W hc h0 h1 h
  · rw [hn.2 h]; exact chk_bad p.w p.h p.turn p.cells p.h0 p.h1 W hc h0 h1 h
theorem Blk.three {w : World} {g : Nat} {t : TypeId} {v0 v1 v2 : Value} (h : Blk w g t #[v0, v1, v2]) : w.cell? ⟨g, 0, none⟩ = some v0 ∧ w.cell? ⟨g, 1, none⟩ = some v1 ∧ w.cell? ⟨g, 2, none⟩ = some v2 := ⟨h.cellv rfl, h.cellv rfl, h.cellv rfl⟩
theorem Later.blk {w w' : World} {g : Nat} {t : TypeId} {cs : Array Value} (h : Later w w') (k : Blk w g t cs) : Blk w' g t cs := k.below h k.lt

/-- how many there are, and the like -/
def HeadOk (r : RulesD) : Prop := 1 ≤ r.pieces.length ∧ r.pieces.length ≤ 10 ∧ (r.line = 0 ∨ (2 ≤ r.line ∧ r.line ≤ 8)) ∧ 1 ≤ r.plies ∧ r.plies ≤ 1000
theorem RulesOk.head {r : RulesD} (k : RulesOk r) : HeadOk r := ⟨k.p1, k.p10, k.line, k.pl1, k.pl2⟩
set_option maxHeartbeats 4000000 in
set_option maxRecDepth 100000 in
theorem check_b1 (r : RulesD) (A : Option Addr) (cp : Nat) (W : World) (hf : RFit r) (hpos : ¬ PosOk r.start) :
    Calls Tryz.prog 40 #[.agg #[.int .i64 r.start.w, .int .i64 r.start.h, .string r.start.cells, .int .i64 r.start.turn, .string r.start.h0, .string r.start.h1, .slice A r.pieces.length cp, .bool r.drops, .int .u8 r.lose, .int .i64 r.line, .int .u8 r.reach, .bool r.stuck, .int .i64 r.plies]] W fun e w' => e = .returned (.int .i64 (codeN (rulesB r))) ∧ Later W w' := by
  have HC := hide (fun w => chk_l r.start w hf.c hf.h0 hf.h1 1 ⟨fun h => absurd h hpos, fun _ => rfl⟩)
  have Hb1 := hide (code_bad (r := r) (fun h => hpos h.start))
  have Hlb := hide (show Later W (W.alloc (.cells #[.int .i64 r.start.w, .int .i64 r.start.h, .string r.start.cells, .int .i64 r.start.turn, .string r.start.h0, .string r.start.h1, .slice A r.pieces.length cp, .bool r.drops, .int .u8 r.lose, .int .i64 r.line, .int .u8 r.reach, .bool r.stuck, .int .i64 r.plies] 27)) from Later.rfl.alloc _)
  clear hpos hf
  go_enter Tryz.func40, Tryz.ntmps40
  go_wp2_with (go_at_call 56; refine (HC.out _).mono ?_; rintro e w1 ⟨rfl, hw1⟩)
  go_ret
  exact ⟨by rw [← Hb1.out] <;> rfl, Hlb.out.trans hw1⟩
set_option maxHeartbeats 4000000 in
set_option maxRecDepth 100000 in
theorem check_b2 (r : RulesD) (A : Option Addr) (cp : Nat) (W : World) (hf : RFit r) (hpos : PosOk r.start) (hall : ¬ HeadOk r) :
    Calls Tryz.prog 40 #[.agg #[.int .i64 r.start.w, .int .i64 r.start.h, .string r.start.cells, .int .i64 r.start.turn, .string r.start.h0, .string r.start.h1, .slice A r.pieces.length cp, .bool r.drops, .int .u8 r.lose, .int .i64 r.line, .int .u8 r.reach, .bool r.stuck, .int .i64 r.plies]] W fun e w' => e = .returned (.int .i64 (codeN (rulesB r))) ∧ Later W w' := by
  have HC := hide (fun w => chk_l r.start w hf.c hf.h0 hf.h1 0 ⟨fun _ => rfl, fun h => absurd hpos h⟩)
  have hn := hf.n
  have Hbx := hide (Blk.new W 27 #[.int .i64 r.start.w, .int .i64 r.start.h, .string r.start.cells, .int .i64 r.start.turn, .string r.start.h0, .string r.start.h1, .slice A r.pieces.length cp, .bool r.drops, .int .u8 r.lose, .int .i64 r.line, .int .u8 r.reach, .bool r.stuck, .int .i64 r.plies])
  have Hlb := hide (show Later W (W.alloc (.cells #[.int .i64 r.start.w, .int .i64 r.start.h, .string r.start.cells, .int .i64 r.start.turn, .string r.start.h0, .string r.start.h1, .slice A r.pieces.length cp, .bool r.drops, .int .u8 r.lose, .int .i64 r.line, .int .u8 r.reach, .bool r.stuck, .int .i64 r.plies] 27)) from Later.rfl.alloc _)
  have Hb1 := hide (code_bad (r := r) (fun h => hall h.head))
  have Hall := hide hall
  clear hpos hf hall
  go_enter Tryz.func40, Tryz.ntmps40
  go_wp2_with (go_at_call 56; refine (HC.out _).mono ?_; rintro e w1 ⟨rfl, hw1⟩; obtain ⟨x0, x1, x2, x3, x4, x5, x6, x7, x8, x9, x10, x11, x12⟩ := (hw1.blk Hbx.out).rules)
  all_goals first
    | (exfalso; exact Hall.out ⟨by omega, by omega, by omega, by omega, by omega⟩)
    | (go_ret; exact ⟨by rw [← Hb1.out] <;> rfl, Hlb.out.trans hw1⟩)
end Go.Proofs.YtdfegpohmaideaaGreat
