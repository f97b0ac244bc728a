/- rules.Fits -/
import Derived.Test.YtdfegpohmaideaaGreatRuFits
namespace Go.Proofs.YtdfegpohmaideaaGreat
open Go.RowKit

set_option maxHeartbeats 2000000 in
set_option maxRecDepth 20000 in
theorem fits_any (r : RulesD) (A : Option Addr) (cp : Nat) (p : Pos) (W : World) (hc : p.cells.size ≤ 1000) (h0 : p.h0.size ≤ 1000) (h1 : p.h1.size ≤ 1000) (hm : r.pieces.length ≤ 9223372036854775807) (hP : PiecesAt W W.heap.size A r.pieces) :
    Calls Tryz.prog 57 #[.agg #[.int .i64 r.start.w, .int .i64 r.start.h, .string r.start.cells, .int .i64 r.start.turn, .string r.start.h0, .string r.start.h1, .slice A r.pieces.length cp, .bool r.drops, .int .u8 r.lose, .int .i64 r.line, .int .u8 r.reach, .bool r.stuck, .int .i64 r.plies], .agg #[.int .i64 p.w, .int .i64 p.h, .string p.cells, .int .i64 p.turn, .string p.h0, .string p.h1]] W fun e w' => e = .returned (.bool (fitsB r.pieces p.all)) ∧ Later W w' := by
  have HQ := hide (fun (k : Nat) (w : World) (hw : Later W w) => rpiece_any r A cp k w hm ((hP.below hw).more hw.size))
  clear hP
  have hbx := (Blk.new W 27 #[.int .i64 r.start.w, .int .i64 r.start.h, .string r.start.cells, .int .i64 r.start.turn, .string r.start.h0, .string r.start.h1, .slice A r.pieces.length cp, .bool r.drops, .int .u8 r.lose, .int .i64 r.line, .int .u8 r.reach, .bool r.stuck, .int .i64 r.plies]).alloc (.cells #[.int .i64 p.w, .int .i64 p.h, .string p.cells, .int .i64 p.turn, .string p.h0, .string p.h1] 24)
  have Hbx := hide hbx
  have Hlb := hide (show Later W ((W.alloc (.cells #[.int .i64 r.start.w, .int .i64 r.start.h, .string r.start.cells, .int .i64 r.start.turn, .string r.start.h0, .string r.start.h1, .slice A r.pieces.length cp, .bool r.drops, .int .u8 r.lose, .int .i64 r.line, .int .u8 r.reach, .bool r.stuck, .int .i64 r.plies] 27)).alloc (.cells #[.int .i64 p.w, .int .i64 p.h, .string p.cells, .int .i64 p.turn, .string p.h0, .string p.h1] 24)) from (Later.rfl.alloc _).alloc _)
  clear hbx
  go_enter Tryz.func57, Tryz.ntmps57
  go_wp2_with fail
  have hall : (p.cells ++ p.h0 ++ p.h1).data.toList = p.all := by unfold Pos.all; simp
  have hsz : (p.cells.size : Int) + (p.h0.size : Int) + (p.h1.size : Int) = ((p.cells ++ p.h0 ++ p.h1).size : Int) := by simp
  have hs : (p.cells ++ p.h0 ++ p.h1).size ≤ 9223372036854775807 := by simp; omega
  rw [hsz]
  obtain ⟨s, hs'⟩ : ∃ s, p.cells ++ p.h0 ++ p.h1 = s := ⟨_, rfl⟩
  rw [hs'] at hs hall ⊢
  have HA := hide hall
  clear hs' hall hsz
  go_loopw [19] (fun i wr => ∃ k : Nat, k ≤ s.size ∧ i = .int .i64 k ∧ FitsTo r.pieces s.data.toList k ∧ Blk wr W.heap.size 27 #[.int .i64 r.start.w, .int .i64 r.start.h, .string r.start.cells, .int .i64 r.start.turn, .string r.start.h0, .string r.start.h1, .slice A r.pieces.length cp, .bool r.drops, .int .u8 r.lose, .int .i64 r.line, .int .u8 r.reach, .bool r.stuck, .int .i64 r.plies] ∧ Later W wr) (fun i _ => s.size - (intOf i).toNat)
  case atStart => exact ⟨0, by omega, rfl, fun j _ h => by omega, Hbx.out, Hlb.out⟩
  case round =>
    rename World => wr
    obtain ⟨k, hk, rfl, hto, hbx, hw⟩ := hrel
    have Hto := hide hto
    have Hw := hide hw
    have Hb := hide hbx
    clear hto hw Hbx Hlb
    by_cases hlt : k < s.size
    · have j1 : (0 : Int) ≤ (k : Int) := by omega
      have j2 : (k : Int) < (s.size : Int) := by omega
      by_cases h46 : s[k].toNat = 46
      · have d1 : ((s[k].toNat : Int) != 46) = false := by simp; omega
        have Hn := hide (fitsTo_next Hto.out hlt (.inl h46))
        clear h46 hbx
        go_wp2_with fail
        go_quiet (fail)
        go_wp2_with fail
        go_roundw
        case rel => exact ⟨k + 1, by omega, by go_num, Hn.out, Hb.out.drewN _, Hw.out.drewN _⟩
        case measure => simp [intOf]; omega
      · have d1 : ((s[k].toNat : Int) != 46) = true := by simp; omega
        obtain ⟨u, hu⟩ : ∃ u, (pieceX r.pieces s[k].toNat).isSome = u := ⟨_, rfl⟩
        have d2 : decide (pieceI r.pieces s[k].toNat < 0) = !u := by rw [← hu]; exact numX_neg (pieceX r.pieces s[k].toNat)
        have hq := fun w hw => HQ.out s[k].toNat w hw
        obtain ⟨pi, hpi⟩ : ∃ pi, pieceI r.pieces s[k].toNat = pi := ⟨_, rfl⟩
        rw [hpi] at d2
        simp only [hpi] at hq
        have Hq := hide hq
        clear hpi hq
        cases u
        · have Hf := hide (fits_not hlt h46 hu)
          clear h46 hu
          obtain ⟨x0, x1, x2, x3, x4, x5, x6, x7, x8, x9, x10, x11, x12⟩ := hbx.rules
          clear hbx
          go_wp2_with fail
          have hw0 := Hw.out
          have hw1 := Hw.out.drew
          go_region_with ((go_at_call 75; refine (Hq.out _ (by assumption)).mono ?_; rintro e w2 ⟨rfl, hw2⟩))
          all_goals
            go_wp2_with fail
            go_ret
            exact ⟨by rw [← HA.out, Hf.out] <;> rfl, hw1.trans hw2⟩
        · have Hn := hide (fitsTo_next Hto.out hlt (.inr hu))
          clear h46 hu
          obtain ⟨x0, x1, x2, x3, x4, x5, x6, x7, x8, x9, x10, x11, x12⟩ := hbx.rules
          clear hbx
          go_wp2_with fail
          have hw0 := Hw.out
          have hw1 := Hw.out.drew
          go_region_with ((go_at_call 75; refine (Hq.out _ (by assumption)).mono ?_; rintro e w2 ⟨rfl, hw2⟩))
          all_goals
            go_wp2_with fail
            go_roundw
            case rel => exact ⟨k + 1, by omega, by go_num, Hn.out, Hb.out.drew.below hw2 Hb.out.drew.lt, hw1.trans hw2⟩
            case measure => simp [intOf]; omega
    · have Hf := hide (fitsTo_all (ps := r.pieces) (l := s.data.toList) (by rw [show s.data.toList.length = k by have : s.data.toList.length = s.size := rfl; omega]; exact Hto.out))
      go_wp2_with fail
      go_ret
      exact ⟨by rw [← HA.out, Hf.out] <;> rfl, Hw.out⟩
end Go.Proofs.YtdfegpohmaideaaGreat
