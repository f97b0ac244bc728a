/- rules.Piece, gameref.piece: which piece has a letter? -/
import Derived.Test.YtdfegpohmaideaaGreatOther
import Derived.Test.YtdfegpohmaideaaGreatRulesMem
import Derived.Test.YtdfegpohmaideaaGreatAppends
namespace Go.Proofs.YtdfegpohmaideaaGreat
open Go.RowKit

/-- what was there is as it was -/
def Later (w w' : World) : Prop := Below w.heap.size w w'
theorem Later.rfl {w : World} : Later w w := Below.refl _ _
theorem Later.trans {a b c : World} (h : Later a b) (k : Later b c) : Later a c := Below.trans h (k.mono h.size)
theorem Later.alloc {a b : World} (h : Later a b) (o : Obj) : Later a (b.alloc o) := below_alloc0 h o
theorem Later.drewN {a b : World} (h : Later a b) (n : Nat) : Later a (b.drewN n) := below_drewN h n
theorem Later.drew {a b : World} (h : Later a b) : Later a b.drew := below_drew_ h
theorem Later.set {a b : World} (h : Later a b) {p : Addr} (hp : a.heap.size ≤ p.block) (u : Value) : Later a (b.setCell p u) := Below.setCell h hp u

theorem capN_other {c : Nat} (h : lowB c = true) : otherN c = capN c := by
  have h1 := lowB_lt h
  rw [capN_low h]
  unfold otherN
  rw [if_neg (by rw [upB_f (by omega)]; decide), if_pos h]
theorem eq_bool {a b : Nat} {v : Bool} (h : (a == b) = v) : ((a : Int) == (b : Int)) = v := by
  rw [← h]
  rw [Bool.eq_iff_iff]; simp; omega

set_option maxHeartbeats 400000 in
theorem clo_piece (l : Nat) (wo : Int) (Ak : Option Addr) (n ck : Nat) (c bc : Nat) (v : Bool) (w : World) (hv : (l == c) = v) (hc : w.cell? ⟨bc, 0, none⟩ = some (.int .u8 c)) (hb : bc < w.heap.size) :
    Calls Tryz.prog 99 #[.agg #[.int .u8 l, .int .i64 wo, .slice Ak n ck], .pointer (some ⟨bc, 0, none⟩)] w fun e w' => e = .returned (.bool v) ∧ Later w w' := by
  have hv2 := eq_bool hv
  clear hv
  go_enter Tryz.func99, Tryz.ntmps99
  go_wp2_with fail
  go_ret
  exact ⟨rfl, Later.rfl.alloc _⟩

set_option maxHeartbeats 1000000 in
set_option maxRecDepth 20000 in
theorem index_piece (A : Option Addr) (cp : Nat) (ps : List PieceD) (c bc : Nat) (W : World) (hm : ps.length ≤ 9223372036854775807) (hP : PiecesAt W W.heap.size A ps) (hc : W.cell? ⟨bc, 0, none⟩ = some (.int .u8 c)) (hb : bc < W.heap.size) :
    Calls Tryz.prog 98 #[.slice A ps.length cp, .func (.func 99) #[] #[.pointer (some ⟨bc, 0, none⟩)]] W fun e w' => e = .returned (.int .i64 (numX (firstX ps c))) ∧ Later W w' := by
  have HP := hide hP
  have HC := hide (fun l wo Ak n ck v w (hv : (l == c) = v) (hw : Later W w) => clo_piece l wo Ak n ck c bc v w hv (by rw [Below.cell hw hb]; exact hc) (Nat.lt_of_lt_of_le hb hw.size))
  clear hP hc
  go_enter Tryz.func98, Tryz.ntmps98
  go_wp2_with fail
  go_loopw [8] (fun i wr => ∃ k : Nat, k ≤ ps.length ∧ i = .int .i64 k ∧ (∀ j (h : j < ps.length), j < k → ps[j].letter ≠ c) ∧ Later W wr) (fun i _ => ps.length - (intOf i).toNat)
  case atStart => exact ⟨0, by omega, rfl, fun j _ h => by omega, Later.rfl⟩
  case round =>
    rename World => wr
    obtain ⟨k, hk, rfl, hall, hw⟩ := hrel
    have Hall := hide hall
    have Hw := hide hw
    clear hall hw
    by_cases hlt : k < ps.length
    · obtain ⟨b, off, rfl, hbA, x0, x1, Ak, ck, _, x2, _⟩ := (HP.out.below Hw.out).at_ hlt
      obtain ⟨v, hv⟩ : ∃ v, (ps[k].letter == c) = v := ⟨_, rfl⟩
      have HCk := hide (HC.out ps[k].letter ps[k].worth Ak ps[k].ways.length ck v wr hv Hw.out)
      cases v
      · have Hn := hide (show ∀ j (h : j < ps.length), j < k + 1 → ps[j].letter ≠ c from fun j h hj => by
          by_cases e : j = k
          · subst e; simpa using hv
          · exact Hall.out j h (by omega))
        clear hv
        go_wp2_with (go_at_call 99; refine HCk.out.mono ?_; rintro e w2 ⟨rfl, hw2⟩)
        go_roundw
        case rel => exact ⟨k + 1, by omega, by go_num, Hn.out, Hw.out.trans hw2⟩
        case measure => simp [intOf]; omega
      · have Hr := hide (show numX (firstX ps c) = (k : Int) by
          rw [firstX_some hlt (by simpa using hv) (fun j hj h => Hall.out j hj h)]; rfl)
        clear hv
        go_wp2_with (go_at_call 99; refine HCk.out.mono ?_; rintro e w2 ⟨rfl, hw2⟩)
        go_ret
        exact ⟨by rw [Hr.out] <;> rfl, Hw.out.trans hw2⟩
    · have Hr := hide (show numX (firstX ps c) = -1 by
        rw [firstX_none (fun j hj => Hall.out j hj (by omega))]; rfl)
      go_wp2_with fail
      go_ret
      exact ⟨by rw [Hr.out] <;> rfl, Hw.out⟩

set_option maxHeartbeats 1000000 in
set_option maxRecDepth 20000 in
theorem rpiece_any (r : RulesD) (A : Option Addr) (cp : Nat) (c : Nat) (W : World) (hm : r.pieces.length ≤ 9223372036854775807) (hP : PiecesAt W W.heap.size A r.pieces) :
    Calls Tryz.prog 75 #[.agg #[.int .i64 r.start.w, .int .i64 r.start.h, .string r.start.cells, .int .i64 r.start.turn, .string r.start.h0, .string r.start.h1, .slice A r.pieces.length cp, .bool r.drops, .int .u8 r.lose, .int .i64 r.line, .int .u8 r.reach, .bool r.stuck, .int .i64 r.plies], .int .u8 c] W fun e w' => e = .returned (.int .i64 (pieceI r.pieces c)) ∧ Later W w' := by
  have HI := hide (fun (k : Nat) => index_piece A cp r.pieces k (W.heap.size + 1) ((W.alloc (.cells #[.int .i64 r.start.w, .int .i64 r.start.h, .string r.start.cells, .int .i64 r.start.turn, .string r.start.h0, .string r.start.h1, .slice A r.pieces.length cp, .bool r.drops, .int .u8 r.lose, .int .i64 r.line, .int .u8 r.reach, .bool r.stuck, .int .i64 r.plies] 27)).alloc (.cells #[.int .u8 k] 5)) hm
    ((hP.below ((Later.rfl.alloc _).alloc _)).more (by simp; omega)) (by simp) (by simp))
  have Hl := hide (fun w => lower_any c w)
  have Ho := hide (fun w => other_any c w)
  clear hP
  obtain ⟨v, hv⟩ : ∃ v, lowB c = v := ⟨_, rfl⟩
  rw [hv] at Hl
  cases v
  · have Hr := hide (show pieceI r.pieces c = numX (firstX r.pieces c) by unfold pieceI pieceX; rw [capN_not hv])
    clear hv Ho
    go_enter Tryz.func75, Tryz.ntmps75
    go_wp2_with (first
      | (go_at_call 97; refine (Hl.out _).mono ?_; rintro e w' ⟨rfl, hw'⟩; rw [hw']; clear hw')
      | (go_at_call 98; refine (HI.out _).mono ?_; rintro e w1 ⟨rfl, hw1⟩))
    go_ret
    exact ⟨by rw [Hr.out] <;> rfl, Later.trans ((Later.rfl.alloc _).alloc _) hw1⟩
  · have Hr := hide (show pieceI r.pieces c = numX (firstX r.pieces (otherN c)) by unfold pieceI pieceX; rw [capN_other hv])
    clear hv
    go_enter Tryz.func75, Tryz.ntmps75
    go_wp2_with (first
      | (go_at_call 97; refine (Hl.out _).mono ?_; rintro e w' ⟨rfl, hw'⟩; rw [hw']; clear hw')
      | (go_at_call 92; refine (Ho.out _).mono ?_; rintro e w' ⟨rfl, hw'⟩; rw [hw']; clear hw')
      | (go_at_call 98; refine (HI.out _).mono ?_; rintro e w1 ⟨rfl, hw1⟩))
    go_ret
    exact ⟨by rw [Hr.out] <;> rfl, Later.trans ((Later.rfl.alloc _).alloc _) hw1⟩
end Go.Proofs.YtdfegpohmaideaaGreat
