/- gameref.piece, rules.Fits, gameref.letters -/
import Derived.Test.YtdfegpohmaideaaGreatRuPiece
namespace Go.Proofs.YtdfegpohmaideaaGreat
open Go.RowKit

theorem low_sub {c : Nat} (h : lowB c = true) : IntKind.u8.wrap ((c : Int) - 32) = ((capN c : Nat) : Int) := by
  have h1 := lowB_lt h
  rw [capN_low h]
  rw [show (c : Int) - 32 = ((c - 32 : Nat) : Int) by omega]
  exact IntWalk.u8_in _ (by omega)
set_option maxHeartbeats 1000000 in
set_option maxRecDepth 20000 in
theorem refpiece_any (r : RulesD) (A : Option Addr) (cp : Nat) (c : Nat) (W : World) (hm : r.pieces.length ≤ 9223372036854775807) (hP : PiecesAt W W.heap.size A r.pieces) :
    Calls Tryz.prog 68 #[.agg #[.int .i64 r.start.w, .int .i64 r.start.h, .string r.start.cells, .int .i64 r.start.turn, .string r.start.h0, .string r.start.h1, .slice A r.pieces.length cp, .bool r.drops, .int .u8 r.lose, .int .i64 r.line, .int .u8 r.reach, .bool r.stuck, .int .i64 r.plies], .int .u8 c] W fun e w' => e = .returned (.int .i64 (pieceI r.pieces c)) ∧ Later W w' := by
  have HP := hide (hP.below (Later.rfl.alloc (.cells #[.int .i64 r.start.w, .int .i64 r.start.h, .string r.start.cells, .int .i64 r.start.turn, .string r.start.h0, .string r.start.h1, .slice A r.pieces.length cp, .bool r.drops, .int .u8 r.lose, .int .i64 r.line, .int .u8 r.reach, .bool r.stuck, .int .i64 r.plies] 27)))
  have Hl := hide (fun w => small_any c w)
  clear hP
  obtain ⟨v, hv⟩ : ∃ v, lowB c = v := ⟨_, rfl⟩
  rw [hv] at Hl
  obtain ⟨ps, hps⟩ : ∃ ps, r.pieces = ps := ⟨_, rfl⟩
  have hcap : v = true → IntKind.u8.wrap ((c : Int) - 32) = ((capN c : Nat) : Int) := fun h => low_sub (by rw [hv, h])
  have hnot : v = false → (capN c : Nat) = c := fun h => capN_not (by rw [hv, h])
  obtain ⟨k0, hk0⟩ : ∃ k0, capN c = k0 := ⟨_, rfl⟩
  have Hr := hide (show pieceI r.pieces c = numX (firstX ps k0) by unfold pieceI pieceX; rw [hps, hk0])
  rw [hk0] at hcap hnot
  rw [hps] at HP hm ⊢
  rw [hps] at Hr
  clear hv hps hk0
  cases v
  · have hn := hnot (by first | exact rfl | exact trivial)
    subst hn
    clear hcap hnot
    go_enter Tryz.func68, Tryz.ntmps68
    go_wp2_with (go_at_call 39; refine (Hl.out _).mono ?_; rintro e w' ⟨rfl, hw'⟩; rw [hw']; clear hw')
    go_loop [5] (fun i => ∃ k : Nat, k ≤ ps.length ∧ i = .int .i64 k ∧ (∀ j (h : j < ps.length), j < k → ps[j].letter ≠ k0)) (fun i => ps.length - (intOf i).toNat)
    case atStart => exact ⟨0, by omega, rfl, fun j _ h => by omega⟩
    case round =>
      obtain ⟨k, hk, rfl, hall⟩ := hrel
      have Hall := hide hall
      clear hall
      by_cases hlt : k < ps.length
      · obtain ⟨b, off, rfl, hbA, x0, _⟩ := HP.out.at_ hlt
        obtain ⟨u, hu⟩ : ∃ u, (ps[k].letter == k0) = u := ⟨_, rfl⟩
        have hu2 := eq_bool hu
        cases u
        · have Hn := hide (show ∀ j (h : j < ps.length), j < k + 1 → ps[j].letter ≠ k0 from fun j h hj => by
            by_cases e : j = k
            · subst e; simpa using hu
            · exact Hall.out j h (by omega))
          clear hu
          go_wp2_with fail
          go_round
          case rel => exact ⟨k + 1, by omega, by go_num, Hn.out⟩
          case measure => simp [intOf]; omega
        · have Hr2 := hide (show numX (firstX ps k0) = (k : Int) by
            rw [firstX_some hlt (by simpa using hu) (fun j hj h => Hall.out j hj h)]; rfl)
          clear hu
          go_wp2_with fail
          go_ret
          exact ⟨by rw [Hr.out, Hr2.out] <;> rfl, Later.rfl.alloc _⟩
      · have Hr2 := hide (show numX (firstX ps k0) = -1 by
          rw [firstX_none (fun j hj => Hall.out j hj (by omega))]; rfl)
        go_wp2_with fail
        go_ret
        exact ⟨by rw [Hr.out, Hr2.out] <;> rfl, Later.rfl.alloc _⟩
  · have hn := hide (hcap (by first | exact rfl | exact trivial))
    have hn2 := hn.out
    clear hcap hnot
    go_enter Tryz.func68, Tryz.ntmps68
    go_wp2_with (go_at_call 39; refine (Hl.out _).mono ?_; rintro e w' ⟨rfl, hw'⟩; rw [hw']; clear hw')
    clear hn2
    go_loop [5] (fun i => ∃ k : Nat, k ≤ ps.length ∧ i = .int .i64 k ∧ (∀ j (h : j < ps.length), j < k → ps[j].letter ≠ k0)) (fun i => ps.length - (intOf i).toNat)
    case atStart => exact ⟨0, by omega, rfl, fun j _ h => by omega⟩
    case round =>
      obtain ⟨k, hk, rfl, hall⟩ := hrel
      have Hall := hide hall
      clear hall
      by_cases hlt : k < ps.length
      · obtain ⟨b, off, rfl, hbA, x0, _⟩ := HP.out.at_ hlt
        obtain ⟨u, hu⟩ : ∃ u, (ps[k].letter == k0) = u := ⟨_, rfl⟩
        have hu2 := eq_bool hu
        cases u
        · have Hn := hide (show ∀ j (h : j < ps.length), j < k + 1 → ps[j].letter ≠ k0 from fun j h hj => by
            by_cases e : j = k
            · subst e; simpa using hu
            · exact Hall.out j h (by omega))
          clear hu
          go_wp2_with fail
          go_round
          case rel => exact ⟨k + 1, by omega, by go_num, Hn.out⟩
          case measure => simp [intOf]; omega
        · have Hr2 := hide (show numX (firstX ps k0) = (k : Int) by
            rw [firstX_some hlt (by simpa using hu) (fun j hj h => Hall.out j hj h)]; rfl)
          clear hu
          go_wp2_with fail
          go_ret
          exact ⟨by rw [Hr.out, Hr2.out] <;> rfl, Later.rfl.alloc _⟩
      · have Hr2 := hide (show numX (firstX ps k0) = -1 by
          rw [firstX_none (fun j hj => Hall.out j hj (by omega))]; rfl)
        go_wp2_with fail
        go_ret
        exact ⟨by rw [Hr.out, Hr2.out] <;> rfl, Later.rfl.alloc _⟩

theorem numX_neg (o : Option Nat) : decide (numX o < 0) = !o.isSome := by
  cases o with
  | none => rfl
  | some i => exact decide_eq_false (show ¬ ((i : Int) < 0) by omega)
def FitsTo (ps : List PieceD) (l : List UInt8) (k : Nat) : Prop := ∀ j (h : j < l.length), j < k → l[j].toNat = 46 ∨ (pieceX ps l[j].toNat).isSome = true
theorem fitsTo_all {ps : List PieceD} {l : List UInt8} (h : FitsTo ps l l.length) : fitsB ps l = true := fitsB_true.2 fun k hk => h k hk hk
theorem fitsTo_next {ps : List PieceD} {l : List UInt8} {k : Nat} (h : FitsTo ps l k) (hk : k < l.length) (hn : l[k].toNat = 46 ∨ (pieceX ps l[k].toNat).isSome = true) : FitsTo ps l (k + 1) := fun j hj hjk => by
  by_cases e : j = k
  · subst e; exact hn
  · exact h j hj (by omega)
theorem fits_not {ps : List PieceD} {l : List UInt8} {k : Nat} (hk : k < l.length) (h1 : l[k].toNat ≠ 46) (h2 : (pieceX ps l[k].toNat).isSome = false) : fitsB ps l = false := fitsB_false.2 fun h => by
  rcases h k hk with h3 | h3
  · exact h1 h3
  · rw [h2] at h3; exact absurd h3 (by decide)
set_option maxHeartbeats 2000000 in
set_option maxRecDepth 20000 in
theorem letters_any (r : RulesD) (A : Option Addr) (cp : Nat) (s : ByteArray) (W : World) (hs : s.size ≤ 9223372036854775807) (hm : r.pieces.length ≤ 9223372036854775807) (hP : PiecesAt W W.heap.size A r.pieces) :
    Calls Tryz.prog 33 #[.agg #[.int .i64 r.start.w, .int .i64 r.start.h, .string r.start.cells, .int .i64 r.start.turn, .string r.start.h0, .string r.start.h1, .slice A r.pieces.length cp, .bool r.drops, .int .u8 r.lose, .int .i64 r.line, .int .u8 r.reach, .bool r.stuck, .int .i64 r.plies], .string s] W fun e w' => e = .returned (.bool (fitsB r.pieces s.data.toList)) ∧ Later W w' := by
  have HQ := hide (fun (k : Nat) (w : World) (hw : Later W w) => refpiece_any r A cp k w hm ((hP.below hw).more hw.size))
  have hbx := (Blk.new W 27 #[.int .i64 r.start.w, .int .i64 r.start.h, .string r.start.cells, .int .i64 r.start.turn, .string r.start.h0, .string r.start.h1, .slice A r.pieces.length cp, .bool r.drops, .int .u8 r.lose, .int .i64 r.line, .int .u8 r.reach, .bool r.stuck, .int .i64 r.plies])
  have hlb : Later W (W.alloc (.cells #[.int .i64 r.start.w, .int .i64 r.start.h, .string r.start.cells, .int .i64 r.start.turn, .string r.start.h0, .string r.start.h1, .slice A r.pieces.length cp, .bool r.drops, .int .u8 r.lose, .int .i64 r.line, .int .u8 r.reach, .bool r.stuck, .int .i64 r.plies] 27)) := Later.rfl.alloc _
  have Hbx := hide hbx
  have Hlb := hide hlb
  clear hP hbx hlb
  go_enter Tryz.func33, Tryz.ntmps33
  go_wp2_with fail
  go_loopw [5] (fun i wr => ∃ k : Nat, k ≤ s.size ∧ i = .int .i64 k ∧ FitsTo r.pieces s.data.toList k ∧ Blk wr W.heap.size 27 #[.int .i64 r.start.w, .int .i64 r.start.h, .string r.start.cells, .int .i64 r.start.turn, .string r.start.h0, .string r.start.h1, .slice A r.pieces.length cp, .bool r.drops, .int .u8 r.lose, .int .i64 r.line, .int .u8 r.reach, .bool r.stuck, .int .i64 r.plies] ∧ Later W wr) (fun i _ => s.size - (intOf i).toNat)
  case atStart => exact ⟨0, by omega, rfl, fun j _ h => by omega, Hbx.out, Hlb.out⟩
  case round =>
    rename World => wr
    obtain ⟨k, hk, rfl, hto, hbx, hw⟩ := hrel
    have Hto := hide hto
    have Hw := hide hw
    have Hb := hide hbx
    clear hto hw Hbx Hlb
    by_cases hlt : k < s.size
    · have j1 : (0 : Int) ≤ (k : Int) := by omega
      have j2 : (k : Int) < (s.size : Int) := by omega
      by_cases h46 : s[k].toNat = 46
      · have d1 : ((s[k].toNat : Int) != 46) = false := by simp; omega
        have Hn := hide (fitsTo_next Hto.out hlt (.inl h46))
        clear h46 hbx
        go_wp2_with fail
        go_quiet (fail)
        go_wp2_with fail
        go_roundw
        case rel => exact ⟨k + 1, by omega, by go_num, Hn.out, Hb.out.drewN _, Hw.out.drewN _⟩
        case measure => simp [intOf]; omega
      · have d1 : ((s[k].toNat : Int) != 46) = true := by simp; omega
        obtain ⟨u, hu⟩ : ∃ u, (pieceX r.pieces s[k].toNat).isSome = u := ⟨_, rfl⟩
        have d2 : decide (pieceI r.pieces s[k].toNat < 0) = !u := by rw [← hu]; exact numX_neg (pieceX r.pieces s[k].toNat)
        have hq := fun w hw => HQ.out s[k].toNat w hw
        obtain ⟨pi, hpi⟩ : ∃ pi, pieceI r.pieces s[k].toNat = pi := ⟨_, rfl⟩
        rw [hpi] at d2
        simp only [hpi] at hq
        have Hq := hide hq
        clear hpi hq
        cases u
        · have Hf := hide (fits_not hlt h46 hu)
          clear h46 hu
          obtain ⟨x0, x1, x2, x3, x4, x5, x6, x7, x8, x9, x10, x11, x12⟩ := hbx.rules
          clear hbx
          go_wp2_with fail
          have hw0 := Hw.out
          have hw1 := Hw.out.drew
          go_region_with ((go_at_call 68; refine (Hq.out _ (by assumption)).mono ?_; rintro e w2 ⟨rfl, hw2⟩))
          all_goals
            go_wp2_with fail
            go_ret
            exact ⟨by rw [Hf.out] <;> rfl, hw1.trans hw2⟩
        · have Hn := hide (fitsTo_next Hto.out hlt (.inr hu))
          clear h46 hu
          obtain ⟨x0, x1, x2, x3, x4, x5, x6, x7, x8, x9, x10, x11, x12⟩ := hbx.rules
          clear hbx
          go_wp2_with fail
          have hw0 := Hw.out
          have hw1 := Hw.out.drew
          go_region_with ((go_at_call 68; refine (Hq.out _ (by assumption)).mono ?_; rintro e w2 ⟨rfl, hw2⟩))
          all_goals
            go_wp2_with fail
            go_roundw
            case rel => exact ⟨k + 1, by omega, by go_num, Hn.out, Hb.out.drew.below hw2 Hb.out.drew.lt, hw1.trans hw2⟩
            case measure => simp [intOf]; omega
    · have Hf := hide (fitsTo_all (ps := r.pieces) (l := s.data.toList) (by rw [show s.data.toList.length = k by have : s.data.toList.length = s.size := rfl; omega]; exact Hto.out))
      go_wp2_with fail
      go_ret
      exact ⟨by rw [Hf.out] <;> rfl, Hw.out⟩
end Go.Proofs.YtdfegpohmaideaaGreat
