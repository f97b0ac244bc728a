/- the other player's letters How pieces lie in memory. Rows of ints that a call itself makes, in a slice of its own: words for memory, nothing of the program. 'append(s, xs...)' onto a row of the call's own, xs possibly nil: a law and its step in a drawn region. Nothing of the program. rules.Piece, gameref.piece: which piece has a letter? gameref.piece, rules.Fits, gameref.letters rules.Fits rules.way -/
import Derived.Test.YtcdfeaodfmfdnaaGreatDoorPlBoardHand
import Derived.Test.YtcdfeaodfmfdnaaGreatDoorPlBase
import Derived.Test.YtcdfeaodfmfdnaaGreatDoorPlPlainM
import Derived.Maps.AppendAt
namespace Go.Proofs.YtcdfeaodfmfdnaaGreatDoor
open Go.RowKit

/-- the other player's letter -/
def otherN (n : Nat) : Nat := if upB n then n + 32 else if lowB n then n - 32 else n
theorem xor32 (n : Nat) (h : upB n = true ∨ lowB n = true) : bits .xor .u8 (n : Int) 32 = (otherN n : Int) := by
  have key : ∀ m : Nat, m < 123 → (upB m = true ∨ lowB m = true) → bits .xor .u8 (m : Int) 32 = (otherN m : Int) := by decide +kernel
  refine key n ?_ h
  rcases h with h | h
  · have := upB_lt h; omega
  · have := lowB_lt h; omega
set_option maxHeartbeats 400000 in
theorem other_any (n : Nat) (w : World) : Calls Tryz.prog 89 #[.int .u8 n] w fun e w' => e = .returned (.int .u8 (otherN n)) ∧ w' = w := by
  have Hu := hide fun n W => upper_any n W
  have Hl := hide fun n W => lower_any n W
  obtain ⟨u, hu⟩ : ∃ u, upB n = u := ⟨_, rfl⟩
  obtain ⟨l, hl⟩ : ∃ l, lowB n = l := ⟨_, rfl⟩
  obtain ⟨m, hm⟩ : ∃ m, otherN n = m := ⟨_, rfl⟩
  cases u
  · cases l
    · have hm2 := hide (show otherN n = n by simp [otherN, hu, hl])
      clear hm
      go_enter Tryz.func89, Tryz.ntmps89
      go_wp2_with (first | (go_at_call 44; refine (Hu.out _ _).mono ?_; rintro e w' ⟨rfl, rfl⟩) | (go_at_call 88; refine (Hl.out _ _).mono ?_; rintro e w' ⟨rfl, rfl⟩))
      go_ret
      exact ⟨by rw [hm2.out] <;> rfl, rfl⟩
    · have hx := xor32 n (.inr hl)
      rw [hm] at hx
      have hm2 := hide hm
      clear hm
      go_enter Tryz.func89, Tryz.ntmps89
      go_wp2_with (first | (go_at_call 44; refine (Hu.out _ _).mono ?_; rintro e w' ⟨rfl, rfl⟩) | (go_at_call 88; refine (Hl.out _ _).mono ?_; rintro e w' ⟨rfl, rfl⟩))
      go_ret
      exact ⟨by rw [hm2.out] <;> rfl, rfl⟩
  · have hx := xor32 n (.inl hu)
    rw [hm] at hx
    have hm2 := hide hm
    clear hm hl
    go_enter Tryz.func89, Tryz.ntmps89
    go_wp2_with (first | (go_at_call 44; refine (Hu.out _ _).mono ?_; rintro e w' ⟨rfl, rfl⟩) | (go_at_call 88; refine (Hl.out _ _).mono ?_; rintro e w' ⟨rfl, rfl⟩))
    go_ret
    exact ⟨by rw [hm2.out] <;> rfl, rfl⟩

end Go.Proofs.YtcdfeaodfmfdnaaGreatDoor
namespace Go.Proofs.YtcdfeaodfmfdnaaGreatDoor
open Go.RowKit

/-- ways from A on -/
def WaysAt (w : World) (B : Nat) (A : Option Addr) (ws : List WayD) : Prop := Cells w B A (ints (flatW ws))
def cellsP : List PieceD → List (Option Addr × Nat) → List Value
  | p :: ps, h :: hs => .int .u8 p.letter :: .int .i64 p.worth :: .slice h.1 p.ways.length h.2 :: cellsP ps hs
  | _, _ => []
theorem cellsP_len : ∀ (ps : List PieceD) (hs : List (Option Addr × Nat)), hs.length = ps.length → (cellsP ps hs).length = ps.length * 3
  | [], [], _ => rfl
  | p :: ps, h :: hs, e => by
    have := cellsP_len ps hs (by simpa using e)
    simp only [cellsP, List.length_cons, this]
    omega
theorem cellsP_get : ∀ (ps : List PieceD) (hs : List (Option Addr × Nat)) (e : hs.length = ps.length) (i : Nat) (hi : i < ps.length),
    (cellsP ps hs)[i * 3]? = some (.int .u8 ps[i].letter) ∧ (cellsP ps hs)[i * 3 + 1]? = some (.int .i64 ps[i].worth) ∧ (cellsP ps hs)[i * 3 + 2]? = some (.slice (hs[i]'(by omega)).1 ps[i].ways.length (hs[i]'(by omega)).2)
  | p :: ps, h :: hs, e, 0, _ => by simp [cellsP]
  | p :: ps, h :: hs, e, i + 1, hi => by
    have ih := cellsP_get ps hs (by simpa using e) i (by simpa using hi)
    have e1 : (i + 1) * 3 = i * 3 + 1 + 1 + 1 := by omega
    have e2 : (i + 1) * 3 + 1 = (i * 3 + 1) + 1 + 1 + 1 := by omega
    have e3 : (i + 1) * 3 + 2 = (i * 3 + 2) + 1 + 1 + 1 := by omega
    rw [e2, e3, e1]
    simp only [cellsP, List.getElem?_cons_succ, List.getElem_cons_succ]
    exact ih
/-- pieces from A on, their ways too -/
def PiecesAt (w : World) (B : Nat) (A : Option Addr) (ps : List PieceD) : Prop :=
  ∃ hs : List (Option Addr × Nat), ∃ e : hs.length = ps.length, Cells w B A (cellsP ps hs) ∧ ∀ k (h : k < ps.length), ps[k].ways.length ≤ (hs[k]'(by omega)).2 ∧ WaysAt w B (hs[k]'(by omega)).1 ps[k].ways
section
variable {w w' : World} {B B' : Nat} {A : Option Addr} {ps : List PieceD}
theorem PiecesAt.at_ (h : PiecesAt w B A ps) {k : Nat} (hk : k < ps.length) :
    ∃ b off, A = some ⟨b, off, none⟩ ∧ b < B ∧ w.cell? ⟨b, off + k * 3, none⟩ = some (.int .u8 ps[k].letter) ∧ w.cell? ⟨b, off + k * 3 + 1, none⟩ = some (.int .i64 ps[k].worth) ∧
      ∃ Ak ck, ps[k].ways.length ≤ ck ∧ w.cell? ⟨b, off + k * 3 + 2, none⟩ = some (.slice Ak ps[k].ways.length ck) ∧ WaysAt w B Ak ps[k].ways := by
  obtain ⟨hs, e, hc, hw⟩ := h
  have hl := cellsP_len ps hs e
  obtain ⟨b, off, hA, hb, hcell⟩ := hc (by omega)
  obtain ⟨g0, g1, g2⟩ := cellsP_get ps hs e k hk
  have key : ∀ j v, (cellsP ps hs)[j]? = some v → w.cell? ⟨b, off + j, none⟩ = some v := by
    intro j v hv
    obtain ⟨hj, hjv⟩ := List.getElem?_eq_some_iff.1 hv
    rw [hcell j hj, hjv]
  exact ⟨b, off, hA, hb, key _ _ g0, by rw [Nat.add_assoc]; exact key _ _ g1, _, _, (hw k hk).1, by rw [Nat.add_assoc]; exact key _ _ g2, (hw k hk).2⟩
theorem PiecesAt.below (h : PiecesAt w B A ps) (hb : Below B w w') : PiecesAt w' B A ps := by
  obtain ⟨hs, e, hc, hw⟩ := h
  exact ⟨hs, e, hc.below hb, fun k hk => ⟨(hw k hk).1, Cells.below (hw k hk).2 hb⟩⟩
theorem PiecesAt.more (h : PiecesAt w B A ps) (hB : B ≤ B') : PiecesAt w B' A ps := by
  obtain ⟨hs, e, hc, hw⟩ := h
  exact ⟨hs, e, hc.more hB, fun k hk => ⟨(hw k hk).1, Cells.more (hw k hk).2 hB⟩⟩
end
theorem ways_at {w : World} {B : Nat} {A : Option Addr} {ws : List WayD} (h : WaysAt w B A ws) {i : Nat} (hi : i < ws.length) :
    ∃ b off, A = some ⟨b, off, none⟩ ∧ b < B ∧ w.cell? ⟨b, off + i * 4, none⟩ = some (.int .i64 ws[i].kind) ∧ w.cell? ⟨b, off + i * 4 + 1, none⟩ = some (.int .i64 ws[i].x) ∧
      w.cell? ⟨b, off + i * 4 + 2, none⟩ = some (.int .i64 ws[i].y) ∧ w.cell? ⟨b, off + i * 4 + 3, none⟩ = some (.int .i64 ws[i].take) := by
  have hl := flatW_len ws
  obtain ⟨b, off, hA, hb, hcell⟩ := h (by rw [ints_length]; omega)
  obtain ⟨g0, g1, g2, g3⟩ := flatW_get ws i hi
  have key : ∀ j v, (flatW ws)[j]? = some v → w.cell? ⟨b, off + j, none⟩ = some (.int .i64 v) := by
    intro j v hv
    obtain ⟨hj, hjv⟩ := List.getElem?_eq_some_iff.1 hv
    rw [hcell j (by rw [ints_length]; exact hj), ints_get, hjv]
  exact ⟨b, off, hA, hb, key _ _ g0, by rw [Nat.add_assoc]; exact key _ _ g1, by rw [Nat.add_assoc]; exact key _ _ g2, by rw [Nat.add_assoc]; exact key _ _ g3⟩

theorem Blk.rules {w : World} {g : Nat} {t : TypeId} {v0 v1 v2 v3 v4 v5 v6 v7 v8 v9 v10 v11 v12 : Value} (h : Blk w g t #[v0, v1, v2, v3, v4, v5, v6, v7, v8, v9, v10, v11, v12]) :
    w.cell? ⟨g, 0, none⟩ = some v0 ∧ w.cell? ⟨g, 1, none⟩ = some v1 ∧ w.cell? ⟨g, 2, none⟩ = some v2 ∧ w.cell? ⟨g, 3, none⟩ = some v3 ∧ w.cell? ⟨g, 4, none⟩ = some v4 ∧ w.cell? ⟨g, 5, none⟩ = some v5 ∧ w.cell? ⟨g, 6, none⟩ = some v6 ∧ w.cell? ⟨g, 7, none⟩ = some v7 ∧ w.cell? ⟨g, 8, none⟩ = some v8 ∧ w.cell? ⟨g, 9, none⟩ = some v9 ∧ w.cell? ⟨g, 10, none⟩ = some v10 ∧ w.cell? ⟨g, 11, none⟩ = some v11 ∧ w.cell? ⟨g, 12, none⟩ = some v12 := ⟨h.cellv rfl, h.cellv rfl, h.cellv rfl, h.cellv rfl, h.cellv rfl, h.cellv rfl, h.cellv rfl, h.cellv rfl, h.cellv rfl, h.cellv rfl, h.cellv rfl, h.cellv rfl, h.cellv rfl⟩
end Go.Proofs.YtcdfeaodfmfdnaaGreatDoor
namespace Go.Proofs.YtcdfeaodfmfdnaaGreatDoor
open Go.RowKit

section
variable {w w' : World} {base : Nat} {e : TypeId} {v : Value} {rows : List (List Int)}
theorem Cells.only {S : Nat → Prop} {A : Option Addr} {xs : List Value} (h : Cells w w.heap.size A xs) (hb : Only S w w') (hA : 0 < xs.length → ∀ a, A = some a → ¬ S a.block) : Cells w' w'.heap.size A xs := fun hn => by
  obtain ⟨b, off, e, hlt, hc⟩ := h hn
  refine ⟨b, off, e, Nat.lt_of_lt_of_le hlt hb.size, fun k hk => ?_⟩
  have hs : ¬ S b := by have := hA hn _ e; exact this
  rw [← hc k hk]
  exact World.cell?_of_block (hb.block b hlt hs)

end
end Go.Proofs.YtcdfeaodfmfdnaaGreatDoor
namespace Go.Proofs.YtcdfeaodfmfdnaaGreatDoor
open Go.RowKit

theorem below_drew_ {a w : World} {B : Nat} (h : Below B a w) : Below B a w.drew := ⟨h.os, h.tape, h.output, h.size, h.block⟩
theorem below_alloc0 {a w : World} (h : Below a.heap.size a w) (o : Obj) : Below a.heap.size a (w.alloc o) := h.trans (((Only.refl (fun _ => False) w).alloc o).below_ (fun _ h => h.elim) h.size)
theorem ownsRow_drew0 {w : World} {base size n : Nat} {e : TypeId} {v : Value} {xs : List Value} (h : w.ownsRow base e size v n xs) : w.drew.ownsRow base e size v n xs := h

end Go.Proofs.YtcdfeaodfmfdnaaGreatDoor
namespace Go.Proofs.YtcdfeaodfmfdnaaGreatDoor
open Go.RowKit

/-- what was there is as it was -/
def Later (w w' : World) : Prop := Below w.heap.size w w'
theorem Later.rfl {w : World} : Later w w := Below.refl _ _
theorem Later.trans {a b c : World} (h : Later a b) (k : Later b c) : Later a c := Below.trans h (k.mono h.size)
theorem Later.alloc {a b : World} (h : Later a b) (o : Obj) : Later a (b.alloc o) := below_alloc0 h o
theorem Later.drewN {a b : World} (h : Later a b) (n : Nat) : Later a (b.drewN n) := below_drewN h n
theorem Later.drew {a b : World} (h : Later a b) : Later a b.drew := below_drew_ h
theorem Later.set {a b : World} (h : Later a b) {p : Addr} (hp : a.heap.size ≤ p.block) (u : Value) : Later a (b.setCell p u) := Below.setCell h hp u

theorem capN_other {c : Nat} (h : lowB c = true) : otherN c = capN c := by
  have h1 := lowB_lt h
  rw [capN_low h]
  unfold otherN
  rw [if_neg (by rw [upB_f (by omega)]; decide), if_pos h]
theorem eq_bool {a b : Nat} {v : Bool} (h : (a == b) = v) : ((a : Int) == (b : Int)) = v := by
  rw [← h]
  rw [Bool.eq_iff_iff]; simp; omega

set_option maxHeartbeats 400000 in
theorem clo_piece (l : Nat) (wo : Int) (Ak : Option Addr) (n ck : Nat) (c bc : Nat) (v : Bool) (w : World) (hv : (l == c) = v) (hc : w.cell? ⟨bc, 0, none⟩ = some (.int .u8 c)) (hb : bc < w.heap.size) :
    Calls Tryz.prog 91 #[.agg #[.int .u8 l, .int .i64 wo, .slice Ak n ck], .pointer (some ⟨bc, 0, none⟩)] w fun e w' => e = .returned (.bool v) ∧ Later w w' := by
  have hv2 := eq_bool hv
  clear hv
  go_enter Tryz.func91, Tryz.ntmps91
  go_wp2_with fail
  go_ret
  exact ⟨rfl, Later.rfl.alloc _⟩

set_option maxHeartbeats 1000000 in
set_option maxRecDepth 20000 in
theorem index_piece (A : Option Addr) (cp : Nat) (ps : List PieceD) (c bc : Nat) (W : World) (hm : ps.length ≤ 9223372036854775807) (hP : PiecesAt W W.heap.size A ps) (hc : W.cell? ⟨bc, 0, none⟩ = some (.int .u8 c)) (hb : bc < W.heap.size) :
    Calls Tryz.prog 90 #[.slice A ps.length cp, .func (.func 91) #[] #[.pointer (some ⟨bc, 0, none⟩)]] W fun e w' => e = .returned (.int .i64 (numX (firstX ps c))) ∧ Later W w' := by
  have HP := hide hP
  have HC := hide (fun l wo Ak n ck v w (hv : (l == c) = v) (hw : Later W w) => clo_piece l wo Ak n ck c bc v w hv (by rw [Below.cell hw hb]; exact hc) (Nat.lt_of_lt_of_le hb hw.size))
  clear hP hc
  go_enter Tryz.func90, Tryz.ntmps90
  go_wp2_with fail
  go_loopw [8] (fun i wr => ∃ k : Nat, k ≤ ps.length ∧ i = .int .i64 k ∧ (∀ j (h : j < ps.length), j < k → ps[j].letter ≠ c) ∧ Later W wr) (fun i _ => ps.length - (intOf i).toNat)
  case atStart => exact ⟨0, by omega, rfl, fun j _ h => by omega, Later.rfl⟩
  case round =>
    rename World => wr
    obtain ⟨k, hk, rfl, hall, hw⟩ := hrel
    have Hall := hide hall
    have Hw := hide hw
    clear hall hw
    by_cases hlt : k < ps.length
    · obtain ⟨b, off, rfl, hbA, x0, x1, Ak, ck, _, x2, _⟩ := (HP.out.below Hw.out).at_ hlt
      obtain ⟨v, hv⟩ : ∃ v, (ps[k].letter == c) = v := ⟨_, rfl⟩
      have HCk := hide (HC.out ps[k].letter ps[k].worth Ak ps[k].ways.length ck v wr hv Hw.out)
      cases v
      · have Hn := hide (show ∀ j (h : j < ps.length), j < k + 1 → ps[j].letter ≠ c from fun j h hj => by
          by_cases e : j = k
          · subst e; simpa using hv
          · exact Hall.out j h (by omega))
        clear hv
        go_wp2_with (go_at_call 91; refine HCk.out.mono ?_; rintro e w2 ⟨rfl, hw2⟩)
        go_roundw
        case rel => exact ⟨k + 1, by omega, by go_num, Hn.out, Hw.out.trans hw2⟩
        case measure => simp [intOf]; omega
      · have Hr := hide (show numX (firstX ps c) = (k : Int) by
          rw [firstX_some hlt (by simpa using hv) (fun j hj h => Hall.out j hj h)]; rfl)
        clear hv
        go_wp2_with (go_at_call 91; refine HCk.out.mono ?_; rintro e w2 ⟨rfl, hw2⟩)
        go_ret
        exact ⟨by rw [Hr.out] <;> rfl, Hw.out.trans hw2⟩
    · have Hr := hide (show numX (firstX ps c) = -1 by
        rw [firstX_none (fun j hj => Hall.out j hj (by omega))]; rfl)
      go_wp2_with fail
      go_ret
      exact ⟨by rw [Hr.out] <;> rfl, Hw.out⟩

set_option maxHeartbeats 1000000 in
set_option maxRecDepth 20000 in
theorem rpiece_any (r : RulesD) (A : Option Addr) (cp : Nat) (c : Nat) (W : World) (hm : r.pieces.length ≤ 9223372036854775807) (hP : PiecesAt W W.heap.size A r.pieces) :
    Calls Tryz.prog 45 #[.agg #[.int .i64 r.start.w, .int .i64 r.start.h, .string r.start.cells, .int .i64 r.start.turn, .string r.start.h0, .string r.start.h1, .slice A r.pieces.length cp, .bool r.drops, .int .u8 r.lose, .int .i64 r.line, .int .u8 r.reach, .bool r.stuck, .int .i64 r.plies], .int .u8 c] W fun e w' => e = .returned (.int .i64 (pieceI r.pieces c)) ∧ Later W w' := by
  have HI := hide (fun (k : Nat) => index_piece A cp r.pieces k (W.heap.size + 1) ((W.alloc (.cells #[.int .i64 r.start.w, .int .i64 r.start.h, .string r.start.cells, .int .i64 r.start.turn, .string r.start.h0, .string r.start.h1, .slice A r.pieces.length cp, .bool r.drops, .int .u8 r.lose, .int .i64 r.line, .int .u8 r.reach, .bool r.stuck, .int .i64 r.plies] 27)).alloc (.cells #[.int .u8 k] 5)) hm
    ((hP.below ((Later.rfl.alloc _).alloc _)).more (by simp; omega)) (by simp) (by simp))
  have Hl := hide (fun w => lower_any c w)
  have Ho := hide (fun w => other_any c w)
  clear hP
  obtain ⟨v, hv⟩ : ∃ v, lowB c = v := ⟨_, rfl⟩
  rw [hv] at Hl
  cases v
  · have Hr := hide (show pieceI r.pieces c = numX (firstX r.pieces c) by unfold pieceI pieceX; rw [capN_not hv])
    clear hv Ho
    go_enter Tryz.func45, Tryz.ntmps45
    go_wp2_with (first
      | (go_at_call 88; refine (Hl.out _).mono ?_; rintro e w' ⟨rfl, hw'⟩; rw [hw']; clear hw')
      | (go_at_call 90; refine (HI.out _).mono ?_; rintro e w1 ⟨rfl, hw1⟩))
    go_ret
    exact ⟨by rw [Hr.out] <;> rfl, Later.trans ((Later.rfl.alloc _).alloc _) hw1⟩
  · have Hr := hide (show pieceI r.pieces c = numX (firstX r.pieces (otherN c)) by unfold pieceI pieceX; rw [capN_other hv])
    clear hv
    go_enter Tryz.func45, Tryz.ntmps45
    go_wp2_with (first
      | (go_at_call 88; refine (Hl.out _).mono ?_; rintro e w' ⟨rfl, hw'⟩; rw [hw']; clear hw')
      | (go_at_call 89; refine (Ho.out _).mono ?_; rintro e w' ⟨rfl, hw'⟩; rw [hw']; clear hw')
      | (go_at_call 90; refine (HI.out _).mono ?_; rintro e w1 ⟨rfl, hw1⟩))
    go_ret
    exact ⟨by rw [Hr.out] <;> rfl, Later.trans ((Later.rfl.alloc _).alloc _) hw1⟩
end Go.Proofs.YtcdfeaodfmfdnaaGreatDoor
namespace Go.Proofs.YtcdfeaodfmfdnaaGreatDoor
open Go.RowKit

theorem low_sub {c : Nat} (h : lowB c = true) : IntKind.u8.wrap ((c : Int) - 32) = ((capN c : Nat) : Int) := by
  have h1 := lowB_lt h
  rw [capN_low h]
  rw [show (c : Int) - 32 = ((c - 32 : Nat) : Int) by omega]
  exact IntWalk.u8_in _ (by omega)
set_option maxHeartbeats 1000000 in
set_option maxRecDepth 20000 in
theorem refpiece_any (r : RulesD) (A : Option Addr) (cp : Nat) (c : Nat) (W : World) (hm : r.pieces.length ≤ 9223372036854775807) (hP : PiecesAt W W.heap.size A r.pieces) :
    Calls Tryz.prog 41 #[.agg #[.int .i64 r.start.w, .int .i64 r.start.h, .string r.start.cells, .int .i64 r.start.turn, .string r.start.h0, .string r.start.h1, .slice A r.pieces.length cp, .bool r.drops, .int .u8 r.lose, .int .i64 r.line, .int .u8 r.reach, .bool r.stuck, .int .i64 r.plies], .int .u8 c] W fun e w' => e = .returned (.int .i64 (pieceI r.pieces c)) ∧ Later W w' := by
  have HP := hide (hP.below (Later.rfl.alloc (.cells #[.int .i64 r.start.w, .int .i64 r.start.h, .string r.start.cells, .int .i64 r.start.turn, .string r.start.h0, .string r.start.h1, .slice A r.pieces.length cp, .bool r.drops, .int .u8 r.lose, .int .i64 r.line, .int .u8 r.reach, .bool r.stuck, .int .i64 r.plies] 27)))
  have Hl := hide (fun w => small_any c w)
  clear hP
  obtain ⟨v, hv⟩ : ∃ v, lowB c = v := ⟨_, rfl⟩
  rw [hv] at Hl
  obtain ⟨ps, hps⟩ : ∃ ps, r.pieces = ps := ⟨_, rfl⟩
  have hcap : v = true → IntKind.u8.wrap ((c : Int) - 32) = ((capN c : Nat) : Int) := fun h => low_sub (by rw [hv, h])
  have hnot : v = false → (capN c : Nat) = c := fun h => capN_not (by rw [hv, h])
  obtain ⟨k0, hk0⟩ : ∃ k0, capN c = k0 := ⟨_, rfl⟩
  have Hr := hide (show pieceI r.pieces c = numX (firstX ps k0) by unfold pieceI pieceX; rw [hps, hk0])
  rw [hk0] at hcap hnot
  rw [hps] at HP hm ⊢
  rw [hps] at Hr
  clear hv hps hk0
  cases v
  · have hn := hnot (by first | exact rfl | exact trivial)
    subst hn
    clear hcap hnot
    go_enter Tryz.func41, Tryz.ntmps41
    go_wp2_with (go_at_call 85; refine (Hl.out _).mono ?_; rintro e w' ⟨rfl, hw'⟩; rw [hw']; clear hw')
    go_loop [5] (fun i => ∃ k : Nat, k ≤ ps.length ∧ i = .int .i64 k ∧ (∀ j (h : j < ps.length), j < k → ps[j].letter ≠ k0)) (fun i => ps.length - (intOf i).toNat)
    case atStart => exact ⟨0, by omega, rfl, fun j _ h => by omega⟩
    case round =>
      obtain ⟨k, hk, rfl, hall⟩ := hrel
      have Hall := hide hall
      clear hall
      by_cases hlt : k < ps.length
      · obtain ⟨b, off, rfl, hbA, x0, _⟩ := HP.out.at_ hlt
        obtain ⟨u, hu⟩ : ∃ u, (ps[k].letter == k0) = u := ⟨_, rfl⟩
        have hu2 := eq_bool hu
        cases u
        · have Hn := hide (show ∀ j (h : j < ps.length), j < k + 1 → ps[j].letter ≠ k0 from fun j h hj => by
            by_cases e : j = k
            · subst e; simpa using hu
            · exact Hall.out j h (by omega))
          clear hu
          go_wp2_with fail
          go_round
          case rel => exact ⟨k + 1, by omega, by go_num, Hn.out⟩
          case measure => simp [intOf]; omega
        · have Hr2 := hide (show numX (firstX ps k0) = (k : Int) by
            rw [firstX_some hlt (by simpa using hu) (fun j hj h => Hall.out j hj h)]; rfl)
          clear hu
          go_wp2_with fail
          go_ret
          exact ⟨by rw [Hr.out, Hr2.out] <;> rfl, Later.rfl.alloc _⟩
      · have Hr2 := hide (show numX (firstX ps k0) = -1 by
          rw [firstX_none (fun j hj => Hall.out j hj (by omega))]; rfl)
        go_wp2_with fail
        go_ret
        exact ⟨by rw [Hr.out, Hr2.out] <;> rfl, Later.rfl.alloc _⟩
  · have hn := hide (hcap (by first | exact rfl | exact trivial))
    have hn2 := hn.out
    clear hcap hnot
    go_enter Tryz.func41, Tryz.ntmps41
    go_wp2_with (go_at_call 85; refine (Hl.out _).mono ?_; rintro e w' ⟨rfl, hw'⟩; rw [hw']; clear hw')
    clear hn2
    go_loop [5] (fun i => ∃ k : Nat, k ≤ ps.length ∧ i = .int .i64 k ∧ (∀ j (h : j < ps.length), j < k → ps[j].letter ≠ k0)) (fun i => ps.length - (intOf i).toNat)
    case atStart => exact ⟨0, by omega, rfl, fun j _ h => by omega⟩
    case round =>
      obtain ⟨k, hk, rfl, hall⟩ := hrel
      have Hall := hide hall
      clear hall
      by_cases hlt : k < ps.length
      · obtain ⟨b, off, rfl, hbA, x0, _⟩ := HP.out.at_ hlt
        obtain ⟨u, hu⟩ : ∃ u, (ps[k].letter == k0) = u := ⟨_, rfl⟩
        have hu2 := eq_bool hu
        cases u
        · have Hn := hide (show ∀ j (h : j < ps.length), j < k + 1 → ps[j].letter ≠ k0 from fun j h hj => by
            by_cases e : j = k
            · subst e; simpa using hu
            · exact Hall.out j h (by omega))
          clear hu
          go_wp2_with fail
          go_round
          case rel => exact ⟨k + 1, by omega, by go_num, Hn.out⟩
          case measure => simp [intOf]; omega
        · have Hr2 := hide (show numX (firstX ps k0) = (k : Int) by
            rw [firstX_some hlt (by simpa using hu) (fun j hj h => Hall.out j hj h)]; rfl)
          clear hu
          go_wp2_with fail
          go_ret
          exact ⟨by rw [Hr.out, Hr2.out] <;> rfl, Later.rfl.alloc _⟩
      · have Hr2 := hide (show numX (firstX ps k0) = -1 by
          rw [firstX_none (fun j hj => Hall.out j hj (by omega))]; rfl)
        go_wp2_with fail
        go_ret
        exact ⟨by rw [Hr.out, Hr2.out] <;> rfl, Later.rfl.alloc _⟩

theorem numX_neg (o : Option Nat) : decide (numX o < 0) = !o.isSome := by
  cases o with
  | none => rfl
  | some i => exact decide_eq_false (show ¬ ((i : Int) < 0) by omega)
def FitsTo (ps : List PieceD) (l : List UInt8) (k : Nat) : Prop := ∀ j (h : j < l.length), j < k → l[j].toNat = 46 ∨ (pieceX ps l[j].toNat).isSome = true
theorem fitsTo_all {ps : List PieceD} {l : List UInt8} (h : FitsTo ps l l.length) : fitsB ps l = true := fitsB_true.2 fun k hk => h k hk hk
theorem fitsTo_next {ps : List PieceD} {l : List UInt8} {k : Nat} (h : FitsTo ps l k) (hk : k < l.length) (hn : l[k].toNat = 46 ∨ (pieceX ps l[k].toNat).isSome = true) : FitsTo ps l (k + 1) := fun j hj hjk => by
  by_cases e : j = k
  · subst e; exact hn
  · exact h j hj (by omega)
theorem fits_not {ps : List PieceD} {l : List UInt8} {k : Nat} (hk : k < l.length) (h1 : l[k].toNat ≠ 46) (h2 : (pieceX ps l[k].toNat).isSome = false) : fitsB ps l = false := fitsB_false.2 fun h => by
  rcases h k hk with h3 | h3
  · exact h1 h3
  · rw [h2] at h3; exact absurd h3 (by decide)
set_option maxHeartbeats 2000000 in
set_option maxRecDepth 20000 in
theorem letters_any (r : RulesD) (A : Option Addr) (cp : Nat) (s : ByteArray) (W : World) (hs : s.size ≤ 9223372036854775807) (hm : r.pieces.length ≤ 9223372036854775807) (hP : PiecesAt W W.heap.size A r.pieces) :
    Calls Tryz.prog 42 #[.agg #[.int .i64 r.start.w, .int .i64 r.start.h, .string r.start.cells, .int .i64 r.start.turn, .string r.start.h0, .string r.start.h1, .slice A r.pieces.length cp, .bool r.drops, .int .u8 r.lose, .int .i64 r.line, .int .u8 r.reach, .bool r.stuck, .int .i64 r.plies], .string s] W fun e w' => e = .returned (.bool (fitsB r.pieces s.data.toList)) ∧ Later W w' := by
  have HQ := hide (fun (k : Nat) (w : World) (hw : Later W w) => refpiece_any r A cp k w hm ((hP.below hw).more hw.size))
  have hbx := (Blk.new W 27 #[.int .i64 r.start.w, .int .i64 r.start.h, .string r.start.cells, .int .i64 r.start.turn, .string r.start.h0, .string r.start.h1, .slice A r.pieces.length cp, .bool r.drops, .int .u8 r.lose, .int .i64 r.line, .int .u8 r.reach, .bool r.stuck, .int .i64 r.plies])
  have hlb : Later W (W.alloc (.cells #[.int .i64 r.start.w, .int .i64 r.start.h, .string r.start.cells, .int .i64 r.start.turn, .string r.start.h0, .string r.start.h1, .slice A r.pieces.length cp, .bool r.drops, .int .u8 r.lose, .int .i64 r.line, .int .u8 r.reach, .bool r.stuck, .int .i64 r.plies] 27)) := Later.rfl.alloc _
  have Hbx := hide hbx
  have Hlb := hide hlb
  clear hP hbx hlb
  go_enter Tryz.func42, Tryz.ntmps42
  go_wp2_with fail
  go_loopw [5] (fun i wr => ∃ k : Nat, k ≤ s.size ∧ i = .int .i64 k ∧ FitsTo r.pieces s.data.toList k ∧ Blk wr W.heap.size 27 #[.int .i64 r.start.w, .int .i64 r.start.h, .string r.start.cells, .int .i64 r.start.turn, .string r.start.h0, .string r.start.h1, .slice A r.pieces.length cp, .bool r.drops, .int .u8 r.lose, .int .i64 r.line, .int .u8 r.reach, .bool r.stuck, .int .i64 r.plies] ∧ Later W wr) (fun i _ => s.size - (intOf i).toNat)
  case atStart => exact ⟨0, by omega, rfl, fun j _ h => by omega, Hbx.out, Hlb.out⟩
  case round =>
    rename World => wr
    obtain ⟨k, hk, rfl, hto, hbx, hw⟩ := hrel
    have Hto := hide hto
    have Hw := hide hw
    have Hb := hide hbx
    clear hto hw Hbx Hlb
    by_cases hlt : k < s.size
    · have j1 : (0 : Int) ≤ (k : Int) := by omega
      have j2 : (k : Int) < (s.size : Int) := by omega
      by_cases h46 : s[k].toNat = 46
      · have d1 : ((s[k].toNat : Int) != 46) = false := by simp; omega
        have Hn := hide (fitsTo_next Hto.out hlt (.inl h46))
        clear h46 hbx
        go_wp2_with fail
        go_quiet (fail)
        go_wp2_with fail
        go_roundw
        case rel => exact ⟨k + 1, by omega, by go_num, Hn.out, Hb.out.drewN _, Hw.out.drewN _⟩
        case measure => simp [intOf]; omega
      · have d1 : ((s[k].toNat : Int) != 46) = true := by simp; omega
        obtain ⟨u, hu⟩ : ∃ u, (pieceX r.pieces s[k].toNat).isSome = u := ⟨_, rfl⟩
        have d2 : decide (pieceI r.pieces s[k].toNat < 0) = !u := by rw [← hu]; exact numX_neg (pieceX r.pieces s[k].toNat)
        have hq := fun w hw => HQ.out s[k].toNat w hw
        obtain ⟨pi, hpi⟩ : ∃ pi, pieceI r.pieces s[k].toNat = pi := ⟨_, rfl⟩
        rw [hpi] at d2
        simp only [hpi] at hq
        have Hq := hide hq
        clear hpi hq
        cases u
        · have Hf := hide (fits_not hlt h46 hu)
          clear h46 hu
          obtain ⟨x0, x1, x2, x3, x4, x5, x6, x7, x8, x9, x10, x11, x12⟩ := hbx.rules
          clear hbx
          go_wp2_with fail
          have hw0 := Hw.out
          have hw1 := Hw.out.drew
          go_region_with ((go_at_call 41; refine (Hq.out _ (by assumption)).mono ?_; rintro e w2 ⟨rfl, hw2⟩))
          all_goals
            go_wp2_with fail
            go_ret
            exact ⟨by rw [Hf.out] <;> rfl, hw1.trans hw2⟩
        · have Hn := hide (fitsTo_next Hto.out hlt (.inr hu))
          clear h46 hu
          obtain ⟨x0, x1, x2, x3, x4, x5, x6, x7, x8, x9, x10, x11, x12⟩ := hbx.rules
          clear hbx
          go_wp2_with fail
          have hw0 := Hw.out
          have hw1 := Hw.out.drew
          go_region_with ((go_at_call 41; refine (Hq.out _ (by assumption)).mono ?_; rintro e w2 ⟨rfl, hw2⟩))
          all_goals
            go_wp2_with fail
            go_roundw
            case rel => exact ⟨k + 1, by omega, by go_num, Hn.out, Hb.out.drew.below hw2 Hb.out.drew.lt, hw1.trans hw2⟩
            case measure => simp [intOf]; omega
    · have Hf := hide (fitsTo_all (ps := r.pieces) (l := s.data.toList) (by rw [show s.data.toList.length = k by have : s.data.toList.length = s.size := rfl; omega]; exact Hto.out))
      go_wp2_with fail
      go_ret
      exact ⟨by rw [Hf.out] <;> rfl, Hw.out⟩
end Go.Proofs.YtcdfeaodfmfdnaaGreatDoor
namespace Go.Proofs.YtcdfeaodfmfdnaaGreatDoor
open Go.RowKit

set_option maxHeartbeats 2000000 in
set_option maxRecDepth 20000 in
theorem fits_any (r : RulesD) (A : Option Addr) (cp : Nat) (p : Pos) (W : World) (hc : p.cells.size ≤ 1000) (h0 : p.h0.size ≤ 1000) (h1 : p.h1.size ≤ 1000) (hm : r.pieces.length ≤ 9223372036854775807) (hP : PiecesAt W W.heap.size A r.pieces) :
    Calls Tryz.prog 47 #[.agg #[.int .i64 r.start.w, .int .i64 r.start.h, .string r.start.cells, .int .i64 r.start.turn, .string r.start.h0, .string r.start.h1, .slice A r.pieces.length cp, .bool r.drops, .int .u8 r.lose, .int .i64 r.line, .int .u8 r.reach, .bool r.stuck, .int .i64 r.plies], .agg #[.int .i64 p.w, .int .i64 p.h, .string p.cells, .int .i64 p.turn, .string p.h0, .string p.h1]] W fun e w' => e = .returned (.bool (fitsB r.pieces p.all)) ∧ Later W w' := by
  have HQ := hide (fun (k : Nat) (w : World) (hw : Later W w) => rpiece_any r A cp k w hm ((hP.below hw).more hw.size))
  clear hP
  have hbx := (Blk.new W 27 #[.int .i64 r.start.w, .int .i64 r.start.h, .string r.start.cells, .int .i64 r.start.turn, .string r.start.h0, .string r.start.h1, .slice A r.pieces.length cp, .bool r.drops, .int .u8 r.lose, .int .i64 r.line, .int .u8 r.reach, .bool r.stuck, .int .i64 r.plies]).alloc (.cells #[.int .i64 p.w, .int .i64 p.h, .string p.cells, .int .i64 p.turn, .string p.h0, .string p.h1] 24)
  have Hbx := hide hbx
  have Hlb := hide (show Later W ((W.alloc (.cells #[.int .i64 r.start.w, .int .i64 r.start.h, .string r.start.cells, .int .i64 r.start.turn, .string r.start.h0, .string r.start.h1, .slice A r.pieces.length cp, .bool r.drops, .int .u8 r.lose, .int .i64 r.line, .int .u8 r.reach, .bool r.stuck, .int .i64 r.plies] 27)).alloc (.cells #[.int .i64 p.w, .int .i64 p.h, .string p.cells, .int .i64 p.turn, .string p.h0, .string p.h1] 24)) from (Later.rfl.alloc _).alloc _)
  clear hbx
  go_enter Tryz.func47, Tryz.ntmps47
  go_wp2_with fail
  have hall : (p.cells ++ p.h0 ++ p.h1).data.toList = p.all := by unfold Pos.all; simp
  have hsz : (p.cells.size : Int) + (p.h0.size : Int) + (p.h1.size : Int) = ((p.cells ++ p.h0 ++ p.h1).size : Int) := by simp
  have hs : (p.cells ++ p.h0 ++ p.h1).size ≤ 9223372036854775807 := by simp; omega
  rw [hsz]
  obtain ⟨s, hs'⟩ : ∃ s, p.cells ++ p.h0 ++ p.h1 = s := ⟨_, rfl⟩
  rw [hs'] at hs hall ⊢
  have HA := hide hall
  clear hs' hall hsz
  go_loopw [19] (fun i wr => ∃ k : Nat, k ≤ s.size ∧ i = .int .i64 k ∧ FitsTo r.pieces s.data.toList k ∧ Blk wr W.heap.size 27 #[.int .i64 r.start.w, .int .i64 r.start.h, .string r.start.cells, .int .i64 r.start.turn, .string r.start.h0, .string r.start.h1, .slice A r.pieces.length cp, .bool r.drops, .int .u8 r.lose, .int .i64 r.line, .int .u8 r.reach, .bool r.stuck, .int .i64 r.plies] ∧ Later W wr) (fun i _ => s.size - (intOf i).toNat)
  case atStart => exact ⟨0, by omega, rfl, fun j _ h => by omega, Hbx.out, Hlb.out⟩
  case round =>
    rename World => wr
    obtain ⟨k, hk, rfl, hto, hbx, hw⟩ := hrel
    have Hto := hide hto
    have Hw := hide hw
    have Hb := hide hbx
    clear hto hw Hbx Hlb
    by_cases hlt : k < s.size
    · have j1 : (0 : Int) ≤ (k : Int) := by omega
      have j2 : (k : Int) < (s.size : Int) := by omega
      by_cases h46 : s[k].toNat = 46
      · have d1 : ((s[k].toNat : Int) != 46) = false := by simp; omega
        have Hn := hide (fitsTo_next Hto.out hlt (.inl h46))
        clear h46 hbx
        go_wp2_with fail
        go_quiet (fail)
        go_wp2_with fail
        go_roundw
        case rel => exact ⟨k + 1, by omega, by go_num, Hn.out, Hb.out.drewN _, Hw.out.drewN _⟩
        case measure => simp [intOf]; omega
      · have d1 : ((s[k].toNat : Int) != 46) = true := by simp; omega
        obtain ⟨u, hu⟩ : ∃ u, (pieceX r.pieces s[k].toNat).isSome = u := ⟨_, rfl⟩
        have d2 : decide (pieceI r.pieces s[k].toNat < 0) = !u := by rw [← hu]; exact numX_neg (pieceX r.pieces s[k].toNat)
        have hq := fun w hw => HQ.out s[k].toNat w hw
        obtain ⟨pi, hpi⟩ : ∃ pi, pieceI r.pieces s[k].toNat = pi := ⟨_, rfl⟩
        rw [hpi] at d2
        simp only [hpi] at hq
        have Hq := hide hq
        clear hpi hq
        cases u
        · have Hf := hide (fits_not hlt h46 hu)
          clear h46 hu
          obtain ⟨x0, x1, x2, x3, x4, x5, x6, x7, x8, x9, x10, x11, x12⟩ := hbx.rules
          clear hbx
          go_wp2_with fail
          have hw0 := Hw.out
          have hw1 := Hw.out.drew
          go_region_with ((go_at_call 45; refine (Hq.out _ (by assumption)).mono ?_; rintro e w2 ⟨rfl, hw2⟩))
          all_goals
            go_wp2_with fail
            go_ret
            exact ⟨by rw [← HA.out, Hf.out] <;> rfl, hw1.trans hw2⟩
        · have Hn := hide (fitsTo_next Hto.out hlt (.inr hu))
          clear h46 hu
          obtain ⟨x0, x1, x2, x3, x4, x5, x6, x7, x8, x9, x10, x11, x12⟩ := hbx.rules
          clear hbx
          go_wp2_with fail
          have hw0 := Hw.out
          have hw1 := Hw.out.drew
          go_region_with ((go_at_call 45; refine (Hq.out _ (by assumption)).mono ?_; rintro e w2 ⟨rfl, hw2⟩))
          all_goals
            go_wp2_with fail
            go_roundw
            case rel => exact ⟨k + 1, by omega, by go_num, Hn.out, Hb.out.drew.below hw2 Hb.out.drew.lt, hw1.trans hw2⟩
            case measure => simp [intOf]; omega
    · have Hf := hide (fitsTo_all (ps := r.pieces) (l := s.data.toList) (by rw [show s.data.toList.length = k by have : s.data.toList.length = s.size := rfl; omega]; exact Hto.out))
      go_wp2_with fail
      go_ret
      exact ⟨by rw [← HA.out, Hf.out] <;> rfl, Hw.out⟩
end Go.Proofs.YtcdfeaodfmfdnaaGreatDoor
namespace Go.Proofs.YtcdfeaodfmfdnaaGreatDoor
open Go.RowKit

def wayB (w : WayD) : Bool := decide (WayOk w)
set_option maxHeartbeats 2000000 in
set_option maxRecDepth 20000 in
theorem way_any (k x y t : Int) (W : World) :
    Calls Tryz.prog 46 #[.agg #[.int .i64 k, .int .i64 x, .int .i64 y, .int .i64 t]] W fun e w' => e = .returned (.bool (wayB ⟨k, x, y, t⟩)) ∧ Later W w' := by
  have HR := hide (show ∀ (q : Int) (b : Bool), (b = true ↔ WayOk ⟨q, x, y, t⟩) → Ending.returned (.bool b) = .returned (.bool (wayB ⟨q, x, y, t⟩)) from fun q b h => by
    congr 2; rw [Bool.eq_iff_iff, h]; simp [wayB])
  go_enter Tryz.func46, Tryz.ntmps46
  go_wp2_with fail
  all_goals
    go_ret
    refine ⟨?_, Later.rfl.alloc _⟩
    refine HR.out _ _ ?_
    simp only [WayOk, decide_eq_true_eq, Bool.false_eq_true, false_iff]
    omega
end Go.Proofs.YtcdfeaodfmfdnaaGreatDoor
