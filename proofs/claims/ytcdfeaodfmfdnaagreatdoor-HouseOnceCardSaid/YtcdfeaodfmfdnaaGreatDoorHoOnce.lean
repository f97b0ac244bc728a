/- gamekeep.HouseOnce: walked. -/
import Derived.Test.YtcdfeaodfmfdnaaGreatDoorHoOnceP
import Derived.Deep.RegionHeld
namespace Go.Proofs.YtcdfeaodfmfdnaaGreatDoor
open Go.RowKit

theorem rep_ne : 59 ≠ 5 := by decide
theorem only_setRowG (w : World) (g : Nat) (vs : Array Value) : Only (fun x => x = g) w (w.setRow g vs) := ⟨rfl, rfl, rfl, by simp [World.setRow], fun k _ hk => setRow_other _ _ _ _ hk⟩
theorem HoAt.ne_blk {w : World} {lo h B : Nat} {s : HoD} {v : Value} (ha : HoAt w lo h B s v) {g : Nat} {T : TypeId} {cs : Array Value} (hg : Blk w g T cs) (hT : T ≠ 5) : ∀ k, v.ownBlock = some k → k ≠ g := fun k hk e => by
  obtain ⟨A, cp, ad, hb, _⟩ := ha
  rcases hb.own.2 with ⟨hv, _⟩ | ⟨g', cap, cur, fz, hv, _, hg', _⟩
  · rw [hv] at hk; cases hk
  · rw [hv] at hk
    simp only [Value.ownBlock, Option.some.injEq] at hk
    rw [hk, e, show w.heap[g]? = _ from hg] at hg'
    simp only [Option.some.injEq, Obj.cells.injEq] at hg'
    exact hT hg'.2.1
theorem hsave_at {w : World} {lo h B : Nat} {s : HoD} {v : Value} (ha : HoAt w lo h B s v) (hB : h < B) :
    Calls Tryz.prog 22 #[.pointer (some ⟨h, 0, none⟩)] w fun e w' => e = .returned (.string (bytes s.lines)) ∧ HoAt w' lo h B s v ∧ Only (fun x => v.ownBlock = some x) w w' := by
  obtain ⟨A, cp, ad, hb, hp⟩ := id ha
  refine (hsave_any B h _ v s.lines w hb).mono ?_
  rintro e w' ⟨rfl, hb', ho⟩
  exact ⟨rfl, ⟨A, cp, ad, hb', hp.only ho (fun k hk hq => by have := (ha.own k hk).1; omega)⟩, ho⟩
set_option maxHeartbeats 8000000 in
set_option maxRecDepth 100000 in
theorem once_no (r : RulesD) (A : Option Addr) (cp : Nat) (t : Int) (Al : Option Addr) (cl : Nat) (ms : List MsgD) (Ag : Option Addr) (cg : Nat) (gs : List Int) (W : World) (hf : RFit r) (he : EnvH W) (hP : PiecesAt W W.heap.size A r.pieces) (hno : ¬ (RulesOk r ∧ 1 ≤ t ∧ t ≤ 1000000)) :
    Calls Tryz.prog 6 #[.agg #[.int .i64 r.start.w, .int .i64 r.start.h, .string r.start.cells, .int .i64 r.start.turn, .string r.start.h0, .string r.start.h1, .slice A r.pieces.length cp, .bool r.drops, .int .u8 (r.lose : Int), .int .i64 r.line, .int .u8 (r.reach : Int), .bool r.stuck, .int .i64 r.plies], .int .i64 t, .slice Al ms.length cl, .slice Ag gs.length cg] W fun e w' => e = .returned (.bool true) ∧ Only (fun _ => False) W w' := by
  have HP := hide (show ∀ w', Only (fun _ => False) W w' → PiecesAt w' w'.heap.size A r.pieces from fun w' ho => (hP.below (ho.below_ (fun _ h => h.elim) (Nat.le_refl _))).more ho.size)
  have hbig := he.big
  have Hb0 := hide (Blk.new W 27 #[.int .i64 r.start.w, .int .i64 r.start.h, .string r.start.cells, .int .i64 r.start.turn, .string r.start.h0, .string r.start.h1, .slice A r.pieces.length cp, .bool r.drops, .int .u8 (r.lose : Int), .int .i64 r.line, .int .u8 (r.reach : Int), .bool r.stuck, .int .i64 r.plies])
  have Ho0 := hide (show Only (fun _ => False) W (W.alloc (.cells #[.int .i64 r.start.w, .int .i64 r.start.h, .string r.start.cells, .int .i64 r.start.turn, .string r.start.h0, .string r.start.h1, .slice A r.pieces.length cp, .bool r.drops, .int .u8 (r.lose : Int), .int .i64 r.line, .int .u8 (r.reach : Int), .bool r.stuck, .int .i64 r.plies] 27)) from (Only.refl _ W).alloc _)
  have HE0 := hide (he.no Ho0.out)
  clear hP he
  go_enter Tryz.func6, Tryz.ntmps6
  go_upto_region 1 with (fail)
  obtain ⟨w0, hw0⟩ : ∃ w0, W.alloc (.cells #[.int .i64 r.start.w, .int .i64 r.start.h, .string r.start.cells, .int .i64 r.start.turn, .string r.start.h0, .string r.start.h1, .slice A r.pieces.length cp, .bool r.drops, .int .u8 (r.lose : Int), .int .i64 r.line, .int .u8 (r.reach : Int), .bool r.stuck, .int .i64 r.plies] 27) = w0 := ⟨_, rfl⟩
  rw [hw0] at Hb0 Ho0 HE0 ⊢
  clear hw0
  go_upto_region 3 with (go_at_call 25; refine (housed_any w0 HE0.out).mono ?_; rintro e w1 ⟨rfl, ho1⟩)
  have Hb1 := hide (Hb0.out.only ho1 (fun h => h))
  have Ho1 := hide (Ho0.out.trans ho1)
  have HE1 := hide (HE0.out.no ho1)
  clear ho1 Hb0 Ho0 HE0
  obtain ⟨x0, x1, x2, x3, x4, x5, x6, x7, x8, x9, x10, x11, x12⟩ := Hb1.out.rules
  go_upto_region 4 with (go_at_call 21; refine (hnew_no r A cp t w1 hf (HP.out _ Ho1.out) hno).mono ?_; rintro e w2 ⟨rfl, hl2⟩)
  have Hb2 := hide (Hb1.out.only (later_only hl2) (fun h => h))
  have Ho2 := hide (Ho1.out.trans (later_only hl2))
  clear hl2 Hb1 Ho1 x0 x1 x2 x3 x4 x5 x6 x7 x8 x9 x10 x11 x12
  obtain ⟨x0, x1, x2, x3, x4, x5, x6, x7, x8, x9, x10, x11, x12⟩ := Hb2.out.rules
  go_wp2_with (go_at_call 21; refine (hnew_no r A cp t w2 hf (HP.out _ Ho2.out) hno).mono ?_; rintro e w3 ⟨rfl, hl3⟩)
  go_ret
  exact ⟨rfl, Ho2.out.trans (later_only hl3)⟩
set_option maxHeartbeats 32000000 in
set_option maxRecDepth 100000 in
theorem once_ok (r : RulesD) (A : Option Addr) (cp : Nat) (t : Int) (Al : Option Addr) (cl : Nat) (ms : List MsgD) (Ag : Option Addr) (cg : Nat) (gs : List Int) (W : World) (hf : RFit r) (he : EnvH W) (hP : PiecesAt W W.heap.size A r.pieces) (hms : Cells W W.heap.size Al (cellsG ms)) (hgs : Cells W W.heap.size Ag (ints gs)) (hml : ms.length ≤ 9223372036854775807) (hgl : gs.length ≤ 9223372036854775807) (hmr : ∀ m ∈ ms, -9223372036854775808 ≤ m.at_ ∧ m.at_ ≤ 9223372036854775807) (hok : RulesOk r) (t1 : 1 ≤ t) (t2 : t ≤ 1000000) :
    Calls Tryz.prog 6 #[.agg #[.int .i64 r.start.w, .int .i64 r.start.h, .string r.start.cells, .int .i64 r.start.turn, .string r.start.h0, .string r.start.h1, .slice A r.pieces.length cp, .bool r.drops, .int .u8 (r.lose : Int), .int .i64 r.line, .int .u8 (r.reach : Int), .bool r.stuck, .int .i64 r.plies], .int .i64 t, .slice Al ms.length cl, .slice Ag gs.length cg] W fun e w' => e = .returned (.bool true) ∧ Only (fun _ => False) W w' := by
  have HP := hide (show ∀ w', Only (fun _ => False) W w' → PiecesAt w' w'.heap.size A r.pieces from fun w' ho => (hP.below (ho.below_ (fun _ h => h.elim) (Nat.le_refl _))).more ho.size)
  have hbig := he.big
  have Hb0 := hide (Blk.new W 27 #[.int .i64 r.start.w, .int .i64 r.start.h, .string r.start.cells, .int .i64 r.start.turn, .string r.start.h0, .string r.start.h1, .slice A r.pieces.length cp, .bool r.drops, .int .u8 (r.lose : Int), .int .i64 r.line, .int .u8 (r.reach : Int), .bool r.stuck, .int .i64 r.plies])
  have Ho0 := hide (show Only (fun _ => False) W (W.alloc (.cells #[.int .i64 r.start.w, .int .i64 r.start.h, .string r.start.cells, .int .i64 r.start.turn, .string r.start.h0, .string r.start.h1, .slice A r.pieces.length cp, .bool r.drops, .int .u8 (r.lose : Int), .int .i64 r.line, .int .u8 (r.reach : Int), .bool r.stuck, .int .i64 r.plies] 27)) from (Only.refl _ W).alloc _)
  have HE0 := hide (he.no Ho0.out)
  clear hP
  go_enter Tryz.func6, Tryz.ntmps6
  go_upto_region 1 with (fail)
  obtain ⟨w0, hw0⟩ : ∃ w0, W.alloc (.cells #[.int .i64 r.start.w, .int .i64 r.start.h, .string r.start.cells, .int .i64 r.start.turn, .string r.start.h0, .string r.start.h1, .slice A r.pieces.length cp, .bool r.drops, .int .u8 (r.lose : Int), .int .i64 r.line, .int .u8 (r.reach : Int), .bool r.stuck, .int .i64 r.plies] 27) = w0 := ⟨_, rfl⟩
  rw [hw0] at Hb0 Ho0 HE0 ⊢
  clear hw0
  go_upto_region 3 with (go_at_call 25; refine (housed_any w0 HE0.out).mono ?_; rintro e w1 ⟨rfl, ho1⟩)
  have Hb1 := hide (Hb0.out.only ho1 (fun h => h))
  have Ho1 := hide (Ho0.out.trans ho1)
  have HE1 := hide (HE0.out.no ho1)
  clear ho1 Hb0 Ho0 HE0
  obtain ⟨x0, x1, x2, x3, x4, x5, x6, x7, x8, x9, x10, x11, x12⟩ := Hb1.out.rules
  have Hst := hide (start_ok hok t1 t2)
  go_upto_region 4 with (go_at_call 21; refine (hnew_ok r A cp t w1 hf (HP.out _ Ho1.out) hok t1 t2).mono ?_; intro e w2 hn; obtain ⟨h1, rfl, hlt1, hat1, hl2, hs2⟩ := hn.at_)
  have Hb2 := hide (Hb1.out.only (later_only hl2) (fun h => h))
  have Ho2 := hide (Ho1.out.trans (later_only hl2))
  have HE2 := hide (HE1.out.no (later_only hl2))
  have hW1 := Ho1.out.size
  clear hl2 Hb1 Ho1 HE1 x0 x1 x2 x3 x4 x5 x6 x7 x8 x9 x10 x11 x12
  obtain ⟨x0, x1, x2, x3, x4, x5, x6, x7, x8, x9, x10, x11, x12⟩ := Hb2.out.rules
  go_upto_region 5 with (go_at_call 21; refine (hnew_ok r A cp t w2 hf (HP.out _ Ho2.out) hok t1 t2).mono ?_; intro e w3 hn; obtain ⟨h2, rfl, hlt2, hat2, hl3, hs3⟩ := hn.at_)
  have Ho3 := hide (Ho2.out.trans (later_only hl3))
  have HE3 := hide (HE2.out.no (later_only hl3))
  obtain ⟨lo1, hlo1e⟩ : ∃ lo1, w1.heap.size + 1 = lo1 := ⟨_, rfl⟩
  obtain ⟨lo2, hlo2e⟩ : ∃ lo2, w2.heap.size + 1 = lo2 := ⟨_, rfl⟩
  obtain ⟨BB, hBBe⟩ : ∃ BB, h2 + 1 = BB := ⟨_, rfl⟩
  have Ha3 := hide ((hat1 BB (by omega)).only (later_only hl3) (fun _ h => h.elim) (by omega) (fun _ _ h => h))
  have Hb3 := hide (hat2 BB (by omega))
  rw [hlo1e] at Ha3
  rw [hlo2e] at Hb3
  have hlo1 : lo1 ≤ h1 := by omega
  have hlo2 : lo2 ≤ h2 := by omega
  have h12 : h1 < lo2 := by omega
  have hh2 : h2 < BB := by omega
  have hh3 : BB ≤ h2 + 1 := by omega
  have hWB : W.heap.size < lo1 := by omega
  have hBw3 : BB ≤ w3.heap.size := by omega
  clear hlo1e hlo2e hBBe hl3 Hb2 Ho2 HE2 x0 x1 x2 x3 x4 x5 x6 x7 x8 x9 x10 x11 x12 hat1 hat2 hlt1 hlt2 hs2 hs3 hW1
  go_wp2_with fail
  go_loopw [51, 13] (fun iv tv wr => ∃ (i tn : Nat) (s : HoD) (va vb : Value), i ≤ ms.length ∧ iv = .int .i64 (i : Int) ∧ tv = .int .i64 (tn : Int) ∧ tn ≤ gs.length ∧ HoAt wr lo1 h1 BB s va ∧ HoAt wr lo2 h2 BB s vb ∧ (∀ k, va.ownBlock = some k → vb.ownBlock = some k → False) ∧ HoOk s ∧ (∀ j (hj : j < ms.length), j < i → Heard s ms[j]) ∧ Only (fun _ => False) W wr) (fun iv _ _ => ms.length - (intOf iv).toNat)
  case atStart => exact ⟨0, 0, startP r t, .slice none 0 0, .slice none 0 0, by omega, rfl, rfl, by omega, Ha3.out, Hb3.out, fun k hk => (by cases hk), Hst.out, fun j _ hj => by omega, Ho3.out⟩
  case round =>
    rename World => wr
    obtain ⟨i, tn, s, va, vb, hi, rfl, rfl, htn, ha, hb, hd, hos, hheard, ho⟩ := hrel
    have Ha := hide ha
    have Hb := hide hb
    have Hd := hide hd
    have Hos := hide hos
    have Hheard := hide hheard
    have Hor := hide ho
    have hBr : BB ≤ wr.heap.size := by have := hb.lt; omega
    have HEr := hide (he.no ho)
    clear ha hb hd hos hheard ho
    by_cases hil : i < ms.length
    · have d1 : decide ((i : Int) < (ms.length : Int)) = true := by simp; omega
      have i0 : (0 : Int) ≤ (i : Int) := by omega
      have i1 : (i : Int) < (ms.length : Int) := by omega
      obtain ⟨bm, om, hAl, hbm, y0, y1, y2, y3⟩ := msg_at (hms.below (Hor.out.below_ (B := W.heap.size) (fun _ h => h.elim) (Nat.le_refl _))) hil
      obtain ⟨m, hm⟩ : ∃ m, ms[i] = m := ⟨_, rfl⟩
      have Hm := hide hm
      have hmb := hmr m (by rw [← hm]; exact List.getElem_mem hil)
      rw [hm] at y0 y1 y2 y3
      subst hAl
      obtain ⟨s2, hs2⟩ : ∃ s2, (takeP s m).1 = s2 := ⟨_, rfl⟩
      obtain ⟨rk, hrk⟩ : ∃ rk, (takeP s m).2 = rk := ⟨_, rfl⟩
      obtain ⟨rp, hrp⟩ : ∃ rp, s2.ply = rp := ⟨_, rfl⟩
      obtain ⟨ro, hro⟩ : ∃ ro, outP s2 = ro := ⟨_, rfl⟩
      obtain ⟨rt, hrt⟩ : ∃ rt, bytes (textL s2.p) = rt := ⟨_, rfl⟩
      have hrv : repV (takeP s m) = #[.int .i64 rk, .int .i64 rp, .int .i64 ro, .string rt] := by unfold repV; rw [hs2, hrk, hrp, hro, hrt]
      have Hta := hide (fun (w : World) (v : Value) (ha : HoAt w lo1 h1 BB s v) (hB : BB ≤ w.heap.size) (he : EnvH w) => htake_any lo1 h1 BB s v m w ha Hos.out (by omega) hB (by omega) he hmb.1 hmb.2)
      have Htb := hide (fun (w : World) (v : Value) (ha : HoAt w lo2 h2 BB s v) (hB : BB ≤ w.heap.size) (he : EnvH w) => htake_any lo2 h2 BB s v m w ha Hos.out (by omega) hB (by omega) he hmb.1 hmb.2)
      rw [hrv, hs2] at Hta Htb
      have Hs2 := hide hs2
      have Hrp := hide hrp
      have HS11 := hide (show ∀ w' : World, Only (fun x => W.heap.size ≤ x) wr w' → (w'.cell? ⟨bm, om + i * 4, none⟩ = some (.int .i64 m.seat) ∧ w'.cell? ⟨bm, om + i * 4 + 1, none⟩ = some (.int .i64 m.ply) ∧ w'.cell? ⟨bm, om + i * 4 + 2, none⟩ = some (.string m.mv) ∧ w'.cell? ⟨bm, om + i * 4 + 3, none⟩ = some (.int .i64 m.at_)) from fun w' ho => by
        have key : ∀ o v, wr.cell? ⟨bm, o, none⟩ = some v → w'.cell? ⟨bm, o, none⟩ = some v := fun o v hc => by
          rw [← hc]
          simp only [World.cell?, ho.block bm (World.block_lt_of_cell? wr _ hc) (by omega)]
        exact ⟨key _ _ y0, key _ _ y1, key _ _ y2, key _ _ y3⟩)
      clear hm hrv hs2 hrk hrp hro hrt y0 y1 y2 y3
      go_upto_region 11 with (fail)
      go_cut [15, 16] from 54 to 110 (fun pv qv w' => ∃ (g1 g2 : Nat) (va2 vb2 : Value), pv = .pointer (some ⟨g1, 0, none⟩) ∧ qv = .pointer (some ⟨g2, 0, none⟩) ∧ Blk w' g1 59 #[.int .i64 rk, .int .i64 rp, .int .i64 ro, .string rt] ∧ Blk w' g2 59 #[.int .i64 rk, .int .i64 rp, .int .i64 ro, .string rt] ∧ HoAt w' lo1 h1 BB s2 va2 ∧ HoAt w' lo2 h2 BB s2 vb2 ∧ (∀ k, va2.ownBlock = some k → vb2.ownBlock = some k → False) ∧ Only (fun x => W.heap.size ≤ x) wr w' ∧ BB ≤ g1 ∧ BB ≤ g2)
      case first =>
        refine wp_region_held_drew (S := fun w' : World => (w'.cell? ⟨bm, om + i * 4, none⟩ = some (.int .i64 m.seat) ∧ w'.cell? ⟨bm, om + i * 4 + 1, none⟩ = some (.int .i64 m.ply) ∧ w'.cell? ⟨bm, om + i * 4 + 2, none⟩ = some (.string m.mv) ∧ w'.cell? ⟨bm, om + i * 4 + 3, none⟩ = some (.int .i64 m.at_))) (by kernel_rfl) (HS11.out _ ((Only.refl _ wr).drew)) (fun hHeld => ?_)
        have hdr : Only (fun _ => False) wr wr.drew := (Only.refl _ wr).drew
        have Xa20 := hide (Ha.out.only hdr (fun _ h => h.elim) hlo1 (fun _ _ h => h))
        have Xb20 := hide (Hb.out.only hdr (fun _ h => h.elim) hlo2 (fun _ _ h => h))
        have Xo20 := hide (hdr.mono (S' := fun x => W.heap.size ≤ x) (fun _ _ h => h.elim))
        have Xs20 := hide (show BB ≤ wr.drew.heap.size from hBr)
        have Xd20 := Hd
        obtain ⟨w20, hw⟩ : ∃ w20, wr.drew = w20 := ⟨_, rfl⟩
        rw [hw] at hHeld Xa20 Xb20 Xo20 Xs20 ⊢
        clear hw hdr
        refine wpAnyH_take (i := 0) (oi := ⟨some 54, _, _, _, _, _⟩) (v := ?_) rfl (by kernel_rfl) (by kernel_rfl) (by kernel_rfl) (fun _ _ _ h => h) (Or.inl ⟨by rfl, ?_⟩) (by assumption) ?_
        rotate_left 1
        · intro w hSw
          try dsimp only at hSw
          go_simp <;> with_reducible rfl
        try simp only [Act.put, List.setIfInBounds_toArray, List.set_cons_zero, List.set_cons_succ]
        refine wpAnyH_take (i := 1) (oi := ⟨some 55, _, _, _, _, _⟩) (v := ?_) rfl (by kernel_rfl) (by kernel_rfl) (by kernel_rfl) (fun _ _ _ h => h) (Or.inl ⟨by rfl, ?_⟩) (by assumption) ?_
        rotate_left 1
        · intro w hSw
          try dsimp only at hSw
          go_simp <;> with_reducible rfl
        try simp only [Act.put, List.setIfInBounds_toArray, List.set_cons_zero, List.set_cons_succ]
        refine wpAnyH_take (i := 2) (oi := ⟨some 56, _, _, _, _, _⟩) (v := ?_) rfl (by kernel_rfl) (by kernel_rfl) (by kernel_rfl) (fun _ _ _ h => h) (Or.inl ⟨by rfl, ?_⟩) (by assumption) ?_
        rotate_left 1
        · intro w hSw
          try dsimp only at hSw
          go_simp <;> with_reducible rfl
        try simp only [Act.put, List.setIfInBounds_toArray, List.set_cons_zero, List.set_cons_succ]
        refine wpAnyH_take (i := 3) (oi := ⟨some 57, _, _, _, _, _⟩) (v := ?_) rfl (by kernel_rfl) (by kernel_rfl) (by kernel_rfl) (fun _ _ _ h => h) (Or.inl ⟨by rfl, ?_⟩) (by assumption) ?_
        rotate_left 1
        · intro w hSw
          try dsimp only at hSw
          go_simp <;> with_reducible rfl
        try simp only [Act.put, List.setIfInBounds_toArray, List.set_cons_zero, List.set_cons_succ]
        refine wpAnyH_take (i := 4) (oi := ⟨some 58, _, _, _, _, _⟩) (v := ?_) rfl (by kernel_rfl) (by kernel_rfl) (by kernel_rfl) (fun _ _ _ h => h) (Or.inl ⟨by rfl, ?_⟩) (by assumption) ?_
        rotate_left 1
        · intro w hSw
          try dsimp only at hSw
          go_simp <;> with_reducible rfl
        try simp only [Act.put, List.setIfInBounds_toArray, List.set_cons_zero, List.set_cons_succ]
        refine wpAnyH_take (i := 6) (oi := ⟨some 60, _, _, _, _, _⟩) (v := ?_) rfl (by kernel_rfl) (by kernel_rfl) (by kernel_rfl) (fun _ _ _ h => h) (Or.inl ⟨by rfl, ?_⟩) (by assumption) ?_
        rotate_left 1
        · intro w hSw
          try dsimp only at hSw
          go_simp <;> with_reducible rfl
        try simp only [Act.put, List.setIfInBounds_toArray, List.set_cons_zero, List.set_cons_succ]
        refine wpAnyH_take (i := 7) (oi := ⟨some 61, _, _, _, _, _⟩) (v := ?_) rfl (by kernel_rfl) (by kernel_rfl) (by kernel_rfl) (fun _ _ _ h => h) (Or.inl ⟨by rfl, ?_⟩) (by assumption) ?_
        rotate_left 1
        · intro w hSw
          try dsimp only at hSw
          go_simp <;> with_reducible rfl
        try simp only [Act.put, List.setIfInBounds_toArray, List.set_cons_zero, List.set_cons_succ]
        refine wpAnyH_take (i := 8) (oi := ⟨some 62, _, _, _, _, _⟩) (v := ?_) rfl (by kernel_rfl) (by kernel_rfl) (by kernel_rfl) (fun _ _ _ h => h) (Or.inl ⟨by rfl, ?_⟩) (by assumption) ?_
        rotate_left 1
        · intro w hSw
          try dsimp only at hSw
          go_simp <;> with_reducible rfl
        try simp only [Act.put, List.setIfInBounds_toArray, List.set_cons_zero, List.set_cons_succ]
        refine wpAnyH_take (i := 9) (oi := ⟨some 63, _, _, _, _, _⟩) (v := ?_) rfl (by kernel_rfl) (by kernel_rfl) (by kernel_rfl) (fun _ _ _ h => h) (Or.inl ⟨by rfl, ?_⟩) (by assumption) ?_
        rotate_left 1
        · intro w hSw
          try dsimp only at hSw
          go_simp <;> with_reducible rfl
        try simp only [Act.put, List.setIfInBounds_toArray, List.set_cons_zero, List.set_cons_succ]
        refine wpAnyH_take (i := 10) (oi := ⟨some 64, _, _, _, _, _⟩) (v := ?_) rfl (by kernel_rfl) (by kernel_rfl) (by kernel_rfl) (fun _ _ _ h => h) (Or.inl ⟨by rfl, ?_⟩) (by assumption) ?_
        rotate_left 1
        · intro w hSw
          try dsimp only at hSw
          go_simp <;> with_reducible rfl
        try simp only [Act.put, List.setIfInBounds_toArray, List.set_cons_zero, List.set_cons_succ]
        refine wpAnyH_ready (rs := [5, 12, 13]) (by kernel_rfl) (by simp) ?_
        refine AllReadyH.cons (o := ⟨some 59, _, _, _, _, _⟩) rfl (fun K hK => ?_) ?_
        · clear hHeld
          go_simp
          go_at_call 23
          refine (Hta.out _ _ Xa20.out Xs20.out (HEr.out.step Xo20.out (fun i hi => by omega))).mono ?_
          rintro e w21 ⟨rfl, va2, hat, hlie, ho⟩
          have Xa21 := hide hat
          have Xb21 := hide (Xb20.out.only ho (fun k hk hq => hk.elim (fun hk => by omega) (fun hk => by have := (Xa20.out.own k hk).1; omega)) hlo2 (fun k hk hq => hq.elim (fun hq => by have := (Xb20.out.own k hk).1; omega) (fun hq => Xd20.out k hq hk)))
          have Xd21 := hide (show ∀ k, va2.ownBlock = some k → vb.ownBlock = some k → False from fun k hk hq => by
            rcases hlie with h | ⟨g, h, hg⟩
            · rw [h] at hk; exact Xd20.out k hk hq
            · rw [h] at hk; injection hk with hk; have := (Xb20.out.own k hq).2; omega)
          have Xo21 := hide (Xo20.out.trans' ho (fun i hi hs => hs.elim (fun hs => by omega) (fun hs => by have := (Xa20.out.own i hs).1; omega)))
          have Xs21 := hide (Nat.le_trans Xs20.out ho.size)
          clear hat hlie ho
          try go_wp2_with fail
          refine hK.out _ _ (HS11.out _ Xo21.out) (fun hHeld => ?_)
          clear hK K
          try simp only [Act.put, List.setIfInBounds_toArray, List.set_cons_zero, List.set_cons_succ]
          refine wpAnyH_ready (rs := [11, 12, 13]) (by kernel_rfl) (by simp) ?_
          refine AllReadyH.cons (o := ⟨some 65, _, _, _, _, _⟩) rfl (fun K hK => ?_) ?_
          · clear hHeld
            go_simp
            go_at_call 23
            refine (Htb.out _ _ Xb21.out Xs21.out (HEr.out.step Xo21.out (fun i hi => by omega))).mono ?_
            rintro e w22 ⟨rfl, vb2, hat, hlie, ho⟩
            have Xb22 := hide hat
            have Xa22 := hide (Xa21.out.only ho (fun k hk hq => hk.elim (fun hk => by omega) (fun hk => by have := (Xb21.out.own k hk).1; omega)) hlo1 (fun k hk hq => hq.elim (fun hq => by have := (Xa21.out.own k hk).1; omega) (fun hq => Xd21.out k hk hq)))
            have Xd22 := hide (show ∀ k, va2.ownBlock = some k → vb2.ownBlock = some k → False from fun k hk hq => by
              rcases hlie with h | ⟨g, h, hg⟩
              · rw [h] at hq; exact Xd21.out k hk hq
              · rw [h] at hq; injection hq with hq; have := (Xa21.out.own k hk).2; omega)
            have Xo22 := hide (Xo21.out.trans' ho (fun i hi hs => hs.elim (fun hs => by omega) (fun hs => by have := (Xb21.out.own i hs).1; omega)))
            have Xs22 := hide (Nat.le_trans Xs21.out ho.size)
            clear hat hlie ho
            try go_wp2_with fail
            refine hK.out _ _ (HS11.out _ Xo22.out) (fun hHeld => ?_)
            clear hK K
            try simp only [Act.put, List.setIfInBounds_toArray, List.set_cons_zero, List.set_cons_succ]
            refine wpAnyH_ready (rs := [12, 13]) (by kernel_rfl) (by simp) ?_
            refine AllReadyH.cons (o := ⟨some 15, _, _, _, _, _⟩) rfl (fun K hK => ?_) ?_
            · clear hHeld
              go_simp
              have hal : Only (fun _ => False) w22 (w22.alloc (.cells #[.int .i64 0, .int .i64 0, .int .i64 0, .string ⟨#[]⟩] 59)) := (Only.refl _ w22).alloc _
              have Xa23 := hide (Xa22.out.only hal (fun _ h => h.elim) hlo1 (fun _ _ h => h))
              have Xb23 := hide (Xb22.out.only hal (fun _ h => h.elim) hlo2 (fun _ _ h => h))
              have Xo23 := hide (Xo22.out.trans' hal (fun _ _ h => h.elim))
              have Xs23 := hide (Nat.le_trans Xs22.out hal.size)
              have Xd23 := Xd22
              have Xg23 := hide (Blk.new w22 59 #[.int .i64 0, .int .i64 0, .int .i64 0, .string ⟨#[]⟩])
              obtain ⟨g1, hg⟩ : ∃ g1, w22.heap.size = g1 := ⟨_, rfl⟩
              have Lg1 := hide (show BB ≤ g1 from by rw [← hg]; exact Xs22.out)
              obtain ⟨w23, hw⟩ : ∃ w23, w22.alloc (.cells #[.int .i64 0, .int .i64 0, .int .i64 0, .string ⟨#[]⟩] 59) = w23 := ⟨_, rfl⟩
              rw [hw] at Xa23 Xb23 Xo23 Xs23 Xg23 ⊢
              clear hw
              rw [hg] at Xg23 ⊢
              clear hg hal
              refine hK.out _ _ (HS11.out _ Xo23.out) (fun hHeld => ?_)
              clear hK K
              try simp only [Act.put, List.setIfInBounds_toArray, List.set_cons_zero, List.set_cons_succ]
              refine wpAnyH_ready (rs := [13]) (by kernel_rfl) (by simp) ?_
              refine AllReadyH.cons (o := ⟨some 16, _, _, _, _, _⟩) rfl (fun K hK => ?_) ?_
              · clear hHeld
                go_simp
                have hal : Only (fun _ => False) w23 (w23.alloc (.cells #[.int .i64 0, .int .i64 0, .int .i64 0, .string ⟨#[]⟩] 59)) := (Only.refl _ w23).alloc _
                have Xa24 := hide (Xa23.out.only hal (fun _ h => h.elim) hlo1 (fun _ _ h => h))
                have Xb24 := hide (Xb23.out.only hal (fun _ h => h.elim) hlo2 (fun _ _ h => h))
                have Xo24 := hide (Xo23.out.trans' hal (fun _ _ h => h.elim))
                have Xs24 := hide (Nat.le_trans Xs23.out hal.size)
                have Xd24 := Xd23
                have Xg24 := hide (Xg23.out.only hal (fun h => h))
                have Xh24 := hide (Blk.new w23 59 #[.int .i64 0, .int .i64 0, .int .i64 0, .string ⟨#[]⟩])
                obtain ⟨g2, hg⟩ : ∃ g2, w23.heap.size = g2 := ⟨_, rfl⟩
                have Lg2 := hide (show BB ≤ g2 from by rw [← hg]; exact Xs23.out)
                have Ng := hide (show g1 ≠ g2 from by have := Blk.lt Xg23.out; omega)
                obtain ⟨w24, hw⟩ : ∃ w24, w23.alloc (.cells #[.int .i64 0, .int .i64 0, .int .i64 0, .string ⟨#[]⟩] 59) = w24 := ⟨_, rfl⟩
                rw [hw] at Xa24 Xb24 Xo24 Xs24 Xg24 Xh24 ⊢
                clear hw
                rw [hg] at Xh24 ⊢
                clear hg hal
                refine hK.out _ _ (HS11.out _ Xo24.out) (fun hHeld => ?_)
                clear hK K
                try simp only [Act.put, List.setIfInBounds_toArray, List.set_cons_zero, List.set_cons_succ]
                refine wpAnyH_ready (rs := [14]) (by kernel_rfl) (by simp) ?_
                refine AllReadyH.cons (o := ⟨none, _, _, _, _, _⟩) rfl (fun K hK => ?_) ?_
                · clear hHeld
                  rw [if_pos (by rfl)]
                  refine wp_store_row 59 (.tmp 15) (.tmp 59) rfl g1 #[.int .i64 rk, .int .i64 rp, .int .i64 ro, .string rt] rfl rfl 59 _ Xg24.out (by kernel_rfl) (by simp) (by simp [Value.oneCell']) ?_
                  have hst : Only (fun x => x = g1) w24 (w24.setRow g1 #[.int .i64 rk, .int .i64 rp, .int .i64 ro, .string rt]) := only_setRowG _ _ _
                  have Xa25 := hide (Xa24.out.only hst (fun k hk hq => by have := Lg1.out; omega) hlo1 (fun k hk hq => Xa24.out.ne_blk Xg24.out rep_ne k hk hq))
                  have Xb25 := hide (Xb24.out.only hst (fun k hk hq => by have := Lg1.out; omega) hlo2 (fun k hk hq => Xb24.out.ne_blk Xg24.out rep_ne k hk hq))
                  have Xo25 := hide (Xo24.out.trans' hst (fun i hi hs => by have := Lg1.out; omega))
                  have Xs25 := hide (Nat.le_trans Xs24.out hst.size)
                  have Xd25 := Xd24
                  have Xg25 := hide (setRow_blkH (vs := #[.int .i64 rk, .int .i64 rp, .int .i64 ro, .string rt]) Xg24.out)
                  have Xh25 := hide (Xh24.out.only hst (fun h => Ng.out h.symm))
                  obtain ⟨w25, hw⟩ : ∃ w25, w24.setRow g1 #[.int .i64 rk, .int .i64 rp, .int .i64 ro, .string rt] = w25 := ⟨_, rfl⟩
                  rw [hw] at Xa25 Xb25 Xo25 Xs25 Xg25 Xh25 ⊢
                  clear hw
                  clear hst
                  refine hK.out _ _ (HS11.out _ Xo25.out) (fun hHeld => ?_)
                  clear hK K
                  try simp only [Act.put]
                  refine wpAnyH_ready (rs := [15]) (by kernel_rfl) (by simp) ?_
                  refine AllReadyH.cons (o := ⟨none, _, _, _, _, _⟩) rfl (fun K hK => ?_) ?_
                  · clear hHeld
                    rw [if_pos (by rfl)]
                    refine wp_store_row 59 (.tmp 16) (.tmp 65) rfl g2 #[.int .i64 rk, .int .i64 rp, .int .i64 ro, .string rt] rfl rfl 59 _ Xh25.out (by kernel_rfl) (by simp) (by simp [Value.oneCell']) ?_
                    have hst : Only (fun x => x = g2) w25 (w25.setRow g2 #[.int .i64 rk, .int .i64 rp, .int .i64 ro, .string rt]) := only_setRowG _ _ _
                    have Xa26 := hide (Xa25.out.only hst (fun k hk hq => by have := Lg2.out; omega) hlo1 (fun k hk hq => Xa25.out.ne_blk Xh25.out rep_ne k hk hq))
                    have Xb26 := hide (Xb25.out.only hst (fun k hk hq => by have := Lg2.out; omega) hlo2 (fun k hk hq => Xb25.out.ne_blk Xh25.out rep_ne k hk hq))
                    have Xo26 := hide (Xo25.out.trans' hst (fun i hi hs => by have := Lg2.out; omega))
                    have Xs26 := hide (Nat.le_trans Xs25.out hst.size)
                    have Xd26 := Xd25
                    have Xh26 := hide (setRow_blkH (vs := #[.int .i64 rk, .int .i64 rp, .int .i64 ro, .string rt]) Xh25.out)
                    have Xg26 := hide (Xg25.out.only hst (fun h => Ng.out h))
                    obtain ⟨w26, hw⟩ : ∃ w26, w25.setRow g2 #[.int .i64 rk, .int .i64 rp, .int .i64 ro, .string rt] = w26 := ⟨_, rfl⟩
                    rw [hw] at Xa26 Xb26 Xo26 Xs26 Xg26 Xh26 ⊢
                    clear hw
                    clear hst
                    refine hK.out _ _ (HS11.out _ Xo26.out) (fun hHeld => ?_)
                    clear hK K
                    try simp only [Act.put]
                    refine wpAnyH_done (by kernel_rfl) ?_ _
                    go_wp2_with fail
                    go_meet
                    case rel => exact ⟨g1, g2, va2, vb2, rfl, rfl, Xg26.out, Xh26.out, Xa26.out, Xb26.out, Xd26.out, Xo26.out, Lg1.out, Lg2.out⟩
                  exact AllReadyH.nil
                exact AllReadyH.nil
              exact AllReadyH.nil
            refine AllReadyH.cons (o := ⟨some 16, _, _, _, _, _⟩) rfl (fun K hK => ?_) ?_
            · clear hHeld
              go_simp
              have hal : Only (fun _ => False) w22 (w22.alloc (.cells #[.int .i64 0, .int .i64 0, .int .i64 0, .string ⟨#[]⟩] 59)) := (Only.refl _ w22).alloc _
              have Xa27 := hide (Xa22.out.only hal (fun _ h => h.elim) hlo1 (fun _ _ h => h))
              have Xb27 := hide (Xb22.out.only hal (fun _ h => h.elim) hlo2 (fun _ _ h => h))
              have Xo27 := hide (Xo22.out.trans' hal (fun _ _ h => h.elim))
              have Xs27 := hide (Nat.le_trans Xs22.out hal.size)
              have Xd27 := Xd22
              have Xh27 := hide (Blk.new w22 59 #[.int .i64 0, .int .i64 0, .int .i64 0, .string ⟨#[]⟩])
              obtain ⟨g2, hg⟩ : ∃ g2, w22.heap.size = g2 := ⟨_, rfl⟩
              have Lg2 := hide (show BB ≤ g2 from by rw [← hg]; exact Xs22.out)
              obtain ⟨w27, hw⟩ : ∃ w27, w22.alloc (.cells #[.int .i64 0, .int .i64 0, .int .i64 0, .string ⟨#[]⟩] 59) = w27 := ⟨_, rfl⟩
              rw [hw] at Xa27 Xb27 Xo27 Xs27 Xh27 ⊢
              clear hw
              rw [hg] at Xh27 ⊢
              clear hg hal
              refine hK.out _ _ (HS11.out _ Xo27.out) (fun hHeld => ?_)
              clear hK K
              try simp only [Act.put, List.setIfInBounds_toArray, List.set_cons_zero, List.set_cons_succ]
              refine wpAnyH_ready (rs := [12]) (by kernel_rfl) (by simp) ?_
              refine AllReadyH.cons (o := ⟨some 15, _, _, _, _, _⟩) rfl (fun K hK => ?_) ?_
              · clear hHeld
                go_simp
                have hal : Only (fun _ => False) w27 (w27.alloc (.cells #[.int .i64 0, .int .i64 0, .int .i64 0, .string ⟨#[]⟩] 59)) := (Only.refl _ w27).alloc _
                have Xa28 := hide (Xa27.out.only hal (fun _ h => h.elim) hlo1 (fun _ _ h => h))
                have Xb28 := hide (Xb27.out.only hal (fun _ h => h.elim) hlo2 (fun _ _ h => h))
                have Xo28 := hide (Xo27.out.trans' hal (fun _ _ h => h.elim))
                have Xs28 := hide (Nat.le_trans Xs27.out hal.size)
                have Xd28 := Xd27
                have Xh28 := hide (Xh27.out.only hal (fun h => h))
                have Xg28 := hide (Blk.new w27 59 #[.int .i64 0, .int .i64 0, .int .i64 0, .string ⟨#[]⟩])
                obtain ⟨g1, hg⟩ : ∃ g1, w27.heap.size = g1 := ⟨_, rfl⟩
                have Lg1 := hide (show BB ≤ g1 from by rw [← hg]; exact Xs27.out)
                have Ng := hide (show g1 ≠ g2 from by have := Blk.lt Xh27.out; omega)
                obtain ⟨w28, hw⟩ : ∃ w28, w27.alloc (.cells #[.int .i64 0, .int .i64 0, .int .i64 0, .string ⟨#[]⟩] 59) = w28 := ⟨_, rfl⟩
                rw [hw] at Xa28 Xb28 Xo28 Xs28 Xg28 Xh28 ⊢
                clear hw
                rw [hg] at Xg28 ⊢
                clear hg hal
                refine hK.out _ _ (HS11.out _ Xo28.out) (fun hHeld => ?_)
                clear hK K
                try simp only [Act.put, List.setIfInBounds_toArray, List.set_cons_zero, List.set_cons_succ]
                refine wpAnyH_ready (rs := [14]) (by kernel_rfl) (by simp) ?_
                refine AllReadyH.cons (o := ⟨none, _, _, _, _, _⟩) rfl (fun K hK => ?_) ?_
                · clear hHeld
                  rw [if_pos (by rfl)]
                  refine wp_store_row 59 (.tmp 15) (.tmp 59) rfl g1 #[.int .i64 rk, .int .i64 rp, .int .i64 ro, .string rt] rfl rfl 59 _ Xg28.out (by kernel_rfl) (by simp) (by simp [Value.oneCell']) ?_
                  have hst : Only (fun x => x = g1) w28 (w28.setRow g1 #[.int .i64 rk, .int .i64 rp, .int .i64 ro, .string rt]) := only_setRowG _ _ _
                  have Xa29 := hide (Xa28.out.only hst (fun k hk hq => by have := Lg1.out; omega) hlo1 (fun k hk hq => Xa28.out.ne_blk Xg28.out rep_ne k hk hq))
                  have Xb29 := hide (Xb28.out.only hst (fun k hk hq => by have := Lg1.out; omega) hlo2 (fun k hk hq => Xb28.out.ne_blk Xg28.out rep_ne k hk hq))
                  have Xo29 := hide (Xo28.out.trans' hst (fun i hi hs => by have := Lg1.out; omega))
                  have Xs29 := hide (Nat.le_trans Xs28.out hst.size)
                  have Xd29 := Xd28
                  have Xg29 := hide (setRow_blkH (vs := #[.int .i64 rk, .int .i64 rp, .int .i64 ro, .string rt]) Xg28.out)
                  have Xh29 := hide (Xh28.out.only hst (fun h => Ng.out h.symm))
                  obtain ⟨w29, hw⟩ : ∃ w29, w28.setRow g1 #[.int .i64 rk, .int .i64 rp, .int .i64 ro, .string rt] = w29 := ⟨_, rfl⟩
                  rw [hw] at Xa29 Xb29 Xo29 Xs29 Xg29 Xh29 ⊢
                  clear hw
                  clear hst
                  refine hK.out _ _ (HS11.out _ Xo29.out) (fun hHeld => ?_)
                  clear hK K
                  try simp only [Act.put]
                  refine wpAnyH_ready (rs := [15]) (by kernel_rfl) (by simp) ?_
                  refine AllReadyH.cons (o := ⟨none, _, _, _, _, _⟩) rfl (fun K hK => ?_) ?_
                  · clear hHeld
                    rw [if_pos (by rfl)]
                    refine wp_store_row 59 (.tmp 16) (.tmp 65) rfl g2 #[.int .i64 rk, .int .i64 rp, .int .i64 ro, .string rt] rfl rfl 59 _ Xh29.out (by kernel_rfl) (by simp) (by simp [Value.oneCell']) ?_
                    have hst : Only (fun x => x = g2) w29 (w29.setRow g2 #[.int .i64 rk, .int .i64 rp, .int .i64 ro, .string rt]) := only_setRowG _ _ _
                    have Xa30 := hide (Xa29.out.only hst (fun k hk hq => by have := Lg2.out; omega) hlo1 (fun k hk hq => Xa29.out.ne_blk Xh29.out rep_ne k hk hq))
                    have Xb30 := hide (Xb29.out.only hst (fun k hk hq => by have := Lg2.out; omega) hlo2 (fun k hk hq => Xb29.out.ne_blk Xh29.out rep_ne k hk hq))
                    have Xo30 := hide (Xo29.out.trans' hst (fun i hi hs => by have := Lg2.out; omega))
                    have Xs30 := hide (Nat.le_trans Xs29.out hst.size)
                    have Xd30 := Xd29
                    have Xh30 := hide (setRow_blkH (vs := #[.int .i64 rk, .int .i64 rp, .int .i64 ro, .string rt]) Xh29.out)
                    have Xg30 := hide (Xg29.out.only hst (fun h => Ng.out h))
                    obtain ⟨w30, hw⟩ : ∃ w30, w29.setRow g2 #[.int .i64 rk, .int .i64 rp, .int .i64 ro, .string rt] = w30 := ⟨_, rfl⟩
                    rw [hw] at Xa30 Xb30 Xo30 Xs30 Xg30 Xh30 ⊢
                    clear hw
                    clear hst
                    refine hK.out _ _ (HS11.out _ Xo30.out) (fun hHeld => ?_)
                    clear hK K
                    try simp only [Act.put]
                    refine wpAnyH_done (by kernel_rfl) ?_ _
                    go_wp2_with fail
                    go_meet
                    case rel => exact ⟨g1, g2, va2, vb2, rfl, rfl, Xg30.out, Xh30.out, Xa30.out, Xb30.out, Xd30.out, Xo30.out, Lg1.out, Lg2.out⟩
                  exact AllReadyH.nil
                exact AllReadyH.nil
              exact AllReadyH.nil
            exact AllReadyH.nil
          refine AllReadyH.cons (o := ⟨some 15, _, _, _, _, _⟩) rfl (fun K hK => ?_) ?_
          · clear hHeld
            go_simp
            have hal : Only (fun _ => False) w21 (w21.alloc (.cells #[.int .i64 0, .int .i64 0, .int .i64 0, .string ⟨#[]⟩] 59)) := (Only.refl _ w21).alloc _
            have Xa31 := hide (Xa21.out.only hal (fun _ h => h.elim) hlo1 (fun _ _ h => h))
            have Xb31 := hide (Xb21.out.only hal (fun _ h => h.elim) hlo2 (fun _ _ h => h))
            have Xo31 := hide (Xo21.out.trans' hal (fun _ _ h => h.elim))
            have Xs31 := hide (Nat.le_trans Xs21.out hal.size)
            have Xd31 := Xd21
            have Xg31 := hide (Blk.new w21 59 #[.int .i64 0, .int .i64 0, .int .i64 0, .string ⟨#[]⟩])
            obtain ⟨g1, hg⟩ : ∃ g1, w21.heap.size = g1 := ⟨_, rfl⟩
            have Lg1 := hide (show BB ≤ g1 from by rw [← hg]; exact Xs21.out)
            obtain ⟨w31, hw⟩ : ∃ w31, w21.alloc (.cells #[.int .i64 0, .int .i64 0, .int .i64 0, .string ⟨#[]⟩] 59) = w31 := ⟨_, rfl⟩
            rw [hw] at Xa31 Xb31 Xo31 Xs31 Xg31 ⊢
            clear hw
            rw [hg] at Xg31 ⊢
            clear hg hal
            refine hK.out _ _ (HS11.out _ Xo31.out) (fun hHeld => ?_)
            clear hK K
            try simp only [Act.put, List.setIfInBounds_toArray, List.set_cons_zero, List.set_cons_succ]
            refine wpAnyH_ready (rs := [11, 13]) (by kernel_rfl) (by simp) ?_
            refine AllReadyH.cons (o := ⟨some 65, _, _, _, _, _⟩) rfl (fun K hK => ?_) ?_
            · clear hHeld
              go_simp
              go_at_call 23
              refine (Htb.out _ _ Xb31.out Xs31.out (HEr.out.step Xo31.out (fun i hi => by omega))).mono ?_
              rintro e w32 ⟨rfl, vb2, hat, hlie, ho⟩
              have Xb32 := hide hat
              have Xa32 := hide (Xa31.out.only ho (fun k hk hq => hk.elim (fun hk => by omega) (fun hk => by have := (Xb31.out.own k hk).1; omega)) hlo1 (fun k hk hq => hq.elim (fun hq => by have := (Xa31.out.own k hk).1; omega) (fun hq => Xd31.out k hk hq)))
              have Xd32 := hide (show ∀ k, va2.ownBlock = some k → vb2.ownBlock = some k → False from fun k hk hq => by
                rcases hlie with h | ⟨g, h, hg⟩
                · rw [h] at hq; exact Xd31.out k hk hq
                · rw [h] at hq; injection hq with hq; have := (Xa31.out.own k hk).2; omega)
              have Xo32 := hide (Xo31.out.trans' ho (fun i hi hs => hs.elim (fun hs => by omega) (fun hs => by have := (Xb31.out.own i hs).1; omega)))
              have Xs32 := hide (Nat.le_trans Xs31.out ho.size)
              have Xg32 := hide (Xg31.out.only ho (fun h => h.elim (fun h => by have := Lg1.out; omega) (fun h => Xb31.out.ne_blk Xg31.out rep_ne _ h rfl)))
              clear hat hlie ho
              try go_wp2_with fail
              refine hK.out _ _ (HS11.out _ Xo32.out) (fun hHeld => ?_)
              clear hK K
              try simp only [Act.put, List.setIfInBounds_toArray, List.set_cons_zero, List.set_cons_succ]
              refine wpAnyH_ready (rs := [13]) (by kernel_rfl) (by simp) ?_
              refine AllReadyH.cons (o := ⟨some 16, _, _, _, _, _⟩) rfl (fun K hK => ?_) ?_
              · clear hHeld
                go_simp
                have hal : Only (fun _ => False) w32 (w32.alloc (.cells #[.int .i64 0, .int .i64 0, .int .i64 0, .string ⟨#[]⟩] 59)) := (Only.refl _ w32).alloc _
                have Xa33 := hide (Xa32.out.only hal (fun _ h => h.elim) hlo1 (fun _ _ h => h))
                have Xb33 := hide (Xb32.out.only hal (fun _ h => h.elim) hlo2 (fun _ _ h => h))
                have Xo33 := hide (Xo32.out.trans' hal (fun _ _ h => h.elim))
                have Xs33 := hide (Nat.le_trans Xs32.out hal.size)
                have Xd33 := Xd32
                have Xg33 := hide (Xg32.out.only hal (fun h => h))
                have Xh33 := hide (Blk.new w32 59 #[.int .i64 0, .int .i64 0, .int .i64 0, .string ⟨#[]⟩])
                obtain ⟨g2, hg⟩ : ∃ g2, w32.heap.size = g2 := ⟨_, rfl⟩
                have Lg2 := hide (show BB ≤ g2 from by rw [← hg]; exact Xs32.out)
                have Ng := hide (show g1 ≠ g2 from by have := Blk.lt Xg32.out; omega)
                obtain ⟨w33, hw⟩ : ∃ w33, w32.alloc (.cells #[.int .i64 0, .int .i64 0, .int .i64 0, .string ⟨#[]⟩] 59) = w33 := ⟨_, rfl⟩
                rw [hw] at Xa33 Xb33 Xo33 Xs33 Xg33 Xh33 ⊢
                clear hw
                rw [hg] at Xh33 ⊢
                clear hg hal
                refine hK.out _ _ (HS11.out _ Xo33.out) (fun hHeld => ?_)
                clear hK K
                try simp only [Act.put, List.setIfInBounds_toArray, List.set_cons_zero, List.set_cons_succ]
                refine wpAnyH_ready (rs := [14]) (by kernel_rfl) (by simp) ?_
                refine AllReadyH.cons (o := ⟨none, _, _, _, _, _⟩) rfl (fun K hK => ?_) ?_
                · clear hHeld
                  rw [if_pos (by rfl)]
                  refine wp_store_row 59 (.tmp 15) (.tmp 59) rfl g1 #[.int .i64 rk, .int .i64 rp, .int .i64 ro, .string rt] rfl rfl 59 _ Xg33.out (by kernel_rfl) (by simp) (by simp [Value.oneCell']) ?_
                  have hst : Only (fun x => x = g1) w33 (w33.setRow g1 #[.int .i64 rk, .int .i64 rp, .int .i64 ro, .string rt]) := only_setRowG _ _ _
                  have Xa34 := hide (Xa33.out.only hst (fun k hk hq => by have := Lg1.out; omega) hlo1 (fun k hk hq => Xa33.out.ne_blk Xg33.out rep_ne k hk hq))
                  have Xb34 := hide (Xb33.out.only hst (fun k hk hq => by have := Lg1.out; omega) hlo2 (fun k hk hq => Xb33.out.ne_blk Xg33.out rep_ne k hk hq))
                  have Xo34 := hide (Xo33.out.trans' hst (fun i hi hs => by have := Lg1.out; omega))
                  have Xs34 := hide (Nat.le_trans Xs33.out hst.size)
                  have Xd34 := Xd33
                  have Xg34 := hide (setRow_blkH (vs := #[.int .i64 rk, .int .i64 rp, .int .i64 ro, .string rt]) Xg33.out)
                  have Xh34 := hide (Xh33.out.only hst (fun h => Ng.out h.symm))
                  obtain ⟨w34, hw⟩ : ∃ w34, w33.setRow g1 #[.int .i64 rk, .int .i64 rp, .int .i64 ro, .string rt] = w34 := ⟨_, rfl⟩
                  rw [hw] at Xa34 Xb34 Xo34 Xs34 Xg34 Xh34 ⊢
                  clear hw
                  clear hst
                  refine hK.out _ _ (HS11.out _ Xo34.out) (fun hHeld => ?_)
                  clear hK K
                  try simp only [Act.put]
                  refine wpAnyH_ready (rs := [15]) (by kernel_rfl) (by simp) ?_
                  refine AllReadyH.cons (o := ⟨none, _, _, _, _, _⟩) rfl (fun K hK => ?_) ?_
                  · clear hHeld
                    rw [if_pos (by rfl)]
                    refine wp_store_row 59 (.tmp 16) (.tmp 65) rfl g2 #[.int .i64 rk, .int .i64 rp, .int .i64 ro, .string rt] rfl rfl 59 _ Xh34.out (by kernel_rfl) (by simp) (by simp [Value.oneCell']) ?_
                    have hst : Only (fun x => x = g2) w34 (w34.setRow g2 #[.int .i64 rk, .int .i64 rp, .int .i64 ro, .string rt]) := only_setRowG _ _ _
                    have Xa35 := hide (Xa34.out.only hst (fun k hk hq => by have := Lg2.out; omega) hlo1 (fun k hk hq => Xa34.out.ne_blk Xh34.out rep_ne k hk hq))
                    have Xb35 := hide (Xb34.out.only hst (fun k hk hq => by have := Lg2.out; omega) hlo2 (fun k hk hq => Xb34.out.ne_blk Xh34.out rep_ne k hk hq))
                    have Xo35 := hide (Xo34.out.trans' hst (fun i hi hs => by have := Lg2.out; omega))
                    have Xs35 := hide (Nat.le_trans Xs34.out hst.size)
                    have Xd35 := Xd34
                    have Xh35 := hide (setRow_blkH (vs := #[.int .i64 rk, .int .i64 rp, .int .i64 ro, .string rt]) Xh34.out)
                    have Xg35 := hide (Xg34.out.only hst (fun h => Ng.out h))
                    obtain ⟨w35, hw⟩ : ∃ w35, w34.setRow g2 #[.int .i64 rk, .int .i64 rp, .int .i64 ro, .string rt] = w35 := ⟨_, rfl⟩
                    rw [hw] at Xa35 Xb35 Xo35 Xs35 Xg35 Xh35 ⊢
                    clear hw
                    clear hst
                    refine hK.out _ _ (HS11.out _ Xo35.out) (fun hHeld => ?_)
                    clear hK K
                    try simp only [Act.put]
                    refine wpAnyH_done (by kernel_rfl) ?_ _
                    go_wp2_with fail
                    go_meet
                    case rel => exact ⟨g1, g2, va2, vb2, rfl, rfl, Xg35.out, Xh35.out, Xa35.out, Xb35.out, Xd35.out, Xo35.out, Lg1.out, Lg2.out⟩
                  exact AllReadyH.nil
                exact AllReadyH.nil
              exact AllReadyH.nil
            refine AllReadyH.cons (o := ⟨some 16, _, _, _, _, _⟩) rfl (fun K hK => ?_) ?_
            · clear hHeld
              go_simp
              have hal : Only (fun _ => False) w31 (w31.alloc (.cells #[.int .i64 0, .int .i64 0, .int .i64 0, .string ⟨#[]⟩] 59)) := (Only.refl _ w31).alloc _
              have Xa36 := hide (Xa31.out.only hal (fun _ h => h.elim) hlo1 (fun _ _ h => h))
              have Xb36 := hide (Xb31.out.only hal (fun _ h => h.elim) hlo2 (fun _ _ h => h))
              have Xo36 := hide (Xo31.out.trans' hal (fun _ _ h => h.elim))
              have Xs36 := hide (Nat.le_trans Xs31.out hal.size)
              have Xd36 := Xd31
              have Xg36 := hide (Xg31.out.only hal (fun h => h))
              have Xh36 := hide (Blk.new w31 59 #[.int .i64 0, .int .i64 0, .int .i64 0, .string ⟨#[]⟩])
              obtain ⟨g2, hg⟩ : ∃ g2, w31.heap.size = g2 := ⟨_, rfl⟩
              have Lg2 := hide (show BB ≤ g2 from by rw [← hg]; exact Xs31.out)
              have Ng := hide (show g1 ≠ g2 from by have := Blk.lt Xg31.out; omega)
              obtain ⟨w36, hw⟩ : ∃ w36, w31.alloc (.cells #[.int .i64 0, .int .i64 0, .int .i64 0, .string ⟨#[]⟩] 59) = w36 := ⟨_, rfl⟩
              rw [hw] at Xa36 Xb36 Xo36 Xs36 Xg36 Xh36 ⊢
              clear hw
              rw [hg] at Xh36 ⊢
              clear hg hal
              refine hK.out _ _ (HS11.out _ Xo36.out) (fun hHeld => ?_)
              clear hK K
              try simp only [Act.put, List.setIfInBounds_toArray, List.set_cons_zero, List.set_cons_succ]
              refine wpAnyH_ready (rs := [11]) (by kernel_rfl) (by simp) ?_
              refine AllReadyH.cons (o := ⟨some 65, _, _, _, _, _⟩) rfl (fun K hK => ?_) ?_
              · clear hHeld
                go_simp
                go_at_call 23
                refine (Htb.out _ _ Xb36.out Xs36.out (HEr.out.step Xo36.out (fun i hi => by omega))).mono ?_
                rintro e w37 ⟨rfl, vb2, hat, hlie, ho⟩
                have Xb37 := hide hat
                have Xa37 := hide (Xa36.out.only ho (fun k hk hq => hk.elim (fun hk => by omega) (fun hk => by have := (Xb36.out.own k hk).1; omega)) hlo1 (fun k hk hq => hq.elim (fun hq => by have := (Xa36.out.own k hk).1; omega) (fun hq => Xd36.out k hk hq)))
                have Xd37 := hide (show ∀ k, va2.ownBlock = some k → vb2.ownBlock = some k → False from fun k hk hq => by
                  rcases hlie with h | ⟨g, h, hg⟩
                  · rw [h] at hq; exact Xd36.out k hk hq
                  · rw [h] at hq; injection hq with hq; have := (Xa36.out.own k hk).2; omega)
                have Xo37 := hide (Xo36.out.trans' ho (fun i hi hs => hs.elim (fun hs => by omega) (fun hs => by have := (Xb36.out.own i hs).1; omega)))
                have Xs37 := hide (Nat.le_trans Xs36.out ho.size)
                have Xg37 := hide (Xg36.out.only ho (fun h => h.elim (fun h => by have := Lg1.out; omega) (fun h => Xb36.out.ne_blk Xg36.out rep_ne _ h rfl)))
                have Xh37 := hide (Xh36.out.only ho (fun h => h.elim (fun h => by have := Lg2.out; omega) (fun h => Xb36.out.ne_blk Xh36.out rep_ne _ h rfl)))
                clear hat hlie ho
                try go_wp2_with fail
                refine hK.out _ _ (HS11.out _ Xo37.out) (fun hHeld => ?_)
                clear hK K
                try simp only [Act.put, List.setIfInBounds_toArray, List.set_cons_zero, List.set_cons_succ]
                refine wpAnyH_ready (rs := [14]) (by kernel_rfl) (by simp) ?_
                refine AllReadyH.cons (o := ⟨none, _, _, _, _, _⟩) rfl (fun K hK => ?_) ?_
                · clear hHeld
                  rw [if_pos (by rfl)]
                  refine wp_store_row 59 (.tmp 15) (.tmp 59) rfl g1 #[.int .i64 rk, .int .i64 rp, .int .i64 ro, .string rt] rfl rfl 59 _ Xg37.out (by kernel_rfl) (by simp) (by simp [Value.oneCell']) ?_
                  have hst : Only (fun x => x = g1) w37 (w37.setRow g1 #[.int .i64 rk, .int .i64 rp, .int .i64 ro, .string rt]) := only_setRowG _ _ _
                  have Xa38 := hide (Xa37.out.only hst (fun k hk hq => by have := Lg1.out; omega) hlo1 (fun k hk hq => Xa37.out.ne_blk Xg37.out rep_ne k hk hq))
                  have Xb38 := hide (Xb37.out.only hst (fun k hk hq => by have := Lg1.out; omega) hlo2 (fun k hk hq => Xb37.out.ne_blk Xg37.out rep_ne k hk hq))
                  have Xo38 := hide (Xo37.out.trans' hst (fun i hi hs => by have := Lg1.out; omega))
                  have Xs38 := hide (Nat.le_trans Xs37.out hst.size)
                  have Xd38 := Xd37
                  have Xg38 := hide (setRow_blkH (vs := #[.int .i64 rk, .int .i64 rp, .int .i64 ro, .string rt]) Xg37.out)
                  have Xh38 := hide (Xh37.out.only hst (fun h => Ng.out h.symm))
                  obtain ⟨w38, hw⟩ : ∃ w38, w37.setRow g1 #[.int .i64 rk, .int .i64 rp, .int .i64 ro, .string rt] = w38 := ⟨_, rfl⟩
                  rw [hw] at Xa38 Xb38 Xo38 Xs38 Xg38 Xh38 ⊢
                  clear hw
                  clear hst
                  refine hK.out _ _ (HS11.out _ Xo38.out) (fun hHeld => ?_)
                  clear hK K
                  try simp only [Act.put]
                  refine wpAnyH_ready (rs := [15]) (by kernel_rfl) (by simp) ?_
                  refine AllReadyH.cons (o := ⟨none, _, _, _, _, _⟩) rfl (fun K hK => ?_) ?_
                  · clear hHeld
                    rw [if_pos (by rfl)]
                    refine wp_store_row 59 (.tmp 16) (.tmp 65) rfl g2 #[.int .i64 rk, .int .i64 rp, .int .i64 ro, .string rt] rfl rfl 59 _ Xh38.out (by kernel_rfl) (by simp) (by simp [Value.oneCell']) ?_
                    have hst : Only (fun x => x = g2) w38 (w38.setRow g2 #[.int .i64 rk, .int .i64 rp, .int .i64 ro, .string rt]) := only_setRowG _ _ _
                    have Xa39 := hide (Xa38.out.only hst (fun k hk hq => by have := Lg2.out; omega) hlo1 (fun k hk hq => Xa38.out.ne_blk Xh38.out rep_ne k hk hq))
                    have Xb39 := hide (Xb38.out.only hst (fun k hk hq => by have := Lg2.out; omega) hlo2 (fun k hk hq => Xb38.out.ne_blk Xh38.out rep_ne k hk hq))
                    have Xo39 := hide (Xo38.out.trans' hst (fun i hi hs => by have := Lg2.out; omega))
                    have Xs39 := hide (Nat.le_trans Xs38.out hst.size)
                    have Xd39 := Xd38
                    have Xh39 := hide (setRow_blkH (vs := #[.int .i64 rk, .int .i64 rp, .int .i64 ro, .string rt]) Xh38.out)
                    have Xg39 := hide (Xg38.out.only hst (fun h => Ng.out h))
                    obtain ⟨w39, hw⟩ : ∃ w39, w38.setRow g2 #[.int .i64 rk, .int .i64 rp, .int .i64 ro, .string rt] = w39 := ⟨_, rfl⟩
                    rw [hw] at Xa39 Xb39 Xo39 Xs39 Xg39 Xh39 ⊢
                    clear hw
                    clear hst
                    refine hK.out _ _ (HS11.out _ Xo39.out) (fun hHeld => ?_)
                    clear hK K
                    try simp only [Act.put]
                    refine wpAnyH_done (by kernel_rfl) ?_ _
                    go_wp2_with fail
                    go_meet
                    case rel => exact ⟨g1, g2, va2, vb2, rfl, rfl, Xg39.out, Xh39.out, Xa39.out, Xb39.out, Xd39.out, Xo39.out, Lg1.out, Lg2.out⟩
                  exact AllReadyH.nil
                exact AllReadyH.nil
              exact AllReadyH.nil
            exact AllReadyH.nil
          refine AllReadyH.cons (o := ⟨some 16, _, _, _, _, _⟩) rfl (fun K hK => ?_) ?_
          · clear hHeld
            go_simp
            have hal : Only (fun _ => False) w21 (w21.alloc (.cells #[.int .i64 0, .int .i64 0, .int .i64 0, .string ⟨#[]⟩] 59)) := (Only.refl _ w21).alloc _
            have Xa40 := hide (Xa21.out.only hal (fun _ h => h.elim) hlo1 (fun _ _ h => h))
            have Xb40 := hide (Xb21.out.only hal (fun _ h => h.elim) hlo2 (fun _ _ h => h))
            have Xo40 := hide (Xo21.out.trans' hal (fun _ _ h => h.elim))
            have Xs40 := hide (Nat.le_trans Xs21.out hal.size)
            have Xd40 := Xd21
            have Xh40 := hide (Blk.new w21 59 #[.int .i64 0, .int .i64 0, .int .i64 0, .string ⟨#[]⟩])
            obtain ⟨g2, hg⟩ : ∃ g2, w21.heap.size = g2 := ⟨_, rfl⟩
            have Lg2 := hide (show BB ≤ g2 from by rw [← hg]; exact Xs21.out)
            obtain ⟨w40, hw⟩ : ∃ w40, w21.alloc (.cells #[.int .i64 0, .int .i64 0, .int .i64 0, .string ⟨#[]⟩] 59) = w40 := ⟨_, rfl⟩
            rw [hw] at Xa40 Xb40 Xo40 Xs40 Xh40 ⊢
            clear hw
            rw [hg] at Xh40 ⊢
            clear hg hal
            refine hK.out _ _ (HS11.out _ Xo40.out) (fun hHeld => ?_)
            clear hK K
            try simp only [Act.put, List.setIfInBounds_toArray, List.set_cons_zero, List.set_cons_succ]
            refine wpAnyH_ready (rs := [11, 12]) (by kernel_rfl) (by simp) ?_
            refine AllReadyH.cons (o := ⟨some 65, _, _, _, _, _⟩) rfl (fun K hK => ?_) ?_
            · clear hHeld
              go_simp
              go_at_call 23
              refine (Htb.out _ _ Xb40.out Xs40.out (HEr.out.step Xo40.out (fun i hi => by omega))).mono ?_
              rintro e w41 ⟨rfl, vb2, hat, hlie, ho⟩
              have Xb41 := hide hat
              have Xa41 := hide (Xa40.out.only ho (fun k hk hq => hk.elim (fun hk => by omega) (fun hk => by have := (Xb40.out.own k hk).1; omega)) hlo1 (fun k hk hq => hq.elim (fun hq => by have := (Xa40.out.own k hk).1; omega) (fun hq => Xd40.out k hk hq)))
              have Xd41 := hide (show ∀ k, va2.ownBlock = some k → vb2.ownBlock = some k → False from fun k hk hq => by
                rcases hlie with h | ⟨g, h, hg⟩
                · rw [h] at hq; exact Xd40.out k hk hq
                · rw [h] at hq; injection hq with hq; have := (Xa40.out.own k hk).2; omega)
              have Xo41 := hide (Xo40.out.trans' ho (fun i hi hs => hs.elim (fun hs => by omega) (fun hs => by have := (Xb40.out.own i hs).1; omega)))
              have Xs41 := hide (Nat.le_trans Xs40.out ho.size)
              have Xh41 := hide (Xh40.out.only ho (fun h => h.elim (fun h => by have := Lg2.out; omega) (fun h => Xb40.out.ne_blk Xh40.out rep_ne _ h rfl)))
              clear hat hlie ho
              try go_wp2_with fail
              refine hK.out _ _ (HS11.out _ Xo41.out) (fun hHeld => ?_)
              clear hK K
              try simp only [Act.put, List.setIfInBounds_toArray, List.set_cons_zero, List.set_cons_succ]
              refine wpAnyH_ready (rs := [12]) (by kernel_rfl) (by simp) ?_
              refine AllReadyH.cons (o := ⟨some 15, _, _, _, _, _⟩) rfl (fun K hK => ?_) ?_
              · clear hHeld
                go_simp
                have hal : Only (fun _ => False) w41 (w41.alloc (.cells #[.int .i64 0, .int .i64 0, .int .i64 0, .string ⟨#[]⟩] 59)) := (Only.refl _ w41).alloc _
                have Xa42 := hide (Xa41.out.only hal (fun _ h => h.elim) hlo1 (fun _ _ h => h))
                have Xb42 := hide (Xb41.out.only hal (fun _ h => h.elim) hlo2 (fun _ _ h => h))
                have Xo42 := hide (Xo41.out.trans' hal (fun _ _ h => h.elim))
                have Xs42 := hide (Nat.le_trans Xs41.out hal.size)
                have Xd42 := Xd41
                have Xh42 := hide (Xh41.out.only hal (fun h => h))
                have Xg42 := hide (Blk.new w41 59 #[.int .i64 0, .int .i64 0, .int .i64 0, .string ⟨#[]⟩])
                obtain ⟨g1, hg⟩ : ∃ g1, w41.heap.size = g1 := ⟨_, rfl⟩
                have Lg1 := hide (show BB ≤ g1 from by rw [← hg]; exact Xs41.out)
                have Ng := hide (show g1 ≠ g2 from by have := Blk.lt Xh41.out; omega)
                obtain ⟨w42, hw⟩ : ∃ w42, w41.alloc (.cells #[.int .i64 0, .int .i64 0, .int .i64 0, .string ⟨#[]⟩] 59) = w42 := ⟨_, rfl⟩
                rw [hw] at Xa42 Xb42 Xo42 Xs42 Xg42 Xh42 ⊢
                clear hw
                rw [hg] at Xg42 ⊢
                clear hg hal
                refine hK.out _ _ (HS11.out _ Xo42.out) (fun hHeld => ?_)
                clear hK K
                try simp only [Act.put, List.setIfInBounds_toArray, List.set_cons_zero, List.set_cons_succ]
                refine wpAnyH_ready (rs := [14]) (by kernel_rfl) (by simp) ?_
                refine AllReadyH.cons (o := ⟨none, _, _, _, _, _⟩) rfl (fun K hK => ?_) ?_
                · clear hHeld
                  rw [if_pos (by rfl)]
                  refine wp_store_row 59 (.tmp 15) (.tmp 59) rfl g1 #[.int .i64 rk, .int .i64 rp, .int .i64 ro, .string rt] rfl rfl 59 _ Xg42.out (by kernel_rfl) (by simp) (by simp [Value.oneCell']) ?_
                  have hst : Only (fun x => x = g1) w42 (w42.setRow g1 #[.int .i64 rk, .int .i64 rp, .int .i64 ro, .string rt]) := only_setRowG _ _ _
                  have Xa43 := hide (Xa42.out.only hst (fun k hk hq => by have := Lg1.out; omega) hlo1 (fun k hk hq => Xa42.out.ne_blk Xg42.out rep_ne k hk hq))
                  have Xb43 := hide (Xb42.out.only hst (fun k hk hq => by have := Lg1.out; omega) hlo2 (fun k hk hq => Xb42.out.ne_blk Xg42.out rep_ne k hk hq))
                  have Xo43 := hide (Xo42.out.trans' hst (fun i hi hs => by have := Lg1.out; omega))
                  have Xs43 := hide (Nat.le_trans Xs42.out hst.size)
                  have Xd43 := Xd42
                  have Xg43 := hide (setRow_blkH (vs := #[.int .i64 rk, .int .i64 rp, .int .i64 ro, .string rt]) Xg42.out)
                  have Xh43 := hide (Xh42.out.only hst (fun h => Ng.out h.symm))
                  obtain ⟨w43, hw⟩ : ∃ w43, w42.setRow g1 #[.int .i64 rk, .int .i64 rp, .int .i64 ro, .string rt] = w43 := ⟨_, rfl⟩
                  rw [hw] at Xa43 Xb43 Xo43 Xs43 Xg43 Xh43 ⊢
                  clear hw
                  clear hst
                  refine hK.out _ _ (HS11.out _ Xo43.out) (fun hHeld => ?_)
                  clear hK K
                  try simp only [Act.put]
                  refine wpAnyH_ready (rs := [15]) (by kernel_rfl) (by simp) ?_
                  refine AllReadyH.cons (o := ⟨none, _, _, _, _, _⟩) rfl (fun K hK => ?_) ?_
                  · clear hHeld
                    rw [if_pos (by rfl)]
                    refine wp_store_row 59 (.tmp 16) (.tmp 65) rfl g2 #[.int .i64 rk, .int .i64 rp, .int .i64 ro, .string rt] rfl rfl 59 _ Xh43.out (by kernel_rfl) (by simp) (by simp [Value.oneCell']) ?_
                    have hst : Only (fun x => x = g2) w43 (w43.setRow g2 #[.int .i64 rk, .int .i64 rp, .int .i64 ro, .string rt]) := only_setRowG _ _ _
                    have Xa44 := hide (Xa43.out.only hst (fun k hk hq => by have := Lg2.out; omega) hlo1 (fun k hk hq => Xa43.out.ne_blk Xh43.out rep_ne k hk hq))
                    have Xb44 := hide (Xb43.out.only hst (fun k hk hq => by have := Lg2.out; omega) hlo2 (fun k hk hq => Xb43.out.ne_blk Xh43.out rep_ne k hk hq))
                    have Xo44 := hide (Xo43.out.trans' hst (fun i hi hs => by have := Lg2.out; omega))
                    have Xs44 := hide (Nat.le_trans Xs43.out hst.size)
                    have Xd44 := Xd43
                    have Xh44 := hide (setRow_blkH (vs := #[.int .i64 rk, .int .i64 rp, .int .i64 ro, .string rt]) Xh43.out)
                    have Xg44 := hide (Xg43.out.only hst (fun h => Ng.out h))
                    obtain ⟨w44, hw⟩ : ∃ w44, w43.setRow g2 #[.int .i64 rk, .int .i64 rp, .int .i64 ro, .string rt] = w44 := ⟨_, rfl⟩
                    rw [hw] at Xa44 Xb44 Xo44 Xs44 Xg44 Xh44 ⊢
                    clear hw
                    clear hst
                    refine hK.out _ _ (HS11.out _ Xo44.out) (fun hHeld => ?_)
                    clear hK K
                    try simp only [Act.put]
                    refine wpAnyH_done (by kernel_rfl) ?_ _
                    go_wp2_with fail
                    go_meet
                    case rel => exact ⟨g1, g2, va2, vb2, rfl, rfl, Xg44.out, Xh44.out, Xa44.out, Xb44.out, Xd44.out, Xo44.out, Lg1.out, Lg2.out⟩
                  exact AllReadyH.nil
                exact AllReadyH.nil
              exact AllReadyH.nil
            refine AllReadyH.cons (o := ⟨some 15, _, _, _, _, _⟩) rfl (fun K hK => ?_) ?_
            · clear hHeld
              go_simp
              have hal : Only (fun _ => False) w40 (w40.alloc (.cells #[.int .i64 0, .int .i64 0, .int .i64 0, .string ⟨#[]⟩] 59)) := (Only.refl _ w40).alloc _
              have Xa45 := hide (Xa40.out.only hal (fun _ h => h.elim) hlo1 (fun _ _ h => h))
              have Xb45 := hide (Xb40.out.only hal (fun _ h => h.elim) hlo2 (fun _ _ h => h))
              have Xo45 := hide (Xo40.out.trans' hal (fun _ _ h => h.elim))
              have Xs45 := hide (Nat.le_trans Xs40.out hal.size)
              have Xd45 := Xd40
              have Xh45 := hide (Xh40.out.only hal (fun h => h))
              have Xg45 := hide (Blk.new w40 59 #[.int .i64 0, .int .i64 0, .int .i64 0, .string ⟨#[]⟩])
              obtain ⟨g1, hg⟩ : ∃ g1, w40.heap.size = g1 := ⟨_, rfl⟩
              have Lg1 := hide (show BB ≤ g1 from by rw [← hg]; exact Xs40.out)
              have Ng := hide (show g1 ≠ g2 from by have := Blk.lt Xh40.out; omega)
              obtain ⟨w45, hw⟩ : ∃ w45, w40.alloc (.cells #[.int .i64 0, .int .i64 0, .int .i64 0, .string ⟨#[]⟩] 59) = w45 := ⟨_, rfl⟩
              rw [hw] at Xa45 Xb45 Xo45 Xs45 Xg45 Xh45 ⊢
              clear hw
              rw [hg] at Xg45 ⊢
              clear hg hal
              refine hK.out _ _ (HS11.out _ Xo45.out) (fun hHeld => ?_)
              clear hK K
              try simp only [Act.put, List.setIfInBounds_toArray, List.set_cons_zero, List.set_cons_succ]
              refine wpAnyH_ready (rs := [11]) (by kernel_rfl) (by simp) ?_
              refine AllReadyH.cons (o := ⟨some 65, _, _, _, _, _⟩) rfl (fun K hK => ?_) ?_
              · clear hHeld
                go_simp
                go_at_call 23
                refine (Htb.out _ _ Xb45.out Xs45.out (HEr.out.step Xo45.out (fun i hi => by omega))).mono ?_
                rintro e w46 ⟨rfl, vb2, hat, hlie, ho⟩
                have Xb46 := hide hat
                have Xa46 := hide (Xa45.out.only ho (fun k hk hq => hk.elim (fun hk => by omega) (fun hk => by have := (Xb45.out.own k hk).1; omega)) hlo1 (fun k hk hq => hq.elim (fun hq => by have := (Xa45.out.own k hk).1; omega) (fun hq => Xd45.out k hk hq)))
                have Xd46 := hide (show ∀ k, va2.ownBlock = some k → vb2.ownBlock = some k → False from fun k hk hq => by
                  rcases hlie with h | ⟨g, h, hg⟩
                  · rw [h] at hq; exact Xd45.out k hk hq
                  · rw [h] at hq; injection hq with hq; have := (Xa45.out.own k hk).2; omega)
                have Xo46 := hide (Xo45.out.trans' ho (fun i hi hs => hs.elim (fun hs => by omega) (fun hs => by have := (Xb45.out.own i hs).1; omega)))
                have Xs46 := hide (Nat.le_trans Xs45.out ho.size)
                have Xg46 := hide (Xg45.out.only ho (fun h => h.elim (fun h => by have := Lg1.out; omega) (fun h => Xb45.out.ne_blk Xg45.out rep_ne _ h rfl)))
                have Xh46 := hide (Xh45.out.only ho (fun h => h.elim (fun h => by have := Lg2.out; omega) (fun h => Xb45.out.ne_blk Xh45.out rep_ne _ h rfl)))
                clear hat hlie ho
                try go_wp2_with fail
                refine hK.out _ _ (HS11.out _ Xo46.out) (fun hHeld => ?_)
                clear hK K
                try simp only [Act.put, List.setIfInBounds_toArray, List.set_cons_zero, List.set_cons_succ]
                refine wpAnyH_ready (rs := [14]) (by kernel_rfl) (by simp) ?_
                refine AllReadyH.cons (o := ⟨none, _, _, _, _, _⟩) rfl (fun K hK => ?_) ?_
                · clear hHeld
                  rw [if_pos (by rfl)]
                  refine wp_store_row 59 (.tmp 15) (.tmp 59) rfl g1 #[.int .i64 rk, .int .i64 rp, .int .i64 ro, .string rt] rfl rfl 59 _ Xg46.out (by kernel_rfl) (by simp) (by simp [Value.oneCell']) ?_
                  have hst : Only (fun x => x = g1) w46 (w46.setRow g1 #[.int .i64 rk, .int .i64 rp, .int .i64 ro, .string rt]) := only_setRowG _ _ _
                  have Xa47 := hide (Xa46.out.only hst (fun k hk hq => by have := Lg1.out; omega) hlo1 (fun k hk hq => Xa46.out.ne_blk Xg46.out rep_ne k hk hq))
                  have Xb47 := hide (Xb46.out.only hst (fun k hk hq => by have := Lg1.out; omega) hlo2 (fun k hk hq => Xb46.out.ne_blk Xg46.out rep_ne k hk hq))
                  have Xo47 := hide (Xo46.out.trans' hst (fun i hi hs => by have := Lg1.out; omega))
                  have Xs47 := hide (Nat.le_trans Xs46.out hst.size)
                  have Xd47 := Xd46
                  have Xg47 := hide (setRow_blkH (vs := #[.int .i64 rk, .int .i64 rp, .int .i64 ro, .string rt]) Xg46.out)
                  have Xh47 := hide (Xh46.out.only hst (fun h => Ng.out h.symm))
                  obtain ⟨w47, hw⟩ : ∃ w47, w46.setRow g1 #[.int .i64 rk, .int .i64 rp, .int .i64 ro, .string rt] = w47 := ⟨_, rfl⟩
                  rw [hw] at Xa47 Xb47 Xo47 Xs47 Xg47 Xh47 ⊢
                  clear hw
                  clear hst
                  refine hK.out _ _ (HS11.out _ Xo47.out) (fun hHeld => ?_)
                  clear hK K
                  try simp only [Act.put]
                  refine wpAnyH_ready (rs := [15]) (by kernel_rfl) (by simp) ?_
                  refine AllReadyH.cons (o := ⟨none, _, _, _, _, _⟩) rfl (fun K hK => ?_) ?_
                  · clear hHeld
                    rw [if_pos (by rfl)]
                    refine wp_store_row 59 (.tmp 16) (.tmp 65) rfl g2 #[.int .i64 rk, .int .i64 rp, .int .i64 ro, .string rt] rfl rfl 59 _ Xh47.out (by kernel_rfl) (by simp) (by simp [Value.oneCell']) ?_
                    have hst : Only (fun x => x = g2) w47 (w47.setRow g2 #[.int .i64 rk, .int .i64 rp, .int .i64 ro, .string rt]) := only_setRowG _ _ _
                    have Xa48 := hide (Xa47.out.only hst (fun k hk hq => by have := Lg2.out; omega) hlo1 (fun k hk hq => Xa47.out.ne_blk Xh47.out rep_ne k hk hq))
                    have Xb48 := hide (Xb47.out.only hst (fun k hk hq => by have := Lg2.out; omega) hlo2 (fun k hk hq => Xb47.out.ne_blk Xh47.out rep_ne k hk hq))
                    have Xo48 := hide (Xo47.out.trans' hst (fun i hi hs => by have := Lg2.out; omega))
                    have Xs48 := hide (Nat.le_trans Xs47.out hst.size)
                    have Xd48 := Xd47
                    have Xh48 := hide (setRow_blkH (vs := #[.int .i64 rk, .int .i64 rp, .int .i64 ro, .string rt]) Xh47.out)
                    have Xg48 := hide (Xg47.out.only hst (fun h => Ng.out h))
                    obtain ⟨w48, hw⟩ : ∃ w48, w47.setRow g2 #[.int .i64 rk, .int .i64 rp, .int .i64 ro, .string rt] = w48 := ⟨_, rfl⟩
                    rw [hw] at Xa48 Xb48 Xo48 Xs48 Xg48 Xh48 ⊢
                    clear hw
                    clear hst
                    refine hK.out _ _ (HS11.out _ Xo48.out) (fun hHeld => ?_)
                    clear hK K
                    try simp only [Act.put]
                    refine wpAnyH_done (by kernel_rfl) ?_ _
                    go_wp2_with fail
                    go_meet
                    case rel => exact ⟨g1, g2, va2, vb2, rfl, rfl, Xg48.out, Xh48.out, Xa48.out, Xb48.out, Xd48.out, Xo48.out, Lg1.out, Lg2.out⟩
                  exact AllReadyH.nil
                exact AllReadyH.nil
              exact AllReadyH.nil
            exact AllReadyH.nil
          exact AllReadyH.nil
        refine AllReadyH.cons (o := ⟨some 15, _, _, _, _, _⟩) rfl (fun K hK => ?_) ?_
        · clear hHeld
          go_simp
          have hal : Only (fun _ => False) w20 (w20.alloc (.cells #[.int .i64 0, .int .i64 0, .int .i64 0, .string ⟨#[]⟩] 59)) := (Only.refl _ w20).alloc _
          have Xa49 := hide (Xa20.out.only hal (fun _ h => h.elim) hlo1 (fun _ _ h => h))
          have Xb49 := hide (Xb20.out.only hal (fun _ h => h.elim) hlo2 (fun _ _ h => h))
          have Xo49 := hide (Xo20.out.trans' hal (fun _ _ h => h.elim))
          have Xs49 := hide (Nat.le_trans Xs20.out hal.size)
          have Xd49 := Xd20
          have Xg49 := hide (Blk.new w20 59 #[.int .i64 0, .int .i64 0, .int .i64 0, .string ⟨#[]⟩])
          obtain ⟨g1, hg⟩ : ∃ g1, w20.heap.size = g1 := ⟨_, rfl⟩
          have Lg1 := hide (show BB ≤ g1 from by rw [← hg]; exact Xs20.out)
          obtain ⟨w49, hw⟩ : ∃ w49, w20.alloc (.cells #[.int .i64 0, .int .i64 0, .int .i64 0, .string ⟨#[]⟩] 59) = w49 := ⟨_, rfl⟩
          rw [hw] at Xa49 Xb49 Xo49 Xs49 Xg49 ⊢
          clear hw
          rw [hg] at Xg49 ⊢
          clear hg hal
          refine hK.out _ _ (HS11.out _ Xo49.out) (fun hHeld => ?_)
          clear hK K
          try simp only [Act.put, List.setIfInBounds_toArray, List.set_cons_zero, List.set_cons_succ]
          refine wpAnyH_ready (rs := [5, 13]) (by kernel_rfl) (by simp) ?_
          refine AllReadyH.cons (o := ⟨some 59, _, _, _, _, _⟩) rfl (fun K hK => ?_) ?_
          · clear hHeld
            go_simp
            go_at_call 23
            refine (Hta.out _ _ Xa49.out Xs49.out (HEr.out.step Xo49.out (fun i hi => by omega))).mono ?_
            rintro e w50 ⟨rfl, va2, hat, hlie, ho⟩
            have Xa50 := hide hat
            have Xb50 := hide (Xb49.out.only ho (fun k hk hq => hk.elim (fun hk => by omega) (fun hk => by have := (Xa49.out.own k hk).1; omega)) hlo2 (fun k hk hq => hq.elim (fun hq => by have := (Xb49.out.own k hk).1; omega) (fun hq => Xd49.out k hq hk)))
            have Xd50 := hide (show ∀ k, va2.ownBlock = some k → vb.ownBlock = some k → False from fun k hk hq => by
              rcases hlie with h | ⟨g, h, hg⟩
              · rw [h] at hk; exact Xd49.out k hk hq
              · rw [h] at hk; injection hk with hk; have := (Xb49.out.own k hq).2; omega)
            have Xo50 := hide (Xo49.out.trans' ho (fun i hi hs => hs.elim (fun hs => by omega) (fun hs => by have := (Xa49.out.own i hs).1; omega)))
            have Xs50 := hide (Nat.le_trans Xs49.out ho.size)
            have Xg50 := hide (Xg49.out.only ho (fun h => h.elim (fun h => by have := Lg1.out; omega) (fun h => Xa49.out.ne_blk Xg49.out rep_ne _ h rfl)))
            clear hat hlie ho
            try go_wp2_with fail
            refine hK.out _ _ (HS11.out _ Xo50.out) (fun hHeld => ?_)
            clear hK K
            try simp only [Act.put, List.setIfInBounds_toArray, List.set_cons_zero, List.set_cons_succ]
            refine wpAnyH_ready (rs := [11, 13]) (by kernel_rfl) (by simp) ?_
            refine AllReadyH.cons (o := ⟨some 65, _, _, _, _, _⟩) rfl (fun K hK => ?_) ?_
            · clear hHeld
              go_simp
              go_at_call 23
              refine (Htb.out _ _ Xb50.out Xs50.out (HEr.out.step Xo50.out (fun i hi => by omega))).mono ?_
              rintro e w51 ⟨rfl, vb2, hat, hlie, ho⟩
              have Xb51 := hide hat
              have Xa51 := hide (Xa50.out.only ho (fun k hk hq => hk.elim (fun hk => by omega) (fun hk => by have := (Xb50.out.own k hk).1; omega)) hlo1 (fun k hk hq => hq.elim (fun hq => by have := (Xa50.out.own k hk).1; omega) (fun hq => Xd50.out k hk hq)))
              have Xd51 := hide (show ∀ k, va2.ownBlock = some k → vb2.ownBlock = some k → False from fun k hk hq => by
                rcases hlie with h | ⟨g, h, hg⟩
                · rw [h] at hq; exact Xd50.out k hk hq
                · rw [h] at hq; injection hq with hq; have := (Xa50.out.own k hk).2; omega)
              have Xo51 := hide (Xo50.out.trans' ho (fun i hi hs => hs.elim (fun hs => by omega) (fun hs => by have := (Xb50.out.own i hs).1; omega)))
              have Xs51 := hide (Nat.le_trans Xs50.out ho.size)
              have Xg51 := hide (Xg50.out.only ho (fun h => h.elim (fun h => by have := Lg1.out; omega) (fun h => Xb50.out.ne_blk Xg50.out rep_ne _ h rfl)))
              clear hat hlie ho
              try go_wp2_with fail
              refine hK.out _ _ (HS11.out _ Xo51.out) (fun hHeld => ?_)
              clear hK K
              try simp only [Act.put, List.setIfInBounds_toArray, List.set_cons_zero, List.set_cons_succ]
              refine wpAnyH_ready (rs := [13]) (by kernel_rfl) (by simp) ?_
              refine AllReadyH.cons (o := ⟨some 16, _, _, _, _, _⟩) rfl (fun K hK => ?_) ?_
              · clear hHeld
                go_simp
                have hal : Only (fun _ => False) w51 (w51.alloc (.cells #[.int .i64 0, .int .i64 0, .int .i64 0, .string ⟨#[]⟩] 59)) := (Only.refl _ w51).alloc _
                have Xa52 := hide (Xa51.out.only hal (fun _ h => h.elim) hlo1 (fun _ _ h => h))
                have Xb52 := hide (Xb51.out.only hal (fun _ h => h.elim) hlo2 (fun _ _ h => h))
                have Xo52 := hide (Xo51.out.trans' hal (fun _ _ h => h.elim))
                have Xs52 := hide (Nat.le_trans Xs51.out hal.size)
                have Xd52 := Xd51
                have Xg52 := hide (Xg51.out.only hal (fun h => h))
                have Xh52 := hide (Blk.new w51 59 #[.int .i64 0, .int .i64 0, .int .i64 0, .string ⟨#[]⟩])
                obtain ⟨g2, hg⟩ : ∃ g2, w51.heap.size = g2 := ⟨_, rfl⟩
                have Lg2 := hide (show BB ≤ g2 from by rw [← hg]; exact Xs51.out)
                have Ng := hide (show g1 ≠ g2 from by have := Blk.lt Xg51.out; omega)
                obtain ⟨w52, hw⟩ : ∃ w52, w51.alloc (.cells #[.int .i64 0, .int .i64 0, .int .i64 0, .string ⟨#[]⟩] 59) = w52 := ⟨_, rfl⟩
                rw [hw] at Xa52 Xb52 Xo52 Xs52 Xg52 Xh52 ⊢
                clear hw
                rw [hg] at Xh52 ⊢
                clear hg hal
                refine hK.out _ _ (HS11.out _ Xo52.out) (fun hHeld => ?_)
                clear hK K
                try simp only [Act.put, List.setIfInBounds_toArray, List.set_cons_zero, List.set_cons_succ]
                refine wpAnyH_ready (rs := [14]) (by kernel_rfl) (by simp) ?_
                refine AllReadyH.cons (o := ⟨none, _, _, _, _, _⟩) rfl (fun K hK => ?_) ?_
                · clear hHeld
                  rw [if_pos (by rfl)]
                  refine wp_store_row 59 (.tmp 15) (.tmp 59) rfl g1 #[.int .i64 rk, .int .i64 rp, .int .i64 ro, .string rt] rfl rfl 59 _ Xg52.out (by kernel_rfl) (by simp) (by simp [Value.oneCell']) ?_
                  have hst : Only (fun x => x = g1) w52 (w52.setRow g1 #[.int .i64 rk, .int .i64 rp, .int .i64 ro, .string rt]) := only_setRowG _ _ _
                  have Xa53 := hide (Xa52.out.only hst (fun k hk hq => by have := Lg1.out; omega) hlo1 (fun k hk hq => Xa52.out.ne_blk Xg52.out rep_ne k hk hq))
                  have Xb53 := hide (Xb52.out.only hst (fun k hk hq => by have := Lg1.out; omega) hlo2 (fun k hk hq => Xb52.out.ne_blk Xg52.out rep_ne k hk hq))
                  have Xo53 := hide (Xo52.out.trans' hst (fun i hi hs => by have := Lg1.out; omega))
                  have Xs53 := hide (Nat.le_trans Xs52.out hst.size)
                  have Xd53 := Xd52
                  have Xg53 := hide (setRow_blkH (vs := #[.int .i64 rk, .int .i64 rp, .int .i64 ro, .string rt]) Xg52.out)
                  have Xh53 := hide (Xh52.out.only hst (fun h => Ng.out h.symm))
                  obtain ⟨w53, hw⟩ : ∃ w53, w52.setRow g1 #[.int .i64 rk, .int .i64 rp, .int .i64 ro, .string rt] = w53 := ⟨_, rfl⟩
                  rw [hw] at Xa53 Xb53 Xo53 Xs53 Xg53 Xh53 ⊢
                  clear hw
                  clear hst
                  refine hK.out _ _ (HS11.out _ Xo53.out) (fun hHeld => ?_)
                  clear hK K
                  try simp only [Act.put]
                  refine wpAnyH_ready (rs := [15]) (by kernel_rfl) (by simp) ?_
                  refine AllReadyH.cons (o := ⟨none, _, _, _, _, _⟩) rfl (fun K hK => ?_) ?_
                  · clear hHeld
                    rw [if_pos (by rfl)]
                    refine wp_store_row 59 (.tmp 16) (.tmp 65) rfl g2 #[.int .i64 rk, .int .i64 rp, .int .i64 ro, .string rt] rfl rfl 59 _ Xh53.out (by kernel_rfl) (by simp) (by simp [Value.oneCell']) ?_
                    have hst : Only (fun x => x = g2) w53 (w53.setRow g2 #[.int .i64 rk, .int .i64 rp, .int .i64 ro, .string rt]) := only_setRowG _ _ _
                    have Xa54 := hide (Xa53.out.only hst (fun k hk hq => by have := Lg2.out; omega) hlo1 (fun k hk hq => Xa53.out.ne_blk Xh53.out rep_ne k hk hq))
                    have Xb54 := hide (Xb53.out.only hst (fun k hk hq => by have := Lg2.out; omega) hlo2 (fun k hk hq => Xb53.out.ne_blk Xh53.out rep_ne k hk hq))
                    have Xo54 := hide (Xo53.out.trans' hst (fun i hi hs => by have := Lg2.out; omega))
                    have Xs54 := hide (Nat.le_trans Xs53.out hst.size)
                    have Xd54 := Xd53
                    have Xh54 := hide (setRow_blkH (vs := #[.int .i64 rk, .int .i64 rp, .int .i64 ro, .string rt]) Xh53.out)
                    have Xg54 := hide (Xg53.out.only hst (fun h => Ng.out h))
                    obtain ⟨w54, hw⟩ : ∃ w54, w53.setRow g2 #[.int .i64 rk, .int .i64 rp, .int .i64 ro, .string rt] = w54 := ⟨_, rfl⟩
                    rw [hw] at Xa54 Xb54 Xo54 Xs54 Xg54 Xh54 ⊢
                    clear hw
                    clear hst
                    refine hK.out _ _ (HS11.out _ Xo54.out) (fun hHeld => ?_)
                    clear hK K
                    try simp only [Act.put]
                    refine wpAnyH_done (by kernel_rfl) ?_ _
                    go_wp2_with fail
                    go_meet
                    case rel => exact ⟨g1, g2, va2, vb2, rfl, rfl, Xg54.out, Xh54.out, Xa54.out, Xb54.out, Xd54.out, Xo54.out, Lg1.out, Lg2.out⟩
                  exact AllReadyH.nil
                exact AllReadyH.nil
              exact AllReadyH.nil
            refine AllReadyH.cons (o := ⟨some 16, _, _, _, _, _⟩) rfl (fun K hK => ?_) ?_
            · clear hHeld
              go_simp
              have hal : Only (fun _ => False) w50 (w50.alloc (.cells #[.int .i64 0, .int .i64 0, .int .i64 0, .string ⟨#[]⟩] 59)) := (Only.refl _ w50).alloc _
              have Xa55 := hide (Xa50.out.only hal (fun _ h => h.elim) hlo1 (fun _ _ h => h))
              have Xb55 := hide (Xb50.out.only hal (fun _ h => h.elim) hlo2 (fun _ _ h => h))
              have Xo55 := hide (Xo50.out.trans' hal (fun _ _ h => h.elim))
              have Xs55 := hide (Nat.le_trans Xs50.out hal.size)
              have Xd55 := Xd50
              have Xg55 := hide (Xg50.out.only hal (fun h => h))
              have Xh55 := hide (Blk.new w50 59 #[.int .i64 0, .int .i64 0, .int .i64 0, .string ⟨#[]⟩])
              obtain ⟨g2, hg⟩ : ∃ g2, w50.heap.size = g2 := ⟨_, rfl⟩
              have Lg2 := hide (show BB ≤ g2 from by rw [← hg]; exact Xs50.out)
              have Ng := hide (show g1 ≠ g2 from by have := Blk.lt Xg50.out; omega)
              obtain ⟨w55, hw⟩ : ∃ w55, w50.alloc (.cells #[.int .i64 0, .int .i64 0, .int .i64 0, .string ⟨#[]⟩] 59) = w55 := ⟨_, rfl⟩
              rw [hw] at Xa55 Xb55 Xo55 Xs55 Xg55 Xh55 ⊢
              clear hw
              rw [hg] at Xh55 ⊢
              clear hg hal
              refine hK.out _ _ (HS11.out _ Xo55.out) (fun hHeld => ?_)
              clear hK K
              try simp only [Act.put, List.setIfInBounds_toArray, List.set_cons_zero, List.set_cons_succ]
              refine wpAnyH_ready (rs := [11]) (by kernel_rfl) (by simp) ?_
              refine AllReadyH.cons (o := ⟨some 65, _, _, _, _, _⟩) rfl (fun K hK => ?_) ?_
              · clear hHeld
                go_simp
                go_at_call 23
                refine (Htb.out _ _ Xb55.out Xs55.out (HEr.out.step Xo55.out (fun i hi => by omega))).mono ?_
                rintro e w56 ⟨rfl, vb2, hat, hlie, ho⟩
                have Xb56 := hide hat
                have Xa56 := hide (Xa55.out.only ho (fun k hk hq => hk.elim (fun hk => by omega) (fun hk => by have := (Xb55.out.own k hk).1; omega)) hlo1 (fun k hk hq => hq.elim (fun hq => by have := (Xa55.out.own k hk).1; omega) (fun hq => Xd55.out k hk hq)))
                have Xd56 := hide (show ∀ k, va2.ownBlock = some k → vb2.ownBlock = some k → False from fun k hk hq => by
                  rcases hlie with h | ⟨g, h, hg⟩
                  · rw [h] at hq; exact Xd55.out k hk hq
                  · rw [h] at hq; injection hq with hq; have := (Xa55.out.own k hk).2; omega)
                have Xo56 := hide (Xo55.out.trans' ho (fun i hi hs => hs.elim (fun hs => by omega) (fun hs => by have := (Xb55.out.own i hs).1; omega)))
                have Xs56 := hide (Nat.le_trans Xs55.out ho.size)
                have Xg56 := hide (Xg55.out.only ho (fun h => h.elim (fun h => by have := Lg1.out; omega) (fun h => Xb55.out.ne_blk Xg55.out rep_ne _ h rfl)))
                have Xh56 := hide (Xh55.out.only ho (fun h => h.elim (fun h => by have := Lg2.out; omega) (fun h => Xb55.out.ne_blk Xh55.out rep_ne _ h rfl)))
                clear hat hlie ho
                try go_wp2_with fail
                refine hK.out _ _ (HS11.out _ Xo56.out) (fun hHeld => ?_)
                clear hK K
                try simp only [Act.put, List.setIfInBounds_toArray, List.set_cons_zero, List.set_cons_succ]
                refine wpAnyH_ready (rs := [14]) (by kernel_rfl) (by simp) ?_
                refine AllReadyH.cons (o := ⟨none, _, _, _, _, _⟩) rfl (fun K hK => ?_) ?_
                · clear hHeld
                  rw [if_pos (by rfl)]
                  refine wp_store_row 59 (.tmp 15) (.tmp 59) rfl g1 #[.int .i64 rk, .int .i64 rp, .int .i64 ro, .string rt] rfl rfl 59 _ Xg56.out (by kernel_rfl) (by simp) (by simp [Value.oneCell']) ?_
                  have hst : Only (fun x => x = g1) w56 (w56.setRow g1 #[.int .i64 rk, .int .i64 rp, .int .i64 ro, .string rt]) := only_setRowG _ _ _
                  have Xa57 := hide (Xa56.out.only hst (fun k hk hq => by have := Lg1.out; omega) hlo1 (fun k hk hq => Xa56.out.ne_blk Xg56.out rep_ne k hk hq))
                  have Xb57 := hide (Xb56.out.only hst (fun k hk hq => by have := Lg1.out; omega) hlo2 (fun k hk hq => Xb56.out.ne_blk Xg56.out rep_ne k hk hq))
                  have Xo57 := hide (Xo56.out.trans' hst (fun i hi hs => by have := Lg1.out; omega))
                  have Xs57 := hide (Nat.le_trans Xs56.out hst.size)
                  have Xd57 := Xd56
                  have Xg57 := hide (setRow_blkH (vs := #[.int .i64 rk, .int .i64 rp, .int .i64 ro, .string rt]) Xg56.out)
                  have Xh57 := hide (Xh56.out.only hst (fun h => Ng.out h.symm))
                  obtain ⟨w57, hw⟩ : ∃ w57, w56.setRow g1 #[.int .i64 rk, .int .i64 rp, .int .i64 ro, .string rt] = w57 := ⟨_, rfl⟩
                  rw [hw] at Xa57 Xb57 Xo57 Xs57 Xg57 Xh57 ⊢
                  clear hw
                  clear hst
                  refine hK.out _ _ (HS11.out _ Xo57.out) (fun hHeld => ?_)
                  clear hK K
                  try simp only [Act.put]
                  refine wpAnyH_ready (rs := [15]) (by kernel_rfl) (by simp) ?_
                  refine AllReadyH.cons (o := ⟨none, _, _, _, _, _⟩) rfl (fun K hK => ?_) ?_
                  · clear hHeld
                    rw [if_pos (by rfl)]
                    refine wp_store_row 59 (.tmp 16) (.tmp 65) rfl g2 #[.int .i64 rk, .int .i64 rp, .int .i64 ro, .string rt] rfl rfl 59 _ Xh57.out (by kernel_rfl) (by simp) (by simp [Value.oneCell']) ?_
                    have hst : Only (fun x => x = g2) w57 (w57.setRow g2 #[.int .i64 rk, .int .i64 rp, .int .i64 ro, .string rt]) := only_setRowG _ _ _
                    have Xa58 := hide (Xa57.out.only hst (fun k hk hq => by have := Lg2.out; omega) hlo1 (fun k hk hq => Xa57.out.ne_blk Xh57.out rep_ne k hk hq))
                    have Xb58 := hide (Xb57.out.only hst (fun k hk hq => by have := Lg2.out; omega) hlo2 (fun k hk hq => Xb57.out.ne_blk Xh57.out rep_ne k hk hq))
                    have Xo58 := hide (Xo57.out.trans' hst (fun i hi hs => by have := Lg2.out; omega))
                    have Xs58 := hide (Nat.le_trans Xs57.out hst.size)
                    have Xd58 := Xd57
                    have Xh58 := hide (setRow_blkH (vs := #[.int .i64 rk, .int .i64 rp, .int .i64 ro, .string rt]) Xh57.out)
                    have Xg58 := hide (Xg57.out.only hst (fun h => Ng.out h))
                    obtain ⟨w58, hw⟩ : ∃ w58, w57.setRow g2 #[.int .i64 rk, .int .i64 rp, .int .i64 ro, .string rt] = w58 := ⟨_, rfl⟩
                    rw [hw] at Xa58 Xb58 Xo58 Xs58 Xg58 Xh58 ⊢
                    clear hw
                    clear hst
                    refine hK.out _ _ (HS11.out _ Xo58.out) (fun hHeld => ?_)
                    clear hK K
                    try simp only [Act.put]
                    refine wpAnyH_done (by kernel_rfl) ?_ _
                    go_wp2_with fail
                    go_meet
                    case rel => exact ⟨g1, g2, va2, vb2, rfl, rfl, Xg58.out, Xh58.out, Xa58.out, Xb58.out, Xd58.out, Xo58.out, Lg1.out, Lg2.out⟩
                  exact AllReadyH.nil
                exact AllReadyH.nil
              exact AllReadyH.nil
            exact AllReadyH.nil
          refine AllReadyH.cons (o := ⟨some 16, _, _, _, _, _⟩) rfl (fun K hK => ?_) ?_
          · clear hHeld
            go_simp
            have hal : Only (fun _ => False) w49 (w49.alloc (.cells #[.int .i64 0, .int .i64 0, .int .i64 0, .string ⟨#[]⟩] 59)) := (Only.refl _ w49).alloc _
            have Xa59 := hide (Xa49.out.only hal (fun _ h => h.elim) hlo1 (fun _ _ h => h))
            have Xb59 := hide (Xb49.out.only hal (fun _ h => h.elim) hlo2 (fun _ _ h => h))
            have Xo59 := hide (Xo49.out.trans' hal (fun _ _ h => h.elim))
            have Xs59 := hide (Nat.le_trans Xs49.out hal.size)
            have Xd59 := Xd49
            have Xg59 := hide (Xg49.out.only hal (fun h => h))
            have Xh59 := hide (Blk.new w49 59 #[.int .i64 0, .int .i64 0, .int .i64 0, .string ⟨#[]⟩])
            obtain ⟨g2, hg⟩ : ∃ g2, w49.heap.size = g2 := ⟨_, rfl⟩
            have Lg2 := hide (show BB ≤ g2 from by rw [← hg]; exact Xs49.out)
            have Ng := hide (show g1 ≠ g2 from by have := Blk.lt Xg49.out; omega)
            obtain ⟨w59, hw⟩ : ∃ w59, w49.alloc (.cells #[.int .i64 0, .int .i64 0, .int .i64 0, .string ⟨#[]⟩] 59) = w59 := ⟨_, rfl⟩
            rw [hw] at Xa59 Xb59 Xo59 Xs59 Xg59 Xh59 ⊢
            clear hw
            rw [hg] at Xh59 ⊢
            clear hg hal
            refine hK.out _ _ (HS11.out _ Xo59.out) (fun hHeld => ?_)
            clear hK K
            try simp only [Act.put, List.setIfInBounds_toArray, List.set_cons_zero, List.set_cons_succ]
            refine wpAnyH_ready (rs := [5]) (by kernel_rfl) (by simp) ?_
            refine AllReadyH.cons (o := ⟨some 59, _, _, _, _, _⟩) rfl (fun K hK => ?_) ?_
            · clear hHeld
              go_simp
              go_at_call 23
              refine (Hta.out _ _ Xa59.out Xs59.out (HEr.out.step Xo59.out (fun i hi => by omega))).mono ?_
              rintro e w60 ⟨rfl, va2, hat, hlie, ho⟩
              have Xa60 := hide hat
              have Xb60 := hide (Xb59.out.only ho (fun k hk hq => hk.elim (fun hk => by omega) (fun hk => by have := (Xa59.out.own k hk).1; omega)) hlo2 (fun k hk hq => hq.elim (fun hq => by have := (Xb59.out.own k hk).1; omega) (fun hq => Xd59.out k hq hk)))
              have Xd60 := hide (show ∀ k, va2.ownBlock = some k → vb.ownBlock = some k → False from fun k hk hq => by
                rcases hlie with h | ⟨g, h, hg⟩
                · rw [h] at hk; exact Xd59.out k hk hq
                · rw [h] at hk; injection hk with hk; have := (Xb59.out.own k hq).2; omega)
              have Xo60 := hide (Xo59.out.trans' ho (fun i hi hs => hs.elim (fun hs => by omega) (fun hs => by have := (Xa59.out.own i hs).1; omega)))
              have Xs60 := hide (Nat.le_trans Xs59.out ho.size)
              have Xg60 := hide (Xg59.out.only ho (fun h => h.elim (fun h => by have := Lg1.out; omega) (fun h => Xa59.out.ne_blk Xg59.out rep_ne _ h rfl)))
              have Xh60 := hide (Xh59.out.only ho (fun h => h.elim (fun h => by have := Lg2.out; omega) (fun h => Xa59.out.ne_blk Xh59.out rep_ne _ h rfl)))
              clear hat hlie ho
              try go_wp2_with fail
              refine hK.out _ _ (HS11.out _ Xo60.out) (fun hHeld => ?_)
              clear hK K
              try simp only [Act.put, List.setIfInBounds_toArray, List.set_cons_zero, List.set_cons_succ]
              refine wpAnyH_ready (rs := [11]) (by kernel_rfl) (by simp) ?_
              refine AllReadyH.cons (o := ⟨some 65, _, _, _, _, _⟩) rfl (fun K hK => ?_) ?_
              · clear hHeld
                go_simp
                go_at_call 23
                refine (Htb.out _ _ Xb60.out Xs60.out (HEr.out.step Xo60.out (fun i hi => by omega))).mono ?_
                rintro e w61 ⟨rfl, vb2, hat, hlie, ho⟩
                have Xb61 := hide hat
                have Xa61 := hide (Xa60.out.only ho (fun k hk hq => hk.elim (fun hk => by omega) (fun hk => by have := (Xb60.out.own k hk).1; omega)) hlo1 (fun k hk hq => hq.elim (fun hq => by have := (Xa60.out.own k hk).1; omega) (fun hq => Xd60.out k hk hq)))
                have Xd61 := hide (show ∀ k, va2.ownBlock = some k → vb2.ownBlock = some k → False from fun k hk hq => by
                  rcases hlie with h | ⟨g, h, hg⟩
                  · rw [h] at hq; exact Xd60.out k hk hq
                  · rw [h] at hq; injection hq with hq; have := (Xa60.out.own k hk).2; omega)
                have Xo61 := hide (Xo60.out.trans' ho (fun i hi hs => hs.elim (fun hs => by omega) (fun hs => by have := (Xb60.out.own i hs).1; omega)))
                have Xs61 := hide (Nat.le_trans Xs60.out ho.size)
                have Xg61 := hide (Xg60.out.only ho (fun h => h.elim (fun h => by have := Lg1.out; omega) (fun h => Xb60.out.ne_blk Xg60.out rep_ne _ h rfl)))
                have Xh61 := hide (Xh60.out.only ho (fun h => h.elim (fun h => by have := Lg2.out; omega) (fun h => Xb60.out.ne_blk Xh60.out rep_ne _ h rfl)))
                clear hat hlie ho
                try go_wp2_with fail
                refine hK.out _ _ (HS11.out _ Xo61.out) (fun hHeld => ?_)
                clear hK K
                try simp only [Act.put, List.setIfInBounds_toArray, List.set_cons_zero, List.set_cons_succ]
                refine wpAnyH_ready (rs := [14]) (by kernel_rfl) (by simp) ?_
                refine AllReadyH.cons (o := ⟨none, _, _, _, _, _⟩) rfl (fun K hK => ?_) ?_
                · clear hHeld
                  rw [if_pos (by rfl)]
                  refine wp_store_row 59 (.tmp 15) (.tmp 59) rfl g1 #[.int .i64 rk, .int .i64 rp, .int .i64 ro, .string rt] rfl rfl 59 _ Xg61.out (by kernel_rfl) (by simp) (by simp [Value.oneCell']) ?_
                  have hst : Only (fun x => x = g1) w61 (w61.setRow g1 #[.int .i64 rk, .int .i64 rp, .int .i64 ro, .string rt]) := only_setRowG _ _ _
                  have Xa62 := hide (Xa61.out.only hst (fun k hk hq => by have := Lg1.out; omega) hlo1 (fun k hk hq => Xa61.out.ne_blk Xg61.out rep_ne k hk hq))
                  have Xb62 := hide (Xb61.out.only hst (fun k hk hq => by have := Lg1.out; omega) hlo2 (fun k hk hq => Xb61.out.ne_blk Xg61.out rep_ne k hk hq))
                  have Xo62 := hide (Xo61.out.trans' hst (fun i hi hs => by have := Lg1.out; omega))
                  have Xs62 := hide (Nat.le_trans Xs61.out hst.size)
                  have Xd62 := Xd61
                  have Xg62 := hide (setRow_blkH (vs := #[.int .i64 rk, .int .i64 rp, .int .i64 ro, .string rt]) Xg61.out)
                  have Xh62 := hide (Xh61.out.only hst (fun h => Ng.out h.symm))
                  obtain ⟨w62, hw⟩ : ∃ w62, w61.setRow g1 #[.int .i64 rk, .int .i64 rp, .int .i64 ro, .string rt] = w62 := ⟨_, rfl⟩
                  rw [hw] at Xa62 Xb62 Xo62 Xs62 Xg62 Xh62 ⊢
                  clear hw
                  clear hst
                  refine hK.out _ _ (HS11.out _ Xo62.out) (fun hHeld => ?_)
                  clear hK K
                  try simp only [Act.put]
                  refine wpAnyH_ready (rs := [15]) (by kernel_rfl) (by simp) ?_
                  refine AllReadyH.cons (o := ⟨none, _, _, _, _, _⟩) rfl (fun K hK => ?_) ?_
                  · clear hHeld
                    rw [if_pos (by rfl)]
                    refine wp_store_row 59 (.tmp 16) (.tmp 65) rfl g2 #[.int .i64 rk, .int .i64 rp, .int .i64 ro, .string rt] rfl rfl 59 _ Xh62.out (by kernel_rfl) (by simp) (by simp [Value.oneCell']) ?_
                    have hst : Only (fun x => x = g2) w62 (w62.setRow g2 #[.int .i64 rk, .int .i64 rp, .int .i64 ro, .string rt]) := only_setRowG _ _ _
                    have Xa63 := hide (Xa62.out.only hst (fun k hk hq => by have := Lg2.out; omega) hlo1 (fun k hk hq => Xa62.out.ne_blk Xh62.out rep_ne k hk hq))
                    have Xb63 := hide (Xb62.out.only hst (fun k hk hq => by have := Lg2.out; omega) hlo2 (fun k hk hq => Xb62.out.ne_blk Xh62.out rep_ne k hk hq))
                    have Xo63 := hide (Xo62.out.trans' hst (fun i hi hs => by have := Lg2.out; omega))
                    have Xs63 := hide (Nat.le_trans Xs62.out hst.size)
                    have Xd63 := Xd62
                    have Xh63 := hide (setRow_blkH (vs := #[.int .i64 rk, .int .i64 rp, .int .i64 ro, .string rt]) Xh62.out)
                    have Xg63 := hide (Xg62.out.only hst (fun h => Ng.out h))
                    obtain ⟨w63, hw⟩ : ∃ w63, w62.setRow g2 #[.int .i64 rk, .int .i64 rp, .int .i64 ro, .string rt] = w63 := ⟨_, rfl⟩
                    rw [hw] at Xa63 Xb63 Xo63 Xs63 Xg63 Xh63 ⊢
                    clear hw
                    clear hst
                    refine hK.out _ _ (HS11.out _ Xo63.out) (fun hHeld => ?_)
                    clear hK K
                    try simp only [Act.put]
                    refine wpAnyH_done (by kernel_rfl) ?_ _
                    go_wp2_with fail
                    go_meet
                    case rel => exact ⟨g1, g2, va2, vb2, rfl, rfl, Xg63.out, Xh63.out, Xa63.out, Xb63.out, Xd63.out, Xo63.out, Lg1.out, Lg2.out⟩
                  exact AllReadyH.nil
                exact AllReadyH.nil
              exact AllReadyH.nil
            exact AllReadyH.nil
          exact AllReadyH.nil
        refine AllReadyH.cons (o := ⟨some 16, _, _, _, _, _⟩) rfl (fun K hK => ?_) ?_
        · clear hHeld
          go_simp
          have hal : Only (fun _ => False) w20 (w20.alloc (.cells #[.int .i64 0, .int .i64 0, .int .i64 0, .string ⟨#[]⟩] 59)) := (Only.refl _ w20).alloc _
          have Xa64 := hide (Xa20.out.only hal (fun _ h => h.elim) hlo1 (fun _ _ h => h))
          have Xb64 := hide (Xb20.out.only hal (fun _ h => h.elim) hlo2 (fun _ _ h => h))
          have Xo64 := hide (Xo20.out.trans' hal (fun _ _ h => h.elim))
          have Xs64 := hide (Nat.le_trans Xs20.out hal.size)
          have Xd64 := Xd20
          have Xh64 := hide (Blk.new w20 59 #[.int .i64 0, .int .i64 0, .int .i64 0, .string ⟨#[]⟩])
          obtain ⟨g2, hg⟩ : ∃ g2, w20.heap.size = g2 := ⟨_, rfl⟩
          have Lg2 := hide (show BB ≤ g2 from by rw [← hg]; exact Xs20.out)
          obtain ⟨w64, hw⟩ : ∃ w64, w20.alloc (.cells #[.int .i64 0, .int .i64 0, .int .i64 0, .string ⟨#[]⟩] 59) = w64 := ⟨_, rfl⟩
          rw [hw] at Xa64 Xb64 Xo64 Xs64 Xh64 ⊢
          clear hw
          rw [hg] at Xh64 ⊢
          clear hg hal
          refine hK.out _ _ (HS11.out _ Xo64.out) (fun hHeld => ?_)
          clear hK K
          try simp only [Act.put, List.setIfInBounds_toArray, List.set_cons_zero, List.set_cons_succ]
          refine wpAnyH_ready (rs := [5, 12]) (by kernel_rfl) (by simp) ?_
          refine AllReadyH.cons (o := ⟨some 59, _, _, _, _, _⟩) rfl (fun K hK => ?_) ?_
          · clear hHeld
            go_simp
            go_at_call 23
            refine (Hta.out _ _ Xa64.out Xs64.out (HEr.out.step Xo64.out (fun i hi => by omega))).mono ?_
            rintro e w65 ⟨rfl, va2, hat, hlie, ho⟩
            have Xa65 := hide hat
            have Xb65 := hide (Xb64.out.only ho (fun k hk hq => hk.elim (fun hk => by omega) (fun hk => by have := (Xa64.out.own k hk).1; omega)) hlo2 (fun k hk hq => hq.elim (fun hq => by have := (Xb64.out.own k hk).1; omega) (fun hq => Xd64.out k hq hk)))
            have Xd65 := hide (show ∀ k, va2.ownBlock = some k → vb.ownBlock = some k → False from fun k hk hq => by
              rcases hlie with h | ⟨g, h, hg⟩
              · rw [h] at hk; exact Xd64.out k hk hq
              · rw [h] at hk; injection hk with hk; have := (Xb64.out.own k hq).2; omega)
            have Xo65 := hide (Xo64.out.trans' ho (fun i hi hs => hs.elim (fun hs => by omega) (fun hs => by have := (Xa64.out.own i hs).1; omega)))
            have Xs65 := hide (Nat.le_trans Xs64.out ho.size)
            have Xh65 := hide (Xh64.out.only ho (fun h => h.elim (fun h => by have := Lg2.out; omega) (fun h => Xa64.out.ne_blk Xh64.out rep_ne _ h rfl)))
            clear hat hlie ho
            try go_wp2_with fail
            refine hK.out _ _ (HS11.out _ Xo65.out) (fun hHeld => ?_)
            clear hK K
            try simp only [Act.put, List.setIfInBounds_toArray, List.set_cons_zero, List.set_cons_succ]
            refine wpAnyH_ready (rs := [11, 12]) (by kernel_rfl) (by simp) ?_
            refine AllReadyH.cons (o := ⟨some 65, _, _, _, _, _⟩) rfl (fun K hK => ?_) ?_
            · clear hHeld
              go_simp
              go_at_call 23
              refine (Htb.out _ _ Xb65.out Xs65.out (HEr.out.step Xo65.out (fun i hi => by omega))).mono ?_
              rintro e w66 ⟨rfl, vb2, hat, hlie, ho⟩
              have Xb66 := hide hat
              have Xa66 := hide (Xa65.out.only ho (fun k hk hq => hk.elim (fun hk => by omega) (fun hk => by have := (Xb65.out.own k hk).1; omega)) hlo1 (fun k hk hq => hq.elim (fun hq => by have := (Xa65.out.own k hk).1; omega) (fun hq => Xd65.out k hk hq)))
              have Xd66 := hide (show ∀ k, va2.ownBlock = some k → vb2.ownBlock = some k → False from fun k hk hq => by
                rcases hlie with h | ⟨g, h, hg⟩
                · rw [h] at hq; exact Xd65.out k hk hq
                · rw [h] at hq; injection hq with hq; have := (Xa65.out.own k hk).2; omega)
              have Xo66 := hide (Xo65.out.trans' ho (fun i hi hs => hs.elim (fun hs => by omega) (fun hs => by have := (Xb65.out.own i hs).1; omega)))
              have Xs66 := hide (Nat.le_trans Xs65.out ho.size)
              have Xh66 := hide (Xh65.out.only ho (fun h => h.elim (fun h => by have := Lg2.out; omega) (fun h => Xb65.out.ne_blk Xh65.out rep_ne _ h rfl)))
              clear hat hlie ho
              try go_wp2_with fail
              refine hK.out _ _ (HS11.out _ Xo66.out) (fun hHeld => ?_)
              clear hK K
              try simp only [Act.put, List.setIfInBounds_toArray, List.set_cons_zero, List.set_cons_succ]
              refine wpAnyH_ready (rs := [12]) (by kernel_rfl) (by simp) ?_
              refine AllReadyH.cons (o := ⟨some 15, _, _, _, _, _⟩) rfl (fun K hK => ?_) ?_
              · clear hHeld
                go_simp
                have hal : Only (fun _ => False) w66 (w66.alloc (.cells #[.int .i64 0, .int .i64 0, .int .i64 0, .string ⟨#[]⟩] 59)) := (Only.refl _ w66).alloc _
                have Xa67 := hide (Xa66.out.only hal (fun _ h => h.elim) hlo1 (fun _ _ h => h))
                have Xb67 := hide (Xb66.out.only hal (fun _ h => h.elim) hlo2 (fun _ _ h => h))
                have Xo67 := hide (Xo66.out.trans' hal (fun _ _ h => h.elim))
                have Xs67 := hide (Nat.le_trans Xs66.out hal.size)
                have Xd67 := Xd66
                have Xh67 := hide (Xh66.out.only hal (fun h => h))
                have Xg67 := hide (Blk.new w66 59 #[.int .i64 0, .int .i64 0, .int .i64 0, .string ⟨#[]⟩])
                obtain ⟨g1, hg⟩ : ∃ g1, w66.heap.size = g1 := ⟨_, rfl⟩
                have Lg1 := hide (show BB ≤ g1 from by rw [← hg]; exact Xs66.out)
                have Ng := hide (show g1 ≠ g2 from by have := Blk.lt Xh66.out; omega)
                obtain ⟨w67, hw⟩ : ∃ w67, w66.alloc (.cells #[.int .i64 0, .int .i64 0, .int .i64 0, .string ⟨#[]⟩] 59) = w67 := ⟨_, rfl⟩
                rw [hw] at Xa67 Xb67 Xo67 Xs67 Xg67 Xh67 ⊢
                clear hw
                rw [hg] at Xg67 ⊢
                clear hg hal
                refine hK.out _ _ (HS11.out _ Xo67.out) (fun hHeld => ?_)
                clear hK K
                try simp only [Act.put, List.setIfInBounds_toArray, List.set_cons_zero, List.set_cons_succ]
                refine wpAnyH_ready (rs := [14]) (by kernel_rfl) (by simp) ?_
                refine AllReadyH.cons (o := ⟨none, _, _, _, _, _⟩) rfl (fun K hK => ?_) ?_
                · clear hHeld
                  rw [if_pos (by rfl)]
                  refine wp_store_row 59 (.tmp 15) (.tmp 59) rfl g1 #[.int .i64 rk, .int .i64 rp, .int .i64 ro, .string rt] rfl rfl 59 _ Xg67.out (by kernel_rfl) (by simp) (by simp [Value.oneCell']) ?_
                  have hst : Only (fun x => x = g1) w67 (w67.setRow g1 #[.int .i64 rk, .int .i64 rp, .int .i64 ro, .string rt]) := only_setRowG _ _ _
                  have Xa68 := hide (Xa67.out.only hst (fun k hk hq => by have := Lg1.out; omega) hlo1 (fun k hk hq => Xa67.out.ne_blk Xg67.out rep_ne k hk hq))
                  have Xb68 := hide (Xb67.out.only hst (fun k hk hq => by have := Lg1.out; omega) hlo2 (fun k hk hq => Xb67.out.ne_blk Xg67.out rep_ne k hk hq))
                  have Xo68 := hide (Xo67.out.trans' hst (fun i hi hs => by have := Lg1.out; omega))
                  have Xs68 := hide (Nat.le_trans Xs67.out hst.size)
                  have Xd68 := Xd67
                  have Xg68 := hide (setRow_blkH (vs := #[.int .i64 rk, .int .i64 rp, .int .i64 ro, .string rt]) Xg67.out)
                  have Xh68 := hide (Xh67.out.only hst (fun h => Ng.out h.symm))
                  obtain ⟨w68, hw⟩ : ∃ w68, w67.setRow g1 #[.int .i64 rk, .int .i64 rp, .int .i64 ro, .string rt] = w68 := ⟨_, rfl⟩
                  rw [hw] at Xa68 Xb68 Xo68 Xs68 Xg68 Xh68 ⊢
                  clear hw
                  clear hst
                  refine hK.out _ _ (HS11.out _ Xo68.out) (fun hHeld => ?_)
                  clear hK K
                  try simp only [Act.put]
                  refine wpAnyH_ready (rs := [15]) (by kernel_rfl) (by simp) ?_
                  refine AllReadyH.cons (o := ⟨none, _, _, _, _, _⟩) rfl (fun K hK => ?_) ?_
                  · clear hHeld
                    rw [if_pos (by rfl)]
                    refine wp_store_row 59 (.tmp 16) (.tmp 65) rfl g2 #[.int .i64 rk, .int .i64 rp, .int .i64 ro, .string rt] rfl rfl 59 _ Xh68.out (by kernel_rfl) (by simp) (by simp [Value.oneCell']) ?_
                    have hst : Only (fun x => x = g2) w68 (w68.setRow g2 #[.int .i64 rk, .int .i64 rp, .int .i64 ro, .string rt]) := only_setRowG _ _ _
                    have Xa69 := hide (Xa68.out.only hst (fun k hk hq => by have := Lg2.out; omega) hlo1 (fun k hk hq => Xa68.out.ne_blk Xh68.out rep_ne k hk hq))
                    have Xb69 := hide (Xb68.out.only hst (fun k hk hq => by have := Lg2.out; omega) hlo2 (fun k hk hq => Xb68.out.ne_blk Xh68.out rep_ne k hk hq))
                    have Xo69 := hide (Xo68.out.trans' hst (fun i hi hs => by have := Lg2.out; omega))
                    have Xs69 := hide (Nat.le_trans Xs68.out hst.size)
                    have Xd69 := Xd68
                    have Xh69 := hide (setRow_blkH (vs := #[.int .i64 rk, .int .i64 rp, .int .i64 ro, .string rt]) Xh68.out)
                    have Xg69 := hide (Xg68.out.only hst (fun h => Ng.out h))
                    obtain ⟨w69, hw⟩ : ∃ w69, w68.setRow g2 #[.int .i64 rk, .int .i64 rp, .int .i64 ro, .string rt] = w69 := ⟨_, rfl⟩
                    rw [hw] at Xa69 Xb69 Xo69 Xs69 Xg69 Xh69 ⊢
                    clear hw
                    clear hst
                    refine hK.out _ _ (HS11.out _ Xo69.out) (fun hHeld => ?_)
                    clear hK K
                    try simp only [Act.put]
                    refine wpAnyH_done (by kernel_rfl) ?_ _
                    go_wp2_with fail
                    go_meet
                    case rel => exact ⟨g1, g2, va2, vb2, rfl, rfl, Xg69.out, Xh69.out, Xa69.out, Xb69.out, Xd69.out, Xo69.out, Lg1.out, Lg2.out⟩
                  exact AllReadyH.nil
                exact AllReadyH.nil
              exact AllReadyH.nil
            refine AllReadyH.cons (o := ⟨some 15, _, _, _, _, _⟩) rfl (fun K hK => ?_) ?_
            · clear hHeld
              go_simp
              have hal : Only (fun _ => False) w65 (w65.alloc (.cells #[.int .i64 0, .int .i64 0, .int .i64 0, .string ⟨#[]⟩] 59)) := (Only.refl _ w65).alloc _
              have Xa70 := hide (Xa65.out.only hal (fun _ h => h.elim) hlo1 (fun _ _ h => h))
              have Xb70 := hide (Xb65.out.only hal (fun _ h => h.elim) hlo2 (fun _ _ h => h))
              have Xo70 := hide (Xo65.out.trans' hal (fun _ _ h => h.elim))
              have Xs70 := hide (Nat.le_trans Xs65.out hal.size)
              have Xd70 := Xd65
              have Xh70 := hide (Xh65.out.only hal (fun h => h))
              have Xg70 := hide (Blk.new w65 59 #[.int .i64 0, .int .i64 0, .int .i64 0, .string ⟨#[]⟩])
              obtain ⟨g1, hg⟩ : ∃ g1, w65.heap.size = g1 := ⟨_, rfl⟩
              have Lg1 := hide (show BB ≤ g1 from by rw [← hg]; exact Xs65.out)
              have Ng := hide (show g1 ≠ g2 from by have := Blk.lt Xh65.out; omega)
              obtain ⟨w70, hw⟩ : ∃ w70, w65.alloc (.cells #[.int .i64 0, .int .i64 0, .int .i64 0, .string ⟨#[]⟩] 59) = w70 := ⟨_, rfl⟩
              rw [hw] at Xa70 Xb70 Xo70 Xs70 Xg70 Xh70 ⊢
              clear hw
              rw [hg] at Xg70 ⊢
              clear hg hal
              refine hK.out _ _ (HS11.out _ Xo70.out) (fun hHeld => ?_)
              clear hK K
              try simp only [Act.put, List.setIfInBounds_toArray, List.set_cons_zero, List.set_cons_succ]
              refine wpAnyH_ready (rs := [11]) (by kernel_rfl) (by simp) ?_
              refine AllReadyH.cons (o := ⟨some 65, _, _, _, _, _⟩) rfl (fun K hK => ?_) ?_
              · clear hHeld
                go_simp
                go_at_call 23
                refine (Htb.out _ _ Xb70.out Xs70.out (HEr.out.step Xo70.out (fun i hi => by omega))).mono ?_
                rintro e w71 ⟨rfl, vb2, hat, hlie, ho⟩
                have Xb71 := hide hat
                have Xa71 := hide (Xa70.out.only ho (fun k hk hq => hk.elim (fun hk => by omega) (fun hk => by have := (Xb70.out.own k hk).1; omega)) hlo1 (fun k hk hq => hq.elim (fun hq => by have := (Xa70.out.own k hk).1; omega) (fun hq => Xd70.out k hk hq)))
                have Xd71 := hide (show ∀ k, va2.ownBlock = some k → vb2.ownBlock = some k → False from fun k hk hq => by
                  rcases hlie with h | ⟨g, h, hg⟩
                  · rw [h] at hq; exact Xd70.out k hk hq
                  · rw [h] at hq; injection hq with hq; have := (Xa70.out.own k hk).2; omega)
                have Xo71 := hide (Xo70.out.trans' ho (fun i hi hs => hs.elim (fun hs => by omega) (fun hs => by have := (Xb70.out.own i hs).1; omega)))
                have Xs71 := hide (Nat.le_trans Xs70.out ho.size)
                have Xg71 := hide (Xg70.out.only ho (fun h => h.elim (fun h => by have := Lg1.out; omega) (fun h => Xb70.out.ne_blk Xg70.out rep_ne _ h rfl)))
                have Xh71 := hide (Xh70.out.only ho (fun h => h.elim (fun h => by have := Lg2.out; omega) (fun h => Xb70.out.ne_blk Xh70.out rep_ne _ h rfl)))
                clear hat hlie ho
                try go_wp2_with fail
                refine hK.out _ _ (HS11.out _ Xo71.out) (fun hHeld => ?_)
                clear hK K
                try simp only [Act.put, List.setIfInBounds_toArray, List.set_cons_zero, List.set_cons_succ]
                refine wpAnyH_ready (rs := [14]) (by kernel_rfl) (by simp) ?_
                refine AllReadyH.cons (o := ⟨none, _, _, _, _, _⟩) rfl (fun K hK => ?_) ?_
                · clear hHeld
                  rw [if_pos (by rfl)]
                  refine wp_store_row 59 (.tmp 15) (.tmp 59) rfl g1 #[.int .i64 rk, .int .i64 rp, .int .i64 ro, .string rt] rfl rfl 59 _ Xg71.out (by kernel_rfl) (by simp) (by simp [Value.oneCell']) ?_
                  have hst : Only (fun x => x = g1) w71 (w71.setRow g1 #[.int .i64 rk, .int .i64 rp, .int .i64 ro, .string rt]) := only_setRowG _ _ _
                  have Xa72 := hide (Xa71.out.only hst (fun k hk hq => by have := Lg1.out; omega) hlo1 (fun k hk hq => Xa71.out.ne_blk Xg71.out rep_ne k hk hq))
                  have Xb72 := hide (Xb71.out.only hst (fun k hk hq => by have := Lg1.out; omega) hlo2 (fun k hk hq => Xb71.out.ne_blk Xg71.out rep_ne k hk hq))
                  have Xo72 := hide (Xo71.out.trans' hst (fun i hi hs => by have := Lg1.out; omega))
                  have Xs72 := hide (Nat.le_trans Xs71.out hst.size)
                  have Xd72 := Xd71
                  have Xg72 := hide (setRow_blkH (vs := #[.int .i64 rk, .int .i64 rp, .int .i64 ro, .string rt]) Xg71.out)
                  have Xh72 := hide (Xh71.out.only hst (fun h => Ng.out h.symm))
                  obtain ⟨w72, hw⟩ : ∃ w72, w71.setRow g1 #[.int .i64 rk, .int .i64 rp, .int .i64 ro, .string rt] = w72 := ⟨_, rfl⟩
                  rw [hw] at Xa72 Xb72 Xo72 Xs72 Xg72 Xh72 ⊢
                  clear hw
                  clear hst
                  refine hK.out _ _ (HS11.out _ Xo72.out) (fun hHeld => ?_)
                  clear hK K
                  try simp only [Act.put]
                  refine wpAnyH_ready (rs := [15]) (by kernel_rfl) (by simp) ?_
                  refine AllReadyH.cons (o := ⟨none, _, _, _, _, _⟩) rfl (fun K hK => ?_) ?_
                  · clear hHeld
                    rw [if_pos (by rfl)]
                    refine wp_store_row 59 (.tmp 16) (.tmp 65) rfl g2 #[.int .i64 rk, .int .i64 rp, .int .i64 ro, .string rt] rfl rfl 59 _ Xh72.out (by kernel_rfl) (by simp) (by simp [Value.oneCell']) ?_
                    have hst : Only (fun x => x = g2) w72 (w72.setRow g2 #[.int .i64 rk, .int .i64 rp, .int .i64 ro, .string rt]) := only_setRowG _ _ _
                    have Xa73 := hide (Xa72.out.only hst (fun k hk hq => by have := Lg2.out; omega) hlo1 (fun k hk hq => Xa72.out.ne_blk Xh72.out rep_ne k hk hq))
                    have Xb73 := hide (Xb72.out.only hst (fun k hk hq => by have := Lg2.out; omega) hlo2 (fun k hk hq => Xb72.out.ne_blk Xh72.out rep_ne k hk hq))
                    have Xo73 := hide (Xo72.out.trans' hst (fun i hi hs => by have := Lg2.out; omega))
                    have Xs73 := hide (Nat.le_trans Xs72.out hst.size)
                    have Xd73 := Xd72
                    have Xh73 := hide (setRow_blkH (vs := #[.int .i64 rk, .int .i64 rp, .int .i64 ro, .string rt]) Xh72.out)
                    have Xg73 := hide (Xg72.out.only hst (fun h => Ng.out h))
                    obtain ⟨w73, hw⟩ : ∃ w73, w72.setRow g2 #[.int .i64 rk, .int .i64 rp, .int .i64 ro, .string rt] = w73 := ⟨_, rfl⟩
                    rw [hw] at Xa73 Xb73 Xo73 Xs73 Xg73 Xh73 ⊢
                    clear hw
                    clear hst
                    refine hK.out _ _ (HS11.out _ Xo73.out) (fun hHeld => ?_)
                    clear hK K
                    try simp only [Act.put]
                    refine wpAnyH_done (by kernel_rfl) ?_ _
                    go_wp2_with fail
                    go_meet
                    case rel => exact ⟨g1, g2, va2, vb2, rfl, rfl, Xg73.out, Xh73.out, Xa73.out, Xb73.out, Xd73.out, Xo73.out, Lg1.out, Lg2.out⟩
                  exact AllReadyH.nil
                exact AllReadyH.nil
              exact AllReadyH.nil
            exact AllReadyH.nil
          refine AllReadyH.cons (o := ⟨some 15, _, _, _, _, _⟩) rfl (fun K hK => ?_) ?_
          · clear hHeld
            go_simp
            have hal : Only (fun _ => False) w64 (w64.alloc (.cells #[.int .i64 0, .int .i64 0, .int .i64 0, .string ⟨#[]⟩] 59)) := (Only.refl _ w64).alloc _
            have Xa74 := hide (Xa64.out.only hal (fun _ h => h.elim) hlo1 (fun _ _ h => h))
            have Xb74 := hide (Xb64.out.only hal (fun _ h => h.elim) hlo2 (fun _ _ h => h))
            have Xo74 := hide (Xo64.out.trans' hal (fun _ _ h => h.elim))
            have Xs74 := hide (Nat.le_trans Xs64.out hal.size)
            have Xd74 := Xd64
            have Xh74 := hide (Xh64.out.only hal (fun h => h))
            have Xg74 := hide (Blk.new w64 59 #[.int .i64 0, .int .i64 0, .int .i64 0, .string ⟨#[]⟩])
            obtain ⟨g1, hg⟩ : ∃ g1, w64.heap.size = g1 := ⟨_, rfl⟩
            have Lg1 := hide (show BB ≤ g1 from by rw [← hg]; exact Xs64.out)
            have Ng := hide (show g1 ≠ g2 from by have := Blk.lt Xh64.out; omega)
            obtain ⟨w74, hw⟩ : ∃ w74, w64.alloc (.cells #[.int .i64 0, .int .i64 0, .int .i64 0, .string ⟨#[]⟩] 59) = w74 := ⟨_, rfl⟩
            rw [hw] at Xa74 Xb74 Xo74 Xs74 Xg74 Xh74 ⊢
            clear hw
            rw [hg] at Xg74 ⊢
            clear hg hal
            refine hK.out _ _ (HS11.out _ Xo74.out) (fun hHeld => ?_)
            clear hK K
            try simp only [Act.put, List.setIfInBounds_toArray, List.set_cons_zero, List.set_cons_succ]
            refine wpAnyH_ready (rs := [5]) (by kernel_rfl) (by simp) ?_
            refine AllReadyH.cons (o := ⟨some 59, _, _, _, _, _⟩) rfl (fun K hK => ?_) ?_
            · clear hHeld
              go_simp
              go_at_call 23
              refine (Hta.out _ _ Xa74.out Xs74.out (HEr.out.step Xo74.out (fun i hi => by omega))).mono ?_
              rintro e w75 ⟨rfl, va2, hat, hlie, ho⟩
              have Xa75 := hide hat
              have Xb75 := hide (Xb74.out.only ho (fun k hk hq => hk.elim (fun hk => by omega) (fun hk => by have := (Xa74.out.own k hk).1; omega)) hlo2 (fun k hk hq => hq.elim (fun hq => by have := (Xb74.out.own k hk).1; omega) (fun hq => Xd74.out k hq hk)))
              have Xd75 := hide (show ∀ k, va2.ownBlock = some k → vb.ownBlock = some k → False from fun k hk hq => by
                rcases hlie with h | ⟨g, h, hg⟩
                · rw [h] at hk; exact Xd74.out k hk hq
                · rw [h] at hk; injection hk with hk; have := (Xb74.out.own k hq).2; omega)
              have Xo75 := hide (Xo74.out.trans' ho (fun i hi hs => hs.elim (fun hs => by omega) (fun hs => by have := (Xa74.out.own i hs).1; omega)))
              have Xs75 := hide (Nat.le_trans Xs74.out ho.size)
              have Xg75 := hide (Xg74.out.only ho (fun h => h.elim (fun h => by have := Lg1.out; omega) (fun h => Xa74.out.ne_blk Xg74.out rep_ne _ h rfl)))
              have Xh75 := hide (Xh74.out.only ho (fun h => h.elim (fun h => by have := Lg2.out; omega) (fun h => Xa74.out.ne_blk Xh74.out rep_ne _ h rfl)))
              clear hat hlie ho
              try go_wp2_with fail
              refine hK.out _ _ (HS11.out _ Xo75.out) (fun hHeld => ?_)
              clear hK K
              try simp only [Act.put, List.setIfInBounds_toArray, List.set_cons_zero, List.set_cons_succ]
              refine wpAnyH_ready (rs := [11]) (by kernel_rfl) (by simp) ?_
              refine AllReadyH.cons (o := ⟨some 65, _, _, _, _, _⟩) rfl (fun K hK => ?_) ?_
              · clear hHeld
                go_simp
                go_at_call 23
                refine (Htb.out _ _ Xb75.out Xs75.out (HEr.out.step Xo75.out (fun i hi => by omega))).mono ?_
                rintro e w76 ⟨rfl, vb2, hat, hlie, ho⟩
                have Xb76 := hide hat
                have Xa76 := hide (Xa75.out.only ho (fun k hk hq => hk.elim (fun hk => by omega) (fun hk => by have := (Xb75.out.own k hk).1; omega)) hlo1 (fun k hk hq => hq.elim (fun hq => by have := (Xa75.out.own k hk).1; omega) (fun hq => Xd75.out k hk hq)))
                have Xd76 := hide (show ∀ k, va2.ownBlock = some k → vb2.ownBlock = some k → False from fun k hk hq => by
                  rcases hlie with h | ⟨g, h, hg⟩
                  · rw [h] at hq; exact Xd75.out k hk hq
                  · rw [h] at hq; injection hq with hq; have := (Xa75.out.own k hk).2; omega)
                have Xo76 := hide (Xo75.out.trans' ho (fun i hi hs => hs.elim (fun hs => by omega) (fun hs => by have := (Xb75.out.own i hs).1; omega)))
                have Xs76 := hide (Nat.le_trans Xs75.out ho.size)
                have Xg76 := hide (Xg75.out.only ho (fun h => h.elim (fun h => by have := Lg1.out; omega) (fun h => Xb75.out.ne_blk Xg75.out rep_ne _ h rfl)))
                have Xh76 := hide (Xh75.out.only ho (fun h => h.elim (fun h => by have := Lg2.out; omega) (fun h => Xb75.out.ne_blk Xh75.out rep_ne _ h rfl)))
                clear hat hlie ho
                try go_wp2_with fail
                refine hK.out _ _ (HS11.out _ Xo76.out) (fun hHeld => ?_)
                clear hK K
                try simp only [Act.put, List.setIfInBounds_toArray, List.set_cons_zero, List.set_cons_succ]
                refine wpAnyH_ready (rs := [14]) (by kernel_rfl) (by simp) ?_
                refine AllReadyH.cons (o := ⟨none, _, _, _, _, _⟩) rfl (fun K hK => ?_) ?_
                · clear hHeld
                  rw [if_pos (by rfl)]
                  refine wp_store_row 59 (.tmp 15) (.tmp 59) rfl g1 #[.int .i64 rk, .int .i64 rp, .int .i64 ro, .string rt] rfl rfl 59 _ Xg76.out (by kernel_rfl) (by simp) (by simp [Value.oneCell']) ?_
                  have hst : Only (fun x => x = g1) w76 (w76.setRow g1 #[.int .i64 rk, .int .i64 rp, .int .i64 ro, .string rt]) := only_setRowG _ _ _
                  have Xa77 := hide (Xa76.out.only hst (fun k hk hq => by have := Lg1.out; omega) hlo1 (fun k hk hq => Xa76.out.ne_blk Xg76.out rep_ne k hk hq))
                  have Xb77 := hide (Xb76.out.only hst (fun k hk hq => by have := Lg1.out; omega) hlo2 (fun k hk hq => Xb76.out.ne_blk Xg76.out rep_ne k hk hq))
                  have Xo77 := hide (Xo76.out.trans' hst (fun i hi hs => by have := Lg1.out; omega))
                  have Xs77 := hide (Nat.le_trans Xs76.out hst.size)
                  have Xd77 := Xd76
                  have Xg77 := hide (setRow_blkH (vs := #[.int .i64 rk, .int .i64 rp, .int .i64 ro, .string rt]) Xg76.out)
                  have Xh77 := hide (Xh76.out.only hst (fun h => Ng.out h.symm))
                  obtain ⟨w77, hw⟩ : ∃ w77, w76.setRow g1 #[.int .i64 rk, .int .i64 rp, .int .i64 ro, .string rt] = w77 := ⟨_, rfl⟩
                  rw [hw] at Xa77 Xb77 Xo77 Xs77 Xg77 Xh77 ⊢
                  clear hw
                  clear hst
                  refine hK.out _ _ (HS11.out _ Xo77.out) (fun hHeld => ?_)
                  clear hK K
                  try simp only [Act.put]
                  refine wpAnyH_ready (rs := [15]) (by kernel_rfl) (by simp) ?_
                  refine AllReadyH.cons (o := ⟨none, _, _, _, _, _⟩) rfl (fun K hK => ?_) ?_
                  · clear hHeld
                    rw [if_pos (by rfl)]
                    refine wp_store_row 59 (.tmp 16) (.tmp 65) rfl g2 #[.int .i64 rk, .int .i64 rp, .int .i64 ro, .string rt] rfl rfl 59 _ Xh77.out (by kernel_rfl) (by simp) (by simp [Value.oneCell']) ?_
                    have hst : Only (fun x => x = g2) w77 (w77.setRow g2 #[.int .i64 rk, .int .i64 rp, .int .i64 ro, .string rt]) := only_setRowG _ _ _
                    have Xa78 := hide (Xa77.out.only hst (fun k hk hq => by have := Lg2.out; omega) hlo1 (fun k hk hq => Xa77.out.ne_blk Xh77.out rep_ne k hk hq))
                    have Xb78 := hide (Xb77.out.only hst (fun k hk hq => by have := Lg2.out; omega) hlo2 (fun k hk hq => Xb77.out.ne_blk Xh77.out rep_ne k hk hq))
                    have Xo78 := hide (Xo77.out.trans' hst (fun i hi hs => by have := Lg2.out; omega))
                    have Xs78 := hide (Nat.le_trans Xs77.out hst.size)
                    have Xd78 := Xd77
                    have Xh78 := hide (setRow_blkH (vs := #[.int .i64 rk, .int .i64 rp, .int .i64 ro, .string rt]) Xh77.out)
                    have Xg78 := hide (Xg77.out.only hst (fun h => Ng.out h))
                    obtain ⟨w78, hw⟩ : ∃ w78, w77.setRow g2 #[.int .i64 rk, .int .i64 rp, .int .i64 ro, .string rt] = w78 := ⟨_, rfl⟩
                    rw [hw] at Xa78 Xb78 Xo78 Xs78 Xg78 Xh78 ⊢
                    clear hw
                    clear hst
                    refine hK.out _ _ (HS11.out _ Xo78.out) (fun hHeld => ?_)
                    clear hK K
                    try simp only [Act.put]
                    refine wpAnyH_done (by kernel_rfl) ?_ _
                    go_wp2_with fail
                    go_meet
                    case rel => exact ⟨g1, g2, va2, vb2, rfl, rfl, Xg78.out, Xh78.out, Xa78.out, Xb78.out, Xd78.out, Xo78.out, Lg1.out, Lg2.out⟩
                  exact AllReadyH.nil
                exact AllReadyH.nil
              exact AllReadyH.nil
            exact AllReadyH.nil
          exact AllReadyH.nil
        exact AllReadyH.nil
      case rest =>
        obtain ⟨g1, g2, va2, vb2, rfl, rfl, hg1, hg2, ha, hb, hd, ho, l1, l2⟩ := hcut
        rename World => w5
        have Hg1 := hide hg1
        have Ha5 := hide ha
        have Hb5 := hide hb
        have Hd5 := hide hd
        have Ho5 := hide ho
        obtain ⟨u0, u1, u2, u3⟩ := (show _ ∧ _ ∧ _ ∧ _ from ⟨Hg1.out.cellv (i := 0) rfl, Hg1.out.cellv (i := 1) rfl, Hg1.out.cellv (i := 2) rfl, Hg1.out.cellv (i := 3) rfl⟩)
        obtain ⟨v0, v1, v2, v3⟩ := (show _ ∧ _ ∧ _ ∧ _ from ⟨hg2.cellv (i := 0) rfl, hg2.cellv (i := 1) rfl, hg2.cellv (i := 2) rfl, hg2.cellv (i := 3) rfl⟩)
        have Hok2 := hide (show HoOk s2 from by rw [← Hs2.out]; exact take_ok Hos.out hmb.2)
        have Hh2 := hide (show ∀ j (hj : j < ms.length), j < i + 1 → Heard s2 ms[j] from fun j hj hji => by
          rw [← Hs2.out]
          by_cases hlt : j < i
          · exact (take_heard s m).2 _ (Hheard.out j hj hlt)
          · obtain rfl : j = i := by omega
            rw [Hm.out]
            exact (take_heard s m).1)
        have HMs := hide (show ∀ w' : World, Only (fun x => W.heap.size ≤ x) wr w' → ∀ q (hq : q < ms.length), w'.cell? ⟨bm, om + q * 4, none⟩ = some (.int .i64 ms[q].seat) ∧ w'.cell? ⟨bm, om + q * 4 + 1, none⟩ = some (.int .i64 ms[q].ply) ∧ w'.cell? ⟨bm, om + q * 4 + 2, none⟩ = some (.string ms[q].mv) ∧ w'.cell? ⟨bm, om + q * 4 + 3, none⟩ = some (.int .i64 ms[q].at_) from fun w' ho q hq => by
          obtain ⟨b', o', e', _, z⟩ := msg_at ((hms.below (Hor.out.below_ (B := W.heap.size) (fun _ h => h.elim) (Nat.le_refl _))).below (ho.below_ (B := W.heap.size) (fun _ h => h) Hor.out.size)) hq
          injection e' with e'
          injection e' with e1 e2
          subst e1
          subst e2
          exact z)
        have HGs := hide (show ∀ w' : World, Only (fun x => W.heap.size ≤ x) wr w' → ∀ q (hq : q < gs.length), ∃ bg og, Ag = some ⟨bg, og, none⟩ ∧ w'.cell? ⟨bg, og + q, none⟩ = some (.int .i64 gs[q]) from fun w' ho q hq => by
          obtain ⟨bg, og, e, _, hc⟩ := ((hgs.below (Hor.out.below_ (B := W.heap.size) (fun _ h => h.elim) (Nat.le_refl _))).below (ho.below_ (B := W.heap.size) (fun _ h => h) Hor.out.size)) (by rw [ints_length]; omega)
          refine ⟨bg, og, e, ?_⟩
          rw [hc q (by rw [ints_length]; exact hq)]
          simp [ints])
        have hne : ∀ w, (binOp .neq 59 (.agg #[.int .i64 rk, .int .i64 rp, .int .i64 ro, .string rt]) (.agg #[.int .i64 rk, .int .i64 rp, .int .i64 ro, .string rt])).run Tryz.prog w = .ok (.bool false) w := fun w => neqR rk rp ro rt w
        have hgd := fun op a b w => gdR op a b rk rp ro rk rp ro rt rt w
        clear hg1 hg2 ha hb hd ho HS11 Hta Htb Hheard Hos Hm Ha Hb Hd Hs2
        go_upto_region 14 with (fail)
        clear u0 u1 u2 u3 v0 v1 v2 v3 hne hgd
        go_loopw [13] (fun tv wq => ∃ (tm : Nat) (vb3 : Value), tv = .int .i64 (tm : Int) ∧ tm ≤ gs.length ∧ Blk wq g1 59 #[.int .i64 rk, .int .i64 rp, .int .i64 ro, .string rt] ∧ HoAt wq lo1 h1 BB s2 va2 ∧ HoAt wq lo2 h2 BB s2 vb3 ∧ (∀ k, va2.ownBlock = some k → vb3.ownBlock = some k → False) ∧ Only (fun x => W.heap.size ≤ x) wr wq) (fun tv _ => gs.length - (intOf tv).toNat)
        case atStart => exact ⟨tn, vb2, rfl, htn, Hg1.out, Ha5.out, Hb5.out, Hd5.out, Ho5.out⟩
        case round =>
          rename World => wq
          obtain ⟨tm, vb3, rfl, htm, hg, ha, hb, hd, ho⟩ := hrel
          have Hg := hide hg
          have Ha := hide ha
          have Hb := hide hb
          have Hd := hide hd
          have Ho := hide ho
          clear hg ha hb hd ho Hg1 Ha5 Hb5 Hd5 Ho5
          by_cases hlt : tm < gs.length
          · have e1 : decide ((tm : Int) < (gs.length : Int)) = true := by simp; omega
            have k0 : (0 : Int) ≤ (tm : Int) := by omega
            have k1 : (tm : Int) < (gs.length : Int) := by omega
            obtain ⟨bg, og, hAg, hcg⟩ := HGs.out wq Ho.out tm hlt
            obtain ⟨gi, hgi⟩ : ∃ gi, gs[tm] = gi := ⟨_, rfl⟩
            rw [hgi] at hcg
            subst hAg
            clear hgi
            by_cases hg0 : 0 ≤ gi
            · have e2 : decide (gi ≥ 0) = true := by simpa using hg0
              by_cases hgi2 : gi ≤ (i : Int)
              · have e3 : decide (gi ≤ (i : Int)) = true := by simpa using hgi2
                obtain ⟨q, rfl⟩ : ∃ q : Nat, gi = (q : Int) := ⟨gi.toNat, by omega⟩
                have hq : q < ms.length := by omega
                have q1 : (q : Int) < (ms.length : Int) := by omega
                have q2 : q ≤ i := by omega
                clear hgi2
                have Hmq := hide (HMs.out wq Ho.out q hq)
                obtain ⟨m2, hm2⟩ : ∃ m2, ms[q] = m2 := ⟨_, rfl⟩
                have hh := Hh2.out q hq (by omega)
                have hmb2 := hmr m2 (by rw [← hm2]; exact List.getElem_mem hq)
                rw [hm2] at Hmq hh
                have Hh := hide hh
                clear hm2 hh
                obtain ⟨y0, y1, y2, y3⟩ := Hmq.out
                go_upto_region 17 with (fail)
                have hal : Only (fun _ => False) wq (wq.alloc (.cells #[.int .i64 m2.seat, .int .i64 m2.ply, .string m2.mv, .int .i64 m2.at_] 62)) := (Only.refl _ wq).alloc _
                have Hx := hide (Blk.new wq 62 #[.int .i64 m2.seat, .int .i64 m2.ply, .string m2.mv, .int .i64 m2.at_])
                have Hg8 := hide (Hg.out.only hal (fun h => h))
                have Ha8 := hide (Ha.out.only hal (fun _ h => h.elim) hlo1 (fun _ _ h => h))
                have Hb8 := hide (Hb.out.only hal (fun _ h => h.elim) hlo2 (fun _ _ h => h))
                have Ho8 := hide (Ho.out.trans' hal (fun _ _ h => h.elim))
                obtain ⟨gx, hgx⟩ : ∃ gx, wq.heap.size = gx := ⟨_, rfl⟩
                obtain ⟨w8, hw8⟩ : ∃ w8, wq.alloc (.cells #[.int .i64 m2.seat, .int .i64 m2.ply, .string m2.mv, .int .i64 m2.at_] 62) = w8 := ⟨_, rfl⟩
                rw [hw8] at Hx Hg8 Ha8 Hb8 Ho8 ⊢
                rw [hgx] at Hx ⊢
                clear hw8 hgx hal y0 y1 y2 y3 Hg Ha Hb Ho
                obtain ⟨c0, c1, c2, c3⟩ := (show _ ∧ _ ∧ _ ∧ _ from ⟨Hx.out.cellv (i := 0) rfl, Hx.out.cellv (i := 1) rfl, Hx.out.cellv (i := 2) rfl, Hx.out.cellv (i := 3) rfl⟩)
                obtain ⟨u0, u1, u2, u3⟩ := (show _ ∧ _ ∧ _ ∧ _ from ⟨Hg8.out.cellv (i := 0) rfl, Hg8.out.cellv (i := 1) rfl, Hg8.out.cellv (i := 2) rfl, Hg8.out.cellv (i := 3) rfl⟩)
                by_cases qp : m2.ply < rp
                · have dp : decide (m2.ply < rp) = true := by simpa using qp
                  have hdup : (takeP s2 m2).1 = s2 := take_dup Hok2.out Hh.out (by rw [Hrp.out]; exact qp)
                  have hBw8 : BB ≤ w8.heap.size := by have := Hb8.out.lt; omega
                  have HT := hide (htake_any lo2 h2 BB s2 vb3 m2 w8 Hb8.out Hok2.out (by omega) hBw8 (by omega) (HEr.out.step Ho8.out (fun i hi => by omega)) hmb2.1 hmb2.2)
                  rw [hdup] at HT
                  clear hdup qp
                  go_wp2_with (go_at_call 23; refine HT.out.mono ?_; rintro e w9 ⟨rfl, vb4, hb9, hlie, ho9⟩)
                  go_roundw
                  case rel =>
                    refine ⟨tm + 1, vb4, by go_num, by omega, Hg8.out.only ho9 (fun h => h.elim (fun h => by omega) (fun h => Hb8.out.ne_blk Hg8.out rep_ne _ h rfl)), Ha8.out.only ho9 (fun k hk hq => hk.elim (fun hk => by omega) (fun hk => by have := (Hb8.out.own k hk).1; omega)) hlo1 (fun k hk hq => hq.elim (fun hq => by have := (Ha8.out.own k hk).1; omega) (fun hq => Hd.out k hk hq)), hb9, fun k hk hq => ?_, Ho8.out.trans' ho9 (fun i hi hs => hs.elim (fun hs => by omega) (fun hs => by have := (Hb8.out.own i hs).1; omega))⟩
                    rcases hlie with h | ⟨g, h, hg⟩
                    · rw [h] at hq; exact Hd.out k hk hq
                    · rw [h] at hq; injection hq with hq; have := (Ha8.out.own k hk).2; omega
                  case measure => simp [intOf]; omega
                · have dp : decide (m2.ply < rp) = false := by simpa using qp
                  clear qp
                  go_wp2_with fail
                  go_roundw
                  case rel => exact ⟨tm + 1, vb3, by go_num, by omega, Hg8.out, Ha8.out, Hb8.out, Hd.out, Ho8.out⟩
                  case measure => simp [intOf]; omega
              · have e3 : decide (gi ≤ (i : Int)) = false := by simpa using hgi2
                clear hgi2
                have hb8 : HoAt wq lo2 h2 BB s2 vb3 := Hb.out
                go_wp2_with (first
                  | (go_at_call 22; refine (hsave_at Ha.out (by omega)).mono ?_; rintro e w6 ⟨rfl, ha6, ho6⟩; have hb6 := Hb.out.only ho6 (fun k hk hq => by have := (Ha.out.own k hk).1; omega) hlo2 (fun k hk hq => Hd.out k hq hk); have Ha6 := hide ha6; have Hb6 := hide hb6; have Ho6 := hide ho6; clear ha6 hb6 ho6 hb8)
                  | (go_at_call 22; refine (hsave_at Hb6.out (by omega)).mono ?_; rintro e w7 ⟨rfl, hb7, ho7⟩; have ha7 := Ha6.out.only ho7 (fun k hk hq => by have := (Hb6.out.own k hk).1; omega) hlo1 (fun k hk hq => Hd.out k hk hq); have Ha7 := hide ha7; have Hb7 := hide hb7; have Ho7 := hide ho7; clear ha7 hb7 ho7))
                go_roundw
                case rel => exact ⟨i + 1, tm, s2, va2, vb3, by omega, by go_num, rfl, htm, Ha7.out, Hb7.out, Hd.out, Hok2.out, Hh2.out, ((Hor.out.trans' Ho.out (fun i hi hs => by omega)).trans' Ho6.out (fun i hi hs => by have := (Ha.out.own i hs).1; omega)).trans' Ho7.out (fun i hi hs => by have := (Hb6.out.own i hs).1; omega)⟩
                case measure => simp [intOf]; omega
            · have e2 : decide (gi ≥ 0) = false := by simpa using hg0
              clear hg0
              have hb8 : HoAt wq lo2 h2 BB s2 vb3 := Hb.out
              go_wp2_with (first
                | (go_at_call 22; refine (hsave_at Ha.out (by omega)).mono ?_; rintro e w6 ⟨rfl, ha6, ho6⟩; have hb6 := Hb.out.only ho6 (fun k hk hq => by have := (Ha.out.own k hk).1; omega) hlo2 (fun k hk hq => Hd.out k hq hk); have Ha6 := hide ha6; have Hb6 := hide hb6; have Ho6 := hide ho6; clear ha6 hb6 ho6 hb8)
                | (go_at_call 22; refine (hsave_at Hb6.out (by omega)).mono ?_; rintro e w7 ⟨rfl, hb7, ho7⟩; have ha7 := Ha6.out.only ho7 (fun k hk hq => by have := (Hb6.out.own k hk).1; omega) hlo1 (fun k hk hq => Hd.out k hk hq); have Ha7 := hide ha7; have Hb7 := hide hb7; have Ho7 := hide ho7; clear ha7 hb7 ho7))
              go_roundw
              case rel => exact ⟨i + 1, tm, s2, va2, vb3, by omega, by go_num, rfl, htm, Ha7.out, Hb7.out, Hd.out, Hok2.out, Hh2.out, ((Hor.out.trans' Ho.out (fun i hi hs => by omega)).trans' Ho6.out (fun i hi hs => by have := (Ha.out.own i hs).1; omega)).trans' Ho7.out (fun i hi hs => by have := (Hb6.out.own i hs).1; omega)⟩
              case measure => simp [intOf]; omega
          · obtain rfl : tm = gs.length := by omega
            have e1 : decide ((gs.length : Int) < (gs.length : Int)) = false := by simp
            clear hlt
            have hb8 : HoAt wq lo2 h2 BB s2 vb3 := Hb.out
            go_wp2_with (first
              | (go_at_call 22; refine (hsave_at Ha.out (by omega)).mono ?_; rintro e w6 ⟨rfl, ha6, ho6⟩; have hb6 := Hb.out.only ho6 (fun k hk hq => by have := (Ha.out.own k hk).1; omega) hlo2 (fun k hk hq => Hd.out k hq hk); have Ha6 := hide ha6; have Hb6 := hide hb6; have Ho6 := hide ho6; clear ha6 hb6 ho6 hb8)
              | (go_at_call 22; refine (hsave_at Hb6.out (by omega)).mono ?_; rintro e w7 ⟨rfl, hb7, ho7⟩; have ha7 := Ha6.out.only ho7 (fun k hk hq => by have := (Hb6.out.own k hk).1; omega) hlo1 (fun k hk hq => Hd.out k hk hq); have Ha7 := hide ha7; have Hb7 := hide hb7; have Ho7 := hide ho7; clear ha7 hb7 ho7))
            go_roundw
            case rel => exact ⟨i + 1, gs.length, s2, va2, vb3, by omega, by go_num, rfl, Nat.le_refl _, Ha7.out, Hb7.out, Hd.out, Hok2.out, Hh2.out, ((Hor.out.trans' Ho.out (fun i hi hs => by omega)).trans' Ho6.out (fun i hi hs => by have := (Ha.out.own i hs).1; omega)).trans' Ho7.out (fun i hi hs => by have := (Hb6.out.own i hs).1; omega)⟩
            case measure => simp [intOf]; omega
    · obtain rfl : i = ms.length := by omega
      have d1 : decide ((ms.length : Int) < (ms.length : Int)) = false := by simp
      clear hil
      go_wp2_with fail
      go_ret
      exact ⟨rfl, Hor.out⟩
end Go.Proofs.YtcdfeaodfmfdnaaGreatDoor
