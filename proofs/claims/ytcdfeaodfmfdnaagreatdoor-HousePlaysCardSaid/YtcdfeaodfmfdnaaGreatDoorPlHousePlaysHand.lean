/- gamelaw.HousePlays answers true and leaves what was there as it was, for all rules, every time and every list of messages, where the three tables of the library that the row lists hold what the library lays in them (tied to its text). -/
import Derived.Test.YtcdfeaodfmfdnaaGreatDoorPlTk
import Derived.Test.YtcdfeaodfmfdnaaGreatDoorPlHoM2
import Derived.Test.YtcdfeaodfmfdnaaGreatDoorPlHrTake
import Derived.Test.YtcdfeaodfmfdnaaGreatDoorPlRuRules2
import Derived.Test.YtcdfeaodfmfdnaaGreatDoorRows
import Derived.ProofKit
import Derived.LaidMore
import Derived.OpenShut
import Derived.Stop.Joined
import Derived.HandedShaped
import Derived.Lay
import Derived.SevenTiedAt
import Derived.Handed
import Derived.Test.YtcdfeaodfmfdnaaGreatDoorPlHoTk3
import Derived.LaidSub
import Derived.Lib.LaidTab
import Derived.LaidLaws
import Derived.Test.YtcdfeaodfmfdnaaGreatDoorPlOpenM
import Derived.Test.YtcdfeaodfmfdnaaGreatDoorPlRuChkM
import Derived.ChangeArms
import Derived.Below
import Derived.ChangeSame
import Derived.WalkKit
import Derived.Test.YtcdfeaodfmfdnaaGreatDoorCards
import Derived.Test.YtcdfeaodfmfdnaaGreatDoorTie
import Derived.ChangeMaps5
namespace Go.Proofs.YtcdfeaodfmfdnaaGreatDoor
open Go.RowKit

theorem hown_ne {W : World} {v v' : Value} {g : Nat} (hl : v'.ownBlock = v.ownBlock ∨ ∃ b, v'.ownBlock = some b ∧ W.heap.size ≤ b) (hn : ∀ k, v.ownBlock = some k → k ≠ g) (hg : g < W.heap.size) : ∀ k, v'.ownBlock = some k → k ≠ g := fun k hk => by
 rcases hl with h | ⟨b, h, hb⟩
 ·
  rw [h] at hk; exact hn k hk
 ·
  rw [h] at hk; injection hk with hk; omega
set_option maxHeartbeats 8000000 in
set_option maxRecDepth 100000 in
theorem plays_no (r : RulesD) (A : Option Addr) (cp : Nat) (t : Int) (Al : Option Addr) (cl : Nat) (ms : List MsgD) (W : World) (hf : RFit r) (hP : PiecesAt W W.heap.size A r.pieces) (hno : ¬ (RulesOk r ∧ 1 ≤ t ∧ t ≤ 1000000)) :
  Calls Tryz.prog 5 #[.agg #[.int .i64 r.start.w, .int .i64 r.start.h, .string r.start.cells, .int .i64 r.start.turn, .string r.start.h0, .string r.start.h1, .slice A r.pieces.length cp, .bool r.drops, .int .u8 (r.lose : Int), .int .i64 r.line, .int .u8 (r.reach : Int), .bool r.stuck, .int .i64 r.plies], .int .i64 t, .slice Al ms.length cl] W fun e w' => e = .returned (.bool true) ∧ Only (fun _ => False) W w' := by
 have HP := hide (show ∀ w', Only (fun _ => False) W w' → PiecesAt w' w'.heap.size A r.pieces from fun w' ho => (hP.below (ho.below_ (fun _ h => h.elim) (Nat.le_refl _))).more ho.size)
 have hbig2 : True := trivial
 have Hb0 := hide (Blk.new W 27 #[.int .i64 r.start.w, .int .i64 r.start.h, .string r.start.cells, .int .i64 r.start.turn, .string r.start.h0, .string r.start.h1, .slice A r.pieces.length cp, .bool r.drops, .int .u8 (r.lose : Int), .int .i64 r.line, .int .u8 (r.reach : Int), .bool r.stuck, .int .i64 r.plies])
 have Ho0 := hide (show Only (fun _ => False) W (W.alloc (.cells #[.int .i64 r.start.w, .int .i64 r.start.h, .string r.start.cells, .int .i64 r.start.turn, .string r.start.h0, .string r.start.h1, .slice A r.pieces.length cp, .bool r.drops, .int .u8 (r.lose : Int), .int .i64 r.line, .int .u8 (r.reach : Int), .bool r.stuck, .int .i64 r.plies] 27)) from (Only.refl _ W).alloc _)
 go_enter Tryz.func5, Tryz.ntmps5
 go_upto_region 1 with (fail)
 obtain ⟨w0, hw0⟩ : ∃ w0, W.alloc (.cells #[.int .i64 r.start.w, .int .i64 r.start.h, .string r.start.cells, .int .i64 r.start.turn, .string r.start.h0, .string r.start.h1, .slice A r.pieces.length cp, .bool r.drops, .int .u8 (r.lose : Int), .int .i64 r.line, .int .u8 (r.reach : Int), .bool r.stuck, .int .i64 r.plies] 27) = w0 := ⟨_, rfl⟩
 rw [hw0] at Hb0 Ho0 ⊢
 clear hw0
 obtain ⟨x0, x1, x2, x3, x4, x5, x6, x7, x8, x9, x10, x11, x12⟩ := Hb0.out.rules
 go_upto_region 2 with (go_at_call 21; refine (hnew_no r A cp t w0 hf (HP.out _ Ho0.out) hno).mono ?_; rintro e w2 ⟨rfl, hl2⟩)
 have Hb2 := hide (Hb0.out.only (later_only hl2) (fun h => h))
 have Ho2 := hide (Ho0.out.trans (later_only hl2))
 have HR := hide (rules_any r A cp w2 hf (HP.out _ Ho2.out))
 clear hl2 Hb0 Ho0 x0 x1 x2 x3 x4 x5 x6 x7 x8 x9 x10 x11 x12 hP HP hbig2
 obtain ⟨x0, x1, x2, x3, x4, x5, x6, x7, x8, x9, x10, x11, x12⟩ := Hb2.out.rules
 by_cases q : RulesOk r
 ·
  rw [rulesB_true.2 q] at HR
  by_cases q1 : t < 1
  ·
   have d1 : decide (t < 1) = true := by simpa using q1
   clear hno q q1
   go_wp2_with (go_at_call 13; refine HR.out.mono ?_; rintro e w3 ⟨rfl, hl3⟩)
   go_ret
   exact ⟨rfl, Ho2.out.trans (later_only hl3)⟩
  ·
   have d1 : decide (t < 1) = false := by simpa using q1
   have d2 : decide (t > 1000000) = true := by
    have : ¬ t ≤ 1000000 := fun h => hno ⟨q, by omega, h⟩
    simpa using this
   clear hno q q1
   go_wp2_with (go_at_call 13; refine HR.out.mono ?_; rintro e w3 ⟨rfl, hl3⟩)
   go_ret
   exact ⟨rfl, Ho2.out.trans (later_only hl3)⟩
 ·
  rw [show rulesB r = false from by cases hb : rulesB r with | false => rfl | true => exact absurd (rulesB_true.1 hb) q] at HR
  clear hno q
  go_wp2_with (go_at_call 13; refine HR.out.mono ?_; rintro e w3 ⟨rfl, hl3⟩)
  go_ret
  exact ⟨rfl, Ho2.out.trans (later_only hl3)⟩
set_option maxHeartbeats 32000000 in
set_option maxRecDepth 100000 in
theorem plays_ok (r : RulesD) (A : Option Addr) (cp : Nat) (t : Int) (Al : Option Addr) (cl : Nat) (ms : List MsgD) (W : World) (hf : RFit r) (he : EnvH W) (hP : PiecesAt W W.heap.size A r.pieces) (hms : Cells W W.heap.size Al (cellsG ms)) (hml : ms.length ≤ 9223372036854775807) (hmr : ∀ m ∈ ms, -9223372036854775808 ≤ m.at_ ∧ m.at_ ≤ 9223372036854775807) (hok : RulesOk r) (t1 : 1 ≤ t) (t2 : t ≤ 1000000) :
  Calls Tryz.prog 5 #[.agg #[.int .i64 r.start.w, .int .i64 r.start.h, .string r.start.cells, .int .i64 r.start.turn, .string r.start.h0, .string r.start.h1, .slice A r.pieces.length cp, .bool r.drops, .int .u8 (r.lose : Int), .int .i64 r.line, .int .u8 (r.reach : Int), .bool r.stuck, .int .i64 r.plies], .int .i64 t, .slice Al ms.length cl] W fun e w' => e = .returned (.bool true) ∧ Only (fun _ => False) W w' := by
 have HEn := hide (fun w (ho : Only (fun x => W.heap.size ≤ x) W w) => he.step ho (fun i hi => by have := he.big; have h5 : 5 = 5 := rfl; omega))
 have HP := hide (show ∀ w', Only (fun _ => False) W w' → PiecesAt w' w'.heap.size A r.pieces from fun w' ho => (hP.below (ho.below_ (fun _ h => h.elim) (Nat.le_refl _))).more ho.size)
 have hbig := he.big
 have Hb0 := hide (Blk.new W 27 #[.int .i64 r.start.w, .int .i64 r.start.h, .string r.start.cells, .int .i64 r.start.turn, .string r.start.h0, .string r.start.h1, .slice A r.pieces.length cp, .bool r.drops, .int .u8 (r.lose : Int), .int .i64 r.line, .int .u8 (r.reach : Int), .bool r.stuck, .int .i64 r.plies])
 have Ho0 := hide (show Only (fun _ => False) W (W.alloc (.cells #[.int .i64 r.start.w, .int .i64 r.start.h, .string r.start.cells, .int .i64 r.start.turn, .string r.start.h0, .string r.start.h1, .slice A r.pieces.length cp, .bool r.drops, .int .u8 (r.lose : Int), .int .i64 r.line, .int .u8 (r.reach : Int), .bool r.stuck, .int .i64 r.plies] 27)) from (Only.refl _ W).alloc _)
 go_enter Tryz.func5, Tryz.ntmps5
 go_upto_region 1 with (fail)
 obtain ⟨w0, hw0⟩ : ∃ w0, W.alloc (.cells #[.int .i64 r.start.w, .int .i64 r.start.h, .string r.start.cells, .int .i64 r.start.turn, .string r.start.h0, .string r.start.h1, .slice A r.pieces.length cp, .bool r.drops, .int .u8 (r.lose : Int), .int .i64 r.line, .int .u8 (r.reach : Int), .bool r.stuck, .int .i64 r.plies] 27) = w0 := ⟨_, rfl⟩
 rw [hw0] at Hb0 Ho0 ⊢
 clear hw0
 obtain ⟨x0, x1, x2, x3, x4, x5, x6, x7, x8, x9, x10, x11, x12⟩ := Hb0.out.rules
 have Hst := hide (start_ok hok t1 t2)
 have HPr := hide (show ∀ w, Only (fun x => W.heap.size ≤ x) W w → PAt w (fun x => x < W.heap.size) A r.pieces from fun w ho w' ho' => (hP.below ((ho.trans' ho' (fun i hi hn => by omega)).below_ (B := W.heap.size) (fun _ h => h) (Nat.le_refl _))).more (Nat.le_trans ho.size ho'.size))
 go_upto_region 2 with (go_at_call 21; refine (hnew_ok r A cp t w0 hf (HP.out _ Ho0.out) hok t1 t2).mono ?_; intro e w2 hn; obtain ⟨h1, rfl, hlt1, hat1, hl2, hs2⟩ := hn.at_)
 have Hb2 := hide (Hb0.out.only (later_only hl2) (fun h => h))
 have Ho2 := hide (Ho0.out.trans (later_only hl2))
 have HR := hide (rules_any r A cp w2 hf (HP.out _ Ho2.out))
 rw [rulesB_true.2 hok] at HR
 have hlt0 : W.heap.size < w0.heap.size := Hb0.out.lt
 clear hl2 Hb0 Ho0 x0 x1 x2 x3 x4 x5 x6 x7 x8 x9 x10 x11 x12 hP HP he
 obtain ⟨x0, x1, x2, x3, x4, x5, x6, x7, x8, x9, x10, x11, x12⟩ := Hb2.out.rules
 have d1 : decide (t < 1) = false := by simp; omega
 have d2 : decide (t > 1000000) = false := by simp; omega
 go_upto_region 4 with (go_at_call 13; refine HR.out.mono ?_; rintro e w3 ⟨rfl, hl3⟩)
 have Hb3 := hide (Hb2.out.only (later_only hl3) (fun h => h))
 have Ho3 := hide (Ho2.out.trans (later_only hl3))
 obtain ⟨lo1, hlo1e⟩ : ∃ lo1, w0.heap.size + 1 = lo1 := ⟨_, rfl⟩
 have Ha3 := hide ((hat1 (h1 + 1) (by omega)).only (later_only hl3) (fun _ h => h.elim) (by omega) (fun _ _ h => h))
 rw [hlo1e] at Ha3
 have hlo1 : lo1 ≤ h1 := by omega
 have hWl : W.heap.size < lo1 := by omega
 have Hsv0 := hide (show Calls Tryz.prog 22 #[.pointer (some ⟨h1, 0, none⟩)] w3 fun e w' => e = .returned (.string ⟨#[]⟩) ∧ HoAt w' lo1 h1 (h1 + 1) (startP r t) (.slice none 0 0) ∧ Only (fun _ => False) w3 w' from (hsave_at Ha3.out (by omega)).mono fun e w' hx => ⟨hx.1, hx.2.1, hx.2.2.mono (fun k _ hk => by cases hk)⟩)
 have hh3 : h1 < w3.heap.size := by have := hl3.size; omega
 clear hl3 Hb2 Ho2 x0 x1 x2 x3 x4 x5 x6 x7 x8 x9 x10 x11 x12 hat1 hs2 HR d1 d2 hlt1 hlo1e hlt0
 obtain ⟨x0, x1, x2, x3, x4, x5, x6, x7, x8, x9, x10, x11, x12⟩ := Hb3.out.rules
 go_upto_region 6 with (go_at_call 22; refine Hsv0.out.mono ?_; rintro e w4 ⟨rfl, ha4, ho4⟩)
 have Ha4 := hide ha4
 have Hb4 := hide (Hb3.out.only ho4 (fun h => h))
 have Ho4 := hide (Ho3.out.trans ho4)
 have hh4 : h1 < w4.heap.size := Nat.lt_of_lt_of_le hh3 ho4.size
 clear ha4 ho4 Hb3 Ho3 Ha3 Hsv0 x0 x1 x2 x3 x4 x5 x6 x7 x8 x9 x10 x11 x12 hh3
 obtain ⟨x0, x1, x2, x3, x4, x5, x6, x7, x8, x9, x10, x11, x12⟩ := Hb4.out.rules
 go_upto_region 7 with (fail)
 obtain ⟨w5, hw5⟩ : ∃ w5, w4.alloc (.cells #[.int .i64 r.start.w, .int .i64 r.start.h, .string r.start.cells, .int .i64 r.start.turn, .string r.start.h0, .string r.start.h1, .slice A r.pieces.length cp, .bool r.drops, .int .u8 (r.lose : Int), .int .i64 r.line, .int .u8 (r.reach : Int), .bool r.stuck, .int .i64 r.plies, .int .i64 r.start.w, .int .i64 r.start.h, .string r.start.cells, .int .i64 r.start.turn, .string r.start.h0, .string r.start.h1, .int .i64 0, .int .i64 t, .int .i64 t, .int .i64 0, .int .i64 0, .string ⟨#[]⟩] 57) = w5 := ⟨_, rfl⟩
 have hal : Only (fun _ => False) w4 w5 := by rw [← hw5]; exact (Only.refl _ w4).alloc _
 obtain ⟨g, hge⟩ : ∃ g, w4.heap.size = g := ⟨_, rfl⟩
 obtain ⟨BB, hBBe⟩ : ∃ BB, h1 + 1 = BB := ⟨_, rfl⟩
 have Hg5 := hide (show Blk w5 g 57 (rhC (startP r t) A cp) from by rw [← hw5, ← hge]; exact Blk.new w4 _ _)
 have Ho5 := hide (show Only (fun x => W.heap.size ≤ x) W w5 from (Ho4.out.trans hal).mono (fun _ _ h => h.elim))
 have Ha5 := hide (Ha4.out.only hal (fun _ h => h.elim) hlo1 (fun _ _ h => h))
 rw [hBBe] at Ha5
 rw [hw5, hge]
 have h1g : h1 < g := by omega
 have hgB : h1 < BB := by omega
 have hBg : BB ≤ h1 + 1 := by omega
 clear hw5 hal hge hBBe Ha4 Hb4 Ho4 x0 x1 x2 x3 x4 x5 x6 x7 x8 x9 x10 x11 x12 hh4
 go_wp2_with fail
 go_loopw [55] (fun iv wr => ∃ (i : Nat) (s : HoD) (va : Value), i ≤ ms.length ∧ iv = .int .i64 (i : Int) ∧ HoAt wr lo1 h1 BB s va ∧ Blk wr g 57 (rhC s A cp) ∧ HoOk s ∧ s.r = r ∧ Only (fun x => W.heap.size ≤ x) W wr ∧ (∀ k, va.ownBlock = some k → k ≠ g)) (fun iv _ => ms.length - (intOf iv).toNat)
 case atStart => exact ⟨0, startP r t, .slice none 0 0, by omega, rfl, Ha5.out, Hg5.out, Hst.out, rfl, Ho5.out, fun k hk => by cases hk⟩
 case round =>
  rename World => wr
  obtain ⟨i, s, va, hi, rfl, ha, hg, hos, hsr, ho, hn⟩ := hrel
  have Hn := hide hn
  have Ha := hide ha
  have Hg := hide hg
  have Hos := hide hos
  have Hsr := hide hsr
  have Hor := hide ho
  have hBr : BB ≤ wr.heap.size := by have := hg.lt; omega
  clear ha hg hos hsr ho hn Ha5 Hg5 Ho5
  by_cases hil : i = ms.length
  ·
   subst hil
   have d1 : decide ((ms.length : Int) < (ms.length : Int)) = false := by simp
   go_wp2_with fail
   go_ret
   exact ⟨rfl, Hor.out.mono (fun k hk h => by omega)⟩
  ·
   replace hil : i < ms.length := by omega
   have d1 : decide ((i : Int) < (ms.length : Int)) = true := by simp; omega
   have i0 : (0 : Int) ≤ (i : Int) := by omega
   have i1 : (i : Int) < (ms.length : Int) := by omega
   obtain ⟨bm, om, hAl, hbm, y0, y1, y2, y3⟩ := msg_at (hms.below (Hor.out.below_ (B := W.heap.size) (fun _ h => h) (Nat.le_refl _))) hil
   obtain ⟨m, hm⟩ : ∃ m, ms[i] = m := ⟨_, rfl⟩
   have hmb := hmr m (by rw [← hm]; exact List.getElem_mem hil)
   have Hcm := hide (msg_at hms hil)
   rw [hm] at y0 y1 y2 y3
   obtain ⟨s2, hs2⟩ : ∃ s2, (takeP s m).1 = s2 := ⟨_, rfl⟩
   obtain ⟨rk, hrk⟩ : ∃ rk, (takeP s m).2 = rk := ⟨_, rfl⟩
   obtain ⟨rp, hrp⟩ : ∃ rp, s2.ply = rp := ⟨_, rfl⟩
   obtain ⟨ro, hro⟩ : ∃ ro, outP s2 = ro := ⟨_, rfl⟩
   obtain ⟨rt, hrt⟩ : ∃ rt, bytes (textL s2.p) = rt := ⟨_, rfl⟩
   have hrv : repV (takeP s m) = #[.int .i64 rk, .int .i64 rp, .int .i64 ro, .string rt] := by unfold repV; rw [hs2, hrk, hrp, hro, hrt]
   have Hta := hide (fun (w : World) (v : Value) (ha : HoAt w lo1 h1 BB s v) (hB : BB ≤ w.heap.size) (he : EnvH w) => htake_any lo1 h1 BB s v m w ha Hos.out (by omega) hB (by omega) he hmb.1 hmb.2)
   have Htb := hide (fun (w : World) (hg : Blk w g 57 (rhC s A cp)) (hp : PAt w (fun x => x < W.heap.size) A r.pieces) (he : EnvH w) => rtake_any g s A cp (fun x => x < W.heap.size) m w hg Hos.out (by rw [Hsr.out]; exact hp) (by omega) hmb.1 hmb.2 (by omega) he)
   rw [hrv, hs2] at Hta Htb
   have Hok2 := hide (show HoOk s2 from by rw [← hs2]; exact take_ok Hos.out hmb.2)
   have Hsr2 := hide (show s2.r = r from by rw [← hs2, take_r, Hsr.out])
   obtain ⟨ls, hls⟩ : ∃ ls, bytes s2.lines = ls := ⟨_, rfl⟩
   have Hsv := hide (fun (w : World) (va2 : Value) (ha : HoAt w lo1 h1 BB s2 va2) => hsave_at ha (by omega))
   rw [hls] at Hsv
   have Hls := hide hls
   have HS11 := hide (show ∀ w' : World, Only (fun x => W.heap.size ≤ x) W w' → (w'.cell? ⟨bm, om + i * 4, none⟩ = some (.int .i64 m.seat) ∧ w'.cell? ⟨bm, om + i * 4 + 1, none⟩ = some (.int .i64 m.ply) ∧ w'.cell? ⟨bm, om + i * 4 + 2, none⟩ = some (.string m.mv) ∧ w'.cell? ⟨bm, om + i * 4 + 3, none⟩ = some (.int .i64 m.at_)) from fun w' ho => by
    obtain ⟨b', o', e', _, z⟩ := msg_at (hms.below (ho.below_ (B := W.heap.size) (fun _ h => h) (Nat.le_refl _))) hil
    rw [hAl] at e'
    injection e' with e'
    injection e' with e1 e2
    subst e1
    subst e2
    rw [hm] at z
    exact z)
   subst hAl
   have hne : ∀ w, (binOp .neq 59 (.agg #[.int .i64 rk, .int .i64 rp, .int .i64 ro, .string rt]) (.agg #[.int .i64 rk, .int .i64 rp, .int .i64 ro, .string rt])).run Tryz.prog w = .ok (.bool false) w := fun w => neqR rk rp ro rt w
   have hgd := fun op a b w => gdR op a b rk rp ro rk rp ro rt rt w
   have tb : (ls.toList == ls.toList) = true := by simp
   clear hm hrv hs2 hrk hrp hro hrt hls y0 y1 y2 y3 Hcm
   go_upto_region 10 with (fail)
   refine wp_region_held_drew (S := fun w' : World => (w'.cell? ⟨bm, om + i * 4, none⟩ = some (.int .i64 m.seat) ∧ w'.cell? ⟨bm, om + i * 4 + 1, none⟩ = some (.int .i64 m.ply) ∧ w'.cell? ⟨bm, om + i * 4 + 2, none⟩ = some (.string m.mv) ∧ w'.cell? ⟨bm, om + i * 4 + 3, none⟩ = some (.int .i64 m.at_))) (by kernel_rfl) (HS11.out _ Hor.out.drew) (fun hHeld => ?_)
   have hdr : Only (fun _ => False) wr wr.drew := (Only.refl _ wr).drew
   have Xa20 := hide (Ha.out.only hdr (fun _ h => h.elim) hlo1 (fun _ _ h => h))
   have Xg20 := hide (Hg.out.only hdr (fun h => h))
   have Xo20 := hide (Hor.out.trans' hdr (fun _ _ h => h.elim))
   have Xs20 := hide (show BB ≤ wr.drew.heap.size from hBr)
   have Xn20 := Hn
   obtain ⟨w20, hw⟩ : ∃ w20, wr.drew = w20 := ⟨_, rfl⟩
   rw [hw] at hHeld Xa20 Xg20 Xo20 Xs20 ⊢
   clear hw hdr
   refine tk 0 (some 58) (v := ?_) ?_ ?_; rotate_left 1; (intro w hSw; (try dsimp only at hSw); go_simp <;> with_reducible rfl); try simp only [Act.put, List.setIfInBounds_toArray, List.set_cons_zero, List.set_cons_succ]
   refine tk 1 (some 59) (v := ?_) ?_ ?_; rotate_left 1; (intro w hSw; (try dsimp only at hSw); go_simp <;> with_reducible rfl); try simp only [Act.put, List.setIfInBounds_toArray, List.set_cons_zero, List.set_cons_succ]
   refine tk 2 (some 60) (v := ?_) ?_ ?_; rotate_left 1; (intro w hSw; (try dsimp only at hSw); go_simp <;> with_reducible rfl); try simp only [Act.put, List.setIfInBounds_toArray, List.set_cons_zero, List.set_cons_succ]
   refine tk 3 (some 61) (v := ?_) ?_ ?_; rotate_left 1; (intro w hSw; (try dsimp only at hSw); go_simp <;> with_reducible rfl); try simp only [Act.put, List.setIfInBounds_toArray, List.set_cons_zero, List.set_cons_succ]
   refine tk 4 (some 62) (v := ?_) ?_ ?_; rotate_left 1; (intro w hSw; (try dsimp only at hSw); go_simp <;> with_reducible rfl); try simp only [Act.put, List.setIfInBounds_toArray, List.set_cons_zero, List.set_cons_succ]
   refine tk 6 (some 64) (v := ?_) ?_ ?_; rotate_left 1; (intro w hSw; (try dsimp only at hSw); go_simp <;> with_reducible rfl); try simp only [Act.put, List.setIfInBounds_toArray, List.set_cons_zero, List.set_cons_succ]
   refine tk 7 (some 65) (v := ?_) ?_ ?_; rotate_left 1; (intro w hSw; (try dsimp only at hSw); go_simp <;> with_reducible rfl); try simp only [Act.put, List.setIfInBounds_toArray, List.set_cons_zero, List.set_cons_succ]
   refine tk 8 (some 66) (v := ?_) ?_ ?_; rotate_left 1; (intro w hSw; (try dsimp only at hSw); go_simp <;> with_reducible rfl); try simp only [Act.put, List.setIfInBounds_toArray, List.set_cons_zero, List.set_cons_succ]
   refine tk 9 (some 67) (v := ?_) ?_ ?_; rotate_left 1; (intro w hSw; (try dsimp only at hSw); go_simp <;> with_reducible rfl); try simp only [Act.put, List.setIfInBounds_toArray, List.set_cons_zero, List.set_cons_succ]
   refine tk 10 (some 68) (v := ?_) ?_ ?_; rotate_left 1; (intro w hSw; (try dsimp only at hSw); go_simp <;> with_reducible rfl); try simp only [Act.put, List.setIfInBounds_toArray, List.set_cons_zero, List.set_cons_succ]
   refine wpAnyH_ready (rs := [5]) (by kernel_rfl) (by simp) ?_
   refine AllReadyH.cons (o := ⟨some 63, _, _, _, _, _⟩) rfl (fun K hK => ?_) ?_
   ·
    clear hHeld
    go_simp
    go_at_call 23
    refine (Hta.out _ _ Xa20.out Xs20.out (HEn.out _ Xo20.out)).mono ?_
    rintro e w21 ⟨rfl, va2, hat, hlie, ho⟩
    have Xa21 := hide hat
    have Xg21 := hide (Xg20.out.only ho (fun h => h.elim (fun h => by omega) (fun h => Xn20.out _ h rfl)))
    have Xn21 := hide (hown_ne hlie Xn20.out Xg20.out.lt)
    have Xo21 := hide (Xo20.out.trans' ho (fun i hi hs => hs.elim (fun hs => by omega) (fun hs => by have := (Xa20.out.own i hs).1; omega)))
    have Xs21 := hide (Nat.le_trans Xs20.out ho.size)
    clear hat hlie ho
    try go_wp2_with fail
    refine hK.out _ _ (HS11.out _ Xo21.out) (fun hHeld => ?_)
    clear hK K
    try simp only [Act.put, List.setIfInBounds_toArray, List.set_cons_zero, List.set_cons_succ]
    refine wpAnyH_ready (rs := [11]) (by kernel_rfl) (by simp) ?_
    refine AllReadyH.cons (o := ⟨some 69, _, _, _, _, _⟩) rfl (fun K hK => ?_) ?_
    ·
     clear hHeld
     go_simp
     go_at_call 24
     refine (Htb.out _ Xg21.out (HPr.out _ Xo21.out) (HEn.out _ Xo21.out)).mono ?_
     rintro e w22 ⟨rfl, hgt, ho⟩
     have Xg22 := hide hgt
     have Xa22 := hide (Xa21.out.only ho (fun k hk hq => by omega) hlo1 (fun k hk hq => Xn21.out k hk hq))
     have Xn22 := Xn21
     have Xo22 := hide (Xo21.out.trans' ho (fun i hi hs => by omega))
     have Xs22 := hide (Nat.le_trans Xs21.out ho.size)
     clear hgt ho
     try go_wp2_with fail
     refine hK.out _ _ (HS11.out _ Xo22.out) (fun hHeld => ?_)
     clear hK K
     try simp only [Act.put, List.setIfInBounds_toArray, List.set_cons_zero, List.set_cons_succ]
     refine tk 12 (some 70) (v := ?_) ?_ ?_; rotate_left 1; (intro w hSw; (try dsimp only at hSw); go_simp <;> with_reducible rfl); try simp only [Act.put, List.setIfInBounds_toArray, List.set_cons_zero, List.set_cons_succ]
     refine tk 13 (some 71) (v := ?_) ?_ ?_; rotate_left 1; (intro w hSw; (try dsimp only at hSw); go_simp <;> with_reducible rfl); try simp only [Act.put, List.setIfInBounds_toArray, List.set_cons_zero, List.set_cons_succ]
     refine tk 14 (some 72) (v := ?_) ?_ ?_; rotate_left 1; (intro w hSw; (try dsimp only at hSw); go_simp <;> with_reducible rfl); try simp only [Act.put, List.setIfInBounds_toArray, List.set_cons_zero, List.set_cons_succ]
     refine tk 16 (some 74) (v := ?_) ?_ ?_; rotate_left 1; (intro w hSw; (try dsimp only at hSw); go_simp <;> with_reducible rfl); try simp only [Act.put, List.setIfInBounds_toArray, List.set_cons_zero, List.set_cons_succ]
     refine tk 17 (some 75) (v := ?_) ?_ ?_; rotate_left 1; (intro w hSw; (try dsimp only at hSw); go_simp <;> with_reducible rfl); try simp only [Act.put, List.setIfInBounds_toArray, List.set_cons_zero, List.set_cons_succ]
     refine tk 18 (some 76) (v := ?_) ?_ ?_; rotate_left 1; (intro w hSw; (try dsimp only at hSw); go_simp <;> with_reducible rfl); try simp only [Act.put, List.setIfInBounds_toArray, List.set_cons_zero, List.set_cons_succ]
     refine wpAnyH_ready (rs := [15, 19]) (by kernel_rfl) (by simp) ?_
     refine AllReadyH.cons (o := ⟨some 73, _, _, _, _, _⟩) rfl (fun K hK => ?_) ?_
     ·
      clear hHeld
      go_simp
      go_at_call 22
      refine (Hsv.out _ _ Xa22.out).mono ?_
      rintro e w23 ⟨rfl, hat, ho⟩
      have Xa23 := hide hat
      have Xg23 := hide (Xg22.out.only ho (fun h => Xn22.out _ h rfl))
      have Xn23 := Xn22
      have Xo23 := hide (Xo22.out.trans' ho (fun i hi hs => by have := (Xa22.out.own i hs).1; omega))
      have Xs23 := hide (Nat.le_trans Xs22.out ho.size)
      clear hat ho
      try go_wp2_with fail
      refine hK.out _ _ (HS11.out _ Xo23.out) (fun hHeld => ?_)
      clear hK K
      try simp only [Act.put, List.setIfInBounds_toArray, List.set_cons_zero, List.set_cons_succ]
      refine wpAnyH_ready (rs := [19]) (by kernel_rfl) (by simp) ?_
      refine AllReadyH.cons (o := ⟨some 77, _, _, _, _, _⟩) rfl (fun K hK => ?_) ?_
      ·
       clear hHeld
       obtain ⟨-, -, -, -, -, z5⟩ := rh_rest Xg23.out
       rw [Hls.out] at z5
       go_simp
       clear z5
       have Xa24 := Xa23
       have Xg24 := Xg23
       have Xn24 := Xn23
       have Xo24 := Xo23
       have Xs24 := Xs23
       refine hK.out _ _ (HS11.out _ Xo24.out) (fun hHeld => ?_)
       clear hK K
       try simp only [Act.put, List.setIfInBounds_toArray, List.set_cons_zero, List.set_cons_succ]
       refine tk 20 (some 78) (v := ?_) ?_ ?_; rotate_left 1; (intro w hSw; (try dsimp only at hSw); go_simp <;> with_reducible rfl); try simp only [Act.put, List.setIfInBounds_toArray, List.set_cons_zero, List.set_cons_succ]
       refine tk 21 (some 79) (v := ?_) ?_ ?_; rotate_left 1; (intro w hSw; (try dsimp only at hSw); go_simp <;> with_reducible rfl); try simp only [Act.put, List.setIfInBounds_toArray, List.set_cons_zero, List.set_cons_succ]
       refine wpAnyH_done (by kernel_rfl) ?_ _
       go_wp2_with fail
       go_roundw
       case rel => exact ⟨i + 1, s2, va2, by omega, by go_num, Xa24.out, Xg24.out, Hok2.out, Hsr2.out, Xo24.out, Xn24.out⟩
       case measure => simp [intOf]; omega
      exact AllReadyH.nil
     refine AllReadyH.cons (o := ⟨some 77, _, _, _, _, _⟩) rfl (fun K hK => ?_) ?_
     ·
      clear hHeld
      obtain ⟨-, -, -, -, -, z5⟩ := rh_rest Xg22.out
      rw [Hls.out] at z5
      go_simp
      clear z5
      have Xa25 := Xa22
      have Xg25 := Xg22
      have Xn25 := Xn22
      have Xo25 := Xo22
      have Xs25 := Xs22
      refine hK.out _ _ (HS11.out _ Xo25.out) (fun hHeld => ?_)
      clear hK K
      try simp only [Act.put, List.setIfInBounds_toArray, List.set_cons_zero, List.set_cons_succ]
      refine wpAnyH_ready (rs := [15]) (by kernel_rfl) (by simp) ?_
      refine AllReadyH.cons (o := ⟨some 73, _, _, _, _, _⟩) rfl (fun K hK => ?_) ?_
      ·
       clear hHeld
       go_simp
       go_at_call 22
       refine (Hsv.out _ _ Xa25.out).mono ?_
       rintro e w26 ⟨rfl, hat, ho⟩
       have Xa26 := hide hat
       have Xg26 := hide (Xg25.out.only ho (fun h => Xn25.out _ h rfl))
       have Xn26 := Xn25
       have Xo26 := hide (Xo25.out.trans' ho (fun i hi hs => by have := (Xa25.out.own i hs).1; omega))
       have Xs26 := hide (Nat.le_trans Xs25.out ho.size)
       clear hat ho
       try go_wp2_with fail
       refine hK.out _ _ (HS11.out _ Xo26.out) (fun hHeld => ?_)
       clear hK K
       try simp only [Act.put, List.setIfInBounds_toArray, List.set_cons_zero, List.set_cons_succ]
       refine tk 20 (some 78) (v := ?_) ?_ ?_; rotate_left 1; (intro w hSw; (try dsimp only at hSw); go_simp <;> with_reducible rfl); try simp only [Act.put, List.setIfInBounds_toArray, List.set_cons_zero, List.set_cons_succ]
       refine tk 21 (some 79) (v := ?_) ?_ ?_; rotate_left 1; (intro w hSw; (try dsimp only at hSw); go_simp <;> with_reducible rfl); try simp only [Act.put, List.setIfInBounds_toArray, List.set_cons_zero, List.set_cons_succ]
       refine wpAnyH_done (by kernel_rfl) ?_ _
       go_wp2_with fail
       go_roundw
       case rel => exact ⟨i + 1, s2, va2, by omega, by go_num, Xa26.out, Xg26.out, Hok2.out, Hsr2.out, Xo26.out, Xn26.out⟩
       case measure => simp [intOf]; omega
      exact AllReadyH.nil
     exact AllReadyH.nil
    exact AllReadyH.nil
   exact AllReadyH.nil
theorem plays_any (r : RulesD) (A : Option Addr) (cp : Nat) (t : Int) (Al : Option Addr) (cl : Nat) (ms : List MsgD) (W : World) (hf : RFit r) (he : EnvH W) (hP : PiecesAt W W.heap.size A r.pieces) (hms : Cells W W.heap.size Al (cellsG ms)) (hml : ms.length ≤ 9223372036854775807) (hmr : ∀ m ∈ ms, -9223372036854775808 ≤ m.at_ ∧ m.at_ ≤ 9223372036854775807) :
  Calls Tryz.prog 5 #[.agg #[.int .i64 r.start.w, .int .i64 r.start.h, .string r.start.cells, .int .i64 r.start.turn, .string r.start.h0, .string r.start.h1, .slice A r.pieces.length cp, .bool r.drops, .int .u8 (r.lose : Int), .int .i64 r.line, .int .u8 (r.reach : Int), .bool r.stuck, .int .i64 r.plies], .int .i64 t, .slice Al ms.length cl] W fun e w' => e = .returned (.bool true) ∧ Only (fun _ => False) W w' := by
 by_cases h : RulesOk r ∧ 1 ≤ t ∧ t ≤ 1000000
 ·
  exact plays_ok r A cp t Al cl ms W hf he hP hms hml hmr h.1 h.2.1 h.2.2
 ·
  exact plays_no r A cp t Al cl ms W hf hP h
end Go.Proofs.YtcdfeaodfmfdnaaGreatDoor
namespace Go.Proofs.YtcdfeaodfmfdnaaGreatDoor
open Go.ChangeShapes Go.WideShapes Go.ChangeAt Go.WideMaps Go.WideElems Go.RowKit

theorem own_door : ownKnob Tryz.prog.godebug = none := by kernel_rfl
theorem handed_shaped {H : Type} {enc : TypeId × Value → H} {a : Assume} {C : Checked} {os : Os} {f : FuncId} {fn : Func} {s : ChangeSpec} {conds : List PathCond} {apart fresh handsOn again : Bool} {X : World → Array Value → Prop}
  (hX : ∀ (w w' : World) (args : Array Value), w.heap = w'.heap → X w args → X w' args)
  (own : ownKnob C.prog.godebug = none) (started : os.Started) (noInit : C.prog.inits.idxOf? f = none) (hfn : C.prog.funcs[f]? = some fn)
  (witness : ∃ (w : World) (tape : Tape) (i : Input), w.os = os ∧ (w.forCall tape i).Shaped C.prog ∧ i.vars = [] ∧ Input.okWide C.prog (w.forCall tape i) .any w.heap.size f i ∧
   ((s.pre enc C.prog fn conds apart (w.forCall tape i).memory i.args ∧ X (w.forCall tape i).memory i.args) ∧ sizedMet enc C.prog fn (OpenSpec.ofChange s) apart (w.forCall tape i).memory i.args) ∧ a.holds C.prog (lone (Frame.enter C.prog f i.args .normal) [] (w.forCall tape i)))
  (contract : ∀ (W : World) (base : Nat) (args : Array Value) (ds gs : List (DataW H)) (before : List MemPlace),
   (∀ (j : Nat) t v, fn.params[j]? = some t → args[j]? = some v → Value.okWide C.prog W .any base t v) →
   DataW.Whole enc C.prog fn.params.toList s.vars apart W args.toList ds gs before →
   (DataW.weightsEach C.prog (fn.params.toList ++ s.plain.varTypes C.prog) (ds ++ gs)).all (· ≤ reachBytes) = true → X W args → W.ShapedOpen C.prog →
   Calls C.prog f args W fun e W' => ∃ v, e = .returned v ∧ s.post enc C.prog fn apart fresh handsOn again W args v W') :
  ReturnsInHanded a C os f .any (fun w args => (s.pre enc C.prog fn conds apart w args ∧ X w args) ∧ sizedMet enc C.prog fn (OpenSpec.ofChange s) apart w args) (s.post enc C.prog fn apart fresh handsOn again) := by
 refine returnsInHanded_of_calls own started noInit witness ?_
 intro w tape i _ hsh _ hok hpre _
 obtain ⟨_, _, _, fn', hfn', _, _, _, _, hval⟩ := hok
 have e : fn' = fn := Option.some.inj (hfn'.symm.trans hfn)
 subst e
 obtain ⟨⟨⟨ds, gs, before, hw, _⟩, hx⟩, hz⟩ := hpre
 have hw' := DataW.Whole.of_heap (w' := w.forCall tape i) (by rfl) hw
 refine (contract (w.forCall tape i) w.heap.size i.args ds gs before hval hw' (hz.weights hw) (hX _ _ _ (by rfl) hx) hsh).mono fun e W' ⟨v, he, hp⟩ => ?_
 subst he
 exact ChangeSpec.post_blind hp
end Go.Proofs.YtcdfeaodfmfdnaaGreatDoor
namespace Go.Proofs.YtcdfeaodfmfdnaaGreatDoor
open Go.ChangeShapes Go.WideShapes Go.ChangeAt Go.RowKit

def laidH : List (String × DataW Unit) := [("math/bits.deBruijn32tab", Rows.laid_math_bits_deBruijn32tab), ("math/bits.deBruijn64tab", Rows.laid_math_bits_deBruijn64tab), ("internal/strconv.uint64pow10", Rows.laid_internal_strconv_uint64pow10)]
theorem doorh_met (os : Os) (args : Array Value) : laidMetH Tryz.prog laidH ((World.laidAll Tryz.prog os laidH).forCall (fun _ _ => 0) ⟨#[], args, []⟩).memory := by
 rw [MakeChecks.laidMetH_plain _ _ _ (by kernel_rfl)]
 exact laidMet_laidAll _ (by kernel_rfl) (by kernel_rfl)
theorem envh_laid {W : World} (h0 : laidMetH Tryz.prog laidH W) : EnvH W := by
 rw [MakeChecks.laidMetH_plain _ _ _ (by kernel_rfl)] at h0
 have ht := h0.filter (fun x => x.1 == "internal/strconv.uint64pow10")
 rw [show (laidH.filter fun x => x.1 == "internal/strconv.uint64pow10") = [("internal/strconv.uint64pow10", Rows.laid_internal_strconv_uint64pow10)] from by rfl] at ht
 exact ⟨Lib.tabIs_of_head (rest := []) (g := (Tryz.prog.globalNamed "internal/strconv.uint64pow10").getD 0) (by kernel_rfl) (by kernel_rfl) Tryz.underlying231 Tryz.underlying206 (by kernel_rfl) (by kernel_rfl) (show laidMet Tryz.prog [("internal/strconv.uint64pow10", Lib.tabData .u64 Lib.pow10Tab)] W from ht)⟩
end Go.Proofs.YtcdfeaodfmfdnaaGreatDoor
namespace Go.Proofs.YtcdfeaodfmfdnaaGreatDoor
open Go.RowKit Go.ChangeShapes Go.WideShapes Go.Deep Go.ChangeMaps

theorem each_of {α : Type} {P : Nat → α → Prop} : ∀ {n : Nat} (_ : ∀ i, i < n → ∃ x, P i x), ∃ xs : List α, xs.length = n ∧ ∀ i (hi : i < xs.length), P i xs[i]
 | 0, _ => ⟨[], rfl, fun i hi => absurd hi (by simp)⟩
 | n + 1, h => by
  obtain ⟨xs, hl, hx⟩ := each_of (n := n) (fun i hi => h i (by omega))
  obtain ⟨x, hp⟩ := h n (by omega)
  refine ⟨xs ++ [x], by simp [hl], fun i hi => ?_⟩
  by_cases hi' : i < xs.length
  ·
   rw [List.getElem_append_left hi']; exact hx i hi'
  ·
   have : i = n := by simp at hi; omega
   subst this
   rw [List.getElem_append_right (by omega)]
   simpa [hl] using hp
theorem flat_get {α : Type} (f : α → List Value) (k : Nat) (hf : ∀ x, (f x).length = k) : ∀ (xs : List α) (i j : Nat) (hi : i < xs.length), j < k → (xs.flatMap f)[i * k + j]? = (f xs[i])[j]?
 | [], i, _, hi, _ => absurd hi (by simp)
 | x :: xs, 0, j, _, hj => by
  rw [List.flatMap_cons, Nat.zero_mul, Nat.zero_add, List.getElem?_append_left (by rw [hf]; exact hj)]
  rfl
 | x :: xs, i + 1, j, hi, hj => by
  have e : (i + 1) * k + j = k + (i * k + j) := by rw [Nat.succ_mul]; omega
  rw [List.flatMap_cons, e, List.getElem?_append_right (by rw [hf]; omega), hf, Nat.add_sub_cancel_left, flat_get f k hf xs i j (by simpa using hi) hj]
  rfl
theorem flat_length {α : Type} (f : α → List Value) (k : Nat) (hf : ∀ x, (f x).length = k) : ∀ xs : List α, (xs.flatMap f).length = xs.length * k
 | [] => by simp
 | x :: xs => by rw [List.flatMap_cons, List.length_append, hf, flat_length f k hf xs, List.length_cons, Nat.succ_mul]; omega

section
variable {H : Type} {enc : TypeId × Value → H} {w : World} {base : Nat} {spare : Nat → Bool} {held : Bool}

theorem cells_rows {α : Type} (f : α → List Value) (k : Nat) (hk : 0 < k) (hf : ∀ x, (f x).length = k) (a : Addr) (xs : List α) (h : ∀ i (hi : i < xs.length), w.cells? base (a.add (i * k)) k = some (f xs[i])) :
  Cells w w.heap.size (some a) (xs.flatMap f) := by
 refine cells_of (fun j hj => ?_)
 rw [flat_length f k hf] at hj
 have hi : j / k < xs.length := (Nat.div_lt_iff_lt_mul hk).2 hj
 have hjk : j % k < k := Nat.mod_lt _ hk
 obtain ⟨_, _, h1⟩ := World.cells?_some (h _ hi)
 have h2 := h1 (j % k) hjk
 have hdm : j / k * k + j % k = j := by rw [Nat.mul_comm]; exact Nat.div_add_mod j k
 have ha : a = ⟨a.block, a.off, none⟩ := by
  obtain ⟨_, _, z1⟩ := World.cells?_some (h 0 (Nat.lt_of_le_of_lt (Nat.zero_le _) hi))
  have hz : 0 < (f (xs[0]'(Nat.lt_of_le_of_lt (Nat.zero_le _) hi))).length := by rw [hf]; exact hk
  have z2 := addr_of_cell ((z1 0 hk).trans (List.getElem?_eq_getElem hz))
  simpa [Addr.add] using z2
 have e0 : (a.add (j / k * k)).add (j % k) = a.add j := by
  rw [ha]
  simp only [Addr.add_lit]
  rw [Nat.add_assoc, hdm]
 rw [e0] at h2
 rw [h2, ← flat_get f k hf xs (j / k) (j % k) hi hjk, hdm, List.getElem?_eq_getElem (by rw [flat_length f k hf]; exact hj)]

def wayV (r : WayD) : List Value := [.int .i64 r.kind, .int .i64 r.x, .int .i64 r.y, .int .i64 r.take]
theorem wayV_flat (ws : List WayD) : ws.flatMap wayV = ints (flatW ws) := by
 induction ws with
 | nil => rfl
 | cons x ws ih => rw [List.flatMap_cons, ih]; simp [flatW, ints, wayV]
set_option maxRecDepth 100000 in
theorem trod_way {fuel : Nat} {cs : List Value} {x : DataW H × List MemPlace} (h : DataW.trod enc Tryz.prog w base spare held fuel 80 cs = some x) : ∃ r : WayD, cs = wayV r := by
 obtain ⟨xs, n, _, hx, hlen, hxl, hg⟩ := DataW.trod_struct Tryz.underlying80 h
 have c6 : Tryz.prog.cellsOf 80 = 4 := by kernel_rfl
 have ci : Tryz.prog.cellsOf 3 = 1 := by kernel_rfl
 rw [c6] at hlen
 match cs, hlen with
 | [e0, e1, e2, e3], _ =>
  match xs, hxl with
  | [y0, y1, y2, y3], _ =>
   have g0 : DataW.trod enc Tryz.prog w base spare held n 3 (([e0, e1, e2, e3].drop 0).take (Tryz.prog.cellsOf 3)) = [y0, y1, y2, y3][0]? := hg 0 _ rfl
   have g1 : DataW.trod enc Tryz.prog w base spare held n 3 (([e0, e1, e2, e3].drop 1).take (Tryz.prog.cellsOf 3)) = [y0, y1, y2, y3][1]? := hg 1 _ rfl
   have g2 : DataW.trod enc Tryz.prog w base spare held n 3 (([e0, e1, e2, e3].drop 2).take (Tryz.prog.cellsOf 3)) = [y0, y1, y2, y3][2]? := hg 2 _ rfl
   have g3 : DataW.trod enc Tryz.prog w base spare held n 3 (([e0, e1, e2, e3].drop 3).take (Tryz.prog.cellsOf 3)) = [y0, y1, y2, y3][3]? := hg 3 _ rfl
   simp only [ci, List.drop_zero, List.drop_succ_cons, List.take_succ_cons, List.take_zero, List.getElem?_cons_zero, List.getElem?_cons_succ] at g0 g1 g2 g3
   obtain ⟨a, ha, _, _⟩ := DataW.trod_int Tryz.underlying3 g0
   obtain ⟨b, hb, _, _⟩ := DataW.trod_int Tryz.underlying3 g1
   obtain ⟨c, hc, _, _⟩ := DataW.trod_int Tryz.underlying3 g2
   obtain ⟨d, hd, _, _⟩ := DataW.trod_int Tryz.underlying3 g3
   simp only [List.cons.injEq, and_true] at ha hb hc hd
   exact ⟨⟨a, b, c, d⟩, by rw [ha, hb, hc, hd]; rfl⟩
theorem trod_ways {fuel : Nat} {cs : List Value} {x : DataW H × List MemPlace} (h : DataW.trod enc Tryz.prog w base spare held fuel 75 cs = some x) :
  ∃ A c ws, cs = [.slice A ws.length c] ∧ ws.length ≤ c ∧ c ≤ maxLen ∧ WaysAt w w.heap.size A ws := by
 have c4 : Tryz.prog.cellsOf 80 = 4 := by kernel_rfl
 rcases DataW.trod_slice Tryz.underlying75 h with ⟨hcs, _⟩ | ⟨a, len, cap, elems, rest, n, _, hcs, _, _, hl, hm, he, hg, _⟩
 ·
  exact ⟨none, 0, [], hcs, by simp, by simp [maxLen], Cells.nil_⟩
 ·
  rw [c4] at hg
  have hall : ∀ i, i < len → ∃ r : WayD, w.cells? base (a.add (i * 4)) 4 = some (wayV r) := fun i hi => by
   have h1 := hg i hi
   rw [List.getElem?_eq_getElem (by omega)] at h1
   obtain ⟨cs, q1, q2⟩ := Option.bind_eq_some_iff.1 h1
   obtain ⟨r, rfl⟩ := trod_way q2
   exact ⟨r, q1⟩
  obtain ⟨ws, hlen, hws⟩ := each_of hall
  subst hlen
  refine ⟨some a, cap, ws, hcs, hl, hm, ?_⟩
  have := cells_rows wayV 4 (by decide) (fun _ => rfl) a ws hws
  rw [wayV_flat] at this
  exact this
/-- a piece, with where its ways lie -/
def pieceV (z : PieceD × (Option Addr × Nat)) : List Value := [.int .u8 z.1.letter, .int .i64 z.1.worth, .slice z.2.1 z.1.ways.length z.2.2]
theorem pieceV_flat : ∀ zs : List (PieceD × (Option Addr × Nat)), zs.flatMap pieceV = cellsP (zs.map (·.1)) (zs.map (·.2))
 | [] => rfl
 | z :: zs => by rw [List.flatMap_cons, pieceV_flat zs]; rfl
set_option maxRecDepth 100000 in
theorem trod_piece {fuel : Nat} {cs : List Value} {x : DataW H × List MemPlace} (h : DataW.trod enc Tryz.prog w base spare held fuel 77 cs = some x) :
  ∃ z : PieceD × (Option Addr × Nat), cs = pieceV z ∧ z.1.ways.length ≤ z.2.2 ∧ z.2.2 ≤ maxLen ∧ WaysAt w w.heap.size z.2.1 z.1.ways := by
 obtain ⟨xs, n, _, hx, hlen, hxl, hg⟩ := DataW.trod_struct Tryz.underlying77 h
 have c6 : Tryz.prog.cellsOf 77 = 3 := by kernel_rfl
 have ci : Tryz.prog.cellsOf 3 = 1 := by kernel_rfl
 have cu : Tryz.prog.cellsOf 5 = 1 := by kernel_rfl
 have cs1 : Tryz.prog.cellsOf 75 = 1 := by kernel_rfl
 rw [c6] at hlen
 match cs, hlen with
 | [e0, e1, e2], _ =>
  match xs, hxl with
  | [y0, y1, y2], _ =>
   have g0 : DataW.trod enc Tryz.prog w base spare held n 5 (([e0, e1, e2].drop 0).take (Tryz.prog.cellsOf 5)) = [y0, y1, y2][0]? := hg 0 _ rfl
   have g1 : DataW.trod enc Tryz.prog w base spare held n 3 (([e0, e1, e2].drop 1).take (Tryz.prog.cellsOf 3)) = [y0, y1, y2][1]? := hg 1 _ rfl
   have g2 : DataW.trod enc Tryz.prog w base spare held n 75 (([e0, e1, e2].drop 2).take (Tryz.prog.cellsOf 75)) = [y0, y1, y2][2]? := hg 2 _ rfl
   simp only [ci, cu, cs1, List.drop_zero, List.drop_succ_cons, List.take_succ_cons, List.take_zero, List.getElem?_cons_zero, List.getElem?_cons_succ] at g0 g1 g2
   obtain ⟨a, ha, _, wa⟩ := DataW.trod_int Tryz.underlying5 g0
   obtain ⟨b, hb, _, _⟩ := DataW.trod_int Tryz.underlying3 g1
   obtain ⟨A, c, ws, hc, hl, hm, hw⟩ := trod_ways g2
   simp only [List.cons.injEq, and_true] at ha hb hc
   have m1 : IntKind.u8.min = 0 := rfl
   have m2 : IntKind.u8.max = 255 := rfl
   simp [Lit.wf, m1, m2] at wa
   refine ⟨(⟨a.toNat, b, ws⟩, (A, c)), ?_, hl, hm, hw⟩
   rw [ha, hb, hc]
   simp only [pieceV]
   rw [show ((a.toNat : Nat) : Int) = a by omega]
theorem trod_pieces {fuel : Nat} {cs : List Value} {x : DataW H × List MemPlace} (h : DataW.trod enc Tryz.prog w base spare held fuel 25 cs = some x) :
  ∃ A c ps, cs = [.slice A ps.length c] ∧ ps.length ≤ maxLen ∧ (∀ k (h : k < ps.length), ps[k].ways.length ≤ maxLen) ∧ PiecesAt w w.heap.size A ps := by
 have c3 : Tryz.prog.cellsOf 77 = 3 := by kernel_rfl
 rcases DataW.trod_slice Tryz.underlying25 h with ⟨hcs, _⟩ | ⟨a, len, cap, elems, rest, n, _, hcs, _, _, hl, hm, he, hg, _⟩
 ·
  exact ⟨none, 0, [], hcs, by simp [maxLen], fun k h => by simp at h, [], rfl, Cells.nil_, fun k h => by simp at h⟩
 ·
  rw [c3] at hg
  have hall : ∀ i, i < len → ∃ z : PieceD × (Option Addr × Nat), w.cells? base (a.add (i * 3)) 3 = some (pieceV z) ∧ z.1.ways.length ≤ z.2.2 ∧ z.2.2 ≤ maxLen ∧ WaysAt w w.heap.size z.2.1 z.1.ways := fun i hi => by
   have h1 := hg i hi
   rw [List.getElem?_eq_getElem (by omega)] at h1
   obtain ⟨cs, q1, q2⟩ := Option.bind_eq_some_iff.1 h1
   obtain ⟨z, rfl, q3⟩ := trod_piece q2
   exact ⟨z, q1, q3⟩
  obtain ⟨zs, hlen, hzs⟩ := each_of hall
  subst hlen
  refine ⟨some a, cap, zs.map (·.1), by rw [List.length_map]; exact hcs, by rw [List.length_map]; omega, fun k hk => ?_, zs.map (·.2), by simp, ?_, fun k hk => ?_⟩
  ·
   rw [List.length_map] at hk
   rw [List.getElem_map]
   have := hzs k hk
   omega
  ·
   have := cells_rows pieceV 3 (by decide) (fun _ => rfl) a zs (fun i hi => (hzs i hi).1)
   rw [pieceV_flat] at this
   exact this
  ·
   rw [List.length_map] at hk
   rw [List.getElem_map, List.getElem_map]
   exact ⟨(hzs k hk).2.1, (hzs k hk).2.2.2⟩
set_option maxRecDepth 100000 in
theorem trod_rules {fuel : Nat} {cs : List Value} {x : DataW H × List MemPlace} (h : DataW.trod enc Tryz.prog w base spare held fuel 27 cs = some x) :
  ∃ (r : RulesD) (A : Option Addr) (cp : Nat), cs.toArray = #[.int .i64 r.start.w, .int .i64 r.start.h, .string r.start.cells, .int .i64 r.start.turn, .string r.start.h0, .string r.start.h1, .slice A r.pieces.length cp, .bool r.drops, .int .u8 r.lose, .int .i64 r.line, .int .u8 r.reach, .bool r.stuck, .int .i64 r.plies] ∧ RFit r ∧ PiecesAt w w.heap.size A r.pieces := by
 obtain ⟨xs, n, _, hx, hlen, hxl, hg⟩ := DataW.trod_struct Tryz.underlying27 h
 have c13 : Tryz.prog.cellsOf 27 = 13 := by kernel_rfl
 have c6 : Tryz.prog.cellsOf 24 = 6 := by kernel_rfl
 have ci : Tryz.prog.cellsOf 3 = 1 := by kernel_rfl
 have cu : Tryz.prog.cellsOf 5 = 1 := by kernel_rfl
 have cb : Tryz.prog.cellsOf 4 = 1 := by kernel_rfl
 have cs1 : Tryz.prog.cellsOf 25 = 1 := by kernel_rfl
 rw [c13] at hlen
 match cs, hlen with
 | [e0, e1, e2, e3, e4, e5, e6, e7, e8, e9, e10, e11, e12], _ =>
  match xs, hxl with
  | [y0, y1, y2, y3, y4, y5, y6, y7], _ =>
   have g0 : DataW.trod enc Tryz.prog w base spare held n 24 (([e0, e1, e2, e3, e4, e5, e6, e7, e8, e9, e10, e11, e12].drop 0).take (Tryz.prog.cellsOf 24)) = [y0, y1, y2, y3, y4, y5, y6, y7][0]? := hg 0 _ rfl
   have g1 : DataW.trod enc Tryz.prog w base spare held n 25 (([e0, e1, e2, e3, e4, e5, e6, e7, e8, e9, e10, e11, e12].drop 6).take (Tryz.prog.cellsOf 25)) = [y0, y1, y2, y3, y4, y5, y6, y7][1]? := hg 1 _ rfl
   have g2 : DataW.trod enc Tryz.prog w base spare held n 4 (([e0, e1, e2, e3, e4, e5, e6, e7, e8, e9, e10, e11, e12].drop 7).take (Tryz.prog.cellsOf 4)) = [y0, y1, y2, y3, y4, y5, y6, y7][2]? := hg 2 _ rfl
   have g3 : DataW.trod enc Tryz.prog w base spare held n 5 (([e0, e1, e2, e3, e4, e5, e6, e7, e8, e9, e10, e11, e12].drop 8).take (Tryz.prog.cellsOf 5)) = [y0, y1, y2, y3, y4, y5, y6, y7][3]? := hg 3 _ rfl
   have g4 : DataW.trod enc Tryz.prog w base spare held n 3 (([e0, e1, e2, e3, e4, e5, e6, e7, e8, e9, e10, e11, e12].drop 9).take (Tryz.prog.cellsOf 3)) = [y0, y1, y2, y3, y4, y5, y6, y7][4]? := hg 4 _ rfl
   have g5 : DataW.trod enc Tryz.prog w base spare held n 5 (([e0, e1, e2, e3, e4, e5, e6, e7, e8, e9, e10, e11, e12].drop 10).take (Tryz.prog.cellsOf 5)) = [y0, y1, y2, y3, y4, y5, y6, y7][5]? := hg 5 _ rfl
   have g6 : DataW.trod enc Tryz.prog w base spare held n 4 (([e0, e1, e2, e3, e4, e5, e6, e7, e8, e9, e10, e11, e12].drop 11).take (Tryz.prog.cellsOf 4)) = [y0, y1, y2, y3, y4, y5, y6, y7][6]? := hg 6 _ rfl
   have g7 : DataW.trod enc Tryz.prog w base spare held n 3 (([e0, e1, e2, e3, e4, e5, e6, e7, e8, e9, e10, e11, e12].drop 12).take (Tryz.prog.cellsOf 3)) = [y0, y1, y2, y3, y4, y5, y6, y7][7]? := hg 7 _ rfl
   simp only [c6, ci, cu, cb, cs1, List.drop_zero, List.drop_succ_cons, List.take_succ_cons, List.take_zero, List.getElem?_cons_zero, List.getElem?_cons_succ] at g0 g1 g2 g3 g4 g5 g6 g7
   obtain ⟨a, b, c, t, h0, h1, ha, _, hc, hh0, hh1, _⟩ := trod_pos g0
   obtain ⟨A, cp, ps, hp, hpl, hpw, hpa⟩ := trod_pieces g1
   obtain ⟨dr, hdr, _⟩ := DataW.trod_bool Tryz.underlying4 g2
   obtain ⟨lo, hlo, _, wlo⟩ := DataW.trod_int Tryz.underlying5 g3
   obtain ⟨li, hli, _, _⟩ := DataW.trod_int Tryz.underlying3 g4
   obtain ⟨re, hre, _, wre⟩ := DataW.trod_int Tryz.underlying5 g5
   obtain ⟨st, hst, _⟩ := DataW.trod_bool Tryz.underlying4 g6
   obtain ⟨pl, hpl2, _, _⟩ := DataW.trod_int Tryz.underlying3 g7
   simp only [List.cons.injEq, and_true] at ha hp hdr hlo hli hre hst hpl2
   obtain ⟨a0, a1, a2, a3, a4, a5⟩ := ha
   have m1 : IntKind.u8.min = 0 := rfl
   have m2 : IntKind.u8.max = 255 := rfl
   simp [Lit.wf, m1, m2] at wlo wre
   have m3 : maxLen = 9223372036854775807 := rfl
   refine ⟨⟨⟨a, b, c, t, h0, h1⟩, ps, dr, lo.toNat, li, re.toNat, st, pl⟩, A, cp, ?_, ⟨hc, hh0, hh1, by rw [← m3]; exact hpl, fun k h => by rw [← m3]; exact hpw k h⟩, hpa⟩
   rw [a0, a1, a2, a3, a4, a5, hp, hdr, hlo, hli, hre, hst, hpl2]
   simp only
   rw [show ((lo.toNat : Nat) : Int) = lo by omega, show ((re.toNat : Nat) : Int) = re by omega]
set_option maxRecDepth 100000 in
theorem open_rules {r0 : Reach} {b0 : Nat} {v : Value} {d : DataW H} {p : List MemPlace} (hv : Value.okWide Tryz.prog w r0 b0 27 v) (h : DataW.Trod enc Tryz.prog w base spare held 27 v d p) :
  ∃ (r : RulesD) (A : Option Addr) (cp : Nat), v = .agg #[.int .i64 r.start.w, .int .i64 r.start.h, .string r.start.cells, .int .i64 r.start.turn, .string r.start.h0, .string r.start.h1, .slice A r.pieces.length cp, .bool r.drops, .int .u8 r.lose, .int .i64 r.line, .int .u8 r.reach, .bool r.stuck, .int .i64 r.plies] ∧ RFit r ∧ PiecesAt w w.heap.size A r.pieces := by
 obtain ⟨cs, rfl, hsz⟩ := okWide_struct Tryz.underlying27 hv
 obtain ⟨fuel, hf⟩ := h
 obtain ⟨r, A, cp, hcs, h1, h2⟩ := trod_rules hf
 obtain ⟨l⟩ := cs
 refine ⟨r, A, cp, ?_, h1, h2⟩
 exact congrArg Value.agg hcs
end
end Go.Proofs.YtcdfeaodfmfdnaaGreatDoor
namespace Go.Proofs.YtcdfeaodfmfdnaaGreatDoor
open Go.RowKit Go.ChangeShapes Go.WideShapes Go.Deep Go.ChangeMaps

def msgC (m : MsgD) : List Value := [.int .i64 m.seat, .int .i64 m.ply, .string m.mv, .int .i64 m.at_]
theorem msgC_len (m : MsgD) : (msgC m).length = 4 := rfl
theorem cellsG_flat : ∀ ms : List MsgD, cellsG ms = ms.flatMap msgC
 | [] => rfl
 | m :: ms => by rw [List.flatMap_cons, ← cellsG_flat ms]; rfl
section
variable {H : Type} {enc : TypeId × Value → H} {w : World} {base : Nat} {spare : Nat → Bool} {held : Bool}
set_option maxRecDepth 100000 in
theorem trod_msg {fuel : Nat} {cs : List Value} {x : DataW H × List MemPlace} (h : DataW.trod enc Tryz.prog w base spare held fuel 62 cs = some x) : ∃ m : MsgD, cs = msgC m ∧ -9223372036854775808 ≤ m.at_ ∧ m.at_ ≤ 9223372036854775807 := by
 obtain ⟨xs, n, _, hx, hlen, hxl, hg⟩ := DataW.trod_struct Tryz.underlying62 h
 have c4 : Tryz.prog.cellsOf 62 = 4 := by kernel_rfl
 have ci : Tryz.prog.cellsOf 3 = 1 := by kernel_rfl
 have cs' : Tryz.prog.cellsOf 9 = 1 := by kernel_rfl
 rw [c4] at hlen
 match cs, hlen with
 | [e0, e1, e2, e3], _ =>
  match xs, hxl with
  | [y0, y1, y2, y3], _ =>
   have g0 : DataW.trod enc Tryz.prog w base spare held n 3 (([e0, e1, e2, e3].drop 0).take (Tryz.prog.cellsOf 3)) = [y0, y1, y2, y3][0]? := hg 0 _ rfl
   have g1 : DataW.trod enc Tryz.prog w base spare held n 3 (([e0, e1, e2, e3].drop 1).take (Tryz.prog.cellsOf 3)) = [y0, y1, y2, y3][1]? := hg 1 _ rfl
   have g2 : DataW.trod enc Tryz.prog w base spare held n 9 (([e0, e1, e2, e3].drop 2).take (Tryz.prog.cellsOf 9)) = [y0, y1, y2, y3][2]? := hg 2 _ rfl
   have g3 : DataW.trod enc Tryz.prog w base spare held n 3 (([e0, e1, e2, e3].drop 3).take (Tryz.prog.cellsOf 3)) = [y0, y1, y2, y3][3]? := hg 3 _ rfl
   simp only [ci, cs', List.drop_zero, List.drop_succ_cons, List.take_succ_cons, List.take_zero, List.getElem?_cons_zero, List.getElem?_cons_succ] at g0 g1 g2 g3
   obtain ⟨a, ha, _, _⟩ := DataW.trod_int Tryz.underlying3 g0
   obtain ⟨b, hb, _, _⟩ := DataW.trod_int Tryz.underlying3 g1
   obtain ⟨c, hc, _⟩ := DataW.trod_string Tryz.underlying9 g2
   obtain ⟨d, hd, _, hr⟩ := DataW.trod_int Tryz.underlying3 g3
   simp only [List.cons.injEq, and_true] at ha hb hc hd
   have h1 : IntKind.i64.min = -9223372036854775808 := rfl
   have h2 : IntKind.i64.max = 9223372036854775807 := rfl
   simp [Lit.wf, h1, h2] at hr
   exact ⟨⟨a, b, c, d⟩, by rw [ha, hb, hc, hd]; rfl, hr.1, hr.2⟩
theorem open_msgs {A : Option Addr} {len cap : Nat} {d : DataW H} {p : List MemPlace} (h : DataW.Trod enc Tryz.prog w base spare held 49 (.slice A len cap) d p) :
  ∃ l : List MsgD, len = l.length ∧ l.length ≤ 9223372036854775807 ∧ Cells w w.heap.size A (cellsG l) ∧ ∀ m ∈ l, -9223372036854775808 ≤ m.at_ ∧ m.at_ ≤ 9223372036854775807 := by
 obtain ⟨fuel, hf⟩ := h
 have c4 : Tryz.prog.cellsOf 62 = 4 := by kernel_rfl
 rcases DataW.trod_slice Tryz.underlying49 hf with ⟨hcs, _⟩ | ⟨a, len, cap, elems, rest, n, _, hcs, _, _, hl, hm, he, hg, _⟩
 ·
  simp [Value.cells] at hcs
  obtain ⟨rfl, rfl, rfl⟩ := hcs
  exact ⟨[], rfl, by simp, Cells.nil_, fun m hm => by cases hm⟩
 ·
  simp [Value.cells] at hcs
  obtain ⟨rfl, rfl, rfl⟩ := hcs
  rw [c4] at hg
  have hall : ∀ i, i < len → ∃ e : MsgD, w.cells? base (a.add (i * 4)) 4 = some (msgC e) ∧ -9223372036854775808 ≤ e.at_ ∧ e.at_ ≤ 9223372036854775807 := fun i hi => by
   have h1 := hg i hi
   rw [List.getElem?_eq_getElem (by omega)] at h1
   obtain ⟨cs, q1, q2⟩ := Option.bind_eq_some_iff.1 h1
   obtain ⟨r, rfl, b1, b2⟩ := trod_msg q2
   exact ⟨r, q1, b1, b2⟩
  obtain ⟨es, hlen, hes⟩ := each_of hall
  subst hlen
  have m3 : maxLen = 9223372036854775807 := rfl
  refine ⟨es, rfl, by rw [← m3]; exact Nat.le_trans hl hm, ?_, fun m hm => ?_⟩
  ·
   rw [cellsG_flat]
   exact cells_rows msgC 4 (by decide) msgC_len a es (fun i hi => (hes i hi).1)
  ·
   obtain ⟨i, hi, rfl⟩ := List.getElem_of_mem hm
   exact (hes i hi).2
end
end Go.Proofs.YtcdfeaodfmfdnaaGreatDoor
namespace Go.Proofs.YtcdfeaodfmfdnaaGreatDoor
open Go.RowKit Go.WideShapes Go.ChangeShapes
theorem trodAll_stays {H : Type} {enc : TypeId × Value → H} {P : Program} (hl : laidOutB P = true) {W W' : World} (hb : Below W.heap.size W W') {sp' : Nat → Bool} :
  ∀ (ts : List TypeId) (vs : List Value) (ds : List (DataW H)) (ps : List MemPlace), (∀ t ∈ ts, P.readableRec t = true ∧ t < P.types.size) →
   (∀ p ∈ ps, p.block < W.heap.size) → (∀ p ∈ ps, sp' p.block = true) →
   DataW.TrodAll enc P W 0 (fun _ => true) true ts vs ds ps → DataW.TrodAll enc P W' 0 sp' true ts vs ds ps
 | [], [], [], _, _, _, _, h => h
 | t :: ts, v :: vs, d :: ds, ps, hr, hlt, hs, h => by
  obtain ⟨p, q, h1, h2, rfl⟩ := h
  refine ⟨p, q, WideElems.Trod_stays hl (hr t (by simp)).1 (hr t (by simp)).2 h1 (fun x hx => hb.same (hlt x (by simp [hx]))) (fun x hx => hs x (by simp [hx])), ?_, rfl⟩
  exact trodAll_stays hl hb ts vs ds q (fun t ht => hr t (by simp [ht])) (fun x hx => hlt x (by simp [hx])) (fun x hx => hs x (by simp [hx])) h2
 | [], _ :: _, _, _, _, _, _, h => h.elim
 | [], [], _ :: _, _, _, _, _, h => h.elim
 | _ :: _, [], _, _, _, _, _, h => h.elim
 | _ :: _, _ :: _, [], _, _, _, _, h => h.elim

theorem law_post {H : Type} {enc : TypeId × Value → H} {P : Program} {f : Func} {s : ChangeSpec} {W W' : World} {args : Array Value} {ds : List (DataW H)} {before : List MemPlace} {tb : TypeId}
  (hl : laidOutB P = true) (hread0 : (f.params.toList.all fun t => P.readableRec t && decide (t < P.types.size)) = true)
  (hW : DataW.Whole enc P f.params.toList s.vars false W args.toList ds [] before)
  (hvars : s.vars = []) (hrt : f.resultTypes = #[tb]) (ht : P.underlying tb = some .bool)
  (hres : (s.fn H (ds ++ [])).results = [.lit (.bool true)]) (hargs : (s.fn H (ds ++ [])).args = ds) (hvs : (s.fn H (ds ++ [])).vars = [])
  (hb : Below W.heap.size W W') :
  s.post enc P f false true false false W args (.bool true) W' := by
 have hread : ∀ t ∈ f.params.toList, P.readableRec t = true ∧ t < P.types.size := fun t ht => by
  have := List.all_eq_true.1 hread0 t ht
  simpa using this
 have hlt : ∀ p ∈ before, p.block < W.heap.size := fun p hp => hW.lt p hp
 obtain ⟨p, q, hA, hV, hpq, hz, hn⟩ := id hW
 rw [hvars] at hV
 obtain ⟨_, rfl⟩ := trodVars_none hV
 have hp : p = before := by rw [hpq]; simp
 rw [hp] at hA
 have args' : ∀ sp : Nat → Bool, (∀ x ∈ before, sp x.block = true) → DataW.TrodAll enc P W' 0 sp true f.params.toList args.toList (s.fn H (ds ++ [])).args before := fun sp hsp => by
  rw [hargs]; exact trodAll_stays hl hb _ _ _ _ hread hlt hsp hA
 have res' : ∀ (b : Nat) (sp : Nat → Bool) (hd : Bool), DataW.TrodAll enc P W' b sp hd f.resultTypes.toList ((Value.bool true).resultList f.resultTypes.size) (s.fn H (ds ++ [])).results [] := fun _ _ _ => by
  rw [hres, hrt]; exact trodAll_mk1 (shut_bool ht _)
 have vars' : ∀ sp : Nat → Bool, DataW.TrodVars enc P W' sp s.vars (s.fn H (ds ++ [])).vars [] := fun sp => by rw [hvs, hvars]; rfl
 refine ⟨ds, [], before, [], before, [], hW, res' _ _ _, args' _ (fun x hx => by simpa using hlt x hx), vars' _, ?_, fun _ => ?_⟩
 ·
  exact World.keptBut_mono (fun x hx => ⟨hx, .inr (.inl hx)⟩) (hb.frame (· ∈ before))
 ·
  refine ⟨ok_one hrt rfl (okWide_bool_mk ht _), (s.fn H (ds ++ [])).results ++ (s.fn H (ds ++ [])).args, (s.fn H (ds ++ [])).vars, ([] ++ before) ++ [], ⟨[] ++ before, [], ?_, vars' (fun _ => true), rfl, ?_, fun h => by cases h⟩, ?_⟩
  ·
   exact trodAll_append (args' (fun _ => true) (fun _ _ => rfl)) (res' 0 (fun _ => true) true)
  ·
   intro b off hin
   have hin' : MemPlace.cell b off ∈ before := by simpa using hin
   rw [hb.frozen (hlt _ hin')]
   exact hz b off hin'
  ·
   intro x hx _
   simpa using hx
end Go.Proofs.YtcdfeaodfmfdnaaGreatDoor
namespace Go.Proofs.YtcdfeaodfmfdnaaGreatDoor
open Go.ChangeShapes Go.WideShapes Go.ChangeAt Go.RowKit Go.ChangeMaps

theorem laidOut_housePlays : laidOutB Tryz.prog = true := by kernel_rfl

set_option maxRecDepth 100000 in
theorem housePlays_lifted (os : Os) (started : os.Started) (H : Type) (enc : TypeId × Value → H) :
  ReturnsInHanded {} Tryz.checked os 5 .any (fun w args => (Rows.housePlaysSpec.pre enc Tryz.prog Tryz.f5 [] false w args ∧ laidMetH Tryz.prog laidH w) ∧ sizedMet enc Tryz.prog Tryz.f5 (OpenSpec.ofChange Rows.housePlaysSpec) false w args)
   (Rows.housePlaysSpec.post enc Tryz.prog Tryz.f5 false true false false) := by
 refine handed_shaped (C := Tryz.checked) (X := fun w _ => laidMetH Tryz.prog laidH w) (fun _ _ _ hh h => h.of_heap hh) own_door started (by kernel_rfl) Tryz.func5
  (ChangeSpec.witness_shaped (enc := enc) (C := Tryz.checked) (os := os) (X := fun w _ => laidMetH Tryz.prog laidH w) false (World.laidAll Tryz.prog os laidH) #[.agg #[.int .i64 0, .int .i64 0, .string ByteArray.empty, .int .i64 0, .string ByteArray.empty, .string ByteArray.empty, .slice none 0 0, .bool false, .int .u8 0, .int .i64 0, .int .u8 0, .bool false, .int .i64 0], .int .i64 0, .slice none 0 0] 8 (World.laidAll_os _ _ _)
   (World.shaped_of_ZipB (by kernel_rfl) (by kernel_rfl)) (by kernel_rfl) (by kernel_rfl) (by kernel_rfl) (doorh_met os _)) ?_
 intro W base args ds gs before hval0 hW _ hL _
 have hval : ∀ (j : Nat) t v, Tryz.f5.params[j]? = some t → args[j]? = some v → Value.okWide Tryz.prog W .any base t v := hval0
 obtain ⟨p, q, hA0, hV, hpq, hfz, hnd⟩ := id hW
 have hA : DataW.TrodAll enc Tryz.prog W 0 (fun _ => true) true Tryz.f5.params.toList args.toList ds p := hA0
 obtain ⟨rfl, -⟩ := trodVars_none hV
 rw [Tryz.params5] at hA hval
 obtain ⟨v0, v1, v2, d0, d1, d2, p0, p1, p2, rfl, rfl, rfl, h0, h1, h2⟩ := trodAll_three hA
 obtain ⟨r, Ar, cr, rfl, hfr, hPr⟩ := open_rules (hval 0 27 v0 rfl rfl) h0
 obtain ⟨t, rfl, rfl, rfl, -⟩ := open_int Tryz.underlying3 (hval 1 3 v1 rfl rfl) h1
 obtain ⟨Al, lenl, cl, rfl⟩ := okWide_slice Tryz.underlying49 (hval 2 49 v2 rfl rfl)
 obtain ⟨ms, rfl, hml, hCl, hmr⟩ := open_msgs h2
 refine (plays_any r Ar cr t Al cl ms W hfr (envh_laid hL) hPr hCl hml hmr).mono fun e W' ⟨he, hg⟩ => ?_
 subst he
 exact ⟨_, rfl, law_post laidOut_housePlays (by kernel_rfl) hW rfl rfl Tryz.underlying4 rfl rfl rfl (hg.below_ (fun _ h => h.elim) (Nat.le_refl _))⟩

theorem housePlays_row : Rows.HousePlaysSaid :=
 OpenClaim.holds_of_wide 5 Tryz.f5 rfl rfl rfl rfl rfl rfl rfl ⟨rfl, rfl, rfl, rfl, rfl⟩ rfl rfl rfl rfl rfl (by kernel_rfl) Tryz.func5 (by kernel_rfl)
  (of_decide_eq_true (by kernel_rfl)) (by unfold Func.isWrapper; first | (rw [if_pos (by decide +kernel)]; kernel_rfl) | (rw [if_neg (by decide +kernel)]; exact ⟨rfl, rfl⟩))
  (fun os started H enc _ => housePlays_lifted os started H enc)

theorem housePlays_holds : Rows.HousePlaysCardSaid :=
 Claim7.holds_tied_plain_at .later [] [.data, .data, .data] true (true, "f9ddbfe68a6507bdda89fc93d0f0c033015382e2850d084e93351246cf305cff") true
  housePlays_row (fun _ h => by cases h) (by kernel_rfl) (fun _ h => by cases h) housePlays_row_tie rfl ⟨rfl, rfl⟩ (by kernel_rfl) rfl
  (fun f fn hf hfn => by
   obtain rfl : f = 5 := Option.some.inj ((show Tryz.prog.funcNamed "parlour/gamelaw.HousePlays" = some 5 by kernel_rfl).symm.trans hf) |>.symm
   obtain rfl : fn = Tryz.f5 := (Option.some.inj (Tryz.func5.symm.trans hfn)).symm
   exact ⟨by kernel_rfl, fun j t ht => by
    rw [Tryz.params5] at ht
    have hm : t ∈ [27, 3, 49] := by simpa using Array.mem_of_getElem? ht
    have hall : ([27, 3, 49].all fun u => !Tryz.prog.wantsStandIn u) = true := by kernel_rfl
    exact (show Tryz.prog.wantsStandIn t = false by simpa using List.all_eq_true.1 hall t hm)⟩)
  (by kernel_rfl)
#print axioms housePlays_holds
end Go.Proofs.YtcdfeaodfmfdnaaGreatDoor
