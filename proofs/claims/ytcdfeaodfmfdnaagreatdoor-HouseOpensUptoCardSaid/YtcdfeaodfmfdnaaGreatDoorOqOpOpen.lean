/- house.Open: walked. -/
import Derived.Test.YtcdfeaodfmfdnaaGreatDoorOqOpLine
import Derived.Test.YtcdfeaodfmfdnaaGreatDoorOqKit
namespace Go.Proofs.YtcdfeaodfmfdnaaGreatDoor
open Go.RowKit

def OpenOut (r : RulesD) (t : Int) (tx : ByteArray) (W : World) (e : Ending) (w' : World) : Prop :=
 ∃ (h lo B : Nat) (v : Value) (s : HoD) (n : Nat), e = .returned (.tuple #[.pointer (some ⟨h, 0, none⟩), .int .i64 (n : Int), .int .i64 0]) ∧ HoAt w' lo h B s v ∧ lo ≤ h ∧ h < B ∧ B ≤ w'.heap.size ∧ W.heap.size < lo ∧ HoOk s ∧ s.r = r ∧ s.flag = 0 ∧ OpenR (startP r t) tx.data.toList s n ∧ Only (fun _ => False) W w'
set_option maxHeartbeats 8000000 in
set_option maxRecDepth 100000 in
theorem hopen_no (r : RulesD) (A : Option Addr) (cp : Nat) (t : Int) (tx : ByteArray) (W : World) (hf : RFit r) (hP : PiecesAt W W.heap.size A r.pieces) (hno : ¬ (RulesOk r ∧ 1 ≤ t ∧ t ≤ 1000000)) :
  Calls Tryz.prog 26 #[.agg #[.int .i64 r.start.w, .int .i64 r.start.h, .string r.start.cells, .int .i64 r.start.turn, .string r.start.h0, .string r.start.h1, .slice A r.pieces.length cp, .bool r.drops, .int .u8 (r.lose : Int), .int .i64 r.line, .int .u8 (r.reach : Int), .bool r.stuck, .int .i64 r.plies], .int .i64 t, .string tx] W fun e w' => e = .returned (.tuple #[.pointer none, .int .i64 0, .int .i64 1]) ∧ Only (fun _ => False) W w' := by
 have HP := hide (show ∀ w', Only (fun _ => False) W w' → PiecesAt w' w'.heap.size A r.pieces from fun w' ho => (hP.below (ho.below_ (fun _ h => h.elim) (Nat.le_refl _))).more ho.size)
 have Hb0 := hide (Blk.new W 27 #[.int .i64 r.start.w, .int .i64 r.start.h, .string r.start.cells, .int .i64 r.start.turn, .string r.start.h0, .string r.start.h1, .slice A r.pieces.length cp, .bool r.drops, .int .u8 (r.lose : Int), .int .i64 r.line, .int .u8 (r.reach : Int), .bool r.stuck, .int .i64 r.plies])
 have Ho0 := hide (show Only (fun _ => False) W (W.alloc (.cells #[.int .i64 r.start.w, .int .i64 r.start.h, .string r.start.cells, .int .i64 r.start.turn, .string r.start.h0, .string r.start.h1, .slice A r.pieces.length cp, .bool r.drops, .int .u8 (r.lose : Int), .int .i64 r.line, .int .u8 (r.reach : Int), .bool r.stuck, .int .i64 r.plies] 27)) from (Only.refl _ W).alloc _)
 go_enter Tryz.func26, Tryz.ntmps26
 go_upto_region 1 with (fail)
 obtain ⟨w0, hw0⟩ : ∃ w0, W.alloc (.cells #[.int .i64 r.start.w, .int .i64 r.start.h, .string r.start.cells, .int .i64 r.start.turn, .string r.start.h0, .string r.start.h1, .slice A r.pieces.length cp, .bool r.drops, .int .u8 (r.lose : Int), .int .i64 r.line, .int .u8 (r.reach : Int), .bool r.stuck, .int .i64 r.plies] 27) = w0 := ⟨_, rfl⟩
 rw [hw0] at Hb0 Ho0 ⊢
 clear hw0
 obtain ⟨x0, x1, x2, x3, x4, x5, x6, x7, x8, x9, x10, x11, x12⟩ := Hb0.out.rules
 go_wp2_with (go_at_call 21; refine (hnew_no r A cp t w0 hf (HP.out _ Ho0.out) hno).mono ?_; rintro e w2 ⟨rfl, hl2⟩)
 go_ret3
 exact ⟨rfl, Ho0.out.trans (later_only hl2)⟩
set_option maxHeartbeats 32000000 in
set_option maxRecDepth 100000 in
theorem hopen_ok (r : RulesD) (A : Option Addr) (cp : Nat) (t : Int) (tx : ByteArray) (W : World) (hf : RFit r) (he : Env W) (hP : PiecesAt W W.heap.size A r.pieces) (hok : RulesOk r) (t1 : 1 ≤ t) (t2 : t ≤ 1000000) (htx : tx.size < 4294967281) :
  Calls Tryz.prog 26 #[.agg #[.int .i64 r.start.w, .int .i64 r.start.h, .string r.start.cells, .int .i64 r.start.turn, .string r.start.h0, .string r.start.h1, .slice A r.pieces.length cp, .bool r.drops, .int .u8 (r.lose : Int), .int .i64 r.line, .int .u8 (r.reach : Int), .bool r.stuck, .int .i64 r.plies], .int .i64 t, .string tx] W (OpenOut r t tx W) := by
 have HEn := hide (fun w (ho : Only (fun x => W.heap.size ≤ x) W w) => he.step ho (fun i hi => by have := he.big; omega))
 have hbig := he.big
 have HP := hide (show ∀ w', Only (fun _ => False) W w' → PiecesAt w' w'.heap.size A r.pieces from fun w' ho => (hP.below (ho.below_ (fun _ h => h.elim) (Nat.le_refl _))).more ho.size)
 have Hb0 := hide (Blk.new W 27 #[.int .i64 r.start.w, .int .i64 r.start.h, .string r.start.cells, .int .i64 r.start.turn, .string r.start.h0, .string r.start.h1, .slice A r.pieces.length cp, .bool r.drops, .int .u8 (r.lose : Int), .int .i64 r.line, .int .u8 (r.reach : Int), .bool r.stuck, .int .i64 r.plies])
 have Ho0 := hide (show Only (fun _ => False) W (W.alloc (.cells #[.int .i64 r.start.w, .int .i64 r.start.h, .string r.start.cells, .int .i64 r.start.turn, .string r.start.h0, .string r.start.h1, .slice A r.pieces.length cp, .bool r.drops, .int .u8 (r.lose : Int), .int .i64 r.line, .int .u8 (r.reach : Int), .bool r.stuck, .int .i64 r.plies] 27)) from (Only.refl _ W).alloc _)
 go_enter Tryz.func26, Tryz.ntmps26
 go_upto_region 1 with (fail)
 obtain ⟨w0, hw0⟩ : ∃ w0, W.alloc (.cells #[.int .i64 r.start.w, .int .i64 r.start.h, .string r.start.cells, .int .i64 r.start.turn, .string r.start.h0, .string r.start.h1, .slice A r.pieces.length cp, .bool r.drops, .int .u8 (r.lose : Int), .int .i64 r.line, .int .u8 (r.reach : Int), .bool r.stuck, .int .i64 r.plies] 27) = w0 := ⟨_, rfl⟩
 rw [hw0] at Hb0 Ho0 ⊢
 clear hw0
 obtain ⟨x0, x1, x2, x3, x4, x5, x6, x7, x8, x9, x10, x11, x12⟩ := Hb0.out.rules
 have Hst := hide (start_ok hok t1 t2)
 go_upto_region 2 with (go_at_call 21; refine (hnew_ok r A cp t w0 hf (HP.out _ Ho0.out) hok t1 t2).mono ?_; intro e w2 hn; obtain ⟨h1, rfl, hlt1, hat1, hl2, hs2⟩ := hn.at_)
 have Ho2 := hide (show Only (fun x => W.heap.size ≤ x) W w2 from (Ho0.out.trans (later_only hl2)).mono (fun _ _ h => h.elim))
 have hlt0 : W.heap.size < w0.heap.size := Hb0.out.lt
 obtain ⟨lo1, hlo1e⟩ : ∃ lo1, w0.heap.size + 1 = lo1 := ⟨_, rfl⟩
 obtain ⟨BB, hBBe⟩ : ∃ BB, h1 + 1 = BB := ⟨_, rfl⟩
 have Ha2 := hide (hat1 BB (by omega))
 rw [hlo1e] at Ha2
 have hlo1 : lo1 ≤ h1 := by omega
 have hWl : W.heap.size < lo1 := by omega
 have hh1 : h1 < BB := by omega
 have hBB2 : BB ≤ h1 + 1 := by omega
 clear hl2 Hb0 Ho0 x0 x1 x2 x3 x4 x5 x6 x7 x8 x9 x10 x11 x12 hP HP he hat1 hs2 hlt1 hlo1e hBBe hlt0
 go_wp2_with fail
 go_loopw [2, 11] (fun tv kv wr => ∃ (k : Nat) (cur : ByteArray) (s : HoD) (va : Value), tv = .string cur ∧ kv = .int .i64 (k : Int) ∧ k + cur.size ≤ tx.size ∧ HoAt wr lo1 h1 BB s va ∧ HoOk s ∧ s.r = r ∧ s.flag = 0 ∧ OpenCont (startP r t) tx.data.toList s cur.data.toList k ∧ Only (fun x => W.heap.size ≤ x) W wr) (fun tv _ _ => strLen tv)
 case atStart => exact ⟨0, tx, startP r t, .slice none 0 0, rfl, rfl, by omega, Ha2.out, Hst.out, rfl, rfl, OpenCont.start _ _, Ho2.out⟩
 case round =>
  rename World => wr
  obtain ⟨k, cur, s, va, rfl, rfl, hks, ha, hos, hsr, hfl, hoc, ho⟩ := hrel
  have Ha := hide ha
  have Hos := hide hos
  have Hsr := hide hsr
  have Hfl := hide hfl
  have Hoc := hide hoc
  have Ho := hide ho
  have hBr : BB ≤ wr.heap.size := by have := ha.lt; omega
  clear ha hos hsr hfl hoc ho Ha2 Ho2
  obtain ⟨mx, hmx⟩ := (HEn.out _ Ho.out).m
  have HC := hide (Tryz.strings_Cut cur ⟨#[10]⟩ mx wr (by omega) hmx)
  rw [show (⟨#[10]⟩ : ByteArray).data.toList = [10] from rfl] at HC
  have Hc10 := hide (cut10 cur.data.toList)
  obtain ⟨ct, hct⟩ : ∃ ct, Lib.cut cur.data.toList [10] = ct := ⟨_, rfl⟩
  rw [hct] at HC Hc10
  obtain ⟨c1, c2, c3⟩ := ct
  simp only at HC
  obtain ⟨b1, hb1⟩ : ∃ b1 : ByteArray, ⟨c1.toArray⟩ = b1 := ⟨_, rfl⟩
  obtain ⟨b2, hb2⟩ : ∃ b2 : ByteArray, ⟨c2.toArray⟩ = b2 := ⟨_, rfl⟩
  have hd1 : b1.data.toList = c1 := by rw [← hb1]
  have hd2 : b2.data.toList = c2 := by rw [← hb2]
  have hl1 : b1.size ≤ cur.size := by
   have e : cur.data.toList.length = cur.size := by rw [Array.length_toList]; rfl
   have e1 : b1.data.toList.length = b1.size := by rw [Array.length_toList]; rfl
   rw [hd1] at e1
   rcases Hc10.out with ⟨h, _⟩ | ⟨x, y, h, _, h2⟩
   ·
    injection h with h
    rw [h] at e1
    omega
   ·
    injection h2 with h2
    rw [h2] at e1
    rw [h] at e
    simp only [List.length_append, List.length_cons] at e
    omega
  have Hd1 := hide hd1
  have Hd2 := hide hd2
  rw [hb1, hb2] at HC
  clear hct hb1 hb2 hmx hd1 hd2
  go_upto_region 7 with (go_at_call 34; refine HC.out.mono ?_; rintro e w3 ⟨rfl, n3, hw3⟩; have hl3 : Later wr w3 := (by rw [hw3]; exact Later.rfl.drewN _); clear hw3)
  have Ha3 := hide (Ha.out.only (later_only hl3) (fun _ h => h.elim) hlo1 (fun _ _ h => h))
  have Ho3 := hide (Ho.out.trans' (later_only hl3) (fun _ _ h => h.elim))
  clear HC Ha Ho hBr
  obtain ⟨A', cp', ad', hbb, hpp⟩ := id Ha3.out
  have HLn := hide (hline_any BB h1 s A' cp' ad' va s.lines b1 w3 hbb Hos.out (HEn.out _ Ho3.out) (by omega))
  clear hbb hpp hl3
  go_upto_region 8 with (go_at_call 66; go_loud (refine HLn.out.mono ?_; rintro e w4 ⟨m, okb, rfl, hyes, hno, hl4⟩))
  rw [Hd1.out] at hyes hno
  have Hyes := hide hyes
  have Hno := hide hno
  have hl5 := hl4.alloc (.cells #[.int .i64 m.seat, .int .i64 m.ply, .string m.mv, .int .i64 m.at_] 62)
  have Hm5 := hide (Blk.new w4 62 #[.int .i64 m.seat, .int .i64 m.ply, .string m.mv, .int .i64 m.at_])
  have Ha5 := hide (Ha3.out.only (later_only hl5) (fun _ h => h.elim) hlo1 (fun _ _ h => h))
  have Ho5 := hide (Ho3.out.trans' (later_only hl5) (fun _ _ h => h.elim))
  obtain ⟨gm, hgm⟩ : ∃ gm, w4.heap.size = gm := ⟨_, rfl⟩
  have hgmB : BB ≤ gm := by have := Ha3.out.lt; have := hl4.size; omega
  have hgmo : ∀ k, va.ownBlock = some k → k < gm := fun k hk => by have := (Ha3.out.own k hk).2; have := hl4.size; omega
  obtain ⟨w5, hw5⟩ : ∃ w5, w4.alloc (.cells #[.int .i64 m.seat, .int .i64 m.ply, .string m.mv, .int .i64 m.at_] 62) = w5 := ⟨_, rfl⟩
  rw [hw5] at Hm5 Ha5 Ho5 ⊢
  rw [hgm] at Hm5 ⊢
  have Hgmo := hide hgmo
  clear hyes hno hl4 hl5 hw5 hgm hgmo HLn Ha3 Ho3
  cases c3
  ·
   go_wp2_with fail
   go_ret3
   exact ⟨h1, lo1, BB, va, s, k, rfl, Ha5.out, hlo1, hh1, by have := Ha5.out.lt; omega, hWl, Hos.out, Hsr.out, Hfl.out, Hoc.out.none (by rcases Hc10.out with ⟨h, h2⟩ | ⟨x, y, h, _, h2⟩; exact h2; (injection h2 with _ h2; injection h2 with _ h2; cases h2)), Ho5.out.mono (fun k hk h => by omega)⟩
  ·
   obtain ⟨hcl, hcx, hlen⟩ : cur.data.toList = c1 ++ 10 :: c2 ∧ (10 : UInt8) ∉ c1 ∧ b2.size + 1 ≤ cur.size := by
    rcases Hc10.out with ⟨h, _⟩ | ⟨x, y, h, h1, h2⟩
    ·
     injection h with _ h
     injection h with _ h
     cases h
    ·
     injection h2 with h2 h3
     injection h3 with h3 _
     have e : cur.data.toList.length = cur.size := by rw [Array.length_toList]; rfl
     have e2 : b2.data.toList.length = b2.size := by rw [Array.length_toList]; rfl
     rw [Hd2.out, h3] at e2
     rw [h] at e
     simp only [List.length_append, List.length_cons] at e
     exact ⟨by rw [h, h2, h3], by rw [h2]; exact h1, by omega⟩
   have Hcl := hide (And.intro hcl hcx)
   clear hcl hcx Hc10
   cases okb
   ·
    have Hbad := hide (Hoc.out.bad Hcl.out.1 Hcl.out.2 (fun mv a hh => absurd hh (Hno.out rfl mv a)))
    go_wp2_with fail
    go_ret3
    exact ⟨h1, lo1, BB, va, s, k, rfl, Ha5.out, hlo1, hh1, by have := Ha5.out.lt; omega, hWl, Hos.out, Hsr.out, Hfl.out, Hbad.out, Ho5.out.mono (fun k hk h => by omega)⟩
   ·
    obtain ⟨hln, hme⟩ := Hyes.out rfl
    have Hln := hide hln
    have Hme := hide hme
    clear hln hme Hyes Hno
    obtain ⟨A', cp', ad', hbb, hpp⟩ := id Ha5.out
    obtain ⟨x0, x1, x2⟩ := hbb.clock
    clear hbb hpp
    go_upto_region 11 with (fail)
    have hl6 : Later w5 (w5.alloc (.cells #[.int .i64 s.l0, .int .i64 s.l1, .int .i64 s.now] 116)) := Later.rfl.alloc _
    have Hc6 := hide (Blk.new w5 116 #[.int .i64 s.l0, .int .i64 s.l1, .int .i64 s.now])
    have Hm6 := hide (Later.blk hl6 Hm5.out)
    have Ha6 := hide (Ha5.out.only (later_only hl6) (fun _ h => h.elim) hlo1 (fun _ _ h => h))
    have Ho6 := hide (Ho5.out.trans' (later_only hl6) (fun _ _ h => h.elim))
    obtain ⟨gc, hgc⟩ : ∃ gc, w5.heap.size = gc := ⟨_, rfl⟩
    have hgcm : gm < gc := by have := Hm5.out.lt; omega
    have Hgco := hide (show ∀ k, va.ownBlock = some k → k < gc from fun k hk => by have := (Ha5.out.own k hk).2; omega)
    obtain ⟨w6, hw6⟩ : ∃ w6, w5.alloc (.cells #[.int .i64 s.l0, .int .i64 s.l1, .int .i64 s.now] 116) = w6 := ⟨_, rfl⟩
    rw [hw6] at Hc6 Hm6 Ha6 Ho6 ⊢
    rw [hgc] at Hc6 ⊢
    clear hw6 hgc hl6 Hm5 Ha5 Ho5 x0 x1 x2
    have hB6 : BB ≤ w6.heap.size := by have := Ha6.out.lt; omega
    have hab : -9223372036854775808 ≤ m.at_ ∧ m.at_ ≤ 9223372036854775807 := ⟨by have := Hln.out.2.2.1; have := Hos.out.now; omega, Hln.out.2.2.2⟩
    have HT := hide (htake_any lo1 h1 BB s va m w6 Ha6.out Hos.out hh1 hB6 (by omega) ⟨(HEn.out _ Ho6.out).tb⟩ hab.1 hab.2)
    have Hok2 := hide (take_ok Hos.out hab.2 (m := m))
    have Hr2 := hide (take_r s m)
    have Hund := hide (fun h => take_undone (s := s) (m := m) h)
    have Hfl2 := hide (fun h => take_flag (s := s) (m := m) h Hfl.out)
    have Hstep := hide (fun h => Hoc.out.step (mv := m.mv) (a := m.at_) Hcl.out.1 Hcl.out.2 Hln.out h)
    have Hbad := hide (fun (h : (takeP s m).2 ≠ 1) => Hoc.out.bad Hcl.out.1 Hcl.out.2 (fun mv a hh => by
     obtain ⟨e1, e2⟩ := hh.uniq Hln.out Hos.out.ply Hos.out.now
     rw [e1, e2, ← Hme.out]
     exact h))
    rw [← Hme.out] at Hstep
    obtain ⟨s2, hs2⟩ : ∃ s2, (takeP s m).1 = s2 := ⟨_, rfl⟩
    obtain ⟨kd, hkd⟩ : ∃ kd, (takeP s m).2 = kd := ⟨_, rfl⟩
    obtain ⟨rp, hrp⟩ : ∃ rp, s2.ply = rp := ⟨_, rfl⟩
    obtain ⟨ro, hro⟩ : ∃ ro, outP s2 = ro := ⟨_, rfl⟩
    obtain ⟨rt, hrt⟩ : ∃ rt, bytes (textL s2.p) = rt := ⟨_, rfl⟩
    have hrv : repV (takeP s m) = #[.int .i64 kd, .int .i64 rp, .int .i64 ro, .string rt] := by unfold repV; rw [hs2, hkd, hrp, hro, hrt]
    rw [hrv, hs2] at HT
    rw [hs2] at Hok2 Hr2 Hund Hstep Hfl2
    rw [hkd] at Hund Hstep Hbad Hfl2
    have hrk := fun w => rep_kind kd rp ro rt w
    clear hrv hs2 hkd hrp hro hrt hab Hoc Hln Hme Hcl
    obtain ⟨u0, u1, u2, u3⟩ := (show _ ∧ _ ∧ _ ∧ _ from ⟨Hm6.out.cellv (i := 0) rfl, Hm6.out.cellv (i := 1) rfl, Hm6.out.cellv (i := 2) rfl, Hm6.out.cellv (i := 3) rfl⟩)
    by_cases hk1 : kd = 1
    ·
     subst hk1
     have d1 : ((1 : Int) != 1) = false := by decide
     go_wp2_with (go_at_call 23; refine HT.out.mono ?_; rintro e w7 ⟨rfl, v2, ha7, hlie, ho7⟩; have Ha7 := hide ha7; have Ho7 := hide ho7; clear ha7 hlie ho7)
     go_roundw
     case rel => exact ⟨k + 1, b2, s2, v2, rfl, by go_num, by omega, Ha7.out, Hok2.out, by rw [Hr2.out, Hsr.out], Hfl2.out (by simp), by rw [Hd2.out]; exact Hstep.out (by simp), Ho6.out.trans' Ho7.out (fun i hi hs => hs.elim (fun hs => by omega) (fun hs => by have := (Ha6.out.own i hs).1; omega))⟩
     case measure => simp only [strLen]; omega
    ·
     have d1 : (kd != 1) = true := by simpa using hk1
     obtain ⟨y0, y1, y2, y3, hund⟩ := Hund.out hk1
     have Hund2 := hide hund
     have Hbad2 := hide (Hbad.out hk1)
     clear hund Hund Hstep Hbad Hfl2 hk1
     go_upto_region 12 with (go_at_call 23; refine HT.out.mono ?_; rintro e w7 ⟨rfl, v2, ha7, hlie, ho7⟩; have Ha7 := hide ha7; have Ho7 := hide ho7; clear ha7 hlie ho7)
     have Hc7 := hide (Hc6.out.only Ho7.out (fun h => h.elim (fun h => by omega) (fun h => by have := Hgco.out _ h; omega)))
     have Ho7' := hide (Ho6.out.trans' Ho7.out (fun i hi hs => hs.elim (fun hs => by omega) (fun hs => by have := (Ha6.out.own i hs).1; omega)))
     clear hrk u0 u1 u2 u3 Ho7 Ha6 Hc6 Hm6 Ho6 HT d1
     obtain ⟨z0, z1, z2⟩ := (show _ ∧ _ ∧ _ from ⟨Hc7.out.cellv (i := 0) rfl, Hc7.out.cellv (i := 1) rfl, Hc7.out.cellv (i := 2) rfl⟩)
     obtain ⟨A', cp', ad', hbb, hpp⟩ := id Ha7.out
     obtain ⟨x0, x1, x2⟩ := hbb.clock
     obtain ⟨_, x23, _⟩ := hbb.rest
     have f0 := hbb.blk.free 0
     have f1 := hbb.blk.free 1
     have f2 := hbb.blk.free 2
     have f3 := hbb.blk.free 23
     have HBB := hide hbb
     have HPP := hide hpp
     clear hbb hpp
     go_wp2_with fail
     go_ret3
     have hb8 := (((HBB.out.set_ 0 (by omega) (.int .i64 s.l0)).set_ 1 (by omega) (.int .i64 s.l1)).set_ 2 (by omega) (.int .i64 s.now)).set_ 23 (by omega) (.int .i64 s.flag)
     rw [show ((((hoC s2 A' cp' ad' v2).setIfInBounds 0 (.int .i64 s.l0)).setIfInBounds 1 (.int .i64 s.l1)).setIfInBounds 2 (.int .i64 s.now)).setIfInBounds 23 (.int .i64 s.flag) = hoC s A' cp' ad' v2 from by rw [Hund2.out]; rfl, show s2.lines = s.lines from by rw [Hund2.out], Hfl.out] at hb8
     have hp8 : PAt w7 (fun x => lo1 ≤ x ∧ x < h1) A' s.r.pieces := by have h := HPP.out; rw [show s2.r = s.r from by rw [Hund2.out]] at h; exact h
     have hst := (((Only.refl (fun x => x = h1) w7).setCell (p := ⟨h1, 0, none⟩) (.inl rfl) (.int .i64 s.l0)).setCell (p := ⟨h1, 1, none⟩) (.inl rfl) (.int .i64 s.l1)).setCell (p := ⟨h1, 2, none⟩) (.inl rfl) (.int .i64 s.now) |>.setCell (p := ⟨h1, 23, none⟩) (.inl rfl) (.int .i64 0)
     exact ⟨h1, lo1, BB, v2, s, k, rfl, ⟨A', cp', ad', hb8, hp8.only hst (fun k hk hq => by omega)⟩, hlo1, hh1, by have := hb8.blk.lt; omega, hWl, Hos.out, Hsr.out, Hfl.out, Hbad2.out, (Ho7'.out.trans' hst (fun i hi hs => by omega)).mono (fun k hk h => by omega)⟩
end Go.Proofs.YtcdfeaodfmfdnaaGreatDoor
