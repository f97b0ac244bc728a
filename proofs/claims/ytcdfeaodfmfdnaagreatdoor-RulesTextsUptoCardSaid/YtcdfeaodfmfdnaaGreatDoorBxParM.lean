/- gameref.Text: walked. gameref.begins: walked. gameref.Parsed: walked. -/
import Derived.Test.YtcdfeaodfmfdnaaGreatDoorBxWrite
import Derived.Test.YtcdfeaodfmfdnaaGreatDoorRxWayM
import Derived.Test.YtcdfeaodfmfdnaaGreatDoorBxSplit
import Derived.Deep.CutRange
import Derived.BigRegion
namespace Go.Proofs.YtcdfeaodfmfdnaaGreatDoor
open Go.RowKit

theorem bytes_of (s : ByteArray) : bytes s.data.toList = s := by simp [bytes]
theorem dash_s {h : ByteArray} (e : h.toList.isEmpty = false) : bytes (dashL h.data.toList) = h := by rw [dash_full e, bytes_of]
theorem dash_s' {h : ByteArray} (e : h.toList.isEmpty = true) : bytes (dashL h.data.toList) = ⟨#[45]⟩ := by rw [dash_empty e]; rfl
set_option maxHeartbeats 8000000 in
set_option maxRecDepth 100000 in
theorem text_any (p : Pos) (W : World) (hp : PosOk p) :
    Calls Tryz.prog 48 #[.agg #[.int .i64 p.w, .int .i64 p.h, .string p.cells, .int .i64 p.turn, .string p.h0, .string p.h1]] W fun e w' => e = .returned (.string (bytes (textL p))) ∧ Below W.heap.size W w' := by
  have hp' := hp
  obtain ⟨w, h, c, t, h0, h1⟩ := p
  obtain ⟨w1, w8, h1', h8, hsz, t0, t1, hh0, hh1, -⟩ := hp'
  simp only at w1 w8 h1' h8 hsz t0 t1 hh0 hh1
  obtain ⟨wn, rfl⟩ : ∃ n : Nat, w = (n : Int) := ⟨w.toNat, by omega⟩
  obtain ⟨hn, rfl⟩ : ∃ n : Nat, h = (n : Int) := ⟨h.toNat, by omega⟩
  have hcl : c.data.toList.length = wn * hn := by
    have : (c.size : Int) = ((wn * hn : Nat) : Int) := by rw [hsz]; simp
    have h2 : c.data.toList.length = c.size := by simp
    omega
  have hl0 := (handB_true.1 hh0).1
  have hl1 := (handB_true.1 hh1).1
  have m64 := mul_in w1 w8 h1' h8
  clear hp hh0 hh1
  go_enter Tryz.func48, Tryz.ntmps48
  go_upto_region 1 with (fail)
  have HB0 := hide (below_fresh W (.cells #[.int .i64 (wn : Int), .int .i64 (hn : Int), .string c, .int .i64 t, .string h0, .string h1] 24))
  have HP0 := hide (Blk.new W 24 #[.int .i64 (wn : Int), .int .i64 (hn : Int), .string c, .int .i64 t, .string h0, .string h1])
  generalize W.alloc (.cells #[.int .i64 (wn : Int), .int .i64 (hn : Int), .string c, .int .i64 t, .string h0, .string h1] 24) = w0 at *
  obtain ⟨p0, p1, p2, p3, p4, p5⟩ := Blk.cells6 HP0.out
  go_wp2_with fail
  go_loopw [3, 4] (fun sv iv wr => ∃ i : Nat, i ≤ hn ∧ iv = .int .i64 (i : Int) ∧ sv = .string (bytes (joinK c.data.toList wn hn i)) ∧ wr = w0) (fun _ iv _ => hn - (intOf iv).toNat)
  case atStart => exact ⟨0, by omega, rfl, rfl, rfl⟩
  case round =>
    obtain ⟨k, hk, rfl, rfl, rfl⟩ := hrel
    rename World => w0
    obtain ⟨p0, p1, p2, p3, p4, p5⟩ := Blk.cells6 HP0.out
    have hjl := joinK_len hcl hk (by omega) (by omega)
    by_cases hkl : k < hn
    · obtain ⟨y, hy⟩ : ∃ y : Nat, hn = k + 1 + y := ⟨hn - 1 - k, by omega⟩
      have hyr : hn - 1 - k = y := by omega
      have Hone := hide (joinK_one c.data.toList wn hn)
      have Hnext := hide (fun h => joinK_succ c.data.toList wn hn k h)
      rw [hyr] at Hnext
      have le1 : y * wn ≤ (y + 1) * wn := Nat.mul_le_mul_right _ (by omega)
      have le2 : (y + 1) * wn ≤ wn * hn := by rw [Nat.mul_comm]; exact Nat.mul_le_mul_left _ (by omega)
      have le3 : ((wn * hn : Nat) : Int) ≤ 64 := by rw [Int.natCast_mul]; exact m64.2
      have lcs : c.size = wn * hn := by rw [← hcl]; simp
      have e1 : (hn : Int) - 1 - (k : Int) = (y : Int) := by omega
      have e2 : (hn : Int) - (k : Int) = (y : Int) + 1 := by omega
      have m5 : IntKind.i64.wrap ((hn : Int) - 1) = (hn : Int) - 1 := IntWalk.i64_in _ (by omega)
      have m9 : IntKind.i64.wrap ((hn : Int) - 1 - (k : Int)) = (y : Int) := by rw [e1]; exact IntWalk.i64_in _ (by omega)
      have m10 : IntKind.i64.wrap ((hn : Int) - (k : Int)) = (y : Int) + 1 := by rw [e2]; exact IntWalk.i64_in _ (by omega)
      have m6 : IntKind.i64.wrap ((y : Int) * (wn : Int)) = ((y * wn : Nat) : Int) := by rw [Int.natCast_mul]; exact IntWalk.i64_in _ (by rw [← Int.natCast_mul]; omega)
      have m8 : IntKind.i64.wrap (((y : Int) + 1) * (wn : Int)) = (((y + 1) * wn : Nat) : Int) := by rw [Int.natCast_mul]; exact IntWalk.i64_in _ (by rw [show ((y : Int) + 1) = ((y + 1 : Nat) : Int) from rfl, ← Int.natCast_mul]; omega)
      have hext := ext_row c wn y
      have t1 : decide ((k : Int) < (hn : Int)) = true := by simp; omega
      have t1n : decide (k < hn) = true := by simp; omega
      obtain ⟨lo, hlo⟩ : ∃ lo, y * wn = lo := ⟨_, rfl⟩
      obtain ⟨hi, hhi⟩ : ∃ hi, (y + 1) * wn = hi := ⟨_, rfl⟩
      rw [hlo] at m6 le1 hext
      rw [hhi] at m8 le1 le2 hext
      have les : (hi : Int) ≤ (c.size : Int) := by omega
      have lhi : (lo : Int) ≤ (hi : Int) := by omega
      have hsz73 : c.size ≤ 64 := by omega
      have hxs : (c.extract lo hi).size ≤ 64 := by simp; omega
      obtain ⟨sj, hsj⟩ : ∃ sj, bytes (joinK c.data.toList wn hn k) = sj := ⟨_, rfl⟩
      have hsjl : sj.size ≤ 72 := by rw [← hsj, size_bytes]; exact hjl
      have Hsj := hide hsj
      have Hext := hide (show c.extract lo hi = bytes (rowL c.data.toList wn y) from by rw [← hext, bytes_of])
      rw [hsj]
      have Hyr := hide hyr
      have He := hide (And.intro e1 e2)
      have Hy := hide hy
      clear hlo hhi hext hyr hy le1 le2 le3 lcs hsz hsj e1 e2
      go_upto_region 6 with (fail)
      by_cases hk0 : k = 0
      · have d1 : decide ((0 : Int) < (k : Int)) = false := by simp; omega
        have d1n : decide (0 < k) = false := by simp; omega
        have Hv := hide (show bytes (joinK c.data.toList wn hn (k + 1)) = sj ++ c.extract lo hi from by
          rw [← Hsj.out, Hext.out, bytes_cat, hk0]
          have h := Hone.out
          rw [← Hyr.out, hk0]
          simp only [Nat.sub_zero]
          rw [h]
          simp [joinK, topL, joinL])
        clear hk0
        go_wp2_with fail
        go_roundw
        case rel => exact ⟨k + 1, by omega, by go_num, by rw [Hv.out], trivial⟩
        case measure => simp [intOf]; omega
      · have d1 : decide ((0 : Int) < (k : Int)) = true := by simp; omega
        have d1n : decide (0 < k) = true := by simp; omega
        have Hv := hide (show bytes (joinK c.data.toList wn hn (k + 1)) = sj ++ ⟨#[47]⟩ ++ c.extract lo hi from by
          rw [Hnext.out (by omega), ← Hsj.out, Hext.out, show (⟨#[47]⟩ : ByteArray) = bytes [47] from rfl, bytes_cat, bytes_cat]
          simp)
        clear hk0
        go_wp2_with fail
        go_roundw
        case rel => exact ⟨k + 1, by omega, by go_num, by rw [Hv.out], trivial⟩
        case measure => simp [intOf]; omega
    · obtain rfl : k = hn := by omega
      have d1 : decide ((k : Int) < (k : Int)) = false := by simp
      obtain ⟨sj, hsj⟩ : ∃ sj, bytes (joinK c.data.toList wn k k) = sj := ⟨_, rfl⟩
      have hsjl : sj.size ≤ 72 := by rw [← hsj, size_bytes]; exact hjl
      have Htx := hide (show bytes (textL ⟨(wn : Int), (k : Int), c, t, h0, h1⟩) = sj ++ (bytes (if t = 0 then [32, 119, 32] else [32, 98, 32]) ++ bytes (dashL h0.data.toList) ++ ⟨#[47]⟩ ++ bytes (dashL h1.data.toList)) from by
        rw [← hsj, show (⟨#[47]⟩ : ByteArray) = bytes [47] from rfl, bytes_cat, bytes_cat, bytes_cat, bytes_cat]
        simp [textL])
      rw [hsj]
      clear hsj hkl hk hjl
      obtain ⟨ts, hts⟩ : ∃ ts : ByteArray, bytes (if t = 0 then [32, 119, 32] else [32, 98, 32]) = ts := ⟨_, rfl⟩
      have Hts := hide hts
      rw [hts] at Htx
      have hts3 : ts.size = 3 := by rw [← hts, size_bytes]; split <;> rfl
      obtain ⟨bt, hbt⟩ : ∃ bt, ((t : Int) == 0) = bt := ⟨_, rfl⟩
      have Hbt := hide hbt
      clear hts
      go_upto_if 41 with (fail)
      clear hbt
      go_cut [3] (fun x w' => x = .string (sj ++ ts) ∧ w' = w0)
      case first =>
        cases bt
        · have hb : ts = ⟨#[32, 98, 32]⟩ := by rw [← Hts.out, if_neg (beq_eq_false_iff_ne.1 Hbt.out)]; rfl
          subst hb
          go_wp2_with fail
          go_meet
          case rel => exact ⟨rfl, rfl⟩
        · have hb : ts = ⟨#[32, 119, 32]⟩ := by rw [← Hts.out, if_pos (beq_iff_eq.1 Hbt.out)]; rfl
          subst hb
          go_wp2_with fail
          go_meet
          case rel => exact ⟨rfl, rfl⟩
      case rest =>
        obtain ⟨rfl, rfl⟩ := hcut
        rename World => w0
        obtain ⟨sk, hsk⟩ : ∃ sk, sj ++ ts = sk := ⟨_, rfl⟩
        have hskl : sk.size ≤ 75 := by rw [← hsk, ByteArray.size_append]; omega
        have Hsk := hide hsk
        have hh0 : h0.size ≤ 8 := by simp at hl0; omega
        have hh1 : h1.size ≤ 8 := by simp at hl1; omega
        rw [hsk]
        clear hsk
        go_upto_region 12 with (fail)
        go_quiet (fail)
        cases e0 : h0.toList.isEmpty <;> cases e1 : h1.toList.isEmpty
        · have Hd := hide (And.intro (dash_s e0) (dash_s e1))
          go_wp2_with fail
          go_ret
          exact ⟨by rw [Htx.out, Hd.out.1, Hd.out.2, ← Hsk.out]; simp [ByteArray.append_assoc], ⟨HB0.out.os, HB0.out.tape, HB0.out.output, HB0.out.size, HB0.out.block⟩⟩
        · have Hd := hide (And.intro (dash_s e0) (dash_s' e1))
          go_wp2_with fail
          go_ret
          exact ⟨by rw [Htx.out, Hd.out.1, Hd.out.2, ← Hsk.out]; simp [ByteArray.append_assoc], ⟨HB0.out.os, HB0.out.tape, HB0.out.output, HB0.out.size, HB0.out.block⟩⟩
        · have Hd := hide (And.intro (dash_s' e0) (dash_s e1))
          go_wp2_with fail
          go_ret
          exact ⟨by rw [Htx.out, Hd.out.1, Hd.out.2, ← Hsk.out]; simp [ByteArray.append_assoc], ⟨HB0.out.os, HB0.out.tape, HB0.out.output, HB0.out.size, HB0.out.block⟩⟩
        · have Hd := hide (And.intro (dash_s' e0) (dash_s' e1))
          go_wp2_with fail
          go_ret
          exact ⟨by rw [Htx.out, Hd.out.1, Hd.out.2, ← Hsk.out]; simp [ByteArray.append_assoc], ⟨HB0.out.os, HB0.out.tape, HB0.out.output, HB0.out.size, HB0.out.block⟩⟩
end Go.Proofs.YtcdfeaodfmfdnaaGreatDoor
namespace Go.Proofs.YtcdfeaodfmfdnaaGreatDoor
open Go.RowKit

theorem byteAt_mem {s : ByteArray} {k : Nat} (hk : k < s.size) : s.data.toList[k]'(by simpa using hk) = s[k] := by simp; rfl
def BegOut (s : ByteArray) (W : World) (e : Ending) (w' : World) : Prop := ∃ may whole, e = .returned (.tuple #[.bool may, .bool whole]) ∧ BegP (splitL 32 s.data.toList) may whole ∧ Only (fun _ => False) W w'
theorem no_rows {P : List (List UInt8)} (h : ¬ RowsP P (splitL 47 (P.headD []))) : ¬ MayP P := fun h2 => h h2.1
set_option maxHeartbeats 16000000 in
set_option maxRecDepth 100000 in
theorem begins_any (s : ByteArray) (W : World) (hs : s.size < 4294967281) (hm : MaxAt W) :
    Calls Tryz.prog 119 #[.string s] W (BegOut s W) := by
  have H1 := hide (split_any 32 s W hs hm)
  go_enter Tryz.func119, Tryz.ntmps119
  go_upto_region 2 with (go_at_call 33; refine H1.out.mono ?_; rintro e w1 ⟨np, hnp, rfl, hp, ho1, hsz1⟩; have Hnp := hide hnp; clear hnp)
  have hm1 := hm.only ho1
  have hpl : ∀ a ∈ splitL 32 s.data.toList, a.length ≤ s.size := fun a ha => by have := splitL_mem ha; simpa using this
  obtain ⟨P, hP⟩ : ∃ P, splitL 32 s.data.toList = P := ⟨_, rfl⟩
  have hne : P ≠ [] := by rw [← hP]; exact splitL_ne _ _
  have HPe := hide hP
  rw [hP] at Hnp hp hpl
  have hnp0 : 0 < np := by rw [Hnp.out]; exact List.length_pos_iff.2 hne
  have c0 := hp.cellD (i := 0) (by rw [← Hnp.out]; exact hnp0)
  have hq0 : (P.getD 0 []).length ≤ s.size := hpl _ (getD_mem (by rw [← Hnp.out]; exact hnp0))
  have H0 := hide (headD_getD P)
  obtain ⟨q0, hq0e⟩ : ∃ q0, P.getD 0 [] = q0 := ⟨_, rfl⟩
  rw [hq0e] at c0 hq0 H0
  have hnpi : (0 : Int) < (np : Int) := by omega
  have H2 := hide (split_any 47 (bytes q0) w1 (by rw [size_bytes]; omega) hm1)
  rw [bytes_list] at H2
  have HO1 := hide ho1
  have HP1 := hide hp
  have Hpl := hide hpl
  clear hP hp ho1 hpl hq0e
  go_upto_region 3 with (go_at_call 33; refine H2.out.mono ?_; rintro e w2 ⟨nr, hnr, rfl, hr, ho2, hsz2⟩; have Hnr := hide hnr; clear hnr)
  have hrl : ∀ a ∈ splitL 47 q0, a.length ≤ s.size := fun a ha => Nat.le_trans (splitL_mem ha) hq0
  have hrw : ∀ w, wid (splitL 47 q0) = w → True := fun _ _ => trivial
  obtain ⟨R, hR⟩ : ∃ R, splitL 47 q0 = R := ⟨_, rfl⟩
  have hrne : R ≠ [] := by rw [← hR]; exact splitL_ne _ _
  have HR := hide (show splitL 47 (P.headD []) = R from by rw [H0.out]; exact hR)
  rw [hR] at Hnr hr hrl
  have hnr0 : 0 < nr := by rw [Hnr.out]; exact List.length_pos_iff.2 hrne
  have hnri : (0 : Int) < (nr : Int) := by omega
  have HO2 := hide (HO1.out.trans ho2)
  have HM2 := hide (hm1.only ho2)
  have HP2 := hide (show RowsAt w2 W.heap.size P from Blk.only HP1.out ho2 (fun h => h))
  have HR2 := hide hr
  have Hrl := hide hrl
  rw [hsz1] at HR2
  clear hR hr hrl hrw HO1 HP1 ho2 c0 hm1 H1 H2 hsz1 hsz2 H0
  obtain ⟨lb, hlb⟩ : ∃ lb, decide (1 < np) = lb := ⟨_, rfl⟩
  have tl : decide ((1 : Int) < (np : Int)) = lb := by rw [← hlb, Bool.eq_iff_iff]; simp; omega
  have Hlb := hide hlb
  go_upto_region 4 with (fail)
  have Hno : ∀ (v : Nat), v = 0 → ¬ MayP P → BegP P false false := fun _ _ h => beg_no h
  clear Hno
  by_cases h8 : nr ≤ 8
  case neg =>
    have t1 : decide ((8 : Int) < (nr : Int)) = true := by simp; omega
    have t1n : decide (8 < nr) = true := by simp; omega
    have hnot : ¬ MayP P := no_rows (fun h => by rw [HR.out] at h; have := h.1; rw [← Hnr.out] at this; omega)
    go_wp2_with fail
    go_ret2
    exact ⟨false, false, rfl, by rw [HPe.out]; exact beg_no hnot, HO2.out⟩
  have t1 : decide ((8 : Int) < (nr : Int)) = false := by simp; omega
  have t1n : decide (8 < nr) = false := by simp; omega
  by_cases h3 : np ≤ 3
  case neg =>
    have t2 : decide ((3 : Int) < (np : Int)) = true := by simp; omega
    have t2n : decide (3 < np) = true := by simp; omega
    have hnot : ¬ MayP P := no_rows (fun h => by have := h.2.1; rw [← Hnp.out] at this; omega)
    go_wp2_with fail
    go_ret2
    exact ⟨false, false, rfl, by rw [HPe.out]; exact beg_no hnot, HO2.out⟩
  have t2 : decide ((3 : Int) < (np : Int)) = false := by simp; omega
  have t2n : decide (3 < np) = false := by simp; omega
  go_upto_region 6 with (fail)
  clear t1 t1n t2 t2n tl hlb
  have HB2 := hide (BegW.mk HO2.out HM2.out HP2.out HR2.out)
  obtain ⟨z, hz⟩ : ∃ z, bytes (R.getD 0 []) = z := ⟨_, rfl⟩
  have Hz := hide hz
  have Hzw := hide (show wid R = z.size from by rw [← hz, size_bytes, wid, headD_getD])
  have hzs : z.size ≤ s.size := by rw [← hz, size_bytes]; exact Hrl.out _ (getD_mem (by rw [← Hnr.out]; exact hnr0))
  clear hz HO2 HM2 HP2 HR2
  go_wp2_with fail
  go_loopw [7] (fun iv wr => ∃ i : Nat, i ≤ nr ∧ iv = .int .i64 (i : Int) ∧ BegW W P R wr ∧ ∀ j (h : j < R.length), j < i → RowFine R (lb || decide (j + 1 < nr)) R[j]) (fun iv _ => nr - (intOf iv).toNat)
  case atStart => exact ⟨0, by omega, rfl, HB2.out, fun j _ h => by omega⟩
  case round =>
    rename World => wr
    obtain ⟨i, hi, rfl, hbw, hall⟩ := hrel
    have Hall := hide hall
    have HB := hide hbw
    clear hall hbw HB2
    by_cases hil : i < nr
    · have hiR : i < R.length := by rw [← Hnr.out]; exact hil
      have t1 : decide ((i : Int) < (nr : Int)) = true := by simp; omega
      have t1n : decide (i < nr) = true := by simp; omega
      obtain ⟨sa, hsa⟩ : ∃ sa, bytes (R.getD i []) = sa := ⟨_, rfl⟩
      have Hsa := hide (show R[i] = sa.data.toList from by rw [← hsa, bytes_list, List.getD, List.getElem?_eq_getElem hiR]; rfl)
      have has : sa.size ≤ s.size := by rw [← hsa, size_bytes]; exact Hrl.out _ (getD_mem hiR)
      have Hc := hide (fun (w : World) (h : BegW W P R w) => (show w.cell? ⟨W.heap.size + 1, i, none⟩ = some (.string sa) ∧ w.cell? ⟨W.heap.size + 1, 0, none⟩ = some (.string z) from ⟨by rw [h.r.cellD hiR, hsa], by rw [h.r.cellD (i := 0) (by rw [← Hnr.out]; exact hnr0), Hz.out]⟩))
      obtain ⟨fb, hfb⟩ : ∃ fb, (lb || decide (i + 1 < nr)) = fb := ⟨_, rfl⟩
      have Hfb := hide (show (decide (1 < P.length) || decide (i + 1 < R.length)) = fb from by rw [← Hnp.out, ← Hnr.out, Hlb.out]; exact hfb)
      have Hfb2 := hide hfb
      clear hsa
      go_upto_region 9 with (fail)
      go_cut [8] from 31 to 115 (fun x w' => x = .bool fb ∧ ∃ n, w' = wr.drewN n)
      case first =>
        have tw : IntKind.i64.wrap ((nr : Int) - 1) = (nr : Int) - 1 := IntWalk.i64_in _ (by omega)
        have td : decide ((i : Int) < (nr : Int) - 1) = decide (i + 1 < nr) := by rw [Bool.eq_iff_iff]; simp; omega
        cases lb
        · rw [Bool.false_or] at hfb
          rw [hfb] at td
          go_wp2_with fail
          go_meet
          case rel => exact ⟨rfl, 0, rfl⟩
        · rw [Bool.true_or] at hfb
          subst hfb
          go_wp2_with fail
          go_meet
          case rel => exact ⟨rfl, 0, rfl⟩
      case rest =>
        obtain ⟨rfl, n, rfl⟩ := hcut
        have HBn := hide (HB.out.drewN n)
        obtain ⟨wr, hwr⟩ : ∃ w, wr.drewN n = w := ⟨_, rfl⟩
        rw [hwr] at HBn ⊢
        clear hwr HB hfb
        have hi0 : (0 : Int) ≤ (i : Int) := by omega
        have hi1 : (i : Int) < (nr : Int) := by omega
        obtain ⟨bd, hbd⟩ : ∃ bd, badRow sa.size z.size fb = bd := ⟨_, rfl⟩
        have Hbd := hide hbd
        have hsa9 : (sa.size : Int) < 4294967281 := by omega
        have hz9 : (z.size : Int) < 4294967281 := by omega
        go_upto_region 10 with (fail)
        go_cut [88] from 31 to 115 (fun x w' => x = .bool bd ∧ ∃ n, w' = wr.drewN n)
        case first =>
          obtain ⟨ci, cz⟩ := Hc.out _ HBn.out
          by_cases k1 : 8 < sa.size
          · have d1 : decide ((8 : Int) < (sa.size : Int)) = true := by simp; omega
            have d1n : decide (8 < sa.size) = true := by simp; omega
            obtain rfl : true = bd := by rw [← hbd]; exact (badRow_iff.2 (.inl k1)).symm
            clear hbd
            go_quiet (fail)
            go_wp2_with fail
            go_meet
            case rel => exact ⟨rfl, _, rfl⟩
          have d1 : decide ((8 : Int) < (sa.size : Int)) = false := by simp; omega
          have d1n : decide (8 < sa.size) = false := by simp; omega
          by_cases k2 : z.size < sa.size
          · have d2 : decide ((z.size : Int) < (sa.size : Int)) = true := by simp; omega
            have d2n : decide (z.size < sa.size) = true := by simp; omega
            obtain rfl : true = bd := by rw [← hbd]; exact (badRow_iff.2 (.inr (.inl k2))).symm
            clear hbd
            go_quiet (fail)
            go_wp2_with fail
            go_meet
            case rel => exact ⟨rfl, _, rfl⟩
          have d2 : decide ((z.size : Int) < (sa.size : Int)) = false := by simp; omega
          have d2n : decide (z.size < sa.size) = false := by simp; omega
          cases fb
          · obtain rfl : false = bd := by
              rw [← hbd]
              exact (Bool.eq_false_iff.2 fun h => by rcases badRow_iff.1 h with h | h | ⟨h, _⟩ | ⟨h, _⟩ <;> first | omega | cases h).symm
            clear hbd
            go_quiet (fail)
            go_wp2_with fail
            go_meet
            case rel => exact ⟨rfl, _, rfl⟩
          by_cases k3 : sa.size = z.size
          · have d3 : ((sa.size : Int) != (z.size : Int)) = false := by simp; omega
            have d3n : (sa.size != z.size) = false := by simp; omega
            by_cases k4 : sa.size = 0
            · have d4 : ((sa.size : Int) == 0) = true := by rw [k4]; rfl
              have d4n : (sa.size == 0) = true := by rw [k4]; rfl
              obtain rfl : true = bd := by rw [← hbd]; exact (badRow_iff.2 (.inr (.inr (.inr ⟨rfl, k4⟩)))).symm
              clear hbd k4 k3
              go_quiet (fail)
              go_wp2_with fail
              go_meet
              case rel => exact ⟨rfl, _, rfl⟩
            · have d4 : ((sa.size : Int) == 0) = false := by rw [beq_eq_false_iff_ne]; omega
              have d4n : (sa.size == 0) = false := by rw [beq_eq_false_iff_ne]; omega
              obtain rfl : false = bd := by
                rw [← hbd]
                exact (Bool.eq_false_iff.2 fun h => by rcases badRow_iff.1 h with h | h | ⟨_, h⟩ | ⟨_, h⟩ <;> omega).symm
              clear hbd k4 k3
              go_quiet (fail)
              go_wp2_with fail
              go_meet
              case rel => exact ⟨rfl, _, rfl⟩
          · have d3 : ((sa.size : Int) != (z.size : Int)) = true := by simp; omega
            have d3n : (sa.size != z.size) = true := by simp; omega
            obtain rfl : true = bd := by rw [← hbd]; exact (badRow_iff.2 (.inr (.inr (.inl ⟨rfl, k3⟩)))).symm
            clear hbd k3
            go_quiet (fail)
            go_wp2_with fail
            go_meet
            case rel => exact ⟨rfl, _, rfl⟩
        case rest =>
          obtain ⟨rfl, n, rfl⟩ := hcut
          have HB3 := hide (HBn.out.drewN n)
          obtain ⟨wq, hwq⟩ : ∃ w, wr.drewN n = w := ⟨_, rfl⟩
          rw [hwq] at HB3 ⊢
          clear hwq HBn hbd
          cases bd
          case true =>
            have hnot : ¬ MayP P := not_fine HR.out hiR Hfb.out (by rw [Hsa.out]; exact badRow_t Hzw.out Hbd.out)
            go_wp2_with fail
            go_ret2
            exact ⟨false, false, rfl, by rw [HPe.out]; exact beg_no hnot, HB3.out.o⟩
          case false =>
            go_wp2_with fail
            go_loopw [9] (fun kv wx => ∃ k : Nat, k ≤ sa.size ∧ kv = .int .i64 (k : Int) ∧ BegW W P R wx ∧ ∀ j (h : j < sa.size), j < k → cellB sa[j].toNat = true) (fun kv _ => sa.size - (intOf kv).toNat)
            case atStart => exact ⟨0, by omega, rfl, HB3.out, fun j _ h => by omega⟩
            case round =>
              rename World => wx
              obtain ⟨k, hk, rfl, hbx, hcl⟩ := hrel
              have Hcl := hide hcl
              have HBx := hide hbx
              clear hbx hcl HB3
              obtain ⟨ci, cz⟩ := Hc.out _ HBx.out
              by_cases hkl : k < sa.size
              · have k0 : (0 : Int) ≤ (k : Int) := by omega
                have k1 : (k : Int) < (sa.size : Int) := by omega
                have d1 : decide ((k : Int) < (sa.size : Int)) = true := by simp; omega
                have d1n : decide (k < sa.size) = true := by simp; omega
                obtain ⟨c, hc⟩ : ∃ c, sa[k].toNat = c := ⟨_, rfl⟩
                have Hc2 := hide (show ∀ b, cellB c = b → cellB sa[k].toNat = b from fun b h => by rw [hc]; exact h)
                go_upto_region 16 with (fail)
                have k2 : (k : Int) < 9223372036854775807 := by omega
                by_cases e46 : c = 46
                · have d2 : ((c : Int) != 46) = false := by simp; omega
                  have d2n : (c != 46) = false := by simp; omega
                  have Hcb := hide (show cellB c = true from by rw [e46]; rfl)
                  clear e46
                  go_wp2_with (first | (go_at_call 40; refine (big_any c _).mono ?_; rintro e wy ⟨rfl, rfl⟩) | (go_at_call 85; refine (small_any c _).mono ?_; rintro e wy ⟨rfl, rfl⟩))
                  go_roundw
                  case rel => exact ⟨k + 1, by omega, by go_num, HBx.out, fun j h1 h2 => by
                    rcases Nat.lt_or_eq_of_le (Nat.le_of_lt_succ h2) with h3 | rfl
                    · exact Hcl.out j h1 h3
                    · exact Hc2.out _ Hcb.out⟩
                  case measure => simp [intOf]; omega
                have d2 : ((c : Int) != 46) = true := by simp; omega
                have d2n : (c != 46) = true := by simp; omega
                cases hu : upB c
                case true =>
                  have Hcb := hide (show cellB c = true from by simp [cellB, hu])
                  go_wp2_with (first | (go_at_call 40; refine (big_any c _).mono ?_; rintro e wy ⟨rfl, rfl⟩) | (go_at_call 85; refine (small_any c _).mono ?_; rintro e wy ⟨rfl, rfl⟩))
                  go_roundw
                  case rel => exact ⟨k + 1, by omega, by go_num, HBx.out, fun j h1 h2 => by
                    rcases Nat.lt_or_eq_of_le (Nat.le_of_lt_succ h2) with h3 | rfl
                    · exact Hcl.out j h1 h3
                    · exact Hc2.out _ Hcb.out⟩
                  case measure => simp [intOf]; omega
                case false =>
                  cases hl : lowB c
                  case true =>
                    have Hcb := hide (show cellB c = true from by simp [cellB, hl])
                    go_wp2_with (first | (go_at_call 40; refine (big_any c _).mono ?_; rintro e wy ⟨rfl, rfl⟩) | (go_at_call 85; refine (small_any c _).mono ?_; rintro e wy ⟨rfl, rfl⟩))
                    go_roundw
                    case rel => exact ⟨k + 1, by omega, by go_num, HBx.out, fun j h1 h2 => by
                      rcases Nat.lt_or_eq_of_le (Nat.le_of_lt_succ h2) with h3 | rfl
                      · exact Hcl.out j h1 h3
                      · exact Hc2.out _ Hcb.out⟩
                    case measure => simp [intOf]; omega
                  case false =>
                    have Hcb := hide (show cellB c = false from by simp [cellB, hu, hl, e46])
                    have hnot : ¬ MayP P := not_fine HR.out hiR Hfb.out (by
                      rw [Hsa.out]
                      intro h2
                      have h3 := h2.cells sa[k] (by rw [← byteAt_mem hkl]; exact List.getElem_mem _)
                      rw [Hc2.out _ Hcb.out] at h3
                      cases h3)
                    go_wp2_with (first | (go_at_call 40; refine (big_any c _).mono ?_; rintro e wy ⟨rfl, rfl⟩) | (go_at_call 85; refine (small_any c _).mono ?_; rintro e wy ⟨rfl, rfl⟩))
                    go_ret2
                    exact ⟨false, false, rfl, by rw [HPe.out]; exact beg_no hnot, HBx.out.o⟩
              · obtain rfl : k = sa.size := by omega
                have d1 : decide ((sa.size : Int) < (sa.size : Int)) = false := by simp
                have hrow : RowFine R fb R[i] := by
                  rw [Hsa.out]
                  refine badRow_f Hzw.out Hbd.out (fun c hc => ?_)
                  obtain ⟨j, hj, rfl⟩ := List.getElem_of_mem hc
                  have hj' : j < sa.size := by simpa using hj
                  rw [byteAt_mem hj']
                  exact Hcl.out j hj' hj'
                have Hrow := hide hrow
                clear hrow
                go_wp2_with fail
                go_roundw
                case rel => exact ⟨i + 1, by omega, by go_num, HBx.out, fun j h1 h2 => by
                  rcases Nat.lt_or_eq_of_le (Nat.le_of_lt_succ h2) with h3 | rfl
                  · exact Hall.out j h1 h3
                  · rw [Hfb2.out]; exact Hrow.out⟩
                case measure => simp [intOf]; omega
    · obtain rfl : i = nr := by omega
      have t1 : decide ((i : Int) < (i : Int)) = false := by simp
      have hrows : RowsP P R := ⟨by rw [← Hnr.out]; exact h8, by rw [← Hnp.out]; exact h3, fun j h => by
        have := Hall.out j h (by rw [Hnr.out]; exact h)
        rw [← Hnp.out, ← Hnr.out, Hlb.out]
        exact this⟩
      have Hrows := hide (show RowsP P (splitL 47 (P.headD [])) from by rw [HR.out]; exact hrows)
      clear hrows
      go_upto_region 18 with (fail)
      by_cases h2 : np < 2
      · have d1 : decide ((np : Int) < 2) = true := by simp; omega
        have d1n : decide (np < 2) = true := by simp; omega
        have hmay : MayP P := ⟨Hrows.out, fun h => by rw [← Hnp.out] at h; omega⟩
        have hb := beg_may hmay (by rw [← Hnp.out]; omega)
        go_wp2_with fail
        go_ret2
        exact ⟨true, false, rfl, by rw [HPe.out]; exact hb, HB.out.o⟩
      have d1 : decide ((np : Int) < 2) = false := by simp; omega
      have d1n : decide (np < 2) = false := by simp; omega
      have n1 : (1 : Int) < (np : Int) := by omega
      obtain ⟨sb, hsb⟩ : ∃ sb, bytes (P.getD 1 []) = sb := ⟨_, rfl⟩
      have c1 := HB.out.p.cellD (i := 1) (by rw [← Hnp.out]; omega)
      rw [hsb] at c1
      have Hsb := hide hsb
      clear hsb
      go_upto_region 20 with (fail)
      have Hst := hide (show sb.toList = P.getD 1 [] from by rw [← Hsb.out, Go.ByteArray.toList_eq, bytes_list])
      obtain ⟨bt, hbt⟩ : ∃ bt : Bool, (bt = true ↔ ¬ TurnP P) := by
        by_cases h : TurnP P
        · exact ⟨false, by simp [h]⟩
        · exact ⟨true, by simp [h]⟩
      have Hbt := hide hbt
      clear hbt d1 d1n t1
      go_cut [139] (fun x w' => x = .bool bt ∧ w' = wr)
      case first =>
        by_cases e1 : sb.toList = [119]
        · have q1 : (sb.toList == [119]) = true := by rw [e1]; rfl
          have hb : bt = false := Bool.eq_false_iff.2 fun h => Hbt.out.1 h (.inl (by rw [← Hst.out, e1]))
          clear e1
          subst hb
          go_wp2_with fail
          go_meet
          case rel => exact ⟨rfl, rfl⟩
        have q1 : (sb.toList == [119]) = false := by rw [beq_eq_false_iff_ne]; exact e1
        by_cases e2 : sb.toList = [98]
        · have q2 : (sb.toList == [98]) = true := by rw [e2]; rfl
          have hb : bt = false := Bool.eq_false_iff.2 fun h => Hbt.out.1 h (.inr (.inl (by rw [← Hst.out, e2])))
          clear e2 e1
          subst hb
          go_wp2_with fail
          go_meet
          case rel => exact ⟨rfl, rfl⟩
        have q2 : (sb.toList == [98]) = false := by rw [beq_eq_false_iff_ne]; exact e2
        by_cases e3 : sb.toList = []
        · have q3 : sb.toList.isEmpty = true := by rw [e3]; rfl
          by_cases hn2 : np ≤ 2
          · have d2 : decide ((2 : Int) < (np : Int)) = false := by simp; omega
            have d2n : decide (2 < np) = false := by simp; omega
            have hb : bt = false := Bool.eq_false_iff.2 fun h => Hbt.out.1 h (.inr (.inr ⟨by rw [← Hst.out, e3], by rw [← Hnp.out]; exact hn2⟩))
            clear e3 e2 e1
            subst hb
            go_wp2_with fail
            go_meet
            case rel => exact ⟨rfl, rfl⟩
          · have d2 : decide ((2 : Int) < (np : Int)) = true := by simp; omega
            have d2n : decide (2 < np) = true := by simp; omega
            have hb : bt = true := Hbt.out.2 (fun h => by
              rw [TurnP, ← Hst.out, ← Hnp.out] at h
              rcases h with h | h | ⟨_, h⟩
              · exact e1 h
              · exact e2 h
              · exact hn2 h)
            clear e3 e2 e1
            subst hb
            go_wp2_with fail
            go_meet
            case rel => exact ⟨rfl, rfl⟩
        · have q3 : sb.toList.isEmpty = false := by cases h : sb.toList with | nil => exact absurd h e3 | cons a l => rfl
          have hb : bt = true := Hbt.out.2 (fun h => by
            rw [TurnP, ← Hst.out, ← Hnp.out] at h
            rcases h with h | h | ⟨h, _⟩
            · exact e1 h
            · exact e2 h
            · exact e3 h)
          clear e3 e2 e1
          subst hb
          go_wp2_with fail
          go_meet
          case rel => exact ⟨rfl, rfl⟩
      case rest =>
        obtain ⟨rfl, rfl⟩ := hcut
        rename World => wr
        have h2' : 2 ≤ P.length := by rw [← Hnp.out]; omega
        cases bt
        case true =>
          have hnot : ¬ MayP P := fun h => Hbt.out.1 rfl (h.2 h2').1
          go_wp2_with fail
          go_ret2
          exact ⟨false, false, rfl, by rw [HPe.out]; exact beg_no hnot, HB.out.o⟩
        case false =>
        have hturn : TurnP P := Classical.byContradiction fun h => by have := Hbt.out.2 h; cases this
        by_cases h3' : np < 3
        · have d1 : decide ((np : Int) < 3) = true := by simp; omega
          have d1n : decide (np < 3) = true := by simp; omega
          have hmay : MayP P := ⟨Hrows.out, fun _ => ⟨hturn, fun h => by rw [← Hnp.out] at h; omega⟩⟩
          have hb := beg_may hmay (by rw [← Hnp.out]; omega)
          go_wp2_with fail
          go_ret2
          exact ⟨true, false, rfl, by rw [HPe.out]; exact hb, HB.out.o⟩
        have hn3 : np = 3 := by omega
        have d1 : decide ((np : Int) < 3) = false := by simp; omega
        have d1n : decide (np < 3) = false := by simp; omega
        have n2 : (2 : Int) < (np : Int) := by omega
        have Hturn := hide hturn
        obtain ⟨hs2, hhs2⟩ : ∃ q, P.getD 2 [] = q := ⟨_, rfl⟩
        have c2 := HB.out.p.cellD (i := 2) (by rw [← Hnp.out]; omega)
        have hl2 : (P.getD 2 []).length ≤ s.size := Hpl.out _ (getD_mem (by rw [← Hnp.out]; omega))
        rw [hhs2] at c2 hl2
        have Hhs2 := hide hhs2
        have H3 := hide (split_any 47 (bytes hs2) wr (by rw [size_bytes]; omega) HB.out.m)
        rw [bytes_list] at H3
        clear hhs2 hturn c1 hn3
        have d1 := d1
        go_upto_region 25 with (go_at_call 33; refine H3.out.mono ?_; rintro e w3 ⟨nh, hnh, rfl, hr3, ho3, hsz3⟩; have Hnh := hide hnh; clear hnh)
        obtain ⟨Hs, hHs⟩ : ∃ Hs, splitL 47 hs2 = Hs := ⟨_, rfl⟩
        have hsl : ∀ a ∈ Hs, a.length ≤ s.size := fun a ha => Nat.le_trans (splitL_mem (by rw [hHs]; exact ha)) hl2
        have Hsl := hide hsl
        have HHs := hide (show splitL 47 (P.getD 2 []) = Hs from by rw [Hhs2.out]; exact hHs)
        rw [hHs] at Hnh hr3
        obtain ⟨g3, hg3⟩ : ∃ g3, wr.heap.size = g3 := ⟨_, rfl⟩
        have HR3 := hide hr3
        have HO3 := hide (HB.out.o.trans ho3)
        rw [hg3] at HR3 ⊢
        have h3P : P.length = 3 := by rw [← Hnp.out]; omega
        have H3P := hide h3P
        clear hg3 hHs hr3 ho3 hsl hsz3 H3 c2 hl2 h3P h2'
        by_cases hh2 : nh ≤ 2
        case neg =>
          have d3 : decide ((2 : Int) < (nh : Int)) = true := by simp; omega
          have d3n : decide (2 < nh) = true := by simp; omega
          have hnot : ¬ MayP P := fun h => by
            have h4 := ((h.2 (by rw [H3P.out]; omega)).2 (by rw [H3P.out]; omega)).1
            rw [HHs.out, ← Hnh.out] at h4
            exact hh2 h4
          go_wp2_with fail
          go_ret2
          exact ⟨false, false, rfl, by rw [HPe.out]; exact beg_no hnot, HO3.out⟩
        have d3 : decide ((2 : Int) < (nh : Int)) = false := by simp; omega
        have d3n : decide (2 < nh) = false := by simp; omega
        go_wp2_with fail
        go_loopw [12] (fun iv wx => ∃ i : Nat, i ≤ nh ∧ iv = .int .i64 (i : Int) ∧ Only (fun _ => False) W wx ∧ RowsAt wx g3 Hs ∧ ∀ j (h : j < Hs.length), j < i → HandFine Hs j Hs[j]) (fun iv _ => nh - (intOf iv).toNat)
        case atStart => exact ⟨0, by omega, rfl, HO3.out, HR3.out, fun j _ h => by omega⟩
        case round =>
          rename World => wx
          obtain ⟨i', hi', rfl, hox, hrx, hall⟩ := hrel
          have Hall3 := hide hall
          have HOx := hide hox
          have HRx := hide hrx
          clear hall hox hrx HO3 HR3 d3 d3n
          by_cases hil : i' < nh
          · have hiH : i' < Hs.length := by rw [← Hnh.out]; exact hil
            have t1 : decide ((i' : Int) < (nh : Int)) = true := by simp; omega
            have t1n : decide (i' < nh) = true := by simp; omega
            have i0 : (0 : Int) ≤ (i' : Int) := by omega
            have i1 : (i' : Int) < (nh : Int) := by omega
            obtain ⟨sh, hsh⟩ : ∃ sh, bytes (Hs.getD i' []) = sh := ⟨_, rfl⟩
            have ch := HRx.out.cellD hiH
            have hshl : sh.size ≤ 9223372036854775807 := by
              have := Hsl.out _ (getD_mem hiH)
              rw [← hsh, size_bytes]; omega
            rw [hsh] at ch
            have Hsh := hide (show Hs[i'] = sh.data.toList from by rw [← hsh, bytes_list, List.getD, List.getElem?_eq_getElem hiH]; rfl)
            have Htl := hide (Go.ByteArray.toList_eq sh)
            have Hrh := hide (fun w => rhand_any sh w hshl)
            obtain ⟨bd, hbd⟩ : ∃ bd : Bool, (bd = true ↔ ¬ HandFine Hs i' sh.data.toList) := by
              by_cases h : HandFine Hs i' sh.data.toList
              · exact ⟨false, by simp [h]⟩
              · exact ⟨true, by simp [h]⟩
            have Hbd := hide hbd
            clear hsh hbd
            go_upto_region 31 with (fail)
            go_cut [177] from 150 to 177 (fun x w' => x = .bool bd ∧ ∃ n, w' = wx.drewN n)
            case first =>
              by_cases e1 : sh.toList = [45]
              · have q1 : (sh.toList == [45]) = true := by rw [e1]; rfl
                have q2 : sh.toList.isEmpty = false := by rw [e1]; rfl
                have hb : bd = false := Bool.eq_false_iff.2 fun h => Hbd.out.1 h ⟨.inl (by rw [← Htl.out, e1]), fun h => by rw [← Htl.out, e1] at h; cases h⟩
                clear e1
                subst hb
                go_wp2_with fail
                go_meet
                case rel => exact ⟨rfl, 0, rfl⟩
              have q1 : (sh.toList == [45]) = false := by rw [beq_eq_false_iff_ne]; exact e1
              cases hv : handB sh
              case false =>
                have Hv := hide hv
                have hb : bd = true := Hbd.out.2 fun h => by
                  rcases h.1 with h | h
                  · exact e1 (by rw [Htl.out, h])
                  · exact handB_false.1 Hv.out h
                clear e1 hv
                subst hb
                go_wp2_with (go_at_call 84; refine (Hrh.out _).mono ?_; rw [Hv.out]; rintro e wy ⟨rfl, n, rfl⟩)
                go_wp2_with fail
                go_meet
                case rel => exact ⟨rfl, _, rfl⟩
              case true =>
                have Hv := hide hv
                clear hv
                cases he : sh.toList.isEmpty
                case false =>
                  have hne2 : sh.data.toList ≠ [] := fun h => by rw [Htl.out, h] at he; cases he
                  have hb : bd = false := Bool.eq_false_iff.2 fun h => Hbd.out.1 h ⟨.inr (handB_true.1 Hv.out), fun h => absurd h hne2⟩
                  clear e1 hne2
                  subst hb
                  go_wp2_with (go_at_call 84; refine (Hrh.out _).mono ?_; rw [Hv.out]; rintro e wy ⟨rfl, n, rfl⟩)
                  go_wp2_with fail
                  go_meet
                  case rel => exact ⟨rfl, _, rfl⟩
                case true =>
                  have he2 : sh.data.toList = [] := by rw [← Htl.out]; exact List.isEmpty_iff.1 he
                  have tw : IntKind.i64.wrap ((nh : Int) - 1) = (nh : Int) - 1 := IntWalk.i64_in _ (by omega)
                  by_cases hlast : i' + 1 < nh
                  · have d4 : decide ((i' : Int) < (nh : Int) - 1) = true := by simp; omega
                    have hb : bd = true := Hbd.out.2 fun h => h.2 he2 (by rw [← Hnh.out]; exact hlast)
                    clear e1 he2
                    subst hb
                    go_wp2_with (go_at_call 84; refine (Hrh.out _).mono ?_; rw [Hv.out]; rintro e wy ⟨rfl, n, rfl⟩)
                    go_wp2_with fail
                    go_meet
                    case rel => exact ⟨rfl, _, rfl⟩
                  · have d4 : decide ((i' : Int) < (nh : Int) - 1) = false := by simp; omega
                    have hb : bd = false := Bool.eq_false_iff.2 fun h => Hbd.out.1 h ⟨.inr (handB_true.1 Hv.out), fun _ h2 => hlast (by rw [Hnh.out]; exact h2)⟩
                    clear e1 he2
                    subst hb
                    go_wp2_with (go_at_call 84; refine (Hrh.out _).mono ?_; rw [Hv.out]; rintro e wy ⟨rfl, n, rfl⟩)
                    go_wp2_with fail
                    go_meet
                    case rel => exact ⟨rfl, _, rfl⟩
            case rest =>
              obtain ⟨rfl, n, rfl⟩ := hcut
              have HO4 := hide (HOx.out.drewN n)
              have HR4 := hide (HRx.out.drewN n)
              obtain ⟨wy, hwy⟩ : ∃ w, wx.drewN n = w := ⟨_, rfl⟩
              rw [hwy] at HO4 HR4 ⊢
              clear hwy ch
              cases bd
              case true =>
                have hnot : ¬ MayP P := fun h => by
                  have h4 := ((h.2 (by rw [H3P.out]; omega)).2 (by rw [H3P.out]; omega)).2
                  rw [HHs.out] at h4
                  have h5 := h4 i' hiH
                  rw [Hsh.out] at h5
                  exact Hbd.out.1 rfl h5
                go_wp2_with fail
                go_ret2
                exact ⟨false, false, rfl, by rw [HPe.out]; exact beg_no hnot, HO4.out⟩
              case false =>
                have Hf := hide (show HandFine Hs i' Hs[i'] from by
                  rw [Hsh.out]
                  exact Classical.byContradiction fun h => by have := Hbd.out.2 h; cases this)
                go_wp2_with fail
                go_roundw
                case rel => exact ⟨i' + 1, by omega, by go_num, HO4.out, HR4.out, fun j h1 h2 => by
                  rcases Nat.lt_or_eq_of_le (Nat.le_of_lt_succ h2) with h3 | rfl
                  · exact Hall3.out j h1 h3
                  · exact Hf.out⟩
                case measure => simp [intOf]; omega
          · obtain rfl : i' = nh := by omega
            have t1 : decide ((i' : Int) < (i' : Int)) = false := by simp
            have hmay : MayP P := ⟨Hrows.out, fun _ => ⟨Hturn.out, fun _ => by
              rw [HHs.out]
              exact ⟨by rw [← Hnh.out]; exact hh2, fun j h => Hall3.out j h (by rw [Hnh.out]; exact h)⟩⟩⟩
            have Hmay := hide hmay
            have Hwh := hide (show WholeP P ↔ i' = 2 ∧ Hs.getD 1 [] ≠ [] from by
              rw [WholeP, H3P.out, HHs.out, ← Hnh.out]; simp)
            clear hmay
            by_cases e2 : i' = 2
            · subst e2
              have c1 := HRx.out.cellD (i := 1) (by rw [← Hnh.out]; omega)
              obtain ⟨s1, hs1⟩ : ∃ s1, bytes (Hs.getD 1 []) = s1 := ⟨_, rfl⟩
              have Hs1 := hide (show s1.toList = Hs.getD 1 [] from by rw [← hs1, Go.ByteArray.toList_eq, bytes_list])
              rw [hs1] at c1
              clear hs1
              go_upto_region 33 with (fail)
              cases he : s1.toList.isEmpty
              · have hw : WholeP P := Hwh.out.2 ⟨rfl, fun h => by rw [Hs1.out, h] at he; cases he⟩
                have Hw := hide hw
                clear hw
                go_quiet (fail)
                go_wp2_with fail
                go_ret2
                exact ⟨true, true, rfl, by rw [HPe.out]; exact ⟨by simp [Hmay.out], by simp [Hmay.out, Hw.out]⟩, HOx.out.drewN _⟩
              · have hw : ¬ WholeP P := fun h => (Hwh.out.1 h).2 (by rw [← Hs1.out]; exact List.isEmpty_iff.1 he)
                have Hw := hide hw
                clear hw
                go_quiet (fail)
                go_wp2_with fail
                go_ret2
                exact ⟨true, false, rfl, by rw [HPe.out]; exact ⟨by simp [Hmay.out], by simp [Hw.out]⟩, HOx.out.drewN _⟩
            · have d5 : ((i' : Int) == 2) = false := by rw [beq_eq_false_iff_ne]; omega
              have d5n : (i' == 2) = false := by rw [beq_eq_false_iff_ne]; omega
              have hw : ¬ WholeP P := fun h => e2 (Hwh.out.1 h).1
              have Hw := hide hw
              clear hw e2
              go_upto_region 33 with (fail)
              go_quiet (fail)
              go_wp2_with fail
              go_ret2
              exact ⟨true, false, rfl, by rw [HPe.out]; exact ⟨by simp [Hmay.out], by simp [Hw.out]⟩, HOx.out.drewN _⟩
end Go.Proofs.YtcdfeaodfmfdnaaGreatDoor
namespace Go.Proofs.YtcdfeaodfmfdnaaGreatDoor
open Go.RowKit

set_option maxHeartbeats 16000000 in
set_option maxRecDepth 100000 in
theorem parsed_any (s : ByteArray) (W : World) (hs : s.size ≤ 9223372036854775806) (hm : MaxAt W) :
    Calls Tryz.prog 80 #[.string s] W (SaysB s W) := by
  go_enter Tryz.func80, Tryz.ntmps80
  go_upto_region 1 with (fail)
  have HPW0 := hide (show PW W ((W.alloc (.cells #[.int .i64 0, .int .i64 0, .string ⟨#[]⟩, .int .i64 0, .string ⟨#[]⟩, .string ⟨#[]⟩] 24)).alloc (.cells #[.int .i64 0, .int .i64 0] 32)) from
    ⟨((Only.refl _ W).alloc _).alloc _, hm.only (((Only.refl _ W).alloc _).alloc _), (Blk.new W _ _).alloc _, (by have h := Blk.new (W.alloc (.cells #[.int .i64 0, .int .i64 0, .string ⟨#[]⟩, .int .i64 0, .string ⟨#[]⟩, .string ⟨#[]⟩] 24)) 32 #[.int .i64 0, .int .i64 0]; rw [World.size_alloc] at h; exact h), (by simp only [World.size_alloc]; omega), hm.lt⟩)
  obtain ⟨w1, hw1⟩ : ∃ w1, ((W.alloc (.cells #[.int .i64 0, .int .i64 0, .string ⟨#[]⟩, .int .i64 0, .string ⟨#[]⟩, .string ⟨#[]⟩] 24)).alloc (.cells #[.int .i64 0, .int .i64 0] 32)) = w1 := ⟨_, rfl⟩
  rw [hw1] at HPW0 ⊢
  clear hw1
  have hln : s.data.toList.length = s.size := by simp
  have Hln := hide hln
  clear hln
  go_wp2_with fail
  go_loopw [4] (fun iv wr => ∃ i : Nat, i ≤ s.size ∧ iv = .int .i64 (i : Int) ∧ PW W wr ∧ ∃ st, runB (s.data.toList.take i) = some st) (fun iv _ => s.size - (intOf iv).toNat)
  case atStart => exact ⟨0, by omega, rfl, HPW0.out, _, rfl⟩
  case round =>
    rename World => wr
    obtain ⟨i, hi, rfl, hpw, st, hst⟩ := hrel
    have HPW := hide hpw
    have Hst := hide hst
    have hi4 : i ≤ 400 := by
      have := run_len hst
      rw [List.length_take, Hln.out] at this
      omega
    clear hpw hst HPW0
    by_cases hil : i < s.size
    · have t1 : decide ((i : Int) < (s.size : Int)) = true := by simp; omega
      have t1n : decide (i < s.size) = true := by simp; omega
      have i0 : (0 : Int) ≤ (i : Int) + 1 := by omega
      have i1 : (i : Int) + 1 ≤ (s.size : Int) := by omega
      have tw : IntKind.i64.wrap ((i : Int) + 1) = (i : Int) + 1 := IntWalk.i64_in _ (by omega)
      have hex : (s.extract 0 (i + 1)).data.toList = s.data.toList.take (i + 1) := by rw [Go.Lib.extract_data]; simp
      have hes : (s.extract 0 (i + 1)).size < 4294967281 := by simp; omega
      have HB := hide (begins_any (s.extract 0 (i + 1)) wr hes HPW.out.m)
      have Hex := hide hex
      obtain ⟨c, hc⟩ : ∃ c, s.data.toList[i]? = some c := ⟨_, byteAt hil⟩
      have Hc := hide hc
      clear hex hc
      go_upto_region 5 with (go_at_call 119; refine HB.out.mono ?_; rintro e w2 ⟨may, whole, rfl, hbeg, ho2⟩)
      have HP2 := hide (HPW.out.no ho2)
      have Hbeg := hide hbeg
      clear hbeg ho2 HPW HB
      cases may
      · have hf : stepB st c = none := by
          have h := Hbeg.out.1
          rw [Hex.out, may_take Hst.out Hc.out] at h
          cases hs : stepB st c with
          | none => rfl
          | some x => rw [hs] at h; simp at h
        have HF := hide (show FailB s.data.toList i from ⟨st, by rw [Hln.out]; exact hi, Hst.out, .inr ⟨c, Hc.out, hf⟩⟩)
        clear hf
        go_upto_region 6 with (fail)
        refine wp_region_lit ?_
        refine wpList_plain rfl (fun K hK => ?_)
        go_simp
        refine hK _ _ ?_
        clear hK K
        refine wpList_plain rfl (fun K hK => ?_)
        go_simp
        refine hK _ _ ?_
        clear hK K
        refine wpList_plain rfl (fun K hK => ?_)
        go_simp
        refine hK _ _ ?_
        clear hK K
        refine wpList_plain rfl (fun K hK => ?_)
        refine wp_store_row 24 (.tmp 2) (.tmp 31) rfl W.heap.size #[.int .i64 0, .int .i64 0, .string ⟨#[]⟩, .int .i64 0, .string ⟨#[]⟩, .string ⟨#[]⟩] rfl rfl 24 _ HP2.out.z (by kernel_rfl) (by simp) (by simp [Value.oneCell']) ?_
        refine hK _ _ ?_
        clear hK K
        have HP4 := hide (setRow_blk2 (vs := #[.int .i64 0, .int .i64 0, .string ⟨#[]⟩, .int .i64 0, .string ⟨#[]⟩, .string ⟨#[]⟩]) HP2.out.z)
        have HQ4 := hide (setRow_far (g := W.heap.size) (vs := #[.int .i64 0, .int .i64 0, .string ⟨#[]⟩, .int .i64 0, .string ⟨#[]⟩, .string ⟨#[]⟩]) HP2.out.f (show W.heap.size + 1 ≠ W.heap.size by omega))
        have HO4 := hide (only_setRow (vs := #[.int .i64 0, .int .i64 0, .string ⟨#[]⟩, .int .i64 0, .string ⟨#[]⟩, .string ⟨#[]⟩]) HP2.out.o (Nat.le_refl _))
        refine wpList_plain rfl (fun K hK => ?_)
        refine wp_store_row 32 (.tmp 3) (.tmp 33) rfl (W.heap.size + 1) #[.int .i64 3, .int .i64 (i : Int)] rfl rfl 32 _ HQ4.out (by kernel_rfl) (by simp) (by simp [Value.oneCell']) ?_
        refine hK _ _ ?_
        clear hK K
        have hO5 := only_setRow (g := W.heap.size + 1) (vs := #[.int .i64 3, .int .i64 (i : Int)]) HO4.out (by omega)
        have hP5 := setRow_far (g := W.heap.size + 1) (vs := #[.int .i64 3, .int .i64 (i : Int)]) HP4.out (show W.heap.size ≠ W.heap.size + 1 by omega)
        have hQ5 := setRow_blk2 (vs := #[.int .i64 3, .int .i64 (i : Int)]) HQ4.out
        obtain ⟨z0, z1, z2, z3, z4, z5, -⟩ := hP5.six_
        obtain ⟨q0, q1, -⟩ := hQ5.two_
        go_wp2_with fail
        refine bodyPost_ret (v := .tuple #[.agg #[.int .i64 0, .int .i64 0, .string ⟨#[]⟩, .int .i64 0, .string ⟨#[]⟩, .string ⟨#[]⟩], .agg #[.int .i64 3, .int .i64 (i : Int)]]) (by simp [results, Tryz.results80, go_sem, z0, z1, z2, z3, z4, z5, q0, q1]) rfl ⟨⟨zeroPos, 3, (i : Int), .inl ⟨i, HF.out, rfl, rfl, rfl⟩, rfl⟩, hO5⟩
      · have hf : ∃ st', stepB st c = some st' := by
          have h := Hbeg.out.1.1 rfl
          rw [Hex.out, may_take Hst.out Hc.out] at h
          exact Option.isSome_iff_exists.1 h
        obtain ⟨st', hst'⟩ := hf
        have Hs' := hide hst'
        clear hst'
        go_wp2_with fail
        go_roundw
        case rel => exact ⟨i + 1, by omega, by go_num, HP2.out, st', by rw [run_take_succ Hc.out, Hst.out]; exact Hs'.out⟩
        case measure => simp [intOf]; omega
    · obtain rfl : i = s.size := by omega
      have t1 : decide ((s.size : Int) < (s.size : Int)) = false := by simp
      have Hrun := hide (whole Hst.out)
      have HB := hide (begins_any s wr (by omega) HPW.out.m)
      go_upto_region 8 with (go_at_call 119; refine HB.out.mono ?_; rintro e w2 ⟨may, wh, rfl, hbeg, ho2⟩)
      have HP2 := hide (HPW.out.no ho2)
      have Hbeg := hide hbeg
      clear hbeg ho2 HPW HB Hst t1
      cases wh
      · have HF := hide (show FailB s.data.toList s.size from ⟨st, by rw [Hln.out]; exact Nat.le_refl _, by rw [List.take_of_length_le (by rw [Hln.out]; exact Nat.le_refl _)]; exact Hrun.out, .inl ⟨Hln.out.symm, by
          cases h : accB st with
          | false => rfl
          | true => have := Hbeg.out.2.2 ⟨may_whole Hrun.out h, (whole_run Hrun.out).2 h⟩; cases this⟩⟩)
        go_upto_region 9 with (fail)
        refine wp_region_lit ?_
        refine wpList_plain rfl (fun K hK => ?_)
        go_simp
        refine hK _ _ ?_
        clear hK K
        refine wpList_plain rfl (fun K hK => ?_)
        go_simp
        refine hK _ _ ?_
        clear hK K
        refine wpList_plain rfl (fun K hK => ?_)
        go_simp
        refine hK _ _ ?_
        clear hK K
        refine wpList_plain rfl (fun K hK => ?_)
        go_simp
        refine hK _ _ ?_
        clear hK K
        refine wpList_plain rfl (fun K hK => ?_)
        refine wp_store_row 24 (.tmp 2) (.tmp 41) rfl W.heap.size #[.int .i64 0, .int .i64 0, .string ⟨#[]⟩, .int .i64 0, .string ⟨#[]⟩, .string ⟨#[]⟩] rfl rfl 24 _ HP2.out.z (by kernel_rfl) (by simp) (by simp [Value.oneCell']) ?_
        refine hK _ _ ?_
        clear hK K
        have HP4 := hide (setRow_blk2 (vs := #[.int .i64 0, .int .i64 0, .string ⟨#[]⟩, .int .i64 0, .string ⟨#[]⟩, .string ⟨#[]⟩]) HP2.out.z)
        have HQ4 := hide (setRow_far (g := W.heap.size) (vs := #[.int .i64 0, .int .i64 0, .string ⟨#[]⟩, .int .i64 0, .string ⟨#[]⟩, .string ⟨#[]⟩]) HP2.out.f (show W.heap.size + 1 ≠ W.heap.size by omega))
        have HO4 := hide (only_setRow (vs := #[.int .i64 0, .int .i64 0, .string ⟨#[]⟩, .int .i64 0, .string ⟨#[]⟩, .string ⟨#[]⟩]) HP2.out.o (Nat.le_refl _))
        refine wpList_plain rfl (fun K hK => ?_)
        refine wp_store_row 32 (.tmp 3) (.tmp 44) rfl (W.heap.size + 1) #[.int .i64 3, .int .i64 (s.size : Int)] rfl rfl 32 _ HQ4.out (by kernel_rfl) (by simp) (by simp [Value.oneCell']) ?_
        refine hK _ _ ?_
        clear hK K
        have hO5 := only_setRow (g := W.heap.size + 1) (vs := #[.int .i64 3, .int .i64 (s.size : Int)]) HO4.out (by omega)
        have hP5 := setRow_far (g := W.heap.size + 1) (vs := #[.int .i64 3, .int .i64 (s.size : Int)]) HP4.out (show W.heap.size ≠ W.heap.size + 1 by omega)
        have hQ5 := setRow_blk2 (vs := #[.int .i64 3, .int .i64 (s.size : Int)]) HQ4.out
        obtain ⟨z0, z1, z2, z3, z4, z5, -⟩ := hP5.six_
        obtain ⟨q0, q1, -⟩ := hQ5.two_
        go_wp2_with fail
        refine bodyPost_ret (v := .tuple #[.agg #[.int .i64 0, .int .i64 0, .string ⟨#[]⟩, .int .i64 0, .string ⟨#[]⟩, .string ⟨#[]⟩], .agg #[.int .i64 3, .int .i64 (s.size : Int)]]) (by simp [results, Tryz.results80, go_sem, z0, z1, z2, z3, z4, z5, q0, q1]) rfl ⟨⟨zeroPos, 3, (s.size : Int), .inl ⟨s.size, HF.out, rfl, rfl, rfl⟩, rfl⟩, hO5⟩
      · have hw2 := (Hbeg.out.2.1 rfl).2
        have hacc := (whole_run Hrun.out).1 hw2
        have hpr := posRef_fin Hrun.out hacc
        have hmay := may_whole Hrun.out hacc
        obtain ⟨P, hP⟩ : ∃ P, splitL 32 s.data.toList = P := ⟨_, rfl⟩
        have HPe := hide hP
        have hpl : ∀ a ∈ P, a.length ≤ 400 := fun a ha => by
          have := splitL_mem (c := 32) (l := s.data.toList) (by rw [hP]; exact ha)
          rw [Hln.out] at this
          omega
        rw [hP] at hpr hw2 hmay
        obtain ⟨hP3, hH2, -⟩ := hw2
        have H1 := hide (split_any 32 s w2 (by omega) HP2.out.m)
        rw [hP] at H1
        have HFin := hide (And.intro Hrun.out (And.intro hacc hpr))
        have hR8 := hmay.1.1
        have HP3 := hide hP3
        have HH2 := hide hH2
        have Hpl := hide hpl
        have HR8 := hide hR8
        clear hpr hmay hP hP3 hH2 hpl hR8 hacc Hrun Hbeg
        go_upto_region 11 with (go_at_call 33; refine H1.out.mono ?_; rintro e w3 ⟨np, hnp, rfl, hp, ho3, hsz3⟩; have Hnp := hide hnp; have HS3 := hide hsz3; clear hnp hsz3)
        have hn2 : (2 : Int) < (np : Int) := by rw [Hnp.out, HP3.out]; decide
        have HW3 := hide (HP2.out.no ho3)
        obtain ⟨g1, hg1⟩ : ∃ g1, w2.heap.size = g1 := ⟨_, rfl⟩
        have hg1W : W.heap.size + 2 ≤ g1 := by rw [← hg1]; exact HP2.out.sz
        rw [hg1] at hp HS3 ⊢
        have HA3 := hide hp
        have c0 := hp.cellD (i := 0) (by rw [HP3.out]; omega)
        obtain ⟨q0, hq0⟩ : ∃ q0, P.getD 0 [] = q0 := ⟨_, rfl⟩
        have hq0l : q0.length ≤ 400 := by rw [← hq0]; exact Hpl.out _ (getD_mem (by rw [HP3.out]; omega))
        have H2 := hide (split_any 47 (bytes q0) w3 (by rw [size_bytes]; omega) HW3.out.m)
        rw [bytes_list] at H2
        have HR8' := HR8.out
        rw [headD_getD, hq0] at HR8'
        rw [hq0] at c0
        have Hq0 := hide hq0
        clear hp ho3 hg1 hq0 HP2 HR8 H1
        go_upto_region 12 with (go_at_call 33; refine H2.out.mono ?_; rintro e w4 ⟨nr, hnr, rfl, hr, ho4, hsz4⟩; have Hnr := hide hnr; have HS4 := hide hsz4; clear hnr hsz4)
        obtain ⟨R, hR⟩ : ∃ R, splitL 47 q0 = R := ⟨_, rfl⟩
        have HRe := hide (show splitL 47 (P.getD 0 []) = R from by rw [Hq0.out]; exact hR)
        have hrl : ∀ a ∈ R, a.length ≤ 400 := fun a ha => Nat.le_trans (splitL_mem (by rw [hR]; exact ha)) hq0l
        have hrne : R ≠ [] := by rw [← hR]; exact splitL_ne _ _
        rw [hR] at Hnr hr HR8'
        have hnr0 : 0 < nr := by rw [Hnr.out]; exact List.length_pos_iff.2 hrne
        have hnri : (0 : Int) < (nr : Int) := by omega
        have hnr8 : nr ≤ 8 := by rw [Hnr.out]; exact HR8'
        have HW4 := hide (HW3.out.no ho4)
        have HA4 := hide (show RowsAt w4 g1 P from Blk.only HA3.out ho4 (fun h => h))
        obtain ⟨g2, hg2⟩ : ∃ g2, w3.heap.size = g2 := ⟨_, rfl⟩
        have hg2W : W.heap.size + 2 ≤ g2 := by rw [← hg2]; exact HW3.out.sz
        have hg2l : g2 < w4.heap.size := by rw [HS4.out]; omega
        have hg1l : g1 < w4.heap.size := by rw [HS4.out, HS3.out]; omega
        have hg12 : g1 < g2 := by rw [← hg2, HS3.out]; omega
        have HRl := hide hrl
        rw [hg2] at hr ⊢
        have HB4 := hide hr
        have r0 := hr.cellD (i := 0) (by rw [← Hnr.out]; exact hnr0)
        obtain ⟨z, hz⟩ : ∃ z, bytes (R.getD 0 []) = z := ⟨_, rfl⟩
        have Hz := hide (show z.size = (R.getD 0 []).length from by rw [← hz, size_bytes])
        rw [hz] at r0
        have hz4 : z.size ≤ 400 := by rw [Hz.out]; exact hrl _ (getD_mem (by rw [← Hnr.out]; exact hnr0))
        clear hr ho4 hR hrl hz c0 H2 HW3 HA3 HR8' hrne hg2 HS3 HS4
        go_upto_region 13 with (fail)
        have HB0 := hide (Blk.new w4 24 #[.int .i64 (z.size : Int), .int .i64 (nr : Int), .string ⟨#[]⟩, .int .i64 0, .string ⟨#[]⟩, .string ⟨#[]⟩])
        have hal : Only (fun _ => False) w4 (w4.alloc (.cells #[.int .i64 (z.size : Int), .int .i64 (nr : Int), .string ⟨#[]⟩, .int .i64 0, .string ⟨#[]⟩, .string ⟨#[]⟩] 24)) := (Only.refl _ w4).alloc _
        have HK := hide (fun (w' : World) (ho : Only (fun x => x = w4.heap.size) (w4.alloc (.cells #[.int .i64 (z.size : Int), .int .i64 (nr : Int), .string ⟨#[]⟩, .int .i64 0, .string ⟨#[]⟩, .string ⟨#[]⟩] 24)) w') => (show PW W w' ∧ RowsAt w' g1 P ∧ RowsAt w' g2 R ∧ w4.heap.size < w'.heap.size from
          ⟨(HW4.out.no hal).step ho (fun x hx => by have := HW4.out.sz; omega), Blk.only (Blk.only HA4.out hal (fun h => h)) ho (by omega), Blk.only (Blk.only HB4.out hal (fun h => h)) ho (by omega), by have := ho.size; rw [World.size_alloc] at this; omega⟩))
        obtain ⟨w5, hw5⟩ : ∃ w5, w4.alloc (.cells #[.int .i64 (z.size : Int), .int .i64 (nr : Int), .string ⟨#[]⟩, .int .i64 0, .string ⟨#[]⟩, .string ⟨#[]⟩] 24) = w5 := ⟨_, rfl⟩
        rw [hw5] at HB0 ⊢
        simp only [hw5] at HK
        obtain ⟨gp, hgp⟩ : ∃ gp, w4.heap.size = gp := ⟨_, rfl⟩
        have hgpW : W.heap.size + 2 ≤ gp := by rw [← hgp]; exact HW4.out.sz
        rw [hgp] at HB0 hg1l hg2l ⊢
        simp only [hgp] at HK
        clear hal hw5 hgp HW4 HA4 HB4 r0
        go_wp2_with fail
        go_loopw [12] (fun iv wr => ∃ k : Nat, k ≤ nr ∧ iv = .int .i64 ((nr : Int) - 1 - (k : Int)) ∧ Only (fun x => x = gp) w5 wr ∧ Blk wr gp 24 #[.int .i64 (z.size : Int), .int .i64 (nr : Int), .string (bytes (catR R k)), .int .i64 0, .string ⟨#[]⟩, .string ⟨#[]⟩]) (fun iv _ => (intOf iv + 1).toNat)
        case atStart => exact ⟨0, by omega, by simp, Only.refl _ _, HB0.out⟩
        case round =>
          rename World => wq
          obtain ⟨k, hk, rfl, ho6, hb6⟩ := hrel
          have HO6 := hide ho6
          have HB6 := hide hb6
          clear ho6 hb6 HB0
          by_cases hkl : k < nr
          · obtain ⟨y, hy⟩ : ∃ y : Nat, nr = k + 1 + y := ⟨nr - 1 - k, by omega⟩
            have hye : (nr : Int) - 1 - (k : Int) = (y : Int) := by omega
            have hye2 : (nr : Int) - 1 - ((k + 1 : Nat) : Int) = (y : Int) - 1 := by omega
            have hcat := catR_succ (R := R) (k := k) (by rw [← Hnr.out]; exact hkl)
            rw [← Hnr.out, show nr - 1 - k = y by omega] at hcat
            have hyR : y < R.length := by rw [← Hnr.out]; omega
            have hcl := catR_len (R := R) (k := k) (by rw [← Hnr.out]; exact hnr8) HRl.out
            obtain ⟨hpw6, -, hr6, -⟩ := HK.out wq HO6.out
            have ry := hr6.cellD hyR
            obtain ⟨sr, hsr⟩ : ∃ sr, bytes (R.getD y []) = sr := ⟨_, rfl⟩
            have hsrl : sr.size ≤ 400 := by rw [← hsr, size_bytes]; exact HRl.out _ (getD_mem hyR)
            obtain ⟨sc, hsc⟩ : ∃ sc, bytes (catR R k) = sc := ⟨_, rfl⟩
            have hscl : sc.size ≤ 3200 := by rw [← hsc, size_bytes]; exact hcl
            have Hcat := hide (show bytes (catR R (k + 1)) = sc ++ sr from by rw [hcat, ← bytes_cat, hsc, hsr])
            rw [hsr] at ry
            rw [hsc] at HB6
            obtain ⟨b0, b1, b2, b3, b4, b5, bf⟩ := HB6.out.six_
            have bf2 := bf 2
            have t1 : decide ((0 : Int) ≤ (y : Int)) = true := by simp
            have y0 : (0 : Int) ≤ (y : Int) := by omega
            have y1 : (y : Int) < (nr : Int) := by omega
            have tw : IntKind.i64.wrap ((y : Int) - 1) = (y : Int) - 1 := IntWalk.i64_in _ (by omega)
            have Hye2 := hide hye2
            rw [hye]
            clear hye hye2 hcat hyR hcl hsr hsc hy bf hpw6 hr6
            go_upto_region 16 with (fail)
            go_big_region
            go_wp2_with fail
            go_roundw
            case rel => exact ⟨k + 1, by omega, by rw [Hye2.out], (HO6.out.setCell (p := ⟨gp, 2, none⟩) (.inl rfl) _).drew, by rw [Hcat.out]; exact Blk.set_ HB6.out 2 _⟩
            case measure => simp [intOf]
          · obtain rfl : k = nr := by omega
            have hye : (k : Int) - 1 - (k : Int) = -1 := by omega
            rw [hye]
            clear hye
            obtain ⟨cs, hcs⟩ : ∃ cs, bytes R.reverse.flatten = cs := ⟨_, rfl⟩
            have HB7 := hide (show Blk wq gp 24 #[.int .i64 (z.size : Int), .int .i64 (k : Int), .string cs, .int .i64 0, .string ⟨#[]⟩, .string ⟨#[]⟩] from by rw [← hcs, ← catR_all, ← Hnr.out]; exact HB6.out)
            have Hcs := hide hcs
            obtain ⟨hpw6, hp6, hr6, hl6⟩ := HK.out wq HO6.out
            have c1 := hp6.cellD (i := 1) (by rw [HP3.out]; omega)
            obtain ⟨sb, hsb⟩ : ∃ sb, bytes (P.getD 1 []) = sb := ⟨_, rfl⟩
            have Hsb := hide (show sb.toList = P.getD 1 [] from by rw [← hsb, Go.ByteArray.toList_eq, bytes_list])
            rw [hsb] at c1
            obtain ⟨tv, htv⟩ : ∃ tv : Int, (if P.getD 1 [] = [98] then 1 else 0) = tv := ⟨_, rfl⟩
            have Htv := hide htv
            have hn1 : (1 : Int) < (np : Int) := by omega
            clear hcs HB6 hsb htv hk hkl hpw6 hp6 hr6
            obtain ⟨b0, b1, b2, b3, b4, b5, bf⟩ := HB7.out.six_
            have bf3 := bf 3
            clear bf
            obtain ⟨bv, hbv⟩ : ∃ bv, (sb.toList == [98]) = bv := ⟨_, rfl⟩
            have Hbv := hide hbv
            go_upto_if 76 with (fail)
            clear hbv
            go_cut [] (fun w' => Only (fun x => x = gp) w5 w' ∧ Blk w' gp 24 #[.int .i64 (z.size : Int), .int .i64 (k : Int), .string cs, .int .i64 tv, .string ⟨#[]⟩, .string ⟨#[]⟩])
            case first =>
              cases bv
              · have ht : tv = 0 := by rw [← Htv.out, if_neg (by rw [← Hsb.out]; exact beq_eq_false_iff_ne.1 Hbv.out)]
                subst ht
                go_wp2_with fail
                go_meet
                case rel => exact ⟨HO6.out, HB7.out⟩
              · have ht : tv = 1 := by rw [← Htv.out, if_pos (by rw [← Hsb.out]; exact beq_iff_eq.1 Hbv.out)]
                subst ht
                go_wp2_with fail
                go_meet
                case rel => exact ⟨HO6.out.setCell (p := ⟨gp, 3, none⟩) (.inl rfl) _, Blk.set_ HB7.out 3 _⟩
            case rest =>
              rename World => wv
              obtain ⟨ho7, hb7⟩ := hcut
              have HO8 := hide ho7
              have HB8 := hide hb7
              clear ho7 hb7 HB7 HO6 c1 b0 b1 b2 b3 b4 b5 bf3
              obtain ⟨hpw8, hp8, hr8, hl8⟩ := HK.out wv HO8.out
              have c2 := hp8.cellD (i := 2) (by rw [HP3.out]; omega)
              obtain ⟨q2, hq2⟩ : ∃ q2, P.getD 2 [] = q2 := ⟨_, rfl⟩
              have hq2l : q2.length ≤ 400 := by rw [← hq2]; exact Hpl.out _ (getD_mem (by rw [HP3.out]; omega))
              rw [hq2] at c2
              have H3 := hide (split_any 47 (bytes q2) wv (by rw [size_bytes]; omega) hpw8.m)
              rw [bytes_list] at H3
              have Hq2 := hide hq2
              have HPW8 := hide hpw8
              clear hq2 hp8 hr8 hpw8
              go_upto_region 20 with (go_at_call 33; refine H3.out.mono ?_; rintro e w9 ⟨nh, hnh, rfl, hh, ho9, hsz9⟩; have Hnh := hide hnh; clear hnh hsz9)
              obtain ⟨Hs, hHs⟩ : ∃ Hs, splitL 47 q2 = Hs := ⟨_, rfl⟩
              have HHe := hide (show splitL 47 (P.getD 2 []) = Hs from by rw [Hq2.out]; exact hHs)
              rw [hHs] at Hnh hh
              have hn2' : nh = 2 := by rw [Hnh.out, ← HHe.out]; exact HH2.out
              have hnhi : (1 : Int) < (nh : Int) := by omega
              obtain ⟨g3, hg3⟩ : ∃ g3, wv.heap.size = g3 := ⟨_, rfl⟩
              rw [hg3] at hh ⊢
              have hgp3 : gp < g3 := by omega
              have HH9 := hide hh
              have HB9 := hide (show Blk w9 gp 24 #[.int .i64 (z.size : Int), .int .i64 (k : Int), .string cs, .int .i64 tv, .string ⟨#[]⟩, .string ⟨#[]⟩] from Blk.only HB8.out ho9 (fun h => h))
              have HW9 := hide (HPW8.out.no ho9)
              have hlen2 : 2 = Hs.length := by rw [← Hnh.out, hn2']
              have Hlen2 := hide hlen2
              have hgl9 : gp < w9.heap.size := Nat.lt_of_lt_of_le hl8 ho9.size
              clear hh ho9 hHs HB8 HO8 c2 hg3 H3 HPW8 hl8 hn2' hlen2
              obtain ⟨ha, hha⟩ : ∃ ha, undash (Hs.getD 0 []) = ha := ⟨_, rfl⟩
              obtain ⟨hb, hhb⟩ : ∃ hb, undash (Hs.getD 1 []) = hb := ⟨_, rfl⟩
              have Hha := hide hha
              have Hhb := hide hhb
              clear hha hhb
              go_wp2_with fail
              go_loopw [14] (fun iv wr => ∃ q : Nat, q ≤ 2 ∧ iv = .int .i64 (q : Int) ∧ Only (fun x => x = gp) w9 wr ∧ Blk wr gp 24 #[.int .i64 (z.size : Int), .int .i64 (k : Int), .string cs, .int .i64 tv, .string (bytes (if q = 0 then [] else ha)), .string (bytes (if q ≤ 1 then [] else hb))]) (fun iv _ => 2 - (intOf iv).toNat)
              case atStart => exact ⟨0, by omega, rfl, Only.refl _ _, HB9.out⟩
              case round =>
                rename World => wx
                obtain ⟨q, hq, rfl, hox, hbx⟩ := hrel
                have HOx := hide hox
                have HBx := hide hbx
                have hhx := hide (show RowsAt wx g3 Hs from Blk.only HH9.out hox (by omega))
                clear hox hbx HB9
                rcases (show q = 0 ∨ q = 1 ∨ q = 2 by omega) with rfl | rfl | rfl
                · have ch := hhx.out.cellD (i := 0) (by rw [← Hlen2.out]; omega)
                  obtain ⟨sh, hsh⟩ : ∃ sh, bytes (Hs.getD 0 []) = sh := ⟨_, rfl⟩
                  have Hsh := hide hsh
                  have Hstl := hide (show sh.toList = Hs.getD 0 [] from by rw [← hsh, Go.ByteArray.toList_eq, bytes_list])
                  rw [hsh] at ch
                  clear hsh
                  obtain ⟨b0, b1, b2, b3, b4, b5, bf⟩ := HBx.out.six_
                  have bf4 := bf 4
                  clear bf
                  by_cases e1 : sh.toList = [45]
                  · have q1 : (sh.toList == [45]) = true := by rw [e1]; rfl
                    have Hu := hide (show ha = [] from by rw [← Hha.out, ← Hstl.out, e1]; rfl)
                    clear e1
                    go_wp2_with fail
                    go_roundw
                    case rel => exact ⟨1, by omega, by go_num, HOx.out, by have h := HBx.out; simp at h ⊢; rw [Hu.out]; exact h⟩
                    case measure => simp [intOf]
                  · have q1 : (sh.toList == [45]) = false := by rw [beq_eq_false_iff_ne]; exact e1
                    have Hu := hide (show bytes ha = sh from by rw [← Hha.out, undash, if_neg (by rw [← Hstl.out]; exact e1), Hsh.out])
                    clear e1
                    go_wp2_with fail
                    go_roundw
                    case rel => exact ⟨1, by omega, by go_num, HOx.out.setCell (p := ⟨gp, 4, none⟩) (.inl rfl) _, by
                      have h := Blk.set_ HBx.out 4 (.string sh)
                      simp at h ⊢
                      rw [Hu.out]
                      exact h⟩
                    case measure => simp [intOf]
                · have ch := hhx.out.cellD (i := 1) (by rw [← Hlen2.out]; omega)
                  obtain ⟨sh, hsh⟩ : ∃ sh, bytes (Hs.getD 1 []) = sh := ⟨_, rfl⟩
                  have Hsh := hide hsh
                  have Hstl := hide (show sh.toList = Hs.getD 1 [] from by rw [← hsh, Go.ByteArray.toList_eq, bytes_list])
                  rw [hsh] at ch
                  clear hsh
                  obtain ⟨b0, b1, b2, b3, b4, b5, bf⟩ := HBx.out.six_
                  have bf4 := bf 5
                  clear bf
                  by_cases e1 : sh.toList = [45]
                  · have q1 : (sh.toList == [45]) = true := by rw [e1]; rfl
                    have Hu := hide (show hb = [] from by rw [← Hhb.out, ← Hstl.out, e1]; rfl)
                    clear e1
                    go_wp2_with fail
                    go_roundw
                    case rel => exact ⟨2, by omega, by go_num, HOx.out, by have h := HBx.out; simp at h ⊢; rw [Hu.out]; exact h⟩
                    case measure => simp [intOf]
                  · have q1 : (sh.toList == [45]) = false := by rw [beq_eq_false_iff_ne]; exact e1
                    have Hu := hide (show bytes hb = sh from by rw [← Hhb.out, undash, if_neg (by rw [← Hstl.out]; exact e1), Hsh.out])
                    clear e1
                    go_wp2_with fail
                    go_roundw
                    case rel => exact ⟨2, by omega, by go_num, HOx.out.setCell (p := ⟨gp, 5, none⟩) (.inl rfl) _, by
                      have h := Blk.set_ HBx.out 5 (.string sh)
                      simp at h ⊢
                      rw [Hu.out]
                      exact h⟩
                    case measure => simp [intOf]
                · have HWx := hide (HW9.out.step HOx.out (fun x hx => by omega))
                  have hbx : Blk wx gp 24 #[.int .i64 (z.size : Int), .int .i64 (k : Int), .string cs, .int .i64 tv, .string (bytes ha), .string (bytes hb)] := HBx.out
                  have Hpq := hide (show (⟨(z.size : Int), (k : Int), cs, tv, bytes ha, bytes hb⟩ : Pos) = finB st from by
                    rw [← HFin.out.2.2]
                    unfold posRef
                    simp only [HRe.out, HHe.out, Hha.out, Hhb.out, Hcs.out, Htv.out, ← Hz.out, ← Hnr.out])
                  obtain ⟨b0, b1, b2, b3, b4, b5, -⟩ := hbx.six_
                  go_upto_region 25 with (fail)
                  refine wp_region_lit ?_
                  refine wpList_plain rfl (fun K hK => ?_)
                  go_simp
                  refine hK _ _ ?_
                  clear hK K
                  refine wpList_plain rfl (fun K hK => ?_)
                  go_simp
                  refine hK _ _ ?_
                  clear hK K
                  refine wpList_plain rfl (fun K hK => ?_)
                  refine wp_store_row 24 (.tmp 2) (.tmp 98) rfl W.heap.size #[.int .i64 (z.size : Int), .int .i64 (k : Int), .string cs, .int .i64 tv, .string (bytes ha), .string (bytes hb)] rfl rfl 24 _ HWx.out.z (by kernel_rfl) (by simp) (by simp [Value.oneCell']) ?_
                  refine hK _ _ ?_
                  clear hK K
                  have HP4 := hide (setRow_blk2 (vs := #[.int .i64 (z.size : Int), .int .i64 (k : Int), .string cs, .int .i64 tv, .string (bytes ha), .string (bytes hb)]) HWx.out.z)
                  have HQ4 := hide (setRow_far (g := W.heap.size) (vs := #[.int .i64 (z.size : Int), .int .i64 (k : Int), .string cs, .int .i64 tv, .string (bytes ha), .string (bytes hb)]) HWx.out.f (show W.heap.size + 1 ≠ W.heap.size by omega))
                  have HO4 := hide (only_setRow (vs := #[.int .i64 (z.size : Int), .int .i64 (k : Int), .string cs, .int .i64 tv, .string (bytes ha), .string (bytes hb)]) HWx.out.o (Nat.le_refl _))
                  refine wpList_plain rfl (fun K hK => ?_)
                  refine wp_store_row 32 (.tmp 3) (.tmp 99) rfl (W.heap.size + 1) #[.int .i64 0, .int .i64 0] rfl rfl 32 _ HQ4.out (by kernel_rfl) (by simp) (by simp [Value.oneCell']) ?_
                  refine hK _ _ ?_
                  clear hK K
                  have hO5 := only_setRow (g := W.heap.size + 1) (vs := #[.int .i64 0, .int .i64 0]) HO4.out (by omega)
                  have hP5 := setRow_far (g := W.heap.size + 1) (vs := #[.int .i64 0, .int .i64 0]) HP4.out (show W.heap.size ≠ W.heap.size + 1 by omega)
                  have hQ5 := setRow_blk2 (vs := #[.int .i64 0, .int .i64 0]) HQ4.out
                  obtain ⟨z0, z1, z2, z3, z4, z5, -⟩ := hP5.six_
                  obtain ⟨q0, q1, -⟩ := hQ5.two_
                  go_wp2_with fail
                  refine bodyPost_ret (v := .tuple #[.agg #[.int .i64 (z.size : Int), .int .i64 (k : Int), .string cs, .int .i64 tv, .string (bytes ha), .string (bytes hb)], .agg #[.int .i64 0, .int .i64 0]]) (by simp [results, Tryz.results80, go_sem, z0, z1, z2, z3, z4, z5, q0, q1]) rfl ⟨⟨⟨(z.size : Int), (k : Int), cs, tv, bytes ha, bytes hb⟩, 0, 0, .inr ⟨st, HFin.out.1, HFin.out.2.1, Hpq.out, rfl, rfl⟩, rfl⟩, hO5⟩
end Go.Proofs.YtcdfeaodfmfdnaaGreatDoor
