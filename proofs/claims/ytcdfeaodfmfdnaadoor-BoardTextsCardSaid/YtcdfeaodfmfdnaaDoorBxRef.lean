/- gameref.Text: walked. -/
import Derived.Test.YtcdfeaodfmfdnaaDoorBxWrite
import Derived.Test.YtcdfeaodfmfdnaaDoorBxParP
namespace Go.Proofs.YtcdfeaodfmfdnaaDoor
open Go.RowKit

theorem bytes_of (s : ByteArray) : bytes s.data.toList = s := by simp [bytes]
theorem dash_s {h : ByteArray} (e : h.toList.isEmpty = false) : bytes (dashL h.data.toList) = h := by rw [dash_full e, bytes_of]
theorem dash_s' {h : ByteArray} (e : h.toList.isEmpty = true) : bytes (dashL h.data.toList) = ⟨#[45]⟩ := by rw [dash_empty e]; rfl
set_option maxHeartbeats 8000000 in
set_option maxRecDepth 100000 in
theorem text_any (p : Pos) (W : World) (hp : PosOk p) :
    Calls Tryd.prog 12 #[.agg #[.int .i64 p.w, .int .i64 p.h, .string p.cells, .int .i64 p.turn, .string p.h0, .string p.h1]] W fun e w' => e = .returned (.string (bytes (textL p))) ∧ Below W.heap.size W w' := by
  have hp' := hp
  obtain ⟨w, h, c, t, h0, h1⟩ := p
  obtain ⟨w1, w8, h1', h8, hsz, t0, t1, hh0, hh1, -⟩ := hp'
  simp only at w1 w8 h1' h8 hsz t0 t1 hh0 hh1
  obtain ⟨wn, rfl⟩ : ∃ n : Nat, w = (n : Int) := ⟨w.toNat, by omega⟩
  obtain ⟨hn, rfl⟩ : ∃ n : Nat, h = (n : Int) := ⟨h.toNat, by omega⟩
  have hcl : c.data.toList.length = wn * hn := by
    have : (c.size : Int) = ((wn * hn : Nat) : Int) := by rw [hsz]; simp
    have h2 : c.data.toList.length = c.size := by simp
    omega
  have hl0 := (handB_true.1 hh0).1
  have hl1 := (handB_true.1 hh1).1
  have m64 := mul_in w1 w8 h1' h8
  clear hp hh0 hh1
  go_enter Tryd.func12, Tryd.ntmps12
  go_upto_region 1 with (fail)
  have HB0 := hide (below_fresh W (.cells #[.int .i64 (wn : Int), .int .i64 (hn : Int), .string c, .int .i64 t, .string h0, .string h1] 24))
  have HP0 := hide (Blk.new W 24 #[.int .i64 (wn : Int), .int .i64 (hn : Int), .string c, .int .i64 t, .string h0, .string h1])
  generalize W.alloc (.cells #[.int .i64 (wn : Int), .int .i64 (hn : Int), .string c, .int .i64 t, .string h0, .string h1] 24) = w0 at *
  obtain ⟨p0, p1, p2, p3, p4, p5⟩ := Blk.cells6 HP0.out
  go_wp2_with fail
  go_loopw [3, 4] (fun sv iv wr => ∃ i : Nat, i ≤ hn ∧ iv = .int .i64 (i : Int) ∧ sv = .string (bytes (joinK c.data.toList wn hn i)) ∧ wr = w0) (fun _ iv _ => hn - (intOf iv).toNat)
  case atStart => exact ⟨0, by omega, rfl, rfl, rfl⟩
  case round =>
    obtain ⟨k, hk, rfl, rfl, rfl⟩ := hrel
    rename World => w0
    obtain ⟨p0, p1, p2, p3, p4, p5⟩ := Blk.cells6 HP0.out
    have hjl := joinK_len hcl hk (by omega) (by omega)
    by_cases hkl : k < hn
    · obtain ⟨y, hy⟩ : ∃ y : Nat, hn = k + 1 + y := ⟨hn - 1 - k, by omega⟩
      have hyr : hn - 1 - k = y := by omega
      have Hone := hide (joinK_one c.data.toList wn hn)
      have Hnext := hide (fun h => joinK_succ c.data.toList wn hn k h)
      rw [hyr] at Hnext
      have le1 : y * wn ≤ (y + 1) * wn := Nat.mul_le_mul_right _ (by omega)
      have le2 : (y + 1) * wn ≤ wn * hn := by rw [Nat.mul_comm]; exact Nat.mul_le_mul_left _ (by omega)
      have le3 : ((wn * hn : Nat) : Int) ≤ 64 := by rw [Int.natCast_mul]; exact m64.2
      have lcs : c.size = wn * hn := by rw [← hcl]; simp
      have e1 : (hn : Int) - 1 - (k : Int) = (y : Int) := by omega
      have e2 : (hn : Int) - (k : Int) = (y : Int) + 1 := by omega
      have m5 : IntKind.i64.wrap ((hn : Int) - 1) = (hn : Int) - 1 := IntWalk.i64_in _ (by omega)
      have m9 : IntKind.i64.wrap ((hn : Int) - 1 - (k : Int)) = (y : Int) := by rw [e1]; exact IntWalk.i64_in _ (by omega)
      have m10 : IntKind.i64.wrap ((hn : Int) - (k : Int)) = (y : Int) + 1 := by rw [e2]; exact IntWalk.i64_in _ (by omega)
      have m6 : IntKind.i64.wrap ((y : Int) * (wn : Int)) = ((y * wn : Nat) : Int) := by rw [Int.natCast_mul]; exact IntWalk.i64_in _ (by rw [← Int.natCast_mul]; omega)
      have m8 : IntKind.i64.wrap (((y : Int) + 1) * (wn : Int)) = (((y + 1) * wn : Nat) : Int) := by rw [Int.natCast_mul]; exact IntWalk.i64_in _ (by rw [show ((y : Int) + 1) = ((y + 1 : Nat) : Int) from rfl, ← Int.natCast_mul]; omega)
      have hext := ext_row c wn y
      have t1 : decide ((k : Int) < (hn : Int)) = true := by simp; omega
      have t1n : decide (k < hn) = true := by simp; omega
      obtain ⟨lo, hlo⟩ : ∃ lo, y * wn = lo := ⟨_, rfl⟩
      obtain ⟨hi, hhi⟩ : ∃ hi, (y + 1) * wn = hi := ⟨_, rfl⟩
      rw [hlo] at m6 le1 hext
      rw [hhi] at m8 le1 le2 hext
      have les : (hi : Int) ≤ (c.size : Int) := by omega
      have lhi : (lo : Int) ≤ (hi : Int) := by omega
      have hsz73 : c.size ≤ 64 := by omega
      have hxs : (c.extract lo hi).size ≤ 64 := by simp; omega
      obtain ⟨sj, hsj⟩ : ∃ sj, bytes (joinK c.data.toList wn hn k) = sj := ⟨_, rfl⟩
      have hsjl : sj.size ≤ 72 := by rw [← hsj, size_bytes]; exact hjl
      have Hsj := hide hsj
      have Hext := hide (show c.extract lo hi = bytes (rowL c.data.toList wn y) from by rw [← hext, bytes_of])
      rw [hsj]
      have Hyr := hide hyr
      have He := hide (And.intro e1 e2)
      have Hy := hide hy
      clear hlo hhi hext hyr hy le1 le2 le3 lcs hsz hsj e1 e2
      go_upto_region 6 with (fail)
      by_cases hk0 : k = 0
      · have d1 : decide ((0 : Int) < (k : Int)) = false := by simp; omega
        have d1n : decide (0 < k) = false := by simp; omega
        have Hv := hide (show bytes (joinK c.data.toList wn hn (k + 1)) = sj ++ c.extract lo hi from by
          rw [← Hsj.out, Hext.out, bytes_cat, hk0]
          have h := Hone.out
          rw [← Hyr.out, hk0]
          simp only [Nat.sub_zero]
          rw [h]
          simp [joinK, topL, joinL])
        clear hk0
        go_wp2_with fail
        go_roundw
        case rel => exact ⟨k + 1, by omega, by go_num, by rw [Hv.out], trivial⟩
        case measure => simp [intOf]; omega
      · have d1 : decide ((0 : Int) < (k : Int)) = true := by simp; omega
        have d1n : decide (0 < k) = true := by simp; omega
        have Hv := hide (show bytes (joinK c.data.toList wn hn (k + 1)) = sj ++ ⟨#[47]⟩ ++ c.extract lo hi from by
          rw [Hnext.out (by omega), ← Hsj.out, Hext.out, show (⟨#[47]⟩ : ByteArray) = bytes [47] from rfl, bytes_cat, bytes_cat]
          simp)
        clear hk0
        go_wp2_with fail
        go_roundw
        case rel => exact ⟨k + 1, by omega, by go_num, by rw [Hv.out], trivial⟩
        case measure => simp [intOf]; omega
    · obtain rfl : k = hn := by omega
      have d1 : decide ((k : Int) < (k : Int)) = false := by simp
      obtain ⟨sj, hsj⟩ : ∃ sj, bytes (joinK c.data.toList wn k k) = sj := ⟨_, rfl⟩
      have hsjl : sj.size ≤ 72 := by rw [← hsj, size_bytes]; exact hjl
      have Htx := hide (show bytes (textL ⟨(wn : Int), (k : Int), c, t, h0, h1⟩) = sj ++ (bytes (if t = 0 then [32, 119, 32] else [32, 98, 32]) ++ bytes (dashL h0.data.toList) ++ ⟨#[47]⟩ ++ bytes (dashL h1.data.toList)) from by
        rw [← hsj, show (⟨#[47]⟩ : ByteArray) = bytes [47] from rfl, bytes_cat, bytes_cat, bytes_cat, bytes_cat]
        simp [textL])
      rw [hsj]
      clear hsj hkl hk hjl
      obtain ⟨ts, hts⟩ : ∃ ts : ByteArray, bytes (if t = 0 then [32, 119, 32] else [32, 98, 32]) = ts := ⟨_, rfl⟩
      have Hts := hide hts
      rw [hts] at Htx
      have hts3 : ts.size = 3 := by rw [← hts, size_bytes]; split <;> rfl
      obtain ⟨bt, hbt⟩ : ∃ bt, ((t : Int) == 0) = bt := ⟨_, rfl⟩
      have Hbt := hide hbt
      clear hts
      go_upto_if 41 with (fail)
      clear hbt
      go_cut [3] (fun x w' => x = .string (sj ++ ts) ∧ w' = w0)
      case first =>
        cases bt
        · have hb : ts = ⟨#[32, 98, 32]⟩ := by rw [← Hts.out, if_neg (beq_eq_false_iff_ne.1 Hbt.out)]; rfl
          subst hb
          go_wp2_with fail
          go_meet
          case rel => exact ⟨rfl, rfl⟩
        · have hb : ts = ⟨#[32, 119, 32]⟩ := by rw [← Hts.out, if_pos (beq_iff_eq.1 Hbt.out)]; rfl
          subst hb
          go_wp2_with fail
          go_meet
          case rel => exact ⟨rfl, rfl⟩
      case rest =>
        obtain ⟨rfl, rfl⟩ := hcut
        rename World => w0
        obtain ⟨sk, hsk⟩ : ∃ sk, sj ++ ts = sk := ⟨_, rfl⟩
        have hskl : sk.size ≤ 75 := by rw [← hsk, ByteArray.size_append]; omega
        have Hsk := hide hsk
        have hh0 : h0.size ≤ 8 := by simp at hl0; omega
        have hh1 : h1.size ≤ 8 := by simp at hl1; omega
        rw [hsk]
        clear hsk
        go_upto_region 12 with (fail)
        go_quiet (fail)
        cases e0 : h0.toList.isEmpty <;> cases e1 : h1.toList.isEmpty
        · have Hd := hide (And.intro (dash_s e0) (dash_s e1))
          go_wp2_with fail
          go_ret
          exact ⟨by rw [Htx.out, Hd.out.1, Hd.out.2, ← Hsk.out]; simp [ByteArray.append_assoc], ⟨HB0.out.os, HB0.out.tape, HB0.out.output, HB0.out.size, HB0.out.block⟩⟩
        · have Hd := hide (And.intro (dash_s e0) (dash_s' e1))
          go_wp2_with fail
          go_ret
          exact ⟨by rw [Htx.out, Hd.out.1, Hd.out.2, ← Hsk.out]; simp [ByteArray.append_assoc], ⟨HB0.out.os, HB0.out.tape, HB0.out.output, HB0.out.size, HB0.out.block⟩⟩
        · have Hd := hide (And.intro (dash_s' e0) (dash_s e1))
          go_wp2_with fail
          go_ret
          exact ⟨by rw [Htx.out, Hd.out.1, Hd.out.2, ← Hsk.out]; simp [ByteArray.append_assoc], ⟨HB0.out.os, HB0.out.tape, HB0.out.output, HB0.out.size, HB0.out.block⟩⟩
        · have Hd := hide (And.intro (dash_s' e0) (dash_s' e1))
          go_wp2_with fail
          go_ret
          exact ⟨by rw [Htx.out, Hd.out.1, Hd.out.2, ← Hsk.out]; simp [ByteArray.append_assoc], ⟨HB0.out.os, HB0.out.tape, HB0.out.output, HB0.out.size, HB0.out.block⟩⟩
end Go.Proofs.YtcdfeaodfmfdnaaDoor
