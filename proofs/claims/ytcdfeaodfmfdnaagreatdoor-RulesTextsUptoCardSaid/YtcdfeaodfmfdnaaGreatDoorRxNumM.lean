/- rules.number: what it says of a text; what the library's own variables hold. rules.number and rules.letter: walked. gameref.count: the document's numerals, walked. -/
import Derived.Test.YtcdfeaodfmfdnaaGreatDoorBxSplit
import Derived.Test.YtcdfeaodfmfdnaaGreatDoorRxShelf
import Derived.Lib.SmallJoins
import Derived.Lib.AppendIntMem
import Derived.Test.YtcdfeaodfmfdnaaGreatDoorBoardHand
namespace Go.Proofs.YtcdfeaodfmfdnaaGreatDoor
open Go.RowKit

theorem b_of_only {W w : World} (h : Only (fun _ => False) W w) : Below W.heap.size W w := ⟨h.os, h.tape, h.output, h.size, fun i hi => h.block i hi (fun h => h)⟩
theorem only_of_b {W w : World} (h : Below W.heap.size W w) : Only (fun _ => False) W w := ⟨h.os, h.tape, h.output, h.size, fun i hi _ => h.block i hi⟩
theorem digit_of {d : Nat} (h : d < 10) : Lib.digitVal (UInt8.ofNat (48 + d)) = some d := by
  have : ∀ d : Fin 10, Lib.digitVal (UInt8.ofNat (48 + d.val)) = some d.val := by decide
  exact this ⟨d, h⟩
theorem decFrom_snoc {l : List UInt8} {a m d : Nat} {c : UInt8} (h : Lib.decFrom a l = some m) (hc : Lib.digitVal c = some d) : Lib.decFrom a (l ++ [c]) = some (m * 10 + d) := by
  have h2 := Lib.decFrom_take (l ++ [c]) l.length a m c d (by simpa using h) (by simp) hc
  rwa [List.take_of_length_le (by simp)] at h2
theorem decFrom_dec : ∀ (m : Nat), Lib.decFrom 0 (Lib.decDigits m) = some m := by
  intro m
  induction m using Nat.strongRecOn with
  | _ m ih =>
    by_cases h : m < 10
    · rw [Lib.decDigits_one h]
      rw [Lib.decFrom, digit_of h]
      simp [Lib.decFrom]
    · rw [Lib.decDigits, dif_neg h, decFrom_snoc (ih (m / 10) (by omega)) (digit_of (by omega))]
      congr 1
      omega
theorem dec_cons (m : Nat) : ∃ d r, d < 10 ∧ Lib.decDigits m = UInt8.ofNat (48 + d) :: r := by
  induction m using Nat.strongRecOn with
  | _ m ih =>
    by_cases h : m < 10
    · exact ⟨m, [], h, Lib.decDigits_one h⟩
    · obtain ⟨d, r, h1, h2⟩ := ih (m / 10) (by omega)
      exact ⟨d, r ++ [UInt8.ofNat (48 + m % 10)], h1, by rw [Lib.decDigits, dif_neg h, h2]; rfl⟩
theorem not_sign {d : Nat} (h : d < 10) : (UInt8.ofNat (48 + d) == 45) = false ∧ (UInt8.ofNat (48 + d) == 43) = false := by
  have : ∀ d : Fin 10, (UInt8.ofNat (48 + d.val) == 45) = false ∧ (UInt8.ofNat (48 + d.val) == 43) = false := by decide
  exact this ⟨d, h⟩
theorem atoi_dec (m : Nat) : Lib.atoi (Lib.decDigits m) = some (m : Int) := by
  have hd := decFrom_dec m
  obtain ⟨d, r, h1, h2⟩ := dec_cons m
  rw [h2] at hd ⊢
  obtain ⟨n1, n2⟩ := not_sign h1
  simp only [Lib.atoi, n1, n2, Bool.false_eq_true, if_false, Lib.decNat, List.isEmpty_cons, hd, Option.map_some]
theorem dec_len {m : Nat} (h : m ≤ 9999) : (Lib.decDigits m).length ≤ 4 := by
  rw [Lib.decDigits]
  split
  · simp
  · rw [Lib.decDigits]
    split
    · simp
    · rw [Lib.decDigits]
      split
      · simp
      · rw [Lib.decDigits, dif_pos (by omega)]
        simp
theorem dec_small {m : Nat} (h : (Lib.decDigits m).length ≤ 4) : m ≤ 9999 := by
  have h1 := Lib.lt_pow_nDigits m
  rw [Lib.decDigits_length] at h
  have h2 : 10 ^ Lib.nDigits m ≤ 10 ^ 4 := Nat.pow_le_pow_right (by omega) h
  omega
/-- what number says of a text -/
def NumP (l : List UInt8) (n : Int) (ok : Bool) : Prop := (ok = true → ∃ m : Nat, n = m ∧ m ≤ 9999 ∧ l = Lib.decDigits m) ∧ ∀ m : Nat, m ≤ 9999 → l = Lib.decDigits m → ok = true
theorem num_none {l : List UInt8} {n : Int} (h : Lib.atoi l = none) : NumP l n false :=
  ⟨fun h => (by cases h), fun m _ hl => by rw [hl, atoi_dec] at h; cases h⟩
theorem num_long {l : List UInt8} {n : Int} (h : ¬ l.length ≤ 4) : NumP l n false :=
  ⟨fun h => (by cases h), fun m hm hl => absurd (by rw [hl]; exact dec_len hm) h⟩
theorem num_some {l : List UInt8} {n : Int} (h : Lib.atoi l = some n) (h4 : l.length ≤ 4) : NumP l n ((Lib.itoa n == l) && decide (0 ≤ n)) := by
  refine ⟨fun ht => ?_, fun m hm hl => ?_⟩
  · rw [Bool.and_eq_true, beq_iff_eq, decide_eq_true_eq] at ht
    obtain ⟨h1, h2⟩ := ht
    obtain ⟨m, rfl⟩ : ∃ m : Nat, n = m := ⟨n.toNat, by omega⟩
    rw [Lib.itoa_nonneg] at h1
    exact ⟨m, rfl, dec_small (by rw [h1]; exact h4), h1.symm⟩
  · rw [hl, atoi_dec] at h
    cases h
    rw [Lib.itoa_nonneg, hl]
    simp
/-- what the library's own variables hold -/
structure Env (w : World) : Prop where
  m : MaxAt w
  es : ∃ ev, w.cell? ⟨3, 0, none⟩ = some ev ∧ (ev = .nilIface ∨ ∃ te pe, ev = .iface te pe)
  er : ∃ ev, w.cell? ⟨4, 0, none⟩ = some ev ∧ (ev = .nilIface ∨ ∃ te pe, ev = .iface te pe)
  tb : Lib.TabIs Tryz.prog w "internal/strconv.uint64pow10" .u64 Lib.pow10Tab
theorem cell_lt_ {w : World} {a : Addr} {v : Value} (h : w.cell? a = some v) : a.block < w.heap.size := by
  rcases Nat.lt_or_ge a.block w.heap.size with h' | h'
  · exact h'
  · simp [World.cell?, Array.getElem?_eq_none h'] at h
theorem cell_only {w w' : World} {a : Addr} {v : Value} (h : w.cell? a = some v) (ho : Only (fun _ => False) w w') : w'.cell? a = some v := by
  rw [← h]
  simp only [World.cell?, ho.block a.block (cell_lt_ h) (fun h => h)]
theorem Env.no {w w' : World} (h : Env w) (ho : Only (fun _ => False) w w') : Env w' := by
  obtain ⟨e1, h1, k1⟩ := h.es
  obtain ⟨e2, h2, k2⟩ := h.er
  exact ⟨h.m.only ho, ⟨e1, cell_only h1 ho, k1⟩, ⟨e2, cell_only h2 ho, k2⟩, Go.Joins.var_stays (g := 5) (by kernel_rfl) h.tb (b_of_only ho) (Nat.le_refl _)⟩
end Go.Proofs.YtcdfeaodfmfdnaaGreatDoor
namespace Go.Proofs.YtcdfeaodfmfdnaaGreatDoor
open Go.RowKit

theorem decNat_lt {l : List UInt8} {m : Nat} (h : Lib.decNat l = some m) (hl : l.length ≤ 18) : m < 1000000000000000000 := Lib.decFrom_lt18 (Lib.decNat_some h).2 hl
theorem atoi_lt {l : List UInt8} {n : Int} (h : Lib.atoi l = some n) (hl : l.length ≤ 18) : -1000000000000000000 < n ∧ n < 1000000000000000000 := by
  cases l with
  | nil => simp [Lib.atoi] at h
  | cons b r =>
    simp only [List.length_cons] at hl
    simp only [Lib.atoi] at h
    split at h
    · obtain ⟨m, hm, rfl⟩ := Option.map_eq_some_iff.1 h
      have := decNat_lt hm (by omega)
      omega
    · split at h
      · obtain ⟨m, hm, rfl⟩ := Option.map_eq_some_iff.1 h
        have := decNat_lt hm (by omega)
        omega
      · obtain ⟨m, hm, rfl⟩ := Option.map_eq_some_iff.1 h
        have := decNat_lt hm (by simp; omega)
        omega
def NumOut (s : ByteArray) (w : World) (e : Ending) (w' : World) : Prop := (∃ n ok, e = .returned (.tuple #[.int .i64 n, .bool ok]) ∧ NumP s.data.toList n ok) ∧ Only (fun _ => False) w w'
set_option maxHeartbeats 2000000 in
set_option maxRecDepth 100000 in
theorem number_any (s : ByteArray) (w : World) (hs : s.size ≤ 281474976710656) (he : Env w) :
    Calls Tryz.prog 77 #[.string s] w (NumOut s w) := by
  have hll : s.data.toList.length = s.size := by simp
  have Hll := hide hll
  clear hll
  by_cases h18 : s.size ≤ 18
  · cases hA : Lib.atoi s.data.toList with
    | none =>
      obtain ⟨ev, h1, h2⟩ := he.es
      have HC := hide (Tryz.strconv_Atoi_err s h18 hA ev w h1 h2)
      have HA := hide hA
      clear hA h1 he
      go_enter Tryz.func77, Tryz.ntmps77
      go_upto_region 2 with (go_at_call 67; refine HC.out.mono ?_; rintro e w1 ⟨N, rfl, -, -, hb⟩)
      go_wp2_with fail
      go_ret2
      exact ⟨⟨_, false, rfl, num_none HA.out⟩, only_of_b hb⟩
    | some n =>
      have HC := hide (Tryz.strconv_Atoi s n h18 hA w)
      have HA := hide hA
      obtain ⟨r1, r2⟩ := atoi_lt hA (by rw [Hll.out]; exact h18)
      clear hA
      go_enter Tryz.func77, Tryz.ntmps77
      go_upto_region 2 with (go_at_call 67; refine HC.out.mono ?_; rintro e w1 ⟨rfl, t, hw1⟩; have Hw1 := hide hw1; clear hw1)
      have ho1 : Only (fun _ => False) w w1 := by rw [Hw1.out]; exact only_of_b (Go.Joins.below_bytesWorld w.heap.size w _ t (Nat.le_refl _))
      have HE := hide (he.no ho1)
      have HO := hide ho1
      clear ho1 he
      by_cases h4 : s.size ≤ 4
      · have d1 : decide ((s.size : Int) ≤ 4) = true := by simp; omega
        have d1n : decide (s.size ≤ 4) = true := by simp; omega
        have HN := hide (num_some HA.out (by rw [Hll.out]; exact h4))
        have HI := hide (Tryz.strconv_Itoa n (by omega) (by omega) w1 HE.out.tb)
        obtain ⟨sn, hsn⟩ : ∃ sn : ByteArray, ⟨(Lib.itoa n).toArray⟩ = sn := ⟨_, rfl⟩
        obtain ⟨b1, hb1⟩ : ∃ b1, (sn.toList == s.toList) = b1 := ⟨_, rfl⟩
        have hb2 : (Lib.itoa n == s.data.toList) = b1 := by
          rw [← hb1, ← hsn, Go.ByteArray.toList_eq, Go.ByteArray.toList_eq]
        have Hb2 := hide hb2
        rw [hsn] at HI
        clear hsn hb2
        cases b1
        · go_wp2_with (go_at_call 29; refine HI.out.mono ?_; rintro e w2 ⟨rfl, k, os, rfl⟩)
          go_ret2
          exact ⟨⟨_, false, rfl, by have h := HN.out; rw [Hb2.out] at h; exact h⟩, HO.out.trans (only_of_b (Lib.below_grow w1.heap.size w1 (Nat.le_refl _) k os))⟩
        · by_cases h0 : 0 ≤ n
          · have d2 : decide ((0 : Int) ≤ n) = true := by simp [h0]
            go_wp2_with (go_at_call 29; refine HI.out.mono ?_; rintro e w2 ⟨rfl, k, os, rfl⟩)
            go_ret2
            exact ⟨⟨_, true, rfl, by have h := HN.out; rw [Hb2.out, d2] at h; exact h⟩, HO.out.trans (only_of_b (Lib.below_grow w1.heap.size w1 (Nat.le_refl _) k os))⟩
          · have d2 : decide ((0 : Int) ≤ n) = false := by simp; omega
            go_wp2_with (go_at_call 29; refine HI.out.mono ?_; rintro e w2 ⟨rfl, k, os, rfl⟩)
            go_ret2
            exact ⟨⟨_, false, rfl, by have h := HN.out; rw [Hb2.out, d2] at h; exact h⟩, HO.out.trans (only_of_b (Lib.below_grow w1.heap.size w1 (Nat.le_refl _) k os))⟩
      · have d1 : decide ((s.size : Int) ≤ 4) = false := by simp; omega
        have d1n : decide (s.size ≤ 4) = false := by simp; omega
        go_wp2_with fail
        go_ret2
        exact ⟨⟨_, false, rfl, num_long (by rw [Hll.out]; exact h4)⟩, HO.out⟩
  · have h4 : ¬ s.size ≤ 4 := by omega
    have d1 : decide ((s.size : Int) ≤ 4) = false := by simp; omega
    have d1n : decide (s.size ≤ 4) = false := by simp; omega
    rcases hA : Lib.atoiAll s.data.toList with v | _ | _
    · have HC := hide (Tryz.strconv_Atoi_ok s (by omega) v hA w)
      clear hA
      go_enter Tryz.func77, Tryz.ntmps77
      go_upto_region 2 with (go_at_call 67; refine HC.out.mono ?_; rintro e w1 ⟨rfl, hw1⟩; have Hw1 := hide hw1; clear hw1)
      have ho1 : Only (fun _ => False) w w1 := by
        rcases Hw1.out with rfl | ⟨t, rfl⟩
        · exact Only.refl _ _
        · exact only_of_b (Go.Joins.below_bytesWorld w.heap.size w _ t (Nat.le_refl _))
      have HO := hide ho1
      clear ho1
      go_wp2_with fail
      go_ret2
      exact ⟨⟨_, false, rfl, num_long (by rw [Hll.out]; exact h4)⟩, HO.out⟩
    · obtain ⟨ev, h1, h2⟩ := he.es
      have HC := hide (Any.strconv_Atoi_syntax Tryz.laysC172 s hs hA ev w h1 h2)
      clear hA h1 he
      go_enter Tryz.func77, Tryz.ntmps77
      go_upto_region 2 with (go_at_call 67; refine HC.out.mono ?_; rintro e w1 ⟨N, rfl, -, -, hb⟩)
      go_wp2_with fail
      go_ret2
      exact ⟨⟨_, false, rfl, num_long (by rw [Hll.out]; exact h4)⟩, only_of_b hb⟩
    · obtain ⟨ev, h1, h2⟩ := he.er
      have HC := hide (Any.strconv_Atoi_range Tryz.laysC172 s hs hA ev w h1 h2)
      clear hA h1 he
      go_enter Tryz.func77, Tryz.ntmps77
      go_upto_region 2 with (go_at_call 67; refine HC.out.mono ?_; rintro e w1 ⟨N, rfl, -, -, hb⟩)
      go_wp2_with fail
      go_ret2
      exact ⟨⟨_, false, rfl, num_long (by rw [Hll.out]; exact h4)⟩, only_of_b hb⟩
/-- what letter says of a text -/
def LetP (l : List UInt8) (n : Nat) (ok : Bool) : Prop := (ok = true → upB n = true ∧ ∃ c : UInt8, c.toNat = n ∧ l = [c]) ∧ (ok = false → n = 0 ∧ ∀ c : UInt8, l = [c] → upB c.toNat = false)
set_option maxHeartbeats 2000000 in
set_option maxRecDepth 100000 in
theorem letter_any (s : ByteArray) (w : World) :
    Calls Tryz.prog 76 #[.string s] w fun e w' => (∃ n : Nat, ∃ ok, e = .returned (.tuple #[.int .u8 (n : Int), .bool ok]) ∧ LetP s.data.toList n ok) ∧ w' = w := by
  have hll : s.data.toList.length = s.size := by simp
  have Hu := hide fun n W => upper_any n W
  by_cases h1 : s.size = 1
  · have d1 : ((s.size : Int) != 1) = false := by rw [h1]; rfl
    have d1n : (s.size != 1) = false := by rw [h1]; rfl
    have i0 : (0 : Int) < (s.size : Int) := by omega
    have i0n : 0 < s.size := by omega
    obtain ⟨n, hn⟩ : ∃ n, s[0].toNat = n := ⟨_, rfl⟩
    have hl : s.data.toList = [s[0]] := by
      rw [h1] at hll
      obtain ⟨c, hc⟩ := List.length_eq_one_iff.1 hll
      have h2 := byteAt i0n
      rw [hc] at h2 ⊢
      simp at h2
      rw [h2]
    have HL := hide (show s.data.toList = [s[0]] ∧ s[0].toNat = n from ⟨hl, hn⟩)
    clear hl hll h1
    cases hu : upB n
    · go_enter Tryz.func76, Tryz.ntmps76
      go_wp2_with (go_at_call 44; refine (Hu.out _ _).mono ?_; rintro e w1 ⟨rfl, rfl⟩)
      go_ret2
      exact ⟨⟨0, false, rfl, fun h => (by cases h), fun _ => ⟨rfl, fun c hc => by rw [HL.out.1] at hc; cases hc; rw [HL.out.2]; exact hu⟩⟩, rfl⟩
    · go_enter Tryz.func76, Tryz.ntmps76
      go_wp2_with (go_at_call 44; refine (Hu.out _ _).mono ?_; rintro e w1 ⟨rfl, rfl⟩)
      go_ret2
      exact ⟨⟨n, true, rfl, fun _ => ⟨hu, _, HL.out.2, HL.out.1⟩, fun h => (by cases h)⟩, rfl⟩
  · have d1 : ((s.size : Int) != 1) = true := by rw [bne_iff_ne]; omega
    have d1n : (s.size != 1) = true := by rw [bne_iff_ne]; omega
    go_enter Tryz.func76, Tryz.ntmps76
    go_wp2_with fail
    go_ret2
    exact ⟨⟨0, false, rfl, fun h => (by cases h), fun _ => ⟨rfl, fun c hc => by rw [hc] at hll; simp at hll; omega⟩⟩, rfl⟩
end Go.Proofs.YtcdfeaodfmfdnaaGreatDoor
namespace Go.Proofs.YtcdfeaodfmfdnaaGreatDoor
open Go.RowKit

/-- what count says of a text -/
def CntP (l : List UInt8) (n : Int) : Prop := (∃ m : Nat, n = m ∧ m ≤ 9999 ∧ l = Lib.decDigits m) ∨ (n = -1 ∧ ∀ m : Nat, m ≤ 9999 → l ≠ Lib.decDigits m)
theorem itoa_env (n : Nat) (w : World) (h : n ≤ 9999) (he : Env w) :
    Calls Tryz.prog 29 #[.int .i64 (n : Int)] w fun e w' => e = .returned (.string (bytes (Lib.decDigits n))) ∧ Only (fun _ => False) w w' :=
  (Tryz.strconv_Itoa (n : Int) (by omega) (by omega) w he.tb).mono fun e w' ⟨h1, k, os, h2⟩ => ⟨by
    rw [h1]
    unfold Lib.itoa
    rw [if_neg (by omega), Int.toNat_natCast]; rfl, by rw [h2]; exact only_of_b (Lib.below_grow w.heap.size w (Nat.le_refl _) k os)⟩
set_option maxHeartbeats 8000000 in
set_option maxRecDepth 100000 in
theorem count_any (s : ByteArray) (w : World) (he : Env w) :
    Calls Tryz.prog 83 #[.string s] w fun e w' => (∃ n : Int, e = .returned (.int .i64 n) ∧ CntP s.data.toList n) ∧ Only (fun _ => False) w w' := by
  have HE := hide he
  have hll : s.data.toList.length = s.size := by simp
  have Hll := hide hll
  clear he hll
  go_enter Tryz.func83, Tryz.ntmps83
  go_wp2_with fail
  go_loopw [3] (fun iv wr => ∃ n : Nat, n ≤ 10000 ∧ iv = .int .i64 (n : Int) ∧ (∀ m : Nat, m < n → s.data.toList ≠ Lib.decDigits m) ∧ Only (fun _ => False) w wr) (fun iv _ => 10000 - (intOf iv).toNat)
  case atStart => exact ⟨0, by omega, rfl, fun m h => by omega, Only.refl _ _⟩
  case round =>
    rename World => wr
    obtain ⟨n, hn, rfl, hno, ho⟩ := hrel
    have Hno := hide hno
    have Ho := hide ho
    clear hno ho
    by_cases h9 : n ≤ 9999
    · have d1 : decide ((n : Int) ≤ 9999) = true := by simp; omega
      have d1n : decide (n ≤ 9999) = true := by simp; omega
      by_cases h4 : s.size ≤ 4
      · have d4 : decide ((s.size : Int) ≤ 4) = true := by simp; omega
        have d4n : decide (s.size ≤ 4) = true := by simp; omega
        have HI := hide (itoa_env n wr h9 (HE.out.no Ho.out))
        obtain ⟨sn, hsn⟩ : ∃ sn : ByteArray, bytes (Lib.decDigits n) = sn := ⟨_, rfl⟩
        have Hsn := hide (show sn.data.toList = Lib.decDigits n from by rw [← hsn, bytes_list])
        rw [hsn] at HI
        clear hsn
        obtain ⟨b1, hb1⟩ : ∃ b1, (sn.toList == s.toList) = b1 := ⟨_, rfl⟩
        have Hb1 := hide (show (sn.data.toList == s.data.toList) = b1 from by rw [← hb1, Go.ByteArray.toList_eq, Go.ByteArray.toList_eq])
        cases b1
        · go_wp2_with (go_at_call 29; refine HI.out.mono ?_; rintro e w2 ⟨rfl, ho2⟩; have Ho2 := hide ho2; clear ho2)
          go_roundw
          case rel => exact ⟨n + 1, by omega, by go_num, fun m hm e => by
            by_cases h : m = n
            · subst h
              have h5 := Hb1.out
              rw [Hsn.out, e] at h5
              simp at h5
            · exact Hno.out m (by omega) e, Ho.out.trans Ho2.out⟩
          case measure => simp [intOf]; omega
        · go_wp2_with (go_at_call 29; refine HI.out.mono ?_; rintro e w2 ⟨rfl, ho2⟩; have Ho2 := hide ho2; clear ho2)
          go_ret
          exact ⟨⟨n, rfl, .inl ⟨n, rfl, h9, by have h5 := Hb1.out; rw [Hsn.out] at h5; exact (beq_iff_eq.1 h5).symm⟩⟩, Ho.out.trans Ho2.out⟩
      · have d4 : decide ((s.size : Int) ≤ 4) = false := by simp; omega
        have d4n : decide (s.size ≤ 4) = false := by simp; omega
        go_wp2_with fail
        go_roundw
        case rel => exact ⟨n + 1, by omega, by go_num, fun m hm e => by
          have h5 := dec_len (m := m) (by omega)
          rw [← e, Hll.out] at h5
          exact h4 h5, Ho.out⟩
        case measure => simp [intOf]; omega
    · have d1 : decide ((n : Int) ≤ 9999) = false := by simp; omega
      have d1n : decide (n ≤ 9999) = false := by simp; omega
      go_wp2_with fail
      go_ret
      exact ⟨⟨-1, rfl, .inr ⟨rfl, fun m hm => Hno.out m (by omega)⟩⟩, Ho.out⟩
end Go.Proofs.YtcdfeaodfmfdnaaGreatDoor
