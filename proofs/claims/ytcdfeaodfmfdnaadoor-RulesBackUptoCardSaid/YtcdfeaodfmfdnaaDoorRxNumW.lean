/- rules.number and rules.letter: walked. -/
import Derived.Test.YtcdfeaodfmfdnaaDoorRxNum
import Derived.Test.YtcdfeaodfmfdnaaDoorBoardHand
namespace Go.Proofs.YtcdfeaodfmfdnaaDoor
open Go.RowKit

theorem decNat_lt {l : List UInt8} {m : Nat} (h : Lib.decNat l = some m) (hl : l.length ≤ 18) : m < 1000000000000000000 := Lib.decFrom_lt18 (Lib.decNat_some h).2 hl
theorem atoi_lt {l : List UInt8} {n : Int} (h : Lib.atoi l = some n) (hl : l.length ≤ 18) : -1000000000000000000 < n ∧ n < 1000000000000000000 := by
  cases l with
  | nil => simp [Lib.atoi] at h
  | cons b r =>
    simp only [List.length_cons] at hl
    simp only [Lib.atoi] at h
    split at h
    · obtain ⟨m, hm, rfl⟩ := Option.map_eq_some_iff.1 h
      have := decNat_lt hm (by omega)
      omega
    · split at h
      · obtain ⟨m, hm, rfl⟩ := Option.map_eq_some_iff.1 h
        have := decNat_lt hm (by omega)
        omega
      · obtain ⟨m, hm, rfl⟩ := Option.map_eq_some_iff.1 h
        have := decNat_lt hm (by simp; omega)
        omega
def NumOut (s : ByteArray) (w : World) (e : Ending) (w' : World) : Prop := (∃ n ok, e = .returned (.tuple #[.int .i64 n, .bool ok]) ∧ NumP s.data.toList n ok) ∧ Only (fun _ => False) w w'
set_option maxHeartbeats 2000000 in
set_option maxRecDepth 100000 in
theorem number_any (s : ByteArray) (w : World) (hs : s.size ≤ 281474976710656) (he : Env w) :
    Calls Tryd.prog 64 #[.string s] w (NumOut s w) := by
  have hll : s.data.toList.length = s.size := by simp
  have Hll := hide hll
  clear hll
  by_cases h18 : s.size ≤ 18
  · cases hA : Lib.atoi s.data.toList with
    | none =>
      obtain ⟨ev, h1, h2⟩ := he.es
      have HC := hide (Tryd.strconv_Atoi_err s h18 hA ev w h1 h2)
      have HA := hide hA
      clear hA h1 he
      go_enter Tryd.func64, Tryd.ntmps64
      go_upto_region 2 with (go_at_call 88; refine HC.out.mono ?_; rintro e w1 ⟨N, rfl, -, -, hb⟩)
      go_wp2_with fail
      go_ret2
      exact ⟨⟨_, false, rfl, num_none HA.out⟩, only_of_b hb⟩
    | some n =>
      have HC := hide (Tryd.strconv_Atoi s n h18 hA w)
      have HA := hide hA
      obtain ⟨r1, r2⟩ := atoi_lt hA (by rw [Hll.out]; exact h18)
      clear hA
      go_enter Tryd.func64, Tryd.ntmps64
      go_upto_region 2 with (go_at_call 88; refine HC.out.mono ?_; rintro e w1 ⟨rfl, t, hw1⟩; have Hw1 := hide hw1; clear hw1)
      have ho1 : Only (fun _ => False) w w1 := by rw [Hw1.out]; exact only_of_b (Go.Joins.below_bytesWorld w.heap.size w _ t (Nat.le_refl _))
      have HE := hide (he.no ho1)
      have HO := hide ho1
      clear ho1 he
      by_cases h4 : s.size ≤ 4
      · have d1 : decide ((s.size : Int) ≤ 4) = true := by simp; omega
        have d1n : decide (s.size ≤ 4) = true := by simp; omega
        have HN := hide (num_some HA.out (by rw [Hll.out]; exact h4))
        have HI := hide (Tryd.strconv_Itoa n (by omega) (by omega) w1 HE.out.tb)
        obtain ⟨sn, hsn⟩ : ∃ sn : ByteArray, ⟨(Lib.itoa n).toArray⟩ = sn := ⟨_, rfl⟩
        obtain ⟨b1, hb1⟩ : ∃ b1, (sn.toList == s.toList) = b1 := ⟨_, rfl⟩
        have hb2 : (Lib.itoa n == s.data.toList) = b1 := by
          rw [← hb1, ← hsn, Go.ByteArray.toList_eq, Go.ByteArray.toList_eq]
        have Hb2 := hide hb2
        rw [hsn] at HI
        clear hsn hb2
        cases b1
        · go_wp2_with (go_at_call 38; refine HI.out.mono ?_; rintro e w2 ⟨rfl, k, os, rfl⟩)
          go_ret2
          exact ⟨⟨_, false, rfl, by have h := HN.out; rw [Hb2.out] at h; exact h⟩, HO.out.trans (only_of_b (Lib.below_grow w1.heap.size w1 (Nat.le_refl _) k os))⟩
        · by_cases h0 : 0 ≤ n
          · have d2 : decide ((0 : Int) ≤ n) = true := by simp [h0]
            go_wp2_with (go_at_call 38; refine HI.out.mono ?_; rintro e w2 ⟨rfl, k, os, rfl⟩)
            go_ret2
            exact ⟨⟨_, true, rfl, by have h := HN.out; rw [Hb2.out, d2] at h; exact h⟩, HO.out.trans (only_of_b (Lib.below_grow w1.heap.size w1 (Nat.le_refl _) k os))⟩
          · have d2 : decide ((0 : Int) ≤ n) = false := by simp; omega
            go_wp2_with (go_at_call 38; refine HI.out.mono ?_; rintro e w2 ⟨rfl, k, os, rfl⟩)
            go_ret2
            exact ⟨⟨_, false, rfl, by have h := HN.out; rw [Hb2.out, d2] at h; exact h⟩, HO.out.trans (only_of_b (Lib.below_grow w1.heap.size w1 (Nat.le_refl _) k os))⟩
      · have d1 : decide ((s.size : Int) ≤ 4) = false := by simp; omega
        have d1n : decide (s.size ≤ 4) = false := by simp; omega
        go_wp2_with fail
        go_ret2
        exact ⟨⟨_, false, rfl, num_long (by rw [Hll.out]; exact h4)⟩, HO.out⟩
  · have h4 : ¬ s.size ≤ 4 := by omega
    have d1 : decide ((s.size : Int) ≤ 4) = false := by simp; omega
    have d1n : decide (s.size ≤ 4) = false := by simp; omega
    rcases hA : Lib.atoiAll s.data.toList with v | _ | _
    · have HC := hide (Tryd.strconv_Atoi_ok s (by omega) v hA w)
      clear hA
      go_enter Tryd.func64, Tryd.ntmps64
      go_upto_region 2 with (go_at_call 88; refine HC.out.mono ?_; rintro e w1 ⟨rfl, hw1⟩; have Hw1 := hide hw1; clear hw1)
      have ho1 : Only (fun _ => False) w w1 := by
        rcases Hw1.out with rfl | ⟨t, rfl⟩
        · exact Only.refl _ _
        · exact only_of_b (Go.Joins.below_bytesWorld w.heap.size w _ t (Nat.le_refl _))
      have HO := hide ho1
      clear ho1
      go_wp2_with fail
      go_ret2
      exact ⟨⟨_, false, rfl, num_long (by rw [Hll.out]; exact h4)⟩, HO.out⟩
    · obtain ⟨ev, h1, h2⟩ := he.es
      have HC := hide (Any.strconv_Atoi_syntax Tryd.laysC172 s hs hA ev w h1 h2)
      clear hA h1 he
      go_enter Tryd.func64, Tryd.ntmps64
      go_upto_region 2 with (go_at_call 88; refine HC.out.mono ?_; rintro e w1 ⟨N, rfl, -, -, hb⟩)
      go_wp2_with fail
      go_ret2
      exact ⟨⟨_, false, rfl, num_long (by rw [Hll.out]; exact h4)⟩, only_of_b hb⟩
    · obtain ⟨ev, h1, h2⟩ := he.er
      have HC := hide (Any.strconv_Atoi_range Tryd.laysC172 s hs hA ev w h1 h2)
      clear hA h1 he
      go_enter Tryd.func64, Tryd.ntmps64
      go_upto_region 2 with (go_at_call 88; refine HC.out.mono ?_; rintro e w1 ⟨N, rfl, -, -, hb⟩)
      go_wp2_with fail
      go_ret2
      exact ⟨⟨_, false, rfl, num_long (by rw [Hll.out]; exact h4)⟩, only_of_b hb⟩
/-- what letter says of a text -/
def LetP (l : List UInt8) (n : Nat) (ok : Bool) : Prop := (ok = true → upB n = true ∧ ∃ c : UInt8, c.toNat = n ∧ l = [c]) ∧ (ok = false → n = 0 ∧ ∀ c : UInt8, l = [c] → upB c.toNat = false)
set_option maxHeartbeats 2000000 in
set_option maxRecDepth 100000 in
theorem letter_any (s : ByteArray) (w : World) :
    Calls Tryd.prog 63 #[.string s] w fun e w' => (∃ n : Nat, ∃ ok, e = .returned (.tuple #[.int .u8 (n : Int), .bool ok]) ∧ LetP s.data.toList n ok) ∧ w' = w := by
  have hll : s.data.toList.length = s.size := by simp
  have Hu := hide fun n W => upper_any n W
  by_cases h1 : s.size = 1
  · have d1 : ((s.size : Int) != 1) = false := by rw [h1]; rfl
    have d1n : (s.size != 1) = false := by rw [h1]; rfl
    have i0 : (0 : Int) < (s.size : Int) := by omega
    have i0n : 0 < s.size := by omega
    obtain ⟨n, hn⟩ : ∃ n, s[0].toNat = n := ⟨_, rfl⟩
    have hl : s.data.toList = [s[0]] := by
      rw [h1] at hll
      obtain ⟨c, hc⟩ := List.length_eq_one_iff.1 hll
      have h2 := byteAt i0n
      rw [hc] at h2 ⊢
      simp at h2
      rw [h2]
    have HL := hide (show s.data.toList = [s[0]] ∧ s[0].toNat = n from ⟨hl, hn⟩)
    clear hl hll h1
    cases hu : upB n
    · go_enter Tryd.func63, Tryd.ntmps63
      go_wp2_with (go_at_call 58; refine (Hu.out _ _).mono ?_; rintro e w1 ⟨rfl, rfl⟩)
      go_ret2
      exact ⟨⟨0, false, rfl, fun h => (by cases h), fun _ => ⟨rfl, fun c hc => by rw [HL.out.1] at hc; cases hc; rw [HL.out.2]; exact hu⟩⟩, rfl⟩
    · go_enter Tryd.func63, Tryd.ntmps63
      go_wp2_with (go_at_call 58; refine (Hu.out _ _).mono ?_; rintro e w1 ⟨rfl, rfl⟩)
      go_ret2
      exact ⟨⟨n, true, rfl, fun _ => ⟨hu, _, HL.out.2, HL.out.1⟩, fun h => (by cases h)⟩, rfl⟩
  · have d1 : ((s.size : Int) != 1) = true := by rw [bne_iff_ne]; omega
    have d1n : (s.size != 1) = true := by rw [bne_iff_ne]; omega
    go_enter Tryd.func63, Tryd.ntmps63
    go_wp2_with fail
    go_ret2
    exact ⟨⟨0, false, rfl, fun h => (by cases h), fun _ => ⟨rfl, fun c hc => by rw [hc] at hll; simp at hll; omega⟩⟩, rfl⟩
end Go.Proofs.YtcdfeaodfmfdnaaDoor
