/- gamelaw.TourneyTable walked: the table's half: Res -/
import Derived.Test.YtfoehijlafooaaaTtKit
namespace Go.Proofs.Ytfoehijlafooaaa
open Go.RowKit Ieee

set_option maxHeartbeats 4000000 in
set_option maxRecDepth 100000 in
theorem tt_Res_Good (n : Int) (A0 A : Option Addr) (c0 c : Nat) (start : List Nat) (rs : List Res) (k : Nat) (W : World) (hm : start.length ≤ 9223372036854775807) (hr : rs.length ≤ 9223372036854775807) (hS : Cells W W.heap.size A0 (flts start)) (hA : Cells W W.heap.size A (ints (flatR rs))) (hn0 : 0 ≤ n) (hn : n ≤ 200) (hokn : ¬ ResOk n rs) (h200 : start.length ≤ 200) (hok : ResOk start.length rs) (hk : fairF k = true) (hu : unfair start = false) :
    Calls Try.prog 12 #[.int .i64 n, .slice A rs.length c, .slice A0 start.length c0, .float .f64 k] W fun e w' => e = .returned (.bool true) ∧ Later W w' := by
  have e0 : decide (n < 0) = false := by simp; omega
  have e1 : decide (n > 200) = false := by simp; omega
  have HT := hide (table_bad n A c rs W hr hA (.inr (.inr hokn)))
  have HRn := hide (fun w (h : Later W w) => results_l n false A c rs W hr hA (resB_false.2 hokn) w h)
  clear hokn
  have d0 : decide ((start.length : Int) ≤ 200) = true := by simp; omega
  have HRs := hide (fun w (h : Later W w) => results_l start.length true A c rs W hr hA (resB_true.2 hok) w h)
  have HFk := hide (fair_l k true hk)
  have HRt := hide (fun w (h : Later W w) => rateok_l A0 A c0 c start rs k W hS hA h200 hok hk hu w h)
  have HRd := hide (fun w (h : Later W w) => ratedok_l A0 A c0 c start rs k W hS hA h200 hok hk hu w h)
  have HSf := hide (fun A1 c1 A2 c2 w B1 B2 h1 h2 => sameflt_l start rs k A1 c1 A2 c2 w B1 B2 hm hok hk hu h1 h2)
  have Hu := hide hu
  clear hok hk hu
  have HS := hide hS
  clear hS hA
  go_enter Try.func12, Try.ntmps12
  go_wp2_with (first
    | (go_at_call 35; refine HT.out.mono ?_; rintro e w1 ⟨rfl, hb1⟩; have hW1 : Later W w1 := hb1; clear hb1)
    | (go_at_call 38; (with_reducible refine (HRn.out _ (by assumption)).mono ?_); rintro e w3 ⟨rfl, hb3⟩; have hW3 : Later W w3 := Later.trans (by assumption) hb3; have h23 : Later w2 w3 := Later.trans (by assumption) hb3; clear hb3)
    | (go_at_call 37; refine (HRt.out _ (by assumption)).mono ?_; rintro e w2 ⟨A2, c2, rfl, hc2, hb2⟩; have hW2 : Later W w2 := Later.trans (by assumption) hb2; have h22 : Later w2 w2 := Later.rfl; clear hb2; have Hc2 := hide hc2; clear hc2)
    | (go_at_call 38; (with_reducible refine (HRs.out _ (by assumption)).mono ?_); rintro e w6 ⟨rfl, hb6⟩; have hW6 : Later W w6 := Later.trans (by assumption) hb6; have h26 : Later w2 w6 := Later.trans (by assumption) hb6; clear hb6)
    | (go_at_call 40; refine (HFk.out _).mono ?_; rintro e wf ⟨rfl, hwf⟩; rw [hwf]; clear hwf)
    )
  go_loop [72, 13] (fun idx ok => ∃ q : Nat, q ≤ start.length ∧ idx = .int .i64 q ∧ ok = .bool true) (fun idx _ => start.length - (intOf idx).toNat)
  case atStart => exact ⟨0, by omega, rfl, rfl⟩
  case round =>
    obtain ⟨q, hq, rfl, rfl⟩ := hrel
    by_cases hlt : q < start.length
    · obtain ⟨b, off, rfl, hbS, hcS⟩ := (HS.out.below (w' := w6) hW6).at_ (k := q) (by simpa using hlt)
      rw [flts_get] at hcS
      have HFq := hide (fair_l start[q] true (fairTo_good Hu.out hlt))
      obtain ⟨v, hv⟩ : ∃ v, start[q] = v := ⟨_, rfl⟩
      rw [hv] at hcS HFq
      clear hv
      go_wp2_with (go_at_call 40; refine (HFq.out _).mono ?_; rintro e wf ⟨rfl, hwf⟩; rw [hwf]; clear hwf)
      go_round
      case rel => exact ⟨q + 1, by omega, by go_num, rfl⟩
      case measure => simp [intOf]; omega
    · go_wp2_with (first
        | (go_at_call 42; refine (HRd.out _ (by assumption)).mono ?_; rintro e w7 ⟨A7, c7, rfl, hc7, hb7⟩; have hW7 : Later W w7 := Later.trans (by assumption) hb7; have h27 : Later w2 w7 := Later.trans (by assumption) hb7; clear hb7; have Hc7 := hide hc7; clear hc7)
        | (go_at_call 41; refine (HSf.out _ _ _ _ _ _ _ (Hc2.out.below h27) Hc7.out).mono ?_; rintro e w8 ⟨rfl, hb8⟩; have hW8 : Later W w8 := Later.trans (by assumption) hb8; clear hb8))
      go_ret
      exact ⟨rfl, by assumption⟩

set_option maxHeartbeats 4000000 in
set_option maxRecDepth 100000 in
theorem tt_Res_Len (n : Int) (A0 A : Option Addr) (c0 c : Nat) (start : List Nat) (rs : List Res) (k : Nat) (W : World) (hm : start.length ≤ 9223372036854775807) (hr : rs.length ≤ 9223372036854775807) (hS : Cells W W.heap.size A0 (flts start)) (hA : Cells W W.heap.size A (ints (flatR rs))) (hn0 : 0 ≤ n) (hn : n ≤ 200) (hokn : ¬ ResOk n rs) (h200 : 200 < start.length) :
    Calls Try.prog 12 #[.int .i64 n, .slice A rs.length c, .slice A0 start.length c0, .float .f64 k] W fun e w' => e = .returned (.bool true) ∧ Later W w' := by
  have e0 : decide (n < 0) = false := by simp; omega
  have e1 : decide (n > 200) = false := by simp; omega
  have HT := hide (table_bad n A c rs W hr hA (.inr (.inr hokn)))
  have HRn := hide (fun w (h : Later W w) => results_l n false A c rs W hr hA (resB_false.2 hokn) w h)
  clear hokn
  have d0 : decide ((start.length : Int) ≤ 200) = false := by simp; omega
  have HRt := hide (fun w (h : Later W w) => ratebad_l A0 A c0 c start rs k W hm hr hS hA (fun hx => absurd hx.1 (by omega)) w h)
  have HS := hide hS
  clear hS hA
  go_enter Try.func12, Try.ntmps12
  go_wp2_with (first
    | (go_at_call 35; refine HT.out.mono ?_; rintro e w1 ⟨rfl, hb1⟩; have hW1 : Later W w1 := hb1; clear hb1)
    | (go_at_call 38; (with_reducible refine (HRn.out _ (by assumption)).mono ?_); rintro e w3 ⟨rfl, hb3⟩; have hW3 : Later W w3 := Later.trans (by assumption) hb3; have h23 : Later w2 w3 := Later.trans (by assumption) hb3; clear hb3)
    | (go_at_call 37; refine (HRt.out _ (by assumption)).mono ?_; rintro e w2 ⟨rfl, hb2⟩; have hW2 : Later W w2 := Later.trans (by assumption) hb2; have h22 : Later w2 w2 := Later.rfl; clear hb2)
    )
  go_loop [72, 13] (fun idx ok => ∃ q : Nat, q ≤ start.length ∧ idx = .int .i64 q ∧ ok = .bool false) (fun idx _ => start.length - (intOf idx).toNat)
  case atStart => exact ⟨0, by omega, rfl, rfl⟩
  case round =>
    obtain ⟨q, hq, rfl, rfl⟩ := hrel
    by_cases hlt : q < start.length
    · go_wp2_with fail
      go_round
      case rel => exact ⟨q + 1, by omega, by go_num, rfl⟩
      case measure => simp [intOf]; omega
    · go_wp2_with fail
      go_ret
      exact ⟨rfl, by assumption⟩

set_option maxHeartbeats 4000000 in
set_option maxRecDepth 100000 in
theorem tt_Res_Res (n : Int) (A0 A : Option Addr) (c0 c : Nat) (start : List Nat) (rs : List Res) (k : Nat) (W : World) (hm : start.length ≤ 9223372036854775807) (hr : rs.length ≤ 9223372036854775807) (hS : Cells W W.heap.size A0 (flts start)) (hA : Cells W W.heap.size A (ints (flatR rs))) (hn0 : 0 ≤ n) (hn : n ≤ 200) (hokn : ¬ ResOk n rs) (h200 : start.length ≤ 200) (hok : ¬ ResOk start.length rs) :
    Calls Try.prog 12 #[.int .i64 n, .slice A rs.length c, .slice A0 start.length c0, .float .f64 k] W fun e w' => e = .returned (.bool true) ∧ Later W w' := by
  have e0 : decide (n < 0) = false := by simp; omega
  have e1 : decide (n > 200) = false := by simp; omega
  have HT := hide (table_bad n A c rs W hr hA (.inr (.inr hokn)))
  have HRn := hide (fun w (h : Later W w) => results_l n false A c rs W hr hA (resB_false.2 hokn) w h)
  clear hokn
  have d0 : decide ((start.length : Int) ≤ 200) = true := by simp; omega
  have HRs := hide (fun w (h : Later W w) => results_l start.length false A c rs W hr hA (resB_false.2 hok) w h)
  have HRt := hide (fun w (h : Later W w) => ratebad_l A0 A c0 c start rs k W hm hr hS hA (fun hx => absurd hx.2.1 hok) w h)
  clear hok
  have HS := hide hS
  clear hS hA
  go_enter Try.func12, Try.ntmps12
  go_wp2_with (first
    | (go_at_call 35; refine HT.out.mono ?_; rintro e w1 ⟨rfl, hb1⟩; have hW1 : Later W w1 := hb1; clear hb1)
    | (go_at_call 38; (with_reducible refine (HRn.out _ (by assumption)).mono ?_); rintro e w3 ⟨rfl, hb3⟩; have hW3 : Later W w3 := Later.trans (by assumption) hb3; have h23 : Later w2 w3 := Later.trans (by assumption) hb3; clear hb3)
    | (go_at_call 37; refine (HRt.out _ (by assumption)).mono ?_; rintro e w2 ⟨rfl, hb2⟩; have hW2 : Later W w2 := Later.trans (by assumption) hb2; have h22 : Later w2 w2 := Later.rfl; clear hb2)
    | (go_at_call 38; (with_reducible refine (HRs.out _ (by assumption)).mono ?_); rintro e w6 ⟨rfl, hb6⟩; have hW6 : Later W w6 := Later.trans (by assumption) hb6; have h26 : Later w2 w6 := Later.trans (by assumption) hb6; clear hb6)
    )
  go_loop [72, 13] (fun idx ok => ∃ q : Nat, q ≤ start.length ∧ idx = .int .i64 q ∧ ok = .bool false) (fun idx _ => start.length - (intOf idx).toNat)
  case atStart => exact ⟨0, by omega, rfl, rfl⟩
  case round =>
    obtain ⟨q, hq, rfl, rfl⟩ := hrel
    by_cases hlt : q < start.length
    · go_wp2_with fail
      go_round
      case rel => exact ⟨q + 1, by omega, by go_num, rfl⟩
      case measure => simp [intOf]; omega
    · go_wp2_with fail
      go_ret
      exact ⟨rfl, by assumption⟩

set_option maxHeartbeats 4000000 in
set_option maxRecDepth 100000 in
theorem tt_Res_K (n : Int) (A0 A : Option Addr) (c0 c : Nat) (start : List Nat) (rs : List Res) (k : Nat) (W : World) (hm : start.length ≤ 9223372036854775807) (hr : rs.length ≤ 9223372036854775807) (hS : Cells W W.heap.size A0 (flts start)) (hA : Cells W W.heap.size A (ints (flatR rs))) (hn0 : 0 ≤ n) (hn : n ≤ 200) (hokn : ¬ ResOk n rs) (h200 : start.length ≤ 200) (hok : ResOk start.length rs) (hk : fairF k = false) :
    Calls Try.prog 12 #[.int .i64 n, .slice A rs.length c, .slice A0 start.length c0, .float .f64 k] W fun e w' => e = .returned (.bool true) ∧ Later W w' := by
  have e0 : decide (n < 0) = false := by simp; omega
  have e1 : decide (n > 200) = false := by simp; omega
  have HT := hide (table_bad n A c rs W hr hA (.inr (.inr hokn)))
  have HRn := hide (fun w (h : Later W w) => results_l n false A c rs W hr hA (resB_false.2 hokn) w h)
  clear hokn
  have d0 : decide ((start.length : Int) ≤ 200) = true := by simp; omega
  have HRs := hide (fun w (h : Later W w) => results_l start.length true A c rs W hr hA (resB_true.2 hok) w h)
  have HFk := hide (fair_l k false hk)
  have HRt := hide (fun w (h : Later W w) => ratebad_l A0 A c0 c start rs k W hm hr hS hA (fun hx => by rw [hk] at hx; exact absurd hx.2.2.1 (by decide)) w h)
  clear hok hk
  have HS := hide hS
  clear hS hA
  go_enter Try.func12, Try.ntmps12
  go_wp2_with (first
    | (go_at_call 35; refine HT.out.mono ?_; rintro e w1 ⟨rfl, hb1⟩; have hW1 : Later W w1 := hb1; clear hb1)
    | (go_at_call 38; (with_reducible refine (HRn.out _ (by assumption)).mono ?_); rintro e w3 ⟨rfl, hb3⟩; have hW3 : Later W w3 := Later.trans (by assumption) hb3; have h23 : Later w2 w3 := Later.trans (by assumption) hb3; clear hb3)
    | (go_at_call 37; refine (HRt.out _ (by assumption)).mono ?_; rintro e w2 ⟨rfl, hb2⟩; have hW2 : Later W w2 := Later.trans (by assumption) hb2; have h22 : Later w2 w2 := Later.rfl; clear hb2)
    | (go_at_call 38; (with_reducible refine (HRs.out _ (by assumption)).mono ?_); rintro e w6 ⟨rfl, hb6⟩; have hW6 : Later W w6 := Later.trans (by assumption) hb6; have h26 : Later w2 w6 := Later.trans (by assumption) hb6; clear hb6)
    | (go_at_call 40; refine (HFk.out _).mono ?_; rintro e wf ⟨rfl, hwf⟩; rw [hwf]; clear hwf)
    )
  go_loop [72, 13] (fun idx ok => ∃ q : Nat, q ≤ start.length ∧ idx = .int .i64 q ∧ ok = .bool false) (fun idx _ => start.length - (intOf idx).toNat)
  case atStart => exact ⟨0, by omega, rfl, rfl⟩
  case round =>
    obtain ⟨q, hq, rfl, rfl⟩ := hrel
    by_cases hlt : q < start.length
    · go_wp2_with fail
      go_round
      case rel => exact ⟨q + 1, by omega, by go_num, rfl⟩
      case measure => simp [intOf]; omega
    · go_wp2_with fail
      go_ret
      exact ⟨rfl, by assumption⟩

set_option maxHeartbeats 4000000 in
set_option maxRecDepth 100000 in
theorem tt_Res_Un (n : Int) (A0 A : Option Addr) (c0 c : Nat) (start : List Nat) (rs : List Res) (k : Nat) (W : World) (hm : start.length ≤ 9223372036854775807) (hr : rs.length ≤ 9223372036854775807) (hS : Cells W W.heap.size A0 (flts start)) (hA : Cells W W.heap.size A (ints (flatR rs))) (hn0 : 0 ≤ n) (hn : n ≤ 200) (hokn : ¬ ResOk n rs) (h200 : start.length ≤ 200) (hok : ResOk start.length rs) (hk : fairF k = true) (hu : unfair start = true) :
    Calls Try.prog 12 #[.int .i64 n, .slice A rs.length c, .slice A0 start.length c0, .float .f64 k] W fun e w' => e = .returned (.bool true) ∧ Later W w' := by
  have e0 : decide (n < 0) = false := by simp; omega
  have e1 : decide (n > 200) = false := by simp; omega
  have HT := hide (table_bad n A c rs W hr hA (.inr (.inr hokn)))
  have HRn := hide (fun w (h : Later W w) => results_l n false A c rs W hr hA (resB_false.2 hokn) w h)
  clear hokn
  have d0 : decide ((start.length : Int) ≤ 200) = true := by simp; omega
  have HRs := hide (fun w (h : Later W w) => results_l start.length true A c rs W hr hA (resB_true.2 hok) w h)
  have HFk := hide (fair_l k true hk)
  have HRt := hide (fun w (h : Later W w) => ratebad_l A0 A c0 c start rs k W hm hr hS hA (fun hx => by rw [hu] at hx; exact absurd hx.2.2.2 (by decide)) w h)
  have Hu := hide hu
  clear hok hk hu
  have HS := hide hS
  clear hS hA
  go_enter Try.func12, Try.ntmps12
  go_wp2_with (first
    | (go_at_call 35; refine HT.out.mono ?_; rintro e w1 ⟨rfl, hb1⟩; have hW1 : Later W w1 := hb1; clear hb1)
    | (go_at_call 38; (with_reducible refine (HRn.out _ (by assumption)).mono ?_); rintro e w3 ⟨rfl, hb3⟩; have hW3 : Later W w3 := Later.trans (by assumption) hb3; have h23 : Later w2 w3 := Later.trans (by assumption) hb3; clear hb3)
    | (go_at_call 37; refine (HRt.out _ (by assumption)).mono ?_; rintro e w2 ⟨rfl, hb2⟩; have hW2 : Later W w2 := Later.trans (by assumption) hb2; have h22 : Later w2 w2 := Later.rfl; clear hb2)
    | (go_at_call 38; (with_reducible refine (HRs.out _ (by assumption)).mono ?_); rintro e w6 ⟨rfl, hb6⟩; have hW6 : Later W w6 := Later.trans (by assumption) hb6; have h26 : Later w2 w6 := Later.trans (by assumption) hb6; clear hb6)
    | (go_at_call 40; refine (HFk.out _).mono ?_; rintro e wf ⟨rfl, hwf⟩; rw [hwf]; clear hwf)
    )
  go_loop [72, 13] (fun idx ok => ∃ q : Nat, q ≤ start.length ∧ idx = .int .i64 q ∧ ok = .bool (fairTo start q)) (fun idx _ => start.length - (intOf idx).toNat)
  case atStart => exact ⟨0, by omega, rfl, rfl⟩
  case round =>
    obtain ⟨q, hq, rfl, rfl⟩ := hrel
    by_cases hlt : q < start.length
    · have hnx := fairTo_succ hlt
      cases hft : fairTo start q with
      | false =>
        rw [hft] at hnx
        have Hnx := hide hnx
        clear hnx hft
        go_wp2_with fail
        go_round
        case rel => exact ⟨q + 1, by omega, by go_num, by rw [Hnx.out]; rfl⟩
        case measure => simp [intOf]; omega
      | true =>
        rw [hft] at hnx
        obtain ⟨b, off, rfl, hbS, hcS⟩ := (HS.out.below (w' := w6) hW6).at_ (k := q) (by simpa using hlt)
        rw [flts_get] at hcS
        obtain ⟨v, hv⟩ : ∃ v, start[q] = v := ⟨_, rfl⟩
        rw [hv] at hcS hnx
        obtain ⟨bf, hbf⟩ : ∃ bf, fairF v = bf := ⟨_, rfl⟩
        have HFq := hide (fair_l v bf hbf)
        rw [hbf] at hnx
        have Hnx := hide hnx
        clear hv hnx hbf hft
        go_wp2_with (go_at_call 40; refine (HFq.out _).mono ?_; rintro e wf ⟨rfl, hwf⟩; rw [hwf]; clear hwf)
        go_round
        case rel => exact ⟨q + 1, by omega, by go_num, by rw [Hnx.out]; rfl⟩
        case measure => simp [intOf]; omega
    · obtain rfl : q = start.length := by omega
      rw [fairTo_all, Hu.out]
      go_wp2_with fail
      go_ret
      exact ⟨rfl, by assumption⟩
end Go.Proofs.Ytfoehijlafooaaa
