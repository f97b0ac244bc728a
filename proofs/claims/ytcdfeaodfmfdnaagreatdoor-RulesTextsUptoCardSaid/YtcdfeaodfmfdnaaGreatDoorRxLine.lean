/- rules.line, for each first word but one: walked. -/
import Derived.Test.YtcdfeaodfmfdnaaGreatDoorRxPiece
import Derived.Test.YtcdfeaodfmfdnaaGreatDoorBxRead
namespace Go.Proofs.YtcdfeaodfmfdnaaGreatDoor
open Go.RowKit

set_option maxHeartbeats 4000000 in
set_option maxRecDepth 100000 in
theorem line_drops (b : Nat) (s : ByteArray) (w h t li pl : Int) (c h0 h1 : ByteArray) (sv : Value) (dr st : Bool) (lo re : Nat) (W : World) (hs : s.size < 4294967281) (he : Env W) (hB : Blk W b 27 #[.int .i64 w, .int .i64 h, .string c, .int .i64 t, .string h0, .string h1, sv, .bool dr, .int .u8 (lo : Int), .int .i64 li, .int .u8 (re : Int), .bool st, .int .i64 pl]) (hw : (Lib.cut s.data.toList [32]).1 = [100, 114, 111, 112, 115]) :
    Calls Tryz.prog 36 #[.pointer (some ⟨b, 0, none⟩), .string s] W fun e w' => e = .returned (.bool (!(Lib.cut s.data.toList [32]).2.2)) ∧ Blk w' b 27 #[.int .i64 w, .int .i64 h, .string c, .int .i64 t, .string h0, .string h1, sv, .bool true, .int .u8 (lo : Int), .int .i64 li, .int .u8 (re : Int), .bool st, .int .i64 pl] ∧ Only (fun x => x = b) W w' := by
  obtain ⟨m, hm⟩ := he.m
  have HC := hide (Tryz.strings_Cut s ⟨#[32]⟩ m W hs hm)
  rw [show (⟨#[32]⟩ : ByteArray).data.toList = [32] from rfl] at HC
  have hcl := (cut_len s.data.toList [32]).2
  have hcl1 : s.data.toList.length = s.size := by simp
  obtain ⟨ct, hct⟩ : ∃ ct, Lib.cut s.data.toList [32] = ct := ⟨_, rfl⟩
  have Hct := hide hct
  rw [hct] at HC hcl hw
  obtain ⟨H, Wt, more⟩ := ct
  simp only at HC hcl hw
  obtain ⟨sh, hsh⟩ : ∃ sh : ByteArray, ⟨H.toArray⟩ = sh := ⟨_, rfl⟩
  obtain ⟨sr, hsr⟩ : ∃ sr : ByteArray, ⟨Wt.toArray⟩ = sr := ⟨_, rfl⟩
  have Hsr := hide (show sr.data.toList = (Lib.cut s.data.toList [32]).2.1 from by rw [← hsr, Hct.out])
  have Hmo := hide (show (Lib.cut s.data.toList [32]).2.2 = more from by rw [Hct.out])
  have hsrl : sr.size < 4294967281 := by
    have h2 : sr.data.toList.length = sr.size := by simp
    rw [← hsr] at h2
    simp at h2
    rw [← hsr]
    simp only [ByteArray.size]
    simp
    omega
  have hq : sh.toList = H := by rw [← hsh, Go.ByteArray.toList_eq]
  have q_start : (sh.toList == [115, 116, 97, 114, 116]) = false := by rw [hq]; rw [hw]; rfl
  have q_piece : (sh.toList == [112, 105, 101, 99, 101]) = false := by rw [hq]; rw [hw]; rfl
  have q_drops : (sh.toList == [100, 114, 111, 112, 115]) = true := by rw [hq, hw]; rfl
  rw [hsh, hsr] at HC
  have HE := hide he
  have HB := hide hB
  clear hm he hB hct hw hq hsh hsr hcl hcl1
  go_enter Tryz.func36, Tryz.ntmps36
  go_upto_region 3 with (go_at_call 34; refine HC.out.mono ?_; rintro e w1 ⟨rfl, n, rfl⟩)
  have HE1 := hide (HE.out.no ((Only.refl _ W).drewN n))
  have HO1 := hide ((Only.refl (fun x => x = b) W).drewN n)
  have HB1 := hide (show Blk (W.drewN n) b 27 #[.int .i64 w, .int .i64 h, .string c, .int .i64 t, .string h0, .string h1, sv, .bool dr, .int .u8 (lo : Int), .int .i64 li, .int .u8 (re : Int), .bool st, .int .i64 pl] from HB.out)
  obtain ⟨w1, hw1⟩ : ∃ w1, W.drewN n = w1 := ⟨_, rfl⟩
  rw [hw1] at HE1 HO1 HB1 ⊢
  clear hw1 HE HB HC
  obtain ⟨y0, y1, y2, y3, y4, y5, y6, y7, y8, y9, y10, y11, y12⟩ := Blk.rules HB1.out
  have yf7 := Blk.free HB1.out 7
  go_wp2_with fail
  go_ret
  exact ⟨by rw [Hmo.out]; rfl, Blk.set_ HB1.out 7 _, HO1.out.setCell (p := ⟨b, 7, none⟩) (.inl rfl) _⟩
set_option maxHeartbeats 4000000 in
set_option maxRecDepth 100000 in
theorem line_stuck (b : Nat) (s : ByteArray) (w h t li pl : Int) (c h0 h1 : ByteArray) (sv : Value) (dr st : Bool) (lo re : Nat) (W : World) (hs : s.size < 4294967281) (he : Env W) (hB : Blk W b 27 #[.int .i64 w, .int .i64 h, .string c, .int .i64 t, .string h0, .string h1, sv, .bool dr, .int .u8 (lo : Int), .int .i64 li, .int .u8 (re : Int), .bool st, .int .i64 pl]) (hw : (Lib.cut s.data.toList [32]).1 = [115, 116, 117, 99, 107]) :
    Calls Tryz.prog 36 #[.pointer (some ⟨b, 0, none⟩), .string s] W fun e w' => e = .returned (.bool (!(Lib.cut s.data.toList [32]).2.2)) ∧ Blk w' b 27 #[.int .i64 w, .int .i64 h, .string c, .int .i64 t, .string h0, .string h1, sv, .bool dr, .int .u8 (lo : Int), .int .i64 li, .int .u8 (re : Int), .bool true, .int .i64 pl] ∧ Only (fun x => x = b) W w' := by
  obtain ⟨m, hm⟩ := he.m
  have HC := hide (Tryz.strings_Cut s ⟨#[32]⟩ m W hs hm)
  rw [show (⟨#[32]⟩ : ByteArray).data.toList = [32] from rfl] at HC
  have hcl := (cut_len s.data.toList [32]).2
  have hcl1 : s.data.toList.length = s.size := by simp
  obtain ⟨ct, hct⟩ : ∃ ct, Lib.cut s.data.toList [32] = ct := ⟨_, rfl⟩
  have Hct := hide hct
  rw [hct] at HC hcl hw
  obtain ⟨H, Wt, more⟩ := ct
  simp only at HC hcl hw
  obtain ⟨sh, hsh⟩ : ∃ sh : ByteArray, ⟨H.toArray⟩ = sh := ⟨_, rfl⟩
  obtain ⟨sr, hsr⟩ : ∃ sr : ByteArray, ⟨Wt.toArray⟩ = sr := ⟨_, rfl⟩
  have Hsr := hide (show sr.data.toList = (Lib.cut s.data.toList [32]).2.1 from by rw [← hsr, Hct.out])
  have Hmo := hide (show (Lib.cut s.data.toList [32]).2.2 = more from by rw [Hct.out])
  have hsrl : sr.size < 4294967281 := by
    have h2 : sr.data.toList.length = sr.size := by simp
    rw [← hsr] at h2
    simp at h2
    rw [← hsr]
    simp only [ByteArray.size]
    simp
    omega
  have hq : sh.toList = H := by rw [← hsh, Go.ByteArray.toList_eq]
  have q_start : (sh.toList == [115, 116, 97, 114, 116]) = false := by rw [hq]; rw [hw]; rfl
  have q_piece : (sh.toList == [112, 105, 101, 99, 101]) = false := by rw [hq]; rw [hw]; rfl
  have q_drops : (sh.toList == [100, 114, 111, 112, 115]) = false := by rw [hq]; rw [hw]; rfl
  have q_stuck : (sh.toList == [115, 116, 117, 99, 107]) = true := by rw [hq, hw]; rfl
  rw [hsh, hsr] at HC
  have HE := hide he
  have HB := hide hB
  clear hm he hB hct hw hq hsh hsr hcl hcl1
  go_enter Tryz.func36, Tryz.ntmps36
  go_upto_region 3 with (go_at_call 34; refine HC.out.mono ?_; rintro e w1 ⟨rfl, n, rfl⟩)
  have HE1 := hide (HE.out.no ((Only.refl _ W).drewN n))
  have HO1 := hide ((Only.refl (fun x => x = b) W).drewN n)
  have HB1 := hide (show Blk (W.drewN n) b 27 #[.int .i64 w, .int .i64 h, .string c, .int .i64 t, .string h0, .string h1, sv, .bool dr, .int .u8 (lo : Int), .int .i64 li, .int .u8 (re : Int), .bool st, .int .i64 pl] from HB.out)
  obtain ⟨w1, hw1⟩ : ∃ w1, W.drewN n = w1 := ⟨_, rfl⟩
  rw [hw1] at HE1 HO1 HB1 ⊢
  clear hw1 HE HB HC
  obtain ⟨y0, y1, y2, y3, y4, y5, y6, y7, y8, y9, y10, y11, y12⟩ := Blk.rules HB1.out
  have yf11 := Blk.free HB1.out 11
  go_wp2_with fail
  go_ret
  exact ⟨by rw [Hmo.out]; rfl, Blk.set_ HB1.out 11 _, HO1.out.setCell (p := ⟨b, 11, none⟩) (.inl rfl) _⟩
set_option maxHeartbeats 4000000 in
set_option maxRecDepth 100000 in
theorem line_lose (b : Nat) (s : ByteArray) (w h t li pl : Int) (c h0 h1 : ByteArray) (sv : Value) (dr st : Bool) (lo re : Nat) (W : World) (hs : s.size < 4294967281) (he : Env W) (hB : Blk W b 27 #[.int .i64 w, .int .i64 h, .string c, .int .i64 t, .string h0, .string h1, sv, .bool dr, .int .u8 (lo : Int), .int .i64 li, .int .u8 (re : Int), .bool st, .int .i64 pl]) (hw : (Lib.cut s.data.toList [32]).1 = [108, 111, 115, 101]) :
    Calls Tryz.prog 36 #[.pointer (some ⟨b, 0, none⟩), .string s] W fun e w' => ∃ (n : Nat) (ok : Bool), e = .returned (.bool ok) ∧ LetP (Lib.cut s.data.toList [32]).2.1 n ok ∧ Blk w' b 27 #[.int .i64 w, .int .i64 h, .string c, .int .i64 t, .string h0, .string h1, sv, .bool dr, .int .u8 (n : Int), .int .i64 li, .int .u8 (re : Int), .bool st, .int .i64 pl] ∧ Only (fun x => x = b) W w' := by
  obtain ⟨m, hm⟩ := he.m
  have HC := hide (Tryz.strings_Cut s ⟨#[32]⟩ m W hs hm)
  rw [show (⟨#[32]⟩ : ByteArray).data.toList = [32] from rfl] at HC
  have hcl := (cut_len s.data.toList [32]).2
  have hcl1 : s.data.toList.length = s.size := by simp
  obtain ⟨ct, hct⟩ : ∃ ct, Lib.cut s.data.toList [32] = ct := ⟨_, rfl⟩
  have Hct := hide hct
  rw [hct] at HC hcl hw
  obtain ⟨H, Wt, more⟩ := ct
  simp only at HC hcl hw
  obtain ⟨sh, hsh⟩ : ∃ sh : ByteArray, ⟨H.toArray⟩ = sh := ⟨_, rfl⟩
  obtain ⟨sr, hsr⟩ : ∃ sr : ByteArray, ⟨Wt.toArray⟩ = sr := ⟨_, rfl⟩
  have Hsr := hide (show sr.data.toList = (Lib.cut s.data.toList [32]).2.1 from by rw [← hsr, Hct.out])
  have Hmo := hide (show (Lib.cut s.data.toList [32]).2.2 = more from by rw [Hct.out])
  have hsrl : sr.size < 4294967281 := by
    have h2 : sr.data.toList.length = sr.size := by simp
    rw [← hsr] at h2
    simp at h2
    rw [← hsr]
    simp only [ByteArray.size]
    simp
    omega
  have hq : sh.toList = H := by rw [← hsh, Go.ByteArray.toList_eq]
  have q_start : (sh.toList == [115, 116, 97, 114, 116]) = false := by rw [hq]; rw [hw]; rfl
  have q_piece : (sh.toList == [112, 105, 101, 99, 101]) = false := by rw [hq]; rw [hw]; rfl
  have q_drops : (sh.toList == [100, 114, 111, 112, 115]) = false := by rw [hq]; rw [hw]; rfl
  have q_stuck : (sh.toList == [115, 116, 117, 99, 107]) = false := by rw [hq]; rw [hw]; rfl
  have q_lose : (sh.toList == [108, 111, 115, 101]) = true := by rw [hq, hw]; rfl
  rw [hsh, hsr] at HC
  have HE := hide he
  have HB := hide hB
  clear hm he hB hct hw hq hsh hsr hcl hcl1
  go_enter Tryz.func36, Tryz.ntmps36
  go_upto_region 3 with (go_at_call 34; refine HC.out.mono ?_; rintro e w1 ⟨rfl, n, rfl⟩)
  have HE1 := hide (HE.out.no ((Only.refl _ W).drewN n))
  have HO1 := hide ((Only.refl (fun x => x = b) W).drewN n)
  have HB1 := hide (show Blk (W.drewN n) b 27 #[.int .i64 w, .int .i64 h, .string c, .int .i64 t, .string h0, .string h1, sv, .bool dr, .int .u8 (lo : Int), .int .i64 li, .int .u8 (re : Int), .bool st, .int .i64 pl] from HB.out)
  obtain ⟨w1, hw1⟩ : ∃ w1, W.drewN n = w1 := ⟨_, rfl⟩
  rw [hw1] at HE1 HO1 HB1 ⊢
  clear hw1 HE HB HC
  have HL := hide (letter_any sr w1)
  obtain ⟨y0, y1, y2, y3, y4, y5, y6, y7, y8, y9, y10, y11, y12⟩ := Blk.rules HB1.out
  have yf8 := Blk.free HB1.out 8
  go_wp2_with (go_at_call 76; refine HL.out.mono ?_; rintro e w2 ⟨⟨n, ok, rfl, hl⟩, rfl⟩; have Hl := hide hl; clear hl)
  go_ret
  exact ⟨n, ok, rfl, by rw [← Hsr.out]; exact Hl.out, Blk.set_ HB1.out 8 _, HO1.out.setCell (p := ⟨b, 8, none⟩) (.inl rfl) _⟩
set_option maxHeartbeats 4000000 in
set_option maxRecDepth 100000 in
theorem line_reach (b : Nat) (s : ByteArray) (w h t li pl : Int) (c h0 h1 : ByteArray) (sv : Value) (dr st : Bool) (lo re : Nat) (W : World) (hs : s.size < 4294967281) (he : Env W) (hB : Blk W b 27 #[.int .i64 w, .int .i64 h, .string c, .int .i64 t, .string h0, .string h1, sv, .bool dr, .int .u8 (lo : Int), .int .i64 li, .int .u8 (re : Int), .bool st, .int .i64 pl]) (hw : (Lib.cut s.data.toList [32]).1 = [114, 101, 97, 99, 104]) :
    Calls Tryz.prog 36 #[.pointer (some ⟨b, 0, none⟩), .string s] W fun e w' => ∃ (n : Nat) (ok : Bool), e = .returned (.bool ok) ∧ LetP (Lib.cut s.data.toList [32]).2.1 n ok ∧ Blk w' b 27 #[.int .i64 w, .int .i64 h, .string c, .int .i64 t, .string h0, .string h1, sv, .bool dr, .int .u8 (lo : Int), .int .i64 li, .int .u8 (n : Int), .bool st, .int .i64 pl] ∧ Only (fun x => x = b) W w' := by
  obtain ⟨m, hm⟩ := he.m
  have HC := hide (Tryz.strings_Cut s ⟨#[32]⟩ m W hs hm)
  rw [show (⟨#[32]⟩ : ByteArray).data.toList = [32] from rfl] at HC
  have hcl := (cut_len s.data.toList [32]).2
  have hcl1 : s.data.toList.length = s.size := by simp
  obtain ⟨ct, hct⟩ : ∃ ct, Lib.cut s.data.toList [32] = ct := ⟨_, rfl⟩
  have Hct := hide hct
  rw [hct] at HC hcl hw
  obtain ⟨H, Wt, more⟩ := ct
  simp only at HC hcl hw
  obtain ⟨sh, hsh⟩ : ∃ sh : ByteArray, ⟨H.toArray⟩ = sh := ⟨_, rfl⟩
  obtain ⟨sr, hsr⟩ : ∃ sr : ByteArray, ⟨Wt.toArray⟩ = sr := ⟨_, rfl⟩
  have Hsr := hide (show sr.data.toList = (Lib.cut s.data.toList [32]).2.1 from by rw [← hsr, Hct.out])
  have Hmo := hide (show (Lib.cut s.data.toList [32]).2.2 = more from by rw [Hct.out])
  have hsrl : sr.size < 4294967281 := by
    have h2 : sr.data.toList.length = sr.size := by simp
    rw [← hsr] at h2
    simp at h2
    rw [← hsr]
    simp only [ByteArray.size]
    simp
    omega
  have hq : sh.toList = H := by rw [← hsh, Go.ByteArray.toList_eq]
  have q_start : (sh.toList == [115, 116, 97, 114, 116]) = false := by rw [hq]; rw [hw]; rfl
  have q_piece : (sh.toList == [112, 105, 101, 99, 101]) = false := by rw [hq]; rw [hw]; rfl
  have q_drops : (sh.toList == [100, 114, 111, 112, 115]) = false := by rw [hq]; rw [hw]; rfl
  have q_stuck : (sh.toList == [115, 116, 117, 99, 107]) = false := by rw [hq]; rw [hw]; rfl
  have q_lose : (sh.toList == [108, 111, 115, 101]) = false := by rw [hq]; rw [hw]; rfl
  have q_reach : (sh.toList == [114, 101, 97, 99, 104]) = true := by rw [hq, hw]; rfl
  rw [hsh, hsr] at HC
  have HE := hide he
  have HB := hide hB
  clear hm he hB hct hw hq hsh hsr hcl hcl1
  go_enter Tryz.func36, Tryz.ntmps36
  go_upto_region 3 with (go_at_call 34; refine HC.out.mono ?_; rintro e w1 ⟨rfl, n, rfl⟩)
  have HE1 := hide (HE.out.no ((Only.refl _ W).drewN n))
  have HO1 := hide ((Only.refl (fun x => x = b) W).drewN n)
  have HB1 := hide (show Blk (W.drewN n) b 27 #[.int .i64 w, .int .i64 h, .string c, .int .i64 t, .string h0, .string h1, sv, .bool dr, .int .u8 (lo : Int), .int .i64 li, .int .u8 (re : Int), .bool st, .int .i64 pl] from HB.out)
  obtain ⟨w1, hw1⟩ : ∃ w1, W.drewN n = w1 := ⟨_, rfl⟩
  rw [hw1] at HE1 HO1 HB1 ⊢
  clear hw1 HE HB HC
  have HL := hide (letter_any sr w1)
  obtain ⟨y0, y1, y2, y3, y4, y5, y6, y7, y8, y9, y10, y11, y12⟩ := Blk.rules HB1.out
  have yf10 := Blk.free HB1.out 10
  go_wp2_with (go_at_call 76; refine HL.out.mono ?_; rintro e w2 ⟨⟨n, ok, rfl, hl⟩, rfl⟩; have Hl := hide hl; clear hl)
  go_ret
  exact ⟨n, ok, rfl, by rw [← Hsr.out]; exact Hl.out, Blk.set_ HB1.out 10 _, HO1.out.setCell (p := ⟨b, 10, none⟩) (.inl rfl) _⟩
set_option maxHeartbeats 4000000 in
set_option maxRecDepth 100000 in
theorem line_plies (b : Nat) (s : ByteArray) (w h t li pl : Int) (c h0 h1 : ByteArray) (sv : Value) (dr st : Bool) (lo re : Nat) (W : World) (hs : s.size < 4294967281) (he : Env W) (hB : Blk W b 27 #[.int .i64 w, .int .i64 h, .string c, .int .i64 t, .string h0, .string h1, sv, .bool dr, .int .u8 (lo : Int), .int .i64 li, .int .u8 (re : Int), .bool st, .int .i64 pl]) (hw : (Lib.cut s.data.toList [32]).1 = [112, 108, 105, 101, 115]) :
    Calls Tryz.prog 36 #[.pointer (some ⟨b, 0, none⟩), .string s] W fun e w' => ∃ (v : Int) (ok : Bool), e = .returned (.bool ok) ∧ NumP (Lib.cut s.data.toList [32]).2.1 v ok ∧ Blk w' b 27 #[.int .i64 w, .int .i64 h, .string c, .int .i64 t, .string h0, .string h1, sv, .bool dr, .int .u8 (lo : Int), .int .i64 li, .int .u8 (re : Int), .bool st, .int .i64 v] ∧ Only (fun x => x = b) W w' := by
  obtain ⟨m, hm⟩ := he.m
  have HC := hide (Tryz.strings_Cut s ⟨#[32]⟩ m W hs hm)
  rw [show (⟨#[32]⟩ : ByteArray).data.toList = [32] from rfl] at HC
  have hcl := (cut_len s.data.toList [32]).2
  have hcl1 : s.data.toList.length = s.size := by simp
  obtain ⟨ct, hct⟩ : ∃ ct, Lib.cut s.data.toList [32] = ct := ⟨_, rfl⟩
  have Hct := hide hct
  rw [hct] at HC hcl hw
  obtain ⟨H, Wt, more⟩ := ct
  simp only at HC hcl hw
  obtain ⟨sh, hsh⟩ : ∃ sh : ByteArray, ⟨H.toArray⟩ = sh := ⟨_, rfl⟩
  obtain ⟨sr, hsr⟩ : ∃ sr : ByteArray, ⟨Wt.toArray⟩ = sr := ⟨_, rfl⟩
  have Hsr := hide (show sr.data.toList = (Lib.cut s.data.toList [32]).2.1 from by rw [← hsr, Hct.out])
  have Hmo := hide (show (Lib.cut s.data.toList [32]).2.2 = more from by rw [Hct.out])
  have hsrl : sr.size < 4294967281 := by
    have h2 : sr.data.toList.length = sr.size := by simp
    rw [← hsr] at h2
    simp at h2
    rw [← hsr]
    simp only [ByteArray.size]
    simp
    omega
  have hq : sh.toList = H := by rw [← hsh, Go.ByteArray.toList_eq]
  have q_start : (sh.toList == [115, 116, 97, 114, 116]) = false := by rw [hq]; rw [hw]; rfl
  have q_piece : (sh.toList == [112, 105, 101, 99, 101]) = false := by rw [hq]; rw [hw]; rfl
  have q_drops : (sh.toList == [100, 114, 111, 112, 115]) = false := by rw [hq]; rw [hw]; rfl
  have q_stuck : (sh.toList == [115, 116, 117, 99, 107]) = false := by rw [hq]; rw [hw]; rfl
  have q_lose : (sh.toList == [108, 111, 115, 101]) = false := by rw [hq]; rw [hw]; rfl
  have q_reach : (sh.toList == [114, 101, 97, 99, 104]) = false := by rw [hq]; rw [hw]; rfl
  have q_line : (sh.toList == [108, 105, 110, 101]) = false := by rw [hq]; rw [hw]; rfl
  have q_plies : (sh.toList == [112, 108, 105, 101, 115]) = true := by rw [hq, hw]; rfl
  rw [hsh, hsr] at HC
  have HE := hide he
  have HB := hide hB
  clear hm he hB hct hw hq hsh hsr hcl hcl1
  go_enter Tryz.func36, Tryz.ntmps36
  go_upto_region 3 with (go_at_call 34; refine HC.out.mono ?_; rintro e w1 ⟨rfl, n, rfl⟩)
  have HE1 := hide (HE.out.no ((Only.refl _ W).drewN n))
  have HO1 := hide ((Only.refl (fun x => x = b) W).drewN n)
  have HB1 := hide (show Blk (W.drewN n) b 27 #[.int .i64 w, .int .i64 h, .string c, .int .i64 t, .string h0, .string h1, sv, .bool dr, .int .u8 (lo : Int), .int .i64 li, .int .u8 (re : Int), .bool st, .int .i64 pl] from HB.out)
  obtain ⟨w1, hw1⟩ : ∃ w1, W.drewN n = w1 := ⟨_, rfl⟩
  rw [hw1] at HE1 HO1 HB1 ⊢
  clear hw1 HE HB HC
  have HN := hide (number_any sr w1 (by omega) HE1.out)
  obtain ⟨y0, y1, y2, y3, y4, y5, y6, y7, y8, y9, y10, y11, y12⟩ := Blk.rules HB1.out
  go_wp2_with (go_at_call 77; refine HN.out.mono ?_; rintro e w2 ⟨⟨v, ok, rfl, hv⟩, ho⟩; have Hv := hide hv; have HB2 := hide (HB1.out.only ho (fun h => h)); have HO2 := hide (HO1.out.trans' ho (fun _ _ h => h.elim)); clear hv ho y0 y1 y2 y3 y4 y5 y6 y7 y8 y9 y10 y11 y12; obtain ⟨y0, y1, y2, y3, y4, y5, y6, y7, y8, y9, y10, y11, y12⟩ := Blk.rules HB2.out; have yf := Blk.free HB2.out 12)
  go_ret
  exact ⟨v, ok, rfl, by rw [← Hsr.out]; exact Hv.out, Blk.set_ HB2.out 12 _, HO2.out.setCell (p := ⟨b, 12, none⟩) (.inl rfl) _⟩
set_option maxHeartbeats 4000000 in
set_option maxRecDepth 100000 in
theorem line_line (b : Nat) (s : ByteArray) (w h t li pl : Int) (c h0 h1 : ByteArray) (sv : Value) (dr st : Bool) (lo re : Nat) (W : World) (hs : s.size < 4294967281) (he : Env W) (hB : Blk W b 27 #[.int .i64 w, .int .i64 h, .string c, .int .i64 t, .string h0, .string h1, sv, .bool dr, .int .u8 (lo : Int), .int .i64 li, .int .u8 (re : Int), .bool st, .int .i64 pl]) (hw : (Lib.cut s.data.toList [32]).1 = [108, 105, 110, 101]) :
    Calls Tryz.prog 36 #[.pointer (some ⟨b, 0, none⟩), .string s] W fun e w' => ∃ (v : Int) (ok : Bool), e = .returned (.bool (ok && decide (0 < v))) ∧ NumP (Lib.cut s.data.toList [32]).2.1 v ok ∧ Blk w' b 27 #[.int .i64 w, .int .i64 h, .string c, .int .i64 t, .string h0, .string h1, sv, .bool dr, .int .u8 (lo : Int), .int .i64 v, .int .u8 (re : Int), .bool st, .int .i64 pl] ∧ Only (fun x => x = b) W w' := by
  obtain ⟨m, hm⟩ := he.m
  have HC := hide (Tryz.strings_Cut s ⟨#[32]⟩ m W hs hm)
  rw [show (⟨#[32]⟩ : ByteArray).data.toList = [32] from rfl] at HC
  have hcl := (cut_len s.data.toList [32]).2
  have hcl1 : s.data.toList.length = s.size := by simp
  obtain ⟨ct, hct⟩ : ∃ ct, Lib.cut s.data.toList [32] = ct := ⟨_, rfl⟩
  have Hct := hide hct
  rw [hct] at HC hcl hw
  obtain ⟨H, Wt, more⟩ := ct
  simp only at HC hcl hw
  obtain ⟨sh, hsh⟩ : ∃ sh : ByteArray, ⟨H.toArray⟩ = sh := ⟨_, rfl⟩
  obtain ⟨sr, hsr⟩ : ∃ sr : ByteArray, ⟨Wt.toArray⟩ = sr := ⟨_, rfl⟩
  have Hsr := hide (show sr.data.toList = (Lib.cut s.data.toList [32]).2.1 from by rw [← hsr, Hct.out])
  have Hmo := hide (show (Lib.cut s.data.toList [32]).2.2 = more from by rw [Hct.out])
  have hsrl : sr.size < 4294967281 := by
    have h2 : sr.data.toList.length = sr.size := by simp
    rw [← hsr] at h2
    simp at h2
    rw [← hsr]
    simp only [ByteArray.size]
    simp
    omega
  have hq : sh.toList = H := by rw [← hsh, Go.ByteArray.toList_eq]
  have q_start : (sh.toList == [115, 116, 97, 114, 116]) = false := by rw [hq]; rw [hw]; rfl
  have q_piece : (sh.toList == [112, 105, 101, 99, 101]) = false := by rw [hq]; rw [hw]; rfl
  have q_drops : (sh.toList == [100, 114, 111, 112, 115]) = false := by rw [hq]; rw [hw]; rfl
  have q_stuck : (sh.toList == [115, 116, 117, 99, 107]) = false := by rw [hq]; rw [hw]; rfl
  have q_lose : (sh.toList == [108, 111, 115, 101]) = false := by rw [hq]; rw [hw]; rfl
  have q_reach : (sh.toList == [114, 101, 97, 99, 104]) = false := by rw [hq]; rw [hw]; rfl
  have q_line : (sh.toList == [108, 105, 110, 101]) = true := by rw [hq, hw]; rfl
  rw [hsh, hsr] at HC
  have HE := hide he
  have HB := hide hB
  clear hm he hB hct hw hq hsh hsr hcl hcl1
  go_enter Tryz.func36, Tryz.ntmps36
  go_upto_region 3 with (go_at_call 34; refine HC.out.mono ?_; rintro e w1 ⟨rfl, n, rfl⟩)
  have HE1 := hide (HE.out.no ((Only.refl _ W).drewN n))
  have HO1 := hide ((Only.refl (fun x => x = b) W).drewN n)
  have HB1 := hide (show Blk (W.drewN n) b 27 #[.int .i64 w, .int .i64 h, .string c, .int .i64 t, .string h0, .string h1, sv, .bool dr, .int .u8 (lo : Int), .int .i64 li, .int .u8 (re : Int), .bool st, .int .i64 pl] from HB.out)
  obtain ⟨w1, hw1⟩ : ∃ w1, W.drewN n = w1 := ⟨_, rfl⟩
  rw [hw1] at HE1 HO1 HB1 ⊢
  clear hw1 HE HB HC
  have HN := hide (number_any sr w1 (by omega) HE1.out)
  obtain ⟨y0, y1, y2, y3, y4, y5, y6, y7, y8, y9, y10, y11, y12⟩ := Blk.rules HB1.out
  go_upto_region 25 with (go_at_call 77; refine HN.out.mono ?_; rintro e w2 ⟨⟨v, ok, rfl, hv⟩, ho⟩; have Hv := hide hv; have HB2 := hide (HB1.out.only ho (fun h => h)); have HO2 := hide (HO1.out.trans' ho (fun _ _ h => h.elim)); clear hv ho y0 y1 y2 y3 y4 y5 y6 y7 y8 y9 y10 y11 y12; obtain ⟨y0, y1, y2, y3, y4, y5, y6, y7, y8, y9, y10, y11, y12⟩ := Blk.rules HB2.out; have yf := Blk.free HB2.out 9)
  have HB3 := hide (show Blk (w2.setCell ⟨b, 9, none⟩ (.int .i64 v)) b 27 #[.int .i64 w, .int .i64 h, .string c, .int .i64 t, .string h0, .string h1, sv, .bool dr, .int .u8 (lo : Int), .int .i64 v, .int .u8 (re : Int), .bool st, .int .i64 pl] from Blk.set_ HB2.out 9 _)
  have HO3 := hide (HO2.out.setCell (p := ⟨b, 9, none⟩) (.inl rfl) (.int .i64 v))
  obtain ⟨w3, hw3⟩ : ∃ w3, w2.setCell ⟨b, 9, none⟩ (.int .i64 v) = w3 := ⟨_, rfl⟩
  rw [hw3] at HB3 HO3 ⊢
  clear hw3 y0 y1 y2 y3 y4 y5 y6 y7 y8 y9 y10 y11 y12 yf
  obtain ⟨y0, y1, y2, y3, y4, y5, y6, y7, y8, y9, y10, y11, y12⟩ := Blk.rules HB3.out
  cases ok
  · go_wp2_with fail
    go_ret
    exact ⟨v, false, rfl, by rw [← Hsr.out]; exact Hv.out, HB3.out, HO3.out⟩
  · go_wp2_with fail
    go_ret
    exact ⟨v, true, by simp, by rw [← Hsr.out]; exact Hv.out, HB3.out, HO3.out⟩
set_option maxHeartbeats 4000000 in
set_option maxRecDepth 100000 in
theorem line_start (b : Nat) (s : ByteArray) (w h t li pl : Int) (c h0 h1 : ByteArray) (sv : Value) (dr st : Bool) (lo re : Nat) (W : World) (hs : s.size < 4294967281) (he : Env W) (hB : Blk W b 27 #[.int .i64 w, .int .i64 h, .string c, .int .i64 t, .string h0, .string h1, sv, .bool dr, .int .u8 (lo : Int), .int .i64 li, .int .u8 (re : Int), .bool st, .int .i64 pl]) (hw : (Lib.cut s.data.toList [32]).1 = [115, 116, 97, 114, 116]) :
    Calls Tryz.prog 36 #[.pointer (some ⟨b, 0, none⟩), .string s] W fun e w' => ∃ (q : Pos) (code at_ : Int), ReadP (Lib.cut s.data.toList [32]).2.1 q code at_ ∧ e = .returned (.bool ((Lib.cut s.data.toList [32]).2.2 && decide (code = 0))) ∧ Blk w' b 27 #[.int .i64 q.w, .int .i64 q.h, .string q.cells, .int .i64 q.turn, .string q.h0, .string q.h1, sv, .bool dr, .int .u8 (lo : Int), .int .i64 li, .int .u8 (re : Int), .bool st, .int .i64 pl] ∧ Only (fun x => x = b) W w' := by
  obtain ⟨m, hm⟩ := he.m
  have HC := hide (Tryz.strings_Cut s ⟨#[32]⟩ m W hs hm)
  rw [show (⟨#[32]⟩ : ByteArray).data.toList = [32] from rfl] at HC
  have hcl := (cut_len s.data.toList [32]).2
  have hcl1 : s.data.toList.length = s.size := by simp
  obtain ⟨ct, hct⟩ : ∃ ct, Lib.cut s.data.toList [32] = ct := ⟨_, rfl⟩
  have Hct := hide hct
  rw [hct] at HC hcl hw
  obtain ⟨H, Wt, more⟩ := ct
  simp only at HC hcl hw
  obtain ⟨sh, hsh⟩ : ∃ sh : ByteArray, ⟨H.toArray⟩ = sh := ⟨_, rfl⟩
  obtain ⟨sr, hsr⟩ : ∃ sr : ByteArray, ⟨Wt.toArray⟩ = sr := ⟨_, rfl⟩
  have Hsr := hide (show sr.data.toList = (Lib.cut s.data.toList [32]).2.1 from by rw [← hsr, Hct.out])
  have Hmo := hide (show (Lib.cut s.data.toList [32]).2.2 = more from by rw [Hct.out])
  have hsrl : sr.size < 4294967281 := by
    have h2 : sr.data.toList.length = sr.size := by simp
    rw [← hsr] at h2
    simp at h2
    rw [← hsr]
    simp only [ByteArray.size]
    simp
    omega
  have hq : sh.toList = H := by rw [← hsh, Go.ByteArray.toList_eq]
  have q_start : (sh.toList == [115, 116, 97, 114, 116]) = true := by rw [hq, hw]; rfl
  rw [hsh, hsr] at HC
  have HE := hide he
  have HB := hide hB
  clear hm he hB hct hw hq hsh hsr hcl hcl1
  go_enter Tryz.func36, Tryz.ntmps36
  go_upto_region 3 with (go_at_call 34; refine HC.out.mono ?_; rintro e w1 ⟨rfl, n, rfl⟩)
  have HE1 := hide (HE.out.no ((Only.refl _ W).drewN n))
  have HO1 := hide ((Only.refl (fun x => x = b) W).drewN n)
  have HB1 := hide (show Blk (W.drewN n) b 27 #[.int .i64 w, .int .i64 h, .string c, .int .i64 t, .string h0, .string h1, sv, .bool dr, .int .u8 (lo : Int), .int .i64 li, .int .u8 (re : Int), .bool st, .int .i64 pl] from HB.out)
  obtain ⟨w1, hw1⟩ : ∃ w1, W.drewN n = w1 := ⟨_, rfl⟩
  rw [hw1] at HE1 HO1 HB1 ⊢
  clear hw1 HE HB HC
  have HR := hide (read_any sr w1 (by omega))
  obtain ⟨y0, y1, y2, y3, y4, y5, y6, y7, y8, y9, y10, y11, y12⟩ := Blk.rules HB1.out
  go_upto_region 5 with (go_at_call 74; refine HR.out.mono ?_; rintro e w2 ⟨⟨q, cd, ca, hq, rfl⟩, ho⟩; have Hq := hide hq; have Ho2 := hide ho; clear hq ho)
  obtain ⟨qw, qh, qc, qt, q0, q1⟩ := q
  have hal : Only (fun _ => False) w2 ((w2.alloc (.cells #[.int .i64 qw, .int .i64 qh, .string qc, .int .i64 qt, .string q0, .string q1] 24)).alloc (.cells #[.int .i64 cd, .int .i64 ca] 32)) := ((Only.refl _ w2).alloc _).alloc _
  have HBq := hide (Blk.alloc (Blk.new w2 24 #[.int .i64 qw, .int .i64 qh, .string qc, .int .i64 qt, .string q0, .string q1]) (.cells #[.int .i64 cd, .int .i64 ca] 32))
  have HBf := hide (show Blk ((w2.alloc (.cells #[.int .i64 qw, .int .i64 qh, .string qc, .int .i64 qt, .string q0, .string q1] 24)).alloc (.cells #[.int .i64 cd, .int .i64 ca] 32)) (w2.heap.size + 1) 32 #[.int .i64 cd, .int .i64 ca] from (by have h := Blk.new (w2.alloc (.cells #[.int .i64 qw, .int .i64 qh, .string qc, .int .i64 qt, .string q0, .string q1] 24)) 32 #[.int .i64 cd, .int .i64 ca]; rw [World.size_alloc] at h; exact h))
  have HB2 := hide ((HB1.out.only Ho2.out (fun h => h)).only hal (fun h => h))
  have HO2 := hide ((HO1.out.trans' Ho2.out (fun _ _ h => h.elim)).trans' hal (fun _ _ h => h.elim))
  have hbl : b < w2.heap.size := Blk.lt (HB1.out.only Ho2.out (fun h => h))
  obtain ⟨gq, hgq⟩ : ∃ gq, w2.heap.size = gq := ⟨_, rfl⟩
  obtain ⟨w3, hw3⟩ : ∃ w3, (w2.alloc (.cells #[.int .i64 qw, .int .i64 qh, .string qc, .int .i64 qt, .string q0, .string q1] 24)).alloc (.cells #[.int .i64 cd, .int .i64 ca] 32) = w3 := ⟨_, rfl⟩
  rw [hw3] at HBq HBf HB2 HO2 ⊢
  rw [hgq] at HBq HBf hbl ⊢
  clear hw3 hgq hal y0 y1 y2 y3 y4 y5 y6 y7 y8 y9 y10 y11 y12
  obtain ⟨y0, y1, y2, y3, y4, y5, y6, y7, y8, y9, y10, y11, y12⟩ := Blk.rules HB2.out
  obtain ⟨z0, z1, z2, z3, z4, z5, -⟩ := HBq.out.six_
  have yf := Blk.free HB2.out
  have yf0 := yf 0
  have yf1 := yf 1
  have yf2 := yf 2
  have yf3 := yf 3
  have yf4 := yf 4
  have yf5 := yf 5
  clear yf
  go_upto_region 6 with (fail)
  have HB4 := hide (show Blk ((((((w3.setCell ⟨b, 0, none⟩ (.int .i64 qw)).setCell ⟨b, 1, none⟩ (.int .i64 qh)).setCell ⟨b, 2, none⟩ (.string qc)).setCell ⟨b, 3, none⟩ (.int .i64 qt)).setCell ⟨b, 4, none⟩ (.string q0)).setCell ⟨b, 5, none⟩ (.string q1)) b 27 #[.int .i64 qw, .int .i64 qh, .string qc, .int .i64 qt, .string q0, .string q1, sv, .bool dr, .int .u8 (lo : Int), .int .i64 li, .int .u8 (re : Int), .bool st, .int .i64 pl] from Blk.set_ (Blk.set_ (Blk.set_ (Blk.set_ (Blk.set_ (Blk.set_ HB2.out 0 _) 1 _) 2 _) 3 _) 4 _) 5 _)
  have HBf4 := hide (show Blk ((((((w3.setCell ⟨b, 0, none⟩ (.int .i64 qw)).setCell ⟨b, 1, none⟩ (.int .i64 qh)).setCell ⟨b, 2, none⟩ (.string qc)).setCell ⟨b, 3, none⟩ (.int .i64 qt)).setCell ⟨b, 4, none⟩ (.string q0)).setCell ⟨b, 5, none⟩ (.string q1)) (gq + 1) 32 #[.int .i64 cd, .int .i64 ca] from Blk.far (Blk.far (Blk.far (Blk.far (Blk.far (Blk.far HBf.out (p := ⟨b, 0, none⟩) (by simp only; omega) _) (p := ⟨b, 1, none⟩) (by simp only; omega) _) (p := ⟨b, 2, none⟩) (by simp only; omega) _) (p := ⟨b, 3, none⟩) (by simp only; omega) _) (p := ⟨b, 4, none⟩) (by simp only; omega) _) (p := ⟨b, 5, none⟩) (by simp only; omega) _)
  have HO4 := hide (show Only (fun x => x = b) W ((((((w3.setCell ⟨b, 0, none⟩ (.int .i64 qw)).setCell ⟨b, 1, none⟩ (.int .i64 qh)).setCell ⟨b, 2, none⟩ (.string qc)).setCell ⟨b, 3, none⟩ (.int .i64 qt)).setCell ⟨b, 4, none⟩ (.string q0)).setCell ⟨b, 5, none⟩ (.string q1)) from (((((HO2.out.setCell (p := ⟨b, 0, none⟩) (.inl rfl) _).setCell (p := ⟨b, 1, none⟩) (.inl rfl) _).setCell (p := ⟨b, 2, none⟩) (.inl rfl) _).setCell (p := ⟨b, 3, none⟩) (.inl rfl) _).setCell (p := ⟨b, 4, none⟩) (.inl rfl) _).setCell (p := ⟨b, 5, none⟩) (.inl rfl) _)
  obtain ⟨w4, hw4⟩ : ∃ w4, ((((((w3.setCell ⟨b, 0, none⟩ (.int .i64 qw)).setCell ⟨b, 1, none⟩ (.int .i64 qh)).setCell ⟨b, 2, none⟩ (.string qc)).setCell ⟨b, 3, none⟩ (.int .i64 qt)).setCell ⟨b, 4, none⟩ (.string q0)).setCell ⟨b, 5, none⟩ (.string q1)) = w4 := ⟨_, rfl⟩
  rw [hw4] at HB4 HBf4 HO4 ⊢
  clear hw4 y0 y1 y2 y3 y4 y5 y6 y7 y8 y9 y10 y11 y12 z0 z1 z2 z3 z4 z5 yf0 yf1 yf2 yf3 yf4 yf5
  obtain ⟨f0, f1, -⟩ := HBf4.out.two_
  cases more
  · go_wp2_with fail
    go_ret
    exact ⟨⟨qw, qh, qc, qt, q0, q1⟩, cd, ca, by rw [← Hsr.out]; exact Hq.out, by rw [Hmo.out]; rfl, HB4.out, HO4.out⟩
  · obtain ⟨bc, hbc⟩ : ∃ bc, ((cd : Int) == 0) = bc := ⟨_, rfl⟩
    have Hbc := hide (show decide (cd = 0) = bc from by rw [← hbc, Bool.eq_iff_iff]; simp)
    go_wp2_with fail
    go_ret
    exact ⟨⟨qw, qh, qc, qt, q0, q1⟩, cd, ca, by rw [← Hsr.out]; exact Hq.out, by rw [Hmo.out, Hbc.out]; rfl, HB4.out, HO4.out⟩
set_option maxHeartbeats 4000000 in
set_option maxRecDepth 100000 in
theorem line_none (b : Nat) (s : ByteArray) (w h t li pl : Int) (c h0 h1 : ByteArray) (sv : Value) (dr st : Bool) (lo re : Nat) (W : World) (hs : s.size < 4294967281) (he : Env W) (hB : Blk W b 27 #[.int .i64 w, .int .i64 h, .string c, .int .i64 t, .string h0, .string h1, sv, .bool dr, .int .u8 (lo : Int), .int .i64 li, .int .u8 (re : Int), .bool st, .int .i64 pl]) (hw : (Lib.cut s.data.toList [32]).1 ≠ [115, 116, 97, 114, 116] ∧ (Lib.cut s.data.toList [32]).1 ≠ [112, 105, 101, 99, 101] ∧ (Lib.cut s.data.toList [32]).1 ≠ [100, 114, 111, 112, 115] ∧ (Lib.cut s.data.toList [32]).1 ≠ [115, 116, 117, 99, 107] ∧ (Lib.cut s.data.toList [32]).1 ≠ [108, 111, 115, 101] ∧ (Lib.cut s.data.toList [32]).1 ≠ [114, 101, 97, 99, 104] ∧ (Lib.cut s.data.toList [32]).1 ≠ [108, 105, 110, 101] ∧ (Lib.cut s.data.toList [32]).1 ≠ [112, 108, 105, 101, 115]) :
    Calls Tryz.prog 36 #[.pointer (some ⟨b, 0, none⟩), .string s] W fun e w' => e = .returned (.bool false) ∧ Only (fun x => x = b) W w' := by
  obtain ⟨m, hm⟩ := he.m
  have HC := hide (Tryz.strings_Cut s ⟨#[32]⟩ m W hs hm)
  rw [show (⟨#[32]⟩ : ByteArray).data.toList = [32] from rfl] at HC
  have hcl := (cut_len s.data.toList [32]).2
  have hcl1 : s.data.toList.length = s.size := by simp
  obtain ⟨ct, hct⟩ : ∃ ct, Lib.cut s.data.toList [32] = ct := ⟨_, rfl⟩
  have Hct := hide hct
  rw [hct] at HC hcl hw
  obtain ⟨H, Wt, more⟩ := ct
  simp only at HC hcl hw
  obtain ⟨sh, hsh⟩ : ∃ sh : ByteArray, ⟨H.toArray⟩ = sh := ⟨_, rfl⟩
  obtain ⟨sr, hsr⟩ : ∃ sr : ByteArray, ⟨Wt.toArray⟩ = sr := ⟨_, rfl⟩
  have Hsr := hide (show sr.data.toList = (Lib.cut s.data.toList [32]).2.1 from by rw [← hsr, Hct.out])
  have Hmo := hide (show (Lib.cut s.data.toList [32]).2.2 = more from by rw [Hct.out])
  have hsrl : sr.size < 4294967281 := by
    have h2 : sr.data.toList.length = sr.size := by simp
    rw [← hsr] at h2
    simp at h2
    rw [← hsr]
    simp only [ByteArray.size]
    simp
    omega
  have hq : sh.toList = H := by rw [← hsh, Go.ByteArray.toList_eq]
  have q_start : (sh.toList == [115, 116, 97, 114, 116]) = false := by rw [hq]; exact beq_eq_false_iff_ne.2 hw.1
  have q_piece : (sh.toList == [112, 105, 101, 99, 101]) = false := by rw [hq]; exact beq_eq_false_iff_ne.2 hw.2.1
  have q_drops : (sh.toList == [100, 114, 111, 112, 115]) = false := by rw [hq]; exact beq_eq_false_iff_ne.2 hw.2.2.1
  have q_stuck : (sh.toList == [115, 116, 117, 99, 107]) = false := by rw [hq]; exact beq_eq_false_iff_ne.2 hw.2.2.2.1
  have q_lose : (sh.toList == [108, 111, 115, 101]) = false := by rw [hq]; exact beq_eq_false_iff_ne.2 hw.2.2.2.2.1
  have q_reach : (sh.toList == [114, 101, 97, 99, 104]) = false := by rw [hq]; exact beq_eq_false_iff_ne.2 hw.2.2.2.2.2.1
  have q_line : (sh.toList == [108, 105, 110, 101]) = false := by rw [hq]; exact beq_eq_false_iff_ne.2 hw.2.2.2.2.2.2.1
  have q_plies : (sh.toList == [112, 108, 105, 101, 115]) = false := by rw [hq]; exact beq_eq_false_iff_ne.2 hw.2.2.2.2.2.2.2
  rw [hsh, hsr] at HC
  have HE := hide he
  have HB := hide hB
  clear hm he hB hct hw hq hsh hsr hcl hcl1
  go_enter Tryz.func36, Tryz.ntmps36
  go_upto_region 3 with (go_at_call 34; refine HC.out.mono ?_; rintro e w1 ⟨rfl, n, rfl⟩)
  have HE1 := hide (HE.out.no ((Only.refl _ W).drewN n))
  have HO1 := hide ((Only.refl (fun x => x = b) W).drewN n)
  have HB1 := hide (show Blk (W.drewN n) b 27 #[.int .i64 w, .int .i64 h, .string c, .int .i64 t, .string h0, .string h1, sv, .bool dr, .int .u8 (lo : Int), .int .i64 li, .int .u8 (re : Int), .bool st, .int .i64 pl] from HB.out)
  obtain ⟨w1, hw1⟩ : ∃ w1, W.drewN n = w1 := ⟨_, rfl⟩
  rw [hw1] at HE1 HO1 HB1 ⊢
  clear hw1 HE HB HC
  go_wp2_with fail
  go_ret
  exact ⟨rfl, HO1.out⟩
end Go.Proofs.YtcdfeaodfmfdnaaGreatDoor
