/- gameref.line, for each answer but one: walked. -/
import Derived.Test.YtcdfeaodfmfdnaaGreatDoorRtLineKit
namespace Go.Proofs.YtcdfeaodfmfdnaaGreatDoor
open Go.RowKit

theorem cnt_no_gt {l : List UInt8} {n : Int} (h : CntP l n) (hno : ∀ m : Nat, m ≤ 9999 → l = Lib.decDigits m → m = 0) : decide (n > 0) = false := by
  rcases h with ⟨m, rfl, hm9, hm⟩ | ⟨rfl, _⟩
  · rw [hno m hm9 hm]; decide
  · decide
theorem cnt_no_ge {l : List UInt8} {n : Int} (h : CntP l n) (hno : ∀ m : Nat, m ≤ 9999 → l = Lib.decDigits m → False) : decide (n ≥ 0) = false := by
  rcases h with ⟨m, rfl, hm9, hm⟩ | ⟨rfl, _⟩
  · exact (hno m hm9 hm).elim
  · decide
theorem cast_one (n : Nat) : (n == 1) = ((n : Int) == 1) := by
  rw [Bool.eq_iff_iff]; simp; omega
theorem head_at {f : ByteArray} (h : 0 < f.size) : f[0] = f.data.toList.headD 0 := by
  have h1 := byteAt h
  have h2 : f.data.toList ≠ [] := fun e => by
    have : f.data.toList.length = f.size := by simp
    rw [e] at this
    simp at this
    omega
  match hl : f.data.toList, h2 with
  | a :: l, _ =>
    rw [hl] at h1
    simpa using h1.symm
theorem askP_eq {l : List UInt8} {F : List (List UInt8)} (f0 f1 : ByteArray) (hF : splitL 32 l = F) (h0 : f0.data.toList = F.getD 0 []) (h1 : f1.data.toList = F.getD 1 []) :
    askP l = (decide (3 ≤ F.length) && ((f0.toList == [112, 105, 101, 99, 101]) && (((f1.size : Int) == 1) && upB (f1.data.toList.headD 0).toNat))) := by
  have hz : f1.data.toList.length = f1.size := by simp
  unfold askP
  rw [hF, Go.ByteArray.toList_eq, ← h0, ← h1, hz, ← cast_one, Bool.eq_iff_iff]
  simp [wordR]
set_option maxHeartbeats 8000000 in
set_option maxRecDepth 100000 in
theorem dl_drops (b : Nat) (s : ByteArray) (w h t li pl : Int) (c h0 h1 : ByteArray) (sv : Value) (dr st : Bool) (lo re : Nat) (W : World) (hs : s.size < 4294967281) (he : Env W) (hB : Blk W b 27 #[.int .i64 w, .int .i64 h, .string c, .int .i64 t, .string h0, .string h1, sv, .bool dr, .int .u8 (lo : Int), .int .i64 li, .int .u8 (re : Int), .bool st, .int .i64 pl])  (q0 : Lib.hasPrefix s.data.toList [115, 116, 97, 114, 116, 32] = false) (qn : (splitL 32 s.data.toList).length < 2) (qw : (splitL 32 s.data.toList).getD 0 [] = wordR 2) (qd : s.data.toList = wordR 2) :
    Calls Tryz.prog 38 #[.pointer (some ⟨b, 0, none⟩), .string s] W fun e w' => e = .returned (.int .i64 2) ∧ Blk w' b 27 #[.int .i64 w, .int .i64 h, .string c, .int .i64 t, .string h0, .string h1, sv, .bool true, .int .u8 (lo : Int), .int .i64 li, .int .u8 (re : Int), .bool st, .int .i64 pl] ∧ Only (fun x => x = b) W w' := by
  have H1 := hide (split_any 32 s W hs he.m)
  have HB0 := hide hB
  have HE0 := hide he
  have hll : s.data.toList.length = s.size := by simp
  have HBg := hide (fun n w => big_any n w)
  obtain ⟨F, hF⟩ : ∃ F, splitL 32 s.data.toList = F := ⟨_, rfl⟩
  have HF := hide hF
  have hne : 0 < F.length := by rw [← hF]; exact List.length_pos_iff.2 (splitL_ne _ _)
  have hfl : F.length ≤ s.size + 1 := by
    have := splitL_count 32 s.data.toList
    rw [hF] at this
    omega
  have hfm : ∀ i, (F.getD i []).length ≤ s.size := fun i => by
    by_cases hi : i < F.length
    · have h1 : F.getD i [] ∈ F := getD_mem hi
      have h2 : (F.getD i []).length ≤ s.data.toList.length := splitL_mem (c := 32) (by rw [hF]; exact h1)
      omega
    · simp [List.getD, List.getElem?_eq_none (show F.length ≤ i by omega)]
  obtain ⟨f0, hf0⟩ : ∃ f0, bytes (F.getD 0 []) = f0 := ⟨_, rfl⟩
  obtain ⟨f1, hf1⟩ : ∃ f1, bytes (F.getD 1 []) = f1 := ⟨_, rfl⟩
  have Hf0 := hide (show f0.data.toList = F.getD 0 [] from by rw [← hf0, bytes_list])
  have Hf1 := hide (show f1.data.toList = F.getD 1 [] from by rw [← hf1, bytes_list])
  have hz1 : f1.size ≤ s.size := by rw [← hf1, bytes_size]; exact hfm 1
  have Hc0 := hide (fun (w' : World) (h : RowsAt w' W.heap.size F) => (show w'.cell? ⟨W.heap.size, 0, none⟩ = some (.string f0) from by rw [← hf0]; exact h.cellD hne))
  have Hc1 := hide (fun (w' : World) (h : RowsAt w' W.heap.size F) (h2 : 1 < F.length) => (show w'.cell? ⟨W.heap.size, 1, none⟩ = some (.string f1) from by rw [← hf1]; exact h.cellD h2))
  rw [hF] at H1
  clear he hB hfm hf0 hf1 hF
  go_enter Tryz.func38, Tryz.ntmps38
  go_upto_region 2 with (go_at_call 33; refine H1.out.mono ?_; rintro e w1 ⟨nl, hnl, rfl, hl, ho1, hsz1⟩; have Hnl := hide hnl; have Hl1 := hide hl; have Ho1 := hide ho1; clear hnl hl ho1 hsz1)
  have HE1 := hide (HE0.out.no Ho1.out)
  have HO1 := hide (Ho1.out.mono (S' := fun x => x = b) (fun _ _ h => h.elim))
  have HB1 := hide (HB0.out.only Ho1.out (fun h => h))
  have c0 := Hc0.out w1 Hl1.out
  have hbW : b < W.heap.size := Blk.lt HB0.out
  obtain ⟨gl, hgl⟩ : ∃ gl, W.heap.size = gl := ⟨_, rfl⟩
  rw [hgl] at Hl1 Hc0 Hc1 c0 hbW ⊢
  have hnlb : nl ≤ s.size + 1 := by rw [Hnl.out]; exact hfl
  clear HE0 HB0 Ho1 H1 hgl hfl hll
  have HPx := hide (Tryz.strings_HasPrefix s ⟨#[115, 116, 97, 114, 116, 32]⟩ w1)
  rw [show (⟨#[115, 116, 97, 114, 116, 32]⟩ : ByteArray).data.toList = [115, 116, 97, 114, 116, 32] from rfl, q0] at HPx
  have hn : nl < 2 := by rw [Hnl.out, ← HF.out]; exact qn
  have d3 : decide ((nl : Int) ≥ 3) = false := by simp; omega
  have d3n : decide (3 ≤ nl) = false := by simp; omega
  have d2 : ((nl : Int) == 2) = false := by simp; omega
  have d2n : (nl == 2) = false := by simp; omega
  have hn0 : 0 < nl := by rw [Hnl.out]; exact hne
  have i0 : (0 : Int) < (nl : Int) := by omega
  have x_piece : (f0.toList == [112, 105, 101, 99, 101]) = false := by rw [Go.ByteArray.toList_eq, Hf0.out, ← HF.out, qw]; rfl
  have x_lose : (f0.toList == [108, 111, 115, 101]) = false := by rw [Go.ByteArray.toList_eq, Hf0.out, ← HF.out, qw]; rfl
  have x_reach : (f0.toList == [114, 101, 97, 99, 104]) = false := by rw [Go.ByteArray.toList_eq, Hf0.out, ← HF.out, qw]; rfl
  have x_line : (f0.toList == [108, 105, 110, 101]) = false := by rw [Go.ByteArray.toList_eq, Hf0.out, ← HF.out, qw]; rfl
  have x_plies : (f0.toList == [112, 108, 105, 101, 115]) = false := by rw [Go.ByteArray.toList_eq, Hf0.out, ← HF.out, qw]; rfl
  clear hn hn0 qn qw
  have e_drops : (s.toList == [100, 114, 111, 112, 115]) = true := by rw [Go.ByteArray.toList_eq, qd]; rfl
  clear qd
  obtain ⟨y0, y1, y2, y3, y4, y5, y6, y7, y8, y9, y10, y11, y12⟩ := Blk.rules HB1.out
  have yf := Blk.free HB1.out 7
  go_wp2_with (first | (go_at_call 79; refine HPx.out.mono ?_; rintro e w2 ⟨rfl, hw2⟩; rw [hw2]; clear hw2) | (go_at_call 40; refine (HBg.out _ _).mono ?_; rintro e w2 ⟨rfl, hw2⟩; rw [hw2]; clear hw2))
  go_ret
  exact ⟨rfl, Blk.set_ HB1.out 7 _, HO1.out.setCell (p := ⟨b, 7, none⟩) (.inl rfl) _⟩
set_option maxHeartbeats 8000000 in
set_option maxRecDepth 100000 in
theorem dl_stuck (b : Nat) (s : ByteArray) (w h t li pl : Int) (c h0 h1 : ByteArray) (sv : Value) (dr st : Bool) (lo re : Nat) (W : World) (hs : s.size < 4294967281) (he : Env W) (hB : Blk W b 27 #[.int .i64 w, .int .i64 h, .string c, .int .i64 t, .string h0, .string h1, sv, .bool dr, .int .u8 (lo : Int), .int .i64 li, .int .u8 (re : Int), .bool st, .int .i64 pl])  (q0 : Lib.hasPrefix s.data.toList [115, 116, 97, 114, 116, 32] = false) (qn : (splitL 32 s.data.toList).length < 2) (qw : (splitL 32 s.data.toList).getD 0 [] = wordR 6) (q_drops : s.data.toList ≠ [100, 114, 111, 112, 115]) (qd : s.data.toList = wordR 6) :
    Calls Tryz.prog 38 #[.pointer (some ⟨b, 0, none⟩), .string s] W fun e w' => e = .returned (.int .i64 6) ∧ Blk w' b 27 #[.int .i64 w, .int .i64 h, .string c, .int .i64 t, .string h0, .string h1, sv, .bool dr, .int .u8 (lo : Int), .int .i64 li, .int .u8 (re : Int), .bool true, .int .i64 pl] ∧ Only (fun x => x = b) W w' := by
  have H1 := hide (split_any 32 s W hs he.m)
  have HB0 := hide hB
  have HE0 := hide he
  have hll : s.data.toList.length = s.size := by simp
  have HBg := hide (fun n w => big_any n w)
  obtain ⟨F, hF⟩ : ∃ F, splitL 32 s.data.toList = F := ⟨_, rfl⟩
  have HF := hide hF
  have hne : 0 < F.length := by rw [← hF]; exact List.length_pos_iff.2 (splitL_ne _ _)
  have hfl : F.length ≤ s.size + 1 := by
    have := splitL_count 32 s.data.toList
    rw [hF] at this
    omega
  have hfm : ∀ i, (F.getD i []).length ≤ s.size := fun i => by
    by_cases hi : i < F.length
    · have h1 : F.getD i [] ∈ F := getD_mem hi
      have h2 : (F.getD i []).length ≤ s.data.toList.length := splitL_mem (c := 32) (by rw [hF]; exact h1)
      omega
    · simp [List.getD, List.getElem?_eq_none (show F.length ≤ i by omega)]
  obtain ⟨f0, hf0⟩ : ∃ f0, bytes (F.getD 0 []) = f0 := ⟨_, rfl⟩
  obtain ⟨f1, hf1⟩ : ∃ f1, bytes (F.getD 1 []) = f1 := ⟨_, rfl⟩
  have Hf0 := hide (show f0.data.toList = F.getD 0 [] from by rw [← hf0, bytes_list])
  have Hf1 := hide (show f1.data.toList = F.getD 1 [] from by rw [← hf1, bytes_list])
  have hz1 : f1.size ≤ s.size := by rw [← hf1, bytes_size]; exact hfm 1
  have Hc0 := hide (fun (w' : World) (h : RowsAt w' W.heap.size F) => (show w'.cell? ⟨W.heap.size, 0, none⟩ = some (.string f0) from by rw [← hf0]; exact h.cellD hne))
  have Hc1 := hide (fun (w' : World) (h : RowsAt w' W.heap.size F) (h2 : 1 < F.length) => (show w'.cell? ⟨W.heap.size, 1, none⟩ = some (.string f1) from by rw [← hf1]; exact h.cellD h2))
  rw [hF] at H1
  clear he hB hfm hf0 hf1 hF
  go_enter Tryz.func38, Tryz.ntmps38
  go_upto_region 2 with (go_at_call 33; refine H1.out.mono ?_; rintro e w1 ⟨nl, hnl, rfl, hl, ho1, hsz1⟩; have Hnl := hide hnl; have Hl1 := hide hl; have Ho1 := hide ho1; clear hnl hl ho1 hsz1)
  have HE1 := hide (HE0.out.no Ho1.out)
  have HO1 := hide (Ho1.out.mono (S' := fun x => x = b) (fun _ _ h => h.elim))
  have HB1 := hide (HB0.out.only Ho1.out (fun h => h))
  have c0 := Hc0.out w1 Hl1.out
  have hbW : b < W.heap.size := Blk.lt HB0.out
  obtain ⟨gl, hgl⟩ : ∃ gl, W.heap.size = gl := ⟨_, rfl⟩
  rw [hgl] at Hl1 Hc0 Hc1 c0 hbW ⊢
  have hnlb : nl ≤ s.size + 1 := by rw [Hnl.out]; exact hfl
  clear HE0 HB0 Ho1 H1 hgl hfl hll
  have HPx := hide (Tryz.strings_HasPrefix s ⟨#[115, 116, 97, 114, 116, 32]⟩ w1)
  rw [show (⟨#[115, 116, 97, 114, 116, 32]⟩ : ByteArray).data.toList = [115, 116, 97, 114, 116, 32] from rfl, q0] at HPx
  have hn : nl < 2 := by rw [Hnl.out, ← HF.out]; exact qn
  have d3 : decide ((nl : Int) ≥ 3) = false := by simp; omega
  have d3n : decide (3 ≤ nl) = false := by simp; omega
  have d2 : ((nl : Int) == 2) = false := by simp; omega
  have d2n : (nl == 2) = false := by simp; omega
  have hn0 : 0 < nl := by rw [Hnl.out]; exact hne
  have i0 : (0 : Int) < (nl : Int) := by omega
  have x_piece : (f0.toList == [112, 105, 101, 99, 101]) = false := by rw [Go.ByteArray.toList_eq, Hf0.out, ← HF.out, qw]; rfl
  have x_lose : (f0.toList == [108, 111, 115, 101]) = false := by rw [Go.ByteArray.toList_eq, Hf0.out, ← HF.out, qw]; rfl
  have x_reach : (f0.toList == [114, 101, 97, 99, 104]) = false := by rw [Go.ByteArray.toList_eq, Hf0.out, ← HF.out, qw]; rfl
  have x_line : (f0.toList == [108, 105, 110, 101]) = false := by rw [Go.ByteArray.toList_eq, Hf0.out, ← HF.out, qw]; rfl
  have x_plies : (f0.toList == [112, 108, 105, 101, 115]) = false := by rw [Go.ByteArray.toList_eq, Hf0.out, ← HF.out, qw]; rfl
  clear hn hn0 qn qw
  have e_drops : (s.toList == [100, 114, 111, 112, 115]) = false := by rw [Go.ByteArray.toList_eq]; exact beq_eq_false_iff_ne.2 q_drops
  have e_stuck : (s.toList == [115, 116, 117, 99, 107]) = true := by rw [Go.ByteArray.toList_eq, qd]; rfl
  clear qd
  obtain ⟨y0, y1, y2, y3, y4, y5, y6, y7, y8, y9, y10, y11, y12⟩ := Blk.rules HB1.out
  have yf := Blk.free HB1.out 11
  go_wp2_with (first | (go_at_call 79; refine HPx.out.mono ?_; rintro e w2 ⟨rfl, hw2⟩; rw [hw2]; clear hw2) | (go_at_call 40; refine (HBg.out _ _).mono ?_; rintro e w2 ⟨rfl, hw2⟩; rw [hw2]; clear hw2))
  go_ret
  exact ⟨rfl, Blk.set_ HB1.out 11 _, HO1.out.setCell (p := ⟨b, 11, none⟩) (.inl rfl) _⟩
set_option maxHeartbeats 8000000 in
set_option maxRecDepth 100000 in
theorem dl_lose (b : Nat) (s : ByteArray) (w h t li pl : Int) (c h0 h1 : ByteArray) (sv : Value) (dr st : Bool) (lo re : Nat) (W : World) (hs : s.size < 4294967281) (he : Env W) (hB : Blk W b 27 #[.int .i64 w, .int .i64 h, .string c, .int .i64 t, .string h0, .string h1, sv, .bool dr, .int .u8 (lo : Int), .int .i64 li, .int .u8 (re : Int), .bool st, .int .i64 pl])  (q0 : Lib.hasPrefix s.data.toList [115, 116, 97, 114, 116, 32] = false) (qn : (splitL 32 s.data.toList).length = 2) (qw : (splitL 32 s.data.toList).getD 0 [] = wordR 3) (q_drops : s.data.toList ≠ [100, 114, 111, 112, 115]) (q_stuck : s.data.toList ≠ [115, 116, 117, 99, 107]) (ch : UInt8) (q1 : (splitL 32 s.data.toList).getD 1 [] = [ch]) (qu : upB ch.toNat = true) :
    Calls Tryz.prog 38 #[.pointer (some ⟨b, 0, none⟩), .string s] W fun e w' => e = .returned (.int .i64 3) ∧ Blk w' b 27 #[.int .i64 w, .int .i64 h, .string c, .int .i64 t, .string h0, .string h1, sv, .bool dr, .int .u8 (ch.toNat : Int), .int .i64 li, .int .u8 (re : Int), .bool st, .int .i64 pl] ∧ Only (fun x => x = b) W w' := by
  have H1 := hide (split_any 32 s W hs he.m)
  have HB0 := hide hB
  have HE0 := hide he
  have hll : s.data.toList.length = s.size := by simp
  have HBg := hide (fun n w => big_any n w)
  obtain ⟨F, hF⟩ : ∃ F, splitL 32 s.data.toList = F := ⟨_, rfl⟩
  have HF := hide hF
  have hne : 0 < F.length := by rw [← hF]; exact List.length_pos_iff.2 (splitL_ne _ _)
  have hfl : F.length ≤ s.size + 1 := by
    have := splitL_count 32 s.data.toList
    rw [hF] at this
    omega
  have hfm : ∀ i, (F.getD i []).length ≤ s.size := fun i => by
    by_cases hi : i < F.length
    · have h1 : F.getD i [] ∈ F := getD_mem hi
      have h2 : (F.getD i []).length ≤ s.data.toList.length := splitL_mem (c := 32) (by rw [hF]; exact h1)
      omega
    · simp [List.getD, List.getElem?_eq_none (show F.length ≤ i by omega)]
  obtain ⟨f0, hf0⟩ : ∃ f0, bytes (F.getD 0 []) = f0 := ⟨_, rfl⟩
  obtain ⟨f1, hf1⟩ : ∃ f1, bytes (F.getD 1 []) = f1 := ⟨_, rfl⟩
  have Hf0 := hide (show f0.data.toList = F.getD 0 [] from by rw [← hf0, bytes_list])
  have Hf1 := hide (show f1.data.toList = F.getD 1 [] from by rw [← hf1, bytes_list])
  have hz1 : f1.size ≤ s.size := by rw [← hf1, bytes_size]; exact hfm 1
  have Hc0 := hide (fun (w' : World) (h : RowsAt w' W.heap.size F) => (show w'.cell? ⟨W.heap.size, 0, none⟩ = some (.string f0) from by rw [← hf0]; exact h.cellD hne))
  have Hc1 := hide (fun (w' : World) (h : RowsAt w' W.heap.size F) (h2 : 1 < F.length) => (show w'.cell? ⟨W.heap.size, 1, none⟩ = some (.string f1) from by rw [← hf1]; exact h.cellD h2))
  rw [hF] at H1
  clear he hB hfm hf0 hf1 hF
  go_enter Tryz.func38, Tryz.ntmps38
  go_upto_region 2 with (go_at_call 33; refine H1.out.mono ?_; rintro e w1 ⟨nl, hnl, rfl, hl, ho1, hsz1⟩; have Hnl := hide hnl; have Hl1 := hide hl; have Ho1 := hide ho1; clear hnl hl ho1 hsz1)
  have HE1 := hide (HE0.out.no Ho1.out)
  have HO1 := hide (Ho1.out.mono (S' := fun x => x = b) (fun _ _ h => h.elim))
  have HB1 := hide (HB0.out.only Ho1.out (fun h => h))
  have c0 := Hc0.out w1 Hl1.out
  have hbW : b < W.heap.size := Blk.lt HB0.out
  obtain ⟨gl, hgl⟩ : ∃ gl, W.heap.size = gl := ⟨_, rfl⟩
  rw [hgl] at Hl1 Hc0 Hc1 c0 hbW ⊢
  have hnlb : nl ≤ s.size + 1 := by rw [Hnl.out]; exact hfl
  clear HE0 HB0 Ho1 H1 hgl hfl hll
  have HPx := hide (Tryz.strings_HasPrefix s ⟨#[115, 116, 97, 114, 116, 32]⟩ w1)
  rw [show (⟨#[115, 116, 97, 114, 116, 32]⟩ : ByteArray).data.toList = [115, 116, 97, 114, 116, 32] from rfl, q0] at HPx
  have hn : nl = 2 := by rw [Hnl.out, ← HF.out]; exact qn
  have d3 : decide ((nl : Int) ≥ 3) = false := by simp; omega
  have d3n : decide (3 ≤ nl) = false := by simp; omega
  have d2 : ((nl : Int) == 2) = true := by simp; omega
  have d2n : (nl == 2) = true := by simp; omega
  have hn0 : 0 < nl := by rw [Hnl.out]; exact hne
  have i0 : (0 : Int) < (nl : Int) := by omega
  have i1 : (1 : Int) < (nl : Int) := by omega
  have h2 : 1 < F.length := by rw [← Hnl.out]; omega
  have c1 := Hc1.out w1 Hl1.out h2
  have H2 := hide h2
  clear h2
  have x_piece : (f0.toList == [112, 105, 101, 99, 101]) = false := by rw [Go.ByteArray.toList_eq, Hf0.out, ← HF.out, qw]; rfl
  have x_lose : (f0.toList == [108, 111, 115, 101]) = true := by rw [Go.ByteArray.toList_eq, Hf0.out, ← HF.out, qw]; rfl
  have x_reach : (f0.toList == [114, 101, 97, 99, 104]) = false := by rw [Go.ByteArray.toList_eq, Hf0.out, ← HF.out, qw]; rfl
  have x_line : (f0.toList == [108, 105, 110, 101]) = false := by rw [Go.ByteArray.toList_eq, Hf0.out, ← HF.out, qw]; rfl
  have x_plies : (f0.toList == [112, 108, 105, 101, 115]) = false := by rw [Go.ByteArray.toList_eq, Hf0.out, ← HF.out, qw]; rfl
  clear hn hn0 qn qw
  have e_drops : (s.toList == [100, 114, 111, 112, 115]) = false := by rw [Go.ByteArray.toList_eq]; exact beq_eq_false_iff_ne.2 q_drops
  have e_stuck : (s.toList == [115, 116, 117, 99, 107]) = false := by rw [Go.ByteArray.toList_eq]; exact beq_eq_false_iff_ne.2 q_stuck
  clear q_drops q_stuck
  have hz : f1.size = 1 := by
    have h5 : f1.data.toList.length = f1.size := by simp
    rw [← h5, Hf1.out, ← HF.out, q1]; rfl
  have j0 : (0 : Int) < (f1.size : Int) := by omega
  have j0n : 0 < f1.size := by omega
  have z1 : ((f1.size : Int) == 1) = true := by rw [hz]; rfl
  have z1n : (f1.size == 1) = true := by rw [hz]; rfl
  have hch : f1[0].toNat = ch.toNat := by rw [head_at j0n, Hf1.out, ← HF.out, q1]; rfl
  clear hz q1
  have hup : upB ch.toNat = true := qu
  obtain ⟨y0, y1, y2, y3, y4, y5, y6, y7, y8, y9, y10, y11, y12⟩ := Blk.rules HB1.out
  have yf := Blk.free HB1.out 8
  go_wp2_with (first | (go_at_call 79; refine HPx.out.mono ?_; rintro e w2 ⟨rfl, hw2⟩; rw [hw2]; clear hw2) | (go_at_call 40; refine (HBg.out _ _).mono ?_; rintro e w2 ⟨rfl, hw2⟩; rw [hw2]; clear hw2))
  go_ret
  exact ⟨rfl, Blk.set_ HB1.out 8 _, HO1.out.setCell (p := ⟨b, 8, none⟩) (.inl rfl) _⟩
set_option maxHeartbeats 8000000 in
set_option maxRecDepth 100000 in
theorem dl_reach (b : Nat) (s : ByteArray) (w h t li pl : Int) (c h0 h1 : ByteArray) (sv : Value) (dr st : Bool) (lo re : Nat) (W : World) (hs : s.size < 4294967281) (he : Env W) (hB : Blk W b 27 #[.int .i64 w, .int .i64 h, .string c, .int .i64 t, .string h0, .string h1, sv, .bool dr, .int .u8 (lo : Int), .int .i64 li, .int .u8 (re : Int), .bool st, .int .i64 pl])  (q0 : Lib.hasPrefix s.data.toList [115, 116, 97, 114, 116, 32] = false) (qn : (splitL 32 s.data.toList).length = 2) (qw : (splitL 32 s.data.toList).getD 0 [] = wordR 5) (q_drops : s.data.toList ≠ [100, 114, 111, 112, 115]) (q_stuck : s.data.toList ≠ [115, 116, 117, 99, 107]) (ch : UInt8) (q1 : (splitL 32 s.data.toList).getD 1 [] = [ch]) (qu : upB ch.toNat = true) :
    Calls Tryz.prog 38 #[.pointer (some ⟨b, 0, none⟩), .string s] W fun e w' => e = .returned (.int .i64 5) ∧ Blk w' b 27 #[.int .i64 w, .int .i64 h, .string c, .int .i64 t, .string h0, .string h1, sv, .bool dr, .int .u8 (lo : Int), .int .i64 li, .int .u8 (ch.toNat : Int), .bool st, .int .i64 pl] ∧ Only (fun x => x = b) W w' := by
  have H1 := hide (split_any 32 s W hs he.m)
  have HB0 := hide hB
  have HE0 := hide he
  have hll : s.data.toList.length = s.size := by simp
  have HBg := hide (fun n w => big_any n w)
  obtain ⟨F, hF⟩ : ∃ F, splitL 32 s.data.toList = F := ⟨_, rfl⟩
  have HF := hide hF
  have hne : 0 < F.length := by rw [← hF]; exact List.length_pos_iff.2 (splitL_ne _ _)
  have hfl : F.length ≤ s.size + 1 := by
    have := splitL_count 32 s.data.toList
    rw [hF] at this
    omega
  have hfm : ∀ i, (F.getD i []).length ≤ s.size := fun i => by
    by_cases hi : i < F.length
    · have h1 : F.getD i [] ∈ F := getD_mem hi
      have h2 : (F.getD i []).length ≤ s.data.toList.length := splitL_mem (c := 32) (by rw [hF]; exact h1)
      omega
    · simp [List.getD, List.getElem?_eq_none (show F.length ≤ i by omega)]
  obtain ⟨f0, hf0⟩ : ∃ f0, bytes (F.getD 0 []) = f0 := ⟨_, rfl⟩
  obtain ⟨f1, hf1⟩ : ∃ f1, bytes (F.getD 1 []) = f1 := ⟨_, rfl⟩
  have Hf0 := hide (show f0.data.toList = F.getD 0 [] from by rw [← hf0, bytes_list])
  have Hf1 := hide (show f1.data.toList = F.getD 1 [] from by rw [← hf1, bytes_list])
  have hz1 : f1.size ≤ s.size := by rw [← hf1, bytes_size]; exact hfm 1
  have Hc0 := hide (fun (w' : World) (h : RowsAt w' W.heap.size F) => (show w'.cell? ⟨W.heap.size, 0, none⟩ = some (.string f0) from by rw [← hf0]; exact h.cellD hne))
  have Hc1 := hide (fun (w' : World) (h : RowsAt w' W.heap.size F) (h2 : 1 < F.length) => (show w'.cell? ⟨W.heap.size, 1, none⟩ = some (.string f1) from by rw [← hf1]; exact h.cellD h2))
  rw [hF] at H1
  clear he hB hfm hf0 hf1 hF
  go_enter Tryz.func38, Tryz.ntmps38
  go_upto_region 2 with (go_at_call 33; refine H1.out.mono ?_; rintro e w1 ⟨nl, hnl, rfl, hl, ho1, hsz1⟩; have Hnl := hide hnl; have Hl1 := hide hl; have Ho1 := hide ho1; clear hnl hl ho1 hsz1)
  have HE1 := hide (HE0.out.no Ho1.out)
  have HO1 := hide (Ho1.out.mono (S' := fun x => x = b) (fun _ _ h => h.elim))
  have HB1 := hide (HB0.out.only Ho1.out (fun h => h))
  have c0 := Hc0.out w1 Hl1.out
  have hbW : b < W.heap.size := Blk.lt HB0.out
  obtain ⟨gl, hgl⟩ : ∃ gl, W.heap.size = gl := ⟨_, rfl⟩
  rw [hgl] at Hl1 Hc0 Hc1 c0 hbW ⊢
  have hnlb : nl ≤ s.size + 1 := by rw [Hnl.out]; exact hfl
  clear HE0 HB0 Ho1 H1 hgl hfl hll
  have HPx := hide (Tryz.strings_HasPrefix s ⟨#[115, 116, 97, 114, 116, 32]⟩ w1)
  rw [show (⟨#[115, 116, 97, 114, 116, 32]⟩ : ByteArray).data.toList = [115, 116, 97, 114, 116, 32] from rfl, q0] at HPx
  have hn : nl = 2 := by rw [Hnl.out, ← HF.out]; exact qn
  have d3 : decide ((nl : Int) ≥ 3) = false := by simp; omega
  have d3n : decide (3 ≤ nl) = false := by simp; omega
  have d2 : ((nl : Int) == 2) = true := by simp; omega
  have d2n : (nl == 2) = true := by simp; omega
  have hn0 : 0 < nl := by rw [Hnl.out]; exact hne
  have i0 : (0 : Int) < (nl : Int) := by omega
  have i1 : (1 : Int) < (nl : Int) := by omega
  have h2 : 1 < F.length := by rw [← Hnl.out]; omega
  have c1 := Hc1.out w1 Hl1.out h2
  have H2 := hide h2
  clear h2
  have x_piece : (f0.toList == [112, 105, 101, 99, 101]) = false := by rw [Go.ByteArray.toList_eq, Hf0.out, ← HF.out, qw]; rfl
  have x_lose : (f0.toList == [108, 111, 115, 101]) = false := by rw [Go.ByteArray.toList_eq, Hf0.out, ← HF.out, qw]; rfl
  have x_reach : (f0.toList == [114, 101, 97, 99, 104]) = true := by rw [Go.ByteArray.toList_eq, Hf0.out, ← HF.out, qw]; rfl
  have x_line : (f0.toList == [108, 105, 110, 101]) = false := by rw [Go.ByteArray.toList_eq, Hf0.out, ← HF.out, qw]; rfl
  have x_plies : (f0.toList == [112, 108, 105, 101, 115]) = false := by rw [Go.ByteArray.toList_eq, Hf0.out, ← HF.out, qw]; rfl
  clear hn hn0 qn qw
  have e_drops : (s.toList == [100, 114, 111, 112, 115]) = false := by rw [Go.ByteArray.toList_eq]; exact beq_eq_false_iff_ne.2 q_drops
  have e_stuck : (s.toList == [115, 116, 117, 99, 107]) = false := by rw [Go.ByteArray.toList_eq]; exact beq_eq_false_iff_ne.2 q_stuck
  clear q_drops q_stuck
  have hz : f1.size = 1 := by
    have h5 : f1.data.toList.length = f1.size := by simp
    rw [← h5, Hf1.out, ← HF.out, q1]; rfl
  have j0 : (0 : Int) < (f1.size : Int) := by omega
  have j0n : 0 < f1.size := by omega
  have z1 : ((f1.size : Int) == 1) = true := by rw [hz]; rfl
  have z1n : (f1.size == 1) = true := by rw [hz]; rfl
  have hch : f1[0].toNat = ch.toNat := by rw [head_at j0n, Hf1.out, ← HF.out, q1]; rfl
  clear hz q1
  have hup : upB ch.toNat = true := qu
  obtain ⟨y0, y1, y2, y3, y4, y5, y6, y7, y8, y9, y10, y11, y12⟩ := Blk.rules HB1.out
  have yf := Blk.free HB1.out 10
  go_wp2_with (first | (go_at_call 79; refine HPx.out.mono ?_; rintro e w2 ⟨rfl, hw2⟩; rw [hw2]; clear hw2) | (go_at_call 40; refine (HBg.out _ _).mono ?_; rintro e w2 ⟨rfl, hw2⟩; rw [hw2]; clear hw2))
  go_ret
  exact ⟨rfl, Blk.set_ HB1.out 10 _, HO1.out.setCell (p := ⟨b, 10, none⟩) (.inl rfl) _⟩
set_option maxHeartbeats 8000000 in
set_option maxRecDepth 100000 in
theorem dl_line (b : Nat) (s : ByteArray) (w h t li pl : Int) (c h0 h1 : ByteArray) (sv : Value) (dr st : Bool) (lo re : Nat) (W : World) (hs : s.size < 4294967281) (he : Env W) (hB : Blk W b 27 #[.int .i64 w, .int .i64 h, .string c, .int .i64 t, .string h0, .string h1, sv, .bool dr, .int .u8 (lo : Int), .int .i64 li, .int .u8 (re : Int), .bool st, .int .i64 pl])  (q0 : Lib.hasPrefix s.data.toList [115, 116, 97, 114, 116, 32] = false) (qn : (splitL 32 s.data.toList).length = 2) (qw : (splitL 32 s.data.toList).getD 0 [] = wordR 4) (q_drops : s.data.toList ≠ [100, 114, 111, 112, 115]) (q_stuck : s.data.toList ≠ [115, 116, 117, 99, 107]) (m : Nat) (hm9 : m ≤ 9999) (hm0 : 0 < m) (q1 : (splitL 32 s.data.toList).getD 1 [] = Lib.decDigits m) :
    Calls Tryz.prog 38 #[.pointer (some ⟨b, 0, none⟩), .string s] W fun e w' => e = .returned (.int .i64 4) ∧ Blk w' b 27 #[.int .i64 w, .int .i64 h, .string c, .int .i64 t, .string h0, .string h1, sv, .bool dr, .int .u8 (lo : Int), .int .i64 (m : Int), .int .u8 (re : Int), .bool st, .int .i64 pl] ∧ Only (fun x => x = b) W w' := by
  have H1 := hide (split_any 32 s W hs he.m)
  have HB0 := hide hB
  have HE0 := hide he
  have hll : s.data.toList.length = s.size := by simp
  have HBg := hide (fun n w => big_any n w)
  obtain ⟨F, hF⟩ : ∃ F, splitL 32 s.data.toList = F := ⟨_, rfl⟩
  have HF := hide hF
  have hne : 0 < F.length := by rw [← hF]; exact List.length_pos_iff.2 (splitL_ne _ _)
  have hfl : F.length ≤ s.size + 1 := by
    have := splitL_count 32 s.data.toList
    rw [hF] at this
    omega
  have hfm : ∀ i, (F.getD i []).length ≤ s.size := fun i => by
    by_cases hi : i < F.length
    · have h1 : F.getD i [] ∈ F := getD_mem hi
      have h2 : (F.getD i []).length ≤ s.data.toList.length := splitL_mem (c := 32) (by rw [hF]; exact h1)
      omega
    · simp [List.getD, List.getElem?_eq_none (show F.length ≤ i by omega)]
  obtain ⟨f0, hf0⟩ : ∃ f0, bytes (F.getD 0 []) = f0 := ⟨_, rfl⟩
  obtain ⟨f1, hf1⟩ : ∃ f1, bytes (F.getD 1 []) = f1 := ⟨_, rfl⟩
  have Hf0 := hide (show f0.data.toList = F.getD 0 [] from by rw [← hf0, bytes_list])
  have Hf1 := hide (show f1.data.toList = F.getD 1 [] from by rw [← hf1, bytes_list])
  have hz1 : f1.size ≤ s.size := by rw [← hf1, bytes_size]; exact hfm 1
  have Hc0 := hide (fun (w' : World) (h : RowsAt w' W.heap.size F) => (show w'.cell? ⟨W.heap.size, 0, none⟩ = some (.string f0) from by rw [← hf0]; exact h.cellD hne))
  have Hc1 := hide (fun (w' : World) (h : RowsAt w' W.heap.size F) (h2 : 1 < F.length) => (show w'.cell? ⟨W.heap.size, 1, none⟩ = some (.string f1) from by rw [← hf1]; exact h.cellD h2))
  rw [hF] at H1
  clear he hB hfm hf0 hf1 hF
  go_enter Tryz.func38, Tryz.ntmps38
  go_upto_region 2 with (go_at_call 33; refine H1.out.mono ?_; rintro e w1 ⟨nl, hnl, rfl, hl, ho1, hsz1⟩; have Hnl := hide hnl; have Hl1 := hide hl; have Ho1 := hide ho1; clear hnl hl ho1 hsz1)
  have HE1 := hide (HE0.out.no Ho1.out)
  have HO1 := hide (Ho1.out.mono (S' := fun x => x = b) (fun _ _ h => h.elim))
  have HB1 := hide (HB0.out.only Ho1.out (fun h => h))
  have c0 := Hc0.out w1 Hl1.out
  have hbW : b < W.heap.size := Blk.lt HB0.out
  obtain ⟨gl, hgl⟩ : ∃ gl, W.heap.size = gl := ⟨_, rfl⟩
  rw [hgl] at Hl1 Hc0 Hc1 c0 hbW ⊢
  have hnlb : nl ≤ s.size + 1 := by rw [Hnl.out]; exact hfl
  clear HE0 HB0 Ho1 H1 hgl hfl hll
  have HPx := hide (Tryz.strings_HasPrefix s ⟨#[115, 116, 97, 114, 116, 32]⟩ w1)
  rw [show (⟨#[115, 116, 97, 114, 116, 32]⟩ : ByteArray).data.toList = [115, 116, 97, 114, 116, 32] from rfl, q0] at HPx
  have hn : nl = 2 := by rw [Hnl.out, ← HF.out]; exact qn
  have d3 : decide ((nl : Int) ≥ 3) = false := by simp; omega
  have d3n : decide (3 ≤ nl) = false := by simp; omega
  have d2 : ((nl : Int) == 2) = true := by simp; omega
  have d2n : (nl == 2) = true := by simp; omega
  have hn0 : 0 < nl := by rw [Hnl.out]; exact hne
  have i0 : (0 : Int) < (nl : Int) := by omega
  have i1 : (1 : Int) < (nl : Int) := by omega
  have h2 : 1 < F.length := by rw [← Hnl.out]; omega
  have c1 := Hc1.out w1 Hl1.out h2
  have H2 := hide h2
  clear h2
  have x_piece : (f0.toList == [112, 105, 101, 99, 101]) = false := by rw [Go.ByteArray.toList_eq, Hf0.out, ← HF.out, qw]; rfl
  have x_lose : (f0.toList == [108, 111, 115, 101]) = false := by rw [Go.ByteArray.toList_eq, Hf0.out, ← HF.out, qw]; rfl
  have x_reach : (f0.toList == [114, 101, 97, 99, 104]) = false := by rw [Go.ByteArray.toList_eq, Hf0.out, ← HF.out, qw]; rfl
  have x_line : (f0.toList == [108, 105, 110, 101]) = true := by rw [Go.ByteArray.toList_eq, Hf0.out, ← HF.out, qw]; rfl
  have x_plies : (f0.toList == [112, 108, 105, 101, 115]) = false := by rw [Go.ByteArray.toList_eq, Hf0.out, ← HF.out, qw]; rfl
  clear hn hn0 qn qw
  have e_drops : (s.toList == [100, 114, 111, 112, 115]) = false := by rw [Go.ByteArray.toList_eq]; exact beq_eq_false_iff_ne.2 q_drops
  have e_stuck : (s.toList == [115, 116, 117, 99, 107]) = false := by rw [Go.ByteArray.toList_eq]; exact beq_eq_false_iff_ne.2 q_stuck
  clear q_drops q_stuck
  have HM := hide (show f1.data.toList = Lib.decDigits m from by rw [Hf1.out, ← HF.out]; exact q1)
  have Hm9 := hide hm9
  clear hm9 q1
  have mg : decide ((m : Int) > 0) = true := by simp; omega
  go_upto_region 41 with (first | (go_at_call 79; refine HPx.out.mono ?_; rintro e w2 ⟨rfl, hw2⟩; rw [hw2]; clear hw2) | (go_at_call 83; refine (count_any f1 w1 HE1.out).mono ?_; rintro e w2 ⟨⟨n, rfl, hn⟩, ho2⟩; obtain rfl : n = (m : Int) := cnt_one hn Hm9.out HM.out; have Ho2 := hide ho2; clear hn ho2))
  have HE2 := hide (HE1.out.no Ho2.out)
  have HB2 := hide (HB1.out.only Ho2.out (fun h => h))
  have HO2 := hide (HO1.out.trans' Ho2.out (fun _ _ h => h.elim))
  have c2 := Hc1.out w2 (Blk.only Hl1.out Ho2.out (fun h => h)) H2.out
  clear c1 c0
  go_wp2_with (go_at_call 83; refine (count_any f1 w2 HE2.out).mono ?_; rintro e w3 ⟨⟨n2, rfl, hn2⟩, ho3⟩; obtain rfl : n2 = (m : Int) := cnt_one hn2 Hm9.out HM.out; have HB3 := hide (HB2.out.only ho3 (fun h => h)); have HO3 := hide (HO2.out.trans' ho3 (fun _ _ h => h.elim)); clear hn2 ho3; obtain ⟨y0, y1, y2, y3, y4, y5, y6, y7, y8, y9, y10, y11, y12⟩ := Blk.rules HB3.out; have yf := Blk.free HB3.out 9)
  go_ret
  exact ⟨rfl, Blk.set_ HB3.out 9 _, HO3.out.setCell (p := ⟨b, 9, none⟩) (.inl rfl) _⟩
set_option maxHeartbeats 8000000 in
set_option maxRecDepth 100000 in
theorem dl_plies (b : Nat) (s : ByteArray) (w h t li pl : Int) (c h0 h1 : ByteArray) (sv : Value) (dr st : Bool) (lo re : Nat) (W : World) (hs : s.size < 4294967281) (he : Env W) (hB : Blk W b 27 #[.int .i64 w, .int .i64 h, .string c, .int .i64 t, .string h0, .string h1, sv, .bool dr, .int .u8 (lo : Int), .int .i64 li, .int .u8 (re : Int), .bool st, .int .i64 pl])  (q0 : Lib.hasPrefix s.data.toList [115, 116, 97, 114, 116, 32] = false) (qn : (splitL 32 s.data.toList).length = 2) (qw : (splitL 32 s.data.toList).getD 0 [] = wordR 7) (q_drops : s.data.toList ≠ [100, 114, 111, 112, 115]) (q_stuck : s.data.toList ≠ [115, 116, 117, 99, 107]) (m : Nat) (hm9 : m ≤ 9999) (q1 : (splitL 32 s.data.toList).getD 1 [] = Lib.decDigits m) :
    Calls Tryz.prog 38 #[.pointer (some ⟨b, 0, none⟩), .string s] W fun e w' => e = .returned (.int .i64 7) ∧ Blk w' b 27 #[.int .i64 w, .int .i64 h, .string c, .int .i64 t, .string h0, .string h1, sv, .bool dr, .int .u8 (lo : Int), .int .i64 li, .int .u8 (re : Int), .bool st, .int .i64 (m : Int)] ∧ Only (fun x => x = b) W w' := by
  have H1 := hide (split_any 32 s W hs he.m)
  have HB0 := hide hB
  have HE0 := hide he
  have hll : s.data.toList.length = s.size := by simp
  have HBg := hide (fun n w => big_any n w)
  obtain ⟨F, hF⟩ : ∃ F, splitL 32 s.data.toList = F := ⟨_, rfl⟩
  have HF := hide hF
  have hne : 0 < F.length := by rw [← hF]; exact List.length_pos_iff.2 (splitL_ne _ _)
  have hfl : F.length ≤ s.size + 1 := by
    have := splitL_count 32 s.data.toList
    rw [hF] at this
    omega
  have hfm : ∀ i, (F.getD i []).length ≤ s.size := fun i => by
    by_cases hi : i < F.length
    · have h1 : F.getD i [] ∈ F := getD_mem hi
      have h2 : (F.getD i []).length ≤ s.data.toList.length := splitL_mem (c := 32) (by rw [hF]; exact h1)
      omega
    · simp [List.getD, List.getElem?_eq_none (show F.length ≤ i by omega)]
  obtain ⟨f0, hf0⟩ : ∃ f0, bytes (F.getD 0 []) = f0 := ⟨_, rfl⟩
  obtain ⟨f1, hf1⟩ : ∃ f1, bytes (F.getD 1 []) = f1 := ⟨_, rfl⟩
  have Hf0 := hide (show f0.data.toList = F.getD 0 [] from by rw [← hf0, bytes_list])
  have Hf1 := hide (show f1.data.toList = F.getD 1 [] from by rw [← hf1, bytes_list])
  have hz1 : f1.size ≤ s.size := by rw [← hf1, bytes_size]; exact hfm 1
  have Hc0 := hide (fun (w' : World) (h : RowsAt w' W.heap.size F) => (show w'.cell? ⟨W.heap.size, 0, none⟩ = some (.string f0) from by rw [← hf0]; exact h.cellD hne))
  have Hc1 := hide (fun (w' : World) (h : RowsAt w' W.heap.size F) (h2 : 1 < F.length) => (show w'.cell? ⟨W.heap.size, 1, none⟩ = some (.string f1) from by rw [← hf1]; exact h.cellD h2))
  rw [hF] at H1
  clear he hB hfm hf0 hf1 hF
  go_enter Tryz.func38, Tryz.ntmps38
  go_upto_region 2 with (go_at_call 33; refine H1.out.mono ?_; rintro e w1 ⟨nl, hnl, rfl, hl, ho1, hsz1⟩; have Hnl := hide hnl; have Hl1 := hide hl; have Ho1 := hide ho1; clear hnl hl ho1 hsz1)
  have HE1 := hide (HE0.out.no Ho1.out)
  have HO1 := hide (Ho1.out.mono (S' := fun x => x = b) (fun _ _ h => h.elim))
  have HB1 := hide (HB0.out.only Ho1.out (fun h => h))
  have c0 := Hc0.out w1 Hl1.out
  have hbW : b < W.heap.size := Blk.lt HB0.out
  obtain ⟨gl, hgl⟩ : ∃ gl, W.heap.size = gl := ⟨_, rfl⟩
  rw [hgl] at Hl1 Hc0 Hc1 c0 hbW ⊢
  have hnlb : nl ≤ s.size + 1 := by rw [Hnl.out]; exact hfl
  clear HE0 HB0 Ho1 H1 hgl hfl hll
  have HPx := hide (Tryz.strings_HasPrefix s ⟨#[115, 116, 97, 114, 116, 32]⟩ w1)
  rw [show (⟨#[115, 116, 97, 114, 116, 32]⟩ : ByteArray).data.toList = [115, 116, 97, 114, 116, 32] from rfl, q0] at HPx
  have hn : nl = 2 := by rw [Hnl.out, ← HF.out]; exact qn
  have d3 : decide ((nl : Int) ≥ 3) = false := by simp; omega
  have d3n : decide (3 ≤ nl) = false := by simp; omega
  have d2 : ((nl : Int) == 2) = true := by simp; omega
  have d2n : (nl == 2) = true := by simp; omega
  have hn0 : 0 < nl := by rw [Hnl.out]; exact hne
  have i0 : (0 : Int) < (nl : Int) := by omega
  have i1 : (1 : Int) < (nl : Int) := by omega
  have h2 : 1 < F.length := by rw [← Hnl.out]; omega
  have c1 := Hc1.out w1 Hl1.out h2
  have H2 := hide h2
  clear h2
  have x_piece : (f0.toList == [112, 105, 101, 99, 101]) = false := by rw [Go.ByteArray.toList_eq, Hf0.out, ← HF.out, qw]; rfl
  have x_lose : (f0.toList == [108, 111, 115, 101]) = false := by rw [Go.ByteArray.toList_eq, Hf0.out, ← HF.out, qw]; rfl
  have x_reach : (f0.toList == [114, 101, 97, 99, 104]) = false := by rw [Go.ByteArray.toList_eq, Hf0.out, ← HF.out, qw]; rfl
  have x_line : (f0.toList == [108, 105, 110, 101]) = false := by rw [Go.ByteArray.toList_eq, Hf0.out, ← HF.out, qw]; rfl
  have x_plies : (f0.toList == [112, 108, 105, 101, 115]) = true := by rw [Go.ByteArray.toList_eq, Hf0.out, ← HF.out, qw]; rfl
  clear hn hn0 qn qw
  have e_drops : (s.toList == [100, 114, 111, 112, 115]) = false := by rw [Go.ByteArray.toList_eq]; exact beq_eq_false_iff_ne.2 q_drops
  have e_stuck : (s.toList == [115, 116, 117, 99, 107]) = false := by rw [Go.ByteArray.toList_eq]; exact beq_eq_false_iff_ne.2 q_stuck
  clear q_drops q_stuck
  have HM := hide (show f1.data.toList = Lib.decDigits m from by rw [Hf1.out, ← HF.out]; exact q1)
  have Hm9 := hide hm9
  clear hm9 q1
  have mg : decide ((m : Int) ≥ 0) = true := by simp
  go_upto_region 44 with (first | (go_at_call 79; refine HPx.out.mono ?_; rintro e w2 ⟨rfl, hw2⟩; rw [hw2]; clear hw2) | (go_at_call 83; refine (count_any f1 w1 HE1.out).mono ?_; rintro e w2 ⟨⟨n, rfl, hn⟩, ho2⟩; obtain rfl : n = (m : Int) := cnt_one hn Hm9.out HM.out; have Ho2 := hide ho2; clear hn ho2))
  have HE2 := hide (HE1.out.no Ho2.out)
  have HB2 := hide (HB1.out.only Ho2.out (fun h => h))
  have HO2 := hide (HO1.out.trans' Ho2.out (fun _ _ h => h.elim))
  have c2 := Hc1.out w2 (Blk.only Hl1.out Ho2.out (fun h => h)) H2.out
  clear c1 c0
  go_wp2_with (go_at_call 83; refine (count_any f1 w2 HE2.out).mono ?_; rintro e w3 ⟨⟨n2, rfl, hn2⟩, ho3⟩; obtain rfl : n2 = (m : Int) := cnt_one hn2 Hm9.out HM.out; have HB3 := hide (HB2.out.only ho3 (fun h => h)); have HO3 := hide (HO2.out.trans' ho3 (fun _ _ h => h.elim)); clear hn2 ho3; obtain ⟨y0, y1, y2, y3, y4, y5, y6, y7, y8, y9, y10, y11, y12⟩ := Blk.rules HB3.out; have yf := Blk.free HB3.out 12)
  go_ret
  exact ⟨rfl, Blk.set_ HB3.out 12 _, HO3.out.setCell (p := ⟨b, 12, none⟩) (.inl rfl) _⟩
set_option maxHeartbeats 8000000 in
set_option maxRecDepth 100000 in
theorem dl_none_o3 (b : Nat) (s : ByteArray) (w h t li pl : Int) (c h0 h1 : ByteArray) (sv : Value) (dr st : Bool) (lo re : Nat) (W : World) (hs : s.size < 4294967281) (he : Env W) (hB : Blk W b 27 #[.int .i64 w, .int .i64 h, .string c, .int .i64 t, .string h0, .string h1, sv, .bool dr, .int .u8 (lo : Int), .int .i64 li, .int .u8 (re : Int), .bool st, .int .i64 pl])  (q0 : Lib.hasPrefix s.data.toList [115, 116, 97, 114, 116, 32] = false) (qn : 3 ≤ (splitL 32 s.data.toList).length) (q_piece : (splitL 32 s.data.toList).getD 0 [] ≠ [112, 105, 101, 99, 101]) (q_lose : (splitL 32 s.data.toList).getD 0 [] ≠ [108, 111, 115, 101]) (q_reach : (splitL 32 s.data.toList).getD 0 [] ≠ [114, 101, 97, 99, 104]) (q_line : (splitL 32 s.data.toList).getD 0 [] ≠ [108, 105, 110, 101]) (q_plies : (splitL 32 s.data.toList).getD 0 [] ≠ [112, 108, 105, 101, 115]) (q_drops : s.data.toList ≠ [100, 114, 111, 112, 115]) (q_stuck : s.data.toList ≠ [115, 116, 117, 99, 107]) :
    Calls Tryz.prog 38 #[.pointer (some ⟨b, 0, none⟩), .string s] W fun e w' => e = .returned (.int .i64 (-1)) ∧ Only (fun _ => False) W w' := by
  have H1 := hide (split_any 32 s W hs he.m)
  have HB0 := hide hB
  have HE0 := hide he
  have hll : s.data.toList.length = s.size := by simp
  have HBg := hide (fun n w => big_any n w)
  obtain ⟨F, hF⟩ : ∃ F, splitL 32 s.data.toList = F := ⟨_, rfl⟩
  have HF := hide hF
  have hne : 0 < F.length := by rw [← hF]; exact List.length_pos_iff.2 (splitL_ne _ _)
  have hfl : F.length ≤ s.size + 1 := by
    have := splitL_count 32 s.data.toList
    rw [hF] at this
    omega
  have hfm : ∀ i, (F.getD i []).length ≤ s.size := fun i => by
    by_cases hi : i < F.length
    · have h1 : F.getD i [] ∈ F := getD_mem hi
      have h2 : (F.getD i []).length ≤ s.data.toList.length := splitL_mem (c := 32) (by rw [hF]; exact h1)
      omega
    · simp [List.getD, List.getElem?_eq_none (show F.length ≤ i by omega)]
  obtain ⟨f0, hf0⟩ : ∃ f0, bytes (F.getD 0 []) = f0 := ⟨_, rfl⟩
  obtain ⟨f1, hf1⟩ : ∃ f1, bytes (F.getD 1 []) = f1 := ⟨_, rfl⟩
  have Hf0 := hide (show f0.data.toList = F.getD 0 [] from by rw [← hf0, bytes_list])
  have Hf1 := hide (show f1.data.toList = F.getD 1 [] from by rw [← hf1, bytes_list])
  have hz1 : f1.size ≤ s.size := by rw [← hf1, bytes_size]; exact hfm 1
  have Hc0 := hide (fun (w' : World) (h : RowsAt w' W.heap.size F) => (show w'.cell? ⟨W.heap.size, 0, none⟩ = some (.string f0) from by rw [← hf0]; exact h.cellD hne))
  have Hc1 := hide (fun (w' : World) (h : RowsAt w' W.heap.size F) (h2 : 1 < F.length) => (show w'.cell? ⟨W.heap.size, 1, none⟩ = some (.string f1) from by rw [← hf1]; exact h.cellD h2))
  rw [hF] at H1
  clear he hB hfm hf0 hf1 hF
  go_enter Tryz.func38, Tryz.ntmps38
  go_upto_region 2 with (go_at_call 33; refine H1.out.mono ?_; rintro e w1 ⟨nl, hnl, rfl, hl, ho1, hsz1⟩; have Hnl := hide hnl; have Hl1 := hide hl; have Ho1 := hide ho1; clear hnl hl ho1 hsz1)
  have HE1 := hide (HE0.out.no Ho1.out)
  have HO1 := hide (Ho1.out.mono (S' := fun x => x = b) (fun _ _ h => h.elim))
  have HB1 := hide (HB0.out.only Ho1.out (fun h => h))
  have c0 := Hc0.out w1 Hl1.out
  have hbW : b < W.heap.size := Blk.lt HB0.out
  obtain ⟨gl, hgl⟩ : ∃ gl, W.heap.size = gl := ⟨_, rfl⟩
  rw [hgl] at Hl1 Hc0 Hc1 c0 hbW ⊢
  have hnlb : nl ≤ s.size + 1 := by rw [Hnl.out]; exact hfl
  have Ho1k := hide Ho1.out
  clear HE0 HB0 Ho1 H1 hgl hfl hll
  have HPx := hide (Tryz.strings_HasPrefix s ⟨#[115, 116, 97, 114, 116, 32]⟩ w1)
  rw [show (⟨#[115, 116, 97, 114, 116, 32]⟩ : ByteArray).data.toList = [115, 116, 97, 114, 116, 32] from rfl, q0] at HPx
  have HOn := hide (show Only (fun _ => False) W w1 from Ho1k.out)
  have hn : 3 ≤ nl := by rw [Hnl.out, ← HF.out]; exact qn
  have d3 : decide ((nl : Int) ≥ 3) = true := by simp; omega
  have d3n : decide (3 ≤ nl) = true := by simp; omega
  have d2 : ((nl : Int) == 2) = false := by simp; omega
  have d2n : (nl == 2) = false := by simp; omega
  have hn0 : 0 < nl := by rw [Hnl.out]; exact hne
  have i0 : (0 : Int) < (nl : Int) := by omega
  have i1 : (1 : Int) < (nl : Int) := by omega
  have h2 : 1 < F.length := by rw [← Hnl.out]; omega
  have c1 := Hc1.out w1 Hl1.out h2
  have H2 := hide h2
  clear h2
  have x_piece : (f0.toList == [112, 105, 101, 99, 101]) = false := by rw [Go.ByteArray.toList_eq, Hf0.out, ← HF.out]; exact beq_eq_false_iff_ne.2 q_piece
  have x_lose : (f0.toList == [108, 111, 115, 101]) = false := by rw [Go.ByteArray.toList_eq, Hf0.out, ← HF.out]; exact beq_eq_false_iff_ne.2 q_lose
  have x_reach : (f0.toList == [114, 101, 97, 99, 104]) = false := by rw [Go.ByteArray.toList_eq, Hf0.out, ← HF.out]; exact beq_eq_false_iff_ne.2 q_reach
  have x_line : (f0.toList == [108, 105, 110, 101]) = false := by rw [Go.ByteArray.toList_eq, Hf0.out, ← HF.out]; exact beq_eq_false_iff_ne.2 q_line
  have x_plies : (f0.toList == [112, 108, 105, 101, 115]) = false := by rw [Go.ByteArray.toList_eq, Hf0.out, ← HF.out]; exact beq_eq_false_iff_ne.2 q_plies
  clear hn hn0 qn q_piece q_lose q_reach q_line q_plies
  have e_drops : (s.toList == [100, 114, 111, 112, 115]) = false := by rw [Go.ByteArray.toList_eq]; exact beq_eq_false_iff_ne.2 q_drops
  have e_stuck : (s.toList == [115, 116, 117, 99, 107]) = false := by rw [Go.ByteArray.toList_eq]; exact beq_eq_false_iff_ne.2 q_stuck
  clear q_drops q_stuck
  go_wp2_with (first | (go_at_call 79; refine HPx.out.mono ?_; rintro e w2 ⟨rfl, hw2⟩; rw [hw2]; clear hw2) | (go_at_call 40; refine (HBg.out _ _).mono ?_; rintro e w2 ⟨rfl, hw2⟩; rw [hw2]; clear hw2))
  go_ret
  exact ⟨rfl, HOn.out⟩
set_option maxHeartbeats 8000000 in
set_option maxRecDepth 100000 in
theorem dl_none_o2 (b : Nat) (s : ByteArray) (w h t li pl : Int) (c h0 h1 : ByteArray) (sv : Value) (dr st : Bool) (lo re : Nat) (W : World) (hs : s.size < 4294967281) (he : Env W) (hB : Blk W b 27 #[.int .i64 w, .int .i64 h, .string c, .int .i64 t, .string h0, .string h1, sv, .bool dr, .int .u8 (lo : Int), .int .i64 li, .int .u8 (re : Int), .bool st, .int .i64 pl])  (q0 : Lib.hasPrefix s.data.toList [115, 116, 97, 114, 116, 32] = false) (qn : (splitL 32 s.data.toList).length = 2) (q_piece : (splitL 32 s.data.toList).getD 0 [] ≠ [112, 105, 101, 99, 101]) (q_lose : (splitL 32 s.data.toList).getD 0 [] ≠ [108, 111, 115, 101]) (q_reach : (splitL 32 s.data.toList).getD 0 [] ≠ [114, 101, 97, 99, 104]) (q_line : (splitL 32 s.data.toList).getD 0 [] ≠ [108, 105, 110, 101]) (q_plies : (splitL 32 s.data.toList).getD 0 [] ≠ [112, 108, 105, 101, 115]) (q_drops : s.data.toList ≠ [100, 114, 111, 112, 115]) (q_stuck : s.data.toList ≠ [115, 116, 117, 99, 107]) :
    Calls Tryz.prog 38 #[.pointer (some ⟨b, 0, none⟩), .string s] W fun e w' => e = .returned (.int .i64 (-1)) ∧ Only (fun _ => False) W w' := by
  have H1 := hide (split_any 32 s W hs he.m)
  have HB0 := hide hB
  have HE0 := hide he
  have hll : s.data.toList.length = s.size := by simp
  have HBg := hide (fun n w => big_any n w)
  obtain ⟨F, hF⟩ : ∃ F, splitL 32 s.data.toList = F := ⟨_, rfl⟩
  have HF := hide hF
  have hne : 0 < F.length := by rw [← hF]; exact List.length_pos_iff.2 (splitL_ne _ _)
  have hfl : F.length ≤ s.size + 1 := by
    have := splitL_count 32 s.data.toList
    rw [hF] at this
    omega
  have hfm : ∀ i, (F.getD i []).length ≤ s.size := fun i => by
    by_cases hi : i < F.length
    · have h1 : F.getD i [] ∈ F := getD_mem hi
      have h2 : (F.getD i []).length ≤ s.data.toList.length := splitL_mem (c := 32) (by rw [hF]; exact h1)
      omega
    · simp [List.getD, List.getElem?_eq_none (show F.length ≤ i by omega)]
  obtain ⟨f0, hf0⟩ : ∃ f0, bytes (F.getD 0 []) = f0 := ⟨_, rfl⟩
  obtain ⟨f1, hf1⟩ : ∃ f1, bytes (F.getD 1 []) = f1 := ⟨_, rfl⟩
  have Hf0 := hide (show f0.data.toList = F.getD 0 [] from by rw [← hf0, bytes_list])
  have Hf1 := hide (show f1.data.toList = F.getD 1 [] from by rw [← hf1, bytes_list])
  have hz1 : f1.size ≤ s.size := by rw [← hf1, bytes_size]; exact hfm 1
  have Hc0 := hide (fun (w' : World) (h : RowsAt w' W.heap.size F) => (show w'.cell? ⟨W.heap.size, 0, none⟩ = some (.string f0) from by rw [← hf0]; exact h.cellD hne))
  have Hc1 := hide (fun (w' : World) (h : RowsAt w' W.heap.size F) (h2 : 1 < F.length) => (show w'.cell? ⟨W.heap.size, 1, none⟩ = some (.string f1) from by rw [← hf1]; exact h.cellD h2))
  rw [hF] at H1
  clear he hB hfm hf0 hf1 hF
  go_enter Tryz.func38, Tryz.ntmps38
  go_upto_region 2 with (go_at_call 33; refine H1.out.mono ?_; rintro e w1 ⟨nl, hnl, rfl, hl, ho1, hsz1⟩; have Hnl := hide hnl; have Hl1 := hide hl; have Ho1 := hide ho1; clear hnl hl ho1 hsz1)
  have HE1 := hide (HE0.out.no Ho1.out)
  have HO1 := hide (Ho1.out.mono (S' := fun x => x = b) (fun _ _ h => h.elim))
  have HB1 := hide (HB0.out.only Ho1.out (fun h => h))
  have c0 := Hc0.out w1 Hl1.out
  have hbW : b < W.heap.size := Blk.lt HB0.out
  obtain ⟨gl, hgl⟩ : ∃ gl, W.heap.size = gl := ⟨_, rfl⟩
  rw [hgl] at Hl1 Hc0 Hc1 c0 hbW ⊢
  have hnlb : nl ≤ s.size + 1 := by rw [Hnl.out]; exact hfl
  have Ho1k := hide Ho1.out
  clear HE0 HB0 Ho1 H1 hgl hfl hll
  have HPx := hide (Tryz.strings_HasPrefix s ⟨#[115, 116, 97, 114, 116, 32]⟩ w1)
  rw [show (⟨#[115, 116, 97, 114, 116, 32]⟩ : ByteArray).data.toList = [115, 116, 97, 114, 116, 32] from rfl, q0] at HPx
  have HOn := hide (show Only (fun _ => False) W w1 from Ho1k.out)
  have hn : nl = 2 := by rw [Hnl.out, ← HF.out]; exact qn
  have d3 : decide ((nl : Int) ≥ 3) = false := by simp; omega
  have d3n : decide (3 ≤ nl) = false := by simp; omega
  have d2 : ((nl : Int) == 2) = true := by simp; omega
  have d2n : (nl == 2) = true := by simp; omega
  have hn0 : 0 < nl := by rw [Hnl.out]; exact hne
  have i0 : (0 : Int) < (nl : Int) := by omega
  have i1 : (1 : Int) < (nl : Int) := by omega
  have h2 : 1 < F.length := by rw [← Hnl.out]; omega
  have c1 := Hc1.out w1 Hl1.out h2
  have H2 := hide h2
  clear h2
  have x_piece : (f0.toList == [112, 105, 101, 99, 101]) = false := by rw [Go.ByteArray.toList_eq, Hf0.out, ← HF.out]; exact beq_eq_false_iff_ne.2 q_piece
  have x_lose : (f0.toList == [108, 111, 115, 101]) = false := by rw [Go.ByteArray.toList_eq, Hf0.out, ← HF.out]; exact beq_eq_false_iff_ne.2 q_lose
  have x_reach : (f0.toList == [114, 101, 97, 99, 104]) = false := by rw [Go.ByteArray.toList_eq, Hf0.out, ← HF.out]; exact beq_eq_false_iff_ne.2 q_reach
  have x_line : (f0.toList == [108, 105, 110, 101]) = false := by rw [Go.ByteArray.toList_eq, Hf0.out, ← HF.out]; exact beq_eq_false_iff_ne.2 q_line
  have x_plies : (f0.toList == [112, 108, 105, 101, 115]) = false := by rw [Go.ByteArray.toList_eq, Hf0.out, ← HF.out]; exact beq_eq_false_iff_ne.2 q_plies
  clear hn hn0 qn q_piece q_lose q_reach q_line q_plies
  have e_drops : (s.toList == [100, 114, 111, 112, 115]) = false := by rw [Go.ByteArray.toList_eq]; exact beq_eq_false_iff_ne.2 q_drops
  have e_stuck : (s.toList == [115, 116, 117, 99, 107]) = false := by rw [Go.ByteArray.toList_eq]; exact beq_eq_false_iff_ne.2 q_stuck
  clear q_drops q_stuck
  go_wp2_with (first | (go_at_call 79; refine HPx.out.mono ?_; rintro e w2 ⟨rfl, hw2⟩; rw [hw2]; clear hw2) | (go_at_call 40; refine (HBg.out _ _).mono ?_; rintro e w2 ⟨rfl, hw2⟩; rw [hw2]; clear hw2))
  go_ret
  exact ⟨rfl, HOn.out⟩
set_option maxHeartbeats 8000000 in
set_option maxRecDepth 100000 in
theorem dl_none_o1 (b : Nat) (s : ByteArray) (w h t li pl : Int) (c h0 h1 : ByteArray) (sv : Value) (dr st : Bool) (lo re : Nat) (W : World) (hs : s.size < 4294967281) (he : Env W) (hB : Blk W b 27 #[.int .i64 w, .int .i64 h, .string c, .int .i64 t, .string h0, .string h1, sv, .bool dr, .int .u8 (lo : Int), .int .i64 li, .int .u8 (re : Int), .bool st, .int .i64 pl])  (q0 : Lib.hasPrefix s.data.toList [115, 116, 97, 114, 116, 32] = false) (qn : (splitL 32 s.data.toList).length < 2) (q_piece : (splitL 32 s.data.toList).getD 0 [] ≠ [112, 105, 101, 99, 101]) (q_lose : (splitL 32 s.data.toList).getD 0 [] ≠ [108, 111, 115, 101]) (q_reach : (splitL 32 s.data.toList).getD 0 [] ≠ [114, 101, 97, 99, 104]) (q_line : (splitL 32 s.data.toList).getD 0 [] ≠ [108, 105, 110, 101]) (q_plies : (splitL 32 s.data.toList).getD 0 [] ≠ [112, 108, 105, 101, 115]) (q_drops : s.data.toList ≠ [100, 114, 111, 112, 115]) (q_stuck : s.data.toList ≠ [115, 116, 117, 99, 107]) :
    Calls Tryz.prog 38 #[.pointer (some ⟨b, 0, none⟩), .string s] W fun e w' => e = .returned (.int .i64 (-1)) ∧ Only (fun _ => False) W w' := by
  have H1 := hide (split_any 32 s W hs he.m)
  have HB0 := hide hB
  have HE0 := hide he
  have hll : s.data.toList.length = s.size := by simp
  have HBg := hide (fun n w => big_any n w)
  obtain ⟨F, hF⟩ : ∃ F, splitL 32 s.data.toList = F := ⟨_, rfl⟩
  have HF := hide hF
  have hne : 0 < F.length := by rw [← hF]; exact List.length_pos_iff.2 (splitL_ne _ _)
  have hfl : F.length ≤ s.size + 1 := by
    have := splitL_count 32 s.data.toList
    rw [hF] at this
    omega
  have hfm : ∀ i, (F.getD i []).length ≤ s.size := fun i => by
    by_cases hi : i < F.length
    · have h1 : F.getD i [] ∈ F := getD_mem hi
      have h2 : (F.getD i []).length ≤ s.data.toList.length := splitL_mem (c := 32) (by rw [hF]; exact h1)
      omega
    · simp [List.getD, List.getElem?_eq_none (show F.length ≤ i by omega)]
  obtain ⟨f0, hf0⟩ : ∃ f0, bytes (F.getD 0 []) = f0 := ⟨_, rfl⟩
  obtain ⟨f1, hf1⟩ : ∃ f1, bytes (F.getD 1 []) = f1 := ⟨_, rfl⟩
  have Hf0 := hide (show f0.data.toList = F.getD 0 [] from by rw [← hf0, bytes_list])
  have Hf1 := hide (show f1.data.toList = F.getD 1 [] from by rw [← hf1, bytes_list])
  have hz1 : f1.size ≤ s.size := by rw [← hf1, bytes_size]; exact hfm 1
  have Hc0 := hide (fun (w' : World) (h : RowsAt w' W.heap.size F) => (show w'.cell? ⟨W.heap.size, 0, none⟩ = some (.string f0) from by rw [← hf0]; exact h.cellD hne))
  have Hc1 := hide (fun (w' : World) (h : RowsAt w' W.heap.size F) (h2 : 1 < F.length) => (show w'.cell? ⟨W.heap.size, 1, none⟩ = some (.string f1) from by rw [← hf1]; exact h.cellD h2))
  rw [hF] at H1
  clear he hB hfm hf0 hf1 hF
  go_enter Tryz.func38, Tryz.ntmps38
  go_upto_region 2 with (go_at_call 33; refine H1.out.mono ?_; rintro e w1 ⟨nl, hnl, rfl, hl, ho1, hsz1⟩; have Hnl := hide hnl; have Hl1 := hide hl; have Ho1 := hide ho1; clear hnl hl ho1 hsz1)
  have HE1 := hide (HE0.out.no Ho1.out)
  have HO1 := hide (Ho1.out.mono (S' := fun x => x = b) (fun _ _ h => h.elim))
  have HB1 := hide (HB0.out.only Ho1.out (fun h => h))
  have c0 := Hc0.out w1 Hl1.out
  have hbW : b < W.heap.size := Blk.lt HB0.out
  obtain ⟨gl, hgl⟩ : ∃ gl, W.heap.size = gl := ⟨_, rfl⟩
  rw [hgl] at Hl1 Hc0 Hc1 c0 hbW ⊢
  have hnlb : nl ≤ s.size + 1 := by rw [Hnl.out]; exact hfl
  have Ho1k := hide Ho1.out
  clear HE0 HB0 Ho1 H1 hgl hfl hll
  have HPx := hide (Tryz.strings_HasPrefix s ⟨#[115, 116, 97, 114, 116, 32]⟩ w1)
  rw [show (⟨#[115, 116, 97, 114, 116, 32]⟩ : ByteArray).data.toList = [115, 116, 97, 114, 116, 32] from rfl, q0] at HPx
  have HOn := hide (show Only (fun _ => False) W w1 from Ho1k.out)
  have hn : nl < 2 := by rw [Hnl.out, ← HF.out]; exact qn
  have d3 : decide ((nl : Int) ≥ 3) = false := by simp; omega
  have d3n : decide (3 ≤ nl) = false := by simp; omega
  have d2 : ((nl : Int) == 2) = false := by simp; omega
  have d2n : (nl == 2) = false := by simp; omega
  have hn0 : 0 < nl := by rw [Hnl.out]; exact hne
  have i0 : (0 : Int) < (nl : Int) := by omega
  have x_piece : (f0.toList == [112, 105, 101, 99, 101]) = false := by rw [Go.ByteArray.toList_eq, Hf0.out, ← HF.out]; exact beq_eq_false_iff_ne.2 q_piece
  have x_lose : (f0.toList == [108, 111, 115, 101]) = false := by rw [Go.ByteArray.toList_eq, Hf0.out, ← HF.out]; exact beq_eq_false_iff_ne.2 q_lose
  have x_reach : (f0.toList == [114, 101, 97, 99, 104]) = false := by rw [Go.ByteArray.toList_eq, Hf0.out, ← HF.out]; exact beq_eq_false_iff_ne.2 q_reach
  have x_line : (f0.toList == [108, 105, 110, 101]) = false := by rw [Go.ByteArray.toList_eq, Hf0.out, ← HF.out]; exact beq_eq_false_iff_ne.2 q_line
  have x_plies : (f0.toList == [112, 108, 105, 101, 115]) = false := by rw [Go.ByteArray.toList_eq, Hf0.out, ← HF.out]; exact beq_eq_false_iff_ne.2 q_plies
  clear hn hn0 qn q_piece q_lose q_reach q_line q_plies
  have e_drops : (s.toList == [100, 114, 111, 112, 115]) = false := by rw [Go.ByteArray.toList_eq]; exact beq_eq_false_iff_ne.2 q_drops
  have e_stuck : (s.toList == [115, 116, 117, 99, 107]) = false := by rw [Go.ByteArray.toList_eq]; exact beq_eq_false_iff_ne.2 q_stuck
  clear q_drops q_stuck
  go_wp2_with (first | (go_at_call 79; refine HPx.out.mono ?_; rintro e w2 ⟨rfl, hw2⟩; rw [hw2]; clear hw2) | (go_at_call 40; refine (HBg.out _ _).mono ?_; rintro e w2 ⟨rfl, hw2⟩; rw [hw2]; clear hw2))
  go_ret
  exact ⟨rfl, HOn.out⟩
set_option maxHeartbeats 8000000 in
set_option maxRecDepth 100000 in
theorem dl_none_piece2 (b : Nat) (s : ByteArray) (w h t li pl : Int) (c h0 h1 : ByteArray) (sv : Value) (dr st : Bool) (lo re : Nat) (W : World) (hs : s.size < 4294967281) (he : Env W) (hB : Blk W b 27 #[.int .i64 w, .int .i64 h, .string c, .int .i64 t, .string h0, .string h1, sv, .bool dr, .int .u8 (lo : Int), .int .i64 li, .int .u8 (re : Int), .bool st, .int .i64 pl])  (q0 : Lib.hasPrefix s.data.toList [115, 116, 97, 114, 116, 32] = false) (qn : (splitL 32 s.data.toList).length = 2) (qw : (splitL 32 s.data.toList).getD 0 [] = wordR 1) (q_drops : s.data.toList ≠ [100, 114, 111, 112, 115]) (q_stuck : s.data.toList ≠ [115, 116, 117, 99, 107]) :
    Calls Tryz.prog 38 #[.pointer (some ⟨b, 0, none⟩), .string s] W fun e w' => e = .returned (.int .i64 (-1)) ∧ Only (fun _ => False) W w' := by
  have H1 := hide (split_any 32 s W hs he.m)
  have HB0 := hide hB
  have HE0 := hide he
  have hll : s.data.toList.length = s.size := by simp
  have HBg := hide (fun n w => big_any n w)
  obtain ⟨F, hF⟩ : ∃ F, splitL 32 s.data.toList = F := ⟨_, rfl⟩
  have HF := hide hF
  have hne : 0 < F.length := by rw [← hF]; exact List.length_pos_iff.2 (splitL_ne _ _)
  have hfl : F.length ≤ s.size + 1 := by
    have := splitL_count 32 s.data.toList
    rw [hF] at this
    omega
  have hfm : ∀ i, (F.getD i []).length ≤ s.size := fun i => by
    by_cases hi : i < F.length
    · have h1 : F.getD i [] ∈ F := getD_mem hi
      have h2 : (F.getD i []).length ≤ s.data.toList.length := splitL_mem (c := 32) (by rw [hF]; exact h1)
      omega
    · simp [List.getD, List.getElem?_eq_none (show F.length ≤ i by omega)]
  obtain ⟨f0, hf0⟩ : ∃ f0, bytes (F.getD 0 []) = f0 := ⟨_, rfl⟩
  obtain ⟨f1, hf1⟩ : ∃ f1, bytes (F.getD 1 []) = f1 := ⟨_, rfl⟩
  have Hf0 := hide (show f0.data.toList = F.getD 0 [] from by rw [← hf0, bytes_list])
  have Hf1 := hide (show f1.data.toList = F.getD 1 [] from by rw [← hf1, bytes_list])
  have hz1 : f1.size ≤ s.size := by rw [← hf1, bytes_size]; exact hfm 1
  have Hc0 := hide (fun (w' : World) (h : RowsAt w' W.heap.size F) => (show w'.cell? ⟨W.heap.size, 0, none⟩ = some (.string f0) from by rw [← hf0]; exact h.cellD hne))
  have Hc1 := hide (fun (w' : World) (h : RowsAt w' W.heap.size F) (h2 : 1 < F.length) => (show w'.cell? ⟨W.heap.size, 1, none⟩ = some (.string f1) from by rw [← hf1]; exact h.cellD h2))
  rw [hF] at H1
  clear he hB hfm hf0 hf1 hF
  go_enter Tryz.func38, Tryz.ntmps38
  go_upto_region 2 with (go_at_call 33; refine H1.out.mono ?_; rintro e w1 ⟨nl, hnl, rfl, hl, ho1, hsz1⟩; have Hnl := hide hnl; have Hl1 := hide hl; have Ho1 := hide ho1; clear hnl hl ho1 hsz1)
  have HE1 := hide (HE0.out.no Ho1.out)
  have HO1 := hide (Ho1.out.mono (S' := fun x => x = b) (fun _ _ h => h.elim))
  have HB1 := hide (HB0.out.only Ho1.out (fun h => h))
  have c0 := Hc0.out w1 Hl1.out
  have hbW : b < W.heap.size := Blk.lt HB0.out
  obtain ⟨gl, hgl⟩ : ∃ gl, W.heap.size = gl := ⟨_, rfl⟩
  rw [hgl] at Hl1 Hc0 Hc1 c0 hbW ⊢
  have hnlb : nl ≤ s.size + 1 := by rw [Hnl.out]; exact hfl
  have Ho1k := hide Ho1.out
  clear HE0 HB0 Ho1 H1 hgl hfl hll
  have HPx := hide (Tryz.strings_HasPrefix s ⟨#[115, 116, 97, 114, 116, 32]⟩ w1)
  rw [show (⟨#[115, 116, 97, 114, 116, 32]⟩ : ByteArray).data.toList = [115, 116, 97, 114, 116, 32] from rfl, q0] at HPx
  have HOn := hide (show Only (fun _ => False) W w1 from Ho1k.out)
  have hn : nl = 2 := by rw [Hnl.out, ← HF.out]; exact qn
  have d3 : decide ((nl : Int) ≥ 3) = false := by simp; omega
  have d3n : decide (3 ≤ nl) = false := by simp; omega
  have d2 : ((nl : Int) == 2) = true := by simp; omega
  have d2n : (nl == 2) = true := by simp; omega
  have hn0 : 0 < nl := by rw [Hnl.out]; exact hne
  have i0 : (0 : Int) < (nl : Int) := by omega
  have i1 : (1 : Int) < (nl : Int) := by omega
  have h2 : 1 < F.length := by rw [← Hnl.out]; omega
  have c1 := Hc1.out w1 Hl1.out h2
  have H2 := hide h2
  clear h2
  have x_piece : (f0.toList == [112, 105, 101, 99, 101]) = true := by rw [Go.ByteArray.toList_eq, Hf0.out, ← HF.out, qw]; rfl
  have x_lose : (f0.toList == [108, 111, 115, 101]) = false := by rw [Go.ByteArray.toList_eq, Hf0.out, ← HF.out, qw]; rfl
  have x_reach : (f0.toList == [114, 101, 97, 99, 104]) = false := by rw [Go.ByteArray.toList_eq, Hf0.out, ← HF.out, qw]; rfl
  have x_line : (f0.toList == [108, 105, 110, 101]) = false := by rw [Go.ByteArray.toList_eq, Hf0.out, ← HF.out, qw]; rfl
  have x_plies : (f0.toList == [112, 108, 105, 101, 115]) = false := by rw [Go.ByteArray.toList_eq, Hf0.out, ← HF.out, qw]; rfl
  clear hn hn0 qn qw
  have e_drops : (s.toList == [100, 114, 111, 112, 115]) = false := by rw [Go.ByteArray.toList_eq]; exact beq_eq_false_iff_ne.2 q_drops
  have e_stuck : (s.toList == [115, 116, 117, 99, 107]) = false := by rw [Go.ByteArray.toList_eq]; exact beq_eq_false_iff_ne.2 q_stuck
  clear q_drops q_stuck
  go_wp2_with (first | (go_at_call 79; refine HPx.out.mono ?_; rintro e w2 ⟨rfl, hw2⟩; rw [hw2]; clear hw2) | (go_at_call 40; refine (HBg.out _ _).mono ?_; rintro e w2 ⟨rfl, hw2⟩; rw [hw2]; clear hw2))
  go_ret
  exact ⟨rfl, HOn.out⟩
set_option maxHeartbeats 8000000 in
set_option maxRecDepth 100000 in
theorem dl_none_piece1 (b : Nat) (s : ByteArray) (w h t li pl : Int) (c h0 h1 : ByteArray) (sv : Value) (dr st : Bool) (lo re : Nat) (W : World) (hs : s.size < 4294967281) (he : Env W) (hB : Blk W b 27 #[.int .i64 w, .int .i64 h, .string c, .int .i64 t, .string h0, .string h1, sv, .bool dr, .int .u8 (lo : Int), .int .i64 li, .int .u8 (re : Int), .bool st, .int .i64 pl])  (q0 : Lib.hasPrefix s.data.toList [115, 116, 97, 114, 116, 32] = false) (qn : (splitL 32 s.data.toList).length < 2) (qw : (splitL 32 s.data.toList).getD 0 [] = wordR 1) (q_drops : s.data.toList ≠ [100, 114, 111, 112, 115]) (q_stuck : s.data.toList ≠ [115, 116, 117, 99, 107]) :
    Calls Tryz.prog 38 #[.pointer (some ⟨b, 0, none⟩), .string s] W fun e w' => e = .returned (.int .i64 (-1)) ∧ Only (fun _ => False) W w' := by
  have H1 := hide (split_any 32 s W hs he.m)
  have HB0 := hide hB
  have HE0 := hide he
  have hll : s.data.toList.length = s.size := by simp
  have HBg := hide (fun n w => big_any n w)
  obtain ⟨F, hF⟩ : ∃ F, splitL 32 s.data.toList = F := ⟨_, rfl⟩
  have HF := hide hF
  have hne : 0 < F.length := by rw [← hF]; exact List.length_pos_iff.2 (splitL_ne _ _)
  have hfl : F.length ≤ s.size + 1 := by
    have := splitL_count 32 s.data.toList
    rw [hF] at this
    omega
  have hfm : ∀ i, (F.getD i []).length ≤ s.size := fun i => by
    by_cases hi : i < F.length
    · have h1 : F.getD i [] ∈ F := getD_mem hi
      have h2 : (F.getD i []).length ≤ s.data.toList.length := splitL_mem (c := 32) (by rw [hF]; exact h1)
      omega
    · simp [List.getD, List.getElem?_eq_none (show F.length ≤ i by omega)]
  obtain ⟨f0, hf0⟩ : ∃ f0, bytes (F.getD 0 []) = f0 := ⟨_, rfl⟩
  obtain ⟨f1, hf1⟩ : ∃ f1, bytes (F.getD 1 []) = f1 := ⟨_, rfl⟩
  have Hf0 := hide (show f0.data.toList = F.getD 0 [] from by rw [← hf0, bytes_list])
  have Hf1 := hide (show f1.data.toList = F.getD 1 [] from by rw [← hf1, bytes_list])
  have hz1 : f1.size ≤ s.size := by rw [← hf1, bytes_size]; exact hfm 1
  have Hc0 := hide (fun (w' : World) (h : RowsAt w' W.heap.size F) => (show w'.cell? ⟨W.heap.size, 0, none⟩ = some (.string f0) from by rw [← hf0]; exact h.cellD hne))
  have Hc1 := hide (fun (w' : World) (h : RowsAt w' W.heap.size F) (h2 : 1 < F.length) => (show w'.cell? ⟨W.heap.size, 1, none⟩ = some (.string f1) from by rw [← hf1]; exact h.cellD h2))
  rw [hF] at H1
  clear he hB hfm hf0 hf1 hF
  go_enter Tryz.func38, Tryz.ntmps38
  go_upto_region 2 with (go_at_call 33; refine H1.out.mono ?_; rintro e w1 ⟨nl, hnl, rfl, hl, ho1, hsz1⟩; have Hnl := hide hnl; have Hl1 := hide hl; have Ho1 := hide ho1; clear hnl hl ho1 hsz1)
  have HE1 := hide (HE0.out.no Ho1.out)
  have HO1 := hide (Ho1.out.mono (S' := fun x => x = b) (fun _ _ h => h.elim))
  have HB1 := hide (HB0.out.only Ho1.out (fun h => h))
  have c0 := Hc0.out w1 Hl1.out
  have hbW : b < W.heap.size := Blk.lt HB0.out
  obtain ⟨gl, hgl⟩ : ∃ gl, W.heap.size = gl := ⟨_, rfl⟩
  rw [hgl] at Hl1 Hc0 Hc1 c0 hbW ⊢
  have hnlb : nl ≤ s.size + 1 := by rw [Hnl.out]; exact hfl
  have Ho1k := hide Ho1.out
  clear HE0 HB0 Ho1 H1 hgl hfl hll
  have HPx := hide (Tryz.strings_HasPrefix s ⟨#[115, 116, 97, 114, 116, 32]⟩ w1)
  rw [show (⟨#[115, 116, 97, 114, 116, 32]⟩ : ByteArray).data.toList = [115, 116, 97, 114, 116, 32] from rfl, q0] at HPx
  have HOn := hide (show Only (fun _ => False) W w1 from Ho1k.out)
  have hn : nl < 2 := by rw [Hnl.out, ← HF.out]; exact qn
  have d3 : decide ((nl : Int) ≥ 3) = false := by simp; omega
  have d3n : decide (3 ≤ nl) = false := by simp; omega
  have d2 : ((nl : Int) == 2) = false := by simp; omega
  have d2n : (nl == 2) = false := by simp; omega
  have hn0 : 0 < nl := by rw [Hnl.out]; exact hne
  have i0 : (0 : Int) < (nl : Int) := by omega
  have x_piece : (f0.toList == [112, 105, 101, 99, 101]) = true := by rw [Go.ByteArray.toList_eq, Hf0.out, ← HF.out, qw]; rfl
  have x_lose : (f0.toList == [108, 111, 115, 101]) = false := by rw [Go.ByteArray.toList_eq, Hf0.out, ← HF.out, qw]; rfl
  have x_reach : (f0.toList == [114, 101, 97, 99, 104]) = false := by rw [Go.ByteArray.toList_eq, Hf0.out, ← HF.out, qw]; rfl
  have x_line : (f0.toList == [108, 105, 110, 101]) = false := by rw [Go.ByteArray.toList_eq, Hf0.out, ← HF.out, qw]; rfl
  have x_plies : (f0.toList == [112, 108, 105, 101, 115]) = false := by rw [Go.ByteArray.toList_eq, Hf0.out, ← HF.out, qw]; rfl
  clear hn hn0 qn qw
  have e_drops : (s.toList == [100, 114, 111, 112, 115]) = false := by rw [Go.ByteArray.toList_eq]; exact beq_eq_false_iff_ne.2 q_drops
  have e_stuck : (s.toList == [115, 116, 117, 99, 107]) = false := by rw [Go.ByteArray.toList_eq]; exact beq_eq_false_iff_ne.2 q_stuck
  clear q_drops q_stuck
  go_wp2_with (first | (go_at_call 79; refine HPx.out.mono ?_; rintro e w2 ⟨rfl, hw2⟩; rw [hw2]; clear hw2) | (go_at_call 40; refine (HBg.out _ _).mono ?_; rintro e w2 ⟨rfl, hw2⟩; rw [hw2]; clear hw2))
  go_ret
  exact ⟨rfl, HOn.out⟩
set_option maxHeartbeats 8000000 in
set_option maxRecDepth 100000 in
theorem dl_none_piece_long (b : Nat) (s : ByteArray) (w h t li pl : Int) (c h0 h1 : ByteArray) (sv : Value) (dr st : Bool) (lo re : Nat) (W : World) (hs : s.size < 4294967281) (he : Env W) (hB : Blk W b 27 #[.int .i64 w, .int .i64 h, .string c, .int .i64 t, .string h0, .string h1, sv, .bool dr, .int .u8 (lo : Int), .int .i64 li, .int .u8 (re : Int), .bool st, .int .i64 pl])  (q0 : Lib.hasPrefix s.data.toList [115, 116, 97, 114, 116, 32] = false) (qn : 3 ≤ (splitL 32 s.data.toList).length) (qw : (splitL 32 s.data.toList).getD 0 [] = wordR 1) (q_drops : s.data.toList ≠ [100, 114, 111, 112, 115]) (q_stuck : s.data.toList ≠ [115, 116, 117, 99, 107]) (qz : ((splitL 32 s.data.toList).getD 1 []).length ≠ 1) :
    Calls Tryz.prog 38 #[.pointer (some ⟨b, 0, none⟩), .string s] W fun e w' => e = .returned (.int .i64 (-1)) ∧ Only (fun _ => False) W w' := by
  have H1 := hide (split_any 32 s W hs he.m)
  have HB0 := hide hB
  have HE0 := hide he
  have hll : s.data.toList.length = s.size := by simp
  have HBg := hide (fun n w => big_any n w)
  obtain ⟨F, hF⟩ : ∃ F, splitL 32 s.data.toList = F := ⟨_, rfl⟩
  have HF := hide hF
  have hne : 0 < F.length := by rw [← hF]; exact List.length_pos_iff.2 (splitL_ne _ _)
  have hfl : F.length ≤ s.size + 1 := by
    have := splitL_count 32 s.data.toList
    rw [hF] at this
    omega
  have hfm : ∀ i, (F.getD i []).length ≤ s.size := fun i => by
    by_cases hi : i < F.length
    · have h1 : F.getD i [] ∈ F := getD_mem hi
      have h2 : (F.getD i []).length ≤ s.data.toList.length := splitL_mem (c := 32) (by rw [hF]; exact h1)
      omega
    · simp [List.getD, List.getElem?_eq_none (show F.length ≤ i by omega)]
  obtain ⟨f0, hf0⟩ : ∃ f0, bytes (F.getD 0 []) = f0 := ⟨_, rfl⟩
  obtain ⟨f1, hf1⟩ : ∃ f1, bytes (F.getD 1 []) = f1 := ⟨_, rfl⟩
  have Hf0 := hide (show f0.data.toList = F.getD 0 [] from by rw [← hf0, bytes_list])
  have Hf1 := hide (show f1.data.toList = F.getD 1 [] from by rw [← hf1, bytes_list])
  have hz1 : f1.size ≤ s.size := by rw [← hf1, bytes_size]; exact hfm 1
  have Hc0 := hide (fun (w' : World) (h : RowsAt w' W.heap.size F) => (show w'.cell? ⟨W.heap.size, 0, none⟩ = some (.string f0) from by rw [← hf0]; exact h.cellD hne))
  have Hc1 := hide (fun (w' : World) (h : RowsAt w' W.heap.size F) (h2 : 1 < F.length) => (show w'.cell? ⟨W.heap.size, 1, none⟩ = some (.string f1) from by rw [← hf1]; exact h.cellD h2))
  rw [hF] at H1
  clear he hB hfm hf0 hf1 hF
  go_enter Tryz.func38, Tryz.ntmps38
  go_upto_region 2 with (go_at_call 33; refine H1.out.mono ?_; rintro e w1 ⟨nl, hnl, rfl, hl, ho1, hsz1⟩; have Hnl := hide hnl; have Hl1 := hide hl; have Ho1 := hide ho1; clear hnl hl ho1 hsz1)
  have HE1 := hide (HE0.out.no Ho1.out)
  have HO1 := hide (Ho1.out.mono (S' := fun x => x = b) (fun _ _ h => h.elim))
  have HB1 := hide (HB0.out.only Ho1.out (fun h => h))
  have c0 := Hc0.out w1 Hl1.out
  have hbW : b < W.heap.size := Blk.lt HB0.out
  obtain ⟨gl, hgl⟩ : ∃ gl, W.heap.size = gl := ⟨_, rfl⟩
  rw [hgl] at Hl1 Hc0 Hc1 c0 hbW ⊢
  have hnlb : nl ≤ s.size + 1 := by rw [Hnl.out]; exact hfl
  have Ho1k := hide Ho1.out
  clear HE0 HB0 Ho1 H1 hgl hfl hll
  have HPx := hide (Tryz.strings_HasPrefix s ⟨#[115, 116, 97, 114, 116, 32]⟩ w1)
  rw [show (⟨#[115, 116, 97, 114, 116, 32]⟩ : ByteArray).data.toList = [115, 116, 97, 114, 116, 32] from rfl, q0] at HPx
  have HOn := hide (show Only (fun _ => False) W w1 from Ho1k.out)
  have hn : 3 ≤ nl := by rw [Hnl.out, ← HF.out]; exact qn
  have d3 : decide ((nl : Int) ≥ 3) = true := by simp; omega
  have d3n : decide (3 ≤ nl) = true := by simp; omega
  have d2 : ((nl : Int) == 2) = false := by simp; omega
  have d2n : (nl == 2) = false := by simp; omega
  have hn0 : 0 < nl := by rw [Hnl.out]; exact hne
  have i0 : (0 : Int) < (nl : Int) := by omega
  have i1 : (1 : Int) < (nl : Int) := by omega
  have h2 : 1 < F.length := by rw [← Hnl.out]; omega
  have c1 := Hc1.out w1 Hl1.out h2
  have H2 := hide h2
  clear h2
  have x_piece : (f0.toList == [112, 105, 101, 99, 101]) = true := by rw [Go.ByteArray.toList_eq, Hf0.out, ← HF.out, qw]; rfl
  have x_lose : (f0.toList == [108, 111, 115, 101]) = false := by rw [Go.ByteArray.toList_eq, Hf0.out, ← HF.out, qw]; rfl
  have x_reach : (f0.toList == [114, 101, 97, 99, 104]) = false := by rw [Go.ByteArray.toList_eq, Hf0.out, ← HF.out, qw]; rfl
  have x_line : (f0.toList == [108, 105, 110, 101]) = false := by rw [Go.ByteArray.toList_eq, Hf0.out, ← HF.out, qw]; rfl
  have x_plies : (f0.toList == [112, 108, 105, 101, 115]) = false := by rw [Go.ByteArray.toList_eq, Hf0.out, ← HF.out, qw]; rfl
  clear hn hn0 qn qw
  have e_drops : (s.toList == [100, 114, 111, 112, 115]) = false := by rw [Go.ByteArray.toList_eq]; exact beq_eq_false_iff_ne.2 q_drops
  have e_stuck : (s.toList == [115, 116, 117, 99, 107]) = false := by rw [Go.ByteArray.toList_eq]; exact beq_eq_false_iff_ne.2 q_stuck
  clear q_drops q_stuck
  have hz : f1.size ≠ 1 := by
    have h5 : f1.data.toList.length = f1.size := by simp
    rw [← h5, Hf1.out, ← HF.out]; exact qz
  have z1 : ((f1.size : Int) == 1) = false := by rw [beq_eq_false_iff_ne]; omega
  have z1n : (f1.size == 1) = false := by rw [beq_eq_false_iff_ne]; exact hz
  clear hz qz
  go_wp2_with (first | (go_at_call 79; refine HPx.out.mono ?_; rintro e w2 ⟨rfl, hw2⟩; rw [hw2]; clear hw2) | (go_at_call 40; refine (HBg.out _ _).mono ?_; rintro e w2 ⟨rfl, hw2⟩; rw [hw2]; clear hw2))
  go_ret
  exact ⟨rfl, HOn.out⟩
set_option maxHeartbeats 8000000 in
set_option maxRecDepth 100000 in
theorem dl_none_piece_up (b : Nat) (s : ByteArray) (w h t li pl : Int) (c h0 h1 : ByteArray) (sv : Value) (dr st : Bool) (lo re : Nat) (W : World) (hs : s.size < 4294967281) (he : Env W) (hB : Blk W b 27 #[.int .i64 w, .int .i64 h, .string c, .int .i64 t, .string h0, .string h1, sv, .bool dr, .int .u8 (lo : Int), .int .i64 li, .int .u8 (re : Int), .bool st, .int .i64 pl])  (q0 : Lib.hasPrefix s.data.toList [115, 116, 97, 114, 116, 32] = false) (qn : 3 ≤ (splitL 32 s.data.toList).length) (qw : (splitL 32 s.data.toList).getD 0 [] = wordR 1) (q_drops : s.data.toList ≠ [100, 114, 111, 112, 115]) (q_stuck : s.data.toList ≠ [115, 116, 117, 99, 107]) (ch : UInt8) (q1 : (splitL 32 s.data.toList).getD 1 [] = [ch]) (qu : upB ch.toNat = false) :
    Calls Tryz.prog 38 #[.pointer (some ⟨b, 0, none⟩), .string s] W fun e w' => e = .returned (.int .i64 (-1)) ∧ Only (fun _ => False) W w' := by
  have H1 := hide (split_any 32 s W hs he.m)
  have HB0 := hide hB
  have HE0 := hide he
  have hll : s.data.toList.length = s.size := by simp
  have HBg := hide (fun n w => big_any n w)
  obtain ⟨F, hF⟩ : ∃ F, splitL 32 s.data.toList = F := ⟨_, rfl⟩
  have HF := hide hF
  have hne : 0 < F.length := by rw [← hF]; exact List.length_pos_iff.2 (splitL_ne _ _)
  have hfl : F.length ≤ s.size + 1 := by
    have := splitL_count 32 s.data.toList
    rw [hF] at this
    omega
  have hfm : ∀ i, (F.getD i []).length ≤ s.size := fun i => by
    by_cases hi : i < F.length
    · have h1 : F.getD i [] ∈ F := getD_mem hi
      have h2 : (F.getD i []).length ≤ s.data.toList.length := splitL_mem (c := 32) (by rw [hF]; exact h1)
      omega
    · simp [List.getD, List.getElem?_eq_none (show F.length ≤ i by omega)]
  obtain ⟨f0, hf0⟩ : ∃ f0, bytes (F.getD 0 []) = f0 := ⟨_, rfl⟩
  obtain ⟨f1, hf1⟩ : ∃ f1, bytes (F.getD 1 []) = f1 := ⟨_, rfl⟩
  have Hf0 := hide (show f0.data.toList = F.getD 0 [] from by rw [← hf0, bytes_list])
  have Hf1 := hide (show f1.data.toList = F.getD 1 [] from by rw [← hf1, bytes_list])
  have hz1 : f1.size ≤ s.size := by rw [← hf1, bytes_size]; exact hfm 1
  have Hc0 := hide (fun (w' : World) (h : RowsAt w' W.heap.size F) => (show w'.cell? ⟨W.heap.size, 0, none⟩ = some (.string f0) from by rw [← hf0]; exact h.cellD hne))
  have Hc1 := hide (fun (w' : World) (h : RowsAt w' W.heap.size F) (h2 : 1 < F.length) => (show w'.cell? ⟨W.heap.size, 1, none⟩ = some (.string f1) from by rw [← hf1]; exact h.cellD h2))
  rw [hF] at H1
  clear he hB hfm hf0 hf1 hF
  go_enter Tryz.func38, Tryz.ntmps38
  go_upto_region 2 with (go_at_call 33; refine H1.out.mono ?_; rintro e w1 ⟨nl, hnl, rfl, hl, ho1, hsz1⟩; have Hnl := hide hnl; have Hl1 := hide hl; have Ho1 := hide ho1; clear hnl hl ho1 hsz1)
  have HE1 := hide (HE0.out.no Ho1.out)
  have HO1 := hide (Ho1.out.mono (S' := fun x => x = b) (fun _ _ h => h.elim))
  have HB1 := hide (HB0.out.only Ho1.out (fun h => h))
  have c0 := Hc0.out w1 Hl1.out
  have hbW : b < W.heap.size := Blk.lt HB0.out
  obtain ⟨gl, hgl⟩ : ∃ gl, W.heap.size = gl := ⟨_, rfl⟩
  rw [hgl] at Hl1 Hc0 Hc1 c0 hbW ⊢
  have hnlb : nl ≤ s.size + 1 := by rw [Hnl.out]; exact hfl
  have Ho1k := hide Ho1.out
  clear HE0 HB0 Ho1 H1 hgl hfl hll
  have HPx := hide (Tryz.strings_HasPrefix s ⟨#[115, 116, 97, 114, 116, 32]⟩ w1)
  rw [show (⟨#[115, 116, 97, 114, 116, 32]⟩ : ByteArray).data.toList = [115, 116, 97, 114, 116, 32] from rfl, q0] at HPx
  have HOn := hide (show Only (fun _ => False) W w1 from Ho1k.out)
  have hn : 3 ≤ nl := by rw [Hnl.out, ← HF.out]; exact qn
  have d3 : decide ((nl : Int) ≥ 3) = true := by simp; omega
  have d3n : decide (3 ≤ nl) = true := by simp; omega
  have d2 : ((nl : Int) == 2) = false := by simp; omega
  have d2n : (nl == 2) = false := by simp; omega
  have hn0 : 0 < nl := by rw [Hnl.out]; exact hne
  have i0 : (0 : Int) < (nl : Int) := by omega
  have i1 : (1 : Int) < (nl : Int) := by omega
  have h2 : 1 < F.length := by rw [← Hnl.out]; omega
  have c1 := Hc1.out w1 Hl1.out h2
  have H2 := hide h2
  clear h2
  have x_piece : (f0.toList == [112, 105, 101, 99, 101]) = true := by rw [Go.ByteArray.toList_eq, Hf0.out, ← HF.out, qw]; rfl
  have x_lose : (f0.toList == [108, 111, 115, 101]) = false := by rw [Go.ByteArray.toList_eq, Hf0.out, ← HF.out, qw]; rfl
  have x_reach : (f0.toList == [114, 101, 97, 99, 104]) = false := by rw [Go.ByteArray.toList_eq, Hf0.out, ← HF.out, qw]; rfl
  have x_line : (f0.toList == [108, 105, 110, 101]) = false := by rw [Go.ByteArray.toList_eq, Hf0.out, ← HF.out, qw]; rfl
  have x_plies : (f0.toList == [112, 108, 105, 101, 115]) = false := by rw [Go.ByteArray.toList_eq, Hf0.out, ← HF.out, qw]; rfl
  clear hn hn0 qn qw
  have e_drops : (s.toList == [100, 114, 111, 112, 115]) = false := by rw [Go.ByteArray.toList_eq]; exact beq_eq_false_iff_ne.2 q_drops
  have e_stuck : (s.toList == [115, 116, 117, 99, 107]) = false := by rw [Go.ByteArray.toList_eq]; exact beq_eq_false_iff_ne.2 q_stuck
  clear q_drops q_stuck
  have hz : f1.size = 1 := by
    have h5 : f1.data.toList.length = f1.size := by simp
    rw [← h5, Hf1.out, ← HF.out, q1]; rfl
  have j0 : (0 : Int) < (f1.size : Int) := by omega
  have j0n : 0 < f1.size := by omega
  have z1 : ((f1.size : Int) == 1) = true := by rw [hz]; rfl
  have z1n : (f1.size == 1) = true := by rw [hz]; rfl
  have hch : f1[0].toNat = ch.toNat := by rw [head_at j0n, Hf1.out, ← HF.out, q1]; rfl
  clear hz q1
  have hup : upB ch.toNat = false := qu
  go_wp2_with (first | (go_at_call 79; refine HPx.out.mono ?_; rintro e w2 ⟨rfl, hw2⟩; rw [hw2]; clear hw2) | (go_at_call 40; refine (HBg.out _ _).mono ?_; rintro e w2 ⟨rfl, hw2⟩; rw [hw2]; clear hw2))
  go_ret
  exact ⟨rfl, HOn.out⟩
set_option maxHeartbeats 8000000 in
set_option maxRecDepth 100000 in
theorem dl_none_lose3 (b : Nat) (s : ByteArray) (w h t li pl : Int) (c h0 h1 : ByteArray) (sv : Value) (dr st : Bool) (lo re : Nat) (W : World) (hs : s.size < 4294967281) (he : Env W) (hB : Blk W b 27 #[.int .i64 w, .int .i64 h, .string c, .int .i64 t, .string h0, .string h1, sv, .bool dr, .int .u8 (lo : Int), .int .i64 li, .int .u8 (re : Int), .bool st, .int .i64 pl])  (q0 : Lib.hasPrefix s.data.toList [115, 116, 97, 114, 116, 32] = false) (qn : 3 ≤ (splitL 32 s.data.toList).length) (qw : (splitL 32 s.data.toList).getD 0 [] = wordR 3) (q_drops : s.data.toList ≠ [100, 114, 111, 112, 115]) (q_stuck : s.data.toList ≠ [115, 116, 117, 99, 107]) :
    Calls Tryz.prog 38 #[.pointer (some ⟨b, 0, none⟩), .string s] W fun e w' => e = .returned (.int .i64 (-1)) ∧ Only (fun _ => False) W w' := by
  have H1 := hide (split_any 32 s W hs he.m)
  have HB0 := hide hB
  have HE0 := hide he
  have hll : s.data.toList.length = s.size := by simp
  have HBg := hide (fun n w => big_any n w)
  obtain ⟨F, hF⟩ : ∃ F, splitL 32 s.data.toList = F := ⟨_, rfl⟩
  have HF := hide hF
  have hne : 0 < F.length := by rw [← hF]; exact List.length_pos_iff.2 (splitL_ne _ _)
  have hfl : F.length ≤ s.size + 1 := by
    have := splitL_count 32 s.data.toList
    rw [hF] at this
    omega
  have hfm : ∀ i, (F.getD i []).length ≤ s.size := fun i => by
    by_cases hi : i < F.length
    · have h1 : F.getD i [] ∈ F := getD_mem hi
      have h2 : (F.getD i []).length ≤ s.data.toList.length := splitL_mem (c := 32) (by rw [hF]; exact h1)
      omega
    · simp [List.getD, List.getElem?_eq_none (show F.length ≤ i by omega)]
  obtain ⟨f0, hf0⟩ : ∃ f0, bytes (F.getD 0 []) = f0 := ⟨_, rfl⟩
  obtain ⟨f1, hf1⟩ : ∃ f1, bytes (F.getD 1 []) = f1 := ⟨_, rfl⟩
  have Hf0 := hide (show f0.data.toList = F.getD 0 [] from by rw [← hf0, bytes_list])
  have Hf1 := hide (show f1.data.toList = F.getD 1 [] from by rw [← hf1, bytes_list])
  have hz1 : f1.size ≤ s.size := by rw [← hf1, bytes_size]; exact hfm 1
  have Hc0 := hide (fun (w' : World) (h : RowsAt w' W.heap.size F) => (show w'.cell? ⟨W.heap.size, 0, none⟩ = some (.string f0) from by rw [← hf0]; exact h.cellD hne))
  have Hc1 := hide (fun (w' : World) (h : RowsAt w' W.heap.size F) (h2 : 1 < F.length) => (show w'.cell? ⟨W.heap.size, 1, none⟩ = some (.string f1) from by rw [← hf1]; exact h.cellD h2))
  rw [hF] at H1
  clear he hB hfm hf0 hf1 hF
  go_enter Tryz.func38, Tryz.ntmps38
  go_upto_region 2 with (go_at_call 33; refine H1.out.mono ?_; rintro e w1 ⟨nl, hnl, rfl, hl, ho1, hsz1⟩; have Hnl := hide hnl; have Hl1 := hide hl; have Ho1 := hide ho1; clear hnl hl ho1 hsz1)
  have HE1 := hide (HE0.out.no Ho1.out)
  have HO1 := hide (Ho1.out.mono (S' := fun x => x = b) (fun _ _ h => h.elim))
  have HB1 := hide (HB0.out.only Ho1.out (fun h => h))
  have c0 := Hc0.out w1 Hl1.out
  have hbW : b < W.heap.size := Blk.lt HB0.out
  obtain ⟨gl, hgl⟩ : ∃ gl, W.heap.size = gl := ⟨_, rfl⟩
  rw [hgl] at Hl1 Hc0 Hc1 c0 hbW ⊢
  have hnlb : nl ≤ s.size + 1 := by rw [Hnl.out]; exact hfl
  have Ho1k := hide Ho1.out
  clear HE0 HB0 Ho1 H1 hgl hfl hll
  have HPx := hide (Tryz.strings_HasPrefix s ⟨#[115, 116, 97, 114, 116, 32]⟩ w1)
  rw [show (⟨#[115, 116, 97, 114, 116, 32]⟩ : ByteArray).data.toList = [115, 116, 97, 114, 116, 32] from rfl, q0] at HPx
  have HOn := hide (show Only (fun _ => False) W w1 from Ho1k.out)
  have hn : 3 ≤ nl := by rw [Hnl.out, ← HF.out]; exact qn
  have d3 : decide ((nl : Int) ≥ 3) = true := by simp; omega
  have d3n : decide (3 ≤ nl) = true := by simp; omega
  have d2 : ((nl : Int) == 2) = false := by simp; omega
  have d2n : (nl == 2) = false := by simp; omega
  have hn0 : 0 < nl := by rw [Hnl.out]; exact hne
  have i0 : (0 : Int) < (nl : Int) := by omega
  have i1 : (1 : Int) < (nl : Int) := by omega
  have h2 : 1 < F.length := by rw [← Hnl.out]; omega
  have c1 := Hc1.out w1 Hl1.out h2
  have H2 := hide h2
  clear h2
  have x_piece : (f0.toList == [112, 105, 101, 99, 101]) = false := by rw [Go.ByteArray.toList_eq, Hf0.out, ← HF.out, qw]; rfl
  have x_lose : (f0.toList == [108, 111, 115, 101]) = true := by rw [Go.ByteArray.toList_eq, Hf0.out, ← HF.out, qw]; rfl
  have x_reach : (f0.toList == [114, 101, 97, 99, 104]) = false := by rw [Go.ByteArray.toList_eq, Hf0.out, ← HF.out, qw]; rfl
  have x_line : (f0.toList == [108, 105, 110, 101]) = false := by rw [Go.ByteArray.toList_eq, Hf0.out, ← HF.out, qw]; rfl
  have x_plies : (f0.toList == [112, 108, 105, 101, 115]) = false := by rw [Go.ByteArray.toList_eq, Hf0.out, ← HF.out, qw]; rfl
  clear hn hn0 qn qw
  have e_drops : (s.toList == [100, 114, 111, 112, 115]) = false := by rw [Go.ByteArray.toList_eq]; exact beq_eq_false_iff_ne.2 q_drops
  have e_stuck : (s.toList == [115, 116, 117, 99, 107]) = false := by rw [Go.ByteArray.toList_eq]; exact beq_eq_false_iff_ne.2 q_stuck
  clear q_drops q_stuck
  go_wp2_with (first | (go_at_call 79; refine HPx.out.mono ?_; rintro e w2 ⟨rfl, hw2⟩; rw [hw2]; clear hw2) | (go_at_call 40; refine (HBg.out _ _).mono ?_; rintro e w2 ⟨rfl, hw2⟩; rw [hw2]; clear hw2))
  go_ret
  exact ⟨rfl, HOn.out⟩
set_option maxHeartbeats 8000000 in
set_option maxRecDepth 100000 in
theorem dl_none_lose1 (b : Nat) (s : ByteArray) (w h t li pl : Int) (c h0 h1 : ByteArray) (sv : Value) (dr st : Bool) (lo re : Nat) (W : World) (hs : s.size < 4294967281) (he : Env W) (hB : Blk W b 27 #[.int .i64 w, .int .i64 h, .string c, .int .i64 t, .string h0, .string h1, sv, .bool dr, .int .u8 (lo : Int), .int .i64 li, .int .u8 (re : Int), .bool st, .int .i64 pl])  (q0 : Lib.hasPrefix s.data.toList [115, 116, 97, 114, 116, 32] = false) (qn : (splitL 32 s.data.toList).length < 2) (qw : (splitL 32 s.data.toList).getD 0 [] = wordR 3) (q_drops : s.data.toList ≠ [100, 114, 111, 112, 115]) (q_stuck : s.data.toList ≠ [115, 116, 117, 99, 107]) :
    Calls Tryz.prog 38 #[.pointer (some ⟨b, 0, none⟩), .string s] W fun e w' => e = .returned (.int .i64 (-1)) ∧ Only (fun _ => False) W w' := by
  have H1 := hide (split_any 32 s W hs he.m)
  have HB0 := hide hB
  have HE0 := hide he
  have hll : s.data.toList.length = s.size := by simp
  have HBg := hide (fun n w => big_any n w)
  obtain ⟨F, hF⟩ : ∃ F, splitL 32 s.data.toList = F := ⟨_, rfl⟩
  have HF := hide hF
  have hne : 0 < F.length := by rw [← hF]; exact List.length_pos_iff.2 (splitL_ne _ _)
  have hfl : F.length ≤ s.size + 1 := by
    have := splitL_count 32 s.data.toList
    rw [hF] at this
    omega
  have hfm : ∀ i, (F.getD i []).length ≤ s.size := fun i => by
    by_cases hi : i < F.length
    · have h1 : F.getD i [] ∈ F := getD_mem hi
      have h2 : (F.getD i []).length ≤ s.data.toList.length := splitL_mem (c := 32) (by rw [hF]; exact h1)
      omega
    · simp [List.getD, List.getElem?_eq_none (show F.length ≤ i by omega)]
  obtain ⟨f0, hf0⟩ : ∃ f0, bytes (F.getD 0 []) = f0 := ⟨_, rfl⟩
  obtain ⟨f1, hf1⟩ : ∃ f1, bytes (F.getD 1 []) = f1 := ⟨_, rfl⟩
  have Hf0 := hide (show f0.data.toList = F.getD 0 [] from by rw [← hf0, bytes_list])
  have Hf1 := hide (show f1.data.toList = F.getD 1 [] from by rw [← hf1, bytes_list])
  have hz1 : f1.size ≤ s.size := by rw [← hf1, bytes_size]; exact hfm 1
  have Hc0 := hide (fun (w' : World) (h : RowsAt w' W.heap.size F) => (show w'.cell? ⟨W.heap.size, 0, none⟩ = some (.string f0) from by rw [← hf0]; exact h.cellD hne))
  have Hc1 := hide (fun (w' : World) (h : RowsAt w' W.heap.size F) (h2 : 1 < F.length) => (show w'.cell? ⟨W.heap.size, 1, none⟩ = some (.string f1) from by rw [← hf1]; exact h.cellD h2))
  rw [hF] at H1
  clear he hB hfm hf0 hf1 hF
  go_enter Tryz.func38, Tryz.ntmps38
  go_upto_region 2 with (go_at_call 33; refine H1.out.mono ?_; rintro e w1 ⟨nl, hnl, rfl, hl, ho1, hsz1⟩; have Hnl := hide hnl; have Hl1 := hide hl; have Ho1 := hide ho1; clear hnl hl ho1 hsz1)
  have HE1 := hide (HE0.out.no Ho1.out)
  have HO1 := hide (Ho1.out.mono (S' := fun x => x = b) (fun _ _ h => h.elim))
  have HB1 := hide (HB0.out.only Ho1.out (fun h => h))
  have c0 := Hc0.out w1 Hl1.out
  have hbW : b < W.heap.size := Blk.lt HB0.out
  obtain ⟨gl, hgl⟩ : ∃ gl, W.heap.size = gl := ⟨_, rfl⟩
  rw [hgl] at Hl1 Hc0 Hc1 c0 hbW ⊢
  have hnlb : nl ≤ s.size + 1 := by rw [Hnl.out]; exact hfl
  have Ho1k := hide Ho1.out
  clear HE0 HB0 Ho1 H1 hgl hfl hll
  have HPx := hide (Tryz.strings_HasPrefix s ⟨#[115, 116, 97, 114, 116, 32]⟩ w1)
  rw [show (⟨#[115, 116, 97, 114, 116, 32]⟩ : ByteArray).data.toList = [115, 116, 97, 114, 116, 32] from rfl, q0] at HPx
  have HOn := hide (show Only (fun _ => False) W w1 from Ho1k.out)
  have hn : nl < 2 := by rw [Hnl.out, ← HF.out]; exact qn
  have d3 : decide ((nl : Int) ≥ 3) = false := by simp; omega
  have d3n : decide (3 ≤ nl) = false := by simp; omega
  have d2 : ((nl : Int) == 2) = false := by simp; omega
  have d2n : (nl == 2) = false := by simp; omega
  have hn0 : 0 < nl := by rw [Hnl.out]; exact hne
  have i0 : (0 : Int) < (nl : Int) := by omega
  have x_piece : (f0.toList == [112, 105, 101, 99, 101]) = false := by rw [Go.ByteArray.toList_eq, Hf0.out, ← HF.out, qw]; rfl
  have x_lose : (f0.toList == [108, 111, 115, 101]) = true := by rw [Go.ByteArray.toList_eq, Hf0.out, ← HF.out, qw]; rfl
  have x_reach : (f0.toList == [114, 101, 97, 99, 104]) = false := by rw [Go.ByteArray.toList_eq, Hf0.out, ← HF.out, qw]; rfl
  have x_line : (f0.toList == [108, 105, 110, 101]) = false := by rw [Go.ByteArray.toList_eq, Hf0.out, ← HF.out, qw]; rfl
  have x_plies : (f0.toList == [112, 108, 105, 101, 115]) = false := by rw [Go.ByteArray.toList_eq, Hf0.out, ← HF.out, qw]; rfl
  clear hn hn0 qn qw
  have e_drops : (s.toList == [100, 114, 111, 112, 115]) = false := by rw [Go.ByteArray.toList_eq]; exact beq_eq_false_iff_ne.2 q_drops
  have e_stuck : (s.toList == [115, 116, 117, 99, 107]) = false := by rw [Go.ByteArray.toList_eq]; exact beq_eq_false_iff_ne.2 q_stuck
  clear q_drops q_stuck
  go_wp2_with (first | (go_at_call 79; refine HPx.out.mono ?_; rintro e w2 ⟨rfl, hw2⟩; rw [hw2]; clear hw2) | (go_at_call 40; refine (HBg.out _ _).mono ?_; rintro e w2 ⟨rfl, hw2⟩; rw [hw2]; clear hw2))
  go_ret
  exact ⟨rfl, HOn.out⟩
set_option maxHeartbeats 8000000 in
set_option maxRecDepth 100000 in
theorem dl_none_lose_long (b : Nat) (s : ByteArray) (w h t li pl : Int) (c h0 h1 : ByteArray) (sv : Value) (dr st : Bool) (lo re : Nat) (W : World) (hs : s.size < 4294967281) (he : Env W) (hB : Blk W b 27 #[.int .i64 w, .int .i64 h, .string c, .int .i64 t, .string h0, .string h1, sv, .bool dr, .int .u8 (lo : Int), .int .i64 li, .int .u8 (re : Int), .bool st, .int .i64 pl])  (q0 : Lib.hasPrefix s.data.toList [115, 116, 97, 114, 116, 32] = false) (qn : (splitL 32 s.data.toList).length = 2) (qw : (splitL 32 s.data.toList).getD 0 [] = wordR 3) (q_drops : s.data.toList ≠ [100, 114, 111, 112, 115]) (q_stuck : s.data.toList ≠ [115, 116, 117, 99, 107]) (qz : ((splitL 32 s.data.toList).getD 1 []).length ≠ 1) :
    Calls Tryz.prog 38 #[.pointer (some ⟨b, 0, none⟩), .string s] W fun e w' => e = .returned (.int .i64 (-1)) ∧ Only (fun _ => False) W w' := by
  have H1 := hide (split_any 32 s W hs he.m)
  have HB0 := hide hB
  have HE0 := hide he
  have hll : s.data.toList.length = s.size := by simp
  have HBg := hide (fun n w => big_any n w)
  obtain ⟨F, hF⟩ : ∃ F, splitL 32 s.data.toList = F := ⟨_, rfl⟩
  have HF := hide hF
  have hne : 0 < F.length := by rw [← hF]; exact List.length_pos_iff.2 (splitL_ne _ _)
  have hfl : F.length ≤ s.size + 1 := by
    have := splitL_count 32 s.data.toList
    rw [hF] at this
    omega
  have hfm : ∀ i, (F.getD i []).length ≤ s.size := fun i => by
    by_cases hi : i < F.length
    · have h1 : F.getD i [] ∈ F := getD_mem hi
      have h2 : (F.getD i []).length ≤ s.data.toList.length := splitL_mem (c := 32) (by rw [hF]; exact h1)
      omega
    · simp [List.getD, List.getElem?_eq_none (show F.length ≤ i by omega)]
  obtain ⟨f0, hf0⟩ : ∃ f0, bytes (F.getD 0 []) = f0 := ⟨_, rfl⟩
  obtain ⟨f1, hf1⟩ : ∃ f1, bytes (F.getD 1 []) = f1 := ⟨_, rfl⟩
  have Hf0 := hide (show f0.data.toList = F.getD 0 [] from by rw [← hf0, bytes_list])
  have Hf1 := hide (show f1.data.toList = F.getD 1 [] from by rw [← hf1, bytes_list])
  have hz1 : f1.size ≤ s.size := by rw [← hf1, bytes_size]; exact hfm 1
  have Hc0 := hide (fun (w' : World) (h : RowsAt w' W.heap.size F) => (show w'.cell? ⟨W.heap.size, 0, none⟩ = some (.string f0) from by rw [← hf0]; exact h.cellD hne))
  have Hc1 := hide (fun (w' : World) (h : RowsAt w' W.heap.size F) (h2 : 1 < F.length) => (show w'.cell? ⟨W.heap.size, 1, none⟩ = some (.string f1) from by rw [← hf1]; exact h.cellD h2))
  rw [hF] at H1
  clear he hB hfm hf0 hf1 hF
  go_enter Tryz.func38, Tryz.ntmps38
  go_upto_region 2 with (go_at_call 33; refine H1.out.mono ?_; rintro e w1 ⟨nl, hnl, rfl, hl, ho1, hsz1⟩; have Hnl := hide hnl; have Hl1 := hide hl; have Ho1 := hide ho1; clear hnl hl ho1 hsz1)
  have HE1 := hide (HE0.out.no Ho1.out)
  have HO1 := hide (Ho1.out.mono (S' := fun x => x = b) (fun _ _ h => h.elim))
  have HB1 := hide (HB0.out.only Ho1.out (fun h => h))
  have c0 := Hc0.out w1 Hl1.out
  have hbW : b < W.heap.size := Blk.lt HB0.out
  obtain ⟨gl, hgl⟩ : ∃ gl, W.heap.size = gl := ⟨_, rfl⟩
  rw [hgl] at Hl1 Hc0 Hc1 c0 hbW ⊢
  have hnlb : nl ≤ s.size + 1 := by rw [Hnl.out]; exact hfl
  have Ho1k := hide Ho1.out
  clear HE0 HB0 Ho1 H1 hgl hfl hll
  have HPx := hide (Tryz.strings_HasPrefix s ⟨#[115, 116, 97, 114, 116, 32]⟩ w1)
  rw [show (⟨#[115, 116, 97, 114, 116, 32]⟩ : ByteArray).data.toList = [115, 116, 97, 114, 116, 32] from rfl, q0] at HPx
  have HOn := hide (show Only (fun _ => False) W w1 from Ho1k.out)
  have hn : nl = 2 := by rw [Hnl.out, ← HF.out]; exact qn
  have d3 : decide ((nl : Int) ≥ 3) = false := by simp; omega
  have d3n : decide (3 ≤ nl) = false := by simp; omega
  have d2 : ((nl : Int) == 2) = true := by simp; omega
  have d2n : (nl == 2) = true := by simp; omega
  have hn0 : 0 < nl := by rw [Hnl.out]; exact hne
  have i0 : (0 : Int) < (nl : Int) := by omega
  have i1 : (1 : Int) < (nl : Int) := by omega
  have h2 : 1 < F.length := by rw [← Hnl.out]; omega
  have c1 := Hc1.out w1 Hl1.out h2
  have H2 := hide h2
  clear h2
  have x_piece : (f0.toList == [112, 105, 101, 99, 101]) = false := by rw [Go.ByteArray.toList_eq, Hf0.out, ← HF.out, qw]; rfl
  have x_lose : (f0.toList == [108, 111, 115, 101]) = true := by rw [Go.ByteArray.toList_eq, Hf0.out, ← HF.out, qw]; rfl
  have x_reach : (f0.toList == [114, 101, 97, 99, 104]) = false := by rw [Go.ByteArray.toList_eq, Hf0.out, ← HF.out, qw]; rfl
  have x_line : (f0.toList == [108, 105, 110, 101]) = false := by rw [Go.ByteArray.toList_eq, Hf0.out, ← HF.out, qw]; rfl
  have x_plies : (f0.toList == [112, 108, 105, 101, 115]) = false := by rw [Go.ByteArray.toList_eq, Hf0.out, ← HF.out, qw]; rfl
  clear hn hn0 qn qw
  have e_drops : (s.toList == [100, 114, 111, 112, 115]) = false := by rw [Go.ByteArray.toList_eq]; exact beq_eq_false_iff_ne.2 q_drops
  have e_stuck : (s.toList == [115, 116, 117, 99, 107]) = false := by rw [Go.ByteArray.toList_eq]; exact beq_eq_false_iff_ne.2 q_stuck
  clear q_drops q_stuck
  have hz : f1.size ≠ 1 := by
    have h5 : f1.data.toList.length = f1.size := by simp
    rw [← h5, Hf1.out, ← HF.out]; exact qz
  have z1 : ((f1.size : Int) == 1) = false := by rw [beq_eq_false_iff_ne]; omega
  have z1n : (f1.size == 1) = false := by rw [beq_eq_false_iff_ne]; exact hz
  clear hz qz
  go_wp2_with (first | (go_at_call 79; refine HPx.out.mono ?_; rintro e w2 ⟨rfl, hw2⟩; rw [hw2]; clear hw2) | (go_at_call 40; refine (HBg.out _ _).mono ?_; rintro e w2 ⟨rfl, hw2⟩; rw [hw2]; clear hw2))
  go_ret
  exact ⟨rfl, HOn.out⟩
set_option maxHeartbeats 8000000 in
set_option maxRecDepth 100000 in
theorem dl_none_lose_up (b : Nat) (s : ByteArray) (w h t li pl : Int) (c h0 h1 : ByteArray) (sv : Value) (dr st : Bool) (lo re : Nat) (W : World) (hs : s.size < 4294967281) (he : Env W) (hB : Blk W b 27 #[.int .i64 w, .int .i64 h, .string c, .int .i64 t, .string h0, .string h1, sv, .bool dr, .int .u8 (lo : Int), .int .i64 li, .int .u8 (re : Int), .bool st, .int .i64 pl])  (q0 : Lib.hasPrefix s.data.toList [115, 116, 97, 114, 116, 32] = false) (qn : (splitL 32 s.data.toList).length = 2) (qw : (splitL 32 s.data.toList).getD 0 [] = wordR 3) (q_drops : s.data.toList ≠ [100, 114, 111, 112, 115]) (q_stuck : s.data.toList ≠ [115, 116, 117, 99, 107]) (ch : UInt8) (q1 : (splitL 32 s.data.toList).getD 1 [] = [ch]) (qu : upB ch.toNat = false) :
    Calls Tryz.prog 38 #[.pointer (some ⟨b, 0, none⟩), .string s] W fun e w' => e = .returned (.int .i64 (-1)) ∧ Only (fun _ => False) W w' := by
  have H1 := hide (split_any 32 s W hs he.m)
  have HB0 := hide hB
  have HE0 := hide he
  have hll : s.data.toList.length = s.size := by simp
  have HBg := hide (fun n w => big_any n w)
  obtain ⟨F, hF⟩ : ∃ F, splitL 32 s.data.toList = F := ⟨_, rfl⟩
  have HF := hide hF
  have hne : 0 < F.length := by rw [← hF]; exact List.length_pos_iff.2 (splitL_ne _ _)
  have hfl : F.length ≤ s.size + 1 := by
    have := splitL_count 32 s.data.toList
    rw [hF] at this
    omega
  have hfm : ∀ i, (F.getD i []).length ≤ s.size := fun i => by
    by_cases hi : i < F.length
    · have h1 : F.getD i [] ∈ F := getD_mem hi
      have h2 : (F.getD i []).length ≤ s.data.toList.length := splitL_mem (c := 32) (by rw [hF]; exact h1)
      omega
    · simp [List.getD, List.getElem?_eq_none (show F.length ≤ i by omega)]
  obtain ⟨f0, hf0⟩ : ∃ f0, bytes (F.getD 0 []) = f0 := ⟨_, rfl⟩
  obtain ⟨f1, hf1⟩ : ∃ f1, bytes (F.getD 1 []) = f1 := ⟨_, rfl⟩
  have Hf0 := hide (show f0.data.toList = F.getD 0 [] from by rw [← hf0, bytes_list])
  have Hf1 := hide (show f1.data.toList = F.getD 1 [] from by rw [← hf1, bytes_list])
  have hz1 : f1.size ≤ s.size := by rw [← hf1, bytes_size]; exact hfm 1
  have Hc0 := hide (fun (w' : World) (h : RowsAt w' W.heap.size F) => (show w'.cell? ⟨W.heap.size, 0, none⟩ = some (.string f0) from by rw [← hf0]; exact h.cellD hne))
  have Hc1 := hide (fun (w' : World) (h : RowsAt w' W.heap.size F) (h2 : 1 < F.length) => (show w'.cell? ⟨W.heap.size, 1, none⟩ = some (.string f1) from by rw [← hf1]; exact h.cellD h2))
  rw [hF] at H1
  clear he hB hfm hf0 hf1 hF
  go_enter Tryz.func38, Tryz.ntmps38
  go_upto_region 2 with (go_at_call 33; refine H1.out.mono ?_; rintro e w1 ⟨nl, hnl, rfl, hl, ho1, hsz1⟩; have Hnl := hide hnl; have Hl1 := hide hl; have Ho1 := hide ho1; clear hnl hl ho1 hsz1)
  have HE1 := hide (HE0.out.no Ho1.out)
  have HO1 := hide (Ho1.out.mono (S' := fun x => x = b) (fun _ _ h => h.elim))
  have HB1 := hide (HB0.out.only Ho1.out (fun h => h))
  have c0 := Hc0.out w1 Hl1.out
  have hbW : b < W.heap.size := Blk.lt HB0.out
  obtain ⟨gl, hgl⟩ : ∃ gl, W.heap.size = gl := ⟨_, rfl⟩
  rw [hgl] at Hl1 Hc0 Hc1 c0 hbW ⊢
  have hnlb : nl ≤ s.size + 1 := by rw [Hnl.out]; exact hfl
  have Ho1k := hide Ho1.out
  clear HE0 HB0 Ho1 H1 hgl hfl hll
  have HPx := hide (Tryz.strings_HasPrefix s ⟨#[115, 116, 97, 114, 116, 32]⟩ w1)
  rw [show (⟨#[115, 116, 97, 114, 116, 32]⟩ : ByteArray).data.toList = [115, 116, 97, 114, 116, 32] from rfl, q0] at HPx
  have HOn := hide (show Only (fun _ => False) W w1 from Ho1k.out)
  have hn : nl = 2 := by rw [Hnl.out, ← HF.out]; exact qn
  have d3 : decide ((nl : Int) ≥ 3) = false := by simp; omega
  have d3n : decide (3 ≤ nl) = false := by simp; omega
  have d2 : ((nl : Int) == 2) = true := by simp; omega
  have d2n : (nl == 2) = true := by simp; omega
  have hn0 : 0 < nl := by rw [Hnl.out]; exact hne
  have i0 : (0 : Int) < (nl : Int) := by omega
  have i1 : (1 : Int) < (nl : Int) := by omega
  have h2 : 1 < F.length := by rw [← Hnl.out]; omega
  have c1 := Hc1.out w1 Hl1.out h2
  have H2 := hide h2
  clear h2
  have x_piece : (f0.toList == [112, 105, 101, 99, 101]) = false := by rw [Go.ByteArray.toList_eq, Hf0.out, ← HF.out, qw]; rfl
  have x_lose : (f0.toList == [108, 111, 115, 101]) = true := by rw [Go.ByteArray.toList_eq, Hf0.out, ← HF.out, qw]; rfl
  have x_reach : (f0.toList == [114, 101, 97, 99, 104]) = false := by rw [Go.ByteArray.toList_eq, Hf0.out, ← HF.out, qw]; rfl
  have x_line : (f0.toList == [108, 105, 110, 101]) = false := by rw [Go.ByteArray.toList_eq, Hf0.out, ← HF.out, qw]; rfl
  have x_plies : (f0.toList == [112, 108, 105, 101, 115]) = false := by rw [Go.ByteArray.toList_eq, Hf0.out, ← HF.out, qw]; rfl
  clear hn hn0 qn qw
  have e_drops : (s.toList == [100, 114, 111, 112, 115]) = false := by rw [Go.ByteArray.toList_eq]; exact beq_eq_false_iff_ne.2 q_drops
  have e_stuck : (s.toList == [115, 116, 117, 99, 107]) = false := by rw [Go.ByteArray.toList_eq]; exact beq_eq_false_iff_ne.2 q_stuck
  clear q_drops q_stuck
  have hz : f1.size = 1 := by
    have h5 : f1.data.toList.length = f1.size := by simp
    rw [← h5, Hf1.out, ← HF.out, q1]; rfl
  have j0 : (0 : Int) < (f1.size : Int) := by omega
  have j0n : 0 < f1.size := by omega
  have z1 : ((f1.size : Int) == 1) = true := by rw [hz]; rfl
  have z1n : (f1.size == 1) = true := by rw [hz]; rfl
  have hch : f1[0].toNat = ch.toNat := by rw [head_at j0n, Hf1.out, ← HF.out, q1]; rfl
  clear hz q1
  have hup : upB ch.toNat = false := qu
  go_wp2_with (first | (go_at_call 79; refine HPx.out.mono ?_; rintro e w2 ⟨rfl, hw2⟩; rw [hw2]; clear hw2) | (go_at_call 40; refine (HBg.out _ _).mono ?_; rintro e w2 ⟨rfl, hw2⟩; rw [hw2]; clear hw2))
  go_ret
  exact ⟨rfl, HOn.out⟩
set_option maxHeartbeats 8000000 in
set_option maxRecDepth 100000 in
theorem dl_none_reach3 (b : Nat) (s : ByteArray) (w h t li pl : Int) (c h0 h1 : ByteArray) (sv : Value) (dr st : Bool) (lo re : Nat) (W : World) (hs : s.size < 4294967281) (he : Env W) (hB : Blk W b 27 #[.int .i64 w, .int .i64 h, .string c, .int .i64 t, .string h0, .string h1, sv, .bool dr, .int .u8 (lo : Int), .int .i64 li, .int .u8 (re : Int), .bool st, .int .i64 pl])  (q0 : Lib.hasPrefix s.data.toList [115, 116, 97, 114, 116, 32] = false) (qn : 3 ≤ (splitL 32 s.data.toList).length) (qw : (splitL 32 s.data.toList).getD 0 [] = wordR 5) (q_drops : s.data.toList ≠ [100, 114, 111, 112, 115]) (q_stuck : s.data.toList ≠ [115, 116, 117, 99, 107]) :
    Calls Tryz.prog 38 #[.pointer (some ⟨b, 0, none⟩), .string s] W fun e w' => e = .returned (.int .i64 (-1)) ∧ Only (fun _ => False) W w' := by
  have H1 := hide (split_any 32 s W hs he.m)
  have HB0 := hide hB
  have HE0 := hide he
  have hll : s.data.toList.length = s.size := by simp
  have HBg := hide (fun n w => big_any n w)
  obtain ⟨F, hF⟩ : ∃ F, splitL 32 s.data.toList = F := ⟨_, rfl⟩
  have HF := hide hF
  have hne : 0 < F.length := by rw [← hF]; exact List.length_pos_iff.2 (splitL_ne _ _)
  have hfl : F.length ≤ s.size + 1 := by
    have := splitL_count 32 s.data.toList
    rw [hF] at this
    omega
  have hfm : ∀ i, (F.getD i []).length ≤ s.size := fun i => by
    by_cases hi : i < F.length
    · have h1 : F.getD i [] ∈ F := getD_mem hi
      have h2 : (F.getD i []).length ≤ s.data.toList.length := splitL_mem (c := 32) (by rw [hF]; exact h1)
      omega
    · simp [List.getD, List.getElem?_eq_none (show F.length ≤ i by omega)]
  obtain ⟨f0, hf0⟩ : ∃ f0, bytes (F.getD 0 []) = f0 := ⟨_, rfl⟩
  obtain ⟨f1, hf1⟩ : ∃ f1, bytes (F.getD 1 []) = f1 := ⟨_, rfl⟩
  have Hf0 := hide (show f0.data.toList = F.getD 0 [] from by rw [← hf0, bytes_list])
  have Hf1 := hide (show f1.data.toList = F.getD 1 [] from by rw [← hf1, bytes_list])
  have hz1 : f1.size ≤ s.size := by rw [← hf1, bytes_size]; exact hfm 1
  have Hc0 := hide (fun (w' : World) (h : RowsAt w' W.heap.size F) => (show w'.cell? ⟨W.heap.size, 0, none⟩ = some (.string f0) from by rw [← hf0]; exact h.cellD hne))
  have Hc1 := hide (fun (w' : World) (h : RowsAt w' W.heap.size F) (h2 : 1 < F.length) => (show w'.cell? ⟨W.heap.size, 1, none⟩ = some (.string f1) from by rw [← hf1]; exact h.cellD h2))
  rw [hF] at H1
  clear he hB hfm hf0 hf1 hF
  go_enter Tryz.func38, Tryz.ntmps38
  go_upto_region 2 with (go_at_call 33; refine H1.out.mono ?_; rintro e w1 ⟨nl, hnl, rfl, hl, ho1, hsz1⟩; have Hnl := hide hnl; have Hl1 := hide hl; have Ho1 := hide ho1; clear hnl hl ho1 hsz1)
  have HE1 := hide (HE0.out.no Ho1.out)
  have HO1 := hide (Ho1.out.mono (S' := fun x => x = b) (fun _ _ h => h.elim))
  have HB1 := hide (HB0.out.only Ho1.out (fun h => h))
  have c0 := Hc0.out w1 Hl1.out
  have hbW : b < W.heap.size := Blk.lt HB0.out
  obtain ⟨gl, hgl⟩ : ∃ gl, W.heap.size = gl := ⟨_, rfl⟩
  rw [hgl] at Hl1 Hc0 Hc1 c0 hbW ⊢
  have hnlb : nl ≤ s.size + 1 := by rw [Hnl.out]; exact hfl
  have Ho1k := hide Ho1.out
  clear HE0 HB0 Ho1 H1 hgl hfl hll
  have HPx := hide (Tryz.strings_HasPrefix s ⟨#[115, 116, 97, 114, 116, 32]⟩ w1)
  rw [show (⟨#[115, 116, 97, 114, 116, 32]⟩ : ByteArray).data.toList = [115, 116, 97, 114, 116, 32] from rfl, q0] at HPx
  have HOn := hide (show Only (fun _ => False) W w1 from Ho1k.out)
  have hn : 3 ≤ nl := by rw [Hnl.out, ← HF.out]; exact qn
  have d3 : decide ((nl : Int) ≥ 3) = true := by simp; omega
  have d3n : decide (3 ≤ nl) = true := by simp; omega
  have d2 : ((nl : Int) == 2) = false := by simp; omega
  have d2n : (nl == 2) = false := by simp; omega
  have hn0 : 0 < nl := by rw [Hnl.out]; exact hne
  have i0 : (0 : Int) < (nl : Int) := by omega
  have i1 : (1 : Int) < (nl : Int) := by omega
  have h2 : 1 < F.length := by rw [← Hnl.out]; omega
  have c1 := Hc1.out w1 Hl1.out h2
  have H2 := hide h2
  clear h2
  have x_piece : (f0.toList == [112, 105, 101, 99, 101]) = false := by rw [Go.ByteArray.toList_eq, Hf0.out, ← HF.out, qw]; rfl
  have x_lose : (f0.toList == [108, 111, 115, 101]) = false := by rw [Go.ByteArray.toList_eq, Hf0.out, ← HF.out, qw]; rfl
  have x_reach : (f0.toList == [114, 101, 97, 99, 104]) = true := by rw [Go.ByteArray.toList_eq, Hf0.out, ← HF.out, qw]; rfl
  have x_line : (f0.toList == [108, 105, 110, 101]) = false := by rw [Go.ByteArray.toList_eq, Hf0.out, ← HF.out, qw]; rfl
  have x_plies : (f0.toList == [112, 108, 105, 101, 115]) = false := by rw [Go.ByteArray.toList_eq, Hf0.out, ← HF.out, qw]; rfl
  clear hn hn0 qn qw
  have e_drops : (s.toList == [100, 114, 111, 112, 115]) = false := by rw [Go.ByteArray.toList_eq]; exact beq_eq_false_iff_ne.2 q_drops
  have e_stuck : (s.toList == [115, 116, 117, 99, 107]) = false := by rw [Go.ByteArray.toList_eq]; exact beq_eq_false_iff_ne.2 q_stuck
  clear q_drops q_stuck
  go_wp2_with (first | (go_at_call 79; refine HPx.out.mono ?_; rintro e w2 ⟨rfl, hw2⟩; rw [hw2]; clear hw2) | (go_at_call 40; refine (HBg.out _ _).mono ?_; rintro e w2 ⟨rfl, hw2⟩; rw [hw2]; clear hw2))
  go_ret
  exact ⟨rfl, HOn.out⟩
set_option maxHeartbeats 8000000 in
set_option maxRecDepth 100000 in
theorem dl_none_reach1 (b : Nat) (s : ByteArray) (w h t li pl : Int) (c h0 h1 : ByteArray) (sv : Value) (dr st : Bool) (lo re : Nat) (W : World) (hs : s.size < 4294967281) (he : Env W) (hB : Blk W b 27 #[.int .i64 w, .int .i64 h, .string c, .int .i64 t, .string h0, .string h1, sv, .bool dr, .int .u8 (lo : Int), .int .i64 li, .int .u8 (re : Int), .bool st, .int .i64 pl])  (q0 : Lib.hasPrefix s.data.toList [115, 116, 97, 114, 116, 32] = false) (qn : (splitL 32 s.data.toList).length < 2) (qw : (splitL 32 s.data.toList).getD 0 [] = wordR 5) (q_drops : s.data.toList ≠ [100, 114, 111, 112, 115]) (q_stuck : s.data.toList ≠ [115, 116, 117, 99, 107]) :
    Calls Tryz.prog 38 #[.pointer (some ⟨b, 0, none⟩), .string s] W fun e w' => e = .returned (.int .i64 (-1)) ∧ Only (fun _ => False) W w' := by
  have H1 := hide (split_any 32 s W hs he.m)
  have HB0 := hide hB
  have HE0 := hide he
  have hll : s.data.toList.length = s.size := by simp
  have HBg := hide (fun n w => big_any n w)
  obtain ⟨F, hF⟩ : ∃ F, splitL 32 s.data.toList = F := ⟨_, rfl⟩
  have HF := hide hF
  have hne : 0 < F.length := by rw [← hF]; exact List.length_pos_iff.2 (splitL_ne _ _)
  have hfl : F.length ≤ s.size + 1 := by
    have := splitL_count 32 s.data.toList
    rw [hF] at this
    omega
  have hfm : ∀ i, (F.getD i []).length ≤ s.size := fun i => by
    by_cases hi : i < F.length
    · have h1 : F.getD i [] ∈ F := getD_mem hi
      have h2 : (F.getD i []).length ≤ s.data.toList.length := splitL_mem (c := 32) (by rw [hF]; exact h1)
      omega
    · simp [List.getD, List.getElem?_eq_none (show F.length ≤ i by omega)]
  obtain ⟨f0, hf0⟩ : ∃ f0, bytes (F.getD 0 []) = f0 := ⟨_, rfl⟩
  obtain ⟨f1, hf1⟩ : ∃ f1, bytes (F.getD 1 []) = f1 := ⟨_, rfl⟩
  have Hf0 := hide (show f0.data.toList = F.getD 0 [] from by rw [← hf0, bytes_list])
  have Hf1 := hide (show f1.data.toList = F.getD 1 [] from by rw [← hf1, bytes_list])
  have hz1 : f1.size ≤ s.size := by rw [← hf1, bytes_size]; exact hfm 1
  have Hc0 := hide (fun (w' : World) (h : RowsAt w' W.heap.size F) => (show w'.cell? ⟨W.heap.size, 0, none⟩ = some (.string f0) from by rw [← hf0]; exact h.cellD hne))
  have Hc1 := hide (fun (w' : World) (h : RowsAt w' W.heap.size F) (h2 : 1 < F.length) => (show w'.cell? ⟨W.heap.size, 1, none⟩ = some (.string f1) from by rw [← hf1]; exact h.cellD h2))
  rw [hF] at H1
  clear he hB hfm hf0 hf1 hF
  go_enter Tryz.func38, Tryz.ntmps38
  go_upto_region 2 with (go_at_call 33; refine H1.out.mono ?_; rintro e w1 ⟨nl, hnl, rfl, hl, ho1, hsz1⟩; have Hnl := hide hnl; have Hl1 := hide hl; have Ho1 := hide ho1; clear hnl hl ho1 hsz1)
  have HE1 := hide (HE0.out.no Ho1.out)
  have HO1 := hide (Ho1.out.mono (S' := fun x => x = b) (fun _ _ h => h.elim))
  have HB1 := hide (HB0.out.only Ho1.out (fun h => h))
  have c0 := Hc0.out w1 Hl1.out
  have hbW : b < W.heap.size := Blk.lt HB0.out
  obtain ⟨gl, hgl⟩ : ∃ gl, W.heap.size = gl := ⟨_, rfl⟩
  rw [hgl] at Hl1 Hc0 Hc1 c0 hbW ⊢
  have hnlb : nl ≤ s.size + 1 := by rw [Hnl.out]; exact hfl
  have Ho1k := hide Ho1.out
  clear HE0 HB0 Ho1 H1 hgl hfl hll
  have HPx := hide (Tryz.strings_HasPrefix s ⟨#[115, 116, 97, 114, 116, 32]⟩ w1)
  rw [show (⟨#[115, 116, 97, 114, 116, 32]⟩ : ByteArray).data.toList = [115, 116, 97, 114, 116, 32] from rfl, q0] at HPx
  have HOn := hide (show Only (fun _ => False) W w1 from Ho1k.out)
  have hn : nl < 2 := by rw [Hnl.out, ← HF.out]; exact qn
  have d3 : decide ((nl : Int) ≥ 3) = false := by simp; omega
  have d3n : decide (3 ≤ nl) = false := by simp; omega
  have d2 : ((nl : Int) == 2) = false := by simp; omega
  have d2n : (nl == 2) = false := by simp; omega
  have hn0 : 0 < nl := by rw [Hnl.out]; exact hne
  have i0 : (0 : Int) < (nl : Int) := by omega
  have x_piece : (f0.toList == [112, 105, 101, 99, 101]) = false := by rw [Go.ByteArray.toList_eq, Hf0.out, ← HF.out, qw]; rfl
  have x_lose : (f0.toList == [108, 111, 115, 101]) = false := by rw [Go.ByteArray.toList_eq, Hf0.out, ← HF.out, qw]; rfl
  have x_reach : (f0.toList == [114, 101, 97, 99, 104]) = true := by rw [Go.ByteArray.toList_eq, Hf0.out, ← HF.out, qw]; rfl
  have x_line : (f0.toList == [108, 105, 110, 101]) = false := by rw [Go.ByteArray.toList_eq, Hf0.out, ← HF.out, qw]; rfl
  have x_plies : (f0.toList == [112, 108, 105, 101, 115]) = false := by rw [Go.ByteArray.toList_eq, Hf0.out, ← HF.out, qw]; rfl
  clear hn hn0 qn qw
  have e_drops : (s.toList == [100, 114, 111, 112, 115]) = false := by rw [Go.ByteArray.toList_eq]; exact beq_eq_false_iff_ne.2 q_drops
  have e_stuck : (s.toList == [115, 116, 117, 99, 107]) = false := by rw [Go.ByteArray.toList_eq]; exact beq_eq_false_iff_ne.2 q_stuck
  clear q_drops q_stuck
  go_wp2_with (first | (go_at_call 79; refine HPx.out.mono ?_; rintro e w2 ⟨rfl, hw2⟩; rw [hw2]; clear hw2) | (go_at_call 40; refine (HBg.out _ _).mono ?_; rintro e w2 ⟨rfl, hw2⟩; rw [hw2]; clear hw2))
  go_ret
  exact ⟨rfl, HOn.out⟩
set_option maxHeartbeats 8000000 in
set_option maxRecDepth 100000 in
theorem dl_none_reach_long (b : Nat) (s : ByteArray) (w h t li pl : Int) (c h0 h1 : ByteArray) (sv : Value) (dr st : Bool) (lo re : Nat) (W : World) (hs : s.size < 4294967281) (he : Env W) (hB : Blk W b 27 #[.int .i64 w, .int .i64 h, .string c, .int .i64 t, .string h0, .string h1, sv, .bool dr, .int .u8 (lo : Int), .int .i64 li, .int .u8 (re : Int), .bool st, .int .i64 pl])  (q0 : Lib.hasPrefix s.data.toList [115, 116, 97, 114, 116, 32] = false) (qn : (splitL 32 s.data.toList).length = 2) (qw : (splitL 32 s.data.toList).getD 0 [] = wordR 5) (q_drops : s.data.toList ≠ [100, 114, 111, 112, 115]) (q_stuck : s.data.toList ≠ [115, 116, 117, 99, 107]) (qz : ((splitL 32 s.data.toList).getD 1 []).length ≠ 1) :
    Calls Tryz.prog 38 #[.pointer (some ⟨b, 0, none⟩), .string s] W fun e w' => e = .returned (.int .i64 (-1)) ∧ Only (fun _ => False) W w' := by
  have H1 := hide (split_any 32 s W hs he.m)
  have HB0 := hide hB
  have HE0 := hide he
  have hll : s.data.toList.length = s.size := by simp
  have HBg := hide (fun n w => big_any n w)
  obtain ⟨F, hF⟩ : ∃ F, splitL 32 s.data.toList = F := ⟨_, rfl⟩
  have HF := hide hF
  have hne : 0 < F.length := by rw [← hF]; exact List.length_pos_iff.2 (splitL_ne _ _)
  have hfl : F.length ≤ s.size + 1 := by
    have := splitL_count 32 s.data.toList
    rw [hF] at this
    omega
  have hfm : ∀ i, (F.getD i []).length ≤ s.size := fun i => by
    by_cases hi : i < F.length
    · have h1 : F.getD i [] ∈ F := getD_mem hi
      have h2 : (F.getD i []).length ≤ s.data.toList.length := splitL_mem (c := 32) (by rw [hF]; exact h1)
      omega
    · simp [List.getD, List.getElem?_eq_none (show F.length ≤ i by omega)]
  obtain ⟨f0, hf0⟩ : ∃ f0, bytes (F.getD 0 []) = f0 := ⟨_, rfl⟩
  obtain ⟨f1, hf1⟩ : ∃ f1, bytes (F.getD 1 []) = f1 := ⟨_, rfl⟩
  have Hf0 := hide (show f0.data.toList = F.getD 0 [] from by rw [← hf0, bytes_list])
  have Hf1 := hide (show f1.data.toList = F.getD 1 [] from by rw [← hf1, bytes_list])
  have hz1 : f1.size ≤ s.size := by rw [← hf1, bytes_size]; exact hfm 1
  have Hc0 := hide (fun (w' : World) (h : RowsAt w' W.heap.size F) => (show w'.cell? ⟨W.heap.size, 0, none⟩ = some (.string f0) from by rw [← hf0]; exact h.cellD hne))
  have Hc1 := hide (fun (w' : World) (h : RowsAt w' W.heap.size F) (h2 : 1 < F.length) => (show w'.cell? ⟨W.heap.size, 1, none⟩ = some (.string f1) from by rw [← hf1]; exact h.cellD h2))
  rw [hF] at H1
  clear he hB hfm hf0 hf1 hF
  go_enter Tryz.func38, Tryz.ntmps38
  go_upto_region 2 with (go_at_call 33; refine H1.out.mono ?_; rintro e w1 ⟨nl, hnl, rfl, hl, ho1, hsz1⟩; have Hnl := hide hnl; have Hl1 := hide hl; have Ho1 := hide ho1; clear hnl hl ho1 hsz1)
  have HE1 := hide (HE0.out.no Ho1.out)
  have HO1 := hide (Ho1.out.mono (S' := fun x => x = b) (fun _ _ h => h.elim))
  have HB1 := hide (HB0.out.only Ho1.out (fun h => h))
  have c0 := Hc0.out w1 Hl1.out
  have hbW : b < W.heap.size := Blk.lt HB0.out
  obtain ⟨gl, hgl⟩ : ∃ gl, W.heap.size = gl := ⟨_, rfl⟩
  rw [hgl] at Hl1 Hc0 Hc1 c0 hbW ⊢
  have hnlb : nl ≤ s.size + 1 := by rw [Hnl.out]; exact hfl
  have Ho1k := hide Ho1.out
  clear HE0 HB0 Ho1 H1 hgl hfl hll
  have HPx := hide (Tryz.strings_HasPrefix s ⟨#[115, 116, 97, 114, 116, 32]⟩ w1)
  rw [show (⟨#[115, 116, 97, 114, 116, 32]⟩ : ByteArray).data.toList = [115, 116, 97, 114, 116, 32] from rfl, q0] at HPx
  have HOn := hide (show Only (fun _ => False) W w1 from Ho1k.out)
  have hn : nl = 2 := by rw [Hnl.out, ← HF.out]; exact qn
  have d3 : decide ((nl : Int) ≥ 3) = false := by simp; omega
  have d3n : decide (3 ≤ nl) = false := by simp; omega
  have d2 : ((nl : Int) == 2) = true := by simp; omega
  have d2n : (nl == 2) = true := by simp; omega
  have hn0 : 0 < nl := by rw [Hnl.out]; exact hne
  have i0 : (0 : Int) < (nl : Int) := by omega
  have i1 : (1 : Int) < (nl : Int) := by omega
  have h2 : 1 < F.length := by rw [← Hnl.out]; omega
  have c1 := Hc1.out w1 Hl1.out h2
  have H2 := hide h2
  clear h2
  have x_piece : (f0.toList == [112, 105, 101, 99, 101]) = false := by rw [Go.ByteArray.toList_eq, Hf0.out, ← HF.out, qw]; rfl
  have x_lose : (f0.toList == [108, 111, 115, 101]) = false := by rw [Go.ByteArray.toList_eq, Hf0.out, ← HF.out, qw]; rfl
  have x_reach : (f0.toList == [114, 101, 97, 99, 104]) = true := by rw [Go.ByteArray.toList_eq, Hf0.out, ← HF.out, qw]; rfl
  have x_line : (f0.toList == [108, 105, 110, 101]) = false := by rw [Go.ByteArray.toList_eq, Hf0.out, ← HF.out, qw]; rfl
  have x_plies : (f0.toList == [112, 108, 105, 101, 115]) = false := by rw [Go.ByteArray.toList_eq, Hf0.out, ← HF.out, qw]; rfl
  clear hn hn0 qn qw
  have e_drops : (s.toList == [100, 114, 111, 112, 115]) = false := by rw [Go.ByteArray.toList_eq]; exact beq_eq_false_iff_ne.2 q_drops
  have e_stuck : (s.toList == [115, 116, 117, 99, 107]) = false := by rw [Go.ByteArray.toList_eq]; exact beq_eq_false_iff_ne.2 q_stuck
  clear q_drops q_stuck
  have hz : f1.size ≠ 1 := by
    have h5 : f1.data.toList.length = f1.size := by simp
    rw [← h5, Hf1.out, ← HF.out]; exact qz
  have z1 : ((f1.size : Int) == 1) = false := by rw [beq_eq_false_iff_ne]; omega
  have z1n : (f1.size == 1) = false := by rw [beq_eq_false_iff_ne]; exact hz
  clear hz qz
  go_wp2_with (first | (go_at_call 79; refine HPx.out.mono ?_; rintro e w2 ⟨rfl, hw2⟩; rw [hw2]; clear hw2) | (go_at_call 40; refine (HBg.out _ _).mono ?_; rintro e w2 ⟨rfl, hw2⟩; rw [hw2]; clear hw2))
  go_ret
  exact ⟨rfl, HOn.out⟩
set_option maxHeartbeats 8000000 in
set_option maxRecDepth 100000 in
theorem dl_none_reach_up (b : Nat) (s : ByteArray) (w h t li pl : Int) (c h0 h1 : ByteArray) (sv : Value) (dr st : Bool) (lo re : Nat) (W : World) (hs : s.size < 4294967281) (he : Env W) (hB : Blk W b 27 #[.int .i64 w, .int .i64 h, .string c, .int .i64 t, .string h0, .string h1, sv, .bool dr, .int .u8 (lo : Int), .int .i64 li, .int .u8 (re : Int), .bool st, .int .i64 pl])  (q0 : Lib.hasPrefix s.data.toList [115, 116, 97, 114, 116, 32] = false) (qn : (splitL 32 s.data.toList).length = 2) (qw : (splitL 32 s.data.toList).getD 0 [] = wordR 5) (q_drops : s.data.toList ≠ [100, 114, 111, 112, 115]) (q_stuck : s.data.toList ≠ [115, 116, 117, 99, 107]) (ch : UInt8) (q1 : (splitL 32 s.data.toList).getD 1 [] = [ch]) (qu : upB ch.toNat = false) :
    Calls Tryz.prog 38 #[.pointer (some ⟨b, 0, none⟩), .string s] W fun e w' => e = .returned (.int .i64 (-1)) ∧ Only (fun _ => False) W w' := by
  have H1 := hide (split_any 32 s W hs he.m)
  have HB0 := hide hB
  have HE0 := hide he
  have hll : s.data.toList.length = s.size := by simp
  have HBg := hide (fun n w => big_any n w)
  obtain ⟨F, hF⟩ : ∃ F, splitL 32 s.data.toList = F := ⟨_, rfl⟩
  have HF := hide hF
  have hne : 0 < F.length := by rw [← hF]; exact List.length_pos_iff.2 (splitL_ne _ _)
  have hfl : F.length ≤ s.size + 1 := by
    have := splitL_count 32 s.data.toList
    rw [hF] at this
    omega
  have hfm : ∀ i, (F.getD i []).length ≤ s.size := fun i => by
    by_cases hi : i < F.length
    · have h1 : F.getD i [] ∈ F := getD_mem hi
      have h2 : (F.getD i []).length ≤ s.data.toList.length := splitL_mem (c := 32) (by rw [hF]; exact h1)
      omega
    · simp [List.getD, List.getElem?_eq_none (show F.length ≤ i by omega)]
  obtain ⟨f0, hf0⟩ : ∃ f0, bytes (F.getD 0 []) = f0 := ⟨_, rfl⟩
  obtain ⟨f1, hf1⟩ : ∃ f1, bytes (F.getD 1 []) = f1 := ⟨_, rfl⟩
  have Hf0 := hide (show f0.data.toList = F.getD 0 [] from by rw [← hf0, bytes_list])
  have Hf1 := hide (show f1.data.toList = F.getD 1 [] from by rw [← hf1, bytes_list])
  have hz1 : f1.size ≤ s.size := by rw [← hf1, bytes_size]; exact hfm 1
  have Hc0 := hide (fun (w' : World) (h : RowsAt w' W.heap.size F) => (show w'.cell? ⟨W.heap.size, 0, none⟩ = some (.string f0) from by rw [← hf0]; exact h.cellD hne))
  have Hc1 := hide (fun (w' : World) (h : RowsAt w' W.heap.size F) (h2 : 1 < F.length) => (show w'.cell? ⟨W.heap.size, 1, none⟩ = some (.string f1) from by rw [← hf1]; exact h.cellD h2))
  rw [hF] at H1
  clear he hB hfm hf0 hf1 hF
  go_enter Tryz.func38, Tryz.ntmps38
  go_upto_region 2 with (go_at_call 33; refine H1.out.mono ?_; rintro e w1 ⟨nl, hnl, rfl, hl, ho1, hsz1⟩; have Hnl := hide hnl; have Hl1 := hide hl; have Ho1 := hide ho1; clear hnl hl ho1 hsz1)
  have HE1 := hide (HE0.out.no Ho1.out)
  have HO1 := hide (Ho1.out.mono (S' := fun x => x = b) (fun _ _ h => h.elim))
  have HB1 := hide (HB0.out.only Ho1.out (fun h => h))
  have c0 := Hc0.out w1 Hl1.out
  have hbW : b < W.heap.size := Blk.lt HB0.out
  obtain ⟨gl, hgl⟩ : ∃ gl, W.heap.size = gl := ⟨_, rfl⟩
  rw [hgl] at Hl1 Hc0 Hc1 c0 hbW ⊢
  have hnlb : nl ≤ s.size + 1 := by rw [Hnl.out]; exact hfl
  have Ho1k := hide Ho1.out
  clear HE0 HB0 Ho1 H1 hgl hfl hll
  have HPx := hide (Tryz.strings_HasPrefix s ⟨#[115, 116, 97, 114, 116, 32]⟩ w1)
  rw [show (⟨#[115, 116, 97, 114, 116, 32]⟩ : ByteArray).data.toList = [115, 116, 97, 114, 116, 32] from rfl, q0] at HPx
  have HOn := hide (show Only (fun _ => False) W w1 from Ho1k.out)
  have hn : nl = 2 := by rw [Hnl.out, ← HF.out]; exact qn
  have d3 : decide ((nl : Int) ≥ 3) = false := by simp; omega
  have d3n : decide (3 ≤ nl) = false := by simp; omega
  have d2 : ((nl : Int) == 2) = true := by simp; omega
  have d2n : (nl == 2) = true := by simp; omega
  have hn0 : 0 < nl := by rw [Hnl.out]; exact hne
  have i0 : (0 : Int) < (nl : Int) := by omega
  have i1 : (1 : Int) < (nl : Int) := by omega
  have h2 : 1 < F.length := by rw [← Hnl.out]; omega
  have c1 := Hc1.out w1 Hl1.out h2
  have H2 := hide h2
  clear h2
  have x_piece : (f0.toList == [112, 105, 101, 99, 101]) = false := by rw [Go.ByteArray.toList_eq, Hf0.out, ← HF.out, qw]; rfl
  have x_lose : (f0.toList == [108, 111, 115, 101]) = false := by rw [Go.ByteArray.toList_eq, Hf0.out, ← HF.out, qw]; rfl
  have x_reach : (f0.toList == [114, 101, 97, 99, 104]) = true := by rw [Go.ByteArray.toList_eq, Hf0.out, ← HF.out, qw]; rfl
  have x_line : (f0.toList == [108, 105, 110, 101]) = false := by rw [Go.ByteArray.toList_eq, Hf0.out, ← HF.out, qw]; rfl
  have x_plies : (f0.toList == [112, 108, 105, 101, 115]) = false := by rw [Go.ByteArray.toList_eq, Hf0.out, ← HF.out, qw]; rfl
  clear hn hn0 qn qw
  have e_drops : (s.toList == [100, 114, 111, 112, 115]) = false := by rw [Go.ByteArray.toList_eq]; exact beq_eq_false_iff_ne.2 q_drops
  have e_stuck : (s.toList == [115, 116, 117, 99, 107]) = false := by rw [Go.ByteArray.toList_eq]; exact beq_eq_false_iff_ne.2 q_stuck
  clear q_drops q_stuck
  have hz : f1.size = 1 := by
    have h5 : f1.data.toList.length = f1.size := by simp
    rw [← h5, Hf1.out, ← HF.out, q1]; rfl
  have j0 : (0 : Int) < (f1.size : Int) := by omega
  have j0n : 0 < f1.size := by omega
  have z1 : ((f1.size : Int) == 1) = true := by rw [hz]; rfl
  have z1n : (f1.size == 1) = true := by rw [hz]; rfl
  have hch : f1[0].toNat = ch.toNat := by rw [head_at j0n, Hf1.out, ← HF.out, q1]; rfl
  clear hz q1
  have hup : upB ch.toNat = false := qu
  go_wp2_with (first | (go_at_call 79; refine HPx.out.mono ?_; rintro e w2 ⟨rfl, hw2⟩; rw [hw2]; clear hw2) | (go_at_call 40; refine (HBg.out _ _).mono ?_; rintro e w2 ⟨rfl, hw2⟩; rw [hw2]; clear hw2))
  go_ret
  exact ⟨rfl, HOn.out⟩
set_option maxHeartbeats 8000000 in
set_option maxRecDepth 100000 in
theorem dl_none_line3 (b : Nat) (s : ByteArray) (w h t li pl : Int) (c h0 h1 : ByteArray) (sv : Value) (dr st : Bool) (lo re : Nat) (W : World) (hs : s.size < 4294967281) (he : Env W) (hB : Blk W b 27 #[.int .i64 w, .int .i64 h, .string c, .int .i64 t, .string h0, .string h1, sv, .bool dr, .int .u8 (lo : Int), .int .i64 li, .int .u8 (re : Int), .bool st, .int .i64 pl])  (q0 : Lib.hasPrefix s.data.toList [115, 116, 97, 114, 116, 32] = false) (qn : 3 ≤ (splitL 32 s.data.toList).length) (qw : (splitL 32 s.data.toList).getD 0 [] = wordR 4) (q_drops : s.data.toList ≠ [100, 114, 111, 112, 115]) (q_stuck : s.data.toList ≠ [115, 116, 117, 99, 107]) :
    Calls Tryz.prog 38 #[.pointer (some ⟨b, 0, none⟩), .string s] W fun e w' => e = .returned (.int .i64 (-1)) ∧ Only (fun _ => False) W w' := by
  have H1 := hide (split_any 32 s W hs he.m)
  have HB0 := hide hB
  have HE0 := hide he
  have hll : s.data.toList.length = s.size := by simp
  have HBg := hide (fun n w => big_any n w)
  obtain ⟨F, hF⟩ : ∃ F, splitL 32 s.data.toList = F := ⟨_, rfl⟩
  have HF := hide hF
  have hne : 0 < F.length := by rw [← hF]; exact List.length_pos_iff.2 (splitL_ne _ _)
  have hfl : F.length ≤ s.size + 1 := by
    have := splitL_count 32 s.data.toList
    rw [hF] at this
    omega
  have hfm : ∀ i, (F.getD i []).length ≤ s.size := fun i => by
    by_cases hi : i < F.length
    · have h1 : F.getD i [] ∈ F := getD_mem hi
      have h2 : (F.getD i []).length ≤ s.data.toList.length := splitL_mem (c := 32) (by rw [hF]; exact h1)
      omega
    · simp [List.getD, List.getElem?_eq_none (show F.length ≤ i by omega)]
  obtain ⟨f0, hf0⟩ : ∃ f0, bytes (F.getD 0 []) = f0 := ⟨_, rfl⟩
  obtain ⟨f1, hf1⟩ : ∃ f1, bytes (F.getD 1 []) = f1 := ⟨_, rfl⟩
  have Hf0 := hide (show f0.data.toList = F.getD 0 [] from by rw [← hf0, bytes_list])
  have Hf1 := hide (show f1.data.toList = F.getD 1 [] from by rw [← hf1, bytes_list])
  have hz1 : f1.size ≤ s.size := by rw [← hf1, bytes_size]; exact hfm 1
  have Hc0 := hide (fun (w' : World) (h : RowsAt w' W.heap.size F) => (show w'.cell? ⟨W.heap.size, 0, none⟩ = some (.string f0) from by rw [← hf0]; exact h.cellD hne))
  have Hc1 := hide (fun (w' : World) (h : RowsAt w' W.heap.size F) (h2 : 1 < F.length) => (show w'.cell? ⟨W.heap.size, 1, none⟩ = some (.string f1) from by rw [← hf1]; exact h.cellD h2))
  rw [hF] at H1
  clear he hB hfm hf0 hf1 hF
  go_enter Tryz.func38, Tryz.ntmps38
  go_upto_region 2 with (go_at_call 33; refine H1.out.mono ?_; rintro e w1 ⟨nl, hnl, rfl, hl, ho1, hsz1⟩; have Hnl := hide hnl; have Hl1 := hide hl; have Ho1 := hide ho1; clear hnl hl ho1 hsz1)
  have HE1 := hide (HE0.out.no Ho1.out)
  have HO1 := hide (Ho1.out.mono (S' := fun x => x = b) (fun _ _ h => h.elim))
  have HB1 := hide (HB0.out.only Ho1.out (fun h => h))
  have c0 := Hc0.out w1 Hl1.out
  have hbW : b < W.heap.size := Blk.lt HB0.out
  obtain ⟨gl, hgl⟩ : ∃ gl, W.heap.size = gl := ⟨_, rfl⟩
  rw [hgl] at Hl1 Hc0 Hc1 c0 hbW ⊢
  have hnlb : nl ≤ s.size + 1 := by rw [Hnl.out]; exact hfl
  have Ho1k := hide Ho1.out
  clear HE0 HB0 Ho1 H1 hgl hfl hll
  have HPx := hide (Tryz.strings_HasPrefix s ⟨#[115, 116, 97, 114, 116, 32]⟩ w1)
  rw [show (⟨#[115, 116, 97, 114, 116, 32]⟩ : ByteArray).data.toList = [115, 116, 97, 114, 116, 32] from rfl, q0] at HPx
  have HOn := hide (show Only (fun _ => False) W w1 from Ho1k.out)
  have hn : 3 ≤ nl := by rw [Hnl.out, ← HF.out]; exact qn
  have d3 : decide ((nl : Int) ≥ 3) = true := by simp; omega
  have d3n : decide (3 ≤ nl) = true := by simp; omega
  have d2 : ((nl : Int) == 2) = false := by simp; omega
  have d2n : (nl == 2) = false := by simp; omega
  have hn0 : 0 < nl := by rw [Hnl.out]; exact hne
  have i0 : (0 : Int) < (nl : Int) := by omega
  have i1 : (1 : Int) < (nl : Int) := by omega
  have h2 : 1 < F.length := by rw [← Hnl.out]; omega
  have c1 := Hc1.out w1 Hl1.out h2
  have H2 := hide h2
  clear h2
  have x_piece : (f0.toList == [112, 105, 101, 99, 101]) = false := by rw [Go.ByteArray.toList_eq, Hf0.out, ← HF.out, qw]; rfl
  have x_lose : (f0.toList == [108, 111, 115, 101]) = false := by rw [Go.ByteArray.toList_eq, Hf0.out, ← HF.out, qw]; rfl
  have x_reach : (f0.toList == [114, 101, 97, 99, 104]) = false := by rw [Go.ByteArray.toList_eq, Hf0.out, ← HF.out, qw]; rfl
  have x_line : (f0.toList == [108, 105, 110, 101]) = true := by rw [Go.ByteArray.toList_eq, Hf0.out, ← HF.out, qw]; rfl
  have x_plies : (f0.toList == [112, 108, 105, 101, 115]) = false := by rw [Go.ByteArray.toList_eq, Hf0.out, ← HF.out, qw]; rfl
  clear hn hn0 qn qw
  have e_drops : (s.toList == [100, 114, 111, 112, 115]) = false := by rw [Go.ByteArray.toList_eq]; exact beq_eq_false_iff_ne.2 q_drops
  have e_stuck : (s.toList == [115, 116, 117, 99, 107]) = false := by rw [Go.ByteArray.toList_eq]; exact beq_eq_false_iff_ne.2 q_stuck
  clear q_drops q_stuck
  go_wp2_with (first | (go_at_call 79; refine HPx.out.mono ?_; rintro e w2 ⟨rfl, hw2⟩; rw [hw2]; clear hw2) | (go_at_call 40; refine (HBg.out _ _).mono ?_; rintro e w2 ⟨rfl, hw2⟩; rw [hw2]; clear hw2))
  go_ret
  exact ⟨rfl, HOn.out⟩
set_option maxHeartbeats 8000000 in
set_option maxRecDepth 100000 in
theorem dl_none_line1 (b : Nat) (s : ByteArray) (w h t li pl : Int) (c h0 h1 : ByteArray) (sv : Value) (dr st : Bool) (lo re : Nat) (W : World) (hs : s.size < 4294967281) (he : Env W) (hB : Blk W b 27 #[.int .i64 w, .int .i64 h, .string c, .int .i64 t, .string h0, .string h1, sv, .bool dr, .int .u8 (lo : Int), .int .i64 li, .int .u8 (re : Int), .bool st, .int .i64 pl])  (q0 : Lib.hasPrefix s.data.toList [115, 116, 97, 114, 116, 32] = false) (qn : (splitL 32 s.data.toList).length < 2) (qw : (splitL 32 s.data.toList).getD 0 [] = wordR 4) (q_drops : s.data.toList ≠ [100, 114, 111, 112, 115]) (q_stuck : s.data.toList ≠ [115, 116, 117, 99, 107]) :
    Calls Tryz.prog 38 #[.pointer (some ⟨b, 0, none⟩), .string s] W fun e w' => e = .returned (.int .i64 (-1)) ∧ Only (fun _ => False) W w' := by
  have H1 := hide (split_any 32 s W hs he.m)
  have HB0 := hide hB
  have HE0 := hide he
  have hll : s.data.toList.length = s.size := by simp
  have HBg := hide (fun n w => big_any n w)
  obtain ⟨F, hF⟩ : ∃ F, splitL 32 s.data.toList = F := ⟨_, rfl⟩
  have HF := hide hF
  have hne : 0 < F.length := by rw [← hF]; exact List.length_pos_iff.2 (splitL_ne _ _)
  have hfl : F.length ≤ s.size + 1 := by
    have := splitL_count 32 s.data.toList
    rw [hF] at this
    omega
  have hfm : ∀ i, (F.getD i []).length ≤ s.size := fun i => by
    by_cases hi : i < F.length
    · have h1 : F.getD i [] ∈ F := getD_mem hi
      have h2 : (F.getD i []).length ≤ s.data.toList.length := splitL_mem (c := 32) (by rw [hF]; exact h1)
      omega
    · simp [List.getD, List.getElem?_eq_none (show F.length ≤ i by omega)]
  obtain ⟨f0, hf0⟩ : ∃ f0, bytes (F.getD 0 []) = f0 := ⟨_, rfl⟩
  obtain ⟨f1, hf1⟩ : ∃ f1, bytes (F.getD 1 []) = f1 := ⟨_, rfl⟩
  have Hf0 := hide (show f0.data.toList = F.getD 0 [] from by rw [← hf0, bytes_list])
  have Hf1 := hide (show f1.data.toList = F.getD 1 [] from by rw [← hf1, bytes_list])
  have hz1 : f1.size ≤ s.size := by rw [← hf1, bytes_size]; exact hfm 1
  have Hc0 := hide (fun (w' : World) (h : RowsAt w' W.heap.size F) => (show w'.cell? ⟨W.heap.size, 0, none⟩ = some (.string f0) from by rw [← hf0]; exact h.cellD hne))
  have Hc1 := hide (fun (w' : World) (h : RowsAt w' W.heap.size F) (h2 : 1 < F.length) => (show w'.cell? ⟨W.heap.size, 1, none⟩ = some (.string f1) from by rw [← hf1]; exact h.cellD h2))
  rw [hF] at H1
  clear he hB hfm hf0 hf1 hF
  go_enter Tryz.func38, Tryz.ntmps38
  go_upto_region 2 with (go_at_call 33; refine H1.out.mono ?_; rintro e w1 ⟨nl, hnl, rfl, hl, ho1, hsz1⟩; have Hnl := hide hnl; have Hl1 := hide hl; have Ho1 := hide ho1; clear hnl hl ho1 hsz1)
  have HE1 := hide (HE0.out.no Ho1.out)
  have HO1 := hide (Ho1.out.mono (S' := fun x => x = b) (fun _ _ h => h.elim))
  have HB1 := hide (HB0.out.only Ho1.out (fun h => h))
  have c0 := Hc0.out w1 Hl1.out
  have hbW : b < W.heap.size := Blk.lt HB0.out
  obtain ⟨gl, hgl⟩ : ∃ gl, W.heap.size = gl := ⟨_, rfl⟩
  rw [hgl] at Hl1 Hc0 Hc1 c0 hbW ⊢
  have hnlb : nl ≤ s.size + 1 := by rw [Hnl.out]; exact hfl
  have Ho1k := hide Ho1.out
  clear HE0 HB0 Ho1 H1 hgl hfl hll
  have HPx := hide (Tryz.strings_HasPrefix s ⟨#[115, 116, 97, 114, 116, 32]⟩ w1)
  rw [show (⟨#[115, 116, 97, 114, 116, 32]⟩ : ByteArray).data.toList = [115, 116, 97, 114, 116, 32] from rfl, q0] at HPx
  have HOn := hide (show Only (fun _ => False) W w1 from Ho1k.out)
  have hn : nl < 2 := by rw [Hnl.out, ← HF.out]; exact qn
  have d3 : decide ((nl : Int) ≥ 3) = false := by simp; omega
  have d3n : decide (3 ≤ nl) = false := by simp; omega
  have d2 : ((nl : Int) == 2) = false := by simp; omega
  have d2n : (nl == 2) = false := by simp; omega
  have hn0 : 0 < nl := by rw [Hnl.out]; exact hne
  have i0 : (0 : Int) < (nl : Int) := by omega
  have x_piece : (f0.toList == [112, 105, 101, 99, 101]) = false := by rw [Go.ByteArray.toList_eq, Hf0.out, ← HF.out, qw]; rfl
  have x_lose : (f0.toList == [108, 111, 115, 101]) = false := by rw [Go.ByteArray.toList_eq, Hf0.out, ← HF.out, qw]; rfl
  have x_reach : (f0.toList == [114, 101, 97, 99, 104]) = false := by rw [Go.ByteArray.toList_eq, Hf0.out, ← HF.out, qw]; rfl
  have x_line : (f0.toList == [108, 105, 110, 101]) = true := by rw [Go.ByteArray.toList_eq, Hf0.out, ← HF.out, qw]; rfl
  have x_plies : (f0.toList == [112, 108, 105, 101, 115]) = false := by rw [Go.ByteArray.toList_eq, Hf0.out, ← HF.out, qw]; rfl
  clear hn hn0 qn qw
  have e_drops : (s.toList == [100, 114, 111, 112, 115]) = false := by rw [Go.ByteArray.toList_eq]; exact beq_eq_false_iff_ne.2 q_drops
  have e_stuck : (s.toList == [115, 116, 117, 99, 107]) = false := by rw [Go.ByteArray.toList_eq]; exact beq_eq_false_iff_ne.2 q_stuck
  clear q_drops q_stuck
  go_wp2_with (first | (go_at_call 79; refine HPx.out.mono ?_; rintro e w2 ⟨rfl, hw2⟩; rw [hw2]; clear hw2) | (go_at_call 40; refine (HBg.out _ _).mono ?_; rintro e w2 ⟨rfl, hw2⟩; rw [hw2]; clear hw2))
  go_ret
  exact ⟨rfl, HOn.out⟩
set_option maxHeartbeats 8000000 in
set_option maxRecDepth 100000 in
theorem dl_none_line2 (b : Nat) (s : ByteArray) (w h t li pl : Int) (c h0 h1 : ByteArray) (sv : Value) (dr st : Bool) (lo re : Nat) (W : World) (hs : s.size < 4294967281) (he : Env W) (hB : Blk W b 27 #[.int .i64 w, .int .i64 h, .string c, .int .i64 t, .string h0, .string h1, sv, .bool dr, .int .u8 (lo : Int), .int .i64 li, .int .u8 (re : Int), .bool st, .int .i64 pl])  (q0 : Lib.hasPrefix s.data.toList [115, 116, 97, 114, 116, 32] = false) (qn : (splitL 32 s.data.toList).length = 2) (qw : (splitL 32 s.data.toList).getD 0 [] = wordR 4) (q_drops : s.data.toList ≠ [100, 114, 111, 112, 115]) (q_stuck : s.data.toList ≠ [115, 116, 117, 99, 107]) (qno : ∀ m : Nat, m ≤ 9999 → (splitL 32 s.data.toList).getD 1 [] = Lib.decDigits m → m = 0) :
    Calls Tryz.prog 38 #[.pointer (some ⟨b, 0, none⟩), .string s] W fun e w' => e = .returned (.int .i64 (-1)) ∧ Only (fun _ => False) W w' := by
  have H1 := hide (split_any 32 s W hs he.m)
  have HB0 := hide hB
  have HE0 := hide he
  have hll : s.data.toList.length = s.size := by simp
  have HBg := hide (fun n w => big_any n w)
  obtain ⟨F, hF⟩ : ∃ F, splitL 32 s.data.toList = F := ⟨_, rfl⟩
  have HF := hide hF
  have hne : 0 < F.length := by rw [← hF]; exact List.length_pos_iff.2 (splitL_ne _ _)
  have hfl : F.length ≤ s.size + 1 := by
    have := splitL_count 32 s.data.toList
    rw [hF] at this
    omega
  have hfm : ∀ i, (F.getD i []).length ≤ s.size := fun i => by
    by_cases hi : i < F.length
    · have h1 : F.getD i [] ∈ F := getD_mem hi
      have h2 : (F.getD i []).length ≤ s.data.toList.length := splitL_mem (c := 32) (by rw [hF]; exact h1)
      omega
    · simp [List.getD, List.getElem?_eq_none (show F.length ≤ i by omega)]
  obtain ⟨f0, hf0⟩ : ∃ f0, bytes (F.getD 0 []) = f0 := ⟨_, rfl⟩
  obtain ⟨f1, hf1⟩ : ∃ f1, bytes (F.getD 1 []) = f1 := ⟨_, rfl⟩
  have Hf0 := hide (show f0.data.toList = F.getD 0 [] from by rw [← hf0, bytes_list])
  have Hf1 := hide (show f1.data.toList = F.getD 1 [] from by rw [← hf1, bytes_list])
  have hz1 : f1.size ≤ s.size := by rw [← hf1, bytes_size]; exact hfm 1
  have Hc0 := hide (fun (w' : World) (h : RowsAt w' W.heap.size F) => (show w'.cell? ⟨W.heap.size, 0, none⟩ = some (.string f0) from by rw [← hf0]; exact h.cellD hne))
  have Hc1 := hide (fun (w' : World) (h : RowsAt w' W.heap.size F) (h2 : 1 < F.length) => (show w'.cell? ⟨W.heap.size, 1, none⟩ = some (.string f1) from by rw [← hf1]; exact h.cellD h2))
  rw [hF] at H1
  clear he hB hfm hf0 hf1 hF
  go_enter Tryz.func38, Tryz.ntmps38
  go_upto_region 2 with (go_at_call 33; refine H1.out.mono ?_; rintro e w1 ⟨nl, hnl, rfl, hl, ho1, hsz1⟩; have Hnl := hide hnl; have Hl1 := hide hl; have Ho1 := hide ho1; clear hnl hl ho1 hsz1)
  have HE1 := hide (HE0.out.no Ho1.out)
  have HO1 := hide (Ho1.out.mono (S' := fun x => x = b) (fun _ _ h => h.elim))
  have HB1 := hide (HB0.out.only Ho1.out (fun h => h))
  have c0 := Hc0.out w1 Hl1.out
  have hbW : b < W.heap.size := Blk.lt HB0.out
  obtain ⟨gl, hgl⟩ : ∃ gl, W.heap.size = gl := ⟨_, rfl⟩
  rw [hgl] at Hl1 Hc0 Hc1 c0 hbW ⊢
  have hnlb : nl ≤ s.size + 1 := by rw [Hnl.out]; exact hfl
  have Ho1k := hide Ho1.out
  clear HE0 HB0 Ho1 H1 hgl hfl hll
  have HPx := hide (Tryz.strings_HasPrefix s ⟨#[115, 116, 97, 114, 116, 32]⟩ w1)
  rw [show (⟨#[115, 116, 97, 114, 116, 32]⟩ : ByteArray).data.toList = [115, 116, 97, 114, 116, 32] from rfl, q0] at HPx
  have HOn := hide (show Only (fun _ => False) W w1 from Ho1k.out)
  have hn : nl = 2 := by rw [Hnl.out, ← HF.out]; exact qn
  have d3 : decide ((nl : Int) ≥ 3) = false := by simp; omega
  have d3n : decide (3 ≤ nl) = false := by simp; omega
  have d2 : ((nl : Int) == 2) = true := by simp; omega
  have d2n : (nl == 2) = true := by simp; omega
  have hn0 : 0 < nl := by rw [Hnl.out]; exact hne
  have i0 : (0 : Int) < (nl : Int) := by omega
  have i1 : (1 : Int) < (nl : Int) := by omega
  have h2 : 1 < F.length := by rw [← Hnl.out]; omega
  have c1 := Hc1.out w1 Hl1.out h2
  have H2 := hide h2
  clear h2
  have x_piece : (f0.toList == [112, 105, 101, 99, 101]) = false := by rw [Go.ByteArray.toList_eq, Hf0.out, ← HF.out, qw]; rfl
  have x_lose : (f0.toList == [108, 111, 115, 101]) = false := by rw [Go.ByteArray.toList_eq, Hf0.out, ← HF.out, qw]; rfl
  have x_reach : (f0.toList == [114, 101, 97, 99, 104]) = false := by rw [Go.ByteArray.toList_eq, Hf0.out, ← HF.out, qw]; rfl
  have x_line : (f0.toList == [108, 105, 110, 101]) = true := by rw [Go.ByteArray.toList_eq, Hf0.out, ← HF.out, qw]; rfl
  have x_plies : (f0.toList == [112, 108, 105, 101, 115]) = false := by rw [Go.ByteArray.toList_eq, Hf0.out, ← HF.out, qw]; rfl
  clear hn hn0 qn qw
  have e_drops : (s.toList == [100, 114, 111, 112, 115]) = false := by rw [Go.ByteArray.toList_eq]; exact beq_eq_false_iff_ne.2 q_drops
  have e_stuck : (s.toList == [115, 116, 117, 99, 107]) = false := by rw [Go.ByteArray.toList_eq]; exact beq_eq_false_iff_ne.2 q_stuck
  clear q_drops q_stuck
  have HNo := hide (show ∀ m : Nat, m ≤ 9999 → f1.data.toList = Lib.decDigits m → m = 0 from fun m h9 h => qno m h9 (by rw [HF.out, ← Hf1.out]; exact h))
  clear qno
  go_wp2_with (first | (go_at_call 79; refine HPx.out.mono ?_; rintro e w2 ⟨rfl, hw2⟩; rw [hw2]; clear hw2) | (go_at_call 40; refine (HBg.out _ _).mono ?_; rintro e w2 ⟨rfl, hw2⟩; rw [hw2]; clear hw2) | (go_at_call 83; refine (count_any f1 w1 HE1.out).mono ?_; rintro e w2 ⟨⟨n, rfl, hn⟩, ho2⟩; have Ho2 := hide ho2; have c02 := Hc0.out w2 (Blk.only Hl1.out ho2 (fun h => h)); have mg := cnt_no_gt hn HNo.out; clear hn ho2))
  go_ret
  exact ⟨rfl, HOn.out.trans Ho2.out⟩
set_option maxHeartbeats 8000000 in
set_option maxRecDepth 100000 in
theorem dl_none_plies3 (b : Nat) (s : ByteArray) (w h t li pl : Int) (c h0 h1 : ByteArray) (sv : Value) (dr st : Bool) (lo re : Nat) (W : World) (hs : s.size < 4294967281) (he : Env W) (hB : Blk W b 27 #[.int .i64 w, .int .i64 h, .string c, .int .i64 t, .string h0, .string h1, sv, .bool dr, .int .u8 (lo : Int), .int .i64 li, .int .u8 (re : Int), .bool st, .int .i64 pl])  (q0 : Lib.hasPrefix s.data.toList [115, 116, 97, 114, 116, 32] = false) (qn : 3 ≤ (splitL 32 s.data.toList).length) (qw : (splitL 32 s.data.toList).getD 0 [] = wordR 7) (q_drops : s.data.toList ≠ [100, 114, 111, 112, 115]) (q_stuck : s.data.toList ≠ [115, 116, 117, 99, 107]) :
    Calls Tryz.prog 38 #[.pointer (some ⟨b, 0, none⟩), .string s] W fun e w' => e = .returned (.int .i64 (-1)) ∧ Only (fun _ => False) W w' := by
  have H1 := hide (split_any 32 s W hs he.m)
  have HB0 := hide hB
  have HE0 := hide he
  have hll : s.data.toList.length = s.size := by simp
  have HBg := hide (fun n w => big_any n w)
  obtain ⟨F, hF⟩ : ∃ F, splitL 32 s.data.toList = F := ⟨_, rfl⟩
  have HF := hide hF
  have hne : 0 < F.length := by rw [← hF]; exact List.length_pos_iff.2 (splitL_ne _ _)
  have hfl : F.length ≤ s.size + 1 := by
    have := splitL_count 32 s.data.toList
    rw [hF] at this
    omega
  have hfm : ∀ i, (F.getD i []).length ≤ s.size := fun i => by
    by_cases hi : i < F.length
    · have h1 : F.getD i [] ∈ F := getD_mem hi
      have h2 : (F.getD i []).length ≤ s.data.toList.length := splitL_mem (c := 32) (by rw [hF]; exact h1)
      omega
    · simp [List.getD, List.getElem?_eq_none (show F.length ≤ i by omega)]
  obtain ⟨f0, hf0⟩ : ∃ f0, bytes (F.getD 0 []) = f0 := ⟨_, rfl⟩
  obtain ⟨f1, hf1⟩ : ∃ f1, bytes (F.getD 1 []) = f1 := ⟨_, rfl⟩
  have Hf0 := hide (show f0.data.toList = F.getD 0 [] from by rw [← hf0, bytes_list])
  have Hf1 := hide (show f1.data.toList = F.getD 1 [] from by rw [← hf1, bytes_list])
  have hz1 : f1.size ≤ s.size := by rw [← hf1, bytes_size]; exact hfm 1
  have Hc0 := hide (fun (w' : World) (h : RowsAt w' W.heap.size F) => (show w'.cell? ⟨W.heap.size, 0, none⟩ = some (.string f0) from by rw [← hf0]; exact h.cellD hne))
  have Hc1 := hide (fun (w' : World) (h : RowsAt w' W.heap.size F) (h2 : 1 < F.length) => (show w'.cell? ⟨W.heap.size, 1, none⟩ = some (.string f1) from by rw [← hf1]; exact h.cellD h2))
  rw [hF] at H1
  clear he hB hfm hf0 hf1 hF
  go_enter Tryz.func38, Tryz.ntmps38
  go_upto_region 2 with (go_at_call 33; refine H1.out.mono ?_; rintro e w1 ⟨nl, hnl, rfl, hl, ho1, hsz1⟩; have Hnl := hide hnl; have Hl1 := hide hl; have Ho1 := hide ho1; clear hnl hl ho1 hsz1)
  have HE1 := hide (HE0.out.no Ho1.out)
  have HO1 := hide (Ho1.out.mono (S' := fun x => x = b) (fun _ _ h => h.elim))
  have HB1 := hide (HB0.out.only Ho1.out (fun h => h))
  have c0 := Hc0.out w1 Hl1.out
  have hbW : b < W.heap.size := Blk.lt HB0.out
  obtain ⟨gl, hgl⟩ : ∃ gl, W.heap.size = gl := ⟨_, rfl⟩
  rw [hgl] at Hl1 Hc0 Hc1 c0 hbW ⊢
  have hnlb : nl ≤ s.size + 1 := by rw [Hnl.out]; exact hfl
  have Ho1k := hide Ho1.out
  clear HE0 HB0 Ho1 H1 hgl hfl hll
  have HPx := hide (Tryz.strings_HasPrefix s ⟨#[115, 116, 97, 114, 116, 32]⟩ w1)
  rw [show (⟨#[115, 116, 97, 114, 116, 32]⟩ : ByteArray).data.toList = [115, 116, 97, 114, 116, 32] from rfl, q0] at HPx
  have HOn := hide (show Only (fun _ => False) W w1 from Ho1k.out)
  have hn : 3 ≤ nl := by rw [Hnl.out, ← HF.out]; exact qn
  have d3 : decide ((nl : Int) ≥ 3) = true := by simp; omega
  have d3n : decide (3 ≤ nl) = true := by simp; omega
  have d2 : ((nl : Int) == 2) = false := by simp; omega
  have d2n : (nl == 2) = false := by simp; omega
  have hn0 : 0 < nl := by rw [Hnl.out]; exact hne
  have i0 : (0 : Int) < (nl : Int) := by omega
  have i1 : (1 : Int) < (nl : Int) := by omega
  have h2 : 1 < F.length := by rw [← Hnl.out]; omega
  have c1 := Hc1.out w1 Hl1.out h2
  have H2 := hide h2
  clear h2
  have x_piece : (f0.toList == [112, 105, 101, 99, 101]) = false := by rw [Go.ByteArray.toList_eq, Hf0.out, ← HF.out, qw]; rfl
  have x_lose : (f0.toList == [108, 111, 115, 101]) = false := by rw [Go.ByteArray.toList_eq, Hf0.out, ← HF.out, qw]; rfl
  have x_reach : (f0.toList == [114, 101, 97, 99, 104]) = false := by rw [Go.ByteArray.toList_eq, Hf0.out, ← HF.out, qw]; rfl
  have x_line : (f0.toList == [108, 105, 110, 101]) = false := by rw [Go.ByteArray.toList_eq, Hf0.out, ← HF.out, qw]; rfl
  have x_plies : (f0.toList == [112, 108, 105, 101, 115]) = true := by rw [Go.ByteArray.toList_eq, Hf0.out, ← HF.out, qw]; rfl
  clear hn hn0 qn qw
  have e_drops : (s.toList == [100, 114, 111, 112, 115]) = false := by rw [Go.ByteArray.toList_eq]; exact beq_eq_false_iff_ne.2 q_drops
  have e_stuck : (s.toList == [115, 116, 117, 99, 107]) = false := by rw [Go.ByteArray.toList_eq]; exact beq_eq_false_iff_ne.2 q_stuck
  clear q_drops q_stuck
  go_wp2_with (first | (go_at_call 79; refine HPx.out.mono ?_; rintro e w2 ⟨rfl, hw2⟩; rw [hw2]; clear hw2) | (go_at_call 40; refine (HBg.out _ _).mono ?_; rintro e w2 ⟨rfl, hw2⟩; rw [hw2]; clear hw2))
  go_ret
  exact ⟨rfl, HOn.out⟩
set_option maxHeartbeats 8000000 in
set_option maxRecDepth 100000 in
theorem dl_none_plies1 (b : Nat) (s : ByteArray) (w h t li pl : Int) (c h0 h1 : ByteArray) (sv : Value) (dr st : Bool) (lo re : Nat) (W : World) (hs : s.size < 4294967281) (he : Env W) (hB : Blk W b 27 #[.int .i64 w, .int .i64 h, .string c, .int .i64 t, .string h0, .string h1, sv, .bool dr, .int .u8 (lo : Int), .int .i64 li, .int .u8 (re : Int), .bool st, .int .i64 pl])  (q0 : Lib.hasPrefix s.data.toList [115, 116, 97, 114, 116, 32] = false) (qn : (splitL 32 s.data.toList).length < 2) (qw : (splitL 32 s.data.toList).getD 0 [] = wordR 7) (q_drops : s.data.toList ≠ [100, 114, 111, 112, 115]) (q_stuck : s.data.toList ≠ [115, 116, 117, 99, 107]) :
    Calls Tryz.prog 38 #[.pointer (some ⟨b, 0, none⟩), .string s] W fun e w' => e = .returned (.int .i64 (-1)) ∧ Only (fun _ => False) W w' := by
  have H1 := hide (split_any 32 s W hs he.m)
  have HB0 := hide hB
  have HE0 := hide he
  have hll : s.data.toList.length = s.size := by simp
  have HBg := hide (fun n w => big_any n w)
  obtain ⟨F, hF⟩ : ∃ F, splitL 32 s.data.toList = F := ⟨_, rfl⟩
  have HF := hide hF
  have hne : 0 < F.length := by rw [← hF]; exact List.length_pos_iff.2 (splitL_ne _ _)
  have hfl : F.length ≤ s.size + 1 := by
    have := splitL_count 32 s.data.toList
    rw [hF] at this
    omega
  have hfm : ∀ i, (F.getD i []).length ≤ s.size := fun i => by
    by_cases hi : i < F.length
    · have h1 : F.getD i [] ∈ F := getD_mem hi
      have h2 : (F.getD i []).length ≤ s.data.toList.length := splitL_mem (c := 32) (by rw [hF]; exact h1)
      omega
    · simp [List.getD, List.getElem?_eq_none (show F.length ≤ i by omega)]
  obtain ⟨f0, hf0⟩ : ∃ f0, bytes (F.getD 0 []) = f0 := ⟨_, rfl⟩
  obtain ⟨f1, hf1⟩ : ∃ f1, bytes (F.getD 1 []) = f1 := ⟨_, rfl⟩
  have Hf0 := hide (show f0.data.toList = F.getD 0 [] from by rw [← hf0, bytes_list])
  have Hf1 := hide (show f1.data.toList = F.getD 1 [] from by rw [← hf1, bytes_list])
  have hz1 : f1.size ≤ s.size := by rw [← hf1, bytes_size]; exact hfm 1
  have Hc0 := hide (fun (w' : World) (h : RowsAt w' W.heap.size F) => (show w'.cell? ⟨W.heap.size, 0, none⟩ = some (.string f0) from by rw [← hf0]; exact h.cellD hne))
  have Hc1 := hide (fun (w' : World) (h : RowsAt w' W.heap.size F) (h2 : 1 < F.length) => (show w'.cell? ⟨W.heap.size, 1, none⟩ = some (.string f1) from by rw [← hf1]; exact h.cellD h2))
  rw [hF] at H1
  clear he hB hfm hf0 hf1 hF
  go_enter Tryz.func38, Tryz.ntmps38
  go_upto_region 2 with (go_at_call 33; refine H1.out.mono ?_; rintro e w1 ⟨nl, hnl, rfl, hl, ho1, hsz1⟩; have Hnl := hide hnl; have Hl1 := hide hl; have Ho1 := hide ho1; clear hnl hl ho1 hsz1)
  have HE1 := hide (HE0.out.no Ho1.out)
  have HO1 := hide (Ho1.out.mono (S' := fun x => x = b) (fun _ _ h => h.elim))
  have HB1 := hide (HB0.out.only Ho1.out (fun h => h))
  have c0 := Hc0.out w1 Hl1.out
  have hbW : b < W.heap.size := Blk.lt HB0.out
  obtain ⟨gl, hgl⟩ : ∃ gl, W.heap.size = gl := ⟨_, rfl⟩
  rw [hgl] at Hl1 Hc0 Hc1 c0 hbW ⊢
  have hnlb : nl ≤ s.size + 1 := by rw [Hnl.out]; exact hfl
  have Ho1k := hide Ho1.out
  clear HE0 HB0 Ho1 H1 hgl hfl hll
  have HPx := hide (Tryz.strings_HasPrefix s ⟨#[115, 116, 97, 114, 116, 32]⟩ w1)
  rw [show (⟨#[115, 116, 97, 114, 116, 32]⟩ : ByteArray).data.toList = [115, 116, 97, 114, 116, 32] from rfl, q0] at HPx
  have HOn := hide (show Only (fun _ => False) W w1 from Ho1k.out)
  have hn : nl < 2 := by rw [Hnl.out, ← HF.out]; exact qn
  have d3 : decide ((nl : Int) ≥ 3) = false := by simp; omega
  have d3n : decide (3 ≤ nl) = false := by simp; omega
  have d2 : ((nl : Int) == 2) = false := by simp; omega
  have d2n : (nl == 2) = false := by simp; omega
  have hn0 : 0 < nl := by rw [Hnl.out]; exact hne
  have i0 : (0 : Int) < (nl : Int) := by omega
  have x_piece : (f0.toList == [112, 105, 101, 99, 101]) = false := by rw [Go.ByteArray.toList_eq, Hf0.out, ← HF.out, qw]; rfl
  have x_lose : (f0.toList == [108, 111, 115, 101]) = false := by rw [Go.ByteArray.toList_eq, Hf0.out, ← HF.out, qw]; rfl
  have x_reach : (f0.toList == [114, 101, 97, 99, 104]) = false := by rw [Go.ByteArray.toList_eq, Hf0.out, ← HF.out, qw]; rfl
  have x_line : (f0.toList == [108, 105, 110, 101]) = false := by rw [Go.ByteArray.toList_eq, Hf0.out, ← HF.out, qw]; rfl
  have x_plies : (f0.toList == [112, 108, 105, 101, 115]) = true := by rw [Go.ByteArray.toList_eq, Hf0.out, ← HF.out, qw]; rfl
  clear hn hn0 qn qw
  have e_drops : (s.toList == [100, 114, 111, 112, 115]) = false := by rw [Go.ByteArray.toList_eq]; exact beq_eq_false_iff_ne.2 q_drops
  have e_stuck : (s.toList == [115, 116, 117, 99, 107]) = false := by rw [Go.ByteArray.toList_eq]; exact beq_eq_false_iff_ne.2 q_stuck
  clear q_drops q_stuck
  go_wp2_with (first | (go_at_call 79; refine HPx.out.mono ?_; rintro e w2 ⟨rfl, hw2⟩; rw [hw2]; clear hw2) | (go_at_call 40; refine (HBg.out _ _).mono ?_; rintro e w2 ⟨rfl, hw2⟩; rw [hw2]; clear hw2))
  go_ret
  exact ⟨rfl, HOn.out⟩
set_option maxHeartbeats 8000000 in
set_option maxRecDepth 100000 in
theorem dl_none_plies2 (b : Nat) (s : ByteArray) (w h t li pl : Int) (c h0 h1 : ByteArray) (sv : Value) (dr st : Bool) (lo re : Nat) (W : World) (hs : s.size < 4294967281) (he : Env W) (hB : Blk W b 27 #[.int .i64 w, .int .i64 h, .string c, .int .i64 t, .string h0, .string h1, sv, .bool dr, .int .u8 (lo : Int), .int .i64 li, .int .u8 (re : Int), .bool st, .int .i64 pl])  (q0 : Lib.hasPrefix s.data.toList [115, 116, 97, 114, 116, 32] = false) (qn : (splitL 32 s.data.toList).length = 2) (qw : (splitL 32 s.data.toList).getD 0 [] = wordR 7) (q_drops : s.data.toList ≠ [100, 114, 111, 112, 115]) (q_stuck : s.data.toList ≠ [115, 116, 117, 99, 107]) (qno : ∀ m : Nat, m ≤ 9999 → (splitL 32 s.data.toList).getD 1 [] = Lib.decDigits m → False) :
    Calls Tryz.prog 38 #[.pointer (some ⟨b, 0, none⟩), .string s] W fun e w' => e = .returned (.int .i64 (-1)) ∧ Only (fun _ => False) W w' := by
  have H1 := hide (split_any 32 s W hs he.m)
  have HB0 := hide hB
  have HE0 := hide he
  have hll : s.data.toList.length = s.size := by simp
  have HBg := hide (fun n w => big_any n w)
  obtain ⟨F, hF⟩ : ∃ F, splitL 32 s.data.toList = F := ⟨_, rfl⟩
  have HF := hide hF
  have hne : 0 < F.length := by rw [← hF]; exact List.length_pos_iff.2 (splitL_ne _ _)
  have hfl : F.length ≤ s.size + 1 := by
    have := splitL_count 32 s.data.toList
    rw [hF] at this
    omega
  have hfm : ∀ i, (F.getD i []).length ≤ s.size := fun i => by
    by_cases hi : i < F.length
    · have h1 : F.getD i [] ∈ F := getD_mem hi
      have h2 : (F.getD i []).length ≤ s.data.toList.length := splitL_mem (c := 32) (by rw [hF]; exact h1)
      omega
    · simp [List.getD, List.getElem?_eq_none (show F.length ≤ i by omega)]
  obtain ⟨f0, hf0⟩ : ∃ f0, bytes (F.getD 0 []) = f0 := ⟨_, rfl⟩
  obtain ⟨f1, hf1⟩ : ∃ f1, bytes (F.getD 1 []) = f1 := ⟨_, rfl⟩
  have Hf0 := hide (show f0.data.toList = F.getD 0 [] from by rw [← hf0, bytes_list])
  have Hf1 := hide (show f1.data.toList = F.getD 1 [] from by rw [← hf1, bytes_list])
  have hz1 : f1.size ≤ s.size := by rw [← hf1, bytes_size]; exact hfm 1
  have Hc0 := hide (fun (w' : World) (h : RowsAt w' W.heap.size F) => (show w'.cell? ⟨W.heap.size, 0, none⟩ = some (.string f0) from by rw [← hf0]; exact h.cellD hne))
  have Hc1 := hide (fun (w' : World) (h : RowsAt w' W.heap.size F) (h2 : 1 < F.length) => (show w'.cell? ⟨W.heap.size, 1, none⟩ = some (.string f1) from by rw [← hf1]; exact h.cellD h2))
  rw [hF] at H1
  clear he hB hfm hf0 hf1 hF
  go_enter Tryz.func38, Tryz.ntmps38
  go_upto_region 2 with (go_at_call 33; refine H1.out.mono ?_; rintro e w1 ⟨nl, hnl, rfl, hl, ho1, hsz1⟩; have Hnl := hide hnl; have Hl1 := hide hl; have Ho1 := hide ho1; clear hnl hl ho1 hsz1)
  have HE1 := hide (HE0.out.no Ho1.out)
  have HO1 := hide (Ho1.out.mono (S' := fun x => x = b) (fun _ _ h => h.elim))
  have HB1 := hide (HB0.out.only Ho1.out (fun h => h))
  have c0 := Hc0.out w1 Hl1.out
  have hbW : b < W.heap.size := Blk.lt HB0.out
  obtain ⟨gl, hgl⟩ : ∃ gl, W.heap.size = gl := ⟨_, rfl⟩
  rw [hgl] at Hl1 Hc0 Hc1 c0 hbW ⊢
  have hnlb : nl ≤ s.size + 1 := by rw [Hnl.out]; exact hfl
  have Ho1k := hide Ho1.out
  clear HE0 HB0 Ho1 H1 hgl hfl hll
  have HPx := hide (Tryz.strings_HasPrefix s ⟨#[115, 116, 97, 114, 116, 32]⟩ w1)
  rw [show (⟨#[115, 116, 97, 114, 116, 32]⟩ : ByteArray).data.toList = [115, 116, 97, 114, 116, 32] from rfl, q0] at HPx
  have HOn := hide (show Only (fun _ => False) W w1 from Ho1k.out)
  have hn : nl = 2 := by rw [Hnl.out, ← HF.out]; exact qn
  have d3 : decide ((nl : Int) ≥ 3) = false := by simp; omega
  have d3n : decide (3 ≤ nl) = false := by simp; omega
  have d2 : ((nl : Int) == 2) = true := by simp; omega
  have d2n : (nl == 2) = true := by simp; omega
  have hn0 : 0 < nl := by rw [Hnl.out]; exact hne
  have i0 : (0 : Int) < (nl : Int) := by omega
  have i1 : (1 : Int) < (nl : Int) := by omega
  have h2 : 1 < F.length := by rw [← Hnl.out]; omega
  have c1 := Hc1.out w1 Hl1.out h2
  have H2 := hide h2
  clear h2
  have x_piece : (f0.toList == [112, 105, 101, 99, 101]) = false := by rw [Go.ByteArray.toList_eq, Hf0.out, ← HF.out, qw]; rfl
  have x_lose : (f0.toList == [108, 111, 115, 101]) = false := by rw [Go.ByteArray.toList_eq, Hf0.out, ← HF.out, qw]; rfl
  have x_reach : (f0.toList == [114, 101, 97, 99, 104]) = false := by rw [Go.ByteArray.toList_eq, Hf0.out, ← HF.out, qw]; rfl
  have x_line : (f0.toList == [108, 105, 110, 101]) = false := by rw [Go.ByteArray.toList_eq, Hf0.out, ← HF.out, qw]; rfl
  have x_plies : (f0.toList == [112, 108, 105, 101, 115]) = true := by rw [Go.ByteArray.toList_eq, Hf0.out, ← HF.out, qw]; rfl
  clear hn hn0 qn qw
  have e_drops : (s.toList == [100, 114, 111, 112, 115]) = false := by rw [Go.ByteArray.toList_eq]; exact beq_eq_false_iff_ne.2 q_drops
  have e_stuck : (s.toList == [115, 116, 117, 99, 107]) = false := by rw [Go.ByteArray.toList_eq]; exact beq_eq_false_iff_ne.2 q_stuck
  clear q_drops q_stuck
  have HNo := hide (show ∀ m : Nat, m ≤ 9999 → f1.data.toList = Lib.decDigits m → False from fun m h9 h => qno m h9 (by rw [HF.out, ← Hf1.out]; exact h))
  clear qno
  go_wp2_with (first | (go_at_call 79; refine HPx.out.mono ?_; rintro e w2 ⟨rfl, hw2⟩; rw [hw2]; clear hw2) | (go_at_call 40; refine (HBg.out _ _).mono ?_; rintro e w2 ⟨rfl, hw2⟩; rw [hw2]; clear hw2) | (go_at_call 83; refine (count_any f1 w1 HE1.out).mono ?_; rintro e w2 ⟨⟨n, rfl, hn⟩, ho2⟩; have Ho2 := hide ho2; have c02 := Hc0.out w2 (Blk.only Hl1.out ho2 (fun h => h)); have mg := cnt_no_ge hn HNo.out; clear hn ho2))
  go_ret
  exact ⟨rfl, HOn.out.trans Ho2.out⟩
end Go.Proofs.YtcdfeaodfmfdnaaGreatDoor
