/- gameref.MoveText: the document's text of a move -/
import Derived.Test.YtcdfeaodfmfdnaaGreatDoorPlTxM
import Derived.Test.YtcdfeaodfmfdnaaGreatDoorShelf
namespace Go.Proofs.YtcdfeaodfmfdnaaGreatDoor
open Go.RowKit

theorem abc_cut : ∀ x : Nat, x < 8 → (⟨#[97, 98, 99, 100, 101, 102, 103, 104]⟩ : ByteArray).extract x (x + 1) = bytes [u8 (97 + x)] := by decide +kernel
theorem dig_one : ∀ y : Nat, y < 8 → (⟨(Lib.decDigits (y + 1)).toArray⟩ : ByteArray) = bytes [u8 (49 + y)] := by decide +kernel
theorem quiet_call {P : Program} {f : FuncId} {args : Array Value} {w : World} {n : Nat} {v : Value}
  (h : Calls P f args (w.drewN n) fun e w' => e = .returned v ∧ ∃ m, w' = (w.drewN n).drewN m) : Calls P f args (w.drewN n) fun e w' => e = .returned v ∧ ∃ m, w' = w.drewN m :=
 h.mono fun _ _ ⟨h1, _, h2⟩ => ⟨h1, _, h2.trans (World.drewN_drewN _ _ _)⟩
set_option maxHeartbeats 4000000 in
set_option maxRecDepth 100000 in
theorem mtcell_any (p : Pos) (a gp : Nat) (W : World) (hp : PosOk p) (ha : a < p.cells.size) (hb : Blk W gp 24 #[.int .i64 p.w, .int .i64 p.h, .string p.cells, .int .i64 p.turn, .string p.h0, .string p.h1]) :
  Calls Tryz.prog 104 #[.int .i64 (a : Int), .pointer (some ⟨gp, 0, none⟩)] W fun e w' => e = .returned (.string (bytes (cellL p a))) ∧ ∃ n, w' = W.drewN n := by
 obtain ⟨n, m, hn, hm, n1, n8, m1, m8, hs, h64⟩ := pos_wh hp
 obtain ⟨p0, p1, p2, p3, p4, p5⟩ := hb.pos6
 rw [hn] at p0
 have hx : a % n < 8 := by have := Nat.mod_lt a (show n > 0 by omega); omega
 have hy : a / n < 8 := by
  rw [Nat.div_lt_iff_lt_mul (by omega)]
  have h1 : n * m ≤ n * 8 := Nat.mul_le_mul_left n m8
  have h2 := Nat.mul_comm n 8
  omega
 have HR := hide (show bytes (cellL p a) = bytes [u8 (97 + a % n)] ++ bytes [u8 (49 + a / n)] from by rw [mv_bytes_cat]; unfold cellL; rw [hn]; simp)
 have ez : ((n : Int) == 0) = false := by simp; omega
 have ex := mod_eqn a n
 have ey := div_eqn a n
 obtain ⟨x, hxx⟩ : ∃ x, a % n = x := ⟨_, rfl⟩
 obtain ⟨y, hyy⟩ : ∃ y, a / n = y := ⟨_, rfl⟩
 rw [hxx] at hx ex HR
 rw [hyy] at hy ey HR
 have HI := hide (fun w => Tryz.strconv_Itoa_small (y + 1) (by omega) w)
 have HX := hide (abc_cut x hx)
 rw [dig_one y hy] at HI
 push_cast at HI
 clear hp hb hn hm hs hxx hyy
 go_enter Tryz.func104, Tryz.ntmps104
 go_wp2_with fail
 go_quiet ((go_at_call 29; exact quiet_call ((HI.out _).mono fun _ _ ⟨h1, h2⟩ => ⟨h1, 0, h2⟩)))
 go_wp2_with fail
 go_ret
 exact ⟨congrArg (fun b : ByteArray => Ending.returned (.string b)) ((congrArg (· ++ bytes [u8 (49 + y)]) HX.out).trans HR.out.symm), _, rfl⟩
theorem mt_hr1 (p : Pos) (c t : Nat) : (bytes [u8 c] ++ ⟨#[64]⟩) ++ bytes (cellL p t) = bytes ([u8 c, u8 64] ++ cellL p t) := by
 rw [show (⟨#[64]⟩ : ByteArray) = bytes [u8 64] from rfl, mv_bytes_cat, mv_bytes_cat]; rfl
theorem mt_hr2 (p : Pos) (c f t : Nat) (x : UInt8) : ((bytes [u8 c] ++ bytes (cellL p f)) ++ ⟨#[x]⟩) ++ bytes (cellL p t) = bytes ([u8 c] ++ cellL p f ++ [x] ++ cellL p t) := by
 rw [show (⟨#[x]⟩ : ByteArray) = bytes [x] from rfl, mv_bytes_cat, mv_bytes_cat, mv_bytes_cat]
set_option maxHeartbeats 4000000 in
set_option maxRecDepth 100000 in
theorem movetext_drop (p : Pos) (c t : Nat) (W : World) (hp : PosOk p) (hc : c < 256) (ht : t < p.cells.size) :
  Calls Tryz.prog 56 #[.agg #[.int .i64 p.w, .int .i64 p.h, .string p.cells, .int .i64 p.turn, .string p.h0, .string p.h1], .agg #[.int .i64 (-1), .int .i64 (t : Int), .int .u8 (c : Int)]] W fun e w' => e = .returned (.string (bytes ([u8 c, u8 64] ++ cellL p t))) ∧ Later W w' := by
 have Hbp := hide ((Blk.new W 24 #[.int .i64 p.w, .int .i64 p.h, .string p.cells, .int .i64 p.turn, .string p.h0, .string p.h1]).alloc (.cells #[.int .i64 (-1), .int .i64 (t : Int), .int .u8 (c : Int)] 101))
 have hbm := (Blk.new (W.alloc (.cells #[.int .i64 p.w, .int .i64 p.h, .string p.cells, .int .i64 p.turn, .string p.h0, .string p.h1] 24)) 101 #[.int .i64 (-1), .int .i64 (t : Int), .int .u8 (c : Int)])
 rw [World.size_alloc] at hbm
 have Hbm := hide hbm
 have Hw := hide (show Later W ((W.alloc (.cells #[.int .i64 p.w, .int .i64 p.h, .string p.cells, .int .i64 p.turn, .string p.h0, .string p.h1] 24)).alloc (.cells #[.int .i64 (-1), .int .i64 (t : Int), .int .u8 (c : Int)] 101)) from (Later.rfl.alloc _).alloc _)
 have HC := hide (fun w (hb : Blk w W.heap.size 24 #[.int .i64 p.w, .int .i64 p.h, .string p.cells, .int .i64 p.turn, .string p.h0, .string p.h1]) => mtcell_any p t W.heap.size w hp ht hb)
 have HR := hide (mt_hr1 p c t)
 have s3 : (cellL p t).length = 2 := rfl
 clear hbm hp ht
 go_enter Tryz.func56, Tryz.ntmps56
 go_upto_region 1 with (fail)
 obtain ⟨w0, hw0⟩ : ∃ w0, (W.alloc (.cells #[.int .i64 p.w, .int .i64 p.h, .string p.cells, .int .i64 p.turn, .string p.h0, .string p.h1] 24)).alloc (.cells #[.int .i64 (-1), .int .i64 (t : Int), .int .u8 (c : Int)] 101) = w0 := ⟨_, rfl⟩
 rw [hw0] at Hbp Hbm Hw ⊢
 clear hw0
 obtain ⟨⟨m0, m1, m2⟩, -⟩ := Hbm.out.mv
 have hcv := conv_on c hc (Blk.new w0 5 #[.int .u8 (c : Int)])
 go_upto_region 3 with (fail)
 clear hcv m0 m1 m2 hc
 have hw1 := (Later.rfl (w := w0)).alloc (.cells #[.int .u8 (c : Int)] 5)
 have Hbp1 := hide (hw1.blk Hbp.out)
 have Hbm1 := hide (hw1.blk Hbm.out)
 have HL := hide (Hw.out.trans hw1)
 obtain ⟨w1, hww⟩ : ∃ w1, w0.alloc (.cells #[.int .u8 (c : Int)] 5) = w1 := ⟨_, rfl⟩
 rw [hww] at Hbp1 Hbm1 HL ⊢
 clear hww hw1 Hbp Hbm Hw
 obtain ⟨⟨m0, m1, m2⟩, -⟩ := Hbm1.out.mv
 go_wp2_with (go_at_call 104; refine (HC.out _ Hbp1.out).mono ?_; rintro e w2 ⟨rfl, n2, rfl⟩)
 go_ret
 exact ⟨congrArg (fun b : ByteArray => Ending.returned (.string b)) HR.out, HL.out.drewN _⟩
set_option maxHeartbeats 4000000 in
set_option maxRecDepth 100000 in
theorem movetext_board (p : Pos) (c f t : Nat) (W : World) (hp : PosOk p) (hc : c < 256) (ht : t < p.cells.size) (hfs : f < p.cells.size) :
  Calls Tryz.prog 56 #[.agg #[.int .i64 p.w, .int .i64 p.h, .string p.cells, .int .i64 p.turn, .string p.h0, .string p.h1], .agg #[.int .i64 (f : Int), .int .i64 (t : Int), .int .u8 (c : Int)]] W fun e w' => e = .returned (.string (bytes ([u8 c] ++ cellL p f ++ [if cellN p t = 46 then 45 else 120] ++ cellL p t))) ∧ Later W w' := by
 have Hbp := hide ((Blk.new W 24 #[.int .i64 p.w, .int .i64 p.h, .string p.cells, .int .i64 p.turn, .string p.h0, .string p.h1]).alloc (.cells #[.int .i64 (f : Int), .int .i64 (t : Int), .int .u8 (c : Int)] 101))
 have hbm := (Blk.new (W.alloc (.cells #[.int .i64 p.w, .int .i64 p.h, .string p.cells, .int .i64 p.turn, .string p.h0, .string p.h1] 24)) 101 #[.int .i64 (f : Int), .int .i64 (t : Int), .int .u8 (c : Int)])
 rw [World.size_alloc] at hbm
 have Hbm := hide hbm
 have Hw := hide (show Later W ((W.alloc (.cells #[.int .i64 p.w, .int .i64 p.h, .string p.cells, .int .i64 p.turn, .string p.h0, .string p.h1] 24)).alloc (.cells #[.int .i64 (f : Int), .int .i64 (t : Int), .int .u8 (c : Int)] 101)) from (Later.rfl.alloc _).alloc _)
 have HT := hide (fun w (hb : Blk w W.heap.size 24 #[.int .i64 p.w, .int .i64 p.h, .string p.cells, .int .i64 p.turn, .string p.h0, .string p.h1]) => mtcell_any p t W.heap.size w hp ht hb)
 have HF := hide (fun w (hb : Blk w W.heap.size 24 #[.int .i64 p.w, .int .i64 p.h, .string p.cells, .int .i64 p.turn, .string p.h0, .string p.h1]) => mtcell_any p f W.heap.size w hp hfs hb)
 have HR := hide (fun x => mt_hr2 p c f t x)
 have hsz := (posOk_size hp)
 have t1 : decide ((f : Int) < 0) = false := by simp
 have i6 : p.cells[t].toNat = cellN p t := by
  unfold cellN
  rw [getD_get (show t < p.cells.data.toList.length from ht)]
  rfl
 obtain ⟨y, hy⟩ : ∃ y, cellN p t = y := ⟨_, rfl⟩
 rw [hy] at i6 ⊢
 obtain ⟨T, hT⟩ : ∃ T, bytes ([u8 c] ++ cellL p f ++ [if y = 46 then 45 else 120] ++ cellL p t) = T := ⟨_, rfl⟩
 rw [hT]
 have HT1 := hide (fun h : y = 46 => show ((bytes [u8 c] ++ bytes (cellL p f)) ++ ⟨#[45]⟩) ++ bytes (cellL p t) = T by rw [← hT, if_pos h]; exact HR.out 45)
 have HT2 := hide (fun h : ¬ y = 46 => show ((bytes [u8 c] ++ bytes (cellL p f)) ++ ⟨#[120]⟩) ++ bytes (cellL p t) = T by rw [← hT, if_neg h]; exact HR.out 120)
 clear hT
 have ti : (t : Int) < (p.cells.size : Int) := by omega
 have s3 : (cellL p t).length = 2 := rfl
 have s4 : (cellL p f).length = 2 := rfl
 clear hbm hp hfs hy
 go_enter Tryz.func56, Tryz.ntmps56
 go_upto_region 1 with (fail)
 obtain ⟨w0, hw0⟩ : ∃ w0, (W.alloc (.cells #[.int .i64 p.w, .int .i64 p.h, .string p.cells, .int .i64 p.turn, .string p.h0, .string p.h1] 24)).alloc (.cells #[.int .i64 (f : Int), .int .i64 (t : Int), .int .u8 (c : Int)] 101) = w0 := ⟨_, rfl⟩
 rw [hw0] at Hbp Hbm Hw ⊢
 clear hw0
 obtain ⟨⟨m0, m1, m2⟩, -⟩ := Hbm.out.mv
 have hcv := conv_on c hc (Blk.new w0 5 #[.int .u8 (c : Int)])
 go_upto_region 3 with (fail)
 clear hcv m0 m1 m2 hc
 have hw1 := (Later.rfl (w := w0)).alloc (.cells #[.int .u8 (c : Int)] 5)
 have Hbp1 := hide (hw1.blk Hbp.out)
 have Hbm1 := hide (hw1.blk Hbm.out)
 have HL := hide (Hw.out.trans hw1)
 obtain ⟨w1, hww⟩ : ∃ w1, w0.alloc (.cells #[.int .u8 (c : Int)] 5) = w1 := ⟨_, rfl⟩
 rw [hww] at Hbp1 Hbm1 HL ⊢
 clear hww hw1 Hbp Hbm Hw
 obtain ⟨⟨m0, m1, m2⟩, -⟩ := Hbm1.out.mv
 obtain ⟨p0, p1, p2, p3, p4, p5⟩ := Hbp1.out.pos6
 by_cases h46 : y = 46
 ·
  have tb : ((y : Int) == 46) = true := by simp; omega
  have HX := hide (HT1.out h46)
  clear h46
  go_wp2_with fail
  go_quiet ((go_at_call 104; first | with_reducible exact quiet_call (HF.out _ (Hbp1.out.drewN _)) | with_reducible exact quiet_call (HT.out _ (Hbp1.out.drewN _))))
  go_wp2_with fail
  go_ret
  exact ⟨congrArg (fun b : ByteArray => Ending.returned (.string b)) HX.out, HL.out.drewN _⟩
 ·
  have tb : ((y : Int) == 46) = false := by simp; omega
  have HX := hide (HT2.out h46)
  clear h46
  go_wp2_with fail
  go_quiet ((go_at_call 104; first | with_reducible exact quiet_call (HF.out _ (Hbp1.out.drewN _)) | with_reducible exact quiet_call (HT.out _ (Hbp1.out.drewN _))))
  go_wp2_with fail
  go_ret
  exact ⟨congrArg (fun b : ByteArray => Ending.returned (.string b)) HX.out, HL.out.drewN _⟩
theorem movetext_any {p : Pos} {m : Mv} (hp : PosOk p) (hc : m.c < 256) (h0 : 0 ≤ m.t) (ht : m.t.toNat < p.cells.size) (hf : m.f = -1 ∨ (0 ≤ m.f ∧ m.f.toNat < p.cells.size)) (W : World) :
  Calls Tryz.prog 56 #[.agg #[.int .i64 p.w, .int .i64 p.h, .string p.cells, .int .i64 p.turn, .string p.h0, .string p.h1], .agg #[.int .i64 m.f, .int .i64 m.t, .int .u8 (m.c : Int)]] W fun e w' => e = .returned (.string (bytes (mv_textL p m))) ∧ Later W w' := by
 obtain ⟨f, t, c⟩ := m
 simp only at hc h0 ht hf ⊢
 obtain ⟨tn, rfl⟩ : ∃ tn : Nat, t = (tn : Int) := ⟨t.toNat, by omega⟩
 rw [Int.toNat_natCast] at ht
 rcases hf with rfl | ⟨hf0, hf1⟩
 ·
  refine (movetext_drop p c tn W hp hc ht).mono fun e w' h => ⟨?_, h.2⟩
  rw [h.1, show mv_textL p ⟨-1, (tn : Int), c⟩ = [u8 c, u8 64] ++ cellL p tn from if_pos (show (-1 : Int) < 0 by decide)]
 ·
  obtain ⟨fn, rfl⟩ : ∃ fn : Nat, f = (fn : Int) := ⟨f.toNat, by omega⟩
  rw [Int.toNat_natCast] at hf1
  refine (movetext_board p c fn tn W hp hc ht hf1).mono fun e w' h => ⟨?_, h.2⟩
  rw [h.1, show mv_textL p ⟨(fn : Int), (tn : Int), c⟩ = [u8 c] ++ cellL p fn ++ [if cellN p tn = 46 then 45 else 120] ++ cellL p tn from if_neg (show ¬ ((fn : Int) < 0) by omega)]
end Go.Proofs.YtcdfeaodfmfdnaaGreatDoor
