/- moves.cell, moves.text: a move's text. -/
import Derived.Test.YtcdfeaodfmfdnaaGreatDoorPlTk
import Derived.Test.YtcdfeaodfmfdnaaGreatDoorPlMgTop
import Derived.BigRegion
import Derived.Deep.RegionHeld
import Derived.Deep.CutRange
namespace Go.Proofs.YtcdfeaodfmfdnaaGreatDoor
open Go.RowKit

/-- a cell's name -/
def cellL (p : Pos) (a : Nat) : List UInt8 := [u8 (97 + a % p.w.toNat), u8 (49 + a / p.w.toNat)]
theorem conv_two (x y : Nat) (hx : x < 256) (hy : y < 256) (w : World) : (convert 96 9 (.slice (some ⟨w.heap.size, 0, none⟩) 2 2)).run Tryz.prog (w.alloc (.cells #[.int .u8 x, .int .u8 y] 5)).drew = .ok (.string (bytes [u8 x, u8 y])) (w.alloc (.cells #[.int .u8 x, .int .u8 y] 5)).drew := by
 have h := run_convert_bytes_back (P := Tryz.prog) (w.alloc (.cells #[.int .u8 x, .int .u8 y] 5)).drew 96 9 5 ⟨w.heap.size, 0, none⟩ 2 [u8 x, u8 y] Tryz.underlying96 Tryz.underlying5 Tryz.underlying9 (fun j hj => by
  have hj0 : j = 0 ∨ j = 1 := by simp at hj; omega
  rw [Addr.add_lit]
  rcases hj0 with rfl | rfl
  ·
   rw [show (w.alloc (.cells #[.int .u8 x, .int .u8 y] 5)).drew.cell? ⟨w.heap.size, 0 + 0, none⟩ = _ from (Blk.new w 5 #[.int .u8 x, .int .u8 y]).cell _]
   simp [u8_nat hx]
  ·
   rw [show (w.alloc (.cells #[.int .u8 x, .int .u8 y] 5)).drew.cell? ⟨w.heap.size, 0 + 1, none⟩ = _ from (Blk.new w 5 #[.int .u8 x, .int .u8 y]).cell _]
   simp [u8_nat hy])
 exact h
set_option maxHeartbeats 4000000 in
set_option maxRecDepth 100000 in
theorem mcell_any (p : Pos) (a : Nat) (W : World) (hp : PosOk p) (ha : a < p.cells.size) :
  Calls Tryz.prog 125 #[.agg #[.int .i64 p.w, .int .i64 p.h, .string p.cells, .int .i64 p.turn, .string p.h0, .string p.h1], .int .i64 (a : Int)] W fun e w' => e = .returned (.string (bytes (cellL p a))) ∧ Later W w' := by
 have Hb := hide (Blk.new W 24 #[.int .i64 p.w, .int .i64 p.h, .string p.cells, .int .i64 p.turn, .string p.h0, .string p.h1])
 have Hw := hide (show Later W (W.alloc (.cells #[.int .i64 p.w, .int .i64 p.h, .string p.cells, .int .i64 p.turn, .string p.h0, .string p.h1] 24)) from Later.rfl.alloc _)
 obtain ⟨n, hn⟩ : ∃ n : Nat, p.w = (n : Int) := ⟨p.w.toNat, by have := hp.w1; omega⟩
 have hn8 : 1 ≤ n ∧ n ≤ 8 := by have := hp.w1; have := hp.w8; omega
 have hsz := hp.size
 have hx : a % n < n := Nat.mod_lt _ (by omega)
 have hy : a / n < 8 := by
  rw [Nat.div_lt_iff_lt_mul (by omega)]
  have h1 := hp.h8
  have h2 : p.w * p.h ≤ p.w * 8 := Int.mul_le_mul_of_nonneg_left h1 (by omega)
  rw [hn] at h2
  rw [hn] at hsz
  have : (a : Int) < (n : Int) * 8 := by omega
  omega
 have HR := hide (show bytes [u8 (97 + a % n), u8 (49 + a / n)] = bytes (cellL p a) from by unfold cellL; rw [hn]; simp)
 obtain ⟨w0, hw0⟩ : ∃ w0, W.alloc (.cells #[.int .i64 p.w, .int .i64 p.h, .string p.cells, .int .i64 p.turn, .string p.h0, .string p.h1] 24) = w0 := ⟨_, rfl⟩
 have ez : ((n : Int) == 0) = false := by simp; omega
 have ex := mod_eqn a n
 have ey := div_eqn a n
 obtain ⟨x, hxx⟩ : ∃ x, a % n = x := ⟨_, rfl⟩
 obtain ⟨y, hyy⟩ : ∃ y, a / n = y := ⟨_, rfl⟩
 rw [hxx] at hx ex HR
 rw [hyy] at hy ey HR
 rw [hw0] at Hb Hw
 have cx : IntKind.u8.wrap (x : Int) = (x : Int) := IntWalk.u8_in _ (by omega)
 have cy : IntKind.u8.wrap (y : Int) = (y : Int) := IntWalk.u8_in _ (by omega)
 have dx : IntKind.u8.wrap (97 + (x : Int)) = ((97 + x : Nat) : Int) := by rw [show (97 + (x : Int)) = ((97 + x : Nat) : Int) by omega]; exact IntWalk.u8_in _ (by omega)
 have dy : IntKind.u8.wrap (49 + (y : Int)) = ((49 + y : Nat) : Int) := by rw [show (49 + (y : Int)) = ((49 + y : Nat) : Int) by omega]; exact IntWalk.u8_in _ (by omega)
 have hcv := conv_two (97 + x) (49 + y) (by omega) (by omega) w0
 push_cast at hcv dx dy
 obtain ⟨p0, p1, p2, p3, p4, p5⟩ := Hb.out.pos6
 rw [hn] at p0
 have hw0' := Eq.trans hw0 rfl
 rw [hn] at hw0'
 have HW0 := hide hw0'
 rw [hn]
 clear hxx hyy hsz hp ha hw0 hw0'
 go_enter Tryz.func125, Tryz.ntmps125
 go_upto_region 1 with (fail)
 rw [HW0.out]
 go_big_region
 go_wp2_with fail
 go_ret
 exact ⟨by rw [HR.out] <;> rfl, (Hw.out.alloc _).drew⟩
/-- a move's text -/
def mv_textL (p : Pos) (m : Mv) : List UInt8 :=
 if m.f < 0 then [u8 m.c, u8 64] ++ cellL p m.t.toNat else [u8 m.c] ++ cellL p m.f.toNat ++ [if cellN p m.t.toNat = 46 then 45 else 120] ++ cellL p m.t.toNat
def u8V (l : List Nat) : Array Value := (l.map fun n : Nat => Value.int .u8 (n : Int)).toArray
theorem conv_blk {w : World} {g : Nat} (cap : Nat) (l : List Nat) (hl : ∀ n ∈ l, n < 256) (hb : Blk w g 5 (u8V l)) : (convert 96 9 (.slice (some ⟨g, 0, none⟩) l.length cap)).run Tryz.prog w = .ok (.string (bytes (l.map u8))) w := by
 have hrun := run_convert_bytes_back (P := Tryz.prog) w 96 9 5 ⟨g, 0, none⟩ cap (l.map u8) Tryz.underlying96 Tryz.underlying5 Tryz.underlying9 (fun j hj => by
  have hj' : j < l.length := by simpa using hj
  rw [Addr.add_lit, hb.cell]
  unfold u8V
  simp [hj', u8_nat (hl _ (List.getElem_mem hj'))])
 rw [List.length_map] at hrun
 exact hrun
theorem conv_on {w : World} {g : Nat} (c : Nat) (hc : c < 256) (hb : Blk w g 5 #[.int .u8 (c : Int)]) : (convert 96 9 (.slice (some ⟨g, 0, none⟩) 1 1)).run Tryz.prog w = .ok (.string (bytes [u8 c])) w :=
 conv_blk 1 [c] (by simp; exact hc) hb
theorem posOk_size {p : Pos} (hp : PosOk p) : p.cells.size ≤ 64 := (pos_small hp).1
theorem step_conv {ops : Array Oper} {o : Oper} {a : Act} {K : Act → World → Prop} {Q : Exit → Act → World → Prop} {E : Prop} {w : World} (hgd : o.guard = none) (x : Operand) (ho : o.op = .convert 96 9 x)
  (l : List Nat) (hl : ∀ n ∈ l, n < 256) (g cap n : Nat) (hn : l.length = n) (hx : a.eval x = .slice (some ⟨g, 0, none⟩) n cap) (hb : Blk w g 5 (u8V l))
  (h : K (a.put o.dst (.string (bytes (l.map u8)))) w) : if Region.wanted o (yielded ops a.tmps) = true then Oper.wp Tryz.prog o a w K Q else E := by
 have hw : Region.wanted o (yielded ops a.tmps) = true := by simp [Region.wanted, hgd]
 rw [if_pos hw]
 subst hn
 have hr := conv_blk cap l hl hb
 unfold Oper.wp
 simp [execOp, ho, hx, hr, Result.andThen]
 exact h
theorem mv_bytes_cat (a b : List UInt8) : bytes a ++ bytes b = bytes (a ++ b) := by
 apply bytes_eq
 show (bytes a ++ bytes b).data.toList = a ++ b
 simp [bytes]
-- TEXTS BY mktext.py
set_option maxHeartbeats 4000000 in
set_option maxRecDepth 100000 in
theorem text_drop (p : Pos) (c t : Nat) (W : World) (hp : PosOk p) (hc : c < 256) (ht : t < p.cells.size) :
  Calls Tryz.prog 96 #[.agg #[.int .i64 p.w, .int .i64 p.h, .string p.cells, .int .i64 p.turn, .string p.h0, .string p.h1], .agg #[.int .i64 (-1), .int .i64 (t : Int), .int .u8 (c : Int)]] W fun e w' => e = .returned (.string (bytes ([u8 c, u8 64] ++ cellL p t))) ∧ Later W w' := by
 have Hbp := hide ((Blk.new W 24 #[.int .i64 p.w, .int .i64 p.h, .string p.cells, .int .i64 p.turn, .string p.h0, .string p.h1]).alloc (.cells #[.int .i64 (-1), .int .i64 (t : Int), .int .u8 (c : Int)] 101))
 have hbm := (Blk.new (W.alloc (.cells #[.int .i64 p.w, .int .i64 p.h, .string p.cells, .int .i64 p.turn, .string p.h0, .string p.h1] 24)) 101 #[.int .i64 (-1), .int .i64 (t : Int), .int .u8 (c : Int)])
 rw [World.size_alloc] at hbm
 have Hbm := hide hbm
 have Hw := hide (show Later W ((W.alloc (.cells #[.int .i64 p.w, .int .i64 p.h, .string p.cells, .int .i64 p.turn, .string p.h0, .string p.h1] 24)).alloc (.cells #[.int .i64 (-1), .int .i64 (t : Int), .int .u8 (c : Int)] 101)) from (Later.rfl.alloc _).alloc _)
 have HC := hide (fun w => mcell_any p t w hp ht)
 have Hc := hide hc
 clear hbm hp ht hc
 rw [← mv_bytes_cat]
 go_enter Tryz.func96, Tryz.ntmps96
 go_upto_region 1 with (fail)
 obtain ⟨w0, hw0⟩ : ∃ w0, (W.alloc (.cells #[.int .i64 p.w, .int .i64 p.h, .string p.cells, .int .i64 p.turn, .string p.h0, .string p.h1] 24)).alloc (.cells #[.int .i64 (-1), .int .i64 (t : Int), .int .u8 (c : Int)] 101) = w0 := ⟨_, rfl⟩
 rw [hw0] at Hbp Hbm Hw ⊢
 clear hw0
 obtain ⟨⟨m0, m1, m2⟩, -⟩ := Hbm.out.mv
 go_upto_region 2 with (fail)
 have s3 : (cellL p t).length = 2 := rfl
 have HSh := hide (show ∀ w' : World, Later w0 w' → (w'.cell? ⟨W.heap.size + 1, 0, none⟩ = some (.int .i64 (-1)) ∧ w'.cell? ⟨W.heap.size + 1, 1, none⟩ = some (.int .i64 (t : Int)) ∧ w'.cell? ⟨W.heap.size + 1, 2, none⟩ = some (.int .u8 (c : Int)) ∧ w'.cell? ⟨W.heap.size, 0, none⟩ = some (.int .i64 p.w) ∧ w'.cell? ⟨W.heap.size, 1, none⟩ = some (.int .i64 p.h) ∧ w'.cell? ⟨W.heap.size, 2, none⟩ = some (.string p.cells) ∧ w'.cell? ⟨W.heap.size, 3, none⟩ = some (.int .i64 p.turn) ∧ w'.cell? ⟨W.heap.size, 4, none⟩ = some (.string p.h0) ∧ w'.cell? ⟨W.heap.size, 5, none⟩ = some (.string p.h1)) from fun w' hw => by
  obtain ⟨⟨m0, m1, m2⟩, -⟩ := (hw.blk Hbm.out).mv
  obtain ⟨p0, p1, p2, p3, p4, p5⟩ := (hw.blk Hbp.out).pos6
  exact ⟨m0, m1, m2, p0, p1, p2, p3, p4, p5⟩)
 clear m0 m1 m2
 refine wp_region_held_drew (S := fun w' : World => (w'.cell? ⟨W.heap.size + 1, 0, none⟩ = some (.int .i64 (-1)) ∧ w'.cell? ⟨W.heap.size + 1, 1, none⟩ = some (.int .i64 (t : Int)) ∧ w'.cell? ⟨W.heap.size + 1, 2, none⟩ = some (.int .u8 (c : Int)) ∧ w'.cell? ⟨W.heap.size, 0, none⟩ = some (.int .i64 p.w) ∧ w'.cell? ⟨W.heap.size, 1, none⟩ = some (.int .i64 p.h) ∧ w'.cell? ⟨W.heap.size, 2, none⟩ = some (.string p.cells) ∧ w'.cell? ⟨W.heap.size, 3, none⟩ = some (.int .i64 p.turn) ∧ w'.cell? ⟨W.heap.size, 4, none⟩ = some (.string p.h0) ∧ w'.cell? ⟨W.heap.size, 5, none⟩ = some (.string p.h1))) (by kernel_rfl) (HSh.out _ Later.rfl.drew) (fun hHeld => ?_)
 refine tk 0 (some 9) (v := ?_) ?_ ?_; rotate_left 1; (intro w hSw; (try dsimp only at hSw); go_simp <;> with_reducible rfl); try simp only [Act.put, List.setIfInBounds_toArray, List.set_cons_zero, List.set_cons_succ]
 refine tk 1 (some 10) (v := ?_) ?_ ?_; rotate_left 1; (intro w hSw; (try dsimp only at hSw); go_simp <;> with_reducible rfl); try simp only [Act.put, List.setIfInBounds_toArray, List.set_cons_zero, List.set_cons_succ]
 refine tk 4 (some 13) (v := ?_) ?_ ?_; rotate_left 1; (intro w hSw; (try dsimp only at hSw); go_simp <;> with_reducible rfl); try simp only [Act.put, List.setIfInBounds_toArray, List.set_cons_zero, List.set_cons_succ]
 refine tk 5 (some 14) (v := ?_) ?_ ?_; rotate_left 1; (intro w hSw; (try dsimp only at hSw); go_simp <;> with_reducible rfl); try simp only [Act.put, List.setIfInBounds_toArray, List.set_cons_zero, List.set_cons_succ]
 refine tk 6 (some 15) (v := ?_) ?_ ?_; rotate_left 1; (intro w hSw; (try dsimp only at hSw); go_simp <;> with_reducible rfl); try simp only [Act.put, List.setIfInBounds_toArray, List.set_cons_zero, List.set_cons_succ]
 refine wpAnyH_ready (rs := [2, 7]) (by kernel_rfl) (by simp) ?_
 refine AllReadyH.cons (o := ⟨some 11, _, _, _, _, _⟩) rfl (fun K hK => ?_) ?_
 ·
  clear hHeld
  go_simp
  refine hK.out _ _ (by refine HSh.out _ ?_; repeat (first | exact Later.rfl | exact hwr | exact hwq | refine Later.drew ?_ | refine Later.alloc ?_ _)) (fun hHeld => ?_)
  clear hK K
  try simp only [Act.put, List.setIfInBounds_toArray, List.set_cons_zero, List.set_cons_succ]
  refine wpAnyH_ready (rs := [3, 7]) (by kernel_rfl) (by simp) ?_
  refine AllReadyH.cons (o := ⟨some 12, _, _, _, _, _⟩) rfl (fun K hK => ?_) ?_
  ·
   clear hHeld
   refine step_conv rfl _ rfl [c, 64] (by simp; exact Hc.out) _ 2 2 rfl rfl (by first | exact (Blk.new w0 _ _).drewN 1 | exact hwx.blk ((Blk.new w0 _ _).drewN 1) | exact Blk.new wq _ _) ?_
   refine hK.out _ _ (by refine HSh.out _ ?_; repeat (first | exact Later.rfl | exact hwr | exact hwq | refine Later.drew ?_ | refine Later.alloc ?_ _)) (fun hHeld => ?_)
   clear hK K
   try simp only [Act.put, List.setIfInBounds_toArray, List.set_cons_zero, List.set_cons_succ]
   refine wpAnyH_ready (rs := [7]) (by kernel_rfl) (by simp) ?_
   refine AllReadyH.cons (o := ⟨some 16, _, _, _, _, _⟩) rfl (fun K hK => ?_) ?_
   ·
    clear hHeld
    go_simp
    go_at_call 125
    refine (HC.out _).mono ?_
    rintro e wq ⟨rfl, hwx⟩
    have hwq := Later.trans (a := w0) (by repeat (first | exact Later.rfl | refine Later.drew ?_ | refine Later.alloc ?_ _)) hwx
    try go_wp2_with fail
    refine hK.out _ _ (by refine HSh.out _ ?_; repeat (first | exact Later.rfl | exact hwr | exact hwq | refine Later.drew ?_ | refine Later.alloc ?_ _)) (fun hHeld => ?_)
    clear hK K
    try simp only [Act.put, List.setIfInBounds_toArray, List.set_cons_zero, List.set_cons_succ]
    refine tk 8 (some 17) (v := ?_) ?_ ?_; rotate_left 1; (intro w hSw; (try dsimp only at hSw); go_simp <;> with_reducible rfl); try simp only [Act.put, List.setIfInBounds_toArray, List.set_cons_zero, List.set_cons_succ]
    refine tk 9 (some 4) (v := ?_) ?_ ?_; rotate_left 1; (intro w hSw; (try dsimp only at hSw); go_simp <;> with_reducible rfl); try simp only [Act.put, List.setIfInBounds_toArray, List.set_cons_zero, List.set_cons_succ]
    refine wpAnyH_done (by kernel_rfl) ?_ _
    go_wp2_with fail
    go_ret
    exact ⟨rfl, Hw.out.trans (by repeat (first | exact Later.rfl | exact hwq | refine Later.drew ?_ | refine Later.alloc ?_ _))⟩
   exact AllReadyH.nil
  refine AllReadyH.cons (o := ⟨some 16, _, _, _, _, _⟩) rfl (fun K hK => ?_) ?_
  ·
   clear hHeld
   go_simp
   go_at_call 125
   refine (HC.out _).mono ?_
   rintro e wq ⟨rfl, hwx⟩
   have hwq := Later.trans (a := w0) (by repeat (first | exact Later.rfl | refine Later.drew ?_ | refine Later.alloc ?_ _)) hwx
   try go_wp2_with fail
   refine hK.out _ _ (by refine HSh.out _ ?_; repeat (first | exact Later.rfl | exact hwr | exact hwq | refine Later.drew ?_ | refine Later.alloc ?_ _)) (fun hHeld => ?_)
   clear hK K
   try simp only [Act.put, List.setIfInBounds_toArray, List.set_cons_zero, List.set_cons_succ]
   refine wpAnyH_ready (rs := [3]) (by kernel_rfl) (by simp) ?_
   refine AllReadyH.cons (o := ⟨some 12, _, _, _, _, _⟩) rfl (fun K hK => ?_) ?_
   ·
    clear hHeld
    refine step_conv rfl _ rfl [c, 64] (by simp; exact Hc.out) _ 2 2 rfl rfl (by first | exact (Blk.new w0 _ _).drewN 1 | exact hwx.blk ((Blk.new w0 _ _).drewN 1) | exact Blk.new wq _ _) ?_
    refine hK.out _ _ (by refine HSh.out _ ?_; repeat (first | exact Later.rfl | exact hwr | exact hwq | refine Later.drew ?_ | refine Later.alloc ?_ _)) (fun hHeld => ?_)
    clear hK K
    try simp only [Act.put, List.setIfInBounds_toArray, List.set_cons_zero, List.set_cons_succ]
    refine tk 8 (some 17) (v := ?_) ?_ ?_; rotate_left 1; (intro w hSw; (try dsimp only at hSw); go_simp <;> with_reducible rfl); try simp only [Act.put, List.setIfInBounds_toArray, List.set_cons_zero, List.set_cons_succ]
    refine tk 9 (some 4) (v := ?_) ?_ ?_; rotate_left 1; (intro w hSw; (try dsimp only at hSw); go_simp <;> with_reducible rfl); try simp only [Act.put, List.setIfInBounds_toArray, List.set_cons_zero, List.set_cons_succ]
    refine wpAnyH_done (by kernel_rfl) ?_ _
    go_wp2_with fail
    go_ret
    exact ⟨rfl, Hw.out.trans (by repeat (first | exact Later.rfl | exact hwq | refine Later.drew ?_ | refine Later.alloc ?_ _))⟩
   exact AllReadyH.nil
  exact AllReadyH.nil
 refine AllReadyH.cons (o := ⟨some 16, _, _, _, _, _⟩) rfl (fun K hK => ?_) ?_
 ·
  clear hHeld
  go_simp
  go_at_call 125
  refine (HC.out _).mono ?_
  rintro e wq ⟨rfl, hwx⟩
  have hwq := Later.trans (a := w0) (by repeat (first | exact Later.rfl | refine Later.drew ?_ | refine Later.alloc ?_ _)) hwx
  try go_wp2_with fail
  refine hK.out _ _ (by refine HSh.out _ ?_; repeat (first | exact Later.rfl | exact hwr | exact hwq | refine Later.drew ?_ | refine Later.alloc ?_ _)) (fun hHeld => ?_)
  clear hK K
  try simp only [Act.put, List.setIfInBounds_toArray, List.set_cons_zero, List.set_cons_succ]
  refine wpAnyH_ready (rs := [2]) (by kernel_rfl) (by simp) ?_
  refine AllReadyH.cons (o := ⟨some 11, _, _, _, _, _⟩) rfl (fun K hK => ?_) ?_
  ·
   clear hHeld
   go_simp
   refine hK.out _ _ (by refine HSh.out _ ?_; repeat (first | exact Later.rfl | exact hwr | exact hwq | refine Later.drew ?_ | refine Later.alloc ?_ _)) (fun hHeld => ?_)
   clear hK K
   try simp only [Act.put, List.setIfInBounds_toArray, List.set_cons_zero, List.set_cons_succ]
   refine wpAnyH_ready (rs := [3]) (by kernel_rfl) (by simp) ?_
   refine AllReadyH.cons (o := ⟨some 12, _, _, _, _, _⟩) rfl (fun K hK => ?_) ?_
   ·
    clear hHeld
    refine step_conv rfl _ rfl [c, 64] (by simp; exact Hc.out) _ 2 2 rfl rfl (by first | exact (Blk.new w0 _ _).drewN 1 | exact hwx.blk ((Blk.new w0 _ _).drewN 1) | exact Blk.new wq _ _) ?_
    refine hK.out _ _ (by refine HSh.out _ ?_; repeat (first | exact Later.rfl | exact hwr | exact hwq | refine Later.drew ?_ | refine Later.alloc ?_ _)) (fun hHeld => ?_)
    clear hK K
    try simp only [Act.put, List.setIfInBounds_toArray, List.set_cons_zero, List.set_cons_succ]
    refine tk 8 (some 17) (v := ?_) ?_ ?_; rotate_left 1; (intro w hSw; (try dsimp only at hSw); go_simp <;> with_reducible rfl); try simp only [Act.put, List.setIfInBounds_toArray, List.set_cons_zero, List.set_cons_succ]
    refine tk 9 (some 4) (v := ?_) ?_ ?_; rotate_left 1; (intro w hSw; (try dsimp only at hSw); go_simp <;> with_reducible rfl); try simp only [Act.put, List.setIfInBounds_toArray, List.set_cons_zero, List.set_cons_succ]
    refine wpAnyH_done (by kernel_rfl) ?_ _
    go_wp2_with fail
    go_ret
    exact ⟨rfl, Hw.out.trans (by repeat (first | exact Later.rfl | exact hwq | refine Later.drew ?_ | refine Later.alloc ?_ _))⟩
   exact AllReadyH.nil
  exact AllReadyH.nil
 exact AllReadyH.nil
set_option maxHeartbeats 4000000 in
set_option maxRecDepth 100000 in
theorem text_board (p : Pos) (c f t : Nat) (W : World) (hp : PosOk p) (hc : c < 256) (ht : t < p.cells.size) (hfs : f < p.cells.size) :
  Calls Tryz.prog 96 #[.agg #[.int .i64 p.w, .int .i64 p.h, .string p.cells, .int .i64 p.turn, .string p.h0, .string p.h1], .agg #[.int .i64 (f : Int), .int .i64 (t : Int), .int .u8 (c : Int)]] W fun e w' => e = .returned (.string (bytes ([u8 c] ++ cellL p f ++ [if cellN p t = 46 then 45 else 120] ++ cellL p t))) ∧ Later W w' := by
 have Hbp := hide ((Blk.new W 24 #[.int .i64 p.w, .int .i64 p.h, .string p.cells, .int .i64 p.turn, .string p.h0, .string p.h1]).alloc (.cells #[.int .i64 (f : Int), .int .i64 (t : Int), .int .u8 (c : Int)] 101))
 have hbm := (Blk.new (W.alloc (.cells #[.int .i64 p.w, .int .i64 p.h, .string p.cells, .int .i64 p.turn, .string p.h0, .string p.h1] 24)) 101 #[.int .i64 (f : Int), .int .i64 (t : Int), .int .u8 (c : Int)])
 rw [World.size_alloc] at hbm
 have Hbm := hide hbm
 have Hw := hide (show Later W ((W.alloc (.cells #[.int .i64 p.w, .int .i64 p.h, .string p.cells, .int .i64 p.turn, .string p.h0, .string p.h1] 24)).alloc (.cells #[.int .i64 (f : Int), .int .i64 (t : Int), .int .u8 (c : Int)] 101)) from (Later.rfl.alloc _).alloc _)
 have HC := hide (fun w => mcell_any p t w hp ht)
 have HF := hide (fun w => mcell_any p f w hp hfs)
 have Hc := hide hc
 have hsz := (posOk_size hp)
 have t1 : decide ((f : Int) < 0) = false := by simp
 have i6 : p.cells[t].toNat = cellN p t := by
  unfold cellN
  rw [getD_get (show t < p.cells.data.toList.length from ht)]
  rfl
 obtain ⟨y, hy⟩ : ∃ y, cellN p t = y := ⟨_, rfl⟩
 rw [hy] at i6 ⊢
 have ti : (t : Int) < (p.cells.size : Int) := by omega
 obtain ⟨x, hx⟩ : ∃ x : UInt8, (if y = 46 then 45 else 120) = x := ⟨_, rfl⟩
 rw [hx]
 have Hx := hide hx
 clear hbm hp hfs hc hy hx
 rw [← mv_bytes_cat, ← mv_bytes_cat, ← mv_bytes_cat]
 go_enter Tryz.func96, Tryz.ntmps96
 go_upto_region 1 with (fail)
 obtain ⟨w0, hw0⟩ : ∃ w0, (W.alloc (.cells #[.int .i64 p.w, .int .i64 p.h, .string p.cells, .int .i64 p.turn, .string p.h0, .string p.h1] 24)).alloc (.cells #[.int .i64 (f : Int), .int .i64 (t : Int), .int .u8 (c : Int)] 101) = w0 := ⟨_, rfl⟩
 rw [hw0] at Hbp Hbm Hw ⊢
 clear hw0
 obtain ⟨⟨m0, m1, m2⟩, -⟩ := Hbm.out.mv
 obtain ⟨p0, p1, p2, p3, p4, p5⟩ := Hbp.out.pos6
 have s3 : (cellL p t).length = 2 := rfl
 have s4 : (cellL p f).length = 2 := rfl
 have HSh := hide (show ∀ w' : World, Later w0 w' → (w'.cell? ⟨W.heap.size + 1, 0, none⟩ = some (.int .i64 (f : Int)) ∧ w'.cell? ⟨W.heap.size + 1, 1, none⟩ = some (.int .i64 (t : Int)) ∧ w'.cell? ⟨W.heap.size + 1, 2, none⟩ = some (.int .u8 (c : Int)) ∧ w'.cell? ⟨W.heap.size, 0, none⟩ = some (.int .i64 p.w) ∧ w'.cell? ⟨W.heap.size, 1, none⟩ = some (.int .i64 p.h) ∧ w'.cell? ⟨W.heap.size, 2, none⟩ = some (.string p.cells) ∧ w'.cell? ⟨W.heap.size, 3, none⟩ = some (.int .i64 p.turn) ∧ w'.cell? ⟨W.heap.size, 4, none⟩ = some (.string p.h0) ∧ w'.cell? ⟨W.heap.size, 5, none⟩ = some (.string p.h1)) from fun w' hw => by
  obtain ⟨⟨m0, m1, m2⟩, -⟩ := (hw.blk Hbm.out).mv
  obtain ⟨p0, p1, p2, p3, p4, p5⟩ := (hw.blk Hbp.out).pos6
  exact ⟨m0, m1, m2, p0, p1, p2, p3, p4, p5⟩)
 by_cases h46 : y = 46
 ·
  have tb : ((y : Int) != 46) = false := by simp; omega
  obtain rfl : (45 : UInt8) = x := by rw [← Hx.out, if_pos h46]
  clear h46
  go_upto_region 6 with (fail)
  clear m0 m1 m2 p0 p1 p2 p3 p4 p5 i6 ti tb t1 ht hsz
  refine wp_region_held_drew (S := fun w' : World => (w'.cell? ⟨W.heap.size + 1, 0, none⟩ = some (.int .i64 (f : Int)) ∧ w'.cell? ⟨W.heap.size + 1, 1, none⟩ = some (.int .i64 (t : Int)) ∧ w'.cell? ⟨W.heap.size + 1, 2, none⟩ = some (.int .u8 (c : Int)) ∧ w'.cell? ⟨W.heap.size, 0, none⟩ = some (.int .i64 p.w) ∧ w'.cell? ⟨W.heap.size, 1, none⟩ = some (.int .i64 p.h) ∧ w'.cell? ⟨W.heap.size, 2, none⟩ = some (.string p.cells) ∧ w'.cell? ⟨W.heap.size, 3, none⟩ = some (.int .i64 p.turn) ∧ w'.cell? ⟨W.heap.size, 4, none⟩ = some (.string p.h0) ∧ w'.cell? ⟨W.heap.size, 5, none⟩ = some (.string p.h1))) (by kernel_rfl) (HSh.out _ Later.rfl.drew) (fun hHeld => ?_)
  refine tk 0 (some 24) (v := ?_) ?_ ?_; rotate_left 1; (intro w hSw; (try dsimp only at hSw); go_simp <;> with_reducible rfl); try simp only [Act.put, List.setIfInBounds_toArray, List.set_cons_zero, List.set_cons_succ]
  refine tk 1 (some 25) (v := ?_) ?_ ?_; rotate_left 1; (intro w hSw; (try dsimp only at hSw); go_simp <;> with_reducible rfl); try simp only [Act.put, List.setIfInBounds_toArray, List.set_cons_zero, List.set_cons_succ]
  refine tk 4 (some 28) (v := ?_) ?_ ?_; rotate_left 1; (intro w hSw; (try dsimp only at hSw); go_simp <;> with_reducible rfl); try simp only [Act.put, List.setIfInBounds_toArray, List.set_cons_zero, List.set_cons_succ]
  refine tk 5 (some 29) (v := ?_) ?_ ?_; rotate_left 1; (intro w hSw; (try dsimp only at hSw); go_simp <;> with_reducible rfl); try simp only [Act.put, List.setIfInBounds_toArray, List.set_cons_zero, List.set_cons_succ]
  refine tk 6 (some 30) (v := ?_) ?_ ?_; rotate_left 1; (intro w hSw; (try dsimp only at hSw); go_simp <;> with_reducible rfl); try simp only [Act.put, List.setIfInBounds_toArray, List.set_cons_zero, List.set_cons_succ]
  refine tk 9 (some 33) (v := ?_) ?_ ?_; rotate_left 1; (intro w hSw; (try dsimp only at hSw); go_simp <;> with_reducible rfl); try simp only [Act.put, List.setIfInBounds_toArray, List.set_cons_zero, List.set_cons_succ]
  refine tk 11 (some 35) (v := ?_) ?_ ?_; rotate_left 1; (intro w hSw; (try dsimp only at hSw); go_simp <;> with_reducible rfl); try simp only [Act.put, List.setIfInBounds_toArray, List.set_cons_zero, List.set_cons_succ]
  refine tk 12 (some 36) (v := ?_) ?_ ?_; rotate_left 1; (intro w hSw; (try dsimp only at hSw); go_simp <;> with_reducible rfl); try simp only [Act.put, List.setIfInBounds_toArray, List.set_cons_zero, List.set_cons_succ]
  refine tk 13 (some 37) (v := ?_) ?_ ?_; rotate_left 1; (intro w hSw; (try dsimp only at hSw); go_simp <;> with_reducible rfl); try simp only [Act.put, List.setIfInBounds_toArray, List.set_cons_zero, List.set_cons_succ]
  refine wpAnyH_ready (rs := [2, 7]) (by kernel_rfl) (by simp) ?_
  refine AllReadyH.cons (o := ⟨some 26, _, _, _, _, _⟩) rfl (fun K hK => ?_) ?_
  ·
   clear hHeld
   go_simp
   refine hK.out _ _ (by refine HSh.out _ ?_; repeat (first | exact Later.rfl | exact hwr | exact hwq | refine Later.drew ?_ | refine Later.alloc ?_ _)) (fun hHeld => ?_)
   clear hK K
   try simp only [Act.put, List.setIfInBounds_toArray, List.set_cons_zero, List.set_cons_succ]
   refine wpAnyH_ready (rs := [3, 7]) (by kernel_rfl) (by simp) ?_
   refine AllReadyH.cons (o := ⟨some 27, _, _, _, _, _⟩) rfl (fun K hK => ?_) ?_
   ·
    clear hHeld
    refine step_conv rfl _ rfl [c] (by simp; exact Hc.out) _ 1 1 rfl rfl (by first | exact (Blk.new w0 _ _).drewN 1 | exact hwx.blk ((Blk.new w0 _ _).drewN 1) | exact hwy.blk (hwx.blk ((Blk.new w0 _ _).drewN 1)) | exact Blk.new wq _ _ | exact hwy.blk (Blk.new wq _ _) | exact Blk.new wr _ _) ?_
    refine hK.out _ _ (by refine HSh.out _ ?_; repeat (first | exact Later.rfl | exact hwr | exact hwq | refine Later.drew ?_ | refine Later.alloc ?_ _)) (fun hHeld => ?_)
    clear hK K
    try simp only [Act.put, List.setIfInBounds_toArray, List.set_cons_zero, List.set_cons_succ]
    refine wpAnyH_ready (rs := [7]) (by kernel_rfl) (by simp) ?_
    refine AllReadyH.cons (o := ⟨some 31, _, _, _, _, _⟩) rfl (fun K hK => ?_) ?_
    ·
     clear hHeld
     go_simp
     go_at_call 125
     refine (HF.out _).mono ?_
     rintro e wq ⟨rfl, hwx⟩
     have hwq : Later w0 wq := Later.trans (by repeat (first | exact Later.rfl | exact hwq | refine Later.drew ?_ | refine Later.alloc ?_ _)) hwx
     try go_wp2_with fail
     refine hK.out _ _ (by refine HSh.out _ ?_; repeat (first | exact Later.rfl | exact hwr | exact hwq | refine Later.drew ?_ | refine Later.alloc ?_ _)) (fun hHeld => ?_)
     clear hK K
     try simp only [Act.put, List.setIfInBounds_toArray, List.set_cons_zero, List.set_cons_succ]
     refine tk 8 (some 32) (v := ?_) ?_ ?_; rotate_left 1; (intro w hSw; (try dsimp only at hSw); go_simp <;> with_reducible rfl); try simp only [Act.put, List.setIfInBounds_toArray, List.set_cons_zero, List.set_cons_succ]
     refine tk 10 (some 34) (v := ?_) ?_ ?_; rotate_left 1; (intro w hSw; (try dsimp only at hSw); go_simp <;> with_reducible rfl); try simp only [Act.put, List.setIfInBounds_toArray, List.set_cons_zero, List.set_cons_succ]
     refine wpAnyH_ready (rs := [14]) (by kernel_rfl) (by simp) ?_
     refine AllReadyH.cons (o := ⟨some 38, _, _, _, _, _⟩) rfl (fun K hK => ?_) ?_
     ·
      clear hHeld
      go_simp
      go_at_call 125
      refine (HC.out _).mono ?_
      rintro e wr ⟨rfl, hwy⟩
      have hwr : Later w0 wr := Later.trans (by repeat (first | exact Later.rfl | exact hwq | refine Later.drew ?_ | refine Later.alloc ?_ _)) hwy
      try go_wp2_with fail
      refine hK.out _ _ (by refine HSh.out _ ?_; repeat (first | exact Later.rfl | exact hwr | exact hwq | refine Later.drew ?_ | refine Later.alloc ?_ _)) (fun hHeld => ?_)
      clear hK K
      try simp only [Act.put, List.setIfInBounds_toArray, List.set_cons_zero, List.set_cons_succ]
      refine tk 15 (some 39) (v := ?_) ?_ ?_; rotate_left 1; (intro w hSw; (try dsimp only at hSw); go_simp <;> with_reducible rfl); try simp only [Act.put, List.setIfInBounds_toArray, List.set_cons_zero, List.set_cons_succ]
      refine tk 16 (some 4) (v := ?_) ?_ ?_; rotate_left 1; (intro w hSw; (try dsimp only at hSw); go_simp <;> with_reducible rfl); try simp only [Act.put, List.setIfInBounds_toArray, List.set_cons_zero, List.set_cons_succ]
      refine wpAnyH_done (by kernel_rfl) ?_ _
      go_wp2_with fail
      go_ret
      exact ⟨rfl, Hw.out.trans (by repeat (first | exact Later.rfl | exact hwr | exact hwq | refine Later.drew ?_ | refine Later.alloc ?_ _))⟩
     exact AllReadyH.nil
    exact AllReadyH.nil
   refine AllReadyH.cons (o := ⟨some 31, _, _, _, _, _⟩) rfl (fun K hK => ?_) ?_
   ·
    clear hHeld
    go_simp
    go_at_call 125
    refine (HF.out _).mono ?_
    rintro e wq ⟨rfl, hwx⟩
    have hwq : Later w0 wq := Later.trans (by repeat (first | exact Later.rfl | exact hwq | refine Later.drew ?_ | refine Later.alloc ?_ _)) hwx
    try go_wp2_with fail
    refine hK.out _ _ (by refine HSh.out _ ?_; repeat (first | exact Later.rfl | exact hwr | exact hwq | refine Later.drew ?_ | refine Later.alloc ?_ _)) (fun hHeld => ?_)
    clear hK K
    try simp only [Act.put, List.setIfInBounds_toArray, List.set_cons_zero, List.set_cons_succ]
    refine wpAnyH_ready (rs := [3, 14]) (by kernel_rfl) (by simp) ?_
    refine AllReadyH.cons (o := ⟨some 27, _, _, _, _, _⟩) rfl (fun K hK => ?_) ?_
    ·
     clear hHeld
     refine step_conv rfl _ rfl [c] (by simp; exact Hc.out) _ 1 1 rfl rfl (by first | exact (Blk.new w0 _ _).drewN 1 | exact hwx.blk ((Blk.new w0 _ _).drewN 1) | exact hwy.blk (hwx.blk ((Blk.new w0 _ _).drewN 1)) | exact Blk.new wq _ _ | exact hwy.blk (Blk.new wq _ _) | exact Blk.new wr _ _) ?_
     refine hK.out _ _ (by refine HSh.out _ ?_; repeat (first | exact Later.rfl | exact hwr | exact hwq | refine Later.drew ?_ | refine Later.alloc ?_ _)) (fun hHeld => ?_)
     clear hK K
     try simp only [Act.put, List.setIfInBounds_toArray, List.set_cons_zero, List.set_cons_succ]
     refine tk 8 (some 32) (v := ?_) ?_ ?_; rotate_left 1; (intro w hSw; (try dsimp only at hSw); go_simp <;> with_reducible rfl); try simp only [Act.put, List.setIfInBounds_toArray, List.set_cons_zero, List.set_cons_succ]
     refine tk 10 (some 34) (v := ?_) ?_ ?_; rotate_left 1; (intro w hSw; (try dsimp only at hSw); go_simp <;> with_reducible rfl); try simp only [Act.put, List.setIfInBounds_toArray, List.set_cons_zero, List.set_cons_succ]
     refine wpAnyH_ready (rs := [14]) (by kernel_rfl) (by simp) ?_
     refine AllReadyH.cons (o := ⟨some 38, _, _, _, _, _⟩) rfl (fun K hK => ?_) ?_
     ·
      clear hHeld
      go_simp
      go_at_call 125
      refine (HC.out _).mono ?_
      rintro e wr ⟨rfl, hwy⟩
      have hwr : Later w0 wr := Later.trans (by repeat (first | exact Later.rfl | exact hwq | refine Later.drew ?_ | refine Later.alloc ?_ _)) hwy
      try go_wp2_with fail
      refine hK.out _ _ (by refine HSh.out _ ?_; repeat (first | exact Later.rfl | exact hwr | exact hwq | refine Later.drew ?_ | refine Later.alloc ?_ _)) (fun hHeld => ?_)
      clear hK K
      try simp only [Act.put, List.setIfInBounds_toArray, List.set_cons_zero, List.set_cons_succ]
      refine tk 15 (some 39) (v := ?_) ?_ ?_; rotate_left 1; (intro w hSw; (try dsimp only at hSw); go_simp <;> with_reducible rfl); try simp only [Act.put, List.setIfInBounds_toArray, List.set_cons_zero, List.set_cons_succ]
      refine tk 16 (some 4) (v := ?_) ?_ ?_; rotate_left 1; (intro w hSw; (try dsimp only at hSw); go_simp <;> with_reducible rfl); try simp only [Act.put, List.setIfInBounds_toArray, List.set_cons_zero, List.set_cons_succ]
      refine wpAnyH_done (by kernel_rfl) ?_ _
      go_wp2_with fail
      go_ret
      exact ⟨rfl, Hw.out.trans (by repeat (first | exact Later.rfl | exact hwr | exact hwq | refine Later.drew ?_ | refine Later.alloc ?_ _))⟩
     exact AllReadyH.nil
    refine AllReadyH.cons (o := ⟨some 38, _, _, _, _, _⟩) rfl (fun K hK => ?_) ?_
    ·
     clear hHeld
     go_simp
     go_at_call 125
     refine (HC.out _).mono ?_
     rintro e wr ⟨rfl, hwy⟩
     have hwr : Later w0 wr := Later.trans (by repeat (first | exact Later.rfl | exact hwq | refine Later.drew ?_ | refine Later.alloc ?_ _)) hwy
     try go_wp2_with fail
     refine hK.out _ _ (by refine HSh.out _ ?_; repeat (first | exact Later.rfl | exact hwr | exact hwq | refine Later.drew ?_ | refine Later.alloc ?_ _)) (fun hHeld => ?_)
     clear hK K
     try simp only [Act.put, List.setIfInBounds_toArray, List.set_cons_zero, List.set_cons_succ]
     refine wpAnyH_ready (rs := [3]) (by kernel_rfl) (by simp) ?_
     refine AllReadyH.cons (o := ⟨some 27, _, _, _, _, _⟩) rfl (fun K hK => ?_) ?_
     ·
      clear hHeld
      refine step_conv rfl _ rfl [c] (by simp; exact Hc.out) _ 1 1 rfl rfl (by first | exact (Blk.new w0 _ _).drewN 1 | exact hwx.blk ((Blk.new w0 _ _).drewN 1) | exact hwy.blk (hwx.blk ((Blk.new w0 _ _).drewN 1)) | exact Blk.new wq _ _ | exact hwy.blk (Blk.new wq _ _) | exact Blk.new wr _ _) ?_
      refine hK.out _ _ (by refine HSh.out _ ?_; repeat (first | exact Later.rfl | exact hwr | exact hwq | refine Later.drew ?_ | refine Later.alloc ?_ _)) (fun hHeld => ?_)
      clear hK K
      try simp only [Act.put, List.setIfInBounds_toArray, List.set_cons_zero, List.set_cons_succ]
      refine tk 8 (some 32) (v := ?_) ?_ ?_; rotate_left 1; (intro w hSw; (try dsimp only at hSw); go_simp <;> with_reducible rfl); try simp only [Act.put, List.setIfInBounds_toArray, List.set_cons_zero, List.set_cons_succ]
      refine tk 10 (some 34) (v := ?_) ?_ ?_; rotate_left 1; (intro w hSw; (try dsimp only at hSw); go_simp <;> with_reducible rfl); try simp only [Act.put, List.setIfInBounds_toArray, List.set_cons_zero, List.set_cons_succ]
      refine tk 15 (some 39) (v := ?_) ?_ ?_; rotate_left 1; (intro w hSw; (try dsimp only at hSw); go_simp <;> with_reducible rfl); try simp only [Act.put, List.setIfInBounds_toArray, List.set_cons_zero, List.set_cons_succ]
      refine tk 16 (some 4) (v := ?_) ?_ ?_; rotate_left 1; (intro w hSw; (try dsimp only at hSw); go_simp <;> with_reducible rfl); try simp only [Act.put, List.setIfInBounds_toArray, List.set_cons_zero, List.set_cons_succ]
      refine wpAnyH_done (by kernel_rfl) ?_ _
      go_wp2_with fail
      go_ret
      exact ⟨rfl, Hw.out.trans (by repeat (first | exact Later.rfl | exact hwr | exact hwq | refine Later.drew ?_ | refine Later.alloc ?_ _))⟩
     exact AllReadyH.nil
    exact AllReadyH.nil
   exact AllReadyH.nil
  refine AllReadyH.cons (o := ⟨some 31, _, _, _, _, _⟩) rfl (fun K hK => ?_) ?_
  ·
   clear hHeld
   go_simp
   go_at_call 125
   refine (HF.out _).mono ?_
   rintro e wq ⟨rfl, hwx⟩
   have hwq : Later w0 wq := Later.trans (by repeat (first | exact Later.rfl | exact hwq | refine Later.drew ?_ | refine Later.alloc ?_ _)) hwx
   try go_wp2_with fail
   refine hK.out _ _ (by refine HSh.out _ ?_; repeat (first | exact Later.rfl | exact hwr | exact hwq | refine Later.drew ?_ | refine Later.alloc ?_ _)) (fun hHeld => ?_)
   clear hK K
   try simp only [Act.put, List.setIfInBounds_toArray, List.set_cons_zero, List.set_cons_succ]
   refine wpAnyH_ready (rs := [2, 14]) (by kernel_rfl) (by simp) ?_
   refine AllReadyH.cons (o := ⟨some 26, _, _, _, _, _⟩) rfl (fun K hK => ?_) ?_
   ·
    clear hHeld
    go_simp
    refine hK.out _ _ (by refine HSh.out _ ?_; repeat (first | exact Later.rfl | exact hwr | exact hwq | refine Later.drew ?_ | refine Later.alloc ?_ _)) (fun hHeld => ?_)
    clear hK K
    try simp only [Act.put, List.setIfInBounds_toArray, List.set_cons_zero, List.set_cons_succ]
    refine wpAnyH_ready (rs := [3, 14]) (by kernel_rfl) (by simp) ?_
    refine AllReadyH.cons (o := ⟨some 27, _, _, _, _, _⟩) rfl (fun K hK => ?_) ?_
    ·
     clear hHeld
     refine step_conv rfl _ rfl [c] (by simp; exact Hc.out) _ 1 1 rfl rfl (by first | exact (Blk.new w0 _ _).drewN 1 | exact hwx.blk ((Blk.new w0 _ _).drewN 1) | exact hwy.blk (hwx.blk ((Blk.new w0 _ _).drewN 1)) | exact Blk.new wq _ _ | exact hwy.blk (Blk.new wq _ _) | exact Blk.new wr _ _) ?_
     refine hK.out _ _ (by refine HSh.out _ ?_; repeat (first | exact Later.rfl | exact hwr | exact hwq | refine Later.drew ?_ | refine Later.alloc ?_ _)) (fun hHeld => ?_)
     clear hK K
     try simp only [Act.put, List.setIfInBounds_toArray, List.set_cons_zero, List.set_cons_succ]
     refine tk 8 (some 32) (v := ?_) ?_ ?_; rotate_left 1; (intro w hSw; (try dsimp only at hSw); go_simp <;> with_reducible rfl); try simp only [Act.put, List.setIfInBounds_toArray, List.set_cons_zero, List.set_cons_succ]
     refine tk 10 (some 34) (v := ?_) ?_ ?_; rotate_left 1; (intro w hSw; (try dsimp only at hSw); go_simp <;> with_reducible rfl); try simp only [Act.put, List.setIfInBounds_toArray, List.set_cons_zero, List.set_cons_succ]
     refine wpAnyH_ready (rs := [14]) (by kernel_rfl) (by simp) ?_
     refine AllReadyH.cons (o := ⟨some 38, _, _, _, _, _⟩) rfl (fun K hK => ?_) ?_
     ·
      clear hHeld
      go_simp
      go_at_call 125
      refine (HC.out _).mono ?_
      rintro e wr ⟨rfl, hwy⟩
      have hwr : Later w0 wr := Later.trans (by repeat (first | exact Later.rfl | exact hwq | refine Later.drew ?_ | refine Later.alloc ?_ _)) hwy
      try go_wp2_with fail
      refine hK.out _ _ (by refine HSh.out _ ?_; repeat (first | exact Later.rfl | exact hwr | exact hwq | refine Later.drew ?_ | refine Later.alloc ?_ _)) (fun hHeld => ?_)
      clear hK K
      try simp only [Act.put, List.setIfInBounds_toArray, List.set_cons_zero, List.set_cons_succ]
      refine tk 15 (some 39) (v := ?_) ?_ ?_; rotate_left 1; (intro w hSw; (try dsimp only at hSw); go_simp <;> with_reducible rfl); try simp only [Act.put, List.setIfInBounds_toArray, List.set_cons_zero, List.set_cons_succ]
      refine tk 16 (some 4) (v := ?_) ?_ ?_; rotate_left 1; (intro w hSw; (try dsimp only at hSw); go_simp <;> with_reducible rfl); try simp only [Act.put, List.setIfInBounds_toArray, List.set_cons_zero, List.set_cons_succ]
      refine wpAnyH_done (by kernel_rfl) ?_ _
      go_wp2_with fail
      go_ret
      exact ⟨rfl, Hw.out.trans (by repeat (first | exact Later.rfl | exact hwr | exact hwq | refine Later.drew ?_ | refine Later.alloc ?_ _))⟩
     exact AllReadyH.nil
    refine AllReadyH.cons (o := ⟨some 38, _, _, _, _, _⟩) rfl (fun K hK => ?_) ?_
    ·
     clear hHeld
     go_simp
     go_at_call 125
     refine (HC.out _).mono ?_
     rintro e wr ⟨rfl, hwy⟩
     have hwr : Later w0 wr := Later.trans (by repeat (first | exact Later.rfl | exact hwq | refine Later.drew ?_ | refine Later.alloc ?_ _)) hwy
     try go_wp2_with fail
     refine hK.out _ _ (by refine HSh.out _ ?_; repeat (first | exact Later.rfl | exact hwr | exact hwq | refine Later.drew ?_ | refine Later.alloc ?_ _)) (fun hHeld => ?_)
     clear hK K
     try simp only [Act.put, List.setIfInBounds_toArray, List.set_cons_zero, List.set_cons_succ]
     refine wpAnyH_ready (rs := [3]) (by kernel_rfl) (by simp) ?_
     refine AllReadyH.cons (o := ⟨some 27, _, _, _, _, _⟩) rfl (fun K hK => ?_) ?_
     ·
      clear hHeld
      refine step_conv rfl _ rfl [c] (by simp; exact Hc.out) _ 1 1 rfl rfl (by first | exact (Blk.new w0 _ _).drewN 1 | exact hwx.blk ((Blk.new w0 _ _).drewN 1) | exact hwy.blk (hwx.blk ((Blk.new w0 _ _).drewN 1)) | exact Blk.new wq _ _ | exact hwy.blk (Blk.new wq _ _) | exact Blk.new wr _ _) ?_
      refine hK.out _ _ (by refine HSh.out _ ?_; repeat (first | exact Later.rfl | exact hwr | exact hwq | refine Later.drew ?_ | refine Later.alloc ?_ _)) (fun hHeld => ?_)
      clear hK K
      try simp only [Act.put, List.setIfInBounds_toArray, List.set_cons_zero, List.set_cons_succ]
      refine tk 8 (some 32) (v := ?_) ?_ ?_; rotate_left 1; (intro w hSw; (try dsimp only at hSw); go_simp <;> with_reducible rfl); try simp only [Act.put, List.setIfInBounds_toArray, List.set_cons_zero, List.set_cons_succ]
      refine tk 10 (some 34) (v := ?_) ?_ ?_; rotate_left 1; (intro w hSw; (try dsimp only at hSw); go_simp <;> with_reducible rfl); try simp only [Act.put, List.setIfInBounds_toArray, List.set_cons_zero, List.set_cons_succ]
      refine tk 15 (some 39) (v := ?_) ?_ ?_; rotate_left 1; (intro w hSw; (try dsimp only at hSw); go_simp <;> with_reducible rfl); try simp only [Act.put, List.setIfInBounds_toArray, List.set_cons_zero, List.set_cons_succ]
      refine tk 16 (some 4) (v := ?_) ?_ ?_; rotate_left 1; (intro w hSw; (try dsimp only at hSw); go_simp <;> with_reducible rfl); try simp only [Act.put, List.setIfInBounds_toArray, List.set_cons_zero, List.set_cons_succ]
      refine wpAnyH_done (by kernel_rfl) ?_ _
      go_wp2_with fail
      go_ret
      exact ⟨rfl, Hw.out.trans (by repeat (first | exact Later.rfl | exact hwr | exact hwq | refine Later.drew ?_ | refine Later.alloc ?_ _))⟩
     exact AllReadyH.nil
    exact AllReadyH.nil
   refine AllReadyH.cons (o := ⟨some 38, _, _, _, _, _⟩) rfl (fun K hK => ?_) ?_
   ·
    clear hHeld
    go_simp
    go_at_call 125
    refine (HC.out _).mono ?_
    rintro e wr ⟨rfl, hwy⟩
    have hwr : Later w0 wr := Later.trans (by repeat (first | exact Later.rfl | exact hwq | refine Later.drew ?_ | refine Later.alloc ?_ _)) hwy
    try go_wp2_with fail
    refine hK.out _ _ (by refine HSh.out _ ?_; repeat (first | exact Later.rfl | exact hwr | exact hwq | refine Later.drew ?_ | refine Later.alloc ?_ _)) (fun hHeld => ?_)
    clear hK K
    try simp only [Act.put, List.setIfInBounds_toArray, List.set_cons_zero, List.set_cons_succ]
    refine wpAnyH_ready (rs := [2]) (by kernel_rfl) (by simp) ?_
    refine AllReadyH.cons (o := ⟨some 26, _, _, _, _, _⟩) rfl (fun K hK => ?_) ?_
    ·
     clear hHeld
     go_simp
     refine hK.out _ _ (by refine HSh.out _ ?_; repeat (first | exact Later.rfl | exact hwr | exact hwq | refine Later.drew ?_ | refine Later.alloc ?_ _)) (fun hHeld => ?_)
     clear hK K
     try simp only [Act.put, List.setIfInBounds_toArray, List.set_cons_zero, List.set_cons_succ]
     refine wpAnyH_ready (rs := [3]) (by kernel_rfl) (by simp) ?_
     refine AllReadyH.cons (o := ⟨some 27, _, _, _, _, _⟩) rfl (fun K hK => ?_) ?_
     ·
      clear hHeld
      refine step_conv rfl _ rfl [c] (by simp; exact Hc.out) _ 1 1 rfl rfl (by first | exact (Blk.new w0 _ _).drewN 1 | exact hwx.blk ((Blk.new w0 _ _).drewN 1) | exact hwy.blk (hwx.blk ((Blk.new w0 _ _).drewN 1)) | exact Blk.new wq _ _ | exact hwy.blk (Blk.new wq _ _) | exact Blk.new wr _ _) ?_
      refine hK.out _ _ (by refine HSh.out _ ?_; repeat (first | exact Later.rfl | exact hwr | exact hwq | refine Later.drew ?_ | refine Later.alloc ?_ _)) (fun hHeld => ?_)
      clear hK K
      try simp only [Act.put, List.setIfInBounds_toArray, List.set_cons_zero, List.set_cons_succ]
      refine tk 8 (some 32) (v := ?_) ?_ ?_; rotate_left 1; (intro w hSw; (try dsimp only at hSw); go_simp <;> with_reducible rfl); try simp only [Act.put, List.setIfInBounds_toArray, List.set_cons_zero, List.set_cons_succ]
      refine tk 10 (some 34) (v := ?_) ?_ ?_; rotate_left 1; (intro w hSw; (try dsimp only at hSw); go_simp <;> with_reducible rfl); try simp only [Act.put, List.setIfInBounds_toArray, List.set_cons_zero, List.set_cons_succ]
      refine tk 15 (some 39) (v := ?_) ?_ ?_; rotate_left 1; (intro w hSw; (try dsimp only at hSw); go_simp <;> with_reducible rfl); try simp only [Act.put, List.setIfInBounds_toArray, List.set_cons_zero, List.set_cons_succ]
      refine tk 16 (some 4) (v := ?_) ?_ ?_; rotate_left 1; (intro w hSw; (try dsimp only at hSw); go_simp <;> with_reducible rfl); try simp only [Act.put, List.setIfInBounds_toArray, List.set_cons_zero, List.set_cons_succ]
      refine wpAnyH_done (by kernel_rfl) ?_ _
      go_wp2_with fail
      go_ret
      exact ⟨rfl, Hw.out.trans (by repeat (first | exact Later.rfl | exact hwr | exact hwq | refine Later.drew ?_ | refine Later.alloc ?_ _))⟩
     exact AllReadyH.nil
    exact AllReadyH.nil
   exact AllReadyH.nil
  exact AllReadyH.nil
 ·
  have tb : ((y : Int) != 46) = true := by simp; omega
  obtain rfl : (120 : UInt8) = x := by rw [← Hx.out, if_neg h46]
  clear h46
  go_upto_region 6 with (fail)
  clear m0 m1 m2 p0 p1 p2 p3 p4 p5 i6 ti tb t1 ht hsz
  refine wp_region_held_drew (S := fun w' : World => (w'.cell? ⟨W.heap.size + 1, 0, none⟩ = some (.int .i64 (f : Int)) ∧ w'.cell? ⟨W.heap.size + 1, 1, none⟩ = some (.int .i64 (t : Int)) ∧ w'.cell? ⟨W.heap.size + 1, 2, none⟩ = some (.int .u8 (c : Int)) ∧ w'.cell? ⟨W.heap.size, 0, none⟩ = some (.int .i64 p.w) ∧ w'.cell? ⟨W.heap.size, 1, none⟩ = some (.int .i64 p.h) ∧ w'.cell? ⟨W.heap.size, 2, none⟩ = some (.string p.cells) ∧ w'.cell? ⟨W.heap.size, 3, none⟩ = some (.int .i64 p.turn) ∧ w'.cell? ⟨W.heap.size, 4, none⟩ = some (.string p.h0) ∧ w'.cell? ⟨W.heap.size, 5, none⟩ = some (.string p.h1))) (by kernel_rfl) (HSh.out _ Later.rfl.drew) (fun hHeld => ?_)
  refine tk 0 (some 24) (v := ?_) ?_ ?_; rotate_left 1; (intro w hSw; (try dsimp only at hSw); go_simp <;> with_reducible rfl); try simp only [Act.put, List.setIfInBounds_toArray, List.set_cons_zero, List.set_cons_succ]
  refine tk 1 (some 25) (v := ?_) ?_ ?_; rotate_left 1; (intro w hSw; (try dsimp only at hSw); go_simp <;> with_reducible rfl); try simp only [Act.put, List.setIfInBounds_toArray, List.set_cons_zero, List.set_cons_succ]
  refine tk 4 (some 28) (v := ?_) ?_ ?_; rotate_left 1; (intro w hSw; (try dsimp only at hSw); go_simp <;> with_reducible rfl); try simp only [Act.put, List.setIfInBounds_toArray, List.set_cons_zero, List.set_cons_succ]
  refine tk 5 (some 29) (v := ?_) ?_ ?_; rotate_left 1; (intro w hSw; (try dsimp only at hSw); go_simp <;> with_reducible rfl); try simp only [Act.put, List.setIfInBounds_toArray, List.set_cons_zero, List.set_cons_succ]
  refine tk 6 (some 30) (v := ?_) ?_ ?_; rotate_left 1; (intro w hSw; (try dsimp only at hSw); go_simp <;> with_reducible rfl); try simp only [Act.put, List.setIfInBounds_toArray, List.set_cons_zero, List.set_cons_succ]
  refine tk 9 (some 33) (v := ?_) ?_ ?_; rotate_left 1; (intro w hSw; (try dsimp only at hSw); go_simp <;> with_reducible rfl); try simp only [Act.put, List.setIfInBounds_toArray, List.set_cons_zero, List.set_cons_succ]
  refine tk 11 (some 35) (v := ?_) ?_ ?_; rotate_left 1; (intro w hSw; (try dsimp only at hSw); go_simp <;> with_reducible rfl); try simp only [Act.put, List.setIfInBounds_toArray, List.set_cons_zero, List.set_cons_succ]
  refine tk 12 (some 36) (v := ?_) ?_ ?_; rotate_left 1; (intro w hSw; (try dsimp only at hSw); go_simp <;> with_reducible rfl); try simp only [Act.put, List.setIfInBounds_toArray, List.set_cons_zero, List.set_cons_succ]
  refine tk 13 (some 37) (v := ?_) ?_ ?_; rotate_left 1; (intro w hSw; (try dsimp only at hSw); go_simp <;> with_reducible rfl); try simp only [Act.put, List.setIfInBounds_toArray, List.set_cons_zero, List.set_cons_succ]
  refine wpAnyH_ready (rs := [2, 7]) (by kernel_rfl) (by simp) ?_
  refine AllReadyH.cons (o := ⟨some 26, _, _, _, _, _⟩) rfl (fun K hK => ?_) ?_
  ·
   clear hHeld
   go_simp
   refine hK.out _ _ (by refine HSh.out _ ?_; repeat (first | exact Later.rfl | exact hwr | exact hwq | refine Later.drew ?_ | refine Later.alloc ?_ _)) (fun hHeld => ?_)
   clear hK K
   try simp only [Act.put, List.setIfInBounds_toArray, List.set_cons_zero, List.set_cons_succ]
   refine wpAnyH_ready (rs := [3, 7]) (by kernel_rfl) (by simp) ?_
   refine AllReadyH.cons (o := ⟨some 27, _, _, _, _, _⟩) rfl (fun K hK => ?_) ?_
   ·
    clear hHeld
    refine step_conv rfl _ rfl [c] (by simp; exact Hc.out) _ 1 1 rfl rfl (by first | exact (Blk.new w0 _ _).drewN 1 | exact hwx.blk ((Blk.new w0 _ _).drewN 1) | exact hwy.blk (hwx.blk ((Blk.new w0 _ _).drewN 1)) | exact Blk.new wq _ _ | exact hwy.blk (Blk.new wq _ _) | exact Blk.new wr _ _) ?_
    refine hK.out _ _ (by refine HSh.out _ ?_; repeat (first | exact Later.rfl | exact hwr | exact hwq | refine Later.drew ?_ | refine Later.alloc ?_ _)) (fun hHeld => ?_)
    clear hK K
    try simp only [Act.put, List.setIfInBounds_toArray, List.set_cons_zero, List.set_cons_succ]
    refine wpAnyH_ready (rs := [7]) (by kernel_rfl) (by simp) ?_
    refine AllReadyH.cons (o := ⟨some 31, _, _, _, _, _⟩) rfl (fun K hK => ?_) ?_
    ·
     clear hHeld
     go_simp
     go_at_call 125
     refine (HF.out _).mono ?_
     rintro e wq ⟨rfl, hwx⟩
     have hwq : Later w0 wq := Later.trans (by repeat (first | exact Later.rfl | exact hwq | refine Later.drew ?_ | refine Later.alloc ?_ _)) hwx
     try go_wp2_with fail
     refine hK.out _ _ (by refine HSh.out _ ?_; repeat (first | exact Later.rfl | exact hwr | exact hwq | refine Later.drew ?_ | refine Later.alloc ?_ _)) (fun hHeld => ?_)
     clear hK K
     try simp only [Act.put, List.setIfInBounds_toArray, List.set_cons_zero, List.set_cons_succ]
     refine tk 8 (some 32) (v := ?_) ?_ ?_; rotate_left 1; (intro w hSw; (try dsimp only at hSw); go_simp <;> with_reducible rfl); try simp only [Act.put, List.setIfInBounds_toArray, List.set_cons_zero, List.set_cons_succ]
     refine tk 10 (some 34) (v := ?_) ?_ ?_; rotate_left 1; (intro w hSw; (try dsimp only at hSw); go_simp <;> with_reducible rfl); try simp only [Act.put, List.setIfInBounds_toArray, List.set_cons_zero, List.set_cons_succ]
     refine wpAnyH_ready (rs := [14]) (by kernel_rfl) (by simp) ?_
     refine AllReadyH.cons (o := ⟨some 38, _, _, _, _, _⟩) rfl (fun K hK => ?_) ?_
     ·
      clear hHeld
      go_simp
      go_at_call 125
      refine (HC.out _).mono ?_
      rintro e wr ⟨rfl, hwy⟩
      have hwr : Later w0 wr := Later.trans (by repeat (first | exact Later.rfl | exact hwq | refine Later.drew ?_ | refine Later.alloc ?_ _)) hwy
      try go_wp2_with fail
      refine hK.out _ _ (by refine HSh.out _ ?_; repeat (first | exact Later.rfl | exact hwr | exact hwq | refine Later.drew ?_ | refine Later.alloc ?_ _)) (fun hHeld => ?_)
      clear hK K
      try simp only [Act.put, List.setIfInBounds_toArray, List.set_cons_zero, List.set_cons_succ]
      refine tk 15 (some 39) (v := ?_) ?_ ?_; rotate_left 1; (intro w hSw; (try dsimp only at hSw); go_simp <;> with_reducible rfl); try simp only [Act.put, List.setIfInBounds_toArray, List.set_cons_zero, List.set_cons_succ]
      refine tk 16 (some 4) (v := ?_) ?_ ?_; rotate_left 1; (intro w hSw; (try dsimp only at hSw); go_simp <;> with_reducible rfl); try simp only [Act.put, List.setIfInBounds_toArray, List.set_cons_zero, List.set_cons_succ]
      refine wpAnyH_done (by kernel_rfl) ?_ _
      go_wp2_with fail
      go_ret
      exact ⟨rfl, Hw.out.trans (by repeat (first | exact Later.rfl | exact hwr | exact hwq | refine Later.drew ?_ | refine Later.alloc ?_ _))⟩
     exact AllReadyH.nil
    exact AllReadyH.nil
   refine AllReadyH.cons (o := ⟨some 31, _, _, _, _, _⟩) rfl (fun K hK => ?_) ?_
   ·
    clear hHeld
    go_simp
    go_at_call 125
    refine (HF.out _).mono ?_
    rintro e wq ⟨rfl, hwx⟩
    have hwq : Later w0 wq := Later.trans (by repeat (first | exact Later.rfl | exact hwq | refine Later.drew ?_ | refine Later.alloc ?_ _)) hwx
    try go_wp2_with fail
    refine hK.out _ _ (by refine HSh.out _ ?_; repeat (first | exact Later.rfl | exact hwr | exact hwq | refine Later.drew ?_ | refine Later.alloc ?_ _)) (fun hHeld => ?_)
    clear hK K
    try simp only [Act.put, List.setIfInBounds_toArray, List.set_cons_zero, List.set_cons_succ]
    refine wpAnyH_ready (rs := [3, 14]) (by kernel_rfl) (by simp) ?_
    refine AllReadyH.cons (o := ⟨some 27, _, _, _, _, _⟩) rfl (fun K hK => ?_) ?_
    ·
     clear hHeld
     refine step_conv rfl _ rfl [c] (by simp; exact Hc.out) _ 1 1 rfl rfl (by first | exact (Blk.new w0 _ _).drewN 1 | exact hwx.blk ((Blk.new w0 _ _).drewN 1) | exact hwy.blk (hwx.blk ((Blk.new w0 _ _).drewN 1)) | exact Blk.new wq _ _ | exact hwy.blk (Blk.new wq _ _) | exact Blk.new wr _ _) ?_
     refine hK.out _ _ (by refine HSh.out _ ?_; repeat (first | exact Later.rfl | exact hwr | exact hwq | refine Later.drew ?_ | refine Later.alloc ?_ _)) (fun hHeld => ?_)
     clear hK K
     try simp only [Act.put, List.setIfInBounds_toArray, List.set_cons_zero, List.set_cons_succ]
     refine tk 8 (some 32) (v := ?_) ?_ ?_; rotate_left 1; (intro w hSw; (try dsimp only at hSw); go_simp <;> with_reducible rfl); try simp only [Act.put, List.setIfInBounds_toArray, List.set_cons_zero, List.set_cons_succ]
     refine tk 10 (some 34) (v := ?_) ?_ ?_; rotate_left 1; (intro w hSw; (try dsimp only at hSw); go_simp <;> with_reducible rfl); try simp only [Act.put, List.setIfInBounds_toArray, List.set_cons_zero, List.set_cons_succ]
     refine wpAnyH_ready (rs := [14]) (by kernel_rfl) (by simp) ?_
     refine AllReadyH.cons (o := ⟨some 38, _, _, _, _, _⟩) rfl (fun K hK => ?_) ?_
     ·
      clear hHeld
      go_simp
      go_at_call 125
      refine (HC.out _).mono ?_
      rintro e wr ⟨rfl, hwy⟩
      have hwr : Later w0 wr := Later.trans (by repeat (first | exact Later.rfl | exact hwq | refine Later.drew ?_ | refine Later.alloc ?_ _)) hwy
      try go_wp2_with fail
      refine hK.out _ _ (by refine HSh.out _ ?_; repeat (first | exact Later.rfl | exact hwr | exact hwq | refine Later.drew ?_ | refine Later.alloc ?_ _)) (fun hHeld => ?_)
      clear hK K
      try simp only [Act.put, List.setIfInBounds_toArray, List.set_cons_zero, List.set_cons_succ]
      refine tk 15 (some 39) (v := ?_) ?_ ?_; rotate_left 1; (intro w hSw; (try dsimp only at hSw); go_simp <;> with_reducible rfl); try simp only [Act.put, List.setIfInBounds_toArray, List.set_cons_zero, List.set_cons_succ]
      refine tk 16 (some 4) (v := ?_) ?_ ?_; rotate_left 1; (intro w hSw; (try dsimp only at hSw); go_simp <;> with_reducible rfl); try simp only [Act.put, List.setIfInBounds_toArray, List.set_cons_zero, List.set_cons_succ]
      refine wpAnyH_done (by kernel_rfl) ?_ _
      go_wp2_with fail
      go_ret
      exact ⟨rfl, Hw.out.trans (by repeat (first | exact Later.rfl | exact hwr | exact hwq | refine Later.drew ?_ | refine Later.alloc ?_ _))⟩
     exact AllReadyH.nil
    refine AllReadyH.cons (o := ⟨some 38, _, _, _, _, _⟩) rfl (fun K hK => ?_) ?_
    ·
     clear hHeld
     go_simp
     go_at_call 125
     refine (HC.out _).mono ?_
     rintro e wr ⟨rfl, hwy⟩
     have hwr : Later w0 wr := Later.trans (by repeat (first | exact Later.rfl | exact hwq | refine Later.drew ?_ | refine Later.alloc ?_ _)) hwy
     try go_wp2_with fail
     refine hK.out _ _ (by refine HSh.out _ ?_; repeat (first | exact Later.rfl | exact hwr | exact hwq | refine Later.drew ?_ | refine Later.alloc ?_ _)) (fun hHeld => ?_)
     clear hK K
     try simp only [Act.put, List.setIfInBounds_toArray, List.set_cons_zero, List.set_cons_succ]
     refine wpAnyH_ready (rs := [3]) (by kernel_rfl) (by simp) ?_
     refine AllReadyH.cons (o := ⟨some 27, _, _, _, _, _⟩) rfl (fun K hK => ?_) ?_
     ·
      clear hHeld
      refine step_conv rfl _ rfl [c] (by simp; exact Hc.out) _ 1 1 rfl rfl (by first | exact (Blk.new w0 _ _).drewN 1 | exact hwx.blk ((Blk.new w0 _ _).drewN 1) | exact hwy.blk (hwx.blk ((Blk.new w0 _ _).drewN 1)) | exact Blk.new wq _ _ | exact hwy.blk (Blk.new wq _ _) | exact Blk.new wr _ _) ?_
      refine hK.out _ _ (by refine HSh.out _ ?_; repeat (first | exact Later.rfl | exact hwr | exact hwq | refine Later.drew ?_ | refine Later.alloc ?_ _)) (fun hHeld => ?_)
      clear hK K
      try simp only [Act.put, List.setIfInBounds_toArray, List.set_cons_zero, List.set_cons_succ]
      refine tk 8 (some 32) (v := ?_) ?_ ?_; rotate_left 1; (intro w hSw; (try dsimp only at hSw); go_simp <;> with_reducible rfl); try simp only [Act.put, List.setIfInBounds_toArray, List.set_cons_zero, List.set_cons_succ]
      refine tk 10 (some 34) (v := ?_) ?_ ?_; rotate_left 1; (intro w hSw; (try dsimp only at hSw); go_simp <;> with_reducible rfl); try simp only [Act.put, List.setIfInBounds_toArray, List.set_cons_zero, List.set_cons_succ]
      refine tk 15 (some 39) (v := ?_) ?_ ?_; rotate_left 1; (intro w hSw; (try dsimp only at hSw); go_simp <;> with_reducible rfl); try simp only [Act.put, List.setIfInBounds_toArray, List.set_cons_zero, List.set_cons_succ]
      refine tk 16 (some 4) (v := ?_) ?_ ?_; rotate_left 1; (intro w hSw; (try dsimp only at hSw); go_simp <;> with_reducible rfl); try simp only [Act.put, List.setIfInBounds_toArray, List.set_cons_zero, List.set_cons_succ]
      refine wpAnyH_done (by kernel_rfl) ?_ _
      go_wp2_with fail
      go_ret
      exact ⟨rfl, Hw.out.trans (by repeat (first | exact Later.rfl | exact hwr | exact hwq | refine Later.drew ?_ | refine Later.alloc ?_ _))⟩
     exact AllReadyH.nil
    exact AllReadyH.nil
   exact AllReadyH.nil
  refine AllReadyH.cons (o := ⟨some 31, _, _, _, _, _⟩) rfl (fun K hK => ?_) ?_
  ·
   clear hHeld
   go_simp
   go_at_call 125
   refine (HF.out _).mono ?_
   rintro e wq ⟨rfl, hwx⟩
   have hwq : Later w0 wq := Later.trans (by repeat (first | exact Later.rfl | exact hwq | refine Later.drew ?_ | refine Later.alloc ?_ _)) hwx
   try go_wp2_with fail
   refine hK.out _ _ (by refine HSh.out _ ?_; repeat (first | exact Later.rfl | exact hwr | exact hwq | refine Later.drew ?_ | refine Later.alloc ?_ _)) (fun hHeld => ?_)
   clear hK K
   try simp only [Act.put, List.setIfInBounds_toArray, List.set_cons_zero, List.set_cons_succ]
   refine wpAnyH_ready (rs := [2, 14]) (by kernel_rfl) (by simp) ?_
   refine AllReadyH.cons (o := ⟨some 26, _, _, _, _, _⟩) rfl (fun K hK => ?_) ?_
   ·
    clear hHeld
    go_simp
    refine hK.out _ _ (by refine HSh.out _ ?_; repeat (first | exact Later.rfl | exact hwr | exact hwq | refine Later.drew ?_ | refine Later.alloc ?_ _)) (fun hHeld => ?_)
    clear hK K
    try simp only [Act.put, List.setIfInBounds_toArray, List.set_cons_zero, List.set_cons_succ]
    refine wpAnyH_ready (rs := [3, 14]) (by kernel_rfl) (by simp) ?_
    refine AllReadyH.cons (o := ⟨some 27, _, _, _, _, _⟩) rfl (fun K hK => ?_) ?_
    ·
     clear hHeld
     refine step_conv rfl _ rfl [c] (by simp; exact Hc.out) _ 1 1 rfl rfl (by first | exact (Blk.new w0 _ _).drewN 1 | exact hwx.blk ((Blk.new w0 _ _).drewN 1) | exact hwy.blk (hwx.blk ((Blk.new w0 _ _).drewN 1)) | exact Blk.new wq _ _ | exact hwy.blk (Blk.new wq _ _) | exact Blk.new wr _ _) ?_
     refine hK.out _ _ (by refine HSh.out _ ?_; repeat (first | exact Later.rfl | exact hwr | exact hwq | refine Later.drew ?_ | refine Later.alloc ?_ _)) (fun hHeld => ?_)
     clear hK K
     try simp only [Act.put, List.setIfInBounds_toArray, List.set_cons_zero, List.set_cons_succ]
     refine tk 8 (some 32) (v := ?_) ?_ ?_; rotate_left 1; (intro w hSw; (try dsimp only at hSw); go_simp <;> with_reducible rfl); try simp only [Act.put, List.setIfInBounds_toArray, List.set_cons_zero, List.set_cons_succ]
     refine tk 10 (some 34) (v := ?_) ?_ ?_; rotate_left 1; (intro w hSw; (try dsimp only at hSw); go_simp <;> with_reducible rfl); try simp only [Act.put, List.setIfInBounds_toArray, List.set_cons_zero, List.set_cons_succ]
     refine wpAnyH_ready (rs := [14]) (by kernel_rfl) (by simp) ?_
     refine AllReadyH.cons (o := ⟨some 38, _, _, _, _, _⟩) rfl (fun K hK => ?_) ?_
     ·
      clear hHeld
      go_simp
      go_at_call 125
      refine (HC.out _).mono ?_
      rintro e wr ⟨rfl, hwy⟩
      have hwr : Later w0 wr := Later.trans (by repeat (first | exact Later.rfl | exact hwq | refine Later.drew ?_ | refine Later.alloc ?_ _)) hwy
      try go_wp2_with fail
      refine hK.out _ _ (by refine HSh.out _ ?_; repeat (first | exact Later.rfl | exact hwr | exact hwq | refine Later.drew ?_ | refine Later.alloc ?_ _)) (fun hHeld => ?_)
      clear hK K
      try simp only [Act.put, List.setIfInBounds_toArray, List.set_cons_zero, List.set_cons_succ]
      refine tk 15 (some 39) (v := ?_) ?_ ?_; rotate_left 1; (intro w hSw; (try dsimp only at hSw); go_simp <;> with_reducible rfl); try simp only [Act.put, List.setIfInBounds_toArray, List.set_cons_zero, List.set_cons_succ]
      refine tk 16 (some 4) (v := ?_) ?_ ?_; rotate_left 1; (intro w hSw; (try dsimp only at hSw); go_simp <;> with_reducible rfl); try simp only [Act.put, List.setIfInBounds_toArray, List.set_cons_zero, List.set_cons_succ]
      refine wpAnyH_done (by kernel_rfl) ?_ _
      go_wp2_with fail
      go_ret
      exact ⟨rfl, Hw.out.trans (by repeat (first | exact Later.rfl | exact hwr | exact hwq | refine Later.drew ?_ | refine Later.alloc ?_ _))⟩
     exact AllReadyH.nil
    refine AllReadyH.cons (o := ⟨some 38, _, _, _, _, _⟩) rfl (fun K hK => ?_) ?_
    ·
     clear hHeld
     go_simp
     go_at_call 125
     refine (HC.out _).mono ?_
     rintro e wr ⟨rfl, hwy⟩
     have hwr : Later w0 wr := Later.trans (by repeat (first | exact Later.rfl | exact hwq | refine Later.drew ?_ | refine Later.alloc ?_ _)) hwy
     try go_wp2_with fail
     refine hK.out _ _ (by refine HSh.out _ ?_; repeat (first | exact Later.rfl | exact hwr | exact hwq | refine Later.drew ?_ | refine Later.alloc ?_ _)) (fun hHeld => ?_)
     clear hK K
     try simp only [Act.put, List.setIfInBounds_toArray, List.set_cons_zero, List.set_cons_succ]
     refine wpAnyH_ready (rs := [3]) (by kernel_rfl) (by simp) ?_
     refine AllReadyH.cons (o := ⟨some 27, _, _, _, _, _⟩) rfl (fun K hK => ?_) ?_
     ·
      clear hHeld
      refine step_conv rfl _ rfl [c] (by simp; exact Hc.out) _ 1 1 rfl rfl (by first | exact (Blk.new w0 _ _).drewN 1 | exact hwx.blk ((Blk.new w0 _ _).drewN 1) | exact hwy.blk (hwx.blk ((Blk.new w0 _ _).drewN 1)) | exact Blk.new wq _ _ | exact hwy.blk (Blk.new wq _ _) | exact Blk.new wr _ _) ?_
      refine hK.out _ _ (by refine HSh.out _ ?_; repeat (first | exact Later.rfl | exact hwr | exact hwq | refine Later.drew ?_ | refine Later.alloc ?_ _)) (fun hHeld => ?_)
      clear hK K
      try simp only [Act.put, List.setIfInBounds_toArray, List.set_cons_zero, List.set_cons_succ]
      refine tk 8 (some 32) (v := ?_) ?_ ?_; rotate_left 1; (intro w hSw; (try dsimp only at hSw); go_simp <;> with_reducible rfl); try simp only [Act.put, List.setIfInBounds_toArray, List.set_cons_zero, List.set_cons_succ]
      refine tk 10 (some 34) (v := ?_) ?_ ?_; rotate_left 1; (intro w hSw; (try dsimp only at hSw); go_simp <;> with_reducible rfl); try simp only [Act.put, List.setIfInBounds_toArray, List.set_cons_zero, List.set_cons_succ]
      refine tk 15 (some 39) (v := ?_) ?_ ?_; rotate_left 1; (intro w hSw; (try dsimp only at hSw); go_simp <;> with_reducible rfl); try simp only [Act.put, List.setIfInBounds_toArray, List.set_cons_zero, List.set_cons_succ]
      refine tk 16 (some 4) (v := ?_) ?_ ?_; rotate_left 1; (intro w hSw; (try dsimp only at hSw); go_simp <;> with_reducible rfl); try simp only [Act.put, List.setIfInBounds_toArray, List.set_cons_zero, List.set_cons_succ]
      refine wpAnyH_done (by kernel_rfl) ?_ _
      go_wp2_with fail
      go_ret
      exact ⟨rfl, Hw.out.trans (by repeat (first | exact Later.rfl | exact hwr | exact hwq | refine Later.drew ?_ | refine Later.alloc ?_ _))⟩
     exact AllReadyH.nil
    exact AllReadyH.nil
   refine AllReadyH.cons (o := ⟨some 38, _, _, _, _, _⟩) rfl (fun K hK => ?_) ?_
   ·
    clear hHeld
    go_simp
    go_at_call 125
    refine (HC.out _).mono ?_
    rintro e wr ⟨rfl, hwy⟩
    have hwr : Later w0 wr := Later.trans (by repeat (first | exact Later.rfl | exact hwq | refine Later.drew ?_ | refine Later.alloc ?_ _)) hwy
    try go_wp2_with fail
    refine hK.out _ _ (by refine HSh.out _ ?_; repeat (first | exact Later.rfl | exact hwr | exact hwq | refine Later.drew ?_ | refine Later.alloc ?_ _)) (fun hHeld => ?_)
    clear hK K
    try simp only [Act.put, List.setIfInBounds_toArray, List.set_cons_zero, List.set_cons_succ]
    refine wpAnyH_ready (rs := [2]) (by kernel_rfl) (by simp) ?_
    refine AllReadyH.cons (o := ⟨some 26, _, _, _, _, _⟩) rfl (fun K hK => ?_) ?_
    ·
     clear hHeld
     go_simp
     refine hK.out _ _ (by refine HSh.out _ ?_; repeat (first | exact Later.rfl | exact hwr | exact hwq | refine Later.drew ?_ | refine Later.alloc ?_ _)) (fun hHeld => ?_)
     clear hK K
     try simp only [Act.put, List.setIfInBounds_toArray, List.set_cons_zero, List.set_cons_succ]
     refine wpAnyH_ready (rs := [3]) (by kernel_rfl) (by simp) ?_
     refine AllReadyH.cons (o := ⟨some 27, _, _, _, _, _⟩) rfl (fun K hK => ?_) ?_
     ·
      clear hHeld
      refine step_conv rfl _ rfl [c] (by simp; exact Hc.out) _ 1 1 rfl rfl (by first | exact (Blk.new w0 _ _).drewN 1 | exact hwx.blk ((Blk.new w0 _ _).drewN 1) | exact hwy.blk (hwx.blk ((Blk.new w0 _ _).drewN 1)) | exact Blk.new wq _ _ | exact hwy.blk (Blk.new wq _ _) | exact Blk.new wr _ _) ?_
      refine hK.out _ _ (by refine HSh.out _ ?_; repeat (first | exact Later.rfl | exact hwr | exact hwq | refine Later.drew ?_ | refine Later.alloc ?_ _)) (fun hHeld => ?_)
      clear hK K
      try simp only [Act.put, List.setIfInBounds_toArray, List.set_cons_zero, List.set_cons_succ]
      refine tk 8 (some 32) (v := ?_) ?_ ?_; rotate_left 1; (intro w hSw; (try dsimp only at hSw); go_simp <;> with_reducible rfl); try simp only [Act.put, List.setIfInBounds_toArray, List.set_cons_zero, List.set_cons_succ]
      refine tk 10 (some 34) (v := ?_) ?_ ?_; rotate_left 1; (intro w hSw; (try dsimp only at hSw); go_simp <;> with_reducible rfl); try simp only [Act.put, List.setIfInBounds_toArray, List.set_cons_zero, List.set_cons_succ]
      refine tk 15 (some 39) (v := ?_) ?_ ?_; rotate_left 1; (intro w hSw; (try dsimp only at hSw); go_simp <;> with_reducible rfl); try simp only [Act.put, List.setIfInBounds_toArray, List.set_cons_zero, List.set_cons_succ]
      refine tk 16 (some 4) (v := ?_) ?_ ?_; rotate_left 1; (intro w hSw; (try dsimp only at hSw); go_simp <;> with_reducible rfl); try simp only [Act.put, List.setIfInBounds_toArray, List.set_cons_zero, List.set_cons_succ]
      refine wpAnyH_done (by kernel_rfl) ?_ _
      go_wp2_with fail
      go_ret
      exact ⟨rfl, Hw.out.trans (by repeat (first | exact Later.rfl | exact hwr | exact hwq | refine Later.drew ?_ | refine Later.alloc ?_ _))⟩
     exact AllReadyH.nil
    exact AllReadyH.nil
   exact AllReadyH.nil
  exact AllReadyH.nil
theorem mv_text_any {p : Pos} {m : Mv} (hp : PosOk p) (hc : m.c < 256) (h0 : 0 ≤ m.t) (ht : m.t.toNat < p.cells.size) (hf : m.f = -1 ∨ (0 ≤ m.f ∧ m.f.toNat < p.cells.size)) (W : World) :
  Calls Tryz.prog 96 #[.agg #[.int .i64 p.w, .int .i64 p.h, .string p.cells, .int .i64 p.turn, .string p.h0, .string p.h1], .agg #[.int .i64 m.f, .int .i64 m.t, .int .u8 (m.c : Int)]] W fun e w' => e = .returned (.string (bytes (mv_textL p m))) ∧ Later W w' := by
 obtain ⟨f, t, c⟩ := m
 simp only at hc h0 ht hf ⊢
 obtain ⟨tn, rfl⟩ : ∃ tn : Nat, t = (tn : Int) := ⟨t.toNat, by omega⟩
 rw [Int.toNat_natCast] at ht
 rcases hf with rfl | ⟨hf0, hf1⟩
 ·
  refine (text_drop p c tn W hp hc ht).mono fun e w' h => ⟨?_, h.2⟩
  rw [h.1, show mv_textL p ⟨-1, (tn : Int), c⟩ = [u8 c, u8 64] ++ cellL p tn from if_pos (show (-1 : Int) < 0 by decide)]
 ·
  obtain ⟨fn, rfl⟩ : ∃ fn : Nat, f = (fn : Int) := ⟨f.toNat, by omega⟩
  rw [Int.toNat_natCast] at hf1
  refine (text_board p c fn tn W hp hc ht hf1).mono fun e w' h => ⟨?_, h.2⟩
  rw [h.1, show mv_textL p ⟨(fn : Int), (tn : Int), c⟩ = [u8 c] ++ cellL p fn ++ [if cellN p tn = 46 then 45 else 120] ++ cellL p tn from if_neg (show ¬ ((fn : Int) < 0) by omega)]
end Go.Proofs.YtcdfeaodfmfdnaaGreatDoor
