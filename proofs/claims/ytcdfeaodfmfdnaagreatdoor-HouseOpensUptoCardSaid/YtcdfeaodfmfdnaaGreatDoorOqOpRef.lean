/- gameref.Opened: walked. -/
import Derived.Test.YtcdfeaodfmfdnaaGreatDoorOqOpLine
import Derived.Test.YtcdfeaodfmfdnaaGreatDoorOqKit
namespace Go.Proofs.YtcdfeaodfmfdnaaGreatDoor
open Go.RowKit

theorem take_line (x y : List UInt8) : (x ++ 10 :: y).take (x.length + 1) = x ++ [10] := by
 rw [List.take_append, List.take_of_length_le (by omega), Nat.add_sub_cancel_left]
 rfl
theorem bytes_cat_ext {a : List UInt8} {b : ByteArray} {x : List UInt8} (h : b.data.toList = x) : bytes a ++ b = bytes (a ++ x) := by
 apply bytes_eq
 simp [bytes, h]
theorem split_last {x f0 f1 f2 : List UInt8} {b2 : ByteArray} (h : splitL 32 x = [f0, f1, f2]) (hb : b2.data.toList = f2) : (32 : UInt8) ∉ b2.data.toList ∧ ∃ p, x = p ++ 32 :: b2.data.toList := by
 have h1 := split_nosep 32 x f2 (by rw [h]; simp)
 have h2 := join_split 32 x
 rw [h] at h2
 rw [hb]
 exact ⟨h1, f0 ++ 32 :: f1, by rw [← h2]; simp [joinL]⟩
theorem line_eq {s s2 : HoD} {x : List UInt8} {mv : ByteArray} {a : Int} (h : s2.lines = s.lines ++ (Lib.itoa s.ply ++ 32 :: (Lib.itoa a ++ 32 :: (mv.data.toList ++ [10])))) (h1 : s.now ≤ a) (h2 : a ≤ 9223372036854775807) (h3 : (32 : UInt8) ∉ mv.data.toList ∧ ∃ p, x = p ++ 32 :: mv.data.toList) :
  (bytes s2.lines = bytes (s.lines ++ (x ++ [10])) → LineP s x mv a) ∧ (LineP s x mv a → bytes s2.lines = bytes (s.lines ++ (x ++ [10]))) := by
 refine ⟨fun e => ⟨?_, h3.1, h1, h2⟩, fun hp => ?_⟩
 ·
  have e := bytes_inj e
  rw [h] at e
  have e2 := List.append_cancel_left e
  have e3 : (Lib.itoa s.ply ++ 32 :: (Lib.itoa a ++ 32 :: mv.data.toList)) ++ [10] = x ++ [10] := by rw [← e2]; simp
  exact (List.append_cancel_right e3).symm
 ·
  rw [h, hp.1]
  simp
def OpenedOut (r : RulesD) (A : Option Addr) (cp : Nat) (t : Int) (tx : ByteArray) (W : World) (e : Ending) (w' : World) : Prop :=
 ∃ (g : Nat) (s : HoD) (n : Nat), e = .returned (.tuple #[.pointer (some ⟨g, 0, none⟩), .int .i64 (n : Int)]) ∧ Blk w' g 57 (rhC s A cp) ∧ W.heap.size ≤ g ∧ HoOk s ∧ s.r = r ∧ s.flag = 0 ∧ OpenR (startP r t) tx.data.toList s n ∧ Only (fun _ => False) W w'
set_option maxHeartbeats 32000000 in
set_option maxRecDepth 100000 in
theorem opened_ok (r : RulesD) (A : Option Addr) (cp : Nat) (t : Int) (tx : ByteArray) (W : World) (he : Env W) (hP : PiecesAt W W.heap.size A r.pieces) (hok : RulesOk r) (t1 : 1 ≤ t) (t2 : t ≤ 1000000) (htx : tx.size < 4294967281) :
  Calls Tryz.prog 27 #[.agg #[.int .i64 r.start.w, .int .i64 r.start.h, .string r.start.cells, .int .i64 r.start.turn, .string r.start.h0, .string r.start.h1, .slice A r.pieces.length cp, .bool r.drops, .int .u8 (r.lose : Int), .int .i64 r.line, .int .u8 (r.reach : Int), .bool r.stuck, .int .i64 r.plies], .int .i64 t, .string tx] W (OpenedOut r A cp t tx W) := by
 have HEn := hide (fun w (ho : Only (fun x => W.heap.size ≤ x) W w) => he.step ho (fun i hi => by have := he.big; omega))
 have hbig := he.big
 have HPr := hide (show ∀ w, Only (fun x => W.heap.size ≤ x) W w → PAt w (fun x => x < W.heap.size) A r.pieces from fun w ho w' ho' => (hP.below ((ho.trans' ho' (fun i hi hn => by omega)).below_ (B := W.heap.size) (fun _ h => h) (Nat.le_refl _))).more (Nat.le_trans ho.size ho'.size))
 have Hst := hide (start_ok hok t1 t2)
 have Hb0 := hide (Blk.new W 27 #[.int .i64 r.start.w, .int .i64 r.start.h, .string r.start.cells, .int .i64 r.start.turn, .string r.start.h0, .string r.start.h1, .slice A r.pieces.length cp, .bool r.drops, .int .u8 (r.lose : Int), .int .i64 r.line, .int .u8 (r.reach : Int), .bool r.stuck, .int .i64 r.plies])
 have Ho0 := hide (show Only (fun _ => False) W (W.alloc (.cells #[.int .i64 r.start.w, .int .i64 r.start.h, .string r.start.cells, .int .i64 r.start.turn, .string r.start.h0, .string r.start.h1, .slice A r.pieces.length cp, .bool r.drops, .int .u8 (r.lose : Int), .int .i64 r.line, .int .u8 (r.reach : Int), .bool r.stuck, .int .i64 r.plies] 27)) from (Only.refl _ W).alloc _)
 clear he hP
 go_enter Tryz.func27, Tryz.ntmps27
 go_upto_region 1 with (fail)
 obtain ⟨w0, hw0⟩ : ∃ w0, W.alloc (.cells #[.int .i64 r.start.w, .int .i64 r.start.h, .string r.start.cells, .int .i64 r.start.turn, .string r.start.h0, .string r.start.h1, .slice A r.pieces.length cp, .bool r.drops, .int .u8 (r.lose : Int), .int .i64 r.line, .int .u8 (r.reach : Int), .bool r.stuck, .int .i64 r.plies] 27) = w0 := ⟨_, rfl⟩
 rw [hw0] at Hb0 Ho0 ⊢
 clear hw0
 obtain ⟨x0, x1, x2, x3, x4, x5, x6, x7, x8, x9, x10, x11, x12⟩ := Hb0.out.rules
 go_upto_region 2 with (fail)
 obtain ⟨w1, hw1⟩ : ∃ w1, w0.alloc (.cells #[.int .i64 r.start.w, .int .i64 r.start.h, .string r.start.cells, .int .i64 r.start.turn, .string r.start.h0, .string r.start.h1, .slice A r.pieces.length cp, .bool r.drops, .int .u8 (r.lose : Int), .int .i64 r.line, .int .u8 (r.reach : Int), .bool r.stuck, .int .i64 r.plies, .int .i64 r.start.w, .int .i64 r.start.h, .string r.start.cells, .int .i64 r.start.turn, .string r.start.h0, .string r.start.h1, .int .i64 0, .int .i64 t, .int .i64 t, .int .i64 0, .int .i64 0, .string ⟨#[]⟩] 57) = w1 := ⟨_, rfl⟩
 have hal : Only (fun _ => False) w0 w1 := by rw [← hw1]; exact (Only.refl _ w0).alloc _
 obtain ⟨g0, hge⟩ : ∃ g, w0.heap.size = g := ⟨_, rfl⟩
 have Hg1 := hide (show Blk w1 g0 57 (rhC (startP r t) A cp) from by rw [← hw1, ← hge]; exact Blk.new w0 _ _)
 have Ho1 := hide (show Only (fun x => W.heap.size ≤ x) W w1 from (Ho0.out.trans hal).mono (fun _ _ h => h.elim))
 have hWg0 : W.heap.size ≤ g0 := by have := Hb0.out.lt; omega
 rw [hw1, hge]
 clear hw1 hal hge Hb0 Ho0 x0 x1 x2 x3 x4 x5 x6 x7 x8 x9 x10 x11 x12
 go_wp2_with fail
 go_loopw [2, 8, 9] (fun tv hv nv wr => ∃ (k : Nat) (cur : ByteArray) (s : HoD) (g : Nat), tv = .string cur ∧ hv = .pointer (some ⟨g, 0, none⟩) ∧ nv = .int .i64 (k : Int) ∧ k + cur.size ≤ tx.size ∧ Blk wr g 57 (rhC s A cp) ∧ W.heap.size ≤ g ∧ HoOk s ∧ s.r = r ∧ s.flag = 0 ∧ OpenCont (startP r t) tx.data.toList s cur.data.toList k ∧ Only (fun x => W.heap.size ≤ x) W wr) (fun tv _ _ _ => strLen tv)
 case atStart => exact ⟨0, tx, startP r t, g0, rfl, rfl, rfl, by omega, Hg1.out, hWg0, Hst.out, rfl, rfl, OpenCont.start _ _, Ho1.out⟩
 case round =>
  rename World => wr
  obtain ⟨k, cur, s, g, rfl, rfl, rfl, hks, hg, hWg, hos, hsr, hfl, hoc, ho⟩ := hrel
  have Hg := hide hg
  have Hos := hide hos
  have Hsr := hide hsr
  have Hfl := hide hfl
  have Hoc := hide hoc
  have Ho := hide ho
  clear hg hos hsr hfl hoc ho Hg1 Ho1 hWg0
  have HI := hide (Tryz.strings_IndexByte cur 10 wr)
  rw [show ((10 : Int).toNat.toUInt8) = 10 from rfl] at HI
  rcases idx10 cur.data.toList with ⟨h1, h2⟩ | ⟨x, y, h1, h2, h3⟩
  ·
   rw [h1] at HI
   have Hno := hide (Hoc.out.none h2)
   clear h1 h2
   go_wp2_with (go_at_call 37; refine HI.out.mono ?_; rintro e w3 ⟨rfl, hw3⟩; rw [hw3]; clear hw3)
   go_ret2
   exact ⟨g, s, k, rfl, Hg.out, hWg, Hos.out, Hsr.out, Hfl.out, Hno.out, Ho.out.mono (fun k hk h => by omega)⟩
  ·
   rw [h3] at HI
   obtain ⟨n, hn⟩ : ∃ n, x.length = n := ⟨_, rfl⟩
   rw [hn] at HI
   have hcl : cur.data.toList.length = cur.size := by rw [Array.length_toList]; rfl
   have hyl : n + 1 + y.length = cur.size := by rw [← hcl, h1]; simp; omega
   have hx1 : (cur.extract 0 n).data.toList = x := by rw [ByteArray.data_extract]; simp only [Array.toList_extract]; rw [h1]; simp [← hn]
   have hx2 : (cur.extract 0 (n + 1)).data.toList = x ++ [10] := by rw [ByteArray.data_extract]; simp only [Array.toList_extract]; rw [h1]; simp [← hn]; exact take_line x y
   have hx3 : (cur.extract (n + 1) cur.size).data.toList = y := by rw [ByteArray.data_extract]; simp only [Array.toList_extract]; rw [h1]; simp [← hn, hyl.symm]
   have Hcl := hide (And.intro h1 h2)
   have Hx2 := hide hx2
   have Hx3 := hide hx3
   have d1 : decide ((n : Int) < 0) = false := by simp
   have i0 : (0 : Int) ≤ (n : Int) := by omega
   have i1 : (n : Int) ≤ (cur.size : Int) := by omega
   have i1n : n ≤ cur.size := by omega
   obtain ⟨mx, hmx⟩ := (HEn.out _ Ho.out).m
   have HC := hide (split_any 32 (cur.extract 0 n) wr (by rw [ByteArray.size_extract]; omega) ⟨mx, hmx⟩)
   rw [hx1] at HC
   have Hpp0 := hide (show ∀ mv a, LineP s x mv a → splitL 32 x = [Lib.itoa s.ply, Lib.itoa a, mv.data.toList] from fun mv a hh => hh.split Hos.out.ply Hos.out.now)
   obtain ⟨P, hP⟩ : ∃ P, splitL 32 x = P := ⟨_, rfl⟩
   rw [hP] at HC Hpp0
   have Hparts0 := hide hP
   have hxl : x.length = n := hn
   clear hP h1 h2 h3 hx1 hx2 hx3 hn hmx hcl
   go_upto_region 6 with (go_at_call 37; refine HI.out.mono ?_; rintro e w3 ⟨rfl, hw3⟩; rw [hw3]; clear hw3)
   go_upto_region 7 with (go_at_call 33; refine HC.out.mono ?_; rintro e w3 ⟨pn, hpn, rfl, hr, ho, hs1⟩; have HR3 := hide hr; have Ho3 := hide ho; have Hpn := hide hpn; clear hr ho hpn hs1)
   obtain ⟨g1, hg1⟩ : ∃ g1, wr.heap.size = g1 := ⟨_, rfl⟩
   have hgg1 : g < g1 := by have := Hg.out.lt; omega
   rw [hg1] at HR3 ⊢
   have Hg3 := hide (Hg.out.only Ho3.out (fun h => h))
   have HO3 := hide (Ho.out.trans' Ho3.out (fun _ _ h => h.elim))
   clear hg1 Hg Ho Ho3 HC HI d1
   by_cases hp3 : pn = 3
   ·
    subst hp3
    have d3 : (((3 : Nat) : Int) != 3) = false := by decide
    obtain ⟨f0, f1, f2, rfl⟩ : ∃ f0 f1 f2, P = [f0, f1, f2] := by
     have hl := Hpn.out
     match P, hl with
     | [a, b, c], _ => exact ⟨a, b, c, rfl⟩
    have x1 := HR3.out.cell (i := 1) (by simp)
    simp only [List.getElem_cons_zero, List.getElem_cons_succ] at x1
    obtain ⟨b1, hb1⟩ : ∃ b1, bytes f1 = b1 := ⟨_, rfl⟩
    obtain ⟨b2, hb2⟩ : ∃ b2, bytes f2 = b2 := ⟨_, rfl⟩
    have z1l : b1.size ≤ 281474976710656 := by
     have := splitL_mem (c := 32) (l := x) (a := f1) (by rw [Hparts0.out]; simp)
     rw [← hb1]
     show f1.toArray.size ≤ _
     simp only [List.size_toArray]
     omega
    rw [hb1] at x1
    have hd1 : b1.data.toList = f1 := by rw [← hb1]; simp [bytes]
    have hd2 : b2.data.toList = f2 := by rw [← hb2]; simp [bytes]
    have HA1 := hide (atoi_any b1 z1l w3 (HEn.out _ HO3.out))
    rw [hd1] at HA1
    have Hd2 := hide hd2
    have Hb2 := hide hb2
    clear hb1 hb2 hd1 hd2 z1l
    go_upto_region 10 with (go_at_call 67; refine HA1.out.mono ?_; rintro e w5 ⟨n1, ev1, rfl, h1, ho⟩; have H1 := hide h1; have Ho5 := hide ho; clear h1 ho)
    have Hg5 := hide (Hg3.out.only Ho5.out (fun h => h))
    have HR5 := hide (HR3.out.only Ho5.out (fun h => h))
    have HO5 := hide (HO3.out.trans' Ho5.out (fun _ _ h => h.elim))
    clear Hg3 HR3 HO3 Ho5 HA1 x1 d3
    refine wp_region_lit ?_
    refine wpList_plain rfl (fun K hK => ?_)
    go_simp
    refine hK _ _ ?_
    clear hK K
    refine wpList_plain rfl (fun K hK => ?_)
    go_simp
    refine hK _ _ ?_
    clear hK K
    refine wpList_plain rfl (fun K hK => ?_)
    refine wp_load_row 57 (.tmp 46) rfl g rfl 57 #[.int .i64 s.r.start.w, .int .i64 s.r.start.h, .string s.r.start.cells, .int .i64 s.r.start.turn, .string s.r.start.h0, .string s.r.start.h1, .slice A s.r.pieces.length cp, .bool s.r.drops, .int .u8 (s.r.lose : Int), .int .i64 s.r.line, .int .u8 (s.r.reach : Int), .bool s.r.stuck, .int .i64 s.r.plies, .int .i64 s.p.w, .int .i64 s.p.h, .string s.p.cells, .int .i64 s.p.turn, .string s.p.h0, .string s.p.h1, .int .i64 s.ply, .int .i64 s.l0, .int .i64 s.l1, .int .i64 s.now, .int .i64 s.flag, .string (bytes s.lines)] (0, 0) _ (show w5.heap[g]? = some (.cells #[.int .i64 s.r.start.w, .int .i64 s.r.start.h, .string s.r.start.cells, .int .i64 s.r.start.turn, .string s.r.start.h0, .string s.r.start.h1, .slice A s.r.pieces.length cp, .bool s.r.drops, .int .u8 (s.r.lose : Int), .int .i64 s.r.line, .int .u8 (s.r.reach : Int), .bool s.r.stuck, .int .i64 s.r.plies, .int .i64 s.p.w, .int .i64 s.p.h, .string s.p.cells, .int .i64 s.p.turn, .string s.p.h0, .string s.p.h1, .int .i64 s.ply, .int .i64 s.l0, .int .i64 s.l1, .int .i64 s.now, .int .i64 s.flag, .string (bytes s.lines)] 57 (0, 0)) from Hg5.out) Tryz.underlying57 rfl (by kernel_rfl) ?_
    refine hK _ _ ?_
    clear hK K
    refine wpList_plain rfl (fun K hK => ?_)
    go_simp
    refine hK _ _ ?_
    clear hK K
    obtain ⟨wa, hwa⟩ : ∃ wa, w5.alloc (.cells #[.int .i64 0, .int .i64 0, .string ⟨#[]⟩, .int .i64 0, .string ⟨#[]⟩, .string ⟨#[]⟩, .slice none 0 0, .bool false, .int .u8 0, .int .i64 0, .int .u8 0, .bool false, .int .i64 0, .int .i64 0, .int .i64 0, .string ⟨#[]⟩, .int .i64 0, .string ⟨#[]⟩, .string ⟨#[]⟩, .int .i64 0, .int .i64 0, .int .i64 0, .int .i64 0, .int .i64 0, .string ⟨#[]⟩] 57) = wa := ⟨_, rfl⟩
    obtain ⟨gt, hgt⟩ : ∃ g, w5.heap.size = g := ⟨_, rfl⟩
    have hala : Later w5 wa := by rw [← hwa]; exact Later.rfl.alloc _
    have Hga := hide (show Blk wa gt 57 #[.int .i64 0, .int .i64 0, .string ⟨#[]⟩, .int .i64 0, .string ⟨#[]⟩, .string ⟨#[]⟩, .slice none 0 0, .bool false, .int .u8 0, .int .i64 0, .int .u8 0, .bool false, .int .i64 0, .int .i64 0, .int .i64 0, .string ⟨#[]⟩, .int .i64 0, .string ⟨#[]⟩, .string ⟨#[]⟩, .int .i64 0, .int .i64 0, .int .i64 0, .int .i64 0, .int .i64 0, .string ⟨#[]⟩] from by rw [← hwa, ← hgt]; exact Blk.new w5 _ _)
    rw [hwa, hgt]
    refine wpList_plain rfl (fun K hK => ?_)
    refine wp_store_row 57 (.tmp 14) (.tmp 47) rfl gt #[.int .i64 s.r.start.w, .int .i64 s.r.start.h, .string s.r.start.cells, .int .i64 s.r.start.turn, .string s.r.start.h0, .string s.r.start.h1, .slice A s.r.pieces.length cp, .bool s.r.drops, .int .u8 (s.r.lose : Int), .int .i64 s.r.line, .int .u8 (s.r.reach : Int), .bool s.r.stuck, .int .i64 s.r.plies, .int .i64 s.p.w, .int .i64 s.p.h, .string s.p.cells, .int .i64 s.p.turn, .string s.p.h0, .string s.p.h1, .int .i64 s.ply, .int .i64 s.l0, .int .i64 s.l1, .int .i64 s.now, .int .i64 s.flag, .string (bytes s.lines)] rfl rfl 57 _ Hga.out (by kernel_rfl) (by simp) (by simp [Value.oneCell']) ?_
    refine hK _ _ ?_
    clear hK K
    have hal : Later w5 (World.setRow wa gt #[.int .i64 s.r.start.w, .int .i64 s.r.start.h, .string s.r.start.cells, .int .i64 s.r.start.turn, .string s.r.start.h0, .string s.r.start.h1, .slice A s.r.pieces.length cp, .bool s.r.drops, .int .u8 (s.r.lose : Int), .int .i64 s.r.line, .int .u8 (s.r.reach : Int), .bool s.r.stuck, .int .i64 s.r.plies, .int .i64 s.p.w, .int .i64 s.p.h, .string s.p.cells, .int .i64 s.p.turn, .string s.p.h0, .string s.p.h1, .int .i64 s.ply, .int .i64 s.l0, .int .i64 s.l1, .int .i64 s.now, .int .i64 s.flag, .string (bytes s.lines)]) := later_setrow4 hala (by omega)
    have Hgt6 := hide (show Blk (World.setRow wa gt #[.int .i64 s.r.start.w, .int .i64 s.r.start.h, .string s.r.start.cells, .int .i64 s.r.start.turn, .string s.r.start.h0, .string s.r.start.h1, .slice A s.r.pieces.length cp, .bool s.r.drops, .int .u8 (s.r.lose : Int), .int .i64 s.r.line, .int .u8 (s.r.reach : Int), .bool s.r.stuck, .int .i64 s.r.plies, .int .i64 s.p.w, .int .i64 s.p.h, .string s.p.cells, .int .i64 s.p.turn, .string s.p.h0, .string s.p.h1, .int .i64 s.ply, .int .i64 s.l0, .int .i64 s.l1, .int .i64 s.now, .int .i64 s.flag, .string (bytes s.lines)]) gt 57 (rhC s A cp) from setRow_blkH Hga.out)
    obtain ⟨w6, hw6⟩ : ∃ w6, World.setRow wa gt #[.int .i64 s.r.start.w, .int .i64 s.r.start.h, .string s.r.start.cells, .int .i64 s.r.start.turn, .string s.r.start.h0, .string s.r.start.h1, .slice A s.r.pieces.length cp, .bool s.r.drops, .int .u8 (s.r.lose : Int), .int .i64 s.r.line, .int .u8 (s.r.reach : Int), .bool s.r.stuck, .int .i64 s.r.plies, .int .i64 s.p.w, .int .i64 s.p.h, .string s.p.cells, .int .i64 s.p.turn, .string s.p.h0, .string s.p.h1, .int .i64 s.ply, .int .i64 s.l0, .int .i64 s.l1, .int .i64 s.now, .int .i64 s.flag, .string (bytes s.lines)] = w6 := ⟨_, rfl⟩
    rw [hw6] at hal Hgt6 ⊢
    have Hg6 := hide (Later.blk hal Hg5.out)
    have HR6 := hide (HR5.out.only (later_only hal) (fun h => h))
    have HO6 := hide (HO5.out.trans' (later_only hal) (fun _ _ h => h.elim))
    have hgt1 : g1 < gt := by have := Blk.lt HR5.out; omega
    clear hw6 hgt hal Hg5 HR5 HO5 hwa hala Hga
    go_upto_region 11 with (fail)
    obtain ⟨ln0, hln0⟩ : ∃ ln0, bytes s.lines = ln0 := ⟨_, rfl⟩
    have hlen := Hos.out.len
    have hply1 := Hos.out.plies
    have hpl2 := Hos.out.of.rules.pl2
    have l3 : ln0.size ≤ 1000000000000 := by rw [← hln0]; show s.lines.toArray.size ≤ 1000000000000; simp only [List.size_toArray]; omega
    have Hln0 := hide hln0
    have HS := hide (show ∀ w' : World, Later w6 w' → (w'.cell? ⟨g, 22, none⟩ = some (.int .i64 s.now) ∧ w'.cell? ⟨g, 16, none⟩ = some (.int .i64 s.p.turn) ∧ w'.cell? ⟨g, 19, none⟩ = some (.int .i64 s.ply) ∧ w'.cell? ⟨g, 24, none⟩ = some (.string ln0) ∧ w'.cell? ⟨g1, 2, none⟩ = some (.string b2)) from fun w' hw => by
     obtain ⟨_, _, _, p3, _⟩ := rh_pos (Later.blk hw Hg6.out)
     obtain ⟨t0, _, _, t3, _, t5⟩ := rh_rest (Later.blk hw Hg6.out)
     have x2 := (HR6.out.only (later_only hw) (fun h => h)).cell (i := 2) (by simp)
     simp only [List.getElem_cons_zero, List.getElem_cons_succ] at x2
     rw [show bytes f2 = b2 from Hb2.out] at x2
     rw [Hln0.out] at t5
     exact ⟨t3, p3, t0, t5, x2⟩)
    have HS2 := hide (show ∀ w' : World, Only (fun x => x = gt) w6 w' → (w'.cell? ⟨g, 22, none⟩ = some (.int .i64 s.now) ∧ w'.cell? ⟨g, 16, none⟩ = some (.int .i64 s.p.turn) ∧ w'.cell? ⟨g, 19, none⟩ = some (.int .i64 s.ply) ∧ w'.cell? ⟨g, 24, none⟩ = some (.string ln0) ∧ w'.cell? ⟨g1, 2, none⟩ = some (.string b2)) from fun w' hw => by
     obtain ⟨_, _, _, p3, _⟩ := rh_pos (Hg6.out.only hw (by omega))
     obtain ⟨t0, _, _, t3, _, t5⟩ := rh_rest (Hg6.out.only hw (by omega))
     have x2 := (HR6.out.only hw (by omega)).cell (i := 2) (by simp)
     simp only [List.getElem_cons_zero, List.getElem_cons_succ] at x2
     rw [show bytes f2 = b2 from Hb2.out] at x2
     rw [Hln0.out] at t5
     exact ⟨t3, p3, t0, t5, x2⟩)
    have i2 : IntKind.i64.wrap ((n : Int) + 1) = (n : Int) + 1 := IntWalk.i64_in _ (by omega)
    have i3 : (0 : Int) ≤ (n : Int) + 1 := by omega
    have i4 : (n : Int) + 1 ≤ (cur.size : Int) := by omega
    have i5 : ((n : Int) + 1).toNat = n + 1 := by omega
    have hWgt : W.heap.size ≤ gt := by omega
    clear hln0 hlen hply1 hpl2
    rcases H1.out with ⟨rfl, ha1⟩ | ⟨tp, pp, rfl, hno⟩
    ·
     have Ha1 := hide ha1
     have hbd := Lib.atoiAll_bounds ha1
     have Heq := hide (show ∀ mv a, LineP s x mv a → mv = b2 ∧ a = n1 from fun mv a hh => by
      have e := Hpp0.out mv a hh
      simp only [List.cons.injEq, and_true] at e
      have e1 := Ha1.out
      rw [e.2.1, itoa_all (by have := hh.2.2.1; have := Hos.out.now; omega) hh.2.2.2] at e1
      injection e1 with e1
      exact ⟨bytes_eq (by rw [Hd2.out, e.2.2]), e1⟩)
     clear ha1 H1
     by_cases hat : n1 < s.now
     ·
      have d2 : decide (n1 < s.now) = true := by simpa using hat
      have Hbad := hide (Hoc.out.bad Hcl.out.1 Hcl.out.2 (fun mv a hh => absurd hh.2.2.1 (by have := (Heq.out mv a hh).2; omega)))
      clear hat
      refine wp_region_held_drew (S := fun w' : World => (w'.cell? ⟨g, 22, none⟩ = some (.int .i64 s.now) ∧ w'.cell? ⟨g, 16, none⟩ = some (.int .i64 s.p.turn) ∧ w'.cell? ⟨g, 19, none⟩ = some (.int .i64 s.ply) ∧ w'.cell? ⟨g, 24, none⟩ = some (.string ln0) ∧ w'.cell? ⟨g1, 2, none⟩ = some (.string b2))) (by kernel_rfl) (HS.out _ Later.rfl.drew) (fun hHeld => ?_)
      refine tk 0 (some 48) (v := ?_) ?_ ?_; rotate_left 1; (intro w hSw; (try dsimp only at hSw); go_simp <;> with_reducible rfl); try simp only [Act.put, List.setIfInBounds_toArray, List.set_cons_zero, List.set_cons_succ]
      refine tk 1 (some 49) (v := ?_) ?_ ?_; rotate_left 1; (intro w hSw; (try dsimp only at hSw); go_simp <;> with_reducible rfl); try simp only [Act.put, List.setIfInBounds_toArray, List.set_cons_zero, List.set_cons_succ]
      refine tk 2 (some 50) (v := ?_) ?_ ?_; rotate_left 1; (intro w hSw; (try dsimp only at hSw); go_simp <;> with_reducible rfl); try simp only [Act.put, List.setIfInBounds_toArray, List.set_cons_zero, List.set_cons_succ]
      refine tk 3 (some 51) (v := ?_) ?_ ?_; rotate_left 1; (intro w hSw; (try dsimp only at hSw); go_simp <;> with_reducible rfl); try simp only [Act.put, List.setIfInBounds_toArray, List.set_cons_zero, List.set_cons_succ]
      refine tk 4 (some 52) (v := ?_) ?_ ?_; rotate_left 1; (intro w hSw; (try dsimp only at hSw); go_simp <;> with_reducible rfl); try simp only [Act.put, List.setIfInBounds_toArray, List.set_cons_zero, List.set_cons_succ]
      refine tk 5 (some 53) (v := ?_) ?_ ?_; rotate_left 1; (intro w hSw; (try dsimp only at hSw); go_simp <;> with_reducible rfl); try simp only [Act.put, List.setIfInBounds_toArray, List.set_cons_zero, List.set_cons_succ]
      refine tk 6 (some 54) (v := ?_) ?_ ?_; rotate_left 1; (intro w hSw; (try dsimp only at hSw); go_simp <;> with_reducible rfl); try simp only [Act.put, List.setIfInBounds_toArray, List.set_cons_zero, List.set_cons_succ]
      refine tk 7 (some 55) (v := ?_) ?_ ?_; rotate_left 1; (intro w hSw; (try dsimp only at hSw); go_simp <;> with_reducible rfl); try simp only [Act.put, List.setIfInBounds_toArray, List.set_cons_zero, List.set_cons_succ]
      refine tk 8 (some 56) (v := ?_) ?_ ?_; rotate_left 1; (intro w hSw; (try dsimp only at hSw); go_simp <;> with_reducible rfl); try simp only [Act.put, List.setIfInBounds_toArray, List.set_cons_zero, List.set_cons_succ]
      refine tk 9 (some 57) (v := ?_) ?_ ?_; rotate_left 1; (intro w hSw; (try dsimp only at hSw); go_simp <;> with_reducible rfl); try simp only [Act.put, List.setIfInBounds_toArray, List.set_cons_zero, List.set_cons_succ]
      refine tk 10 (some 58) (v := ?_) ?_ ?_; rotate_left 1; (intro w hSw; (try dsimp only at hSw); go_simp <;> with_reducible rfl); try simp only [Act.put, List.setIfInBounds_toArray, List.set_cons_zero, List.set_cons_succ]
      refine tkn 11 (some 59) ?_
      try simp only [Act.put, List.setIfInBounds_toArray, List.set_cons_zero, List.set_cons_succ]
      refine tkn 12 (some 60) ?_
      try simp only [Act.put, List.setIfInBounds_toArray, List.set_cons_zero, List.set_cons_succ]
      refine tkn 13 (some 61) ?_
      try simp only [Act.put, List.setIfInBounds_toArray, List.set_cons_zero, List.set_cons_succ]
      refine tkn 14 (some 62) ?_
      try simp only [Act.put, List.setIfInBounds_toArray, List.set_cons_zero, List.set_cons_succ]
      refine tkn 15 (some 63) ?_
      try simp only [Act.put, List.setIfInBounds_toArray, List.set_cons_zero, List.set_cons_succ]
      refine tkn 16 (some 64) ?_
      try simp only [Act.put, List.setIfInBounds_toArray, List.set_cons_zero, List.set_cons_succ]
      refine tkn 17 (some 65) ?_
      try simp only [Act.put, List.setIfInBounds_toArray, List.set_cons_zero, List.set_cons_succ]
      refine tkn 18 (some 66) ?_
      try simp only [Act.put, List.setIfInBounds_toArray, List.set_cons_zero, List.set_cons_succ]
      refine tkn 19 (some 67) ?_
      try simp only [Act.put, List.setIfInBounds_toArray, List.set_cons_zero, List.set_cons_succ]
      refine tkn 20 (some 68) ?_
      try simp only [Act.put, List.setIfInBounds_toArray, List.set_cons_zero, List.set_cons_succ]
      refine tkn 21 (some 69) ?_
      try simp only [Act.put, List.setIfInBounds_toArray, List.set_cons_zero, List.set_cons_succ]
      refine tkn 22 (some 70) ?_
      try simp only [Act.put, List.setIfInBounds_toArray, List.set_cons_zero, List.set_cons_succ]
      refine tkn 23 (some 71) ?_
      try simp only [Act.put, List.setIfInBounds_toArray, List.set_cons_zero, List.set_cons_succ]
      refine tkn 24 (some 72) ?_
      try simp only [Act.put, List.setIfInBounds_toArray, List.set_cons_zero, List.set_cons_succ]
      refine tkn 25 (some 73) ?_
      try simp only [Act.put, List.setIfInBounds_toArray, List.set_cons_zero, List.set_cons_succ]
      refine tkn 26 (some 74) ?_
      try simp only [Act.put, List.setIfInBounds_toArray, List.set_cons_zero, List.set_cons_succ]
      refine tkn 27 (some 75) ?_
      try simp only [Act.put, List.setIfInBounds_toArray, List.set_cons_zero, List.set_cons_succ]
      refine tk 28 (some 76) (v := ?_) ?_ ?_; rotate_left 1; (intro w hSw; (try dsimp only at hSw); go_simp <;> with_reducible rfl); try simp only [Act.put, List.setIfInBounds_toArray, List.set_cons_zero, List.set_cons_succ]
      refine tk 29 (some 77) (v := ?_) ?_ ?_; rotate_left 1; (intro w hSw; (try dsimp only at hSw); go_simp <;> with_reducible rfl); try simp only [Act.put, List.setIfInBounds_toArray, List.set_cons_zero, List.set_cons_succ]
      refine tkn 30 (some 78) ?_
      try simp only [Act.put, List.setIfInBounds_toArray, List.set_cons_zero, List.set_cons_succ]
      refine tkn 31 (some 79) ?_
      try simp only [Act.put, List.setIfInBounds_toArray, List.set_cons_zero, List.set_cons_succ]
      refine tkn 32 (some 80) ?_
      try simp only [Act.put, List.setIfInBounds_toArray, List.set_cons_zero, List.set_cons_succ]
      refine tkn 33 (some 81) ?_
      try simp only [Act.put, List.setIfInBounds_toArray, List.set_cons_zero, List.set_cons_succ]
      refine tkn 34 (some 82) ?_
      try simp only [Act.put, List.setIfInBounds_toArray, List.set_cons_zero, List.set_cons_succ]
      refine tkn 35 (some 83) ?_
      try simp only [Act.put, List.setIfInBounds_toArray, List.set_cons_zero, List.set_cons_succ]
      refine tkn 36 (some 84) ?_
      try simp only [Act.put, List.setIfInBounds_toArray, List.set_cons_zero, List.set_cons_succ]
      refine tkn 37 (some 85) ?_
      try simp only [Act.put, List.setIfInBounds_toArray, List.set_cons_zero, List.set_cons_succ]
      refine tkn 38 (some 86) ?_
      try simp only [Act.put, List.setIfInBounds_toArray, List.set_cons_zero, List.set_cons_succ]
      refine tkn 39 (some 87) ?_
      try simp only [Act.put, List.setIfInBounds_toArray, List.set_cons_zero, List.set_cons_succ]
      refine tkn 40 (some 88) ?_
      try simp only [Act.put, List.setIfInBounds_toArray, List.set_cons_zero, List.set_cons_succ]
      refine tkn 41 (some 89) ?_
      try simp only [Act.put, List.setIfInBounds_toArray, List.set_cons_zero, List.set_cons_succ]
      refine tk 42 (some 90) (v := ?_) ?_ ?_; rotate_left 1; (intro w hSw; (try dsimp only at hSw); go_simp <;> with_reducible rfl); try simp only [Act.put, List.setIfInBounds_toArray, List.set_cons_zero, List.set_cons_succ]
      refine wpAnyH_done (by kernel_rfl) ?_ _
      go_wp2_with fail
      go_ret2
      exact ⟨g, s, k, rfl, Hg6.out.drew, hWg, Hos.out, Hsr.out, Hfl.out, Hbad.out, (HO6.out.drew).mono (fun k hk h => by omega)⟩
     ·
      have d2 : decide (n1 < s.now) = false := by simpa using hat
      obtain ⟨s2, hs2⟩ : ∃ s2, (takeP s (msgO s b2 n1)).1 = s2 := ⟨_, rfl⟩
      obtain ⟨kd, hkd⟩ : ∃ kd, (takeP s (msgO s b2 n1)).2 = kd := ⟨_, rfl⟩
      obtain ⟨rp, hrp⟩ : ∃ rp, s2.ply = rp := ⟨_, rfl⟩
      obtain ⟨ro, hro⟩ : ∃ ro, outP s2 = ro := ⟨_, rfl⟩
      obtain ⟨rt, hrt⟩ : ∃ rt, bytes (textL s2.p) = rt := ⟨_, rfl⟩
      have hrv : repV (takeP s (msgO s b2 n1)) = #[.int .i64 kd, .int .i64 rp, .int .i64 ro, .string rt] := by unfold repV; rw [hs2, hkd, hrp, hro, hrt]
      have HT := hide (fun w (hw : Later w6 w) => show Calls Tryz.prog 24 #[.pointer (some ⟨gt, 0, none⟩), .agg #[.int .i64 s.p.turn, .int .i64 s.ply, .string b2, .int .i64 n1]] w _ from rtake_any gt s A cp (fun x => x < W.heap.size) (msgO s b2 n1) w (Later.blk hw Hgt6.out) Hos.out (by rw [Hsr.out]; exact HPr.out _ (HO6.out.trans' (later_only hw) (fun _ _ h => h.elim))) (by omega) hbd.1 hbd.2 (by omega) ⟨(HEn.out _ (HO6.out.trans' (later_only hw) (fun _ _ h => h.elim))).tb⟩)
      rw [hrv, hs2] at HT
      have hrk := fun w => rep_kind kd rp ro rt w
      have Hok2 := hide (show HoOk s2 from by rw [← hs2]; exact take_ok Hos.out hbd.2)
      have Hsr2 := hide (show s2.r = r from by rw [← hs2, take_r, Hsr.out])
      have Hfl2 := hide (show kd = 1 → s2.flag = 0 from fun h => by rw [← hs2]; exact take_flag (by rw [hkd, h]) Hfl.out)
      have Hlns := hide (show kd = 1 → s2.lines = s.lines ++ (Lib.itoa s.ply ++ 32 :: (Lib.itoa n1 ++ 32 :: (b2.data.toList ++ [10]))) from fun h => by rw [← hs2]; exact take_lines (by rw [hkd, h]) (by omega))
      have Hstp := hide (show kd = 1 → LineP s x b2 n1 → OpenCont (startP r t) tx.data.toList s2 y (k + 1) from fun h hp => by rw [← hs2]; exact Hoc.out.step Hcl.out.1 Hcl.out.2 hp (by rw [hkd, h]))
      have Hbd := hide (show (kd = 1 → ¬ LineP s x b2 n1) → OpenR (startP r t) tx.data.toList s k from fun h => Hoc.out.bad Hcl.out.1 Hcl.out.2 (fun mv a hh hk => by
       obtain ⟨rfl, rfl⟩ := Heq.out mv a hh
       exact h (by rw [← hkd]; exact hk) hh))
      obtain ⟨ln2, hln2⟩ : ∃ ln2, bytes s2.lines = ln2 := ⟨_, rfl⟩
      have Hl2 := hide hln2
      have n5a : ¬ (9223372036854775807 < ln0.size + (cur.extract 0 (n + 1)).size) := by rw [ByteArray.size_extract]; omega
      have n5b : ¬ (9223372036854775807 < ln0.size + (min (n + 1) cur.size - 0)) := by omega
      have n5d : ¬ (9223372036854775807 < ln0.size + min (n + 1) cur.size) := by omega
      have n5c : ¬ (9223372036854775807 < ln0.size + (n + 1)) := by omega
      clear hs2 hkd hrp hro hrt hrv hln2
      by_cases hk1 : kd = 1
      ·
       subst hk1
       have d4 : ((1 : Int) != 1) = false := by decide
       have Heql := hide (line_eq (s := s) (s2 := s2) (x := x) (mv := b2) (a := n1) (Hlns.out rfl) (by omega) hbd.2 (split_last Hparts0.out Hd2.out))
       obtain ⟨b5, d5⟩ : ∃ b5, (ln2.toList == (ln0 ++ cur.extract 0 (n + 1)).toList) = b5 := ⟨_, rfl⟩
       have HB5 := hide d5
       refine wp_region_held_drew (S := fun w' : World => (w'.cell? ⟨g, 22, none⟩ = some (.int .i64 s.now) ∧ w'.cell? ⟨g, 16, none⟩ = some (.int .i64 s.p.turn) ∧ w'.cell? ⟨g, 19, none⟩ = some (.int .i64 s.ply) ∧ w'.cell? ⟨g, 24, none⟩ = some (.string ln0) ∧ w'.cell? ⟨g1, 2, none⟩ = some (.string b2))) (by kernel_rfl) (HS.out _ Later.rfl.drew) (fun hHeld => ?_)
       refine tk 0 (some 48) (v := ?_) ?_ ?_; rotate_left 1; (intro w hSw; (try dsimp only at hSw); go_simp <;> with_reducible rfl); try simp only [Act.put, List.setIfInBounds_toArray, List.set_cons_zero, List.set_cons_succ]
       refine tk 1 (some 49) (v := ?_) ?_ ?_; rotate_left 1; (intro w hSw; (try dsimp only at hSw); go_simp <;> with_reducible rfl); try simp only [Act.put, List.setIfInBounds_toArray, List.set_cons_zero, List.set_cons_succ]
       refine tk 2 (some 50) (v := ?_) ?_ ?_; rotate_left 1; (intro w hSw; (try dsimp only at hSw); go_simp <;> with_reducible rfl); try simp only [Act.put, List.setIfInBounds_toArray, List.set_cons_zero, List.set_cons_succ]
       refine tk 3 (some 51) (v := ?_) ?_ ?_; rotate_left 1; (intro w hSw; (try dsimp only at hSw); go_simp <;> with_reducible rfl); try simp only [Act.put, List.setIfInBounds_toArray, List.set_cons_zero, List.set_cons_succ]
       refine tk 4 (some 52) (v := ?_) ?_ ?_; rotate_left 1; (intro w hSw; (try dsimp only at hSw); go_simp <;> with_reducible rfl); try simp only [Act.put, List.setIfInBounds_toArray, List.set_cons_zero, List.set_cons_succ]
       refine tk 5 (some 53) (v := ?_) ?_ ?_; rotate_left 1; (intro w hSw; (try dsimp only at hSw); go_simp <;> with_reducible rfl); try simp only [Act.put, List.setIfInBounds_toArray, List.set_cons_zero, List.set_cons_succ]
       refine tk 6 (some 54) (v := ?_) ?_ ?_; rotate_left 1; (intro w hSw; (try dsimp only at hSw); go_simp <;> with_reducible rfl); try simp only [Act.put, List.setIfInBounds_toArray, List.set_cons_zero, List.set_cons_succ]
       refine tk 7 (some 55) (v := ?_) ?_ ?_; rotate_left 1; (intro w hSw; (try dsimp only at hSw); go_simp <;> with_reducible rfl); try simp only [Act.put, List.setIfInBounds_toArray, List.set_cons_zero, List.set_cons_succ]
       refine tk 8 (some 56) (v := ?_) ?_ ?_; rotate_left 1; (intro w hSw; (try dsimp only at hSw); go_simp <;> with_reducible rfl); try simp only [Act.put, List.setIfInBounds_toArray, List.set_cons_zero, List.set_cons_succ]
       refine tk 9 (some 57) (v := ?_) ?_ ?_; rotate_left 1; (intro w hSw; (try dsimp only at hSw); go_simp <;> with_reducible rfl); try simp only [Act.put, List.setIfInBounds_toArray, List.set_cons_zero, List.set_cons_succ]
       refine tk 10 (some 58) (v := ?_) ?_ ?_; rotate_left 1; (intro w hSw; (try dsimp only at hSw); go_simp <;> with_reducible rfl); try simp only [Act.put, List.setIfInBounds_toArray, List.set_cons_zero, List.set_cons_succ]
       refine tk 11 (some 59) (v := ?_) ?_ ?_; rotate_left 1; (intro w hSw; (try dsimp only at hSw); go_simp <;> with_reducible rfl); try simp only [Act.put, List.setIfInBounds_toArray, List.set_cons_zero, List.set_cons_succ]
       refine tk 12 (some 60) (v := ?_) ?_ ?_; rotate_left 1; (intro w hSw; (try dsimp only at hSw); go_simp <;> with_reducible rfl); try simp only [Act.put, List.setIfInBounds_toArray, List.set_cons_zero, List.set_cons_succ]
       refine tk 13 (some 61) (v := ?_) ?_ ?_; rotate_left 1; (intro w hSw; (try dsimp only at hSw); go_simp <;> with_reducible rfl); try simp only [Act.put, List.setIfInBounds_toArray, List.set_cons_zero, List.set_cons_succ]
       refine tk 14 (some 62) (v := ?_) ?_ ?_; rotate_left 1; (intro w hSw; (try dsimp only at hSw); go_simp <;> with_reducible rfl); try simp only [Act.put, List.setIfInBounds_toArray, List.set_cons_zero, List.set_cons_succ]
       refine tk 15 (some 63) (v := ?_) ?_ ?_; rotate_left 1; (intro w hSw; (try dsimp only at hSw); go_simp <;> with_reducible rfl); try simp only [Act.put, List.setIfInBounds_toArray, List.set_cons_zero, List.set_cons_succ]
       refine tk 16 (some 64) (v := ?_) ?_ ?_; rotate_left 1; (intro w hSw; (try dsimp only at hSw); go_simp <;> with_reducible rfl); try simp only [Act.put, List.setIfInBounds_toArray, List.set_cons_zero, List.set_cons_succ]
       refine tk 17 (some 65) (v := ?_) ?_ ?_; rotate_left 1; (intro w hSw; (try dsimp only at hSw); go_simp <;> with_reducible rfl); try simp only [Act.put, List.setIfInBounds_toArray, List.set_cons_zero, List.set_cons_succ]
       refine tk 18 (some 66) (v := ?_) ?_ ?_; rotate_left 1; (intro w hSw; (try dsimp only at hSw); go_simp <;> with_reducible rfl); try simp only [Act.put, List.setIfInBounds_toArray, List.set_cons_zero, List.set_cons_succ]
       refine tk 19 (some 67) (v := ?_) ?_ ?_; rotate_left 1; (intro w hSw; (try dsimp only at hSw); go_simp <;> with_reducible rfl); try simp only [Act.put, List.setIfInBounds_toArray, List.set_cons_zero, List.set_cons_succ]
       refine tk 20 (some 68) (v := ?_) ?_ ?_; rotate_left 1; (intro w hSw; (try dsimp only at hSw); go_simp <;> with_reducible rfl); try simp only [Act.put, List.setIfInBounds_toArray, List.set_cons_zero, List.set_cons_succ]
       refine tk 21 (some 69) (v := ?_) ?_ ?_; rotate_left 1; (intro w hSw; (try dsimp only at hSw); go_simp <;> with_reducible rfl); try simp only [Act.put, List.setIfInBounds_toArray, List.set_cons_zero, List.set_cons_succ]
       refine tk 22 (some 70) (v := ?_) ?_ ?_; rotate_left 1; (intro w hSw; (try dsimp only at hSw); go_simp <;> with_reducible rfl); try simp only [Act.put, List.setIfInBounds_toArray, List.set_cons_zero, List.set_cons_succ]
       refine tk 23 (some 71) (v := ?_) ?_ ?_; rotate_left 1; (intro w hSw; (try dsimp only at hSw); go_simp <;> with_reducible rfl); try simp only [Act.put, List.setIfInBounds_toArray, List.set_cons_zero, List.set_cons_succ]
       refine tk 24 (some 72) (v := ?_) ?_ ?_; rotate_left 1; (intro w hSw; (try dsimp only at hSw); go_simp <;> with_reducible rfl); try simp only [Act.put, List.setIfInBounds_toArray, List.set_cons_zero, List.set_cons_succ]
       refine wpAnyH_ready (rs := [25]) (by kernel_rfl) (by simp) ?_
       refine AllReadyH.cons (o := ⟨some 73, _, _, _, _, _⟩) rfl (fun K hK => ?_) ?_
       ·
        clear hHeld
        go_simp
        go_at_call 24
        refine (HT.out _ (Later.rfl.drew)).mono ?_
        rintro e w7 ⟨rfl, hb7, ho7⟩
        have Hb7 := hide hb7
        have Ho7 := hide (show Only (fun x => x = gt) w6 w7 from ((Only.refl (fun x => x = gt) w6).drew).trans ho7)
        clear hb7 ho7
        try go_wp2_with fail
        refine hK.out _ _ (by first | exact HS2.out _ Ho7.out | (refine HS.out _ ?_; repeat (first | exact Later.rfl | refine Later.drew ?_ | refine Later.alloc ?_ _))) (fun hHeld => ?_)
        clear hK K
        try simp only [Act.put, List.setIfInBounds_toArray, List.set_cons_zero, List.set_cons_succ]
        refine tk 26 (some 74) (v := ?_) ?_ ?_; rotate_left 1; (intro w hSw; (try dsimp only at hSw); go_simp <;> with_reducible rfl); try simp only [Act.put, List.setIfInBounds_toArray, List.set_cons_zero, List.set_cons_succ]
        refine tk 27 (some 75) (v := ?_) ?_ ?_; rotate_left 1; (intro w hSw; (try dsimp only at hSw); go_simp <;> with_reducible rfl); try simp only [Act.put, List.setIfInBounds_toArray, List.set_cons_zero, List.set_cons_succ]
        refine tk 28 (some 76) (v := ?_) ?_ ?_; rotate_left 1; (intro w hSw; (try dsimp only at hSw); go_simp <;> with_reducible rfl); try simp only [Act.put, List.setIfInBounds_toArray, List.set_cons_zero, List.set_cons_succ]
        refine tk 29 (some 77) (v := ?_) ?_ ?_; rotate_left 1; (intro w hSw; (try dsimp only at hSw); go_simp <;> with_reducible rfl); try simp only [Act.put, List.setIfInBounds_toArray, List.set_cons_zero, List.set_cons_succ]
        refine tk 30 (some 78) (v := ?_) ?_ ?_; rotate_left 1; (intro w hSw; (try dsimp only at hSw); go_simp <;> with_reducible rfl); try simp only [Act.put, List.setIfInBounds_toArray, List.set_cons_zero, List.set_cons_succ]
        refine tk 32 (some 80) (v := ?_) ?_ ?_; rotate_left 1; (intro w hSw; (try dsimp only at hSw); go_simp <;> with_reducible rfl); try simp only [Act.put, List.setIfInBounds_toArray, List.set_cons_zero, List.set_cons_succ]
        refine tk 33 (some 81) (v := ?_) ?_ ?_; rotate_left 1; (intro w hSw; (try dsimp only at hSw); go_simp <;> with_reducible rfl); try simp only [Act.put, List.setIfInBounds_toArray, List.set_cons_zero, List.set_cons_succ]
        refine tk 34 (some 82) (v := ?_) ?_ ?_; rotate_left 1; (intro w hSw; (try dsimp only at hSw); go_simp <;> with_reducible rfl); try simp only [Act.put, List.setIfInBounds_toArray, List.set_cons_zero, List.set_cons_succ]
        refine tk 35 (some 83) (v := ?_) ?_ ?_; rotate_left 1; (intro w hSw; (try dsimp only at hSw); go_simp <;> with_reducible rfl); try simp only [Act.put, List.setIfInBounds_toArray, List.set_cons_zero, List.set_cons_succ]
        refine tk 36 (some 84) (v := ?_) ?_ ?_; rotate_left 1; (intro w hSw; (try dsimp only at hSw); go_simp <;> with_reducible rfl); try simp only [Act.put, List.setIfInBounds_toArray, List.set_cons_zero, List.set_cons_succ]
        refine tk 37 (some 85) (v := ?_) ?_ ?_; rotate_left 1; (intro w hSw; (try dsimp only at hSw); go_simp <;> with_reducible rfl); try simp only [Act.put, List.setIfInBounds_toArray, List.set_cons_zero, List.set_cons_succ]
        refine tk 38 (some 86) (v := ?_) ?_ ?_; rotate_left 1; (intro w hSw; (try dsimp only at hSw); go_simp <;> with_reducible rfl); try simp only [Act.put, List.setIfInBounds_toArray, List.set_cons_zero, List.set_cons_succ]
        refine tk 39 (some 87) (v := ?_) ?_ ?_; rotate_left 1; (intro w hSw; (try dsimp only at hSw); go_simp <;> with_reducible rfl); try simp only [Act.put, List.setIfInBounds_toArray, List.set_cons_zero, List.set_cons_succ]
        refine tk 40 (some 88) (v := ?_) ?_ ?_; rotate_left 1; (intro w hSw; (try dsimp only at hSw); go_simp <;> with_reducible rfl); try simp only [Act.put, List.setIfInBounds_toArray, List.set_cons_zero, List.set_cons_succ]
        refine wpAnyH_ready (rs := [31]) (by kernel_rfl) (by simp) ?_
        refine AllReadyH.cons (o := ⟨some 79, _, _, _, _, _⟩) rfl (fun K hK => ?_) ?_
        ·
         clear hHeld
         obtain ⟨-, -, -, -, -, z5⟩ := rh_rest Hb7.out
         rw [Hl2.out] at z5
         go_simp
         clear z5
         refine hK.out _ _ (by first | exact HS2.out _ Ho7.out | (refine HS.out _ ?_; repeat (first | exact Later.rfl | refine Later.drew ?_ | refine Later.alloc ?_ _))) (fun hHeld => ?_)
         clear hK K
         try simp only [Act.put, List.setIfInBounds_toArray, List.set_cons_zero, List.set_cons_succ]
         refine tk 41 (some 89) (v := ?_) ?_ ?_; rotate_left 1; (intro w hSw; (try dsimp only at hSw); go_simp <;> with_reducible rfl); try simp only [Act.put, List.setIfInBounds_toArray, List.set_cons_zero, List.set_cons_succ]
         refine tk 42 (some 90) (v := ?_) ?_ ?_; rotate_left 1; (intro w hSw; (try dsimp only at hSw); go_simp <;> with_reducible rfl); try simp only [Act.put, List.setIfInBounds_toArray, List.set_cons_zero, List.set_cons_succ]
         refine wpAnyH_done (by kernel_rfl) ?_ _
         clear d5
         cases b5
         ·
          have hq : ln2 ≠ ln0 ++ cur.extract 0 (n + 1) := by have h := HB5.out; rw [toListB] at h; exact of_decide_eq_false h
          have Hbad := hide (Hbd.out (fun _ hp => hq (by rw [← Hl2.out, ← Hln0.out, bytes_cat_ext Hx2.out]; exact Heql.out.2 hp)))
          clear hq Heql
          go_wp2_with fail
          go_ret2
          exact ⟨g, s, k, rfl, Hg6.out.only Ho7.out (by omega), hWg, Hos.out, Hsr.out, Hfl.out, Hbad.out, (HO6.out.trans' Ho7.out (fun i hi hs => by omega)).mono (fun k hk h => by omega)⟩
         ·
          have hq : ln2 = ln0 ++ cur.extract 0 (n + 1) := by have h := HB5.out; rw [toListB] at h; exact of_decide_eq_true h
          have Hlp := hide (Heql.out.1 (by rw [Hl2.out, ← bytes_cat_ext Hx2.out, Hln0.out]; exact hq))
          have Hcont := hide (Hstp.out (by simp) Hlp.out)
          clear hq Heql
          have hy : (cur.extract (n + 1) cur.size).size + 1 ≤ cur.size := by rw [ByteArray.size_extract]; omega
          go_wp2_with fail
          go_big_region
          go_wp2_with fail
          go_roundw
          case rel => exact ⟨k + 1, cur.extract (n + 1) cur.size, s2, gt, rfl, rfl, by go_num, by omega, Hb7.out, hWgt, Hok2.out, Hsr2.out, Hfl2.out (by simp), by rw [Hx3.out]; exact Hcont.out, by first | exact HO6.out.trans' Ho7.out (fun i hi hs => by omega) | exact (HO6.out.trans' Ho7.out (fun i hi hs => by omega)).drew⟩
          case measure => simp only [strLen]; omega
        exact AllReadyH.nil
       exact AllReadyH.nil
      ·
       have d4 : (kd != 1) = true := by simpa using hk1
       have Hbad := hide (Hbd.out (fun h => absurd h hk1))
       clear hk1
       refine wp_region_held_drew (S := fun w' : World => (w'.cell? ⟨g, 22, none⟩ = some (.int .i64 s.now) ∧ w'.cell? ⟨g, 16, none⟩ = some (.int .i64 s.p.turn) ∧ w'.cell? ⟨g, 19, none⟩ = some (.int .i64 s.ply) ∧ w'.cell? ⟨g, 24, none⟩ = some (.string ln0) ∧ w'.cell? ⟨g1, 2, none⟩ = some (.string b2))) (by kernel_rfl) (HS.out _ Later.rfl.drew) (fun hHeld => ?_)
       refine tk 0 (some 48) (v := ?_) ?_ ?_; rotate_left 1; (intro w hSw; (try dsimp only at hSw); go_simp <;> with_reducible rfl); try simp only [Act.put, List.setIfInBounds_toArray, List.set_cons_zero, List.set_cons_succ]
       refine tk 1 (some 49) (v := ?_) ?_ ?_; rotate_left 1; (intro w hSw; (try dsimp only at hSw); go_simp <;> with_reducible rfl); try simp only [Act.put, List.setIfInBounds_toArray, List.set_cons_zero, List.set_cons_succ]
       refine tk 2 (some 50) (v := ?_) ?_ ?_; rotate_left 1; (intro w hSw; (try dsimp only at hSw); go_simp <;> with_reducible rfl); try simp only [Act.put, List.setIfInBounds_toArray, List.set_cons_zero, List.set_cons_succ]
       refine tk 3 (some 51) (v := ?_) ?_ ?_; rotate_left 1; (intro w hSw; (try dsimp only at hSw); go_simp <;> with_reducible rfl); try simp only [Act.put, List.setIfInBounds_toArray, List.set_cons_zero, List.set_cons_succ]
       refine tk 4 (some 52) (v := ?_) ?_ ?_; rotate_left 1; (intro w hSw; (try dsimp only at hSw); go_simp <;> with_reducible rfl); try simp only [Act.put, List.setIfInBounds_toArray, List.set_cons_zero, List.set_cons_succ]
       refine tk 5 (some 53) (v := ?_) ?_ ?_; rotate_left 1; (intro w hSw; (try dsimp only at hSw); go_simp <;> with_reducible rfl); try simp only [Act.put, List.setIfInBounds_toArray, List.set_cons_zero, List.set_cons_succ]
       refine tk 6 (some 54) (v := ?_) ?_ ?_; rotate_left 1; (intro w hSw; (try dsimp only at hSw); go_simp <;> with_reducible rfl); try simp only [Act.put, List.setIfInBounds_toArray, List.set_cons_zero, List.set_cons_succ]
       refine tk 7 (some 55) (v := ?_) ?_ ?_; rotate_left 1; (intro w hSw; (try dsimp only at hSw); go_simp <;> with_reducible rfl); try simp only [Act.put, List.setIfInBounds_toArray, List.set_cons_zero, List.set_cons_succ]
       refine tk 8 (some 56) (v := ?_) ?_ ?_; rotate_left 1; (intro w hSw; (try dsimp only at hSw); go_simp <;> with_reducible rfl); try simp only [Act.put, List.setIfInBounds_toArray, List.set_cons_zero, List.set_cons_succ]
       refine tk 9 (some 57) (v := ?_) ?_ ?_; rotate_left 1; (intro w hSw; (try dsimp only at hSw); go_simp <;> with_reducible rfl); try simp only [Act.put, List.setIfInBounds_toArray, List.set_cons_zero, List.set_cons_succ]
       refine tk 10 (some 58) (v := ?_) ?_ ?_; rotate_left 1; (intro w hSw; (try dsimp only at hSw); go_simp <;> with_reducible rfl); try simp only [Act.put, List.setIfInBounds_toArray, List.set_cons_zero, List.set_cons_succ]
       refine tk 11 (some 59) (v := ?_) ?_ ?_; rotate_left 1; (intro w hSw; (try dsimp only at hSw); go_simp <;> with_reducible rfl); try simp only [Act.put, List.setIfInBounds_toArray, List.set_cons_zero, List.set_cons_succ]
       refine tk 12 (some 60) (v := ?_) ?_ ?_; rotate_left 1; (intro w hSw; (try dsimp only at hSw); go_simp <;> with_reducible rfl); try simp only [Act.put, List.setIfInBounds_toArray, List.set_cons_zero, List.set_cons_succ]
       refine tk 13 (some 61) (v := ?_) ?_ ?_; rotate_left 1; (intro w hSw; (try dsimp only at hSw); go_simp <;> with_reducible rfl); try simp only [Act.put, List.setIfInBounds_toArray, List.set_cons_zero, List.set_cons_succ]
       refine tk 14 (some 62) (v := ?_) ?_ ?_; rotate_left 1; (intro w hSw; (try dsimp only at hSw); go_simp <;> with_reducible rfl); try simp only [Act.put, List.setIfInBounds_toArray, List.set_cons_zero, List.set_cons_succ]
       refine tk 15 (some 63) (v := ?_) ?_ ?_; rotate_left 1; (intro w hSw; (try dsimp only at hSw); go_simp <;> with_reducible rfl); try simp only [Act.put, List.setIfInBounds_toArray, List.set_cons_zero, List.set_cons_succ]
       refine tk 16 (some 64) (v := ?_) ?_ ?_; rotate_left 1; (intro w hSw; (try dsimp only at hSw); go_simp <;> with_reducible rfl); try simp only [Act.put, List.setIfInBounds_toArray, List.set_cons_zero, List.set_cons_succ]
       refine tk 17 (some 65) (v := ?_) ?_ ?_; rotate_left 1; (intro w hSw; (try dsimp only at hSw); go_simp <;> with_reducible rfl); try simp only [Act.put, List.setIfInBounds_toArray, List.set_cons_zero, List.set_cons_succ]
       refine tk 18 (some 66) (v := ?_) ?_ ?_; rotate_left 1; (intro w hSw; (try dsimp only at hSw); go_simp <;> with_reducible rfl); try simp only [Act.put, List.setIfInBounds_toArray, List.set_cons_zero, List.set_cons_succ]
       refine tk 19 (some 67) (v := ?_) ?_ ?_; rotate_left 1; (intro w hSw; (try dsimp only at hSw); go_simp <;> with_reducible rfl); try simp only [Act.put, List.setIfInBounds_toArray, List.set_cons_zero, List.set_cons_succ]
       refine tk 20 (some 68) (v := ?_) ?_ ?_; rotate_left 1; (intro w hSw; (try dsimp only at hSw); go_simp <;> with_reducible rfl); try simp only [Act.put, List.setIfInBounds_toArray, List.set_cons_zero, List.set_cons_succ]
       refine tk 21 (some 69) (v := ?_) ?_ ?_; rotate_left 1; (intro w hSw; (try dsimp only at hSw); go_simp <;> with_reducible rfl); try simp only [Act.put, List.setIfInBounds_toArray, List.set_cons_zero, List.set_cons_succ]
       refine tk 22 (some 70) (v := ?_) ?_ ?_; rotate_left 1; (intro w hSw; (try dsimp only at hSw); go_simp <;> with_reducible rfl); try simp only [Act.put, List.setIfInBounds_toArray, List.set_cons_zero, List.set_cons_succ]
       refine tk 23 (some 71) (v := ?_) ?_ ?_; rotate_left 1; (intro w hSw; (try dsimp only at hSw); go_simp <;> with_reducible rfl); try simp only [Act.put, List.setIfInBounds_toArray, List.set_cons_zero, List.set_cons_succ]
       refine tk 24 (some 72) (v := ?_) ?_ ?_; rotate_left 1; (intro w hSw; (try dsimp only at hSw); go_simp <;> with_reducible rfl); try simp only [Act.put, List.setIfInBounds_toArray, List.set_cons_zero, List.set_cons_succ]
       refine wpAnyH_ready (rs := [25]) (by kernel_rfl) (by simp) ?_
       refine AllReadyH.cons (o := ⟨some 73, _, _, _, _, _⟩) rfl (fun K hK => ?_) ?_
       ·
        clear hHeld
        go_simp
        go_at_call 24
        refine (HT.out _ (Later.rfl.drew)).mono ?_
        rintro e w7 ⟨rfl, hb7, ho7⟩
        have Hb7 := hide hb7
        have Ho7 := hide (show Only (fun x => x = gt) w6 w7 from ((Only.refl (fun x => x = gt) w6).drew).trans ho7)
        clear hb7 ho7
        try go_wp2_with fail
        refine hK.out _ _ (by first | exact HS2.out _ Ho7.out | (refine HS.out _ ?_; repeat (first | exact Later.rfl | refine Later.drew ?_ | refine Later.alloc ?_ _))) (fun hHeld => ?_)
        clear hK K
        try simp only [Act.put, List.setIfInBounds_toArray, List.set_cons_zero, List.set_cons_succ]
        refine tk 26 (some 74) (v := ?_) ?_ ?_; rotate_left 1; (intro w hSw; (try dsimp only at hSw); go_simp <;> with_reducible rfl); try simp only [Act.put, List.setIfInBounds_toArray, List.set_cons_zero, List.set_cons_succ]
        refine tk 27 (some 75) (v := ?_) ?_ ?_; rotate_left 1; (intro w hSw; (try dsimp only at hSw); go_simp <;> with_reducible rfl); try simp only [Act.put, List.setIfInBounds_toArray, List.set_cons_zero, List.set_cons_succ]
        refine tk 28 (some 76) (v := ?_) ?_ ?_; rotate_left 1; (intro w hSw; (try dsimp only at hSw); go_simp <;> with_reducible rfl); try simp only [Act.put, List.setIfInBounds_toArray, List.set_cons_zero, List.set_cons_succ]
        refine tk 29 (some 77) (v := ?_) ?_ ?_; rotate_left 1; (intro w hSw; (try dsimp only at hSw); go_simp <;> with_reducible rfl); try simp only [Act.put, List.setIfInBounds_toArray, List.set_cons_zero, List.set_cons_succ]
        refine tkn 30 (some 78) ?_
        try simp only [Act.put, List.setIfInBounds_toArray, List.set_cons_zero, List.set_cons_succ]
        refine tkn 31 (some 79) ?_
        try simp only [Act.put, List.setIfInBounds_toArray, List.set_cons_zero, List.set_cons_succ]
        refine tkn 32 (some 80) ?_
        try simp only [Act.put, List.setIfInBounds_toArray, List.set_cons_zero, List.set_cons_succ]
        refine tkn 33 (some 81) ?_
        try simp only [Act.put, List.setIfInBounds_toArray, List.set_cons_zero, List.set_cons_succ]
        refine tkn 34 (some 82) ?_
        try simp only [Act.put, List.setIfInBounds_toArray, List.set_cons_zero, List.set_cons_succ]
        refine tkn 35 (some 83) ?_
        try simp only [Act.put, List.setIfInBounds_toArray, List.set_cons_zero, List.set_cons_succ]
        refine tkn 36 (some 84) ?_
        try simp only [Act.put, List.setIfInBounds_toArray, List.set_cons_zero, List.set_cons_succ]
        refine tkn 37 (some 85) ?_
        try simp only [Act.put, List.setIfInBounds_toArray, List.set_cons_zero, List.set_cons_succ]
        refine tkn 38 (some 86) ?_
        try simp only [Act.put, List.setIfInBounds_toArray, List.set_cons_zero, List.set_cons_succ]
        refine tkn 39 (some 87) ?_
        try simp only [Act.put, List.setIfInBounds_toArray, List.set_cons_zero, List.set_cons_succ]
        refine tkn 40 (some 88) ?_
        try simp only [Act.put, List.setIfInBounds_toArray, List.set_cons_zero, List.set_cons_succ]
        refine tkn 41 (some 89) ?_
        try simp only [Act.put, List.setIfInBounds_toArray, List.set_cons_zero, List.set_cons_succ]
        refine tk 42 (some 90) (v := ?_) ?_ ?_; rotate_left 1; (intro w hSw; (try dsimp only at hSw); go_simp <;> with_reducible rfl); try simp only [Act.put, List.setIfInBounds_toArray, List.set_cons_zero, List.set_cons_succ]
        refine wpAnyH_done (by kernel_rfl) ?_ _
        go_wp2_with fail
        go_ret2
        exact ⟨g, s, k, rfl, Hg6.out.only Ho7.out (by omega), hWg, Hos.out, Hsr.out, Hfl.out, Hbad.out, (HO6.out.trans' Ho7.out (fun i hi hs => by omega)).mono (fun k hk h => by omega)⟩
       exact AllReadyH.nil
    ·
     have Hbad := hide (Hoc.out.bad Hcl.out.1 Hcl.out.2 (fun mv a hh => by
      have e := Hpp0.out mv a hh
      simp only [List.cons.injEq, and_true] at e
      exact absurd (by rw [e.2.1]; exact itoa_all (by have := hh.2.2.1; have := Hos.out.now; omega) hh.2.2.2) (hno a)))
     clear hno H1
     refine wp_region_held_drew (S := fun w' : World => (w'.cell? ⟨g, 22, none⟩ = some (.int .i64 s.now) ∧ w'.cell? ⟨g, 16, none⟩ = some (.int .i64 s.p.turn) ∧ w'.cell? ⟨g, 19, none⟩ = some (.int .i64 s.ply) ∧ w'.cell? ⟨g, 24, none⟩ = some (.string ln0) ∧ w'.cell? ⟨g1, 2, none⟩ = some (.string b2))) (by kernel_rfl) (HS.out _ Later.rfl.drew) (fun hHeld => ?_)
     refine tk 0 (some 48) (v := ?_) ?_ ?_; rotate_left 1; (intro w hSw; (try dsimp only at hSw); go_simp <;> with_reducible rfl); try simp only [Act.put, List.setIfInBounds_toArray, List.set_cons_zero, List.set_cons_succ]
     refine tk 1 (some 49) (v := ?_) ?_ ?_; rotate_left 1; (intro w hSw; (try dsimp only at hSw); go_simp <;> with_reducible rfl); try simp only [Act.put, List.setIfInBounds_toArray, List.set_cons_zero, List.set_cons_succ]
     refine tk 2 (some 50) (v := ?_) ?_ ?_; rotate_left 1; (intro w hSw; (try dsimp only at hSw); go_simp <;> with_reducible rfl); try simp only [Act.put, List.setIfInBounds_toArray, List.set_cons_zero, List.set_cons_succ]
     refine tkn 3 (some 51) ?_
     try simp only [Act.put, List.setIfInBounds_toArray, List.set_cons_zero, List.set_cons_succ]
     refine tkn 4 (some 52) ?_
     try simp only [Act.put, List.setIfInBounds_toArray, List.set_cons_zero, List.set_cons_succ]
     refine tkn 5 (some 53) ?_
     try simp only [Act.put, List.setIfInBounds_toArray, List.set_cons_zero, List.set_cons_succ]
     refine tkn 6 (some 54) ?_
     try simp only [Act.put, List.setIfInBounds_toArray, List.set_cons_zero, List.set_cons_succ]
     refine tkn 7 (some 55) ?_
     try simp only [Act.put, List.setIfInBounds_toArray, List.set_cons_zero, List.set_cons_succ]
     refine tkn 8 (some 56) ?_
     try simp only [Act.put, List.setIfInBounds_toArray, List.set_cons_zero, List.set_cons_succ]
     refine tk 9 (some 57) (v := ?_) ?_ ?_; rotate_left 1; (intro w hSw; (try dsimp only at hSw); go_simp <;> with_reducible rfl); try simp only [Act.put, List.setIfInBounds_toArray, List.set_cons_zero, List.set_cons_succ]
     refine tk 10 (some 58) (v := ?_) ?_ ?_; rotate_left 1; (intro w hSw; (try dsimp only at hSw); go_simp <;> with_reducible rfl); try simp only [Act.put, List.setIfInBounds_toArray, List.set_cons_zero, List.set_cons_succ]
     refine tkn 11 (some 59) ?_
     try simp only [Act.put, List.setIfInBounds_toArray, List.set_cons_zero, List.set_cons_succ]
     refine tkn 12 (some 60) ?_
     try simp only [Act.put, List.setIfInBounds_toArray, List.set_cons_zero, List.set_cons_succ]
     refine tkn 13 (some 61) ?_
     try simp only [Act.put, List.setIfInBounds_toArray, List.set_cons_zero, List.set_cons_succ]
     refine tkn 14 (some 62) ?_
     try simp only [Act.put, List.setIfInBounds_toArray, List.set_cons_zero, List.set_cons_succ]
     refine tkn 15 (some 63) ?_
     try simp only [Act.put, List.setIfInBounds_toArray, List.set_cons_zero, List.set_cons_succ]
     refine tkn 16 (some 64) ?_
     try simp only [Act.put, List.setIfInBounds_toArray, List.set_cons_zero, List.set_cons_succ]
     refine tkn 17 (some 65) ?_
     try simp only [Act.put, List.setIfInBounds_toArray, List.set_cons_zero, List.set_cons_succ]
     refine tkn 18 (some 66) ?_
     try simp only [Act.put, List.setIfInBounds_toArray, List.set_cons_zero, List.set_cons_succ]
     refine tkn 19 (some 67) ?_
     try simp only [Act.put, List.setIfInBounds_toArray, List.set_cons_zero, List.set_cons_succ]
     refine tkn 20 (some 68) ?_
     try simp only [Act.put, List.setIfInBounds_toArray, List.set_cons_zero, List.set_cons_succ]
     refine tkn 21 (some 69) ?_
     try simp only [Act.put, List.setIfInBounds_toArray, List.set_cons_zero, List.set_cons_succ]
     refine tkn 22 (some 70) ?_
     try simp only [Act.put, List.setIfInBounds_toArray, List.set_cons_zero, List.set_cons_succ]
     refine tkn 23 (some 71) ?_
     try simp only [Act.put, List.setIfInBounds_toArray, List.set_cons_zero, List.set_cons_succ]
     refine tkn 24 (some 72) ?_
     try simp only [Act.put, List.setIfInBounds_toArray, List.set_cons_zero, List.set_cons_succ]
     refine tkn 25 (some 73) ?_
     try simp only [Act.put, List.setIfInBounds_toArray, List.set_cons_zero, List.set_cons_succ]
     refine tkn 26 (some 74) ?_
     try simp only [Act.put, List.setIfInBounds_toArray, List.set_cons_zero, List.set_cons_succ]
     refine tkn 27 (some 75) ?_
     try simp only [Act.put, List.setIfInBounds_toArray, List.set_cons_zero, List.set_cons_succ]
     refine tk 28 (some 76) (v := ?_) ?_ ?_; rotate_left 1; (intro w hSw; (try dsimp only at hSw); go_simp <;> with_reducible rfl); try simp only [Act.put, List.setIfInBounds_toArray, List.set_cons_zero, List.set_cons_succ]
     refine tk 29 (some 77) (v := ?_) ?_ ?_; rotate_left 1; (intro w hSw; (try dsimp only at hSw); go_simp <;> with_reducible rfl); try simp only [Act.put, List.setIfInBounds_toArray, List.set_cons_zero, List.set_cons_succ]
     refine tkn 30 (some 78) ?_
     try simp only [Act.put, List.setIfInBounds_toArray, List.set_cons_zero, List.set_cons_succ]
     refine tkn 31 (some 79) ?_
     try simp only [Act.put, List.setIfInBounds_toArray, List.set_cons_zero, List.set_cons_succ]
     refine tkn 32 (some 80) ?_
     try simp only [Act.put, List.setIfInBounds_toArray, List.set_cons_zero, List.set_cons_succ]
     refine tkn 33 (some 81) ?_
     try simp only [Act.put, List.setIfInBounds_toArray, List.set_cons_zero, List.set_cons_succ]
     refine tkn 34 (some 82) ?_
     try simp only [Act.put, List.setIfInBounds_toArray, List.set_cons_zero, List.set_cons_succ]
     refine tkn 35 (some 83) ?_
     try simp only [Act.put, List.setIfInBounds_toArray, List.set_cons_zero, List.set_cons_succ]
     refine tkn 36 (some 84) ?_
     try simp only [Act.put, List.setIfInBounds_toArray, List.set_cons_zero, List.set_cons_succ]
     refine tkn 37 (some 85) ?_
     try simp only [Act.put, List.setIfInBounds_toArray, List.set_cons_zero, List.set_cons_succ]
     refine tkn 38 (some 86) ?_
     try simp only [Act.put, List.setIfInBounds_toArray, List.set_cons_zero, List.set_cons_succ]
     refine tkn 39 (some 87) ?_
     try simp only [Act.put, List.setIfInBounds_toArray, List.set_cons_zero, List.set_cons_succ]
     refine tkn 40 (some 88) ?_
     try simp only [Act.put, List.setIfInBounds_toArray, List.set_cons_zero, List.set_cons_succ]
     refine tkn 41 (some 89) ?_
     try simp only [Act.put, List.setIfInBounds_toArray, List.set_cons_zero, List.set_cons_succ]
     refine tk 42 (some 90) (v := ?_) ?_ ?_; rotate_left 1; (intro w hSw; (try dsimp only at hSw); go_simp <;> with_reducible rfl); try simp only [Act.put, List.setIfInBounds_toArray, List.set_cons_zero, List.set_cons_succ]
     refine wpAnyH_done (by kernel_rfl) ?_ _
     go_wp2_with fail
     go_ret2
     exact ⟨g, s, k, rfl, Hg6.out.drew, hWg, Hos.out, Hsr.out, Hfl.out, Hbad.out, (HO6.out.drew).mono (fun k hk h => by omega)⟩
   ·
    have d3 : ((pn : Int) != 3) = true := by simp; omega
    have Hbad := hide (Hoc.out.bad Hcl.out.1 Hcl.out.2 (fun mv a hh => by
     have e := Hpp0.out mv a hh
     exact absurd (by rw [Hpn.out, e]; rfl) hp3))
    clear hp3
    go_wp2_with fail
    go_ret2
    exact ⟨g, s, k, rfl, Hg3.out, hWg, Hos.out, Hsr.out, Hfl.out, Hbad.out, HO3.out.mono (fun k hk h => by omega)⟩
end Go.Proofs.YtcdfeaodfmfdnaaGreatDoor
