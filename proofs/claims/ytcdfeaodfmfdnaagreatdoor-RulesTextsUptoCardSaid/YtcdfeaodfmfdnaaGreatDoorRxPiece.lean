/- rules.readPiece: walked. -/
import Derived.Test.YtcdfeaodfmfdnaaGreatDoorRxWay
import Derived.Test.YtcdfeaodfmfdnaaGreatDoorRxPieceM
import Derived.Test.YtcdfeaodfmfdnaaGreatDoorAppK
import Derived.Test.YtcdfeaodfmfdnaaGreatDoorRulesMem
import Derived.Deep.Onto
import Derived.Deep.AppendLies
namespace Go.Proofs.YtcdfeaodfmfdnaaGreatDoor
open Go.RowKit

theorem Blk.three_ {w : World} {g : Nat} {t : TypeId} {a b c : Value} (h : Blk w g t #[a, b, c]) :
    w.cell? ⟨g, 0, none⟩ = some a ∧ w.cell? ⟨g, 1, none⟩ = some b ∧ w.cell? ⟨g, 2, none⟩ = some c ∧ ∀ i, w.frozen? ⟨g, i, none⟩ = false :=
  ⟨h.cellv rfl, h.cellv rfl, h.cellv rfl, h.free⟩
theorem splitW_any (s sep : ByteArray) (h1 : 1 ≤ sep.size) (w : World) (hs : s.size < 4294967281) (hm : MaxAt w) :
    Calls Tryz.prog 33 #[.string s, .string sep] w fun e w' => ∃ n, n = (Lib.split s.data.toList sep.data.toList).length ∧ e = .returned (.slice (some ⟨w.heap.size, 0, none⟩) n n) ∧ RowsAt w' w.heap.size (Lib.split s.data.toList sep.data.toList) ∧ Only (fun _ => False) w w' ∧ w'.heap.size = w.heap.size + 1 := by
  obtain ⟨m, hm⟩ := hm
  refine (Tryz.strings_Split s sep m w hs hm h1).mono ?_
  rintro e w' ⟨rfl, rfl⟩
  have hl := Lib.splitB_all sep h1 0 _ s rfl
  have hd := Lib.splitB_data sep 0 (Lib.countB s sep) s
  have hB : Lib.splitB sep 0 (Lib.countB s sep) s = (Lib.split s.data.toList sep.data.toList).map bytes := by
    rw [show Lib.split s.data.toList sep.data.toList = Lib.splitK sep.data.toList 0 (Lib.countB s sep) s.data.toList from rfl, ← hd, List.map_map]
    conv => lhs; rw [← List.map_id (Lib.splitB sep 0 (Lib.countB s sep) s)]
    exact List.map_congr_left (fun a _ => by simp [bytes])
  rw [hB] at hl ⊢
  refine ⟨_, rfl, ?_, ?_, (Only.refl _ w).alloc _, World.size_alloc _ _⟩
  · rw [← hl, List.length_map]
  · have := Blk.new w 9 ((Lib.split s.data.toList sep.data.toList).map strL).toArray
    rw [List.map_map]
    exact this
theorem info_way : (Tryz.prog.info? 80).map (fun i => (i.zero, i.size, i.bytes)) = some (some (.agg #[.int .i64 0, .int .i64 0, .int .i64 0, .int .i64 0]), 4, 32) := by kernel_rfl
/-- what readPiece answers -/
def PieceOut (s : ByteArray) (W : World) (e : Ending) (w' : World) : Prop :=
  ∃ (p : PieceD) (ok : Bool) (sv : Value), e = .returned (.tuple #[.agg #[.int .u8 (p.letter : Int), .int .i64 p.worth, sv], .bool ok]) ∧ PieceP s.data.toList p ok ∧ w'.ownsRow W.heap.size 80 4 sv p.ways.length (ints (flatW p.ways)) ∧ Only (fun _ => False) W w'
theorem cut_len (l sep : List UInt8) : (Lib.cut l sep).1.length ≤ l.length ∧ (Lib.cut l sep).2.1.length ≤ l.length := by
  unfold Lib.cut
  split
  · exact ⟨by simp only [List.length_take]; omega, by simp only [List.length_drop]; omega⟩
  · exact ⟨Nat.le_refl _, by simp⟩
set_option maxHeartbeats 16000000 in
set_option maxRecDepth 100000 in
theorem readPiece_any (s : ByteArray) (W : World) (hs : s.size < 4294967281) (he : Env W) :
    Calls Tryz.prog 75 #[.string s] W (PieceOut s W) := by
  have hbig := he.big
  go_enter Tryz.func75, Tryz.ntmps75
  go_upto_region 1 with (fail)
  have HZ0 := hide (Blk.new W 77 #[.int .u8 0, .int .i64 0, .slice none 0 0])
  have ho0 : Only (fun _ => False) W (W.alloc (.cells #[.int .u8 0, .int .i64 0, .slice none 0 0] 77)) := (Only.refl _ W).alloc _
  have hsz0 : (W.alloc (.cells #[.int .u8 0, .int .i64 0, .slice none 0 0] 77)).heap.size = W.heap.size + 1 := World.size_alloc _ _
  obtain ⟨w0, hw0⟩ : ∃ w0, W.alloc (.cells #[.int .u8 0, .int .i64 0, .slice none 0 0] 77) = w0 := ⟨_, rfl⟩
  rw [hw0] at HZ0 ho0 hsz0 ⊢
  obtain ⟨g0, hg0⟩ : ∃ g0, W.heap.size = g0 := ⟨_, rfl⟩
  have HE0 := hide (he.no ho0)
  have HO0 := hide ho0
  rw [hg0] at HZ0 hsz0 hbig ⊢
  have Hg0 := hide hg0
  have Hsz0 := hide hsz0
  obtain ⟨m, hm⟩ := HE0.out.m
  have HC := hide (Tryz.strings_Cut s ⟨#[58, 32]⟩ m w0 hs hm)
  rw [show (⟨#[58, 32]⟩ : ByteArray).data.toList = [58, 32] from rfl] at HC
  have hcl := cut_len s.data.toList [58, 32]
  have hcl1 : s.data.toList.length = s.size := by simp
  obtain ⟨ct, hct⟩ : ∃ ct, Lib.cut s.data.toList [58, 32] = ct := ⟨_, rfl⟩
  have Hct := hide hct
  rw [hct] at HC hcl
  obtain ⟨H, Wt, any⟩ := ct
  simp only at HC hcl
  obtain ⟨sh, hsh⟩ : ∃ sh : ByteArray, ⟨H.toArray⟩ = sh := ⟨_, rfl⟩
  obtain ⟨sw, hsw⟩ : ∃ sw : ByteArray, ⟨Wt.toArray⟩ = sw := ⟨_, rfl⟩
  have Hsh := hide (show sh.data.toList = H from by rw [← hsh])
  have Hsw := hide (show sw.data.toList = Wt from by rw [← hsw])
  have hshl : sh.size < 4294967281 := by
    have : sh.data.toList.length = sh.size := by simp
    rw [Hsh.out] at this
    omega
  have hswl : sw.size < 4294967281 := by
    have : sw.data.toList.length = sw.size := by simp
    rw [Hsw.out] at this
    omega
  rw [hsh, hsw] at HC
  clear hw0 ho0 he hg0 hsz0 hm hct hsh hsw hcl hcl1
  go_upto_region 2 with (go_at_call 34; refine HC.out.mono ?_; rintro e w1 ⟨rfl, n, rfl⟩)
  have HE1 := hide (HE0.out.no ((Only.refl _ w0).drewN n))
  have HO1 := hide (HO0.out.drewN n)
  have HZ1 := hide (show Blk (w0.drewN n) g0 77 #[.int .u8 0, .int .i64 0, .slice none 0 0] from HZ0.out)
  have Hsz1 := hide (show (w0.drewN n).heap.size = g0 + 1 from Hsz0.out)
  obtain ⟨w1, hw1⟩ : ∃ w1, w0.drewN n = w1 := ⟨_, rfl⟩
  rw [hw1] at HE1 HO1 HZ1 Hsz1 ⊢
  clear hw1 HE0 HO0 HZ0 Hsz0 HC
  have H1 := hide (split_any 32 sh w1 hshl HE1.out.m)
  go_upto_region 3 with (go_at_call 33; refine H1.out.mono ?_; rintro e w2 ⟨nf, hnf, rfl, hp, ho2, hsz2⟩; have Hnf := hide hnf; have Hsz2 := hide hsz2; clear hnf hsz2)
  have hpl : ∀ a ∈ splitL 32 sh.data.toList, a.length ≤ sh.size := fun a ha => by have := splitL_mem ha; simpa using this
  obtain ⟨F, hF⟩ : ∃ F, splitL 32 sh.data.toList = F := ⟨_, rfl⟩
  have HFe := hide (show splitL 32 (Lib.cut s.data.toList [58, 32]).1 = F from by rw [Hct.out, ← hF, Hsh.out])
  rw [hF] at Hnf hp hpl
  have HE2 := hide (HE1.out.no ho2)
  have HO2 := hide (HO1.out.trans ho2)
  have HZ2 := hide (HZ1.out.only ho2 (fun h => h))
  have HF2 := hide hp
  have Hpl := hide hpl
  obtain ⟨g1, hg1⟩ : ∃ g1, w1.heap.size = g1 := ⟨_, rfl⟩
  rw [hg1] at HF2 Hsz1 Hsz2 ⊢
  have hg10 : g0 < g1 := by rw [Hsz1.out]; omega
  clear hF hp hpl ho2 hg1 HE1 HZ1 HO1 H1
  by_cases h3 : nf = 3
  case neg =>
    have d3 : ((nf : Int) != 3) = true := by rw [bne_iff_ne]; omega
    have d3n : (nf != 3) = true := by rw [bne_iff_ne]; omega
    have HNO := hide (show PieceP s.data.toList ⟨0, 0, []⟩ false from ⟨fun h => (by cases h), fun p' hp w0 h1 h2 hl => by
      have := (piece_parts hp h1 h2 hl).1
      rw [HFe.out] at this
      rw [this] at Hnf
      exact absurd Hnf.out h3⟩)
    clear h3
    obtain ⟨z0, z1, z2, zf⟩ := Blk.three_ HZ2.out
    have zf0 := zf 0
    have zf1 := zf 1
    have zf2 := zf 2
    clear zf
    have hz7 : Blk _ g0 77 #[.int .u8 0, .int .i64 0, .slice none 0 0] := Blk.set_ (Blk.set_ (Blk.set_ HZ2.out 0 (.int .u8 0)) 1 (.int .i64 0)) 2 (.slice none 0 0)
    have HZ7 := hide hz7
    have hge : W.heap.size ≤ g0 := by rw [Hg0.out]; exact Nat.le_refl _
    have HO7 := hide (((HO2.out.setCell (p := ⟨g0, 0, none⟩) (.inr hge) (.int .u8 0)).setCell (p := ⟨g0, 1, none⟩) (.inr hge) (.int .i64 0)).setCell (p := ⟨g0, 2, none⟩) (.inr hge) (.slice none 0 0))
    clear hz7 hge
    go_upto_region 4 with (fail)
    go_wp2_with fail
    clear z0 z1 z2 zf0 zf1 zf2
    obtain ⟨q0, q1, q2, -⟩ := Blk.three_ HZ7.out
    refine bodyPost_ret (v := .tuple #[.agg #[.int .u8 0, .int .i64 0, .slice none 0 0], .bool false]) (by simp [results, Tryz.results75, go_sem, q0, q1, q2]) rfl ⟨⟨0, 0, []⟩, false, .slice none 0 0, rfl, HNO.out, World.ownsRow_nil _ _ _ _, HO7.out⟩
  have d3 : ((nf : Int) != 3) = false := by rw [h3]; rfl
  have d3n : (nf != 3) = false := by rw [h3]; rfl
  have n2 : (2 : Int) < (nf : Int) := by omega
  have H3 := hide (show F.length = 3 from by rw [← Hnf.out]; exact h3)
  have c1 := HF2.out.cellD (i := 1) (by rw [H3.out]; omega)
  obtain ⟨s1, hs1⟩ : ∃ s1, bytes (F.getD 1 []) = s1 := ⟨_, rfl⟩
  obtain ⟨s2, hs2⟩ : ∃ s2, bytes (F.getD 2 []) = s2 := ⟨_, rfl⟩
  have l2 : s2.size ≤ 281474976710656 := by rw [← hs2, size_bytes]; have := Hpl.out _ (getD_mem (xs := F) (i := 2) (by rw [H3.out]; omega)); omega
  have Hs1 := hide (show s1.data.toList = F.getD 1 [] from by rw [← hs1, bytes_list])
  have Hs2 := hide (show s2.data.toList = F.getD 2 [] from by rw [← hs2, bytes_list])
  have Hc2 := hide (fun (w' : World) (h : RowsAt w' g1 F) => (show w'.cell? ⟨g1, 2, none⟩ = some (.string s2) from by rw [h.cellD (i := 2) (by rw [H3.out]; omega), hs2]))
  rw [hs1] at c1
  have HL := hide (letter_any s1 w2)
  obtain ⟨z0, z1, z2, zf⟩ := Blk.three_ HZ2.out
  have zf0 := zf 0
  clear zf hs1 hs2 h3
  have n1 : (1 : Int) < (nf : Int) := by omega
  go_upto_region 6 with (go_at_call 76; refine HL.out.mono ?_; rintro e w3 ⟨⟨n, okl, rfl, hlet⟩, rfl⟩; have Hlet := hide hlet; clear hlet)
  have HZ4 := hide (show Blk (w3.setCell ⟨g0, 0, none⟩ (.int .u8 (n : Int))) g0 77 #[.int .u8 (n : Int), .int .i64 0, .slice none 0 0] from Blk.set_ HZ2.out 0 _)
  have hst : Only (fun x => x = g0) w3 (w3.setCell ⟨g0, 0, none⟩ (.int .u8 (n : Int))) := (Only.refl (fun x => x = g0) w3).setCell (p := ⟨g0, 0, none⟩) (.inl rfl) _
  have HE4 := hide (HE2.out.step hst (fun i hi => by omega))
  have HO4 := hide (HO2.out.trans' hst (fun i hi hs => by have := Hg0.out; omega))
  have hpr : RowsAt (w3.setCell ⟨g0, 0, none⟩ (.int .u8 (n : Int))) g1 F := Blk.only HF2.out hst (by omega)
  have c2 := Hc2.out _ hpr
  obtain ⟨w4, hw4⟩ : ∃ w4, w3.setCell ⟨g0, 0, none⟩ (.int .u8 (n : Int)) = w4 := ⟨_, rfl⟩
  rw [hw4] at HZ4 HE4 HO4 c2 hst ⊢
  have Hsz4 := hide (show g1 < w4.heap.size from by have := hst.size; rw [Hsz2.out] at this; omega)
  have HN := hide (number_any s2 w4 l2 HE4.out)
  clear hw4 hst hpr c1 HL HE2 HO2 HZ2 Hsz2 HF2 z0 z1 z2 zf0 Hc2
  obtain ⟨z0, z1, z2, zf⟩ := Blk.three_ HZ4.out
  go_upto_region 7 with (go_at_call 77; refine HN.out.mono ?_; rintro e w5 ⟨⟨v, okn, rfl, hv⟩, ho5⟩; have Hv := hide hv; clear hv)
  have HZ5 := hide (HZ4.out.only ho5 (fun h => h))
  have HE5 := hide (HE4.out.no ho5)
  have HO5 := hide (HO4.out.trans ho5)
  have Hsz5 := hide (show g1 < w5.heap.size from Nat.lt_of_lt_of_le Hsz4.out ho5.size)
  clear z0 z1 z2 zf ho5 HZ4 HE4 HO4 Hsz4 HN c2
  obtain ⟨z0, z1, z2, zf⟩ := Blk.three_ HZ5.out
  have zf1 := zf 1
  clear zf
  go_upto_region 8 with (fail)
  have HZ6 := hide (show Blk (w5.setCell ⟨g0, 1, none⟩ (.int .i64 v)) g0 77 #[.int .u8 (n : Int), .int .i64 v, .slice none 0 0] from Blk.set_ HZ5.out 1 _)
  have hst : Only (fun x => x = g0) w5 (w5.setCell ⟨g0, 1, none⟩ (.int .i64 v)) := (Only.refl (fun x => x = g0) w5).setCell (p := ⟨g0, 1, none⟩) (.inl rfl) _
  have HE6 := hide (HE5.out.step hst (fun i hi => by omega))
  have HO6 := hide (HO5.out.trans' hst (fun i hi hs => by have := Hg0.out; omega))
  obtain ⟨w6, hw6⟩ : ∃ w6, w5.setCell ⟨g0, 1, none⟩ (.int .i64 v) = w6 := ⟨_, rfl⟩
  rw [hw6] at HZ6 HE6 HO6 hst ⊢
  have Hsz6 := hide (show g1 < w6.heap.size from Nat.lt_of_lt_of_le Hsz5.out hst.size)
  clear hw6 hst z0 z1 z2 zf1 HZ5 HE5 HO5 Hsz5
  have HF := hide (And.intro HFe.out (And.intro (show LetP (F.getD 1 []) n okl from by rw [← Hs1.out]; exact Hlet.out) (show NumP (F.getD 2 []) v okn from by rw [← Hs2.out]; exact Hv.out)))
  have HNO := hide (show okl = false ∨ okn = false → PieceP s.data.toList ⟨n, v, []⟩ false from fun hb => ⟨fun h => (by cases h), fun p' hp w0 h1 h2 hl => by
    have hq := (piece_parts hp h1 h2 hl).1
    obtain ⟨f1, f2, f3⟩ := HF.out
    rw [f1] at hq
    rw [hq] at f2 f3
    simp only [List.getD_cons_zero, List.getD_cons_succ] at f2 f3
    rcases hb with rfl | rfl
    · have h5 := (f2.2 rfl).2 _ rfl
      rw [up_small hp.1, hp.1] at h5
      cases h5
    · obtain ⟨m, hm, m9⟩ := hp.2.1
      rw [hm] at f3
      exact f3.2 m m9 (by simp)⟩)
  clear Hlet Hv
  cases okl
  case false =>
    obtain ⟨z0, z1, z2, zf⟩ := Blk.three_ HZ6.out
    have zf0 := zf 0
    have zf1 := zf 1
    have zf2 := zf 2
    clear zf
    have hz7 : Blk _ g0 77 #[.int .u8 (n : Int), .int .i64 v, .slice none 0 0] := Blk.set_ (Blk.set_ (Blk.set_ HZ6.out 0 (.int .u8 (n : Int))) 1 (.int .i64 v)) 2 (.slice none 0 0)
    have HZ7 := hide hz7
    have hge : W.heap.size ≤ g0 := by rw [Hg0.out]; exact Nat.le_refl _
    have HO7 := hide (((HO6.out.setCell (p := ⟨g0, 0, none⟩) (.inr hge) (.int .u8 (n : Int))).setCell (p := ⟨g0, 1, none⟩) (.inr hge) (.int .i64 v)).setCell (p := ⟨g0, 2, none⟩) (.inr hge) (.slice none 0 0))
    clear hz7 hge
    go_upto_region 9 with (fail)
    go_wp2_with fail
    clear z0 z1 z2 zf0 zf1 zf2
    obtain ⟨q0, q1, q2, -⟩ := Blk.three_ HZ7.out
    refine bodyPost_ret (v := .tuple #[.agg #[.int .u8 (n : Int), .int .i64 v, .slice none 0 0], .bool false]) (by simp [results, Tryz.results75, go_sem, q0, q1, q2]) rfl ⟨⟨n, v, []⟩, false, .slice none 0 0, rfl, HNO.out (by simp), World.ownsRow_nil _ _ _ _, HO7.out⟩
  case true =>
  cases okn
  case false =>
    obtain ⟨z0, z1, z2, zf⟩ := Blk.three_ HZ6.out
    have zf0 := zf 0
    have zf1 := zf 1
    have zf2 := zf 2
    clear zf
    have hz7 : Blk _ g0 77 #[.int .u8 (n : Int), .int .i64 v, .slice none 0 0] := Blk.set_ (Blk.set_ (Blk.set_ HZ6.out 0 (.int .u8 (n : Int))) 1 (.int .i64 v)) 2 (.slice none 0 0)
    have HZ7 := hide hz7
    have hge : W.heap.size ≤ g0 := by rw [Hg0.out]; exact Nat.le_refl _
    have HO7 := hide (((HO6.out.setCell (p := ⟨g0, 0, none⟩) (.inr hge) (.int .u8 (n : Int))).setCell (p := ⟨g0, 1, none⟩) (.inr hge) (.int .i64 v)).setCell (p := ⟨g0, 2, none⟩) (.inr hge) (.slice none 0 0))
    clear hz7 hge
    go_upto_region 9 with (fail)
    go_wp2_with fail
    clear z0 z1 z2 zf0 zf1 zf2
    obtain ⟨q0, q1, q2, -⟩ := Blk.three_ HZ7.out
    refine bodyPost_ret (v := .tuple #[.agg #[.int .u8 (n : Int), .int .i64 v, .slice none 0 0], .bool false]) (by simp [results, Tryz.results75, go_sem, q0, q1, q2]) rfl ⟨⟨n, v, []⟩, false, .slice none 0 0, rfl, HNO.out (by simp), World.ownsRow_nil _ _ _ _, HO7.out⟩
  case true =>
  have HF3 := hide (show (splitL 32 (Lib.cut s.data.toList [58, 32]).1).length = 3 from by rw [HFe.out]; exact H3.out)
  cases any
  case false =>
    have HYES := hide (show PieceP s.data.toList ⟨n, v, []⟩ true from ⟨fun _ => by
      obtain ⟨f1, f2, f3⟩ := HF.out
      exact piece_found HF3.out (by rw [f1]; exact f2) (by rw [f1]; exact f3) (fun w hw => by cases hw) (fun _ => rfl) (fun h => by rw [Hct.out] at h; cases h), fun _ _ _ _ _ _ => rfl⟩)
    obtain ⟨z0, z1, z2, zf⟩ := Blk.three_ HZ6.out
    have zf0 := zf 0
    have zf1 := zf 1
    have zf2 := zf 2
    clear zf
    have hz7 : Blk _ g0 77 #[.int .u8 (n : Int), .int .i64 v, .slice none 0 0] := Blk.set_ (Blk.set_ (Blk.set_ HZ6.out 0 (.int .u8 (n : Int))) 1 (.int .i64 v)) 2 (.slice none 0 0)
    have HZ7 := hide hz7
    have hge : W.heap.size ≤ g0 := by rw [Hg0.out]; exact Nat.le_refl _
    have HO7 := hide (((HO6.out.setCell (p := ⟨g0, 0, none⟩) (.inr hge) (.int .u8 (n : Int))).setCell (p := ⟨g0, 1, none⟩) (.inr hge) (.int .i64 v)).setCell (p := ⟨g0, 2, none⟩) (.inr hge) (.slice none 0 0))
    clear hz7 hge
    go_upto_region 11 with (fail)
    go_wp2_with fail
    clear z0 z1 z2 zf0 zf1 zf2
    obtain ⟨q0, q1, q2, -⟩ := Blk.three_ HZ7.out
    refine bodyPost_ret (v := .tuple #[.agg #[.int .u8 (n : Int), .int .i64 v, .slice none 0 0], .bool true]) (by simp [results, Tryz.results75, go_sem, q0, q1, q2]) rfl ⟨⟨n, v, []⟩, true, .slice none 0 0, rfl, HYES.out, World.ownsRow_nil _ _ _ _, HO7.out⟩
  case true =>
  have H5 := hide (splitW_any sw ⟨#[44, 32]⟩ (by decide) w6 hswl HE6.out.m)
  rw [show (⟨#[44, 32]⟩ : ByteArray).data.toList = [44, 32] from rfl] at H5
  go_wp2_with (go_at_call 33; refine H5.out.mono ?_; rintro e w7 ⟨nx, hnx, rfl, hx7, ho7, hsz7⟩; have Hnx := hide hnx; have Hsz7 := hide hsz7; clear hnx hsz7)
  have hxl : ∀ a ∈ Lib.split sw.data.toList [44, 32], a.length ≤ sw.size := fun a ha => by have := split_mem' ha; simpa using this
  have hxc : (Lib.split sw.data.toList [44, 32]).length ≤ sw.size + 1 := by have := split_count (sep := [44, 32]) (l := sw.data.toList) (by simp); simpa using this
  obtain ⟨X, hX⟩ : ∃ X, Lib.split sw.data.toList [44, 32] = X := ⟨_, rfl⟩
  rw [hX] at hxl hxc Hnx hx7
  have HXe := hide (show Lib.split (Lib.cut s.data.toList [58, 32]).2.1 [44, 32] = X from by rw [Hct.out, ← hX, Hsw.out])
  have hany : (Lib.cut s.data.toList [58, 32]).2.2 = true := by rw [Hct.out]
  have Hany := hide hany
  have HE7 := hide (HE6.out.no ho7)
  have HZ7 := hide (HZ6.out.only ho7 (fun h => h))
  have HO7 := hide (HO6.out.trans ho7)
  obtain ⟨gx, hgx⟩ : ∃ gx, w6.heap.size = gx := ⟨_, rfl⟩
  rw [hgx] at hx7 Hsz7 Hsz6 ⊢
  have HX7 := hide hx7
  have Hxl := hide hxl
  have hg0x : g0 < gx := by have := Hsz6.out; omega
  have hnxb : nx ≤ 4294967281 := by rw [Hnx.out]; omega
  clear hX hxl hxc hany ho7 hgx hx7 HE6 HZ6 HO6 H5 HNO
  obtain ⟨B, hB⟩ : ∃ B, w7.heap.size = B := ⟨_, rfl⟩
  have HB := hide hB
  have hgxB : gx < B := by rw [← hB, Hsz7.out]; omega
  clear hB
  obtain ⟨iw, hiw, hiz, his, hib⟩ := info_parts info_way
  have HI := hide (And.intro hiw (And.intro hiz (And.intro his hib)))
  clear hiw hiz his hib
  go_loopw [56] (fun iv wr => ∃ (i : Nat) (ws : List WayD) (sv : Value), i ≤ nx ∧ iv = .int .i64 (i : Int) ∧ ws.length = i ∧ (∀ j (h : j < ws.length), X.getD j [] = wayL ws[j]) ∧ (∀ w ∈ ws, WayIn w) ∧ Blk wr g0 77 #[.int .u8 (n : Int), .int .i64 v, sv] ∧ wr.ownsRow B 80 4 sv i (ints (flatW ws)) ∧ Only (fun x => x = g0) w7 wr) (fun iv _ => nx - (intOf iv).toNat)
  case atStart => exact ⟨0, [], .slice none 0 0, by omega, rfl, rfl, fun j h => (by simp at h), fun w h => (by cases h), HZ7.out, World.ownsRow_nil _ _ _ _, Only.refl _ _⟩
  case round =>
    rename World => wr
    obtain ⟨i, ws, sv, hi, rfl, hwl, hxw, hwi, hz, hown, ho⟩ := hrel
    have Hwl := hide hwl
    have Hxw := hide hxw
    have Hwi := hide hwi
    have HZr := hide hz
    have HOwn := hide hown
    have HOr := hide ho
    have HEr := hide (HE7.out.step ho (fun i hi => by omega))
    have HOWr := hide (HO7.out.trans' ho (fun i hi hs => by have := Hg0.out; omega))
    have hxr : RowsAt wr gx X := Blk.only HX7.out ho (by omega)
    have HXr := hide hxr
    have hBr : B ≤ wr.heap.size := by rw [← HB.out]; exact ho.size
    obtain ⟨A, c, rfl⟩ : ∃ A c, sv = .slice A i c := by
      rcases hown.2 with ⟨h1, h2⟩ | ⟨g, cap, cur, h1, _⟩
      · subst h2; exact ⟨_, _, h1⟩
      · exact ⟨_, _, h1⟩
    clear hwl hxw hwi hz hown ho HZ7 HE7 HO7
    by_cases hil : i < nx
    · have d1 : decide ((i : Int) < (nx : Int)) = true := by simp; omega
      have d1n : decide (i < nx) = true := by simp; omega
      have i0 : (0 : Int) ≤ (i : Int) := by omega
      have i1 : (i : Int) < (nx : Int) := by omega
      have hiX : i < X.length := by rw [← Hnx.out]; exact hil
      have cx := hxr.cellD hiX
      obtain ⟨sx, hsx⟩ : ∃ sx, bytes (X.getD i []) = sx := ⟨_, rfl⟩
      have hsxl : sx.size < 4294967281 := by rw [← hsx, size_bytes]; have := Hxl.out _ (getD_mem hiX); omega
      have Hsx := hide (show sx.data.toList = X.getD i [] from by rw [← hsx, bytes_list])
      rw [hsx] at cx
      have HRW := hide (readWay_any sx wr hsxl HEr.out)
      clear hsx hxr
      go_upto_region 16 with (go_at_call 116; refine HRW.out.mono ?_; rintro e w8 ⟨⟨⟨kd, x, y, tk⟩, okw, rfl, hway⟩, ho8⟩; have Hway := hide hway; clear hway)
      have HE9 := hide ((HEr.out.no ho8).no ((Only.refl _ w8).alloc (.cells #[.int .i64 kd, .int .i64 x, .int .i64 y, .int .i64 tk] 80)))
      have hon9 : Only (fun _ => False) wr (w8.alloc (.cells #[.int .i64 kd, .int .i64 x, .int .i64 y, .int .i64 tk] 80)) := ho8.trans ((Only.refl _ w8).alloc _)
      have HZ9 := hide (HZr.out.only hon9 (fun h => h))
      have HOn9 := hide (ownsRow_only HOwn.out hon9 (fun _ _ h => h))
      have HO9 := hide (HOr.out.trans' hon9 (fun _ _ h => h.elim))
      have HOW9 := hide (HOWr.out.trans hon9)
      have HW9 := hide (Blk.new w8 80 #[.int .i64 kd, .int .i64 x, .int .i64 y, .int .i64 tk])
      obtain ⟨gw, hgw⟩ : ∃ gw, w8.heap.size = gw := ⟨_, rfl⟩
      have hgwB : B ≤ gw := by rw [← hgw]; exact Nat.le_trans hBr ho8.size
      have hgw9 : (w8.alloc (.cells #[.int .i64 kd, .int .i64 x, .int .i64 y, .int .i64 tk] 80)).heap.size = gw + 1 := by rw [World.size_alloc, hgw]
      obtain ⟨w9, hw9⟩ : ∃ w9, w8.alloc (.cells #[.int .i64 kd, .int .i64 x, .int .i64 y, .int .i64 tk] 80) = w9 := ⟨_, rfl⟩
      rw [hw9] at HE9 HZ9 HOn9 HO9 HOW9 HW9 hgw9 ⊢
      rw [hgw] at HW9 ⊢
      have HGW9 := hide hgw9
      clear hon9 ho8 hgw hw9 hgw9 HRW HZr HOwn HOr HOWr HXr HEr cx
      cases okw
      case false =>
        have HNO := hide (show PieceP s.data.toList ⟨n, v, ws⟩ false from ⟨fun h => (by cases h), fun p' hp w0 h1 h2 hl => by
          obtain ⟨q1, q2, q3⟩ := piece_parts hp h1 h2 hl
          rw [Hany.out] at q2
          have hne : p'.ways ≠ [] := of_decide_eq_true q2.symm
          have q4 := q3 hne
          rw [HXe.out] at q4
          have hlen : i < p'.ways.length := by have h5 := congrArg List.length q4; simp at h5; omega
          have hget : X.getD i [] = wayL p'.ways[i] := by rw [q4, List.getD, List.getElem?_eq_getElem (by simpa using hlen)]; simp
          exact Hway.out.2 _ (hp.2.2 _ (List.getElem_mem hlen)) (by rw [Hsx.out]; exact hget)⟩)
        obtain ⟨z0, z1, z2, zf⟩ := Blk.three_ HZ9.out
        have zf0 := zf 0
        have zf1 := zf 1
        have zf2 := zf 2
        clear zf
        have hz7 : Blk _ g0 77 #[.int .u8 (n : Int), .int .i64 v, .slice A i c] := Blk.set_ (Blk.set_ (Blk.set_ HZ9.out 0 (.int .u8 (n : Int))) 1 (.int .i64 v)) 2 (.slice A i c)
        have HZ7 := hide hz7
        have hge : W.heap.size ≤ g0 := by rw [Hg0.out]; exact Nat.le_refl _
        have HO7 := hide (((HOW9.out.setCell (p := ⟨g0, 0, none⟩) (.inr hge) (.int .u8 (n : Int))).setCell (p := ⟨g0, 1, none⟩) (.inr hge) (.int .i64 v)).setCell (p := ⟨g0, 2, none⟩) (.inr hge) (.slice A i c))
        clear hz7 hge
        go_upto_region 17 with (fail)
        go_wp2_with fail
        clear z0 z1 z2 zf0 zf1 zf2
        obtain ⟨q0, q1, q2, -⟩ := Blk.three_ HZ7.out
        refine bodyPost_ret (v := .tuple #[.agg #[.int .u8 (n : Int), .int .i64 v, .slice A i c], .bool false]) (by simp [results, Tryz.results75, go_sem, q0, q1, q2]) rfl ⟨⟨n, v, ws⟩, false, .slice A i c, rfl, HNO.out, (by rw [show (PieceD.mk n v ws).ways.length = i from Hwl.out]; exact (World.ownsRow.mono (ownsRow_only HOn9.out ((((Only.refl (fun x => x = g0) _).setCell (p := ⟨g0, 0, none⟩) (.inl rfl) _).setCell (p := ⟨g0, 1, none⟩) (.inl rfl) _).setCell (p := ⟨g0, 2, none⟩) (.inl rfl) _) (fun k hk e => by have := (HOn9.out.lt k hk).1; omega)) (by rw [Hg0.out]; omega))), HO7.out⟩
      case true =>
        obtain ⟨z0, z1, z2, zf⟩ := Blk.three_ HZ9.out
        obtain ⟨y0, y1, y2, y3, -⟩ := Blk.four_ HW9.out
        clear zf
        go_wp2_with (at_builtin; refine wpList_appendK _ rfl (.tmp 69) (.tmp 71) 75 rfl B 80 iw (.agg #[.int .i64 0, .int .i64 0, .int .i64 0, .int .i64 0]) 4 32 Tryz.underlying75 HI.out.1 HI.out.2.1 HI.out.2.2.1 HI.out.2.2.2 rfl (by decide) _ i (ints (flatW ws)) rfl (World.ownsRow.alloc HOn9.out _) [.int .i64 kd, .int .i64 x, .int .i64 y, .int .i64 tk] rfl w9.heap.size 80 rfl (Blk.new w9 _ _) ?h1 ?h2 ?h3 ?h4 ?_)
        case h1 => simp [Value.oneCell']
        case h2 => unfold maxLen; omega
        case h3 => omega
        case h4 => simp only [World.size_alloc]; have := HGW9.out; omega
        intro v' w10 hown10 hO10 hwh
        obtain ⟨g, cap, rfl, hBg, -⟩ := hown10.form (by omega)
        have hal : Only (fun _ => False) w9 (w9.alloc (.cells #[.int .i64 kd, .int .i64 x, .int .i64 y, .int .i64 tk] 80)) := (Only.refl _ w9).alloc _
        have hne0 : ∀ k, (Value.slice A i c).ownBlock = some k → k ≠ g0 := fun k hk => by have := (HOn9.out.lt k hk).1; omega
        have HZ10 := hide ((HZ9.out.only hal (fun h => h)).only hO10 (fun h => hne0 g0 h rfl))
        have HO10 := hide ((HO9.out.trans' hal (fun _ _ h => h.elim)).trans' hO10 (fun k hk h => by
          have h2 := (HOn9.out.lt k h).1
          rw [HB.out] at hk
          omega))
        have hfl : ints (flatW ws) ++ [.int .i64 kd, .int .i64 x, .int .i64 y, .int .i64 tk] = ints (flatW (ws ++ [(⟨kd, x, y, tk⟩ : WayD)])) := by simp [flatW, ints]
        have HOn10 := hide (show w10.ownsRow B 80 4 (.slice (some ⟨g, 0, none⟩) (i + 1) cap) (i + 1) (ints (flatW (ws ++ [(⟨kd, x, y, tk⟩ : WayD)]))) from by rw [← hfl]; exact hown10)
        have hWIn := Hway.out.1 rfl
        have Hnew := hide (show (∀ j (h : j < (ws ++ [(⟨kd, x, y, tk⟩ : WayD)]).length), X.getD j [] = wayL (ws ++ [(⟨kd, x, y, tk⟩ : WayD)])[j]) ∧ ∀ w ∈ ws ++ [(⟨kd, x, y, tk⟩ : WayD)], WayIn w from ⟨fun j h => by
          by_cases hj : j < ws.length
          · rw [List.getElem_append_left hj]; exact Hxw.out j hj
          · have hj2 : j = i := by rw [List.length_append, List.length_singleton, Hwl.out] at h; rw [Hwl.out] at hj; omega
            subst hj2
            rw [List.getElem_append_right (by rw [Hwl.out]; exact Nat.le_refl _)]
            simp only [Hwl.out, Nat.sub_self, List.getElem_cons_zero]
            rw [← Hsx.out]; exact hWIn.2, fun w hw => by
          rcases List.mem_append.1 hw with h | h
          · exact Hwi.out w h
          · rw [List.mem_singleton.1 h]; exact hWIn.1⟩)
        clear hown10 hO10 hwh hal hne0 hfl hWIn z0 z1 z2 y0 y1 y2 y3 HOn9 HO9 HZ9 HW9
        obtain ⟨z0, z1, z2, zf⟩ := Blk.three_ HZ10.out
        have zf2 := zf 2
        clear zf
        go_wp2_with fail
        go_roundw
        case rel => exact ⟨i + 1, ws ++ [(⟨kd, x, y, tk⟩ : WayD)], .slice (some ⟨g, 0, none⟩) (i + 1) cap, by omega, by go_num, by rw [List.length_append, Hwl.out]; rfl, Hnew.out.1, Hnew.out.2, Blk.set_ HZ10.out 2 _, ownsRow_only HOn10.out ((Only.refl (fun x => x = g0) w10).setCell (p := ⟨g0, 2, none⟩) (.inl rfl) _) (fun k hk e => by have := (HOn10.out.lt k hk).1; omega), HO10.out.setCell (p := ⟨g0, 2, none⟩) (.inl rfl) _⟩
        case measure => simp [intOf]; omega
    · obtain rfl : i = nx := by omega
      have d1 : decide ((i : Int) < (i : Int)) = false := by simp
      have hXw : X = ws.map wayL := List.ext_getElem (by rw [List.length_map, Hwl.out, ← Hnx.out]) (fun j h1 h2 => by
        have h3 : j < ws.length := by simpa using h2
        have h4 := Hxw.out j h3
        rw [List.getD, List.getElem?_eq_getElem h1] at h4
        simpa using h4)
      have HYES := hide (show PieceP s.data.toList ⟨n, v, ws⟩ true from ⟨fun _ => by
        obtain ⟨f1, f2, f3⟩ := HF.out
        exact piece_found HF3.out (by rw [f1]; exact f2) (by rw [f1]; exact f3) Hwi.out (fun h => by rw [Hany.out] at h; cases h) (fun _ => by rw [HXe.out]; exact hXw), fun _ _ _ _ _ _ => rfl⟩)
      clear hXw hxr
      obtain ⟨z0, z1, z2, zf⟩ := Blk.three_ HZr.out
      have zf0 := zf 0
      have zf1 := zf 1
      have zf2 := zf 2
      clear zf
      have hz7 : Blk _ g0 77 #[.int .u8 (n : Int), .int .i64 v, .slice A i c] := Blk.set_ (Blk.set_ (Blk.set_ HZr.out 0 (.int .u8 (n : Int))) 1 (.int .i64 v)) 2 (.slice A i c)
      have HZ7 := hide hz7
      have hge : W.heap.size ≤ g0 := by rw [Hg0.out]; exact Nat.le_refl _
      have HO7 := hide (((HOWr.out.setCell (p := ⟨g0, 0, none⟩) (.inr hge) (.int .u8 (n : Int))).setCell (p := ⟨g0, 1, none⟩) (.inr hge) (.int .i64 v)).setCell (p := ⟨g0, 2, none⟩) (.inr hge) (.slice A i c))
      clear hz7 hge
      go_upto_region 20 with (fail)
      go_wp2_with fail
      clear z0 z1 z2 zf0 zf1 zf2
      obtain ⟨q0, q1, q2, -⟩ := Blk.three_ HZ7.out
      refine bodyPost_ret (v := .tuple #[.agg #[.int .u8 (n : Int), .int .i64 v, .slice A i c], .bool true]) (by simp [results, Tryz.results75, go_sem, q0, q1, q2]) rfl ⟨⟨n, v, ws⟩, true, .slice A i c, rfl, HYES.out, (by rw [show (PieceD.mk n v ws).ways.length = i from Hwl.out]; exact (World.ownsRow.mono (ownsRow_only HOwn.out ((((Only.refl (fun x => x = g0) _).setCell (p := ⟨g0, 0, none⟩) (.inl rfl) _).setCell (p := ⟨g0, 1, none⟩) (.inl rfl) _).setCell (p := ⟨g0, 2, none⟩) (.inl rfl) _) (fun k hk e => by have := (HOwn.out.lt k hk).1; omega)) (by rw [Hg0.out]; omega))), HO7.out⟩
end Go.Proofs.YtcdfeaodfmfdnaaGreatDoor
