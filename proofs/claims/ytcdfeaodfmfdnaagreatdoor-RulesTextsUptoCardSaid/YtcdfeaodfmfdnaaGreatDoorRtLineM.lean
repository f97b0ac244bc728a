/- gameref.line at a line of a piece without ways: walked. gameref.line at a line of a piece with ways: walked. gameref.line at a line that begins with 'start ': walked. -/
import Derived.Test.YtcdfeaodfmfdnaaGreatDoorRtLine
import Derived.Test.YtcdfeaodfmfdnaaGreatDoorRtWayM
import Derived.Test.YtcdfeaodfmfdnaaGreatDoorRxLineM
import Derived.Test.YtcdfeaodfmfdnaaGreatDoorRxPiece
import Derived.Deep.RegionHeld
import Derived.Test.YtcdfeaodfmfdnaaGreatDoorBxParM
namespace Go.Proofs.YtcdfeaodfmfdnaaGreatDoor
open Go.RowKit

theorem cnt_bad {l : List UInt8} {n : Int} (h : CntP l n) (hno : ¬ ∃ m : Nat, m ≤ 9999 ∧ l = Lib.decDigits m) : n = -1 := by
  rcases h with ⟨m, _, h9, e⟩ | ⟨h, _⟩
  · exact absurd ⟨m, h9, e⟩ hno
  · exact h
/-- what line answers at a piece's line -/
def PieceDoc (b B nn : Nat) (xs : List Value) (s : ByteArray) (sv : Value) (cs : Value → Array Value) (W : World) (e : Ending) (w' : World) : Prop :=
  ∃ rank : Int, e = .returned (.int .i64 rank) ∧ Only (fun x => x = b ∨ sv.ownBlock = some x) W w' ∧ ((rank = -1 ∧ ∀ p, PieceIn p → s.data.toList = wordR 1 ++ tailP p → False) ∨
    (rank = 1 ∧ ∃ (p : PieceD) (sv' wv : Value), PieceIn p ∧ s.data.toList = wordR 1 ++ tailP p ∧ Blk w' b 27 (cs sv') ∧ w'.ownsRow B 77 3 sv' (nn + 1) (xs ++ [.int .u8 (p.letter : Int), .int .i64 p.worth, wv]) ∧
      w'.ownsRow W.heap.size 80 4 wv p.ways.length (ints (flatW p.ways)) ∧ (sv'.ownBlock = sv.ownBlock ∨ ∃ g, sv'.ownBlock = some g ∧ W.heap.size ≤ g ∧ ∀ k, wv.ownBlock = some k → k < g)))
set_option maxHeartbeats 8000000 in
set_option maxRecDepth 100000 in
theorem dl_piecen (b : Nat) (s : ByteArray) (w h t li pl : Int) (c h0 h1 : ByteArray) (sv : Value) (dr st : Bool) (lo re : Nat) (W : World) (hs : s.size < 4294967281) (he : Env W) (hB : Blk W b 27 #[.int .i64 w, .int .i64 h, .string c, .int .i64 t, .string h0, .string h1, sv, .bool dr, .int .u8 (lo : Int), .int .i64 li, .int .u8 (re : Int), .bool st, .int .i64 pl])  (B nn : Nat) (xs : List Value) (hbB : b < B) (hBW : B ≤ W.heap.size) (hn : nn ≤ 10000000000) (hown : W.ownsRow B 77 3 sv nn xs) (q0 : Lib.hasPrefix s.data.toList [115, 116, 97, 114, 116, 32] = false) (qn : 3 ≤ (splitL 32 s.data.toList).length) (qw : (splitL 32 s.data.toList).getD 0 [] = wordR 1) (ch : UInt8) (q1 : (splitL 32 s.data.toList).getD 1 [] = [ch]) (qu : upB ch.toNat = true) (kk : Int) (hk0 : kk < 0) (hk : Lib.index s.data.toList [58, 32] = kk) :
    Calls Tryz.prog 38 #[.pointer (some ⟨b, 0, none⟩), .string s] W fun e w' => PieceDoc b B nn xs s sv (fun v => #[.int .i64 w, .int .i64 h, .string c, .int .i64 t, .string h0, .string h1, v, .bool dr, .int .u8 (lo : Int), .int .i64 li, .int .u8 (re : Int), .bool st, .int .i64 pl]) W e w' := by
  obtain ⟨A, cc, rfl⟩ := own_lit hown
  have HOwn := hide hown
  have Hbw := hide (show b < W.heap.size from Blk.lt hB)
  have HQ := hide (And.intro qw (And.intro q1 qu))
  clear hown
  have H1 := hide (split_any 32 s W hs he.m)
  have HB0 := hide hB
  have HE0 := hide he
  have hll : s.data.toList.length = s.size := by simp
  have HBg := hide (fun n w => big_any n w)
  obtain ⟨F, hF⟩ : ∃ F, splitL 32 s.data.toList = F := ⟨_, rfl⟩
  have HF := hide hF
  have hne : 0 < F.length := by rw [← hF]; exact List.length_pos_iff.2 (splitL_ne _ _)
  have hfl : F.length ≤ s.size + 1 := by
    have := splitL_count 32 s.data.toList
    rw [hF] at this
    omega
  have hfm : ∀ i, (F.getD i []).length ≤ s.size := fun i => by
    by_cases hi : i < F.length
    · have h1 : F.getD i [] ∈ F := getD_mem hi
      have h2 : (F.getD i []).length ≤ s.data.toList.length := splitL_mem (c := 32) (by rw [hF]; exact h1)
      omega
    · simp [List.getD, List.getElem?_eq_none (show F.length ≤ i by omega)]
  obtain ⟨f0, hf0⟩ : ∃ f0, bytes (F.getD 0 []) = f0 := ⟨_, rfl⟩
  obtain ⟨f1, hf1⟩ : ∃ f1, bytes (F.getD 1 []) = f1 := ⟨_, rfl⟩
  have Hf0 := hide (show f0.data.toList = F.getD 0 [] from by rw [← hf0, bytes_list])
  have Hf1 := hide (show f1.data.toList = F.getD 1 [] from by rw [← hf1, bytes_list])
  have hz1 : f1.size ≤ s.size := by rw [← hf1, bytes_size]; exact hfm 1
  have Hc0 := hide (fun (w' : World) (h : RowsAt w' W.heap.size F) => (show w'.cell? ⟨W.heap.size, 0, none⟩ = some (.string f0) from by rw [← hf0]; exact h.cellD hne))
  have Hc1 := hide (fun (w' : World) (h : RowsAt w' W.heap.size F) (h2 : 1 < F.length) => (show w'.cell? ⟨W.heap.size, 1, none⟩ = some (.string f1) from by rw [← hf1]; exact h.cellD h2))
  rw [hF] at H1
  clear he hB hfm hf0 hf1 hF
  go_enter Tryz.func38, Tryz.ntmps38
  go_upto_region 2 with (go_at_call 33; refine H1.out.mono ?_; rintro e w1 ⟨nl, hnl, rfl, hl, ho1, hsz1⟩; have Hnl := hide hnl; have Hl1 := hide hl; have Ho1 := hide ho1; clear hnl hl ho1 hsz1)
  have HE1 := hide (HE0.out.no Ho1.out)
  have HO1 := hide (Ho1.out.mono (S' := fun x => x = b) (fun _ _ h => h.elim))
  have HB1 := hide (HB0.out.only Ho1.out (fun h => h))
  have c0 := Hc0.out w1 Hl1.out
  have hbW : b < W.heap.size := Blk.lt HB0.out
  obtain ⟨gl, hgl⟩ : ∃ gl, W.heap.size = gl := ⟨_, rfl⟩
  rw [hgl] at Hl1 Hc0 Hc1 c0 hbW ⊢
  have hnlb : nl ≤ s.size + 1 := by rw [Hnl.out]; exact hfl
  have Hgl := hide hgl
  clear HE0 HB0 H1 hgl hfl
  have HPx := hide (Tryz.strings_HasPrefix s ⟨#[115, 116, 97, 114, 116, 32]⟩ w1)
  rw [show (⟨#[115, 116, 97, 114, 116, 32]⟩ : ByteArray).data.toList = [115, 116, 97, 114, 116, 32] from rfl, q0] at HPx
  have hn : 3 ≤ nl := by rw [Hnl.out, ← HF.out]; exact qn
  have d3 : decide ((nl : Int) ≥ 3) = true := by simp; omega
  have d3n : decide (3 ≤ nl) = true := by simp; omega
  have d2 : ((nl : Int) == 2) = false := by simp; omega
  have d2n : (nl == 2) = false := by simp; omega
  have hn0 : 0 < nl := by rw [Hnl.out]; exact hne
  have i0 : (0 : Int) < (nl : Int) := by omega
  have i1 : (1 : Int) < (nl : Int) := by omega
  have h2 : 1 < F.length := by rw [← Hnl.out]; omega
  have c1 := Hc1.out w1 Hl1.out h2
  have H2 := hide h2
  clear h2
  have x_piece : (f0.toList == [112, 105, 101, 99, 101]) = true := by rw [Go.ByteArray.toList_eq, Hf0.out, ← HF.out, qw]; rfl
  have x_lose : (f0.toList == [108, 111, 115, 101]) = false := by rw [Go.ByteArray.toList_eq, Hf0.out, ← HF.out, qw]; rfl
  have x_reach : (f0.toList == [114, 101, 97, 99, 104]) = false := by rw [Go.ByteArray.toList_eq, Hf0.out, ← HF.out, qw]; rfl
  have x_line : (f0.toList == [108, 105, 110, 101]) = false := by rw [Go.ByteArray.toList_eq, Hf0.out, ← HF.out, qw]; rfl
  have x_plies : (f0.toList == [112, 108, 105, 101, 115]) = false := by rw [Go.ByteArray.toList_eq, Hf0.out, ← HF.out, qw]; rfl
  clear hn hn0 qn qw
  have hz : f1.size = 1 := by
    have h5 : f1.data.toList.length = f1.size := by simp
    rw [← h5, Hf1.out, ← HF.out, q1]; rfl
  have j0 : (0 : Int) < (f1.size : Int) := by omega
  have j0n : 0 < f1.size := by omega
  have z1 : ((f1.size : Int) == 1) = true := by rw [hz]; rfl
  have z1n : (f1.size == 1) = true := by rw [hz]; rfl
  have hch : f1[0].toNat = ch.toNat := by rw [head_at j0n, Hf1.out, ← HF.out, q1]; rfl
  clear hz q1
  have hup : upB ch.toNat = true := qu
  clear qu
  obtain ⟨mx, hmx⟩ := HE1.out.m
  have HIx := hide (Tryz.strings_Index s ⟨#[58, 32]⟩ mx w1 hs hmx)
  rw [show (⟨#[58, 32]⟩ : ByteArray).data.toList = [58, 32] from rfl, hk] at HIx
  have Hk := hide hk
  clear hk hmx
  go_upto_region 12 with (first | (go_at_call 79; refine HPx.out.mono ?_; rintro e w2 ⟨rfl, hw2⟩; rw [hw2]; clear hw2) | (go_at_call 40; refine (HBg.out _ _).mono ?_; rintro e w2 ⟨rfl, hw2⟩; rw [hw2]; clear hw2) | (go_at_call 81; refine HIx.out.mono ?_; rintro e w2 ⟨rfl, hw2⟩; rw [hw2]; clear hw2))
  have hal : Only (fun _ => False) w1 (w1.alloc (.cells #[.int .u8 (ch.toNat : Int), .int .i64 0, .slice none 0 0] 77)) := (Only.refl _ w1).alloc _
  have HE2 := hide (HE1.out.no hal)
  have HN2 := hide (Ho1.out.trans hal)
  have HB2 := hide (HB1.out.only hal (fun h => h))
  have HZ2 := hide (Blk.new w1 77 #[.int .u8 (ch.toNat : Int), .int .i64 0, .slice none 0 0])
  have Hge := hide (show W.heap.size ≤ w1.heap.size from Ho1.out.size)
  have HOn2 := hide (ownsRow_only HOwn.out HN2.out (fun _ _ h => h))
  obtain ⟨g0, hg0⟩ : ∃ g0, w1.heap.size = g0 := ⟨_, rfl⟩
  have hg0l : g0 < (w1.alloc (.cells #[.int .u8 (ch.toNat : Int), .int .i64 0, .slice none 0 0] 77)).heap.size := by rw [World.size_alloc]; omega
  obtain ⟨w2, hw2⟩ : ∃ w2, w1.alloc (.cells #[.int .u8 (ch.toNat : Int), .int .i64 0, .slice none 0 0] 77) = w2 := ⟨_, rfl⟩
  rw [hw2] at HE2 HN2 HB2 HZ2 HOn2 hg0l ⊢
  rw [hg0] at HZ2 Hge ⊢
  clear hal hw2 hg0 HE1 HB1 HO1 Ho1 HIx HPx hch j0 j0n z1 z1n hup c0 c1 Hl1 Hc0 Hc1 H2 hne
  have dk : decide (kk ≥ 0) = false := by simpa using hk0
  have hct : (Lib.cut s.data.toList [58, 32]) = (s.data.toList, [], false) := by unfold Lib.cut; rw [Hk.out, if_neg (by omega)]
  obtain ⟨hd, hhe⟩ : ∃ hd, s = hd := ⟨_, rfl⟩
  have Hhd := hide (show hd.data.toList = (Lib.cut s.data.toList [58, 32]).1 from by rw [hct, ← hhe])
  have hhd : hd.size < 4294967281 := by rw [← hhe]; exact hs
  obtain ⟨ws, hws⟩ : ∃ ws : List WayD, ws = [] := ⟨_, rfl⟩
  obtain ⟨Aw, hAw⟩ : ∃ Aw : Option Addr, Aw = none := ⟨_, rfl⟩
  obtain ⟨iw, hiw⟩ : ∃ iw : Nat, iw = 0 := ⟨_, rfl⟩
  obtain ⟨cw, hcw⟩ : ∃ cw : Nat, cw = 0 := ⟨_, rfl⟩
  have Hwl := hide (show ws.length = iw from by rw [hws, hiw]; rfl)
  have HWi := hide (show ∀ w ∈ ws, WayIn w from fun w hw => by rw [hws] at hw; cases hw)
  have HC0 := hide (show (Lib.cut s.data.toList [58, 32]).2.2 = false → ws = [] from fun _ => hws)
  have HC1 := hide (show (Lib.cut s.data.toList [58, 32]).2.2 = true → Lib.split (Lib.cut s.data.toList [58, 32]).2.1 [44, 32] = ws.map wayL from fun h => by rw [hct] at h; cases h)
  have HZ := hide (show Blk w2 g0 77 #[.int .u8 (ch.toNat : Int), .int .i64 0, .slice Aw iw cw] from by rw [hAw, hiw, hcw]; exact HZ2.out)
  have HWn := hide (show w2.ownsRow W.heap.size 80 4 (.slice Aw iw cw) iw (ints (flatW ws)) from by rw [hAw, hiw, hcw, hws]; exact World.ownsRow_nil _ _ _ _)
  have Hwg := hide (show ∀ k, (Value.slice Aw iw cw).ownBlock = some k → k ≠ g0 from fun k hk e => by rw [hAw] at hk; cases hk)
  obtain ⟨wr, hwr⟩ : ∃ wr, w2 = wr := ⟨_, rfl⟩
  rw [hwr] at HE2 HN2 HB2 HOn2 HZ HWn ⊢
  have HE := HE2
  have HB := HB2
  have HOn := HOn2
  have HN := HN2
  go_upto_region 22 with (fail)
  rw [hhe]
  clear hct hhe hws hAw hiw hcw hwr HE2 HB2 HOn2 HN2 HZ2 hg0l hk0 dk Hk
  have HS := hide (split_any 32 hd wr hhd HE.out.m)
  go_upto_region 23 with (go_at_call 33; refine HS.out.mono ?_; rintro e wv4 ⟨nh, hnh, rfl, hh, ho4, hsz4⟩; have Hnh := hide hnh; have Hh4 := hide hh; have Ho4 := hide ho4; clear hnh hh ho4 hsz4)
  obtain ⟨Fh, hFh⟩ : ∃ Fh, splitL 32 hd.data.toList = Fh := ⟨_, rfl⟩
  have HFh := hide (show splitL 32 (Lib.cut s.data.toList [58, 32]).1 = Fh from by rw [← hFh, Hhd.out])
  have hfl : ∀ a ∈ splitL 32 hd.data.toList, a.length ≤ hd.size := fun a ha => by have := splitL_mem ha; simpa using this
  rw [hFh] at Hnh Hh4 hfl
  have Hfl := hide hfl
  have HE4 := hide (HE.out.no Ho4.out)
  have HB4 := hide (HB.out.only Ho4.out (fun h => h))
  have HZ4 := hide (HZ.out.only Ho4.out (fun h => h))
  have HOn4 := hide (ownsRow_only HOn.out Ho4.out (fun _ _ h => h))
  have HWn4 := hide (ownsRow_only HWn.out Ho4.out (fun _ _ h => h))
  have HN4 := hide (HN.out.trans Ho4.out)
  obtain ⟨gh, hgh⟩ : ∃ gh, wr.heap.size = gh := ⟨_, rfl⟩
  rw [hgh] at Hh4 ⊢
  clear hFh hfl hgh HS HE HB HZ HOn HWn HN Ho4
  by_cases h3 : nh = 3
  case neg =>
    have d3 : ((nh : Int) != 3) = true := by rw [bne_iff_ne]; omega
    have d3n : (nh != 3) = true := by rw [bne_iff_ne]; omega
    have Hn3 := hide h3
    clear h3
    go_wp2_with fail
    go_ret
    exact ⟨-1, rfl, HN4.out.mono (fun _ _ h => h.elim), .inl ⟨rfl, fun p' hp hl => by
      have hq := piece_parts hp (show (32 : UInt8) ∉ wordR 1 by decide) (show (58 : UInt8) ∉ wordR 1 by decide) hl
      have h5 := hq.1
      rw [HFh.out] at h5
      rw [h5] at Hnh
      exact absurd Hnh.out Hn3.out⟩⟩
  have d3 : ((nh : Int) != 3) = false := by rw [h3]; rfl
  have d3n : (nh != 3) = false := by rw [h3]; rfl
  have n2 : (2 : Int) < (nh : Int) := by omega
  have H3 := hide (show Fh.length = 3 from by rw [← Hnh.out]; exact h3)
  obtain ⟨s2, hs2⟩ : ∃ s2, bytes (Fh.getD 2 []) = s2 := ⟨_, rfl⟩
  have Hs2 := hide (show s2.data.toList = Fh.getD 2 [] from by rw [← hs2, bytes_list])
  have Hc2 := hide (fun (w' : World) (h : RowsAt w' gh Fh) => (show w'.cell? ⟨gh, 2, none⟩ = some (.string s2) from by rw [h.cellD (i := 2) (by rw [H3.out]; omega), hs2]))
  have c2 := Hc2.out _ Hh4.out
  clear h3 hs2
  by_cases hdg : ∃ m : Nat, m ≤ 9999 ∧ s2.data.toList = Lib.decDigits m
  case neg =>
    have Hdg := hide hdg
    clear hdg
    have mlt : decide ((-1 : Int) < 0) = true := by decide
    go_upto_region 24 with (go_at_call 83; refine (count_any s2 wv4 HE4.out).mono ?_; rintro e wv5 ⟨⟨n, rfl, hn⟩, ho5⟩; obtain rfl : n = -1 := cnt_bad hn Hdg.out; have HN5 := hide (HN4.out.trans ho5); clear hn ho5)
    go_wp2_with fail
    go_ret
    exact ⟨-1, rfl, HN5.out.mono (fun _ _ h => h.elim), .inl ⟨rfl, fun p' hp hl => by
      have hq := piece_parts hp (show (32 : UInt8) ∉ wordR 1 by decide) (show (58 : UInt8) ∉ wordR 1 by decide) hl
      have h5 := hq.1
      rw [HFh.out] at h5
      obtain ⟨mm, e9, m9⟩ := hp.2.1
      exact Hdg.out ⟨mm, m9, by rw [Hs2.out, h5, e9]; rfl⟩⟩⟩
  obtain ⟨m, hm9, hm⟩ := hdg
  have Hm9 := hide hm9
  have HM := hide hm
  clear hm9 hm
  have mlt : decide ((m : Int) < 0) = false := by simp
  go_upto_region 25 with (go_at_call 83; refine (count_any s2 wv4 HE4.out).mono ?_; rintro e wv5 ⟨⟨n, rfl, hn⟩, ho5⟩; obtain rfl : n = (m : Int) := cnt_one hn Hm9.out HM.out; have Ho5 := hide ho5; clear hn ho5)
  have HE5 := hide (HE4.out.no Ho5.out)
  have HB5 := hide (HB4.out.only Ho5.out (fun h => h))
  have HZ5 := hide (HZ4.out.only Ho5.out (fun h => h))
  have HOn5 := hide (ownsRow_only HOn4.out Ho5.out (fun _ _ h => h))
  have HWn5 := hide (ownsRow_only HWn4.out Ho5.out (fun _ _ h => h))
  have HN5 := hide (HN4.out.trans Ho5.out)
  have c25 := Hc2.out _ (Blk.only Hh4.out Ho5.out (fun h => h))
  clear c2 Hh4 Hc2 HE4 HB4 HZ4 HOn4 HWn4 HN4 Ho5 mlt
  go_upto_region 26 with (go_at_call 83; refine (count_any s2 wv5 HE5.out).mono ?_; rintro e wv6 ⟨⟨n, rfl, hn⟩, ho6⟩; obtain rfl : n = (m : Int) := cnt_one hn Hm9.out HM.out; have Ho6 := hide ho6; have HZ6 := hide (HZ5.out.only ho6 (fun h => h)); obtain ⟨z0, z1, z2, zf⟩ := Blk.three_ HZ6.out; have zf1 := zf 1; clear zf hn ho6)
  have hst : Only (fun x => x = g0) wv6 (wv6.setCell ⟨g0, 1, none⟩ (.int .i64 (m : Int))) := (Only.refl (fun x => x = g0) wv6).setCell (p := ⟨g0, 1, none⟩) (.inl rfl) _
  have HP7 := hide (show Blk (wv6.setCell ⟨g0, 1, none⟩ (.int .i64 (m : Int))) g0 77 #[.int .u8 (ch.toNat : Int), .int .i64 (m : Int), .slice Aw iw cw] from Blk.set_ HZ6.out 1 _)
  have HN7 := hide (show Only (fun _ => False) W (wv6.setCell ⟨g0, 1, none⟩ (.int .i64 (m : Int))) from (HN5.out.trans Ho6.out).trans' hst (fun i hi hs => by have := Hge.out; omega))
  have HB7 := hide ((HB5.out.only Ho6.out (fun h => h)).only hst (by have := Hge.out; have := Hbw.out; omega))
  have HOn7 := hide (ownsRow_only (ownsRow_only HOn5.out Ho6.out (fun _ _ h => h)) hst (fun k hk e => by have := (HOwn.out.lt k hk).2; have := Hge.out; omega))
  have HWn7 := hide (ownsRow_only (ownsRow_only HWn5.out Ho6.out (fun _ _ h => h)) hst (fun k hk e => Hwg.out k hk e))
  obtain ⟨wv7, hw7⟩ : ∃ wv7, wv6.setCell ⟨g0, 1, none⟩ (.int .i64 (m : Int)) = wv7 := ⟨_, rfl⟩
  rw [hw7] at HP7 HN7 HB7 HOn7 HWn7 ⊢
  have HPB := hide (piece_back (c := ch) (v := (m : Int)) (ws := ws) HQ.out.1 HQ.out.2.1 HQ.out.2.2 (by rw [HFh.out]; exact H3.out) ⟨m, rfl, Hm9.out, by rw [HFh.out, ← Hs2.out]; exact HM.out⟩ HWi.out HC0.out HC1.out)
  clear hw7 hst z0 z1 z2 zf1 HZ6 Ho6 c25 HE5 HB5 HZ5 HOn5 HWn5 HN5
  have hbl : b < wv7.heap.size := Blk.lt HB7.out
  have hgpl : g0 < wv7.heap.size := Blk.lt HP7.out
  have Hsz7 := hide (show B ≤ wv7.heap.size from Nat.le_trans hBW HN7.out.size)
  have hal7 : Only (fun _ => False) wv7 (wv7.alloc (.cells #[.int .u8 (ch.toNat : Int), .int .i64 (m : Int), .slice Aw iw cw] 77)).drew := ((Only.refl (fun _ => False) wv7).alloc _).drew
  have HBA := hide (show Blk (wv7.alloc (.cells #[.int .u8 (ch.toNat : Int), .int .i64 (m : Int), .slice Aw iw cw] 77)).drew b 27 #[.int .i64 w, .int .i64 h, .string c, .int .i64 t, .string h0, .string h1, .slice A nn cc, .bool dr, .int .u8 (lo : Int), .int .i64 li, .int .u8 (re : Int), .bool st, .int .i64 pl] from (HB7.out.only hal7 (fun h => h)))
  have HblkA := hide (show Blk (wv7.alloc (.cells #[.int .u8 (ch.toNat : Int), .int .i64 (m : Int), .slice Aw iw cw] 77)).drew wv7.heap.size 77 #[.int .u8 (ch.toNat : Int), .int .i64 (m : Int), .slice Aw iw cw] from Blk.new wv7 _ _)
  have HOnA := hide (show (wv7.alloc (.cells #[.int .u8 (ch.toNat : Int), .int .i64 (m : Int), .slice Aw iw cw] 77)).drew.ownsRow B 77 3 (.slice A nn cc) nn xs from ownsRow_only HOn7.out hal7 (fun _ _ h => h))
  have HWaA := hide (show (wv7.alloc (.cells #[.int .u8 (ch.toNat : Int), .int .i64 (m : Int), .slice Aw iw cw] 77)).drew.ownsRow W.heap.size 80 4 (.slice Aw iw cw) iw (ints (flatW ws)) from ownsRow_only HWn7.out hal7 (fun _ _ h => h))
  have HneA := hide (fun k (hk : (Value.slice A nn cc).ownBlock = some k) => (show k ≠ b from by have := (HOn7.out.lt k hk).1; omega))
  have HwaN := hide (fun k (hk : (Value.slice Aw iw cw).ownBlock = some k) (h : (Value.slice A nn cc).ownBlock = some k) => (show False from by have h1 := (HWn7.out.lt k hk).1; have h2 := (HOwn.out.lt k h).2; omega))
  have HOA := hide (show Only (fun x => x = b ∨ (Value.slice A nn cc).ownBlock = some x) W (wv7.alloc (.cells #[.int .u8 (ch.toNat : Int), .int .i64 (m : Int), .slice Aw iw cw] 77)).drew from (HN7.out.trans hal7).mono (fun _ _ h => h.elim))
  obtain ⟨ip, hip, hiz, his, hib⟩ := info_parts info_piece
  have HI := hide (And.intro hip (And.intro hiz (And.intro his hib)))
  obtain ⟨y0, y1, y2, y3, y4, y5, y6, y7, y8, y9, y10, y11, y12⟩ := Blk.rules HB7.out
  obtain ⟨z0, z1, z2, -⟩ := Blk.three_ HP7.out
  clear hip hiz his hib hal7 HOn7 HWn7 HN7 y0 y1 y2 y3 y4 y5 y7 y8 y9 y10 y11 y12
  refine wp_region_held_drew (S := fun _ : World => True) (by kernel_rfl) (trivial) (fun hHeld => ?_)
  refine wpAnyH_take (i := 0) (oi := ⟨some 115, _, _, _, _, _⟩) (v := ?_) rfl (by kernel_rfl) (by kernel_rfl) (by kernel_rfl) (fun _ _ _ h => h) (Or.inl ⟨by rfl, ?_⟩) (by assumption) ?_
  rotate_left 1
  · intro w hSw
    try dsimp only at hSw
    go_simp <;> with_reducible rfl
  try simp only [Act.put, List.setIfInBounds_toArray, List.set_cons_zero, List.set_cons_succ]
  refine wpAnyH_take (i := 1) (oi := ⟨some 116, _, _, _, _, _⟩) (v := ?_) rfl (by kernel_rfl) (by kernel_rfl) (by kernel_rfl) (fun _ _ _ h => h) (Or.inl ⟨by rfl, ?_⟩) (by assumption) ?_
  rotate_left 1
  · intro w hSw
    try dsimp only at hSw
    go_simp <;> with_reducible rfl
  try simp only [Act.put, List.setIfInBounds_toArray, List.set_cons_zero, List.set_cons_succ]
  refine wpAnyH_take (i := 2) (oi := ⟨some 117, _, _, _, _, _⟩) (v := ?_) rfl (by kernel_rfl) (by kernel_rfl) (by kernel_rfl) (fun _ _ _ h => h) (Or.inl ⟨by rfl, ?_⟩) (by assumption) ?_
  rotate_left 1
  · intro w hSw
    try dsimp only at hSw
    go_simp <;> with_reducible rfl
  try simp only [Act.put, List.setIfInBounds_toArray, List.set_cons_zero, List.set_cons_succ]
  refine wpAnyH_take (i := 3) (oi := ⟨some 118, _, _, _, _, _⟩) (v := ?_) rfl (by kernel_rfl) (by kernel_rfl) (by kernel_rfl) (fun _ _ _ h => h) (Or.inl ⟨by rfl, ?_⟩) (by assumption) ?_
  rotate_left 1
  · intro w hSw
    try dsimp only at hSw
    go_simp <;> with_reducible rfl
  try simp only [Act.put, List.setIfInBounds_toArray, List.set_cons_zero, List.set_cons_succ]
  refine wpAnyH_ready (rs := [4, 5]) (by kernel_rfl) (by simp) ?_
  refine AllReadyH.cons (o := ⟨some 119, _, _, _, _, _⟩) rfl (fun K hK => ?_) ?_
  · clear hHeld
    go_simp
    refine hK.out _ _ (by trivial) (fun hHeld => ?_)
    clear hK K
    try simp only [Act.put, List.setIfInBounds_toArray, List.set_cons_zero, List.set_cons_succ]
    refine wpAnyH_ready (rs := [5]) (by kernel_rfl) (by simp) ?_
    refine AllReadyH.cons (o := ⟨some 120, _, _, _, _, _⟩) rfl (fun K hK => ?_) ?_
    · clear hHeld
      go_simp
      refine hK.out _ _ (by trivial) (fun hHeld => ?_)
      clear hK K
      try simp only [Act.put, List.setIfInBounds_toArray, List.set_cons_zero, List.set_cons_succ]
      refine wpAnyH_ready (rs := [6]) (by kernel_rfl) (by simp) ?_
      refine AllReadyH.cons (o := ⟨some 121, _, _, _, _, _⟩) rfl (fun K hK => ?_) ?_
      · clear hHeld
        go_simp
        refine hK.out _ _ (by trivial) (fun hHeld => ?_)
        clear hK K
        try simp only [Act.put, List.setIfInBounds_toArray, List.set_cons_zero, List.set_cons_succ]
        refine wpAnyH_ready (rs := [7]) (by kernel_rfl) (by simp) ?_
        refine AllReadyH.cons (o := ⟨some 122, _, _, _, _, _⟩) rfl (fun K hK => ?_) ?_
        · clear hHeld
          refine step_appendK rfl (.tmp 119) (.tmp 121) 25 (by rfl) B 77 ip (.agg #[.int .u8 0, .int .i64 0, .slice none 0 0]) 3 40 Tryz.underlying25 HI.out.1 HI.out.2.1 HI.out.2.2.1 HI.out.2.2.2 rfl (by decide) (.slice A nn cc) nn xs (by rfl) HOnA.out [.int .u8 (ch.toNat : Int), .int .i64 (m : Int), .slice Aw iw cw] rfl wv7.heap.size 77 (by rfl) HblkA.out ?h1 ?h2 ?h3 ?h4 ?_
          case h1 => simp [Value.oneCell']
          case h2 => unfold maxLen; omega
          case h3 => omega
          case h4 => have := Hsz7.out; simp; omega
          intro g8 c8 w8 hown8 hO8 hg8
          have HB8 := hide (HBA.out.only hO8 (fun h => HneA.out b h rfl))
          have yy := (Blk.rules HB8.out)
          obtain ⟨k0, k1, k2, k3, k4, k5, k6, k7, k8, k9, k10, k11, k12⟩ := yy
          have kf6 := Blk.free HB8.out 6
          refine hK.out _ _ (by trivial) (fun hHeld => ?_)
          clear hK K
          try simp only [Act.put, List.setIfInBounds_toArray, List.set_cons_zero, List.set_cons_succ]
          refine wpAnyH_take (i := 8) (oi := ⟨some 123, _, _, _, _, _⟩) (v := ?_) rfl (by kernel_rfl) (by kernel_rfl) (by kernel_rfl) (fun _ _ _ h => h) (Or.inl ⟨by rfl, ?_⟩) (by assumption) ?_
          rotate_left 1
          · intro w hSw
            try dsimp only at hSw
            go_simp <;> with_reducible rfl
          try simp only [Act.put, List.setIfInBounds_toArray, List.set_cons_zero, List.set_cons_succ]
          refine wpAnyH_take (i := 9) (oi := ⟨some 124, _, _, _, _, _⟩) (v := ?_) rfl (by kernel_rfl) (by kernel_rfl) (by kernel_rfl) (fun _ _ _ h => h) (Or.inl ⟨by rfl, ?_⟩) (by assumption) ?_
          rotate_left 1
          · intro w hSw
            try dsimp only at hSw
            go_simp <;> with_reducible rfl
          try simp only [Act.put, List.setIfInBounds_toArray, List.set_cons_zero, List.set_cons_succ]
          refine wpAnyH_ready (rs := [10]) (by kernel_rfl) (by simp) ?_
          refine AllReadyH.cons (o := ⟨none, _, _, _, _, _⟩) rfl (fun K hK => ?_) ?_
          · clear hHeld
            go_simp
            refine hK.out _ _ (by trivial) (fun hHeld => ?_)
            clear hK K
            try simp only [Act.put]
            refine wpAnyH_done (by kernel_rfl) ?_ _
            have HB9 := hide (show Blk (w8.setCell ⟨b, 6, none⟩ (.slice (some ⟨g8, 0, none⟩) (nn + 1) c8)) b 27 #[.int .i64 w, .int .i64 h, .string c, .int .i64 t, .string h0, .string h1, (.slice (some ⟨g8, 0, none⟩) (nn + 1) c8), .bool dr, .int .u8 (lo : Int), .int .i64 li, .int .u8 (re : Int), .bool st, .int .i64 pl] from Blk.set_ HB8.out 6 _)
            have HO9 := hide (((HOA.out.trans' hO8 (fun k _ h => .inr h)).setCell (p := ⟨b, 6, none⟩) (.inl (.inl rfl)) (.slice (some ⟨g8, 0, none⟩) (nn + 1) c8)))
            have HN9 := hide (ownsRow_only hown8 ((Only.refl (fun x => x = b) w8).setCell (p := ⟨b, 6, none⟩) (.inl rfl) (.slice (some ⟨g8, 0, none⟩) (nn + 1) c8)) (fun k hk e => by have := (hown8.lt k hk).1; omega))
            have HW9 := hide (ownsRow_only (ownsRow_only HWaA.out hO8 (fun k hk h => HwaN.out k hk h)) ((Only.refl (fun x => x = b) w8).setCell (p := ⟨b, 6, none⟩) (.inl rfl) (.slice (some ⟨g8, 0, none⟩) (nn + 1) c8)) (fun k hk e => by have := (HWaA.out.lt k hk).1; have := Hbw.out; omega))
            have HG := hide (show (Value.slice (some ⟨g8, 0, none⟩) (nn + 1) c8).ownBlock = (Value.slice A nn cc).ownBlock ∨ ∃ g, (Value.slice (some ⟨g8, 0, none⟩) (nn + 1) c8).ownBlock = some g ∧ W.heap.size ≤ g ∧ ∀ k, (Value.slice Aw iw cw).ownBlock = some k → k < g from by
              rcases hg8 with h | h
              · exact .inl h.symm
              · refine .inr ⟨g8, rfl, ?_, fun k hk => ?_⟩
                · rw [h]; exact HOA.out.size
                · rw [h]; exact (HWaA.out.lt k hk).2)
            clear hown8 hO8 hg8 k0 k1 k2 k3 k4 k5 k6 k7 k8 k9 k10 k11 k12 kf6 hHeld
            go_wp2_with fail
            go_ret
            exact ⟨1, rfl, HO9.out, .inr ⟨rfl, ⟨ch.toNat, (m : Int), ws⟩, (.slice (some ⟨g8, 0, none⟩) (nn + 1) c8), .slice Aw iw cw, HPB.out.1, HPB.out.2, HB9.out, HN9.out, (by rw [show (PieceD.mk ch.toNat (m : Int) ws).ways.length = iw from Hwl.out]; exact HW9.out), HG.out⟩⟩
          exact AllReadyH.nil
        exact AllReadyH.nil
      exact AllReadyH.nil
    exact AllReadyH.nil
  refine AllReadyH.cons (o := ⟨some 120, _, _, _, _, _⟩) rfl (fun K hK => ?_) ?_
  · clear hHeld
    go_simp
    refine hK.out _ _ (by trivial) (fun hHeld => ?_)
    clear hK K
    try simp only [Act.put, List.setIfInBounds_toArray, List.set_cons_zero, List.set_cons_succ]
    refine wpAnyH_ready (rs := [4, 6]) (by kernel_rfl) (by simp) ?_
    refine AllReadyH.cons (o := ⟨some 119, _, _, _, _, _⟩) rfl (fun K hK => ?_) ?_
    · clear hHeld
      go_simp
      refine hK.out _ _ (by trivial) (fun hHeld => ?_)
      clear hK K
      try simp only [Act.put, List.setIfInBounds_toArray, List.set_cons_zero, List.set_cons_succ]
      refine wpAnyH_ready (rs := [6]) (by kernel_rfl) (by simp) ?_
      refine AllReadyH.cons (o := ⟨some 121, _, _, _, _, _⟩) rfl (fun K hK => ?_) ?_
      · clear hHeld
        go_simp
        refine hK.out _ _ (by trivial) (fun hHeld => ?_)
        clear hK K
        try simp only [Act.put, List.setIfInBounds_toArray, List.set_cons_zero, List.set_cons_succ]
        refine wpAnyH_ready (rs := [7]) (by kernel_rfl) (by simp) ?_
        refine AllReadyH.cons (o := ⟨some 122, _, _, _, _, _⟩) rfl (fun K hK => ?_) ?_
        · clear hHeld
          refine step_appendK rfl (.tmp 119) (.tmp 121) 25 (by rfl) B 77 ip (.agg #[.int .u8 0, .int .i64 0, .slice none 0 0]) 3 40 Tryz.underlying25 HI.out.1 HI.out.2.1 HI.out.2.2.1 HI.out.2.2.2 rfl (by decide) (.slice A nn cc) nn xs (by rfl) HOnA.out [.int .u8 (ch.toNat : Int), .int .i64 (m : Int), .slice Aw iw cw] rfl wv7.heap.size 77 (by rfl) HblkA.out ?h1 ?h2 ?h3 ?h4 ?_
          case h1 => simp [Value.oneCell']
          case h2 => unfold maxLen; omega
          case h3 => omega
          case h4 => have := Hsz7.out; simp; omega
          intro g8 c8 w8 hown8 hO8 hg8
          have HB8 := hide (HBA.out.only hO8 (fun h => HneA.out b h rfl))
          have yy := (Blk.rules HB8.out)
          obtain ⟨k0, k1, k2, k3, k4, k5, k6, k7, k8, k9, k10, k11, k12⟩ := yy
          have kf6 := Blk.free HB8.out 6
          refine hK.out _ _ (by trivial) (fun hHeld => ?_)
          clear hK K
          try simp only [Act.put, List.setIfInBounds_toArray, List.set_cons_zero, List.set_cons_succ]
          refine wpAnyH_take (i := 8) (oi := ⟨some 123, _, _, _, _, _⟩) (v := ?_) rfl (by kernel_rfl) (by kernel_rfl) (by kernel_rfl) (fun _ _ _ h => h) (Or.inl ⟨by rfl, ?_⟩) (by assumption) ?_
          rotate_left 1
          · intro w hSw
            try dsimp only at hSw
            go_simp <;> with_reducible rfl
          try simp only [Act.put, List.setIfInBounds_toArray, List.set_cons_zero, List.set_cons_succ]
          refine wpAnyH_take (i := 9) (oi := ⟨some 124, _, _, _, _, _⟩) (v := ?_) rfl (by kernel_rfl) (by kernel_rfl) (by kernel_rfl) (fun _ _ _ h => h) (Or.inl ⟨by rfl, ?_⟩) (by assumption) ?_
          rotate_left 1
          · intro w hSw
            try dsimp only at hSw
            go_simp <;> with_reducible rfl
          try simp only [Act.put, List.setIfInBounds_toArray, List.set_cons_zero, List.set_cons_succ]
          refine wpAnyH_ready (rs := [10]) (by kernel_rfl) (by simp) ?_
          refine AllReadyH.cons (o := ⟨none, _, _, _, _, _⟩) rfl (fun K hK => ?_) ?_
          · clear hHeld
            go_simp
            refine hK.out _ _ (by trivial) (fun hHeld => ?_)
            clear hK K
            try simp only [Act.put]
            refine wpAnyH_done (by kernel_rfl) ?_ _
            have HB9 := hide (show Blk (w8.setCell ⟨b, 6, none⟩ (.slice (some ⟨g8, 0, none⟩) (nn + 1) c8)) b 27 #[.int .i64 w, .int .i64 h, .string c, .int .i64 t, .string h0, .string h1, (.slice (some ⟨g8, 0, none⟩) (nn + 1) c8), .bool dr, .int .u8 (lo : Int), .int .i64 li, .int .u8 (re : Int), .bool st, .int .i64 pl] from Blk.set_ HB8.out 6 _)
            have HO9 := hide (((HOA.out.trans' hO8 (fun k _ h => .inr h)).setCell (p := ⟨b, 6, none⟩) (.inl (.inl rfl)) (.slice (some ⟨g8, 0, none⟩) (nn + 1) c8)))
            have HN9 := hide (ownsRow_only hown8 ((Only.refl (fun x => x = b) w8).setCell (p := ⟨b, 6, none⟩) (.inl rfl) (.slice (some ⟨g8, 0, none⟩) (nn + 1) c8)) (fun k hk e => by have := (hown8.lt k hk).1; omega))
            have HW9 := hide (ownsRow_only (ownsRow_only HWaA.out hO8 (fun k hk h => HwaN.out k hk h)) ((Only.refl (fun x => x = b) w8).setCell (p := ⟨b, 6, none⟩) (.inl rfl) (.slice (some ⟨g8, 0, none⟩) (nn + 1) c8)) (fun k hk e => by have := (HWaA.out.lt k hk).1; have := Hbw.out; omega))
            have HG := hide (show (Value.slice (some ⟨g8, 0, none⟩) (nn + 1) c8).ownBlock = (Value.slice A nn cc).ownBlock ∨ ∃ g, (Value.slice (some ⟨g8, 0, none⟩) (nn + 1) c8).ownBlock = some g ∧ W.heap.size ≤ g ∧ ∀ k, (Value.slice Aw iw cw).ownBlock = some k → k < g from by
              rcases hg8 with h | h
              · exact .inl h.symm
              · refine .inr ⟨g8, rfl, ?_, fun k hk => ?_⟩
                · rw [h]; exact HOA.out.size
                · rw [h]; exact (HWaA.out.lt k hk).2)
            clear hown8 hO8 hg8 k0 k1 k2 k3 k4 k5 k6 k7 k8 k9 k10 k11 k12 kf6 hHeld
            go_wp2_with fail
            go_ret
            exact ⟨1, rfl, HO9.out, .inr ⟨rfl, ⟨ch.toNat, (m : Int), ws⟩, (.slice (some ⟨g8, 0, none⟩) (nn + 1) c8), .slice Aw iw cw, HPB.out.1, HPB.out.2, HB9.out, HN9.out, (by rw [show (PieceD.mk ch.toNat (m : Int) ws).ways.length = iw from Hwl.out]; exact HW9.out), HG.out⟩⟩
          exact AllReadyH.nil
        exact AllReadyH.nil
      exact AllReadyH.nil
    refine AllReadyH.cons (o := ⟨some 121, _, _, _, _, _⟩) rfl (fun K hK => ?_) ?_
    · clear hHeld
      go_simp
      refine hK.out _ _ (by trivial) (fun hHeld => ?_)
      clear hK K
      try simp only [Act.put, List.setIfInBounds_toArray, List.set_cons_zero, List.set_cons_succ]
      refine wpAnyH_ready (rs := [4]) (by kernel_rfl) (by simp) ?_
      refine AllReadyH.cons (o := ⟨some 119, _, _, _, _, _⟩) rfl (fun K hK => ?_) ?_
      · clear hHeld
        go_simp
        refine hK.out _ _ (by trivial) (fun hHeld => ?_)
        clear hK K
        try simp only [Act.put, List.setIfInBounds_toArray, List.set_cons_zero, List.set_cons_succ]
        refine wpAnyH_ready (rs := [7]) (by kernel_rfl) (by simp) ?_
        refine AllReadyH.cons (o := ⟨some 122, _, _, _, _, _⟩) rfl (fun K hK => ?_) ?_
        · clear hHeld
          refine step_appendK rfl (.tmp 119) (.tmp 121) 25 (by rfl) B 77 ip (.agg #[.int .u8 0, .int .i64 0, .slice none 0 0]) 3 40 Tryz.underlying25 HI.out.1 HI.out.2.1 HI.out.2.2.1 HI.out.2.2.2 rfl (by decide) (.slice A nn cc) nn xs (by rfl) HOnA.out [.int .u8 (ch.toNat : Int), .int .i64 (m : Int), .slice Aw iw cw] rfl wv7.heap.size 77 (by rfl) HblkA.out ?h1 ?h2 ?h3 ?h4 ?_
          case h1 => simp [Value.oneCell']
          case h2 => unfold maxLen; omega
          case h3 => omega
          case h4 => have := Hsz7.out; simp; omega
          intro g8 c8 w8 hown8 hO8 hg8
          have HB8 := hide (HBA.out.only hO8 (fun h => HneA.out b h rfl))
          have yy := (Blk.rules HB8.out)
          obtain ⟨k0, k1, k2, k3, k4, k5, k6, k7, k8, k9, k10, k11, k12⟩ := yy
          have kf6 := Blk.free HB8.out 6
          refine hK.out _ _ (by trivial) (fun hHeld => ?_)
          clear hK K
          try simp only [Act.put, List.setIfInBounds_toArray, List.set_cons_zero, List.set_cons_succ]
          refine wpAnyH_take (i := 8) (oi := ⟨some 123, _, _, _, _, _⟩) (v := ?_) rfl (by kernel_rfl) (by kernel_rfl) (by kernel_rfl) (fun _ _ _ h => h) (Or.inl ⟨by rfl, ?_⟩) (by assumption) ?_
          rotate_left 1
          · intro w hSw
            try dsimp only at hSw
            go_simp <;> with_reducible rfl
          try simp only [Act.put, List.setIfInBounds_toArray, List.set_cons_zero, List.set_cons_succ]
          refine wpAnyH_take (i := 9) (oi := ⟨some 124, _, _, _, _, _⟩) (v := ?_) rfl (by kernel_rfl) (by kernel_rfl) (by kernel_rfl) (fun _ _ _ h => h) (Or.inl ⟨by rfl, ?_⟩) (by assumption) ?_
          rotate_left 1
          · intro w hSw
            try dsimp only at hSw
            go_simp <;> with_reducible rfl
          try simp only [Act.put, List.setIfInBounds_toArray, List.set_cons_zero, List.set_cons_succ]
          refine wpAnyH_ready (rs := [10]) (by kernel_rfl) (by simp) ?_
          refine AllReadyH.cons (o := ⟨none, _, _, _, _, _⟩) rfl (fun K hK => ?_) ?_
          · clear hHeld
            go_simp
            refine hK.out _ _ (by trivial) (fun hHeld => ?_)
            clear hK K
            try simp only [Act.put]
            refine wpAnyH_done (by kernel_rfl) ?_ _
            have HB9 := hide (show Blk (w8.setCell ⟨b, 6, none⟩ (.slice (some ⟨g8, 0, none⟩) (nn + 1) c8)) b 27 #[.int .i64 w, .int .i64 h, .string c, .int .i64 t, .string h0, .string h1, (.slice (some ⟨g8, 0, none⟩) (nn + 1) c8), .bool dr, .int .u8 (lo : Int), .int .i64 li, .int .u8 (re : Int), .bool st, .int .i64 pl] from Blk.set_ HB8.out 6 _)
            have HO9 := hide (((HOA.out.trans' hO8 (fun k _ h => .inr h)).setCell (p := ⟨b, 6, none⟩) (.inl (.inl rfl)) (.slice (some ⟨g8, 0, none⟩) (nn + 1) c8)))
            have HN9 := hide (ownsRow_only hown8 ((Only.refl (fun x => x = b) w8).setCell (p := ⟨b, 6, none⟩) (.inl rfl) (.slice (some ⟨g8, 0, none⟩) (nn + 1) c8)) (fun k hk e => by have := (hown8.lt k hk).1; omega))
            have HW9 := hide (ownsRow_only (ownsRow_only HWaA.out hO8 (fun k hk h => HwaN.out k hk h)) ((Only.refl (fun x => x = b) w8).setCell (p := ⟨b, 6, none⟩) (.inl rfl) (.slice (some ⟨g8, 0, none⟩) (nn + 1) c8)) (fun k hk e => by have := (HWaA.out.lt k hk).1; have := Hbw.out; omega))
            have HG := hide (show (Value.slice (some ⟨g8, 0, none⟩) (nn + 1) c8).ownBlock = (Value.slice A nn cc).ownBlock ∨ ∃ g, (Value.slice (some ⟨g8, 0, none⟩) (nn + 1) c8).ownBlock = some g ∧ W.heap.size ≤ g ∧ ∀ k, (Value.slice Aw iw cw).ownBlock = some k → k < g from by
              rcases hg8 with h | h
              · exact .inl h.symm
              · refine .inr ⟨g8, rfl, ?_, fun k hk => ?_⟩
                · rw [h]; exact HOA.out.size
                · rw [h]; exact (HWaA.out.lt k hk).2)
            clear hown8 hO8 hg8 k0 k1 k2 k3 k4 k5 k6 k7 k8 k9 k10 k11 k12 kf6 hHeld
            go_wp2_with fail
            go_ret
            exact ⟨1, rfl, HO9.out, .inr ⟨rfl, ⟨ch.toNat, (m : Int), ws⟩, (.slice (some ⟨g8, 0, none⟩) (nn + 1) c8), .slice Aw iw cw, HPB.out.1, HPB.out.2, HB9.out, HN9.out, (by rw [show (PieceD.mk ch.toNat (m : Int) ws).ways.length = iw from Hwl.out]; exact HW9.out), HG.out⟩⟩
          exact AllReadyH.nil
        exact AllReadyH.nil
      exact AllReadyH.nil
    exact AllReadyH.nil
  exact AllReadyH.nil
end Go.Proofs.YtcdfeaodfmfdnaaGreatDoor
namespace Go.Proofs.YtcdfeaodfmfdnaaGreatDoor
open Go.RowKit

set_option maxHeartbeats 8000000 in
set_option maxRecDepth 100000 in
theorem dl_piecey (b : Nat) (s : ByteArray) (w h t li pl : Int) (c h0 h1 : ByteArray) (sv : Value) (dr st : Bool) (lo re : Nat) (W : World) (hs : s.size < 4294967281) (he : Env W) (hB : Blk W b 27 #[.int .i64 w, .int .i64 h, .string c, .int .i64 t, .string h0, .string h1, sv, .bool dr, .int .u8 (lo : Int), .int .i64 li, .int .u8 (re : Int), .bool st, .int .i64 pl])  (B nn : Nat) (xs : List Value) (hbB : b < B) (hBW : B ≤ W.heap.size) (hn : nn ≤ 10000000000) (hown : W.ownsRow B 77 3 sv nn xs) (q0 : Lib.hasPrefix s.data.toList [115, 116, 97, 114, 116, 32] = false) (qn : 3 ≤ (splitL 32 s.data.toList).length) (qw : (splitL 32 s.data.toList).getD 0 [] = wordR 1) (ch : UInt8) (q1 : (splitL 32 s.data.toList).getD 1 [] = [ch]) (qu : upB ch.toNat = true) (j : Nat) (hk : Lib.index s.data.toList [58, 32] = (j : Int)) :
    Calls Tryz.prog 38 #[.pointer (some ⟨b, 0, none⟩), .string s] W fun e w' => PieceDoc b B nn xs s sv (fun v => #[.int .i64 w, .int .i64 h, .string c, .int .i64 t, .string h0, .string h1, v, .bool dr, .int .u8 (lo : Int), .int .i64 li, .int .u8 (re : Int), .bool st, .int .i64 pl]) W e w' := by
  have Hbig := hide he.big
  obtain ⟨A, cc, rfl⟩ := own_lit hown
  have HOwn := hide hown
  have Hbw := hide (show b < W.heap.size from Blk.lt hB)
  have HQ := hide (And.intro qw (And.intro q1 qu))
  clear hown
  have H1 := hide (split_any 32 s W hs he.m)
  have HB0 := hide hB
  have HE0 := hide he
  have hll : s.data.toList.length = s.size := by simp
  have HBg := hide (fun n w => big_any n w)
  obtain ⟨F, hF⟩ : ∃ F, splitL 32 s.data.toList = F := ⟨_, rfl⟩
  have HF := hide hF
  have hne : 0 < F.length := by rw [← hF]; exact List.length_pos_iff.2 (splitL_ne _ _)
  have hfl : F.length ≤ s.size + 1 := by
    have := splitL_count 32 s.data.toList
    rw [hF] at this
    omega
  have hfm : ∀ i, (F.getD i []).length ≤ s.size := fun i => by
    by_cases hi : i < F.length
    · have h1 : F.getD i [] ∈ F := getD_mem hi
      have h2 : (F.getD i []).length ≤ s.data.toList.length := splitL_mem (c := 32) (by rw [hF]; exact h1)
      omega
    · simp [List.getD, List.getElem?_eq_none (show F.length ≤ i by omega)]
  obtain ⟨f0, hf0⟩ : ∃ f0, bytes (F.getD 0 []) = f0 := ⟨_, rfl⟩
  obtain ⟨f1, hf1⟩ : ∃ f1, bytes (F.getD 1 []) = f1 := ⟨_, rfl⟩
  have Hf0 := hide (show f0.data.toList = F.getD 0 [] from by rw [← hf0, bytes_list])
  have Hf1 := hide (show f1.data.toList = F.getD 1 [] from by rw [← hf1, bytes_list])
  have hz1 : f1.size ≤ s.size := by rw [← hf1, bytes_size]; exact hfm 1
  have Hc0 := hide (fun (w' : World) (h : RowsAt w' W.heap.size F) => (show w'.cell? ⟨W.heap.size, 0, none⟩ = some (.string f0) from by rw [← hf0]; exact h.cellD hne))
  have Hc1 := hide (fun (w' : World) (h : RowsAt w' W.heap.size F) (h2 : 1 < F.length) => (show w'.cell? ⟨W.heap.size, 1, none⟩ = some (.string f1) from by rw [← hf1]; exact h.cellD h2))
  rw [hF] at H1
  clear he hB hfm hf0 hf1 hF
  go_enter Tryz.func38, Tryz.ntmps38
  go_upto_region 2 with (go_at_call 33; refine H1.out.mono ?_; rintro e w1 ⟨nl, hnl, rfl, hl, ho1, hsz1⟩; have Hnl := hide hnl; have Hl1 := hide hl; have Ho1 := hide ho1; clear hnl hl ho1 hsz1)
  have HE1 := hide (HE0.out.no Ho1.out)
  have HO1 := hide (Ho1.out.mono (S' := fun x => x = b) (fun _ _ h => h.elim))
  have HB1 := hide (HB0.out.only Ho1.out (fun h => h))
  have c0 := Hc0.out w1 Hl1.out
  have hbW : b < W.heap.size := Blk.lt HB0.out
  obtain ⟨gl, hgl⟩ : ∃ gl, W.heap.size = gl := ⟨_, rfl⟩
  rw [hgl] at Hl1 Hc0 Hc1 c0 hbW ⊢
  have hnlb : nl ≤ s.size + 1 := by rw [Hnl.out]; exact hfl
  have Hgl := hide hgl
  clear HE0 HB0 H1 hgl hfl
  have HPx := hide (Tryz.strings_HasPrefix s ⟨#[115, 116, 97, 114, 116, 32]⟩ w1)
  rw [show (⟨#[115, 116, 97, 114, 116, 32]⟩ : ByteArray).data.toList = [115, 116, 97, 114, 116, 32] from rfl, q0] at HPx
  have hn : 3 ≤ nl := by rw [Hnl.out, ← HF.out]; exact qn
  have d3 : decide ((nl : Int) ≥ 3) = true := by simp; omega
  have d3n : decide (3 ≤ nl) = true := by simp; omega
  have d2 : ((nl : Int) == 2) = false := by simp; omega
  have d2n : (nl == 2) = false := by simp; omega
  have hn0 : 0 < nl := by rw [Hnl.out]; exact hne
  have i0 : (0 : Int) < (nl : Int) := by omega
  have i1 : (1 : Int) < (nl : Int) := by omega
  have h2 : 1 < F.length := by rw [← Hnl.out]; omega
  have c1 := Hc1.out w1 Hl1.out h2
  have H2 := hide h2
  clear h2
  have x_piece : (f0.toList == [112, 105, 101, 99, 101]) = true := by rw [Go.ByteArray.toList_eq, Hf0.out, ← HF.out, qw]; rfl
  have x_lose : (f0.toList == [108, 111, 115, 101]) = false := by rw [Go.ByteArray.toList_eq, Hf0.out, ← HF.out, qw]; rfl
  have x_reach : (f0.toList == [114, 101, 97, 99, 104]) = false := by rw [Go.ByteArray.toList_eq, Hf0.out, ← HF.out, qw]; rfl
  have x_line : (f0.toList == [108, 105, 110, 101]) = false := by rw [Go.ByteArray.toList_eq, Hf0.out, ← HF.out, qw]; rfl
  have x_plies : (f0.toList == [112, 108, 105, 101, 115]) = false := by rw [Go.ByteArray.toList_eq, Hf0.out, ← HF.out, qw]; rfl
  clear hn hn0 qn qw
  have hz : f1.size = 1 := by
    have h5 : f1.data.toList.length = f1.size := by simp
    rw [← h5, Hf1.out, ← HF.out, q1]; rfl
  have j0 : (0 : Int) < (f1.size : Int) := by omega
  have j0n : 0 < f1.size := by omega
  have z1 : ((f1.size : Int) == 1) = true := by rw [hz]; rfl
  have z1n : (f1.size == 1) = true := by rw [hz]; rfl
  have hch : f1[0].toNat = ch.toNat := by rw [head_at j0n, Hf1.out, ← HF.out, q1]; rfl
  clear hz q1
  have hup : upB ch.toNat = true := qu
  clear qu
  obtain ⟨mx, hmx⟩ := HE1.out.m
  have HIx := hide (Tryz.strings_Index s ⟨#[58, 32]⟩ mx w1 hs hmx)
  rw [show (⟨#[58, 32]⟩ : ByteArray).data.toList = [58, 32] from rfl, hk] at HIx
  have Hk := hide hk
  clear hk hmx
  go_upto_region 12 with (first | (go_at_call 79; refine HPx.out.mono ?_; rintro e w2 ⟨rfl, hw2⟩; rw [hw2]; clear hw2) | (go_at_call 40; refine (HBg.out _ _).mono ?_; rintro e w2 ⟨rfl, hw2⟩; rw [hw2]; clear hw2) | (go_at_call 81; refine HIx.out.mono ?_; rintro e w2 ⟨rfl, hw2⟩; rw [hw2]; clear hw2))
  have hal : Only (fun _ => False) w1 (w1.alloc (.cells #[.int .u8 (ch.toNat : Int), .int .i64 0, .slice none 0 0] 77)) := (Only.refl _ w1).alloc _
  have HE2 := hide (HE1.out.no hal)
  have HN2 := hide (Ho1.out.trans hal)
  have HB2 := hide (HB1.out.only hal (fun h => h))
  have HZ2 := hide (Blk.new w1 77 #[.int .u8 (ch.toNat : Int), .int .i64 0, .slice none 0 0])
  have Hge := hide (show W.heap.size ≤ w1.heap.size from Ho1.out.size)
  have HOn2 := hide (ownsRow_only HOwn.out HN2.out (fun _ _ h => h))
  obtain ⟨g0, hg0⟩ : ∃ g0, w1.heap.size = g0 := ⟨_, rfl⟩
  have hg0l : g0 < (w1.alloc (.cells #[.int .u8 (ch.toNat : Int), .int .i64 0, .slice none 0 0] 77)).heap.size := by rw [World.size_alloc]; omega
  obtain ⟨w2, hw2⟩ : ∃ w2, w1.alloc (.cells #[.int .u8 (ch.toNat : Int), .int .i64 0, .slice none 0 0] 77) = w2 := ⟨_, rfl⟩
  rw [hw2] at HE2 HN2 HB2 HZ2 HOn2 hg0l ⊢
  rw [hg0] at HZ2 Hge ⊢
  clear hal hw2 hg0 HE1 HB1 HO1 Ho1 HIx HPx hch j0 j0n z1 z1n hup c0 c1 Hl1 Hc0 Hc1 H2 hne
  have dk : decide ((j : Int) ≥ 0) = true := by simp
  have hat := at_index Hk.out
  have hsl : s.data.toList.length = s.size := by simp
  have hjl : j + 2 ≤ s.size := by
    have h5 := congrArg List.length hat
    simp only [List.length_append, List.length_take, List.length_drop, List.length_cons, List.length_nil] at h5
    omega
  have hct : (Lib.cut s.data.toList [58, 32]) = (s.data.toList.take j, s.data.toList.drop (j + 2), true) := by
    unfold Lib.cut
    rw [Hk.out, if_pos (by omega)]
    rfl
  have Hct := hide hct
  have j0 : (0 : Int) ≤ (j : Int) := by omega
  have j1 : (j : Int) ≤ (s.size : Int) := by omega
  have j2 : (j : Int) + 2 ≤ (s.size : Int) := by omega
  have Hsw := hide (show (s.extract (j + 2) s.size).data.toList = (Lib.cut s.data.toList [58, 32]).2.1 from by
    rw [hct, Go.Lib.extract_data]
    exact List.take_of_length_le (by rw [List.length_drop]; simp))
  have hswl : (s.extract (j + 2) s.size).size ≤ s.size := by
    have h5 : (s.extract (j + 2) s.size).data.toList.length = (s.extract (j + 2) s.size).size := by simp
    rw [← h5, Hsw.out, hct, List.length_drop]; omega
  have HX := hide (splitW_any (s.extract (j + 2) s.size) ⟨#[44, 32]⟩ (by decide) w2 (by omega) HE2.out.m)
  rw [show (⟨#[44, 32]⟩ : ByteArray).data.toList = [44, 32] from rfl, Hsw.out] at HX
  clear hat hct
  go_upto_region 15 with (go_at_call 33; refine HX.out.mono ?_; rintro e w3 ⟨nx, hnx, rfl, hx3, ho3, hsz3⟩; have Hnx := hide hnx; have Hx3 := hide hx3; have Ho3 := hide ho3; have Hsz3 := hide hsz3; clear hnx hx3 ho3 hsz3)
  obtain ⟨hd, hhe⟩ : ∃ hd, s.extract 0 j = hd := ⟨_, rfl⟩
  have Hhd := hide (show hd.data.toList = (Lib.cut s.data.toList [58, 32]).1 from by rw [Hct.out, ← hhe, Go.Lib.extract_data]; simp)
  have hhd : hd.size < 4294967281 := by
    have h5 : hd.data.toList.length = hd.size := by simp
    rw [← h5, Hhd.out, Hct.out, List.length_take]; omega
  obtain ⟨sq, hsq⟩ : ∃ sq, s.extract (j + 2) s.size = sq := ⟨_, rfl⟩
  rw [hsq] at hswl Hsw
  first | rw [hhe, hsq] | rw [hhe]
  have hxl : ∀ a ∈ Lib.split (Lib.cut s.data.toList [58, 32]).2.1 [44, 32], a.length ≤ sq.size := fun a ha => by
    have := split_mem' ha
    rw [← Hsw.out] at this
    simpa using this
  have hxc : (Lib.split (Lib.cut s.data.toList [58, 32]).2.1 [44, 32]).length ≤ sq.size + 1 := by
    have := split_count (sep := [44, 32]) (l := (Lib.cut s.data.toList [58, 32]).2.1) (by simp)
    rw [← Hsw.out] at this ⊢
    simpa using this
  obtain ⟨X, hX⟩ : ∃ X, Lib.split (Lib.cut s.data.toList [58, 32]).2.1 [44, 32] = X := ⟨_, rfl⟩
  rw [hX] at hxl hxc Hnx Hx3
  have HXe := hide hX
  have HE3 := hide (HE2.out.no Ho3.out)
  have HZ3 := hide (HZ2.out.only Ho3.out (fun h => h))
  have HB3 := hide (HB2.out.only Ho3.out (fun h => h))
  have HOn3 := hide (ownsRow_only HOn2.out Ho3.out (fun _ _ h => h))
  have HN3 := hide (HN2.out.trans Ho3.out)
  obtain ⟨gx, hgx⟩ : ∃ gx, w2.heap.size = gx := ⟨_, rfl⟩
  rw [hgx] at Hx3 Hsz3 hg0l ⊢
  have Hxl := hide hxl
  have hnxb : nx ≤ 4294967281 := by rw [Hnx.out]; omega
  obtain ⟨BB, hBB⟩ : ∃ BB, w3.heap.size = BB := ⟨_, rfl⟩
  have HBB := hide hBB
  have hgxB : gx < BB := by rw [← hBB, Hsz3.out]; omega
  obtain ⟨iy, hiy, hiz, his, hib⟩ := info_parts info_way
  have HI := hide (And.intro hiy (And.intro hiz (And.intro his hib)))
  clear hiy hiz his hib hhe hsq hX hxl hxc hgx hBB hsl hjl j0 j1 j2 dk Ho3 HX HE2 HZ2 HB2 HOn2 HN2 Hsw Hk
  go_wp2_with fail
  go_loopw [12] (fun iv wr => ∃ (iw : Nat) (ws : List WayD) (svw : Value), iw ≤ nx ∧ iv = .int .i64 (iw : Int) ∧ ws.length = iw ∧ (∀ j (h : j < ws.length), X.getD j [] = wayL ws[j]) ∧ (∀ w ∈ ws, WayIn w) ∧ Blk wr g0 77 #[.int .u8 (ch.toNat : Int), .int .i64 0, svw] ∧ wr.ownsRow BB 80 4 svw iw (ints (flatW ws)) ∧ Only (fun x => x = g0) w3 wr) (fun iv _ => nx - (intOf iv).toNat)
  case atStart => exact ⟨0, [], .slice none 0 0, by omega, rfl, rfl, fun j h => (by simp at h), fun w h => (by cases h), HZ3.out, World.ownsRow_nil _ _ _ _, Only.refl _ _⟩
  case round =>
    rename World => wr
    obtain ⟨iw, ws, svw, hi, rfl, hwl, hxw, hwi, hz, hown, ho⟩ := hrel
    have Hwl := hide hwl
    have Hxw := hide hxw
    have HWi := hide hwi
    have HZ := hide hz
    have HWr := hide hown
    have HOr := hide ho
    have HE := hide (HE3.out.step ho (fun i hi => by have := Hbig.out; have := Hge.out; omega))
    have HN := hide (HN3.out.trans' ho (fun i hi hs => by have := Hge.out; omega))
    have hxr : RowsAt wr gx X := Blk.only Hx3.out ho (by omega)
    have hBr : BB ≤ wr.heap.size := by rw [← HBB.out]; exact ho.size
    obtain ⟨Aw, cw, rfl⟩ : ∃ Aw cw, svw = .slice Aw iw cw := own_lit hown
    by_cases hil : iw < nx
    · have d1 : decide ((iw : Int) < (nx : Int)) = true := by simp; omega
      have d1n : decide (iw < nx) = true := by simp; omega
      have i0 : (0 : Int) ≤ (iw : Int) := by omega
      have i1 : (iw : Int) < (nx : Int) := by omega
      have hiX : iw < X.length := by rw [← Hnx.out]; exact hil
      have cx := hxr.cellD hiX
      obtain ⟨sx, hsx⟩ : ∃ sx, bytes (X.getD iw []) = sx := ⟨_, rfl⟩
      have hsxl : sx.size < 4294967281 := by
        rw [← hsx, size_bytes]
        have h1 := Hxl.out _ (getD_mem hiX)
        omega
      have Hsx := hide (show sx.data.toList = X.getD iw [] from by rw [← hsx, bytes_list])
      rw [hsx] at cx
      have HRW := hide (wayof_any sx wr hsxl HE.out)
      clear hsx hxr hwl hxw hwi hz hown ho
      go_upto_region 19 with (go_at_call 82; refine HRW.out.mono ?_; rintro e w8 ⟨⟨kd, x, y, tk⟩, okw, rfl, hway, ho8⟩; have Hway := hide hway; clear hway)
      have hon9 : Only (fun _ => False) wr (w8.alloc (.cells #[.int .i64 kd, .int .i64 x, .int .i64 y, .int .i64 tk] 80)) := ho8.trans ((Only.refl _ w8).alloc _)
      have HE9 := hide (HE.out.no hon9)
      have HZ9 := hide (HZ.out.only hon9 (fun h => h))
      have HOn9 := hide (ownsRow_only HWr.out hon9 (fun _ _ h => h))
      have HO9 := hide (HOr.out.trans' hon9 (fun _ _ h => h.elim))
      have HOW9 := hide (HN.out.trans hon9)
      have HW9 := hide (Blk.new w8 80 #[.int .i64 kd, .int .i64 x, .int .i64 y, .int .i64 tk])
      obtain ⟨gw, hgw⟩ : ∃ gw, w8.heap.size = gw := ⟨_, rfl⟩
      have hgwB : BB ≤ gw := by rw [← hgw]; exact Nat.le_trans hBr ho8.size
      have hgw9 : (w8.alloc (.cells #[.int .i64 kd, .int .i64 x, .int .i64 y, .int .i64 tk] 80)).heap.size = gw + 1 := by rw [World.size_alloc, hgw]
      obtain ⟨w9, hw9⟩ : ∃ w9, w8.alloc (.cells #[.int .i64 kd, .int .i64 x, .int .i64 y, .int .i64 tk] 80) = w9 := ⟨_, rfl⟩
      rw [hw9] at HE9 HZ9 HOn9 HO9 HOW9 HW9 hgw9 ⊢
      rw [hgw] at HW9 ⊢
      have HGW9 := hide hgw9
      clear hon9 ho8 hgw hw9 hgw9 HRW HZ HWr HOr HN HE cx
      cases okw
      case false =>
        go_wp2_with fail
        go_ret
        exact ⟨-1, rfl, HOW9.out.mono (fun _ _ h => h.elim), .inl ⟨rfl, fun p' hp hl => by
          have hq := piece_parts hp (show (32 : UInt8) ∉ wordR 1 by decide) (show (58 : UInt8) ∉ wordR 1 by decide) hl
          obtain ⟨q1, q2, q3⟩ := hq
          rw [Hct.out] at q2
          have hne : p'.ways ≠ [] := of_decide_eq_true q2.symm
          have q4 := q3 hne
          rw [HXe.out] at q4
          have hlen : iw < p'.ways.length := by have h5 := congrArg List.length q4; simp at h5; have := Hnx.out; omega
          have hget : X.getD iw [] = wayL p'.ways[iw] := by rw [q4, List.getD, List.getElem?_eq_getElem (by simpa using hlen)]; simp
          have h6 := Hway.out.2 _ (hp.2.2 _ (List.getElem_mem hlen)) (by rw [Hsx.out]; exact hget)
          cases h6⟩⟩
      case true =>
        obtain ⟨z0, z1, z2, zf⟩ := Blk.three_ HZ9.out
        obtain ⟨y0, y1, y2, y3, -⟩ := Blk.four_ HW9.out
        clear zf
        go_wp2_with (at_builtin; refine wpList_appendK _ rfl (.tmp 93) (.tmp 95) 75 rfl BB 80 iy (.agg #[.int .i64 0, .int .i64 0, .int .i64 0, .int .i64 0]) 4 32 Tryz.underlying75 HI.out.1 HI.out.2.1 HI.out.2.2.1 HI.out.2.2.2 rfl (by decide) _ iw (ints (flatW ws)) rfl (World.ownsRow.alloc HOn9.out _) [.int .i64 kd, .int .i64 x, .int .i64 y, .int .i64 tk] rfl w9.heap.size 80 rfl (Blk.new w9 _ _) ?h1 ?h2 ?h3 ?h4 ?_)
        case h1 => simp [Value.oneCell']
        case h2 => unfold maxLen; omega
        case h3 => omega
        case h4 => simp only [World.size_alloc]; have := HGW9.out; omega
        intro v' w10 hown10 hO10 hwh
        obtain ⟨g, cap, rfl, hBg, -⟩ := hown10.form (by omega)
        have hal : Only (fun _ => False) w9 (w9.alloc (.cells #[.int .i64 kd, .int .i64 x, .int .i64 y, .int .i64 tk] 80)) := (Only.refl _ w9).alloc _
        have hne0 : ∀ k, (Value.slice Aw iw cw).ownBlock = some k → k ≠ g0 := fun k hk => by have := (HOn9.out.lt k hk).1; omega
        have HZ10 := hide ((HZ9.out.only hal (fun h => h)).only hO10 (fun h => hne0 g0 h rfl))
        have HO10 := hide ((HO9.out.trans' hal (fun _ _ h => h.elim)).trans' hO10 (fun k hk h => by
          have h2 := (HOn9.out.lt k h).1
          rw [HBB.out] at hk
          omega))
        have hfl : ints (flatW ws) ++ [.int .i64 kd, .int .i64 x, .int .i64 y, .int .i64 tk] = ints (flatW (ws ++ [(⟨kd, x, y, tk⟩ : WayD)])) := by simp [flatW, ints]
        have HOn10 := hide (show w10.ownsRow BB 80 4 (.slice (some ⟨g, 0, none⟩) (iw + 1) cap) (iw + 1) (ints (flatW (ws ++ [(⟨kd, x, y, tk⟩ : WayD)]))) from by rw [← hfl]; exact hown10)
        have hWIn := Hway.out.1 rfl
        have Hnew := hide (show (∀ j (h : j < (ws ++ [(⟨kd, x, y, tk⟩ : WayD)]).length), X.getD j [] = wayL (ws ++ [(⟨kd, x, y, tk⟩ : WayD)])[j]) ∧ ∀ w ∈ ws ++ [(⟨kd, x, y, tk⟩ : WayD)], WayIn w from ⟨fun j h => by
          by_cases hj : j < ws.length
          · rw [List.getElem_append_left hj]; exact Hxw.out j hj
          · have hj2 : j = iw := by rw [List.length_append, List.length_singleton, Hwl.out] at h; rw [Hwl.out] at hj; omega
            subst hj2
            rw [List.getElem_append_right (by rw [Hwl.out]; exact Nat.le_refl _)]
            simp only [Hwl.out, Nat.sub_self, List.getElem_cons_zero]
            rw [← Hsx.out]; exact hWIn.2, fun w hw => by
          rcases List.mem_append.1 hw with h | h
          · exact HWi.out w h
          · rw [List.mem_singleton.1 h]; exact hWIn.1⟩)
        clear hown10 hO10 hwh hal hne0 hfl hWIn z0 z1 z2 y0 y1 y2 y3 HOn9 HO9 HZ9 HW9
        obtain ⟨z0, z1, z2, zf⟩ := Blk.three_ HZ10.out
        have zf2 := zf 2
        clear zf
        go_wp2_with fail
        go_roundw
        case rel => exact ⟨iw + 1, ws ++ [(⟨kd, x, y, tk⟩ : WayD)], .slice (some ⟨g, 0, none⟩) (iw + 1) cap, by omega, by go_num, by rw [List.length_append, Hwl.out]; rfl, Hnew.out.1, Hnew.out.2, Blk.set_ HZ10.out 2 _, ownsRow_only HOn10.out ((Only.refl (fun x => x = g0) w10).setCell (p := ⟨g0, 2, none⟩) (.inl rfl) _) (fun k hk e => by have := (HOn10.out.lt k hk).1; omega), HO10.out.setCell (p := ⟨g0, 2, none⟩) (.inl rfl) _⟩
        case measure => simp [intOf]; omega
    · have hin : nx = iw := by omega
      subst hin
      have d1 : decide ((nx : Int) < (nx : Int)) = false := by simp
      have hXw : X = ws.map wayL := List.ext_getElem (by rw [List.length_map, Hwl.out, ← Hnx.out]) (fun j h1 h2 => by
        have h3 : j < ws.length := by simpa using h2
        have h4 := Hxw.out j h3
        rw [List.getD, List.getElem?_eq_getElem h1] at h4
        simpa using h4)
      have HC0 := hide (show (Lib.cut s.data.toList [58, 32]).2.2 = false → ws = [] from fun h => by rw [Hct.out] at h; cases h)
      have HC1 := hide (show (Lib.cut s.data.toList [58, 32]).2.2 = true → Lib.split (Lib.cut s.data.toList [58, 32]).2.1 [44, 32] = ws.map wayL from fun _ => by rw [HXe.out]; exact hXw)
      have HB := hide (HB3.out.only ho (by have := Hge.out; have := Hbw.out; omega))
      have HOn := hide (ownsRow_only HOn3.out ho (fun k hk e => by have := (HOwn.out.lt k hk).2; have := Hge.out; omega))
      have HWn := hide (show wr.ownsRow W.heap.size 80 4 (.slice Aw nx cw) nx (ints (flatW ws)) from World.ownsRow.mono hown (by have := Hge.out; omega))
      have Hwg := hide (show ∀ k, (Value.slice Aw nx cw).ownBlock = some k → k ≠ g0 from fun k hk => by have := (hown.lt k hk).1; omega)
      clear hXw hxr hwl hxw hwi hz hown ho hil hi hBr HOr HWr HI HXe Hxw Hx3 Hnx HE3 HZ3 HB3 HOn3 HN3 Hxl Hsz3 HBB Hct
      go_upto_region 22 with (fail)
      have HS := hide (split_any 32 hd wr hhd HE.out.m)
      go_upto_region 23 with (go_at_call 33; refine HS.out.mono ?_; rintro e wv4 ⟨nh, hnh, rfl, hh, ho4, hsz4⟩; have Hnh := hide hnh; have Hh4 := hide hh; have Ho4 := hide ho4; clear hnh hh ho4 hsz4)
      obtain ⟨Fh, hFh⟩ : ∃ Fh, splitL 32 hd.data.toList = Fh := ⟨_, rfl⟩
      have HFh := hide (show splitL 32 (Lib.cut s.data.toList [58, 32]).1 = Fh from by rw [← hFh, Hhd.out])
      have hfl : ∀ a ∈ splitL 32 hd.data.toList, a.length ≤ hd.size := fun a ha => by have := splitL_mem ha; simpa using this
      rw [hFh] at Hnh Hh4 hfl
      have Hfl := hide hfl
      have HE4 := hide (HE.out.no Ho4.out)
      have HB4 := hide (HB.out.only Ho4.out (fun h => h))
      have HZ4 := hide (HZ.out.only Ho4.out (fun h => h))
      have HOn4 := hide (ownsRow_only HOn.out Ho4.out (fun _ _ h => h))
      have HWn4 := hide (ownsRow_only HWn.out Ho4.out (fun _ _ h => h))
      have HN4 := hide (HN.out.trans Ho4.out)
      obtain ⟨gh, hgh⟩ : ∃ gh, wr.heap.size = gh := ⟨_, rfl⟩
      rw [hgh] at Hh4 ⊢
      clear hFh hfl hgh HS HE HB HZ HOn HWn HN Ho4
      by_cases h3 : nh = 3
      case neg =>
        have d3 : ((nh : Int) != 3) = true := by rw [bne_iff_ne]; omega
        have d3n : (nh != 3) = true := by rw [bne_iff_ne]; omega
        have Hn3 := hide h3
        clear h3
        go_wp2_with fail
        go_ret
        exact ⟨-1, rfl, HN4.out.mono (fun _ _ h => h.elim), .inl ⟨rfl, fun p' hp hl => by
          have hq := piece_parts hp (show (32 : UInt8) ∉ wordR 1 by decide) (show (58 : UInt8) ∉ wordR 1 by decide) hl
          have h5 := hq.1
          rw [HFh.out] at h5
          rw [h5] at Hnh
          exact absurd Hnh.out Hn3.out⟩⟩
      have d3 : ((nh : Int) != 3) = false := by rw [h3]; rfl
      have d3n : (nh != 3) = false := by rw [h3]; rfl
      have n2 : (2 : Int) < (nh : Int) := by omega
      have H3 := hide (show Fh.length = 3 from by rw [← Hnh.out]; exact h3)
      obtain ⟨s2, hs2⟩ : ∃ s2, bytes (Fh.getD 2 []) = s2 := ⟨_, rfl⟩
      have Hs2 := hide (show s2.data.toList = Fh.getD 2 [] from by rw [← hs2, bytes_list])
      have Hc2 := hide (fun (w' : World) (h : RowsAt w' gh Fh) => (show w'.cell? ⟨gh, 2, none⟩ = some (.string s2) from by rw [h.cellD (i := 2) (by rw [H3.out]; omega), hs2]))
      have c2 := Hc2.out _ Hh4.out
      clear h3 hs2
      by_cases hdg : ∃ m : Nat, m ≤ 9999 ∧ s2.data.toList = Lib.decDigits m
      case neg =>
        have Hdg := hide hdg
        clear hdg
        have mlt : decide ((-1 : Int) < 0) = true := by decide
        go_upto_region 24 with (go_at_call 83; refine (count_any s2 wv4 HE4.out).mono ?_; rintro e wv5 ⟨⟨n, rfl, hn⟩, ho5⟩; obtain rfl : n = -1 := cnt_bad hn Hdg.out; have HN5 := hide (HN4.out.trans ho5); clear hn ho5)
        go_wp2_with fail
        go_ret
        exact ⟨-1, rfl, HN5.out.mono (fun _ _ h => h.elim), .inl ⟨rfl, fun p' hp hl => by
          have hq := piece_parts hp (show (32 : UInt8) ∉ wordR 1 by decide) (show (58 : UInt8) ∉ wordR 1 by decide) hl
          have h5 := hq.1
          rw [HFh.out] at h5
          obtain ⟨mm, e9, m9⟩ := hp.2.1
          exact Hdg.out ⟨mm, m9, by rw [Hs2.out, h5, e9]; rfl⟩⟩⟩
      obtain ⟨m, hm9, hm⟩ := hdg
      have Hm9 := hide hm9
      have HM := hide hm
      clear hm9 hm
      have mlt : decide ((m : Int) < 0) = false := by simp
      go_upto_region 25 with (go_at_call 83; refine (count_any s2 wv4 HE4.out).mono ?_; rintro e wv5 ⟨⟨n, rfl, hn⟩, ho5⟩; obtain rfl : n = (m : Int) := cnt_one hn Hm9.out HM.out; have Ho5 := hide ho5; clear hn ho5)
      have HE5 := hide (HE4.out.no Ho5.out)
      have HB5 := hide (HB4.out.only Ho5.out (fun h => h))
      have HZ5 := hide (HZ4.out.only Ho5.out (fun h => h))
      have HOn5 := hide (ownsRow_only HOn4.out Ho5.out (fun _ _ h => h))
      have HWn5 := hide (ownsRow_only HWn4.out Ho5.out (fun _ _ h => h))
      have HN5 := hide (HN4.out.trans Ho5.out)
      have c25 := Hc2.out _ (Blk.only Hh4.out Ho5.out (fun h => h))
      clear c2 Hh4 Hc2 HE4 HB4 HZ4 HOn4 HWn4 HN4 Ho5 mlt
      go_upto_region 26 with (go_at_call 83; refine (count_any s2 wv5 HE5.out).mono ?_; rintro e wv6 ⟨⟨n, rfl, hn⟩, ho6⟩; obtain rfl : n = (m : Int) := cnt_one hn Hm9.out HM.out; have Ho6 := hide ho6; have HZ6 := hide (HZ5.out.only ho6 (fun h => h)); obtain ⟨z0, z1, z2, zf⟩ := Blk.three_ HZ6.out; have zf1 := zf 1; clear zf hn ho6)
      have hst : Only (fun x => x = g0) wv6 (wv6.setCell ⟨g0, 1, none⟩ (.int .i64 (m : Int))) := (Only.refl (fun x => x = g0) wv6).setCell (p := ⟨g0, 1, none⟩) (.inl rfl) _
      have HP7 := hide (show Blk (wv6.setCell ⟨g0, 1, none⟩ (.int .i64 (m : Int))) g0 77 #[.int .u8 (ch.toNat : Int), .int .i64 (m : Int), .slice Aw nx cw] from Blk.set_ HZ6.out 1 _)
      have HN7 := hide (show Only (fun _ => False) W (wv6.setCell ⟨g0, 1, none⟩ (.int .i64 (m : Int))) from (HN5.out.trans Ho6.out).trans' hst (fun i hi hs => by have := Hge.out; omega))
      have HB7 := hide ((HB5.out.only Ho6.out (fun h => h)).only hst (by have := Hge.out; have := Hbw.out; omega))
      have HOn7 := hide (ownsRow_only (ownsRow_only HOn5.out Ho6.out (fun _ _ h => h)) hst (fun k hk e => by have := (HOwn.out.lt k hk).2; have := Hge.out; omega))
      have HWn7 := hide (ownsRow_only (ownsRow_only HWn5.out Ho6.out (fun _ _ h => h)) hst (fun k hk e => Hwg.out k hk e))
      obtain ⟨wv7, hw7⟩ : ∃ wv7, wv6.setCell ⟨g0, 1, none⟩ (.int .i64 (m : Int)) = wv7 := ⟨_, rfl⟩
      rw [hw7] at HP7 HN7 HB7 HOn7 HWn7 ⊢
      have HPB := hide (piece_back (c := ch) (v := (m : Int)) (ws := ws) HQ.out.1 HQ.out.2.1 HQ.out.2.2 (by rw [HFh.out]; exact H3.out) ⟨m, rfl, Hm9.out, by rw [HFh.out, ← Hs2.out]; exact HM.out⟩ HWi.out HC0.out HC1.out)
      clear hw7 hst z0 z1 z2 zf1 HZ6 Ho6 c25 HE5 HB5 HZ5 HOn5 HWn5 HN5
      have hbl : b < wv7.heap.size := Blk.lt HB7.out
      have hgpl : g0 < wv7.heap.size := Blk.lt HP7.out
      have Hsz7 := hide (show B ≤ wv7.heap.size from Nat.le_trans hBW HN7.out.size)
      have hal7 : Only (fun _ => False) wv7 (wv7.alloc (.cells #[.int .u8 (ch.toNat : Int), .int .i64 (m : Int), .slice Aw nx cw] 77)).drew := ((Only.refl (fun _ => False) wv7).alloc _).drew
      have HBA := hide (show Blk (wv7.alloc (.cells #[.int .u8 (ch.toNat : Int), .int .i64 (m : Int), .slice Aw nx cw] 77)).drew b 27 #[.int .i64 w, .int .i64 h, .string c, .int .i64 t, .string h0, .string h1, .slice A nn cc, .bool dr, .int .u8 (lo : Int), .int .i64 li, .int .u8 (re : Int), .bool st, .int .i64 pl] from (HB7.out.only hal7 (fun h => h)))
      have HblkA := hide (show Blk (wv7.alloc (.cells #[.int .u8 (ch.toNat : Int), .int .i64 (m : Int), .slice Aw nx cw] 77)).drew wv7.heap.size 77 #[.int .u8 (ch.toNat : Int), .int .i64 (m : Int), .slice Aw nx cw] from Blk.new wv7 _ _)
      have HOnA := hide (show (wv7.alloc (.cells #[.int .u8 (ch.toNat : Int), .int .i64 (m : Int), .slice Aw nx cw] 77)).drew.ownsRow B 77 3 (.slice A nn cc) nn xs from ownsRow_only HOn7.out hal7 (fun _ _ h => h))
      have HWaA := hide (show (wv7.alloc (.cells #[.int .u8 (ch.toNat : Int), .int .i64 (m : Int), .slice Aw nx cw] 77)).drew.ownsRow W.heap.size 80 4 (.slice Aw nx cw) nx (ints (flatW ws)) from ownsRow_only HWn7.out hal7 (fun _ _ h => h))
      have HneA := hide (fun k (hk : (Value.slice A nn cc).ownBlock = some k) => (show k ≠ b from by have := (HOn7.out.lt k hk).1; omega))
      have HwaN := hide (fun k (hk : (Value.slice Aw nx cw).ownBlock = some k) (h : (Value.slice A nn cc).ownBlock = some k) => (show False from by have h1 := (HWn7.out.lt k hk).1; have h2 := (HOwn.out.lt k h).2; omega))
      have HOA := hide (show Only (fun x => x = b ∨ (Value.slice A nn cc).ownBlock = some x) W (wv7.alloc (.cells #[.int .u8 (ch.toNat : Int), .int .i64 (m : Int), .slice Aw nx cw] 77)).drew from (HN7.out.trans hal7).mono (fun _ _ h => h.elim))
      obtain ⟨ip, hip, hiz, his, hib⟩ := info_parts info_piece
      have HI := hide (And.intro hip (And.intro hiz (And.intro his hib)))
      obtain ⟨y0, y1, y2, y3, y4, y5, y6, y7, y8, y9, y10, y11, y12⟩ := Blk.rules HB7.out
      obtain ⟨z0, z1, z2, -⟩ := Blk.three_ HP7.out
      clear hip hiz his hib hal7 HOn7 HWn7 HN7 y0 y1 y2 y3 y4 y5 y7 y8 y9 y10 y11 y12
      refine wp_region_held_drew (S := fun _ : World => True) (by kernel_rfl) (trivial) (fun hHeld => ?_)
      refine wpAnyH_take (i := 0) (oi := ⟨some 115, _, _, _, _, _⟩) (v := ?_) rfl (by kernel_rfl) (by kernel_rfl) (by kernel_rfl) (fun _ _ _ h => h) (Or.inl ⟨by rfl, ?_⟩) (by assumption) ?_
      rotate_left 1
      · intro w hSw
        try dsimp only at hSw
        go_simp <;> with_reducible rfl
      try simp only [Act.put, List.setIfInBounds_toArray, List.set_cons_zero, List.set_cons_succ]
      refine wpAnyH_take (i := 1) (oi := ⟨some 116, _, _, _, _, _⟩) (v := ?_) rfl (by kernel_rfl) (by kernel_rfl) (by kernel_rfl) (fun _ _ _ h => h) (Or.inl ⟨by rfl, ?_⟩) (by assumption) ?_
      rotate_left 1
      · intro w hSw
        try dsimp only at hSw
        go_simp <;> with_reducible rfl
      try simp only [Act.put, List.setIfInBounds_toArray, List.set_cons_zero, List.set_cons_succ]
      refine wpAnyH_take (i := 2) (oi := ⟨some 117, _, _, _, _, _⟩) (v := ?_) rfl (by kernel_rfl) (by kernel_rfl) (by kernel_rfl) (fun _ _ _ h => h) (Or.inl ⟨by rfl, ?_⟩) (by assumption) ?_
      rotate_left 1
      · intro w hSw
        try dsimp only at hSw
        go_simp <;> with_reducible rfl
      try simp only [Act.put, List.setIfInBounds_toArray, List.set_cons_zero, List.set_cons_succ]
      refine wpAnyH_take (i := 3) (oi := ⟨some 118, _, _, _, _, _⟩) (v := ?_) rfl (by kernel_rfl) (by kernel_rfl) (by kernel_rfl) (fun _ _ _ h => h) (Or.inl ⟨by rfl, ?_⟩) (by assumption) ?_
      rotate_left 1
      · intro w hSw
        try dsimp only at hSw
        go_simp <;> with_reducible rfl
      try simp only [Act.put, List.setIfInBounds_toArray, List.set_cons_zero, List.set_cons_succ]
      refine wpAnyH_ready (rs := [4, 5]) (by kernel_rfl) (by simp) ?_
      refine AllReadyH.cons (o := ⟨some 119, _, _, _, _, _⟩) rfl (fun K hK => ?_) ?_
      · clear hHeld
        go_simp
        refine hK.out _ _ (by trivial) (fun hHeld => ?_)
        clear hK K
        try simp only [Act.put, List.setIfInBounds_toArray, List.set_cons_zero, List.set_cons_succ]
        refine wpAnyH_ready (rs := [5]) (by kernel_rfl) (by simp) ?_
        refine AllReadyH.cons (o := ⟨some 120, _, _, _, _, _⟩) rfl (fun K hK => ?_) ?_
        · clear hHeld
          go_simp
          refine hK.out _ _ (by trivial) (fun hHeld => ?_)
          clear hK K
          try simp only [Act.put, List.setIfInBounds_toArray, List.set_cons_zero, List.set_cons_succ]
          refine wpAnyH_ready (rs := [6]) (by kernel_rfl) (by simp) ?_
          refine AllReadyH.cons (o := ⟨some 121, _, _, _, _, _⟩) rfl (fun K hK => ?_) ?_
          · clear hHeld
            go_simp
            refine hK.out _ _ (by trivial) (fun hHeld => ?_)
            clear hK K
            try simp only [Act.put, List.setIfInBounds_toArray, List.set_cons_zero, List.set_cons_succ]
            refine wpAnyH_ready (rs := [7]) (by kernel_rfl) (by simp) ?_
            refine AllReadyH.cons (o := ⟨some 122, _, _, _, _, _⟩) rfl (fun K hK => ?_) ?_
            · clear hHeld
              refine step_appendK rfl (.tmp 119) (.tmp 121) 25 (by rfl) B 77 ip (.agg #[.int .u8 0, .int .i64 0, .slice none 0 0]) 3 40 Tryz.underlying25 HI.out.1 HI.out.2.1 HI.out.2.2.1 HI.out.2.2.2 rfl (by decide) (.slice A nn cc) nn xs (by rfl) HOnA.out [.int .u8 (ch.toNat : Int), .int .i64 (m : Int), .slice Aw nx cw] rfl wv7.heap.size 77 (by rfl) HblkA.out ?h1 ?h2 ?h3 ?h4 ?_
              case h1 => simp [Value.oneCell']
              case h2 => unfold maxLen; omega
              case h3 => omega
              case h4 => have := Hsz7.out; simp; omega
              intro g8 c8 w8 hown8 hO8 hg8
              have HB8 := hide (HBA.out.only hO8 (fun h => HneA.out b h rfl))
              have yy := (Blk.rules HB8.out)
              obtain ⟨k0, k1, k2, k3, k4, k5, k6, k7, k8, k9, k10, k11, k12⟩ := yy
              have kf6 := Blk.free HB8.out 6
              refine hK.out _ _ (by trivial) (fun hHeld => ?_)
              clear hK K
              try simp only [Act.put, List.setIfInBounds_toArray, List.set_cons_zero, List.set_cons_succ]
              refine wpAnyH_take (i := 8) (oi := ⟨some 123, _, _, _, _, _⟩) (v := ?_) rfl (by kernel_rfl) (by kernel_rfl) (by kernel_rfl) (fun _ _ _ h => h) (Or.inl ⟨by rfl, ?_⟩) (by assumption) ?_
              rotate_left 1
              · intro w hSw
                try dsimp only at hSw
                go_simp <;> with_reducible rfl
              try simp only [Act.put, List.setIfInBounds_toArray, List.set_cons_zero, List.set_cons_succ]
              refine wpAnyH_take (i := 9) (oi := ⟨some 124, _, _, _, _, _⟩) (v := ?_) rfl (by kernel_rfl) (by kernel_rfl) (by kernel_rfl) (fun _ _ _ h => h) (Or.inl ⟨by rfl, ?_⟩) (by assumption) ?_
              rotate_left 1
              · intro w hSw
                try dsimp only at hSw
                go_simp <;> with_reducible rfl
              try simp only [Act.put, List.setIfInBounds_toArray, List.set_cons_zero, List.set_cons_succ]
              refine wpAnyH_ready (rs := [10]) (by kernel_rfl) (by simp) ?_
              refine AllReadyH.cons (o := ⟨none, _, _, _, _, _⟩) rfl (fun K hK => ?_) ?_
              · clear hHeld
                go_simp
                refine hK.out _ _ (by trivial) (fun hHeld => ?_)
                clear hK K
                try simp only [Act.put]
                refine wpAnyH_done (by kernel_rfl) ?_ _
                have HB9 := hide (show Blk (w8.setCell ⟨b, 6, none⟩ (.slice (some ⟨g8, 0, none⟩) (nn + 1) c8)) b 27 #[.int .i64 w, .int .i64 h, .string c, .int .i64 t, .string h0, .string h1, (.slice (some ⟨g8, 0, none⟩) (nn + 1) c8), .bool dr, .int .u8 (lo : Int), .int .i64 li, .int .u8 (re : Int), .bool st, .int .i64 pl] from Blk.set_ HB8.out 6 _)
                have HO9 := hide (((HOA.out.trans' hO8 (fun k _ h => .inr h)).setCell (p := ⟨b, 6, none⟩) (.inl (.inl rfl)) (.slice (some ⟨g8, 0, none⟩) (nn + 1) c8)))
                have HN9 := hide (ownsRow_only hown8 ((Only.refl (fun x => x = b) w8).setCell (p := ⟨b, 6, none⟩) (.inl rfl) (.slice (some ⟨g8, 0, none⟩) (nn + 1) c8)) (fun k hk e => by have := (hown8.lt k hk).1; omega))
                have HW9 := hide (ownsRow_only (ownsRow_only HWaA.out hO8 (fun k hk h => HwaN.out k hk h)) ((Only.refl (fun x => x = b) w8).setCell (p := ⟨b, 6, none⟩) (.inl rfl) (.slice (some ⟨g8, 0, none⟩) (nn + 1) c8)) (fun k hk e => by have := (HWaA.out.lt k hk).1; have := Hbw.out; omega))
                have HG := hide (show (Value.slice (some ⟨g8, 0, none⟩) (nn + 1) c8).ownBlock = (Value.slice A nn cc).ownBlock ∨ ∃ g, (Value.slice (some ⟨g8, 0, none⟩) (nn + 1) c8).ownBlock = some g ∧ W.heap.size ≤ g ∧ ∀ k, (Value.slice Aw nx cw).ownBlock = some k → k < g from by
                  rcases hg8 with h | h
                  · exact .inl h.symm
                  · refine .inr ⟨g8, rfl, ?_, fun k hk => ?_⟩
                    · rw [h]; exact HOA.out.size
                    · rw [h]; exact (HWaA.out.lt k hk).2)
                clear hown8 hO8 hg8 k0 k1 k2 k3 k4 k5 k6 k7 k8 k9 k10 k11 k12 kf6 hHeld
                go_wp2_with fail
                go_ret
                exact ⟨1, rfl, HO9.out, .inr ⟨rfl, ⟨ch.toNat, (m : Int), ws⟩, (.slice (some ⟨g8, 0, none⟩) (nn + 1) c8), .slice Aw nx cw, HPB.out.1, HPB.out.2, HB9.out, HN9.out, (by rw [show (PieceD.mk ch.toNat (m : Int) ws).ways.length = nx from Hwl.out]; exact HW9.out), HG.out⟩⟩
              exact AllReadyH.nil
            exact AllReadyH.nil
          exact AllReadyH.nil
        exact AllReadyH.nil
      refine AllReadyH.cons (o := ⟨some 120, _, _, _, _, _⟩) rfl (fun K hK => ?_) ?_
      · clear hHeld
        go_simp
        refine hK.out _ _ (by trivial) (fun hHeld => ?_)
        clear hK K
        try simp only [Act.put, List.setIfInBounds_toArray, List.set_cons_zero, List.set_cons_succ]
        refine wpAnyH_ready (rs := [4, 6]) (by kernel_rfl) (by simp) ?_
        refine AllReadyH.cons (o := ⟨some 119, _, _, _, _, _⟩) rfl (fun K hK => ?_) ?_
        · clear hHeld
          go_simp
          refine hK.out _ _ (by trivial) (fun hHeld => ?_)
          clear hK K
          try simp only [Act.put, List.setIfInBounds_toArray, List.set_cons_zero, List.set_cons_succ]
          refine wpAnyH_ready (rs := [6]) (by kernel_rfl) (by simp) ?_
          refine AllReadyH.cons (o := ⟨some 121, _, _, _, _, _⟩) rfl (fun K hK => ?_) ?_
          · clear hHeld
            go_simp
            refine hK.out _ _ (by trivial) (fun hHeld => ?_)
            clear hK K
            try simp only [Act.put, List.setIfInBounds_toArray, List.set_cons_zero, List.set_cons_succ]
            refine wpAnyH_ready (rs := [7]) (by kernel_rfl) (by simp) ?_
            refine AllReadyH.cons (o := ⟨some 122, _, _, _, _, _⟩) rfl (fun K hK => ?_) ?_
            · clear hHeld
              refine step_appendK rfl (.tmp 119) (.tmp 121) 25 (by rfl) B 77 ip (.agg #[.int .u8 0, .int .i64 0, .slice none 0 0]) 3 40 Tryz.underlying25 HI.out.1 HI.out.2.1 HI.out.2.2.1 HI.out.2.2.2 rfl (by decide) (.slice A nn cc) nn xs (by rfl) HOnA.out [.int .u8 (ch.toNat : Int), .int .i64 (m : Int), .slice Aw nx cw] rfl wv7.heap.size 77 (by rfl) HblkA.out ?h1 ?h2 ?h3 ?h4 ?_
              case h1 => simp [Value.oneCell']
              case h2 => unfold maxLen; omega
              case h3 => omega
              case h4 => have := Hsz7.out; simp; omega
              intro g8 c8 w8 hown8 hO8 hg8
              have HB8 := hide (HBA.out.only hO8 (fun h => HneA.out b h rfl))
              have yy := (Blk.rules HB8.out)
              obtain ⟨k0, k1, k2, k3, k4, k5, k6, k7, k8, k9, k10, k11, k12⟩ := yy
              have kf6 := Blk.free HB8.out 6
              refine hK.out _ _ (by trivial) (fun hHeld => ?_)
              clear hK K
              try simp only [Act.put, List.setIfInBounds_toArray, List.set_cons_zero, List.set_cons_succ]
              refine wpAnyH_take (i := 8) (oi := ⟨some 123, _, _, _, _, _⟩) (v := ?_) rfl (by kernel_rfl) (by kernel_rfl) (by kernel_rfl) (fun _ _ _ h => h) (Or.inl ⟨by rfl, ?_⟩) (by assumption) ?_
              rotate_left 1
              · intro w hSw
                try dsimp only at hSw
                go_simp <;> with_reducible rfl
              try simp only [Act.put, List.setIfInBounds_toArray, List.set_cons_zero, List.set_cons_succ]
              refine wpAnyH_take (i := 9) (oi := ⟨some 124, _, _, _, _, _⟩) (v := ?_) rfl (by kernel_rfl) (by kernel_rfl) (by kernel_rfl) (fun _ _ _ h => h) (Or.inl ⟨by rfl, ?_⟩) (by assumption) ?_
              rotate_left 1
              · intro w hSw
                try dsimp only at hSw
                go_simp <;> with_reducible rfl
              try simp only [Act.put, List.setIfInBounds_toArray, List.set_cons_zero, List.set_cons_succ]
              refine wpAnyH_ready (rs := [10]) (by kernel_rfl) (by simp) ?_
              refine AllReadyH.cons (o := ⟨none, _, _, _, _, _⟩) rfl (fun K hK => ?_) ?_
              · clear hHeld
                go_simp
                refine hK.out _ _ (by trivial) (fun hHeld => ?_)
                clear hK K
                try simp only [Act.put]
                refine wpAnyH_done (by kernel_rfl) ?_ _
                have HB9 := hide (show Blk (w8.setCell ⟨b, 6, none⟩ (.slice (some ⟨g8, 0, none⟩) (nn + 1) c8)) b 27 #[.int .i64 w, .int .i64 h, .string c, .int .i64 t, .string h0, .string h1, (.slice (some ⟨g8, 0, none⟩) (nn + 1) c8), .bool dr, .int .u8 (lo : Int), .int .i64 li, .int .u8 (re : Int), .bool st, .int .i64 pl] from Blk.set_ HB8.out 6 _)
                have HO9 := hide (((HOA.out.trans' hO8 (fun k _ h => .inr h)).setCell (p := ⟨b, 6, none⟩) (.inl (.inl rfl)) (.slice (some ⟨g8, 0, none⟩) (nn + 1) c8)))
                have HN9 := hide (ownsRow_only hown8 ((Only.refl (fun x => x = b) w8).setCell (p := ⟨b, 6, none⟩) (.inl rfl) (.slice (some ⟨g8, 0, none⟩) (nn + 1) c8)) (fun k hk e => by have := (hown8.lt k hk).1; omega))
                have HW9 := hide (ownsRow_only (ownsRow_only HWaA.out hO8 (fun k hk h => HwaN.out k hk h)) ((Only.refl (fun x => x = b) w8).setCell (p := ⟨b, 6, none⟩) (.inl rfl) (.slice (some ⟨g8, 0, none⟩) (nn + 1) c8)) (fun k hk e => by have := (HWaA.out.lt k hk).1; have := Hbw.out; omega))
                have HG := hide (show (Value.slice (some ⟨g8, 0, none⟩) (nn + 1) c8).ownBlock = (Value.slice A nn cc).ownBlock ∨ ∃ g, (Value.slice (some ⟨g8, 0, none⟩) (nn + 1) c8).ownBlock = some g ∧ W.heap.size ≤ g ∧ ∀ k, (Value.slice Aw nx cw).ownBlock = some k → k < g from by
                  rcases hg8 with h | h
                  · exact .inl h.symm
                  · refine .inr ⟨g8, rfl, ?_, fun k hk => ?_⟩
                    · rw [h]; exact HOA.out.size
                    · rw [h]; exact (HWaA.out.lt k hk).2)
                clear hown8 hO8 hg8 k0 k1 k2 k3 k4 k5 k6 k7 k8 k9 k10 k11 k12 kf6 hHeld
                go_wp2_with fail
                go_ret
                exact ⟨1, rfl, HO9.out, .inr ⟨rfl, ⟨ch.toNat, (m : Int), ws⟩, (.slice (some ⟨g8, 0, none⟩) (nn + 1) c8), .slice Aw nx cw, HPB.out.1, HPB.out.2, HB9.out, HN9.out, (by rw [show (PieceD.mk ch.toNat (m : Int) ws).ways.length = nx from Hwl.out]; exact HW9.out), HG.out⟩⟩
              exact AllReadyH.nil
            exact AllReadyH.nil
          exact AllReadyH.nil
        refine AllReadyH.cons (o := ⟨some 121, _, _, _, _, _⟩) rfl (fun K hK => ?_) ?_
        · clear hHeld
          go_simp
          refine hK.out _ _ (by trivial) (fun hHeld => ?_)
          clear hK K
          try simp only [Act.put, List.setIfInBounds_toArray, List.set_cons_zero, List.set_cons_succ]
          refine wpAnyH_ready (rs := [4]) (by kernel_rfl) (by simp) ?_
          refine AllReadyH.cons (o := ⟨some 119, _, _, _, _, _⟩) rfl (fun K hK => ?_) ?_
          · clear hHeld
            go_simp
            refine hK.out _ _ (by trivial) (fun hHeld => ?_)
            clear hK K
            try simp only [Act.put, List.setIfInBounds_toArray, List.set_cons_zero, List.set_cons_succ]
            refine wpAnyH_ready (rs := [7]) (by kernel_rfl) (by simp) ?_
            refine AllReadyH.cons (o := ⟨some 122, _, _, _, _, _⟩) rfl (fun K hK => ?_) ?_
            · clear hHeld
              refine step_appendK rfl (.tmp 119) (.tmp 121) 25 (by rfl) B 77 ip (.agg #[.int .u8 0, .int .i64 0, .slice none 0 0]) 3 40 Tryz.underlying25 HI.out.1 HI.out.2.1 HI.out.2.2.1 HI.out.2.2.2 rfl (by decide) (.slice A nn cc) nn xs (by rfl) HOnA.out [.int .u8 (ch.toNat : Int), .int .i64 (m : Int), .slice Aw nx cw] rfl wv7.heap.size 77 (by rfl) HblkA.out ?h1 ?h2 ?h3 ?h4 ?_
              case h1 => simp [Value.oneCell']
              case h2 => unfold maxLen; omega
              case h3 => omega
              case h4 => have := Hsz7.out; simp; omega
              intro g8 c8 w8 hown8 hO8 hg8
              have HB8 := hide (HBA.out.only hO8 (fun h => HneA.out b h rfl))
              have yy := (Blk.rules HB8.out)
              obtain ⟨k0, k1, k2, k3, k4, k5, k6, k7, k8, k9, k10, k11, k12⟩ := yy
              have kf6 := Blk.free HB8.out 6
              refine hK.out _ _ (by trivial) (fun hHeld => ?_)
              clear hK K
              try simp only [Act.put, List.setIfInBounds_toArray, List.set_cons_zero, List.set_cons_succ]
              refine wpAnyH_take (i := 8) (oi := ⟨some 123, _, _, _, _, _⟩) (v := ?_) rfl (by kernel_rfl) (by kernel_rfl) (by kernel_rfl) (fun _ _ _ h => h) (Or.inl ⟨by rfl, ?_⟩) (by assumption) ?_
              rotate_left 1
              · intro w hSw
                try dsimp only at hSw
                go_simp <;> with_reducible rfl
              try simp only [Act.put, List.setIfInBounds_toArray, List.set_cons_zero, List.set_cons_succ]
              refine wpAnyH_take (i := 9) (oi := ⟨some 124, _, _, _, _, _⟩) (v := ?_) rfl (by kernel_rfl) (by kernel_rfl) (by kernel_rfl) (fun _ _ _ h => h) (Or.inl ⟨by rfl, ?_⟩) (by assumption) ?_
              rotate_left 1
              · intro w hSw
                try dsimp only at hSw
                go_simp <;> with_reducible rfl
              try simp only [Act.put, List.setIfInBounds_toArray, List.set_cons_zero, List.set_cons_succ]
              refine wpAnyH_ready (rs := [10]) (by kernel_rfl) (by simp) ?_
              refine AllReadyH.cons (o := ⟨none, _, _, _, _, _⟩) rfl (fun K hK => ?_) ?_
              · clear hHeld
                go_simp
                refine hK.out _ _ (by trivial) (fun hHeld => ?_)
                clear hK K
                try simp only [Act.put]
                refine wpAnyH_done (by kernel_rfl) ?_ _
                have HB9 := hide (show Blk (w8.setCell ⟨b, 6, none⟩ (.slice (some ⟨g8, 0, none⟩) (nn + 1) c8)) b 27 #[.int .i64 w, .int .i64 h, .string c, .int .i64 t, .string h0, .string h1, (.slice (some ⟨g8, 0, none⟩) (nn + 1) c8), .bool dr, .int .u8 (lo : Int), .int .i64 li, .int .u8 (re : Int), .bool st, .int .i64 pl] from Blk.set_ HB8.out 6 _)
                have HO9 := hide (((HOA.out.trans' hO8 (fun k _ h => .inr h)).setCell (p := ⟨b, 6, none⟩) (.inl (.inl rfl)) (.slice (some ⟨g8, 0, none⟩) (nn + 1) c8)))
                have HN9 := hide (ownsRow_only hown8 ((Only.refl (fun x => x = b) w8).setCell (p := ⟨b, 6, none⟩) (.inl rfl) (.slice (some ⟨g8, 0, none⟩) (nn + 1) c8)) (fun k hk e => by have := (hown8.lt k hk).1; omega))
                have HW9 := hide (ownsRow_only (ownsRow_only HWaA.out hO8 (fun k hk h => HwaN.out k hk h)) ((Only.refl (fun x => x = b) w8).setCell (p := ⟨b, 6, none⟩) (.inl rfl) (.slice (some ⟨g8, 0, none⟩) (nn + 1) c8)) (fun k hk e => by have := (HWaA.out.lt k hk).1; have := Hbw.out; omega))
                have HG := hide (show (Value.slice (some ⟨g8, 0, none⟩) (nn + 1) c8).ownBlock = (Value.slice A nn cc).ownBlock ∨ ∃ g, (Value.slice (some ⟨g8, 0, none⟩) (nn + 1) c8).ownBlock = some g ∧ W.heap.size ≤ g ∧ ∀ k, (Value.slice Aw nx cw).ownBlock = some k → k < g from by
                  rcases hg8 with h | h
                  · exact .inl h.symm
                  · refine .inr ⟨g8, rfl, ?_, fun k hk => ?_⟩
                    · rw [h]; exact HOA.out.size
                    · rw [h]; exact (HWaA.out.lt k hk).2)
                clear hown8 hO8 hg8 k0 k1 k2 k3 k4 k5 k6 k7 k8 k9 k10 k11 k12 kf6 hHeld
                go_wp2_with fail
                go_ret
                exact ⟨1, rfl, HO9.out, .inr ⟨rfl, ⟨ch.toNat, (m : Int), ws⟩, (.slice (some ⟨g8, 0, none⟩) (nn + 1) c8), .slice Aw nx cw, HPB.out.1, HPB.out.2, HB9.out, HN9.out, (by rw [show (PieceD.mk ch.toNat (m : Int) ws).ways.length = nx from Hwl.out]; exact HW9.out), HG.out⟩⟩
              exact AllReadyH.nil
            exact AllReadyH.nil
          exact AllReadyH.nil
        exact AllReadyH.nil
      exact AllReadyH.nil
end Go.Proofs.YtcdfeaodfmfdnaaGreatDoor
namespace Go.Proofs.YtcdfeaodfmfdnaaGreatDoor
open Go.RowKit

set_option maxHeartbeats 8000000 in
set_option maxRecDepth 100000 in
theorem dl_start (b : Nat) (s : ByteArray) (w h t li pl : Int) (c h0 h1 : ByteArray) (sv : Value) (dr st : Bool) (lo re : Nat) (W : World) (hs : s.size < 4294967281) (he : Env W) (hB : Blk W b 27 #[.int .i64 w, .int .i64 h, .string c, .int .i64 t, .string h0, .string h1, sv, .bool dr, .int .u8 (lo : Int), .int .i64 li, .int .u8 (re : Int), .bool st, .int .i64 pl])  (qz : Lib.hasPrefix s.data.toList [115, 116, 97, 114, 116, 32] = true) :
    Calls Tryz.prog 38 #[.pointer (some ⟨b, 0, none⟩), .string s] W fun e w' => (∃ (q : Pos) (code at_ : Int), ReadP (s.data.toList.drop 6) q code at_ ∧ e = .returned (.int .i64 (if code = 0 then 0 else -1)) ∧ Blk w' b 27 #[.int .i64 q.w, .int .i64 q.h, .string q.cells, .int .i64 q.turn, .string q.h0, .string q.h1, sv, .bool dr, .int .u8 (lo : Int), .int .i64 li, .int .u8 (re : Int), .bool st, .int .i64 pl]) ∧ Only (fun x => x = b) W w' := by
  have H1 := hide (split_any 32 s W hs he.m)
  have HB0 := hide hB
  have HE0 := hide he
  have hll : s.data.toList.length = s.size := by simp
  have HBg := hide (fun n w => big_any n w)
  obtain ⟨F, hF⟩ : ∃ F, splitL 32 s.data.toList = F := ⟨_, rfl⟩
  have HF := hide hF
  have hne : 0 < F.length := by rw [← hF]; exact List.length_pos_iff.2 (splitL_ne _ _)
  have hfl : F.length ≤ s.size + 1 := by
    have := splitL_count 32 s.data.toList
    rw [hF] at this
    omega
  have hfm : ∀ i, (F.getD i []).length ≤ s.size := fun i => by
    by_cases hi : i < F.length
    · have h1 : F.getD i [] ∈ F := getD_mem hi
      have h2 : (F.getD i []).length ≤ s.data.toList.length := splitL_mem (c := 32) (by rw [hF]; exact h1)
      omega
    · simp [List.getD, List.getElem?_eq_none (show F.length ≤ i by omega)]
  obtain ⟨f0, hf0⟩ : ∃ f0, bytes (F.getD 0 []) = f0 := ⟨_, rfl⟩
  obtain ⟨f1, hf1⟩ : ∃ f1, bytes (F.getD 1 []) = f1 := ⟨_, rfl⟩
  have Hf0 := hide (show f0.data.toList = F.getD 0 [] from by rw [← hf0, bytes_list])
  have Hf1 := hide (show f1.data.toList = F.getD 1 [] from by rw [← hf1, bytes_list])
  have hz1 : f1.size ≤ s.size := by rw [← hf1, bytes_size]; exact hfm 1
  have Hc0 := hide (fun (w' : World) (h : RowsAt w' W.heap.size F) => (show w'.cell? ⟨W.heap.size, 0, none⟩ = some (.string f0) from by rw [← hf0]; exact h.cellD hne))
  have Hc1 := hide (fun (w' : World) (h : RowsAt w' W.heap.size F) (h2 : 1 < F.length) => (show w'.cell? ⟨W.heap.size, 1, none⟩ = some (.string f1) from by rw [← hf1]; exact h.cellD h2))
  rw [hF] at H1
  clear he hB hfm hf0 hf1 hF
  go_enter Tryz.func38, Tryz.ntmps38
  go_upto_region 2 with (go_at_call 33; refine H1.out.mono ?_; rintro e w1 ⟨nl, hnl, rfl, hl, ho1, hsz1⟩; have Hnl := hide hnl; have Hl1 := hide hl; have Ho1 := hide ho1; clear hnl hl ho1 hsz1)
  have HE1 := hide (HE0.out.no Ho1.out)
  have HO1 := hide (Ho1.out.mono (S' := fun x => x = b) (fun _ _ h => h.elim))
  have HB1 := hide (HB0.out.only Ho1.out (fun h => h))
  have c0 := Hc0.out w1 Hl1.out
  have hbW : b < W.heap.size := Blk.lt HB0.out
  obtain ⟨gl, hgl⟩ : ∃ gl, W.heap.size = gl := ⟨_, rfl⟩
  rw [hgl] at Hl1 Hc0 Hc1 c0 hbW ⊢
  have hnlb : nl ≤ s.size + 1 := by rw [Hnl.out]; exact hfl
  clear HE0 HB0 Ho1 H1 hgl hfl hll
  have HPx := hide (Tryz.strings_HasPrefix s ⟨#[115, 116, 97, 114, 116, 32]⟩ w1)
  rw [show (⟨#[115, 116, 97, 114, 116, 32]⟩ : ByteArray).data.toList = [115, 116, 97, 114, 116, 32] from rfl, qz] at HPx
  have hl6 : 6 ≤ s.size := by
    obtain ⟨tt, ht⟩ := (start_pref s.data.toList).1 qz
    have h5 : s.data.toList.length = s.size := by simp
    rw [ht] at h5
    simp [wordR] at h5
    omega
  obtain ⟨sr, hsr⟩ : ∃ sr, s.extract 6 s.size = sr := ⟨_, rfl⟩
  have Hsr := hide (show sr.data.toList = s.data.toList.drop 6 from by
    rw [← hsr, Go.Lib.extract_data]
    exact List.take_of_length_le (by rw [List.length_drop]; simp))
  have hsrl : sr.size ≤ s.size := by
    have h5 : sr.data.toList.length = sr.size := by simp
    rw [← h5, Hsr.out, List.length_drop]
    simp
  have k6 : (6 : Int) ≤ (s.size : Int) := by omega
  have HR := hide (parsed_any sr w1 (by omega) HE1.out.m)
  clear qz
  go_upto_region 4 with (first | (go_at_call 79; refine HPx.out.mono ?_; rintro e w2 ⟨rfl, hw2⟩; rw [hw2]; clear hw2) | (go_at_call 80; refine HR.out.mono ?_; rintro e w2 ⟨⟨q, cd, ca, hq, rfl⟩, ho⟩; have Hq := hide hq; have Ho2 := hide ho; clear hq ho))
  obtain ⟨qw, qh, qc, qt, q0, q1⟩ := q
  have hal : Only (fun _ => False) w2 ((w2.alloc (.cells #[.int .i64 qw, .int .i64 qh, .string qc, .int .i64 qt, .string q0, .string q1] 24)).alloc (.cells #[.int .i64 cd, .int .i64 ca] 32)) := ((Only.refl _ w2).alloc _).alloc _
  have HBq := hide (Blk.alloc (Blk.new w2 24 #[.int .i64 qw, .int .i64 qh, .string qc, .int .i64 qt, .string q0, .string q1]) (.cells #[.int .i64 cd, .int .i64 ca] 32))
  have HBf := hide (show Blk ((w2.alloc (.cells #[.int .i64 qw, .int .i64 qh, .string qc, .int .i64 qt, .string q0, .string q1] 24)).alloc (.cells #[.int .i64 cd, .int .i64 ca] 32)) (w2.heap.size + 1) 32 #[.int .i64 cd, .int .i64 ca] from (by have h := Blk.new (w2.alloc (.cells #[.int .i64 qw, .int .i64 qh, .string qc, .int .i64 qt, .string q0, .string q1] 24)) 32 #[.int .i64 cd, .int .i64 ca]; rw [World.size_alloc] at h; exact h))
  have HB2 := hide ((HB1.out.only Ho2.out (fun h => h)).only hal (fun h => h))
  have HO2 := hide ((HO1.out.trans' Ho2.out (fun _ _ h => h.elim)).trans' hal (fun _ _ h => h.elim))
  have hbl : b < w2.heap.size := Blk.lt (HB1.out.only Ho2.out (fun h => h))
  obtain ⟨gq, hgq⟩ : ∃ gq, w2.heap.size = gq := ⟨_, rfl⟩
  obtain ⟨w3, hw3⟩ : ∃ w3, (w2.alloc (.cells #[.int .i64 qw, .int .i64 qh, .string qc, .int .i64 qt, .string q0, .string q1] 24)).alloc (.cells #[.int .i64 cd, .int .i64 ca] 32) = w3 := ⟨_, rfl⟩
  rw [hw3] at HBq HBf HB2 HO2 ⊢
  rw [hgq] at HBq HBf hbl ⊢
  clear hw3 hgq hal hsr
  obtain ⟨y0, y1, y2, y3, y4, y5, y6, y7, y8, y9, y10, y11, y12⟩ := Blk.rules HB2.out
  obtain ⟨z0, z1, z2, z3, z4, z5, -⟩ := HBq.out.six_
  have yf := Blk.free HB2.out
  have yf0 := yf 0
  have yf1 := yf 1
  have yf2 := yf 2
  have yf3 := yf 3
  have yf4 := yf 4
  have yf5 := yf 5
  clear yf
  go_upto_region 5 with (fail)
  have HB4 := hide (show Blk ((((((w3.setCell ⟨b, 0, none⟩ (.int .i64 qw)).setCell ⟨b, 1, none⟩ (.int .i64 qh)).setCell ⟨b, 2, none⟩ (.string qc)).setCell ⟨b, 3, none⟩ (.int .i64 qt)).setCell ⟨b, 4, none⟩ (.string q0)).setCell ⟨b, 5, none⟩ (.string q1)) b 27 #[.int .i64 qw, .int .i64 qh, .string qc, .int .i64 qt, .string q0, .string q1, sv, .bool dr, .int .u8 (lo : Int), .int .i64 li, .int .u8 (re : Int), .bool st, .int .i64 pl] from Blk.set_ (Blk.set_ (Blk.set_ (Blk.set_ (Blk.set_ (Blk.set_ HB2.out 0 _) 1 _) 2 _) 3 _) 4 _) 5 _)
  have HBf4 := hide (show Blk ((((((w3.setCell ⟨b, 0, none⟩ (.int .i64 qw)).setCell ⟨b, 1, none⟩ (.int .i64 qh)).setCell ⟨b, 2, none⟩ (.string qc)).setCell ⟨b, 3, none⟩ (.int .i64 qt)).setCell ⟨b, 4, none⟩ (.string q0)).setCell ⟨b, 5, none⟩ (.string q1)) (gq + 1) 32 #[.int .i64 cd, .int .i64 ca] from Blk.far (Blk.far (Blk.far (Blk.far (Blk.far (Blk.far HBf.out (p := ⟨b, 0, none⟩) (by simp only; omega) _) (p := ⟨b, 1, none⟩) (by simp only; omega) _) (p := ⟨b, 2, none⟩) (by simp only; omega) _) (p := ⟨b, 3, none⟩) (by simp only; omega) _) (p := ⟨b, 4, none⟩) (by simp only; omega) _) (p := ⟨b, 5, none⟩) (by simp only; omega) _)
  have HO4 := hide (show Only (fun x => x = b) W ((((((w3.setCell ⟨b, 0, none⟩ (.int .i64 qw)).setCell ⟨b, 1, none⟩ (.int .i64 qh)).setCell ⟨b, 2, none⟩ (.string qc)).setCell ⟨b, 3, none⟩ (.int .i64 qt)).setCell ⟨b, 4, none⟩ (.string q0)).setCell ⟨b, 5, none⟩ (.string q1)) from (((((HO2.out.setCell (p := ⟨b, 0, none⟩) (.inl rfl) _).setCell (p := ⟨b, 1, none⟩) (.inl rfl) _).setCell (p := ⟨b, 2, none⟩) (.inl rfl) _).setCell (p := ⟨b, 3, none⟩) (.inl rfl) _).setCell (p := ⟨b, 4, none⟩) (.inl rfl) _).setCell (p := ⟨b, 5, none⟩) (.inl rfl) _)
  obtain ⟨w4, hw4⟩ : ∃ w4, ((((((w3.setCell ⟨b, 0, none⟩ (.int .i64 qw)).setCell ⟨b, 1, none⟩ (.int .i64 qh)).setCell ⟨b, 2, none⟩ (.string qc)).setCell ⟨b, 3, none⟩ (.int .i64 qt)).setCell ⟨b, 4, none⟩ (.string q0)).setCell ⟨b, 5, none⟩ (.string q1)) = w4 := ⟨_, rfl⟩
  rw [hw4] at HB4 HBf4 HO4 ⊢
  clear hw4 y0 y1 y2 y3 y4 y5 y6 y7 y8 y9 y10 y11 y12 z0 z1 z2 z3 z4 z5 yf0 yf1 yf2 yf3 yf4 yf5
  obtain ⟨f0, f1, -⟩ := HBf4.out.two_
  by_cases hc : cd = 0
  · subst hc
    go_wp2_with fail
    go_ret
    exact ⟨⟨⟨qw, qh, qc, qt, q0, q1⟩, 0, ca, by rw [← Hsr.out]; exact Hq.out, rfl, HB4.out⟩, HO4.out⟩
  · have dc : ((cd : Int) != 0) = true := by simpa using hc
    have Hi := hide (show (if cd = 0 then (0 : Int) else -1) = -1 from if_neg hc)
    clear hc
    go_wp2_with fail
    go_ret
    exact ⟨⟨⟨qw, qh, qc, qt, q0, q1⟩, cd, ca, by rw [← Hsr.out]; exact Hq.out, by rw [Hi.out] <;> rfl, HB4.out⟩, HO4.out⟩
end Go.Proofs.YtcdfeaodfmfdnaaGreatDoor
