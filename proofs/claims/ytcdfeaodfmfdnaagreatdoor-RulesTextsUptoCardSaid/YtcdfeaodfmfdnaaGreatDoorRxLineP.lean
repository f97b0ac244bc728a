/- rules.line where the first word is 'piece': walked. -/
import Derived.Test.YtcdfeaodfmfdnaaGreatDoorRxLine
import Derived.Test.YtcdfeaodfmfdnaaGreatDoorAppStep
import Derived.Deep.RegionHeld
namespace Go.Proofs.YtcdfeaodfmfdnaaGreatDoor
open Go.RowKit

theorem info_piece : (Tryz.prog.info? 77).map (fun i => (i.zero, i.size, i.bytes)) = some (some (.agg #[.int .u8 0, .int .i64 0, .slice none 0 0]), 3, 40) := by kernel_rfl
theorem own_lit {w : World} {base size : Nat} {e : TypeId} {v : Value} {n : Nat} {xs : List Value} (h : w.ownsRow base e size v n xs) : ∃ A c, v = .slice A n c := by
  rcases h.2 with ⟨h1, h2⟩ | ⟨g, cap, cur, h1, _⟩
  · subst h2; exact ⟨_, _, h1⟩
  · exact ⟨_, _, h1⟩
set_option maxHeartbeats 8000000 in
set_option maxRecDepth 100000 in
theorem line_piece (b : Nat) (s : ByteArray) (w h t li pl : Int) (c h0 h1 : ByteArray) (sv : Value) (dr st : Bool) (lo re : Nat) (W : World) (B nn : Nat) (xs : List Value) (hs : s.size < 4294967281) (he : Env W) (hB : Blk W b 27 #[.int .i64 w, .int .i64 h, .string c, .int .i64 t, .string h0, .string h1, sv, .bool dr, .int .u8 (lo : Int), .int .i64 li, .int .u8 (re : Int), .bool st, .int .i64 pl]) (hbB : b < B) (hBW : B ≤ W.heap.size) (hn : nn ≤ 10000000000) (hown : W.ownsRow B 77 3 sv nn xs) (hw : (Lib.cut s.data.toList [32]).1 = [112, 105, 101, 99, 101]) :
    Calls Tryz.prog 36 #[.pointer (some ⟨b, 0, none⟩), .string s] W fun e w' => ∃ (p : PieceD) (ok : Bool) (sv' wv : Value), e = .returned (.bool ok) ∧ PieceP s.data.toList p ok ∧ Blk w' b 27 #[.int .i64 w, .int .i64 h, .string c, .int .i64 t, .string h0, .string h1, sv', .bool dr, .int .u8 (lo : Int), .int .i64 li, .int .u8 (re : Int), .bool st, .int .i64 pl] ∧ w'.ownsRow B 77 3 sv' (nn + 1) (xs ++ [.int .u8 (p.letter : Int), .int .i64 p.worth, wv]) ∧ w'.ownsRow W.heap.size 80 4 wv p.ways.length (ints (flatW p.ways)) ∧ (sv'.ownBlock = sv.ownBlock ∨ ∃ g, sv'.ownBlock = some g ∧ W.heap.size ≤ g ∧ ∀ k, wv.ownBlock = some k → k < g) ∧ Only (fun x => x = b ∨ sv.ownBlock = some x) W w' := by
  obtain ⟨A, cc, rfl⟩ := own_lit hown
  have HOwn := hide hown
  have hbW : b < W.heap.size := Blk.lt hB
  clear hown
  obtain ⟨m, hm⟩ := he.m
  have HC := hide (Tryz.strings_Cut s ⟨#[32]⟩ m W hs hm)
  rw [show (⟨#[32]⟩ : ByteArray).data.toList = [32] from rfl] at HC
  have hcl := (cut_len s.data.toList [32]).2
  have hcl1 : s.data.toList.length = s.size := by simp
  obtain ⟨ct, hct⟩ : ∃ ct, Lib.cut s.data.toList [32] = ct := ⟨_, rfl⟩
  have Hct := hide hct
  rw [hct] at HC hcl hw
  obtain ⟨H, Wt, more⟩ := ct
  simp only at HC hcl hw
  obtain ⟨sh, hsh⟩ : ∃ sh : ByteArray, ⟨H.toArray⟩ = sh := ⟨_, rfl⟩
  obtain ⟨sr, hsr⟩ : ∃ sr : ByteArray, ⟨Wt.toArray⟩ = sr := ⟨_, rfl⟩
  have Hsr := hide (show sr.data.toList = (Lib.cut s.data.toList [32]).2.1 from by rw [← hsr, Hct.out])
  have Hmo := hide (show (Lib.cut s.data.toList [32]).2.2 = more from by rw [Hct.out])
  have hsrl : sr.size < 4294967281 := by
    have h2 : sr.data.toList.length = sr.size := by simp
    rw [← hsr] at h2
    simp at h2
    rw [← hsr]
    simp only [ByteArray.size]
    simp
    omega
  have hq : sh.toList = H := by rw [← hsh, Go.ByteArray.toList_eq]
  have q_start : (sh.toList == [115, 116, 97, 114, 116]) = false := by rw [hq]; rw [hw]; rfl
  have q_piece : (sh.toList == [112, 105, 101, 99, 101]) = true := by rw [hq, hw]; rfl
  rw [hsh, hsr] at HC
  have HE := hide he
  have HB := hide hB
  clear hm he hB hct hw hq hsh hsr hcl hcl1
  go_enter Tryz.func36, Tryz.ntmps36
  go_upto_region 3 with (go_at_call 34; refine HC.out.mono ?_; rintro e w1 ⟨rfl, n, rfl⟩)
  have HE1 := hide (HE.out.no ((Only.refl _ W).drewN n))
  have HO1 := hide ((Only.refl (fun x => x = b) W).drewN n)
  have HB1 := hide (show Blk (W.drewN n) b 27 #[.int .i64 w, .int .i64 h, .string c, .int .i64 t, .string h0, .string h1, .slice A nn cc, .bool dr, .int .u8 (lo : Int), .int .i64 li, .int .u8 (re : Int), .bool st, .int .i64 pl] from HB.out)
  obtain ⟨w1, hw1⟩ : ∃ w1, W.drewN n = w1 := ⟨_, rfl⟩
  have HON1 := hide ((Only.refl (fun _ => False) W).drewN n)
  have HS1 := hide (show (W.drewN n).heap.size = W.heap.size from rfl)
  rw [hw1] at HON1 HS1
  rw [hw1] at HE1 HO1 HB1 ⊢
  clear hw1 HE HB HC
  have HRP := hide (readPiece_any s w1 hs HE1.out)
  have HOn1 := hide (ownsRow_only HOwn.out HON1.out (fun _ _ h => h))
  go_upto_region 9 with (go_at_call 75; refine HRP.out.mono ?_; rintro e w2 ⟨p, ok, wv, rfl, hpp, hwn, ho2⟩; obtain ⟨Aw, cw, rfl⟩ := own_lit hwn; have Hpp := hide hpp; have Hwn := hide hwn; have Ho2 := hide ho2; clear hpp hwn ho2)
  have hal : Only (fun _ => False) w2 (w2.alloc (.cells #[.int .u8 (p.letter : Int), .int .i64 p.worth, .slice Aw p.ways.length cw] 77)) := (Only.refl _ w2).alloc _
  have HN3 := hide (HON1.out.trans (Ho2.out.trans hal))
  have HB3 := hide ((HB1.out.only Ho2.out (fun h => h)).only hal (fun h => h))
  have HP3 := hide (Blk.new w2 77 #[.int .u8 (p.letter : Int), .int .i64 p.worth, .slice Aw p.ways.length cw])
  have HOn3 := hide (ownsRow_only (ownsRow_only HOn1.out Ho2.out (fun _ _ h => h)) hal (fun _ _ h => h))
  have HWn3 := hide (ownsRow_only Hwn.out hal (fun _ _ h => h))
  rw [HS1.out] at HWn3
  obtain ⟨gp, hgp⟩ : ∃ gp, w2.heap.size = gp := ⟨_, rfl⟩
  have hgpl : gp < (w2.alloc (.cells #[.int .u8 (p.letter : Int), .int .i64 p.worth, .slice Aw p.ways.length cw] 77)).heap.size := by rw [World.size_alloc]; omega
  obtain ⟨w3, hw3⟩ : ∃ w3, w2.alloc (.cells #[.int .u8 (p.letter : Int), .int .i64 p.worth, .slice Aw p.ways.length cw] 77) = w3 := ⟨_, rfl⟩
  rw [hw3] at HN3 HB3 HP3 HOn3 HWn3 hgpl ⊢
  rw [hgp] at HP3 ⊢
  have hbl : b < w3.heap.size := Blk.lt HB3.out
  have Hsz3 := hide (show B ≤ w3.heap.size from Nat.le_trans hBW HN3.out.size)
  have Hbw := hide hbW
  have HbB := hide hbB
  have HBA := hide (show Blk (w3.alloc (.cells #[.int .u8 (p.letter : Int), .int .i64 p.worth, .slice Aw p.ways.length cw] 77)).drew b 27 #[.int .i64 w, .int .i64 h, .string c, .int .i64 t, .string h0, .string h1, .slice A nn cc, .bool dr, .int .u8 (lo : Int), .int .i64 li, .int .u8 (re : Int), .bool st, .int .i64 pl] from (Blk.alloc HB3.out _))
  have HblkA := hide (show Blk (w3.alloc (.cells #[.int .u8 (p.letter : Int), .int .i64 p.worth, .slice Aw p.ways.length cw] 77)).drew w3.heap.size 77 #[.int .u8 (p.letter : Int), .int .i64 p.worth, .slice Aw p.ways.length cw] from Blk.new w3 _ _)
  have HOnA := hide (show (w3.alloc (.cells #[.int .u8 (p.letter : Int), .int .i64 p.worth, .slice Aw p.ways.length cw] 77)).drew.ownsRow B 77 3 (.slice A nn cc) nn xs from ownsRow_only HOn3.out (((Only.refl (fun _ => False) w3).alloc _).drew) (fun _ _ h => h))
  have HWaA := hide (ownsRow_only HWn3.out (show Only (fun _ => False) w3 (w3.alloc (.cells #[.int .u8 (p.letter : Int), .int .i64 p.worth, .slice Aw p.ways.length cw] 77)).drew from ((Only.refl (fun _ => False) w3).alloc _).drew) (fun _ _ h => h))
  have HneA := hide (fun k (hk : (Value.slice A nn cc).ownBlock = some k) => (show k ≠ b from by have := (HOn3.out.lt k hk).1; omega))
  have HwaN := hide (fun k (hk : (Value.slice Aw p.ways.length cw).ownBlock = some k) (h : (Value.slice A nn cc).ownBlock = some k) => (show False from by have h1 := (HWn3.out.lt k hk).1; have h2 := (HOwn.out.lt k h).2; omega))
  have HOA := hide (show Only (fun x => x = b ∨ (Value.slice A nn cc).ownBlock = some x) W (w3.alloc (.cells #[.int .u8 (p.letter : Int), .int .i64 p.worth, .slice Aw p.ways.length cw] 77)).drew from ((HN3.out.mono (fun _ _ h => h.elim)).alloc _).drew)
  obtain ⟨ip, hip, hiz, his, hib⟩ := info_parts info_piece
  have HI := hide (And.intro hip (And.intro hiz (And.intro his hib)))
  obtain ⟨y0, y1, y2, y3, y4, y5, y6, y7, y8, y9, y10, y11, y12⟩ := Blk.rules HB3.out
  obtain ⟨z0, z1, z2, -⟩ := Blk.three_ HP3.out
  clear hip hiz his hib hal hw3 hgp HOn1 HWn3 HON1 HB1 HO1 HE1 HRP Ho2 Hwn y0 y1 y2 y3 y4 y5 y7 y8 y9 y10 y11 y12
  refine wp_region_held_drew (S := fun _ : World => True) (by kernel_rfl) (trivial) (fun hHeld => ?_)
  refine wpAnyH_take (i := 0) (oi := ⟨some 43, _, _, _, _, _⟩) (v := ?_) rfl (by kernel_rfl) (by kernel_rfl) (by kernel_rfl) (fun _ _ _ h => h) (Or.inl ⟨by rfl, ?_⟩) (by assumption) ?_
  rotate_left 1
  · intro w hSw
    try dsimp only at hSw
    go_simp <;> with_reducible rfl
  try simp only [Act.put, List.setIfInBounds_toArray, List.set_cons_zero, List.set_cons_succ]
  refine wpAnyH_take (i := 1) (oi := ⟨some 44, _, _, _, _, _⟩) (v := ?_) rfl (by kernel_rfl) (by kernel_rfl) (by kernel_rfl) (fun _ _ _ h => h) (Or.inl ⟨by rfl, ?_⟩) (by assumption) ?_
  rotate_left 1
  · intro w hSw
    try dsimp only at hSw
    go_simp <;> with_reducible rfl
  try simp only [Act.put, List.setIfInBounds_toArray, List.set_cons_zero, List.set_cons_succ]
  refine wpAnyH_take (i := 2) (oi := ⟨some 45, _, _, _, _, _⟩) (v := ?_) rfl (by kernel_rfl) (by kernel_rfl) (by kernel_rfl) (fun _ _ _ h => h) (Or.inl ⟨by rfl, ?_⟩) (by assumption) ?_
  rotate_left 1
  · intro w hSw
    try dsimp only at hSw
    go_simp <;> with_reducible rfl
  try simp only [Act.put, List.setIfInBounds_toArray, List.set_cons_zero, List.set_cons_succ]
  refine wpAnyH_take (i := 3) (oi := ⟨some 46, _, _, _, _, _⟩) (v := ?_) rfl (by kernel_rfl) (by kernel_rfl) (by kernel_rfl) (fun _ _ _ h => h) (Or.inl ⟨by rfl, ?_⟩) (by assumption) ?_
  rotate_left 1
  · intro w hSw
    try dsimp only at hSw
    go_simp <;> with_reducible rfl
  try simp only [Act.put, List.setIfInBounds_toArray, List.set_cons_zero, List.set_cons_succ]
  refine wpAnyH_ready (rs := [4, 5]) (by kernel_rfl) (by simp) ?_
  refine AllReadyH.cons (o := ⟨some 47, _, _, _, _, _⟩) rfl (fun K hK => ?_) ?_
  · clear hHeld
    go_simp
    refine hK.out _ _ (by trivial) (fun hHeld => ?_)
    clear hK K
    try simp only [Act.put, List.setIfInBounds_toArray, List.set_cons_zero, List.set_cons_succ]
    refine wpAnyH_ready (rs := [5]) (by kernel_rfl) (by simp) ?_
    refine AllReadyH.cons (o := ⟨some 48, _, _, _, _, _⟩) rfl (fun K hK => ?_) ?_
    · clear hHeld
      go_simp
      refine hK.out _ _ (by trivial) (fun hHeld => ?_)
      clear hK K
      try simp only [Act.put, List.setIfInBounds_toArray, List.set_cons_zero, List.set_cons_succ]
      refine wpAnyH_ready (rs := [6]) (by kernel_rfl) (by simp) ?_
      refine AllReadyH.cons (o := ⟨some 49, _, _, _, _, _⟩) rfl (fun K hK => ?_) ?_
      · clear hHeld
        go_simp
        refine hK.out _ _ (by trivial) (fun hHeld => ?_)
        clear hK K
        try simp only [Act.put, List.setIfInBounds_toArray, List.set_cons_zero, List.set_cons_succ]
        refine wpAnyH_ready (rs := [7]) (by kernel_rfl) (by simp) ?_
        refine AllReadyH.cons (o := ⟨some 50, _, _, _, _, _⟩) rfl (fun K hK => ?_) ?_
        · clear hHeld
          refine step_appendK rfl (.tmp 47) (.tmp 49) 25 (by rfl) B 77 ip (.agg #[.int .u8 0, .int .i64 0, .slice none 0 0]) 3 40 Tryz.underlying25 HI.out.1 HI.out.2.1 HI.out.2.2.1 HI.out.2.2.2 rfl (by decide) (.slice A nn cc) nn xs (by rfl) HOnA.out [.int .u8 (p.letter : Int), .int .i64 p.worth, .slice Aw p.ways.length cw] rfl w3.heap.size 77 (by rfl) HblkA.out ?h1 ?h2 ?h3 ?h4 ?_
          case h1 => simp [Value.oneCell']
          case h2 => unfold maxLen; omega
          case h3 => omega
          case h4 => have := Hsz3.out; simp; omega
          intro g8 c8 w8 hown8 hO8 hg8
          have HB8 := hide (HBA.out.only hO8 (fun h => HneA.out b h rfl))
          have yy := (Blk.rules HB8.out)
          obtain ⟨k0, k1, k2, k3, k4, k5, k6, k7, k8, k9, k10, k11, k12⟩ := yy
          have kf6 := Blk.free HB8.out 6
          refine hK.out _ _ (by trivial) (fun hHeld => ?_)
          clear hK K
          try simp only [Act.put, List.setIfInBounds_toArray, List.set_cons_zero, List.set_cons_succ]
          refine wpAnyH_take (i := 8) (oi := ⟨some 51, _, _, _, _, _⟩) (v := ?_) rfl (by kernel_rfl) (by kernel_rfl) (by kernel_rfl) (fun _ _ _ h => h) (Or.inl ⟨by rfl, ?_⟩) (by assumption) ?_
          rotate_left 1
          · intro w hSw
            try dsimp only at hSw
            go_simp <;> with_reducible rfl
          try simp only [Act.put, List.setIfInBounds_toArray, List.set_cons_zero, List.set_cons_succ]
          refine wpAnyH_take (i := 9) (oi := ⟨some 52, _, _, _, _, _⟩) (v := ?_) rfl (by kernel_rfl) (by kernel_rfl) (by kernel_rfl) (fun _ _ _ h => h) (Or.inl ⟨by rfl, ?_⟩) (by assumption) ?_
          rotate_left 1
          · intro w hSw
            try dsimp only at hSw
            go_simp <;> with_reducible rfl
          try simp only [Act.put, List.setIfInBounds_toArray, List.set_cons_zero, List.set_cons_succ]
          refine wpAnyH_ready (rs := [10]) (by kernel_rfl) (by simp) ?_
          refine AllReadyH.cons (o := ⟨none, _, _, _, _, _⟩) rfl (fun K hK => ?_) ?_
          · clear hHeld
            go_simp
            refine hK.out _ _ (by trivial) (fun hHeld => ?_)
            clear hK K
            try simp only [Act.put]
            refine wpAnyH_done (by kernel_rfl) ?_ _
            have HB9 := hide (show Blk (w8.setCell ⟨b, 6, none⟩ (.slice (some ⟨g8, 0, none⟩) (nn + 1) c8)) b 27 #[.int .i64 w, .int .i64 h, .string c, .int .i64 t, .string h0, .string h1, .slice (some ⟨g8, 0, none⟩) (nn + 1) c8, .bool dr, .int .u8 (lo : Int), .int .i64 li, .int .u8 (re : Int), .bool st, .int .i64 pl] from Blk.set_ HB8.out 6 _)
            have HO9 := hide (((HOA.out.trans' hO8 (fun k _ h => .inr h)).setCell (p := ⟨b, 6, none⟩) (.inl (.inl rfl)) (.slice (some ⟨g8, 0, none⟩) (nn + 1) c8)))
            have HN9 := hide (ownsRow_only hown8 ((Only.refl (fun x => x = b) w8).setCell (p := ⟨b, 6, none⟩) (.inl rfl) (.slice (some ⟨g8, 0, none⟩) (nn + 1) c8)) (fun k hk e => by have := (hown8.lt k hk).1; omega))
            have HW9 := hide (ownsRow_only (ownsRow_only HWaA.out hO8 (fun k hk h => HwaN.out k hk h)) ((Only.refl (fun x => x = b) w8).setCell (p := ⟨b, 6, none⟩) (.inl rfl) (.slice (some ⟨g8, 0, none⟩) (nn + 1) c8)) (fun k hk e => by have := (HWaA.out.lt k hk).1; have := Hbw.out; omega))
            have HG := hide (show (Value.slice (some ⟨g8, 0, none⟩) (nn + 1) c8).ownBlock = (Value.slice A nn cc).ownBlock ∨ ∃ g, (Value.slice (some ⟨g8, 0, none⟩) (nn + 1) c8).ownBlock = some g ∧ W.heap.size ≤ g ∧ ∀ k, (Value.slice Aw p.ways.length cw).ownBlock = some k → k < g from by
              rcases hg8 with h | h
              · exact .inl h.symm
              · refine .inr ⟨g8, rfl, ?_, fun k hk => ?_⟩
                · rw [h]; exact HOA.out.size
                · rw [h]; exact (HWaA.out.lt k hk).2)
            clear hown8 hO8 hg8 k0 k1 k2 k3 k4 k5 k6 k7 k8 k9 k10 k11 k12 kf6 hHeld
            go_wp2_with fail
            go_ret
            exact ⟨p, ok, .slice (some ⟨g8, 0, none⟩) (nn + 1) c8, .slice Aw p.ways.length cw, rfl, Hpp.out, HB9.out, HN9.out, HW9.out, HG.out, HO9.out⟩
          exact AllReadyH.nil
        exact AllReadyH.nil
      exact AllReadyH.nil
    exact AllReadyH.nil
  refine AllReadyH.cons (o := ⟨some 48, _, _, _, _, _⟩) rfl (fun K hK => ?_) ?_
  · clear hHeld
    go_simp
    refine hK.out _ _ (by trivial) (fun hHeld => ?_)
    clear hK K
    try simp only [Act.put, List.setIfInBounds_toArray, List.set_cons_zero, List.set_cons_succ]
    refine wpAnyH_ready (rs := [4, 6]) (by kernel_rfl) (by simp) ?_
    refine AllReadyH.cons (o := ⟨some 47, _, _, _, _, _⟩) rfl (fun K hK => ?_) ?_
    · clear hHeld
      go_simp
      refine hK.out _ _ (by trivial) (fun hHeld => ?_)
      clear hK K
      try simp only [Act.put, List.setIfInBounds_toArray, List.set_cons_zero, List.set_cons_succ]
      refine wpAnyH_ready (rs := [6]) (by kernel_rfl) (by simp) ?_
      refine AllReadyH.cons (o := ⟨some 49, _, _, _, _, _⟩) rfl (fun K hK => ?_) ?_
      · clear hHeld
        go_simp
        refine hK.out _ _ (by trivial) (fun hHeld => ?_)
        clear hK K
        try simp only [Act.put, List.setIfInBounds_toArray, List.set_cons_zero, List.set_cons_succ]
        refine wpAnyH_ready (rs := [7]) (by kernel_rfl) (by simp) ?_
        refine AllReadyH.cons (o := ⟨some 50, _, _, _, _, _⟩) rfl (fun K hK => ?_) ?_
        · clear hHeld
          refine step_appendK rfl (.tmp 47) (.tmp 49) 25 (by rfl) B 77 ip (.agg #[.int .u8 0, .int .i64 0, .slice none 0 0]) 3 40 Tryz.underlying25 HI.out.1 HI.out.2.1 HI.out.2.2.1 HI.out.2.2.2 rfl (by decide) (.slice A nn cc) nn xs (by rfl) HOnA.out [.int .u8 (p.letter : Int), .int .i64 p.worth, .slice Aw p.ways.length cw] rfl w3.heap.size 77 (by rfl) HblkA.out ?h1 ?h2 ?h3 ?h4 ?_
          case h1 => simp [Value.oneCell']
          case h2 => unfold maxLen; omega
          case h3 => omega
          case h4 => have := Hsz3.out; simp; omega
          intro g8 c8 w8 hown8 hO8 hg8
          have HB8 := hide (HBA.out.only hO8 (fun h => HneA.out b h rfl))
          have yy := (Blk.rules HB8.out)
          obtain ⟨k0, k1, k2, k3, k4, k5, k6, k7, k8, k9, k10, k11, k12⟩ := yy
          have kf6 := Blk.free HB8.out 6
          refine hK.out _ _ (by trivial) (fun hHeld => ?_)
          clear hK K
          try simp only [Act.put, List.setIfInBounds_toArray, List.set_cons_zero, List.set_cons_succ]
          refine wpAnyH_take (i := 8) (oi := ⟨some 51, _, _, _, _, _⟩) (v := ?_) rfl (by kernel_rfl) (by kernel_rfl) (by kernel_rfl) (fun _ _ _ h => h) (Or.inl ⟨by rfl, ?_⟩) (by assumption) ?_
          rotate_left 1
          · intro w hSw
            try dsimp only at hSw
            go_simp <;> with_reducible rfl
          try simp only [Act.put, List.setIfInBounds_toArray, List.set_cons_zero, List.set_cons_succ]
          refine wpAnyH_take (i := 9) (oi := ⟨some 52, _, _, _, _, _⟩) (v := ?_) rfl (by kernel_rfl) (by kernel_rfl) (by kernel_rfl) (fun _ _ _ h => h) (Or.inl ⟨by rfl, ?_⟩) (by assumption) ?_
          rotate_left 1
          · intro w hSw
            try dsimp only at hSw
            go_simp <;> with_reducible rfl
          try simp only [Act.put, List.setIfInBounds_toArray, List.set_cons_zero, List.set_cons_succ]
          refine wpAnyH_ready (rs := [10]) (by kernel_rfl) (by simp) ?_
          refine AllReadyH.cons (o := ⟨none, _, _, _, _, _⟩) rfl (fun K hK => ?_) ?_
          · clear hHeld
            go_simp
            refine hK.out _ _ (by trivial) (fun hHeld => ?_)
            clear hK K
            try simp only [Act.put]
            refine wpAnyH_done (by kernel_rfl) ?_ _
            have HB9 := hide (show Blk (w8.setCell ⟨b, 6, none⟩ (.slice (some ⟨g8, 0, none⟩) (nn + 1) c8)) b 27 #[.int .i64 w, .int .i64 h, .string c, .int .i64 t, .string h0, .string h1, .slice (some ⟨g8, 0, none⟩) (nn + 1) c8, .bool dr, .int .u8 (lo : Int), .int .i64 li, .int .u8 (re : Int), .bool st, .int .i64 pl] from Blk.set_ HB8.out 6 _)
            have HO9 := hide (((HOA.out.trans' hO8 (fun k _ h => .inr h)).setCell (p := ⟨b, 6, none⟩) (.inl (.inl rfl)) (.slice (some ⟨g8, 0, none⟩) (nn + 1) c8)))
            have HN9 := hide (ownsRow_only hown8 ((Only.refl (fun x => x = b) w8).setCell (p := ⟨b, 6, none⟩) (.inl rfl) (.slice (some ⟨g8, 0, none⟩) (nn + 1) c8)) (fun k hk e => by have := (hown8.lt k hk).1; omega))
            have HW9 := hide (ownsRow_only (ownsRow_only HWaA.out hO8 (fun k hk h => HwaN.out k hk h)) ((Only.refl (fun x => x = b) w8).setCell (p := ⟨b, 6, none⟩) (.inl rfl) (.slice (some ⟨g8, 0, none⟩) (nn + 1) c8)) (fun k hk e => by have := (HWaA.out.lt k hk).1; have := Hbw.out; omega))
            have HG := hide (show (Value.slice (some ⟨g8, 0, none⟩) (nn + 1) c8).ownBlock = (Value.slice A nn cc).ownBlock ∨ ∃ g, (Value.slice (some ⟨g8, 0, none⟩) (nn + 1) c8).ownBlock = some g ∧ W.heap.size ≤ g ∧ ∀ k, (Value.slice Aw p.ways.length cw).ownBlock = some k → k < g from by
              rcases hg8 with h | h
              · exact .inl h.symm
              · refine .inr ⟨g8, rfl, ?_, fun k hk => ?_⟩
                · rw [h]; exact HOA.out.size
                · rw [h]; exact (HWaA.out.lt k hk).2)
            clear hown8 hO8 hg8 k0 k1 k2 k3 k4 k5 k6 k7 k8 k9 k10 k11 k12 kf6 hHeld
            go_wp2_with fail
            go_ret
            exact ⟨p, ok, .slice (some ⟨g8, 0, none⟩) (nn + 1) c8, .slice Aw p.ways.length cw, rfl, Hpp.out, HB9.out, HN9.out, HW9.out, HG.out, HO9.out⟩
          exact AllReadyH.nil
        exact AllReadyH.nil
      exact AllReadyH.nil
    refine AllReadyH.cons (o := ⟨some 49, _, _, _, _, _⟩) rfl (fun K hK => ?_) ?_
    · clear hHeld
      go_simp
      refine hK.out _ _ (by trivial) (fun hHeld => ?_)
      clear hK K
      try simp only [Act.put, List.setIfInBounds_toArray, List.set_cons_zero, List.set_cons_succ]
      refine wpAnyH_ready (rs := [4]) (by kernel_rfl) (by simp) ?_
      refine AllReadyH.cons (o := ⟨some 47, _, _, _, _, _⟩) rfl (fun K hK => ?_) ?_
      · clear hHeld
        go_simp
        refine hK.out _ _ (by trivial) (fun hHeld => ?_)
        clear hK K
        try simp only [Act.put, List.setIfInBounds_toArray, List.set_cons_zero, List.set_cons_succ]
        refine wpAnyH_ready (rs := [7]) (by kernel_rfl) (by simp) ?_
        refine AllReadyH.cons (o := ⟨some 50, _, _, _, _, _⟩) rfl (fun K hK => ?_) ?_
        · clear hHeld
          refine step_appendK rfl (.tmp 47) (.tmp 49) 25 (by rfl) B 77 ip (.agg #[.int .u8 0, .int .i64 0, .slice none 0 0]) 3 40 Tryz.underlying25 HI.out.1 HI.out.2.1 HI.out.2.2.1 HI.out.2.2.2 rfl (by decide) (.slice A nn cc) nn xs (by rfl) HOnA.out [.int .u8 (p.letter : Int), .int .i64 p.worth, .slice Aw p.ways.length cw] rfl w3.heap.size 77 (by rfl) HblkA.out ?h1 ?h2 ?h3 ?h4 ?_
          case h1 => simp [Value.oneCell']
          case h2 => unfold maxLen; omega
          case h3 => omega
          case h4 => have := Hsz3.out; simp; omega
          intro g8 c8 w8 hown8 hO8 hg8
          have HB8 := hide (HBA.out.only hO8 (fun h => HneA.out b h rfl))
          have yy := (Blk.rules HB8.out)
          obtain ⟨k0, k1, k2, k3, k4, k5, k6, k7, k8, k9, k10, k11, k12⟩ := yy
          have kf6 := Blk.free HB8.out 6
          refine hK.out _ _ (by trivial) (fun hHeld => ?_)
          clear hK K
          try simp only [Act.put, List.setIfInBounds_toArray, List.set_cons_zero, List.set_cons_succ]
          refine wpAnyH_take (i := 8) (oi := ⟨some 51, _, _, _, _, _⟩) (v := ?_) rfl (by kernel_rfl) (by kernel_rfl) (by kernel_rfl) (fun _ _ _ h => h) (Or.inl ⟨by rfl, ?_⟩) (by assumption) ?_
          rotate_left 1
          · intro w hSw
            try dsimp only at hSw
            go_simp <;> with_reducible rfl
          try simp only [Act.put, List.setIfInBounds_toArray, List.set_cons_zero, List.set_cons_succ]
          refine wpAnyH_take (i := 9) (oi := ⟨some 52, _, _, _, _, _⟩) (v := ?_) rfl (by kernel_rfl) (by kernel_rfl) (by kernel_rfl) (fun _ _ _ h => h) (Or.inl ⟨by rfl, ?_⟩) (by assumption) ?_
          rotate_left 1
          · intro w hSw
            try dsimp only at hSw
            go_simp <;> with_reducible rfl
          try simp only [Act.put, List.setIfInBounds_toArray, List.set_cons_zero, List.set_cons_succ]
          refine wpAnyH_ready (rs := [10]) (by kernel_rfl) (by simp) ?_
          refine AllReadyH.cons (o := ⟨none, _, _, _, _, _⟩) rfl (fun K hK => ?_) ?_
          · clear hHeld
            go_simp
            refine hK.out _ _ (by trivial) (fun hHeld => ?_)
            clear hK K
            try simp only [Act.put]
            refine wpAnyH_done (by kernel_rfl) ?_ _
            have HB9 := hide (show Blk (w8.setCell ⟨b, 6, none⟩ (.slice (some ⟨g8, 0, none⟩) (nn + 1) c8)) b 27 #[.int .i64 w, .int .i64 h, .string c, .int .i64 t, .string h0, .string h1, .slice (some ⟨g8, 0, none⟩) (nn + 1) c8, .bool dr, .int .u8 (lo : Int), .int .i64 li, .int .u8 (re : Int), .bool st, .int .i64 pl] from Blk.set_ HB8.out 6 _)
            have HO9 := hide (((HOA.out.trans' hO8 (fun k _ h => .inr h)).setCell (p := ⟨b, 6, none⟩) (.inl (.inl rfl)) (.slice (some ⟨g8, 0, none⟩) (nn + 1) c8)))
            have HN9 := hide (ownsRow_only hown8 ((Only.refl (fun x => x = b) w8).setCell (p := ⟨b, 6, none⟩) (.inl rfl) (.slice (some ⟨g8, 0, none⟩) (nn + 1) c8)) (fun k hk e => by have := (hown8.lt k hk).1; omega))
            have HW9 := hide (ownsRow_only (ownsRow_only HWaA.out hO8 (fun k hk h => HwaN.out k hk h)) ((Only.refl (fun x => x = b) w8).setCell (p := ⟨b, 6, none⟩) (.inl rfl) (.slice (some ⟨g8, 0, none⟩) (nn + 1) c8)) (fun k hk e => by have := (HWaA.out.lt k hk).1; have := Hbw.out; omega))
            have HG := hide (show (Value.slice (some ⟨g8, 0, none⟩) (nn + 1) c8).ownBlock = (Value.slice A nn cc).ownBlock ∨ ∃ g, (Value.slice (some ⟨g8, 0, none⟩) (nn + 1) c8).ownBlock = some g ∧ W.heap.size ≤ g ∧ ∀ k, (Value.slice Aw p.ways.length cw).ownBlock = some k → k < g from by
              rcases hg8 with h | h
              · exact .inl h.symm
              · refine .inr ⟨g8, rfl, ?_, fun k hk => ?_⟩
                · rw [h]; exact HOA.out.size
                · rw [h]; exact (HWaA.out.lt k hk).2)
            clear hown8 hO8 hg8 k0 k1 k2 k3 k4 k5 k6 k7 k8 k9 k10 k11 k12 kf6 hHeld
            go_wp2_with fail
            go_ret
            exact ⟨p, ok, .slice (some ⟨g8, 0, none⟩) (nn + 1) c8, .slice Aw p.ways.length cw, rfl, Hpp.out, HB9.out, HN9.out, HW9.out, HG.out, HO9.out⟩
          exact AllReadyH.nil
        exact AllReadyH.nil
      exact AllReadyH.nil
    exact AllReadyH.nil
  exact AllReadyH.nil
end Go.Proofs.YtcdfeaodfmfdnaaGreatDoor
