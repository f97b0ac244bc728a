/- The reader of a position's text, whole: walked. -/
import Derived.Test.YtcdfeaodfmfdnaaGreatDoorBxPosQ
namespace Go.Proofs.YtcdfeaodfmfdnaaGreatDoor
open Go.RowKit

theorem setRow_blk6 {w : World} {g : Nat} {t : TypeId} {old vs : Array Value} (h : Blk w g t old) : Blk (w.setRow g vs) g t vs := setRow_heap _ _ _ _ _ _ h
theorem only_setRow {S : Nat → Prop} {W w : World} {g : Nat} {vs : Array Value} (h : Only S W w) (hg : W.heap.size ≤ g) : Only S W (w.setRow g vs) :=
  ⟨h.os, h.tape, h.output, by have := h.size; simpa [World.setRow] using this, fun k hk hn => by rw [setRow_other _ _ _ _ (by omega)]; exact h.block k hk hn⟩
theorem rd_setRow {w : World} {b g : Nat} {s : ByteArray} {k : Nat} {vs : Array Value} (h : RdAt w b s k) (hb : b ≠ g) : RdAt (w.setRow g vs) b s k := (setRow_other _ _ _ _ hb).trans h
theorem Blk.six_ {w : World} {g : Nat} {t : TypeId} {a b c d e f : Value} (h : Blk w g t #[a, b, c, d, e, f]) :
    w.cell? ⟨g, 0, none⟩ = some a ∧ w.cell? ⟨g, 1, none⟩ = some b ∧ w.cell? ⟨g, 2, none⟩ = some c ∧ w.cell? ⟨g, 3, none⟩ = some d ∧ w.cell? ⟨g, 4, none⟩ = some e ∧ w.cell? ⟨g, 5, none⟩ = some f ∧
      ∀ i, w.frozen? ⟨g, i, none⟩ = false := ⟨h.cellv rfl, h.cellv rfl, h.cellv rfl, h.cellv rfl, h.cellv rfl, h.cellv rfl, h.free⟩
/-- what position answers -/
def PosOut (s : ByteArray) (b : Nat) (W : World) (e : Ending) (w' : World) : Prop :=
  Only (fun x => x = b) W w' ∧ ((∃ k a0 a1 a2 a3 a4 a5, FailB s.data.toList k ∧ e = .returned (.tuple #[.agg #[.int .i64 a0, .int .i64 a1, .string a2, .int .i64 a3, .string a4, .string a5], .bool false]) ∧ RdAt w' b s k) ∨
    (∃ st p, runB s.data.toList = some st ∧ accB st = true ∧ p = finB st ∧ e = .returned (.tuple #[.agg #[.int .i64 p.w, .int .i64 p.h, .string p.cells, .int .i64 p.turn, .string p.h0, .string p.h1], .bool true]) ∧ RdAt w' b s s.size))
set_option maxHeartbeats 16000000 in
set_option maxRecDepth 100000 in
theorem position_read (b : Nat) (s : ByteArray) (W : World) (h : RdAt W b s 0) (hs : s.size ≤ 9223372036854775806) :
    Calls Tryz.prog 115 #[.pointer (some ⟨b, 0, none⟩)] W (PosOut s b W) := by
  have hbw : b < W.heap.size := h.lt
  have hr0 : RdAt (W.alloc (.cells #[.int .i64 0, .int .i64 0, .string ⟨#[]⟩, .int .i64 0, .string ⟨#[]⟩, .string ⟨#[]⟩] 24)) b s 0 := Blk.alloc h _
  have Hrw := hide (rows_read b s _ hr0 hs)
  have hz0 := Blk.new W 24 #[.int .i64 0, .int .i64 0, .string ⟨#[]⟩, .int .i64 0, .string ⟨#[]⟩, .string ⟨#[]⟩]
  have Hz0 := hide hz0
  have hlen : s.data.toList.length = s.size := by simp
  have Hlen := hide hlen
  clear h hr0 hz0 hlen
  go_enter Tryz.func115, Tryz.ntmps115
  go_upto_region 1 with (fail)
  have Ho0 := hide (show Only (fun x => x = b) W (W.alloc (.cells #[.int .i64 0, .int .i64 0, .string ⟨#[]⟩, .int .i64 0, .string ⟨#[]⟩, .string ⟨#[]⟩] 24)) from (Only.refl _ _).alloc _)
  have hsz0 : (W.alloc (.cells #[.int .i64 0, .int .i64 0, .string ⟨#[]⟩, .int .i64 0, .string ⟨#[]⟩, .string ⟨#[]⟩] 24)).heap.size = W.heap.size + 1 := World.size_alloc _ _
  obtain ⟨w0, hw0⟩ : ∃ w0, W.alloc (.cells #[.int .i64 0, .int .i64 0, .string ⟨#[]⟩, .int .i64 0, .string ⟨#[]⟩, .string ⟨#[]⟩] 24) = w0 := ⟨_, rfl⟩
  rw [hw0] at Hrw Hz0 Ho0 hsz0 ⊢
  clear hw0
  go_upto_region 2 with (go_at_call 153; refine Hrw.out.mono ?_; rintro e w1 ⟨ho1, ⟨k, v, hf, rfl, hr1⟩ | ⟨k, rs, v, hk, hrun, rfl, hr1, hown⟩⟩)
  · have w1Z : Blk w1 W.heap.size 24 #[.int .i64 0, .int .i64 0, .string ⟨#[]⟩, .int .i64 0, .string ⟨#[]⟩, .string ⟨#[]⟩] := Hz0.out.only ho1 (by omega)
    have HO1 := hide (Ho0.out.trans ho1)
    have HR1 := hide hr1
    have HF1 := hide hf
    clear ho1 hr1 hf
    go_upto_region 3 with (fail)
    obtain ⟨z0, z1, z2, z3, z4, z5, -⟩ := w1Z.six_
    refine wp_region_lit ?_
    refine wpList_plain rfl (fun K hK => ?_)
    go_simp
    refine hK _ _ ?_
    clear hK K
    refine wpList_plain rfl (fun K hK => ?_)
    refine wp_store_row 24 (.tmp 2) (.tmp 12) rfl W.heap.size #[.int .i64 0, .int .i64 0, .string ⟨#[]⟩, .int .i64 0, .string ⟨#[]⟩, .string ⟨#[]⟩] rfl rfl 24 _ w1Z (by kernel_rfl) (by simp) (by simp [Value.oneCell']) ?_
    refine hK _ _ ?_
    clear hK K z0 z1 z2 z3 z4 z5
    have hzz := setRow_blk6 (vs := #[.int .i64 0, .int .i64 0, .string ⟨#[]⟩, .int .i64 0, .string ⟨#[]⟩, .string ⟨#[]⟩]) w1Z
    have HX := hide (only_setRow (g := W.heap.size) (vs := #[.int .i64 0, .int .i64 0, .string ⟨#[]⟩, .int .i64 0, .string ⟨#[]⟩, .string ⟨#[]⟩]) HO1.out (Nat.le_refl _))
    have HR := hide (rd_setRow (vs := #[.int .i64 0, .int .i64 0, .string ⟨#[]⟩, .int .i64 0, .string ⟨#[]⟩, .string ⟨#[]⟩]) HR1.out (show b ≠ W.heap.size by omega))
    have HF := hide (HF1.out)
    obtain ⟨wz, hwz⟩ : ∃ wz, World.setRow w1 W.heap.size #[.int .i64 0, .int .i64 0, .string ⟨#[]⟩, .int .i64 0, .string ⟨#[]⟩, .string ⟨#[]⟩] = wz := ⟨_, rfl⟩
    rw [hwz] at hzz HX HR ⊢
    clear hwz
    obtain ⟨z0, z1, z2, z3, z4, z5, -⟩ := hzz.six_
    go_wp2_with fail
    refine bodyPost_ret (v := .tuple #[.agg #[.int .i64 0, .int .i64 0, .string ⟨#[]⟩, .int .i64 0, .string ⟨#[]⟩, .string ⟨#[]⟩], .bool false]) (by simp [results, Tryz.results115, go_sem, z0, z1, z2, z3, z4, z5]) rfl ⟨HX.out, .inl ⟨_, _, _, _, _, _, _, HF.out, rfl, HR.out⟩⟩
  · have hwf := (run_wf _ _ hrun).1
    have hne : 0 < rs.length := List.length_pos_iff.2 hwf.2
    have h8 := hwf.1.len
    obtain ⟨g, c, rfl, hbg, hnc, hgl, hrow, -⟩ := row_parts hown hne
    have Hrev := hide (rev_any w0.heap.size g c rs w1 hown hne h8)
    have Hz1 := hide (show Blk w1 W.heap.size 24 #[.int .i64 0, .int .i64 0, .string ⟨#[]⟩, .int .i64 0, .string ⟨#[]⟩, .string ⟨#[]⟩] from Hz0.out.only ho1 (by omega))
    have HO1 := hide (Ho0.out.trans ho1)
    have HR1 := hide hr1
    have Hrun := hide hrun
    have Hwf := hide hwf
    clear ho1 hr1 hrun hrow hwf hown
    go_upto_region 5 with (go_at_call 154; refine Hrev.out.mono ?_; rintro e w2 ⟨rfl, ho2, hc2⟩)
    have Hz2 := hide (Hz1.out.only ho2 (by omega))
    have Hr2 := hide (show RdAt w2 b s k from Blk.only HR1.out ho2 (by omega))
    have Ho2 := hide (show Only (fun x => x = b) W w2 from HO1.out.trans' ho2 (fun i hi hs => by omega))
    have Hg2 := hide (show g < w2.heap.size from Nat.lt_of_lt_of_le hgl ho2.size)
    obtain ⟨r0, hr0⟩ : ∃ r0, bytes (rs.reverse[0]'(by simpa using hne)) = r0 := ⟨_, rfl⟩
    have Hc0 := hide (show w2.cell? ⟨g, 0, none⟩ = some (.string r0) from by rw [hc2 0 hne, ← hr0]; rfl)
    have hr0s : (r0.size : Int) = (wid rs : Int) := by
      rw [← hr0, size_bytes, Hwf.out.1.wd _ (List.mem_reverse.1 (List.getElem_mem _))]
    have Hj := hide (join_any g rs.length c rs.reverse w2.drew (by simp) hnc (fun i hi => by
      have := hc2 i (by simpa using hi)
      exact this) Hg2.out (by simpa using h8) (fun a ha => by rw [Hwf.out.1.wd a (by simpa using ha)]; exact Hwf.out.1.w8))
    obtain ⟨wv, hwv⟩ : ∃ wv, (wid rs : Int) = wv := ⟨_, rfl⟩
    obtain ⟨hv, hhv⟩ : ∃ hv, (rs.length : Int) = hv := ⟨_, rfl⟩
    obtain ⟨cv, hcv⟩ : ∃ cv, bytes rs.reverse.flatten = cv := ⟨_, rfl⟩
    obtain ⟨nl, hnl⟩ : ∃ nl, rs.length = nl := ⟨_, rfl⟩
    have Hfin := hide (show ∀ t h0 h1, posL rs t h0 h1 = ⟨wv, hv, cv, if t then 1 else 0, bytes h0, bytes h1⟩ from fun t h0 h1 => by rw [← hwv, ← hhv, ← hcv]; rfl)
    rw [hwv] at hr0s
    rw [hnl] at hhv hne
    rw [hcv] at Hj
    rw [hnl] at Hj ⊢
    have hn0 : (0 : Int) < hv := by omega
    have hn1 : (0 : Int) ≤ hv := by omega
    have HS := hide (show ∀ w' : World, w' = w2.drew → w'.cell? ⟨g, 0, none⟩ = some (.string r0) from fun w' h => by rw [h]; exact Hc0.out)
    clear ho2 hc2 hr0 hwv hcv hnl Hrev Hz1 HO1 HR1
    refine wp_region_held_drew (S := fun w' : World => (w'.cell? ⟨g, 0, none⟩ = some (.string r0))) (by kernel_rfl) (HS.out _ rfl) (fun hHeld => ?_)
    refine wpAnyH_take (i := 0) (oi := ⟨some 15, _, _, _, _, _⟩) (v := ?_) rfl (by kernel_rfl) (by kernel_rfl) (by kernel_rfl) (fun _ _ _ h => h) (Or.inl ⟨by rfl, ?_⟩) (by assumption) ?_
    rotate_left 1
    · intro w hSw
      try dsimp only at hSw
      go_simp <;> with_reducible rfl
    try simp only [Act.put, List.setIfInBounds_toArray, List.set_cons_zero, List.set_cons_succ]
    refine wpAnyH_take (i := 1) (oi := ⟨some 16, _, _, _, _, _⟩) (v := ?_) rfl (by kernel_rfl) (by kernel_rfl) (by kernel_rfl) (fun _ _ _ h => h) (Or.inl ⟨by rfl, ?_⟩) (by assumption) ?_
    rotate_left 1
    · intro w hSw
      try dsimp only at hSw
      go_simp <;> with_reducible rfl
    try simp only [Act.put, List.setIfInBounds_toArray, List.set_cons_zero, List.set_cons_succ]
    refine wpAnyH_take (i := 2) (oi := ⟨some 17, _, _, _, _, _⟩) (v := ?_) rfl (by kernel_rfl) (by kernel_rfl) (by kernel_rfl) (fun _ _ _ h => h) (Or.inl ⟨by rfl, ?_⟩) (by assumption) ?_
    rotate_left 1
    · intro w hSw
      try dsimp only at hSw
      go_simp <;> with_reducible rfl
    try simp only [Act.put, List.setIfInBounds_toArray, List.set_cons_zero, List.set_cons_succ]
    refine wpAnyH_take (i := 3) (oi := ⟨some 18, _, _, _, _, _⟩) (v := ?_) rfl (by kernel_rfl) (by kernel_rfl) (by kernel_rfl) (fun _ _ _ h => h) (Or.inl ⟨by rfl, ?_⟩) (by assumption) ?_
    rotate_left 1
    · intro w hSw
      try dsimp only at hSw
      go_simp <;> with_reducible rfl
    try simp only [Act.put, List.setIfInBounds_toArray, List.set_cons_zero, List.set_cons_succ]
    refine wpAnyH_take (i := 4) (oi := ⟨some 19, _, _, _, _, _⟩) (v := ?_) rfl (by kernel_rfl) (by kernel_rfl) (by kernel_rfl) (fun _ _ _ h => h) (Or.inl ⟨by rfl, ?_⟩) (by assumption) ?_
    rotate_left 1
    · intro w hSw
      try dsimp only at hSw
      go_simp <;> with_reducible rfl
    try simp only [Act.put, List.setIfInBounds_toArray, List.set_cons_zero, List.set_cons_succ]
    refine wpAnyH_take (i := 5) (oi := ⟨some 20, _, _, _, _, _⟩) (v := ?_) rfl (by kernel_rfl) (by kernel_rfl) (by kernel_rfl) (fun _ _ _ h => h) (Or.inl ⟨by rfl, ?_⟩) (by assumption) ?_
    rotate_left 1
    · intro w hSw
      try dsimp only at hSw
      go_simp <;> with_reducible rfl
    try simp only [Act.put, List.setIfInBounds_toArray, List.set_cons_zero, List.set_cons_succ]
    refine wpAnyH_take (i := 6) (oi := ⟨some 21, _, _, _, _, _⟩) (v := ?_) rfl (by kernel_rfl) (by kernel_rfl) (by kernel_rfl) (fun _ _ _ h => h) (Or.inl ⟨by rfl, ?_⟩) (by assumption) ?_
    rotate_left 1
    · intro w hSw
      try dsimp only at hSw
      go_simp <;> with_reducible rfl
    try simp only [Act.put, List.setIfInBounds_toArray, List.set_cons_zero, List.set_cons_succ]
    refine wpAnyH_take (i := 8) (oi := ⟨some 23, _, _, _, _, _⟩) (v := ?_) rfl (by kernel_rfl) (by kernel_rfl) (by kernel_rfl) (fun _ _ _ h => h) (Or.inl ⟨by rfl, ?_⟩) (by assumption) ?_
    rotate_left 1
    · intro w hSw
      try dsimp only at hSw
      go_simp <;> with_reducible rfl
    try simp only [Act.put, List.setIfInBounds_toArray, List.set_cons_zero, List.set_cons_succ]
    refine wpAnyH_ready (rs := [7]) (by kernel_rfl) (by simp) ?_
    refine AllReadyH.cons (o := ⟨some 22, _, _, _, _, _⟩) rfl (fun K hK => ?_) ?_
    · clear hHeld
      go_simp
      go_at_call 32
      refine Hj.out.mono ?_
      rintro e w3 ⟨rfl, hw3⟩
      have hz3 : Blk w3 W.heap.size 24 #[.int .i64 0, .int .i64 0, .string ⟨#[]⟩, .int .i64 0, .string ⟨#[]⟩, .string ⟨#[]⟩] := Blk.below (show Blk w2.drew W.heap.size 24 #[.int .i64 0, .int .i64 0, .string ⟨#[]⟩, .int .i64 0, .string ⟨#[]⟩, .string ⟨#[]⟩] from Hz2.out) hw3 (Blk.lt (show Blk w2.drew W.heap.size 24 #[.int .i64 0, .int .i64 0, .string ⟨#[]⟩, .int .i64 0, .string ⟨#[]⟩, .string ⟨#[]⟩] from Hz2.out))
      have Hz3 := hide hz3
      have Hr3 := hide (Blk.below (show RdAt w2.drew b s k from Hr2.out) hw3 (Blk.lt (show RdAt w2.drew b s k from Hr2.out)))
      have Ho3 := hide ((Ho2.out.drew).trans' (Only.of_below (S := fun _ => False) hw3 (fun i hi hb => by omega)) (fun _ _ hf => hf.elim))
      have HSb := hide (show ∀ w' : World, Only (fun x => x = W.heap.size) w3 w' → w'.cell? ⟨g, 0, none⟩ = some (.string r0) from fun w' h => by
        have h1 := h.block g (Nat.lt_of_lt_of_le Hg2.out hw3.size) (by omega)
        have h2 : w3.cell? ⟨g, 0, none⟩ = some (.string r0) := (hw3.cell (p := ⟨g, 0, none⟩) Hg2.out).trans (show w2.drew.cell? ⟨g, 0, none⟩ = some (.string r0) from Hc0.out)
        rw [← h2]
        simp only [World.cell?, h1])
      clear hz3 hw3
      try go_wp2_with fail
      refine hK.out _ _ (by first | exact HSb.out _ (Only.refl (fun x => x = W.heap.size) w3) | exact HSb.out _ ((Only.refl (fun x => x = W.heap.size) w3).setCell (p := ⟨W.heap.size, 0, none⟩) (.inl rfl) _) | exact HSb.out _ (((Only.refl (fun x => x = W.heap.size) w3).setCell (p := ⟨W.heap.size, 0, none⟩) (.inl rfl) _).setCell (p := ⟨W.heap.size, 1, none⟩) (.inl rfl) _) | exact HSb.out _ ((((Only.refl (fun x => x = W.heap.size) w3).setCell (p := ⟨W.heap.size, 0, none⟩) (.inl rfl) _).setCell (p := ⟨W.heap.size, 1, none⟩) (.inl rfl) _).setCell (p := ⟨W.heap.size, 2, none⟩) (.inl rfl) _)) (fun hHeld => ?_)
      clear hK K
      try simp only [Act.put, List.setIfInBounds_toArray, List.set_cons_zero, List.set_cons_succ]
      refine wpAnyH_ready (rs := [9]) (by kernel_rfl) (by simp) ?_
      refine AllReadyH.cons (o := ⟨none, _, _, _, _, _⟩) rfl (fun K hK => ?_) ?_
      · clear hHeld
        obtain ⟨z0, z1, z2, z3, z4, z5, zf⟩ := Hz3.out.six_
        have zf0 := zf 0
        clear zf
        go_simp
        refine hK.out _ _ (by first | exact HSb.out _ (Only.refl (fun x => x = W.heap.size) w3) | exact HSb.out _ ((Only.refl (fun x => x = W.heap.size) w3).setCell (p := ⟨W.heap.size, 0, none⟩) (.inl rfl) _) | exact HSb.out _ (((Only.refl (fun x => x = W.heap.size) w3).setCell (p := ⟨W.heap.size, 0, none⟩) (.inl rfl) _).setCell (p := ⟨W.heap.size, 1, none⟩) (.inl rfl) _) | exact HSb.out _ ((((Only.refl (fun x => x = W.heap.size) w3).setCell (p := ⟨W.heap.size, 0, none⟩) (.inl rfl) _).setCell (p := ⟨W.heap.size, 1, none⟩) (.inl rfl) _).setCell (p := ⟨W.heap.size, 2, none⟩) (.inl rfl) _)) (fun hHeld => ?_)
        clear hK K
        try simp only [Act.put]
        refine wpAnyH_take (i := 10) (oi := ⟨some 24, _, _, _, _, _⟩) (v := ?_) rfl (by kernel_rfl) (by kernel_rfl) (by kernel_rfl) (fun _ _ _ h => h) (Or.inl ⟨by rfl, ?_⟩) (by assumption) ?_
        rotate_left 1
        · intro w hSw
          try dsimp only at hSw
          go_simp <;> with_reducible rfl
        try simp only [Act.put, List.setIfInBounds_toArray, List.set_cons_zero, List.set_cons_succ]
        refine wpAnyH_ready (rs := [11]) (by kernel_rfl) (by simp) ?_
        refine AllReadyH.cons (o := ⟨none, _, _, _, _, _⟩) rfl (fun K hK => ?_) ?_
        · clear hHeld
          obtain ⟨z0, z1, z2, z3, z4, z5, zf⟩ := (Blk.set_ Hz3.out 0 (.int .i64 wv)).six_
          have zf1 := zf 1
          clear zf
          go_simp
          refine hK.out _ _ (by first | exact HSb.out _ (Only.refl (fun x => x = W.heap.size) w3) | exact HSb.out _ ((Only.refl (fun x => x = W.heap.size) w3).setCell (p := ⟨W.heap.size, 0, none⟩) (.inl rfl) _) | exact HSb.out _ (((Only.refl (fun x => x = W.heap.size) w3).setCell (p := ⟨W.heap.size, 0, none⟩) (.inl rfl) _).setCell (p := ⟨W.heap.size, 1, none⟩) (.inl rfl) _) | exact HSb.out _ ((((Only.refl (fun x => x = W.heap.size) w3).setCell (p := ⟨W.heap.size, 0, none⟩) (.inl rfl) _).setCell (p := ⟨W.heap.size, 1, none⟩) (.inl rfl) _).setCell (p := ⟨W.heap.size, 2, none⟩) (.inl rfl) _)) (fun hHeld => ?_)
          clear hK K
          try simp only [Act.put]
          refine wpAnyH_take (i := 12) (oi := ⟨some 25, _, _, _, _, _⟩) (v := ?_) rfl (by kernel_rfl) (by kernel_rfl) (by kernel_rfl) (fun _ _ _ h => h) (Or.inl ⟨by rfl, ?_⟩) (by assumption) ?_
          rotate_left 1
          · intro w hSw
            try dsimp only at hSw
            go_simp <;> with_reducible rfl
          try simp only [Act.put, List.setIfInBounds_toArray, List.set_cons_zero, List.set_cons_succ]
          refine wpAnyH_ready (rs := [13]) (by kernel_rfl) (by simp) ?_
          refine AllReadyH.cons (o := ⟨none, _, _, _, _, _⟩) rfl (fun K hK => ?_) ?_
          · clear hHeld
            obtain ⟨z0, z1, z2, z3, z4, z5, zf⟩ := (Blk.set_ (Blk.set_ Hz3.out 0 (.int .i64 wv)) 1 (.int .i64 hv)).six_
            have zf2 := zf 2
            clear zf
            go_simp
            refine hK.out _ _ (by first | exact HSb.out _ (Only.refl (fun x => x = W.heap.size) w3) | exact HSb.out _ ((Only.refl (fun x => x = W.heap.size) w3).setCell (p := ⟨W.heap.size, 0, none⟩) (.inl rfl) _) | exact HSb.out _ (((Only.refl (fun x => x = W.heap.size) w3).setCell (p := ⟨W.heap.size, 0, none⟩) (.inl rfl) _).setCell (p := ⟨W.heap.size, 1, none⟩) (.inl rfl) _) | exact HSb.out _ ((((Only.refl (fun x => x = W.heap.size) w3).setCell (p := ⟨W.heap.size, 0, none⟩) (.inl rfl) _).setCell (p := ⟨W.heap.size, 1, none⟩) (.inl rfl) _).setCell (p := ⟨W.heap.size, 2, none⟩) (.inl rfl) _)) (fun hHeld => ?_)
            clear hK K
            try simp only [Act.put]
            refine wpAnyH_done (by kernel_rfl) ?_ _
            have w4Z : Blk (((w3.setCell ⟨W.heap.size, 0, none⟩ (.int .i64 wv)).setCell ⟨W.heap.size, 1, none⟩ (.int .i64 hv)).setCell ⟨W.heap.size, 2, none⟩ (.string cv)) W.heap.size 24 #[.int .i64 wv, .int .i64 hv, .string cv, .int .i64 0, .string ⟨#[]⟩, .string ⟨#[]⟩] := Blk.set_ (Blk.set_ (Blk.set_ Hz3.out 0 _) 1 _) 2 _
            have HR4 := hide (show RdAt (((w3.setCell ⟨W.heap.size, 0, none⟩ (.int .i64 wv)).setCell ⟨W.heap.size, 1, none⟩ (.int .i64 hv)).setCell ⟨W.heap.size, 2, none⟩ (.string cv)) b s k from Blk.far (Blk.far (Blk.far Hr3.out (p := ⟨W.heap.size, 0, none⟩) (by simp only; omega) _) (p := ⟨W.heap.size, 1, none⟩) (by simp only; omega) _) (p := ⟨W.heap.size, 2, none⟩) (by simp only; omega) _)
            have HO4 := hide (((Ho3.out.setCell (p := ⟨W.heap.size, 0, none⟩) (.inr (Nat.le_refl _)) (.int .i64 wv)).setCell (p := ⟨W.heap.size, 1, none⟩) (.inr (Nat.le_refl _)) (.int .i64 hv)).setCell (p := ⟨W.heap.size, 2, none⟩) (.inr (Nat.le_refl _)) (.string cv))
            obtain ⟨w4, hw4⟩ : ∃ w4, ((w3.setCell ⟨W.heap.size, 0, none⟩ (.int .i64 wv)).setCell ⟨W.heap.size, 1, none⟩ (.int .i64 hv)).setCell ⟨W.heap.size, 2, none⟩ (.string cv) = w4 := ⟨_, rfl⟩
            rw [hw4] at w4Z HR4 HO4 ⊢
            clear hw4 hHeld Hz3 Hr3 Ho3 HSb
            have HRun := Hrun
            go_upto_region 7 with (go_at_call 155; (with_reducible refine (is_lit b s (k) 98 98 rfl w4 HR4.out hs).mono ?_); rintro e w5 ⟨ho5, ⟨hc5, rfl, hr5⟩ | ⟨hc5, rfl, hr5⟩⟩)
            · have w5Z := w4Z.only ho5 (by omega)
              have HR5 := hide hr5
              have HO5 := hide (HO4.out.trans ho5)
              have hk1 := in_len hc5
              have Hrt := hide (show runB (s.data.toList.take (k + 1)) = some (.turned rs true) from run_yes 98 Hrun.out hc5 rfl rfl)
              clear ho5 hr5 hc5
              obtain ⟨z0, z1, z2, z3, z4, z5, zf⟩ := w5Z.six_
              have zf3 := zf 3
              clear zf
              go_upto_region 10 with (fail)
              have w6Z : Blk (w5.setCell ⟨W.heap.size, 3, none⟩ (.int .i64 1)) W.heap.size 24 #[.int .i64 wv, .int .i64 hv, .string cv, .int .i64 1, .string ⟨#[]⟩, .string ⟨#[]⟩] := w5Z.set_ 3 (.int .i64 1)
              have HR6 := hide (show RdAt _ b s (k + 1) from Blk.far HR5.out (p := ⟨W.heap.size, 3, none⟩) (show b ≠ W.heap.size by omega) (.int .i64 1))
              have HO6 := hide (HO5.out.setCell (p := ⟨W.heap.size, 3, none⟩) (.inr (Nat.le_refl _)) (.int .i64 1))
              obtain ⟨w6, hw6⟩ : ∃ w6, w5.setCell ⟨W.heap.size, 3, none⟩ (.int .i64 1) = w6 := ⟨_, rfl⟩
              rw [hw6] at w6Z HR6 HO6 ⊢
              clear hw6 z0 z1 z2 z3 z4 z5 zf3 w5Z HR5 HO5
              go_upto_region 11 with (go_at_call 155; (with_reducible refine (is_lit b s (k + 1) 32 32 rfl w6 HR6.out hs).mono ?_); rintro e w7 ⟨ho7, ⟨hc7, rfl, hr7⟩ | ⟨hc7, rfl, hr7⟩⟩)
              · have w7Z := w6Z.only ho7 (by omega)
                have HR7 := hide hr7
                have HO7 := hide (HO6.out.trans ho7)
                have hk2 := in_len hc7
                have Hr7 := hide (show runB (s.data.toList.take (k + 1 + 1)) = some (.hand0 rs true []) from run_yes 32 Hrt.out hc7 rfl rfl)
                clear ho7 hr7 hc7 w6Z HR6 HO6 Hrt
                (with_reducible refine (hand0_read b s (k + 1 + 1) rs true w7 HR7.out hs hk2 Hr7.out).mono ?_)
                rintro e w8 ⟨ho8, k2, h0, ok0, hk2', rfl, hr8, hf8, hg8⟩
                have w8Z := w7Z.only ho8 (by omega)
                have HR8 := hide hr8
                have HO8 := hide (HO7.out.trans ho8)
                have HF8 := hide hf8
                have HG8 := hide hg8
                clear ho8 hr8 hf8 hg8 w7Z HR7 HO7 Hr7
                obtain ⟨z0, z1, z2, z3, z4, z5, zf⟩ := w8Z.six_
                have zf4 := zf 4
                clear zf
                go_upto_region 13 with (fail)
                have w9Z : Blk (w8.setCell ⟨W.heap.size, 4, none⟩ (.string (bytes h0))) W.heap.size 24 #[.int .i64 wv, .int .i64 hv, .string cv, .int .i64 1, .string (bytes h0), .string ⟨#[]⟩] := w8Z.set_ 4 (.string (bytes h0))
                have HR9 := hide (show RdAt _ b s k2 from Blk.far HR8.out (p := ⟨W.heap.size, 4, none⟩) (show b ≠ W.heap.size by omega) (.string (bytes h0)))
                have HO9 := hide (HO8.out.setCell (p := ⟨W.heap.size, 4, none⟩) (.inr (Nat.le_refl _)) (.string (bytes h0)))
                obtain ⟨w9, hw9⟩ : ∃ w9, w8.setCell ⟨W.heap.size, 4, none⟩ (.string (bytes h0)) = w9 := ⟨_, rfl⟩
                rw [hw9] at w9Z HR9 HO9 ⊢
                clear hw9 z0 z1 z2 z3 z4 z5 zf4 w8Z HR8 HO8
                cases ok0
                · go_upto_region 14 with (fail)
                  obtain ⟨z0, z1, z2, z3, z4, z5, -⟩ := w9Z.six_
                  refine wp_region_lit ?_
                  refine wpList_plain rfl (fun K hK => ?_)
                  go_simp
                  refine hK _ _ ?_
                  clear hK K
                  refine wpList_plain rfl (fun K hK => ?_)
                  refine wp_store_row 24 (.tmp 2) (.tmp 51) rfl W.heap.size #[.int .i64 wv, .int .i64 hv, .string cv, .int .i64 1, .string (bytes h0), .string ⟨#[]⟩] rfl rfl 24 _ w9Z (by kernel_rfl) (by simp) (by simp [Value.oneCell']) ?_
                  refine hK _ _ ?_
                  clear hK K z0 z1 z2 z3 z4 z5
                  have hzz := setRow_blk6 (vs := #[.int .i64 wv, .int .i64 hv, .string cv, .int .i64 1, .string (bytes h0), .string ⟨#[]⟩]) w9Z
                  have HX := hide (only_setRow (g := W.heap.size) (vs := #[.int .i64 wv, .int .i64 hv, .string cv, .int .i64 1, .string (bytes h0), .string ⟨#[]⟩]) HO9.out (Nat.le_refl _))
                  have HR := hide (rd_setRow (vs := #[.int .i64 wv, .int .i64 hv, .string cv, .int .i64 1, .string (bytes h0), .string ⟨#[]⟩]) HR9.out (show b ≠ W.heap.size by omega))
                  have HF := hide (HF8.out (by simp))
                  obtain ⟨wz, hwz⟩ : ∃ wz, World.setRow w9 W.heap.size #[.int .i64 wv, .int .i64 hv, .string cv, .int .i64 1, .string (bytes h0), .string ⟨#[]⟩] = wz := ⟨_, rfl⟩
                  rw [hwz] at hzz HX HR ⊢
                  clear hwz
                  obtain ⟨z0, z1, z2, z3, z4, z5, -⟩ := hzz.six_
                  go_wp2_with fail
                  refine bodyPost_ret (v := .tuple #[.agg #[.int .i64 wv, .int .i64 hv, .string cv, .int .i64 1, .string (bytes h0), .string ⟨#[]⟩], .bool false]) (by simp [results, Tryz.results115, go_sem, z0, z1, z2, z3, z4, z5]) rfl ⟨HX.out, .inl ⟨_, _, _, _, _, _, _, HF.out, rfl, HR.out⟩⟩
                · go_upto_region 14 with (go_at_call 155; (with_reducible refine (is_lit b s (k2) 47 47 rfl w9 HR9.out hs).mono ?_); rintro e w10 ⟨ho10, ⟨hc10, rfl, hr10⟩ | ⟨hc10, rfl, hr10⟩⟩)
                  · have w10Z := Blk.only w9Z ho10 (by omega)
                    have HR10 := hide hr10
                    have HO10 := hide (HO9.out.trans ho10)
                    have hk3 := in_len hc10
                    have Hr10 := hide ((HG8.out (by simp)).2 hc10)
                    clear ho10 hr10 hc10 w9Z HR9 HO9 HF8 HG8
                    (with_reducible refine (hand1_read b s (k2 + 1) rs true h0 w10 HR10.out hs hk3 Hr10.out).mono ?_)
                    rintro e w11 ⟨ho11, k3, h1, ok1, hk3', rfl, hr11, hf11, hg11⟩
                    have w11Z := w10Z.only ho11 (by omega)
                    have HR11 := hide hr11
                    have HO11 := hide (HO10.out.trans ho11)
                    have HF11 := hide hf11
                    have HG11 := hide hg11
                    clear ho11 hr11 hf11 hg11 w10Z HR10 HO10 Hr10
                    obtain ⟨z0, z1, z2, z3, z4, z5, zf⟩ := w11Z.six_
                    have zf5 := zf 5
                    clear zf
                    go_upto_region 16 with (fail)
                    have w13Z : Blk (w11.setCell ⟨W.heap.size, 5, none⟩ (.string (bytes h1))) W.heap.size 24 #[.int .i64 wv, .int .i64 hv, .string cv, .int .i64 1, .string (bytes h0), .string (bytes h1)] := w11Z.set_ 5 (.string (bytes h1))
                    have HR13 := hide (show RdAt _ b s k3 from Blk.far HR11.out (p := ⟨W.heap.size, 5, none⟩) (show b ≠ W.heap.size by omega) (.string (bytes h1)))
                    have HO13 := hide (HO11.out.setCell (p := ⟨W.heap.size, 5, none⟩) (.inr (Nat.le_refl _)) (.string (bytes h1)))
                    obtain ⟨w13, hw13⟩ : ∃ w13, w11.setCell ⟨W.heap.size, 5, none⟩ (.string (bytes h1)) = w13 := ⟨_, rfl⟩
                    rw [hw13] at w13Z HR13 HO13 ⊢
                    clear hw13 z0 z1 z2 z3 z4 z5 zf5 w11Z HR11 HO11
                    cases ok1
                    · have HF := hide (HF11.out (by simp))
                      clear HF11 HG11
                      have HS16 := hide (show ∀ w' : World, (w' = w13.drew ∨ w' = w13.drew.setRow W.heap.size #[.int .i64 wv, .int .i64 hv, .string cv, .int .i64 1, .string (bytes h0), .string (bytes h1)]) → (w'.cell? ⟨W.heap.size, 0, none⟩ = some (.int .i64 wv) ∧ w'.cell? ⟨W.heap.size, 1, none⟩ = some (.int .i64 hv) ∧ w'.cell? ⟨W.heap.size, 2, none⟩ = some (.string cv) ∧ w'.cell? ⟨W.heap.size, 3, none⟩ = some (.int .i64 1) ∧ w'.cell? ⟨W.heap.size, 4, none⟩ = some (.string (bytes h0)) ∧ w'.cell? ⟨W.heap.size, 5, none⟩ = some (.string (bytes h1)) ∧ w'.cell? ⟨b, 0, none⟩ = some (.string s) ∧ w'.cell? ⟨b, 1, none⟩ = some (.int .i64 (k3 : Int))) from fun w' h => by
                        rcases h with rfl | rfl
                        · obtain ⟨z0, z1, z2, z3, z4, z5, -⟩ := (show Blk w13.drew W.heap.size 24 #[.int .i64 wv, .int .i64 hv, .string cv, .int .i64 1, .string (bytes h0), .string (bytes h1)] from w13Z).six_
                          obtain ⟨r0, r1, -⟩ := (show RdAt w13.drew b s k3 from HR13.out).cells
                          exact ⟨z0, z1, z2, z3, z4, z5, r0, r1⟩
                        · obtain ⟨z0, z1, z2, z3, z4, z5, -⟩ := (setRow_blk6 (vs := #[.int .i64 wv, .int .i64 hv, .string cv, .int .i64 1, .string (bytes h0), .string (bytes h1)]) (show Blk w13.drew W.heap.size 24 #[.int .i64 wv, .int .i64 hv, .string cv, .int .i64 1, .string (bytes h0), .string (bytes h1)] from w13Z)).six_
                          obtain ⟨r0, r1, -⟩ := (rd_setRow (vs := #[.int .i64 wv, .int .i64 hv, .string cv, .int .i64 1, .string (bytes h0), .string (bytes h1)]) (show RdAt w13.drew b s k3 from HR13.out) (show b ≠ W.heap.size by omega)).cells
                          exact ⟨z0, z1, z2, z3, z4, z5, r0, r1⟩)
                      refine wp_region_held_drew (S := fun w' : World => (w'.cell? ⟨W.heap.size, 0, none⟩ = some (.int .i64 wv) ∧ w'.cell? ⟨W.heap.size, 1, none⟩ = some (.int .i64 hv) ∧ w'.cell? ⟨W.heap.size, 2, none⟩ = some (.string cv) ∧ w'.cell? ⟨W.heap.size, 3, none⟩ = some (.int .i64 1) ∧ w'.cell? ⟨W.heap.size, 4, none⟩ = some (.string (bytes h0)) ∧ w'.cell? ⟨W.heap.size, 5, none⟩ = some (.string (bytes h1)) ∧ w'.cell? ⟨b, 0, none⟩ = some (.string s) ∧ w'.cell? ⟨b, 1, none⟩ = some (.int .i64 (k3 : Int)))) (by kernel_rfl) (HS16.out _ (.inl rfl)) (fun hHeld => ?_)
                      refine wpAnyH_take (i := 0) (oi := ⟨some 59, _, _, _, _, _⟩) (v := ?_) rfl (by kernel_rfl) (by kernel_rfl) (by kernel_rfl) (fun _ _ _ h => h) (Or.inl ⟨by rfl, ?_⟩) (by assumption) ?_
                      rotate_left 1
                      · intro w hSw
                        try dsimp only at hSw
                        go_simp <;> with_reducible rfl
                      try simp only [Act.put, List.setIfInBounds_toArray, List.set_cons_zero, List.set_cons_succ]
                      refine wpAnyH_take (i := 1) (oi := ⟨some 60, _, _, _, _, _⟩) (v := ?_) rfl (by kernel_rfl) (by kernel_rfl) (by kernel_rfl) (fun _ _ _ h => h) (Or.inl ⟨by rfl, ?_⟩) (by assumption) ?_
                      rotate_left 1
                      · intro w hSw
                        try dsimp only at hSw
                        go_simp <;> with_reducible rfl
                      try simp only [Act.put, List.setIfInBounds_toArray, List.set_cons_zero, List.set_cons_succ]
                      refine wpAnyH_take (i := 2) (oi := ⟨some 61, _, _, _, _, _⟩) (v := ?_) rfl (by kernel_rfl) (by kernel_rfl) (by kernel_rfl) (fun _ _ _ h => h) (Or.inl ⟨by rfl, ?_⟩) (by assumption) ?_
                      rotate_left 1
                      · intro w hSw
                        try dsimp only at hSw
                        go_simp <;> with_reducible rfl
                      try simp only [Act.put, List.setIfInBounds_toArray, List.set_cons_zero, List.set_cons_succ]
                      refine wpAnyH_take (i := 3) (oi := ⟨some 62, _, _, _, _, _⟩) (v := undef) rfl (by kernel_rfl) (by kernel_rfl) (by kernel_rfl) (fun _ _ _ h => h) (Or.inr ⟨by rfl, rfl⟩) (by assumption) ?_
                      try simp only [Act.put, List.setIfInBounds_toArray, List.set_cons_zero, List.set_cons_succ]
                      refine wpAnyH_take (i := 4) (oi := ⟨some 63, _, _, _, _, _⟩) (v := undef) rfl (by kernel_rfl) (by kernel_rfl) (by kernel_rfl) (fun _ _ _ h => h) (Or.inr ⟨by rfl, rfl⟩) (by assumption) ?_
                      try simp only [Act.put, List.setIfInBounds_toArray, List.set_cons_zero, List.set_cons_succ]
                      refine wpAnyH_take (i := 5) (oi := ⟨some 64, _, _, _, _, _⟩) (v := undef) rfl (by kernel_rfl) (by kernel_rfl) (by kernel_rfl) (fun _ _ _ h => h) (Or.inr ⟨by rfl, rfl⟩) (by assumption) ?_
                      try simp only [Act.put, List.setIfInBounds_toArray, List.set_cons_zero, List.set_cons_succ]
                      refine wpAnyH_take (i := 6) (oi := ⟨some 65, _, _, _, _, _⟩) (v := undef) rfl (by kernel_rfl) (by kernel_rfl) (by kernel_rfl) (fun _ _ _ h => h) (Or.inr ⟨by rfl, rfl⟩) (by assumption) ?_
                      try simp only [Act.put, List.setIfInBounds_toArray, List.set_cons_zero, List.set_cons_succ]
                      refine wpAnyH_take (i := 7) (oi := ⟨some 66, _, _, _, _, _⟩) (v := undef) rfl (by kernel_rfl) (by kernel_rfl) (by kernel_rfl) (fun _ _ _ h => h) (Or.inr ⟨by rfl, rfl⟩) (by assumption) ?_
                      try simp only [Act.put, List.setIfInBounds_toArray, List.set_cons_zero, List.set_cons_succ]
                      refine wpAnyH_take (i := 8) (oi := ⟨some 67, _, _, _, _, _⟩) (v := undef) rfl (by kernel_rfl) (by kernel_rfl) (by kernel_rfl) (fun _ _ _ h => h) (Or.inr ⟨by rfl, rfl⟩) (by assumption) ?_
                      try simp only [Act.put, List.setIfInBounds_toArray, List.set_cons_zero, List.set_cons_succ]
                      refine wpAnyH_take (i := 9) (oi := ⟨some 68, _, _, _, _, _⟩) (v := undef) rfl (by kernel_rfl) (by kernel_rfl) (by kernel_rfl) (fun _ _ _ h => h) (Or.inr ⟨by rfl, rfl⟩) (by assumption) ?_
                      try simp only [Act.put, List.setIfInBounds_toArray, List.set_cons_zero, List.set_cons_succ]
                      refine wpAnyH_take (i := 10) (oi := ⟨some 69, _, _, _, _, _⟩) (v := undef) rfl (by kernel_rfl) (by kernel_rfl) (by kernel_rfl) (fun _ _ _ h => h) (Or.inr ⟨by rfl, rfl⟩) (by assumption) ?_
                      try simp only [Act.put, List.setIfInBounds_toArray, List.set_cons_zero, List.set_cons_succ]
                      refine wpAnyH_take (i := 11) (oi := ⟨some 70, _, _, _, _, _⟩) (v := undef) rfl (by kernel_rfl) (by kernel_rfl) (by kernel_rfl) (fun _ _ _ h => h) (Or.inr ⟨by rfl, rfl⟩) (by assumption) ?_
                      try simp only [Act.put, List.setIfInBounds_toArray, List.set_cons_zero, List.set_cons_succ]
                      refine wpAnyH_take (i := 12) (oi := ⟨some 71, _, _, _, _, _⟩) (v := undef) rfl (by kernel_rfl) (by kernel_rfl) (by kernel_rfl) (fun _ _ _ h => h) (Or.inr ⟨by rfl, rfl⟩) (by assumption) ?_
                      try simp only [Act.put, List.setIfInBounds_toArray, List.set_cons_zero, List.set_cons_succ]
                      refine wpAnyH_take (i := 13) (oi := ⟨some 72, _, _, _, _, _⟩) (v := ?_) rfl (by kernel_rfl) (by kernel_rfl) (by kernel_rfl) (fun _ _ _ h => h) (Or.inl ⟨by rfl, ?_⟩) (by assumption) ?_
                      rotate_left 1
                      · intro w hSw
                        try dsimp only at hSw
                        go_simp <;> with_reducible rfl
                      try simp only [Act.put, List.setIfInBounds_toArray, List.set_cons_zero, List.set_cons_succ]
                      refine wpAnyH_ready (rs := [14]) (by kernel_rfl) (by simp) ?_
                      refine AllReadyH.cons (o := ⟨none, _, _, _, _, _⟩) rfl (fun K hK => ?_) ?_
                      · clear hHeld
                        rw [if_pos (by rfl)]
                        refine wp_store_row 24 (.tmp 2) (.tmp 59) rfl W.heap.size #[.int .i64 wv, .int .i64 hv, .string cv, .int .i64 1, .string (bytes h0), .string (bytes h1)] rfl rfl 24 _ (show Blk _ W.heap.size 24 #[.int .i64 wv, .int .i64 hv, .string cv, .int .i64 1, .string (bytes h0), .string (bytes h1)] from w13Z) (by kernel_rfl) (by simp) (by simp [Value.oneCell']) ?_
                        refine hK.out _ _ (by refine HS16.out _ ?_; first | exact .inl rfl | exact .inr rfl) (fun hHeld => ?_)
                        clear hK K
                        try simp only [Act.put]
                        refine wpAnyH_take (i := 15) (oi := ⟨some 3, _, _, _, _, _⟩) (v := ?_) rfl (by kernel_rfl) (by kernel_rfl) (by kernel_rfl) (fun _ _ _ h => h) (Or.inl ⟨by rfl, ?_⟩) (by assumption) ?_
                        rotate_left 1
                        · intro w hSw
                          try dsimp only at hSw
                          go_simp <;> with_reducible rfl
                        try simp only [Act.put, List.setIfInBounds_toArray, List.set_cons_zero, List.set_cons_succ]
                        refine wpAnyH_done (by kernel_rfl) ?_ _
                        have hzz := setRow_blk6 (vs := #[.int .i64 wv, .int .i64 hv, .string cv, .int .i64 1, .string (bytes h0), .string (bytes h1)]) (show Blk w13.drew W.heap.size 24 #[.int .i64 wv, .int .i64 hv, .string cv, .int .i64 1, .string (bytes h0), .string (bytes h1)] from w13Z)
                        have HX := hide (only_setRow (g := W.heap.size) (vs := #[.int .i64 wv, .int .i64 hv, .string cv, .int .i64 1, .string (bytes h0), .string (bytes h1)]) (show Only (fun x => x = b) W w13.drew from HO13.out.drew) (Nat.le_refl _))
                        have HR := hide (rd_setRow (vs := #[.int .i64 wv, .int .i64 hv, .string cv, .int .i64 1, .string (bytes h0), .string (bytes h1)]) (show RdAt w13.drew b s k3 from HR13.out) (show b ≠ W.heap.size by omega))
                        obtain ⟨z0, z1, z2, z3, z4, z5, -⟩ := hzz.six_
                        go_wp2_with fail
                        refine bodyPost_ret (v := .tuple #[.agg #[.int .i64 wv, .int .i64 hv, .string cv, .int .i64 1, .string (bytes h0), .string (bytes h1)], .bool false]) (by simp [results, Tryz.results115, go_sem, z0, z1, z2, z3, z4, z5]) rfl ⟨HX.out, ?_⟩
                        exact .inl ⟨_, _, _, _, _, _, _, HF.out, rfl, HR.out⟩
                      exact AllReadyH.nil
                    · by_cases hks : k3 = s.size
                      · have HF := hide ((HG11.out (by simp)).2 hks)
                        have hkc : (((k3 : Nat) : Int) == (s.size : Int)) = true := by simp [hks]
                        have hkd : (k3 == s.size) = true := by simp [hks]
                        have HK := hide hks
                        clear HF11 HG11 hks
                        have HS16 := hide (show ∀ w' : World, (w' = w13.drew ∨ w' = w13.drew.setRow W.heap.size #[.int .i64 wv, .int .i64 hv, .string cv, .int .i64 1, .string (bytes h0), .string (bytes h1)]) → (w'.cell? ⟨W.heap.size, 0, none⟩ = some (.int .i64 wv) ∧ w'.cell? ⟨W.heap.size, 1, none⟩ = some (.int .i64 hv) ∧ w'.cell? ⟨W.heap.size, 2, none⟩ = some (.string cv) ∧ w'.cell? ⟨W.heap.size, 3, none⟩ = some (.int .i64 1) ∧ w'.cell? ⟨W.heap.size, 4, none⟩ = some (.string (bytes h0)) ∧ w'.cell? ⟨W.heap.size, 5, none⟩ = some (.string (bytes h1)) ∧ w'.cell? ⟨b, 0, none⟩ = some (.string s) ∧ w'.cell? ⟨b, 1, none⟩ = some (.int .i64 (k3 : Int))) from fun w' h => by
                          rcases h with rfl | rfl
                          · obtain ⟨z0, z1, z2, z3, z4, z5, -⟩ := (show Blk w13.drew W.heap.size 24 #[.int .i64 wv, .int .i64 hv, .string cv, .int .i64 1, .string (bytes h0), .string (bytes h1)] from w13Z).six_
                            obtain ⟨r0, r1, -⟩ := (show RdAt w13.drew b s k3 from HR13.out).cells
                            exact ⟨z0, z1, z2, z3, z4, z5, r0, r1⟩
                          · obtain ⟨z0, z1, z2, z3, z4, z5, -⟩ := (setRow_blk6 (vs := #[.int .i64 wv, .int .i64 hv, .string cv, .int .i64 1, .string (bytes h0), .string (bytes h1)]) (show Blk w13.drew W.heap.size 24 #[.int .i64 wv, .int .i64 hv, .string cv, .int .i64 1, .string (bytes h0), .string (bytes h1)] from w13Z)).six_
                            obtain ⟨r0, r1, -⟩ := (rd_setRow (vs := #[.int .i64 wv, .int .i64 hv, .string cv, .int .i64 1, .string (bytes h0), .string (bytes h1)]) (show RdAt w13.drew b s k3 from HR13.out) (show b ≠ W.heap.size by omega)).cells
                            exact ⟨z0, z1, z2, z3, z4, z5, r0, r1⟩)
                        refine wp_region_held_drew (S := fun w' : World => (w'.cell? ⟨W.heap.size, 0, none⟩ = some (.int .i64 wv) ∧ w'.cell? ⟨W.heap.size, 1, none⟩ = some (.int .i64 hv) ∧ w'.cell? ⟨W.heap.size, 2, none⟩ = some (.string cv) ∧ w'.cell? ⟨W.heap.size, 3, none⟩ = some (.int .i64 1) ∧ w'.cell? ⟨W.heap.size, 4, none⟩ = some (.string (bytes h0)) ∧ w'.cell? ⟨W.heap.size, 5, none⟩ = some (.string (bytes h1)) ∧ w'.cell? ⟨b, 0, none⟩ = some (.string s) ∧ w'.cell? ⟨b, 1, none⟩ = some (.int .i64 (k3 : Int)))) (by kernel_rfl) (HS16.out _ (.inl rfl)) (fun hHeld => ?_)
                        refine wpAnyH_take (i := 0) (oi := ⟨some 59, _, _, _, _, _⟩) (v := ?_) rfl (by kernel_rfl) (by kernel_rfl) (by kernel_rfl) (fun _ _ _ h => h) (Or.inl ⟨by rfl, ?_⟩) (by assumption) ?_
                        rotate_left 1
                        · intro w hSw
                          try dsimp only at hSw
                          go_simp <;> with_reducible rfl
                        try simp only [Act.put, List.setIfInBounds_toArray, List.set_cons_zero, List.set_cons_succ]
                        refine wpAnyH_take (i := 1) (oi := ⟨some 60, _, _, _, _, _⟩) (v := ?_) rfl (by kernel_rfl) (by kernel_rfl) (by kernel_rfl) (fun _ _ _ h => h) (Or.inl ⟨by rfl, ?_⟩) (by assumption) ?_
                        rotate_left 1
                        · intro w hSw
                          try dsimp only at hSw
                          go_simp <;> with_reducible rfl
                        try simp only [Act.put, List.setIfInBounds_toArray, List.set_cons_zero, List.set_cons_succ]
                        refine wpAnyH_take (i := 2) (oi := ⟨some 61, _, _, _, _, _⟩) (v := ?_) rfl (by kernel_rfl) (by kernel_rfl) (by kernel_rfl) (fun _ _ _ h => h) (Or.inl ⟨by rfl, ?_⟩) (by assumption) ?_
                        rotate_left 1
                        · intro w hSw
                          try dsimp only at hSw
                          go_simp <;> with_reducible rfl
                        try simp only [Act.put, List.setIfInBounds_toArray, List.set_cons_zero, List.set_cons_succ]
                        refine wpAnyH_take (i := 3) (oi := ⟨some 62, _, _, _, _, _⟩) (v := ?_) rfl (by kernel_rfl) (by kernel_rfl) (by kernel_rfl) (fun _ _ _ h => h) (Or.inl ⟨by rfl, ?_⟩) (by assumption) ?_
                        rotate_left 1
                        · intro w hSw
                          try dsimp only at hSw
                          go_simp <;> with_reducible rfl
                        try simp only [Act.put, List.setIfInBounds_toArray, List.set_cons_zero, List.set_cons_succ]
                        refine wpAnyH_take (i := 4) (oi := ⟨some 63, _, _, _, _, _⟩) (v := ?_) rfl (by kernel_rfl) (by kernel_rfl) (by kernel_rfl) (fun _ _ _ h => h) (Or.inl ⟨by rfl, ?_⟩) (by assumption) ?_
                        rotate_left 1
                        · intro w hSw
                          try dsimp only at hSw
                          go_simp <;> with_reducible rfl
                        try simp only [Act.put, List.setIfInBounds_toArray, List.set_cons_zero, List.set_cons_succ]
                        refine wpAnyH_take (i := 5) (oi := ⟨some 64, _, _, _, _, _⟩) (v := ?_) rfl (by kernel_rfl) (by kernel_rfl) (by kernel_rfl) (fun _ _ _ h => h) (Or.inl ⟨by rfl, ?_⟩) (by assumption) ?_
                        rotate_left 1
                        · intro w hSw
                          try dsimp only at hSw
                          go_simp <;> with_reducible rfl
                        try simp only [Act.put, List.setIfInBounds_toArray, List.set_cons_zero, List.set_cons_succ]
                        refine wpAnyH_take (i := 6) (oi := ⟨some 65, _, _, _, _, _⟩) (v := ?_) rfl (by kernel_rfl) (by kernel_rfl) (by kernel_rfl) (fun _ _ _ h => h) (Or.inl ⟨by rfl, ?_⟩) (by assumption) ?_
                        rotate_left 1
                        · intro w hSw
                          try dsimp only at hSw
                          go_simp <;> with_reducible rfl
                        try simp only [Act.put, List.setIfInBounds_toArray, List.set_cons_zero, List.set_cons_succ]
                        refine wpAnyH_take (i := 7) (oi := ⟨some 66, _, _, _, _, _⟩) (v := ?_) rfl (by kernel_rfl) (by kernel_rfl) (by kernel_rfl) (fun _ _ _ h => h) (Or.inl ⟨by rfl, ?_⟩) (by assumption) ?_
                        rotate_left 1
                        · intro w hSw
                          try dsimp only at hSw
                          go_simp <;> with_reducible rfl
                        try simp only [Act.put, List.setIfInBounds_toArray, List.set_cons_zero, List.set_cons_succ]
                        refine wpAnyH_take (i := 8) (oi := ⟨some 67, _, _, _, _, _⟩) (v := ?_) rfl (by kernel_rfl) (by kernel_rfl) (by kernel_rfl) (fun _ _ _ h => h) (Or.inl ⟨by rfl, ?_⟩) (by assumption) ?_
                        rotate_left 1
                        · intro w hSw
                          try dsimp only at hSw
                          go_simp <;> with_reducible rfl
                        try simp only [Act.put, List.setIfInBounds_toArray, List.set_cons_zero, List.set_cons_succ]
                        refine wpAnyH_take (i := 9) (oi := ⟨some 68, _, _, _, _, _⟩) (v := ?_) rfl (by kernel_rfl) (by kernel_rfl) (by kernel_rfl) (fun _ _ _ h => h) (Or.inl ⟨by rfl, ?_⟩) (by assumption) ?_
                        rotate_left 1
                        · intro w hSw
                          try dsimp only at hSw
                          go_simp <;> with_reducible rfl
                        try simp only [Act.put, List.setIfInBounds_toArray, List.set_cons_zero, List.set_cons_succ]
                        refine wpAnyH_take (i := 10) (oi := ⟨some 69, _, _, _, _, _⟩) (v := ?_) rfl (by kernel_rfl) (by kernel_rfl) (by kernel_rfl) (fun _ _ _ h => h) (Or.inl ⟨by rfl, ?_⟩) (by assumption) ?_
                        rotate_left 1
                        · intro w hSw
                          try dsimp only at hSw
                          go_simp <;> with_reducible rfl
                        try simp only [Act.put, List.setIfInBounds_toArray, List.set_cons_zero, List.set_cons_succ]
                        refine wpAnyH_take (i := 11) (oi := ⟨some 70, _, _, _, _, _⟩) (v := ?_) rfl (by kernel_rfl) (by kernel_rfl) (by kernel_rfl) (fun _ _ _ h => h) (Or.inl ⟨by rfl, ?_⟩) (by assumption) ?_
                        rotate_left 1
                        · intro w hSw
                          try dsimp only at hSw
                          go_simp <;> with_reducible rfl
                        try simp only [Act.put, List.setIfInBounds_toArray, List.set_cons_zero, List.set_cons_succ]
                        refine wpAnyH_take (i := 12) (oi := ⟨some 71, _, _, _, _, _⟩) (v := ?_) rfl (by kernel_rfl) (by kernel_rfl) (by kernel_rfl) (fun _ _ _ h => h) (Or.inl ⟨by rfl, ?_⟩) (by assumption) ?_
                        rotate_left 1
                        · intro w hSw
                          try dsimp only at hSw
                          go_simp <;> with_reducible rfl
                        try simp only [Act.put, List.setIfInBounds_toArray, List.set_cons_zero, List.set_cons_succ]
                        refine wpAnyH_take (i := 13) (oi := ⟨some 72, _, _, _, _, _⟩) (v := ?_) rfl (by kernel_rfl) (by kernel_rfl) (by kernel_rfl) (fun _ _ _ h => h) (Or.inl ⟨by rfl, ?_⟩) (by assumption) ?_
                        rotate_left 1
                        · intro w hSw
                          try dsimp only at hSw
                          go_simp <;> with_reducible rfl
                        try simp only [Act.put, List.setIfInBounds_toArray, List.set_cons_zero, List.set_cons_succ]
                        refine wpAnyH_ready (rs := [14]) (by kernel_rfl) (by simp) ?_
                        refine AllReadyH.cons (o := ⟨none, _, _, _, _, _⟩) rfl (fun K hK => ?_) ?_
                        · clear hHeld
                          rw [if_pos (by rfl)]
                          refine wp_store_row 24 (.tmp 2) (.tmp 59) rfl W.heap.size #[.int .i64 wv, .int .i64 hv, .string cv, .int .i64 1, .string (bytes h0), .string (bytes h1)] rfl rfl 24 _ (show Blk _ W.heap.size 24 #[.int .i64 wv, .int .i64 hv, .string cv, .int .i64 1, .string (bytes h0), .string (bytes h1)] from w13Z) (by kernel_rfl) (by simp) (by simp [Value.oneCell']) ?_
                          refine hK.out _ _ (by refine HS16.out _ ?_; first | exact .inl rfl | exact .inr rfl) (fun hHeld => ?_)
                          clear hK K
                          try simp only [Act.put]
                          refine wpAnyH_take (i := 15) (oi := ⟨some 3, _, _, _, _, _⟩) (v := ?_) rfl (by kernel_rfl) (by kernel_rfl) (by kernel_rfl) (fun _ _ _ h => h) (Or.inl ⟨by rfl, ?_⟩) (by assumption) ?_
                          rotate_left 1
                          · intro w hSw
                            try dsimp only at hSw
                            go_simp <;> with_reducible rfl
                          try simp only [Act.put, List.setIfInBounds_toArray, List.set_cons_zero, List.set_cons_succ]
                          refine wpAnyH_done (by kernel_rfl) ?_ _
                          have hzz := setRow_blk6 (vs := #[.int .i64 wv, .int .i64 hv, .string cv, .int .i64 1, .string (bytes h0), .string (bytes h1)]) (show Blk w13.drew W.heap.size 24 #[.int .i64 wv, .int .i64 hv, .string cv, .int .i64 1, .string (bytes h0), .string (bytes h1)] from w13Z)
                          have HX := hide (only_setRow (g := W.heap.size) (vs := #[.int .i64 wv, .int .i64 hv, .string cv, .int .i64 1, .string (bytes h0), .string (bytes h1)]) (show Only (fun x => x = b) W w13.drew from HO13.out.drew) (Nat.le_refl _))
                          have HR := hide (rd_setRow (vs := #[.int .i64 wv, .int .i64 hv, .string cv, .int .i64 1, .string (bytes h0), .string (bytes h1)]) (show RdAt w13.drew b s k3 from HR13.out) (show b ≠ W.heap.size by omega))
                          obtain ⟨z0, z1, z2, z3, z4, z5, -⟩ := hzz.six_
                          go_wp2_with fail
                          refine bodyPost_ret (v := .tuple #[.agg #[.int .i64 wv, .int .i64 hv, .string cv, .int .i64 1, .string (bytes h0), .string (bytes h1)], .bool true]) (by simp [results, Tryz.results115, go_sem, z0, z1, z2, z3, z4, z5]) rfl ⟨HX.out, ?_⟩
                          obtain ⟨st, hst1, hst2, hst3⟩ := HF.out
                          exact .inr ⟨st, ⟨wv, hv, cv, 1, bytes h0, bytes h1⟩, hst1, hst2, (by rw [hst3, Hfin.out]; rfl), rfl, (by rw [← HK.out]; exact HR.out)⟩
                        exact AllReadyH.nil
                      · have HF := hide ((HG11.out (by simp)).1 hks)
                        have hkc : (((k3 : Nat) : Int) == (s.size : Int)) = false := by simp; omega
                        have hkd : (k3 == s.size) = false := by simpa using hks
                        clear HF11 HG11 hks
                        have HS16 := hide (show ∀ w' : World, (w' = w13.drew ∨ w' = w13.drew.setRow W.heap.size #[.int .i64 wv, .int .i64 hv, .string cv, .int .i64 1, .string (bytes h0), .string (bytes h1)]) → (w'.cell? ⟨W.heap.size, 0, none⟩ = some (.int .i64 wv) ∧ w'.cell? ⟨W.heap.size, 1, none⟩ = some (.int .i64 hv) ∧ w'.cell? ⟨W.heap.size, 2, none⟩ = some (.string cv) ∧ w'.cell? ⟨W.heap.size, 3, none⟩ = some (.int .i64 1) ∧ w'.cell? ⟨W.heap.size, 4, none⟩ = some (.string (bytes h0)) ∧ w'.cell? ⟨W.heap.size, 5, none⟩ = some (.string (bytes h1)) ∧ w'.cell? ⟨b, 0, none⟩ = some (.string s) ∧ w'.cell? ⟨b, 1, none⟩ = some (.int .i64 (k3 : Int))) from fun w' h => by
                          rcases h with rfl | rfl
                          · obtain ⟨z0, z1, z2, z3, z4, z5, -⟩ := (show Blk w13.drew W.heap.size 24 #[.int .i64 wv, .int .i64 hv, .string cv, .int .i64 1, .string (bytes h0), .string (bytes h1)] from w13Z).six_
                            obtain ⟨r0, r1, -⟩ := (show RdAt w13.drew b s k3 from HR13.out).cells
                            exact ⟨z0, z1, z2, z3, z4, z5, r0, r1⟩
                          · obtain ⟨z0, z1, z2, z3, z4, z5, -⟩ := (setRow_blk6 (vs := #[.int .i64 wv, .int .i64 hv, .string cv, .int .i64 1, .string (bytes h0), .string (bytes h1)]) (show Blk w13.drew W.heap.size 24 #[.int .i64 wv, .int .i64 hv, .string cv, .int .i64 1, .string (bytes h0), .string (bytes h1)] from w13Z)).six_
                            obtain ⟨r0, r1, -⟩ := (rd_setRow (vs := #[.int .i64 wv, .int .i64 hv, .string cv, .int .i64 1, .string (bytes h0), .string (bytes h1)]) (show RdAt w13.drew b s k3 from HR13.out) (show b ≠ W.heap.size by omega)).cells
                            exact ⟨z0, z1, z2, z3, z4, z5, r0, r1⟩)
                        refine wp_region_held_drew (S := fun w' : World => (w'.cell? ⟨W.heap.size, 0, none⟩ = some (.int .i64 wv) ∧ w'.cell? ⟨W.heap.size, 1, none⟩ = some (.int .i64 hv) ∧ w'.cell? ⟨W.heap.size, 2, none⟩ = some (.string cv) ∧ w'.cell? ⟨W.heap.size, 3, none⟩ = some (.int .i64 1) ∧ w'.cell? ⟨W.heap.size, 4, none⟩ = some (.string (bytes h0)) ∧ w'.cell? ⟨W.heap.size, 5, none⟩ = some (.string (bytes h1)) ∧ w'.cell? ⟨b, 0, none⟩ = some (.string s) ∧ w'.cell? ⟨b, 1, none⟩ = some (.int .i64 (k3 : Int)))) (by kernel_rfl) (HS16.out _ (.inl rfl)) (fun hHeld => ?_)
                        refine wpAnyH_take (i := 0) (oi := ⟨some 59, _, _, _, _, _⟩) (v := ?_) rfl (by kernel_rfl) (by kernel_rfl) (by kernel_rfl) (fun _ _ _ h => h) (Or.inl ⟨by rfl, ?_⟩) (by assumption) ?_
                        rotate_left 1
                        · intro w hSw
                          try dsimp only at hSw
                          go_simp <;> with_reducible rfl
                        try simp only [Act.put, List.setIfInBounds_toArray, List.set_cons_zero, List.set_cons_succ]
                        refine wpAnyH_take (i := 1) (oi := ⟨some 60, _, _, _, _, _⟩) (v := ?_) rfl (by kernel_rfl) (by kernel_rfl) (by kernel_rfl) (fun _ _ _ h => h) (Or.inl ⟨by rfl, ?_⟩) (by assumption) ?_
                        rotate_left 1
                        · intro w hSw
                          try dsimp only at hSw
                          go_simp <;> with_reducible rfl
                        try simp only [Act.put, List.setIfInBounds_toArray, List.set_cons_zero, List.set_cons_succ]
                        refine wpAnyH_take (i := 2) (oi := ⟨some 61, _, _, _, _, _⟩) (v := ?_) rfl (by kernel_rfl) (by kernel_rfl) (by kernel_rfl) (fun _ _ _ h => h) (Or.inl ⟨by rfl, ?_⟩) (by assumption) ?_
                        rotate_left 1
                        · intro w hSw
                          try dsimp only at hSw
                          go_simp <;> with_reducible rfl
                        try simp only [Act.put, List.setIfInBounds_toArray, List.set_cons_zero, List.set_cons_succ]
                        refine wpAnyH_take (i := 3) (oi := ⟨some 62, _, _, _, _, _⟩) (v := ?_) rfl (by kernel_rfl) (by kernel_rfl) (by kernel_rfl) (fun _ _ _ h => h) (Or.inl ⟨by rfl, ?_⟩) (by assumption) ?_
                        rotate_left 1
                        · intro w hSw
                          try dsimp only at hSw
                          go_simp <;> with_reducible rfl
                        try simp only [Act.put, List.setIfInBounds_toArray, List.set_cons_zero, List.set_cons_succ]
                        refine wpAnyH_take (i := 4) (oi := ⟨some 63, _, _, _, _, _⟩) (v := ?_) rfl (by kernel_rfl) (by kernel_rfl) (by kernel_rfl) (fun _ _ _ h => h) (Or.inl ⟨by rfl, ?_⟩) (by assumption) ?_
                        rotate_left 1
                        · intro w hSw
                          try dsimp only at hSw
                          go_simp <;> with_reducible rfl
                        try simp only [Act.put, List.setIfInBounds_toArray, List.set_cons_zero, List.set_cons_succ]
                        refine wpAnyH_take (i := 5) (oi := ⟨some 64, _, _, _, _, _⟩) (v := ?_) rfl (by kernel_rfl) (by kernel_rfl) (by kernel_rfl) (fun _ _ _ h => h) (Or.inl ⟨by rfl, ?_⟩) (by assumption) ?_
                        rotate_left 1
                        · intro w hSw
                          try dsimp only at hSw
                          go_simp <;> with_reducible rfl
                        try simp only [Act.put, List.setIfInBounds_toArray, List.set_cons_zero, List.set_cons_succ]
                        refine wpAnyH_take (i := 6) (oi := ⟨some 65, _, _, _, _, _⟩) (v := ?_) rfl (by kernel_rfl) (by kernel_rfl) (by kernel_rfl) (fun _ _ _ h => h) (Or.inl ⟨by rfl, ?_⟩) (by assumption) ?_
                        rotate_left 1
                        · intro w hSw
                          try dsimp only at hSw
                          go_simp <;> with_reducible rfl
                        try simp only [Act.put, List.setIfInBounds_toArray, List.set_cons_zero, List.set_cons_succ]
                        refine wpAnyH_take (i := 7) (oi := ⟨some 66, _, _, _, _, _⟩) (v := ?_) rfl (by kernel_rfl) (by kernel_rfl) (by kernel_rfl) (fun _ _ _ h => h) (Or.inl ⟨by rfl, ?_⟩) (by assumption) ?_
                        rotate_left 1
                        · intro w hSw
                          try dsimp only at hSw
                          go_simp <;> with_reducible rfl
                        try simp only [Act.put, List.setIfInBounds_toArray, List.set_cons_zero, List.set_cons_succ]
                        refine wpAnyH_take (i := 8) (oi := ⟨some 67, _, _, _, _, _⟩) (v := ?_) rfl (by kernel_rfl) (by kernel_rfl) (by kernel_rfl) (fun _ _ _ h => h) (Or.inl ⟨by rfl, ?_⟩) (by assumption) ?_
                        rotate_left 1
                        · intro w hSw
                          try dsimp only at hSw
                          go_simp <;> with_reducible rfl
                        try simp only [Act.put, List.setIfInBounds_toArray, List.set_cons_zero, List.set_cons_succ]
                        refine wpAnyH_take (i := 9) (oi := ⟨some 68, _, _, _, _, _⟩) (v := ?_) rfl (by kernel_rfl) (by kernel_rfl) (by kernel_rfl) (fun _ _ _ h => h) (Or.inl ⟨by rfl, ?_⟩) (by assumption) ?_
                        rotate_left 1
                        · intro w hSw
                          try dsimp only at hSw
                          go_simp <;> with_reducible rfl
                        try simp only [Act.put, List.setIfInBounds_toArray, List.set_cons_zero, List.set_cons_succ]
                        refine wpAnyH_take (i := 10) (oi := ⟨some 69, _, _, _, _, _⟩) (v := ?_) rfl (by kernel_rfl) (by kernel_rfl) (by kernel_rfl) (fun _ _ _ h => h) (Or.inl ⟨by rfl, ?_⟩) (by assumption) ?_
                        rotate_left 1
                        · intro w hSw
                          try dsimp only at hSw
                          go_simp <;> with_reducible rfl
                        try simp only [Act.put, List.setIfInBounds_toArray, List.set_cons_zero, List.set_cons_succ]
                        refine wpAnyH_take (i := 11) (oi := ⟨some 70, _, _, _, _, _⟩) (v := ?_) rfl (by kernel_rfl) (by kernel_rfl) (by kernel_rfl) (fun _ _ _ h => h) (Or.inl ⟨by rfl, ?_⟩) (by assumption) ?_
                        rotate_left 1
                        · intro w hSw
                          try dsimp only at hSw
                          go_simp <;> with_reducible rfl
                        try simp only [Act.put, List.setIfInBounds_toArray, List.set_cons_zero, List.set_cons_succ]
                        refine wpAnyH_take (i := 12) (oi := ⟨some 71, _, _, _, _, _⟩) (v := ?_) rfl (by kernel_rfl) (by kernel_rfl) (by kernel_rfl) (fun _ _ _ h => h) (Or.inl ⟨by rfl, ?_⟩) (by assumption) ?_
                        rotate_left 1
                        · intro w hSw
                          try dsimp only at hSw
                          go_simp <;> with_reducible rfl
                        try simp only [Act.put, List.setIfInBounds_toArray, List.set_cons_zero, List.set_cons_succ]
                        refine wpAnyH_take (i := 13) (oi := ⟨some 72, _, _, _, _, _⟩) (v := ?_) rfl (by kernel_rfl) (by kernel_rfl) (by kernel_rfl) (fun _ _ _ h => h) (Or.inl ⟨by rfl, ?_⟩) (by assumption) ?_
                        rotate_left 1
                        · intro w hSw
                          try dsimp only at hSw
                          go_simp <;> with_reducible rfl
                        try simp only [Act.put, List.setIfInBounds_toArray, List.set_cons_zero, List.set_cons_succ]
                        refine wpAnyH_ready (rs := [14]) (by kernel_rfl) (by simp) ?_
                        refine AllReadyH.cons (o := ⟨none, _, _, _, _, _⟩) rfl (fun K hK => ?_) ?_
                        · clear hHeld
                          rw [if_pos (by rfl)]
                          refine wp_store_row 24 (.tmp 2) (.tmp 59) rfl W.heap.size #[.int .i64 wv, .int .i64 hv, .string cv, .int .i64 1, .string (bytes h0), .string (bytes h1)] rfl rfl 24 _ (show Blk _ W.heap.size 24 #[.int .i64 wv, .int .i64 hv, .string cv, .int .i64 1, .string (bytes h0), .string (bytes h1)] from w13Z) (by kernel_rfl) (by simp) (by simp [Value.oneCell']) ?_
                          refine hK.out _ _ (by refine HS16.out _ ?_; first | exact .inl rfl | exact .inr rfl) (fun hHeld => ?_)
                          clear hK K
                          try simp only [Act.put]
                          refine wpAnyH_take (i := 15) (oi := ⟨some 3, _, _, _, _, _⟩) (v := ?_) rfl (by kernel_rfl) (by kernel_rfl) (by kernel_rfl) (fun _ _ _ h => h) (Or.inl ⟨by rfl, ?_⟩) (by assumption) ?_
                          rotate_left 1
                          · intro w hSw
                            try dsimp only at hSw
                            go_simp <;> with_reducible rfl
                          try simp only [Act.put, List.setIfInBounds_toArray, List.set_cons_zero, List.set_cons_succ]
                          refine wpAnyH_done (by kernel_rfl) ?_ _
                          have hzz := setRow_blk6 (vs := #[.int .i64 wv, .int .i64 hv, .string cv, .int .i64 1, .string (bytes h0), .string (bytes h1)]) (show Blk w13.drew W.heap.size 24 #[.int .i64 wv, .int .i64 hv, .string cv, .int .i64 1, .string (bytes h0), .string (bytes h1)] from w13Z)
                          have HX := hide (only_setRow (g := W.heap.size) (vs := #[.int .i64 wv, .int .i64 hv, .string cv, .int .i64 1, .string (bytes h0), .string (bytes h1)]) (show Only (fun x => x = b) W w13.drew from HO13.out.drew) (Nat.le_refl _))
                          have HR := hide (rd_setRow (vs := #[.int .i64 wv, .int .i64 hv, .string cv, .int .i64 1, .string (bytes h0), .string (bytes h1)]) (show RdAt w13.drew b s k3 from HR13.out) (show b ≠ W.heap.size by omega))
                          obtain ⟨z0, z1, z2, z3, z4, z5, -⟩ := hzz.six_
                          go_wp2_with fail
                          refine bodyPost_ret (v := .tuple #[.agg #[.int .i64 wv, .int .i64 hv, .string cv, .int .i64 1, .string (bytes h0), .string (bytes h1)], .bool false]) (by simp [results, Tryz.results115, go_sem, z0, z1, z2, z3, z4, z5]) rfl ⟨HX.out, ?_⟩
                          exact .inl ⟨_, _, _, _, _, _, _, HF.out, rfl, HR.out⟩
                        exact AllReadyH.nil
                  · have w10Z : Blk w10 W.heap.size 24 #[.int .i64 wv, .int .i64 hv, .string cv, .int .i64 1, .string (bytes h0), .string ⟨#[]⟩] := Blk.only w9Z ho10 (by omega)
                    have HR10 := hide hr10
                    have HO10 := hide (HO9.out.trans ho10)
                    have HF10 := hide ((HG8.out (by simp)).1 hc10)
                    clear ho10 hr10 hc10 w9Z HR9 HO9
                    obtain ⟨z0, z1, z2, z3, z4, z5, -⟩ := w10Z.six_
                    refine wp_region_lit ?_
                    refine wpList_plain rfl (fun K hK => ?_)
                    go_simp
                    refine hK _ _ ?_
                    clear hK K
                    refine wpList_plain rfl (fun K hK => ?_)
                    refine wp_store_row 24 (.tmp 2) (.tmp 51) rfl W.heap.size #[.int .i64 wv, .int .i64 hv, .string cv, .int .i64 1, .string (bytes h0), .string ⟨#[]⟩] rfl rfl 24 _ w10Z (by kernel_rfl) (by simp) (by simp [Value.oneCell']) ?_
                    refine hK _ _ ?_
                    clear hK K z0 z1 z2 z3 z4 z5
                    have hzz := setRow_blk6 (vs := #[.int .i64 wv, .int .i64 hv, .string cv, .int .i64 1, .string (bytes h0), .string ⟨#[]⟩]) w10Z
                    have HX := hide (only_setRow (g := W.heap.size) (vs := #[.int .i64 wv, .int .i64 hv, .string cv, .int .i64 1, .string (bytes h0), .string ⟨#[]⟩]) HO10.out (Nat.le_refl _))
                    have HR := hide (rd_setRow (vs := #[.int .i64 wv, .int .i64 hv, .string cv, .int .i64 1, .string (bytes h0), .string ⟨#[]⟩]) HR10.out (show b ≠ W.heap.size by omega))
                    have HF := hide (HF10.out)
                    obtain ⟨wz, hwz⟩ : ∃ wz, World.setRow w10 W.heap.size #[.int .i64 wv, .int .i64 hv, .string cv, .int .i64 1, .string (bytes h0), .string ⟨#[]⟩] = wz := ⟨_, rfl⟩
                    rw [hwz] at hzz HX HR ⊢
                    clear hwz
                    obtain ⟨z0, z1, z2, z3, z4, z5, -⟩ := hzz.six_
                    go_wp2_with fail
                    refine bodyPost_ret (v := .tuple #[.agg #[.int .i64 wv, .int .i64 hv, .string cv, .int .i64 1, .string (bytes h0), .string ⟨#[]⟩], .bool false]) (by simp [results, Tryz.results115, go_sem, z0, z1, z2, z3, z4, z5]) rfl ⟨HX.out, .inl ⟨_, _, _, _, _, _, _, HF.out, rfl, HR.out⟩⟩
              · have w7Z : Blk w7 W.heap.size 24 #[.int .i64 wv, .int .i64 hv, .string cv, .int .i64 1, .string ⟨#[]⟩, .string ⟨#[]⟩] := w6Z.only ho7 (by omega)
                have HR7 := hide hr7
                have HO7 := hide (HO6.out.trans ho7)
                have HF7 := hide (show FailB s.data.toList (k + 1) from fail_turned (by rw [Hlen.out]; exact hk1) Hrt.out hc7)
                clear ho7 hr7 hc7
                obtain ⟨z0, z1, z2, z3, z4, z5, -⟩ := w7Z.six_
                refine wp_region_lit ?_
                refine wpList_plain rfl (fun K hK => ?_)
                go_simp
                refine hK _ _ ?_
                clear hK K
                refine wpList_plain rfl (fun K hK => ?_)
                refine wp_store_row 24 (.tmp 2) (.tmp 36) rfl W.heap.size #[.int .i64 wv, .int .i64 hv, .string cv, .int .i64 1, .string ⟨#[]⟩, .string ⟨#[]⟩] rfl rfl 24 _ w7Z (by kernel_rfl) (by simp) (by simp [Value.oneCell']) ?_
                refine hK _ _ ?_
                clear hK K z0 z1 z2 z3 z4 z5
                have hzz := setRow_blk6 (vs := #[.int .i64 wv, .int .i64 hv, .string cv, .int .i64 1, .string ⟨#[]⟩, .string ⟨#[]⟩]) w7Z
                have HX := hide (only_setRow (g := W.heap.size) (vs := #[.int .i64 wv, .int .i64 hv, .string cv, .int .i64 1, .string ⟨#[]⟩, .string ⟨#[]⟩]) HO7.out (Nat.le_refl _))
                have HR := hide (rd_setRow (vs := #[.int .i64 wv, .int .i64 hv, .string cv, .int .i64 1, .string ⟨#[]⟩, .string ⟨#[]⟩]) HR7.out (show b ≠ W.heap.size by omega))
                have HF := hide (HF7.out)
                obtain ⟨wz, hwz⟩ : ∃ wz, World.setRow w7 W.heap.size #[.int .i64 wv, .int .i64 hv, .string cv, .int .i64 1, .string ⟨#[]⟩, .string ⟨#[]⟩] = wz := ⟨_, rfl⟩
                rw [hwz] at hzz HX HR ⊢
                clear hwz
                obtain ⟨z0, z1, z2, z3, z4, z5, -⟩ := hzz.six_
                go_wp2_with fail
                refine bodyPost_ret (v := .tuple #[.agg #[.int .i64 wv, .int .i64 hv, .string cv, .int .i64 1, .string ⟨#[]⟩, .string ⟨#[]⟩], .bool false]) (by simp [results, Tryz.results115, go_sem, z0, z1, z2, z3, z4, z5]) rfl ⟨HX.out, .inl ⟨_, _, _, _, _, _, _, HF.out, rfl, HR.out⟩⟩
            · have w5Z := w4Z.only ho5 (by omega)
              have HR5 := hide hr5
              have HO5 := hide (HO4.out.trans ho5)
              have HC5 := hide hc5
              clear ho5 hr5 hc5
              (with_reducible refine (is_lit b s k 119 119 rfl w5 HR5.out hs).mono ?_)
              rintro e w6 ⟨ho6, ⟨hc6, rfl, hr6⟩ | ⟨hc6, rfl, hr6⟩⟩
              · have w6Z : Blk w6 W.heap.size 24 #[.int .i64 wv, .int .i64 hv, .string cv, .int .i64 0, .string ⟨#[]⟩, .string ⟨#[]⟩] := w5Z.only ho6 (by omega)
                have HR6 := hide hr6
                have HO6 := hide (HO5.out.trans ho6)
                have hk1 := in_len hc6
                have Hrt := hide (show runB (s.data.toList.take (k + 1)) = some (.turned rs false) from run_yes 119 Hrun.out hc6 rfl rfl)
                clear ho6 hr6 hc6 w5Z HR5 HO5
                go_upto_region 11 with (go_at_call 155; (with_reducible refine (is_lit b s (k + 1) 32 32 rfl w6 HR6.out hs).mono ?_); rintro e w7 ⟨ho7, ⟨hc7, rfl, hr7⟩ | ⟨hc7, rfl, hr7⟩⟩)
                · have w7Z := w6Z.only ho7 (by omega)
                  have HR7 := hide hr7
                  have HO7 := hide (HO6.out.trans ho7)
                  have hk2 := in_len hc7
                  have Hr7 := hide (show runB (s.data.toList.take (k + 1 + 1)) = some (.hand0 rs false []) from run_yes 32 Hrt.out hc7 rfl rfl)
                  clear ho7 hr7 hc7 w6Z HR6 HO6 Hrt
                  (with_reducible refine (hand0_read b s (k + 1 + 1) rs false w7 HR7.out hs hk2 Hr7.out).mono ?_)
                  rintro e w8 ⟨ho8, k2, h0, ok0, hk2', rfl, hr8, hf8, hg8⟩
                  have w8Z := w7Z.only ho8 (by omega)
                  have HR8 := hide hr8
                  have HO8 := hide (HO7.out.trans ho8)
                  have HF8 := hide hf8
                  have HG8 := hide hg8
                  clear ho8 hr8 hf8 hg8 w7Z HR7 HO7 Hr7
                  obtain ⟨z0, z1, z2, z3, z4, z5, zf⟩ := w8Z.six_
                  have zf4 := zf 4
                  clear zf
                  go_upto_region 13 with (fail)
                  have w9Z : Blk (w8.setCell ⟨W.heap.size, 4, none⟩ (.string (bytes h0))) W.heap.size 24 #[.int .i64 wv, .int .i64 hv, .string cv, .int .i64 0, .string (bytes h0), .string ⟨#[]⟩] := w8Z.set_ 4 (.string (bytes h0))
                  have HR9 := hide (show RdAt _ b s k2 from Blk.far HR8.out (p := ⟨W.heap.size, 4, none⟩) (show b ≠ W.heap.size by omega) (.string (bytes h0)))
                  have HO9 := hide (HO8.out.setCell (p := ⟨W.heap.size, 4, none⟩) (.inr (Nat.le_refl _)) (.string (bytes h0)))
                  obtain ⟨w9, hw9⟩ : ∃ w9, w8.setCell ⟨W.heap.size, 4, none⟩ (.string (bytes h0)) = w9 := ⟨_, rfl⟩
                  rw [hw9] at w9Z HR9 HO9 ⊢
                  clear hw9 z0 z1 z2 z3 z4 z5 zf4 w8Z HR8 HO8
                  cases ok0
                  · go_upto_region 14 with (fail)
                    obtain ⟨z0, z1, z2, z3, z4, z5, -⟩ := w9Z.six_
                    refine wp_region_lit ?_
                    refine wpList_plain rfl (fun K hK => ?_)
                    go_simp
                    refine hK _ _ ?_
                    clear hK K
                    refine wpList_plain rfl (fun K hK => ?_)
                    refine wp_store_row 24 (.tmp 2) (.tmp 51) rfl W.heap.size #[.int .i64 wv, .int .i64 hv, .string cv, .int .i64 0, .string (bytes h0), .string ⟨#[]⟩] rfl rfl 24 _ w9Z (by kernel_rfl) (by simp) (by simp [Value.oneCell']) ?_
                    refine hK _ _ ?_
                    clear hK K z0 z1 z2 z3 z4 z5
                    have hzz := setRow_blk6 (vs := #[.int .i64 wv, .int .i64 hv, .string cv, .int .i64 0, .string (bytes h0), .string ⟨#[]⟩]) w9Z
                    have HX := hide (only_setRow (g := W.heap.size) (vs := #[.int .i64 wv, .int .i64 hv, .string cv, .int .i64 0, .string (bytes h0), .string ⟨#[]⟩]) HO9.out (Nat.le_refl _))
                    have HR := hide (rd_setRow (vs := #[.int .i64 wv, .int .i64 hv, .string cv, .int .i64 0, .string (bytes h0), .string ⟨#[]⟩]) HR9.out (show b ≠ W.heap.size by omega))
                    have HF := hide (HF8.out (by simp))
                    obtain ⟨wz, hwz⟩ : ∃ wz, World.setRow w9 W.heap.size #[.int .i64 wv, .int .i64 hv, .string cv, .int .i64 0, .string (bytes h0), .string ⟨#[]⟩] = wz := ⟨_, rfl⟩
                    rw [hwz] at hzz HX HR ⊢
                    clear hwz
                    obtain ⟨z0, z1, z2, z3, z4, z5, -⟩ := hzz.six_
                    go_wp2_with fail
                    refine bodyPost_ret (v := .tuple #[.agg #[.int .i64 wv, .int .i64 hv, .string cv, .int .i64 0, .string (bytes h0), .string ⟨#[]⟩], .bool false]) (by simp [results, Tryz.results115, go_sem, z0, z1, z2, z3, z4, z5]) rfl ⟨HX.out, .inl ⟨_, _, _, _, _, _, _, HF.out, rfl, HR.out⟩⟩
                  · go_upto_region 14 with (go_at_call 155; (with_reducible refine (is_lit b s (k2) 47 47 rfl w9 HR9.out hs).mono ?_); rintro e w10 ⟨ho10, ⟨hc10, rfl, hr10⟩ | ⟨hc10, rfl, hr10⟩⟩)
                    · have w10Z := Blk.only w9Z ho10 (by omega)
                      have HR10 := hide hr10
                      have HO10 := hide (HO9.out.trans ho10)
                      have hk3 := in_len hc10
                      have Hr10 := hide ((HG8.out (by simp)).2 hc10)
                      clear ho10 hr10 hc10 w9Z HR9 HO9 HF8 HG8
                      (with_reducible refine (hand1_read b s (k2 + 1) rs false h0 w10 HR10.out hs hk3 Hr10.out).mono ?_)
                      rintro e w11 ⟨ho11, k3, h1, ok1, hk3', rfl, hr11, hf11, hg11⟩
                      have w11Z := w10Z.only ho11 (by omega)
                      have HR11 := hide hr11
                      have HO11 := hide (HO10.out.trans ho11)
                      have HF11 := hide hf11
                      have HG11 := hide hg11
                      clear ho11 hr11 hf11 hg11 w10Z HR10 HO10 Hr10
                      obtain ⟨z0, z1, z2, z3, z4, z5, zf⟩ := w11Z.six_
                      have zf5 := zf 5
                      clear zf
                      go_upto_region 16 with (fail)
                      have w13Z : Blk (w11.setCell ⟨W.heap.size, 5, none⟩ (.string (bytes h1))) W.heap.size 24 #[.int .i64 wv, .int .i64 hv, .string cv, .int .i64 0, .string (bytes h0), .string (bytes h1)] := w11Z.set_ 5 (.string (bytes h1))
                      have HR13 := hide (show RdAt _ b s k3 from Blk.far HR11.out (p := ⟨W.heap.size, 5, none⟩) (show b ≠ W.heap.size by omega) (.string (bytes h1)))
                      have HO13 := hide (HO11.out.setCell (p := ⟨W.heap.size, 5, none⟩) (.inr (Nat.le_refl _)) (.string (bytes h1)))
                      obtain ⟨w13, hw13⟩ : ∃ w13, w11.setCell ⟨W.heap.size, 5, none⟩ (.string (bytes h1)) = w13 := ⟨_, rfl⟩
                      rw [hw13] at w13Z HR13 HO13 ⊢
                      clear hw13 z0 z1 z2 z3 z4 z5 zf5 w11Z HR11 HO11
                      cases ok1
                      · have HF := hide (HF11.out (by simp))
                        clear HF11 HG11
                        have HS16 := hide (show ∀ w' : World, (w' = w13.drew ∨ w' = w13.drew.setRow W.heap.size #[.int .i64 wv, .int .i64 hv, .string cv, .int .i64 0, .string (bytes h0), .string (bytes h1)]) → (w'.cell? ⟨W.heap.size, 0, none⟩ = some (.int .i64 wv) ∧ w'.cell? ⟨W.heap.size, 1, none⟩ = some (.int .i64 hv) ∧ w'.cell? ⟨W.heap.size, 2, none⟩ = some (.string cv) ∧ w'.cell? ⟨W.heap.size, 3, none⟩ = some (.int .i64 0) ∧ w'.cell? ⟨W.heap.size, 4, none⟩ = some (.string (bytes h0)) ∧ w'.cell? ⟨W.heap.size, 5, none⟩ = some (.string (bytes h1)) ∧ w'.cell? ⟨b, 0, none⟩ = some (.string s) ∧ w'.cell? ⟨b, 1, none⟩ = some (.int .i64 (k3 : Int))) from fun w' h => by
                          rcases h with rfl | rfl
                          · obtain ⟨z0, z1, z2, z3, z4, z5, -⟩ := (show Blk w13.drew W.heap.size 24 #[.int .i64 wv, .int .i64 hv, .string cv, .int .i64 0, .string (bytes h0), .string (bytes h1)] from w13Z).six_
                            obtain ⟨r0, r1, -⟩ := (show RdAt w13.drew b s k3 from HR13.out).cells
                            exact ⟨z0, z1, z2, z3, z4, z5, r0, r1⟩
                          · obtain ⟨z0, z1, z2, z3, z4, z5, -⟩ := (setRow_blk6 (vs := #[.int .i64 wv, .int .i64 hv, .string cv, .int .i64 0, .string (bytes h0), .string (bytes h1)]) (show Blk w13.drew W.heap.size 24 #[.int .i64 wv, .int .i64 hv, .string cv, .int .i64 0, .string (bytes h0), .string (bytes h1)] from w13Z)).six_
                            obtain ⟨r0, r1, -⟩ := (rd_setRow (vs := #[.int .i64 wv, .int .i64 hv, .string cv, .int .i64 0, .string (bytes h0), .string (bytes h1)]) (show RdAt w13.drew b s k3 from HR13.out) (show b ≠ W.heap.size by omega)).cells
                            exact ⟨z0, z1, z2, z3, z4, z5, r0, r1⟩)
                        refine wp_region_held_drew (S := fun w' : World => (w'.cell? ⟨W.heap.size, 0, none⟩ = some (.int .i64 wv) ∧ w'.cell? ⟨W.heap.size, 1, none⟩ = some (.int .i64 hv) ∧ w'.cell? ⟨W.heap.size, 2, none⟩ = some (.string cv) ∧ w'.cell? ⟨W.heap.size, 3, none⟩ = some (.int .i64 0) ∧ w'.cell? ⟨W.heap.size, 4, none⟩ = some (.string (bytes h0)) ∧ w'.cell? ⟨W.heap.size, 5, none⟩ = some (.string (bytes h1)) ∧ w'.cell? ⟨b, 0, none⟩ = some (.string s) ∧ w'.cell? ⟨b, 1, none⟩ = some (.int .i64 (k3 : Int)))) (by kernel_rfl) (HS16.out _ (.inl rfl)) (fun hHeld => ?_)
                        refine wpAnyH_take (i := 0) (oi := ⟨some 59, _, _, _, _, _⟩) (v := ?_) rfl (by kernel_rfl) (by kernel_rfl) (by kernel_rfl) (fun _ _ _ h => h) (Or.inl ⟨by rfl, ?_⟩) (by assumption) ?_
                        rotate_left 1
                        · intro w hSw
                          try dsimp only at hSw
                          go_simp <;> with_reducible rfl
                        try simp only [Act.put, List.setIfInBounds_toArray, List.set_cons_zero, List.set_cons_succ]
                        refine wpAnyH_take (i := 1) (oi := ⟨some 60, _, _, _, _, _⟩) (v := ?_) rfl (by kernel_rfl) (by kernel_rfl) (by kernel_rfl) (fun _ _ _ h => h) (Or.inl ⟨by rfl, ?_⟩) (by assumption) ?_
                        rotate_left 1
                        · intro w hSw
                          try dsimp only at hSw
                          go_simp <;> with_reducible rfl
                        try simp only [Act.put, List.setIfInBounds_toArray, List.set_cons_zero, List.set_cons_succ]
                        refine wpAnyH_take (i := 2) (oi := ⟨some 61, _, _, _, _, _⟩) (v := ?_) rfl (by kernel_rfl) (by kernel_rfl) (by kernel_rfl) (fun _ _ _ h => h) (Or.inl ⟨by rfl, ?_⟩) (by assumption) ?_
                        rotate_left 1
                        · intro w hSw
                          try dsimp only at hSw
                          go_simp <;> with_reducible rfl
                        try simp only [Act.put, List.setIfInBounds_toArray, List.set_cons_zero, List.set_cons_succ]
                        refine wpAnyH_take (i := 3) (oi := ⟨some 62, _, _, _, _, _⟩) (v := undef) rfl (by kernel_rfl) (by kernel_rfl) (by kernel_rfl) (fun _ _ _ h => h) (Or.inr ⟨by rfl, rfl⟩) (by assumption) ?_
                        try simp only [Act.put, List.setIfInBounds_toArray, List.set_cons_zero, List.set_cons_succ]
                        refine wpAnyH_take (i := 4) (oi := ⟨some 63, _, _, _, _, _⟩) (v := undef) rfl (by kernel_rfl) (by kernel_rfl) (by kernel_rfl) (fun _ _ _ h => h) (Or.inr ⟨by rfl, rfl⟩) (by assumption) ?_
                        try simp only [Act.put, List.setIfInBounds_toArray, List.set_cons_zero, List.set_cons_succ]
                        refine wpAnyH_take (i := 5) (oi := ⟨some 64, _, _, _, _, _⟩) (v := undef) rfl (by kernel_rfl) (by kernel_rfl) (by kernel_rfl) (fun _ _ _ h => h) (Or.inr ⟨by rfl, rfl⟩) (by assumption) ?_
                        try simp only [Act.put, List.setIfInBounds_toArray, List.set_cons_zero, List.set_cons_succ]
                        refine wpAnyH_take (i := 6) (oi := ⟨some 65, _, _, _, _, _⟩) (v := undef) rfl (by kernel_rfl) (by kernel_rfl) (by kernel_rfl) (fun _ _ _ h => h) (Or.inr ⟨by rfl, rfl⟩) (by assumption) ?_
                        try simp only [Act.put, List.setIfInBounds_toArray, List.set_cons_zero, List.set_cons_succ]
                        refine wpAnyH_take (i := 7) (oi := ⟨some 66, _, _, _, _, _⟩) (v := undef) rfl (by kernel_rfl) (by kernel_rfl) (by kernel_rfl) (fun _ _ _ h => h) (Or.inr ⟨by rfl, rfl⟩) (by assumption) ?_
                        try simp only [Act.put, List.setIfInBounds_toArray, List.set_cons_zero, List.set_cons_succ]
                        refine wpAnyH_take (i := 8) (oi := ⟨some 67, _, _, _, _, _⟩) (v := undef) rfl (by kernel_rfl) (by kernel_rfl) (by kernel_rfl) (fun _ _ _ h => h) (Or.inr ⟨by rfl, rfl⟩) (by assumption) ?_
                        try simp only [Act.put, List.setIfInBounds_toArray, List.set_cons_zero, List.set_cons_succ]
                        refine wpAnyH_take (i := 9) (oi := ⟨some 68, _, _, _, _, _⟩) (v := undef) rfl (by kernel_rfl) (by kernel_rfl) (by kernel_rfl) (fun _ _ _ h => h) (Or.inr ⟨by rfl, rfl⟩) (by assumption) ?_
                        try simp only [Act.put, List.setIfInBounds_toArray, List.set_cons_zero, List.set_cons_succ]
                        refine wpAnyH_take (i := 10) (oi := ⟨some 69, _, _, _, _, _⟩) (v := undef) rfl (by kernel_rfl) (by kernel_rfl) (by kernel_rfl) (fun _ _ _ h => h) (Or.inr ⟨by rfl, rfl⟩) (by assumption) ?_
                        try simp only [Act.put, List.setIfInBounds_toArray, List.set_cons_zero, List.set_cons_succ]
                        refine wpAnyH_take (i := 11) (oi := ⟨some 70, _, _, _, _, _⟩) (v := undef) rfl (by kernel_rfl) (by kernel_rfl) (by kernel_rfl) (fun _ _ _ h => h) (Or.inr ⟨by rfl, rfl⟩) (by assumption) ?_
                        try simp only [Act.put, List.setIfInBounds_toArray, List.set_cons_zero, List.set_cons_succ]
                        refine wpAnyH_take (i := 12) (oi := ⟨some 71, _, _, _, _, _⟩) (v := undef) rfl (by kernel_rfl) (by kernel_rfl) (by kernel_rfl) (fun _ _ _ h => h) (Or.inr ⟨by rfl, rfl⟩) (by assumption) ?_
                        try simp only [Act.put, List.setIfInBounds_toArray, List.set_cons_zero, List.set_cons_succ]
                        refine wpAnyH_take (i := 13) (oi := ⟨some 72, _, _, _, _, _⟩) (v := ?_) rfl (by kernel_rfl) (by kernel_rfl) (by kernel_rfl) (fun _ _ _ h => h) (Or.inl ⟨by rfl, ?_⟩) (by assumption) ?_
                        rotate_left 1
                        · intro w hSw
                          try dsimp only at hSw
                          go_simp <;> with_reducible rfl
                        try simp only [Act.put, List.setIfInBounds_toArray, List.set_cons_zero, List.set_cons_succ]
                        refine wpAnyH_ready (rs := [14]) (by kernel_rfl) (by simp) ?_
                        refine AllReadyH.cons (o := ⟨none, _, _, _, _, _⟩) rfl (fun K hK => ?_) ?_
                        · clear hHeld
                          rw [if_pos (by rfl)]
                          refine wp_store_row 24 (.tmp 2) (.tmp 59) rfl W.heap.size #[.int .i64 wv, .int .i64 hv, .string cv, .int .i64 0, .string (bytes h0), .string (bytes h1)] rfl rfl 24 _ (show Blk _ W.heap.size 24 #[.int .i64 wv, .int .i64 hv, .string cv, .int .i64 0, .string (bytes h0), .string (bytes h1)] from w13Z) (by kernel_rfl) (by simp) (by simp [Value.oneCell']) ?_
                          refine hK.out _ _ (by refine HS16.out _ ?_; first | exact .inl rfl | exact .inr rfl) (fun hHeld => ?_)
                          clear hK K
                          try simp only [Act.put]
                          refine wpAnyH_take (i := 15) (oi := ⟨some 3, _, _, _, _, _⟩) (v := ?_) rfl (by kernel_rfl) (by kernel_rfl) (by kernel_rfl) (fun _ _ _ h => h) (Or.inl ⟨by rfl, ?_⟩) (by assumption) ?_
                          rotate_left 1
                          · intro w hSw
                            try dsimp only at hSw
                            go_simp <;> with_reducible rfl
                          try simp only [Act.put, List.setIfInBounds_toArray, List.set_cons_zero, List.set_cons_succ]
                          refine wpAnyH_done (by kernel_rfl) ?_ _
                          have hzz := setRow_blk6 (vs := #[.int .i64 wv, .int .i64 hv, .string cv, .int .i64 0, .string (bytes h0), .string (bytes h1)]) (show Blk w13.drew W.heap.size 24 #[.int .i64 wv, .int .i64 hv, .string cv, .int .i64 0, .string (bytes h0), .string (bytes h1)] from w13Z)
                          have HX := hide (only_setRow (g := W.heap.size) (vs := #[.int .i64 wv, .int .i64 hv, .string cv, .int .i64 0, .string (bytes h0), .string (bytes h1)]) (show Only (fun x => x = b) W w13.drew from HO13.out.drew) (Nat.le_refl _))
                          have HR := hide (rd_setRow (vs := #[.int .i64 wv, .int .i64 hv, .string cv, .int .i64 0, .string (bytes h0), .string (bytes h1)]) (show RdAt w13.drew b s k3 from HR13.out) (show b ≠ W.heap.size by omega))
                          obtain ⟨z0, z1, z2, z3, z4, z5, -⟩ := hzz.six_
                          go_wp2_with fail
                          refine bodyPost_ret (v := .tuple #[.agg #[.int .i64 wv, .int .i64 hv, .string cv, .int .i64 0, .string (bytes h0), .string (bytes h1)], .bool false]) (by simp [results, Tryz.results115, go_sem, z0, z1, z2, z3, z4, z5]) rfl ⟨HX.out, ?_⟩
                          exact .inl ⟨_, _, _, _, _, _, _, HF.out, rfl, HR.out⟩
                        exact AllReadyH.nil
                      · by_cases hks : k3 = s.size
                        · have HF := hide ((HG11.out (by simp)).2 hks)
                          have hkc : (((k3 : Nat) : Int) == (s.size : Int)) = true := by simp [hks]
                          have hkd : (k3 == s.size) = true := by simp [hks]
                          have HK := hide hks
                          clear HF11 HG11 hks
                          have HS16 := hide (show ∀ w' : World, (w' = w13.drew ∨ w' = w13.drew.setRow W.heap.size #[.int .i64 wv, .int .i64 hv, .string cv, .int .i64 0, .string (bytes h0), .string (bytes h1)]) → (w'.cell? ⟨W.heap.size, 0, none⟩ = some (.int .i64 wv) ∧ w'.cell? ⟨W.heap.size, 1, none⟩ = some (.int .i64 hv) ∧ w'.cell? ⟨W.heap.size, 2, none⟩ = some (.string cv) ∧ w'.cell? ⟨W.heap.size, 3, none⟩ = some (.int .i64 0) ∧ w'.cell? ⟨W.heap.size, 4, none⟩ = some (.string (bytes h0)) ∧ w'.cell? ⟨W.heap.size, 5, none⟩ = some (.string (bytes h1)) ∧ w'.cell? ⟨b, 0, none⟩ = some (.string s) ∧ w'.cell? ⟨b, 1, none⟩ = some (.int .i64 (k3 : Int))) from fun w' h => by
                            rcases h with rfl | rfl
                            · obtain ⟨z0, z1, z2, z3, z4, z5, -⟩ := (show Blk w13.drew W.heap.size 24 #[.int .i64 wv, .int .i64 hv, .string cv, .int .i64 0, .string (bytes h0), .string (bytes h1)] from w13Z).six_
                              obtain ⟨r0, r1, -⟩ := (show RdAt w13.drew b s k3 from HR13.out).cells
                              exact ⟨z0, z1, z2, z3, z4, z5, r0, r1⟩
                            · obtain ⟨z0, z1, z2, z3, z4, z5, -⟩ := (setRow_blk6 (vs := #[.int .i64 wv, .int .i64 hv, .string cv, .int .i64 0, .string (bytes h0), .string (bytes h1)]) (show Blk w13.drew W.heap.size 24 #[.int .i64 wv, .int .i64 hv, .string cv, .int .i64 0, .string (bytes h0), .string (bytes h1)] from w13Z)).six_
                              obtain ⟨r0, r1, -⟩ := (rd_setRow (vs := #[.int .i64 wv, .int .i64 hv, .string cv, .int .i64 0, .string (bytes h0), .string (bytes h1)]) (show RdAt w13.drew b s k3 from HR13.out) (show b ≠ W.heap.size by omega)).cells
                              exact ⟨z0, z1, z2, z3, z4, z5, r0, r1⟩)
                          refine wp_region_held_drew (S := fun w' : World => (w'.cell? ⟨W.heap.size, 0, none⟩ = some (.int .i64 wv) ∧ w'.cell? ⟨W.heap.size, 1, none⟩ = some (.int .i64 hv) ∧ w'.cell? ⟨W.heap.size, 2, none⟩ = some (.string cv) ∧ w'.cell? ⟨W.heap.size, 3, none⟩ = some (.int .i64 0) ∧ w'.cell? ⟨W.heap.size, 4, none⟩ = some (.string (bytes h0)) ∧ w'.cell? ⟨W.heap.size, 5, none⟩ = some (.string (bytes h1)) ∧ w'.cell? ⟨b, 0, none⟩ = some (.string s) ∧ w'.cell? ⟨b, 1, none⟩ = some (.int .i64 (k3 : Int)))) (by kernel_rfl) (HS16.out _ (.inl rfl)) (fun hHeld => ?_)
                          refine wpAnyH_take (i := 0) (oi := ⟨some 59, _, _, _, _, _⟩) (v := ?_) rfl (by kernel_rfl) (by kernel_rfl) (by kernel_rfl) (fun _ _ _ h => h) (Or.inl ⟨by rfl, ?_⟩) (by assumption) ?_
                          rotate_left 1
                          · intro w hSw
                            try dsimp only at hSw
                            go_simp <;> with_reducible rfl
                          try simp only [Act.put, List.setIfInBounds_toArray, List.set_cons_zero, List.set_cons_succ]
                          refine wpAnyH_take (i := 1) (oi := ⟨some 60, _, _, _, _, _⟩) (v := ?_) rfl (by kernel_rfl) (by kernel_rfl) (by kernel_rfl) (fun _ _ _ h => h) (Or.inl ⟨by rfl, ?_⟩) (by assumption) ?_
                          rotate_left 1
                          · intro w hSw
                            try dsimp only at hSw
                            go_simp <;> with_reducible rfl
                          try simp only [Act.put, List.setIfInBounds_toArray, List.set_cons_zero, List.set_cons_succ]
                          refine wpAnyH_take (i := 2) (oi := ⟨some 61, _, _, _, _, _⟩) (v := ?_) rfl (by kernel_rfl) (by kernel_rfl) (by kernel_rfl) (fun _ _ _ h => h) (Or.inl ⟨by rfl, ?_⟩) (by assumption) ?_
                          rotate_left 1
                          · intro w hSw
                            try dsimp only at hSw
                            go_simp <;> with_reducible rfl
                          try simp only [Act.put, List.setIfInBounds_toArray, List.set_cons_zero, List.set_cons_succ]
                          refine wpAnyH_take (i := 3) (oi := ⟨some 62, _, _, _, _, _⟩) (v := ?_) rfl (by kernel_rfl) (by kernel_rfl) (by kernel_rfl) (fun _ _ _ h => h) (Or.inl ⟨by rfl, ?_⟩) (by assumption) ?_
                          rotate_left 1
                          · intro w hSw
                            try dsimp only at hSw
                            go_simp <;> with_reducible rfl
                          try simp only [Act.put, List.setIfInBounds_toArray, List.set_cons_zero, List.set_cons_succ]
                          refine wpAnyH_take (i := 4) (oi := ⟨some 63, _, _, _, _, _⟩) (v := ?_) rfl (by kernel_rfl) (by kernel_rfl) (by kernel_rfl) (fun _ _ _ h => h) (Or.inl ⟨by rfl, ?_⟩) (by assumption) ?_
                          rotate_left 1
                          · intro w hSw
                            try dsimp only at hSw
                            go_simp <;> with_reducible rfl
                          try simp only [Act.put, List.setIfInBounds_toArray, List.set_cons_zero, List.set_cons_succ]
                          refine wpAnyH_take (i := 5) (oi := ⟨some 64, _, _, _, _, _⟩) (v := ?_) rfl (by kernel_rfl) (by kernel_rfl) (by kernel_rfl) (fun _ _ _ h => h) (Or.inl ⟨by rfl, ?_⟩) (by assumption) ?_
                          rotate_left 1
                          · intro w hSw
                            try dsimp only at hSw
                            go_simp <;> with_reducible rfl
                          try simp only [Act.put, List.setIfInBounds_toArray, List.set_cons_zero, List.set_cons_succ]
                          refine wpAnyH_take (i := 6) (oi := ⟨some 65, _, _, _, _, _⟩) (v := ?_) rfl (by kernel_rfl) (by kernel_rfl) (by kernel_rfl) (fun _ _ _ h => h) (Or.inl ⟨by rfl, ?_⟩) (by assumption) ?_
                          rotate_left 1
                          · intro w hSw
                            try dsimp only at hSw
                            go_simp <;> with_reducible rfl
                          try simp only [Act.put, List.setIfInBounds_toArray, List.set_cons_zero, List.set_cons_succ]
                          refine wpAnyH_take (i := 7) (oi := ⟨some 66, _, _, _, _, _⟩) (v := ?_) rfl (by kernel_rfl) (by kernel_rfl) (by kernel_rfl) (fun _ _ _ h => h) (Or.inl ⟨by rfl, ?_⟩) (by assumption) ?_
                          rotate_left 1
                          · intro w hSw
                            try dsimp only at hSw
                            go_simp <;> with_reducible rfl
                          try simp only [Act.put, List.setIfInBounds_toArray, List.set_cons_zero, List.set_cons_succ]
                          refine wpAnyH_take (i := 8) (oi := ⟨some 67, _, _, _, _, _⟩) (v := ?_) rfl (by kernel_rfl) (by kernel_rfl) (by kernel_rfl) (fun _ _ _ h => h) (Or.inl ⟨by rfl, ?_⟩) (by assumption) ?_
                          rotate_left 1
                          · intro w hSw
                            try dsimp only at hSw
                            go_simp <;> with_reducible rfl
                          try simp only [Act.put, List.setIfInBounds_toArray, List.set_cons_zero, List.set_cons_succ]
                          refine wpAnyH_take (i := 9) (oi := ⟨some 68, _, _, _, _, _⟩) (v := ?_) rfl (by kernel_rfl) (by kernel_rfl) (by kernel_rfl) (fun _ _ _ h => h) (Or.inl ⟨by rfl, ?_⟩) (by assumption) ?_
                          rotate_left 1
                          · intro w hSw
                            try dsimp only at hSw
                            go_simp <;> with_reducible rfl
                          try simp only [Act.put, List.setIfInBounds_toArray, List.set_cons_zero, List.set_cons_succ]
                          refine wpAnyH_take (i := 10) (oi := ⟨some 69, _, _, _, _, _⟩) (v := ?_) rfl (by kernel_rfl) (by kernel_rfl) (by kernel_rfl) (fun _ _ _ h => h) (Or.inl ⟨by rfl, ?_⟩) (by assumption) ?_
                          rotate_left 1
                          · intro w hSw
                            try dsimp only at hSw
                            go_simp <;> with_reducible rfl
                          try simp only [Act.put, List.setIfInBounds_toArray, List.set_cons_zero, List.set_cons_succ]
                          refine wpAnyH_take (i := 11) (oi := ⟨some 70, _, _, _, _, _⟩) (v := ?_) rfl (by kernel_rfl) (by kernel_rfl) (by kernel_rfl) (fun _ _ _ h => h) (Or.inl ⟨by rfl, ?_⟩) (by assumption) ?_
                          rotate_left 1
                          · intro w hSw
                            try dsimp only at hSw
                            go_simp <;> with_reducible rfl
                          try simp only [Act.put, List.setIfInBounds_toArray, List.set_cons_zero, List.set_cons_succ]
                          refine wpAnyH_take (i := 12) (oi := ⟨some 71, _, _, _, _, _⟩) (v := ?_) rfl (by kernel_rfl) (by kernel_rfl) (by kernel_rfl) (fun _ _ _ h => h) (Or.inl ⟨by rfl, ?_⟩) (by assumption) ?_
                          rotate_left 1
                          · intro w hSw
                            try dsimp only at hSw
                            go_simp <;> with_reducible rfl
                          try simp only [Act.put, List.setIfInBounds_toArray, List.set_cons_zero, List.set_cons_succ]
                          refine wpAnyH_take (i := 13) (oi := ⟨some 72, _, _, _, _, _⟩) (v := ?_) rfl (by kernel_rfl) (by kernel_rfl) (by kernel_rfl) (fun _ _ _ h => h) (Or.inl ⟨by rfl, ?_⟩) (by assumption) ?_
                          rotate_left 1
                          · intro w hSw
                            try dsimp only at hSw
                            go_simp <;> with_reducible rfl
                          try simp only [Act.put, List.setIfInBounds_toArray, List.set_cons_zero, List.set_cons_succ]
                          refine wpAnyH_ready (rs := [14]) (by kernel_rfl) (by simp) ?_
                          refine AllReadyH.cons (o := ⟨none, _, _, _, _, _⟩) rfl (fun K hK => ?_) ?_
                          · clear hHeld
                            rw [if_pos (by rfl)]
                            refine wp_store_row 24 (.tmp 2) (.tmp 59) rfl W.heap.size #[.int .i64 wv, .int .i64 hv, .string cv, .int .i64 0, .string (bytes h0), .string (bytes h1)] rfl rfl 24 _ (show Blk _ W.heap.size 24 #[.int .i64 wv, .int .i64 hv, .string cv, .int .i64 0, .string (bytes h0), .string (bytes h1)] from w13Z) (by kernel_rfl) (by simp) (by simp [Value.oneCell']) ?_
                            refine hK.out _ _ (by refine HS16.out _ ?_; first | exact .inl rfl | exact .inr rfl) (fun hHeld => ?_)
                            clear hK K
                            try simp only [Act.put]
                            refine wpAnyH_take (i := 15) (oi := ⟨some 3, _, _, _, _, _⟩) (v := ?_) rfl (by kernel_rfl) (by kernel_rfl) (by kernel_rfl) (fun _ _ _ h => h) (Or.inl ⟨by rfl, ?_⟩) (by assumption) ?_
                            rotate_left 1
                            · intro w hSw
                              try dsimp only at hSw
                              go_simp <;> with_reducible rfl
                            try simp only [Act.put, List.setIfInBounds_toArray, List.set_cons_zero, List.set_cons_succ]
                            refine wpAnyH_done (by kernel_rfl) ?_ _
                            have hzz := setRow_blk6 (vs := #[.int .i64 wv, .int .i64 hv, .string cv, .int .i64 0, .string (bytes h0), .string (bytes h1)]) (show Blk w13.drew W.heap.size 24 #[.int .i64 wv, .int .i64 hv, .string cv, .int .i64 0, .string (bytes h0), .string (bytes h1)] from w13Z)
                            have HX := hide (only_setRow (g := W.heap.size) (vs := #[.int .i64 wv, .int .i64 hv, .string cv, .int .i64 0, .string (bytes h0), .string (bytes h1)]) (show Only (fun x => x = b) W w13.drew from HO13.out.drew) (Nat.le_refl _))
                            have HR := hide (rd_setRow (vs := #[.int .i64 wv, .int .i64 hv, .string cv, .int .i64 0, .string (bytes h0), .string (bytes h1)]) (show RdAt w13.drew b s k3 from HR13.out) (show b ≠ W.heap.size by omega))
                            obtain ⟨z0, z1, z2, z3, z4, z5, -⟩ := hzz.six_
                            go_wp2_with fail
                            refine bodyPost_ret (v := .tuple #[.agg #[.int .i64 wv, .int .i64 hv, .string cv, .int .i64 0, .string (bytes h0), .string (bytes h1)], .bool true]) (by simp [results, Tryz.results115, go_sem, z0, z1, z2, z3, z4, z5]) rfl ⟨HX.out, ?_⟩
                            obtain ⟨st, hst1, hst2, hst3⟩ := HF.out
                            exact .inr ⟨st, ⟨wv, hv, cv, 0, bytes h0, bytes h1⟩, hst1, hst2, (by rw [hst3, Hfin.out]; rfl), rfl, (by rw [← HK.out]; exact HR.out)⟩
                          exact AllReadyH.nil
                        · have HF := hide ((HG11.out (by simp)).1 hks)
                          have hkc : (((k3 : Nat) : Int) == (s.size : Int)) = false := by simp; omega
                          have hkd : (k3 == s.size) = false := by simpa using hks
                          clear HF11 HG11 hks
                          have HS16 := hide (show ∀ w' : World, (w' = w13.drew ∨ w' = w13.drew.setRow W.heap.size #[.int .i64 wv, .int .i64 hv, .string cv, .int .i64 0, .string (bytes h0), .string (bytes h1)]) → (w'.cell? ⟨W.heap.size, 0, none⟩ = some (.int .i64 wv) ∧ w'.cell? ⟨W.heap.size, 1, none⟩ = some (.int .i64 hv) ∧ w'.cell? ⟨W.heap.size, 2, none⟩ = some (.string cv) ∧ w'.cell? ⟨W.heap.size, 3, none⟩ = some (.int .i64 0) ∧ w'.cell? ⟨W.heap.size, 4, none⟩ = some (.string (bytes h0)) ∧ w'.cell? ⟨W.heap.size, 5, none⟩ = some (.string (bytes h1)) ∧ w'.cell? ⟨b, 0, none⟩ = some (.string s) ∧ w'.cell? ⟨b, 1, none⟩ = some (.int .i64 (k3 : Int))) from fun w' h => by
                            rcases h with rfl | rfl
                            · obtain ⟨z0, z1, z2, z3, z4, z5, -⟩ := (show Blk w13.drew W.heap.size 24 #[.int .i64 wv, .int .i64 hv, .string cv, .int .i64 0, .string (bytes h0), .string (bytes h1)] from w13Z).six_
                              obtain ⟨r0, r1, -⟩ := (show RdAt w13.drew b s k3 from HR13.out).cells
                              exact ⟨z0, z1, z2, z3, z4, z5, r0, r1⟩
                            · obtain ⟨z0, z1, z2, z3, z4, z5, -⟩ := (setRow_blk6 (vs := #[.int .i64 wv, .int .i64 hv, .string cv, .int .i64 0, .string (bytes h0), .string (bytes h1)]) (show Blk w13.drew W.heap.size 24 #[.int .i64 wv, .int .i64 hv, .string cv, .int .i64 0, .string (bytes h0), .string (bytes h1)] from w13Z)).six_
                              obtain ⟨r0, r1, -⟩ := (rd_setRow (vs := #[.int .i64 wv, .int .i64 hv, .string cv, .int .i64 0, .string (bytes h0), .string (bytes h1)]) (show RdAt w13.drew b s k3 from HR13.out) (show b ≠ W.heap.size by omega)).cells
                              exact ⟨z0, z1, z2, z3, z4, z5, r0, r1⟩)
                          refine wp_region_held_drew (S := fun w' : World => (w'.cell? ⟨W.heap.size, 0, none⟩ = some (.int .i64 wv) ∧ w'.cell? ⟨W.heap.size, 1, none⟩ = some (.int .i64 hv) ∧ w'.cell? ⟨W.heap.size, 2, none⟩ = some (.string cv) ∧ w'.cell? ⟨W.heap.size, 3, none⟩ = some (.int .i64 0) ∧ w'.cell? ⟨W.heap.size, 4, none⟩ = some (.string (bytes h0)) ∧ w'.cell? ⟨W.heap.size, 5, none⟩ = some (.string (bytes h1)) ∧ w'.cell? ⟨b, 0, none⟩ = some (.string s) ∧ w'.cell? ⟨b, 1, none⟩ = some (.int .i64 (k3 : Int)))) (by kernel_rfl) (HS16.out _ (.inl rfl)) (fun hHeld => ?_)
                          refine wpAnyH_take (i := 0) (oi := ⟨some 59, _, _, _, _, _⟩) (v := ?_) rfl (by kernel_rfl) (by kernel_rfl) (by kernel_rfl) (fun _ _ _ h => h) (Or.inl ⟨by rfl, ?_⟩) (by assumption) ?_
                          rotate_left 1
                          · intro w hSw
                            try dsimp only at hSw
                            go_simp <;> with_reducible rfl
                          try simp only [Act.put, List.setIfInBounds_toArray, List.set_cons_zero, List.set_cons_succ]
                          refine wpAnyH_take (i := 1) (oi := ⟨some 60, _, _, _, _, _⟩) (v := ?_) rfl (by kernel_rfl) (by kernel_rfl) (by kernel_rfl) (fun _ _ _ h => h) (Or.inl ⟨by rfl, ?_⟩) (by assumption) ?_
                          rotate_left 1
                          · intro w hSw
                            try dsimp only at hSw
                            go_simp <;> with_reducible rfl
                          try simp only [Act.put, List.setIfInBounds_toArray, List.set_cons_zero, List.set_cons_succ]
                          refine wpAnyH_take (i := 2) (oi := ⟨some 61, _, _, _, _, _⟩) (v := ?_) rfl (by kernel_rfl) (by kernel_rfl) (by kernel_rfl) (fun _ _ _ h => h) (Or.inl ⟨by rfl, ?_⟩) (by assumption) ?_
                          rotate_left 1
                          · intro w hSw
                            try dsimp only at hSw
                            go_simp <;> with_reducible rfl
                          try simp only [Act.put, List.setIfInBounds_toArray, List.set_cons_zero, List.set_cons_succ]
                          refine wpAnyH_take (i := 3) (oi := ⟨some 62, _, _, _, _, _⟩) (v := ?_) rfl (by kernel_rfl) (by kernel_rfl) (by kernel_rfl) (fun _ _ _ h => h) (Or.inl ⟨by rfl, ?_⟩) (by assumption) ?_
                          rotate_left 1
                          · intro w hSw
                            try dsimp only at hSw
                            go_simp <;> with_reducible rfl
                          try simp only [Act.put, List.setIfInBounds_toArray, List.set_cons_zero, List.set_cons_succ]
                          refine wpAnyH_take (i := 4) (oi := ⟨some 63, _, _, _, _, _⟩) (v := ?_) rfl (by kernel_rfl) (by kernel_rfl) (by kernel_rfl) (fun _ _ _ h => h) (Or.inl ⟨by rfl, ?_⟩) (by assumption) ?_
                          rotate_left 1
                          · intro w hSw
                            try dsimp only at hSw
                            go_simp <;> with_reducible rfl
                          try simp only [Act.put, List.setIfInBounds_toArray, List.set_cons_zero, List.set_cons_succ]
                          refine wpAnyH_take (i := 5) (oi := ⟨some 64, _, _, _, _, _⟩) (v := ?_) rfl (by kernel_rfl) (by kernel_rfl) (by kernel_rfl) (fun _ _ _ h => h) (Or.inl ⟨by rfl, ?_⟩) (by assumption) ?_
                          rotate_left 1
                          · intro w hSw
                            try dsimp only at hSw
                            go_simp <;> with_reducible rfl
                          try simp only [Act.put, List.setIfInBounds_toArray, List.set_cons_zero, List.set_cons_succ]
                          refine wpAnyH_take (i := 6) (oi := ⟨some 65, _, _, _, _, _⟩) (v := ?_) rfl (by kernel_rfl) (by kernel_rfl) (by kernel_rfl) (fun _ _ _ h => h) (Or.inl ⟨by rfl, ?_⟩) (by assumption) ?_
                          rotate_left 1
                          · intro w hSw
                            try dsimp only at hSw
                            go_simp <;> with_reducible rfl
                          try simp only [Act.put, List.setIfInBounds_toArray, List.set_cons_zero, List.set_cons_succ]
                          refine wpAnyH_take (i := 7) (oi := ⟨some 66, _, _, _, _, _⟩) (v := ?_) rfl (by kernel_rfl) (by kernel_rfl) (by kernel_rfl) (fun _ _ _ h => h) (Or.inl ⟨by rfl, ?_⟩) (by assumption) ?_
                          rotate_left 1
                          · intro w hSw
                            try dsimp only at hSw
                            go_simp <;> with_reducible rfl
                          try simp only [Act.put, List.setIfInBounds_toArray, List.set_cons_zero, List.set_cons_succ]
                          refine wpAnyH_take (i := 8) (oi := ⟨some 67, _, _, _, _, _⟩) (v := ?_) rfl (by kernel_rfl) (by kernel_rfl) (by kernel_rfl) (fun _ _ _ h => h) (Or.inl ⟨by rfl, ?_⟩) (by assumption) ?_
                          rotate_left 1
                          · intro w hSw
                            try dsimp only at hSw
                            go_simp <;> with_reducible rfl
                          try simp only [Act.put, List.setIfInBounds_toArray, List.set_cons_zero, List.set_cons_succ]
                          refine wpAnyH_take (i := 9) (oi := ⟨some 68, _, _, _, _, _⟩) (v := ?_) rfl (by kernel_rfl) (by kernel_rfl) (by kernel_rfl) (fun _ _ _ h => h) (Or.inl ⟨by rfl, ?_⟩) (by assumption) ?_
                          rotate_left 1
                          · intro w hSw
                            try dsimp only at hSw
                            go_simp <;> with_reducible rfl
                          try simp only [Act.put, List.setIfInBounds_toArray, List.set_cons_zero, List.set_cons_succ]
                          refine wpAnyH_take (i := 10) (oi := ⟨some 69, _, _, _, _, _⟩) (v := ?_) rfl (by kernel_rfl) (by kernel_rfl) (by kernel_rfl) (fun _ _ _ h => h) (Or.inl ⟨by rfl, ?_⟩) (by assumption) ?_
                          rotate_left 1
                          · intro w hSw
                            try dsimp only at hSw
                            go_simp <;> with_reducible rfl
                          try simp only [Act.put, List.setIfInBounds_toArray, List.set_cons_zero, List.set_cons_succ]
                          refine wpAnyH_take (i := 11) (oi := ⟨some 70, _, _, _, _, _⟩) (v := ?_) rfl (by kernel_rfl) (by kernel_rfl) (by kernel_rfl) (fun _ _ _ h => h) (Or.inl ⟨by rfl, ?_⟩) (by assumption) ?_
                          rotate_left 1
                          · intro w hSw
                            try dsimp only at hSw
                            go_simp <;> with_reducible rfl
                          try simp only [Act.put, List.setIfInBounds_toArray, List.set_cons_zero, List.set_cons_succ]
                          refine wpAnyH_take (i := 12) (oi := ⟨some 71, _, _, _, _, _⟩) (v := ?_) rfl (by kernel_rfl) (by kernel_rfl) (by kernel_rfl) (fun _ _ _ h => h) (Or.inl ⟨by rfl, ?_⟩) (by assumption) ?_
                          rotate_left 1
                          · intro w hSw
                            try dsimp only at hSw
                            go_simp <;> with_reducible rfl
                          try simp only [Act.put, List.setIfInBounds_toArray, List.set_cons_zero, List.set_cons_succ]
                          refine wpAnyH_take (i := 13) (oi := ⟨some 72, _, _, _, _, _⟩) (v := ?_) rfl (by kernel_rfl) (by kernel_rfl) (by kernel_rfl) (fun _ _ _ h => h) (Or.inl ⟨by rfl, ?_⟩) (by assumption) ?_
                          rotate_left 1
                          · intro w hSw
                            try dsimp only at hSw
                            go_simp <;> with_reducible rfl
                          try simp only [Act.put, List.setIfInBounds_toArray, List.set_cons_zero, List.set_cons_succ]
                          refine wpAnyH_ready (rs := [14]) (by kernel_rfl) (by simp) ?_
                          refine AllReadyH.cons (o := ⟨none, _, _, _, _, _⟩) rfl (fun K hK => ?_) ?_
                          · clear hHeld
                            rw [if_pos (by rfl)]
                            refine wp_store_row 24 (.tmp 2) (.tmp 59) rfl W.heap.size #[.int .i64 wv, .int .i64 hv, .string cv, .int .i64 0, .string (bytes h0), .string (bytes h1)] rfl rfl 24 _ (show Blk _ W.heap.size 24 #[.int .i64 wv, .int .i64 hv, .string cv, .int .i64 0, .string (bytes h0), .string (bytes h1)] from w13Z) (by kernel_rfl) (by simp) (by simp [Value.oneCell']) ?_
                            refine hK.out _ _ (by refine HS16.out _ ?_; first | exact .inl rfl | exact .inr rfl) (fun hHeld => ?_)
                            clear hK K
                            try simp only [Act.put]
                            refine wpAnyH_take (i := 15) (oi := ⟨some 3, _, _, _, _, _⟩) (v := ?_) rfl (by kernel_rfl) (by kernel_rfl) (by kernel_rfl) (fun _ _ _ h => h) (Or.inl ⟨by rfl, ?_⟩) (by assumption) ?_
                            rotate_left 1
                            · intro w hSw
                              try dsimp only at hSw
                              go_simp <;> with_reducible rfl
                            try simp only [Act.put, List.setIfInBounds_toArray, List.set_cons_zero, List.set_cons_succ]
                            refine wpAnyH_done (by kernel_rfl) ?_ _
                            have hzz := setRow_blk6 (vs := #[.int .i64 wv, .int .i64 hv, .string cv, .int .i64 0, .string (bytes h0), .string (bytes h1)]) (show Blk w13.drew W.heap.size 24 #[.int .i64 wv, .int .i64 hv, .string cv, .int .i64 0, .string (bytes h0), .string (bytes h1)] from w13Z)
                            have HX := hide (only_setRow (g := W.heap.size) (vs := #[.int .i64 wv, .int .i64 hv, .string cv, .int .i64 0, .string (bytes h0), .string (bytes h1)]) (show Only (fun x => x = b) W w13.drew from HO13.out.drew) (Nat.le_refl _))
                            have HR := hide (rd_setRow (vs := #[.int .i64 wv, .int .i64 hv, .string cv, .int .i64 0, .string (bytes h0), .string (bytes h1)]) (show RdAt w13.drew b s k3 from HR13.out) (show b ≠ W.heap.size by omega))
                            obtain ⟨z0, z1, z2, z3, z4, z5, -⟩ := hzz.six_
                            go_wp2_with fail
                            refine bodyPost_ret (v := .tuple #[.agg #[.int .i64 wv, .int .i64 hv, .string cv, .int .i64 0, .string (bytes h0), .string (bytes h1)], .bool false]) (by simp [results, Tryz.results115, go_sem, z0, z1, z2, z3, z4, z5]) rfl ⟨HX.out, ?_⟩
                            exact .inl ⟨_, _, _, _, _, _, _, HF.out, rfl, HR.out⟩
                          exact AllReadyH.nil
                    · have w10Z : Blk w10 W.heap.size 24 #[.int .i64 wv, .int .i64 hv, .string cv, .int .i64 0, .string (bytes h0), .string ⟨#[]⟩] := Blk.only w9Z ho10 (by omega)
                      have HR10 := hide hr10
                      have HO10 := hide (HO9.out.trans ho10)
                      have HF10 := hide ((HG8.out (by simp)).1 hc10)
                      clear ho10 hr10 hc10 w9Z HR9 HO9
                      obtain ⟨z0, z1, z2, z3, z4, z5, -⟩ := w10Z.six_
                      refine wp_region_lit ?_
                      refine wpList_plain rfl (fun K hK => ?_)
                      go_simp
                      refine hK _ _ ?_
                      clear hK K
                      refine wpList_plain rfl (fun K hK => ?_)
                      refine wp_store_row 24 (.tmp 2) (.tmp 51) rfl W.heap.size #[.int .i64 wv, .int .i64 hv, .string cv, .int .i64 0, .string (bytes h0), .string ⟨#[]⟩] rfl rfl 24 _ w10Z (by kernel_rfl) (by simp) (by simp [Value.oneCell']) ?_
                      refine hK _ _ ?_
                      clear hK K z0 z1 z2 z3 z4 z5
                      have hzz := setRow_blk6 (vs := #[.int .i64 wv, .int .i64 hv, .string cv, .int .i64 0, .string (bytes h0), .string ⟨#[]⟩]) w10Z
                      have HX := hide (only_setRow (g := W.heap.size) (vs := #[.int .i64 wv, .int .i64 hv, .string cv, .int .i64 0, .string (bytes h0), .string ⟨#[]⟩]) HO10.out (Nat.le_refl _))
                      have HR := hide (rd_setRow (vs := #[.int .i64 wv, .int .i64 hv, .string cv, .int .i64 0, .string (bytes h0), .string ⟨#[]⟩]) HR10.out (show b ≠ W.heap.size by omega))
                      have HF := hide (HF10.out)
                      obtain ⟨wz, hwz⟩ : ∃ wz, World.setRow w10 W.heap.size #[.int .i64 wv, .int .i64 hv, .string cv, .int .i64 0, .string (bytes h0), .string ⟨#[]⟩] = wz := ⟨_, rfl⟩
                      rw [hwz] at hzz HX HR ⊢
                      clear hwz
                      obtain ⟨z0, z1, z2, z3, z4, z5, -⟩ := hzz.six_
                      go_wp2_with fail
                      refine bodyPost_ret (v := .tuple #[.agg #[.int .i64 wv, .int .i64 hv, .string cv, .int .i64 0, .string (bytes h0), .string ⟨#[]⟩], .bool false]) (by simp [results, Tryz.results115, go_sem, z0, z1, z2, z3, z4, z5]) rfl ⟨HX.out, .inl ⟨_, _, _, _, _, _, _, HF.out, rfl, HR.out⟩⟩
                · have w7Z : Blk w7 W.heap.size 24 #[.int .i64 wv, .int .i64 hv, .string cv, .int .i64 0, .string ⟨#[]⟩, .string ⟨#[]⟩] := w6Z.only ho7 (by omega)
                  have HR7 := hide hr7
                  have HO7 := hide (HO6.out.trans ho7)
                  have HF7 := hide (show FailB s.data.toList (k + 1) from fail_turned (by rw [Hlen.out]; exact hk1) Hrt.out hc7)
                  clear ho7 hr7 hc7
                  obtain ⟨z0, z1, z2, z3, z4, z5, -⟩ := w7Z.six_
                  refine wp_region_lit ?_
                  refine wpList_plain rfl (fun K hK => ?_)
                  go_simp
                  refine hK _ _ ?_
                  clear hK K
                  refine wpList_plain rfl (fun K hK => ?_)
                  refine wp_store_row 24 (.tmp 2) (.tmp 36) rfl W.heap.size #[.int .i64 wv, .int .i64 hv, .string cv, .int .i64 0, .string ⟨#[]⟩, .string ⟨#[]⟩] rfl rfl 24 _ w7Z (by kernel_rfl) (by simp) (by simp [Value.oneCell']) ?_
                  refine hK _ _ ?_
                  clear hK K z0 z1 z2 z3 z4 z5
                  have hzz := setRow_blk6 (vs := #[.int .i64 wv, .int .i64 hv, .string cv, .int .i64 0, .string ⟨#[]⟩, .string ⟨#[]⟩]) w7Z
                  have HX := hide (only_setRow (g := W.heap.size) (vs := #[.int .i64 wv, .int .i64 hv, .string cv, .int .i64 0, .string ⟨#[]⟩, .string ⟨#[]⟩]) HO7.out (Nat.le_refl _))
                  have HR := hide (rd_setRow (vs := #[.int .i64 wv, .int .i64 hv, .string cv, .int .i64 0, .string ⟨#[]⟩, .string ⟨#[]⟩]) HR7.out (show b ≠ W.heap.size by omega))
                  have HF := hide (HF7.out)
                  obtain ⟨wz, hwz⟩ : ∃ wz, World.setRow w7 W.heap.size #[.int .i64 wv, .int .i64 hv, .string cv, .int .i64 0, .string ⟨#[]⟩, .string ⟨#[]⟩] = wz := ⟨_, rfl⟩
                  rw [hwz] at hzz HX HR ⊢
                  clear hwz
                  obtain ⟨z0, z1, z2, z3, z4, z5, -⟩ := hzz.six_
                  go_wp2_with fail
                  refine bodyPost_ret (v := .tuple #[.agg #[.int .i64 wv, .int .i64 hv, .string cv, .int .i64 0, .string ⟨#[]⟩, .string ⟨#[]⟩], .bool false]) (by simp [results, Tryz.results115, go_sem, z0, z1, z2, z3, z4, z5]) rfl ⟨HX.out, .inl ⟨_, _, _, _, _, _, _, HF.out, rfl, HR.out⟩⟩
              · have w6Z := w5Z.only ho6 (by omega)
                have HR6 := hide hr6
                have HO6 := hide (HO5.out.trans ho6)
                have HC6 := hide hc6
                clear ho6 hr6 hc6
                go_upto_region 9 with (fail)
                obtain ⟨z0, z1, z2, z3, z4, z5, -⟩ := w6Z.six_
                refine wp_region_lit ?_
                refine wpList_plain rfl (fun K hK => ?_)
                go_simp
                refine hK _ _ ?_
                clear hK K
                refine wpList_plain rfl (fun K hK => ?_)
                refine wp_store_row 24 (.tmp 2) (.tmp 32) rfl W.heap.size #[.int .i64 wv, .int .i64 hv, .string cv, .int .i64 0, .string ⟨#[]⟩, .string ⟨#[]⟩] rfl rfl 24 _ w6Z (by kernel_rfl) (by simp) (by simp [Value.oneCell']) ?_
                refine hK _ _ ?_
                clear hK K z0 z1 z2 z3 z4 z5
                have hzz := setRow_blk6 (vs := #[.int .i64 wv, .int .i64 hv, .string cv, .int .i64 0, .string ⟨#[]⟩, .string ⟨#[]⟩]) w6Z
                have HX := hide (only_setRow (g := W.heap.size) (vs := #[.int .i64 wv, .int .i64 hv, .string cv, .int .i64 0, .string ⟨#[]⟩, .string ⟨#[]⟩]) HO6.out (Nat.le_refl _))
                have HR := hide (rd_setRow (vs := #[.int .i64 wv, .int .i64 hv, .string cv, .int .i64 0, .string ⟨#[]⟩, .string ⟨#[]⟩]) HR6.out (show b ≠ W.heap.size by omega))
                have HF := hide (fail_turn (by rw [Hlen.out]; exact hk) Hrun.out HC5.out HC6.out)
                obtain ⟨wz, hwz⟩ : ∃ wz, World.setRow w6 W.heap.size #[.int .i64 wv, .int .i64 hv, .string cv, .int .i64 0, .string ⟨#[]⟩, .string ⟨#[]⟩] = wz := ⟨_, rfl⟩
                rw [hwz] at hzz HX HR ⊢
                clear hwz
                obtain ⟨z0, z1, z2, z3, z4, z5, -⟩ := hzz.six_
                go_wp2_with fail
                refine bodyPost_ret (v := .tuple #[.agg #[.int .i64 wv, .int .i64 hv, .string cv, .int .i64 0, .string ⟨#[]⟩, .string ⟨#[]⟩], .bool false]) (by simp [results, Tryz.results115, go_sem, z0, z1, z2, z3, z4, z5]) rfl ⟨HX.out, .inl ⟨_, _, _, _, _, _, _, HF.out, rfl, HR.out⟩⟩
          exact AllReadyH.nil
        exact AllReadyH.nil
      exact AllReadyH.nil
    exact AllReadyH.nil
end Go.Proofs.YtcdfeaodfmfdnaaGreatDoor
