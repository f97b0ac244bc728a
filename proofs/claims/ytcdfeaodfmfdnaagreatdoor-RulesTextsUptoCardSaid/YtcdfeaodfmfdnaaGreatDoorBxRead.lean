/- board.Read: walked. -/
import Derived.Test.YtcdfeaodfmfdnaaGreatDoorBxPos
namespace Go.Proofs.YtcdfeaodfmfdnaaGreatDoor
open Go.RowKit

theorem setRow_blk2 {w : World} {g : Nat} {t : TypeId} {old vs : Array Value} (h : Blk w g t old) : Blk (w.setRow g vs) g t vs := setRow_heap _ _ _ _ _ _ h
theorem setRow_far {w : World} {g k : Nat} {t : TypeId} {x vs : Array Value} (h : Blk w k t x) (hk : k ≠ g) : Blk (w.setRow g vs) k t x := (setRow_other _ _ _ _ hk).trans h
theorem Blk.two_ {w : World} {g : Nat} {t : TypeId} {a b : Value} (h : Blk w g t #[a, b]) :
    w.cell? ⟨g, 0, none⟩ = some a ∧ w.cell? ⟨g, 1, none⟩ = some b ∧ w.frozen? ⟨g, 0, none⟩ = false ∧ w.frozen? ⟨g, 1, none⟩ = false := ⟨h.cellv rfl, h.cellv rfl, h.free 0, h.free 1⟩
/-- what Read and Parsed say -/
def SaysB (s : ByteArray) (W : World) (e : Ending) (w' : World) : Prop :=
  (∃ p code at_, ReadP s.data.toList p code at_ ∧ e = .returned (.tuple #[.agg #[.int .i64 p.w, .int .i64 p.h, .string p.cells, .int .i64 p.turn, .string p.h0, .string p.h1], .agg #[.int .i64 code, .int .i64 at_]])) ∧ Only (fun _ => False) W w'
set_option maxHeartbeats 16000000 in
set_option maxRecDepth 100000 in
theorem read_any (s : ByteArray) (W : World) (hs : s.size ≤ 9223372036854775806) :
    Calls Tryz.prog 74 #[.string s] W (SaysB s W) := by
  go_enter Tryz.func74, Tryz.ntmps74
  go_upto_region 2 with (fail)
  have HZ0 := hide (show Blk (((W.alloc (.cells #[.int .i64 0, .int .i64 0, .string ⟨#[]⟩, .int .i64 0, .string ⟨#[]⟩, .string ⟨#[]⟩] 24)).alloc (.cells #[.int .i64 0, .int .i64 0] 32)).alloc (.cells #[.string s, .int .i64 0] 174)) W.heap.size 24 #[.int .i64 0, .int .i64 0, .string ⟨#[]⟩, .int .i64 0, .string ⟨#[]⟩, .string ⟨#[]⟩] from ((Blk.new W _ _).alloc _).alloc _)
  have HF0 := hide (show Blk (((W.alloc (.cells #[.int .i64 0, .int .i64 0, .string ⟨#[]⟩, .int .i64 0, .string ⟨#[]⟩, .string ⟨#[]⟩] 24)).alloc (.cells #[.int .i64 0, .int .i64 0] 32)).alloc (.cells #[.string s, .int .i64 0] 174)) (W.heap.size + 1) 32 #[.int .i64 0, .int .i64 0] from (by have h := Blk.new (W.alloc (.cells #[.int .i64 0, .int .i64 0, .string ⟨#[]⟩, .int .i64 0, .string ⟨#[]⟩, .string ⟨#[]⟩] 24)) 32 #[.int .i64 0, .int .i64 0]; rw [World.size_alloc] at h; exact h.alloc _))
  have hr0 : RdAt (((W.alloc (.cells #[.int .i64 0, .int .i64 0, .string ⟨#[]⟩, .int .i64 0, .string ⟨#[]⟩, .string ⟨#[]⟩] 24)).alloc (.cells #[.int .i64 0, .int .i64 0] 32)).alloc (.cells #[.string s, .int .i64 0] 174)) (W.heap.size + 2) s 0 := (by have h := Blk.new ((W.alloc (.cells #[.int .i64 0, .int .i64 0, .string ⟨#[]⟩, .int .i64 0, .string ⟨#[]⟩, .string ⟨#[]⟩] 24)).alloc (.cells #[.int .i64 0, .int .i64 0] 32)) 174 #[.string s, .int .i64 0]; rw [World.size_alloc, World.size_alloc] at h; exact h)
  have HR0 := hide hr0
  have HO0 := hide (show Only (fun _ => False) W (((W.alloc (.cells #[.int .i64 0, .int .i64 0, .string ⟨#[]⟩, .int .i64 0, .string ⟨#[]⟩, .string ⟨#[]⟩] 24)).alloc (.cells #[.int .i64 0, .int .i64 0] 32)).alloc (.cells #[.string s, .int .i64 0] 174)) from (((Only.refl _ W).alloc _).alloc _).alloc _)
  have hsz0 : (((W.alloc (.cells #[.int .i64 0, .int .i64 0, .string ⟨#[]⟩, .int .i64 0, .string ⟨#[]⟩, .string ⟨#[]⟩] 24)).alloc (.cells #[.int .i64 0, .int .i64 0] 32)).alloc (.cells #[.string s, .int .i64 0] 174)).heap.size = W.heap.size + 3 := by simp only [World.size_alloc]
  obtain ⟨w0, hw0⟩ : ∃ w0, (((W.alloc (.cells #[.int .i64 0, .int .i64 0, .string ⟨#[]⟩, .int .i64 0, .string ⟨#[]⟩, .string ⟨#[]⟩] 24)).alloc (.cells #[.int .i64 0, .int .i64 0] 32)).alloc (.cells #[.string s, .int .i64 0] 174)) = w0 := ⟨_, rfl⟩
  rw [hw0] at HZ0 HF0 HR0 HO0 hsz0 ⊢
  clear hw0 hr0
  have Hp := hide (position_read (W.heap.size + 2) s w0 HR0.out hs)
  go_upto_region 3 with (go_at_call 115; refine Hp.out.mono ?_; rintro e w1 ⟨ho, ⟨k, a0, a1, a2, a3, a4, a5, hf, rfl, hr⟩ | ⟨st, p, hrun, hacc, rfl, rfl, hr⟩⟩)
  · have HP3 := hide (Blk.alloc (HZ0.out.only ho (by omega)) (.cells #[.int .i64 a0, .int .i64 a1, .string a2, .int .i64 a3, .string a4, .string a5] 24))
    have HQ3 := hide (Blk.alloc (HF0.out.only ho (by omega)) (.cells #[.int .i64 a0, .int .i64 a1, .string a2, .int .i64 a3, .string a4, .string a5] 24))
    have HR3 := hide (show RdAt _ (W.heap.size + 2) s k from Blk.alloc hr (.cells #[.int .i64 a0, .int .i64 a1, .string a2, .int .i64 a3, .string a4, .string a5] 24))
    have HO3 := hide ((HO0.out.trans' ho (fun i hi hs => by omega)).alloc (.cells #[.int .i64 a0, .int .i64 a1, .string a2, .int .i64 a3, .string a4, .string a5] 24))
    have HF := hide hf
    clear ho hr hf HZ0 HF0 HR0 HO0 Hp
    go_upto_region 4 with (fail)
    obtain ⟨w3, hw3⟩ : ∃ w3, w1.alloc (.cells #[.int .i64 a0, .int .i64 a1, .string a2, .int .i64 a3, .string a4, .string a5] 24) = w3 := ⟨_, rfl⟩
    rw [hw3] at HP3 HQ3 HR3 HO3 ⊢
    clear hw3
    have HR3d := hide (show Blk w3.drew (W.heap.size + 2) 174 #[.string s, .int .i64 (k : Int)] from HR3.out)
    have hPd : Blk w3.drew W.heap.size 24 #[.int .i64 0, .int .i64 0, .string ⟨#[]⟩, .int .i64 0, .string ⟨#[]⟩, .string ⟨#[]⟩] := HP3.out
    have hQd : Blk w3.drew (W.heap.size + 1) 32 #[.int .i64 0, .int .i64 0] := HQ3.out
    have hOd : Only (fun _ => False) W w3.drew := HO3.out.drew
    have HB4 := hide (And.intro hPd (show Blk (w3.drew.setRow (W.heap.size + 1) #[.int .i64 3, .int .i64 (k : Int)]) W.heap.size 24 #[.int .i64 0, .int .i64 0, .string ⟨#[]⟩, .int .i64 0, .string ⟨#[]⟩, .string ⟨#[]⟩] from setRow_far hPd (by omega)))
    have HC4 := hide (And.intro hQd (show Blk (w3.drew.setRow W.heap.size #[.int .i64 0, .int .i64 0, .string ⟨#[]⟩, .int .i64 0, .string ⟨#[]⟩, .string ⟨#[]⟩]) (W.heap.size + 1) 32 #[.int .i64 0, .int .i64 0] from setRow_far hQd (by omega)))
    have HS4 := hide (show ∀ w' : World, (w' = w3.drew ∨ w' = (w3.drew.setRow W.heap.size #[.int .i64 0, .int .i64 0, .string ⟨#[]⟩, .int .i64 0, .string ⟨#[]⟩, .string ⟨#[]⟩]) ∨ w' = (w3.drew.setRow (W.heap.size + 1) #[.int .i64 3, .int .i64 (k : Int)]) ∨ w' = ((w3.drew.setRow W.heap.size #[.int .i64 0, .int .i64 0, .string ⟨#[]⟩, .int .i64 0, .string ⟨#[]⟩, .string ⟨#[]⟩]).setRow (W.heap.size + 1) #[.int .i64 3, .int .i64 (k : Int)]) ∨ w' = ((w3.drew.setRow (W.heap.size + 1) #[.int .i64 3, .int .i64 (k : Int)]).setRow W.heap.size #[.int .i64 0, .int .i64 0, .string ⟨#[]⟩, .int .i64 0, .string ⟨#[]⟩, .string ⟨#[]⟩])) → (w'.cell? ⟨W.heap.size + 2, 1, none⟩ = some (.int .i64 (k : Int))) from fun w' h => by
      rcases h with rfl | rfl | rfl | rfl | rfl
      · exact Blk.cellv HR3d.out rfl
      · exact Blk.cellv (setRow_far HR3d.out (by omega)) rfl
      · exact Blk.cellv (setRow_far HR3d.out (by omega)) rfl
      · exact Blk.cellv (setRow_far (setRow_far HR3d.out (by omega)) (by omega)) rfl
      · exact Blk.cellv (setRow_far (setRow_far HR3d.out (by omega)) (by omega)) rfl)
    have HE4 := hide (show (Blk ((w3.drew.setRow W.heap.size #[.int .i64 0, .int .i64 0, .string ⟨#[]⟩, .int .i64 0, .string ⟨#[]⟩, .string ⟨#[]⟩]).setRow (W.heap.size + 1) #[.int .i64 3, .int .i64 (k : Int)]) W.heap.size 24 #[.int .i64 0, .int .i64 0, .string ⟨#[]⟩, .int .i64 0, .string ⟨#[]⟩, .string ⟨#[]⟩] ∧ Blk ((w3.drew.setRow W.heap.size #[.int .i64 0, .int .i64 0, .string ⟨#[]⟩, .int .i64 0, .string ⟨#[]⟩, .string ⟨#[]⟩]).setRow (W.heap.size + 1) #[.int .i64 3, .int .i64 (k : Int)]) (W.heap.size + 1) 32 #[.int .i64 3, .int .i64 (k : Int)] ∧ Only (fun _ => False) W ((w3.drew.setRow W.heap.size #[.int .i64 0, .int .i64 0, .string ⟨#[]⟩, .int .i64 0, .string ⟨#[]⟩, .string ⟨#[]⟩]).setRow (W.heap.size + 1) #[.int .i64 3, .int .i64 (k : Int)])) ∧ (Blk ((w3.drew.setRow (W.heap.size + 1) #[.int .i64 3, .int .i64 (k : Int)]).setRow W.heap.size #[.int .i64 0, .int .i64 0, .string ⟨#[]⟩, .int .i64 0, .string ⟨#[]⟩, .string ⟨#[]⟩]) W.heap.size 24 #[.int .i64 0, .int .i64 0, .string ⟨#[]⟩, .int .i64 0, .string ⟨#[]⟩, .string ⟨#[]⟩] ∧ Blk ((w3.drew.setRow (W.heap.size + 1) #[.int .i64 3, .int .i64 (k : Int)]).setRow W.heap.size #[.int .i64 0, .int .i64 0, .string ⟨#[]⟩, .int .i64 0, .string ⟨#[]⟩, .string ⟨#[]⟩]) (W.heap.size + 1) 32 #[.int .i64 3, .int .i64 (k : Int)] ∧ Only (fun _ => False) W ((w3.drew.setRow (W.heap.size + 1) #[.int .i64 3, .int .i64 (k : Int)]).setRow W.heap.size #[.int .i64 0, .int .i64 0, .string ⟨#[]⟩, .int .i64 0, .string ⟨#[]⟩, .string ⟨#[]⟩])) from
      ⟨⟨setRow_far (setRow_blk2 hPd) (by omega), setRow_blk2 HC4.out.2, only_setRow (only_setRow hOd (Nat.le_refl _)) (by omega)⟩, ⟨setRow_blk2 HB4.out.2, setRow_far (setRow_blk2 hQd) (by omega), only_setRow (only_setRow hOd (by omega)) (Nat.le_refl _)⟩⟩)
    clear hPd hQd hOd HR3d HP3 HQ3 HR3 HO3
    refine wp_region_held_drew (S := fun w' : World => (w'.cell? ⟨W.heap.size + 2, 1, none⟩ = some (.int .i64 (k : Int)))) (by kernel_rfl) (HS4.out _ (.inl rfl)) (fun hHeld => ?_)
    refine wpAnyH_take (i := 0) (oi := ⟨some 17, _, _, _, _, _⟩) (v := ?_) rfl (by kernel_rfl) (by kernel_rfl) (by kernel_rfl) (fun _ _ _ h => h) (Or.inl ⟨by rfl, ?_⟩) (by assumption) ?_
    rotate_left 1
    · intro w hSw
      try dsimp only at hSw
      go_simp <;> with_reducible rfl
    try simp only [Act.put, List.setIfInBounds_toArray, List.set_cons_zero, List.set_cons_succ]
    refine wpAnyH_take (i := 1) (oi := ⟨some 18, _, _, _, _, _⟩) (v := ?_) rfl (by kernel_rfl) (by kernel_rfl) (by kernel_rfl) (fun _ _ _ h => h) (Or.inl ⟨by rfl, ?_⟩) (by assumption) ?_
    rotate_left 1
    · intro w hSw
      try dsimp only at hSw
      go_simp <;> with_reducible rfl
    try simp only [Act.put, List.setIfInBounds_toArray, List.set_cons_zero, List.set_cons_succ]
    refine wpAnyH_take (i := 2) (oi := ⟨some 19, _, _, _, _, _⟩) (v := ?_) rfl (by kernel_rfl) (by kernel_rfl) (by kernel_rfl) (fun _ _ _ h => h) (Or.inl ⟨by rfl, ?_⟩) (by assumption) ?_
    rotate_left 1
    · intro w hSw
      try dsimp only at hSw
      go_simp <;> with_reducible rfl
    try simp only [Act.put, List.setIfInBounds_toArray, List.set_cons_zero, List.set_cons_succ]
    refine wpAnyH_take (i := 3) (oi := ⟨some 20, _, _, _, _, _⟩) (v := ?_) rfl (by kernel_rfl) (by kernel_rfl) (by kernel_rfl) (fun _ _ _ h => h) (Or.inl ⟨by rfl, ?_⟩) (by assumption) ?_
    rotate_left 1
    · intro w hSw
      try dsimp only at hSw
      go_simp <;> with_reducible rfl
    try simp only [Act.put, List.setIfInBounds_toArray, List.set_cons_zero, List.set_cons_succ]
    refine wpAnyH_take (i := 4) (oi := ⟨some 21, _, _, _, _, _⟩) (v := ?_) rfl (by kernel_rfl) (by kernel_rfl) (by kernel_rfl) (fun _ _ _ h => h) (Or.inl ⟨by rfl, ?_⟩) (by assumption) ?_
    rotate_left 1
    · intro w hSw
      try dsimp only at hSw
      go_simp <;> with_reducible rfl
    try simp only [Act.put, List.setIfInBounds_toArray, List.set_cons_zero, List.set_cons_succ]
    refine wpAnyH_take (i := 5) (oi := ⟨some 22, _, _, _, _, _⟩) (v := ?_) rfl (by kernel_rfl) (by kernel_rfl) (by kernel_rfl) (fun _ _ _ h => h) (Or.inl ⟨by rfl, ?_⟩) (by assumption) ?_
    rotate_left 1
    · intro w hSw
      try dsimp only at hSw
      go_simp <;> with_reducible rfl
    try simp only [Act.put, List.setIfInBounds_toArray, List.set_cons_zero, List.set_cons_succ]
    refine wpAnyH_ready (rs := [6]) (by kernel_rfl) (by simp) ?_
    refine AllReadyH.cons (o := ⟨none, _, _, _, _, _⟩) rfl (fun K hK => ?_) ?_
    · clear hHeld
      rw [if_pos (by rfl)]
      refine wp_store_row 24 (.tmp 2) (.tmp 17) rfl W.heap.size #[.int .i64 0, .int .i64 0, .string ⟨#[]⟩, .int .i64 0, .string ⟨#[]⟩, .string ⟨#[]⟩] rfl rfl 24 _ (by first | exact HB4.out.1 | exact HB4.out.2) (by kernel_rfl) (by simp) (by simp [Value.oneCell']) ?_
      refine hK.out _ _ (by refine HS4.out _ ?_; first | exact .inl rfl | exact .inr (.inl rfl) | exact .inr (.inr (.inl rfl)) | exact .inr (.inr (.inr (.inl rfl))) | exact .inr (.inr (.inr (.inr rfl)))) (fun hHeld => ?_)
      clear hK K
      try simp only [Act.put]
      refine wpAnyH_ready (rs := [7]) (by kernel_rfl) (by simp) ?_
      refine AllReadyH.cons (o := ⟨none, _, _, _, _, _⟩) rfl (fun K hK => ?_) ?_
      · clear hHeld
        rw [if_pos (by rfl)]
        refine wp_store_row 32 (.tmp 3) (.tmp 22) rfl (W.heap.size + 1) #[.int .i64 3, .int .i64 (k : Int)] rfl rfl 32 _ (by first | exact HC4.out.1 | exact HC4.out.2) (by kernel_rfl) (by simp) (by simp [Value.oneCell']) ?_
        refine hK.out _ _ (by refine HS4.out _ ?_; first | exact .inl rfl | exact .inr (.inl rfl) | exact .inr (.inr (.inl rfl)) | exact .inr (.inr (.inr (.inl rfl))) | exact .inr (.inr (.inr (.inr rfl)))) (fun hHeld => ?_)
        clear hK K
        try simp only [Act.put]
        refine wpAnyH_done (by kernel_rfl) ?_ _
        go_wp2_with fail
        first
          | (obtain ⟨hp, hq, ho⟩ := HE4.out.1
             obtain ⟨p0, p1, p2, p3, p4, p5, -⟩ := hp.six_
             obtain ⟨q0, q1, -⟩ := hq.two_
             exact bodyPost_ret (v := .tuple #[.agg #[.int .i64 0, .int .i64 0, .string ⟨#[]⟩, .int .i64 0, .string ⟨#[]⟩, .string ⟨#[]⟩], .agg #[.int .i64 3, .int .i64 (k : Int)]]) (by simp [results, Tryz.results74, go_sem, p0, p1, p2, p3, p4, p5, q0, q1]) rfl ⟨⟨zeroPos, 3, (k : Int), .inl ⟨k, HF.out, rfl, rfl, rfl⟩, rfl⟩, ho⟩)
          | (obtain ⟨hp, hq, ho⟩ := HE4.out.2
             obtain ⟨p0, p1, p2, p3, p4, p5, -⟩ := hp.six_
             obtain ⟨q0, q1, -⟩ := hq.two_
             exact bodyPost_ret (v := .tuple #[.agg #[.int .i64 0, .int .i64 0, .string ⟨#[]⟩, .int .i64 0, .string ⟨#[]⟩, .string ⟨#[]⟩], .agg #[.int .i64 3, .int .i64 (k : Int)]]) (by simp [results, Tryz.results74, go_sem, p0, p1, p2, p3, p4, p5, q0, q1]) rfl ⟨⟨zeroPos, 3, (k : Int), .inl ⟨k, HF.out, rfl, rfl, rfl⟩, rfl⟩, ho⟩)
      exact AllReadyH.nil
    exact AllReadyH.nil
  · obtain ⟨Q, hQ⟩ : ∃ Q, finB st = Q := ⟨_, rfl⟩
    rw [hQ]
    have HP3 := hide (Blk.alloc (HZ0.out.only ho (by omega)) (.cells #[.int .i64 Q.w, .int .i64 Q.h, .string Q.cells, .int .i64 Q.turn, .string Q.h0, .string Q.h1] 24))
    have HQ3 := hide (Blk.alloc (HF0.out.only ho (by omega)) (.cells #[.int .i64 Q.w, .int .i64 Q.h, .string Q.cells, .int .i64 Q.turn, .string Q.h0, .string Q.h1] 24))
    have hX := Blk.new w1 24 #[.int .i64 Q.w, .int .i64 Q.h, .string Q.cells, .int .i64 Q.turn, .string Q.h0, .string Q.h1]
    have HO3 := hide ((HO0.out.trans' ho (fun i hi hs => by omega)).alloc (.cells #[.int .i64 Q.w, .int .i64 Q.h, .string Q.cells, .int .i64 Q.turn, .string Q.h0, .string Q.h1] 24))
    have HRn := hide (And.intro hrun (And.intro hacc hQ))
    have h1lt : W.heap.size + 3 ≤ w1.heap.size := by have := ho.size; omega
    clear ho hr hrun hacc hQ HZ0 HF0 HR0 HO0 Hp
    go_upto_region 5 with (fail)
    obtain ⟨w3, hw3⟩ : ∃ w3, w1.alloc (.cells #[.int .i64 Q.w, .int .i64 Q.h, .string Q.cells, .int .i64 Q.turn, .string Q.h0, .string Q.h1] 24) = w3 := ⟨_, rfl⟩
    rw [hw3] at HP3 HQ3 HO3 hX ⊢
    clear hw3
    obtain ⟨y0, y1, y2, y3, y4, y5, -⟩ := hX.six_
    refine wp_region_lit ?_
    refine wpList_plain rfl (fun K hK => ?_)
    go_simp
    refine hK _ _ ?_
    clear hK K y0 y1 y2 y3 y4 y5
    refine wpList_plain rfl (fun K hK => ?_)
    go_simp
    refine hK _ _ ?_
    clear hK K
    refine wpList_plain rfl (fun K hK => ?_)
    refine wp_store_row 24 (.tmp 2) (.tmp 23) rfl W.heap.size #[.int .i64 Q.w, .int .i64 Q.h, .string Q.cells, .int .i64 Q.turn, .string Q.h0, .string Q.h1] rfl rfl 24 _ HP3.out (by kernel_rfl) (by simp) (by simp [Value.oneCell']) ?_
    refine hK _ _ ?_
    clear hK K
    have HP4 := hide (setRow_blk2 (vs := #[.int .i64 Q.w, .int .i64 Q.h, .string Q.cells, .int .i64 Q.turn, .string Q.h0, .string Q.h1]) HP3.out)
    have HQ4 := hide (setRow_far (g := W.heap.size) (vs := #[.int .i64 Q.w, .int .i64 Q.h, .string Q.cells, .int .i64 Q.turn, .string Q.h0, .string Q.h1]) HQ3.out (show W.heap.size + 1 ≠ W.heap.size by omega))
    have HO4 := hide (only_setRow (vs := #[.int .i64 Q.w, .int .i64 Q.h, .string Q.cells, .int .i64 Q.turn, .string Q.h0, .string Q.h1]) HO3.out (Nat.le_refl _))
    refine wpList_plain rfl (fun K hK => ?_)
    refine wp_store_row 32 (.tmp 3) (.tmp 24) rfl (W.heap.size + 1) #[.int .i64 0, .int .i64 0] rfl rfl 32 _ HQ4.out (by kernel_rfl) (by simp) (by simp [Value.oneCell']) ?_
    refine hK _ _ ?_
    clear hK K
    have hO5 := only_setRow (g := W.heap.size + 1) (vs := #[.int .i64 0, .int .i64 0]) HO4.out (by omega)
    have hP5 := setRow_far (g := W.heap.size + 1) (vs := #[.int .i64 0, .int .i64 0]) HP4.out (show W.heap.size ≠ W.heap.size + 1 by omega)
    have hQ5 := setRow_blk2 (vs := #[.int .i64 0, .int .i64 0]) HQ4.out
    obtain ⟨z0, z1, z2, z3, z4, z5, -⟩ := hP5.six_
    obtain ⟨q0, q1, -⟩ := hQ5.two_
    go_wp2_with fail
    refine bodyPost_ret (v := .tuple #[.agg #[.int .i64 Q.w, .int .i64 Q.h, .string Q.cells, .int .i64 Q.turn, .string Q.h0, .string Q.h1], .agg #[.int .i64 0, .int .i64 0]]) (by simp [results, Tryz.results74, go_sem, z0, z1, z2, z3, z4, z5, q0, q1]) rfl ⟨⟨Q, 0, 0, .inr ⟨st, HRn.out.1, HRn.out.2.1, HRn.out.2.2.symm, rfl, rfl⟩, rfl⟩, hO5⟩
end Go.Proofs.YtcdfeaodfmfdnaaGreatDoor
