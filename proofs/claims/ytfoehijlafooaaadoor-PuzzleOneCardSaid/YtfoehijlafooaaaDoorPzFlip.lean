/- the solver's flip -/
import Derived.Test.YtfoehijlafooaaaDoorPzBox
namespace Go.Proofs.YtfoehijlafooaaaDoor
open Go.RowKit

theorem arrV_upd (n : Nat) (R : Nat → Nat) (a v : Nat) : (arrV n fun p => .int .u64 (R p)).setIfInBounds a (.int .u64 (v : Int)) = arrV n fun p => .int .u64 (updN R a v p) :=
  arrV_set n _ _ a _ (by simp [updN]) (fun j _ hj => by simp [updN, hj])

set_option maxHeartbeats 4000000 in
set_option maxRecDepth 100000 in
theorem flip_any (G : SolB) (r k i c cap most : Nat) (R K B : Nat → Nat) (v : Value) (w : World) (hr : 0 < r) (hk : 0 < k) (hr3 : r ≤ 3) (hk3 : k ≤ 3) (hi : i < r * k * (r * k)) (hc : c < r * k)
    (hS : SolA w G r k cap most R K B v) (hR : ∀ a, a < r * k → R a < 2 ^ (r * k)) (hK : ∀ a, a < r * k → K a < 2 ^ (r * k)) (hB : ∀ a, a < r * k → B a < 2 ^ (r * k))
    (n1 : G.gr ≠ G.gk) (n2 : G.gr ≠ G.gb) (n3 : G.gk ≠ G.gb) :
    Calls Tryd.prog 19 #[.pointer (some ⟨G.gs, 0, none⟩), .int .i64 i, .int .i64 ((c : Int) + 1)] w fun e w' => e = .returned (.tuple #[]) ∧
      SolA w' G r k cap most (updN R (i / (r * k)) (R (i / (r * k)) ^^^ 2 ^ c)) (updN K (i % (r * k)) (K (i % (r * k)) ^^^ 2 ^ c)) (updN B (boxN r k i) (B (boxN r k i) ^^^ 2 ^ c)) v ∧
      Only (fun b => b = G.gr ∨ b = G.gk ∨ b = G.gb) w w' := by
  have HX := hide (fun w c0 c1 c2 => boxOf_any G.gs r k i w hr hk hr3 hk3 hi c0 c1 c2)
  obtain ⟨gs, gc, gr, gk, gb⟩ := G
  obtain ⟨hs0, hs1, hs2, hs3⟩ := hS
  simp only at HX hs0 hs1 hs2 hs3 n1 n2 n3
  have m1 : gs ≠ gr := hs0.ne_ hs1 (by decide)
  have m2 : gs ≠ gk := hs0.ne_ hs2 (by decide)
  have m3 : gs ≠ gb := hs0.ne_ hs3 (by decide)
  have hbx := box_lt hr hk hi
  have hn9 : r * k ≤ 9 := Nat.le_trans (Nat.mul_le_mul hr3 hk3) (by decide)
  have hn0 : 0 < r * k := Nat.mul_pos hr hk
  suffices h : Calls Tryd.prog 19 #[.pointer (some ⟨gs, 0, none⟩), .int .i64 i, .int .i64 ((c : Int) + 1)] w fun e w' => e = .returned (.tuple #[]) ∧
      Blk w' gs 42 #[.int .i64 r, .int .i64 k, .int .i64 (r * k : Nat), .slice (some ⟨gc, 0, none⟩) (r * k * (r * k)) cap, .slice (some ⟨gr, 0, none⟩) (r * k) (r * k), .slice (some ⟨gk, 0, none⟩) (r * k) (r * k), .slice (some ⟨gb, 0, none⟩) (r * k) (r * k), .int .i64 most, v] ∧
      Blk w' gr 43 (arrV (r * k) fun a => .int .u64 (updN R (i / (r * k)) (R (i / (r * k)) ^^^ 2 ^ c) a)) ∧ Blk w' gk 43 (arrV (r * k) fun a => .int .u64 (updN K (i % (r * k)) (K (i % (r * k)) ^^^ 2 ^ c) a)) ∧
      Blk w' gb 43 (arrV (r * k) fun a => .int .u64 (updN B (boxN r k i) (B (boxN r k i) ^^^ 2 ^ c) a)) ∧ Only (fun b => b = gr ∨ b = gk ∨ b = gb) w w' from
    h.mono fun e w' ⟨q0, q1, q2, q3, q4, q5⟩ => ⟨q0, ⟨q1, q2, q3, q4⟩, q5⟩
  obtain ⟨n, hn⟩ : ∃ n, r * k = n := ⟨_, rfl⟩
  obtain ⟨q, hq⟩ : ∃ q, boxN r k i = q := ⟨_, rfl⟩
  rw [hq] at HX hbx ⊢
  rw [hn] at hbx hs0 hs1 hs2 hs3 hn9 hn0 hi hc hR hK hB ⊢
  simp only [hn] at HX
  obtain ⟨a, ha⟩ : ∃ a, i / n = a := ⟨_, rfl⟩
  obtain ⟨b, hb⟩ : ∃ b, i % n = b := ⟨_, rfl⟩
  have e1 : (i : Int).tdiv (n : Int) = (a : Int) := by rw [← ha]; exact (Int.ofNat_tdiv i n).symm
  have e2 : (i : Int).tmod (n : Int) = (b : Int) := by rw [← hb]; exact (Int.ofNat_tmod i n).symm
  have hal : a < n := by rw [← ha]; exact Nat.div_lt_of_lt_mul hi
  have hbl : b < n := by rw [← hb]; exact Nat.mod_lt _ hn0
  have hi81 : i < 81 := Nat.lt_of_lt_of_le hi (Nat.mul_le_mul hn9 hn9)
  rw [ha, hb]
  clear ha hb hq hi
  have p9 : 2 ^ n ≤ 512 := Nat.pow_le_pow_right (by decide) hn9
  have b1 := hR a hal
  have b2 := hK b hbl
  have b3 := hB q hbx
  obtain ⟨X, hX⟩ : ∃ X, R a = X := ⟨_, rfl⟩
  obtain ⟨Y, hY⟩ : ∃ Y, K b = Y := ⟨_, rfl⟩
  obtain ⟨Z, hZ⟩ : ∃ Z, B q = Z := ⟨_, rfl⟩
  have y1 := arrV_get (f := fun a => Value.int .u64 (R a)) hal
  have y2 := arrV_get (f := fun a => Value.int .u64 (K a)) hbl
  have y3 := arrV_get (f := fun a => Value.int .u64 (B a)) hbx
  simp only [hX, hY, hZ] at y1 y2 y3
  rw [hX] at b1 ⊢
  rw [hY] at b2 ⊢
  rw [hZ] at b3 ⊢
  clear hX hY hZ hR hK hB
  have hcp : 2 ^ c < 2 ^ n := Nat.pow_lt_pow_right (by decide) hc
  obtain ⟨M, hM⟩ : ∃ M, 2 ^ c = M := ⟨_, rfl⟩
  rw [hM] at hcp ⊢
  have s0 : ((2 : Int) ^ c) = (M : Int) := by rw [← hM]; simp
  have s1 : IntKind.u64.wrap ((2 : Int) ^ c) = (M : Int) := by rw [s0, IntKind.wrap_u64]; omega
  clear s0 hM
  have s4 : (c : Int) ≤ 64 := by omega
  have o1 := uxor X M (by omega) (by omega)
  have o2 := uxor Y M (by omega) (by omega)
  have o3 := uxor Z M (by omega) (by omega)
  obtain ⟨X', hX'⟩ : ∃ X', X ^^^ M = X' := ⟨_, rfl⟩
  obtain ⟨Y', hY'⟩ : ∃ Y', Y ^^^ M = Y' := ⟨_, rfl⟩
  obtain ⟨Z', hZ'⟩ : ∃ Z', Z ^^^ M = Z' := ⟨_, rfl⟩
  rw [hX'] at o1 ⊢
  rw [hY'] at o2 ⊢
  rw [hZ'] at o3 ⊢
  clear hX' hY' hZ' b1 b2 b3 hcp p9 hn hn0
  have H0 := hide hs0
  have H1 := hide hs1
  have H2 := hide hs2
  have H3 := hide hs3
  have HO := hide (Only.refl (fun b => b = gr ∨ b = gk ∨ b = gb) w)
  clear hs0 hs1 hs2 hs3
  go_enter Tryd.func19, Tryd.ntmps19
  go_upto_region 1 with (fail)
  have x2 : w.cell? ⟨gs, 2, none⟩ = some (.int .i64 (n : Nat)) := H0.out.cellv rfl
  have x4 : w.cell? ⟨gs, 4, none⟩ = some (.slice (some ⟨gr, 0, none⟩) n n) := H0.out.cellv rfl
  have z1 := H1.out.cellv y1
  have f1 := H1.out.free a
  go_big_region
  have H0' := hide ((H0.out.far (p := ⟨gr, a, none⟩) m1 (.int .u64 X')).drew)
  have H1' := hide ((H1.out.set_ a (.int .u64 X')).drew)
  rw [arrV_upd] at H1'
  have H2' := hide ((H2.out.far (p := ⟨gr, a, none⟩) (fun e => n1 e.symm) (.int .u64 X')).drew)
  have H3' := hide ((H3.out.far (p := ⟨gr, a, none⟩) (fun e => n2 e.symm) (.int .u64 X')).drew)
  have HO' := hide ((HO.out.setCell (p := ⟨gr, a, none⟩) (.inl (.inl rfl)) (.int .u64 X')).drew)
  obtain ⟨w1, hw1⟩ : ∃ w1, (w.setCell ⟨gr, a, none⟩ (.int .u64 X')).drew = w1 := ⟨_, rfl⟩
  rw [hw1] at H0' H1' H2' H3' HO' ⊢
  clear H0 H1 H2 H3 HO x2 x4 z1 f1 hw1
  go_upto_region 2 with (fail)
  have x2 : w1.cell? ⟨gs, 2, none⟩ = some (.int .i64 (n : Nat)) := H0'.out.cellv rfl
  have x5 : w1.cell? ⟨gs, 5, none⟩ = some (.slice (some ⟨gk, 0, none⟩) n n) := H0'.out.cellv rfl
  have z1 := H2'.out.cellv y2
  have f1 := H2'.out.free b
  go_big_region
  have H0 := hide ((H0'.out.far (p := ⟨gk, b, none⟩) m2 (.int .u64 Y')).drew)
  have H1 := hide ((H1'.out.far (p := ⟨gk, b, none⟩) n1 (.int .u64 Y')).drew)
  have H2 := hide ((H2'.out.set_ b (.int .u64 Y')).drew)
  rw [arrV_upd] at H2
  have H3 := hide ((H3'.out.far (p := ⟨gk, b, none⟩) (fun e => n3 e.symm) (.int .u64 Y')).drew)
  have HO := hide ((HO'.out.setCell (p := ⟨gk, b, none⟩) (.inl (.inr (.inl rfl))) (.int .u64 Y')).drew)
  obtain ⟨w2, hw2⟩ : ∃ w2, (w1.setCell ⟨gk, b, none⟩ (.int .u64 Y')).drew = w2 := ⟨_, rfl⟩
  rw [hw2] at H0 H1 H2 H3 HO ⊢
  clear H0' H1' H2' H3' HO' x2 x5 z1 f1 hw2
  go_upto_region 3 with (fail)
  have x0 : w2.cell? ⟨gs, 0, none⟩ = some (.int .i64 r) := H0.out.cellv rfl
  have x1 : w2.cell? ⟨gs, 1, none⟩ = some (.int .i64 k) := H0.out.cellv rfl
  have x2 : w2.cell? ⟨gs, 2, none⟩ = some (.int .i64 (n : Nat)) := H0.out.cellv rfl
  have x6 : w2.cell? ⟨gs, 6, none⟩ = some (.slice (some ⟨gb, 0, none⟩) n n) := H0.out.cellv rfl
  have z1 := H3.out.cellv y3
  have f1 := H3.out.free q
  go_region_with (go_at_call 22; refine (HX.out w2.drew x0 x1 x2).mono ?_; rintro e w3 ⟨rfl, m, rfl⟩)
  all_goals
    go_wp2_with fail
    (try simp only [Exit.inBlock, Exit.then])
    refine bodyPost_end (results_none rfl _ _ _) rfl ?_
    refine ⟨rfl, (H0.out.drewN _).far (p := ⟨gb, q, none⟩) m3 _, (H1.out.drewN _).far (p := ⟨gb, q, none⟩) n2 _, (H2.out.drewN _).far (p := ⟨gb, q, none⟩) n3 _, ?_, (HO.out.drewN _).setCell (p := ⟨gb, q, none⟩) (.inl (.inr (.inr rfl))) _⟩
    have h := (H3.out.drewN (1 + m)).set_ q (.int .u64 Z')
    rw [arrV_upd] at h
    exact h
end Go.Proofs.YtfoehijlafooaaaDoor
