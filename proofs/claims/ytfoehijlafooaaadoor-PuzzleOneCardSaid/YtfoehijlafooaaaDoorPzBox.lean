/- the solver's boxOf, free and flip -/
import Derived.Test.YtfoehijlafooaaaDoorPzTz
import Derived.Test.YtfoehijlafooaaaDoorAppends
import Derived.BigRegion
namespace Go.Proofs.YtfoehijlafooaaaDoor
open Go.RowKit

set_option maxHeartbeats 2000000 in
set_option maxRecDepth 100000 in
theorem boxOf_any (gs r k i : Nat) (w : World) (hr : 0 < r) (hk : 0 < k) (hr3 : r ≤ 3) (hk3 : k ≤ 3) (hi : i < r * k * (r * k))
    (c0 : w.cell? ⟨gs, 0, none⟩ = some (.int .i64 r)) (c1 : w.cell? ⟨gs, 1, none⟩ = some (.int .i64 k)) (c2 : w.cell? ⟨gs, 2, none⟩ = some (.int .i64 (r * k : Nat))) :
    Calls Tryd.prog 22 #[.pointer (some ⟨gs, 0, none⟩), .int .i64 i] w fun e w' => e = .returned (.int .i64 (boxN r k i)) ∧ ∃ n, w' = w.drewN n := by
  obtain ⟨n, hn⟩ : ∃ n, r * k = n := ⟨_, rfl⟩
  have hn0 : 0 < n := by rw [← hn]; exact Nat.mul_pos hr hk
  have hn9 : n ≤ 9 := by rw [← hn]; exact Nat.le_trans (Nat.mul_le_mul hr3 hk3) (by decide)
  unfold boxN
  rw [hn] at hi c2 ⊢
  have hi81 : i < 81 := Nat.lt_of_lt_of_le hi (Nat.mul_le_mul hn9 hn9)
  obtain ⟨a, ha⟩ : ∃ a, i / n = a := ⟨_, rfl⟩
  obtain ⟨b, hb⟩ : ∃ b, i % n = b := ⟨_, rfl⟩
  obtain ⟨p, hp⟩ : ∃ p, a / r = p := ⟨_, rfl⟩
  obtain ⟨q, hq⟩ : ∃ q, b / k = q := ⟨_, rfl⟩
  have e1 : (i : Int).tdiv (n : Int) = (a : Int) := by rw [← ha]; exact (Int.ofNat_tdiv i n).symm
  have e2 : (i : Int).tmod (n : Int) = (b : Int) := by rw [← hb]; exact (Int.ofNat_tmod i n).symm
  have e3 : (a : Int).tdiv (r : Int) = (p : Int) := by rw [← hp]; exact (Int.ofNat_tdiv a r).symm
  have e4 : (b : Int).tdiv (k : Int) = (q : Int) := by rw [← hq]; exact (Int.ofNat_tdiv b k).symm
  have ha81 : a < 81 := by rw [← ha]; exact Nat.lt_of_le_of_lt (Nat.div_le_self _ _) hi81
  have hp81 : p < 81 := by rw [← hp]; exact Nat.lt_of_le_of_lt (Nat.div_le_self _ _) ha81
  have hb81 : b < 81 := by rw [← hb]; exact Nat.lt_of_le_of_lt (Nat.mod_le _ _) hi81
  have hq81 : q < 81 := by rw [← hq]; exact Nat.lt_of_le_of_lt (Nat.div_le_self _ _) hb81
  have hm : p * r ≤ 81 * 3 := Nat.mul_le_mul (by omega) hr3
  rw [ha, hb, hp, hq]
  obtain ⟨m, hmm⟩ : ∃ m, p * r = m := ⟨_, rfl⟩
  have e5 : (p : Int) * (r : Int) = (m : Int) := by rw [← hmm]; simp
  rw [hmm] at hm ⊢
  have e6 : IntKind.i64.wrap ((p : Int) * (r : Int)) = (m : Int) := by rw [e5]; exact IntWalk.i64_in _ (by omega)
  have e7 : IntKind.i64.wrap ((m : Int) + (q : Int)) = (m : Int) + (q : Int) := IntWalk.i64_in _ (by omega)
  clear ha hb hp hq hmm hn hi
  go_enter Tryd.func22, Tryd.ntmps22
  go_wp2_with fail
  go_big_region
  go_wp2_with fail
  go_ret
  exact ⟨by simp [go_sem], _, rfl⟩

theorem quiet_call {P : Program} {f : FuncId} {args : Array Value} {w : World} {n : Nat} {v : Value}
    (h : Calls P f args (w.drewN n) fun e w' => e = .returned v ∧ ∃ m, w' = (w.drewN n).drewN m) : Calls P f args (w.drewN n) fun e w' => e = .returned v ∧ ∃ m, w' = w.drewN m :=
  h.mono fun _ _ ⟨h1, _, h2⟩ => ⟨h1, _, h2.trans (World.drewN_drewN _ _ _)⟩

/-- the five blocks of a solver -/
structure SolB where
  (gs gc gr gk gb : Nat)
/-- what a solver reads and does not change -/
structure SolA (w : World) (G : SolB) (r k : Nat) (cap most : Nat) (R K B : Nat → Nat) (v : Value) : Prop where
  box : Blk w G.gs 42 #[.int .i64 r, .int .i64 k, .int .i64 (r * k : Nat), .slice (some ⟨G.gc, 0, none⟩) (r * k * (r * k)) cap, .slice (some ⟨G.gr, 0, none⟩) (r * k) (r * k), .slice (some ⟨G.gk, 0, none⟩) (r * k) (r * k), .slice (some ⟨G.gb, 0, none⟩) (r * k) (r * k), .int .i64 most, v]
  row : Blk w G.gr 43 (arrV (r * k) fun a => .int .u64 (R a))
  col : Blk w G.gk 43 (arrV (r * k) fun a => .int .u64 (K a))
  sq : Blk w G.gb 43 (arrV (r * k) fun a => .int .u64 (B a))

theorem u64_bit (c : Nat) (hc : c < 4294967296) : (BitVec.ofInt 64 (c : Int)).toNat = c := by
  rw [BitVec.ofInt_natCast, BitVec.toNat_ofNat]; exact Nat.mod_eq_of_lt (by omega)
theorem uxor (a b : Nat) (ha : a < 4294967296) (hb : b < 4294967296) : bits .xor .u64 (a : Int) (b : Int) = ((a ^^^ b : Nat) : Int) := by
  have hx : a ^^^ b < 2 ^ 63 := Nat.xor_lt_two_pow (by omega) (by omega)
  show IntKind.u64.wrap ((BitVec.ofInt 64 (a : Int) ^^^ BitVec.ofInt 64 (b : Int)).toNat : Int) = _
  rw [BitVec.toNat_xor, u64_bit a ha, u64_bit b hb, IntKind.wrap_u64]
  omega
theorem uand (a b : Nat) (ha : a < 4294967296) (hb : b < 4294967296) : bits .and .u64 (a : Int) (b : Int) = ((a &&& b : Nat) : Int) := by
  have hx : a &&& b < 2 ^ 63 := Nat.and_lt_two_pow _ (by omega)
  show IntKind.u64.wrap ((BitVec.ofInt 64 (a : Int) &&& BitVec.ofInt 64 (b : Int)).toNat : Int) = _
  rw [BitVec.toNat_and, u64_bit a ha, u64_bit b hb, IntKind.wrap_u64]
  omega
theorem uor (a b : Nat) (ha : a < 4294967296) (hb : b < 4294967296) : bits .or .u64 (a : Int) (b : Int) = ((a ||| b : Nat) : Int) := by
  have hx : a ||| b < 2 ^ 63 := Nat.or_lt_two_pow (by omega) (by omega)
  show IntKind.u64.wrap ((BitVec.ofInt 64 (a : Int) ||| BitVec.ofInt 64 (b : Int)).toNat : Int) = _
  rw [BitVec.toNat_or, u64_bit a ha, u64_bit b hb, IntKind.wrap_u64]
  omega

theorem uandnot (a b : Nat) (ha : a < 4294967296) (hb : b < 4294967296) : bits .andNot .u64 (a : Int) (b : Int) = ((a ^^^ (a &&& b) : Nat) : Int) := by
  have hx : a ^^^ (a &&& b) < 2 ^ 63 := Nat.xor_lt_two_pow (by omega) (Nat.lt_of_le_of_lt Nat.and_le_left (by omega))
  show IntKind.u64.wrap ((BitVec.ofInt 64 (a : Int) &&& ~~~ BitVec.ofInt 64 (b : Int)).toNat : Int) = _
  have e : (BitVec.ofInt 64 (a : Int) &&& ~~~ BitVec.ofInt 64 (b : Int)).toNat = a ^^^ (a &&& b) := by
    apply Nat.eq_of_testBit_eq
    intro j
    rw [BitVec.testBit_toNat, BitVec.getLsbD_and, BitVec.getLsbD_not, ← BitVec.testBit_toNat, ← BitVec.testBit_toNat, u64_bit a ha, u64_bit b hb, Nat.testBit_xor, Nat.testBit_and]
    by_cases hj : j < 64
    · simp only [hj, decide_true, Bool.true_and]
      cases a.testBit j <;> cases b.testBit j <;> rfl
    · have h0 : a.testBit j = false := Nat.testBit_lt_two_pow (Nat.lt_of_lt_of_le (show a < 2 ^ 32 by omega) (Nat.pow_le_pow_right (by decide) (by omega)))
      rw [h0]; rfl
  rw [e, IntKind.wrap_u64]
  omega

set_option maxHeartbeats 2000000 in
set_option maxRecDepth 100000 in
theorem free_any (G : SolB) (r k i cap most : Nat) (R K B : Nat → Nat) (v : Value) (w : World) (hr : 0 < r) (hk : 0 < k) (hr3 : r ≤ 3) (hk3 : k ≤ 3) (hi : i < r * k * (r * k))
    (hS : SolA w G r k cap most R K B v) (hR : ∀ a, a < r * k → R a < 2 ^ (r * k)) (hK : ∀ a, a < r * k → K a < 2 ^ (r * k)) (hB : ∀ a, a < r * k → B a < 2 ^ (r * k)) :
    Calls Tryd.prog 18 #[.pointer (some ⟨G.gs, 0, none⟩), .int .i64 i] w fun e w' => e = .returned (.int .u64 (freeN r k R K B i)) ∧ ∃ n, w' = w.drewN n := by
  have x0 : w.cell? ⟨G.gs, 0, none⟩ = some (.int .i64 r) := hS.box.cellv rfl
  have x1 : w.cell? ⟨G.gs, 1, none⟩ = some (.int .i64 k) := hS.box.cellv rfl
  have x2 : w.cell? ⟨G.gs, 2, none⟩ = some (.int .i64 (r * k : Nat)) := hS.box.cellv rfl
  have x4 : w.cell? ⟨G.gs, 4, none⟩ = some (.slice (some ⟨G.gr, 0, none⟩) (r * k) (r * k)) := hS.box.cellv rfl
  have x5 : w.cell? ⟨G.gs, 5, none⟩ = some (.slice (some ⟨G.gk, 0, none⟩) (r * k) (r * k)) := hS.box.cellv rfl
  have x6 : w.cell? ⟨G.gs, 6, none⟩ = some (.slice (some ⟨G.gb, 0, none⟩) (r * k) (r * k)) := hS.box.cellv rfl
  have HX := hide (fun w c0 c1 c2 => boxOf_any G.gs r k i w hr hk hr3 hk3 hi c0 c1 c2)
  obtain ⟨gs, gc, gr, gk, gb⟩ := G
  have hs1 := hS.row
  have hs2 := hS.col
  have hs3 := hS.sq
  simp only at x0 x1 x2 x4 x5 x6 HX hs1 hs2 hs3
  have hbx := box_lt hr hk hi
  have hn9 : r * k ≤ 9 := Nat.le_trans (Nat.mul_le_mul hr3 hk3) (by decide)
  have hn0 : 0 < r * k := Nat.mul_pos hr hk
  unfold freeN
  obtain ⟨n, hn⟩ : ∃ n, r * k = n := ⟨_, rfl⟩
  obtain ⟨q, hq⟩ : ∃ q, boxN r k i = q := ⟨_, rfl⟩
  rw [hq] at HX hbx ⊢
  rw [hn] at x2 x4 x5 x6 hbx hs1 hs2 hs3 hn9 hn0 hi hR hK hB ⊢
  simp only [hn] at HX
  clear hS
  have y1 := hs1.cellv (arrV_get (show i / n < n from Nat.div_lt_of_lt_mul hi))
  have y2 := hs2.cellv (arrV_get (show i % n < n from Nat.mod_lt _ hn0))
  have y3 := hs3.cellv (arrV_get hbx)
  have b1 := hR (i / n) (Nat.div_lt_of_lt_mul hi)
  have b2 := hK (i % n) (Nat.mod_lt _ hn0)
  have b3 := hB q hbx
  have p9 : 2 ^ n ≤ 512 := Nat.pow_le_pow_right (by decide) hn9
  have p0 : 0 < 2 ^ n := Nat.two_pow_pos _
  obtain ⟨a, ha⟩ : ∃ a, i / n = a := ⟨_, rfl⟩
  obtain ⟨b, hb⟩ : ∃ b, i % n = b := ⟨_, rfl⟩
  have e1 : (i : Int).tdiv (n : Int) = (a : Int) := by rw [← ha]; exact (Int.ofNat_tdiv i n).symm
  have e2 : (i : Int).tmod (n : Int) = (b : Int) := by rw [← hb]; exact (Int.ofNat_tmod i n).symm
  have hal : a < n := by rw [← ha]; exact Nat.div_lt_of_lt_mul hi
  have hbl : b < n := by rw [← hb]; exact Nat.mod_lt _ hn0
  rw [ha] at y1 b1 ⊢
  rw [hb] at y2 b2 ⊢
  have hi81 : i < 81 := Nat.lt_of_lt_of_le hi (Nat.mul_le_mul hn9 hn9)
  clear ha hb hq hs1 hs2 hs3 hR hK hB hi
  obtain ⟨X, hX⟩ : ∃ X, R a = X := ⟨_, rfl⟩
  obtain ⟨Y, hY⟩ : ∃ Y, K b = Y := ⟨_, rfl⟩
  obtain ⟨Z, hZ⟩ : ∃ Z, B q = Z := ⟨_, rfl⟩
  rw [hX] at y1 b1 ⊢
  rw [hY] at y2 b2 ⊢
  rw [hZ] at y3 b3 ⊢
  clear hX hY hZ
  have o1 := uor X Y (by omega) (by omega)
  have l1 : X ||| Y < 2 ^ n := Nat.or_lt_two_pow b1 b2
  obtain ⟨XY, hXY⟩ : ∃ XY, X ||| Y = XY := ⟨_, rfl⟩
  rw [hXY] at o1 l1 ⊢
  have o2 := uor XY Z (by omega) (by omega)
  have l2 : XY ||| Z < 2 ^ n := Nat.or_lt_two_pow l1 b3
  obtain ⟨V, hV⟩ : ∃ V, XY ||| Z = V := ⟨_, rfl⟩
  rw [hV] at o2 l2 ⊢
  clear hXY hV
  obtain ⟨M, hM⟩ : ∃ M, 2 ^ n = M := ⟨_, rfl⟩
  rw [hM] at b1 b2 b3 l1 l2 p9 p0 ⊢
  have s0 : ((2 : Int) ^ n) = (M : Int) := by rw [← hM]; simp
  have s1 : IntKind.u64.wrap ((2 : Int) ^ n) = (M : Int) := by rw [s0, IntKind.wrap_u64]; omega
  clear s0
  have s2 : IntKind.u64.wrap ((M : Int) - 1) = ((M - 1 : Nat) : Int) := by rw [IntKind.wrap_u64]; omega
  have s3 := uandnot (M - 1) V (by omega) (by omega)
  have s4 : (n : Int) ≤ 64 := by omega
  clear hM
  go_enter Tryd.func18, Tryd.ntmps18
  go_wp2_with fail
  go_quiet ((go_at_call 22; exact quiet_call (HX.out _ x0 x1 x2)))
  go_wp2_with fail
  go_ret
  exact ⟨by simp [go_sem], _, rfl⟩
end Go.Proofs.YtfoehijlafooaaaDoor
