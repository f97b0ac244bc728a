/- moves.directions -/
import Derived.Test.YtcdfeaodfmfdnaaGreatDoorPlApM
import Derived.Test.YtcdfeaodfmfdnaaGreatDoorPlMvLetM
namespace Go.Proofs.YtcdfeaodfmfdnaaGreatDoor
open Go.RowKit

def flatD (l : List (Int × Int)) : List Value := l.flatMap fun d => [.int .i64 d.1, .int .i64 d.2]
theorem flatD_app (a b : List (Int × Int)) : flatD (a ++ b) = flatD a ++ flatD b := by simp [flatD]
theorem flatD_len (l : List (Int × Int)) : (flatD l).length = l.length * 2 := by
  induction l with
  | nil => rfl
  | cons m l ih =>
    have : flatD (m :: l) = [.int .i64 m.1, .int .i64 m.2] ++ flatD l := rfl
    rw [this, List.length_append, ih]
    simp
    omega
theorem flatD_get : ∀ (l : List (Int × Int)) (i : Nat) (h : i < l.length), (flatD l)[i * 2]? = some (.int .i64 l[i].1) ∧ (flatD l)[i * 2 + 1]? = some (.int .i64 l[i].2)
  | d :: l, 0, _ => by simp [flatD]
  | d :: l, i + 1, h => by
    have ih := flatD_get l i (by simpa using h)
    have e : flatD (d :: l) = .int .i64 d.1 :: .int .i64 d.2 :: flatD l := by simp [flatD]
    rw [e, show (i + 1) * 2 = i * 2 + 1 + 1 by omega]
    simpa using ih
/-- what moves.directions hands back -/
def DirsAt (w : World) (B : Nat) (A : Option Addr) (ds : List (Int × Int)) : Prop := Cells w B A (flatD ds)
theorem DirsAt.at_ {w : World} {B : Nat} {A : Option Addr} {ds : List (Int × Int)} (h : DirsAt w B A ds) {i : Nat} (hi : i < ds.length) :
    ∃ b off, A = some ⟨b, off, none⟩ ∧ b < B ∧ w.cell? ⟨b, off + i * 2, none⟩ = some (.int .i64 ds[i].1) ∧ w.cell? ⟨b, off + i * 2 + 1, none⟩ = some (.int .i64 ds[i].2) := by
  have hl := flatD_len ds
  obtain ⟨b, off, hA, hb, hcell⟩ := h (by rw [hl]; omega)
  obtain ⟨g0, g1⟩ := flatD_get ds i hi
  have key : ∀ j v, (flatD ds)[j]? = some v → w.cell? ⟨b, off + j, none⟩ = some v := by
    intro j v hv
    obtain ⟨hj, hjv⟩ := List.getElem?_eq_some_iff.1 hv
    rw [hcell j hj, hjv]
  exact ⟨b, off, hA, hb, key _ _ g0, by rw [Nat.add_assoc]; exact key _ _ g1⟩
def dirK (u v : Int) (k : Nat) : Int × Int := (u * (1 - 2 * ((k % 2 : Nat) : Int)), v * (1 - ((k / 2 % 2 * 2 : Nat) : Int)))
/-- eight ways -/
def dirs8 (x y : Int) : List (Int × Int) := [dirK x y 0, dirK x y 1, dirK x y 2, dirK x y 3, dirK y x 0, dirK y x 1, dirK y x 2, dirK y x 3]
theorem dirs8_eq {w : WayD} {t : Int} (h : w.kind ≠ 3) : dirs8 w.x w.y = dirsL w t := by
  unfold dirsL
  rw [if_neg h]
  simp only [dirs8, dirK, List.cons.injEq, Prod.mk.injEq, and_true]
  refine ⟨⟨?_, ?_⟩, ⟨?_, ?_⟩, ⟨?_, ?_⟩, ⟨?_, ?_⟩, ⟨?_, ?_⟩, ⟨?_, ?_⟩, ⟨?_, ?_⟩, ?_, ?_⟩
  all_goals (simp <;> omega)
def DirsOut (W : World) (ds : List (Int × Int)) (e : Ending) (w' : World) : Prop := ∃ A c, e = .returned (.slice A ds.length c) ∧ ds.length ≤ c ∧ DirsAt w' w'.heap.size A ds ∧ (∀ ad, A = some ad → W.heap.size ≤ ad.block) ∧ Later W w'
theorem sgn_in {y t : Int} (y0 : 0 ≤ y) (y7 : y ≤ 7) (ht : t = 0 ∨ t = 1) : -7 ≤ y * (1 - 2 * t) ∧ y * (1 - 2 * t) ≤ 7 := by
  rcases ht with rfl | rfl <;> omega
set_option maxHeartbeats 1000000 in
set_option maxRecDepth 100000 in
theorem dirs_step (x y take t : Int) (W : World) (x0 : 0 ≤ x) (x7 : x ≤ 7) (y0 : 0 ≤ y) (y7 : y ≤ 7) (ht : t = 0 ∨ t = 1) :
    Calls Tryz.prog 199 #[.agg #[.int .i64 3, .int .i64 x, .int .i64 y, .int .i64 take], .int .i64 t] W (DirsOut W [(x, y * (1 - 2 * t)), (-x, y * (1 - 2 * t))]) := by
  obtain ⟨s1, s2⟩ := sgn_in y0 y7 ht
  have t0 : 0 ≤ t := by omega
  have t1 : t ≤ 1 := by omega
  have Hl := hide (show Later W ((W.alloc (.cells #[.int .i64 3, .int .i64 x, .int .i64 y, .int .i64 take] 80)).alloc (.cells #[.int .i64 x, .int .i64 (y * (1 - 2 * t)), .int .i64 (-x), .int .i64 (y * (1 - 2 * t))] 55)) from (Later.rfl.alloc _).alloc _)
  have Hb := hide (Blk.new (W.alloc (.cells #[.int .i64 3, .int .i64 x, .int .i64 y, .int .i64 take] 80)) 55 #[.int .i64 x, .int .i64 (y * (1 - 2 * t)), .int .i64 (-x), .int .i64 (y * (1 - 2 * t))])
  clear ht
  go_enter Tryz.func199, Tryz.ntmps199
  go_wp2_with fail
  go_ret
  refine ⟨_, 2, rfl, Nat.le_refl _, ?_, (by rintro ad h; injection h with h; subst h; exact Nat.le_succ _), Hl.out⟩
  have hb := Hb.out
  rw [World.size_alloc] at hb
  refine fun _ => ⟨_, 0, rfl, hb.lt, fun k hk => ?_⟩
  rw [Nat.zero_add, hb.cell]
  match k, hk with
  | 0, _ => rfl
  | 1, _ => rfl
  | 2, _ => rfl
  | 3, _ => rfl
theorem and1k {k : Nat} (h : k < 4) : bits .and .i64 (k : Int) 1 = ((k % 2 : Nat) : Int) := by
  match k, h with
  | 0, _ => decide
  | 1, _ => decide
  | 2, _ => decide
  | 3, _ => decide
theorem and2k {k : Nat} (h : k < 4) : bits .and .i64 (k : Int) 2 = ((k / 2 % 2 * 2 : Nat) : Int) := by
  match k, h with
  | 0, _ => decide
  | 1, _ => decide
  | 2, _ => decide
  | 3, _ => decide
theorem dirK_in {u v : Int} {k : Nat} (u0 : 0 ≤ u) (u7 : u ≤ 7) (v0 : 0 ≤ v) (v7 : v ≤ 7) (h : k < 4) : -7 ≤ (dirK u v k).1 ∧ (dirK u v k).1 ≤ 7 ∧ -7 ≤ (dirK u v k).2 ∧ (dirK u v k).2 ≤ 7 := by
  unfold dirK
  match k, h with
  | 0, _ => simp; omega
  | 1, _ => simp; omega
  | 2, _ => simp; omega
  | 3, _ => simp; omega
theorem dirs8_take {x y : Int} {j k : Nat} (hj : j < 2) (hk : k < 4) : (dirs8 x y).take (j * 4 + (k + 1)) = (dirs8 x y).take (j * 4 + k) ++ [dirK (if j = 0 then x else y) (if j = 0 then y else x) k] := by
  match j, hj, k, hk with
  | 0, _, 0, _ => rfl
  | 0, _, 1, _ => rfl
  | 0, _, 2, _ => rfl
  | 0, _, 3, _ => rfl
  | 1, _, 0, _ => rfl
  | 1, _, 1, _ => rfl
  | 1, _, 2, _ => rfl
  | 1, _, 3, _ => rfl
theorem info_d2 : (Tryz.prog.info? 55).map (fun i => (i.zero, i.size, i.bytes)) = some (some (.agg #[.int .i64 0, .int .i64 0]), 2, 16) := by kernel_rfl
set_option maxHeartbeats 4000000 in
set_option maxRecDepth 100000 in
theorem dirs_all (kd x y take t : Int) (W : World) (hk3 : kd ≠ 3) (x0 : 0 ≤ x) (x7 : x ≤ 7) (y0 : 0 ≤ y) (y7 : y ≤ 7) (t0 : 0 ≤ t) (t1 : t ≤ 1) :
    Calls Tryz.prog 199 #[.agg #[.int .i64 kd, .int .i64 x, .int .i64 y, .int .i64 take], .int .i64 t] W (DirsOut W (dirs8 x y)) := by
  obtain ⟨i0, hi, hz0, hz1, hz2⟩ := info_parts info_d2
  have Hi := hide hi
  have Hz0 := hide hz0
  have Hz1 := hide hz1
  have Hz2 := hide hz2
  have hk : (kd == 3) = false := by simpa using hk3
  clear hi hz0 hz1 hz2 hk3
  go_enter Tryz.func199, Tryz.ntmps199
  go_upto_region 6 with (fail)
  have Hw := hide (show Later W ((W.alloc (.cells #[.int .i64 kd, .int .i64 x, .int .i64 y, .int .i64 take] 80)).alloc (.cells #[.int .i64 x, .int .i64 y, .int .i64 y, .int .i64 x] 55)) from (Later.rfl.alloc _).alloc _)
  have hb := Blk.new (W.alloc (.cells #[.int .i64 kd, .int .i64 x, .int .i64 y, .int .i64 take] 80)) 55 #[.int .i64 x, .int .i64 y, .int .i64 y, .int .i64 x]
  rw [World.size_alloc] at hb
  have Hb := hide hb
  obtain ⟨gb, hgb⟩ : ∃ gb, W.heap.size + 1 = gb := ⟨_, rfl⟩
  rw [hgb] at Hb ⊢
  clear hb hgb
  go_loopw [44, 6] (fun i v wr => ∃ j : Nat, j ≤ 2 ∧ i = .int .i64 j ∧ wr.ownsRow W.heap.size 55 2 v (j * 4) (flatD ((dirs8 x y).take (j * 4))) ∧ Blk wr gb 55 #[.int .i64 x, .int .i64 y, .int .i64 y, .int .i64 x] ∧ v.ownBlock ≠ some gb ∧ Later W wr) (fun i _ _ => 2 - (intOf i).toNat)
  case atStart => exact ⟨0, by omega, rfl, World.ownsRow_nil _ _ _ _, Hb.out, (by intro h; cases h), Hw.out⟩
  case round =>
    rename World => wr
    obtain ⟨j, hj, rfl, hown, hb, hne, hw⟩ := hrel
    have Hown := hide hown
    have Hb := hide hb
    have Hne := hide hne
    have Hw := hide hw
    clear hown hb hne hw
    by_cases hlt : j < 2
    · have ej : decide ((j : Int) < 2) = true := decide_eq_true (by omega)
      obtain ⟨u, hu⟩ : ∃ u, (if j = 0 then x else y) = u := ⟨_, rfl⟩
      obtain ⟨q, hq⟩ : ∃ q, (if j = 0 then y else x) = q := ⟨_, rfl⟩
      have c01 : wr.cell? ⟨gb, j * 2, none⟩ = some (.int .i64 u) ∧ wr.cell? ⟨gb, j * 2 + 1, none⟩ = some (.int .i64 q) := by
        subst hu hq
        match j, hlt with
        | 0, _ => exact ⟨Hb.out.cellv rfl, Hb.out.cellv rfl⟩
        | 1, _ => exact ⟨Hb.out.cellv rfl, Hb.out.cellv rfl⟩
      obtain ⟨c0, c1⟩ := c01
      have u07 : 0 ≤ u ∧ u ≤ 7 := by subst hu; split <;> omega
      have q07 : 0 ≤ q ∧ q ≤ 7 := by subst hq; split <;> omega
      obtain ⟨u0, u7⟩ := u07
      obtain ⟨q0, q7⟩ := q07
      have Htake := hide (fun k (h : k < 4) => hu ▸ hq ▸ dirs8_take (x := x) (y := y) hlt h)
      clear hu hq
      go_upto_region 9 with (fail)
      have Hd := hide (Blk.new wr 55 #[.int .i64 u, .int .i64 q])
      have Hb1 := hide (Hb.out.alloc (.cells #[.int .i64 u, .int .i64 q] 55))
      have Hown1 := hide (World.ownsRow.alloc Hown.out (.cells #[.int .i64 u, .int .i64 q] 55))
      have Hw1 := hide (Hw.out.alloc (.cells #[.int .i64 u, .int .i64 q] 55))
      have Hnd : Hid (u6.ownBlock ≠ some wr.heap.size) := hide (fun h => by have := (Hown.out.lt _ h).2; omega)
      obtain ⟨gd, hgd⟩ : ∃ gd, wr.heap.size = gd := ⟨_, rfl⟩
      obtain ⟨w1, hw1⟩ : ∃ w1, wr.alloc (.cells #[.int .i64 u, .int .i64 q] 55) = w1 := ⟨_, rfl⟩
      rw [hgd] at Hd Hnd ⊢
      rw [hw1] at Hd Hb1 Hown1 Hw1 ⊢
      clear hgd hw1 Hown Hw Hb c0 c1
      go_loopw [48, 6] (fun i v wi => ∃ k : Nat, k ≤ 4 ∧ i = .int .i64 k ∧ wi.ownsRow W.heap.size 55 2 v (j * 4 + k) (flatD ((dirs8 x y).take (j * 4 + k))) ∧ Blk wi gb 55 #[.int .i64 x, .int .i64 y, .int .i64 y, .int .i64 x] ∧ Blk wi gd 55 #[.int .i64 u, .int .i64 q] ∧ v.ownBlock ≠ some gb ∧ v.ownBlock ≠ some gd ∧ Later W wi) (fun i _ _ => 4 - (intOf i).toNat)
      case atStart => exact ⟨0, by omega, rfl, Hown1.out, Hb1.out, Hd.out, Hne.out, Hnd.out, Hw1.out⟩
      case round =>
        rename World => wi
        obtain ⟨k, hk, rfl, hown, hb, hd, hne, hnd, hw⟩ := hrel
        have Hown := hide hown
        have Hb := hide hb
        have Hd := hide hd
        have Hne := hide hne
        have Hnd := hide hnd
        have Hw := hide hw
        clear hown hb hd hne hnd hw Hown1 Hb1 Hw1
        by_cases hlk : k < 4
        · have ek : decide ((k : Int) < 4) = true := decide_eq_true (by omega)
          have htk := Htake.out k hlk
          obtain ⟨e1, e2, e3, e4⟩ := dirK_in u0 u7 q0 q7 hlk
          obtain ⟨dk, hdk⟩ : ∃ dk, dirK u q k = dk := ⟨_, rfl⟩
          have hd1 : u * (1 - 2 * ((k % 2 : Nat) : Int)) = dk.1 := by rw [← hdk]; rfl
          have hd2 : q * (1 - ((k / 2 % 2 * 2 : Nat) : Int)) = dk.2 := by rw [← hdk]; rfl
          rw [hdk] at e1 e2 e3 e4 htk
          have a1 := and1k hlk
          have a2 := and2k hlk
          have hA : k % 2 < 2 := Nat.mod_lt _ (by omega)
          have hB : k / 2 % 2 * 2 ≤ 2 := by omega
          obtain ⟨A, hAe⟩ : ∃ A, k % 2 = A := ⟨_, rfl⟩
          obtain ⟨B, hBe⟩ : ∃ B, k / 2 % 2 * 2 = B := ⟨_, rfl⟩
          rw [hAe] at a1 hA hd1
          rw [hBe] at a2 hB hd2
          obtain ⟨v0, v1⟩ := Hd.out.two
          obtain ⟨d1, d2⟩ := dk
          simp only at e1 e2 e3 e4 hd1 hd2
          have f1 : -7 ≤ u * (1 - 2 * (A : Int)) := by omega
          have f2 : u * (1 - 2 * (A : Int)) ≤ 7 := by omega
          have f3 : -7 ≤ q * (1 - (B : Int)) := by omega
          have f4 : q * (1 - (B : Int)) ≤ 7 := by omega
          have Htk := hide htk
          have Hown2 := hide (World.ownsRow.alloc Hown.out (.cells #[.int .i64 d1, .int .i64 d2] 55))
          have HbN := hide (Hb.out.alloc (.cells #[.int .i64 d1, .int .i64 d2] 55))
          have HdN := hide (Hd.out.alloc (.cells #[.int .i64 d1, .int .i64 d2] 55))
          have HwN := hide (Hw.out.alloc (.cells #[.int .i64 d1, .int .i64 d2] 55))
          have Hlt := Hb.out.lt
          have Hlt2 := Hd.out.lt
          clear htk hAe hBe hdk
          go_wp2_with (at_builtin; refine wpList_appendK _ rfl (.tmp 51) (.tmp 66) 238 rfl W.heap.size 55 i0 (.agg #[.int .i64 0, .int .i64 0]) 2 16 Tryz.underlying238 Hi.out Hz0.out Hz1.out Hz2.out rfl (by decide) _ (j * 4 + k) (flatD ((dirs8 x y).take (j * 4 + k))) rfl Hown2.out [.int .i64 d1, .int .i64 d2] rfl wi.heap.size 55 rfl (Blk.new wi _ _) ?h1 ?h2 ?h3 ?h4 ?_)
          case h1 => simp [Value.oneCell']
          case h2 => unfold maxLen; omega
          case h3 => omega
          case h4 => exact Nat.le_trans Hw.out.size (by simp)
          intro v' w2 hown2 hO hwh
          have Hown3 := hide (show w2.ownsRow W.heap.size 55 2 v' (j * 4 + (k + 1)) (flatD ((dirs8 x y).take (j * 4 + (k + 1)))) by
            rw [Htk.out, flatD_app]; exact hown2)
          have Hb2 := hide (HbN.out.only hO Hne.out)
          have Hd2 := hide (HdN.out.only hO Hnd.out)
          have Hne2 : Hid (v'.ownBlock ≠ some gb) := hide (fun h => by
            rcases hwh with h2 | h2
            · rw [h2] at h; exact Hne.out h
            · rw [h2] at h; injection h with h; omega)
          have Hnd2 : Hid (v'.ownBlock ≠ some gd) := hide (fun h => by
            rcases hwh with h2 | h2
            · rw [h2] at h; exact Hnd.out h
            · rw [h2] at h; injection h with h; omega)
          have Hw2 := hide (show Later W w2 from Below.trans HwN.out (hO.below_ (B := W.heap.size) (fun g hg => (Hown2.out.lt g hg).1) (HwN.out.size)))
          clear hown2 hO hwh v0 v1 a1 a2
          go_wp2_with fail
          go_roundw
          case rel => exact ⟨k + 1, by omega, by go_num, Hown3.out, Hb2.out, Hd2.out, Hne2.out, Hnd2.out, Hw2.out⟩
          case measure => simp [intOf]; omega
        · obtain rfl : k = 4 := by omega
          go_wp2_with fail
          go_roundw
          case rel => exact ⟨j + 1, by omega, by go_num, by rw [Nat.succ_mul]; exact Hown.out, Hb.out, Hne.out, Hw.out⟩
          case measure => simp [intOf]; omega
    · obtain rfl : j = 2 := by omega
      obtain ⟨A, c, rfl, hc, _, hcells⟩ := Cells.of_ownK Hown.out
      have Hc := hide hc
      have Hcells := hide hcells
      clear hc hcells
      go_wp2_with fail
      go_ret
      exact ⟨A, c, rfl, Hc.out, Hcells.out, (fun ad h => by subst h; exact (Hown.out.lt ad.block rfl).1), Hw.out⟩
theorem dirs_any (w : WayD) (t : Int) (W : World) (hw : WayOk w) (t0 : 0 ≤ t) (t1 : t ≤ 1) :
    Calls Tryz.prog 199 #[.agg #[.int .i64 w.kind, .int .i64 w.x, .int .i64 w.y, .int .i64 w.take], .int .i64 t] W (DirsOut W (dirsL w t)) := by
  obtain ⟨_, _, x0, x7, y0, y7, _, _, _, _⟩ := hw
  by_cases h : w.kind = 3
  · rw [h, show dirsL w t = [(w.x, w.y * (1 - 2 * t)), (-w.x, w.y * (1 - 2 * t))] by unfold dirsL; rw [if_pos h]]
    exact dirs_step w.x w.y w.take t W x0 x7 y0 y7 (by omega)
  · rw [← dirs8_eq h]
    exact dirs_all w.kind w.x w.y w.take t W h x0 x7 y0 y7 t0 t1
end Go.Proofs.YtcdfeaodfmfdnaaGreatDoor
