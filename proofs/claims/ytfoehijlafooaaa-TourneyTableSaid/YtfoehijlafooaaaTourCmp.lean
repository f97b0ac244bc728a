/- tourney.Table's closure: how two ranks compare -/
import Derived.Test.YtfoehijlafooaaaTourPlain
import Derived.Test.YtfoehijlafooaaaBase
import Derived.Test.YtfoehijlafooaaaRows
import Derived.Test.YtfoehijlafooaaaAppends
import Derived.Test.YtfoehijlafooaaaShelf
import Derived.Test.YtfoehijlafooaaaOrderPlain
import Derived.Test.YtfoehijlafooaaaSortR
namespace Go.Proofs.Ytfoehijlafooaaa
open Go.RowKit Go.Shelf Go.Lib Go.Sort

set_option maxHeartbeats 1000000 in
set_option maxRecDepth 100000 in
theorem or_any3 (x y z : Int) (g : Nat) (w : World) (c0 : w.cell? ⟨g, 0, none⟩ = some (.int .i64 x)) (c1 : w.cell? ⟨g, 1, none⟩ = some (.int .i64 y)) (c2 : w.cell? ⟨g, 2, none⟩ = some (.int .i64 z)) :
    Calls Try.prog 48 #[.slice (some ⟨g, 0, none⟩) 3 3] w fun e w' => e = .returned (.int .i64 (or3 x y z)) ∧ w' = w := by
  have C0 := hide c0
  have C1 := hide c1
  have C2 := hide c2
  clear c0 c1 c2
  go_enter Try.func48, Try.ntmps48
  go_wp2_with fail
  go_loop [8] (fun idx => ∃ k : Nat, k ≤ 3 ∧ idx = .int .i64 k ∧ (0 < k → x = 0) ∧ (1 < k → y = 0) ∧ (2 < k → z = 0)) (fun idx => 3 - (intOf idx).toNat)
  case atStart => exact ⟨0, by omega, rfl, by omega, by omega, by omega⟩
  case round =>
    obtain ⟨k, hk, rfl, h1, h2, h3⟩ := hrel
    have H1 := hide h1
    have H2 := hide h2
    have H3 := hide h3
    clear h1 h2 h3
    by_cases k0 : k = 0
    · subst k0
      have e0 := C0.out
      by_cases hx : x = 0
      · have q : (x != 0) = false := by simp [hx]
        have Hx := hide hx
        clear hx
        go_wp2_with fail
        go_round
        case rel => exact ⟨1, by omega, rfl, fun _ => Hx.out, by omega, by omega⟩
        case measure => simp [intOf]
      · have q : (x != 0) = true := by simp [hx]
        have hf := hide (show x = or3 x y z by simp [or3, hx])
        clear hx
        go_wp2_with fail
        go_ret
        exact ⟨ret_int hf.out, rfl⟩
    · by_cases k1 : k = 1
      · subst k1
        have e1 := C1.out
        by_cases hy : y = 0
        · have q : (y != 0) = false := by simp [hy]
          have Hy := hide hy
          clear hy
          go_wp2_with fail
          go_round
          case rel => exact ⟨2, by omega, rfl, fun _ => H1.out (by omega), fun _ => Hy.out, by omega⟩
          case measure => simp [intOf]
        · have q : (y != 0) = true := by simp [hy]
          have hf := hide (show y = or3 x y z by rw [H1.out (by omega)]; simp [or3, hy])
          clear hy
          go_wp2_with fail
          go_ret
          exact ⟨ret_int hf.out, rfl⟩
      · by_cases k2 : k = 2
        · subst k2
          have e2 := C2.out
          by_cases hz : z = 0
          · have q : (z != 0) = false := by simp [hz]
            have Hz := hide hz
            clear hz
            go_wp2_with fail
            go_round
            case rel => exact ⟨3, by omega, rfl, fun _ => H1.out (by omega), fun _ => H2.out (by omega), fun _ => Hz.out⟩
            case measure => simp [intOf]
          · have q : (z != 0) = true := by simp [hz]
            have hf := hide (show z = or3 x y z by rw [H1.out (by omega), H2.out (by omega)]; simp [or3])
            clear hz
            go_wp2_with fail
            go_ret
            exact ⟨ret_int hf.out, rfl⟩
        · obtain rfl : k = 3 := by omega
          have hf := hide (show 0 = or3 x y z by rw [H1.out (by omega), H2.out (by omega), H3.out (by omega)]; simp [or3])
          go_wp2_with fail
          go_ret
          exact ⟨ret_int hf.out, rfl⟩

/-- a rank: player, points, the others' points -/
structure Rk where
  p : Int
  pts : Int
  oth : Int
def encRk (r : Rk) : List Value := [.int .i64 r.p, .int .i64 r.pts, .int .i64 r.oth]
def cfRk (x y : Rk) : Int := or3 (Lib.compareInt y.pts x.pts) (Lib.compareInt y.oth x.oth) (Lib.compareInt x.p y.p)
/-- comes ahead -/
def rkLt (x y : Rk) : Prop := y.pts < x.pts ∨ (y.pts = x.pts ∧ (y.oth < x.oth ∨ (y.oth = x.oth ∧ x.p < y.p)))
theorem cfRk_lt {x y : Rk} : ltOf cfRk x y = true ↔ rkLt x y := by
  unfold ltOf cfRk or3 Lib.compareInt rkLt
  simp only [decide_eq_true_eq]
  rcases Int.lt_trichotomy y.pts x.pts with h | h | h
  · simp [h]
  · rcases Int.lt_trichotomy y.oth x.oth with h2 | h2 | h2
    · simp [h, h2]
    · rcases Int.lt_trichotomy x.p y.p with h3 | h3 | h3
      · simp [h, h2, h3]
      · simp [h, h2, h3]
      · have e1 : ¬ x.p < y.p := by omega
        simp [h, h2, h3, e1]
    · have e1 : ¬ y.oth < x.oth := by omega
      have e2 : ¬ y.oth = x.oth := by omega
      simp [h, h2, e1, e2]
  · have e1 : ¬ y.pts < x.pts := by omega
    have e2 : ¬ y.pts = x.pts := by omega
    simp [h, e1, e2]
theorem cfRk_false {x y : Rk} : ltOf cfRk x y = false ↔ ¬ rkLt x y := by rw [← cfRk_lt]; simp
theorem swoRk : SWO (ltOf cfRk) where
  irrefl x := by rw [cfRk_false]; unfold rkLt; omega
  trans x y z h1 h2 := by rw [cfRk_lt] at *; unfold rkLt at *; omega
  ntrans x y z h1 h2 := by rw [cfRk_false] at *; unfold rkLt at *; omega
theorem totRk : ∀ x y, ltOf cfRk x y = false → ltOf cfRk y x = false → x = y := by
  rintro ⟨a, b, c⟩ ⟨d, e, f⟩ h1 h2
  rw [cfRk_false] at h1 h2
  unfold rkLt at h1 h2
  simp only at h1 h2
  obtain rfl : a = d := by omega
  obtain rfl : b = e := by omega
  obtain rfl : c = f := by omega
  rfl

set_option maxHeartbeats 2000000 in
set_option maxRecDepth 100000 in
theorem cmpRk_any (x y : Rk) (W : World) : Calls Try.prog 66 #[.agg #[.int .i64 x.p, .int .i64 x.pts, .int .i64 x.oth], .agg #[.int .i64 y.p, .int .i64 y.pts, .int .i64 y.oth]] W fun e w' => e = .returned (.int .i64 (cfRk x y)) ∧ ∃ q os', w' = grow (W.drewN q) os' := by
  obtain ⟨a, b, c⟩ := x
  obtain ⟨d, e, f⟩ := y
  simp only
  obtain ⟨r, hr⟩ : ∃ r, cfRk ⟨a, b, c⟩ ⟨d, e, f⟩ = r := ⟨_, rfl⟩
  rw [hr]
  have Hr := hide hr
  clear hr
  go_enter Try.func66, Try.ntmps66
  go_wp2_with fail
  have BX := hide ((Blk.new W 74 #[.int .i64 a, .int .i64 b, .int .i64 c]).alloc (.cells #[.int .i64 d, .int .i64 e, .int .i64 f] 74))
  have BY := hide (Blk.new (W.alloc (.cells #[.int .i64 a, .int .i64 b, .int .i64 c] 74)) 74 #[.int .i64 d, .int .i64 e, .int .i64 f])
  simp only [World.size_alloc] at BY
  obtain ⟨w2, hw2⟩ : ∃ w2, (W.alloc (.cells #[.int .i64 a, .int .i64 b, .int .i64 c] 74)).alloc (.cells #[.int .i64 d, .int .i64 e, .int .i64 f] 74) = w2 := ⟨_, rfl⟩
  rw [hw2] at BX BY ⊢
  have Hw2 := hide hw2
  clear hw2
  have x0 := BX.out.cell 0
  have x1 := BX.out.cell 1
  have x2 := BX.out.cell 2
  have y0 := BY.out.cell 0
  have y1 := BY.out.cell 1
  have y2 := BY.out.cell 2
  simp at x0 x1 x2 y0 y1 y2
  go_region_held3 (fun w' => w'.cell? ⟨W.heap.size, 0, none⟩ = some (.int .i64 a) ∧ w'.cell? ⟨W.heap.size, 1, none⟩ = some (.int .i64 b) ∧ w'.cell? ⟨W.heap.size, 2, none⟩ = some (.int .i64 c) ∧ w'.cell? ⟨W.heap.size + 1, 0, none⟩ = some (.int .i64 d) ∧ w'.cell? ⟨W.heap.size + 1, 1, none⟩ = some (.int .i64 e) ∧ w'.cell? ⟨W.heap.size + 1, 2, none⟩ = some (.int .i64 f)) (first | exact ⟨x0, x1, x2, y0, y1, y2⟩ | (have hlt := BX.out.lt; have hlt2 := BY.out.lt; refine ⟨?_, ?_, ?_, ?_, ?_, ?_⟩ <;> go_keep) | go_keep)
    ((first | (go_at_call 49; refine (Try.cmp_Compare_int _ _ _).mono ?_; rintro e w' ⟨rfl, rfl⟩)
            | (go_at_call 48; refine (or_any3 (Lib.compareInt e b) (Lib.compareInt f c) (Lib.compareInt a d) w2.heap.size _ ((Blk.new w2 3 #[.int .i64 (Lib.compareInt e b), .int .i64 (Lib.compareInt f c), .int .i64 (Lib.compareInt a d)]).drew.cellv (i := 0) rfl) ((Blk.new w2 3 #[.int .i64 (Lib.compareInt e b), .int .i64 (Lib.compareInt f c), .int .i64 (Lib.compareInt a d)]).drew.cellv (i := 1) rfl) ((Blk.new w2 3 #[.int .i64 (Lib.compareInt e b), .int .i64 (Lib.compareInt f c), .int .i64 (Lib.compareInt a d)]).drew.cellv (i := 2) rfl)).mono ?_; rintro e w' ⟨rfl, rfl⟩)))
  all_goals
    go_wp2_with fail
    go_ret
    refine ⟨ret_int Hr.out, 1, #[.cells #[.int .i64 a, .int .i64 b, .int .i64 c] 74, .cells #[.int .i64 d, .int .i64 e, .int .i64 f] 74, .cells #[.int .i64 (compareInt e b), .int .i64 (compareInt f c), .int .i64 (compareInt a d)] 3], ?_⟩
    rw [← Hw2.out, alloc_eq_grow, alloc_eq_grow, alloc_eq_grow, grow_grow, grow_grow]
    rfl
end Go.Proofs.Ytfoehijlafooaaa
