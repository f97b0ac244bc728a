/- moves.all's second closure: how two moves compare -/
import Derived.Test.YtdfegpohmaideaaGreatMvSt
import Derived.Test.YtdfegpohmaideaaGreatOrderPlain
import Derived.Test.YtdfegpohmaideaaGreatShelf
import Derived.Test.YtdfegpohmaideaaGreatSortM
import Derived.Test.YtdfegpohmaideaaGreatAppends
namespace Go.Proofs.YtdfegpohmaideaaGreat
open Go.RowKit Go.Shelf Go.Lib Go.Sort

set_option maxHeartbeats 1000000 in
set_option maxRecDepth 100000 in
theorem or_any3 (x y z : Int) (g : Nat) (w : World) (c0 : w.cell? ⟨g, 0, none⟩ = some (.int .i64 x)) (c1 : w.cell? ⟨g, 1, none⟩ = some (.int .i64 y)) (c2 : w.cell? ⟨g, 2, none⟩ = some (.int .i64 z)) :
    Calls Tryz.prog 80 #[.slice (some ⟨g, 0, none⟩) 3 3] w fun e w' => e = .returned (.int .i64 (or3 x y z)) ∧ w' = w := by
  have C0 := hide c0
  have C1 := hide c1
  have C2 := hide c2
  clear c0 c1 c2
  go_enter Tryz.func80, Tryz.ntmps80
  go_wp2_with fail
  go_loop [8] (fun idx => ∃ k : Nat, k ≤ 3 ∧ idx = .int .i64 k ∧ (0 < k → x = 0) ∧ (1 < k → y = 0) ∧ (2 < k → z = 0)) (fun idx => 3 - (intOf idx).toNat)
  case atStart => exact ⟨0, by omega, rfl, by omega, by omega, by omega⟩
  case round =>
    obtain ⟨k, hk, rfl, h1, h2, h3⟩ := hrel
    have H1 := hide h1
    have H2 := hide h2
    have H3 := hide h3
    clear h1 h2 h3
    by_cases k0 : k = 0
    · subst k0
      have e0 := C0.out
      by_cases hx : x = 0
      · have q : (x != 0) = false := by simp [hx]
        have Hx := hide hx
        clear hx
        go_wp2_with fail
        go_round
        case rel => exact ⟨1, by omega, rfl, fun _ => Hx.out, by omega, by omega⟩
        case measure => simp [intOf]
      · have q : (x != 0) = true := by simp [hx]
        have hf := hide (show x = or3 x y z by simp [or3, hx])
        clear hx
        go_wp2_with fail
        go_ret
        exact ⟨ret_int hf.out, rfl⟩
    · by_cases k1 : k = 1
      · subst k1
        have e1 := C1.out
        by_cases hy : y = 0
        · have q : (y != 0) = false := by simp [hy]
          have Hy := hide hy
          clear hy
          go_wp2_with fail
          go_round
          case rel => exact ⟨2, by omega, rfl, fun _ => H1.out (by omega), fun _ => Hy.out, by omega⟩
          case measure => simp [intOf]
        · have q : (y != 0) = true := by simp [hy]
          have hf := hide (show y = or3 x y z by rw [H1.out (by omega)]; simp [or3, hy])
          clear hy
          go_wp2_with fail
          go_ret
          exact ⟨ret_int hf.out, rfl⟩
      · by_cases k2 : k = 2
        · subst k2
          have e2 := C2.out
          by_cases hz : z = 0
          · have q : (z != 0) = false := by simp [hz]
            have Hz := hide hz
            clear hz
            go_wp2_with fail
            go_round
            case rel => exact ⟨3, by omega, rfl, fun _ => H1.out (by omega), fun _ => H2.out (by omega), fun _ => Hz.out⟩
            case measure => simp [intOf]
          · have q : (z != 0) = true := by simp [hz]
            have hf := hide (show z = or3 x y z by rw [H1.out (by omega), H2.out (by omega)]; simp [or3])
            clear hz
            go_wp2_with fail
            go_ret
            exact ⟨ret_int hf.out, rfl⟩
        · obtain rfl : k = 3 := by omega
          have hf := hide (show 0 = or3 x y z by rw [H1.out (by omega), H2.out (by omega), H3.out (by omega)]; simp [or3])
          go_wp2_with fail
          go_ret
          exact ⟨ret_int hf.out, rfl⟩

def encM (m : Mv) : List Value := [.int .i64 m.f, .int .i64 m.t, .int .u8 (m.c : Int)]
def cfM (x y : Mv) : Int := or3 (Lib.compareInt x.f y.f) (Lib.compareInt x.t y.t) (Lib.compareInt x.c y.c)
theorem cfM_lt {x y : Mv} : ltOf cfM x y = true ↔ ltM x y := by
  unfold ltOf cfM or3 Lib.compareInt ltM
  simp only [decide_eq_true_eq]
  rcases Int.lt_trichotomy x.f y.f with h | h | h
  · simp [h]
  · rcases Int.lt_trichotomy x.t y.t with h2 | h2 | h2
    · simp [h, h2]
    · rcases Nat.lt_trichotomy x.c y.c with h3 | h3 | h3
      · simp [h, h2, h3]
      · simp [h, h2, h3]
      · have e1 : ¬ x.c < y.c := by omega
        simp [h, h2, h3, e1]
    · have e1 : ¬ x.t < y.t := by omega
      have e2 : ¬ x.t = y.t := by omega
      simp [h, h2, e1, e2]
  · have e1 : ¬ x.f < y.f := by omega
    have e2 : ¬ x.f = y.f := by omega
    simp [h, e1, e2]
theorem cfM_false {x y : Mv} : ltOf cfM x y = false ↔ ¬ ltM x y := by rw [← cfM_lt]; simp
theorem swoM : SWO (ltOf cfM) where
  irrefl x := by rw [cfM_false]; exact ltM_irrefl x
  trans x y z h1 h2 := by rw [cfM_lt] at *; exact ltM_trans h1 h2
  ntrans x y z h1 h2 := by rw [cfM_false] at *; unfold ltM at *; omega
theorem totM : ∀ x y, ltOf cfM x y = false → ltOf cfM y x = false → x = y := fun x y h1 h2 => by
  rw [cfM_false] at h1 h2
  exact ltM_total h1 h2

set_option maxHeartbeats 400000 in
theorem nan_byte (x : Int) (w : World) : Calls Tryz.prog 114 #[.int .u8 x] w fun e w' => e = .returned (.bool false) ∧ w' = w := by
  have e1 : (x != x) = false := by simp
  go_enter Tryz.func114, Tryz.ntmps114
  go_wp2_with fail
  go_ret
  exact ⟨rfl, rfl⟩
set_option maxHeartbeats 400000 in
theorem cmp_byte (x y : Int) (w : World) : Calls Tryz.prog 90 #[.int .u8 x, .int .u8 y] w fun e w' => e = .returned (.int .i64 (Lib.compareInt x y)) ∧ w' = w := by
  have Hn := hide (fun q w => nan_byte q w)
  obtain ⟨r, hr⟩ : ∃ r, Lib.compareInt x y = r := ⟨_, rfl⟩
  have Hr := hide hr
  rcases Int.lt_trichotomy x y with h | h | h
  · have H := hide (show -1 = r by rw [← hr]; simp [Lib.compareInt, h])
    have d1 : decide (x < y) = true := decide_eq_true h
    clear hr h
    go_enter Tryz.func90, Tryz.ntmps90
    go_wp2_with (go_at_call 114; refine (Hn.out _ _).mono ?_; rintro e w' ⟨rfl, rfl⟩)
    go_ret
    exact ⟨ret_int (H.out.trans Hr.out.symm), rfl⟩
  · have H := hide (show 0 = r by rw [← hr]; simp [Lib.compareInt, h])
    have d1 : decide (x < y) = false := decide_eq_false (by omega)
    have d2 : decide (x > y) = false := decide_eq_false (by omega)
    clear hr h
    go_enter Tryz.func90, Tryz.ntmps90
    go_wp2_with (go_at_call 114; refine (Hn.out _ _).mono ?_; rintro e w' ⟨rfl, rfl⟩)
    go_ret
    exact ⟨ret_int (H.out.trans Hr.out.symm), rfl⟩
  · have e1 : ¬ x < y := by omega
    have H := hide (show 1 = r by rw [← hr]; simp [Lib.compareInt, h, e1])
    have d1 : decide (x < y) = false := decide_eq_false (by omega)
    have d2 : decide (x > y) = true := decide_eq_true (by omega)
    clear hr h e1
    go_enter Tryz.func90, Tryz.ntmps90
    go_wp2_with (go_at_call 114; refine (Hn.out _ _).mono ?_; rintro e w' ⟨rfl, rfl⟩)
    go_ret
    exact ⟨ret_int (H.out.trans Hr.out.symm), rfl⟩
set_option maxHeartbeats 2000000 in
set_option maxRecDepth 100000 in
theorem cmpM_any (x y : Mv) (W : World) : Calls Tryz.prog 89 #[.agg #[.int .i64 x.f, .int .i64 x.t, .int .u8 x.c], .agg #[.int .i64 y.f, .int .i64 y.t, .int .u8 y.c]] W fun e w' => e = .returned (.int .i64 (cfM x y)) ∧ ∃ q os', w' = grow (W.drewN q) os' := by
  obtain ⟨a, b, c⟩ := x
  obtain ⟨d, e, f⟩ := y
  simp only
  obtain ⟨r, hr⟩ : ∃ r, cfM ⟨a, b, c⟩ ⟨d, e, f⟩ = r := ⟨_, rfl⟩
  rw [hr]
  have Hr := hide hr
  clear hr
  go_enter Tryz.func89, Tryz.ntmps89
  go_wp2_with fail
  have BX := hide ((Blk.new W 29 #[.int .i64 a, .int .i64 b, .int .u8 c]).alloc (.cells #[.int .i64 d, .int .i64 e, .int .u8 f] 29))
  have BY := hide (Blk.new (W.alloc (.cells #[.int .i64 a, .int .i64 b, .int .u8 c] 29)) 29 #[.int .i64 d, .int .i64 e, .int .u8 f])
  simp only [World.size_alloc] at BY
  obtain ⟨w2, hw2⟩ : ∃ w2, (W.alloc (.cells #[.int .i64 a, .int .i64 b, .int .u8 c] 29)).alloc (.cells #[.int .i64 d, .int .i64 e, .int .u8 f] 29) = w2 := ⟨_, rfl⟩
  rw [hw2] at BX BY ⊢
  have Hw2 := hide hw2
  clear hw2
  have x0 := BX.out.cell 0
  have x1 := BX.out.cell 1
  have x2 := BX.out.cell 2
  have y0 := BY.out.cell 0
  have y1 := BY.out.cell 1
  have y2 := BY.out.cell 2
  simp at x0 x1 x2 y0 y1 y2
  go_region_held3 (fun w' => w'.cell? ⟨W.heap.size, 0, none⟩ = some (.int .i64 a) ∧ w'.cell? ⟨W.heap.size, 1, none⟩ = some (.int .i64 b) ∧ w'.cell? ⟨W.heap.size, 2, none⟩ = some (.int .u8 c) ∧ w'.cell? ⟨W.heap.size + 1, 0, none⟩ = some (.int .i64 d) ∧ w'.cell? ⟨W.heap.size + 1, 1, none⟩ = some (.int .i64 e) ∧ w'.cell? ⟨W.heap.size + 1, 2, none⟩ = some (.int .u8 f)) (first | exact ⟨x0, x1, x2, y0, y1, y2⟩ | (have hlt := BX.out.lt; have hlt2 := BY.out.lt; refine ⟨?_, ?_, ?_, ?_, ?_, ?_⟩ <;> go_keep) | go_keep)
    ((first | (go_at_call 82; refine (Tryz.cmp_Compare_int _ _ _).mono ?_; rintro e w' ⟨rfl, rfl⟩)
            | (go_at_call 90; refine (cmp_byte _ _ _).mono ?_; rintro e w' ⟨rfl, rfl⟩)
            | (go_at_call 80; refine (or_any3 (Lib.compareInt a d) (Lib.compareInt b e) (Lib.compareInt c f) w2.heap.size _ ((Blk.new w2 3 #[.int .i64 (Lib.compareInt a d), .int .i64 (Lib.compareInt b e), .int .i64 (Lib.compareInt c f)]).drew.cellv (i := 0) rfl) ((Blk.new w2 3 #[.int .i64 (Lib.compareInt a d), .int .i64 (Lib.compareInt b e), .int .i64 (Lib.compareInt c f)]).drew.cellv (i := 1) rfl) ((Blk.new w2 3 #[.int .i64 (Lib.compareInt a d), .int .i64 (Lib.compareInt b e), .int .i64 (Lib.compareInt c f)]).drew.cellv (i := 2) rfl)).mono ?_; rintro e w' ⟨rfl, rfl⟩)))
  all_goals
    go_wp2_with fail
    go_ret
    refine ⟨ret_int Hr.out, 1, #[.cells #[.int .i64 a, .int .i64 b, .int .u8 c] 29, .cells #[.int .i64 d, .int .i64 e, .int .u8 f] 29, .cells #[.int .i64 (compareInt a d), .int .i64 (compareInt b e), .int .i64 (compareInt c f)] 3], ?_⟩
    rw [← Hw2.out, alloc_eq_grow, alloc_eq_grow, alloc_eq_grow, grow_grow, grow_grow]
    rfl
end Go.Proofs.YtdfegpohmaideaaGreat
