/- moves.all's second closure: how two moves compare slices.Compact of moves Moves sorted and without doubles are the moves by the cells. moves sorted and without doubles, in memory The moves by the cells, plain: as the loops find them. -/
import Derived.Test.YtcdfeaodfmfdnaaGreatDoorPlMvSt
import Derived.Test.YtcdfeaodfmfdnaaGreatDoorPlPlainM
import Derived.Test.YtcdfeaodfmfdnaaGreatDoorShelf
import Derived.Test.YtcdfeaodfmfdnaaGreatDoorSortM
import Derived.Test.YtcdfeaodfmfdnaaGreatDoorPlRuM
import Derived.Shelf.SlicesE.Kit
import Derived.Lib.SlicesCompact
import Derived.Lib.SliceRun
import Derived.Laws.StructEq
import Derived.Test.YtcdfeaodfmfdnaaGreatDoorPlMvGoes
namespace Go.Proofs.YtcdfeaodfmfdnaaGreatDoor
open Go.RowKit Go.Shelf Go.Lib Go.Sort

set_option maxHeartbeats 1000000 in
set_option maxRecDepth 100000 in
theorem or_any3 (x y z : Int) (g : Nat) (w : World) (c0 : w.cell? ⟨g, 0, none⟩ = some (.int .i64 x)) (c1 : w.cell? ⟨g, 1, none⟩ = some (.int .i64 y)) (c2 : w.cell? ⟨g, 2, none⟩ = some (.int .i64 z)) :
    Calls Tryz.prog 181 #[.slice (some ⟨g, 0, none⟩) 3 3] w fun e w' => e = .returned (.int .i64 (or3 x y z)) ∧ w' = w := by
  have C0 := hide c0
  have C1 := hide c1
  have C2 := hide c2
  clear c0 c1 c2
  go_enter Tryz.func181, Tryz.ntmps181
  go_wp2_with fail
  go_loop [8] (fun idx => ∃ k : Nat, k ≤ 3 ∧ idx = .int .i64 k ∧ (0 < k → x = 0) ∧ (1 < k → y = 0) ∧ (2 < k → z = 0)) (fun idx => 3 - (intOf idx).toNat)
  case atStart => exact ⟨0, by omega, rfl, by omega, by omega, by omega⟩
  case round =>
    obtain ⟨k, hk, rfl, h1, h2, h3⟩ := hrel
    have H1 := hide h1
    have H2 := hide h2
    have H3 := hide h3
    clear h1 h2 h3
    by_cases k0 : k = 0
    · subst k0
      have e0 := C0.out
      by_cases hx : x = 0
      · have q : (x != 0) = false := by simp [hx]
        have Hx := hide hx
        clear hx
        go_wp2_with fail
        go_round
        case rel => exact ⟨1, by omega, rfl, fun _ => Hx.out, by omega, by omega⟩
        case measure => simp [intOf]
      · have q : (x != 0) = true := by simp [hx]
        have hf := hide (show x = or3 x y z by simp [or3, hx])
        clear hx
        go_wp2_with fail
        go_ret
        exact ⟨ret_int hf.out, rfl⟩
    · by_cases k1 : k = 1
      · subst k1
        have e1 := C1.out
        by_cases hy : y = 0
        · have q : (y != 0) = false := by simp [hy]
          have Hy := hide hy
          clear hy
          go_wp2_with fail
          go_round
          case rel => exact ⟨2, by omega, rfl, fun _ => H1.out (by omega), fun _ => Hy.out, by omega⟩
          case measure => simp [intOf]
        · have q : (y != 0) = true := by simp [hy]
          have hf := hide (show y = or3 x y z by rw [H1.out (by omega)]; simp [or3, hy])
          clear hy
          go_wp2_with fail
          go_ret
          exact ⟨ret_int hf.out, rfl⟩
      · by_cases k2 : k = 2
        · subst k2
          have e2 := C2.out
          by_cases hz : z = 0
          · have q : (z != 0) = false := by simp [hz]
            have Hz := hide hz
            clear hz
            go_wp2_with fail
            go_round
            case rel => exact ⟨3, by omega, rfl, fun _ => H1.out (by omega), fun _ => H2.out (by omega), fun _ => Hz.out⟩
            case measure => simp [intOf]
          · have q : (z != 0) = true := by simp [hz]
            have hf := hide (show z = or3 x y z by rw [H1.out (by omega), H2.out (by omega)]; simp [or3])
            clear hz
            go_wp2_with fail
            go_ret
            exact ⟨ret_int hf.out, rfl⟩
        · obtain rfl : k = 3 := by omega
          have hf := hide (show 0 = or3 x y z by rw [H1.out (by omega), H2.out (by omega), H3.out (by omega)]; simp [or3])
          go_wp2_with fail
          go_ret
          exact ⟨ret_int hf.out, rfl⟩

def encM (m : Mv) : List Value := [.int .i64 m.f, .int .i64 m.t, .int .u8 (m.c : Int)]
def cfM (x y : Mv) : Int := or3 (Lib.compareInt x.f y.f) (Lib.compareInt x.t y.t) (Lib.compareInt x.c y.c)
theorem cfM_lt {x y : Mv} : ltOf cfM x y = true ↔ ltM x y := by
  unfold ltOf cfM or3 Lib.compareInt ltM
  simp only [decide_eq_true_eq]
  rcases Int.lt_trichotomy x.f y.f with h | h | h
  · simp [h]
  · rcases Int.lt_trichotomy x.t y.t with h2 | h2 | h2
    · simp [h, h2]
    · rcases Nat.lt_trichotomy x.c y.c with h3 | h3 | h3
      · simp [h, h2, h3]
      · simp [h, h2, h3]
      · have e1 : ¬ x.c < y.c := by omega
        simp [h, h2, h3, e1]
    · have e1 : ¬ x.t < y.t := by omega
      have e2 : ¬ x.t = y.t := by omega
      simp [h, h2, e1, e2]
  · have e1 : ¬ x.f < y.f := by omega
    have e2 : ¬ x.f = y.f := by omega
    simp [h, e1, e2]
theorem cfM_false {x y : Mv} : ltOf cfM x y = false ↔ ¬ ltM x y := by rw [← cfM_lt]; simp
theorem swoM : SWO (ltOf cfM) where
  irrefl x := by rw [cfM_false]; exact ltM_irrefl x
  trans x y z h1 h2 := by rw [cfM_lt] at *; exact ltM_trans h1 h2
  ntrans x y z h1 h2 := by rw [cfM_false] at *; unfold ltM at *; omega
theorem totM : ∀ x y, ltOf cfM x y = false → ltOf cfM y x = false → x = y := fun x y h1 h2 => by
  rw [cfM_false] at h1 h2
  exact ltM_total h1 h2

set_option maxHeartbeats 400000 in
theorem nan_byte (x : Int) (w : World) : Calls Tryz.prog 202 #[.int .u8 x] w fun e w' => e = .returned (.bool false) ∧ w' = w := by
  have e1 : (x != x) = false := by simp
  go_enter Tryz.func202, Tryz.ntmps202
  go_wp2_with fail
  go_ret
  exact ⟨rfl, rfl⟩
set_option maxHeartbeats 400000 in
theorem cmp_byte (x y : Int) (w : World) : Calls Tryz.prog 183 #[.int .u8 x, .int .u8 y] w fun e w' => e = .returned (.int .i64 (Lib.compareInt x y)) ∧ w' = w := by
  have Hn := hide (fun q w => nan_byte q w)
  obtain ⟨r, hr⟩ : ∃ r, Lib.compareInt x y = r := ⟨_, rfl⟩
  have Hr := hide hr
  rcases Int.lt_trichotomy x y with h | h | h
  · have H := hide (show -1 = r by rw [← hr]; simp [Lib.compareInt, h])
    have d1 : decide (x < y) = true := decide_eq_true h
    clear hr h
    go_enter Tryz.func183, Tryz.ntmps183
    go_wp2_with (go_at_call 202; refine (Hn.out _ _).mono ?_; rintro e w' ⟨rfl, rfl⟩)
    go_ret
    exact ⟨ret_int (H.out.trans Hr.out.symm), rfl⟩
  · have H := hide (show 0 = r by rw [← hr]; simp [Lib.compareInt, h])
    have d1 : decide (x < y) = false := decide_eq_false (by omega)
    have d2 : decide (x > y) = false := decide_eq_false (by omega)
    clear hr h
    go_enter Tryz.func183, Tryz.ntmps183
    go_wp2_with (go_at_call 202; refine (Hn.out _ _).mono ?_; rintro e w' ⟨rfl, rfl⟩)
    go_ret
    exact ⟨ret_int (H.out.trans Hr.out.symm), rfl⟩
  · have e1 : ¬ x < y := by omega
    have H := hide (show 1 = r by rw [← hr]; simp [Lib.compareInt, h, e1])
    have d1 : decide (x < y) = false := decide_eq_false (by omega)
    have d2 : decide (x > y) = true := decide_eq_true (by omega)
    clear hr h e1
    go_enter Tryz.func183, Tryz.ntmps183
    go_wp2_with (go_at_call 202; refine (Hn.out _ _).mono ?_; rintro e w' ⟨rfl, rfl⟩)
    go_ret
    exact ⟨ret_int (H.out.trans Hr.out.symm), rfl⟩
set_option maxHeartbeats 2000000 in
set_option maxRecDepth 100000 in
theorem cmpM_any (x y : Mv) (W : World) : Calls Tryz.prog 180 #[.agg #[.int .i64 x.f, .int .i64 x.t, .int .u8 x.c], .agg #[.int .i64 y.f, .int .i64 y.t, .int .u8 y.c]] W fun e w' => e = .returned (.int .i64 (cfM x y)) ∧ ∃ q os', w' = grow (W.drewN q) os' := by
  obtain ⟨a, b, c⟩ := x
  obtain ⟨d, e, f⟩ := y
  simp only
  obtain ⟨r, hr⟩ : ∃ r, cfM ⟨a, b, c⟩ ⟨d, e, f⟩ = r := ⟨_, rfl⟩
  rw [hr]
  have Hr := hide hr
  clear hr
  go_enter Tryz.func180, Tryz.ntmps180
  go_wp2_with fail
  have BX := hide ((Blk.new W 101 #[.int .i64 a, .int .i64 b, .int .u8 c]).alloc (.cells #[.int .i64 d, .int .i64 e, .int .u8 f] 101))
  have BY := hide (Blk.new (W.alloc (.cells #[.int .i64 a, .int .i64 b, .int .u8 c] 101)) 101 #[.int .i64 d, .int .i64 e, .int .u8 f])
  simp only [World.size_alloc] at BY
  obtain ⟨w2, hw2⟩ : ∃ w2, (W.alloc (.cells #[.int .i64 a, .int .i64 b, .int .u8 c] 101)).alloc (.cells #[.int .i64 d, .int .i64 e, .int .u8 f] 101) = w2 := ⟨_, rfl⟩
  rw [hw2] at BX BY ⊢
  have Hw2 := hide hw2
  clear hw2
  have x0 := BX.out.cell 0
  have x1 := BX.out.cell 1
  have x2 := BX.out.cell 2
  have y0 := BY.out.cell 0
  have y1 := BY.out.cell 1
  have y2 := BY.out.cell 2
  simp at x0 x1 x2 y0 y1 y2
  go_region_held3 (fun w' => w'.cell? ⟨W.heap.size, 0, none⟩ = some (.int .i64 a) ∧ w'.cell? ⟨W.heap.size, 1, none⟩ = some (.int .i64 b) ∧ w'.cell? ⟨W.heap.size, 2, none⟩ = some (.int .u8 c) ∧ w'.cell? ⟨W.heap.size + 1, 0, none⟩ = some (.int .i64 d) ∧ w'.cell? ⟨W.heap.size + 1, 1, none⟩ = some (.int .i64 e) ∧ w'.cell? ⟨W.heap.size + 1, 2, none⟩ = some (.int .u8 f)) (first | exact ⟨x0, x1, x2, y0, y1, y2⟩ | (have hlt := BX.out.lt; have hlt2 := BY.out.lt; refine ⟨?_, ?_, ?_, ?_, ?_, ?_⟩ <;> go_keep) | go_keep)
    ((first | (go_at_call 182; refine (Tryz.cmp_Compare_int _ _ _).mono ?_; rintro e w' ⟨rfl, rfl⟩)
            | (go_at_call 183; refine (cmp_byte _ _ _).mono ?_; rintro e w' ⟨rfl, rfl⟩)
            | (go_at_call 181; refine (or_any3 (Lib.compareInt a d) (Lib.compareInt b e) (Lib.compareInt c f) w2.heap.size _ ((Blk.new w2 3 #[.int .i64 (Lib.compareInt a d), .int .i64 (Lib.compareInt b e), .int .i64 (Lib.compareInt c f)]).drew.cellv (i := 0) rfl) ((Blk.new w2 3 #[.int .i64 (Lib.compareInt a d), .int .i64 (Lib.compareInt b e), .int .i64 (Lib.compareInt c f)]).drew.cellv (i := 1) rfl) ((Blk.new w2 3 #[.int .i64 (Lib.compareInt a d), .int .i64 (Lib.compareInt b e), .int .i64 (Lib.compareInt c f)]).drew.cellv (i := 2) rfl)).mono ?_; rintro e w' ⟨rfl, rfl⟩)))
  all_goals
    go_wp2_with fail
    go_ret
    refine ⟨ret_int Hr.out, 1, #[.cells #[.int .i64 a, .int .i64 b, .int .u8 c] 101, .cells #[.int .i64 d, .int .i64 e, .int .u8 f] 101, .cells #[.int .i64 (compareInt a d), .int .i64 (compareInt b e), .int .i64 (compareInt c f)] 3], ?_⟩
    rw [← Hw2.out, alloc_eq_grow, alloc_eq_grow, alloc_eq_grow, grow_grow, grow_grow]
    rfl
end Go.Proofs.YtcdfeaodfmfdnaaGreatDoor
namespace Go.Proofs.YtcdfeaodfmfdnaaGreatDoor
open Go.RowKit Go.Shelf Go.Lib Go.Sort

instance : DecidableEq Mv := fun r s =>
  if h : r.f = s.f ∧ r.t = s.t ∧ r.c = s.c then isTrue (Mv.ext_ h.1 h.2.1 h.2.2) else isFalse (fun e => h (by rw [e]; exact ⟨rfl, rfl, rfl⟩))
instance : Inhabited Mv := ⟨⟨0, 0, 0⟩⟩
theorem eqM : EqlAt Tryz.prog 101 (fun x => .agg (encM x).toArray) (fun x y => decide (x = y)) := by
  refine ⟨fun x y w => ?_, GuardAt.agg _ (by kernel_rfl)⟩
  have u3 := Tryz.underlying3
  have a3 := Tryz.isAgg3
  have z3 := Tryz.sizeOf3
  have u5 := Tryz.underlying5
  have a5 := Tryz.isAgg5
  have z5 := Tryz.sizeOf5
  have hS : Tryz.prog.underlying 101 = some (.struct (Tryz.prog.fieldsOf 101)) := by kernel_rfl
  have hp : Tryz.prog.stoodInHeld 101 = false := by kernel_rfl
  simp only [encM]
  rw [run_eql_struct, show (10000 : Nat) = 9999 + 1 from rfl, run_equalIn_agg w 9999 101 _ _ hS hp]
  simp only [Program.fieldsOf, Tryz.underlying101]
  go_simp
  obtain ⟨a, b, c⟩ := x
  obtain ⟨d, e, f⟩ := y
  simp only
  by_cases h1 : a = d <;> by_cases h2 : b = e <;> by_cases h3 : c = f <;> simp [h1, h2, h3]
  all_goals omega
theorem neqM (x y : Mv) (w : World) : (binOp .neq 101 (.agg (encM x).toArray) (.agg (encM y).toArray)).run Tryz.prog w = .ok (.bool (!decide (x = y))) w := by
  have h := eqM.1 x y w
  simp only [encM] at h ⊢
  rw [run_eql_struct] at h
  rw [run_neq_struct]
  generalize (Op.equalIn 10000 101 (.agg [Value.int .i64 x.f, .int .i64 x.t, .int .u8 x.c].toArray) (.agg [Value.int .i64 y.f, .int .i64 y.t, .int .u8 y.c].toArray)).run Tryz.prog w = r at h ⊢
  cases r with
  | ok b w2 =>
    simp only [Result.andThen_ok] at h ⊢
    injection h with h1 h2
    injection h1 with h1
    rw [h1, h2]
  | _ => simp [Result.andThen] at h
theorem encM_len (x : Mv) : (encM x).length = 3 := rfl
theorem encM_one (x : Mv) : ∀ v ∈ encM x, v.oneCell' = true := fun v hv => by
  simp [encM] at hv
  rcases hv with rfl | rfl | rfl <;> rfl
theorem setMany_flat (d : Array Mv) (i : Nat) (u : Mv) (hi : i < d.size) : setMany (flatK encM 3 d) (i * 3) (encM u) = flatK encM 3 (d.setIfInBounds i u) := by
  apply ext_get!
  · simp
  intro t ht
  have ht' : t < d.size * 3 := by simpa using ht
  rw [get_setMany _ _ _ _ (by simpa using ht), get_flatK encM 3 (d.setIfInBounds i u) t (by simpa using ht')]
  have hlt : t / 3 < d.size := by omega
  by_cases h : t / 3 = i
  · rw [if_pos (by rw [encM_len]; omega)]
    have e : (d.setIfInBounds i u)[t / 3]! = u := by
      rw [h, getElem!_pos _ i (by simpa using hi), Array.getElem_setIfInBounds, if_pos rfl]
      exact hi
    rw [e, show t - i * 3 = t % 3 by omega]
  · rw [if_neg (by rw [encM_len]; omega), get_flatK encM 3 _ t ht']
    have e : (d.setIfInBounds i u)[t / 3]! = d[t / 3]! := by
      rw [getElem!_pos _ (t / 3) (by simpa using hlt), getElem!_pos d (t / 3) hlt, Array.getElem_setIfInBounds, if_neg (fun h2 => h h2.symm)]
    rw [e]
theorem put_world {w wr : World} {n g : Nat} {dk : Array Mv} {i : Nat} (hi : i < dk.size) (hwr : wr = putRowK encM 3 (Sort.ahead w n) g 0 dk) (u : Mv) : wr.setCells g (i * 3) (encM u) = putRowK encM 3 (Sort.ahead w n) g 0 (dk.setIfInBounds i u) := by
  subst hwr
  have h := setCells_putRow (Sort.ahead w n) g 0 (encM u) (i * 3) (flatK encM 3 dk) (by rw [encM_len, size_flatK]; omega)
  rw [Nat.zero_add] at h
  unfold putRowK
  rw [h, setMany_flat dk i u hi]
/-- a move of a row that is held -/
theorem heldM {w : World} {g : Nat} {d : Array Mv} (h : HoldsK encM 3 w g 0 d) {i : Nat} (hi : i < d.size) :
    (w.cell? ⟨g, i * 3, none⟩ = some (.int .i64 d[i]!.f) ∧ w.cell? ⟨g, i * 3 + 1, none⟩ = some (.int .i64 d[i]!.t) ∧ w.cell? ⟨g, i * 3 + 2, none⟩ = some (.int .u8 d[i]!.c)) ∧
    w.frozen? ⟨g, i * 3, none⟩ = false ∧ w.frozen? ⟨g, i * 3 + 1, none⟩ = false ∧ w.frozen? ⟨g, i * 3 + 2, none⟩ = false := by
  have hs : (flatK encM 3 d).size = d.size * 3 := size_flatK encM 3 d
  have key : ∀ c, c < 3 → w.cell? ⟨g, i * 3 + c, none⟩ = some ((encM d[i]!)[c]!) ∧ w.frozen? ⟨g, i * 3 + c, none⟩ = false := by
    intro c hc
    have := h (i * 3 + c) (by rw [hs]; omega)
    rw [Nat.zero_add, get_flatK encM 3 d _ (by omega), show (i * 3 + c) / 3 = i by omega, show (i * 3 + c) % 3 = c by omega] at this
    exact this
  exact ⟨⟨(key 0 (by omega)).1, (key 1 (by omega)).1, (key 2 (by omega)).1⟩, (key 0 (by omega)).2, (key 1 (by omega)).2, (key 2 (by omega)).2⟩
theorem grownBy_sortedM {w : World} {g n : Nat} {os : Array Obj} (d : Array Mv) : w.grownBy (grow (putRowK encM 3 (Sort.ahead w n) g 0 d) os) (some g) := by
  refine ⟨rfl, rfl, rfl, by simp [putRowK], fun k hk hne => ?_⟩
  rw [heap_grow_old _ _ (by simpa [putRowK] using hk)]
  have : g ≠ k := fun e => hne (by rw [e])
  simp [putRowK, putRow, mapBlock, Sort.ahead, Array.getElem?_modify, this]
theorem only_sorted {w : World} {n g : Nat} (d : Array Mv) (os : Array Obj) : Only (fun k => k = g) w (sortWorldK encM 3 w g 0 n d os) := by
  have h : w.grownBy (sortWorldK encM 3 w g 0 n d os) (some g) := grownBy_sortedM d
  exact (Only.refl _ w).grown h (fun k hk => .inl (by injection hk with hk; exact hk.symm))
theorem only_putRow (w : World) (n g : Nat) (d : Array Mv) : Only (fun k => k = g) w (putRowK encM 3 (Sort.ahead w n) g 0 d) := by
  have h := only_sorted (w := w) (n := n) (g := g) d #[]
  unfold sortWorldK at h
  have e : ∀ w : World, grow w #[] = w := fun w => by simp [grow]
  rwa [e] at h
theorem run_clearM (w : World) (ty : TypeId) (b o n c : Nat) (hn : 0 < n)
    (hc : ∀ j, j < n * 3 → (w.cell? ⟨b, o + j, none⟩).isSome = true) (hf : ∀ j, j < n * 3 → w.frozen? ⟨b, o + j, none⟩ = false) :
    ∃ vs : List Value, (Builtin.clear_ #[111] ty #[.slice (some ⟨b, o, none⟩) n c]).run Tryz.prog w = .ok (.tuple #[]) (w.setCells b o vs) := by
  have hzl : (Builtin.zeroCells (Value.agg #[.int .i64 0, .int .i64 0, .int .u8 0]).cells n).toList.length = n * 3 := by simp [Builtin.zeroCells, Value.cells]
  have hst := run_storeCells_cells (P := Tryz.prog) b o (Builtin.zeroCells (Value.agg #[.int .i64 0, .int .i64 0, .int .u8 0]).cells n).toList 0 w (by rw [hzl]; simpa using hc) (by rw [hzl]; simpa using hf) (by
    intro v hv
    simp [Builtin.zeroCells, Value.cells] at hv
    obtain ⟨j, _, rfl⟩ := hv
    have h3 : j % 3 = 0 ∨ j % 3 = 1 ∨ j % 3 = 2 := by omega
    rcases h3 with h | h | h <;> simp [h] <;> rfl)
  simp only [Nat.add_zero] at hst
  obtain ⟨m, rfl⟩ : ∃ m, n = m + 1 := ⟨n - 1, by omega⟩
  refine ⟨(Builtin.zeroCells (Value.agg #[.int .i64 0, .int .i64 0, .int .u8 0]).cells (m + 1)).toList, ?_⟩
  simp [Builtin.clear_, run_underlying Tryz.underlying111, Tryz.zeroValue101, hst]
theorem mv_only_setCells (w : World) (g : Nat) : ∀ (vs : List Value) (o : Nat), Only (fun k => k = g) w (w.setCells g o vs) := by
  intro vs
  induction vs generalizing w with
  | nil => intro o; exact Only.refl _ w
  | cons v vs ih => intro o; exact (Only.setCell (p := ⟨g, o, none⟩) (Only.refl (fun k => k = g) w) (.inl rfl) v).trans (ih (w.setCell ⟨g, o, none⟩ v) (o + 1))
theorem frozen_setCells (g : Nat) : ∀ (vs : List Value) (o : Nat) (w : World) (x : Addr), (w.setCells g o vs).frozen? x = w.frozen? x
  | [], _, _, _ => rfl
  | v :: vs, o, w, x => by
    show ((w.setCell ⟨g, o, none⟩ v).setCells g (o + 1) vs).frozen? x = _
    rw [frozen_setCells g vs, World.frozen?_setCell]
def CompOut (W : World) (g c : Nat) (d : Array Mv) (e : Ending) (w' : World) : Prop :=
  e = .returned (.slice (some ⟨g, 0, none⟩) (compactUpTo d d.size).length c) ∧ HoldsK encM 3 w' g 0 (compactUpTo d d.size).toArray ∧ Only (fun k => k = g) W w'
theorem keeps_all_size {d : Array Mv} (h : ∀ j, j < d.size → keeps d j = true) : compactUpTo d d.size = d.toList := by rw [compactUpTo_all d _ h, range_map_get]
set_option maxHeartbeats 4000000 in
set_option maxRecDepth 100000 in
theorem compact_any (g c : Nat) (d : Array Mv) (W : World) (hH : HoldsK encM 3 W g 0 d) (hg : g < W.heap.size) (hc : d.size ≤ c) (hsz : d.size ≤ 10000000) :
    Calls Tryz.prog 184 #[.slice (some ⟨g, 0, none⟩) d.size c] W (CompOut W g c d) := by
  have HH := hide hH
  have Hsame := hide (fun (q : Nat) (h : ∀ j, j < d.size → keeps d j = true) => show CompOut W g c d (.returned (.slice (some ⟨g, 0, none⟩) d.size c)) (W.drewN q) from by
    refine ⟨by rw [keeps_all_size h]; simp, ?_, (Only.refl _ W).drewN q⟩
    rw [keeps_all_size h]
    exact hH)
  clear hH
  by_cases h2 : d.size < 2
  · have e1 : decide ((d.size : Int) < 2) = true := decide_eq_true (by omega)
    have Hr := hide (Hsame.out 0 (fun j hj => keeps_lt_one d j (by omega)))
    clear h2
    go_enter Tryz.func184, Tryz.ntmps184
    go_wp2_with fail
    go_ret
    exact Hr.out
  · have e1 : decide ((d.size : Int) < 2) = false := decide_eq_false (by omega)
    go_enter Tryz.func184, Tryz.ntmps184
    go_wp2_with fail
    clear e1
    go_loopw [3] (fun s3 wr => ∃ k q : Nat, k + 1 ≤ d.size ∧ s3 = .int .i64 ((k + 1 : Nat) : Int) ∧ wr = W.drewN q ∧ ∀ j, j < k + 1 → keeps d j = true) (fun s3 _ => d.size - (intOf s3).toNat)
    case atStart => exact ⟨0, 0, by omega, rfl, rfl, keeps_lt_one d⟩
    case round =>
      rename World => wr
      obtain ⟨k, q, hk, rfl, hwr, hall⟩ := hrel
      have Hall := hide hall
      have Hwr := hide hwr
      clear hall
      by_cases hlt : k + 1 < d.size
      · have Hk : HoldsK encM 3 wr g 0 d := by rw [hwr]; exact HH.out
        obtain ⟨⟨x0, x1, x2⟩, -⟩ := heldM Hk hlt
        obtain ⟨⟨y0, y1, y2⟩, -⟩ := heldM Hk (show k < d.size by omega)
        have HHw := hide Hk
        clear Hk hwr
        obtain ⟨x, hx⟩ : ∃ x, d[k + 1]! = x := ⟨_, rfl⟩
        obtain ⟨y, hy⟩ : ∃ y, d[k]! = y := ⟨_, rfl⟩
        have Hx := hide hx
        have Hy := hide hy
        rw [hx] at x0 x1 x2
        rw [hy] at y0 y1 y2
        have heq := fun w => eqM.1 x y w
        have hgd := fun op a b w => eqM.2 op a b x y w
        simp only [encM] at heq hgd
        obtain ⟨u, hu⟩ : ∃ u, decide (x = y) = u := ⟨_, rfl⟩
        rw [hu] at heq
        have Hu := hide hu
        clear hx hy hu
        go_upto_region 6 with (fail)
        go_quiet (fail)
        clear heq hgd x0 x1 x2 y0 y1 y2
        cases u
        · have hxy : ¬ x = y := of_decide_eq_false Hu.out
          have Hn := hide (show ∀ j, j < k + 1 + 1 → keeps d j = true from fun j hj => by
            by_cases e : j = k + 1
            · subst e; exact keeps_pos (by rw [Hx.out, show k + 1 - 1 = k by omega, Hy.out]; exact hxy)
            · exact Hall.out j (by omega))
          clear hxy
          go_wp2_with fail
          go_roundw
          case rel => exact ⟨k + 1, _, by omega, by go_num, (by rw [Hwr.out, World.drewN_drewN]), Hn.out⟩
          case measure => simp [intOf]; omega
        · have hxy : x = y := of_decide_eq_true Hu.out
          have Hst := hide (CompInv.start Hall.out (keeps_neg (d := d) (show 0 < k + 1 by omega) (by rw [Hx.out, show k + 1 - 1 = k by omega, Hy.out]; exact hxy)))
          clear hxy
          have hcap : (k + 1 : Nat) ≤ c := by omega
          have HO := hide (show Only (fun k => k = g) W wr by rw [Hwr.out]; exact (Only.refl _ W).drewN q)
          have HHb := hide (show ∀ n, HoldsK encM 3 (wr.drewN n) g 0 d from fun n => HHw.out)
          have HOb := hide (show ∀ n, Only (fun k => k = g) W (wr.drewN n) from fun n => HO.out.drewN n)
          obtain ⟨wb, hwb⟩ : ∃ wb, wr.drewN nq = wb := ⟨_, rfl⟩
          have HHb2 := hide (show HoldsK encM 3 wb g 0 d by rw [← hwb]; exact HHb.out _)
          have HOb2 := hide (show Only (fun k => k = g) W wb by rw [← hwb]; exact HOb.out _)
          rw [hwb]
          have Hcap := hide hcap
          clear hwb HHb HOb HHw HO hcap
          go_wp2_with fail
          go_loopw [3, 5] (fun s3 s5 wi => ∃ (kk k2 n2 : Nat) (dk : Array Mv), s3 = .int .i64 (kk : Int) ∧ s5 = .int .i64 ((k2 + 1 : Nat) : Int) ∧ k + 1 + (k2 + 1) ≤ d.size ∧ wi = putRowK encM 3 (Sort.ahead wb n2) g 0 dk ∧ CompInv d (k + 1 + (k2 + 1)) kk dk) (fun _ s5 _ => d.size - (intOf s5).toNat)
          case atStart => exact ⟨k + 1, 0, 0, d, rfl, rfl, by omega, (putRowK_self encM 3 (Sort.ahead wb 0) g 0 d HHb2.out).symm, Hst.out⟩
          case round =>
            rename World => wi
            obtain ⟨kk, k2, n2, dk, rfl, rfl, hle, hwi, hI⟩ := hrel
            have hkk := hI.lt
            have hds := hI.size
            have Hwi := hide hwi
            have HI := hide hI
            have hHk : HoldsK encM 3 wi g 0 dk := by rw [hwi]; exact holdsK_putRowK encM 3 _ g 0 d dk (holdsK_ahead encM 3 wb n2 g 0 d HHb2.out) hds
            have HHi := hide hHk
            have HOi := hide (show Only (fun k => k = g) W wi by rw [hwi]; exact HOb2.out.trans (only_putRow wb n2 g dk))
            clear hwi hI hds
            by_cases hlt2 : k + 1 + (k2 + 1) < d.size
            · obtain ⟨⟨x0, x1, x2⟩, -⟩ := heldM hHk (i := k + 1 + (k2 + 1)) (by have := HI.out.size; omega)
              obtain ⟨⟨y0, y1, y2⟩, -⟩ := heldM hHk (i := k + 1 + k2) (by have := HI.out.size; omega)
              obtain ⟨⟨z0, z1, z2⟩, f0, f1, f2⟩ := heldM hHk (i := kk) (by have := HI.out.size; omega)
              rw [HI.out.high _ (by omega), show (k + 1 + (k2 + 1)) * 3 = (k + 1) * 3 + (k2 + 1) * 3 by omega] at x0 x1 x2
              rw [HI.out.high _ (by omega), show (k + 1 + k2) * 3 = (k + 1) * 3 + k2 * 3 by omega] at y0 y1 y2
              obtain ⟨x, hx⟩ : ∃ x, d[k + 1 + (k2 + 1)]! = x := ⟨_, rfl⟩
              obtain ⟨y, hy⟩ : ∃ y, d[k + 1 + k2]! = y := ⟨_, rfl⟩
              obtain ⟨z, hz⟩ : ∃ z, dk[kk]! = z := ⟨_, rfl⟩
              have Hx := hide hx
              have Hy := hide hy
              rw [hx] at x0 x1 x2
              rw [hy] at y0 y1 y2
              rw [hz] at z0 z1 z2
              have hgw : g < wi.heap.size := Nat.lt_of_lt_of_le hg HOi.out.size
              have heq := fun w => neqM x y w
              have hgd := fun op a b w => eqM.2 op a b x y w
              simp only [encM] at heq hgd
              obtain ⟨u, hu⟩ : ∃ u, decide (x = y) = u := ⟨_, rfl⟩
              rw [hu] at heq
              have Hu := hide hu
              clear hx hy hz hu hHk HHi HOi
              go_upto_region 11 with (fail)
              go_quiet (fail)
              clear heq hgd y0 y1 y2
              cases u
              · have hxy : ¬ x = y := of_decide_eq_false Hu.out
                have Hk := hide (HI.out.keep hlt2 (keeps_pos (by rw [Hx.out, show k + 1 + (k2 + 1) - 1 = k + 1 + k2 by omega, Hy.out]; exact hxy)))
                clear hxy
                have Hput := hide (fun q => put_world (w := wb) (wr := wi.drewN q) (n := n2 + q) (g := g) (dk := dk) (i := kk) (by have := HI.out.size; omega) (by rw [Hwi.out, putRowK_drewN]) x)
                rw [Hx.out] at Hk
                go_wp2_with fail
                go_roundw
                case rel => exact ⟨kk + 1, k2 + 1, _, _, by go_num, by go_num, by omega, Hput.out _, Hk.out⟩
                case measure => simp [intOf]; omega
              · have hxy : x = y := of_decide_eq_true Hu.out
                have Hk := hide (HI.out.skip (keeps_neg (by omega) (by rw [Hx.out, show k + 1 + (k2 + 1) - 1 = k + 1 + k2 by omega, Hy.out]; exact hxy)))
                clear hxy
                go_wp2_with fail
                go_roundw
                case rel => exact ⟨kk, k2 + 1, _, dk, rfl, by go_num, by omega, (by rw [Hwi.out, putRowK_drewN]), Hk.out⟩
                case measure => simp [intOf]; omega
            · have hend : k + 1 + (k2 + 1) = d.size := by omega
              have hIe := HI.out
              rw [hend] at hIe
              have hkd : kk < d.size := by omega
              have hsz2 : dk.size = d.size := hIe.size
              obtain ⟨vs, hcl⟩ : ∃ vs : List Value, ∀ ty, (Builtin.clear_ #[111] ty #[.slice (some ⟨g, kk * 3, none⟩) (d.size - kk) (c - kk)]).run Tryz.prog wi = .ok (.tuple #[]) (wi.setCells g (kk * 3) vs) := by
                obtain ⟨vs, h⟩ := run_clearM wi 111 g (kk * 3) (d.size - kk) (c - kk) (by omega) (fun j hj => by
                  have := (hHk (kk * 3 + j) (by rw [size_flatK]; omega)).1
                  rw [Nat.zero_add] at this
                  rw [this]; rfl) (fun j hj => by
                  have := (hHk (kk * 3 + j) (by rw [size_flatK]; omega)).2
                  rw [Nat.zero_add] at this
                  exact this)
                exact ⟨vs, fun ty => h⟩
              have Hfin := hide (show CompOut W g c d (.returned (.slice (some ⟨g, 0, none⟩) kk c)) (wi.setCells g (kk * 3) vs) from by
                have hlen := hIe.len
                refine ⟨by rw [hlen], ?_, HOi.out.trans (mv_only_setCells wi g vs (kk * 3))⟩
                intro j hj
                have hj' : j < kk * 3 := by rw [size_flatK] at hj; simpa [hlen] using hj
                obtain ⟨c1, c2⟩ := hHk j (by rw [size_flatK]; omega)
                rw [World.cell?_setCells_out g vs (kk * 3) wi _ (fun _ _ => .inl (by simpa using hj')), frozen_setCells, c1]
                refine ⟨?_, c2⟩
                rw [get_flatK encM 3 dk j (by omega), get_flatK encM 3 _ j (by simpa [hlen] using hj')]
                have hlow := hIe.low (j / 3) (by omega)
                congr 4
                rw [getElem!_pos (compactUpTo d d.size).toArray (j / 3) (by rw [List.size_toArray, hlen]; omega)]
                rw [List.getElem?_eq_getElem (by omega)] at hlow
                injection hlow with hlow
                simpa using hlow.symm)
              clear hIe hHk HHi HOi hend
              go_wp2_with fail
              go_ret
              exact Hfin.out
      · have Hr := hide (Hsame.out q (fun j hj => Hall.out j (by omega)))
        subst hwr
        go_wp2_with fail
        go_ret
        exact Hr.out
end Go.Proofs.YtcdfeaodfmfdnaaGreatDoor
namespace Go.Proofs.YtcdfeaodfmfdnaaGreatDoor
open Go.Lib Go.Sort

def leM (x y : Mv) : Prop := ¬ ltM y x
theorem leM_lt {x y z : Mv} (h : leM x y) (k : ltM y z) : ltM x z := by unfold leM ltM at *; omega
theorem leM_ne {x y : Mv} (h : leM x y) (k : y ≠ x) : ltM x y := by
  unfold leM at h
  by_cases h2 : ltM x y
  · exact h2
  · exact absurd (ltM_total h h2) k
theorem comp_mem {d : Array Mv} : ∀ (m : Nat) (x : Mv), x ∈ compactUpTo d m ↔ ∃ j, j < m ∧ d[j]! = x
  | 0, x => by simp [compactUpTo]
  | m + 1, x => by
    have ih := comp_mem (d := d) m x
    rw [compactUpTo_succ, List.mem_append, ih]
    constructor
    · rintro (⟨j, hj, h⟩ | h)
      · exact ⟨j, by omega, h⟩
      · split at h
        · simp only [List.mem_cons, List.not_mem_nil, or_false] at h
          exact ⟨m, by omega, h.symm⟩
        · simp at h
    · rintro ⟨j, hj, h⟩
      by_cases e : j = m
      · subst e
        by_cases hk : keeps d j = true
        · right; rw [if_pos hk]; simp [h]
        · left
          have : ¬ (j = 0 ∨ d[j]! ≠ d[j - 1]!) := by simpa [keeps] using hk
          exact ⟨j - 1, by omega, by
            by_cases q : d[j]! = d[j - 1]!
            · rw [← q]; exact h
            · exact absurd (.inr q) this⟩
      · exact .inl ⟨j, by omega, h⟩
theorem comp_sorted {d : Array Mv} (hs : ∀ i j, i < j → j < d.size → leM d[i]! d[j]!) : ∀ m, m ≤ d.size → (compactUpTo d m).Pairwise ltM
  | 0, _ => by simp [compactUpTo]
  | m + 1, hm => by
    rw [compactUpTo_succ, List.pairwise_append]
    refine ⟨comp_sorted hs m (by omega), by split <;> simp, fun x hx y hy => ?_⟩
    split at hy
    · rename_i hk
      simp only [List.mem_cons, List.not_mem_nil, or_false] at hy
      subst hy
      obtain ⟨j, hj, rfl⟩ := (comp_mem m x).1 hx
      have hk' : m = 0 ∨ d[m]! ≠ d[m - 1]! := by simpa [keeps] using hk
      rcases hk' with h0 | hne
      · omega
      · have h1 := leM_ne (hs (m - 1) m (by omega) (by omega)) hne
        by_cases e : j = m - 1
        · subst e; exact h1
        · exact leM_lt (hs j (m - 1) (by omega) (by omega)) h1
    · simp at hy
/-- what slices.SortFunc leaves -/
def sortM (l : List Mv) : List Mv := l.mergeSort fun x y => !(ltOf cfM) y x
theorem sortM_len (l : List Mv) : (sortM l).length = l.length := by simp [sortM]
theorem sortM_mem {l : List Mv} {x : Mv} : x ∈ sortM l ↔ x ∈ l := by simp [sortM]
theorem sortM_sorted (l : List Mv) : ∀ i j, i < j → j < (sortM l).toArray.size → leM (sortM l).toArray[i]! (sortM l).toArray[j]! := by
  have h : (sortM l).Pairwise (fun a b => (!(ltOf cfM) b a) = true) := List.pairwise_mergeSort (fun a b c h1 h2 => by
    simp only [Bool.not_eq_true', cfM_false] at *
    unfold ltM at *; omega) (fun a b => by
    simp only [Bool.or_eq_true, Bool.not_eq_true', cfM_false]
    unfold ltM; omega) l
  intro i j hij hj
  rw [List.pairwise_iff_getElem] at h
  have hj' : j < (sortM l).length := by simpa using hj
  have := h i j (by omega) hj' hij
  simp only [Bool.not_eq_true', cfM_false] at this
  rw [getElem!_pos _ i (by simpa using Nat.lt_trans hij hj'), getElem!_pos _ j (by simpa using hj')]
  exact this
/-- sorted, without doubles -/
def cleanM (l : List Mv) : List Mv := compactUpTo (sortM l).toArray (sortM l).toArray.size
theorem cleanM_every {r : RulesD} {p : Pos} (hp : PosOk p) (hps : ∀ x ∈ r.pieces, ∀ w ∈ x.ways, WayOk w) : cleanM (allL r p) = everyL r p := by
  refine moves_sorted hp hps (comp_sorted (sortM_sorted _) _ (Nat.le_refl _)) fun x => ?_
  unfold cleanM
  rw [comp_mem, ← sortM_mem]
  constructor
  · rintro ⟨j, hj, rfl⟩
    rw [getElem!_pos _ j hj]
    simp
  · intro h
    obtain ⟨j, hj, rfl⟩ := List.getElem_of_mem h
    exact ⟨j, by simpa using hj, by rw [getElem!_pos _ j (by simpa using hj)]; simp⟩
theorem toM_len (p : Pos) (w : WayD) (a c : Nat) : (toM p w a c).length ≤ 64 := by
  have h := raysM_len p w a c (dirsL w p.turn)
  have h2 := dirsL_len w p.turn
  rw [raysM_eq] at h
  omega
theorem mv_flat_len {α β : Type} (f : α → List β) (n : Nat) (hf : ∀ x, (f x).length ≤ n) : ∀ l : List α, (l.flatMap f).length ≤ n * l.length
  | [] => by simp
  | x :: l => by
    have := mv_flat_len f n hf l
    rw [List.flatMap_cons, List.length_append, List.length_cons, Nat.mul_succ]
    have := hf x
    omega
/-- by the first k ways of a piece -/
def waysM (p : Pos) (x : PieceD) (a k : Nat) : List Mv := (x.ways.take k).flatMap fun w => toM p w a x.letter
theorem waysM_len (p : Pos) (x : PieceD) (a k : Nat) (h : x.ways.length ≤ 8) : (waysM p x a k).length ≤ 512 := by
  have := mv_flat_len (fun w => toM p w a x.letter) 64 (fun w => toM_len p w a x.letter) (x.ways.take k)
  unfold waysM
  rw [List.length_take] at this
  omega
theorem waysM_succ (p : Pos) (x : PieceD) (a k : Nat) (h : k < x.ways.length) : waysM p x a (k + 1) = waysM p x a k ++ toM p x.ways[k] a x.letter := by
  unfold waysM
  rw [List.take_succ_eq_append_getElem h, List.flatMap_append]
  simp
theorem allBoard_some {ps : List PieceD} {p : Pos} {a : Nat} {x : PieceD} (hm : mineB (cellN p a) p.turn = true) (hx : pieceAt ps (cellN p a) = some x) : allBoard ps p a = waysM p x a x.ways.length := by
  unfold allBoard waysM
  rw [if_pos hm, hx, List.take_length]
  rfl
theorem allBoard_none {ps : List PieceD} {p : Pos} {a : Nat} (hm : mineB (cellN p a) p.turn = false) : allBoard ps p a = [] := by
  unfold allBoard
  rw [if_neg (by rw [hm]; decide)]
theorem allBoard_len {ps : List PieceD} (hps : ∀ x ∈ ps, x.ways.length ≤ 8) (p : Pos) (a : Nat) : (allBoard ps p a).length ≤ 512 := by
  cases hm : mineB (cellN p a) p.turn with
  | false => rw [allBoard_none hm]; simp
  | true =>
    cases hx : pieceAt ps (cellN p a) with
    | none => unfold allBoard; rw [if_pos hm, hx]; simp
    | some x =>
      rw [allBoard_some hm hx]
      refine waysM_len p x a _ (hps x ?_)
      unfold pieceAt at hx
      rw [Option.bind_eq_some_iff] at hx
      obtain ⟨i, _, hi⟩ := hx
      exact List.mem_of_getElem? hi
def boardTo (ps : List PieceD) (p : Pos) (a : Nat) : List Mv := (List.range a).flatMap (allBoard ps p)
def dropTo (d : Bool) (p : Pos) (a : Nat) : List Mv := (List.range a).flatMap (allDrop d p)
theorem boardTo_len {ps : List PieceD} (hps : ∀ x ∈ ps, x.ways.length ≤ 8) (p : Pos) (a : Nat) : (boardTo ps p a).length ≤ 512 * a := by
  have := mv_flat_len (allBoard ps p) 512 (allBoard_len hps p) (List.range a)
  rw [List.length_range] at this
  exact this
theorem boardTo_succ (ps : List PieceD) (p : Pos) (a : Nat) : boardTo ps p (a + 1) = boardTo ps p a ++ allBoard ps p a := by
  unfold boardTo
  rw [List.range_succ, List.flatMap_append]
  simp
theorem dropTo_succ (d : Bool) (p : Pos) (a : Nat) : dropTo d p (a + 1) = dropTo d p a ++ allDrop d p a := by
  unfold dropTo
  rw [List.range_succ, List.flatMap_append]
  simp
/-- what is put of the first i letters of the hand -/
def dropI (d : Bool) (p : Pos) (a i : Nat) : List Mv := ((handOf p p.turn).take i).flatMap fun c => if d && cellN p a == 46 then [⟨-1, a, c.toNat⟩] else []
theorem dropI_succ (d : Bool) (p : Pos) (a i : Nat) (h : i < (handOf p p.turn).length) : dropI d p a (i + 1) = dropI d p a i ++ (if d && cellN p a == 46 then [⟨-1, (a : Int), (handOf p p.turn)[i].toNat⟩] else []) := by
  unfold dropI
  rw [List.take_succ_eq_append_getElem h, List.flatMap_append]
  simp
theorem dropI_all (d : Bool) (p : Pos) (a : Nat) : dropI d p a (handOf p p.turn).length = allDrop d p a := by unfold dropI allDrop; rw [List.take_length]
theorem dropI_len (d : Bool) (p : Pos) (a i : Nat) : (dropI d p a i).length ≤ i := by
  have := mv_flat_len (fun c : UInt8 => if d && cellN p a == 46 then [(⟨-1, (a : Int), c.toNat⟩ : Mv)] else []) 1 (fun c => by split <;> simp) ((handOf p p.turn).take i)
  unfold dropI
  rw [List.length_take] at this
  omega
theorem dropTo_len {d : Bool} {p : Pos} (hp : PosOk p) (a : Nat) : (dropTo d p a).length ≤ 8 * a := by
  have := mv_flat_len (allDrop d p) 8 (fun x => by
    have h1 := dropI_len d p x (handOf p p.turn).length
    have h2 := (hand_ok hp p.turn).1
    rw [dropI_all] at h1
    omega) (List.range a)
  rw [List.length_range] at this
  exact this
theorem allL_eq (r : RulesD) (p : Pos) : allL r p = boardTo r.pieces p p.cells.size ++ dropTo r.drops p p.cells.size := rfl
theorem mine_fits {r : RulesD} {p : Pos} (hf : FitsL r.pieces p.all) {a : Nat} (ha : a < p.cells.size) {pl : Int} (hm : mineB (cellN p a) pl = true) :
    ∃ k, ∃ h : k < r.pieces.length, pieceX r.pieces (cellN p a) = some k ∧ pieceAt r.pieces (cellN p a) = some r.pieces[k] := by
  have ha' : a < p.cells.data.toList.length := ha
  have h1 := hf a (by unfold Pos.all; rw [List.length_append, List.length_append]; omega)
  have e : p.all[a]'(by unfold Pos.all; rw [List.length_append, List.length_append]; omega) = p.cells.data.toList[a] := by
    unfold Pos.all
    rw [List.getElem_append_left (by rw [List.length_append]; omega), List.getElem_append_left ha']
  rw [e] at h1
  have e2 : cellN p a = p.cells.data.toList[a].toNat := by unfold cellN; rw [getD_get ha']
  rw [← e2] at h1
  rcases h1 with h1 | h1
  · rw [h1] at hm
    unfold mineB at hm
    split at hm <;> exact absurd hm (by decide)
  · obtain ⟨k, hk⟩ := Option.isSome_iff_exists.1 h1
    obtain ⟨hlt, _⟩ := firstX_get hk
    exact ⟨k, hlt, hk, by unfold pieceAt; rw [hk, Option.bind_some, List.getElem?_eq_getElem hlt]⟩
end Go.Proofs.YtcdfeaodfmfdnaaGreatDoor
namespace Go.Proofs.YtcdfeaodfmfdnaaGreatDoor
open Go.RowKit Go.Shelf Go.Lib Go.Sort

theorem cellsM_get : ∀ (l : List Mv) (i : Nat) (h : i < l.length), (cellsM l)[i * 3]? = some (.int .i64 l[i].f) ∧ (cellsM l)[i * 3 + 1]? = some (.int .i64 l[i].t) ∧ (cellsM l)[i * 3 + 2]? = some (.int .u8 (l[i].c : Int))
  | d :: l, 0, _ => by simp [cellsM]
  | d :: l, i + 1, h => by
    have ih := cellsM_get l i (by simpa using h)
    have e : cellsM (d :: l) = .int .i64 d.f :: .int .i64 d.t :: .int .u8 (d.c : Int) :: cellsM l := by simp [cellsM]
    rw [e, show (i + 1) * 3 = i * 3 + 1 + 1 + 1 by omega]
    simpa using ih
theorem flatM_get (l : List Mv) (j : Nat) (h : j < l.length * 3) : (cellsM l)[j]? = some ((flatK encM 3 l.toArray)[j]!) := by
  obtain ⟨q, c, hc, rfl⟩ : ∃ q c, c < 3 ∧ j = q * 3 + c := ⟨j / 3, j % 3, by omega, by omega⟩
  rw [get_flatK encM 3 _ _ (by simpa using h)]
  have hq : q < l.length := by omega
  obtain ⟨g0, g1, g2⟩ := cellsM_get l q hq
  have e1 : (q * 3 + c) / 3 = q := by omega
  have e2 : (q * 3 + c) % 3 = c := by omega
  have e : l.toArray[q]! = l[q] := by rw [getElem!_pos _ _ (by simpa using hq)]; simp
  rw [e1, e2, e]
  match c, hc with
  | 0, _ => rw [Nat.add_zero, g0]; rfl
  | 1, _ => rw [g1]; rfl
  | 2, _ => rw [g2]; rfl
theorem holds_cells {w : World} {g : Nat} {l : List Mv} (h : HoldsK encM 3 w g 0 l.toArray) (hg : g < w.heap.size) : Cells w w.heap.size (some ⟨g, 0, none⟩) (cellsM l) := fun _ =>
  ⟨g, 0, rfl, hg, fun k hk => by
    rw [cellsM_len] at hk
    have h1 := (h k (by rw [size_flatK]; simpa using hk)).1
    have h2 := flatM_get l k hk
    rw [List.getElem?_eq_getElem (by rw [cellsM_len]; exact hk)] at h2
    injection h2 with h2
    rw [h1, h2]
    rfl⟩
theorem own_holds {w : World} {base g n cap : Nat} {l : List Mv} (h : w.ownsRow base 101 3 (.slice (some ⟨g, 0, none⟩) n cap) n (cellsM l)) : HoldsK encM 3 w g 0 l.toArray ∧ n ≤ cap ∧ g < w.heap.size := by
  obtain ⟨hl, h2⟩ := h
  rcases h2 with ⟨h3, _⟩ | ⟨g', cap', cur, h3, hbg, hg, hnc, hcm, hcs, htake⟩
  · cases h3
  · injection h3 with h3 _ h4
    injection h3 with h3
    injection h3 with h3
    subst h3 h4
    have hb : Blk w g 101 cur := hg
    refine ⟨fun j hj => ?_, hnc, hb.lt⟩
    have hj' : j < l.length * 3 := by rw [size_flatK] at hj; simpa using hj
    rw [Nat.zero_add]
    refine ⟨?_, hb.free j⟩
    rw [hb.cell]
    have h5 := flatM_get l j hj'
    rw [← htake] at h5
    rw [List.getElem?_take] at h5
    split at h5
    · simpa using h5
    · cases h5
theorem own_form {w : World} {base n : Nat} {v : Value} {l : List Mv} (h : w.ownsRow base 101 3 v n (cellsM l)) : (v = .slice none 0 0 ∧ n = 0) ∨ ∃ g cap, v = .slice (some ⟨g, 0, none⟩) n cap ∧ base ≤ g := by
  have hl := h.1
  rcases h.2 with ⟨h3, h4⟩ | ⟨g', cap', cur, h3, hbg, _⟩
  · rw [h4] at hl
    left
    refine ⟨h3, ?_⟩
    simp at hl
    omega
  · exact .inr ⟨g', cap', h3, hbg⟩
def MovesOut (W : World) (l : List Mv) (e : Ending) (w' : World) : Prop := ∃ A c, e = .returned (.slice A l.length c) ∧ l.length ≤ c ∧ Cells w' w'.heap.size A (cellsM l) ∧ (∀ ad, A = some ad → W.heap.size ≤ ad.block) ∧ Later W w'
set_option maxHeartbeats 400000 in
theorem compact_zero (A : Option Addr) (c : Nat) (w : World) : Calls Tryz.prog 184 #[.slice A 0 c] w fun e w' => e = .returned (.slice A 0 c) ∧ w' = w := by
  go_enter Tryz.func184, Tryz.ntmps184
  go_wp2_with fail
  go_ret
  exact ⟨rfl, rfl⟩
theorem sort_any (g c : Nat) (l : List Mv) (w : World) (hH : HoldsK encM 3 w g 0 l.toArray) (hg : g < w.heap.size) (hl : l.length < 4611686018427387904) :
    Calls Tryz.prog 179 #[.slice (some ⟨g, 0, none⟩) l.length c, .func (.func 180) #[] #[]] w fun e w' => e = .returned (.tuple #[]) ∧ HoldsK encM 3 w' g 0 (sortM l).toArray ∧ Only (fun k => k = g) w w' := by
  have eg : ∀ args w, (callFunc 180 args).run Tryz.prog w = .ok (.enter 180 args) w := enters_of Tryz.func180 (by kernel_rfl) rfl
  have h := AnyQ.slices_SortFunc_total Tryz.sortM 3 Tryz.isAgg101 Tryz.sizeOf101 encM (fun _ => rfl) (fun x v hv => encM_one x v hv) cfM swoM 180 #[] g 0 c l.toArray w eg (fun _ _ _ _ x y => cmpM_any x y _) hH hg (by simpa using hl) totM
  refine h.mono ?_
  rintro e w' ⟨rfl, nn, os, rfl⟩
  exact ⟨rfl, holdsK_sortWorldK_c encM 3 w g 0 _ _ nn os hH hg (by simp), only_sorted _ os⟩
theorem sort_zero (A : Option Addr) (c : Nat) (w : World) : Calls Tryz.prog 179 #[.slice A 0 c, .func (.func 180) #[] #[]] w fun e w' => e = .returned (.tuple #[]) ∧ w' = w :=
  AnyF.slices_SortFunc_none Tryz.sortM A c _ w
theorem cleanM_nil : cleanM [] = [] := by simp [cleanM, sortM, compactUpTo]
theorem cleanM_len (l : List Mv) : (cleanM l).length ≤ l.length := by
  unfold cleanM compactUpTo
  rw [List.length_map]
  refine Nat.le_trans (List.length_filter_le _ _) ?_
  simp [sortM_len]
def HeldM (w : World) (g : Nat) (l : List Mv) : Prop := HoldsK encM 3 w g 0 l.toArray
def CleanOut (W : World) (g c : Nat) (l : List Mv) (e : Ending) (w' : World) : Prop := e = .returned (.slice (some ⟨g, 0, none⟩) (cleanM l).length c) ∧ Cells w' w'.heap.size (some ⟨g, 0, none⟩) (cellsM (cleanM l)) ∧ Only (fun k => k = g) W w'
theorem clean_any (g c : Nat) (l : List Mv) (w : World) (h : HeldM w g (sortM l)) (hg : g < w.heap.size) (hc : l.length ≤ c) (hl : l.length ≤ 10000000) :
    Calls Tryz.prog 184 #[.slice (some ⟨g, 0, none⟩) l.length c] w (CleanOut w g c l) := by
  have hs : (sortM l).toArray.size = l.length := by simp [sortM_len]
  have h2 := compact_any g c (sortM l).toArray w h hg (by rw [hs]; exact hc) (by rw [hs]; exact hl)
  rw [hs] at h2
  refine h2.mono ?_
  rintro e w' ⟨rfl, hh, hO⟩
  refine ⟨rfl, ?_, hO⟩
  exact holds_cells hh (Nat.lt_of_lt_of_le hg hO.size)
end Go.Proofs.YtcdfeaodfmfdnaaGreatDoor
namespace Go.Proofs.YtcdfeaodfmfdnaaGreatDoor

/-- what is put on cell t out of the first i letters -/
def eDropI (p : Pos) (t i : Nat) : List Mv := (List.range i).flatMap fun i => if cellN p t == 46 && freshB (handOf p p.turn) i then [⟨-1, t, ((handOf p p.turn).getD i 0).toNat⟩] else []
noncomputable def eDropTo (p : Pos) (t : Nat) : List Mv := (List.range t).flatMap (everyDrop p)
theorem eDropI_all (p : Pos) (t : Nat) : eDropI p t (handOf p p.turn).length = everyDrop p t := rfl
theorem eDropI_succ (p : Pos) (t i : Nat) : eDropI p t (i + 1) = eDropI p t i ++ (if cellN p t == 46 && freshB (handOf p p.turn) i then [⟨-1, (t : Int), ((handOf p p.turn).getD i 0).toNat⟩] else []) := by
  unfold eDropI
  rw [List.range_succ, List.flatMap_append]
  simp
theorem eDropTo_succ (p : Pos) (t : Nat) : eDropTo p (t + 1) = eDropTo p t ++ everyDrop p t := by
  unfold eDropTo
  rw [List.range_succ, List.flatMap_append]
  simp
theorem eDropI_len (p : Pos) (t i : Nat) : (eDropI p t i).length ≤ i := by
  have := mv_flat_len (fun i => if cellN p t == 46 && freshB (handOf p p.turn) i then [(⟨-1, (t : Int), ((handOf p p.turn).getD i 0).toNat⟩ : Mv)] else []) 1 (fun c => by split <;> simp) (List.range i)
  unfold eDropI
  rw [List.length_range] at this
  omega
theorem eDropTo_len {p : Pos} (hp : PosOk p) (t : Nat) : (eDropTo p t).length ≤ 8 * t := by
  have := mv_flat_len (everyDrop p) 8 (fun x => by
    have h1 := eDropI_len p x (handOf p p.turn).length
    have h2 := (hand_ok hp p.turn).1
    rw [eDropI_all] at h1
    omega) (List.range t)
  rw [List.length_range] at this
  exact this
/-- the cells ahead of t to which a piece goes from a -/
noncomputable def eBoardI (p : Pos) (x : PieceD) (a t : Nat) : List Mv := (List.range t).flatMap fun t => if canB p x.ways a t then [⟨a, t, x.letter⟩] else []
noncomputable def eBoardTo (ps : List PieceD) (p : Pos) (a : Nat) : List Mv := (List.range a).flatMap (everyBoard ps p)
theorem eBoardI_succ (p : Pos) (x : PieceD) (a t : Nat) : eBoardI p x a (t + 1) = eBoardI p x a t ++ (if canB p x.ways a t then [⟨(a : Int), (t : Int), x.letter⟩] else []) := by
  unfold eBoardI
  rw [List.range_succ, List.flatMap_append]
  simp
theorem eBoardTo_succ (ps : List PieceD) (p : Pos) (a : Nat) : eBoardTo ps p (a + 1) = eBoardTo ps p a ++ everyBoard ps p a := by
  unfold eBoardTo
  rw [List.range_succ, List.flatMap_append]
  simp
theorem eBoardI_len (p : Pos) (x : PieceD) (a t : Nat) : (eBoardI p x a t).length ≤ t := by
  have := mv_flat_len (fun t => if canB p x.ways a t then [(⟨(a : Int), (t : Int), x.letter⟩ : Mv)] else []) 1 (fun c => by split <;> simp) (List.range t)
  unfold eBoardI
  rw [List.length_range] at this
  omega
theorem everyBoard_some {ps : List PieceD} {p : Pos} {a : Nat} {x : PieceD} (hm : ownN (cellN p a) = p.turn) (hx : pieceAt ps (cellN p a) = some x) : everyBoard ps p a = eBoardI p x a p.cells.size := by
  unfold everyBoard eBoardI
  rw [if_pos hm, hx]
theorem everyBoard_none {ps : List PieceD} {p : Pos} {a : Nat} (hm : ownN (cellN p a) ≠ p.turn) : everyBoard ps p a = [] := by
  unfold everyBoard
  rw [if_neg hm]
theorem everyBoard_len (ps : List PieceD) (p : Pos) (a : Nat) : (everyBoard ps p a).length ≤ p.cells.size := by
  by_cases hm : ownN (cellN p a) = p.turn
  · cases hx : pieceAt ps (cellN p a) with
    | none => unfold everyBoard; rw [if_pos hm, hx]; simp
    | some x => rw [everyBoard_some hm hx]; exact eBoardI_len p x a _
  · rw [everyBoard_none hm]; simp
theorem eBoardTo_len (ps : List PieceD) (p : Pos) (a : Nat) : (eBoardTo ps p a).length ≤ p.cells.size * a := by
  have := mv_flat_len (everyBoard ps p) p.cells.size (everyBoard_len ps p) (List.range a)
  rw [List.length_range] at this
  exact this
/-- both parts -/
noncomputable def eDrops (r : RulesD) (p : Pos) : List Mv := if r.drops then eDropTo p p.cells.size else []
theorem everyL_eq (r : RulesD) (p : Pos) : everyL r p = eDrops r p ++ eBoardTo r.pieces p p.cells.size := rfl
theorem canB_succ (p : Pos) (ws : List WayD) (a t k : Nat) (h : k < ws.length) : canB p (ws.take (k + 1)) a t = (canB p (ws.take k) a t || (fitsR p.turn ws[k].take (cellN p t) && (a != t) && goesB p ws[k] a t)) := by
  unfold canB
  rw [List.take_succ_eq_append_getElem h, List.any_append]
  simp
theorem canB_zero (p : Pos) (ws : List WayD) (a t : Nat) : canB p (ws.take 0) a t = false := by simp [canB]
theorem own_fits {r : RulesD} {p : Pos} (hp : PosOk p) (hf : FitsL r.pieces p.all) {a : Nat} (ha : a < p.cells.size) (hm : ownN (cellN p a) = p.turn) :
    ∃ k, ∃ h : k < r.pieces.length, pieceX r.pieces (cellN p a) = some k ∧ pieceAt r.pieces (cellN p a) = some r.pieces[k] :=
  mine_fits hf ha ((own_mine (by have := hp.t0; have := hp.t1; omega)).1 hm)
end Go.Proofs.YtcdfeaodfmfdnaaGreatDoor
