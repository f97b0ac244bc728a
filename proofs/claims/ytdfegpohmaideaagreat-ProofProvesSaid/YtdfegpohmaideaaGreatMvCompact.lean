/- slices.Compact of moves -/
import Derived.Test.YtdfegpohmaideaaGreatMvCmp
import Derived.Shelf.SlicesE.Kit
import Derived.Lib.SlicesCompact
import Derived.Lib.SliceRun
import Derived.Laws.StructEq
namespace Go.Proofs.YtdfegpohmaideaaGreat
open Go.RowKit Go.Shelf Go.Lib Go.Sort

instance : DecidableEq Mv := fun r s =>
  if h : r.f = s.f ∧ r.t = s.t ∧ r.c = s.c then isTrue (Mv.ext_ h.1 h.2.1 h.2.2) else isFalse (fun e => h (by rw [e]; exact ⟨rfl, rfl, rfl⟩))
instance : Inhabited Mv := ⟨⟨0, 0, 0⟩⟩
theorem eqM : EqlAt Tryz.prog 29 (fun x => .agg (encM x).toArray) (fun x y => decide (x = y)) := by
  refine ⟨fun x y w => ?_, GuardAt.agg _ (by kernel_rfl)⟩
  have u3 := Tryz.underlying3
  have a3 := Tryz.isAgg3
  have z3 := Tryz.sizeOf3
  have u5 := Tryz.underlying5
  have a5 := Tryz.isAgg5
  have z5 := Tryz.sizeOf5
  have hS : Tryz.prog.underlying 29 = some (.struct (Tryz.prog.fieldsOf 29)) := by kernel_rfl
  have hp : Tryz.prog.stoodInHeld 29 = false := by kernel_rfl
  simp only [encM]
  rw [run_eql_struct, show (10000 : Nat) = 9999 + 1 from rfl, run_equalIn_agg w 9999 29 _ _ hS hp]
  simp only [Program.fieldsOf, Tryz.underlying29]
  go_simp
  obtain ⟨a, b, c⟩ := x
  obtain ⟨d, e, f⟩ := y
  simp only
  by_cases h1 : a = d <;> by_cases h2 : b = e <;> by_cases h3 : c = f <;> simp [h1, h2, h3]
  all_goals omega
theorem neqM (x y : Mv) (w : World) : (binOp .neq 29 (.agg (encM x).toArray) (.agg (encM y).toArray)).run Tryz.prog w = .ok (.bool (!decide (x = y))) w := by
  have h := eqM.1 x y w
  simp only [encM] at h ⊢
  rw [run_eql_struct] at h
  rw [run_neq_struct]
  generalize (Op.equalIn 10000 29 (.agg [Value.int .i64 x.f, .int .i64 x.t, .int .u8 x.c].toArray) (.agg [Value.int .i64 y.f, .int .i64 y.t, .int .u8 y.c].toArray)).run Tryz.prog w = r at h ⊢
  cases r with
  | ok b w2 =>
    simp only [Result.andThen_ok] at h ⊢
    injection h with h1 h2
    injection h1 with h1
    rw [h1, h2]
  | _ => simp [Result.andThen] at h
theorem encM_len (x : Mv) : (encM x).length = 3 := rfl
theorem encM_one (x : Mv) : ∀ v ∈ encM x, v.oneCell' = true := fun v hv => by
  simp [encM] at hv
  rcases hv with rfl | rfl | rfl <;> rfl
theorem setMany_flat (d : Array Mv) (i : Nat) (u : Mv) (hi : i < d.size) : setMany (flatK encM 3 d) (i * 3) (encM u) = flatK encM 3 (d.setIfInBounds i u) := by
  apply ext_get!
  · simp
  intro t ht
  have ht' : t < d.size * 3 := by simpa using ht
  rw [get_setMany _ _ _ _ (by simpa using ht), get_flatK encM 3 (d.setIfInBounds i u) t (by simpa using ht')]
  have hlt : t / 3 < d.size := by omega
  by_cases h : t / 3 = i
  · rw [if_pos (by rw [encM_len]; omega)]
    have e : (d.setIfInBounds i u)[t / 3]! = u := by
      rw [h, getElem!_pos _ i (by simpa using hi), Array.getElem_setIfInBounds, if_pos rfl]
      exact hi
    rw [e, show t - i * 3 = t % 3 by omega]
  · rw [if_neg (by rw [encM_len]; omega), get_flatK encM 3 _ t ht']
    have e : (d.setIfInBounds i u)[t / 3]! = d[t / 3]! := by
      rw [getElem!_pos _ (t / 3) (by simpa using hlt), getElem!_pos d (t / 3) hlt, Array.getElem_setIfInBounds, if_neg (fun h2 => h h2.symm)]
    rw [e]
theorem put_world {w wr : World} {n g : Nat} {dk : Array Mv} {i : Nat} (hi : i < dk.size) (hwr : wr = putRowK encM 3 (Sort.ahead w n) g 0 dk) (u : Mv) : wr.setCells g (i * 3) (encM u) = putRowK encM 3 (Sort.ahead w n) g 0 (dk.setIfInBounds i u) := by
  subst hwr
  have h := setCells_putRow (Sort.ahead w n) g 0 (encM u) (i * 3) (flatK encM 3 dk) (by rw [encM_len, size_flatK]; omega)
  rw [Nat.zero_add] at h
  unfold putRowK
  rw [h, setMany_flat dk i u hi]
/-- a move of a row that is held -/
theorem heldM {w : World} {g : Nat} {d : Array Mv} (h : HoldsK encM 3 w g 0 d) {i : Nat} (hi : i < d.size) :
    (w.cell? ⟨g, i * 3, none⟩ = some (.int .i64 d[i]!.f) ∧ w.cell? ⟨g, i * 3 + 1, none⟩ = some (.int .i64 d[i]!.t) ∧ w.cell? ⟨g, i * 3 + 2, none⟩ = some (.int .u8 d[i]!.c)) ∧
    w.frozen? ⟨g, i * 3, none⟩ = false ∧ w.frozen? ⟨g, i * 3 + 1, none⟩ = false ∧ w.frozen? ⟨g, i * 3 + 2, none⟩ = false := by
  have hs : (flatK encM 3 d).size = d.size * 3 := size_flatK encM 3 d
  have key : ∀ c, c < 3 → w.cell? ⟨g, i * 3 + c, none⟩ = some ((encM d[i]!)[c]!) ∧ w.frozen? ⟨g, i * 3 + c, none⟩ = false := by
    intro c hc
    have := h (i * 3 + c) (by rw [hs]; omega)
    rw [Nat.zero_add, get_flatK encM 3 d _ (by omega), show (i * 3 + c) / 3 = i by omega, show (i * 3 + c) % 3 = c by omega] at this
    exact this
  exact ⟨⟨(key 0 (by omega)).1, (key 1 (by omega)).1, (key 2 (by omega)).1⟩, (key 0 (by omega)).2, (key 1 (by omega)).2, (key 2 (by omega)).2⟩
theorem grownBy_sortedM {w : World} {g n : Nat} {os : Array Obj} (d : Array Mv) : w.grownBy (grow (putRowK encM 3 (Sort.ahead w n) g 0 d) os) (some g) := by
  refine ⟨rfl, rfl, rfl, by simp [putRowK], fun k hk hne => ?_⟩
  rw [heap_grow_old _ _ (by simpa [putRowK] using hk)]
  have : g ≠ k := fun e => hne (by rw [e])
  simp [putRowK, putRow, mapBlock, Sort.ahead, Array.getElem?_modify, this]
theorem only_sorted {w : World} {n g : Nat} (d : Array Mv) (os : Array Obj) : Only (fun k => k = g) w (sortWorldK encM 3 w g 0 n d os) := by
  have h : w.grownBy (sortWorldK encM 3 w g 0 n d os) (some g) := grownBy_sortedM d
  exact (Only.refl _ w).grown h (fun k hk => .inl (by injection hk with hk; exact hk.symm))
theorem only_putRow (w : World) (n g : Nat) (d : Array Mv) : Only (fun k => k = g) w (putRowK encM 3 (Sort.ahead w n) g 0 d) := by
  have h := only_sorted (w := w) (n := n) (g := g) d #[]
  unfold sortWorldK at h
  have e : ∀ w : World, grow w #[] = w := fun w => by simp [grow]
  rwa [e] at h
theorem run_clearM (w : World) (ty : TypeId) (b o n c : Nat) (hn : 0 < n)
    (hc : ∀ j, j < n * 3 → (w.cell? ⟨b, o + j, none⟩).isSome = true) (hf : ∀ j, j < n * 3 → w.frozen? ⟨b, o + j, none⟩ = false) :
    ∃ vs : List Value, (Builtin.clear_ #[30] ty #[.slice (some ⟨b, o, none⟩) n c]).run Tryz.prog w = .ok (.tuple #[]) (w.setCells b o vs) := by
  have hzl : (Builtin.zeroCells (Value.agg #[.int .i64 0, .int .i64 0, .int .u8 0]).cells n).toList.length = n * 3 := by simp [Builtin.zeroCells, Value.cells]
  have hst := run_storeCells_cells (P := Tryz.prog) b o (Builtin.zeroCells (Value.agg #[.int .i64 0, .int .i64 0, .int .u8 0]).cells n).toList 0 w (by rw [hzl]; simpa using hc) (by rw [hzl]; simpa using hf) (by
    intro v hv
    simp [Builtin.zeroCells, Value.cells] at hv
    obtain ⟨j, _, rfl⟩ := hv
    have h3 : j % 3 = 0 ∨ j % 3 = 1 ∨ j % 3 = 2 := by omega
    rcases h3 with h | h | h <;> simp [h] <;> rfl)
  simp only [Nat.add_zero] at hst
  obtain ⟨m, rfl⟩ : ∃ m, n = m + 1 := ⟨n - 1, by omega⟩
  refine ⟨(Builtin.zeroCells (Value.agg #[.int .i64 0, .int .i64 0, .int .u8 0]).cells (m + 1)).toList, ?_⟩
  simp [Builtin.clear_, run_underlying Tryz.underlying30, Tryz.zeroValue29, hst]
theorem only_setCells (w : World) (g : Nat) : ∀ (vs : List Value) (o : Nat), Only (fun k => k = g) w (w.setCells g o vs) := by
  intro vs
  induction vs generalizing w with
  | nil => intro o; exact Only.refl _ w
  | cons v vs ih => intro o; exact (Only.setCell (p := ⟨g, o, none⟩) (Only.refl (fun k => k = g) w) (.inl rfl) v).trans (ih (w.setCell ⟨g, o, none⟩ v) (o + 1))
theorem frozen_setCells (g : Nat) : ∀ (vs : List Value) (o : Nat) (w : World) (x : Addr), (w.setCells g o vs).frozen? x = w.frozen? x
  | [], _, _, _ => rfl
  | v :: vs, o, w, x => by
    show ((w.setCell ⟨g, o, none⟩ v).setCells g (o + 1) vs).frozen? x = _
    rw [frozen_setCells g vs, World.frozen?_setCell]
def CompOut (W : World) (g c : Nat) (d : Array Mv) (e : Ending) (w' : World) : Prop :=
  e = .returned (.slice (some ⟨g, 0, none⟩) (compactUpTo d d.size).length c) ∧ HoldsK encM 3 w' g 0 (compactUpTo d d.size).toArray ∧ Only (fun k => k = g) W w'
theorem keeps_all_size {d : Array Mv} (h : ∀ j, j < d.size → keeps d j = true) : compactUpTo d d.size = d.toList := by rw [compactUpTo_all d _ h, range_map_get]
set_option maxHeartbeats 4000000 in
set_option maxRecDepth 100000 in
theorem compact_any (g c : Nat) (d : Array Mv) (W : World) (hH : HoldsK encM 3 W g 0 d) (hg : g < W.heap.size) (hc : d.size ≤ c) (hsz : d.size ≤ 10000000) :
    Calls Tryz.prog 91 #[.slice (some ⟨g, 0, none⟩) d.size c] W (CompOut W g c d) := by
  have HH := hide hH
  have Hsame := hide (fun (q : Nat) (h : ∀ j, j < d.size → keeps d j = true) => show CompOut W g c d (.returned (.slice (some ⟨g, 0, none⟩) d.size c)) (W.drewN q) from by
    refine ⟨by rw [keeps_all_size h]; simp, ?_, (Only.refl _ W).drewN q⟩
    rw [keeps_all_size h]
    exact hH)
  clear hH
  by_cases h2 : d.size < 2
  · have e1 : decide ((d.size : Int) < 2) = true := decide_eq_true (by omega)
    have Hr := hide (Hsame.out 0 (fun j hj => keeps_lt_one d j (by omega)))
    clear h2
    go_enter Tryz.func91, Tryz.ntmps91
    go_wp2_with fail
    go_ret
    exact Hr.out
  · have e1 : decide ((d.size : Int) < 2) = false := decide_eq_false (by omega)
    go_enter Tryz.func91, Tryz.ntmps91
    go_wp2_with fail
    clear e1
    go_loopw [3] (fun s3 wr => ∃ k q : Nat, k + 1 ≤ d.size ∧ s3 = .int .i64 ((k + 1 : Nat) : Int) ∧ wr = W.drewN q ∧ ∀ j, j < k + 1 → keeps d j = true) (fun s3 _ => d.size - (intOf s3).toNat)
    case atStart => exact ⟨0, 0, by omega, rfl, rfl, keeps_lt_one d⟩
    case round =>
      rename World => wr
      obtain ⟨k, q, hk, rfl, hwr, hall⟩ := hrel
      have Hall := hide hall
      have Hwr := hide hwr
      clear hall
      by_cases hlt : k + 1 < d.size
      · have Hk : HoldsK encM 3 wr g 0 d := by rw [hwr]; exact HH.out
        obtain ⟨⟨x0, x1, x2⟩, -⟩ := heldM Hk hlt
        obtain ⟨⟨y0, y1, y2⟩, -⟩ := heldM Hk (show k < d.size by omega)
        have HHw := hide Hk
        clear Hk hwr
        obtain ⟨x, hx⟩ : ∃ x, d[k + 1]! = x := ⟨_, rfl⟩
        obtain ⟨y, hy⟩ : ∃ y, d[k]! = y := ⟨_, rfl⟩
        have Hx := hide hx
        have Hy := hide hy
        rw [hx] at x0 x1 x2
        rw [hy] at y0 y1 y2
        have heq := fun w => eqM.1 x y w
        have hgd := fun op a b w => eqM.2 op a b x y w
        simp only [encM] at heq hgd
        obtain ⟨u, hu⟩ : ∃ u, decide (x = y) = u := ⟨_, rfl⟩
        rw [hu] at heq
        have Hu := hide hu
        clear hx hy hu
        go_upto_region 6 with (fail)
        go_quiet (fail)
        clear heq hgd x0 x1 x2 y0 y1 y2
        cases u
        · have hxy : ¬ x = y := of_decide_eq_false Hu.out
          have Hn := hide (show ∀ j, j < k + 1 + 1 → keeps d j = true from fun j hj => by
            by_cases e : j = k + 1
            · subst e; exact keeps_pos (by rw [Hx.out, show k + 1 - 1 = k by omega, Hy.out]; exact hxy)
            · exact Hall.out j (by omega))
          clear hxy
          go_wp2_with fail
          go_roundw
          case rel => exact ⟨k + 1, _, by omega, by go_num, (by rw [Hwr.out, World.drewN_drewN]), Hn.out⟩
          case measure => simp [intOf]; omega
        · have hxy : x = y := of_decide_eq_true Hu.out
          have Hst := hide (CompInv.start Hall.out (keeps_neg (d := d) (show 0 < k + 1 by omega) (by rw [Hx.out, show k + 1 - 1 = k by omega, Hy.out]; exact hxy)))
          clear hxy
          have hcap : (k + 1 : Nat) ≤ c := by omega
          have HO := hide (show Only (fun k => k = g) W wr by rw [Hwr.out]; exact (Only.refl _ W).drewN q)
          have HHb := hide (show ∀ n, HoldsK encM 3 (wr.drewN n) g 0 d from fun n => HHw.out)
          have HOb := hide (show ∀ n, Only (fun k => k = g) W (wr.drewN n) from fun n => HO.out.drewN n)
          obtain ⟨wb, hwb⟩ : ∃ wb, wr.drewN nq = wb := ⟨_, rfl⟩
          have HHb2 := hide (show HoldsK encM 3 wb g 0 d by rw [← hwb]; exact HHb.out _)
          have HOb2 := hide (show Only (fun k => k = g) W wb by rw [← hwb]; exact HOb.out _)
          rw [hwb]
          have Hcap := hide hcap
          clear hwb HHb HOb HHw HO hcap
          go_wp2_with fail
          go_loopw [3, 5] (fun s3 s5 wi => ∃ (kk k2 n2 : Nat) (dk : Array Mv), s3 = .int .i64 (kk : Int) ∧ s5 = .int .i64 ((k2 + 1 : Nat) : Int) ∧ k + 1 + (k2 + 1) ≤ d.size ∧ wi = putRowK encM 3 (Sort.ahead wb n2) g 0 dk ∧ CompInv d (k + 1 + (k2 + 1)) kk dk) (fun _ s5 _ => d.size - (intOf s5).toNat)
          case atStart => exact ⟨k + 1, 0, 0, d, rfl, rfl, by omega, (putRowK_self encM 3 (Sort.ahead wb 0) g 0 d HHb2.out).symm, Hst.out⟩
          case round =>
            rename World => wi
            obtain ⟨kk, k2, n2, dk, rfl, rfl, hle, hwi, hI⟩ := hrel
            have hkk := hI.lt
            have hds := hI.size
            have Hwi := hide hwi
            have HI := hide hI
            have hHk : HoldsK encM 3 wi g 0 dk := by rw [hwi]; exact holdsK_putRowK encM 3 _ g 0 d dk (holdsK_ahead encM 3 wb n2 g 0 d HHb2.out) hds
            have HHi := hide hHk
            have HOi := hide (show Only (fun k => k = g) W wi by rw [hwi]; exact HOb2.out.trans (only_putRow wb n2 g dk))
            clear hwi hI hds
            by_cases hlt2 : k + 1 + (k2 + 1) < d.size
            · obtain ⟨⟨x0, x1, x2⟩, -⟩ := heldM hHk (i := k + 1 + (k2 + 1)) (by have := HI.out.size; omega)
              obtain ⟨⟨y0, y1, y2⟩, -⟩ := heldM hHk (i := k + 1 + k2) (by have := HI.out.size; omega)
              obtain ⟨⟨z0, z1, z2⟩, f0, f1, f2⟩ := heldM hHk (i := kk) (by have := HI.out.size; omega)
              rw [HI.out.high _ (by omega), show (k + 1 + (k2 + 1)) * 3 = (k + 1) * 3 + (k2 + 1) * 3 by omega] at x0 x1 x2
              rw [HI.out.high _ (by omega), show (k + 1 + k2) * 3 = (k + 1) * 3 + k2 * 3 by omega] at y0 y1 y2
              obtain ⟨x, hx⟩ : ∃ x, d[k + 1 + (k2 + 1)]! = x := ⟨_, rfl⟩
              obtain ⟨y, hy⟩ : ∃ y, d[k + 1 + k2]! = y := ⟨_, rfl⟩
              obtain ⟨z, hz⟩ : ∃ z, dk[kk]! = z := ⟨_, rfl⟩
              have Hx := hide hx
              have Hy := hide hy
              rw [hx] at x0 x1 x2
              rw [hy] at y0 y1 y2
              rw [hz] at z0 z1 z2
              have hgw : g < wi.heap.size := Nat.lt_of_lt_of_le hg HOi.out.size
              have heq := fun w => neqM x y w
              have hgd := fun op a b w => eqM.2 op a b x y w
              simp only [encM] at heq hgd
              obtain ⟨u, hu⟩ : ∃ u, decide (x = y) = u := ⟨_, rfl⟩
              rw [hu] at heq
              have Hu := hide hu
              clear hx hy hz hu hHk HHi HOi
              go_upto_region 11 with (fail)
              go_quiet (fail)
              clear heq hgd y0 y1 y2
              cases u
              · have hxy : ¬ x = y := of_decide_eq_false Hu.out
                have Hk := hide (HI.out.keep hlt2 (keeps_pos (by rw [Hx.out, show k + 1 + (k2 + 1) - 1 = k + 1 + k2 by omega, Hy.out]; exact hxy)))
                clear hxy
                have Hput := hide (fun q => put_world (w := wb) (wr := wi.drewN q) (n := n2 + q) (g := g) (dk := dk) (i := kk) (by have := HI.out.size; omega) (by rw [Hwi.out, putRowK_drewN]) x)
                rw [Hx.out] at Hk
                go_wp2_with fail
                go_roundw
                case rel => exact ⟨kk + 1, k2 + 1, _, _, by go_num, by go_num, by omega, Hput.out _, Hk.out⟩
                case measure => simp [intOf]; omega
              · have hxy : x = y := of_decide_eq_true Hu.out
                have Hk := hide (HI.out.skip (keeps_neg (by omega) (by rw [Hx.out, show k + 1 + (k2 + 1) - 1 = k + 1 + k2 by omega, Hy.out]; exact hxy)))
                clear hxy
                go_wp2_with fail
                go_roundw
                case rel => exact ⟨kk, k2 + 1, _, dk, rfl, by go_num, by omega, (by rw [Hwi.out, putRowK_drewN]), Hk.out⟩
                case measure => simp [intOf]; omega
            · have hend : k + 1 + (k2 + 1) = d.size := by omega
              have hIe := HI.out
              rw [hend] at hIe
              have hkd : kk < d.size := by omega
              have hsz2 : dk.size = d.size := hIe.size
              obtain ⟨vs, hcl⟩ : ∃ vs : List Value, ∀ ty, (Builtin.clear_ #[30] ty #[.slice (some ⟨g, kk * 3, none⟩) (d.size - kk) (c - kk)]).run Tryz.prog wi = .ok (.tuple #[]) (wi.setCells g (kk * 3) vs) := by
                obtain ⟨vs, h⟩ := run_clearM wi 30 g (kk * 3) (d.size - kk) (c - kk) (by omega) (fun j hj => by
                  have := (hHk (kk * 3 + j) (by rw [size_flatK]; omega)).1
                  rw [Nat.zero_add] at this
                  rw [this]; rfl) (fun j hj => by
                  have := (hHk (kk * 3 + j) (by rw [size_flatK]; omega)).2
                  rw [Nat.zero_add] at this
                  exact this)
                exact ⟨vs, fun ty => h⟩
              have Hfin := hide (show CompOut W g c d (.returned (.slice (some ⟨g, 0, none⟩) kk c)) (wi.setCells g (kk * 3) vs) from by
                have hlen := hIe.len
                refine ⟨by rw [hlen], ?_, HOi.out.trans (only_setCells wi g vs (kk * 3))⟩
                intro j hj
                have hj' : j < kk * 3 := by rw [size_flatK] at hj; simpa [hlen] using hj
                obtain ⟨c1, c2⟩ := hHk j (by rw [size_flatK]; omega)
                rw [World.cell?_setCells_out g vs (kk * 3) wi _ (fun _ _ => .inl (by simpa using hj')), frozen_setCells, c1]
                refine ⟨?_, c2⟩
                rw [get_flatK encM 3 dk j (by omega), get_flatK encM 3 _ j (by simpa [hlen] using hj')]
                have hlow := hIe.low (j / 3) (by omega)
                congr 4
                rw [getElem!_pos (compactUpTo d d.size).toArray (j / 3) (by rw [List.size_toArray, hlen]; omega)]
                rw [List.getElem?_eq_getElem (by omega)] at hlow
                injection hlow with hlow
                simpa using hlow.symm)
              clear hIe hHk HHi HOi hend
              go_wp2_with fail
              go_ret
              exact Hfin.out
      · have Hr := hide (Hsame.out q (fun j hj => Hall.out j (by omega)))
        subst hwr
        go_wp2_with fail
        go_ret
        exact Hr.out
end Go.Proofs.YtdfegpohmaideaaGreat
