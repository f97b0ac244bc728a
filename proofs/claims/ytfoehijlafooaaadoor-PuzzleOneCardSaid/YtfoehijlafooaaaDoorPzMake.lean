/- puzzle.Make -/
import Derived.Test.YtfoehijlafooaaaDoorPzSolves
namespace Go.Proofs.YtfoehijlafooaaaDoor
open Go.RowKit

def anyZ (l : List Int) (q : Nat) : Bool := (l.take q).any (· == 0)
def anyB (N : Nat) (l : List Int) (q : Nat) : Bool := (l.take q).any fun i => decide (i < 0) || decide (i ≥ (N : Int))
theorem any_take {α : Type} (p : α → Bool) (l : List α) (q : Nat) (h : q < l.length) : (l.take (q + 1)).any p = ((l.take q).any p || p l[q]) := by
  rw [List.take_add_one, List.getElem?_eq_getElem h, List.any_append]; simp only [Option.toList_some, List.any_cons, List.any_nil, Bool.or_false]
theorem anyZ_succ {l : List Int} {q : Nat} (h : q < l.length) : anyZ l (q + 1) = (anyZ l q || gat l q == 0) := by unfold anyZ; rw [any_take _ _ _ h, gat_get h]
theorem anyB_succ {N : Nat} {l : List Int} {q : Nat} (h : q < l.length) : anyB N l (q + 1) = (anyB N l q || (decide (gat l q < 0) || decide (gat l q ≥ (N : Int)))) := by unfold anyB; rw [any_take _ _ _ h, gat_get h]
theorem anyZ_contains (l : List Int) : anyZ l l.length = l.contains 0 := by
  unfold anyZ
  rw [List.take_length]
  induction l with
  | nil => rfl
  | cons x l ih => rw [List.any_cons, List.contains_cons, ih]; congr 1; exact Bool.beq_comm
theorem anyZ_pos {l : List Int} (h : anyZ l l.length = false) (hp : ∀ j, j < l.length → 0 ≤ gat l j) : ∀ j, j < l.length → 0 < gat l j := by
  intro j hj
  unfold anyZ at h
  rw [List.take_length, List.any_eq_false] at h
  have h1 := h l[j] (List.getElem_mem hj)
  have h2 := hp j hj
  rw [gat_get hj] at h2 ⊢
  simp at h1
  omega
theorem anyB_all {N : Nat} {l : List Int} (h : anyB N l l.length = false) : ∀ j, j < l.length → 0 ≤ gat l j ∧ gat l j < N := by
  intro j hj
  unfold anyB at h
  rw [List.take_length, List.any_eq_false] at h
  have h1 := h l[j] (List.getElem_mem hj)
  rw [gat_get hj]
  simp at h1
  omega
theorem anyB_mono {N : Nat} {l : List Int} {q : Nat} (h : anyB N l q = true) : anyB N l l.length = true := by
  unfold anyB at h ⊢
  rw [List.any_eq_true] at h ⊢
  obtain ⟨x, h1, h2⟩ := h
  exact ⟨x, by rw [List.take_length]; exact List.mem_of_mem_take h1, h2⟩
theorem sols_full {r k : Nat} : ∀ (m i : Nat) (now : List Int), (∀ j, j < now.length → 0 < gat now j) → i + m = now.length → sols r k m i now = [now]
  | 0, _, _, _, _ => rfl
  | m + 1, i, now, h, hm => by
    rw [sols, if_pos (h i (by omega))]
    exact sols_full m (i + 1) now h (by omega)
theorem answers_full {r k most : Nat} {l : List Int} (h : ∀ j, j < l.length → 0 < gat l j) (hf : fitsG r k l = true) (hm : 0 < most) : answers r k l most = [l] := by
  unfold answers solsF
  rw [if_pos hf, sols_full _ _ _ h (by omega)]
  exact addT_one (by simpa using hm)

noncomputable def keepL (r k : Nat) (now : List Int) (i : Nat) : List Int := if (answers r k (now.set i 0) 2).length > 1 then now else now.set i 0
noncomputable def makeL (r k : Nat) (full order : List Int) : List Int := order.foldl (fun now i => keepL r k now i.toNat) full
theorem makeL_take {r k : Nat} {full order : List Int} {q : Nat} (h : q < order.length) : makeL r k full (order.take (q + 1)) = keepL r k (makeL r k full (order.take q)) (gat order q).toNat := by
  unfold makeL
  rw [List.take_add_one, List.getElem?_eq_getElem h, List.foldl_append, gat_get h]; rfl
theorem set_set_back {l : List Int} {i : Nat} (hi : i < l.length) (v : Int) : (l.set i v).set i (gat l i) = l := by
  apply gat_ext (by simp)
  intro j _
  rw [gat_set (by simpa using hi), gat_set hi]
  split
  · rename_i e; rw [e]
  · rfl
theorem keepL_len {r k : Nat} {now : List Int} {i : Nat} : (keepL r k now i).length = now.length := by unfold keepL; split <;> simp
theorem keepL_sub {r k : Nat} {now : List Int} {i j : Nat} (hi : i < now.length) : gat (keepL r k now i) j = gat now j ∨ gat (keepL r k now i) j = 0 := by
  unfold keepL
  split
  · exact .inl rfl
  · rw [gat_set hi]
    split
    · exact .inr rfl
    · exact .inl rfl
theorem makeL_len {r k : Nat} {full : List Int} : ∀ (order : List Int), (makeL r k full order).length = full.length := by
  intro order
  unfold makeL
  induction order generalizing full with
  | nil => rfl
  | cons i l ih => rw [List.foldl_cons, ih, keepL_len]
theorem makeL_sub {r k : Nat} {full : List Int} : ∀ (q : Nat) {order : List Int} (_ : q ≤ order.length) (_ : ∀ j, j < order.length → 0 ≤ gat order j ∧ gat order j < (full.length : Int)) (j : Nat), gat (makeL r k full (order.take q)) j = gat full j ∨ gat (makeL r k full (order.take q)) j = 0
  | 0, _, _, _, _ => .inl rfl
  | q + 1, order, hq, ho, j => by
    rw [makeL_take (by omega)]
    have hb := ho q (by omega)
    rcases keepL_sub (r := r) (k := k) (now := makeL r k full (order.take q)) (i := (gat order q).toNat) (j := j) (by rw [makeL_len]; omega) with h | h
    · rw [h]; exact makeL_sub q (by omega) ho j
    · exact .inr h
theorem CellsG.cells {w : World} {g : Nat} {l : List Int} (h : CellsG w g l) : Cells w w.heap.size (some ⟨g, 0, none⟩) (ints l) := fun _ => by
  obtain ⟨cs, hb, hc⟩ := h
  refine ⟨g, 0, rfl, hb.lt, fun j hj => ?_⟩
  have hj' : j < l.length := by simpa using hj
  rw [Nat.zero_add, hb.cellv (hc j hj'), ints_get, gat_get hj']

set_option maxHeartbeats 2000000 in
set_option maxRecDepth 100000 in
theorem make_bad (a b : Int) (A A2 : Option Addr) (c c2 : Nat) (cells order : List Int) (W : World) (B0 : Nat) (hm : cells.length ≤ 9223372036854775807) (hA : Cells W B0 A (ints cells)) (hbad : ¬ PuzOk a b cells) :
    Calls Tryd.prog 11 #[.int .i64 a, .int .i64 b, .slice A cells.length c, .slice A2 order.length c2] W fun e w' => e = .returned (.tuple #[.slice none 0 0, .int .i64 1]) ∧ w' = W := by
  have hc := check_any a b A c cells W B0 hm hA
  rw [chkE_val (puzB_false.2 hbad)] at hc
  have HC := hide hc
  clear hc hA hbad
  go_enter Tryd.func11, Tryd.ntmps11
  go_wp2_with (go_at_call 8; refine HC.out.mono ?_; rintro e w2 ⟨rfl, hw2⟩; rw [hw2]; clear hw2; simp only [cond_false])
  go_ret2
  exact ⟨rfl, rfl⟩

set_option maxHeartbeats 4000000 in
set_option maxRecDepth 100000 in
theorem make_ok (r k : Nat) (A A2 : Option Addr) (c c2 : Nat) (cells order : List Int) (W : World) (hA : Cells W W.heap.size A (ints cells)) (hA2 : Cells W W.heap.size A2 (ints order)) (hm2 : order.length ≤ 9223372036854775807) (hT : TabAt 1 Lib.deBruijn64tab W)
    (hr : 0 < r) (hk : 0 < k) (hr3 : r ≤ 3) (hk3 : k ≤ 3) (hl : cells.length = r * k * (r * k)) (hin : ∀ j, j < cells.length → 0 ≤ gat cells j ∧ gat cells j ≤ (r * k : Nat)) (hok : PuzOk r k cells) :
    Calls Tryd.prog 11 #[.int .i64 r, .int .i64 k, .slice A cells.length c, .slice A2 order.length c2] W fun e w' => Below W.heap.size W w' ∧
      ((anyZ cells cells.length || !fitsG r k cells || anyB cells.length order order.length) = true → e = .returned (.tuple #[.slice none 0 0, .int .i64 4])) ∧
      ((anyZ cells cells.length || !fitsG r k cells || anyB cells.length order order.length) = false → ∃ g cap, e = .returned (.tuple #[.slice (some ⟨g, 0, none⟩) cells.length cap, .int .i64 0]) ∧ W.heap.size ≤ g ∧ g < w'.heap.size ∧ cells.length ≤ cap ∧ CellsG w' g (makeL r k cells order)) := by
  have hn9 : r * k ≤ 9 := Nat.le_trans (Nat.mul_le_mul hr3 hk3) (by decide)
  have hN81 : cells.length ≤ 81 := by rw [hl]; exact Nat.mul_le_mul hn9 hn9
  have hN0 : 0 < cells.length := by rw [hl]; exact Nat.mul_pos (Nat.mul_pos hr hk) (Nat.mul_pos hr hk)
  have hc := check_any r k A c cells W _ (by omega) hA
  rw [chkE_val (puzB_true.2 hok)] at hc
  have HC := hide hc
  have hw1 : 1 < W.heap.size := World.block_lt_of_cell? W _ (hT 0 (by decide))
  have HS := hide (solve_any r k 1 A c cells W hr hk hr3 hk3 hl hin (by decide) (by decide) hA hT)
  obtain ⟨b, off, rfl, hbA, hcA⟩ := hA (by simpa using hN0)
  have hcA' : ∀ j, j < cells.length → W.cell? ⟨b, off + j, none⟩ = some (.int .i64 (gat cells j)) := fun j hj => by
    have h := hcA j (by simpa using hj)
    rw [ints_get, ← gat_get hj] at h
    exact h
  have hct := Tryd.slices_Contains_int b off cells.length c cells 0 W (Nat.le_refl _) (by omega) hcA'
  rw [List.take_length, ← anyZ_contains] at hct
  have HCt := hide hct
  have HcA := hide hcA'
  have Hin := hide hin
  have Hl := hide hl
  have HA2 := hide hA2
  have HT := hide hT
  obtain ⟨z, hz⟩ : ∃ z, anyZ cells cells.length = z := ⟨_, rfl⟩
  obtain ⟨fb, hfb⟩ : ∃ fb, fitsG r k cells = fb := ⟨_, rfl⟩
  rw [hz] at HCt ⊢
  rw [hfb]
  have Hz := hide hz
  have Hfb := hide hfb
  clear hc hA hcA hcA' hct hin hl hok hT hz hA2 hfb
  cases z
  case true =>
    go_enter Tryd.func11, Tryd.ntmps11
    go_wp2_with (first | (go_at_call 8; refine HC.out.mono ?_; rintro e w2 ⟨rfl, hw2⟩; rw [hw2]; clear hw2; simp only [cond_true]) | (go_at_call 16; refine HCt.out.mono ?_; rintro e w2 ⟨rfl, hw2⟩; rw [hw2]; clear hw2))
    go_ret2
    exact ⟨Below.refl _ _, fun _ => rfl, fun h => by simp at h⟩
  cases fb
  case false =>
    have Hans := hide (show (answers r k cells 1).length = 0 by unfold answers; rw [Hfb.out]; rfl)
    rw [Hans.out] at HS
    go_enter Tryd.func11, Tryd.ntmps11
    go_wp2_with (first | (go_at_call 8; refine HC.out.mono ?_; rintro e w2 ⟨rfl, hw2⟩; rw [hw2]; clear hw2; simp only [cond_true]) | (go_at_call 16; refine HCt.out.mono ?_; rintro e w2 ⟨rfl, hw2⟩; rw [hw2]; clear hw2) | (go_at_call 13; refine HS.out.mono ?_; rintro e w3 ⟨A', c', rfl, hle, hrows, hb3⟩))
    go_ret2
    exact ⟨hb3, fun _ => rfl, fun h => by simp at h⟩
  have hpos := anyZ_pos Hz.out (fun j hj => (Hin.out j hj).1)
  have Hans := hide (show (answers r k cells 1).length = 1 by rw [answers_full hpos Hfb.out (by decide)]; rfl)
  rw [Hans.out] at HS
  have Hpos := hide hpos
  clear hpos
  go_enter Tryd.func11, Tryd.ntmps11
  go_wp2_with (first | (go_at_call 8; refine HC.out.mono ?_; rintro e w2 ⟨rfl, hw2⟩; rw [hw2]; clear hw2; simp only [cond_true]) | (go_at_call 16; refine HCt.out.mono ?_; rintro e w2 ⟨rfl, hw2⟩; rw [hw2]; clear hw2) | (go_at_call 13; refine HS.out.mono ?_; rintro e w3 ⟨A', c', rfl, hle, hrows, hb3⟩))
  have Hb3 := hide hb3
  clear hrows hb3 hle
  go_loop [36] (fun idx => ∃ q : Nat, q ≤ order.length ∧ idx = .int .i64 q ∧ anyB cells.length order q = false) (fun idx => order.length - (intOf idx).toNat)
  case atStart => exact ⟨0, by omega, rfl, rfl⟩
  case round =>
    obtain ⟨q, hq, rfl, hall⟩ := hrel
    have Hall := hide hall
    clear hall
    by_cases hlt : q < order.length
    · obtain ⟨b2, off2, rfl, hb2, c1⟩ := (HA2.out.below Hb3.out).at_ (k := q) (by simpa using hlt)
      rw [ints_get, ← gat_get hlt] at c1
      have hsucc := anyB_succ (N := cells.length) hlt
      rw [Hall.out] at hsucc
      obtain ⟨x, hx⟩ : ∃ x, gat order q = x := ⟨_, rfl⟩
      rw [hx] at c1 hsucc
      have Hsucc := hide hsucc
      clear hx hsucc
      by_cases x1 : x < 0
      · have g1 : decide (x < 0) = true := by simp [x1]
        have HF := hide (anyB_mono (N := cells.length) (l := order) (q := q + 1) (by rw [Hsucc.out, g1]; rfl))
        clear x1
        go_wp2_with fail
        go_ret2
        exact ⟨Hb3.out, fun _ => rfl, fun h => by rw [HF.out] at h; simp at h⟩
      · have g1 : decide (x < 0) = false := by simp; omega
        by_cases x2 : x ≥ (cells.length : Int)
        · have g2 : decide (x ≥ (cells.length : Int)) = true := by simp [x2]
          have HF := hide (anyB_mono (N := cells.length) (l := order) (q := q + 1) (by rw [Hsucc.out, g1, g2]; rfl))
          clear x1 x2
          go_wp2_with fail
          go_ret2
          exact ⟨Hb3.out, fun _ => rfl, fun h => by rw [HF.out] at h; simp at h⟩
        · have g2 : decide (x ≥ (cells.length : Int)) = false := by simp; omega
          have Hn2 := hide (show anyB cells.length order (q + 1) = false by rw [Hsucc.out, g1, g2]; rfl)
          clear x1 x2
          go_wp2_with fail
          go_round
          case rel => exact ⟨q + 1, by omega, by go_num, Hn2.out⟩
          case measure => simp [intOf]; omega
    · obtain rfl : q = order.length := by omega
      have HO := hide (anyB_all Hall.out)
      have HCl := hide (clone_any b off c cells w3 (by omega) (fun j hj => by rw [Hb3.out.cell hbA, HcA.out j hj, gat_get hj]))
      go_wp2_with (go_at_call 17; refine HCl.out.mono ?_; rintro e w4 ⟨v', rfl, hown, hb4⟩)
      obtain ⟨g, cap, rfl, hg1, hg2, hg3, hcg⟩ := own_cellsG hown hN0
      have Hb4 := hide (Hb3.out.trans (hb4.mono Hb3.out.size))
      have hgW : W.heap.size ≤ g := Nat.le_trans Hb3.out.size hg1
      have Hcg := hide hcg
      clear hown hb4 hcg
      go_wp2_with fail
      go_loopw [53] (fun idx wr => ∃ q : Nat, q ≤ order.length ∧ idx = .int .i64 q ∧ CellsG wr g (makeL r k cells (order.take q)) ∧ Below W.heap.size W wr) (fun idx _ => order.length - (intOf idx).toNat)
      case atStart => exact ⟨0, by omega, rfl, Hcg.out, Hb4.out⟩
      case round =>
        rename World => wr
        obtain ⟨q, hq, rfl, hcr, hbr⟩ := hrel
        have Hcr := hide hcr
        have Hbr := hide hbr
        clear hcr hbr Hcg Hb4
        have hnl : (makeL r k cells (order.take q)).length = cells.length := makeL_len _
        by_cases hlt : q < order.length
        · obtain ⟨b2, off2, rfl, hb2, c1⟩ := (HA2.out.below Hbr.out).at_ (k := q) (by simpa using hlt)
          rw [ints_get, ← gat_get hlt] at c1
          have hx := HO.out q hlt
          have hstep := makeL_take (r := r) (k := k) (full := cells) hlt
          have hsub := makeL_sub (r := r) (k := k) (full := cells) q (order := order) hq HO.out
          obtain ⟨x, hxx⟩ : ∃ x, gat order q = x := ⟨_, rfl⟩
          rw [hxx] at c1 hx hstep
          obtain ⟨i0, rfl⟩ := Int.eq_ofNat_of_zero_le hx.1
          have hi0 : i0 < cells.length := by omega
          rw [Int.toNat_natCast] at hstep
          obtain ⟨now, hnow⟩ : ∃ now, makeL r k cells (order.take q) = now := ⟨_, rfl⟩
          rw [hnow] at hstep hnl hsub
          have hcr := Hcr.out
          rw [hnow] at hcr
          have hin0 : i0 < now.length := by omega
          have y := hcr.at_ hin0
          have f := hcr.free i0
          have hcz := hcr.set_ hin0 0
          have hnl' : (now.set i0 0).length = cells.length := by rw [List.length_set]; exact hnl
          have hinn : ∀ j, j < (now.set i0 0).length → 0 ≤ gat (now.set i0 0) j ∧ gat (now.set i0 0) j ≤ (r * k : Nat) := fun j hj => by
            rw [gat_set hin0]
            have := Hin.out j (by omega)
            split
            · omega
            · rcases hsub j with h | h
              · rw [h]; exact this
              · rw [h]; omega
          have hbz := Hbr.out.setCell (p := ⟨g, i0, none⟩) hgW (.int .i64 0)
          have htz : TabAt 1 Lib.deBruijn64tab (wr.setCell ⟨g, i0, none⟩ (.int .i64 0)) := fun j hj => by rw [hbz.cell hw1]; exact HT.out j hj
          have hs := solve_any r k 2 (some ⟨g, 0, none⟩) cap (now.set i0 0) _ hr hk hr3 hk3 (by rw [hnl']; exact Hl.out) hinn (by decide) (by decide) hcz.cells htz
          rw [hnl'] at hs
          have hglt : g < (wr.setCell ⟨g, i0, none⟩ (.int .i64 0)).heap.size := by
            obtain ⟨cs, hb, _⟩ := hcz
            exact hb.lt
          obtain ⟨m, hmm⟩ : ∃ m, (answers r k (now.set i0 0) 2).length = m := ⟨_, rfl⟩
          have hkeep : keepL r k now i0 = if m > 1 then now else now.set i0 0 := by unfold keepL; rw [hmm]
          rw [hmm] at hs
          have hm2' : m ≤ 2 := by rw [← hmm]; exact rows_len
          obtain ⟨wv, hwv⟩ : ∃ wv, gat now i0 = wv := ⟨_, rfl⟩
          rw [hwv] at y
          have HS2 := hide hs
          have Hcz := hide hcz
          have Hbz := hide hbz
          have Hstep := hide hstep
          have Hkeep := hide hkeep
          have Hwv := hide hwv
          have Hnl := hide hnl
          clear hs hcz hbz htz hinn hstep hkeep hcr hsub hxx hnow hwv hmm Hcr hx hnl hnl'
          by_cases hgt : m > 1
          · have d1 : decide ((m : Int) > 1) = true := decide_eq_true (by omega)
            have Hk2 := hide (show keepL r k now i0 = now by rw [Hkeep.out, if_pos hgt])
            clear hgt
            go_wp2_with (go_at_call 13; refine HS2.out.mono ?_; rintro e w7 ⟨A', c', rfl, hle, hrows, hb7⟩; have hcz7 := Hcz.out.below hb7 hglt; have y7 := hcz7.at_ (j := i0) (by simpa using hin0); have f7 := hcz7.free i0)
            go_roundw
            case rel =>
              have h9 := hcz7.set_ (i := i0) (by simpa using hin0) wv
              rw [← Hwv.out, set_set_back hin0] at h9
              rw [Hwv.out] at h9
              exact ⟨q + 1, by omega, by go_num, by rw [Hstep.out, Hk2.out]; exact h9, (Hbz.out.trans (hb7.mono Hbz.out.size)).setCell (p := ⟨g, i0, none⟩) hgW _⟩
            case measure => simp [intOf]; omega
          · have d1 : decide ((m : Int) > 1) = false := decide_eq_false (by omega)
            have Hk2 := hide (show keepL r k now i0 = now.set i0 0 by rw [Hkeep.out, if_neg hgt])
            clear hgt
            go_wp2_with (go_at_call 13; refine HS2.out.mono ?_; rintro e w7 ⟨A', c', rfl, hle, hrows, hb7⟩; have hcz7 := Hcz.out.below hb7 hglt)
            go_roundw
            case rel =>
              exact ⟨q + 1, by omega, by go_num, by rw [Hstep.out, Hk2.out]; exact hcz7, Hbz.out.trans (hb7.mono Hbz.out.size)⟩
            case measure => simp [intOf]; omega
        · obtain rfl : q = order.length := by omega
          have hf := Hcr.out
          rw [List.take_length] at hf
          have Hf := hide hf
          have hglt : g < wr.heap.size := by
            obtain ⟨cs, hb, _⟩ := hf
            exact hb.lt
          clear hf
          go_wp2_with fail
          go_ret2
          exact ⟨Hbr.out, fun h => by rw [Hall.out] at h; simp at h, fun _ => ⟨g, cap, rfl, hgW, hglt, hg3, Hf.out⟩⟩
end Go.Proofs.YtfoehijlafooaaaDoor
