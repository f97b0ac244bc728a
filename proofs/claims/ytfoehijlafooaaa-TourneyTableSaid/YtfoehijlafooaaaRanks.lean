/- gameref.Ranks walked -/
import Derived.Test.YtfoehijlafooaaaRkPts
import Derived.Test.YtfoehijlafooaaaSums
import Derived.BigQuiet
namespace Go.Proofs.Ytfoehijlafooaaa
open Go.RowKit

theorem info_int4 : ∃ i : TypeInfo, Try.prog.info? 3 = some i ∧ i.zero = some (.int .i64 0) ∧ i.size = 1 ∧ i.bytes = 8 := by
  have h : (Try.prog.info? 3).map (fun i => (i.zero, i.size, i.bytes)) = some (some (.int .i64 0), 1, 8) := by kernel_rfl
  cases hi : Try.prog.info? 3 with
  | none => rw [hi] at h; simp at h
  | some i => rw [hi] at h; simp at h; exact ⟨i, rfl, h.1, h.2.1, h.2.2⟩
theorem info_rk4 : ∃ i : TypeInfo, Try.prog.info? 74 = some i ∧ i.zero = some (.agg #[.int .i64 0, .int .i64 0, .int .i64 0]) ∧ i.size = 3 ∧ i.bytes = 24 := by
  have h : (Try.prog.info? 74).map (fun i => (i.zero, i.size, i.bytes)) = some (some (.agg #[.int .i64 0, .int .i64 0, .int .i64 0]), 3, 24) := by kernel_rfl
  cases hi : Try.prog.info? 74 with
  | none => rw [hi] at h; simp at h
  | some i => rw [hi] at h; simp at h; exact ⟨i, rfl, h.1, h.2.1, h.2.2⟩
theorem own_drewN {w : World} {base size n : Nat} {e : TypeId} {v : Value} {xs : List Value} (h : w.ownsRow base e size v n xs) (q : Nat) : (w.drewN q).ownsRow base e size v n xs := h
theorem own_slice {w : World} {base size n : Nat} {e : TypeId} {v : Value} {xs : List Value} (h : w.ownsRow base e size v n xs) (hn : 0 < n) : ∃ g c, v = .slice (some ⟨g, 0, none⟩) n c ∧ base ≤ g ∧ g < w.heap.size := by
  obtain ⟨h1, h2⟩ := h
  rcases h2 with ⟨rfl, h3⟩ | ⟨g, cap, cur, rfl, hbg, hg, hnc, hcm, hcs, htake⟩
  · omega
  · exact ⟨g, cap, rfl, hbg, (Array.getElem?_eq_some_iff.1 hg).1⟩
/-- what is read of a row of the call's own -/
theorem own_row {w : World} {base n g c : Nat} {e : TypeId} {l : List Res} (h : w.ownsRow base e 3 (.slice (some ⟨g, 0, none⟩) n c) n (ints (flatR l))) {j : Nat} (hj : j < l.length) :
    w.cell? ⟨g, j * 3, none⟩ = some (.int .i64 l[j].a) ∧ w.cell? ⟨g, j * 3 + 1, none⟩ = some (.int .i64 l[j].b) ∧ w.cell? ⟨g, j * 3 + 2, none⟩ = some (.int .i64 l[j].h) := by
  obtain ⟨A, c', hv, -, -, hc⟩ := Cells.of_ownK h
  injection hv with hv1 hv2 hv3
  subst hv1
  obtain ⟨b, off, hb, -, x1, x2, x3⟩ := res_at hc hj
  injection hb with hb
  injection hb with hb1 hb2
  subst hb1
  subst hb2
  rw [Nat.zero_add] at x1 x2 x3
  exact ⟨x1, x2, x3⟩
theorem own_put {w : World} {base n g c : Nat} {e : TypeId} {l : List Res} (h : w.ownsRow base e 3 (.slice (some ⟨g, 0, none⟩) n c) n (ints (flatR l))) {j : Nat} (hj : j < l.length) (r : Res) :
    (((w.setCell ⟨g, j * 3, none⟩ (.int .i64 r.a)).setCell ⟨g, j * 3 + 1, none⟩ (.int .i64 r.b)).setCell ⟨g, j * 3 + 2, none⟩ (.int .i64 r.h)).ownsRow base e 3 (.slice (some ⟨g, 0, none⟩) n c) n (ints (flatR (l.set j r))) := by
  rw [← flat_set l j hj r]
  exact ownsRow_set (ownsRow_set (ownsRow_set h _ _) _ _) _ _
def ptsTo (rs : List Res) (k : Nat) : Nat → Value := fun j => .int .i64 (if j < k then ptsR rs j else 0)

set_option maxHeartbeats 8000000 in
set_option maxRecDepth 100000 in
theorem ranks_any (n : Nat) (A : Option Addr) (c : Nat) (rs : List Res) (W : World) (hA : Cells W W.heap.size A (ints (flatR rs))) (hn : n ≤ 200) (hok : ResOk n rs) :
    Calls Try.prog 39 #[.int .i64 n, .slice A rs.length c] W fun e w' => ∃ A' c', e = .returned (.slice A' n c') ∧ Cells w' w'.heap.size A' (ints (flatR (rankL rs n))) ∧ Below W.heap.size W w' := by
  have hL := hok.1
  have HA := hide hA
  have Hok := hide hok
  have HP := hide (fun (p : Nat) (w : World) (hb : w.cell? ⟨W.heap.size, 0, none⟩ = some (.slice A rs.length c)) (hw : Below W.heap.size W w) => points_any n p W.heap.size A c rs w W.heap.size hb (hA.below hw) hok)
  clear hA hok
  obtain ⟨i1, hi1⟩ := info_int4
  obtain ⟨i3, hi3⟩ := info_rk4
  have Hi3 := hide hi3
  have hmk : ∀ w, (Instr.makeSlice 26 (.int .i64 (n : Int)) (.int .i64 (n : Int))).run Try.prog w = .ok (.slice (some ⟨w.heap.size, 0, none⟩) n n) (w.alloc (.cells (arrV n (ptsTo rs 0)) 3)) := fun w => by
    rw [← arrV_replicate n (ptsTo rs 0) (.int .i64 0) (fun j _ => by simp [ptsTo])]
    exact run_make1 26 3 i1 (.int .i64 0) Try.underlying26 hi1.1 hi1.2.1 hi1.2.2.1 rfl .i64 .i64 n (by rw [hi1.2.2.2]; omega) (by omega) w
  clear hi1 hi3
  go_enter Try.func39, Try.ntmps39
  go_wp2_with fail
  have hbx := (Blk.new W 67 #[.slice A rs.length c]).alloc (.cells (arrV n (ptsTo rs 0)) 3)
  have hga := Blk.new (W.alloc (.cells #[.slice A rs.length c] 67)) 3 (arrV n (ptsTo rs 0))
  simp only [World.size_alloc] at hga
  have hb1 := below_alloc0 (below_alloc0 (Below.refl W.heap.size W) (.cells #[.slice A rs.length c] 67)) (.cells (arrV n (ptsTo rs 0)) 3)
  have hs1 : ((W.alloc (.cells #[.slice A rs.length c] 67)).alloc (.cells (arrV n (ptsTo rs 0)) 3)).heap.size = W.heap.size + 2 := by simp [go_sem]
  obtain ⟨w1, hw1⟩ : ∃ w1, (W.alloc (.cells #[.slice A rs.length c] 67)).alloc (.cells (arrV n (ptsTo rs 0)) 3) = w1 := ⟨_, rfl⟩
  rw [hw1] at hbx hga hb1 hs1 ⊢
  have Hbx := hide hbx
  have Hga := hide hga
  have Hb1 := hide hb1
  have Hs1 := hide hs1
  clear hw1 hbx hga hb1 hs1 hmk
  go_loopw [8] (fun idx wr => ∃ k : Nat, k ≤ n ∧ idx = .int .i64 k ∧ Blk wr (W.heap.size + 1) 3 (arrV n (ptsTo rs k)) ∧ Blk wr W.heap.size 67 #[.slice A rs.length c] ∧ Below W.heap.size W wr) (fun idx _ => n - (intOf idx).toNat)
  case atStart => exact ⟨0, by omega, rfl, Hga.out, Hbx.out, Hb1.out⟩
  case round =>
    rename World => wr
    clear Hga Hbx Hb1
    obtain ⟨k, hk, rfl, hga, hbx, hb⟩ := hrel
    have Hga := hide hga
    have Hbx := hide hbx
    have Hb := hide hb
    have x0 : wr.cell? ⟨W.heap.size, 0, none⟩ = some (.slice A rs.length c) := hbx.cellv rfl
    clear hga hbx hb
    by_cases hlt : k < n
    · have y := Hga.out.cellv (arrV_get hlt)
      have f := Hga.out.free k
      have hp := HP.out k wr x0 Hb.out
      obtain ⟨v, hv⟩ : ∃ v, ptsR rs (k : Int) = v := ⟨_, rfl⟩
      rw [hv] at hp
      have HPk := hide hp
      have Hv := hide hv
      clear hp hv
      go_wp2_with (go_at_call 71; refine HPk.out.mono ?_; rintro e w3 ⟨rfl, hw3⟩; rw [hw3]; clear hw3)
      go_roundw
      case rel =>
        refine ⟨k + 1, by omega, by go_num, ?_, Hbx.out.far (p := ⟨W.heap.size + 1, k, none⟩) (show W.heap.size ≠ W.heap.size + 1 by omega) _, Hb.out.setCell (p := ⟨W.heap.size + 1, k, none⟩) (show W.heap.size ≤ W.heap.size + 1 by omega) _⟩
        have h := Hga.out.set_ k (.int .i64 v)
        rw [arrV_set n (ptsTo rs k) (ptsTo rs (k + 1)) k _ (by simp [ptsTo, Hv.out]) (fun j _ hj => by
          simp only [ptsTo]
          by_cases h1 : j < k
          · rw [if_pos h1, if_pos (by omega)]
          · rw [if_neg h1, if_neg (by omega)])] at h
        exact h
      case measure => simp [intOf]; omega
    · obtain rfl : k = n := by omega
      go_wp2_with fail
      obtain ⟨b2, hb2⟩ : ∃ b2, wr.heap.size = b2 := ⟨_, rfl⟩
      have hbx2 : W.heap.size < b2 := by rw [← hb2]; exact Hbx.out.lt
      have hga2 : W.heap.size + 1 < b2 := by rw [← hb2]; exact Hga.out.lt
      have Hb2 := hide hb2
      clear hb2 x0
      go_loopw [9, 5] (fun idx v ww => ∃ p : Nat, p ≤ k ∧ idx = .int .i64 p ∧ ww.ownsRow b2 74 3 v p (ints (flatR (rankL rs p))) ∧ Below b2 wr ww) (fun idx v _ => k - (intOf idx).toNat)
      case atStart => exact ⟨0, by omega, rfl, by simpa [rankL, flatR, ints] using World.ownsRow_nil _ _ _ _, Below.refl _ _⟩
      case round =>
        rename World => w2
        obtain ⟨p, hp, rfl, hown, hb⟩ := hrel
        obtain ⟨Av, cv, rfl, -, -, -⟩ := Cells.of_ownK hown
        have Hown := hide hown
        have Hc := hide hb
        have hsz2 : b2 ≤ w2.heap.size := by have := hb.size; rw [Hb2.out] at this; exact this
        clear hown hb
        by_cases hlt : p < k
        · have hgab := Hga.out.below Hc.out hga2
          have hbxb := Hbx.out.below Hc.out hbx2
          have x0 : w2.cell? ⟨W.heap.size, 0, none⟩ = some (.slice A rs.length c) := hbxb.cellv rfl
          have x1 : w2.cell? ⟨W.heap.size + 1, p, none⟩ = some (.int .i64 (ptsR rs p)) := by
            have h := hgab.cellv (arrV_get hlt)
            simpa [ptsTo, hlt] using h
          have hpb := ptsR_bnd Hok.out.2 (p : Int)
          obtain ⟨s, hs⟩ : ∃ s, ptsR rs (p : Int) = s := ⟨_, rfl⟩
          rw [hs] at x1 hpb
          have Hs := hide hs
          clear hs
          go_wp2_with fail
          have BX := hide (Blk.new w2 74 #[.int .i64 p, .int .i64 s, .int .i64 0])
          have HbW := Hc.out.trans ((below_alloc0 (Below.refl _ w2) (.cells #[.int .i64 p, .int .i64 s, .int .i64 0] 74)).mono hsz2)
          have Hown5 := hide (Hown.out.alloc (.cells #[.int .i64 p, .int .i64 s, .int .i64 0] 74))
          have Hb5 := hide HbW
          have Hga5 := hide (hgab.alloc (.cells #[.int .i64 p, .int .i64 s, .int .i64 0] 74))
          have Hbx5 := hide (hbxb.alloc (.cells #[.int .i64 p, .int .i64 s, .int .i64 0] 74))
          have hlt5 := Hown.out.lt
          have hsz5 : (w2.alloc (.cells #[.int .i64 p, .int .i64 s, .int .i64 0] 74)).heap.size = w2.heap.size + 1 := by simp [go_sem]
          obtain ⟨w5, hw5⟩ : ∃ w5, w2.alloc (.cells #[.int .i64 p, .int .i64 s, .int .i64 0] 74) = w5 := ⟨_, rfl⟩
          obtain ⟨gx, hgx⟩ : ∃ gx, w2.heap.size = gx := ⟨_, rfl⟩
          rw [hw5] at BX Hown5 Hb5 Hga5 Hbx5 hsz5 ⊢
          rw [hgx] at BX hsz5 hsz2 hlt5 ⊢
          have Hgx := hide hgx
          clear hw5 HbW x0 x1 hgab hbxb hgx
          have HW5 := hide (Hb.out.trans (Hb5.out.mono (by rw [← Hb2.out] at hbx2; omega)))
          have hgxW : W.heap.size + 1 < gx := by omega
          go_loopw [11] (fun idx wq => ∃ i : Nat, i ≤ rs.length ∧ idx = .int .i64 i ∧ Blk wq gx 74 #[.int .i64 p, .int .i64 s, .int .i64 (othR (ptsR rs) (rs.take i) p)] ∧ Only (fun b => b = gx) w5 wq) (fun idx _ => rs.length - (intOf idx).toNat)
          case atStart => exact ⟨0, by omega, rfl, by simpa [othR] using BX.out, Only.refl _ _⟩
          case round =>
            rename World => wq
            obtain ⟨i, hi, rfl, hbq, hO⟩ := hrel
            have Hbq := hide hbq
            have HO := hide hO
            have hbxq := Hbx5.out.only hO (show ¬ W.heap.size = gx by omega)
            have hgaq := Hga5.out.only hO (show ¬ W.heap.size + 1 = gx by omega)
            have x0 : wq.cell? ⟨W.heap.size, 0, none⟩ = some (.slice A rs.length c) := hbxq.cellv rfl
            have hWq : Below W.heap.size W wq := HW5.out.trans (hO.below_ (B := W.heap.size) (fun b hb => by omega) (by have := HW5.out.size; exact this))
            have HWq := hide hWq
            have Hgaq := hide hgaq
            clear hbq hO hbxq hgaq hWq
            by_cases hlt3 : i < rs.length
            · obtain ⟨bA, oA, rfl, hbA, c1, c2, c3⟩ := res_at (HA.out.below HWq.out) hlt3
              have hg := Hok.out.2 _ (List.getElem_mem hlt3)
              have hst := othR_step (ptsR rs) hlt3 (p : Int)
              have hptb : ∀ q, 0 ≤ ptsR rs q ∧ ptsR rs q ≤ 20000 := fun q => by
                have := ptsR_bnd Hok.out.2 q
                omega
              have hob := othR_bnd hptb (good_of_take Hok.out.2 i) (p : Int)
              rw [List.length_take] at hob
              obtain ⟨r, hr⟩ : ∃ r, rs[i] = r := ⟨_, rfl⟩
              rw [hr] at c1 c2 c3 hg hst
              clear hr
              obtain ⟨x, y, h⟩ := r
              obtain ⟨g1, g2, g3, g4, g5, g6, g7⟩ := hg
              simp only at c1 c2 c3 g1 g2 g3 g4 g5 g6 g7
              obtain ⟨x, rfl⟩ := Int.eq_ofNat_of_zero_le g1
              obtain ⟨y, rfl⟩ := Int.eq_ofNat_of_zero_le g3
              have bx1 := hptb x
              have by1 := hptb y
              have yx := Hgaq.out.cellv (arrV_get (f := ptsTo rs k) (show x < k by omega))
              have yy := Hgaq.out.cellv (arrV_get (f := ptsTo rs k) (show y < k by omega))
              simp only [ptsTo] at yx yy
              rw [if_pos (show x < k by omega)] at yx
              rw [if_pos (show y < k by omega)] at yy
              obtain ⟨o, ho⟩ : ∃ o, othR (ptsR rs) (rs.take i) (p : Int) = o := ⟨_, rfl⟩
              rw [ho] at hob hst
              have Hbq2 : Hid (Blk wq gx 74 #[.int .i64 p, .int .i64 s, .int .i64 o]) := hide (by rw [← ho]; exact Hbq.out)
              have hob2 : o ≤ 200000000 := by omega
              obtain ⟨px, hpx⟩ : ∃ px, ptsR rs (x : Int) = px := ⟨_, rfl⟩
              obtain ⟨py, hpy⟩ : ∃ py, ptsR rs (y : Int) = py := ⟨_, rfl⟩
              have hot : othR (ptsR rs) (rs.take (i + 1)) (p : Int) = o + ((if (x : Int) = p then py else 0) + (if (y : Int) = p then px else 0)) := by rw [hst]; simp only [ot1]; rw [hpx, hpy]
              rw [hpx] at bx1 yx
              rw [hpy] at by1 yy
              have Hot := hide hot
              have z2 : wq.cell? ⟨gx, 2, none⟩ = some (.int .i64 o) := Hbq2.out.cellv rfl
              have fz := Hbq2.out.free 2
              clear hst hptb ho hpx hpy hot g1 g3 Hbq
              by_cases hx : x = p
              · have e1 : ((x : Int) == (p : Int)) = true := by simp [hx]
                have e2 : ((y : Int) == (p : Int)) = false := by simp; omega
                have Hf := hide (show o + py = othR (ptsR rs) (rs.take (i + 1)) (p : Int) by rw [Hot.out, if_pos (by omega), if_neg (by omega)]; omega)
                clear hx
                go_wp2_with fail
                go_big_region
                go_wp2_with fail
                go_roundw
                case rel => exact ⟨i + 1, by omega, by go_num, by rw [← Hf.out]; exact (Hbq2.out.set_ 2 _).drew, (HO.out.setCell (p := ⟨gx, 2, none⟩) (.inl rfl) _).drew⟩
                case measure => simp [intOf]; omega
              · have e1 : ((x : Int) == (p : Int)) = false := by simp; omega
                by_cases hy : y = p
                · have e2 : ((y : Int) == (p : Int)) = true := by simp [hy]
                  have Hf := hide (show o + px = othR (ptsR rs) (rs.take (i + 1)) (p : Int) by rw [Hot.out, if_neg (by omega), if_pos (by omega)]; omega)
                  clear hx hy
                  go_wp2_with fail
                  go_big_region
                  go_wp2_with fail
                  go_roundw
                  case rel => exact ⟨i + 1, by omega, by go_num, by rw [← Hf.out]; exact (Hbq2.out.set_ 2 _).drew, (HO.out.setCell (p := ⟨gx, 2, none⟩) (.inl rfl) _).drew⟩
                  case measure => simp [intOf]; omega
                · have e2 : ((y : Int) == (p : Int)) = false := by simp; omega
                  have Hf := hide (show o = othR (ptsR rs) (rs.take (i + 1)) (p : Int) by rw [Hot.out, if_neg (by omega), if_neg (by omega)]; omega)
                  clear hx hy
                  go_wp2_with fail
                  go_roundw
                  case rel => exact ⟨i + 1, by omega, by go_num, by rw [← Hf.out]; exact Hbq2.out, HO.out⟩
                  case measure => simp [intOf]; omega
            · obtain rfl : i = rs.length := by omega
              obtain ⟨o, ho⟩ : ∃ o, othR (ptsR rs) rs (p : Int) = o := ⟨_, rfl⟩
              have hbq := Hbq.out
              rw [List.take_length, ho] at hbq
              have Hbq2 := hide hbq
              have Ho := hide ho
              have y0 : wq.cell? ⟨gx, 0, none⟩ = some (.int .i64 p) := hbq.cellv rfl
              have y1 : wq.cell? ⟨gx, 1, none⟩ = some (.int .i64 s) := hbq.cellv rfl
              have y2 : wq.cell? ⟨gx, 2, none⟩ = some (.int .i64 o) := hbq.cellv rfl
              have hgxq : gx < wq.heap.size := hbq.lt
              have Hownq := hide (ownsRow_only Hown5.out HO.out (fun g hg e => by have := (hlt5 g hg).2; omega))
              have Hbw := hide (Hb5.out.trans (HO.out.below_ (B := b2) (fun b hb => by omega) (by omega)))
              have hLl := rankL_len rs p
              obtain ⟨L, hLL⟩ : ∃ L, rankL rs p = L := ⟨_, rfl⟩
              rw [hLL] at hLl Hownq
              have hX : rowX rs p = ⟨p, s, o⟩ := by unfold rowX; rw [Hs.out, ho]
              have Hnext := hide (show ∀ q, insK ⟨p, s, o⟩ L p = q → rankL rs (p + 1) = putAt ⟨p, s, o⟩ L q from fun q hq => by rw [rankL, hX, hLL, insL, hLl, hq])
              clear hbq ho hLL hX Hbq
              go_wp2_with (at_builtin; refine wpList_append3 _ rfl (.tmp 84) (.tmp 86) 68 rfl b2 74 i3 (.agg #[.int .i64 0, .int .i64 0, .int .i64 0]) 24 Try.underlying68 Hi3.out.1 Hi3.out.2.1 Hi3.out.2.2.1 Hi3.out.2.2.2 rfl _ p (ints (flatR L)) rfl ?own (.int .i64 p) (.int .i64 s) (.int .i64 o) _ rfl ?c0 ?c1 ?c2 rfl rfl rfl ?h1 ?h2 ?h3 ?_)
              case own => exact Hownq.out.alloc _
              case c0 => simp [go_sem]
              case c1 => simp [go_sem]
              case c2 => simp [go_sem]
              case h1 => unfold maxLen; omega
              case h2 => omega
              case h3 => simp [go_sem]; omega
              intro v7 w7 hown7 hO7
              have hfl := flatR_snoc L ⟨p, s, o⟩
              simp only at hfl
              rw [← hfl, ← putAt_end, hLl] at hown7
              obtain ⟨go, c7, rfl, hgo, hgo2⟩ := own_slice hown7 (by omega)
              have hB7 : Below b2 wr w7 := by
                have h1 := hO7.below_ (B := b2) (fun b hb => hb) (by simp [go_sem]; omega)
                have h2 := (below_alloc0 (Below.refl _ wq) (.cells #[.int .i64 p, .int .i64 s, .int .i64 o] 74)).mono (show b2 ≤ wq.heap.size by omega)
                exact Hbw.out.trans (h2.trans h1)
              have Hown7 := hide hown7
              have HB7 := hide hB7
              clear hown7 hO7 hfl hB7
              go_wp2_with fail
              go_loopw [12] (fun idx ww => ∃ q : Nat, q ≤ p ∧ idx = .int .i64 q ∧ ww.ownsRow b2 74 3 (.slice (some ⟨go, 0, none⟩) (p + 1) c7) (p + 1) (ints (flatR (putAt ⟨p, s, o⟩ L q))) ∧ insK ⟨p, s, o⟩ L p = insK ⟨p, s, o⟩ L q ∧ Only (fun b => b = go) w7 ww) (fun idx _ => (intOf idx).toNat)
              case atStart => exact ⟨p, by omega, rfl, Hown7.out, rfl, Only.refl _ _⟩
              case round =>
                rename World => ww
                obtain ⟨q, hq, rfl, hown, hik, hO⟩ := hrel
                have Hown8 := hide hown
                have Hik := hide hik
                have HO8 := hide hO
                have HB8 := hide (HB7.out.trans (hO.below_ (B := b2) (fun b hb => by omega) (by have := HB7.out.size; rw [Hb2.out] at this; omega)))
                have hpl : ∀ q, q ≤ p → (putAt ⟨p, s, o⟩ L q).length = p + 1 := fun q hq => by rw [putAt_len _ _ (by omega), hLl]
                clear hown hik hO y0 y1 y2
                by_cases hq0 : q = 0
                · subst hq0
                  have Hfin := hide (Hnext.out 0 Hik.out)
                  go_wp2_with fail
                  go_quiet (fail)
                  go_wp2_with fail
                  go_roundw
                  case rel => exact ⟨p + 1, by omega, by go_num, by rw [Hfin.out]; exact own_drewN Hown8.out _, below_drewN HB8.out _⟩
                  case measure => simp [intOf]; omega
                · obtain ⟨q1, hq1⟩ : ∃ q1, q = q1 + 1 := ⟨q - 1, by omega⟩
                  have eq1 : (q : Int) - 1 = (q1 : Int) := by omega
                  have hq200 : q ≤ 200 := by omega
                  have hq1L : q1 < L.length := by omega
                  have hkd : decide (0 < q) = true := decide_eq_true (by omega)
                  have hkp : 0 < q := by omega
                  obtain ⟨xa, xb, xh⟩ := own_row Hown8.out (j := q) (by rw [hpl q hq]; omega)
                  obtain ⟨ya, yb, yh⟩ := own_row Hown8.out (j := q1) (by rw [hpl q hq]; omega)
                  rw [putAt_at _ _ (by omega)] at xa xb xh
                  rw [putAt_before _ _ (by omega) (by omega)] at ya yb yh
                  simp only at xa xb xh
                  have hins : insK ⟨p, s, o⟩ L q = if betR ⟨p, s, o⟩ L[q1] = true then insK ⟨p, s, o⟩ L q1 else q := by
                    rw [hq1, insK, getElem!_pos L q1 hq1L]
                  have hsw := putAt_swap ⟨p, s, o⟩ L hq1L
                  rw [← hq1] at hsw
                  obtain ⟨cs, hblk, -⟩ := ownsRow_blk Hown8.out
                  have hfr := hblk.free
                  obtain ⟨⟨va, vb, vh⟩, hY⟩ : ∃ Y, L[q1] = Y := ⟨_, rfl⟩
                  rw [hY] at ya yb yh hins hsw
                  simp only at ya yb yh
                  have Hins := hide hins
                  have Hsw := hide hsw
                  have Hq1 := hide hq1
                  clear hins hsw hq1 hblk hY
                  by_cases hbet : betR ⟨p, s, o⟩ ⟨va, vb, vh⟩ = true
                  · have Hi2 := hide (show insK ⟨p, s, o⟩ L p = insK ⟨p, s, o⟩ L q1 by rw [Hik.out, Hins.out, if_pos hbet])
                    rw [betR_iff] at hbet
                    simp only at hbet
                    rcases hbet with hb1 | ⟨hb1, hb3⟩
                    · have d1 : decide (s > vb) = true := decide_eq_true hb1
                      clear hb1
                      go_wp2_with fail
                      go_quiet (fail)
                      go_wp2_with fail
                      go_big_region
                      go_wp2_with fail
                      go_roundw
                      case rel =>
                        have g1 := own_put (own_drewN Hown8.out (nq + 1)) (j := q) (by rw [hpl q hq]; omega) ⟨va, vb, vh⟩
                        have g2 := own_put g1 (j := q1) (by rw [List.length_set, hpl q hq]; omega) ⟨p, s, o⟩
                        rw [Hsw.out] at g2
                        exact ⟨q1, by omega, rfl, g2, Hi2.out, ((((((HO8.out.drewN (nq + 1)).setCell (p := ⟨go, q * 3, none⟩) (.inl rfl) _).setCell (p := ⟨go, q * 3 + 1, none⟩) (.inl rfl) _).setCell (p := ⟨go, q * 3 + 2, none⟩) (.inl rfl) _).setCell (p := ⟨go, q1 * 3, none⟩) (.inl rfl) _).setCell (p := ⟨go, q1 * 3 + 1, none⟩) (.inl rfl) _).setCell (p := ⟨go, q1 * 3 + 2, none⟩) (.inl rfl) _⟩
                      case measure => have := Hq1.out; simp [intOf]; omega
                    · subst hb1
                      have d1 : decide (s > s) = false := decide_eq_false (by omega)
                      have d3 : decide (o > vh) = true := decide_eq_true hb3
                      clear hb3
                      go_wp2_with fail
                      go_quiet (fail)
                      go_wp2_with fail
                      go_big_region
                      go_wp2_with fail
                      go_roundw
                      case rel =>
                        have g1 := own_put (own_drewN Hown8.out (nq + 1)) (j := q) (by rw [hpl q hq]; omega) ⟨va, s, vh⟩
                        have g2 := own_put g1 (j := q1) (by rw [List.length_set, hpl q hq]; omega) ⟨p, s, o⟩
                        rw [Hsw.out] at g2
                        exact ⟨q1, by omega, rfl, g2, Hi2.out, ((((((HO8.out.drewN (nq + 1)).setCell (p := ⟨go, q * 3, none⟩) (.inl rfl) _).setCell (p := ⟨go, q * 3 + 1, none⟩) (.inl rfl) _).setCell (p := ⟨go, q * 3 + 2, none⟩) (.inl rfl) _).setCell (p := ⟨go, q1 * 3, none⟩) (.inl rfl) _).setCell (p := ⟨go, q1 * 3 + 1, none⟩) (.inl rfl) _).setCell (p := ⟨go, q1 * 3 + 2, none⟩) (.inl rfl) _⟩
                      case measure => have := Hq1.out; simp [intOf]; omega
                  · have Hfin := hide (Hnext.out q (by rw [Hik.out, Hins.out, if_neg hbet]))
                    have hnb : ¬ (s > vb ∨ (s = vb ∧ o > vh)) := fun g => hbet (betR_iff.2 g)
                    clear hbet
                    have d1 : decide (s > vb) = false := decide_eq_false (by omega)
                    by_cases he : s = vb
                    · subst he
                      have d3 : decide (o > vh) = false := decide_eq_false (by omega)
                      clear hnb
                      go_wp2_with fail
                      go_quiet (fail)
                      go_wp2_with fail
                      go_roundw
                      case rel => exact ⟨p + 1, by omega, by go_num, by rw [Hfin.out]; exact own_drewN Hown8.out _, below_drewN HB8.out _⟩
                      case measure => simp [intOf]; omega
                    · have d2 : (s == vb) = false := by simp [he]
                      clear hnb he
                      go_wp2_with fail
                      go_quiet (fail)
                      go_wp2_with fail
                      go_roundw
                      case rel => exact ⟨p + 1, by omega, by go_num, by rw [Hfin.out]; exact own_drewN Hown8.out _, below_drewN HB8.out _⟩
                      case measure => simp [intOf]; omega
        · obtain rfl : p = k := by omega
          obtain ⟨A9, c9, hv9, -, -, hc9⟩ := Cells.of_ownK Hown.out
          have hfin := Hb.out.trans (Hc.out.mono (by rw [← Hb2.out] at hbx2; omega))
          have Hfin := hide hfin
          have Hc9 := hide hc9
          injection hv9 with hv9
          subst hv9
          clear hfin hc9
          go_wp2_with fail
          go_ret
          exact ⟨_, ⟨_, rfl⟩, Hc9.out, Hfin.out⟩
end Go.Proofs.Ytfoehijlafooaaa
