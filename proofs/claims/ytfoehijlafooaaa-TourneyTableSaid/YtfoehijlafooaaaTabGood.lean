/- tourney.Table -/
import Derived.Test.YtfoehijlafooaaaTabWalk
namespace Go.Proofs.Ytfoehijlafooaaa
open Go.RowKit Go.Shelf Go.Lib Go.Sort

theorem below_sortedK {B : Nat} {w : World} {g n : Nat} {os : Array Obj} (d : Array Rk) (hB : B ≤ w.heap.size) (hg : B ≤ g) : Below B w (sortWorldK encRk 3 w g 0 n d os) := by
  have h : w.grownBy (sortWorldK encRk 3 w g 0 n d os) (some g) := grownBy_sortedK d
  exact ⟨h.os, h.tape, h.output, h.size, fun k hk => h.block k (by omega) (fun e => by injection e with e; omega)⟩
theorem below_setg3 {B : Nat} {w w' : World} (h : Below B w w') {p : Addr} (hp : B ≤ p.block) (u : Value) : Below B w (w'.setCell p u) := h.setCell hp u
theorem ptsR_take {rs : List Res} {k : Nat} (hk : k < rs.length) (p : Int) : ptsR (rs.take (k + 1)) p = ptsR (rs.take k) p + pt1 rs[k] p := by rw [take_one rs k hk, ptsR_append, ptsR_one]
theorem othR_take (f : Int → Int) {rs : List Res} {k : Nat} (hk : k < rs.length) (p : Int) : othR f (rs.take (k + 1)) p = othR f (rs.take k) p + ot1 f rs[k] p := by rw [take_one rs k hk, othR_append, othR_one]
theorem good_take {n : Int} {rs : List Res} (h : ∀ r ∈ rs, ResGood n r) (k : Nat) : ∀ r ∈ rs.take k, ResGood n r := fun r hr => h r (List.mem_of_mem_take hr)

set_option maxHeartbeats 4000000 in
set_option maxRecDepth 100000 in
theorem table_good (n : Nat) (A : Option Addr) (c : Nat) (rs : List Res) (W : World) (hA : Cells W W.heap.size A (ints (flatR rs))) (hn : n ≤ 200) (hok : ResOk n rs) :
    Calls Try.prog 35 #[.int .i64 n, .slice A rs.length c] W fun e w' => ∃ g, e = .returned (.tuple #[.slice (some ⟨g, 0, none⟩) n n, .int .i64 0]) ∧ Below W.heap.size W w' ∧ W.heap.size ≤ g ∧ g < w'.heap.size ∧ HoldsK encRk 3 w' g 0 (tabR n rs).toArray := by
  have hl : rs.length ≤ 9223372036854775807 := Nat.le_trans hok.1 (by omega)
  have HR := hide (fun W' (hb : Below W.heap.size W W') => results_any n A c rs W' hl ((hA.below hb).more hb.size))
  have HA := hide hA
  clear hA
  have e0 : decide ((n : Int) < 0) = false := by simp
  have e1 : decide ((n : Int) > 200) = false := by simp; omega
  have q2 : resB n rs = true := resB_true.2 hok
  rw [q2] at HR
  clear q2
  have Hok := hide hok
  have h10 := hok.1
  clear hok
  obtain ⟨i0, hi0, hz0, hz1, hz2⟩ := info_parts info_rank
  have hmk := fun W => run_make3 (P := Try.prog) 68 74 i0 _ Try.underlying68 hi0 hz0 hz1 rfl .i64 .i64 n (by rw [hz2]; omega) (by omega) W
  clear hi0 hz0 hz1 hz2
  go_enter Try.func35, Try.ntmps35
  go_wp2_with (go_at_call 64; refine (HR.out _ (Below.refl _ _)).mono ?_; rintro e w1 ⟨rfl, hb1⟩)
  have Hb1 := hide hb1
  clear hmk hb1
  obtain ⟨g, hg⟩ : ∃ g, w1.heap.size = g := ⟨_, rfl⟩
  have hgW : W.heap.size ≤ g := by rw [← hg]; exact Hb1.out.size
  rw [hg]
  have HB0 := hide (hg ▸ Blk.new w1 74 (flat3 n (fun _ => 0) (fun _ => 0) (fun _ => 0)) : Blk (w1.alloc (.cells (flat3 n (fun _ => 0) (fun _ => 0) (fun _ => 0)) 74)) g 74 (flat3 n (fun _ => 0) (fun _ => 0) (fun _ => 0)))
  have HL0 := hide (below_alloc0 Hb1.out (.cells (flat3 n (fun _ => 0) (fun _ => 0) (fun _ => 0)) 74))
  obtain ⟨w2, hw2⟩ : ∃ w2, w1.alloc (.cells (flat3 n (fun _ => 0) (fun _ => 0) (fun _ => 0)) 74) = w2 := ⟨_, rfl⟩
  rw [hw2] at HB0 HL0 ⊢
  clear hw2
  go_loopw [28] (fun idx wr => ∃ k : Nat, k ≤ n ∧ idx = .int .i64 k ∧ Blk wr g 74 (flat3 n (fun p => if p < k then p else 0) (fun _ => 0) (fun _ => 0)) ∧ Below W.heap.size W wr) (fun idx _ => n - (intOf idx).toNat)
  case atStart => exact ⟨0, by omega, rfl, by simpa using HB0.out, HL0.out⟩
  case round =>
    rename World => wr
    obtain ⟨k, hk, rfl, hblk, hb⟩ := hrel
    have Hblk := hide hblk
    have Hb := hide hb
    clear hblk hb
    by_cases hlt : k < n
    · have x0 := Hblk.out.cellv (flat3_get n _ _ _ hlt).1
      have x1 := Hblk.out.free (k * 3)
      have Hnx := hide (flat3_putQ n (fun p => if p < k then (p : Int) else 0) (fun _ => 0) (fun _ => 0) k k)
      go_wp2_with fail
      go_roundw
      case rel =>
        refine ⟨k + 1, by omega, by go_num, ?_, below_setg3 Hb.out (by omega) _⟩
        have h := Hblk.out.set_ (k * 3) (.int .i64 k)
        rw [Hnx.out] at h
        have e : (fun p : Nat => if p < k + 1 then (p : Int) else 0) = updI (fun p => if p < k then (p : Int) else 0) k k := by
          funext p; unfold updI; simp only; split <;> split <;> (try split) <;> omega
        rw [e]
        exact h
      case measure => simp [intOf]; omega
    · obtain rfl : n = k := by omega
      have HB1 := hide (show Blk wr g 74 (flat3 n (fun p => p) (fun p => ptsR (rs.take 0) p) (fun _ => 0)) by
        rw [flat3_congr (Q' := fun p => if p < n then (p : Int) else 0) (P' := fun _ => 0) (O' := fun _ => 0) (fun p hp => by simp [hp]) (fun p _ => by simp [ptsR]) (fun _ _ => rfl)]; exact Hblk.out)
      clear Hblk HB0 HL0
      have Hb0 := Hb
      clear Hb
      go_wp2_with fail
      go_loopw [39] (fun idx wr => ∃ k : Nat, k ≤ rs.length ∧ idx = .int .i64 k ∧ Blk wr g 74 (flat3 n (fun p => p) (fun p => ptsR (rs.take k) p) (fun _ => 0)) ∧ Below W.heap.size W wr) (fun idx _ => rs.length - (intOf idx).toNat)
      case atStart => exact ⟨0, by omega, rfl, HB1.out, Hb0.out⟩
      case round =>
        clear HB1 Hb0 hlt
        rename World => wr
        obtain ⟨k, hk, rfl, hblk, hb⟩ := hrel
        have Hblk := hide hblk
        have Hb := hide hb
        clear hblk
        by_cases hlt : k < rs.length
        · obtain ⟨bA, oA, rfl, hbA, c1, c2, c3⟩ := res_at (HA.out.below hb) hlt
          have hg := Hok.out.2 _ (List.getElem_mem hlt)
          have Htk := hide (fun p => ptsR_take hlt p)
          have hbn := fun p => ptsR_bnd (good_take Hok.out.2 k) p
          obtain ⟨r, hr⟩ : ∃ r, rs[k] = r := ⟨_, rfl⟩
          rw [hr] at c1 c2 c3 hg Htk
          clear hr hb
          obtain ⟨a, b, h⟩ := r
          obtain ⟨g1, g2, g3, g4, g5, g6, g7⟩ := hg
          simp only at c1 c2 c3 g1 g2 g3 g4 g5 g6 g7
          obtain ⟨a, rfl⟩ := Int.eq_ofNat_of_zero_le g1
          obtain ⟨b, rfl⟩ := Int.eq_ofNat_of_zero_le g3
          have ga : a < n := by omega
          have gb : b < n := by omega
          have gab : a ≠ b := by omega
          have hba := hbn a
          have hbb := hbn b
          clear hbn g1 g2 g3 g4 g5
          rw [List.length_take] at hba hbb
          have hba1 : ptsR (rs.take k) a ≤ 20000 := by omega
          have hbb1 : ptsR (rs.take k) b ≤ 20000 := by omega
          go_wp2_with fail
          have hgr : g < wr.heap.size := Hblk.out.lt
          have hbr : bA < wr.heap.size := Nat.lt_of_lt_of_le hbA Hb.out.size
          have BX := hide (Blk.new wr 72 #[.int .i64 a, .int .i64 b, .int .i64 h])
          have Hg := hide (Hblk.out.alloc (.cells #[.int .i64 a, .int .i64 b, .int .i64 h] 72))
          have Hb2 := hide (below_alloc0 Hb.out (.cells #[.int .i64 a, .int .i64 b, .int .i64 h] 72))
          obtain ⟨gx, hgx⟩ : ∃ gx, wr.heap.size = gx := ⟨_, rfl⟩
          obtain ⟨w3, hw3⟩ : ∃ w3, wr.alloc (.cells #[.int .i64 a, .int .i64 b, .int .i64 h] 72) = w3 := ⟨_, rfl⟩
          rw [hw3] at BX Hg Hb2
          rw [hgx] at BX hgr hbr
          rw [hw3, hgx]
          clear hw3 hgx Hblk Hb c1 c2 c3
          have hgx : gx ≠ g := by omega
          obtain ⟨P0, hP0⟩ : ∃ P0 : Nat → Int, (fun p : Nat => ptsR (rs.take k) p) = P0 := ⟨_, rfl⟩
          have hPa : ptsR (rs.take k) a = P0 a := by rw [← hP0]
          have hPb : ptsR (rs.take k) b = P0 b := by rw [← hP0]
          rw [hP0] at Hg
          rw [hPa] at hba hba1
          rw [hPb] at hbb hbb1
          have HP0 := hide hP0
          clear hP0 hPa hPb
          have s0 := BX.out.cell 0
          have s1 := BX.out.cell 1
          have s2 := BX.out.cell 2
          simp at s0 s1 s2
          have x0 := Hg.out.cellv (flat3_get n (fun p => p) P0 (fun _ => 0) ga).2.1
          have x1 := Hg.out.free (a * 3 + 1)
          have hs1 : IntKind.i64.wrap (P0 a + h) = P0 a + h := IntWalk.i64_in _ (by omega)
          go_big_region
          have Hg4 := hide ((Hg.out.set_ (a * 3 + 1) (.int .i64 (P0 a + h))).drew)
          rw [flat3_putP] at Hg4
          have BX4 := hide ((BX.out.far (p := ⟨g, a * 3 + 1, none⟩) hgx (.int .i64 (P0 a + h))).drew)
          have Hb4 := hide (below_drew_ (below_setg3 Hb2.out (p := ⟨g, a * 3 + 1, none⟩) hgW (.int .i64 (P0 a + h))))
          obtain ⟨w4, hw4⟩ : ∃ w4, (w3.setCell ⟨g, a * 3 + 1, none⟩ (.int .i64 (P0 a + h))).drew = w4 := ⟨_, rfl⟩
          rw [hw4] at Hg4 BX4 Hb4 ⊢
          clear hw4 Hg BX Hb2 s0 s1 s2 x0 x1 hs1
          have s0 := BX4.out.cell 0
          have s1 := BX4.out.cell 1
          have s2 := BX4.out.cell 2
          simp at s0 s1 s2
          have x0 := Hg4.out.cellv (flat3_get n (fun p => p) (updI P0 a (P0 a + h)) (fun _ => 0) gb).2.1
          have x1 := Hg4.out.free (b * 3 + 1)
          rw [show updI P0 a (P0 a + h) b = P0 b by unfold updI; rw [if_neg (Ne.symm gab)]] at x0
          have hs1 : IntKind.i64.wrap (2 - h) = 2 - h := IntWalk.i64_in _ (by omega)
          have hs2 : IntKind.i64.wrap (P0 b + (2 - h)) = P0 b + (2 - h) := IntWalk.i64_in _ (by omega)
          go_wp2_with fail
          go_big_region
          have Hg5 := hide ((Hg4.out.set_ (b * 3 + 1) (.int .i64 (P0 b + (2 - h)))).drew)
          rw [flat3_putP] at Hg5
          have Hb5 := hide (below_drew_ (below_setg3 Hb4.out (p := ⟨g, b * 3 + 1, none⟩) hgW (.int .i64 (P0 b + (2 - h)))))
          have hfin : updI (updI P0 a (P0 a + h)) b (P0 b + (2 - h)) = fun p : Nat => ptsR (rs.take (k + 1)) p := by
            funext p
            rw [Htk.out, ← HP0.out]
            unfold updI pt1
            simp only
            by_cases p1 : p = a
            · subst p1
              rw [if_neg gab, if_pos rfl, if_pos rfl, if_neg (by omega)]; omega
            · by_cases p2 : p = b
              · subst p2
                rw [if_pos rfl, if_neg (by omega), if_pos rfl]; omega
              · rw [if_neg p2, if_neg p1, if_neg (by omega), if_neg (by omega)]; omega
          rw [hfin] at Hg5
          clear hfin
          go_wp2_with fail
          go_roundw
          case rel => exact ⟨k + 1, by omega, by go_num, Hg5.out, Hb5.out⟩
          case measure => simp [intOf]; omega
        · obtain rfl : rs.length = k := by omega
          have HB2 := hide (show Blk wr g 74 (flat3 n (fun p => p) (fun p => ptsR rs p) (fun p => othR (ptsR rs) (rs.take 0) p)) by
            have h := Hblk.out
            rw [List.take_length] at h
            exact (show flat3 n (fun p => p) (fun p => ptsR rs p) (fun p => othR (ptsR rs) (rs.take 0) p) = flat3 n (fun p => p) (fun p => ptsR rs p) (fun _ => 0) from flat3_congr (fun _ _ => rfl) (fun _ _ => rfl) (fun p _ => by simp [othR])) ▸ h)
          have Hb0 := Hb
          clear Hblk Hb hb
          go_wp2_with fail
          go_loopw [69] (fun idx wr => ∃ k : Nat, k ≤ rs.length ∧ idx = .int .i64 k ∧ Blk wr g 74 (flat3 n (fun p => p) (fun p => ptsR rs p) (fun p => othR (ptsR rs) (rs.take k) p)) ∧ Below W.heap.size W wr) (fun idx _ => rs.length - (intOf idx).toNat)
          case atStart => exact ⟨0, by omega, rfl, HB2.out, Hb0.out⟩
          case round =>
            clear HB2 Hb0 hlt
            rename World => wr
            obtain ⟨k, hk, rfl, hblk, hb⟩ := hrel
            have Hblk := hide hblk
            have Hb := hide hb
            clear hblk
            by_cases hlt : k < rs.length
            · obtain ⟨bA, oA, rfl, hbA, c1, c2, c3⟩ := res_at (HA.out.below hb) hlt
              have hg := Hok.out.2 _ (List.getElem_mem hlt)
              have Htk := hide (fun p => othR_take (ptsR rs) hlt p)
              have hbp := fun p => ptsR_bnd Hok.out.2 p
              have hbp2 : ∀ p, 0 ≤ ptsR rs p ∧ ptsR rs p ≤ 20000 := fun p => by have := hbp p; omega
              have hbo := fun p => othR_bnd hbp2 (good_take Hok.out.2 k) p
              have hbo2 : ∀ p, 0 ≤ othR (ptsR rs) (rs.take k) p ∧ othR (ptsR rs) (rs.take k) p ≤ 200000000 := fun p => by have := hbo p; rw [List.length_take] at this; omega
              obtain ⟨r, hr⟩ : ∃ r, rs[k] = r := ⟨_, rfl⟩
              rw [hr] at c1 c2 c3 hg Htk
              clear hr hb
              obtain ⟨a, b, h⟩ := r
              obtain ⟨g1, g2, g3, g4, g5, g6, g7⟩ := hg
              simp only at c1 c2 c3 g1 g2 g3 g4 g5 g6 g7
              obtain ⟨a, rfl⟩ := Int.eq_ofNat_of_zero_le g1
              obtain ⟨b, rfl⟩ := Int.eq_ofNat_of_zero_le g3
              have ga : a < n := by omega
              have gb : b < n := by omega
              have gab : a ≠ b := by omega
              have hpa := hbp2 a
              have hpb := hbp2 b
              have hoa := hbo2 a
              have hob := hbo2 b
              clear hbp hbp2 hbo hbo2 g1 g2 g3 g4 g5
              go_wp2_with fail
              have hgr : g < wr.heap.size := Hblk.out.lt
              have hbr : bA < wr.heap.size := Nat.lt_of_lt_of_le hbA Hb.out.size
              have BX := hide (Blk.new wr 72 #[.int .i64 a, .int .i64 b, .int .i64 h])
              have Hg := hide (Hblk.out.alloc (.cells #[.int .i64 a, .int .i64 b, .int .i64 h] 72))
              have Hb2 := hide (below_alloc0 Hb.out (.cells #[.int .i64 a, .int .i64 b, .int .i64 h] 72))
              obtain ⟨gx, hgx⟩ : ∃ gx, wr.heap.size = gx := ⟨_, rfl⟩
              obtain ⟨w3, hw3⟩ : ∃ w3, wr.alloc (.cells #[.int .i64 a, .int .i64 b, .int .i64 h] 72) = w3 := ⟨_, rfl⟩
              rw [hw3] at BX Hg Hb2
              rw [hgx] at BX hgr hbr
              rw [hw3, hgx]
              clear hw3 hgx Hblk Hb c1 c2 c3
              have hgx : gx ≠ g := by omega
              obtain ⟨P0, hP0⟩ : ∃ P0 : Nat → Int, (fun p : Nat => ptsR rs p) = P0 := ⟨_, rfl⟩
              obtain ⟨O0, hO0⟩ : ∃ O0 : Nat → Int, (fun p : Nat => othR (ptsR rs) (rs.take k) p) = O0 := ⟨_, rfl⟩
              have hPa : ptsR rs a = P0 a := by rw [← hP0]
              have hPb : ptsR rs b = P0 b := by rw [← hP0]
              have hOa : othR (ptsR rs) (rs.take k) a = O0 a := by rw [← hO0]
              have hOb : othR (ptsR rs) (rs.take k) b = O0 b := by rw [← hO0]
              rw [hP0, hO0] at Hg
              rw [hPa] at hpa
              rw [hPb] at hpb
              rw [hOa] at hoa
              rw [hOb] at hob
              have HP0 := hide hP0
              have HO0 := hide hO0
              clear hP0 hPa hPb hO0 hOa hOb
              have s0 := BX.out.cell 0
              have s1 := BX.out.cell 1
              have s2 := BX.out.cell 2
              simp at s0 s1 s2
              have x0 := Hg.out.cellv (flat3_get n (fun p => p) P0 O0 ga).2.2
              have x1 := Hg.out.free (a * 3 + 2)
              have x2 := Hg.out.cellv (flat3_get n (fun p => p) P0 O0 gb).2.1
              have hs1 : IntKind.i64.wrap (O0 a + P0 b) = O0 a + P0 b := IntWalk.i64_in _ (by omega)
              go_big_region
              have Hg4 := hide ((Hg.out.set_ (a * 3 + 2) (.int .i64 (O0 a + P0 b))).drew)
              rw [flat3_putO] at Hg4
              have BX4 := hide ((BX.out.far (p := ⟨g, a * 3 + 2, none⟩) hgx (.int .i64 (O0 a + P0 b))).drew)
              have Hb4 := hide (below_drew_ (below_setg3 Hb2.out (p := ⟨g, a * 3 + 2, none⟩) hgW (.int .i64 (O0 a + P0 b))))
              obtain ⟨w4, hw4⟩ : ∃ w4, (w3.setCell ⟨g, a * 3 + 2, none⟩ (.int .i64 (O0 a + P0 b))).drew = w4 := ⟨_, rfl⟩
              rw [hw4] at Hg4 BX4 Hb4 ⊢
              clear hw4 Hg BX Hb2 s0 s1 s2 x0 x1 x2 hs1
              have s0 := BX4.out.cell 0
              have s1 := BX4.out.cell 1
              have s2 := BX4.out.cell 2
              simp at s0 s1 s2
              have x0 := Hg4.out.cellv (flat3_get n (fun p => p) P0 (updI O0 a (O0 a + P0 b)) gb).2.2
              have x1 := Hg4.out.free (b * 3 + 2)
              have x2 := Hg4.out.cellv (flat3_get n (fun p => p) P0 (updI O0 a (O0 a + P0 b)) ga).2.1
              rw [show updI O0 a (O0 a + P0 b) b = O0 b by unfold updI; rw [if_neg (Ne.symm gab)]] at x0
              have hs1 : IntKind.i64.wrap (O0 b + P0 a) = O0 b + P0 a := IntWalk.i64_in _ (by omega)
              go_wp2_with fail
              go_big_region
              have Hg5 := hide ((Hg4.out.set_ (b * 3 + 2) (.int .i64 (O0 b + P0 a))).drew)
              rw [flat3_putO] at Hg5
              have Hb5 := hide (below_drew_ (below_setg3 Hb4.out (p := ⟨g, b * 3 + 2, none⟩) hgW (.int .i64 (O0 b + P0 a))))
              have hfin : updI (updI O0 a (O0 a + P0 b)) b (O0 b + P0 a) = fun p : Nat => othR (ptsR rs) (rs.take (k + 1)) p := by
                funext p
                rw [Htk.out, ← HP0.out, ← HO0.out]
                unfold updI ot1
                simp only
                by_cases p1 : p = a
                · subst p1
                  rw [if_neg gab, if_pos rfl, if_pos rfl, if_neg (by omega)]; omega
                · by_cases p2 : p = b
                  · subst p2
                    rw [if_pos rfl, if_neg (by omega), if_pos rfl]; omega
                  · rw [if_neg p2, if_neg p1, if_neg (by omega), if_neg (by omega)]; omega
              have hflat : ∀ O, flat3 n (fun p => (p : Int)) P0 O = flat3 n (fun p => (p : Int)) (fun p : Nat => ptsR rs p) O := fun O => by rw [HP0.out]
              rw [hfin, hflat] at Hg5
              clear hflat
              clear hfin
              go_wp2_with fail
              go_roundw
              case rel => exact ⟨k + 1, by omega, by go_num, Hg5.out, Hb5.out⟩
              case measure => simp [intOf]; omega
            · obtain rfl : rs.length = k := by omega
              have hsz : (rowO n rs rs).toArray.size = n := by simp [rowO]
              have Hrow := hide (show Blk wr g 74 (flatK encRk 3 (rowO n rs rs).toArray) by
                have h := Hblk.out
                rw [List.take_length, flat3_flatK] at h
                exact h)
              have eg : ∀ args w, (callFunc 66 args).run Try.prog w = .ok (.enter 66 args) w := enters_of Try.func66 (by kernel_rfl) rfl
              have HS := hide (fun (W' : World) (hB : Blk W' g 74 (flatK encRk 3 (rowO n rs rs).toArray)) => AnyQ.slices_SortFunc_total Try.sortR 3 Try.isAgg74 Try.sizeOf74 encRk (fun _ => rfl) (fun x v hv => by simp [encRk] at hv; rcases hv with rfl | rfl | rfl <;> rfl) cfRk swoRk 66 #[] g 0 n (rowO n rs rs).toArray W' eg (fun _ _ _ _ x y => cmpRk_any x y _) hB.holdsK hB.lt (by rw [hsz]; omega) totRk)
              rw [hsz] at HS
              clear Hblk eg
              have hsrt : ((rowO n rs rs).toArray.toList.mergeSort fun x y => !(ltOf cfRk) y x).toArray = (tabR n rs).toArray := rfl
              rw [hsrt] at HS
              have hlen : (tabR n rs).toArray.size = (rowO n rs rs).toArray.size := by simp [tabR]
              clear hsrt
              go_wp2_with (go_at_call 65; refine (HS.out _ Hrow.out).mono ?_; rintro e w2 ⟨rfl, nn, os, hw2⟩)
              go_ret2
              refine ⟨g, rfl, ?_, hgW, ?_, ?_⟩
              · exact Hb.out.trans (below_sortedK _ Hb.out.size hgW)
              · exact Nat.lt_of_lt_of_le Hrow.out.lt (size_sortWorldK_c encRk 3 wr g 0 nn _ os)
              · exact holdsK_sortWorldK_c encRk 3 wr g 0 _ _ nn os Hrow.out.holdsK Hrow.out.lt hlen
end Go.Proofs.Ytfoehijlafooaaa
