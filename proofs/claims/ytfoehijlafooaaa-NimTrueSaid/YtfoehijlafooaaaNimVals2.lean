/- nim.values: the worths of heaps of 0 to n, in a slice of its own. -/
import Derived.Test.YtfoehijlafooaaaNimVals
namespace Go.Proofs.Ytfoehijlafooaaa
open Go.RowKit

theorem VI.alloc {w0 w : World} {Ad : Option Addr} {d : List Nat} {N hh bg gG bl B0 : Nat} {dn : List (List Nat)} (h : VI w0 Ad d N hh bg gG bl B0 dn w) (o : Obj) : VI w0 Ad d N hh bg gG bl B0 dn (w.alloc o) := by
  obtain ⟨lv, h1, h2⟩ := h.boxl
  refine ⟨h.boxg.alloc o, h.arr.alloc o, ⟨lv, h1.alloc o, h2.alloc o⟩, h.digs.keep (fun p hp => World.cell?_of_block (Below.heap_alloc w o p.block (by have := h.old.2.2; have := h.sz; omega))), h.old, Nat.le_trans h.sz (by simp), h.only.trans' ((Only.refl (fun _ => False) w).alloc o) (fun _ _ h => h.elim)⟩

noncomputable def gInts (d : List Nat) (m : Nat) : List Int := (List.range m).map fun j => (gv d j : Int)
theorem gInts_len (d : List Nat) (m : Nat) : (gInts d m).length = m := by simp [gInts]

set_option maxHeartbeats 4000000 in
set_option maxRecDepth 100000 in
theorem vals_any (Ad : Option Addr) (cd : Nat) (d : List Nat) (n : Nat) (hn : n ≤ 400) (hd8 : ∀ k (hk : k < d.length), d[k] < 8) (hdl : d.length ≤ 6) (w : World) (hD : Cells w w.heap.size Ad (ints (natsI d))) :
    Calls Try.prog 55 #[.slice Ad d.length cd, .int .i64 n] w fun e w' => (∃ A, e = .returned (.slice A (n + 1) (n + 1)) ∧ Cells w' w'.heap.size A (ints (gInts d (n + 1)))) ∧ Below w.heap.size w w' := by
  obtain ⟨i0, hi0, hz0, hz1, hz2⟩ := info_parts info_int
  have hmk := fun W => run_make1 (P := Try.prog) 26 3 i0 (.int .i64 0) Try.underlying26 hi0 hz0 hz1 rfl .i64 .i64 (n + 1) (by rw [hz2]; omega) (by omega) W
  simp only [Int.natCast_add, Int.cast_ofNat_Int] at hmk
  have HD := hide hD
  have H8 := hide hd8
  clear hi0 hz0 hz1 hz2 hD hd8
  go_enter Try.func55, Try.ntmps55
  go_wp2_with fail
  clear hmk
  go_loopw [13] (fun idx wr => ∃ k : Nat, k ≤ n + 1 ∧ idx = .int .i64 k ∧ Blk wr (w.heap.size + 1) 26 #[.slice (some ⟨w.heap.size, 0, none⟩) (n + 1) (n + 1)] ∧ Blk wr w.heap.size 3 (arrV (n + 1) (intV (gI d k))) ∧ Below w.heap.size w wr) (fun idx _ => n + 1 - (intOf idx).toNat)
  case atStart =>
    refine ⟨0, by omega, rfl, ?_, ?_, (((Only.refl (fun _ => False) w).alloc _).alloc _).below_ (fun _ h => h.elim) (Nat.le_refl _)⟩
    · repeat (first | (refine Blk.new' ?_; (simp; done)) | refine Blk.alloc ?_ _)
    · rw [← arrV_replicate (n + 1) (intV (gI d 0)) (.int .i64 0) (fun j _ => by simp [intV, gI])]; repeat (first | (refine Blk.new' ?_; (simp; done)) | refine Blk.alloc ?_ _)
  case round =>
    obtain ⟨k, hk, rfl, hbg, hga, hbw⟩ := hrel
    have r1 := hbg.cell 0
    simp at r1
    have Hbg := hide hbg
    have Hga := hide hga
    have Hbw := hide hbw
    have hs1 := hbg.lt
    clear hbg hga hbw
    by_cases hlt : k < n + 1
    · obtain ⟨w0, hw0⟩ : ∃ w0 : World, w0 = wr.alloc (.cells #[.slice none 0 0] 26) := ⟨_, rfl⟩
      have hsz0 : w0.heap.size = wr.heap.size + 1 := by rw [hw0]; simp
      have hVI : VI w0 Ad d (n + 1) k (w.heap.size + 1) w.heap.size wr.heap.size w.heap.size [] w0 := by
        rw [hw0]
        refine ⟨Hbg.out.alloc _, Hga.out.alloc _, ⟨.slice none 0 0, Blk.new _ _ _, World.ownsRow_nil _ _ _ _⟩, (HD.out.below Hbw.out).keep (fun p hp => World.cell?_of_block (Below.heap_alloc wr _ p.block (by omega))), ⟨by simp; omega, by simp; omega, by simp, by omega, by omega⟩, Nat.le_refl _, Only.refl _ _⟩
      have hAsk : Asks 79 #[.pointer (some ⟨w.heap.size + 1, 0, none⟩), .pointer (some ⟨wr.heap.size, 0, none⟩)] Ad d k (VI w0 Ad d (n + 1) k (w.heap.size + 1) w.heap.size wr.heap.size w.heap.size) (fun _ _ _ => False) :=
        ⟨fun dn ps W A c hpre hI hc hA => by
          have := values1_any w0 Ad d (n + 1) k (w.heap.size + 1) w.heap.size wr.heap.size w.heap.size (by omega) (by omega) hdl dn ps W A c hpre hI hc hA
          exact this.mono fun e w' h => .inl h, fun dn W o h => h.alloc o, fun dn W h => h.digs.more (by have := h.sz; omega)⟩
      have Hcall := hide (each_A _ _ Ad cd d k _ _ hAsk H8.out hdl (by omega) w0 hVI)
      have Hw0 := hide hw0
      clear hAsk hVI
      rw [hw0] at Hcall
      clear hw0
      go_wp2_with fail
      refine Hcall.out.mono ?_
      rintro e w1 (⟨rfl, hI⟩ | ⟨_, _, _, _, hF⟩)
      case inr => exact hF.elim
      rw [← Hw0.out] at hI
      obtain ⟨lv, hbl, hown⟩ := hI.boxl
      obtain ⟨Al, cl, rfl, hcl, hll, hcells⟩ := Cells.of_own hown
      have q1 := hI.boxg.cell 0
      have q2 := hbl.cell 0
      simp at q1 q2
      have q3 := hI.arr.cellv (arrV_get (show k < n + 1 by omega))
      unfold intV at q3
      have q4 := hI.arr.free k
      have hol := opts_len hdl (show k ≤ 400 by omega)
      have hgl : (gotten d (opts d k)).length = (opts d k).length := by simp [gotten]
      have hmx : ∀ W, Below w1.heap.size w1 W → Calls Try.prog 45 #[.slice Al (opts d k).length cl] W fun e w' => e = .returned (.int .i64 (gv d k)) ∧ Below w1.heap.size w1 w' := by
        intro W hW
        have h1 := mex_any Al cl (gotten d (opts d k)) W w1.heap.size hW.size (by omega) (fun x hx => by
          obtain ⟨ps, _, rfl⟩ := List.mem_map.1 hx
          omega) (hcells.below hW)
        rw [hgl] at h1
        refine h1.mono fun e w' ⟨h2, h3⟩ => ⟨?_, hW.trans (h3.mono hW.size)⟩
        rw [h2]
        have : mexS (gotten d (opts d k)) = gv d k := (gv_eq d k).symm
        rw [this]
      have s1 := hI.boxg.lt
      have s2 := hI.arr.lt
      have s3 := hbl.lt
      have ne1 : w.heap.size + 1 ≠ w.heap.size := by omega
      have Hmx := hide hmx
      have HI := hide hI
      clear hmx hI hbl hown hcells hll hgl Hcall
      go_wp2_with fail
      go_region_with (go_at_call 45; refine (Hmx.out _ (below_drewN (Below.refl _ _) 1)).mono ?_; rintro e w2 ⟨rfl, hb2⟩; obtain ⟨hc2, hf2⟩ := bcell hb2; have Hb2 := hide hb2; clear hb2)
      all_goals
        go_wp2_with fail
        go_roundw
        case rel =>
          have hB2 : Only (fun k => w1.heap.size ≤ k) w1 w2 := Only.of_below Hb2.out (fun k _ h => h)
          have hG2 := HI.out.arr.only hB2 (by omega)
          have hG3 := hG2.set_ k (.int .i64 (gv d k))
          rw [arrV_set (n + 1) (intV (gI d k)) (intV (gI d (k + 1))) k _ (by simp [intV, gI]) (fun j _ hj => by
            simp only [intV, gI]
            by_cases h1 : j < k
            · rw [if_pos h1, if_pos (by omega)]
            · rw [if_neg h1, if_neg (by omega)])] at hG3
          refine ⟨k + 1, by omega, by go_num, (HI.out.boxg.only hB2 (by omega)).far (by simp) _, hG3, ?_⟩
          have hb0 : Below w.heap.size w w1 := by
            have h1 : Only (fun i => i = wr.heap.size) wr w1 := by
              have h2 := HI.out.only
              rw [Hw0.out] at h2
              exact ((Only.refl _ wr).alloc _).trans h2
            exact Hbw.out.trans (h1.below_ (fun k hk => by omega) Hbw.out.size)
          exact (hb0.trans (Hb2.out.mono (by omega))).setCell (p := ⟨w.heap.size, k, none⟩) (Nat.le_refl _) _
        case measure => simp [intOf]; omega
    · go_wp2_with fail
      go_ret
      have hke : k = n + 1 := by omega
      subst hke
      refine ⟨⟨_, rfl, ?_⟩, Hbw.out⟩
      have := Cells.of_arr Hga.out
      have he : (List.range (n + 1)).map (intV (gI d (n + 1))) = ints (gInts d (n + 1)) := by
        simp only [ints, gInts, List.map_map]
        apply List.map_congr_left
        intro j hj
        have : j < n + 1 := by simpa using hj
        simp [intV, gI, this]
      rw [← he]; exact this
end Go.Proofs.Ytfoehijlafooaaa
