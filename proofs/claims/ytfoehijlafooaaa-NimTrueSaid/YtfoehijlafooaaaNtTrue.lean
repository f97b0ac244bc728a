/- gamekeep.NimTrue, walked -/
import Derived.Test.YtfoehijlafooaaaNtAfter
import Derived.Test.YtfoehijlafooaaaNimTakings
import Derived.Test.YtfoehijlafooaaaNimGrundyF
import Derived.Test.YtfoehijlafooaaaSameInt
import Derived.Test.YtfoehijlafooaaaNgPlain
namespace Go.Proofs.Ytfoehijlafooaaa
open Go.RowKit

theorem code_03 : CodeOk [48, 46, 51] := by
  refine ⟨by decide, by decide, by decide, fun n hn => ?_⟩
  match n, hn with
  | 0, _ => show 48 ≤ (51 : UInt8).toNat ∧ (51 : UInt8).toNat ≤ 55; decide

theorem grundy_03 (w : World) : Calls Try.prog 25 #[.string { data := #[48, 46, 51] }, .int .i64 5] w fun e w' => (∃ A c, e = .returned (.tuple #[.slice A 6 c, .int .i64 0])) ∧ Below w.heap.size w w' :=
  (grundy_any { data := #[48, 46, 51] } 5 w (by decide)).mono (by
    rintro e w' ⟨hb, ⟨hc, _⟩ | ⟨_, hn, _⟩ | ⟨_, m, hm, _, A, c, rfl, _⟩⟩
    · exact absurd code_03 hc
    · exact absurd (by omega) hn
    · obtain rfl : m = 5 := by omega
      exact ⟨⟨A, c, rfl⟩, hb⟩)

theorem found_next {O : List (List Nat)} {k : Nat} (hlk : k < O.length) {P ps : List Nat} (hP : O[k] = P) (hno : false = true ↔ ps ∈ O.take k) : decide (natsI P = natsI ps) = true ↔ ps ∈ O.take (k + 1) := by
  rw [List.take_succ_eq_append_getElem hlk, hP]
  simp only [decide_eq_true_eq, List.mem_append, List.mem_singleton]
  constructor
  · intro h
    exact .inr ((List.map_inj_right (fun _ _ h => by injection h)).1 h : P = ps).symm
  · rintro (h | h)
    · exact absurd (hno.2 h) (by simp)
    · rw [h]

/-- a world that has grown by blocks of the call's own alone -/
theorem fresh2 (w : World) (o o' : Obj) : Below w.heap.size w ((w.alloc o).alloc o') := below_alloc0 (below_alloc0 (Below.refl _ _) _) _

set_option maxHeartbeats 4000000 in
set_option maxRecDepth 100000 in
/-- where Win answers an error -/
theorem nt_bad (s : ByteArray) (A : Option Addr) (c : Nat) (hs : List Int) (w : World) (hsz : s.size ≤ 9223372036854775807) (hl : hs.length ≤ 9223372036854775807) (hA : Cells w w.heap.size A (ints hs)) (hno : ¬ (CodeOk s.data.toList ∧ HOk hs)) :
    Calls Try.prog 9 #[.string s, .slice A hs.length c] w fun e w' => e = .returned (.bool true) ∧ Below w.heap.size w w' := by
  have Hw := hide fun W (hW : Below w.heap.size w W) => win_any s A c hs W hsz hl ((hA.below hW).more hW.size)
  have Hno := hide hno
  clear hno hA
  go_enter Try.func9, Try.ntmps9
  go_wp2_with fail
  refine (Hw.out _ (fresh2 _ _ _)).mono ?_
  rintro e w1 ⟨hb1, ⟨hc, rfl⟩ | ⟨hc, hh, rfl⟩ | ⟨hc, ns, rfl, h1, h2, _⟩⟩
  case inr.inr => exact absurd ⟨hc, fun x hx => by simp only [natsI, List.mem_map] at hx; obtain ⟨y, hy, rfl⟩ := hx; have := h1 y hy; simp; omega, by rw [natsI_len]; exact h2⟩ Hno.out
  all_goals
    have Hb1 := hide ((fresh2 w _ _).trans (hb1.mono (by simp; omega)))
    clear hb1
    unfold noHeaps
    go_wp2_with fail
    go_ret
    refine ⟨rfl, ?_⟩
    repeat (first | exact Hb1.out | refine below_drew_ ?_ | refine below_alloc0 ?_ _)

set_option maxHeartbeats 4000000 in
set_option maxRecDepth 100000 in
/-- where who is to move wins -/
theorem nt_won (s : ByteArray) (A : Option Addr) (c : Nat) (ns : List Nat) (w : World) (hsz : s.size ≤ 9223372036854775807) (hok : CodeOk s.data.toList) (hns : ∀ x ∈ ns, x ≤ 400) (h20 : ns.length ≤ 20) (hc : ns.length ≤ c) (hcm : c ≤ maxLen)
    (hA : Cells w w.heap.size A (ints (natsI ns))) (hX : xorP (gv (digsOf s.data.toList)) ns ≠ 0) :
    Calls Try.prog 9 #[.string s, .slice A ns.length c] w fun e w' => e = .returned (.bool true) ∧ Below w.heap.size w w' := by
  have Hw := hide fun W (hW : Below w.heap.size w W) => win_any s A c (natsI ns) W hsz (by rw [natsI_len]; omega) ((hA.below hW).more hW.size)
  rw [natsI_len] at Hw
  have HA := hide hA
  have HX := hide hX
  have Hok := hide hok
  have Hns := hide hns
  clear hA hX hok hns
  go_enter Try.func9, Try.ntmps9
  go_wp2_with fail
  refine (Hw.out _ (fresh2 _ _ _)).mono ?_
  rintro e w1 ⟨hb1, ⟨hc, rfl⟩ | ⟨hc, hh, rfl⟩ | ⟨_, ms, hms, _, _, hg⟩⟩
  case inl => exact absurd Hok.out hc
  case inr.inl => exact absurd ⟨fun x hx => by simp only [natsI, List.mem_map] at hx; obtain ⟨y, hy, rfl⟩ := hx; have := Hns.out y hy; simp; omega, by rw [natsI_len]; exact h20⟩ hh
  obtain rfl : ns = ms := (List.map_inj_right (fun a b h => by injection h)).1 hms
  rcases hg with ⟨h0, _⟩ | ⟨_, i, hi, dn, ps, A4, c4, rfl, hc4, hcp, hpre, hz, -, -⟩
  · exact absurd h0 HX.out
  have hmem := hpre.subset (by simp : ps ∈ dn ++ [ps])
  have Hmem := hide hmem
  have Hcp := hide hcp
  have Hz := hide hz
  have Hb1 := hide ((fresh2 w (.cells #[.string s] 9) (.cells #[.slice A ns.length c] 26)).trans (hb1.mono (by simp; omega)))
  have BC := hide (((Blk.new w 9 #[.string s]).alloc (.cells #[.slice A ns.length c] 26)).below hb1 (by simp; omega))
  have BH := hide (show Blk w1 (w.heap.size + 1) 26 #[.slice A ns.length c] by simpa using (Blk.new (w.alloc (.cells #[.string s] 9)) 26 #[.slice A ns.length c]).below hb1 (by simp))
  clear hmem hpre hcp hz hb1 hms
  go_wp2_with fail
  refine (grundy_03 _).mono ?_
  rintro e w2 ⟨⟨A2, c2, rfl⟩, hb2⟩
  have Hb2 := hide ((below_alloc0 Hb1.out (.cells #[.int .i64 i, .slice A4 ps.length c4] 50)).trans (hb2.mono (by have := Hb1.out.size; simp; omega)))
  have b0 := (Blk.new w1 50 #[.int .i64 i, .slice A4 ps.length c4]).below hb2 (by simp)
  have hbx : Below w1.heap.size w1 w2 := (below_alloc0 (Below.refl _ w1) _).trans (hb2.mono (by simp))
  have b1 := BC.out.below hbx BC.out.lt
  have b2 := BH.out.below hbx BH.out.lt
  have y0 := b0.cell 0
  have y1 := b0.cell 1
  have y2 := b1.cell 0
  have y3 := b2.cell 0
  have hi9 : ns[i] ≤ 400 := Hns.out _ (List.getElem_mem hi)
  obtain ⟨b, off, rfl, hbW, hcs⟩ := HA.out (by simp [natsI]; omega)
  have y4 := hcs i (by simp [natsI]; omega)
  simp [ints, natsI] at y0 y1 y2 y3 y4
  obtain ⟨x, hx⟩ : ∃ x, ns[i] = x := ⟨_, rfl⟩
  rw [hx] at y4 hi9
  have y5 : w2.cell? ⟨b, off + i, none⟩ = some (.int .i64 (x : Int)) := (Hb2.out.cell (p := ⟨b, off + i, none⟩) hbW).trans y4
  have BM := hide b0
  have Hx := hide hx
  have k1 : decide ((i : Int) < 0) = false := by simp
  have k2 : decide ((i : Int) ≥ (ns.length : Int)) = false := by simp; omega
  have k3 : (0 : Int) ≤ (i : Int) := by omega
  have k4 : (i : Int) < (ns.length : Int) := by omega
  have Htk := hide fun W => takings_any s x hi9 Hok.out W
  have HB2 := hide hbx
  clear hx b0 b1 b2 hcs y4 hb2 hbx
  go_wp2_with fail
  go_region_held3 (fun w' => w'.cell? ⟨w.heap.size, 0, none⟩ = some (.string s) ∧ w'.cell? ⟨w.heap.size + 1, 0, none⟩ = some (.slice (some ⟨b, off, none⟩) ns.length c) ∧ w'.cell? ⟨w1.heap.size, 0, none⟩ = some (.int .i64 i) ∧ w'.cell? ⟨b, off + i, none⟩ = some (.int .i64 x)) (first | assumption | exact ⟨y2, y3, y0, y5⟩ | exact ⟨z2, z3, z0, z5⟩)
    ((go_at_call 29; refine (Htk.out _).mono ?_; rintro e w3 ⟨⟨v3, rfl, hR3⟩, hb3⟩; have hb := below_undrew hb3; have z0 := (hb.cell (p := ⟨w1.heap.size, 0, none⟩) BM.out.lt).trans y0; have z1 := (hb.cell (p := ⟨w1.heap.size, 1, none⟩) BM.out.lt).trans y1; have z2 := (hb.cell (p := ⟨w.heap.size, 0, none⟩) (Nat.lt_of_lt_of_le BC.out.lt HB2.out.size)).trans y2; have z3 := (hb.cell (p := ⟨w.heap.size + 1, 0, none⟩) (Nat.lt_of_lt_of_le BH.out.lt HB2.out.size)).trans y3; have z5 := (hb.cell (p := ⟨b, off + i, none⟩) (Nat.lt_of_lt_of_le hbW Hb2.out.size)).trans y5; have HB3 := hide hb; have HR3 := hide hR3; have Hcp3 := hide (((Hcp.out.below HB2.out).more HB2.out.size).below hb |>.more hb.size); clear hb hb3 hR3 y0 y1 y2 y3 y5))
  obtain ⟨A3, c3, rfl, hc3, hR3⟩ := HR3.out.rows2
  have HRR := hide hR3
  have hO := opts_len (d := digsOf s.data.toList) (h := x) (code_len Hok.out).2.2 hi9
  obtain ⟨O, hOO⟩ : ∃ O, opts (digsOf s.data.toList) x = O := ⟨_, rfl⟩
  have Hmem2 := hide (show ps ∈ O by rw [← hOO, ← Hx.out]; exact Hmem.out)
  rw [hOO] at hO HRR HR3
  rw [hOO, optRows_len]
  have hpl := opts_parts Hmem.out
  have HOl := hide (show ∀ q ∈ O, q.length ≤ 2 from fun q hq => opts_parts (d := digsOf s.data.toList) (h := x) (by rw [hOO]; exact hq))
  clear hR3 hOO hc3
  go_wp2_with fail
  go_loopw [11, 64] (fun lv idx wr => ∃ (k n : Nat) (lg : Bool), k ≤ O.length ∧ idx = .int .i64 k ∧ lv = .bool lg ∧ (lg = true ↔ ps ∈ O.take k) ∧ wr = w3.drewN n) (fun _ idx _ => O.length - (intOf idx).toNat)
  case atStart => exact ⟨0, 0, false, by omega, rfl, rfl, by simp, rfl⟩
  case round =>
    obtain ⟨k, n, lg, hk, rfl, rfl, hlg, rfl⟩ := hrel
    have Hlg := hide hlg
    clear hlg
    by_cases hlk : k < O.length
    · obtain ⟨b9, o9, rfl, Ak, ck, hck, hc9, hcr⟩ := rows_at HRR.out hlk
      have j1 : (0 : Int) ≤ (k : Int) := by omega
      have j2 : (k : Int) < (O.length : Int) := by omega
      have hl2 : O[k].length ≤ 2 := HOl.out _ (List.getElem_mem hlk)
      obtain ⟨P, hP⟩ : ∃ P, O[k] = P := ⟨_, rfl⟩
      rw [hP] at hck hc9 hcr hl2
      have HP := hide hP
      have Hcr := hide hcr
      clear hP hcr
      cases lg with
      | true =>
        go_wp2_with fail
        go_quiet (fail)
        go_wp2_with fail
        go_roundw
        case rel => exact ⟨k + 1, _, true, by omega, by go_num, rfl, by
          have := Hlg.out.1 trivial
          simp only [true_iff]
          rw [List.take_succ_eq_append_getElem hlk]
          exact List.mem_append.2 (.inl this), rfl⟩
        case measure => simp [intOf]; omega
      | false =>
        have Hsame := hide (fun m => (same_int Ak A4 ck c4 (natsI P) (natsI ps) (w3.drewN (n + m)) _ _ (by rw [natsI_len]; omega) (by rw [natsI_len]; omega) (Hcr.out.keep (fun _ _ => rfl)) (Hcp3.out.keep (fun _ _ => rfl))).mono
          fun e w' h => (⟨h.1, by obtain ⟨q, hq⟩ := h.2; exact ⟨m + q, by rw [hq, World.drewN_drewN, Nat.add_assoc]⟩⟩ : e = .returned (.bool (decide (natsI P = natsI ps))) ∧ ∃ q, w' = w3.drewN (n + q)))
        simp only [natsI_len] at Hsame
        go_wp2_with fail
        go_quiet ((go_at_call 16; exact Hsame.out _))
        go_wp2_with fail
        go_roundw
        case rel => exact ⟨k + 1, _, decide (natsI P = natsI ps), by omega, by go_num, rfl, found_next hlk HP.out Hlg.out, rfl⟩
        case measure => simp [intOf]; omega
    · have hke : k = O.length := by omega
      subst hke
      obtain rfl : lg = true := Hlg.out.2 (by rw [List.take_length]; exact Hmem2.out)
      have BH3 := hide (((BH.out.below HB2.out BH.out.lt).below HB3.out (Nat.lt_of_lt_of_le BH.out.lt HB2.out.size)).drewN n)
      have BC3 := hide (((BC.out.below HB2.out BC.out.lt).below HB3.out (Nat.lt_of_lt_of_le BC.out.lt HB2.out.size)).drewN n)
      have HA3 := hide ((((HA.out.below Hb2.out).more Hb2.out.size).below HB3.out).more HB3.out.size)
      have Haf := hide (after_any s hsz Hok.out ns Hns.out h20 i hi ps Hmem.out (some ⟨b, off, none⟩) c hc hcm A4 c4 (w.heap.size + 1) w.heap.size (w3.drewN n) (HA3.out.keep (fun _ _ => rfl)) (Hcp3.out.keep (fun _ _ => rfl)) BH3.out BC3.out)
      have hxs : xorP (gv (digsOf s.data.toList)) (swapAt ns i ps) = 0 := by rw [swapAt_xor _ _ _ hi]; exact Hz.out
      have Hxs := hide hxs
      have Hb3 := hide (Hb2.out.trans (HB3.out.mono Hb2.out.size))
      clear hxs
      go_wp2_with fail
      refine Haf.out.mono ?_
      rintro e w5 ⟨⟨bw, ew, rfl, ⟨h20', rfl, rfl⟩ | ⟨_, rfl, rfl⟩ | ⟨hne, _, _⟩⟩, hb5⟩
      case inr.inr => exact absurd Hxs.out hne
      all_goals
        have Hb5 := hide (Hb3.out.trans (Below.mono (show Below w3.heap.size w3 w5 from ⟨hb5.os, hb5.tape, hb5.output, hb5.size, hb5.block⟩) Hb3.out.size))
        clear hb5
        go_wp2_with fail
        go_ret
        exact ⟨rfl, Hb5.out⟩
set_option maxHeartbeats 4000000 in
set_option maxRecDepth 100000 in
/-- where who is to move loses -/
theorem nt_lost (s : ByteArray) (A : Option Addr) (c : Nat) (ns : List Nat) (w : World) (hsz : s.size ≤ 9223372036854775807) (hok : CodeOk s.data.toList) (hns : ∀ x ∈ ns, x ≤ 400) (h20 : ns.length ≤ 20) (hc : ns.length ≤ c) (hcm : c ≤ maxLen)
    (hA : Cells w w.heap.size A (ints (natsI ns))) (hX : xorP (gv (digsOf s.data.toList)) ns = 0) :
    Calls Try.prog 9 #[.string s, .slice A ns.length c] w fun e w' => e = .returned (.bool true) ∧ Below w.heap.size w w' := by
  have Hw := hide fun W (hW : Below w.heap.size w W) => win_any s A c (natsI ns) W hsz (by rw [natsI_len]; omega) ((hA.below hW).more hW.size)
  rw [natsI_len] at Hw
  have HA := hide hA
  have HX := hide hX
  have Hok := hide hok
  have Hns := hide hns
  clear hA hX hok hns
  go_enter Try.func9, Try.ntmps9
  go_wp2_with fail
  refine (Hw.out _ (fresh2 _ _ _)).mono ?_
  rintro e w1 ⟨hb1, ⟨hc, rfl⟩ | ⟨hc, hh, rfl⟩ | ⟨_, ms, hms, _, _, hg⟩⟩
  case inl => exact absurd Hok.out hc
  case inr.inl => exact absurd ⟨fun x hx => by simp only [natsI, List.mem_map] at hx; obtain ⟨y, hy, rfl⟩ := hx; have := Hns.out y hy; simp; omega, by rw [natsI_len]; exact h20⟩ hh
  obtain rfl : ns = ms := (List.map_inj_right (fun a b h => by injection h)).1 hms
  rcases hg with ⟨_, rfl⟩ | ⟨h0, _⟩
  case inr => exact absurd HX.out h0
  have Hb1 := hide ((fresh2 w (.cells #[.string s] 9) (.cells #[.slice A ns.length c] 26)).trans (hb1.mono (by simp; omega)))
  have BC := hide (((Blk.new w 9 #[.string s]).alloc (.cells #[.slice A ns.length c] 26)).below hb1 (by simp; omega))
  have BH := hide (show Blk w1 (w.heap.size + 1) 26 #[.slice A ns.length c] by simpa using (Blk.new (w.alloc (.cells #[.string s] 9)) 26 #[.slice A ns.length c]).below hb1 (by simp))
  clear hb1 hms
  unfold noHeaps
  go_wp2_with fail
  refine (grundy_03 _).mono ?_
  rintro e w2 ⟨⟨A2, c2, rfl⟩, hb2⟩
  have Hb2 := hide ((below_alloc0 Hb1.out (.cells #[.int .i64 0, .slice none 0 0] 50)).trans (hb2.mono (by have := Hb1.out.size; simp; omega)))
  have hbx : Below w1.heap.size w1 w2 := (below_alloc0 (Below.refl _ w1) _).trans (hb2.mono (by simp))
  have b1 := BC.out.below hbx BC.out.lt
  have b2 := BH.out.below hbx BH.out.lt
  have y2 := b1.cell 0
  have y3 := b2.cell 0
  simp at y2 y3
  have BC2 := hide b1
  have BH2 := hide b2
  have HA2 := hide ((HA.out.below Hb2.out).more Hb2.out.size)
  clear b1 b2 hb2 hbx
  go_wp2_with fail
  go_loopw [102] (fun idx wr => ∃ k : Nat, k ≤ ns.length ∧ idx = .int .i64 k ∧ Below w2.heap.size w2 wr) (fun idx _ => ns.length - (intOf idx).toNat)
  case atStart => exact ⟨0, by omega, rfl, Below.refl _ _⟩
  case round =>
    clear y2 y3
    obtain ⟨k, hk, rfl, hbr⟩ := hrel
    have Hbr := hide hbr
    have b1 := BC2.out.below hbr BC2.out.lt
    have b2 := BH2.out.below hbr BH2.out.lt
    have y2 := b1.cell 0
    have y3 := b2.cell 0
    simp at y2 y3
    have BCr := hide b1
    have BHr := hide b2
    clear hbr b1 b2
    by_cases hlk : k < ns.length
    · obtain ⟨b, off, rfl, hbW, hcs⟩ := (HA2.out.below Hbr.out) (by simp [natsI]; omega)
      have y5 := hcs k (by simp [natsI]; omega)
      have hi9 : ns[k] ≤ 400 := Hns.out _ (List.getElem_mem hlk)
      simp [ints, natsI] at y5
      obtain ⟨x, hx⟩ : ∃ x, ns[k] = x := ⟨_, rfl⟩
      rw [hx] at y5 hi9
      have Hx := hide hx
      have k3 : (0 : Int) ≤ (k : Int) := by omega
      have k4 : (k : Int) < (ns.length : Int) := by omega
      have Htk := hide fun W => takings_any s x hi9 Hok.out W
      clear hx hcs
      go_wp2_with fail
      go_region_held3 (fun w' => w'.cell? ⟨w.heap.size, 0, none⟩ = some (.string s) ∧ w'.cell? ⟨w.heap.size + 1, 0, none⟩ = some (.slice (some ⟨b, off, none⟩) ns.length c) ∧ w'.cell? ⟨b, off + k, none⟩ = some (.int .i64 x)) (first | assumption | exact ⟨y2, y3, y5⟩ | exact ⟨z2, z3, z5⟩)
        ((go_at_call 29; refine (Htk.out _).mono ?_; rintro e w3 ⟨⟨v3, rfl, hR3⟩, hb3⟩; have hb := below_undrew hb3; have z2 := (hb.cell (p := ⟨w.heap.size, 0, none⟩) BCr.out.lt).trans y2; have z3 := (hb.cell (p := ⟨w.heap.size + 1, 0, none⟩) BHr.out.lt).trans y3; have z5 := (hb.cell (p := ⟨b, off + k, none⟩) (Nat.lt_of_lt_of_le hbW Hbr.out.size)).trans y5; have HB3 := hide hb; have HR3 := hide hR3; clear hb hb3 hR3 y2 y3 y5))
      obtain ⟨A3, c3, rfl, hc3, hR3⟩ := HR3.out.rows2
      have HRR := hide hR3
      have hO := opts_len (d := digsOf s.data.toList) (h := x) (code_len Hok.out).2.2 hi9
      obtain ⟨O, hOO⟩ : ∃ O, opts (digsOf s.data.toList) x = O := ⟨_, rfl⟩
      have HOl := hide (show ∀ q ∈ O, q ∈ opts (digsOf s.data.toList) ns[k] from fun q hq => by rw [Hx.out, hOO]; exact hq)
      rw [hOO] at hO HRR HR3
      rw [hOO, optRows_len]
      clear hR3 hOO hc3 z5
      go_wp2_with fail
      go_loopw [113] (fun idx wr => ∃ q : Nat, q ≤ O.length ∧ idx = .int .i64 q ∧ Below w3.heap.size w3 wr) (fun idx _ => O.length - (intOf idx).toNat)
      case atStart => exact ⟨0, by omega, rfl, Below.refl _ _⟩
      case round =>
        clear z2 z3
        rename World => wq
        obtain ⟨q, hq, rfl, hbq⟩ := hrel
        have Hbq := hide hbq
        clear hbq
        have hb3q := HB3.out.trans (Hbq.out.mono HB3.out.size)
        have BHq := hide (BHr.out.below hb3q BHr.out.lt)
        have BCq := hide (BCr.out.below hb3q BCr.out.lt)
        have HAq := hide ((((HA2.out.below Hbr.out).more Hbr.out.size).below hb3q).more hb3q.size)
        clear hb3q
        by_cases hlq : q < O.length
        · obtain ⟨b9, o9, rfl, Ak, ck, hck, hc9, hcr⟩ := rows_at (HRR.out.below Hbq.out) hlq
          have j1 : (0 : Int) ≤ (q : Int) := by omega
          have j2 : (q : Int) < (O.length : Int) := by omega
          obtain ⟨P, hP⟩ : ∃ P, O[q] = P := ⟨_, rfl⟩
          have hmem : P ∈ opts (digsOf s.data.toList) ns[k] := HOl.out _ (by rw [← hP]; exact List.getElem_mem hlq)
          rw [hP] at hck hc9 hcr
          have Haf := hide (after_any s hsz Hok.out ns Hns.out h20 k hlk P hmem (some ⟨b, off, none⟩) c hc hcm Ak ck (w.heap.size + 1) w.heap.size wq HAq.out (hcr.more Hbq.out.size) BHq.out BCq.out)
          have Hne := hide (lost_moves _ _ HX.out k hlk P hmem)
          clear hP hcr hmem
          go_wp2_with fail
          refine Haf.out.mono ?_
          rintro e w5 ⟨⟨bw, ew, rfl, ⟨h20', rfl, rfl⟩ | ⟨heq, rfl, rfl⟩ | ⟨hne, rfl, rfl⟩⟩, hb5⟩
          case inr.inl => exact absurd heq Hne.out
          all_goals
            have Hb5 := hide (Hbq.out.trans (hb5.mono Hbq.out.size))
            clear hb5
            go_wp2_with fail
            go_roundw
            case rel => exact ⟨q + 1, by omega, by go_num, Hb5.out⟩
            case measure => simp [intOf]; omega
        · go_wp2_with fail
          go_roundw
          case rel => exact ⟨k + 1, by omega, by go_num, Hbr.out.trans ((HB3.out.trans (Hbq.out.mono HB3.out.size)).mono Hbr.out.size)⟩
          case measure => simp [intOf]; omega
    · go_wp2_with fail
      go_ret
      exact ⟨rfl, Hb2.out.trans (Hbr.out.mono Hb2.out.size)⟩

theorem ntrue_any (s : ByteArray) (A : Option Addr) (c : Nat) (hs : List Int) (w : World) (hsz : s.size ≤ 9223372036854775807) (hc : hs.length ≤ c) (hcm : c ≤ maxLen) (hA : Cells w w.heap.size A (ints hs)) :
    Calls Try.prog 9 #[.string s, .slice A hs.length c] w fun e w' => e = .returned (.bool true) ∧ Below w.heap.size w w' := by
  by_cases hg : CodeOk s.data.toList ∧ HOk hs
  · obtain ⟨hok, hh⟩ := hg
    obtain ⟨ns, rfl, hns⟩ := nats_of hh.1
    have h20 := hh.2
    rw [natsI_len] at h20 hc ⊢
    by_cases hX : xorP (gv (digsOf s.data.toList)) ns = 0
    · exact nt_lost s A c ns w hsz hok hns h20 hc hcm hA hX
    · exact nt_won s A c ns w hsz hok hns h20 hc hcm hA hX
  · exact nt_bad s A c hs w hsz (by unfold maxLen at hcm; omega) hA hg
end Go.Proofs.Ytfoehijlafooaaa
