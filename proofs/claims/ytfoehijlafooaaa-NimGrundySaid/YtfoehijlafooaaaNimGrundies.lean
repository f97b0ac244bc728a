/- gameref.Grundies: the worths of heaps of 0 to n. -/
import Derived.Test.YtfoehijlafooaaaNimTakings
import Derived.Test.YtfoehijlafooaaaNimVals2
namespace Go.Proofs.Ytfoehijlafooaaa
open Go.RowKit

theorem gInts_succ (d : List Nat) (m : Nat) : gInts d (m + 1) = gInts d m ++ [(gv d m : Int)] := by simp [gInts, List.range_succ]

set_option maxHeartbeats 4000000 in
set_option maxRecDepth 100000 in
theorem grundies_any (s : ByteArray) (n : Nat) (hn : n ≤ 400) (hs : CodeOk s.data.toList) (w : World) :
    Calls Try.prog 28 #[.string s, .int .i64 n] w fun e w' => (∃ A c, e = .returned (.slice A (n + 1) c) ∧ n + 1 ≤ c ∧ Cells w' w'.heap.size A (ints (gInts (digsOf s.data.toList) (n + 1)))) ∧ Below w.heap.size w w' := by
  obtain ⟨_, _, hd6⟩ := code_len hs
  obtain ⟨D, hD⟩ : ∃ D, digsOf s.data.toList = D := ⟨_, rfl⟩
  have htk := fun (k : Nat) (hk : k ≤ 400) (W : World) => takings_any s k hk hs W
  rw [hD] at hd6 ⊢
  have htk2 : ∀ (k : Nat) (hk : k ≤ 400) (W : World), Calls Try.prog 29 #[.string s, .int .i64 k] W fun e w' => (∃ v, e = .returned v ∧ RowsOwn w' W.heap.size 26 v (optRows (opts D k))) ∧ Below W.heap.size W w' := by
    rw [← hD]; exact htk
  obtain ⟨i0, hi0, hz0, hz1, hz2⟩ := info_parts info_int
  have HX := hide (And.intro hi0 (And.intro hz0 (And.intro hz1 hz2)))
  have Htk := hide htk2
  clear htk htk2 hD hs hi0 hz0 hz1 hz2
  go_enter Try.func28, Try.ntmps28
  go_wp2_with fail
  go_loopw [5, 6] (fun gvv idx wr => ∃ h : Nat, h ≤ n + 1 ∧ idx = .int .i64 h ∧ wr.ownsRow w.heap.size 3 1 gvv h (ints (gInts D h)) ∧ Below w.heap.size w wr) (fun _ idx _ => n + 1 - (intOf idx).toNat)
  case atStart => exact ⟨0, by omega, rfl, World.ownsRow_nil _ _ _ _, Below.refl _ _⟩
  case round =>
    obtain ⟨h, hh, rfl, hown, hbw⟩ := hrel
    have Hown := hide hown
    have Hbw := hide hbw
    have hbsz := hbw.size
    clear hown hbw
    by_cases hlt : h < n + 1
    · go_wp2_with fail
      refine (Htk.out h (by omega) wr).mono ?_
      rintro e w1 ⟨⟨v, rfl, hrow⟩, hb1⟩
      obtain ⟨At, ct, rfl, hct, hR⟩ := hrow.rows2
      have hown1 := ownsRow_only Hown.out (Only.of_below (B := wr.heap.size) (S := fun k => wr.heap.size ≤ k) hb1 (fun k _ h => h)) (fun g hg hx => by have := (Hown.out.lt g hg).2; omega)
      obtain ⟨Ag, cg, hgv, hcg, hgl, hgc⟩ := Cells.of_own hown1
      have HR := hide hR
      have Hgc := hide hgc
      have Hown1 := hide hown1
      have Hb1 := hide hb1
      have Hgv := hide hgv
      have hol := opts_len hd6 (show h ≤ 400 by omega)
      obtain ⟨O, hO⟩ : ∃ O, opts D h = O := ⟨_, rfl⟩
      rw [optRows_len] at hct ⊢
      rw [hO] at hol hct HR ⊢
      have hrow2 : ∀ i (hi : i < (optRows O).length) , (optRows O)[i] = natsI (O[i]'(by rw [optRows_len] at hi; exact hi)) := fun i hi => by simp [optRows]
      have hmem : ∀ i (hi : i < O.length), ∀ x ∈ O[i], x < h := fun i hi => opts_lt (d := D) (by rw [hO]; exact List.getElem_mem hi)
      have hplen : ∀ i (hi : i < O.length), O[i].length ≤ 2 := fun i hi => opts_parts (d := D) (h := h) (by rw [hO]; exact List.getElem_mem hi)
      have hgv2 : mexS (O.map fun ps => ((xorP (gv D) ps : Nat) : Int)) = gv D h := by rw [← hO]; exact (gv_eq D h).symm
      have hg4 : ∀ l : List Nat, (∀ x ∈ l, x < h) → xorP (gv D) l < 4096 := fun l hl => by
        have := xorP_lt (G := gv D) (n := 12) (ps := l) (fun x hx => by have := hl x hx; have := gv_lt (d := D) (h := x) hd6 (by omega); omega)
        omega
      have Hrow2 := hide hrow2
      have Hmem := hide hmem
      have Hplen := hide hplen
      have Hgv2 := hide hgv2
      have Hg4 := hide hg4
      rw [hgv]
      clear hrow hR hgc hown1 hb1 hgv hO hrow2 hmem hplen hgv2 hg4 hgl
      go_wp2_with fail
      go_loop [8, 9] (fun vv ag => ∃ (v : Nat) (again : Bool), vv = .int .i64 v ∧ ag = .bool again ∧ (∀ u : Nat, u < v → (u : Int) ∈ O.map fun ps => ((xorP (gv D) ps : Nat) : Int)) ∧ (again = false → (v : Int) ∉ O.map fun ps => ((xorP (gv D) ps : Nat) : Int))) (fun vv ag => 2 * (3001 - (intOf vv).toNat) + (match ag with | .bool true => 1 | _ => 0))
      case atStart => exact ⟨0, true, rfl, rfl, fun u hu => by omega, by simp⟩
      case round =>
        obtain ⟨v, again, rfl, rfl, hv1, hv2⟩ := hrel
        have hvl := pigeon v _ hv1
        rw [List.length_map] at hvl
        have hvl2 : v ≤ 3000 := by omega
        have Hv1 := hide hv1
        have Hv2 := hide hv2
        clear hv1 hv2 hvl
        cases again with
        | false =>
          have hmex : gv D h = v := by rw [← Hgv2.out]; exact mexS_eq ⟨Hv1.out, Hv2.out (by trivial)⟩
          have Hmex := hide hmex
          have hap := hide (Hown1.out.alloc (.cells #[.int .i64 (v : Int)] 3))
          rw [Hgv.out] at hap
          have Hcn := hide (show (w1.alloc (.cells #[.int .i64 (v : Int)] 3)).cell? ⟨w1.heap.size, 0, none⟩ = some (.int .i64 (v : Int)) by simp [go_sem])
          have hsz1 := Hb1.out.size
          clear hmex
          go_wp2_with (at_builtin; refine wpList_push1 _ rfl (.tmp 54) (.tmp 56) 26 rfl w.heap.size 3 i0 (.int .i64 0) 8 Try.underlying26 HX.out.1 HX.out.2.1 HX.out.2.2.1 HX.out.2.2.2 rfl _ h _ rfl hap.out (.int .i64 (v : Int)) w1.heap.size rfl Hcn.out rfl ?h2 ?h3 ?h4 ?_)
          case h2 => unfold maxLen; omega
          case h3 => omega
          case h4 => first | omega | (simp; omega)
          intro v3 w3 hown3 hO3 hw3
          have Hown3 := hide hown3
          have HO3 := hide hO3
          clear hown3 hO3 hw3
          go_wp2_with fail
          go_roundw
          case rel =>
            have hlt1 := Hown1.out.lt
            rw [Hgv.out] at hlt1
            have hO4 := ((Only.refl (fun k => w.heap.size ≤ k) w1).alloc (.cells #[.int .i64 (v : Int)] 3)).trans' (HO3.out.mono (S' := fun k => w.heap.size ≤ k) (fun k _ hk => (hlt1 k hk).1)) (fun k _ h => h)
            refine ⟨h + 1, by omega, by go_num, ?_, (Hbw.out.trans (Hb1.out.mono hbsz)).trans (hO4.below_ (fun k h => h) (Nat.le_trans hbsz Hb1.out.size))⟩
            have hx := Hown3.out
            rw [gInts_succ, Hmex.out]
            simpa [ints] using hx
          case measure => simp [intOf]; omega
        | true =>
          go_wp2_with fail
          go_loop [8, 9, 10] (fun vv ag idx => ∃ (v2 : Nat) (again : Bool) (q : Nat), q ≤ O.length ∧ vv = .int .i64 v2 ∧ ag = .bool again ∧ idx = .int .i64 q ∧ (∀ u : Nat, u < v2 → (u : Int) ∈ O.map fun ps => ((xorP (gv D) ps : Nat) : Int)) ∧
              (again = false → v2 = v ∧ ∀ p (hp : p < O.length), p < q → xorP (gv D) O[p] ≠ v) ∧ (again = true → v < v2)) (fun _ _ idx => O.length - (intOf idx).toNat)
          case atStart => exact ⟨v, false, 0, by omega, rfl, rfl, rfl, Hv1.out, fun _ => ⟨rfl, fun p _ hp => by omega⟩, by simp⟩
          case round =>
            obtain ⟨v2, ag2, q, hq, rfl, rfl, rfl, ha1, ha2, ha3⟩ := hrel
            have hv2l := pigeon v2 _ ha1
            rw [List.length_map] at hv2l
            have hv2l2 : v2 ≤ 3000 := by omega
            have Ha1 := hide ha1
            have Ha2 := hide ha2
            have Ha3 := hide ha3
            clear ha1 ha2 ha3 hv2l
            by_cases hlq : q < O.length
            · obtain ⟨b2, o2, rfl, _, Ak, ck, hck, hcell2, hcl2⟩ := HR.out.at_ (k := q) (by rw [optRows_len]; exact hlq)
              rw [Hrow2.out q (by rw [optRows_len]; exact hlq)] at hck hcell2 hcl2
              rw [natsI_len] at hck hcell2
              have hm := Hmem.out q hlq
              have hp2 := Hplen.out q hlq
              obtain ⟨ps, hps⟩ : ∃ ps, O[q] = ps := ⟨_, rfl⟩
              rw [hps] at hck hcell2 hcl2 hm hp2
              have Hm := hide hm
              have Hps := hide hps
              have Hcl2 := hide hcl2
              clear hm hps hcl2
              go_wp2_with fail
              go_loop [11, 12] (fun xx idx => ∃ k : Nat, k ≤ ps.length ∧ idx = .int .i64 k ∧ xx = .int .i64 (xorP (gv D) (ps.take k) : Nat)) (fun _ idx => ps.length - (intOf idx).toNat)
              case atStart => exact ⟨0, by omega, rfl, rfl⟩
              case round =>
                obtain ⟨k, hk, rfl, rfl⟩ := hrel
                by_cases hlk : k < ps.length
                · obtain ⟨b3, o3, rfl, _, hc3⟩ := Hcl2.out.at_ (k := k) (by simpa [natsI] using hlk)
                  rw [ints_get] at hc3
                  simp only [natsI, List.getElem_map] at hc3
                  have hx := Hm.out ps[k] (List.getElem_mem hlk)
                  obtain ⟨bg, og, rfl, _, hcg2⟩ := Hgc.out.at_ (k := ps[k]) (by simpa [gInts] using hx)
                  rw [ints_get] at hcg2
                  simp only [gInts, List.getElem_map, List.getElem_range] at hcg2
                  have hxor := xor_nat64 (xorP (gv D) (ps.take k)) (gv D ps[k]) (by have := Hg4.out (ps.take k) (fun x hx => Hm.out x (List.mem_of_mem_take hx)); omega) (by have := gv_lt (d := D) (h := ps[k]) hd6 (by omega); omega)
                  obtain ⟨X, hX⟩ : ∃ X, xorP (gv D) (ps.take k) = X := ⟨_, rfl⟩
                  obtain ⟨Y, hY⟩ : ∃ Y, gv D ps[k] = Y := ⟨_, rfl⟩
                  obtain ⟨x, hxx⟩ : ∃ x, ps[k] = x := ⟨_, rfl⟩
                  have hXY : xorP (gv D) (ps.take (k + 1)) = X ^^^ Y := by rw [List.take_succ_eq_append_getElem hlk, xorP_snoc, hX, hY]
                  rw [hX, hY] at hxor
                  rw [hX]
                  rw [hxx] at hc3 hx hcg2 hY
                  rw [hY] at hcg2
                  have HXY := hide hXY
                  simp only [Int.ofNat_eq_natCast] at hc3
                  clear hX hY hxx hXY
                  go_wp2_with fail
                  go_round
                  case rel => exact ⟨k + 1, by omega, by go_num, by rw [HXY.out]⟩
                  case measure => simp [intOf]; omega
                · have hke : k = ps.length := by omega
                  subst hke
                  rw [List.take_length]
                  obtain ⟨X, hX⟩ : ∃ X, xorP (gv D) ps = X := ⟨_, rfl⟩
                  rw [hX]
                  have HX2 := hide hX
                  clear hX
                  by_cases heq : X = v2
                  · subst heq
                    go_wp2_with fail
                    go_round
                    case rel => exact ⟨X + 1, true, q + 1, by omega, by go_num, rfl, by go_num, fun u hu => by
                      rcases Nat.lt_or_ge u X with hx | hx
                      · exact Ha1.out u hx
                      · have : u = X := by omega
                        subst this
                        exact List.mem_map.2 ⟨O[q], List.getElem_mem hlq, by rw [Hps.out, HX2.out]⟩, by simp, fun _ => by
                      cases ag2 with
                      | true => have := Ha3.out (by trivial); omega
                      | false => have := (Ha2.out (by trivial)).1; omega⟩
                    case measure => simp [intOf]; omega
                  · have hne : ((X : Int) == (v2 : Int)) = false := by simp; omega
                    have Hneq := hide heq
                    clear heq
                    go_wp2_with fail
                    go_round
                    case rel => exact ⟨v2, ag2, q + 1, by omega, rfl, rfl, by go_num, Ha1.out, fun hf => by
                      obtain ⟨h1, h2⟩ := Ha2.out (by simpa using hf)
                      refine ⟨h1, fun p hp hpq => ?_⟩
                      rcases Nat.lt_or_ge p q with hx | hx
                      · exact h2 p hp hx
                      · have : p = q := by omega
                        subst this
                        rw [Hps.out, HX2.out, ← h1]; exact Hneq.out, by simpa using Ha3.out⟩
                    case measure => simp [intOf]; omega
            · go_wp2_with fail
              go_round
              case rel => exact ⟨v2, ag2, rfl, rfl, Ha1.out, fun hf => by
                obtain ⟨h1, h2⟩ := Ha2.out (by simpa using hf)
                subst h1
                intro hm
                obtain ⟨ps, hps, hpv⟩ := List.mem_map.1 hm
                obtain ⟨p, hp, hpk⟩ := List.mem_iff_getElem.1 hps
                have := h2 p hp (by omega)
                rw [hpk] at this
                omega⟩
              case measure =>
                have hx : ag2 = true → v < v2 := by simpa using Ha3.out
                have hy : ag2 = false → v2 = v := fun hf => (Ha2.out (by simpa using hf)).1
                cases ag2 with
                | true => have := hx rfl; simp [intOf]; omega
                | false => have := hy rfl; simp [intOf]; omega
    · go_wp2_with fail
      go_ret
      have hhe : h = n + 1 := by omega
      subst hhe
      obtain ⟨A, c, rfl, hc, _, hcc⟩ := Cells.of_own Hown.out
      exact ⟨⟨A, c, rfl, hc, hcc⟩, Hbw.out⟩
end Go.Proofs.Ytfoehijlafooaaa
