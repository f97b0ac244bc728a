/- gamekeep.NimSum answers true. -/
import Derived.Test.YtfoehijlafooaaaSumPlain
import Derived.Test.YtfoehijlafooaaaLaw
namespace Go.Proofs.Ytfoehijlafooaaa
open Go.RowKit

theorem ofInt_nat (a : Nat) (ha : a < 9223372036854775808) : (BitVec.ofInt 64 (a : Int)).toNat = a := by
  rw [BitVec.ofInt_natCast, BitVec.toNat_ofNat]; exact Nat.mod_eq_of_lt (by omega)
theorem xor_i64 (a b : Nat) (ha : a < 9223372036854775808) (hb : b < 9223372036854775808) : bits .xor .i64 (a : Int) (b : Int) = ((a ^^^ b : Nat) : Int) := by
  have hx : a ^^^ b < 2 ^ 63 := Nat.xor_lt_two_pow (by omega) (by omega)
  show IntKind.i64.wrap ((BitVec.ofInt 64 (a : Int) ^^^ BitVec.ofInt 64 (b : Int)).toNat : Int) = _
  rw [BitVec.toNat_xor, ofInt_nat a ha, ofInt_nat b hb, IntKind.wrap_i64]
  omega

theorem first_look : lookS [[], [0]] = 0 := by
  unfold lookS
  rw [if_neg, if_neg]
  · rintro ⟨k, hk, m, hm, h⟩
    match k, hk, m, hm, h with
    | 1, _, 0, _, h => simp at h
  · rintro (h | ⟨k, hk, h⟩)
    · simp at h
    · match k, hk, h with
      | 0, _, h => simp at h
      | 1, _, h => simp at h
theorem first_acyc : Acyc 2 (nxOf [[], [0]]) := ⟨id, fun j hj k hk => by
  match j, hj, hk with
  | 0, _, hk => simp [nxOf] at hk
  | 1, _, hk => simp [nxOf] at hk; subst hk; decide⟩
theorem mex_nil : mexS [] = 0 := mexS_eq ⟨fun k hk => by omega, by simp⟩
theorem mex_zero : mexS [0] = 1 := by
  refine mexS_eq ⟨fun k hk => ?_, by simp⟩
  have : k = 0 := by omega
  subst this; simp
theorem first_solved : SolvedPos 2 (nxOf [[], [0]]) (fun j => (j : Int)) := ⟨fun j hj => by
  match j, hj with
  | 0, _ => simp [nxOf, mex_nil]
  | 1, _ => simp [nxOf, mex_zero], fun j _ => by simp⟩
theorem valsL_of {rows : List (List Int)} {O : Nat → Int} (h0 : lookS rows = 0) (ha : Acyc rows.length (nxOf rows)) (hs : SolvedPos rows.length (nxOf rows) O) : valsL rows = (List.range rows.length).map O ∧ valsE rows = 0 := by
  have h3 : lookS rows = 0 ∧ Acyc rows.length (nxOf rows) ∧ ∃ O, SolvedPos rows.length (nxOf rows) O := ⟨h0, ha, O, hs⟩
  refine ⟨?_, by unfold valsE; rw [if_neg (by simp [h0]), if_pos ha]⟩
  unfold valsL; rw [dif_pos h3]
  apply List.map_congr_left
  intro j hj
  exact solved_uniq (nxOf_in (lookS_zero h0).2.2) ha (Classical.choose_spec h3.2.2).1 hs.1 j (by simpa using hj)

theorem first_vals : valsL [[], [0]] = [0, 1] ∧ valsE [[], [0]] = 0 := valsL_of first_look first_acyc first_solved

theorem pos_nat {n : Nat} {nx : Nat → List Nat} {O : Nat → Int} (hin : Inside n nx) (h : SolvedPos n nx O) : Solved n nx (fun i => ((O i).toNat : Int)) := by
  intro j hj
  have h1 := h.1 j hj
  have h2 : (nx j).map (fun i => ((O i).toNat : Int)) = (nx j).map O := List.map_congr_left fun k hk => by have := h.2 k (hin j hj k hk); omega
  rw [h2, ← h1]
  have := h.2 j hj
  show ((O j).toNat : Int) = O j
  omega

theorem solved_bound {rows : List (List Int)} {O : Nat → Int} (h0 : lookS rows = 0) (h : SolvedPos rows.length (nxOf rows) O) (j : Nat) (hj : j < rows.length) : 0 ≤ O j ∧ O j ≤ 1000 := by
  have h1 := h.1 j hj
  have h2 := mexS_le ((nxOf rows j).map O)
  rw [List.length_map, nxOf_len hj] at h2
  have := (lookS_zero h0).2.1 j hj
  have := h.2 j hj
  omega

theorem first_rows (w : World) : Rows2 (((w.alloc (.cells #[.int .i64 0] 3)).alloc (.cells #[.slice none 0 0, .slice (some ⟨w.heap.size, 0, none⟩) 1 1] 26))) (w.heap.size + 2) (some ⟨w.heap.size + 1, 0, none⟩) [[], [0]] := by
  have h1 : Blk ((w.alloc (.cells #[.int .i64 0] 3)).alloc (.cells #[.slice none 0 0, .slice (some ⟨w.heap.size, 0, none⟩) 1 1] 26)) (w.heap.size + 1) 26 #[.slice none 0 0, .slice (some ⟨w.heap.size, 0, none⟩) 1 1] := Blk.new' (by simp)
  have h2 : Blk ((w.alloc (.cells #[.int .i64 0] 3)).alloc (.cells #[.slice none 0 0, .slice (some ⟨w.heap.size, 0, none⟩) 1 1] 26)) w.heap.size 3 #[.int .i64 0] := (Blk.new _ _ _).alloc _
  refine ⟨[.slice none 0 0, .slice (some ⟨w.heap.size, 0, none⟩) 1 1], rfl, fun _ => ⟨_, 0, rfl, by omega, fun k hk => ?_⟩, fun k hk => ?_⟩
  · rw [h1.cell]
    match k, hk with
    | 0, _ => rfl
    | 1, _ => rfl
  · match k, hk with
    | 0, _ => exact ⟨none, 0, by simp, rfl, Cells.nil_⟩
    | 1, _ => exact ⟨_, 1, by simp, rfl, fun _ => ⟨_, 0, rfl, by omega, fun k hk => by
        rw [h2.cell]
        match k, hk with
        | 0, _ => rfl⟩⟩

set_option maxHeartbeats 4000000 in
set_option maxRecDepth 100000 in
theorem nimSum_any (A1 A2 : Option Addr) (c1 c2 : Nat) (a b : List (List Int)) (w : World) (hm1 : a.length ≤ 9223372036854775807) (hm2 : b.length ≤ 9223372036854775807)
    (h1 : Rows2 w w.heap.size A1 a) (h2 : Rows2 w w.heap.size A2 b) :
    Calls Try.prog 5 #[.slice A1 a.length c1, .slice A2 b.length c2] w fun e w' => e = .returned (.bool true) ∧ Below w.heap.size w w' := by
  have H1 := hide h1
  have H2 := hide h2
  have Hf := hide (first_rows w)
  clear h1 h2
  go_enter Try.func5, Try.ntmps5
  go_wp2_with fail
  refine (values_any (some ⟨w.heap.size + 1, 0, none⟩) 2 [[], [0]] _ (by simp) (by simpa using Hf.out)).mono ?_
  intro e w1 he
  obtain ⟨⟨A3, c3, rfl, hc3, hcl3, hbw1⟩, -⟩ := Vals.of he
  rw [first_vals.1] at hcl3 ⊢
  rw [first_vals.2]
  obtain ⟨b3, o3, rfl, _, hcell3⟩ := hcl3.at_ (k := 1) (by simp)
  rw [ints_get] at hcell3
  have hb0 : Below w.heap.size w w1 := (((Only.refl (fun _ => False) w).alloc _).alloc _ |>.below_ (fun _ h => h.elim) (Nat.le_refl _)).trans (hbw1.mono (by simp; omega))
  have Hb0 := hide hb0
  have H3 := hide ((H1.out.below hb0).more hb0.size)
  have H4 := hide ((H2.out.below hb0).more hb0.size)
  clear he hcl3 hbw1 hb0 Hf H1 H2
  simp only [List.length_cons, List.length_nil] at hcell3 ⊢
  go_wp2_with fail
  refine (values_any A1 c1 a w1 (by omega) H3.out).mono ?_
  intro e w2 he
  obtain ⟨⟨A4, c4, rfl, hc4, hcl4, hbw2⟩, hsa⟩ := Vals.of he
  have Hcl4 := hide hcl4
  have Hbw2 := hide hbw2
  have Hsa := hide hsa
  have H5 := hide ((H3.out.below hbw2).more hbw2.size)
  have H6 := hide ((H4.out.below hbw2).more hbw2.size)
  clear he hcl4 hbw2 H3 H4 hcell3 hsa
  go_wp2_with fail
  refine (values_any A2 c2 b w2 (by omega) H6.out).mono ?_
  intro e w3 he
  obtain ⟨⟨A5, c5, rfl, hc5, hcl5, hbw3⟩, hsb⟩ := Vals.of he
  have Hcl5 := hide hcl5
  have Hbw3 := hide hbw3
  have Hsb := hide hsb
  have H7 := hide ((H5.out.below hbw3).more hbw3.size)
  have H8 := hide ((H6.out.below hbw3).more hbw3.size)
  clear he hcl5 hbw3 H5 H6 hsb
  go_wp2_with fail
  refine (both_any A1 A2 c1 c2 a b w3 (by omega) (by omega) H7.out H8.out).mono ?_
  intro e w4 he
  obtain ⟨A6, c6, rfl, hc6, hR6, hbw4⟩ := BothP.of he
  have HR6 := hide hR6
  have Hbw4 := hide hbw4
  have hall : Below w.heap.size w w4 := ((Hb0.out.trans (Hbw2.out.mono Hb0.out.size)).trans (Hbw3.out.mono (Nat.le_trans Hb0.out.size Hbw2.out.size))).trans (hbw4.mono (Nat.le_trans (Nat.le_trans Hb0.out.size Hbw2.out.size) Hbw3.out.size))
  have Hall := hide hall
  clear he hR6 hbw4 hall
  by_cases ea : valsE a = 0
  case neg =>
    have ea1 : (valsE a != 0) = true := by simpa using ea
    clear ea
    go_wp2_with fail
    go_ret
    exact ⟨rfl, Hall.out⟩
  by_cases eb : valsE b = 0
  case neg =>
    have eb1 : (valsE b != 0) = true := by simpa using eb
    have Ea := hide ea
    rw [ea]
    clear eb ea
    go_wp2_with fail
    go_ret
    exact ⟨rfl, Hall.out⟩
  by_cases ec : bothE a b = 0
  case neg =>
    have ec1 : (bothE a b != 0) = true := by simpa using ec
    rw [ea, eb]
    clear ec ea eb
    go_wp2_with fail
    go_ret
    exact ⟨rfl, Hall.out⟩
  obtain ⟨ha0, haA, Oa, hOa, hLa⟩ := vals_facts ea (fun h => by
    by_cases h0 : lookS a = 0
    · exact Hsa.out h0 h
    · unfold valsE at ea; rw [if_pos h0] at ea; exact absurd ea h0)
  obtain ⟨hb0, hbA, Ob, hOb, hLb⟩ := vals_facts eb (fun h => by
    by_cases h0 : lookS b = 0
    · exact Hsb.out h0 h
    · unfold valsE at eb; rw [if_pos h0] at eb; exact absurd eb h0)
  have hc : ¬ 1000 < a.length * b.length ∧ ¬ TooLong a b := by
    unfold bothE at ec
    rw [if_neg (by simp [ha0]), if_neg (by simp [hb0])] at ec
    split at ec
    · cases ec
    · rename_i hx
      split at ec
      · cases ec
      · rename_i hy; exact ⟨hx, hy⟩
  have hLc : bothL a b = bothRows a b (a.length * b.length) := by unfold bothL; rw [if_pos ec]
  have hlook := both_look ha0 hb0 hc.1 hc.2
  have hac := both_acyc ha0 hb0 haA hbA
  have hsol := both_solved ha0 hb0 (pos_nat (nxOf_in (lookS_zero ha0).2.2) hOa) (pos_nat (nxOf_in (lookS_zero hb0).2.2) hOb)
  have hz := valsL_of (rows := bothRows a b (a.length * b.length)) hlook (by rw [bothRows_len]; exact hac) (by rw [bothRows_len]; exact ⟨hsol, fun j _ => by omega⟩)
  rw [bothRows_len] at hz
  have hna := (lookS_zero ha0).1
  have hnb := (lookS_zero hb0).1
  have hboundA := fun j hj => solved_bound ha0 hOa j hj
  have hboundB := fun j hj => solved_bound hb0 hOb j hj
  have HbA := hide hboundA
  have HbB := hide hboundB
  have Hc := hide hc
  have Hz := hide hz
  rw [ea, eb, ec, hLc] 
  rw [hLc] at HR6 hc6
  rw [hLa, hLb]
  rw [hLa] at Hcl4 hc4
  rw [hLb] at Hcl5 hc5
  rw [bothRows_len] at hc6 ⊢
  simp only [List.length_map, List.length_range] at hc4 hc5 ⊢
  have hprod : ((a.length * b.length : Nat) : Int) = (a.length : Int) * (b.length : Int) := Int.natCast_mul _ _
  have Hprod := hide hprod
  clear ha0 haA hOa hLa hb0 hbA hOb hLb hc hLc hlook hac hsol hz hboundA hboundB ea eb ec hprod Hsa Hsb
  go_wp2_with fail
  have hx := values_any A6 c6 (bothRows a b (a.length * b.length)) w4 (by rw [bothRows_len]; have := Hc.out.1; omega) HR6.out
  rw [bothRows_len] at hx
  refine hx.mono ?_
  intro e w5 he
  have he2 := Vals.of he
  obtain ⟨⟨A7, c7, rfl, hc7, hcl7, hbw5⟩, -⟩ := he2
  rw [Hz.out.1] at hcl7 hc7 ⊢
  rw [Hz.out.2]
  simp only [List.length_map, List.length_range] at hc7 ⊢
  have Hcl7 := hide hcl7
  have Hbw5 := hide hbw5
  have Hall2 := hide (Hall.out.trans (hbw5.mono Hall.out.size))
  have Hcl8 := hide (((Hcl4.out.below Hbw3.out).below (Hbw4.out.mono Hbw3.out.size)).below (hbw5.mono (Nat.le_trans Hbw3.out.size Hbw4.out.size)))
  have Hcl9 := hide ((Hcl5.out.below Hbw4.out).below (hbw5.mono Hbw4.out.size))
  clear he hcl7 hbw5 hx
  have hN : a.length * b.length ≤ 1000 := by have := Hc.out.1; omega
  have hNi : (a.length : Int) * (b.length : Int) ≤ 1000 := by rw [← Hprod.out]; omega
  have hNi0 : 0 ≤ (a.length : Int) * (b.length : Int) := by rw [← Hprod.out]; omega
  go_wp2_with fail
  go_loopw [79] (fun idx wr => ∃ k n : Nat, k ≤ a.length * b.length ∧ idx = .int .i64 k ∧ wr = w5.drewN n) (fun idx _ => a.length * b.length - (intOf idx).toNat)
  case atStart => exact ⟨0, 0, by omega, rfl, rfl⟩
  case round =>
    obtain ⟨k, n, hk, rfl, hwr⟩ := hrel
    have Hdr := hide (show Below w5.heap.size w5 wr by rw [hwr]; exact below_drewN (Below.refl _ _) n)
    have Hwr := hide hwr
    clear hwr
    have hk0 : (k : Int) ≤ (a.length : Int) * (b.length : Int) := by rw [← Hprod.out]; omega
    by_cases hlt : k < a.length * b.length
    · have hk1 : (k : Int) < (a.length : Int) * (b.length : Int) := by rw [← Hprod.out]; omega
      have hbp := pos_of hlt
      have hi := div_lt_of hlt
      have hj : k % b.length < b.length := Nat.mod_lt _ hbp
      obtain ⟨b7, o7, rfl, _, hc7'⟩ := (Hcl7.out.below Hdr.out).at_ (k := k) (by simpa using hlt)
      obtain ⟨b8, o8, rfl, _, hc8'⟩ := (Hcl8.out.below (Hdr.out.mono (Nat.le_trans (Nat.le_trans Hbw3.out.size Hbw4.out.size) Hbw5.out.size))).at_ (k := k / b.length) (by simpa using hi)
      obtain ⟨b9, o9, rfl, _, hc9'⟩ := (Hcl9.out.below (Hdr.out.mono (Nat.le_trans Hbw4.out.size Hbw5.out.size))).at_ (k := k % b.length) (by simpa using hj)
      rw [ints_get] at hc7' hc8' hc9'
      simp only [List.getElem_map, List.getElem_range] at hc7' hc8' hc9'
      have hA := HbA.out _ hi
      have hB := HbB.out _ hj
      obtain ⟨X, hX, hX2⟩ : ∃ X : Nat, Oa (k / b.length) = X ∧ (Oa (k / b.length)).toNat = X := ⟨_, by omega, rfl⟩
      obtain ⟨Y, hY, hY2⟩ : ∃ Y : Nat, Ob (k % b.length) = Y ∧ (Ob (k % b.length)).toNat = Y := ⟨_, by omega, rfl⟩
      rw [hX2, hY2] at hc7'
      rw [hX] at hc8' hA
      rw [hY] at hc9' hB
      have hxor := xor_i64 X Y (by omega) (by omega)
      have hq0 : 0 ≤ (k : Int) / (b.length : Int) := Int.ediv_nonneg (by omega) (by omega)
      have hq1 : (k : Int) / (b.length : Int) ≤ 1000 := by
        have : (k : Int) / (b.length : Int) = ((k / b.length : Nat) : Int) := rfl
        omega
      have hq2 : (k : Int) / (b.length : Int) < (a.length : Int) := by
        have : (k : Int) / (b.length : Int) = ((k / b.length : Nat) : Int) := rfl
        omega
      have hr0 : 0 ≤ (k : Int) % (b.length : Int) := Int.emod_nonneg _ (by omega)
      have hr1 : (k : Int) % (b.length : Int) < (b.length : Int) := Int.emod_lt_of_pos _ (by omega)
      clear hX hY hX2 hY2 hA hB
      go_wp2_with fail
      go_quiet (fail)
      go_wp2_with fail
      go_roundw
      case rel => exact ⟨k + 1, _, by omega, by go_num, by rw [Hwr.out, World.drewN_drewN]⟩
      case measure => simp [intOf]; omega
    · have hk1 : ¬ ((k : Int) < (a.length : Int) * (b.length : Int)) := by rw [← Hprod.out]; omega
      go_wp2_with fail
      go_ret
      exact ⟨rfl, by rw [Hwr.out]; exact below_drewN Hall2.out _⟩
end Go.Proofs.Ytfoehijlafooaaa
