/- nim.Values: what it answers. -/
import Derived.Test.YtfoehijlafooaaaNimValue
namespace Go.Proofs.Ytfoehijlafooaaa
open Go.RowKit

theorem lookS_zero {rows : List (List Int)} (h : lookS rows = 0) : rows.length ≤ 1000 ∧ (∀ j (h : j < rows.length), rows[j].length ≤ 1000) ∧
    (∀ j (h : j < rows.length) m (h2 : m < rows[j].length), 0 ≤ rows[j][m] ∧ rows[j][m] < rows.length) := by
  unfold lookS at h
  split at h
  · cases h
  · rename_i hL
    split at h
    · cases h
    · rename_i hO
      refine ⟨?_, fun j hj => ?_, fun j hj m hm => ?_⟩
      · rcases Nat.lt_or_ge 1000 rows.length with hx | hx
        · exact absurd (.inl hx) hL
        · exact hx
      · rcases Nat.lt_or_ge 1000 rows[j].length with hx | hx
        · exact absurd (.inr ⟨j, hj, hx⟩) hL
        · exact hx
      · by_cases h1 : rows[j][m] < 0 ∨ (rows.length : Int) ≤ rows[j][m]
        · exact absurd ⟨j, hj, m, hm, h1⟩ hO
        · omega

/-- the answer of Values and of ValuesOf -/
def ValAns (rows : List (List Int)) (base : Nat) (w : World) (e : Ending) (w' : World) : Prop :=
  Below w.heap.size w w' ∧ base = w.heap.size ∧
  (if lookS rows = 0 then
    (Acyc rows.length (nxOf rows) ∧ ∃ O, Solved rows.length (nxOf rows) O ∧ (∀ j, j < rows.length → 0 ≤ O j) ∧ ∃ A c, e = .returned (.tuple #[.slice A rows.length c, .int .i64 0]) ∧ rows.length ≤ c ∧ Cells w' w'.heap.size A ((List.range rows.length).map (intV O))) ∨
    (¬ Acyc rows.length (nxOf rows) ∧ e = .returned (.tuple #[.slice none 0 0, .int .i64 7]))
  else e = .returned (.tuple #[.slice none 0 0, .int .i64 (lookS rows)]))

theorem Blk.new' {w : World} {t : TypeId} {cs : Array Value} {g : Nat} (h : g = w.heap.size) : Blk (w.alloc (.cells cs t)) g t cs := by subst h; exact Blk.new w t cs

theorem Cells.of_arr {w : World} {g : Nat} {t : TypeId} {n : Nat} {f : Nat → Value} (h : Blk w g t (arrV n f)) : Cells w w.heap.size (some ⟨g, 0, none⟩) ((List.range n).map f) := fun hn => by
  refine ⟨g, 0, rfl, h.lt, fun k hk => ?_⟩
  simp only [List.length_map, List.length_range] at hk
  rw [h.cell, Nat.zero_add, arrV_get hk]
  simp

set_option maxHeartbeats 1000000 in
set_option maxRecDepth 20000 in
theorem values_any (A : Option Addr) (c : Nat) (rows : List (List Int)) (w : World) (hm : rows.length ≤ 9223372036854775807) (h : Rows2 w w.heap.size A rows) :
    Calls Try.prog 13 #[.slice A rows.length c] w (ValAns rows w.heap.size w) := by
  by_cases h0 : lookS rows = 0
  · obtain ⟨hn, hrl, hin⟩ := lookS_zero h0
    have H0 := hide h0
    obtain ⟨i0, hi, hz0, hz1, hz2⟩ := info_parts info_int
    have hmk := fun W => run_make1 (P := Try.prog) 26 3 i0 (.int .i64 0) Try.underlying26 hi hz0 hz1 rfl .i64 .i64 rows.length (by rw [hz2]; omega) (by omega) W
    clear h0 hi hz0 hz1 hz2
    have hl0 := look_any A c rows (w.alloc (.cells #[.slice A rows.length c] 25)) w.heap.size hm (h.below ((Below.refl _ _).alloc (Nat.le_refl _) _))
    have Hl0 := hide hl0
    have Hin := hide hin
    have Hrl := hide hrl
    have Hh := hide h
    clear hl0 hin hrl h
    go_enter Try.func13, Try.ntmps13
    go_wp2_with fail
    refine Hl0.out.mono ?_
    rintro e w' ⟨rfl, rfl⟩
    rw [H0.out]
    go_wp2_with fail
    go_loopw [23] (fun idx wr => ∃ (k : Nat) (S O : Nat → Int), k ≤ rows.length ∧ idx = .int .i64 k ∧
        VEnv wr w.heap.size rows A c (w.heap.size + 1 + 1 + 1 + 1) w.heap.size (w.heap.size + 1 + 1 + 1 + 1 + 1) (w.heap.size + 1 + 1) (w.heap.size + 1 + 1 + 1) (w.heap.size + 1) S O ∧
        Good rows.length (nxOf rows) S O ∧ (∀ j, j < rows.length → (S j = 0 ∨ S j = 2) ∧ 0 ≤ O j) ∧ (∀ j, j < k → S j = 2) ∧ Below w.heap.size w wr) (fun idx _ => rows.length - (intOf idx).toNat)
    case atStart =>
      refine ⟨0, fun _ => 0, fun _ => 0, by omega, rfl, ⟨?_, ?_, ?_, ?_, ?_, ?_, ?_, by omega, ?_⟩, Good.none_ (fun j _ => by decide), fun j _ => ⟨.inl rfl, Int.le_refl _⟩, by intro j hj; omega, ?_⟩
      · repeat (first | (refine Blk.new' ?_; (simp; done)) | refine Blk.alloc ?_ _)
      · repeat (first | (refine Blk.new' ?_; (simp; done)) | refine Blk.alloc ?_ _)
      · repeat (first | (refine Blk.new' ?_; (simp; done)) | refine Blk.alloc ?_ _)
      · repeat (first | (refine Blk.new' ?_; (simp; done)) | refine Blk.alloc ?_ _)
      · rw [← arrV_replicate rows.length (intV fun _ => 0) (.int .i64 0) (fun j _ => rfl)]; repeat (first | (refine Blk.new' ?_; (simp; done)) | refine Blk.alloc ?_ _)
      · rw [← arrV_replicate rows.length (intV fun _ => 0) (.int .i64 0) (fun j _ => rfl)]; repeat (first | (refine Blk.new' ?_; (simp; done)) | refine Blk.alloc ?_ _)
      · refine Hh.out.below ?_
        exact (((((((Only.refl (fun _ => False) w).alloc _).alloc _).alloc _).alloc _).alloc _).alloc _).below_ (fun _ h => h.elim) (Nat.le_refl _)
      · simp; omega
      · exact (((((((Only.refl (fun _ => False) w).alloc _).alloc _).alloc _).alloc _).alloc _).alloc _).below_ (fun _ h => h.elim) (Nat.le_refl _)
    case round =>
      obtain ⟨k, S, O, hk, rfl, hE, hG, hv, hd, hbw⟩ := hrel
      have r3 := hE.boxV.cell 0
      have r4 := hE.boxO.cell 0
      simp at r3 r4
      have HE := hide hE
      have HG := hide hG
      have Hv := hide hv
      have Hd := hide hd
      have Hbw := hide hbw
      clear hE hG hv hd hbw hmk
      by_cases hlt : k < rows.length
      · go_wp2_with fail
        refine (value_any w.heap.size rows A c _ _ _ _ _ _ hn Hrl.out Hin.out _ S O k wr (Nat.le_refl _) hlt HE.out ⟨HG.out, fun j hj => by have := (Hv.out j hj).1; omega, fun j hj h1 => by have := (Hv.out j hj).1; omega, fun j hj => (Hv.out j hj).2⟩).mono ?_
        rintro e w2 ⟨S2, O2, r, rfl, hE2, hPo, hO2⟩
        have HE2 := hide hE2
        have HPo := hide hPo
        have HO2 := hide hO2
        clear hE2 hPo hO2
        have hb2 : Below w.heap.size w w2 := Hbw.out.trans (HO2.out.below_ (by rintro k (rfl | rfl) <;> omega) Hbw.out.size)
        have Hb2 := hide hb2
        clear hb2
        cases r with
        | false =>
          go_wp2_with fail
          go_ret2
          refine ⟨Hb2.out, rfl, ?_⟩
          rw [if_pos H0.out]
          refine .inr ⟨?_, rfl⟩
          have hp := HPo.out
          simp only [VPost, Bool.false_eq_true, if_false] at hp
          obtain ⟨j, hj, hrp⟩ := hp
          exact cyc_not (nxOf_in Hin.out) hj hrp
        | true =>
          have hp := HPo.out
          simp only [VPost, if_true] at hp
          have Hp := hide hp
          clear hp
          go_wp2_with fail
          go_roundw
          case rel =>
            obtain ⟨h1, h2, h3⟩ := Hp.out
            refine ⟨k + 1, S2, O2, by omega, by go_num, HE2.out, h1, fun j hj => ?_, fun j hj => ?_, Hb2.out⟩
            · obtain ⟨a1, a2, a3, a4, a5⟩ := h2 j hj
              have := (Hv.out j hj).1
              exact ⟨by omega, a5⟩
            · rcases Nat.lt_or_ge j k with hx | hx
              · exact ((h2 j (by omega)).2.2.1 (Hd.out j hx)).1
              · have : j = k := by omega
                subst this; exact h3
          case measure => simp [intOf]; omega
      · go_wp2_with fail
        go_ret2
        have hkk : k = rows.length := by omega
        subst hkk
        refine ⟨Hbw.out, rfl, ?_⟩
        rw [if_pos H0.out]
        obtain ⟨ha, hs⟩ := HG.out.all Hd.out
        exact .inl ⟨ha, O, hs, fun j hj => (Hv.out j hj).2, _, _, rfl, Nat.le_refl _, Cells.of_arr HE.out.arrO⟩
  · have hm2 : ∃ v : Int, lookS rows = v ∧ v ≠ 0 := ⟨_, rfl, h0⟩
    obtain ⟨v, hv, hv0⟩ := hm2
    have hv1 : ((v : Int) == 0) = false := by simpa using hv0
    have hv2 : ((v : Int) != 0) = true := by simpa using hv0
    have Hv := hide hv
    have Hv0 := hide hv0
    have hl0 := look_any A c rows (w.alloc (.cells #[.slice A rows.length c] 25)) w.heap.size hm (h.below ((Below.refl _ _).alloc (Nat.le_refl _) _))
    have Hl0 := hide hl0
    have Hh := hide h
    clear hl0 hv h0 h hv0
    go_enter Try.func13, Try.ntmps13
    go_wp2_with fail
    refine Hl0.out.mono ?_
    rintro e w' ⟨rfl, rfl⟩
    rw [Hv.out]
    go_wp2_with fail
    go_ret2
    exact ⟨(Below.refl _ _).alloc (Nat.le_refl _) _, rfl, by rw [Hv.out, if_neg Hv0.out]; rfl⟩
end Go.Proofs.Ytfoehijlafooaaa
