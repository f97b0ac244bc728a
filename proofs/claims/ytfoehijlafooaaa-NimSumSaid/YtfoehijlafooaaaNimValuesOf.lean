/- gameref.ValuesOf: what it answers. -/
import Derived.Test.YtfoehijlafooaaaNimValues
import Derived.Test.YtfoehijlafooaaaNimGraph
namespace Go.Proofs.Ytfoehijlafooaaa
open Go.RowKit

def boolV (K : Nat → Bool) : Nat → Value := fun j => .bool (K j)
theorem boolV_upd (n : Nat) (f : Nat → Bool) (i : Nat) (v : Bool) : (arrV n (boolV f)).setIfInBounds i (.bool v) = arrV n (boolV (upd f i v)) :=
  arrV_set _ _ _ _ _ (by simp [boolV, upd]) (fun j _ hj => by simp [boolV, upd, hj])
def SofK (K : Nat → Bool) : Nat → Int := fun j => if K j then 2 else 0
theorem SofK_upd (K : Nat → Bool) (i : Nat) : SofK (upd K i true) = upd (SofK K) i 2 := by
  funext j
  by_cases e : j = i
  · subst e; simp [SofK, upd]
  · simp [SofK, upd, e]
def unk (K : Nat → Bool) (n : Nat) : Nat := zeros (SofK K) n
theorem unk_less {K : Nat → Bool} {i n : Nat} (hi : i < n) (hK : K i = false) : unk (upd K i true) n < unk K n := by
  unfold unk; rw [SofK_upd]
  exact zeros_less (by simp [SofK, hK]) (by decide) n hi
theorem zeros_one {S : Nat → Int} {i : Nat} {v : Int} (hi : S i = 0) (hv : v ≠ 0) : ∀ n, i < n → zeros (upd S i v) n + 1 = zeros S n
  | 0, h => by omega
  | n + 1, h => by
    simp only [zeros]
    by_cases e : i = n
    · subst e
      rw [upd_same, if_pos hi, if_neg hv]
      have h1 := zeros_mono (S := S) (S' := upd S i v) i (fun j hj hz => by rw [upd_other _ _ (by omega)] at hz; exact hz)
      have h2 := zeros_mono (S := upd S i v) (S' := S) i (fun j hj hz => by rw [upd_other _ _ (by omega)]; exact hz)
      omega
    · have h1 := zeros_one hi hv n (by omega)
      rw [upd_other _ _ (by omega)]
      omega
theorem unk_one {K : Nat → Bool} {i n : Nat} (hi : i < n) (hK : K i = false) : unk (upd K i true) n + 1 = unk K n := by
  unfold unk; rw [SofK_upd]
  exact zeros_one (by simp [SofK, hK]) (by decide) n hi
theorem zeros_le (S : Nat → Int) : ∀ n, zeros S n ≤ n
  | 0 => Nat.le_refl _
  | n + 1 => by have := zeros_le S n; simp only [zeros]; split <;> omega
theorem zeros_none {S : Nat → Int} : ∀ {n}, zeros S n = 0 → ∀ j, j < n → S j ≠ 0
  | 0, _, j, hj => by omega
  | n + 1, h, j, hj => by
    simp only [zeros] at h
    by_cases e : j = n
    · subst e; intro hz; rw [if_pos hz] at h; omega
    · exact zeros_none (n := n) (by omega) j (by omega)
theorem zeros_some {S : Nat → Int} : ∀ {n}, 0 < zeros S n → ∃ j, j < n ∧ S j = 0
  | 0, h => by simp [zeros] at h
  | n + 1, h => by
    simp only [zeros] at h
    by_cases e : S n = 0
    · exact ⟨n, by omega, e⟩
    · rw [if_neg e] at h
      obtain ⟨j, hj, hz⟩ := zeros_some (n := n) (by omega)
      exact ⟨j, by omega, hz⟩

structure OInv (w0 w : World) (n : Nat) (nx : Nat → List Nat) (K : Nat → Bool) (O : Nat → Int) : Prop where
  arrO : Blk w w0.heap.size 3 (arrV n (intV O))
  arrK : Blk w (w0.heap.size + 1) 4 (arrV n (boolV K))
  bel : Below w0.heap.size w0 w
  good : Good n nx (SofK K) O
  pos : ∀ j, j < n → 0 ≤ O j

theorem OInv.set_ {w0 w : World} {n : Nat} {nx : Nat → List Nat} {K : Nat → Bool} {O : Nat → Int} (h : OInv w0 w n nx K O) {i : Nat} (hK : K i = false) (hk : ∀ k ∈ nx i, K k = true) :
    OInv w0 ((w.setCell ⟨w0.heap.size, i, none⟩ (.int .i64 (mexS ((nx i).map O)))).setCell ⟨w0.heap.size + 1, i, none⟩ (.bool true)) n nx (upd K i true) (upd O i (mexS ((nx i).map O) : Int)) where
  arrO := by rw [← intV_upd]; exact (h.arrO.set_ i _).far (by simp) _
  arrK := by rw [← boolV_upd]; exact (h.arrK.far (p := ⟨w0.heap.size, i, none⟩) (by simp) _).set_ i _
  bel := (h.bel.setCell (p := ⟨w0.heap.size, i, none⟩) (Nat.le_refl _) _).setCell (p := ⟨w0.heap.size + 1, i, none⟩) (Nat.le_succ _) _
  good := by
    rw [SofK_upd]
    exact h.good.finish (by simp [SofK, hK]) (fun k hk' => by simp [SofK, hk k hk'])
  pos := fun j hj => by
    by_cases e : j = i
    · subst e; rw [upd_same]; omega
    · rw [upd_other _ _ e]; exact h.pos j hj

set_option maxHeartbeats 4000000 in
set_option maxRecDepth 100000 in
theorem valuesOf_any (A : Option Addr) (c : Nat) (rows : List (List Int)) (w : World) (hm : rows.length ≤ 9223372036854775807) (hml : ∀ k (h : k < rows.length), rows[k].length ≤ 9223372036854775807) (h : Rows2 w w.heap.size A rows) :
    Calls Try.prog 14 #[.slice A rows.length c] w (ValAns rows w.heap.size w) := by
  have hl0 := graph_any A c rows w w.heap.size hm hml h
  have Hl0 := hide hl0
  have Hh := hide h
  by_cases h0 : lookS rows = 0
  case neg =>
    obtain ⟨v, hv, hv0⟩ : ∃ v : Int, lookS rows = v ∧ v ≠ 0 := ⟨_, rfl, h0⟩
    have hv2 : ((v : Int) != 0) = true := by simpa using hv0
    have Hv := hide hv
    have Hv0 := hide hv0
    clear hl0 hv h0 h hv0 hml
    go_enter Try.func14, Try.ntmps14
    go_wp2_with fail
    refine Hl0.out.mono ?_
    rintro e w' ⟨rfl, rfl⟩
    rw [Hv.out]
    go_wp2_with fail
    go_ret2
    exact ⟨Below.refl _ _, rfl, by rw [Hv.out, if_neg Hv0.out]; rfl⟩
  obtain ⟨hn, hrl, hin⟩ := lookS_zero h0
  have H0 := hide h0
  obtain ⟨i0, hi, hz0, hz1, hz2⟩ := info_parts info_int
  obtain ⟨j0, hj, yz0, yz1, yz2⟩ := info_parts info_bool
  have hmk := fun W => run_make1 (P := Try.prog) 26 3 i0 (.int .i64 0) Try.underlying26 hi hz0 hz1 rfl .i64 .i64 rows.length (by rw [hz2]; omega) (by omega) W
  have hmk2 := fun W => run_make1 (P := Try.prog) 89 4 j0 (.bool false) Try.underlying89 hj yz0 yz1 rfl .i64 .i64 rows.length (by rw [yz2]; omega) (by omega) W
  have Hin := hide hin
  have Hrl := hide hrl
  clear h0 hi hz0 hz1 hz2 hj yz0 yz1 yz2 hl0 hin hrl h hml
  go_enter Try.func14, Try.ntmps14
  go_wp2_with fail
  refine Hl0.out.mono ?_
  rintro e w' ⟨rfl, rfl⟩
  rw [H0.out]
  go_wp2_with fail
  clear hmk hmk2
  go_loopw [7, 8] (fun lf mr wr => ∃ (K : Nat → Bool) (O : Nat → Int) (more : Bool), lf = .int .i64 (unk K rows.length) ∧ mr = .bool more ∧ OInv w wr rows.length (nxOf rows) K O ∧
      (more = false → ∀ j, j < rows.length → K j = false → ∃ k ∈ nxOf rows j, K k = false)) (fun lf mr _ => 2 * (intOf lf).toNat + (match mr with | .bool true => 1 | _ => 0))
  case atStart =>
    refine ⟨fun _ => false, fun _ => 0, true, ?_, rfl, ⟨?_, ?_, ?_, Good.none_ (fun j _ => by simp [SofK]), fun j _ => Int.le_refl _⟩, by simp⟩
    · have : unk (fun _ => false) rows.length = rows.length := by
        have key : ∀ n, zeros (SofK fun _ => false) n = n := by
          intro n
          induction n with
          | zero => rfl
          | succ n ih => simp only [zeros, ih]; rfl
        exact key _
      rw [this]
    · rw [← arrV_replicate rows.length (intV fun _ => 0) (.int .i64 0) (fun j _ => rfl)]; repeat (first | (refine Blk.new' ?_; (simp; done)) | refine Blk.alloc ?_ _)
    · rw [← arrV_replicate rows.length (boolV fun _ => false) (.bool false) (fun j _ => rfl)]; repeat (first | (refine Blk.new' ?_; (simp; done)) | refine Blk.alloc ?_ _)
    · exact (((Only.refl (fun _ => False) w).alloc _).alloc _).below_ (fun _ h => h.elim) (Nat.le_refl _)
  case round =>
    obtain ⟨K0, O0, more, rfl, rfl, hI, hst⟩ := hrel
    have HI := hide hI
    have Hst := hide hst
    have hul := zeros_le (SofK K0) rows.length
    have hul' : unk K0 rows.length ≤ rows.length := hul
    clear hI hst hul
    cases more with
    | false =>
      by_cases hu : unk K0 rows.length = 0
      · have hu' : ¬ (0 < (unk K0 rows.length : Int)) := by omega
        have Hu := hide hu
        clear hu
        go_wp2_with fail
        go_ret2
        refine ⟨HI.out.bel, rfl, ?_⟩
        rw [if_pos H0.out]
        have hall : ∀ j, j < rows.length → SofK K0 j = 2 := fun j hj => by
          have := zeros_none Hu.out j hj
          unfold SofK at this ⊢
          split <;> simp_all
        obtain ⟨ha, hs⟩ := HI.out.good.all hall
        exact .inl ⟨ha, O0, hs, HI.out.pos, _, _, rfl, Nat.le_refl _, Cells.of_arr HI.out.arrO⟩
      · have hu' : (0 < (unk K0 rows.length : Int)) := by omega
        have Hu := hide hu
        clear hu
        go_wp2_with fail
        go_ret2
        refine ⟨HI.out.bel, rfl, ?_⟩
        rw [if_pos H0.out]
        obtain ⟨j, hj, hz⟩ := zeros_some (S := SofK K0) (n := rows.length) (by have := Hu.out; unfold unk at this; omega)
        exact .inr ⟨stuck_not (nxOf_in Hin.out) (Hst.out trivial) hj (by unfold SofK at hz; cases hk : K0 j <;> simp_all), rfl⟩
    | true =>
      obtain ⟨w0, rfl⟩ : ∃ w0 : World, w0 = wr := ⟨_, rfl⟩
      clear Hst
      go_wp2_with fail
      go_loopw [7, 8, 9] (fun lf mr idx wr => ∃ (K : Nat → Bool) (O : Nat → Int) (more : Bool) (i : Nat), i ≤ rows.length ∧ lf = .int .i64 (unk K rows.length) ∧ mr = .bool more ∧ idx = .int .i64 i ∧ OInv w wr rows.length (nxOf rows) K O ∧
          unk K rows.length ≤ unk K0 rows.length ∧ (more = true → unk K rows.length < unk K0 rows.length) ∧
          (more = false → ∀ j, j < i → K j = false → ∃ k ∈ nxOf rows j, K k = false)) (fun _ _ idx _ => rows.length - (intOf idx).toNat)
      case atStart => exact ⟨K0, O0, false, 0, by omega, rfl, rfl, rfl, HI.out, Nat.le_refl _, by simp, fun _ j hj => by omega⟩
      case round =>
        clear HI hul'
        obtain ⟨K, O, more, i, hi, rfl, rfl, rfl, hI, hu1, hu2, hst⟩ := hrel
        have Hu1 := hide hu1
        have Hu2 := hide hu2
        have Hst := hide hst
        have hul := zeros_le (SofK K) rows.length
        have hul' : unk K rows.length ≤ rows.length := hul
        clear hu1 hu2 hst hul
        by_cases hlt : i < rows.length
        · obtain ⟨b1, off1, rfl, hb1, Ak, ck, hle, hcell0, hck0⟩ := Hh.out.at_ hlt
          have hcell := (hI.bel.cell (p := ⟨b1, off1 + i, none⟩) hb1).trans hcell0
          have hck := hck0.below hI.bel
          have hri : rows[i].length ≤ 1000 := Hrl.out i hlt
          have kcell := hI.arrK.cellv (arrV_get hlt)
          have ocell := hI.arrO.cellv (arrV_get hlt)
          have ofree := hI.arrO.free i
          have kfree := hI.arrK.free i
          unfold boolV at kcell
          unfold intV at ocell
          have HI := hide hI
          have Hck := hide hck
          have hget := fun q (hq : q < rows[i].length) => nxOf_get hlt hq
          have Hget := hide hget
          have hnl : (nxOf rows i).length = rows[i].length := nxOf_len hlt
          have Hnl := hide hnl
          clear hcell0 hck0 hck hI hget hnl
          cases hKi : K i with
          | true =>
            rw [hKi] at kcell
            have HKi := hide hKi
            clear hKi
            go_wp2_with fail
            go_loop [10, 11] (fun rd idx => ∃ q : Nat, q ≤ rows[i].length ∧ idx = .int .i64 q ∧ rd = .bool false) (fun _ idx => rows[i].length - (intOf idx).toNat)
            case atStart => exact ⟨0, by omega, rfl, rfl⟩
            case round =>
              obtain ⟨q, hq, rfl, rfl⟩ := hrel
              by_cases hlq : q < rows[i].length
              · go_wp2_with fail
                go_round
                case rel => exact ⟨q + 1, by omega, by go_num, rfl⟩
                case measure => simp [intOf]; omega
              · go_wp2_with fail
                go_roundw
                case rel => exact ⟨K, O, more, i + 1, by omega, rfl, rfl, by go_num, HI.out, Hu1.out, by simpa using Hu2.out, fun hm j hj hKj => by
                  rcases Nat.lt_or_ge j i with hx | hx
                  · exact Hst.out (by simpa using hm) j hx hKj
                  · have : j = i := by omega
                    subst this; rw [HKi.out] at hKj; cases hKj⟩
                case measure => simp [intOf]; omega
          | false =>
            rw [hKi] at kcell
            have HKi := hide hKi
            clear hKi
            go_wp2_with fail
            go_loop [10, 11] (fun rd idx => ∃ (q : Nat) (ready : Bool), q ≤ rows[i].length ∧ idx = .int .i64 q ∧ rd = .bool ready ∧ (ready = true → ∀ p k, p < q → (nxOf rows i)[p]? = some k → K k = true) ∧ (ready = false → ∃ k ∈ nxOf rows i, K k = false)) (fun _ idx => rows[i].length - (intOf idx).toNat)
            case atStart => exact ⟨0, true, by omega, rfl, rfl, fun _ p k hp => by omega, by simp⟩
            case round =>
              obtain ⟨q, ready, hq, rfl, rfl, hr1, hr2⟩ := hrel
              have Hr1 := hide hr1
              have Hr2 := hide hr2
              clear hr1 hr2
              by_cases hlq : q < rows[i].length
              · obtain ⟨b3, off3, rfl, hb3, hc3⟩ := Hck.out.at_ (k := q) (by simpa using hlq)
                rw [ints_get] at hc3
                obtain ⟨kN, hkN⟩ : ∃ kN : Nat, rows[i][q] = kN := ⟨rows[i][q].toNat, by have := Hin.out i hlt q hlq; omega⟩
                have hkn : kN < rows.length := by have := Hin.out i hlt q hlq; omega
                have hg := Hget.out q hlq
                rw [hkN] at hc3 hg
                rw [Int.toNat_natCast] at hg
                have kc := HI.out.arrK.cellv (arrV_get hkn)
                unfold boolV at kc
                have Hg := hide hg
                clear hkN hg
                cases ready with
                | false =>
                  go_wp2_with fail
                  go_round
                  case rel => exact ⟨q + 1, false, by omega, by go_num, rfl, by simp, by simpa using Hr2.out⟩
                  case measure => simp [intOf]; omega
                | true =>
                  cases hKk : K kN with
                  | true =>
                    rw [hKk] at kc
                    have HKk := hide hKk
                    clear hKk
                    go_wp2_with fail
                    go_round
                    case rel => exact ⟨q + 1, true, by omega, by go_num, rfl, fun _ p k hp hpk => by
                      rcases Nat.lt_or_ge p q with hx | hx
                      · exact Hr1.out (by trivial) p k hx hpk
                      · have : p = q := by omega
                        subst this
                        have := Hg.out.symm.trans hpk
                        injection this with this
                        subst this; exact HKk.out, by simp⟩
                    case measure => simp [intOf]; omega
                  | false =>
                    rw [hKk] at kc
                    have HKk := hide hKk
                    clear hKk
                    go_wp2_with fail
                    go_round
                    case rel => exact ⟨q + 1, false, by omega, by go_num, rfl, by simp, fun _ => ⟨kN, List.mem_of_getElem? Hg.out, HKk.out⟩⟩
                    case measure => simp [intOf]; omega
              · cases ready with
                | false =>
                  go_wp2_with fail
                  go_roundw
                  case rel => exact ⟨K, O, more, i + 1, by omega, rfl, rfl, by go_num, HI.out, Hu1.out, by simpa using Hu2.out, fun hm j hj hKj => by
                    rcases Nat.lt_or_ge j i with hx | hx
                    · exact Hst.out (by simpa using hm) j hx hKj
                    · have : j = i := by omega
                      subst this; exact Hr2.out (by trivial)⟩
                  case measure => simp [intOf]; omega
                | true =>
                  have hqe : q = rows[i].length := by omega
                  have hknown : ∀ k ∈ nxOf rows i, K k = true := fun k hk => by
                    obtain ⟨p, hp, hpk⟩ := List.mem_iff_getElem.1 hk
                    exact Hr1.out (by trivial) p k (by have := Hnl.out; omega) (by rw [List.getElem?_eq_getElem hp, hpk])
                  have Hknown := hide hknown
                  have hml : ((nxOf rows i).map O).length = rows[i].length := by rw [List.length_map]; exact Hnl.out
                  have Hml := hide hml
                  clear hknown hqe hml
                  go_wp2_with fail
                  go_loop [12, 13] (fun vv ag => ∃ (v : Nat) (again : Bool), vv = .int .i64 v ∧ ag = .bool again ∧ (∀ u : Nat, u < v → (u : Int) ∈ (nxOf rows i).map O) ∧ (again = false → (v : Int) ∉ (nxOf rows i).map O)) (fun vv ag => 2 * (1001 - (intOf vv).toNat) + (match ag with | .bool true => 1 | _ => 0))
                  case atStart => exact ⟨0, true, rfl, rfl, fun u hu => by omega, by simp⟩
                  case round =>
                    obtain ⟨v, again, rfl, rfl, hv1, hv2⟩ := hrel
                    have hvl := pigeon v _ hv1
                    have hvl2 : v ≤ 1000 := by have := Hml.out; omega
                    have Hv1 := hide hv1
                    have Hv2 := hide hv2
                    clear hv1 hv2 hvl
                    cases again with
                    | false =>
                      have hmex : mexS ((nxOf rows i).map O) = v := mexS_eq ⟨Hv1.out, Hv2.out (by trivial)⟩
                      have Hmex := hide hmex
                      have hone := unk_one hlt HKi.out
                      have Hone := hide hone
                      clear hmex hone
                      go_wp2_with fail
                      go_roundw
                      case rel =>
                        have hI2 := HI.out.set_ HKi.out Hknown.out
                        rw [Hmex.out] at hI2
                        have h1 := Hone.out
                        refine ⟨upd K i true, _, true, i + 1, by omega, ?_, rfl, by go_num, hI2, by have := Hu1.out; omega, fun _ => by have := Hu1.out; omega, by simp⟩
                        exact congrArg (Value.int IntKind.i64) (by omega)
                      case measure => simp [intOf]; omega
                    | true =>
                      go_wp2_with fail
                      go_loop [12, 13, 14] (fun vv ag idx => ∃ (v2 : Nat) (again : Bool) (q : Nat), q ≤ rows[i].length ∧ vv = .int .i64 v2 ∧ ag = .bool again ∧ idx = .int .i64 q ∧ (∀ u : Nat, u < v2 → (u : Int) ∈ (nxOf rows i).map O) ∧
                          (again = false → v2 = v ∧ ∀ p k, p < q → (nxOf rows i)[p]? = some k → O k ≠ (v : Int)) ∧ (again = true → v < v2)) (fun _ _ idx => rows[i].length - (intOf idx).toNat)
                      case atStart => exact ⟨v, false, 0, by omega, rfl, rfl, rfl, Hv1.out, fun _ => ⟨rfl, fun p k hp => by omega⟩, by simp⟩
                      case round =>
                        obtain ⟨v2, ag2, q2, hq2, rfl, rfl, rfl, ha1, ha2, ha3⟩ := hrel
                        have hv2l := pigeon v2 _ ha1
                        have hv2l2 : v2 ≤ 1000 := by have := Hml.out; omega
                        have Ha1 := hide ha1
                        have Ha2 := hide ha2
                        have Ha3 := hide ha3
                        clear ha1 ha2 ha3 hv2l
                        by_cases hlq2 : q2 < rows[i].length
                        · obtain ⟨b3, off3, rfl, hb3, hc3⟩ := Hck.out.at_ (k := q2) (by simpa using hlq2)
                          rw [ints_get] at hc3
                          obtain ⟨kN, hkN⟩ : ∃ kN : Nat, rows[i][q2] = kN := ⟨rows[i][q2].toNat, by have := Hin.out i hlt q2 hlq2; omega⟩
                          have hkn : kN < rows.length := by have := Hin.out i hlt q2 hlq2; omega
                          have hg := Hget.out q2 hlq2
                          rw [hkN] at hc3 hg
                          rw [Int.toNat_natCast] at hg
                          have oc := HI.out.arrO.cellv (arrV_get hkn)
                          unfold intV at oc
                          have Hg := hide hg
                          clear hkN hg
                          by_cases heq : O kN = (v2 : Int)
                          · rw [heq] at oc
                            have Heq := hide heq
                            clear heq
                            go_wp2_with fail
                            go_round
                            case rel => exact ⟨v2 + 1, true, q2 + 1, by omega, by go_num, rfl, by go_num, fun u hu => by
                              rcases Nat.lt_or_ge u v2 with hx | hx
                              · exact Ha1.out u hx
                              · have : u = v2 := by omega
                                subst this
                                exact List.mem_map.2 ⟨kN, List.mem_of_getElem? Hg.out, Heq.out⟩, by simp, fun _ => by
                              cases ag2 with
                              | true => have := Ha3.out (by trivial); omega
                              | false => have := (Ha2.out (by trivial)).1; omega⟩
                            case measure => simp [intOf]; omega
                          · have hne : (O kN == (v2 : Int)) = false := by simpa using heq
                            have Hneq := hide heq
                            clear heq
                            go_wp2_with fail
                            go_round
                            case rel => exact ⟨v2, ag2, q2 + 1, by omega, rfl, rfl, by go_num, Ha1.out, fun hf => by
                              obtain ⟨h1, h2⟩ := Ha2.out (by simpa using hf)
                              refine ⟨h1, fun p k hp hpk => ?_⟩
                              rcases Nat.lt_or_ge p q2 with hx | hx
                              · exact h2 p k hx hpk
                              · have : p = q2 := by omega
                                subst this
                                have := Hg.out.symm.trans hpk
                                injection this with this
                                subst this
                                rw [← h1]; exact Hneq.out, by simpa using Ha3.out⟩
                            case measure => simp [intOf]; omega
                        · go_wp2_with fail
                          go_round
                          case rel => exact ⟨v2, ag2, rfl, rfl, Ha1.out, fun hf => by
                            obtain ⟨h1, h2⟩ := Ha2.out (by simpa using hf)
                            subst h1
                            intro hm
                            obtain ⟨k, hk, hkv⟩ := List.mem_map.1 hm
                            obtain ⟨p, hp, hpk⟩ := List.mem_iff_getElem.1 hk
                            exact h2 p k (by have := Hnl.out; omega) (by rw [List.getElem?_eq_getElem hp, hpk]) hkv⟩
                          case measure =>
                            have hx : ag2 = true → v < v2 := by simpa using Ha3.out
                            have hy : ag2 = false → v2 = v := fun hf => (Ha2.out (by simpa using hf)).1
                            cases ag2 with
                            | true => have := hx rfl; simp [intOf]; omega
                            | false => have := hy rfl; simp [intOf]; omega
        · go_wp2_with fail
          go_roundw
          case rel => exact ⟨K, O, more, rfl, rfl, hI, fun hm j hj => Hst.out (by simpa using hm) j (by omega)⟩
          case measure =>
            have h2 := Hu2.out
            have h1 := Hu1.out
            cases more with
            | true => simp at h2; simp [intOf]; omega
            | false => simp [intOf]; omega
end Go.Proofs.Ytfoehijlafooaaa
