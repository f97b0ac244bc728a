/- nim.Both: two games side by side. -/
import Derived.Test.YtfoehijlafooaaaNimValues
import Derived.Test.YtfoehijlafooaaaOwn
namespace Go.Proofs.Ytfoehijlafooaaa
open Go.RowKit

def rowS (a b : List (List Int)) (i j : Nat) : List Int :=
  ((a[i]?).getD []).map (fun x => x * (b.length : Int) + (j : Int)) ++ ((b[j]?).getD []).map (fun y => (i : Int) * (b.length : Int) + y)
def bothRows (a b : List (List Int)) (m : Nat) : List (List Int) := (List.range m).map fun p => rowS a b (p / b.length) (p % b.length)
def TooLong (a b : List (List Int)) : Prop := ∃ p, p < a.length * b.length ∧ 1000 < (rowS a b (p / b.length) (p % b.length)).length

def BothAns (a b : List (List Int)) (w : World) (e : Ending) (w' : World) : Prop :=
  Below w.heap.size w w' ∧
  (if lookS a ≠ 0 then e = .returned (.tuple #[.slice none 0 0, .int .i64 (lookS a)])
   else if lookS b ≠ 0 then e = .returned (.tuple #[.slice none 0 0, .int .i64 (lookS b)])
   else if 1000 < a.length * b.length then e = .returned (.tuple #[.slice none 0 0, .int .i64 2])
   else (TooLong a b ∧ e = .returned (.tuple #[.slice none 0 0, .int .i64 2])) ∨
     (¬ TooLong a b ∧ ∃ A c, e = .returned (.tuple #[.slice A (a.length * b.length) c, .int .i64 0]) ∧ a.length * b.length ≤ c ∧ Rows2 w' w'.heap.size A (bothRows a b (a.length * b.length))))

theorem info_ints : (Try.prog.info? 26).map (fun i => (i.zero, i.size, i.bytes)) = some (some (.slice none 0 0), 1, 24) := by kernel_rfl

theorem bothRows_len (a b : List (List Int)) (m : Nat) : (bothRows a b m).length = m := by simp [bothRows]
theorem bothRows_succ (a b : List (List Int)) {i j : Nat} (hj : j < b.length) : bothRows a b (i * b.length + j + 1) = bothRows a b (i * b.length + j) ++ [rowS a b i j] := by
  have h1 : (i * b.length + j) / b.length = i := by
    rw [Nat.mul_comm, Nat.mul_add_div (by omega), Nat.div_eq_of_lt hj, Nat.add_zero]
  have h2 : (i * b.length + j) % b.length = j := by
    rw [Nat.mul_comm, Nat.mul_add_mod, Nat.mod_eq_of_lt hj]
  simp [bothRows, List.range_succ, h1, h2]

set_option maxHeartbeats 2000000 in
set_option maxRecDepth 100000 in
theorem both_any (A1 A2 : Option Addr) (c1 c2 : Nat) (a b : List (List Int)) (w : World) (hm1 : a.length ≤ 9223372036854775807) (hm2 : b.length ≤ 9223372036854775807)
    (h1 : Rows2 w w.heap.size A1 a) (h2 : Rows2 w w.heap.size A2 b) :
    Calls Try.prog 15 #[.slice A1 a.length c1, .slice A2 b.length c2] w (BothAns a b w) := by
  by_cases ha : lookS a = 0
  case neg =>
    obtain ⟨v, hv, hv0⟩ : ∃ v : Int, lookS a = v ∧ v ≠ 0 := ⟨_, rfl, ha⟩
    have hv1 : ((v : Int) != 0) = true := by simpa using hv0
    have Hv := hide hv
    have Hv0 := hide hv0
    have H1 := hide h1
    have H2 := hide h2
    clear hv hv0 h1 h2 ha
    go_enter Try.func15, Try.ntmps15
    go_wp2_with fail
    refine (look_any A1 c1 a _ _ hm1 H1.out).mono ?_
    rintro e w' ⟨rfl, rfl⟩
    rw [Hv.out]
    go_wp2_with fail
    go_ret2
    exact ⟨Below.refl _ _, by rw [Hv.out, if_pos Hv0.out]; rfl⟩
  by_cases hb : lookS b = 0
  case neg =>
    obtain ⟨v, hv, hv0⟩ : ∃ v : Int, lookS b = v ∧ v ≠ 0 := ⟨_, rfl, hb⟩
    have hv1 : ((v : Int) != 0) = true := by simpa using hv0
    have Hv := hide hv
    have Hv0 := hide hv0
    have H1 := hide h1
    have H2 := hide h2
    have Ha := hide ha
    clear hv hv0 h1 h2 ha hb
    go_enter Try.func15, Try.ntmps15
    go_wp2_with fail
    refine (look_any A1 c1 a _ _ hm1 H1.out).mono ?_
    rintro e w' ⟨rfl, rfl⟩
    rw [Ha.out]
    go_wp2_with fail
    refine (look_any A2 c2 b _ _ hm2 H2.out).mono ?_
    rintro e w' ⟨rfl, rfl⟩
    rw [Hv.out]
    go_wp2_with fail
    go_ret2
    exact ⟨Below.refl _ _, by rw [Ha.out, Hv.out, if_neg (by simp), if_pos Hv0.out]; rfl⟩
  obtain ⟨hn1, hl1, hi1⟩ := lookS_zero ha
  obtain ⟨hn2, hl2, hi2⟩ := lookS_zero hb
  have hbig : (a.length : Int) * (b.length : Int) ≤ 1000000 := by
    have h : a.length * b.length ≤ 1000 * 1000 := Nat.mul_le_mul hn1 hn2
    rw [← Int.natCast_mul]; omega
  have hbig0 : 0 ≤ (a.length : Int) * (b.length : Int) := by rw [← Int.natCast_mul]; omega
  by_cases hL : 1000 < a.length * b.length
  · have hL' : 1000 < (a.length : Int) * (b.length : Int) := by rw [← Int.natCast_mul]; omega
    have HL := hide hL
    have Ha := hide ha
    have Hb := hide hb
    have H1 := hide h1
    have H2 := hide h2
    clear hL ha hb h1 h2 hl1 hi1 hl2 hi2
    go_enter Try.func15, Try.ntmps15
    go_wp2_with fail
    refine (look_any A1 c1 a _ _ hm1 H1.out).mono ?_
    rintro e w' ⟨rfl, rfl⟩
    rw [Ha.out]
    go_wp2_with fail
    refine (look_any A2 c2 b _ _ hm2 H2.out).mono ?_
    rintro e w' ⟨rfl, rfl⟩
    rw [Hb.out]
    go_wp2_with fail
    go_ret2
    exact ⟨Below.refl _ _, by rw [Ha.out, Hb.out, if_neg (by simp), if_neg (by simp), if_pos HL.out]; rfl⟩
  have hL' : (a.length : Int) * (b.length : Int) ≤ 1000 := by rw [← Int.natCast_mul]; omega
  obtain ⟨i0, hi0, hz0, hz1, hz2⟩ := info_parts info_int
  obtain ⟨s0, si0, sz0, sz1, sz2⟩ := info_parts info_ints
  have HI := hide (And.intro hi0 (And.intro hz0 (And.intro hz1 hz2)))
  have SI := hide (And.intro si0 (And.intro sz0 (And.intro sz1 sz2)))
  have HL := hide hL
  have Ha := hide ha
  have Hb := hide hb
  have H1 := hide h1
  have H2 := hide h2
  have Hi1 := hide hi1
  have Hi2 := hide hi2
  have Hl1 := hide hl1
  have Hl2 := hide hl2
  clear hL ha hb h1 h2 hl1 hi1 hl2 hi2 hi0 hz0 hz1 hz2 si0 sz0 sz1 sz2
  go_enter Try.func15, Try.ntmps15
  go_wp2_with fail
  refine (look_any A1 c1 a _ _ hm1 H1.out).mono ?_
  rintro e w' ⟨rfl, rfl⟩
  rw [Ha.out]
  go_wp2_with fail
  refine (look_any A2 c2 b _ _ hm2 H2.out).mono ?_
  rintro e w' ⟨rfl, rfl⟩
  rw [Hb.out]
  go_wp2_with fail
  go_loopw [8, 34] (fun out idx wr => ∃ i : Nat, i ≤ a.length ∧ idx = .int .i64 i ∧ RowsOwn wr w.heap.size 26 out (bothRows a b (i * b.length)) ∧ Below w.heap.size w wr ∧ (∀ p, p < i * b.length → (rowS a b (p / b.length) (p % b.length)).length ≤ 1000)) (fun _ idx _ => a.length - (intOf idx).toNat)
  case atStart => exact ⟨0, by omega, rfl, by rw [Nat.zero_mul]; exact RowsOwn.nil_ _ _ _, Below.refl _ _, fun p hp => by omega⟩
  case round =>
    obtain ⟨i, hi, rfl, hrow, hbw, hall⟩ := hrel
    have Hrow := hide hrow
    have Hbw := hide hbw
    have Hall := hide hall
    clear hrow hbw hall
    by_cases hlt : i < a.length
    · obtain ⟨b1, off1, rfl, hb1, Ak, ck, hle, hcell, hck⟩ := H1.out.at_ hlt
      have Hck := hide hck
      have hcell' := fun W (hW : Below w.heap.size w W) => (hW.cell (p := ⟨b1, off1 + i, none⟩) hb1).trans hcell
      have Hcell := hide hcell'
      clear hck hcell hcell'
      have hai : a[i].length ≤ 1000 := Hl1.out i hlt
      go_wp2_with fail
      go_loopw [8, 39] (fun out idx wr => ∃ j : Nat, j ≤ b.length ∧ idx = .int .i64 j ∧ RowsOwn wr w.heap.size 26 out (bothRows a b (i * b.length + j)) ∧ Below w.heap.size w wr ∧ (∀ p, p < i * b.length + j → (rowS a b (p / b.length) (p % b.length)).length ≤ 1000)) (fun _ idx _ => b.length - (intOf idx).toNat)
      case atStart => exact ⟨0, by omega, rfl, Hrow.out, Hbw.out, Hall.out⟩
      case round =>
        clear Hrow Hbw Hall
        obtain ⟨j, hj, rfl, hrow, hbw, hall⟩ := hrel
        obtain ⟨w1, rfl⟩ : ∃ w1 : World, w1 = wr := ⟨_, rfl⟩
        have Hrow := hide hrow
        have Hbw := hide hbw
        have Hall := hide hall
        clear hrow hbw hall
        by_cases hltj : j < b.length
        · obtain ⟨b2, off2, rfl, hb2, Bk, dk, hle2, hcell2, hck2⟩ := H2.out.at_ hltj
          have Hck2 := hide hck2
          have hcell2' := fun W (hW : Below w.heap.size w W) => (hW.cell (p := ⟨b2, off2 + j, none⟩) hb2).trans hcell2
          have Hcell2 := hide hcell2'
          clear hck2 hcell2 hcell2'
          have hbj : b[j].length ≤ 1000 := Hl2.out j hltj
          have hc1 := Hcell.out w1 Hbw.out
          have hbsz := Hbw.out.size
          go_wp2_with fail
          go_loopw [11, 47] (fun l idx wr => ∃ q : Nat, q ≤ a[i].length ∧ idx = .int .i64 q ∧ wr.ownsRow w1.heap.size 3 1 l q (ints ((a[i].take q).map (fun x => x * (b.length : Int) + (j : Int)))) ∧ Only (fun k => w1.heap.size ≤ k) w1 wr) (fun _ idx _ => a[i].length - (intOf idx).toNat)
          case atStart => exact ⟨0, by omega, rfl, by simpa [ints] using World.ownsRow_nil _ _ _ _, Only.refl _ _⟩
          case round =>
            clear hc1
            obtain ⟨q, hq, rfl, hown, hO⟩ := hrel
            have Hown := hide hown
            have HO := hide hO
            have hsz := hO.size
            have hbwr : Below w.heap.size w wr := Hbw.out.trans (hO.below_ (fun k hk => by omega) hbsz)
            have Hbwr := hide hbwr
            clear hown hO hbwr
            by_cases hlq : q < a[i].length
            · obtain ⟨b3, off3, rfl, hb3, hc3⟩ := (Hck.out.below Hbwr.out).at_ (k := q) (by simpa using hlq)
              rw [ints_get] at hc3
              have hx := Hi1.out i hlt q hlq
              have hx1 : 0 ≤ a[i][q] * (b.length : Int) := Int.mul_nonneg hx.1 (by omega)
              have hx2 : a[i][q] * (b.length : Int) ≤ (a.length : Int) * (b.length : Int) := Int.mul_le_mul_of_nonneg_right (by omega) (by omega)
              have hap := Hown.out.alloc (.cells #[.int .i64 (a[i][q] * (b.length : Int) + (j : Int))] 3)
              have Hap := hide hap
              clear hap
              go_wp2_with (at_builtin; refine wpList_push1 _ rfl (.tmp 51) (.tmp 58) 26 rfl w1.heap.size 3 i0 (.int .i64 0) 8 Try.underlying26 HI.out.1 HI.out.2.1 HI.out.2.2.1 HI.out.2.2.2 rfl _ q _ rfl Hap.out (.int .i64 (a[i][q] * (b.length : Int) + (j : Int))) wr.heap.size rfl ?h1 rfl ?h2 ?h3 ?h4 ?_)
              case h1 => simp [go_sem]
              case h2 => unfold maxLen; omega
              case h3 => omega
              case h4 => simp; omega
              intro v3 w3 hown3 hO3 hw3
              have Hown3 := hide hown3
              have HO3 := hide hO3
              clear hown3 hO3 hw3
              go_wp2_with fail
              go_roundw
              case rel =>
                refine ⟨q + 1, by omega, by go_num, ?_, HO.out.trans (((Only.refl _ _).alloc _).trans' (HO3.out.mono (S' := fun k => w1.heap.size ≤ k) (fun k _ hk => (Hown.out.lt k hk).1)) (fun k hk h => by omega))⟩
                have hx := Hown3.out
                rw [List.take_succ_eq_append_getElem hlq, List.map_append]
                simpa [ints] using hx
              case measure => simp [intOf]; omega
            · have hqe : q = a[i].length := by omega
              subst hqe
              obtain ⟨w2, rfl⟩ : ∃ w2 : World, w2 = wr := ⟨_, rfl⟩
              have hc2 := Hcell2.out w2 Hbwr.out
              have hal : a[i].take a[i].length = a[i] := List.take_length
              rw [hal] at Hown
              clear hal
              go_wp2_with fail
              go_loopw [11, 66] (fun l idx wr => ∃ q : Nat, q ≤ b[j].length ∧ idx = .int .i64 q ∧ wr.ownsRow w1.heap.size 3 1 l (a[i].length + q) (ints (a[i].map (fun x => x * (b.length : Int) + (j : Int)) ++ (b[j].take q).map (fun y => (i : Int) * (b.length : Int) + y))) ∧ Only (fun k => w1.heap.size ≤ k) w1 wr) (fun _ idx _ => b[j].length - (intOf idx).toNat)
              case atStart => exact ⟨0, by omega, rfl, by simpa using Hown.out, HO.out⟩
              case round =>
                clear hc2 Hown HO Hbwr hsz
                obtain ⟨q, hq, rfl, hown, hO⟩ := hrel
                have Hown := hide hown
                have HO := hide hO
                have hsz := hO.size
                have hbwr : Below w.heap.size w wr := Hbw.out.trans (hO.below_ (fun k hk => by omega) hbsz)
                have Hbwr := hide hbwr
                clear hown hO hbwr
                by_cases hlq : q < b[j].length
                · obtain ⟨b3, off3, rfl, hb3, hc3⟩ := (Hck2.out.below Hbwr.out).at_ (k := q) (by simpa using hlq)
                  rw [ints_get] at hc3
                  have hy := Hi2.out j hltj q hlq
                  have hx1 : 0 ≤ (i : Int) * (b.length : Int) := Int.mul_nonneg (by omega) (by omega)
                  have hx2 : (i : Int) * (b.length : Int) ≤ (a.length : Int) * (b.length : Int) := Int.mul_le_mul_of_nonneg_right (by omega) (by omega)
                  have hap := Hown.out.alloc (.cells #[.int .i64 ((i : Int) * (b.length : Int) + b[j][q])] 3)
                  have Hap := hide hap
                  clear hap
                  go_wp2_with (at_builtin; refine wpList_push1 _ rfl (.tmp 70) (.tmp 77) 26 rfl w1.heap.size 3 i0 (.int .i64 0) 8 Try.underlying26 HI.out.1 HI.out.2.1 HI.out.2.2.1 HI.out.2.2.2 rfl _ (a[i].length + q) _ rfl Hap.out (.int .i64 ((i : Int) * (b.length : Int) + b[j][q])) wr.heap.size rfl ?h1 rfl ?h2 ?h3 ?h4 ?_)
                  case h1 => simp [go_sem]
                  case h2 => unfold maxLen; omega
                  case h3 => omega
                  case h4 => simp; omega
                  intro v3 w3 hown3 hO3 hw3
                  have Hown3 := hide hown3
                  have HO3 := hide hO3
                  clear hown3 hO3 hw3
                  go_wp2_with fail
                  go_roundw
                  case rel =>
                    refine ⟨q + 1, by omega, by go_num, ?_, HO.out.trans (((Only.refl _ _).alloc _).trans' (HO3.out.mono (S' := fun k => w1.heap.size ≤ k) (fun k _ hk => (Hown.out.lt k hk).1)) (fun k hk h => by omega))⟩
                    have hx := Hown3.out
                    rw [List.take_succ_eq_append_getElem hlq, List.map_append]
                    simpa [ints, Nat.add_assoc] using hx
                  case measure => simp [intOf]; omega
                · have hqe : q = b[j].length := by omega
                  subst hqe
                  have hal : b[j].take b[j].length = b[j] := List.take_length
                  rw [hal] at Hown
                  clear hal
                  obtain ⟨xs, hxs, hxl⟩ : ∃ xs : List Int, a[i].map (fun x => x * (b.length : Int) + (j : Int)) ++ b[j].map (fun y => (i : Int) * (b.length : Int) + y) = xs ∧ xs.length = a[i].length + b[j].length := ⟨_, rfl, by simp⟩
                  have hrS : rowS a b i j = xs := by rw [← hxs]; simp [rowS, hlt, hltj]
                  rw [hxs] at Hown
                  have hownL := Hown.out
                  obtain ⟨Al, cl, rfl, hcl, hll, hcells⟩ := Cells.of_own hownL
                  have hlt2 := hownL.lt
                  have HrS := hide hrS
                  have Hcells := hide hcells
                  have HltL := hide hlt2
                  have Hxl := hide hxl
                  clear hxs hxl hrS hownL hcells hll hlt2 Hown
                  by_cases hlong : 1000 < a[i].length + b[j].length
                  · have hlong' : 1000 < (a[i].length : Int) + (b[j].length : Int) := by omega
                    go_wp2_with fail
                    go_ret2
                    refine ⟨Hbwr.out, ?_⟩
                    rw [Ha.out, Hb.out, if_neg (by simp), if_neg (by simp), if_neg HL.out]
                    refine .inl ⟨⟨i * b.length + j, ?_, ?_⟩, rfl⟩
                    · have : (i + 1) * b.length ≤ a.length * b.length := Nat.mul_le_mul_right _ hlt
                      rw [Nat.succ_mul] at this
                      omega
                    · have e1 : (i * b.length + j) / b.length = i := by rw [Nat.mul_comm, Nat.mul_add_div (by omega), Nat.div_eq_of_lt hltj, Nat.add_zero]
                      have e2 : (i * b.length + j) % b.length = j := by rw [Nat.mul_comm, Nat.mul_add_mod, Nat.mod_eq_of_lt hltj]
                      rw [e1, e2, HrS.out, Hxl.out]
                      exact hlong
                  · have hrow2 := Hrow.out.only HO.out (fun k hk => by omega)
                    obtain ⟨vs, hvs, hr⟩ := hrow2
                    have hrl : (bothRows a b (i * b.length + j)).length = i * b.length + j := bothRows_len _ _ _
                    have hap := hvs.alloc (.cells #[.slice Al (a[i].length + b[j].length) cl] 26)
                    have Hap := hide hap
                    have Hvs := hide hvs
                    have Hr := hide hr
                    have Hrl := hide hrl
                    have hmul : (i + 1) * b.length ≤ a.length * b.length := Nat.mul_le_mul_right _ hlt
                    rw [Nat.succ_mul] at hmul
                    have hLn := HL.out
                    clear hap hvs hr hrl
                    go_wp2_with (at_builtin; refine wpList_push1 _ rfl (.tmp 83) (.tmp 85) 25 rfl w.heap.size 26 s0 (.slice none 0 0) 24 Try.underlying25 SI.out.1 SI.out.2.1 SI.out.2.2.1 SI.out.2.2.2 rfl _ _ _ rfl Hap.out (.slice Al (a[i].length + b[j].length) cl) wr.heap.size rfl ?h1 rfl ?h2 ?h3 ?h4 ?_)
                    case h1 => simp [go_sem]
                    case h2 => rw [Hrl.out]; unfold maxLen; omega
                    case h3 => rw [Hrl.out]; omega
                    case h4 => simp; omega
                    intro v3 w3 hown3 hO3 hw3
                    have Hown3 := hide hown3
                    have HO3 := hide hO3
                    have Hw3 := hide hw3
                    clear hown3 hO3 hw3
                    go_wp2_with fail
                    go_roundw
                    case rel =>
                      have hO4 : Only (fun k => Value.ownBlock u8 = some k) wr w3 := ((Only.refl _ _).alloc _).trans HO3.out
                      have hx := RowsOwn.push (w := wr) (w' := w3) (rows := bothRows a b (i * b.length + j)) (v' := v3) (A := Al) (c := cl) (r := xs) (by rw [Hxl.out]; exact hcl) Hcells.out
                        (fun hn ad hA hv => by
                          subst hA
                          have h1 := (HltL.out ad.block rfl).1
                          have h2 := (Hrow.out.choose_spec.1.lt ad.block hv).2
                          omega) Hvs.out Hr.out (by rw [Hxl.out]; exact Hown3.out) hO4 (by
                          rcases Hw3.out with h | h
                          · exact .inl h
                          · exact .inr ⟨_, h, by simp⟩)
                      refine ⟨j + 1, by omega, by go_num, ?_, Hbwr.out.trans (hO4.below_ (fun k hk => (Hvs.out.lt k hk).1) Hbwr.out.size), fun p hp => ?_⟩
                      · rw [show i * b.length + (j + 1) = i * b.length + j + 1 from by omega, bothRows_succ a b hltj, HrS.out]
                        exact hx
                      · rcases Nat.lt_or_ge p (i * b.length + j) with hp1 | hp1
                        · exact Hall.out p hp1
                        · have hpe : p = i * b.length + j := by omega
                          have e1 : (i * b.length + j) / b.length = i := by rw [Nat.mul_comm, Nat.mul_add_div (by omega), Nat.div_eq_of_lt hltj, Nat.add_zero]
                          have e2 : (i * b.length + j) % b.length = j := by rw [Nat.mul_comm, Nat.mul_add_mod, Nat.mod_eq_of_lt hltj]
                          rw [hpe, e1, e2, HrS.out, Hxl.out]
                          omega
                    case measure => simp [intOf]; omega
        · go_wp2_with fail
          go_roundw
          case rel =>
            have hje : j = b.length := by omega
            have he : (i + 1) * b.length = i * b.length + j := by rw [hje, Nat.succ_mul]
            exact ⟨i + 1, by omega, by go_num, by rw [he]; exact Hrow.out, Hbw.out, by rw [he]; exact Hall.out⟩
          case measure => simp [intOf]; omega
    · go_wp2_with fail
      go_ret2
      have : i = a.length := by omega
      subst this
      obtain ⟨A, c, hv, hle, hR⟩ := Hrow.out.rows2
      rw [bothRows_len] at hv hle
      subst hv
      refine ⟨Hbw.out, ?_⟩
      rw [Ha.out, Hb.out, if_neg (by simp), if_neg (by simp), if_neg HL.out]
      exact .inr ⟨fun ⟨p, hp, h⟩ => by have := Hall.out p hp; omega, A, c, rfl, hle, hR⟩
end Go.Proofs.Ytfoehijlafooaaa
