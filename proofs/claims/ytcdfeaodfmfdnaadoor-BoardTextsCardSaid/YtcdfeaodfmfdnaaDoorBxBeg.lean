/- gameref.begins: walked. -/
import Derived.Test.YtcdfeaodfmfdnaaDoorBxSplit
import Derived.Deep.CutRange
namespace Go.Proofs.YtcdfeaodfmfdnaaDoor
open Go.RowKit

theorem byteAt_mem {s : ByteArray} {k : Nat} (hk : k < s.size) : s.data.toList[k]'(by simpa using hk) = s[k] := by simp; rfl
def BegOut (s : ByteArray) (W : World) (e : Ending) (w' : World) : Prop := ∃ may whole, e = .returned (.tuple #[.bool may, .bool whole]) ∧ BegP (splitL 32 s.data.toList) may whole ∧ Only (fun _ => False) W w'
theorem no_rows {P : List (List UInt8)} (h : ¬ RowsP P (splitL 47 (P.headD []))) : ¬ MayP P := fun h2 => h h2.1
set_option maxHeartbeats 16000000 in
set_option maxRecDepth 100000 in
theorem begins_any (s : ByteArray) (W : World) (hs : s.size < 4294967281) (hm : MaxAt W) :
    Calls Tryd.prog 27 #[.string s] W (BegOut s W) := by
  have H1 := hide (split_any 32 s W hs hm)
  go_enter Tryd.func27, Tryd.ntmps27
  go_upto_region 2 with (go_at_call 28; refine H1.out.mono ?_; rintro e w1 ⟨np, hnp, rfl, hp, ho1, hsz1⟩; have Hnp := hide hnp; clear hnp)
  have hm1 := hm.only ho1
  have hpl : ∀ a ∈ splitL 32 s.data.toList, a.length ≤ s.size := fun a ha => by have := splitL_mem ha; simpa using this
  obtain ⟨P, hP⟩ : ∃ P, splitL 32 s.data.toList = P := ⟨_, rfl⟩
  have hne : P ≠ [] := by rw [← hP]; exact splitL_ne _ _
  have HPe := hide hP
  rw [hP] at Hnp hp hpl
  have hnp0 : 0 < np := by rw [Hnp.out]; exact List.length_pos_iff.2 hne
  have c0 := hp.cellD (i := 0) (by rw [← Hnp.out]; exact hnp0)
  have hq0 : (P.getD 0 []).length ≤ s.size := hpl _ (getD_mem (by rw [← Hnp.out]; exact hnp0))
  have H0 := hide (headD_getD P)
  obtain ⟨q0, hq0e⟩ : ∃ q0, P.getD 0 [] = q0 := ⟨_, rfl⟩
  rw [hq0e] at c0 hq0 H0
  have hnpi : (0 : Int) < (np : Int) := by omega
  have H2 := hide (split_any 47 (bytes q0) w1 (by rw [size_bytes]; omega) hm1)
  rw [bytes_list] at H2
  have HO1 := hide ho1
  have HP1 := hide hp
  have Hpl := hide hpl
  clear hP hp ho1 hpl hq0e
  go_upto_region 3 with (go_at_call 28; refine H2.out.mono ?_; rintro e w2 ⟨nr, hnr, rfl, hr, ho2, hsz2⟩; have Hnr := hide hnr; clear hnr)
  have hrl : ∀ a ∈ splitL 47 q0, a.length ≤ s.size := fun a ha => Nat.le_trans (splitL_mem ha) hq0
  have hrw : ∀ w, wid (splitL 47 q0) = w → True := fun _ _ => trivial
  obtain ⟨R, hR⟩ : ∃ R, splitL 47 q0 = R := ⟨_, rfl⟩
  have hrne : R ≠ [] := by rw [← hR]; exact splitL_ne _ _
  have HR := hide (show splitL 47 (P.headD []) = R from by rw [H0.out]; exact hR)
  rw [hR] at Hnr hr hrl
  have hnr0 : 0 < nr := by rw [Hnr.out]; exact List.length_pos_iff.2 hrne
  have hnri : (0 : Int) < (nr : Int) := by omega
  have HO2 := hide (HO1.out.trans ho2)
  have HM2 := hide (hm1.only ho2)
  have HP2 := hide (show RowsAt w2 W.heap.size P from Blk.only HP1.out ho2 (fun h => h))
  have HR2 := hide hr
  have Hrl := hide hrl
  rw [hsz1] at HR2
  clear hR hr hrl hrw HO1 HP1 ho2 c0 hm1 H1 H2 hsz1 hsz2 H0
  obtain ⟨lb, hlb⟩ : ∃ lb, decide (1 < np) = lb := ⟨_, rfl⟩
  have tl : decide ((1 : Int) < (np : Int)) = lb := by rw [← hlb, Bool.eq_iff_iff]; simp; omega
  have Hlb := hide hlb
  go_upto_region 4 with (fail)
  have Hno : ∀ (v : Nat), v = 0 → ¬ MayP P → BegP P false false := fun _ _ h => beg_no h
  clear Hno
  by_cases h8 : nr ≤ 8
  case neg =>
    have t1 : decide ((8 : Int) < (nr : Int)) = true := by simp; omega
    have t1n : decide (8 < nr) = true := by simp; omega
    have hnot : ¬ MayP P := no_rows (fun h => by rw [HR.out] at h; have := h.1; rw [← Hnr.out] at this; omega)
    go_wp2_with fail
    go_ret2
    exact ⟨false, false, rfl, by rw [HPe.out]; exact beg_no hnot, HO2.out⟩
  have t1 : decide ((8 : Int) < (nr : Int)) = false := by simp; omega
  have t1n : decide (8 < nr) = false := by simp; omega
  by_cases h3 : np ≤ 3
  case neg =>
    have t2 : decide ((3 : Int) < (np : Int)) = true := by simp; omega
    have t2n : decide (3 < np) = true := by simp; omega
    have hnot : ¬ MayP P := no_rows (fun h => by have := h.2.1; rw [← Hnp.out] at this; omega)
    go_wp2_with fail
    go_ret2
    exact ⟨false, false, rfl, by rw [HPe.out]; exact beg_no hnot, HO2.out⟩
  have t2 : decide ((3 : Int) < (np : Int)) = false := by simp; omega
  have t2n : decide (3 < np) = false := by simp; omega
  go_upto_region 6 with (fail)
  clear t1 t1n t2 t2n tl hlb
  have HB2 := hide (BegW.mk HO2.out HM2.out HP2.out HR2.out)
  obtain ⟨z, hz⟩ : ∃ z, bytes (R.getD 0 []) = z := ⟨_, rfl⟩
  have Hz := hide hz
  have Hzw := hide (show wid R = z.size from by rw [← hz, size_bytes, wid, headD_getD])
  have hzs : z.size ≤ s.size := by rw [← hz, size_bytes]; exact Hrl.out _ (getD_mem (by rw [← Hnr.out]; exact hnr0))
  clear hz HO2 HM2 HP2 HR2
  go_wp2_with fail
  go_loopw [7] (fun iv wr => ∃ i : Nat, i ≤ nr ∧ iv = .int .i64 (i : Int) ∧ BegW W P R wr ∧ ∀ j (h : j < R.length), j < i → RowFine R (lb || decide (j + 1 < nr)) R[j]) (fun iv _ => nr - (intOf iv).toNat)
  case atStart => exact ⟨0, by omega, rfl, HB2.out, fun j _ h => by omega⟩
  case round =>
    rename World => wr
    obtain ⟨i, hi, rfl, hbw, hall⟩ := hrel
    have Hall := hide hall
    have HB := hide hbw
    clear hall hbw HB2
    by_cases hil : i < nr
    · have hiR : i < R.length := by rw [← Hnr.out]; exact hil
      have t1 : decide ((i : Int) < (nr : Int)) = true := by simp; omega
      have t1n : decide (i < nr) = true := by simp; omega
      obtain ⟨sa, hsa⟩ : ∃ sa, bytes (R.getD i []) = sa := ⟨_, rfl⟩
      have Hsa := hide (show R[i] = sa.data.toList from by rw [← hsa, bytes_list, List.getD, List.getElem?_eq_getElem hiR]; rfl)
      have has : sa.size ≤ s.size := by rw [← hsa, size_bytes]; exact Hrl.out _ (getD_mem hiR)
      have Hc := hide (fun (w : World) (h : BegW W P R w) => (show w.cell? ⟨W.heap.size + 1, i, none⟩ = some (.string sa) ∧ w.cell? ⟨W.heap.size + 1, 0, none⟩ = some (.string z) from ⟨by rw [h.r.cellD hiR, hsa], by rw [h.r.cellD (i := 0) (by rw [← Hnr.out]; exact hnr0), Hz.out]⟩))
      obtain ⟨fb, hfb⟩ : ∃ fb, (lb || decide (i + 1 < nr)) = fb := ⟨_, rfl⟩
      have Hfb := hide (show (decide (1 < P.length) || decide (i + 1 < R.length)) = fb from by rw [← Hnp.out, ← Hnr.out, Hlb.out]; exact hfb)
      have Hfb2 := hide hfb
      clear hsa
      go_upto_region 9 with (fail)
      go_cut [8] from 31 to 115 (fun x w' => x = .bool fb ∧ ∃ n, w' = wr.drewN n)
      case first =>
        have tw : IntKind.i64.wrap ((nr : Int) - 1) = (nr : Int) - 1 := IntWalk.i64_in _ (by omega)
        have td : decide ((i : Int) < (nr : Int) - 1) = decide (i + 1 < nr) := by rw [Bool.eq_iff_iff]; simp; omega
        cases lb
        · rw [Bool.false_or] at hfb
          rw [hfb] at td
          go_wp2_with fail
          go_meet
          case rel => exact ⟨rfl, 0, rfl⟩
        · rw [Bool.true_or] at hfb
          subst hfb
          go_wp2_with fail
          go_meet
          case rel => exact ⟨rfl, 0, rfl⟩
      case rest =>
        obtain ⟨rfl, n, rfl⟩ := hcut
        have HBn := hide (HB.out.drewN n)
        obtain ⟨wr, hwr⟩ : ∃ w, wr.drewN n = w := ⟨_, rfl⟩
        rw [hwr] at HBn ⊢
        clear hwr HB hfb
        have hi0 : (0 : Int) ≤ (i : Int) := by omega
        have hi1 : (i : Int) < (nr : Int) := by omega
        obtain ⟨bd, hbd⟩ : ∃ bd, badRow sa.size z.size fb = bd := ⟨_, rfl⟩
        have Hbd := hide hbd
        have hsa9 : (sa.size : Int) < 4294967281 := by omega
        have hz9 : (z.size : Int) < 4294967281 := by omega
        go_upto_region 10 with (fail)
        go_cut [88] from 31 to 115 (fun x w' => x = .bool bd ∧ ∃ n, w' = wr.drewN n)
        case first =>
          obtain ⟨ci, cz⟩ := Hc.out _ HBn.out
          by_cases k1 : 8 < sa.size
          · have d1 : decide ((8 : Int) < (sa.size : Int)) = true := by simp; omega
            have d1n : decide (8 < sa.size) = true := by simp; omega
            obtain rfl : true = bd := by rw [← hbd]; exact (badRow_iff.2 (.inl k1)).symm
            clear hbd
            go_quiet (fail)
            go_wp2_with fail
            go_meet
            case rel => exact ⟨rfl, _, rfl⟩
          have d1 : decide ((8 : Int) < (sa.size : Int)) = false := by simp; omega
          have d1n : decide (8 < sa.size) = false := by simp; omega
          by_cases k2 : z.size < sa.size
          · have d2 : decide ((z.size : Int) < (sa.size : Int)) = true := by simp; omega
            have d2n : decide (z.size < sa.size) = true := by simp; omega
            obtain rfl : true = bd := by rw [← hbd]; exact (badRow_iff.2 (.inr (.inl k2))).symm
            clear hbd
            go_quiet (fail)
            go_wp2_with fail
            go_meet
            case rel => exact ⟨rfl, _, rfl⟩
          have d2 : decide ((z.size : Int) < (sa.size : Int)) = false := by simp; omega
          have d2n : decide (z.size < sa.size) = false := by simp; omega
          cases fb
          · obtain rfl : false = bd := by
              rw [← hbd]
              exact (Bool.eq_false_iff.2 fun h => by rcases badRow_iff.1 h with h | h | ⟨h, _⟩ | ⟨h, _⟩ <;> first | omega | cases h).symm
            clear hbd
            go_quiet (fail)
            go_wp2_with fail
            go_meet
            case rel => exact ⟨rfl, _, rfl⟩
          by_cases k3 : sa.size = z.size
          · have d3 : ((sa.size : Int) != (z.size : Int)) = false := by simp; omega
            have d3n : (sa.size != z.size) = false := by simp; omega
            by_cases k4 : sa.size = 0
            · have d4 : ((sa.size : Int) == 0) = true := by rw [k4]; rfl
              have d4n : (sa.size == 0) = true := by rw [k4]; rfl
              obtain rfl : true = bd := by rw [← hbd]; exact (badRow_iff.2 (.inr (.inr (.inr ⟨rfl, k4⟩)))).symm
              clear hbd k4 k3
              go_quiet (fail)
              go_wp2_with fail
              go_meet
              case rel => exact ⟨rfl, _, rfl⟩
            · have d4 : ((sa.size : Int) == 0) = false := by rw [beq_eq_false_iff_ne]; omega
              have d4n : (sa.size == 0) = false := by rw [beq_eq_false_iff_ne]; omega
              obtain rfl : false = bd := by
                rw [← hbd]
                exact (Bool.eq_false_iff.2 fun h => by rcases badRow_iff.1 h with h | h | ⟨_, h⟩ | ⟨_, h⟩ <;> omega).symm
              clear hbd k4 k3
              go_quiet (fail)
              go_wp2_with fail
              go_meet
              case rel => exact ⟨rfl, _, rfl⟩
          · have d3 : ((sa.size : Int) != (z.size : Int)) = true := by simp; omega
            have d3n : (sa.size != z.size) = true := by simp; omega
            obtain rfl : true = bd := by rw [← hbd]; exact (badRow_iff.2 (.inr (.inr (.inl ⟨rfl, k3⟩)))).symm
            clear hbd k3
            go_quiet (fail)
            go_wp2_with fail
            go_meet
            case rel => exact ⟨rfl, _, rfl⟩
        case rest =>
          obtain ⟨rfl, n, rfl⟩ := hcut
          have HB3 := hide (HBn.out.drewN n)
          obtain ⟨wq, hwq⟩ : ∃ w, wr.drewN n = w := ⟨_, rfl⟩
          rw [hwq] at HB3 ⊢
          clear hwq HBn hbd
          cases bd
          case true =>
            have hnot : ¬ MayP P := not_fine HR.out hiR Hfb.out (by rw [Hsa.out]; exact badRow_t Hzw.out Hbd.out)
            go_wp2_with fail
            go_ret2
            exact ⟨false, false, rfl, by rw [HPe.out]; exact beg_no hnot, HB3.out.o⟩
          case false =>
            go_wp2_with fail
            go_loopw [9] (fun kv wx => ∃ k : Nat, k ≤ sa.size ∧ kv = .int .i64 (k : Int) ∧ BegW W P R wx ∧ ∀ j (h : j < sa.size), j < k → cellB sa[j].toNat = true) (fun kv _ => sa.size - (intOf kv).toNat)
            case atStart => exact ⟨0, by omega, rfl, HB3.out, fun j _ h => by omega⟩
            case round =>
              rename World => wx
              obtain ⟨k, hk, rfl, hbx, hcl⟩ := hrel
              have Hcl := hide hcl
              have HBx := hide hbx
              clear hbx hcl HB3
              obtain ⟨ci, cz⟩ := Hc.out _ HBx.out
              by_cases hkl : k < sa.size
              · have k0 : (0 : Int) ≤ (k : Int) := by omega
                have k1 : (k : Int) < (sa.size : Int) := by omega
                have d1 : decide ((k : Int) < (sa.size : Int)) = true := by simp; omega
                have d1n : decide (k < sa.size) = true := by simp; omega
                obtain ⟨c, hc⟩ : ∃ c, sa[k].toNat = c := ⟨_, rfl⟩
                have Hc2 := hide (show ∀ b, cellB c = b → cellB sa[k].toNat = b from fun b h => by rw [hc]; exact h)
                go_upto_region 16 with (fail)
                have k2 : (k : Int) < 9223372036854775807 := by omega
                by_cases e46 : c = 46
                · have d2 : ((c : Int) != 46) = false := by simp; omega
                  have d2n : (c != 46) = false := by simp; omega
                  have Hcb := hide (show cellB c = true from by rw [e46]; rfl)
                  clear e46
                  go_wp2_with (first | (go_at_call 30; refine (big_any c _).mono ?_; rintro e wy ⟨rfl, rfl⟩) | (go_at_call 31; refine (small_any c _).mono ?_; rintro e wy ⟨rfl, rfl⟩))
                  go_roundw
                  case rel => exact ⟨k + 1, by omega, by go_num, HBx.out, fun j h1 h2 => by
                    rcases Nat.lt_or_eq_of_le (Nat.le_of_lt_succ h2) with h3 | rfl
                    · exact Hcl.out j h1 h3
                    · exact Hc2.out _ Hcb.out⟩
                  case measure => simp [intOf]; omega
                have d2 : ((c : Int) != 46) = true := by simp; omega
                have d2n : (c != 46) = true := by simp; omega
                cases hu : upB c
                case true =>
                  have Hcb := hide (show cellB c = true from by simp [cellB, hu])
                  go_wp2_with (first | (go_at_call 30; refine (big_any c _).mono ?_; rintro e wy ⟨rfl, rfl⟩) | (go_at_call 31; refine (small_any c _).mono ?_; rintro e wy ⟨rfl, rfl⟩))
                  go_roundw
                  case rel => exact ⟨k + 1, by omega, by go_num, HBx.out, fun j h1 h2 => by
                    rcases Nat.lt_or_eq_of_le (Nat.le_of_lt_succ h2) with h3 | rfl
                    · exact Hcl.out j h1 h3
                    · exact Hc2.out _ Hcb.out⟩
                  case measure => simp [intOf]; omega
                case false =>
                  cases hl : lowB c
                  case true =>
                    have Hcb := hide (show cellB c = true from by simp [cellB, hl])
                    go_wp2_with (first | (go_at_call 30; refine (big_any c _).mono ?_; rintro e wy ⟨rfl, rfl⟩) | (go_at_call 31; refine (small_any c _).mono ?_; rintro e wy ⟨rfl, rfl⟩))
                    go_roundw
                    case rel => exact ⟨k + 1, by omega, by go_num, HBx.out, fun j h1 h2 => by
                      rcases Nat.lt_or_eq_of_le (Nat.le_of_lt_succ h2) with h3 | rfl
                      · exact Hcl.out j h1 h3
                      · exact Hc2.out _ Hcb.out⟩
                    case measure => simp [intOf]; omega
                  case false =>
                    have Hcb := hide (show cellB c = false from by simp [cellB, hu, hl, e46])
                    have hnot : ¬ MayP P := not_fine HR.out hiR Hfb.out (by
                      rw [Hsa.out]
                      intro h2
                      have h3 := h2.cells sa[k] (by rw [← byteAt_mem hkl]; exact List.getElem_mem _)
                      rw [Hc2.out _ Hcb.out] at h3
                      cases h3)
                    go_wp2_with (first | (go_at_call 30; refine (big_any c _).mono ?_; rintro e wy ⟨rfl, rfl⟩) | (go_at_call 31; refine (small_any c _).mono ?_; rintro e wy ⟨rfl, rfl⟩))
                    go_ret2
                    exact ⟨false, false, rfl, by rw [HPe.out]; exact beg_no hnot, HBx.out.o⟩
              · obtain rfl : k = sa.size := by omega
                have d1 : decide ((sa.size : Int) < (sa.size : Int)) = false := by simp
                have hrow : RowFine R fb R[i] := by
                  rw [Hsa.out]
                  refine badRow_f Hzw.out Hbd.out (fun c hc => ?_)
                  obtain ⟨j, hj, rfl⟩ := List.getElem_of_mem hc
                  have hj' : j < sa.size := by simpa using hj
                  rw [byteAt_mem hj']
                  exact Hcl.out j hj' hj'
                have Hrow := hide hrow
                clear hrow
                go_wp2_with fail
                go_roundw
                case rel => exact ⟨i + 1, by omega, by go_num, HBx.out, fun j h1 h2 => by
                  rcases Nat.lt_or_eq_of_le (Nat.le_of_lt_succ h2) with h3 | rfl
                  · exact Hall.out j h1 h3
                  · rw [Hfb2.out]; exact Hrow.out⟩
                case measure => simp [intOf]; omega
    · obtain rfl : i = nr := by omega
      have t1 : decide ((i : Int) < (i : Int)) = false := by simp
      have hrows : RowsP P R := ⟨by rw [← Hnr.out]; exact h8, by rw [← Hnp.out]; exact h3, fun j h => by
        have := Hall.out j h (by rw [Hnr.out]; exact h)
        rw [← Hnp.out, ← Hnr.out, Hlb.out]
        exact this⟩
      have Hrows := hide (show RowsP P (splitL 47 (P.headD [])) from by rw [HR.out]; exact hrows)
      clear hrows
      go_upto_region 18 with (fail)
      by_cases h2 : np < 2
      · have d1 : decide ((np : Int) < 2) = true := by simp; omega
        have d1n : decide (np < 2) = true := by simp; omega
        have hmay : MayP P := ⟨Hrows.out, fun h => by rw [← Hnp.out] at h; omega⟩
        have hb := beg_may hmay (by rw [← Hnp.out]; omega)
        go_wp2_with fail
        go_ret2
        exact ⟨true, false, rfl, by rw [HPe.out]; exact hb, HB.out.o⟩
      have d1 : decide ((np : Int) < 2) = false := by simp; omega
      have d1n : decide (np < 2) = false := by simp; omega
      have n1 : (1 : Int) < (np : Int) := by omega
      obtain ⟨sb, hsb⟩ : ∃ sb, bytes (P.getD 1 []) = sb := ⟨_, rfl⟩
      have c1 := HB.out.p.cellD (i := 1) (by rw [← Hnp.out]; omega)
      rw [hsb] at c1
      have Hsb := hide hsb
      clear hsb
      go_upto_region 20 with (fail)
      have Hst := hide (show sb.toList = P.getD 1 [] from by rw [← Hsb.out, Go.ByteArray.toList_eq, bytes_list])
      obtain ⟨bt, hbt⟩ : ∃ bt : Bool, (bt = true ↔ ¬ TurnP P) := by
        by_cases h : TurnP P
        · exact ⟨false, by simp [h]⟩
        · exact ⟨true, by simp [h]⟩
      have Hbt := hide hbt
      clear hbt d1 d1n t1
      go_cut [139] (fun x w' => x = .bool bt ∧ w' = wr)
      case first =>
        by_cases e1 : sb.toList = [119]
        · have q1 : (sb.toList == [119]) = true := by rw [e1]; rfl
          have hb : bt = false := Bool.eq_false_iff.2 fun h => Hbt.out.1 h (.inl (by rw [← Hst.out, e1]))
          clear e1
          subst hb
          go_wp2_with fail
          go_meet
          case rel => exact ⟨rfl, rfl⟩
        have q1 : (sb.toList == [119]) = false := by rw [beq_eq_false_iff_ne]; exact e1
        by_cases e2 : sb.toList = [98]
        · have q2 : (sb.toList == [98]) = true := by rw [e2]; rfl
          have hb : bt = false := Bool.eq_false_iff.2 fun h => Hbt.out.1 h (.inr (.inl (by rw [← Hst.out, e2])))
          clear e2 e1
          subst hb
          go_wp2_with fail
          go_meet
          case rel => exact ⟨rfl, rfl⟩
        have q2 : (sb.toList == [98]) = false := by rw [beq_eq_false_iff_ne]; exact e2
        by_cases e3 : sb.toList = []
        · have q3 : sb.toList.isEmpty = true := by rw [e3]; rfl
          by_cases hn2 : np ≤ 2
          · have d2 : decide ((2 : Int) < (np : Int)) = false := by simp; omega
            have d2n : decide (2 < np) = false := by simp; omega
            have hb : bt = false := Bool.eq_false_iff.2 fun h => Hbt.out.1 h (.inr (.inr ⟨by rw [← Hst.out, e3], by rw [← Hnp.out]; exact hn2⟩))
            clear e3 e2 e1
            subst hb
            go_wp2_with fail
            go_meet
            case rel => exact ⟨rfl, rfl⟩
          · have d2 : decide ((2 : Int) < (np : Int)) = true := by simp; omega
            have d2n : decide (2 < np) = true := by simp; omega
            have hb : bt = true := Hbt.out.2 (fun h => by
              rw [TurnP, ← Hst.out, ← Hnp.out] at h
              rcases h with h | h | ⟨_, h⟩
              · exact e1 h
              · exact e2 h
              · exact hn2 h)
            clear e3 e2 e1
            subst hb
            go_wp2_with fail
            go_meet
            case rel => exact ⟨rfl, rfl⟩
        · have q3 : sb.toList.isEmpty = false := by cases h : sb.toList with | nil => exact absurd h e3 | cons a l => rfl
          have hb : bt = true := Hbt.out.2 (fun h => by
            rw [TurnP, ← Hst.out, ← Hnp.out] at h
            rcases h with h | h | ⟨h, _⟩
            · exact e1 h
            · exact e2 h
            · exact e3 h)
          clear e3 e2 e1
          subst hb
          go_wp2_with fail
          go_meet
          case rel => exact ⟨rfl, rfl⟩
      case rest =>
        obtain ⟨rfl, rfl⟩ := hcut
        rename World => wr
        have h2' : 2 ≤ P.length := by rw [← Hnp.out]; omega
        cases bt
        case true =>
          have hnot : ¬ MayP P := fun h => Hbt.out.1 rfl (h.2 h2').1
          go_wp2_with fail
          go_ret2
          exact ⟨false, false, rfl, by rw [HPe.out]; exact beg_no hnot, HB.out.o⟩
        case false =>
        have hturn : TurnP P := Classical.byContradiction fun h => by have := Hbt.out.2 h; cases this
        by_cases h3' : np < 3
        · have d1 : decide ((np : Int) < 3) = true := by simp; omega
          have d1n : decide (np < 3) = true := by simp; omega
          have hmay : MayP P := ⟨Hrows.out, fun _ => ⟨hturn, fun h => by rw [← Hnp.out] at h; omega⟩⟩
          have hb := beg_may hmay (by rw [← Hnp.out]; omega)
          go_wp2_with fail
          go_ret2
          exact ⟨true, false, rfl, by rw [HPe.out]; exact hb, HB.out.o⟩
        have hn3 : np = 3 := by omega
        have d1 : decide ((np : Int) < 3) = false := by simp; omega
        have d1n : decide (np < 3) = false := by simp; omega
        have n2 : (2 : Int) < (np : Int) := by omega
        have Hturn := hide hturn
        obtain ⟨hs2, hhs2⟩ : ∃ q, P.getD 2 [] = q := ⟨_, rfl⟩
        have c2 := HB.out.p.cellD (i := 2) (by rw [← Hnp.out]; omega)
        have hl2 : (P.getD 2 []).length ≤ s.size := Hpl.out _ (getD_mem (by rw [← Hnp.out]; omega))
        rw [hhs2] at c2 hl2
        have Hhs2 := hide hhs2
        have H3 := hide (split_any 47 (bytes hs2) wr (by rw [size_bytes]; omega) HB.out.m)
        rw [bytes_list] at H3
        clear hhs2 hturn c1 hn3
        have d1 := d1
        go_upto_region 25 with (go_at_call 28; refine H3.out.mono ?_; rintro e w3 ⟨nh, hnh, rfl, hr3, ho3, hsz3⟩; have Hnh := hide hnh; clear hnh)
        obtain ⟨Hs, hHs⟩ : ∃ Hs, splitL 47 hs2 = Hs := ⟨_, rfl⟩
        have hsl : ∀ a ∈ Hs, a.length ≤ s.size := fun a ha => Nat.le_trans (splitL_mem (by rw [hHs]; exact ha)) hl2
        have Hsl := hide hsl
        have HHs := hide (show splitL 47 (P.getD 2 []) = Hs from by rw [Hhs2.out]; exact hHs)
        rw [hHs] at Hnh hr3
        obtain ⟨g3, hg3⟩ : ∃ g3, wr.heap.size = g3 := ⟨_, rfl⟩
        have HR3 := hide hr3
        have HO3 := hide (HB.out.o.trans ho3)
        rw [hg3] at HR3 ⊢
        have h3P : P.length = 3 := by rw [← Hnp.out]; omega
        have H3P := hide h3P
        clear hg3 hHs hr3 ho3 hsl hsz3 H3 c2 hl2 h3P h2'
        by_cases hh2 : nh ≤ 2
        case neg =>
          have d3 : decide ((2 : Int) < (nh : Int)) = true := by simp; omega
          have d3n : decide (2 < nh) = true := by simp; omega
          have hnot : ¬ MayP P := fun h => by
            have h4 := ((h.2 (by rw [H3P.out]; omega)).2 (by rw [H3P.out]; omega)).1
            rw [HHs.out, ← Hnh.out] at h4
            exact hh2 h4
          go_wp2_with fail
          go_ret2
          exact ⟨false, false, rfl, by rw [HPe.out]; exact beg_no hnot, HO3.out⟩
        have d3 : decide ((2 : Int) < (nh : Int)) = false := by simp; omega
        have d3n : decide (2 < nh) = false := by simp; omega
        go_wp2_with fail
        go_loopw [12] (fun iv wx => ∃ i : Nat, i ≤ nh ∧ iv = .int .i64 (i : Int) ∧ Only (fun _ => False) W wx ∧ RowsAt wx g3 Hs ∧ ∀ j (h : j < Hs.length), j < i → HandFine Hs j Hs[j]) (fun iv _ => nh - (intOf iv).toNat)
        case atStart => exact ⟨0, by omega, rfl, HO3.out, HR3.out, fun j _ h => by omega⟩
        case round =>
          rename World => wx
          obtain ⟨i', hi', rfl, hox, hrx, hall⟩ := hrel
          have Hall3 := hide hall
          have HOx := hide hox
          have HRx := hide hrx
          clear hall hox hrx HO3 HR3 d3 d3n
          by_cases hil : i' < nh
          · have hiH : i' < Hs.length := by rw [← Hnh.out]; exact hil
            have t1 : decide ((i' : Int) < (nh : Int)) = true := by simp; omega
            have t1n : decide (i' < nh) = true := by simp; omega
            have i0 : (0 : Int) ≤ (i' : Int) := by omega
            have i1 : (i' : Int) < (nh : Int) := by omega
            obtain ⟨sh, hsh⟩ : ∃ sh, bytes (Hs.getD i' []) = sh := ⟨_, rfl⟩
            have ch := HRx.out.cellD hiH
            have hshl : sh.size ≤ 9223372036854775807 := by
              have := Hsl.out _ (getD_mem hiH)
              rw [← hsh, size_bytes]; omega
            rw [hsh] at ch
            have Hsh := hide (show Hs[i'] = sh.data.toList from by rw [← hsh, bytes_list, List.getD, List.getElem?_eq_getElem hiH]; rfl)
            have Htl := hide (Go.ByteArray.toList_eq sh)
            have Hrh := hide (fun w => rhand_any sh w hshl)
            obtain ⟨bd, hbd⟩ : ∃ bd : Bool, (bd = true ↔ ¬ HandFine Hs i' sh.data.toList) := by
              by_cases h : HandFine Hs i' sh.data.toList
              · exact ⟨false, by simp [h]⟩
              · exact ⟨true, by simp [h]⟩
            have Hbd := hide hbd
            clear hsh hbd
            go_upto_region 31 with (fail)
            go_cut [177] from 150 to 177 (fun x w' => x = .bool bd ∧ ∃ n, w' = wx.drewN n)
            case first =>
              by_cases e1 : sh.toList = [45]
              · have q1 : (sh.toList == [45]) = true := by rw [e1]; rfl
                have q2 : sh.toList.isEmpty = false := by rw [e1]; rfl
                have hb : bd = false := Bool.eq_false_iff.2 fun h => Hbd.out.1 h ⟨.inl (by rw [← Htl.out, e1]), fun h => by rw [← Htl.out, e1] at h; cases h⟩
                clear e1
                subst hb
                go_wp2_with fail
                go_meet
                case rel => exact ⟨rfl, 0, rfl⟩
              have q1 : (sh.toList == [45]) = false := by rw [beq_eq_false_iff_ne]; exact e1
              cases hv : handB sh
              case false =>
                have Hv := hide hv
                have hb : bd = true := Hbd.out.2 fun h => by
                  rcases h.1 with h | h
                  · exact e1 (by rw [Htl.out, h])
                  · exact handB_false.1 Hv.out h
                clear e1 hv
                subst hb
                go_wp2_with (go_at_call 29; refine (Hrh.out _).mono ?_; rw [Hv.out]; rintro e wy ⟨rfl, n, rfl⟩)
                go_wp2_with fail
                go_meet
                case rel => exact ⟨rfl, _, rfl⟩
              case true =>
                have Hv := hide hv
                clear hv
                cases he : sh.toList.isEmpty
                case false =>
                  have hne2 : sh.data.toList ≠ [] := fun h => by rw [Htl.out, h] at he; cases he
                  have hb : bd = false := Bool.eq_false_iff.2 fun h => Hbd.out.1 h ⟨.inr (handB_true.1 Hv.out), fun h => absurd h hne2⟩
                  clear e1 hne2
                  subst hb
                  go_wp2_with (go_at_call 29; refine (Hrh.out _).mono ?_; rw [Hv.out]; rintro e wy ⟨rfl, n, rfl⟩)
                  go_wp2_with fail
                  go_meet
                  case rel => exact ⟨rfl, _, rfl⟩
                case true =>
                  have he2 : sh.data.toList = [] := by rw [← Htl.out]; exact List.isEmpty_iff.1 he
                  have tw : IntKind.i64.wrap ((nh : Int) - 1) = (nh : Int) - 1 := IntWalk.i64_in _ (by omega)
                  by_cases hlast : i' + 1 < nh
                  · have d4 : decide ((i' : Int) < (nh : Int) - 1) = true := by simp; omega
                    have hb : bd = true := Hbd.out.2 fun h => h.2 he2 (by rw [← Hnh.out]; exact hlast)
                    clear e1 he2
                    subst hb
                    go_wp2_with (go_at_call 29; refine (Hrh.out _).mono ?_; rw [Hv.out]; rintro e wy ⟨rfl, n, rfl⟩)
                    go_wp2_with fail
                    go_meet
                    case rel => exact ⟨rfl, _, rfl⟩
                  · have d4 : decide ((i' : Int) < (nh : Int) - 1) = false := by simp; omega
                    have hb : bd = false := Bool.eq_false_iff.2 fun h => Hbd.out.1 h ⟨.inr (handB_true.1 Hv.out), fun _ h2 => hlast (by rw [Hnh.out]; exact h2)⟩
                    clear e1 he2
                    subst hb
                    go_wp2_with (go_at_call 29; refine (Hrh.out _).mono ?_; rw [Hv.out]; rintro e wy ⟨rfl, n, rfl⟩)
                    go_wp2_with fail
                    go_meet
                    case rel => exact ⟨rfl, _, rfl⟩
            case rest =>
              obtain ⟨rfl, n, rfl⟩ := hcut
              have HO4 := hide (HOx.out.drewN n)
              have HR4 := hide (HRx.out.drewN n)
              obtain ⟨wy, hwy⟩ : ∃ w, wx.drewN n = w := ⟨_, rfl⟩
              rw [hwy] at HO4 HR4 ⊢
              clear hwy ch
              cases bd
              case true =>
                have hnot : ¬ MayP P := fun h => by
                  have h4 := ((h.2 (by rw [H3P.out]; omega)).2 (by rw [H3P.out]; omega)).2
                  rw [HHs.out] at h4
                  have h5 := h4 i' hiH
                  rw [Hsh.out] at h5
                  exact Hbd.out.1 rfl h5
                go_wp2_with fail
                go_ret2
                exact ⟨false, false, rfl, by rw [HPe.out]; exact beg_no hnot, HO4.out⟩
              case false =>
                have Hf := hide (show HandFine Hs i' Hs[i'] from by
                  rw [Hsh.out]
                  exact Classical.byContradiction fun h => by have := Hbd.out.2 h; cases this)
                go_wp2_with fail
                go_roundw
                case rel => exact ⟨i' + 1, by omega, by go_num, HO4.out, HR4.out, fun j h1 h2 => by
                  rcases Nat.lt_or_eq_of_le (Nat.le_of_lt_succ h2) with h3 | rfl
                  · exact Hall3.out j h1 h3
                  · exact Hf.out⟩
                case measure => simp [intOf]; omega
          · obtain rfl : i' = nh := by omega
            have t1 : decide ((i' : Int) < (i' : Int)) = false := by simp
            have hmay : MayP P := ⟨Hrows.out, fun _ => ⟨Hturn.out, fun _ => by
              rw [HHs.out]
              exact ⟨by rw [← Hnh.out]; exact hh2, fun j h => Hall3.out j h (by rw [Hnh.out]; exact h)⟩⟩⟩
            have Hmay := hide hmay
            have Hwh := hide (show WholeP P ↔ i' = 2 ∧ Hs.getD 1 [] ≠ [] from by
              rw [WholeP, H3P.out, HHs.out, ← Hnh.out]; simp)
            clear hmay
            by_cases e2 : i' = 2
            · subst e2
              have c1 := HRx.out.cellD (i := 1) (by rw [← Hnh.out]; omega)
              obtain ⟨s1, hs1⟩ : ∃ s1, bytes (Hs.getD 1 []) = s1 := ⟨_, rfl⟩
              have Hs1 := hide (show s1.toList = Hs.getD 1 [] from by rw [← hs1, Go.ByteArray.toList_eq, bytes_list])
              rw [hs1] at c1
              clear hs1
              go_upto_region 33 with (fail)
              cases he : s1.toList.isEmpty
              · have hw : WholeP P := Hwh.out.2 ⟨rfl, fun h => by rw [Hs1.out, h] at he; cases he⟩
                have Hw := hide hw
                clear hw
                go_quiet (fail)
                go_wp2_with fail
                go_ret2
                exact ⟨true, true, rfl, by rw [HPe.out]; exact ⟨by simp [Hmay.out], by simp [Hmay.out, Hw.out]⟩, HOx.out.drewN _⟩
              · have hw : ¬ WholeP P := fun h => (Hwh.out.1 h).2 (by rw [← Hs1.out]; exact List.isEmpty_iff.1 he)
                have Hw := hide hw
                clear hw
                go_quiet (fail)
                go_wp2_with fail
                go_ret2
                exact ⟨true, false, rfl, by rw [HPe.out]; exact ⟨by simp [Hmay.out], by simp [Hw.out]⟩, HOx.out.drewN _⟩
            · have d5 : ((i' : Int) == 2) = false := by rw [beq_eq_false_iff_ne]; omega
              have d5n : (i' == 2) = false := by rw [beq_eq_false_iff_ne]; omega
              have hw : ¬ WholeP P := fun h => e2 (Hwh.out.1 h).1
              have Hw := hide hw
              clear hw e2
              go_upto_region 33 with (fail)
              go_quiet (fail)
              go_wp2_with fail
              go_ret2
              exact ⟨true, false, rfl, by rw [HPe.out]; exact ⟨by simp [Hmay.out], by simp [Hw.out]⟩, HOx.out.drewN _⟩
end Go.Proofs.YtcdfeaodfmfdnaaDoor
