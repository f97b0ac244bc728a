/- nim.each with the function nim.values$1: each way to take from a heap is handed to it, in order, till it says yes. -/
import Derived.Test.YtfoehijlafooaaaNimEach
namespace Go.Proofs.Ytfoehijlafooaaa
open Go.RowKit

set_option maxHeartbeats 4000000 in
set_option maxRecDepth 100000 in
theorem each_A (x0 x1 : Value) (Ad : Option Addr) (cd : Nat) (d : List Nat) (h : Nat) (Inv : List (List Nat) → World → Prop) (Fin : List (List Nat) → List Nat → World → Prop)
    (hA : Asks 79 #[x0, x1] Ad d h Inv Fin) (hd8 : ∀ k (hk : k < d.length), d[k] < 8) (hdl : d.length ≤ 6) (hh : h ≤ 400) (w : World) (h0 : Inv [] w) :
    Calls Try.prog 56 #[.slice Ad d.length cd, .int .i64 h, .func (.func 79) #[] #[x0, x1]] w fun e w' =>
      (e = .returned (.bool false) ∧ Inv (opts d h) w') ∨ (e = .returned (.bool true) ∧ ∃ dn ps, dn ++ [ps] <+: opts d h ∧ Fin dn ps w') := by
  have HA := hide hA
  have H0 := hide h0
  have H8 := hide hd8
  clear hA h0 hd8
  go_enter Try.func56, Try.ntmps56
  go_wp2_with fail
  go_loopw [7] (fun kv wr => ∃ n : Nat, n ≤ min d.length h ∧ kv = .int .i64 (n + 1 : Nat) ∧ Inv (optsTo d h n) wr) (fun kv _ => d.length + 1 - (intOf kv).toNat)
  case atStart => exact ⟨0, by omega, rfl, H0.out⟩
  case round =>
    obtain ⟨n, hn, rfl, hI⟩ := hrel
    have HI := hide hI
    have hcast : ((n + 1 : Nat) : Int) = (n : Int) + 1 := by omega
    rw [hcast]
    clear hI hcast
    by_cases hlt : n < min d.length h
    · have hn1 : n < d.length := by omega
      have hn2 : n < h := by omega
      obtain ⟨dg, hdg⟩ : ∃ dg, d[n] = dg := ⟨_, rfl⟩
      have hdg8 : dg < 8 := by rw [← hdg]; exact H8.out n hn1
      obtain ⟨r, hr⟩ : ∃ r, h - (n + 1) = r := ⟨_, rfl⟩
      have hri : (h : Int) - ((n : Int) + 1) = (r : Int) := by omega
      have hget : d.getD n 0 = dg := by rw [List.getD_eq_getElem?_getD, List.getElem?_eq_getElem hn1]; exact hdg
      have hr400 : r ≤ 400 := by omega
      obtain ⟨b, off, rfl, _, hc0⟩ := (HA.out.digs _ _ HI.out).at_ (k := n) (by simpa [natsI] using hn1)
      have Hdg := hide hdg
      have Hr := hide hr
      have Hget := hide hget
      have Hlt := hide hlt
      clear hdg hr hget hc0 hlt
      have Hcell := hide (fun W (dn) (hI : Inv dn W) => (show W.cell? ⟨b, off + n, none⟩ = some (.int .i64 (dg : Int)) from by
        obtain ⟨b', off', e, _, hc⟩ := (HA.out.digs dn W hI).at_ (k := n) (by simpa [natsI] using hn1)
        rw [ints_get] at hc
        simp only [natsI, List.getElem_map, Hdg.out] at hc
        injection e with e
        injection e with e1 e2
        rw [e1, e2]; exact hc))
      have hpre := fun (l l' : List (List Nat)) (he : l ++ l' = optsK dg r) => (by rw [← Hget.out, ← Hr.out] at he; exact prefix_of Hlt.out he : optsTo d h n ++ l <+: opts d h)
      have Hpre := hide hpre
      clear hpre
      have hc1 := Hcell.out _ _ HI.out
      have hdk1 : decide ((n : Int) + 1 ≤ (h : Int)) = true := by simp; omega
      have hdk2 : decide ((n : Int) + 1 ≤ (d.length : Int)) = true := by simp; omega
      have hfirst : ((bits .and .i64 (dg : Int) 1 = 1 ∧ r = 0) ∧ optsA dg r = [[]]) ∨ ((bits .and .i64 (dg : Int) 1 = 1 ∧ 0 < r) ∧ optsA dg r = []) ∨ (bits .and .i64 (dg : Int) 1 = 0 ∧ optsA dg r = []) := by
        rw [(and_digit dg hdg8).1]
        unfold optsA
        by_cases c1 : dg % 2 = 1 <;> by_cases c2 : r = 0 <;> simp [c1, c2] <;> omega
      have Hand := hide (and_digit dg hdg8)
      have hsecond : ((bits .and .i64 (dg : Int) 2 = 2 ∧ 0 < r) ∧ optsB dg r = [[r]]) ∨ ((bits .and .i64 (dg : Int) 2 = 2 ∧ r = 0) ∧ optsB dg r = []) ∨ (bits .and .i64 (dg : Int) 2 = 0 ∧ optsB dg r = []) := by
        rw [(and_digit dg hdg8).2.1]
        unfold optsB
        by_cases c1 : dg / 2 % 2 = 1
        · by_cases c2 : r = 0
          · exact .inr (.inl ⟨⟨by omega, c2⟩, by simp [c2]⟩)
          · exact .inl ⟨⟨by omega, by omega⟩, by simp [c1]; omega⟩
        · exact .inr (.inr ⟨by omega, by simp [c1]⟩)
      have hthird : (bits .and .i64 (dg : Int) 4 = 4 ∧ dg / 4 = 1) ∨ (bits .and .i64 (dg : Int) 4 = 0 ∧ ∀ m, optsC dg r m = []) := by
        rw [(and_digit dg hdg8).2.2]
        by_cases c1 : dg / 4 = 1
        · exact .inl ⟨by omega, c1⟩
        · exact .inr ⟨by omega, fun m => by simp [optsC, c1]⟩
      have Hsecond := hide hsecond
      have Hthird := hide hthird
      clear hsecond hthird Hand
      rcases hfirst with ⟨⟨e1, e2⟩, eA⟩ | ⟨⟨e1, e2⟩, eA⟩ | ⟨e1, eA⟩
      · have e3 : ((r : Int) == 0) = true := by simp [e2]
        have EA := hide eA
        have E2 := hide e2
        clear eA e2
        go_wp2_with fail
        refine (HA.out.call (optsTo d h n) [] wr none 0 (by have := Hpre.out (optsA dg r) (optsB dg r ++ optsC dg r (r / 2)) (by simp [optsK]); rwa [EA.out] at this) HI.out (by simp) Cells.nil_).mono ?_
        rintro e W1 (⟨rfl, hI1⟩ | ⟨rfl, hF⟩)
        · have HI1 := hide (show Inv (optsTo d h n ++ optsA dg r) W1 by rw [EA.out]; exact hI1)
          clear hI1 HI hc1 e1 e3
          have hc1 := Hcell.out _ _ HI1.out
          rcases Hsecond.out with ⟨⟨f1, f2⟩, fB⟩ | ⟨⟨f1, f2⟩, fB⟩ | ⟨f1, fB⟩
          · exact absurd f2 (by have := E2.out; omega)
          · have f3 : ¬ (0 < (r : Int)) := by omega
            have HI2 := hide (show Inv (optsTo d h n ++ optsA dg r ++ optsB dg r) W1 by rw [fB, List.append_nil]; exact HI1.out)
            clear fB HI1
            rcases Hthird.out with ⟨g1, g2⟩ | ⟨g1, gC⟩
            · go_wp2_with fail
              go_loopw [9] (fun av wr => av = .int .i64 1 ∧ Inv (optsTo d h n ++ optsA dg r ++ optsB dg r) wr) (fun _ _ => 0)
              case atStart => exact ⟨rfl, HI2.out⟩
              case round =>
                clear hc1 HI2
                obtain ⟨rfl, hI3⟩ := hrel
                have HI3 := hide hI3
                have hc1 := Hcell.out _ _ hI3
                clear hI3
                go_wp2_with fail
                go_roundw
                case rel =>
                  refine ⟨n + 1, by have := Hlt.out; omega, by go_num, ?_⟩
                  have := HI3.out
                  have hr0 : r = 0 := by omega
                  have hC : optsC dg r (r / 2) = [] := by rw [hr0]; simp [optsC]
                  rw [optsTo_succ, Hget.out, Hr.out]
                  simpa [optsK, hC] using this
                case measure => simp [intOf]; omega
            · go_wp2_with fail
              go_loopw [9] (fun av wr => av = .int .i64 1 ∧ Inv (optsTo d h n ++ optsA dg r ++ optsB dg r) wr) (fun _ _ => 0)
              case atStart => exact ⟨rfl, HI2.out⟩
              case round =>
                clear hc1 HI2
                obtain ⟨rfl, hI3⟩ := hrel
                have HI3 := hide hI3
                have hc1 := Hcell.out _ _ hI3
                clear hI3
                go_wp2_with fail
                go_roundw
                case rel =>
                  refine ⟨n + 1, by have := Hlt.out; omega, by go_num, ?_⟩
                  have := HI3.out
                  have hr0 : r = 0 := by omega
                  have hC : optsC dg r (r / 2) = [] := by rw [hr0]; simp [optsC]
                  rw [optsTo_succ, Hget.out, Hr.out]
                  simpa [optsK, hC] using this
                case measure => simp [intOf]; omega
          · have HI2 := hide (show Inv (optsTo d h n ++ optsA dg r ++ optsB dg r) W1 by rw [fB, List.append_nil]; exact HI1.out)
            clear fB HI1
            rcases Hthird.out with ⟨g1, g2⟩ | ⟨g1, gC⟩
            · have G2 := hide g2
              clear g2
              go_wp2_with fail
              go_loopw [9] (fun av wr => ∃ m : Nat, m ≤ r / 2 ∧ av = .int .i64 (m + 1 : Nat) ∧ Inv (optsTo d h n ++ optsA dg r ++ optsB dg r ++ optsC dg r m) wr) (fun av _ => r + 1 - (intOf av).toNat)
              case atStart => exact ⟨0, by omega, rfl, by simpa [optsC] using HI2.out⟩
              case round =>
                clear hc1 HI2
                (try clear f3)
                (try clear f2)
                obtain ⟨m, hm, rfl, hI3⟩ := hrel
                have HI3 := hide hI3
                have hc1 := Hcell.out _ _ hI3
                have hcast : ((m + 1 : Nat) : Int) = (m : Int) + 1 := by omega
                rw [hcast]
                clear hI3 hcast
                by_cases hlm : m < r / 2
                · have hs : (r : Int) - ((m : Int) + 1) = ((r - (m + 1) : Nat) : Int) := by omega
                  obtain ⟨q, hq⟩ : ∃ q, r - (m + 1) = q := ⟨_, rfl⟩
                  rw [hq] at hs
                  have hle : (m : Int) + 1 ≤ (q : Int) := by omega
                  have hpp := Hpre.out (optsA dg r ++ optsB dg r ++ optsC dg r (m + 1)) ((optsC_split dg r (m + 1) (r / 2) (by omega)).choose) (by
                    have := (optsC_split dg r (m + 1) (r / 2) (by omega)).choose_spec
                    unfold optsK
                    rw [List.append_assoc, this])
                  rw [optsC_succ G2.out, hq] at hpp
                  have Hpp := hide (show optsTo d h n ++ optsA dg r ++ optsB dg r ++ optsC dg r m ++ [[m + 1, q]] <+: opts d h by simpa using hpp)
                  have Hq := hide hq
                  clear hpp hq
                  go_wp2_with fail
                  refine (HA.out.call (optsTo d h n ++ optsA dg r ++ optsB dg r ++ optsC dg r m) [m + 1, q] _ (some ⟨wr.heap.size, 0, none⟩) 2 Hpp.out (HA.out.alloc _ _ _ HI3.out) (by simp) (fun _ => ⟨_, 0, rfl, by simp, fun k hk => ?_⟩)).mono ?_
                  · match k, hk with
                    | 0, _ => simp [go_sem, natsI, ints]
                    | 1, _ => simp [go_sem, natsI, ints]
                  rintro e W3 (⟨rfl, hI4⟩ | ⟨rfl, hF⟩)
                  · have HI4 := hide hI4
                    clear hI4
                    go_wp2_with fail
                    go_roundw
                    case rel =>
                      refine ⟨m + 1, by omega, by go_num, ?_⟩
                      have := HI4.out
                      rw [optsC_succ G2.out, Hq.out]
                      simpa using this
                    case measure => simp [intOf]; omega
                  · have HF := hide hF
                    clear hF
                    go_wp2_with fail
                    go_ret
                    exact .inr ⟨rfl, _, _, Hpp.out, HF.out⟩
                · have hme : m = r / 2 := by omega
                  have hle : ¬ ((m : Int) + 1 ≤ (r : Int) - ((m : Int) + 1)) := by omega
                  have Hme := hide hme
                  clear hme
                  go_wp2_with fail
                  go_roundw
                  case rel =>
                    refine ⟨n + 1, by have := Hlt.out; omega, by go_num, ?_⟩
                    have := HI3.out
                    rw [Hme.out] at this
                    rw [optsTo_succ, Hget.out, Hr.out]
                    simpa [optsK] using this
                  case measure => simp [intOf]; omega
            · have GC := hide gC
              clear gC
              go_wp2_with fail
              go_loopw [9] (fun av wr => av = .int .i64 1 ∧ Inv (optsTo d h n ++ optsA dg r ++ optsB dg r) wr) (fun _ _ => 0)
              case atStart => exact ⟨rfl, HI2.out⟩
              case round =>
                clear hc1 HI2
                (try clear f3)
                (try clear f2)
                obtain ⟨rfl, hI3⟩ := hrel
                have HI3 := hide hI3
                have hc1 := Hcell.out _ _ hI3
                clear hI3
                go_wp2_with fail
                go_roundw
                case rel =>
                  refine ⟨n + 1, by have := Hlt.out; omega, by go_num, ?_⟩
                  have := HI3.out
                  rw [optsTo_succ, Hget.out, Hr.out]
                  simpa [optsK, GC.out] using this
                case measure => simp [intOf]; omega
        · have HF := hide hF
          clear hF
          go_wp2_with fail
          go_ret
          exact .inr ⟨rfl, _, _, by have := Hpre.out (optsA dg r) (optsB dg r ++ optsC dg r (r / 2)) (by simp [optsK]); rwa [EA.out] at this, HF.out⟩
      · have e3 : ((r : Int) == 0) = false := by simp; omega
        have EA := hide eA
        obtain ⟨W1, rfl⟩ : ∃ W1 : World, W1 = wr := ⟨_, rfl⟩
        have HI1 := hide (show Inv (optsTo d h n ++ optsA dg r) W1 by rw [eA, List.append_nil]; exact HI.out)
        clear eA HI
        rcases Hsecond.out with ⟨⟨f1, f2⟩, fB⟩ | ⟨⟨f1, f2⟩, fB⟩ | ⟨f1, fB⟩
        · have FB := hide fB
          clear fB
          have hap := HA.out.alloc _ _ (.cells #[.int .i64 (r : Int)] 3) HI1.out
          have Hap := hide hap
          clear hap
          go_wp2_with fail
          refine (HA.out.call (optsTo d h n ++ optsA dg r) [r] _ (some ⟨W1.heap.size, 0, none⟩) 1 (by have := Hpre.out (optsA dg r ++ optsB dg r) (optsC dg r (r / 2)) (by simp [optsK]); rw [FB.out] at this; simpa using this) Hap.out (by simp) (fun _ => ⟨_, 0, rfl, by simp, fun k hk => ?_⟩)).mono ?_
          · match k, hk with
            | 0, _ => simp [go_sem, natsI, ints]
          rintro e W2 (⟨rfl, hI2⟩ | ⟨rfl, hF⟩)
          · have HI2 := hide (show Inv (optsTo d h n ++ optsA dg r ++ optsB dg r) W2 by rw [FB.out]; exact hI2)
            clear hI2 HI1 hc1 f1 f2
            have hc1 := Hcell.out _ _ HI2.out
            rcases Hthird.out with ⟨g1, g2⟩ | ⟨g1, gC⟩
            · have G2 := hide g2
              clear g2
              go_wp2_with fail
              go_loopw [9] (fun av wr => ∃ m : Nat, m ≤ r / 2 ∧ av = .int .i64 (m + 1 : Nat) ∧ Inv (optsTo d h n ++ optsA dg r ++ optsB dg r ++ optsC dg r m) wr) (fun av _ => r + 1 - (intOf av).toNat)
              case atStart => exact ⟨0, by omega, rfl, by simpa [optsC] using HI2.out⟩
              case round =>
                clear hc1 HI2
                (try clear f3)
                (try clear f2)
                obtain ⟨m, hm, rfl, hI3⟩ := hrel
                have HI3 := hide hI3
                have hc1 := Hcell.out _ _ hI3
                have hcast : ((m + 1 : Nat) : Int) = (m : Int) + 1 := by omega
                rw [hcast]
                clear hI3 hcast
                by_cases hlm : m < r / 2
                · have hs : (r : Int) - ((m : Int) + 1) = ((r - (m + 1) : Nat) : Int) := by omega
                  obtain ⟨q, hq⟩ : ∃ q, r - (m + 1) = q := ⟨_, rfl⟩
                  rw [hq] at hs
                  have hle : (m : Int) + 1 ≤ (q : Int) := by omega
                  have hpp := Hpre.out (optsA dg r ++ optsB dg r ++ optsC dg r (m + 1)) ((optsC_split dg r (m + 1) (r / 2) (by omega)).choose) (by
                    have := (optsC_split dg r (m + 1) (r / 2) (by omega)).choose_spec
                    unfold optsK
                    rw [List.append_assoc, this])
                  rw [optsC_succ G2.out, hq] at hpp
                  have Hpp := hide (show optsTo d h n ++ optsA dg r ++ optsB dg r ++ optsC dg r m ++ [[m + 1, q]] <+: opts d h by simpa using hpp)
                  have Hq := hide hq
                  clear hpp hq
                  go_wp2_with fail
                  refine (HA.out.call (optsTo d h n ++ optsA dg r ++ optsB dg r ++ optsC dg r m) [m + 1, q] _ (some ⟨wr.heap.size, 0, none⟩) 2 Hpp.out (HA.out.alloc _ _ _ HI3.out) (by simp) (fun _ => ⟨_, 0, rfl, by simp, fun k hk => ?_⟩)).mono ?_
                  · match k, hk with
                    | 0, _ => simp [go_sem, natsI, ints]
                    | 1, _ => simp [go_sem, natsI, ints]
                  rintro e W3 (⟨rfl, hI4⟩ | ⟨rfl, hF⟩)
                  · have HI4 := hide hI4
                    clear hI4
                    go_wp2_with fail
                    go_roundw
                    case rel =>
                      refine ⟨m + 1, by omega, by go_num, ?_⟩
                      have := HI4.out
                      rw [optsC_succ G2.out, Hq.out]
                      simpa using this
                    case measure => simp [intOf]; omega
                  · have HF := hide hF
                    clear hF
                    go_wp2_with fail
                    go_ret
                    exact .inr ⟨rfl, _, _, Hpp.out, HF.out⟩
                · have hme : m = r / 2 := by omega
                  have hle : ¬ ((m : Int) + 1 ≤ (r : Int) - ((m : Int) + 1)) := by omega
                  have Hme := hide hme
                  clear hme
                  go_wp2_with fail
                  go_roundw
                  case rel =>
                    refine ⟨n + 1, by have := Hlt.out; omega, by go_num, ?_⟩
                    have := HI3.out
                    rw [Hme.out] at this
                    rw [optsTo_succ, Hget.out, Hr.out]
                    simpa [optsK] using this
                  case measure => simp [intOf]; omega
            · have GC := hide gC
              clear gC
              go_wp2_with fail
              go_loopw [9] (fun av wr => av = .int .i64 1 ∧ Inv (optsTo d h n ++ optsA dg r ++ optsB dg r) wr) (fun _ _ => 0)
              case atStart => exact ⟨rfl, HI2.out⟩
              case round =>
                clear hc1 HI2
                (try clear f3)
                (try clear f2)
                obtain ⟨rfl, hI3⟩ := hrel
                have HI3 := hide hI3
                have hc1 := Hcell.out _ _ hI3
                clear hI3
                go_wp2_with fail
                go_roundw
                case rel =>
                  refine ⟨n + 1, by have := Hlt.out; omega, by go_num, ?_⟩
                  have := HI3.out
                  rw [optsTo_succ, Hget.out, Hr.out]
                  simpa [optsK, GC.out] using this
                case measure => simp [intOf]; omega
          · have HF := hide hF
            clear hF
            go_wp2_with fail
            go_ret
            exact .inr ⟨rfl, _, _, by have := Hpre.out (optsA dg r ++ optsB dg r) (optsC dg r (r / 2)) (by simp [optsK]); rw [FB.out] at this; simpa using this, HF.out⟩
        · exact absurd f2 (by omega)
        · have HI2 := hide (show Inv (optsTo d h n ++ optsA dg r ++ optsB dg r) W1 by rw [fB, List.append_nil]; exact HI1.out)
          clear fB HI1
          rcases Hthird.out with ⟨g1, g2⟩ | ⟨g1, gC⟩
          · have G2 := hide g2
            clear g2
            go_wp2_with fail
            go_loopw [9] (fun av wr => ∃ m : Nat, m ≤ r / 2 ∧ av = .int .i64 (m + 1 : Nat) ∧ Inv (optsTo d h n ++ optsA dg r ++ optsB dg r ++ optsC dg r m) wr) (fun av _ => r + 1 - (intOf av).toNat)
            case atStart => exact ⟨0, by omega, rfl, by simpa [optsC] using HI2.out⟩
            case round =>
              clear hc1 HI2
              (try clear f3)
              (try clear f2)
              obtain ⟨m, hm, rfl, hI3⟩ := hrel
              have HI3 := hide hI3
              have hc1 := Hcell.out _ _ hI3
              have hcast : ((m + 1 : Nat) : Int) = (m : Int) + 1 := by omega
              rw [hcast]
              clear hI3 hcast
              by_cases hlm : m < r / 2
              · have hs : (r : Int) - ((m : Int) + 1) = ((r - (m + 1) : Nat) : Int) := by omega
                obtain ⟨q, hq⟩ : ∃ q, r - (m + 1) = q := ⟨_, rfl⟩
                rw [hq] at hs
                have hle : (m : Int) + 1 ≤ (q : Int) := by omega
                have hpp := Hpre.out (optsA dg r ++ optsB dg r ++ optsC dg r (m + 1)) ((optsC_split dg r (m + 1) (r / 2) (by omega)).choose) (by
                  have := (optsC_split dg r (m + 1) (r / 2) (by omega)).choose_spec
                  unfold optsK
                  rw [List.append_assoc, this])
                rw [optsC_succ G2.out, hq] at hpp
                have Hpp := hide (show optsTo d h n ++ optsA dg r ++ optsB dg r ++ optsC dg r m ++ [[m + 1, q]] <+: opts d h by simpa using hpp)
                have Hq := hide hq
                clear hpp hq
                go_wp2_with fail
                refine (HA.out.call (optsTo d h n ++ optsA dg r ++ optsB dg r ++ optsC dg r m) [m + 1, q] _ (some ⟨wr.heap.size, 0, none⟩) 2 Hpp.out (HA.out.alloc _ _ _ HI3.out) (by simp) (fun _ => ⟨_, 0, rfl, by simp, fun k hk => ?_⟩)).mono ?_
                · match k, hk with
                  | 0, _ => simp [go_sem, natsI, ints]
                  | 1, _ => simp [go_sem, natsI, ints]
                rintro e W3 (⟨rfl, hI4⟩ | ⟨rfl, hF⟩)
                · have HI4 := hide hI4
                  clear hI4
                  go_wp2_with fail
                  go_roundw
                  case rel =>
                    refine ⟨m + 1, by omega, by go_num, ?_⟩
                    have := HI4.out
                    rw [optsC_succ G2.out, Hq.out]
                    simpa using this
                  case measure => simp [intOf]; omega
                · have HF := hide hF
                  clear hF
                  go_wp2_with fail
                  go_ret
                  exact .inr ⟨rfl, _, _, Hpp.out, HF.out⟩
              · have hme : m = r / 2 := by omega
                have hle : ¬ ((m : Int) + 1 ≤ (r : Int) - ((m : Int) + 1)) := by omega
                have Hme := hide hme
                clear hme
                go_wp2_with fail
                go_roundw
                case rel =>
                  refine ⟨n + 1, by have := Hlt.out; omega, by go_num, ?_⟩
                  have := HI3.out
                  rw [Hme.out] at this
                  rw [optsTo_succ, Hget.out, Hr.out]
                  simpa [optsK] using this
                case measure => simp [intOf]; omega
          · have GC := hide gC
            clear gC
            go_wp2_with fail
            go_loopw [9] (fun av wr => av = .int .i64 1 ∧ Inv (optsTo d h n ++ optsA dg r ++ optsB dg r) wr) (fun _ _ => 0)
            case atStart => exact ⟨rfl, HI2.out⟩
            case round =>
              clear hc1 HI2
              (try clear f3)
              (try clear f2)
              obtain ⟨rfl, hI3⟩ := hrel
              have HI3 := hide hI3
              have hc1 := Hcell.out _ _ hI3
              clear hI3
              go_wp2_with fail
              go_roundw
              case rel =>
                refine ⟨n + 1, by have := Hlt.out; omega, by go_num, ?_⟩
                have := HI3.out
                rw [optsTo_succ, Hget.out, Hr.out]
                simpa [optsK, GC.out] using this
              case measure => simp [intOf]; omega
      · have EA := hide eA
        obtain ⟨W1, rfl⟩ : ∃ W1 : World, W1 = wr := ⟨_, rfl⟩
        have HI1 := hide (show Inv (optsTo d h n ++ optsA dg r) W1 by rw [eA, List.append_nil]; exact HI.out)
        clear eA HI
        rcases Hsecond.out with ⟨⟨f1, f2⟩, fB⟩ | ⟨⟨f1, f2⟩, fB⟩ | ⟨f1, fB⟩
        · have FB := hide fB
          clear fB
          have hap := HA.out.alloc _ _ (.cells #[.int .i64 (r : Int)] 3) HI1.out
          have Hap := hide hap
          clear hap
          go_wp2_with fail
          refine (HA.out.call (optsTo d h n ++ optsA dg r) [r] _ (some ⟨W1.heap.size, 0, none⟩) 1 (by have := Hpre.out (optsA dg r ++ optsB dg r) (optsC dg r (r / 2)) (by simp [optsK]); rw [FB.out] at this; simpa using this) Hap.out (by simp) (fun _ => ⟨_, 0, rfl, by simp, fun k hk => ?_⟩)).mono ?_
          · match k, hk with
            | 0, _ => simp [go_sem, natsI, ints]
          rintro e W2 (⟨rfl, hI2⟩ | ⟨rfl, hF⟩)
          · have HI2 := hide (show Inv (optsTo d h n ++ optsA dg r ++ optsB dg r) W2 by rw [FB.out]; exact hI2)
            clear hI2 HI1 hc1 f1 f2
            have hc1 := Hcell.out _ _ HI2.out
            rcases Hthird.out with ⟨g1, g2⟩ | ⟨g1, gC⟩
            · have G2 := hide g2
              clear g2
              go_wp2_with fail
              go_loopw [9] (fun av wr => ∃ m : Nat, m ≤ r / 2 ∧ av = .int .i64 (m + 1 : Nat) ∧ Inv (optsTo d h n ++ optsA dg r ++ optsB dg r ++ optsC dg r m) wr) (fun av _ => r + 1 - (intOf av).toNat)
              case atStart => exact ⟨0, by omega, rfl, by simpa [optsC] using HI2.out⟩
              case round =>
                clear hc1 HI2
                (try clear f3)
                (try clear f2)
                obtain ⟨m, hm, rfl, hI3⟩ := hrel
                have HI3 := hide hI3
                have hc1 := Hcell.out _ _ hI3
                have hcast : ((m + 1 : Nat) : Int) = (m : Int) + 1 := by omega
                rw [hcast]
                clear hI3 hcast
                by_cases hlm : m < r / 2
                · have hs : (r : Int) - ((m : Int) + 1) = ((r - (m + 1) : Nat) : Int) := by omega
                  obtain ⟨q, hq⟩ : ∃ q, r - (m + 1) = q := ⟨_, rfl⟩
                  rw [hq] at hs
                  have hle : (m : Int) + 1 ≤ (q : Int) := by omega
                  have hpp := Hpre.out (optsA dg r ++ optsB dg r ++ optsC dg r (m + 1)) ((optsC_split dg r (m + 1) (r / 2) (by omega)).choose) (by
                    have := (optsC_split dg r (m + 1) (r / 2) (by omega)).choose_spec
                    unfold optsK
                    rw [List.append_assoc, this])
                  rw [optsC_succ G2.out, hq] at hpp
                  have Hpp := hide (show optsTo d h n ++ optsA dg r ++ optsB dg r ++ optsC dg r m ++ [[m + 1, q]] <+: opts d h by simpa using hpp)
                  have Hq := hide hq
                  clear hpp hq
                  go_wp2_with fail
                  refine (HA.out.call (optsTo d h n ++ optsA dg r ++ optsB dg r ++ optsC dg r m) [m + 1, q] _ (some ⟨wr.heap.size, 0, none⟩) 2 Hpp.out (HA.out.alloc _ _ _ HI3.out) (by simp) (fun _ => ⟨_, 0, rfl, by simp, fun k hk => ?_⟩)).mono ?_
                  · match k, hk with
                    | 0, _ => simp [go_sem, natsI, ints]
                    | 1, _ => simp [go_sem, natsI, ints]
                  rintro e W3 (⟨rfl, hI4⟩ | ⟨rfl, hF⟩)
                  · have HI4 := hide hI4
                    clear hI4
                    go_wp2_with fail
                    go_roundw
                    case rel =>
                      refine ⟨m + 1, by omega, by go_num, ?_⟩
                      have := HI4.out
                      rw [optsC_succ G2.out, Hq.out]
                      simpa using this
                    case measure => simp [intOf]; omega
                  · have HF := hide hF
                    clear hF
                    go_wp2_with fail
                    go_ret
                    exact .inr ⟨rfl, _, _, Hpp.out, HF.out⟩
                · have hme : m = r / 2 := by omega
                  have hle : ¬ ((m : Int) + 1 ≤ (r : Int) - ((m : Int) + 1)) := by omega
                  have Hme := hide hme
                  clear hme
                  go_wp2_with fail
                  go_roundw
                  case rel =>
                    refine ⟨n + 1, by have := Hlt.out; omega, by go_num, ?_⟩
                    have := HI3.out
                    rw [Hme.out] at this
                    rw [optsTo_succ, Hget.out, Hr.out]
                    simpa [optsK] using this
                  case measure => simp [intOf]; omega
            · have GC := hide gC
              clear gC
              go_wp2_with fail
              go_loopw [9] (fun av wr => av = .int .i64 1 ∧ Inv (optsTo d h n ++ optsA dg r ++ optsB dg r) wr) (fun _ _ => 0)
              case atStart => exact ⟨rfl, HI2.out⟩
              case round =>
                clear hc1 HI2
                (try clear f3)
                (try clear f2)
                obtain ⟨rfl, hI3⟩ := hrel
                have HI3 := hide hI3
                have hc1 := Hcell.out _ _ hI3
                clear hI3
                go_wp2_with fail
                go_roundw
                case rel =>
                  refine ⟨n + 1, by have := Hlt.out; omega, by go_num, ?_⟩
                  have := HI3.out
                  rw [optsTo_succ, Hget.out, Hr.out]
                  simpa [optsK, GC.out] using this
                case measure => simp [intOf]; omega
          · have HF := hide hF
            clear hF
            go_wp2_with fail
            go_ret
            exact .inr ⟨rfl, _, _, by have := Hpre.out (optsA dg r ++ optsB dg r) (optsC dg r (r / 2)) (by simp [optsK]); rw [FB.out] at this; simpa using this, HF.out⟩
        · have f3 : ¬ (0 < (r : Int)) := by omega
          have HI2 := hide (show Inv (optsTo d h n ++ optsA dg r ++ optsB dg r) W1 by rw [fB, List.append_nil]; exact HI1.out)
          clear fB HI1
          rcases Hthird.out with ⟨g1, g2⟩ | ⟨g1, gC⟩
          · go_wp2_with fail
            go_loopw [9] (fun av wr => av = .int .i64 1 ∧ Inv (optsTo d h n ++ optsA dg r ++ optsB dg r) wr) (fun _ _ => 0)
            case atStart => exact ⟨rfl, HI2.out⟩
            case round =>
              clear hc1 HI2
              obtain ⟨rfl, hI3⟩ := hrel
              have HI3 := hide hI3
              have hc1 := Hcell.out _ _ hI3
              clear hI3
              go_wp2_with fail
              go_roundw
              case rel =>
                refine ⟨n + 1, by have := Hlt.out; omega, by go_num, ?_⟩
                have := HI3.out
                have hr0 : r = 0 := by omega
                have hC : optsC dg r (r / 2) = [] := by rw [hr0]; simp [optsC]
                rw [optsTo_succ, Hget.out, Hr.out]
                simpa [optsK, hC] using this
              case measure => simp [intOf]; omega
          · go_wp2_with fail
            go_loopw [9] (fun av wr => av = .int .i64 1 ∧ Inv (optsTo d h n ++ optsA dg r ++ optsB dg r) wr) (fun _ _ => 0)
            case atStart => exact ⟨rfl, HI2.out⟩
            case round =>
              clear hc1 HI2
              obtain ⟨rfl, hI3⟩ := hrel
              have HI3 := hide hI3
              have hc1 := Hcell.out _ _ hI3
              clear hI3
              go_wp2_with fail
              go_roundw
              case rel =>
                refine ⟨n + 1, by have := Hlt.out; omega, by go_num, ?_⟩
                have := HI3.out
                have hr0 : r = 0 := by omega
                have hC : optsC dg r (r / 2) = [] := by rw [hr0]; simp [optsC]
                rw [optsTo_succ, Hget.out, Hr.out]
                simpa [optsK, hC] using this
              case measure => simp [intOf]; omega
        · have HI2 := hide (show Inv (optsTo d h n ++ optsA dg r ++ optsB dg r) W1 by rw [fB, List.append_nil]; exact HI1.out)
          clear fB HI1
          rcases Hthird.out with ⟨g1, g2⟩ | ⟨g1, gC⟩
          · have G2 := hide g2
            clear g2
            go_wp2_with fail
            go_loopw [9] (fun av wr => ∃ m : Nat, m ≤ r / 2 ∧ av = .int .i64 (m + 1 : Nat) ∧ Inv (optsTo d h n ++ optsA dg r ++ optsB dg r ++ optsC dg r m) wr) (fun av _ => r + 1 - (intOf av).toNat)
            case atStart => exact ⟨0, by omega, rfl, by simpa [optsC] using HI2.out⟩
            case round =>
              clear hc1 HI2
              (try clear f3)
              (try clear f2)
              obtain ⟨m, hm, rfl, hI3⟩ := hrel
              have HI3 := hide hI3
              have hc1 := Hcell.out _ _ hI3
              have hcast : ((m + 1 : Nat) : Int) = (m : Int) + 1 := by omega
              rw [hcast]
              clear hI3 hcast
              by_cases hlm : m < r / 2
              · have hs : (r : Int) - ((m : Int) + 1) = ((r - (m + 1) : Nat) : Int) := by omega
                obtain ⟨q, hq⟩ : ∃ q, r - (m + 1) = q := ⟨_, rfl⟩
                rw [hq] at hs
                have hle : (m : Int) + 1 ≤ (q : Int) := by omega
                have hpp := Hpre.out (optsA dg r ++ optsB dg r ++ optsC dg r (m + 1)) ((optsC_split dg r (m + 1) (r / 2) (by omega)).choose) (by
                  have := (optsC_split dg r (m + 1) (r / 2) (by omega)).choose_spec
                  unfold optsK
                  rw [List.append_assoc, this])
                rw [optsC_succ G2.out, hq] at hpp
                have Hpp := hide (show optsTo d h n ++ optsA dg r ++ optsB dg r ++ optsC dg r m ++ [[m + 1, q]] <+: opts d h by simpa using hpp)
                have Hq := hide hq
                clear hpp hq
                go_wp2_with fail
                refine (HA.out.call (optsTo d h n ++ optsA dg r ++ optsB dg r ++ optsC dg r m) [m + 1, q] _ (some ⟨wr.heap.size, 0, none⟩) 2 Hpp.out (HA.out.alloc _ _ _ HI3.out) (by simp) (fun _ => ⟨_, 0, rfl, by simp, fun k hk => ?_⟩)).mono ?_
                · match k, hk with
                  | 0, _ => simp [go_sem, natsI, ints]
                  | 1, _ => simp [go_sem, natsI, ints]
                rintro e W3 (⟨rfl, hI4⟩ | ⟨rfl, hF⟩)
                · have HI4 := hide hI4
                  clear hI4
                  go_wp2_with fail
                  go_roundw
                  case rel =>
                    refine ⟨m + 1, by omega, by go_num, ?_⟩
                    have := HI4.out
                    rw [optsC_succ G2.out, Hq.out]
                    simpa using this
                  case measure => simp [intOf]; omega
                · have HF := hide hF
                  clear hF
                  go_wp2_with fail
                  go_ret
                  exact .inr ⟨rfl, _, _, Hpp.out, HF.out⟩
              · have hme : m = r / 2 := by omega
                have hle : ¬ ((m : Int) + 1 ≤ (r : Int) - ((m : Int) + 1)) := by omega
                have Hme := hide hme
                clear hme
                go_wp2_with fail
                go_roundw
                case rel =>
                  refine ⟨n + 1, by have := Hlt.out; omega, by go_num, ?_⟩
                  have := HI3.out
                  rw [Hme.out] at this
                  rw [optsTo_succ, Hget.out, Hr.out]
                  simpa [optsK] using this
                case measure => simp [intOf]; omega
          · have GC := hide gC
            clear gC
            go_wp2_with fail
            go_loopw [9] (fun av wr => av = .int .i64 1 ∧ Inv (optsTo d h n ++ optsA dg r ++ optsB dg r) wr) (fun _ _ => 0)
            case atStart => exact ⟨rfl, HI2.out⟩
            case round =>
              clear hc1 HI2
              (try clear f3)
              (try clear f2)
              obtain ⟨rfl, hI3⟩ := hrel
              have HI3 := hide hI3
              have hc1 := Hcell.out _ _ hI3
              clear hI3
              go_wp2_with fail
              go_roundw
              case rel =>
                refine ⟨n + 1, by have := Hlt.out; omega, by go_num, ?_⟩
                have := HI3.out
                rw [optsTo_succ, Hget.out, Hr.out]
                simpa [optsK, GC.out] using this
              case measure => simp [intOf]; omega
    · by_cases hc : (d.length : Int) < (n : Int) + 1
      all_goals
        go_wp2_with fail
        go_ret
        refine .inl ⟨rfl, ?_⟩
        have : n = min d.length h := by omega
        subst this
        exact HI.out
end Go.Proofs.Ytfoehijlafooaaa
