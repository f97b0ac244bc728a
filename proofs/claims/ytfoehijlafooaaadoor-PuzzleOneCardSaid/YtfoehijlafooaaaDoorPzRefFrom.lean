/- gameref.Solutions' search walked -/
import Derived.Test.YtfoehijlafooaaaDoorPzRef
namespace Go.Proofs.YtfoehijlafooaaaDoor
open Go.RowKit

def allTo (r k : Nat) (now : List Int) (i : Nat) (c : Int) (q : Nat) : Bool := (List.range q).all fun j => j == i || gat now j != c || !touch r k i j
theorem allTo_fits {r k : Nat} {now : List Int} {i : Nat} {c : Int} : allTo r k now i c now.length = fitsAt r k now i c := rfl
theorem allTo_succ {r k : Nat} {now : List Int} {i : Nat} {c : Int} {q : Nat} : allTo r k now i c (q + 1) = (allTo r k now i c q && (q == i || gat now q != c || !touch r k i q)) := by
  simp [allTo, List.range_succ]
def fitsUp (r k : Nat) (now : List Int) (i n : Nat) : List Nat := (List.range n).filter fun x => fitsAt r k now i ((x : Int) + 1)
theorem fitsUp_nums {r k : Nat} {now : List Int} {i : Nat} (hn : r * k ≤ 9) : fitsUp r k now i (r * k) = nums r k now i := by
  have h : ∀ n, n ≤ 9 → (List.range 9).filter (fun x => decide (x < n)) = List.range n := by decide
  unfold fitsUp nums
  rw [← h _ hn, List.filter_filter]
  apply List.filter_congr
  intro x _
  exact Bool.and_comm _ _
theorem fitsUp_succ {r k : Nat} {now : List Int} {i n : Nat} : fitsUp r k now i (n + 1) = fitsUp r k now i n ++ (if fitsAt r k now i ((n : Int) + 1) = true then [n] else []) := by
  unfold fitsUp
  rw [List.range_succ, List.filter_append]
  congr 1
  by_cases h : fitsAt r k now i ((n : Int) + 1) = true
  · simp [h]
  · simp [h]

set_option maxHeartbeats 8000000 in
set_option maxRecDepth 100000 in
theorem ref_any (E : RefB) (b2 r k cap most c : Nat) (A : Option Addr) (cells : List Int) (hr : 0 < r) (hk : 0 < k) (hr3 : r ≤ 3) (hk3 : k ≤ 3) (hG : RefG E b2) (hl : cells.length = r * k * (r * k)) (hpos : ∀ j, j < cells.length → 0 ≤ gat cells j) (hmost : most ≤ 100) :
    ∀ (m i : Nat) (now : List Int) (rows : List (List Int)) (v : Value) (w : World), cells.length - i < m → i ≤ cells.length → now.length = cells.length → (∀ j, i ≤ j → gat now j = gat cells j) →
      RSol w E b2 r k cap most A c cells now v rows → rows.length ≤ most →
      Calls Tryd.prog 14 #[.int .i64 i, .pointer (some ⟨E.bO, 0, none⟩), .pointer (some ⟨E.bM, 0, none⟩), .pointer (some ⟨E.bN, 0, none⟩), .pointer (some ⟨E.bC, 0, none⟩), .pointer (some ⟨E.bF, 0, none⟩), .pointer (some ⟨E.bR, 0, none⟩), .pointer (some ⟨E.bK, 0, none⟩)] w fun e w' => e = .returned (.tuple #[]) ∧
        (∃ v', RSol w' E b2 r k cap most A c cells now v' (addT most rows (solsF r k i now))) ∧ Only (RefS E b2) w w' := by
  intro m
  induction m with
  | zero => intro i now rows v w hm; omega
  | succ m ih =>
  intro i now rows v w hm hi hnl hagree hW hrows
  have hn9 : r * k ≤ 9 := Nat.le_trans (Nat.mul_le_mul hr3 hk3) (by decide)
  have hN81 : cells.length ≤ 81 := by rw [hl]; exact Nat.mul_le_mul hn9 hn9
  have HI := hide ih
  have HW := hide hW
  have HG := hide hG
  have Hpos := hide hpos
  have Hag := hide hagree
  have Hl := hide hl
  have Hnl := hide hnl
  obtain ⟨ii, hii⟩ := info_pints
  have Hii := hide hii
  obtain ⟨i1, hi1⟩ := info_pint
  have Hi1 := hide hi1
  obtain ⟨A0, c0, rfl, hc0, -⟩ := hW.o.rows2
  have q1 := hW.boxO.cell 0
  have q2 := hW.boxM.cell 0
  have q3 := hW.boxN.cell 0
  have q4 := hW.boxC.cell 0
  have q5 := hW.boxF.cell 0
  have q6 := hW.boxR.cell 0
  have q7 := hW.boxK.cell 0
  simp at q1 q2 q3 q4 q5 q6 q7
  clear ih hW hG hpos hagree hl hnl hii hi1
  by_cases hfull : rows.length = most
  · have e1 : ((rows.length : Int) == (most : Int)) = true := by simp [hfull]
    have Hres := hide (addT_full (xs := solsF r k i now) hfull)
    clear hfull
    go_enter Tryd.func14, Tryd.ntmps14
    go_wp2_with fail
    (try simp only [Exit.inBlock, Exit.then])
    first | refine bodyPost_ret (results_none rfl _ _ _) rfl ?_ | refine bodyPost_end (results_none rfl _ _ _) rfl ?_
    exact ⟨rfl, ⟨_, by rw [Hres.out]; exact HW.out⟩, Only.refl _ _⟩
  have e1 : ((rows.length : Int) == (most : Int)) = false := by simp; omega
  by_cases hend : i = cells.length
  · subst hend
    have Hres := hide (show addT most rows (solsF r k cells.length now) = rows ++ [now] by rw [solsF_end Hnl.out.symm, addT_one (by omega)])
    have hgs : E.bO < w.heap.size := HW.out.boxO.lt
    have hgn : E.gn < w.heap.size := by
      obtain ⟨cs, hb, _⟩ := HW.out.g
      exact hb.lt
    have hCn : Cells w (E.gn + 1) (some ⟨E.gn, 0, none⟩) (ints now) := fun _ => ⟨E.gn, 0, rfl, Nat.lt_succ_self _, fun j hj => by
      have hj' : j < now.length := by simpa using hj
      rw [Nat.zero_add, HW.out.g.at_ hj', ints_get, gat_get hj']⟩
    have HCn := hide hCn
    obtain ⟨vs, hvs, hrs⟩ := HW.out.o
    have Hvs := hide hvs
    have Hrs := hide hrs
    have Hne := hide hfull
    have hnl81 : now.length ≤ 81 := by rw [Hnl.out]; exact hN81
    clear hvs hrs hCn hfull HI
    go_enter Tryd.func14, Tryd.ntmps14
    go_wp2_with fail
    go_region_law
      ((first | (refine step_appends rfl (.const (.slice none 0 0)) (.tmp 21) 22 (by rfl) w.heap.size 3 i1 (.int .i64 0) 8 Tryd.underlying22 Hi1.out.1 Hi1.out.2.1 Hi1.out.2.2.1 Hi1.out.2.2.2 rfl (.slice none 0 0) 0 [] (by rfl) (World.ownsRow_nil _ _ _ _) (E.gn + 1) (some ⟨E.gn, 0, none⟩) cap (ints now) cells.length (by rw [ints_length]; exact Hnl.out) (by rfl) HCn.out (by simp [ints, Value.oneCell']) (fun e => by simp at e) (by rw [ints_length]; unfold maxLen; omega) (by rw [ints_length]; omega) (Nat.le_refl _) cells.length (by omega) ?_; intro A1 ca wc hown1 hgr1; have hbc : Below w.heap.size w wc := below_undrew (grown_below hgr1 (Nat.le_refl _) nofun); have hgsc : E.bO < wc.heap.size := Nat.lt_of_lt_of_le hgs hbc.size; have xc := (hbc.cell (p := ⟨E.bO, 0, none⟩) hgs).trans q1; have Hvc := hide (ownsRow_only Hvs.out (Only.of_below (S := fun k => w.heap.size ≤ k) hbc (fun k _ h => h)) (fun g hg => by have := (Hvs.out.lt g hg).2; omega)); have Hbc := hide hbc; have Hown1 := hide hown1; clear hown1 hgr1 hbc)
              | (refine step_appends2 rfl (.tmp 20) (.tmp 23) 23 (by rfl) b2 22 ii (.slice none 0 0) 24 Tryd.underlying23 Hii.out.1 Hii.out.2.1 Hii.out.2.2.1 Hii.out.2.2.2 rfl (.slice A0 rows.length c0) rows.length vs (by rfl) (Hvc.out.alloc _) (wc.heap.size + 1) (some ⟨wc.heap.size, 0, none⟩) 1 [.slice A1 cells.length ca] 1 rfl (by rfl) (cells_box _ _ _) (by simp [Value.oneCell']) (fun e => by simp at e) (show rows.length + 1 ≤ maxLen by unfold maxLen; omega) (show (rows.length + 1) * 24 ≤ 140737488355328 by omega) (Nat.le_trans HW.out.z (Nat.le_trans Hbc.out.size (below_alloc0 (Below.refl _ wc) _).size)) (rows.length + 1) rfl ?_; intro A3 c3 w3 hown3 hgr3 hwh; have hne : some E.bO ≠ (Value.slice A0 rows.length c0).ownBlock := (fun e => by have := (Hvs.out.lt E.bO e.symm).1; have := HG.out.o2; omega); have bd := ((HW.out.boxO.below Hbc.out hgs).alloc (.cells #[.slice A1 cells.length ca] 22)).grown hgr3 hne; have xd : w3.cell? ⟨E.bO, 0, none⟩ = some (.slice A0 rows.length c0) := bd.cellv rfl; have fd := bd.free 0; have Hown3 := hide hown3; have Hgr3 := hide hgr3; have Hwh := hide hwh; have Hbd := hide bd; clear hown3 hgr3 hwh bd hne)))
    all_goals
      have hn1 : now.length = cells.length := Hnl.out
      obtain ⟨A', c', hv', hle', -, hcel⟩ := Cells.of_own Hown1.out
      injection hv' with hv1 hv2 hv3
      subst hv1
      subst hv3
      have hlt1 := Hown1.out.lt
      rw [← hn1] at hle'
      have hown3' := Hown3.out
      rw [← hn1] at hown3'
      obtain ⟨hout, hO⟩ := out_push (now := now) HW.out.z hle' (by simpa using hcel) (fun hn a ha => (hlt1 a.block (by rw [ha]; rfl)).1) Hbc.out Hvs.out Hrs.out hown3' Hgr3.out Hwh.out
      have hO2 : Only (RefS E b2) w w3 := hO.mono (fun b _ hb => .inr (.inr hb))
      have hO3 : Only (RefS E b2) w (w3.setCell ⟨E.bO, 0, none⟩ (.slice A3 (rows.length + 1) c3)) := hO2.setCell (p := ⟨E.bO, 0, none⟩) (.inl (.inl rfl)) _
      have hO4 : Only (fun b => b = E.bO) w3 (w3.setCell ⟨E.bO, 0, none⟩ (.slice A3 (rows.length + 1) c3)) := (Only.refl (fun b => b = E.bO) w3).setCell (p := ⟨E.bO, 0, none⟩) (.inl rfl) _
      have hR := HW.out.move HG.out hO3 (v' := .slice A3 (rows.length + 1) c3) (rows' := rows ++ [now]) (Hbd.out.set_ 0 (.slice A3 (rows.length + 1) c3)) ((HW.out.g.only hO (fun e => by have := HG.out.n2; omega)).far (p := ⟨E.bO, 0, none⟩) HG.out.nO _) (hout.only hO4 (fun j hj _ e => by have := HG.out.o2; omega))
      have Hfin := hide hR
      have HOf := hide hO3
      go_wp2_with fail
      (try simp only [Exit.inBlock, Exit.then])
      first | refine bodyPost_ret (results_none rfl _ _ _) rfl ?_ | refine bodyPost_end (results_none rfl _ _ _) rfl ?_
      exact ⟨rfl, ⟨_, by rw [Hres.out]; exact Hfin.out⟩, HOf.out⟩
  have e2 : ((i : Int) == (cells.length : Int)) = false := by simp; omega
  have hlt : i < cells.length := by omega
  have hnlt : i < now.length := by rw [Hnl.out]; exact hlt
  obtain ⟨bA, oA, rfl, hbA, y0⟩ := HW.out.cel i hlt
  have hag0 := Hag.out i (Nat.le_refl _)
  have ecast : ((i + 1 : Nat) : Int) = (i : Int) + 1 := by omega
  by_cases hp : gat cells i > 0
  · have d1 : decide (gat cells i > 0) = true := by simp [hp]
    have Hres := hide (show addT most rows (solsF r k i now) = addT most rows (solsF r k (i + 1) now) by rw [solsF_skip hnlt (by rw [hag0]; exact hp)])
    have hI := HI.out (i + 1) now rows _ w (by omega) (by omega) Hnl.out (fun j hj => Hag.out j (by omega)) HW.out (by omega)
    rw [ecast] at hI
    have HI2 := hide hI
    clear hp hI HI hag0 ecast
    go_enter Tryd.func14, Tryd.ntmps14
    go_wp2_with (go_at_call 14; refine HI2.out.mono ?_; rintro e w2 ⟨rfl, ⟨v2, hW2⟩, hO2⟩)
    (try simp only [Exit.inBlock, Exit.then])
    first | refine bodyPost_ret (results_none rfl _ _ _) rfl ?_ | refine bodyPost_end (results_none rfl _ _ _) rfl ?_
    exact ⟨rfl, ⟨_, by rw [Hres.out]; exact hW2⟩, hO2⟩
  have h0 : gat cells i = 0 := by have := Hpos.out i hlt; omega
  rw [h0] at y0 hag0
  have Hag0 := hide hag0
  have Hsol := hide (solsF_step (r := r) (k := k) hnlt (by rw [hag0]; decide))
  have Hecast := hide ecast
  obtain ⟨n, hn⟩ : ∃ n, r * k = n := ⟨_, rfl⟩
  have eprod : (r : Int) * (k : Int) = (n : Int) := by rw [← hn]; simp
  have hn9' : n ≤ 9 := by rw [← hn]; exact hn9
  have Hn := hide hn
  clear hp h0 hag0 ecast hn
  go_enter Tryd.func14, Tryd.ntmps14
  go_wp2_with fail
  go_loopw [9, 10, 11] (fun cv _ _ wr => ∃ (c1 : Nat) (v1 : Value) (rows1 : List (List Int)), cv = .int .i64 ((c1 : Int) + 1) ∧ c1 ≤ n ∧ RSol wr E b2 r k cap most (some ⟨bA, oA, none⟩) c cells now v1 rows1 ∧ rows1.length ≤ most ∧
    rows1 = addT most rows ((fitsUp r k now i c1).flatMap fun x : Nat => solsF r k (i + 1) (now.set i ((x : Int) + 1))) ∧ Only (RefS E b2) w wr) (fun cv _ _ _ => n + 1 - (intOf cv).toNat)
  case atStart => exact ⟨0, _, rows, rfl, by omega, HW.out, hrows, by rw [show fitsUp r k now i 0 = [] from rfl]; exact (addT_nil hrows).symm, Only.refl _ _⟩
  case round =>
    clear q1 q2 q3 q4 q5 q6 q7 y0 e1 e2
    rename World => wr
    obtain ⟨c1, v1, rows1, rfl, hc1, hW1, hr1, hrow, hO1⟩ := hrel
    have HW1 := hide hW1
    have Hrow := hide hrow
    have HO1 := hide hO1
    have q3 := hW1.boxN.cell 0
    have q5 := hW1.boxF.cell 0
    have q6 := hW1.boxR.cell 0
    have q7 := hW1.boxK.cell 0
    simp at q3 q5 q6 q7
    clear hW1 hrow hO1
    by_cases hcl : c1 < n
    · have d1 : decide ((c1 : Int) + 1 ≤ (n : Int)) = true := decide_eq_true (by omega)
      go_wp2_with fail
      go_loopw [10, 11] (fun okv kv ww => ∃ q nd : Nat, q ≤ cells.length ∧ kv = .int .i64 q ∧ okv = .bool (allTo r k now i ((c1 : Int) + 1) q) ∧ ww = wr.drewN nd) (fun okv kv _ => cells.length - (intOf kv).toNat)
      case atStart => exact ⟨0, 0, by omega, rfl, rfl, rfl⟩
      case round =>
        obtain ⟨q, nd, hq, rfl, rfl, rfl⟩ := hrel
        by_cases hqlt : q < cells.length
        · have hsucc := allTo_succ (r := r) (k := k) (now := now) (i := i) (c := (c1 : Int) + 1) (q := q)
          obtain ⟨ob, hob⟩ : ∃ ob, allTo r k now i ((c1 : Int) + 1) q = ob := ⟨_, rfl⟩
          rw [hob] at hsucc ⊢
          have z := HW1.out.g.at_ (j := q) (by rw [Hnl.out]; exact hqlt)
          obtain ⟨x, hx⟩ : ∃ x, gat now q = x := ⟨_, rfl⟩
          rw [hx] at z hsucc
          have Hsucc := hide hsucc
          clear hob hsucc hx
          cases ob
          · go_wp2_with fail
            go_roundw
            case rel => exact ⟨q + 1, _, by omega, by go_num, by rw [Hsucc.out]; rfl, rfl⟩
            case measure => simp [intOf]; omega
          · by_cases hqi : q = i
            · subst hqi
              have Hs2 := hide (show allTo r k now q ((c1 : Int) + 1) (q + 1) = true by rw [Hsucc.out]; simp)
              go_wp2_with fail
              go_roundw
              case rel => exact ⟨q + 1, _, by omega, by go_num, by rw [Hs2.out], rfl⟩
              case measure => simp [intOf]; omega
            · have d2 : ((q : Int) == (i : Int)) = false := by simp; omega
              by_cases hxc : x = (c1 : Int) + 1
              · subst hxc
                have hT := touch_any r k i q
                obtain ⟨tb, htb⟩ : ∃ tb, touch r k i q = tb := ⟨_, rfl⟩
                rw [htb] at hT
                have Hs2 := hide (show allTo r k now i ((c1 : Int) + 1) (q + 1) = !tb by rw [Hsucc.out, htb]; simp [hqi])
                have HT := hide (fun w => hT w hr hk hr3 hk3 (by omega) (by omega))
                clear hT htb hqi
                go_wp2_with (go_at_call 15; refine (HT.out _).mono ?_; rintro e w4 ⟨rfl, m4, rfl⟩)
                go_roundw
                case rel => exact ⟨q + 1, _, by omega, by go_num, by rw [Hs2.out], rfl⟩
                case measure => simp [intOf]; omega
              · have d3 : (x != (c1 : Int) + 1) = true := by simpa using hxc
                have Hs2 := hide (show allTo r k now i ((c1 : Int) + 1) (q + 1) = true by rw [Hsucc.out]; simp [hxc])
                clear hqi hxc
                go_wp2_with fail
                go_roundw
                case rel => exact ⟨q + 1, _, by omega, by go_num, by rw [Hs2.out], rfl⟩
                case measure => simp [intOf]; omega
        · obtain rfl : q = cells.length := by omega
          rw [← Hnl.out, allTo_fits, Hnl.out]
          have hup := fitsUp_succ (r := r) (k := k) (now := now) (i := i) (n := c1)
          obtain ⟨fb, hfb⟩ : ∃ fb, fitsAt r k now i ((c1 : Int) + 1) = fb := ⟨_, rfl⟩
          rw [hfb] at hup ⊢
          cases fb
          · have Hup := hide (show fitsUp r k now i (c1 + 1) = fitsUp r k now i c1 by rw [hup]; simp)
            clear hup hfb
            go_wp2_with fail
            go_roundw
            case rel => exact ⟨c1 + 1, v1, rows1, by go_num, by omega, HW1.out.drewN _, hr1, by rw [Hup.out]; exact Hrow.out, HO1.out.drewN _⟩
            case measure => simp [intOf]; omega
          · have Hup := hide (show addT most rows ((fitsUp r k now i (c1 + 1)).flatMap fun x : Nat => solsF r k (i + 1) (now.set i ((x : Int) + 1))) = addT most rows1 (solsF r k (i + 1) (now.set i ((c1 : Int) + 1))) by
              rw [hup, Hrow.out, addT_addT, if_pos rfl, List.flatMap_append]; simp)
            clear hup hfb
            obtain ⟨w5, hw5⟩ : ∃ w5, wr.drewN nd = w5 := ⟨_, rfl⟩
            have hW5 := HW1.out.drewN nd
            have hO5 := HO1.out.drewN nd
            rw [hw5] at hW5 hO5 ⊢
            clear hw5 q3 q5 q6 q7
            obtain ⟨hW6, hO6⟩ := hW5.cell HG.out hnlt ((c1 : Int) + 1)
            have hI := HI.out (i + 1) (now.set i ((c1 : Int) + 1)) rows1 v1 _ (by omega) (by omega) (by rw [List.length_set]; exact Hnl.out) (fun j hj => by
              rw [gat_set hnlt, if_neg (by omega)]; exact Hag.out j (by omega)) hW6 hr1
            rw [Hecast.out] at hI
            have HI2 := hide hI
            have HW5 := hide hW5
            have HO6 := hide (hO5.trans' hO6 (fun _ _ h => h))
            have q3 := hW5.boxN.cell 0
            have q5 := hW5.boxF.cell 0
            simp at q3 q5
            have z := hW5.g.at_ hnlt
            rw [Hag0.out] at z
            have f := hW5.g.free i
            have nF : ¬ E.bF = E.gn := HG.out.oF.2.1
            clear hI hW5 hO5 hW6 hO6
            go_wp2_with (go_at_call 14; refine HI2.out.mono ?_; rintro e w7 ⟨rfl, ⟨v7, hW7⟩, hO7⟩; have p3 := hW7.boxN.cell 0; simp at p3; have pz := hW7.g.at_ (j := i) (by rw [List.length_set]; exact hnlt); have pf := hW7.g.free i)
            go_roundw
            case rel =>
              obtain ⟨hW8, hO8⟩ := hW7.cell HG.out (i := i) (by rw [List.length_set]; exact hnlt) 0
              rw [set_back hnlt _ Hag0.out] at hW8
              exact ⟨c1 + 1, v7, _, by go_num, by omega, hW8, addT_len, Hup.out.symm, (HO6.out.trans' hO7 (fun _ _ h => h)).trans' hO8 (fun _ _ h => h)⟩
            case measure => simp [intOf]; omega
    · have d1 : decide ((c1 : Int) + 1 ≤ (n : Int)) = false := decide_eq_false (by omega)
      obtain rfl : c1 = n := by omega
      have Hres := hide (show addT most rows (solsF r k i now) = rows1 by rw [Hsol.out, Hrow.out, ← Hn.out, fitsUp_nums hn9])
      go_wp2_with fail
      (try simp only [Exit.inBlock, Exit.then])
      first | refine bodyPost_ret (results_none rfl _ _ _) rfl ?_ | refine bodyPost_end (results_none rfl _ _ _) rfl ?_
      exact ⟨rfl, ⟨_, by rw [Hres.out]; exact HW1.out⟩, HO1.out⟩
end Go.Proofs.YtfoehijlafooaaaDoor
