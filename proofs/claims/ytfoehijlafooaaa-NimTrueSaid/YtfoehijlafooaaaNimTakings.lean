/- gameref.Takings: the ways to take from a heap, in order. -/
import Derived.Test.YtfoehijlafooaaaOwn2
import Derived.Test.YtfoehijlafooaaaNimDigits
import Derived.Test.YtfoehijlafooaaaNimBoth
namespace Go.Proofs.Ytfoehijlafooaaa
open Go.RowKit

def optRows (l : List (List Nat)) : List (List Int) := l.map natsI
theorem optRows_len (l : List (List Nat)) : (optRows l).length = l.length := by simp [optRows]
theorem optRows_app (l l' : List (List Nat)) : optRows (l ++ l') = optRows l ++ optRows l' := by simp [optRows]

theorem code_len {l : List UInt8} (h : CodeOk l) : l.length = (digsOf l).length + 2 ∧ 1 ≤ (digsOf l).length ∧ (digsOf l).length ≤ 6 := by
  obtain ⟨h1, h2, h3, _⟩ := h
  have h4 := congrArg List.length h1
  rw [List.length_take] at h4
  simp only [List.length_cons, List.length_nil] at h4
  rw [List.length_drop] at h2 h3
  simp only [digsOf, List.length_map, List.length_drop]
  omega
theorem code_digit {l : List UInt8} (h : CodeOk l) {n : Nat} (hn : n < (digsOf l).length) (h2 : n + 2 < l.length) : 48 ≤ l[n + 2].toNat ∧ l[n + 2].toNat ≤ 55 ∧ (digsOf l)[n] = l[n + 2].toNat - 48 := by
  obtain ⟨h1, h3, h4, h5⟩ := h
  have hd : n < (l.drop 2).length := by rw [List.length_drop]; omega
  have h6 := h5 n hd
  rw [List.getElem_drop] at h6
  have e : 2 + n = n + 2 := by omega
  simp only [e] at h6
  refine ⟨h6.1, h6.2, ?_⟩
  simp only [digsOf, List.getElem_map, List.getElem_drop, e]
theorem code_lt8 {l : List UInt8} (h : CodeOk l) : ∀ k (hk : k < (digsOf l).length), (digsOf l)[k] < 8 := fun k hk => by
  have := code_len h
  have := code_digit h hk (by omega)
  omega

set_option maxHeartbeats 4000000 in
set_option maxRecDepth 100000 in
theorem takings_any (s : ByteArray) (hp : Nat) (hh : hp ≤ 400) (hs : CodeOk s.data.toList) (w : World) :
    Calls Try.prog 29 #[.string s, .int .i64 hp] w fun e w' => (∃ v, e = .returned v ∧ RowsOwn w' w.heap.size 26 v (optRows (opts (digsOf s.data.toList) hp))) ∧ Below w.heap.size w w' := by
  obtain ⟨hl1, hl2, hl3⟩ := code_len hs
  have hsz : s.size = (digsOf s.data.toList).length + 2 := by rw [Lib.size_eq]; exact hl1
  obtain ⟨D, hD⟩ : ∃ D, digsOf s.data.toList = D := ⟨_, rfl⟩
  have hdig : ∀ n (hn : n < D.length) (h2 : n + 2 < s.data.toList.length), 48 ≤ s.data.toList[n + 2].toNat ∧ s.data.toList[n + 2].toNat ≤ 55 ∧ D[n] = s.data.toList[n + 2].toNat - 48 := by
    subst hD; exact fun n hn h2 => code_digit hs hn h2
  rw [hD] at hl1 hl2 hl3 hsz
  have hszi : (s.size : Int) - 2 = (D.length : Int) := by omega
  obtain ⟨s0, si0, sz0, sz1, sz2⟩ := info_parts info_ints
  have SI := hide (And.intro si0 (And.intro sz0 (And.intro sz1 sz2)))
  have hs6 : (s.size : Int) ≤ 8 := by omega
  have HD := hide hD
  have Hdig := hide hdig
  have Hl1 := hide hl1
  have Hsz := hide hsz
  have Hs := hide hs
  clear hD hdig hl1 hsz hs si0 sz0 sz1 sz2
  go_enter Try.func29, Try.ntmps29
  go_wp2_with fail
  go_loopw [5, 6] (fun ov kv wr => ∃ n : Nat, n ≤ min D.length hp ∧ kv = .int .i64 (n + 1 : Nat) ∧ RowsOwn wr w.heap.size 26 ov (optRows (optsTo D hp n)) ∧ Below w.heap.size w wr) (fun _ kv _ => D.length + 1 - (intOf kv).toNat)
  case atStart => exact ⟨0, by omega, rfl, RowsOwn.nil_ _ _ _, Below.refl _ _⟩
  case round =>
    obtain ⟨n, hn, rfl, hrow, hbw⟩ := hrel
    have hcast : ((n + 1 : Nat) : Int) = (n : Int) + 1 := by omega
    rw [hcast]
    have Hrow := hide hrow
    have Hbw := hide hbw
    have hbsz := hbw.size
    clear hrow hbw hcast
    by_cases hnd : n < D.length
    case neg =>
      go_wp2_with fail
      go_ret
      have hne : n = min D.length hp := by omega
      subst hne
      exact ⟨⟨_, rfl, by rw [HD.out]; exact Hrow.out⟩, Hbw.out⟩
    have hnl : n + 2 < s.data.toList.length := by have := Hl1.out; omega
    have hns : n + 2 < s.size := by have := Hsz.out; omega
    obtain ⟨c, hcq⟩ : ∃ c : UInt8, s[n + 2] = c := ⟨_, rfl⟩
    have hdg := Hdig.out n hnd hnl
    have hcq2 : s.data.toList[n + 2] = c := hcq
    rw [hcq2] at hdg
    have hidx : (n : Int) + 1 + 1 = ((n + 2 : Nat) : Int) := by omega
    have hc256 : (c.toNat : Int) < 256 := by have := c.toNat_lt; omega
    have hc48 : 48 ≤ (c.toNat : Int) := by omega
    have hsub : (c.toNat : Int) - 48 = ((c.toNat - 48 : Nat) : Int) := by omega
    have hsub2 : IntKind.i64.wrap ((c.toNat - 48 : Nat) : Int) = ((c.toNat - 48 : Nat) : Int) := IntWalk.i64_in _ (by omega)
    obtain ⟨dg, hdg2⟩ : ∃ dg, c.toNat - 48 = dg := ⟨_, rfl⟩
    rw [hdg2] at hsub hsub2 hdg
    have hdg8 : dg < 8 := by omega
    have hget : D.getD n 0 = dg := by rw [List.getD_eq_getElem?_getD, List.getElem?_eq_getElem hnd]; exact hdg.2.2
    have Hget := hide hget
    clear hcq2 hdg hdg2 hget
    have hlen0 : (optRows (optsTo D hp n)).length < 1000000 := by
      rw [optRows_len]
      have h1 := optsTo_len D hp n
      have h2 : n * (2 + hp) ≤ 6 * 402 := Nat.mul_le_mul (by omega) (by omega)
      omega
    by_cases hnh : n < hp
    case neg =>
      go_wp2_with fail
      go_ret
      have hne : n = min D.length hp := by omega
      subst hne
      exact ⟨⟨_, rfl, by rw [HD.out]; exact Hrow.out⟩, Hbw.out⟩
    obtain ⟨r, hr⟩ : ∃ r, hp - (n + 1) = r := ⟨_, rfl⟩
    have hri : (hp : Int) - ((n : Int) + 1) = (r : Int) := by omega
    have hr400 : r ≤ 400 := by omega
    have Hr := hide hr
    clear hr
    by_cases hr0 : r = 0
    · have e0 : ((r : Int) == 0) = true := by simp [hr0]
      have hrle : (r : Int) ≤ 0 := by omega
      have hBB : optsB dg r = [] := by simp [optsB, hr0]
      by_cases cA : dg % 2 = 1
      · have eA : ((dg : Int) % 2 == 1) = true := by simp; omega
        have hAA : optsA dg r = [[]] := by simp [optsA, cA, hr0]
        have HAA := hide hAA
        have HBB := hide hBB
        have HAp := hide (Hrow.out.alloc (.cells #[.slice none 0 0] 26))
        have Hcell := hide (show (wr.alloc (.cells #[.slice none 0 0] 26)).cell? ⟨wr.heap.size, 0, none⟩ = some (.slice none 0 0) by simp [go_sem])
        clear hr0 hAA hBB cA
        go_wp2_with (at_builtin; refine wpList_pushrow _ rfl (.tmp 35) (.tmp 36) 25 rfl w.heap.size 26 s0 (.slice none 0 0) Try.underlying25 SI.out.1 SI.out.2.1 SI.out.2.2.1 SI.out.2.2.2 rfl _ _ rfl HAp.out none 0 0 (natsI []) wr.heap.size rfl Hcell.out rfl (Nat.le_refl _) Cells.nil_ (fun h0 => absurd h0 (by simp [natsI])) hlen0 ?h4 ?_)
        case h4 => first | omega | (simp; omega)
        intro v3 w3 hown3 hO3
        have HR2 := hide (show RowsOwn w3 w.heap.size 26 v3 (optRows (optsTo D hp n ++ optsA dg r ++ optsB dg r)) by
          rw [HAA.out, HBB.out, List.append_nil, optRows_app _ [[]]]; exact hown3)
        have HB2 := hide (Hbw.out.trans ((((Only.refl (fun k => w.heap.size ≤ k) wr).alloc (.cells #[.slice none 0 0] 26)).trans hO3).below_ (fun k h => h) hbsz))
        clear hown3 hO3
        go_wp2_with fail
        go_loopw [5, 9] (fun ov av wr => av = .int .i64 1 ∧ RowsOwn wr w.heap.size 26 ov (optRows (optsTo D hp n ++ optsA dg r ++ optsB dg r)) ∧ Below w.heap.size w wr) (fun _ _ _ => 0)
        case atStart => exact ⟨rfl, HR2.out, HB2.out⟩
        case round =>
          clear HR2 HB2
          obtain ⟨rfl, hrow3, hbw3⟩ := hrel
          have HR3 := hide hrow3
          have HB3 := hide hbw3
          clear hrow3 hbw3
          have hle : ¬ ((1 : Int) ≤ (r : Int) / 2) := by omega
          go_wp2_with fail
          go_roundw
          case rel =>
            refine ⟨n + 1, by omega, by go_num, ?_, HB3.out⟩
            have hx := HR3.out
            have hr0 : r = 0 := by omega
            have hC : optsC dg r (r / 2) = [] := by rw [hr0]; simp [optsC]
            rw [optsTo_succ, Hget.out, Hr.out]
            simpa [optsK, hC] using hx
          case measure => simp [intOf]; omega
      · have eA : ((dg : Int) % 2 == 1) = false := by simp; omega
        have hAA : optsA dg r = [] := by simp [optsA, cA]
        have HR2 := hide (show RowsOwn wr w.heap.size 26 _ (optRows (optsTo D hp n ++ optsA dg r ++ optsB dg r)) by
          rw [hAA, hBB, List.append_nil, List.append_nil]; exact Hrow.out)
        have HB2 := hide Hbw.out
        clear hr0 hAA hBB cA
        go_wp2_with fail
        go_loopw [5, 9] (fun ov av wr => av = .int .i64 1 ∧ RowsOwn wr w.heap.size 26 ov (optRows (optsTo D hp n ++ optsA dg r ++ optsB dg r)) ∧ Below w.heap.size w wr) (fun _ _ _ => 0)
        case atStart => exact ⟨rfl, HR2.out, HB2.out⟩
        case round =>
          clear HR2 HB2
          obtain ⟨rfl, hrow3, hbw3⟩ := hrel
          have HR3 := hide hrow3
          have HB3 := hide hbw3
          clear hrow3 hbw3
          have hle : ¬ ((1 : Int) ≤ (r : Int) / 2) := by omega
          go_wp2_with fail
          go_roundw
          case rel =>
            refine ⟨n + 1, by omega, by go_num, ?_, HB3.out⟩
            have hx := HR3.out
            have hr0 : r = 0 := by omega
            have hC : optsC dg r (r / 2) = [] := by rw [hr0]; simp [optsC]
            rw [optsTo_succ, Hget.out, Hr.out]
            simpa [optsK, hC] using hx
          case measure => simp [intOf]; omega
    · have e0 : ((r : Int) == 0) = false := by simp; omega
      have hrgt : 0 < (r : Int) := by omega
      have hAA : optsA dg r = [] := by simp [optsA, hr0]
      by_cases cB : dg / 2 % 2 = 1
      · have eB : ((dg : Int) / 2 % 2 == 1) = true := by simp; omega
        have hBB : optsB dg r = [[r]] := by simp [optsB, cB]; omega
        have HAA := hide hAA
        have HBB := hide hBB
        have HAp := hide ((Hrow.out.alloc (.cells #[.int .i64 (r : Int)] 3)).alloc (.cells #[.slice (some ⟨wr.heap.size, 0, none⟩) 1 1] 26))
        have Hcell := hide (show ((wr.alloc (.cells #[.int .i64 (r : Int)] 3)).alloc (.cells #[.slice (some ⟨wr.heap.size, 0, none⟩) 1 1] 26)).cell? ⟨wr.heap.size + 1, 0, none⟩ = some (.slice (some ⟨wr.heap.size, 0, none⟩) 1 1) by simp [go_sem])
        have Hcl := hide (show Cells ((wr.alloc (.cells #[.int .i64 (r : Int)] 3)).alloc (.cells #[.slice (some ⟨wr.heap.size, 0, none⟩) 1 1] 26)) (wr.heap.size + 1 + 1) (some ⟨wr.heap.size, 0, none⟩) (ints (natsI [r])) from fun _ => ⟨_, 0, rfl, by omega, fun k hk => by
          have hb : Blk ((wr.alloc (.cells #[.int .i64 (r : Int)] 3)).alloc (.cells #[.slice (some ⟨wr.heap.size, 0, none⟩) 1 1] 26)) wr.heap.size 3 #[.int .i64 (r : Int)] := (Blk.new _ _ _).alloc _
          rw [hb.cell]
          match k, hk with
          | 0, _ => simp [ints, natsI]⟩)
        have Hlt3 := hide Hrow.out.lt
        clear hr0 hAA hBB cB
        go_wp2_with (at_builtin; refine wpList_pushrow _ rfl (.tmp 46) (.tmp 49) 25 rfl w.heap.size 26 s0 (.slice none 0 0) Try.underlying25 SI.out.1 SI.out.2.1 SI.out.2.2.1 SI.out.2.2.2 rfl _ _ rfl HAp.out (some ⟨wr.heap.size, 0, none⟩) 1 1 (natsI [r]) (wr.heap.size + 1) rfl Hcell.out rfl (Nat.le_refl _) (by simpa using Hcl.out) (fun _ ad had hv => ?hne) hlen0 ?h4 ?_)
        case hne =>
          injection had with had
          subst had
          have := (Hlt3.out _ hv).2
          simp at this
        case h4 => first | omega | (simp; omega)
        intro v3 w3 hown3 hO3
        have HR2 := hide (show RowsOwn w3 w.heap.size 26 v3 (optRows (optsTo D hp n ++ optsA dg r ++ optsB dg r)) by
          rw [HAA.out, HBB.out, List.append_nil, optRows_app _ [[r]]]; exact hown3)
        have HB2 := hide (Hbw.out.trans (((((Only.refl (fun k => w.heap.size ≤ k) wr).alloc (.cells #[.int .i64 (r : Int)] 3)).alloc (.cells #[.slice (some ⟨wr.heap.size, 0, none⟩) 1 1] 26)).trans hO3).below_ (fun k h => h) hbsz))
        clear hown3 hO3
        go_wp2_with fail
        go_loopw [5, 9] (fun ov av wr => ∃ m : Nat, m ≤ r / 2 ∧ av = .int .i64 (m + 1 : Nat) ∧ RowsOwn wr w.heap.size 26 ov (optRows (optsTo D hp n ++ optsA dg r ++ optsB dg r ++ optsC dg r m)) ∧ Below w.heap.size w wr) (fun _ av _ => r + 1 - (intOf av).toNat)
        case atStart => exact ⟨0, by omega, rfl, by simpa [optsC] using HR2.out, HB2.out⟩
        case round =>
          clear HR2 HB2
          obtain ⟨m, hm, rfl, hrow3, hbw3⟩ := hrel
          have HR3 := hide hrow3
          have HB3 := hide hbw3
          have hbsz3 := hbw3.size
          have hcast : ((m + 1 : Nat) : Int) = (m : Int) + 1 := by omega
          have hr2 : (r : Int) / 2 = ((r / 2 : Nat) : Int) := rfl
          rw [hcast]
          have hlen := (show (optRows (optsTo D hp n ++ optsA dg r ++ optsB dg r ++ optsC dg r m)).length < 1000000 by
            rw [optRows_len]
            simp only [List.length_append]
            have h1 := optsTo_len D hp n
            have h2 : n * (2 + hp) ≤ 6 * 402 := Nat.mul_le_mul (by omega) (by omega)
            have h3 : (optsA dg r).length ≤ 1 := by unfold optsA; split <;> simp
            have h4 : (optsB dg r).length ≤ 1 := by unfold optsB; split <;> simp
            have h5 : (optsC dg r m).length ≤ m := by unfold optsC; split <;> simp
            omega)
          clear hrow3 hbw3 hcast hr2
          by_cases hlm : m < r / 2
          · have hle : (m : Int) + 1 ≤ (r : Int) / 2 := by omega
            by_cases c4 : dg / 4 = 1
            · have c4' : ((dg : Int) / 4 == 1) = true := by simp; omega
              obtain ⟨q, hq⟩ : ∃ q, r - (m + 1) = q := ⟨_, rfl⟩
              have hs' : (r : Int) - ((m : Int) + 1) = (q : Int) := by omega
              have HAp := hide ((HR3.out.alloc (.cells #[.int .i64 ((m : Int) + 1), .int .i64 (q : Int)] 3)).alloc (.cells #[.slice (some ⟨wr.heap.size, 0, none⟩) 2 2] 26))
              have Hcell := hide (show ((wr.alloc (.cells #[.int .i64 ((m : Int) + 1), .int .i64 (q : Int)] 3)).alloc (.cells #[.slice (some ⟨wr.heap.size, 0, none⟩) 2 2] 26)).cell? ⟨wr.heap.size + 1, 0, none⟩ = some (.slice (some ⟨wr.heap.size, 0, none⟩) 2 2) by simp [go_sem])
              have Hcl := hide (show Cells ((wr.alloc (.cells #[.int .i64 ((m : Int) + 1), .int .i64 (q : Int)] 3)).alloc (.cells #[.slice (some ⟨wr.heap.size, 0, none⟩) 2 2] 26)) (wr.heap.size + 1 + 1) (some ⟨wr.heap.size, 0, none⟩) (ints (natsI [m + 1, q])) from fun _ => ⟨_, 0, rfl, by omega, fun k hk => by
                have hb : Blk ((wr.alloc (.cells #[.int .i64 ((m : Int) + 1), .int .i64 (q : Int)] 3)).alloc (.cells #[.slice (some ⟨wr.heap.size, 0, none⟩) 2 2] 26)) wr.heap.size 3 #[.int .i64 ((m : Int) + 1), .int .i64 (q : Int)] := (Blk.new _ _ _).alloc _
                rw [hb.cell]
                match k, hk with
                | 0, _ => simp [ints, natsI]
                | 1, _ => simp [ints, natsI]⟩)
              have Hq := hide hq
              have hlt3 := HR3.out.lt
              have Hlt3 := hide hlt3
              have C4 := hide c4
              clear hq hlt3 c4
              go_wp2_with (at_builtin; refine wpList_pushrow _ rfl (.tmp 62) (.tmp 68) 25 rfl w.heap.size 26 s0 (.slice none 0 0) Try.underlying25 SI.out.1 SI.out.2.1 SI.out.2.2.1 SI.out.2.2.2 rfl _ _ rfl HAp.out (some ⟨wr.heap.size, 0, none⟩) 2 2 (natsI [m + 1, q]) (wr.heap.size + 1) rfl Hcell.out rfl (Nat.le_refl _) (by simpa using Hcl.out) (fun _ ad had hv => ?hne) hlen ?h4 ?_)
              case hne =>
                injection had with had
                subst had
                have := (Hlt3.out _ hv).2
                simp at this
              case h4 => first | omega | (simp; omega)
              intro v3 w3 hown3 hO3
              have Hown3 := hide hown3
              have HO3 := hide hO3
              clear hown3 hO3
              go_wp2_with fail
              go_roundw
              case rel =>
                have hO4 := (((Only.refl (fun k => w.heap.size ≤ k) wr).alloc (.cells #[.int .i64 ((m : Int) + 1), .int .i64 (q : Int)] 3)).alloc (.cells #[.slice (some ⟨wr.heap.size, 0, none⟩) 2 2] 26)).trans HO3.out
                refine ⟨m + 1, by omega, by go_num, ?_, HB3.out.trans (hO4.below_ (fun k h => h) hbsz3)⟩
                have hx := Hown3.out
                rw [optsC_succ C4.out, Hq.out]
                simpa [optRows, List.append_assoc] using hx
              case measure => simp [intOf]; omega
            · have c4' : ((dg : Int) / 4 == 1) = false := by simp; omega
              have C4 := hide c4
              clear c4
              go_wp2_with fail
              go_roundw
              case rel =>
                refine ⟨n + 1, by omega, by go_num, ?_, HB3.out⟩
                have hx := HR3.out
                have hC : ∀ m, optsC dg r m = [] := fun m => by simp [optsC, C4.out]
                rw [hC] at hx
                rw [optsTo_succ, Hget.out, Hr.out]
                simpa [optsK, hC] using hx
              case measure => simp [intOf]; omega
          · have hle : ¬ ((m : Int) + 1 ≤ (r : Int) / 2) := by omega
            have hme : m = r / 2 := by omega
            have Hme := hide hme
            clear hme
            go_wp2_with fail
            go_roundw
            case rel =>
              refine ⟨n + 1, by omega, by go_num, ?_, HB3.out⟩
              have hx := HR3.out
              rw [Hme.out] at hx
              rw [optsTo_succ, Hget.out, Hr.out]
              simpa [optsK] using hx
            case measure => simp [intOf]; omega
      · have eB : ((dg : Int) / 2 % 2 == 1) = false := by simp; omega
        have hBB : optsB dg r = [] := by simp [optsB, cB]
        have HR2 := hide (show RowsOwn wr w.heap.size 26 _ (optRows (optsTo D hp n ++ optsA dg r ++ optsB dg r)) by
          rw [hAA, hBB, List.append_nil, List.append_nil]; exact Hrow.out)
        have HB2 := hide Hbw.out
        clear hr0 hAA hBB cB
        go_wp2_with fail
        go_loopw [5, 9] (fun ov av wr => ∃ m : Nat, m ≤ r / 2 ∧ av = .int .i64 (m + 1 : Nat) ∧ RowsOwn wr w.heap.size 26 ov (optRows (optsTo D hp n ++ optsA dg r ++ optsB dg r ++ optsC dg r m)) ∧ Below w.heap.size w wr) (fun _ av _ => r + 1 - (intOf av).toNat)
        case atStart => exact ⟨0, by omega, rfl, by simpa [optsC] using HR2.out, HB2.out⟩
        case round =>
          clear HR2 HB2
          obtain ⟨m, hm, rfl, hrow3, hbw3⟩ := hrel
          have HR3 := hide hrow3
          have HB3 := hide hbw3
          have hbsz3 := hbw3.size
          have hcast : ((m + 1 : Nat) : Int) = (m : Int) + 1 := by omega
          have hr2 : (r : Int) / 2 = ((r / 2 : Nat) : Int) := rfl
          rw [hcast]
          have hlen := (show (optRows (optsTo D hp n ++ optsA dg r ++ optsB dg r ++ optsC dg r m)).length < 1000000 by
            rw [optRows_len]
            simp only [List.length_append]
            have h1 := optsTo_len D hp n
            have h2 : n * (2 + hp) ≤ 6 * 402 := Nat.mul_le_mul (by omega) (by omega)
            have h3 : (optsA dg r).length ≤ 1 := by unfold optsA; split <;> simp
            have h4 : (optsB dg r).length ≤ 1 := by unfold optsB; split <;> simp
            have h5 : (optsC dg r m).length ≤ m := by unfold optsC; split <;> simp
            omega)
          clear hrow3 hbw3 hcast hr2
          by_cases hlm : m < r / 2
          · have hle : (m : Int) + 1 ≤ (r : Int) / 2 := by omega
            by_cases c4 : dg / 4 = 1
            · have c4' : ((dg : Int) / 4 == 1) = true := by simp; omega
              obtain ⟨q, hq⟩ : ∃ q, r - (m + 1) = q := ⟨_, rfl⟩
              have hs' : (r : Int) - ((m : Int) + 1) = (q : Int) := by omega
              have HAp := hide ((HR3.out.alloc (.cells #[.int .i64 ((m : Int) + 1), .int .i64 (q : Int)] 3)).alloc (.cells #[.slice (some ⟨wr.heap.size, 0, none⟩) 2 2] 26))
              have Hcell := hide (show ((wr.alloc (.cells #[.int .i64 ((m : Int) + 1), .int .i64 (q : Int)] 3)).alloc (.cells #[.slice (some ⟨wr.heap.size, 0, none⟩) 2 2] 26)).cell? ⟨wr.heap.size + 1, 0, none⟩ = some (.slice (some ⟨wr.heap.size, 0, none⟩) 2 2) by simp [go_sem])
              have Hcl := hide (show Cells ((wr.alloc (.cells #[.int .i64 ((m : Int) + 1), .int .i64 (q : Int)] 3)).alloc (.cells #[.slice (some ⟨wr.heap.size, 0, none⟩) 2 2] 26)) (wr.heap.size + 1 + 1) (some ⟨wr.heap.size, 0, none⟩) (ints (natsI [m + 1, q])) from fun _ => ⟨_, 0, rfl, by omega, fun k hk => by
                have hb : Blk ((wr.alloc (.cells #[.int .i64 ((m : Int) + 1), .int .i64 (q : Int)] 3)).alloc (.cells #[.slice (some ⟨wr.heap.size, 0, none⟩) 2 2] 26)) wr.heap.size 3 #[.int .i64 ((m : Int) + 1), .int .i64 (q : Int)] := (Blk.new _ _ _).alloc _
                rw [hb.cell]
                match k, hk with
                | 0, _ => simp [ints, natsI]
                | 1, _ => simp [ints, natsI]⟩)
              have Hq := hide hq
              have hlt3 := HR3.out.lt
              have Hlt3 := hide hlt3
              have C4 := hide c4
              clear hq hlt3 c4
              go_wp2_with (at_builtin; refine wpList_pushrow _ rfl (.tmp 62) (.tmp 68) 25 rfl w.heap.size 26 s0 (.slice none 0 0) Try.underlying25 SI.out.1 SI.out.2.1 SI.out.2.2.1 SI.out.2.2.2 rfl _ _ rfl HAp.out (some ⟨wr.heap.size, 0, none⟩) 2 2 (natsI [m + 1, q]) (wr.heap.size + 1) rfl Hcell.out rfl (Nat.le_refl _) (by simpa using Hcl.out) (fun _ ad had hv => ?hne) hlen ?h4 ?_)
              case hne =>
                injection had with had
                subst had
                have := (Hlt3.out _ hv).2
                simp at this
              case h4 => first | omega | (simp; omega)
              intro v3 w3 hown3 hO3
              have Hown3 := hide hown3
              have HO3 := hide hO3
              clear hown3 hO3
              go_wp2_with fail
              go_roundw
              case rel =>
                have hO4 := (((Only.refl (fun k => w.heap.size ≤ k) wr).alloc (.cells #[.int .i64 ((m : Int) + 1), .int .i64 (q : Int)] 3)).alloc (.cells #[.slice (some ⟨wr.heap.size, 0, none⟩) 2 2] 26)).trans HO3.out
                refine ⟨m + 1, by omega, by go_num, ?_, HB3.out.trans (hO4.below_ (fun k h => h) hbsz3)⟩
                have hx := Hown3.out
                rw [optsC_succ C4.out, Hq.out]
                simpa [optRows, List.append_assoc] using hx
              case measure => simp [intOf]; omega
            · have c4' : ((dg : Int) / 4 == 1) = false := by simp; omega
              have C4 := hide c4
              clear c4
              go_wp2_with fail
              go_roundw
              case rel =>
                refine ⟨n + 1, by omega, by go_num, ?_, HB3.out⟩
                have hx := HR3.out
                have hC : ∀ m, optsC dg r m = [] := fun m => by simp [optsC, C4.out]
                rw [hC] at hx
                rw [optsTo_succ, Hget.out, Hr.out]
                simpa [optsK, hC] using hx
              case measure => simp [intOf]; omega
          · have hle : ¬ ((m : Int) + 1 ≤ (r : Int) / 2) := by omega
            have hme : m = r / 2 := by omega
            have Hme := hide hme
            clear hme
            go_wp2_with fail
            go_roundw
            case rel =>
              refine ⟨n + 1, by omega, by go_num, ?_, HB3.out⟩
              have hx := HR3.out
              rw [Hme.out] at hx
              rw [optsTo_succ, Hget.out, Hr.out]
              simpa [optsK] using hx
            case measure => simp [intOf]; omega
end Go.Proofs.Ytfoehijlafooaaa
