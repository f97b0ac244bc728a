/- gamekeep.NimTrue's closure: who wins where heap i is taken away and others are put in its place? -/
import Derived.Test.YtfoehijlafooaaaNtPlain
import Derived.Test.YtfoehijlafooaaaAppends
import Derived.Test.YtfoehijlafooaaaNimWin
namespace Go.Proofs.Ytfoehijlafooaaa
open Go.RowKit

/-- what the closure answers -/
def AfRel (d ms : List Nat) (bw : Bool) (ew : Int) : Prop :=
  (20 < ms.length ∧ bw = false ∧ ew = 4) ∨ (xorP (gv d) ms = 0 ∧ bw = false ∧ ew = 0) ∨ (xorP (gv d) ms ≠ 0 ∧ bw = true ∧ ew = 0)

theorem win_shape (s : ByteArray) (hsz : s.size ≤ 9223372036854775807) (hok : CodeOk s.data.toList) (ms : List Nat) (q : Nat) (hq : ms.length = q) (hq9 : q ≤ 100) (hms : ∀ x ∈ ms, x ≤ 400) (A : Option Addr) (c : Nat) (w : World) (hA : Cells w w.heap.size A (ints (natsI ms))) :
    Calls Try.prog 26 #[.string s, .slice A q c] w fun e w' => (∃ bw ew a A' n' c', e = .returned (.tuple #[.bool bw, .agg #[.int .i64 a, .slice A' n' c'], .int .i64 ew]) ∧ AfRel (digsOf s.data.toList) ms bw ew) ∧ Below w.heap.size w w' := by
  subst hq
  have h := win_any s A c (natsI ms) w hsz (by rw [natsI_len]; omega) hA
  rw [natsI_len] at h
  refine h.mono ?_
  rintro e w' ⟨hb, ⟨hno, _⟩ | ⟨_, hno, rfl⟩ | ⟨_, ns, hns, hle, h20, hg⟩⟩
  · exact absurd hok hno
  · refine ⟨⟨_, _, _, _, _, _, rfl, .inl ⟨?_, rfl, rfl⟩⟩, hb⟩
    rcases Nat.lt_or_ge 20 ms.length with h1 | h1
    · exact h1
    · refine absurd ⟨fun x hx => ?_, by rw [natsI_len]; exact h1⟩ hno
      simp only [natsI, List.mem_map] at hx
      obtain ⟨y, hy, rfl⟩ := hx
      have := hms y hy
      simp; omega
  · have he : ns = ms := by
      have h1 : ns.map Int.ofNat = ms.map Int.ofNat := hns.symm
      exact (List.map_inj_right (fun a b h => by injection h)).1 h1
    subst he
    rcases hg with ⟨h0, rfl⟩ | ⟨h0, i, hi, dn, ps, A', c', rfl, _⟩
    · exact ⟨⟨_, _, _, _, _, _, rfl, .inr (.inl ⟨h0, rfl, rfl⟩)⟩, hb⟩
    · exact ⟨⟨_, _, _, _, _, _, rfl, .inr (.inr ⟨h0, rfl, rfl⟩)⟩, hb⟩

def AfAns (d ms : List Nat) (e : Ending) : Prop := ∃ bw ew, e = .returned (.tuple #[.bool bw, .int .i64 ew]) ∧ AfRel d ms bw ew

set_option maxHeartbeats 4000000 in
set_option maxRecDepth 100000 in
theorem after_any (s : ByteArray) (hsz : s.size ≤ 9223372036854775807) (hok : CodeOk s.data.toList) (ns : List Nat) (hns : ∀ x ∈ ns, x ≤ 400) (h20 : ns.length ≤ 20) (i : Nat) (hi : i < ns.length) (ps : List Nat) (hps : ps ∈ opts (digsOf s.data.toList) ns[i])
    (A : Option Addr) (c : Nat) (hc : ns.length ≤ c) (hcm : c ≤ maxLen) (Ap : Option Addr) (cp : Nat) (pH pC : Nat) (W : World)
    (hA : Cells W W.heap.size A (ints (natsI ns))) (hAp : Cells W W.heap.size Ap (ints (natsI ps))) (bH : Blk W pH 26 #[.slice A ns.length c]) (bC : Blk W pC 9 #[.string s]) :
    Calls Try.prog 30 #[.int .i64 i, .slice Ap ps.length cp, .pointer (some ⟨pH, 0, none⟩), .pointer (some ⟨pC, 0, none⟩)] W fun e w' =>
      AfAns (digsOf s.data.toList) (swapAt ns i ps) e ∧ Below W.heap.size W w' := by
  have hpl := opts_parts hps
  have hpx := opts_lt hps
  obtain ⟨b, off, rfl, hbW, hcs⟩ := hA (by simp [natsI]; omega)
  unfold maxLen at hcm
  have hAn : Ap = none → ints (natsI ps) = [] := by
    intro e
    cases ps with
    | nil => rfl
    | cons a l => obtain ⟨b, o, e2, _⟩ := hAp.at_ (k := 0) (by simp [natsI]); rw [e] at e2; exact absurd e2 (by simp)
  have h1 : Cells W W.heap.size (some ⟨b, off, none⟩) (ints (natsI (ns.take i))) := fun hn => ⟨b, off, rfl, hbW, fun k hk => by
    simp only [ints_length, natsI_len, List.length_take] at hk
    rw [hcs k (by simp [natsI]; omega)]
    simp [ints, natsI]⟩
  obtain ⟨A2, hA2⟩ : ∃ A2 : Option Addr, A2 = if c = i + 1 then some ⟨b, off, none⟩ else some ⟨b, off + (i + 1), none⟩ := ⟨_, rfl⟩
  have h2 : Cells W W.heap.size A2 (ints (natsI (ns.drop (i + 1)))) := fun hn => by
    simp only [ints_length, natsI_len, List.length_drop] at hn
    refine ⟨b, off + (i + 1), by rw [hA2, if_neg (by omega)], hbW, fun k hk => ?_⟩
    simp only [ints_length, natsI_len, List.length_drop] at hk
    have e : off + (i + 1) + k = off + (i + 1 + k) := by omega
    rw [e, hcs (i + 1 + k) (by simp [natsI]; omega)]
    simp [ints, natsI]
  have hA2n : A2 = none → ints (natsI (ns.drop (i + 1))) = [] := by
    rw [hA2]; split <;> simp
  have eH := bH.cell 0
  have eC := bC.cell 0
  simp at eH eC
  have k1 : (0 : Int) ≤ (i : Int) := by omega
  have k2 : (i : Int) ≤ (c : Int) := by omega
  have k3 : (i : Int) + 1 ≤ (ns.length : Int) := by omega
  have k4 : (ns.length : Int) ≤ (c : Int) := by omega
  have k5 : (c : Int) ≤ 9223372036854775807 := by omega
  obtain ⟨i0, hi0, hz0, hz1, hz2⟩ := info_parts info_int
  have HJ := hide (And.intro hi0 (And.intro hz0 (And.intro hz1 hz2)))
  have H1 := hide h1
  have H2 := hide h2
  have HAp := hide hAp
  have HAn := hide hAn
  have HA2n := hide hA2n
  have Hns := hide hns
  have Hok := hide hok
  have Hpx := hide hpx
  have BH := hide bH
  have BC := hide bC
  have HA2 := hide hA2
  have Hps := hide hps
  have q1 : IntKind.i64.wrap ((i : Int) + 1) = (i : Int) + 1 := IntWalk.i64_in _ (by omega)
  have q2 : ((i : Int) + 1).toNat = i + 1 := by omega
  clear hi0 hz0 hz1 hz2 h1 h2 hAp hAn hA2n hns hok hpx bH bC hA2 hcs hps
  have k6 : (0 : Int) ≤ (i : Int) + 1 := by omega
  have hsl : ∀ w : World, (Instr.slice 26 (.slice (some ⟨b, off, none⟩) ns.length c) (some (.int .i64 ((i : Int) + 1))) none none).run Try.prog w = .ok (.slice A2 (ns.length - (i + 1)) (c - (i + 1))) w := fun w => by
    rw [HA2.out]
    by_cases hci : c = i + 1
    · go_simp
      try simp [hci]
    · go_simp
      try simp [hci]
  go_enter Try.func30, Try.ntmps30
  go_wp2_with fail
  go_region_held3 (fun w' => w'.cell? ⟨pH, 0, none⟩ = some (.slice (some ⟨b, off, none⟩) ns.length c)) (first | assumption)
      ((first | (refine step_appends rfl (.const (.slice none 0 0)) (.tmp 14) 26 (by rfl) W.heap.size 3 i0 (.int .i64 0) 8 Try.underlying26 HJ.out.1 HJ.out.2.1 HJ.out.2.2.1 HJ.out.2.2.2 rfl (.slice none 0 0) 0 [] (by rfl) (World.ownsRow_nil _ _ _ _) W.heap.size (some ⟨b, off, none⟩) c (ints (natsI (ns.take i))) i (by simp [natsI]; omega) (by rfl) H1.out (by simp [ints, Value.oneCell']) (fun e => by simp at e) (by simp [natsI]; unfold maxLen; omega) (by simp [natsI]; omega) (Nat.le_refl _) i (by omega) ?_; intro A1 c1 wa hown1 hgr1; have eH1 := ((grown_cell hgr1 ⟨pH, 0, none⟩ BH.out.lt (show some pH ≠ none from nofun)).trans eH); have Hb1 := hide (show Below W.heap.size W wa from below_undrew (grown_below hgr1 (Nat.le_refl _) nofun)); have Hown1 := hide hown1; clear hown1 hgr1)
              | (refine step_appends rfl (.tmp 15) (.tmp 19) 26 (by rfl) W.heap.size 3 i0 (.int .i64 0) 8 Try.underlying26 HJ.out.1 HJ.out.2.1 HJ.out.2.2.1 HJ.out.2.2.2 rfl _ i _ (by rfl) Hown1.out W.heap.size A2 (c - (i + 1)) (ints (natsI (ns.drop (i + 1)))) (ns.length - (i + 1)) (by simp [natsI]) (by rfl) (H2.out.below Hb1.out) (by simp [ints, Value.oneCell']) HA2n.out (by simp [natsI]; unfold maxLen; omega) (by simp [natsI]; omega) Hb1.out.size (ns.length - 1) (by omega) ?_; intro A3 c3 w3 hown3 hgr3; have Hb3 := hide (Hb1.out.trans (grown_below hgr3 Hb1.out.size (fun k hk => (Hown1.out.lt k hk).1))); have eH3 : w3.cell? ⟨pH, 0, none⟩ = some (.slice (some ⟨b, off, none⟩) ns.length c) := (Hb3.out.cell (p := ⟨pH, 0, none⟩) BH.out.lt).trans eH; have Hown3 := hide hown3; clear hown3 hgr3)))
  have EC := hide eC
  have eC3 : w3.cell? ⟨pC, 0, none⟩ = some (.string s) := (Hb3.out.cell (p := ⟨pC, 0, none⟩) BC.out.lt).trans eC
  clear eH eH1 eH3 eC
  have HWin := hide fun (A4 : Option Addr) (c4 : Nat) (w4 : World) (hown : w4.ownsRow W.heap.size 3 1 (.slice A4 (ns.length - 1 + ps.length) c4) (ns.length - 1 + ps.length) ([] ++ ints (natsI (ns.take i)) ++ ints (natsI (ns.drop (i + 1))) ++ ints (natsI ps))) (hb : Below W.heap.size W w4) =>
    (win_shape s hsz Hok.out (swapAt ns i ps) (ns.length - 1 + ps.length) (swapAt_len ns i hi ps) (by omega) (swapAt_le hi Hns.out Hpx.out) A4 c4 w4 (by
      obtain ⟨A6, c6, h6, _, _, h7⟩ := Cells.of_own hown
      injection h6 with h61 h62 h63
      subst h61
      simpa [swapAt, ints, natsI] using h7)).mono (fun e w' h => (⟨h.1, hb.trans (h.2.mono hb.size), h.2⟩ : (∃ bw ew a A' n' c', e = .returned (.tuple #[.bool bw, .agg #[.int .i64 a, .slice A' n' c'], .int .i64 ew]) ∧ AfRel (digsOf s.data.toList) (swapAt ns i ps) bw ew) ∧ Below W.heap.size W w' ∧ Below w4.heap.size w4 w'))
  go_wp2_with fail
  go_region_held3 (fun w' => w'.cell? ⟨pC, 0, none⟩ = some (.string s)) (first | assumption | (refine Eq.trans (Below.cell (B := W.heap.size) (w := W) (p := ⟨pC, 0, none⟩) ?_ BC.out.lt) EC.out; repeat (first | exact Hb3.out | exact Hb4.out | exact Hb5.out | refine below_drew_ ?_ | refine below_alloc0 ?_ _ | refine below_set0 ?_ Hb4.out.size _ | refine below_set0 ?_ Hb3.out.size _)))
      ((first | (go_at_call 26; refine (HWin.out A4 c4 _ (by repeat (first | exact Hown4.out | refine ownsRow_alloc0 ?_ _ | refine ownsRow_drew0 ?_)) (by repeat (first | exact Hb4.out | refine below_drew_ ?_ | refine below_alloc0 ?_ _))).mono ?_; rintro e w5 ⟨⟨bw, ew, a5, A5, n5, c5, rfl, hrel⟩, hb5, hb6⟩; have Hrel := hide hrel; have Hb5 := hide hb5; have eC5 : w5.cell? ⟨pC, 0, none⟩ = some (.string s) := (Hb5.out.cell (p := ⟨pC, 0, none⟩) BC.out.lt).trans EC.out; (try (have bx5 := (Blk.new w4 50 #[.int .i64 0, .slice none 0 0]).below hb6 (by simp); have y0 := bx5.cell 0; have y1 := bx5.cell 1; have y2 := bx5.free 0; have y3 := bx5.free 1; simp at y0 y1; clear bx5)); (try (have bx6 := bx4.out.below hb6 bx4.out.lt; have y0 := bx6.cell 0; have y1 := bx6.cell 1; have y2 := bx6.free 0; have y3 := bx6.free 1; simp at y0 y1; clear bx6)); clear hrel hb5 hb6)
              | (refine step_appends (o := ⟨some 25, _, _, _, _, _⟩) rfl (.tmp 23) (.tmp 24) 26 (by rfl) W.heap.size 3 i0 (.int .i64 0) 8 Try.underlying26 HJ.out.1 HJ.out.2.1 HJ.out.2.2.1 HJ.out.2.2.2 rfl (.slice A3 (ns.length - 1) c3) (ns.length - 1) ([] ++ ints (natsI (ns.take i)) ++ ints (natsI (ns.drop (i + 1)))) (by rfl) (by first | exact Hown3.out | exact Hown3.out.alloc _) W.heap.size Ap cp (ints (natsI ps)) ps.length (by simp [natsI]) (by rfl) (HAp.out.below (by repeat (first | exact Hb3.out | refine below_drew_ ?_ | refine below_alloc0 ?_ _))) (by simp [ints, Value.oneCell']) HAn.out (by simp [natsI]; unfold maxLen; omega) (by simp [natsI]; omega) (Below.size (w := W) (B := W.heap.size) (by repeat (first | exact Hb3.out | refine below_drew_ ?_ | refine below_alloc0 ?_ _))) (ns.length - 1 + ps.length) (by omega) ?_; intro A4 c4 w4 hown4 hgr4; have Hb4 := hide (show Below W.heap.size W w4 from Below.trans (B := W.heap.size) (by repeat (first | exact Hb3.out | refine below_drew_ ?_ | refine below_alloc0 ?_ _)) (grown_below hgr4 (Below.size (w := W) (B := W.heap.size) (by repeat (first | exact Hb3.out | refine below_drew_ ?_ | refine below_alloc0 ?_ _))) (fun k hk => (Hown3.out.lt k hk).1))); have eC4 : w4.cell? ⟨pC, 0, none⟩ = some (.string s) := (Hb4.out.cell (p := ⟨pC, 0, none⟩) BC.out.lt).trans EC.out; have Hown4 := hide hown4; (try have bx4 := hide ((Blk.new w3 50 #[.int .i64 0, .slice none 0 0]).drew.grown hgr4 (fun h => absurd ((Hown3.out.lt _ h.symm).2) (Nat.lt_irrefl _)))); clear hown4 hgr4)))
  all_goals
    clear eC3
    go_wp2_with fail
    go_ret2
    refine ⟨⟨bw, ew, rfl, Hrel.out⟩, ?_⟩
    repeat (first | exact Hb5.out | refine below_drew_ ?_ | refine below_alloc0 ?_ _ | refine below_set0 ?_ Hb4.out.size _ | refine below_set0 ?_ Hb3.out.size _)
end Go.Proofs.Ytfoehijlafooaaa
