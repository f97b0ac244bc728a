/- board.Least: the order of positions -/
import Derived.Test.YtfoehijlafooaaaBoardExch
import Derived.Test.YtfoehijlafooaaaShelf
import Derived.Test.YtfoehijlafooaaaOrderPlain
namespace Go.Proofs.Ytfoehijlafooaaa
open Go.RowKit


set_option maxHeartbeats 1000000 in
set_option maxRecDepth 100000 in
theorem or_any (x y z : Int) (g : Nat) (w : World) (c0 : w.cell? ⟨g, 0, none⟩ = some (.int .i64 x)) (c1 : w.cell? ⟨g, 1, none⟩ = some (.int .i64 y)) (c2 : w.cell? ⟨g, 2, none⟩ = some (.int .i64 z)) :
    Calls Try.prog 48 #[.slice (some ⟨g, 0, none⟩) 3 3] w fun e w' => e = .returned (.int .i64 (or3 x y z)) ∧ w' = w := by
  have C0 := hide c0
  have C1 := hide c1
  have C2 := hide c2
  clear c0 c1 c2
  go_enter Try.func48, Try.ntmps48
  go_wp2_with fail
  go_loop [8] (fun idx => ∃ k : Nat, k ≤ 3 ∧ idx = .int .i64 k ∧ (0 < k → x = 0) ∧ (1 < k → y = 0) ∧ (2 < k → z = 0)) (fun idx => 3 - (intOf idx).toNat)
  case atStart => exact ⟨0, by omega, rfl, by omega, by omega, by omega⟩
  case round =>
    obtain ⟨k, hk, rfl, h1, h2, h3⟩ := hrel
    have H1 := hide h1
    have H2 := hide h2
    have H3 := hide h3
    clear h1 h2 h3
    by_cases k0 : k = 0
    · subst k0
      have e0 := C0.out
      by_cases hx : x = 0
      · have q : (x != 0) = false := by simp [hx]
        have Hx := hide hx
        clear hx
        go_wp2_with fail
        go_round
        case rel => exact ⟨1, by omega, rfl, fun _ => Hx.out, by omega, by omega⟩
        case measure => simp [intOf]
      · have q : (x != 0) = true := by simp [hx]
        have hf := hide (show x = or3 x y z by simp [or3, hx])
        clear hx
        go_wp2_with fail
        go_ret
        exact ⟨ret_int hf.out, rfl⟩
    · by_cases k1 : k = 1
      · subst k1
        have e1 := C1.out
        by_cases hy : y = 0
        · have q : (y != 0) = false := by simp [hy]
          have Hy := hide hy
          clear hy
          go_wp2_with fail
          go_round
          case rel => exact ⟨2, by omega, rfl, fun _ => H1.out (by omega), fun _ => Hy.out, by omega⟩
          case measure => simp [intOf]
        · have q : (y != 0) = true := by simp [hy]
          have hf := hide (show y = or3 x y z by rw [H1.out (by omega)]; simp [or3, hy])
          clear hy
          go_wp2_with fail
          go_ret
          exact ⟨ret_int hf.out, rfl⟩
      · by_cases k2 : k = 2
        · subst k2
          have e2 := C2.out
          by_cases hz : z = 0
          · have q : (z != 0) = false := by simp [hz]
            have Hz := hide hz
            clear hz
            go_wp2_with fail
            go_round
            case rel => exact ⟨3, by omega, rfl, fun _ => H1.out (by omega), fun _ => H2.out (by omega), fun _ => Hz.out⟩
            case measure => simp [intOf]
          · have q : (z != 0) = true := by simp [hz]
            have hf := hide (show z = or3 x y z by rw [H1.out (by omega), H2.out (by omega)]; simp [or3])
            clear hz
            go_wp2_with fail
            go_ret
            exact ⟨ret_int hf.out, rfl⟩
        · obtain rfl : k = 3 := by omega
          have hf := hide (show 0 = or3 x y z by rw [H1.out (by omega), H2.out (by omega), H3.out (by omega)]; simp [or3])
          go_wp2_with fail
          go_ret
          exact ⟨ret_int hf.out, rfl⟩

theorem Blk.put6 {w : World} {g : Nat} {t : TypeId} {a b c d e f : Value} (h : Blk w g t #[a, b, c, d, e, f]) (a' b' c' d' e' f' : Value) :
    Blk ((((((w.setCell ⟨g, 0, none⟩ a').setCell ⟨g, 1, none⟩ b').setCell ⟨g, 2, none⟩ c').setCell ⟨g, 3, none⟩ d').setCell ⟨g, 4, none⟩ e').setCell ⟨g, 5, none⟩ f') g t #[a', b', c', d', e', f'] :=
  (((((h.set_ 0 a').set_ 1 b').set_ 2 c').set_ 3 d').set_ 4 e').set_ 5 f'
theorem only_put6 {S : Nat → Prop} {w0 w : World} {g : Nat} (h : Only S w0 w) (hg : S g ∨ w0.heap.size ≤ g) (a' b' c' d' e' f' : Value) :
    Only S w0 ((((((w.setCell ⟨g, 0, none⟩ a').setCell ⟨g, 1, none⟩ b').setCell ⟨g, 2, none⟩ c').setCell ⟨g, 3, none⟩ d').setCell ⟨g, 4, none⟩ e').setCell ⟨g, 5, none⟩ f') :=
  (((((h.setCell hg a').setCell hg b').setCell hg c').setCell hg d').setCell hg e').setCell hg f'
theorem below_put6 {B : Nat} {w0 w : World} {g : Nat} (h : Below B w0 w) (hg : B ≤ g) (a' b' c' d' e' f' : Value) :
    Below B w0 ((((((w.setCell ⟨g, 0, none⟩ a').setCell ⟨g, 1, none⟩ b').setCell ⟨g, 2, none⟩ c').setCell ⟨g, 3, none⟩ d').setCell ⟨g, 4, none⟩ e').setCell ⟨g, 5, none⟩ f') :=
  (((((h.setCell hg a').setCell hg b').setCell hg c').setCell hg d').setCell hg e').setCell hg f'
def posC (p : Pos) : Array Value := #[.int .i64 p.w, .int .i64 p.h, .string p.cells, .int .i64 p.turn, .string p.h0, .string p.h1]
def zeroC : Array Value := #[.int .i64 0, .int .i64 0, .string ⟨#[]⟩, .int .i64 0, .string ⟨#[]⟩, .string ⟨#[]⟩]
/-- what is known at the head of a round -/
def LstRel (p : Pos) (ks : List Nat) (g : Nat) (i : Nat) (wv : Value) (w : World) : Prop :=
  (i = 0 ∧ wv = .int .i64 (-1) ∧ Blk w g 36 zeroC) ∨ (0 < i ∧ wv = .int .i64 (leastK p (ks.take i)) ∧ Blk w g 36 (posC (turnP p (leastK p (ks.take i)))))

set_option maxHeartbeats 4000000 in
set_option maxRecDepth 100000 in
/-- whatever comes -/
theorem least_any (w h t : Int) (c h0 h1 : ByteArray) (A : Option Addr) (cA : Nat) (ls : List Int) (W : World) (hc9 : c.size ≤ 9223372036854775807) (l0 : h0.size ≤ 9223372036854775807) (l1 : h1.size ≤ 9223372036854775807) (hl : ls.length ≤ 9223372036854775807) (hA : Cells W W.heap.size A (ints ls)) :
    Calls Try.prog 20 #[.agg #[.int .i64 w, .int .i64 h, .string c, .int .i64 t, .string h0, .string h1], .slice A ls.length cA] W fun e w' =>
      (¬ (ls ≠ [] ∧ PosOk ⟨w, h, c, t, h0, h1⟩ ∧ ∀ k ∈ ls, 0 ≤ k ∧ k ≤ 7) → e = .returned (.tuple #[noPos, .int .i64 0, .int .i64 1])) ∧
      (ls ≠ [] ∧ PosOk ⟨w, h, c, t, h0, h1⟩ ∧ (∀ k ∈ ls, 0 ≤ k ∧ k ≤ 7) → e = .returned (.tuple #[posV (turnP ⟨w, h, c, t, h0, h1⟩ (leastK ⟨w, h, c, t, h0, h1⟩ (ls.map Int.toNat))), .int .i64 (leastK ⟨w, h, c, t, h0, h1⟩ (ls.map Int.toNat)), .int .i64 0])) ∧ Below W.heap.size W w' := by
  obtain ⟨ks, hks⟩ : ∃ ks : List Nat, ls.map Int.toNat = ks := ⟨_, rfl⟩
  have hkl : ks.length = ls.length := by rw [← hks]; simp
  rw [hks]
  have Hkl := hide hkl
  have Hks := hide hks
  have HA := hide hA
  clear hks hA hkl
  go_enter Try.func20, Try.ntmps20
  go_wp2_with fail
  have b0 := ((Blk.new W 36 #[.int .i64 w, .int .i64 h, .string c, .int .i64 t, .string h0, .string h1]).alloc (.cells zeroC 36)).alloc (.cells zeroC 36)
  have b1 := (Blk.new (W.alloc (.cells #[.int .i64 w, .int .i64 h, .string c, .int .i64 t, .string h0, .string h1] 36)) 36 zeroC).alloc (.cells zeroC 36)
  have b2 := Blk.new ((W.alloc (.cells #[.int .i64 w, .int .i64 h, .string c, .int .i64 t, .string h0, .string h1] 36)).alloc (.cells zeroC 36)) 36 zeroC
  have hb := below_alloc0 (below_alloc0 (below_fresh W (.cells #[.int .i64 w, .int .i64 h, .string c, .int .i64 t, .string h0, .string h1] 36)) (.cells zeroC 36)) (.cells zeroC 36)
  simp only [World.size_alloc] at b1 b2
  unfold zeroC at b0 b1 b2 hb
  generalize ((W.alloc (.cells #[.int .i64 w, .int .i64 h, .string c, .int .i64 t, .string h0, .string h1] 36)).alloc (.cells #[.int .i64 0, .int .i64 0, .string ⟨#[]⟩, .int .i64 0, .string ⟨#[]⟩, .string ⟨#[]⟩] 36)).alloc (.cells #[.int .i64 0, .int .i64 0, .string ⟨#[]⟩, .int .i64 0, .string ⟨#[]⟩, .string ⟨#[]⟩] 36) = w0 at *
  have B0 := hide b0
  have B1 := hide b1
  have B2 := hide b2
  have Hb := hide hb
  have HA0 := hide (HA.out.below hb)
  clear b0 b1 b2 hb
  go_loopw [8, 15] (fun wv idx wr => ∃ i : Nat, i ≤ ls.length ∧ idx = .int .i64 i ∧ (∀ j (hj : j < ls.length), j < i → PosOk ⟨w, h, c, t, h0, h1⟩ ∧ 0 ≤ ls[j] ∧ ls[j] ≤ 7) ∧ LstRel ⟨w, h, c, t, h0, h1⟩ ks (W.heap.size + 1 + 1) i wv wr ∧ Only (fun k => k = W.heap.size + 1 + 1) w0 wr) (fun _ idx _ => ls.length - (intOf idx).toNat)
  case atStart => exact ⟨0, by omega, rfl, fun j _ hj => by omega, .inl ⟨rfl, rfl, B2.out⟩, Only.refl _ _⟩
  case round =>
    rename World => wr
    obtain ⟨i, hi, rfl, hgood, hrel, hK⟩ := hrel
    have Hgood := hide hgood
    clear hgood
    have hg2 : W.heap.size + 1 + 1 < wr.heap.size := by have := B2.out.lt; have := hK.size; omega
    have c0 := B0.out.only hK (by omega)
    have c1 := B1.out.only hK (by omega)
    obtain ⟨⟨x0, x1, x2, x3, x4, x5⟩, -⟩ := c0.six
    have C1 := hide c1
    have C0 := hide c0
    have HK := hide hK
    have HAr := hide (HA0.out.keep (w' := wr) (fun p hp => World.cell?_of_block (hK.block p.block (by have := B0.out.lt; omega) (by omega))))
    clear c0 c1 hK
    by_cases hlt : i < ls.length
    · obtain ⟨bA, oA, rfl, hbA, hcA⟩ := HAr.out.at_ (k := i) (by simpa using hlt)
      rw [ints_get] at hcA
      obtain ⟨kz, hkz⟩ : ∃ kz, ls[i] = kz := ⟨_, rfl⟩
      rw [hkz] at hcA
      by_cases hok : PosOk ⟨w, h, c, t, h0, h1⟩ ∧ 0 ≤ kz ∧ kz ≤ 7
      case neg =>
        have Hbad := hide (show ¬ (ls ≠ [] ∧ PosOk ⟨w, h, c, t, h0, h1⟩ ∧ ∀ k ∈ ls, 0 ≤ k ∧ k ≤ 7) from fun hh => hok ⟨hh.2.1, by rw [← hkz]; exact hh.2.2 _ (List.getElem_mem hlt)⟩)
        have Htn := hide fun W => turned_no w h t kz c h0 h1 W hc9 l0 l1 hok
        clear hok hkz hrel
        go_wp2_with fail
        refine (Htn.out _).mono ?_
        rintro e w1 ⟨rfl, hb1⟩
        unfold noPos
        have hg3 : W.heap.size + 1 < w1.heap.size := by have := hb1.size; omega
        have B1' := hide (((C1.out.below hb1 (by omega))).alloc (.cells #[.int .i64 0, .int .i64 0, .string ⟨#[]⟩, .int .i64 0, .string ⟨#[]⟩, .string ⟨#[]⟩] 36))
        have HB' := hide (below_alloc_ ((Hb.out.trans ((HK.out.below_ (B := W.heap.size) (fun k hk => by subst hk; omega) (by have := B0.out.lt; omega)).trans (hb1.mono (by omega))))) (Nat.le_refl _) (.cells #[.int .i64 0, .int .i64 0, .string ⟨#[]⟩, .int .i64 0, .string ⟨#[]⟩, .string ⟨#[]⟩] 36))
        clear hb1
        go_upto_region 8 with (fail)
        generalize w1.alloc (.cells #[.int .i64 0, .int .i64 0, .string ⟨#[]⟩, .int .i64 0, .string ⟨#[]⟩, .string ⟨#[]⟩] 36) = w2 at *
        obtain ⟨⟨r0, r1, r2, r3, r4, r5⟩, r6, r7, r8, r9, r10, r11⟩ := B1'.out.six
        go_wp2_with fail
        refine bodyPost_ret (v := .tuple #[noPos, .int .i64 0, .int .i64 1]) (by simp [results, Try.results20, go_sem, noPos, r0, r1, r2, r3, r4, r5]) rfl ⟨fun _ => rfl, fun hh => absurd hh Hbad.out, ?_⟩
        repeat (first | with_reducible exact HB'.out | with_reducible refine below_drew_ ?_ | with_reducible refine below_setg ?_ (by omega) _)
      have Hgood2 := hide (show ∀ j (hj : j < ls.length), j < i + 1 → PosOk ⟨w, h, c, t, h0, h1⟩ ∧ 0 ≤ ls[j] ∧ ls[j] ≤ 7 from fun j hj hji => by
        by_cases e : j = i
        · subst e; rw [hkz]; exact hok
        · exact Hgood.out j hj (by omega))
      obtain ⟨k, rfl⟩ : ∃ k : Nat, kz = k := ⟨kz.toNat, by omega⟩
      have hk8 : k < 8 := by omega
      have hltk : i < ks.length := by have := Hkl.out; omega
      have hki : ks[i] = k := by
        have h2 : ks[i] = (ls.map Int.toNat)[i]'(by simpa using hlt) := by simp only [Hks.out]
        rw [h2, List.getElem_map, hkz]
        simp
      have hnx : ks.take (i + 1) = ks.take i ++ [k] := by rw [List.take_succ_eq_append_getElem hltk, hki]
      have Hnx := hide hnx
      have Htk := hide fun W => (by
        have hp := hok.1
        obtain ⟨wn, rfl⟩ : ∃ n : Nat, w = n := ⟨w.toNat, by have := hp.w1; simp only at this; omega⟩
        obtain ⟨hn, rfl⟩ : ∃ n : Nat, h = n := ⟨h.toNat, by have := hp.h1; simp only at this; omega⟩
        exact turned_in wn hn t c h0 h1 W hp k hk8 : Calls Try.prog 18 #[.agg #[.int .i64 w, .int .i64 h, .string c, .int .i64 t, .string h0, .string h1], .int .i64 k] W fun e w' => e = .returned (.tuple #[posV (turnP ⟨w, h, c, t, h0, h1⟩ k), .int .i64 0]) ∧ Below W.heap.size W w')
      obtain ⟨q, hq⟩ : ∃ q, turnP ⟨w, h, c, t, h0, h1⟩ k = q := ⟨_, rfl⟩
      rw [hq] at Htk
      have Hq := hide hq
      obtain ⟨qw, qh, qc, qt, q0, q1⟩ := q
      clear hkz hok hki hnx hq
      rcases hrel with ⟨rfl, rfl, hB⟩ | ⟨hi0, rfl, hB⟩
      · unfold zeroC at hB
        have HB := hide hB
        have hcB : wr.cell? ⟨bA, oA, none⟩ = some (.int .i64 (k : Int)) := hcA
        clear hB hcA
        go_wp2_with fail
        refine (Htk.out _).mono ?_
        rintro e w1 ⟨rfl, hb1⟩
        simp only [posV]
        have hB1 := HB.out.below hb1 hg2
        have hg3 : W.heap.size + 1 + 1 < w1.heap.size := by have := hb1.size; omega
        have Hb1 := hide hb1
        have HB3 := hide hB1
        obtain ⟨⟨y0, y1, y2, y3, y4, y5⟩, y6, y7, y8, y9, y10, y11⟩ := hB1.six
        clear hb1 hB1
        go_upto_region 9 with (fail)
        have HQ := hide (Blk.new w1 36 #[.int .i64 qw, .int .i64 qh, .string qc, .int .i64 qt, .string q0, .string q1])
        have HB4 := hide (HB3.out.alloc (.cells #[.int .i64 qw, .int .i64 qh, .string qc, .int .i64 qt, .string q0, .string q1] 36))
        have Hb2 := hide (below_alloc_ Hb1.out (Nat.le_refl _) (.cells #[.int .i64 qw, .int .i64 qh, .string qc, .int .i64 qt, .string q0, .string q1] 36))
        clear y0 y1 y2 y3 y4 y5 y6 y7 y8 y9 y10 y11
        generalize w1.alloc (.cells #[.int .i64 qw, .int .i64 qh, .string qc, .int .i64 qt, .string q0, .string q1] 36) = w2 at *
        generalize w1.heap.size = gq at *
        obtain ⟨⟨y0, y1, y2, y3, y4, y5⟩, y6, y7, y8, y9, y10, y11⟩ := HB4.out.six
        obtain ⟨⟨s0, s1, s2, s3, s4, s5⟩, -⟩ := HQ.out.six
        go_quiet (fail)
        go_wp2_with fail
        go_roundw
        case rel =>
          have hl1 : leastK ⟨w, h, c, t, h0, h1⟩ (ks.take 1) = k := by rw [Hnx.out]; rfl
          refine ⟨1, by omega, rfl, by simpa using Hgood2.out, .inr ⟨by omega, by rw [hl1], by rw [hl1, Hq.out]; exact (HB4.out.drewN nq).put6 _ _ _ _ _ _⟩, ?_⟩
          exact only_put6 (HK.out.trans ((Only.of_below Hb2.out (fun k hk hk2 => absurd hk2 (Nat.not_le.2 hk))).drewN nq)) (.inl rfl) _ _ _ _ _ _
        case measure => simp [intOf]; omega
      · have HB := hide hB
        have hwn : decide (((leastK ⟨w, h, c, t, h0, h1⟩ (ks.take i) : Nat) : Int) < 0) = false := by simp
        obtain ⟨b, hb⟩ : ∃ b, turnP ⟨w, h, c, t, h0, h1⟩ (leastK ⟨w, h, c, t, h0, h1⟩ (ks.take i)) = b := ⟨_, rfl⟩
        obtain ⟨L, hL⟩ : ∃ L, leastK ⟨w, h, c, t, h0, h1⟩ (ks.take i) = L := ⟨_, rfl⟩
        rw [hL] at hb hwn ⊢
        have HB2 : Hid (Blk wr (W.heap.size + 1 + 1) 36 (posC b)) := hide (by rw [← hb, ← hL]; exact HB.out)
        have HL := hide hL
        have Hbb := hide hb
        obtain ⟨bw, bh, bc, bt, v0, v1⟩ := b
        unfold posC at HB2
        simp only at HB2
        clear hB HB hb hL
        go_wp2_with fail
        refine (Htk.out _).mono ?_
        rintro e w1 ⟨rfl, hb1⟩
        simp only [posV]
        have hB1 := HB2.out.below hb1 hg2
        obtain ⟨⟨y0, y1, y2, y3, y4, y5⟩, y6, y7, y8, y9, y10, y11⟩ := hB1.six
        have hg3 : W.heap.size + 1 + 1 < w1.heap.size := by have := hb1.size; omega
        have Hb1 := hide hb1
        have HB3 := hide hB1
        clear hb1 hB1
        go_upto_region 9 with (fail)
        have HQ := hide (Blk.new w1 36 #[.int .i64 qw, .int .i64 qh, .string qc, .int .i64 qt, .string q0, .string q1])
        have HB4 := hide (HB3.out.alloc (.cells #[.int .i64 qw, .int .i64 qh, .string qc, .int .i64 qt, .string q0, .string q1] 36))
        have Hb2 := hide (below_alloc_ Hb1.out (Nat.le_refl _) (.cells #[.int .i64 qw, .int .i64 qh, .string qc, .int .i64 qt, .string q0, .string q1] 36))
        clear y0 y1 y2 y3 y4 y5 y6 y7 y8 y9 y10 y11
        generalize w1.alloc (.cells #[.int .i64 qw, .int .i64 qh, .string qc, .int .i64 qt, .string q0, .string q1] 36) = w2 at *
        generalize w1.heap.size = gq at *
        obtain ⟨⟨y0, y1, y2, y3, y4, y5⟩, y6, y7, y8, y9, y10, y11⟩ := HB4.out.six
        obtain ⟨⟨s0, s1, s2, s3, s4, s5⟩, -⟩ := HQ.out.six
        have hgq : gq < w2.heap.size := HQ.out.lt
        have hg4 : W.heap.size + 1 + 1 < w2.heap.size := HB4.out.lt
        obtain ⟨v, hv⟩ : ∃ v, ltB ⟨qw, qh, qc, qt, q0, q1⟩ ⟨bw, bh, bc, bt, v0, v1⟩ = v := ⟨_, rfl⟩
        have hlt1 : decide (or3 (Lib.compareInt qw bw) (Lib.compareInt qh bh) (Lib.compareBytes qc.data.toList bc.data.toList) < 0) = v := hv
        have Hst := hide (show leastK ⟨w, h, c, t, h0, h1⟩ (ks.take (i + 1)) = if v then k else L by
          rw [Hnx.out, leastK_snoc _ _ _ (fun he => by have h2 := congrArg List.length he; rw [List.length_take] at h2; simp only [List.length_nil] at h2; omega), HL.out, leastStep, Hq.out, Hbb.out, hv])
        clear hv
        cases v
        · go_region_held3 (fun w' => w'.cell? ⟨gq, 0, none⟩ = some (.int .i64 qw) ∧ w'.cell? ⟨gq, 1, none⟩ = some (.int .i64 qh) ∧ w'.cell? ⟨gq, 2, none⟩ = some (.string qc) ∧ w'.cell? ⟨W.heap.size + 1 + 1, 0, none⟩ = some (.int .i64 bw) ∧ w'.cell? ⟨W.heap.size + 1 + 1, 1, none⟩ = some (.int .i64 bh) ∧ w'.cell? ⟨W.heap.size + 1 + 1, 2, none⟩ = some (.string bc)) (first | exact ⟨s0, s1, s2, y0, y1, y2⟩ | go_keep)
            ((first | (go_at_call 49; refine (Try.cmp_Compare_int _ _ _).mono ?_; rintro e w' ⟨rfl, rfl⟩)
                    | (go_at_call 50; refine (Try.strings_Compare _ _ _).mono ?_; rintro e w' ⟨rfl, rfl⟩)
                    | (go_at_call 48; refine (or_any (Lib.compareInt qw bw) (Lib.compareInt qh bh) (Lib.compareBytes qc.data.toList bc.data.toList) w2.heap.size _ ((Blk.new w2 3 #[.int .i64 (Lib.compareInt qw bw), .int .i64 (Lib.compareInt qh bh), .int .i64 (Lib.compareBytes qc.data.toList bc.data.toList)]).drew.cellv (i := 0) rfl) ((Blk.new w2 3 #[.int .i64 (Lib.compareInt qw bw), .int .i64 (Lib.compareInt qh bh), .int .i64 (Lib.compareBytes qc.data.toList bc.data.toList)]).drew.cellv (i := 1) rfl) ((Blk.new w2 3 #[.int .i64 (Lib.compareInt qw bw), .int .i64 (Lib.compareInt qh bh), .int .i64 (Lib.compareBytes qc.data.toList bc.data.toList)]).drew.cellv (i := 2) rfl)).mono ?_; rintro e w' ⟨rfl, rfl⟩)))
          go_wp2_with fail
          go_roundw
          case rel =>
            refine ⟨i + 1, by omega, by go_num, Hgood2.out, .inr ⟨by omega, by rw [Hst.out]; rfl, by rw [Hst.out]; simp only [Bool.false_eq_true, if_false]; rw [Hbb.out]; exact HB4.out.alloc _⟩, ?_⟩
            exact Only.drew ((HK.out.trans (Only.of_below Hb2.out (fun k hk hk2 => absurd hk2 (Nat.not_le.2 hk)))).alloc _)
          case measure => simp [intOf]; omega
        · go_region_held3 (fun w' => w'.cell? ⟨gq, 0, none⟩ = some (.int .i64 qw) ∧ w'.cell? ⟨gq, 1, none⟩ = some (.int .i64 qh) ∧ w'.cell? ⟨gq, 2, none⟩ = some (.string qc) ∧ w'.cell? ⟨W.heap.size + 1 + 1, 0, none⟩ = some (.int .i64 bw) ∧ w'.cell? ⟨W.heap.size + 1 + 1, 1, none⟩ = some (.int .i64 bh) ∧ w'.cell? ⟨W.heap.size + 1 + 1, 2, none⟩ = some (.string bc)) (first | exact ⟨s0, s1, s2, y0, y1, y2⟩ | go_keep)
            ((first | (go_at_call 49; refine (Try.cmp_Compare_int _ _ _).mono ?_; rintro e w' ⟨rfl, rfl⟩)
                    | (go_at_call 50; refine (Try.strings_Compare _ _ _).mono ?_; rintro e w' ⟨rfl, rfl⟩)
                    | (go_at_call 48; refine (or_any (Lib.compareInt qw bw) (Lib.compareInt qh bh) (Lib.compareBytes qc.data.toList bc.data.toList) w2.heap.size _ ((Blk.new w2 3 #[.int .i64 (Lib.compareInt qw bw), .int .i64 (Lib.compareInt qh bh), .int .i64 (Lib.compareBytes qc.data.toList bc.data.toList)]).drew.cellv (i := 0) rfl) ((Blk.new w2 3 #[.int .i64 (Lib.compareInt qw bw), .int .i64 (Lib.compareInt qh bh), .int .i64 (Lib.compareBytes qc.data.toList bc.data.toList)]).drew.cellv (i := 1) rfl) ((Blk.new w2 3 #[.int .i64 (Lib.compareInt qw bw), .int .i64 (Lib.compareInt qh bh), .int .i64 (Lib.compareBytes qc.data.toList bc.data.toList)]).drew.cellv (i := 2) rfl)).mono ?_; rintro e w' ⟨rfl, rfl⟩)))
          go_wp2_with fail
          go_roundw
          case rel =>
            refine ⟨i + 1, by omega, by go_num, Hgood2.out, .inr ⟨by omega, by rw [Hst.out]; rfl, by rw [Hst.out]; simp only [if_true]; rw [Hq.out]; exact (HB4.out.put6 _ _ _ _ _ _).alloc _⟩, ?_⟩
            exact Only.drew ((only_put6 (HK.out.trans (Only.of_below Hb2.out (fun k hk hk2 => absurd hk2 (Nat.not_le.2 hk)))) (.inl rfl) _ _ _ _ _ _).alloc _)
          case measure => simp [intOf]; omega
    · obtain rfl : i = ls.length := by omega
      have Hall := hide (show ls ≠ [] → (ls ≠ [] ∧ PosOk ⟨w, h, c, t, h0, h1⟩ ∧ ∀ k ∈ ls, 0 ≤ k ∧ k ≤ 7) from fun hne => ⟨hne, (Hgood.out 0 (List.length_pos_iff.2 hne) (List.length_pos_iff.2 hne)).1, fun k hk => by
        obtain ⟨j, hj, rfl⟩ := List.getElem_of_mem hk
        exact (Hgood.out j hj hj).2⟩)
      unfold LstRel at hrel
      rw [← Hkl.out, List.take_length, Hkl.out] at hrel
      have hHr := HK.out.below_ (B := W.heap.size) (fun k hk => by subst hk; omega) (by have := B0.out.lt; omega)
      have HB := hide (Hb.out.trans hHr)
      have hg1 : W.heap.size < wr.heap.size := by omega
      obtain ⟨⟨r0, r1, r2, r3, r4, r5⟩, r6, r7, r8, r9, r10, r11⟩ := C1.out.six
      clear hHr
      rcases hrel with ⟨h0', rfl, hB⟩ | ⟨hi0, rfl, hB⟩
      · have Hz := hide (show ls = [] from List.eq_nil_of_length_eq_zero h0')
        clear hB h0'
        go_wp2_with fail
        refine bodyPost_ret (v := .tuple #[noPos, .int .i64 0, .int .i64 1]) (by simp [results, Try.results20, go_sem, noPos, r0, r1, r2, r3, r4, r5]) rfl ⟨fun _ => rfl, fun hne => absurd Hz.out hne.1, ?_⟩
        repeat (first | with_reducible exact HB.out | with_reducible refine below_drew_ ?_ | with_reducible refine below_setg ?_ (by omega) _)
      · have Hne := hide (show ls ≠ [] from fun he => by rw [he] at hi0; simp at hi0)
        have hwn : decide (((leastK ⟨w, h, c, t, h0, h1⟩ ks : Nat) : Int) < 0) = false := by simp
        obtain ⟨L, hL⟩ : ∃ L, leastK ⟨w, h, c, t, h0, h1⟩ ks = L := ⟨_, rfl⟩
        rw [hL] at hB hwn ⊢
        obtain ⟨b, hb⟩ : ∃ b, turnP ⟨w, h, c, t, h0, h1⟩ L = b := ⟨_, rfl⟩
        rw [hb] at hB
        have HL := hide hL
        have Hbb := hide hb
        obtain ⟨bw, bh, bc, bt, v0, v1⟩ := b
        unfold posC at hB
        simp only at hB
        obtain ⟨⟨y0, y1, y2, y3, y4, y5⟩, -⟩ := hB.six
        clear hL hb hB
        go_wp2_with fail
        refine bodyPost_ret (v := .tuple #[.agg #[.int .i64 bw, .int .i64 bh, .string bc, .int .i64 bt, .string v0, .string v1], .int .i64 L, .int .i64 0]) (by simp [results, Try.results20, go_sem, r0, r1, r2, r3, r4, r5]) rfl ⟨fun he => absurd (Hall.out Hne.out) he, fun _ => by rw [HL.out, Hbb.out]; rfl, ?_⟩
        repeat (first | with_reducible exact HB.out | with_reducible refine below_drew_ ?_ | with_reducible refine below_setg ?_ (by omega) _)
end Go.Proofs.Ytfoehijlafooaaa
