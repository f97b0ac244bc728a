/- nim.values: the worths of heaps of 0 to n. -/
import Derived.Test.YtfoehijlafooaaaNimEachA
import Derived.Test.YtfoehijlafooaaaOwn
namespace Go.Proofs.Ytfoehijlafooaaa
open Go.RowKit

theorem xor_nat64 (a b : Nat) (ha : a < 4294967296) (hb : b < 4294967296) : bits .xor .i64 (a : Int) (b : Int) = ((a ^^^ b : Nat) : Int) := by
  have hx : a ^^^ b < 2 ^ 63 := Nat.xor_lt_two_pow (by omega) (by omega)
  have e : ∀ c : Nat, c < 4294967296 → (BitVec.ofInt 64 (c : Int)).toNat = c := fun c hc => by
    rw [BitVec.ofInt_natCast, BitVec.toNat_ofNat]; exact Nat.mod_eq_of_lt (by omega)
  show IntKind.i64.wrap ((BitVec.ofInt 64 (a : Int) ^^^ BitVec.ofInt 64 (b : Int)).toNat : Int) = _
  rw [BitVec.toNat_xor, e a ha, e b hb, IntKind.wrap_i64]
  omega

noncomputable def gI (d : List Nat) (m : Nat) : Nat → Int := fun j => if j < m then (gv d j : Int) else 0
/-- the worths that the options of a heap lead to, as they are collected -/
noncomputable def gotten (d : List Nat) (dn : List (List Nat)) : List Int := dn.map fun ps => ((xorP (gv d) ps : Nat) : Int)

/-- what the closure of values finds and leaves: g's box and array, l's box and row -/
structure VI (w0 : World) (Ad : Option Addr) (d : List Nat) (N hh bg gG bl B0 : Nat) (dn : List (List Nat)) (w : World) : Prop where
  boxg : Blk w bg 26 #[.slice (some ⟨gG, 0, none⟩) N N]
  arr : Blk w gG 3 (arrV N (intV (gI d hh)))
  boxl : ∃ lv, Blk w bl 26 #[lv] ∧ w.ownsRow w0.heap.size 3 1 lv dn.length (ints (gotten d dn))
  digs : Cells w B0 Ad (ints (natsI d))
  old : bg < w0.heap.size ∧ gG < w0.heap.size ∧ bl < w0.heap.size ∧ bg ≠ bl ∧ B0 ≤ bl
  sz : w0.heap.size ≤ w.heap.size
  only : Only (fun k => k = bl) w0 w

set_option maxHeartbeats 2000000 in
set_option maxRecDepth 100000 in
theorem values1_any (w0 : World) (Ad : Option Addr) (d : List Nat) (N hh bg gG bl B0 : Nat) (hN : hh < N) (hN4 : N ≤ 401) (hd : d.length ≤ 6) (dn : List (List Nat)) (ps : List Nat) (W : World) (A : Option Addr) (c : Nat)
    (hpre : dn ++ [ps] <+: opts d hh) (hI : VI w0 Ad d N hh bg gG bl B0 dn W) (_hc : ps.length ≤ c) (hA : Cells W W.heap.size A (ints (natsI ps))) :
    Calls Try.prog 79 #[.slice A ps.length c, .pointer (some ⟨bg, 0, none⟩), .pointer (some ⟨bl, 0, none⟩)] W fun e w' => e = .returned (.bool false) ∧ VI w0 Ad d N hh bg gG bl B0 (dn ++ [ps]) w' := by
  have hmem : ps ∈ opts d hh := hpre.subset (by simp)
  have hps := opts_lt hmem
  have hpl := opts_parts hmem
  have hdl : dn.length ≤ 2412 := by
    have h1 := hpre.length_le
    have h2 := opts_len hd (show hh ≤ 400 by omega)
    rw [List.length_append] at h1
    omega
  obtain ⟨lv, hbl, hown⟩ := hI.boxl
  have e1 := hI.boxg.cell 0
  have e2 := hbl.cell 0
  simp at e1 e2
  have f2 := hbl.free 0
  obtain ⟨i0, hi0, hz0, hz1, hz2⟩ := info_parts info_int
  have HX := hide (And.intro hi0 (And.intro hz0 (And.intro hz1 hz2)))
  have HI := hide hI
  have Hps := hide hps
  have Hbl := hide hbl
  have Hown := hide hown
  have HA := hide hA
  have Hold := hide hI.old
  clear hI hps hbl hown hA hmem hpre hi0 hz0 hz1 hz2
  go_enter Try.func79, Try.ntmps79
  go_wp2_with fail
  go_loop [5, 10] (fun vv idx => ∃ q : Nat, q ≤ ps.length ∧ idx = .int .i64 q ∧ vv = .int .i64 (xorP (gv d) (ps.take q) : Nat)) (fun _ idx => ps.length - (intOf idx).toNat)
  case atStart => exact ⟨0, by omega, rfl, rfl⟩
  case round =>
    obtain ⟨q, hq, rfl, rfl⟩ := hrel
    have hb2 : ∀ l : List Nat, (∀ x ∈ l, x < hh) → xorP (gv d) l < 4096 := fun l hl => by
      have := xorP_lt (G := gv d) (n := 12) (ps := l) (fun x hx => by have := hl x hx; have := gv_lt (d := d) (h := x) hd (by omega); omega)
      omega
    by_cases hlt : q < ps.length
    · obtain ⟨b3, o3, rfl, _, hc3⟩ := HA.out.at_ (k := q) (by simpa [natsI] using hlt)
      rw [ints_get] at hc3
      simp only [natsI, List.getElem_map] at hc3
      have hx := Hps.out ps[q] (List.getElem_mem hlt)
      have hga := HI.out.arr.cellv (arrV_get (show ps[q] < N by omega))
      simp only [intV, gI, hx, if_true] at hga
      have hxor := xor_nat64 (xorP (gv d) (ps.take q)) (gv d ps[q]) (by have := hb2 (ps.take q) (fun x hx => Hps.out x (List.mem_of_mem_take hx)); omega) (by have := gv_lt (d := d) (h := ps[q]) hd (by omega); omega)
      obtain ⟨X, hX⟩ : ∃ X, xorP (gv d) (ps.take q) = X := ⟨_, rfl⟩
      obtain ⟨Y, hY⟩ : ∃ Y, gv d ps[q] = Y := ⟨_, rfl⟩
      obtain ⟨x, hxx⟩ : ∃ x, ps[q] = x := ⟨_, rfl⟩
      have hXY : xorP (gv d) (ps.take (q + 1)) = X ^^^ Y := by rw [List.take_succ_eq_append_getElem hlt, xorP_snoc, hX, hY]
      rw [hX, hY] at hxor
      rw [hX]
      rw [hxx] at hc3 hx hga hY
      rw [hY] at hga
      have HXY := hide hXY
      have hxN : x < N := by omega
      simp only [Int.ofNat_eq_natCast] at hc3
      clear hX hY hxx hXY hb2
      go_wp2_with fail
      go_round
      case rel => exact ⟨q + 1, by omega, by go_num, by rw [HXY.out]⟩
      case measure => simp [intOf]; omega
    · have hqe : q = ps.length := by omega
      subst hqe
      rw [List.take_length]
      obtain ⟨X, hX⟩ : ∃ X, xorP (gv d) ps = X := ⟨_, rfl⟩
      rw [hX]
      have HX2 := hide hX
      have hne : bl ≠ W.heap.size := by have := Hbl.out.lt; omega
      have e2' : (W.alloc (.cells #[.int .i64 (X : Int)] 3)).cell? ⟨bl, 0, none⟩ = some lv := by
        have := (Hbl.out.alloc (.cells #[.int .i64 (X : Int)] 3)).cell 0
        simpa using this
      have hap := hide (Hown.out.alloc (.cells #[.int .i64 (X : Int)] 3))
      have hsz := HI.out.sz
      have Hcn := hide (show (W.alloc (.cells #[.int .i64 (X : Int)] 3)).cell? ⟨W.heap.size, 0, none⟩ = some (.int .i64 (X : Int)) by simp [go_sem])
      clear hX hb2
      go_wp2_with (at_builtin; refine wpList_push1 _ rfl (.tmp 21) (.tmp 23) 26 rfl w0.heap.size 3 i0 (.int .i64 0) 8 Try.underlying26 HX.out.1 HX.out.2.1 HX.out.2.2.1 HX.out.2.2.2 rfl _ dn.length _ rfl hap.out (.int .i64 (X : Int)) W.heap.size rfl Hcn.out rfl ?h2 ?h3 ?h4 ?_)
      case h2 => unfold maxLen; omega
      case h3 => omega
      case h4 => first | omega | (simp; omega)
      intro v3 w3 hown3 hO3 hw3
      have hO4 : Only (fun k => Value.ownBlock lv = some k) W w3 := ((Only.refl _ _).alloc _).trans hO3
      have hlv := Hown.out.lt
      have hbl3 : Blk w3 bl 26 #[lv] := Hbl.out.only hO4 (fun h => by have := hlv _ h; have := Hold.out.2.2.1; omega)
      have c3 := hbl3.cell 0
      have f3 := hbl3.free 0
      simp at c3
      obtain ⟨A3, n3, c3', hv3⟩ : ∃ A3 n3 c3', v3 = .slice A3 n3 c3' := by
        obtain ⟨A3, c3', hv, _⟩ := Cells.of_own hown3
        exact ⟨A3, _, c3', hv⟩
      have Hv3 := hide hv3
      have Hown3 := hide hown3
      have HO4 := hide hO4
      have Hbl3 := hide hbl3
      have Hw3 := hide hw3
      rw [hv3]
      clear hown3 hO3 hw3 hO4 hlv hbl3 hv3 e1 e2 f2 e2' hap
      go_wp2_with fail
      go_ret
      refine ⟨rfl, ?_⟩
      have hoo := Hold.out
      have hlv := Hown.out.lt
      have hv3lt : ∀ k, v3.ownBlock = some k → k ≠ bl := fun k hk => by
        have := (Hown3.out.lt k hk).1
        omega
      have hset : ∀ k, k ≠ bl → (w3.setCell ⟨bl, 0, none⟩ (.slice A3 n3 c3')).heap[k]? = w3.heap[k]? := fun k hk => Below.heap_setCell w3 ⟨bl, 0, none⟩ _ k hk
      have hO5 : Only (fun k => k = bl ∨ Value.ownBlock lv = some k) W (w3.setCell ⟨bl, 0, none⟩ (.slice A3 n3 c3')) := (HO4.out.mono (fun k _ h => .inr h)).setCell (p := ⟨bl, 0, none⟩) (.inl (.inl rfl)) _
      have hnb : ∀ k, k < w0.heap.size → k ≠ bl → ¬ (k = bl ∨ Value.ownBlock lv = some k) := fun k hk hne h => by
        rcases h with h | h
        · exact hne h
        · have := (hlv k h).1; omega
      have hgl : gG ≠ bl := fun e => by
        have h1 := HI.out.arr
        rw [e] at h1
        exact Blk.ne_ h1 Hbl.out (by decide) rfl
      refine ⟨HI.out.boxg.only hO5 (hnb _ hoo.1 hoo.2.2.2.1), HI.out.arr.only hO5 (hnb _ hoo.2.1 hgl), ⟨.slice A3 n3 c3', ?_, ?_⟩, ?_, hoo, Nat.le_trans HI.out.sz hO5.size, HI.out.only.trans' hO5 (fun k hk h => ?_)⟩
      · have := Hbl3.out.set_ 0 (.slice A3 n3 c3')
        simpa using this
      · have h1 := Hown3.out
        rw [Hv3.out] at h1 hv3lt
        have h2 : gotten d (dn ++ [ps]) = gotten d dn ++ [(X : Int)] := by simp [gotten, HX2.out]
        rw [h2, List.length_append]
        have h3 : ints (gotten d dn ++ [(X : Int)]) = ints (gotten d dn) ++ [.int .i64 (X : Int)] := by simp [ints]
        rw [h3]
        exact ownsRow_only h1 ((Only.refl (fun k => k = bl) w3).setCell (p := ⟨bl, 0, none⟩) (.inl rfl) _) (fun g hg he => hv3lt g hg he)
      · exact HI.out.digs.keep (fun p hp => World.cell?_of_block (hO5.block p.block (by have := hoo.2.2.1; have := hoo.2.2.2.2; have := HI.out.sz; omega) (hnb _ (by have := hoo.2.2.1; have := hoo.2.2.2.2; omega) (by have := hoo.2.2.2.2; omega))))
      · rcases h with h | h
        · exact h
        · have := (hlv k h).1; omega
end Go.Proofs.Ytfoehijlafooaaa
