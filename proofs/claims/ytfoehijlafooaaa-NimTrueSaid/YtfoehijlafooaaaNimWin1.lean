/- nim.Win$1: is it a move to where the other one loses? -/
import Derived.Test.YtfoehijlafooaaaNimGrundyF
import Derived.Test.YtfoehijlafooaaaNimEachB
namespace Go.Proofs.Ytfoehijlafooaaa
open Go.RowKit

/-- 'append(nil, xs...)': a slice of the call's own -/
theorem run_clone {P : Program} (w : World) (t ty e : TypeId) (i : TypeInfo) (z : Value) (bytes : Nat) (ht : P.underlying t = some (.slice e)) (hi : P.info? e = some i) (hz : i.zero = some z)
    (hsize : i.size = 1) (hby : i.bytes = bytes) (hzs : z.cells.size = 1) (B : Nat) (A : Option Addr) (c : Nat) (xs : List Value) (hx : Cells w B A xs) (h1 : ∀ u ∈ xs, u.oneCell' = true) (hA : A = none → xs = [])
    (h63 : xs.length ≤ maxLen) (hbytes : xs.length * bytes ≤ 140737488355328) :
    ∃ v' w', (Builtin.append_ #[t, t] ty #[.slice none 0 0, .slice A xs.length c]).run P w = .ok v' w' ∧ w'.ownsRow w.heap.size e 1 v' xs.length xs ∧ Only (fun _ => False) w w' := by
  cases A with
  | none =>
    have hxs := hA rfl
    subst hxs
    refine ⟨.slice none 0 0, w, ?_, World.ownsRow_nil _ _ _ _, Only.refl _ _⟩
    simp [Builtin.append_, run_underlying ht, sizeOf, typeInfo, hi, Builtin.lenOf, Builtin.firstCells]
  | some ad =>
    have hcell : ∀ j u, xs[j]? = some u → w.cell? (ad.add j) = some u := by
      intro j u hu
      obtain ⟨hj, hju⟩ := List.getElem?_eq_some_iff.1 hu
      obtain ⟨b, off, ha, _, hc⟩ := hx (by omega)
      injection ha with ha
      subst ha
      rw [Addr.add_lit, hc j hj, hju]
    obtain ⟨v', w', hr, h2, h3, _⟩ := run_append_own (P := P) w w.heap.size t ty e i z 1 bytes ht hi hz hsize hby hzs (by decide) (.slice none 0 0) 0 [] (World.ownsRow_nil _ _ _ _) ad xs.length c xs (by simp) hcell h1 (by simpa using h63) (by simpa using hbytes) (Nat.le_refl _)
    refine ⟨v', w', hr, by simpa using h2, ⟨h3.os, h3.tape, h3.output, h3.size, fun k hk _ => h3.block k hk (by simp [Value.ownBlock])⟩⟩

theorem step_clone {P : Program} {ops : Array Oper} {o : Oper} {a : Act} {K : Act → World → Prop} {Q : Exit → Act → World → Prop} {E : Prop} {w : World} (hgd : o.guard = none) (x : Operand) (t : TypeId)
    (ho : o.op = .call { callee := .builtin .append, args := #[.const (.slice none 0 0), x], argTypes := #[t, t] })
    (e : TypeId) (i : TypeInfo) (z : Value) (bytes : Nat) (ht : P.underlying t = some (.slice e)) (hi : P.info? e = some i) (hz : i.zero = some z)
    (hsize : i.size = 1) (hby : i.bytes = bytes) (hzs : z.cells.size = 1) (B : Nat) (A : Option Addr) (c : Nat) (xs : List Value) (n : Nat) (hn : xs.length = n) (hxe : a.eval x = .slice A n c) (hx : Cells w B A xs) (h1 : ∀ u ∈ xs, u.oneCell' = true) (hA : A = none → xs = [])
    (h63 : xs.length ≤ maxLen) (hbytes : xs.length * bytes ≤ 140737488355328)
    (h : ∀ A' c' w', w'.ownsRow w.heap.size e 1 (.slice A' n c') n xs → Only (fun _ => False) w w' → K (a.put o.dst (.slice A' n c')) w') :
    if Region.wanted o (yielded ops a.tmps) = true then Oper.wp P o a w K Q else E := by
  have hw : Region.wanted o (yielded ops a.tmps) = true := by simp [Region.wanted, hgd]
  rw [if_pos hw]
  subst hn
  obtain ⟨v', w', hr, h2, h3⟩ := run_clone (P := P) w t o.type e i z bytes ht hi hz hsize hby hzs B A c xs hx h1 hA h63 hbytes
  obtain ⟨A', c', hv, _⟩ := Cells.of_own h2
  subst hv
  unfold Oper.wp execOp
  simp only [ho, resolve, invoke, builtin, Sem.run_bind, Sem.run_pure, Result.andThen_ok, List.map_toArray, List.map_cons, List.map_nil, Act.eval] at hxe ⊢
  rw [hxe] at *
  simp only [hr]
  exact h A' c' w' h2 h3

theorem foldl_xor (G : Nat → Nat) : ∀ (ps : List Nat) (v : Nat), ps.foldl (fun v x => v ^^^ G x) v = v ^^^ xorP G ps
  | [], v => by simp [xorP]
  | x :: ps, v => by
    simp only [List.foldl_cons, xorP]
    rw [foldl_xor G ps, foldl_xor G ps (0 ^^^ G x), Nat.zero_xor, Nat.xor_assoc]
def xorF (G : Nat → Nat) (v : Nat) (ps : List Nat) : Nat := ps.foldl (fun v x => v ^^^ G x) v
theorem xorF_eq (G : Nat → Nat) (v : Nat) (ps : List Nat) : xorF G v ps = v ^^^ xorP G ps := foldl_xor G ps v
theorem xorF_snoc (G : Nat → Nat) (v : Nat) (ps : List Nat) (x : Nat) : xorF G v (ps ++ [x]) = xorF G v ps ^^^ G x := by simp [xorF]

/-- what Win's closure stands on -/
structure WBase (w0 : World) (Ag : Option Addr) (cg N : Nat) (d : List Nat) (all h i pa pg ph pi po : Nat) : Prop where
  ball : Blk w0 pa 3 #[.int .i64 all]
  bg : Blk w0 pg 26 #[.slice Ag N cg]
  bh : Blk w0 ph 3 #[.int .i64 h]
  bi : Blk w0 pi 3 #[.int .i64 i]
  bo : Blk w0 po 50 #[.int .i64 0, .slice none 0 0]
  garr : Cells w0 w0.heap.size Ag (ints (gInts d N))
  hN : h < N
  N4 : N ≤ 401
  d6 : d.length ≤ 6
  all4 : all < 4096
def WInv (w0 : World) (d : List Nat) (all h : Nat) (dn : List (List Nat)) (w : World) : Prop :=
  Only (fun _ => False) w0 w ∧ ∀ ps ∈ dn, all ^^^ gv d h ^^^ xorP (gv d) ps ≠ 0
def WFin (w0 : World) (d : List Nat) (all h i po : Nat) (dn : List (List Nat)) (ps : List Nat) (w : World) : Prop :=
  (∃ A c, Blk w po 50 #[.int .i64 i, .slice A ps.length c] ∧ ps.length ≤ c ∧ Cells w w.heap.size A (ints (natsI ps)) ∧ ∀ a, A = some a → w0.heap.size ≤ a.block) ∧ Only (fun k => k = po) w0 w ∧
  all ^^^ gv d h ^^^ xorP (gv d) ps = 0 ∧ ∀ ps' ∈ dn, all ^^^ gv d h ^^^ xorP (gv d) ps' ≠ 0

set_option maxHeartbeats 4000000 in
set_option maxRecDepth 100000 in
theorem win1_any (w0 : World) (Ag : Option Addr) (cg N : Nat) (d : List Nat) (all h i pa pg ph pi po : Nat) (hB : WBase w0 Ag cg N d all h i pa pg ph pi po) (dn : List (List Nat)) (ps : List Nat) (W : World) (A : Option Addr) (c : Nat)
    (hpre : dn ++ [ps] <+: opts d h) (hI : WInv w0 d all h dn W) (_hc : ps.length ≤ c) (hA : Cells W W.heap.size A (ints (natsI ps))) :
    Calls Try.prog 57 #[.slice A ps.length c, .pointer (some ⟨pa, 0, none⟩), .pointer (some ⟨pg, 0, none⟩), .pointer (some ⟨ph, 0, none⟩), .pointer (some ⟨pi, 0, none⟩), .pointer (some ⟨po, 0, none⟩)] W fun e w' =>
      (e = .returned (.bool false) ∧ WInv w0 d all h (dn ++ [ps]) w') ∨ (e = .returned (.bool true) ∧ WFin w0 d all h i po dn ps w') := by
  have hmem : ps ∈ opts d h := hpre.subset (by simp)
  have hps := opts_lt hmem
  have hpl : ps.length ≤ 2 := opts_parts hmem
  have hAn : A = none → ps = [] := by
    intro e
    cases ps with
    | nil => rfl
    | cons a l => obtain ⟨b, o, e2, _⟩ := hA.at_ (k := 0) (by simp [natsI]); rw [e] at e2; exact absurd e2 (by simp)
  have hO := hI.1
  have b1 := hB.ball.only hO id
  have b2 := hB.bg.only hO id
  have b3 := hB.bh.only hO id
  have b4 := hB.bi.only hO id
  have b5 := hB.bo.only hO id
  have hg := hB.garr.only hO (fun _ _ _ => id)
  have hN := hB.hN
  have hN4 := hB.N4
  have hall := hB.all4
  have hgh : gv d h < 4096 := gv_lt hB.d6 (by omega)
  have hlt := fun x (hx : x < h) => gv_lt (d := d) (h := x) hB.d6 (by omega)
  have e1 := b1.cell 0
  have e2 := b2.cell 0
  have e3 := b3.cell 0
  have e4 := b4.cell 0
  have e5 := b5.cell 0
  have e6 := b5.cell 1
  have f5 := b5.free 0
  have f6 := b5.free 1
  simp at e1 e2 e3 e4 e5 e6
  obtain ⟨bgA, ogA, rfl, _, egh⟩ := hg.at_ (k := h) (by simpa [gInts] using hN)
  rw [ints_get] at egh
  simp only [gInts, List.getElem_map, List.getElem_range] at egh
  have hx0 := xor_nat64 all (gv d h) (by omega) (by omega)
  obtain ⟨V, hV⟩ : ∃ V, all ^^^ gv d h = V := ⟨_, rfl⟩
  obtain ⟨Gh, hGh⟩ : ∃ Gh, gv d h = Gh := ⟨_, rfl⟩
  have hV4 : V < 4096 := by rw [← hV]; exact Nat.xor_lt_two_pow (n := 12) (by omega) (by omega)
  rw [hV] at hx0
  rw [hGh] at egh hx0
  have HO := hide hO
  have Hno := hide hI.2
  have HV := hide hV
  have Hg := hide hg
  have Hps := hide hps
  have Hlt := hide hlt
  have HA := hide hA
  have HAn := hide hAn
  have Hb5 := hide b5
  have Hb4 := hide b4
  clear hB hpre hI hA hAn hmem hps hO b1 b2 b3 b4 b5 hg hgh hV hGh hlt
  go_enter Try.func57, Try.ntmps57
  go_wp2_with fail
  go_quiet (fail)
  go_wp2_with fail
  go_loop [8, 19] (fun vv idx => ∃ k : Nat, k ≤ ps.length ∧ idx = .int .i64 k ∧ vv = .int .i64 (xorF (gv d) V (ps.take k) : Nat)) (fun _ idx => ps.length - (intOf idx).toNat)
  case atStart => exact ⟨0, by omega, rfl, rfl⟩
  case round =>
    obtain ⟨k, hk, rfl, rfl⟩ := hrel
    have hb : xorF (gv d) V (ps.take k) < 4096 := by
      rw [xorF_eq]
      exact Nat.xor_lt_two_pow (n := 12) (by omega) (xorP_lt (n := 12) (fun x hx => by have := Hlt.out x (Hps.out x (List.mem_of_mem_take hx)); omega))
    by_cases hlk : k < ps.length
    · obtain ⟨b7, o7, rfl, _, hc7⟩ := HA.out.at_ (k := k) (by simpa [natsI] using hlk)
      rw [ints_get] at hc7
      simp only [natsI, List.getElem_map] at hc7
      have hx := Hps.out ps[k] (List.getElem_mem hlk)
      obtain ⟨b8, o8, e8, _, hc8⟩ := Hg.out.at_ (k := ps[k]) (by simp [gInts]; omega)
      injection e8 with e8
      injection e8 with e8 e9
      subst e8
      subst e9
      rw [ints_get] at hc8
      simp only [gInts, List.getElem_map, List.getElem_range] at hc8
      have hxor := xor_nat64 (xorF (gv d) V (ps.take k)) (gv d ps[k]) (by omega) (by have := Hlt.out _ hx; omega)
      obtain ⟨X, hX⟩ : ∃ X, xorF (gv d) V (ps.take k) = X := ⟨_, rfl⟩
      obtain ⟨Y, hY⟩ : ∃ Y, gv d ps[k] = Y := ⟨_, rfl⟩
      obtain ⟨x, hxx⟩ : ∃ x, ps[k] = x := ⟨_, rfl⟩
      have HXY := hide (show xorF (gv d) V (ps.take (k + 1)) = X ^^^ Y by rw [List.take_succ_eq_append_getElem hlk, xorF_snoc, hX, hY])
      rw [hX, hY] at hxor
      rw [hX]
      rw [hxx] at hc7 hx hc8 hY
      rw [hY] at hc8
      simp only [Int.ofNat_eq_natCast] at hc7
      clear hX hY hxx hb
      go_wp2_with fail
      go_round
      case rel => exact ⟨k + 1, by omega, by go_num, by rw [HXY.out]⟩
      case measure => simp [intOf]; omega
    · have hke : k = ps.length := by omega
      subst hke
      rw [List.take_length]
      obtain ⟨X, hX⟩ : ∃ X, xorF (gv d) V ps = X := ⟨_, rfl⟩
      rw [hX]
      have HX := hide (show all ^^^ gv d h ^^^ xorP (gv d) ps = X by rw [HV.out, ← hX, xorF_eq])
      clear hX hb
      by_cases hz : X = 0
      · have hz1 : ((X : Int) == 0) = true := by simp [hz]
        have Hz := hide hz
        obtain ⟨i0, hi0, hz0, hz1', hz2⟩ := info_parts info_int
        have HJ := hide (And.intro hi0 (And.intro hz0 (And.intro hz1' hz2)))
        clear hz hi0 hz0 hz1' hz2
        go_wp2_with fail
        go_region_law (refine step_clone rfl (.tmp 33) 26 rfl 3 i0 (.int .i64 0) 8 Try.underlying26 HJ.out.1 HJ.out.2.1 HJ.out.2.2.1 HJ.out.2.2.2 rfl _ A c (ints (natsI ps)) ps.length (by simp [natsI]) rfl (HA.out.keep (fun _ _ => rfl)) (by simp [ints, Value.oneCell']) (fun e => by rw [HAn.out e]; rfl) (by simp [natsI]; unfold maxLen; omega) (by simp [natsI]; omega) ?_; intro A2 c2 w2 hown2 hO2; have b7 : Blk w2 po 50 #[.int .i64 0, .slice none 0 0] := (by first | exact (Hb5.out.drewN _).only hO2 id | exact ((Hb5.out.drewN _).drew).only hO2 id); have b8 : Blk w2 pi 3 #[.int .i64 i] := (by first | exact (Hb4.out.drewN _).only hO2 id | exact ((Hb4.out.drewN _).drew).only hO2 id); have g0 := b8.cell 0; have g1 := b7.cell 0; have g2 := b7.cell 1; have g3 := b7.free 0; have g4 := b7.free 1; simp at g0 g1 g2; clear b8; have Hw := hide (And.intro hown2 (And.intro hO2 b7)); clear hown2 hO2 b7)
        all_goals
          go_wp2_with fail
          go_ret
          have hlt : po < W.heap.size := Hb5.out.lt
          have hOw : Only (fun k => k = po) w2 ((w2.setCell ⟨po, 0, none⟩ (.int .i64 i)).setCell ⟨po, 1, none⟩ (.slice A2 ps.length c2)) := ((Only.refl (fun k => k = po) w2).setCell (p := ⟨po, 0, none⟩) (.inl rfl) _).setCell (p := ⟨po, 1, none⟩) (.inl rfl) _
          have hown3 := ownsRow_only Hw.out.1 hOw (fun g hg e => by have h1 := (Hw.out.1.lt g hg).1; rw [e] at h1; exact absurd h1 (Nat.not_le.2 hlt))
          obtain ⟨A3, c3, e3', hc3, _, hC3⟩ := Cells.of_own hown3
          injection e3' with e31 e32 e33
          subst e31
          subst e33
          have hbl := (Hw.out.2.2.set_ 0 (.int .i64 i)).set_ 1 (.slice A2 ps.length c2)
          refine .inr ⟨rfl, ⟨⟨A2, c2, hbl, hc3, hC3, fun a ha => by subst ha; exact Nat.le_trans HO.out.size (Hw.out.1.lt a.block (by simp [Value.ownBlock])).1⟩, ?_, by rw [HX.out]; exact Hz.out, Hno.out⟩⟩
          exact ((((HO.out.drewN nq).drew).trans Hw.out.2.1).mono (fun _ _ h => h.elim)).trans hOw
      · have hz1 : ((X : Int) == 0) = false := by simp; omega
        have Hz := hide hz
        clear hz
        go_wp2_with fail
        go_ret
        refine .inl ⟨rfl, HO.out.drewN _, fun ps' hp => ?_⟩
        rcases List.mem_append.1 hp with h1 | h1
        · exact Hno.out ps' h1
        · simp at h1; subst h1; rw [HX.out]; exact Hz.out
end Go.Proofs.Ytfoehijlafooaaa
