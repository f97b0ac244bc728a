/- the solver's search -/
import Derived.Test.YtfoehijlafooaaaDoorPzPush
import Derived.Test.YtfoehijlafooaaaDoorShelf
import Derived.Deep.RegionLaw
namespace Go.Proofs.YtfoehijlafooaaaDoor
open Go.RowKit

theorem info_pint : ∃ i : TypeInfo, Tryd.prog.info? 3 = some i ∧ i.zero = some (.int .i64 0) ∧ i.size = 1 ∧ i.bytes = 8 := by
  have h : (Tryd.prog.info? 3).map (fun i => (i.zero, i.size, i.bytes)) = some (some (.int .i64 0), 1, 8) := by kernel_rfl
  cases hi : Tryd.prog.info? 3 with
  | none => rw [hi] at h; simp at h
  | some i => rw [hi] at h; simp at h; exact ⟨i, rfl, h.1, h.2.1, h.2.2⟩
theorem info_pints : ∃ i : TypeInfo, Tryd.prog.info? 22 = some i ∧ i.zero = some (.slice none 0 0) ∧ i.size = 1 ∧ i.bytes = 24 := by
  have h : (Tryd.prog.info? 22).map (fun i => (i.zero, i.size, i.bytes)) = some (some (.slice none 0 0), 1, 24) := by kernel_rfl
  cases hi : Tryd.prog.info? 22 with
  | none => rw [hi] at h; simp at h
  | some i => rw [hi] at h; simp at h; exact ⟨i, rfl, h.1, h.2.1, h.2.2⟩
/-- slices.Clone of ints -/
theorem clone_any (b off c : Nat) (l : List Int) (w : World) (h8 : l.length ≤ 1000000) (hc : ∀ j (h : j < l.length), w.cell? ⟨b, off + j, none⟩ = some (.int .i64 l[j])) :
    Calls Tryd.prog 17 #[.slice (some ⟨b, off, none⟩) l.length c] w fun e w' => ∃ v', e = .returned v' ∧ w'.ownsRow w.heap.size 3 1 v' l.length (ints l) ∧ Below w.heap.size w w' := by
  obtain ⟨i0, h1, h2, h3, h4⟩ := info_pint
  refine (Tryd.slices_Clone i0 (.int .i64 0) 1 8 h1 h2 h3 h4 rfl (by decide) Tryd.sizeOf3 b off l.length c (ints l) w (by simp) (by unfold maxLen; omega) (by omega) (fun j u hu => ?_) (by simp [ints, Value.oneCell'])).mono (fun e w' ⟨v', q1, q2, _, q4⟩ => ⟨v', q1, q2, q4⟩)
  obtain ⟨hj, hju⟩ := List.getElem?_eq_some_iff.1 hu
  rw [ints_get] at hju
  rw [hc j (by simpa using hj), hju]

set_option maxHeartbeats 8000000 in
set_option maxRecDepth 100000 in
theorem from_any (G : SolB) (b2 r k cap most : Nat) (hr : 0 < r) (hk : 0 < k) (hr3 : r ≤ 3) (hk3 : k ≤ 3) (hG : SolG G b2) (hmost : most ≤ 100) :
    ∀ (m i : Nat) (now : List Int) (R K B : Nat → Nat) (rows : List (List Int)) (v : Value) (w : World), now.length - i < m → i ≤ now.length → now.length = r * k * (r * k) → (∀ j, j < now.length → 0 ≤ gat now j) → (∀ j, j < i → 0 < gat now j) →
      Masks r k now R K B → SolW w G b2 r k cap most now R K B v rows → rows.length < most →
      Calls Tryd.prog 20 #[.pointer (some ⟨G.gs, 0, none⟩), .int .i64 i] w fun e w' => e = .returned (.bool (decide ((addT most rows (solsF r k i now)).length < most))) ∧
        (∃ v', SolW w' G b2 r k cap most now R K B v' (addT most rows (solsF r k i now))) ∧ Only (SolS G b2) w w' := by
  intro m
  induction m with
  | zero => intro i now R K B rows v w hm; omega
  | succ m ih =>
  intro i now R K B rows v w hm hi hl hpos hfill hM hW hrows
  have hn9 : r * k ≤ 9 := Nat.le_trans (Nat.mul_le_mul hr3 hk3) (by decide)
  have hN81 : now.length ≤ 81 := by rw [hl]; exact Nat.mul_le_mul hn9 hn9
  have HI := hide ih
  have HW := hide hW
  have HM := hide hM
  have HG := hide hG
  have Hpos := hide hpos
  have Hfill := hide hfill
  have Hl := hide hl
  obtain ⟨ii, hii⟩ := info_pints
  have Hii := hide hii
  have x3 : w.cell? ⟨G.gs, 3, none⟩ = some (.slice (some ⟨G.gc, 0, none⟩) now.length cap) := by rw [hl]; exact hW.a.box.cellv rfl
  clear ih hW hM hG hpos hfill hl hii
  go_enter Tryd.func20, Tryd.ntmps20
  go_wp2_with fail
  go_loopw [1] (fun idx wr => ∃ q n : Nat, i ≤ q ∧ q ≤ now.length ∧ idx = .int .i64 q ∧ wr = w.drewN n ∧ solsF r k i now = solsF r k q now ∧ ∀ j, j < q → 0 < gat now j) (fun idx _ => now.length - (intOf idx).toNat)
  case atStart => exact ⟨i, 0, by omega, by omega, rfl, rfl, rfl, Hfill.out⟩
  case round =>
    obtain ⟨q, nd, hiq, hq, rfl, rfl, hsol, hfil⟩ := hrel
    have Hsol := hide hsol
    have Hfil := hide hfil
    clear hsol hfil Hfill
    by_cases hlt : q < now.length
    · have y := HW.out.c.at_ hlt
      by_cases hp : gat now q > 0
      · have hp2 : decide (gat now q > 0) = true := by simp [hp]
        have Hs2 := hide (show solsF r k i now = solsF r k (q + 1) now by rw [Hsol.out, solsF_skip hlt hp])
        have Hf2 := hide (show ∀ j, j < q + 1 → 0 < gat now j from fun j hj => by
          by_cases e : j = q
          · subst e; exact hp
          · exact Hfil.out j (by omega))
        clear hp
        go_wp2_with fail
        go_roundw
        case rel => exact ⟨q + 1, _, by omega, by omega, by go_num, rfl, Hs2.out, Hf2.out⟩
        case measure => simp [intOf]; omega
      · have h0 : gat now q = 0 := by have := Hpos.out q hlt; omega
        have HSt := hide (fun n => stuck_any G r k cap most R K B v now (w.drewN n) hr hk hr3 hk3 Hl.out (HW.out.a.drewN n) (HW.out.c.drewN n) (fun a ha => (HM.out.row a ha).1) (fun a ha => (HM.out.col a ha).1) (fun a ha => (HM.out.box a ha).1))
        have HFr := hide (fun n => free_any G r k q cap most R K B v (w.drewN n) hr hk hr3 hk3 (by rw [← Hl.out]; exact hlt) (HW.out.a.drewN n) (fun a ha => (HM.out.row a ha).1) (fun a ha => (HM.out.col a ha).1) (fun a ha => (HM.out.box a ha).1))
        have hqn : ((q : Int) == (now.length : Int)) = false := by simp; omega
        rw [h0] at y
        have H0 := hide h0
        obtain ⟨sb, hsb⟩ : ∃ sb, stuckB r k now R K B = sb := ⟨_, rfl⟩
        rw [hsb] at HSt
        have Hsb := hide hsb
        clear h0 hsb hp
        cases sb with
        | true =>
          have Hnil := hide (show addT most rows (solsF r k i now) = rows by
            have h1 := Hsb.out
            unfold stuckB at h1
            rw [List.any_eq_true] at h1
            obtain ⟨x, hx1, hx2⟩ := h1
            simp only [List.mem_range, Bool.and_eq_true, beq_iff_eq] at hx1 hx2
            have hqx : q ≤ x := by
              rcases Nat.lt_or_ge x q with h | h
              · have := Hfil.out x h; omega
              · exact h
            rw [Hsol.out, stuck_nil hn9 _ rfl hqx hx1 hx2.1 Hpos.out (by rw [nums_bits hr hk HM.out (by rw [← Hl.out]; exact hx1) hx2.1, hx2.2]; exact bitsOf_zero)]
            exact addT_nil (by omega))
          go_wp2_with (go_at_call 23; refine (HSt.out _).mono ?_; rintro e w2 ⟨rfl, m2, rfl⟩)
          go_ret
          exact ⟨by rw [Hnil.out, decide_eq_true hrows] <;> rfl, ⟨_, by rw [Hnil.out]; exact HW.out.drewN _⟩, (Only.refl _ w).drewN _⟩
        | false =>
          have Hbits := hide (nums_bits hr hk HM.out (by rw [← Hl.out]; exact hlt) H0.out)
          have hf9 : freeN r k R K B q < 512 := Nat.lt_of_lt_of_le freeN_lt (Nat.pow_le_pow_right (by decide) hn9)
          have Htot := hide (show addT most rows ((bitsOf (freeN r k R K B q)).flatMap fun x : Nat => solsF r k (q + 1) (now.set q ((x : Int) + 1))) = addT most rows (solsF r k i now) by
            rw [Hsol.out, solsF_step hlt (by rw [H0.out]; decide), Hbits.out])
          clear Hsol Hsb
          go_wp2_with (first | (go_at_call 23; refine (HSt.out _).mono ?_; rintro e w2 ⟨rfl, m2, rfl⟩) | (go_at_call 18; refine (HFr.out _).mono ?_; rintro e w3 ⟨rfl, m3, rfl⟩))
          go_loopw [5, 6, 7] (fun f c on wr => ∃ (F : Nat) (rows1 : List (List Int)) (v1 : Value), f = .int .u64 F ∧ F < 512 ∧ SolW wr G b2 r k cap most now R K B v1 rows1 ∧ rows1.length < most ∧ Only (SolS G b2) w wr ∧ (∀ x ∈ bitsOf F, x ∈ nums r k now q) ∧
            addT most rows1 ((bitsOf F).flatMap fun x : Nat => solsF r k (q + 1) (now.set q ((x : Int) + 1))) = addT most rows (solsF r k i now)) (fun f c on _ => (intOf f).toNat)
          case atStart => exact ⟨_, rows, v, rfl, hf9, HW.out.drewN _, hrows, (Only.refl _ w).drewN _, fun x hx => by rw [Hbits.out]; exact hx, Htot.out⟩
          case round =>
            clear HSt HFr Htot Hbits hf9 x3 y
            rename World => wr
            obtain ⟨F, rows1, v1, rfl, hF, hW5, hr1, hO5, hin, htot⟩ := hrel
            have HW5 := hide hW5
            have HO5 := hide hO5
            have Hin := hide hin
            have Htot := hide htot
            clear hW5 hO5 hin htot
            by_cases hF0 : F = 0
            · subst hF0
              have Hfin := hide (show addT most rows (solsF r k i now) = rows1 by rw [← Htot.out, bitsOf_zero]; exact addT_nil (by omega))
              go_wp2_with fail
              go_ret
              exact ⟨by rw [Hfin.out, decide_eq_true hr1] <;> rfl, ⟨_, by rw [Hfin.out]; exact HW5.out⟩, HO5.out⟩
            have hFd : decide ((F : Int) > 0) = true := by simp; omega
            have Hstep := hide (bitsOf_step hF hF0)
            obtain ⟨c, hc⟩ : ∃ c, lowBit F = c := ⟨_, rfl⟩
            rw [hc] at Hstep
            obtain ⟨hcn, hcf⟩ := (mem_nums hn9).1 (Hin.out c (by rw [Hstep.out]; exact List.mem_cons_self ..))
            have hqN : q < r * k * (r * k) := by rw [← Hl.out]; exact hlt
            have hMb := HM.out.flip hr hk Hl.out hlt H0.out hcn hcf
            have hWa := HW5.out.cell HG.out hlt ((c : Int) + 1)
            have hback := set_back hlt ((c : Int) + 1) H0.out
            have hpos' : ∀ j, j < (now.set q ((c : Int) + 1)).length → 0 ≤ gat (now.set q ((c : Int) + 1)) j := fun j hj => by
              rw [gat_set hlt]
              split
              · omega
              · exact Hpos.out j (by simpa using hj)
            have hfill' : ∀ j, j < q + 1 → 0 < gat (now.set q ((c : Int) + 1)) j := fun j hj => by
              rw [gat_set hlt]
              split
              · omega
              · exact Hfil.out j (by omega)
            have hlen' : (now.set q ((c : Int) + 1)).length = now.length := List.length_set
            have Htot2 := hide (show addT most (addT most rows1 (solsF r k (q + 1) (now.set q ((c : Int) + 1)))) ((bitsOf (F &&& (F - 1))).flatMap fun x : Nat => solsF r k (q + 1) (now.set q ((x : Int) + 1))) = addT most rows (solsF r k i now) by
              rw [addT_addT, ← Htot.out, Hstep.out, List.flatMap_cons])
            have Hin2 := hide (show ∀ x ∈ bitsOf (F &&& (F - 1)), x ∈ nums r k now q from fun x hx => Hin.out x (by rw [Hstep.out]; exact List.mem_cons_of_mem _ hx))
            have HFa := hide (fun W hS => flip_any G r k q c cap most R K B v1 W hr hk hr3 hk3 hqN hcn hS (fun a ha => (HM.out.row a ha).1) (fun a ha => (HM.out.col a ha).1) (fun a ha => (HM.out.box a ha).1) HG.out.rk HG.out.rb HG.out.kb)
            obtain ⟨now', hnow'⟩ : ∃ now', now.set q ((c : Int) + 1) = now' := ⟨_, rfl⟩
            rw [hnow'] at hMb hWa hback hpos' hfill' hlen' Htot2
            have HFb := hide (fun v7 W hS => flip_any G r k q c cap most _ _ _ v7 W hr hk hr3 hk3 hqN hcn hS (fun a ha => (hMb.row a ha).1) (fun a ha => (hMb.col a ha).1) (fun a ha => (hMb.box a ha).1) HG.out.rk HG.out.rb HG.out.kb)
            have hIc := fun w (hW : SolW w G b2 r k cap most now' _ _ _ v1 rows1) => HI.out (q + 1) now' _ _ _ rows1 v1 w (by omega) (by omega) (by rw [hlen']; exact Hl.out) hpos' hfill' hMb hW hr1
            have ecast : ((q + 1 : Nat) : Int) = (q : Int) + 1 := by omega
            rw [ecast] at hIc
            obtain ⟨rows2, hrows2⟩ : ∃ rows2, addT most rows1 (solsF r k (q + 1) now') = rows2 := ⟨_, rfl⟩
            rw [hrows2] at hIc Htot2
            have hlen2 : rows2.length ≤ most := by rw [← hrows2]; exact addT_len
            obtain ⟨ob, hob⟩ : ∃ ob, decide (rows2.length < most) = ob := ⟨_, rfl⟩
            rw [hob] at hIc
            have HIc := hide hIc
            have HTz := hide (show ∀ w, TabAt 1 Lib.deBruijn64tab w → Calls Tryd.prog 24 #[.int .u64 F] w fun e w' => e = .returned (.int .i64 (c : Int)) ∧ w' = w from fun w hT => by
              have h := tz_any F hF hF0 w hT
              rw [hc] at h
              exact h)
            have HWa := hide hWa
            have Hback := hide hback
            have hc9 : c < 9 := by omega
            have x35 : wr.cell? ⟨G.gs, 3, none⟩ = some (.slice (some ⟨G.gc, 0, none⟩) now.length cap) := by rw [Hl.out]; exact HW5.out.a.box.cellv rfl
            have y5 := HW5.out.c.at_ hlt
            have f5 := HW5.out.c.free q
            have hlt' : q < now'.length := by omega
            have s5 : IntKind.u64.wrap ((F : Int) - 1) = ((F - 1 : Nat) : Int) := by rw [IntKind.wrap_u64]; omega
            have s6 := uand F (F - 1) (by omega) (by omega)
            have hFlt := bits_and_sub hF hF0
            have HO5a := hide (HO5.out.setCell (p := ⟨G.gc, q, none⟩) (.inl (.inr (.inl rfl))) (.int .i64 ((c : Int) + 1)))
            have hSf : ∀ b, (b = G.gr ∨ b = G.gk ∨ b = G.gb) → SolS G b2 b := by
              rintro b (e | e | e)
              · exact .inr (.inr (.inl e))
              · exact .inr (.inr (.inr (.inl e)))
              · exact .inr (.inr (.inr (.inr (.inl e))))
            have Hob := hide hob
            clear hFd hMb hback hpos' hfill' hnow' hIc ecast hrows2 hob hWa hc hcf Htot Hin Hstep HI HM H0 Hpos Hfil
            have hFd : decide ((F : Int) > 0) = true := by simp; omega
            cases ob with
            | true =>
              go_wp2_with (first
                | (go_at_call 24; refine (HTz.out _ HW5.out.t).mono ?_; rintro e w6 ⟨rfl, hw6⟩; rw [hw6]; clear hw6)
                | (go_at_call 20; refine (HIc.out _ hWb).mono ?_; rintro e w7 ⟨rfl, ⟨v7, hW7⟩, hO7⟩)
                | (go_at_call 19; refine (HFb.out v7 _ hW7.a).mono ?_; rintro e w8 ⟨rfl, ha8, ho8⟩; rw [flip_back, flip_back, flip_back] at ha8; have hW8 := hW7.flip HG.out ha8 ho8; have x38 : w8.cell? ⟨G.gs, 3, none⟩ = some (.slice (some ⟨G.gc, 0, none⟩) now.length cap) := (by rw [Hl.out]; exact hW8.a.box.cellv rfl); have y8 := hW8.c.at_ hlt'; have f8 := hW8.c.free q)
                | (go_at_call 19; refine (HFa.out _ HWa.out.a).mono ?_; rintro e w6 ⟨rfl, ha6, ho6⟩; have hWb := HWa.out.flip HG.out ha6 ho6))
              go_roundw
              case rel =>
                have hW9 := hW8.cell HG.out hlt' 0
                rw [Hback.out] at hW9
                have hO9 := (((((HO5a.out.trans' ho6 (fun b _ hb => hSf b hb)).trans' hO7 (fun _ _ h => h)).trans' ho8 (fun b _ hb => hSf b hb)))).setCell (p := ⟨G.gc, q, none⟩) (.inl (.inr (.inl rfl))) (.int .i64 0)
                exact ⟨_, rows2, v7, rfl, by omega, hW9, of_decide_eq_true Hob.out, hO9, Hin2.out, Htot2.out⟩
              case measure => simp [intOf]; omega
            | false =>
              go_wp2_with (first
                | (go_at_call 24; refine (HTz.out _ HW5.out.t).mono ?_; rintro e w6 ⟨rfl, hw6⟩; rw [hw6]; clear hw6)
                | (go_at_call 20; refine (HIc.out _ hWb).mono ?_; rintro e w7 ⟨rfl, ⟨v7, hW7⟩, hO7⟩)
                | (go_at_call 19; refine (HFb.out v7 _ hW7.a).mono ?_; rintro e w8 ⟨rfl, ha8, ho8⟩; rw [flip_back, flip_back, flip_back] at ha8; have hW8 := hW7.flip HG.out ha8 ho8; have x38 : w8.cell? ⟨G.gs, 3, none⟩ = some (.slice (some ⟨G.gc, 0, none⟩) now.length cap) := (by rw [Hl.out]; exact hW8.a.box.cellv rfl); have y8 := hW8.c.at_ hlt'; have f8 := hW8.c.free q)
                | (go_at_call 19; refine (HFa.out _ HWa.out.a).mono ?_; rintro e w6 ⟨rfl, ha6, ho6⟩; have hWb := HWa.out.flip HG.out ha6 ho6))
              go_ret
              have hW9 := hW8.cell HG.out hlt' 0
              rw [Hback.out] at hW9
              have hO9 := (((((HO5a.out.trans' ho6 (fun b _ hb => hSf b hb)).trans' hO7 (fun _ _ h => h)).trans' ho8 (fun b _ hb => hSf b hb)))).setCell (p := ⟨G.gc, q, none⟩) (.inl (.inr (.inl rfl))) (.int .i64 0)
              have hfin : addT most rows (solsF r k i now) = rows2 := by
                rw [← Htot2.out]
                exact addT_full (by have := of_decide_eq_false Hob.out; omega)
              exact ⟨by rw [hfin, Hob.out] <;> rfl, ⟨_, by rw [hfin]; exact hW9⟩, hO9⟩
    · obtain rfl : q = now.length := by omega
      have Hs2 := hide (show addT most rows (solsF r k i now) = rows ++ [now] by rw [Hsol.out, solsF_end rfl, addT_one hrows])
      have HW1 := hide (HW.out.drewN nd)
      have HO1 := hide ((Only.refl (SolS G b2) w).drewN nd)
      clear HI Hsol HW HM Hfil
      go_wp2_with fail
      clear x3
      obtain ⟨w1, hw1⟩ : ∃ w1, w.drewN nd = w1 := ⟨_, rfl⟩
      rw [hw1] at HW1 HO1 ⊢
      clear hw1
      have x3 : w1.cell? ⟨G.gs, 3, none⟩ = some (.slice (some ⟨G.gc, 0, none⟩) now.length cap) := by rw [Hl.out]; exact HW1.out.a.box.cellv rfl
      have x8 : w1.cell? ⟨G.gs, 8, none⟩ = some v := HW1.out.a.box.cellv rfl
      have hgs : G.gs < w1.heap.size := HW1.out.a.box.lt
      have HBx := hide (show Blk w1 G.gs 42 #[.int .i64 r, .int .i64 k, .int .i64 (r * k : Nat), .slice (some ⟨G.gc, 0, none⟩) now.length cap, .slice (some ⟨G.gr, 0, none⟩) (r * k) (r * k), .slice (some ⟨G.gk, 0, none⟩) (r * k) (r * k), .slice (some ⟨G.gb, 0, none⟩) (r * k) (r * k), .int .i64 most, v] by rw [Hl.out]; exact HW1.out.a.box)
      have HCl := hide (show ∀ W, Below w1.heap.size w1 W → Calls Tryd.prog 17 #[.slice (some ⟨G.gc, 0, none⟩) now.length cap] W fun e w' => ∃ A c, e = .returned (.slice A now.length c) ∧ now.length ≤ c ∧
          Cells w' w'.heap.size A (ints now) ∧ (0 < now.length → ∀ a, A = some a → w1.heap.size ≤ a.block) ∧ Below w1.heap.size w1 w' from fun W hb =>
        (clone_any G.gc 0 cap now W (by omega) (fun j hj => by
          rw [Nat.zero_add, hb.cell (World.block_lt_of_cell? _ _ (HW1.out.c.at_ hj)), HW1.out.c.at_ hj, gat_get hj])).mono fun e w' ⟨v', q1, q2, q3⟩ => by
            obtain ⟨A, c, rfl, h1, h2, h3⟩ := Cells.of_own q2
            refine ⟨A, c, q1, h1, h3, fun hn a ha => ?_, hb.trans (q3.mono hb.size)⟩
            have := (q2.lt a.block (by rw [ha]; rfl)).1
            have := hb.size
            omega)
      obtain ⟨vs, hvs, hrs⟩ := HW1.out.o
      have Hvs := hide hvs
      have Hrs := hide hrs
      clear hvs hrs
      go_region_law
        ((first | (go_simp; go_at_call 17; refine (HCl.out w1.drew (below_drew_ (Below.refl _ _))).mono ?_; rintro e wc ⟨A, ca, rfl, hca, hcells, hAb, hbc⟩; have xc3 : wc.cell? ⟨G.gs, 3, none⟩ = some (.slice (some ⟨G.gc, 0, none⟩) now.length cap) := (hbc.cell (p := ⟨G.gs, 3, none⟩) hgs).trans x3; have xc8 : wc.cell? ⟨G.gs, 8, none⟩ = some v := (hbc.cell (p := ⟨G.gs, 8, none⟩) hgs).trans x8; have hgsc : G.gs < wc.heap.size := Nat.lt_of_lt_of_le hgs hbc.size; have Hvc := hide (ownsRow_only Hvs.out (Only.of_below (S := fun k => w1.heap.size ≤ k) hbc (fun k _ h => h)) (fun g hg => by have := (Hvs.out.lt g hg).2; omega)); have Hbc := hide hbc; have Hcells := hide hcells; have HAb := hide hAb; have Hca := hide hca; clear hbc hcells hAb hca)
                | (refine step_appends2 rfl (.tmp 38) (.tmp 44) 23 (by rfl) b2 22 ii (.slice none 0 0) 24 Tryd.underlying23 Hii.out.1 Hii.out.2.1 Hii.out.2.2.1 Hii.out.2.2.2 rfl v rows.length vs (by rfl) (Hvc.out.alloc _) (wc.heap.size + 1) (some ⟨wc.heap.size, 0, none⟩) 1 [.slice A now.length ca] 1 rfl (by rfl) (cells_box _ _ _) (by simp [Value.oneCell']) (fun e => by simp at e) (show rows.length + 1 ≤ maxLen by unfold maxLen; omega) (show (rows.length + 1) * 24 ≤ 140737488355328 by omega) (Nat.le_trans HW1.out.z (Nat.le_trans Hbc.out.size (below_alloc0 (Below.refl _ wc) _).size)) (rows.length + 1) rfl ?_; intro A3 c3 w3 hown3 hgr3 hwh; have hne : some G.gs ≠ v.ownBlock := (fun e => by have := (Hvs.out.lt G.gs e.symm).1; have := HG.out.s2; omega); have bd := ((HBx.out.below Hbc.out hgs).alloc (.cells #[.slice A now.length ca] 22)).grown hgr3 hne; have xd3 : w3.cell? ⟨G.gs, 3, none⟩ = some (.slice (some ⟨G.gc, 0, none⟩) now.length cap) := bd.cellv rfl; have xd8 : w3.cell? ⟨G.gs, 8, none⟩ = some v := bd.cellv rfl; have fd8 := bd.free 8; have Hown3 := hide hown3; have Hgr3 := hide hgr3; have Hwh := hide hwh; have Hbd := hide bd; clear hown3 hgr3 hwh bd hne)))
      all_goals
        obtain ⟨hW4, hO4⟩ := sol_push HG.out HW1.out Hca.out Hcells.out HAb.out Hbc.out Hvs.out Hrs.out Hown3.out Hgr3.out Hwh.out
        have HW4 := hide hW4
        have HO4 := hide (HO1.out.trans' hO4 (fun _ _ h => h))
        clear hW4 hO4 Hgr3 Hown3 Hwh Hbd Hrs Hvs Hcells HAb Hbc Hvc xc3 xc8 xd3 xd8 fd8 x3 x8 HBx HCl HO1 HW1 hgsc hgs
        obtain ⟨w4, hw4⟩ : ∃ w4, w3.setCell ⟨G.gs, 8, none⟩ (.slice A3 (rows.length + 1) c3) = w4 := ⟨_, rfl⟩
        rw [hw4] at HW4 HO4 ⊢
        clear hw4
        have x7 : w4.cell? ⟨G.gs, 7, none⟩ = some (.int .i64 most) := HW4.out.a.box.cellv rfl
        have x8 : w4.cell? ⟨G.gs, 8, none⟩ = some (.slice A3 (rows.length + 1) c3) := HW4.out.a.box.cellv rfl
        have Hb := hide (show decide (((rows.length : Int) + 1) < (most : Int)) = decide ((addT most rows (solsF r k i now)).length < most) from decide_eq_decide.2 (by rw [Hs2.out, List.length_append]; simp only [List.length_cons, List.length_nil]; omega))
        go_wp2_with fail
        go_big_region
        go_wp2_with fail
        go_ret
        exact ⟨by rw [← Hb.out] <;> rfl, ⟨_, by rw [Hs2.out]; exact HW4.out.drewN 1⟩, HO4.out.drew⟩
end Go.Proofs.YtfoehijlafooaaaDoor
