/- puzzle.solve -/
import Derived.Test.YtfoehijlafooaaaDoorPzFrom
namespace Go.Proofs.YtfoehijlafooaaaDoor
open Go.RowKit

theorem info_puint : ∃ i : TypeInfo, Tryd.prog.info? 43 = some i ∧ i.zero = some (.int .u64 0) ∧ i.size = 1 ∧ i.bytes = 8 := by
  have h : (Tryd.prog.info? 43).map (fun i => (i.zero, i.size, i.bytes)) = some (some (.int .u64 0), 1, 8) := by kernel_rfl
  cases hi : Tryd.prog.info? 43 with
  | none => rw [hi] at h; simp at h
  | some i => rw [hi] at h; simp at h; exact ⟨i, rfl, h.1, h.2.1, h.2.2⟩

theorem Blk.new' {w : World} {g : Nat} {t : TypeId} {cs : Array Value} (h : g = w.heap.size) : Blk (w.alloc (.cells cs t)) g t cs := by
  subst h; exact Blk.new _ _ _
theorem Blk.below2 {w w' : World} {g B : Nat} {t : TypeId} {cs : Array Value} (hb : Below B w w') (hg : g < B) (h : Blk w g t cs) : Blk w' g t cs := h.below hb hg
theorem CellsG.below {w w' : World} {g B : Nat} {now : List Int} (h : CellsG w g now) (hb : Below B w w') (hg : g < B) : CellsG w' g now := by
  obtain ⟨cs, h1, h2⟩ := h
  exact ⟨cs, h1.below hb hg, h2⟩
theorem CellsG.alloc {w : World} {g : Nat} {now : List Int} (h : CellsG w g now) (o : Obj) : CellsG (w.alloc o) g now := by
  obtain ⟨cs, h1, h2⟩ := h
  exact ⟨cs, h1.alloc o, h2⟩
/-- a new solver -/
def NewSol (W w : World) (G : SolB) (r k cap most : Nat) (cells : List Int) : Prop :=
  (W.heap.size ≤ G.gs ∧ W.heap.size ≤ G.gc ∧ W.heap.size ≤ G.gr ∧ W.heap.size ≤ G.gk ∧ W.heap.size ≤ G.gb) ∧ SolG G w.heap.size ∧
    SolW w G w.heap.size r k cap most cells (fun _ => 0) (fun _ => 0) (fun _ => 0) (.slice none 0 0) [] ∧ Below W.heap.size W w
theorem sol_make {w W : World} {gs gc gr gk gb r k n cap most : Nat} {cells : List Int} (hn : r * k = n) (hl : cells.length = r * k * (r * k)) (hw1 : 1 < W.heap.size) (hT : TabAt 1 Lib.deBruijn64tab W) (hB : Below W.heap.size W w)
    (hbox : Blk w gs 42 #[.int .i64 r, .int .i64 k, .int .i64 n, .slice (some ⟨gc, 0, none⟩) cells.length cap, .slice (some ⟨gr, 0, none⟩) n n, .slice (some ⟨gk, 0, none⟩) n n, .slice (some ⟨gb, 0, none⟩) n n, .int .i64 most, .slice none 0 0])
    (h1 : Blk w gr 43 (Array.replicate n (.int .u64 0))) (h2 : Blk w gk 43 (Array.replicate n (.int .u64 0))) (h3 : Blk w gb 43 (Array.replicate n (.int .u64 0))) (hc : CellsG w gc cells)
    (d1 : W.heap.size ≤ gs) (d2 : W.heap.size ≤ gc) (d3 : W.heap.size ≤ gr) (d4 : W.heap.size ≤ gk) (d5 : W.heap.size ≤ gb) (e1 : gr ≠ gk) (e2 : gr ≠ gb) (e3 : gk ≠ gb) : NewSol W w ⟨gs, gc, gr, gk, gb⟩ r k cap most cells := by
  subst hn
  have hc0 := hc
  obtain ⟨cs, hcb, hcc⟩ := hc0
  have rep : ∀ g, Blk w g 43 (Array.replicate (r * k) (.int .u64 0)) → Blk w g 43 (arrV (r * k) fun _ => .int .u64 ((0 : Nat) : Int)) := fun g h => by
    rw [arrV_replicate (r * k) (fun _ => .int .u64 ((0 : Nat) : Int)) (.int .u64 0) (fun _ _ => rfl)] at h; exact h
  refine ⟨⟨d1, d2, d3, d4, d5⟩, ⟨by simp only; omega, by simp only; omega, by simp only; omega, by simp only; omega, by simp only; omega, hbox.lt, hcb.lt, h1.lt, h2.lt, h3.lt, e1, e2, e3, hbox.ne_ hcb (by decide), h1.ne_ hcb (by decide), h2.ne_ hcb (by decide), h3.ne_ hcb (by decide), hbox.ne_ h1 (by decide), hbox.ne_ h2 (by decide), hbox.ne_ h3 (by decide)⟩,
    ⟨⟨by rw [← hl]; exact hbox, rep _ h1, rep _ h2, rep _ h3⟩, hc, OutAt.nil_ _ _, fun j hj => ?_, Nat.le_refl _⟩, hB⟩
  rw [← hT j hj]
  exact hB.cell hw1

set_option maxHeartbeats 8000000 in
set_option maxRecDepth 100000 in
theorem solve_any (r k most : Nat) (A : Option Addr) (c : Nat) (cells : List Int) (W : World) (hr : 0 < r) (hk : 0 < k) (hr3 : r ≤ 3) (hk3 : k ≤ 3) (hl : cells.length = r * k * (r * k)) (hin : ∀ j, j < cells.length → 0 ≤ gat cells j ∧ gat cells j ≤ (r * k : Nat))
    (hm0 : 0 < most) (hm : most ≤ 100) (hA : Cells W W.heap.size A (ints cells)) (hT : TabAt 1 Lib.deBruijn64tab W) :
    Calls Tryd.prog 13 #[.int .i64 r, .int .i64 k, .slice A cells.length c, .int .i64 most] W fun e w' =>
      ∃ A' c', e = .returned (.slice A' (answers r k cells most).length c') ∧ (answers r k cells most).length ≤ c' ∧ Rows2 w' w'.heap.size A' (answers r k cells most) ∧ Below W.heap.size W w' := by
  have hn9 : r * k ≤ 9 := Nat.le_trans (Nat.mul_le_mul hr3 hk3) (by decide)
  have hn0 : 0 < r * k := Nat.mul_pos hr hk
  have hN81 : cells.length ≤ 81 := by rw [hl]; exact Nat.mul_le_mul hn9 hn9
  have hN0 : 0 < cells.length := by rw [hl]; exact Nat.mul_pos hn0 hn0
  obtain ⟨iu, hu1, hu2, hu3, hu4⟩ := info_puint
  obtain ⟨b, off, rfl, hbA, hcA⟩ := hA (by simpa using hN0)
  have HcA := hide hcA
  have HT := hide hT
  have Hin := hide hin
  have Hl := hide hl
  have hw1 : 1 < W.heap.size := World.block_lt_of_cell? W _ (hT 0 (by decide))
  have HCl := hide (show ∀ w, Below W.heap.size W w → Calls Tryd.prog 17 #[.slice (some ⟨b, off, none⟩) cells.length c] w fun e w' => ∃ g cap, e = .returned (.slice (some ⟨g, 0, none⟩) cells.length cap) ∧
      w.heap.size ≤ g ∧ g < w'.heap.size ∧ CellsG w' g cells ∧ Below w.heap.size w w' ∧ Below W.heap.size W w' from fun w hb =>
    (clone_any b off c cells w (by omega) (fun j hj => by
      have h1 := hcA j (by simpa using hj)
      rw [ints_get] at h1
      rw [hb.cell hbA, h1])).mono fun e w' ⟨v', q1, q2, q3⟩ => by
        obtain ⟨h1, h2⟩ := q2
        rcases h2 with ⟨rfl, h3⟩ | ⟨g, cap, cur, rfl, hbg, hg, hnc, hcm, hcs, htake⟩
        · rw [h3] at hN0; omega
        · refine ⟨g, cap, q1, hbg, (Array.getElem?_eq_some_iff.1 hg).1, ⟨cur, hg, fun j hj => ?_⟩, q3, hb.trans (q3.mono hb.size)⟩
          have h5 : cur.toList[j]? = (ints cells)[j]? := by
            rw [← htake, List.getElem?_take, if_pos (by omega)]
          rw [← Array.getElem?_toList, h5, List.getElem?_eq_getElem (by simpa using hj), ints_get, gat_get hj])
  clear hcA hT hin hl
  have ecast : ((r * k : Nat) : Int) = (r : Int) * (k : Int) := by simp
  obtain ⟨n, hn⟩ : ∃ n, r * k = n := ⟨_, rfl⟩
  rw [hn] at ecast
  have eprod : (r : Int) * (k : Int) = (n : Int) := ecast.symm
  clear ecast
  rw [hn] at hn9 hn0
  have hmk : ∀ w, (Instr.makeSlice 40 (.int .i64 (n : Int)) (.int .i64 (n : Int))).run Tryd.prog w = .ok (.slice (some ⟨w.heap.size, 0, none⟩) n n) (w.alloc (.cells (Array.replicate n (.int .u64 0)) 43)) := fun w =>
    run_make1 40 43 iu (.int .u64 0) Tryd.underlying40 hu1 hu2 hu3 rfl .i64 .i64 n (by rw [hu4]; omega) (by omega) w
  go_enter Tryd.func13, Tryd.ntmps13
  go_wp2_with fail
  go_cut [10] from 13 (fun s10 w => ∃ G cap, s10 = .pointer (some ⟨G.gs, 0, none⟩) ∧ NewSol W w G r k cap most cells)
  case first =>
    go_region_law
      ((first | (go_simp; go_at_call 17; refine (HCl.out _ (by repeat (first | exact Below.refl _ _ | refine below_drew_ ?_ | refine below_alloc0 ?_ _))).mono ?_; rintro e w2 ⟨gc, cap, rfl, hg1, hg2, hcg, hb2, hbW⟩; have hz := hb2.size; (try simp [go_sem] at hz hg1))))
    all_goals
      go_wp2_with fail
      go_meet
      case rel =>
        refine ⟨⟨_, _, _, _, _⟩, cap, rfl, sol_make hn Hl.out hw1 HT.out ?_ (Blk.new' (by simp [go_sem])) ?_ ?_ ?_ ?_ ?_ ?_ ?_ ?_ ?_ ?_ ?_ ?_⟩
        · repeat (first | exact hbW | refine below_alloc0 ?_ _)
        · repeat (first | (refine Blk.new' ?_; simp [go_sem]; done) | (refine Blk.below2 hb2 ?_ ?_; focus first | (simp [go_sem]; done) | (simp [go_sem]; omega)) | refine Blk.alloc ?_ _)
        · repeat (first | (refine Blk.new' ?_; simp [go_sem]; done) | (refine Blk.below2 hb2 ?_ ?_; focus first | (simp [go_sem]; done) | (simp [go_sem]; omega)) | refine Blk.alloc ?_ _)
        · repeat (first | (refine Blk.new' ?_; simp [go_sem]; done) | (refine Blk.below2 hb2 ?_ ?_; focus first | (simp [go_sem]; done) | (simp [go_sem]; omega)) | refine Blk.alloc ?_ _)
        · repeat (first | exact hcg | refine CellsG.alloc ?_ _)
        all_goals first | omega | (simp [go_sem]; omega)
  case rest =>
    obtain ⟨G, cap, rfl, hge, hG, hS, hB⟩ := hcut
    clear HCl hmk hu1 hu2 hu3 hu4 HcA hbA hA iu
    have HG := hide hG
    have HS := hide hS
    have HB := hide hB
    have Hge := hide hge
    obtain ⟨b2, hb2⟩ : ∃ b2, wc.heap.size = b2 := ⟨_, rfl⟩
    rw [hb2] at HG HS
    have x3 : wc.cell? ⟨G.gs, 3, none⟩ = some (.slice (some ⟨G.gc, 0, none⟩) cells.length cap) := by rw [Hl.out]; exact hS.a.box.cellv rfl
    have Hn := hide hn
    clear hG hS hB hge hn
    go_wp2_with fail
    go_loopw [35, 11, 12] (fun idx _ _ wr => ∃ (t : Nat) (R K B : Nat → Nat), t ≤ cells.length ∧ idx = .int .i64 t ∧ SolW wr G b2 r k cap most cells R K B (.slice none 0 0) [] ∧ Masks r k (pre cells t) R K B ∧ FitsTo r k cells t ∧ Only (SolS G b2) wc wr) (fun idx _ _ _ => cells.length - (intOf idx).toNat)
    case atStart => exact ⟨0, _, _, _, by omega, rfl, HS.out, by rw [pre_zero]; exact Masks.zero _, fun i hi => absurd hi (by omega), Only.refl _ _⟩
    case round =>
      rename World => wr
      obtain ⟨t, R, K, B, ht, rfl, hS1, hM, hF, hO⟩ := hrel
      have HS1 := hide hS1
      have HM := hide hM
      have HF := hide hF
      have HO := hide hO
      clear hS1 hM hF hO
      by_cases hlt : t < cells.length
      · have y := HS1.out.c.at_ hlt
        have hb := Hin.out t hlt
        by_cases hp : gat cells t = 0
        · rw [hp] at y
          have Hp := hide hp
          clear hp hb
          go_wp2_with fail
          go_roundw
          case rel => exact ⟨t + 1, R, K, B, by omega, by go_num, HS1.out, by rw [pre_same hlt Hp.out]; exact HM.out, fun i hi j hj h1 h2 => by
            by_cases e : i = t
            · subst e; rw [Hp.out] at h1; omega
            · exact HF.out i (by omega) j hj h1 h2, HO.out⟩
          case measure => simp [intOf]; omega
        · obtain ⟨c0, hc0⟩ : ∃ c0 : Nat, gat cells t = (c0 : Int) + 1 := ⟨(gat cells t - 1).toNat, by omega⟩
          have hcn : c0 < r * k := by omega
          rw [hc0] at y
          have Hc0 := hide hc0
          clear hc0 hp hb
          have hgp : decide ((c0 : Int) + 1 > 0) = true := decide_eq_true (by omega)
          have hR := fun a ha => (HM.out.row a ha).1
          have hK := fun a ha => (HM.out.col a ha).1
          have hBb := fun a ha => (HM.out.box a ha).1
          have htN : t < r * k * (r * k) := by rw [← Hl.out]; exact hlt
          have HFr := hide (free_any G r k t cap most R K B _ wr hr hk hr3 hk3 htN HS1.out.a hR hK hBb)
          have HFl := hide (fun W hS => flip_any G r k t c0 cap most R K B (.slice none 0 0) W hr hk hr3 hk3 htN hcn hS hR hK hBb HG.out.rk HG.out.rb HG.out.kb)
          have hg0 : gat (pre cells t) t = 0 := by rw [gat_pre (by omega), if_neg (by omega)]
          have hbit := free_fits hr hk HM.out htN hg0 hcn
          have hpf := pre_fits (r := r) (k := k) hlt (by rw [Hc0.out]; omega) HF.out
          rw [Hc0.out] at hpf
          have hps := pre_step hlt
          rw [Hc0.out] at hps
          have p9 : 2 ^ (r * k) ≤ 2 ^ 9 := Nat.pow_le_pow_right (by decide) (by rw [Hn.out]; exact hn9)
          have hf9 : freeN r k R K B t < 512 := Nat.lt_of_lt_of_le freeN_lt p9
          obtain ⟨f, hf⟩ : ∃ f, freeN r k R K B t = f := ⟨_, rfl⟩
          rw [hf] at HFr hbit hf9
          obtain ⟨bt, hbt⟩ : ∃ bt, f.testBit c0 = bt := ⟨_, rfl⟩
          rw [hbt] at hbit
          have Hbt := hide hbt
          have Hbit := hide hbit
          have Hpf := hide hpf
          have Hps := hide hps
          have hc9 : c0 < 9 := by rw [Hn.out] at hcn; omega
          obtain ⟨D, hD⟩ : ∃ D, f / 2 ^ c0 = D := ⟨_, rfl⟩
          have hD1 : (f : Int) / 2 ^ c0 = (D : Int) := by rw [← hD]; simp
          have hDf : D ≤ f := by rw [← hD]; exact Nat.div_le_self _ _
          have hD2 : bt = decide (D % 2 = 1) := by rw [← hbt, Nat.testBit_eq_decide_div_mod_eq, hD]
          have hD3 := uand D 1 (by omega) (by omega)
          rw [Nat.and_one_is_mod] at hD3
          have hD4 : bits .and .u64 (D : Int) 1 = if bt = true then 1 else 0 := by
            rw [hD2]
            have h2 : bits .and .u64 (D : Int) 1 = ((D % 2 : Nat) : Int) := hD3
            rw [h2]
            by_cases h : D % 2 = 1
            · simp [h]
            · have : D % 2 = 0 := by omega
              simp [this]
          clear hR hK hBb hg0 hbit hpf hps hf hbt hD hD3 hD2 p9
          cases bt with
          | false =>
            simp only [Bool.false_eq_true, if_false] at hD4
            have Hans := hide (show answers r k cells most = [] by
              unfold answers
              rw [fits_not hlt (fun h => by have := Hpf.out.2 h; rw [← Hbit.out] at this; cases this)]
              rfl)
            go_wp2_with (go_at_call 18; refine HFr.out.mono ?_; rintro e w2 ⟨rfl, m2, rfl⟩)
            go_ret
            have hbl := below_drewN (HB.out.trans (((HO.out.below_ (B := W.heap.size) (fun b hb => by
              rcases hb with e | e | e | e | e | e
              · rw [e]; exact Hge.out.1
              · rw [e]; exact Hge.out.2.1
              · rw [e]; exact Hge.out.2.2.1
              · rw [e]; exact Hge.out.2.2.2.1
              · rw [e]; exact Hge.out.2.2.2.2
              · exact Nat.le_trans HB.out.size (by rw [hb2]; exact e)) HB.out.size)))) m2
            refine ⟨none, 0, ?_, ?_, ?_, hbl⟩
            · rw [Hans.out]; rfl
            · rw [Hans.out]; exact Nat.le_refl _
            · rw [Hans.out]; exact ⟨[], rfl, Cells.nil_, fun k h => by simp at h⟩
          | true =>
            simp only [if_true] at hD4
            have hg0 : gat (pre cells t) t = 0 := by rw [gat_pre (by omega), if_neg (by omega)]
            have hM2 := HM.out.flip hr hk (by rw [pre_len (by omega)]; exact Hl.out) (by rw [pre_len (by omega)]; exact hlt) hg0 hcn Hbit.out.symm
            rw [← Hps.out] at hM2
            have HM2 := hide hM2
            clear hM2 hg0
            go_wp2_with (first | (go_at_call 18; refine HFr.out.mono ?_; rintro e w2 ⟨rfl, m2, rfl⟩) | (go_at_call 19; refine (HFl.out _ (HS1.out.a.drewN _)).mono ?_; rintro e w6 ⟨rfl, ha6, ho6⟩))
            go_roundw
            case rel =>
              have hS6 := (HS1.out.drewN m2).flip HG.out ha6 ho6
              exact ⟨t + 1, _, _, _, by omega, by go_num, hS6, HM2.out, Hpf.out.1 Hbit.out.symm, (HO.out.drewN m2).trans' ho6 (fun b _ hb => by
                rcases hb with e | e | e
                · exact .inr (.inr (.inl e))
                · exact .inr (.inr (.inr (.inl e)))
                · exact .inr (.inr (.inr (.inr (.inl e)))))⟩
            case measure => simp [intOf]; omega
      · obtain rfl : t = cells.length := by omega
        have hM2 := HM.out
        rw [pre_all] at hM2
        have hfr := from_any G b2 r k cap most hr hk hr3 hk3 HG.out hm (cells.length + 1) 0 cells R K B [] (.slice none 0 0) wr (by omega) (by omega) Hl.out (fun j hj => (Hin.out j hj).1) (fun j hj => absurd hj (by omega)) hM2 HS1.out (by simpa using hm0)
        have hans : answers r k cells most = addT most [] (solsF r k 0 cells) := by
          unfold answers
          rw [if_pos (fitsG_iff.2 HF.out)]
        rw [← hans] at hfr
        have e0 : ((0 : Nat) : Int) = 0 := rfl
        rw [e0] at hfr
        have HFrom := hide hfr
        have hbl := hide (HO.out)
        clear hM2 hfr hans e0
        go_wp2_with (go_at_call 20; refine HFrom.out.mono ?_; rintro e w7 ⟨rfl, ⟨v7, hW7⟩, hO7⟩; have x8 : w7.cell? ⟨G.gs, 8, none⟩ = some v7 := hW7.a.box.cellv rfl)
        go_ret
        have hO8 := HO.out.trans' hO7 (fun _ _ h => h)
        have hbl := HB.out.trans (hO8.below_ (B := W.heap.size) (fun b hb => by
              rcases hb with e | e | e | e | e | e
              · rw [e]; exact Hge.out.1
              · rw [e]; exact Hge.out.2.1
              · rw [e]; exact Hge.out.2.2.1
              · rw [e]; exact Hge.out.2.2.2.1
              · rw [e]; exact Hge.out.2.2.2.2
              · exact Nat.le_trans HB.out.size (by rw [hb2]; exact e)) HB.out.size)
        obtain ⟨A', c', rfl, hle, hrows⟩ := hW7.o.rows2
        exact ⟨A', c', rfl, hle, hrows, hbl⟩
end Go.Proofs.YtfoehijlafooaaaDoor
