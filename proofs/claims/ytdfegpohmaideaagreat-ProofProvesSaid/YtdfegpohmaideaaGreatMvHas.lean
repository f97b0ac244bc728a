/- moves.has -/
import Derived.Test.YtdfegpohmaideaaGreatMvReach
import Derived.Test.YtdfegpohmaideaaGreatHasPlain
namespace Go.Proofs.YtdfegpohmaideaaGreat
open Go.RowKit

theorem mod_eqn (a n : Nat) : (a : Int) % (n : Int) = ((a % n : Nat) : Int) := rfl
theorem div_eqn (a n : Nat) : (a : Int) / (n : Int) = ((a / n : Nat) : Int) := rfl
theorem pos_wh {p : Pos} (hp : PosOk p) : ∃ n m : Nat, p.w = n ∧ p.h = m ∧ 1 ≤ n ∧ n ≤ 8 ∧ 1 ≤ m ∧ m ≤ 8 ∧ p.cells.size = n * m ∧ p.cells.size ≤ 64 := by
  have h1 := hp.w1
  have h2 := hp.w8
  have h3 := hp.h1
  have h4 := hp.h8
  have h5 := hp.len
  exact ⟨p.w.toNat, p.h.toNat, by omega, by omega, by omega, by omega, by omega, by omega, h5, (pos_small hp).1⟩
/-- what stands in a cell of the board -/
theorem cell_at {p : Pos} (hp : PosOk p) {n : Nat} (hn : p.w = n) {x y : Int} (h : AtB p x y) : ∃ i : Nat, y * (n : Int) + x = (i : Int) ∧ i = idxN p.w x y ∧ 0 ≤ y * (n : Int) ∧ y * (n : Int) ≤ 64 ∧ ∃ hi : i < p.cells.size, p.cells[i].toNat = cellN p (idxN p.w x y) := by
  obtain ⟨_, _, e3, e4⟩ := idx_at h
  have hl : p.cells.size = p.w.toNat * p.h.toNat := hp.len
  have hs := (pos_small hp).1
  have hy : 0 ≤ y * (n : Int) := Int.mul_nonneg h.y0 (by omega)
  have hx := h.x0
  rw [hn] at e4
  have hi : idxN p.w x y < p.cells.size := by omega
  refine ⟨idxN p.w x y, ?_, rfl, hy, by rw [hn] at hi; omega, hi, ?_⟩
  · rw [hn]; exact e4.symm
  · unfold cellN
    rw [getD_get (show idxN p.w x y < p.cells.data.toList.length from hi)]
    rfl
theorem d4_cells (w : World) (t : TypeId) {i : Nat} (h : i < 4) {g : Nat} (hb : Blk w g t #[.int .i64 1, .int .i64 0, .int .i64 0, .int .i64 1, .int .i64 1, .int .i64 1, .int .i64 1, .int .i64 (-1)]) :
    w.cell? ⟨g, i * 2, none⟩ = some (.int .i64 (d4x i)) ∧ w.cell? ⟨g, i * 2 + 1, none⟩ = some (.int .i64 (d4y i)) := by
  match i, h with
  | 0, _ => exact ⟨hb.cellv rfl, hb.cellv rfl⟩
  | 1, _ => exact ⟨hb.cellv rfl, hb.cellv rfl⟩
  | 2, _ => exact ⟨hb.cellv rfl, hb.cellv rfl⟩
  | 3, _ => exact ⟨hb.cellv rfl, hb.cellv rfl⟩
theorem Blk.two {w : World} {g : Nat} {t : TypeId} {v0 v1 : Value} (h : Blk w g t #[v0, v1]) : w.cell? ⟨g, 0, none⟩ = some v0 ∧ w.cell? ⟨g, 1, none⟩ = some v1 := ⟨h.cellv rfl, h.cellv rfl⟩
theorem Blk.pos6 {w : World} {g : Nat} {t : TypeId} {a b c d e f : Value} (h : Blk w g t #[a, b, c, d, e, f]) :
    w.cell? ⟨g, 0, none⟩ = some a ∧ w.cell? ⟨g, 1, none⟩ = some b ∧ w.cell? ⟨g, 2, none⟩ = some c ∧ w.cell? ⟨g, 3, none⟩ = some d ∧ w.cell? ⟨g, 4, none⟩ = some e ∧ w.cell? ⟨g, 5, none⟩ = some f :=
  ⟨h.cellv rfl, h.cellv rfl, h.cellv rfl, h.cellv rfl, h.cellv rfl, h.cellv rfl⟩
set_option maxHeartbeats 4000000 in
set_option maxRecDepth 100000 in
theorem has_any (p : Pos) (pl l : Int) (W : World) (hp : PosOk p) (l1 : 1 ≤ l) (l8 : l ≤ 8) :
    Calls Tryz.prog 59 #[.agg #[.int .i64 p.w, .int .i64 p.h, .string p.cells, .int .i64 p.turn, .string p.h0, .string p.h1], .int .i64 pl, .int .i64 l] W fun e w' => e = .returned (.bool (hasB p pl l.toNat)) ∧ Later W w' := by
  obtain ⟨n, m, hn, hm, n1, n8, m1, m8, hsz, h64⟩ := pos_wh hp
  have Hp := hide hp
  have Hn := hide hn
  have Hm := hide hm
  have Hsz := hide hsz
  have Hmine := hide (fun c w => mine_any c pl w)
  have hbp := Blk.new W 24 #[.int .i64 p.w, .int .i64 p.h, .string p.cells, .int .i64 p.turn, .string p.h0, .string p.h1]
  rw [hn, hm] at hbp ⊢
  have Hbp := hide hbp
  have Hl0 := hide (show Later W (W.alloc (.cells #[.int .i64 n, .int .i64 m, .string p.cells, .int .i64 p.turn, .string p.h0, .string p.h1] 24)) from Later.rfl.alloc _)
  obtain ⟨q, hq⟩ : ∃ q, hasB p pl l.toNat = q := ⟨_, rfl⟩
  have Hnone := hide (fun (h : NoLine p pl l.toNat p.cells.size) => hq.symm.trans (has_none h))
  have Hsome := hide (fun (a i : Nat) (ha : a < p.cells.size) (hi : i < 4) (h : LineR p pl l.toNat (d4x i) (d4y i) ((a % p.w.toNat : Nat) : Int) ((a / p.w.toNat : Nat) : Int)) => hq.symm.trans (has_some ha hi h))
  rw [hq]
  clear hp hn hm hsz hbp hq
  go_enter Tryz.func59, Tryz.ntmps59
  go_upto_region 2 with (fail)
  go_loopw [16] (fun i wr => ∃ a : Nat, a ≤ p.cells.size ∧ i = .int .i64 a ∧ NoLine p pl l.toNat a ∧ Blk wr W.heap.size 24 #[.int .i64 n, .int .i64 m, .string p.cells, .int .i64 p.turn, .string p.h0, .string p.h1] ∧ Later W wr) (fun i _ => p.cells.size - (intOf i).toNat)
  case atStart => exact ⟨0, by omega, rfl, fun b h => by omega, Hbp.out, Hl0.out⟩
  case round =>
    rename World => wr
    obtain ⟨a, ha, rfl, hno, hb, hw⟩ := hrel
    have Hno := hide hno
    have Hb := hide hb
    have Hw := hide hw
    clear hno hb hw Hbp Hl0
    by_cases hlt : a < p.cells.size
    · have ej : decide ((a : Int) < (p.cells.size : Int)) = true := decide_eq_true (by omega)
      go_upto_region 5 with (fail)
      have D4 := hide (Blk.new wr 87 #[.int .i64 1, .int .i64 0, .int .i64 0, .int .i64 1, .int .i64 1, .int .i64 1, .int .i64 1, .int .i64 (-1)])
      have Hb1 := hide (Hb.out.alloc (.cells #[.int .i64 1, .int .i64 0, .int .i64 0, .int .i64 1, .int .i64 1, .int .i64 1, .int .i64 1, .int .i64 (-1)] 87))
      have Hw1 := hide (Hw.out.alloc (.cells #[.int .i64 1, .int .i64 0, .int .i64 0, .int .i64 1, .int .i64 1, .int .i64 1, .int .i64 1, .int .i64 (-1)] 87))
      obtain ⟨gd, hgd⟩ : ∃ gd, wr.heap.size = gd := ⟨_, rfl⟩
      rw [hgd] at D4 ⊢
      obtain ⟨w1, hw1⟩ : ∃ w1, wr.alloc (.cells #[.int .i64 1, .int .i64 0, .int .i64 0, .int .i64 1, .int .i64 1, .int .i64 1, .int .i64 1, .int .i64 (-1)] 87) = w1 := ⟨_, rfl⟩
      rw [hw1] at D4 Hb1 Hw1 ⊢
      clear hgd hw1 Hb Hw
      go_loopw [25] (fun i wi => ∃ k : Nat, k ≤ 4 ∧ i = .int .i64 k ∧ NoDir p pl l.toNat a k ∧ Blk wi gd 87 #[.int .i64 1, .int .i64 0, .int .i64 0, .int .i64 1, .int .i64 1, .int .i64 1, .int .i64 1, .int .i64 (-1)] ∧ Blk wi W.heap.size 24 #[.int .i64 n, .int .i64 m, .string p.cells, .int .i64 p.turn, .string p.h0, .string p.h1] ∧ Later W wi) (fun i _ => 4 - (intOf i).toNat)
      case atStart => exact ⟨0, by omega, rfl, fun b h => by omega, D4.out, Hb1.out, Hw1.out⟩
      case round =>
        rename World => wi
        obtain ⟨k, hk, rfl, hnd, hd4, hb, hw⟩ := hrel
        have Hnd := hide hnd
        have D4 := hide hd4
        have Hb := hide hb
        have Hw := hide hw
        clear hnd hd4 hb hw Hb1 Hw1
        by_cases hlk : k < 4
        · obtain ⟨z0, z1⟩ := d4_cells wi 87 hlk D4.out
          obtain ⟨r1, r2, r3, r4, r5⟩ := d4_rng hlk
          have Hr5 := hide r5
          have ek : decide ((k : Int) < 4) = true := decide_eq_true (by omega)
          clear r5
          go_upto_region 7 with (fail)
          have DV := hide (Blk.new wi 87 #[.int .i64 (d4x k), .int .i64 (d4y k)])
          have D41 := hide (D4.out.alloc (.cells #[.int .i64 (d4x k), .int .i64 (d4y k)] 87))
          have Hb1 := hide (Hb.out.alloc (.cells #[.int .i64 (d4x k), .int .i64 (d4y k)] 87))
          have Hw1 := hide (Hw.out.alloc (.cells #[.int .i64 (d4x k), .int .i64 (d4y k)] 87))
          obtain ⟨gv, hgv⟩ : ∃ gv, wi.heap.size = gv := ⟨_, rfl⟩
          rw [hgv] at DV ⊢
          obtain ⟨w2, hw2⟩ : ∃ w2, wi.alloc (.cells #[.int .i64 (d4x k), .int .i64 (d4y k)] 87) = w2 := ⟨_, rfl⟩
          rw [hw2] at DV D41 Hb1 Hw1 ⊢
          clear hgv hw2 D4 Hb Hw z0 z1
          have ez : ((n : Int) == 0) = false := by simp; omega
          have ex := mod_eqn a n
          have ey := div_eqn a n
          have x0 : 0 ≤ ((a % n : Nat) : Int) := Int.natCast_nonneg _
          have x1 : ((a % n : Nat) : Int) < n := by have := Nat.mod_lt a (show 0 < n by omega); omega
          have y0 : 0 ≤ ((a / n : Nat) : Int) := Int.natCast_nonneg _
          have y1 : ((a / n : Nat) : Int) ≤ 64 := by have := Nat.div_le_self a n; omega
          obtain ⟨xx, hxx⟩ : ∃ xx : Int, ((a % n : Nat) : Int) = xx := ⟨_, rfl⟩
          obtain ⟨yy, hyy⟩ : ∃ yy : Int, ((a / n : Nat) : Int) = yy := ⟨_, rfl⟩
          rw [hxx] at ex x0 x1
          rw [hyy] at ey y0 y1
          have Hxx := hide hxx
          have Hyy := hide hyy
          obtain ⟨q0, q1, q2, q3, q4, q5⟩ := Hb1.out.pos6
          clear hxx hyy
          go_quiet (fail)
          simp only [ex]
          obtain ⟨dx, hdx⟩ : ∃ dx, d4x k = dx := ⟨_, rfl⟩
          obtain ⟨dy, hdy⟩ : ∃ dy, d4y k = dy := ⟨_, rfl⟩
          rw [hdx] at r1 r2 DV Hr5
          rw [hdy] at r3 r4 DV Hr5
          have Hdx := hide hdx
          have Hdy := hide hdy
          go_upto_region 8 with (fail)
          go_loopw [10, 11, 12] (fun x y c wj => ∃ t : Nat, x = .int .i64 (stepI xx dx t) ∧ y = .int .i64 (stepI yy dy t) ∧ c = .int .i64 t ∧ LineR p pl t dx dy xx yy ∧ Blk wj gv 87 #[.int .i64 dx, .int .i64 dy] ∧ Blk wj gd 87 #[.int .i64 1, .int .i64 0, .int .i64 0, .int .i64 1, .int .i64 1, .int .i64 1, .int .i64 1, .int .i64 (-1)] ∧ Blk wj W.heap.size 24 #[.int .i64 n, .int .i64 m, .string p.cells, .int .i64 p.turn, .string p.h0, .string p.h1] ∧ Later W wj) (fun _ _ c _ => 9 - (intOf c).toNat)
          case atStart => exact ⟨0, by rw [stepI_zero], by rw [stepI_zero], rfl, line_zero, DV.out.drewN _, D41.out.drewN _, Hb1.out.drewN _, Hw1.out.drewN _⟩
          case round =>
            rename World => wj
            obtain ⟨t, rfl, rfl, rfl, hline, hv, hd4, hb, hw⟩ := hrel
            have t8 := line_len Hp.out Hr5.out hline
            have Hline := hide hline
            have DV := hide hv
            have D4 := hide hd4
            have Hb := hide hb
            have Hw := hide hw
            have Hsx := hide (stepI_add xx dx t)
            have Hsy := hide (stepI_add yy dy t)
            have Hnext := hide (line_next (p := p) hline)
            have Hstop := hide (line_stop (p := p) (n := l.toNat) hline)
            obtain ⟨sx, hsx⟩ : ∃ sx, stepI xx dx t = sx := ⟨_, rfl⟩
            obtain ⟨sy, hsy⟩ : ∃ sy, stepI yy dy t = sy := ⟨_, rfl⟩
            rw [hsx] at Hsx Hnext Hstop ⊢
            rw [hsy] at Hsy Hnext Hstop ⊢
            obtain ⟨q0, q1, q2, q3, q4, q5⟩ := Hb.out.pos6
            obtain ⟨v0, v1⟩ := DV.out.two
            clear hline hv hd4 hb hw D41 Hb1 Hw1 hsx hsy ex ey hdx hdy
            by_cases hin : AtB p sx sy
            · obtain ⟨i, i1, i2, i3, i4, i5, i6⟩ := cell_at Hp.out Hn.out hin
              obtain ⟨o1, o2, o3, o4⟩ := hin
              rw [Hn.out] at o2
              rw [Hm.out] at o4
              have d1 : decide (sx ≥ 0) = true := decide_eq_true o1
              have d2 : decide (sx < (n : Int)) = true := decide_eq_true o2
              have d3 : decide (sy ≥ 0) = true := decide_eq_true o3
              have d4 : decide (sy < (m : Int)) = true := decide_eq_true o4
              have j1 : (0 : Int) ≤ (i : Int) := by omega
              have j2 : (i : Int) < (p.cells.size : Int) := by omega
              obtain ⟨v, hv⟩ : ∃ v, mineB p.cells[i].toNat pl = v := ⟨_, rfl⟩
              have hcall := fun w => Hmine.out p.cells[i].toNat w
              rw [hv] at hcall
              rw [i6] at hv
              have Hcall := hide hcall
              have Hin := hide (show AtB p sx sy from ⟨o1, by rw [Hn.out]; exact o2, o3, by rw [Hm.out]; exact o4⟩)
              clear hcall i6 i2
              cases v
              · have Hst := hide (Hstop.out (fun h => by rw [hv] at h; exact absurd h.2 (by decide)))
                clear hv Hnext Hstop
                by_cases hge : l ≤ (t : Int)
                · have d5 : decide ((t : Int) ≥ l) = true := decide_eq_true hge
                  have Hr := hide (Hsome.out a k hlt hlk (by rw [Hdx.out, Hdy.out, Hn.out, Int.toNat_natCast, Hxx.out, Hyy.out]; exact Hst.out.1 (by omega)))
                  clear hge
                  go_wp2_with (go_at_call 85; refine (Hcall.out _).mono ?_; rintro e w' ⟨rfl, rfl⟩)
                  go_ret
                  exact ⟨by rw [Hr.out] <;> rfl, Hw.out⟩
                · have d5 : decide ((t : Int) ≥ l) = false := decide_eq_false hge
                  have Hr := hide (noDir_next Hnd.out (by rw [Hdx.out, Hdy.out, Hn.out, Int.toNat_natCast, Hxx.out, Hyy.out]; exact fun h => hge (by have := Hst.out.2 h; omega)))
                  clear hge
                  go_wp2_with (go_at_call 85; refine (Hcall.out _).mono ?_; rintro e w' ⟨rfl, rfl⟩)
                  go_roundw
                  case rel => exact ⟨k + 1, by omega, by go_num, Hr.out, D4.out, Hb.out, Hw.out⟩
                  case measure => simp [intOf]; omega
              · have Hln := hide (Hnext.out Hin.out hv)
                clear hv Hnext Hstop
                go_wp2_with (go_at_call 85; refine (Hcall.out _).mono ?_; rintro e w' ⟨rfl, rfl⟩)
                have s1 : IntKind.i64.wrap (sx + dx) = sx + dx := IntWalk.i64_in _ (by omega)
                have s2 : IntKind.i64.wrap (sy + dy) = sy + dy := IntWalk.i64_in _ (by omega)
                have s3 : IntKind.i64.wrap ((t : Int) + 1) = (t : Int) + 1 := IntWalk.i64_in _ (by omega)
                go_quiet (fail)
                clear s1 s2 s3
                go_wp2_with fail
                go_roundw
                case rel => exact ⟨t + 1, by rw [← Hsx.out] <;> rfl, by rw [← Hsy.out] <;> rfl, by go_num, Hln.out, DV.out.drewN _, D4.out.drewN _, Hb.out.drewN _, Hw.out.drewN _⟩
                case measure => simp [intOf]; omega
            · have Hst := hide (Hstop.out (fun h => hin h.1))
              have Hin := hide (show ¬ (0 ≤ sx ∧ sx < (n : Int) ∧ 0 ≤ sy ∧ sy < (m : Int)) from fun ⟨o1, o2, o3, o4⟩ => hin ⟨o1, by rw [Hn.out]; exact o2, o3, by rw [Hm.out]; exact o4⟩)
              clear hin Hnext Hstop
              by_cases o1 : 0 ≤ sx
              · have d1 : decide (sx ≥ 0) = true := decide_eq_true o1
                by_cases o2 : sx < (n : Int)
                · have d2 : decide (sx < (n : Int)) = true := decide_eq_true o2
                  by_cases o3 : 0 ≤ sy
                  · have d3 : decide (sy ≥ 0) = true := decide_eq_true o3
                    by_cases o4 : sy < (m : Int)
                    · exact absurd ⟨o1, o2, o3, o4⟩ Hin.out
                    · have d4 : decide (sy < (m : Int)) = false := decide_eq_false o4
                      clear o1 o2 o3 o4
                      by_cases hge : l ≤ (t : Int)
                      · have d5 : decide ((t : Int) ≥ l) = true := decide_eq_true hge
                        have Hr := hide (Hsome.out a k hlt hlk (by rw [Hdx.out, Hdy.out, Hn.out, Int.toNat_natCast, Hxx.out, Hyy.out]; exact Hst.out.1 (by omega)))
                        clear hge
                        go_wp2_with (fail)
                        go_ret
                        exact ⟨by rw [Hr.out] <;> rfl, Hw.out⟩
                      · have d5 : decide ((t : Int) ≥ l) = false := decide_eq_false hge
                        have Hr := hide (noDir_next Hnd.out (by rw [Hdx.out, Hdy.out, Hn.out, Int.toNat_natCast, Hxx.out, Hyy.out]; exact fun h => hge (by have := Hst.out.2 h; omega)))
                        clear hge
                        go_wp2_with (fail)
                        go_roundw
                        case rel => exact ⟨k + 1, by omega, by go_num, Hr.out, D4.out, Hb.out, Hw.out⟩
                        case measure => simp [intOf]; omega
                  · have d3 : decide (sy ≥ 0) = false := decide_eq_false o3
                    clear o1 o2 o3
                    by_cases hge : l ≤ (t : Int)
                    · have d5 : decide ((t : Int) ≥ l) = true := decide_eq_true hge
                      have Hr := hide (Hsome.out a k hlt hlk (by rw [Hdx.out, Hdy.out, Hn.out, Int.toNat_natCast, Hxx.out, Hyy.out]; exact Hst.out.1 (by omega)))
                      clear hge
                      go_wp2_with (fail)
                      go_ret
                      exact ⟨by rw [Hr.out] <;> rfl, Hw.out⟩
                    · have d5 : decide ((t : Int) ≥ l) = false := decide_eq_false hge
                      have Hr := hide (noDir_next Hnd.out (by rw [Hdx.out, Hdy.out, Hn.out, Int.toNat_natCast, Hxx.out, Hyy.out]; exact fun h => hge (by have := Hst.out.2 h; omega)))
                      clear hge
                      go_wp2_with (fail)
                      go_roundw
                      case rel => exact ⟨k + 1, by omega, by go_num, Hr.out, D4.out, Hb.out, Hw.out⟩
                      case measure => simp [intOf]; omega
                · have d2 : decide (sx < (n : Int)) = false := decide_eq_false o2
                  clear o1 o2
                  by_cases hge : l ≤ (t : Int)
                  · have d5 : decide ((t : Int) ≥ l) = true := decide_eq_true hge
                    have Hr := hide (Hsome.out a k hlt hlk (by rw [Hdx.out, Hdy.out, Hn.out, Int.toNat_natCast, Hxx.out, Hyy.out]; exact Hst.out.1 (by omega)))
                    clear hge
                    go_wp2_with (fail)
                    go_ret
                    exact ⟨by rw [Hr.out] <;> rfl, Hw.out⟩
                  · have d5 : decide ((t : Int) ≥ l) = false := decide_eq_false hge
                    have Hr := hide (noDir_next Hnd.out (by rw [Hdx.out, Hdy.out, Hn.out, Int.toNat_natCast, Hxx.out, Hyy.out]; exact fun h => hge (by have := Hst.out.2 h; omega)))
                    clear hge
                    go_wp2_with (fail)
                    go_roundw
                    case rel => exact ⟨k + 1, by omega, by go_num, Hr.out, D4.out, Hb.out, Hw.out⟩
                    case measure => simp [intOf]; omega
              · have d1 : decide (sx ≥ 0) = false := decide_eq_false o1
                clear o1
                by_cases hge : l ≤ (t : Int)
                · have d5 : decide ((t : Int) ≥ l) = true := decide_eq_true hge
                  have Hr := hide (Hsome.out a k hlt hlk (by rw [Hdx.out, Hdy.out, Hn.out, Int.toNat_natCast, Hxx.out, Hyy.out]; exact Hst.out.1 (by omega)))
                  clear hge
                  go_wp2_with (fail)
                  go_ret
                  exact ⟨by rw [Hr.out] <;> rfl, Hw.out⟩
                · have d5 : decide ((t : Int) ≥ l) = false := decide_eq_false hge
                  have Hr := hide (noDir_next Hnd.out (by rw [Hdx.out, Hdy.out, Hn.out, Int.toNat_natCast, Hxx.out, Hyy.out]; exact fun h => hge (by have := Hst.out.2 h; omega)))
                  clear hge
                  go_wp2_with (fail)
                  go_roundw
                  case rel => exact ⟨k + 1, by omega, by go_num, Hr.out, D4.out, Hb.out, Hw.out⟩
                  case measure => simp [intOf]; omega
        · obtain rfl : k = 4 := by omega
          have Hr := hide (noLine_next Hno.out Hnd.out)
          go_wp2_with fail
          go_roundw
          case rel => exact ⟨a + 1, by omega, by go_num, Hr.out, Hb.out, Hw.out⟩
          case measure => simp [intOf]; omega
    · obtain rfl : a = p.cells.size := by omega
      have Hr := hide (Hnone.out Hno.out)
      go_wp2_with fail
      go_ret
      exact ⟨by rw [Hr.out] <;> rfl, Hw.out⟩
end Go.Proofs.YtdfegpohmaideaaGreat
