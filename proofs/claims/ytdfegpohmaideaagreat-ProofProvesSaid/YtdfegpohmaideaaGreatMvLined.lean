/- gameref.lined -/
import Derived.Test.YtdfegpohmaideaaGreatMvHas
import Derived.Test.YtdfegpohmaideaaGreatLinPlain
namespace Go.Proofs.YtdfegpohmaideaaGreat
open Go.RowKit

theorem own_eq {c : Nat} {pl : Int} (h : pl = 0 ∨ pl = 1) : (ownN c == pl) = mineB c pl := by
  rw [Bool.eq_iff_iff, beq_iff_eq]
  exact own_mine h
theorem idx4x {d : Nat} (h : d < 4) : ∀ w, (Instr.index 83 (.agg #[.int .i64 1, .int .i64 0, .int .i64 1, .int .i64 (-1)]) (.int .i64 (d : Int))).run Tryz.prog w = .ok (.int .i64 (r4x d)) w := by
  match d, h with
  | 0, _ => intro w; kernel_rfl
  | 1, _ => intro w; kernel_rfl
  | 2, _ => intro w; kernel_rfl
  | 3, _ => intro w; kernel_rfl
theorem idx4y {d : Nat} (h : d < 4) : ∀ w, (Instr.index 83 (.agg #[.int .i64 0, .int .i64 1, .int .i64 1, .int .i64 1]) (.int .i64 (d : Int))).run Tryz.prog w = .ok (.int .i64 (r4y d)) w := by
  match d, h with
  | 0, _ => intro w; kernel_rfl
  | 1, _ => intro w; kernel_rfl
  | 2, _ => intro w; kernel_rfl
  | 3, _ => intro w; kernel_rfl
set_option maxHeartbeats 4000000 in
set_option maxRecDepth 100000 in
theorem lined_any (p : Pos) (pl l : Int) (W : World) (hp : PosOk p) (hpl : pl = 0 ∨ pl = 1) (l1 : 1 ≤ l) (l8 : l ≤ 8) :
    Calls Tryz.prog 37 #[.agg #[.int .i64 p.w, .int .i64 p.h, .string p.cells, .int .i64 p.turn, .string p.h0, .string p.h1], .int .i64 pl, .int .i64 l] W fun e w' => e = .returned (.bool (hasB p pl l.toNat)) ∧ Later W w' := by
  obtain ⟨n, m, hn, hm, n1, n8, m1, m8, hsz, h64⟩ := pos_wh hp
  have Hp := hide hp
  have Hn := hide hn
  have Hm := hide hm
  have Hpl := hide hpl
  have Hown := hide (fun c w => owner_any c w)
  have hbp := Blk.new W 24 #[.int .i64 p.w, .int .i64 p.h, .string p.cells, .int .i64 p.turn, .string p.h0, .string p.h1]
  rw [hn, hm] at hbp ⊢
  have Hbp := hide hbp
  have Hl0 := hide (show Later W (W.alloc (.cells #[.int .i64 n, .int .i64 m, .string p.cells, .int .i64 p.turn, .string p.h0, .string p.h1] 24)) from Later.rfl.alloc _)
  obtain ⟨q, hq⟩ : ∃ q, hasB p pl l.toNat = q := ⟨_, rfl⟩
  have Hnone := hide (fun (h : NoY p pl l.toNat p.h.toNat) => hq.symm.trans (lined_none hp (by omega) h))
  have Hsome := hide (fun (x y i : Nat) (hx : x < p.w.toNat) (hy : y < p.h.toNat) (hi : i < 4) (h : LineR p pl l.toNat (r4x i) (r4y i) x y) => hq.symm.trans (lined_some hp (by omega) hx hy hi h))
  rw [hq]
  rw [hm] at Hnone
  rw [hn, hm] at Hsome
  simp only [Int.toNat_natCast] at Hnone Hsome
  clear hp hn hm hsz hbp hq hpl
  go_enter Tryz.func37, Tryz.ntmps37
  go_upto_region 2 with (fail)
  go_loopw [7] (fun i wr => ∃ y : Nat, y ≤ m ∧ i = .int .i64 y ∧ NoY p pl l.toNat y ∧ Blk wr W.heap.size 24 #[.int .i64 n, .int .i64 m, .string p.cells, .int .i64 p.turn, .string p.h0, .string p.h1] ∧ Later W wr) (fun i _ => m - (intOf i).toNat)
  case atStart => exact ⟨0, by omega, rfl, fun b h => by omega, Hbp.out, Hl0.out⟩
  case round =>
    rename World => wr
    obtain ⟨y, hy, rfl, hno, hb, hw⟩ := hrel
    have Hno := hide hno
    have Hb := hide hb
    have Hw := hide hw
    obtain ⟨q0, q1, q2, q3, q4, q5⟩ := hb.pos6
    clear hno hb hw Hbp Hl0
    by_cases hlt : y < m
    · go_upto_region 5 with (fail)
      clear q0 q1 q2 q3 q4 q5
      go_loopw [8] (fun i wi => ∃ x : Nat, x ≤ n ∧ i = .int .i64 x ∧ NoX p pl l.toNat x y ∧ Blk wi W.heap.size 24 #[.int .i64 n, .int .i64 m, .string p.cells, .int .i64 p.turn, .string p.h0, .string p.h1] ∧ Later W wi) (fun i _ => n - (intOf i).toNat)
      case atStart => exact ⟨0, by omega, rfl, fun b h => by omega, Hb.out, Hw.out⟩
      case round =>
        rename World => wi
        obtain ⟨x, hx, rfl, hnx, hb, hw⟩ := hrel
        have Hnx := hide hnx
        have Hb := hide hb
        have Hw := hide hw
        obtain ⟨q0, q1, q2, q3, q4, q5⟩ := hb.pos6
        clear hnx hb hw
        by_cases hlx : x < n
        · go_upto_region 8 with (fail)
          clear q0 q1 q2 q3 q4 q5
          go_loopw [9] (fun i wj => ∃ d : Nat, d ≤ 4 ∧ i = .int .i64 d ∧ NoD p pl l.toNat x y d ∧ Blk wj W.heap.size 24 #[.int .i64 n, .int .i64 m, .string p.cells, .int .i64 p.turn, .string p.h0, .string p.h1] ∧ Later W wj) (fun i _ => 4 - (intOf i).toNat)
          case atStart => exact ⟨0, by omega, rfl, fun b h => by omega, Hb.out, Hw.out⟩
          case round =>
            rename World => wj
            obtain ⟨d, hd, rfl, hnd, hb, hw⟩ := hrel
            have Hnd := hide hnd
            have Hb := hide hb
            have Hw := hide hw
            clear hnd hb hw
            by_cases hld : d < 4
            · obtain ⟨r1, r2, r3, r4, r5⟩ := r4_rng hld
              have Hr5 := hide r5
              have ek : decide ((d : Int) < 4) = true := decide_eq_true (by omega)
              clear r5
              go_upto_region 10 with (fail)
              go_cut [10, 11] (fun a b w' => a = .int .i64 (r4x d) ∧ b = .int .i64 (r4y d) ∧ Blk w' W.heap.size 24 #[.int .i64 n, .int .i64 m, .string p.cells, .int .i64 p.turn, .string p.h0, .string p.h1] ∧ Later W w')
              case first =>
                have i1 := idx4x hld
                have i2 := idx4y hld
                go_quiet (fail)
                go_wp2_with fail
                go_meet
                case rel => exact ⟨rfl, rfl, Hb.out.drewN _, Hw.out.drewN _⟩
              case rest =>
                obtain ⟨rfl, rfl, hb, hw⟩ := hcut
                have Hb := hide hb
                have Hw := hide hw
                clear hb hw
                go_upto_region 13 with (fail)
                obtain ⟨dx, hdx⟩ : ∃ dx, r4x d = dx := ⟨_, rfl⟩
                obtain ⟨dy, hdy⟩ : ∃ dy, r4y d = dy := ⟨_, rfl⟩
                rw [hdx] at r1 r2 Hr5 ⊢
                rw [hdy] at r3 r4 Hr5 ⊢
                have Hdx := hide hdx
                have Hdy := hide hdy
                clear hdx hdy
                go_loopw [12, 13] (fun b c wk => ∃ k : Nat, (k : Int) ≤ l ∧ c = .int .i64 k ∧ b = .bool (lineB2 p pl k dx dy x y) ∧ Blk wk W.heap.size 24 #[.int .i64 n, .int .i64 m, .string p.cells, .int .i64 p.turn, .string p.h0, .string p.h1] ∧ Later W wk) (fun _ c _ => l.toNat - (intOf c).toNat)
                case atStart => exact ⟨0, by omega, rfl, by rw [lineB2_zero], Hb.out, Hw.out⟩
                case round =>
                  rename World => wk
                  obtain ⟨k, hk, rfl, rfl, hb, hw⟩ := hrel
                  have Hb := hide hb
                  have Hw := hide hw
                  obtain ⟨q0, q1, q2, q3, q4, q5⟩ := hb.pos6
                  clear hb hw
                  by_cases hlk : (k : Int) < l
                  · have kd1 : -8 ≤ (k : Int) * dx ∧ (k : Int) * dx ≤ 8 := by
                      have h1 : (k : Int) * (-1) ≤ (k : Int) * dx := Int.mul_le_mul_of_nonneg_left r1 (by omega)
                      have h2 : (k : Int) * dx ≤ (k : Int) * 1 := Int.mul_le_mul_of_nonneg_left r2 (by omega)
                      omega
                    have kd2 : -8 ≤ (k : Int) * dy ∧ (k : Int) * dy ≤ 8 := by
                      have h1 : (k : Int) * (-1) ≤ (k : Int) * dy := Int.mul_le_mul_of_nonneg_left r3 (by omega)
                      have h2 : (k : Int) * dy ≤ (k : Int) * 1 := Int.mul_le_mul_of_nonneg_left r4 (by omega)
                      omega
                    obtain ⟨kd1, kd1'⟩ := kd1
                    obtain ⟨kd2, kd2'⟩ := kd2
                    obtain ⟨b, hbb⟩ : ∃ b, lineB2 p pl k dx dy x y = b := ⟨_, rfl⟩
                    rw [hbb]
                    cases b
                    · have Hl := hide (lineB2_false hbb)
                      clear hbb
                      go_wp2_with fail
                      go_roundw
                      case rel => exact ⟨k + 1, by omega, by go_num, by rw [Hl.out], Hb.out, Hw.out⟩
                      case measure => simp [intOf]; omega
                    · have Hon := hide (fun h => lineB2_next (p := p) hbb h)
                      have Hoff := hide (fun h => lineB2_off (p := p) (pl := pl) (dx := dx) (dy := dy) (x := x) (y := y) (k := k) h)
                      clear hbb
                      rw [show stepI (x : Int) dx k = (x : Int) + (k : Int) * dx from rfl, show stepI (y : Int) dy k = (y : Int) + (k : Int) * dy from rfl] at Hon Hoff
                      obtain ⟨sx, hsx⟩ : ∃ sx : Int, (x : Int) + (k : Int) * dx = sx := ⟨_, rfl⟩
                      obtain ⟨sy, hsy⟩ : ∃ sy : Int, (y : Int) + (k : Int) * dy = sy := ⟨_, rfl⟩
                      rw [hsx, hsy] at Hon Hoff
                      by_cases hin : AtB p sx sy
                      · obtain ⟨i, i1, i2, i3, i4, i5, i6⟩ := cell_at Hp.out Hn.out hin
                        have Hl0 := Hon.out hin
                        rw [← i6, ← own_eq Hpl.out] at Hl0
                        obtain ⟨o1, o2, o3, o4⟩ := hin
                        rw [Hn.out] at o2
                        rw [Hm.out] at o4
                        have d1 : decide (sx ≥ 0) = true := decide_eq_true o1
                        have d2 : decide (sx < (n : Int)) = true := decide_eq_true o2
                        have d3 : decide (sy ≥ 0) = true := decide_eq_true o3
                        have d4 : decide (sy < (m : Int)) = true := decide_eq_true o4
                        have j1 : (0 : Int) ≤ (i : Int) := by omega
                        have j2 : (i : Int) < (p.cells.size : Int) := by omega
                        have Hcall := hide (fun w => Hown.out p.cells[i].toNat w)
                        have Hl := hide Hl0
                        have mn : min (i : Int) ((p.cells.size : Int) - 1) = (i : Int) := by omega
                        clear i6 i2 Hl0 Hon Hoff o1 o2 o3 o4
                        go_wp2_with (go_at_call 70; refine (Hcall.out _).mono ?_; rintro e w' ⟨rfl, rfl⟩)
                        go_roundw
                        case rel => exact ⟨k + 1, by omega, by go_num, by rw [Hl.out], Hb.out, Hw.out⟩
                        case measure => simp [intOf]; omega
                      · have Hl := hide (Hoff.out hin)
                        have Hin := hide (show ¬ (0 ≤ sx ∧ sx < (n : Int) ∧ 0 ≤ sy ∧ sy < (m : Int)) from fun ⟨o1, o2, o3, o4⟩ => hin ⟨o1, by rw [Hn.out]; exact o2, o3, by rw [Hm.out]; exact o4⟩)
                        clear hin Hon Hoff
                        by_cases o1 : 0 ≤ sx
                        · have d1 : decide (sx ≥ 0) = true := decide_eq_true o1
                          by_cases o2 : sx < (n : Int)
                          · have d2 : decide (sx < (n : Int)) = true := decide_eq_true o2
                            by_cases o3 : 0 ≤ sy
                            · have d3 : decide (sy ≥ 0) = true := decide_eq_true o3
                              have o4 : ¬ sy < (m : Int) := fun o4 => Hin.out ⟨o1, o2, o3, o4⟩
                              have d4 : decide (sy < (m : Int)) = false := decide_eq_false o4
                              clear o1 o2 o3 o4
                              go_wp2_with fail
                              go_roundw
                              case rel => exact ⟨k + 1, by omega, by go_num, by rw [Hl.out], Hb.out, Hw.out⟩
                              case measure => simp [intOf]; omega
                            · have d3 : decide (sy ≥ 0) = false := decide_eq_false o3
                              clear o1 o2 o3
                              go_wp2_with fail
                              go_roundw
                              case rel => exact ⟨k + 1, by omega, by go_num, by rw [Hl.out], Hb.out, Hw.out⟩
                              case measure => simp [intOf]; omega
                          · have d2 : decide (sx < (n : Int)) = false := decide_eq_false o2
                            clear o1 o2
                            go_wp2_with fail
                            go_roundw
                            case rel => exact ⟨k + 1, by omega, by go_num, by rw [Hl.out], Hb.out, Hw.out⟩
                            case measure => simp [intOf]; omega
                        · have d1 : decide (sx ≥ 0) = false := decide_eq_false o1
                          clear o1
                          go_wp2_with fail
                          go_roundw
                          case rel => exact ⟨k + 1, by omega, by go_num, by rw [Hl.out], Hb.out, Hw.out⟩
                          case measure => simp [intOf]; omega
                  · obtain rfl : l = (k : Int) := by omega
                    rw [Int.toNat_natCast] at *
                    obtain ⟨b, hbb⟩ : ∃ b, lineB2 p pl k dx dy x y = b := ⟨_, rfl⟩
                    rw [hbb]
                    cases b
                    · have Hr := hide (noD_next Hnd.out (by rw [Hdx.out, Hdy.out]; exact lineB2_not.1 hbb))
                      clear hbb
                      go_wp2_with fail
                      go_roundw
                      case rel => exact ⟨d + 1, by omega, by go_num, Hr.out, Hb.out, Hw.out⟩
                      case measure => simp [intOf]; omega
                    · have Hr := hide (Hsome.out x y d hlx hlt hld (by rw [Hdx.out, Hdy.out]; exact lineB2_true.1 hbb))
                      clear hbb
                      go_wp2_with fail
                      go_ret
                      exact ⟨by rw [Hr.out] <;> rfl, Hw.out⟩
            · obtain rfl : d = 4 := by omega
              have Hr := hide (noX_next Hnx.out Hnd.out)
              go_wp2_with fail
              go_roundw
              case rel => exact ⟨x + 1, by omega, by go_num, Hr.out, Hb.out, Hw.out⟩
              case measure => simp [intOf]; omega
        · obtain rfl : x = n := by omega
          have Hr := hide (noY_next Hno.out (by rw [Hn.out]; exact Hnx.out))
          go_wp2_with fail
          go_roundw
          case rel => exact ⟨y + 1, by omega, by go_num, Hr.out, Hb.out, Hw.out⟩
          case measure => simp [intOf]; omega
    · obtain rfl : y = m := by omega
      have Hr := hide (Hnone.out Hno.out)
      go_wp2_with fail
      go_ret
      exact ⟨by rw [Hr.out] <;> rfl, Hw.out⟩
end Go.Proofs.YtdfegpohmaideaaGreat
