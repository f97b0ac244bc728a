/- gameref.goes -/
import Derived.Test.YtcdfeaodfmfdnaaGreatDoorPlPlainM
import Derived.Test.YtcdfeaodfmfdnaaGreatDoorPlMvLetM
namespace Go.Proofs.YtcdfeaodfmfdnaaGreatDoor
open Go.RowKit

theorem Blk.four4 {w : World} {g : Nat} {t : TypeId} {v0 v1 v2 v3 : Value} (h : Blk w g t #[v0, v1, v2, v3]) : w.cell? ⟨g, 0, none⟩ = some v0 ∧ w.cell? ⟨g, 1, none⟩ = some v1 ∧ w.cell? ⟨g, 2, none⟩ = some v2 ∧ w.cell? ⟨g, 3, none⟩ = some v3 := ⟨h.cellv rfl, h.cellv rfl, h.cellv rfl, h.cellv rfl⟩
theorem absI_rng {n : Int} (h1 : -7 ≤ n) (h2 : n ≤ 7) : 0 ≤ absI n ∧ absI n ≤ 7 := by unfold absI; split <;> omega
theorem eqI {a b : Int} {v : Bool} (h : decide (a = b) = v) : (a == b) = v := by rw [← h, Bool.eq_iff_iff]; simp
set_option maxHeartbeats 4000000 in
set_option maxRecDepth 100000 in
theorem rgoes_any (p : Pos) (wy : WayD) (a t : Nat) (W : World) (hp : PosOk p) (hwy : WayOk wy) (ha : a < p.cells.size) (ht : t < p.cells.size) :
    Calls Tryz.prog 135 #[.agg #[.int .i64 p.w, .int .i64 p.h, .string p.cells, .int .i64 p.turn, .string p.h0, .string p.h1], .agg #[.int .i64 wy.kind, .int .i64 wy.x, .int .i64 wy.y, .int .i64 wy.take], .int .i64 a, .int .i64 t] W fun e w' => e = .returned (.bool (goesB p wy a t)) ∧ Later W w' := by
  obtain ⟨n, m, hn, hm, n1, n8, m1, m8, hsz, h64⟩ := pos_wh hp
  obtain ⟨r1, r2, r3, r4⟩ := dxI_rng hp ha ht
  have hx : dxI p a t = ((t % n : Nat) : Int) - ((a % n : Nat) : Int) := by unfold dxI; rw [hn, Int.toNat_natCast]
  have hy : dyI p a t = ((t / n : Nat) : Int) - ((a / n : Nat) : Int) := by unfold dyI; rw [hn, Int.toNat_natCast]
  obtain ⟨dx, hdx⟩ : ∃ dx, dxI p a t = dx := ⟨_, rfl⟩
  obtain ⟨dy, hdy⟩ : ∃ dy, dyI p a t = dy := ⟨_, rfl⟩
  rw [hdx] at hx r1 r2
  rw [hdy] at hy r3 r4
  have Hdx := hide hdx
  have Hdy := hide hdy
  have Hp := hide hp
  have Hn := hide hn
  have Hwy := hide hwy
  have hbp := (Blk.new W 24 #[.int .i64 p.w, .int .i64 p.h, .string p.cells, .int .i64 p.turn, .string p.h0, .string p.h1]).alloc (.cells #[.int .i64 wy.kind, .int .i64 wy.x, .int .i64 wy.y, .int .i64 wy.take] 80)
  have hbw := Blk.new (W.alloc (.cells #[.int .i64 p.w, .int .i64 p.h, .string p.cells, .int .i64 p.turn, .string p.h0, .string p.h1] 24)) 80 #[.int .i64 wy.kind, .int .i64 wy.x, .int .i64 wy.y, .int .i64 wy.take]
  have hl0 : Later W ((W.alloc (.cells #[.int .i64 p.w, .int .i64 p.h, .string p.cells, .int .i64 p.turn, .string p.h0, .string p.h1] 24)).alloc (.cells #[.int .i64 wy.kind, .int .i64 wy.x, .int .i64 wy.y, .int .i64 wy.take] 80)) := (Later.rfl.alloc _).alloc _
  rw [World.size_alloc] at hbw
  rw [hn] at hbp hbw hl0 ⊢
  have Hbp := hide hbp
  have Hbw := hide hbw
  have Hl0 := hide hl0
  have ez : ((n : Int) == 0) = false := by simp; omega
  have ea := mod_eqn a n
  have eb := div_eqn a n
  have ec := mod_eqn t n
  have ed := div_eqn t n
  have ba := Nat.mod_lt a (show 0 < n by omega)
  have bc := Nat.mod_lt t (show 0 < n by omega)
  have bb := Nat.div_le_self a n
  have bd := Nat.div_le_self t n
  obtain ⟨xa, hxa⟩ : ∃ x, a % n = x := ⟨_, rfl⟩
  obtain ⟨ya, hya⟩ : ∃ x, a / n = x := ⟨_, rfl⟩
  obtain ⟨xt, hxt⟩ : ∃ x, t % n = x := ⟨_, rfl⟩
  obtain ⟨yt, hyt⟩ : ∃ x, t / n = x := ⟨_, rfl⟩
  rw [hxa] at ea ba hx
  rw [hya] at eb bb hy
  rw [hxt] at ec bc hx
  rw [hyt] at ed bd hy
  have hx' := hx.symm
  have hy' := hy.symm
  have w1 : IntKind.i64.wrap dx = dx := IntWalk.i64_in _ (by omega)
  have w2 : IntKind.i64.wrap dy = dy := IntWalk.i64_in _ (by omega)
  have hal : (a : Int) < 64 := by omega
  have htl : (t : Int) < 64 := by omega
  have Hax := hide (fun w => abs_any dx (by omega) (by omega) w)
  have Hay := hide (fun w => abs_any dy (by omega) (by omega) w)
  obtain ⟨o1, o2, o3, o4, o5, o6, o7, o8, o9, o10⟩ := hwy
  obtain ⟨p0, p1, p2, p3, p4, p5⟩ := hbp.pos6
  obtain ⟨v0, v1, v2, v3⟩ := hbw.four4
  clear hx hy hxa hya hxt hyt hdx hdy hp hn hm hsz hbp hbw hl0
  go_enter Tryz.func135, Tryz.ntmps135
  go_upto_region 1 with (fail)
  obtain ⟨w0, hw0⟩ : ∃ w0, (W.alloc (.cells #[.int .i64 (n : Int), .int .i64 p.h, .string p.cells, .int .i64 p.turn, .string p.h0, .string p.h1] 24)).alloc (.cells #[.int .i64 wy.kind, .int .i64 wy.x, .int .i64 wy.y, .int .i64 wy.take] 80) = w0 := ⟨_, rfl⟩
  rw [hw0] at Hbp Hbw Hl0 p0 p1 p2 p3 p4 p5 v0 v1 v2 v3 ⊢
  clear hw0
  go_quiet (fail)
  simp only [ea, ec]
  clear ea eb ec ed ez w1 w2
  have Hbp1 := hide (show ∀ q, Blk (w0.drewN q) W.heap.size 24 #[.int .i64 (n : Int), .int .i64 p.h, .string p.cells, .int .i64 p.turn, .string p.h0, .string p.h1] from fun q => Hbp.out)
  have Hbw1 := hide (show ∀ q, Blk (w0.drewN q) (W.heap.size + 1) 80 #[.int .i64 wy.kind, .int .i64 wy.x, .int .i64 wy.y, .int .i64 wy.take] from fun q => Hbw.out)
  have Hlb1 := hide (show ∀ q, Later W (w0.drewN q) from fun q => Hl0.out.drewN q)
  obtain ⟨wb, hwb⟩ : ∃ wb, w0.drewN nq = wb := ⟨_, rfl⟩
  have Hbp := hide (hwb ▸ Hbp1.out nq)
  have Hbw := hide (hwb ▸ Hbw1.out nq)
  have Hlb := hide (hwb ▸ Hlb1.out nq)
  rw [hwb]
  clear hwb Hbp1 Hbw1 Hlb1 p0 p1 p2 p3 p4 p5 v0 v1 v2 v3 Hl0
  obtain ⟨p0, p1, p2, p3, p4, p5⟩ := Hbp.out.pos6
  obtain ⟨v0, v1, v2, v3⟩ := Hbw.out.four4
  by_cases h3 : wy.kind = 3
  · have d3 : (wy.kind == 3) = true := by simp [h3]
    obtain ⟨ax, hax⟩ : ∃ ax, absI dx = ax := ⟨_, rfl⟩
    have Hax' := hide (hax ▸ Hax.out)
    obtain ⟨b1, hb1⟩ : ∃ b, (absI dx == wy.x) = b := ⟨_, rfl⟩
    have hb1' := hb1
    rw [hax] at hb1'
    have t01 : p.turn = 0 ∨ p.turn = 1 := by have := Hp.out.t0; have := Hp.out.t1; omega
    clear hax
    rcases t01 with ht0 | ht1
    · have d4 : (p.turn == 1) = false := by simp [ht0]
      obtain ⟨b2, hb2⟩ : ∃ b, (dy == wy.y) = b := ⟨_, rfl⟩
      have htt : dy * (1 - 2 * p.turn) = dy := by rw [ht0]; omega
      have hb2' := hb2
      clear ht0
      have Hr := hide (show goesB p wy a t = (b1 && b2) by rw [goes_step h3, Hdx.out, Hdy.out, hb1, htt, hb2])
      clear hb1 hb2 h3
      cases b1
      · go_wp2_with fail
        go_quiet ((go_at_call 164; exact Calls.quiet_of_same (Hax'.out _)))
        go_wp2_with fail
        go_ret
        exact ⟨by rw [Hr.out] <;> rfl, Hlb.out.drewN _⟩
      · go_wp2_with fail
        go_quiet ((go_at_call 164; exact Calls.quiet_of_same (Hax'.out _)))
        go_wp2_with fail
        go_ret
        exact ⟨by rw [Hr.out] <;> rfl, Hlb.out.drewN _⟩
    · have d4 : (p.turn == 1) = true := by simp [ht1]
      obtain ⟨b2, hb2⟩ : ∃ b, (-dy == wy.y) = b := ⟨_, rfl⟩
      have htt : dy * (1 - 2 * p.turn) = -dy := by rw [ht1]; omega
      have hb2' := hb2
      clear ht1
      have Hr := hide (show goesB p wy a t = (b1 && b2) by rw [goes_step h3, Hdx.out, Hdy.out, hb1, htt, hb2])
      clear hb1 hb2 h3
      cases b1
      · go_wp2_with fail
        go_quiet ((go_at_call 164; exact Calls.quiet_of_same (Hax'.out _)))
        go_wp2_with fail
        go_ret
        exact ⟨by rw [Hr.out] <;> rfl, Hlb.out.drewN _⟩
      · go_wp2_with fail
        go_quiet ((go_at_call 164; exact Calls.quiet_of_same (Hax'.out _)))
        go_wp2_with fail
        go_ret
        exact ⟨by rw [Hr.out] <;> rfl, Hlb.out.drewN _⟩
  · have d3 : (wy.kind == 3) = false := by simpa using h3
    obtain ⟨a0, a7⟩ := absI_rng r1 r2
    obtain ⟨c0, c7⟩ := absI_rng r3 r4
    obtain ⟨ax, hax⟩ : ∃ ax, absI dx = ax := ⟨_, rfl⟩
    obtain ⟨ay, hay⟩ : ∃ ay, absI dy = ay := ⟨_, rfl⟩
    have Hax' := hide (hax ▸ Hax.out)
    have Hay' := hide (hay ▸ Hay.out)
    have Hhit := hide (show ∀ k, HitR p wy a t k ↔ ((ax = (k : Int) * wy.x ∧ ay = (k : Int) * wy.y) ∨ (ax = (k : Int) * wy.y ∧ ay = (k : Int) * wy.x)) from fun k => by
      unfold HitR; rw [Hdx.out, Hdy.out, hax, hay])
    rw [hax] at a0 a7
    rw [hay] at c0 c7
    clear hax hay
    go_upto_region 7 with (fail)
    go_loopw [11] (fun s11 wr => ∃ k : Nat, 1 ≤ k ∧ k ≤ 8 ∧ (wy.kind = 1 → k ≤ 2) ∧ s11 = .int .i64 k ∧ (∀ l, 1 ≤ l → l < k → (wy.kind = 1 → l = 1) → ¬ HitR p wy a t l) ∧ Blk wr W.heap.size 24 #[.int .i64 (n : Int), .int .i64 p.h, .string p.cells, .int .i64 p.turn, .string p.h0, .string p.h1] ∧ Blk wr (W.heap.size + 1) 80 #[.int .i64 wy.kind, .int .i64 wy.x, .int .i64 wy.y, .int .i64 wy.take] ∧ Later W wr) (fun s11 _ => 9 - (intOf s11).toNat)
    case atStart => exact ⟨1, by omega, by omega, fun _ => by omega, rfl, fun l h1 h2 => by omega, Hbp.out, Hbw.out, Hlb.out⟩
    case round =>
      rename World => wr
      obtain ⟨k, k1, k8, hk2, rfl, hall, hb, hv, hw⟩ := hrel
      have Hall := hide hall
      have Hb := hide hb
      have Hv := hide hv
      have Hw := hide hw
      have Hk2 := hide hk2
      clear hall hb hv hw hk2 p0 p1 p2 p3 p4 p5 v0 v1 v2 v3
      obtain ⟨p0, p1, p2, p3, p4, p5⟩ := Hb.out.pos6
      obtain ⟨v0, v1, v2, v3⟩ := Hv.out.four4
      by_cases hk7 : k ≤ 7
      · have e7 : decide ((k : Int) ≤ 7) = true := decide_eq_true (by omega)
        by_cases hbr : 1 < k ∧ wy.kind = 1
        · have f1 : decide ((k : Int) > 1) = true := decide_eq_true (by omega)
          have f2 : (wy.kind == 1) = true := by simp [hbr.2]
          have Hr := hide (goes_none h3 (fun l l1 l7 hl => by
            have := hl hbr.2
            exact Hall.out l l1 (by omega) hl))
          clear hbr
          go_wp2_with fail
          go_ret
          exact ⟨by rw [Hr.out] <;> rfl, Hw.out⟩
        · have Hk1 := hide (show wy.kind = 1 → k = 1 from fun h => by
            by_cases e : 1 < k
            · exact absurd ⟨e, h⟩ hbr
            · omega)
          have q1 : 0 ≤ (k : Int) * wy.x := Int.mul_nonneg (by omega) o3
          have q2 : (k : Int) * wy.x ≤ 49 := by
            have h1 : (k : Int) * wy.x ≤ (k : Int) * 7 := Int.mul_le_mul_of_nonneg_left o4 (by omega)
            omega
          have q3 : 0 ≤ (k : Int) * wy.y := Int.mul_nonneg (by omega) o5
          have q4 : (k : Int) * wy.y ≤ 49 := by
            have h1 : (k : Int) * wy.y ≤ (k : Int) * 7 := Int.mul_le_mul_of_nonneg_left o6 (by omega)
            omega
          have hhk := Hhit.out k
          obtain ⟨kx, hkx⟩ : ∃ kx, (k : Int) * wy.x = kx := ⟨_, rfl⟩
          obtain ⟨ky, hky⟩ : ∃ ky, (k : Int) * wy.y = ky := ⟨_, rfl⟩
          rw [hkx] at q1 q2
          rw [hky] at q3 q4
          rw [hkx, hky] at hhk
          have Hhk := hide hhk
          have s1 : IntKind.i64.wrap kx = kx := IntWalk.i64_in _ (by omega)
          have s2 : IntKind.i64.wrap ky = ky := IntWalk.i64_in _ (by omega)
          have Hbr := hide hbr
          have f0 : (decide ((k : Int) > 1) && (wy.kind == 1)) = false := by
            by_cases e : 1 < k
            · have : ¬ wy.kind = 1 := fun h => hbr ⟨e, h⟩
              simp [this]
            · simp; omega
          go_upto_region 9 with (fail)
          go_cut [63] (fun s w' => s = .bool false ∧ w' = wr)
          case first =>
            obtain ⟨g1, hg1⟩ : ∃ g, decide ((k : Int) > 1) = g := ⟨_, rfl⟩
            obtain ⟨g2, hg2⟩ : ∃ g, (wy.kind == 1) = g := ⟨_, rfl⟩
            rw [hg1, hg2] at f0
            cases g1
            · go_wp2_with fail
              go_meet
              case rel => exact ⟨rfl, rfl⟩
            · cases g2
              · go_wp2_with fail
                go_meet
                case rel => exact ⟨rfl, rfl⟩
              · exact absurd f0 (by decide)
          case rest =>
            obtain ⟨rfl, rfl⟩ := hcut
            clear f0
            go_upto_region 10 with (fail)
            go_cut [12] (fun s w' => s = .bool (decide (ax = kx ∧ ay = ky)) ∧ Blk w' W.heap.size 24 #[.int .i64 (n : Int), .int .i64 p.h, .string p.cells, .int .i64 p.turn, .string p.h0, .string p.h1] ∧ Blk w' (W.heap.size + 1) 80 #[.int .i64 wy.kind, .int .i64 wy.x, .int .i64 wy.y, .int .i64 wy.take] ∧ Later W w')
            case first =>
              obtain ⟨b1, hb1⟩ : ∃ b, decide (ax = kx) = b := ⟨_, rfl⟩
              obtain ⟨b2, hb2⟩ : ∃ b, decide (ay = ky) = b := ⟨_, rfl⟩
              have Hr := hide (show decide (ax = kx ∧ ay = ky) = (b1 && b2) by rw [← hb1, ← hb2, Bool.decide_and])
              have e1 := eqI hb1
              have e2 := eqI hb2
              clear hb1 hb2
              cases b1
              · go_quiet ((first | (go_at_call 164; exact Calls.quiet_of_same (Hax'.out _)) | (go_at_call 164; exact Calls.quiet_of_same (Hay'.out _))))
                go_wp2_with fail
                go_meet
                case rel => exact ⟨by rw [Hr.out] <;> rfl, Hb.out.drewN _, Hv.out.drewN _, Hw.out.drewN _⟩
              · go_quiet ((first | (go_at_call 164; exact Calls.quiet_of_same (Hax'.out _)) | (go_at_call 164; exact Calls.quiet_of_same (Hay'.out _))))
                go_wp2_with fail
                go_meet
                case rel => exact ⟨by rw [Hr.out] <;> rfl, Hb.out.drewN _, Hv.out.drewN _, Hw.out.drewN _⟩
            case rest =>
              obtain ⟨rfl, hb, hv, hw⟩ := hcut
              clear Hb Hv Hw p0 p1 p2 p3 p4 p5 v0 v1 v2 v3
              have Hb := hide hb
              have Hv := hide hv
              have Hw := hide hw
              obtain ⟨p0, p1, p2, p3, p4, p5⟩ := hb.pos6
              obtain ⟨v0, v1, v2, v3⟩ := hv.four4
              clear hb hv hw
              go_upto_region 11 with (fail)
              go_cut [13] (fun s w' => s = .bool (decide (ax = ky ∧ ay = kx)) ∧ Blk w' W.heap.size 24 #[.int .i64 (n : Int), .int .i64 p.h, .string p.cells, .int .i64 p.turn, .string p.h0, .string p.h1] ∧ Blk w' (W.heap.size + 1) 80 #[.int .i64 wy.kind, .int .i64 wy.x, .int .i64 wy.y, .int .i64 wy.take] ∧ Later W w')
              case first =>
                obtain ⟨b1, hb1⟩ : ∃ b, decide (ax = ky) = b := ⟨_, rfl⟩
                obtain ⟨b2, hb2⟩ : ∃ b, decide (ay = kx) = b := ⟨_, rfl⟩
                have Hr := hide (show decide (ax = ky ∧ ay = kx) = (b1 && b2) by rw [← hb1, ← hb2, Bool.decide_and])
                have e1 := eqI hb1
                have e2 := eqI hb2
                clear hb1 hb2
                cases b1
                · go_quiet ((first | (go_at_call 164; exact Calls.quiet_of_same (Hax'.out _)) | (go_at_call 164; exact Calls.quiet_of_same (Hay'.out _))))
                  go_wp2_with fail
                  go_meet
                  case rel => exact ⟨by rw [Hr.out] <;> rfl, Hb.out.drewN _, Hv.out.drewN _, Hw.out.drewN _⟩
                · go_quiet ((first | (go_at_call 164; exact Calls.quiet_of_same (Hax'.out _)) | (go_at_call 164; exact Calls.quiet_of_same (Hay'.out _))))
                  go_wp2_with fail
                  go_meet
                  case rel => exact ⟨by rw [Hr.out] <;> rfl, Hb.out.drewN _, Hv.out.drewN _, Hw.out.drewN _⟩
              case rest =>
                obtain ⟨rfl, hb, hv, hw⟩ := hcut
                clear Hb Hv Hw p0 p1 p2 p3 p4 p5 v0 v1 v2 v3
                have Hb := hide hb
                have Hv := hide hv
                have Hw := hide hw
                obtain ⟨p0, p1, p2, p3, p4, p5⟩ := hb.pos6
                obtain ⟨v0, v1, v2, v3⟩ := hv.four4
                clear hb hv hw
                obtain ⟨b1, hb1⟩ : ∃ b, decide (ax = kx ∧ ay = ky) = b := ⟨_, rfl⟩
                obtain ⟨b2, hb2⟩ : ∃ b, decide (ax = ky ∧ ay = kx) = b := ⟨_, rfl⟩
                rw [hb1, hb2]
                by_cases hh : HitR p wy a t k
                · have Hh := hide hh
                  have hbb : b1 = true ∨ b2 = true := by
                    rcases Hhk.out.1 hh with h | h
                    · exact .inl (by rw [← hb1]; exact decide_eq_true h)
                    · exact .inr (by rw [← hb2]; exact decide_eq_true h)
                  clear hb1 hb2 hh p0 p1 p2 p3 p4 p5 v0 v1 v2 v3 s1 s2 hkx hky q1 q2 q3 q4
                  go_upto_region 12 with (fail)
                  have g12 : (!b1 && !b2) = false := by rcases hbb with h | h <;> simp [h]
                  have h12 : ∀ S T : Prop, (b1 = true → S) → (b1 = false → b2 = true → S) → S := fun S _ h1 h2 => by
                    cases b1
                    · rcases hbb with h | h
                      · exact absurd h (by decide)
                      · exact h2 rfl h
                    · exact h1 rfl
                  refine h12 _ True (fun e1 => ?_) (fun e1 e2 => ?_)
                  all_goals
                    first | subst e1 e2 | subst e1
                    clear hbb g12 h12
                    go_upto_region 15 with (fail)
                    have hck := goes_hit Hwy.out h3 k1 hk7 Hk1.out Hh.out
                    have Hck := hide hck
                    have hmid := hit_mid Hp.out Hwy.out ha ht k1 Hh.out
                    rw [Hdx.out, Hdy.out, Hn.out] at hmid
                    obtain ⟨ddx, ddy, m1, m2, m3, m4, m5, m6, hmid⟩ := hmid
                    have Hmid := hide hmid
                    have hnx := fun j hj => freeTo_next p a t k j hj
                    rw [Hdx.out, Hdy.out, m5, m6, Hn.out] at hnx
                    have Hnx := hide hnx
                    clear hck hmid hnx
                    go_loopw [14, 15] (fun s14 s15 wi => ∃ i : Nat, 1 ≤ i ∧ i ≤ k ∧ s15 = .int .i64 i ∧ s14 = .bool (freeToB p a t k i) ∧ Blk wi W.heap.size 24 #[.int .i64 (n : Int), .int .i64 p.h, .string p.cells, .int .i64 p.turn, .string p.h0, .string p.h1] ∧ Later W wi) (fun _ s15 _ => 9 - (intOf s15).toNat)
                    case atStart => exact ⟨1, by omega, by omega, rfl, by rw [freeTo_one], Hb.out, Hw.out⟩
                    case round =>
                      rename World => wi
                      obtain ⟨i, i1, ik, rfl, rfl, hb, hw⟩ := hrel
                      have Hbi := hide hb
                      have Hwi := hide hw
                      obtain ⟨p0, p1, p2, p3, p4, p5⟩ := hb.pos6
                      clear hb hw
                      by_cases hik : i < k
                      · have eik : decide ((i : Int) < (k : Int)) = true := decide_eq_true (by omega)
                        obtain ⟨fb, hfb⟩ : ∃ fb, freeToB p a t k i = fb := ⟨_, rfl⟩
                        have hnx := Hnx.out i i1
                        rw [hfb] at hnx ⊢
                        cases fb
                        · have Hr := hide (show freeToB p a t k (i + 1) = false by rw [hnx]; rfl)
                          clear hnx hfb
                          go_upto_region 17 with (fail)
                          go_quiet (fail)
                          go_wp2_with fail
                          go_roundw
                          case rel => exact ⟨i + 1, by omega, by omega, by go_num, by rw [Hr.out], Hbi.out.drewN _, Hwi.out.drewN _⟩
                          case measure => simp [intOf]; omega
                        · obtain ⟨j, hj1, hj2⟩ := Hmid.out i (by omega)
                          rw [hj1, Int.toNat_natCast] at hnx
                          have hcj : cellN p j = p.cells[j].toNat := by unfold cellN; rw [getD_get (show j < p.cells.data.toList.length from hj2)]; rfl
                          rw [hcj, Bool.true_and] at hnx
                          have e46 : ((p.cells[j].toNat : Int) == 46) = freeToB p a t k (i + 1) := by rw [hnx]; exact eq_bool rfl
                          obtain ⟨fn, hfn⟩ : ∃ fn, freeToB p a t k (i + 1) = fn := ⟨_, rfl⟩
                          rw [hfn] at e46
                          have Hfn := hide hfn
                          have u1 : -49 ≤ ddx * (i : Int) ∧ ddx * (i : Int) ≤ 49 := by
                            have h1 : (-7) * (i : Int) ≤ ddx * (i : Int) := Int.mul_le_mul_of_nonneg_right m1 (by omega)
                            have h2 : ddx * (i : Int) ≤ 7 * (i : Int) := Int.mul_le_mul_of_nonneg_right m2 (by omega)
                            omega
                          have u2 : -49 ≤ ddy * (i : Int) ∧ ddy * (i : Int) ≤ 49 := by
                            have h1 : (-7) * (i : Int) ≤ ddy * (i : Int) := Int.mul_le_mul_of_nonneg_right m3 (by omega)
                            have h2 : ddy * (i : Int) ≤ 7 * (i : Int) := Int.mul_le_mul_of_nonneg_right m4 (by omega)
                            omega
                          obtain ⟨y1, hy1⟩ : ∃ y, ddy * (i : Int) = y := ⟨_, rfl⟩
                          obtain ⟨y0, hy0⟩ : ∃ y, ddx * (i : Int) = y := ⟨_, rfl⟩
                          rw [hy1] at u2 hj1
                          rw [hy0] at u1 hj1
                          obtain ⟨u1, u1'⟩ := u1
                          obtain ⟨u2, u2'⟩ := u2
                          obtain ⟨y2, hy2⟩ : ∃ y, y1 * (n : Int) = y := ⟨_, rfl⟩
                          rw [hy2] at hj1
                          have ekz : ((k : Int) == 0) = false := by simp; omega
                          have jj1 : (0 : Int) ≤ (j : Int) := by omega
                          have jj2 : (j : Int) < (p.cells.size : Int) := by omega
                          have u3 : -200 ≤ y2 := by omega
                          have u3' : y2 ≤ 200 := by omega
                          obtain ⟨y3, hy3⟩ : ∃ y, (a : Int) + y0 = y := ⟨_, rfl⟩
                          rw [hy3] at hj1
                          have z1 : IntKind.i64.wrap ddx = ddx := IntWalk.i64_in _ (by omega)
                          have z2 : IntKind.i64.wrap ddy = ddy := IntWalk.i64_in _ (by omega)
                          have z3 : IntKind.i64.wrap y0 = y0 := IntWalk.i64_in _ (by omega)
                          have z4 : IntKind.i64.wrap y1 = y1 := IntWalk.i64_in _ (by omega)
                          have z5 : IntKind.i64.wrap y2 = y2 := IntWalk.i64_in _ (by omega)
                          have z6 : IntKind.i64.wrap y3 = y3 := IntWalk.i64_in _ (by omega)
                          have z7 : IntKind.i64.wrap (j : Int) = (j : Int) := IntWalk.i64_in _ (by omega)
                          clear hnx hfb hcj hfn
                          go_upto_region 17 with (fail)
                          go_quiet (fail)
                          clear z1 z2 z3 z4 z5 z6 z7 hy0 hy1 hy2 hy3 hj1 e46
                          go_wp2_with fail
                          go_roundw
                          case rel => exact ⟨i + 1, by omega, by omega, by go_num, by rw [Hfn.out], Hbi.out.drewN _, Hwi.out.drewN _⟩
                          case measure => simp [intOf]; omega
                      · obtain rfl : i = k := by omega
                        have Hr := hide (Hck.out.trans (freeTo_all p a t i).symm)
                        go_wp2_with fail
                        go_ret
                        exact ⟨by rw [Hr.out] <;> rfl, Hwi.out⟩
                · have h1 : b1 = false := by rw [← hb1]; exact decide_eq_false fun h => hh (Hhk.out.2 (.inl h))
                  have h2 : b2 = false := by rw [← hb2]; exact decide_eq_false fun h => hh (Hhk.out.2 (.inr h))
                  subst h1 h2
                  have Hn := hide (show ∀ l, 1 ≤ l → l < k + 1 → (wy.kind = 1 → l = 1) → ¬ HitR p wy a t l from fun l l1 l2 l3 => by
                    by_cases e : l = k
                    · subst e; exact hh
                    · exact Hall.out l l1 (by omega) l3)
                  have Hkk := hide (show wy.kind = 1 → k + 1 ≤ 2 from fun h => by have := Hk1.out h; omega)
                  clear hb1 hb2 hh p0 p1 p2 p3 p4 p5 v0 v1 v2 v3 s1 s2 hkx hky q1 q2 q3 q4
                  go_wp2_with fail
                  go_roundw
                  case rel => exact ⟨k + 1, by omega, by omega, Hkk.out, by go_num, Hn.out, Hb.out, Hv.out, Hw.out⟩
                  case measure => simp [intOf]; omega
      · have e7 : decide ((k : Int) ≤ 7) = false := decide_eq_false (by omega)
        have Hr := hide (goes_none h3 (fun l l1 l7 hl => Hall.out l l1 (by omega) hl))
        go_wp2_with fail
        go_ret
        exact ⟨by rw [Hr.out] <;> rfl, Hw.out⟩
end Go.Proofs.YtcdfeaodfmfdnaaGreatDoor
