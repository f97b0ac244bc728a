/- rules.Write at wrong rules: walked. gameref.SameRules at equal rules: walked. gamekeep.RulesBack: what its walk leans on: a right text is read as what it says. gamekeep.RulesBack: walked. -/
import Derived.Test.YtcdfeaodfmfdnaaDoorRxLineM
import Derived.BigRegion
import Derived.Test.YtcdfeaodfmfdnaaDoorRxRead
import Derived.Test.YtcdfeaodfmfdnaaDoorRxWriteM
namespace Go.Proofs.YtcdfeaodfmfdnaaDoor
open Go.RowKit

set_option maxHeartbeats 4000000 in
set_option maxRecDepth 100000 in
theorem rwrite_no (r : RulesD) (A : Option Addr) (cp : Nat) (W : World) (hr : ¬ RulesOk r) (hf : RFit r) (hP : PiecesAt W W.heap.size A r.pieces) :
    Calls Tryd.prog 14 #[.agg #[.int .i64 r.start.w, .int .i64 r.start.h, .string r.start.cells, .int .i64 r.start.turn, .string r.start.h0, .string r.start.h1, .slice A r.pieces.length cp, .bool r.drops, .int .u8 (r.lose : Int), .int .i64 r.line, .int .u8 (r.reach : Int), .bool r.stuck, .int .i64 r.plies]] W fun e w' => e = .returned (.tuple #[.string ⟨#[]⟩, .int .i64 1]) ∧ Later W w' := by
  have HB := hide (Blk.new W 38 #[.int .i64 r.start.w, .int .i64 r.start.h, .string r.start.cells, .int .i64 r.start.turn, .string r.start.h0, .string r.start.h1, .slice A r.pieces.length cp, .bool r.drops, .int .u8 (r.lose : Int), .int .i64 r.line, .int .u8 (r.reach : Int), .bool r.stuck, .int .i64 r.plies])
  have HL := hide (show Later W (W.alloc (.cells #[.int .i64 r.start.w, .int .i64 r.start.h, .string r.start.cells, .int .i64 r.start.turn, .string r.start.h0, .string r.start.h1, .slice A r.pieces.length cp, .bool r.drops, .int .u8 (r.lose : Int), .int .i64 r.line, .int .u8 (r.reach : Int), .bool r.stuck, .int .i64 r.plies] 38)) from Later.rfl.alloc _)
  have HC := hide (fun w (h : Later W w) => check_any r A cp w hf ((hP.below h).more h.size))
  rw [show codeN (rulesB r) = 1 from by rw [rulesB_false.2 hr]; rfl] at HC
  clear hr hP hf
  go_enter Tryd.func14, Tryd.ntmps14
  go_upto_region 1 with (fail)
  obtain ⟨w1, hw1⟩ : ∃ w1, W.alloc (.cells #[.int .i64 r.start.w, .int .i64 r.start.h, .string r.start.cells, .int .i64 r.start.turn, .string r.start.h0, .string r.start.h1, .slice A r.pieces.length cp, .bool r.drops, .int .u8 (r.lose : Int), .int .i64 r.line, .int .u8 (r.reach : Int), .bool r.stuck, .int .i64 r.plies] 38) = w1 := ⟨_, rfl⟩
  rw [hw1] at HB HL ⊢
  clear hw1
  obtain ⟨y0, y1, y2, y3, y4, y5, y6, y7, y8, y9, y10, y11, y12⟩ := Blk.rules HB.out
  go_wp2_with (go_at_call 37; refine (HC.out _ HL.out).mono ?_; rintro e w2 ⟨rfl, hl2⟩; have Hl2 := hide hl2; clear hl2)
  go_ret2
  exact ⟨rfl, HL.out.trans Hl2.out⟩
end Go.Proofs.YtcdfeaodfmfdnaaDoor
namespace Go.Proofs.YtcdfeaodfmfdnaaDoor
open Go.RowKit

theorem run_eq_hnd2 (a0 a1 b0 b1 : ByteArray) (w : World) : (Op.equalIn 9999 22 (.agg #[.string a0, .string a1]) (.agg #[.string b0, .string b1])).run Tryd.prog w = .ok (a0.toList == b0.toList && a1.toList == b1.toList) w := by
  rw [show (9999 : Nat) = 9998 + 1 from rfl]
  unfold Op.equalIn
  simp only [Sem.run_bind, run_underlying Tryd.underlying22, Result.andThen_ok]
  go_simp
  rw [show List.range' 0 2 = [0, 1] from rfl]
  simp only [List.forIn_cons, List.forIn_nil]
  go_simp
  by_cases h0 : a0.toList = b0.toList <;> by_cases h1 : a1.toList = b1.toList <;> simp [h0, h1]
/-- what stays while SameRules compares -/
structure SmR (W : World) (r : RulesD) (A : Option Addr) (cp : Nat) (A' : Option Addr) (cp' : Nat) (w : World) : Prop where
  l : Later W w
  a : Blk w W.heap.size 38 #[.int .i64 r.start.w, .int .i64 r.start.h, .string r.start.cells, .int .i64 r.start.turn, .string r.start.h0, .string r.start.h1, .slice A r.pieces.length cp, .bool r.drops, .int .u8 (r.lose : Int), .int .i64 r.line, .int .u8 (r.reach : Int), .bool r.stuck, .int .i64 r.plies]
  b : Blk w (W.heap.size + 1) 38 #[.int .i64 r.start.w, .int .i64 r.start.h, .string r.start.cells, .int .i64 r.start.turn, .string r.start.h0, .string r.start.h1, .slice A' r.pieces.length cp', .bool r.drops, .int .u8 (r.lose : Int), .int .i64 r.line, .int .u8 (r.reach : Int), .bool r.stuck, .int .i64 r.plies]
theorem SmR.step {W w w' : World} {r : RulesD} {A A' : Option Addr} {cp cp' : Nat} (h : SmR W r A cp A' cp' w) (ho : Later w w') : SmR W r A cp A' cp' w' :=
  ⟨h.l.trans ho, ho.blk h.a, ho.blk h.b⟩
set_option maxHeartbeats 16000000 in
set_option maxRecDepth 100000 in
theorem same_rules (r : RulesD) (A A' : Option Addr) (cp cp' : Nat) (W : World) (hf : RFit r) (hP : PiecesAt W W.heap.size A r.pieces) (hP' : PiecesAt W W.heap.size A' r.pieces) :
    Calls Tryd.prog 15 #[.agg #[.int .i64 r.start.w, .int .i64 r.start.h, .string r.start.cells, .int .i64 r.start.turn, .string r.start.h0, .string r.start.h1, .slice A r.pieces.length cp, .bool r.drops, .int .u8 (r.lose : Int), .int .i64 r.line, .int .u8 (r.reach : Int), .bool r.stuck, .int .i64 r.plies], .agg #[.int .i64 r.start.w, .int .i64 r.start.h, .string r.start.cells, .int .i64 r.start.turn, .string r.start.h0, .string r.start.h1, .slice A' r.pieces.length cp', .bool r.drops, .int .u8 (r.lose : Int), .int .i64 r.line, .int .u8 (r.reach : Int), .bool r.stuck, .int .i64 r.plies]] W fun e w' => e = .returned (.bool true) ∧ Later W w' := by
  have hsm : SmR W r A cp A' cp' ((W.alloc (.cells #[.int .i64 r.start.w, .int .i64 r.start.h, .string r.start.cells, .int .i64 r.start.turn, .string r.start.h0, .string r.start.h1, .slice A r.pieces.length cp, .bool r.drops, .int .u8 (r.lose : Int), .int .i64 r.line, .int .u8 (r.reach : Int), .bool r.stuck, .int .i64 r.plies] 38)).alloc (.cells #[.int .i64 r.start.w, .int .i64 r.start.h, .string r.start.cells, .int .i64 r.start.turn, .string r.start.h0, .string r.start.h1, .slice A' r.pieces.length cp', .bool r.drops, .int .u8 (r.lose : Int), .int .i64 r.line, .int .u8 (r.reach : Int), .bool r.stuck, .int .i64 r.plies] 38)) := by
    have h2 := Blk.new (W.alloc (.cells #[.int .i64 r.start.w, .int .i64 r.start.h, .string r.start.cells, .int .i64 r.start.turn, .string r.start.h0, .string r.start.h1, .slice A r.pieces.length cp, .bool r.drops, .int .u8 (r.lose : Int), .int .i64 r.line, .int .u8 (r.reach : Int), .bool r.stuck, .int .i64 r.plies] 38)) 38 #[.int .i64 r.start.w, .int .i64 r.start.h, .string r.start.cells, .int .i64 r.start.turn, .string r.start.h0, .string r.start.h1, .slice A' r.pieces.length cp', .bool r.drops, .int .u8 (r.lose : Int), .int .i64 r.line, .int .u8 (r.reach : Int), .bool r.stuck, .int .i64 r.plies]
    rw [World.size_alloc] at h2
    exact ⟨(Later.rfl.alloc _).alloc _, (Blk.new W _ _).alloc _, h2⟩
  have HS := hide hsm
  have HPa := hide hP
  have HPb := hide hP'
  have Hf := hide hf
  have hnp := hf.n
  clear hsm hP hP' hf
  go_enter Tryd.func15, Tryd.ntmps15
  go_upto_region 1 with (fail)
  obtain ⟨w1, hw1⟩ : ∃ w1, (W.alloc (.cells #[.int .i64 r.start.w, .int .i64 r.start.h, .string r.start.cells, .int .i64 r.start.turn, .string r.start.h0, .string r.start.h1, .slice A r.pieces.length cp, .bool r.drops, .int .u8 (r.lose : Int), .int .i64 r.line, .int .u8 (r.reach : Int), .bool r.stuck, .int .i64 r.plies] 38)).alloc (.cells #[.int .i64 r.start.w, .int .i64 r.start.h, .string r.start.cells, .int .i64 r.start.turn, .string r.start.h0, .string r.start.h1, .slice A' r.pieces.length cp', .bool r.drops, .int .u8 (r.lose : Int), .int .i64 r.line, .int .u8 (r.reach : Int), .bool r.stuck, .int .i64 r.plies] 38) = w1 := ⟨_, rfl⟩
  rw [hw1] at HS ⊢
  clear hw1
  obtain ⟨x0, x1, x2, x3, x4, x5, x6, x7, x8, x9, x10, x11, x12⟩ := Blk.rules HS.out.a
  obtain ⟨y0, y1, y2, y3, y4, y5, y6, y7, y8, y9, y10, y11, y12⟩ := Blk.rules HS.out.b
  have heq := run_eq_hnd2
  go_upto_region 3 with (fail)
  clear heq x0 x1 x2 x3 x4 x5 x6 x7 x8 x9 x10 x11 x12 y0 y1 y2 y3 y4 y5 y6 y7 y8 y9 y10 y11 y12
  go_wp2_with fail
  go_loopw [5] (fun iv wr => ∃ i : Nat, i ≤ r.pieces.length ∧ iv = .int .i64 (i : Int) ∧ SmR W r A cp A' cp' wr) (fun iv _ => r.pieces.length - (intOf iv).toNat)
  case atStart => exact ⟨0, by omega, rfl, HS.out⟩
  case round =>
    rename World => wr
    obtain ⟨i, hil, rfl, hs⟩ := hrel
    have HSr := hide hs
    clear hs HS
    obtain ⟨x0, x1, x2, x3, x4, x5, x6, x7, x8, x9, x10, x11, x12⟩ := Blk.rules HSr.out.a
    obtain ⟨y0, y1, y2, y3, y4, y5, y6, y7, y8, y9, y10, y11, y12⟩ := Blk.rules HSr.out.b
    by_cases hi : i < r.pieces.length
    · have d1 : decide ((i : Int) < (r.pieces.length : Int)) = true := by simp; omega
      have d1n : decide (i < r.pieces.length) = true := by simp; omega
      have i0 : (0 : Int) ≤ (i : Int) := by omega
      have i1 : (i : Int) < (r.pieces.length : Int) := by omega
      obtain ⟨b1, o1, rfl, hb1, z0, z1, A1, c1, hc1, z2, hw1⟩ := (HPa.out.below HSr.out.l).at_ hi
      obtain ⟨b2, o2, rfl, hb2, v0, v1, A2, c2, hc2, v2, hw2⟩ := (HPb.out.below HSr.out.l).at_ hi
      have hlen := Hf.out.len i hi
      obtain ⟨pc, hpc⟩ : ∃ pc, r.pieces[i] = pc := ⟨_, rfl⟩
      rw [hpc] at z0 z1 z2 v0 v1 v2 hw1 hw2 hc1 hc2 hlen
      have Hw1 := hide hw1
      have Hw2 := hide hw2
      have hsz := HSr.out.l.size
      clear hpc hw1 hw2
      have g1 : W.heap.size < wr.heap.size := HSr.out.a.lt
      have g2 : W.heap.size + 1 < wr.heap.size := HSr.out.b.lt
      have g3 : b1 < wr.heap.size := by omega
      have g4 : b2 < wr.heap.size := by omega
      go_upto_region 6 with (fail)
      go_cut [6, 7] (fun p q w' => ∃ gx gy, p = .pointer (some ⟨gx, 0, none⟩) ∧ q = .pointer (some ⟨gy, 0, none⟩) ∧ Blk w' gx 81 #[.int .u8 (pc.letter : Int), .int .i64 pc.worth, .slice A1 pc.ways.length c1] ∧ Blk w' gy 81 #[.int .u8 (pc.letter : Int), .int .i64 pc.worth, .slice A2 pc.ways.length c2] ∧ Later wr w')
      case first =>
        have k1 := Blk.new wr 81 #[.int .u8 (pc.letter : Int), .int .i64 pc.worth, .slice A1 pc.ways.length c1]
        have k2 := Blk.new wr 81 #[.int .u8 (pc.letter : Int), .int .i64 pc.worth, .slice A2 pc.ways.length c2]
        have k3 := Blk.new (wr.alloc (.cells #[.int .u8 (pc.letter : Int), .int .i64 pc.worth, .slice A1 pc.ways.length c1] 81)) 81 #[.int .u8 (pc.letter : Int), .int .i64 pc.worth, .slice A2 pc.ways.length c2]
        have k4 := Blk.new (wr.alloc (.cells #[.int .u8 (pc.letter : Int), .int .i64 pc.worth, .slice A2 pc.ways.length c2] 81)) 81 #[.int .u8 (pc.letter : Int), .int .i64 pc.worth, .slice A1 pc.ways.length c1]
        rw [World.size_alloc] at k3 k4
        have HK := hide (And.intro k1 (And.intro k2 (And.intro k3 k4)))
        clear k1 k2 k3 k4
        go_big_region
        · go_wp2_with fail
          go_meet
          case rel => exact ⟨_, _, rfl, rfl, (HK.out.1.alloc _), HK.out.2.2.1, ((Later.rfl.alloc _).alloc _).drew⟩
        · go_wp2_with fail
          go_meet
          case rel => exact ⟨_, _, rfl, rfl, HK.out.2.2.2, (HK.out.2.1.alloc _), ((Later.rfl.alloc _).alloc _).drew⟩
      case rest =>
        obtain ⟨gx, gy, rfl, rfl, hbx, hby, hl⟩ := hcut
        rename World => w2
        have HS2 := hide (HSr.out.step hl)
        have Hv1 := hide (Hw1.out.below (Below.mono hl hsz))
        have Hv2 := hide (Hw2.out.below (Below.mono hl hsz))
        have Hbx := hide hbx
        have Hby := hide hby
        clear x0 x1 x2 x3 x4 x5 x6 x7 x8 x9 x10 x11 x12 y0 y1 y2 y3 y4 y5 y6 y7 y8 y9 y10 y11 y12 z0 z1 z2 v0 v1 v2 g1 g2 g3 g4 Hw1 Hw2 HSr hbx hby hl
        obtain ⟨z0, z1, z2, -⟩ := Blk.three_ Hbx.out
        obtain ⟨v0, v1, v2, -⟩ := Blk.three_ Hby.out
        go_upto_region 9 with (fail)
        go_wp2_with fail
        clear z0 z1 z2 v0 v1 v2
        go_loopw [8] (fun kv wq => ∃ k : Nat, k ≤ pc.ways.length ∧ kv = .int .i64 (k : Int) ∧ Later w2 wq) (fun kv _ => pc.ways.length - (intOf kv).toNat)
        case atStart => exact ⟨0, by omega, rfl, Later.rfl⟩
        case round =>
          rename World => wq
          obtain ⟨k, hkl, rfl, hlq⟩ := hrel
          have Hlq := hide hlq
          have hbq1 := hlq.blk Hbx.out
          have hbq2 := hlq.blk Hby.out
          obtain ⟨z0, z1, z2, -⟩ := Blk.three_ hbq1
          obtain ⟨v0, v1, v2, -⟩ := Blk.three_ hbq2
          have hws1 := Hv1.out.below (Below.mono hlq (HS2.out.l.size))
          have hws2 := Hv2.out.below (Below.mono hlq (HS2.out.l.size))
          clear hbq1 hbq2 hlq
          by_cases hk : k < pc.ways.length
          · have d2 : decide ((k : Int) < (pc.ways.length : Int)) = true := by simp; omega
            have d2n : decide (k < pc.ways.length) = true := by simp; omega
            have k0 : (0 : Int) ≤ (k : Int) := by omega
            have k1 : (k : Int) < (pc.ways.length : Int) := by omega
            obtain ⟨b3, o3, rfl, hb3, s0, s1, s2, s3⟩ := ways_at hws1 hk
            obtain ⟨b4, o4, rfl, hb4, t0, t1, t2, t3⟩ := ways_at hws2 hk
            obtain ⟨wy, hwy⟩ : ∃ wy, pc.ways[k] = wy := ⟨_, rfl⟩
            rw [hwy] at s0 s1 s2 s3 t0 t1 t2 t3
            clear hwy hws1 hws2
            go_upto_region 12 with (fail)
            go_big_region
            go_wp2_with fail
            go_roundw
            case rel => exact ⟨k + 1, by omega, by go_num, Hlq.out.drew⟩
            case measure => simp [intOf]; omega
          · have d2 : decide ((k : Int) < (pc.ways.length : Int)) = false := by simp; omega
            have d2n : decide (k < pc.ways.length) = false := by simp; omega
            have HS3 := hide (HS2.out.step Hlq.out)
            clear hws1 hws2
            go_wp2_with fail
            go_roundw
            case rel => exact ⟨i + 1, by omega, by go_num, HS3.out⟩
            case measure => simp [intOf]; omega
    · have d1 : decide ((i : Int) < (r.pieces.length : Int)) = false := by simp; omega
      have d1n : decide (i < r.pieces.length) = false := by simp; omega
      go_wp2_with fail
      go_ret
      exact ⟨rfl, HSr.out.l⟩
end Go.Proofs.YtcdfeaodfmfdnaaDoor
namespace Go.Proofs.YtcdfeaodfmfdnaaDoor
open Go.RowKit

theorem textR_inj {r r0 : RulesD} (h : RulesOk r) (h0 : RulesOk r0) (e : textR r = textR r0) : r = r0 := by
  have e1 := textR_split h
  rw [e, textR_split h0] at e1
  have e2 := List.append_cancel_right e1
  exact (rd_one (rules_read h) (e2 ▸ rules_read h0)).2
theorem ok_fit {r : RulesD} (h : RulesOk r) : RFit r := by
  have h1 := (up_len h 8).2
  exact rd_fit (N := 400) (rules_read h) h1 (by omega) (by have := h.p10; omega)
theorem read_text (r0 : RulesD) (s : ByteArray) (W : World) (h0 : RulesOk r0) (hs : s.data.toList = textR r0) (hsz : s.size < 4294967281) (he : Env W) :
    Calls Tryd.prog 13 #[.string s] W fun e w' => ∃ (A : Option Addr) (c : Nat) (at_ : Int), e = .returned (.tuple #[.agg #[.int .i64 r0.start.w, .int .i64 r0.start.h, .string r0.start.cells, .int .i64 r0.start.turn, .string r0.start.h0, .string r0.start.h1, .slice A r0.pieces.length c, .bool r0.drops, .int .u8 (r0.lose : Int), .int .i64 r0.line, .int .u8 (r0.reach : Int), .bool r0.stuck, .int .i64 r0.plies], .agg #[.int .i64 0, .int .i64 at_]]) ∧ r0.pieces.length ≤ c ∧ PiecesAt w' w'.heap.size A r0.pieces ∧ Only (fun _ => False) W w' := by
  refine (rread_any s W hsz he).mono fun e w' ⟨r, A, c, code, at_, he', hok, hno, ho⟩ => ?_
  by_cases hc : code = 0
  · obtain ⟨h1, h2, h3, h4⟩ := hok hc
    have e1 := textR_inj h0 h1 (hs.symm.trans h2)
    subst e1
    subst hc
    exact ⟨A, c, at_, he', h3, h4, ho⟩
  · exact absurd ⟨r0, h0, hs⟩ (hno hc).2
/-- the closed text -/
def litR : RulesD := ⟨⟨1, 1, ⟨#[75]⟩, 0, ⟨#[]⟩, ⟨#[]⟩⟩, [⟨75, 3, []⟩], false, 0, 0, 0, false, 9⟩
theorem lit_ok : RulesOk litR := by
  refine ⟨⟨by decide, by decide, by decide, by decide, by decide, by decide, by decide, ?_, ?_, ?_⟩, by decide, by decide, .inl rfl, by decide, by decide, fun i hi => ?_, .inl rfl, .inl rfl, ?_⟩
  · exact handB_true.2 (show HandOk [] from ⟨by decide, fun k h => by simp at h, fun k h => by simp at h⟩)
  · exact handB_true.2 (show HandOk [] from ⟨by decide, fun k h => by simp at h, fun k h => by simp at h⟩)
  · exact show CellsOk [75] from fun k h => by
      have : k = 0 := by simpa using h
      subst this; exact (by decide : cellB (75 : UInt8).toNat = true)
  · have : i = 0 := by simpa [litR] using hi
    subst this
    exact (⟨by decide, by decide, by decide, by decide, by decide, fun k h => by simp at h⟩ : PieceOk litR.pieces 0 ⟨75, 3, []⟩)
  · have e : litR.start.all = [75] := by decide
    rw [e]
    intro k h
    have : k = 0 := by simpa using h
    subst this
    exact .inr (by decide : (pieceX litR.pieces (75 : UInt8).toNat).isSome = true)
theorem lit_text : (⟨#[115, 116, 97, 114, 116, 32, 75, 32, 119, 32, 45, 47, 45, 10, 112, 105, 101, 99, 101, 32, 75, 32, 51, 10, 112, 108, 105, 101, 115, 32, 57, 10]⟩ : ByteArray).data.toList = textR litR := by decide +kernel
end Go.Proofs.YtcdfeaodfmfdnaaDoor
namespace Go.Proofs.YtcdfeaodfmfdnaaDoor
open Go.RowKit

set_option maxHeartbeats 16000000 in
set_option maxRecDepth 100000 in
theorem rback_any (r : RulesD) (A : Option Addr) (cp : Nat) (s : ByteArray) (W : World) (hf : RFit r) (hs : s.size < 4294967281) (he : Env W) (hP : PiecesAt W W.heap.size A r.pieces) :
    Calls Tryd.prog 4 #[.agg #[.int .i64 r.start.w, .int .i64 r.start.h, .string r.start.cells, .int .i64 r.start.turn, .string r.start.h0, .string r.start.h1, .slice A r.pieces.length cp, .bool r.drops, .int .u8 (r.lose : Int), .int .i64 r.line, .int .u8 (r.reach : Int), .bool r.stuck, .int .i64 r.plies], .string s] W fun e w' => e = .returned (.bool true) ∧ Only (fun _ => False) W w' := by
  have hbig := he.big
  have HP1 := hide (show WrS W r A cp (W.alloc (.cells #[.int .i64 r.start.w, .int .i64 r.start.h, .string r.start.cells, .int .i64 r.start.turn, .string r.start.h0, .string r.start.h1, .slice A r.pieces.length cp, .bool r.drops, .int .u8 (r.lose : Int), .int .i64 r.line, .int .u8 (r.reach : Int), .bool r.stuck, .int .i64 r.plies] 38)) from (by
    have ho : Only (fun _ => False) W (W.alloc (.cells #[.int .i64 r.start.w, .int .i64 r.start.h, .string r.start.cells, .int .i64 r.start.turn, .string r.start.h0, .string r.start.h1, .slice A r.pieces.length cp, .bool r.drops, .int .u8 (r.lose : Int), .int .i64 r.line, .int .u8 (r.reach : Int), .bool r.stuck, .int .i64 r.plies] 38)) := (Only.refl _ W).alloc _
    exact ⟨ho, he.no ho, Blk.new W _ _, hP.low ho (fun _ h => h.elim) (Nat.le_refl _), by rw [World.size_alloc]; omega⟩))
  obtain ⟨rl, hrl⟩ : ∃ rl, litR = rl := ⟨_, rfl⟩
  have hl1 : ((rl.pieces.length : Int) != 1) = false := by rw [← hrl]; decide
  have HRL := hide (fun w (h : Env w) => read_text rl ⟨#[115, 116, 97, 114, 116, 32, 75, 32, 119, 32, 45, 47, 45, 10, 112, 105, 101, 99, 101, 32, 75, 32, 51, 10, 112, 108, 105, 101, 115, 32, 57, 10]⟩ w (hrl ▸ lit_ok) (hrl ▸ lit_text) (by decide) h)
  have Hf := hide hf
  clear hrl hP he hf
  go_enter Tryd.func4, Tryd.ntmps4
  go_upto_region 1 with (fail)
  obtain ⟨w1, hw1⟩ : ∃ w1, W.alloc (.cells #[.int .i64 r.start.w, .int .i64 r.start.h, .string r.start.cells, .int .i64 r.start.turn, .string r.start.h0, .string r.start.h1, .slice A r.pieces.length cp, .bool r.drops, .int .u8 (r.lose : Int), .int .i64 r.line, .int .u8 (r.reach : Int), .bool r.stuck, .int .i64 r.plies] 38) = w1 := ⟨_, rfl⟩
  rw [hw1] at HP1 ⊢
  clear hw1
  go_upto_region 2 with (go_at_call 13; refine (HRL.out _ HP1.out.e).mono ?_; rintro e w2 ⟨A1, c1, at1, rfl, hc1, hp1, ho2⟩; have HP2 := hide (HP1.out.no hbig ho2); clear hc1 hp1 ho2)
  have hal : Only (fun _ => False) w2 ((w2.alloc (.cells #[.int .i64 rl.start.w, .int .i64 rl.start.h, .string rl.start.cells, .int .i64 rl.start.turn, .string rl.start.h0, .string rl.start.h1, .slice A1 rl.pieces.length c1, .bool rl.drops, .int .u8 (rl.lose : Int), .int .i64 rl.line, .int .u8 (rl.reach : Int), .bool rl.stuck, .int .i64 rl.plies] 38)).alloc (.cells #[.int .i64 0, .int .i64 at1] 29)) := ((Only.refl _ w2).alloc _).alloc _
  have hbr := (Blk.new w2 38 #[.int .i64 rl.start.w, .int .i64 rl.start.h, .string rl.start.cells, .int .i64 rl.start.turn, .string rl.start.h0, .string rl.start.h1, .slice A1 rl.pieces.length c1, .bool rl.drops, .int .u8 (rl.lose : Int), .int .i64 rl.line, .int .u8 (rl.reach : Int), .bool rl.stuck, .int .i64 rl.plies]).alloc (.cells #[.int .i64 0, .int .i64 at1] 29)
  have hbf := Blk.new (w2.alloc (.cells #[.int .i64 rl.start.w, .int .i64 rl.start.h, .string rl.start.cells, .int .i64 rl.start.turn, .string rl.start.h0, .string rl.start.h1, .slice A1 rl.pieces.length c1, .bool rl.drops, .int .u8 (rl.lose : Int), .int .i64 rl.line, .int .u8 (rl.reach : Int), .bool rl.stuck, .int .i64 rl.plies] 38)) 29 #[.int .i64 0, .int .i64 at1]
  rw [World.size_alloc] at hbf
  obtain ⟨w3, hw3⟩ : ∃ w3, (w2.alloc (.cells #[.int .i64 rl.start.w, .int .i64 rl.start.h, .string rl.start.cells, .int .i64 rl.start.turn, .string rl.start.h0, .string rl.start.h1, .slice A1 rl.pieces.length c1, .bool rl.drops, .int .u8 (rl.lose : Int), .int .i64 rl.line, .int .u8 (rl.reach : Int), .bool rl.stuck, .int .i64 rl.plies] 38)).alloc (.cells #[.int .i64 0, .int .i64 at1] 29) = w3 := ⟨_, rfl⟩
  obtain ⟨g3, hg3⟩ : ∃ g3, w2.heap.size = g3 := ⟨_, rfl⟩
  rw [hw3] at hal hbr hbf ⊢
  rw [hg3] at hbr hbf ⊢
  have HBr := hide hbr
  have HBf := hide hbf
  have Hal := hide hal
  clear hw3 hg3 hal hbr hbf
  have HP3 := hide (HP2.out.no hbig Hal.out)
  clear HP2 HP1 HRL Hal
  obtain ⟨y0, y1, y2, y3, y4, y5, y6, y7, y8, y9, y10, y11, y12⟩ := Blk.rules HBr.out
  obtain ⟨q0, q1, -⟩ := Blk.two_ HBf.out
  go_upto_region 4 with (fail)
  clear y0 y1 y2 y3 y4 y5 y6 y7 y8 y9 y10 y11 y12 q0 q1 hl1 HBr HBf
  obtain ⟨y0, y1, y2, y3, y4, y5, y6, y7, y8, y9, y10, y11, y12⟩ := Blk.rules HP3.out.b
  by_cases hr : RulesOk r
  · have HW := hide (rwrite_ok r A cp w3 hr Hf.out HP3.out.e (HP3.out.p.more HP3.out.o.size))
    have hszt : (bytes (textR r)).size < 4294967281 := by rw [bytes_size]; have := textR_len hr; omega
    have HRT := hide (fun w (h : Env w) => read_text r (bytes (textR r)) w hr (bytes_list _) hszt h)
    obtain ⟨tx, htx⟩ : ∃ tx, bytes (textR r) = tx := ⟨_, rfl⟩
    rw [htx] at HW HRT
    clear htx hszt hr
    go_upto_region 6 with (go_at_call 14; refine HW.out.mono ?_; rintro e w4 ⟨rfl, ho4⟩; have HP4 := hide (HP3.out.no hbig ho4); clear ho4)
    clear y0 y1 y2 y3 y4 y5 y6 y7 y8 y9 y10 y11 y12 HP3 HW
    go_upto_region 7 with (go_at_call 13; refine (HRT.out _ HP4.out.e).mono ?_; rintro e w5 ⟨A5, c5, at5, rfl, hc5, hp5, ho5⟩; have HP5 := hide (HP4.out.no hbig ho5); have Hp5 := hide hp5; clear hc5 hp5 ho5)
    have hal : Only (fun _ => False) w5 ((w5.alloc (.cells #[.int .i64 r.start.w, .int .i64 r.start.h, .string r.start.cells, .int .i64 r.start.turn, .string r.start.h0, .string r.start.h1, .slice A5 r.pieces.length c5, .bool r.drops, .int .u8 (r.lose : Int), .int .i64 r.line, .int .u8 (r.reach : Int), .bool r.stuck, .int .i64 r.plies] 38)).alloc (.cells #[.int .i64 0, .int .i64 at5] 29)) := ((Only.refl _ w5).alloc _).alloc _
    have hbr := (Blk.new w5 38 #[.int .i64 r.start.w, .int .i64 r.start.h, .string r.start.cells, .int .i64 r.start.turn, .string r.start.h0, .string r.start.h1, .slice A5 r.pieces.length c5, .bool r.drops, .int .u8 (r.lose : Int), .int .i64 r.line, .int .u8 (r.reach : Int), .bool r.stuck, .int .i64 r.plies]).alloc (.cells #[.int .i64 0, .int .i64 at5] 29)
    have hbf := Blk.new (w5.alloc (.cells #[.int .i64 r.start.w, .int .i64 r.start.h, .string r.start.cells, .int .i64 r.start.turn, .string r.start.h0, .string r.start.h1, .slice A5 r.pieces.length c5, .bool r.drops, .int .u8 (r.lose : Int), .int .i64 r.line, .int .u8 (r.reach : Int), .bool r.stuck, .int .i64 r.plies] 38)) 29 #[.int .i64 0, .int .i64 at5]
    rw [World.size_alloc] at hbf
    obtain ⟨w6, hw6⟩ : ∃ w6, (w5.alloc (.cells #[.int .i64 r.start.w, .int .i64 r.start.h, .string r.start.cells, .int .i64 r.start.turn, .string r.start.h0, .string r.start.h1, .slice A5 r.pieces.length c5, .bool r.drops, .int .u8 (r.lose : Int), .int .i64 r.line, .int .u8 (r.reach : Int), .bool r.stuck, .int .i64 r.plies] 38)).alloc (.cells #[.int .i64 0, .int .i64 at5] 29) = w6 := ⟨_, rfl⟩
    obtain ⟨g6, hg6⟩ : ∃ g6, w5.heap.size = g6 := ⟨_, rfl⟩
    rw [hw6] at hal hbr hbf ⊢
    rw [hg6] at hbr hbf ⊢
    have HBr := hide hbr
    have HBf := hide hbf
    have Hal := hide hal
    clear hw6 hg6 hal hbr hbf
    have HP6 := hide (HP5.out.no hbig Hal.out)
    have hpa := (Hp5.out.low Hal.out (fun _ h => h.elim) (Nat.le_refl _)).more Hal.out.size
    have HSM := hide (same_rules r A5 A c5 cp w6 Hf.out hpa (HP6.out.p.more HP6.out.o.size))
    clear HP5 HP4 Hp5 HRT hpa Hal
    obtain ⟨y0, y1, y2, y3, y4, y5, y6, y7, y8, y9, y10, y11, y12⟩ := Blk.rules HBr.out
    obtain ⟨q0, q1, -⟩ := Blk.two_ HBf.out
    obtain ⟨x0, x1, x2, x3, x4, x5, x6, x7, x8, x9, x10, x11, x12⟩ := Blk.rules HP6.out.b
    go_upto_region 9 with (go_at_call 15; refine HSM.out.mono ?_; rintro e w65 ⟨rfl, hl6⟩; have HP65 := hide (HP6.out.no hbig (Only.of_below hl6 (fun k h1 h2 => by omega))); clear hl6)
    clear y0 y1 y2 y3 y4 y5 y6 y7 y8 y9 y10 y11 y12 x0 x1 x2 x3 x4 x5 x6 x7 x8 x9 x10 x11 x12 q0 q1 HBr HBf HSM HP6
    have HRA := hide (rread_any s w65 hs HP65.out.e)
    go_upto_region 10 with (go_at_call 13; refine HRA.out.mono ?_; rintro e w7 ⟨r2, A2, c2, code, at2, rfl, hok, hno, ho7⟩; have Hok := hide hok; have Hno := hide hno; have HP7 := hide (HP65.out.no hbig ho7); have Ho7 := hide ho7; clear hok hno ho7; unfold ruC)
    have hal : Only (fun _ => False) w7 ((w7.alloc (.cells #[.int .i64 r2.start.w, .int .i64 r2.start.h, .string r2.start.cells, .int .i64 r2.start.turn, .string r2.start.h0, .string r2.start.h1, .slice A2 r2.pieces.length c2, .bool r2.drops, .int .u8 (r2.lose : Int), .int .i64 r2.line, .int .u8 (r2.reach : Int), .bool r2.stuck, .int .i64 r2.plies] 38)).alloc (.cells #[.int .i64 code, .int .i64 at2] 29)) := ((Only.refl _ w7).alloc _).alloc _
    have hbr := (Blk.new w7 38 #[.int .i64 r2.start.w, .int .i64 r2.start.h, .string r2.start.cells, .int .i64 r2.start.turn, .string r2.start.h0, .string r2.start.h1, .slice A2 r2.pieces.length c2, .bool r2.drops, .int .u8 (r2.lose : Int), .int .i64 r2.line, .int .u8 (r2.reach : Int), .bool r2.stuck, .int .i64 r2.plies]).alloc (.cells #[.int .i64 code, .int .i64 at2] 29)
    have hbf := Blk.new (w7.alloc (.cells #[.int .i64 r2.start.w, .int .i64 r2.start.h, .string r2.start.cells, .int .i64 r2.start.turn, .string r2.start.h0, .string r2.start.h1, .slice A2 r2.pieces.length c2, .bool r2.drops, .int .u8 (r2.lose : Int), .int .i64 r2.line, .int .u8 (r2.reach : Int), .bool r2.stuck, .int .i64 r2.plies] 38)) 29 #[.int .i64 code, .int .i64 at2]
    rw [World.size_alloc] at hbf
    obtain ⟨w8, hw8⟩ : ∃ w8, (w7.alloc (.cells #[.int .i64 r2.start.w, .int .i64 r2.start.h, .string r2.start.cells, .int .i64 r2.start.turn, .string r2.start.h0, .string r2.start.h1, .slice A2 r2.pieces.length c2, .bool r2.drops, .int .u8 (r2.lose : Int), .int .i64 r2.line, .int .u8 (r2.reach : Int), .bool r2.stuck, .int .i64 r2.plies] 38)).alloc (.cells #[.int .i64 code, .int .i64 at2] 29) = w8 := ⟨_, rfl⟩
    obtain ⟨g8, hg8⟩ : ∃ g8, w7.heap.size = g8 := ⟨_, rfl⟩
    rw [hw8] at hal hbr hbf ⊢
    rw [hg8] at hbr hbf ⊢
    have HBr := hide hbr
    have HBf := hide hbf
    have Hal := hide hal
    clear hw8 hg8 hal hbr hbf
    have HP8 := hide (HP7.out.no hbig Hal.out)
    obtain ⟨y0, y1, y2, y3, y4, y5, y6, y7, y8, y9, y10, y11, y12⟩ := Blk.rules HBr.out
    obtain ⟨q0, q1, -⟩ := Blk.two_ HBf.out
    by_cases hc : code = 0
    · subst hc
      obtain ⟨h1, h2, h3, h4⟩ := Hok.out rfl
      have hp8 := h4.low Hal.out (fun _ h => h.elim) (Nat.le_refl _)
      have hby : bytes (textR r2) = s := by
        apply bytes_eq
        rw [← h2, bytes_list]
      have HW2 := hide (rwrite_ok r2 A2 c2 w8 h1 (ok_fit h1) HP8.out.e (hp8.more Hal.out.size))
      rw [hby] at HW2
      clear h1 h2 h3 h4 hp8 hby Hok Hno
      go_wp2_with (go_at_call 14; refine HW2.out.mono ?_; rintro e w9 ⟨rfl, ho9⟩; have Ho9 := hide ho9; clear ho9)
      go_ret
      exact ⟨rfl, HP8.out.o.trans Ho9.out⟩
    · have hz := (Hno.out hc).1
      subst hz
      have dc : (code != 0) = true := by simpa using hc
      have dz : zeroR.pieces.length = 0 := rfl
      clear Hok Hno
      go_wp2_with fail
      go_ret
      exact ⟨rfl, HP8.out.o⟩
  · have HW := hide (rwrite_no r A cp w3 hr Hf.out (HP3.out.p.more HP3.out.o.size))
    clear hr
    go_upto_region 9 with (go_at_call 14; refine HW.out.mono ?_; rintro e w4 ⟨rfl, hl4⟩; have HP4 := hide (HP3.out.no hbig (Only.of_below hl4 (fun k h1 h2 => by omega))); clear hl4)
    clear y0 y1 y2 y3 y4 y5 y6 y7 y8 y9 y10 y11 y12 HP3 HW
    have HRA := hide (rread_any s w4 hs HP4.out.e)
    go_upto_region 10 with (go_at_call 13; refine HRA.out.mono ?_; rintro e w7 ⟨r2, A2, c2, code, at2, rfl, hok, hno, ho7⟩; have Hok := hide hok; have Hno := hide hno; have HP7 := hide (HP4.out.no hbig ho7); have Ho7 := hide ho7; clear hok hno ho7; unfold ruC)
    have hal : Only (fun _ => False) w7 ((w7.alloc (.cells #[.int .i64 r2.start.w, .int .i64 r2.start.h, .string r2.start.cells, .int .i64 r2.start.turn, .string r2.start.h0, .string r2.start.h1, .slice A2 r2.pieces.length c2, .bool r2.drops, .int .u8 (r2.lose : Int), .int .i64 r2.line, .int .u8 (r2.reach : Int), .bool r2.stuck, .int .i64 r2.plies] 38)).alloc (.cells #[.int .i64 code, .int .i64 at2] 29)) := ((Only.refl _ w7).alloc _).alloc _
    have hbr := (Blk.new w7 38 #[.int .i64 r2.start.w, .int .i64 r2.start.h, .string r2.start.cells, .int .i64 r2.start.turn, .string r2.start.h0, .string r2.start.h1, .slice A2 r2.pieces.length c2, .bool r2.drops, .int .u8 (r2.lose : Int), .int .i64 r2.line, .int .u8 (r2.reach : Int), .bool r2.stuck, .int .i64 r2.plies]).alloc (.cells #[.int .i64 code, .int .i64 at2] 29)
    have hbf := Blk.new (w7.alloc (.cells #[.int .i64 r2.start.w, .int .i64 r2.start.h, .string r2.start.cells, .int .i64 r2.start.turn, .string r2.start.h0, .string r2.start.h1, .slice A2 r2.pieces.length c2, .bool r2.drops, .int .u8 (r2.lose : Int), .int .i64 r2.line, .int .u8 (r2.reach : Int), .bool r2.stuck, .int .i64 r2.plies] 38)) 29 #[.int .i64 code, .int .i64 at2]
    rw [World.size_alloc] at hbf
    obtain ⟨w8, hw8⟩ : ∃ w8, (w7.alloc (.cells #[.int .i64 r2.start.w, .int .i64 r2.start.h, .string r2.start.cells, .int .i64 r2.start.turn, .string r2.start.h0, .string r2.start.h1, .slice A2 r2.pieces.length c2, .bool r2.drops, .int .u8 (r2.lose : Int), .int .i64 r2.line, .int .u8 (r2.reach : Int), .bool r2.stuck, .int .i64 r2.plies] 38)).alloc (.cells #[.int .i64 code, .int .i64 at2] 29) = w8 := ⟨_, rfl⟩
    obtain ⟨g8, hg8⟩ : ∃ g8, w7.heap.size = g8 := ⟨_, rfl⟩
    rw [hw8] at hal hbr hbf ⊢
    rw [hg8] at hbr hbf ⊢
    have HBr := hide hbr
    have HBf := hide hbf
    have Hal := hide hal
    clear hw8 hg8 hal hbr hbf
    have HP8 := hide (HP7.out.no hbig Hal.out)
    obtain ⟨y0, y1, y2, y3, y4, y5, y6, y7, y8, y9, y10, y11, y12⟩ := Blk.rules HBr.out
    obtain ⟨q0, q1, -⟩ := Blk.two_ HBf.out
    by_cases hc : code = 0
    · subst hc
      obtain ⟨h1, h2, h3, h4⟩ := Hok.out rfl
      have hp8 := h4.low Hal.out (fun _ h => h.elim) (Nat.le_refl _)
      have hby : bytes (textR r2) = s := by
        apply bytes_eq
        rw [← h2, bytes_list]
      have HW2 := hide (rwrite_ok r2 A2 c2 w8 h1 (ok_fit h1) HP8.out.e (hp8.more Hal.out.size))
      rw [hby] at HW2
      clear h1 h2 h3 h4 hp8 hby Hok Hno
      go_wp2_with (go_at_call 14; refine HW2.out.mono ?_; rintro e w9 ⟨rfl, ho9⟩; have Ho9 := hide ho9; clear ho9)
      go_ret
      exact ⟨rfl, HP8.out.o.trans Ho9.out⟩
    · have hz := (Hno.out hc).1
      subst hz
      have dc : (code != 0) = true := by simpa using hc
      have dz : zeroR.pieces.length = 0 := rfl
      clear Hok Hno
      go_wp2_with fail
      go_ret
      exact ⟨rfl, HP8.out.o⟩
end Go.Proofs.YtcdfeaodfmfdnaaDoor
