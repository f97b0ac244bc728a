/- rules.Read: walked. -/
import Derived.Test.YtcdfeaodfmfdnaaGreatDoorRxLineM
import Derived.Test.YtcdfeaodfmfdnaaGreatDoorRtLineKit
namespace Go.Proofs.YtcdfeaodfmfdnaaGreatDoor
open Go.RowKit

/-- what Read answers -/
def ReadOut (s : ByteArray) (W : World) (e : Ending) (w' : World) : Prop :=
  ∃ (r : RulesD) (A : Option Addr) (c : Nat) (code at_ : Int), e = .returned (.tuple #[.agg (ruC r (.slice A r.pieces.length c)), .agg #[.int .i64 code, .int .i64 at_]]) ∧
    (code = 0 → RulesOk r ∧ s.data.toList = textR r ∧ r.pieces.length ≤ c ∧ PiecesAt w' w'.heap.size A r.pieces) ∧ (code ≠ 0 → r = zeroR ∧ ¬ ∃ r0, RulesOk r0 ∧ s.data.toList = textR r0) ∧ ReadQ s.data.toList code at_ r ∧ Only (fun _ => False) W w'
set_option maxHeartbeats 16000000 in
set_option maxRecDepth 100000 in
theorem rread_any (s : ByteArray) (W : World) (hs : s.size < 4294967281) (he : Env W) :
    Calls Tryz.prog 10 #[.string s] W (ReadOut s W) := by
  have hbig := he.big
  go_enter Tryz.func10, Tryz.ntmps10
  go_upto_region 1 with (fail)
  have hp0 : PR W ((W.alloc (.cells #[.int .i64 0, .int .i64 0, .string ⟨#[]⟩, .int .i64 0, .string ⟨#[]⟩, .string ⟨#[]⟩, .slice none 0 0, .bool false, .int .u8 0, .int .i64 0, .int .u8 0, .bool false, .int .i64 0] 27)).alloc (.cells #[.int .i64 0, .int .i64 0] 32)) := by
    have ho : Only (fun _ => False) W ((W.alloc (.cells #[.int .i64 0, .int .i64 0, .string ⟨#[]⟩, .int .i64 0, .string ⟨#[]⟩, .string ⟨#[]⟩, .slice none 0 0, .bool false, .int .u8 0, .int .i64 0, .int .u8 0, .bool false, .int .i64 0] 27)).alloc (.cells #[.int .i64 0, .int .i64 0] 32)) := ((Only.refl _ W).alloc _).alloc _
    exact ⟨ho, he.no ho, (Blk.new W _ _).alloc _, (by have h := Blk.new (W.alloc (.cells #[.int .i64 0, .int .i64 0, .string ⟨#[]⟩, .int .i64 0, .string ⟨#[]⟩, .string ⟨#[]⟩, .slice none 0 0, .bool false, .int .u8 0, .int .i64 0, .int .u8 0, .bool false, .int .i64 0] 27)) 32 #[.int .i64 0, .int .i64 0]; rw [World.size_alloc] at h; exact h), (by simp only [World.size_alloc]; omega)⟩
  have HP1 := hide hp0
  obtain ⟨w1, hw1⟩ : ∃ w1, ((W.alloc (.cells #[.int .i64 0, .int .i64 0, .string ⟨#[]⟩, .int .i64 0, .string ⟨#[]⟩, .string ⟨#[]⟩, .slice none 0 0, .bool false, .int .u8 0, .int .i64 0, .int .u8 0, .bool false, .int .i64 0] 27)).alloc (.cells #[.int .i64 0, .int .i64 0] 32)) = w1 := ⟨_, rfl⟩
  rw [hw1] at HP1 ⊢
  clear hw1 hp0 he
  have H1 := hide (split_any 10 s w1 hs HP1.out.e.m)
  go_upto_region 2 with (go_at_call 33; refine H1.out.mono ?_; rintro e w2 ⟨nl, hnl, rfl, hl, ho2, hsz2⟩; have Hnl := hide hnl; have Hsz2 := hide hsz2; clear hnl hsz2)
  have hll : ∀ a ∈ splitL 10 s.data.toList, a.length ≤ s.size := fun a ha => by have := splitL_mem ha; simpa using this
  have hlc : (splitL 10 s.data.toList).length ≤ s.size + 1 := by have := splitL_count 10 s.data.toList; simpa using this
  obtain ⟨L, hL⟩ : ∃ L, splitL 10 s.data.toList = L := ⟨_, rfl⟩
  have hne : L ≠ [] := by rw [← hL]; exact splitL_ne _ _
  have HLe := hide hL
  rw [hL] at Hnl hl hll hlc
  have hnlb : nl ≤ s.size + 1 := by rw [Hnl.out]; exact hlc
  have hnl0 : 0 < nl := by rw [Hnl.out]; exact List.length_pos_iff.2 hne
  have HP2 := hide (HP1.out.no hbig ho2)
  have HL2 := hide hl
  have Hll := hide hll
  obtain ⟨gl, hgl⟩ : ∃ gl, w1.heap.size = gl := ⟨_, rfl⟩
  have hglW : W.heap.size + 2 ≤ gl := by rw [← hgl]; exact HP1.out.sz
  rw [hgl] at HL2 Hsz2 ⊢
  clear hL hne hl hll hlc ho2 hgl HP1 H1
  go_upto_region 3 with (fail)
  have hal : Only (fun _ => False) w2 (w2.alloc (.cells #[.int .i64 0, .int .i64 0, .string ⟨#[]⟩, .int .i64 0, .string ⟨#[]⟩, .string ⟨#[]⟩, .slice none 0 0, .bool false, .int .u8 0, .int .i64 0, .int .u8 0, .bool false, .int .i64 0] 27)) := (Only.refl _ w2).alloc _
  have HP3 := hide (HP2.out.no hbig hal)
  have HL3 := hide (show RowsAt (w2.alloc (.cells #[.int .i64 0, .int .i64 0, .string ⟨#[]⟩, .int .i64 0, .string ⟨#[]⟩, .string ⟨#[]⟩, .slice none 0 0, .bool false, .int .u8 0, .int .i64 0, .int .u8 0, .bool false, .int .i64 0] 27)) gl L from Blk.only HL2.out hal (fun h => h))
  have HR3 := hide (show Ru (w2.alloc (.cells #[.int .i64 0, .int .i64 0, .string ⟨#[]⟩, .int .i64 0, .string ⟨#[]⟩, .string ⟨#[]⟩, .slice none 0 0, .bool false, .int .u8 0, .int .i64 0, .int .u8 0, .bool false, .int .i64 0] 27)) w2.heap.size (w2.heap.size + 1) zeroR from ⟨.slice none 0 0, [], Blk.new w2 27 #[.int .i64 0, .int .i64 0, .string ⟨#[]⟩, .int .i64 0, .string ⟨#[]⟩, .string ⟨#[]⟩, .slice none 0 0, .bool false, .int .u8 0, .int .i64 0, .int .u8 0, .bool false, .int .i64 0], PcsOwn.nil _ _ _⟩)
  have hsz3 : (w2.alloc (.cells #[.int .i64 0, .int .i64 0, .string ⟨#[]⟩, .int .i64 0, .string ⟨#[]⟩, .string ⟨#[]⟩, .slice none 0 0, .bool false, .int .u8 0, .int .i64 0, .int .u8 0, .bool false, .int .i64 0] 27)).heap.size = w2.heap.size + 1 := World.size_alloc _ _
  obtain ⟨b, hb⟩ : ∃ b, w2.heap.size = b := ⟨_, rfl⟩
  obtain ⟨w3, hw3⟩ : ∃ w3, w2.alloc (.cells #[.int .i64 0, .int .i64 0, .string ⟨#[]⟩, .int .i64 0, .string ⟨#[]⟩, .string ⟨#[]⟩, .slice none 0 0, .bool false, .int .u8 0, .int .i64 0, .int .u8 0, .bool false, .int .i64 0] 27) = w3 := ⟨_, rfl⟩
  rw [hw3] at HP3 HL3 HR3 hsz3 ⊢
  rw [hb] at HR3 hsz3 Hsz2 ⊢
  have Hsz3 := hide hsz3
  have hglb : gl < b := by rw [Hsz2.out]; omega
  clear hal hb hw3 hsz3 HP2 HL2
  go_wp2_with fail
  go_loopw [6, 17] (fun lv iv wr => ∃ (i n : Nat) (r : RulesD), i < nl ∧ n ≤ 8 ∧ lv = .int .i64 ((n : Int) - 1) ∧ iv = .int .i64 (i : Int) ∧ PR W wr ∧ RowsAt wr gl L ∧ Ru wr b (b + 1) r ∧ b + 1 ≤ wr.heap.size ∧ RdR (L.take i) n r ∧ r.pieces.length ≤ i) (fun _ iv _ => nl - (intOf iv).toNat)
  case atStart => exact ⟨0, 0, zeroR, by omega, by omega, by simp, rfl, HP3.out, HL3.out, HR3.out, by rw [Hsz3.out]; omega, RdR.nil, by simp [zeroR]⟩
  case round =>
    rename World => wr
    obtain ⟨i, n, r, hil, hn8, rfl, rfl, hp, hl, hr, hsz, hrd, hpc⟩ := hrel
    have HP := hide hp
    have HL := hide hl
    have HR := hide hr
    have Hrd := hide hrd
    clear hp hr hrd HP3 HL3 HR3
    · have hiL : i < L.length := by rw [← Hnl.out]; exact hil
      have d1 : decide ((i : Int) < (nl : Int)) = true := by simp; omega
      have d1n : decide (i < nl) = true := by simp; omega
      have i0 : (0 : Int) ≤ (i : Int) := by omega
      have i1 : (i : Int) < (nl : Int) := by omega
      have cx := hl.cellD hiL
      obtain ⟨sx, hsx⟩ : ∃ sx, bytes (L.getD i []) = sx := ⟨_, rfl⟩
      have Hsx := hide (show sx.data.toList = L.getD i [] from by rw [← hsx, bytes_list])
      have hsxl : sx.size < 4294967281 := by rw [← hsx, size_bytes]; have := Hll.out _ (getD_mem hiL); omega
      rw [hsx] at cx
      clear hsx hl
      go_upto_region 7 with (fail)
      obtain ⟨be, hbe⟩ : ∃ be, sx.toList.isEmpty = be := ⟨_, rfl⟩
      obtain ⟨bi, hbi⟩ : ∃ bi, ((i : Int) == (nl : Int) - 1) = bi := ⟨_, rfl⟩
      have Hbe := hide (show be = true ↔ L.getD i [] = [] from by rw [← hbe, Go.ByteArray.toList_eq, Hsx.out]; exact List.isEmpty_iff)
      have Hbi := hide (show bi = true ↔ i + 1 = nl from by rw [← hbi, beq_iff_eq]; omega)
      have tw : IntKind.i64.wrap ((nl : Int) - 1) = (nl : Int) - 1 := IntWalk.i64_in _ (by omega)
      go_cut [17, 30] from 17 to 83 (fun iv x w' => iv = .int .i64 (i : Int) ∧ x = .bool (be && bi) ∧ w' = wr)
      case first =>
        cases be
        · go_wp2_with fail
          go_meet
          case rel => exact ⟨rfl, rfl, rfl⟩
        · go_wp2_with fail
          go_meet
          case rel => exact ⟨rfl, by rw [Bool.true_and], rfl⟩
      case rest =>
        obtain ⟨rfl, rfl, rfl⟩ := hcut
        rename World => wr
        clear hbe
        cases hbb : (be && bi)
        case true =>
          have hbb2 := hbb
          rw [Bool.and_eq_true] at hbb2
          have e1 := Hbi.out.1 hbb2.2
          have e2 := Hbe.out.1 hbb2.1
          have hLL : splitL 10 s.data.toList = L.take i ++ [[]] := by
            rw [HLe.out]
            have hg : L[i] = [] := by rw [← e2, List.getD, List.getElem?_eq_getElem hiL]; rfl
            have h3 : L = L.take i ++ L.drop i := (List.take_append_drop i L).symm
            rw [List.drop_eq_getElem_cons hiL, hg, List.drop_eq_nil_of_le (by rw [← Hnl.out]; omega)] at h3
            exact h3
          have HE := hide (end_says hLL Hrd.out)
          have HeL := hide (show i + 1 = L.length from by rw [← Hnl.out]; exact e1)
          have HeX := hide e2
          have Hll2 : ∀ a ∈ L.take i, a.length ≤ s.size := fun a ha => Hll.out a (List.mem_of_mem_take ha)
          have hbrf := fun (e : n = 8) => rd_fit (N := s.size) (e ▸ Hrd.out) Hll2 (by omega) (by omega)
          have Hbrf := hide hbrf
          have Hhb := hide hbb
          clear hbb2 e1 e2 hLL Hll2 hbrf hbb hbi cx Hsx
          by_cases hn : n = 8
          · have HEn := hide (HE.out.2 hn)
            have hfit := Hbrf.out hn
            subst hn
            have d14 : decide (((8 : Nat) : Int) - 1 < 7) = false := by decide
            go_upto_region 16 with (fail)
            have HR1 := HR.out
            obtain ⟨sv, hs0, hB0, hP0⟩ := HR1
            obtain ⟨A, c, rfl, hpc2, hP1⟩ := hP0.pieces
            obtain ⟨y0, y1, y2, y3, y4, y5, y6, y7, y8, y9, y10, y11, y12⟩ := Blk.rules hB0
            have HC := hide (check_any r A c wr hfit hP1)
            have Hf := hide hfit
            clear hB0 hP0 hP1 hfit
            by_cases hok : RulesOk r
            · rw [show codeN (rulesB r) = 0 from by rw [rulesB_true.2 hok]; rfl] at HC
              have HQ := hide (show ReadQ s.data.toList 0 0 r from by unfold ReadQ; rw [HLe.out]; exact ⟨i, 8, r, hiL, Hrd.out, .ok HeL.out HeX.out rfl hok⟩)
              have Hok := hide hok
              clear hok
              go_upto_region 18 with (go_at_call 14; refine HC.out.mono ?_; rintro e w7 ⟨rfl, hlat⟩; have Hlat := hide hlat; clear hlat)
              have ho7 : Only (fun _ => False) wr w7 := Only.of_below Hlat.out (fun k h1 h2 => by omega)
              have HP7 := hide (HP.out.no hbig ho7)
              obtain ⟨sv7, hs7, hB7, hP7⟩ := HR.out.no ho7 (Nat.lt_succ_self b)
              obtain ⟨A7, c7, rfl, hpc7, -⟩ := hP7.pieces
              obtain ⟨x0, x1, x2, x3, x4, x5, x6, x7, x8, x9, x10, x11, x12⟩ := Blk.rules hB7
              have HPC := hide hP7
              clear hB7 hP7 ho7
              refine wp_region_lit ?_
              refine wpList_plain rfl (fun K hK => ?_)
              go_simp
              refine hK _ _ ?_
              clear hK K
              refine wpList_plain rfl (fun K hK => ?_)
              go_simp
              refine hK _ _ ?_
              clear hK K
              refine wpList_plain rfl (fun K hK => ?_)
              refine wp_store_row 27 (.tmp 2) (.tmp 96) rfl W.heap.size #[.int .i64 r.start.w, .int .i64 r.start.h, .string r.start.cells, .int .i64 r.start.turn, .string r.start.h0, .string r.start.h1, .slice A7 r.pieces.length c7, .bool r.drops, .int .u8 (r.lose : Int), .int .i64 r.line, .int .u8 (r.reach : Int), .bool r.stuck, .int .i64 r.plies] rfl rfl 27 _ HP7.out.z (by kernel_rfl) (by simp) (by simp [Value.oneCell']) ?_
              refine hK _ _ ?_
              clear hK K
              have HP4 := hide (setRow_blk2 (vs := #[.int .i64 r.start.w, .int .i64 r.start.h, .string r.start.cells, .int .i64 r.start.turn, .string r.start.h0, .string r.start.h1, .slice A7 r.pieces.length c7, .bool r.drops, .int .u8 (r.lose : Int), .int .i64 r.line, .int .u8 (r.reach : Int), .bool r.stuck, .int .i64 r.plies]) HP7.out.z)
              have HQ4 := hide (setRow_far (g := W.heap.size) (vs := #[.int .i64 r.start.w, .int .i64 r.start.h, .string r.start.cells, .int .i64 r.start.turn, .string r.start.h0, .string r.start.h1, .slice A7 r.pieces.length c7, .bool r.drops, .int .u8 (r.lose : Int), .int .i64 r.line, .int .u8 (r.reach : Int), .bool r.stuck, .int .i64 r.plies]) HP7.out.f (show W.heap.size + 1 ≠ W.heap.size by omega))
              have HO4 := hide (only_setRow (vs := #[.int .i64 r.start.w, .int .i64 r.start.h, .string r.start.cells, .int .i64 r.start.turn, .string r.start.h0, .string r.start.h1, .slice A7 r.pieces.length c7, .bool r.drops, .int .u8 (r.lose : Int), .int .i64 r.line, .int .u8 (r.reach : Int), .bool r.stuck, .int .i64 r.plies]) HP7.out.o (Nat.le_refl _))
              refine wpList_plain rfl (fun K hK => ?_)
              refine wp_store_row 32 (.tmp 3) (.tmp 97) rfl (W.heap.size + 1) #[.int .i64 0, .int .i64 0] rfl rfl 32 _ HQ4.out (by kernel_rfl) (by simp) (by simp [Value.oneCell']) ?_
              refine hK _ _ ?_
              clear hK K
              have hO5 := only_setRow (g := W.heap.size + 1) (vs := #[.int .i64 0, .int .i64 0]) HO4.out (by omega)
              have hP5 := setRow_far (g := W.heap.size + 1) (vs := #[.int .i64 0, .int .i64 0]) HP4.out (show W.heap.size ≠ W.heap.size + 1 by omega)
              have hQ5 := setRow_blk2 (vs := #[.int .i64 0, .int .i64 0]) HQ4.out
              obtain ⟨y0, y1, y2, y3, y4, y5, y6, y7, y8, y9, y10, y11, y12⟩ := Blk.rules hP5
              obtain ⟨q0, q1, -⟩ := hQ5.two_
              go_wp2_with fail
              refine bodyPost_ret (v := .tuple #[.agg #[.int .i64 r.start.w, .int .i64 r.start.h, .string r.start.cells, .int .i64 r.start.turn, .string r.start.h0, .string r.start.h1, .slice A7 r.pieces.length c7, .bool r.drops, .int .u8 (r.lose : Int), .int .i64 r.line, .int .u8 (r.reach : Int), .bool r.stuck, .int .i64 r.plies], .agg #[.int .i64 0, .int .i64 0]]) (by simp [results, Tryz.results10, go_sem, y0, y1, y2, y3, y4, y5, y6, y7, y8, y9, y10, y11, y12, q0, q1]) rfl ⟨r, A7, c7, 0, 0, rfl, fun _ => ⟨Hok.out, HEn.out, hpc7, ((HPC.out.row (g := W.heap.size) (by omega) (Nat.lt_succ_self b)).row (g := W.heap.size + 1) (by omega) (Nat.lt_succ_self b)).piecesAt⟩, fun h => absurd rfl h, HQ.out, hO5⟩
            · rw [show codeN (rulesB r) = 1 from by rw [rulesB_false.2 hok]; rfl] at HC
              have HQ := hide (show ReadQ s.data.toList 1 (-1) zeroR from by unfold ReadQ; rw [HLe.out]; exact ⟨i, 8, r, hiL, Hrd.out, .arg HeL.out HeX.out rfl hok⟩)
              have HNO := hide (show ¬ ∃ r0, RulesOk r0 ∧ s.data.toList = textR r0 from fun ⟨r0, h0, e⟩ => hok (by rw [(HE.out.1 r0 h0 e).2]; exact h0))
              clear hok
              go_upto_region 17 with (go_at_call 14; refine HC.out.mono ?_; rintro e w7 ⟨rfl, hlat⟩; have Hlat := hide hlat; clear hlat)
              have HP7 := hide (HP.out.no hbig (Only.of_below Hlat.out (fun k h1 h2 => by omega)))
              refine wp_region_lit ?_
              refine wpList_plain rfl (fun K hK => ?_)
              go_simp
              refine hK _ _ ?_
              clear hK K
              refine wpList_plain rfl (fun K hK => ?_)
              go_simp
              refine hK _ _ ?_
              clear hK K
              refine wpList_plain rfl (fun K hK => ?_)
              refine wp_store_row 27 (.tmp 2) (.tmp 94) rfl W.heap.size #[.int .i64 0, .int .i64 0, .string ⟨#[]⟩, .int .i64 0, .string ⟨#[]⟩, .string ⟨#[]⟩, .slice none 0 0, .bool false, .int .u8 0, .int .i64 0, .int .u8 0, .bool false, .int .i64 0] rfl rfl 27 _ HP7.out.z (by kernel_rfl) (by simp) (by simp [Value.oneCell']) ?_
              refine hK _ _ ?_
              clear hK K
              have HP4 := hide (setRow_blk2 (vs := #[.int .i64 0, .int .i64 0, .string ⟨#[]⟩, .int .i64 0, .string ⟨#[]⟩, .string ⟨#[]⟩, .slice none 0 0, .bool false, .int .u8 0, .int .i64 0, .int .u8 0, .bool false, .int .i64 0]) HP7.out.z)
              have HQ4 := hide (setRow_far (g := W.heap.size) (vs := #[.int .i64 0, .int .i64 0, .string ⟨#[]⟩, .int .i64 0, .string ⟨#[]⟩, .string ⟨#[]⟩, .slice none 0 0, .bool false, .int .u8 0, .int .i64 0, .int .u8 0, .bool false, .int .i64 0]) HP7.out.f (show W.heap.size + 1 ≠ W.heap.size by omega))
              have HO4 := hide (only_setRow (vs := #[.int .i64 0, .int .i64 0, .string ⟨#[]⟩, .int .i64 0, .string ⟨#[]⟩, .string ⟨#[]⟩, .slice none 0 0, .bool false, .int .u8 0, .int .i64 0, .int .u8 0, .bool false, .int .i64 0]) HP7.out.o (Nat.le_refl _))
              refine wpList_plain rfl (fun K hK => ?_)
              refine wp_store_row 32 (.tmp 3) (.tmp 95) rfl (W.heap.size + 1) #[.int .i64 1, .int .i64 (-1)] rfl rfl 32 _ HQ4.out (by kernel_rfl) (by simp) (by simp [Value.oneCell']) ?_
              refine hK _ _ ?_
              clear hK K
              have hO5 := only_setRow (g := W.heap.size + 1) (vs := #[.int .i64 1, .int .i64 (-1)]) HO4.out (by omega)
              have hP5 := setRow_far (g := W.heap.size + 1) (vs := #[.int .i64 1, .int .i64 (-1)]) HP4.out (show W.heap.size ≠ W.heap.size + 1 by omega)
              have hQ5 := setRow_blk2 (vs := #[.int .i64 1, .int .i64 (-1)]) HQ4.out
              obtain ⟨y0, y1, y2, y3, y4, y5, y6, y7, y8, y9, y10, y11, y12⟩ := Blk.rules hP5
              obtain ⟨q0, q1, -⟩ := hQ5.two_
              go_wp2_with fail
              refine bodyPost_ret (v := .tuple #[.agg #[.int .i64 0, .int .i64 0, .string ⟨#[]⟩, .int .i64 0, .string ⟨#[]⟩, .string ⟨#[]⟩, .slice none 0 0, .bool false, .int .u8 0, .int .i64 0, .int .u8 0, .bool false, .int .i64 0], .agg #[.int .i64 1, .int .i64 (-1)]]) (by simp [results, Tryz.results10, go_sem, y0, y1, y2, y3, y4, y5, y6, y7, y8, y9, y10, y11, y12, q0, q1]) rfl ⟨zeroR, none, 0, 1, -1, rfl, fun h => (by cases h), fun _ => ⟨rfl, HNO.out⟩, HQ.out, hO5⟩
          · have d14 : decide ((n : Int) - 1 < 7) = true := by simp; omega
            have HNO := hide (show ¬ ∃ r0, RulesOk r0 ∧ s.data.toList = textR r0 from fun ⟨r0, h0, e⟩ => hn (HE.out.1 r0 h0 e).1)
            have HQ := hide (show ReadQ s.data.toList 3 ((nl : Int) - 1) zeroR from by
              unfold ReadQ
              rw [HLe.out, show (nl : Int) - 1 = (i : Int) from by have := HeL.out; have := Hnl.out; omega]
              exact ⟨i, n, r, hiL, Hrd.out, .cut HeL.out (.inr hn)⟩)
            clear hn
            go_upto_region 15 with (fail)
            refine wp_region_lit ?_
            refine wpList_plain rfl (fun K hK => ?_)
            go_simp
            refine hK _ _ ?_
            clear hK K
            refine wpList_plain rfl (fun K hK => ?_)
            go_simp
            refine hK _ _ ?_
            clear hK K
            refine wpList_plain rfl (fun K hK => ?_)
            go_simp
            refine hK _ _ ?_
            clear hK K
            refine wpList_plain rfl (fun K hK => ?_)
            go_simp
            refine hK _ _ ?_
            clear hK K
            refine wpList_plain rfl (fun K hK => ?_)
            go_simp
            refine hK _ _ ?_
            clear hK K
            refine wpList_plain rfl (fun K hK => ?_)
            refine wp_store_row 27 (.tmp 2) (.tmp 86) rfl W.heap.size #[.int .i64 0, .int .i64 0, .string ⟨#[]⟩, .int .i64 0, .string ⟨#[]⟩, .string ⟨#[]⟩, .slice none 0 0, .bool false, .int .u8 0, .int .i64 0, .int .u8 0, .bool false, .int .i64 0] rfl rfl 27 _ HP.out.z (by kernel_rfl) (by simp) (by simp [Value.oneCell']) ?_
            refine hK _ _ ?_
            clear hK K
            have HP4 := hide (setRow_blk2 (vs := #[.int .i64 0, .int .i64 0, .string ⟨#[]⟩, .int .i64 0, .string ⟨#[]⟩, .string ⟨#[]⟩, .slice none 0 0, .bool false, .int .u8 0, .int .i64 0, .int .u8 0, .bool false, .int .i64 0]) HP.out.z)
            have HQ4 := hide (setRow_far (g := W.heap.size) (vs := #[.int .i64 0, .int .i64 0, .string ⟨#[]⟩, .int .i64 0, .string ⟨#[]⟩, .string ⟨#[]⟩, .slice none 0 0, .bool false, .int .u8 0, .int .i64 0, .int .u8 0, .bool false, .int .i64 0]) HP.out.f (show W.heap.size + 1 ≠ W.heap.size by omega))
            have HO4 := hide (only_setRow (vs := #[.int .i64 0, .int .i64 0, .string ⟨#[]⟩, .int .i64 0, .string ⟨#[]⟩, .string ⟨#[]⟩, .slice none 0 0, .bool false, .int .u8 0, .int .i64 0, .int .u8 0, .bool false, .int .i64 0]) HP.out.o (Nat.le_refl _))
            refine wpList_plain rfl (fun K hK => ?_)
            refine wp_store_row 32 (.tmp 3) (.tmp 90) rfl (W.heap.size + 1) #[.int .i64 3, .int .i64 ((nl : Int) - 1)] rfl rfl 32 _ HQ4.out (by kernel_rfl) (by simp) (by simp [Value.oneCell']) ?_
            refine hK _ _ ?_
            clear hK K
            have hO5 := only_setRow (g := W.heap.size + 1) (vs := #[.int .i64 3, .int .i64 ((nl : Int) - 1)]) HO4.out (by omega)
            have hP5 := setRow_far (g := W.heap.size + 1) (vs := #[.int .i64 3, .int .i64 ((nl : Int) - 1)]) HP4.out (show W.heap.size ≠ W.heap.size + 1 by omega)
            have hQ5 := setRow_blk2 (vs := #[.int .i64 3, .int .i64 ((nl : Int) - 1)]) HQ4.out
            obtain ⟨y0, y1, y2, y3, y4, y5, y6, y7, y8, y9, y10, y11, y12⟩ := Blk.rules hP5
            obtain ⟨q0, q1, -⟩ := hQ5.two_
            go_wp2_with fail
            refine bodyPost_ret (v := .tuple #[.agg #[.int .i64 0, .int .i64 0, .string ⟨#[]⟩, .int .i64 0, .string ⟨#[]⟩, .string ⟨#[]⟩, .slice none 0 0, .bool false, .int .u8 0, .int .i64 0, .int .u8 0, .bool false, .int .i64 0], .agg #[.int .i64 3, .int .i64 ((nl : Int) - 1)]]) (by simp [results, Tryz.results10, go_sem, y0, y1, y2, y3, y4, y5, y6, y7, y8, y9, y10, y11, y12, q0, q1]) rfl ⟨zeroR, none, 0, 3, (nl : Int) - 1, rfl, fun h => (by cases h), fun _ => ⟨rfl, HNO.out⟩, HQ.out, hO5⟩
        case false =>
          obtain ⟨m, hm⟩ := HP.out.e.m
          have HC := hide (Tryz.strings_Cut sx ⟨#[32]⟩ m wr hsxl hm)
          rw [show (⟨#[32]⟩ : ByteArray).data.toList = [32] from rfl] at HC
          obtain ⟨sw, hsw⟩ : ∃ sw : ByteArray, ⟨(Lib.cut sx.data.toList [32]).1.toArray⟩ = sw := ⟨_, rfl⟩
          have Hsw := hide (show sw.data.toList = (Lib.cut sx.data.toList [32]).1 from by rw [← hsw])
          rw [hsw] at HC
          clear hm hsw cx
          go_upto_region 9 with (go_at_call 34; refine HC.out.mono ?_; rintro e w4 ⟨rfl, n', rfl⟩)
          have HOr := hide (order_any sw (wr.drewN n'))
          go_upto_region 10 with (go_at_call 35; refine HOr.out.mono ?_; rintro e w5 ⟨rfl, ho5⟩)
          have hon : Only (fun _ => False) wr w5 := ((Only.refl _ wr).drewN n').trans ho5
          have HP5 := hide (HP.out.no hbig hon)
          have HL5 := hide (show RowsAt w5 gl L from Blk.only HL.out hon (fun h => h))
          have HR5 := hide (HR.out.no hon (Nat.lt_succ_self b))
          have hsz5 : b + 1 ≤ w5.heap.size := Nat.le_trans hsz hon.size
          have HLN := hide (line_any b (b + 1) sx r w5 hsxl HP5.out.e HR5.out (Nat.lt_succ_self b) hsz5 (by omega))
          have hk7 := ordI_le sw.data.toList
          obtain ⟨k, hk⟩ : ∃ k, ordI sw.data.toList = k := ⟨_, rfl⟩
          have Hk := hide hk
          rw [hk] at hk7 ⊢
          have Hbb := hide hbb
          clear hk hon ho5 HP HL HR HC HOr hsz hbb
          obtain ⟨b1, h1⟩ : ∃ b1, decide (k < (n : Int) - 1) = b1 := ⟨_, rfl⟩
          obtain ⟨b2, h2⟩ : ∃ b2, (k == (n : Int) - 1) = b2 := ⟨_, rfl⟩
          obtain ⟨b3, h3⟩ : ∃ b3, (k != 1) = b3 := ⟨_, rfl⟩
          obtain ⟨b4, h4⟩ : ∃ b4, decide (0 < k) = b4 := ⟨_, rfl⟩
          obtain ⟨b5, h5⟩ : ∃ b5, decide ((n : Int) - 1 < 0) = b5 := ⟨_, rfl⟩
          obtain ⟨b6, h6⟩ : ∃ b6, decide (1 < k) = b6 := ⟨_, rfl⟩
          obtain ⟨b7, h7⟩ : ∃ b7, decide ((n : Int) - 1 < 1) = b7 := ⟨_, rfl⟩
          have HOB := hide (show ordBad k n = (b1 || (b2 && b3) || (b4 && b5) || (b6 && b7)) from by
            rw [← h1, ← h2, ← h3, ← h4, ← h5, ← h6, ← h7]
            unfold ordBad
            rw [show (k == (n : Int) - 1) = decide (k = (n : Int) - 1) from rfl, show (k != 1) = decide (k ≠ 1) from by rw [Bool.eq_iff_iff]; simp])
          go_cut [17, 78] from 17 to 83 (fun iv x w' => iv = .int .i64 (i : Int) ∧ ∃ bad : Bool, x = .bool bad ∧ (bad = true → i + 1 < nl → ordBad k n = true ∨ ∀ k r', ¬ LineK k sx.data.toList r r') ∧ (bad = false → i + 1 ≠ nl ∧ ordBad k n = false ∧ ∃ k' r', LineK k' sx.data.toList r r' ∧ Ru w' b (b + 1) r') ∧ Only (fun x => x = b ∨ b + 1 ≤ x) w5 w')
          case first =>
            cases bi
            case true =>
              go_wp2_with fail
              go_meet
              case rel => exact ⟨rfl, true, rfl, fun _ h => absurd h (by have := Hbi.out.1 (by simp); omega), fun h => (by cases h), (Only.refl (fun x => x = b ∨ b + 1 ≤ x) w5)⟩
            case false =>
              cases b1
              case true =>
                go_wp2_with fail
                go_meet
                case rel => exact ⟨rfl, true, rfl, fun _ h => .inl (by rw [HOB.out]; simp), fun h => (by cases h), (Only.refl (fun x => x = b ∨ b + 1 ≤ x) w5)⟩
              case false =>
                cases b2
                case true =>
                  cases b3
                  case true =>
                    go_wp2_with fail
                    go_meet
                    case rel => exact ⟨rfl, true, rfl, fun _ h => .inl (by rw [HOB.out]; simp), fun h => (by cases h), (Only.refl (fun x => x = b ∨ b + 1 ≤ x) w5)⟩
                  case false =>
                    cases b4
                    case true =>
                      cases b5
                      case true =>
                        go_wp2_with fail
                        go_meet
                        case rel => exact ⟨rfl, true, rfl, fun _ h => .inl (by rw [HOB.out]; simp), fun h => (by cases h), (Only.refl (fun x => x = b ∨ b + 1 ≤ x) w5)⟩
                      case false =>
                        cases b6
                        case true =>
                          cases b7
                          case true =>
                            go_wp2_with fail
                            go_meet
                            case rel => exact ⟨rfl, true, rfl, fun _ h => .inl (by rw [HOB.out]; simp), fun h => (by cases h), (Only.refl (fun x => x = b ∨ b + 1 ≤ x) w5)⟩
                          case false =>
                            go_wp2_with (go_at_call 36; refine HLN.out.mono ?_; rintro e w6 ⟨ok, rfl, g1, g2, g3⟩; have Hg := hide (And.intro g1 (And.intro g2 g3)); clear g1 g2 g3)
                            go_meet
                            case rel => exact ⟨rfl, !ok, rfl, fun h _ => .inr (fun k r' hl => by rw [Hg.out.2.1 k r' hl] at h; cases h), fun h => ⟨fun e => (by have := Hbi.out.2 e; cases this), by rw [HOB.out]; rfl, Hg.out.1 (by simpa using h)⟩, Hg.out.2.2⟩
                        case false =>
                          go_wp2_with (go_at_call 36; refine HLN.out.mono ?_; rintro e w6 ⟨ok, rfl, g1, g2, g3⟩; have Hg := hide (And.intro g1 (And.intro g2 g3)); clear g1 g2 g3)
                          go_meet
                          case rel => exact ⟨rfl, !ok, rfl, fun h _ => .inr (fun k r' hl => by rw [Hg.out.2.1 k r' hl] at h; cases h), fun h => ⟨fun e => (by have := Hbi.out.2 e; cases this), by rw [HOB.out]; rfl, Hg.out.1 (by simpa using h)⟩, Hg.out.2.2⟩
                    case false =>
                      cases b6
                      case true =>
                        cases b7
                        case true =>
                          go_wp2_with fail
                          go_meet
                          case rel => exact ⟨rfl, true, rfl, fun _ h => .inl (by rw [HOB.out]; simp), fun h => (by cases h), (Only.refl (fun x => x = b ∨ b + 1 ≤ x) w5)⟩
                        case false =>
                          go_wp2_with (go_at_call 36; refine HLN.out.mono ?_; rintro e w6 ⟨ok, rfl, g1, g2, g3⟩; have Hg := hide (And.intro g1 (And.intro g2 g3)); clear g1 g2 g3)
                          go_meet
                          case rel => exact ⟨rfl, !ok, rfl, fun h _ => .inr (fun k r' hl => by rw [Hg.out.2.1 k r' hl] at h; cases h), fun h => ⟨fun e => (by have := Hbi.out.2 e; cases this), by rw [HOB.out]; rfl, Hg.out.1 (by simpa using h)⟩, Hg.out.2.2⟩
                      case false =>
                        go_wp2_with (go_at_call 36; refine HLN.out.mono ?_; rintro e w6 ⟨ok, rfl, g1, g2, g3⟩; have Hg := hide (And.intro g1 (And.intro g2 g3)); clear g1 g2 g3)
                        go_meet
                        case rel => exact ⟨rfl, !ok, rfl, fun h _ => .inr (fun k r' hl => by rw [Hg.out.2.1 k r' hl] at h; cases h), fun h => ⟨fun e => (by have := Hbi.out.2 e; cases this), by rw [HOB.out]; rfl, Hg.out.1 (by simpa using h)⟩, Hg.out.2.2⟩
                case false =>
                  cases b4
                  case true =>
                    cases b5
                    case true =>
                      go_wp2_with fail
                      go_meet
                      case rel => exact ⟨rfl, true, rfl, fun _ h => .inl (by rw [HOB.out]; simp), fun h => (by cases h), (Only.refl (fun x => x = b ∨ b + 1 ≤ x) w5)⟩
                    case false =>
                      cases b6
                      case true =>
                        cases b7
                        case true =>
                          go_wp2_with fail
                          go_meet
                          case rel => exact ⟨rfl, true, rfl, fun _ h => .inl (by rw [HOB.out]; simp), fun h => (by cases h), (Only.refl (fun x => x = b ∨ b + 1 ≤ x) w5)⟩
                        case false =>
                          go_wp2_with (go_at_call 36; refine HLN.out.mono ?_; rintro e w6 ⟨ok, rfl, g1, g2, g3⟩; have Hg := hide (And.intro g1 (And.intro g2 g3)); clear g1 g2 g3)
                          go_meet
                          case rel => exact ⟨rfl, !ok, rfl, fun h _ => .inr (fun k r' hl => by rw [Hg.out.2.1 k r' hl] at h; cases h), fun h => ⟨fun e => (by have := Hbi.out.2 e; cases this), by rw [HOB.out]; rfl, Hg.out.1 (by simpa using h)⟩, Hg.out.2.2⟩
                      case false =>
                        go_wp2_with (go_at_call 36; refine HLN.out.mono ?_; rintro e w6 ⟨ok, rfl, g1, g2, g3⟩; have Hg := hide (And.intro g1 (And.intro g2 g3)); clear g1 g2 g3)
                        go_meet
                        case rel => exact ⟨rfl, !ok, rfl, fun h _ => .inr (fun k r' hl => by rw [Hg.out.2.1 k r' hl] at h; cases h), fun h => ⟨fun e => (by have := Hbi.out.2 e; cases this), by rw [HOB.out]; rfl, Hg.out.1 (by simpa using h)⟩, Hg.out.2.2⟩
                  case false =>
                    cases b6
                    case true =>
                      cases b7
                      case true =>
                        go_wp2_with fail
                        go_meet
                        case rel => exact ⟨rfl, true, rfl, fun _ h => .inl (by rw [HOB.out]; simp), fun h => (by cases h), (Only.refl (fun x => x = b ∨ b + 1 ≤ x) w5)⟩
                      case false =>
                        go_wp2_with (go_at_call 36; refine HLN.out.mono ?_; rintro e w6 ⟨ok, rfl, g1, g2, g3⟩; have Hg := hide (And.intro g1 (And.intro g2 g3)); clear g1 g2 g3)
                        go_meet
                        case rel => exact ⟨rfl, !ok, rfl, fun h _ => .inr (fun k r' hl => by rw [Hg.out.2.1 k r' hl] at h; cases h), fun h => ⟨fun e => (by have := Hbi.out.2 e; cases this), by rw [HOB.out]; rfl, Hg.out.1 (by simpa using h)⟩, Hg.out.2.2⟩
                    case false =>
                      go_wp2_with (go_at_call 36; refine HLN.out.mono ?_; rintro e w6 ⟨ok, rfl, g1, g2, g3⟩; have Hg := hide (And.intro g1 (And.intro g2 g3)); clear g1 g2 g3)
                      go_meet
                      case rel => exact ⟨rfl, !ok, rfl, fun h _ => .inr (fun k r' hl => by rw [Hg.out.2.1 k r' hl] at h; cases h), fun h => ⟨fun e => (by have := Hbi.out.2 e; cases this), by rw [HOB.out]; rfl, Hg.out.1 (by simpa using h)⟩, Hg.out.2.2⟩
          case rest =>
            obtain ⟨rfl, bad, rfl, hbad, hgood, ho6⟩ := hcut
            rename World => w6
            have HP6 := hide (HP5.out.step hbig ho6 (fun x hx => by omega))
            have HL6 := hide (show RowsAt w6 gl L from Blk.only HL5.out ho6 (by omega))
            have hsz6 : b + 1 ≤ w6.heap.size := Nat.le_trans hsz5 ho6.size
            have Hbad := hide hbad
            have Hgood := hide hgood
            clear hbad hgood ho6 HP5 HL5 HR5 HLN h1 h2 h3 h4 h5 h6 h7 HOB hbi hsz5
            cases bad
            case true =>
              have HNO := hide (show ¬ ∃ r0, RulesOk r0 ∧ s.data.toList = textR r0 from stop_no (i := i) (n := n) (r := r) (by rw [HLe.out]; exact hiL) (by rw [HLe.out]; exact Hrd.out) (fun e he => by
                rw [HLe.out] at e he
                have e1 := Hbi.out.2 (by rw [Hnl.out]; exact e)
                have e2 := Hbe.out.2 he
                have := Hbb.out
                rw [e1, e2] at this
                cases this) (fun e => by
                rw [HLe.out] at e ⊢
                rw [← Hsx.out, ← Hsw.out, Hk.out]
                exact Hbad.out rfl (by rw [Hnl.out]; exact e)))
              have HQ := hide (show ReadQ s.data.toList 3 (i : Int) zeroR from by
                unfold ReadQ
                rw [HLe.out]
                refine ⟨i, n, r, hiL, Hrd.out, ?_⟩
                by_cases hlast : i + 1 = L.length
                · refine .cut hlast (.inl (fun he => ?_))
                  have e1 := Hbi.out.2 (by rw [Hnl.out]; exact hlast)
                  have e2 := Hbe.out.2 he
                  have := Hbb.out
                  rw [e1, e2] at this
                  cases this
                · refine .bad (by omega) (stop_bad ?_)
                  rw [← Hsx.out, ← Hsw.out, Hk.out]
                  exact Hbad.out rfl (by rw [Hnl.out]; omega))
              go_upto_region 11 with (fail)
              refine wp_region_lit ?_
              refine wpList_plain rfl (fun K hK => ?_)
              go_simp
              refine hK _ _ ?_
              clear hK K
              refine wpList_plain rfl (fun K hK => ?_)
              go_simp
              refine hK _ _ ?_
              clear hK K
              refine wpList_plain rfl (fun K hK => ?_)
              go_simp
              refine hK _ _ ?_
              clear hK K
              refine wpList_plain rfl (fun K hK => ?_)
              refine wp_store_row 27 (.tmp 2) (.tmp 79) rfl W.heap.size #[.int .i64 0, .int .i64 0, .string ⟨#[]⟩, .int .i64 0, .string ⟨#[]⟩, .string ⟨#[]⟩, .slice none 0 0, .bool false, .int .u8 0, .int .i64 0, .int .u8 0, .bool false, .int .i64 0] rfl rfl 27 _ HP6.out.z (by kernel_rfl) (by simp) (by simp [Value.oneCell']) ?_
              refine hK _ _ ?_
              clear hK K
              have HP4 := hide (setRow_blk2 (vs := #[.int .i64 0, .int .i64 0, .string ⟨#[]⟩, .int .i64 0, .string ⟨#[]⟩, .string ⟨#[]⟩, .slice none 0 0, .bool false, .int .u8 0, .int .i64 0, .int .u8 0, .bool false, .int .i64 0]) HP6.out.z)
              have HQ4 := hide (setRow_far (g := W.heap.size) (vs := #[.int .i64 0, .int .i64 0, .string ⟨#[]⟩, .int .i64 0, .string ⟨#[]⟩, .string ⟨#[]⟩, .slice none 0 0, .bool false, .int .u8 0, .int .i64 0, .int .u8 0, .bool false, .int .i64 0]) HP6.out.f (show W.heap.size + 1 ≠ W.heap.size by omega))
              have HO4 := hide (only_setRow (vs := #[.int .i64 0, .int .i64 0, .string ⟨#[]⟩, .int .i64 0, .string ⟨#[]⟩, .string ⟨#[]⟩, .slice none 0 0, .bool false, .int .u8 0, .int .i64 0, .int .u8 0, .bool false, .int .i64 0]) HP6.out.o (Nat.le_refl _))
              refine wpList_plain rfl (fun K hK => ?_)
              refine wp_store_row 32 (.tmp 3) (.tmp 81) rfl (W.heap.size + 1) #[.int .i64 3, .int .i64 (i : Int)] rfl rfl 32 _ HQ4.out (by kernel_rfl) (by simp) (by simp [Value.oneCell']) ?_
              refine hK _ _ ?_
              clear hK K
              have hO5 := only_setRow (g := W.heap.size + 1) (vs := #[.int .i64 3, .int .i64 (i : Int)]) HO4.out (by omega)
              have hP5 := setRow_far (g := W.heap.size + 1) (vs := #[.int .i64 3, .int .i64 (i : Int)]) HP4.out (show W.heap.size ≠ W.heap.size + 1 by omega)
              have hQ5 := setRow_blk2 (vs := #[.int .i64 3, .int .i64 (i : Int)]) HQ4.out
              obtain ⟨y0, y1, y2, y3, y4, y5, y6, y7, y8, y9, y10, y11, y12⟩ := Blk.rules hP5
              obtain ⟨q0, q1, -⟩ := hQ5.two_
              go_wp2_with fail
              refine bodyPost_ret (v := .tuple #[.agg #[.int .i64 0, .int .i64 0, .string ⟨#[]⟩, .int .i64 0, .string ⟨#[]⟩, .string ⟨#[]⟩, .slice none 0 0, .bool false, .int .u8 0, .int .i64 0, .int .u8 0, .bool false, .int .i64 0], .agg #[.int .i64 3, .int .i64 (i : Int)]]) (by simp [results, Tryz.results10, go_sem, y0, y1, y2, y3, y4, y5, y6, y7, y8, y9, y10, y11, y12, q0, q1]) rfl ⟨zeroR, none, 0, 3, (i : Int), rfl, fun h => (by cases h), fun _ => ⟨rfl, HNO.out⟩, HQ.out, hO5⟩
            case false =>
              obtain ⟨hne', hord, k', r', hlk, hru⟩ := Hgood.out rfl
              have hkk : k = (k' : Int) := by
                obtain ⟨k7', hw⟩ := line_word hlk
                rw [← Hk.out, Hsw.out, hw, ordI_word k7']
              obtain ⟨k2, hk2, _, hor⟩ := ord_fine hord hk7
              have hk3 : k2 = k' := by omega
              subst hk3
              have HRd' := hide (show RdR (L.take (i + 1)) (k2 + 1) r' from by
                rw [List.take_succ_eq_append_getElem hiL]
                refine RdR.step Hrd.out hor ?_
                have : L[i] = sx.data.toList := by rw [Hsx.out, List.getD, List.getElem?_eq_getElem hiL]; rfl
                rw [this]; exact hlk)
              have HRu := hide hru
              have hpl := line_len hlk
              have hk8 := (line_word hlk).1
              have Hkk := hide hkk
              have Hne := hide hne'
              clear hne' hord hlk hru hk2 hor hkk
              go_wp2_with fail
              go_roundw
              case rel => exact ⟨i + 1, k2 + 1, r', (by have := Hne.out; omega), by omega, by rw [Hkk.out]; go_num, by go_num, HP6.out, HL6.out, HRu.out, hsz6, HRd'.out, by omega⟩
              case measure => simp [intOf]; omega
end Go.Proofs.YtcdfeaodfmfdnaaGreatDoor
