/- gameref.RulesOf: walked. gameref.line: its contract, out of its answers. rules.Write at wrong rules: walked. gameref.SameRules at equal rules: walked. gamekeep.RulesBack: what its walk leans on: a right text is read as what it says. gamelaw.RulesTexts: walked. gameref.RulesTexts: the contract of line, and the answer. -/
import Derived.Test.YtcdfeaodfmfdnaaGreatDoorRtLineKit
import Derived.Test.YtcdfeaodfmfdnaaGreatDoorRtLineM
import Derived.Test.YtcdfeaodfmfdnaaGreatDoorRuRules2
import Derived.Test.YtcdfeaodfmfdnaaGreatDoorRxLineM
import Derived.BigRegion
import Derived.Test.YtcdfeaodfmfdnaaGreatDoorRxRead
import Derived.Test.YtcdfeaodfmfdnaaGreatDoorRxWriteM
namespace Go.Proofs.YtcdfeaodfmfdnaaGreatDoor
open Go.RowKit

theorem drop_get {L : List (List UInt8)} {i : Nat} {x : List UInt8} {t : List (List UInt8)} (h : L.drop i = x :: t) : L.getD i [] = x ∧ i + 1 + t.length = L.length ∧ L.drop (i + 1) = t := by
  have hl := congrArg List.length h
  simp only [List.length_drop, List.length_cons] at hl
  have h0 := congrArg (·[0]?) h
  simp only [List.getElem?_drop, List.getElem?_cons_zero, Nat.add_zero] at h0
  refine ⟨by rw [List.getD, h0]; rfl, by omega, ?_⟩
  have := congrArg (List.drop 1) h
  rw [List.drop_drop] at this
  simpa [Nat.add_comm] using this
/-- what the document's line answers -/
def LineDoc (s : ByteArray) (b B : Nat) (r : RulesD) (W : World) (e : Ending) (w' : World) : Prop :=
  ∃ rank : Int, e = .returned (.int .i64 rank) ∧ ((rank = -1 ∧ ∀ k r', ¬ LineK k s.data.toList r r') ∨ ∃ (k : Nat) (r' : RulesD), rank = k ∧ LineK k s.data.toList r r' ∧ Ru w' b B r') ∧ Only (fun x => x = b ∨ B ≤ x) W w'
theorem zero_pieces (w : World) (B : Nat) : PiecesAt w B none zeroR.pieces := ⟨[], rfl, Cells.nil_, fun k hk => by simp [zeroR] at hk⟩
/-- the contract of line -/
def DLine : Prop := ∀ (b B : Nat) (s : ByteArray) (r : RulesD) (W : World), s.size < 4294967281 → Env W → Ru W b B r → b < B → B ≤ W.heap.size → r.pieces.length ≤ 10000000000 →
  Calls Tryz.prog 38 #[.pointer (some ⟨b, 0, none⟩), .string s] W (LineDoc s b B r W)
/-- what RulesOf answers -/
def OfOut (s : ByteArray) (W : World) (e : Ending) (w' : World) : Prop :=
  ∃ (r : RulesD) (A : Option Addr) (c : Nat) (code at_ : Int), e = .returned (.tuple #[.agg (ruC r (.slice A r.pieces.length c)), .agg #[.int .i64 code, .int .i64 at_]]) ∧ ReadQ s.data.toList code at_ r ∧ (code = 0 → RulesOk r) ∧ (code ≠ 0 → r = zeroR) ∧ PiecesAt w' w'.heap.size A r.pieces ∧ Only (fun _ => False) W w'
set_option maxHeartbeats 16000000 in
set_option maxRecDepth 100000 in
theorem rof_any (HD : DLine) (s : ByteArray) (W : World) (hs : s.size < 4294967281) (he : Env W) :
    Calls Tryz.prog 11 #[.string s] W (OfOut s W) := by
  have hbig := he.big
  go_enter Tryz.func11, Tryz.ntmps11
  go_upto_region 1 with (fail)
  have hp0 : PR W ((W.alloc (.cells #[.int .i64 0, .int .i64 0, .string ⟨#[]⟩, .int .i64 0, .string ⟨#[]⟩, .string ⟨#[]⟩, .slice none 0 0, .bool false, .int .u8 0, .int .i64 0, .int .u8 0, .bool false, .int .i64 0] 27)).alloc (.cells #[.int .i64 0, .int .i64 0] 32)) := by
    have ho : Only (fun _ => False) W ((W.alloc (.cells #[.int .i64 0, .int .i64 0, .string ⟨#[]⟩, .int .i64 0, .string ⟨#[]⟩, .string ⟨#[]⟩, .slice none 0 0, .bool false, .int .u8 0, .int .i64 0, .int .u8 0, .bool false, .int .i64 0] 27)).alloc (.cells #[.int .i64 0, .int .i64 0] 32)) := ((Only.refl _ W).alloc _).alloc _
    exact ⟨ho, he.no ho, (Blk.new W _ _).alloc _, (by have h := Blk.new (W.alloc (.cells #[.int .i64 0, .int .i64 0, .string ⟨#[]⟩, .int .i64 0, .string ⟨#[]⟩, .string ⟨#[]⟩, .slice none 0 0, .bool false, .int .u8 0, .int .i64 0, .int .u8 0, .bool false, .int .i64 0] 27)) 32 #[.int .i64 0, .int .i64 0]; rw [World.size_alloc] at h; exact h), (by simp only [World.size_alloc]; omega)⟩
  have HP1 := hide hp0
  obtain ⟨w1, hw1⟩ : ∃ w1, ((W.alloc (.cells #[.int .i64 0, .int .i64 0, .string ⟨#[]⟩, .int .i64 0, .string ⟨#[]⟩, .string ⟨#[]⟩, .slice none 0 0, .bool false, .int .u8 0, .int .i64 0, .int .u8 0, .bool false, .int .i64 0] 27)).alloc (.cells #[.int .i64 0, .int .i64 0] 32)) = w1 := ⟨_, rfl⟩
  rw [hw1] at HP1 ⊢
  clear hw1 hp0 he
  go_upto_region 2 with (fail)
  have hal : Only (fun _ => False) w1 (w1.alloc (.cells #[.int .i64 0, .int .i64 0, .string ⟨#[]⟩, .int .i64 0, .string ⟨#[]⟩, .string ⟨#[]⟩, .slice none 0 0, .bool false, .int .u8 0, .int .i64 0, .int .u8 0, .bool false, .int .i64 0] 27)) := (Only.refl _ w1).alloc _
  have HP3 := hide (HP1.out.no hbig hal)
  have HR3 := hide (show Ru (w1.alloc (.cells #[.int .i64 0, .int .i64 0, .string ⟨#[]⟩, .int .i64 0, .string ⟨#[]⟩, .string ⟨#[]⟩, .slice none 0 0, .bool false, .int .u8 0, .int .i64 0, .int .u8 0, .bool false, .int .i64 0] 27)) w1.heap.size (w1.heap.size + 1) zeroR from ⟨.slice none 0 0, [], Blk.new w1 27 #[.int .i64 0, .int .i64 0, .string ⟨#[]⟩, .int .i64 0, .string ⟨#[]⟩, .string ⟨#[]⟩, .slice none 0 0, .bool false, .int .u8 0, .int .i64 0, .int .u8 0, .bool false, .int .i64 0], PcsOwn.nil _ _ _⟩)
  have Hsz3 := hide (show w1.heap.size + 1 ≤ (w1.alloc (.cells #[.int .i64 0, .int .i64 0, .string ⟨#[]⟩, .int .i64 0, .string ⟨#[]⟩, .string ⟨#[]⟩, .slice none 0 0, .bool false, .int .u8 0, .int .i64 0, .int .u8 0, .bool false, .int .i64 0] 27)).heap.size from by rw [World.size_alloc]; omega)
  have hbW : W.heap.size + 2 ≤ w1.heap.size := HP1.out.sz
  obtain ⟨b, hb⟩ : ∃ b, w1.heap.size = b := ⟨_, rfl⟩
  obtain ⟨w3, hw3⟩ : ∃ w3, w1.alloc (.cells #[.int .i64 0, .int .i64 0, .string ⟨#[]⟩, .int .i64 0, .string ⟨#[]⟩, .string ⟨#[]⟩, .slice none 0 0, .bool false, .int .u8 0, .int .i64 0, .int .u8 0, .bool false, .int .i64 0] 27) = w3 := ⟨_, rfl⟩
  rw [hw3] at HP3 HR3 Hsz3 ⊢
  rw [hb] at HR3 Hsz3 hbW ⊢
  clear hal hb hw3 HP1
  obtain ⟨LL, hLL⟩ : ∃ LL, splitL 10 s.data.toList = LL := ⟨_, rfl⟩
  have HLL := hide hLL
  have hLne : 0 < LL.length := by rw [← hLL]; exact List.length_pos_iff.2 (splitL_ne _ _)
  have hLlen : LL.length ≤ s.size + 1 := by
    have := splitL_count 10 s.data.toList
    rw [hLL] at this
    simpa using this
  clear hLL
  go_wp2_with fail
  go_loopw [0, 5, 6] (fun sv lv nv wr => ∃ (i n : Nat) (r : RulesD) (rest : ByteArray), sv = .string rest ∧ lv = .int .i64 ((n : Int) - 1) ∧ nv = .int .i64 (i : Int) ∧ i < LL.length ∧ n ≤ 8 ∧ rest.size ≤ s.size ∧ LL.drop i = splitL 10 rest.data.toList ∧ RdR (LL.take i) n r ∧ PR W wr ∧ Ru wr b (b + 1) r ∧ b + 1 ≤ wr.heap.size ∧ r.pieces.length ≤ i) (fun sv _ _ _ => match sv with | .string x => x.size | _ => 0)
  case atStart => exact ⟨0, 0, zeroR, s, rfl, by simp, rfl, hLne, by omega, Nat.le_refl _, by rw [List.drop_zero]; exact HLL.out.symm, RdR.nil, HP3.out, HR3.out, Hsz3.out, by simp [zeroR]⟩
  case round =>
    rename World => wr
    clear HP3 HR3 Hsz3
    obtain ⟨i, n, r, rest, rfl, rfl, rfl, hiL, hn8, hrs, hdr, hrd, hp, hr, hsz, hpc⟩ := hrel
    have HP := hide hp
    have HR := hide hr
    have Hrd := hide hrd
    have Hdr := hide hdr
    clear hp hr hrd hdr
    have hll : rest.data.toList.length = rest.size := by simp
    obtain ⟨be, hbe⟩ : ∃ be, rest.toList.isEmpty = be := ⟨_, rfl⟩
    have Hbe := hide (show be = true ↔ rest.data.toList = [] from by rw [← hbe, Go.ByteArray.toList_eq]; exact List.isEmpty_iff)
    cases be
    case true =>
      have hel := Hbe.out.1 rfl
      have hd2 := Hdr.out
      rw [hel, show splitL 10 [] = [[]] from rfl] at hd2
      obtain ⟨g1, g2, -⟩ := drop_get hd2
      have e1 : i + 1 = LL.length := by simpa using g2
      have He1 := hide e1
      have Hg1 := hide g1
      clear hel hd2 g1 g2
      by_cases hn : n = 8
      · subst hn
        have hfit := rd_fit (N := s.size) Hrd.out (fun a ha => by
          have h1 : a ∈ splitL 10 s.data.toList := by rw [HLL.out]; exact List.mem_of_mem_take ha
          have h2 := splitL_mem h1
          have h3 : s.data.toList.length = s.size := by simp
          omega) (by omega) (by omega)
        have d14 : ((((8 : Nat) : Int) - 1) != 7) = false := by decide
        go_upto_region 16 with (fail)
        obtain ⟨sv, hs0, hB0, hP0⟩ := HR.out
        obtain ⟨A, c, rfl, hpc2, hP1⟩ := hP0.pieces
        obtain ⟨y0, y1, y2, y3, y4, y5, y6, y7, y8, y9, y10, y11, y12⟩ := Blk.rules hB0
        have HC := hide (rules_any r A c wr hfit hP1)
        clear hB0 hP0 hP1 hfit
        by_cases hok : RulesOk r
        · rw [rulesB_true.2 hok] at HC
          have HQ := hide (show ReadQ s.data.toList 0 0 r from by unfold ReadQ; rw [HLL.out]; exact ⟨i, 8, r, hiL, Hrd.out, .ok He1.out Hg1.out rfl hok⟩)
          have Hok := hide hok
          clear hok
          go_upto_region 18 with (go_at_call 13; refine HC.out.mono ?_; rintro e w7 ⟨rfl, hlat⟩; have Hlat := hide hlat; clear hlat)
          have ho7 : Only (fun _ => False) wr w7 := Only.of_below Hlat.out (fun k h1 h2 => by omega)
          have HP7 := hide (HP.out.no hbig ho7)
          obtain ⟨sv7, hs7, hB7, hP7⟩ := HR.out.no ho7 (Nat.lt_succ_self b)
          obtain ⟨A7, c7, rfl, hpc7, -⟩ := hP7.pieces
          obtain ⟨x0, x1, x2, x3, x4, x5, x6, x7, x8, x9, x10, x11, x12⟩ := Blk.rules hB7
          have HPC := hide hP7
          clear hB7 hP7 ho7
          refine wp_region_lit ?_
          refine wpList_plain rfl (fun K hK => ?_)
          go_simp
          refine hK _ _ ?_
          clear hK K
          refine wpList_plain rfl (fun K hK => ?_)
          go_simp
          refine hK _ _ ?_
          clear hK K
          refine wpList_plain rfl (fun K hK => ?_)
          refine wp_store_row 27 (.tmp 2) (.tmp 74) rfl W.heap.size #[.int .i64 r.start.w, .int .i64 r.start.h, .string r.start.cells, .int .i64 r.start.turn, .string r.start.h0, .string r.start.h1, .slice A7 r.pieces.length c7, .bool r.drops, .int .u8 (r.lose : Int), .int .i64 r.line, .int .u8 (r.reach : Int), .bool r.stuck, .int .i64 r.plies] rfl rfl 27 _ HP7.out.z (by kernel_rfl) (by simp) (by simp [Value.oneCell']) ?_
          refine hK _ _ ?_
          clear hK K
          have HP4 := hide (setRow_blk2 (vs := #[.int .i64 r.start.w, .int .i64 r.start.h, .string r.start.cells, .int .i64 r.start.turn, .string r.start.h0, .string r.start.h1, .slice A7 r.pieces.length c7, .bool r.drops, .int .u8 (r.lose : Int), .int .i64 r.line, .int .u8 (r.reach : Int), .bool r.stuck, .int .i64 r.plies]) HP7.out.z)
          have HQ4 := hide (setRow_far (g := W.heap.size) (vs := #[.int .i64 r.start.w, .int .i64 r.start.h, .string r.start.cells, .int .i64 r.start.turn, .string r.start.h0, .string r.start.h1, .slice A7 r.pieces.length c7, .bool r.drops, .int .u8 (r.lose : Int), .int .i64 r.line, .int .u8 (r.reach : Int), .bool r.stuck, .int .i64 r.plies]) HP7.out.f (show W.heap.size + 1 ≠ W.heap.size by omega))
          have HO4 := hide (only_setRow (vs := #[.int .i64 r.start.w, .int .i64 r.start.h, .string r.start.cells, .int .i64 r.start.turn, .string r.start.h0, .string r.start.h1, .slice A7 r.pieces.length c7, .bool r.drops, .int .u8 (r.lose : Int), .int .i64 r.line, .int .u8 (r.reach : Int), .bool r.stuck, .int .i64 r.plies]) HP7.out.o (Nat.le_refl _))
          refine wpList_plain rfl (fun K hK => ?_)
          refine wp_store_row 32 (.tmp 3) (.tmp 75) rfl (W.heap.size + 1) #[.int .i64 0, .int .i64 0] rfl rfl 32 _ HQ4.out (by kernel_rfl) (by simp) (by simp [Value.oneCell']) ?_
          refine hK _ _ ?_
          clear hK K
          have hO5 := only_setRow (g := W.heap.size + 1) (vs := #[.int .i64 0, .int .i64 0]) HO4.out (by omega)
          have hP5 := setRow_far (g := W.heap.size + 1) (vs := #[.int .i64 0, .int .i64 0]) HP4.out (show W.heap.size ≠ W.heap.size + 1 by omega)
          have hQ5 := setRow_blk2 (vs := #[.int .i64 0, .int .i64 0]) HQ4.out
          obtain ⟨y0, y1, y2, y3, y4, y5, y6, y7, y8, y9, y10, y11, y12⟩ := Blk.rules hP5
          obtain ⟨q0, q1, -⟩ := hQ5.two_
          go_wp2_with fail
          refine bodyPost_ret (v := .tuple #[.agg #[.int .i64 r.start.w, .int .i64 r.start.h, .string r.start.cells, .int .i64 r.start.turn, .string r.start.h0, .string r.start.h1, .slice A7 r.pieces.length c7, .bool r.drops, .int .u8 (r.lose : Int), .int .i64 r.line, .int .u8 (r.reach : Int), .bool r.stuck, .int .i64 r.plies], .agg #[.int .i64 0, .int .i64 0]]) (by simp [results, Tryz.results11, go_sem, y0, y1, y2, y3, y4, y5, y6, y7, y8, y9, y10, y11, y12, q0, q1]) rfl ⟨r, A7, c7, 0, 0, rfl, HQ.out, fun _ => Hok.out, fun h => absurd rfl h, ((HPC.out.row (g := W.heap.size) (by omega) (Nat.lt_succ_self b)).row (g := W.heap.size + 1) (by omega) (Nat.lt_succ_self b)).piecesAt, hO5⟩
        · rw [rulesB_false.2 hok] at HC
          have HQ := hide (show ReadQ s.data.toList 1 (-1) zeroR from by unfold ReadQ; rw [HLL.out]; exact ⟨i, 8, r, hiL, Hrd.out, .arg He1.out Hg1.out rfl hok⟩)
          clear hok
          go_upto_region 17 with (go_at_call 13; refine HC.out.mono ?_; rintro e w7 ⟨rfl, hlat⟩; have Hlat := hide hlat; clear hlat)
          have HP7 := hide (HP.out.no hbig (Only.of_below Hlat.out (fun k h1 h2 => by omega)))
          refine wp_region_lit ?_
          refine wpList_plain rfl (fun K hK => ?_)
          go_simp
          refine hK _ _ ?_
          clear hK K
          refine wpList_plain rfl (fun K hK => ?_)
          go_simp
          refine hK _ _ ?_
          clear hK K
          refine wpList_plain rfl (fun K hK => ?_)
          refine wp_store_row 27 (.tmp 2) (.tmp 72) rfl W.heap.size #[.int .i64 0, .int .i64 0, .string ⟨#[]⟩, .int .i64 0, .string ⟨#[]⟩, .string ⟨#[]⟩, .slice none 0 0, .bool false, .int .u8 0, .int .i64 0, .int .u8 0, .bool false, .int .i64 0] rfl rfl 27 _ HP7.out.z (by kernel_rfl) (by simp) (by simp [Value.oneCell']) ?_
          refine hK _ _ ?_
          clear hK K
          have HP4 := hide (setRow_blk2 (vs := #[.int .i64 0, .int .i64 0, .string ⟨#[]⟩, .int .i64 0, .string ⟨#[]⟩, .string ⟨#[]⟩, .slice none 0 0, .bool false, .int .u8 0, .int .i64 0, .int .u8 0, .bool false, .int .i64 0]) HP7.out.z)
          have HQ4 := hide (setRow_far (g := W.heap.size) (vs := #[.int .i64 0, .int .i64 0, .string ⟨#[]⟩, .int .i64 0, .string ⟨#[]⟩, .string ⟨#[]⟩, .slice none 0 0, .bool false, .int .u8 0, .int .i64 0, .int .u8 0, .bool false, .int .i64 0]) HP7.out.f (show W.heap.size + 1 ≠ W.heap.size by omega))
          have HO4 := hide (only_setRow (vs := #[.int .i64 0, .int .i64 0, .string ⟨#[]⟩, .int .i64 0, .string ⟨#[]⟩, .string ⟨#[]⟩, .slice none 0 0, .bool false, .int .u8 0, .int .i64 0, .int .u8 0, .bool false, .int .i64 0]) HP7.out.o (Nat.le_refl _))
          refine wpList_plain rfl (fun K hK => ?_)
          refine wp_store_row 32 (.tmp 3) (.tmp 73) rfl (W.heap.size + 1) #[.int .i64 1, .int .i64 (-1)] rfl rfl 32 _ HQ4.out (by kernel_rfl) (by simp) (by simp [Value.oneCell']) ?_
          refine hK _ _ ?_
          clear hK K
          have hO5 := only_setRow (g := W.heap.size + 1) (vs := #[.int .i64 1, .int .i64 (-1)]) HO4.out (by omega)
          have hP5 := setRow_far (g := W.heap.size + 1) (vs := #[.int .i64 1, .int .i64 (-1)]) HP4.out (show W.heap.size ≠ W.heap.size + 1 by omega)
          have hQ5 := setRow_blk2 (vs := #[.int .i64 1, .int .i64 (-1)]) HQ4.out
          obtain ⟨y0, y1, y2, y3, y4, y5, y6, y7, y8, y9, y10, y11, y12⟩ := Blk.rules hP5
          obtain ⟨q0, q1, -⟩ := hQ5.two_
          go_wp2_with fail
          refine bodyPost_ret (v := .tuple #[.agg #[.int .i64 0, .int .i64 0, .string ⟨#[]⟩, .int .i64 0, .string ⟨#[]⟩, .string ⟨#[]⟩, .slice none 0 0, .bool false, .int .u8 0, .int .i64 0, .int .u8 0, .bool false, .int .i64 0], .agg #[.int .i64 1, .int .i64 (-1)]]) (by simp [results, Tryz.results11, go_sem, y0, y1, y2, y3, y4, y5, y6, y7, y8, y9, y10, y11, y12, q0, q1]) rfl ⟨zeroR, none, 0, 1, -1, rfl, HQ.out, fun h => (by cases h), fun _ => rfl, zero_pieces _ _, hO5⟩
      · have d14 : (((n : Int) - 1) != 7) = true := by rw [bne_iff_ne]; omega
        have HQ := hide (show ReadQ s.data.toList 3 (i : Int) zeroR from by unfold ReadQ; rw [HLL.out]; exact ⟨i, n, r, hiL, Hrd.out, .cut He1.out (.inr hn)⟩)
        clear hn
        go_upto_region 15 with (fail)
        refine wp_region_lit ?_
        refine wpList_plain rfl (fun K hK => ?_)
        go_simp
        refine hK _ _ ?_
        clear hK K
        refine wpList_plain rfl (fun K hK => ?_)
        go_simp
        refine hK _ _ ?_
        clear hK K
        refine wpList_plain rfl (fun K hK => ?_)
        go_simp
        refine hK _ _ ?_
        clear hK K
        refine wpList_plain rfl (fun K hK => ?_)
        refine wp_store_row 27 (.tmp 2) (.tmp 66) rfl W.heap.size #[.int .i64 0, .int .i64 0, .string ⟨#[]⟩, .int .i64 0, .string ⟨#[]⟩, .string ⟨#[]⟩, .slice none 0 0, .bool false, .int .u8 0, .int .i64 0, .int .u8 0, .bool false, .int .i64 0] rfl rfl 27 _ HP.out.z (by kernel_rfl) (by simp) (by simp [Value.oneCell']) ?_
        refine hK _ _ ?_
        clear hK K
        have HP4 := hide (setRow_blk2 (vs := #[.int .i64 0, .int .i64 0, .string ⟨#[]⟩, .int .i64 0, .string ⟨#[]⟩, .string ⟨#[]⟩, .slice none 0 0, .bool false, .int .u8 0, .int .i64 0, .int .u8 0, .bool false, .int .i64 0]) HP.out.z)
        have HQ4 := hide (setRow_far (g := W.heap.size) (vs := #[.int .i64 0, .int .i64 0, .string ⟨#[]⟩, .int .i64 0, .string ⟨#[]⟩, .string ⟨#[]⟩, .slice none 0 0, .bool false, .int .u8 0, .int .i64 0, .int .u8 0, .bool false, .int .i64 0]) HP.out.f (show W.heap.size + 1 ≠ W.heap.size by omega))
        have HO4 := hide (only_setRow (vs := #[.int .i64 0, .int .i64 0, .string ⟨#[]⟩, .int .i64 0, .string ⟨#[]⟩, .string ⟨#[]⟩, .slice none 0 0, .bool false, .int .u8 0, .int .i64 0, .int .u8 0, .bool false, .int .i64 0]) HP.out.o (Nat.le_refl _))
        refine wpList_plain rfl (fun K hK => ?_)
        refine wp_store_row 32 (.tmp 3) (.tmp 68) rfl (W.heap.size + 1) #[.int .i64 3, .int .i64 (i : Int)] rfl rfl 32 _ HQ4.out (by kernel_rfl) (by simp) (by simp [Value.oneCell']) ?_
        refine hK _ _ ?_
        clear hK K
        have hO5 := only_setRow (g := W.heap.size + 1) (vs := #[.int .i64 3, .int .i64 (i : Int)]) HO4.out (by omega)
        have hP5 := setRow_far (g := W.heap.size + 1) (vs := #[.int .i64 3, .int .i64 (i : Int)]) HP4.out (show W.heap.size ≠ W.heap.size + 1 by omega)
        have hQ5 := setRow_blk2 (vs := #[.int .i64 3, .int .i64 (i : Int)]) HQ4.out
        obtain ⟨y0, y1, y2, y3, y4, y5, y6, y7, y8, y9, y10, y11, y12⟩ := Blk.rules hP5
        obtain ⟨q0, q1, -⟩ := hQ5.two_
        go_wp2_with fail
        refine bodyPost_ret (v := .tuple #[.agg #[.int .i64 0, .int .i64 0, .string ⟨#[]⟩, .int .i64 0, .string ⟨#[]⟩, .string ⟨#[]⟩, .slice none 0 0, .bool false, .int .u8 0, .int .i64 0, .int .u8 0, .bool false, .int .i64 0], .agg #[.int .i64 3, .int .i64 (i : Int)]]) (by simp [results, Tryz.results11, go_sem, y0, y1, y2, y3, y4, y5, y6, y7, y8, y9, y10, y11, y12, q0, q1]) rfl ⟨zeroR, none, 0, 3, (i : Int), rfl, HQ.out, fun h => (by cases h), fun _ => rfl, zero_pieces _ _, hO5⟩
    case false =>
      have HIB := hide (Tryz.strings_IndexByte rest 10 wr)
      rw [show (10 : Int).toNat.toUInt8 = 10 from rfl] at HIB
      obtain ⟨ki, hki⟩ : ∃ ki, Lib.indexByte rest.data.toList 10 = ki := ⟨_, rfl⟩
      rw [hki] at HIB
      go_upto_region 5 with (go_at_call 37; refine HIB.out.mono ?_; rintro e w4 ⟨rfl, hw4⟩; rw [hw4]; clear hw4)
      clear HIB
      by_cases hk : ki < 0
      · have dk : decide (ki < 0) = true := decide_eq_true hk
        have HQ := hide (show ReadQ s.data.toList 3 (i : Int) zeroR from by
          have h1 := ib_none (l := rest.data.toList) (c := 10) (by rw [hki]; exact hk)
          have h2 := Hdr.out
          rw [splitL_none h1] at h2
          obtain ⟨g1, g2, g3⟩ := drop_get h2
          unfold ReadQ
          rw [HLL.out]
          exact ⟨i, n, r, hiL, Hrd.out, .cut g2 (.inl (by rw [g1]; intro e; have := Hbe.out.2 e; cases this))⟩)
        clear hk hki
        go_upto_region 6 with (fail)
        refine wp_region_lit ?_
        refine wpList_plain rfl (fun K hK => ?_)
        go_simp
        refine hK _ _ ?_
        clear hK K
        refine wpList_plain rfl (fun K hK => ?_)
        go_simp
        refine hK _ _ ?_
        clear hK K
        refine wpList_plain rfl (fun K hK => ?_)
        go_simp
        refine hK _ _ ?_
        clear hK K
        refine wpList_plain rfl (fun K hK => ?_)
        refine wp_store_row 27 (.tmp 2) (.tmp 16) rfl W.heap.size #[.int .i64 0, .int .i64 0, .string ⟨#[]⟩, .int .i64 0, .string ⟨#[]⟩, .string ⟨#[]⟩, .slice none 0 0, .bool false, .int .u8 0, .int .i64 0, .int .u8 0, .bool false, .int .i64 0] rfl rfl 27 _ HP.out.z (by kernel_rfl) (by simp) (by simp [Value.oneCell']) ?_
        refine hK _ _ ?_
        clear hK K
        have HP4 := hide (setRow_blk2 (vs := #[.int .i64 0, .int .i64 0, .string ⟨#[]⟩, .int .i64 0, .string ⟨#[]⟩, .string ⟨#[]⟩, .slice none 0 0, .bool false, .int .u8 0, .int .i64 0, .int .u8 0, .bool false, .int .i64 0]) HP.out.z)
        have HQ4 := hide (setRow_far (g := W.heap.size) (vs := #[.int .i64 0, .int .i64 0, .string ⟨#[]⟩, .int .i64 0, .string ⟨#[]⟩, .string ⟨#[]⟩, .slice none 0 0, .bool false, .int .u8 0, .int .i64 0, .int .u8 0, .bool false, .int .i64 0]) HP.out.f (show W.heap.size + 1 ≠ W.heap.size by omega))
        have HO4 := hide (only_setRow (vs := #[.int .i64 0, .int .i64 0, .string ⟨#[]⟩, .int .i64 0, .string ⟨#[]⟩, .string ⟨#[]⟩, .slice none 0 0, .bool false, .int .u8 0, .int .i64 0, .int .u8 0, .bool false, .int .i64 0]) HP.out.o (Nat.le_refl _))
        refine wpList_plain rfl (fun K hK => ?_)
        refine wp_store_row 32 (.tmp 3) (.tmp 18) rfl (W.heap.size + 1) #[.int .i64 3, .int .i64 (i : Int)] rfl rfl 32 _ HQ4.out (by kernel_rfl) (by simp) (by simp [Value.oneCell']) ?_
        refine hK _ _ ?_
        clear hK K
        have hO5 := only_setRow (g := W.heap.size + 1) (vs := #[.int .i64 3, .int .i64 (i : Int)]) HO4.out (by omega)
        have hP5 := setRow_far (g := W.heap.size + 1) (vs := #[.int .i64 3, .int .i64 (i : Int)]) HP4.out (show W.heap.size ≠ W.heap.size + 1 by omega)
        have hQ5 := setRow_blk2 (vs := #[.int .i64 3, .int .i64 (i : Int)]) HQ4.out
        obtain ⟨y0, y1, y2, y3, y4, y5, y6, y7, y8, y9, y10, y11, y12⟩ := Blk.rules hP5
        obtain ⟨q0, q1, -⟩ := hQ5.two_
        go_wp2_with fail
        refine bodyPost_ret (v := .tuple #[.agg #[.int .i64 0, .int .i64 0, .string ⟨#[]⟩, .int .i64 0, .string ⟨#[]⟩, .string ⟨#[]⟩, .slice none 0 0, .bool false, .int .u8 0, .int .i64 0, .int .u8 0, .bool false, .int .i64 0], .agg #[.int .i64 3, .int .i64 (i : Int)]]) (by simp [results, Tryz.results11, go_sem, y0, y1, y2, y3, y4, y5, y6, y7, y8, y9, y10, y11, y12, q0, q1]) rfl ⟨zeroR, none, 0, 3, (i : Int), rfl, HQ.out, fun h => (by cases h), fun _ => rfl, zero_pieces _ _, hO5⟩
      · obtain ⟨k, rfl⟩ : ∃ k : Nat, ki = (k : Int) := ⟨ki.toNat, by omega⟩
        obtain ⟨i1, i2, i3⟩ := ib_some hki
        have dk : decide ((k : Int) < 0) = false := by simp
        have hkr : k < rest.size := by omega
        have dk0 : (0 : Int) ≤ (k : Int) := by omega
        have dk1 : (k : Int) ≤ (rest.size : Int) := by omega
        have hspl : LL.drop i = rest.data.toList.take k :: splitL 10 (rest.data.toList.drop (k + 1)) := by
          rw [Hdr.out]
          conv => lhs; rw [i2]
          rw [splitL_app i1]
        obtain ⟨g1, g2, g3⟩ := drop_get hspl
        have hsn : 0 < (splitL 10 (rest.data.toList.drop (k + 1))).length := List.length_pos_iff.2 (splitL_ne _ _)
        have Hg1 := hide g1
        have Hg3 := hide g3
        have hi1 : i + 1 < LL.length := by omega
        obtain ⟨sa, hsa⟩ : ∃ sa, rest.extract 0 k = sa := ⟨_, rfl⟩
        have Hsa := hide (show sa.data.toList = rest.data.toList.take k from by rw [← hsa, Go.Lib.extract_data]; simp)
        have hsal : sa.size ≤ rest.size := by
          have h5 : sa.data.toList.length = sa.size := by simp
          rw [← h5, Hsa.out, List.length_take]; omega
        have HLN := hide (HD b (b + 1) sa r wr (by omega) HP.out.e HR.out (Nat.lt_succ_self b) hsz (by omega))
        clear hki i1 i2 i3 hspl g1 g2 g3 hsn hk
        go_upto_region 8 with (go_at_call 38; refine HLN.out.mono ?_; rintro e w5 ⟨rank, rfl, hrk, ho5⟩; have Hrk := hide hrk; have Ho5 := hide ho5; clear hrk ho5)
        have HP5 := hide (HP.out.step hbig Ho5.out (fun x hx => by omega))
        have hsz5 : b + 1 ≤ w5.heap.size := Nat.le_trans hsz Ho5.out.size
        obtain ⟨b1, h1⟩ : ∃ b1, (rank == (n : Int)) = b1 := ⟨_, rfl⟩
        obtain ⟨b2, h2⟩ : ∃ b2, decide (rank ≤ 1) = b2 := ⟨_, rfl⟩
        obtain ⟨b3, h3⟩ : ∃ b3, (rank == 1) = b3 := ⟨_, rfl⟩
        obtain ⟨b4, h4⟩ : ∃ b4, ((n : Int) - 1 == 1) = b4 := ⟨_, rfl⟩
        obtain ⟨b5, h5⟩ : ∃ b5, decide (rank > (n : Int) - 1) = b5 := ⟨_, rfl⟩
        obtain ⟨b6, h6⟩ : ∃ b6, decide (rank > 1) = b6 := ⟨_, rfl⟩
        obtain ⟨b7, h7⟩ : ∃ b7, decide ((n : Int) - 1 ≥ 1) = b7 := ⟨_, rfl⟩
        have HOD := hide (show ordD rank n = ((b1 && b2) || (b3 && b4) || (b5 && b6 && b7)) from by
          rw [← h1, ← h2, ← h3, ← h4, ← h5, ← h6, ← h7]; rfl)
        have tn : (n : Int) - 1 + 1 = (n : Int) := by omega
        obtain ⟨od, hod⟩ : ∃ od, ordD rank n = od := ⟨_, rfl⟩
        rw [hod] at HOD
        have Hod := hide hod
        clear hod
        go_cut [9] (fun v w' => v = .bool od ∧ w' = w5)
        case first =>
          cases b1
          case true =>
            cases b2
            case true =>
              go_wp2_with fail
              go_meet
              case rel => exact ⟨by rw [HOD.out] <;> simp, rfl⟩
            case false =>
              cases b3
              case true =>
                cases b4
                case true =>
                  go_wp2_with fail
                  go_meet
                  case rel => exact ⟨by rw [HOD.out] <;> simp, rfl⟩
                case false =>
                  cases b5
                  case true =>
                    cases b6
                    case true =>
                      cases b7
                      case true =>
                        go_wp2_with fail
                        go_meet
                        case rel => exact ⟨by rw [HOD.out] <;> simp, rfl⟩
                      case false =>
                        go_wp2_with fail
                        go_meet
                        case rel => exact ⟨by rw [HOD.out] <;> simp, rfl⟩
                    case false =>
                      go_wp2_with fail
                      go_meet
                      case rel => exact ⟨by rw [HOD.out] <;> simp, rfl⟩
                  case false =>
                    go_wp2_with fail
                    go_meet
                    case rel => exact ⟨by rw [HOD.out] <;> simp, rfl⟩
              case false =>
                cases b5
                case true =>
                  cases b6
                  case true =>
                    cases b7
                    case true =>
                      go_wp2_with fail
                      go_meet
                      case rel => exact ⟨by rw [HOD.out] <;> simp, rfl⟩
                    case false =>
                      go_wp2_with fail
                      go_meet
                      case rel => exact ⟨by rw [HOD.out] <;> simp, rfl⟩
                  case false =>
                    go_wp2_with fail
                    go_meet
                    case rel => exact ⟨by rw [HOD.out] <;> simp, rfl⟩
                case false =>
                  go_wp2_with fail
                  go_meet
                  case rel => exact ⟨by rw [HOD.out] <;> simp, rfl⟩
          case false =>
            cases b3
            case true =>
              cases b4
              case true =>
                go_wp2_with fail
                go_meet
                case rel => exact ⟨by rw [HOD.out] <;> simp, rfl⟩
              case false =>
                cases b5
                case true =>
                  cases b6
                  case true =>
                    cases b7
                    case true =>
                      go_wp2_with fail
                      go_meet
                      case rel => exact ⟨by rw [HOD.out] <;> simp, rfl⟩
                    case false =>
                      go_wp2_with fail
                      go_meet
                      case rel => exact ⟨by rw [HOD.out] <;> simp, rfl⟩
                  case false =>
                    go_wp2_with fail
                    go_meet
                    case rel => exact ⟨by rw [HOD.out] <;> simp, rfl⟩
                case false =>
                  go_wp2_with fail
                  go_meet
                  case rel => exact ⟨by rw [HOD.out] <;> simp, rfl⟩
            case false =>
              cases b5
              case true =>
                cases b6
                case true =>
                  cases b7
                  case true =>
                    go_wp2_with fail
                    go_meet
                    case rel => exact ⟨by rw [HOD.out] <;> simp, rfl⟩
                  case false =>
                    go_wp2_with fail
                    go_meet
                    case rel => exact ⟨by rw [HOD.out] <;> simp, rfl⟩
                case false =>
                  go_wp2_with fail
                  go_meet
                  case rel => exact ⟨by rw [HOD.out] <;> simp, rfl⟩
              case false =>
                go_wp2_with fail
                go_meet
                case rel => exact ⟨by rw [HOD.out] <;> simp, rfl⟩
        case rest =>
          obtain ⟨rfl, rfl⟩ := hcut
          rename World => w5
          clear HOD h1 h2 h3 h4 h5 h6 h7 tn
          cases od
          case false =>
            have HQ := hide (show ReadQ s.data.toList 3 (i : Int) zeroR from by
              unfold ReadQ
              rw [HLL.out]
              refine ⟨i, n, r, hiL, Hrd.out, .bad hi1 (fun k' r' ho hl => ?_)⟩
              rw [Hg1.out] at hl
              rcases Hrk.out with ⟨-, hno⟩ | ⟨k2, r2, hk2, hl2, -⟩
              · exact hno k' r' (by rw [Hsa.out]; exact hl)
              · have e := line_word hl2
                have e2 := line_word hl
                rw [Hsa.out] at e
                obtain rfl := word_inj e.1 e2.1 (by rw [← e.2, e2.2])
                have h9 := Hod.out
                rw [hk2, (ordD_iff e.1).2 ho] at h9
                cases h9)
            go_upto_region 10 with (fail)
            refine wp_region_lit ?_
            refine wpList_plain rfl (fun K hK => ?_)
            go_simp
            refine hK _ _ ?_
            clear hK K
            refine wpList_plain rfl (fun K hK => ?_)
            go_simp
            refine hK _ _ ?_
            clear hK K
            refine wpList_plain rfl (fun K hK => ?_)
            go_simp
            refine hK _ _ ?_
            clear hK K
            refine wpList_plain rfl (fun K hK => ?_)
            refine wp_store_row 27 (.tmp 2) (.tmp 54) rfl W.heap.size #[.int .i64 0, .int .i64 0, .string ⟨#[]⟩, .int .i64 0, .string ⟨#[]⟩, .string ⟨#[]⟩, .slice none 0 0, .bool false, .int .u8 0, .int .i64 0, .int .u8 0, .bool false, .int .i64 0] rfl rfl 27 _ HP5.out.z (by kernel_rfl) (by simp) (by simp [Value.oneCell']) ?_
            refine hK _ _ ?_
            clear hK K
            have HP4 := hide (setRow_blk2 (vs := #[.int .i64 0, .int .i64 0, .string ⟨#[]⟩, .int .i64 0, .string ⟨#[]⟩, .string ⟨#[]⟩, .slice none 0 0, .bool false, .int .u8 0, .int .i64 0, .int .u8 0, .bool false, .int .i64 0]) HP5.out.z)
            have HQ4 := hide (setRow_far (g := W.heap.size) (vs := #[.int .i64 0, .int .i64 0, .string ⟨#[]⟩, .int .i64 0, .string ⟨#[]⟩, .string ⟨#[]⟩, .slice none 0 0, .bool false, .int .u8 0, .int .i64 0, .int .u8 0, .bool false, .int .i64 0]) HP5.out.f (show W.heap.size + 1 ≠ W.heap.size by omega))
            have HO4 := hide (only_setRow (vs := #[.int .i64 0, .int .i64 0, .string ⟨#[]⟩, .int .i64 0, .string ⟨#[]⟩, .string ⟨#[]⟩, .slice none 0 0, .bool false, .int .u8 0, .int .i64 0, .int .u8 0, .bool false, .int .i64 0]) HP5.out.o (Nat.le_refl _))
            refine wpList_plain rfl (fun K hK => ?_)
            refine wp_store_row 32 (.tmp 3) (.tmp 56) rfl (W.heap.size + 1) #[.int .i64 3, .int .i64 (i : Int)] rfl rfl 32 _ HQ4.out (by kernel_rfl) (by simp) (by simp [Value.oneCell']) ?_
            refine hK _ _ ?_
            clear hK K
            have hO5 := only_setRow (g := W.heap.size + 1) (vs := #[.int .i64 3, .int .i64 (i : Int)]) HO4.out (by omega)
            have hP5 := setRow_far (g := W.heap.size + 1) (vs := #[.int .i64 3, .int .i64 (i : Int)]) HP4.out (show W.heap.size ≠ W.heap.size + 1 by omega)
            have hQ5 := setRow_blk2 (vs := #[.int .i64 3, .int .i64 (i : Int)]) HQ4.out
            obtain ⟨y0, y1, y2, y3, y4, y5, y6, y7, y8, y9, y10, y11, y12⟩ := Blk.rules hP5
            obtain ⟨q0, q1, -⟩ := hQ5.two_
            go_wp2_with fail
            refine bodyPost_ret (v := .tuple #[.agg #[.int .i64 0, .int .i64 0, .string ⟨#[]⟩, .int .i64 0, .string ⟨#[]⟩, .string ⟨#[]⟩, .slice none 0 0, .bool false, .int .u8 0, .int .i64 0, .int .u8 0, .bool false, .int .i64 0], .agg #[.int .i64 3, .int .i64 (i : Int)]]) (by simp [results, Tryz.results11, go_sem, y0, y1, y2, y3, y4, y5, y6, y7, y8, y9, y10, y11, y12, q0, q1]) rfl ⟨zeroR, none, 0, 3, (i : Int), rfl, HQ.out, fun h => (by cases h), fun _ => rfl, zero_pieces _ _, hO5⟩
          case true =>
            obtain ⟨k2, r2, hk2, hl2, hru2⟩ : ∃ (k2 : Nat) (r2 : RulesD), rank = (k2 : Int) ∧ LineK k2 sa.data.toList r r2 ∧ Ru w5 b (b + 1) r2 := by
              rcases Hrk.out with ⟨e, -⟩ | h
              · have h9 := Hod.out
                rw [e, ordD_no] at h9
                cases h9
              · exact h
            subst hk2
            have e7 := (line_word hl2).1
            have hor := (ordD_iff e7).1 Hod.out
            have HRd' := hide (show RdR (LL.take (i + 1)) (k2 + 1) r2 from by
              rw [List.take_succ_eq_append_getElem hiL]
              refine RdR.step Hrd.out hor ?_
              have : LL[i] = sa.data.toList := by rw [Hsa.out, ← Hg1.out, List.getD, List.getElem?_eq_getElem hiL]; rfl
              rw [this]; exact hl2)
            have hpl := line_len hl2
            have HRu := hide hru2
            obtain ⟨sc, hsc⟩ : ∃ sc, rest.extract (k + 1) rest.size = sc := ⟨_, rfl⟩
            have Hsc := hide (show sc.data.toList = rest.data.toList.drop (k + 1) from by
              rw [← hsc, Go.Lib.extract_data]
              exact List.take_of_length_le (by rw [List.length_drop]; simp))
            have hscl : sc.size < rest.size := by
              have h5 : sc.data.toList.length = sc.size := by simp
              rw [← h5, Hsc.out, List.length_drop]; omega
            have k2i : (k : Int) + 1 ≤ (rest.size : Int) := by omega
            clear hl2 hru2 hor Hrk
            go_wp2_with fail
            go_roundw
            case rel => exact ⟨i + 1, k2 + 1, r2, sc, rfl, by go_num, by go_num, hi1, by omega, by omega, by rw [Hg3.out, Hsc.out], HRd'.out, HP5.out, HRu.out, hsz5, by omega⟩
            case measure => first | exact hscl | (simp; exact hscl) | (simp; omega)
end Go.Proofs.YtcdfeaodfmfdnaaGreatDoor
namespace Go.Proofs.YtcdfeaodfmfdnaaGreatDoor
open Go.RowKit

/-- the contract of line where the line is a piece's -/
def DPiece : Prop := ∀ (b B : Nat) (s : ByteArray) (r : RulesD) (W : World), s.size < 4294967281 → Env W → Ru W b B r → b < B → B ≤ W.heap.size → r.pieces.length ≤ 10000000000 →
  Lib.hasPrefix s.data.toList [115, 116, 97, 114, 116, 32] = false → askP s.data.toList = true → Calls Tryz.prog 38 #[.pointer (some ⟨b, 0, none⟩), .string s] W (LineDoc s b B r W)
theorem none_doc {b B : Nat} {s : ByteArray} {r : RulesD} {W : World} {f : FuncId} {args : Array Value}
    (h : Calls Tryz.prog f args W fun e w' => e = .returned (.int .i64 (-1)) ∧ Only (fun _ => False) W w') (hno : ∀ k r', ¬ LineK k s.data.toList r r') : Calls Tryz.prog f args W (LineDoc s b B r W) :=
  h.mono fun _ _ ⟨h1, h2⟩ => ⟨-1, h1, .inl ⟨rfl, hno⟩, h2.mono (fun _ _ h => h.elim)⟩
theorem not_start {l : List UInt8} {r r' : RulesD} (h : Lib.hasPrefix l [115, 116, 97, 114, 116, 32] = false) : ¬ LineK 0 l r r' := fun hl => by
  obtain ⟨p, _, rfl, _⟩ := hl
  rw [(start_pref _).2 ⟨_, rfl⟩] at h
  cases h
/-- where every question is answered no, there is no line -/
theorem no_line {l : List UInt8} {r : RulesD} (q0 : Lib.hasPrefix l [115, 116, 97, 114, 116, 32] = false) (qp : askP l = false) (qd : l ≠ wordR 2) (qs : l ≠ wordR 6) (ql : askL l = false)
    (q4 : ∀ r', ¬ LineK 4 l r r') (q7 : ∀ r', ¬ LineK 7 l r r') : ∀ k r', ¬ LineK k l r r' := fun k r' h => by
  have hk := line_le h
  rcases (show k = 0 ∨ k = 1 ∨ k = 2 ∨ k = 3 ∨ k = 4 ∨ k = 5 ∨ k = 6 ∨ k = 7 by omega) with rfl | rfl | rfl | rfl | rfl | rfl | rfl | rfl
  · exact not_start q0 h
  · rw [ask_piece h] at qp; cases qp
  · exact qd h.1
  · rw [ask_lose (.inl rfl) h] at ql; cases ql
  · exact q4 r' h
  · rw [ask_lose (.inr rfl) h] at ql; cases ql
  · exact qs h.1
  · exact q7 r' h
set_option maxHeartbeats 4000000 in
theorem dline_any (HP : DPiece) : DLine := by
  intro b B s r W hs he hr hbB hBW hn
  cases q0 : Lib.hasPrefix s.data.toList [115, 116, 97, 114, 116, 32] with
  | true =>
    obtain ⟨sv, hs', hB, hPc⟩ := hr
    obtain ⟨⟨w, h, c, t, h0, h1⟩, ps, dr, lo, li, re, st, pl⟩ := r
    obtain ⟨tt, ht⟩ := (start_pref _).1 q0
    have hw0 : (splitL 32 s.data.toList).getD 0 [] = wordR 0 := by rw [ht, splitL_app (word_no (by omega))]; rfl
    have hdrop : s.data.toList.drop 6 = tt := by rw [ht]; rfl
    refine (dl_start b s w h t li pl c h0 h1 sv dr st lo re W hs he hB q0).mono ?_
    rintro e w' ⟨⟨q, code, at_, hq, rfl, hb⟩, ho⟩
    rw [hdrop] at hq
    refine ⟨_, rfl, ?_, ho.mono (fun _ _ h => .inl h)⟩
    rcases hq with ⟨kk, hf, rfl, rfl, rfl⟩ | ⟨st', hrun, hacc, rfl, rfl, rfl⟩
    · refine .inl ⟨rfl, fun k r' hl => ?_⟩
      obtain rfl := not_kind (by omega) hw0 hl
      obtain ⟨p, hp, hx, _⟩ := hl
      have e2 : tt = textL p := by
        have := congrArg (List.drop 6) hx
        rw [hdrop] at this
        rw [this]; rfl
      obtain ⟨st', h1', h2', h3'⟩ := text_taken hp
      rw [← e2] at h1'
      have := (readP_uniq (.inl ⟨kk, hf, rfl, rfl, rfl⟩) (.inr ⟨st', h1', h2', rfl, rfl, rfl⟩)).2.1
      cases this
    · obtain ⟨hpk, htx⟩ := taken_text hrun hacc
      exact .inr ⟨0, _, rfl, ⟨_, hpk, by rw [ht, ← htx], rfl⟩, sv, hs', hb, hPc.only ho (fun _ h => Nat.le_of_eq h) hbB⟩
  | false =>
    cases qp : askP s.data.toList with
    | true => exact HP b B s r W hs he hr hbB hBW hn q0 qp
    | false =>
      obtain ⟨sv, hs', hB, hPc⟩ := hr
      obtain ⟨⟨w, h, c, t, h0, h1⟩, ps, dr, lo, li, re, st, pl⟩ := r
      by_cases qd : s.data.toList = wordR 2
      · have hF : splitL 32 s.data.toList = [wordR 2] := by rw [qd]; exact splitL_none (word_no (by omega))
        refine (dl_drops b s w h t li pl c h0 h1 sv dr st lo re W hs he hB q0 (by rw [hF]; decide) (by rw [hF]; rfl) qd).mono ?_
        rintro e w' ⟨rfl, hb, ho⟩
        exact ⟨2, rfl, .inr ⟨2, _, rfl, ⟨qd, rfl⟩, sv, hs', hb, hPc.only ho (fun _ h => Nat.le_of_eq h) hbB⟩, ho.mono (fun _ _ h => .inl h)⟩
      by_cases qs : s.data.toList = wordR 6
      · have hF : splitL 32 s.data.toList = [wordR 6] := by rw [qs]; exact splitL_none (word_no (by omega))
        refine (dl_stuck b s w h t li pl c h0 h1 sv dr st lo re W hs he hB q0 (by rw [hF]; decide) (by rw [hF]; rfl) qd qs).mono ?_
        rintro e w' ⟨rfl, hb, ho⟩
        exact ⟨6, rfl, .inr ⟨6, _, rfl, ⟨qs, rfl⟩, sv, hs', hb, hPc.only ho (fun _ h => Nat.le_of_eq h) hbB⟩, ho.mono (fun _ _ h => .inl h)⟩
      cases ql : askL s.data.toList with
      | true =>
        obtain ⟨k, ch, hk, hw, h1c, hu, hl⟩ := ask_lose_back ql
        have h2 : (splitL 32 s.data.toList).length = 2 := by rw [hl]; rcases hk with rfl | rfl <;> rw [one_letter (by omega) hu] <;> rfl
        rcases hk with rfl | rfl
        · refine (dl_lose b s w h t li pl c h0 h1 sv dr st lo re W hs he hB q0 h2 hw qd qs ch h1c hu).mono ?_
          rintro e w' ⟨rfl, hb, ho⟩
          exact ⟨3, rfl, .inr ⟨3, _, rfl, line_let (.inl rfl) hu hl _, sv, hs', hb, hPc.only ho (fun _ h => Nat.le_of_eq h) hbB⟩, ho.mono (fun _ _ h => .inl h)⟩
        · refine (dl_reach b s w h t li pl c h0 h1 sv dr st lo re W hs he hB q0 h2 hw qd qs ch h1c hu).mono ?_
          rintro e w' ⟨rfl, hb, ho⟩
          exact ⟨5, rfl, .inr ⟨5, _, rfl, line_let (.inr rfl) hu hl _, sv, hs', hb, hPc.only ho (fun _ h => Nat.le_of_eq h) hbB⟩, ho.mono (fun _ _ h => .inl h)⟩
      | false =>
        by_cases hn1 : (splitL 32 s.data.toList).length < 2
        · have hn2 := hn1
          have q4 : ∀ r', ¬ LineK 4 s.data.toList ⟨⟨w, h, c, t, h0, h1⟩, ps, dr, lo, li, re, st, pl⟩ r' := fun r' hl => by have := (line_num (.inl rfl) hl).1; omega
          have q7 : ∀ r', ¬ LineK 7 s.data.toList ⟨⟨w, h, c, t, h0, h1⟩, ps, dr, lo, li, re, st, pl⟩ r' := fun r' hl => by have := (line_num (.inr rfl) hl).1; omega
          by_cases w1 : (splitL 32 s.data.toList).getD 0 [] = wordR 1
          · exact none_doc (dl_none_piece1 b s w h t li pl c h0 h1 sv dr st lo re W hs he hB q0 hn2 w1 qd qs) (no_line q0 qp qd qs ql q4 q7)
          by_cases w3 : (splitL 32 s.data.toList).getD 0 [] = wordR 3
          · exact none_doc (dl_none_lose1 b s w h t li pl c h0 h1 sv dr st lo re W hs he hB q0 hn2 w3 qd qs) (no_line q0 qp qd qs ql q4 q7)
          by_cases w5 : (splitL 32 s.data.toList).getD 0 [] = wordR 5
          · exact none_doc (dl_none_reach1 b s w h t li pl c h0 h1 sv dr st lo re W hs he hB q0 hn2 w5 qd qs) (no_line q0 qp qd qs ql q4 q7)
          by_cases w4 : (splitL 32 s.data.toList).getD 0 [] = wordR 4
          · exact none_doc (dl_none_line1 b s w h t li pl c h0 h1 sv dr st lo re W hs he hB q0 hn2 w4 qd qs) (no_line q0 qp qd qs ql q4 q7)
          by_cases w7 : (splitL 32 s.data.toList).getD 0 [] = wordR 7
          · exact none_doc (dl_none_plies1 b s w h t li pl c h0 h1 sv dr st lo re W hs he hB q0 hn2 w7 qd qs) (no_line q0 qp qd qs ql q4 q7)
          exact none_doc (dl_none_o1 b s w h t li pl c h0 h1 sv dr st lo re W hs he hB q0 hn2 w1 w3 w5 w4 w7 qd qs) (no_line q0 qp qd qs ql q4 q7)
        by_cases hn3 : 3 ≤ (splitL 32 s.data.toList).length
        · have hn2 := hn3
          have q4 : ∀ r', ¬ LineK 4 s.data.toList ⟨⟨w, h, c, t, h0, h1⟩, ps, dr, lo, li, re, st, pl⟩ r' := fun r' hl => by have := (line_num (.inl rfl) hl).1; omega
          have q7 : ∀ r', ¬ LineK 7 s.data.toList ⟨⟨w, h, c, t, h0, h1⟩, ps, dr, lo, li, re, st, pl⟩ r' := fun r' hl => by have := (line_num (.inr rfl) hl).1; omega
          by_cases w1 : (splitL 32 s.data.toList).getD 0 [] = wordR 1
          · by_cases hz : ((splitL 32 s.data.toList).getD 1 []).length = 1
            · obtain ⟨ch, hch⟩ := List.length_eq_one_iff.1 hz
              have hu : upB ch.toNat = false := by
                have h9 := qp
                unfold askP at h9
                rw [hch, w1] at h9
                simpa [hn2, wordR] using h9
              exact none_doc (dl_none_piece_up b s w h t li pl c h0 h1 sv dr st lo re W hs he hB q0 hn2 w1 qd qs ch hch hu) (no_line q0 qp qd qs ql q4 q7)
            · exact none_doc (dl_none_piece_long b s w h t li pl c h0 h1 sv dr st lo re W hs he hB q0 hn2 w1 qd qs hz) (no_line q0 qp qd qs ql q4 q7)
          by_cases w3 : (splitL 32 s.data.toList).getD 0 [] = wordR 3
          · exact none_doc (dl_none_lose3 b s w h t li pl c h0 h1 sv dr st lo re W hs he hB q0 hn2 w3 qd qs) (no_line q0 qp qd qs ql q4 q7)
          by_cases w5 : (splitL 32 s.data.toList).getD 0 [] = wordR 5
          · exact none_doc (dl_none_reach3 b s w h t li pl c h0 h1 sv dr st lo re W hs he hB q0 hn2 w5 qd qs) (no_line q0 qp qd qs ql q4 q7)
          by_cases w4 : (splitL 32 s.data.toList).getD 0 [] = wordR 4
          · exact none_doc (dl_none_line3 b s w h t li pl c h0 h1 sv dr st lo re W hs he hB q0 hn2 w4 qd qs) (no_line q0 qp qd qs ql q4 q7)
          by_cases w7 : (splitL 32 s.data.toList).getD 0 [] = wordR 7
          · exact none_doc (dl_none_plies3 b s w h t li pl c h0 h1 sv dr st lo re W hs he hB q0 hn2 w7 qd qs) (no_line q0 qp qd qs ql q4 q7)
          exact none_doc (dl_none_o3 b s w h t li pl c h0 h1 sv dr st lo re W hs he hB q0 hn2 w1 w3 w5 w4 w7 qd qs) (no_line q0 qp qd qs ql q4 q7)
        have hn2 : (splitL 32 s.data.toList).length = 2 := by omega
        have q4' : ∀ r', (splitL 32 s.data.toList).getD 0 [] ≠ wordR 4 → ¬ LineK 4 s.data.toList ⟨⟨w, h, c, t, h0, h1⟩, ps, dr, lo, li, re, st, pl⟩ r' := fun r' hw hl => hw (line_num (.inl rfl) hl).2.1
        have q7' : ∀ r', (splitL 32 s.data.toList).getD 0 [] ≠ wordR 7 → ¬ LineK 7 s.data.toList ⟨⟨w, h, c, t, h0, h1⟩, ps, dr, lo, li, re, st, pl⟩ r' := fun r' hw hl => hw (line_num (.inr rfl) hl).2.1
        by_cases w1 : (splitL 32 s.data.toList).getD 0 [] = wordR 1
        · exact none_doc (dl_none_piece2 b s w h t li pl c h0 h1 sv dr st lo re W hs he hB q0 hn2 w1 qd qs) (no_line q0 qp qd qs ql (fun r' => q4' r' (by rw [w1]; decide)) (fun r' => q7' r' (by rw [w1]; decide)))
        by_cases w3 : (splitL 32 s.data.toList).getD 0 [] = wordR 3
        · by_cases hz : ((splitL 32 s.data.toList).getD 1 []).length = 1
          · obtain ⟨ch, hch⟩ := List.length_eq_one_iff.1 hz
            have hu : upB ch.toNat = false := by
              have h9 := ql
              unfold askL at h9
              rw [hch, w3] at h9
              simpa [hn2, wordR] using h9
            exact none_doc (dl_none_lose_up b s w h t li pl c h0 h1 sv dr st lo re W hs he hB q0 hn2 w3 qd qs ch hch hu) (no_line q0 qp qd qs ql (fun r' => q4' r' (by rw [w3]; decide)) (fun r' => q7' r' (by rw [w3]; decide)))
          · exact none_doc (dl_none_lose_long b s w h t li pl c h0 h1 sv dr st lo re W hs he hB q0 hn2 w3 qd qs hz) (no_line q0 qp qd qs ql (fun r' => q4' r' (by rw [w3]; decide)) (fun r' => q7' r' (by rw [w3]; decide)))
        by_cases w5 : (splitL 32 s.data.toList).getD 0 [] = wordR 5
        · by_cases hz : ((splitL 32 s.data.toList).getD 1 []).length = 1
          · obtain ⟨ch, hch⟩ := List.length_eq_one_iff.1 hz
            have hu : upB ch.toNat = false := by
              have h9 := ql
              unfold askL at h9
              rw [hch, w5] at h9
              simpa [hn2, wordR] using h9
            exact none_doc (dl_none_reach_up b s w h t li pl c h0 h1 sv dr st lo re W hs he hB q0 hn2 w5 qd qs ch hch hu) (no_line q0 qp qd qs ql (fun r' => q4' r' (by rw [w5]; decide)) (fun r' => q7' r' (by rw [w5]; decide)))
          · exact none_doc (dl_none_reach_long b s w h t li pl c h0 h1 sv dr st lo re W hs he hB q0 hn2 w5 qd qs hz) (no_line q0 qp qd qs ql (fun r' => q4' r' (by rw [w5]; decide)) (fun r' => q7' r' (by rw [w5]; decide)))
        by_cases w4 : (splitL 32 s.data.toList).getD 0 [] = wordR 4
        · by_cases hm : ∃ m : Nat, 0 < m ∧ m ≤ 9999 ∧ (splitL 32 s.data.toList).getD 1 [] = Lib.decDigits m
          · obtain ⟨m, m0, m9, e1⟩ := hm
            refine (dl_line b s w h t li pl c h0 h1 sv dr st lo re W hs he hB q0 hn2 w4 qd qs m m9 m0 e1).mono ?_
            rintro e w' ⟨rfl, hb, ho⟩
            exact ⟨4, rfl, .inr ⟨4, _, rfl, ⟨m, m0, m9, two_back hn2 w4 e1, rfl⟩, sv, hs', hb, hPc.only ho (fun _ h => Nat.le_of_eq h) hbB⟩, ho.mono (fun _ _ h => .inl h)⟩
          · have q4 : ∀ r', ¬ LineK 4 s.data.toList ⟨⟨w, h, c, t, h0, h1⟩, ps, dr, lo, li, re, st, pl⟩ r' := fun r' hl => by
              obtain ⟨_, _, m, m9, m0, e1⟩ := line_num (.inl rfl) hl
              exact hm ⟨m, m0 rfl, m9, e1⟩
            have q7 : ∀ r', ¬ LineK 7 s.data.toList ⟨⟨w, h, c, t, h0, h1⟩, ps, dr, lo, li, re, st, pl⟩ r' := fun r' hl => by
              have := (line_num (.inr rfl) hl).2.1
              exact absurd (w4.symm.trans this) (by decide)
            exact none_doc (dl_none_line2 b s w h t li pl c h0 h1 sv dr st lo re W hs he hB q0 hn2 w4 qd qs (fun m m9 e1 => by
              rcases Nat.eq_zero_or_pos m with h | h
              · exact h
              · exact absurd ⟨m, h, m9, e1⟩ hm)) (no_line q0 qp qd qs ql q4 q7)
        by_cases w7 : (splitL 32 s.data.toList).getD 0 [] = wordR 7
        · by_cases hm : ∃ m : Nat, m ≤ 9999 ∧ (splitL 32 s.data.toList).getD 1 [] = Lib.decDigits m
          · obtain ⟨m, m9, e1⟩ := hm
            refine (dl_plies b s w h t li pl c h0 h1 sv dr st lo re W hs he hB q0 hn2 w7 qd qs m m9 e1).mono ?_
            rintro e w' ⟨rfl, hb, ho⟩
            exact ⟨7, rfl, .inr ⟨7, _, rfl, ⟨m, m9, two_back hn2 w7 e1, rfl⟩, sv, hs', hb, hPc.only ho (fun _ h => Nat.le_of_eq h) hbB⟩, ho.mono (fun _ _ h => .inl h)⟩
          · have q7 : ∀ r', ¬ LineK 7 s.data.toList ⟨⟨w, h, c, t, h0, h1⟩, ps, dr, lo, li, re, st, pl⟩ r' := fun r' hl => by
              obtain ⟨_, _, m, m9, m0, e1⟩ := line_num (.inr rfl) hl
              exact hm ⟨m, m9, e1⟩
            have q4 : ∀ r', ¬ LineK 4 s.data.toList ⟨⟨w, h, c, t, h0, h1⟩, ps, dr, lo, li, re, st, pl⟩ r' := fun r' hl => by
              have := (line_num (.inl rfl) hl).2.1
              exact absurd (w7.symm.trans this) (by decide)
            exact none_doc (dl_none_plies2 b s w h t li pl c h0 h1 sv dr st lo re W hs he hB q0 hn2 w7 qd qs (fun m m9 e1 => by
              exact hm ⟨m, m9, e1⟩)) (no_line q0 qp qd qs ql q4 q7)
        have q4 : ∀ r', ¬ LineK 4 s.data.toList ⟨⟨w, h, c, t, h0, h1⟩, ps, dr, lo, li, re, st, pl⟩ r' := fun r' hl => w4 (line_num (.inl rfl) hl).2.1
        have q7 : ∀ r', ¬ LineK 7 s.data.toList ⟨⟨w, h, c, t, h0, h1⟩, ps, dr, lo, li, re, st, pl⟩ r' := fun r' hl => w7 (line_num (.inr rfl) hl).2.1
        exact none_doc (dl_none_o2 b s w h t li pl c h0 h1 sv dr st lo re W hs he hB q0 hn2 w1 w3 w5 w4 w7 qd qs) (no_line q0 qp qd qs ql q4 q7)
end Go.Proofs.YtcdfeaodfmfdnaaGreatDoor
namespace Go.Proofs.YtcdfeaodfmfdnaaGreatDoor
open Go.RowKit

set_option maxHeartbeats 4000000 in
set_option maxRecDepth 100000 in
theorem rwrite_no (r : RulesD) (A : Option Addr) (cp : Nat) (W : World) (hr : ¬ RulesOk r) (hf : RFit r) (hP : PiecesAt W W.heap.size A r.pieces) :
    Calls Tryz.prog 9 #[.agg #[.int .i64 r.start.w, .int .i64 r.start.h, .string r.start.cells, .int .i64 r.start.turn, .string r.start.h0, .string r.start.h1, .slice A r.pieces.length cp, .bool r.drops, .int .u8 (r.lose : Int), .int .i64 r.line, .int .u8 (r.reach : Int), .bool r.stuck, .int .i64 r.plies]] W fun e w' => e = .returned (.tuple #[.string ⟨#[]⟩, .int .i64 1]) ∧ Later W w' := by
  have HB := hide (Blk.new W 27 #[.int .i64 r.start.w, .int .i64 r.start.h, .string r.start.cells, .int .i64 r.start.turn, .string r.start.h0, .string r.start.h1, .slice A r.pieces.length cp, .bool r.drops, .int .u8 (r.lose : Int), .int .i64 r.line, .int .u8 (r.reach : Int), .bool r.stuck, .int .i64 r.plies])
  have HL := hide (show Later W (W.alloc (.cells #[.int .i64 r.start.w, .int .i64 r.start.h, .string r.start.cells, .int .i64 r.start.turn, .string r.start.h0, .string r.start.h1, .slice A r.pieces.length cp, .bool r.drops, .int .u8 (r.lose : Int), .int .i64 r.line, .int .u8 (r.reach : Int), .bool r.stuck, .int .i64 r.plies] 27)) from Later.rfl.alloc _)
  have HC := hide (fun w (h : Later W w) => check_any r A cp w hf ((hP.below h).more h.size))
  rw [show codeN (rulesB r) = 1 from by rw [rulesB_false.2 hr]; rfl] at HC
  clear hr hP hf
  go_enter Tryz.func9, Tryz.ntmps9
  go_upto_region 1 with (fail)
  obtain ⟨w1, hw1⟩ : ∃ w1, W.alloc (.cells #[.int .i64 r.start.w, .int .i64 r.start.h, .string r.start.cells, .int .i64 r.start.turn, .string r.start.h0, .string r.start.h1, .slice A r.pieces.length cp, .bool r.drops, .int .u8 (r.lose : Int), .int .i64 r.line, .int .u8 (r.reach : Int), .bool r.stuck, .int .i64 r.plies] 27) = w1 := ⟨_, rfl⟩
  rw [hw1] at HB HL ⊢
  clear hw1
  obtain ⟨y0, y1, y2, y3, y4, y5, y6, y7, y8, y9, y10, y11, y12⟩ := Blk.rules HB.out
  go_wp2_with (go_at_call 14; refine (HC.out _ HL.out).mono ?_; rintro e w2 ⟨rfl, hl2⟩; have Hl2 := hide hl2; clear hl2)
  go_ret2
  exact ⟨rfl, HL.out.trans Hl2.out⟩
end Go.Proofs.YtcdfeaodfmfdnaaGreatDoor
namespace Go.Proofs.YtcdfeaodfmfdnaaGreatDoor
open Go.RowKit

theorem run_eq_hnd2 (a0 a1 b0 b1 : ByteArray) (w : World) : (Op.equalIn 9999 22 (.agg #[.string a0, .string a1]) (.agg #[.string b0, .string b1])).run Tryz.prog w = .ok (a0.toList == b0.toList && a1.toList == b1.toList) w := by
  rw [show (9999 : Nat) = 9998 + 1 from rfl]
  unfold Op.equalIn
  simp only [Sem.run_bind, run_underlying Tryz.underlying22, Result.andThen_ok]
  go_simp
  rw [show List.range' 0 2 = [0, 1] from rfl]
  simp only [List.forIn_cons, List.forIn_nil]
  go_simp
  by_cases h0 : a0.toList = b0.toList <;> by_cases h1 : a1.toList = b1.toList <;> simp [h0, h1]
/-- what stays while SameRules compares -/
structure SmR (W : World) (r : RulesD) (A : Option Addr) (cp : Nat) (A' : Option Addr) (cp' : Nat) (w : World) : Prop where
  l : Later W w
  a : Blk w W.heap.size 27 #[.int .i64 r.start.w, .int .i64 r.start.h, .string r.start.cells, .int .i64 r.start.turn, .string r.start.h0, .string r.start.h1, .slice A r.pieces.length cp, .bool r.drops, .int .u8 (r.lose : Int), .int .i64 r.line, .int .u8 (r.reach : Int), .bool r.stuck, .int .i64 r.plies]
  b : Blk w (W.heap.size + 1) 27 #[.int .i64 r.start.w, .int .i64 r.start.h, .string r.start.cells, .int .i64 r.start.turn, .string r.start.h0, .string r.start.h1, .slice A' r.pieces.length cp', .bool r.drops, .int .u8 (r.lose : Int), .int .i64 r.line, .int .u8 (r.reach : Int), .bool r.stuck, .int .i64 r.plies]
theorem SmR.step {W w w' : World} {r : RulesD} {A A' : Option Addr} {cp cp' : Nat} (h : SmR W r A cp A' cp' w) (ho : Later w w') : SmR W r A cp A' cp' w' :=
  ⟨h.l.trans ho, ho.blk h.a, ho.blk h.b⟩
set_option maxHeartbeats 16000000 in
set_option maxRecDepth 100000 in
theorem same_rules (r : RulesD) (A A' : Option Addr) (cp cp' : Nat) (W : World) (hf : RFit r) (hP : PiecesAt W W.heap.size A r.pieces) (hP' : PiecesAt W W.heap.size A' r.pieces) :
    Calls Tryz.prog 12 #[.agg #[.int .i64 r.start.w, .int .i64 r.start.h, .string r.start.cells, .int .i64 r.start.turn, .string r.start.h0, .string r.start.h1, .slice A r.pieces.length cp, .bool r.drops, .int .u8 (r.lose : Int), .int .i64 r.line, .int .u8 (r.reach : Int), .bool r.stuck, .int .i64 r.plies], .agg #[.int .i64 r.start.w, .int .i64 r.start.h, .string r.start.cells, .int .i64 r.start.turn, .string r.start.h0, .string r.start.h1, .slice A' r.pieces.length cp', .bool r.drops, .int .u8 (r.lose : Int), .int .i64 r.line, .int .u8 (r.reach : Int), .bool r.stuck, .int .i64 r.plies]] W fun e w' => e = .returned (.bool true) ∧ Later W w' := by
  have hsm : SmR W r A cp A' cp' ((W.alloc (.cells #[.int .i64 r.start.w, .int .i64 r.start.h, .string r.start.cells, .int .i64 r.start.turn, .string r.start.h0, .string r.start.h1, .slice A r.pieces.length cp, .bool r.drops, .int .u8 (r.lose : Int), .int .i64 r.line, .int .u8 (r.reach : Int), .bool r.stuck, .int .i64 r.plies] 27)).alloc (.cells #[.int .i64 r.start.w, .int .i64 r.start.h, .string r.start.cells, .int .i64 r.start.turn, .string r.start.h0, .string r.start.h1, .slice A' r.pieces.length cp', .bool r.drops, .int .u8 (r.lose : Int), .int .i64 r.line, .int .u8 (r.reach : Int), .bool r.stuck, .int .i64 r.plies] 27)) := by
    have h2 := Blk.new (W.alloc (.cells #[.int .i64 r.start.w, .int .i64 r.start.h, .string r.start.cells, .int .i64 r.start.turn, .string r.start.h0, .string r.start.h1, .slice A r.pieces.length cp, .bool r.drops, .int .u8 (r.lose : Int), .int .i64 r.line, .int .u8 (r.reach : Int), .bool r.stuck, .int .i64 r.plies] 27)) 27 #[.int .i64 r.start.w, .int .i64 r.start.h, .string r.start.cells, .int .i64 r.start.turn, .string r.start.h0, .string r.start.h1, .slice A' r.pieces.length cp', .bool r.drops, .int .u8 (r.lose : Int), .int .i64 r.line, .int .u8 (r.reach : Int), .bool r.stuck, .int .i64 r.plies]
    rw [World.size_alloc] at h2
    exact ⟨(Later.rfl.alloc _).alloc _, (Blk.new W _ _).alloc _, h2⟩
  have HS := hide hsm
  have HPa := hide hP
  have HPb := hide hP'
  have Hf := hide hf
  have hnp := hf.n
  clear hsm hP hP' hf
  go_enter Tryz.func12, Tryz.ntmps12
  go_upto_region 1 with (fail)
  obtain ⟨w1, hw1⟩ : ∃ w1, (W.alloc (.cells #[.int .i64 r.start.w, .int .i64 r.start.h, .string r.start.cells, .int .i64 r.start.turn, .string r.start.h0, .string r.start.h1, .slice A r.pieces.length cp, .bool r.drops, .int .u8 (r.lose : Int), .int .i64 r.line, .int .u8 (r.reach : Int), .bool r.stuck, .int .i64 r.plies] 27)).alloc (.cells #[.int .i64 r.start.w, .int .i64 r.start.h, .string r.start.cells, .int .i64 r.start.turn, .string r.start.h0, .string r.start.h1, .slice A' r.pieces.length cp', .bool r.drops, .int .u8 (r.lose : Int), .int .i64 r.line, .int .u8 (r.reach : Int), .bool r.stuck, .int .i64 r.plies] 27) = w1 := ⟨_, rfl⟩
  rw [hw1] at HS ⊢
  clear hw1
  obtain ⟨x0, x1, x2, x3, x4, x5, x6, x7, x8, x9, x10, x11, x12⟩ := Blk.rules HS.out.a
  obtain ⟨y0, y1, y2, y3, y4, y5, y6, y7, y8, y9, y10, y11, y12⟩ := Blk.rules HS.out.b
  have heq := run_eq_hnd2
  go_upto_region 3 with (fail)
  clear heq x0 x1 x2 x3 x4 x5 x6 x7 x8 x9 x10 x11 x12 y0 y1 y2 y3 y4 y5 y6 y7 y8 y9 y10 y11 y12
  go_wp2_with fail
  go_loopw [5] (fun iv wr => ∃ i : Nat, i ≤ r.pieces.length ∧ iv = .int .i64 (i : Int) ∧ SmR W r A cp A' cp' wr) (fun iv _ => r.pieces.length - (intOf iv).toNat)
  case atStart => exact ⟨0, by omega, rfl, HS.out⟩
  case round =>
    rename World => wr
    obtain ⟨i, hil, rfl, hs⟩ := hrel
    have HSr := hide hs
    clear hs HS
    obtain ⟨x0, x1, x2, x3, x4, x5, x6, x7, x8, x9, x10, x11, x12⟩ := Blk.rules HSr.out.a
    obtain ⟨y0, y1, y2, y3, y4, y5, y6, y7, y8, y9, y10, y11, y12⟩ := Blk.rules HSr.out.b
    by_cases hi : i < r.pieces.length
    · have d1 : decide ((i : Int) < (r.pieces.length : Int)) = true := by simp; omega
      have d1n : decide (i < r.pieces.length) = true := by simp; omega
      have i0 : (0 : Int) ≤ (i : Int) := by omega
      have i1 : (i : Int) < (r.pieces.length : Int) := by omega
      obtain ⟨b1, o1, rfl, hb1, z0, z1, A1, c1, hc1, z2, hw1⟩ := (HPa.out.below HSr.out.l).at_ hi
      obtain ⟨b2, o2, rfl, hb2, v0, v1, A2, c2, hc2, v2, hw2⟩ := (HPb.out.below HSr.out.l).at_ hi
      have hlen := Hf.out.len i hi
      obtain ⟨pc, hpc⟩ : ∃ pc, r.pieces[i] = pc := ⟨_, rfl⟩
      rw [hpc] at z0 z1 z2 v0 v1 v2 hw1 hw2 hc1 hc2 hlen
      have Hw1 := hide hw1
      have Hw2 := hide hw2
      have hsz := HSr.out.l.size
      clear hpc hw1 hw2
      have g1 : W.heap.size < wr.heap.size := HSr.out.a.lt
      have g2 : W.heap.size + 1 < wr.heap.size := HSr.out.b.lt
      have g3 : b1 < wr.heap.size := by omega
      have g4 : b2 < wr.heap.size := by omega
      go_upto_region 6 with (fail)
      go_cut [6, 7] (fun p q w' => ∃ gx gy, p = .pointer (some ⟨gx, 0, none⟩) ∧ q = .pointer (some ⟨gy, 0, none⟩) ∧ Blk w' gx 77 #[.int .u8 (pc.letter : Int), .int .i64 pc.worth, .slice A1 pc.ways.length c1] ∧ Blk w' gy 77 #[.int .u8 (pc.letter : Int), .int .i64 pc.worth, .slice A2 pc.ways.length c2] ∧ Later wr w')
      case first =>
        have k1 := Blk.new wr 77 #[.int .u8 (pc.letter : Int), .int .i64 pc.worth, .slice A1 pc.ways.length c1]
        have k2 := Blk.new wr 77 #[.int .u8 (pc.letter : Int), .int .i64 pc.worth, .slice A2 pc.ways.length c2]
        have k3 := Blk.new (wr.alloc (.cells #[.int .u8 (pc.letter : Int), .int .i64 pc.worth, .slice A1 pc.ways.length c1] 77)) 77 #[.int .u8 (pc.letter : Int), .int .i64 pc.worth, .slice A2 pc.ways.length c2]
        have k4 := Blk.new (wr.alloc (.cells #[.int .u8 (pc.letter : Int), .int .i64 pc.worth, .slice A2 pc.ways.length c2] 77)) 77 #[.int .u8 (pc.letter : Int), .int .i64 pc.worth, .slice A1 pc.ways.length c1]
        rw [World.size_alloc] at k3 k4
        have HK := hide (And.intro k1 (And.intro k2 (And.intro k3 k4)))
        clear k1 k2 k3 k4
        go_big_region
        · go_wp2_with fail
          go_meet
          case rel => exact ⟨_, _, rfl, rfl, (HK.out.1.alloc _), HK.out.2.2.1, ((Later.rfl.alloc _).alloc _).drew⟩
        · go_wp2_with fail
          go_meet
          case rel => exact ⟨_, _, rfl, rfl, HK.out.2.2.2, (HK.out.2.1.alloc _), ((Later.rfl.alloc _).alloc _).drew⟩
      case rest =>
        obtain ⟨gx, gy, rfl, rfl, hbx, hby, hl⟩ := hcut
        rename World => w2
        have HS2 := hide (HSr.out.step hl)
        have Hv1 := hide (Hw1.out.below (Below.mono hl hsz))
        have Hv2 := hide (Hw2.out.below (Below.mono hl hsz))
        have Hbx := hide hbx
        have Hby := hide hby
        clear x0 x1 x2 x3 x4 x5 x6 x7 x8 x9 x10 x11 x12 y0 y1 y2 y3 y4 y5 y6 y7 y8 y9 y10 y11 y12 z0 z1 z2 v0 v1 v2 g1 g2 g3 g4 Hw1 Hw2 HSr hbx hby hl
        obtain ⟨z0, z1, z2, -⟩ := Blk.three_ Hbx.out
        obtain ⟨v0, v1, v2, -⟩ := Blk.three_ Hby.out
        go_upto_region 9 with (fail)
        go_wp2_with fail
        clear z0 z1 z2 v0 v1 v2
        go_loopw [8] (fun kv wq => ∃ k : Nat, k ≤ pc.ways.length ∧ kv = .int .i64 (k : Int) ∧ Later w2 wq) (fun kv _ => pc.ways.length - (intOf kv).toNat)
        case atStart => exact ⟨0, by omega, rfl, Later.rfl⟩
        case round =>
          rename World => wq
          obtain ⟨k, hkl, rfl, hlq⟩ := hrel
          have Hlq := hide hlq
          have hbq1 := hlq.blk Hbx.out
          have hbq2 := hlq.blk Hby.out
          obtain ⟨z0, z1, z2, -⟩ := Blk.three_ hbq1
          obtain ⟨v0, v1, v2, -⟩ := Blk.three_ hbq2
          have hws1 := Hv1.out.below (Below.mono hlq (HS2.out.l.size))
          have hws2 := Hv2.out.below (Below.mono hlq (HS2.out.l.size))
          clear hbq1 hbq2 hlq
          by_cases hk : k < pc.ways.length
          · have d2 : decide ((k : Int) < (pc.ways.length : Int)) = true := by simp; omega
            have d2n : decide (k < pc.ways.length) = true := by simp; omega
            have k0 : (0 : Int) ≤ (k : Int) := by omega
            have k1 : (k : Int) < (pc.ways.length : Int) := by omega
            obtain ⟨b3, o3, rfl, hb3, s0, s1, s2, s3⟩ := ways_at hws1 hk
            obtain ⟨b4, o4, rfl, hb4, t0, t1, t2, t3⟩ := ways_at hws2 hk
            obtain ⟨wy, hwy⟩ : ∃ wy, pc.ways[k] = wy := ⟨_, rfl⟩
            rw [hwy] at s0 s1 s2 s3 t0 t1 t2 t3
            clear hwy hws1 hws2
            go_upto_region 12 with (fail)
            go_big_region
            go_wp2_with fail
            go_roundw
            case rel => exact ⟨k + 1, by omega, by go_num, Hlq.out.drew⟩
            case measure => simp [intOf]; omega
          · have d2 : decide ((k : Int) < (pc.ways.length : Int)) = false := by simp; omega
            have d2n : decide (k < pc.ways.length) = false := by simp; omega
            have HS3 := hide (HS2.out.step Hlq.out)
            clear hws1 hws2
            go_wp2_with fail
            go_roundw
            case rel => exact ⟨i + 1, by omega, by go_num, HS3.out⟩
            case measure => simp [intOf]; omega
    · have d1 : decide ((i : Int) < (r.pieces.length : Int)) = false := by simp; omega
      have d1n : decide (i < r.pieces.length) = false := by simp; omega
      go_wp2_with fail
      go_ret
      exact ⟨rfl, HSr.out.l⟩
end Go.Proofs.YtcdfeaodfmfdnaaGreatDoor
namespace Go.Proofs.YtcdfeaodfmfdnaaGreatDoor
open Go.RowKit

theorem textR_inj {r r0 : RulesD} (h : RulesOk r) (h0 : RulesOk r0) (e : textR r = textR r0) : r = r0 := by
  have e1 := textR_split h
  rw [e, textR_split h0] at e1
  have e2 := List.append_cancel_right e1
  exact (rd_one (rules_read h) (e2 ▸ rules_read h0)).2
theorem ok_fit {r : RulesD} (h : RulesOk r) : RFit r := by
  have h1 := (up_len h 8).2
  exact rd_fit (N := 400) (rules_read h) h1 (by omega) (by have := h.p10; omega)
theorem read_text (r0 : RulesD) (s : ByteArray) (W : World) (h0 : RulesOk r0) (hs : s.data.toList = textR r0) (hsz : s.size < 4294967281) (he : Env W) :
    Calls Tryz.prog 10 #[.string s] W fun e w' => ∃ (A : Option Addr) (c : Nat) (at_ : Int), e = .returned (.tuple #[.agg #[.int .i64 r0.start.w, .int .i64 r0.start.h, .string r0.start.cells, .int .i64 r0.start.turn, .string r0.start.h0, .string r0.start.h1, .slice A r0.pieces.length c, .bool r0.drops, .int .u8 (r0.lose : Int), .int .i64 r0.line, .int .u8 (r0.reach : Int), .bool r0.stuck, .int .i64 r0.plies], .agg #[.int .i64 0, .int .i64 at_]]) ∧ r0.pieces.length ≤ c ∧ PiecesAt w' w'.heap.size A r0.pieces ∧ Only (fun _ => False) W w' := by
  refine (rread_any s W hsz he).mono fun e w' ⟨r, A, c, code, at_, he', hok, hno, _, ho⟩ => ?_
  by_cases hc : code = 0
  · obtain ⟨h1, h2, h3, h4⟩ := hok hc
    have e1 := textR_inj h0 h1 (hs.symm.trans h2)
    subst e1
    subst hc
    exact ⟨A, c, at_, he', h3, h4, ho⟩
  · exact absurd ⟨r0, h0, hs⟩ (hno hc).2
/-- the closed text -/
def litR : RulesD := ⟨⟨1, 1, ⟨#[75]⟩, 0, ⟨#[]⟩, ⟨#[]⟩⟩, [⟨75, 3, []⟩], false, 0, 0, 0, false, 9⟩
theorem lit_ok : RulesOk litR := by
  refine ⟨⟨by decide, by decide, by decide, by decide, by decide, by decide, by decide, ?_, ?_, ?_⟩, by decide, by decide, .inl rfl, by decide, by decide, fun i hi => ?_, .inl rfl, .inl rfl, ?_⟩
  · exact handB_true.2 (show HandOk [] from ⟨by decide, fun k h => by simp at h, fun k h => by simp at h⟩)
  · exact handB_true.2 (show HandOk [] from ⟨by decide, fun k h => by simp at h, fun k h => by simp at h⟩)
  · exact show CellsOk [75] from fun k h => by
      have : k = 0 := by simpa using h
      subst this; exact (by decide : cellB (75 : UInt8).toNat = true)
  · have : i = 0 := by simpa [litR] using hi
    subst this
    exact (⟨by decide, by decide, by decide, by decide, by decide, fun k h => by simp at h⟩ : PieceOk litR.pieces 0 ⟨75, 3, []⟩)
  · have e : litR.start.all = [75] := by decide
    rw [e]
    intro k h
    have : k = 0 := by simpa using h
    subst this
    exact .inr (by decide : (pieceX litR.pieces (75 : UInt8).toNat).isSome = true)
theorem lit_text : (⟨#[115, 116, 97, 114, 116, 32, 75, 32, 119, 32, 45, 47, 45, 10, 112, 105, 101, 99, 101, 32, 75, 32, 51, 10, 112, 108, 105, 101, 115, 32, 57, 10]⟩ : ByteArray).data.toList = textR litR := by decide +kernel
end Go.Proofs.YtcdfeaodfmfdnaaGreatDoor
namespace Go.Proofs.YtcdfeaodfmfdnaaGreatDoor
open Go.RowKit

set_option maxHeartbeats 16000000 in
set_option maxRecDepth 100000 in
theorem rt_any (HD : DLine) (r : RulesD) (A : Option Addr) (cp : Nat) (s : ByteArray) (W : World) (hf : RFit r) (hs : s.size < 4294967281) (he : Env W) (hP : PiecesAt W W.heap.size A r.pieces) :
    Calls Tryz.prog 3 #[.agg #[.int .i64 r.start.w, .int .i64 r.start.h, .string r.start.cells, .int .i64 r.start.turn, .string r.start.h0, .string r.start.h1, .slice A r.pieces.length cp, .bool r.drops, .int .u8 (r.lose : Int), .int .i64 r.line, .int .u8 (r.reach : Int), .bool r.stuck, .int .i64 r.plies], .string s] W fun e w' => e = .returned (.bool true) ∧ Only (fun _ => False) W w' := by
  have hbig := he.big
  have HP1 := hide (show WrS W r A cp (W.alloc (.cells #[.int .i64 r.start.w, .int .i64 r.start.h, .string r.start.cells, .int .i64 r.start.turn, .string r.start.h0, .string r.start.h1, .slice A r.pieces.length cp, .bool r.drops, .int .u8 (r.lose : Int), .int .i64 r.line, .int .u8 (r.reach : Int), .bool r.stuck, .int .i64 r.plies] 27)) from (by
    have ho : Only (fun _ => False) W (W.alloc (.cells #[.int .i64 r.start.w, .int .i64 r.start.h, .string r.start.cells, .int .i64 r.start.turn, .string r.start.h0, .string r.start.h1, .slice A r.pieces.length cp, .bool r.drops, .int .u8 (r.lose : Int), .int .i64 r.line, .int .u8 (r.reach : Int), .bool r.stuck, .int .i64 r.plies] 27)) := (Only.refl _ W).alloc _
    exact ⟨ho, he.no ho, Blk.new W _ _, hP.low ho (fun _ h => h.elim) (Nat.le_refl _), by rw [World.size_alloc]; omega⟩))
  have Hf := hide hf
  clear hP he hf
  go_enter Tryz.func3, Tryz.ntmps3
  go_upto_region 1 with (fail)
  obtain ⟨w1, hw1⟩ : ∃ w1, W.alloc (.cells #[.int .i64 r.start.w, .int .i64 r.start.h, .string r.start.cells, .int .i64 r.start.turn, .string r.start.h0, .string r.start.h1, .slice A r.pieces.length cp, .bool r.drops, .int .u8 (r.lose : Int), .int .i64 r.line, .int .u8 (r.reach : Int), .bool r.stuck, .int .i64 r.plies] 27) = w1 := ⟨_, rfl⟩
  rw [hw1] at HP1 ⊢
  clear hw1
  obtain ⟨y0, y1, y2, y3, y4, y5, y6, y7, y8, y9, y10, y11, y12⟩ := Blk.rules HP1.out.b
  by_cases hr : RulesOk r
  · have HW := hide (rwrite_ok r A cp w1 hr Hf.out HP1.out.e (HP1.out.p.more HP1.out.o.size))
    obtain ⟨tx, htx⟩ : ∃ tx, bytes (textR r) = tx := ⟨_, rfl⟩
    have Htx := hide htx
    rw [htx] at HW
    have Hr := hide hr
    clear htx hr
    go_upto_region 2 with (go_at_call 9; refine HW.out.mono ?_; rintro e w2 ⟨rfl, ho2⟩; have HP2 := hide (HP1.out.no hbig ho2); clear ho2)
    clear y0 y1 y2 y3 y4 y5 y6 y7 y8 y9 y10 y11 y12 HP1 HW
    have HRA := hide (rread_any s w2 hs HP2.out.e)
    go_upto_region 3 with (go_at_call 10; refine HRA.out.mono ?_; rintro e w3 ⟨r2, A2, c2, code, at2, rfl, hok, hno, hrq, ho3⟩; have Hok := hide hok; have Hno := hide hno; have Hrq := hide hrq; have HP3 := hide (HP2.out.no hbig ho3); clear hok hno hrq ho3; unfold ruC)
    have hal : Only (fun _ => False) w3 ((w3.alloc (.cells #[.int .i64 r2.start.w, .int .i64 r2.start.h, .string r2.start.cells, .int .i64 r2.start.turn, .string r2.start.h0, .string r2.start.h1, .slice A2 r2.pieces.length c2, .bool r2.drops, .int .u8 (r2.lose : Int), .int .i64 r2.line, .int .u8 (r2.reach : Int), .bool r2.stuck, .int .i64 r2.plies] 27)).alloc (.cells #[.int .i64 code, .int .i64 at2] 32)) := ((Only.refl _ w3).alloc _).alloc _
    have hbr := (Blk.new w3 27 #[.int .i64 r2.start.w, .int .i64 r2.start.h, .string r2.start.cells, .int .i64 r2.start.turn, .string r2.start.h0, .string r2.start.h1, .slice A2 r2.pieces.length c2, .bool r2.drops, .int .u8 (r2.lose : Int), .int .i64 r2.line, .int .u8 (r2.reach : Int), .bool r2.stuck, .int .i64 r2.plies]).alloc (.cells #[.int .i64 code, .int .i64 at2] 32)
    have hbf := Blk.new (w3.alloc (.cells #[.int .i64 r2.start.w, .int .i64 r2.start.h, .string r2.start.cells, .int .i64 r2.start.turn, .string r2.start.h0, .string r2.start.h1, .slice A2 r2.pieces.length c2, .bool r2.drops, .int .u8 (r2.lose : Int), .int .i64 r2.line, .int .u8 (r2.reach : Int), .bool r2.stuck, .int .i64 r2.plies] 27)) 32 #[.int .i64 code, .int .i64 at2]
    rw [World.size_alloc] at hbf
    obtain ⟨w4, hw4⟩ : ∃ w4, (w3.alloc (.cells #[.int .i64 r2.start.w, .int .i64 r2.start.h, .string r2.start.cells, .int .i64 r2.start.turn, .string r2.start.h0, .string r2.start.h1, .slice A2 r2.pieces.length c2, .bool r2.drops, .int .u8 (r2.lose : Int), .int .i64 r2.line, .int .u8 (r2.reach : Int), .bool r2.stuck, .int .i64 r2.plies] 27)).alloc (.cells #[.int .i64 code, .int .i64 at2] 32) = w4 := ⟨_, rfl⟩
    obtain ⟨g4, hg4⟩ : ∃ g4, w3.heap.size = g4 := ⟨_, rfl⟩
    rw [hw4] at hal hbr hbf ⊢
    rw [hg4] at hbr hbf ⊢
    have HBr := hide hbr
    have HBf := hide hbf
    have Hal := hide hal
    clear hw4 hg4 hal hbr hbf
    have HP4 := hide (HP3.out.no hbig Hal.out)
    have Hpa := hide (show PiecesAt w4 w3.heap.size A2 r2.pieces from by
      by_cases hc : code = 0
      · exact (Hok.out hc).2.2.2.low Hal.out (fun _ h => h.elim) (Nat.le_refl _)
      · rw [(Hno.out hc).1]; exact ⟨[], rfl, Cells.nil_, fun k hk => by simp [zeroR] at hk⟩)
    have Hsz := hide Hal.out.size
    have HB4 := HBr
    have HF4 := HBf
    clear HP3 Hal HRA HP2 HBr HBf
    have HOF := hide (rof_any HD s w4 hs HP4.out.e)
    go_upto_region 4 with (go_at_call 11; refine HOF.out.mono ?_; rintro e w5 ⟨r3, A3, c3, code3, at3, rfl, hrq3, hk3, hz3, hp3, ho5⟩; have HP5 := hide (HP4.out.no hbig ho5); have Hp3 := hide hp3; have Ho5 := hide ho5; obtain ⟨e1, e2, e3⟩ := readQ_one hrq3 Hrq.out; subst e1 e2 e3; clear hrq3 hk3 hz3 hp3 ho5; unfold ruC)
    have hal : Only (fun _ => False) w5 ((w5.alloc (.cells #[.int .i64 r3.start.w, .int .i64 r3.start.h, .string r3.start.cells, .int .i64 r3.start.turn, .string r3.start.h0, .string r3.start.h1, .slice A3 r3.pieces.length c3, .bool r3.drops, .int .u8 (r3.lose : Int), .int .i64 r3.line, .int .u8 (r3.reach : Int), .bool r3.stuck, .int .i64 r3.plies] 27)).alloc (.cells #[.int .i64 code3, .int .i64 at3] 32)) := ((Only.refl _ w5).alloc _).alloc _
    have hbr := (Blk.new w5 27 #[.int .i64 r3.start.w, .int .i64 r3.start.h, .string r3.start.cells, .int .i64 r3.start.turn, .string r3.start.h0, .string r3.start.h1, .slice A3 r3.pieces.length c3, .bool r3.drops, .int .u8 (r3.lose : Int), .int .i64 r3.line, .int .u8 (r3.reach : Int), .bool r3.stuck, .int .i64 r3.plies]).alloc (.cells #[.int .i64 code3, .int .i64 at3] 32)
    have hbf := Blk.new (w5.alloc (.cells #[.int .i64 r3.start.w, .int .i64 r3.start.h, .string r3.start.cells, .int .i64 r3.start.turn, .string r3.start.h0, .string r3.start.h1, .slice A3 r3.pieces.length c3, .bool r3.drops, .int .u8 (r3.lose : Int), .int .i64 r3.line, .int .u8 (r3.reach : Int), .bool r3.stuck, .int .i64 r3.plies] 27)) 32 #[.int .i64 code3, .int .i64 at3]
    rw [World.size_alloc] at hbf
    obtain ⟨w6, hw6⟩ : ∃ w6, (w5.alloc (.cells #[.int .i64 r3.start.w, .int .i64 r3.start.h, .string r3.start.cells, .int .i64 r3.start.turn, .string r3.start.h0, .string r3.start.h1, .slice A3 r3.pieces.length c3, .bool r3.drops, .int .u8 (r3.lose : Int), .int .i64 r3.line, .int .u8 (r3.reach : Int), .bool r3.stuck, .int .i64 r3.plies] 27)).alloc (.cells #[.int .i64 code3, .int .i64 at3] 32) = w6 := ⟨_, rfl⟩
    obtain ⟨g6, hg6⟩ : ∃ g6, w5.heap.size = g6 := ⟨_, rfl⟩
    rw [hw6] at hal hbr hbf ⊢
    rw [hg6] at hbr hbf ⊢
    have HBr := hide hbr
    have HBf := hide hbf
    have Hal := hide hal
    clear hw6 hg6 hal hbr hbf
    have HP6 := hide (HP5.out.no hbig Hal.out)
    have HB4' := hide ((HB4.out.only Ho5.out (fun h => h)).only Hal.out (fun h => h))
    have HF4' := hide ((HF4.out.only Ho5.out (fun h => h)).only Hal.out (fun h => h))
    have hpb := (Hp3.out.low Hal.out (fun _ h => h.elim) (Nat.le_refl _)).more Hal.out.size
    have hpa := ((Hpa.out.low Ho5.out (fun _ h => h.elim) Hsz.out).low Hal.out (fun _ h => h.elim) (Nat.le_trans Hsz.out Ho5.out.size)).more (Nat.le_trans Hsz.out (Nat.le_trans Ho5.out.size Hal.out.size))
    have hf3 : RFit r3 := by
      by_cases hc : code3 = 0
      · exact ok_fit (Hok.out hc).1
      · rw [(Hno.out hc).1]
        exact ⟨by decide, by decide, by decide, by simp [zeroR], fun k hk => by simp [zeroR] at hk⟩
    have HSM := hide (same_rules r3 A2 A3 c2 c3 w6 hf3 hpa hpb)
    obtain ⟨y0, y1, y2, y3, y4, y5, y6, y7, y8, y9, y10, y11, y12⟩ := Blk.rules HB4'.out
    obtain ⟨x0, x1, x2, x3, x4, x5, x6, x7, x8, x9, x10, x11, x12⟩ := Blk.rules HBr.out
    obtain ⟨q0, q1, -⟩ := Blk.two_ HF4'.out
    obtain ⟨p0, p1, -⟩ := Blk.two_ HBf.out
    clear hpa hpb hf3 HOF HP5 HP4 HB4 HF4 Hpa Hp3
    go_upto_region 6 with (go_at_call 12; refine HSM.out.mono ?_; rintro e w7 ⟨rfl, hl7⟩; have HP7 := hide (HP6.out.no hbig (Only.of_below hl7 (fun k h1 h2 => by omega))); clear hl7)
    clear y0 y1 y2 y3 y4 y5 y6 y7 y8 y9 y10 y11 y12 x0 x1 x2 x3 x4 x5 x6 x7 x8 x9 x10 x11 x12 q0 q1 p0 p1 HB4' HF4' HBr HBf HSM HP6
    obtain ⟨y0, y1, y2, y3, y4, y5, y6, y7, y8, y9, y10, y11, y12⟩ := Blk.rules HP7.out.b
    have HRU := hide (rules_any r A cp w7 Hf.out (HP7.out.p.more HP7.out.o.size))
    rw [rulesB_true.2 Hr.out] at HRU
    have HCK := hide (fun w (h : WrS W r A cp w) => check_any r A cp w Hf.out (h.p.more h.o.size))
    rw [show codeN (rulesB r) = 0 from by rw [rulesB_true.2 Hr.out]; rfl] at HCK
    have HTX := hide (fun w (h : WrS W r A cp w) => rtext_any r A cp w Hr.out h.e (h.p.more h.o.size))
    rw [Htx.out] at HTX
    go_upto_region 8 with (go_at_call 13; refine HRU.out.mono ?_; rintro e w8 ⟨rfl, hl8⟩; have HP8 := hide (HP7.out.no hbig (Only.of_below hl8 (fun k h1 h2 => by omega))); clear hl8)
    clear y0 y1 y2 y3 y4 y5 y6 y7 y8 y9 y10 y11 y12
    obtain ⟨y0, y1, y2, y3, y4, y5, y6, y7, y8, y9, y10, y11, y12⟩ := Blk.rules HP8.out.b
    go_wp2_with (first | (go_at_call 15; refine (HTX.out _ HP8.out).mono ?_; rintro e w9 ⟨rfl, ho9⟩; have HP9 := hide (HP8.out.no hbig ho9); clear ho9 y0 y1 y2 y3 y4 y5 y6 y7 y8 y9 y10 y11 y12; obtain ⟨y0, y1, y2, y3, y4, y5, y6, y7, y8, y9, y10, y11, y12⟩ := Blk.rules HP9.out.b) | (go_at_call 14; refine (HCK.out _ HP9.out).mono ?_; rintro e w10 ⟨rfl, hl10⟩; have HP10 := hide (HP9.out.no hbig (Only.of_below hl10 (fun k h1 h2 => by omega))); clear hl10))
    go_ret
    exact ⟨rfl, HP10.out.o⟩
  · have HW := hide (rwrite_no r A cp w1 hr Hf.out (HP1.out.p.more HP1.out.o.size))
    have Hr := hide hr
    clear hr
    go_upto_region 2 with (go_at_call 9; refine HW.out.mono ?_; rintro e w2 ⟨rfl, hl2⟩; have HP2 := hide (HP1.out.no hbig (Only.of_below hl2 (fun k h1 h2 => by omega))); clear hl2)
    clear y0 y1 y2 y3 y4 y5 y6 y7 y8 y9 y10 y11 y12 HP1 HW
    have HRA := hide (rread_any s w2 hs HP2.out.e)
    go_upto_region 3 with (go_at_call 10; refine HRA.out.mono ?_; rintro e w3 ⟨r2, A2, c2, code, at2, rfl, hok, hno, hrq, ho3⟩; have Hok := hide hok; have Hno := hide hno; have Hrq := hide hrq; have HP3 := hide (HP2.out.no hbig ho3); clear hok hno hrq ho3; unfold ruC)
    have hal : Only (fun _ => False) w3 ((w3.alloc (.cells #[.int .i64 r2.start.w, .int .i64 r2.start.h, .string r2.start.cells, .int .i64 r2.start.turn, .string r2.start.h0, .string r2.start.h1, .slice A2 r2.pieces.length c2, .bool r2.drops, .int .u8 (r2.lose : Int), .int .i64 r2.line, .int .u8 (r2.reach : Int), .bool r2.stuck, .int .i64 r2.plies] 27)).alloc (.cells #[.int .i64 code, .int .i64 at2] 32)) := ((Only.refl _ w3).alloc _).alloc _
    have hbr := (Blk.new w3 27 #[.int .i64 r2.start.w, .int .i64 r2.start.h, .string r2.start.cells, .int .i64 r2.start.turn, .string r2.start.h0, .string r2.start.h1, .slice A2 r2.pieces.length c2, .bool r2.drops, .int .u8 (r2.lose : Int), .int .i64 r2.line, .int .u8 (r2.reach : Int), .bool r2.stuck, .int .i64 r2.plies]).alloc (.cells #[.int .i64 code, .int .i64 at2] 32)
    have hbf := Blk.new (w3.alloc (.cells #[.int .i64 r2.start.w, .int .i64 r2.start.h, .string r2.start.cells, .int .i64 r2.start.turn, .string r2.start.h0, .string r2.start.h1, .slice A2 r2.pieces.length c2, .bool r2.drops, .int .u8 (r2.lose : Int), .int .i64 r2.line, .int .u8 (r2.reach : Int), .bool r2.stuck, .int .i64 r2.plies] 27)) 32 #[.int .i64 code, .int .i64 at2]
    rw [World.size_alloc] at hbf
    obtain ⟨w4, hw4⟩ : ∃ w4, (w3.alloc (.cells #[.int .i64 r2.start.w, .int .i64 r2.start.h, .string r2.start.cells, .int .i64 r2.start.turn, .string r2.start.h0, .string r2.start.h1, .slice A2 r2.pieces.length c2, .bool r2.drops, .int .u8 (r2.lose : Int), .int .i64 r2.line, .int .u8 (r2.reach : Int), .bool r2.stuck, .int .i64 r2.plies] 27)).alloc (.cells #[.int .i64 code, .int .i64 at2] 32) = w4 := ⟨_, rfl⟩
    obtain ⟨g4, hg4⟩ : ∃ g4, w3.heap.size = g4 := ⟨_, rfl⟩
    rw [hw4] at hal hbr hbf ⊢
    rw [hg4] at hbr hbf ⊢
    have HBr := hide hbr
    have HBf := hide hbf
    have Hal := hide hal
    clear hw4 hg4 hal hbr hbf
    have HP4 := hide (HP3.out.no hbig Hal.out)
    have Hpa := hide (show PiecesAt w4 w3.heap.size A2 r2.pieces from by
      by_cases hc : code = 0
      · exact (Hok.out hc).2.2.2.low Hal.out (fun _ h => h.elim) (Nat.le_refl _)
      · rw [(Hno.out hc).1]; exact ⟨[], rfl, Cells.nil_, fun k hk => by simp [zeroR] at hk⟩)
    have Hsz := hide Hal.out.size
    have HB4 := HBr
    have HF4 := HBf
    clear HP3 Hal HRA HP2 HBr HBf
    have HOF := hide (rof_any HD s w4 hs HP4.out.e)
    go_upto_region 4 with (go_at_call 11; refine HOF.out.mono ?_; rintro e w5 ⟨r3, A3, c3, code3, at3, rfl, hrq3, hk3, hz3, hp3, ho5⟩; have HP5 := hide (HP4.out.no hbig ho5); have Hp3 := hide hp3; have Ho5 := hide ho5; obtain ⟨e1, e2, e3⟩ := readQ_one hrq3 Hrq.out; subst e1 e2 e3; clear hrq3 hk3 hz3 hp3 ho5; unfold ruC)
    have hal : Only (fun _ => False) w5 ((w5.alloc (.cells #[.int .i64 r3.start.w, .int .i64 r3.start.h, .string r3.start.cells, .int .i64 r3.start.turn, .string r3.start.h0, .string r3.start.h1, .slice A3 r3.pieces.length c3, .bool r3.drops, .int .u8 (r3.lose : Int), .int .i64 r3.line, .int .u8 (r3.reach : Int), .bool r3.stuck, .int .i64 r3.plies] 27)).alloc (.cells #[.int .i64 code3, .int .i64 at3] 32)) := ((Only.refl _ w5).alloc _).alloc _
    have hbr := (Blk.new w5 27 #[.int .i64 r3.start.w, .int .i64 r3.start.h, .string r3.start.cells, .int .i64 r3.start.turn, .string r3.start.h0, .string r3.start.h1, .slice A3 r3.pieces.length c3, .bool r3.drops, .int .u8 (r3.lose : Int), .int .i64 r3.line, .int .u8 (r3.reach : Int), .bool r3.stuck, .int .i64 r3.plies]).alloc (.cells #[.int .i64 code3, .int .i64 at3] 32)
    have hbf := Blk.new (w5.alloc (.cells #[.int .i64 r3.start.w, .int .i64 r3.start.h, .string r3.start.cells, .int .i64 r3.start.turn, .string r3.start.h0, .string r3.start.h1, .slice A3 r3.pieces.length c3, .bool r3.drops, .int .u8 (r3.lose : Int), .int .i64 r3.line, .int .u8 (r3.reach : Int), .bool r3.stuck, .int .i64 r3.plies] 27)) 32 #[.int .i64 code3, .int .i64 at3]
    rw [World.size_alloc] at hbf
    obtain ⟨w6, hw6⟩ : ∃ w6, (w5.alloc (.cells #[.int .i64 r3.start.w, .int .i64 r3.start.h, .string r3.start.cells, .int .i64 r3.start.turn, .string r3.start.h0, .string r3.start.h1, .slice A3 r3.pieces.length c3, .bool r3.drops, .int .u8 (r3.lose : Int), .int .i64 r3.line, .int .u8 (r3.reach : Int), .bool r3.stuck, .int .i64 r3.plies] 27)).alloc (.cells #[.int .i64 code3, .int .i64 at3] 32) = w6 := ⟨_, rfl⟩
    obtain ⟨g6, hg6⟩ : ∃ g6, w5.heap.size = g6 := ⟨_, rfl⟩
    rw [hw6] at hal hbr hbf ⊢
    rw [hg6] at hbr hbf ⊢
    have HBr := hide hbr
    have HBf := hide hbf
    have Hal := hide hal
    clear hw6 hg6 hal hbr hbf
    have HP6 := hide (HP5.out.no hbig Hal.out)
    have HB4' := hide ((HB4.out.only Ho5.out (fun h => h)).only Hal.out (fun h => h))
    have HF4' := hide ((HF4.out.only Ho5.out (fun h => h)).only Hal.out (fun h => h))
    have hpb := (Hp3.out.low Hal.out (fun _ h => h.elim) (Nat.le_refl _)).more Hal.out.size
    have hpa := ((Hpa.out.low Ho5.out (fun _ h => h.elim) Hsz.out).low Hal.out (fun _ h => h.elim) (Nat.le_trans Hsz.out Ho5.out.size)).more (Nat.le_trans Hsz.out (Nat.le_trans Ho5.out.size Hal.out.size))
    have hf3 : RFit r3 := by
      by_cases hc : code3 = 0
      · exact ok_fit (Hok.out hc).1
      · rw [(Hno.out hc).1]
        exact ⟨by decide, by decide, by decide, by simp [zeroR], fun k hk => by simp [zeroR] at hk⟩
    have HSM := hide (same_rules r3 A2 A3 c2 c3 w6 hf3 hpa hpb)
    obtain ⟨y0, y1, y2, y3, y4, y5, y6, y7, y8, y9, y10, y11, y12⟩ := Blk.rules HB4'.out
    obtain ⟨x0, x1, x2, x3, x4, x5, x6, x7, x8, x9, x10, x11, x12⟩ := Blk.rules HBr.out
    obtain ⟨q0, q1, -⟩ := Blk.two_ HF4'.out
    obtain ⟨p0, p1, -⟩ := Blk.two_ HBf.out
    clear hpa hpb hf3 HOF HP5 HP4 HB4 HF4 Hpa Hp3
    go_upto_region 6 with (go_at_call 12; refine HSM.out.mono ?_; rintro e w7 ⟨rfl, hl7⟩; have HP7 := hide (HP6.out.no hbig (Only.of_below hl7 (fun k h1 h2 => by omega))); clear hl7)
    clear y0 y1 y2 y3 y4 y5 y6 y7 y8 y9 y10 y11 y12 x0 x1 x2 x3 x4 x5 x6 x7 x8 x9 x10 x11 x12 q0 q1 p0 p1 HB4' HF4' HBr HBf HSM HP6
    obtain ⟨y0, y1, y2, y3, y4, y5, y6, y7, y8, y9, y10, y11, y12⟩ := Blk.rules HP7.out.b
    have HRU := hide (rules_any r A cp w7 Hf.out (HP7.out.p.more HP7.out.o.size))
    rw [rulesB_false.2 Hr.out] at HRU
    have HCK := hide (fun w (h : WrS W r A cp w) => check_any r A cp w Hf.out (h.p.more h.o.size))
    rw [show codeN (rulesB r) = 1 from by rw [rulesB_false.2 Hr.out]; rfl] at HCK
    go_upto_region 7 with (go_at_call 13; refine HRU.out.mono ?_; rintro e w8 ⟨rfl, hl8⟩; have HP8 := hide (HP7.out.no hbig (Only.of_below hl8 (fun k h1 h2 => by omega))); clear hl8)
    clear y0 y1 y2 y3 y4 y5 y6 y7 y8 y9 y10 y11 y12
    obtain ⟨y0, y1, y2, y3, y4, y5, y6, y7, y8, y9, y10, y11, y12⟩ := Blk.rules HP8.out.b
    go_wp2_with (go_at_call 14; refine (HCK.out _ HP8.out).mono ?_; rintro e w10 ⟨rfl, hl10⟩; have HP10 := hide (HP8.out.no hbig (Only.of_below hl10 (fun k h1 h2 => by omega))); clear hl10)
    go_ret
    exact ⟨rfl, HP10.out.o⟩
end Go.Proofs.YtcdfeaodfmfdnaaGreatDoor
namespace Go.Proofs.YtcdfeaodfmfdnaaGreatDoor
open Go.RowKit

theorem dpiece_any : DPiece := by
  intro b B s r W hs he hr hbB hBW hn q0 qp
  obtain ⟨sv, hs', hB, hP⟩ := hr
  obtain ⟨⟨w, h, c, t, h0, h1⟩, ps, dr, lo, li, re, st, pl⟩ := r
  simp only at hn
  obtain ⟨e, hown, hcells⟩ := id hP
  have hq := qp
  unfold askP at hq
  simp only [Bool.and_eq_true, decide_eq_true_eq] at hq
  obtain ⟨h3, hw, hl1, hu⟩ := hq
  obtain ⟨ch, hch⟩ := List.length_eq_one_iff.1 hl1
  rw [hch] at hu
  have key : ∀ (W' : World) (e' : Ending), PieceDoc b B ps.length (cellsP ps hs') s sv (fun v => #[.int .i64 w, .int .i64 h, .string c, .int .i64 t, .string h0, .string h1, v, .bool dr, .int .u8 (lo : Int), .int .i64 li, .int .u8 (re : Int), .bool st, .int .i64 pl]) W e' W' → LineDoc s b B ⟨⟨w, h, c, t, h0, h1⟩, ps, dr, lo, li, re, st, pl⟩ W e' W' := by
    rintro W' e' ⟨rank, rfl, ho, hrk⟩
    refine ⟨rank, rfl, ?_, ho.mono (fun x hx h => h.imp id (fun h2 => (hown.lt x h2).1))⟩
    rcases hrk with ⟨rfl, hno⟩ | ⟨rfl, p, sv', wv, hin, hl, hb, hown', hwn, hg⟩
    · refine .inl ⟨rfl, fun k r' hk => ?_⟩
      obtain rfl := not_kind (by omega) hw hk
      obtain ⟨p', hp', hx, _⟩ := hk
      exact hno p' hp' hx
    · obtain ⟨hs2, hP2⟩ := PcsOwn.push hP hbB hBW hown' hwn hg ho
      exact .inr ⟨1, _, rfl, ⟨p, hin, hl, rfl⟩, sv', hs2, hb, hP2⟩
  by_cases hk0 : Lib.index s.data.toList [58, 32] < 0
  · exact (dl_piecen b s w h t li pl c h0 h1 sv dr st lo re W hs he hB B ps.length (cellsP ps hs') hbB hBW hn hown q0 h3 hw ch hch hu _ hk0 rfl).mono (fun e' W' hd => key W' e' hd)
  · obtain ⟨j, hj⟩ : ∃ j : Nat, Lib.index s.data.toList [58, 32] = j := ⟨(Lib.index s.data.toList [58, 32]).toNat, by omega⟩
    exact (dl_piecey b s w h t li pl c h0 h1 sv dr st lo re W hs he hB B ps.length (cellsP ps hs') hbB hBW hn hown q0 h3 hw ch hch hu j hj).mono (fun e' W' hd => key W' e' hd)
end Go.Proofs.YtcdfeaodfmfdnaaGreatDoor
