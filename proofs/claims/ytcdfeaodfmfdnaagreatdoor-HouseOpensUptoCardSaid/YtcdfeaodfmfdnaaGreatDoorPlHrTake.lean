/- (*gameref.House).kind whole, and Take: walked. -/
import Derived.Test.YtcdfeaodfmfdnaaGreatDoorPlTk
import Derived.Test.YtcdfeaodfmfdnaaGreatDoorPlHrLoop
import Derived.Test.YtcdfeaodfmfdnaaGreatDoorPlBxWM
namespace Go.Proofs.YtcdfeaodfmfdnaaGreatDoor
open Go.RowKit

theorem rkind_any (h : Nat) (s : HoD) (A : Option Addr) (cp : Nat) (Q : Nat → Prop) (m : MsgD) (W : World) (hb : Blk W h 57 (rhC s A cp)) (hok : HoOk s) (hP : PAt W Q A s.r.pieces) (hQ : ¬ Q h) (hm0 : -9223372036854775808 ≤ m.at_) (hm1 : m.at_ ≤ 9223372036854775807) (h5 : 5 < h) (he : EnvH W) :
  Calls Tryz.prog 63 #[.pointer (some ⟨h, 0, none⟩), .agg #[.int .i64 m.seat, .int .i64 m.ply, .string m.mv, .int .i64 m.at_]] W (KindOut h s A cp m W) := by
 by_cases q : outP s = 0
 ·
  by_cases ql : leftP (passP s m.at_) < 0
  ·
   exact rkind_flag h s A cp Q m W hb hok hP hQ hm0 hm1 q ql
  ·
   by_cases qp : m.ply = s.ply
   ·
    by_cases qs : m.seat = s.p.turn
    ·
     exact rkind_look h s A cp Q m W hb hok hP hQ hm0 hm1 h5 he q (by omega) qp qs
    ·
     exact rkind_wait h s A cp Q m W hb hok hP hQ hm0 hm1 q (by omega) qp qs
   ·
    exact rkind_stale h s A cp Q m W hb hok hP hQ hm0 hm1 q (by omega) qp
 ·
  exact rkind_over h s A cp Q m W hb hok hP hQ q
theorem only_setrow {S : Nat → Prop} {W w : World} {g : Nat} {vs : Array Value} (h : Only S W w) (hg : S g) : Only S W (w.setRow g vs) :=
 h.trans ⟨rfl, rfl, rfl, by simp [World.setRow], fun k _ hk => setRow_other _ _ _ _ (fun e => hk (e ▸ hg))⟩
set_option maxHeartbeats 8000000 in
set_option maxRecDepth 100000 in
theorem rtake_any (h : Nat) (s : HoD) (A : Option Addr) (cp : Nat) (Q : Nat → Prop) (m : MsgD) (W : World) (hb : Blk W h 57 (rhC s A cp)) (hok : HoOk s) (hP : PAt W Q A s.r.pieces) (hQ : ¬ Q h) (hm0 : -9223372036854775808 ≤ m.at_) (hm1 : m.at_ ≤ 9223372036854775807) (h5 : 5 < h) (he : EnvH W) :
  Calls Tryz.prog 24 #[.pointer (some ⟨h, 0, none⟩), .agg #[.int .i64 m.seat, .int .i64 m.ply, .string m.mv, .int .i64 m.at_]] W fun e w' => e = .returned (.agg (repV (takeP s m))) ∧ Blk w' h 57 (rhC (takeP s m).1 A cp) ∧ Only (fun x => x = h) W w' := by
 have hhW : h < W.heap.size := hb.lt
 have Hl0 := hide (show Later W ((W.alloc (.cells #[.int .i64 m.seat, .int .i64 m.ply, .string m.mv, .int .i64 m.at_] 62)).alloc (.cells #[.int .i64 0, .int .i64 0, .int .i64 0, .string ⟨#[]⟩] 59)) from (Later.rfl.alloc _).alloc _)
 have Hm0 := hide (show Blk ((W.alloc (.cells #[.int .i64 m.seat, .int .i64 m.ply, .string m.mv, .int .i64 m.at_] 62)).alloc (.cells #[.int .i64 0, .int .i64 0, .int .i64 0, .string ⟨#[]⟩] 59)) W.heap.size 62 #[.int .i64 m.seat, .int .i64 m.ply, .string m.mv, .int .i64 m.at_] from (Blk.new W _ _).alloc _)
 have HZ0 := hide (show Blk ((W.alloc (.cells #[.int .i64 m.seat, .int .i64 m.ply, .string m.mv, .int .i64 m.at_] 62)).alloc (.cells #[.int .i64 0, .int .i64 0, .int .i64 0, .string ⟨#[]⟩] 59)) (W.heap.size + 1) 59 #[.int .i64 0, .int .i64 0, .int .i64 0, .string ⟨#[]⟩] from by
  have h := Blk.new (W.alloc (.cells #[.int .i64 m.seat, .int .i64 m.ply, .string m.mv, .int .i64 m.at_] 62)) 59 #[.int .i64 0, .int .i64 0, .int .i64 0, .string ⟨#[]⟩]
  rwa [World.size_alloc] at h)
 have HK := hide (rkind_any h s A cp Q m ((W.alloc (.cells #[.int .i64 m.seat, .int .i64 m.ply, .string m.mv, .int .i64 m.at_] 62)).alloc (.cells #[.int .i64 0, .int .i64 0, .int .i64 0, .string ⟨#[]⟩] 59)) (Later.blk Hl0.out hb) hok (hP.only (later_only Hl0.out) (fun _ h => h.elim)) hQ hm0 hm1 h5 (he.no (later_only Hl0.out)))
 have HP0 := hide (hP.only (later_only Hl0.out) (fun _ h => h.elim))
 have HQ := hide hQ
 have hok3 := take_ok hok hm1 (m := m)
 have hr3 := take_r s m
 obtain ⟨s3, hs3⟩ : ∃ s3, (takeP s m).1 = s3 := ⟨_, rfl⟩
 obtain ⟨kd, hkd⟩ : ∃ kd, (takeP s m).2 = kd := ⟨_, rfl⟩
 have Hs3 := hide hs3
 have Hkd := hide hkd
 unfold KindOut at HK
 rw [hs3, hkd] at HK
 rw [hs3] at hok3 hr3
 have Hok3 := hide hok3
 have Hr3 := hide hr3
 clear hb hok hP hQ he hs3 hkd hok3 hr3
 go_enter Tryz.func24, Tryz.ntmps24
 go_upto_region 1 with (fail)
 obtain ⟨w0, hw0⟩ : ∃ w0, ((W.alloc (.cells #[.int .i64 m.seat, .int .i64 m.ply, .string m.mv, .int .i64 m.at_] 62)).alloc (.cells #[.int .i64 0, .int .i64 0, .int .i64 0, .string ⟨#[]⟩] 59)) = w0 := ⟨_, rfl⟩
 rw [hw0] at Hl0 Hm0 HZ0 HK HP0 ⊢
 clear hw0
 obtain ⟨m0, m1, m2, m3⟩ := (show _ ∧ _ ∧ _ ∧ _ from ⟨Hm0.out.cellv (i := 0) rfl, Hm0.out.cellv (i := 1) rfl, Hm0.out.cellv (i := 2) rfl, Hm0.out.cellv (i := 3) rfl⟩)
 go_upto_region 2 with (go_at_call 63; refine HK.out.mono ?_; rintro e w2 ⟨rfl, hb2, ho2⟩)
 have HB2 := hide hb2
 have HZ2 := hide (HZ0.out.only ho2 (by omega))
 have HO2 := hide (show Only (fun x => x = h) W w2 from ((later_only Hl0.out).mono (fun _ _ h => h.elim)).trans ho2)
 have HP2 := hide (show PAt w2 Q A s3.r.pieces from by rw [Hr3.out]; exact HP0.out.only ho2 (fun k hk hq => HQ.out (hk ▸ hq)))
 clear hb2 ho2 HZ0 Hm0 Hl0 HK HP0 m0 m1 m2 m3
 have Hend := hide (fun w (hw : Later w2 w) => rended_any h s3 A cp w (Later.blk hw HB2.out) Hok3.out (HP2.out.only (later_only hw) (fun _ h => h.elim)).at_)
 have Htxt := hide (fun w => text_any s3.p w Hok3.out.of.pos)
 obtain ⟨op, hop⟩ : ∃ op, outP s3 = op := ⟨_, rfl⟩
 obtain ⟨tx, htx⟩ : ∃ tx, bytes (textL s3.p) = tx := ⟨_, rfl⟩
 rw [hop] at Hend
 rw [htx] at Htxt
 have Hop := hide hop
 have Htx := hide htx
 clear hop htx
 have HS := hide (show ∀ w' : World, Later w2 w' → (w'.cell? ⟨h, 19, none⟩ = some (.int .i64 s3.ply) ∧ w'.cell? ⟨h, 13, none⟩ = some (.int .i64 s3.p.w) ∧ w'.cell? ⟨h, 14, none⟩ = some (.int .i64 s3.p.h) ∧ w'.cell? ⟨h, 15, none⟩ = some (.string s3.p.cells) ∧ w'.cell? ⟨h, 16, none⟩ = some (.int .i64 s3.p.turn) ∧ w'.cell? ⟨h, 17, none⟩ = some (.string s3.p.h0) ∧ w'.cell? ⟨h, 18, none⟩ = some (.string s3.p.h1)) from fun w' hw => by
  obtain ⟨p0, p1, p2, p3, p4, p5⟩ := rh_pos (Later.blk hw HB2.out)
  obtain ⟨t0, -⟩ := rh_rest (Later.blk hw HB2.out)
  exact ⟨t0, p0, p1, p2, p3, p4, p5⟩)
 have HS2 := hide (show ∀ w' : World, Later w2 w' → ((w'.setRow (W.heap.size + 1) #[.int .i64 kd, .int .i64 s3.ply, .int .i64 op, .string tx]).cell? ⟨h, 19, none⟩ = some (.int .i64 s3.ply) ∧ (w'.setRow (W.heap.size + 1) #[.int .i64 kd, .int .i64 s3.ply, .int .i64 op, .string tx]).cell? ⟨h, 13, none⟩ = some (.int .i64 s3.p.w) ∧ (w'.setRow (W.heap.size + 1) #[.int .i64 kd, .int .i64 s3.ply, .int .i64 op, .string tx]).cell? ⟨h, 14, none⟩ = some (.int .i64 s3.p.h) ∧ (w'.setRow (W.heap.size + 1) #[.int .i64 kd, .int .i64 s3.ply, .int .i64 op, .string tx]).cell? ⟨h, 15, none⟩ = some (.string s3.p.cells) ∧ (w'.setRow (W.heap.size + 1) #[.int .i64 kd, .int .i64 s3.ply, .int .i64 op, .string tx]).cell? ⟨h, 16, none⟩ = some (.int .i64 s3.p.turn) ∧ (w'.setRow (W.heap.size + 1) #[.int .i64 kd, .int .i64 s3.ply, .int .i64 op, .string tx]).cell? ⟨h, 17, none⟩ = some (.string s3.p.h0) ∧ (w'.setRow (W.heap.size + 1) #[.int .i64 kd, .int .i64 s3.ply, .int .i64 op, .string tx]).cell? ⟨h, 18, none⟩ = some (.string s3.p.h1)) from fun w' hw => by
  obtain ⟨t0, p0, p1, p2, p3, p4, p5⟩ := HS.out w' hw
  exact ⟨cell_setRowH t0 (by omega), cell_setRowH p0 (by omega), cell_setRowH p1 (by omega), cell_setRowH p2 (by omega), cell_setRowH p3 (by omega), cell_setRowH p4 (by omega), cell_setRowH p5 (by omega)⟩)
 refine wp_region_held_drew (S := fun w' : World => (w'.cell? ⟨h, 19, none⟩ = some (.int .i64 s3.ply) ∧ w'.cell? ⟨h, 13, none⟩ = some (.int .i64 s3.p.w) ∧ w'.cell? ⟨h, 14, none⟩ = some (.int .i64 s3.p.h) ∧ w'.cell? ⟨h, 15, none⟩ = some (.string s3.p.cells) ∧ w'.cell? ⟨h, 16, none⟩ = some (.int .i64 s3.p.turn) ∧ w'.cell? ⟨h, 17, none⟩ = some (.string s3.p.h0) ∧ w'.cell? ⟨h, 18, none⟩ = some (.string s3.p.h1))) (by kernel_rfl) (HS.out _ Later.rfl.drew) (fun hHeld => ?_)
 refine tk 0 (some 9) (v := ?_) ?_ ?_; rotate_left 1; (intro w hSw; (try dsimp only at hSw); go_simp <;> with_reducible rfl); try simp only [Act.put, List.setIfInBounds_toArray, List.set_cons_zero, List.set_cons_succ]
 refine tk 1 (some 10) (v := ?_) ?_ ?_; rotate_left 1; (intro w hSw; (try dsimp only at hSw); go_simp <;> with_reducible rfl); try simp only [Act.put, List.setIfInBounds_toArray, List.set_cons_zero, List.set_cons_succ]
 refine tk 2 (some 11) (v := ?_) ?_ ?_; rotate_left 1; (intro w hSw; (try dsimp only at hSw); go_simp <;> with_reducible rfl); try simp only [Act.put, List.setIfInBounds_toArray, List.set_cons_zero, List.set_cons_succ]
 refine tk 3 (some 12) (v := ?_) ?_ ?_; rotate_left 1; (intro w hSw; (try dsimp only at hSw); go_simp <;> with_reducible rfl); try simp only [Act.put, List.setIfInBounds_toArray, List.set_cons_zero, List.set_cons_succ]
 refine tk 4 (some 13) (v := ?_) ?_ ?_; rotate_left 1; (intro w hSw; (try dsimp only at hSw); go_simp <;> with_reducible rfl); try simp only [Act.put, List.setIfInBounds_toArray, List.set_cons_zero, List.set_cons_succ]
 refine tk 5 (some 14) (v := ?_) ?_ ?_; rotate_left 1; (intro w hSw; (try dsimp only at hSw); go_simp <;> with_reducible rfl); try simp only [Act.put, List.setIfInBounds_toArray, List.set_cons_zero, List.set_cons_succ]
 refine tk 7 (some 16) (v := ?_) ?_ ?_; rotate_left 1; (intro w hSw; (try dsimp only at hSw); go_simp <;> with_reducible rfl); try simp only [Act.put, List.setIfInBounds_toArray, List.set_cons_zero, List.set_cons_succ]
 refine tk 8 (some 17) (v := ?_) ?_ ?_; rotate_left 1; (intro w hSw; (try dsimp only at hSw); go_simp <;> with_reducible rfl); try simp only [Act.put, List.setIfInBounds_toArray, List.set_cons_zero, List.set_cons_succ]
 refine tk 9 (some 18) (v := ?_) ?_ ?_; rotate_left 1; (intro w hSw; (try dsimp only at hSw); go_simp <;> with_reducible rfl); try simp only [Act.put, List.setIfInBounds_toArray, List.set_cons_zero, List.set_cons_succ]
 refine tk 10 (some 19) (v := ?_) ?_ ?_; rotate_left 1; (intro w hSw; (try dsimp only at hSw); go_simp <;> with_reducible rfl); try simp only [Act.put, List.setIfInBounds_toArray, List.set_cons_zero, List.set_cons_succ]
 refine wpAnyH_ready (rs := [6]) (by kernel_rfl) (by simp) ?_
 refine AllReadyH.cons (o := ⟨some 15, _, _, _, _, _⟩) rfl (fun K hK => ?_) ?_
 ·
  clear hHeld
  go_simp
  go_at_call 64
  with_reducible refine (Hend.out _ (by repeat (first | exact Later.rfl | exact hwt | refine Later.drew ?_ | refine Later.alloc ?_ _))).mono ?_
  rintro e we ⟨rfl, hwx⟩
  have hwe : Later w2 we := Later.trans (by repeat (first | exact Later.rfl | exact hwt | refine Later.drew ?_ | refine Later.alloc ?_ _)) hwx
  try go_wp2_with fail
  refine hK.out _ _ (by first | exact HS2.out _ hwt | exact HS2.out _ hwe | (refine HS.out _ ?_; repeat (first | exact Later.rfl | exact hwt | exact hwe | refine Later.drew ?_))) (fun hHeld => ?_)
  clear hK K
  try simp only [Act.put, List.setIfInBounds_toArray, List.set_cons_zero, List.set_cons_succ]
  refine wpAnyH_ready (rs := [11]) (by kernel_rfl) (by simp) ?_
  refine AllReadyH.cons (o := ⟨some 20, _, _, _, _, _⟩) rfl (fun K hK => ?_) ?_
  ·
   clear hHeld
   go_simp
   go_at_call 48
   with_reducible refine (Htxt.out _).mono ?_
   rintro e wt ⟨rfl, hwx⟩
   have hwt : Later w2 wt := Later.trans (by repeat (first | exact Later.rfl | exact hwe | refine Later.drew ?_ | refine Later.alloc ?_ _)) hwx
   try go_wp2_with fail
   refine hK.out _ _ (by first | exact HS2.out _ hwt | exact HS2.out _ hwe | (refine HS.out _ ?_; repeat (first | exact Later.rfl | exact hwt | exact hwe | refine Later.drew ?_))) (fun hHeld => ?_)
   clear hK K
   try simp only [Act.put, List.setIfInBounds_toArray, List.set_cons_zero, List.set_cons_succ]
   refine tk 12 (some 21) (v := ?_) ?_ ?_; rotate_left 1; (intro w hSw; (try dsimp only at hSw); go_simp <;> with_reducible rfl); try simp only [Act.put, List.setIfInBounds_toArray, List.set_cons_zero, List.set_cons_succ]
   refine wpAnyH_ready (rs := [13]) (by kernel_rfl) (by simp) ?_
   refine AllReadyH.cons (o := ⟨none, _, _, _, _, _⟩) rfl (fun K hK => ?_) ?_
   ·
    clear hHeld
    rw [if_pos (by rfl)]
    refine wp_store_row 59 (.tmp 4) (.tmp 21) rfl (W.heap.size + 1) #[.int .i64 kd, .int .i64 s3.ply, .int .i64 op, .string tx] rfl rfl 59 _ (hwt.blk HZ2.out) (by kernel_rfl) (by simp) (by simp [Value.oneCell']) ?_
    refine hK.out _ _ (by first | exact HS2.out _ hwt | exact HS2.out _ hwe | (refine HS.out _ ?_; repeat (first | exact Later.rfl | exact hwt | exact hwe | refine Later.drew ?_))) (fun hHeld => ?_)
    clear hK K
    try simp only [Act.put]
    refine wpAnyH_done (by kernel_rfl) ?_ _
    have HB4 := hide (setRow_blkH (vs := #[.int .i64 kd, .int .i64 s3.ply, .int .i64 op, .string tx]) (hwt.blk HZ2.out))
    have HO4 := hide (show Only (fun x => x = W.heap.size + 1) w2 (World.setRow _ (W.heap.size + 1) #[.int .i64 kd, .int .i64 s3.ply, .int .i64 op, .string tx]) from only_setrow (vs := #[.int .i64 kd, .int .i64 s3.ply, .int .i64 op, .string tx]) ((later_only hwt).mono (fun _ _ h => h.elim)) rfl)
    obtain ⟨y0, y1, y2, y3⟩ := (show _ ∧ _ ∧ _ ∧ _ from ⟨HB4.out.cellv (i := 0) rfl, HB4.out.cellv (i := 1) rfl, HB4.out.cellv (i := 2) rfl, HB4.out.cellv (i := 3) rfl⟩)
    go_wp2_with fail
    refine bodyPost_ret (v := .agg #[.int .i64 kd, .int .i64 s3.ply, .int .i64 op, .string tx]) (by simp [results, Tryz.results24, go_sem, y0, y1, y2, y3]) rfl ⟨by rw [← Hkd.out, ← Htx.out, ← Hop.out, ← Hs3.out]; rfl, by rw [Hs3.out]; exact HB2.out.only HO4.out (by omega), HO2.out.trans' HO4.out (fun i hi hs => by omega)⟩
   exact AllReadyH.nil
  exact AllReadyH.nil
 exact AllReadyH.nil
end Go.Proofs.YtcdfeaodfmfdnaaGreatDoor
