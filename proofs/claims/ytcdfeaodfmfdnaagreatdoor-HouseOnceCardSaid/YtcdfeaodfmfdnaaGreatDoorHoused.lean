/- gamekeep.housed: walked. -/
import Derived.Test.YtcdfeaodfmfdnaaGreatDoorHoTake
import Derived.Test.YtcdfeaodfmfdnaaGreatDoorHoNew
import Derived.Test.YtcdfeaodfmfdnaaGreatDoorHoSave
import Derived.Test.YtcdfeaodfmfdnaaGreatDoorTxM
namespace Go.Proofs.YtcdfeaodfmfdnaaGreatDoor
open Go.RowKit

theorem start_ok {r : RulesD} {t : Int} (h : RulesOk r) (t1 : 1 ≤ t) (t2 : t ≤ 1000000) : HoOk (startP r t) := by
  have hp := h.pl1
  exact ⟨⟨h, h.start, rfl, rfl, h.fits⟩, by show (0 : Int) ≤ 0; omega, by show (0 : Int) ≤ _; omega, by show (0 : Int) ≤ 0; omega, by show (0 : Int) ≤ r.plies; omega, fun _ => ⟨by show 0 ≤ t; omega, by show 0 ≤ t; omega⟩, by show _ ∧ t ≤ _; exact ⟨by show _ ≤ t; omega, t2⟩, by show _ ∧ t ≤ _; exact ⟨by show _ ≤ t; omega, t2⟩, by show (0 : Int) ≤ 0 ∧ (0 : Int) ≤ 2; omega, by show ((0 : Nat) : Int) ≤ 1000 * 0; omega⟩
theorem NewOut.at_ {r : RulesD} {t : Int} {W : World} {e : Ending} {w' : World} (h : NewOut r t W e w') : ∃ h, e = .returned (.tuple #[.pointer (some ⟨h, 0, none⟩), .int .i64 0]) ∧ W.heap.size < h ∧ (∀ B, h < B → HoAt w' (W.heap.size + 1) h B (startP r t) (.slice none 0 0)) ∧ Later W w' ∧ w'.heap.size = h + 1 := by
  obtain ⟨h, A', cp', he, hlt, hb, hp, hl, hsz⟩ := h
  refine ⟨h, he, hlt, fun B hB => ⟨A', cp', .pointer none, ⟨hb.blk, hb.sz, hb.ad, hb.bf, World.ownsRowF_nil _ _ _ _, hb.ne⟩, hp.more (fun k hk => by omega)⟩, hl, hsz⟩
def kingsM : MsgD := ⟨0, 0, ⟨#[75, 97, 49, 45, 98, 49]⟩, 0⟩
theorem kings_take : (takeP (startP kingsR 9) kingsM).2 = 1 := by
  have h0 : outP (startP kingsR 9) = 0 := by
    unfold outP
    rw [if_neg (by show ¬ (0 : Int) < 0; omega), if_neg (fun h => by have h2 : (9 : Int) ≤ 0 := h.2; omega)]
    exact kings_ends
  have h1 : passP (startP kingsR 9) kingsM.at_ = startP kingsR 9 := pass_old (by show (0 : Int) ≤ 0; omega)
  have h2 : readM (startP kingsR 9).r (startP kingsR 9).p kingsM.mv = some ⟨0, 1, 75⟩ := by
    unfold readM
    show (movesL kingsR kingsP).find? _ = _
    rw [kings_moves]
    rfl
  unfold takeP
  rw [if_neg (by rw [h0]; exact fun h => h rfl), h1, if_neg (by show ¬ (9 : Int) < 0; omega), if_neg (by show ¬ ((0 : Int) ≠ 0); omega), if_neg (by show ¬ ((0 : Int) ≠ 0); omega), h2]
theorem rep_kind (k p o : Int) (t : ByteArray) (w : World) : (Instr.field 59 (.agg #[.int .i64 k, .int .i64 p, .int .i64 o, .string t]) 0).run Tryz.prog w = .ok (.int .i64 k) w := by
  kernel_rfl
set_option maxHeartbeats 4000000 in
set_option maxRecDepth 100000 in
theorem housed_any (W : World) (he : EnvH W) : Calls Tryz.prog 25 #[] W fun e w' => e = .returned (.bool true) ∧ Only (fun _ => False) W w' := by
  have HK := hide (kings_any W)
  have He := hide he
  have hbig := he.big
  clear he
  go_enter Tryz.func25, Tryz.ntmps25
  have hrk := fun w y1 y2 y3 => rep_kind 1 y1 y2 y3 w
  go_upto_region 2 with (first
    | (go_at_call 65; refine HK.out.mono ?_; rintro e w1 ⟨A, rfl, hP, hl⟩; have HN := hide (hnew_ok kingsR A 1 9 w1 (ho_rfit kings_rules) hP kings_rules (by omega) (by omega)); have Hl1 := hide hl; clear hP hl)
    | (go_at_call 21; refine HN.out.mono ?_; intro e w2 hn; obtain ⟨h, rfl, hlt, hat, hl2, hs2⟩ := hn.at_))
  have HE2 := hide ((He.out.no (later_only Hl1.out)).no (later_only hl2))
  have HT := hide (htake_any (w1.heap.size + 1) h (h + 1) (startP kingsR 9) (.slice none 0 0) kingsM w2 (hat (h + 1) (Nat.lt_succ_self h)) (start_ok kings_rules (by omega) (by omega)) (Nat.lt_succ_self h) (by omega) (by have := Hl1.out.size; omega) HE2.out (by show _ ≤ (0 : Int); omega) (by show (0 : Int) ≤ _; omega))
  have hr : repV (takeP (startP kingsR 9) kingsM) = #[.int .i64 1, .int .i64 (takeP (startP kingsR 9) kingsM).1.ply, .int .i64 (outP (takeP (startP kingsR 9) kingsM).1), .string (bytes (textL (takeP (startP kingsR 9) kingsM).1.p))] := by unfold repV; rw [kings_take]
  rw [hr] at HT
  obtain ⟨y1, hy1⟩ : ∃ y, (takeP (startP kingsR 9) kingsM).1.ply = y := ⟨_, rfl⟩
  obtain ⟨y2, hy2⟩ : ∃ y, outP (takeP (startP kingsR 9) kingsM).1 = y := ⟨_, rfl⟩
  obtain ⟨y3, hy3⟩ : ∃ y, bytes (textL (takeP (startP kingsR 9) kingsM).1.p) = y := ⟨_, rfl⟩
  rw [hy1, hy2, hy3] at HT
  have HT := hide (show Calls Tryz.prog 23 #[.pointer (some ⟨h, 0, none⟩), .agg #[.int .i64 0, .int .i64 0, .string ⟨#[75, 97, 49, 45, 98, 49]⟩, .int .i64 0]] w2 _ from HT.out)
  have Hl2 := hide hl2
  have hh : W.heap.size ≤ h := by have := Hl1.out.size; omega
  clear hr hy1 hy2 hy3 hat hl2 hs2 hlt HN HK
  go_wp2_with (go_at_call 23; refine HT.out.mono ?_; rintro e w3 ⟨rfl, v', hat', hlie, ho3⟩)
  go_ret
  exact ⟨rfl, ((later_only Hl1.out).trans (later_only Hl2.out)).trans' ho3 (fun i hi hs => by
    rcases hs with hs | hs
    · omega
    · cases hs)⟩
end Go.Proofs.YtcdfeaodfmfdnaaGreatDoor
