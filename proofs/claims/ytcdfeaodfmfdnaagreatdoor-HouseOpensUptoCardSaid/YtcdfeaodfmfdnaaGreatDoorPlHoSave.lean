/- (*house.House).Save: walked. -/
import Derived.Test.YtcdfeaodfmfdnaaGreatDoorPlHoBM
namespace Go.Proofs.YtcdfeaodfmfdnaaGreatDoor
open Go.RowKit

theorem only_freeze {S : Nat → Prop} {a w : World} (h : Only S a w) {p : Addr} (hp : S p.block ∨ a.heap.size ≤ p.block) (n : Nat) : Only S a (w.freeze p n) := by
 unfold World.freeze
 split
 ·
  exact h
 ·
  refine ⟨h.os, h.tape, h.output, by simpa using h.size, fun k hk hn => ?_⟩
  rw [← h.block k hk hn]
  have hne : p.block ≠ k := fun e => by
   rcases hp with hp | hp
   ·
    rw [e] at hp; exact hn hp
   ·
    omega
  simp [Array.getElem?_modify, hne]
theorem ownsRowF_freeze {w : World} {base : Nat} {e : TypeId} {g n cap : Nat} {xs : List Value} (h : w.ownsRowF base e 1 (.slice (some ⟨g, 0, none⟩) n cap) n xs) : (w.freeze ⟨g, 0, none⟩ n).ownsRowF base e 1 (.slice (some ⟨g, 0, none⟩) n cap) n xs := by
 refine ⟨h.1, ?_⟩
 rcases h.2 with ⟨hv, _⟩ | ⟨g', cap', cur, fz, hv, hb, hg, hfz, rest⟩
 ·
  cases hv
 ·
  injection hv with hv1 _ hv2
  injection hv1 with hv1
  injection hv1 with hv1
  subst hv1
  subst hv2
  obtain ⟨lo, hi⟩ := fz
  unfold World.freeze
  by_cases hn : n = 0
  ·
   rw [if_pos hn]
   exact .inr ⟨g, cap, cur, (lo, hi), rfl, hb, hg, hfz, rest⟩
  ·
   rw [if_neg hn]
   refine .inr ⟨g, cap, cur, if lo == hi then (0, 0 + n) else (min lo 0, max hi (0 + n)), rfl, hb, by simp [Array.getElem?_modify, hg], ?_, rest⟩
   simp only at hfz ⊢
   split
   ·
    simp
   ·
    simp only; omega
set_option maxHeartbeats 2000000 in
set_option maxRecDepth 100000 in
theorem hstr_some (B h : Nat) (C : Array Value) (v : Value) (l : List UInt8) (w : World) (hb : HB w B h C v l) (h0 : l ≠ []) :
  Calls Tryz.prog 58 #[.pointer (some ⟨h, 24, none⟩)] w fun e w' => e = .returned (.string (bytes l)) ∧ HB w' B h C v l ∧ Only (fun x => v.ownBlock = some x) w w' := by
 have hl0 : l.length ≠ 0 := by simpa using h0
 have hown := hb.own
 obtain ⟨g, cap, cur, fz, rfl, hbg, hg, hfz, hnc, hcm, hcs, htake⟩ : ∃ g cap cur fz, v = .slice (some ⟨g, 0, none⟩) l.length cap ∧ B ≤ g ∧ w.heap[g]? = some (.cells cur 5 fz) ∧ fz.2 ≤ l.length * 1 ∧ l.length ≤ cap ∧ cap ≤ maxLen ∧ cur.size = cap * 1 ∧ cur.toList.take (l.length * 1) = Lib.byteCells l := by
  rcases hown.2 with ⟨_, hz⟩ | ⟨g, cap, cur, fz, hv, r⟩
  ·
   exact absurd hz hl0
  ·
   exact ⟨g, cap, cur, fz, hv, r⟩
 have c1 : w.drew.cell? ⟨h, 25, none⟩ = some (.slice (some ⟨g, 0, none⟩) l.length cap) := hb.blk.cellv hb.bf
 have hSD : (Builtin.unsafeSliceData_ #[96] 165 #[.slice (some ⟨g, 0, none⟩) l.length cap]).run Tryz.prog w.drew = .ok (.pointer (some ⟨g, 0, none⟩)) w.drew := Lib.run_unsafeSliceData_row _ _ _ _ _ _ (by omega)
 have hUS : (Builtin.unsafeString_ #[165, 3] 9 #[.pointer (some ⟨g, 0, none⟩), .int .i64 l.length]).run Tryz.prog w.drew = .ok (.string ⟨l.toArray⟩) (w.drew.freeze ⟨g, 0, none⟩ l.length) := by
  refine Lib.run_unsafeString_row w.drew 165 3 9 5 Tryz.underlying165 (by kernel_rfl) g cur.size (by have hg' : w.drew.heap[g]? = some (.cells cur 5 fz) := hg; simp [World.shape?, hg']) l h0 (by omega) (by unfold maxLen at hcm; omega) ?_
  intro j x hx
  have := hown.cells (g := g) rfl j (.int .u8 x.toNat) (by simp [Lib.byteCells, hx])
  exact this
 have hne : g ≠ h := fun e => hb.ne (by rw [e]; rfl)
 have ho : Only (fun x => (Value.slice (some ⟨g, 0, none⟩) l.length cap).ownBlock = some x) w (w.drew.freeze ⟨g, 0, none⟩ l.length) := only_freeze (S := fun x => (Value.slice (some ⟨g, 0, none⟩) l.length cap).ownBlock = some x) (Only.refl _ w).drew (p := ⟨g, 0, none⟩) (.inl rfl) _
 have hk : HB (w.drew.freeze ⟨g, 0, none⟩ l.length) B h C (.slice (some ⟨g, 0, none⟩) l.length cap) l := ⟨hb.blk.only ho hb.ne, hb.sz, hb.ad, hb.bf, ownsRowF_freeze (w := w.drew) hown, hb.ne⟩
 clear hown hbg hg hfz hnc hcm hcs htake hl0 h0 hb
 have mixed : Tryz.prog.follows .mixedOrders = true := by kernel_rfl
 go_enter Tryz.func58, Tryz.ntmps58
 go_wp2
 go_region_o
 all_goals (go_wp2; go_ret; exact ⟨rfl, hk, ho⟩)
set_option maxHeartbeats 2000000 in
set_option maxRecDepth 100000 in
theorem hstr_nil (B h : Nat) (C : Array Value) (w : World) (hb : HB w B h C (.slice none 0 0) []) :
  Calls Tryz.prog 58 #[.pointer (some ⟨h, 24, none⟩)] w fun e w' => e = .returned (.string (bytes [])) ∧ HB w' B h C (.slice none 0 0) [] ∧ Only (fun _ => False) w w' := by
 have hUS : ∀ (W : World) (q : Option Addr), (Builtin.unsafeString_ #[165, 3] 9 #[.pointer q, .int .i64 0]).run Tryz.prog W = .ok (.string .empty) W := fun W q => Lib.run_unsafeString_none W _ _ _ q
 have c1 : w.drew.cell? ⟨h, 25, none⟩ = some (.slice none 0 0) := hb.blk.cellv hb.bf
 have hSD : (Builtin.unsafeSliceData_ #[96] 165 #[.slice none 0 0]).run Tryz.prog w.drew = .ok (.pointer none) w.drew := rfl
 have ho : Only (fun _ => False) w w.drew := (Only.refl _ w).drew
 have hk := hb.only ho (fun h => h) (fun _ _ h => h)
 have mixed : Tryz.prog.follows .mixedOrders = true := by kernel_rfl
 clear hb
 go_enter Tryz.func58, Tryz.ntmps58
 go_wp2
 go_region_o
 all_goals (go_wp2; go_ret; exact ⟨rfl, hk, ho⟩)
set_option maxHeartbeats 2000000 in
set_option maxRecDepth 100000 in
theorem hstr_room (B h g cap : Nat) (C : Array Value) (w : World) (hb : HB w B h C (.slice (some ⟨g, 0, none⟩) 0 cap) []) (hc0 : cap ≠ 0) :
  Calls Tryz.prog 58 #[.pointer (some ⟨h, 24, none⟩)] w fun e w' => e = .returned (.string (bytes [])) ∧ HB w' B h C (.slice (some ⟨g, 0, none⟩) 0 cap) [] ∧ Only (fun _ => False) w w' := by
 have hUS : ∀ (W : World) (q : Option Addr), (Builtin.unsafeString_ #[165, 3] 9 #[.pointer q, .int .i64 0]).run Tryz.prog W = .ok (.string .empty) W := fun W q => Lib.run_unsafeString_none W _ _ _ q
 have c1 : w.drew.cell? ⟨h, 25, none⟩ = some (.slice (some ⟨g, 0, none⟩) 0 cap) := hb.blk.cellv hb.bf
 have hSD : (Builtin.unsafeSliceData_ #[96] 165 #[.slice (some ⟨g, 0, none⟩) 0 cap]).run Tryz.prog w.drew = .ok (.pointer (some ⟨g, 0, none⟩)) w.drew := Lib.run_unsafeSliceData_row _ _ _ _ _ _ hc0
 clear hc0
 have ho : Only (fun _ => False) w w.drew := (Only.refl _ w).drew
 have hk := hb.only ho (fun h => h) (fun _ _ h => h)
 have mixed : Tryz.prog.follows .mixedOrders = true := by kernel_rfl
 clear hb
 go_enter Tryz.func58, Tryz.ntmps58
 go_wp2
 go_region_o
 all_goals (go_wp2; go_ret; exact ⟨rfl, hk, ho⟩)
set_option maxHeartbeats 2000000 in
set_option maxRecDepth 100000 in
theorem hstr_zero (B h g : Nat) (C : Array Value) (w : World) (hb : HB w B h C (.slice (some ⟨g, 0, none⟩) 0 0) []) :
  Calls Tryz.prog 58 #[.pointer (some ⟨h, 24, none⟩)] w fun e w' => e = .returned (.string (bytes [])) ∧ HB w' B h C (.slice (some ⟨g, 0, none⟩) 0 0) [] ∧ Only (fun _ => False) w w' := by
 have hUS : ∀ (W : World) (q : Option Addr), (Builtin.unsafeString_ #[165, 3] 9 #[.pointer q, .int .i64 0]).run Tryz.prog W = .ok (.string .empty) W := fun W q => Lib.run_unsafeString_none W _ _ _ q
 have c1 : w.drew.cell? ⟨h, 25, none⟩ = some (.slice (some ⟨g, 0, none⟩) 0 0) := hb.blk.cellv hb.bf
 obtain ⟨cur, fz, hg⟩ : ∃ cur fz, w.heap[g]? = some (.cells cur 5 fz) := by
  rcases hb.own.2 with ⟨hv, _⟩ | ⟨g', cap', cur, fz, hv, _, hg, _⟩
  ·
   cases hv
  ·
   injection hv with hv _ _
   injection hv with hv
   injection hv with hv
   subst hv
   exact ⟨cur, fz, hg⟩
 have hSD : (Builtin.unsafeSliceData_ #[96] 165 #[.slice (some ⟨g, 0, none⟩) 0 0]).run Tryz.prog w.drew = .ok (.pointer (some ⟨w.drew.heap.size, 0, none⟩)) (w.drew.alloc (.view ⟨g, 0, none⟩ 5)) :=
  Lib.run_unsafeSliceData_zero w.drew _ _ 5 Tryz.underlying165 ⟨g, 0, none⟩ 0 (5, cur.size) (by have hg' : w.drew.heap[g]? = some (.cells cur 5 fz) := hg; simp [World.shape?, hg'])
 have ho : Only (fun _ => False) w (w.drew.alloc (.view ⟨g, 0, none⟩ 5)) := (Only.refl _ w).drew.alloc _
 have hk := hb.only ho (fun h => h) (fun _ _ h => h)
 have c2 : (w.drew.alloc (.view ⟨g, 0, none⟩ 5)).cell? ⟨h, 25, none⟩ = some (.slice (some ⟨g, 0, none⟩) 0 0) := hk.blk.cellv hk.bf
 have c3 : (w.alloc (.view ⟨g, 0, none⟩ 5)).drew.cell? ⟨h, 25, none⟩ = some (.slice (some ⟨g, 0, none⟩) 0 0) := c2
 have c0 : w.cell? ⟨h, 25, none⟩ = some (.slice (some ⟨g, 0, none⟩) 0 0) := c1
 clear hg
 have mixed : Tryz.prog.follows .mixedOrders = true := by kernel_rfl
 clear hb
 go_enter Tryz.func58, Tryz.ntmps58
 go_wp2
 go_region_o
 all_goals (go_wp2; go_ret; exact ⟨rfl, hk, ho⟩)
theorem hstr_any (B h : Nat) (C : Array Value) (v : Value) (l : List UInt8) (w : World) (hb : HB w B h C v l) :
  Calls Tryz.prog 58 #[.pointer (some ⟨h, 24, none⟩)] w fun e w' => e = .returned (.string (bytes l)) ∧ HB w' B h C v l ∧ Only (fun x => v.ownBlock = some x) w w' := by
 cases l with
 | cons x r => exact hstr_some B h C v (x :: r) w hb (by simp)
 | nil =>
  have hm : ∀ {v : Value} {f : FuncId} {args : Array Value}, (Calls Tryz.prog f args w fun e w' => e = .returned (.string (bytes [])) ∧ HB w' B h C v [] ∧ Only (fun _ => False) w w') → Calls Tryz.prog f args w fun e w' => e = .returned (.string (bytes [])) ∧ HB w' B h C v [] ∧ Only (fun x => v.ownBlock = some x) w w' := fun hc => hc.mono fun _ _ ⟨h1, h2, h3⟩ => ⟨h1, h2, h3.mono (fun _ _ h => h.elim)⟩
  rcases id hb.own.2 with ⟨rfl, _⟩ | ⟨g, cap, cur, fz, rfl, _⟩
  ·
   exact hm (hstr_nil B h C w hb)
  ·
   by_cases hc : cap = 0
   ·
    subst hc
    exact hm (hstr_zero B h g C w hb)
   ·
    exact hm (hstr_room B h g cap C w hb hc)
set_option maxRecDepth 100000 in
theorem hsave_any (B h : Nat) (C : Array Value) (v : Value) (l : List UInt8) (w : World) (hb : HB w B h C v l) :
  Calls Tryz.prog 22 #[.pointer (some ⟨h, 0, none⟩)] w fun e w' => e = .returned (.string (bytes l)) ∧ HB w' B h C v l ∧ Only (fun x => v.ownBlock = some x) w w' := by
 have HS := hide (hstr_any B h C v l w hb)
 clear hb
 go_enter Tryz.func22, Tryz.ntmps22
 go_wp2_with (go_at_call 58; refine HS.out.mono ?_; rintro e w2 ⟨rfl, hb2, ho2⟩)
 go_ret
 exact ⟨rfl, hb2, ho2⟩
end Go.Proofs.YtcdfeaodfmfdnaaGreatDoor
