/- gamekeep.housed: walked. A house that hears a message again, plainly. (*house.House).Save at a house; blocks that are no row of the house's. -/
import Derived.Test.YtcdfeaodfmfdnaaGreatDoorPlHoTake
import Derived.Test.YtcdfeaodfmfdnaaGreatDoorPlHoNew
import Derived.Test.YtcdfeaodfmfdnaaGreatDoorPlHoSave
import Derived.Test.YtcdfeaodfmfdnaaGreatDoorPlTxM
import Derived.WideKeyEntry
import Derived.Maps.RangeWalk
import Derived.Maps.OwnSet
import Derived.DeepKeys4
import Derived.Test.YtcdfeaodfmfdnaaGreatDoorPlBase
import Derived.Test.YtcdfeaodfmfdnaaGreatDoorPlRuM
import Derived.Test.YtcdfeaodfmfdnaaGreatDoorPlRuChkM
import Derived.Test.YtcdfeaodfmfdnaaGreatDoorPlMgTop
import Derived.OwnWalk
import Derived.BigRegion
import Derived.Deep.CutRange
import Derived.Laws.StructEq
import Derived.Shelf.SlicesE.Kit
namespace Go.Proofs.YtcdfeaodfmfdnaaGreatDoor
open Go.RowKit

theorem start_ok {r : RulesD} {t : Int} (h : RulesOk r) (t1 : 1 ≤ t) (t2 : t ≤ 1000000) : HoOk (startP r t) := by
 have hp := h.pl1
 exact ⟨⟨h, h.start, rfl, rfl, h.fits⟩, by show (0 : Int) ≤ 0; omega, by show (0 : Int) ≤ _; omega, by show (0 : Int) ≤ 0; omega, by show (0 : Int) ≤ r.plies; omega, fun _ => ⟨by show 0 ≤ t; omega, by show 0 ≤ t; omega⟩, by show _ ∧ t ≤ _; exact ⟨by show _ ≤ t; omega, t2⟩, by show _ ∧ t ≤ _; exact ⟨by show _ ≤ t; omega, t2⟩, by show (0 : Int) ≤ 0 ∧ (0 : Int) ≤ 2; omega, by show ((0 : Nat) : Int) ≤ 1000 * 0; omega⟩
theorem NewOut.at_ {r : RulesD} {t : Int} {W : World} {e : Ending} {w' : World} (h : NewOut r t W e w') : ∃ h, e = .returned (.tuple #[.pointer (some ⟨h, 0, none⟩), .int .i64 0]) ∧ W.heap.size < h ∧ (∀ B, h < B → HoAt w' (W.heap.size + 1) h B (startP r t) (.slice none 0 0)) ∧ Later W w' ∧ w'.heap.size = h + 1 := by
 obtain ⟨h, A', cp', he, hlt, hb, hp, hl, hsz⟩ := h
 refine ⟨h, he, hlt, fun B hB => ⟨A', cp', .pointer none, ⟨hb.blk, hb.sz, hb.ad, hb.bf, World.ownsRowF_nil _ _ _ _, hb.ne⟩, hp.more (fun k hk => by omega)⟩, hl, hsz⟩
end Go.Proofs.YtcdfeaodfmfdnaaGreatDoor
namespace Go.Proofs.YtcdfeaodfmfdnaaGreatDoor
open Go.RowKit

/-- messages in a row -/
def cellsG : List MsgD → List Value
 | [] => []
 | m :: ms => .int .i64 m.seat :: .int .i64 m.ply :: .string m.mv :: .int .i64 m.at_ :: cellsG ms
theorem cellsG_len : ∀ ms : List MsgD, (cellsG ms).length = ms.length * 4
 | [] => rfl
 | m :: ms => by simp only [cellsG, List.length_cons, cellsG_len ms]; omega
theorem cellsG_get : ∀ (ms : List MsgD) (i : Nat) (h : i < ms.length), (cellsG ms)[i * 4]? = some (.int .i64 ms[i].seat) ∧ (cellsG ms)[i * 4 + 1]? = some (.int .i64 ms[i].ply) ∧ (cellsG ms)[i * 4 + 2]? = some (.string ms[i].mv) ∧ (cellsG ms)[i * 4 + 3]? = some (.int .i64 ms[i].at_)
 | m :: ms, 0, _ => by simp [cellsG]
 | m :: ms, i + 1, h => by
  have ih := cellsG_get ms i (by simpa using h)
  have e1 : (i + 1) * 4 = i * 4 + 1 + 1 + 1 + 1 := by omega
  have e2 : (i + 1) * 4 + 1 = (i * 4 + 1) + 1 + 1 + 1 + 1 := by omega
  have e3 : (i + 1) * 4 + 2 = (i * 4 + 2) + 1 + 1 + 1 + 1 := by omega
  have e4 : (i + 1) * 4 + 3 = (i * 4 + 3) + 1 + 1 + 1 + 1 := by omega
  rw [e2, e3, e4, e1]
  simp only [cellsG, List.getElem?_cons_succ, List.getElem_cons_succ]
  exact ih
theorem msg_at {w : World} {B : Nat} {A : Option Addr} {ms : List MsgD} (h : Cells w B A (cellsG ms)) {i : Nat} (hi : i < ms.length) :
  ∃ b off, A = some ⟨b, off, none⟩ ∧ b < B ∧ w.cell? ⟨b, off + i * 4, none⟩ = some (.int .i64 ms[i].seat) ∧ w.cell? ⟨b, off + i * 4 + 1, none⟩ = some (.int .i64 ms[i].ply) ∧ w.cell? ⟨b, off + i * 4 + 2, none⟩ = some (.string ms[i].mv) ∧ w.cell? ⟨b, off + i * 4 + 3, none⟩ = some (.int .i64 ms[i].at_) := by
 have hl := cellsG_len ms
 obtain ⟨b, off, hA, hb, hcell⟩ := h (by omega)
 obtain ⟨g0, g1, g2, g3⟩ := cellsG_get ms i hi
 have key : ∀ j v, (cellsG ms)[j]? = some v → w.cell? ⟨b, off + j, none⟩ = some v := by
  intro j v hv
  obtain ⟨hj, hjv⟩ := List.getElem?_eq_some_iff.1 hv
  rw [hcell j hj, hjv]
 exact ⟨b, off, hA, hb, key _ _ g0, by rw [Nat.add_assoc]; exact key _ _ g1, by rw [Nat.add_assoc]; exact key _ _ g2, by rw [Nat.add_assoc]; exact key _ _ g3⟩
theorem neqR (k p o : Int) (t : ByteArray) (w : World) : (binOp .neq 59 (.agg #[.int .i64 k, .int .i64 p, .int .i64 o, .string t]) (.agg #[.int .i64 k, .int .i64 p, .int .i64 o, .string t])).run Tryz.prog w = .ok (.bool false) w := by
 have u3 := Tryz.underlying3
 have a3 := Tryz.isAgg3
 have z3 := Tryz.sizeOf3
 have u9 := Tryz.underlying9
 have a9 := Tryz.isAgg9
 have z9 := Tryz.sizeOf9
 have hS : Tryz.prog.underlying 59 = some (.struct (Tryz.prog.fieldsOf 59)) := by kernel_rfl
 have hp : Tryz.prog.stoodInHeld 59 = false := by kernel_rfl
 rw [run_neq_struct, show (10000 : Nat) = 9999 + 1 from rfl, run_equalIn_agg w 9999 59 _ _ hS hp]
 simp only [Program.fieldsOf, Tryz.underlying59]
 go_simp
theorem gdR (op : BinOp) (a b : Operand) (k p o k' p' o' : Int) (t t' : ByteArray) (w : World) : (eqGuard op 59 a b (.agg #[.int .i64 k, .int .i64 p, .int .i64 o, .string t]) (.agg #[.int .i64 k', .int .i64 p', .int .i64 o', .string t'])).run Tryz.prog w = .ok () w :=
 run_eqGuard_agg w op 59 a b _ _ (by kernel_rfl)
end Go.Proofs.YtcdfeaodfmfdnaaGreatDoor
namespace Go.Proofs.YtcdfeaodfmfdnaaGreatDoor
open Go.RowKit

theorem hsave_at {w : World} {lo h B : Nat} {s : HoD} {v : Value} (ha : HoAt w lo h B s v) (hB : h < B) :
  Calls Tryz.prog 22 #[.pointer (some ⟨h, 0, none⟩)] w fun e w' => e = .returned (.string (bytes s.lines)) ∧ HoAt w' lo h B s v ∧ Only (fun x => v.ownBlock = some x) w w' := by
 obtain ⟨A, cp, ad, hb, hp⟩ := id ha
 refine (hsave_any B h _ v s.lines w hb).mono ?_
 rintro e w' ⟨rfl, hb', ho⟩
 exact ⟨rfl, ⟨A, cp, ad, hb', hp.only ho (fun k hk hq => by have := (ha.own k hk).1; omega)⟩, ho⟩
end Go.Proofs.YtcdfeaodfmfdnaaGreatDoor
