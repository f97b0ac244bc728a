/- A house that hears a message again, plainly. -/
import Derived.Test.YtcdfeaodfmfdnaaGreatDoorHoused
import Derived.Laws.StructEq
import Derived.Shelf.SlicesE.Kit
namespace Go.Proofs.YtcdfeaodfmfdnaaGreatDoor
open Go.RowKit

/-- what was heard once may be heard again -/
def Heard (s : HoD) (m : MsgD) : Prop := outP s ≠ 0 ∨ m.at_ ≤ s.now
theorem take_heard (s : HoD) (m : MsgD) : Heard (takeP s m).1 m ∧ ∀ k, Heard s k → Heard (takeP s m).1 k := by
  obtain ⟨e_r, e_p, e_ply, e_fl, e_li, e1, e2⟩ := pass_same s m.at_
  by_cases q : outP s = 0
  · have key : ∀ x : HoD, (passP s m.at_).now ≤ x.now → Heard x m ∧ ∀ k, Heard s k → Heard x k := fun x hx =>
      ⟨.inr (Int.le_trans e2 hx), fun k hk => .inr (by rcases hk with hk | hk; exact absurd q hk; omega)⟩
    unfold takeP
    rw [if_neg (by rw [q]; exact fun h => h rfl)]
    split
    · exact key _ (Int.le_refl _)
    · split
      · exact key _ (Int.le_refl _)
      · split
        · exact key _ (Int.le_refl _)
        · split
          · exact key _ (Int.le_refl _)
          · exact key _ (Int.le_refl _)
  · have hs : (takeP s m).1 = s := by unfold takeP; rw [if_pos q]
    rw [hs]
    exact ⟨.inl q, fun k hk => hk⟩
theorem take_dup {s : HoD} {m : MsgD} (hok : HoOk s) (h : Heard s m) (hp : m.ply < s.ply) : (takeP s m).1 = s := by
  by_cases q : outP s = 0
  · have hat : m.at_ ≤ s.now := by
      rcases h with h | h
      · exact absurd q h
      · exact h
    have hl : 0 ≤ leftP s := by
      have h0 := hok.open_ (out_open q hok).1
      unfold leftP
      split
      · exact h0.1
      · exact h0.2
    unfold takeP
    rw [if_neg (by rw [q]; exact fun h => h rfl), pass_old hat, if_neg (by omega), if_pos (by omega)]
  · unfold takeP
    rw [if_pos q]
/-- messages in a row -/
def cellsG : List MsgD → List Value
  | [] => []
  | m :: ms => .int .i64 m.seat :: .int .i64 m.ply :: .string m.mv :: .int .i64 m.at_ :: cellsG ms
theorem cellsG_len : ∀ ms : List MsgD, (cellsG ms).length = ms.length * 4
  | [] => rfl
  | m :: ms => by simp only [cellsG, List.length_cons, cellsG_len ms]; omega
theorem cellsG_get : ∀ (ms : List MsgD) (i : Nat) (h : i < ms.length), (cellsG ms)[i * 4]? = some (.int .i64 ms[i].seat) ∧ (cellsG ms)[i * 4 + 1]? = some (.int .i64 ms[i].ply) ∧ (cellsG ms)[i * 4 + 2]? = some (.string ms[i].mv) ∧ (cellsG ms)[i * 4 + 3]? = some (.int .i64 ms[i].at_)
  | m :: ms, 0, _ => by simp [cellsG]
  | m :: ms, i + 1, h => by
    have ih := cellsG_get ms i (by simpa using h)
    have e1 : (i + 1) * 4 = i * 4 + 1 + 1 + 1 + 1 := by omega
    have e2 : (i + 1) * 4 + 1 = (i * 4 + 1) + 1 + 1 + 1 + 1 := by omega
    have e3 : (i + 1) * 4 + 2 = (i * 4 + 2) + 1 + 1 + 1 + 1 := by omega
    have e4 : (i + 1) * 4 + 3 = (i * 4 + 3) + 1 + 1 + 1 + 1 := by omega
    rw [e2, e3, e4, e1]
    simp only [cellsG, List.getElem?_cons_succ, List.getElem_cons_succ]
    exact ih
theorem msg_at {w : World} {B : Nat} {A : Option Addr} {ms : List MsgD} (h : Cells w B A (cellsG ms)) {i : Nat} (hi : i < ms.length) :
    ∃ b off, A = some ⟨b, off, none⟩ ∧ b < B ∧ w.cell? ⟨b, off + i * 4, none⟩ = some (.int .i64 ms[i].seat) ∧ w.cell? ⟨b, off + i * 4 + 1, none⟩ = some (.int .i64 ms[i].ply) ∧ w.cell? ⟨b, off + i * 4 + 2, none⟩ = some (.string ms[i].mv) ∧ w.cell? ⟨b, off + i * 4 + 3, none⟩ = some (.int .i64 ms[i].at_) := by
  have hl := cellsG_len ms
  obtain ⟨b, off, hA, hb, hcell⟩ := h (by omega)
  obtain ⟨g0, g1, g2, g3⟩ := cellsG_get ms i hi
  have key : ∀ j v, (cellsG ms)[j]? = some v → w.cell? ⟨b, off + j, none⟩ = some v := by
    intro j v hv
    obtain ⟨hj, hjv⟩ := List.getElem?_eq_some_iff.1 hv
    rw [hcell j hj, hjv]
  exact ⟨b, off, hA, hb, key _ _ g0, by rw [Nat.add_assoc]; exact key _ _ g1, by rw [Nat.add_assoc]; exact key _ _ g2, by rw [Nat.add_assoc]; exact key _ _ g3⟩
theorem neqR (k p o : Int) (t : ByteArray) (w : World) : (binOp .neq 59 (.agg #[.int .i64 k, .int .i64 p, .int .i64 o, .string t]) (.agg #[.int .i64 k, .int .i64 p, .int .i64 o, .string t])).run Tryz.prog w = .ok (.bool false) w := by
  have u3 := Tryz.underlying3
  have a3 := Tryz.isAgg3
  have z3 := Tryz.sizeOf3
  have u9 := Tryz.underlying9
  have a9 := Tryz.isAgg9
  have z9 := Tryz.sizeOf9
  have hS : Tryz.prog.underlying 59 = some (.struct (Tryz.prog.fieldsOf 59)) := by kernel_rfl
  have hp : Tryz.prog.stoodInHeld 59 = false := by kernel_rfl
  rw [run_neq_struct, show (10000 : Nat) = 9999 + 1 from rfl, run_equalIn_agg w 9999 59 _ _ hS hp]
  simp only [Program.fieldsOf, Tryz.underlying59]
  go_simp
theorem gdR (op : BinOp) (a b : Operand) (k p o k' p' o' : Int) (t t' : ByteArray) (w : World) : (eqGuard op 59 a b (.agg #[.int .i64 k, .int .i64 p, .int .i64 o, .string t]) (.agg #[.int .i64 k', .int .i64 p', .int .i64 o', .string t'])).run Tryz.prog w = .ok () w :=
  run_eqGuard_agg w op 59 a b _ _ (by kernel_rfl)
end Go.Proofs.YtcdfeaodfmfdnaaGreatDoor
