/- Arguments opened into the words of Base. A position as an argument, opened. -/
import Derived.Test.YtcdfeaodfmfdnaaGreatDoorPlBase
import Derived.Deep.Matrix
import Derived.ProofKit
import Derived.Test.YtcdfeaodfmfdnaaGreatDoorRows
import Derived.OpenShut
import Derived.ChangeMaps5
namespace Go.Proofs.YtcdfeaodfmfdnaaGreatDoor
open Go.RowKit Go.ChangeShapes Go.WideShapes Go.Deep

theorem addr_of_cell {w : World} {a : Addr} {v : Value} (h : w.cell? a = some v) : a = ⟨a.block, a.off, none⟩ := by
  obtain ⟨b, o, s⟩ := a
  cases s with
  | none => rfl
  | some x =>
    unfold World.cell? at h
    split at h <;> simp at h

section
variable {H : Type} {enc : TypeId × Value → H} {P : Program} {w : World}

theorem cells_of {a : Addr} {xs : List Value} (h : ∀ k (hk : k < xs.length), w.cell? (a.add k) = some xs[k]) : Cells w w.heap.size (some a) xs := fun hn => by
  have h0 := h 0 hn
  have ha : a = ⟨a.block, a.off, none⟩ := by
    have := addr_of_cell h0
    simpa [Addr.add] using this
  refine ⟨a.block, a.off, by rw [← ha], ?_, fun k hk => ?_⟩
  · have := World.block_lt_of_cell? w _ h0
    simpa [Addr.add] using this
  · have h1 := h k hk
    rw [ha] at h1
    simp only [Addr.add_lit] at h1
    exact h1

end
end Go.Proofs.YtcdfeaodfmfdnaaGreatDoor
namespace Go.Proofs.YtcdfeaodfmfdnaaGreatDoor
open Go.RowKit Go.ChangeShapes Go.WideShapes Go.Deep Go.ChangeMaps

section
variable {H : Type} {enc : TypeId × Value → H} {w : World} {base : Nat} {spare : Nat → Bool} {held : Bool}

set_option maxRecDepth 100000 in
/-- the six cells of a position, wherever they stand -/
theorem trod_pos {fuel : Nat} {cs : List Value} {x : DataW H × List MemPlace} (h : DataW.trod enc Tryz.prog w base spare held fuel 24 cs = some x) :
    ∃ (a b : Int) (c : ByteArray) (t : Int) (h0 h1 : ByteArray), cs = [.int .i64 a, .int .i64 b, .string c, .int .i64 t, .string h0, .string h1] ∧ x.2 = [] ∧
      c.size ≤ 9223372036854775807 ∧ h0.size ≤ 9223372036854775807 ∧ h1.size ≤ 9223372036854775807 ∧ (-9223372036854775808 ≤ a ∧ a ≤ 9223372036854775807) ∧ (-9223372036854775808 ≤ b ∧ b ≤ 9223372036854775807) ∧ (-9223372036854775808 ≤ t ∧ t ≤ 9223372036854775807) := by
  obtain ⟨xs, n, _, hx, hlen, hxl, hg⟩ := DataW.trod_struct Tryz.underlying24 h
  have c6 : Tryz.prog.cellsOf 24 = 6 := by kernel_rfl
  have ci : Tryz.prog.cellsOf 3 = 1 := by kernel_rfl
  have cst : Tryz.prog.cellsOf 9 = 1 := by kernel_rfl
  have c2 : Tryz.prog.cellsOf 22 = 2 := by kernel_rfl
  rw [c6] at hlen
  match cs, hlen with
  | [e0, e1, e2, e3, e4, e5], _ =>
    match xs, hxl with
    | [y0, y1, y2, y3, y4], _ =>
      have g0 : DataW.trod enc Tryz.prog w base spare held n 3 (([e0, e1, e2, e3, e4, e5].drop 0).take (Tryz.prog.cellsOf 3)) = [y0, y1, y2, y3, y4][0]? := hg 0 _ rfl
      have g1 : DataW.trod enc Tryz.prog w base spare held n 3 (([e0, e1, e2, e3, e4, e5].drop 1).take (Tryz.prog.cellsOf 3)) = [y0, y1, y2, y3, y4][1]? := hg 1 _ rfl
      have g2 : DataW.trod enc Tryz.prog w base spare held n 9 (([e0, e1, e2, e3, e4, e5].drop 2).take (Tryz.prog.cellsOf 9)) = [y0, y1, y2, y3, y4][2]? := hg 2 _ rfl
      have g3 : DataW.trod enc Tryz.prog w base spare held n 3 (([e0, e1, e2, e3, e4, e5].drop 3).take (Tryz.prog.cellsOf 3)) = [y0, y1, y2, y3, y4][3]? := hg 3 _ rfl
      have g4 : DataW.trod enc Tryz.prog w base spare held n 22 (([e0, e1, e2, e3, e4, e5].drop 4).take (Tryz.prog.cellsOf 22)) = [y0, y1, y2, y3, y4][4]? := hg 4 _ rfl
      simp only [ci, cst, c2, List.drop_zero, List.drop_succ_cons, List.take_succ_cons, List.take_zero, List.getElem?_cons_zero, List.getElem?_cons_succ] at g0 g1 g2 g3 g4
      obtain ⟨a, ha, ea, wa⟩ := DataW.trod_int Tryz.underlying3 g0
      obtain ⟨b, hb, eb, wb⟩ := DataW.trod_int Tryz.underlying3 g1
      obtain ⟨c, hc, ec, wc⟩ := DataW.trod_string Tryz.underlying9 g2
      obtain ⟨t, ht, et, wt⟩ := DataW.trod_int Tryz.underlying3 g3
      obtain ⟨zs, m, _, hz, _, hzl, hzg⟩ := DataW.trod_array Tryz.underlying22 g4
      match zs, hzl with
      | [z0, z1], _ =>
        have k0 := hzg 0 (by omega)
        have k1 := hzg 1 (by omega)
        simp only [cst, Nat.zero_mul, Nat.one_mul, List.drop_zero, List.drop_succ_cons, List.take_succ_cons, List.take_zero, List.getElem?_cons_zero, List.getElem?_cons_succ] at k0 k1
        obtain ⟨h0, q0, r0, s0⟩ := DataW.trod_string Tryz.underlying9 k0
        obtain ⟨h1, q1, r1, s1⟩ := DataW.trod_string Tryz.underlying9 k1
        simp only [List.cons.injEq, and_true] at ha hb hc ht q0 q1
        have m1 : IntKind.i64.min = -9223372036854775808 := rfl
        have m2 : IntKind.i64.max = 9223372036854775807 := rfl
        simp [Lit.wf, m1, m2] at wa wb wt
        have m3 : maxLen = 9223372036854775807 := rfl
        rw [m3] at wc s0 s1
        refine ⟨a, b, c, t, h0, h1, by rw [ha, hb, hc, ht, q0, q1], ?_, by omega, by omega, by omega, wa, wb, wt⟩
        rw [hx]
        simp [ea, eb, ec, et, hz, r0, r1]

end
end Go.Proofs.YtcdfeaodfmfdnaaGreatDoor
