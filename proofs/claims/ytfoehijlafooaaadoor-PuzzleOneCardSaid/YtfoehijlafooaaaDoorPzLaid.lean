/- The library's table as the row lists it, opened for the walks. -/
import Derived.Test.YtfoehijlafooaaaDoorRows
import Derived.Test.YtfoehijlafooaaaDoorPzTz
import Derived.ProofKit
import Derived.LaidMore
import Derived.OpenShut
import Derived.Stop.Joined
namespace Go.Proofs.YtfoehijlafooaaaDoor
open Go.ChangeShapes Go.WideShapes Go.ChangeAt Go.WideMaps Go.WideElems Go.RowKit

def laid2 : List (String × DataW Unit) := [("math/bits.deBruijn32tab", Rows.laid_math_bits_deBruijn32tab), ("math/bits.deBruijn64tab", Rows.laid_math_bits_deBruijn64tab)]
theorem own_door : ownKnob Tryd.prog.godebug = none := by kernel_rfl
theorem g32 : Tryd.prog.globalNamed "math/bits.deBruijn32tab" = some 0 := by kernel_rfl
theorem g64 : Tryd.prog.globalNamed "math/bits.deBruijn64tab" = some 1 := by kernel_rfl
theorem t64 : (Tryd.prog.globals[1]?).map (·.type) = some 56 := by kernel_rfl
theorem tabD : (Rows.laid_math_bits_deBruijn64tab : DataW Unit) = .agg (Lib.deBruijn64tab.map fun x : Nat => .lit (.int .u8 (x : Int))) := by kernel_rfl

theorem door_met (os : Os) (args : Array Value) : laidMetH Tryd.prog laid2 ((World.doorLaid Tryd.prog 19 os).forCall (fun _ _ => 0) ⟨#[], args, []⟩).memory :=
  laidMetH_of_parts3 (fuel := 8) (laidMet_of_run' 8 (by kernel_rfl) (by kernel_rfl)) (by kernel_rfl) (by kernel_rfl)

theorem tab_of_laid {W : World} (h : laidMetH Tryd.prog laid2 W) : TabAt 1 Lib.deBruijn64tab W := by
  rw [MakeChecks.laidMetH_plain _ _ _ (by kernel_rfl)] at h
  obtain ⟨ps, ⟨g0, t0, cs0, f0, p0, q0, hg0, ht0, hv0, hd0, ⟨g1, t1, cs1, f1, p1, q1, hg1, ht1, hv1, hd1, _, _⟩, _⟩, _, _⟩ := h
  obtain rfl := Option.some.inj (g64.symm.trans hg1)
  obtain rfl := Option.some.inj (t64.symm.trans ht1)
  obtain ⟨xs, m1, rfl, hx1, hlen, hn3, hel⟩ := DataW.trod_array Tryd.underlying56 hd1
  have c5 : Tryd.prog.cellsOf 5 = 1 := by kernel_rfl
  simp only [Prod.mk.injEq] at hx1
  have hd := hx1.1
  rw [tabD] at hd
  injection hd with hd
  intro j hj
  have hj64 : j < 64 := hj
  have h0 := hel j (by omega)
  rw [c5, Nat.mul_one] at h0
  rw [List.getElem?_eq_getElem (show j < xs.length by omega)] at h0
  obtain ⟨k, e1, e2, _⟩ := DataW.trod_int Tryd.underlying5 h0
  have hk : (Lib.deBruijn64tab.map fun x : Nat => (DataW.lit (.int .u8 (x : Int)) : DataW Unit))[j]? = some (.lit (.int .u8 k)) := by
    rw [hd, List.getElem?_map, List.getElem?_eq_getElem (show j < xs.length by omega), Option.map_some, e2]
  rw [List.getElem?_map, List.getElem?_eq_getElem hj, Option.map_some] at hk
  injection hk with hk
  injection hk with hk
  injection hk with _ hk
  have hc := World.var?_cell hg1 hv1 j
  rw [hc, ← Array.getElem?_toList]
  have h2 : (cs1.toList.drop j)[0]? = some (.int .u8 k) := by
    have h3 : ((cs1.toList.drop j).take 1)[0]? = (cs1.toList.drop j)[0]? := by rw [List.getElem?_take]; simp
    rw [← h3, e1]; rfl
  rw [List.getElem?_drop, Nat.add_zero] at h2
  rw [h2, ← hk, List.getD_eq_getElem?_getD, List.getElem?_eq_getElem hj, Option.getD_some]
end Go.Proofs.YtfoehijlafooaaaDoor
