/- tourney.Table -/
import Derived.Test.YtfoehijlafooaaaTabKit
import Derived.Test.YtfoehijlafooaaaTourRes
import Derived.BigRegion
namespace Go.Proofs.Ytfoehijlafooaaa
open Go.RowKit Go.Shelf Go.Lib Go.Sort

theorem info_rank : (Try.prog.info? 74).map (fun i => (i.zero, i.size, i.bytes)) = some (some (.agg #[.int .i64 0, .int .i64 0, .int .i64 0]), 3, 24) := by kernel_rfl
theorem grownBy_sortedK {w : World} {g n : Nat} {os : Array Obj} (d : Array Rk) : w.grownBy (grow (putRowK encRk 3 (Sort.ahead w n) g 0 d) os) (some g) := by
  refine ⟨rfl, rfl, rfl, by simp [putRowK], fun k hk hne => ?_⟩
  rw [heap_grow_old _ _ (by simpa [putRowK] using hk)]
  have : g ≠ k := fun e => hne (by rw [e])
  simp [putRowK, putRow, mapBlock, Sort.ahead, Array.getElem?_modify, this]
theorem run_make3 {P : Program} (t e : TypeId) (i : TypeInfo) (z : Value) (ht : P.underlying t = some (.slice e)) (hi : P.info? e = some i) (hz : i.zero = some z)
    (hsize : i.size = 3) (hone : z.cells = #[.int .i64 0, .int .i64 0, .int .i64 0]) (kl kc : IntKind) (n : Nat) (hbytes : i.bytes * n ≤ 281474976710656) (h63 : n ≤ 9223372036854775807) (w : World) :
    (Instr.makeSlice t (.int kl (n : Int)) (.int kc (n : Int))).run P w = .ok (.slice (some ⟨w.heap.size, 0, none⟩) n n) (w.alloc (.cells (flat3 n (fun _ => 0) (fun _ => 0) (fun _ => 0)) e)) := by
  have hb : (i.bytes : Int) * (n : Int) ≤ 281474976710656 := by
    have h : ((i.bytes * n : Nat) : Int) ≤ 281474976710656 := by omega
    rwa [Int.natCast_mul] at h
  have hr := run_make (P := P) w t e i z ht hi hz kl kc n n (by omega) (by omega) hb (by omega)
  simp only [Int.toNat_natCast] at hr
  rw [hr, hsize, hone, flat3_made]

set_option maxHeartbeats 2000000 in
set_option maxRecDepth 100000 in
theorem table_bad (n : Int) (A : Option Addr) (c : Nat) (rs : List Res) (W : World) (hl : rs.length ≤ 9223372036854775807) (hA : Cells W W.heap.size A (ints (flatR rs))) (hbad : n < 0 ∨ 200 < n ∨ ¬ ResOk n rs) :
    Calls Try.prog 35 #[.int .i64 n, .slice A rs.length c] W fun e w' => e = .returned (.tuple #[.slice none 0 0, .int .i64 1]) ∧ Below W.heap.size W w' := by
  have HR := hide (fun W' (hb : Below W.heap.size W W') => results_any n A c rs W' hl ((hA.below hb).more hb.size))
  clear hA
  by_cases q0 : n < 0
  · have e0 : decide (n < 0) = true := by simp [q0]
    clear hbad
    go_enter Try.func35, Try.ntmps35
    go_wp2_with fail
    go_ret2
    exact ⟨rfl, Below.refl _ _⟩
  have e0 : decide (n < 0) = false := by simp; omega
  by_cases q1 : n > 200
  · have e1 : decide (n > 200) = true := by simp [q1]
    clear hbad
    go_enter Try.func35, Try.ntmps35
    go_wp2_with fail
    go_ret2
    exact ⟨rfl, Below.refl _ _⟩
  have e1 : decide (n > 200) = false := by simp; omega
  have q2 : resB n rs = false := resB_false.2 (by exact hbad.elim (fun h => absurd h q0) (fun h => h.elim (fun h => absurd h (by omega)) id))
  rw [q2] at HR
  clear hbad q2
  go_enter Try.func35, Try.ntmps35
  go_wp2_with (go_at_call 64; refine (HR.out _ (Below.refl _ _)).mono ?_; rintro e w' ⟨rfl, hb⟩)
  go_ret2
  exact ⟨rfl, by assumption⟩
end Go.Proofs.Ytfoehijlafooaaa
