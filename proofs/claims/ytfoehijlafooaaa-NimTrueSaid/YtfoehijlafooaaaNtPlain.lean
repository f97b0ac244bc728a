/- Sprague and Grundy, for heaps: from what is lost each move leads to what is won. Plain. -/
import Derived.Test.YtfoehijlafooaaaHeapPlain
namespace Go.Proofs.Ytfoehijlafooaaa

theorem xorP_acc (G : Nat → Nat) : ∀ (ps : List Nat) (v : Nat), ps.foldl (fun v x => v ^^^ G x) v = v ^^^ xorP G ps
  | [], v => by simp [xorP]
  | x :: ps, v => by
    simp only [List.foldl_cons, xorP]
    rw [xorP_acc G ps, xorP_acc G ps (0 ^^^ G x), Nat.zero_xor, Nat.xor_assoc]
theorem xorP_app (G : Nat → Nat) (a b : List Nat) : xorP G (a ++ b) = xorP G a ^^^ xorP G b := by
  unfold xorP
  rw [List.foldl_append, xorP_acc]
  rfl
/-- heap i taken away, others put in its place -/
def swapAt (ns : List Nat) (i : Nat) (ps : List Nat) : List Nat := ns.take i ++ ns.drop (i + 1) ++ ps
theorem swapAt_xor (G : Nat → Nat) (ns : List Nat) (i : Nat) (hi : i < ns.length) (ps : List Nat) :
    xorP G (swapAt ns i ps) = xorP G ns ^^^ G ns[i] ^^^ xorP G ps := by
  have h : xorP G ns = xorP G (ns.take i) ^^^ (G ns[i] ^^^ xorP G (ns.drop (i + 1))) := by
    conv => lhs; rw [← List.take_append_drop i ns]
    rw [xorP_app, List.drop_eq_getElem_cons hi]
    congr 1
    have : ns[i] :: ns.drop (i + 1) = [ns[i]] ++ ns.drop (i + 1) := rfl
    rw [this, xorP_app]
    congr 1
    simp [xorP]
  rw [swapAt, xorP_app, xorP_app, h]
  congr 1
  rw [Nat.xor_comm (G ns[i]), Nat.xor_assoc, Nat.xor_assoc, Nat.xor_self, Nat.xor_zero]
theorem swapAt_len (ns : List Nat) (i : Nat) (hi : i < ns.length) (ps : List Nat) : (swapAt ns i ps).length = ns.length - 1 + ps.length := by
  simp [swapAt]; omega
theorem swapAt_le {ns : List Nat} {i : Nat} (hi : i < ns.length) (hns : ∀ x ∈ ns, x ≤ 400) {ps : List Nat} (hps : ∀ x ∈ ps, x < ns[i]) : ∀ x ∈ swapAt ns i ps, x ≤ 400 := by
  intro x hx
  simp only [swapAt, List.mem_append] at hx
  have h1 := hns ns[i] (List.getElem_mem hi)
  rcases hx with (hx | hx) | hx
  · exact hns x (List.mem_of_mem_take hx)
  · exact hns x (List.mem_of_mem_drop hx)
  · have := hps x hx; omega
theorem lost_moves (d ns : List Nat) (h0 : xorP (gv d) ns = 0) (i : Nat) (hi : i < ns.length) (ps : List Nat) (hps : ps ∈ opts d ns[i]) : xorP (gv d) (swapAt ns i ps) ≠ 0 := by
  rw [swapAt_xor _ _ _ hi, h0, Nat.zero_xor]
  intro he
  have he2 : gv d ns[i] = xorP (gv d) ps := by
    have := congrArg (· ^^^ xorP (gv d) ps) he
    simpa [Nat.xor_assoc] using this
  have hm := (mexS_is ((opts d ns[i]).map fun ps => ((xorP (gv d) ps : Nat) : Int))).2
  rw [← gv_eq, he2] at hm
  exact hm (List.mem_map.2 ⟨ps, hps, rfl⟩)
end Go.Proofs.Ytfoehijlafooaaa
