/- A list of doubles as an argument, opened. -/
import Derived.Test.YtfoehijlafooaaaOpenRes
import Derived.Test.YtfoehijlafooaaaFlSame
import Derived.Laws.Cover2
namespace Go.Proofs.Ytfoehijlafooaaa
open Go.RowKit Go.ChangeShapes Go.WideShapes Go.Deep
section
variable {H : Type} {enc : TypeId × Value → H} {w : World} {base : Nat} {spare : Nat → Bool} {held : Bool}
theorem trod_fltP {P : Program} {t : TypeId} (ht : P.underlying t = some (.float .f64)) {fuel : Nat} {cs : List Value} {x : DataW H × List MemPlace} (h : DataW.trod enc P w base spare held fuel t cs = some x) : ∃ b, cs = [.float .f64 b] := by
  cases fuel with
  | zero => simp [DataW.trod] at h
  | succ n =>
    unfold DataW.trod at h
    rw [ht] at h
    split at h <;> simp_all
theorem trod_flt {fuel : Nat} {cs : List Value} {x : DataW H × List MemPlace} (h : DataW.trod enc Try.prog w base spare held fuel 78 cs = some x) : ∃ b, cs = [.float .f64 b] := trod_fltP Try.underlying78 h

set_option maxRecDepth 100000 in
theorem open_flts {v : Value} {d : DataW H} {p : List MemPlace} (hok : ∃ a n c, v = .slice a n c) (h : DataW.Trod enc Try.prog w base spare held 77 v d p) :
    ∃ A c l, v = .slice A l.length c ∧ l.length ≤ c ∧ c ≤ maxLen ∧ Cells w w.heap.size A (flts l) := by
  obtain ⟨a0, n0, c0, rfl⟩ := hok
  obtain ⟨fuel, hf⟩ := h
  have c1 : Try.prog.cellsOf 78 = 1 := by kernel_rfl
  rcases DataW.trod_slice Try.underlying77 hf with ⟨hcs, hx⟩ | ⟨a, len, cap, elems, rest, n, _, hcs, _, _, hl, hm, he, hg, _⟩
  · simp [Value.cells] at hcs
    obtain ⟨rfl, rfl, rfl⟩ := hcs
    exact ⟨none, 0, [], rfl, by simp, by simp [maxLen], Cells.nil_⟩
  · simp [Value.cells] at hcs
    obtain ⟨rfl, rfl, rfl⟩ := hcs
    rw [c1] at hg
    have hall : ∀ i, i < n0 → ∃ b : Nat, w.cells? base (a.add (i * 1)) 1 = some [.float .f64 b] := fun i hi => by
      have h1 := hg i hi
      rw [List.getElem?_eq_getElem (by omega)] at h1
      obtain ⟨cs, q1, q2⟩ := Option.bind_eq_some_iff.1 h1
      obtain ⟨b, rfl⟩ := trod_flt q2
      exact ⟨b, q1⟩
    obtain ⟨l, hlen, hls⟩ := list_each hall
    subst hlen
    refine ⟨some a, c0, l, rfl, hl, hm, cells_of (fun k hk => ?_)⟩
    have hk' : k < l.length := by simpa using hk
    obtain ⟨_, _, h1⟩ := World.cells?_some (hls k hk')
    have h2 := h1 0 (by simp)
    rw [Nat.mul_one] at h2
    have ha : (a.add k).add 0 = a.add k := by simp [Addr.add]
    rw [ha] at h2
    rw [h2, flts_get]; rfl
end
end Go.Proofs.Ytfoehijlafooaaa
