/- slices.Clone of doubles -/
import Derived.Test.YtfoehijlafooaaaFlIdx
import Derived.Shelf.SlicesE.Clone
namespace Go.Proofs.Ytfoehijlafooaaa
open Go.RowKit Go.Shelf

def cloneRen : Go.Shelf.Ren := ⟨fun | 41 => 70 | n => n, fun | 22 => 77 | 23 => 78 | 4 => 4 | n => n, fun | n => n⟩
theorem cloneLays : Go.Proofs.SlLaysE0.n41 Try.prog cloneRen := {
  mixed := by kernel_rfl
  f41 := ⟨Try.f70.name, by decide, Try.func70.trans (congrArg some (by kernel_rfl))⟩
  t4 := Try.underlying4
  a4 := Try.isAgg4
  z4 := Try.sizeOf4
  v4 := Try.zeroValue4
  t22 := Try.underlying77
  a22 := Try.isAgg77
  z22 := Try.sizeOf77
  v22 := Try.zeroValue77 }
theorem info_f64 : ∃ i : TypeInfo, Try.prog.info? 78 = some i ∧ i.zero = some (.float .f64 0) ∧ i.size = 1 ∧ i.bytes = 8 := by
  have h : (Try.prog.info? 78).map (fun i => (i.zero, i.size, i.bytes)) = some (some (.float .f64 0), 1, 8) := by kernel_rfl
  cases hi : Try.prog.info? 78 with
  | none => rw [hi] at h; simp at h
  | some i => rw [hi] at h; simp at h; exact ⟨i, rfl, h.1, h.2.1, h.2.2⟩
/-- doubles in a block of the call's own -/
def FltsG (w : World) (g : Nat) (l : List Nat) : Prop := ∃ cs : Array Value, Blk w g 78 cs ∧ ∀ j (h : j < l.length), cs[j]? = some (.float .f64 l[j])
section
variable {w w' : World} {g : Nat} {l : List Nat}
theorem FltsG.at_ (h : FltsG w g l) {j : Nat} (hj : j < l.length) : w.cell? ⟨g, j, none⟩ = some (.float .f64 l[j]) := by
  obtain ⟨cs, hb, hc⟩ := h
  exact hb.cellv (hc j hj)
theorem FltsG.free (h : FltsG w g l) (j : Nat) : w.frozen? ⟨g, j, none⟩ = false := by
  obtain ⟨cs, hb, _⟩ := h
  exact hb.free j
theorem FltsG.below {B : Nat} (h : FltsG w g l) (hb : Below B w w') (hg : g < B) : FltsG w' g l := by
  obtain ⟨cs, h1, h2⟩ := h
  exact ⟨cs, h1.below hb hg, h2⟩
theorem FltsG.lt (h : FltsG w g l) : g < w.heap.size := by
  obtain ⟨cs, h1, _⟩ := h
  exact h1.lt
theorem FltsG.drewN (h : FltsG w g l) (n : Nat) : FltsG (w.drewN n) g l := h
theorem FltsG.alloc (h : FltsG w g l) (o : Obj) : FltsG (w.alloc o) g l := by
  obtain ⟨cs, h1, h2⟩ := h
  exact ⟨cs, h1.alloc o, h2⟩
theorem FltsG.far (h : FltsG w g l) {p : Addr} (hp : g ≠ p.block) (u : Value) : FltsG (w.setCell p u) g l := by
  obtain ⟨cs, h1, h2⟩ := h
  exact ⟨cs, h1.far hp u, h2⟩
theorem FltsG.set_ (h : FltsG w g l) {i : Nat} (hi : i < l.length) (v : Nat) : FltsG (w.setCell ⟨g, i, none⟩ (.float .f64 v)) g (l.set i v) := by
  obtain ⟨cs, h1, h2⟩ := h
  refine ⟨_, h1.set_ i _, fun j hj => ?_⟩
  rw [List.length_set] at hj
  have hs : i < cs.size := (Array.getElem?_eq_some_iff.1 (h2 i hi)).1
  rw [Array.getElem?_setIfInBounds, List.getElem_set]
  by_cases e : i = j
  · subst e; rw [if_pos rfl, if_pos hs, if_pos rfl]
  · rw [if_neg e, if_neg e]; exact h2 j hj
theorem FltsG.cells (h : FltsG w g l) : Cells w w.heap.size (some ⟨g, 0, none⟩) (flts l) := fun _ => by
  obtain ⟨cs, hb, hc⟩ := h
  refine ⟨g, 0, rfl, hb.lt, fun j hj => ?_⟩
  have hj' : j < l.length := by simpa using hj
  rw [Nat.zero_add, hb.cellv (hc j hj'), flts_get]
end
theorem own_flts {w : World} {base : Nat} {v : Value} {l : List Nat} (h : w.ownsRow base 78 1 v l.length (flts l)) (hn : 0 < l.length) :
    ∃ g cap, v = .slice (some ⟨g, 0, none⟩) l.length cap ∧ base ≤ g ∧ g < w.heap.size ∧ l.length ≤ cap ∧ FltsG w g l := by
  obtain ⟨h1, h2⟩ := h
  rcases h2 with ⟨rfl, h3⟩ | ⟨g, cap, cur, rfl, hbg, hg, hnc, hcm, hcs, htake⟩
  · rw [h3] at hn; omega
  · refine ⟨g, cap, rfl, hbg, (Array.getElem?_eq_some_iff.1 hg).1, hnc, ⟨cur, hg, fun j hj => ?_⟩⟩
    have h5 : cur.toList[j]? = (flts l)[j]? := by
      rw [← htake, List.getElem?_take, if_pos (by omega)]
    rw [← Array.getElem?_toList, h5, List.getElem?_eq_getElem (by simpa using hj), flts_get]
theorem clonef_any (b off c : Nat) (l : List Nat) (w : World) (h8 : l.length ≤ 1000000) (hc : ∀ j (h : j < l.length), w.cell? ⟨b, off + j, none⟩ = some (.float .f64 l[j])) :
    Calls Try.prog 70 #[.slice (some ⟨b, off, none⟩) l.length c] w fun e w' => ∃ v', e = .returned v' ∧ w'.ownsRow w.heap.size 78 1 v' l.length (flts l) ∧ Below w.heap.size w w' := by
  obtain ⟨i0, h1, h2, h3, h4⟩ := info_f64
  refine (AnyE.slices_Clone cloneLays i0 (.float .f64 0) 1 8 h1 h2 h3 h4 rfl (by decide) Try.sizeOf78 b off l.length c (flts l) w (by simp) (by unfold maxLen; omega) (by omega) (fun j u hu => ?_) (by simp [flts, Value.oneCell'])).mono (fun e w' ⟨v', q1, q2, _, q4⟩ => ⟨v', q1, q2, q4⟩)
  obtain ⟨hj, hju⟩ := List.getElem?_eq_some_iff.1 hu
  rw [flts_get] at hju
  rw [hc j (by simpa using hj), hju]
theorem clonef_nil (n c : Nat) (w : World) : Calls Try.prog 70 #[.slice none n c] w fun e w' => e = .returned (.slice none 0 0) ∧ w' = w := AnyE.slices_Clone_nil cloneLays n c w
end Go.Proofs.Ytfoehijlafooaaa
