/- Words for memory used by all texts of this claim: nothing of the program. -/
import Derived.WalkKit
import Derived.WalkSpells
import Derived.WalkLawsBesides
import Derived.Lib.Hide
namespace Go.Proofs.Ytfoehijlafooaaa
open Go.RowKit

theorem hide {p : Prop} (h : p) : Hid p := h

/-- ints as values -/
def ints (l : List Int) : List Value := l.map (Value.int .i64)
@[simp] theorem ints_length (l : List Int) : (ints l).length = l.length := by simp [ints]

/-- 'n' cells of block below B from 'A' hold the values xs -/
def Cells (w : World) (B : Nat) (A : Option Addr) (xs : List Value) : Prop :=
  0 < xs.length → ∃ b off, A = some ⟨b, off, none⟩ ∧ b < B ∧ ∀ k (h : k < xs.length), w.cell? ⟨b, off + k, none⟩ = some xs[k]

theorem Cells.nil_ {w B A} : Cells w B A [] := fun h => by simp at h

theorem Cells.at_ {w B A xs} (h : Cells w B A xs) {k : Nat} (hk : k < xs.length) :
    ∃ b off, A = some ⟨b, off, none⟩ ∧ b < B ∧ w.cell? ⟨b, off + k, none⟩ = some xs[k] := by
  obtain ⟨b, off, e, hb, hc⟩ := h (by omega)
  exact ⟨b, off, e, hb, hc k hk⟩

/-- rows of ints -/
def Rows2 (w : World) (B : Nat) (A : Option Addr) (rows : List (List Int)) : Prop :=
  ∃ vs : List Value, vs.length = rows.length ∧ Cells w B A vs ∧ ∀ k (h : k < rows.length), ∃ Ak ck, vs[k]? = some (.slice Ak rows[k].length ck) ∧ Cells w B Ak (ints rows[k])

theorem Rows2.at_ {w B A rows} (h : Rows2 w B A rows) {k : Nat} (hk : k < rows.length) :
    ∃ b off, A = some ⟨b, off, none⟩ ∧ b < B ∧ ∃ Ak ck, w.cell? ⟨b, off + k, none⟩ = some (.slice Ak rows[k].length ck) ∧ Cells w B Ak (ints rows[k]) := by
  obtain ⟨vs, hl, hc, hr⟩ := h
  obtain ⟨Ak, ck, hv, hck⟩ := hr k hk
  obtain ⟨b, off, e, hb, hcell⟩ := hc.at_ (k := k) (by omega)
  rw [List.getElem?_eq_getElem (by omega)] at hv
  injection hv with hv
  exact ⟨b, off, e, hb, Ak, ck, by rw [hcell, hv], hck⟩
end Go.Proofs.Ytfoehijlafooaaa
