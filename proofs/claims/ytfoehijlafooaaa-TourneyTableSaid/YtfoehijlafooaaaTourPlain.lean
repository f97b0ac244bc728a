/- Tournaments: results, points: plain. -/
namespace Go.Proofs.Ytfoehijlafooaaa

structure Res where
  a : Int
  b : Int
  h : Int
def ResGood (n : Int) (r : Res) : Prop := 0 ≤ r.a ∧ r.a < n ∧ 0 ≤ r.b ∧ r.b < n ∧ r.a ≠ r.b ∧ 0 ≤ r.h ∧ r.h ≤ 2
def ResOk (n : Int) (rs : List Res) : Prop := rs.length ≤ 10000 ∧ ∀ r ∈ rs, ResGood n r
open Classical in
noncomputable def resB (n : Int) (rs : List Res) : Bool := decide (ResOk n rs)
theorem resB_true {n : Int} {rs : List Res} : resB n rs = true ↔ ResOk n rs := by unfold resB; simp
theorem resB_false {n : Int} {rs : List Res} : resB n rs = false ↔ ¬ ResOk n rs := by unfold resB; simp
def flatR (rs : List Res) : List Int := rs.flatMap fun r => [r.a, r.b, r.h]
theorem flatR_len (rs : List Res) : (flatR rs).length = rs.length * 3 := by
  induction rs with
  | nil => rfl
  | cons r rs ih => simp only [flatR, List.flatMap_cons, List.length_append] at ih ⊢; rw [ih]; simp; omega
theorem flatR_get : ∀ (rs : List Res) (i : Nat) (hi : i < rs.length), (flatR rs)[i * 3]? = some rs[i].a ∧ (flatR rs)[i * 3 + 1]? = some rs[i].b ∧ (flatR rs)[i * 3 + 2]? = some rs[i].h
  | r :: rs, 0, _ => by simp [flatR]
  | r :: rs, i + 1, hi => by
    have h := flatR_get rs i (by simpa using hi)
    have e : flatR (r :: rs) = r.a :: r.b :: r.h :: flatR rs := by simp [flatR]
    have e1 : (i + 1) * 3 = i * 3 + 1 + 1 + 1 := by omega
    have e2 : (i + 1) * 3 + 1 = (i * 3 + 1) + 1 + 1 + 1 := by omega
    have e3 : (i + 1) * 3 + 2 = (i * 3 + 2) + 1 + 1 + 1 := by omega
    rw [e, e2, e3, e1]
    simp only [List.getElem?_cons_succ, List.getElem_cons_succ]
    exact h
end Go.Proofs.Ytfoehijlafooaaa
