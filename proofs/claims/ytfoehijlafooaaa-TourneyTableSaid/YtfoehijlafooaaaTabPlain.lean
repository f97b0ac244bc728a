/- the table's plain law: points and others' points -/
import Derived.Test.YtfoehijlafooaaaTourPlain
import Derived.Test.YtfoehijlafooaaaTourCmp
namespace Go.Proofs.Ytfoehijlafooaaa
open Go.Shelf Go.Lib Go.Sort

def pt1 (r : Res) (p : Int) : Int := (if r.a = p then r.h else 0) + (if r.b = p then 2 - r.h else 0)
def ot1 (f : Int → Int) (r : Res) (p : Int) : Int := (if r.a = p then f r.b else 0) + (if r.b = p then f r.a else 0)
def ptsR (rs : List Res) (p : Int) : Int := (rs.map fun r => pt1 r p).sum
def othR (f : Int → Int) (rs : List Res) (p : Int) : Int := (rs.map fun r => ot1 f r p).sum
def swpR (r : Res) : Res := ⟨r.b, r.a, 2 - r.h⟩
theorem pt1_swp (r : Res) (p : Int) : pt1 (swpR r) p = pt1 r p := by
  unfold pt1 swpR; simp only; split <;> split <;> omega
theorem ot1_swp (f : Int → Int) (r : Res) (p : Int) : ot1 f (swpR r) p = ot1 f r p := by
  unfold ot1 swpR; simp only; split <;> split <;> omega
theorem good_swp {n : Int} {r : Res} (h : ResGood n r) : ResGood n (swpR r) := by
  obtain ⟨h1, h2, h3, h4, h5, h6, h7⟩ := h
  exact ⟨h3, h4, h1, h2, fun e => h5 e.symm, by simp only [swpR]; omega, by simp only [swpR]; omega⟩
theorem ptsR_append (xs ys : List Res) (p : Int) : ptsR (xs ++ ys) p = ptsR xs p + ptsR ys p := by simp [ptsR]
theorem othR_append (f : Int → Int) (xs ys : List Res) (p : Int) : othR f (xs ++ ys) p = othR f xs p + othR f ys p := by simp [othR]
theorem ptsR_one (r : Res) (p : Int) : ptsR [r] p = pt1 r p := by simp [ptsR]
theorem othR_one (f : Int → Int) (r : Res) (p : Int) : othR f [r] p = ot1 f r p := by simp [othR]
theorem take_one {α : Type} (xs : List α) (i : Nat) (hi : i < xs.length) : xs.take (i + 1) = xs.take i ++ [xs[i]] := by
  rw [List.take_add_one, List.getElem?_eq_getElem hi]; rfl
theorem pt1_bnd {n : Int} {r : Res} (h : ResGood n r) (p : Int) : 0 ≤ pt1 r p ∧ pt1 r p ≤ 2 := by
  obtain ⟨h1, h2, h3, h4, h5, h6, h7⟩ := h
  unfold pt1; split <;> split <;> omega
theorem ot1_bnd {n : Int} {r : Res} {f : Int → Int} {M : Int} (h : ResGood n r) (hf : ∀ q, 0 ≤ f q ∧ f q ≤ M) (p : Int) : 0 ≤ ot1 f r p ∧ ot1 f r p ≤ M := by
  obtain ⟨h1, h2, h3, h4, h5, h6, h7⟩ := h
  have ha := hf r.a
  have hb := hf r.b
  unfold ot1; split <;> split <;> omega
theorem ptsR_bnd {n : Int} : ∀ {rs : List Res} (_ : ∀ r ∈ rs, ResGood n r) (p : Int), 0 ≤ ptsR rs p ∧ ptsR rs p ≤ 2 * rs.length
  | [], _, p => by simp [ptsR]
  | r :: rs, h, p => by
    have ih := ptsR_bnd (fun x hx => h x (List.mem_cons_of_mem _ hx)) p
    have hr := pt1_bnd (h r (List.mem_cons_self ..)) p
    have e : ptsR (r :: rs) p = pt1 r p + ptsR rs p := by simp [ptsR]
    rw [e, List.length_cons]
    omega
theorem othR_bnd {n : Int} {f : Int → Int} {M : Int} (hf : ∀ q, 0 ≤ f q ∧ f q ≤ M) : ∀ {rs : List Res} (_ : ∀ r ∈ rs, ResGood n r) (p : Int), 0 ≤ othR f rs p ∧ othR f rs p ≤ M * rs.length
  | [], _, p => by simp [othR]
  | r :: rs, h, p => by
    have ih := othR_bnd hf (fun x hx => h x (List.mem_cons_of_mem _ hx)) p
    have hr := ot1_bnd (h r (List.mem_cons_self ..)) hf p
    have e : othR f (r :: rs) p = ot1 f r p + othR f rs p := by simp [othR]
    rw [e, List.length_cons]
    have e2 : M * ((rs.length + 1 : Nat) : Int) = M * rs.length + M := by rw [Int.natCast_add, Int.mul_add]; simp
    rw [e2]
    omega
theorem sumI_perm {xs ys : List Int} (h : xs.Perm ys) : xs.sum = ys.sum := by
  induction h with
  | nil => rfl
  | cons x _ ih => simp [ih]
  | swap x y l => simp; omega
  | trans _ _ i1 i2 => exact i1.trans i2
theorem ptsR_perm {xs ys : List Res} (h : xs.Perm ys) (p : Int) : ptsR xs p = ptsR ys p := sumI_perm (h.map _)
theorem othR_perm {xs ys : List Res} (f : Int → Int) (h : xs.Perm ys) (p : Int) : othR f xs p = othR f ys p := sumI_perm (h.map _)
theorem ptsR_swp (xs : List Res) (p : Int) : ptsR (xs.map swpR) p = ptsR xs p := by simp [ptsR, Function.comp_def, pt1_swp]
theorem othR_swp (f : Int → Int) (xs : List Res) (p : Int) : othR f (xs.map swpR) p = othR f xs p := by simp [othR, Function.comp_def, ot1_swp]
/-- the sum over all players -/
def allP (n : Nat) (f : Int → Int) : Int := ((List.range n).map fun p : Nat => f (p : Int)).sum
theorem allP_succ (n : Nat) (f : Int → Int) : allP (n + 1) f = allP n f + f n := by simp [allP, List.range_succ]
theorem allP_add (n : Nat) (f g : Int → Int) : allP n (fun p => f p + g p) = allP n f + allP n g := by
  induction n with
  | zero => rfl
  | succ n ih => rw [allP_succ, allP_succ, allP_succ, ih]; omega
theorem allP_one (n : Nat) (a v : Int) (h0 : 0 ≤ a) : allP n (fun p => if a = p then v else 0) = if a < n then v else 0 := by
  induction n with
  | zero => simp only [allP, List.range_zero, List.map_nil, List.sum_nil]; split <;> omega
  | succ n ih =>
    rw [allP_succ, ih]
    split <;> split <;> split <;> omega
theorem allP_pts {n : Nat} : ∀ {rs : List Res} (_ : ∀ r ∈ rs, ResGood n r), allP n (ptsR rs) = 2 * rs.length
  | [], _ => by
    have : ∀ n, allP n (ptsR []) = 0 := fun n => by
      induction n with
      | zero => simp [allP]
      | succ n ih => rw [allP_succ, ih]; simp [ptsR]
    rw [this]; simp
  | r :: rs, h => by
    have ih := allP_pts (fun x hx => h x (List.mem_cons_of_mem _ hx))
    obtain ⟨h1, h2, h3, h4, h5, h6, h7⟩ := h r (List.mem_cons_self ..)
    have e : ptsR (r :: rs) = fun p => ((if r.a = p then r.h else 0) + (if r.b = p then 2 - r.h else 0)) + ptsR rs p := by funext p; simp [ptsR, pt1]
    rw [e, allP_add, ih, allP_add, allP_one n r.a _ h1, allP_one n r.b _ h3, List.length_cons]
    simp only [h2, h4, if_true]
    omega

/-- the row before it is sorted: after k1 results of points, k2 of others -/
def rowP (n : Nat) (rs : List Res) : List Rk := (List.range n).map fun p : Nat => ⟨p, ptsR rs p, 0⟩
def rowO (n : Nat) (rs os : List Res) : List Rk := (List.range n).map fun p : Nat => ⟨p, ptsR rs p, othR (ptsR rs) os p⟩
def tabR (n : Nat) (rs : List Res) : List Rk := List.mergeSort (rowO n rs rs) (fun a b => !(ltOf cfRk b a))
theorem tabR_congr (n : Nat) {rs qs : List Res} (h1 : ∀ p, ptsR rs p = ptsR qs p) (h2 : ∀ f p, othR f rs p = othR f qs p) : tabR n rs = tabR n qs := by
  have e : ptsR rs = ptsR qs := funext h1
  unfold tabR rowO
  simp only [h2, e]
end Go.Proofs.Ytfoehijlafooaaa
