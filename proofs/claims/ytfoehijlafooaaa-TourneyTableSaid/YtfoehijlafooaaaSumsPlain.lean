/- TourneySums: the plain law: the results turned and swapped give the same table; the points' sum. -/
import Derived.Test.YtfoehijlafooaaaTabPlain
import Derived.Test.YtfoehijlafooaaaOpenRes
namespace Go.Proofs.Ytfoehijlafooaaa
open Go.RowKit Go.Shelf Go.Lib Go.Sort

def mkR (t : Int) (r : Res) : Res := if t.tmod 2 = 0 then swpR r else r
def rotK (L : Nat) (t : Int) : Nat := (t.tmod L + L).toNat
def rotR (L : Nat) (t : Int) (i : Nat) : Nat := (i + rotK L t) % L
theorem tmod_bnd (t : Int) {L : Nat} (hL : 0 < L) : -(L : Int) < t.tmod L ∧ t.tmod L < L := by
  have h1 := Int.tmod_lt_of_pos t (b := (L : Int)) (by omega)
  have h2 := Int.lt_tmod_of_pos t (b := (L : Int)) (by omega)
  omega
theorem rotR_eq {L : Nat} (hL : 0 < L) (t : Int) (i : Nat) : ((i : Int) + t.tmod L + L).tmod L = (rotR L t i : Nat) := by
  have h := tmod_bnd t hL
  have e : (i : Int) + t.tmod L + L = ((i + rotK L t : Nat) : Int) := by unfold rotK; omega
  rw [e, ← Int.ofNat_tmod]; rfl
theorem rotR_lt {L : Nat} (hL : 0 < L) (t : Int) (i : Nat) : rotR L t i < L := Nat.mod_lt _ hL

instance : Inhabited Res := ⟨⟨0, 0, 0⟩⟩
def turnedR (rs : List Res) (t : Int) : List Res := (List.range rs.length).map fun i => mkR t (rs[rotR rs.length t i]!)
theorem turnedR_len (rs : List Res) (t : Int) : (turnedR rs t).length = rs.length := by simp [turnedR]
theorem turnedR_map (rs : List Res) (t : Int) : turnedR rs t = ((rs.drop (rotK rs.length t % rs.length)) ++ (rs.take (rotK rs.length t % rs.length))).map (mkR t) := by
  apply List.ext_getElem
  · simp [turnedR]; omega
  · intro i h1 h2
    have hi : i < rs.length := by rw [turnedR_len] at h1; exact h1
    have hL : 0 < rs.length := by omega
    have hlt := rotR_lt hL t i
    simp only [turnedR, List.getElem_map, List.getElem_range, List.getElem_append, List.length_drop, List.getElem_drop, List.getElem_take]
    rw [getElem!_pos rs _ hlt]
    have hK : rotK rs.length t % rs.length < rs.length := Nat.mod_lt _ hL
    congr 1
    have hr : rotR rs.length t i = (i + rotK rs.length t % rs.length) % rs.length := by unfold rotR; simp
    split
    · have : rotR rs.length t i = rotK rs.length t % rs.length + i := by rw [hr, Nat.mod_eq_of_lt (by omega)]; omega
      simp only [this]
    · have : rotR rs.length t i = i - (rs.length - rotK rs.length t % rs.length) := by
        rw [hr, Nat.mod_eq_sub_mod (by omega), Nat.mod_eq_of_lt (by omega)]; omega
      simp only [this]
theorem turned_perm (rs : List Res) (k : Nat) : (rs.drop k ++ rs.take k).Perm rs := by
  have h := List.perm_append_comm (l₁ := rs.drop k) (l₂ := rs.take k)
  rwa [List.take_append_drop] at h
theorem mkR_all (t : Int) : (mkR t = swpR) ∨ (mkR t = id) := by
  by_cases h : t.tmod 2 = 0
  · exact .inl (by funext r; simp [mkR, h])
  · exact .inr (by funext r; simp [mkR, h])
theorem turned_ok {n : Int} {rs : List Res} (h : ResOk n rs) (t : Int) : ResOk n (turnedR rs t) := by
  refine ⟨by rw [turnedR_len]; exact h.1, ?_⟩
  rw [turnedR_map]
  intro r hr
  obtain ⟨q, hq, rfl⟩ := List.mem_map.1 hr
  have hg := h.2 q ((turned_perm rs _).mem_iff.1 hq)
  rcases mkR_all t with e | e
  · rw [e]; exact good_swp hg
  · rw [e]; exact hg
theorem turned_tab (n : Nat) (rs : List Res) (t : Int) : tabR n (turnedR rs t) = tabR n rs := by
  rw [turnedR_map]
  rcases mkR_all t with e | e
  · rw [e]
    exact tabR_congr n (fun p => by rw [ptsR_swp]; exact ptsR_perm (turned_perm rs _) p) (fun f p => by rw [othR_swp]; exact othR_perm f (turned_perm rs _) p)
  · rw [e, List.map_id]
    exact tabR_congr n (fun p => ptsR_perm (turned_perm rs _) p) (fun f p => othR_perm f (turned_perm rs _) p)
theorem turned_take {rs : List Res} {t : Int} {i : Nat} (hi : i < rs.length) : flatR ((turnedR rs t).take (i + 1)) = flatR ((turnedR rs t).take i) ++ [(mkR t rs[rotR rs.length t i]!).a, (mkR t rs[rotR rs.length t i]!).b, (mkR t rs[rotR rs.length t i]!).h] := by
  rw [take_one _ _ (by rw [turnedR_len]; exact hi)]
  simp [flatR, turnedR]

def rkR (r : Rk) : Res := ⟨r.p, r.pts, r.oth⟩
def tabS (n : Nat) (rs : List Res) : List Int := (tabR n rs).map (·.pts)
theorem tabR_len (n : Nat) (rs : List Res) : (tabR n rs).length = n := by simp [tabR, rowO]
theorem tabS_sum {n : Nat} {rs : List Res} (h : ResOk n rs) : (tabS n rs).sum = 2 * rs.length := by
  unfold tabS
  have e : ((tabR n rs).map (·.pts)).sum = ((rowO n rs rs).map (·.pts)).sum := sumI_perm ((List.mergeSort_perm _ _).map _)
  rw [e, ← allP_pts (n := n) h.2]
  simp [rowO, allP, Function.comp_def]
theorem tabS_bnd {n : Nat} {rs : List Res} (h : ResOk n rs) : ∀ x ∈ tabS n rs, 0 ≤ x ∧ x ≤ 20000 := by
  intro x hx
  obtain ⟨r, hr, rfl⟩ := List.mem_map.1 hx
  have hr2 := (List.mergeSort_perm (rowO n rs rs) _).mem_iff.1 hr
  obtain ⟨p, _, rfl⟩ := List.mem_map.1 hr2
  have := ptsR_bnd h.2 (p : Int)
  have := h.1
  constructor <;> simp only <;> omega
theorem sum_take (xs : List Int) (i : Nat) (hi : i < xs.length) : (xs.take (i + 1)).sum = (xs.take i).sum + xs[i] := by
  rw [take_one xs i hi, List.sum_append]; simp only [List.sum_cons, List.sum_nil, Int.add_zero]
theorem sum_bnd {M : Int} : ∀ {xs : List Int} (_ : ∀ x ∈ xs, 0 ≤ x ∧ x ≤ M), 0 ≤ xs.sum ∧ xs.sum ≤ M * xs.length
  | [], _ => by simp
  | x :: xs, h => by
    have ih := sum_bnd (fun y hy => h y (List.mem_cons_of_mem _ hy))
    have hx := h x (List.mem_cons_self ..)
    rw [List.sum_cons, List.length_cons]
    have e : M * ((xs.length + 1 : Nat) : Int) = M * xs.length + M := by rw [Int.natCast_add, Int.mul_add]; simp
    omega
theorem take_bnd {n : Nat} {rs : List Res} (h : ResOk n rs) (hn : n ≤ 200) (k : Nat) : 0 ≤ ((tabS n rs).take k).sum ∧ ((tabS n rs).take k).sum ≤ 4000000 := by
  have h1 := sum_bnd (fun x hx => tabS_bnd h x (List.mem_of_mem_take (i := k) hx))
  have hl : ((tabS n rs).take k).length ≤ n := by
    rw [List.length_take, tabS, List.length_map, tabR_len]; omega
  omega
end Go.Proofs.Ytfoehijlafooaaa
