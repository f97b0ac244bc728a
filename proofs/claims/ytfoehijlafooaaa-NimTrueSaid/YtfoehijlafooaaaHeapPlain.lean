/- Games of heaps: what can be taken, and what heaps are worth: plain. -/
import Derived.Test.YtfoehijlafooaaaXorPlain
namespace Go.Proofs.Ytfoehijlafooaaa

/-- one digit: what is left of a heap of which 'rest' is left -/
def optsA (dg rest : Nat) : List (List Nat) := if dg % 2 = 1 ∧ rest = 0 then [[]] else []
def optsB (dg rest : Nat) : List (List Nat) := if dg / 2 % 2 = 1 ∧ 0 < rest then [[rest]] else []
def optsC (dg rest m : Nat) : List (List Nat) := if dg / 4 = 1 then (List.range m).map fun a => [a + 1, rest - (a + 1)] else []
def optsK (dg rest : Nat) : List (List Nat) := optsA dg rest ++ optsB dg rest ++ optsC dg rest (rest / 2)
def optsTo (d : List Nat) (h n : Nat) : List (List Nat) := (List.range n).flatMap fun i => optsK (d.getD i 0) (h - (i + 1))
def opts (d : List Nat) (h : Nat) : List (List Nat) := optsTo d h (min d.length h)

theorem optsTo_succ (d : List Nat) (h n : Nat) : optsTo d h (n + 1) = optsTo d h n ++ optsK (d.getD n 0) (h - (n + 1)) := by simp [optsTo, List.range_succ]
theorem optsC_succ {dg rest m : Nat} (h : dg / 4 = 1) : optsC dg rest (m + 1) = optsC dg rest m ++ [[m + 1, rest - (m + 1)]] := by simp [optsC, h, List.range_succ]

theorem opts_lt {d : List Nat} {h : Nat} {ps : List Nat} (hp : ps ∈ opts d h) : ∀ x ∈ ps, x < h := by
  simp only [opts, optsTo, List.mem_flatMap, List.mem_range] at hp
  obtain ⟨i, hi, hp⟩ := hp
  simp only [optsK, List.mem_append] at hp
  intro x hx
  rcases hp with (hp | hp) | hp
  · unfold optsA at hp
    split at hp
    · simp at hp; subst hp; simp at hx
    · simp at hp
  · unfold optsB at hp
    split at hp
    · simp at hp; subst hp; simp at hx; omega
    · simp at hp
  · unfold optsC at hp
    split at hp
    · simp only [List.mem_map, List.mem_range] at hp
      obtain ⟨a, ha, rfl⟩ := hp
      simp at hx
      omega
    · simp at hp
theorem opts_parts {d : List Nat} {h : Nat} {ps : List Nat} (hp : ps ∈ opts d h) : ps.length ≤ 2 := by
  simp only [opts, optsTo, List.mem_flatMap, List.mem_range] at hp
  obtain ⟨i, hi, hp⟩ := hp
  simp only [optsK, List.mem_append] at hp
  rcases hp with (hp | hp) | hp
  · unfold optsA at hp
    split at hp
    · simp at hp; subst hp; simp
    · simp at hp
  · unfold optsB at hp
    split at hp
    · simp at hp; subst hp; simp
    · simp at hp
  · unfold optsC at hp
    split at hp
    · simp only [List.mem_map, List.mem_range] at hp
      obtain ⟨a, ha, rfl⟩ := hp
      simp
    · simp at hp
theorem optsK_len (dg rest : Nat) : (optsK dg rest).length ≤ 2 + rest := by
  simp only [optsK, List.length_append]
  have h1 : (optsA dg rest).length ≤ 1 := by unfold optsA; split <;> simp
  have h2 : (optsB dg rest).length ≤ 1 := by unfold optsB; split <;> simp
  have h3 : (optsC dg rest (rest / 2)).length ≤ rest / 2 := by unfold optsC; split <;> simp
  omega
theorem optsTo_len (d : List Nat) (h : Nat) : ∀ n, (optsTo d h n).length ≤ n * (2 + h)
  | 0 => by simp [optsTo]
  | n + 1 => by
    rw [optsTo_succ, List.length_append]
    have h1 := optsTo_len d h n
    have h2 := optsK_len (d.getD n 0) (h - (n + 1))
    rw [Nat.succ_mul]
    omega
theorem opts_len {d : List Nat} {h : Nat} (hd : d.length ≤ 6) (hh : h ≤ 400) : (opts d h).length ≤ 2412 := by
  have h1 := optsTo_len d h (min d.length h)
  have h2 : min d.length h * (2 + h) ≤ 6 * 402 := Nat.mul_le_mul (by omega) (by omega)
  unfold opts
  omega

def xorP (G : Nat → Nat) (ps : List Nat) : Nat := ps.foldl (fun v x => v ^^^ G x) 0
theorem xorP_snoc (G : Nat → Nat) (ps : List Nat) (x : Nat) : xorP G (ps ++ [x]) = xorP G ps ^^^ G x := by simp [xorP]
theorem foldl_congr {G G' : Nat → Nat} : ∀ (ps : List Nat) (v : Nat), (∀ x ∈ ps, G x = G' x) → ps.foldl (fun v x => v ^^^ G x) v = ps.foldl (fun v x => v ^^^ G' x) v
  | [], _, _ => rfl
  | x :: ps, v, h => by
    simp only [List.foldl_cons]
    rw [h x (by simp)]
    exact foldl_congr ps _ (fun y hy => h y (by simp [hy]))
theorem xorP_congr {G G' : Nat → Nat} {ps : List Nat} (h : ∀ x ∈ ps, G x = G' x) : xorP G ps = xorP G' ps := foldl_congr ps 0 h
theorem foldl_lt {G : Nat → Nat} {n : Nat} : ∀ (ps : List Nat) (v : Nat), v < 2 ^ n → (∀ x ∈ ps, G x < 2 ^ n) → ps.foldl (fun v x => v ^^^ G x) v < 2 ^ n
  | [], _, hv, _ => hv
  | x :: ps, v, hv, h => by
    simp only [List.foldl_cons]
    exact foldl_lt ps _ (Nat.xor_lt_two_pow hv (h x (by simp))) (fun y hy => h y (by simp [hy]))
theorem xorP_lt {G : Nat → Nat} {n : Nat} {ps : List Nat} (h : ∀ x ∈ ps, G x < 2 ^ n) : xorP G ps < 2 ^ n := foldl_lt ps 0 (Nat.two_pow_pos n) h

/-- worths of heaps of 0 to n - 1 -/
noncomputable def gList (d : List Nat) : Nat → List Nat
  | 0 => []
  | n + 1 => gList d n ++ [mexS ((opts d n).map fun ps => ((xorP (fun j => (gList d n).getD j 0) ps : Nat) : Int))]
noncomputable def gv (d : List Nat) (h : Nat) : Nat := (gList d (h + 1)).getD h 0

theorem gList_len (d : List Nat) : ∀ n, (gList d n).length = n
  | 0 => rfl
  | n + 1 => by simp [gList, gList_len d n]
theorem gList_get (d : List Nat) : ∀ n j, j < n → (gList d n).getD j 0 = gv d j
  | 0, j, h => by omega
  | n + 1, j, h => by
    by_cases e : j = n
    · subst e; rfl
    · have h1 := gList_get d n j (by omega)
      rw [← h1]
      simp only [gList, List.getD_eq_getElem?_getD]
      rw [List.getElem?_append_left (by rw [gList_len]; omega)]
theorem gList_eq (d : List Nat) (n : Nat) : gList d n = (List.range n).map (gv d) := by
  apply List.ext_getElem
  · simp [gList_len]
  · intro j h1 h2
    have hj : j < n := by rw [gList_len] at h1; exact h1
    have h := gList_get d n j hj
    rw [List.getD_eq_getElem?_getD, List.getElem?_eq_getElem h1] at h
    simpa using h
theorem gv_eq (d : List Nat) (h : Nat) : gv d h = mexS ((opts d h).map fun ps => ((xorP (gv d) ps : Nat) : Int)) := by
  have : gv d h = mexS ((opts d h).map fun ps => ((xorP (fun j => (gList d h).getD j 0) ps : Nat) : Int)) := by
    unfold gv
    simp only [gList, List.getD_eq_getElem?_getD]
    rw [List.getElem?_append_right (by rw [gList_len]; exact Nat.le_refl _), gList_len]
    simp
  rw [this]
  congr 1
  apply List.map_congr_left
  intro ps hps
  rw [xorP_congr (fun x hx => gList_get d h x (opts_lt hps x hx))]
theorem gv_lt {d : List Nat} {h : Nat} (hd : d.length ≤ 6) (hh : h ≤ 400) : gv d h < 4096 := by
  rw [gv_eq]
  have h1 := mexS_le ((opts d h).map fun ps => ((xorP (gv d) ps : Nat) : Int))
  rw [List.length_map] at h1
  have := opts_len hd hh
  omega
end Go.Proofs.Ytfoehijlafooaaa
