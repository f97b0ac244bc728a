/- Two games side by side, as a graph: plain. -/
import Derived.Test.YtfoehijlafooaaaXorPlain
import Derived.Test.YtfoehijlafooaaaNimAns
namespace Go.Proofs.Ytfoehijlafooaaa

section
variable {a b : List (List Int)}

theorem rowS_len {i j : Nat} (hi : i < a.length) (hj : j < b.length) : (rowS a b i j).length = a[i].length + b[j].length := by simp [rowS, hi, hj]

theorem pair_lt {i j : Nat} (hi : i < a.length) (hj : j < b.length) : i * b.length + j < a.length * b.length := by
  have : (i + 1) * b.length ≤ a.length * b.length := Nat.mul_le_mul_right _ hi
  rw [Nat.succ_mul] at this
  omega
theorem pair_div {i j : Nat} (hj : j < b.length) : (i * b.length + j) / b.length = i := by rw [Nat.mul_comm, Nat.mul_add_div (by omega), Nat.div_eq_of_lt hj, Nat.add_zero]
theorem pair_mod {i j : Nat} (hj : j < b.length) : (i * b.length + j) % b.length = j := by rw [Nat.mul_comm, Nat.mul_add_mod, Nat.mod_eq_of_lt hj]
theorem pos_of {p : Nat} (hp : p < a.length * b.length) : 0 < b.length := by
  rcases Nat.eq_zero_or_pos b.length with h | h
  · rw [h, Nat.mul_zero] at hp; omega
  · exact h
theorem div_lt_of {p : Nat} (hp : p < a.length * b.length) : p / b.length < a.length := (Nat.div_lt_iff_lt_mul (pos_of hp)).2 hp

/-- where the pair's game leads -/
theorem nx_both (ha : ∀ j (h : j < a.length) m (h2 : m < a[j].length), 0 ≤ a[j][m] ∧ a[j][m] < a.length) (hb : ∀ j (h : j < b.length) m (h2 : m < b[j].length), 0 ≤ b[j][m] ∧ b[j][m] < b.length)
    {p : Nat} (hp : p < a.length * b.length) (k : Nat) :
    k ∈ nxOf (bothRows a b (a.length * b.length)) p ↔ (∃ i' ∈ nxOf a (p / b.length), k = i' * b.length + p % b.length) ∨ (∃ j' ∈ nxOf b (p % b.length), k = p / b.length * b.length + j') := by
  have hbp := pos_of hp
  have hi : p / b.length < a.length := div_lt_of hp
  have hj : p % b.length < b.length := Nat.mod_lt _ hbp
  have hrow : (bothRows a b (a.length * b.length))[p]? = some (rowS a b (p / b.length) (p % b.length)) := by simp [bothRows, hp]
  simp only [nxOf, hrow, Option.getD_some, List.mem_map, rowS, List.mem_append, List.getElem?_eq_getElem hi, List.getElem?_eq_getElem hj]
  constructor
  · rintro ⟨v, (⟨x, hx, rfl⟩ | ⟨y, hy, rfl⟩), rfl⟩
    · left
      obtain ⟨m, hm, rfl⟩ := List.mem_iff_getElem.1 hx
      have h1 := ha _ hi m hm
      refine ⟨_, ⟨_, hx, rfl⟩, ?_⟩
      have : a[p / b.length][m] = ((a[p / b.length][m]).toNat : Int) := by omega
      rw [this, ← Int.natCast_mul, ← Int.natCast_add, Int.toNat_natCast]
      rw [← this]
    · right
      obtain ⟨m, hm, rfl⟩ := List.mem_iff_getElem.1 hy
      have h1 := hb _ hj m hm
      refine ⟨_, ⟨_, hy, rfl⟩, ?_⟩
      have : b[p % b.length][m] = ((b[p % b.length][m]).toNat : Int) := by omega
      rw [this, ← Int.natCast_mul, ← Int.natCast_add, Int.toNat_natCast]
      rw [← this]
  · rintro (⟨i', ⟨x, hx, rfl⟩, rfl⟩ | ⟨j', ⟨y, hy, rfl⟩, rfl⟩)
    · obtain ⟨m, hm, rfl⟩ := List.mem_iff_getElem.1 hx
      have h1 := ha _ hi m hm
      refine ⟨_, .inl ⟨_, hx, rfl⟩, ?_⟩
      have : a[p / b.length][m] = ((a[p / b.length][m]).toNat : Int) := by omega
      rw [this, ← Int.natCast_mul, ← Int.natCast_add, Int.toNat_natCast]
      rw [← this]
    · obtain ⟨m, hm, rfl⟩ := List.mem_iff_getElem.1 hy
      have h1 := hb _ hj m hm
      refine ⟨_, .inr ⟨_, hy, rfl⟩, ?_⟩
      have : b[p % b.length][m] = ((b[p % b.length][m]).toNat : Int) := by omega
      rw [this, ← Int.natCast_mul, ← Int.natCast_add, Int.toNat_natCast]
      rw [← this]

/-- the pair's graph is well formed -/
theorem both_look (ha : lookS a = 0) (hb : lookS b = 0) (hL : ¬ 1000 < a.length * b.length) (hT : ¬ TooLong a b) : lookS (bothRows a b (a.length * b.length)) = 0 := by
  obtain ⟨hn1, hl1, hi1⟩ := lookS_zero ha
  obtain ⟨hn2, hl2, hi2⟩ := lookS_zero hb
  have hrow : ∀ p (hp : p < (bothRows a b (a.length * b.length)).length), (bothRows a b (a.length * b.length))[p] = rowS a b (p / b.length) (p % b.length) := fun p hp => by simp [bothRows]
  unfold lookS
  rw [if_neg, if_neg]
  · rintro ⟨p, hp, m, hm, hor⟩
    have hp' : p < a.length * b.length := by rw [bothRows_len] at hp; exact hp
    have hbp := pos_of hp'
    have hi : p / b.length < a.length := div_lt_of hp'
    have hj : p % b.length < b.length := Nat.mod_lt _ hbp
    have hmem : (bothRows a b (a.length * b.length))[p][m] ∈ (bothRows a b (a.length * b.length))[p] := List.getElem_mem hm
    generalize (bothRows a b (a.length * b.length))[p][m] = v at hmem hor
    rw [hrow p hp] at hmem
    rw [bothRows_len] at hor
    simp only [rowS, List.getElem?_eq_getElem hi, List.getElem?_eq_getElem hj, Option.getD_some, List.mem_append, List.mem_map] at hmem
    rcases hmem with ⟨x, hx, rfl⟩ | ⟨y, hy, rfl⟩
    · obtain ⟨q, hq, rfl⟩ := List.mem_iff_getElem.1 hx
      have h1 := hi1 _ hi q hq
      have h2 := pair_lt (a := a) (b := b) (i := (a[p / b.length][q]).toNat) (j := p % b.length) (by omega) hj
      have h3 : a[p / b.length][q] = ((a[p / b.length][q]).toNat : Int) := by omega
      rw [h3, ← Int.natCast_mul, ← Int.natCast_add] at hor
      omega
    · obtain ⟨q, hq, rfl⟩ := List.mem_iff_getElem.1 hy
      have h1 := hi2 _ hj q hq
      have h2 := pair_lt (a := a) (b := b) (i := p / b.length) (j := (b[p % b.length][q]).toNat) hi (by omega)
      have h3 : b[p % b.length][q] = ((b[p % b.length][q]).toNat : Int) := by omega
      rw [h3, ← Int.natCast_mul, ← Int.natCast_add] at hor
      omega
  · rintro (h | ⟨p, hp, h⟩)
    · rw [bothRows_len] at h; exact hL h
    · rw [hrow p hp] at h
      exact hT ⟨p, by rw [bothRows_len] at hp; exact hp, h⟩

theorem both_acyc (ha : lookS a = 0) (hb : lookS b = 0) (h1 : Acyc a.length (nxOf a)) (h2 : Acyc b.length (nxOf b)) : Acyc (a.length * b.length) (nxOf (bothRows a b (a.length * b.length))) := by
  obtain ⟨_, _, hi1⟩ := lookS_zero ha
  obtain ⟨_, _, hi2⟩ := lookS_zero hb
  obtain ⟨r1, h1⟩ := h1
  obtain ⟨r2, h2⟩ := h2
  refine ⟨fun p => r1 (p / b.length) + r2 (p % b.length), fun p hp k hk => ?_⟩
  have hbp := pos_of hp
  have hi : p / b.length < a.length := div_lt_of hp
  have hj : p % b.length < b.length := Nat.mod_lt _ hbp
  rcases (nx_both hi1 hi2 hp k).1 hk with ⟨i', hi', rfl⟩ | ⟨j', hj', rfl⟩
  · have := h1 _ hi i' hi'
    show r1 _ + r2 _ < r1 _ + r2 _
    rw [pair_div hj, pair_mod hj]; omega
  · have := h2 _ hj j' hj'
    have hj2 := nxOf_in hi2 _ hj j' hj'
    show r1 _ + r2 _ < r1 _ + r2 _
    rw [pair_div hj2, pair_mod hj2]; omega

theorem both_solved (ha : lookS a = 0) (hb : lookS b = 0) {x y : Nat → Nat} (h1 : Solved a.length (nxOf a) (fun i => (x i : Int))) (h2 : Solved b.length (nxOf b) (fun i => (y i : Int))) :
    Solved (a.length * b.length) (nxOf (bothRows a b (a.length * b.length))) (fun p => ((x (p / b.length) ^^^ y (p % b.length) : Nat) : Int)) := by
  obtain ⟨_, _, hi1⟩ := lookS_zero ha
  obtain ⟨_, _, hi2⟩ := lookS_zero hb
  intro p hp
  have hbp := pos_of hp
  have hi : p / b.length < a.length := div_lt_of hp
  have hj : p % b.length < b.length := Nat.mod_lt _ hbp
  have e1 : IsMex ((nxOf a (p / b.length)).map (fun i => (x i : Int))) (x (p / b.length)) := by
    have h := mexS_is ((nxOf a (p / b.length)).map (fun i => (x i : Int)))
    have h' := h1 _ hi
    simp only at h'
    have h3 : x (p / b.length) = mexS ((nxOf a (p / b.length)).map (fun i => (x i : Int))) := by omega
    rw [← h3] at h; exact h
  have e2 : IsMex ((nxOf b (p % b.length)).map (fun i => (y i : Int))) (y (p % b.length)) := by
    have h := mexS_is ((nxOf b (p % b.length)).map (fun i => (y i : Int)))
    have h' := h2 _ hj
    simp only at h'
    have h3 : y (p % b.length) = mexS ((nxOf b (p % b.length)).map (fun i => (y i : Int))) := by omega
    rw [← h3] at h; exact h
  symm
  simp only
  refine congrArg Int.ofNat (mexS_eq (mex_xor e1 e2 (fun k hk => ?_) (fun k hk => ?_) (fun t ht => ?_)))
  · obtain ⟨i', hi', he⟩ := List.mem_map.1 hk
    have he' : x i' = k := by omega
    subst he'
    refine List.mem_map.2 ⟨i' * b.length + p % b.length, (nx_both hi1 hi2 hp _).2 (.inl ⟨i', hi', rfl⟩), ?_⟩
    rw [pair_div hj, pair_mod hj]
  · obtain ⟨j', hj', he⟩ := List.mem_map.1 hk
    have he' : y j' = k := by omega
    subst he'
    have hj2 := nxOf_in hi2 _ hj j' hj'
    refine List.mem_map.2 ⟨p / b.length * b.length + j', (nx_both hi1 hi2 hp _).2 (.inr ⟨j', hj', rfl⟩), ?_⟩
    rw [pair_div hj2, pair_mod hj2]
  · obtain ⟨k, hk, he⟩ := List.mem_map.1 ht
    rcases (nx_both hi1 hi2 hp k).1 hk with ⟨i', hi', rfl⟩ | ⟨j', hj', rfl⟩
    · rw [pair_div hj, pair_mod hj] at he
      exact .inl ⟨x i', List.mem_map.2 ⟨i', hi', rfl⟩, by omega⟩
    · have hj2 := nxOf_in hi2 _ hj j' hj'
      rw [pair_div hj2, pair_mod hj2] at he
      exact .inr ⟨y j', List.mem_map.2 ⟨j', hj', rfl⟩, by omega⟩
end
end Go.Proofs.Ytfoehijlafooaaa
