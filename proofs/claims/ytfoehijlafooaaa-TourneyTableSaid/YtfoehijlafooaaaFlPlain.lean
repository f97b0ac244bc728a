/- doubles that stay small: plain -/
import Ieee.Arith
import Derived.Test.YtfoehijlafooaaaBase
namespace Go.Proofs.Ytfoehijlafooaaa
open Ieee

/-- 'm * 2 ^ i' is at most N -/
def LeN (m : Nat) (i : Int) (N : Nat) : Prop := m * 2 ^ i.toNat ≤ N * 2 ^ (-i).toNat
/-- a double that reads as a number of size at most N -/
def Fin (N : Nat) (x : Nat) : Prop := ∃ s m i, double.read x = .number s m i ∧ double.leastPlace ≤ i ∧ LeN m i N

theorem lp_double : double.leastPlace = -1074 := by decide
theorem LeN.mono {m : Nat} {i : Int} {N M : Nat} (h : LeN m i N) (hN : N ≤ M) : LeN m i M := Nat.le_trans h (Nat.mul_le_mul_right _ hN)
/-- any common scale will do -/
theorem LeN_iff {m N : Nat} {i : Int} (c : Nat) (a : Nat) (ha : (a : Int) = i + c) : LeN m i N ↔ m * 2 ^ a ≤ N * 2 ^ c := by
  unfold LeN
  rcases Int.le_total 0 i with h | h
  · have e1 : (-i).toNat = 0 := by omega
    have e2 : a = i.toNat + c := by omega
    rw [e1, e2, Nat.pow_zero, Nat.mul_one, Nat.pow_add, ← Nat.mul_assoc]
    exact ⟨fun h => Nat.mul_le_mul_right _ h, fun h => Nat.le_of_mul_le_mul_right h (Nat.two_pow_pos _)⟩
  · have e1 : i.toNat = 0 := by omega
    have e2 : c = (-i).toNat + a := by omega
    rw [e1, e2, Nat.pow_zero, Nat.mul_one, Nat.pow_add, ← Nat.mul_assoc]
    exact ⟨fun h => Nat.mul_le_mul_right _ h, fun h => Nat.le_of_mul_le_mul_right h (Nat.two_pow_pos _)⟩

/-- cut to the nearest: of what is at most a whole number the cut is at most that -/
theorem cut_even (neg : Bool) (n drop : Nat) : (n < 2 ^ (drop - 1) ∧ Toward.even.cut neg n drop = 0) ∨ (Toward.even.cut neg n drop = n / 2 ^ drop ∨ (Toward.even.cut neg n drop = n / 2 ^ drop + 1 ∧ n % 2 ^ drop ≠ 0)) := by
  unfold Toward.cut
  simp only [Nat.shiftLeft_eq, Nat.one_mul]
  by_cases h : drop ≤ n.log2 + 2
  · right
    rw [Nat.min_eq_left h]
    by_cases hr : n % 2 ^ drop = 0
    · left
      rw [hr]
      have : 0 < 2 ^ drop := Nat.two_pow_pos _
      have e1 : decide (2 ^ drop < 2 * 0) = false := by simp
      have e2 : (2 ^ drop == 2 * 0) = false := by simp
      rw [e1, e2]; rfl
    · generalize (decide (2 ^ drop < 2 * (n % 2 ^ drop)) || (2 ^ drop == 2 * (n % 2 ^ drop) && n / 2 ^ drop % 2 == 1)) = b
      cases b
      · left; rfl
      · right; exact ⟨rfl, hr⟩
  · left
    rw [Nat.min_eq_right (by omega)]
    have hlt : n < 2 ^ (n.log2 + 1) := Nat.lt_log2_self
    have h2 : 2 ^ (n.log2 + 2) = 2 * 2 ^ (n.log2 + 1) := by rw [Nat.pow_succ 2 (n.log2 + 1)]; omega
    have h3 : 2 ^ (n.log2 + 1) ≤ 2 ^ (drop - 1) := Nat.pow_le_pow_right (by decide) (by omega)
    refine ⟨by omega, ?_⟩
    rw [Nat.div_eq_of_lt (by omega), Nat.mod_eq_of_lt (by omega)]
    have e1 : decide (2 ^ (n.log2 + 2) < 2 * n) = false := decide_eq_false (by omega)
    have e2 : (2 ^ (n.log2 + 2) == 2 * n) = false := by rw [beq_eq_false_iff_ne]; omega
    rw [e1, e2]; rfl
theorem cut_le {neg : Bool} {n drop M : Nat} (h : n ≤ M * 2 ^ drop) : Toward.even.cut neg n drop ≤ M := by
  have hp : 0 < 2 ^ drop := Nat.two_pow_pos _
  rcases cut_even neg n drop with ⟨_, h1⟩ | h1 | ⟨h1, h2⟩
  · omega
  · rw [h1]; exact Nat.div_le_of_le_mul (by rw [Nat.mul_comm]; exact h)
  · rw [h1]
    have h3 : n / 2 ^ drop < M := by
      rw [Nat.div_lt_iff_lt_mul hp]
      rcases Nat.lt_or_eq_of_le h with h4 | h4
      · exact h4
      · rw [h4, Nat.mul_mod_left] at h2; exact absurd rfl h2
    omega
theorem le_cut {neg : Bool} {n drop M : Nat} (hM : 0 < M) (h : M * 2 ^ drop ≤ n) : M ≤ Toward.even.cut neg n drop := by
  have hp : 0 < 2 ^ drop := Nat.two_pow_pos _
  have h0 : M ≤ n / 2 ^ drop := (Nat.le_div_iff_mul_le hp).2 h
  rcases cut_even neg n drop with ⟨h2, h1⟩ | h1 | ⟨h1, _⟩
  · exfalso
    have h3 : 2 ^ (drop - 1) ≤ 2 ^ drop := Nat.pow_le_pow_right (by decide) (by omega)
    have h4 : 2 ^ drop ≤ M * 2 ^ drop := Nat.le_mul_of_pos_left _ hM
    omega
  · omega
  · omega

theorem read_word (neg : Bool) {rung : Nat} (h : rung < double.signWeight) : double.read (double.word neg rung) =
    if rung < double.binade then .number neg rung double.leastPlace
    else if rung < double.infRung then .number neg (double.binade + rung % double.binade) (double.leastPlace + (rung / double.binade - 1 : Nat))
    else if rung = double.infRung then .infinity neg else .nan neg (rung - double.infRung) := by
  have hs : 0 < double.signWeight := by decide
  have e1 : double.word neg rung % double.signWeight = rung := by
    unfold Format.word
    cases neg
    · exact Nat.mod_eq_of_lt h
    · simp only [if_true]; rw [Nat.add_mod_left]; exact Nat.mod_eq_of_lt h
  have e2 : (double.word neg rung / double.signWeight % 2 == 1) = neg := by
    unfold Format.word
    cases neg
    · simp [Nat.div_eq_of_lt h]
    · simp only [if_true]
      rw [Nat.add_div_left _ hs, Nat.div_eq_of_lt h]; rfl
  unfold Format.read
  rw [e1, e2]
/-- what is at most N (below 2^53), written, is at most N -/
theorem fin_write {neg : Bool} {m : Nat} {i : Int} {N : Nat} (h : LeN m i N) (hN : N < 2 ^ 53) : Fin N (double.write (.number neg m i)) := by
  show Fin N (double.nearest neg m i)
  unfold Format.nearest
  have hB : double.binade = 2 ^ 52 := by decide
  have hf : (double.fractionBits : Int) = 52 := by decide
  have hI : double.infRung = 2047 * 2 ^ 52 := by decide
  have hS : double.signWeight = 2048 * 2 ^ 52 := by decide
  have hL := lp_double
  by_cases hm : m = 0
  · rw [if_pos hm]
    refine ⟨neg, 0, double.leastPlace, ?_, Int.le_refl _, ?_⟩
    · rw [read_word neg (by decide), if_pos (by decide)]
    · unfold LeN; simp
  rw [if_neg hm]
  have hlog : 2 ^ m.log2 ≤ m := Nat.log2_self_le hm
  have hlog2 : m < 2 ^ (m.log2 + 1) := Nat.lt_log2_self
  obtain ⟨g, hg⟩ : ∃ g, m.log2 = g := ⟨_, rfl⟩
  rw [hg] at hlog hlog2 ⊢
  rw [hf, hL]
  have hig : i + g ≤ 52 := by
    by_cases h1 : 52 < i + (g : Int)
    · exfalso
      have h2 := h
      unfold LeN at h2
      have h3 : 2 ^ g * 2 ^ i.toNat ≤ m * 2 ^ i.toNat := Nat.mul_le_mul_right _ hlog
      rw [← Nat.pow_add] at h3
      have h4 : N * 2 ^ (-i).toNat < 2 ^ 53 * 2 ^ (-i).toNat := Nat.mul_lt_mul_of_pos_right hN (Nat.two_pow_pos _)
      rw [← Nat.pow_add] at h4
      have h5 : 2 ^ (53 + (-i).toNat) ≤ 2 ^ (g + i.toNat) := Nat.pow_le_pow_right (by decide) (by omega)
      omega
    · omega
  obtain ⟨last, hlast⟩ : ∃ last, max (i + (g : Int) - 52) (-1074) = last := ⟨_, rfl⟩
  rw [hlast]
  dsimp only
  have hl0 : last ≤ 0 := by omega
  have hl1 : -1074 ≤ last := by omega
  have hl2 : i + g - 52 ≤ last := by omega
  obtain ⟨q, hq⟩ : ∃ q : Nat, (last - -1074).toNat = q := ⟨_, rfl⟩
  have hq1 : last = (q : Int) - 1074 := by omega
  rw [hq]
  rw [Nat.shiftLeft_eq]
  obtain ⟨kept, hkept⟩ : ∃ kept, Toward.even.cut neg (m * 2 ^ (i - last).toNat) (last - i).toNat = kept := ⟨_, rfl⟩
  rw [hkept]
  have hk1 : kept ≤ N * 2 ^ (-last).toNat := by
    rw [← hkept]
    apply cut_le
    have h2 := (LeN_iff (i := i) (m := m) (N := N) ((-last).toNat + (last - i).toNat) ((i - last).toNat) (by omega)).1 h
    rw [Nat.pow_add, ← Nat.mul_assoc] at h2
    exact h2
  have hk2 : kept ≤ 2 ^ 53 := by
    rw [← hkept]
    apply cut_le
    have h3 : m * 2 ^ (i - last).toNat ≤ 2 ^ (g + 1) * 2 ^ (i - last).toNat := Nat.mul_le_mul_right _ (Nat.le_of_lt hlog2)
    refine Nat.le_trans h3 ?_
    rw [← Nat.pow_add, ← Nat.pow_add]
    exact Nat.pow_le_pow_right (by decide) (by omega)
  have hk3 : 0 < q → 2 ^ 52 ≤ kept := fun h0 => by
    rw [← hkept]
    apply le_cut (by decide)
    have h3 : 2 ^ g * 2 ^ (i - last).toNat ≤ m * 2 ^ (i - last).toNat := Nat.mul_le_mul_right _ hlog
    refine Nat.le_trans ?_ h3
    rw [← Nat.pow_add, ← Nat.pow_add]
    exact Nat.pow_le_pow_right (by decide) (by omega)
  have hq2 : q ≤ 1074 := by omega
  rw [hB, hI]
  have hrung : q * 2 ^ 52 + kept < 2047 * 2 ^ 52 := by omega
  rw [Nat.min_eq_left (Nat.le_of_lt hrung)]
  have hsw : q * 2 ^ 52 + kept < double.signWeight := by rw [hS]; omega
  unfold Fin
  rw [read_word neg hsw, hB, hI, hL]
  by_cases hs : q * 2 ^ 52 + kept < 2 ^ 52
  · rw [if_pos hs]
    have hq0 : q = 0 := by omega
    refine ⟨neg, _, _, rfl, Int.le_refl _, ?_⟩
    have e : (-1074 : Int) = last := by omega
    rw [e, LeN_iff (-last).toNat 0 (by omega), Nat.pow_zero, Nat.mul_one, hq0, Nat.zero_mul, Nat.zero_add]
    exact hk1
  · rw [if_neg hs, if_pos hrung]
    have hkB : 2 ^ 52 ≤ kept := by
      rcases Nat.eq_zero_or_pos q with h0 | h0
      · subst h0; omega
      · exact hk3 h0
    by_cases hr : kept = 2 ^ 53
    · have e1 : (q * 2 ^ 52 + kept) % 2 ^ 52 = 0 := by omega
      have e2 : (q * 2 ^ 52 + kept) / 2 ^ 52 = q + 2 := by omega
      rw [e1, e2]
      refine ⟨neg, _, _, rfl, by omega, ?_⟩
      have hneg : last < 0 := by
        by_cases h1 : last < 0
        · exact h1
        · have : (-last).toNat = 0 := by omega
          rw [this, Nat.pow_zero, Nat.mul_one] at hk1
          omega
      have hl3 : last + 1 = -1074 + ((q + 2 - 1 : Nat) : Int) := by omega
      rw [← hl3, LeN_iff (-last).toNat 1 (by omega)]
      rw [hr] at hk1
      have : (2 ^ 52 + 0) * 2 ^ 1 = 2 ^ 53 := by decide
      rw [this]
      exact hk1
    · have e1 : (q * 2 ^ 52 + kept) % 2 ^ 52 = kept - 2 ^ 52 := by omega
      have e2 : (q * 2 ^ 52 + kept) / 2 ^ 52 = q + 1 := by omega
      rw [e1, e2]
      refine ⟨neg, _, _, rfl, by omega, ?_⟩
      have hl3 : last = -1074 + ((q + 1 - 1 : Nat) : Int) := by omega
      rw [← hl3, LeN_iff (-last).toNat 0 (by omega), Nat.pow_zero, Nat.mul_one]
      have : 2 ^ 52 + (kept - 2 ^ 52) = kept := by omega
      rw [this]
      exact hk1

theorem signed_abs (s : Bool) (m u : Nat) : (signed s m u).natAbs = m * 2 ^ u := by
  unfold signed
  rw [Nat.shiftLeft_eq]
  cases s
  · exact Int.natAbs_natCast _
  · simp only [if_true]; rw [Int.natAbs_neg]; exact Int.natAbs_natCast _
theorem le_scale {m N c : Nat} {i : Int} (hi : 0 ≤ i + c) (h : LeN m i N) : m * 2 ^ (i + c).toNat ≤ N * 2 ^ c := (LeN_iff c (i + c).toNat (by omega)).1 h
theorem fin_sum {s t : Bool} {m n : Nat} {i j : Int} {N M : Nat} (hi : LeN m i N) (hj : LeN n j M) (hNM : N + M < 2 ^ 53) : ∃ d, (Datum.number s m i).sum (.number t n j) = some d ∧ Fin (N + M) (double.write d) := by
  refine ⟨_, rfl, fin_write ?_ hNM⟩
  obtain ⟨c, hc⟩ : ∃ c : Nat, 0 ≤ i + c ∧ 0 ≤ j + c := ⟨i.natAbs + j.natAbs, by omega, by omega⟩
  rw [LeN_iff c (min i j + c).toNat (by omega)]
  have h1 := le_scale hc.1 hi
  have h2 := le_scale hc.2 hj
  have e1 : (i + c).toNat = (i - min i j).toNat + (min i j + c).toNat := by omega
  have e2 : (j + c).toNat = (j - min i j).toNat + (min i j + c).toNat := by omega
  rw [e1, Nat.pow_add, ← Nat.mul_assoc] at h1
  rw [e2, Nat.pow_add, ← Nat.mul_assoc] at h2
  have h3 := Int.natAbs_add_le (signed s m (i - min i j).toNat) (signed t n (j - min i j).toNat)
  rw [signed_abs, signed_abs] at h3
  refine Nat.le_trans (Nat.mul_le_mul_right _ h3) ?_
  rw [Nat.add_mul, Nat.add_mul]
  exact Nat.add_le_add h1 h2
theorem fin_add {x y N M : Nat} (hx : Fin N x) (hy : Fin M y) (hNM : N + M < 2 ^ 53) : ∃ z, double.add x y = some z ∧ Fin (N + M) z := by
  obtain ⟨s, m, i, e1, _, h1⟩ := hx
  obtain ⟨t, n, j, e2, _, h2⟩ := hy
  obtain ⟨d, hd, hf⟩ := fin_sum (s := s) (t := t) h1 h2 hNM
  exact ⟨_, by unfold Format.add; rw [e1, e2, hd]; rfl, hf⟩
theorem fin_sub {x y N M : Nat} (hx : Fin N x) (hy : Fin M y) (hNM : N + M < 2 ^ 53) : ∃ z, double.sub x y = some z ∧ Fin (N + M) z := by
  obtain ⟨s, m, i, e1, _, h1⟩ := hx
  obtain ⟨t, n, j, e2, _, h2⟩ := hy
  obtain ⟨d, hd, hf⟩ := fin_sum (s := s) (t := !t) h1 h2 hNM
  exact ⟨_, by unfold Format.sub; rw [e1, e2]; unfold Datum.opposite; rw [hd]; rfl, hf⟩
theorem fin_mul {x y N M : Nat} (hx : Fin N x) (hy : Fin M y) (hNM : N * M < 2 ^ 53) : ∃ z, double.mul x y = some z ∧ Fin (N * M) z := by
  obtain ⟨s, m, i, e1, _, h1⟩ := hx
  obtain ⟨t, n, j, e2, _, h2⟩ := hy
  refine ⟨double.write (.number (s ^^ t) (m * n) (i + j)), by unfold Format.mul; rw [e1, e2]; rfl, fin_write ?_ hNM⟩
  obtain ⟨c, hc⟩ : ∃ c : Nat, 0 ≤ i + c ∧ 0 ≤ j + c := ⟨i.natAbs + j.natAbs, by omega, by omega⟩
  rw [LeN_iff (c + c) ((i + c).toNat + (j + c).toNat) (by omega)]
  have h3 := Nat.mul_le_mul (le_scale hc.1 h1) (le_scale hc.2 h2)
  rw [Nat.pow_add, Nat.pow_add]
  calc m * n * (2 ^ (i + c).toNat * 2 ^ (j + c).toNat) = m * 2 ^ (i + c).toNat * (n * 2 ^ (j + c).toNat) := by rw [Nat.mul_mul_mul_comm]
    _ ≤ N * 2 ^ c * (M * 2 ^ c) := h3
    _ = N * M * (2 ^ c * 2 ^ c) := by rw [Nat.mul_mul_mul_comm]
/-- 800 as a double -/
def f800 : Nat := 4650248090236747776
theorem read800 : double.read f800 = .number false (800 * 2 ^ 43) (-43) := by decide
theorem q_bound {q b D P : Nat} (hq : q * (800 * P) ≤ D) (hb : b ≤ 1) (h0 : D = 0 → b = 0) (h1 : 0 < D → P ≤ D) : (2 * q + b) * P ≤ 2 * D := by
  rw [Nat.mul_left_comm] at hq
  rw [Nat.add_mul, Nat.mul_assoc]
  obtain ⟨x, hx⟩ : ∃ x, q * P = x := ⟨_, rfl⟩
  rw [hx] at hq ⊢
  have hbp : b * P ≤ D := by
    rcases Nat.eq_zero_or_pos D with h | h
    · rw [h0 h]; omega
    · have h2 := h1 h
      rcases Nat.eq_zero_or_pos b with h3 | h3
      · rw [h3]; omega
      · have : b = 1 := by omega
        rw [this]; omega
  omega
theorem fin_div800 {x N : Nat} (hx : Fin N x) (hN : N < 2 ^ 53) : ∃ z, double.div x f800 = some z ∧ Fin N z := by
  obtain ⟨s, m, i, e1, _, h1⟩ := hx
  have hf : double.fractionBits + 2 = 54 := by decide
  have hlg : (800 * 2 ^ 43 : Nat).log2 = 52 := by decide
  unfold Format.div
  rw [e1, read800, hf]
  unfold Datum.quotient
  dsimp only
  rw [if_neg (by decide)]
  refine ⟨_, rfl, fin_write ?_ hN⟩
  rw [hlg]
  obtain ⟨more, hmore⟩ : ∃ more, 54 + 52 - m.log2 = more := ⟨_, rfl⟩
  rw [hmore, Nat.shiftLeft_eq]
  obtain ⟨D, hD⟩ : ∃ D, m * 2 ^ more = D := ⟨_, rfl⟩
  rw [hD]
  obtain ⟨b, hb⟩ : ∃ b, (D % (800 * 2 ^ 43) != 0).toNat = b := ⟨_, rfl⟩
  rw [hb]
  have hb1 : b ≤ 1 := by rw [← hb]; exact Bool.toNat_le _
  have hb0 : D = 0 → b = 0 := fun h => by rw [← hb, h]; rfl
  have hD0 : 0 < D → 2 ^ 43 ≤ D := fun h => by
    rw [← hD] at h ⊢
    have hm : m ≠ 0 := fun e => by rw [e, Nat.zero_mul] at h; omega
    have hl := Nat.log2_self_le hm
    refine Nat.le_trans ?_ (Nat.mul_le_mul_right (2 ^ more) hl)
    rw [← Nat.pow_add]
    exact Nat.pow_le_pow_right (by decide) (by omega)
  have hq : D / (800 * 2 ^ 43) * (800 * 2 ^ 43) ≤ D := Nat.div_mul_le_self _ _
  obtain ⟨q0, hq0⟩ : ∃ q0, D / (800 * 2 ^ 43) = q0 := ⟨_, rfl⟩
  rw [hq0] at hq ⊢
  have hmain : (2 * q0 + b) * 2 ^ 43 ≤ 2 * D := q_bound hq hb1 hb0 hD0
  obtain ⟨Q, hQ⟩ : ∃ Q, 2 * q0 + b = Q := ⟨_, rfl⟩
  rw [hQ] at hmain ⊢
  obtain ⟨c, hc⟩ : ∃ c : Nat, 0 ≤ i + c := ⟨i.natAbs, by omega⟩
  have h2 := le_scale hc h1
  rw [LeN_iff (c + more + 1) ((i + c).toNat + 43) (by omega)]
  rw [Nat.pow_add]
  calc Q * (2 ^ (i + c).toNat * 2 ^ 43) = Q * 2 ^ 43 * 2 ^ (i + c).toNat := by rw [Nat.mul_comm (2 ^ (i + c).toNat), Nat.mul_assoc]
    _ ≤ 2 * D * 2 ^ (i + c).toNat := Nat.mul_le_mul_right _ hmain
    _ = m * 2 ^ (i + c).toNat * 2 ^ (more + 1) := by rw [← hD, Nat.pow_succ]; simp only [Nat.mul_comm, Nat.mul_left_comm, Nat.mul_assoc]
    _ ≤ N * 2 ^ c * 2 ^ (more + 1) := Nat.mul_le_mul_right _ h2
    _ = N * 2 ^ (c + more + 1) := by rw [Nat.mul_assoc, ← Nat.pow_add, Nat.add_assoc]

/-- 1 as a double -/
def f1 : Nat := 4607182418800017408
theorem read1 : double.read f1 = .number false (2 ^ 52) (-52) := by decide
theorem read0 : double.read 0 = .number false 0 (-1074) := by decide
theorem order_some {x y N M : Nat} (hx : Fin N x) (hy : Fin M y) : ∃ o, double.order x y = some o := by
  obtain ⟨s, m, i, e1, _, _⟩ := hx
  obtain ⟨t, n, j, e2, _, _⟩ := hy
  exact ⟨_, by unfold Format.order; rw [e1, e2]; rfl⟩
theorem fin_clamp {x N : Nat} (hx : Fin N x) (h0 : double.order x 0 ≠ some .lt) (h1 : double.order x f1 ≠ some .gt) : Fin 1 x := by
  obtain ⟨s, m, i, e1, hi, _⟩ := hx
  refine ⟨s, m, i, e1, hi, ?_⟩
  unfold Format.order at h0 h1
  rw [e1, read0] at h0
  rw [e1, read1] at h1
  unfold Datum.order at h0 h1
  dsimp only at h0 h1
  cases s
  · have h2 : m * 2 ^ (i - min i (-52)).toNat ≤ 2 ^ 52 * 2 ^ (-52 - min i (-52)).toNat := by
      unfold signed at h1
      simp only [Nat.shiftLeft_eq, Bool.false_eq_true, if_false] at h1
      rcases Nat.lt_or_ge (2 ^ 52 * 2 ^ (-52 - min i (-52)).toNat) (m * 2 ^ (i - min i (-52)).toNat) with h | h
      · exfalso
        apply h1
        congr 1
        rw [Int.compare_eq_gt]
        exact Int.ofNat_lt.2 h
      · exact h
    rw [LeN_iff (-min i (-52)).toNat (i - min i (-52)).toNat (by omega), Nat.one_mul]
    refine Nat.le_trans h2 ?_
    rw [← Nat.pow_add]
    exact Nat.pow_le_pow_right (by decide) (by omega)
  · have hm : m = 0 := by
      rcases Nat.eq_zero_or_pos m with h | h
      · exact h
      · exfalso
        apply h0
        congr 1
        unfold signed
        simp only [Nat.shiftLeft_eq, Bool.false_eq_true, if_false, if_true, Nat.zero_mul]
        rw [Int.compare_eq_lt]
        have h3 : 0 < m * 2 ^ (i - min i (-1074)).toNat := Nat.mul_pos h (Nat.two_pow_pos _)
        have h4 : (0 : Int) < ((m * 2 ^ (i - min i (-1074)).toNat : Nat) : Int) := Int.ofNat_lt.2 h3
        omega
    rw [hm]
    unfold LeN
    rw [Nat.zero_mul]
    exact Nat.zero_le _

/-- a million and its opposite as doubles -/
def fMil : Nat := 4696837146684686336
def fNeg : Nat := 13920209183539462144
theorem readMil : double.read fMil = .number false (1000000 * 2 ^ 33) (-33) := by decide
theorem readNeg : double.read fNeg = .number true (1000000 * 2 ^ 33) (-33) := by decide
def fairF (x : Nat) : Bool := (double.order x fNeg == some .gt || double.order x fNeg == some .eq) && (double.order x fMil == some .lt || double.order x fMil == some .eq)
theorem read_place {x : Nat} {s : Bool} {m : Nat} {i : Int} (h : double.read x = .number s m i) : double.leastPlace ≤ i := by
  unfold Format.read at h
  dsimp only at h
  split at h
  · injection h with _ _ h3; omega
  · split at h
    · injection h with _ _ h3; omega
    · split at h <;> cases h
theorem fin_fair {x : Nat} (h : fairF x = true) : Fin 1000000 x := by
  unfold fairF Format.order at h
  rw [readMil, readNeg] at h
  cases hr : double.read x with
  | nan s f => rw [hr] at h; simp [Datum.order] at h
  | infinity s => rw [hr] at h; cases s <;> simp [Datum.order] at h
  | number s m i =>
    rw [hr] at h
    refine ⟨s, m, i, hr, read_place hr, ?_⟩
    unfold Datum.order at h
    dsimp only at h
    have hk : m * 2 ^ (i - min i (-33)).toNat ≤ 1000000 * 2 ^ 33 * 2 ^ (-33 - min i (-33)).toNat := by
      rcases Nat.lt_or_ge (1000000 * 2 ^ 33 * 2 ^ (-33 - min i (-33)).toNat) (m * 2 ^ (i - min i (-33)).toNat) with hlt | hle
      · exfalso
        have hlt' : ((1000000 * 2 ^ 33 * 2 ^ (-33 - min i (-33)).toNat : Nat) : Int) < ((m * 2 ^ (i - min i (-33)).toNat : Nat) : Int) := Int.ofNat_lt.2 hlt
        unfold signed at h
        simp only [Nat.shiftLeft_eq] at h
        cases s
        · simp only [Bool.false_eq_true, if_false, if_true] at h
          rw [Int.compare_eq_gt.2 hlt'] at h
          revert h
          cases compare ((m * 2 ^ (i - min i (-33)).toNat : Nat) : Int) (-((1000000 * 2 ^ 33 * 2 ^ (-33 - min i (-33)).toNat : Nat) : Int)) <;> decide
        · simp only [Bool.false_eq_true, if_false, if_true] at h
          have : -((m * 2 ^ (i - min i (-33)).toNat : Nat) : Int) < -((1000000 * 2 ^ 33 * 2 ^ (-33 - min i (-33)).toNat : Nat) : Int) := by omega
          rw [Int.compare_eq_lt.2 this] at h
          revert h
          cases compare (-((m * 2 ^ (i - min i (-33)).toNat : Nat) : Int)) ((1000000 * 2 ^ 33 * 2 ^ (-33 - min i (-33)).toNat : Nat) : Int) <;> decide
      · exact hle
    rw [LeN_iff (-min i (-33)).toNat (i - min i (-33)).toNat (by omega)]
    refine Nat.le_trans hk ?_
    rw [Nat.mul_assoc, ← Nat.pow_add]
    exact Nat.mul_le_mul_left _ (Nat.pow_le_pow_right (by decide) (by omega))

/-- a half as a double -/
def fHalf : Nat := 4602678819172646912
theorem readHalf : double.read fHalf = .number false (2 ^ 52) (-53) := by decide
theorem fin_half : Fin 1 fHalf := ⟨_, _, _, readHalf, by decide, by unfold LeN; decide⟩
theorem fin_one : Fin 1 f1 := ⟨_, _, _, read1, by decide, by unfold LeN; decide⟩
theorem fin_zero : Fin 1 0 := ⟨_, _, _, read0, by decide, by unfold LeN; rw [Nat.zero_mul]; exact Nat.zero_le _⟩
def clampF (d : Nat) : Nat := if double.order d 0 = some .lt then 0 else if double.order d f1 = some .gt then f1 else d
def halfF (h : Int) : Nat := if h = 0 then 0 else if h = 1 then fHalf else f1
theorem fin_halfF (h : Int) : Fin 1 (halfF h) := by
  unfold halfF
  split
  · exact fin_zero
  · split
    · exact fin_half
    · exact fin_one
theorem fin_clampF {d N : Nat} (h : Fin N d) : Fin 1 (clampF d) := by
  unfold clampF
  split
  · exact fin_zero
  · rename_i h0
    split
    · exact fin_one
    · rename_i h1
      exact fin_clamp h h0 h1
theorem rate_facts {k a b N : Nat} (h : Int) (hk : Fin 1000000 k) (ha : Fin N a) (hb : Fin N b) (hN : N < 2 ^ 51) :
    ∃ d0 d1 d2 e c a' b', double.sub a b = some d0 ∧ double.div d0 f800 = some d1 ∧ double.add d1 fHalf = some d2 ∧ (∃ o, double.order d2 0 = some o) ∧ (∃ o, double.order d2 f1 = some o) ∧
      double.sub (halfF h) (clampF d2) = some e ∧ double.mul k e = some c ∧ double.add a c = some a' ∧ double.sub b c = some b' ∧ Fin (N + 2000000) a' ∧ Fin (N + 2000000) b' := by
  obtain ⟨d0, e0, h0⟩ := fin_sub ha hb (by omega)
  obtain ⟨d1, e1, h1⟩ := fin_div800 h0 (by omega)
  obtain ⟨d2, e2, h2⟩ := fin_add h1 fin_half (by omega)
  obtain ⟨e, e3, h3⟩ := fin_sub (fin_halfF h) (fin_clampF h2) (by omega)
  obtain ⟨c, e4, h4⟩ := fin_mul hk h3 (by omega)
  obtain ⟨a', e5, h5⟩ := fin_add ha h4 (by omega)
  obtain ⟨b', e6, h6⟩ := fin_sub hb h4 (by omega)
  exact ⟨d0, d1, d2, e, c, a', b', e0, e1, e2, order_some h2 fin_zero, order_some h2 fin_one, e3, e4, e5, e6, h5, h6⟩

def opG (o : Option Nat) : Nat := o.getD 0
def deltaF (k a b : Nat) (h : Int) : Nat := opG (double.mul k (opG (double.sub (halfF h) (clampF (opG (double.add (opG (double.div (opG (double.sub a b)) f800)) fHalf))))))
def stepF (k : Nat) (out : List Nat) (A B : Nat) (h : Int) : List Nat :=
  (out.set A (opG (double.add (out.getD A 0) (deltaF k (out.getD A 0) (out.getD B 0) h)))).set B (opG (double.sub (out.getD B 0) (deltaF k (out.getD A 0) (out.getD B 0) h)))
end Go.Proofs.Ytfoehijlafooaaa
