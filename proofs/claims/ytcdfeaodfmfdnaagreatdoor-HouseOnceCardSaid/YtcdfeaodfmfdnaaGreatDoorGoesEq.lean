/- By steps and by distance a piece goes to the same cells. -/
import Derived.Test.YtcdfeaodfmfdnaaGreatDoorGoesPlain
namespace Go.Proofs.YtcdfeaodfmfdnaaGreatDoor

def absI (n : Int) : Int := if n < 0 then -n else n
/-- how far to the right, how far up from cell a to cell t -/
def dxI (p : Pos) (a t : Nat) : Int := ((t % p.w.toNat : Nat) : Int) - ((a % p.w.toNat : Nat) : Int)
def dyI (p : Pos) (a t : Nat) : Int := ((t / p.w.toNat : Nat) : Int) - ((a / p.w.toNat : Nat) : Int)
/-- k steps of a way come from a to t -/
def HitR (p : Pos) (w : WayD) (a t : Nat) (k : Nat) : Prop :=
  (absI (dxI p a t) = k * w.x ∧ absI (dyI p a t) = k * w.y) ∨ (absI (dxI p a t) = k * w.y ∧ absI (dyI p a t) = k * w.x)
/-- all is empty between -/
def FreeR (p : Pos) (a t : Nat) (k : Nat) : Prop :=
  ∀ i : Nat, 1 ≤ i → i < k → cellN p (((a : Int) + (dxI p a t).tdiv k * i + (dyI p a t).tdiv k * i * p.w).toNat) = 46
def GoesR (p : Pos) (w : WayD) (a t : Nat) : Prop :=
  if w.kind = 3 then absI (dxI p a t) = w.x ∧ dyI p a t * (1 - 2 * p.turn) = w.y
  else ∃ k : Nat, 1 ≤ k ∧ k ≤ 7 ∧ (w.kind = 1 → k = 1) ∧ HitR p w a t k ∧ FreeR p a t k
theorem absI_pos {n : Int} (h : 0 ≤ n) : absI n = n := by unfold absI; split <;> omega
theorem absI_neg {n : Int} (h : n ≤ 0) : absI n = -n := by unfold absI; split <;> omega
theorem absI_eq {n m : Int} (h : absI n = m) : n = m ∨ n = -m := by unfold absI at h; split at h <;> omega
theorem absI_nonneg (n : Int) : 0 ≤ absI n := by unfold absI; split <;> omega
theorem absI_mul (k : Nat) (d : Int) : absI ((k : Int) * d) = k * absI d := by
  by_cases h : d < 0
  · have h1 : (k : Int) * d ≤ 0 := by
      rw [Int.mul_comm]; exact Int.mul_nonpos_of_nonpos_of_nonneg (by omega) (by omega)
    rw [absI_neg h1, absI_neg (by omega), Int.mul_neg]
  · have h1 : 0 ≤ (k : Int) * d := Int.mul_nonneg (by omega) (by omega)
    rw [absI_pos h1, absI_pos (by omega)]

/-- the corners of a board -/
structure AtB (p : Pos) (x y : Int) : Prop where
  x0 : 0 ≤ x
  xw : x < p.w
  y0 : 0 ≤ y
  yh : y < p.h
theorem onB_iff {p : Pos} {x y : Int} : onB p.w p.h x y = true ↔ AtB p x y := by
  unfold onB
  simp only [decide_eq_true_eq]
  exact ⟨fun ⟨a, b, c, d⟩ => ⟨a, b, c, d⟩, fun ⟨a, b, c, d⟩ => ⟨a, b, c, d⟩⟩
theorem idx_at {p : Pos} {x y : Int} (h : AtB p x y) : (((idxN p.w x y) % p.w.toNat : Nat) : Int) = x ∧ (((idxN p.w x y) / p.w.toNat : Nat) : Int) = y ∧ idxN p.w x y < p.w.toNat * p.h.toNat ∧ ((idxN p.w x y : Nat) : Int) = y * p.w + x := by
  obtain ⟨h1, h2, h3, h4⟩ := h
  obtain ⟨W, hW⟩ : ∃ W : Nat, p.w = W := ⟨p.w.toNat, by omega⟩
  obtain ⟨H, hH⟩ : ∃ H : Nat, p.h = H := ⟨p.h.toNat, by omega⟩
  obtain ⟨X, rfl⟩ := Int.eq_ofNat_of_zero_le h1
  obtain ⟨Y, rfl⟩ := Int.eq_ofNat_of_zero_le h3
  rw [hW] at h2 ⊢
  rw [hH] at h4 ⊢
  have e : idxN (W : Int) (X : Int) (Y : Int) = Y * W + X := by
    unfold idxN
    have : (Y : Int) * (W : Int) + (X : Int) = ((Y * W + X : Nat) : Int) := by simp
    rw [this, Int.toNat_natCast]
  have hx : X < W := by omega
  have hy : Y < H := by omega
  rw [e]
  simp only [Int.toNat_natCast]
  refine ⟨by rw [mod_cell hx], by rw [div_cell hx], cell_lt hx hy, by simp⟩
theorem at_of {p : Pos} (hw : 1 ≤ p.w) {a : Nat} (ha : a < p.w.toNat * p.h.toNat) : AtB p ((a % p.w.toNat : Nat) : Int) ((a / p.w.toNat : Nat) : Int) ∧ idxN p.w ((a % p.w.toNat : Nat) : Int) ((a / p.w.toNat : Nat) : Int) = a := by
  have h1 := col_lt ha
  have h2 := row_lt ha
  refine ⟨?_, ?_⟩
  · obtain ⟨q, hq⟩ : ∃ q, a / p.w.toNat = q := ⟨_, rfl⟩
    obtain ⟨m, hm⟩ : ∃ m, a % p.w.toNat = m := ⟨_, rfl⟩
    rw [hq] at h2 ⊢
    rw [hm] at h1 ⊢
    exact ⟨by omega, by omega, by omega, by omega⟩
  unfold idxN
  obtain ⟨W, hW⟩ : ∃ W : Nat, p.w = W := ⟨p.w.toNat, by omega⟩
  rw [hW]
  simp only [Int.toNat_natCast]
  have h3 := @cell_back W a
  have : ((a / W : Nat) : Int) * (W : Int) + ((a % W : Nat) : Int) = ((a / W * W + a % W : Nat) : Int) := by simp
  rw [this, Int.toNat_natCast, h3]
/-- a step of a way -/
def DirR (w : WayD) (turn dx dy : Int) : Prop :=
  if w.kind = 3 then absI dx = w.x ∧ dy * (1 - 2 * turn) = w.y else (absI dx = w.x ∧ absI dy = w.y) ∨ (absI dx = w.y ∧ absI dy = w.x)
theorem dirs_mem {w : WayD} {turn dx dy : Int} (hw : WayOk w) (ht : turn = 0 ∨ turn = 1) : (dx, dy) ∈ dirsL w turn ↔ DirR w turn dx dy := by
  obtain ⟨_, _, x0, _, y0, _, _, _, _, _⟩ := hw
  unfold dirsL DirR
  split
  · simp only [List.mem_cons, Prod.mk.injEq, List.not_mem_nil, or_false]
    rcases ht with rfl | rfl
    · unfold absI; split <;> omega
    · unfold absI; split <;> omega
  · simp only [List.mem_cons, Prod.mk.injEq, List.not_mem_nil, or_false]
    unfold absI
    split <;> split <;> omega
theorem tdiv_mul {k : Nat} (hk : 1 ≤ k) (d : Int) : ((k : Int) * d).tdiv k = d := by
  rw [Int.mul_comm]; exact Int.mul_tdiv_cancel _ (by omega)
/-- what lies between two numbers within bounds is within -/
theorem between {x d W : Int} {i k : Nat} (h0 : 0 ≤ x) (h1 : x < W) (h2 : 0 ≤ x + (k : Int) * d) (h3 : x + (k : Int) * d < W) (hi : i ≤ k) : 0 ≤ x + (i : Int) * d ∧ x + (i : Int) * d < W := by
  by_cases hd : 0 ≤ d
  · have a1 : (i : Int) * d ≤ (k : Int) * d := Int.mul_le_mul_of_nonneg_right (by omega) hd
    have a2 : 0 ≤ (i : Int) * d := Int.mul_nonneg (by omega) hd
    omega
  · have a1 : (k : Int) * d ≤ (i : Int) * d := Int.mul_le_mul_of_nonpos_right (by omega) (by omega)
    have a2 : (i : Int) * d ≤ 0 := Int.mul_nonpos_of_nonneg_of_nonpos (by omega) (by omega)
    omega

theorem ofDir {w : WayD} {turn dx dy : Int} (hw : WayOk w) (h : DirR w turn dx dy) (ht : turn = 0 ∨ turn = 1) : dx ≠ 0 ∨ dy ≠ 0 := by
  obtain ⟨_, _, x0, _, y0, _, hs, _, _, _⟩ := hw
  unfold DirR at h
  split at h
  · obtain ⟨h1, h2⟩ := h
    rcases absI_eq h1 with h1 | h1 <;> rcases ht with rfl | rfl <;> omega
  · rcases h with ⟨h1, h2⟩ | ⟨h1, h2⟩ <;> rcases absI_eq h1 with h1 | h1 <;> rcases absI_eq h2 with h2 | h2 <;> omega
/-- eight steps lead off the board -/
theorem far_off {x d : Int} (h0 : 0 ≤ x) (h8 : x < 8) (hd : d ≠ 0) {k : Nat} (h1 : 0 ≤ x + (k : Int) * d) (h2 : x + (k : Int) * d < 8) : k ≤ 7 := by
  by_cases hd0 : 0 < d
  · have : (k : Int) * 1 ≤ (k : Int) * d := Int.mul_le_mul_of_nonneg_left (by omega) (by omega)
    omega
  · have : (k : Int) * d ≤ (k : Int) * (-1) := Int.mul_le_mul_of_nonneg_left (by omega) (by omega)
    omega

theorem goes_iff {p : Pos} {w : WayD} (hp : PosOk p) (hw : WayOk w) {a t : Nat} (ha : a < p.w.toNat * p.h.toNat) :
    t ∈ toL p w a ↔ t < p.w.toNat * p.h.toNat ∧ t ≠ a ∧ fitsT p.turn w.take (cellN p t) = true ∧ GoesR p w a t := by
  have ht : p.turn = 0 ∨ p.turn = 1 := by have := hp.t0; have := hp.t1; omega
  obtain ⟨hA, hAi⟩ := at_of hp.w1 ha
  obtain ⟨ax, hax⟩ : ∃ ax : Int, ((a % p.w.toNat : Nat) : Int) = ax := ⟨_, rfl⟩
  obtain ⟨ay, hay⟩ : ∃ ay : Int, ((a / p.w.toNat : Nat) : Int) = ay := ⟨_, rfl⟩
  have hw8 := hp.w8
  have hh8 := hp.h8
  unfold toL
  rw [List.mem_flatMap]
  unfold GoesR HitR FreeR dxI dyI
  rw [hax, hay] at hA hAi ⊢
  constructor
  · rintro ⟨⟨dx, dy⟩, hd, hr⟩
    rw [dirs_mem hw ht] at hd
    obtain ⟨k, hk, hall, hon, rfl, hf⟩ := (ray_mem 8 ax ay).1 hr
    rw [onB_iff] at hon
    obtain ⟨e1, e2, e3, e4⟩ := idx_at hon
    simp only at e1 e2 e3 e4 hf hall hon ⊢
    have hne := ofDir hw hd ht
    obtain ⟨m1, m2, m3, m4⟩ := hon
    have m2' := m2
    have m4' := m4
    obtain ⟨n1, n2, n3, n4⟩ := hA
    have hk7 : k + 1 ≤ 7 := by
      unfold stepI at m1 m2 m3 m4
      rcases hne with h | h
      · exact far_off n1 (by omega) h m1 (by omega)
      · exact far_off n3 (by omega) h m3 (by omega)
    have hse : idxN p.w (stepI ax dx (k + 1)) (stepI ay dy (k + 1)) ≠ a := by
      intro e
      rw [e] at e1 e2
      rw [hax] at e1
      rw [hay] at e2
      unfold stepI at e1 e2
      rcases hne with h | h
      · have := Int.mul_ne_zero (show ((k + 1 : Nat) : Int) ≠ 0 by omega) h
        omega
      · have := Int.mul_ne_zero (show ((k + 1 : Nat) : Int) ≠ 0 by omega) h
        omega
    refine ⟨e3, hse, hf, ?_⟩
    rw [e1, e2]
    have d1 : stepI ax dx (k + 1) - ax = ((k + 1 : Nat) : Int) * dx := by unfold stepI; omega
    have d2 : stepI ay dy (k + 1) - ay = ((k + 1 : Nat) : Int) * dy := by unfold stepI; omega
    rw [d1, d2]
    unfold DirR at hd
    split
    · rename_i h3
      rw [if_pos h3] at hd
      have hk0 : k = 0 := by
        rcases Nat.eq_zero_or_pos k with h | h
        · exact h
        · have := (hall 0 h).2.1; omega
      subst hk0
      simpa using hd
    · rename_i h3
      rw [if_neg h3] at hd
      refine ⟨k + 1, by omega, hk7, fun h1 => ?_, ?_, fun i hi1 hik => ?_⟩
      · rcases Nat.eq_zero_or_pos k with h | h
        · omega
        · have := (hall 0 h).2.1; omega
      · rw [absI_mul, absI_mul]
        rcases hd with ⟨h1, h2⟩ | ⟨h1, h2⟩
        · left; rw [h1, h2]; exact ⟨rfl, rfl⟩
        · right; rw [h1, h2]; exact ⟨rfl, rfl⟩
      · obtain ⟨i, rfl⟩ : ∃ j, i = j + 1 := ⟨i - 1, by omega⟩
        obtain ⟨q1, _, q3⟩ := hall i (by omega)
        rw [onB_iff] at q1
        rw [tdiv_mul (by omega), tdiv_mul (by omega)]
        obtain ⟨f1, f2, f3, f4⟩ := idx_at q1
        rw [← q3]
        congr 1
        rw [← Int.toNat_natCast (idxN p.w (stepI ax dx (i + 1)) (stepI ay dy (i + 1))), f4]
        congr 1
        obtain ⟨g1, g2, g3, g4⟩ := idx_at ⟨n1, n2, n3, n4⟩
        rw [← hAi, g4]
        unfold stepI
        rw [Int.add_mul, Int.mul_comm dx, Int.mul_comm dy]
        omega
  · rintro ⟨htn, hne, hf, hg⟩
    obtain ⟨hT, hTi⟩ := at_of hp.w1 htn
    obtain ⟨tx, htx⟩ : ∃ tx : Int, ((t % p.w.toNat : Nat) : Int) = tx := ⟨_, rfl⟩
    obtain ⟨ty, hty⟩ : ∃ ty : Int, ((t / p.w.toNat : Nat) : Int) = ty := ⟨_, rfl⟩
    rw [htx, hty] at hg hT hTi
    obtain ⟨n1, n2, n3, n4⟩ := hA
    obtain ⟨m1, m2, m3, m4⟩ := hT
    by_cases h3 : w.kind = 3
    · rw [if_pos h3] at hg
      refine ⟨(tx - ax, ty - ay), (dirs_mem hw ht).2 (by unfold DirR; rw [if_pos h3]; exact hg), (ray_mem 8 ax ay).2 ⟨0, by omega, fun i hi => by omega, ?_, ?_, hf⟩⟩
      · rw [stepI_one, stepI_one, show ax + (tx - ax) = tx by omega, show ay + (ty - ay) = ty by omega, onB_iff]
        exact ⟨m1, m2, m3, m4⟩
      · rw [stepI_one, stepI_one, show ax + (tx - ax) = tx by omega, show ay + (ty - ay) = ty by omega]
        exact hTi.symm
    · rw [if_neg h3] at hg
      obtain ⟨k, k1, k7, hk1, hit, free⟩ := hg
      -- the step
      have hdiv : ∃ dx dy : Int, tx - ax = (k : Int) * dx ∧ ty - ay = (k : Int) * dy ∧ ((absI dx = w.x ∧ absI dy = w.y) ∨ (absI dx = w.y ∧ absI dy = w.x)) := by
        have sgn : ∀ (z b : Int), 0 ≤ b → absI z = (k : Int) * b → ∃ d, z = (k : Int) * d ∧ absI d = b := by
          intro z b hb hz
          rcases absI_eq hz with h | h
          · exact ⟨b, h, absI_pos hb⟩
          · exact ⟨-b, by rw [h, Int.mul_neg], by rw [absI_neg (by omega)]; omega⟩
        have hwx := hw.2.2.1
        have hwy := hw.2.2.2.2.1
        rcases hit with ⟨h1, h2⟩ | ⟨h1, h2⟩
        · obtain ⟨dx, x1, x2⟩ := sgn _ _ hwx h1
          obtain ⟨dy, y1, y2⟩ := sgn _ _ hwy h2
          exact ⟨dx, dy, x1, y1, .inl ⟨x2, y2⟩⟩
        · obtain ⟨dx, x1, x2⟩ := sgn _ _ hwy h1
          obtain ⟨dy, y1, y2⟩ := sgn _ _ hwx h2
          exact ⟨dx, dy, x1, y1, .inr ⟨x2, y2⟩⟩
      obtain ⟨dx, dy, hdx, hdy, hdir⟩ := hdiv
      have hxk : ax + (k : Int) * dx = tx := by omega
      have hyk : ay + (k : Int) * dy = ty := by omega
      obtain ⟨k, rfl⟩ : ∃ j, k = j + 1 := ⟨k - 1, by omega⟩
      have hk2 : 0 < k → w.kind = 2 := fun h => by
        have h1 : w.kind ≠ 1 := fun e => by have := hk1 e; omega
        have := hw.1
        have := hw.2.1
        omega
      refine ⟨(dx, dy), (dirs_mem hw ht).2 (by unfold DirR; rw [if_neg h3]; exact hdir), (ray_mem 8 ax ay).2 ⟨k, by omega, fun i hi => ?_, ?_, ?_, hf⟩⟩
      · have b1 := between (i := i + 1) n1 n2 (by rw [hxk]; exact m1) (by rw [hxk]; exact m2) (by omega)
        have b2 := between (i := i + 1) n3 n4 (by rw [hyk]; exact m3) (by rw [hyk]; exact m4) (by omega)
        have hon : AtB p (stepI ax dx (i + 1)) (stepI ay dy (i + 1)) := ⟨b1.1, b1.2, b2.1, b2.2⟩
        refine ⟨onB_iff.2 hon, hk2 (by omega), ?_⟩
        have q := free (i + 1) (by omega) (by omega)
        rw [hdx, hdy, tdiv_mul (by omega), tdiv_mul (by omega)] at q
        obtain ⟨f1, f2, f3, f4⟩ := idx_at hon
        rw [← q]
        congr 1
        rw [← Int.toNat_natCast (idxN p.w (stepI ax dx (i + 1)) (stepI ay dy (i + 1))), f4]
        congr 1
        obtain ⟨g1, g2, g3, g4⟩ := idx_at (p := p) ⟨n1, n2, n3, n4⟩
        rw [← hAi, g4]
        unfold stepI
        rw [Int.add_mul, Int.mul_comm dx, Int.mul_comm dy]
        omega
      · rw [onB_iff]
        show AtB p (ax + ((k + 1 : Nat) : Int) * dx) (ay + ((k + 1 : Nat) : Int) * dy)
        rw [hxk, hyk]
        exact ⟨m1, m2, m3, m4⟩
      · show t = idxN p.w (ax + ((k + 1 : Nat) : Int) * dx) (ay + ((k + 1 : Nat) : Int) * dy)
        rw [hxk, hyk]
        exact hTi.symm
end Go.Proofs.YtcdfeaodfmfdnaaGreatDoor
