/- Turns are a group: plain. -/
import Derived.Test.YtfoehijlafooaaaOrderPlain
namespace Go.Proofs.Ytfoehijlafooaaa

theorem flipN_two {f g : Bool} {n x : Nat} (h : x < n) : flipN f n (flipN g n x) = flipN (f ^^ g) n x := by
  cases f <;> cases g <;> simp [flipN] <;> omega

/-- one turn behind the other -/
def compK (a b : Nat) : Nat := if sBit b then ((((a ^^^ b) &&& 4) ||| (((a &&& 1) * 2) ||| ((a &&& 2) / 2))) ^^^ (b &&& 3)) else a ^^^ b
theorem compK_bits : ∀ a, a < 8 → ∀ b, b < 8 → compK a b < 8 ∧ sBit (compK a b) = (sBit b ^^ sBit a) ∧
    aBit (compK a b) = (aBit b ^^ (if sBit b then bBit a else aBit a)) ∧ bBit (compK a b) = (bBit b ^^ (if sBit b then aBit a else bBit a)) := by decide
theorem compK_onto : ∀ a, a < 8 → ∀ k, k < 8 → ∃ j, j < 8 ∧ compK a j = k := by decide

theorem src_two (sa aa ba sb ab bb : Bool) (w h j : Nat) (hj : j < w * h) :
    srcI sa aa ba w h (srcI sb ab bb (oW sa w h) (oH sa w h) j) = srcI (sb ^^ sa) (ab ^^ (if sb then ba else aa)) (bb ^^ (if sb then aa else ba)) w h j := by
  have hj' : j < h * w := by rw [Nat.mul_comm]; exact hj
  have c1 := col_lt hj
  have r1 := row_lt hj
  have c2 := col_lt hj'
  have r2 := row_lt hj'
  cases sa <;> cases sb <;> simp only [srcI, oW, oH, Bool.false_eq_true, if_false, if_true, Bool.xor_false, Bool.xor_true, Bool.not_false, Bool.not_true] at *
  · have x1 := flipN_lt (f := ab) c1
    rw [mod_cell x1, div_cell x1, flipN_two c1, flipN_two r1, Bool.xor_comm aa, Bool.xor_comm ba]
  · have y1 := flipN_lt (f := bb) r2
    rw [mod_cell y1, div_cell y1, flipN_two c2, flipN_two r2, Bool.xor_comm aa, Bool.xor_comm ba]
  · have x1 := flipN_lt (f := ab) c2
    rw [mod_cell x1, div_cell x1, flipN_two c2, flipN_two r2, Bool.xor_comm aa, Bool.xor_comm ba]
  · have y1 := flipN_lt (f := bb) r1
    rw [mod_cell y1, div_cell y1, flipN_two c1, flipN_two r1, Bool.xor_comm aa, Bool.xor_comm ba]
theorem turn_two {p : Pos} (hp : PosOk p) {a b : Nat} (ha : a < 8) (hb : b < 8) : turnP (turnP p a) b = turnP p (compK a b) := by
  obtain ⟨_, e1, e2, e3⟩ := compK_bits a ha b hb
  have hl := hp.len
  have hw : (turnP p a).w.toNat = oW (sBit a) p.w.toNat p.h.toNat := by unfold turnP oW; simp only; split <;> rfl
  have hh : (turnP p a).h.toNat = oH (sBit a) p.w.toNat p.h.toNat := by unfold turnP oH; simp only; split <;> rfl
  have hcells : (turnP (turnP p a) b).cells = (turnP p (compK a b)).cells := by
    apply bytes_eq
    show turnCells (sBit b) (aBit b) (bBit b) (turnP p a).w.toNat (turnP p a).h.toNat (turnP p a).cells.data.toList = turnCells (sBit (compK a b)) (aBit (compK a b)) (bBit (compK a b)) p.w.toNat p.h.toNat p.cells.data.toList
    have hx : (turnP p a).cells.data.toList = turnCells (sBit a) (aBit a) (bBit a) p.w.toNat p.h.toNat p.cells.data.toList := rfl
    rw [hx, hw, hh, e1, e2, e3]
    have hl1 : (turnCells (sBit a) (aBit a) (bBit a) p.w.toNat p.h.toNat p.cells.data.toList).length = oW (sBit a) p.w.toNat p.h.toNat * oH (sBit a) p.w.toNat p.h.toNat := by rw [turnCells_len, oWH, hl]
    apply List.ext_getElem
    · simp
    · intro j h1 h2
      have hj : j < p.cells.data.toList.length := by simpa using h1
      rw [turnCells_get hl1 (by rw [turnCells_len]; exact hj), turnCells_get hl hj]
      have hs : srcI (sBit b) (aBit b) (bBit b) (oW (sBit a) p.w.toNat p.h.toNat) (oH (sBit a) p.w.toNat p.h.toNat) j < p.cells.data.toList.length := by
        rw [hl, ← oWH (s := sBit a)]; exact srcI_lt (by rw [oWH]; omega)
      rw [turnCells_get hl hs]
      congr 1
      exact src_two _ _ _ _ _ _ _ _ _ (by omega)
  have hq : ∀ x y : Pos, x.w = y.w → x.h = y.h → x.cells = y.cells → x.turn = y.turn → x.h0 = y.h0 → x.h1 = y.h1 → x = y := by
    rintro ⟨⟩ ⟨⟩ h1 h2 h3 h4 h5 h6
    simp only at *
    subst h1 h2 h3 h4 h5 h6
    rfl
  apply hq
  · show (if sBit b then (turnP p a).h else (turnP p a).w) = (if sBit (compK a b) then p.h else p.w)
    rw [e1]
    show (if sBit b then (if sBit a then p.w else p.h) else (if sBit a then p.h else p.w)) = _
    cases sBit b <;> cases sBit a <;> simp
  · show (if sBit b then (turnP p a).w else (turnP p a).h) = (if sBit (compK a b) then p.w else p.h)
    rw [e1]
    show (if sBit b then (if sBit a then p.h else p.w) else (if sBit a then p.w else p.h)) = _
    cases sBit b <;> cases sBit a <;> simp
  · exact hcells
  · rfl
  · rfl
  · rfl

def all8 : List Nat := [0, 1, 2, 3, 4, 5, 6, 7]
theorem all8_mem {k : Nat} : k ∈ all8 ↔ k < 8 := by
  simp only [all8, List.mem_cons, List.not_mem_nil, or_false]
  omega
theorem least_turn {p : Pos} (hp : PosOk p) {a : Nat} (ha : a < 8) : turnP (turnP p a) (leastK (turnP p a) all8) = turnP p (leastK p all8) := by
  obtain ⟨m1, h1⟩ := leastK_least p (ks := all8) (by simp [all8])
  obtain ⟨m2, h2⟩ := leastK_least (turnP p a) (ks := all8) (by simp [all8])
  have k1 := all8_mem.1 m1
  have k2 := all8_mem.1 m2
  have e2 := turn_two hp ha k2
  obtain ⟨j, hj, hje⟩ := compK_onto a ha (leastK p all8) k1
  have e1 := turn_two hp ha hj
  rw [hje] at e1
  have n1 : ¬ ltP (turnP (turnP p a) (leastK (turnP p a) all8)) (turnP p (leastK p all8)) := by
    rw [e2]; exact h1 _ (all8_mem.2 (compK_bits a ha _ k2).1)
  have n2 : ¬ ltP (turnP p (leastK p all8)) (turnP (turnP p a) (leastK (turnP p a) all8)) := by
    rw [← e1]; exact h2 _ (all8_mem.2 hj)
  obtain ⟨q1, q2, q3⟩ := ltP_total n1 n2
  have hq : ∀ x y : Pos, x.w = y.w → x.h = y.h → x.cells = y.cells → x.turn = y.turn → x.h0 = y.h0 → x.h1 = y.h1 → x = y := by
    rintro ⟨⟩ ⟨⟩ h1 h2 h3 h4 h5 h6
    simp only at *
    subst h1 h2 h3 h4 h5 h6
    rfl
  exact hq _ _ q1 q2 q3 rfl rfl rfl
end Go.Proofs.Ytfoehijlafooaaa
