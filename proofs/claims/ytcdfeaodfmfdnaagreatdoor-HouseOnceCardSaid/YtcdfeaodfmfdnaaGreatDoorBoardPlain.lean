/- Positions, plain: what is right, turned round, the other player's; nothing of the program. -/
namespace Go.Proofs.YtcdfeaodfmfdnaaGreatDoor

structure Pos where
  w : Int
  h : Int
  cells : ByteArray
  turn : Int
  h0 : ByteArray
  h1 : ByteArray

def upB (n : Nat) : Bool := decide (65 ≤ n ∧ n ≤ 90)
def lowB (n : Nat) : Bool := decide (97 ≤ n ∧ n ≤ 122)
def cellB (n : Nat) : Bool := decide (n = 46 ∨ upB n = true ∨ lowB n = true)
/-- letters of a hand, in order -/
def HandOk (l : List UInt8) : Prop := l.length ≤ 8 ∧ (∀ k (h : k < l.length), upB l[k].toNat = true) ∧ ∀ k (h : k + 1 < l.length), l[k].toNat ≤ l[k + 1].toNat
open Classical in
noncomputable def handB (s : ByteArray) : Bool := decide (HandOk s.data.toList)
def CellsOk (l : List UInt8) : Prop := ∀ k (h : k < l.length), cellB l[k].toNat = true
structure PosOk (p : Pos) : Prop where
  w1 : 1 ≤ p.w
  w8 : p.w ≤ 8
  h1 : 1 ≤ p.h
  h8 : p.h ≤ 8
  size : (p.cells.size : Int) = p.w * p.h
  t0 : 0 ≤ p.turn
  t1 : p.turn ≤ 1
  hand0 : handB p.h0 = true
  hand1 : handB p.h1 = true
  cells : CellsOk p.cells.data.toList

theorem handB_true {s : ByteArray} : handB s = true ↔ HandOk s.data.toList := by unfold handB; simp
theorem handB_false {s : ByteArray} : handB s = false ↔ ¬ HandOk s.data.toList := by unfold handB; simp

/-! Where a cell comes from, in a board turned round: s: columns and rows exchanged, a: left and right, b: bottom and top. -/
/-- number of a cell of a board of w columns -/
theorem div_cell {w x y : Nat} (hx : x < w) : (y * w + x) / w = y := by
  rw [Nat.mul_comm, Nat.mul_add_div (by omega), Nat.div_eq_of_lt hx, Nat.add_zero]
theorem mod_cell {w x y : Nat} (hx : x < w) : (y * w + x) % w = x := by
  rw [Nat.mul_comm, Nat.mul_add_mod, Nat.mod_eq_of_lt hx]
theorem cell_lt {w h x y : Nat} (hx : x < w) (hy : y < h) : y * w + x < w * h := by
  have h1 : (y + 1) * w ≤ h * w := Nat.mul_le_mul_right w hy
  rw [Nat.succ_mul] at h1
  rw [Nat.mul_comm w h]
  omega
theorem row_lt {w h i : Nat} (hi : i < w * h) : i / w < h := by
  rw [Nat.div_lt_iff_lt_mul (by
    rcases Nat.eq_zero_or_pos w with h0 | h0
    · subst h0; simp at hi
    · exact h0), Nat.mul_comm]
  exact hi
theorem col_lt {w h i : Nat} (hi : i < w * h) : i % w < w := Nat.mod_lt _ (by
  rcases Nat.eq_zero_or_pos w with h0 | h0
  · subst h0; simp at hi
  · exact h0)
theorem cell_back {w i : Nat} : i / w * w + i % w = i := by rw [Nat.mul_comm]; exact Nat.div_add_mod i w

section
variable (s a b : Bool) (w h : Nat)
end
section
variable {s a b : Bool} {w h : Nat}
end

/-- bytes of a list -/
def bytes (l : List UInt8) : ByteArray := ⟨l.toArray⟩
@[simp] theorem bytes_list (l : List UInt8) : (bytes l).data.toList = l := rfl
@[simp] theorem bytes_size (l : List UInt8) : (bytes l).size = l.length := by simp [bytes, ByteArray.size]
theorem bytes_eq {s t : ByteArray} (h : s.data.toList = t.data.toList) : s = t := by
  cases s; cases t; simp at h; rw [h]

theorem PosOk.len {p : Pos} (hp : PosOk p) : p.cells.data.toList.length = p.w.toNat * p.h.toNat := by
  have h := hp.size
  have h1 := hp.w1
  have h2 := hp.h1
  obtain ⟨a, ha⟩ : ∃ a : Nat, p.w = a := ⟨p.w.toNat, by omega⟩
  obtain ⟨b, hb⟩ : ∃ b : Nat, p.h = b := ⟨p.h.toNat, by omega⟩
  rw [ha, hb] at h ⊢
  simp only [Int.toNat_natCast]
  have h3 : p.cells.data.toList.length = p.cells.size := rfl
  rw [h3]
  exact_mod_cast h
end Go.Proofs.YtcdfeaodfmfdnaaGreatDoor
