/- Positions, plain: what is right, turned round, the other player's; nothing of the program. -/
namespace Go.Proofs.YtcdfeaodfmfdnaaGreatDoor

structure Pos where
  w : Int
  h : Int
  cells : ByteArray
  turn : Int
  h0 : ByteArray
  h1 : ByteArray

def upB (n : Nat) : Bool := decide (65 ≤ n ∧ n ≤ 90)
def lowB (n : Nat) : Bool := decide (97 ≤ n ∧ n ≤ 122)
def cellB (n : Nat) : Bool := decide (n = 46 ∨ upB n = true ∨ lowB n = true)
/-- letters of a hand, in order -/
def HandOk (l : List UInt8) : Prop := l.length ≤ 8 ∧ (∀ k (h : k < l.length), upB l[k].toNat = true) ∧ ∀ k (h : k + 1 < l.length), l[k].toNat ≤ l[k + 1].toNat
open Classical in
noncomputable def handB (s : ByteArray) : Bool := decide (HandOk s.data.toList)
def CellsOk (l : List UInt8) : Prop := ∀ k (h : k < l.length), cellB l[k].toNat = true
structure PosOk (p : Pos) : Prop where
  w1 : 1 ≤ p.w
  w8 : p.w ≤ 8
  h1 : 1 ≤ p.h
  h8 : p.h ≤ 8
  size : (p.cells.size : Int) = p.w * p.h
  t0 : 0 ≤ p.turn
  t1 : p.turn ≤ 1
  hand0 : handB p.h0 = true
  hand1 : handB p.h1 = true
  cells : CellsOk p.cells.data.toList

theorem handB_true {s : ByteArray} : handB s = true ↔ HandOk s.data.toList := by unfold handB; simp
theorem handB_false {s : ByteArray} : handB s = false ↔ ¬ HandOk s.data.toList := by unfold handB; simp

/-! Where a cell comes from, in a board turned round: s: columns and rows exchanged, a: left and right, b: bottom and top. -/
def flipN (f : Bool) (n x : Nat) : Nat := if f then n - 1 - x else x
theorem flipN_lt {f : Bool} {n x : Nat} (h : x < n) : flipN f n x < n := by unfold flipN; split <;> omega
theorem flipN_flipN {f : Bool} {n x : Nat} (h : x < n) : flipN f n (flipN f n x) = x := by unfold flipN; split <;> omega
/-- of w by h cells: from where (x, y) of the turned board comes -/
def fromX (s a b : Bool) (w h x y : Nat) : Nat := if s then flipN b h y else flipN a w x
def fromY (s a b : Bool) (w h x y : Nat) : Nat := if s then flipN a w x else flipN b h y

/-- number of a cell of a board of w columns -/
theorem div_cell {w x y : Nat} (hx : x < w) : (y * w + x) / w = y := by
  rw [Nat.mul_comm, Nat.mul_add_div (by omega), Nat.div_eq_of_lt hx, Nat.add_zero]
theorem mod_cell {w x y : Nat} (hx : x < w) : (y * w + x) % w = x := by
  rw [Nat.mul_comm, Nat.mul_add_mod, Nat.mod_eq_of_lt hx]
theorem cell_lt {w h x y : Nat} (hx : x < w) (hy : y < h) : y * w + x < w * h := by
  have h1 : (y + 1) * w ≤ h * w := Nat.mul_le_mul_right w hy
  rw [Nat.succ_mul] at h1
  rw [Nat.mul_comm w h]
  omega
theorem row_lt {w h i : Nat} (hi : i < w * h) : i / w < h := by
  rw [Nat.div_lt_iff_lt_mul (by
    rcases Nat.eq_zero_or_pos w with h0 | h0
    · subst h0; simp at hi
    · exact h0), Nat.mul_comm]
  exact hi
theorem col_lt {w h i : Nat} (hi : i < w * h) : i % w < w := Nat.mod_lt _ (by
  rcases Nat.eq_zero_or_pos w with h0 | h0
  · subst h0; simp at hi
  · exact h0)
theorem cell_back {w i : Nat} : i / w * w + i % w = i := by rw [Nat.mul_comm]; exact Nat.div_add_mod i w

section
variable (s a b : Bool) (w h : Nat)
/-- columns and rows of the turned board -/
def oW : Nat := if s then h else w
def oH : Nat := if s then w else h
/-- the cell of the old board that comes to cell j of the turned one -/
def srcI (j : Nat) : Nat := 
  let x := flipN a (oW s w h) (j % oW s w h)
  let y := flipN b (oH s w h) (j / oW s w h)
  (if s then x else y) * w + (if s then y else x)
/-- where cell i of the old board comes to -/
def dstI (i : Nat) : Nat :=
  let x := if s then i / w else i % w
  let y := if s then i % w else i / w
  flipN b (oH s w h) y * oW s w h + flipN a (oW s w h) x
end
section
variable {s a b : Bool} {w h : Nat}
theorem oWH : oW s w h * oH s w h = w * h := by unfold oW oH; cases s <;> simp [Nat.mul_comm]
theorem srcI_lt {j : Nat} (hj : j < w * h) : srcI s a b w h j < w * h := by
  have hj' : j < oW s w h * oH s w h := by rw [oWH]; exact hj
  have h1 := flipN_lt (f := a) (col_lt hj')
  have h2 := flipN_lt (f := b) (row_lt hj')
  unfold srcI
  cases s <;> simp only [oW, oH, if_true, if_false, Bool.false_eq_true] at *
  · exact cell_lt h1 h2
  · exact cell_lt h2 h1
theorem dstI_lt {i : Nat} (hi : i < w * h) : dstI s a b w h i < w * h := by
  have h1 := col_lt hi
  have h2 := row_lt hi
  unfold dstI
  cases s <;> simp only [oW, oH, if_true, if_false, Bool.false_eq_true] at *
  · exact cell_lt (flipN_lt h1) (flipN_lt h2)
  · rw [Nat.mul_comm w h]; exact cell_lt (flipN_lt h2) (flipN_lt h1)
theorem src_dst {i : Nat} (hi : i < w * h) : srcI s a b w h (dstI s a b w h i) = i := by
  have h1 := col_lt hi
  have h2 := row_lt hi
  unfold srcI dstI
  cases s <;> simp only [oW, oH, if_true, if_false, Bool.false_eq_true] at *
  · rw [mod_cell (flipN_lt h1), div_cell (flipN_lt h1), flipN_flipN h1, flipN_flipN h2, cell_back]
  · rw [mod_cell (flipN_lt h2), div_cell (flipN_lt h2), flipN_flipN h1, flipN_flipN h2, cell_back]
theorem dst_src {j : Nat} (hj : j < w * h) : dstI s a b w h (srcI s a b w h j) = j := by
  have hj' : j < oW s w h * oH s w h := by rw [oWH]; exact hj
  have h1 := col_lt hj'
  have h2 := row_lt hj'
  unfold srcI dstI
  cases s <;> simp only [oW, oH, if_true, if_false, Bool.false_eq_true] at *
  · rw [mod_cell (flipN_lt h1), div_cell (flipN_lt h1), flipN_flipN h1, flipN_flipN h2, cell_back]
  · rw [mod_cell (flipN_lt h2), div_cell (flipN_lt h2), flipN_flipN h1, flipN_flipN h2, cell_back]
end

/-- bytes of a list -/
def bytes (l : List UInt8) : ByteArray := ⟨l.toArray⟩
@[simp] theorem bytes_list (l : List UInt8) : (bytes l).data.toList = l := rfl
@[simp] theorem bytes_size (l : List UInt8) : (bytes l).size = l.length := by simp [bytes, ByteArray.size]
theorem bytes_eq {s t : ByteArray} (h : s.data.toList = t.data.toList) : s = t := by
  cases s; cases t; simp at h; rw [h]

/-- the cells of a board turned round -/
def turnCells (s a b : Bool) (w h : Nat) (l : List UInt8) : List UInt8 := (List.range l.length).map fun j => l.getD (srcI s a b w h j) 0
def sBit (k : Nat) : Bool := decide (k / 4 % 2 = 1)
def aBit (k : Nat) : Bool := decide (k % 2 = 1)
def bBit (k : Nat) : Bool := decide (k / 2 % 2 = 1)
/-- a position turned round by way k -/
def turnP (p : Pos) (k : Nat) : Pos :=
  { p with w := if sBit k then p.h else p.w, h := if sBit k then p.w else p.h, cells := bytes (turnCells (sBit k) (aBit k) (bBit k) p.w.toNat p.h.toNat p.cells.data.toList) }
@[simp] theorem turnCells_len (s a b : Bool) (w h : Nat) (l : List UInt8) : (turnCells s a b w h l).length = l.length := by simp [turnCells]
theorem turnCells_get {s a b : Bool} {w h : Nat} {l : List UInt8} (hl : l.length = w * h) {j : Nat} (hj : j < l.length) :
    (turnCells s a b w h l)[j]'(by simpa using hj) = l[srcI s a b w h j]'(by rw [hl]; exact srcI_lt (by omega)) := by
  simp [turnCells, List.getD_eq_getElem?_getD, show srcI s a b w h j < l.length by rw [hl]; exact srcI_lt (by omega)]
theorem PosOk.len {p : Pos} (hp : PosOk p) : p.cells.data.toList.length = p.w.toNat * p.h.toNat := by
  have h := hp.size
  have h1 := hp.w1
  have h2 := hp.h1
  obtain ⟨a, ha⟩ : ∃ a : Nat, p.w = a := ⟨p.w.toNat, by omega⟩
  obtain ⟨b, hb⟩ : ∃ b : Nat, p.h = b := ⟨p.h.toNat, by omega⟩
  rw [ha, hb] at h ⊢
  simp only [Int.toNat_natCast]
  have h3 : p.cells.data.toList.length = p.cells.size := rfl
  rw [h3]
  exact_mod_cast h
theorem turn_ok {p : Pos} (hp : PosOk p) (k : Nat) : PosOk (turnP p k) := by
  have hl := hp.len
  have hs : (((turnP p k).cells.size : Nat) : Int) = p.w * p.h := by
    have : (turnP p k).cells.size = p.cells.size := by simp [turnP]
    rw [this]; exact hp.size
  obtain ⟨a1, a2, a3, a4, a5, a6, a7, a8, a9, a10⟩ := hp
  refine ⟨?_, ?_, ?_, ?_, ?_, a6, a7, a8, a9, ?_⟩
  · unfold turnP; split <;> assumption
  · unfold turnP; split <;> assumption
  · unfold turnP; split <;> assumption
  · unfold turnP; split <;> assumption
  · rw [hs]; unfold turnP; split
    · exact Int.mul_comm _ _
    · rfl
  · intro j hj
    simp only [turnP, bytes_list, turnCells_len] at hj
    have := turnCells_get (s := sBit k) (a := aBit k) (b := bBit k) hl hj
    simp only [turnP, bytes_list]
    rw [this]
    exact a10 _ _
end Go.Proofs.YtcdfeaodfmfdnaaGreatDoor
