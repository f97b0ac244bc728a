/- Who has won, plain. -/
import Derived.Test.YtcdfeaodfmfdnaaGreatDoorMovesPlain
namespace Go.Proofs.YtcdfeaodfmfdnaaGreatDoor

/-- n pieces of a player from (x, y) on -/
def LineR (p : Pos) (pl : Int) (n : Nat) (dx dy x y : Int) : Prop :=
  ∀ k, k < n → AtB p (stepI x dx k) (stepI y dy k) ∧ mineB (cellN p (idxN p.w (stepI x dx k) (stepI y dy k))) pl = true
def dirs4 : List (Int × Int) := [(1, 0), (0, 1), (1, 1), (1, -1)]
def HasR (p : Pos) (pl : Int) (n : Nat) : Prop := ∃ a, a < p.cells.size ∧ ∃ d ∈ dirs4, LineR p pl n d.1 d.2 ((a % p.w.toNat : Nat) : Int) ((a / p.w.toNat : Nat) : Int)
open Classical in
noncomputable def hasB (p : Pos) (pl : Int) (n : Nat) : Bool := decide (HasR p pl n)

/-- so many pieces of a player, counted on -/
theorem line_more {p : Pos} {pl : Int} {n m : Nat} {dx dy x y : Int} (h : LineR p pl n dx dy x y) (hm : m ≤ n) : LineR p pl m dx dy x y := fun k hk => h k (by omega)

/-- the letter of a player's piece -/
def letN (c : Nat) (pl : Int) : Nat := if pl = 1 then c + 32 else c
def hasL (l : List UInt8) (c : Nat) : Bool := l.any fun x => x.toNat == c
def lacksB (r : RulesD) (p : Pos) (pl : Int) : Bool := r.lose != 0 && !hasL p.cells.data.toList (letN r.lose pl)
/-- the row where a player wants to be -/
def rowOf (p : Pos) (pl : Int) : List UInt8 := if pl = 0 then p.cells.data.toList.drop (p.cells.size - p.w.toNat) else p.cells.data.toList.take p.w.toNat
def reachB (r : RulesD) (p : Pos) (pl : Int) : Bool := r.reach != 0 && hasL (rowOf p pl) (letN r.reach pl)
noncomputable def lineB (r : RulesD) (p : Pos) (pl : Int) : Bool := decide (0 < r.line) && hasB p pl r.line.toNat
noncomputable def endsN (r : RulesD) (p : Pos) : Int :=
  if lacksB r p p.turn then 1 + (1 - p.turn)
  else if lacksB r p (1 - p.turn) then 1 + p.turn
  else if lineB r p (1 - p.turn) then 1 + (1 - p.turn)
  else if lineB r p p.turn then 1 + p.turn
  else if reachB r p (1 - p.turn) then 1 + (1 - p.turn)
  else if reachB r p p.turn then 1 + p.turn
  else if (everyL r p).length = 0 then (if r.stuck then 1 + (1 - p.turn) else 3)
  else 0
/-- the moves, if the game is open -/
noncomputable def movesL (r : RulesD) (p : Pos) : List Mv := if endsN r p = 0 then everyL r p else []
end Go.Proofs.YtcdfeaodfmfdnaaGreatDoor
