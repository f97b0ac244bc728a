/- The moves by the cells, plain: as the loops find them. -/
import Derived.Test.YtcdfeaodfmfdnaaGreatDoorMvSortM
namespace Go.Proofs.YtcdfeaodfmfdnaaGreatDoor

/-- the cells ahead of t to which a piece goes from a -/
noncomputable def eBoardI (p : Pos) (x : PieceD) (a t : Nat) : List Mv := (List.range t).flatMap fun t => if canB p x.ways a t then [⟨a, t, x.letter⟩] else []
theorem eBoardI_len (p : Pos) (x : PieceD) (a t : Nat) : (eBoardI p x a t).length ≤ t := by
  have := mv_flat_len (fun t => if canB p x.ways a t then [(⟨(a : Int), (t : Int), x.letter⟩ : Mv)] else []) 1 (fun c => by split <;> simp) (List.range t)
  unfold eBoardI
  rw [List.length_range] at this
  omega
theorem everyBoard_some {ps : List PieceD} {p : Pos} {a : Nat} {x : PieceD} (hm : ownN (cellN p a) = p.turn) (hx : pieceAt ps (cellN p a) = some x) : everyBoard ps p a = eBoardI p x a p.cells.size := by
  unfold everyBoard eBoardI
  rw [if_pos hm, hx]
theorem everyBoard_none {ps : List PieceD} {p : Pos} {a : Nat} (hm : ownN (cellN p a) ≠ p.turn) : everyBoard ps p a = [] := by
  unfold everyBoard
  rw [if_neg hm]
theorem everyBoard_len (ps : List PieceD) (p : Pos) (a : Nat) : (everyBoard ps p a).length ≤ p.cells.size := by
  by_cases hm : ownN (cellN p a) = p.turn
  · cases hx : pieceAt ps (cellN p a) with
    | none => unfold everyBoard; rw [if_pos hm, hx]; simp
    | some x => rw [everyBoard_some hm hx]; exact eBoardI_len p x a _
  · rw [everyBoard_none hm]; simp
end Go.Proofs.YtcdfeaodfmfdnaaGreatDoor
