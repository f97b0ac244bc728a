/- The moves by the cells, plain: as the loops find them. -/
import Derived.Test.YtdfegpohmaideaaGreatAllPlain
namespace Go.Proofs.YtdfegpohmaideaaGreat

/-- what is put on cell t out of the first i letters -/
def eDropI (p : Pos) (t i : Nat) : List Mv := (List.range i).flatMap fun i => if cellN p t == 46 && freshB (handOf p p.turn) i then [⟨-1, t, ((handOf p p.turn).getD i 0).toNat⟩] else []
noncomputable def eDropTo (p : Pos) (t : Nat) : List Mv := (List.range t).flatMap (everyDrop p)
theorem eDropI_all (p : Pos) (t : Nat) : eDropI p t (handOf p p.turn).length = everyDrop p t := rfl
theorem eDropI_succ (p : Pos) (t i : Nat) : eDropI p t (i + 1) = eDropI p t i ++ (if cellN p t == 46 && freshB (handOf p p.turn) i then [⟨-1, (t : Int), ((handOf p p.turn).getD i 0).toNat⟩] else []) := by
  unfold eDropI
  rw [List.range_succ, List.flatMap_append]
  simp
theorem eDropTo_succ (p : Pos) (t : Nat) : eDropTo p (t + 1) = eDropTo p t ++ everyDrop p t := by
  unfold eDropTo
  rw [List.range_succ, List.flatMap_append]
  simp
theorem eDropI_len (p : Pos) (t i : Nat) : (eDropI p t i).length ≤ i := by
  have := flat_len (fun i => if cellN p t == 46 && freshB (handOf p p.turn) i then [(⟨-1, (t : Int), ((handOf p p.turn).getD i 0).toNat⟩ : Mv)] else []) 1 (fun c => by split <;> simp) (List.range i)
  unfold eDropI
  rw [List.length_range] at this
  omega
theorem eDropTo_len {p : Pos} (hp : PosOk p) (t : Nat) : (eDropTo p t).length ≤ 8 * t := by
  have := flat_len (everyDrop p) 8 (fun x => by
    have h1 := eDropI_len p x (handOf p p.turn).length
    have h2 := (hand_ok hp p.turn).1
    rw [eDropI_all] at h1
    omega) (List.range t)
  rw [List.length_range] at this
  exact this
/-- the cells ahead of t to which a piece goes from a -/
noncomputable def eBoardI (p : Pos) (x : PieceD) (a t : Nat) : List Mv := (List.range t).flatMap fun t => if canB p x.ways a t then [⟨a, t, x.letter⟩] else []
noncomputable def eBoardTo (ps : List PieceD) (p : Pos) (a : Nat) : List Mv := (List.range a).flatMap (everyBoard ps p)
theorem eBoardI_succ (p : Pos) (x : PieceD) (a t : Nat) : eBoardI p x a (t + 1) = eBoardI p x a t ++ (if canB p x.ways a t then [⟨(a : Int), (t : Int), x.letter⟩] else []) := by
  unfold eBoardI
  rw [List.range_succ, List.flatMap_append]
  simp
theorem eBoardTo_succ (ps : List PieceD) (p : Pos) (a : Nat) : eBoardTo ps p (a + 1) = eBoardTo ps p a ++ everyBoard ps p a := by
  unfold eBoardTo
  rw [List.range_succ, List.flatMap_append]
  simp
theorem eBoardI_len (p : Pos) (x : PieceD) (a t : Nat) : (eBoardI p x a t).length ≤ t := by
  have := flat_len (fun t => if canB p x.ways a t then [(⟨(a : Int), (t : Int), x.letter⟩ : Mv)] else []) 1 (fun c => by split <;> simp) (List.range t)
  unfold eBoardI
  rw [List.length_range] at this
  omega
theorem everyBoard_some {ps : List PieceD} {p : Pos} {a : Nat} {x : PieceD} (hm : ownN (cellN p a) = p.turn) (hx : pieceAt ps (cellN p a) = some x) : everyBoard ps p a = eBoardI p x a p.cells.size := by
  unfold everyBoard eBoardI
  rw [if_pos hm, hx]
theorem everyBoard_none {ps : List PieceD} {p : Pos} {a : Nat} (hm : ownN (cellN p a) ≠ p.turn) : everyBoard ps p a = [] := by
  unfold everyBoard
  rw [if_neg hm]
theorem everyBoard_len (ps : List PieceD) (p : Pos) (a : Nat) : (everyBoard ps p a).length ≤ p.cells.size := by
  by_cases hm : ownN (cellN p a) = p.turn
  · cases hx : pieceAt ps (cellN p a) with
    | none => unfold everyBoard; rw [if_pos hm, hx]; simp
    | some x => rw [everyBoard_some hm hx]; exact eBoardI_len p x a _
  · rw [everyBoard_none hm]; simp
theorem eBoardTo_len (ps : List PieceD) (p : Pos) (a : Nat) : (eBoardTo ps p a).length ≤ p.cells.size * a := by
  have := flat_len (everyBoard ps p) p.cells.size (everyBoard_len ps p) (List.range a)
  rw [List.length_range] at this
  exact this
/-- both parts -/
noncomputable def eDrops (r : RulesD) (p : Pos) : List Mv := if r.drops then eDropTo p p.cells.size else []
theorem everyL_eq (r : RulesD) (p : Pos) : everyL r p = eDrops r p ++ eBoardTo r.pieces p p.cells.size := rfl
theorem canB_succ (p : Pos) (ws : List WayD) (a t k : Nat) (h : k < ws.length) : canB p (ws.take (k + 1)) a t = (canB p (ws.take k) a t || (fitsR p.turn ws[k].take (cellN p t) && (a != t) && goesB p ws[k] a t)) := by
  unfold canB
  rw [List.take_succ_eq_append_getElem h, List.any_append]
  simp
theorem canB_zero (p : Pos) (ws : List WayD) (a t : Nat) : canB p (ws.take 0) a t = false := by simp [canB]
theorem own_fits {r : RulesD} {p : Pos} (hp : PosOk p) (hf : FitsL r.pieces p.all) {a : Nat} (ha : a < p.cells.size) (hm : ownN (cellN p a) = p.turn) :
    ∃ k, ∃ h : k < r.pieces.length, pieceX r.pieces (cellN p a) = some k ∧ pieceAt r.pieces (cellN p a) = some r.pieces[k] :=
  mine_fits hf ha ((own_mine (by have := hp.t0; have := hp.t1; omega)).1 hm)
end Go.Proofs.YtdfegpohmaideaaGreat
