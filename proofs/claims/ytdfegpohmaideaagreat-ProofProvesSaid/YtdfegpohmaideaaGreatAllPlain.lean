/- Moves sorted and without doubles are the moves by the cells. -/
import Derived.Test.YtdfegpohmaideaaGreatMvCompact
import Derived.Test.YtdfegpohmaideaaGreatMvGoes
namespace Go.Proofs.YtdfegpohmaideaaGreat
open Go.Lib Go.Sort

def leM (x y : Mv) : Prop := ¬ ltM y x
theorem leM_lt {x y z : Mv} (h : leM x y) (k : ltM y z) : ltM x z := by unfold leM ltM at *; omega
theorem leM_ne {x y : Mv} (h : leM x y) (k : y ≠ x) : ltM x y := by
  unfold leM at h
  by_cases h2 : ltM x y
  · exact h2
  · exact absurd (ltM_total h h2) k
theorem comp_mem {d : Array Mv} : ∀ (m : Nat) (x : Mv), x ∈ compactUpTo d m ↔ ∃ j, j < m ∧ d[j]! = x
  | 0, x => by simp [compactUpTo]
  | m + 1, x => by
    have ih := comp_mem (d := d) m x
    rw [compactUpTo_succ, List.mem_append, ih]
    constructor
    · rintro (⟨j, hj, h⟩ | h)
      · exact ⟨j, by omega, h⟩
      · split at h
        · simp only [List.mem_cons, List.not_mem_nil, or_false] at h
          exact ⟨m, by omega, h.symm⟩
        · simp at h
    · rintro ⟨j, hj, h⟩
      by_cases e : j = m
      · subst e
        by_cases hk : keeps d j = true
        · right; rw [if_pos hk]; simp [h]
        · left
          have : ¬ (j = 0 ∨ d[j]! ≠ d[j - 1]!) := by simpa [keeps] using hk
          exact ⟨j - 1, by omega, by
            by_cases q : d[j]! = d[j - 1]!
            · rw [← q]; exact h
            · exact absurd (.inr q) this⟩
      · exact .inl ⟨j, by omega, h⟩
theorem comp_sorted {d : Array Mv} (hs : ∀ i j, i < j → j < d.size → leM d[i]! d[j]!) : ∀ m, m ≤ d.size → (compactUpTo d m).Pairwise ltM
  | 0, _ => by simp [compactUpTo]
  | m + 1, hm => by
    rw [compactUpTo_succ, List.pairwise_append]
    refine ⟨comp_sorted hs m (by omega), by split <;> simp, fun x hx y hy => ?_⟩
    split at hy
    · rename_i hk
      simp only [List.mem_cons, List.not_mem_nil, or_false] at hy
      subst hy
      obtain ⟨j, hj, rfl⟩ := (comp_mem m x).1 hx
      have hk' : m = 0 ∨ d[m]! ≠ d[m - 1]! := by simpa [keeps] using hk
      rcases hk' with h0 | hne
      · omega
      · have h1 := leM_ne (hs (m - 1) m (by omega) (by omega)) hne
        by_cases e : j = m - 1
        · subst e; exact h1
        · exact leM_lt (hs j (m - 1) (by omega) (by omega)) h1
    · simp at hy
/-- what slices.SortFunc leaves -/
def sortM (l : List Mv) : List Mv := l.mergeSort fun x y => !(ltOf cfM) y x
theorem sortM_len (l : List Mv) : (sortM l).length = l.length := by simp [sortM]
theorem sortM_mem {l : List Mv} {x : Mv} : x ∈ sortM l ↔ x ∈ l := by simp [sortM]
theorem sortM_sorted (l : List Mv) : ∀ i j, i < j → j < (sortM l).toArray.size → leM (sortM l).toArray[i]! (sortM l).toArray[j]! := by
  have h : (sortM l).Pairwise (fun a b => (!(ltOf cfM) b a) = true) := List.pairwise_mergeSort (fun a b c h1 h2 => by
    simp only [Bool.not_eq_true', cfM_false] at *
    unfold ltM at *; omega) (fun a b => by
    simp only [Bool.or_eq_true, Bool.not_eq_true', cfM_false]
    unfold ltM; omega) l
  intro i j hij hj
  rw [List.pairwise_iff_getElem] at h
  have hj' : j < (sortM l).length := by simpa using hj
  have := h i j (by omega) hj' hij
  simp only [Bool.not_eq_true', cfM_false] at this
  rw [getElem!_pos _ i (by simpa using Nat.lt_trans hij hj'), getElem!_pos _ j (by simpa using hj')]
  exact this
/-- sorted, without doubles -/
def cleanM (l : List Mv) : List Mv := compactUpTo (sortM l).toArray (sortM l).toArray.size
theorem cleanM_every {r : RulesD} {p : Pos} (hp : PosOk p) (hps : ∀ x ∈ r.pieces, ∀ w ∈ x.ways, WayOk w) : cleanM (allL r p) = everyL r p := by
  refine moves_sorted hp hps (comp_sorted (sortM_sorted _) _ (Nat.le_refl _)) fun x => ?_
  unfold cleanM
  rw [comp_mem, ← sortM_mem]
  constructor
  · rintro ⟨j, hj, rfl⟩
    rw [getElem!_pos _ j hj]
    simp
  · intro h
    obtain ⟨j, hj, rfl⟩ := List.getElem_of_mem h
    exact ⟨j, by simpa using hj, by rw [getElem!_pos _ j (by simpa using hj)]; simp⟩
theorem toM_len (p : Pos) (w : WayD) (a c : Nat) : (toM p w a c).length ≤ 64 := by
  have h := raysM_len p w a c (dirsL w p.turn)
  have h2 := dirsL_len w p.turn
  rw [raysM_eq] at h
  omega
theorem flat_len {α β : Type} (f : α → List β) (n : Nat) (hf : ∀ x, (f x).length ≤ n) : ∀ l : List α, (l.flatMap f).length ≤ n * l.length
  | [] => by simp
  | x :: l => by
    have := flat_len f n hf l
    rw [List.flatMap_cons, List.length_append, List.length_cons, Nat.mul_succ]
    have := hf x
    omega
/-- by the first k ways of a piece -/
def waysM (p : Pos) (x : PieceD) (a k : Nat) : List Mv := (x.ways.take k).flatMap fun w => toM p w a x.letter
theorem waysM_len (p : Pos) (x : PieceD) (a k : Nat) (h : x.ways.length ≤ 8) : (waysM p x a k).length ≤ 512 := by
  have := flat_len (fun w => toM p w a x.letter) 64 (fun w => toM_len p w a x.letter) (x.ways.take k)
  unfold waysM
  rw [List.length_take] at this
  omega
theorem waysM_succ (p : Pos) (x : PieceD) (a k : Nat) (h : k < x.ways.length) : waysM p x a (k + 1) = waysM p x a k ++ toM p x.ways[k] a x.letter := by
  unfold waysM
  rw [List.take_succ_eq_append_getElem h, List.flatMap_append]
  simp
theorem allBoard_some {ps : List PieceD} {p : Pos} {a : Nat} {x : PieceD} (hm : mineB (cellN p a) p.turn = true) (hx : pieceAt ps (cellN p a) = some x) : allBoard ps p a = waysM p x a x.ways.length := by
  unfold allBoard waysM
  rw [if_pos hm, hx, List.take_length]
  rfl
theorem allBoard_none {ps : List PieceD} {p : Pos} {a : Nat} (hm : mineB (cellN p a) p.turn = false) : allBoard ps p a = [] := by
  unfold allBoard
  rw [if_neg (by rw [hm]; decide)]
theorem allBoard_len {ps : List PieceD} (hps : ∀ x ∈ ps, x.ways.length ≤ 8) (p : Pos) (a : Nat) : (allBoard ps p a).length ≤ 512 := by
  cases hm : mineB (cellN p a) p.turn with
  | false => rw [allBoard_none hm]; simp
  | true =>
    cases hx : pieceAt ps (cellN p a) with
    | none => unfold allBoard; rw [if_pos hm, hx]; simp
    | some x =>
      rw [allBoard_some hm hx]
      refine waysM_len p x a _ (hps x ?_)
      unfold pieceAt at hx
      rw [Option.bind_eq_some_iff] at hx
      obtain ⟨i, _, hi⟩ := hx
      exact List.mem_of_getElem? hi
def boardTo (ps : List PieceD) (p : Pos) (a : Nat) : List Mv := (List.range a).flatMap (allBoard ps p)
def dropTo (d : Bool) (p : Pos) (a : Nat) : List Mv := (List.range a).flatMap (allDrop d p)
theorem boardTo_len {ps : List PieceD} (hps : ∀ x ∈ ps, x.ways.length ≤ 8) (p : Pos) (a : Nat) : (boardTo ps p a).length ≤ 512 * a := by
  have := flat_len (allBoard ps p) 512 (allBoard_len hps p) (List.range a)
  rw [List.length_range] at this
  exact this
theorem boardTo_succ (ps : List PieceD) (p : Pos) (a : Nat) : boardTo ps p (a + 1) = boardTo ps p a ++ allBoard ps p a := by
  unfold boardTo
  rw [List.range_succ, List.flatMap_append]
  simp
theorem dropTo_succ (d : Bool) (p : Pos) (a : Nat) : dropTo d p (a + 1) = dropTo d p a ++ allDrop d p a := by
  unfold dropTo
  rw [List.range_succ, List.flatMap_append]
  simp
/-- what is put of the first i letters of the hand -/
def dropI (d : Bool) (p : Pos) (a i : Nat) : List Mv := ((handOf p p.turn).take i).flatMap fun c => if d && cellN p a == 46 then [⟨-1, a, c.toNat⟩] else []
theorem dropI_succ (d : Bool) (p : Pos) (a i : Nat) (h : i < (handOf p p.turn).length) : dropI d p a (i + 1) = dropI d p a i ++ (if d && cellN p a == 46 then [⟨-1, (a : Int), (handOf p p.turn)[i].toNat⟩] else []) := by
  unfold dropI
  rw [List.take_succ_eq_append_getElem h, List.flatMap_append]
  simp
theorem dropI_all (d : Bool) (p : Pos) (a : Nat) : dropI d p a (handOf p p.turn).length = allDrop d p a := by unfold dropI allDrop; rw [List.take_length]
theorem dropI_len (d : Bool) (p : Pos) (a i : Nat) : (dropI d p a i).length ≤ i := by
  have := flat_len (fun c : UInt8 => if d && cellN p a == 46 then [(⟨-1, (a : Int), c.toNat⟩ : Mv)] else []) 1 (fun c => by split <;> simp) ((handOf p p.turn).take i)
  unfold dropI
  rw [List.length_take] at this
  omega
theorem dropTo_len {d : Bool} {p : Pos} (hp : PosOk p) (a : Nat) : (dropTo d p a).length ≤ 8 * a := by
  have := flat_len (allDrop d p) 8 (fun x => by
    have h1 := dropI_len d p x (handOf p p.turn).length
    have h2 := (hand_ok hp p.turn).1
    rw [dropI_all] at h1
    omega) (List.range a)
  rw [List.length_range] at this
  exact this
theorem allL_eq (r : RulesD) (p : Pos) : allL r p = boardTo r.pieces p p.cells.size ++ dropTo r.drops p p.cells.size := rfl
theorem mine_fits {r : RulesD} {p : Pos} (hf : FitsL r.pieces p.all) {a : Nat} (ha : a < p.cells.size) {pl : Int} (hm : mineB (cellN p a) pl = true) :
    ∃ k, ∃ h : k < r.pieces.length, pieceX r.pieces (cellN p a) = some k ∧ pieceAt r.pieces (cellN p a) = some r.pieces[k] := by
  have ha' : a < p.cells.data.toList.length := ha
  have h1 := hf a (by unfold Pos.all; rw [List.length_append, List.length_append]; omega)
  have e : p.all[a]'(by unfold Pos.all; rw [List.length_append, List.length_append]; omega) = p.cells.data.toList[a] := by
    unfold Pos.all
    rw [List.getElem_append_left (by rw [List.length_append]; omega), List.getElem_append_left ha']
  rw [e] at h1
  have e2 : cellN p a = p.cells.data.toList[a].toNat := by unfold cellN; rw [getD_get ha']
  rw [← e2] at h1
  rcases h1 with h1 | h1
  · rw [h1] at hm
    unfold mineB at hm
    split at hm <;> exact absurd hm (by decide)
  · obtain ⟨k, hk⟩ := Option.isSome_iff_exists.1 h1
    obtain ⟨hlt, _⟩ := firstX_get hk
    exact ⟨k, hlt, hk, by unfold pieceAt; rw [hk, Option.bind_some, List.getElem?_eq_getElem hlt]⟩
end Go.Proofs.YtdfegpohmaideaaGreat
