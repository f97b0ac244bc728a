/- Where a piece goes, plain: by steps, and by distance. -/
import Derived.Test.YtcdfeaodfmfdnaaGreatDoorRulesPlain
namespace Go.Proofs.YtcdfeaodfmfdnaaGreatDoor

def cellN (p : Pos) (i : Nat) : Nat := (p.cells.data.toList.getD i 0).toNat
def mineB (c : Nat) (pl : Int) : Bool := if pl = 0 then upB c else lowB c
/-- may what goes so come to a cell where c stands? -/
def fitsT (turn take : Int) (c : Nat) : Bool := (c == 46 && take != 1) || (mineB c (1 - turn) && take != 2)
def onB (W H x y : Int) : Bool := decide (0 ≤ x ∧ x < W ∧ 0 ≤ y ∧ y < H)
def idxN (W x y : Int) : Nat := (y * W + x).toNat
def rayL (p : Pos) (w : WayD) (dx dy : Int) : Nat → Int → Int → List Nat
  | 0, _, _ => []
  | f + 1, x, y =>
    if onB p.w p.h (x + dx) (y + dy) = true then
      (if fitsT p.turn w.take (cellN p (idxN p.w (x + dx) (y + dy))) = true then [idxN p.w (x + dx) (y + dy)] else []) ++
      (if w.kind = 2 ∧ cellN p (idxN p.w (x + dx) (y + dy)) = 46 then rayL p w dx dy f (x + dx) (y + dy) else [])
    else []
/-- by eight ways, or two -/
def dirsL (w : WayD) (turn : Int) : List (Int × Int) :=
  if w.kind = 3 then [(w.x, w.y * (1 - 2 * turn)), (-w.x, w.y * (1 - 2 * turn))]
  else [(w.x, w.y), (-w.x, w.y), (w.x, -w.y), (-w.x, -w.y), (w.y, w.x), (-w.y, w.x), (w.y, -w.x), (-w.y, -w.x)]
def toL (p : Pos) (w : WayD) (a : Nat) : List Nat := (dirsL w p.turn).flatMap fun d => rayL p w d.1 d.2 8 ((a % p.w.toNat : Nat) : Int) ((a / p.w.toNat : Nat) : Int)

def stepI (x dx : Int) (k : Nat) : Int := x + (k : Int) * dx
theorem stepI_succ (x dx : Int) (k : Nat) : stepI (x + dx) dx k = stepI x dx (k + 1) := by
  unfold stepI
  rw [Int.natCast_add, Int.add_mul]
  omega
theorem stepI_one (x dx : Int) : stepI x dx 1 = x + dx := by unfold stepI; omega
theorem ray_mem {p : Pos} {w : WayD} {dx dy : Int} {t : Nat} : ∀ (f : Nat) (x y : Int), t ∈ rayL p w dx dy f x y ↔ ∃ k, k < f ∧
    (∀ i, i < k → onB p.w p.h (stepI x dx (i + 1)) (stepI y dy (i + 1)) = true ∧ w.kind = 2 ∧ cellN p (idxN p.w (stepI x dx (i + 1)) (stepI y dy (i + 1))) = 46) ∧
    onB p.w p.h (stepI x dx (k + 1)) (stepI y dy (k + 1)) = true ∧ t = idxN p.w (stepI x dx (k + 1)) (stepI y dy (k + 1)) ∧ fitsT p.turn w.take (cellN p t) = true
  | 0, x, y => by
    simp only [rayL, List.not_mem_nil, false_iff]
    rintro ⟨k, hk, _⟩
    omega
  | f + 1, x, y => by
    have ih := ray_mem (p := p) (w := w) (dx := dx) (dy := dy) (t := t) f (x + dx) (y + dy)
    have e1 := stepI_one x dx
    have e2 := stepI_one y dy
    unfold rayL
    by_cases hon : onB p.w p.h (x + dx) (y + dy) = true
    · rw [if_pos hon, List.mem_append]
      constructor
      · rintro (h | h)
        · split at h
          · rename_i hf
            simp only [List.mem_cons, List.not_mem_nil, or_false] at h
            subst h
            exact ⟨0, by omega, fun i hi => by omega, by rw [e1, e2]; exact hon, by rw [e1, e2], hf⟩
          · simp at h
        · split at h
          · rename_i hs
            obtain ⟨k, hk, hall, hon2, ht, hf⟩ := ih.1 h
            refine ⟨k + 1, by omega, fun i hi => ?_, ?_, ?_, hf⟩
            · cases i with
              | zero => rw [e1, e2]; exact ⟨hon, hs.1, hs.2⟩
              | succ i =>
                have := hall i (by omega)
                rw [stepI_succ, stepI_succ] at this
                exact this
            · rw [stepI_succ, stepI_succ] at hon2; exact hon2
            · rw [stepI_succ, stepI_succ] at ht; exact ht
          · simp at h
      · rintro ⟨k, hk, hall, hon2, ht, hf⟩
        cases k with
        | zero =>
          left
          rw [e1, e2] at ht
          rw [← ht, if_pos hf]
          simp
        | succ k =>
          right
          have h0 := hall 0 (by omega)
          rw [e1, e2] at h0
          rw [if_pos ⟨h0.2.1, h0.2.2⟩]
          refine ih.2 ⟨k, by omega, fun i hi => ?_, ?_, ?_, hf⟩
          · have := hall (i + 1) (by omega)
            rw [stepI_succ, stepI_succ]
            exact this
          · rw [stepI_succ, stepI_succ]; exact hon2
          · rw [stepI_succ, stepI_succ]; exact ht
    · rw [if_neg hon]
      simp only [List.not_mem_nil, false_iff]
      rintro ⟨k, hk, hall, hon2, ht, hf⟩
      cases k with
      | zero => rw [e1, e2] at hon2; exact hon hon2
      | succ k =>
        have h0 := hall 0 (by omega)
        rw [e1, e2] at h0
        exact hon h0.1
end Go.Proofs.YtcdfeaodfmfdnaaGreatDoor
