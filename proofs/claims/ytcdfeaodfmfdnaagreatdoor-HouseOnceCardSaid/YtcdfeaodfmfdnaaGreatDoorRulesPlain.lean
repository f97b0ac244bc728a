/- Rules of a game, plain: when they are right; nothing of the program. -/
import Derived.Test.YtcdfeaodfmfdnaaGreatDoorBoardPlain
namespace Go.Proofs.YtcdfeaodfmfdnaaGreatDoor

structure WayD where
  kind : Int
  x : Int
  y : Int
  take : Int
structure PieceD where
  letter : Nat
  worth : Int
  ways : List WayD
structure RulesD where
  start : Pos
  pieces : List PieceD
  drops : Bool
  lose : Nat
  line : Int
  reach : Nat
  stuck : Bool
  plies : Int

def WayOk (w : WayD) : Prop := 1 ≤ w.kind ∧ w.kind ≤ 3 ∧ 0 ≤ w.x ∧ w.x ≤ 7 ∧ 0 ≤ w.y ∧ w.y ≤ 7 ∧ 0 < w.x + w.y ∧ (w.kind = 3 ∨ w.x ≤ w.y) ∧ 0 ≤ w.take ∧ w.take ≤ 2
instance (w : WayD) : Decidable (WayOk w) := by unfold WayOk; infer_instance
/-- the capital of a letter -/
def capN (c : Nat) : Nat := if lowB c then c - 32 else c
theorem capN_low {c : Nat} (h : lowB c = true) : capN c = c - 32 := by simp [capN, h]
theorem capN_not {c : Nat} (h : lowB c = false) : capN c = c := by simp [capN, h]
theorem capN_up {c : Nat} (h : upB c = true) : capN c = c := by
  have h1 : 65 ≤ c ∧ c ≤ 90 := by simpa [upB] using h
  have h2 : lowB c = false := by simp [lowB]; omega
  exact capN_not h2
/-- the first piece that has a letter -/
def firstX (ps : List PieceD) (c : Nat) : Option Nat := ps.findIdx? fun p => p.letter == c
def pieceX (ps : List PieceD) (c : Nat) : Option Nat := firstX ps (capN c)
/-- its number; -1: none -/
def numX : Option Nat → Int
  | some i => i
  | none => -1
def pieceI (ps : List PieceD) (c : Nat) : Int := numX (pieceX ps c)
theorem firstX_none {ps : List PieceD} {c : Nat} (h : ∀ j (hj : j < ps.length), ps[j].letter ≠ c) : firstX ps c = none := by
  unfold firstX
  rw [List.findIdx?_eq_none_iff]
  intro p hp
  obtain ⟨j, hj, rfl⟩ := List.getElem_of_mem hp
  simpa using h j hj
theorem firstX_some {ps : List PieceD} {c k : Nat} (hk : k < ps.length) (he : ps[k].letter = c) (h : ∀ j (hj : j < ps.length), j < k → ps[j].letter ≠ c) : firstX ps c = some k := by
  unfold firstX
  rw [List.findIdx?_eq_some_iff_getElem]
  exact ⟨hk, by simpa using he, fun j hj => by simpa using h j (by omega) hj⟩
theorem firstX_get {ps : List PieceD} {c k : Nat} (h : firstX ps c = some k) : ∃ hk : k < ps.length, ps[k].letter = c := by
  unfold firstX at h
  rw [List.findIdx?_eq_some_iff_getElem] at h
  obtain ⟨hk, h1, _⟩ := h
  exact ⟨hk, by simpa using h1⟩
def FitsL (ps : List PieceD) (l : List UInt8) : Prop := ∀ k (h : k < l.length), l[k].toNat = 46 ∨ (pieceX ps l[k].toNat).isSome = true
open Classical in
noncomputable def fitsB (ps : List PieceD) (l : List UInt8) : Bool := decide (FitsL ps l)
theorem fitsB_true {ps : List PieceD} {l : List UInt8} : fitsB ps l = true ↔ FitsL ps l := by unfold fitsB; simp
theorem fitsB_false {ps : List PieceD} {l : List UInt8} : fitsB ps l = false ↔ ¬ FitsL ps l := by unfold fitsB; simp
/-- all letters of a position -/
def Pos.all (p : Pos) : List UInt8 := p.cells.data.toList ++ p.h0.data.toList ++ p.h1.data.toList
def LetOk (ps : List PieceD) (c : Nat) : Prop := c = 0 ∨ (upB c = true ∧ (pieceX ps c).isSome = true)
structure PieceOk (ps : List PieceD) (i : Nat) (p : PieceD) : Prop where
  letter : upB p.letter = true
  place : pieceX ps p.letter = some i
  w0 : 0 ≤ p.worth
  w1 : p.worth ≤ 100
  len : p.ways.length ≤ 8
  ways : ∀ k (h : k < p.ways.length), WayOk p.ways[k]
structure RulesOk (r : RulesD) : Prop where
  start : PosOk r.start
  p1 : 1 ≤ r.pieces.length
  p10 : r.pieces.length ≤ 10
  line : r.line = 0 ∨ (2 ≤ r.line ∧ r.line ≤ 8)
  pl1 : 1 ≤ r.plies
  pl2 : r.plies ≤ 1000
  pieces : ∀ i (h : i < r.pieces.length), PieceOk r.pieces i r.pieces[i]
  lose : LetOk r.pieces r.lose
  reach : LetOk r.pieces r.reach
  fits : FitsL r.pieces r.start.all
open Classical in
noncomputable def rulesB (r : RulesD) : Bool := decide (RulesOk r)
theorem rulesB_true {r : RulesD} : rulesB r = true ↔ RulesOk r := by unfold rulesB; simp
theorem rulesB_false {r : RulesD} : rulesB r = false ↔ ¬ RulesOk r := by unfold rulesB; simp
/-- a position of some rules -/
structure OfOk (r : RulesD) (p : Pos) : Prop where
  rules : RulesOk r
  pos : PosOk p
  w : p.w = r.start.w
  h : p.h = r.start.h
  fits : FitsL r.pieces p.all
open Classical in
noncomputable def ofB (r : RulesD) (p : Pos) : Bool := decide (OfOk r p)
theorem ofB_true {r : RulesD} {p : Pos} : ofB r p = true ↔ OfOk r p := by unfold ofB; simp
theorem ofB_false {r : RulesD} {p : Pos} : ofB r p = false ↔ ¬ OfOk r p := by unfold ofB; simp

/-! how they lie in memory -/
def flatW (ws : List WayD) : List Int := ws.flatMap fun w => [w.kind, w.x, w.y, w.take]
theorem flatW_len (ws : List WayD) : (flatW ws).length = ws.length * 4 := by
  induction ws with
  | nil => rfl
  | cons r rs ih => simp only [flatW, List.flatMap_cons, List.length_append] at ih ⊢; rw [ih]; simp; omega
theorem flatW_get : ∀ (ws : List WayD) (i : Nat) (hi : i < ws.length), (flatW ws)[i * 4]? = some ws[i].kind ∧ (flatW ws)[i * 4 + 1]? = some ws[i].x ∧ (flatW ws)[i * 4 + 2]? = some ws[i].y ∧ (flatW ws)[i * 4 + 3]? = some ws[i].take
  | r :: rs, 0, _ => by simp [flatW]
  | r :: rs, i + 1, hi => by
    have h := flatW_get rs i (by simpa using hi)
    have e : flatW (r :: rs) = r.kind :: r.x :: r.y :: r.take :: flatW rs := by simp [flatW]
    have e1 : (i + 1) * 4 = i * 4 + 1 + 1 + 1 + 1 := by omega
    have e2 : (i + 1) * 4 + 1 = (i * 4 + 1) + 1 + 1 + 1 + 1 := by omega
    have e3 : (i + 1) * 4 + 2 = (i * 4 + 2) + 1 + 1 + 1 + 1 := by omega
    have e4 : (i + 1) * 4 + 3 = (i * 4 + 3) + 1 + 1 + 1 + 1 := by omega
    rw [e, e2, e3, e4, e1]
    simp only [List.getElem?_cons_succ, List.getElem_cons_succ]
    exact h
end Go.Proofs.YtcdfeaodfmfdnaaGreatDoor
