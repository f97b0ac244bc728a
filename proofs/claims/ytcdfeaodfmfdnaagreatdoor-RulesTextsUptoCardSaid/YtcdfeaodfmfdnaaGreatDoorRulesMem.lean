/- How pieces lie in memory. -/
import Derived.Test.YtcdfeaodfmfdnaaGreatDoorBase
import Derived.Test.YtcdfeaodfmfdnaaGreatDoorRulesPlain
namespace Go.Proofs.YtcdfeaodfmfdnaaGreatDoor
open Go.RowKit

/-- ways from A on -/
def WaysAt (w : World) (B : Nat) (A : Option Addr) (ws : List WayD) : Prop := Cells w B A (ints (flatW ws))
def cellsP : List PieceD → List (Option Addr × Nat) → List Value
  | p :: ps, h :: hs => .int .u8 p.letter :: .int .i64 p.worth :: .slice h.1 p.ways.length h.2 :: cellsP ps hs
  | _, _ => []
theorem cellsP_len : ∀ (ps : List PieceD) (hs : List (Option Addr × Nat)), hs.length = ps.length → (cellsP ps hs).length = ps.length * 3
  | [], [], _ => rfl
  | p :: ps, h :: hs, e => by
    have := cellsP_len ps hs (by simpa using e)
    simp only [cellsP, List.length_cons, this]
    omega
theorem cellsP_get : ∀ (ps : List PieceD) (hs : List (Option Addr × Nat)) (e : hs.length = ps.length) (i : Nat) (hi : i < ps.length),
    (cellsP ps hs)[i * 3]? = some (.int .u8 ps[i].letter) ∧ (cellsP ps hs)[i * 3 + 1]? = some (.int .i64 ps[i].worth) ∧ (cellsP ps hs)[i * 3 + 2]? = some (.slice (hs[i]'(by omega)).1 ps[i].ways.length (hs[i]'(by omega)).2)
  | p :: ps, h :: hs, e, 0, _ => by simp [cellsP]
  | p :: ps, h :: hs, e, i + 1, hi => by
    have ih := cellsP_get ps hs (by simpa using e) i (by simpa using hi)
    have e1 : (i + 1) * 3 = i * 3 + 1 + 1 + 1 := by omega
    have e2 : (i + 1) * 3 + 1 = (i * 3 + 1) + 1 + 1 + 1 := by omega
    have e3 : (i + 1) * 3 + 2 = (i * 3 + 2) + 1 + 1 + 1 := by omega
    rw [e2, e3, e1]
    simp only [cellsP, List.getElem?_cons_succ, List.getElem_cons_succ]
    exact ih
/-- pieces from A on, their ways too -/
def PiecesAt (w : World) (B : Nat) (A : Option Addr) (ps : List PieceD) : Prop :=
  ∃ hs : List (Option Addr × Nat), ∃ e : hs.length = ps.length, Cells w B A (cellsP ps hs) ∧ ∀ k (h : k < ps.length), ps[k].ways.length ≤ (hs[k]'(by omega)).2 ∧ WaysAt w B (hs[k]'(by omega)).1 ps[k].ways
section
variable {w w' : World} {B B' : Nat} {A : Option Addr} {ps : List PieceD}
theorem PiecesAt.at_ (h : PiecesAt w B A ps) {k : Nat} (hk : k < ps.length) :
    ∃ b off, A = some ⟨b, off, none⟩ ∧ b < B ∧ w.cell? ⟨b, off + k * 3, none⟩ = some (.int .u8 ps[k].letter) ∧ w.cell? ⟨b, off + k * 3 + 1, none⟩ = some (.int .i64 ps[k].worth) ∧
      ∃ Ak ck, ps[k].ways.length ≤ ck ∧ w.cell? ⟨b, off + k * 3 + 2, none⟩ = some (.slice Ak ps[k].ways.length ck) ∧ WaysAt w B Ak ps[k].ways := by
  obtain ⟨hs, e, hc, hw⟩ := h
  have hl := cellsP_len ps hs e
  obtain ⟨b, off, hA, hb, hcell⟩ := hc (by omega)
  obtain ⟨g0, g1, g2⟩ := cellsP_get ps hs e k hk
  have key : ∀ j v, (cellsP ps hs)[j]? = some v → w.cell? ⟨b, off + j, none⟩ = some v := by
    intro j v hv
    obtain ⟨hj, hjv⟩ := List.getElem?_eq_some_iff.1 hv
    rw [hcell j hj, hjv]
  exact ⟨b, off, hA, hb, key _ _ g0, by rw [Nat.add_assoc]; exact key _ _ g1, _, _, (hw k hk).1, by rw [Nat.add_assoc]; exact key _ _ g2, (hw k hk).2⟩
theorem PiecesAt.below (h : PiecesAt w B A ps) (hb : Below B w w') : PiecesAt w' B A ps := by
  obtain ⟨hs, e, hc, hw⟩ := h
  exact ⟨hs, e, hc.below hb, fun k hk => ⟨(hw k hk).1, Cells.below (hw k hk).2 hb⟩⟩
theorem PiecesAt.more (h : PiecesAt w B A ps) (hB : B ≤ B') : PiecesAt w B' A ps := by
  obtain ⟨hs, e, hc, hw⟩ := h
  exact ⟨hs, e, hc.more hB, fun k hk => ⟨(hw k hk).1, Cells.more (hw k hk).2 hB⟩⟩
end
theorem ways_at {w : World} {B : Nat} {A : Option Addr} {ws : List WayD} (h : WaysAt w B A ws) {i : Nat} (hi : i < ws.length) :
    ∃ b off, A = some ⟨b, off, none⟩ ∧ b < B ∧ w.cell? ⟨b, off + i * 4, none⟩ = some (.int .i64 ws[i].kind) ∧ w.cell? ⟨b, off + i * 4 + 1, none⟩ = some (.int .i64 ws[i].x) ∧
      w.cell? ⟨b, off + i * 4 + 2, none⟩ = some (.int .i64 ws[i].y) ∧ w.cell? ⟨b, off + i * 4 + 3, none⟩ = some (.int .i64 ws[i].take) := by
  have hl := flatW_len ws
  obtain ⟨b, off, hA, hb, hcell⟩ := h (by rw [ints_length]; omega)
  obtain ⟨g0, g1, g2, g3⟩ := flatW_get ws i hi
  have key : ∀ j v, (flatW ws)[j]? = some v → w.cell? ⟨b, off + j, none⟩ = some (.int .i64 v) := by
    intro j v hv
    obtain ⟨hj, hjv⟩ := List.getElem?_eq_some_iff.1 hv
    rw [hcell j (by rw [ints_length]; exact hj), ints_get, hjv]
  exact ⟨b, off, hA, hb, key _ _ g0, by rw [Nat.add_assoc]; exact key _ _ g1, by rw [Nat.add_assoc]; exact key _ _ g2, by rw [Nat.add_assoc]; exact key _ _ g3⟩

/-- a position, rules as values -/
def posC (p : Pos) : List Value := [.int .i64 p.w, .int .i64 p.h, .string p.cells, .int .i64 p.turn, .string p.h0, .string p.h1]
theorem Blk.rules {w : World} {g : Nat} {t : TypeId} {v0 v1 v2 v3 v4 v5 v6 v7 v8 v9 v10 v11 v12 : Value} (h : Blk w g t #[v0, v1, v2, v3, v4, v5, v6, v7, v8, v9, v10, v11, v12]) :
    w.cell? ⟨g, 0, none⟩ = some v0 ∧ w.cell? ⟨g, 1, none⟩ = some v1 ∧ w.cell? ⟨g, 2, none⟩ = some v2 ∧ w.cell? ⟨g, 3, none⟩ = some v3 ∧ w.cell? ⟨g, 4, none⟩ = some v4 ∧ w.cell? ⟨g, 5, none⟩ = some v5 ∧ w.cell? ⟨g, 6, none⟩ = some v6 ∧ w.cell? ⟨g, 7, none⟩ = some v7 ∧ w.cell? ⟨g, 8, none⟩ = some v8 ∧ w.cell? ⟨g, 9, none⟩ = some v9 ∧ w.cell? ⟨g, 10, none⟩ = some v10 ∧ w.cell? ⟨g, 11, none⟩ = some v11 ∧ w.cell? ⟨g, 12, none⟩ = some v12 := ⟨h.cellv rfl, h.cellv rfl, h.cellv rfl, h.cellv rfl, h.cellv rfl, h.cellv rfl, h.cellv rfl, h.cellv rfl, h.cellv rfl, h.cellv rfl, h.cellv rfl, h.cellv rfl, h.cellv rfl⟩
end Go.Proofs.YtcdfeaodfmfdnaaGreatDoor
