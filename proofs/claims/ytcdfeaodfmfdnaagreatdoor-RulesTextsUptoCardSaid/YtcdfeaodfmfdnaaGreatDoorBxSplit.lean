/- strings.Split at one byte, as this program calls it; what the document's 'begins' answers, plainly. -/
import Derived.Test.YtcdfeaodfmfdnaaGreatDoorBxRead
import Derived.Test.YtcdfeaodfmfdnaaGreatDoorBoardRHand
namespace Go.Proofs.YtcdfeaodfmfdnaaGreatDoor
open Go.RowKit

/-- the library's own bound is a number -/
def MaxAt (w : World) : Prop := ∃ m, w.cell? ⟨2, 0, none⟩ = some (.int .i64 m)
theorem MaxAt.lt {w : World} (h : MaxAt w) : 2 < w.heap.size := by
  obtain ⟨m, h⟩ := h
  rcases Nat.lt_or_ge 2 w.heap.size with h' | h'
  · exact h'
  · simp [World.cell?, Array.getElem?_eq_none h'] at h
theorem MaxAt.only {w w' : World} (h : MaxAt w) (ho : Only (fun _ => False) w w') : MaxAt w' := by
  have hl := h.lt
  obtain ⟨m, h⟩ := h
  have h1 := ho.block 2 hl (fun h => h)
  refine ⟨m, ?_⟩
  rw [← h]
  simp only [World.cell?, h1]
def strL (a : List UInt8) : Value := .string (bytes a)
/-- a row of texts in block g -/
def RowsAt (w : World) (g : Nat) (xs : List (List UInt8)) : Prop := Blk w g 9 (xs.map strL).toArray
theorem RowsAt.cell {w : World} {g : Nat} {xs : List (List UInt8)} (h : RowsAt w g xs) {i : Nat} (hi : i < xs.length) : w.cell? ⟨g, i, none⟩ = some (.string (bytes xs[i])) :=
  Blk.cellv h (by simp [hi, strL])
theorem RowsAt.cellD {w : World} {g : Nat} {xs : List (List UInt8)} (h : RowsAt w g xs) {i : Nat} (hi : i < xs.length) : w.cell? ⟨g, i, none⟩ = some (.string (bytes (xs.getD i []))) := by
  rw [h.cell hi, List.getD, List.getElem?_eq_getElem hi]
  rfl
theorem headD_getD (xs : List (List UInt8)) : xs.headD [] = xs.getD 0 [] := by cases xs <;> rfl
theorem getD_mem {xs : List (List UInt8)} {i : Nat} (hi : i < xs.length) : xs.getD i [] ∈ xs := by
  rw [List.getD, List.getElem?_eq_getElem hi]
  exact List.getElem_mem _
theorem RowsAt.drewN {w : World} {g : Nat} {xs : List (List UInt8)} (h : RowsAt w g xs) (n : Nat) : RowsAt (w.drewN n) g xs := h
theorem joinL_mem {c : UInt8} : ∀ {xs : List (List UInt8)} {a : List UInt8}, a ∈ xs → a.length ≤ (joinL c xs).length
  | [], _, h => by cases h
  | [b], a, h => by
    obtain rfl := List.mem_singleton.1 h
    exact Nat.le_refl _
  | b :: d :: l, a, h => by
    rw [joinL_cons (by simp)]
    rcases List.mem_cons.1 h with rfl | h
    · simp
    · have := joinL_mem (c := c) h
      simp only [List.length_append, List.length_cons]
      omega
theorem splitL_mem {c : UInt8} {l a : List UInt8} (h : a ∈ splitL c l) : a.length ≤ l.length := by
  have := joinL_mem (c := c) h
  rwa [join_split] at this
theorem splitB_L (c : UInt8) (s : ByteArray) : Lib.splitB ⟨#[c]⟩ 0 (Lib.countB s ⟨#[c]⟩) s = (splitL c s.data.toList).map bytes := by
  have h := Lib.splitB_data ⟨#[c]⟩ 0 (Lib.countB s ⟨#[c]⟩) s
  have hc : Lib.countB s ⟨#[c]⟩ = s.data.toList.count c := Lib.count_one c _
  rw [show (⟨#[c]⟩ : ByteArray).data.toList = [c] from rfl, splitK_one c _ _ hc.symm] at h
  rw [← h, List.map_map]
  conv => lhs; rw [← List.map_id (Lib.splitB ⟨#[c]⟩ 0 (Lib.countB s ⟨#[c]⟩) s)]
  exact List.map_congr_left (fun a _ => by simp [bytes])
theorem split_any (c : UInt8) (s : ByteArray) (w : World) (hs : s.size < 4294967281) (hm : MaxAt w) :
    Calls Tryz.prog 33 #[.string s, .string ⟨#[c]⟩] w fun e w' => ∃ n, n = (splitL c s.data.toList).length ∧ e = .returned (.slice (some ⟨w.heap.size, 0, none⟩) n n) ∧ RowsAt w' w.heap.size (splitL c s.data.toList) ∧ Only (fun _ => False) w w' ∧ w'.heap.size = w.heap.size + 1 := by
  obtain ⟨m, hm⟩ := hm
  refine (Tryz.strings_Split s ⟨#[c]⟩ m w hs hm (show 1 ≤ (⟨#[c]⟩ : ByteArray).size from Nat.le_refl 1)).mono ?_
  rintro e w' ⟨rfl, rfl⟩
  have hl := Lib.splitB_all ⟨#[c]⟩ (show 1 ≤ (⟨#[c]⟩ : ByteArray).size from Nat.le_refl 1) 0 _ s rfl
  rw [splitB_L] at hl ⊢
  refine ⟨_, rfl, ?_, ?_, (Only.refl _ w).alloc _, World.size_alloc _ _⟩
  · rw [← hl, List.length_map]
  · have := Blk.new w 9 ((splitL c s.data.toList).map strL).toArray
    rw [List.map_map]
    exact this
/-- what stays while 'begins' reads -/
structure BegW (W : World) (P R : List (List UInt8)) (wr : World) : Prop where
  o : Only (fun _ => False) W wr
  m : MaxAt wr
  p : RowsAt wr W.heap.size P
  r : RowsAt wr (W.heap.size + 1) R
theorem BegW.drewN {W : World} {P R : List (List UInt8)} {wr : World} (h : BegW W P R wr) (n : Nat) : BegW W P R (wr.drewN n) := ⟨h.o.drewN n, h.m, h.p, h.r⟩
theorem not_fine {P R : List (List UInt8)} (hP : splitL 47 (P.headD []) = R) {i : Nat} (hi : i < R.length) {fb : Bool} (hfb : (decide (1 < P.length) || decide (i + 1 < R.length)) = fb) (h : ¬ RowFine R fb R[i]) : ¬ MayP P := fun h2 => by
  have h3 := h2.1.2.2
  rw [hP] at h3
  have h4 := h3 i hi
  rw [hfb] at h4
  exact h h4
/-- is a row wrong by its length? -/
def badRow (an zn : Nat) (fb : Bool) : Bool := decide (8 < an) || decide (zn < an) || (fb && decide (an ≠ zn)) || (fb && decide (an = 0))
theorem badRow_iff {an zn : Nat} {fb : Bool} : badRow an zn fb = true ↔ 8 < an ∨ zn < an ∨ (fb = true ∧ an ≠ zn) ∨ (fb = true ∧ an = 0) := by
  unfold badRow
  simp only [Bool.or_eq_true, Bool.and_eq_true, decide_eq_true_eq, or_assoc]
theorem badRow_t {R : List (List UInt8)} {a z : ByteArray} {fb : Bool} (hz : wid R = z.size) (h : badRow a.size z.size fb = true) : ¬ RowFine R fb a.data.toList := fun h2 => by
  have e : a.data.toList.length = a.size := by simp
  have l8 := h2.l8
  have lw := h2.lw
  rw [hz] at lw
  rcases badRow_iff.1 h with h | h | ⟨rfl, h⟩ | ⟨rfl, h⟩
  · omega
  · omega
  · have := (h2.full rfl).1; omega
  · have := (h2.full rfl).2; omega
theorem badRow_f {R : List (List UInt8)} {a z : ByteArray} {fb : Bool} (hz : wid R = z.size) (h : badRow a.size z.size fb = false) (hc : CellsL a.data.toList) : RowFine R fb a.data.toList := by
  have e : a.data.toList.length = a.size := by simp
  have h' : ¬ (8 < a.size ∨ z.size < a.size ∨ (fb = true ∧ a.size ≠ z.size) ∨ (fb = true ∧ a.size = 0)) := fun h2 => by rw [badRow_iff.2 h2] at h; cases h
  refine ⟨?_, ?_, fun hf => ⟨?_, ?_⟩, hc⟩
  · rw [e]; exact Nat.le_of_not_lt fun h => h' (.inl h)
  · rw [e, hz]; exact Nat.le_of_not_lt fun h => h' (.inr (.inl h))
  · rw [e, hz]; exact Classical.byContradiction fun h => h' (.inr (.inr (.inl ⟨hf, h⟩)))
  · rw [e]; exact fun h => h' (.inr (.inr (.inr ⟨hf, h⟩)))
/-- what 'begins' answers -/
def BegP (P : List (List UInt8)) (may whole : Bool) : Prop := (may = true ↔ MayP P) ∧ (whole = true ↔ MayP P ∧ WholeP P)
theorem beg_no {P : List (List UInt8)} (h : ¬ MayP P) : BegP P false false := ⟨by simp [h], by simp [h]⟩
theorem beg_may {P : List (List UInt8)} (h : MayP P) (hn : P.length < 3) : BegP P true false := ⟨by simp [h], by
  have : ¬ WholeP P := fun h2 => by have := h2.1; omega
  simp [this]⟩
end Go.Proofs.YtcdfeaodfmfdnaaGreatDoor
