/- Cutting a text at each instance of one byte, plainly. Nothing of the program. Texts of positions, plainly: a reader, byte by byte; what the document asks of a beginning. A position as a text, plainly. The reader of a position's text: its rows, walked. rules.number: what it says of a text; what the library's own variables hold. strings.Builder of this program: WriteString and WriteByte, walked. gameref.Parsed: its plain steps, and what stays while it reads. -/
import Derived.Lib.SplitLaws
import Derived.Lib.IndexBytes
import Derived.Test.YtcdfeaodfmfdnaaGreatDoorPlPlainM
import Derived.Test.YtcdfeaodfmfdnaaGreatDoorPlBoardHand
import Derived.Test.YtcdfeaodfmfdnaaGreatDoorPlRuM
import Derived.Deep.CutRange
import Derived.Test.YtcdfeaodfmfdnaaGreatDoorPlApM
import Derived.Deep.RegionHeld
import Derived.Test.YtcdfeaodfmfdnaaGreatDoorBxShelf
import Derived.Test.YtcdfeaodfmfdnaaGreatDoorPlRuChkM
import Derived.Test.YtcdfeaodfmfdnaaGreatDoorRxShelf
import Derived.Lib.SmallJoins
import Derived.Lib.AppendIntMem
import Derived.Lib.OthersKept
import Derived.Lib.FrozenHead2
import Derived.Shelf.Strings.Builder1
namespace Go.Proofs.YtcdfeaodfmfdnaaGreatDoor

/-- pieces with c between them -/
def joinL (c : UInt8) : List (List UInt8) → List UInt8
  | [] => []
  | [a] => a
  | a :: b :: l => a ++ c :: joinL c (b :: l)
theorem joinL_cons {c : UInt8} {a : List UInt8} {l : List (List UInt8)} (h : l ≠ []) : joinL c (a :: l) = a ++ c :: joinL c l := by
  cases l with
  | nil => exact absurd rfl h
  | cons b l => rfl
end Go.Proofs.YtcdfeaodfmfdnaaGreatDoor
namespace Go.Proofs.YtcdfeaodfmfdnaaGreatDoor

def dashL (h : List UInt8) : List UInt8 := if h = [] then [45] else h
end Go.Proofs.YtcdfeaodfmfdnaaGreatDoor
namespace Go.Proofs.YtcdfeaodfmfdnaaGreatDoor

/-- row y of cells -/
def rowL (cells : List UInt8) (w y : Nat) : List UInt8 := (cells.drop (y * w)).take w
/-- the first k rows, the top one first -/
def topL (cells : List UInt8) (w h k : Nat) : List (List UInt8) := (List.range k).map fun i => rowL cells w (h - 1 - i)
theorem topL_succ (cells : List UInt8) (w h k : Nat) : topL cells w h (k + 1) = topL cells w h k ++ [rowL cells w (h - 1 - k)] := by
  simp [topL, List.range_succ]
theorem topL_len (cells : List UInt8) (w h k : Nat) : (topL cells w h k).length = k := by simp [topL]
theorem joinL_snoc {c : UInt8} : ∀ {l : List (List UInt8)} {a : List UInt8}, l ≠ [] → joinL c (l ++ [a]) = joinL c l ++ c :: a
  | [], _, h => absurd rfl h
  | [b], a, _ => rfl
  | b :: d :: l, a, _ => by
    have h1 : (d :: l : List (List UInt8)) ≠ [] := by simp
    have h2 : (d :: l) ++ [a] ≠ [] := by simp
    rw [List.cons_append, joinL_cons h2, joinL_cons h1, joinL_snoc h1]
    simp
def joinK (cells : List UInt8) (w h k : Nat) : List UInt8 := joinL 47 (topL cells w h k)
theorem joinK_one (cells : List UInt8) (w h : Nat) : joinK cells w h 1 = rowL cells w (h - 1) := by
  simp [joinK, topL, joinL, List.range_succ]
theorem joinK_succ (cells : List UInt8) (w h k : Nat) (hk : 0 < k) : joinK cells w h (k + 1) = joinK cells w h k ++ 47 :: rowL cells w (h - 1 - k) := by
  unfold joinK
  rw [topL_succ, joinL_snoc]
  intro e
  have := topL_len cells w h k
  rw [e] at this
  simp at this
  omega
/-- the text of a position -/
def textL (p : Pos) : List UInt8 := joinK p.cells.data.toList p.w.toNat p.h.toNat p.h.toNat ++ ((if p.turn = 0 then [32, 119, 32] else [32, 98, 32]) ++ (dashL p.h0.data.toList ++ 47 :: dashL p.h1.data.toList))
theorem rowL_len {cells : List UInt8} {w h y : Nat} (hl : cells.length = w * h) (hy : y < h) : (rowL cells w y).length = w := by
  unfold rowL
  rw [List.length_take, List.length_drop, hl]
  have := Nat.mul_le_mul_left w (show y + 1 ≤ h by omega)
  rw [Nat.mul_add, Nat.mul_one, Nat.mul_comm w y] at this
  omega
theorem joinL_len {c : UInt8} {w : Nat} : ∀ {l : List (List UInt8)}, (∀ a ∈ l, a.length = w) → l ≠ [] → (joinL c l).length + 1 = l.length * (w + 1)
  | [], _, h => absurd rfl h
  | [a], h, _ => by simp [joinL, h a]
  | a :: b :: l, h, _ => by
    rw [joinL_cons (by simp)]
    have ih := joinL_len (c := c) (l := b :: l) (fun x hx => h x (List.mem_cons_of_mem _ hx)) (by simp)
    simp only [List.length_append, List.length_cons] at ih ⊢
    rw [h a List.mem_cons_self, Nat.add_mul, Nat.one_mul, ← ih]
    omega
theorem joinK_len {cells : List UInt8} {w h k : Nat} (hl : cells.length = w * h) (hk : k ≤ h) (h8 : h ≤ 8) (w8 : w ≤ 8) : (joinK cells w h k).length ≤ 72 := by
  by_cases e : k = 0
  · subst e; simp [joinK, topL, joinL]
  · have := joinL_len (c := 47) (w := w) (l := topL cells w h k) (fun a ha => by
      obtain ⟨i, hi, rfl⟩ := List.mem_map.1 ha
      exact rowL_len hl (by have := List.mem_range.1 hi; omega)) (fun e2 => by
      have := topL_len cells w h k
      rw [e2] at this
      simp at this
      omega)
    rw [topL_len] at this
    unfold joinK
    have h1 := Nat.mul_le_mul (show k ≤ 8 by omega) (show w + 1 ≤ 9 by omega)
    omega
end Go.Proofs.YtcdfeaodfmfdnaaGreatDoor
namespace Go.Proofs.YtcdfeaodfmfdnaaGreatDoor
open Go.RowKit

theorem size_bytes (l : List UInt8) : (bytes l).size = l.length := by simp [bytes, ByteArray.size]
end Go.Proofs.YtcdfeaodfmfdnaaGreatDoor
namespace Go.Proofs.YtcdfeaodfmfdnaaGreatDoor
open Go.RowKit

theorem cell_lt_ {w : World} {a : Addr} {v : Value} (h : w.cell? a = some v) : a.block < w.heap.size := by
  rcases Nat.lt_or_ge a.block w.heap.size with h' | h'
  · exact h'
  · simp [World.cell?, Array.getElem?_eq_none h'] at h
end Go.Proofs.YtcdfeaodfmfdnaaGreatDoor
namespace Go.Proofs.YtcdfeaodfmfdnaaGreatDoor
open Go.RowKit

abbrev BF (B b : Nat) (l : List UInt8) (w : World) : Prop := Lib.IsBuilderF 119 5 B b (Lib.byteCells l) w
theorem info_byte : (Tryz.prog.info? 5).map (fun i => (i.zero, i.size, i.bytes)) = some (some (.int .u8 0), 1, 1) := by kernel_rfl
theorem size_builder : (Tryz.prog.info? 119).map (·.size) = some 2 := by kernel_rfl
theorem lies_builder : liesAt Tryz.prog Tryz.prog.depth 119 (2 / Tryz.prog.cellsOf 119) 0 119 1 = true := by kernel_rfl
set_option maxHeartbeats 1000000 in
set_option maxRecDepth 100000 in
theorem copy_used (b : Nat) (w : World) (h0 : w.cell? ⟨b, 0, none⟩ = some (.pointer (some ⟨b, 0, none⟩))) :
    Calls Tryz.prog 107 #[.pointer (some ⟨b, 0, none⟩)] w fun e w' => e = .returned (.tuple #[]) ∧ w' = w := by
  obtain ⟨j, hj, _⟩ := Option.map_eq_some_iff.1 size_builder
  go_enter Tryz.func107, Tryz.ntmps107
  go_wp2
  rw [Lib.run_neq_ptr_same w _ Tryz.underlying117 hj]
  go_wp2
  go_end0
  exact ⟨rfl, rfl⟩
set_option maxHeartbeats 1000000 in
set_option maxRecDepth 100000 in
theorem copy_fresh (b : Nat) (w : World) (h0 : w.cell? ⟨b, 0, none⟩ = some (.pointer none)) (hsh : w.shape? b = some (119, 2)) (hfz : w.frozen? ⟨b, 0, none⟩ = false) :
    Calls Tryz.prog 107 #[.pointer (some ⟨b, 0, none⟩)] w fun e w' => e = .returned (.tuple #[]) ∧ w' = w.setCell ⟨b, 0, none⟩ (.pointer (some ⟨b, 0, none⟩)) := by
  obtain ⟨j, hj, hjs⟩ := Option.map_eq_some_iff.1 size_builder
  go_enter Tryz.func107, Tryz.ntmps107
  go_wp2
  rw [Lib.run_to_unsafe w ⟨b, 0, none⟩ Tryz.underlying117 Tryz.underlying197 hj (by rw [hjs]; decide) hsh (Nat.zero_lt_succ 1)]
  simp only [Result.andThen]
  rw [Oper.upon_value]
  go_wp2
  rw [run_callFunc_extern Tryz.func136 (by kernel_rfl) (by kernel_rfl) (by kernel_rfl) (e := Extern.AbiNoEscape.same) (by kernel_rfl)]
  rw [Lib.run_noEscape]
  simp only [Result.andThen]
  rw [Oper.upon_value]
  go_wp2
  rw [Lib.run_from_unsafe w ⟨b, 0, none⟩ Tryz.underlying197 Tryz.underlying117 hj hsh lies_builder]
  simp only [Result.andThen]
  rw [Oper.upon_value]
  go_wp2
  go_end0
  exact ⟨rfl, rfl⟩
theorem copy_any (B b : Nat) (l : List UInt8) (w : World) (h : BF B b l w) :
    Calls Tryz.prog 107 #[.pointer (some ⟨b, 0, none⟩)] w fun e w' => e = .returned (.tuple #[]) ∧ (Lib.BuilderAtF 119 5 B b (.pointer (some ⟨b, 0, none⟩)) (Lib.byteCells l) w' ∧ Below B w w') := by
  rcases h with h | h
  · refine (copy_fresh b w h.cell0 h.shape h.frozen0).mono ?_
    rintro e w' ⟨rfl, rfl⟩
    exact ⟨rfl, h.used _, (Below.refl B w).setCell (p := ⟨b, 0, none⟩) h.1 _⟩
  · refine (copy_used b w h.cell0).mono ?_
    rintro e w' ⟨rfl, rfl⟩
    exact ⟨rfl, h, Below.refl B _⟩
set_option maxHeartbeats 2000000 in
set_option maxRecDepth 100000 in
theorem wstr_any (B b : Nat) (l : List UInt8) (s : ByteArray) (w : World) (h : BF B b l w) (hlen : l.length + s.size ≤ 140737488355328) (hBw : B ≤ w.heap.size) :
    Calls Tryz.prog 62 #[.pointer (some ⟨b, 0, none⟩), .string s] w fun e w' => e = .returned (.tuple #[.int .i64 s.size, .nilIface]) ∧ BF B b (l ++ s.data.toList) w' ∧ Below B w w' := by
  obtain ⟨i0, hi, hz0, hz1, hz2⟩ := info_parts info_byte
  go_enter Tryz.func62, Tryz.ntmps62
  go_wp2_with (go_at_call 107; refine (copy_any B b l _ h).mono ?_)
  rintro e w1 ⟨rfl, h1, hb1⟩
  obtain ⟨hB, v, hbk, hown, hne⟩ := h1
  rw [Lib.byteCells_length] at hown
  have c0 : w1.cell? ⟨b, 0, none⟩ = some (.pointer (some ⟨b, 0, none⟩)) := by rw [Lib.cell_of_heap hbk]; rfl
  have c1 : w1.cell? ⟨b, 1, none⟩ = some v := by rw [Lib.cell_of_heap hbk]; rfl
  go_wp2_with (at_builtin; refine Lib.wpList_append_own_stringF _ rfl _ _ 96 9 rfl B 5 i0 Tryz.underlying96 Tryz.underlying9 hi hz0 hz1 hz2 _ _ _ rfl hown s rfl ?c3 ?c4 ?c5 ?_)
  case c3 => unfold maxLen; omega
  case c4 => omega
  case c5 => have := hb1.size; omega
  intro v' w2 hown' hgrow _
  have hlt : b < w1.heap.size := by
    rcases Nat.lt_or_ge b w1.heap.size with h' | h'
    · exact h'
    · simp [Array.getElem?_eq_none h'] at hbk
  have hb2 : w2.heap[b]? = some (.cells #[.pointer (some ⟨b, 0, none⟩), v] 119 (0, 0)) := by
    rw [hgrow.block b hlt (fun e => hne e.symm)]
    exact hbk
  have d0 : w2.cell? ⟨b, 0, none⟩ = some (.pointer (some ⟨b, 0, none⟩)) := by rw [Lib.cell_of_heap hb2]; rfl
  have d1 : w2.cell? ⟨b, 1, none⟩ = some v := by rw [Lib.cell_of_heap hb2]; rfl
  have f1 : w2.frozen? ⟨b, 1, none⟩ = false := Lib.frozen_of_heap hb2 1
  obtain ⟨ao, n', cap, rfl⟩ : ∃ ao n' cap, v' = .slice ao n' cap := by
    rcases hown'.2 with ⟨hv, _⟩ | ⟨g, cap, cur, fz, hv, _⟩
    · exact ⟨_, _, _, hv⟩
    · exact ⟨_, _, _, hv⟩
  go_wp2
  go_ret2
  refine ⟨rfl, ?_, ?_⟩
  · rw [show BF B b (l ++ s.data.toList) = Lib.IsBuilderF 119 5 B b (Lib.byteCells (l ++ s.data.toList)) from rfl, Lib.byteCells_append, ← Lib.strCells_eq]
    exact .inr (Lib.BuilderAtF.put (T := 119) (e := 5) hB hb2 (by simpa [Lib.strCells_length, Lib.byteCells_length] using hown') (by decide))
  · exact (hb1.grown hgrow (by have := hb1.size; omega) (fun k hk => (hown.lt k hk).1)).setCell (p := ⟨b, 1, none⟩) hB _
set_option maxHeartbeats 2000000 in
set_option maxRecDepth 100000 in
theorem wbyte_any (B b : Nat) (l : List UInt8) (c : UInt8) (ci : Int) (hci : ci = (c.toNat : Int)) (w : World) (h : BF B b l w) (hlen : l.length + 1 ≤ 140737488355328) (hBw : B ≤ w.heap.size) :
    Calls Tryz.prog 68 #[.pointer (some ⟨b, 0, none⟩), .int .u8 ci] w fun e w' => e = .returned .nilIface ∧ BF B b (l ++ [c]) w' ∧ Below B w w' := by
  subst hci
  obtain ⟨i0, hi, hz0, hz1, hz2⟩ := info_parts info_byte
  go_enter Tryz.func68, Tryz.ntmps68
  go_wp2_with (go_at_call 107; refine (copy_any B b l _ h).mono ?_)
  rintro e w1 ⟨rfl, h1, hb1⟩
  obtain ⟨hB, v, hbk, hown, hne⟩ := h1
  rw [Lib.byteCells_length] at hown
  have c0 : w1.cell? ⟨b, 0, none⟩ = some (.pointer (some ⟨b, 0, none⟩)) := by rw [Lib.cell_of_heap hbk]; rfl
  have c1 : w1.cell? ⟨b, 1, none⟩ = some v := by rw [Lib.cell_of_heap hbk]; rfl
  go_wp2_with (at_builtin; refine wpList_append_ownF _ rfl _ _ 96 rfl B 5 i0 (.int .u8 0) 1 1 Tryz.underlying96 hi hz0 hz1 hz2 rfl (by decide) _ _ _ rfl (hown.alloc _) ⟨w1.heap.size, 0, none⟩ 1 1 [.int .u8 (c.toNat : Int)] rfl rfl ?c1 ?c2 ?c3 ?c4 ?c5 ?_)
  case c1 =>
    intro j u hj
    match j, hj with
    | 0, hj => simp at hj; subst hj; simp [Addr.add]
  case c2 => intro u hu; simp at hu; subst hu; rfl
  case c3 => unfold maxLen; omega
  case c4 => omega
  case c5 => have := hb1.size; simp; omega
  intro v' w2 hown' hgrow _
  have hlt : b < w1.heap.size := by
    rcases Nat.lt_or_ge b w1.heap.size with h' | h'
    · exact h'
    · simp [Array.getElem?_eq_none h'] at hbk
  have hb2 : w2.heap[b]? = some (.cells #[.pointer (some ⟨b, 0, none⟩), v] 119 (0, 0)) := by
    rw [hgrow.block b (by simp; omega) (fun e => hne e.symm), Lib.alloc_old w1 _ b hlt]
    exact hbk
  have d0 : w2.cell? ⟨b, 0, none⟩ = some (.pointer (some ⟨b, 0, none⟩)) := by rw [Lib.cell_of_heap hb2]; rfl
  have d1 : w2.cell? ⟨b, 1, none⟩ = some v := by rw [Lib.cell_of_heap hb2]; rfl
  have f1 : w2.frozen? ⟨b, 1, none⟩ = false := Lib.frozen_of_heap hb2 1
  obtain ⟨g, cap, rfl⟩ : ∃ g cap, v' = .slice (some ⟨g, 0, none⟩) (l.length + 1) cap := by
    rcases hown'.2 with ⟨_, h0⟩ | ⟨g, cap, cur, fz, hv, _⟩
    · omega
    · exact ⟨g, cap, hv⟩
  go_wp2
  go_ret
  refine ⟨rfl, ?_, ?_⟩
  · rw [show BF B b (l ++ [c]) = Lib.IsBuilderF 119 5 B b (Lib.byteCells (l ++ [c])) from rfl, Lib.byteCells_append]
    exact .inr (Lib.BuilderAtF.put (T := 119) (e := 5) hB hb2 (by rw [show Lib.byteCells [c] = [.int .u8 (c.toNat : Int)] from rfl]; simpa [Lib.byteCells_length] using hown') (by decide))
  · exact ((hb1.alloc (by have := hb1.size; omega) _).grown hgrow (by have := hb1.size; simp; omega) (fun k hk => (hown.lt k hk).1)).setCell (p := ⟨b, 1, none⟩) hB _
end Go.Proofs.YtcdfeaodfmfdnaaGreatDoor
namespace Go.Proofs.YtcdfeaodfmfdnaaGreatDoor
open Go.RowKit

theorem bytes_cat (a b : List UInt8) : bytes a ++ bytes b = bytes (a ++ b) := by
  apply bytes_eq
  show (bytes a ++ bytes b).data.toList = a ++ b
  simp [bytes]
end Go.Proofs.YtcdfeaodfmfdnaaGreatDoor
