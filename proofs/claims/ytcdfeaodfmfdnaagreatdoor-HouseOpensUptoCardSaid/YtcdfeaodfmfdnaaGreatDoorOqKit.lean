/- What the texts before it do not hold of what houses that are opened again want. -/
import Derived.Test.YtcdfeaodfmfdnaaGreatDoorPlApM
import Derived.Test.YtcdfeaodfmfdnaaGreatDoorPlBase
import Derived.Test.YtcdfeaodfmfdnaaGreatDoorPlBoardHand
import Derived.Test.YtcdfeaodfmfdnaaGreatDoorPlBxM
import Derived.Test.YtcdfeaodfmfdnaaGreatDoorPlBxWM
import Derived.Test.YtcdfeaodfmfdnaaGreatDoorPlHoBM
import Derived.Test.YtcdfeaodfmfdnaaGreatDoorPlHoM2
import Derived.Test.YtcdfeaodfmfdnaaGreatDoorPlHoNew
import Derived.Test.YtcdfeaodfmfdnaaGreatDoorPlHoOut
import Derived.Test.YtcdfeaodfmfdnaaGreatDoorPlHoSave
import Derived.Test.YtcdfeaodfmfdnaaGreatDoorPlHoTake
import Derived.Test.YtcdfeaodfmfdnaaGreatDoorPlHoTk
import Derived.Test.YtcdfeaodfmfdnaaGreatDoorPlHoTk2
import Derived.Test.YtcdfeaodfmfdnaaGreatDoorPlHoTk3
import Derived.Test.YtcdfeaodfmfdnaaGreatDoorPlHrLoop
import Derived.Test.YtcdfeaodfmfdnaaGreatDoorPlHrM
import Derived.Test.YtcdfeaodfmfdnaaGreatDoorPlHrTake
import Derived.Test.YtcdfeaodfmfdnaaGreatDoorPlMgMake
import Derived.Test.YtcdfeaodfmfdnaaGreatDoorPlMgTop
import Derived.Test.YtcdfeaodfmfdnaaGreatDoorPlMtText
import Derived.Test.YtcdfeaodfmfdnaaGreatDoorPlMvAll
import Derived.Test.YtcdfeaodfmfdnaaGreatDoorPlMvDirs
import Derived.Test.YtcdfeaodfmfdnaaGreatDoorPlMvEnds
import Derived.Test.YtcdfeaodfmfdnaaGreatDoorPlMvEvery
import Derived.Test.YtcdfeaodfmfdnaaGreatDoorPlMvGoes
import Derived.Test.YtcdfeaodfmfdnaaGreatDoorPlMvLetM
import Derived.Test.YtcdfeaodfmfdnaaGreatDoorPlMvOut
import Derived.Test.YtcdfeaodfmfdnaaGreatDoorPlMvRGoes
import Derived.Test.YtcdfeaodfmfdnaaGreatDoorPlMvSortM
import Derived.Test.YtcdfeaodfmfdnaaGreatDoorPlMvSt
import Derived.Test.YtcdfeaodfmfdnaaGreatDoorPlMvText
import Derived.Test.YtcdfeaodfmfdnaaGreatDoorPlOpenM
import Derived.Test.YtcdfeaodfmfdnaaGreatDoorPlPcsMem
import Derived.Test.YtcdfeaodfmfdnaaGreatDoorPlPlainM
import Derived.Test.YtcdfeaodfmfdnaaGreatDoorPlRuChkM
import Derived.Test.YtcdfeaodfmfdnaaGreatDoorPlRuM
import Derived.Test.YtcdfeaodfmfdnaaGreatDoorPlRuRules2
import Derived.Test.YtcdfeaodfmfdnaaGreatDoorPlTk
import Derived.Test.YtcdfeaodfmfdnaaGreatDoorPlTxM
import Derived.Lib.SplitLaws
import Derived.Lib.IndexBytes
import Derived.Lib.SmallJoins
import Derived.Lib.AppendIntMem
import Derived.Test.YtcdfeaodfmfdnaaGreatDoorShelf
import Derived.Test.YtcdfeaodfmfdnaaGreatDoorBxShelf
import Derived.Test.YtcdfeaodfmfdnaaGreatDoorRxShelf
import Derived.Test.YtcdfeaodfmfdnaaGreatDoorGen
import Derived.Test.YtcdfeaodfmfdnaaGreatDoorSortM
namespace Go.Proofs.YtcdfeaodfmfdnaaGreatDoor

/-- the pieces of a list between the instances of c -/
def splitL (c : UInt8) : List UInt8 → List (List UInt8)
  | [] => [[]]
  | x :: l => if x = c then [] :: splitL c l else match splitL c l with
    | [] => [[x]]
    | y :: ys => (x :: y) :: ys
theorem splitL_ne (c : UInt8) : ∀ l, splitL c l ≠ []
  | [] => by simp [splitL]
  | x :: l => by
    unfold splitL
    split
    · simp
    · split <;> simp
theorem splitL_hit (c : UInt8) (l : List UInt8) : splitL c (c :: l) = [] :: splitL c l := by
  rw [splitL, if_pos rfl]
theorem splitL_miss {c x : UInt8} (h : x ≠ c) (l : List UInt8) : ∃ y ys, splitL c l = y :: ys ∧ splitL c (x :: l) = (x :: y) :: ys := by
  rw [splitL, if_neg h]
  cases e : splitL c l with
  | nil => exact absurd e (splitL_ne c l)
  | cons y ys => exact ⟨y, ys, rfl, rfl⟩
/-- a piece without c ahead of c -/
theorem splitL_app {c : UInt8} {a : List UInt8} (h : c ∉ a) (l : List UInt8) : splitL c (a ++ c :: l) = a :: splitL c l := by
  induction a with
  | nil => exact splitL_hit c l
  | cons x a ih =>
    have hx : x ≠ c := fun e => h (by rw [e]; exact List.mem_cons_self)
    have ha : c ∉ a := fun e => h (List.mem_cons_of_mem _ e)
    obtain ⟨y, ys, e1, e2⟩ := splitL_miss hx (a ++ c :: l)
    rw [ih ha] at e1
    injection e1 with e1 e3
    rw [List.cons_append, e2, ← e1, ← e3]
theorem splitL_none {c : UInt8} {a : List UInt8} (h : c ∉ a) : splitL c a = [a] := by
  induction a with
  | nil => rfl
  | cons x a ih =>
    have hx : x ≠ c := fun e => h (by rw [e]; exact List.mem_cons_self)
    have ha : c ∉ a := fun e => h (List.mem_cons_of_mem _ e)
    obtain ⟨y, ys, e1, e2⟩ := splitL_miss hx a
    rw [ih ha] at e1
    injection e1 with e1 e3
    rw [e2, ← e1, ← e3]
theorem join_split (c : UInt8) : ∀ l, joinL c (splitL c l) = l
  | [] => rfl
  | x :: l => by
    by_cases h : x = c
    · subst h
      rw [splitL_hit, joinL_cons (splitL_ne _ _), join_split x l]; rfl
    · obtain ⟨y, ys, e1, e2⟩ := splitL_miss h l
      have ih := join_split c l
      rw [e1] at ih
      rw [e2]
      cases ys with
      | nil => simp only [joinL] at ih ⊢; rw [ih]
      | cons z zs => rw [joinL_cons (by simp)] at ih ⊢; rw [← ih]; rfl
theorem split_nosep (c : UInt8) : ∀ l, ∀ a ∈ splitL c l, c ∉ a
  | [], a, ha => by simp [splitL] at ha; rw [ha]; simp
  | x :: l, a, ha => by
    by_cases h : x = c
    · subst h
      rw [splitL_hit] at ha
      rcases List.mem_cons.1 ha with rfl | ha
      · simp
      · exact split_nosep x l a ha
    · obtain ⟨y, ys, e1, e2⟩ := splitL_miss h l
      have ih := split_nosep c l
      rw [e1] at ih
      rw [e2] at ha
      rcases List.mem_cons.1 ha with rfl | ha
      · intro hc
        rcases List.mem_cons.1 hc with e | e
        · exact h e.symm
        · exact ih y List.mem_cons_self e
      · exact ih a (List.mem_cons_of_mem _ ha)
/-- what the library's words say of it -/
theorem splitK_one (c : UInt8) : ∀ (l : List UInt8) (k : Nat), l.count c = k → Go.Lib.splitK [c] 0 k l = splitL c l := by
  intro l
  induction h : l.length using Nat.strongRecOn generalizing l with
  | _ n ih =>
    intro k hk
    by_cases hc : c ∈ l
    · obtain ⟨a, b, rfl, ha⟩ := List.eq_append_cons_of_mem hc
      have hi : Go.Lib.index (a ++ c :: b) [c] = (a.length : Int) := by
        rw [Go.Lib.index_one]
        clear ih h hk hc
        induction a with
        | nil => simp [Go.Lib.indexByte]
        | cons x a iha =>
          have hx : x ≠ c := fun e => ha (by rw [e]; exact List.mem_cons_self)
          have h2 := iha (fun e => ha (List.mem_cons_of_mem _ e))
          rw [List.cons_append, Go.Lib.indexByte, if_neg (by simpa using hx), h2]
          rw [if_neg (by simp)]
          simp
      rw [List.count_append, List.count_eq_zero.2 ha, List.count_cons_self] at hk
      subst hk
      rw [show 0 + (List.count c b + 1) = List.count c b + 1 by omega, Go.Lib.splitK, if_neg (by rw [hi]; simp), hi, splitL_app ha]
      simp only [Int.toNat_natCast, Nat.add_zero, List.take_left', List.length_singleton]
      rw [show (a ++ c :: b).drop (a.length + 1) = b by rw [← List.drop_drop]; simp]
      rw [ih b.length (by rw [← h]; simp; omega) b rfl _ rfl]
    · rw [List.count_eq_zero.2 hc] at hk
      subst hk
      rw [splitL_none hc]; rfl
end Go.Proofs.YtcdfeaodfmfdnaaGreatDoor
namespace Go.Proofs.YtcdfeaodfmfdnaaGreatDoor
open Go.RowKit

/-- the library's own bound is a number -/
def MaxAt (w : World) : Prop := ∃ m, w.cell? ⟨2, 0, none⟩ = some (.int .i64 m)
theorem MaxAt.lt {w : World} (h : MaxAt w) : 2 < w.heap.size := by
  obtain ⟨m, h⟩ := h
  rcases Nat.lt_or_ge 2 w.heap.size with h' | h'
  · exact h'
  · simp [World.cell?, Array.getElem?_eq_none h'] at h
theorem MaxAt.only {w w' : World} (h : MaxAt w) (ho : Only (fun _ => False) w w') : MaxAt w' := by
  have hl := h.lt
  obtain ⟨m, h⟩ := h
  have h1 := ho.block 2 hl (fun h => h)
  refine ⟨m, ?_⟩
  rw [← h]
  simp only [World.cell?, h1]
def strL (a : List UInt8) : Value := .string (bytes a)
/-- a row of texts in block g -/
def RowsAt (w : World) (g : Nat) (xs : List (List UInt8)) : Prop := Blk w g 9 (xs.map strL).toArray
theorem RowsAt.cell {w : World} {g : Nat} {xs : List (List UInt8)} (h : RowsAt w g xs) {i : Nat} (hi : i < xs.length) : w.cell? ⟨g, i, none⟩ = some (.string (bytes xs[i])) :=
  Blk.cellv h (by simp [hi, strL])
theorem RowsAt.drewN {w : World} {g : Nat} {xs : List (List UInt8)} (h : RowsAt w g xs) (n : Nat) : RowsAt (w.drewN n) g xs := h
theorem joinL_mem {c : UInt8} : ∀ {xs : List (List UInt8)} {a : List UInt8}, a ∈ xs → a.length ≤ (joinL c xs).length
  | [], _, h => by cases h
  | [b], a, h => by
    obtain rfl := List.mem_singleton.1 h
    exact Nat.le_refl _
  | b :: d :: l, a, h => by
    rw [joinL_cons (by simp)]
    rcases List.mem_cons.1 h with rfl | h
    · simp
    · have := joinL_mem (c := c) h
      simp only [List.length_append, List.length_cons]
      omega
theorem splitL_mem {c : UInt8} {l a : List UInt8} (h : a ∈ splitL c l) : a.length ≤ l.length := by
  have := joinL_mem (c := c) h
  rwa [join_split] at this
theorem splitB_L (c : UInt8) (s : ByteArray) : Lib.splitB ⟨#[c]⟩ 0 (Lib.countB s ⟨#[c]⟩) s = (splitL c s.data.toList).map bytes := by
  have h := Lib.splitB_data ⟨#[c]⟩ 0 (Lib.countB s ⟨#[c]⟩) s
  have hc : Lib.countB s ⟨#[c]⟩ = s.data.toList.count c := Lib.count_one c _
  rw [show (⟨#[c]⟩ : ByteArray).data.toList = [c] from rfl, splitK_one c _ _ hc.symm] at h
  rw [← h, List.map_map]
  conv => lhs; rw [← List.map_id (Lib.splitB ⟨#[c]⟩ 0 (Lib.countB s ⟨#[c]⟩) s)]
  exact List.map_congr_left (fun a _ => by simp [bytes])
theorem split_any (c : UInt8) (s : ByteArray) (w : World) (hs : s.size < 4294967281) (hm : MaxAt w) :
    Calls Tryz.prog 33 #[.string s, .string ⟨#[c]⟩] w fun e w' => ∃ n, n = (splitL c s.data.toList).length ∧ e = .returned (.slice (some ⟨w.heap.size, 0, none⟩) n n) ∧ RowsAt w' w.heap.size (splitL c s.data.toList) ∧ Only (fun _ => False) w w' ∧ w'.heap.size = w.heap.size + 1 := by
  obtain ⟨m, hm⟩ := hm
  refine (Tryz.strings_Split s ⟨#[c]⟩ m w hs hm (show 1 ≤ (⟨#[c]⟩ : ByteArray).size from Nat.le_refl 1)).mono ?_
  rintro e w' ⟨rfl, rfl⟩
  have hl := Lib.splitB_all ⟨#[c]⟩ (show 1 ≤ (⟨#[c]⟩ : ByteArray).size from Nat.le_refl 1) 0 _ s rfl
  rw [splitB_L] at hl ⊢
  refine ⟨_, rfl, ?_, ?_, (Only.refl _ w).alloc _, World.size_alloc _ _⟩
  · rw [← hl, List.length_map]
  · have := Blk.new w 9 ((splitL c s.data.toList).map strL).toArray
    rw [List.map_map]
    exact this
/-- what stays while 'begins' reads -/
structure BegW (W : World) (P R : List (List UInt8)) (wr : World) : Prop where
  o : Only (fun _ => False) W wr
  m : MaxAt wr
  p : RowsAt wr W.heap.size P
  r : RowsAt wr (W.heap.size + 1) R
theorem BegW.drewN {W : World} {P R : List (List UInt8)} {wr : World} (h : BegW W P R wr) (n : Nat) : BegW W P R (wr.drewN n) := ⟨h.o.drewN n, h.m, h.p, h.r⟩
end Go.Proofs.YtcdfeaodfmfdnaaGreatDoor
namespace Go.Proofs.YtcdfeaodfmfdnaaGreatDoor
open Go.RowKit

theorem b_of_only {W w : World} (h : Only (fun _ => False) W w) : Below W.heap.size W w := ⟨h.os, h.tape, h.output, h.size, fun i hi => h.block i hi (fun h => h)⟩
theorem only_of_b {W w : World} (h : Below W.heap.size W w) : Only (fun _ => False) W w := ⟨h.os, h.tape, h.output, h.size, fun i hi _ => h.block i hi⟩
/-- what the library's own variables hold -/
structure Env (w : World) : Prop where
  m : MaxAt w
  es : ∃ ev, w.cell? ⟨3, 0, none⟩ = some ev ∧ (ev = .nilIface ∨ ∃ te pe, ev = .iface te pe)
  er : ∃ ev, w.cell? ⟨4, 0, none⟩ = some ev ∧ (ev = .nilIface ∨ ∃ te pe, ev = .iface te pe)
  tb : Lib.TabIs Tryz.prog w "internal/strconv.uint64pow10" .u64 Lib.pow10Tab
theorem cell_only {w w' : World} {a : Addr} {v : Value} (h : w.cell? a = some v) (ho : Only (fun _ => False) w w') : w'.cell? a = some v := by
  rw [← h]
  simp only [World.cell?, ho.block a.block (cell_lt_ h) (fun h => h)]
theorem Env.no {w w' : World} (h : Env w) (ho : Only (fun _ => False) w w') : Env w' := by
  obtain ⟨e1, h1, k1⟩ := h.es
  obtain ⟨e2, h2, k2⟩ := h.er
  exact ⟨h.m.only ho, ⟨e1, cell_only h1 ho, k1⟩, ⟨e2, cell_only h2 ho, k2⟩, Go.Joins.var_stays (g := 5) (by kernel_rfl) h.tb (b_of_only ho) (Nat.le_refl _)⟩
end Go.Proofs.YtcdfeaodfmfdnaaGreatDoor
namespace Go.Proofs.YtcdfeaodfmfdnaaGreatDoor
open Go.RowKit

theorem max_only {S : Nat → Prop} {w w' : World} (h : MaxAt w) (ho : Only S w w') (h2 : ¬ S 2) : MaxAt w' := by
  have hl := h.lt
  obtain ⟨m, h⟩ := h
  have h1 := ho.block 2 hl h2
  refine ⟨m, ?_⟩
  rw [← h]
  simp only [World.cell?, h1]
theorem Env.big {w : World} (h : Env w) : 5 < w.heap.size := by
  obtain ⟨e, h1, _⟩ := h.er
  have h2 := cell_lt_ (Lib.TabIs.cell (g := 5) h.tb (by kernel_rfl) 0 (by decide))
  have h3 := cell_lt_ h1
  simp only at h2 h3
  omega
theorem Env.step {S : Nat → Prop} {w w' : World} (h : Env w) (ho : Only S w w') (hS : ∀ i, S i → 5 < i) : Env w' := by
  obtain ⟨e1, h1, k1⟩ := h.es
  obtain ⟨e2, h2, k2⟩ := h.er
  have hc : ∀ {a : Addr} {v : Value}, a.block ≤ 5 → w.cell? a = some v → w'.cell? a = some v := fun {a v} ha hv => by
    rw [← hv]
    simp only [World.cell?, ho.block a.block (cell_lt_ hv) (fun hs => by have := hS _ hs; omega)]
  refine ⟨max_only h.m ho (fun hs => by have := hS _ hs; omega), ⟨e1, hc (by simp) h1, k1⟩, ⟨e2, hc (by simp) h2, k2⟩, ?_⟩
  have hbig := h.big
  have hb : Below 6 w w' := ⟨ho.os, ho.tape, ho.output, ho.size, fun i hi => ho.block i (by omega) (fun hs => by have := hS _ hs; omega)⟩
  exact var?_below (g := 5) hb (by kernel_rfl) (by omega) h.tb
end Go.Proofs.YtcdfeaodfmfdnaaGreatDoor
namespace Go.Proofs.YtcdfeaodfmfdnaaGreatDoor
open Go.RowKit

theorem HoAt.lt {w : World} {lo h B : Nat} {s : HoD} {v : Value} (ha : HoAt w lo h B s v) : h < w.heap.size := by
  obtain ⟨A, cp, ad, hb, _⟩ := ha
  exact hb.blk.lt
end Go.Proofs.YtcdfeaodfmfdnaaGreatDoor
namespace Go.Proofs.YtcdfeaodfmfdnaaGreatDoor
open Go.RowKit

theorem rep_kind (k p o : Int) (t : ByteArray) (w : World) : (Instr.field 59 (.agg #[.int .i64 k, .int .i64 p, .int .i64 o, .string t]) 0).run Tryz.prog w = .ok (.int .i64 k) w := by
  kernel_rfl
end Go.Proofs.YtcdfeaodfmfdnaaGreatDoor
