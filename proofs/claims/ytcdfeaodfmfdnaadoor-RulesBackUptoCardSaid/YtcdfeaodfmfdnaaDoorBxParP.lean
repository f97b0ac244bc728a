/- gameref.Parsed: its plain steps, and what stays while it reads. -/
import Derived.Test.YtcdfeaodfmfdnaaDoorBxSplit
import Derived.Test.YtcdfeaodfmfdnaaDoorBxText
namespace Go.Proofs.YtcdfeaodfmfdnaaDoor
open Go.RowKit

theorem joinL_le {c : UInt8} {m : Nat} : ∀ {xs : List (List UInt8)}, (∀ a ∈ xs, a.length ≤ m) → (joinL c xs).length ≤ xs.length * (m + 1)
  | [], _ => by simp [joinL]
  | [b], h => by have := h b (by simp); simp [joinL]; omega
  | b :: d :: l, h => by
    have ih := joinL_le (c := c) (xs := d :: l) (fun a ha => h a (List.mem_cons_of_mem _ ha))
    have hb := h b List.mem_cons_self
    rw [joinL_cons (by simp)]
    simp only [List.length_append, List.length_cons] at ih ⊢
    rw [Nat.add_mul, Nat.one_mul]
    omega
theorem rowsJ {rs : List (List UInt8)} (h8 : rs.length ≤ 8) (hw : ∀ a ∈ rs, a.length ≤ 8) : (joinL 47 rs).length ≤ 72 := by
  have := joinL_le (c := 47) hw
  omega
theorem RowsOkL.le8 {rs : List (List UInt8)} (h : RowsOkL rs) : ∀ a ∈ rs, a.length ≤ 8 := fun a ha => by rw [h.wd a ha]; exact h.w8
theorem dash_le {l : List UInt8} (h : HandOk l) : (dashL l).length ≤ 8 := by
  unfold dashL
  split
  · simp
  · exact h.1
theorem two_le {a b : List UInt8} (ha : a.length ≤ 8) (hb : b.length ≤ 8) : (joinL 47 [a, b]).length ≤ 18 := by
  simp [joinL]; omega
theorem colL_len (t : Bool) : (colL t).length = 1 := by cases t <;> rfl
theorem parts_le {st : BSt} (h : WfB st) : ∀ a ∈ partsB st, a.length ≤ 100 := by
  intro a ha
  cases st with
  | rows rs cur =>
    simp only [partsB, List.mem_singleton] at ha
    subst ha
    have := rowsJ (rs := rs ++ [cur]) (by have := h.2.1; simp; omega) (fun a ha => by
      rcases List.mem_append.1 ha with h1 | h1
      · exact h.1.le8 a h1
      · rw [List.mem_singleton.1 h1]; exact h.2.2.2.1)
    omega
  | turn rs =>
    have := rowsJ h.1.len h.1.le8
    simp only [partsB, List.mem_cons, List.not_mem_nil, or_false] at ha
    rcases ha with rfl | rfl
    · omega
    · simp
  | turned rs t =>
    have := rowsJ h.1.len h.1.le8
    simp only [partsB, List.mem_cons, List.not_mem_nil, or_false] at ha
    rcases ha with rfl | rfl
    · omega
    · rw [colL_len]; omega
  | hand0 rs t hh =>
    have := rowsJ h.1.1.len h.1.1.le8
    have h8 := h.2.1
    simp only [partsB, List.mem_cons, List.not_mem_nil, or_false] at ha
    rcases ha with rfl | rfl | rfl
    · omega
    · rw [colL_len]; omega
    · omega
  | dash0 rs t =>
    have := rowsJ h.1.len h.1.le8
    simp only [partsB, List.mem_cons, List.not_mem_nil, or_false] at ha
    rcases ha with rfl | rfl | rfl
    · omega
    · rw [colL_len]; omega
    · simp
  | hand1 rs t h0 hh =>
    have := rowsJ h.1.1.len h.1.1.le8
    have h2 := two_le (dash_le h.2.1) h.2.2.1
    simp only [partsB, List.mem_cons, List.not_mem_nil, or_false] at ha
    rcases ha with rfl | rfl | rfl
    · omega
    · rw [colL_len]; omega
    · omega
  | dash1 rs t h0 =>
    have := rowsJ h.1.1.len h.1.1.le8
    have h2 := two_le (a := dashL h0) (b := [45]) (dash_le h.2) (by simp)
    simp only [partsB, List.mem_cons, List.not_mem_nil, or_false] at ha
    rcases ha with rfl | rfl | rfl
    · omega
    · rw [colL_len]; omega
    · omega
theorem parts_len (st : BSt) : (partsB st).length ≤ 3 := by cases st <;> simp [partsB]
theorem run_len {l : List UInt8} {st : BSt} (h : runB l = some st) : l.length ≤ 400 := by
  obtain ⟨hw, hp⟩ := run_wf l st h
  have h1 := joinL_le (c := 32) (parts_le hw)
  rw [← hp, join_split] at h1
  have h2 := parts_len st
  rw [← hp] at h2
  omega
theorem may_take {l : List UInt8} {i : Nat} {st : BSt} {c : UInt8} (h : runB (l.take i) = some st) (hc : l[i]? = some c) : MayP (splitL 32 (l.take (i + 1))) ↔ (stepB st c).isSome = true := by
  obtain ⟨hi, e⟩ := List.getElem?_eq_some_iff.1 hc
  rw [List.take_succ_eq_append_getElem hi, e]
  exact may_run h c
theorem may_whole {l : List UInt8} {st : BSt} (h : runB l = some st) (ha : accB st = true) : MayP (splitL 32 l) := by
  cases l using snoc_ind with
  | h0 => simp [runB] at h; subst h; simp [accB] at ha
  | h1 l c _ =>
    rw [runB_snoc] at h
    obtain ⟨s0, h0, h1⟩ := Option.bind_eq_some_iff.1 h
    exact (may_run h0 c).2 (by rw [h1]; rfl)
theorem bytes_cat (a b : List UInt8) : bytes a ++ bytes b = bytes (a ++ b) := by
  apply bytes_eq
  show (bytes a ++ bytes b).data.toList = a ++ b
  simp [bytes]
/-- the rows from the last one on, k of them -/
def catR (R : List (List UInt8)) (k : Nat) : List UInt8 := (R.reverse.take k).flatten
theorem catR_zero (R : List (List UInt8)) : catR R 0 = [] := rfl
theorem catR_succ {R : List (List UInt8)} {k : Nat} (hk : k < R.length) : catR R (k + 1) = catR R k ++ R.getD (R.length - 1 - k) [] := by
  unfold catR
  rw [List.take_succ_eq_append_getElem (by simpa using hk), List.flatten_append, List.getElem_reverse, List.getD, List.getElem?_eq_getElem (by omega)]
  simp
theorem catR_all (R : List (List UInt8)) : catR R R.length = R.reverse.flatten := by
  unfold catR
  rw [List.take_of_length_le (by simp)]
theorem flat_le {m : Nat} : ∀ {xs : List (List UInt8)}, (∀ a ∈ xs, a.length ≤ m) → xs.flatten.length ≤ xs.length * m
  | [], _ => by simp
  | a :: l, h => by
    have ih := flat_le (xs := l) (fun x hx => h x (List.mem_cons_of_mem _ hx))
    have := h a List.mem_cons_self
    simp only [List.flatten_cons, List.length_append, List.length_cons, Nat.add_mul, Nat.one_mul]
    omega
theorem catR_len {R : List (List UInt8)} {k : Nat} (h8 : R.length ≤ 8) (h : ∀ a ∈ R, a.length ≤ 400) : (catR R k).length ≤ 3200 := by
  have h1 := flat_le (xs := R.reverse.take k) (m := 400) (fun a ha => h a (by simpa using List.mem_of_mem_take ha))
  have h2 : (R.reverse.take k).length ≤ 8 := by simp; omega
  unfold catR
  omega
/-- what stays while Parsed reads -/
structure PW (W w : World) : Prop where
  o : Only (fun _ => False) W w
  m : MaxAt w
  z : Blk w W.heap.size 24 #[.int .i64 0, .int .i64 0, .string ⟨#[]⟩, .int .i64 0, .string ⟨#[]⟩, .string ⟨#[]⟩]
  f : Blk w (W.heap.size + 1) 29 #[.int .i64 0, .int .i64 0]
  sz : W.heap.size + 2 ≤ w.heap.size
  m0 : 2 < W.heap.size
theorem MaxAt.only' {S : Nat → Prop} {w w' : World} (h : MaxAt w) (ho : Only S w w') (h2 : ¬ S 2) : MaxAt w' := by
  have hl := h.lt
  obtain ⟨m, h⟩ := h
  have h1 := ho.block 2 hl h2
  refine ⟨m, ?_⟩
  rw [← h]
  simp only [World.cell?, h1]
theorem PW.step {S : Nat → Prop} {W w w' : World} (h : PW W w) (ho : Only S w w') (hS : ∀ x, S x → W.heap.size + 2 ≤ x) : PW W w' :=
  ⟨h.o.trans' ho (fun i hi hs => by have := hS i hs; omega), h.m.only' ho (fun hs => by have := hS 2 hs; have := h.m0; omega), h.z.only ho (fun hs => by have := hS _ hs; omega), h.f.only ho (fun hs => by have := hS _ hs; omega), Nat.le_trans h.sz ho.size, h.m0⟩
theorem PW.no {W w w' : World} (h : PW W w) (ho : Only (fun _ => False) w w') : PW W w' := h.step ho (fun _ h => h.elim)
end Go.Proofs.YtcdfeaodfmfdnaaDoor
