/- All moves, plain: as they are found, and by the cells: once sorted and without doubles they are the same. -/
import Derived.Test.YtcdfeaodfmfdnaaGreatDoorGoesEq
namespace Go.Proofs.YtcdfeaodfmfdnaaGreatDoor

structure Mv where
  f : Int
  t : Int
  c : Nat
theorem Mv.ext_ {a b : Mv} (h1 : a.f = b.f) (h2 : a.t = b.t) (h3 : a.c = b.c) : a = b := by
  cases a; cases b; simp only at h1 h2 h3; subst h1 h2 h3; rfl
def ltM (a b : Mv) : Prop := a.f < b.f ∨ (a.f = b.f ∧ (a.t < b.t ∨ (a.t = b.t ∧ a.c < b.c)))
theorem ltM_irrefl (a : Mv) : ¬ ltM a a := by unfold ltM; omega
theorem ltM_trans {a b c : Mv} (h : ltM a b) (k : ltM b c) : ltM a c := by unfold ltM at *; omega
theorem ltM_total {a b : Mv} (h : ¬ ltM a b) (k : ¬ ltM b a) : a = b := by
  unfold ltM at *
  exact Mv.ext_ (by omega) (by omega) (by omega)
/-- two strictly sorted lists of the same moves are the same -/
theorem sorted_ext : ∀ {l m : List Mv}, l.Pairwise ltM → m.Pairwise ltM → (∀ x, x ∈ l ↔ x ∈ m) → l = m
  | [], [], _, _, _ => rfl
  | [], b :: m, _, _, h => by have := (h b).2 (by simp); simp at this
  | a :: l, [], _, _, h => by have := (h a).1 (by simp); simp at this
  | a :: l, b :: m, hl, hm, h => by
    rw [List.pairwise_cons] at hl hm
    have hab : a = b := by
      rcases List.mem_cons.1 ((h a).1 (by simp)) with e | e
      · exact e
      · rcases List.mem_cons.1 ((h b).2 (by simp)) with e2 | e2
        · exact e2.symm
        · exact absurd (ltM_trans (hl.1 b e2) (hm.1 a e)) (ltM_irrefl a)
    subst hab
    rw [sorted_ext hl.2 hm.2 fun x => ?_]
    have hx := h x
    rw [List.mem_cons, List.mem_cons] at hx
    constructor
    · intro q
      rcases hx.1 (.inr q) with e | e
      · subst e; exact absurd (hl.1 x q) (ltM_irrefl x)
      · exact e
    · intro q
      rcases hx.2 (.inr q) with e | e
      · subst e; exact absurd (hm.1 x q) (ltM_irrefl x)
      · exact e

/-- whose a byte is -/
def ownN (c : Nat) : Int := if upB c then 0 else if lowB c then 1 else 2
def handOf (p : Pos) (pl : Int) : List UInt8 := if pl = 0 then p.h0.data.toList else p.h1.data.toList
def pieceAt (ps : List PieceD) (c : Nat) : Option PieceD := (pieceX ps c).bind fun i => ps[i]?

def allBoard (ps : List PieceD) (p : Pos) (a : Nat) : List Mv :=
  if mineB (cellN p a) p.turn then
    match pieceAt ps (cellN p a) with
    | none => []
    | some x => x.ways.flatMap fun w => (toL p w a).map fun (t : Nat) => ⟨a, t, x.letter⟩
  else []
def allDrop (drops : Bool) (p : Pos) (a : Nat) : List Mv :=
  (handOf p p.turn).flatMap fun c => if drops && cellN p a == 46 then [⟨-1, a, c.toNat⟩] else []
/-- as they are found -/
def allL (r : RulesD) (p : Pos) : List Mv :=
  (List.range p.cells.size).flatMap (allBoard r.pieces p) ++ (List.range p.cells.size).flatMap (allDrop r.drops p)

open Classical in
noncomputable def goesB (p : Pos) (w : WayD) (a t : Nat) : Bool := decide (GoesR p w a t)
def fitsR (turn take : Int) (c : Nat) : Bool := (ownN c == 2 && take != 1) || (ownN c == 1 - turn && take != 2)
noncomputable def canB (p : Pos) (ws : List WayD) (a t : Nat) : Bool := ws.any fun w => fitsR p.turn w.take (cellN p t) && (a != t) && goesB p w a t
/-- is it the first of its letter in the hand? -/
def freshB (l : List UInt8) (i : Nat) : Bool := i == 0 || l.getD i 0 != l.getD (i - 1) 0
noncomputable def everyDrop (p : Pos) (t : Nat) : List Mv :=
  (List.range (handOf p p.turn).length).flatMap fun i => if cellN p t == 46 && freshB (handOf p p.turn) i then [⟨-1, t, ((handOf p p.turn).getD i 0).toNat⟩] else []
noncomputable def everyBoard (ps : List PieceD) (p : Pos) (a : Nat) : List Mv :=
  if ownN (cellN p a) = p.turn then
    match pieceAt ps (cellN p a) with
    | none => []
    | some x => (List.range p.cells.size).flatMap fun t => if canB p x.ways a t then [⟨a, t, x.letter⟩] else []
  else []
/-- by the cells -/
noncomputable def everyL (r : RulesD) (p : Pos) : List Mv :=
  (if r.drops then (List.range p.cells.size).flatMap (everyDrop p) else []) ++ (List.range p.cells.size).flatMap (everyBoard r.pieces p)

theorem own_mine {c : Nat} {pl : Int} (h : pl = 0 ∨ pl = 1) : ownN c = pl ↔ mineB c pl = true := by
  unfold ownN mineB
  rcases h with rfl | rfl
  · rw [if_pos rfl]
    constructor
    · intro h; split at h
      · assumption
      · split at h <;> omega
    · intro h; rw [if_pos h]
  · rw [if_neg (show ¬ (1 : Int) = 0 by omega)]
    constructor
    · intro h
      by_cases hu : upB c = true
      · rw [if_pos hu] at h; omega
      · rw [if_neg hu] at h
        by_cases hl : lowB c = true
        · exact hl
        · rw [if_neg hl] at h; omega
    · intro h
      have h1 : 97 ≤ c ∧ c ≤ 122 := by simpa [lowB] using h
      have h2 : upB c = false := by simp [upB]; omega
      simp [h2, h]
theorem fits_same {turn take : Int} {c : Nat} (ht : turn = 0 ∨ turn = 1) (hc : cellB c = true) : fitsR turn take c = fitsT turn take c := by
  unfold fitsR fitsT
  have e1 : (ownN c == 2) = (c == 46) := by
    rw [Bool.eq_iff_iff]
    simp only [beq_iff_eq]
    unfold ownN
    have hc' : c = 46 ∨ upB c = true ∨ lowB c = true := by simpa [cellB] using hc
    constructor
    · intro h
      rcases hc' with h1 | h1 | h1
      · exact h1
      · rw [if_pos h1] at h; omega
      · by_cases hu : upB c = true
        · rw [if_pos hu] at h; omega
        · rw [if_neg hu, if_pos h1] at h; omega
    · rintro rfl; rfl
  have e2 : (ownN c == 1 - turn) = mineB c (1 - turn) := by
    rw [Bool.eq_iff_iff]
    simp only [beq_iff_eq]
    exact own_mine (by omega)
  rw [e1, e2]
theorem cellN_ok {p : Pos} (hp : PosOk p) {t : Nat} (ht : t < p.cells.size) : cellB (cellN p t) = true := by
  have h : t < p.cells.data.toList.length := ht
  have := hp.cells t h
  unfold cellN
  rw [List.getD_eq_getElem?_getD, List.getElem?_eq_getElem h]
  exact this
theorem hand_ok {p : Pos} (hp : PosOk p) (pl : Int) : HandOk (handOf p pl) := by
  unfold handOf
  split
  · exact handB_true.1 hp.hand0
  · exact handB_true.1 hp.hand1
theorem hand_mono {l : List UInt8} (h : HandOk l) : ∀ (j i : Nat) (hj : j < l.length) (hij : i ≤ j), (l[i]'(by omega)).toNat ≤ l[j].toNat
  | 0, i, hj, hij => by obtain rfl : i = 0 := by omega
                        exact Nat.le_refl _
  | j + 1, i, hj, hij => by
    rcases Nat.lt_or_eq_of_le hij with h1 | rfl
    · exact Nat.le_trans (hand_mono h j i (by omega) (by omega)) (h.2.2 j hj)
    · exact Nat.le_refl _
theorem getD_get {l : List UInt8} {i : Nat} (h : i < l.length) : l.getD i 0 = l[i] := by
  rw [List.getD_eq_getElem?_getD, List.getElem?_eq_getElem h]; rfl
/-- each letter of a hand is somewhere the first one -/
theorem fresh_of : ∀ (l : List UInt8) (i : Nat) (hi : i < l.length), ∃ j, ∃ hj : j < l.length, l[j] = l[i] ∧ freshB l j = true
  | l, 0, hi => ⟨0, hi, rfl, rfl⟩
  | l, i + 1, hi => by
    by_cases h : l[i + 1] = l[i]
    · obtain ⟨j, hj, e, hf⟩ := fresh_of l i (by omega)
      exact ⟨j, hj, by rw [e, h], hf⟩
    · refine ⟨i + 1, hi, rfl, ?_⟩
      unfold freshB
      rw [getD_get hi, show i + 1 - 1 = i by omega, getD_get (by omega)]
      simp [h]

/-! the same moves -/
theorem drop_mem {p : Pos} (d : Bool) (t : Nat) (m : Mv) : m ∈ allDrop d p t ↔ d = true ∧ m ∈ everyDrop p t := by
  unfold allDrop everyDrop
  rw [List.mem_flatMap, List.mem_flatMap]
  constructor
  · rintro ⟨c, hc, hm⟩
    split at hm
    · rename_i h
      simp only [Bool.and_eq_true] at h
      simp only [List.mem_cons, List.not_mem_nil, or_false] at hm
      obtain ⟨i, hi, rfl⟩ := List.getElem_of_mem hc
      obtain ⟨j, hj, e, hf⟩ := fresh_of _ i hi
      refine ⟨h.1, j, List.mem_range.2 hj, ?_⟩
      rw [h.2, hf, getD_get hj, e, hm]
      simp
    · simp at hm
  · rintro ⟨rfl, i, hi, hm⟩
    rw [List.mem_range] at hi
    split at hm
    · rename_i h
      simp only [Bool.and_eq_true] at h
      rw [getD_get hi] at hm
      refine ⟨_, List.getElem_mem hi, ?_⟩
      rw [h.1]
      simpa using hm
    · simp at hm
theorem board_mem {ps : List PieceD} {p : Pos} (hp : PosOk p) (hps : ∀ x ∈ ps, ∀ w ∈ x.ways, WayOk w) {a : Nat} (ha : a < p.cells.size) (m : Mv) : m ∈ allBoard ps p a ↔ m ∈ everyBoard ps p a := by
  have ht : p.turn = 0 ∨ p.turn = 1 := by have := hp.t0; have := hp.t1; omega
  have hn : p.cells.size = p.w.toNat * p.h.toNat := hp.len
  unfold allBoard everyBoard
  by_cases hm : mineB (cellN p a) p.turn = true
  · rw [if_pos hm, if_pos ((own_mine ht).2 hm)]
    cases hx : pieceAt ps (cellN p a) with
    | none => simp
    | some x =>
      have hxm : x ∈ ps := by
        unfold pieceAt at hx
        rw [Option.bind_eq_some_iff] at hx
        obtain ⟨i, _, hi⟩ := hx
        exact List.mem_of_getElem? hi
      simp only
      rw [List.mem_flatMap, List.mem_flatMap]
      constructor
      · rintro ⟨w, hw, hmw⟩
        rw [List.mem_map] at hmw
        obtain ⟨t, htt, rfl⟩ := hmw
        obtain ⟨q1, q2, q3, q4⟩ := (goes_iff hp (hps x hxm w hw) (by omega)).1 htt
        refine ⟨t, List.mem_range.2 (by omega), ?_⟩
        have hc : canB p x.ways a t = true := by
          unfold canB
          rw [List.any_eq_true]
          refine ⟨w, hw, ?_⟩
          rw [fits_same ht (cellN_ok hp (by omega)), q3]
          simp only [Bool.true_and, Bool.and_eq_true, bne_iff_ne, ne_eq]
          exact ⟨fun e => q2 e.symm, by unfold goesB; simpa using q4⟩
        rw [hc]
        simp
      · rintro ⟨t, htr, hmt⟩
        rw [List.mem_range] at htr
        split at hmt
        · rename_i hc
          simp only [List.mem_cons, List.not_mem_nil, or_false] at hmt
          unfold canB at hc
          rw [List.any_eq_true] at hc
          obtain ⟨w, hw, hh⟩ := hc
          rw [fits_same ht (cellN_ok hp htr)] at hh
          simp only [Bool.and_eq_true, bne_iff_ne, ne_eq] at hh
          obtain ⟨⟨h1, h2⟩, h3⟩ := hh
          refine ⟨w, hw, List.mem_map.2 ⟨t, (goes_iff hp (hps x hxm w hw) (by omega)).2 ⟨by omega, fun e => h2 e.symm, h1, by unfold goesB at h3; simpa using h3⟩, hmt.symm⟩⟩
        · simp at hmt
  · rw [if_neg hm, if_neg (fun h => hm ((own_mine ht).1 h))]
theorem moves_mem {r : RulesD} {p : Pos} (hp : PosOk p) (hps : ∀ x ∈ r.pieces, ∀ w ∈ x.ways, WayOk w) (m : Mv) : m ∈ allL r p ↔ m ∈ everyL r p := by
  unfold allL everyL
  rw [List.mem_append, List.mem_append, or_comm]
  refine or_congr ?_ ?_
  · rw [List.mem_flatMap]
    cases hd : r.drops with
    | false =>
      simp only [Bool.false_eq_true, if_false, List.not_mem_nil, iff_false]
      rintro ⟨a, _, h⟩
      have := ((drop_mem false a m).1 h).1
      simp at this
    | true =>
      simp only [if_true]
      rw [List.mem_flatMap]
      exact ⟨fun ⟨a, ha, h⟩ => ⟨a, ha, ((drop_mem true a m).1 h).2⟩, fun ⟨a, ha, h⟩ => ⟨a, ha, (drop_mem true a m).2 ⟨rfl, h⟩⟩⟩
  · rw [List.mem_flatMap, List.mem_flatMap]
    exact ⟨fun ⟨a, ha, h⟩ => ⟨a, ha, (board_mem hp hps (List.mem_range.1 ha) m).1 h⟩, fun ⟨a, ha, h⟩ => ⟨a, ha, (board_mem hp hps (List.mem_range.1 ha) m).2 h⟩⟩
/-! the second list is strictly sorted -/
theorem everyDrop_form {p : Pos} {t : Nat} {m : Mv} (h : m ∈ everyDrop p t) : m.f = -1 ∧ m.t = t := by
  unfold everyDrop at h
  rw [List.mem_flatMap] at h
  obtain ⟨i, _, h⟩ := h
  split at h
  · simp only [List.mem_cons, List.not_mem_nil, or_false] at h
    subst h; exact ⟨rfl, rfl⟩
  · simp at h
theorem everyBoard_form {ps : List PieceD} {p : Pos} {a : Nat} {m : Mv} (h : m ∈ everyBoard ps p a) : m.f = a := by
  unfold everyBoard at h
  split at h
  · split at h
    · simp at h
    · rw [List.mem_flatMap] at h
      obtain ⟨t, _, h⟩ := h
      split at h
      · simp only [List.mem_cons, List.not_mem_nil, or_false] at h
        subst h; rfl
      · simp at h
  · simp at h
theorem everyDrop_sorted {p : Pos} (hp : PosOk p) (t : Nat) : (everyDrop p t).Pairwise ltM := by
  have hh := hand_ok hp p.turn
  unfold everyDrop
  rw [List.pairwise_flatMap]
  refine ⟨fun i _ => ?_, ?_⟩
  · split <;> simp
  · refine List.Pairwise.imp_of_mem ?_ List.pairwise_lt_range
    intro i j hi hj hij x hx y hy
    rw [List.mem_range] at hi hj
    split at hx
    · split at hy
      · rename_i h1 h2
        simp only [List.mem_cons, List.not_mem_nil, or_false] at hx hy
        subst hx hy
        right
        refine ⟨rfl, .inr ⟨rfl, ?_⟩⟩
        simp only
        rw [getD_get hi, getD_get hj]
        simp only [Bool.and_eq_true] at h2
        have h3 := h2.2
        unfold freshB at h3
        rw [getD_get hj, getD_get (by omega)] at h3
        simp only [Bool.or_eq_true, beq_iff_eq, bne_iff_ne, ne_eq] at h3
        have h4 := hand_mono hh (j - 1) i (by omega) (by omega)
        have h5 := hand_mono hh j (j - 1) hj (by omega)
        rcases h3 with h3 | h3
        · omega
        · have h6 : (handOf p p.turn)[j].toNat ≠ ((handOf p p.turn)[j - 1]'(by omega)).toNat := fun e => h3 (UInt8.toNat_inj.1 e)
          omega
      · simp at hy
    · simp at hx
theorem everyBoard_sorted (ps : List PieceD) (p : Pos) (a : Nat) : (everyBoard ps p a).Pairwise ltM := by
  unfold everyBoard
  split
  · split
    · simp
    · rw [List.pairwise_flatMap]
      refine ⟨fun i _ => by split <;> simp, ?_⟩
      refine List.Pairwise.imp_of_mem ?_ List.pairwise_lt_range
      intro i j _ _ hij x hx y hy
      split at hx
      · split at hy
        · simp only [List.mem_cons, List.not_mem_nil, or_false] at hx hy
          subst hx hy
          right
          exact ⟨rfl, .inl (by simp only; omega)⟩
        · simp at hy
      · simp at hx
  · simp
theorem every_sorted {r : RulesD} {p : Pos} (hp : PosOk p) : (everyL r p).Pairwise ltM := by
  unfold everyL
  rw [List.pairwise_append]
  refine ⟨?_, ?_, ?_⟩
  · split
    · rw [List.pairwise_flatMap]
      refine ⟨fun t _ => everyDrop_sorted hp t, ?_⟩
      refine List.Pairwise.imp_of_mem ?_ List.pairwise_lt_range
      intro i j _ _ hij x hx y hy
      obtain ⟨h1, h2⟩ := everyDrop_form hx
      obtain ⟨h3, h4⟩ := everyDrop_form hy
      right
      exact ⟨by rw [h1, h3], .inl (by rw [h2, h4]; omega)⟩
    · simp
  · rw [List.pairwise_flatMap]
    refine ⟨fun a _ => everyBoard_sorted _ p a, ?_⟩
    refine List.Pairwise.imp_of_mem ?_ List.pairwise_lt_range
    intro i j _ _ hij x hx y hy
    left
    rw [everyBoard_form hx, everyBoard_form hy]; omega
  · intro x hx y hy
    split at hx
    · rw [List.mem_flatMap] at hx hy
      obtain ⟨t, _, hx⟩ := hx
      obtain ⟨a, _, hy⟩ := hy
      left
      rw [(everyDrop_form hx).1, everyBoard_form hy]; omega
    · simp at hx
/-- any strictly sorted list of the moves that are found is the list by the cells -/
theorem moves_sorted {r : RulesD} {p : Pos} (hp : PosOk p) (hps : ∀ x ∈ r.pieces, ∀ w ∈ x.ways, WayOk w) {l : List Mv} (hs : l.Pairwise ltM) (hm : ∀ x, x ∈ l ↔ x ∈ allL r p) : l = everyL r p :=
  sorted_ext hs (every_sorted hp) fun x => (hm x).trans (moves_mem hp hps x)
end Go.Proofs.YtcdfeaodfmfdnaaGreatDoor
