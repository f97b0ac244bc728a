/- A move made, plain. -/
import Derived.Test.YtcdfeaodfmfdnaaGreatDoorEndsPlain
namespace Go.Proofs.YtcdfeaodfmfdnaaGreatDoor

def u8 (n : Nat) : UInt8 := UInt8.ofNat n
theorem u8_nat {n : Nat} (h : n < 256) : (u8 n).toNat = n := by
  unfold u8
  rw [UInt8.toNat_ofNat']
  exact Nat.mod_eq_of_lt h
/-- the cells behind a move -/
def madeCells (p : Pos) (m : Mv) : List UInt8 :=
  let l := p.cells.data.toList.set m.t.toNat (u8 (letN m.c p.turn))
  if m.f < 0 then l else l.set m.f.toNat 46
/-- before the first that is not less -/
def putL (c : UInt8) : List UInt8 → List UInt8
  | [] => [c]
  | x :: l => if x.toNat < c.toNat then x :: putL c l else c :: x :: l
/-- the hand without what is put -/
def leftHand (p : Pos) (m : Mv) : List UInt8 := if m.f < 0 then (handOf p p.turn).erase (u8 m.c) else handOf p p.turn
def madeHand (r : RulesD) (p : Pos) (m : Mv) : List UInt8 :=
  if cellN p m.t.toNat != 46 && r.drops && decide ((leftHand p m).length < 8) then putL (u8 (capN (cellN p m.t.toNat))) (leftHand p m) else leftHand p m
def madeP (r : RulesD) (p : Pos) (m : Mv) : Pos :=
  { p with cells := bytes (madeCells p m), turn := 1 - p.turn,
           h0 := if p.turn = 0 then bytes (madeHand r p m) else p.h0, h1 := if p.turn = 0 then p.h1 else bytes (madeHand r p m) }

theorem putL_len (c : UInt8) : ∀ l, (putL c l).length = l.length + 1
  | [] => rfl
  | x :: l => by
    unfold putL
    split
    · simp [putL_len c l]
    · simp
theorem putL_perm (c : UInt8) : ∀ l, (putL c l).Perm (c :: l)
  | [] => List.Perm.refl _
  | x :: l => by
    unfold putL
    split
    · exact ((putL_perm c l).cons x).trans (List.Perm.swap c x l)
    · exact List.Perm.refl _
def LeU (a b : UInt8) : Prop := a.toNat ≤ b.toNat
theorem putL_sorted {c : UInt8} : ∀ {l : List UInt8}, l.Pairwise LeU → (putL c l).Pairwise LeU
  | [], _ => by simp [putL]
  | x :: l, h => by
    rw [List.pairwise_cons] at h
    unfold putL
    split
    · rename_i hx
      rw [List.pairwise_cons]
      refine ⟨fun y hy => ?_, putL_sorted h.2⟩
      rcases List.mem_cons.1 ((putL_perm c l).mem_iff.1 hy) with e | e
      · subst e; unfold LeU; omega
      · exact h.1 y e
    · rename_i hx
      rw [List.pairwise_cons, List.pairwise_cons]
      refine ⟨fun y hy => ?_, h.1, h.2⟩
      rcases List.mem_cons.1 hy with e | e
      · subst e; unfold LeU; omega
      · have := h.1 y e; unfold LeU at *; omega
/-- sorted lists of the same bytes are the same -/
theorem sortedU_ext {l m : List UInt8} (hp : l.Perm m) (hl : l.Pairwise LeU) (hm : m.Pairwise LeU) : l = m :=
  hp.eq_of_pairwise (fun _ _ _ _ h1 h2 => UInt8.toNat_inj.1 (Nat.le_antisymm h1 h2)) hl hm
theorem hand_sorted {l : List UInt8} (h : HandOk l) : l.Pairwise LeU := by
  rw [List.pairwise_iff_getElem]
  intro i j hi hj hij
  exact hand_mono h j i hj (by omega)
theorem hand_of {l : List UInt8} (h8 : l.length ≤ 8) (hu : ∀ x ∈ l, upB x.toNat = true) (hs : l.Pairwise LeU) : HandOk l :=
  ⟨h8, fun k h => hu _ (List.getElem_mem h), fun k h => by
    rw [List.pairwise_iff_getElem] at hs
    exact hs k (k + 1) (by omega) h (by omega)⟩
theorem hand_mem {l : List UInt8} (h : HandOk l) {x : UInt8} (hx : x ∈ l) : upB x.toNat = true := by
  obtain ⟨k, hk, rfl⟩ := List.getElem_of_mem hx
  exact h.2.1 k hk
theorem left_ok {p : Pos} (hp : PosOk p) (m : Mv) : HandOk (leftHand p m) := by
  have h := hand_ok hp p.turn
  unfold leftHand
  split
  · exact hand_of (Nat.le_trans List.length_erase_le h.1) (fun x hx => hand_mem h (List.mem_of_mem_erase hx)) ((hand_sorted h).sublist List.erase_sublist)
  · exact h
theorem up_cap {c : Nat} (h : upB c = true ∨ lowB c = true) : upB (capN c) = true := by
  rcases h with h | h
  · rw [capN_up h]; exact h
  · rw [capN_low h]
    have h1 : 97 ≤ c ∧ c ≤ 122 := by simpa [lowB] using h
    simp [upB]; omega
theorem cellN_lt (p : Pos) (i : Nat) : cellN p i < 256 := by unfold cellN; exact UInt8.toNat_lt _
theorem madeHand_ok {r : RulesD} {p : Pos} (hp : PosOk p) {m : Mv} (ht : m.t.toNat < p.cells.size) : HandOk (madeHand r p m) := by
  have h := left_ok hp m
  unfold madeHand
  split
  · rename_i hc
    simp only [Bool.and_eq_true, bne_iff_ne, ne_eq, decide_eq_true_eq] at hc
    have hcell := cellN_ok hp ht
    have hl : upB (cellN p m.t.toNat) = true ∨ lowB (cellN p m.t.toNat) = true := by
      have : cellN p m.t.toNat = 46 ∨ upB (cellN p m.t.toNat) = true ∨ lowB (cellN p m.t.toNat) = true := by simpa [cellB] using hcell
      rcases this with h1 | h1
      · exact absurd h1 hc.1.1
      · exact h1
    have hu := up_cap hl
    have hlt : capN (cellN p m.t.toNat) < 256 := by
      have := cellN_lt p m.t.toNat
      unfold capN; split <;> omega
    refine hand_of (by rw [putL_len]; omega) (fun x hx => ?_) (putL_sorted (hand_sorted h))
    rcases List.mem_cons.1 ((putL_perm _ _).mem_iff.1 hx) with e | e
    · subst e; rw [u8_nat hlt]; exact hu
    · exact hand_mem h e
  · exact h
theorem madeCells_len (p : Pos) (m : Mv) : (madeCells p m).length = p.cells.size := by
  unfold madeCells
  simp only
  split <;> simp <;> rfl
theorem letN_cell {c : Nat} (h : upB c = true) {t : Int} (ht : t = 0 ∨ t = 1) : mineB (letN c t) t = true ∧ letN c t < 256 := by
  have h1 : 65 ≤ c ∧ c ≤ 90 := by simpa [upB] using h
  rcases ht with rfl | rfl
  · refine ⟨?_, ?_⟩
    · unfold mineB letN
      rw [if_pos rfl, if_neg (by decide)]; exact h
    · unfold letN; rw [if_neg (by decide)]; omega
  · refine ⟨?_, ?_⟩
    · unfold mineB letN
      rw [if_neg (by decide), if_pos rfl]
      simp [lowB]; omega
    · unfold letN; rw [if_pos rfl]; omega
theorem mine_cell {c : Nat} {pl : Int} (h : mineB c pl = true) : cellB c = true := by
  unfold mineB at h
  split at h <;> simp [cellB, h]
theorem made_ok {r : RulesD} {p : Pos} (hp : PosOk p) {m : Mv} (ht : m.t.toNat < p.cells.size) (hc : upB m.c = true) : PosOk (madeP r p m) := by
  have hturn : p.turn = 0 ∨ p.turn = 1 := by have := hp.t0; have := hp.t1; omega
  have hh := madeHand_ok (r := r) hp ht
  have hb : handB (bytes (madeHand r p m)) = true := handB_true.2 (by rw [bytes_list]; exact hh)
  refine ⟨hp.w1, hp.w8, hp.h1, hp.h8, ?_, ?_, ?_, ?_, ?_, ?_⟩
  · show ((bytes (madeCells p m)).size : Int) = _
    rw [bytes_size, madeCells_len]; exact hp.size
  · show 0 ≤ 1 - p.turn; omega
  · show 1 - p.turn ≤ 1; omega
  · show handB (if p.turn = 0 then bytes (madeHand r p m) else p.h0) = true
    split
    · exact hb
    · exact hp.hand0
  · show handB (if p.turn = 0 then p.h1 else bytes (madeHand r p m)) = true
    split
    · exact hp.hand1
    · exact hb
  · intro k hk
    simp only [madeP, bytes_list] at hk ⊢
    obtain ⟨q1, q2⟩ := letN_cell hc hturn
    have key : ∀ (l : List UInt8) (i : Nat) (v : UInt8), CellsOk l → cellB v.toNat = true → CellsOk (l.set i v) := by
      intro l i v hl hv j hj
      rw [List.getElem_set]
      split
      · exact hv
      · exact hl j (by simpa using hj)
    have h1 : CellsOk (p.cells.data.toList.set m.t.toNat (u8 (letN m.c p.turn))) := key _ _ _ hp.cells (by rw [u8_nat q2]; exact mine_cell q1)
    have h2 : CellsOk (madeCells p m) := by
      unfold madeCells
      simp only
      split
      · exact h1
      · exact key _ _ _ h1 (by decide)
    exact h2 k hk
/-! the moves of a position: what they are -/
theorem every_form {r : RulesD} {p : Pos} (htn : p.turn = 0 ∨ p.turn = 1) {m : Mv} (h : m ∈ everyL r p) : 0 ≤ m.t ∧ m.t.toNat < p.cells.size ∧
    ((m.f = -1 ∧ r.drops = true ∧ cellN p m.t.toNat = 46 ∧ ∃ x ∈ handOf p p.turn, x.toNat = m.c) ∨
     (0 ≤ m.f ∧ m.f.toNat < p.cells.size ∧ m.f ≠ m.t ∧ ownN (cellN p m.f.toNat) = p.turn ∧ (∃ x, pieceAt r.pieces (cellN p m.f.toNat) = some x ∧ x.letter = m.c) ∧ ownN (cellN p m.t.toNat) ≠ p.turn)) := by
  unfold everyL at h
  rw [List.mem_append] at h
  rcases h with h | h
  · split at h
    · rename_i hd
      rw [List.mem_flatMap] at h
      obtain ⟨t, ht, h⟩ := h
      rw [List.mem_range] at ht
      unfold everyDrop at h
      rw [List.mem_flatMap] at h
      obtain ⟨i, hi, h⟩ := h
      rw [List.mem_range] at hi
      split at h
      · rename_i hc
        simp only [Bool.and_eq_true, beq_iff_eq] at hc
        simp only [List.mem_cons, List.not_mem_nil, or_false] at h
        subst h
        refine ⟨by simp only; omega, by simp only [Int.toNat_natCast]; exact ht, .inl ⟨rfl, hd, by simp only [Int.toNat_natCast]; exact hc.1, _, List.getElem_mem hi, by simp only; rw [getD_get hi]⟩⟩
      · simp at h
    · simp at h
  · rw [List.mem_flatMap] at h
    obtain ⟨a, ha, h⟩ := h
    rw [List.mem_range] at ha
    unfold everyBoard at h
    split at h
    · rename_i ho
      split at h
      · simp at h
      · rename_i x hx
        rw [List.mem_flatMap] at h
        obtain ⟨t, ht, h⟩ := h
        rw [List.mem_range] at ht
        split at h
        · rename_i hc
          simp only [List.mem_cons, List.not_mem_nil, or_false] at h
          subst h
          unfold canB at hc
          rw [List.any_eq_true] at hc
          obtain ⟨w, _, hw⟩ := hc
          simp only [Bool.and_eq_true, bne_iff_ne, ne_eq] at hw
          obtain ⟨⟨h1, h2⟩, _⟩ := hw
          refine ⟨by simp only; omega, by simp only [Int.toNat_natCast]; exact ht, .inr ⟨by simp only; omega, by simp only [Int.toNat_natCast]; exact ha, by simp only; omega, by simp only [Int.toNat_natCast]; exact ho, ⟨x, by simp only [Int.toNat_natCast]; exact hx, rfl⟩, ?_⟩⟩
          simp only [Int.toNat_natCast]
          unfold fitsR at h1
          simp only [Bool.or_eq_true, Bool.and_eq_true, beq_iff_eq] at h1
          intro e
          rcases h1 with h1 | h1 <;> omega
        · simp at h
    · simp at h

theorem piece_in {ps : List PieceD} {c : Nat} {x : PieceD} (h : pieceAt ps c = some x) : x ∈ ps ∧ x.letter = capN c := by
  unfold pieceAt at h
  rw [Option.bind_eq_some_iff] at h
  obtain ⟨i, h1, h2⟩ := h
  obtain ⟨hk, he⟩ := firstX_get h1
  rw [List.getElem?_eq_getElem hk] at h2
  injection h2 with h2
  subst h2
  exact ⟨List.getElem_mem hk, he⟩
/-- a move's letter is a piece's, its cells are on the board; behind it all is right -/
theorem every_made {r : RulesD} {p : Pos} (ho : OfOk r p) {m : Mv} (h : m ∈ everyL r p) : upB m.c = true ∧ OfOk r (madeP r p m) := by
  have ht : p.turn = 0 ∨ p.turn = 1 := by have := ho.pos.t0; have := ho.pos.t1; omega
  obtain ⟨h0, h1, h2⟩ := every_form ht h
  have hlet : (pieceX r.pieces m.c).isSome = true ∧ upB m.c = true := by
    rcases h2 with ⟨_, _, _, x, hx, he⟩ | ⟨_, hf, _, hown, ⟨x, hx, he⟩, _⟩
    · have hu := hand_mem (hand_ok ho.pos p.turn) hx
      rw [he] at hu
      refine ⟨?_, hu⟩
      have hmem : x ∈ p.all := by
        unfold Pos.all
        unfold handOf at hx
        split at hx <;> simp [hx]
      obtain ⟨k, hk, rfl⟩ := List.getElem_of_mem hmem
      rcases ho.fits k hk with h3 | h3
      · rw [he] at h3
        rw [h3] at hu
        exact absurd hu (by decide)
      · rw [he] at h3; exact h3
    · obtain ⟨hm, hl⟩ := piece_in hx
      obtain ⟨i, hi, rfl⟩ := List.getElem_of_mem hm
      have hp := ho.rules.pieces i hi
      have h7 := hp.place
      rw [he] at h7
      exact ⟨by rw [h7]; rfl, by rw [← he]; exact hp.letter⟩
  refine ⟨hlet.2, ho.rules, made_ok ho.pos h1 hlet.2, ho.w, ho.h, ?_⟩
  -- all letters fit
  have fitsC : ∀ i, i < p.cells.size → cellN p i = 46 ∨ (pieceX r.pieces (cellN p i)).isSome = true := by
    intro i hi
    have hi' : i < p.cells.data.toList.length := hi
    have := ho.fits i (by unfold Pos.all; rw [List.length_append, List.length_append]; omega)
    unfold Pos.all at this
    rw [List.getElem_append_left (by rw [List.length_append]; omega), List.getElem_append_left hi'] at this
    unfold cellN
    rw [getD_get hi']
    exact this
  have mem : ∀ x ∈ (madeP r p m).all, x.toNat = 46 ∨ (pieceX r.pieces x.toNat).isSome = true := by
    have old : ∀ x ∈ p.all, x.toNat = 46 ∨ (pieceX r.pieces x.toNat).isSome = true := fun x hx => by
      obtain ⟨k, hk, rfl⟩ := List.getElem_of_mem hx
      exact ho.fits k hk
    have hcells : ∀ x ∈ madeCells p m, x.toNat = 46 ∨ (pieceX r.pieces x.toNat).isSome = true := by
      intro x hx
      obtain ⟨q1, q2⟩ := letN_cell hlet.2 ht
      have hnew : pieceX r.pieces (letN m.c p.turn) = pieceX r.pieces m.c := by
        have hc : 65 ≤ m.c ∧ m.c ≤ 90 := by simpa [upB] using hlet.2
        unfold pieceX
        congr 1
        rw [capN_up hlet.2]
        unfold letN
        split
        · rw [capN_low (by simp [lowB]; omega)]; omega
        · exact capN_up hlet.2
      have step : ∀ y ∈ p.cells.data.toList.set m.t.toNat (u8 (letN m.c p.turn)), y.toNat = 46 ∨ (pieceX r.pieces y.toNat).isSome = true := by
        intro y hy
        rcases List.mem_or_eq_of_mem_set hy with h3 | h3
        · exact old y (by unfold Pos.all; simp [h3])
        · right; rw [h3, u8_nat q2, hnew]; exact hlet.1
      unfold madeCells at hx
      simp only at hx
      split at hx
      · exact step x hx
      · rcases List.mem_or_eq_of_mem_set hx with h3 | h3
        · exact step x h3
        · left; rw [h3]; rfl
    have hhand : ∀ x ∈ madeHand r p m, x.toNat = 46 ∨ (pieceX r.pieces x.toNat).isSome = true := by
      intro x hx
      have hleft : ∀ y ∈ leftHand p m, y.toNat = 46 ∨ (pieceX r.pieces y.toNat).isSome = true := by
        intro y hy
        have : y ∈ handOf p p.turn := by
          unfold leftHand at hy
          split at hy
          · exact List.mem_of_mem_erase hy
          · exact hy
        refine old y ?_
        unfold Pos.all
        unfold handOf at this
        split at this <;> simp [this]
      unfold madeHand at hx
      split at hx
      · rename_i hc
        simp only [Bool.and_eq_true, bne_iff_ne, ne_eq] at hc
        rcases List.mem_cons.1 ((putL_perm _ _).mem_iff.1 hx) with e | e
        · subst e
          right
          have hlt := cellN_lt p m.t.toNat
          have hcap : capN (cellN p m.t.toNat) < 256 := by unfold capN; split <;> omega
          rw [u8_nat hcap]
          rcases fitsC _ h1 with h3 | h3
          · exact absurd h3 hc.1.1
          · unfold pieceX at h3 ⊢
            have : capN (capN (cellN p m.t.toNat)) = capN (cellN p m.t.toNat) := by
              have hcell := cellN_ok ho.pos h1
              have hl : upB (cellN p m.t.toNat) = true ∨ lowB (cellN p m.t.toNat) = true := by
                have : cellN p m.t.toNat = 46 ∨ upB (cellN p m.t.toNat) = true ∨ lowB (cellN p m.t.toNat) = true := by simpa [cellB] using hcell
                rcases this with h5 | h5
                · exact absurd h5 hc.1.1
                · exact h5
              exact capN_up (up_cap hl)
            rw [this]; exact h3
        · exact hleft x e
      · exact hleft x hx
    intro x hx
    unfold Pos.all at hx
    rw [List.mem_append, List.mem_append] at hx
    rcases hx with (hx | hx) | hx
    · exact hcells x hx
    · simp only [madeP] at hx
      split at hx
      · exact hhand x hx
      · exact old x (by unfold Pos.all; simp [hx])
    · simp only [madeP] at hx
      split at hx
      · exact old x (by unfold Pos.all; simp [hx])
      · exact hhand x hx
  exact fun k hk => mem _ (List.getElem_mem hk)
end Go.Proofs.YtcdfeaodfmfdnaaGreatDoor
