/- A position's text, plainly: what the reader takes is the text of what it finds. A position's text, plainly: the reader takes the text of what is right, and finds it. Rules as texts, plainly: the lines, and how they are read one after the other. Rules as texts, plainly: a line says one thing alone; right rules' lines can be read. Rules as texts, plainly: the lines of right rules can be read, and say them. -/
import Derived.Test.YtcdfeaodfmfdnaaGreatDoorBxAns
import Derived.Test.YtcdfeaodfmfdnaaGreatDoorRxWayM
import Derived.Test.YtcdfeaodfmfdnaaGreatDoorBoardPlain
import Derived.Test.YtcdfeaodfmfdnaaGreatDoorRxPieceM
namespace Go.Proofs.YtcdfeaodfmfdnaaGreatDoor

theorem flatten_w {w : Nat} : ∀ {xs : List (List UInt8)}, (∀ a ∈ xs, a.length = w) → xs.flatten.length = xs.length * w
  | [], _ => by simp
  | a :: l, h => by
    have ih := flatten_w (xs := l) (fun x hx => h x (List.mem_cons_of_mem _ hx))
    simp only [List.flatten_cons, List.length_append, List.length_cons, ih, h a List.mem_cons_self, Nat.add_mul, Nat.one_mul]
    omega
theorem rowL_flat {w : Nat} : ∀ {xs : List (List UInt8)} {y : Nat} (_ : ∀ a ∈ xs, a.length = w) (hy : y < xs.length), rowL xs.flatten w y = xs[y]
  | a :: l, 0, h, _ => by
    have ha := h a List.mem_cons_self
    simp [rowL, ← ha]
  | a :: l, y + 1, h, hy => by
    have ha := h a List.mem_cons_self
    have ih := rowL_flat (xs := l) (y := y) (fun x hx => h x (List.mem_cons_of_mem _ hx)) (by simpa using hy)
    rw [List.getElem_cons_succ, ← ih]
    unfold rowL
    rw [List.flatten_cons, List.drop_append, Nat.add_mul, Nat.one_mul, ha, List.drop_eq_nil_of_le (by omega), List.nil_append, Nat.add_sub_cancel]
theorem topL_flat {w : Nat} {rs : List (List UInt8)} (h : ∀ a ∈ rs, a.length = w) : topL rs.reverse.flatten w rs.length rs.length = rs := by
  refine List.ext_getElem (by simp [topL]) (fun i h1 h2 => ?_)
  simp only [topL, List.getElem_map, List.getElem_range]
  rw [rowL_flat (fun a ha => h a (List.mem_reverse.1 ha)) (by simp; omega), List.getElem_reverse]
  congr 1
  omega
theorem flat_cells {xs : List (List UInt8)} (h : ∀ a ∈ xs, CellsL a) : CellsL xs.flatten := fun c hc => by
  obtain ⟨a, ha, hca⟩ := List.mem_flatten.1 hc
  exact h a ha c hca
theorem hand_B {h : List UInt8} (hh : HandOk h) : handB (bytes h) = true := handB_true.2 hh
theorem pos_fin {rs : List (List UInt8)} {t : Bool} {h0 h1 : List UInt8} (hr : RowsOkL rs) (hne : rs ≠ []) (hh0 : HandOk h0) (hh1 : HandOk h1) : PosOk (posL rs t h0 h1) := by
  have hl : 0 < rs.length := List.length_pos_iff.2 hne
  have w1 := hr.w1 hne
  have w8 := hr.w8
  have h8 := hr.len
  refine ⟨by simp [posL]; omega, by simp [posL]; omega, by simp [posL]; omega, by simp [posL]; omega, ?_, by simp only [posL]; split <;> omega, by simp only [posL]; split <;> omega, hand_B hh0, hand_B hh1, ?_⟩
  · simp only [posL, bytes_size]
    rw [flatten_w (w := wid rs) (fun a ha => hr.wd a (List.mem_reverse.1 ha)), List.length_reverse, Nat.mul_comm]
    simp
  · intro k hk
    exact flat_cells (fun a ha => hr.cells a (List.mem_reverse.1 ha)) _ (List.getElem_mem hk)
theorem text_fin {rs : List (List UInt8)} {t : Bool} {h0 h1 : List UInt8} (hr : RowsOkL rs) : textL (posL rs t h0 h1) = joinL 32 [joinL 47 rs, colL t, joinL 47 [dashL h0, dashL h1]] := by
  unfold textL posL
  simp only [bytes_list, Int.toNat_natCast, joinK]
  rw [topL_flat hr.wd]
  cases t <;> simp [joinL, colL]
theorem dash_self {h : List UInt8} (e : h ≠ []) : dashL h = h := by unfold dashL; rw [if_neg e]
/-- what is taken is a text -/
theorem taken_text {l : List UInt8} {st : BSt} (hr : runB l = some st) (ha : accB st = true) : PosOk (finB st) ∧ l = textL (finB st) := by
  obtain ⟨hw, hp⟩ := run_wf l st hr
  have hj := join_split 32 l
  rw [hp] at hj
  cases st with
  | rows rs cur => simp [accB] at ha
  | turn rs => simp [accB] at ha
  | turned rs t => simp [accB] at ha
  | hand0 rs t hh => simp [accB] at ha
  | dash0 rs t => simp [accB] at ha
  | hand1 rs t h0 hh =>
    obtain ⟨⟨h1, h2⟩, h3, h4⟩ := hw
    have hne : hh ≠ [] := fun e => by subst e; simp [accB] at ha
    refine ⟨pos_fin h1 h2 h3 h4, ?_⟩
    rw [show finB (.hand1 rs t h0 hh) = posL rs t h0 hh from rfl, text_fin h1, dash_self hne, ← hj]
    rfl
  | dash1 rs t h0 =>
    obtain ⟨⟨h1, h2⟩, h3⟩ := hw
    refine ⟨pos_fin h1 h2 h3 ⟨by simp, fun k hk => by simp at hk, fun k hk => by simp at hk⟩, ?_⟩
    rw [show finB (.dash1 rs t h0) = posL rs t h0 [] from rfl, text_fin h1, ← hj]
    rfl
end Go.Proofs.YtcdfeaodfmfdnaaGreatDoor
namespace Go.Proofs.YtcdfeaodfmfdnaaGreatDoor

def Goes (st : BSt) (l : List UInt8) (st' : BSt) : Prop := l.foldl (fun s c => s.bind (stepB · c)) (some st) = some st'
theorem Goes.nil (st : BSt) : Goes st [] st := rfl
theorem Goes.trans {a b c : BSt} {l m : List UInt8} (h : Goes a l b) (k : Goes b m c) : Goes a (l ++ m) c := by
  unfold Goes at h k ⊢
  rw [List.foldl_append, h, k]
theorem Goes.one {a b : BSt} {c : UInt8} (h : stepB a c = some b) : Goes a [c] b := by
  unfold Goes
  simpa using h
theorem Goes.cons {a b d : BSt} {c : UInt8} {l : List UInt8} (h : stepB a c = some b) (k : Goes b l d) : Goes a (c :: l) d := (Goes.one h).trans k
theorem row_goes {rs : List (List UInt8)} : ∀ (a cur : List UInt8), CellsL a → (cur ++ a).length ≤ 8 → (rs = [] ∨ (cur ++ a).length ≤ wid rs) → Goes (.rows rs cur) a (.rows rs (cur ++ a))
  | [], cur, _, _, _ => by rw [List.append_nil]; exact Goes.nil _
  | c :: a, cur, hc, h8, hw => by
    have h1 : stepB (.rows rs cur) c = some (.rows rs (cur ++ [c])) := by
      have hg : rowGo rs cur c = true := by
        unfold rowGo
        rw [hc c List.mem_cons_self]
        simp only [List.length_append, List.length_cons] at h8 hw
        rcases hw with rfl | hw
        · simp; omega
        · simp; omega
      simp [stepB, hg]
    have ih := row_goes (rs := rs) a (cur ++ [c]) (fun x hx => hc x (List.mem_cons_of_mem _ hx)) (by simpa using h8) (by simpa using hw)
    rw [List.append_assoc] at ih
    exact Goes.cons h1 ih
theorem row_end {rs : List (List UInt8)} {b : List UInt8} (h1 : b ≠ []) (hw : rs = [] ∨ b.length = wid rs) : rowEnd rs b = true := rowEnd_iff.2 ⟨h1, hw⟩
theorem go_no {rs : List (List UInt8)} {cur : List UInt8} {c : UInt8} (h : cellB c.toNat = false) : rowGo rs cur c = false := by unfold rowGo; rw [h]; rfl
theorem rows_goes {w : Nat} (hw1 : 1 ≤ w) (hw8 : w ≤ 8) : ∀ (l : List (List UInt8)) (b : List UInt8) (rs : List (List UInt8)), (∀ a ∈ b :: l, a.length = w ∧ CellsL a) → (rs = [] ∨ wid rs = w) → rs.length + (b :: l).length ≤ 8 →
    Goes (.rows rs []) (joinL 47 (b :: l) ++ [32]) (.turn (rs ++ b :: l))
  | [], b, rs, h, hr, _ => by
    obtain ⟨hl, hc⟩ := h b (by simp)
    have g1 := row_goes (rs := rs) b [] hc (by simpa [hl] using hw8) (by rcases hr with h | h; exact .inl h; exact .inr (by simp [hl, h]))
    rw [List.nil_append] at g1
    refine g1.trans (Goes.one ?_)
    have he := row_end (rs := rs) (b := b) (fun e => by subst e; simp at hl; omega) (by rcases hr with h | h; exact .inl h; exact .inr (by rw [hl, h]))
    simp [stepB, go_no (c := 32) (rs := rs) (cur := b) (by decide), he]
  | d :: l, b, rs, h, hr, h8 => by
    obtain ⟨hl, hc⟩ := h b (by simp)
    have g1 := row_goes (rs := rs) b [] hc (by simpa [hl] using hw8) (by rcases hr with h | h; exact .inl h; exact .inr (by simp [hl, h]))
    rw [List.nil_append] at g1
    have he := row_end (rs := rs) (b := b) (fun e => by subst e; simp at hl; omega) (by rcases hr with h | h; exact .inl h; exact .inr (by rw [hl, h]))
    simp only [List.length_cons] at h8
    have g2 : stepB (.rows rs b) 47 = some (.rows (rs ++ [b]) []) := by
      have h7 : rs.length + 1 < 8 := by omega
      simp [stepB, go_no (c := 47) (rs := rs) (cur := b) (by decide), he, h7]
    have g3 := rows_goes hw1 hw8 l d (rs ++ [b]) (fun a ha => h a (List.mem_cons_of_mem _ ha)) (.inr (by
      rcases hr with rfl | hr
      · simpa [wid] using hl
      · rw [wid_snoc b (fun e => by subst e; simp [wid] at hr; omega), hr])) (by simp; omega)
    rw [joinL_cons (by simp), List.append_assoc, List.cons_append]
    have := g1.trans (Goes.cons g2 g3)
    rwa [List.append_assoc] at this
theorem HandOk.take_ {a b : List UInt8} (h : HandOk (a ++ b)) : HandOk a := by
  obtain ⟨h1, h2, h3⟩ := h
  refine ⟨by simp at h1; omega, fun k hk => ?_, fun k hk => ?_⟩
  · have := h2 k (by simp; omega)
    rwa [List.getElem_append_left hk] at this
  · have := h3 k (by simp; omega)
    rwa [List.getElem_append_left (by omega), List.getElem_append_left hk] at this
theorem up_dash {c : UInt8} (h : upB c.toNat = true) : (c == 45) = false := by
  rw [beq_eq_false_iff_ne]
  rintro rfl
  exact absurd h (by decide)
theorem hand_step {cur : List UInt8} {c : UInt8} (h : HandOk (cur ++ [c])) : handGo cur c = true ∧ (c == 45) = false := by
  have h0 := h.take_
  have hu : upB c.toNat = true := by
    have := h.2.1 cur.length (by simp)
    simpa using this
  refine ⟨?_, up_dash hu⟩
  rcases (hand_go_iff h0).1 (.inr h) with h1 | h1
  · rw [up_dash hu, Bool.and_false] at h1; cases h1
  · exact h1
theorem hand0_goes {rs : List (List UInt8)} {t : Bool} : ∀ (a cur : List UInt8), HandOk (cur ++ a) → Goes (.hand0 rs t cur) a (.hand0 rs t (cur ++ a))
  | [], cur, _ => by rw [List.append_nil]; exact Goes.nil _
  | c :: a, cur, h => by
    have e : cur ++ c :: a = cur ++ [c] ++ a := by simp
    rw [e] at h ⊢
    obtain ⟨h1, h2⟩ := hand_step h.take_
    exact Goes.cons (by simp [stepB, h1, h2]) (hand0_goes a (cur ++ [c]) h)
theorem hand1_goes {rs : List (List UInt8)} {t : Bool} {h0 : List UInt8} : ∀ (a cur : List UInt8), HandOk (cur ++ a) → Goes (.hand1 rs t h0 cur) a (.hand1 rs t h0 (cur ++ a))
  | [], cur, _ => by rw [List.append_nil]; exact Goes.nil _
  | c :: a, cur, h => by
    have e : cur ++ c :: a = cur ++ [c] ++ a := by simp
    rw [e] at h ⊢
    obtain ⟨h1, h2⟩ := hand_step h.take_
    exact Goes.cons (by simp [stepB, h1, h2]) (hand1_goes a (cur ++ [c]) h)
theorem rows_take (cells : List UInt8) (w : Nat) : ∀ k, ((List.range k).map fun y => rowL cells w y).flatten = cells.take (k * w)
  | 0 => by simp
  | k + 1 => by
    rw [List.range_succ, List.map_append, List.flatten_append, rows_take cells w k]
    simp only [List.map_cons, List.map_nil, List.flatten_cons, List.flatten_nil, List.append_nil, rowL]
    rw [Nat.add_mul, Nat.one_mul, ← List.take_add]
theorem topL_rev (cells : List UInt8) (w h : Nat) : (topL cells w h h).reverse = (List.range h).map fun y => rowL cells w y := by
  refine List.ext_getElem (by simp [topL]) (fun i h1 h2 => ?_)
  have hi : i < h := by simpa using h2
  simp only [List.getElem_reverse, topL, List.getElem_map, List.getElem_range, List.length_map, List.length_range]
  congr 1
  omega
theorem hand0_all {rs : List (List UInt8)} {t : Bool} {a : List UInt8} (h : HandOk a) : Goes (.hand0 rs t []) (dashL a ++ [47]) (.hand1 rs t a []) := by
  unfold dashL
  by_cases e : a = []
  · rw [if_pos e, e]
    exact Goes.cons (b := .dash0 rs t) (by simp [stepB]) (Goes.one (by simp [stepB]))
  · rw [if_neg e]
    refine (hand0_goes a [] (by simpa using h)).trans (Goes.one ?_)
    have hu : handGo ([] ++ a) 47 = false := by
      unfold handGo
      rw [show upB (47 : UInt8).toNat = false by decide]; rfl
    simp [stepB, e]
    simpa using hu
theorem hand1_all {rs : List (List UInt8)} {t : Bool} {a b : List UInt8} (h : HandOk b) : ∃ st, Goes (.hand1 rs t a []) (dashL b) st ∧ accB st = true ∧ finB st = posL rs t a b := by
  unfold dashL
  by_cases e : b = []
  · rw [if_pos e, e]
    exact ⟨.dash1 rs t a, Goes.one (by simp [stepB]), rfl, rfl⟩
  · rw [if_neg e]
    have g := hand1_goes (rs := rs) (t := t) (h0 := a) b [] (by simpa using h)
    rw [List.nil_append] at g
    exact ⟨_, g, by simp [accB, e], rfl⟩
/-- the reader takes the text of a right position and finds it -/
theorem text_taken {p : Pos} (hp : PosOk p) : ∃ st, runB (textL p) = some st ∧ accB st = true ∧ finB st = p := by
  obtain ⟨w, h, c, t, h0, h1⟩ := p
  obtain ⟨w1, w8, h1', h8, hsz, t0, t1, hh0, hh1, hcell⟩ := hp
  simp only at w1 w8 h1' h8 hsz t0 t1 hh0 hh1 hcell
  obtain ⟨wn, rfl⟩ : ∃ n : Nat, w = (n : Int) := ⟨w.toNat, by omega⟩
  obtain ⟨hn, rfl⟩ : ∃ n : Nat, h = (n : Int) := ⟨h.toNat, by omega⟩
  have hcl : c.data.toList.length = wn * hn := by
    have : (c.size : Int) = ((wn * hn : Nat) : Int) := by rw [hsz]; simp
    have h2 : c.data.toList.length = c.size := by simp
    omega
  have hA := handB_true.1 hh0
  have hB := handB_true.1 hh1
  obtain ⟨rs, hrs⟩ : ∃ rs, topL c.data.toList wn hn hn = rs := ⟨_, rfl⟩
  have hlen : rs.length = hn := by rw [← hrs, topL_len]
  have hrow : ∀ a ∈ rs, a.length = wn ∧ CellsL a := fun a ha => by
    rw [← hrs] at ha
    obtain ⟨i, hi, rfl⟩ := List.mem_map.1 ha
    have hi' := List.mem_range.1 hi
    refine ⟨rowL_len hcl (by omega), fun x hx => ?_⟩
    have hx2 : x ∈ c.data.toList := List.mem_of_mem_drop (List.mem_of_mem_take hx)
    obtain ⟨k, hk, rfl⟩ := List.getElem_of_mem hx2
    exact hcell k hk
  have hfl : rs.reverse.flatten = c.data.toList := by
    rw [← hrs, topL_rev, rows_take, List.take_of_length_le (by rw [hcl, Nat.mul_comm]; exact Nat.le_refl _)]
  obtain ⟨b, l, rfl⟩ : ∃ b l, rs = b :: l := by
    cases rs with
    | nil => simp at hlen; omega
    | cons b l => exact ⟨b, l, rfl⟩
  have hwid : wid (b :: l) = wn := (hrow b (by simp)).1
  have g1 := rows_goes (w := wn) (by omega) (by omega) l b [] hrow (.inl rfl) (by rw [hlen]; simp; omega)
  rw [List.nil_append] at g1
  obtain ⟨tb, htb⟩ : ∃ tb : Bool, decide (t = 1) = tb := ⟨_, rfl⟩
  have ht : t = if tb then 1 else 0 := by
    rw [← htb]
    by_cases e : t = 1
    · simp [e]
    · simp [e]; omega
  have g2 : stepB (.turn (b :: l)) (if tb then 98 else 119) = some (.turned (b :: l) tb) := by cases tb <;> rfl
  have g3 : stepB (.turned (b :: l) tb) 32 = some (.hand0 (b :: l) tb []) := rfl
  obtain ⟨st, g5, ha, hf⟩ := hand1_all (rs := b :: l) (t := tb) (a := h0.data.toList) hB
  have g := g1.trans (Goes.cons g2 (Goes.cons g3 ((hand0_all (rs := b :: l) (t := tb) hA).trans g5)))
  refine ⟨st, ?_, ha, ?_⟩
  · have e : textL ⟨(wn : Int), (hn : Int), c, t, h0, h1⟩ = (joinL 47 (b :: l) ++ [32]) ++ ((if tb then 98 else 119) :: 32 :: ((dashL h0.data.toList ++ [47]) ++ dashL h1.data.toList)) := by
      unfold textL
      simp only [Int.toNat_natCast, joinK, hrs, ht]
      cases tb <;> simp
    rw [e]
    exact g
  · rw [hf]
    unfold posL
    rw [hwid, hlen, hfl, ← ht]
    simp [bytes]
end Go.Proofs.YtcdfeaodfmfdnaaGreatDoor
namespace Go.Proofs.YtcdfeaodfmfdnaaGreatDoor

def wordR : Nat → List UInt8
  | 0 => [115, 116, 97, 114, 116]
  | 1 => [112, 105, 101, 99, 101]
  | 2 => [100, 114, 111, 112, 115]
  | 3 => [108, 111, 115, 101]
  | 4 => [108, 105, 110, 101]
  | 5 => [114, 101, 97, 99, 104]
  | 6 => [115, 116, 117, 99, 107]
  | 7 => [112, 108, 105, 101, 115]
  | _ => []
/-- the lines of one kind -/
def segR (r : RulesD) : Nat → List (List UInt8)
  | 0 => [wordR 0 ++ 32 :: textL r.start]
  | 1 => r.pieces.map fun p => wordR 1 ++ tailP p
  | 2 => if r.drops then [wordR 2] else []
  | 3 => if r.lose = 0 then [] else [wordR 3 ++ [32, UInt8.ofNat r.lose]]
  | 4 => if r.line = 0 then [] else [wordR 4 ++ 32 :: Lib.decDigits r.line.toNat]
  | 5 => if r.reach = 0 then [] else [wordR 5 ++ [32, UInt8.ofNat r.reach]]
  | 6 => if r.stuck then [wordR 6] else []
  | 7 => [wordR 7 ++ 32 :: Lib.decDigits r.plies.toNat]
  | _ => []
def upR (r : RulesD) (n : Nat) : List (List UInt8) := (List.range n).flatMap (segR r)
def linesR (r : RulesD) : List (List UInt8) := upR r 8
/-- the text of rules -/
def textR (r : RulesD) : List UInt8 := joinL 10 (linesR r ++ [[]])
/-- a line of kind k, read -/
def LineK : Nat → List UInt8 → RulesD → RulesD → Prop
  | 0, x, r, r' => ∃ p, PosOk p ∧ x = wordR 0 ++ 32 :: textL p ∧ r' = { r with start := p }
  | 1, x, r, r' => ∃ p, PieceIn p ∧ x = wordR 1 ++ tailP p ∧ r' = { r with pieces := r.pieces ++ [p] }
  | 2, x, r, r' => x = wordR 2 ∧ r' = { r with drops := true }
  | 3, x, r, r' => ∃ n, upB n = true ∧ x = wordR 3 ++ [32, UInt8.ofNat n] ∧ r' = { r with lose := n }
  | 4, x, r, r' => ∃ m : Nat, 0 < m ∧ m ≤ 9999 ∧ x = wordR 4 ++ 32 :: Lib.decDigits m ∧ r' = { r with line := m }
  | 5, x, r, r' => ∃ n, upB n = true ∧ x = wordR 5 ++ [32, UInt8.ofNat n] ∧ r' = { r with reach := n }
  | 6, x, r, r' => x = wordR 6 ∧ r' = { r with stuck := true }
  | 7, x, r, r' => ∃ m : Nat, m ≤ 9999 ∧ x = wordR 7 ++ 32 :: Lib.decDigits m ∧ r' = { r with plies := m }
  | _, _, _, _ => False
/-- may a line of kind k stand behind lines below kind n? -/
def OrdR (k n : Nat) : Prop := (k = 0 ∧ n = 0) ∨ (k = 1 ∧ (n = 1 ∨ n = 2)) ∨ (2 ≤ k ∧ k ≤ 7 ∧ 2 ≤ n ∧ n ≤ k)
def zeroR : RulesD := ⟨zeroPos, [], false, 0, 0, 0, false, 0⟩
inductive RdR : List (List UInt8) → Nat → RulesD → Prop
  | nil : RdR [] 0 zeroR
  | step {ls : List (List UInt8)} {n k : Nat} {r r' : RulesD} {x : List UInt8} : RdR ls n r → OrdR k n → LineK k x r r' → RdR (ls ++ [x]) (k + 1) r'
/-- what has not been read yet is as it was -/
structure RestR (n : Nat) (r : RulesD) : Prop where
  p : n ≤ 1 → r.pieces = []
  d : n ≤ 2 → r.drops = false
  lo : n ≤ 3 → r.lose = 0
  li : n ≤ 4 → r.line = 0
  re : n ≤ 5 → r.reach = 0
  st : n ≤ 6 → r.stuck = false
theorem upR_succ (r : RulesD) (n : Nat) : upR r (n + 1) = upR r n ++ segR r n := by simp [upR, List.range_succ]
theorem upR_same {r r' : RulesD} : ∀ {n : Nat}, (∀ j, j < n → segR r' j = segR r j) → upR r' n = upR r n
  | 0, _ => rfl
  | n + 1, h => by rw [upR_succ, upR_succ, upR_same (fun j hj => h j (by omega)), h n (by omega)]
theorem upR_more {r : RulesD} {n : Nat} : ∀ {k : Nat}, n ≤ k → (∀ j, n ≤ j → j < k → segR r j = []) → upR r k = upR r n
  | 0, h, _ => by rw [show n = 0 by omega]
  | k + 1, h, he => by
    by_cases e : n = k + 1
    · rw [e]
    · rw [upR_succ, upR_more (k := k) (by omega) (fun j h1 h2 => he j h1 (by omega)), he k (by omega) (by omega), List.append_nil]
theorem rest_empty {n j : Nat} {r : RulesD} (h : RestR n r) (h2 : 2 ≤ j) (hn : n ≤ j) (h6 : j ≤ 6) : segR r j = [] := by
  rcases (show j = 2 ∨ j = 3 ∨ j = 4 ∨ j = 5 ∨ j = 6 by omega) with rfl | rfl | rfl | rfl | rfl
  · simp [segR, h.d hn]
  · simp [segR, h.lo hn]
  · simp [segR, h.li hn]
  · simp [segR, h.re hn]
  · simp [segR, h.st hn]
theorem up_ne {n : Nat} (h : upB n = true) : n ≠ 0 := fun e => by subst e; exact absurd h (by decide)
/-- what has been read is the text of it -/
theorem rd_up {ls : List (List UInt8)} {n : Nat} {r : RulesD} (h : RdR ls n r) : ls = upR r n ∧ RestR n r := by
  induction h with
  | nil => exact ⟨rfl, ⟨fun _ => rfl, fun _ => rfl, fun _ => rfl, fun _ => rfl, fun _ => rfl, fun _ => rfl⟩⟩
  | @step ls n k r r' x _ ho hl ih =>
    obtain ⟨e, hR⟩ := ih
    rcases ho with ⟨rfl, rfl⟩ | ⟨rfl, hn⟩ | ⟨h2, h7, hn2, hnk⟩
    · obtain ⟨p, hp, rfl, rfl⟩ := hl
      refine ⟨by rw [e]; simp [upR, segR], ⟨fun _ => hR.p (by omega), fun _ => hR.d (by omega), fun _ => hR.lo (by omega), fun _ => hR.li (by omega), fun _ => hR.re (by omega), fun _ => hR.st (by omega)⟩⟩
    · obtain ⟨p, hp, rfl, rfl⟩ := hl
      refine ⟨?_, ⟨fun h => by omega, fun _ => hR.d (by omega), fun _ => hR.lo (by omega), fun _ => hR.li (by omega), fun _ => hR.re (by omega), fun _ => hR.st (by omega)⟩⟩
      rw [e]
      rcases hn with rfl | rfl
      · simp [upR, segR, List.range_succ, hR.p (by omega)]
      · simp [upR, segR, List.range_succ]
    · have hup : upR r k = ls := by rw [e]; exact upR_more hnk (fun j h1 h3 => rest_empty hR (by omega) h1 (by omega))
      have key : ∀ r1 : RulesD, (∀ j, j < k → segR r1 j = segR r j) → segR r1 k = [x] → ls ++ [x] = upR r1 (k + 1) := fun r1 h1 h3 => by rw [upR_succ, upR_same h1, hup, h3]
      rcases (show k = 2 ∨ k = 3 ∨ k = 4 ∨ k = 5 ∨ k = 6 ∨ k = 7 by omega) with rfl | rfl | rfl | rfl | rfl | rfl
      · obtain ⟨rfl, rfl⟩ := hl
        refine ⟨key _ (fun j hj => ?_) (by simp [segR]), ⟨fun h => by omega, fun h => by omega, fun _ => hR.lo (by omega), fun _ => hR.li (by omega), fun _ => hR.re (by omega), fun _ => hR.st (by omega)⟩⟩
        rcases (show j = 0 ∨ j = 1 by omega) with rfl | rfl <;> rfl
      · obtain ⟨c, hc, rfl, rfl⟩ := hl
        refine ⟨key _ (fun j hj => ?_) (by simp [segR, up_ne hc]), ⟨fun h => by omega, fun h => by omega, fun h => by omega, fun _ => hR.li (by omega), fun _ => hR.re (by omega), fun _ => hR.st (by omega)⟩⟩
        rcases (show j = 0 ∨ j = 1 ∨ j = 2 by omega) with rfl | rfl | rfl <;> rfl
      · obtain ⟨m, h0, h9, rfl, rfl⟩ := hl
        refine ⟨key _ (fun j hj => ?_) (by simp [segR]; omega), ⟨fun h => by omega, fun h => by omega, fun h => by omega, fun h => by omega, fun _ => hR.re (by omega), fun _ => hR.st (by omega)⟩⟩
        rcases (show j = 0 ∨ j = 1 ∨ j = 2 ∨ j = 3 by omega) with rfl | rfl | rfl | rfl <;> rfl
      · obtain ⟨c, hc, rfl, rfl⟩ := hl
        refine ⟨key _ (fun j hj => ?_) (by simp [segR, up_ne hc]), ⟨fun h => by omega, fun h => by omega, fun h => by omega, fun h => by omega, fun h => by omega, fun _ => hR.st (by omega)⟩⟩
        rcases (show j = 0 ∨ j = 1 ∨ j = 2 ∨ j = 3 ∨ j = 4 by omega) with rfl | rfl | rfl | rfl | rfl <;> rfl
      · obtain ⟨rfl, rfl⟩ := hl
        refine ⟨key _ (fun j hj => ?_) (by simp [segR]), ⟨fun h => by omega, fun h => by omega, fun h => by omega, fun h => by omega, fun h => by omega, fun h => by omega⟩⟩
        rcases (show j = 0 ∨ j = 1 ∨ j = 2 ∨ j = 3 ∨ j = 4 ∨ j = 5 by omega) with rfl | rfl | rfl | rfl | rfl | rfl <;> rfl
      · obtain ⟨m, h9, rfl, rfl⟩ := hl
        refine ⟨key _ (fun j hj => ?_) (by simp [segR]), ⟨fun h => by omega, fun h => by omega, fun h => by omega, fun h => by omega, fun h => by omega, fun h => by omega⟩⟩
        rcases (show j = 0 ∨ j = 1 ∨ j = 2 ∨ j = 3 ∨ j = 4 ∨ j = 5 ∨ j = 6 by omega) with rfl | rfl | rfl | rfl | rfl | rfl | rfl <;> rfl
end Go.Proofs.YtcdfeaodfmfdnaaGreatDoor
namespace Go.Proofs.YtcdfeaodfmfdnaaGreatDoor

theorem cut1_yes {a r : List UInt8} {c : UInt8} (h : c ∉ a) : Lib.cut (a ++ c :: r) [c] = (a, r, true) := by
  have hi : Lib.index (a ++ c :: r) [c] = a.length := by
    refine Lib.index_first (by simp) ?_ (fun j hj => ?_)
    · unfold Lib.occAt; simp
    · unfold Lib.occAt
      rw [List.drop_append_of_le_length (by omega), List.drop_eq_getElem_cons hj]
      have : (c == a[j]) = false := beq_eq_false_iff_ne.2 fun e => h (e ▸ List.getElem_mem hj)
      simp only [List.cons_append, List.isPrefixOf, this, Bool.false_and]
  unfold Lib.cut
  rw [hi, if_pos (by omega)]
  simp [List.drop_append]
theorem cut1_none {a : List UInt8} {c : UInt8} (h : c ∉ a) : Lib.cut a [c] = (a, [], false) := by
  have hi : Lib.index a [c] = -1 := by
    refine Lib.index_none (fun j hj => ?_)
    unfold Lib.occAt
    by_cases e : j < a.length
    · rw [List.drop_eq_getElem_cons e]
      have : (c == a[j]) = false := beq_eq_false_iff_ne.2 fun e2 => h (e2 ▸ List.getElem_mem e)
      simp only [List.isPrefixOf, this, Bool.false_and]
    · rw [List.drop_eq_nil_of_le (by omega)]; rfl
  unfold Lib.cut
  rw [hi, if_neg (by omega)]
theorem word_no {k : Nat} (h : k ≤ 7) : (32 : UInt8) ∉ wordR k := by
  rcases (show k = 0 ∨ k = 1 ∨ k = 2 ∨ k = 3 ∨ k = 4 ∨ k = 5 ∨ k = 6 ∨ k = 7 by omega) with rfl | rfl | rfl | rfl | rfl | rfl | rfl | rfl <;> decide
theorem word_inj {k k' : Nat} (h : k ≤ 7) (h' : k' ≤ 7) (e : wordR k = wordR k') : k = k' := by
  have key : ∀ a b : Fin 8, wordR a.val = wordR b.val → a = b := by decide
  have := key ⟨k, by omega⟩ ⟨k', by omega⟩ e
  exact congrArg Fin.val this
/-- the first word of a line -/
theorem line_word {k : Nat} {x : List UInt8} {r r' : RulesD} (h : LineK k x r r') : k ≤ 7 ∧ (Lib.cut x [32]).1 = wordR k := by
  match k, h with
  | 0, h => obtain ⟨p, _, rfl, _⟩ := h; exact ⟨by omega, by rw [cut1_yes (word_no (by omega))]⟩
  | 1, h => obtain ⟨p, _, rfl, _⟩ := h; exact ⟨by omega, by rw [tailP, cut1_yes (word_no (by omega))]⟩
  | 2, h => obtain ⟨rfl, _⟩ := h; exact ⟨by omega, by rw [cut1_none (word_no (by omega))]⟩
  | 3, h => obtain ⟨n, _, rfl, _⟩ := h; exact ⟨by omega, by rw [cut1_yes (word_no (by omega))]⟩
  | 4, h => obtain ⟨m, _, _, rfl, _⟩ := h; exact ⟨by omega, by rw [cut1_yes (word_no (by omega))]⟩
  | 5, h => obtain ⟨n, _, rfl, _⟩ := h; exact ⟨by omega, by rw [cut1_yes (word_no (by omega))]⟩
  | 6, h => obtain ⟨rfl, _⟩ := h; exact ⟨by omega, by rw [cut1_none (word_no (by omega))]⟩
  | 7, h => obtain ⟨m, _, rfl, _⟩ := h; exact ⟨by omega, by rw [cut1_yes (word_no (by omega))]⟩
theorem dec_inj {m m' : Nat} (h : Lib.decDigits m = Lib.decDigits m') : m = m' := by
  have h1 := atoi_dec m
  rw [h, atoi_dec m'] at h1
  injection h1 with h1
  omega
theorem let_inj {n n' : Nat} (h : upB n = true) (h' : upB n' = true) (e : UInt8.ofNat n = UInt8.ofNat n') : n = n' := by
  rw [← up_small h, ← up_small h', e]
theorem textL_inj {p p' : Pos} (h : PosOk p) (h' : PosOk p') (e : textL p = textL p') : p = p' := by
  obtain ⟨st, h1, _, h3⟩ := text_taken h
  obtain ⟨st', h1', _, h3'⟩ := text_taken h'
  rw [e, h1'] at h1
  injection h1 with h1
  rw [← h3, ← h3', h1]
theorem wayL_inj {w w' : WayD} (h : WayIn w) (h' : WayIn w') (e : wayL w = wayL w') : w = w' := by
  have key : ∀ {w : WayD}, WayIn w → ∃ mx my : Nat, w.x = mx ∧ w.y = my ∧ splitL 32 (wayL w) = kindL w.kind :: Lib.decDigits mx :: splitL 32 (Lib.decDigits my ++ takeL w.take) ∧
      splitL 32 (Lib.decDigits my ++ takeL w.take) = if w.take = 0 then [Lib.decDigits my] else [Lib.decDigits my, (takeL w.take).tail] := by
    intro w h
    obtain ⟨hk, ht, ⟨mx, ex, _⟩, my, ey, _⟩ := h
    have n1 : (32 : UInt8) ∉ Lib.decDigits mx := dec_no (by decide)
    have n2 : (32 : UInt8) ∉ Lib.decDigits my := dec_no (by decide)
    refine ⟨mx, my, ex, ey, ?_, ?_⟩
    · rw [wayL, ex, ey, splitL_app (kind_no _), Int.toNat_natCast, splitL_app n1, Int.toNat_natCast]
    · rcases ht with h0 | h0 | h0
      · rw [h0, show takeL 0 = [] from rfl, List.append_nil, splitL_none n2, if_pos rfl]
      · rw [h0, show takeL 1 = 32 :: [116, 97, 107, 101] from rfl, splitL_app n2, if_neg (by decide)]; rfl
      · rw [h0, show takeL 2 = 32 :: [113, 117, 105, 101, 116] from rfl, splitL_app n2, if_neg (by decide)]; rfl
  obtain ⟨mx, my, ex, ey, s1, s2⟩ := key h
  obtain ⟨mx', my', ex', ey', s1', s2'⟩ := key h'
  rw [e, s1'] at s1
  injection s1 with k1 s1
  injection s1 with k2 k3
  rw [s2, s2'] at k3
  have hk : w.kind = w'.kind := by rw [← kindOf_L h.1, ← kindOf_L h'.1, k1]
  have hx : w.x = w'.x := by rw [ex, ex', dec_inj k2]
  have hyt : w.y = w'.y ∧ w.take = w'.take := by
    obtain ⟨_, ht, _, _⟩ := h
    obtain ⟨_, ht', _, _⟩ := h'
    rcases ht with t | t | t <;> rcases ht' with t' | t' | t' <;> rw [t, t'] at k3 <;> simp [takeL] at k3 <;> exact ⟨by rw [ey, ey', dec_inj (m := my) (m' := my') (by first | exact k3.symm | exact k3.1.symm)], by rw [t, t']⟩
  obtain ⟨a, b, c, d⟩ := w
  obtain ⟨a', b', c', d'⟩ := w'
  simp only at hk hx hyt
  obtain ⟨rfl, rfl⟩ := hyt
  subst hk; subst hx
  rfl
theorem map_inj' : ∀ {ws ws' : List WayD}, (∀ w ∈ ws, WayIn w) → (∀ w ∈ ws', WayIn w) → ws.map wayL = ws'.map wayL → ws = ws'
  | [], [], _, _, _ => rfl
  | [], b :: l, _, _, e => by simp at e
  | a :: l, [], _, _, e => by simp at e
  | a :: l, b :: l', h, h', e => by
    simp only [List.map_cons, List.cons.injEq] at e
    rw [wayL_inj (h a (by simp)) (h' b (by simp)) e.1, map_inj' (fun w hw => h w (List.mem_cons_of_mem _ hw)) (fun w hw => h' w (List.mem_cons_of_mem _ hw)) e.2]
theorem tailP_inj {p p' : PieceD} {w0 : List UInt8} (h : PieceIn p) (h' : PieceIn p') (h32 : (32 : UInt8) ∉ w0) (h58 : (58 : UInt8) ∉ w0) (e : w0 ++ tailP p = w0 ++ tailP p') : p = p' := by
  obtain ⟨a1, a2, a3⟩ := piece_parts h h32 h58 rfl
  obtain ⟨b1, b2, b3⟩ := piece_parts h' h32 h58 e
  rw [a1] at b1
  injection b1 with _ b1
  injection b1 with c1 b1
  injection b1 with c2 _
  injection c1 with c1 _
  rw [a2] at b2
  have hl := let_inj h.1 h'.1 c1
  obtain ⟨m, hm, _⟩ := h.2.1
  obtain ⟨m', hm', _⟩ := h'.2.1
  have hv : p.worth = p'.worth := by
    have := dec_inj c2
    rw [hm, hm'] at this ⊢
    simp at this
    rw [this]
  have hw : p.ways = p'.ways := by
    by_cases e1 : p.ways = []
    · by_cases e2 : p'.ways = []
      · rw [e1, e2]
      · simp [e1, e2] at b2
    · have e2 : p'.ways ≠ [] := fun e2 => by simp [e1, e2] at b2
      have h1 := a3 e1
      rw [b3 e2] at h1
      exact (map_inj' h'.2.2 h.2.2 h1).symm
  obtain ⟨a, b, c⟩ := p
  obtain ⟨a', b', c'⟩ := p'
  simp only at hl hv hw
  rw [hl, hv, hw]
/-- a line says one thing alone -/
theorem line_one {k k' : Nat} {x : List UInt8} {r r1 r2 : RulesD} (h : LineK k x r r1) (h' : LineK k' x r r2) : k = k' ∧ r1 = r2 := by
  obtain ⟨k7, w⟩ := line_word h
  obtain ⟨k7', w'⟩ := line_word h'
  obtain rfl := word_inj k7 k7' (by rw [← w, ← w'])
  refine ⟨rfl, ?_⟩
  match k, h, h' with
  | 0, h, h' =>
    obtain ⟨p, hp, e, rfl⟩ := h
    obtain ⟨p', hp', e', rfl⟩ := h'
    rw [e] at e'
    have e2 := List.append_cancel_left e'
    injection e2 with _ e2
    rw [textL_inj hp hp' e2]
  | 1, h, h' =>
    obtain ⟨p, hp, e, rfl⟩ := h
    obtain ⟨p', hp', e', rfl⟩ := h'
    rw [e] at e'
    rw [tailP_inj hp hp' (w0 := wordR 1) (by decide) (by decide) e']
  | 2, h, h' => rw [h.2, h'.2]
  | 3, h, h' =>
    obtain ⟨p, hp, e, rfl⟩ := h
    obtain ⟨p', hp', e', rfl⟩ := h'
    rw [e] at e'
    have e2 := List.append_cancel_left e'
    simp only [List.cons.injEq, true_and, and_true] at e2
    rw [let_inj hp hp' e2]
  | 4, h, h' =>
    obtain ⟨m, _, _, e, rfl⟩ := h
    obtain ⟨m', _, _, e', rfl⟩ := h'
    rw [e] at e'
    have e2 := List.append_cancel_left e'
    injection e2 with _ e2
    rw [dec_inj e2]
  | 5, h, h' =>
    obtain ⟨p, hp, e, rfl⟩ := h
    obtain ⟨p', hp', e', rfl⟩ := h'
    rw [e] at e'
    have e2 := List.append_cancel_left e'
    simp only [List.cons.injEq, true_and, and_true] at e2
    rw [let_inj hp hp' e2]
  | 6, h, h' => rw [h.2, h'.2]
  | 7, h, h' =>
    obtain ⟨m, _, e, rfl⟩ := h
    obtain ⟨m', _, e', rfl⟩ := h'
    rw [e] at e'
    have e2 := List.append_cancel_left e'
    injection e2 with _ e2
    rw [dec_inj e2]
theorem rd_inv {ls : List (List UInt8)} {n : Nat} {r : RulesD} (h : RdR ls n r) : (ls = [] ∧ n = 0 ∧ r = zeroR) ∨ ∃ ls0 n0 k r0 x, ls = ls0 ++ [x] ∧ n = k + 1 ∧ RdR ls0 n0 r0 ∧ OrdR k n0 ∧ LineK k x r0 r := by
  cases h with
  | nil => exact .inl ⟨rfl, rfl, rfl⟩
  | step h1 h2 h3 => exact .inr ⟨_, _, _, _, _, rfl, rfl, h1, h2, h3⟩
/-- what has been read is told by the lines -/
theorem rd_one {ls : List (List UInt8)} {n : Nat} {r : RulesD} (h : RdR ls n r) : ∀ {n' : Nat} {r' : RulesD}, RdR ls n' r' → n = n' ∧ r = r' := by
  induction h with
  | nil =>
    intro n' r' h'
    rcases rd_inv h' with ⟨_, rfl, rfl⟩ | ⟨ls0, n0, k, r0, x, e, _⟩
    · exact ⟨rfl, rfl⟩
    · simp at e
  | @step ls n k r r1 x _ ho hl ih =>
    intro n' r' h'
    rcases rd_inv h' with ⟨e, _⟩ | ⟨ls0, n0, k', r0, x', e, rfl, h1, _, h3⟩
    · simp at e
    · obtain ⟨e1, e2⟩ := List.append_inj' e rfl
      simp only [List.cons.injEq, and_true] at e2
      subst e1; subst e2
      obtain ⟨rfl, rfl⟩ := ih h1
      obtain ⟨rfl, rfl⟩ := line_one hl h3
      exact ⟨rfl, rfl⟩
/-- a beginning of lines that can be read can be read, and the next line too -/
theorem rd_begin : ∀ {b a : List (List UInt8)} {x : List UInt8} {n : Nat} {r : RulesD}, RdR (a ++ x :: b) n r → ∃ n1 r1 k r2, RdR a n1 r1 ∧ OrdR k n1 ∧ LineK k x r1 r2 := by
  intro b
  induction b using snoc_ind with
  | h0 =>
    intro a x n r h
    rcases rd_inv h with ⟨e, _⟩ | ⟨ls0, n0, k, r0, x', e, _, h1, h2, h3⟩
    · simp at e
    · obtain ⟨e1, e2⟩ := List.append_inj' e rfl
      simp only [List.cons.injEq, and_true] at e2
      subst e1; subst e2
      exact ⟨_, _, _, _, h1, h2, h3⟩
  | h1 l c ih =>
    intro a x n r h
    rcases rd_inv h with ⟨e, _⟩ | ⟨ls0, n0, k, r0, x', e, _, h1, _, _⟩
    · simp at e
    · have e' : a ++ x :: (l ++ [c]) = (a ++ x :: l) ++ [c] := by simp
      rw [e'] at e
      obtain ⟨e1, _⟩ := List.append_inj' e rfl
      rw [← e1] at h1
      exact ih h1
end Go.Proofs.YtcdfeaodfmfdnaaGreatDoor
namespace Go.Proofs.YtcdfeaodfmfdnaaGreatDoor

theorem way_in {w : WayD} (h : WayOk w) : WayIn w := by
  obtain ⟨h1, h2, h3, h4, h5, h6, _, _, h9, h10⟩ := h
  exact ⟨by omega, by omega, ⟨w.x.toNat, by omega, by omega⟩, ⟨w.y.toNat, by omega, by omega⟩⟩
theorem piece_in {ps : List PieceD} {i : Nat} {p : PieceD} (h : PieceOk ps i p) : PieceIn p := by
  have h0 := h.w0
  have h1 := h.w1
  refine ⟨h.letter, ⟨p.worth.toNat, by omega, by omega⟩, fun w hw => ?_⟩
  obtain ⟨k, hk, rfl⟩ := List.getElem_of_mem hw
  exact way_in (h.ways k hk)
theorem rd_pieces : ∀ (ps : List PieceD) {ls : List (List UInt8)} {n : Nat} {r : RulesD}, (∀ p ∈ ps, PieceIn p) → RdR ls n r → (n = 1 ∨ n = 2) → ps ≠ [] → RdR (ls ++ ps.map fun p => wordR 1 ++ tailP p) 2 { r with pieces := r.pieces ++ ps }
  | [], _, _, _, _, _, _, h => absurd rfl h
  | [p], ls, n, r, h, hr, hn, _ => by
    have := RdR.step (k := 1) (x := wordR 1 ++ tailP p) (r' := { r with pieces := r.pieces ++ [p] }) hr (.inr (.inl ⟨rfl, hn⟩)) ⟨p, h p (by simp), rfl, rfl⟩
    simpa using this
  | p :: q :: l, ls, n, r, h, hr, hn, _ => by
    have h1 := RdR.step (k := 1) (x := wordR 1 ++ tailP p) (r' := { r with pieces := r.pieces ++ [p] }) hr (.inr (.inl ⟨rfl, hn⟩)) ⟨p, h p (by simp), rfl, rfl⟩
    have h2 := rd_pieces (q :: l) (fun x hx => h x (List.mem_cons_of_mem _ hx)) h1 (.inr rfl) (by simp)
    simpa using h2
/-- one more kind of line: there, or not -/
theorem rd_opt {ls : List (List UInt8)} {n k : Nat} {r r' : RulesD} (h : ∃ n, 2 ≤ n ∧ n ≤ k ∧ RdR ls n r) (h2 : 2 ≤ k) (h6 : k ≤ 6) (hs : (segR r' k = [] ∧ r' = r) ∨ ∃ x, segR r' k = [x] ∧ LineK k x r r') (hn : n = k + 1) : ∃ m, 2 ≤ m ∧ m ≤ n ∧ RdR (ls ++ segR r' k) m r' := by
  obtain ⟨m, m2, mk, hr⟩ := h
  subst hn
  rcases hs with ⟨e, rfl⟩ | ⟨x, e, hl⟩
  · rw [e, List.append_nil]
    exact ⟨m, m2, by omega, hr⟩
  · rw [e]
    exact ⟨k + 1, by omega, by omega, RdR.step hr (.inr (.inr ⟨h2, by omega, m2, mk⟩)) hl⟩
theorem rules_read {r : RulesD} (h : RulesOk r) : RdR (linesR r) 8 r := by
  obtain ⟨start, pieces, drops, lose, line, reach, stuck, plies⟩ := r
  have g0 : RdR ([] ++ [wordR 0 ++ 32 :: textL start]) 1 { zeroR with start := start } := RdR.step (k := 0) RdR.nil (.inl ⟨rfl, rfl⟩) ⟨start, h.start, rfl, rfl⟩
  have hps : ∀ p ∈ pieces, PieceIn p := fun p hp => by
    obtain ⟨i, hi, rfl⟩ := List.getElem_of_mem hp
    exact piece_in (h.pieces i hi)
  have hne : pieces ≠ [] := fun e => by have := h.p1; simp only [e, List.length_nil] at this; omega
  have g1 := rd_pieces pieces hps g0 (.inl rfl) hne
  simp only [List.nil_append, zeroR] at g1
  have o2 := rd_opt (k := 2) (n := 3) (r' := ⟨start, pieces, drops, 0, 0, 0, false, 0⟩) ⟨2, by omega, by omega, g1⟩ (by omega) (by omega) (by
    cases drops
    · exact .inl ⟨rfl, rfl⟩
    · exact .inr ⟨_, rfl, rfl, rfl⟩) rfl
  have o3 := rd_opt (k := 3) (n := 4) (r' := ⟨start, pieces, drops, lose, 0, 0, false, 0⟩) o2 (by omega) (by omega) (by
    by_cases e : lose = 0
    · subst e; exact .inl ⟨rfl, rfl⟩
    · rcases h.lose with h1 | h1
      · exact absurd h1 e
      · exact .inr ⟨wordR 3 ++ [32, UInt8.ofNat lose], by simp [segR, e], lose, h1.1, rfl, rfl⟩) rfl
  have o4 := rd_opt (k := 4) (n := 5) (r' := ⟨start, pieces, drops, lose, line, 0, false, 0⟩) o3 (by omega) (by omega) (by
    rcases h.line with e | ⟨e1, e2⟩
    · simp only at e
      subst e; exact .inl ⟨rfl, rfl⟩
    · simp only at e1 e2
      have e3 : line ≠ 0 := by omega
      exact .inr ⟨wordR 4 ++ 32 :: Lib.decDigits line.toNat, by simp [segR, e3], line.toNat, by omega, by omega, rfl, by simp; omega⟩) rfl
  have o5 := rd_opt (k := 5) (n := 6) (r' := ⟨start, pieces, drops, lose, line, reach, false, 0⟩) o4 (by omega) (by omega) (by
    by_cases e : reach = 0
    · subst e; exact .inl ⟨rfl, rfl⟩
    · rcases h.reach with h1 | h1
      · exact absurd h1 e
      · exact .inr ⟨wordR 5 ++ [32, UInt8.ofNat reach], by simp [segR, e], reach, h1.1, rfl, rfl⟩) rfl
  have o6 := rd_opt (k := 6) (n := 7) (r' := ⟨start, pieces, drops, lose, line, reach, stuck, 0⟩) o5 (by omega) (by omega) (by
    cases stuck
    · exact .inl ⟨rfl, rfl⟩
    · exact .inr ⟨_, rfl, rfl, rfl⟩) rfl
  obtain ⟨m, m2, m7, hm⟩ := o6
  have p1 := h.pl1
  have p2 := h.pl2
  simp only at p1 p2
  have g7 := RdR.step (k := 7) (x := wordR 7 ++ 32 :: Lib.decDigits plies.toNat) (r' := ⟨start, pieces, drops, lose, line, reach, stuck, plies⟩) hm (.inr (.inr ⟨by omega, by omega, m2, m7⟩)) ⟨plies.toNat, by omega, rfl, by simp; omega⟩
  have e : linesR ⟨start, pieces, drops, lose, line, reach, stuck, plies⟩ = ([wordR 0 ++ 32 :: textL start] ++ (pieces.map fun p => wordR 1 ++ tailP p) ++ segR ⟨start, pieces, drops, 0, 0, 0, false, 0⟩ 2 ++ segR ⟨start, pieces, drops, lose, 0, 0, false, 0⟩ 3 ++ segR ⟨start, pieces, drops, lose, line, 0, false, 0⟩ 4 ++ segR ⟨start, pieces, drops, lose, line, reach, false, 0⟩ 5 ++ segR ⟨start, pieces, drops, lose, line, reach, stuck, 0⟩ 6) ++ [wordR 7 ++ 32 :: Lib.decDigits plies.toNat] := by
    unfold linesR
    iterate 8 rw [upR_succ]
    simp [upR, segR]
  rw [e]
  simpa using g7
/-- lines read to the end are the text's -/
theorem read_rules {ls : List (List UInt8)} {r : RulesD} (h : RdR ls 8 r) : ls = linesR r := (rd_up h).1
end Go.Proofs.YtcdfeaodfmfdnaaGreatDoor
