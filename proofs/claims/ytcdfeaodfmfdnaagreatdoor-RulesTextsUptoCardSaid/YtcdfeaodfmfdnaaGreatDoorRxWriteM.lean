/- rules.Write, plainly: how long the lines are; a piece's line as it grows. rules.Write: what its walk leans on. rules.Write at right rules: walked. -/
import Derived.Test.YtcdfeaodfmfdnaaGreatDoorRxLineM
import Derived.Test.YtcdfeaodfmfdnaaGreatDoorBxWrite
import Derived.Test.YtcdfeaodfmfdnaaGreatDoorOwn
import Derived.Deep.RegionHeld
namespace Go.Proofs.YtcdfeaodfmfdnaaGreatDoor

def headL (p : PieceD) : List UInt8 := wordR 1 ++ 32 :: UInt8.ofNat p.letter :: 32 :: Lib.decDigits p.worth.toNat
theorem piece_head (p : PieceD) : wordR 1 ++ tailP p = headL p ++ waysL p.ways := by simp [headL, tailP]
theorem joinS_snoc {sep : List UInt8} : ∀ {l : List (List UInt8)} {a : List UInt8}, l ≠ [] → joinS sep (l ++ [a]) = joinS sep l ++ (sep ++ a)
  | [], _, h => absurd rfl h
  | [b], a, _ => by simp [joinS]
  | b :: d :: l, a, _ => by
    have h1 : (d :: l : List (List UInt8)) ≠ [] := by simp
    have h2 : (d :: l) ++ [a] ≠ [] := by simp
    rw [List.cons_append, joinS_cons h2, joinS_cons h1, joinS_snoc h1]
    simp
theorem waysL_nil : waysL [] = [] := by simp [waysL]
theorem waysL_snoc (ws : List WayD) (w : WayD) : waysL (ws ++ [w]) = waysL ws ++ ((if ws.length = 0 then [58, 32] else [44, 32]) ++ wayL w) := by
  cases ws with
  | nil => simp [waysL, joinS]
  | cons a ws =>
    have h : (a :: ws).map wayL ≠ [] := by simp
    unfold waysL
    rw [if_neg (by simp), if_neg (by simp), if_neg (by simp), List.map_append, List.map_singleton, joinS_snoc h]
    simp
theorem wayL_len {w : WayD} (h : WayOk w) : (wayL w).length ≤ 21 := by
  obtain ⟨h1, h2, h3, h4, h5, h6, _, _, h9, h10⟩ := h
  have a1 := dec_len (m := w.x.toNat) (by omega)
  have a2 := dec_len (m := w.y.toNat) (by omega)
  have a3 : (kindL w.kind).length ≤ 5 := by unfold kindL; repeat (first | decide | split)
  have a4 : (takeL w.take).length ≤ 6 := by unfold takeL; repeat (first | decide | split)
  unfold wayL
  simp only [List.length_append, List.length_cons]
  omega
theorem waysL_len : ∀ {ws : List WayD}, (∀ w ∈ ws, WayOk w) → (waysL ws).length ≤ 23 * ws.length := by
  intro ws
  induction ws using snoc_ind with
  | h0 => intro _; simp [waysL_nil]
  | h1 l c ih =>
    intro h
    have h1 := ih (fun w hw => h w (List.mem_append_left _ hw))
    have h2 := wayL_len (h c (by simp))
    rw [waysL_snoc]
    simp only [List.length_append, List.length_singleton]
    split <;> simp only [List.length_cons, List.length_nil] <;> omega
theorem textL_len {p : Pos} (h : PosOk p) : (textL p).length ≤ 100 := by
  obtain ⟨w1, w8, h1, h8, hs, _, _, hh0, hh1, _⟩ := h
  have d : ∀ s : ByteArray, handB s = true → (dashL s.data.toList).length ≤ 9 := fun s hs => by
    have := (handB_true.1 hs).1
    unfold dashL
    split
    · simp
    · omega
  have d0 := d _ hh0
  have d1 := d _ hh1
  have hl : p.cells.data.toList.length = p.w.toNat * p.h.toNat := by
    have e : p.cells.data.toList.length = p.cells.size := by simp
    have e2 : ((p.w.toNat * p.h.toNat : Nat) : Int) = p.w * p.h := by
      rw [Int.natCast_mul, Int.toNat_of_nonneg (by omega), Int.toNat_of_nonneg (by omega)]
    omega
  have hj := joinK_len hl (Nat.le_refl _) (by omega) (by omega)
  unfold textL
  split <;> simp only [List.length_append, List.length_cons, List.length_nil] <;> omega
theorem head_len {p : PieceD} (h : p.worth ≤ 9999) : (headL p).length ≤ 12 := by
  have := dec_len (m := p.worth.toNat) (by omega)
  simp only [headL, wordR, List.length_append, List.length_cons, List.length_nil]
  omega
theorem seg_len {r : RulesD} (h : RulesOk r) {k : Nat} {a : List UInt8} (ha : a ∈ segR r k) : a.length ≤ 400 := by
  have hl := h.line
  have hp := h.pl2
  have hd1 := dec_len (m := r.line.toNat) (by omega)
  have hd2 := dec_len (m := r.plies.toNat) (by omega)
  match k, ha with
  | 0, ha =>
    have := textL_len h.start
    rw [List.mem_singleton.1 (show a ∈ [wordR 0 ++ 32 :: textL r.start] from ha)]
    simp only [wordR, List.length_append, List.length_cons, List.length_nil]; omega
  | 1, ha =>
    obtain ⟨p, hp, rfl⟩ := List.mem_map.1 (show a ∈ r.pieces.map _ from ha)
    obtain ⟨i, hi, rfl⟩ := List.getElem_of_mem hp
    have hok := h.pieces i hi
    have h1 := hok.w1
    have h2 := head_len (p := r.pieces[i]) (by omega)
    have h3 := waysL_len (ws := r.pieces[i].ways) (fun w hw => by
      obtain ⟨j, hj, rfl⟩ := List.getElem_of_mem hw
      exact hok.ways j hj)
    have h4 := hok.len
    rw [piece_head, List.length_append]
    omega
  | 2, ha => simp only [segR] at ha; split at ha <;> simp at ha; subst ha; simp [wordR]
  | 3, ha => simp only [segR] at ha; split at ha <;> simp at ha; subst ha; simp [wordR]
  | 4, ha => simp only [segR] at ha; split at ha <;> simp at ha; subst ha; simp [wordR]; omega
  | 5, ha => simp only [segR] at ha; split at ha <;> simp at ha; subst ha; simp [wordR]
  | 6, ha => simp only [segR] at ha; split at ha <;> simp at ha; subst ha; simp [wordR]
  | 7, ha =>
    rw [List.mem_singleton.1 (show a ∈ [wordR 7 ++ 32 :: Lib.decDigits r.plies.toNat] from ha)]
    simp only [wordR, List.length_append, List.length_cons, List.length_nil]; omega
theorem seg_count {r : RulesD} (h : RulesOk r) (k : Nat) : (segR r k).length ≤ 10 := by
  have := h.p10
  match k with
  | 0 => simp [segR]
  | 1 => simpa [segR] using this
  | 2 => simp only [segR]; split <;> simp
  | 3 => simp only [segR]; split <;> simp
  | 4 => simp only [segR]; split <;> simp
  | 5 => simp only [segR]; split <;> simp
  | 6 => simp only [segR]; split <;> simp
  | 7 => simp [segR]
  | _ + 8 => simp [segR]
theorem up_len {r : RulesD} (h : RulesOk r) : ∀ k, (upR r k).length ≤ 10 * k ∧ ∀ a ∈ upR r k, a.length ≤ 400
  | 0 => ⟨by simp [upR], fun a ha => by simp [upR] at ha⟩
  | k + 1 => by
    obtain ⟨h1, h2⟩ := up_len h k
    have h3 := seg_count h k
    rw [upR_succ]
    refine ⟨by rw [List.length_append]; omega, fun a ha => ?_⟩
    rcases List.mem_append.1 ha with h4 | h4
    · exact h2 a h4
    · exact seg_len h h4
theorem textR_len {r : RulesD} (h : RulesOk r) : (textR r).length ≤ 40000 := by
  obtain ⟨h1, h2⟩ := up_len h 8
  have h3 := joinL_le (c := 10) (m := 400) (xs := linesR r ++ [[]]) (fun a ha => by
    rcases List.mem_append.1 ha with h4 | h4
    · exact h2 a h4
    · rw [List.mem_singleton.1 h4]; simp)
  unfold textR
  have h4 : (linesR r ++ [[]]).length ≤ 81 := by rw [List.length_append, List.length_singleton]; unfold linesR; omega
  have := Nat.mul_le_mul_right (400 + 1) h4
  omega
end Go.Proofs.YtcdfeaodfmfdnaaGreatDoor
namespace Go.Proofs.YtcdfeaodfmfdnaaGreatDoor
open Go.RowKit

theorem itoa_any (n : Nat) (w : World) (h : n ≤ 9999) (he : Env w) :
    Calls Tryz.prog 29 #[.int .i64 (n : Int)] w fun e w' => e = .returned (.string (bytes (Lib.decDigits n))) ∧ Only (fun _ => False) w w' :=
  (Tryz.strconv_Itoa (n : Int) (by omega) (by omega) w he.tb).mono fun e w' ⟨h1, k, os, h2⟩ => ⟨by
    rw [h1]
    unfold Lib.itoa
    rw [if_neg (by omega), Int.toNat_natCast]; rfl, by rw [h2]; exact only_of_b (Lib.below_grow w.heap.size w (Nat.le_refl _) k os)⟩
theorem Cells.low {S : Nat → Prop} {w w' : World} {B : Nat} {A : Option Addr} {xs : List Value} (h : Cells w B A xs) (ho : Only S w w') (hS : ∀ k, S k → B ≤ k) (hB : B ≤ w.heap.size) : Cells w' B A xs := fun hn => by
  obtain ⟨b, off, e, hlt, hc⟩ := h hn
  exact ⟨b, off, e, hlt, fun k hk => by
    rw [← hc k hk]
    simp only [World.cell?, ho.block b (by omega) (fun hs => by have := hS b hs; omega)]⟩
theorem PiecesAt.low {S : Nat → Prop} {w w' : World} {B : Nat} {A : Option Addr} {ps : List PieceD} (h : PiecesAt w B A ps) (ho : Only S w w') (hS : ∀ k, S k → B ≤ k) (hB : B ≤ w.heap.size) : PiecesAt w' B A ps := by
  obtain ⟨hs, e, hc, hw⟩ := h
  exact ⟨hs, e, hc.low ho hS hB, fun k hk => ⟨(hw k hk).1, Cells.low (hw k hk).2 ho hS hB⟩⟩
/-- what stays while Write writes -/
structure WrS (W : World) (r : RulesD) (A : Option Addr) (cp : Nat) (w : World) : Prop where
  o : Only (fun _ => False) W w
  e : Env w
  b : Blk w W.heap.size 27 #[.int .i64 r.start.w, .int .i64 r.start.h, .string r.start.cells, .int .i64 r.start.turn, .string r.start.h0, .string r.start.h1, .slice A r.pieces.length cp, .bool r.drops, .int .u8 (r.lose : Int), .int .i64 r.line, .int .u8 (r.reach : Int), .bool r.stuck, .int .i64 r.plies]
  p : PiecesAt w W.heap.size A r.pieces
  sz : W.heap.size + 1 ≤ w.heap.size
theorem WrS.step {S : Nat → Prop} {W w w' : World} {r : RulesD} {A : Option Addr} {cp : Nat} (h : WrS W r A cp w) (hW : 5 < W.heap.size) (ho : Only S w w') (hS : ∀ x, S x → W.heap.size + 1 ≤ x) : WrS W r A cp w' :=
  have h1 : Only (fun _ => False) W w' := h.o.trans' ho (fun i hi hs => by have := hS i hs; omega)
  ⟨h1, h.e.step ho (fun x hx => by have := hS x hx; omega), h.b.only ho (fun hs => by have := hS _ hs; omega), h.p.low ho (fun k hk => by have := hS k hk; omega) (by have := h.sz; omega), Nat.le_trans h.sz ho.size⟩
theorem WrS.no {W w w' : World} {r : RulesD} {A : Option Addr} {cp : Nat} (h : WrS W r A cp w) (hW : 5 < W.heap.size) (ho : Only (fun _ => False) w w') : WrS W r A cp w' := h.step hW ho (fun _ h => h.elim)
/-- lines in a row of the call's own -/
def Ln (w : World) (g : Nat) (v : Value) (ls : List (List UInt8)) : Prop := w.ownsRow g 9 1 v ls.length (ls.map strV)
/-- append(l, lines...) -/
theorem wpList_line {ops : Array Oper} {rest : List Oper} {o : Oper} {a : Act} {Q : Exit → Act → World → Prop} (w : World) (hgd : o.guard = none) (s x : Operand)
    (ho : o.op = .call { callee := .builtin .append, args := #[s, x], argTypes := #[74, 74] }) (B : Nat) (v : Value) (ls news : List (List UInt8)) (m : Nat) (hm : news.length = m) (hs : a.eval s = v) (hown : Ln w B v ls) (g : Nat)
    (hx : a.eval x = .slice (some ⟨g, 0, none⟩) m m) (hblk : Blk w g 9 (news.map strV).toArray) (hlen : ls.length + news.length ≤ 1000) (hB : B ≤ w.heap.size)
    (h : ∀ v' w', Ln w' B v' (ls ++ news) → Only (fun k => v.ownBlock = some k) w w' → wpList Tryz.prog ops Q rest (a.put o.dst v') w') : wpList Tryz.prog ops Q (o :: rest) a w := by
  subst hm
  obtain ⟨i0, hi, hz0, hz1, hz2⟩ := infoP info_string
  refine wpList_append_own_at w hgd s x _ ho B 9 i0 (.string ⟨#[]⟩) 1 16 Tryz.underlying74 hi hz0 hz1 hz2 rfl (by decide) v ls.length (ls.map strV) hs hown ⟨g, 0, none⟩ news.length news.length (news.map strV) hx (by simp) ?_ (fun u hu => ?_) (by unfold maxLen; omega) (by omega) hB ?_
  · intro j u hj
    rw [Addr.add_lit, Nat.zero_add]
    exact hblk.cellv (by simpa using hj)
  · obtain ⟨a, _, rfl⟩ := List.mem_map.1 hu
    rfl
  · intro v' w' h1 h2 _ _
    refine h v' w' ?_ ((Only.refl _ _).grown h2 (fun k hk => .inl hk))
    unfold Ln
    rw [List.length_append, List.map_append]
    exact h1
theorem Ln.one (w : World) (B : Nat) (l : List UInt8) (h : B ≤ w.heap.size) : Ln (w.alloc (.cells #[strV l] 9)) B (.slice (some ⟨w.heap.size, 0, none⟩) 1 1) [l] :=
  ⟨rfl, .inr ⟨w.heap.size, 1, #[strV l], rfl, h, Blk.new w _ _, Nat.le_refl _, by unfold maxLen; omega, rfl, rfl⟩⟩
theorem cat_word (a : List UInt8) (b : ByteArray) (l : List UInt8) (h : bytes l = b) : bytes a ++ b = bytes (a ++ l) := by rw [← h, bytes_cat]
/-- strings.Join of lines -/
theorem join_joinL (c : UInt8) : ∀ l : List (List UInt8), Go.Lib.join l [c] = joinL c l := by
  intro l
  unfold Go.Lib.join
  induction l with
  | nil => rfl
  | cons a l ih =>
    cases l with
    | nil => simp [List.intercalate, joinL]
    | cons b l =>
      rw [joinL_cons (by simp), ← ih]
      simp [List.intercalate]
theorem join_lines (w : World) (B : Nat) (v : Value) (ls : List (List UInt8)) (h : Ln w B v ls) (hne : 0 < ls.length) (hc : ls.length ≤ 1000) (hb : (joinL 10 ls).length ≤ 100000) :
    Calls Tryz.prog 32 #[v, .string ⟨#[10]⟩] w fun e w' => e = .returned (.string (bytes (joinL 10 ls))) ∧ Below w.heap.size w w' := by
  obtain ⟨g, c, hv, _, hg⟩ := World.ownsRow.form h hne
  obtain ⟨A, c', hv', hcap, hlen, hcell⟩ := Cells.of_ownK h
  rw [hv] at hv'
  injection hv' with e1 _ e3
  subst e1 e3
  have hmap : (ls.map bytes).map (fun x : ByteArray => x.data.toList) = ls := by
    rw [List.map_map]
    conv => rhs; rw [← List.map_id ls]
    refine List.map_congr_left (fun x _ => ?_)
    simp [bytes]
  have hj := Tryz.strings_Join g 0 c (ls.map bytes) ⟨#[10]⟩ w (fun j x hx => by
    rw [List.getElem?_map] at hx
    obtain ⟨a, ha, rfl⟩ := Option.map_eq_some_iff.1 hx
    obtain ⟨h1, h2⟩ := List.getElem?_eq_some_iff.1 ha
    obtain ⟨b, off, e, _, hk⟩ := hcell (by simpa using hne)
    injection e with e
    injection e with e1 e2 _
    have := hk j (by simpa using h1)
    rw [← e1, ← e2] at this
    rw [this]
    simp [strV, h2]) hg (by simp; omega) (by simpa using hcap) (by rw [hmap, show (⟨#[10]⟩ : ByteArray).data.toList = [10] from rfl, join_joinL]; omega)
  rw [List.length_map, hmap, show (⟨#[10]⟩ : ByteArray).data.toList = [10] from rfl, join_joinL] at hj
  rw [hv]
  exact hj.mono fun e w' ⟨h1, h2⟩ => ⟨h1, h2⟩
theorem enc_up {n : Nat} (h : upB n = true) : Utf8.encode (n : Int) = bytes [UInt8.ofNat n] := by
  have key : ∀ n : Nat, n < 128 → Utf8.encode (n : Int) = bytes [UInt8.ofNat n] := by decide +kernel
  have h1 : 65 ≤ n ∧ n ≤ 90 := by simpa [upB] using h
  exact key n (by omega)
theorem kind_any {k : Int} (h1 : 1 ≤ k) (h3 : k ≤ 3) (w : World) :
    Calls Tryz.prog 30 #[.int .i64 k] w fun e w' => e = .returned (.string (bytes (kindL k))) ∧ w' = w := by
  rcases (show k = 1 ∨ k = 2 ∨ k = 3 by omega) with rfl | rfl | rfl
  · exact kind_name1 w
  · exact kind_name2 w
  · exact kind_name3 w
theorem taken_any {k : Int} (h1 : 0 ≤ k) (h3 : k ≤ 2) (w : World) :
    Calls Tryz.prog 31 #[.int .i64 k] w fun e w' => e = .returned (.string (bytes (takeL k))) ∧ w' = w := by
  rcases (show k = 0 ∨ k = 1 ∨ k = 2 by omega) with rfl | rfl | rfl
  · exact take_name0 w
  · exact take_name1 w
  · exact take_name2 w
/-- what stands ahead of a way -/
def sepL (m : Nat) : List UInt8 := if m = 0 then [58, 32] else [44, 32]
theorem sep_idx0 (w : World) : (Instr.index 22 (.agg #[.string ⟨#[58, 32]⟩, .string ⟨#[44, 32]⟩]) (.int .i64 0)).run Tryz.prog w = .ok (.string ⟨#[58, 32]⟩) w := by kernel_rfl
theorem sep_idx1 (w : World) : (Instr.index 22 (.agg #[.string ⟨#[58, 32]⟩, .string ⟨#[44, 32]⟩]) (.int .i64 1)).run Tryz.prog w = .ok (.string ⟨#[44, 32]⟩) w := by kernel_rfl
theorem sep_any (k : Nat) : ∃ m : Int, min (k : Int) 1 = m ∧ ∀ w, (Instr.index 22 (.agg #[.string ⟨#[58, 32]⟩, .string ⟨#[44, 32]⟩]) (.int .i64 m)).run Tryz.prog w = .ok (.string (bytes (sepL k))) w := by
  by_cases h : k = 0
  · subst h; exact ⟨0, by omega, fun w => sep_idx0 w⟩
  · refine ⟨1, by omega, fun w => ?_⟩
    rw [show sepL k = [44, 32] by unfold sepL; rw [if_neg h]]
    exact sep_idx1 w
theorem way_text (s : List UInt8) (k : Nat) (w : WayD) (a b c d e f : ByteArray) (ha : bytes s = a) (hb : bytes (sepL k) = b) (hc : bytes (kindL w.kind) = c) (hd : bytes (Lib.decDigits w.x.toNat) = d) (he : bytes (Lib.decDigits w.y.toNat) = e) (hf : bytes (takeL w.take) = f) :
    a ++ ((((((b ++ c) ++ ⟨#[32]⟩) ++ d) ++ ⟨#[32]⟩) ++ e) ++ f) = bytes (s ++ (sepL k ++ wayL w)) := by
  subst ha hb hc hd he hf
  rw [show (⟨#[32]⟩ : ByteArray) = bytes [32] from rfl]
  simp only [bytes_cat]
  congr 1
  unfold wayL
  simp
theorem head_text (p : PieceD) (a b : ByteArray) (ha : bytes [UInt8.ofNat p.letter] = a) (hb : bytes (Lib.decDigits p.worth.toNat) = b) : ((⟨#[112, 105, 101, 99, 101, 32]⟩ ++ a) ++ ⟨#[32]⟩) ++ b = bytes (headL p) := by
  subst ha hb
  rw [show (⟨#[112, 105, 101, 99, 101, 32]⟩ : ByteArray) = bytes [112, 105, 101, 99, 101, 32] from rfl, show (⟨#[32]⟩ : ByteArray) = bytes [32] from rfl]
  simp only [bytes_cat]
  congr 1
end Go.Proofs.YtcdfeaodfmfdnaaGreatDoor
namespace Go.Proofs.YtcdfeaodfmfdnaaGreatDoor
open Go.RowKit

set_option maxHeartbeats 16000000 in
set_option maxRecDepth 100000 in
theorem rwrite_ok (r : RulesD) (A : Option Addr) (cp : Nat) (W : World) (hr : RulesOk r) (hf : RFit r) (he : Env W) (hP : PiecesAt W W.heap.size A r.pieces) :
    Calls Tryz.prog 9 #[.agg #[.int .i64 r.start.w, .int .i64 r.start.h, .string r.start.cells, .int .i64 r.start.turn, .string r.start.h0, .string r.start.h1, .slice A r.pieces.length cp, .bool r.drops, .int .u8 (r.lose : Int), .int .i64 r.line, .int .u8 (r.reach : Int), .bool r.stuck, .int .i64 r.plies]] W fun e w' => e = .returned (.tuple #[.string (bytes (textR r)), .int .i64 0]) ∧ Only (fun _ => False) W w' := by
  have hbig := he.big
  have HP1 := hide (show WrS W r A cp (W.alloc (.cells #[.int .i64 r.start.w, .int .i64 r.start.h, .string r.start.cells, .int .i64 r.start.turn, .string r.start.h0, .string r.start.h1, .slice A r.pieces.length cp, .bool r.drops, .int .u8 (r.lose : Int), .int .i64 r.line, .int .u8 (r.reach : Int), .bool r.stuck, .int .i64 r.plies] 27)) from (by
    have ho : Only (fun _ => False) W (W.alloc (.cells #[.int .i64 r.start.w, .int .i64 r.start.h, .string r.start.cells, .int .i64 r.start.turn, .string r.start.h0, .string r.start.h1, .slice A r.pieces.length cp, .bool r.drops, .int .u8 (r.lose : Int), .int .i64 r.line, .int .u8 (r.reach : Int), .bool r.stuck, .int .i64 r.plies] 27)) := (Only.refl _ W).alloc _
    exact ⟨ho, he.no ho, Blk.new W _ _, hP.low ho (fun _ h => h.elim) (Nat.le_refl _), by rw [World.size_alloc]; omega⟩))
  have Hr := hide hr
  have HC := hide (fun w (h : WrS W r A cp w) => check_any r A cp w hf (h.p.more h.o.size))
  rw [show codeN (rulesB r) = 0 from by rw [rulesB_true.2 hr]; rfl] at HC
  have HWS := hide (fun w => write_good r.start w hr.start)
  have hst := textL_len hr.start
  clear hr he hP hf
  go_enter Tryz.func9, Tryz.ntmps9
  go_upto_region 1 with (fail)
  obtain ⟨w1, hw1⟩ : ∃ w1, W.alloc (.cells #[.int .i64 r.start.w, .int .i64 r.start.h, .string r.start.cells, .int .i64 r.start.turn, .string r.start.h0, .string r.start.h1, .slice A r.pieces.length cp, .bool r.drops, .int .u8 (r.lose : Int), .int .i64 r.line, .int .u8 (r.reach : Int), .bool r.stuck, .int .i64 r.plies] 27) = w1 := ⟨_, rfl⟩
  rw [hw1] at HP1 ⊢
  clear hw1
  obtain ⟨y0, y1, y2, y3, y4, y5, y6, y7, y8, y9, y10, y11, y12⟩ := Blk.rules HP1.out.b
  go_upto_region 4 with (go_at_call 14; refine (HC.out _ HP1.out).mono ?_; rintro e w2 ⟨rfl, hl2⟩; have Hl2 := hide hl2; clear hl2)
  have HP2 := hide (HP1.out.no hbig (Only.of_below Hl2.out (fun k h1 h2 => by omega)))
  clear y0 y1 y2 y3 y4 y5 y6 y7 y8 y9 y10 y11 y12 HP1 Hl2 HC
  obtain ⟨y0, y1, y2, y3, y4, y5, y6, y7, y8, y9, y10, y11, y12⟩ := Blk.rules HP2.out.b
  go_upto_region 5 with (go_at_call 28; refine (HWS.out _).mono ?_; rintro e w3 ⟨rfl, hl3⟩; have Hl3 := hide hl3; clear hl3)
  have HP3 := hide (HP2.out.no hbig (Only.of_below Hl3.out (fun k h1 h2 => by omega)))
  clear y0 y1 y2 y3 y4 y5 y6 y7 y8 y9 y10 y11 y12 HP2 Hl3 HWS
  obtain ⟨st, hstt⟩ : ∃ st, bytes (textL r.start) = st := ⟨_, rfl⟩
  have hst1 : st.size ≤ 100 := by rw [← hstt, bytes_size]; exact hst
  have Hcat := hide (cat_word [115, 116, 97, 114, 116, 32] st _ hstt)
  rw [hstt]
  clear hstt hst
  go_upto_region 6 with (fail)
  have hl1 := Ln.one w3 (W.heap.size + 1) ([115, 116, 97, 114, 116, 32] ++ textL r.start) HP3.out.sz
  have hc1 := Hcat.out
  unfold strV at hl1
  obtain ⟨s1, hs1⟩ : ∃ s1, bytes ([115, 116, 97, 114, 116, 32] ++ textL r.start) = s1 := ⟨_, rfl⟩
  rw [hs1] at hl1 hc1
  rw [show (⟨#[115, 116, 97, 114, 116, 32]⟩ : ByteArray) ++ st = s1 from hc1]
  have hal : Only (fun _ => False) w3 (w3.alloc (.cells #[.string s1] 9)) := (Only.refl _ w3).alloc _
  have HP4 := hide (HP3.out.no hbig hal)
  have HL4 := hide (show Ln (w3.alloc (.cells #[.string s1] 9)) (W.heap.size + 1) (.slice (some ⟨w3.heap.size, 0, none⟩) 1 1) (upR r 1) from hl1)
  obtain ⟨w4, hw4⟩ : ∃ w4, w3.alloc (.cells #[.string s1] 9) = w4 := ⟨_, rfl⟩
  obtain ⟨lv, hlv⟩ : ∃ lv, Value.slice (some ⟨w3.heap.size, 0, none⟩) 1 1 = lv := ⟨_, rfl⟩
  rw [hw4] at HP4 HL4 ⊢
  rw [hlv] at HL4 ⊢
  clear hal hw4 hlv HP3 Hcat hl1 hc1 hs1
  obtain ⟨y0, y1, y2, y3, y4, y5, y6, y7, y8, y9, y10, y11, y12⟩ := Blk.rules HP4.out.b
  go_wp2_with fail
  clear y0 y1 y2 y3 y4 y5 y6 y7 y8 y9 y10 y11 y12
  go_loopw [7, 30] (fun lv iv wr => ∃ i : Nat, i ≤ r.pieces.length ∧ iv = .int .i64 (i : Int) ∧ WrS W r A cp wr ∧ Ln wr (W.heap.size + 1) lv (upR r 1 ++ (r.pieces.take i).map (fun p => wordR 1 ++ tailP p))) (fun _ iv _ => r.pieces.length - (intOf iv).toNat)
  case atStart => exact ⟨0, by omega, rfl, HP4.out, by simpa using HL4.out⟩
  case round =>
    rename World => wr
    obtain ⟨i, hil, rfl, hp, hln⟩ := hrel
    have HP := hide hp
    have HL := hide hln
    clear hp hln HP4 HL4
    have hsz := HP.out.sz
    have hp10 := Hr.out.p10
    by_cases hi : i < r.pieces.length
    · have d1 : decide ((i : Int) < (r.pieces.length : Int)) = true := by simp; omega
      have d1n : decide (i < r.pieces.length) = true := by simp; omega
      have i0 : (0 : Int) ≤ (i : Int) := by omega
      have i1 : (i : Int) < (r.pieces.length : Int) := by omega
      obtain ⟨pb, off, rfl, hpb, z0, z1, Ak, ck, hck, z2, hways⟩ := HP.out.p.at_ hi
      have hok := Hr.out.pieces i hi
      have hlt : r.pieces.take (i + 1) = r.pieces.take i ++ [r.pieces[i]] := by rw [List.take_succ_eq_append_getElem hi]
      obtain ⟨pc, hpc⟩ : ∃ pc, r.pieces[i] = pc := ⟨_, rfl⟩
      rw [hpc] at hok hlt z0 z1 z2 hck hways
      have Hlt := hide hlt
      have hw0 := hok.w0
      have hw1 := hok.w1
      obtain ⟨wn, hwn⟩ : ∃ wn : Nat, pc.worth = (wn : Int) := ⟨pc.worth.toNat, by omega⟩
      rw [hwn] at z1
      obtain ⟨lt, hlet⟩ : ∃ lt, bytes [UInt8.ofNat pc.letter] = lt := ⟨_, rfl⟩
      obtain ⟨ld, hld⟩ : ∃ ld, bytes (Lib.decDigits wn) = ld := ⟨_, rfl⟩
      have Hhead := hide (head_text pc lt ld hlet (by rw [hwn]; exact hld))
      have hlt1 : lt.size = 1 := by rw [← hlet, bytes_size]; rfl
      have hld1 : ld.size ≤ 4 := by rw [← hld, bytes_size]; exact dec_len (by omega)
      have HI := hide (fun w (h : Env w) => itoa_any wn w (by omega) h)
      rw [hld] at HI
      have henc : Utf8.encode (pc.letter : Int) = lt := by rw [← hlet]; exact enc_up hok.letter
      have hw32 : IntKind.i32.wrap (pc.letter : Int) = (pc.letter : Int) := by
        have := hok.letter
        have h1 : 65 ≤ pc.letter ∧ pc.letter ≤ 90 := by simpa [upB] using this
        exact IntWalk.i32_in _ (by omega)
      have Hways := hide hways
      have Hwok := hide hok.ways
      have hhl : (headL pc).length ≤ 12 := head_len (by omega)
      have hwl := hok.len
      have h9 : ¬ 9223372036854775807 < 8 + ld.size := by omega
      clear hpc hlt hok hw0 hw1 hwn hways hlet hld
      go_upto_region 9 with (fail)
      have hal : Only (fun _ => False) wr (wr.alloc (.cells #[.int .u8 (pc.letter : Int), .int .i64 (wn : Int), .slice Ak pc.ways.length ck] 77)) := (Only.refl _ wr).alloc _
      have HP5 := hide (HP.out.no hbig hal)
      have HL5 := hide (show Ln (wr.alloc (.cells #[.int .u8 (pc.letter : Int), .int .i64 (wn : Int), .slice Ak pc.ways.length ck] 77)) (W.heap.size + 1) u7 _ from ownsRow_only HL.out hal (fun _ _ h => h))
      have HB5 := hide (Blk.new wr 77 #[.int .u8 (pc.letter : Int), .int .i64 (wn : Int), .slice Ak pc.ways.length ck])
      obtain ⟨w5, hw5⟩ : ∃ w5, wr.alloc (.cells #[.int .u8 (pc.letter : Int), .int .i64 (wn : Int), .slice Ak pc.ways.length ck] 77) = w5 := ⟨_, rfl⟩
      obtain ⟨gp, hgp⟩ : ∃ gp, wr.heap.size = gp := ⟨_, rfl⟩
      rw [hw5] at HP5 HL5 HB5 ⊢
      rw [hgp] at HB5 ⊢
      have HW5 := hide (Cells.low Hways.out hal (fun _ h => h.elim) (Nat.le_of_lt hsz))
      rw [hw5] at HW5
      clear hal hw5 hgp z0 z1 z2 HP HL Hways
      have HS := hide (fun w' (ho : Only (fun _ => False) w5 w') => (show w'.cell? ⟨gp, 0, none⟩ = some (.int .u8 (pc.letter : Int)) ∧ w'.cell? ⟨gp, 1, none⟩ = some (.int .i64 (wn : Int)) from (by
        obtain ⟨a0, a1, -⟩ := Blk.three_ (HB5.out.only ho (fun h => h))
        exact ⟨a0, a1⟩)))
      obtain ⟨z0, z1, z2, -⟩ := Blk.three_ HB5.out
      refine wp_region_held_drew (S := fun w' : World => (w'.cell? ⟨gp, 0, none⟩ = some (.int .u8 (pc.letter : Int)) ∧ w'.cell? ⟨gp, 1, none⟩ = some (.int .i64 (wn : Int)))) (by kernel_rfl) (HS.out _ (Only.refl _ w5).drew) (fun hHeld => ?_)
      refine wpAnyH_take (i := 0) (oi := ⟨some 34, _, _, _, _, _⟩) (v := ?_) rfl (by kernel_rfl) (by kernel_rfl) (by kernel_rfl) (fun _ _ _ h => h) (Or.inl ⟨by rfl, ?_⟩) (by assumption) ?_
      rotate_left 1
      · intro w hSw
        try dsimp only at hSw
        go_simp <;> with_reducible rfl
      try simp only [Act.put, List.setIfInBounds_toArray, List.set_cons_zero, List.set_cons_succ]
      refine wpAnyH_take (i := 1) (oi := ⟨some 35, _, _, _, _, _⟩) (v := ?_) rfl (by kernel_rfl) (by kernel_rfl) (by kernel_rfl) (fun _ _ _ h => h) (Or.inl ⟨by rfl, ?_⟩) (by assumption) ?_
      rotate_left 1
      · intro w hSw
        try dsimp only at hSw
        go_simp <;> with_reducible rfl
      try simp only [Act.put, List.setIfInBounds_toArray, List.set_cons_zero, List.set_cons_succ]
      refine wpAnyH_take (i := 2) (oi := ⟨some 36, _, _, _, _, _⟩) (v := ?_) rfl (by kernel_rfl) (by kernel_rfl) (by kernel_rfl) (fun _ _ _ h => h) (Or.inl ⟨by rfl, ?_⟩) (by assumption) ?_
      rotate_left 1
      · intro w hSw
        try dsimp only at hSw
        go_simp <;> with_reducible rfl
      try simp only [Act.put, List.setIfInBounds_toArray, List.set_cons_zero, List.set_cons_succ]
      refine wpAnyH_take (i := 3) (oi := ⟨some 37, _, _, _, _, _⟩) (v := ?_) rfl (by kernel_rfl) (by kernel_rfl) (by kernel_rfl) (fun _ _ _ h => h) (Or.inl ⟨by rfl, ?_⟩) (by assumption) ?_
      rotate_left 1
      · intro w hSw
        try dsimp only at hSw
        go_simp <;> with_reducible rfl
      try simp only [Act.put, List.setIfInBounds_toArray, List.set_cons_zero, List.set_cons_succ]
      refine wpAnyH_take (i := 4) (oi := ⟨some 38, _, _, _, _, _⟩) (v := ?_) rfl (by kernel_rfl) (by kernel_rfl) (by kernel_rfl) (fun _ _ _ h => h) (Or.inl ⟨by rfl, ?_⟩) (by assumption) ?_
      rotate_left 1
      · intro w hSw
        try dsimp only at hSw
        go_simp <;> with_reducible rfl
      try simp only [Act.put, List.setIfInBounds_toArray, List.set_cons_zero, List.set_cons_succ]
      refine wpAnyH_take (i := 5) (oi := ⟨some 39, _, _, _, _, _⟩) (v := ?_) rfl (by kernel_rfl) (by kernel_rfl) (by kernel_rfl) (fun _ _ _ h => h) (Or.inl ⟨by rfl, ?_⟩) (by assumption) ?_
      rotate_left 1
      · intro w hSw
        try dsimp only at hSw
        go_simp <;> with_reducible rfl
      try simp only [Act.put, List.setIfInBounds_toArray, List.set_cons_zero, List.set_cons_succ]
      refine wpAnyH_take (i := 6) (oi := ⟨some 40, _, _, _, _, _⟩) (v := ?_) rfl (by kernel_rfl) (by kernel_rfl) (by kernel_rfl) (fun _ _ _ h => h) (Or.inl ⟨by rfl, ?_⟩) (by assumption) ?_
      rotate_left 1
      · intro w hSw
        try dsimp only at hSw
        go_simp <;> with_reducible rfl
      try simp only [Act.put, List.setIfInBounds_toArray, List.set_cons_zero, List.set_cons_succ]
      refine wpAnyH_take (i := 7) (oi := ⟨some 41, _, _, _, _, _⟩) (v := ?_) rfl (by kernel_rfl) (by kernel_rfl) (by kernel_rfl) (fun _ _ _ h => h) (Or.inl ⟨by rfl, ?_⟩) (by assumption) ?_
      rotate_left 1
      · intro w hSw
        try dsimp only at hSw
        go_simp <;> with_reducible rfl
      try simp only [Act.put, List.setIfInBounds_toArray, List.set_cons_zero, List.set_cons_succ]
      refine wpAnyH_ready (rs := [8]) (by kernel_rfl) (by simp) ?_
      refine AllReadyH.cons (o := ⟨some 42, _, _, _, _, _⟩) rfl (fun K hK => ?_) ?_
      · clear hHeld
        go_simp
        go_at_call 29
        refine (HI.out _ (HP5.out.e.no (Only.refl _ w5).drew)).mono ?_
        rintro e w6 ⟨rfl, ho6⟩
        refine hK.out _ _ (by exact HS.out _ ((Only.refl _ w5).drew.trans ho6)) (fun hHeld => ?_)
        clear hK K
        try simp only [Act.put, List.setIfInBounds_toArray, List.set_cons_zero, List.set_cons_succ]
        refine wpAnyH_take (i := 9) (oi := ⟨some 43, _, _, _, _, _⟩) (v := ?_) rfl (by kernel_rfl) (by kernel_rfl) (by kernel_rfl) (fun _ _ _ h => h) (Or.inl ⟨by rfl, ?_⟩) (by assumption) ?_
        rotate_left 1
        · intro w hSw
          try dsimp only at hSw
          go_simp <;> with_reducible rfl
        try simp only [Act.put, List.setIfInBounds_toArray, List.set_cons_zero, List.set_cons_succ]
        refine wpAnyH_take (i := 10) (oi := ⟨some 10, _, _, _, _, _⟩) (v := ?_) rfl (by kernel_rfl) (by kernel_rfl) (by kernel_rfl) (fun _ _ _ h => h) (Or.inl ⟨by rfl, ?_⟩) (by assumption) ?_
        rotate_left 1
        · intro w hSw
          try dsimp only at hSw
          go_simp <;> with_reducible rfl
        try simp only [Act.put, List.setIfInBounds_toArray, List.set_cons_zero, List.set_cons_succ]
        refine wpAnyH_done (by kernel_rfl) ?_ _
        rw [Hhead.out]
        have hon : Only (fun _ => False) w5 w6 := (Only.refl _ w5).drew.trans ho6
        have HP6 := hide (HP5.out.no hbig hon)
        have HL6 := hide (show Ln w6 (W.heap.size + 1) u7 _ from ownsRow_only HL5.out hon (fun _ _ h => h))
        have HB6 := hide (HB5.out.only hon (fun h => h))
        have HW6 := hide (Cells.low HW5.out hon (fun _ h => h.elim) (by have := HP5.out.sz; omega))
        obtain ⟨s0, hs0⟩ : ∃ s0, bytes (headL pc) = s0 := ⟨_, rfl⟩
        have Hs0 := hide hs0
        rw [hs0]
        clear hHeld hon ho6 HP5 HL5 HB5 HW5 HS HI z0 z1 z2 hs0 henc hw32 h9 Hhead
        obtain ⟨z0, z1, z2, -⟩ := Blk.three_ HB6.out
        go_wp2_with fail
        clear z0 z1 z2
        go_loopw [10, 47] (fun sv kv wq => ∃ (k : Nat) (s : ByteArray), k ≤ pc.ways.length ∧ kv = .int .i64 (k : Int) ∧ sv = .string s ∧ s = bytes (headL pc ++ waysL (pc.ways.take k)) ∧ Only (fun _ => False) w6 wq) (fun _ kv _ => pc.ways.length - (intOf kv).toNat)
        case atStart => exact ⟨0, s0, by omega, rfl, rfl, by rw [List.take_zero, waysL_nil, List.append_nil]; exact Hs0.out.symm, Only.refl _ _⟩
        case round =>
          rename World => wq
          obtain ⟨k, s, hkl, rfl, rfl, hs, hoq⟩ := hrel
          have HPq := hide (HP6.out.no hbig hoq)
          have HLq := hide (show Ln wq (W.heap.size + 1) u7 _ from ownsRow_only HL6.out hoq (fun _ _ h => h))
          have HBq := hide (HB6.out.only hoq (fun h => h))
          have hwq := Cells.low HW6.out hoq (fun _ h => h.elim) (by have := HP6.out.sz; omega)
          have Hoq := hide hoq
          have Hs := hide hs
          have hwt : (waysL (pc.ways.take k)).length ≤ 23 * 8 := by
            have h1 := waysL_len (ws := pc.ways.take k) (fun w hw => by
              obtain ⟨j, hj, e⟩ := List.getElem_of_mem (List.mem_of_mem_take hw)
              rw [← e]; exact Hwok.out j hj)
            have h2 : (pc.ways.take k).length ≤ 8 := by rw [List.length_take]; omega
            omega
          have hss : s.size ≤ 300 := by rw [hs, bytes_size, List.length_append]; omega
          have hszq := HPq.out.sz
          clear hs hoq HL6 HP6 Hs0 HW6
          by_cases hk : k < pc.ways.length
          · have d2 : decide ((k : Int) < (pc.ways.length : Int)) = true := by simp; omega
            have d2n : decide (k < pc.ways.length) = true := by simp; omega
            have k0 : (0 : Int) ≤ (k : Int) := by omega
            have k1 : (k : Int) < (pc.ways.length : Int) := by omega
            obtain ⟨b2, off2, rfl, hb2, z0, z1, z2, z3⟩ := ways_at hwq hk
            have hwo := Hwok.out k hk
            have htk : pc.ways.take (k + 1) = pc.ways.take k ++ [pc.ways[k]] := by rw [List.take_succ_eq_append_getElem hk]
            have htl : (pc.ways.take k).length = k := by rw [List.length_take]; omega
            obtain ⟨wy, hwy⟩ : ∃ wy, pc.ways[k] = wy := ⟨_, rfl⟩
            rw [hwy] at hwo htk z0 z1 z2 z3
            obtain ⟨q1, q2, q3, q4, q5, q6, -, -, q9, q10⟩ := hwo
            obtain ⟨xn, hxn⟩ : ∃ xn : Nat, wy.x = (xn : Int) := ⟨wy.x.toNat, by omega⟩
            obtain ⟨yn, hyn⟩ : ∃ yn : Nat, wy.y = (yn : Int) := ⟨wy.y.toNat, by omega⟩
            have hx7 : xn ≤ 9999 := by omega
            have hy7 : yn ≤ 9999 := by omega
            have HKN := hide (fun w => kind_any q1 q2 w)
            have HTN := hide (fun w => taken_any q9 q10 w)
            have HXN := hide (fun w (h : Env w) => itoa_any xn w hx7 h)
            have HYN := hide (fun w (h : Env w) => itoa_any yn w hy7 h)
            obtain ⟨m, hm, hidx⟩ := sep_any k
            have l1 : (bytes (sepL k)).size ≤ 2 := by rw [bytes_size]; unfold sepL; split <;> simp
            have l2 : (bytes (kindL wy.kind)).size ≤ 5 := by rw [bytes_size]; unfold kindL; repeat (first | decide | split)
            have l3 : (bytes (Lib.decDigits xn)).size ≤ 4 := by rw [bytes_size]; exact dec_len hx7
            have l4 : (bytes (Lib.decDigits yn)).size ≤ 4 := by rw [bytes_size]; exact dec_len hy7
            have l5 : (bytes (takeL wy.take)).size ≤ 6 := by rw [bytes_size]; unfold takeL; repeat (first | decide | split)
            obtain ⟨sp, hsp⟩ : ∃ sp, bytes (sepL k) = sp := ⟨_, rfl⟩
            obtain ⟨sk, hsk⟩ : ∃ sk, bytes (kindL wy.kind) = sk := ⟨_, rfl⟩
            obtain ⟨sx, hsx⟩ : ∃ sx, bytes (Lib.decDigits xn) = sx := ⟨_, rfl⟩
            obtain ⟨sy, hsy⟩ : ∃ sy, bytes (Lib.decDigits yn) = sy := ⟨_, rfl⟩
            obtain ⟨sk2, hsk2⟩ : ∃ sk2, bytes (takeL wy.take) = sk2 := ⟨_, rfl⟩
            have hwt2 := way_text (headL pc ++ waysL (pc.ways.take k)) k wy s sp sk sx sy sk2 Hs.out.symm hsp hsk (by rw [hxn]; exact hsx) (by rw [hyn]; exact hsy) hsk2
            rw [show (headL pc ++ waysL (pc.ways.take k)) ++ (sepL k ++ wayL wy) = headL pc ++ waysL (pc.ways.take (k + 1)) from by
              rw [htk, waysL_snoc, htl, List.append_assoc]; rfl] at hwt2
            have Hwt := hide hwt2
            rw [hxn] at z1
            rw [hyn] at z2
            rw [hsp] at l1 hidx
            rw [hsk] at l2 HKN
            rw [hsx] at l3 HXN
            rw [hsy] at l4 HYN
            rw [hsk2] at l5 HTN
            have c0 : ¬ 9223372036854775807 < sp.size + sk.size := by omega
            have c1 : ¬ 9223372036854775807 < sp.size + sk.size + 1 := by omega
            have c2 : ¬ 9223372036854775807 < sp.size + sk.size + 1 + sx.size := by omega
            have c3 : ¬ 9223372036854775807 < sp.size + sk.size + 1 + sx.size + 1 := by omega
            have c4 : ¬ 9223372036854775807 < sp.size + sk.size + 1 + sx.size + 1 + sy.size := by omega
            have c5 : ¬ 9223372036854775807 < sp.size + sk.size + 1 + sx.size + 1 + sy.size + sk2.size := by omega
            have c6 : ¬ 9223372036854775807 < s.size + (sp.size + sk.size + 1 + sx.size + 1 + sy.size + sk2.size) := by omega
            clear hwy htk htl q1 q2 q3 q4 q5 q6 q9 q10 hxn hyn hsp hsk hsx hsy hsk2 hwt2 hwq hx7 hy7
            obtain ⟨y0, y1, y2, -⟩ := Blk.three_ HBq.out
            go_upto_region 13 with (fail)
            have hal : Only (fun _ => False) wq (wq.alloc (.cells #[.int .i64 wy.kind, .int .i64 (xn : Int), .int .i64 (yn : Int), .int .i64 wy.take] 80)) := (Only.refl _ wq).alloc _
            have HP7 := hide (HPq.out.no hbig hal)
            have HO7 := hide (Hoq.out.trans hal)
            have HB7 := hide (Blk.new wq 80 #[.int .i64 wy.kind, .int .i64 (xn : Int), .int .i64 (yn : Int), .int .i64 wy.take])
            obtain ⟨w7, hw7⟩ : ∃ w7, wq.alloc (.cells #[.int .i64 wy.kind, .int .i64 (xn : Int), .int .i64 (yn : Int), .int .i64 wy.take] 80) = w7 := ⟨_, rfl⟩
            obtain ⟨gw, hgw⟩ : ∃ gw, wq.heap.size = gw := ⟨_, rfl⟩
            rw [hw7] at HP7 HO7 HB7 ⊢
            rw [hgw] at HB7 ⊢
            clear hal hw7 hgw z0 z1 z2 z3 y0 y1 y2 HPq HLq HBq Hoq
            have HS := hide (fun w' (ho : Only (fun _ => False) w7 w') => (show w'.cell? ⟨gw, 0, none⟩ = some (.int .i64 wy.kind) ∧ w'.cell? ⟨gw, 1, none⟩ = some (.int .i64 (xn : Int)) ∧ w'.cell? ⟨gw, 2, none⟩ = some (.int .i64 (yn : Int)) ∧ w'.cell? ⟨gw, 3, none⟩ = some (.int .i64 wy.take) from (by
              have hB := HB7.out.only ho (fun h => h)
              exact ⟨hB.cellv rfl, hB.cellv rfl, hB.cellv rfl, hB.cellv rfl⟩)))
            refine wp_region_held_drew (S := fun w' : World => (w'.cell? ⟨gw, 0, none⟩ = some (.int .i64 wy.kind) ∧ w'.cell? ⟨gw, 1, none⟩ = some (.int .i64 (xn : Int)) ∧ w'.cell? ⟨gw, 2, none⟩ = some (.int .i64 (yn : Int)) ∧ w'.cell? ⟨gw, 3, none⟩ = some (.int .i64 wy.take))) (by kernel_rfl) (HS.out _ (Only.refl (fun _ => False) w7).drew) (fun hHeld => ?_)
            refine wpAnyH_take (i := 0) (oi := ⟨some 52, _, _, _, _, _⟩) (v := ?_) rfl (by kernel_rfl) (by kernel_rfl) (by kernel_rfl) (fun _ _ _ h => h) (Or.inl ⟨by rfl, ?_⟩) (by assumption) ?_
            rotate_left 1
            · intro w hSw
              try dsimp only at hSw
              go_simp <;> with_reducible rfl
            try simp only [Act.put, List.setIfInBounds_toArray, List.set_cons_zero, List.set_cons_succ]
            refine wpAnyH_take (i := 1) (oi := ⟨some 53, _, _, _, _, _⟩) (v := ?_) rfl (by kernel_rfl) (by kernel_rfl) (by kernel_rfl) (fun _ _ _ h => h) (Or.inl ⟨by rfl, ?_⟩) (by assumption) ?_
            rotate_left 1
            · intro w hSw
              try dsimp only at hSw
              go_simp <;> with_reducible rfl
            try simp only [Act.put, List.setIfInBounds_toArray, List.set_cons_zero, List.set_cons_succ]
            refine wpAnyH_take (i := 2) (oi := ⟨some 54, _, _, _, _, _⟩) (v := ?_) rfl (by kernel_rfl) (by kernel_rfl) (by kernel_rfl) (fun _ _ _ h => h) (Or.inl ⟨by rfl, ?_⟩) (by assumption) ?_
            rotate_left 1
            · intro w hSw
              try dsimp only at hSw
              go_simp <;> with_reducible rfl
            try simp only [Act.put, List.setIfInBounds_toArray, List.set_cons_zero, List.set_cons_succ]
            refine wpAnyH_take (i := 3) (oi := ⟨some 55, _, _, _, _, _⟩) (v := ?_) rfl (by kernel_rfl) (by kernel_rfl) (by kernel_rfl) (fun _ _ _ h => h) (Or.inl ⟨by rfl, ?_⟩) (by assumption) ?_
            rotate_left 1
            · intro w hSw
              try dsimp only at hSw
              go_simp <;> with_reducible rfl
            try simp only [Act.put, List.setIfInBounds_toArray, List.set_cons_zero, List.set_cons_succ]
            refine wpAnyH_take (i := 4) (oi := ⟨some 56, _, _, _, _, _⟩) (v := ?_) rfl (by kernel_rfl) (by kernel_rfl) (by kernel_rfl) (fun _ _ _ h => h) (Or.inl ⟨by rfl, ?_⟩) (by assumption) ?_
            rotate_left 1
            · intro w hSw
              try dsimp only at hSw
              go_simp <;> with_reducible rfl
            try simp only [Act.put, List.setIfInBounds_toArray, List.set_cons_zero, List.set_cons_succ]
            refine wpAnyH_take (i := 5) (oi := ⟨some 57, _, _, _, _, _⟩) (v := ?_) rfl (by kernel_rfl) (by kernel_rfl) (by kernel_rfl) (fun _ _ _ h => h) (Or.inl ⟨by rfl, ?_⟩) (by assumption) ?_
            rotate_left 1
            · intro w hSw
              try dsimp only at hSw
              go_simp <;> with_reducible rfl
            try simp only [Act.put, List.setIfInBounds_toArray, List.set_cons_zero, List.set_cons_succ]
            refine wpAnyH_take (i := 6) (oi := ⟨some 58, _, _, _, _, _⟩) (v := ?_) rfl (by kernel_rfl) (by kernel_rfl) (by kernel_rfl) (fun _ _ _ h => h) (Or.inl ⟨by rfl, ?_⟩) (by assumption) ?_
            rotate_left 1
            · intro w hSw
              try dsimp only at hSw
              go_simp <;> with_reducible rfl
            try simp only [Act.put, List.setIfInBounds_toArray, List.set_cons_zero, List.set_cons_succ]
            refine wpAnyH_take (i := 10) (oi := ⟨some 62, _, _, _, _, _⟩) (v := ?_) rfl (by kernel_rfl) (by kernel_rfl) (by kernel_rfl) (fun _ _ _ h => h) (Or.inl ⟨by rfl, ?_⟩) (by assumption) ?_
            rotate_left 1
            · intro w hSw
              try dsimp only at hSw
              go_simp <;> with_reducible rfl
            try simp only [Act.put, List.setIfInBounds_toArray, List.set_cons_zero, List.set_cons_succ]
            refine wpAnyH_take (i := 11) (oi := ⟨some 63, _, _, _, _, _⟩) (v := ?_) rfl (by kernel_rfl) (by kernel_rfl) (by kernel_rfl) (fun _ _ _ h => h) (Or.inl ⟨by rfl, ?_⟩) (by assumption) ?_
            rotate_left 1
            · intro w hSw
              try dsimp only at hSw
              go_simp <;> with_reducible rfl
            try simp only [Act.put, List.setIfInBounds_toArray, List.set_cons_zero, List.set_cons_succ]
            refine wpAnyH_take (i := 15) (oi := ⟨some 67, _, _, _, _, _⟩) (v := ?_) rfl (by kernel_rfl) (by kernel_rfl) (by kernel_rfl) (fun _ _ _ h => h) (Or.inl ⟨by rfl, ?_⟩) (by assumption) ?_
            rotate_left 1
            · intro w hSw
              try dsimp only at hSw
              go_simp <;> with_reducible rfl
            try simp only [Act.put, List.setIfInBounds_toArray, List.set_cons_zero, List.set_cons_succ]
            refine wpAnyH_take (i := 16) (oi := ⟨some 68, _, _, _, _, _⟩) (v := ?_) rfl (by kernel_rfl) (by kernel_rfl) (by kernel_rfl) (fun _ _ _ h => h) (Or.inl ⟨by rfl, ?_⟩) (by assumption) ?_
            rotate_left 1
            · intro w hSw
              try dsimp only at hSw
              go_simp <;> with_reducible rfl
            try simp only [Act.put, List.setIfInBounds_toArray, List.set_cons_zero, List.set_cons_succ]
            refine wpAnyH_take (i := 19) (oi := ⟨some 71, _, _, _, _, _⟩) (v := ?_) rfl (by kernel_rfl) (by kernel_rfl) (by kernel_rfl) (fun _ _ _ h => h) (Or.inl ⟨by rfl, ?_⟩) (by assumption) ?_
            rotate_left 1
            · intro w hSw
              try dsimp only at hSw
              go_simp <;> with_reducible rfl
            try simp only [Act.put, List.setIfInBounds_toArray, List.set_cons_zero, List.set_cons_succ]
            refine wpAnyH_take (i := 20) (oi := ⟨some 72, _, _, _, _, _⟩) (v := ?_) rfl (by kernel_rfl) (by kernel_rfl) (by kernel_rfl) (fun _ _ _ h => h) (Or.inl ⟨by rfl, ?_⟩) (by assumption) ?_
            rotate_left 1
            · intro w hSw
              try dsimp only at hSw
              go_simp <;> with_reducible rfl
            try simp only [Act.put, List.setIfInBounds_toArray, List.set_cons_zero, List.set_cons_succ]
            refine wpAnyH_ready (rs := [7]) (by kernel_rfl) (by simp) ?_
            refine AllReadyH.cons (o := ⟨some 59, _, _, _, _, _⟩) rfl (fun K hK => ?_) ?_
            · clear hHeld
              go_simp
              go_at_call 30
              refine (HKN.out _).mono ?_
              rintro e w8 ⟨rfl, rfl⟩
              refine hK.out _ _ (by first | exact HS.out _ (((Only.refl (fun _ => False) w7).drew.trans ho8).trans ho9) | exact HS.out _ ((Only.refl (fun _ => False) w7).drew.trans ho8) | exact HS.out _ (Only.refl (fun _ => False) w7).drew) (fun hHeld => ?_)
              clear hK K
              try simp only [Act.put, List.setIfInBounds_toArray, List.set_cons_zero, List.set_cons_succ]
              refine wpAnyH_take (i := 8) (oi := ⟨some 60, _, _, _, _, _⟩) (v := ?_) rfl (by kernel_rfl) (by kernel_rfl) (by kernel_rfl) (fun _ _ _ h => h) (Or.inl ⟨by rfl, ?_⟩) (by assumption) ?_
              rotate_left 1
              · intro w hSw
                try dsimp only at hSw
                go_simp <;> with_reducible rfl
              try simp only [Act.put, List.setIfInBounds_toArray, List.set_cons_zero, List.set_cons_succ]
              refine wpAnyH_take (i := 9) (oi := ⟨some 61, _, _, _, _, _⟩) (v := ?_) rfl (by kernel_rfl) (by kernel_rfl) (by kernel_rfl) (fun _ _ _ h => h) (Or.inl ⟨by rfl, ?_⟩) (by assumption) ?_
              rotate_left 1
              · intro w hSw
                try dsimp only at hSw
                go_simp <;> with_reducible rfl
              try simp only [Act.put, List.setIfInBounds_toArray, List.set_cons_zero, List.set_cons_succ]
              refine wpAnyH_ready (rs := [12]) (by kernel_rfl) (by simp) ?_
              refine AllReadyH.cons (o := ⟨some 64, _, _, _, _, _⟩) rfl (fun K hK => ?_) ?_
              · clear hHeld
                go_simp
                go_at_call 29
                refine (HXN.out _ (HP7.out.e.no (Only.refl (fun _ => False) w7).drew)).mono ?_
                rintro e w8 ⟨rfl, ho8⟩
                refine hK.out _ _ (by first | exact HS.out _ (((Only.refl (fun _ => False) w7).drew.trans ho8).trans ho9) | exact HS.out _ ((Only.refl (fun _ => False) w7).drew.trans ho8) | exact HS.out _ (Only.refl (fun _ => False) w7).drew) (fun hHeld => ?_)
                clear hK K
                try simp only [Act.put, List.setIfInBounds_toArray, List.set_cons_zero, List.set_cons_succ]
                refine wpAnyH_take (i := 13) (oi := ⟨some 65, _, _, _, _, _⟩) (v := ?_) rfl (by kernel_rfl) (by kernel_rfl) (by kernel_rfl) (fun _ _ _ h => h) (Or.inl ⟨by rfl, ?_⟩) (by assumption) ?_
                rotate_left 1
                · intro w hSw
                  try dsimp only at hSw
                  go_simp <;> with_reducible rfl
                try simp only [Act.put, List.setIfInBounds_toArray, List.set_cons_zero, List.set_cons_succ]
                refine wpAnyH_take (i := 14) (oi := ⟨some 66, _, _, _, _, _⟩) (v := ?_) rfl (by kernel_rfl) (by kernel_rfl) (by kernel_rfl) (fun _ _ _ h => h) (Or.inl ⟨by rfl, ?_⟩) (by assumption) ?_
                rotate_left 1
                · intro w hSw
                  try dsimp only at hSw
                  go_simp <;> with_reducible rfl
                try simp only [Act.put, List.setIfInBounds_toArray, List.set_cons_zero, List.set_cons_succ]
                refine wpAnyH_ready (rs := [17]) (by kernel_rfl) (by simp) ?_
                refine AllReadyH.cons (o := ⟨some 69, _, _, _, _, _⟩) rfl (fun K hK => ?_) ?_
                · clear hHeld
                  go_simp
                  go_at_call 29
                  refine (HYN.out _ (HP7.out.e.no ((Only.refl (fun _ => False) w7).drew.trans ho8))).mono ?_
                  rintro e w9 ⟨rfl, ho9⟩
                  refine hK.out _ _ (by first | exact HS.out _ (((Only.refl (fun _ => False) w7).drew.trans ho8).trans ho9) | exact HS.out _ ((Only.refl (fun _ => False) w7).drew.trans ho8) | exact HS.out _ (Only.refl (fun _ => False) w7).drew) (fun hHeld => ?_)
                  clear hK K
                  try simp only [Act.put, List.setIfInBounds_toArray, List.set_cons_zero, List.set_cons_succ]
                  refine wpAnyH_take (i := 18) (oi := ⟨some 70, _, _, _, _, _⟩) (v := ?_) rfl (by kernel_rfl) (by kernel_rfl) (by kernel_rfl) (fun _ _ _ h => h) (Or.inl ⟨by rfl, ?_⟩) (by assumption) ?_
                  rotate_left 1
                  · intro w hSw
                    try dsimp only at hSw
                    go_simp <;> with_reducible rfl
                  try simp only [Act.put, List.setIfInBounds_toArray, List.set_cons_zero, List.set_cons_succ]
                  refine wpAnyH_ready (rs := [21]) (by kernel_rfl) (by simp) ?_
                  refine AllReadyH.cons (o := ⟨some 73, _, _, _, _, _⟩) rfl (fun K hK => ?_) ?_
                  · clear hHeld
                    go_simp
                    go_at_call 31
                    refine (HTN.out _).mono ?_
                    rintro e w10 ⟨rfl, rfl⟩
                    refine hK.out _ _ (by first | exact HS.out _ (((Only.refl (fun _ => False) w7).drew.trans ho8).trans ho9) | exact HS.out _ ((Only.refl (fun _ => False) w7).drew.trans ho8) | exact HS.out _ (Only.refl (fun _ => False) w7).drew) (fun hHeld => ?_)
                    clear hK K
                    try simp only [Act.put, List.setIfInBounds_toArray, List.set_cons_zero, List.set_cons_succ]
                    refine wpAnyH_take (i := 22) (oi := ⟨some 74, _, _, _, _, _⟩) (v := ?_) rfl (by kernel_rfl) (by kernel_rfl) (by kernel_rfl) (fun _ _ _ h => h) (Or.inl ⟨by rfl, ?_⟩) (by assumption) ?_
                    rotate_left 1
                    · intro w hSw
                      try dsimp only at hSw
                      go_simp <;> with_reducible rfl
                    try simp only [Act.put, List.setIfInBounds_toArray, List.set_cons_zero, List.set_cons_succ]
                    refine wpAnyH_take (i := 23) (oi := ⟨some 75, _, _, _, _, _⟩) (v := ?_) rfl (by kernel_rfl) (by kernel_rfl) (by kernel_rfl) (fun _ _ _ h => h) (Or.inl ⟨by rfl, ?_⟩) (by assumption) ?_
                    rotate_left 1
                    · intro w hSw
                      try dsimp only at hSw
                      go_simp <;> with_reducible rfl
                    try simp only [Act.put, List.setIfInBounds_toArray, List.set_cons_zero, List.set_cons_succ]
                    refine wpAnyH_take (i := 24) (oi := ⟨some 10, _, _, _, _, _⟩) (v := ?_) rfl (by kernel_rfl) (by kernel_rfl) (by kernel_rfl) (fun _ _ _ h => h) (Or.inl ⟨by rfl, ?_⟩) (by assumption) ?_
                    rotate_left 1
                    · intro w hSw
                      try dsimp only at hSw
                      go_simp <;> with_reducible rfl
                    try simp only [Act.put, List.setIfInBounds_toArray, List.set_cons_zero, List.set_cons_succ]
                    refine wpAnyH_done (by kernel_rfl) ?_ _
                    rw [Hwt.out]
                    go_wp2_with fail
                    go_roundw
                    case rel => exact ⟨k + 1, _, by omega, by go_num, rfl, rfl, HO7.out.trans (((Only.refl (fun _ => False) w7).drew.trans ho8).trans ho9)⟩
                    case measure => simp [intOf]; omega
                  exact AllReadyH.nil
                exact AllReadyH.nil
              exact AllReadyH.nil
            exact AllReadyH.nil
          · have hke : k = pc.ways.length := by omega
            have d2 : decide ((k : Int) < (pc.ways.length : Int)) = false := by simp; omega
            have d2n : decide (k < pc.ways.length) = false := by simp; omega
            have hse : s = bytes (wordR 1 ++ tailP pc) := by rw [Hs.out, hke, List.take_length, piece_head]
            have hlen : (upR r 1 ++ (r.pieces.take i).map (fun p => wordR 1 ++ tailP p)).length + 1 ≤ 1000 := by
              have h1 := (up_len Hr.out 1).1
              have h2 := Hr.out.p10
              simp only [List.length_append, List.length_map, List.length_take]
              omega
            have Hlen := hide hlen
            have HPn := hide (fun (l : Value) (w' : World) (ho : Only (fun k => u7.ownBlock = some k) (wq.alloc (.cells #[.string (bytes (wordR 1 ++ tailP pc))] 9)) w') => HPq.out.step (w' := w') hbig ((((Only.refl (fun _ => False) wq).alloc _).mono (fun _ _ h => h.elim)).trans ho) (fun k hk => (HLq.out.lt k hk).1))
            subst hse
            clear hke hlen Hs hss hwt hwq Hoq HBq Hwok
            go_upto_region 15 with (fail)
            refine wp_region_lit ?_
            refine wpList_plain rfl (fun K hK => ?_)
            go_simp
            refine hK _ _ ?_
            clear hK K
            refine wpList_plain rfl (fun K hK => ?_)
            go_simp
            refine hK _ _ ?_
            clear hK K
            refine wpList_plain rfl (fun K hK => ?_)
            go_simp
            refine hK _ _ ?_
            clear hK K
            refine wpList_line _ rfl (.tmp 77) (.tmp 79) rfl (W.heap.size + 1) u7 _ [wordR 1 ++ tailP pc] 1 rfl rfl (World.ownsRow.alloc HLq.out _) wq.heap.size rfl (Blk.new wq _ _) Hlen.out (by rw [World.size_alloc]; omega) ?_
            intro l2 w8 hl8 ho8
            have HP8 := hide (HPn.out l2 w8 ho8)
            have HL8 := hide hl8
            clear hl8 ho8 HPn HPq HLq
            refine wpList_plain rfl (fun K hK => ?_)
            go_simp
            refine hK _ _ ?_
            clear hK K
            go_wp2_with fail
            go_roundw
            case rel => exact ⟨i + 1, by omega, by go_num, HP8.out, by rw [Hlt.out, List.map_append, ← List.append_assoc]; exact HL8.out⟩
            case measure => simp [intOf]; omega
      exact AllReadyH.nil
    · have hie : i = r.pieces.length := by omega
      have hls : upR r 1 ++ (r.pieces.take i).map (fun p => wordR 1 ++ tailP p) = upR r 2 := by
        rw [hie, List.take_length, show upR r 2 = upR r 1 ++ segR r 1 from upR_succ r 1]; rfl
      rw [hls] at HL
      have d1 : decide ((i : Int) < (r.pieces.length : Int)) = false := by simp; omega
      have d1n : decide (i < r.pieces.length) = false := by simp; omega
      clear hls hil hie
      obtain ⟨y0, y1, y2, y3, y4, y5, y6, y7, y8, y9, y10, y11, y12⟩ := Blk.rules HP.out.b
      obtain ⟨bc, hbc⟩ : ∃ bc, r.drops = bc := ⟨_, rfl⟩
      have HsT := hide (fun h : bc = true => (show upR r 3 = upR r 2 ++ [wordR 2] from by rw [upR_succ]; simp [segR, hbc, h]))
      have HsF := hide (fun h : bc = false => (show upR r 3 = upR r 2 from by rw [upR_succ]; simp [segR, hbc, h]))
      rw [hbc] at y7
      clear hbc
      go_upto_if 83 with (fail)
      go_cut [7] (fun l2 w' => WrS W r A cp w' ∧ Ln w' (W.heap.size + 1) l2 (upR r 3))
      case first =>
        cases bc
        case false =>
          go_wp2_with fail
          go_meet
          case rel => exact ⟨HP.out, by rw [HsF.out (by simp)]; exact HL.out⟩
        case true =>
          have Hlen := hide (show (upR r 2).length + 1 ≤ 1000 from by have := (up_len Hr.out 2).1; omega)
          go_upto_region 18 with (fail)
          refine wp_region_lit ?_
          refine wpList_plain rfl (fun K hK => ?_)
          go_simp
          refine hK _ _ ?_
          clear hK K
          refine wpList_plain rfl (fun K hK => ?_)
          go_simp
          refine hK _ _ ?_
          clear hK K
          refine wpList_line _ rfl (.tmp 84) (.tmp 85) rfl (W.heap.size + 1) u7 _ [wordR 2] 1 rfl rfl (World.ownsRow.alloc HL.out _) wr.heap.size rfl (Blk.new wr _ _) Hlen.out (by have := HP.out.sz; rw [World.size_alloc]; omega) ?_
          intro l2 w8 hl8 ho8
          have HP8 := hide (HP.out.step (w' := w8) hbig ((((Only.refl (fun _ => False) wr).alloc _).mono (fun _ _ h => h.elim)).trans ho8) (fun k hk => (HL.out.lt k hk).1))
          have HL8 := hide hl8
          clear hl8 ho8
          refine wpList_plain rfl (fun K hK => ?_)
          go_simp
          refine hK _ _ ?_
          clear hK K
          go_wp2_with fail
          go_meet
          case rel => exact ⟨HP8.out, by rw [HsT.out (by simp)]; exact HL8.out⟩
      case rest =>
        obtain ⟨hp, hl⟩ := hcut
        rename World => wr
        clear HsT HsF HP HL y0 y1 y2 y3 y4 y5 y6 y7 y8 y9 y10 y11 y12
        have HP := hide hp
        have HL := hide hl
        clear hp hl
        obtain ⟨y0, y1, y2, y3, y4, y5, y6, y7, y8, y9, y10, y11, y12⟩ := Blk.rules HP.out.b
        obtain ⟨bc, hbc⟩ : ∃ bc, ((r.lose : Int) != 0) = bc := ⟨_, rfl⟩
        have hnz : bc = true → r.lose ≠ 0 := fun h e => by rw [e] at hbc; rw [h] at hbc; exact absurd hbc (by decide)
        have hz : bc = false → r.lose = 0 := fun h => by
          rw [h] at hbc
          have h0 : (r.lose : Int) = 0 := by simpa using hbc
          omega
        have HsT := hide (fun h : bc = true => (show upR r 4 = upR r 3 ++ [wordR 3 ++ [32, UInt8.ofNat r.lose]] from by rw [upR_succ]; simp [segR, hnz h]))
        have HsF := hide (fun h : bc = false => (show upR r 4 = upR r 3 from by rw [upR_succ]; simp [segR, hz h]))
        have HuT := hide (fun h : bc = true => (show upB r.lose = true from (Hr.out.lose.resolve_left (hnz h)).1))
        clear hnz hz
        go_upto_if 89 with (fail)
        go_cut [7] (fun l2 w' => WrS W r A cp w' ∧ Ln w' (W.heap.size + 1) l2 (upR r 4))
        case first =>
          cases bc
          case false =>
            go_wp2_with fail
            go_meet
            case rel => exact ⟨HP.out, by rw [HsF.out (by simp)]; exact HL.out⟩
          case true =>
            have hup := HuT.out (by simp)
            obtain ⟨lt, hlet⟩ : ∃ lt, bytes [UInt8.ofNat r.lose] = lt := ⟨_, rfl⟩
            have hlt1 : lt.size = 1 := by rw [← hlet, bytes_size]; rfl
            have henc : Utf8.encode (r.lose : Int) = lt := by rw [← hlet]; exact enc_up hup
            have hw32 : IntKind.i32.wrap (r.lose : Int) = (r.lose : Int) := by
              have h1 : 65 ≤ r.lose ∧ r.lose ≤ 90 := by simpa [upB] using hup
              exact IntWalk.i32_in _ (by omega)
            obtain ⟨sl, hsl⟩ : ∃ sl, bytes (wordR 3 ++ [32, UInt8.ofNat r.lose]) = sl := ⟨_, rfl⟩
            have hcat : (⟨#[108, 111, 115, 101, 32]⟩ : ByteArray) ++ lt = sl := by rw [← hsl, ← hlet]; exact bytes_cat [108, 111, 115, 101, 32] [UInt8.ofNat r.lose]
            have Hsl := hide hsl
            have Hcat := hide hcat
            clear hup hlet hsl hcat
            have Hlen := hide (show (upR r 3).length + 1 ≤ 1000 from by have := (up_len Hr.out 3).1; omega)
            go_upto_region 20 with (fail)
            refine wp_region_lit ?_
            refine wpList_plain rfl (fun K hK => ?_)
            go_simp
            refine hK _ _ ?_
            clear hK K
            refine wpList_plain rfl (fun K hK => ?_)
            go_simp
            refine hK _ _ ?_
            clear hK K
            refine wpList_plain rfl (fun K hK => ?_)
            go_simp
            refine hK _ _ ?_
            clear hK K
            refine wpList_plain rfl (fun K hK => ?_)
            go_simp
            refine hK _ _ ?_
            clear hK K
            refine wpList_plain rfl (fun K hK => ?_)
            go_simp
            refine hK _ _ ?_
            clear hK K
            refine wpList_plain rfl (fun K hK => ?_)
            go_simp
            refine hK _ _ ?_
            clear hK K
            refine wpList_plain rfl (fun K hK => ?_)
            go_simp
            refine hK _ _ ?_
            clear hK K
            rw [show (⟨#[108, 111, 115, 101, 32]⟩ : ByteArray) ++ lt = sl from Hcat.out]
            refine wpList_line _ rfl (.tmp 90) (.tmp 96) rfl (W.heap.size + 1) u7 _ [wordR 3 ++ [32, UInt8.ofNat r.lose]] 1 rfl rfl (World.ownsRow.alloc HL.out _) wr.heap.size rfl (show Blk (wr.alloc (.cells #[.string sl] 9)) wr.heap.size 9 ([wordR 3 ++ [32, UInt8.ofNat r.lose]].map strV).toArray from (by rw [show ([wordR 3 ++ [32, UInt8.ofNat r.lose]].map strV).toArray = #[Value.string sl] from (by rw [← Hsl.out]; rfl)]; exact Blk.new wr _ _)) Hlen.out (by have := HP.out.sz; rw [World.size_alloc]; omega) ?_
            intro l2 w8 hl8 ho8
            have HP8 := hide (HP.out.step (w' := w8) hbig ((((Only.refl (fun _ => False) wr).alloc _).mono (fun _ _ h => h.elim)).trans ho8) (fun k hk => (HL.out.lt k hk).1))
            have HL8 := hide hl8
            clear hl8 ho8
            refine wpList_plain rfl (fun K hK => ?_)
            go_simp
            refine hK _ _ ?_
            clear hK K
            go_wp2_with fail
            go_meet
            case rel => exact ⟨HP8.out, by rw [HsT.out (by simp)]; exact HL8.out⟩
        case rest =>
          obtain ⟨hp, hl⟩ := hcut
          rename World => wr
          clear HsT HsF HuT hbc  HP HL y0 y1 y2 y3 y4 y5 y6 y7 y8 y9 y10 y11 y12
          have HP := hide hp
          have HL := hide hl
          clear hp hl
          obtain ⟨y0, y1, y2, y3, y4, y5, y6, y7, y8, y9, y10, y11, y12⟩ := Blk.rules HP.out.b
          obtain ⟨bc, hbc⟩ : ∃ bc, (r.line != 0) = bc := ⟨_, rfl⟩
          have hnz : bc = true → r.line ≠ 0 := fun h e => by rw [e] at hbc; rw [h] at hbc; exact absurd hbc (by decide)
          have hz : bc = false → r.line = 0 := fun h => by rw [h] at hbc; simpa using hbc
          have HsT := hide (fun h : bc = true => (show upR r 5 = upR r 4 ++ [wordR 4 ++ 32 :: Lib.decDigits r.line.toNat] from by rw [upR_succ]; simp [segR, hnz h]))
          have HsF := hide (fun h : bc = false => (show upR r 5 = upR r 4 from by rw [upR_succ]; simp [segR, hz h]))
          have HuT := hide (fun h : bc = true => (show 2 ≤ r.line ∧ r.line ≤ 8 from Hr.out.line.resolve_left (hnz h)))
          clear hnz hz
          go_upto_if 100 with (fail)
          go_cut [7] (fun l2 w' => WrS W r A cp w' ∧ Ln w' (W.heap.size + 1) l2 (upR r 5))
          case first =>
            cases bc
            case false =>
              go_wp2_with fail
              go_meet
              case rel => exact ⟨HP.out, by rw [HsF.out (by simp)]; exact HL.out⟩
            case true =>
              have hup := HuT.out (by simp)
              obtain ⟨ln, hln⟩ : ∃ ln : Nat, r.line = (ln : Int) := ⟨r.line.toNat, by omega⟩
              have hln9 : ln ≤ 9999 := by omega
              obtain ⟨lt, hlet⟩ : ∃ lt, bytes (Lib.decDigits ln) = lt := ⟨_, rfl⟩
              have hlt1 : lt.size ≤ 4 := by rw [← hlet, bytes_size]; exact dec_len hln9
              have HI := hide (itoa_any ln wr hln9 HP.out.e)
              rw [hlet] at HI
              obtain ⟨sl, hsl⟩ : ∃ sl, bytes (wordR 4 ++ 32 :: Lib.decDigits r.line.toNat) = sl := ⟨_, rfl⟩
              have hcat : (⟨#[108, 105, 110, 101, 32]⟩ : ByteArray) ++ lt = sl := by rw [← hsl, ← hlet, hln, Int.toNat_natCast]; exact bytes_cat [108, 105, 110, 101, 32] (Lib.decDigits ln)
              rw [hln] at y9
              have h9 : ¬ 9223372036854775807 < 5 + lt.size := by omega
              have Hsl := hide hsl
              have Hcat := hide hcat
              clear hup hlet hsl hcat hln
              have Hlen := hide (show (upR r 4).length + 1 ≤ 1000 from by have := (up_len Hr.out 4).1; omega)
              go_upto_region 22 with (fail)
              refine wp_region_lit ?_
              refine wpList_plain rfl (fun K hK => ?_)
              go_simp
              refine hK _ _ ?_
              clear hK K
              refine wpList_plain rfl (fun K hK => ?_)
              go_simp
              refine hK _ _ ?_
              clear hK K
              refine wpList_plain rfl (fun K hK => ?_)
              go_simp
              refine hK _ _ ?_
              clear hK K
              refine wpList_plain rfl (fun K hK => ?_)
              go_simp
              go_at_call 29
              refine HI.out.mono ?_
              rintro e w9 ⟨rfl, ho9⟩
              have Ho9 := hide ho9
              clear ho9
              refine hK _ _ ?_
              clear hK K
              refine wpList_plain rfl (fun K hK => ?_)
              go_simp
              refine hK _ _ ?_
              clear hK K
              refine wpList_plain rfl (fun K hK => ?_)
              go_simp
              refine hK _ _ ?_
              clear hK K
              rw [show (⟨#[108, 105, 110, 101, 32]⟩ : ByteArray) ++ lt = sl from Hcat.out]
              refine wpList_line _ rfl (.tmp 101) (.tmp 106) rfl (W.heap.size + 1) u7 _ [wordR 4 ++ 32 :: Lib.decDigits r.line.toNat] 1 rfl rfl (World.ownsRow.alloc (ownsRow_only HL.out Ho9.out (fun _ _ h => h)) _) w9.heap.size rfl (show Blk (w9.alloc (.cells #[.string sl] 9)) w9.heap.size 9 ([wordR 4 ++ 32 :: Lib.decDigits r.line.toNat].map strV).toArray from (by rw [show ([wordR 4 ++ 32 :: Lib.decDigits r.line.toNat].map strV).toArray = #[Value.string sl] from (by rw [← Hsl.out]; rfl)]; exact Blk.new w9 _ _)) Hlen.out (by have := (HP.out.no hbig Ho9.out).sz; rw [World.size_alloc]; omega) ?_
              intro l2 w8 hl8 ho8
              have HP8 := hide ((HP.out.no hbig Ho9.out).step (w' := w8) hbig ((((Only.refl (fun _ => False) w9).alloc _).mono (fun _ _ h => h.elim)).trans ho8) (fun k hk => (HL.out.lt k hk).1))
              have HL8 := hide hl8
              clear hl8 ho8
              refine wpList_plain rfl (fun K hK => ?_)
              go_simp
              refine hK _ _ ?_
              clear hK K
              go_wp2_with fail
              go_meet
              case rel => exact ⟨HP8.out, by rw [HsT.out (by simp)]; exact HL8.out⟩
          case rest =>
            obtain ⟨hp, hl⟩ := hcut
            rename World => wr
            clear HsT HsF HuT hbc  HP HL y0 y1 y2 y3 y4 y5 y6 y7 y8 y9 y10 y11 y12
            have HP := hide hp
            have HL := hide hl
            clear hp hl
            obtain ⟨y0, y1, y2, y3, y4, y5, y6, y7, y8, y9, y10, y11, y12⟩ := Blk.rules HP.out.b
            obtain ⟨bc, hbc⟩ : ∃ bc, ((r.reach : Int) != 0) = bc := ⟨_, rfl⟩
            have hnz : bc = true → r.reach ≠ 0 := fun h e => by rw [e] at hbc; rw [h] at hbc; exact absurd hbc (by decide)
            have hz : bc = false → r.reach = 0 := fun h => by
              rw [h] at hbc
              have h0 : (r.reach : Int) = 0 := by simpa using hbc
              omega
            have HsT := hide (fun h : bc = true => (show upR r 6 = upR r 5 ++ [wordR 5 ++ [32, UInt8.ofNat r.reach]] from by rw [upR_succ]; simp [segR, hnz h]))
            have HsF := hide (fun h : bc = false => (show upR r 6 = upR r 5 from by rw [upR_succ]; simp [segR, hz h]))
            have HuT := hide (fun h : bc = true => (show upB r.reach = true from (Hr.out.reach.resolve_left (hnz h)).1))
            clear hnz hz
            go_upto_if 110 with (fail)
            go_cut [7] (fun l2 w' => WrS W r A cp w' ∧ Ln w' (W.heap.size + 1) l2 (upR r 6))
            case first =>
              cases bc
              case false =>
                go_wp2_with fail
                go_meet
                case rel => exact ⟨HP.out, by rw [HsF.out (by simp)]; exact HL.out⟩
              case true =>
                have hup := HuT.out (by simp)
                obtain ⟨lt, hlet⟩ : ∃ lt, bytes [UInt8.ofNat r.reach] = lt := ⟨_, rfl⟩
                have hlt1 : lt.size = 1 := by rw [← hlet, bytes_size]; rfl
                have henc : Utf8.encode (r.reach : Int) = lt := by rw [← hlet]; exact enc_up hup
                have hw32 : IntKind.i32.wrap (r.reach : Int) = (r.reach : Int) := by
                  have h1 : 65 ≤ r.reach ∧ r.reach ≤ 90 := by simpa [upB] using hup
                  exact IntWalk.i32_in _ (by omega)
                obtain ⟨sl, hsl⟩ : ∃ sl, bytes (wordR 5 ++ [32, UInt8.ofNat r.reach]) = sl := ⟨_, rfl⟩
                have hcat : (⟨#[114, 101, 97, 99, 104, 32]⟩ : ByteArray) ++ lt = sl := by rw [← hsl, ← hlet]; exact bytes_cat [114, 101, 97, 99, 104, 32] [UInt8.ofNat r.reach]
                have Hsl := hide hsl
                have Hcat := hide hcat
                clear hup hlet hsl hcat
                have Hlen := hide (show (upR r 5).length + 1 ≤ 1000 from by have := (up_len Hr.out 5).1; omega)
                go_upto_region 24 with (fail)
                refine wp_region_lit ?_
                refine wpList_plain rfl (fun K hK => ?_)
                go_simp
                refine hK _ _ ?_
                clear hK K
                refine wpList_plain rfl (fun K hK => ?_)
                go_simp
                refine hK _ _ ?_
                clear hK K
                refine wpList_plain rfl (fun K hK => ?_)
                go_simp
                refine hK _ _ ?_
                clear hK K
                refine wpList_plain rfl (fun K hK => ?_)
                go_simp
                refine hK _ _ ?_
                clear hK K
                refine wpList_plain rfl (fun K hK => ?_)
                go_simp
                refine hK _ _ ?_
                clear hK K
                refine wpList_plain rfl (fun K hK => ?_)
                go_simp
                refine hK _ _ ?_
                clear hK K
                refine wpList_plain rfl (fun K hK => ?_)
                go_simp
                refine hK _ _ ?_
                clear hK K
                rw [show (⟨#[114, 101, 97, 99, 104, 32]⟩ : ByteArray) ++ lt = sl from Hcat.out]
                refine wpList_line _ rfl (.tmp 111) (.tmp 117) rfl (W.heap.size + 1) u7 _ [wordR 5 ++ [32, UInt8.ofNat r.reach]] 1 rfl rfl (World.ownsRow.alloc HL.out _) wr.heap.size rfl (show Blk (wr.alloc (.cells #[.string sl] 9)) wr.heap.size 9 ([wordR 5 ++ [32, UInt8.ofNat r.reach]].map strV).toArray from (by rw [show ([wordR 5 ++ [32, UInt8.ofNat r.reach]].map strV).toArray = #[Value.string sl] from (by rw [← Hsl.out]; rfl)]; exact Blk.new wr _ _)) Hlen.out (by have := HP.out.sz; rw [World.size_alloc]; omega) ?_
                intro l2 w8 hl8 ho8
                have HP8 := hide (HP.out.step (w' := w8) hbig ((((Only.refl (fun _ => False) wr).alloc _).mono (fun _ _ h => h.elim)).trans ho8) (fun k hk => (HL.out.lt k hk).1))
                have HL8 := hide hl8
                clear hl8 ho8
                refine wpList_plain rfl (fun K hK => ?_)
                go_simp
                refine hK _ _ ?_
                clear hK K
                go_wp2_with fail
                go_meet
                case rel => exact ⟨HP8.out, by rw [HsT.out (by simp)]; exact HL8.out⟩
            case rest =>
              obtain ⟨hp, hl⟩ := hcut
              rename World => wr
              clear HsT HsF HuT hbc  HP HL y0 y1 y2 y3 y4 y5 y6 y7 y8 y9 y10 y11 y12
              have HP := hide hp
              have HL := hide hl
              clear hp hl
              obtain ⟨y0, y1, y2, y3, y4, y5, y6, y7, y8, y9, y10, y11, y12⟩ := Blk.rules HP.out.b
              obtain ⟨bc, hbc⟩ : ∃ bc, r.stuck = bc := ⟨_, rfl⟩
              have HsT := hide (fun h : bc = true => (show upR r 7 = upR r 6 ++ [wordR 6] from by rw [upR_succ]; simp [segR, hbc, h]))
              have HsF := hide (fun h : bc = false => (show upR r 7 = upR r 6 from by rw [upR_succ]; simp [segR, hbc, h]))
              rw [hbc] at y11
              clear hbc
              go_upto_if 120 with (fail)
              go_cut [7] (fun l2 w' => WrS W r A cp w' ∧ Ln w' (W.heap.size + 1) l2 (upR r 7))
              case first =>
                cases bc
                case false =>
                  go_wp2_with fail
                  go_meet
                  case rel => exact ⟨HP.out, by rw [HsF.out (by simp)]; exact HL.out⟩
                case true =>
                  have Hlen := hide (show (upR r 6).length + 1 ≤ 1000 from by have := (up_len Hr.out 6).1; omega)
                  go_upto_region 26 with (fail)
                  refine wp_region_lit ?_
                  refine wpList_plain rfl (fun K hK => ?_)
                  go_simp
                  refine hK _ _ ?_
                  clear hK K
                  refine wpList_plain rfl (fun K hK => ?_)
                  go_simp
                  refine hK _ _ ?_
                  clear hK K
                  refine wpList_line _ rfl (.tmp 121) (.tmp 122) rfl (W.heap.size + 1) u7 _ [wordR 6] 1 rfl rfl (World.ownsRow.alloc HL.out _) wr.heap.size rfl (Blk.new wr _ _) Hlen.out (by have := HP.out.sz; rw [World.size_alloc]; omega) ?_
                  intro l2 w8 hl8 ho8
                  have HP8 := hide (HP.out.step (w' := w8) hbig ((((Only.refl (fun _ => False) wr).alloc _).mono (fun _ _ h => h.elim)).trans ho8) (fun k hk => (HL.out.lt k hk).1))
                  have HL8 := hide hl8
                  clear hl8 ho8
                  refine wpList_plain rfl (fun K hK => ?_)
                  go_simp
                  refine hK _ _ ?_
                  clear hK K
                  go_wp2_with fail
                  go_meet
                  case rel => exact ⟨HP8.out, by rw [HsT.out (by simp)]; exact HL8.out⟩
              case rest =>
                obtain ⟨hp, hl⟩ := hcut
                rename World => wr
                clear HsT HsF HP HL y0 y1 y2 y3 y4 y5 y6 y7 y8 y9 y10 y11 y12
                have HP := hide hp
                have HL := hide hl
                clear hp hl
                obtain ⟨y0, y1, y2, y3, y4, y5, y6, y7, y8, y9, y10, y11, y12⟩ := Blk.rules HP.out.b
                have hq1 := Hr.out.pl1
                have hq2 := Hr.out.pl2
                obtain ⟨pn, hpn⟩ : ∃ pn : Nat, r.plies = (pn : Int) := ⟨r.plies.toNat, by omega⟩
                have hpn9 : pn ≤ 9999 := by omega
                obtain ⟨lt, hlet⟩ : ∃ lt, bytes (Lib.decDigits pn) = lt := ⟨_, rfl⟩
                have hlt1 : lt.size ≤ 4 := by rw [← hlet, bytes_size]; exact dec_len hpn9
                have HI := hide (itoa_any pn wr hpn9 HP.out.e)
                rw [hlet] at HI
                obtain ⟨sl, hsl⟩ : ∃ sl, bytes (wordR 7 ++ 32 :: Lib.decDigits r.plies.toNat) = sl := ⟨_, rfl⟩
                have hcat : (⟨#[112, 108, 105, 101, 115, 32]⟩ : ByteArray) ++ lt = sl := by rw [← hsl, ← hlet, hpn, Int.toNat_natCast]; exact bytes_cat [112, 108, 105, 101, 115, 32] (Lib.decDigits pn)
                have hjl : upR r 7 ++ [wordR 7 ++ 32 :: Lib.decDigits r.plies.toNat, []] = linesR r ++ [[]] := by unfold linesR; rw [upR_succ r 7, List.append_assoc]; rfl
                have hlen := (up_len Hr.out 7).1
                have Hlen := hide (show (upR r 7).length + 2 ≤ 1000 from by omega)
                have HJ := hide hjl
                have Htl := hide (textR_len Hr.out)
                rw [hpn] at y12
                have h9 : ¬ 9223372036854775807 < 6 + lt.size := by omega
                have Hsl := hide hsl
                have Hcat := hide hcat
                clear hq1 hq2 hlet hsl hcat hpn hjl hlen
                go_upto_region 27 with (fail)
                refine wp_region_lit ?_
                refine wpList_plain rfl (fun K hK => ?_)
                go_simp
                refine hK _ _ ?_
                clear hK K
                refine wpList_plain rfl (fun K hK => ?_)
                go_simp
                refine hK _ _ ?_
                clear hK K
                refine wpList_plain rfl (fun K hK => ?_)
                go_simp
                refine hK _ _ ?_
                clear hK K
                refine wpList_plain rfl (fun K hK => ?_)
                go_simp
                go_at_call 29
                refine HI.out.mono ?_
                rintro e w9 ⟨rfl, ho9⟩
                have Ho9 := hide ho9
                clear ho9
                refine hK _ _ ?_
                clear hK K
                refine wpList_plain rfl (fun K hK => ?_)
                go_simp
                refine hK _ _ ?_
                clear hK K
                refine wpList_plain rfl (fun K hK => ?_)
                go_simp
                refine hK _ _ ?_
                clear hK K
                rw [show (⟨#[112, 108, 105, 101, 115, 32]⟩ : ByteArray) ++ lt = sl from Hcat.out]
                refine wpList_line _ rfl (.tmp 124) (.tmp 129) rfl (W.heap.size + 1) u7 _ [wordR 7 ++ 32 :: Lib.decDigits r.plies.toNat, []] 2 rfl rfl (World.ownsRow.alloc (ownsRow_only HL.out Ho9.out (fun _ _ h => h)) _) w9.heap.size rfl (show Blk (w9.alloc (.cells #[.string sl, .string ⟨#[]⟩] 9)) w9.heap.size 9 ([wordR 7 ++ 32 :: Lib.decDigits r.plies.toNat, []].map strV).toArray from (by rw [show ([wordR 7 ++ 32 :: Lib.decDigits r.plies.toNat, []].map strV).toArray = #[Value.string sl, Value.string ⟨#[]⟩] from (by rw [← Hsl.out]; rfl)]; exact Blk.new w9 _ _)) Hlen.out (by have := (HP.out.no hbig Ho9.out).sz; rw [World.size_alloc]; omega) ?_
                intro l2 w8 hl8 ho8
                have HP8 := hide ((HP.out.no hbig Ho9.out).step (w' := w8) hbig ((((Only.refl (fun _ => False) w9).alloc _).mono (fun _ _ h => h.elim)).trans ho8) (fun k hk => (HL.out.lt k hk).1))
                rw [HJ.out] at hl8
                have hl81 : (upR r 7).length + 2 = (linesR r ++ [[]]).length := by rw [← HJ.out, List.length_append]; rfl
                have HJn := hide (join_lines w8 (W.heap.size + 1) l2 _ hl8 (by rw [← hl81]; omega) (by rw [← hl81]; exact Hlen.out) (by have := Htl.out; unfold textR at this; omega))
                clear hl8 ho8 hl81
                refine wpList_plain rfl (fun K hK => ?_)
                go_simp
                refine hK _ _ ?_
                clear hK K
                go_wp2_with (go_at_call 32; refine HJn.out.mono ?_; rintro e w10 ⟨rfl, hb10⟩; have Hb10 := hide hb10; clear hb10)
                go_ret2
                exact ⟨rfl, HP8.out.o.trans (Only.of_below Hb10.out (fun k h1 h2 => by omega))⟩
end Go.Proofs.YtcdfeaodfmfdnaaGreatDoor
