/- Games that go on through loss, plainly: the lines of a text; how far it is read. -/
import Derived.Test.YtcdfeaodfmfdnaaGreatDoorOqKit
import Derived.Lib.AtoiTie
import Derived.Lib.ItoaNum
namespace Go.Proofs.YtcdfeaodfmfdnaaGreatDoor
open Go.RowKit

/-! Numerals. -/
theorem parse_snoc : ∀ (l : List UInt8) (acc m : Nat) (d : Nat), Lib.parseUint10 acc l = .ok m → d < 10 → m * 10 + d < 9223372036854775808 → Lib.parseUint10 acc (l ++ [UInt8.ofNat (48 + d)]) = .ok (m * 10 + d)
 | [], acc, m, d, h, hd, hm => by
  simp only [Lib.parseUint10] at h
  injection h with h
  subst h
  have hc : (UInt8.ofNat (48 + d)).toNat = 48 + d := by simp; omega
  simp only [List.nil_append, Lib.parseUint10, hc]
  rw [if_pos (by omega), if_neg (by omega), if_neg (by omega)]
  congr 1
  omega
 | c :: r, acc, m, d, h, hd, hm => by
  simp only [Lib.parseUint10] at h
  simp only [List.cons_append, Lib.parseUint10]
  split at h
  ·
   rename_i h1
   split at h
   ·
    cases h
   ·
    rename_i h2
    split at h
    ·
     cases h
    ·
     rename_i h3
     rw [if_pos h1, if_neg h2, if_neg h3]
     exact parse_snoc r _ m d h hd hm
  ·
   cases h
theorem parse_dec (u : Nat) : u < 9223372036854775808 → Lib.parseUint10 0 (Lib.decDigits u) = .ok u := by
 induction u using Nat.strongRecOn with
 | ind u ih =>
  intro h
  rw [Lib.decDigits]
  split
  ·
   rename_i h10
   have hc : (UInt8.ofNat (48 + u)).toNat = 48 + u := by simp; omega
   simp only [Lib.parseUint10, hc]
   rw [if_pos (by omega), if_neg (by omega), if_neg (by omega)]
   congr 1
   omega
  ·
   rename_i h10
   have h2 := parse_snoc _ 0 (u / 10) (u % 10) (ih (u / 10) (by omega) (by omega)) (by omega) (by omega)
   rw [h2]
   congr 1
   omega
theorem dec_byte (u : Nat) : ∀ c ∈ Lib.decDigits u, 48 ≤ c.toNat ∧ c.toNat ≤ 57 := by
 induction u using Nat.strongRecOn with
 | ind u ih =>
  intro c hc
  rw [Lib.decDigits] at hc
  split at hc
  ·
   rename_i h10
   rw [List.mem_singleton] at hc
   subst hc
   simp
   omega
  ·
   rename_i h10
   rcases List.mem_append.1 hc with hc | hc
   ·
    exact ih (u / 10) (by omega) c hc
   ·
    rw [List.mem_singleton] at hc
    subst hc
    simp
    omega
theorem dec_ne (u : Nat) : Lib.decDigits u ≠ [] := by
 rw [Lib.decDigits]
 split <;> simp
theorem itoa_dec {n : Int} (h : 0 ≤ n) : Lib.itoa n = Lib.decDigits n.toNat := by
 unfold Lib.itoa
 rw [if_neg (by omega)]
theorem itoa_all {n : Int} (h0 : 0 ≤ n) (h1 : n ≤ 9223372036854775807) : Lib.atoiAll (Lib.itoa n) = .ok n := by
 rw [itoa_dec h0]
 cases hd : Lib.decDigits n.toNat with
 | nil => exact absurd hd (dec_ne _)
 | cons c r =>
  have hc := dec_byte n.toNat c (by rw [hd]; exact List.mem_cons_self)
  rw [Lib.atoiAll_plain c r (by omega) (by omega)]
  have hp : Lib.parseMag (c :: r) = .ok n.toNat := by
   unfold Lib.parseMag
   rw [if_neg (by simp), ← hd]
   exact parse_dec _ (by omega)
  rw [hp]
  simp only [Lib.signless]
  rw [if_neg (by omega)]
  congr 1
  omega
theorem itoa_byte {n : Int} (h0 : 0 ≤ n) {c : UInt8} (hc : c ∈ Lib.itoa n) : 48 ≤ c.toNat ∧ c.toNat ≤ 57 := by
 rw [itoa_dec h0] at hc
 exact dec_byte _ c hc
theorem itoa_no {n : Int} (h0 : 0 ≤ n) {x : UInt8} (hx : x.toNat < 48) : x ∉ Lib.itoa n := fun h => by
 have := itoa_byte h0 h
 omega
theorem itoa_inj {a b : Int} (a0 : 0 ≤ a) (a1 : a ≤ 9223372036854775807) (b0 : 0 ≤ b) (b1 : b ≤ 9223372036854775807) (h : Lib.itoa a = Lib.itoa b) : a = b := by
 have h1 := itoa_all a0 a1
 rw [h, itoa_all b0 b1] at h1
 injection h1 with h1
 exact h1.symm

/-! A line. -/
def LineP (s : HoD) (t : List UInt8) (mv : ByteArray) (a : Int) : Prop := t = Lib.itoa s.ply ++ 32 :: (Lib.itoa a ++ 32 :: mv.data.toList) ∧ (32 : UInt8) ∉ mv.data.toList ∧ s.now ≤ a ∧ a ≤ 9223372036854775807
theorem LineP.split {s : HoD} {t : List UInt8} {mv : ByteArray} {a : Int} (h : LineP s t mv a) (hp : 0 ≤ s.ply) (hn : 0 ≤ s.now) : splitL 32 t = [Lib.itoa s.ply, Lib.itoa a, mv.data.toList] := by
 obtain ⟨rfl, h2, h3, _⟩ := h
 rw [splitL_app (itoa_no hp (by decide)), splitL_app (itoa_no (by omega) (by decide)), splitL_none h2]
theorem line_of {s : HoD} {t f0 f1 f2 : List UInt8} {a : Int} (h : splitL 32 t = [f0, f1, f2]) (h0 : Lib.itoa s.ply = f0) (h1 : Lib.itoa a = f1) (h3 : s.now ≤ a) (h4 : a ≤ 9223372036854775807) : LineP s t (bytes f2) a := by
 have hj := join_split 32 t
 rw [h] at hj
 refine ⟨?_, ?_, h3, h4⟩
 ·
  rw [← hj, h0, h1]
  simp [joinL, bytes]
 ·
  have := split_nosep 32 t f2 (by rw [h]; simp)
  simpa [bytes] using this
theorem LineP.uniq {s : HoD} {t : List UInt8} {mv mv' : ByteArray} {a a' : Int} (h : LineP s t mv a) (h' : LineP s t mv' a') (hp : 0 ≤ s.ply) (hn : 0 ≤ s.now) : mv = mv' ∧ a = a' := by
 have e1 := h.split hp hn
 rw [h'.split hp hn] at e1
 simp only [List.cons.injEq, and_true, true_and] at e1
 obtain ⟨-, -, h3, h4⟩ := h
 obtain ⟨-, -, h3', h4'⟩ := h'
 exact ⟨bytes_eq e1.2.symm, (itoa_inj (by omega) h4' (by omega) h4 e1.1).symm⟩
def msgO (s : HoD) (mv : ByteArray) (a : Int) : MsgD := ⟨s.p.turn, s.ply, mv, a⟩
/-- a text read, line by line, as long as its lines are just what a house would save -/
inductive OpenR : HoD → List UInt8 → HoD → Nat → Prop
 | stop {s : HoD} {l : List UInt8} (h : ∀ x y, l = x ++ 10 :: y → (10 : UInt8) ∉ x → ∀ mv a, LineP s x mv a → (takeP s (msgO s mv a)).2 ≠ 1) : OpenR s l s 0
 | next {s s' : HoD} {l x y : List UInt8} {mv : ByteArray} {a : Int} {n : Nat} (hl : l = x ++ 10 :: y) (hx : (10 : UInt8) ∉ x) (hp : LineP s x mv a) (hk : (takeP s (msgO s mv a)).2 = 1) (h : OpenR (takeP s (msgO s mv a)).1 y s' n) : OpenR s l s' (n + 1)
theorem cut_uniq {x x' y y' : List UInt8} (h : x ++ 10 :: y = x' ++ 10 :: y') (hx : (10 : UInt8) ∉ x) (hx' : (10 : UInt8) ∉ x') : x = x' ∧ y = y' := by
 induction x generalizing x' with
 | nil =>
  cases x' with
  | nil => simpa using h
  | cons c r =>
   simp only [List.nil_append, List.cons_append, List.cons.injEq] at h
   exact absurd (by rw [← h.1]; exact List.mem_cons_self) hx'
 | cons c r ih =>
  cases x' with
  | nil =>
   simp only [List.nil_append, List.cons_append, List.cons.injEq] at h
   exact absurd (by rw [h.1]; exact List.mem_cons_self) hx
  | cons c' r' =>
   simp only [List.cons_append, List.cons.injEq] at h
   obtain ⟨e1, e2⟩ := ih h.2 (fun hh => hx (List.mem_cons_of_mem _ hh)) (fun hh => hx' (List.mem_cons_of_mem _ hh))
   exact ⟨by rw [h.1, e1], e2⟩
theorem OpenR.uniq {s s1 s2 : HoD} {l : List UInt8} {n1 n2 : Nat} (hok : HoOk s) (h1 : OpenR s l s1 n1) (h2 : OpenR s l s2 n2) : s1 = s2 ∧ n1 = n2 := by
 induction h1 generalizing s2 n2 with
 | stop h =>
  cases h2 with
  | stop _ => exact ⟨rfl, rfl⟩
  | next hl hx hp hk _ => exact absurd hk (h _ _ hl hx _ _ hp)
 | next hl hx hp hk _ ih =>
  cases h2 with
  | stop h => exact absurd hk (h _ _ hl hx _ _ hp)
  | next hl' hx' hp' hk' h' =>
   rw [hl] at hl'
   obtain ⟨rfl, rfl⟩ := cut_uniq hl' hx hx'
   obtain ⟨rfl, rfl⟩ := hp.uniq hp' hok.ply hok.now
   obtain ⟨e1, e2⟩ := ih (take_ok hok hp.2.2.2) h'
   exact ⟨e1, by rw [e2]⟩
/-- where a message is taken, the flag stays down -/
theorem take_done {s : HoD} {m : MsgD} (h : (takeP s m).2 = 1) : outP s = 0 ∧ 0 ≤ leftP (passP s m.at_) ∧ m.ply = s.ply ∧ m.seat = s.p.turn ∧ ∃ x, readM s.r s.p m.mv = some x ∧ (takeP s m).1 = doneP (passP s m.at_) m x := by
 unfold takeP at h ⊢
 by_cases q : outP s = 0
 ·
  rw [if_neg (by rw [q]; exact fun h => h rfl)] at h ⊢
  by_cases ql : leftP (passP s m.at_) < 0
  ·
   rw [if_pos ql] at h; simp at h
  ·
   rw [if_neg ql] at h ⊢
   by_cases qp : m.ply = s.ply
   ·
    rw [if_neg (fun h => h qp)] at h ⊢
    by_cases qs : m.seat = s.p.turn
    ·
     rw [if_neg (fun h => h qs)] at h ⊢
     cases hx : readM s.r s.p m.mv with
     | none => rw [hx] at h; simp at h
     | some x => exact ⟨q, by omega, qp, qs, x, rfl, rfl⟩
    ·
     rw [if_pos qs] at h; simp at h
   ·
    rw [if_pos qp] at h; simp at h
 ·
  rw [if_pos q] at h; simp at h
/-- where it is not, all that may have turned is the clock and the flag -/
theorem take_undone {s : HoD} {m : MsgD} (h : (takeP s m).2 ≠ 1) : ∃ l0 l1 now flag, (takeP s m).1 = { s with l0 := l0, l1 := l1, now := now, flag := flag } := by
 have hp : ∃ l0 l1 now, passP s m.at_ = { s with l0 := l0, l1 := l1, now := now } := by
  unfold passP
  split
  ·
   split
   ·
    exact ⟨_, _, _, rfl⟩
   ·
    exact ⟨_, _, _, rfl⟩
  ·
   exact ⟨s.l0, s.l1, s.now, rfl⟩
 obtain ⟨l0, l1, now, hp⟩ := hp
 unfold takeP at h ⊢
 by_cases q : outP s = 0
 ·
  rw [if_neg (by rw [q]; exact fun h => h rfl)] at h ⊢
  by_cases ql : leftP (passP s m.at_) < 0
  ·
   rw [if_pos ql] at h ⊢
   exact ⟨l0, l1, now, 2 - s.p.turn, by rw [hp]⟩
  ·
   rw [if_neg ql] at h ⊢
   by_cases qp : m.ply = s.ply
   ·
    rw [if_neg (fun h => h qp)] at h ⊢
    by_cases qs : m.seat = s.p.turn
    ·
     rw [if_neg (fun h => h qs)] at h ⊢
     cases hx : readM s.r s.p m.mv with
     | none => exact ⟨l0, l1, now, s.flag, by simp only; rw [hp]⟩
     | some x => rw [hx] at h; simp at h
    ·
     rw [if_pos qs] at h ⊢
     exact ⟨l0, l1, now, s.flag, by simp only; rw [hp]⟩
   ·
    rw [if_pos qp] at h ⊢
    exact ⟨l0, l1, now, s.flag, by simp only; rw [hp]⟩
 ·
  rw [if_pos q]
  exact ⟨s.l0, s.l1, s.now, s.flag, rfl⟩
/-! The next line. -/
theorem idx10 : ∀ l : List UInt8, (Lib.indexByte l 10 = -1 ∧ (10 : UInt8) ∉ l) ∨ ∃ x y, l = x ++ 10 :: y ∧ (10 : UInt8) ∉ x ∧ Lib.indexByte l 10 = (x.length : Int)
 | [] => .inl ⟨rfl, by simp⟩
 | b :: l => by
  by_cases hb : b = 10
  ·
   subst hb
   exact .inr ⟨[], l, rfl, by simp, by simp [Lib.indexByte]⟩
  ·
   rcases idx10 l with ⟨h1, h2⟩ | ⟨x, y, h1, h2, h3⟩
   ·
    refine .inl ⟨by rw [Lib.indexByte, if_neg (by simpa using hb), h1]; rfl, fun h => ?_⟩
    rcases List.mem_cons.1 h with h | h
    ·
     exact hb h.symm
    ·
     exact h2 h
   ·
    refine .inr ⟨b :: x, y, by rw [h1]; rfl, fun h => ?_, ?_⟩
    ·
     rcases List.mem_cons.1 h with h | h
     ·
      exact hb h.symm
     ·
      exact h2 h
    ·
     rw [Lib.indexByte, if_neg (by simpa using hb), h3, if_neg (by rw [beq_iff_eq]; omega), List.length_cons]
     omega
theorem cut10 (l : List UInt8) : (Lib.cut l [10] = (l, [], false) ∧ (10 : UInt8) ∉ l) ∨ ∃ x y, l = x ++ 10 :: y ∧ (10 : UInt8) ∉ x ∧ Lib.cut l [10] = (x, y, true) := by
 rcases idx10 l with ⟨h1, h2⟩ | ⟨x, y, h1, h2, h3⟩
 ·
  refine .inl ⟨?_, h2⟩
  unfold Lib.cut
  rw [Lib.index_one, h1, if_neg (by omega)]
 ·
  refine .inr ⟨x, y, h1, h2, ?_⟩
  unfold Lib.cut
  rw [Lib.index_one, h3, if_pos (by omega)]
  subst h1
  simp [List.drop_append]
/-- as far as the text is read -/
def OpenCont (s0 : HoD) (t : List UInt8) (s : HoD) (cur : List UInt8) (k : Nat) : Prop := ∀ s' n, OpenR s cur s' n → OpenR s0 t s' (n + k)
theorem OpenCont.start (s : HoD) (t : List UInt8) : OpenCont s t s t 0 := fun _ _ h => h
theorem OpenCont.step {s0 s : HoD} {t cur x y : List UInt8} {mv : ByteArray} {a : Int} {k : Nat} (h : OpenCont s0 t s cur k) (hl : cur = x ++ 10 :: y) (hx : (10 : UInt8) ∉ x) (hp : LineP s x mv a) (hk : (takeP s (msgO s mv a)).2 = 1) : OpenCont s0 t (takeP s (msgO s mv a)).1 y (k + 1) := fun s' n hr => by
 have := h s' (n + 1) (.next hl hx hp hk hr)
 rwa [show n + (k + 1) = n + 1 + k from by omega]
theorem OpenCont.stop {s0 s : HoD} {t cur : List UInt8} {k : Nat} (h : OpenCont s0 t s cur k) (hs : ∀ x y, cur = x ++ 10 :: y → (10 : UInt8) ∉ x → ∀ mv a, LineP s x mv a → (takeP s (msgO s mv a)).2 ≠ 1) : OpenR s0 t s k := by
 have := h s 0 (.stop hs)
 rwa [Nat.zero_add] at this
theorem OpenCont.none {s0 s : HoD} {t cur : List UInt8} {k : Nat} (h : OpenCont s0 t s cur k) (hs : (10 : UInt8) ∉ cur) : OpenR s0 t s k := h.stop fun x y e _ => absurd (by rw [e]; simp) hs
theorem OpenCont.bad {s0 s : HoD} {t cur x y : List UInt8} {k : Nat} (h : OpenCont s0 t s cur k) (hl : cur = x ++ 10 :: y) (hx : (10 : UInt8) ∉ x) (hs : ∀ mv a, LineP s x mv a → (takeP s (msgO s mv a)).2 ≠ 1) : OpenR s0 t s k := h.stop fun x' y' e hx' mv a => by
 rw [hl] at e
 obtain ⟨rfl, rfl⟩ := cut_uniq e hx hx'
 exact hs mv a
def strLen : Value → Nat
 | .string b => b.size
 | _ => 0
theorem take_flag {s : HoD} {m : MsgD} (h : (takeP s m).2 = 1) (hf : s.flag = 0) : (takeP s m).1.flag = 0 := by
 obtain ⟨_, _, _, _, x, _, e⟩ := take_done h
 rw [e]
 show (passP s m.at_).flag = 0
 rw [(pass_same s m.at_).2.2.2.1, hf]
theorem take_lines {s : HoD} {mv : ByteArray} {a : Int} (h : (takeP s (msgO s mv a)).2 = 1) (hn : s.now ≤ a) : (takeP s (msgO s mv a)).1.lines = s.lines ++ (Lib.itoa s.ply ++ 32 :: (Lib.itoa a ++ 32 :: (mv.data.toList ++ [10]))) := by
 obtain ⟨_, _, _, _, x, _, e⟩ := take_done h
 rw [e]
 have hp := pass_same s a
 show (passP s a).lines ++ lineH (passP s a) mv = _
 have hnow : (passP s a).now = a := by
  unfold passP
  split
  ·
   split <;> rfl
  ·
   show s.now = a
   omega
 unfold lineH
 rw [hp.2.2.2.2.1, hp.2.2.1, hnow]
end Go.Proofs.YtcdfeaodfmfdnaaGreatDoor
