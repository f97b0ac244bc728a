/- Pieces that a call has made, in memory: a row of its own, each piece's ways a row of its own. rules.line, in one: what it says of a line. rules.order: walked. rules.Read, plainly: when a line may stand where it stands; no line holds the byte that parts lines. rules.Read: what holds of the rules read; what stays in memory while they are read. -/
import Derived.Test.YtcdfeaodfmfdnaaGreatDoorRxLineP
import Derived.Test.YtcdfeaodfmfdnaaGreatDoorRxTextM
import Derived.Test.YtcdfeaodfmfdnaaGreatDoorRxNumM
import Derived.Test.YtcdfeaodfmfdnaaGreatDoorRuChk
namespace Go.Proofs.YtcdfeaodfmfdnaaGreatDoor
open Go.RowKit

/-- pieces in a row of the call's own, apart from the box bx -/
def PcsOwn (w : World) (base bx : Nat) (v : Value) (ps : List PieceD) (hs : List (Option Addr × Nat)) : Prop :=
  ∃ e : hs.length = ps.length, w.ownsRow base 77 3 v ps.length (cellsP ps hs) ∧
    ∀ k (h : k < ps.length), ps[k].ways.length ≤ (hs[k]'(by omega)).2 ∧ WaysAt w w.heap.size (hs[k]'(by omega)).1 ps[k].ways ∧ (0 < ps[k].ways.length → ∀ a, (hs[k]'(by omega)).1 = some a → v.ownBlock ≠ some a.block ∧ bx < a.block)
theorem PcsOwn.nil (w : World) (base bx : Nat) : PcsOwn w base bx (.slice none 0 0) [] [] := ⟨rfl, World.ownsRow_nil _ _ _ _, fun k h => by simp at h⟩
theorem flatW_pos {ws : List WayD} (h : 0 < (ints (flatW ws)).length) : 0 < ws.length := by
  rw [ints_length, flatW_len] at h
  omega
theorem PcsOwn.only {S : Nat → Prop} {w w' : World} {base bx : Nat} {v : Value} {ps : List PieceD} {hs : List (Option Addr × Nat)} (h : PcsOwn w base bx v ps hs) (ho : Only S w w') (hS : ∀ k, S k → k ≤ bx) (hb : bx < base) : PcsOwn w' base bx v ps hs := by
  obtain ⟨e, h1, h2⟩ := h
  refine ⟨e, ownsRow_only h1 ho (fun g hg hs => by have := (h1.lt g hg).1; have := hS g hs; omega), fun k hk => ?_⟩
  obtain ⟨a1, a2, a3⟩ := h2 k hk
  exact ⟨a1, Cells.only a2 ho (fun hl a ha hs => by have h8 := (a3 (flatW_pos hl) a ha).2; have h9 := hS _ hs; omega), a3⟩
theorem cellsP_app : ∀ (ps : List PieceD) (hs : List (Option Addr × Nat)) (p : PieceD) (h : Option Addr × Nat), hs.length = ps.length → cellsP (ps ++ [p]) (hs ++ [h]) = cellsP ps hs ++ [.int .u8 p.letter, .int .i64 p.worth, .slice h.1 p.ways.length h.2]
  | [], [], _, _, _ => rfl
  | q :: ps, g :: hs, p, h, e => by
    have := cellsP_app ps hs p h (by simpa using e)
    simp [cellsP, this]
  | [], _ :: _, _, _, e => by simp at e
  | _ :: _, [], _, _, e => by simp at e
theorem PcsOwn.push {W w' : World} {B b : Nat} {v v' wv : Value} {ps : List PieceD} {hs : List (Option Addr × Nat)} {p : PieceD} (h : PcsOwn W B b v ps hs) (hbB : b < B) (hBW : B ≤ W.heap.size)
    (hown : w'.ownsRow B 77 3 v' (ps.length + 1) (cellsP ps hs ++ [.int .u8 (p.letter : Int), .int .i64 p.worth, wv])) (hw : w'.ownsRow W.heap.size 80 4 wv p.ways.length (ints (flatW p.ways)))
    (hg : v'.ownBlock = v.ownBlock ∨ ∃ g, v'.ownBlock = some g ∧ W.heap.size ≤ g ∧ ∀ k, wv.ownBlock = some k → k < g) (ho : Only (fun x => x = b ∨ v.ownBlock = some x) W w') : ∃ hs', PcsOwn w' B b v' (ps ++ [p]) hs' := by
  obtain ⟨e, h1, h2⟩ := h
  obtain ⟨Aw, cw, rfl, hc, _, hcell⟩ := Cells.of_ownK hw
  refine ⟨hs ++ [(Aw, cw)], by simp [e], ?_, fun k hk => ?_⟩
  · rw [List.length_append, List.length_singleton, cellsP_app ps hs p (Aw, cw) e]
    exact hown
  · by_cases hkl : k < ps.length
    · obtain ⟨a1, a2, a3⟩ := h2 k hkl
      rw [List.getElem_append_left hkl]
      rw [List.getElem_append_left (show k < hs.length by omega)]
      refine ⟨a1, Cells.only a2 ho (fun hl a ha hs => ?_), fun hl a ha => ⟨fun h3 => ?_, (a3 hl a ha).2⟩⟩
      · obtain ⟨n1, n2⟩ := a3 (flatW_pos hl) a ha
        rcases hs with hs | hs
        · exact absurd hs (Nat.ne_of_gt n2)
        · exact n1 hs
      · rcases hg with hg | ⟨g, hg, hge, _⟩
        · rw [hg] at h3; exact (a3 hl a ha).1 h3
        · rw [hg] at h3
          injection h3 with h3
          obtain ⟨bb, off, hA, hbb, _⟩ := a2 (by rw [ints_length, flatW_len]; omega)
          rw [hA] at ha
          injection ha with ha
          rw [← ha] at h3
          simp only at h3
          omega
    · have hk2 : k = ps.length := by simp at hk; omega
      subst hk2
      rw [List.getElem_append_right (Nat.le_refl _), List.getElem_append_right (by omega)]
      simp only [e, Nat.sub_self, List.getElem_cons_zero]
      refine ⟨hc, hcell, fun _ a ha => ?_⟩
      have hob : (Value.slice Aw p.ways.length cw).ownBlock = some a.block := by rw [ha]; rfl
      have hlt := hw.lt a.block hob
      refine ⟨fun h3 => ?_, by omega⟩
      rcases hg with hg | ⟨g, hg, _, hgk⟩
      · rw [hg] at h3
        have := (h1.lt _ h3).2
        omega
      · rw [hg] at h3
        injection h3 with h3
        have := hgk _ hob
        omega
/-- as the reader of rules wants them -/
theorem PcsOwn.pieces {w : World} {base bx : Nat} {v : Value} {ps : List PieceD} {hs : List (Option Addr × Nat)} (h : PcsOwn w base bx v ps hs) : ∃ A c, v = .slice A ps.length c ∧ ps.length ≤ c ∧ PiecesAt w w.heap.size A ps := by
  obtain ⟨e, h1, h2⟩ := h
  obtain ⟨A, c, rfl, hc, _, hcell⟩ := Cells.of_ownK h1
  exact ⟨A, c, rfl, hc, hs, e, hcell, fun k hk => ⟨(h2 k hk).1, (h2 k hk).2.1⟩⟩
end Go.Proofs.YtcdfeaodfmfdnaaGreatDoor
namespace Go.Proofs.YtcdfeaodfmfdnaaGreatDoor
open Go.RowKit

def ruC (r : RulesD) (sv : Value) : Array Value := #[.int .i64 r.start.w, .int .i64 r.start.h, .string r.start.cells, .int .i64 r.start.turn, .string r.start.h0, .string r.start.h1, sv, .bool r.drops, .int .u8 (r.lose : Int), .int .i64 r.line, .int .u8 (r.reach : Int), .bool r.stuck, .int .i64 r.plies]
/-- rules being read, in the box b -/
def Ru (w : World) (b B : Nat) (r : RulesD) : Prop := ∃ sv hs, Blk w b 27 (ruC r sv) ∧ PcsOwn w B b sv r.pieces hs
/-- what line answers -/
def LineOut (s : ByteArray) (b B : Nat) (r : RulesD) (W : World) (e : Ending) (w' : World) : Prop :=
  ∃ ok, e = .returned (.bool ok) ∧ (ok = true → ∃ k r', LineK k s.data.toList r r' ∧ Ru w' b B r') ∧ (∀ k r', LineK k s.data.toList r r' → ok = true) ∧ Only (fun x => x = b ∨ B ≤ x) W w'
theorem box_frame {b B : Nat} {W w' : World} (h : Only (fun x => x = b) W w') : Only (fun x => x = b ∨ B ≤ x) W w' := h.mono (fun _ _ h => .inl h)
theorem line_any (b B : Nat) (s : ByteArray) (r : RulesD) (W : World) (hs : s.size < 4294967281) (he : Env W) (hr : Ru W b B r) (hbB : b < B) (hBW : B ≤ W.heap.size) (hn : r.pieces.length ≤ 10000000000) :
    Calls Tryz.prog 36 #[.pointer (some ⟨b, 0, none⟩), .string s] W (LineOut s b B r W) := by
  obtain ⟨sv, hs', hB, hP⟩ := hr
  obtain ⟨⟨w, h, c, t, h0, h1⟩, ps, dr, lo, li, re, st, pl⟩ := r
  simp only at hn
  have hcs := cut_says s.data.toList [32]
  have hk : ∀ {k : Nat} {r r' : RulesD}, LineK k s.data.toList r r' → k ≤ 7 ∧ (Lib.cut s.data.toList [32]).1 = wordR k := fun h => line_word h
  by_cases w0 : (Lib.cut s.data.toList [32]).1 = wordR 0
  · refine (line_start b s w h t li pl c h0 h1 sv dr st lo re W hs he hB w0).mono ?_
    rintro e w' ⟨q, code, at_, hq, rfl, hb, ho⟩
    refine ⟨_, rfl, fun hok => ?_, fun k r' hl => ?_, box_frame ho⟩
    · rw [Bool.and_eq_true, decide_eq_true_eq] at hok
      obtain ⟨hm, rfl⟩ := hok
      rcases hq with ⟨_, _, _, h0, _⟩ | ⟨st', hrun, hacc, rfl, _, _⟩
      · cases h0
      · obtain ⟨hpk, htx⟩ := taken_text hrun hacc
        exact ⟨0, _, ⟨_, hpk, by have := hcs.1 hm; rw [w0, htx] at this; simpa using this, rfl⟩, sv, hs', hb, hP.only ho (fun _ h => Nat.le_of_eq h) hbB⟩
    · obtain ⟨k7, hw⟩ := hk hl
      obtain rfl := word_inj (k' := 0) k7 (by omega) (by rw [← hw, w0])
      obtain ⟨p, hp, hx, _⟩ := hl
      rw [hx, cut1_yes (word_no (by omega))] at hq ⊢
      obtain ⟨st', h1', h2', h3'⟩ := text_taken hp
      have := (readP_uniq hq (.inr ⟨st', h1', h2', rfl, rfl, rfl⟩)).2.1
      simp [this]
  by_cases w1 : (Lib.cut s.data.toList [32]).1 = wordR 1
  · obtain ⟨e, hown, hcells⟩ := id hP
    refine (line_piece b s w h t li pl c h0 h1 sv dr st lo re W B ps.length (cellsP ps hs') hs he hB hbB hBW hn hown w1).mono ?_
    rintro e' w' ⟨p, ok, sv', wv, rfl, hpp, hb, hown', hwn, hg, ho⟩
    refine ⟨ok, rfl, fun hok => ?_, fun k r' hl => ?_, ho.mono (fun x hx h => h.imp id (fun h2 => (hown.lt x h2).1))⟩
    · obtain ⟨hin, w0', h32, hl⟩ := hpp.1 hok
      obtain ⟨hs2, hP2⟩ := PcsOwn.push hP hbB hBW hown' hwn hg ho
      refine ⟨1, _, ⟨p, hin, ?_, rfl⟩, sv', hs2, hb, hP2⟩
      have : (Lib.cut s.data.toList [32]).1 = w0' := by rw [hl, tailP, cut1_yes h32]
      rw [hl, ← this, w1]
    · obtain ⟨k7, hw⟩ := hk hl
      obtain rfl := word_inj (k' := 1) k7 (by omega) (by rw [← hw, w1])
      obtain ⟨p', hp', hx, _⟩ := hl
      exact hpp.2 p' hp' (wordR 1) (by decide) (by decide) hx
  by_cases w2 : (Lib.cut s.data.toList [32]).1 = wordR 2
  · refine (line_drops b s w h t li pl c h0 h1 sv dr st lo re W hs he hB w2).mono ?_
    rintro e w' ⟨rfl, hb, ho⟩
    refine ⟨_, rfl, fun hok => ?_, fun k r' hl => ?_, box_frame ho⟩
    · have hm : (Lib.cut s.data.toList [32]).2.2 = false := by simpa using hok
      exact ⟨2, _, ⟨by rw [← hcs.2 hm, w2], rfl⟩, sv, hs', hb, hP.only ho (fun _ h => Nat.le_of_eq h) hbB⟩
    · obtain ⟨k7, hw⟩ := hk hl
      obtain rfl := word_inj (k' := 2) k7 (by omega) (by rw [← hw, w2])
      rw [hl.1, cut1_none (word_no (by omega))]
      rfl
  by_cases w6 : (Lib.cut s.data.toList [32]).1 = wordR 6
  · refine (line_stuck b s w h t li pl c h0 h1 sv dr st lo re W hs he hB w6).mono ?_
    rintro e w' ⟨rfl, hb, ho⟩
    refine ⟨_, rfl, fun hok => ?_, fun k r' hl => ?_, box_frame ho⟩
    · have hm : (Lib.cut s.data.toList [32]).2.2 = false := by simpa using hok
      exact ⟨6, _, ⟨by rw [← hcs.2 hm, w6], rfl⟩, sv, hs', hb, hP.only ho (fun _ h => Nat.le_of_eq h) hbB⟩
    · obtain ⟨k7, hw⟩ := hk hl
      obtain rfl := word_inj (k' := 6) k7 (by omega) (by rw [← hw, w6])
      rw [hl.1, cut1_none (word_no (by omega))]
      rfl
  have hmore : (Lib.cut s.data.toList [32]).2.1 ≠ [] → (Lib.cut s.data.toList [32]).2.2 = true := fun h => by
    cases hb : (Lib.cut s.data.toList [32]).2.2 with
    | true => rfl
    | false =>
      exfalso
      apply h
      unfold Lib.cut at hb ⊢
      split at hb
      · cases hb
      · rename_i hneg; rw [if_neg hneg]
  by_cases w3 : (Lib.cut s.data.toList [32]).1 = wordR 3
  · refine (line_lose b s w h t li pl c h0 h1 sv dr st lo re W hs he hB w3).mono ?_
    rintro e w' ⟨n, ok, rfl, hl, hb, ho⟩
    refine ⟨ok, rfl, fun hok => ?_, fun k r' hl' => ?_, box_frame ho⟩
    · obtain ⟨hu, c', hc', hl2⟩ := hl.1 hok
      have hm := hmore (by rw [hl2]; simp)
      refine ⟨3, _, ⟨n, hu, ?_, rfl⟩, sv, hs', hb, hP.only ho (fun _ h => Nat.le_of_eq h) hbB⟩
      have := hcs.1 hm
      rw [w3, hl2] at this
      rw [this, ← hc']
      simp
    · obtain ⟨k7, hw⟩ := hk hl'
      obtain rfl := word_inj (k' := 3) k7 (by omega) (by rw [← hw, w3])
      obtain ⟨m, hm, hx, _⟩ := hl'
      rw [hx, cut1_yes (word_no (by omega))] at hl
      cases ok with
      | true => rfl
      | false =>
        have := (hl.2 rfl).2 _ rfl
        rw [up_small hm, hm] at this
        cases this
  by_cases w5 : (Lib.cut s.data.toList [32]).1 = wordR 5
  · refine (line_reach b s w h t li pl c h0 h1 sv dr st lo re W hs he hB w5).mono ?_
    rintro e w' ⟨n, ok, rfl, hl, hb, ho⟩
    refine ⟨ok, rfl, fun hok => ?_, fun k r' hl' => ?_, box_frame ho⟩
    · obtain ⟨hu, c', hc', hl2⟩ := hl.1 hok
      have hm := hmore (by rw [hl2]; simp)
      refine ⟨5, _, ⟨n, hu, ?_, rfl⟩, sv, hs', hb, hP.only ho (fun _ h => Nat.le_of_eq h) hbB⟩
      have := hcs.1 hm
      rw [w5, hl2] at this
      rw [this, ← hc']
      simp
    · obtain ⟨k7, hw⟩ := hk hl'
      obtain rfl := word_inj (k' := 5) k7 (by omega) (by rw [← hw, w5])
      obtain ⟨m, hm, hx, _⟩ := hl'
      rw [hx, cut1_yes (word_no (by omega))] at hl
      cases ok with
      | true => rfl
      | false =>
        have := (hl.2 rfl).2 _ rfl
        rw [up_small hm, hm] at this
        cases this
  have hdec : ∀ m, Lib.decDigits m ≠ [] := fun m => by
    obtain ⟨d, r, _, e⟩ := dec_cons m
    rw [e]; simp
  by_cases w4 : (Lib.cut s.data.toList [32]).1 = wordR 4
  · refine (line_line b s w h t li pl c h0 h1 sv dr st lo re W hs he hB w4).mono ?_
    rintro e w' ⟨v, ok, rfl, hl, hb, ho⟩
    refine ⟨_, rfl, fun hok => ?_, fun k r' hl' => ?_, box_frame ho⟩
    · rw [Bool.and_eq_true, decide_eq_true_eq] at hok
      obtain ⟨hok, hpos⟩ := hok
      obtain ⟨m, rfl, m9, hl2⟩ := hl.1 hok
      have hm := hmore (by rw [hl2]; exact hdec m)
      refine ⟨4, _, ⟨m, by omega, m9, ?_, rfl⟩, sv, hs', hb, hP.only ho (fun _ h => Nat.le_of_eq h) hbB⟩
      have := hcs.1 hm
      rw [w4, hl2] at this
      simpa using this
    · obtain ⟨k7, hw⟩ := hk hl'
      obtain rfl := word_inj (k' := 4) k7 (by omega) (by rw [← hw, w4])
      obtain ⟨m, hm, m9, hx, _⟩ := hl'
      rw [hx, cut1_yes (word_no (by omega))] at hl
      have hok := hl.2 m m9 rfl
      obtain ⟨m', rfl, _, e'⟩ := hl.1 hok
      have := dec_inj e'
      rw [hok, Bool.true_and, decide_eq_true_eq]
      omega
  by_cases w7 : (Lib.cut s.data.toList [32]).1 = wordR 7
  · refine (line_plies b s w h t li pl c h0 h1 sv dr st lo re W hs he hB w7).mono ?_
    rintro e w' ⟨v, ok, rfl, hl, hb, ho⟩
    refine ⟨ok, rfl, fun hok => ?_, fun k r' hl' => ?_, box_frame ho⟩
    · obtain ⟨m, rfl, m9, hl2⟩ := hl.1 hok
      have hm := hmore (by rw [hl2]; exact hdec m)
      refine ⟨7, _, ⟨m, m9, ?_, rfl⟩, sv, hs', hb, hP.only ho (fun _ h => Nat.le_of_eq h) hbB⟩
      have := hcs.1 hm
      rw [w7, hl2] at this
      simpa using this
    · obtain ⟨k7, hw⟩ := hk hl'
      obtain rfl := word_inj (k' := 7) k7 (by omega) (by rw [← hw, w7])
      obtain ⟨m, m9, hx, _⟩ := hl'
      rw [hx, cut1_yes (word_no (by omega))] at hl
      exact hl.2 m m9 rfl
  refine (line_none b s w h t li pl c h0 h1 sv dr st lo re W hs he hB ⟨w0, w1, w2, w6, w3, w5, w4, w7⟩).mono ?_
  rintro e w' ⟨rfl, ho⟩
  refine ⟨false, rfl, fun h => (by cases h), fun k r' hl => ?_, box_frame ho⟩
  obtain ⟨k7, hw⟩ := hk hl
  rcases (show k = 0 ∨ k = 1 ∨ k = 2 ∨ k = 3 ∨ k = 4 ∨ k = 5 ∨ k = 6 ∨ k = 7 by omega) with rfl | rfl | rfl | rfl | rfl | rfl | rfl | rfl
  · exact absurd hw w0
  · exact absurd hw w1
  · exact absurd hw w2
  · exact absurd hw w3
  · exact absurd hw w4
  · exact absurd hw w5
  · exact absurd hw w6
  · exact absurd hw w7
end Go.Proofs.YtcdfeaodfmfdnaaGreatDoor
namespace Go.Proofs.YtcdfeaodfmfdnaaGreatDoor
open Go.RowKit

def wordsB : List ByteArray := [⟨#[115, 116, 97, 114, 116]⟩, ⟨#[112, 105, 101, 99, 101]⟩, ⟨#[100, 114, 111, 112, 115]⟩, ⟨#[108, 111, 115, 101]⟩, ⟨#[108, 105, 110, 101]⟩, ⟨#[114, 101, 97, 99, 104]⟩, ⟨#[115, 116, 117, 99, 107]⟩, ⟨#[112, 108, 105, 101, 115]⟩]
/-- the number of a first word; -1: it is none -/
def ordI (a : List UInt8) : Int := if a = wordR 0 then 0 else if a = wordR 1 then 1 else if a = wordR 2 then 2 else if a = wordR 3 then 3 else if a = wordR 4 then 4 else if a = wordR 5 then 5 else if a = wordR 6 then 6 else if a = wordR 7 then 7 else -1
theorem ordI_word {k : Nat} (h : k ≤ 7) : ordI (wordR k) = k := by
  rcases (show k = 0 ∨ k = 1 ∨ k = 2 ∨ k = 3 ∨ k = 4 ∨ k = 5 ∨ k = 6 ∨ k = 7 by omega) with rfl | rfl | rfl | rfl | rfl | rfl | rfl | rfl <;> decide
theorem idx_ord (s : ByteArray) : Lib.idxOfS wordsB s = ordI s.data.toList := by
  have key : ∀ l : List UInt8, (⟨l.toArray⟩ : ByteArray) = s ↔ s.data.toList = l := fun l => ⟨fun h => by rw [← h], fun h => by rw [← h]⟩
  unfold wordsB Lib.idxOfS ordI
  simp only [Lib.idxFromS, key, wordR]
  rfl
set_option maxHeartbeats 1000000 in
set_option maxRecDepth 100000 in
theorem order_any (s : ByteArray) (W : World) :
    Calls Tryz.prog 35 #[.string s] W fun e w' => e = .returned (.int .i64 (ordI s.data.toList)) ∧ Only (fun _ => False) W w' := by
  have hb := Blk.new W 9 #[.string ⟨#[115, 116, 97, 114, 116]⟩, .string ⟨#[112, 105, 101, 99, 101]⟩, .string ⟨#[100, 114, 111, 112, 115]⟩, .string ⟨#[108, 111, 115, 101]⟩, .string ⟨#[108, 105, 110, 101]⟩, .string ⟨#[114, 101, 97, 99, 104]⟩, .string ⟨#[115, 116, 117, 99, 107]⟩, .string ⟨#[112, 108, 105, 101, 115]⟩]
  have ho : Only (fun _ => False) W (W.alloc (.cells #[.string ⟨#[115, 116, 97, 114, 116]⟩, .string ⟨#[112, 105, 101, 99, 101]⟩, .string ⟨#[100, 114, 111, 112, 115]⟩, .string ⟨#[108, 111, 115, 101]⟩, .string ⟨#[108, 105, 110, 101]⟩, .string ⟨#[114, 101, 97, 99, 104]⟩, .string ⟨#[115, 116, 117, 99, 107]⟩, .string ⟨#[112, 108, 105, 101, 115]⟩] 9)) := (Only.refl _ W).alloc _
  have HC := hide (Tryz.slices_Index_string W.heap.size 0 8 8 wordsB s (W.alloc (.cells #[.string ⟨#[115, 116, 97, 114, 116]⟩, .string ⟨#[112, 105, 101, 99, 101]⟩, .string ⟨#[100, 114, 111, 112, 115]⟩, .string ⟨#[108, 111, 115, 101]⟩, .string ⟨#[108, 105, 110, 101]⟩, .string ⟨#[114, 101, 97, 99, 104]⟩, .string ⟨#[115, 116, 117, 99, 107]⟩, .string ⟨#[112, 108, 105, 101, 115]⟩] 9)) (by decide) (by omega) (fun j hj => by
    have h8 : j < 8 := hj
    rcases (show j = 0 ∨ j = 1 ∨ j = 2 ∨ j = 3 ∨ j = 4 ∨ j = 5 ∨ j = 6 ∨ j = 7 by omega) with rfl | rfl | rfl | rfl | rfl | rfl | rfl | rfl <;> exact hb.cellv rfl))
  have Ho := hide ho
  have Hi := hide (show Lib.idxOfS (wordsB.take 8) s = ordI s.data.toList from idx_ord s)
  clear hb ho
  go_enter Tryz.func35, Tryz.ntmps35
  go_wp2_with (go_at_call 73; refine HC.out.mono ?_; rintro e w1 ⟨rfl, rfl⟩)
  go_ret
  exact ⟨by rw [Hi.out]; rfl, Ho.out⟩
end Go.Proofs.YtcdfeaodfmfdnaaGreatDoor
namespace Go.Proofs.YtcdfeaodfmfdnaaGreatDoor

/-- is a line of number k out of its place behind lines below n? -/
def ordBad (k : Int) (n : Nat) : Bool := decide (k < (n : Int) - 1) || (decide (k = (n : Int) - 1) && decide (k ≠ 1)) || (decide (0 < k) && decide ((n : Int) - 1 < 0)) || (decide (1 < k) && decide ((n : Int) - 1 < 1))
theorem ordBad_iff {k : Int} {n : Nat} : ordBad k n = true ↔ k < (n : Int) - 1 ∨ (k = (n : Int) - 1 ∧ k ≠ 1) ∨ (0 < k ∧ (n : Int) - 1 < 0) ∨ (1 < k ∧ (n : Int) - 1 < 1) := by
  unfold ordBad
  simp only [Bool.or_eq_true, Bool.and_eq_true, decide_eq_true_eq, or_assoc]
theorem ord_fine {k : Int} {n : Nat} (h : ordBad k n = false) (h7 : k ≤ 7) : ∃ k' : Nat, k = k' ∧ k' ≤ 7 ∧ OrdR k' n := by
  have h' : ¬ (k < (n : Int) - 1 ∨ (k = (n : Int) - 1 ∧ k ≠ 1) ∨ (0 < k ∧ (n : Int) - 1 < 0) ∨ (1 < k ∧ (n : Int) - 1 < 1)) := fun h2 => by rw [ordBad_iff.2 h2] at h; cases h
  refine ⟨k.toNat, by omega, by omega, ?_⟩
  unfold OrdR
  omega
theorem ord_good {k n : Nat} (h : OrdR k n) : ordBad (k : Int) n = false := by
  rw [Bool.eq_false_iff]
  intro h2
  have h3 := ordBad_iff.1 h2
  unfold OrdR at h
  omega
theorem ordI_le (a : List UInt8) : ordI a ≤ 7 := by
  unfold ordI
  repeat (first | omega | split)
theorem step_ten (st : BSt) : stepB st 10 = none := by
  cases st with
  | rows rs cur => simp [stepB, go_no (c := 10) (rs := rs) (cur := cur) (by decide)]
  | turn rs => simp [stepB]
  | turned rs t => simp [stepB]
  | hand0 rs t h =>
    have : handGo h 10 = false := by unfold handGo; rw [show upB (10 : UInt8).toNat = false by decide]; rfl
    simp [stepB, this]
  | dash0 rs t => simp [stepB]
  | hand1 rs t h0 h =>
    have : handGo h 10 = false := by unfold handGo; rw [show upB (10 : UInt8).toNat = false by decide]; rfl
    simp [stepB, this]
  | dash1 rs t h0 => rfl
theorem run_no_ten : ∀ (l : List UInt8) (st : BSt), runB l = some st → (10 : UInt8) ∉ l := by
  intro l
  induction l using snoc_ind with
  | h0 => intro st _ h; cases h
  | h1 l c ih =>
    intro st h hm
    rw [runB_snoc] at h
    obtain ⟨s0, h0, h1⟩ := Option.bind_eq_some_iff.1 h
    rcases List.mem_append.1 hm with h2 | h2
    · exact ih s0 h0 h2
    · rw [← List.mem_singleton.1 h2, step_ten] at h1
      cases h1
theorem textL_no {p : Pos} (h : PosOk p) : (10 : UInt8) ∉ textL p := by
  obtain ⟨st, h1, _⟩ := text_taken h
  exact run_no_ten _ _ h1
theorem joinS_no {c : UInt8} {sep : List UInt8} (hs : c ∉ sep) : ∀ {xs : List (List UInt8)}, (∀ a ∈ xs, c ∉ a) → c ∉ joinS sep xs
  | [], _ => fun h => by cases h
  | [a], h => h a (by simp)
  | a :: b :: l, h => by
    have ih := joinS_no hs (xs := b :: l) (fun x hx => h x (List.mem_cons_of_mem _ hx))
    rw [joinS_cons (by simp)]
    simp only [List.mem_append, not_or]
    exact ⟨⟨h a (by simp), hs⟩, ih⟩
theorem tailP_no {p : PieceD} (h : PieceIn p) : (10 : UInt8) ∉ tailP p := by
  obtain ⟨hu, _, hw⟩ := h
  have n1 : (10 : UInt8) ∉ waysL p.ways := by
    unfold waysL
    split
    · simp
    · simp only [List.mem_cons, not_or]
      refine ⟨by decide, by decide, joinS_no (by decide) (fun a ha => ?_)⟩
      obtain ⟨w, hw', rfl⟩ := List.mem_map.1 ha
      exact wayL_no (hw w hw') (.inr (.inr rfl))
  unfold tailP
  simp only [List.mem_cons, List.mem_append, not_or]
  exact ⟨by decide, letter_no hu (by decide), by decide, dec_no (by decide), n1⟩
theorem word_no10 {k : Nat} (h : k ≤ 7) : (10 : UInt8) ∉ wordR k := by
  rcases (show k = 0 ∨ k = 1 ∨ k = 2 ∨ k = 3 ∨ k = 4 ∨ k = 5 ∨ k = 6 ∨ k = 7 by omega) with rfl | rfl | rfl | rfl | rfl | rfl | rfl | rfl <;> decide
theorem line_no {k : Nat} {x : List UInt8} {r r' : RulesD} (h : LineK k x r r') : (10 : UInt8) ∉ x ∧ x ≠ [] := by
  have hd : ∀ m, (10 : UInt8) ∉ Lib.decDigits m := fun m => dec_no (by decide)
  match k, h with
  | 0, h => obtain ⟨p, hp, rfl, _⟩ := h; exact ⟨by simp only [List.mem_append, List.mem_cons, not_or]; exact ⟨word_no10 (by omega), by decide, textL_no hp⟩, by simp⟩
  | 1, h => obtain ⟨p, hp, rfl, _⟩ := h; exact ⟨by simp only [List.mem_append, not_or]; exact ⟨word_no10 (by omega), tailP_no hp⟩, by simp [wordR]⟩
  | 2, h => obtain ⟨rfl, _⟩ := h; exact ⟨word_no10 (by omega), by simp [wordR]⟩
  | 3, h => obtain ⟨n, hn, rfl, _⟩ := h; exact ⟨by simp only [List.mem_append, List.mem_cons, List.not_mem_nil, or_false, not_or]; exact ⟨word_no10 (by omega), by decide, letter_no hn (by decide)⟩, by simp⟩
  | 4, h => obtain ⟨m, _, _, rfl, _⟩ := h; exact ⟨by simp only [List.mem_append, List.mem_cons, not_or]; exact ⟨word_no10 (by omega), by decide, hd m⟩, by simp⟩
  | 5, h => obtain ⟨n, hn, rfl, _⟩ := h; exact ⟨by simp only [List.mem_append, List.mem_cons, List.not_mem_nil, or_false, not_or]; exact ⟨word_no10 (by omega), by decide, letter_no hn (by decide)⟩, by simp⟩
  | 6, h => obtain ⟨rfl, _⟩ := h; exact ⟨word_no10 (by omega), by simp [wordR]⟩
  | 7, h => obtain ⟨m, _, rfl, _⟩ := h; exact ⟨by simp only [List.mem_append, List.mem_cons, not_or]; exact ⟨word_no10 (by omega), by decide, hd m⟩, by simp⟩
theorem rd_no {ls : List (List UInt8)} {n : Nat} {r : RulesD} (h : RdR ls n r) : ∀ a ∈ ls, (10 : UInt8) ∉ a := by
  induction h with
  | nil => intro a ha; cases ha
  | step _ _ hl ih =>
    intro a ha
    rcases List.mem_append.1 ha with h | h
    · exact ih a h
    · rw [List.mem_singleton.1 h]; exact (line_no hl).1
/-- the lines of right rules' text -/
theorem textR_split {r : RulesD} (h : RulesOk r) : splitL 10 (textR r) = linesR r ++ [[]] := split_join (by simp) (fun a ha => by
  rcases List.mem_append.1 ha with h1 | h1
  · exact rd_no (rules_read h) a h1
  · rw [List.mem_singleton.1 h1]; simp)
/-- a place where the reader stops is in no right rules' text -/
theorem stop_no {l : List UInt8} {i n : Nat} {r : RulesD} (hi : i < (splitL 10 l).length) (hr : RdR ((splitL 10 l).take i) n r)
    (hx : i + 1 = (splitL 10 l).length → (splitL 10 l).getD i [] ≠ []) (hb : i + 1 < (splitL 10 l).length → ordBad (ordI (Lib.cut ((splitL 10 l).getD i []) [32]).1) n = true ∨ ∀ k r', ¬ LineK k ((splitL 10 l).getD i []) r r') : ¬ ∃ r0, RulesOk r0 ∧ l = textR r0 := by
  rintro ⟨r0, h0, rfl⟩
  rw [textR_split h0] at hi hr hx hb
  simp only [List.length_append, List.length_singleton] at hi hx hb
  by_cases e : i = (linesR r0).length
  · subst e
    exact hx rfl (by simp)
  · have hlt : i < (linesR r0).length := by omega
    have hget : (linesR r0 ++ [[]]).getD i [] = (linesR r0)[i] := by
      rw [List.getD, List.getElem?_append_left hlt, List.getElem?_eq_getElem hlt]; rfl
    have htake : (linesR r0 ++ [[]]).take i = (linesR r0).take i := List.take_append_of_le_length (by omega)
    rw [htake] at hr
    rw [hget] at hb
    have hsplit : linesR r0 = (linesR r0).take i ++ (linesR r0)[i] :: (linesR r0).drop (i + 1) := by
      rw [← List.drop_eq_getElem_cons hlt, List.take_append_drop]
    have hrd := rules_read h0
    rw [hsplit] at hrd
    obtain ⟨n1, r1, k, r2, g1, g2, g3⟩ := rd_begin hrd
    obtain ⟨rfl, rfl⟩ := rd_one hr g1
    rcases hb (by omega) with hb | hb
    · obtain ⟨k7, hw⟩ := line_word g3
      rw [hw, ordI_word k7, ord_good g2] at hb
      cases hb
    · exact hb k r2 g3
/-- where the reader's lines end: what right text it can be -/
theorem end_says {l : List UInt8} {ls : List (List UInt8)} {n : Nat} {r : RulesD} (hL : splitL 10 l = ls ++ [[]]) (hr : RdR ls n r) : (∀ r0, RulesOk r0 → l = textR r0 → n = 8 ∧ r = r0) ∧ (n = 8 → l = textR r) := by
  constructor
  · rintro r0 h0 rfl
    rw [textR_split h0] at hL
    have e := List.append_cancel_right hL
    rw [← e] at hr
    exact rd_one hr (rules_read h0)
  · rintro rfl
    have e := (rd_up hr).1
    have h2 := join_split 10 l
    rw [hL, e] at h2
    exact h2.symm
end Go.Proofs.YtcdfeaodfmfdnaaGreatDoor
namespace Go.Proofs.YtcdfeaodfmfdnaaGreatDoor
open Go.RowKit

theorem joinL_count {c : UInt8} : ∀ (xs : List (List UInt8)), xs.length ≤ (joinL c xs).length + 1
  | [] => by simp
  | [a] => by simp
  | a :: b :: l => by
    have ih := joinL_count (c := c) (b :: l)
    rw [joinL_cons (by simp)]
    simp only [List.length_append, List.length_cons] at ih ⊢
    omega
theorem splitL_count (c : UInt8) (l : List UInt8) : (splitL c l).length ≤ l.length + 1 := by
  have := joinL_count (c := c) (splitL c l)
  rwa [join_split] at this
theorem line_len {k : Nat} {x : List UInt8} {r r' : RulesD} (h : LineK k x r r') : r'.pieces.length ≤ r.pieces.length + 1 := by
  match k, h with
  | 0, h => obtain ⟨_, _, _, rfl⟩ := h; simp
  | 1, h => obtain ⟨_, _, _, rfl⟩ := h; simp
  | 2, h => obtain ⟨_, rfl⟩ := h; simp
  | 3, h => obtain ⟨_, _, _, rfl⟩ := h; simp
  | 4, h => obtain ⟨_, _, _, _, rfl⟩ := h; simp
  | 5, h => obtain ⟨_, _, _, rfl⟩ := h; simp
  | 6, h => obtain ⟨_, rfl⟩ := h; simp
  | 7, h => obtain ⟨_, _, _, rfl⟩ := h; simp
theorem tail_count (p : PieceD) : p.ways.length ≤ (tailP p).length := by
  unfold tailP waysL
  split
  · rename_i h; simp [h]
  · have := joinS_count (sep := [44, 32]) (by simp) (p.ways.map wayL)
    simp only [List.length_map] at this
    simp only [List.length_append, List.length_cons]
    omega
theorem rd_start {ls : List (List UInt8)} {n : Nat} {r : RulesD} (h : RdR ls n r) : n = 0 ∨ PosOk r.start := by
  induction h with
  | nil => exact .inl rfl
  | @step ls n k r r' x _ ho hl ih =>
    right
    by_cases e : k = 0
    · subst e
      obtain ⟨p, hp, _, rfl⟩ := hl
      exact hp
    · have hn : n ≠ 0 := by unfold OrdR at ho; omega
      have hp := ih.resolve_left hn
      match k, hl with
      | 0, _ => exact absurd rfl e
      | 1, h => obtain ⟨_, _, _, rfl⟩ := h; exact hp
      | 2, h => obtain ⟨_, rfl⟩ := h; exact hp
      | 3, h => obtain ⟨_, _, _, rfl⟩ := h; exact hp
      | 4, h => obtain ⟨_, _, _, _, rfl⟩ := h; exact hp
      | 5, h => obtain ⟨_, _, _, rfl⟩ := h; exact hp
      | 6, h => obtain ⟨_, rfl⟩ := h; exact hp
      | 7, h => obtain ⟨_, _, _, rfl⟩ := h; exact hp
theorem rd_fit {ls : List (List UInt8)} {r : RulesD} {N : Nat} (h : RdR ls 8 r) (hl : ∀ a ∈ ls, a.length ≤ N) (hN : N ≤ 9223372036854775807) (hp : r.pieces.length ≤ 9223372036854775807) : RFit r := by
  have hs := (rd_start h).resolve_left (by decide)
  have h0 := (handB_true.1 hs.hand0).1
  have h1 := (handB_true.1 hs.hand1).1
  have hc := hs.size
  have hm : r.start.w * r.start.h ≤ 64 := by
    have := hs.w8; have := hs.h8; have := hs.w1; have := hs.h1
    calc r.start.w * r.start.h ≤ 8 * 8 := Int.mul_le_mul (by omega) (by omega) (by omega) (by omega)
      _ = 64 := by decide
  refine ⟨by omega, ?_, ?_, hp, fun k hk => ?_⟩
  · simp only [Array.length_toList, ByteArray.size_data] at h0; omega
  · simp only [Array.length_toList, ByteArray.size_data] at h1; omega
  · have e := (rd_up h).1
    have hm : wordR 1 ++ tailP r.pieces[k] ∈ ls := by
      rw [e]
      unfold upR
      exact List.mem_flatMap.2 ⟨1, by simp, List.mem_map.2 ⟨_, List.getElem_mem hk, rfl⟩⟩
    have h2 := hl _ hm
    have h3 := tail_count r.pieces[k]
    simp only [List.length_append] at h2
    omega
/-- what stays while Read reads -/
structure PR (W w : World) : Prop where
  o : Only (fun _ => False) W w
  e : Env w
  z : Blk w W.heap.size 27 #[.int .i64 0, .int .i64 0, .string ⟨#[]⟩, .int .i64 0, .string ⟨#[]⟩, .string ⟨#[]⟩, .slice none 0 0, .bool false, .int .u8 0, .int .i64 0, .int .u8 0, .bool false, .int .i64 0]
  f : Blk w (W.heap.size + 1) 32 #[.int .i64 0, .int .i64 0]
  sz : W.heap.size + 2 ≤ w.heap.size
theorem PR.step {S : Nat → Prop} {W w w' : World} (h : PR W w) (hW : 5 < W.heap.size) (ho : Only S w w') (hS : ∀ x, S x → W.heap.size + 2 ≤ x) : PR W w' :=
  ⟨h.o.trans' ho (fun i hi hs => by have := hS i hs; omega), h.e.step ho (fun x hx => by have := hS x hx; omega), h.z.only ho (fun hs => by have := hS _ hs; omega), h.f.only ho (fun hs => by have := hS _ hs; omega), Nat.le_trans h.sz ho.size⟩
theorem PR.no {W w w' : World} (h : PR W w) (hW : 5 < W.heap.size) (ho : Only (fun _ => False) w w') : PR W w' := h.step hW ho (fun _ h => h.elim)
theorem Ru.no {w w' : World} {b B : Nat} {r : RulesD} (h : Ru w b B r) (ho : Only (fun _ => False) w w') (hbB : b < B) : Ru w' b B r := by
  obtain ⟨sv, hs, h1, h2⟩ := h
  exact ⟨sv, hs, Blk.only h1 ho (fun h => h), h2.only ho (fun _ h => h.elim) hbB⟩
theorem Ru.far {S : Nat → Prop} {w w' : World} {b B : Nat} {r : RulesD} (h : Ru w b B r) (ho : Only S w w') (hS : ∀ k, S k → k < b) (hbB : b < B) : Ru w' b B r := by
  obtain ⟨sv, hs, h1, h2⟩ := h
  exact ⟨sv, hs, Blk.only h1 ho (fun h => by have := hS _ h; omega), h2.only ho (fun k h => by have := hS _ h; omega) hbB⟩
theorem Ru.row {w : World} {b B g : Nat} {r : RulesD} {vs : Array Value} (h : Ru w b B r) (hg : g < b) (hbB : b < B) : Ru (w.setRow g vs) b B r :=
  h.far (S := fun k => k = g) ⟨rfl, rfl, rfl, by simp [World.setRow], fun k _ hn => setRow_other _ _ _ _ hn⟩ (fun k hk => by omega) hbB
theorem PcsOwn.row {w : World} {base bx g : Nat} {v : Value} {ps : List PieceD} {hs : List (Option Addr × Nat)} {vs : Array Value} (h : PcsOwn w base bx v ps hs) (hg : g < bx) (hb : bx < base) : PcsOwn (w.setRow g vs) base bx v ps hs :=
  h.only (S := fun k => k = g) ⟨rfl, rfl, rfl, by simp [World.setRow], fun k _ hn => setRow_other _ _ _ _ hn⟩ (fun k hk => by omega) hb
theorem PcsOwn.piecesAt {w : World} {base bx n c : Nat} {A : Option Addr} {ps : List PieceD} {hs : List (Option Addr × Nat)} (h : PcsOwn w base bx (.slice A n c) ps hs) : PiecesAt w w.heap.size A ps := by
  obtain ⟨A', c', e, _, hp⟩ := h.pieces
  injection e with e1 _ _
  rw [e1]; exact hp
end Go.Proofs.YtcdfeaodfmfdnaaGreatDoor
