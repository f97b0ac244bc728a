/- moves.letter, moves.mine; gameref.owner, mark, abs moves.lacks, moves.reached moves.reached Lines of pieces, plain: how a count goes on. moves.has gameref.mark, and a mark that a text contains Lines of pieces, plain: as the document asks for them. gameref.lined -/
import Derived.Test.YtcdfeaodfmfdnaaGreatDoorPlRuM
import Derived.Test.YtcdfeaodfmfdnaaGreatDoorPlPlainM
import Derived.Test.YtcdfeaodfmfdnaaGreatDoorPlRuChkM
import Derived.Test.YtcdfeaodfmfdnaaGreatDoorShelf
import Derived.Lib.IndexLaws
import Derived.Laws.IdiomStrings
namespace Go.Proofs.YtcdfeaodfmfdnaaGreatDoor
open Go.RowKit

/-- a letter as a player's -/
def letG (c : Nat) (pl : Int) : Nat := if pl = 1 then otherN c else c
theorem letG_up {c : Nat} (h : upB c = true) (pl : Int) : letG c pl = letN c pl := by
  unfold letG letN otherN
  rw [if_pos h]
set_option maxHeartbeats 400000 in
theorem mv_letter_any (c : Nat) (pl : Int) (w : World) : Calls Tryz.prog 127 #[.int .u8 c, .int .i64 pl] w fun e w' => e = .returned (.int .u8 (letG c pl)) ∧ w' = w := by
  have Ho := hide fun w => other_any c w
  obtain ⟨m, hm⟩ : ∃ m, letG c pl = m := ⟨_, rfl⟩
  by_cases h : pl = 1
  · have H := hide (show otherN c = m by rw [← hm, letG, if_pos h])
    have d : (pl == 1) = true := by simp [h]
    have Hm := hide hm
    clear hm h
    go_enter Tryz.func127, Tryz.ntmps127
    go_wp2_with (go_at_call 89; refine (Ho.out _).mono ?_; rintro e w' ⟨rfl, rfl⟩)
    go_ret
    exact ⟨by rw [H.out, Hm.out] <;> rfl, rfl⟩
  · have H := hide (show c = m by rw [← hm, letG, if_neg h])
    have d : (pl == 1) = false := by simpa using h
    have Hm := hide hm
    clear hm h
    go_enter Tryz.func127, Tryz.ntmps127
    go_wp2_with fail
    go_ret
    exact ⟨by rw [Hm.out, ← H.out] <;> rfl, rfl⟩
set_option maxHeartbeats 400000 in
theorem mine_any (c : Nat) (pl : Int) (w : World) : Calls Tryz.prog 176 #[.int .u8 c, .int .i64 pl] w fun e w' => e = .returned (.bool (mineB c pl)) ∧ w' = w := by
  have Hu := hide fun w => upper_any c w
  have Hl := hide fun w => lower_any c w
  obtain ⟨m, hm⟩ : ∃ m, mineB c pl = m := ⟨_, rfl⟩
  by_cases h : pl = 0
  · have H := hide (show upB c = m by rw [← hm, mineB, if_pos h])
    have d : (pl == 0) = true := by simp [h]
    have Hm := hide hm
    clear hm h
    go_enter Tryz.func176, Tryz.ntmps176
    go_wp2_with (go_at_call 44; refine (Hu.out _).mono ?_; rintro e w' ⟨rfl, rfl⟩)
    go_ret
    exact ⟨by rw [H.out, Hm.out] <;> rfl, rfl⟩
  · have H := hide (show lowB c = m by rw [← hm, mineB, if_neg h])
    have d : (pl == 0) = false := by simpa using h
    have Hm := hide hm
    clear hm h
    go_enter Tryz.func176, Tryz.ntmps176
    go_wp2_with (go_at_call 88; refine (Hl.out _).mono ?_; rintro e w' ⟨rfl, rfl⟩)
    go_ret
    exact ⟨by rw [H.out, Hm.out] <;> rfl, rfl⟩
set_option maxHeartbeats 400000 in
theorem owner_any (c : Nat) (w : World) : Calls Tryz.prog 134 #[.int .u8 c] w fun e w' => e = .returned (.int .i64 (ownN c)) ∧ w' = w := by
  have Hu := hide fun w => big_any c w
  have Hl := hide fun w => small_any c w
  obtain ⟨u, hu⟩ : ∃ u, upB c = u := ⟨_, rfl⟩
  obtain ⟨l, hl⟩ : ∃ l, lowB c = l := ⟨_, rfl⟩
  obtain ⟨m, hm⟩ : ∃ m, ownN c = m := ⟨_, rfl⟩
  rw [hu] at Hu
  rw [hl] at Hl
  have Hm := hide hm
  cases u
  · cases l
    · have H := hide (show 2 = m by rw [← hm]; simp [ownN, hu, hl])
      clear hm hu hl
      go_enter Tryz.func134, Tryz.ntmps134
      go_wp2_with (first | (go_at_call 40; refine (Hu.out _).mono ?_; rintro e w' ⟨rfl, rfl⟩) | (go_at_call 85; refine (Hl.out _).mono ?_; rintro e w' ⟨rfl, rfl⟩))
      go_ret
      exact ⟨ret_int (H.out.trans Hm.out.symm), rfl⟩
    · have H := hide (show 1 = m by rw [← hm]; simp [ownN, hu, hl])
      clear hm hu hl
      go_enter Tryz.func134, Tryz.ntmps134
      go_wp2_with (first | (go_at_call 40; refine (Hu.out _).mono ?_; rintro e w' ⟨rfl, rfl⟩) | (go_at_call 85; refine (Hl.out _).mono ?_; rintro e w' ⟨rfl, rfl⟩))
      go_ret
      exact ⟨ret_int (H.out.trans Hm.out.symm), rfl⟩
  · have H := hide (show 0 = m by rw [← hm]; simp [ownN, hu])
    clear hm hu hl Hl
    go_enter Tryz.func134, Tryz.ntmps134
    go_wp2_with (go_at_call 40; refine (Hu.out _).mono ?_; rintro e w' ⟨rfl, rfl⟩)
    go_ret
    exact ⟨ret_int (H.out.trans Hm.out.symm), rfl⟩
set_option maxHeartbeats 400000 in
theorem abs_any (n : Int) (hn : -9223372036854775807 ≤ n) (hn2 : n ≤ 9223372036854775807) (w : World) : Calls Tryz.prog 164 #[.int .i64 n] w fun e w' => e = .returned (.int .i64 (absI n)) ∧ w' = w := by
  obtain ⟨m, hm⟩ : ∃ m, absI n = m := ⟨_, rfl⟩
  have Hm := hide hm
  by_cases h : n < 0
  · have H := hide (show -n = m by rw [← hm]; unfold absI; rw [if_pos h])
    clear hm
    go_enter Tryz.func164, Tryz.ntmps164
    go_wp2_with fail
    go_ret
    exact ⟨ret_int (H.out.trans Hm.out.symm), rfl⟩
  · have H := hide (show n = m by rw [← hm]; unfold absI; rw [if_neg h])
    clear hm
    go_enter Tryz.func164, Tryz.ntmps164
    go_wp2_with fail
    go_ret
    exact ⟨ret_int (H.out.trans Hm.out.symm), rfl⟩
end Go.Proofs.YtcdfeaodfmfdnaaGreatDoor
namespace Go.Proofs.YtcdfeaodfmfdnaaGreatDoor
open Go.RowKit

theorem indexByte_has (c : UInt8) : ∀ l : List UInt8, 0 ≤ Lib.indexByte l c ↔ hasL l c.toNat = true
  | [] => by simp [Lib.indexByte, hasL]
  | b :: l => by
    have ih := indexByte_has c l
    have hge := Lib.indexByte_ge l c
    unfold Lib.indexByte hasL
    rw [List.any_cons]
    by_cases h : b = c
    · subst h; simp
    · have h1 : (b == c) = false := by simpa using h
      have h2 : (b.toNat == c.toNat) = false := by
        simp only [beq_eq_false_iff_ne, ne_eq]
        exact fun e => h (UInt8.toNat_inj.1 e)
      rw [h1, h2]
      simp only [Bool.false_eq_true, if_false, Bool.false_or]
      unfold hasL at ih
      rw [← ih]
      split
      · rename_i h3
        have h4 : Lib.indexByte l c = -1 := by simpa using h3
        omega
      · rename_i h3
        have h4 : Lib.indexByte l c ≠ -1 := by simpa using h3
        omega
theorem toU8 {c : Nat} : ((c : Int).toNat.toUInt8) = u8 c := by simp [u8]
theorem u8_any {l : List UInt8} {c : Nat} (h : c < 256) : hasL l (u8 c).toNat = hasL l c := by rw [u8_nat h]
theorem index_neg {l : List UInt8} {c : Nat} (h : c < 256) : decide (Lib.indexByte l ((c : Int).toNat.toUInt8) < 0) = !hasL l c := by
  have := indexByte_has (u8 c) l
  rw [u8_any h] at this
  rw [toU8, Bool.eq_iff_iff]
  simp only [decide_eq_true_eq, Bool.not_eq_true', ← Bool.not_eq_true, ← this]
  omega
theorem index_pos {l : List UInt8} {c : Nat} (h : c < 256) : decide (Lib.indexByte l ((c : Int).toNat.toUInt8) ≥ 0) = hasL l c := by
  have := indexByte_has (u8 c) l
  rw [u8_any h] at this
  rw [toU8, Bool.eq_iff_iff]
  simp only [decide_eq_true_eq, ← this, ge_iff_le]
theorem letN_lt {c : Nat} (h : upB c = true) (pl : Int) : letN c pl < 256 := by
  have := upB_lt h
  unfold letN
  split <;> omega
/-- no letter, or a capital one -/
def CapOk (c : Nat) : Prop := c = 0 ∨ upB c = true

set_option maxHeartbeats 1000000 in
set_option maxRecDepth 20000 in
theorem lacks_any (r : RulesD) (A : Option Addr) (cp : Nat) (p : Pos) (pl : Int) (W : World) (hl : CapOk r.lose) :
    Calls Tryz.prog 158 #[.agg #[.int .i64 r.start.w, .int .i64 r.start.h, .string r.start.cells, .int .i64 r.start.turn, .string r.start.h0, .string r.start.h1, .slice A r.pieces.length cp, .bool r.drops, .int .u8 r.lose, .int .i64 r.line, .int .u8 r.reach, .bool r.stuck, .int .i64 r.plies], .agg #[.int .i64 p.w, .int .i64 p.h, .string p.cells, .int .i64 p.turn, .string p.h0, .string p.h1], .int .i64 pl] W fun e w' => e = .returned (.bool (lacksB r p pl)) ∧ Later W w' := by
  have hbx := (Blk.new W 27 #[.int .i64 r.start.w, .int .i64 r.start.h, .string r.start.cells, .int .i64 r.start.turn, .string r.start.h0, .string r.start.h1, .slice A r.pieces.length cp, .bool r.drops, .int .u8 r.lose, .int .i64 r.line, .int .u8 r.reach, .bool r.stuck, .int .i64 r.plies]).alloc (.cells #[.int .i64 p.w, .int .i64 p.h, .string p.cells, .int .i64 p.turn, .string p.h0, .string p.h1] 24)
  have hbp := Blk.new (W.alloc (.cells #[.int .i64 r.start.w, .int .i64 r.start.h, .string r.start.cells, .int .i64 r.start.turn, .string r.start.h0, .string r.start.h1, .slice A r.pieces.length cp, .bool r.drops, .int .u8 r.lose, .int .i64 r.line, .int .u8 r.reach, .bool r.stuck, .int .i64 r.plies] 27)) 24 #[.int .i64 p.w, .int .i64 p.h, .string p.cells, .int .i64 p.turn, .string p.h0, .string p.h1]
  have Hlb := hide (show Later W ((W.alloc (.cells #[.int .i64 r.start.w, .int .i64 r.start.h, .string r.start.cells, .int .i64 r.start.turn, .string r.start.h0, .string r.start.h1, .slice A r.pieces.length cp, .bool r.drops, .int .u8 r.lose, .int .i64 r.line, .int .u8 r.reach, .bool r.stuck, .int .i64 r.plies] 27)).alloc (.cells #[.int .i64 p.w, .int .i64 p.h, .string p.cells, .int .i64 p.turn, .string p.h0, .string p.h1] 24)) from (Later.rfl.alloc _).alloc _)
  by_cases h0 : r.lose = 0
  · have d1 : ((r.lose : Int) != 0) = false := by simp [h0]
    have Hr := hide (show lacksB r p pl = false by simp [lacksB, h0])
    clear h0 hl hbx hbp
    go_enter Tryz.func158, Tryz.ntmps158
    go_wp2_with fail
    go_quiet (fail)
    go_wp2_with fail
    go_ret
    exact ⟨by rw [Hr.out] <;> rfl, Hlb.out.drewN _⟩
  · have hu : upB r.lose = true := by
      rcases hl with h | h
      · exact absurd h h0
      · exact h
    have d1 : ((r.lose : Int) != 0) = true := by simp; omega
    have hlet := fun w => mv_letter_any r.lose pl w
    rw [letG_up hu] at hlet
    have hx := index_neg (l := p.cells.data.toList) (letN_lt hu pl)
    have hr : lacksB r p pl = !hasL p.cells.data.toList (letN r.lose pl) := by simp [lacksB, h0]
    obtain ⟨q, hq⟩ : ∃ q, letN r.lose pl = q := ⟨_, rfl⟩
    rw [hq] at hlet hx hr
    have hcall := fun w => Tryz.strings_IndexByte p.cells q w
    obtain ⟨k, hk⟩ : ∃ k, Lib.indexByte p.cells.data.toList ((q : Int).toNat.toUInt8) = k := ⟨_, rfl⟩
    rw [hk] at hx
    simp only [hk] at hcall
    rw [← hr] at hx
    obtain ⟨v, hv⟩ : ∃ v, lacksB r p pl = v := ⟨_, rfl⟩
    rw [hv] at hx ⊢
    have Hlet := hide hlet
    have Hcall := hide hcall
    clear hlet hcall hk hr hv hq h0 hl hu hbx hbp
    go_enter Tryz.func158, Tryz.ntmps158
    go_wp2_with fail
    go_quiet ((first | (go_at_call 127; exact Calls.quiet_of_same (Hlet.out _)) | (go_at_call 37; exact Calls.quiet_of_same (Hcall.out _))))
    go_wp2_with fail
    go_ret
    exact ⟨rfl, Hlb.out.drewN _⟩
end Go.Proofs.YtcdfeaodfmfdnaaGreatDoor
namespace Go.Proofs.YtcdfeaodfmfdnaaGreatDoor
open Go.RowKit

theorem extract_list (s : ByteArray) (a b : Nat) : (s.extract a b).data.toList = (s.data.toList.drop a).take (b - a) := by
  rw [ByteArray.data_extract, Array.toList_extract, List.extract_eq_take_drop]
theorem row_first (p : Pos) {n : Nat} (hn : p.w = n) : (p.cells.extract 0 n).data.toList = p.cells.data.toList.take p.w.toNat := by
  rw [extract_list, hn]
  simp
theorem row_last (p : Pos) {n : Nat} (hn : p.w = n) : (p.cells.extract (p.cells.size - n) p.cells.size).data.toList = p.cells.data.toList.drop (p.cells.size - p.w.toNat) := by
  rw [extract_list, hn, Int.toNat_natCast]
  apply List.take_of_length_le
  rw [List.length_drop]
  have : p.cells.data.toList.length = p.cells.size := rfl
  omega
theorem pos_w {p : Pos} (hp : PosOk p) : ∃ n : Nat, p.w = n ∧ 1 ≤ n ∧ n ≤ 8 ∧ n ≤ p.cells.size ∧ p.cells.size ≤ 64 := by
  have h1 := hp.w1
  have h2 := hp.w8
  have h3 := hp.h1
  have h4 := hp.size
  have h5 := (pos_small hp).1
  refine ⟨p.w.toNat, by omega, by omega, by omega, ?_, h5⟩
  have : p.w * 1 ≤ p.w * p.h := Int.mul_le_mul_of_nonneg_left h3 (by omega)
  omega
theorem rowOf_eq {p : Pos} {n : Nat} (hn : p.w = n) (pl : Int) : rowOf p pl = if pl = 0 then (p.cells.extract (p.cells.size - n) p.cells.size).data.toList else (p.cells.extract 0 n).data.toList := by
  unfold rowOf; rw [row_first p hn, row_last p hn]
set_option maxHeartbeats 1000000 in
set_option maxRecDepth 20000 in
theorem reached_any (r : RulesD) (A : Option Addr) (cp : Nat) (p : Pos) (pl : Int) (W : World) (hp : PosOk p) (hl : CapOk r.reach) :
    Calls Tryz.prog 160 #[.agg #[.int .i64 r.start.w, .int .i64 r.start.h, .string r.start.cells, .int .i64 r.start.turn, .string r.start.h0, .string r.start.h1, .slice A r.pieces.length cp, .bool r.drops, .int .u8 r.lose, .int .i64 r.line, .int .u8 r.reach, .bool r.stuck, .int .i64 r.plies], .agg #[.int .i64 p.w, .int .i64 p.h, .string p.cells, .int .i64 p.turn, .string p.h0, .string p.h1], .int .i64 pl] W fun e w' => e = .returned (.bool (reachB r p pl)) ∧ Later W w' := by
  have Hlb := hide (show Later W ((W.alloc (.cells #[.int .i64 r.start.w, .int .i64 r.start.h, .string r.start.cells, .int .i64 r.start.turn, .string r.start.h0, .string r.start.h1, .slice A r.pieces.length cp, .bool r.drops, .int .u8 r.lose, .int .i64 r.line, .int .u8 r.reach, .bool r.stuck, .int .i64 r.plies] 27)).alloc (.cells #[.int .i64 p.w, .int .i64 p.h, .string p.cells, .int .i64 p.turn, .string p.h0, .string p.h1] 24)) from (Later.rfl.alloc _).alloc _)
  obtain ⟨n, hn, n1, n8, nc, c64⟩ := pos_w hp
  have hrow := rowOf_eq hn pl
  obtain ⟨v, hv⟩ : ∃ v, reachB r p pl = v := ⟨_, rfl⟩
  rw [hv]
  rw [hn] at Hlb ⊢
  clear hp hn
  by_cases h0 : r.reach = 0
  · have d1 : ((r.reach : Int) != 0) = false := by simp [h0]
    have Hr := hide (show v = false by rw [← hv]; simp [reachB, h0])
    clear h0 hl hrow hv
    by_cases hpl : pl = 0
    · have d2 : (pl == 0) = true := by simp [hpl]
      clear hpl
      go_enter Tryz.func160, Tryz.ntmps160
      go_wp2_with fail
      go_ret
      exact ⟨by rw [Hr.out] <;> rfl, Hlb.out⟩
    · have d2 : (pl == 0) = false := by simpa using hpl
      clear hpl
      go_enter Tryz.func160, Tryz.ntmps160
      go_wp2_with fail
      go_ret
      exact ⟨by rw [Hr.out] <;> rfl, Hlb.out⟩
  · have hu : upB r.reach = true := by
      rcases hl with h | h
      · exact absurd h h0
      · exact h
    have d1 : ((r.reach : Int) != 0) = true := by simp; omega
    have hlet := fun w => mv_letter_any r.reach pl w
    rw [letG_up hu] at hlet
    have hx := fun l => index_pos (l := l) (letN_lt hu pl)
    have hr : v = hasL (rowOf p pl) (letN r.reach pl) := by rw [← hv]; simp [reachB, h0]
    obtain ⟨q, hq⟩ : ∃ q, letN r.reach pl = q := ⟨_, rfl⟩
    rw [hq] at hlet hr
    simp only [hq] at hx
    have Hlet := hide hlet
    rw [hrow] at hr
    clear hlet hq h0 hl hu hrow hv
    by_cases hpl : pl = 0
    · rw [if_pos hpl] at hr
      have d2 : (pl == 0) = true := by simp [hpl]
      have hxx := hx (p.cells.extract (p.cells.size - n) p.cells.size).data.toList
      have hcall := fun w => Tryz.strings_IndexByte (p.cells.extract (p.cells.size - n) p.cells.size) q w
      obtain ⟨k, hk⟩ : ∃ k, Lib.indexByte (p.cells.extract (p.cells.size - n) p.cells.size).data.toList ((q : Int).toNat.toUInt8) = k := ⟨_, rfl⟩
      rw [hk, ← hr] at hxx
      simp only [hk] at hcall
      have Hcall := hide hcall
      clear hpl hx hk hr hcall
      go_enter Tryz.func160, Tryz.ntmps160
      go_wp2_with (first | (go_at_call 127; refine (Hlet.out _).mono ?_; rintro e w' ⟨rfl, hw'⟩; rw [hw']; clear hw') | (go_at_call 37; refine (Hcall.out _).mono ?_; rintro e w' ⟨rfl, hw'⟩; rw [hw']; clear hw'))
      go_ret
      exact ⟨rfl, Hlb.out⟩
    · rw [if_neg hpl] at hr
      have d2 : (pl == 0) = false := by simpa using hpl
      have hxx := hx (p.cells.extract 0 n).data.toList
      have hcall := fun w => Tryz.strings_IndexByte (p.cells.extract 0 n) q w
      obtain ⟨k, hk⟩ : ∃ k, Lib.indexByte (p.cells.extract 0 n).data.toList ((q : Int).toNat.toUInt8) = k := ⟨_, rfl⟩
      rw [hk, ← hr] at hxx
      simp only [hk] at hcall
      have Hcall := hide hcall
      clear hpl hx hk hr hcall
      go_enter Tryz.func160, Tryz.ntmps160
      go_wp2_with (first | (go_at_call 127; refine (Hlet.out _).mono ?_; rintro e w' ⟨rfl, hw'⟩; rw [hw']; clear hw') | (go_at_call 37; refine (Hcall.out _).mono ?_; rintro e w' ⟨rfl, hw'⟩; rw [hw']; clear hw'))
      go_ret
      exact ⟨rfl, Hlb.out⟩
end Go.Proofs.YtcdfeaodfmfdnaaGreatDoor
namespace Go.Proofs.YtcdfeaodfmfdnaaGreatDoor

def d4x (i : Nat) : Int := (dirs4.getD i (0, 0)).1
def d4y (i : Nat) : Int := (dirs4.getD i (0, 0)).2
theorem d4_mem {i : Nat} (h : i < 4) : (d4x i, d4y i) ∈ dirs4 := by
  match i, h with
  | 0, _ => simp [d4x, d4y, dirs4]
  | 1, _ => simp [d4x, d4y, dirs4]
  | 2, _ => simp [d4x, d4y, dirs4]
  | 3, _ => simp [d4x, d4y, dirs4]
theorem d4_all {d : Int × Int} (h : d ∈ dirs4) : ∃ i, i < 4 ∧ d = (d4x i, d4y i) := by
  unfold dirs4 at h
  simp only [List.mem_cons, List.not_mem_nil, or_false] at h
  rcases h with rfl | rfl | rfl | rfl
  · exact ⟨0, by omega, rfl⟩
  · exact ⟨1, by omega, rfl⟩
  · exact ⟨2, by omega, rfl⟩
  · exact ⟨3, by omega, rfl⟩
theorem d4_rng {i : Nat} (h : i < 4) : -1 ≤ d4x i ∧ d4x i ≤ 1 ∧ -1 ≤ d4y i ∧ d4y i ≤ 1 ∧ (d4x i ≠ 0 ∨ d4y i ≠ 0) := by
  match i, h with
  | 0, _ => decide
  | 1, _ => decide
  | 2, _ => decide
  | 3, _ => decide
theorem stepI_zero (x dx : Int) : stepI x dx 0 = x := by unfold stepI; omega
theorem stepI_add (x dx : Int) (k : Nat) : stepI x dx k + dx = stepI x dx (k + 1) := by
  unfold stepI
  rw [Int.natCast_add, Int.add_mul]
  omega
theorem line_zero {p : Pos} {pl dx dy x y : Int} : LineR p pl 0 dx dy x y := fun k hk => by omega
theorem line_len {p : Pos} (hp : PosOk p) {pl dx dy x y : Int} {k : Nat} (hd : dx ≠ 0 ∨ dy ≠ 0) (h : LineR p pl k dx dy x y) : k ≤ 8 := by
  rcases Nat.eq_zero_or_pos k with h0 | h0
  · omega
  have hw := hp.w8
  have hh := hp.h8
  obtain ⟨a1, a2, a3, a4⟩ := (h 0 h0).1
  obtain ⟨b1, b2, b3, b4⟩ := (h (k - 1) (by omega)).1
  rw [stepI_zero] at a1 a2 a3 a4
  unfold stepI at b1 b2 b3 b4
  rcases hd with hd | hd
  · have := far_off a1 (by omega) hd b1 (by omega); omega
  · have := far_off a3 (by omega) hd b3 (by omega); omega
theorem line_next {p : Pos} {pl dx dy x y : Int} {k : Nat} (h : LineR p pl k dx dy x y) (h1 : AtB p (stepI x dx k) (stepI y dy k)) (h2 : mineB (cellN p (idxN p.w (stepI x dx k) (stepI y dy k))) pl = true) : LineR p pl (k + 1) dx dy x y := fun j hj => by
  by_cases e : j = k
  · subst e; exact ⟨h1, h2⟩
  · exact h j (by omega)
theorem line_stop {p : Pos} {pl dx dy x y : Int} {k n : Nat} (h : LineR p pl k dx dy x y) (hs : ¬ (AtB p (stepI x dx k) (stepI y dy k) ∧ mineB (cellN p (idxN p.w (stepI x dx k) (stepI y dy k))) pl = true)) : n ≤ k ↔ LineR p pl n dx dy x y := by
  constructor
  · exact fun hn => line_more h hn
  · intro hn
    rcases Nat.lt_or_ge k n with h1 | h1
    · exact absurd (hn k h1) hs
    · exact h1
/-- none so far from the cells ahead of a; none from a in the first i directions -/
def NoLine (p : Pos) (pl : Int) (n a : Nat) : Prop := ∀ b, b < a → ∀ i, i < 4 → ¬ LineR p pl n (d4x i) (d4y i) ((b % p.w.toNat : Nat) : Int) ((b / p.w.toNat : Nat) : Int)
def NoDir (p : Pos) (pl : Int) (n a i : Nat) : Prop := ∀ j, j < i → ¬ LineR p pl n (d4x j) (d4y j) ((a % p.w.toNat : Nat) : Int) ((a / p.w.toNat : Nat) : Int)
theorem noLine_next {p : Pos} {pl : Int} {n a : Nat} (h : NoLine p pl n a) (k : NoDir p pl n a 4) : NoLine p pl n (a + 1) := fun b hb i hi => by
  by_cases e : b = a
  · subst e; exact k i hi
  · exact h b (by omega) i hi
theorem noDir_next {p : Pos} {pl : Int} {n a i : Nat} (h : NoDir p pl n a i) (k : ¬ LineR p pl n (d4x i) (d4y i) ((a % p.w.toNat : Nat) : Int) ((a / p.w.toNat : Nat) : Int)) : NoDir p pl n a (i + 1) := fun j hj => by
  by_cases e : j = i
  · subst e; exact k
  · exact h j (by omega)
theorem has_none {p : Pos} {pl : Int} {n : Nat} (h : NoLine p pl n p.cells.size) : hasB p pl n = false := by
  unfold hasB
  simp only [decide_eq_false_iff_not]
  rintro ⟨a, ha, d, hd, hl⟩
  obtain ⟨i, hi, rfl⟩ := d4_all hd
  exact h a ha i hi hl
theorem has_some {p : Pos} {pl : Int} {n a i : Nat} (ha : a < p.cells.size) (hi : i < 4) (h : LineR p pl n (d4x i) (d4y i) ((a % p.w.toNat : Nat) : Int) ((a / p.w.toNat : Nat) : Int)) : hasB p pl n = true := by
  unfold hasB
  simp only [decide_eq_true_eq]
  exact ⟨a, ha, _, d4_mem hi, h⟩
end Go.Proofs.YtcdfeaodfmfdnaaGreatDoor
namespace Go.Proofs.YtcdfeaodfmfdnaaGreatDoor
open Go.RowKit

theorem mod_eqn (a n : Nat) : (a : Int) % (n : Int) = ((a % n : Nat) : Int) := rfl
theorem div_eqn (a n : Nat) : (a : Int) / (n : Int) = ((a / n : Nat) : Int) := rfl
theorem pos_wh {p : Pos} (hp : PosOk p) : ∃ n m : Nat, p.w = n ∧ p.h = m ∧ 1 ≤ n ∧ n ≤ 8 ∧ 1 ≤ m ∧ m ≤ 8 ∧ p.cells.size = n * m ∧ p.cells.size ≤ 64 := by
  have h1 := hp.w1
  have h2 := hp.w8
  have h3 := hp.h1
  have h4 := hp.h8
  have h5 := hp.len
  exact ⟨p.w.toNat, p.h.toNat, by omega, by omega, by omega, by omega, by omega, by omega, h5, (pos_small hp).1⟩
/-- what stands in a cell of the board -/
theorem cell_at {p : Pos} (hp : PosOk p) {n : Nat} (hn : p.w = n) {x y : Int} (h : AtB p x y) : ∃ i : Nat, y * (n : Int) + x = (i : Int) ∧ i = idxN p.w x y ∧ 0 ≤ y * (n : Int) ∧ y * (n : Int) ≤ 64 ∧ ∃ hi : i < p.cells.size, p.cells[i].toNat = cellN p (idxN p.w x y) := by
  obtain ⟨_, _, e3, e4⟩ := idx_at h
  have hl : p.cells.size = p.w.toNat * p.h.toNat := hp.len
  have hs := (pos_small hp).1
  have hy : 0 ≤ y * (n : Int) := Int.mul_nonneg h.y0 (by omega)
  have hx := h.x0
  rw [hn] at e4
  have hi : idxN p.w x y < p.cells.size := by omega
  refine ⟨idxN p.w x y, ?_, rfl, hy, by rw [hn] at hi; omega, hi, ?_⟩
  · rw [hn]; exact e4.symm
  · unfold cellN
    rw [getD_get (show idxN p.w x y < p.cells.data.toList.length from hi)]
    rfl
theorem d4_cells (w : World) (t : TypeId) {i : Nat} (h : i < 4) {g : Nat} (hb : Blk w g t #[.int .i64 1, .int .i64 0, .int .i64 0, .int .i64 1, .int .i64 1, .int .i64 1, .int .i64 1, .int .i64 (-1)]) :
    w.cell? ⟨g, i * 2, none⟩ = some (.int .i64 (d4x i)) ∧ w.cell? ⟨g, i * 2 + 1, none⟩ = some (.int .i64 (d4y i)) := by
  match i, h with
  | 0, _ => exact ⟨hb.cellv rfl, hb.cellv rfl⟩
  | 1, _ => exact ⟨hb.cellv rfl, hb.cellv rfl⟩
  | 2, _ => exact ⟨hb.cellv rfl, hb.cellv rfl⟩
  | 3, _ => exact ⟨hb.cellv rfl, hb.cellv rfl⟩
theorem Blk.two {w : World} {g : Nat} {t : TypeId} {v0 v1 : Value} (h : Blk w g t #[v0, v1]) : w.cell? ⟨g, 0, none⟩ = some v0 ∧ w.cell? ⟨g, 1, none⟩ = some v1 := ⟨h.cellv rfl, h.cellv rfl⟩
theorem Blk.pos6 {w : World} {g : Nat} {t : TypeId} {a b c d e f : Value} (h : Blk w g t #[a, b, c, d, e, f]) :
    w.cell? ⟨g, 0, none⟩ = some a ∧ w.cell? ⟨g, 1, none⟩ = some b ∧ w.cell? ⟨g, 2, none⟩ = some c ∧ w.cell? ⟨g, 3, none⟩ = some d ∧ w.cell? ⟨g, 4, none⟩ = some e ∧ w.cell? ⟨g, 5, none⟩ = some f :=
  ⟨h.cellv rfl, h.cellv rfl, h.cellv rfl, h.cellv rfl, h.cellv rfl, h.cellv rfl⟩
set_option maxHeartbeats 4000000 in
set_option maxRecDepth 100000 in
theorem has_any (p : Pos) (pl l : Int) (W : World) (hp : PosOk p) (l1 : 1 ≤ l) (l8 : l ≤ 8) :
    Calls Tryz.prog 159 #[.agg #[.int .i64 p.w, .int .i64 p.h, .string p.cells, .int .i64 p.turn, .string p.h0, .string p.h1], .int .i64 pl, .int .i64 l] W fun e w' => e = .returned (.bool (hasB p pl l.toNat)) ∧ Later W w' := by
  obtain ⟨n, m, hn, hm, n1, n8, m1, m8, hsz, h64⟩ := pos_wh hp
  have Hp := hide hp
  have Hn := hide hn
  have Hm := hide hm
  have Hsz := hide hsz
  have Hmine := hide (fun c w => mine_any c pl w)
  have hbp := Blk.new W 24 #[.int .i64 p.w, .int .i64 p.h, .string p.cells, .int .i64 p.turn, .string p.h0, .string p.h1]
  rw [hn, hm] at hbp ⊢
  have Hbp := hide hbp
  have Hl0 := hide (show Later W (W.alloc (.cells #[.int .i64 n, .int .i64 m, .string p.cells, .int .i64 p.turn, .string p.h0, .string p.h1] 24)) from Later.rfl.alloc _)
  obtain ⟨q, hq⟩ : ∃ q, hasB p pl l.toNat = q := ⟨_, rfl⟩
  have Hnone := hide (fun (h : NoLine p pl l.toNat p.cells.size) => hq.symm.trans (has_none h))
  have Hsome := hide (fun (a i : Nat) (ha : a < p.cells.size) (hi : i < 4) (h : LineR p pl l.toNat (d4x i) (d4y i) ((a % p.w.toNat : Nat) : Int) ((a / p.w.toNat : Nat) : Int)) => hq.symm.trans (has_some ha hi h))
  rw [hq]
  clear hp hn hm hsz hbp hq
  go_enter Tryz.func159, Tryz.ntmps159
  go_upto_region 2 with (fail)
  go_loopw [16] (fun i wr => ∃ a : Nat, a ≤ p.cells.size ∧ i = .int .i64 a ∧ NoLine p pl l.toNat a ∧ Blk wr W.heap.size 24 #[.int .i64 n, .int .i64 m, .string p.cells, .int .i64 p.turn, .string p.h0, .string p.h1] ∧ Later W wr) (fun i _ => p.cells.size - (intOf i).toNat)
  case atStart => exact ⟨0, by omega, rfl, fun b h => by omega, Hbp.out, Hl0.out⟩
  case round =>
    rename World => wr
    obtain ⟨a, ha, rfl, hno, hb, hw⟩ := hrel
    have Hno := hide hno
    have Hb := hide hb
    have Hw := hide hw
    clear hno hb hw Hbp Hl0
    by_cases hlt : a < p.cells.size
    · have ej : decide ((a : Int) < (p.cells.size : Int)) = true := decide_eq_true (by omega)
      go_upto_region 5 with (fail)
      have D4 := hide (Blk.new wr 55 #[.int .i64 1, .int .i64 0, .int .i64 0, .int .i64 1, .int .i64 1, .int .i64 1, .int .i64 1, .int .i64 (-1)])
      have Hb1 := hide (Hb.out.alloc (.cells #[.int .i64 1, .int .i64 0, .int .i64 0, .int .i64 1, .int .i64 1, .int .i64 1, .int .i64 1, .int .i64 (-1)] 55))
      have Hw1 := hide (Hw.out.alloc (.cells #[.int .i64 1, .int .i64 0, .int .i64 0, .int .i64 1, .int .i64 1, .int .i64 1, .int .i64 1, .int .i64 (-1)] 55))
      obtain ⟨gd, hgd⟩ : ∃ gd, wr.heap.size = gd := ⟨_, rfl⟩
      rw [hgd] at D4 ⊢
      obtain ⟨w1, hw1⟩ : ∃ w1, wr.alloc (.cells #[.int .i64 1, .int .i64 0, .int .i64 0, .int .i64 1, .int .i64 1, .int .i64 1, .int .i64 1, .int .i64 (-1)] 55) = w1 := ⟨_, rfl⟩
      rw [hw1] at D4 Hb1 Hw1 ⊢
      clear hgd hw1 Hb Hw
      go_loopw [25] (fun i wi => ∃ k : Nat, k ≤ 4 ∧ i = .int .i64 k ∧ NoDir p pl l.toNat a k ∧ Blk wi gd 55 #[.int .i64 1, .int .i64 0, .int .i64 0, .int .i64 1, .int .i64 1, .int .i64 1, .int .i64 1, .int .i64 (-1)] ∧ Blk wi W.heap.size 24 #[.int .i64 n, .int .i64 m, .string p.cells, .int .i64 p.turn, .string p.h0, .string p.h1] ∧ Later W wi) (fun i _ => 4 - (intOf i).toNat)
      case atStart => exact ⟨0, by omega, rfl, fun b h => by omega, D4.out, Hb1.out, Hw1.out⟩
      case round =>
        rename World => wi
        obtain ⟨k, hk, rfl, hnd, hd4, hb, hw⟩ := hrel
        have Hnd := hide hnd
        have D4 := hide hd4
        have Hb := hide hb
        have Hw := hide hw
        clear hnd hd4 hb hw Hb1 Hw1
        by_cases hlk : k < 4
        · obtain ⟨z0, z1⟩ := d4_cells wi 55 hlk D4.out
          obtain ⟨r1, r2, r3, r4, r5⟩ := d4_rng hlk
          have Hr5 := hide r5
          have ek : decide ((k : Int) < 4) = true := decide_eq_true (by omega)
          clear r5
          go_upto_region 7 with (fail)
          have DV := hide (Blk.new wi 55 #[.int .i64 (d4x k), .int .i64 (d4y k)])
          have D41 := hide (D4.out.alloc (.cells #[.int .i64 (d4x k), .int .i64 (d4y k)] 55))
          have Hb1 := hide (Hb.out.alloc (.cells #[.int .i64 (d4x k), .int .i64 (d4y k)] 55))
          have Hw1 := hide (Hw.out.alloc (.cells #[.int .i64 (d4x k), .int .i64 (d4y k)] 55))
          obtain ⟨gv, hgv⟩ : ∃ gv, wi.heap.size = gv := ⟨_, rfl⟩
          rw [hgv] at DV ⊢
          obtain ⟨w2, hw2⟩ : ∃ w2, wi.alloc (.cells #[.int .i64 (d4x k), .int .i64 (d4y k)] 55) = w2 := ⟨_, rfl⟩
          rw [hw2] at DV D41 Hb1 Hw1 ⊢
          clear hgv hw2 D4 Hb Hw z0 z1
          have ez : ((n : Int) == 0) = false := by simp; omega
          have ex := mod_eqn a n
          have ey := div_eqn a n
          have x0 : 0 ≤ ((a % n : Nat) : Int) := Int.natCast_nonneg _
          have x1 : ((a % n : Nat) : Int) < n := by have := Nat.mod_lt a (show 0 < n by omega); omega
          have y0 : 0 ≤ ((a / n : Nat) : Int) := Int.natCast_nonneg _
          have y1 : ((a / n : Nat) : Int) ≤ 64 := by have := Nat.div_le_self a n; omega
          obtain ⟨xx, hxx⟩ : ∃ xx : Int, ((a % n : Nat) : Int) = xx := ⟨_, rfl⟩
          obtain ⟨yy, hyy⟩ : ∃ yy : Int, ((a / n : Nat) : Int) = yy := ⟨_, rfl⟩
          rw [hxx] at ex x0 x1
          rw [hyy] at ey y0 y1
          have Hxx := hide hxx
          have Hyy := hide hyy
          obtain ⟨q0, q1, q2, q3, q4, q5⟩ := Hb1.out.pos6
          clear hxx hyy
          go_quiet (fail)
          simp only [ex]
          obtain ⟨dx, hdx⟩ : ∃ dx, d4x k = dx := ⟨_, rfl⟩
          obtain ⟨dy, hdy⟩ : ∃ dy, d4y k = dy := ⟨_, rfl⟩
          rw [hdx] at r1 r2 DV Hr5
          rw [hdy] at r3 r4 DV Hr5
          have Hdx := hide hdx
          have Hdy := hide hdy
          go_upto_region 8 with (fail)
          go_loopw [10, 11, 12] (fun x y c wj => ∃ t : Nat, x = .int .i64 (stepI xx dx t) ∧ y = .int .i64 (stepI yy dy t) ∧ c = .int .i64 t ∧ LineR p pl t dx dy xx yy ∧ Blk wj gv 55 #[.int .i64 dx, .int .i64 dy] ∧ Blk wj gd 55 #[.int .i64 1, .int .i64 0, .int .i64 0, .int .i64 1, .int .i64 1, .int .i64 1, .int .i64 1, .int .i64 (-1)] ∧ Blk wj W.heap.size 24 #[.int .i64 n, .int .i64 m, .string p.cells, .int .i64 p.turn, .string p.h0, .string p.h1] ∧ Later W wj) (fun _ _ c _ => 9 - (intOf c).toNat)
          case atStart => exact ⟨0, by rw [stepI_zero], by rw [stepI_zero], rfl, line_zero, DV.out.drewN _, D41.out.drewN _, Hb1.out.drewN _, Hw1.out.drewN _⟩
          case round =>
            rename World => wj
            obtain ⟨t, rfl, rfl, rfl, hline, hv, hd4, hb, hw⟩ := hrel
            have t8 := line_len Hp.out Hr5.out hline
            have Hline := hide hline
            have DV := hide hv
            have D4 := hide hd4
            have Hb := hide hb
            have Hw := hide hw
            have Hsx := hide (stepI_add xx dx t)
            have Hsy := hide (stepI_add yy dy t)
            have Hnext := hide (line_next (p := p) hline)
            have Hstop := hide (line_stop (p := p) (n := l.toNat) hline)
            obtain ⟨sx, hsx⟩ : ∃ sx, stepI xx dx t = sx := ⟨_, rfl⟩
            obtain ⟨sy, hsy⟩ : ∃ sy, stepI yy dy t = sy := ⟨_, rfl⟩
            rw [hsx] at Hsx Hnext Hstop ⊢
            rw [hsy] at Hsy Hnext Hstop ⊢
            obtain ⟨q0, q1, q2, q3, q4, q5⟩ := Hb.out.pos6
            obtain ⟨v0, v1⟩ := DV.out.two
            clear hline hv hd4 hb hw D41 Hb1 Hw1 hsx hsy ex ey hdx hdy
            by_cases hin : AtB p sx sy
            · obtain ⟨i, i1, i2, i3, i4, i5, i6⟩ := cell_at Hp.out Hn.out hin
              obtain ⟨o1, o2, o3, o4⟩ := hin
              rw [Hn.out] at o2
              rw [Hm.out] at o4
              have d1 : decide (sx ≥ 0) = true := decide_eq_true o1
              have d2 : decide (sx < (n : Int)) = true := decide_eq_true o2
              have d3 : decide (sy ≥ 0) = true := decide_eq_true o3
              have d4 : decide (sy < (m : Int)) = true := decide_eq_true o4
              have j1 : (0 : Int) ≤ (i : Int) := by omega
              have j2 : (i : Int) < (p.cells.size : Int) := by omega
              obtain ⟨v, hv⟩ : ∃ v, mineB p.cells[i].toNat pl = v := ⟨_, rfl⟩
              have hcall := fun w => Hmine.out p.cells[i].toNat w
              rw [hv] at hcall
              rw [i6] at hv
              have Hcall := hide hcall
              have Hin := hide (show AtB p sx sy from ⟨o1, by rw [Hn.out]; exact o2, o3, by rw [Hm.out]; exact o4⟩)
              clear hcall i6 i2
              cases v
              · have Hst := hide (Hstop.out (fun h => by rw [hv] at h; exact absurd h.2 (by decide)))
                clear hv Hnext Hstop
                by_cases hge : l ≤ (t : Int)
                · have d5 : decide ((t : Int) ≥ l) = true := decide_eq_true hge
                  have Hr := hide (Hsome.out a k hlt hlk (by rw [Hdx.out, Hdy.out, Hn.out, Int.toNat_natCast, Hxx.out, Hyy.out]; exact Hst.out.1 (by omega)))
                  clear hge
                  go_wp2_with (go_at_call 176; refine (Hcall.out _).mono ?_; rintro e w' ⟨rfl, rfl⟩)
                  go_ret
                  exact ⟨by rw [Hr.out] <;> rfl, Hw.out⟩
                · have d5 : decide ((t : Int) ≥ l) = false := decide_eq_false hge
                  have Hr := hide (noDir_next Hnd.out (by rw [Hdx.out, Hdy.out, Hn.out, Int.toNat_natCast, Hxx.out, Hyy.out]; exact fun h => hge (by have := Hst.out.2 h; omega)))
                  clear hge
                  go_wp2_with (go_at_call 176; refine (Hcall.out _).mono ?_; rintro e w' ⟨rfl, rfl⟩)
                  go_roundw
                  case rel => exact ⟨k + 1, by omega, by go_num, Hr.out, D4.out, Hb.out, Hw.out⟩
                  case measure => simp [intOf]; omega
              · have Hln := hide (Hnext.out Hin.out hv)
                clear hv Hnext Hstop
                go_wp2_with (go_at_call 176; refine (Hcall.out _).mono ?_; rintro e w' ⟨rfl, rfl⟩)
                have s1 : IntKind.i64.wrap (sx + dx) = sx + dx := IntWalk.i64_in _ (by omega)
                have s2 : IntKind.i64.wrap (sy + dy) = sy + dy := IntWalk.i64_in _ (by omega)
                have s3 : IntKind.i64.wrap ((t : Int) + 1) = (t : Int) + 1 := IntWalk.i64_in _ (by omega)
                go_quiet (fail)
                clear s1 s2 s3
                go_wp2_with fail
                go_roundw
                case rel => exact ⟨t + 1, by rw [← Hsx.out] <;> rfl, by rw [← Hsy.out] <;> rfl, by go_num, Hln.out, DV.out.drewN _, D4.out.drewN _, Hb.out.drewN _, Hw.out.drewN _⟩
                case measure => simp [intOf]; omega
            · have Hst := hide (Hstop.out (fun h => hin h.1))
              have Hin := hide (show ¬ (0 ≤ sx ∧ sx < (n : Int) ∧ 0 ≤ sy ∧ sy < (m : Int)) from fun ⟨o1, o2, o3, o4⟩ => hin ⟨o1, by rw [Hn.out]; exact o2, o3, by rw [Hm.out]; exact o4⟩)
              clear hin Hnext Hstop
              by_cases o1 : 0 ≤ sx
              · have d1 : decide (sx ≥ 0) = true := decide_eq_true o1
                by_cases o2 : sx < (n : Int)
                · have d2 : decide (sx < (n : Int)) = true := decide_eq_true o2
                  by_cases o3 : 0 ≤ sy
                  · have d3 : decide (sy ≥ 0) = true := decide_eq_true o3
                    by_cases o4 : sy < (m : Int)
                    · exact absurd ⟨o1, o2, o3, o4⟩ Hin.out
                    · have d4 : decide (sy < (m : Int)) = false := decide_eq_false o4
                      clear o1 o2 o3 o4
                      by_cases hge : l ≤ (t : Int)
                      · have d5 : decide ((t : Int) ≥ l) = true := decide_eq_true hge
                        have Hr := hide (Hsome.out a k hlt hlk (by rw [Hdx.out, Hdy.out, Hn.out, Int.toNat_natCast, Hxx.out, Hyy.out]; exact Hst.out.1 (by omega)))
                        clear hge
                        go_wp2_with (fail)
                        go_ret
                        exact ⟨by rw [Hr.out] <;> rfl, Hw.out⟩
                      · have d5 : decide ((t : Int) ≥ l) = false := decide_eq_false hge
                        have Hr := hide (noDir_next Hnd.out (by rw [Hdx.out, Hdy.out, Hn.out, Int.toNat_natCast, Hxx.out, Hyy.out]; exact fun h => hge (by have := Hst.out.2 h; omega)))
                        clear hge
                        go_wp2_with (fail)
                        go_roundw
                        case rel => exact ⟨k + 1, by omega, by go_num, Hr.out, D4.out, Hb.out, Hw.out⟩
                        case measure => simp [intOf]; omega
                  · have d3 : decide (sy ≥ 0) = false := decide_eq_false o3
                    clear o1 o2 o3
                    by_cases hge : l ≤ (t : Int)
                    · have d5 : decide ((t : Int) ≥ l) = true := decide_eq_true hge
                      have Hr := hide (Hsome.out a k hlt hlk (by rw [Hdx.out, Hdy.out, Hn.out, Int.toNat_natCast, Hxx.out, Hyy.out]; exact Hst.out.1 (by omega)))
                      clear hge
                      go_wp2_with (fail)
                      go_ret
                      exact ⟨by rw [Hr.out] <;> rfl, Hw.out⟩
                    · have d5 : decide ((t : Int) ≥ l) = false := decide_eq_false hge
                      have Hr := hide (noDir_next Hnd.out (by rw [Hdx.out, Hdy.out, Hn.out, Int.toNat_natCast, Hxx.out, Hyy.out]; exact fun h => hge (by have := Hst.out.2 h; omega)))
                      clear hge
                      go_wp2_with (fail)
                      go_roundw
                      case rel => exact ⟨k + 1, by omega, by go_num, Hr.out, D4.out, Hb.out, Hw.out⟩
                      case measure => simp [intOf]; omega
                · have d2 : decide (sx < (n : Int)) = false := decide_eq_false o2
                  clear o1 o2
                  by_cases hge : l ≤ (t : Int)
                  · have d5 : decide ((t : Int) ≥ l) = true := decide_eq_true hge
                    have Hr := hide (Hsome.out a k hlt hlk (by rw [Hdx.out, Hdy.out, Hn.out, Int.toNat_natCast, Hxx.out, Hyy.out]; exact Hst.out.1 (by omega)))
                    clear hge
                    go_wp2_with (fail)
                    go_ret
                    exact ⟨by rw [Hr.out] <;> rfl, Hw.out⟩
                  · have d5 : decide ((t : Int) ≥ l) = false := decide_eq_false hge
                    have Hr := hide (noDir_next Hnd.out (by rw [Hdx.out, Hdy.out, Hn.out, Int.toNat_natCast, Hxx.out, Hyy.out]; exact fun h => hge (by have := Hst.out.2 h; omega)))
                    clear hge
                    go_wp2_with (fail)
                    go_roundw
                    case rel => exact ⟨k + 1, by omega, by go_num, Hr.out, D4.out, Hb.out, Hw.out⟩
                    case measure => simp [intOf]; omega
              · have d1 : decide (sx ≥ 0) = false := decide_eq_false o1
                clear o1
                by_cases hge : l ≤ (t : Int)
                · have d5 : decide ((t : Int) ≥ l) = true := decide_eq_true hge
                  have Hr := hide (Hsome.out a k hlt hlk (by rw [Hdx.out, Hdy.out, Hn.out, Int.toNat_natCast, Hxx.out, Hyy.out]; exact Hst.out.1 (by omega)))
                  clear hge
                  go_wp2_with (fail)
                  go_ret
                  exact ⟨by rw [Hr.out] <;> rfl, Hw.out⟩
                · have d5 : decide ((t : Int) ≥ l) = false := decide_eq_false hge
                  have Hr := hide (noDir_next Hnd.out (by rw [Hdx.out, Hdy.out, Hn.out, Int.toNat_natCast, Hxx.out, Hyy.out]; exact fun h => hge (by have := Hst.out.2 h; omega)))
                  clear hge
                  go_wp2_with (fail)
                  go_roundw
                  case rel => exact ⟨k + 1, by omega, by go_num, Hr.out, D4.out, Hb.out, Hw.out⟩
                  case measure => simp [intOf]; omega
        · obtain rfl : k = 4 := by omega
          have Hr := hide (noLine_next Hno.out Hnd.out)
          go_wp2_with fail
          go_roundw
          case rel => exact ⟨a + 1, by omega, by go_num, Hr.out, Hb.out, Hw.out⟩
          case measure => simp [intOf]; omega
    · obtain rfl : a = p.cells.size := by omega
      have Hr := hide (Hnone.out Hno.out)
      go_wp2_with fail
      go_ret
      exact ⟨by rw [Hr.out] <;> rfl, Hw.out⟩
end Go.Proofs.YtcdfeaodfmfdnaaGreatDoor
namespace Go.Proofs.YtcdfeaodfmfdnaaGreatDoor
open Go.RowKit

theorem letN_add {c : Nat} (h : upB c = true) : IntKind.u8.wrap ((c : Int) + 32) = ((c + 32 : Nat) : Int) := by
  have := upB_lt h
  rw [show (c : Int) + 32 = ((c + 32 : Nat) : Int) by omega]
  exact IntWalk.u8_in _ (by omega)
theorem conv_one (q : Nat) (hq : q < 256) (w : World) : (convert 96 9 (.slice (some ⟨w.heap.size, 0, none⟩) 1 1)).run Tryz.prog (w.alloc (.cells #[.int .u8 q] 5)) = .ok (.string (bytes [u8 q])) (w.alloc (.cells #[.int .u8 q] 5)) := by
  have h := run_convert_bytes_back (P := Tryz.prog) (w.alloc (.cells #[.int .u8 q] 5)) 96 9 5 ⟨w.heap.size, 0, none⟩ 1 [u8 q] Tryz.underlying96 Tryz.underlying5 Tryz.underlying9 (fun j hj => by
    have hj0 : j = 0 := by simpa using hj
    subst hj0
    rw [Addr.add_lit, (Blk.new w 5 #[.int .u8 q]).cell]
    simp [u8_nat hq])
  exact h
set_option maxHeartbeats 1000000 in
theorem mark_any (c : Nat) (pl : Int) (hc : upB c = true) (w : World) : Calls Tryz.prog 105 #[.int .u8 c, .int .i64 pl] w fun e w' => e = .returned (.string (bytes [u8 (letN c pl)])) ∧ Later w w' := by
  have HB := hide (letN_lt hc pl)
  have Hl : Hid (Later w w) := Later.rfl
  obtain ⟨m, hm⟩ : ∃ m, letN c pl = m := ⟨_, rfl⟩
  rw [hm] at HB
  have hcv := conv_one m HB.out w
  have Hm := hide hm
  by_cases h : pl = 1
  · have H := hide (show c + 32 = m by rw [← hm, letN, if_pos h])
    have d : (pl == 1) = true := by simp [h]
    have hw := letN_add hc
    rw [H.out] at hw
    clear hm h hc
    go_enter Tryz.func105, Tryz.ntmps105
    go_wp2_with fail
    go_ret
    exact ⟨by rw [Hm.out] <;> rfl, Hl.out.alloc _⟩
  · have H : c = m := by rw [← hm, letN, if_neg h]
    have d : (pl == 1) = false := by simpa using h
    subst H
    clear hm h hc
    go_enter Tryz.func105, Tryz.ntmps105
    go_wp2_with fail
    go_ret
    exact ⟨by rw [Hm.out] <;> rfl, Hl.out.alloc _⟩
theorem contains_any (s : ByteArray) (c : Nat) (hc : c < 256) (w : World) : Calls Tryz.prog 132 #[.string s, .string (bytes [u8 c])] w fun e w' => e = .returned (.bool (hasL s.data.toList c)) ∧ w' = w := by
  refine (Tryz.strings_Contains_one s (u8 c) w).mono ?_
  rintro e w' ⟨rfl, rfl⟩
  refine ⟨?_, rfl⟩
  congr 2
  have := indexByte_has (u8 c) s.data.toList
  rw [u8_any hc] at this
  rw [Bool.eq_iff_iff, decide_eq_true_eq, this]
end Go.Proofs.YtcdfeaodfmfdnaaGreatDoor
namespace Go.Proofs.YtcdfeaodfmfdnaaGreatDoor

def r4x (i : Nat) : Int := (dirs4R.getD i (0, 0)).1
def r4y (i : Nat) : Int := (dirs4R.getD i (0, 0)).2
theorem r4_mem {i : Nat} (h : i < 4) : (r4x i, r4y i) ∈ dirs4R := by
  match i, h with
  | 0, _ => simp [r4x, r4y, dirs4R]
  | 1, _ => simp [r4x, r4y, dirs4R]
  | 2, _ => simp [r4x, r4y, dirs4R]
  | 3, _ => simp [r4x, r4y, dirs4R]
theorem r4_all {d : Int × Int} (h : d ∈ dirs4R) : ∃ i, i < 4 ∧ d = (r4x i, r4y i) := by
  unfold dirs4R at h
  simp only [List.mem_cons, List.not_mem_nil, or_false] at h
  rcases h with rfl | rfl | rfl | rfl
  · exact ⟨0, by omega, rfl⟩
  · exact ⟨1, by omega, rfl⟩
  · exact ⟨2, by omega, rfl⟩
  · exact ⟨3, by omega, rfl⟩
theorem r4_rng {i : Nat} (h : i < 4) : -1 ≤ r4x i ∧ r4x i ≤ 1 ∧ -1 ≤ r4y i ∧ r4y i ≤ 1 ∧ (r4x i ≠ 0 ∨ r4y i ≠ 0) := by
  match i, h with
  | 0, _ => decide
  | 1, _ => decide
  | 2, _ => decide
  | 3, _ => decide
/-- none from (x, y) in the first i directions; from no cell of row y ahead of x; of no row ahead of y -/
def NoD (p : Pos) (pl : Int) (n : Nat) (x y i : Nat) : Prop := ∀ j, j < i → ¬ LineR p pl n (r4x j) (r4y j) x y
def NoX (p : Pos) (pl : Int) (n : Nat) (x y : Nat) : Prop := ∀ b, b < x → NoD p pl n b y 4
def NoY (p : Pos) (pl : Int) (n : Nat) (y : Nat) : Prop := ∀ b, b < y → NoX p pl n p.w.toNat b
theorem noD_next {p : Pos} {pl : Int} {n x y i : Nat} (h : NoD p pl n x y i) (k : ¬ LineR p pl n (r4x i) (r4y i) x y) : NoD p pl n x y (i + 1) := fun j hj => by
  by_cases e : j = i
  · subst e; exact k
  · exact h j (by omega)
theorem noX_next {p : Pos} {pl : Int} {n x y : Nat} (h : NoX p pl n x y) (k : NoD p pl n x y 4) : NoX p pl n (x + 1) y := fun j hj => by
  by_cases e : j = x
  · subst e; exact k
  · exact h j (by omega)
theorem noY_next {p : Pos} {pl : Int} {n y : Nat} (h : NoY p pl n y) (k : NoX p pl n p.w.toNat y) : NoY p pl n (y + 1) := fun j hj => by
  by_cases e : j = y
  · subst e; exact k
  · exact h j (by omega)
theorem lined_none {p : Pos} (hp : PosOk p) {pl : Int} {n : Nat} (hn : 1 ≤ n) (h : NoY p pl n p.h.toNat) : hasB p pl n = false := by
  rw [← linedB_same hp pl hn]
  simp only [decide_eq_false_iff_not]
  rintro ⟨a, ha, d, hd, hl⟩
  obtain ⟨i, hi, rfl⟩ := r4_all hd
  have hs : p.cells.size = p.w.toNat * p.h.toNat := hp.len
  have ha' : a < p.w.toNat * p.h.toNat := by omega
  exact h _ (row_lt ha') _ (col_lt ha') i hi hl
theorem lined_some {p : Pos} (hp : PosOk p) {pl : Int} {n x y i : Nat} (hn : 1 ≤ n) (hx : x < p.w.toNat) (hy : y < p.h.toNat) (hi : i < 4) (h : LineR p pl n (r4x i) (r4y i) x y) : hasB p pl n = true := by
  rw [← linedB_same hp pl hn]
  simp only [decide_eq_true_eq]
  have hs : p.cells.size = p.w.toNat * p.h.toNat := hp.len
  refine ⟨y * p.w.toNat + x, by rw [hs]; exact cell_lt hx hy, _, r4_mem hi, ?_⟩
  rw [mod_cell hx, div_cell hx]
  exact h
open Classical in
noncomputable def lineB2 (p : Pos) (pl : Int) (n : Nat) (dx dy x y : Int) : Bool := decide (LineR p pl n dx dy x y)
theorem lineB2_zero {p : Pos} {pl dx dy x y : Int} : lineB2 p pl 0 dx dy x y = true := by unfold lineB2; simp [line_zero]
theorem lineB2_false {p : Pos} {pl dx dy x y : Int} {k : Nat} (h : lineB2 p pl k dx dy x y = false) : lineB2 p pl (k + 1) dx dy x y = false := by
  unfold lineB2 at *
  simp only [decide_eq_false_iff_not] at *
  exact fun h2 => h (line_more h2 (by omega))
theorem lineB2_next {p : Pos} {pl dx dy x y : Int} {k : Nat} (h : lineB2 p pl k dx dy x y = true) (h1 : AtB p (stepI x dx k) (stepI y dy k)) : lineB2 p pl (k + 1) dx dy x y = mineB (cellN p (idxN p.w (stepI x dx k) (stepI y dy k))) pl := by
  unfold lineB2 at *
  simp only [decide_eq_true_eq] at h
  rw [Bool.eq_iff_iff]
  simp only [decide_eq_true_eq]
  exact ⟨fun h2 => (h2 k (by omega)).2, fun h2 => line_next h h1 h2⟩
theorem lineB2_off {p : Pos} {pl dx dy x y : Int} {k : Nat} (h1 : ¬ AtB p (stepI x dx k) (stepI y dy k)) : lineB2 p pl (k + 1) dx dy x y = false := by
  unfold lineB2
  simp only [decide_eq_false_iff_not]
  exact fun h => h1 (h k (by omega)).1
theorem lineB2_true {p : Pos} {pl dx dy x y : Int} {k : Nat} : lineB2 p pl k dx dy x y = true ↔ LineR p pl k dx dy x y := by unfold lineB2; simp
theorem lineB2_not {p : Pos} {pl dx dy x y : Int} {k : Nat} : lineB2 p pl k dx dy x y = false ↔ ¬ LineR p pl k dx dy x y := by unfold lineB2; simp
end Go.Proofs.YtcdfeaodfmfdnaaGreatDoor
namespace Go.Proofs.YtcdfeaodfmfdnaaGreatDoor
open Go.RowKit

theorem own_eq {c : Nat} {pl : Int} (h : pl = 0 ∨ pl = 1) : (ownN c == pl) = mineB c pl := by
  rw [Bool.eq_iff_iff, beq_iff_eq]
  exact own_mine h
theorem idx4x {d : Nat} (h : d < 4) : ∀ w, (Instr.index 223 (.agg #[.int .i64 1, .int .i64 0, .int .i64 1, .int .i64 (-1)]) (.int .i64 (d : Int))).run Tryz.prog w = .ok (.int .i64 (r4x d)) w := by
  match d, h with
  | 0, _ => intro w; kernel_rfl
  | 1, _ => intro w; kernel_rfl
  | 2, _ => intro w; kernel_rfl
  | 3, _ => intro w; kernel_rfl
theorem idx4y {d : Nat} (h : d < 4) : ∀ w, (Instr.index 223 (.agg #[.int .i64 0, .int .i64 1, .int .i64 1, .int .i64 1]) (.int .i64 (d : Int))).run Tryz.prog w = .ok (.int .i64 (r4y d)) w := by
  match d, h with
  | 0, _ => intro w; kernel_rfl
  | 1, _ => intro w; kernel_rfl
  | 2, _ => intro w; kernel_rfl
  | 3, _ => intro w; kernel_rfl
set_option maxHeartbeats 4000000 in
set_option maxRecDepth 100000 in
theorem lined_any (p : Pos) (pl l : Int) (W : World) (hp : PosOk p) (hpl : pl = 0 ∨ pl = 1) (l1 : 1 ≤ l) (l8 : l ≤ 8) :
    Calls Tryz.prog 133 #[.agg #[.int .i64 p.w, .int .i64 p.h, .string p.cells, .int .i64 p.turn, .string p.h0, .string p.h1], .int .i64 pl, .int .i64 l] W fun e w' => e = .returned (.bool (hasB p pl l.toNat)) ∧ Later W w' := by
  obtain ⟨n, m, hn, hm, n1, n8, m1, m8, hsz, h64⟩ := pos_wh hp
  have Hp := hide hp
  have Hn := hide hn
  have Hm := hide hm
  have Hpl := hide hpl
  have Hown := hide (fun c w => owner_any c w)
  have hbp := Blk.new W 24 #[.int .i64 p.w, .int .i64 p.h, .string p.cells, .int .i64 p.turn, .string p.h0, .string p.h1]
  rw [hn, hm] at hbp ⊢
  have Hbp := hide hbp
  have Hl0 := hide (show Later W (W.alloc (.cells #[.int .i64 n, .int .i64 m, .string p.cells, .int .i64 p.turn, .string p.h0, .string p.h1] 24)) from Later.rfl.alloc _)
  obtain ⟨q, hq⟩ : ∃ q, hasB p pl l.toNat = q := ⟨_, rfl⟩
  have Hnone := hide (fun (h : NoY p pl l.toNat p.h.toNat) => hq.symm.trans (lined_none hp (by omega) h))
  have Hsome := hide (fun (x y i : Nat) (hx : x < p.w.toNat) (hy : y < p.h.toNat) (hi : i < 4) (h : LineR p pl l.toNat (r4x i) (r4y i) x y) => hq.symm.trans (lined_some hp (by omega) hx hy hi h))
  rw [hq]
  rw [hm] at Hnone
  rw [hn, hm] at Hsome
  simp only [Int.toNat_natCast] at Hnone Hsome
  clear hp hn hm hsz hbp hq hpl
  go_enter Tryz.func133, Tryz.ntmps133
  go_upto_region 2 with (fail)
  go_loopw [7] (fun i wr => ∃ y : Nat, y ≤ m ∧ i = .int .i64 y ∧ NoY p pl l.toNat y ∧ Blk wr W.heap.size 24 #[.int .i64 n, .int .i64 m, .string p.cells, .int .i64 p.turn, .string p.h0, .string p.h1] ∧ Later W wr) (fun i _ => m - (intOf i).toNat)
  case atStart => exact ⟨0, by omega, rfl, fun b h => by omega, Hbp.out, Hl0.out⟩
  case round =>
    rename World => wr
    obtain ⟨y, hy, rfl, hno, hb, hw⟩ := hrel
    have Hno := hide hno
    have Hb := hide hb
    have Hw := hide hw
    obtain ⟨q0, q1, q2, q3, q4, q5⟩ := hb.pos6
    clear hno hb hw Hbp Hl0
    by_cases hlt : y < m
    · go_upto_region 5 with (fail)
      clear q0 q1 q2 q3 q4 q5
      go_loopw [8] (fun i wi => ∃ x : Nat, x ≤ n ∧ i = .int .i64 x ∧ NoX p pl l.toNat x y ∧ Blk wi W.heap.size 24 #[.int .i64 n, .int .i64 m, .string p.cells, .int .i64 p.turn, .string p.h0, .string p.h1] ∧ Later W wi) (fun i _ => n - (intOf i).toNat)
      case atStart => exact ⟨0, by omega, rfl, fun b h => by omega, Hb.out, Hw.out⟩
      case round =>
        rename World => wi
        obtain ⟨x, hx, rfl, hnx, hb, hw⟩ := hrel
        have Hnx := hide hnx
        have Hb := hide hb
        have Hw := hide hw
        obtain ⟨q0, q1, q2, q3, q4, q5⟩ := hb.pos6
        clear hnx hb hw
        by_cases hlx : x < n
        · go_upto_region 8 with (fail)
          clear q0 q1 q2 q3 q4 q5
          go_loopw [9] (fun i wj => ∃ d : Nat, d ≤ 4 ∧ i = .int .i64 d ∧ NoD p pl l.toNat x y d ∧ Blk wj W.heap.size 24 #[.int .i64 n, .int .i64 m, .string p.cells, .int .i64 p.turn, .string p.h0, .string p.h1] ∧ Later W wj) (fun i _ => 4 - (intOf i).toNat)
          case atStart => exact ⟨0, by omega, rfl, fun b h => by omega, Hb.out, Hw.out⟩
          case round =>
            rename World => wj
            obtain ⟨d, hd, rfl, hnd, hb, hw⟩ := hrel
            have Hnd := hide hnd
            have Hb := hide hb
            have Hw := hide hw
            clear hnd hb hw
            by_cases hld : d < 4
            · obtain ⟨r1, r2, r3, r4, r5⟩ := r4_rng hld
              have Hr5 := hide r5
              have ek : decide ((d : Int) < 4) = true := decide_eq_true (by omega)
              clear r5
              go_upto_region 10 with (fail)
              go_cut [10, 11] (fun a b w' => a = .int .i64 (r4x d) ∧ b = .int .i64 (r4y d) ∧ Blk w' W.heap.size 24 #[.int .i64 n, .int .i64 m, .string p.cells, .int .i64 p.turn, .string p.h0, .string p.h1] ∧ Later W w')
              case first =>
                have i1 := idx4x hld
                have i2 := idx4y hld
                go_quiet (fail)
                go_wp2_with fail
                go_meet
                case rel => exact ⟨rfl, rfl, Hb.out.drewN _, Hw.out.drewN _⟩
              case rest =>
                obtain ⟨rfl, rfl, hb, hw⟩ := hcut
                have Hb := hide hb
                have Hw := hide hw
                clear hb hw
                go_upto_region 13 with (fail)
                obtain ⟨dx, hdx⟩ : ∃ dx, r4x d = dx := ⟨_, rfl⟩
                obtain ⟨dy, hdy⟩ : ∃ dy, r4y d = dy := ⟨_, rfl⟩
                rw [hdx] at r1 r2 Hr5 ⊢
                rw [hdy] at r3 r4 Hr5 ⊢
                have Hdx := hide hdx
                have Hdy := hide hdy
                clear hdx hdy
                go_loopw [12, 13] (fun b c wk => ∃ k : Nat, (k : Int) ≤ l ∧ c = .int .i64 k ∧ b = .bool (lineB2 p pl k dx dy x y) ∧ Blk wk W.heap.size 24 #[.int .i64 n, .int .i64 m, .string p.cells, .int .i64 p.turn, .string p.h0, .string p.h1] ∧ Later W wk) (fun _ c _ => l.toNat - (intOf c).toNat)
                case atStart => exact ⟨0, by omega, rfl, by rw [lineB2_zero], Hb.out, Hw.out⟩
                case round =>
                  rename World => wk
                  obtain ⟨k, hk, rfl, rfl, hb, hw⟩ := hrel
                  have Hb := hide hb
                  have Hw := hide hw
                  obtain ⟨q0, q1, q2, q3, q4, q5⟩ := hb.pos6
                  clear hb hw
                  by_cases hlk : (k : Int) < l
                  · have kd1 : -8 ≤ (k : Int) * dx ∧ (k : Int) * dx ≤ 8 := by
                      have h1 : (k : Int) * (-1) ≤ (k : Int) * dx := Int.mul_le_mul_of_nonneg_left r1 (by omega)
                      have h2 : (k : Int) * dx ≤ (k : Int) * 1 := Int.mul_le_mul_of_nonneg_left r2 (by omega)
                      omega
                    have kd2 : -8 ≤ (k : Int) * dy ∧ (k : Int) * dy ≤ 8 := by
                      have h1 : (k : Int) * (-1) ≤ (k : Int) * dy := Int.mul_le_mul_of_nonneg_left r3 (by omega)
                      have h2 : (k : Int) * dy ≤ (k : Int) * 1 := Int.mul_le_mul_of_nonneg_left r4 (by omega)
                      omega
                    obtain ⟨kd1, kd1'⟩ := kd1
                    obtain ⟨kd2, kd2'⟩ := kd2
                    obtain ⟨b, hbb⟩ : ∃ b, lineB2 p pl k dx dy x y = b := ⟨_, rfl⟩
                    rw [hbb]
                    cases b
                    · have Hl := hide (lineB2_false hbb)
                      clear hbb
                      go_wp2_with fail
                      go_roundw
                      case rel => exact ⟨k + 1, by omega, by go_num, by rw [Hl.out], Hb.out, Hw.out⟩
                      case measure => simp [intOf]; omega
                    · have Hon := hide (fun h => lineB2_next (p := p) hbb h)
                      have Hoff := hide (fun h => lineB2_off (p := p) (pl := pl) (dx := dx) (dy := dy) (x := x) (y := y) (k := k) h)
                      clear hbb
                      rw [show stepI (x : Int) dx k = (x : Int) + (k : Int) * dx from rfl, show stepI (y : Int) dy k = (y : Int) + (k : Int) * dy from rfl] at Hon Hoff
                      obtain ⟨sx, hsx⟩ : ∃ sx : Int, (x : Int) + (k : Int) * dx = sx := ⟨_, rfl⟩
                      obtain ⟨sy, hsy⟩ : ∃ sy : Int, (y : Int) + (k : Int) * dy = sy := ⟨_, rfl⟩
                      rw [hsx, hsy] at Hon Hoff
                      by_cases hin : AtB p sx sy
                      · obtain ⟨i, i1, i2, i3, i4, i5, i6⟩ := cell_at Hp.out Hn.out hin
                        have Hl0 := Hon.out hin
                        rw [← i6, ← own_eq Hpl.out] at Hl0
                        obtain ⟨o1, o2, o3, o4⟩ := hin
                        rw [Hn.out] at o2
                        rw [Hm.out] at o4
                        have d1 : decide (sx ≥ 0) = true := decide_eq_true o1
                        have d2 : decide (sx < (n : Int)) = true := decide_eq_true o2
                        have d3 : decide (sy ≥ 0) = true := decide_eq_true o3
                        have d4 : decide (sy < (m : Int)) = true := decide_eq_true o4
                        have j1 : (0 : Int) ≤ (i : Int) := by omega
                        have j2 : (i : Int) < (p.cells.size : Int) := by omega
                        have Hcall := hide (fun w => Hown.out p.cells[i].toNat w)
                        have Hl := hide Hl0
                        have mn : min (i : Int) ((p.cells.size : Int) - 1) = (i : Int) := by omega
                        clear i6 i2 Hl0 Hon Hoff o1 o2 o3 o4
                        go_wp2_with (go_at_call 134; refine (Hcall.out _).mono ?_; rintro e w' ⟨rfl, rfl⟩)
                        go_roundw
                        case rel => exact ⟨k + 1, by omega, by go_num, by rw [Hl.out], Hb.out, Hw.out⟩
                        case measure => simp [intOf]; omega
                      · have Hl := hide (Hoff.out hin)
                        have Hin := hide (show ¬ (0 ≤ sx ∧ sx < (n : Int) ∧ 0 ≤ sy ∧ sy < (m : Int)) from fun ⟨o1, o2, o3, o4⟩ => hin ⟨o1, by rw [Hn.out]; exact o2, o3, by rw [Hm.out]; exact o4⟩)
                        clear hin Hon Hoff
                        by_cases o1 : 0 ≤ sx
                        · have d1 : decide (sx ≥ 0) = true := decide_eq_true o1
                          by_cases o2 : sx < (n : Int)
                          · have d2 : decide (sx < (n : Int)) = true := decide_eq_true o2
                            by_cases o3 : 0 ≤ sy
                            · have d3 : decide (sy ≥ 0) = true := decide_eq_true o3
                              have o4 : ¬ sy < (m : Int) := fun o4 => Hin.out ⟨o1, o2, o3, o4⟩
                              have d4 : decide (sy < (m : Int)) = false := decide_eq_false o4
                              clear o1 o2 o3 o4
                              go_wp2_with fail
                              go_roundw
                              case rel => exact ⟨k + 1, by omega, by go_num, by rw [Hl.out], Hb.out, Hw.out⟩
                              case measure => simp [intOf]; omega
                            · have d3 : decide (sy ≥ 0) = false := decide_eq_false o3
                              clear o1 o2 o3
                              go_wp2_with fail
                              go_roundw
                              case rel => exact ⟨k + 1, by omega, by go_num, by rw [Hl.out], Hb.out, Hw.out⟩
                              case measure => simp [intOf]; omega
                          · have d2 : decide (sx < (n : Int)) = false := decide_eq_false o2
                            clear o1 o2
                            go_wp2_with fail
                            go_roundw
                            case rel => exact ⟨k + 1, by omega, by go_num, by rw [Hl.out], Hb.out, Hw.out⟩
                            case measure => simp [intOf]; omega
                        · have d1 : decide (sx ≥ 0) = false := decide_eq_false o1
                          clear o1
                          go_wp2_with fail
                          go_roundw
                          case rel => exact ⟨k + 1, by omega, by go_num, by rw [Hl.out], Hb.out, Hw.out⟩
                          case measure => simp [intOf]; omega
                  · obtain rfl : l = (k : Int) := by omega
                    rw [Int.toNat_natCast] at *
                    obtain ⟨b, hbb⟩ : ∃ b, lineB2 p pl k dx dy x y = b := ⟨_, rfl⟩
                    rw [hbb]
                    cases b
                    · have Hr := hide (noD_next Hnd.out (by rw [Hdx.out, Hdy.out]; exact lineB2_not.1 hbb))
                      clear hbb
                      go_wp2_with fail
                      go_roundw
                      case rel => exact ⟨d + 1, by omega, by go_num, Hr.out, Hb.out, Hw.out⟩
                      case measure => simp [intOf]; omega
                    · have Hr := hide (Hsome.out x y d hlx hlt hld (by rw [Hdx.out, Hdy.out]; exact lineB2_true.1 hbb))
                      clear hbb
                      go_wp2_with fail
                      go_ret
                      exact ⟨by rw [Hr.out] <;> rfl, Hw.out⟩
            · obtain rfl : d = 4 := by omega
              have Hr := hide (noX_next Hnx.out Hnd.out)
              go_wp2_with fail
              go_roundw
              case rel => exact ⟨x + 1, by omega, by go_num, Hr.out, Hb.out, Hw.out⟩
              case measure => simp [intOf]; omega
        · obtain rfl : x = n := by omega
          have Hr := hide (noY_next Hno.out (by rw [Hn.out]; exact Hnx.out))
          go_wp2_with fail
          go_roundw
          case rel => exact ⟨y + 1, by omega, by go_num, Hr.out, Hb.out, Hw.out⟩
          case measure => simp [intOf]; omega
    · obtain rfl : y = m := by omega
      have Hr := hide (Hnone.out Hno.out)
      go_wp2_with fail
      go_ret
      exact ⟨by rw [Hr.out] <;> rfl, Hw.out⟩
end Go.Proofs.YtcdfeaodfmfdnaaGreatDoor
