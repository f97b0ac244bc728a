/- moves.reached -/
import Derived.Test.YtdfegpohmaideaaGreatMvLacks
import Derived.Test.YtdfegpohmaideaaGreatRuCheck2
namespace Go.Proofs.YtdfegpohmaideaaGreat
open Go.RowKit

theorem extract_list (s : ByteArray) (a b : Nat) : (s.extract a b).data.toList = (s.data.toList.drop a).take (b - a) := by
  rw [ByteArray.data_extract, Array.toList_extract, List.extract_eq_take_drop]
theorem row_first (p : Pos) {n : Nat} (hn : p.w = n) : (p.cells.extract 0 n).data.toList = p.cells.data.toList.take p.w.toNat := by
  rw [extract_list, hn]
  simp
theorem row_last (p : Pos) {n : Nat} (hn : p.w = n) : (p.cells.extract (p.cells.size - n) p.cells.size).data.toList = p.cells.data.toList.drop (p.cells.size - p.w.toNat) := by
  rw [extract_list, hn, Int.toNat_natCast]
  apply List.take_of_length_le
  rw [List.length_drop]
  have : p.cells.data.toList.length = p.cells.size := rfl
  omega
theorem pos_w {p : Pos} (hp : PosOk p) : ∃ n : Nat, p.w = n ∧ 1 ≤ n ∧ n ≤ 8 ∧ n ≤ p.cells.size ∧ p.cells.size ≤ 64 := by
  have h1 := hp.w1
  have h2 := hp.w8
  have h3 := hp.h1
  have h4 := hp.size
  have h5 := (pos_small hp).1
  refine ⟨p.w.toNat, by omega, by omega, by omega, ?_, h5⟩
  have : p.w * 1 ≤ p.w * p.h := Int.mul_le_mul_of_nonneg_left h3 (by omega)
  omega
theorem rowOf_eq {p : Pos} {n : Nat} (hn : p.w = n) (pl : Int) : rowOf p pl = if pl = 0 then (p.cells.extract (p.cells.size - n) p.cells.size).data.toList else (p.cells.extract 0 n).data.toList := by
  unfold rowOf; rw [row_first p hn, row_last p hn]
set_option maxHeartbeats 1000000 in
set_option maxRecDepth 20000 in
theorem reached_any (r : RulesD) (A : Option Addr) (cp : Nat) (p : Pos) (pl : Int) (W : World) (hp : PosOk p) (hl : CapOk r.reach) :
    Calls Tryz.prog 60 #[.agg #[.int .i64 r.start.w, .int .i64 r.start.h, .string r.start.cells, .int .i64 r.start.turn, .string r.start.h0, .string r.start.h1, .slice A r.pieces.length cp, .bool r.drops, .int .u8 r.lose, .int .i64 r.line, .int .u8 r.reach, .bool r.stuck, .int .i64 r.plies], .agg #[.int .i64 p.w, .int .i64 p.h, .string p.cells, .int .i64 p.turn, .string p.h0, .string p.h1], .int .i64 pl] W fun e w' => e = .returned (.bool (reachB r p pl)) ∧ Later W w' := by
  have Hlb := hide (show Later W ((W.alloc (.cells #[.int .i64 r.start.w, .int .i64 r.start.h, .string r.start.cells, .int .i64 r.start.turn, .string r.start.h0, .string r.start.h1, .slice A r.pieces.length cp, .bool r.drops, .int .u8 r.lose, .int .i64 r.line, .int .u8 r.reach, .bool r.stuck, .int .i64 r.plies] 27)).alloc (.cells #[.int .i64 p.w, .int .i64 p.h, .string p.cells, .int .i64 p.turn, .string p.h0, .string p.h1] 24)) from (Later.rfl.alloc _).alloc _)
  obtain ⟨n, hn, n1, n8, nc, c64⟩ := pos_w hp
  have hrow := rowOf_eq hn pl
  obtain ⟨v, hv⟩ : ∃ v, reachB r p pl = v := ⟨_, rfl⟩
  rw [hv]
  rw [hn] at Hlb ⊢
  clear hp hn
  by_cases h0 : r.reach = 0
  · have d1 : ((r.reach : Int) != 0) = false := by simp [h0]
    have Hr := hide (show v = false by rw [← hv]; simp [reachB, h0])
    clear h0 hl hrow hv
    by_cases hpl : pl = 0
    · have d2 : (pl == 0) = true := by simp [hpl]
      clear hpl
      go_enter Tryz.func60, Tryz.ntmps60
      go_wp2_with fail
      go_ret
      exact ⟨by rw [Hr.out] <;> rfl, Hlb.out⟩
    · have d2 : (pl == 0) = false := by simpa using hpl
      clear hpl
      go_enter Tryz.func60, Tryz.ntmps60
      go_wp2_with fail
      go_ret
      exact ⟨by rw [Hr.out] <;> rfl, Hlb.out⟩
  · have hu : upB r.reach = true := by
      rcases hl with h | h
      · exact absurd h h0
      · exact h
    have d1 : ((r.reach : Int) != 0) = true := by simp; omega
    have hlet := fun w => letter_any r.reach pl w
    rw [letG_up hu] at hlet
    have hx := fun l => index_pos (l := l) (letN_lt hu pl)
    have hr : v = hasL (rowOf p pl) (letN r.reach pl) := by rw [← hv]; simp [reachB, h0]
    obtain ⟨q, hq⟩ : ∃ q, letN r.reach pl = q := ⟨_, rfl⟩
    rw [hq] at hlet hr
    simp only [hq] at hx
    have Hlet := hide hlet
    rw [hrow] at hr
    clear hlet hq h0 hl hu hrow hv
    by_cases hpl : pl = 0
    · rw [if_pos hpl] at hr
      have d2 : (pl == 0) = true := by simp [hpl]
      have hxx := hx (p.cells.extract (p.cells.size - n) p.cells.size).data.toList
      have hcall := fun w => Tryz.strings_IndexByte (p.cells.extract (p.cells.size - n) p.cells.size) q w
      obtain ⟨k, hk⟩ : ∃ k, Lib.indexByte (p.cells.extract (p.cells.size - n) p.cells.size).data.toList ((q : Int).toNat.toUInt8) = k := ⟨_, rfl⟩
      rw [hk, ← hr] at hxx
      simp only [hk] at hcall
      have Hcall := hide hcall
      clear hpl hx hk hr hcall
      go_enter Tryz.func60, Tryz.ntmps60
      go_wp2_with (first | (go_at_call 63; refine (Hlet.out _).mono ?_; rintro e w' ⟨rfl, hw'⟩; rw [hw']; clear hw') | (go_at_call 38; refine (Hcall.out _).mono ?_; rintro e w' ⟨rfl, hw'⟩; rw [hw']; clear hw'))
      go_ret
      exact ⟨rfl, Hlb.out⟩
    · rw [if_neg hpl] at hr
      have d2 : (pl == 0) = false := by simpa using hpl
      have hxx := hx (p.cells.extract 0 n).data.toList
      have hcall := fun w => Tryz.strings_IndexByte (p.cells.extract 0 n) q w
      obtain ⟨k, hk⟩ : ∃ k, Lib.indexByte (p.cells.extract 0 n).data.toList ((q : Int).toNat.toUInt8) = k := ⟨_, rfl⟩
      rw [hk, ← hr] at hxx
      simp only [hk] at hcall
      have Hcall := hide hcall
      clear hpl hx hk hr hcall
      go_enter Tryz.func60, Tryz.ntmps60
      go_wp2_with (first | (go_at_call 63; refine (Hlet.out _).mono ?_; rintro e w' ⟨rfl, hw'⟩; rw [hw']; clear hw') | (go_at_call 38; refine (Hcall.out _).mono ?_; rintro e w' ⟨rfl, hw'⟩; rw [hw']; clear hw'))
      go_ret
      exact ⟨rfl, Hlb.out⟩
end Go.Proofs.YtdfegpohmaideaaGreat
