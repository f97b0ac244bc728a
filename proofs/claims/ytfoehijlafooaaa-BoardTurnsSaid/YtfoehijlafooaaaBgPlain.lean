/- For gamekeep.BoardGroup: contracts at positions; exchanged twice it is as it was -/
import Derived.Test.YtfoehijlafooaaaBoardLeast
import Derived.Test.YtfoehijlafooaaaTurnPlain
import Derived.Test.YtfoehijlafooaaaBits
namespace Go.Proofs.Ytfoehijlafooaaa
open Go.RowKit

theorem pos_ext : ∀ x y : Pos, x.w = y.w → x.h = y.h → x.cells = y.cells → x.turn = y.turn → x.h0 = y.h0 → x.h1 = y.h1 → x = y := by
  rintro ⟨⟩ ⟨⟩ h1 h2 h3 h4 h5 h6
  simp only at *
  subst h1 h2 h3 h4 h5 h6
  rfl
theorem otherN_otherN (n : Nat) : otherN (otherN n) = n := by
  unfold otherN
  by_cases hu : upB n = true
  · have h := upB_lt hu
    rw [if_pos hu, if_neg (by rw [upB_f (by omega)]; simp), if_pos (lowB_t (by omega) (by omega))]
    omega
  · rw [if_neg hu]
    by_cases hl : lowB n = true
    · have h := lowB_lt hl
      rw [if_pos hl, if_pos (upB_t (by omega) (by omega))]
      omega
    · rw [if_neg hl, if_neg hu, if_neg hl]
theorem otherL_len (l : List UInt8) : (otherL l).length = l.length := by simp [otherL]
theorem otherL_otherL (l : List UInt8) : otherL (otherL l) = l := by
  apply List.ext_getElem
  · simp [otherL]
  · intro j h1 h2
    apply UInt8.toNat_inj.1
    rw [otherL_get (by rw [otherL_len]; exact h2), otherL_get h2, otherN_otherN]
theorem otherL_turn {s a b : Bool} {w h : Nat} {l : List UInt8} (hl : l.length = w * h) : otherL (turnCells s a b w h l) = turnCells s a b w h (otherL l) := by
  apply List.ext_getElem
  · simp [otherL]
  · intro j h1 h2
    have hj : j < l.length := by simpa [otherL] using h1
    rw [turnCells_get (by rw [otherL_len]; exact hl) (by rw [otherL_len]; exact hj)]
    simp only [otherL, List.getElem_map]
    rw [turnCells_get hl hj]
theorem turn_none {p : Pos} (hp : PosOk p) : turnP p 0 = p := by
  refine pos_ext _ _ rfl rfl (bytes_eq ?_) rfl rfl rfl
  show turnCells false false false p.w.toNat p.h.toNat p.cells.data.toList = p.cells.data.toList
  have hl := hp.len
  apply List.ext_getElem
  · simp
  · intro j h1 h2
    rw [turnCells_get hl h2]
    congr 1
    simp only [srcI, oW, oH, flipN, Bool.false_eq_true, if_false]
    exact cell_back
theorem exch_ok {p : Pos} (hp : PosOk p) : PosOk (exchP p) := by
  have ht := turn_ok hp 2
  obtain ⟨a1, a2, a3, a4, a5, a6, a7, a8, a9, a10⟩ := hp
  obtain ⟨b1, b2, b3, b4, b5, b6, b7, b8, b9, b10⟩ := ht
  refine ⟨a1, a2, a3, a4, ?_, by simp only [exchP]; omega, by simp only [exchP]; omega, a9, a8, ?_⟩
  · have : (exchP p).cells.size = (turnP p 2).cells.size := by
      simp only [exchP, bytes_size, otherL_len]; rfl
    rw [this]; exact b5
  · intro j hj
    have hj2 : j < (turnP p 2).cells.data.toList.length := by simpa [exchP, otherL] using hj
    have h1 := b10 j hj2
    show cellB ((otherL (turnP p 2).cells.data.toList)[j]'(by rw [otherL_len]; exact hj2)).toNat = true
    rw [otherL_get hj2]
    revert h1
    generalize (turnP p 2).cells.data.toList[j].toNat = n
    intro h1
    simp only [cellB, decide_eq_true_eq] at h1 ⊢
    unfold otherN
    by_cases hu : upB n = true
    · have := upB_lt hu
      rw [if_pos hu]; exact .inr (.inr (lowB_t (by omega) (by omega)))
    · rw [if_neg hu]
      by_cases hl : lowB n = true
      · have := lowB_lt hl
        rw [if_pos hl]; exact .inr (.inl (upB_t (by omega) (by omega)))
      · rw [if_neg hl]; exact h1
theorem exch_exch {p : Pos} (hp : PosOk p) : exchP (exchP p) = p := by
  have hl := hp.len
  have h2 := turn_two hp (a := 2) (b := 2) (by omega) (by omega)
  have h0 : compK 2 2 = 0 := by decide
  rw [h0, turn_none hp] at h2
  have hc := congrArg (fun q : Pos => q.cells.data.toList) h2
  refine pos_ext _ _ rfl rfl (bytes_eq ?_) (by simp only [exchP]; omega) rfl rfl
  show otherL (turnCells false false true p.w.toNat p.h.toNat (otherL (turnCells false false true p.w.toNat p.h.toNat p.cells.data.toList))) = p.cells.data.toList
  rw [← otherL_turn (by rw [turnCells_len, hl]), otherL_otherL]
  exact hc

section
variable (w h t : Int) (c h0 h1 : ByteArray) (W : World)
theorem turned_at (hp : PosOk ⟨w, h, c, t, h0, h1⟩) (k : Nat) (hk : k < 8) :
    Calls Try.prog 18 #[.agg #[.int .i64 w, .int .i64 h, .string c, .int .i64 t, .string h0, .string h1], .int .i64 k] W fun e w' => e = .returned (.tuple #[posV (turnP ⟨w, h, c, t, h0, h1⟩ k), .int .i64 0]) ∧ Below W.heap.size W w' := by
  obtain ⟨wn, rfl⟩ : ∃ n : Nat, w = n := ⟨w.toNat, by have := hp.w1; simp only at this; omega⟩
  obtain ⟨hn, rfl⟩ : ∃ n : Nat, h = n := ⟨h.toNat, by have := hp.h1; simp only at this; omega⟩
  exact turned_in wn hn t c h0 h1 W hp k hk
theorem round_at (hp : PosOk ⟨w, h, c, t, h0, h1⟩) (k : Nat) (hk : k < 8) :
    Calls Try.prog 23 #[.agg #[.int .i64 w, .int .i64 h, .string c, .int .i64 t, .string h0, .string h1], .int .i64 k] W fun e w' => e = .returned (posV (turnP ⟨w, h, c, t, h0, h1⟩ k)) ∧ Below W.heap.size W w' := by
  obtain ⟨wn, rfl⟩ : ∃ n : Nat, w = n := ⟨w.toNat, by have := hp.w1; simp only at this; omega⟩
  obtain ⟨hn, rfl⟩ : ∃ n : Nat, h = n := ⟨h.toNat, by have := hp.h1; simp only at this; omega⟩
  exact round_in wn hn t c h0 h1 W hp k hk
theorem swapped_at (hp : PosOk ⟨w, h, c, t, h0, h1⟩) :
    Calls Try.prog 19 #[.agg #[.int .i64 w, .int .i64 h, .string c, .int .i64 t, .string h0, .string h1]] W fun e w' => e = .returned (.tuple #[posV (exchP ⟨w, h, c, t, h0, h1⟩), .int .i64 0]) ∧ Below W.heap.size W w' := by
  obtain ⟨wn, rfl⟩ : ∃ n : Nat, w = n := ⟨w.toNat, by have := hp.w1; simp only at this; omega⟩
  obtain ⟨hn, rfl⟩ : ∃ n : Nat, h = n := ⟨h.toNat, by have := hp.h1; simp only at this; omega⟩
  exact swapped_in wn hn t c h0 h1 W hp
theorem exch_at (hp : PosOk ⟨w, h, c, t, h0, h1⟩) :
    Calls Try.prog 22 #[.agg #[.int .i64 w, .int .i64 h, .string c, .int .i64 t, .string h0, .string h1]] W fun e w' => e = .returned (posV (exchP ⟨w, h, c, t, h0, h1⟩)) ∧ Below W.heap.size W w' := by
  obtain ⟨wn, rfl⟩ : ∃ n : Nat, w = n := ⟨w.toNat, by have := hp.w1; simp only at this; omega⟩
  obtain ⟨hn, rfl⟩ : ∃ n : Nat, h = n := ⟨h.toNat, by have := hp.h1; simp only at this; omega⟩
  exact exch_in wn hn t c h0 h1 W hp
end

theorem run_eq_hands (a0 a1 b0 b1 : ByteArray) (w : World) : (Op.equalIn 9999 34 (.agg #[.string a0, .string a1]) (.agg #[.string b0, .string b1])).run Try.prog w = .ok (a0.toList == b0.toList && a1.toList == b1.toList) w := by
  rw [show (9999 : Nat) = 9998 + 1 from rfl]
  unfold Op.equalIn
  simp only [Sem.run_bind, run_underlying Try.underlying34, Result.andThen_ok]
  go_simp
  rw [show List.range' 0 2 = [0, 1] from rfl]
  simp only [List.forIn_cons, List.forIn_nil]
  go_simp
  by_cases h0 : a0.toList = b0.toList <;> by_cases h1 : a1.toList = b1.toList <;> simp [h0, h1]

def cells8 : Array Value := #[.int .i64 0, .int .i64 1, .int .i64 2, .int .i64 3, .int .i64 4, .int .i64 5, .int .i64 6, .int .i64 7]
theorem least_at (w h t : Int) (c h0 h1 : ByteArray) (W : World) (hp : PosOk ⟨w, h, c, t, h0, h1⟩) (hc9 : c.size ≤ 9223372036854775807) (g : Nat) (hA : Blk W g 3 cells8) :
    Calls Try.prog 20 #[.agg #[.int .i64 w, .int .i64 h, .string c, .int .i64 t, .string h0, .string h1], .slice (some ⟨g, 0, none⟩) 8 8] W fun e w' =>
      e = .returned (.tuple #[posV (turnP ⟨w, h, c, t, h0, h1⟩ (leastK ⟨w, h, c, t, h0, h1⟩ all8)), .int .i64 (leastK ⟨w, h, c, t, h0, h1⟩ all8), .int .i64 0]) ∧ Below W.heap.size W w' := by
  have l0 : h0.size ≤ 9223372036854775807 := by have := (handB_true.1 hp.hand0).1; have e : h0.data.toList.length = h0.size := rfl; simp only at this; omega
  have l1 : h1.size ≤ 9223372036854775807 := by have := (handB_true.1 hp.hand1).1; have e : h1.data.toList.length = h1.size := rfl; simp only at this; omega
  have hC : Cells W W.heap.size (some ⟨g, 0, none⟩) (ints [0, 1, 2, 3, 4, 5, 6, 7]) := fun _ => ⟨g, 0, rfl, hA.lt, fun k hk => by
    simp only [ints_length, List.length_cons, List.length_nil] at hk
    rw [Nat.zero_add, hA.cell]
    match k, hk with
    | 0, _ => rfl
    | 1, _ => rfl
    | 2, _ => rfl
    | 3, _ => rfl
    | 4, _ => rfl
    | 5, _ => rfl
    | 6, _ => rfl
    | 7, _ => rfl⟩
  exact (least_any w h t c h0 h1 (some ⟨g, 0, none⟩) 8 [0, 1, 2, 3, 4, 5, 6, 7] W hc9 l0 l1 (by simp) hC).mono fun e w' ⟨_, h2, h3⟩ => ⟨h2 ⟨by simp, hp, by simp⟩, h3⟩
theorem pos_csize {p : Pos} (hp : PosOk p) : p.cells.size ≤ 9223372036854775807 := by
  have h1 := hp.size
  have h2 := mul_in hp.w1 hp.w8 hp.h1 hp.h8
  omega
end Go.Proofs.Ytfoehijlafooaaa
