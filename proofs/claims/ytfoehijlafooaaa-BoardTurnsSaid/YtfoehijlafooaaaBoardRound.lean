/- gameref.Round, of anything right; the other player's letters -/
import Derived.Test.YtfoehijlafooaaaBoardRoundB
import Derived.Test.YtfoehijlafooaaaBoardTurn
namespace Go.Proofs.Ytfoehijlafooaaa
open Go.RowKit

theorem round_in (w h : Nat) (t : Int) (c h0 h1 : ByteArray) (W : World) (hp : PosOk ⟨w, h, c, t, h0, h1⟩) (k : Nat) (hk : k < 8) :
    Calls Try.prog 23 #[.agg #[.int .i64 w, .int .i64 h, .string c, .int .i64 t, .string h0, .string h1], .int .i64 k] W fun e w' => e = .returned (posV (turnP ⟨w, h, c, t, h0, h1⟩ k)) ∧ Below W.heap.size W w' := by
  cases hs : sBit k
  · exact round_false w h t c h0 h1 W hp k hk hs
  · exact round_true w h t c h0 h1 W hp k hk hs

/-- the other player's letter -/
def otherN (n : Nat) : Nat := if upB n then n + 32 else if lowB n then n - 32 else n
theorem xor32 (n : Nat) (h : upB n = true ∨ lowB n = true) : bits .xor .u8 (n : Int) 32 = (otherN n : Int) := by
  have key : ∀ m : Nat, m < 123 → (upB m = true ∨ lowB m = true) → bits .xor .u8 (m : Int) 32 = (otherN m : Int) := by decide +kernel
  refine key n ?_ h
  rcases h with h | h
  · have := upB_lt h; omega
  · have := lowB_lt h; omega
theorem otherN_lt {n : Nat} (h : n < 256) : otherN n < 256 := by
  unfold otherN
  split
  · rename_i hu; have := upB_lt hu; omega
  · split <;> omega

set_option maxHeartbeats 400000 in
theorem other_any (n : Nat) (w : World) : Calls Try.prog 47 #[.int .u8 n] w fun e w' => e = .returned (.int .u8 (otherN n)) ∧ w' = w := by
  have Hu := hide fun n W => upper_any n W
  have Hl := hide fun n W => lower_any n W
  obtain ⟨u, hu⟩ : ∃ u, upB n = u := ⟨_, rfl⟩
  obtain ⟨l, hl⟩ : ∃ l, lowB n = l := ⟨_, rfl⟩
  obtain ⟨m, hm⟩ : ∃ m, otherN n = m := ⟨_, rfl⟩
  cases u
  · cases l
    · have hm2 := hide (show otherN n = n by simp [otherN, hu, hl])
      clear hm
      go_enter Try.func47, Try.ntmps47
      go_wp2_with (first | (go_at_call 74; refine (Hu.out _ _).mono ?_; rintro e w' ⟨rfl, rfl⟩) | (go_at_call 75; refine (Hl.out _ _).mono ?_; rintro e w' ⟨rfl, rfl⟩))
      go_ret
      exact ⟨by rw [hm2.out] <;> rfl, rfl⟩
    · have hx := xor32 n (.inr hl)
      rw [hm] at hx
      have hm2 := hide hm
      clear hm
      go_enter Try.func47, Try.ntmps47
      go_wp2_with (first | (go_at_call 74; refine (Hu.out _ _).mono ?_; rintro e w' ⟨rfl, rfl⟩) | (go_at_call 75; refine (Hl.out _ _).mono ?_; rintro e w' ⟨rfl, rfl⟩))
      go_ret
      exact ⟨by rw [hm2.out] <;> rfl, rfl⟩
  · have hx := xor32 n (.inl hu)
    rw [hm] at hx
    have hm2 := hide hm
    clear hm hl
    go_enter Try.func47, Try.ntmps47
    go_wp2_with (first | (go_at_call 74; refine (Hu.out _ _).mono ?_; rintro e w' ⟨rfl, rfl⟩) | (go_at_call 75; refine (Hl.out _ _).mono ?_; rintro e w' ⟨rfl, rfl⟩))
    go_ret
    exact ⟨by rw [hm2.out] <;> rfl, rfl⟩

/-- a position as the other player sees it -/
def otherL (l : List UInt8) : List UInt8 := l.map fun c => UInt8.ofNat (otherN c.toNat)
def exchP (p : Pos) : Pos := ⟨p.w, p.h, bytes (otherL (turnP p 2).cells.data.toList), 1 - p.turn, p.h1, p.h0⟩

set_option maxHeartbeats 1000000 in
set_option maxRecDepth 100000 in
theorem swapped_no (w h t : Int) (c h0 h1 : ByteArray) (W : World) (hc9 : c.size ≤ 9223372036854775807) (l0 : h0.size ≤ 9223372036854775807) (l1 : h1.size ≤ 9223372036854775807) (hno : ¬ PosOk ⟨w, h, c, t, h0, h1⟩) :
    Calls Try.prog 19 #[.agg #[.int .i64 w, .int .i64 h, .string c, .int .i64 t, .string h0, .string h1]] W fun e w' => e = .returned (.tuple #[noPos, .int .i64 1]) ∧ Below W.heap.size W w' := by
  have Ht := hide fun W => turned_no w h t 2 c h0 h1 W hc9 l0 l1 (fun hh => hno hh.1)
  clear hno
  go_enter Try.func19, Try.ntmps19
  go_wp2_with fail
  refine (Ht.out _).mono ?_
  rintro e w1 ⟨rfl, hb1⟩
  have b1 := (Blk.new (W.alloc (.cells #[.int .i64 w, .int .i64 h, .string c, .int .i64 t, .string h0, .string h1] 36)) 36 #[.int .i64 0, .int .i64 0, .string ⟨#[]⟩, .int .i64 0, .string ⟨#[]⟩, .string ⟨#[]⟩]).below hb1 (by simp)
  simp only [World.size_alloc] at b1
  have B1 := hide (b1.alloc (.cells #[.int .i64 0, .int .i64 0, .string ⟨#[]⟩, .int .i64 0, .string ⟨#[]⟩, .string ⟨#[]⟩] 36))
  have B2 := hide (Blk.new w1 36 #[.int .i64 0, .int .i64 0, .string ⟨#[]⟩, .int .i64 0, .string ⟨#[]⟩, .string ⟨#[]⟩])
  have hz : W.heap.size + 1 < w1.heap.size := by have := hb1.size; simp at this; omega
  have Hb := hide (below_alloc0 ((below_alloc0 (below_fresh W (.cells #[.int .i64 w, .int .i64 h, .string c, .int .i64 t, .string h0, .string h1] 36)) (.cells #[.int .i64 0, .int .i64 0, .string ⟨#[]⟩, .int .i64 0, .string ⟨#[]⟩, .string ⟨#[]⟩] 36)).trans (hb1.mono (by simp; omega))) (.cells #[.int .i64 0, .int .i64 0, .string ⟨#[]⟩, .int .i64 0, .string ⟨#[]⟩, .string ⟨#[]⟩] 36))
  clear hb1 b1
  unfold noPos
  go_upto_region 3 with (fail)
  generalize w1.alloc (.cells #[.int .i64 0, .int .i64 0, .string ⟨#[]⟩, .int .i64 0, .string ⟨#[]⟩, .string ⟨#[]⟩] 36) = w2 at *
  generalize w1.heap.size = g at *
  obtain ⟨⟨y0, y1, y2, y3, y4, y5⟩, z0, z1, z2, z3, z4, z5⟩ := B1.out.six
  obtain ⟨⟨x0, x1, x2, x3, x4, x5⟩, -⟩ := B2.out.six
  go_wp2_with fail
  refine bodyPost_ret (v := .tuple #[noPos, .int .i64 1]) (by simp [results, Try.results19, go_sem, noPos, y0, y1, y2, y3, y4, y5]) rfl ⟨rfl, ?_⟩
  repeat (first | with_reducible exact Hb.out | with_reducible refine below_drew_ ?_ | with_reducible refine below_setg ?_ (by omega) _)
end Go.Proofs.Ytfoehijlafooaaa
