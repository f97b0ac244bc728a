/- nim.Grundy: what it answers. -/
import Derived.Test.YtfoehijlafooaaaNimVals2
import Derived.Test.YtfoehijlafooaaaNimTakings
namespace Go.Proofs.Ytfoehijlafooaaa
open Go.RowKit

/-- the answer: a slice of the worths, or an error -/
def GrAns (l : List UInt8) (n : Int) (w : World) (e : Ending) (w' : World) : Prop :=
  Below w.heap.size w w' ∧
  ((¬ CodeOk l ∧ e = .returned (.tuple #[.slice none 0 0, .int .i64 3])) ∨
   (CodeOk l ∧ ¬ (0 ≤ n ∧ n ≤ 400) ∧ e = .returned (.tuple #[.slice none 0 0, .int .i64 4])) ∨
   (CodeOk l ∧ ∃ m : Nat, n = m ∧ m ≤ 400 ∧ ∃ A c, e = .returned (.tuple #[.slice A (m + 1) c, .int .i64 0]) ∧ Cells w' w'.heap.size A (ints (gInts (digsOf l) (m + 1)))))

set_option maxHeartbeats 1000000 in
set_option maxRecDepth 20000 in
theorem grundy_any (s : ByteArray) (n : Int) (w : World) (hs : s.size ≤ 9223372036854775807) : Calls Try.prog 25 #[.string s, .int .i64 n] w (GrAns s.data.toList n w) := by
  have Hd := hide (digits_any s w hs)
  go_enter Try.func25, Try.ntmps25
  go_wp2_with fail
  refine Hd.out.mono ?_
  rintro e w1 ⟨hb1, ⟨hc, A, c, rfl, hle, hcells⟩ | ⟨hc, rfl⟩⟩
  case inr =>
    have Hc := hide hc
    have Hb1 := hide hb1
    clear hc hb1
    go_wp2_with fail
    go_ret2
    exact ⟨Hb1.out, .inl ⟨Hc.out, rfl⟩⟩
  have Hc := hide hc
  have Hb1 := hide hb1
  have Hcells := hide hcells
  clear hc hb1 hcells Hd
  by_cases h1 : n < 0
  · go_wp2_with fail
    go_ret2
    exact ⟨Hb1.out, .inr (.inl ⟨Hc.out, by omega, rfl⟩)⟩
  by_cases h2 : 400 < n
  · go_wp2_with fail
    go_ret2
    exact ⟨Hb1.out, .inr (.inl ⟨Hc.out, by omega, rfl⟩)⟩
  obtain ⟨m, rfl⟩ : ∃ m : Nat, n = m := ⟨n.toNat, by omega⟩
  have hd := code_len Hc.out
  have Hv := hide (vals_any A c (digsOf s.data.toList) m (by omega) (code_lt8 Hc.out) hd.2.2 w1 Hcells.out)
  clear hd
  go_wp2_with fail
  refine Hv.out.mono ?_
  rintro e w2 ⟨⟨A2, rfl, hc2⟩, hb2⟩
  have Hc2 := hide hc2
  have Hb2 := hide hb2
  clear hc2 hb2
  go_wp2_with fail
  go_ret2
  exact ⟨Hb1.out.trans (Hb2.out.mono Hb1.out.size), .inr (.inr ⟨Hc.out, m, rfl, by omega, A2, m + 1, rfl, Hc2.out⟩)⟩
end Go.Proofs.Ytfoehijlafooaaa
