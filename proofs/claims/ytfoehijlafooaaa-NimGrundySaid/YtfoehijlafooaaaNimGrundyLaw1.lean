/- gamelaw.NimGrundy, walked -/
import Derived.Test.YtfoehijlafooaaaNimWin
import Derived.Test.YtfoehijlafooaaaNimGrundies
import Derived.Test.YtfoehijlafooaaaNimTakings
import Derived.Test.YtfoehijlafooaaaNimCode
import Derived.Test.YtfoehijlafooaaaSameInt
namespace Go.Proofs.Ytfoehijlafooaaa
open Go.RowKit

set_option maxHeartbeats 4000000 in
set_option maxRecDepth 100000 in
/-- the code is no code -/
theorem ng_no_code (s : ByteArray) (n : Int) (A : Option Addr) (c : Nat) (hs : List Int) (w : World) (hsz : s.size ≤ 9223372036854775807) (hl : hs.length ≤ 9223372036854775807) (hA : Cells w w.heap.size A (ints hs)) (hno : ¬ CodeOk s.data.toList) :
    Calls Try.prog 8 #[.string s, .int .i64 n, .slice A hs.length c] w fun e w' => e = .returned (.bool true) ∧ Below w.heap.size w w' := by
  have Hg := hide (grundy_any s n w hsz)
  have Hw := hide fun W (hW : Below w.heap.size w W) => win_any s A c hs W hsz hl ((hA.below hW).more hW.size)
  have Hc := hide fun W => code_any s W hsz
  have Hno := hide hno
  clear hno hA
  go_enter Try.func8, Try.ntmps8
  go_wp2_with fail
  refine Hg.out.mono ?_
  rintro e w1 ⟨hb1, ⟨_, rfl⟩ | ⟨h, _⟩ | ⟨h, _⟩⟩
  case inr.inl => exact absurd h Hno.out
  case inr.inr => exact absurd h Hno.out
  have Hb1 := hide hb1
  clear hb1
  go_wp2_with fail
  refine (Hw.out w1 Hb1.out).mono ?_
  rintro e w2 ⟨hb2, ⟨_, rfl⟩ | ⟨h, _⟩ | ⟨h, _⟩⟩
  case inr.inl => exact absurd h Hno.out
  case inr.inr => exact absurd h Hno.out
  have Hb2 := hide hb2
  clear hb2
  unfold noHeaps
  go_wp2_with (first | (go_at_call 27; refine (Hc.out _).mono ?_; rintro e w3 ⟨rfl, ⟨h, _⟩ | ⟨_, rfl⟩⟩; case inl => exact absurd h Hno.out) | fail)
  go_ret
  refine ⟨rfl, ?_⟩
  have h2 := Hb1.out.trans (Hb2.out.mono Hb1.out.size)
  exact h2.trans (((Only.refl (fun _ => False) w2).alloc _).below_ (fun _ h => h.elim) h2.size)
end Go.Proofs.Ytfoehijlafooaaa
