/- gamelaw.NimGrundy, of anything -/
import Derived.Test.YtfoehijlafooaaaNgNegBad
import Derived.Test.YtfoehijlafooaaaNgNegEven
import Derived.Test.YtfoehijlafooaaaNgNegOdd
import Derived.Test.YtfoehijlafooaaaNgBigBad
import Derived.Test.YtfoehijlafooaaaNgBigEven
import Derived.Test.YtfoehijlafooaaaNgBigOdd
import Derived.Test.YtfoehijlafooaaaNgInBad
import Derived.Test.YtfoehijlafooaaaNgInEven
import Derived.Test.YtfoehijlafooaaaNgInOdd
namespace Go.Proofs.Ytfoehijlafooaaa
open Go.RowKit

theorem ng_any (s : ByteArray) (n : Int) (A : Option Addr) (c : Nat) (hs : List Int) (w : World) (hsz : s.size ≤ 9223372036854775807) (hl : hs.length ≤ 9223372036854775807) (hA : Cells w w.heap.size A (ints hs)) :
    Calls Try.prog 8 #[.string s, .int .i64 n, .slice A hs.length c] w fun e w' => e = .returned (.bool true) ∧ Below w.heap.size w w' := by
  by_cases hok : CodeOk s.data.toList
  · by_cases hH : HOk hs
    · obtain ⟨ns, rfl, hns⟩ := nats_of hH.1
      have h20 := hH.2
      rw [natsI_len] at h20 hl ⊢
      by_cases hX : xorP (gv (digsOf s.data.toList)) ns = 0
      · by_cases h1 : n < 0
        · exact ng_neg_even s n h1 A c ns hns h20 hX w hsz hl hok hA
        · by_cases h2 : 400 < n
          · exact ng_big_even s n h2 A c ns hns h20 hX w hsz hl hok hA
          · obtain ⟨m, rfl⟩ : ∃ m : Nat, n = m := ⟨n.toNat, by omega⟩
            exact ng_in_even s m (by omega) A c ns hns h20 hX w hsz hl hok hA
      · by_cases h1 : n < 0
        · exact ng_neg_odd s n h1 A c ns hns h20 hX w hsz hl hok hA
        · by_cases h2 : 400 < n
          · exact ng_big_odd s n h2 A c ns hns h20 hX w hsz hl hok hA
          · obtain ⟨m, rfl⟩ : ∃ m : Nat, n = m := ⟨n.toNat, by omega⟩
            exact ng_in_odd s m (by omega) A c ns hns h20 hX w hsz hl hok hA
    · by_cases h1 : n < 0
      · exact ng_neg_bad s n h1 A c hs hH w hsz hl hok hA
      · by_cases h2 : 400 < n
        · exact ng_big_bad s n h2 A c hs hH w hsz hl hok hA
        · obtain ⟨m, rfl⟩ : ∃ m : Nat, n = m := ⟨n.toNat, by omega⟩
          exact ng_in_bad s m (by omega) A c hs hH w hsz hl hok hA
  · exact ng_no_code s n A c hs w hsz hl hA hok
end Go.Proofs.Ytfoehijlafooaaa
