/- gamelaw.TourneyTable: any of its states -/
import Derived.Test.YtfoehijlafooaaaTtGood
import Derived.Test.YtfoehijlafooaaaTtNeg
import Derived.Test.YtfoehijlafooaaaTtBig
import Derived.Test.YtfoehijlafooaaaTtRes
namespace Go.Proofs.Ytfoehijlafooaaa
open Go.RowKit Ieee
theorem tt_any (n : Int) (A0 A : Option Addr) (c0 c : Nat) (start : List Nat) (rs : List Res) (k : Nat) (W : World) (hm : start.length ≤ 9223372036854775807) (hr : rs.length ≤ 9223372036854775807) (hS : Cells W W.heap.size A0 (flts start)) (hA : Cells W W.heap.size A (ints (flatR rs))) :
    Calls Try.prog 12 #[.int .i64 n, .slice A rs.length c, .slice A0 start.length c0, .float .f64 k] W fun e w' => e = .returned (.bool true) ∧ Below W.heap.size W w' := by
  show Calls Try.prog 12 #[.int .i64 n, .slice A rs.length c, .slice A0 start.length c0, .float .f64 k] W fun e w' => e = .returned (.bool true) ∧ Later W w'
  by_cases q0 : n < 0
  · by_cases h200 : start.length ≤ 200
    · by_cases hok : ResOk start.length rs
      · cases hk : fairF k
        · exact tt_Neg_K n A0 A c0 c start rs k W hm hr hS hA q0 h200 hok hk
        · cases hu : unfair start
          · exact tt_Neg_Good n A0 A c0 c start rs k W hm hr hS hA q0 h200 hok hk hu
          · exact tt_Neg_Un n A0 A c0 c start rs k W hm hr hS hA q0 h200 hok hk hu
      · exact tt_Neg_Res n A0 A c0 c start rs k W hm hr hS hA q0 h200 hok
    · exact tt_Neg_Len n A0 A c0 c start rs k W hm hr hS hA q0 (by omega)
  by_cases q1 : 200 < n
  · by_cases h200 : start.length ≤ 200
    · by_cases hok : ResOk start.length rs
      · cases hk : fairF k
        · exact tt_Big_K n A0 A c0 c start rs k W hm hr hS hA q1 h200 hok hk
        · cases hu : unfair start
          · exact tt_Big_Good n A0 A c0 c start rs k W hm hr hS hA q1 h200 hok hk hu
          · exact tt_Big_Un n A0 A c0 c start rs k W hm hr hS hA q1 h200 hok hk hu
      · exact tt_Big_Res n A0 A c0 c start rs k W hm hr hS hA q1 h200 hok
    · exact tt_Big_Len n A0 A c0 c start rs k W hm hr hS hA q1 (by omega)
  by_cases q2 : ResOk n rs
  · obtain ⟨n, rfl⟩ := Int.eq_ofNat_of_zero_le (show 0 ≤ n by omega)
    have q1' : n ≤ 200 := by omega
    by_cases h200 : start.length ≤ 200
    · by_cases hok : ResOk start.length rs
      · cases hk : fairF k
        · exact tt_Good_K n A0 A c0 c start rs k W hm hr hS hA q1' q2 h200 hok hk
        · cases hu : unfair start
          · exact tt_Good_Good n A0 A c0 c start rs k W hm hr hS hA q1' q2 h200 hok hk hu
          · exact tt_Good_Un n A0 A c0 c start rs k W hm hr hS hA q1' q2 h200 hok hk hu
      · exact tt_Good_Res n A0 A c0 c start rs k W hm hr hS hA q1' q2 h200 hok
    · exact tt_Good_Len n A0 A c0 c start rs k W hm hr hS hA q1' q2 (by omega)
  · by_cases h200 : start.length ≤ 200
    · by_cases hok : ResOk start.length rs
      · cases hk : fairF k
        · exact tt_Res_K n A0 A c0 c start rs k W hm hr hS hA (by omega) (by omega) q2 h200 hok hk
        · cases hu : unfair start
          · exact tt_Res_Good n A0 A c0 c start rs k W hm hr hS hA (by omega) (by omega) q2 h200 hok hk hu
          · exact tt_Res_Un n A0 A c0 c start rs k W hm hr hS hA (by omega) (by omega) q2 h200 hok hk hu
      · exact tt_Res_Res n A0 A c0 c start rs k W hm hr hS hA (by omega) (by omega) q2 h200 hok
    · exact tt_Res_Len n A0 A c0 c start rs k W hm hr hS hA (by omega) (by omega) q2 (by omega)
end Go.Proofs.Ytfoehijlafooaaa
