/- gameref.Code: which texts are codes. -/
import Derived.Test.YtfoehijlafooaaaNimDigits
namespace Go.Proofs.Ytfoehijlafooaaa
open Go.RowKit


theorem extract02 (s : ByteArray) : (s.extract 0 2).toList = s.data.toList.take 2 := by rw [Lib.extract_toList]; simp

set_option maxHeartbeats 2000000 in
set_option maxRecDepth 20000 in
theorem code_any (s : ByteArray) (w : World) (hs : s.size ≤ 9223372036854775807) : Calls Try.prog 27 #[.string s] w fun e w' => w = w' ∧ ((CodeOk s.data.toList ∧ e = .returned (.bool true)) ∨ (¬ CodeOk s.data.toList ∧ e = .returned (.bool false))) := by
  have hsl : s.size = s.data.toList.length := Lib.size_eq s
  have Hsl := hide hsl
  clear hsl
  by_cases h1 : (s.size : Int) < 3
  · go_enter Try.func27, Try.ntmps27
    go_wp2_with fail
    go_ret
    refine ⟨rfl, .inr ⟨fun hc => ?_, rfl⟩⟩
    have := hc.2.1
    rw [List.length_drop] at this
    have := Hsl.out
    omega
  by_cases h2 : (8 : Int) < (s.size : Int)
  · go_enter Try.func27, Try.ntmps27
    go_wp2_with fail
    go_ret
    refine ⟨rfl, .inr ⟨fun hc => ?_, rfl⟩⟩
    have := hc.2.2.1
    rw [List.length_drop] at this
    have := Hsl.out
    omega
  have hs2 : (2 : Int) ≤ (s.size : Int) := by omega
  have hs2' : 2 ≤ s.size := by omega
  cases he : (s.extract 0 2).toList == [48, 46] with
  | false =>
    have hx : s.data.toList.take 2 ≠ [48, 46] := by rw [beq_eq_false_iff_ne, extract02] at he; exact he
    have Hx := hide hx
    clear hx
    go_enter Try.func27, Try.ntmps27
    go_wp2_with fail
    go_ret
    exact ⟨rfl, .inr ⟨no_code Hx.out, rfl⟩⟩
  | true =>
    have hx : s.data.toList.take 2 = [48, 46] := by rw [beq_iff_eq, extract02] at he; exact he
    have Hx := hide hx
    clear hx
    go_enter Try.func27, Try.ntmps27
    go_wp2_with fail
    go_loop [3] (fun idx => ∃ q : Nat, q ≤ s.size ∧ 2 ≤ q ∧ idx = .int .i64 q ∧ ∀ i, 2 ≤ i → i < q → ∀ h : i < s.data.toList.length, 48 ≤ s.data.toList[i].toNat ∧ s.data.toList[i].toNat ≤ 55) (fun idx => s.size - (intOf idx).toNat)
    case atStart => exact ⟨2, by omega, by omega, rfl, fun i h1 h2 => by omega⟩
    case round =>
      obtain ⟨q, hq, hq2, rfl, hall⟩ := hrel
      have Hall := hide hall
      clear hall
      by_cases hlt : q < s.size
      · have hql : q < s.data.toList.length := by rw [← Hsl.out]; exact hlt
        obtain ⟨c, hcq⟩ : ∃ c : UInt8, s[q] = c := ⟨_, rfl⟩
        have hlq : s.data.toList[q] = c := hcq
        have Hlq := hide hlq
        have hc256 : (c.toNat : Int) < 256 := by have := c.toNat_lt; omega
        have hbad : ∀ hc : CodeOk s.data.toList, 48 ≤ c.toNat ∧ c.toNat ≤ 55 := fun hc => by
          have h3 := hc.2.2.2 (q - 2) (by rw [List.length_drop]; omega)
          rw [List.getElem_drop] at h3
          have e : 2 + (q - 2) = q := by omega
          simp only [e, hlq] at h3
          exact h3
        have Hbad := hide hbad
        clear hlq hbad
        by_cases c1 : (c.toNat : Int) < 48
        · go_wp2_with fail
          go_ret
          exact ⟨rfl, .inr ⟨fun hc => by have := Hbad.out hc; omega, rfl⟩⟩
        by_cases c2 : (55 : Int) < (c.toNat : Int)
        · go_wp2_with fail
          go_ret
          exact ⟨rfl, .inr ⟨fun hc => by have := Hbad.out hc; omega, rfl⟩⟩
        go_wp2_with fail
        go_round
        case rel => exact ⟨q + 1, by omega, by omega, by go_num, fun i h1 h2 h => by
          by_cases e : i = q
          · subst e; rw [Hlq.out]; omega
          · exact Hall.out i h1 (by omega) h⟩
        case measure => simp [intOf]; omega
      · go_wp2_with fail
        go_ret
        have := Hsl.out
        refine ⟨rfl, .inl ⟨⟨Hx.out, by rw [List.length_drop]; omega, by rw [List.length_drop]; omega, fun i h => ?_⟩, rfl⟩⟩
        rw [List.length_drop] at h
        rw [List.getElem_drop]
        exact Hall.out (2 + i) (by omega) (by omega) (by omega)
end Go.Proofs.Ytfoehijlafooaaa
