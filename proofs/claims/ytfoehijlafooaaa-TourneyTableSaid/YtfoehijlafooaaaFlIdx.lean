/- slices.ContainsFunc of doubles at Rate's closure -/
import Derived.Test.YtfoehijlafooaaaFlSame
namespace Go.Proofs.Ytfoehijlafooaaa
open Go.RowKit

def unfair (l : List Nat) : Bool := l.any fun x => !fairF x

set_option maxHeartbeats 1000000 in
set_option maxRecDepth 20000 in
theorem index_any (A : Option Addr) (c : Nat) (l : List Nat) (w : World) (B : Nat) (hm : l.length ≤ 9223372036854775807) (hA : Cells w B A (flts l)) :
    Calls Try.prog 85 #[.slice A l.length c, .func (.func 69) #[] #[]] w fun e w' => (∃ r : Int, e = .returned (.int .i64 r) ∧ decide (r ≥ 0) = unfair l) ∧ w' = w := by
  have HA := hide hA
  have HU := hide (fun x w => unfair_any x w)
  clear hA
  go_enter Try.func85, Try.ntmps85
  go_wp2_with fail
  go_loop [8] (fun i => ∃ k : Nat, k ≤ l.length ∧ i = .int .i64 k ∧ ∀ j (h : j < l.length), j < k → fairF l[j] = true) (fun i => l.length - (intOf i).toNat)
  case atStart => exact ⟨0, by omega, rfl, fun j _ h => by omega⟩
  case round =>
    obtain ⟨k, hk, rfl, hall⟩ := hrel
    have Hall := hide hall
    clear hall
    by_cases hlt : k < l.length
    · obtain ⟨b, off, rfl, hb, x1⟩ := HA.out.at_ (k := k) (by simpa using hlt)
      rw [flts_get] at x1
      have hu := fun w => HU.out l[k] w
      have hnext : fairF l[k] = true → ∀ j (h : j < l.length), j < k + 1 → fairF l[j] = true := fun hf j h hj => by
        by_cases e : j = k
        · subst e; exact hf
        · exact Hall.out j h (by omega)
      have hbad : fairF l[k] = false → unfair l = true := fun hf => by
        unfold unfair
        rw [List.any_eq_true]
        exact ⟨l[k], List.getElem_mem hlt, by rw [hf]; rfl⟩
      obtain ⟨fb, hfb⟩ : ∃ fb, fairF l[k] = fb := ⟨_, rfl⟩
      rw [hfb] at hnext hbad
      simp only [hfb] at hu
      have Hu := hide hu
      have Hnext := hide hnext
      have Hbad := hide hbad
      clear hu hnext hbad hfb
      cases fb
      · go_wp2_with (go_at_call 69; refine (Hu.out _).mono ?_; rintro e w2 ⟨rfl, hw2⟩; rw [hw2]; clear hw2)
        go_ret
        exact ⟨⟨_, rfl, by rw [Hbad.out (by first | exact rfl | exact trivial)]; exact decide_eq_true (by omega)⟩, rfl⟩
      · go_wp2_with (go_at_call 69; refine (Hu.out _).mono ?_; rintro e w2 ⟨rfl, hw2⟩; rw [hw2]; clear hw2)
        go_round
        case rel => exact ⟨k + 1, by omega, by go_num, Hnext.out (by first | exact rfl | exact trivial)⟩
        case measure => simp [intOf]; omega
    · have Hres := hide (show unfair l = false by
        unfold unfair
        rw [List.any_eq_false]
        intro x hx
        obtain ⟨j, hj, rfl⟩ := List.getElem_of_mem hx
        rw [Hall.out j hj (by omega)]; decide)
      go_wp2_with fail
      go_ret
      exact ⟨⟨-1, rfl, by rw [Hres.out]; decide⟩, rfl⟩

set_option maxHeartbeats 1000000 in
theorem contains_any (A : Option Addr) (c : Nat) (l : List Nat) (w : World) (B : Nat) (hm : l.length ≤ 9223372036854775807) (hA : Cells w B A (flts l)) :
    Calls Try.prog 68 #[.slice A l.length c, .func (.func 69) #[] #[]] w fun e w' => e = .returned (.bool (unfair l)) ∧ w' = w := by
  have HI := hide (index_any A c l w B hm hA)
  clear hA
  go_enter Try.func68, Try.ntmps68
  go_wp2_with (go_at_call 85; refine HI.out.mono ?_; rintro e w2 ⟨⟨r, rfl, hr⟩, hw2⟩; rw [hw2]; clear hw2)
  go_ret
  exact ⟨by rw [← hr] <;> rfl, rfl⟩
end Go.Proofs.Ytfoehijlafooaaa
