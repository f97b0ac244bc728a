/- The reader of a position's text: what its hands say of the text, and its answer's cells. -/
import Derived.Test.YtcdfeaodfmfdnaaGreatDoorBxPosP
namespace Go.Proofs.YtcdfeaodfmfdnaaGreatDoor
open Go.RowKit

/-- the first hand -/
def Hand0Out (s : ByteArray) (b : Nat) (rs : List (List UInt8)) (t : Bool) (W : World) (e : Ending) (w' : World) : Prop :=
  Only (fun x => x = b) W w' ∧ ∃ k h0 ok, k ≤ s.size ∧ e = .returned (.tuple #[.string (bytes h0), .bool ok]) ∧ RdAt w' b s k ∧ (ok = false → FailB s.data.toList k) ∧
    (ok = true → (s.data.toList[k]?.map (·.toNat) ≠ some 47 → FailB s.data.toList k) ∧ (s.data.toList[k]?.map (·.toNat) = some 47 → runB (s.data.toList.take (k + 1)) = some (.hand1 rs t h0 [])))
theorem hand0_read (b : Nat) (s : ByteArray) (k0 : Nat) (rs : List (List UInt8)) (t : Bool) (w : World) (h : RdAt w b s k0) (hs : s.size ≤ 9223372036854775806) (hk0 : k0 ≤ s.size) (hr : runB (s.data.toList.take k0) = some (.hand0 rs t [])) :
    Calls Tryz.prog 156 #[.pointer (some ⟨b, 0, none⟩)] w (Hand0Out s b rs t w) := by
  refine (rhand_read b s k0 w h hs hk0).mono ?_
  rintro e w' ⟨ho, ⟨hc, rfl, hr'⟩ | ⟨hc, k, h1, h2, rfl, hr', hj, hg⟩⟩
  · have hd : runB (s.data.toList.take (k0 + 1)) = some (.dash0 rs t) := run_yes 45 hr hc rfl rfl
    have hl := in_len hc
    exact ⟨ho, k0 + 1, [], true, hl, rfl, hr', by simp, fun _ => ⟨fun h => fail_dash0 hl hd h, fun h => run_yes 47 hd h rfl rfl⟩⟩
  · have hrun := run_hand0 hr hc k h1 h2 hj
    refine ⟨ho, k, segL s.data.toList k0 k, decide (k0 < k), h2, by rw [ext_seg], hr', fun hf => ?_, fun ht => ?_⟩
    · exact fail_hand0 h1 h2 hrun hc hg (fun h => by simp at hf; omega)
    · have hlt : k0 < k := by simpa using ht
      refine ⟨fun h => fail_hand0 h1 h2 hrun hc hg (fun _ => h), fun h => run_yes 47 hrun h rfl ?_⟩
      have hn := seg_ne (l := s.data.toList) (f := k0) (k := k) hlt (by simpa using h2)
      have hu : handGo (segL s.data.toList k0 k) 47 = false := by
        unfold handGo
        have : upB (47 : UInt8).toNat = false := by decide
        rw [this]; rfl
      simp [stepB, hu, hn]
/-- the second hand -/
def Hand1Out (s : ByteArray) (b : Nat) (rs : List (List UInt8)) (t : Bool) (h0 : List UInt8) (W : World) (e : Ending) (w' : World) : Prop :=
  Only (fun x => x = b) W w' ∧ ∃ k h1 ok, k ≤ s.size ∧ e = .returned (.tuple #[.string (bytes h1), .bool ok]) ∧ RdAt w' b s k ∧ (ok = false → FailB s.data.toList k) ∧
    (ok = true → (k ≠ s.size → FailB s.data.toList k) ∧ (k = s.size → ∃ st, runB s.data.toList = some st ∧ accB st = true ∧ finB st = posL rs t h0 h1))
theorem hand1_read (b : Nat) (s : ByteArray) (k0 : Nat) (rs : List (List UInt8)) (t : Bool) (h0 : List UInt8) (w : World) (h : RdAt w b s k0) (hs : s.size ≤ 9223372036854775806) (hk0 : k0 ≤ s.size) (hr : runB (s.data.toList.take k0) = some (.hand1 rs t h0 [])) :
    Calls Tryz.prog 156 #[.pointer (some ⟨b, 0, none⟩)] w (Hand1Out s b rs t h0 w) := by
  refine (rhand_read b s k0 w h hs hk0).mono ?_
  rintro e w' ⟨ho, ⟨hc, rfl, hr'⟩ | ⟨hc, k, h1, h2, rfl, hr', hj, hg⟩⟩
  · have hd : runB (s.data.toList.take (k0 + 1)) = some (.dash1 rs t h0) := run_yes 45 hr hc rfl rfl
    have hl := in_len hc
    exact ⟨ho, k0 + 1, [], true, hl, rfl, hr', by simp, fun _ => ⟨fun h => fail_dash1 (by omega) hd, fun h => ⟨_, whole (by rw [← h]; exact hd), rfl, rfl⟩⟩⟩
  · have hrun := run_hand1 hr hc k h1 h2 hj
    refine ⟨ho, k, segL s.data.toList k0 k, decide (k0 < k), h2, by rw [ext_seg], hr', fun hf => ?_, fun ht => ?_⟩
    · exact fail_hand1 h1 h2 hrun hc hg (.inl (by simp at hf; omega))
    · have hlt : k0 < k := by simpa using ht
      refine ⟨fun h => fail_hand1 h1 h2 hrun hc hg (.inr (by omega)), fun h => ⟨_, whole (by rw [← h]; exact hrun), ?_, rfl⟩⟩
      have hn := seg_ne (l := s.data.toList) (f := k0) (k := k) hlt (by simpa using h2)
      simp [accB, hn]
end Go.Proofs.YtcdfeaodfmfdnaaGreatDoor
