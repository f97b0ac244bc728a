/- gamelaw.BoardTexts answers true and leaves what was there as it was, for every position and every text, where utf8.acceptRanges and utf8.first hold what the library lays in them (tied to its text). -/
import Derived.Test.YtcdfeaodfmfdnaaDoorBxAll
import Derived.Test.YtcdfeaodfmfdnaaDoorWLaid
import Derived.Test.YtcdfeaodfmfdnaaDoorOpenPos
import Derived.Test.YtcdfeaodfmfdnaaDoorOpen
import Derived.Test.YtcdfeaodfmfdnaaDoorLaw
import Derived.Test.YtcdfeaodfmfdnaaDoorCards
import Derived.Test.YtcdfeaodfmfdnaaDoorTie
import Derived.ProofKit
import Derived.ChangeMaps5
namespace Go.Proofs.YtcdfeaodfmfdnaaDoor
open Go.ChangeShapes Go.WideShapes Go.ChangeAt Go.RowKit Go.ChangeMaps

theorem laidOut_boardTexts : laidOutB Tryd.prog = true := by kernel_rfl

set_option maxRecDepth 100000 in
theorem boardTexts_lifted (os : Os) (started : os.Started) (H : Type) (enc : TypeId × Value → H) :
    ReturnsInHanded {} Tryd.checked os 3 .any (fun w args => (Rows.boardTextsSpec.pre enc Tryd.prog Tryd.f3 [] false w args ∧ laidMetH Tryd.prog laidW w) ∧ sizedMet enc Tryd.prog Tryd.f3 (OpenSpec.ofChange Rows.boardTextsSpec) false w args)
      (Rows.boardTextsSpec.post enc Tryd.prog Tryd.f3 false true false false) := by
  refine handed_shaped (C := Tryd.checked) (X := fun w _ => laidMetH Tryd.prog laidW w) (fun _ _ _ hh h => h.of_heap hh) own_door started (by kernel_rfl) Tryd.func3
    (ChangeSpec.witness_shaped (enc := enc) (C := Tryd.checked) (os := os) (X := fun w _ => laidMetH Tryd.prog laidW w) false (World.laidAll Tryd.prog os laidW) #[.agg #[.int .i64 0, .int .i64 0, .string ByteArray.empty, .int .i64 0, .string ByteArray.empty, .string ByteArray.empty], .string ByteArray.empty] 8 (World.laidAll_os _ _ _)
      (World.shaped_of_ZipB (by kernel_rfl) (by kernel_rfl)) (by kernel_rfl) (by kernel_rfl) (by kernel_rfl) (door_met os _)) ?_
  intro W base args ds gs before hval0 hW hreach _ hsh
  have hval : ∀ (j : Nat) t v, Tryd.f3.params[j]? = some t → args[j]? = some v → Value.okWide Tryd.prog W .any base t v := hval0
  obtain ⟨p, q, hA0, hV, hpq, hfz, hnd⟩ := id hW
  have hA : DataW.TrodAll enc Tryd.prog W 0 (fun _ => true) true Tryd.f3.params.toList args.toList ds p := hA0
  obtain ⟨rfl, -⟩ := trodVars_none hV
  rw [Tryd.params3] at hA hval
  obtain ⟨v0, v1, d0, d1, p0, p1, rfl, rfl, rfl, h0, h1⟩ := trodAll_two hA
  obtain ⟨wp, hp, cp, tp, z0p, z1p, rfl, rfl, hcp, hyp, hzp, -, -, -⟩ := open_pos (hval 0 24 v0 rfl rfl) h0
  obtain ⟨s, rfl, rfl, rfl, -⟩ := open_string Tryd.underlying9 (hval 1 9 v1 rfl rfl) h1
  have hs := sized_string hreach (j := 1) (t := 9) rfl rfl
  have hs2 : s.size ≤ 9223372036854775806 := by
    have h2 : s.data.toList.length = s.size := by simp
    have h3 : reachBytes ≤ 9223372036854775806 := by decide
    omega
  refine (bt_any ⟨wp, hp, cp, tp, z0p, z1p⟩ s W hcp hyp hzp hs2 (Tryd.laysM146.s1_3 W hsh)).mono fun e W' ⟨he, hg⟩ => ?_
  subst he
  exact ⟨_, rfl, law_post laidOut_boardTexts (by kernel_rfl) hW rfl rfl Tryd.underlying4 rfl rfl rfl hg⟩

theorem boardTexts_row : Rows.BoardTextsSaid :=
  OpenClaim.holds_of_wide 3 Tryd.f3 rfl rfl rfl rfl rfl rfl rfl ⟨rfl, rfl, rfl, rfl, rfl⟩ rfl rfl rfl rfl rfl (by kernel_rfl) Tryd.func3 (by kernel_rfl)
    (of_decide_eq_true (by kernel_rfl)) (by unfold Func.isWrapper; first | (rw [if_pos (by decide +kernel)]; kernel_rfl) | (rw [if_neg (by decide +kernel)]; exact ⟨rfl, rfl⟩))
    (fun os started H enc _ => boardTexts_lifted os started H enc)

theorem boardTexts_holds : Rows.BoardTextsCardSaid :=
  Claim7.holds_tied_plain_at .later [] [.data, .pinned] true (true, "56ec1eceb0c8500bf803fd836d71cef039a44de25636d3dd93429ff8b315946a") true
    boardTexts_row (fun _ h => by cases h) (by kernel_rfl) (fun _ h => by cases h) boardTexts_row_tie rfl ⟨rfl, rfl⟩ (by kernel_rfl) rfl
    (fun f fn hf hfn => by
      obtain rfl : f = 3 := Option.some.inj ((show Tryd.prog.funcNamed "parlour/gamelaw.BoardTexts" = some 3 by kernel_rfl).symm.trans hf) |>.symm
      obtain rfl : fn = Tryd.f3 := (Option.some.inj (Tryd.func3.symm.trans hfn)).symm
      exact ⟨by kernel_rfl, fun j t ht => by
        rw [Tryd.params3] at ht
        have hm : t ∈ [24, 9] := by simpa using Array.mem_of_getElem? ht
        have hall : ([24, 9].all fun u => !Tryd.prog.wantsStandIn u) = true := by kernel_rfl
        exact (show Tryd.prog.wantsStandIn t = false by simpa using List.all_eq_true.1 hall t hm)⟩)
    (by kernel_rfl)
#print axioms boardTexts_holds
end Go.Proofs.YtcdfeaodfmfdnaaDoor
