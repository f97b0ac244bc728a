/- gamekeep.PuzzleOne answers true and leaves what was there as it was, for every input, where bits.deBruijn32tab and deBruijn64tab hold what the library lays in them (tied to its text). -/
import Derived.Test.YtfoehijlafooaaaDoorPzOnes
import Derived.Test.YtfoehijlafooaaaDoorPzLaid
import Derived.Test.YtfoehijlafooaaaDoorOpen
import Derived.Test.YtfoehijlafooaaaDoorLaw
import Derived.Test.YtfoehijlafooaaaDoorCards
import Derived.Test.YtfoehijlafooaaaDoorTie
import Derived.ProofKit
import Derived.ChangeMaps5
namespace Go.Proofs.YtfoehijlafooaaaDoor
open Go.ChangeShapes Go.WideShapes Go.ChangeAt Go.RowKit Go.ChangeMaps

theorem laidOut_puzzleOne : laidOutB Tryd.prog = true := by kernel_rfl

set_option maxRecDepth 100000 in
theorem puzzleOne_lifted (os : Os) (started : os.Started) (H : Type) (enc : TypeId × Value → H) :
    ReturnsInHanded {} Tryd.checked os 5 .any (fun w args => (Rows.puzzleOneSpec.pre enc Tryd.prog Tryd.f5 [] false w args ∧ laidMetH Tryd.prog laid2 w) ∧ sizedMet enc Tryd.prog Tryd.f5 (OpenSpec.ofChange Rows.puzzleOneSpec) false w args)
      (Rows.puzzleOneSpec.post enc Tryd.prog Tryd.f5 false true false false) := by
  refine returnsInHanded_of_change_and (C := Tryd.checked) (X := fun w _ => laidMetH Tryd.prog laid2 w) (fun _ _ _ hh h => h.of_heap hh) own_door started (by kernel_rfl) Tryd.func5
    (ChangeSpec.witness_shaped (enc := enc) (C := Tryd.checked) (os := os) (X := fun w _ => laidMetH Tryd.prog laid2 w) false (World.doorLaid Tryd.prog 19 os) #[.int .i64 0, .int .i64 0, .slice none 0 0, .slice none 0 0] 8 rfl (World.shaped_of_RefB (by kernel_rfl) (by kernel_rfl)) (by kernel_rfl) (by kernel_rfl) (by kernel_rfl) (door_met os _)) ?_
  intro W base args ds gs before hval0 hW _ _ hL _
  have hval : ∀ (j : Nat) t v, Tryd.f5.params[j]? = some t → args[j]? = some v → Value.okWide Tryd.prog W .any base t v := hval0
  obtain ⟨p, q, hA0, hV, hpq, hfz, hnd⟩ := id hW
  have hA : DataW.TrodAll enc Tryd.prog W 0 (fun _ => true) true Tryd.f5.params.toList args.toList ds p := hA0
  obtain ⟨rfl, -⟩ := trodVars_none hV
  rw [Tryd.params5] at hA hval
  obtain ⟨v0, v1, v2, v3, d0, d1, d2, d3, p0, p1, p2, p3, rfl, rfl, rfl, h0, h1, h2, h3⟩ := trodAll_four hA
  obtain ⟨a, rfl, rfl, rfl, wa⟩ := open_int Tryd.underlying3 (hval 0 3 v0 rfl rfl) h0
  obtain ⟨b, rfl, rfl, rfl, wb⟩ := open_int Tryd.underlying3 (hval 1 3 v1 rfl rfl) h1
  obtain ⟨A, cA, cells, rfl, hle, hm, hC, hb⟩ := open_ints1 Tryd.underlying22 Tryd.underlying3 (by kernel_rfl) (okWide_slice Tryd.underlying22 (hval 2 22 v2 rfl rfl)) h2
  obtain ⟨A2, cA2, order, rfl, hle2, hm2, hC2, hb2⟩ := open_ints1 Tryd.underlying22 Tryd.underlying3 (by kernel_rfl) (okWide_slice Tryd.underlying22 (hval 3 22 v3 rfl rfl)) h3
  have hT := tab_of_laid hL
  refine (ones_any a b A A2 cA cA2 cells order W (Nat.le_trans hle hm) (Nat.le_trans hle2 hm2) hC hC2 hT).mono fun e W' ⟨he, hg⟩ => ?_
  subst he
  exact ⟨_, rfl, law_post laidOut_puzzleOne (by kernel_rfl) hW rfl rfl Tryd.underlying4 rfl rfl rfl hg⟩

theorem puzzleOne_row : Rows.PuzzleOneSaid :=
  OpenClaim.holds_of_wide 5 Tryd.f5 rfl rfl rfl rfl rfl rfl rfl ⟨rfl, rfl, rfl, rfl, rfl⟩ rfl rfl rfl rfl rfl (by kernel_rfl) Tryd.func5 (by kernel_rfl)
    (of_decide_eq_true (by kernel_rfl)) (by unfold Func.isWrapper; first | (rw [if_pos (by decide +kernel)]; kernel_rfl) | (rw [if_neg (by decide +kernel)]; exact ⟨rfl, rfl⟩))
    (fun os started H enc _ => puzzleOne_lifted os started H enc)

theorem puzzleOne_holds : Rows.PuzzleOneCardSaid :=
  Claim7.holds_tied_plain_at .later [] [.data, .data] true (true, "f1596b5f35806c86eb977e626336a7fb5ed4fd88fe37a7ab71483e1aaf025d39") false
    puzzleOne_row (fun _ h => by cases h) (by kernel_rfl) (fun _ h => by cases h) puzzleOne_row_tie rfl ⟨rfl, rfl⟩ (by kernel_rfl) rfl
    (fun f fn hf hfn => by
      obtain rfl : f = 5 := Option.some.inj ((show Tryd.prog.funcNamed "parlour/gamekeep.PuzzleOne" = some 5 by kernel_rfl).symm.trans hf) |>.symm
      obtain rfl : fn = Tryd.f5 := (Option.some.inj (Tryd.func5.symm.trans hfn)).symm
      exact ⟨by kernel_rfl, fun j t ht => by
        rw [Tryd.params5] at ht
        have h3 : t = 3 ∨ t = 22 := by
          rcases j with _ | _ | _ | _ | j
          · left; simpa using ht.symm
          · left; simpa using ht.symm
          · right; simpa using ht.symm
          · first | (left; simpa using ht.symm; done) | (right; simpa using ht.symm; done)
          · simp at ht
        rcases h3 with h3 | h3
        · subst h3
          exact (show Tryd.prog.wantsStandIn 3 = false by kernel_rfl)
        · subst h3
          exact (show Tryd.prog.wantsStandIn 22 = false by kernel_rfl)⟩)
    (by kernel_rfl)
#print axioms puzzleOne_holds
end Go.Proofs.YtfoehijlafooaaaDoor
