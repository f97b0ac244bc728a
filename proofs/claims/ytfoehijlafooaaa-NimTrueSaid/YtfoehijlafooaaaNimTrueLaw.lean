/- gamekeep.NimTrue answers true and leaves what was there as it was, for every code and heaps. No condition. -/
import Derived.Test.YtfoehijlafooaaaNtTrue
import Derived.ChangeMaps5
import Derived.Test.YtfoehijlafooaaaOpen
import Derived.Test.YtfoehijlafooaaaLaw
import Derived.ProofKit
namespace Go.Proofs.Ytfoehijlafooaaa
open Go.ChangeShapes Go.WideShapes Go.ChangeAt Go.RowKit Go.ChangeMaps

theorem own_nimTrue : ownKnob Try.prog.godebug = none := by kernel_rfl
theorem laidOut_nimTrue : laidOutB Try.prog = true := by kernel_rfl

set_option maxRecDepth 100000 in
theorem nimTrue_lifted (os : Os) (started : os.Started) (H : Type) (enc : TypeId × Value → H) :
    ReturnsInHanded {} Try.checked os 9 .any (Rows.nimTrueSpec.pre6 enc Try.prog Try.f9 Rows.nimTrueRow.domain false) (Rows.nimTrueSpec.post enc Try.prog Try.f9 false true false false) := by
  refine returnsInHanded_of_change (C := Try.checked) own_nimTrue started (by kernel_rfl) Try.func9
    (ChangeSpec.witness6 (enc := enc) (C := Try.checked) false ⟨#[], #[.string ByteArray.empty, .slice none 0 0], []⟩ 8 (by kernel_rfl) (by kernel_rfl) (by kernel_rfl) (by kernel_rfl)) ?_
  intro W base args ds gs before hval0 hW hcnd _
  have hval : ∀ (j : Nat) t v, Try.f9.params[j]? = some t → args[j]? = some v → Value.okWide Try.prog W .any base t v := hval0
  obtain ⟨p, q, hA0, hV, hpq, hfz, hnd⟩ := id hW
  have hA : DataW.TrodAll enc Try.prog W 0 (fun _ => true) true Try.f9.params.toList args.toList ds p := hA0
  obtain ⟨rfl, -⟩ := trodVars_none hV
  rw [Try.params9] at hA hval
  obtain ⟨v0, v1, d0, d1, p0, p1, rfl, rfl, rfl, h0, h1⟩ := trodAll_two hA
  obtain ⟨s, rfl, rfl, rfl, hss⟩ := open_string Try.underlying9 (hval 0 9 v0 rfl rfl) h0
  obtain ⟨A, c, l, rfl, hle, hm, hC, hb⟩ := open_ints1 Try.underlying26 Try.underlying3 (by kernel_rfl) (okWide_slice Try.underlying26 (hval 1 26 v1 rfl rfl)) h1
  refine (ntrue_any s A c l W hss hle hm hC).mono fun e W' ⟨he, hg⟩ => ?_
  subst he
  exact ⟨_, rfl, law_post laidOut_nimTrue (by kernel_rfl) hW rfl rfl Try.underlying4 rfl rfl rfl hg⟩

theorem nimTrue_holds : Rows.NimTrueSaid :=
  OpenClaim.holds_of_wide 9 Try.f9 rfl rfl rfl rfl rfl rfl rfl ⟨rfl, rfl, rfl, rfl, rfl⟩ rfl rfl rfl rfl rfl (by kernel_rfl) Try.func9 (by kernel_rfl)
    (of_decide_eq_true (by kernel_rfl)) (by unfold Func.isWrapper; first | (rw [if_pos (by decide +kernel)]; kernel_rfl) | (rw [if_neg (by decide +kernel)]; exact ⟨rfl, rfl⟩))
    (fun os started H enc _ => nimTrue_lifted os started H enc)
#print axioms nimTrue_holds
end Go.Proofs.Ytfoehijlafooaaa
