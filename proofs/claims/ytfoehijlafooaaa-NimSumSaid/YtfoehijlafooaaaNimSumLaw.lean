/- gamekeep.NimSum answers true and leaves what was there as it was, for every two graphs. No condition. -/
import Derived.Test.YtfoehijlafooaaaNimSum
import Derived.Test.YtfoehijlafooaaaOpen
import Derived.Test.YtfoehijlafooaaaLaw
import Derived.ProofKit
namespace Go.Proofs.Ytfoehijlafooaaa
open Go.ChangeShapes Go.WideShapes Go.ChangeAt Go.RowKit

theorem own_nimSum : ownKnob Try.prog.godebug = none := by kernel_rfl
theorem laidOut_nimSum : laidOutB Try.prog = true := by kernel_rfl

set_option maxRecDepth 100000 in
theorem nimSum_lifted (os : Os) (started : os.Started) (H : Type) (enc : TypeId × Value → H) :
    ReturnsInHanded {} Try.checked os 5 .any (Rows.nimSumSpec.pre6 enc Try.prog Try.f5 Rows.nimSumRow.domain false) (Rows.nimSumSpec.post enc Try.prog Try.f5 false true false false) := by
  refine returnsInHanded_of_change (C := Try.checked) own_nimSum started (by kernel_rfl) Try.func5
    (ChangeSpec.witness6 (enc := enc) (C := Try.checked) false ⟨#[], #[.slice none 0 0, .slice none 0 0], []⟩ 8 (by kernel_rfl) (by kernel_rfl) (by kernel_rfl) (by kernel_rfl)) ?_
  intro W base args ds gs before hval0 hW hcnd _
  have hval : ∀ (j : Nat) t v, Try.f5.params[j]? = some t → args[j]? = some v → Value.okWide Try.prog W .any base t v := hval0
  obtain ⟨p, q, hA0, hV, hpq, hfz, hnd⟩ := id hW
  have hA : DataW.TrodAll enc Try.prog W 0 (fun _ => true) true Try.f5.params.toList args.toList ds p := hA0
  obtain ⟨rfl, -⟩ := trodVars_none hV
  rw [Try.params5] at hA hval
  obtain ⟨v0, v1, d0, d1, p0, p1, rfl, rfl, rfl, h0, h1⟩ := trodAll_two hA
  obtain ⟨A1, c1, a, rfl, hle1, hm1, hR1, hk1⟩ := open_rows2 Try.underlying25 Try.underlying26 Try.underlying3 (by kernel_rfl) (by kernel_rfl) (okWide_slice Try.underlying25 (hval 0 25 v0 rfl rfl)) h0
  obtain ⟨A2, c2, b, rfl, hle2, hm2, hR2, hk2⟩ := open_rows2 Try.underlying25 Try.underlying26 Try.underlying3 (by kernel_rfl) (by kernel_rfl) (okWide_slice Try.underlying25 (hval 1 25 v1 rfl rfl)) h1
  refine (nimSum_any A1 A2 c1 c2 a b W (Nat.le_trans hle1 hm1) (Nat.le_trans hle2 hm2) hR1 hR2).mono fun e W' ⟨he, hg⟩ => ?_
  subst he
  exact ⟨_, rfl, law_post laidOut_nimSum (by kernel_rfl) hW rfl rfl Try.underlying4 rfl rfl rfl hg⟩

theorem nimSum_holds : Rows.NimSumSaid :=
  OpenClaim.holds_of_wide 5 Try.f5 rfl rfl rfl rfl rfl rfl rfl ⟨rfl, rfl, rfl, rfl, rfl⟩ rfl rfl rfl rfl rfl (by kernel_rfl) Try.func5 (by kernel_rfl)
    (of_decide_eq_true (by kernel_rfl)) (by unfold Func.isWrapper; first | (rw [if_pos (by decide +kernel)]; kernel_rfl) | (rw [if_neg (by decide +kernel)]; exact ⟨rfl, rfl⟩))
    (fun os started H enc _ => nimSum_lifted os started H enc)
#print axioms nimSum_holds
end Go.Proofs.Ytfoehijlafooaaa
