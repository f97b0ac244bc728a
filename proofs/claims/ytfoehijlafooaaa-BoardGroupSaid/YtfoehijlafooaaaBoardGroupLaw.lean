/- gamekeep.BoardGroup answers true and leaves what was there as it was, for every position and turns. No condition. -/
import Derived.Test.YtfoehijlafooaaaBgWalk
import Derived.Test.YtfoehijlafooaaaOpenPos
import Derived.Test.YtfoehijlafooaaaOpen
import Derived.Test.YtfoehijlafooaaaLaw
import Derived.ProofKit
import Derived.ChangeMaps5
namespace Go.Proofs.Ytfoehijlafooaaa
open Go.ChangeShapes Go.WideShapes Go.ChangeAt Go.RowKit Go.ChangeMaps

theorem own_boardGroup : ownKnob Try.prog.godebug = none := by kernel_rfl
theorem laidOut_boardGroup : laidOutB Try.prog = true := by kernel_rfl

set_option maxRecDepth 100000 in
theorem boardGroup_lifted (os : Os) (started : os.Started) (H : Type) (enc : TypeId × Value → H) :
    ReturnsInHanded {} Try.checked os 7 .any (Rows.boardGroupSpec.pre6 enc Try.prog Try.f7 Rows.boardGroupRow.domain false) (Rows.boardGroupSpec.post enc Try.prog Try.f7 false true false false) := by
  refine returnsInHanded_of_change (C := Try.checked) own_boardGroup started (by kernel_rfl) Try.func7
    (ChangeSpec.witness6 (enc := enc) (C := Try.checked) false ⟨#[], #[.agg #[.int .i64 0, .int .i64 0, .string ByteArray.empty, .int .i64 0, .string ByteArray.empty, .string ByteArray.empty], .int .i64 0, .int .i64 0], []⟩ 8 (by kernel_rfl) (by kernel_rfl) (by kernel_rfl) (by kernel_rfl)) ?_
  intro W base args ds gs before hval0 hW hcnd _
  have hval : ∀ (j : Nat) t v, Try.f7.params[j]? = some t → args[j]? = some v → Value.okWide Try.prog W .any base t v := hval0
  obtain ⟨p, q, hA0, hV, hpq, hfz, hnd⟩ := id hW
  have hA : DataW.TrodAll enc Try.prog W 0 (fun _ => true) true Try.f7.params.toList args.toList ds p := hA0
  obtain ⟨rfl, -⟩ := trodVars_none hV
  rw [Try.params7] at hA hval
  obtain ⟨v0, v1, v2, d0, d1, d2, p0, p1, p2, rfl, rfl, rfl, h0, h1, h2⟩ := trodAll_three hA
  obtain ⟨wp, hp, cp, tp, z0p, z1p, rfl, rfl, hcp, hyp, hzp, -, -, -⟩ := open_pos (hval 0 36 v0 rfl rfl) h0
  obtain ⟨a, rfl, rfl, rfl, wa⟩ := open_int Try.underlying3 (hval 1 3 v1 rfl rfl) h1
  obtain ⟨b, rfl, rfl, rfl, wb⟩ := open_int Try.underlying3 (hval 2 3 v2 rfl rfl) h2
  refine (bg_any wp hp tp a b cp z0p z1p W hcp hyp hzp).mono fun e W' ⟨he, hg⟩ => ?_
  subst he
  exact ⟨_, rfl, law_post laidOut_boardGroup (by kernel_rfl) hW rfl rfl Try.underlying4 rfl rfl rfl hg⟩

theorem boardGroup_holds : Rows.BoardGroupSaid :=
  OpenClaim.holds_of_wide 7 Try.f7 rfl rfl rfl rfl rfl rfl rfl ⟨rfl, rfl, rfl, rfl, rfl⟩ rfl rfl rfl rfl rfl (by kernel_rfl) Try.func7 (by kernel_rfl)
    (of_decide_eq_true (by kernel_rfl)) (by unfold Func.isWrapper; first | (rw [if_pos (by decide +kernel)]; kernel_rfl) | (rw [if_neg (by decide +kernel)]; exact ⟨rfl, rfl⟩))
    (fun os started H enc _ => boardGroup_lifted os started H enc)
#print axioms boardGroup_holds
end Go.Proofs.Ytfoehijlafooaaa
