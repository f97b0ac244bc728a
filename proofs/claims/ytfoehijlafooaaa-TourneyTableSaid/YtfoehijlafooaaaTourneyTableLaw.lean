/- gamelaw.TourneyTable answers true and leaves what was there as it was, for every number of players, results, starts and factor. No condition. -/
import Derived.Test.YtfoehijlafooaaaTtAll
import Derived.Test.YtfoehijlafooaaaOpenFlt
import Derived.Test.YtfoehijlafooaaaOpen
import Derived.Test.YtfoehijlafooaaaLaw
import Derived.ProofKit
import Derived.ChangeMaps5
namespace Go.Proofs.Ytfoehijlafooaaa
open Go.ChangeShapes Go.WideShapes Go.ChangeAt Go.RowKit Go.ChangeMaps

theorem own_tourneyTable : ownKnob Try.prog.godebug = none := by kernel_rfl
theorem laidOut_tourneyTable : laidOutB Try.prog = true := by kernel_rfl

set_option maxRecDepth 100000 in
theorem tourneyTable_lifted (os : Os) (started : os.Started) (H : Type) (enc : TypeId × Value → H) :
    ReturnsInHanded {} Try.checked os 12 .any (Rows.tourneyTableSpec.pre6 enc Try.prog Try.f12 Rows.tourneyTableRow.domain false) (Rows.tourneyTableSpec.post enc Try.prog Try.f12 false true false false) := by
  refine returnsInHanded_of_change (C := Try.checked) own_tourneyTable started (by kernel_rfl) Try.func12
    (ChangeSpec.witness6 (enc := enc) (C := Try.checked) false ⟨#[], #[.int .i64 0, .slice none 0 0, .slice none 0 0, .float .f64 0], []⟩ 8 (by kernel_rfl) (by kernel_rfl) (by kernel_rfl) (by kernel_rfl)) ?_
  intro W base args ds gs before hval0 hW hcnd _
  have hval : ∀ (j : Nat) t v, Try.f12.params[j]? = some t → args[j]? = some v → Value.okWide Try.prog W .any base t v := hval0
  obtain ⟨p, q, hA0, hV, hpq, hfz, hnd⟩ := id hW
  have hA : DataW.TrodAll enc Try.prog W 0 (fun _ => true) true Try.f12.params.toList args.toList ds p := hA0
  obtain ⟨rfl, -⟩ := trodVars_none hV
  rw [Try.params12] at hA hval
  obtain ⟨v0, v1, v2, v3, d0, d1, d2, d3, p0, p1, p2, p3, rfl, rfl, rfl, h0, h1, h2, h3⟩ := trodAll_four hA
  obtain ⟨n, rfl, rfl, rfl, wn⟩ := open_int Try.underlying3 (hval 0 3 v0 rfl rfl) h0
  obtain ⟨A, c, rs, rfl, hle, hm, hC, hb⟩ := open_results (okWide_slice Try.underlying67 (hval 1 67 v1 rfl rfl)) h1
  obtain ⟨A0, c0, start, rfl, hle0, hm0, hS⟩ := open_flts (okWide_slice Try.underlying77 (hval 2 77 v2 rfl rfl)) h2
  obtain ⟨k, rfl, rfl, rfl, wk⟩ := open_float Try.underlying78 (hval 3 78 v3 rfl rfl) h3
  refine (tt_any n A0 A c0 c start rs k W (Nat.le_trans hle0 hm0) (Nat.le_trans hle hm) hS hC).mono fun e W' ⟨he, hg⟩ => ?_
  subst he
  exact ⟨_, rfl, law_post laidOut_tourneyTable (by kernel_rfl) hW rfl rfl Try.underlying4 rfl rfl rfl hg⟩

theorem tourneyTable_holds : Rows.TourneyTableSaid :=
  OpenClaim.holds_of_wide 12 Try.f12 rfl rfl rfl rfl rfl rfl rfl ⟨rfl, rfl, rfl, rfl, rfl⟩ rfl rfl rfl rfl rfl (by kernel_rfl) Try.func12 (by kernel_rfl)
    (of_decide_eq_true (by kernel_rfl)) (by unfold Func.isWrapper; first | (rw [if_pos (by decide +kernel)]; kernel_rfl) | (rw [if_neg (by decide +kernel)]; exact ⟨rfl, rfl⟩))
    (fun os started H enc _ => tourneyTable_lifted os started H enc)
#print axioms tourneyTable_holds
end Go.Proofs.Ytfoehijlafooaaa
