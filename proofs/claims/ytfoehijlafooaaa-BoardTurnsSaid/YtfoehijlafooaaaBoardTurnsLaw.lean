/- gamelaw.BoardTurns answers true and leaves what was there as it was, for every position and turns. No condition. -/
import Derived.Test.YtfoehijlafooaaaBtAll
import Derived.Test.YtfoehijlafooaaaOpenPos
import Derived.Test.YtfoehijlafooaaaOpen
import Derived.Test.YtfoehijlafooaaaLaw
import Derived.ProofKit
import Derived.ChangeMaps5
namespace Go.Proofs.Ytfoehijlafooaaa
open Go.ChangeShapes Go.WideShapes Go.ChangeAt Go.RowKit Go.ChangeMaps

theorem own_boardTurns : ownKnob Try.prog.godebug = none := by kernel_rfl
theorem laidOut_boardTurns : laidOutB Try.prog = true := by kernel_rfl

set_option maxRecDepth 100000 in
theorem boardTurns_lifted (os : Os) (started : os.Started) (H : Type) (enc : TypeId × Value → H) :
    ReturnsInHanded {} Try.checked os 6 .any (Rows.boardTurnsSpec.pre6 enc Try.prog Try.f6 Rows.boardTurnsRow.domain false) (Rows.boardTurnsSpec.post enc Try.prog Try.f6 false true false false) := by
  refine returnsInHanded_of_change (C := Try.checked) own_boardTurns started (by kernel_rfl) Try.func6
    (ChangeSpec.witness6 (enc := enc) (C := Try.checked) false ⟨#[], #[.agg #[.int .i64 0, .int .i64 0, .string ByteArray.empty, .int .i64 0, .string ByteArray.empty, .string ByteArray.empty], .int .i64 0, .slice none 0 0], []⟩ 8 (by kernel_rfl) (by kernel_rfl) (by kernel_rfl) (by kernel_rfl)) ?_
  intro W base args ds gs before hval0 hW hcnd _
  have hval : ∀ (j : Nat) t v, Try.f6.params[j]? = some t → args[j]? = some v → Value.okWide Try.prog W .any base t v := hval0
  obtain ⟨p, q, hA0, hV, hpq, hfz, hnd⟩ := id hW
  have hA : DataW.TrodAll enc Try.prog W 0 (fun _ => true) true Try.f6.params.toList args.toList ds p := hA0
  obtain ⟨rfl, -⟩ := trodVars_none hV
  rw [Try.params6] at hA hval
  obtain ⟨v0, v1, v2, d0, d1, d2, p0, p1, p2, rfl, rfl, rfl, h0, h1, h2⟩ := trodAll_three hA
  obtain ⟨wp, hp, cp, tp, z0p, z1p, rfl, rfl, hcp, hyp, hzp, -, -, -⟩ := open_pos (hval 0 36 v0 rfl rfl) h0
  obtain ⟨k, rfl, rfl, rfl, wk⟩ := open_int Try.underlying3 (hval 1 3 v1 rfl rfl) h1
  obtain ⟨A, cA, ls, rfl, hle, hm, hC, hb⟩ := open_ints1 Try.underlying26 Try.underlying3 (by kernel_rfl) (okWide_slice Try.underlying26 (hval 2 26 v2 rfl rfl)) h2
  refine (bt_any wp hp tp k cp z0p z1p A cA ls W hcp hyp hzp (Nat.le_trans hle hm) hC).mono fun e W' ⟨he, hg⟩ => ?_
  subst he
  exact ⟨_, rfl, law_post laidOut_boardTurns (by kernel_rfl) hW rfl rfl Try.underlying4 rfl rfl rfl hg⟩

theorem boardTurns_holds : Rows.BoardTurnsSaid :=
  OpenClaim.holds_of_wide 6 Try.f6 rfl rfl rfl rfl rfl rfl rfl ⟨rfl, rfl, rfl, rfl, rfl⟩ rfl rfl rfl rfl rfl (by kernel_rfl) Try.func6 (by kernel_rfl)
    (of_decide_eq_true (by kernel_rfl)) (by unfold Func.isWrapper; first | (rw [if_pos (by decide +kernel)]; kernel_rfl) | (rw [if_neg (by decide +kernel)]; exact ⟨rfl, rfl⟩))
    (fun os started H enc _ => boardTurns_lifted os started H enc)
#print axioms boardTurns_holds
end Go.Proofs.Ytfoehijlafooaaa
