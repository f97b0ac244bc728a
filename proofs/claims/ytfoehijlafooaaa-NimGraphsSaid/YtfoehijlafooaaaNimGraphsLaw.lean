/- gamelaw.NimGraphs answers true and leaves what was there as it was, for every two graphs. No condition. -/
import Derived.Test.YtfoehijlafooaaaNimGraphs2
import Derived.Test.YtfoehijlafooaaaOpen
import Derived.Test.YtfoehijlafooaaaLaw
import Derived.ProofKit
namespace Go.Proofs.Ytfoehijlafooaaa
open Go.ChangeShapes Go.WideShapes Go.ChangeAt Go.RowKit

theorem own_nimGraphs : ownKnob Try.prog.godebug = none := by kernel_rfl
theorem laidOut_nimGraphs : laidOutB Try.prog = true := by kernel_rfl

theorem nimGraphs_any (A1 A2 : Option Addr) (c1 c2 : Nat) (a b : List (List Int)) (w : World) (hm1 : a.length ≤ maxLen) (hm2 : b.length ≤ maxLen)
    (hml1 : ∀ k (h : k < a.length), a[k].length ≤ maxLen) (hml2 : ∀ k (h : k < b.length), b[k].length ≤ maxLen)
    (h1 : Rows2 w w.heap.size A1 a) (h2 : Rows2 w w.heap.size A2 b) :
    Calls Try.prog 4 #[.slice A1 a.length c1, .slice A2 b.length c2] w fun e w' => e = .returned (.bool true) ∧ Below w.heap.size w w' := by
  have hx : maxLen = 9223372036854775807 := rfl
  rw [hx] at hm1 hm2
  simp only [hx] at hml1 hml2
  by_cases hT : lookS a = 0 ∧ lookS b = 0 ∧ ¬ 1000 < a.length * b.length
  · exact nimGraphs_b A1 A2 c1 c2 a b w hm1 hm2 hml1 hml2 h1 h2 hT.1 hT.2.1 hT.2.2
  · refine nimGraphs_a A1 A2 c1 c2 a b w hm1 hm2 hml1 hml2 h1 h2 ?_ hT
    unfold bothE
    split
    · assumption
    · rename_i h3
      split
      · assumption
      · rename_i h4
        split
        · decide
        · rename_i h5
          exact absurd ⟨by simpa using h3, by simpa using h4, h5⟩ hT

set_option maxRecDepth 100000 in
theorem nimGraphs_lifted (os : Os) (started : os.Started) (H : Type) (enc : TypeId × Value → H) :
    ReturnsInHanded {} Try.checked os 4 .any (Rows.nimGraphsSpec.pre6 enc Try.prog Try.f4 Rows.nimGraphsRow.domain false) (Rows.nimGraphsSpec.post enc Try.prog Try.f4 false true false false) := by
  refine returnsInHanded_of_change (C := Try.checked) own_nimGraphs started (by kernel_rfl) Try.func4
    (ChangeSpec.witness6 (enc := enc) (C := Try.checked) false ⟨#[], #[.slice none 0 0, .slice none 0 0], []⟩ 8 (by kernel_rfl) (by kernel_rfl) (by kernel_rfl) (by kernel_rfl)) ?_
  intro W base args ds gs before hval0 hW hcnd _
  have hval : ∀ (j : Nat) t v, Try.f4.params[j]? = some t → args[j]? = some v → Value.okWide Try.prog W .any base t v := hval0
  obtain ⟨p, q, hA0, hV, hpq, hfz, hnd⟩ := id hW
  have hA : DataW.TrodAll enc Try.prog W 0 (fun _ => true) true Try.f4.params.toList args.toList ds p := hA0
  obtain ⟨rfl, -⟩ := trodVars_none hV
  rw [Try.params4] at hA hval
  obtain ⟨v0, v1, d0, d1, p0, p1, rfl, rfl, rfl, h0, h1⟩ := trodAll_two hA
  obtain ⟨A1, c1, a, rfl, hle1, hm1, hR1, hk1⟩ := open_rows2 Try.underlying25 Try.underlying26 Try.underlying3 (by kernel_rfl) (by kernel_rfl) (okWide_slice Try.underlying25 (hval 0 25 v0 rfl rfl)) h0
  obtain ⟨A2, c2, b, rfl, hle2, hm2, hR2, hk2⟩ := open_rows2 Try.underlying25 Try.underlying26 Try.underlying3 (by kernel_rfl) (by kernel_rfl) (okWide_slice Try.underlying25 (hval 1 25 v1 rfl rfl)) h1
  refine (nimGraphs_any A1 A2 c1 c2 a b W (Nat.le_trans hle1 hm1) (Nat.le_trans hle2 hm2) hk1 hk2 hR1 hR2).mono fun e W' ⟨he, hg⟩ => ?_
  subst he
  exact ⟨_, rfl, law_post laidOut_nimGraphs (by kernel_rfl) hW rfl rfl Try.underlying4 rfl rfl rfl hg⟩

theorem nimGraphs_holds : Rows.NimGraphsSaid :=
  OpenClaim.holds_of_wide 4 Try.f4 rfl rfl rfl rfl rfl rfl rfl ⟨rfl, rfl, rfl, rfl, rfl⟩ rfl rfl rfl rfl rfl (by kernel_rfl) Try.func4 (by kernel_rfl)
    (of_decide_eq_true (by kernel_rfl)) (by unfold Func.isWrapper; first | (rw [if_pos (by decide +kernel)]; kernel_rfl) | (rw [if_neg (by decide +kernel)]; exact ⟨rfl, rfl⟩))
    (fun os started H enc _ => nimGraphs_lifted os started H enc)
#print axioms nimGraphs_holds
end Go.Proofs.Ytfoehijlafooaaa
