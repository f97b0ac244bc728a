/- gameref.Rules -/
import Derived.Test.YtdfegpohmaideaaRuCheck2
namespace Go.Proofs.Ytdfegpohmaideaa
open Go.RowKit

theorem rb_bad {r : RulesD} (h : ¬ RulesOk r) : Ending.returned (.bool false) = .returned (.bool (rulesB r)) := by rw [rulesB_false.2 h]
theorem rb_good {r : RulesD} (h : RulesOk r) : Ending.returned (.bool true) = .returned (.bool (rulesB r)) := by rw [rulesB_true.2 h]
end Go.Proofs.Ytdfegpohmaideaa
