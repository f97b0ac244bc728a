/- gameref.hand -/
import Derived.Test.YtdfegpohmaideaaBoardHand
namespace Go.Proofs.Ytdfegpohmaideaa
open Go.RowKit
end Go.Proofs.Ytdfegpohmaideaa
