/- gameref.Position: is a position right? -/
import Derived.Test.YtdfegpohmaideaaBoardCheck
namespace Go.Proofs.Ytdfegpohmaideaa
open Go.RowKit

end Go.Proofs.Ytdfegpohmaideaa
