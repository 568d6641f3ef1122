/- Lemmas of the claim. No conditions beyond those that each states. -/
import Derived.Shelf.SlGeneric
import Derived.Shelf.Small.Bits
import Derived.Test.YtmmeopjemkjllaaGreatProg
set_option linter.unusedVariables false
set_option linter.unusedSimpArgs false
set_option maxRecDepth 100000
set_option maxHeartbeats 8000000
namespace Go.Proofs.YtmmeopjemkjllaaGreat

end Go.Proofs.YtmmeopjemkjllaaGreat
