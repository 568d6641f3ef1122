/- Lemmas of the claim. No conditions beyond those that each states. -/
import Derived.Test.YtmmeopjemkjllaaGreatPU18
import Derived.Test.YtmmeopjemkjllaaGreatPU4
import Derived.Test.YtmmeopjemkjllaaGreatPU9
import Derived.Lib.SliceRun
import Derived.Lib.SmallJoins
import Derived.Maps.AppendAt
import Derived.Deep.AppendLies
set_option linter.unusedVariables false
set_option linter.unusedSimpArgs false
set_option maxRecDepth 100000
set_option maxHeartbeats 8000000
namespace Go.Proofs.YtmmeopjemkjllaaGreat

end Go.Proofs.YtmmeopjemkjllaaGreat
