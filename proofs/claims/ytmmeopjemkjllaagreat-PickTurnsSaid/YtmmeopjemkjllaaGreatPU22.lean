/- Lemmas of the claim. No conditions beyond those that each states. -/
import Derived.Test.YtmmeopjemkjllaaGreatPU8
import Derived.Sort.AssemblyPlain
import Derived.Sort.Grow
import Derived.Lib.SmallJoins
import Derived.RegionTactic
import Derived.ChangeAlike
import Derived.RangeFuncBox
import Derived.Maps.AppendAt
set_option linter.unusedVariables false
set_option linter.unusedSimpArgs false
set_option maxRecDepth 100000
set_option maxHeartbeats 8000000
namespace Go.Proofs.YtmmeopjemkjllaaGreat

end Go.Proofs.YtmmeopjemkjllaaGreat
