/-
  The small questions of a sagging run that has copies: Last, Starts, Kept.
-/
import Derived.Test.YtipiajnaechadaaGreatSagLeast
namespace Go.Proofs.YtipiajnaechadaaGreat
set_option linter.unusedVariables false
open Go.RowKit


end Go.Proofs.YtipiajnaechadaaGreat
