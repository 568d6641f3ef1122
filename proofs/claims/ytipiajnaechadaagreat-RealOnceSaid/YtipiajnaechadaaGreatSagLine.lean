/-
  The line of a sagging run: least, Line. (Printed from XSagLeast by wip/mkline.py.)
-/
import Derived.Test.YtipiajnaechadaaGreatSagLeast
namespace Go.Proofs.YtipiajnaechadaaGreat
set_option linter.unusedVariables false
open Go.RowKit

end Go.Proofs.YtipiajnaechadaaGreat
