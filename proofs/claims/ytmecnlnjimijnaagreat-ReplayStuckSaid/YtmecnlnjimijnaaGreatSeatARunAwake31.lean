/-
  The machine runs the example of layer 31 (the kernel reckons it).
-/
import Derived.Test.YtmecnlnjimijnaaGreatSeatALaw
import Derived.Test.YtmecnlnjimijnaaGreatDetClosed
set_option linter.unusedVariables false
set_option linter.unusedSimpArgs false
set_option linter.unusedSectionVars false
set_option maxRecDepth 100000
namespace Go.Proofs.YtmecnlnjimijnaaGreat
open Go.Det
theorem runAwake31 : isTrueO (fast EE 1000000 (.call 28 [] noMem)) = true := by kernel_rfl
end Go.Proofs.YtmecnlnjimijnaaGreat
