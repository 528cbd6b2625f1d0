/-
  The machine runs WeakNobody (the kernel reckons it).
-/
import Derived.Test.YtmecnlnjimijnaaGreatSeatALaw
set_option linter.unusedVariables false
set_option linter.unusedSimpArgs false
set_option linter.unusedSectionVars false
set_option maxRecDepth 100000
namespace Go.Proofs.YtmecnlnjimijnaaGreat
open Go.Det
theorem runWeakNobody (a b c : Int) : isTrueO (fast EE 1000000 (.call 4 [.agg [.int .i64 a, .int .i64 b, .int .i64 c]] noMem)) = true := by kernel_rfl
end Go.Proofs.YtmecnlnjimijnaaGreat
