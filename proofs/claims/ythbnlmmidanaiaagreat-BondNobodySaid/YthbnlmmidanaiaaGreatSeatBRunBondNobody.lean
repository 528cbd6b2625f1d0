/-
  The machine runs BondNobody (the kernel reckons it).
-/
import Derived.Test.YthbnlmmidanaiaaGreatSeatBLaw
set_option linter.unusedVariables false
set_option linter.unusedSimpArgs false
set_option linter.unusedSectionVars false
set_option maxRecDepth 100000
namespace Go.Proofs.YthbnlmmidanaiaaGreat
open Go.Det
theorem runBondNobody : isTrueO (fast EE 1000000 (.call 4 [.junk] noMem)) = true := by kernel_rfl
end Go.Proofs.YthbnlmmidanaiaaGreat
