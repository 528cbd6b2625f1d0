/-
  The machine runs the example of layer 34 (the kernel reckons it).
-/
import Derived.Test.YthbnlmmidanaiaaGreatSeatBLaw
set_option linter.unusedVariables false
set_option linter.unusedSimpArgs false
set_option linter.unusedSectionVars false
set_option maxRecDepth 100000
namespace Go.Proofs.YthbnlmmidanaiaaGreat
open Go.Det
theorem runAwake34 : isTrueO (fast EE 1000000 (.call 7 [] noMem)) = true := by kernel_rfl
end Go.Proofs.YthbnlmmidanaiaaGreat
