/-
  The seat's program: from a run of the machine to what the model does; the closed facts of its rows.
-/
import Derived.Test.YthbnlmmidanaiaaGreatRows
import Derived.Test.YthbnlmmidanaiaaGreatSeatB
import Derived.Test.YthbnlmmidanaiaaGreatDetRow
import Derived.ProofKit
import Derived.HandedShaped
set_option linter.unusedVariables false
set_option linter.unusedSimpArgs false
set_option linter.unusedSectionVars false
set_option maxRecDepth 100000
namespace Go.Proofs.YthbnlmmidanaiaaGreat
open Go.Det Go.ChangeShapes Go.WideShapes Go.ChangeAt Go.RowKit

theorem ownKnob_none : ownKnob Tryz.prog.godebug = none := by kernel_rfl
theorem laidOut : laidOutB Tryz.prog = true := by kernel_rfl

def trueV : DV → Bool
  | .bool b => b
  | _ => false
noncomputable def isTrueO (o : Out) : Bool := Out.rec (motive := fun _ => Bool) (fun v _ => trueV v) (fun _ _ _ => false) false o

theorem run_of_fast {E : Env} {k : Nat} {f : FuncId} {xs : List DV} {m : DH} (h : isTrueO (fast E k (.call f xs m)) = true) : ∃ m', run E k (.call f xs m) = .val (.bool true) m' := by
  rw [← run_fast] at h
  cases hr : run E k (.call f xs m) with
  | val v m' =>
    rw [hr] at h
    have hv : v = .bool true := by
      cases v with
      | bool b => exact congrArg DV.bool h
      | _ => cases h
    subst hv
    exact ⟨m', rfl⟩
  | st x t m => rw [hr] at h; cases h
  | no => rw [hr] at h; cases h

theorem good_of_fast {k : Nat} {f : FuncId} {xs : List DV} (h : isTrueO (fast EE k (.call f xs noMem)) = true) : ∃ m', @GoodCall maxLenBeside Tryz.prog f xs noMem (.bool true) m' := by
  letI : Beside := maxLenBeside
  obtain ⟨m', hr⟩ := run_of_fast h
  exact ⟨m', sound (E := EE) knownE hr⟩

theorem beside_of (W : World) (h : W.ShapedOpen Tryz.prog) : @Beside.holds maxLenBeside (fun b => b < W.heap.size) W := by
  obtain ⟨k, hk⟩ := Tryz.laysM144.s1_3 W h
  exact ⟨lt_of_cell hk, k, hk⟩
end Go.Proofs.YthbnlmmidanaiaaGreat
