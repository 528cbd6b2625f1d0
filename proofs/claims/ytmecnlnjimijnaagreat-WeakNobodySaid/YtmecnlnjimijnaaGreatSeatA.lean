/-
  The seat's program, as the machine wants it.
-/
import Derived.Test.YtmecnlnjimijnaaGreatDetKnown
import Derived.Test.YtmecnlnjimijnaaGreatPlain
import Derived.KernelRfl
set_option linter.unusedVariables false
set_option linter.unusedSimpArgs false
set_option linter.unusedSectionVars false
set_option maxRecDepth 100000
namespace Go.Proofs.YtmecnlnjimijnaaGreat
open Go.Det

def tableE : List (Nat × List (Nat × List (Nat × Nat))) := [
  (5, [(1, [(1, 3)])]),
  (17, [(4, [])]),
  (19, [(1, [(1, 2)]), (7, []), (8, []), (11, []), (13, []), (19, []), (23, [(5, 9)])]),
  (20, [(3, [])]),
  (22, [(3, [])]),
  (25, [(3, [])]),
  (26, [(3, [(1, 7), (2, 7), (3, 7)])]),
  (28, [(2, [(0, 1), (0, 2)])]),
  (30, [(5, [(1, 3), (3, 5), (1, 6), (1, 8), (1, 10)])]),
  (52, [(4, [])]),
  (60, [(4, [(3, 13), (8, 13), (3, 17), (8, 17)]), (8, [])]),
  (62, [(1, []), (4, [(4, 17), (7, 17), (10, 17)])]),
  (63, [(16, []), (18, []), (20, [])]),
  (64, [(4, [(1, 2)])]),
  (65, [(1, [(6, 10)]), (2, [])]),
  (68, [(6, [])]),
  (69, [(6, [])]),
  (70, [(6, [])]),
  (85, [(4, [])]),
  (103, [(3, [(0, 8), (1, 8)])]),
  (105, [(2, []), (9, [])]),
  (106, [(4, [])]),
  (112, [(1, [(2, 4), (2, 7), (5, 7), (2, 10), (5, 10), (8, 10), (2, 13), (5, 13), (8, 13), (11, 13), (2, 16), (5, 16), (8, 16), (11, 16), (14, 16)]), (5, [(1, 4)])]),
  (113, [(2, []), (5, []), (6, []), (7, []), (16, []), (18, []), (20, []), (23, [(4, 25), (6, 25)]), (25, []), (26, [(13, 20)]), (28, []), (30, []), (32, [])]),
  (115, [(3, [])]),
  (116, [(18, [])]),
  (117, [(14, []), (15, []), (17, [(13, 15)]), (31, [])]),
  (127, [(7, [])]),
  (133, [(1, [])]),
  (134, [(14, [])]),
  (135, [(9, []), (11, [])]),
  (136, [(3, [(2, 4)]), (5, [(5, 10), (7, 10), (15, 20), (17, 20)])]),
  (137, [(12, []), (14, [])]),
  (139, [(6, [])]),
  (154, [(6, []), (9, []), (12, []), (15, [])]),
  (157, [(1, [])]),
  (162, [(4, [])]),
  (167, [(1, []), (2, []), (4, [(4, 21), (6, 21)]), (5, []), (6, [])]),
  (169, [(1, []), (3, []), (7, [(14, 16)]), (13, [])]),
  (171, [(11, [])]),
  (172, [(7, [])]),
  (173, [(5, [])]),
  (180, [(4, []), (12, []), (13, [])]),
  (181, [(3, [(2, 10)]), (6, []), (8, [])]),
  (182, [(7, [(13, 21), (15, 21), (18, 21)])]),
  (202, [(1, [])]),
  (215, [(2, [])]),
  (217, [(8, [])]),
  (218, [(4, []), (8, [])]),
  (219, [(4, []), (6, []), (7, [])]),
  (228, [(1, []), (4, []), (5, [])]),
  (229, [(2, [(0, 7), (2, 7)])]),
  (230, [(1, []), (2, [(2, 10)])]),
  (257, [(4, [])])]

noncomputable def EE : Env := ⟨Tryz.prog, extS 261 260, pairsOf tableE⟩

theorem ok0 : okAll (fun _ _ => none) Tryz.prog.funcs.toList 0 = true := by kernel_rfl
theorem ok5_ : okFn (pairsOf tableE) Tryz.prog 5 = true := by kernel_rfl
theorem ok17_ : okFn (pairsOf tableE) Tryz.prog 17 = true := by kernel_rfl
theorem ok19_ : okFn (pairsOf tableE) Tryz.prog 19 = true := by kernel_rfl
theorem ok20_ : okFn (pairsOf tableE) Tryz.prog 20 = true := by kernel_rfl
theorem ok22_ : okFn (pairsOf tableE) Tryz.prog 22 = true := by kernel_rfl
theorem ok25_ : okFn (pairsOf tableE) Tryz.prog 25 = true := by kernel_rfl
theorem ok26_ : okFn (pairsOf tableE) Tryz.prog 26 = true := by kernel_rfl
theorem ok28_ : okFn (pairsOf tableE) Tryz.prog 28 = true := by kernel_rfl
theorem ok30_ : okFn (pairsOf tableE) Tryz.prog 30 = true := by kernel_rfl
theorem ok52_ : okFn (pairsOf tableE) Tryz.prog 52 = true := by kernel_rfl
theorem ok60_ : okFn (pairsOf tableE) Tryz.prog 60 = true := by kernel_rfl
theorem ok62_ : okFn (pairsOf tableE) Tryz.prog 62 = true := by kernel_rfl
theorem ok63_ : okFn (pairsOf tableE) Tryz.prog 63 = true := by kernel_rfl
theorem ok64_ : okFn (pairsOf tableE) Tryz.prog 64 = true := by kernel_rfl
theorem ok65_ : okFn (pairsOf tableE) Tryz.prog 65 = true := by kernel_rfl
theorem ok68_ : okFn (pairsOf tableE) Tryz.prog 68 = true := by kernel_rfl
theorem ok69_ : okFn (pairsOf tableE) Tryz.prog 69 = true := by kernel_rfl
theorem ok70_ : okFn (pairsOf tableE) Tryz.prog 70 = true := by kernel_rfl
theorem ok85_ : okFn (pairsOf tableE) Tryz.prog 85 = true := by kernel_rfl
theorem ok103_ : okFn (pairsOf tableE) Tryz.prog 103 = true := by kernel_rfl
theorem ok105_ : okFn (pairsOf tableE) Tryz.prog 105 = true := by kernel_rfl
theorem ok106_ : okFn (pairsOf tableE) Tryz.prog 106 = true := by kernel_rfl
theorem ok112_ : okFn (pairsOf tableE) Tryz.prog 112 = true := by kernel_rfl
theorem ok113_ : okFn (pairsOf tableE) Tryz.prog 113 = true := by kernel_rfl
theorem ok115_ : okFn (pairsOf tableE) Tryz.prog 115 = true := by kernel_rfl
theorem ok116_ : okFn (pairsOf tableE) Tryz.prog 116 = true := by kernel_rfl
theorem ok117_ : okFn (pairsOf tableE) Tryz.prog 117 = true := by kernel_rfl
theorem ok127_ : okFn (pairsOf tableE) Tryz.prog 127 = true := by kernel_rfl
theorem ok133_ : okFn (pairsOf tableE) Tryz.prog 133 = true := by kernel_rfl
theorem ok134_ : okFn (pairsOf tableE) Tryz.prog 134 = true := by kernel_rfl
theorem ok135_ : okFn (pairsOf tableE) Tryz.prog 135 = true := by kernel_rfl
theorem ok136_ : okFn (pairsOf tableE) Tryz.prog 136 = true := by kernel_rfl
theorem ok137_ : okFn (pairsOf tableE) Tryz.prog 137 = true := by kernel_rfl
theorem ok139_ : okFn (pairsOf tableE) Tryz.prog 139 = true := by kernel_rfl
theorem ok154_ : okFn (pairsOf tableE) Tryz.prog 154 = true := by kernel_rfl
theorem ok157_ : okFn (pairsOf tableE) Tryz.prog 157 = true := by kernel_rfl
theorem ok162_ : okFn (pairsOf tableE) Tryz.prog 162 = true := by kernel_rfl
theorem ok167_ : okFn (pairsOf tableE) Tryz.prog 167 = true := by kernel_rfl
theorem ok169_ : okFn (pairsOf tableE) Tryz.prog 169 = true := by kernel_rfl
theorem ok171_ : okFn (pairsOf tableE) Tryz.prog 171 = true := by kernel_rfl
theorem ok172_ : okFn (pairsOf tableE) Tryz.prog 172 = true := by kernel_rfl
theorem ok173_ : okFn (pairsOf tableE) Tryz.prog 173 = true := by kernel_rfl
theorem ok180_ : okFn (pairsOf tableE) Tryz.prog 180 = true := by kernel_rfl
theorem ok181_ : okFn (pairsOf tableE) Tryz.prog 181 = true := by kernel_rfl
theorem ok182_ : okFn (pairsOf tableE) Tryz.prog 182 = true := by kernel_rfl
theorem ok202_ : okFn (pairsOf tableE) Tryz.prog 202 = true := by kernel_rfl
theorem ok215_ : okFn (pairsOf tableE) Tryz.prog 215 = true := by kernel_rfl
theorem ok217_ : okFn (pairsOf tableE) Tryz.prog 217 = true := by kernel_rfl
theorem ok218_ : okFn (pairsOf tableE) Tryz.prog 218 = true := by kernel_rfl
theorem ok219_ : okFn (pairsOf tableE) Tryz.prog 219 = true := by kernel_rfl
theorem ok228_ : okFn (pairsOf tableE) Tryz.prog 228 = true := by kernel_rfl
theorem ok229_ : okFn (pairsOf tableE) Tryz.prog 229 = true := by kernel_rfl
theorem ok230_ : okFn (pairsOf tableE) Tryz.prog 230 = true := by kernel_rfl
theorem ok257_ : okFn (pairsOf tableE) Tryz.prog 257 = true := by kernel_rfl
theorem okRows : tableE.all (fun p => okFn (pairsOf tableE) Tryz.prog p.1) = true := by
  show (okFn (pairsOf tableE) Tryz.prog 5 && (okFn (pairsOf tableE) Tryz.prog 17 && (okFn (pairsOf tableE) Tryz.prog 19 && (okFn (pairsOf tableE) Tryz.prog 20 && (okFn (pairsOf tableE) Tryz.prog 22 && (okFn (pairsOf tableE) Tryz.prog 25 && (okFn (pairsOf tableE) Tryz.prog 26 && (okFn (pairsOf tableE) Tryz.prog 28 && (okFn (pairsOf tableE) Tryz.prog 30 && (okFn (pairsOf tableE) Tryz.prog 52 && (okFn (pairsOf tableE) Tryz.prog 60 && (okFn (pairsOf tableE) Tryz.prog 62 && (okFn (pairsOf tableE) Tryz.prog 63 && (okFn (pairsOf tableE) Tryz.prog 64 && (okFn (pairsOf tableE) Tryz.prog 65 && (okFn (pairsOf tableE) Tryz.prog 68 && (okFn (pairsOf tableE) Tryz.prog 69 && (okFn (pairsOf tableE) Tryz.prog 70 && (okFn (pairsOf tableE) Tryz.prog 85 && (okFn (pairsOf tableE) Tryz.prog 103 && (okFn (pairsOf tableE) Tryz.prog 105 && (okFn (pairsOf tableE) Tryz.prog 106 && (okFn (pairsOf tableE) Tryz.prog 112 && (okFn (pairsOf tableE) Tryz.prog 113 && (okFn (pairsOf tableE) Tryz.prog 115 && (okFn (pairsOf tableE) Tryz.prog 116 && (okFn (pairsOf tableE) Tryz.prog 117 && (okFn (pairsOf tableE) Tryz.prog 127 && (okFn (pairsOf tableE) Tryz.prog 133 && (okFn (pairsOf tableE) Tryz.prog 134 && (okFn (pairsOf tableE) Tryz.prog 135 && (okFn (pairsOf tableE) Tryz.prog 136 && (okFn (pairsOf tableE) Tryz.prog 137 && (okFn (pairsOf tableE) Tryz.prog 139 && (okFn (pairsOf tableE) Tryz.prog 154 && (okFn (pairsOf tableE) Tryz.prog 157 && (okFn (pairsOf tableE) Tryz.prog 162 && (okFn (pairsOf tableE) Tryz.prog 167 && (okFn (pairsOf tableE) Tryz.prog 169 && (okFn (pairsOf tableE) Tryz.prog 171 && (okFn (pairsOf tableE) Tryz.prog 172 && (okFn (pairsOf tableE) Tryz.prog 173 && (okFn (pairsOf tableE) Tryz.prog 180 && (okFn (pairsOf tableE) Tryz.prog 181 && (okFn (pairsOf tableE) Tryz.prog 182 && (okFn (pairsOf tableE) Tryz.prog 202 && (okFn (pairsOf tableE) Tryz.prog 215 && (okFn (pairsOf tableE) Tryz.prog 217 && (okFn (pairsOf tableE) Tryz.prog 218 && (okFn (pairsOf tableE) Tryz.prog 219 && (okFn (pairsOf tableE) Tryz.prog 228 && (okFn (pairsOf tableE) Tryz.prog 229 && (okFn (pairsOf tableE) Tryz.prog 230 && (okFn (pairsOf tableE) Tryz.prog 257 && true)))))))))))))))))))))))))))))))))))))))))))))))))))))) = true
  rw [ok5_, ok17_, ok19_, ok20_, ok22_, ok25_, ok26_, ok28_, ok30_, ok52_, ok60_, ok62_, ok63_, ok64_, ok65_, ok68_, ok69_, ok70_, ok85_, ok103_, ok105_, ok106_, ok112_, ok113_, ok115_, ok116_, ok117_, ok127_, ok133_, ok134_, ok135_, ok136_, ok137_, ok139_, ok154_, ok157_, ok162_, ok167_, ok169_, ok171_, ok172_, ok173_, ok180_, ok181_, ok182_, ok202_, ok215_, ok217_, ok218_, ok219_, ok228_, ok229_, ok230_, ok257_]; rfl
theorem nameE : Tryz.prog.funcs.toList.all (fun fn => !(fn.name == "runtime.NumGoroutine")) = true := by kernel_rfl
theorem mixedE : Tryz.prog.follows .mixedOrders = true := by kernel_rfl

theorem knownE : @Known maxLenBeside EE := by
  letI : Beside := maxLenBeside
  refine ⟨ext_good (fun s p k w h1 h2 => Tryz.strings_Contains s p k w h1 h2) (fun s c w => Tryz.strings_IndexByte s c w), ok_of_rows ok0 okRows, mixedE, fun f fn hf => ?_⟩
  have h := List.all_eq_true.mp nameE fn (by
    have : Tryz.prog.funcs.toList[f]? = some fn := by rw [Array.getElem?_toList]; exact hf
    exact List.mem_of_getElem? this)
  simpa using h
end Go.Proofs.YtmecnlnjimijnaaGreat
