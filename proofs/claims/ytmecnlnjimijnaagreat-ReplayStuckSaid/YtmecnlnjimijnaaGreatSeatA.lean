/-
  The seat's program, as the machine wants it.
-/
import Derived.Test.YtmecnlnjimijnaaGreatDetKnown
import Derived.Test.YtmecnlnjimijnaaGreatPlain
import Derived.KernelRfl
set_option linter.unusedVariables false
set_option linter.unusedSimpArgs false
set_option linter.unusedSectionVars false
set_option maxRecDepth 100000
namespace Go.Proofs.YtmecnlnjimijnaaGreat
open Go.Det

def tableE : List (Nat × List (Nat × List (Nat × Nat))) := [
  (5, [(1, [(1, 3)])]),
  (17, [(4, [])]),
  (19, [(1, [(1, 2)]), (7, []), (8, []), (11, []), (13, []), (19, []), (23, [(5, 9)])]),
  (20, [(3, [])]),
  (22, [(3, [])]),
  (25, [(3, [])]),
  (26, [(3, [(1, 7), (2, 7), (3, 7)])]),
  (28, [(2, [(0, 1), (0, 2)])]),
  (30, [(5, [(1, 3), (3, 5), (1, 6), (1, 8), (1, 10)])]),
  (52, [(4, [])]),
  (60, [(4, [(3, 13), (8, 13), (3, 17), (8, 17)]), (8, [])]),
  (62, [(1, []), (4, [(4, 17), (7, 17), (10, 17)])]),
  (63, [(16, []), (18, []), (20, [])]),
  (64, [(4, [(1, 2)])]),
  (65, [(1, [(6, 10)]), (2, [])]),
  (68, [(6, [])]),
  (69, [(6, [])]),
  (70, [(6, [])]),
  (85, [(4, [])]),
  (103, [(3, [(0, 8), (1, 8)])]),
  (105, [(2, []), (9, [])]),
  (106, [(4, [])]),
  (112, [(1, [(2, 4), (2, 7), (5, 7), (2, 10), (5, 10), (8, 10), (2, 13), (5, 13), (8, 13), (11, 13), (2, 16), (5, 16), (8, 16), (11, 16), (14, 16)]), (5, [(1, 4)])]),
  (113, [(2, []), (5, []), (6, []), (7, []), (16, []), (18, []), (20, []), (23, [(4, 25), (6, 25)]), (25, []), (26, [(13, 20)]), (28, []), (30, []), (32, [])]),
  (115, [(3, [])]),
  (116, [(18, [])]),
  (117, [(14, []), (15, []), (17, [(13, 15)]), (31, [])]),
  (127, [(7, [])]),
  (133, [(1, [])]),
  (134, [(14, [])]),
  (135, [(9, []), (11, [])]),
  (136, [(3, [(2, 4)]), (5, [(5, 10), (7, 10), (15, 20), (17, 20)])]),
  (137, [(12, []), (14, [])]),
  (139, [(6, [])]),
  (154, [(6, []), (9, []), (12, []), (15, [])]),
  (157, [(1, [])]),
  (162, [(4, [])]),
  (167, [(1, []), (2, []), (4, [(4, 21), (6, 21)]), (5, []), (6, [])]),
  (169, [(1, []), (3, []), (7, [(14, 16)]), (13, [])]),
  (171, [(11, [])]),
  (172, [(7, [])]),
  (173, [(5, [])]),
  (180, [(4, []), (12, []), (13, [])]),
  (181, [(3, [(2, 10)]), (6, []), (8, [])]),
  (182, [(7, [(13, 21), (15, 21), (18, 21)])]),
  (202, [(1, [])]),
  (215, [(2, [])]),
  (217, [(8, [])]),
  (218, [(4, []), (8, [])]),
  (219, [(4, []), (6, []), (7, [])]),
  (228, [(1, []), (4, []), (5, [])]),
  (229, [(2, [(0, 7), (2, 7)])]),
  (230, [(1, []), (2, [(2, 10)])]),
  (257, [(4, [])])]

noncomputable def EE : Env := ⟨Tryz.prog, extS 261 260, pairsOf tableE⟩

theorem ok0 : okAll (fun _ _ => none) Tryz.prog.funcs.toList 0 = true := by kernel_rfl
theorem okf5 : okFn (pairsOf tableE) Tryz.prog 5 = true := by kernel_rfl
theorem okf17 : okFn (pairsOf tableE) Tryz.prog 17 = true := by kernel_rfl
theorem okf19 : okFn (pairsOf tableE) Tryz.prog 19 = true := by kernel_rfl
theorem okf20 : okFn (pairsOf tableE) Tryz.prog 20 = true := by kernel_rfl
theorem okf22 : okFn (pairsOf tableE) Tryz.prog 22 = true := by kernel_rfl
theorem okf25 : okFn (pairsOf tableE) Tryz.prog 25 = true := by kernel_rfl
theorem okf26 : okFn (pairsOf tableE) Tryz.prog 26 = true := by kernel_rfl
theorem okf28 : okFn (pairsOf tableE) Tryz.prog 28 = true := by kernel_rfl
theorem okf30 : okFn (pairsOf tableE) Tryz.prog 30 = true := by kernel_rfl
theorem okf52 : okFn (pairsOf tableE) Tryz.prog 52 = true := by kernel_rfl
theorem okf60 : okFn (pairsOf tableE) Tryz.prog 60 = true := by kernel_rfl
theorem okf62 : okFn (pairsOf tableE) Tryz.prog 62 = true := by kernel_rfl
theorem okf63 : okFn (pairsOf tableE) Tryz.prog 63 = true := by kernel_rfl
theorem okf64 : okFn (pairsOf tableE) Tryz.prog 64 = true := by kernel_rfl
theorem okf65 : okFn (pairsOf tableE) Tryz.prog 65 = true := by kernel_rfl
theorem okf68 : okFn (pairsOf tableE) Tryz.prog 68 = true := by kernel_rfl
theorem okf69 : okFn (pairsOf tableE) Tryz.prog 69 = true := by kernel_rfl
theorem okf70 : okFn (pairsOf tableE) Tryz.prog 70 = true := by kernel_rfl
theorem okf85 : okFn (pairsOf tableE) Tryz.prog 85 = true := by kernel_rfl
theorem okf103 : okFn (pairsOf tableE) Tryz.prog 103 = true := by kernel_rfl
theorem okf105 : okFn (pairsOf tableE) Tryz.prog 105 = true := by kernel_rfl
theorem okf106 : okFn (pairsOf tableE) Tryz.prog 106 = true := by kernel_rfl
theorem okf112 : okFn (pairsOf tableE) Tryz.prog 112 = true := by kernel_rfl
theorem okf113 : okFn (pairsOf tableE) Tryz.prog 113 = true := by kernel_rfl
theorem okf115 : okFn (pairsOf tableE) Tryz.prog 115 = true := by kernel_rfl
theorem okf116 : okFn (pairsOf tableE) Tryz.prog 116 = true := by kernel_rfl
theorem okf117 : okFn (pairsOf tableE) Tryz.prog 117 = true := by kernel_rfl
theorem okf127 : okFn (pairsOf tableE) Tryz.prog 127 = true := by kernel_rfl
theorem okf133 : okFn (pairsOf tableE) Tryz.prog 133 = true := by kernel_rfl
theorem okf134 : okFn (pairsOf tableE) Tryz.prog 134 = true := by kernel_rfl
theorem okf135 : okFn (pairsOf tableE) Tryz.prog 135 = true := by kernel_rfl
theorem okf136 : okFn (pairsOf tableE) Tryz.prog 136 = true := by kernel_rfl
theorem okf137 : okFn (pairsOf tableE) Tryz.prog 137 = true := by kernel_rfl
theorem okf139 : okFn (pairsOf tableE) Tryz.prog 139 = true := by kernel_rfl
theorem okf154 : okFn (pairsOf tableE) Tryz.prog 154 = true := by kernel_rfl
theorem okf157 : okFn (pairsOf tableE) Tryz.prog 157 = true := by kernel_rfl
theorem okf162 : okFn (pairsOf tableE) Tryz.prog 162 = true := by kernel_rfl
theorem okf167 : okFn (pairsOf tableE) Tryz.prog 167 = true := by kernel_rfl
theorem okf169 : okFn (pairsOf tableE) Tryz.prog 169 = true := by kernel_rfl
theorem okf171 : okFn (pairsOf tableE) Tryz.prog 171 = true := by kernel_rfl
theorem okf172 : okFn (pairsOf tableE) Tryz.prog 172 = true := by kernel_rfl
theorem okf173 : okFn (pairsOf tableE) Tryz.prog 173 = true := by kernel_rfl
theorem okf180 : okFn (pairsOf tableE) Tryz.prog 180 = true := by kernel_rfl
theorem okf181 : okFn (pairsOf tableE) Tryz.prog 181 = true := by kernel_rfl
theorem okf182 : okFn (pairsOf tableE) Tryz.prog 182 = true := by kernel_rfl
theorem okf202 : okFn (pairsOf tableE) Tryz.prog 202 = true := by kernel_rfl
theorem okf215 : okFn (pairsOf tableE) Tryz.prog 215 = true := by kernel_rfl
theorem okf217 : okFn (pairsOf tableE) Tryz.prog 217 = true := by kernel_rfl
theorem okf218 : okFn (pairsOf tableE) Tryz.prog 218 = true := by kernel_rfl
theorem okf219 : okFn (pairsOf tableE) Tryz.prog 219 = true := by kernel_rfl
theorem okf228 : okFn (pairsOf tableE) Tryz.prog 228 = true := by kernel_rfl
theorem okf229 : okFn (pairsOf tableE) Tryz.prog 229 = true := by kernel_rfl
theorem okf230 : okFn (pairsOf tableE) Tryz.prog 230 = true := by kernel_rfl
theorem okf257 : okFn (pairsOf tableE) Tryz.prog 257 = true := by kernel_rfl
theorem okRows : tableE.all (fun p => okFn (pairsOf tableE) Tryz.prog p.1) = true := by
  show (okFn (pairsOf tableE) Tryz.prog 5 && (okFn (pairsOf tableE) Tryz.prog 17 && (okFn (pairsOf tableE) Tryz.prog 19 && (okFn (pairsOf tableE) Tryz.prog 20 && (okFn (pairsOf tableE) Tryz.prog 22 && (okFn (pairsOf tableE) Tryz.prog 25 && (okFn (pairsOf tableE) Tryz.prog 26 && (okFn (pairsOf tableE) Tryz.prog 28 && (okFn (pairsOf tableE) Tryz.prog 30 && (okFn (pairsOf tableE) Tryz.prog 52 && (okFn (pairsOf tableE) Tryz.prog 60 && (okFn (pairsOf tableE) Tryz.prog 62 && (okFn (pairsOf tableE) Tryz.prog 63 && (okFn (pairsOf tableE) Tryz.prog 64 && (okFn (pairsOf tableE) Tryz.prog 65 && (okFn (pairsOf tableE) Tryz.prog 68 && (okFn (pairsOf tableE) Tryz.prog 69 && (okFn (pairsOf tableE) Tryz.prog 70 && (okFn (pairsOf tableE) Tryz.prog 85 && (okFn (pairsOf tableE) Tryz.prog 103 && (okFn (pairsOf tableE) Tryz.prog 105 && (okFn (pairsOf tableE) Tryz.prog 106 && (okFn (pairsOf tableE) Tryz.prog 112 && (okFn (pairsOf tableE) Tryz.prog 113 && (okFn (pairsOf tableE) Tryz.prog 115 && (okFn (pairsOf tableE) Tryz.prog 116 && (okFn (pairsOf tableE) Tryz.prog 117 && (okFn (pairsOf tableE) Tryz.prog 127 && (okFn (pairsOf tableE) Tryz.prog 133 && (okFn (pairsOf tableE) Tryz.prog 134 && (okFn (pairsOf tableE) Tryz.prog 135 && (okFn (pairsOf tableE) Tryz.prog 136 && (okFn (pairsOf tableE) Tryz.prog 137 && (okFn (pairsOf tableE) Tryz.prog 139 && (okFn (pairsOf tableE) Tryz.prog 154 && (okFn (pairsOf tableE) Tryz.prog 157 && (okFn (pairsOf tableE) Tryz.prog 162 && (okFn (pairsOf tableE) Tryz.prog 167 && (okFn (pairsOf tableE) Tryz.prog 169 && (okFn (pairsOf tableE) Tryz.prog 171 && (okFn (pairsOf tableE) Tryz.prog 172 && (okFn (pairsOf tableE) Tryz.prog 173 && (okFn (pairsOf tableE) Tryz.prog 180 && (okFn (pairsOf tableE) Tryz.prog 181 && (okFn (pairsOf tableE) Tryz.prog 182 && (okFn (pairsOf tableE) Tryz.prog 202 && (okFn (pairsOf tableE) Tryz.prog 215 && (okFn (pairsOf tableE) Tryz.prog 217 && (okFn (pairsOf tableE) Tryz.prog 218 && (okFn (pairsOf tableE) Tryz.prog 219 && (okFn (pairsOf tableE) Tryz.prog 228 && (okFn (pairsOf tableE) Tryz.prog 229 && (okFn (pairsOf tableE) Tryz.prog 230 && (okFn (pairsOf tableE) Tryz.prog 257 && true)))))))))))))))))))))))))))))))))))))))))))))))))))))) = true
  rw [okf5, okf17, okf19, okf20, okf22, okf25, okf26, okf28, okf30, okf52, okf60, okf62, okf63, okf64, okf65, okf68, okf69, okf70, okf85, okf103, okf105, okf106, okf112, okf113, okf115, okf116, okf117, okf127, okf133, okf134, okf135, okf136, okf137, okf139, okf154, okf157, okf162, okf167, okf169, okf171, okf172, okf173, okf180, okf181, okf182, okf202, okf215, okf217, okf218, okf219, okf228, okf229, okf230, okf257]; rfl
theorem nameE : Tryz.prog.funcs.toList.all (fun fn => !(fn.name == "runtime.NumGoroutine")) = true := by kernel_rfl
theorem mixedE : Tryz.prog.follows .mixedOrders = true := by kernel_rfl

theorem knownE : @Known maxLenBeside EE := by
  letI : Beside := maxLenBeside
  refine ⟨ext_good (fun s p k w h1 h2 => Tryz.strings_Contains s p k w h1 h2) (fun s c w => Tryz.strings_IndexByte s c w), ok_of_rows ok0 okRows, mixedE, fun f fn hf => ?_⟩
  have h := List.all_eq_true.mp nameE fn (by
    have : Tryz.prog.funcs.toList[f]? = some fn := by rw [Array.getElem?_toList]; exact hf
    exact List.mem_of_getElem? this)
  simpa using h
end Go.Proofs.YtmecnlnjimijnaaGreat
