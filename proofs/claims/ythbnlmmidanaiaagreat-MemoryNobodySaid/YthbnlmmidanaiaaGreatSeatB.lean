/-
  The seat's program, as the machine wants it.
-/
import Derived.Test.YthbnlmmidanaiaaGreatDetKnown
import Derived.Test.YthbnlmmidanaiaaGreatPlain
import Derived.KernelRfl
set_option linter.unusedVariables false
set_option linter.unusedSimpArgs false
set_option linter.unusedSectionVars false
set_option maxRecDepth 100000
namespace Go.Proofs.YthbnlmmidanaiaaGreat
open Go.Det

def tableE : List (Nat × List (Nat × List (Nat × Nat))) := [
  (8, [(2, [(0, 6), (1, 6), (4, 6), (0, 8)])]),
  (10, [(3, [(5, 10)])]),
  (13, [(3, [])]),
  (14, [(3, [(3, 6)])]),
  (15, [(8, []), (10, [(4, 11), (7, 11), (4, 13), (7, 13)]), (12, [])]),
  (17, [(15, [(3, 15)])]),
  (19, [(3, []), (19, []), (33, [])]),
  (20, [(8, [(1, 8), (2, 8), (1, 9)]), (13, [(1, 12)]), (25, []), (27, [])]),
  (29, [(9, [(5, 7), (5, 8)]), (10, [(5, 7), (5, 8)]), (11, [])]),
  (31, [(1, [(1, 7), (2, 7), (3, 7), (5, 7)])]),
  (41, [(2, [(4, 7), (4, 11)])]),
  (55, [(1, [])]),
  (57, [(6, [(3, 9), (9, 13), (9, 17), (3, 19), (13, 19), (9, 23), (19, 23), (3, 24), (13, 24), (3, 27), (13, 27), (3, 29), (13, 29), (3, 30)])]),
  (58, [(5, []), (6, [(4, 10), (10, 14), (4, 17)])]),
  (62, [(3, [(1, 7), (2, 7), (3, 7)])]),
  (65, [(8, [(3, 9), (9, 13), (3, 15)]), (9, [(4, 16), (9, 16), (4, 17), (9, 17), (16, 21), (17, 21), (4, 24), (9, 24), (4, 25), (9, 25), (4, 26)])]),
  (66, [(0, [(4, 6)])]),
  (68, [(16, [(2, 5)]), (17, []), (18, [(2, 4)])]),
  (72, [(1, [(3, 10), (10, 14), (3, 17), (3, 18)])]),
  (74, [(1, [(1, 6), (2, 6), (3, 6)])]),
  (76, [(3, [(0, 1)]), (6, [(4, 11)])]),
  (77, [(10, [(3, 6)]), (11, []), (23, [])]),
  (78, [(10, [(3, 6)]), (23, [])]),
  (79, [(11, [])]),
  (80, [(8, [])]),
  (88, [(5, []), (7, [])]),
  (90, [(3, [])]),
  (94, [(21, []), (26, [])]),
  (96, [(1, [])]),
  (99, [(6, [])]),
  (104, [(9, [(2, 6)])]),
  (105, [(5, [(5, 11), (11, 16), (11, 21), (11, 25), (11, 28), (11, 33), (5, 34)]), (9, [(5, 11), (11, 15), (5, 17)]), (14, [(4, 9), (5, 9)]), (16, [(4, 9), (5, 9), (4, 17), (5, 17), (12, 17), (13, 17)])]),
  (106, [(3, []), (4, [(5, 10), (6, 10), (5, 17), (6, 17), (12, 17), (13, 17)]), (5, []), (8, [(5, 9), (5, 16), (12, 16)])]),
  (107, [(7, [(5, 11), (11, 15), (5, 17)]), (16, [(8, 13), (9, 13)]), (17, [(8, 12)])]),
  (108, [(15, []), (18, [(6, 11), (7, 11)]), (23, [(6, 11), (7, 11), (6, 20), (7, 20), (13, 20), (14, 20), (16, 20)])]),
  (110, [(1, [(0, 11), (1, 11), (4, 11), (11, 12), (11, 15), (11, 16), (11, 19), (11, 21), (0, 22), (1, 22), (4, 22), (12, 22), (15, 22), (0, 23), (1, 23), (4, 23), (0, 24), (1, 24), (4, 24), (0, 25)])]),
  (115, [(1, [(0, 7)])]),
  (116, [(7, []), (9, [(3, 10), (3, 11)])]),
  (117, [(3, []), (4, [(3, 6)]), (12, [(3, 12), (8, 12), (3, 13)])]),
  (126, [(3, []), (5, []), (6, []), (9, []), (11, [(3, 16), (16, 20), (16, 22), (16, 24), (16, 28), (16, 30), (16, 32)]), (12, [])]),
  (127, [(11, [(3, 17)]), (14, []), (15, [(3, 10), (8, 10), (3, 12)]), (17, [(3, 6)]), (24, [(8, 12)])]),
  (130, [(18, [])]),
  (133, [(2, []), (5, [(2, 7)]), (6, [])]),
  (134, [(4, []), (6, [(2, 6), (6, 11), (6, 14), (6, 17)]), (7, [(2, 6), (6, 11), (6, 13), (6, 15), (6, 18), (6, 23), (6, 26), (6, 29)])]),
  (135, [(6, [(0, 1)])]),
  (136, [(8, [(0, 1)])]),
  (142, [(4, []), (6, [])]),
  (143, [(5, []), (11, []), (17, []), (23, []), (35, [])]),
  (150, [(8, [])]),
  (151, [(1, [])]),
  (153, [(1, [])]),
  (157, [(5, [])]),
  (159, [(5, [])]),
  (166, [(2, [(0, 2), (2, 3), (0, 6), (0, 7)])]),
  (169, [(1, [])]),
  (170, [(14, [])]),
  (172, [(9, []), (11, [])]),
  (173, [(3, [(2, 4)]), (5, [(5, 10), (7, 10), (15, 20), (17, 20)])]),
  (174, [(12, []), (14, [])]),
  (186, [(4, [(1, 5), (3, 5), (4, 5)])]),
  (187, [(7, [])]),
  (195, [(4, []), (12, []), (13, [])]),
  (196, [(3, [(2, 10)]), (6, []), (8, [])]),
  (198, [(4, [])]),
  (199, [(7, [(13, 21), (15, 21), (18, 21)])]),
  (207, [(11, [])]),
  (208, [(11, []), (20, []), (24, [])]),
  (217, [(3, [])]),
  (227, [(1, []), (4, []), (5, [])]),
  (228, [(2, [(0, 7), (2, 7)])]),
  (229, [(1, []), (2, [(2, 10)])]),
  (236, [(11, [])]),
  (258, [(4, [])])]

noncomputable def EE : Env := ⟨Tryz.prog, extS 262 261, pairsOf tableE⟩

theorem ok0 : okAll (fun _ _ => none) Tryz.prog.funcs.toList 0 = true := by kernel_rfl
theorem okf8 : okFn (pairsOf tableE) Tryz.prog 8 = true := by kernel_rfl
theorem okf10 : okFn (pairsOf tableE) Tryz.prog 10 = true := by kernel_rfl
theorem okf13 : okFn (pairsOf tableE) Tryz.prog 13 = true := by kernel_rfl
theorem okf14 : okFn (pairsOf tableE) Tryz.prog 14 = true := by kernel_rfl
theorem okf15 : okFn (pairsOf tableE) Tryz.prog 15 = true := by kernel_rfl
theorem okf17 : okFn (pairsOf tableE) Tryz.prog 17 = true := by kernel_rfl
theorem okf19 : okFn (pairsOf tableE) Tryz.prog 19 = true := by kernel_rfl
theorem okf20 : okFn (pairsOf tableE) Tryz.prog 20 = true := by kernel_rfl
theorem okf29 : okFn (pairsOf tableE) Tryz.prog 29 = true := by kernel_rfl
theorem okf31 : okFn (pairsOf tableE) Tryz.prog 31 = true := by kernel_rfl
theorem okf41 : okFn (pairsOf tableE) Tryz.prog 41 = true := by kernel_rfl
theorem okf55 : okFn (pairsOf tableE) Tryz.prog 55 = true := by kernel_rfl
theorem okf57 : okFn (pairsOf tableE) Tryz.prog 57 = true := by kernel_rfl
theorem okf58 : okFn (pairsOf tableE) Tryz.prog 58 = true := by kernel_rfl
theorem okf62 : okFn (pairsOf tableE) Tryz.prog 62 = true := by kernel_rfl
theorem okf65 : okFn (pairsOf tableE) Tryz.prog 65 = true := by kernel_rfl
theorem okf66 : okFn (pairsOf tableE) Tryz.prog 66 = true := by kernel_rfl
theorem okf68 : okFn (pairsOf tableE) Tryz.prog 68 = true := by kernel_rfl
theorem okf72 : okFn (pairsOf tableE) Tryz.prog 72 = true := by kernel_rfl
theorem okf74 : okFn (pairsOf tableE) Tryz.prog 74 = true := by kernel_rfl
theorem okf76 : okFn (pairsOf tableE) Tryz.prog 76 = true := by kernel_rfl
theorem okf77 : okFn (pairsOf tableE) Tryz.prog 77 = true := by kernel_rfl
theorem okf78 : okFn (pairsOf tableE) Tryz.prog 78 = true := by kernel_rfl
theorem okf79 : okFn (pairsOf tableE) Tryz.prog 79 = true := by kernel_rfl
theorem okf80 : okFn (pairsOf tableE) Tryz.prog 80 = true := by kernel_rfl
theorem okf88 : okFn (pairsOf tableE) Tryz.prog 88 = true := by kernel_rfl
theorem okf90 : okFn (pairsOf tableE) Tryz.prog 90 = true := by kernel_rfl
theorem okf94 : okFn (pairsOf tableE) Tryz.prog 94 = true := by kernel_rfl
theorem okf96 : okFn (pairsOf tableE) Tryz.prog 96 = true := by kernel_rfl
theorem okf99 : okFn (pairsOf tableE) Tryz.prog 99 = true := by kernel_rfl
theorem okf104 : okFn (pairsOf tableE) Tryz.prog 104 = true := by kernel_rfl
theorem okf105 : okFn (pairsOf tableE) Tryz.prog 105 = true := by kernel_rfl
theorem okf106 : okFn (pairsOf tableE) Tryz.prog 106 = true := by kernel_rfl
theorem okf107 : okFn (pairsOf tableE) Tryz.prog 107 = true := by kernel_rfl
theorem okf108 : okFn (pairsOf tableE) Tryz.prog 108 = true := by kernel_rfl
theorem okf110 : okFn (pairsOf tableE) Tryz.prog 110 = true := by kernel_rfl
theorem okf115 : okFn (pairsOf tableE) Tryz.prog 115 = true := by kernel_rfl
theorem okf116 : okFn (pairsOf tableE) Tryz.prog 116 = true := by kernel_rfl
theorem okf117 : okFn (pairsOf tableE) Tryz.prog 117 = true := by kernel_rfl
theorem okf126 : okFn (pairsOf tableE) Tryz.prog 126 = true := by kernel_rfl
theorem okf127 : okFn (pairsOf tableE) Tryz.prog 127 = true := by kernel_rfl
theorem okf130 : okFn (pairsOf tableE) Tryz.prog 130 = true := by kernel_rfl
theorem okf133 : okFn (pairsOf tableE) Tryz.prog 133 = true := by kernel_rfl
theorem okf134 : okFn (pairsOf tableE) Tryz.prog 134 = true := by kernel_rfl
theorem okf135 : okFn (pairsOf tableE) Tryz.prog 135 = true := by kernel_rfl
theorem okf136 : okFn (pairsOf tableE) Tryz.prog 136 = true := by kernel_rfl
theorem okf142 : okFn (pairsOf tableE) Tryz.prog 142 = true := by kernel_rfl
theorem okf143 : okFn (pairsOf tableE) Tryz.prog 143 = true := by kernel_rfl
theorem okf150 : okFn (pairsOf tableE) Tryz.prog 150 = true := by kernel_rfl
theorem okf151 : okFn (pairsOf tableE) Tryz.prog 151 = true := by kernel_rfl
theorem okf153 : okFn (pairsOf tableE) Tryz.prog 153 = true := by kernel_rfl
theorem okf157 : okFn (pairsOf tableE) Tryz.prog 157 = true := by kernel_rfl
theorem okf159 : okFn (pairsOf tableE) Tryz.prog 159 = true := by kernel_rfl
theorem okf166 : okFn (pairsOf tableE) Tryz.prog 166 = true := by kernel_rfl
theorem okf169 : okFn (pairsOf tableE) Tryz.prog 169 = true := by kernel_rfl
theorem okf170 : okFn (pairsOf tableE) Tryz.prog 170 = true := by kernel_rfl
theorem okf172 : okFn (pairsOf tableE) Tryz.prog 172 = true := by kernel_rfl
theorem okf173 : okFn (pairsOf tableE) Tryz.prog 173 = true := by kernel_rfl
theorem okf174 : okFn (pairsOf tableE) Tryz.prog 174 = true := by kernel_rfl
theorem okf186 : okFn (pairsOf tableE) Tryz.prog 186 = true := by kernel_rfl
theorem okf187 : okFn (pairsOf tableE) Tryz.prog 187 = true := by kernel_rfl
theorem okf195 : okFn (pairsOf tableE) Tryz.prog 195 = true := by kernel_rfl
theorem okf196 : okFn (pairsOf tableE) Tryz.prog 196 = true := by kernel_rfl
theorem okf198 : okFn (pairsOf tableE) Tryz.prog 198 = true := by kernel_rfl
theorem okf199 : okFn (pairsOf tableE) Tryz.prog 199 = true := by kernel_rfl
theorem okf207 : okFn (pairsOf tableE) Tryz.prog 207 = true := by kernel_rfl
theorem okf208 : okFn (pairsOf tableE) Tryz.prog 208 = true := by kernel_rfl
theorem okf217 : okFn (pairsOf tableE) Tryz.prog 217 = true := by kernel_rfl
theorem okf227 : okFn (pairsOf tableE) Tryz.prog 227 = true := by kernel_rfl
theorem okf228 : okFn (pairsOf tableE) Tryz.prog 228 = true := by kernel_rfl
theorem okf229 : okFn (pairsOf tableE) Tryz.prog 229 = true := by kernel_rfl
theorem okf236 : okFn (pairsOf tableE) Tryz.prog 236 = true := by kernel_rfl
theorem okf258 : okFn (pairsOf tableE) Tryz.prog 258 = true := by kernel_rfl
theorem okRows : tableE.all (fun p => okFn (pairsOf tableE) Tryz.prog p.1) = true := by
  show (okFn (pairsOf tableE) Tryz.prog 8 && (okFn (pairsOf tableE) Tryz.prog 10 && (okFn (pairsOf tableE) Tryz.prog 13 && (okFn (pairsOf tableE) Tryz.prog 14 && (okFn (pairsOf tableE) Tryz.prog 15 && (okFn (pairsOf tableE) Tryz.prog 17 && (okFn (pairsOf tableE) Tryz.prog 19 && (okFn (pairsOf tableE) Tryz.prog 20 && (okFn (pairsOf tableE) Tryz.prog 29 && (okFn (pairsOf tableE) Tryz.prog 31 && (okFn (pairsOf tableE) Tryz.prog 41 && (okFn (pairsOf tableE) Tryz.prog 55 && (okFn (pairsOf tableE) Tryz.prog 57 && (okFn (pairsOf tableE) Tryz.prog 58 && (okFn (pairsOf tableE) Tryz.prog 62 && (okFn (pairsOf tableE) Tryz.prog 65 && (okFn (pairsOf tableE) Tryz.prog 66 && (okFn (pairsOf tableE) Tryz.prog 68 && (okFn (pairsOf tableE) Tryz.prog 72 && (okFn (pairsOf tableE) Tryz.prog 74 && (okFn (pairsOf tableE) Tryz.prog 76 && (okFn (pairsOf tableE) Tryz.prog 77 && (okFn (pairsOf tableE) Tryz.prog 78 && (okFn (pairsOf tableE) Tryz.prog 79 && (okFn (pairsOf tableE) Tryz.prog 80 && (okFn (pairsOf tableE) Tryz.prog 88 && (okFn (pairsOf tableE) Tryz.prog 90 && (okFn (pairsOf tableE) Tryz.prog 94 && (okFn (pairsOf tableE) Tryz.prog 96 && (okFn (pairsOf tableE) Tryz.prog 99 && (okFn (pairsOf tableE) Tryz.prog 104 && (okFn (pairsOf tableE) Tryz.prog 105 && (okFn (pairsOf tableE) Tryz.prog 106 && (okFn (pairsOf tableE) Tryz.prog 107 && (okFn (pairsOf tableE) Tryz.prog 108 && (okFn (pairsOf tableE) Tryz.prog 110 && (okFn (pairsOf tableE) Tryz.prog 115 && (okFn (pairsOf tableE) Tryz.prog 116 && (okFn (pairsOf tableE) Tryz.prog 117 && (okFn (pairsOf tableE) Tryz.prog 126 && (okFn (pairsOf tableE) Tryz.prog 127 && (okFn (pairsOf tableE) Tryz.prog 130 && (okFn (pairsOf tableE) Tryz.prog 133 && (okFn (pairsOf tableE) Tryz.prog 134 && (okFn (pairsOf tableE) Tryz.prog 135 && (okFn (pairsOf tableE) Tryz.prog 136 && (okFn (pairsOf tableE) Tryz.prog 142 && (okFn (pairsOf tableE) Tryz.prog 143 && (okFn (pairsOf tableE) Tryz.prog 150 && (okFn (pairsOf tableE) Tryz.prog 151 && (okFn (pairsOf tableE) Tryz.prog 153 && (okFn (pairsOf tableE) Tryz.prog 157 && (okFn (pairsOf tableE) Tryz.prog 159 && (okFn (pairsOf tableE) Tryz.prog 166 && (okFn (pairsOf tableE) Tryz.prog 169 && (okFn (pairsOf tableE) Tryz.prog 170 && (okFn (pairsOf tableE) Tryz.prog 172 && (okFn (pairsOf tableE) Tryz.prog 173 && (okFn (pairsOf tableE) Tryz.prog 174 && (okFn (pairsOf tableE) Tryz.prog 186 && (okFn (pairsOf tableE) Tryz.prog 187 && (okFn (pairsOf tableE) Tryz.prog 195 && (okFn (pairsOf tableE) Tryz.prog 196 && (okFn (pairsOf tableE) Tryz.prog 198 && (okFn (pairsOf tableE) Tryz.prog 199 && (okFn (pairsOf tableE) Tryz.prog 207 && (okFn (pairsOf tableE) Tryz.prog 208 && (okFn (pairsOf tableE) Tryz.prog 217 && (okFn (pairsOf tableE) Tryz.prog 227 && (okFn (pairsOf tableE) Tryz.prog 228 && (okFn (pairsOf tableE) Tryz.prog 229 && (okFn (pairsOf tableE) Tryz.prog 236 && (okFn (pairsOf tableE) Tryz.prog 258 && true))))))))))))))))))))))))))))))))))))))))))))))))))))))))))))))))))))))))) = true
  rw [okf8, okf10, okf13, okf14, okf15, okf17, okf19, okf20, okf29, okf31, okf41, okf55, okf57, okf58, okf62, okf65, okf66, okf68, okf72, okf74, okf76, okf77, okf78, okf79, okf80, okf88, okf90, okf94, okf96, okf99, okf104, okf105, okf106, okf107, okf108, okf110, okf115, okf116, okf117, okf126, okf127, okf130, okf133, okf134, okf135, okf136, okf142, okf143, okf150, okf151, okf153, okf157, okf159, okf166, okf169, okf170, okf172, okf173, okf174, okf186, okf187, okf195, okf196, okf198, okf199, okf207, okf208, okf217, okf227, okf228, okf229, okf236, okf258]; rfl
theorem nameE : Tryz.prog.funcs.toList.all (fun fn => !(fn.name == "runtime.NumGoroutine")) = true := by kernel_rfl
theorem mixedE : Tryz.prog.follows .mixedOrders = true := by kernel_rfl

theorem knownE : @Known maxLenBeside EE := by
  letI : Beside := maxLenBeside
  refine ⟨ext_good (fun s p k w h1 h2 => Tryz.strings_Contains s p k w h1 h2) (fun s c w => Tryz.strings_IndexByte s c w), ok_of_rows ok0 okRows, mixedE, fun f fn hf => ?_⟩
  have h := List.all_eq_true.mp nameE fn (by
    have : Tryz.prog.funcs.toList[f]? = some fn := by rw [Array.getElem?_toList]; exact hf
    exact List.mem_of_getElem? this)
  simpa using h
end Go.Proofs.YthbnlmmidanaiaaGreat
