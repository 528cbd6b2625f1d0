/-
  WHAT IS PROVED: 'fathomlaw35.BondNobody' returns true for every number, and its argument reads afterwards as it read before. No condition.
-/
import Derived.Test.YthbnlmmidanaiaaGreatSeatBRunBondNobody
import Derived.Test.YthbnlmmidanaiaaGreatDetClosed
set_option linter.unusedVariables false
set_option linter.unusedSimpArgs false
set_option linter.unusedSectionVars false
set_option maxRecDepth 100000
namespace Go.Proofs.YthbnlmmidanaiaaGreat
open Go.Det Go.ChangeShapes Go.WideShapes Go.ChangeAt Go.RowKit

theorem bondNobody_lifted (os : Os) (started : os.Started) (H : Type) (enc : TypeId × Value → H) :
    ReturnsInHanded {} Tryz.checked os 4 .any (Rows.bondNobodySpec.pre6 enc Tryz.prog Tryz.f4 Rows.bondNobodyRow.domain false) (Rows.bondNobodySpec.post enc Tryz.prog Tryz.f4 false true false false) := by
  letI : Beside := maxLenBeside
  refine returnsInHanded_of_change_shaped (C := Tryz.checked) ownKnob_none started (by kernel_rfl) Tryz.func4
    (ChangeSpec.witness6 (enc := enc) (C := Tryz.checked) false ⟨#[], #[.int .i64 0], []⟩ 8 (by kernel_rfl) (by kernel_rfl) (by kernel_rfl) (by kernel_rfl)) ?_
  intro W base args ds gs before hval hW _ _ hsh _
  refine law_post (C := Tryz.checked) (tb := 4) laidOut ?_ rfl Tryz.underlying4 rfl ?_ beside_of ?_ W base args ds gs before hval hW hsh
  · intro t ht
    have : t = 3 := by simpa [Tryz.params4] using ht
    subst this
    exact ⟨of_decide_eq_true (by kernel_rfl), by kernel_rfl⟩
  · intro ds hd
    rcases ds with _ | ⟨d, _ | ⟨e, l⟩⟩
    · simp [Tryz.params4] at hd
    · rfl
    · simp [Tryz.params4] at hd
  · intro xs hx
    have hx' : ArgsOf Tryz.prog [3] xs := hx
    obtain ⟨x, xs', rfl, h1, h2⟩ := hx'
    have h3 : xs' = [] := h2
    subst h3
    obtain ⟨m', hg⟩ := good_of_fast runBondNobody
    refine ⟨m', good_junk hg x⟩

theorem bondNobody_named : Tryz.prog.funcNamed "fathom/fathomlaw35.BondNobody" = some 4 := by kernel_rfl
theorem clo4 : Tryz.prog.closure 4 = [4, 21, 56, 9, 49, 10, 32, 84, 33, 85, 38, 37, 35, 57, 13, 39, 86, 14, 41, 40, 96, 42, 95, 146, 140, 184, 94, 36, 144, 186, 91, 145, 90, 141, 187, 87, 139, 183, 89, 44, 47, 148, 188, 147, 22, 58, 11, 97, 149, 189, 150, 165, 192, 219, 220, 190, 43, 88, 23, 59, 98, 99, 60, 101, 100, 24, 62, 61, 29, 75, 122, 167, 193, 168, 169, 170, 194, 221, 240, 241, 242, 251, 252, 260, 253, 261, 265, 268, 262, 266, 269, 270, 271, 272, 273, 243, 254, 255, 256, 234, 264, 263, 267, 195, 222, 244, 223, 224, 246, 245, 196, 225, 226, 227, 247, 257, 248, 228, 249, 258, 250, 259, 229, 230, 171, 197, 198, 231, 232, 233, 172, 173, 199, 235, 200, 201, 202, 174, 175, 123, 76, 124, 125, 45, 71, 126, 156, 176, 203, 212, 113, 179, 204, 177, 205, 206, 178, 207, 208, 191, 218, 209, 236, 237, 210, 238, 211, 213, 214, 162, 127, 77, 128, 180, 129, 78, 79, 130, 181, 216, 215, 239, 182, 8, 34, 80, 131, 132, 17, 81, 133, 15, 134, 102, 103, 151, 153, 152, 104, 154, 16, 155, 105, 12, 157, 106, 107, 158, 160, 108, 159, 161, 31, 83, 138, 18, 19, 46, 48, 82, 135, 136, 52, 137] := by kernel_rfl
theorem inPlace4 : Tryz.prog.inPlace 4 = ["internal/bytealg.IndexByteString", "internal/bytealg.IndexString"] := by unfold Program.inPlace; rw [clo4]; kernel_rfl
theorem unf4 : Tryz.prog.unfollowed 4 = true := by unfold Program.unfollowed; rw [clo4]; kernel_rfl
theorem rec4 : Tryz.prog.recurses 4 = true := by unfold Program.recurses; rw [unf4]; rfl
theorem vars4 : Tryz.prog.varsNamed 4 = ["internal/bytealg.MaxLen"] := by unfold Program.varsNamed; rw [clo4]; kernel_rfl
theorem bondNobody_facts : joinedFacts Tryz.prog 4 Tryz.f4 Rows.bondNobodySpec Rows.bondNobodyRow = true := by unfold joinedFacts; rw [inPlace4, unf4, rec4, vars4]; kernel_rfl

theorem bondNobody_holds : Rows.BondNobodySaid :=
  OpenClaim.holds_of_wide 4 Tryz.f4 rfl rfl rfl rfl rfl rfl rfl ⟨rfl, rfl, rfl, rfl, rfl⟩ rfl rfl rfl rfl rfl bondNobody_named Tryz.func4 bondNobody_facts
    (of_decide_eq_true (by kernel_rfl)) (by unfold Func.isWrapper; first | (rw [if_pos (by decide +kernel)]; kernel_rfl) | (rw [if_neg (by decide +kernel)]; exact ⟨rfl, rfl⟩))
    (fun os started H enc _ => bondNobody_lifted os started H enc)

#print axioms bondNobody_holds
end Go.Proofs.YthbnlmmidanaiaaGreat
