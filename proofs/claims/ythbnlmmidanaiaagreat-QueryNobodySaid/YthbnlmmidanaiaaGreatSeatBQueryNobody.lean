/-
  WHAT IS PROVED: 'fathomlaw36.QueryNobody' returns true for every number, and its argument reads afterwards as it read before. No condition.
-/
import Derived.Test.YthbnlmmidanaiaaGreatSeatBRunQueryNobody
import Derived.Test.YthbnlmmidanaiaaGreatDetClosed
set_option linter.unusedVariables false
set_option linter.unusedSimpArgs false
set_option linter.unusedSectionVars false
set_option maxRecDepth 100000
namespace Go.Proofs.YthbnlmmidanaiaaGreat
open Go.Det Go.ChangeShapes Go.WideShapes Go.ChangeAt Go.RowKit

theorem queryNobody_lifted (os : Os) (started : os.Started) (H : Type) (enc : TypeId × Value → H) :
    ReturnsInHanded {} Tryz.checked os 5 .any (Rows.queryNobodySpec.pre6 enc Tryz.prog Tryz.f5 Rows.queryNobodyRow.domain false) (Rows.queryNobodySpec.post enc Tryz.prog Tryz.f5 false true false false) := by
  letI : Beside := maxLenBeside
  refine returnsInHanded_of_change_shaped (C := Tryz.checked) ownKnob_none started (by kernel_rfl) Tryz.func5
    (ChangeSpec.witness6 (enc := enc) (C := Tryz.checked) false ⟨#[], #[.int .i64 0], []⟩ 8 (by kernel_rfl) (by kernel_rfl) (by kernel_rfl) (by kernel_rfl)) ?_
  intro W base args ds gs before hval hW _ _ hsh _
  refine law_post (C := Tryz.checked) (tb := 4) laidOut ?_ rfl Tryz.underlying4 rfl ?_ beside_of ?_ W base args ds gs before hval hW hsh
  · intro t ht
    have : t = 3 := by simpa [Tryz.params5] using ht
    subst this
    exact ⟨of_decide_eq_true (by kernel_rfl), by kernel_rfl⟩
  · intro ds hd
    rcases ds with _ | ⟨d, _ | ⟨e, l⟩⟩
    · simp [Tryz.params5] at hd
    · rfl
    · simp [Tryz.params5] at hd
  · intro xs hx
    have hx' : ArgsOf Tryz.prog [3] xs := hx
    obtain ⟨x, xs', rfl, h1, h2⟩ := hx'
    have h3 : xs' = [] := h2
    subst h3
    obtain ⟨m', hg⟩ := good_of_fast runQueryNobody
    exact ⟨m', good_junk hg x⟩

theorem queryNobody_named : Tryz.prog.funcNamed "fathom/fathomlaw36.QueryNobody" = some 5 := by kernel_rfl
theorem clo5 : Tryz.prog.closure 5 = [5, 25, 63, 9, 35, 49, 10, 32, 84, 33, 85, 38, 37, 64, 110, 111, 86, 42, 113, 139, 183, 36, 148, 187, 87, 89, 44, 47, 188, 147, 94, 144, 186, 91, 145, 90, 112, 109, 66, 65, 114, 131, 59, 98, 99, 163, 79, 130, 181, 216, 215, 239, 182, 13, 39, 12, 67, 115, 68, 71, 72, 116, 23, 60, 101, 100, 141, 184, 117, 164, 97, 149, 189, 150, 165, 192, 219, 220, 190, 43, 88, 140, 156, 95, 146, 118, 166, 69, 119, 70, 26, 27, 73, 120, 121, 28, 62, 61, 29, 75, 122, 167, 193, 168, 169, 170, 194, 221, 240, 241, 242, 251, 252, 260, 253, 261, 265, 268, 262, 266, 269, 270, 271, 272, 273, 243, 254, 255, 256, 234, 264, 263, 267, 195, 222, 244, 223, 224, 246, 245, 196, 225, 226, 227, 247, 257, 248, 228, 249, 258, 250, 259, 229, 230, 171, 197, 198, 231, 232, 233, 172, 173, 199, 235, 200, 201, 202, 174, 175, 123, 76, 124, 125, 45, 126, 176, 203, 212, 179, 204, 177, 205, 206, 178, 207, 208, 191, 218, 209, 236, 237, 210, 238, 211, 213, 214, 162, 127, 77, 128, 180, 129, 78, 8, 34, 80, 132, 17, 81, 133, 15, 41, 14, 40, 134, 56, 102, 103, 151, 153, 152, 104, 154, 16, 155, 105, 57, 96, 11, 157, 106, 107, 58, 158, 160, 108, 159, 161, 74, 83, 138, 19, 46, 48, 82, 135, 136, 52, 137] := by kernel_rfl
theorem inPlace5 : Tryz.prog.inPlace 5 = ["internal/bytealg.IndexByteString", "internal/bytealg.IndexString"] := by unfold Program.inPlace; rw [clo5]; kernel_rfl
theorem unf5 : Tryz.prog.unfollowed 5 = true := by unfold Program.unfollowed; rw [clo5]; kernel_rfl
theorem rec5 : Tryz.prog.recurses 5 = true := by unfold Program.recurses; rw [unf5]; rfl
theorem vars5 : Tryz.prog.varsNamed 5 = ["internal/bytealg.MaxLen"] := by unfold Program.varsNamed; rw [clo5]; kernel_rfl
theorem queryNobody_facts : joinedFacts Tryz.prog 5 Tryz.f5 Rows.queryNobodySpec Rows.queryNobodyRow = true := by unfold joinedFacts; rw [inPlace5, unf5, rec5, vars5]; kernel_rfl

theorem queryNobody_holds : Rows.QueryNobodySaid :=
  OpenClaim.holds_of_wide 5 Tryz.f5 rfl rfl rfl rfl rfl rfl rfl ⟨rfl, rfl, rfl, rfl, rfl⟩ rfl rfl rfl rfl rfl queryNobody_named Tryz.func5 queryNobody_facts
    (of_decide_eq_true (by kernel_rfl)) (by unfold Func.isWrapper; first | (rw [if_pos (by decide +kernel)]; kernel_rfl) | (rw [if_neg (by decide +kernel)]; exact ⟨rfl, rfl⟩))
    (fun os started H enc _ => queryNobody_lifted os started H enc)

#print axioms queryNobody_holds
end Go.Proofs.YthbnlmmidanaiaaGreat
