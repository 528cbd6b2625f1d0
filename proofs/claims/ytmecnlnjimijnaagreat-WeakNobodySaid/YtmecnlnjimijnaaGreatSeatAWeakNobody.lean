/-
  WHAT IS PROVED: 'fathomlaw30.WeakNobody' returns true for every turn, and its argument reads afterwards as it read before. No condition.
-/
import Derived.Test.YtmecnlnjimijnaaGreatSeatARunWeakNobody
set_option linter.unusedVariables false
set_option linter.unusedSimpArgs false
set_option linter.unusedSectionVars false
set_option maxRecDepth 100000
namespace Go.Proofs.YtmecnlnjimijnaaGreat
open Go.Det Go.ChangeShapes Go.WideShapes Go.ChangeAt Go.RowKit

theorem turn_inv {x : DV} (h : ArgOf Tryz.prog 50 x) : ∃ a b c : Int, x = .agg [.int .i64 a, .int .i64 b, .int .i64 c] := by
  unfold ArgOf at h
  rw [Tryz.underlying50] at h
  obtain ⟨cs, rfl, h⟩ := h
  obtain ⟨parts, rfl, hl, hp⟩ := h.struct_inv Tryz.underlying50
  rcases parts with _ | ⟨p0, _ | ⟨p1, _ | ⟨p2, _ | ⟨p3, l⟩⟩⟩⟩ <;> simp at hl
  obtain ⟨a, rfl, _⟩ := (hp 0 _ p0 rfl rfl).int_inv Tryz.underlying3
  obtain ⟨b, rfl, _⟩ := (hp 1 _ p1 rfl rfl).int_inv Tryz.underlying3
  obtain ⟨c, rfl, _⟩ := (hp 2 _ p2 rfl rfl).int_inv Tryz.underlying3
  exact ⟨a, b, c, rfl⟩

theorem weakNobody_lifted (os : Os) (started : os.Started) (H : Type) (enc : TypeId × Value → H) :
    ReturnsInHanded {} Tryz.checked os 4 .any (Rows.weakNobodySpec.pre6 enc Tryz.prog Tryz.f4 Rows.weakNobodyRow.domain false) (Rows.weakNobodySpec.post enc Tryz.prog Tryz.f4 false true false false) := by
  letI : Beside := maxLenBeside
  refine returnsInHanded_of_change_shaped (C := Tryz.checked) ownKnob_none started (by kernel_rfl) Tryz.func4
    (ChangeSpec.witness6 (enc := enc) (C := Tryz.checked) false ⟨#[], #[.agg #[.int .i64 0, .int .i64 0, .int .i64 0]], []⟩ 8 (by kernel_rfl) (by kernel_rfl) (by kernel_rfl) (by kernel_rfl)) ?_
  intro W base args ds gs before hval hW _ _ hsh _
  refine law_post (C := Tryz.checked) (tb := 4) laidOut ?_ rfl Tryz.underlying4 rfl ?_ beside_of ?_ W base args ds gs before hval hW hsh
  · intro t ht
    have : t = 50 := by simpa [Tryz.params4] using ht
    subst this
    exact ⟨of_decide_eq_true (by kernel_rfl), by kernel_rfl⟩
  · intro ds hd
    rcases ds with _ | ⟨d, _ | ⟨e, l⟩⟩
    · simp [Tryz.params4] at hd
    · rfl
    · simp [Tryz.params4] at hd
  · intro xs hx
    have hx' : ArgsOf Tryz.prog [50] xs := hx
    obtain ⟨x, xs', rfl, h1, h2⟩ := hx'
    have h3 : xs' = [] := h2
    subst h3
    obtain ⟨a, b, c, rfl⟩ := turn_inv h1
    exact good_of_fast (runWeakNobody a b c)

theorem weakNobody_named : Tryz.prog.funcNamed "fathom/fathomlaw30.WeakNobody" = some 4 := by kernel_rfl
theorem clo4 : Tryz.prog.closure 4 = [4, 18, 19, 17, 58, 59, 103, 153, 83, 131, 178, 132, 133, 134, 179, 222, 239, 240, 241, 250, 251, 259, 252, 260, 264, 267, 261, 265, 268, 269, 270, 271, 272, 242, 253, 254, 255, 211, 263, 262, 266, 180, 223, 243, 224, 225, 245, 244, 181, 226, 227, 228, 246, 256, 247, 229, 248, 257, 249, 258, 230, 231, 109, 161, 162, 208, 209, 156, 206, 210, 135, 136, 182, 232, 183, 184, 84, 137, 138, 202, 203, 234, 63, 110, 163, 111, 164, 104, 154, 204, 127, 205, 60, 62, 107, 108, 158, 207, 139, 160, 159, 66, 105, 115, 168, 213, 214, 212, 169, 215, 217, 236, 171, 116, 170, 221, 220, 238, 165, 237, 216, 235, 218, 219, 117, 172, 173, 155, 157, 61, 106, 64, 112, 114, 166, 113, 167, 65, 24, 20, 67, 118, 25, 77, 129, 128, 177, 22, 21, 68, 69, 70, 26, 15, 53, 52, 91, 145, 85] := by kernel_rfl
theorem inPlace4 : Tryz.prog.inPlace 4 = ["internal/bytealg.IndexByteString", "internal/bytealg.IndexString"] := by unfold Program.inPlace; rw [clo4]; kernel_rfl
theorem unf4 : Tryz.prog.unfollowed 4 = true := by unfold Program.unfollowed; rw [clo4]; kernel_rfl
theorem rec4 : Tryz.prog.recurses 4 = true := by unfold Program.recurses; rw [unf4]; rfl
theorem vars4 : Tryz.prog.varsNamed 4 = ["internal/bytealg.MaxLen"] := by unfold Program.varsNamed; rw [clo4]; kernel_rfl
theorem weakNobody_facts : joinedFacts Tryz.prog 4 Tryz.f4 Rows.weakNobodySpec Rows.weakNobodyRow = true := by unfold joinedFacts; rw [inPlace4, unf4, rec4, vars4]; kernel_rfl

theorem weakNobody_holds : Rows.WeakNobodySaid :=
  OpenClaim.holds_of_wide 4 Tryz.f4 rfl rfl rfl rfl rfl rfl rfl ⟨rfl, rfl, rfl, rfl, rfl⟩ rfl rfl rfl rfl rfl weakNobody_named Tryz.func4 weakNobody_facts
    (of_decide_eq_true (by kernel_rfl)) (by unfold Func.isWrapper; first | (rw [if_pos (by decide +kernel)]; kernel_rfl) | (rw [if_neg (by decide +kernel)]; exact ⟨rfl, rfl⟩))
    (fun os started H enc _ => weakNobody_lifted os started H enc)

#print axioms weakNobody_holds
end Go.Proofs.YtmecnlnjimijnaaGreat
