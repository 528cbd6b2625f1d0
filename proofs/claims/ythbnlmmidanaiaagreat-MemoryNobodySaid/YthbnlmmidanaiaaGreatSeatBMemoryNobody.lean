/-
  WHAT IS PROVED: 'fathomlaw34.MemoryNobody' returns true for every guess, and its argument reads afterwards as it read before. No condition.
-/
import Derived.Test.YthbnlmmidanaiaaGreatSeatBRunMemoryNobody
import Derived.Test.YthbnlmmidanaiaaGreatDetClosed
set_option linter.unusedVariables false
set_option linter.unusedSimpArgs false
set_option linter.unusedSectionVars false
set_option maxRecDepth 100000
namespace Go.Proofs.YthbnlmmidanaiaaGreat
open Go.Det Go.ChangeShapes Go.WideShapes Go.ChangeAt Go.RowKit

theorem drop_els {P : Program} {e f : TypeId} (hu : P.underlying e = some (.slice f)) (h1 : P.cellsOf e = 1) : ∀ {els : List (List DV)}, (∀ c, c ∈ els → Ty P e c) → ∀ i, i < els.length → ∃ z' k' n' cs' rest, els.flatten.drop i = .dsl z' k' n' cs' :: rest
  | [], _, i, hi => by simp at hi
  | c :: els, h, i, hi => by
    have hc : ∃ z k n cs, c = [.dsl z k n cs] := by
      rcases (h c List.mem_cons_self).slice_inv hu with rfl | ⟨es, rfl, _⟩ <;> exact ⟨_, _, _, _, rfl⟩
    obtain ⟨z, k, n, cs, rfl⟩ := hc
    cases i with
    | zero => exact ⟨z, k, n, cs, els.flatten, rfl⟩
    | succ i =>
      obtain ⟨z', k', n', cs', rest, hr⟩ := drop_els hu h1 (els := els) (fun c hc => h c (List.mem_cons_of_mem _ hc)) i (by simpa using hi)
      exact ⟨z', k', n', cs', rest, by simpa using hr⟩

theorem cells23 : Tryz.prog.cellsOf 23 = 1 := by kernel_rfl
theorem guess_inv {x : DV} (h : ArgOf Tryz.prog 26 x) : ∃ m', Runs E34 (.call 3 [x] noMem) (.val (.bool true) m') := by
  unfold ArgOf at h
  rw [Tryz.underlying26] at h
  obtain ⟨cs, rfl, h⟩ := h
  obtain ⟨parts, rfl, hl, hp⟩ := h.struct_inv Tryz.underlying26
  rcases parts with _ | ⟨p0, _ | ⟨p1, _ | ⟨p2, _ | ⟨p3, _ | ⟨p4, _ | ⟨p5, l⟩⟩⟩⟩⟩⟩ <;> simp at hl
  have sl : ∀ {t e : TypeId} {p : List DV}, Tryz.prog.underlying t = some (.slice e) → Ty Tryz.prog t p → ∃ z k n cs, p = [.dsl z k n cs] := by
    intro t e p hu h
    rcases h.slice_inv hu with rfl | ⟨es, rfl, _⟩ <;> exact ⟨_, _, _, _, rfl⟩
  obtain ⟨z0, k0, n0, c0, rfl⟩ := sl Tryz.underlying22 (hp 0 _ p0 rfl rfl)
  obtain ⟨z1, k1, n1, c1, rfl⟩ := sl Tryz.underlying23 (hp 1 _ p1 rfl rfl)
  obtain ⟨z2, k2, n2, c2, rfl⟩ := sl Tryz.underlying22 (hp 2 _ p2 rfl rfl)
  obtain ⟨z4, k4, n4, c4, rfl⟩ := sl Tryz.underlying22 (hp 4 _ p4 rfl rfl)
  rcases (hp 3 _ p3 rfl rfl).slice_inv Tryz.underlying24 with rfl | ⟨es, rfl, _, h2, _⟩
  · exact mem_run k0 n0 k1 n1 k2 n2 0 0 k4 n4 c0 c1 c2 [] c4 z0 z1 z2 (some true) z4 (.inl rfl) fun i hi => absurd hi (by omega)
  · exact mem_run k0 n0 k1 n1 k2 n2 _ es.length k4 n4 c0 c1 c2 es.flatten c4 z0 z1 z2 (some false) z4 (.inr cells23) (drop_els Tryz.underlying23 cells23 h2)

theorem memoryNobody_lifted (os : Os) (started : os.Started) (H : Type) (enc : TypeId × Value → H) :
    ReturnsInHanded {} Tryz.checked os 3 .any (Rows.memoryNobodySpec.pre6 enc Tryz.prog Tryz.f3 Rows.memoryNobodyRow.domain false) (Rows.memoryNobodySpec.post enc Tryz.prog Tryz.f3 false true false false) := by
  letI : Beside := maxLenBeside
  refine returnsInHanded_of_change_shaped (C := Tryz.checked) ownKnob_none started (by kernel_rfl) Tryz.func3
    (ChangeSpec.witness6 (enc := enc) (C := Tryz.checked) false ⟨#[], #[.agg #[.slice none 0 0, .slice none 0 0, .slice none 0 0, .slice none 0 0, .slice none 0 0]], []⟩ 8 (by kernel_rfl) (by kernel_rfl) (by kernel_rfl) (by kernel_rfl)) ?_
  intro W base args ds gs before hval hW _ _ hsh _
  refine law_post (C := Tryz.checked) (tb := 4) laidOut ?_ rfl Tryz.underlying4 rfl ?_ beside_of ?_ W base args ds gs before hval hW hsh
  · intro t ht
    have : t = 26 := by simpa [Tryz.params3] using ht
    subst this
    exact ⟨of_decide_eq_true (by kernel_rfl), by kernel_rfl⟩
  · intro ds hd
    rcases ds with _ | ⟨d, _ | ⟨e, l⟩⟩
    · simp [Tryz.params3] at hd
    · rfl
    · simp [Tryz.params3] at hd
  · intro xs hx
    have hx' : ArgsOf Tryz.prog [26] xs := hx
    obtain ⟨x, xs', rfl, h1, h2⟩ := hx'
    have h3 : xs' = [] := h2
    subst h3
    obtain ⟨m', hn, k, hr⟩ := guess_inv h1
    exact ⟨m', sound (E := E34) known34 hr⟩

theorem memoryNobody_named : Tryz.prog.funcNamed "fathom/fathomlaw34.MemoryNobody" = some 3 := by kernel_rfl
theorem clo3 : Tryz.prog.closure 3 = [3, 6, 7, 30, 29, 75, 122, 167, 193, 168, 169, 170, 194, 221, 240, 241, 242, 251, 252, 260, 253, 261, 265, 268, 262, 266, 269, 270, 271, 272, 273, 243, 254, 255, 256, 234, 264, 263, 267, 195, 222, 244, 223, 224, 246, 245, 196, 225, 226, 227, 247, 257, 248, 228, 249, 258, 250, 259, 229, 230, 171, 197, 198, 231, 232, 33, 85, 233, 172, 173, 199, 235, 200, 201, 202, 174, 175, 123, 76, 124, 125, 45, 91, 90, 89, 44, 47, 71, 126, 156, 176, 203, 212, 87, 139, 183, 36, 148, 187, 188, 88, 140, 184, 94, 144, 186, 145, 141, 113, 147, 179, 204, 177, 205, 206, 178, 207, 43, 208, 37, 191, 218, 209, 236, 237, 210, 238, 211, 213, 146, 214, 95, 162, 127, 35, 77, 128, 180, 129, 78, 79, 59, 98, 99, 130, 181, 216, 215, 239, 182, 8, 32, 84, 34, 80, 131, 132, 17, 81, 13, 39, 86, 133, 49, 15, 41, 42, 14, 40, 134, 31, 9, 83, 138, 18, 19, 46, 48, 82, 135, 136, 52, 137, 10, 38, 11, 12, 16, 20, 50, 51, 53, 92, 55, 54, 93, 142, 143, 185, 217] := by kernel_rfl
theorem inPlace3 : Tryz.prog.inPlace 3 = ["internal/bytealg.IndexByteString", "internal/bytealg.IndexString"] := by unfold Program.inPlace; rw [clo3]; kernel_rfl
theorem unf3 : Tryz.prog.unfollowed 3 = true := by unfold Program.unfollowed; rw [clo3]; kernel_rfl
theorem rec3 : Tryz.prog.recurses 3 = true := by unfold Program.recurses; rw [unf3]; rfl
theorem vars3 : Tryz.prog.varsNamed 3 = ["internal/bytealg.MaxLen"] := by unfold Program.varsNamed; rw [clo3]; kernel_rfl
theorem memoryNobody_facts : joinedFacts Tryz.prog 3 Tryz.f3 Rows.memoryNobodySpec Rows.memoryNobodyRow = true := by unfold joinedFacts; rw [inPlace3, unf3, rec3, vars3]; kernel_rfl

theorem memoryNobody_holds : Rows.MemoryNobodySaid :=
  OpenClaim.holds_of_wide 3 Tryz.f3 rfl rfl rfl rfl rfl rfl rfl ⟨rfl, rfl, rfl, rfl, rfl⟩ rfl rfl rfl rfl rfl memoryNobody_named Tryz.func3 memoryNobody_facts
    (of_decide_eq_true (by kernel_rfl)) (by unfold Func.isWrapper; first | (rw [if_pos (by decide +kernel)]; kernel_rfl) | (rw [if_neg (by decide +kernel)]; exact ⟨rfl, rfl⟩))
    (fun os started H enc _ => memoryNobody_lifted os started H enc)

#print axioms memoryNobody_holds
end Go.Proofs.YthbnlmmidanaiaaGreat
