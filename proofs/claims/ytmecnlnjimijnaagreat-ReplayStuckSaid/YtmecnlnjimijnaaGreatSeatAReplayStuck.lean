/-
  WHAT IS PROVED: 'fathomlaw31.ReplayStuck' returns true for every end, and its argument reads afterwards as it read before. No condition.
-/
import Derived.Test.YtmecnlnjimijnaaGreatSeatARunAwake31
set_option linter.unusedVariables false
set_option linter.unusedSimpArgs false
set_option linter.unusedSectionVars false
set_option maxRecDepth 100000
namespace Go.Proofs.YtmecnlnjimijnaaGreat
open Go.Det Go.ChangeShapes Go.WideShapes Go.ChangeAt Go.RowKit

/-- The example holds wherever it is asked. -/
noncomputable def ext31 (f : FuncId) (args : List DV) (m : DH) : Option (DV × DH) :=
  match Nat.beq f 28 with
  | true => match args with
    | [] => some (.bool true, m)
    | _ => none
  | false => none
noncomputable def E31 : Env := withExt EE ext31

theorem known31 : @Known maxLenBeside E31 := by
  letI : Beside := maxLenBeside
  refine known_with knownE fun f args m r h => ?_
  unfold ext31 at h
  split at h
  · rename_i hf
    rw [Nat.beq_eq] at hf
    subst hf
    split at h
    · injection h with h; subst h
      obtain ⟨m', hg⟩ := good_of_fast runAwake31
      exact ⟨good_closed maxLen_mono hg (plain_bool true) m, Kept.refl _⟩
    · cases h
  · cases h

theorem stuckNNTT (a : Bool) (k0 n0 : Nat) (cs0 : List DV) (k n : Nat) (cs : List DV) : isTrueO (fast E31 1000 (.call 5 [.agg [.bool a, .dsl (some true) 0 0 [], .bool true, .dsl (some true) 0 0 [], .bool true]] noMem)) = true := by kernel_rfl
theorem stuckNNTF (a : Bool) (k0 n0 : Nat) (cs0 : List DV) (k n : Nat) (cs : List DV) : isTrueO (fast E31 1000 (.call 5 [.agg [.bool a, .dsl (some true) 0 0 [], .bool true, .dsl (some true) 0 0 [], .bool false]] noMem)) = true := by kernel_rfl
theorem stuckNNFT (a : Bool) (k0 n0 : Nat) (cs0 : List DV) (k n : Nat) (cs : List DV) : isTrueO (fast E31 1000 (.call 5 [.agg [.bool a, .dsl (some true) 0 0 [], .bool false, .dsl (some true) 0 0 [], .bool true]] noMem)) = true := by kernel_rfl
theorem stuckNNFF (a : Bool) (k0 n0 : Nat) (cs0 : List DV) (k n : Nat) (cs : List DV) : isTrueO (fast E31 1000 (.call 5 [.agg [.bool a, .dsl (some true) 0 0 [], .bool false, .dsl (some true) 0 0 [], .bool false]] noMem)) = true := by kernel_rfl
theorem stuckNZTT (a : Bool) (k0 n0 : Nat) (cs0 : List DV) (k n : Nat) (cs : List DV) : isTrueO (fast E31 1000 (.call 5 [.agg [.bool a, .dsl (some true) 0 0 [], .bool true, .dsl (some false) k 0 cs, .bool true]] noMem)) = true := by kernel_rfl
theorem stuckNZTF (a : Bool) (k0 n0 : Nat) (cs0 : List DV) (k n : Nat) (cs : List DV) : isTrueO (fast E31 1000 (.call 5 [.agg [.bool a, .dsl (some true) 0 0 [], .bool true, .dsl (some false) k 0 cs, .bool false]] noMem)) = true := by kernel_rfl
theorem stuckNZFT (a : Bool) (k0 n0 : Nat) (cs0 : List DV) (k n : Nat) (cs : List DV) : isTrueO (fast E31 1000 (.call 5 [.agg [.bool a, .dsl (some true) 0 0 [], .bool false, .dsl (some false) k 0 cs, .bool true]] noMem)) = true := by kernel_rfl
theorem stuckNZFF (a : Bool) (k0 n0 : Nat) (cs0 : List DV) (k n : Nat) (cs : List DV) : isTrueO (fast E31 1000 (.call 5 [.agg [.bool a, .dsl (some true) 0 0 [], .bool false, .dsl (some false) k 0 cs, .bool false]] noMem)) = true := by kernel_rfl
theorem stuckNPTT (a : Bool) (k0 n0 : Nat) (cs0 : List DV) (k n : Nat) (cs : List DV) : isTrueO (fast E31 1000 (.call 5 [.agg [.bool a, .dsl (some true) 0 0 [], .bool true, .dsl (some false) k (n + 1) cs, .bool true]] noMem)) = true := by kernel_rfl
theorem stuckNPTF (a : Bool) (k0 n0 : Nat) (cs0 : List DV) (k n : Nat) (cs : List DV) : isTrueO (fast E31 1000 (.call 5 [.agg [.bool a, .dsl (some true) 0 0 [], .bool true, .dsl (some false) k (n + 1) cs, .bool false]] noMem)) = true := by kernel_rfl
theorem stuckNPFT (a : Bool) (k0 n0 : Nat) (cs0 : List DV) (k n : Nat) (cs : List DV) : isTrueO (fast E31 1000 (.call 5 [.agg [.bool a, .dsl (some true) 0 0 [], .bool false, .dsl (some false) k (n + 1) cs, .bool true]] noMem)) = true := by kernel_rfl
theorem stuckNPFF (a : Bool) (k0 n0 : Nat) (cs0 : List DV) (k n : Nat) (cs : List DV) : isTrueO (fast E31 1000 (.call 5 [.agg [.bool a, .dsl (some true) 0 0 [], .bool false, .dsl (some false) k (n + 1) cs, .bool false]] noMem)) = true := by kernel_rfl
theorem stuckSNTT (a : Bool) (k0 n0 : Nat) (cs0 : List DV) (k n : Nat) (cs : List DV) : isTrueO (fast E31 1000 (.call 5 [.agg [.bool a, .dsl (some false) k0 n0 cs0, .bool true, .dsl (some true) 0 0 [], .bool true]] noMem)) = true := by kernel_rfl
theorem stuckSNTF (a : Bool) (k0 n0 : Nat) (cs0 : List DV) (k n : Nat) (cs : List DV) : isTrueO (fast E31 1000 (.call 5 [.agg [.bool a, .dsl (some false) k0 n0 cs0, .bool true, .dsl (some true) 0 0 [], .bool false]] noMem)) = true := by kernel_rfl
theorem stuckSNFT (a : Bool) (k0 n0 : Nat) (cs0 : List DV) (k n : Nat) (cs : List DV) : isTrueO (fast E31 1000 (.call 5 [.agg [.bool a, .dsl (some false) k0 n0 cs0, .bool false, .dsl (some true) 0 0 [], .bool true]] noMem)) = true := by kernel_rfl
theorem stuckSNFF (a : Bool) (k0 n0 : Nat) (cs0 : List DV) (k n : Nat) (cs : List DV) : isTrueO (fast E31 1000 (.call 5 [.agg [.bool a, .dsl (some false) k0 n0 cs0, .bool false, .dsl (some true) 0 0 [], .bool false]] noMem)) = true := by kernel_rfl
theorem stuckSZTT (a : Bool) (k0 n0 : Nat) (cs0 : List DV) (k n : Nat) (cs : List DV) : isTrueO (fast E31 1000 (.call 5 [.agg [.bool a, .dsl (some false) k0 n0 cs0, .bool true, .dsl (some false) k 0 cs, .bool true]] noMem)) = true := by kernel_rfl
theorem stuckSZTF (a : Bool) (k0 n0 : Nat) (cs0 : List DV) (k n : Nat) (cs : List DV) : isTrueO (fast E31 1000 (.call 5 [.agg [.bool a, .dsl (some false) k0 n0 cs0, .bool true, .dsl (some false) k 0 cs, .bool false]] noMem)) = true := by kernel_rfl
theorem stuckSZFT (a : Bool) (k0 n0 : Nat) (cs0 : List DV) (k n : Nat) (cs : List DV) : isTrueO (fast E31 1000 (.call 5 [.agg [.bool a, .dsl (some false) k0 n0 cs0, .bool false, .dsl (some false) k 0 cs, .bool true]] noMem)) = true := by kernel_rfl
theorem stuckSZFF (a : Bool) (k0 n0 : Nat) (cs0 : List DV) (k n : Nat) (cs : List DV) : isTrueO (fast E31 1000 (.call 5 [.agg [.bool a, .dsl (some false) k0 n0 cs0, .bool false, .dsl (some false) k 0 cs, .bool false]] noMem)) = true := by kernel_rfl
theorem stuckSPTT (a : Bool) (k0 n0 : Nat) (cs0 : List DV) (k n : Nat) (cs : List DV) : isTrueO (fast E31 1000 (.call 5 [.agg [.bool a, .dsl (some false) k0 n0 cs0, .bool true, .dsl (some false) k (n + 1) cs, .bool true]] noMem)) = true := by kernel_rfl
theorem stuckSPTF (a : Bool) (k0 n0 : Nat) (cs0 : List DV) (k n : Nat) (cs : List DV) : isTrueO (fast E31 1000 (.call 5 [.agg [.bool a, .dsl (some false) k0 n0 cs0, .bool true, .dsl (some false) k (n + 1) cs, .bool false]] noMem)) = true := by kernel_rfl
theorem stuckSPFT (a : Bool) (k0 n0 : Nat) (cs0 : List DV) (k n : Nat) (cs : List DV) : isTrueO (fast E31 1000 (.call 5 [.agg [.bool a, .dsl (some false) k0 n0 cs0, .bool false, .dsl (some false) k (n + 1) cs, .bool true]] noMem)) = true := by kernel_rfl
theorem stuckSPFF (a : Bool) (k0 n0 : Nat) (cs0 : List DV) (k n : Nat) (cs : List DV) : isTrueO (fast E31 1000 (.call 5 [.agg [.bool a, .dsl (some false) k0 n0 cs0, .bool false, .dsl (some false) k (n + 1) cs, .bool false]] noMem)) = true := by kernel_rfl
theorem end_inv {x : DV} (h : ArgOf Tryz.prog 64 x) : ∃ (a b c : Bool) (r w : DV), x = .agg [.bool a, r, .bool b, w, .bool c] ∧ (r = .dsl (some true) 0 0 [] ∨ ∃ k n cs, r = .dsl (some false) k n cs) ∧ (w = .dsl (some true) 0 0 [] ∨ ∃ k n cs, w = .dsl (some false) k n cs) := by
  unfold ArgOf at h
  rw [Tryz.underlying64] at h
  obtain ⟨cs, rfl, h⟩ := h
  obtain ⟨parts, rfl, hl, hp⟩ := h.struct_inv Tryz.underlying64
  rcases parts with _ | ⟨p0, _ | ⟨p1, _ | ⟨p2, _ | ⟨p3, _ | ⟨p4, _ | ⟨p5, l⟩⟩⟩⟩⟩⟩ <;> simp at hl
  obtain ⟨a, rfl⟩ := (hp 0 _ p0 rfl rfl).bool_inv Tryz.underlying4
  obtain ⟨b, rfl⟩ := (hp 2 _ p2 rfl rfl).bool_inv Tryz.underlying4
  obtain ⟨c, rfl⟩ := (hp 4 _ p4 rfl rfl).bool_inv Tryz.underlying4
  rcases (hp 1 _ p1 rfl rfl).slice_inv Tryz.underlying51 with rfl | ⟨els, rfl, _⟩ <;> rcases (hp 3 _ p3 rfl rfl).slice_inv Tryz.underlying32 with rfl | ⟨els', rfl, _⟩
  · exact ⟨a, b, c, _, _, rfl, .inl rfl, .inl rfl⟩
  · exact ⟨a, b, c, _, _, rfl, .inl rfl, .inr ⟨_, _, _, rfl⟩⟩
  · exact ⟨a, b, c, _, _, rfl, .inr ⟨_, _, _, rfl⟩, .inl rfl⟩
  · exact ⟨a, b, c, _, _, rfl, .inr ⟨_, _, _, rfl⟩, .inr ⟨_, _, _, rfl⟩⟩

theorem stuck_run {x : DV} (h : ArgOf Tryz.prog 64 x) : isTrueO (fast E31 1000 (.call 5 [x] noMem)) = true := by
  obtain ⟨a, b, c, r, w, rfl, hr, hw⟩ := end_inv h
  rcases hr with rfl | ⟨k0, n0, cs0, rfl⟩ <;> rcases hw with rfl | ⟨k, n, cs, rfl⟩
  · cases b <;> cases c
    · exact stuckNNFF a 0 0 [] 0 0 []
    · exact stuckNNFT a 0 0 [] 0 0 []
    · exact stuckNNTF a 0 0 [] 0 0 []
    · exact stuckNNTT a 0 0 [] 0 0 []
  · cases n <;> cases b <;> cases c
    · exact stuckNZFF a 0 0 [] k 0 cs
    · exact stuckNZFT a 0 0 [] k 0 cs
    · exact stuckNZTF a 0 0 [] k 0 cs
    · exact stuckNZTT a 0 0 [] k 0 cs
    · exact stuckNPFF a 0 0 [] k _ cs
    · exact stuckNPFT a 0 0 [] k _ cs
    · exact stuckNPTF a 0 0 [] k _ cs
    · exact stuckNPTT a 0 0 [] k _ cs
  · cases b <;> cases c
    · exact stuckSNFF a k0 n0 cs0 0 0 []
    · exact stuckSNFT a k0 n0 cs0 0 0 []
    · exact stuckSNTF a k0 n0 cs0 0 0 []
    · exact stuckSNTT a k0 n0 cs0 0 0 []
  · cases n <;> cases b <;> cases c
    · exact stuckSZFF a k0 n0 cs0 k 0 cs
    · exact stuckSZFT a k0 n0 cs0 k 0 cs
    · exact stuckSZTF a k0 n0 cs0 k 0 cs
    · exact stuckSZTT a k0 n0 cs0 k 0 cs
    · exact stuckSPFF a k0 n0 cs0 k _ cs
    · exact stuckSPFT a k0 n0 cs0 k _ cs
    · exact stuckSPTF a k0 n0 cs0 k _ cs
    · exact stuckSPTT a k0 n0 cs0 k _ cs

theorem replayStuck_lifted (os : Os) (started : os.Started) (H : Type) (enc : TypeId × Value → H) :
    ReturnsInHanded {} Tryz.checked os 5 .any (Rows.replayStuckSpec.pre6 enc Tryz.prog Tryz.f5 Rows.replayStuckRow.domain false) (Rows.replayStuckSpec.post enc Tryz.prog Tryz.f5 false true false false) := by
  letI : Beside := maxLenBeside
  refine returnsInHanded_of_change_shaped (C := Tryz.checked) ownKnob_none started (by kernel_rfl) Tryz.func5
    (ChangeSpec.witness6 (enc := enc) (C := Tryz.checked) false ⟨#[], #[.agg #[.bool false, .slice none 0 0, .bool false, .slice none 0 0, .bool false]], []⟩ 8 (by kernel_rfl) (by kernel_rfl) (by kernel_rfl) (by kernel_rfl)) ?_
  intro W base args ds gs before hval hW _ _ hsh _
  refine law_post (C := Tryz.checked) (tb := 4) laidOut ?_ rfl Tryz.underlying4 rfl ?_ beside_of ?_ W base args ds gs before hval hW hsh
  · intro t ht
    have : t = 64 := by simpa [Tryz.params5] using ht
    subst this
    exact ⟨of_decide_eq_true (by kernel_rfl), by kernel_rfl⟩
  · intro ds hd
    rcases ds with _ | ⟨d, _ | ⟨e, l⟩⟩
    · simp [Tryz.params5] at hd
    · rfl
    · simp [Tryz.params5] at hd
  · intro xs hx
    have hx' : ArgsOf Tryz.prog [64] xs := hx
    obtain ⟨x, xs', rfl, h1, h2⟩ := hx'
    have h3 : xs' = [] := h2
    subst h3
    obtain ⟨m', hr⟩ := run_of_fast (stuck_run h1)
    exact ⟨m', sound (E := E31) known31 hr⟩

theorem replayStuck_named : Tryz.prog.funcNamed "fathom/fathomlaw31.ReplayStuck" = some 5 := by kernel_rfl
theorem clo5 : Tryz.prog.closure 5 = [5, 27, 28, 53, 30, 78, 52, 91, 83, 131, 178, 132, 133, 134, 179, 222, 239, 240, 241, 250, 251, 259, 252, 260, 264, 267, 261, 265, 268, 269, 270, 271, 272, 242, 253, 254, 255, 211, 263, 262, 266, 180, 223, 243, 224, 225, 245, 244, 181, 226, 227, 228, 246, 256, 247, 229, 248, 257, 249, 258, 230, 231, 109, 161, 162, 208, 209, 156, 206, 210, 135, 136, 182, 232, 183, 184, 84, 137, 138, 145, 85, 19, 17, 58, 59, 103, 153, 202, 203, 234, 63, 110, 163, 111, 164, 104, 154, 204, 127, 205, 60, 62, 107, 108, 158, 207, 139, 160, 159, 66, 105, 115, 168, 213, 214, 212, 169, 215, 217, 236, 171, 116, 170, 221, 220, 238, 165, 237, 216, 235, 218, 219, 117, 172, 173, 155, 157, 61, 106, 64, 112, 114, 166, 113, 167, 65, 22, 20, 67, 118, 79, 130, 25, 77, 129, 128, 177] := by kernel_rfl
theorem inPlace5 : Tryz.prog.inPlace 5 = ["internal/bytealg.IndexByteString", "internal/bytealg.IndexString"] := by unfold Program.inPlace; rw [clo5]; kernel_rfl
theorem unf5 : Tryz.prog.unfollowed 5 = true := by unfold Program.unfollowed; rw [clo5]; kernel_rfl
theorem rec5 : Tryz.prog.recurses 5 = true := by unfold Program.recurses; rw [unf5]; rfl
theorem vars5 : Tryz.prog.varsNamed 5 = ["internal/bytealg.MaxLen"] := by unfold Program.varsNamed; rw [clo5]; kernel_rfl
theorem replayStuck_facts : joinedFacts Tryz.prog 5 Tryz.f5 Rows.replayStuckSpec Rows.replayStuckRow = true := by unfold joinedFacts; rw [inPlace5, unf5, rec5, vars5]; kernel_rfl

theorem replayStuck_holds : Rows.ReplayStuckSaid :=
  OpenClaim.holds_of_wide 5 Tryz.f5 rfl rfl rfl rfl rfl rfl rfl ⟨rfl, rfl, rfl, rfl, rfl⟩ rfl rfl rfl rfl rfl replayStuck_named Tryz.func5 replayStuck_facts
    (of_decide_eq_true (by kernel_rfl)) (by unfold Func.isWrapper; first | (rw [if_pos (by decide +kernel)]; kernel_rfl) | (rw [if_neg (by decide +kernel)]; exact ⟨rfl, rfl⟩))
    (fun os started H enc _ => replayStuck_lifted os started H enc)

#print axioms replayStuck_holds
end Go.Proofs.YtmecnlnjimijnaaGreat
