/-
  MemoryNobody, run by the machine: what is not looked at stays a variable.
-/
import Derived.Test.YthbnlmmidanaiaaGreatSeatBLight
import Derived.Test.YthbnlmmidanaiaaGreatSeatBRunAwake34
import Derived.Test.YthbnlmmidanaiaaGreatDetClosed
set_option linter.unusedVariables false
set_option linter.unusedSimpArgs false
set_option linter.unusedSectionVars false
set_option maxRecDepth 100000
namespace Go.Proofs.YthbnlmmidanaiaaGreat
open Go.Det

noncomputable def ext34 (f : FuncId) (args : List DV) (m : DH) : Option (DV × DH) :=
  match Nat.beq f 7 with
  | true => match args with
    | [] => some (.bool true, m)
    | _ => none
  | false => none
noncomputable def E34 : Env := withExt EE ext34

theorem known34 : @Known maxLenBeside E34 := by
  letI : Beside := maxLenBeside
  refine known_with knownE fun f args m r h => ?_
  unfold ext34 at h
  split at h
  · rename_i hf
    rw [Nat.beq_eq] at hf
    subst hf
    split at h
    · injection h with h; subst h
      obtain ⟨m', hg⟩ := good_of_fast runAwake34
      exact ⟨good_closed maxLen_mono hg (plain_bool true) m, Kept.refl _⟩
    · cases h
  · cases h

noncomputable def memC : Code := match Tryz.f3.body with | some c => c | none => .skip
def rops : Code → Array Oper | .region _ ops _ => ops | _ => #[]
def M1 (gs : List DV) : DH := ⟨.nd (some (.cells gs 26 false)) .lf .lf .lf .lf, 1, []⟩
def M2 (gs : List DV) : DH := ⟨.nd (some (.cells gs 26 false)) (.nd (some (.cells gs 26 false)) .lf .lf .lf .lf) .lf .lf .lf, 2, []⟩
def T1 (gs : List DV) : Slots := put (put (enterSlots [.agg gs] 0 .lf) (some 1) (.ptr 0 0)) (some 2) (.bool false)
def T2 (gs : List DV) (b : Bool) : Slots := put (put (put (T1 gs) (some 5) (.agg gs)) (some 6) (.bool b)) (some 7) (.bool (!b))

def isRetO (o : Out) : Bool :=
  match o with
  | .st .ret t _ => match t.get 2 with
    | some v => trueV v
    | none => false
  | _ => false
theorem ret_of {E : Env} {k : Nat} {T : Task} (h : isRetO (fast E k T) = true) : ∃ t' m', Runs E T (.st .ret t' m') ∧ t'.get 2 = some (.bool true) := by
  rw [← run_fast] at h
  cases hr : run E k T with
  | st x t m =>
    rw [hr] at h
    cases x with
    | ret =>
      refine ⟨t, m, ⟨by simp, k, hr⟩, ?_⟩
      simp only [isRetO] at h
      cases hg : t.get 2 with
      | none => rw [hg] at h; cases h
      | some v =>
        rw [hg] at h
        cases v with
        | bool b => simp only [trueV] at h; subst h; rfl
        | _ => cases h
    | _ => cases h
  | _ => rw [hr] at h; cases h

theorem mem_start (k0 n0 k1 n1 k2 n2 k3 n3 k4 n4 : Nat) (c0 c1' c2' c3 c4 : List DV) (z0 z1 z2 z3 z4 : Option Bool) : run E34 30 (.code 3 (c1 memC) (enterSlots [.agg (gcells k0 n0 k1 n1 k2 n2 k3 n3 k4 n4 c0 c1' c2' c3 c4 z0 z1 z2 z3 z4)] 0 .lf) noMem) = .st .normal (T1 (gcells k0 n0 k1 n1 k2 n2 k3 n3 k4 n4 c0 c1' c2' c3 c4 z0 z1 z2 z3 z4)) (M1 (gcells k0 n0 k1 n1 k2 n2 k3 n3 k4 n4 c0 c1' c2' c3 c4 z0 z1 z2 z3 z4)) := by kernel_rfl
theorem mem_skip (k0 n0 k1 n1 k2 n2 k3 n3 k4 n4 : Nat) (c0 c1' c2' c3 c4 : List DV) (z0 z1 z2 z3 z4 : Option Bool) : run E34 30 (.code 3 (c2 (c1 (c2 memC))) (T2 (gcells k0 n0 k1 n1 k2 n2 k3 n3 k4 n4 c0 c1' c2' c3 c4 z0 z1 z2 z3 z4) true) (M2 (gcells k0 n0 k1 n1 k2 n2 k3 n3 k4 n4 c0 c1' c2' c3 c4 z0 z1 z2 z3 z4))) = .st .normal (T2 (gcells k0 n0 k1 n1 k2 n2 k3 n3 k4 n4 c0 c1' c2' c3 c4 z0 z1 z2 z3 z4) true) (M2 (gcells k0 n0 k1 n1 k2 n2 k3 n3 k4 n4 c0 c1' c2' c3 c4 z0 z1 z2 z3 z4)) := by kernel_rfl
theorem mem_awake (k0 n0 k1 n1 k2 n2 k3 n3 k4 n4 : Nat) (c0 c1' c2' c3 c4 : List DV) (z0 z1 z2 z3 z4 : Option Bool) : isRetO (fast E34 1000 (.code 3 (c2 (c1 (c2 memC))) (T2 (gcells k0 n0 k1 n1 k2 n2 k3 n3 k4 n4 c0 c1' c2' c3 c4 z0 z1 z2 z3 z4) false) (M2 (gcells k0 n0 k1 n1 k2 n2 k3 n3 k4 n4 c0 c1' c2' c3 c4 z0 z1 z2 z3 z4)))) = true := by kernel_rfl
theorem mem_rest (k0 n0 k1 n1 k2 n2 k3 n3 k4 n4 : Nat) (c0 c1' c2' c3 c4 : List DV) (z0 z1 z2 z3 z4 : Option Bool) : isRetO (fast E34 100000 (.code 3 (c2 (c2 memC)) (T2 (gcells k0 n0 k1 n1 k2 n2 k3 n3 k4 n4 c0 c1' c2' c3 c4 z0 z1 z2 z3 z4) true) (M2 (gcells k0 n0 k1 n1 k2 n2 k3 n3 k4 n4 c0 c1' c2' c3 c4 z0 z1 z2 z3 z4)))) = true := by kernel_rfl
theorem mem_load (k0 n0 k1 n1 k2 n2 k3 n3 k4 n4 : Nat) (c0 c1' c2' c3 c4 : List DV) (z0 z1 z2 z3 z4 : Option Bool) : opD E34.P (.load 26 (.tmp 1)) (T1 (gcells k0 n0 k1 n1 k2 n2 k3 n3 k4 n4 c0 c1' c2' c3 c4 z0 z1 z2 z3 z4)) (M1 (gcells k0 n0 k1 n1 k2 n2 k3 n3 k4 n4 c0 c1' c2' c3 c4 z0 z1 z2 z3 z4)) = some (.agg (gcells k0 n0 k1 n1 k2 n2 k3 n3 k4 n4 c0 c1' c2' c3 c4 z0 z1 z2 z3 z4), M1 (gcells k0 n0 k1 n1 k2 n2 k3 n3 k4 n4 c0 c1' c2' c3 c4 z0 z1 z2 z3 z4)) := by kernel_rfl

theorem mem_light (k0 n0 k1 n1 k2 n2 k3 n3 k4 n4 : Nat) (c0 c1' c2' c3 c4 : List DV) (z0 z1 z2 z3 z4 : Option Bool) (hks : n3 = 0 ∨ k3 = 1) (hcs : ∀ i, i < n3 → ∃ z' k' n' cs' rest, c3.drop i = .dsl z' k' n' cs' :: rest) :
    ∃ b, Runs E34 (.code 3 (c1 (c1 (c2 memC))) (T1 (gcells k0 n0 k1 n1 k2 n2 k3 n3 k4 n4 c0 c1' c2' c3 c4 z0 z1 z2 z3 z4)) (M1 (gcells k0 n0 k1 n1 k2 n2 k3 n3 k4 n4 c0 c1' c2' c3 c4 z0 z1 z2 z3 z4))) (.st .normal (T2 (gcells k0 n0 k1 n1 k2 n2 k3 n3 k4 n4 c0 c1' c2' c3 c4 z0 z1 z2 z3 z4) b) (M2 (gcells k0 n0 k1 n1 k2 n2 k3 n3 k4 n4 c0 c1' c2' c3 c4 z0 z1 z2 z3 z4))) := by
  obtain ⟨b, hb⟩ := light_call (E := E34) rfl (m := M1 (gcells k0 n0 k1 n1 k2 n2 k3 n3 k4 n4 c0 c1' c2' c3 c4 z0 z1 z2 z3 z4)) (n0 := n0) (n1 := n1) (n2 := n2) (n3 := n3) (n4 := n4) (k0 := k0) (k1 := k1) (k2 := k2) (k3 := k3) (k4 := k4) (c0 := c0) (c1' := c1') (c2' := c2') (c3 := c3) (c4 := c4) (z0 := z0) (z1 := z1) (z2 := z2) (z3 := z3) (z4 := z4) rfl hks hcs
  have hb' : Runs E34 (.call 6 [.agg (gcells k0 n0 k1 n1 k2 n2 k3 n3 k4 n4 c0 c1' c2' c3 c4 z0 z1 z2 z3 z4)] (M1 (gcells k0 n0 k1 n1 k2 n2 k3 n3 k4 n4 c0 c1' c2' c3 c4 z0 z1 z2 z3 z4))) (.val (.bool b) (M2 (gcells k0 n0 k1 n1 k2 n2 k3 n3 k4 n4 c0 c1' c2' c3 c4 z0 z1 z2 z3 z4))) := hb
  refine ⟨b, ?_⟩
  have hr : c1 (c1 (c2 memC)) = .region 1 (rops (c1 (c1 (c2 memC)))) false := rfl
  rw [hr]
  refine Runs.region ?_
  have hl : (rops (c1 (c1 (c2 memC)))).toList = [
      { dst := some 5, op := .load 26 (.tmp 1), type := 26, pos := "law.go:199", after := #[], guard := none },
      { dst := some 6, op := .call { callee := .value (.func 6), args := #[.tmp 5], argTypes := #[26] }, type := 4, pos := "law.go:199", after := #[{ on := 0, ground := .data }], guard := none },
      { dst := some 7, op := .unOp .not 4 (.tmp 6), type := 4, pos := "law.go:199", after := #[{ on := 1, ground := .data }], guard := none }] := rfl
  rw [hl]
  exact Runs.op rfl rfl (mem_load k0 n0 k1 n1 k2 n2 k3 n3 k4 n4 c0 c1' c2' c3 c4 z0 z1 z2 z3 z4) (Runs.opCall rfl rfl rfl hb' (Runs.op rfl rfl rfl Runs.done))

theorem mem_run (k0 n0 k1 n1 k2 n2 k3 n3 k4 n4 : Nat) (c0 c1' c2' c3 c4 : List DV) (z0 z1 z2 z3 z4 : Option Bool) (hks : n3 = 0 ∨ k3 = 1) (hcs : ∀ i, i < n3 → ∃ z' k' n' cs' rest, c3.drop i = .dsl z' k' n' cs' :: rest) :
    ∃ m', Runs E34 (.call 3 [.agg (gcells k0 n0 k1 n1 k2 n2 k3 n3 k4 n4 c0 c1' c2' c3 c4 z0 z1 z2 z3 z4)] noMem) (.val (.bool true) m') := by
  have hbody : Tryz.f3.body = some (.seq (c1 memC) (.seq (.seq (c1 (c1 (c2 memC))) (c2 (c1 (c2 memC)))) (c2 (c2 memC)))) := rfl
  have R0 : Runs E34 (.code 3 (c1 memC) (enterSlots [.agg (gcells k0 n0 k1 n1 k2 n2 k3 n3 k4 n4 c0 c1' c2' c3 c4 z0 z1 z2 z3 z4)] 0 .lf) noMem) (.st .normal (T1 (gcells k0 n0 k1 n1 k2 n2 k3 n3 k4 n4 c0 c1' c2' c3 c4 z0 z1 z2 z3 z4)) (M1 (gcells k0 n0 k1 n1 k2 n2 k3 n3 k4 n4 c0 c1' c2' c3 c4 z0 z1 z2 z3 z4))) := ⟨by simp, _, mem_start k0 n0 k1 n1 k2 n2 k3 n3 k4 n4 c0 c1' c2' c3 c4 z0 z1 z2 z3 z4⟩
  obtain ⟨b, R1⟩ := mem_light k0 n0 k1 n1 k2 n2 k3 n3 k4 n4 c0 c1' c2' c3 c4 z0 z1 z2 z3 z4 hks hcs
  have fin : ∀ {t' : Slots} {m' : DH}, Runs E34 (.code 3 (.seq (c1 memC) (.seq (.seq (c1 (c1 (c2 memC))) (c2 (c1 (c2 memC)))) (c2 (c2 memC)))) (enterSlots [.agg (gcells k0 n0 k1 n1 k2 n2 k3 n3 k4 n4 c0 c1' c2' c3 c4 z0 z1 z2 z3 z4)] 0 .lf) noMem) (.st .ret t' m') → t'.get 2 = some (.bool true) →
      ∃ m', Runs E34 (.call 3 [.agg (gcells k0 n0 k1 n1 k2 n2 k3 n3 k4 n4 c0 c1' c2' c3 c4 z0 z1 z2 z3 z4)] noMem) (.val (.bool true) m') := by
    intro t' m' R h2
    refine ⟨m', Runs.call Tryz.func3 hbody rfl (by simp [Tryz.f3]) R (.inr rfl) ?_⟩
    simp [resultsD, Tryz.f3, resD, h2]
  cases b with
  | false =>
    obtain ⟨t', m', R2, h2⟩ := ret_of (mem_awake k0 n0 k1 n1 k2 n2 k3 n3 k4 n4 c0 c1' c2' c3 c4 z0 z1 z2 z3 z4)
    exact fin (R0.seq ((R1.seq R2).seq_out (by simp))) h2
  | true =>
    obtain ⟨t', m', R2, h2⟩ := ret_of (mem_rest k0 n0 k1 n1 k2 n2 k3 n3 k4 n4 c0 c1' c2' c3 c4 z0 z1 z2 z3 z4)
    have R3 : Runs E34 (.code 3 (c2 (c1 (c2 memC))) (T2 (gcells k0 n0 k1 n1 k2 n2 k3 n3 k4 n4 c0 c1' c2' c3 c4 z0 z1 z2 z3 z4) true) (M2 (gcells k0 n0 k1 n1 k2 n2 k3 n3 k4 n4 c0 c1' c2' c3 c4 z0 z1 z2 z3 z4))) (.st .normal (T2 (gcells k0 n0 k1 n1 k2 n2 k3 n3 k4 n4 c0 c1' c2' c3 c4 z0 z1 z2 z3 z4) true) (M2 (gcells k0 n0 k1 n1 k2 n2 k3 n3 k4 n4 c0 c1' c2' c3 c4 z0 z1 z2 z3 z4))) := ⟨by simp, _, mem_skip k0 n0 k1 n1 k2 n2 k3 n3 k4 n4 c0 c1' c2' c3 c4 z0 z1 z2 z3 z4⟩
    exact fin (R0.seq ((R1.seq R3).seq R2)) h2
end Go.Proofs.YthbnlmmidanaiaaGreat
