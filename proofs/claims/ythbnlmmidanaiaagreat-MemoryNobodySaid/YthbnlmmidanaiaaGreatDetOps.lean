/-
  One operation: what the deterministic machine does, the model does. Operations that turn no memory.
-/
import Derived.Test.YthbnlmmidanaiaaGreatDetMem
import Derived.Laws.Sem
import Derived.Laws.Entries
import Derived.ChangeKeysEq
set_option linter.unusedVariables false
set_option linter.unusedSimpArgs false
set_option linter.unusedSectionVars false
namespace Go.Det

def SR (ρ : Nm) (N : Nat → Prop) (w : World) (t : Slots) (tmps : Array Value) : Prop := ∀ i, VR ρ N w ((t.get i).getD undefD) (tmps.getD i undef)

theorem VR.undef {ρ : Nm} {N : Nat → Prop} {w : World} : VR ρ N w undefD undef := by
  simp only [undefD, VR]
  exact ⟨[], rfl, VRL.nil⟩

section
variable {ρ : Nm} {N : Nat → Prop} {w : World}
theorem ofValues_spec : ∀ {vs : List Value} {ds : List DV}, ofValues vs = some ds → VRL ρ N w ds vs
  | [], ds, h => by simp [ofValues] at h; subst h; exact VRL.nil
  | v :: vs, ds, h => by
    simp only [ofValues] at h
    split at h
    · cases h
    · rename_i ds' hd
      have ih := ofValues_spec hd
      split at h <;> first | (cases h; done) | (injection h with h; subst h; refine VRL.cons ?_ ih)
      all_goals simp only [VR]
      case _ => exact ⟨none, 0, rfl, by simp, by simp, by simp, by simp, by simp, by simp, by simp⟩
theorem ofConst_spec (v : Value) : VR ρ N w (ofConst v) v := by
  unfold ofConst
  split
  · rename_i cs
    split
    · rename_i ds h
      simp only [VR]
      exact ⟨cs.toList, rfl, ofValues_spec h⟩
    · simp [VR]
  · rename_i cs
    split
    · rename_i ds h
      simp only [VR]
      exact ⟨cs.toList, rfl, ofValues_spec h⟩
    · simp [VR]
  · split
    · rename_i d h
      exact (ofValues_spec h).uncons.1
    · simp [VR]
theorem ev_spec {t : Slots} {a : Act} (h : SR ρ N w t a.tmps) (x : Operand) : VR ρ N w (ev t x) (a.eval x) := by
  cases x with
  | tmp i => exact h i
  | const v => exact ofConst_spec v
  | global g => simp [ev, VR]
  | func f => simp only [ev, VR]; exact ⟨[], [], rfl, VRL.nil, VRL.nil⟩
theorem evs_spec {t : Slots} {a : Act} (h : SR ρ N w t a.tmps) : ∀ (xs : List Operand), VRL ρ N w (evs t xs) (xs.map a.eval)
  | [] => VRL.nil
  | x :: xs => VRL.cons (ev_spec h x) (evs_spec h xs)
end

/-- What is shown of an operation: the model does it, and comes to what the machine comes to. -/
def Done (P : Program) (o : Oper) (a : Act) (ρ : Nm) (N : Nat → Prop) (m : DH) (w : World) (wr : List Nat) (v : DV) (m' : DH) : Prop :=
  ∃ r ρ' w', (execOp a.eval o).run P w = .ok r w' ∧ Step (· ∈ wr) ρ m w ρ' m' w' ∧ MemG ρ' N w' m' ∧ (∀ b, b ∈ wr ∨ m.n ≤ b → Row ρ' N w' m' b) ∧
    ((∃ x, r = .value x ∧ VR ρ' N w' v x) ∨ (r = .skip ∧ v = undefD))

section
variable {P : Program} {o : Oper} {a : Act} {ρ : Nm} {N : Nat → Prop} {m : DH} {w : World} {t : Slots}

theorem MemG.row_none (G : MemG ρ N w m) {b : Nat} (hb : m.n ≤ b) : Row ρ N w m b := fun g o hρ _ => by have := (G.dom b g hρ).1; omega

theorem done_pure (G : MemG ρ N w m) {v : DV} {x : Value} (hr : (execOp a.eval o).run P w = .ok (.value x) w) (hv : VR ρ N w v x) : Done P o a ρ N m w [] v m :=
  ⟨_, ρ, w, hr, Step.refl _ _ _, G, fun b hb => by
    rcases hb with hb | hb
    · simp at hb
    · exact G.row_none hb, .inl ⟨x, rfl, hv⟩⟩

theorem under_of {T : TypeId} {d : TypeDesc} (h : P.underlying T = some d) (w : World) : (underlying T).run P w = .ok d w := run_underlying h w
theorem size_of {T : TypeId} {k : Nat} (h : sizeB P T = some k) (w : World) : (sizeOf T).run P w = .ok k w := by
  unfold sizeB at h
  obtain ⟨i, hi, rfl⟩ := Option.map_eq_some_iff.1 h
  simp only [sizeOf, Sem.run_bind, run_typeInfo w hi, Result.andThen_ok, Sem.run_pure]
theorem isAgg_of {T : TypeId} {b : Bool} (h : isAggB P T = some b) (w : World) : (isAgg T).run P w = .ok b w := by
  unfold isAggB at h
  split at h
  · rename_i fs hu; injection h with h; subst h; simp [isAgg, under_of hu]
  · rename_i n e hu; injection h with h; subst h; simp [isAgg, under_of hu]
  · rename_i d h1 h2 hu
    injection h with h; subst h
    simp only [isAgg, Sem.run_bind, under_of hu, Result.andThen_ok]
    cases d <;> first | rfl | exact absurd rfl (h1 _) | exact absurd rfl (h2 _ _)
  · cases h
theorem zero_of {T : TypeId} {z : DV} (h : zeroOf P T = some z) (w : World) : ∃ v, (zeroValue T).run P w = .ok v w ∧ ofConst v = z := by
  unfold zeroOf at h
  split at h
  · rename_i i hi
    split at h
    · rename_i v hz
      refine ⟨v, by simp only [zeroValue, Sem.run_bind, run_typeInfo w hi, Result.andThen_ok, hz, Sem.run_pure], ?_⟩
      split at h
      · cases h
      · injection h
    · cases h
  · cases h

/-! ### Moves -/
theorem done_move (G : MemG ρ N w m) (S : SR ρ N w t a.tmps) {x : Operand} (ho : o.op = .move x) : Done P o a ρ N m w [] (ev t x) m :=
  done_pure G (x := a.eval x) (by unfold execOp; simp [ho]) (ev_spec S x)
theorem done_assign (G : MemG ρ N w m) (S : SR ρ N w t a.tmps) {x : Operand} (ho : o.op = .assign x) : Done P o a ρ N m w [] (ev t x) m :=
  done_pure G (x := a.eval x) (by unfold execOp; simp [ho]) (ev_spec S x)
theorem done_pick (G : MemG ρ N w m) (S : SR ρ N w t a.tmps) {c x y : Operand} (ho : o.op = .pick c x y) {v : DV} {m' : DH} (h : pickD (ev t c) (ev t x) (ev t y) m = some (v, m')) : Done P o a ρ N m w [] v m' := by
  have hc := ev_spec S c
  unfold pickD at h
  split at h
  · rename_i e
    injection h with h; injection h with h1 h2; subst h1 h2
    rw [e] at hc; simp only [VR] at hc
    exact done_pure G (x := a.eval x) (by unfold execOp; simp [ho, hc, asBool]) (ev_spec S x)
  · rename_i e
    injection h with h; injection h with h1 h2; subst h1 h2
    rw [e] at hc; simp only [VR] at hc
    exact done_pure G (x := a.eval y) (by unfold execOp; simp [ho, hc, asBool]) (ev_spec S y)
  · cases h
theorem done_makeFunc (G : MemG ρ N w m) (S : SR ρ N w t a.tmps) {fn : Fn} {first captured : Array Operand} (ho : o.op = .makeFunc fn first captured) {v : DV} {m' : DH}
    (h : makeFuncD fn (evs t first.toList) (evs t captured.toList) m = some (v, m')) : Done P o a ρ N m w [] v m' := by
  unfold makeFuncD at h
  split at h
  · rename_i f
    injection h with h; injection h with h1 h2; subst h1 h2
    refine done_pure G (x := .func (.func f) (first.map a.eval) (captured.map a.eval)) (by unfold execOp; simp [ho, Instr.makeFunc]) ?_
    simp only [VR]
    refine ⟨first.toList.map a.eval, captured.toList.map a.eval, ?_, evs_spec S first.toList, evs_spec S captured.toList⟩
    congr 1 <;> apply Array.ext' <;> simp
  · cases h
theorem done_extract (G : MemG ρ N w m) (S : SR ρ N w t a.tmps) {x : Operand} {i : Nat} (ho : o.op = .extract x i) {v : DV} {m' : DH} (h : extractD (ev t x) i m = some (v, m')) : Done P o a ρ N m w [] v m' := by
  have hx := ev_spec S x
  unfold extractD okV at h
  split at h
  · rename_i vs e
    split at h
    · rename_i d hd
      injection h with h; injection h with h1 h2; subst h1 h2
      rw [e] at hx; simp only [VR] at hx
      obtain ⟨us, hu, hl⟩ := hx
      obtain ⟨u, hu1, hu2⟩ := hl.get i hd
      exact done_pure G (x := u) (by unfold execOp; simp [ho, hu, Instr.extract, hu1]) hu2
    · cases h
  · cases h
def nnilV : Value → Bool
  | .pointer none | .nilIface | .nilFunc => false
  | .func (.method _) _ _ => false
  | _ => true
theorem nilB_spec {N : Nat → Prop} {v : DV} {x : Value} (h : nilB v = some false) (hv : VR ρ N w v x) : nnilV x = true := by
  cases v <;> simp [nilB] at h <;> simp only [VR] at hv
  case sl => obtain ⟨_, _, _, _, _, _, _, rfl, _⟩ := hv; rfl
  case dsl => obtain ⟨_, _, rfl, _⟩ := hv; rfl
  case ptr => obtain ⟨_, _, rfl⟩ := hv; rfl
  case dptr => obtain ⟨_, rfl, _⟩ := hv; rfl
  case fn => obtain ⟨_, _, rfl, _⟩ := hv; rfl
  case mp => obtain ⟨_, _, rfl⟩ := hv; rfl
theorem done_nilCheck (G : MemG ρ N w m) (S : SR ρ N w t a.tmps) {x : Operand} (ho : o.op = .nilCheck x) {v : DV} {m' : DH} (h : nilCheckD (ev t x) m = some (v, m')) : Done P o a ρ N m w [] v m' := by
  have hx := ev_spec S x
  unfold nilCheckD at h
  split at h
  · rename_i hn
    injection h with h; injection h with h1 h2; subst h1 h2
    have hk := nilB_spec hn hx
    refine done_pure G (x := a.eval x) ?_ hx
    unfold execOp
    simp only [ho]
    generalize a.eval x = u at hk
    cases u <;> try first | rfl | (simp [nnilV] at hk; done)
    case pointer p => cases p <;> first | rfl | (simp [nnilV] at hk; done)
    case func fn _ _ => cases fn <;> first | rfl | (simp [nnilV] at hk; done)
  · cases h
end
end Go.Det
