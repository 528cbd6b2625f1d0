/-
  Operations of one or two operands.
-/
import Derived.Test.YthbnlmmidanaiaaGreatDetEq
set_option linter.unusedVariables false
set_option linter.unusedSimpArgs false
set_option linter.unusedSectionVars false
namespace Go.Det

section
variable {ρ : Nm} {N : Nat → Prop} {w : World} {P : Program}

/-- What the model does at '==' and '!='. -/
structure EqOK (P : Program) (w : World) (T : TypeId) (u v : Value) (b : Bool) : Prop where
  guard : ∀ (op : BinOp) (xo yo : Operand), (eqGuard op T xo yo u v).run P w = .ok () w
  eql : binOp .eql T u v = (do pure (.bool (← Op.equal T u v)))
  neq : binOp .neq T u v = (do pure (.bool (!(← Op.equal T u v))))
  same : (Op.equal T u v).run P w = .ok b w

theorem eqlD_spec {T : TypeId} {x y : DV} {b : Bool} (h : eqlD P T x y = some b) {u v : Value} (hx : VR ρ N w x u) (hy : VR ρ N w y v) : EqOK P w T u v b := by
  obtain ⟨D, hD⟩ : ∃ d, Op.maxDepth = d + 1 := ⟨9999, rfl⟩
  unfold eqlD at h
  split at h
  · rename_i hu
    split at h
    · rename_i a c
      injection h with h; subst h
      simp only [VR] at hx hy
      subst hx hy
      refine ⟨fun op _ _ => by cases op <;> rfl, rfl, rfl, ?_⟩
      rw [Op.equal, hD]; simp [Op.equalIn, under_of hu]
    · cases h
  · rename_i e hu
    split at h
    · simp only [VR] at hy
      subst hy
      split at h
      · simp only [VR] at hx; subst hx; simp only [nilB] at h; injection h with h; subst h
        exact ⟨fun op _ _ => by cases op <;> rfl, rfl, rfl, by rw [Op.equal, hD]; simp [Op.equalIn, under_of hu]⟩
      · simp only [VR] at hx; obtain ⟨g, _, rfl⟩ := hx; simp only [nilB] at h; injection h with h; subst h
        exact ⟨fun op _ _ => by cases op <;> rfl, rfl, rfl, by rw [Op.equal, hD]; simp [Op.equalIn, under_of hu]⟩
      · simp only [VR] at hx; obtain ⟨g, rfl, _⟩ := hx; simp only [nilB] at h; injection h with h; subst h
        exact ⟨fun op _ _ => by cases op <;> rfl, rfl, rfl, by rw [Op.equal, hD]; simp [Op.equalIn, under_of hu]⟩
      · cases h
    · cases h
  · rename_i e hu
    split at h
    · simp only [VR] at hy
      obtain ⟨ay, cy, rfl, _, _, hz, _⟩ := hy
      obtain ⟨rfl, rfl⟩ := hz (by trivial)
      split at h
      · simp only [VR] at hx; obtain ⟨g, off', c, arr, e', fr, _, rfl, _⟩ := hx; simp only [nilB] at h; injection h with h; subst h
        exact ⟨fun op _ _ => by cases op <;> rfl, rfl, rfl, by rw [Op.equal, hD]; simp [Op.equalIn, under_of hu]⟩
      · rename_i z sz n cs
        simp only [VR] at hx
        obtain ⟨a, c, rfl, _, _, h1, h2, h3, _⟩ := hx
        refine ⟨fun op _ _ => by cases op <;> rfl, rfl, rfl, ?_⟩
        rw [Op.equal, hD]
        cases z with
        | some z =>
          simp only [nilB] at h
          injection h with h; subst h
          cases z with
          | true =>
            obtain ⟨rfl, rfl⟩ := h1 rfl
            simp [Op.equalIn, under_of hu]
          | false =>
            have := h2 rfl
            cases a with
            | none => exact absurd rfl this
            | some a => simp [Op.equalIn, under_of hu]
        | none =>
          simp only [nilB] at h
          split at h
          · cases h
          · rename_i hn
            injection h with h; subst h
            cases a with
            | none => exact absurd (h3 rfl).1 hn
            | some a => simp [Op.equalIn, under_of hu]
      · cases h
    · cases h
  · rename_i k e hu
    split at h
    · simp only [VR] at hy
      subst hy
      split at h
      · simp only [VR] at hx; subst hx; simp only [nilB] at h; injection h with h; subst h
        exact ⟨fun op _ _ => by cases op <;> rfl, rfl, rfl, by rw [Op.equal, hD]; simp [Op.equalIn, under_of hu]⟩
      · simp only [VR] at hx; obtain ⟨g, _, rfl⟩ := hx; simp only [nilB] at h; injection h with h; subst h
        exact ⟨fun op _ _ => by cases op <;> rfl, rfl, rfl, by rw [Op.equal, hD]; simp [Op.equalIn, under_of hu]⟩
      · cases h
    · cases h
  · rename_i hu
    split at h
    · simp only [VR] at hy
      subst hy
      split at h
      · simp only [VR] at hx; subst hx; simp only [nilB] at h; injection h with h; subst h
        exact ⟨fun op _ _ => by cases op <;> rfl, rfl, rfl, by rw [Op.equal, hD]; simp [Op.equalIn, under_of hu]⟩
      · simp only [VR] at hx; obtain ⟨g, us, rfl, _⟩ := hx; simp only [nilB] at h; injection h with h; subst h
        exact ⟨fun op _ _ => by cases op <;> rfl, rfl, rfl, by rw [Op.equal, hD]; simp [Op.equalIn, under_of hu]⟩
      · cases h
    · cases h
  · rename_i fs hu
    split at h
    · split at h
      · cases h
      · rename_i hg
        simp only [VR] at hx hy
        obtain ⟨vs, rfl, hv⟩ := hx
        obtain ⟨us, rfl, hu2⟩ := hy
        refine ⟨fun op _ _ => ?_, rfl, rfl, ?_⟩
        · cases op <;> first | rfl | simp [eqGuard, program, Sem.run, hg]
        · exact eqD_spec 50 Op.maxDepth (by unfold Op.maxDepth; omega) h (.inl ⟨by unfold isAggB; rw [hu], _, rfl, hv⟩) (.inl ⟨by unfold isAggB; rw [hu], _, rfl, hu2⟩)
    · cases h
  · rename_i n e hu
    split at h
    · split at h
      · cases h
      · rename_i hg
        simp only [VR] at hx hy
        obtain ⟨vs, rfl, hv⟩ := hx
        obtain ⟨us, rfl, hu2⟩ := hy
        refine ⟨fun op _ _ => ?_, rfl, rfl, ?_⟩
        · cases op <;> first | rfl | simp [eqGuard, program, Sem.run, hg]
        · exact eqD_spec 50 Op.maxDepth (by unfold Op.maxDepth; omega) h (.inl ⟨by unfold isAggB; rw [hu], _, rfl, hv⟩) (.inl ⟨by unfold isAggB; rw [hu], _, rfl, hu2⟩)
    · cases h
  · cases h

theorem unOp_spec {op : UnOp} {x : DV} {d : DV} (h : unOpD op x = some d) {u : Value} (hx : VR ρ N w x u) : ∃ v, (Op.unary op u).run P w = .ok v w ∧ VR ρ N w d v := by
  unfold unOpD at h
  split at h
  · rename_i k n
    injection h with h; subst h
    simp only [VR] at hx; subst hx
    exact ⟨.int k (k.wrap (0 - n)), by simp [Op.unary, Op.intArith], by simp only [VR, wrapD_eq]⟩
  · rename_i k n
    injection h with h; subst h
    simp only [VR] at hx; subst hx
    exact ⟨.int k (k.wrap (BitVec.ofInt k.bits (if k.signed then -1 else k.max) ^^^ BitVec.ofInt k.bits n).toNat), by simp only [Op.unary, Op.intBits, Sem.run_pure], by simp only [VR]⟩
  · rename_i b
    injection h with h; subst h
    simp only [VR] at hx; subst hx
    exact ⟨.bool !b, by simp [Op.unary], by simp only [VR]⟩
  · cases h
end

section
variable {P : Program} {o : Oper} {a : Act} {ρ : Nm} {N : Nat → Prop} {m : DH} {w : World} {t : Slots}

theorem guard_plain (op : BinOp) (T : TypeId) (xo yo : Operand) {u v : Value} (h : ∀ a b, ¬ (u = .agg a ∧ v = .agg b)) (h' : ¬ (u = .nilIface ∧ v = .nilIface)) : (eqGuard op T xo yo u v).run P w = .ok () w := by
  unfold eqGuard
  cases op <;> try rfl
  all_goals
    simp only [Bool.not_true, Bool.false_eq_true, if_false]
    split
    · exact absurd ⟨rfl, rfl⟩ h'
    · exact absurd ⟨rfl, rfl⟩ (h _ _)
    · rfl

theorem done_unOp (G : MemG ρ N w m) (S : SR ρ N w t a.tmps) {op : UnOp} {T : TypeId} {x : Operand} (ho : o.op = .unOp op T x) {v : DV} {m' : DH} (h : okV m (unOpD op (ev t x)) = some (v, m')) : Done P o a ρ N m w [] v m' := by
  unfold okV at h
  split at h
  · rename_i d hd
    injection h with h; injection h with h1 h2; subst h1 h2
    obtain ⟨u, hu1, hu2⟩ := unOp_spec (P := P) hd (ev_spec S x)
    exact done_pure G (x := u) (by unfold execOp; simp [ho, hu1]) hu2
  · cases h

theorem done_binOp (G : MemG ρ N w m) (S : SR ρ N w t a.tmps) {op : BinOp} {T T' : TypeId} {x y : Operand} (ho : o.op = .binOp op T x y T') {v : DV} {m' : DH} (h : okV m (binOpD P op T (ev t x) (ev t y)) = some (v, m')) : Done P o a ρ N m w [] v m' := by
  unfold okV at h
  split at h
  case h_2 => cases h
  rename_i d hd
  injection h with h; injection h with h1 h2; subst h1 h2
  have hx := ev_spec S x
  have hy := ev_spec S y
  unfold binOpD at hd
  split at hd
  · rename_i k p k' q e1 e2
    rw [e1] at hx; rw [e2] at hy
    simp only [VR] at hx hy
    have hg : (eqGuard op T x y (a.eval x) (a.eval y)).run P w = .ok () w := guard_plain op T x y (by rw [hx]; simp) (by rw [hx]; simp)
    split at hd
    · obtain ⟨u, hu1, hu2⟩ := shift_spec (ρ := ρ) (N := N) (P := P) (k' := k') hd T w
      refine done_pure G (x := u) ?_ hu2
      unfold execOp
      simp only [ho, Sem.run_bind, hg, Result.andThen_ok]
      rw [hx, hy, hu1]; rfl
    · obtain ⟨u, hu1, hu2⟩ := shift_spec (ρ := ρ) (N := N) (P := P) (k' := k') hd T w
      refine done_pure G (x := u) ?_ hu2
      unfold execOp
      simp only [ho, Sem.run_bind, hg, Result.andThen_ok]
      rw [hx, hy, hu1]; rfl
    · split at hd
      · rename_i hk
        subst hk
        obtain ⟨u, hu1, hu2⟩ := intOp_spec (ρ := ρ) (N := N) (P := P) hd T w
        refine done_pure G (x := u) ?_ hu2
        unfold execOp
        simp only [ho, Sem.run_bind, hg, Result.andThen_ok]
        rw [hx, hy, hu1]; rfl
      · cases hd
  · rename_i p q e1 e2
    rw [e1] at hx; rw [e2] at hy
    simp only [VR] at hx hy
    have hg : (eqGuard op T x y (a.eval x) (a.eval y)).run P w = .ok () w := guard_plain op T x y (by rw [hx]; simp) (by rw [hx]; simp)
    obtain ⟨u, hu1, hu2⟩ := strOp_spec (ρ := ρ) (N := N) (P := P) hd T w
    refine done_pure G (x := u) ?_ hu2
    unfold execOp
    simp only [ho, Sem.run_bind, hg, Result.andThen_ok]
    rw [hx, hy, hu1]; rfl
  · split at hd
    · obtain ⟨b, hb, rfl⟩ := Option.map_eq_some_iff.1 hd
      have E := eqlD_spec hb hx hy
      refine done_pure G (x := .bool b) ?_ (by simp only [VR])
      unfold execOp
      simp only [ho, Sem.run_bind, E.guard, Result.andThen_ok, E.eql, E.same, Sem.run_pure]
    · obtain ⟨b, hb, rfl⟩ := Option.map_eq_some_iff.1 hd
      have E := eqlD_spec hb hx hy
      refine done_pure G (x := .bool !b) ?_ (by simp only [VR])
      unfold execOp
      simp only [ho, Sem.run_bind, E.guard, Result.andThen_ok, E.neq, E.same, Sem.run_pure]
    · cases hd
end
end Go.Det
