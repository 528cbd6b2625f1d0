/-
  Equality, and what is nil.
-/
import Derived.Test.YthbnlmmidanaiaaGreatDetArith
import Derived.Laws.StructEq
set_option linter.unusedVariables false
set_option linter.unusedSimpArgs false
set_option linter.unusedSectionVars false
namespace Go.Det

section
variable {ρ : Nm} {N : Nat → Prop} {w : World} {P : Program}

/-- A value of a type, and its cells. -/
def VarV (ρ : Nm) (N : Nat → Prop) (w : World) (P : Program) (T : TypeId) (xs : List DV) (x : Value) : Prop :=
  (isAggB P T = some true ∧ ∃ vs, x = .agg ⟨vs⟩ ∧ VRL ρ N w xs vs) ∨ (isAggB P T = some false ∧ ∃ c rest, xs = c :: rest ∧ VR ρ N w c x)

theorem agg_not {T : TypeId} {d : TypeDesc} (h : P.underlying T = some d) (hd : (match d with | .struct _ | .array _ _ => true | _ => false) = false) : isAggB P T = some false := by
  unfold isAggB
  rw [h]
  cases d <;> first | rfl | simp at hd

theorem part_spec {T : TypeId} {k off : Nat} {xs : List DV} {vs : List Value} {b : Bool} (hk : sizeB P T = some k) (ha : isAggB P T = some b) (h : VRL ρ N w xs vs) (hl : off + k ≤ xs.length) (h0 : b = false → 0 < k) :
    ∃ x, (part T ⟨vs⟩ off).run P w = .ok x w ∧ VarV ρ N w P T ((xs.drop off).take k) x := by
  cases b with
  | true =>
    refine ⟨.agg ⟨(vs.drop off).take k⟩, ?_, .inl ⟨ha, _, rfl, (h.drop off).take k⟩⟩
    simp only [part, Sem.run_bind, isAgg_of ha, Result.andThen_ok, if_true, size_of hk, Sem.run_pure]
    congr 2
    apply Array.ext'
    simp
  | false =>
    have hlt : off < xs.length := by have := h0 rfl; omega
    obtain ⟨v, hv, hr⟩ := h.get off (List.getElem?_eq_getElem hlt)
    refine ⟨v, ?_, .inr ⟨ha, xs[off], ((xs.drop (off + 1)).take (k - 1)), ?_, hr⟩⟩
    · have : (⟨vs⟩ : Array Value)[off]? = some v := by simpa using hv
      simp only [part, Sem.run_bind, isAgg_of ha, Result.andThen_ok, Bool.false_eq_true, if_false, this, Sem.run_pure]
    · obtain ⟨q, rfl⟩ : ∃ q, k = q + 1 := ⟨k - 1, by have := h0 rfl; omega⟩
      rw [List.drop_eq_getElem_cons hlt, List.take_succ_cons]
      rfl

theorem isAggB_some {T : TypeId} {d : TypeDesc} (h : P.underlying T = some d) : ∃ b, isAggB P T = some b := by
  unfold isAggB
  rw [h]
  cases d <;> exact ⟨_, rfl⟩

theorem eqD_pos : ∀ {d : Nat} {T : TypeId} {xs ys : List DV} {b : Bool}, eqD P d T xs ys = some b → ∃ a, isAggB P T = some a ∧ (a = false → xs ≠ [] ∧ ys ≠ []) := by
  intro d T xs ys b h
  cases d with
  | zero => simp [eqD] at h
  | succ d =>
    simp only [eqD] at h
    split at h
    · rename_i hu
      exact ⟨false, agg_not hu rfl, fun _ => by split at h <;> first | (cases h; done) | exact ⟨by simp, by simp⟩⟩
    · rename_i hu
      exact ⟨false, agg_not hu rfl, fun _ => by split at h <;> first | (cases h; done) | exact ⟨by simp, by simp⟩⟩
    · rename_i hu
      exact ⟨false, agg_not hu rfl, fun _ => by split at h <;> first | (cases h; done) | exact ⟨by simp, by simp⟩⟩
    · rename_i fs hu
      exact ⟨true, by unfold isAggB; rw [hu], fun h => by cases h⟩
    · rename_i n e hu
      exact ⟨true, by unfold isAggB; rw [hu], fun h => by cases h⟩
    · cases h

theorem agg_of {T : TypeId} {xs : List DV} {x : Value} (ha : isAggB P T = some true) (hx : VarV ρ N w P T xs x) : ∃ vs, x = .agg ⟨vs⟩ ∧ VRL ρ N w xs vs := by
  rcases hx with ⟨_, h⟩ | ⟨e, _⟩
  · exact h
  · rw [ha] at e; cases e

theorem eqFs_spec {r : TypeId → List DV → List DV → Option Bool} {D : Nat} (ih : ∀ {T : TypeId} {xs ys : List DV} {b : Bool} {x y : Value}, r T xs ys = some b → VarV ρ N w P T xs x → VarV ρ N w P T ys y → (Op.equalIn D T x y).run P w = .ok b w)
    (hp : ∀ {T : TypeId} {xs ys : List DV} {b : Bool}, r T xs ys = some b → ∃ a, isAggB P T = some a ∧ (a = false → xs ≠ [] ∧ ys ≠ [])) {xs ys : List DV} {vs us : List Value} (hx : VRL ρ N w xs vs) (hy : VRL ρ N w ys us) :
    ∀ {fs : List Field} {b : Bool}, eqFs P r xs ys fs = some b → (Op.eqFields D ⟨vs⟩ ⟨us⟩ fs).run P w = .ok b w
  | [], b, h => by simp only [eqFs] at h; injection h with h; subst h; rfl
  | f :: fs, b, h => by
    simp only [eqFs] at h
    split at h
    · cases h
    · rename_i hn
      split at h
      · cases h
      · rename_i k hk
        split at h
        · cases h
        · rename_i hb
          simp only [Bool.and_eq_true, Nat.ble_eq] at hb
          split at h
          case h_3 => cases h
          all_goals
            rename_i hr
            obtain ⟨a, ha, hne⟩ := hp hr
            have h0 : a = false → 0 < k := fun e => by
              have := (hne e).1
              rcases Nat.eq_zero_or_pos k with h0 | h0
              · subst h0; simp at this
              · exact h0
            obtain ⟨x, hx1, hx2⟩ := part_spec hk ha hx hb.1 h0
            obtain ⟨y, hy1, hy2⟩ := part_spec hk ha hy hb.2 h0
            have hq := ih hr hx2 hy2
            simp only [Op.eqFields, ne_eq, hn, not_false_eq_true, if_true, Sem.run_bind, hx1, hy1, hq, Result.andThen_ok, Bool.not_true, Bool.not_false, Bool.false_eq_true, if_false]
          · exact eqFs_spec ih hp hx hy h
          · injection h with h; subst h; rfl

theorem eqIs_spec {r : List DV → List DV → Option Bool} {D k : Nat} {e : TypeId} (hk : sizeB P e = some k) (hk0 : k ≠ 0) (ih : ∀ {xs ys : List DV} {b : Bool} {x y : Value}, r xs ys = some b → VarV ρ N w P e xs x → VarV ρ N w P e ys y → (Op.equalIn D e x y).run P w = .ok b w)
    (hp : ∀ {xs ys : List DV} {b : Bool}, r xs ys = some b → ∃ a, isAggB P e = some a) {xs ys : List DV} {vs us : List Value} (hx : VRL ρ N w xs vs) (hy : VRL ρ N w ys us) :
    ∀ (n j : Nat) {b : Bool}, eqIs r k (xs.drop (j * k)) (ys.drop (j * k)) n = some b → (Op.eqItems D e k ⟨vs⟩ ⟨us⟩ (List.range' j n)).run P w = .ok b w
  | 0, j, b, h => by simp only [eqIs] at h; injection h with h; subst h; rfl
  | n + 1, j, b, h => by
    simp only [eqIs] at h
    split at h
    · cases h
    · rename_i hb
      simp only [Bool.and_eq_true, Nat.ble_eq, List.length_drop] at hb
      have hb1 : j * k + k ≤ xs.length := by omega
      have hb2 : j * k + k ≤ ys.length := by omega
      split at h
      case h_3 => cases h
      all_goals
        rename_i hr
        obtain ⟨a, ha⟩ := hp hr
        obtain ⟨x, hx1, hx2⟩ := part_spec hk ha hx hb1 fun _ => by omega
        obtain ⟨y, hy1, hy2⟩ := part_spec hk ha hy hb2 fun _ => by omega
        have hq := ih hr hx2 hy2
        simp only [List.range'_succ, Op.eqItems, Sem.run_bind, hx1, hy1, hq, Result.andThen_ok, Bool.not_true, Bool.not_false, Bool.false_eq_true, if_false, if_true]
      · refine eqIs_spec hk hk0 ih hp hx hy n (j + 1) ?_
        simpa [List.drop_drop, Nat.add_mul, Nat.add_comm] using h
      · injection h with h; subst h; rfl

theorem eqD_spec : ∀ (d D : Nat), d ≤ D → ∀ {T : TypeId} {xs ys : List DV} {b : Bool} {x y : Value}, eqD P d T xs ys = some b → VarV ρ N w P T xs x → VarV ρ N w P T ys y → (Op.equalIn D T x y).run P w = .ok b w
  | 0, _, _, _, _, _, _, _, _, h, _, _ => by simp [eqD] at h
  | d + 1, D, hD, T, xs, ys, b, x, y, h, hx, hy => by
    obtain ⟨D, rfl⟩ : ∃ q, D = q + 1 := ⟨D - 1, by omega⟩
    simp only [eqD] at h
    split at h
    · rename_i hu
      have ha := agg_not hu rfl
      rcases hx with ⟨e, _⟩ | ⟨_, c, r, rfl, hc⟩
      · rw [ha] at e; cases e
      rcases hy with ⟨e, _⟩ | ⟨_, c', r', rfl, hc'⟩
      · rw [ha] at e; cases e
      split at h
      · rename_i e1 e2
        injection e1 with e1 _; injection e2 with e2 _; subst e1 e2
        injection h with h; subst h
        simp only [VR] at hc hc'
        subst hc hc'
        simp [Op.equalIn, under_of hu]
      · cases h
    · rename_i hu
      have ha := agg_not hu rfl
      rcases hx with ⟨e, _⟩ | ⟨_, c, r, rfl, hc⟩
      · rw [ha] at e; cases e
      rcases hy with ⟨e, _⟩ | ⟨_, c', r', rfl, hc'⟩
      · rw [ha] at e; cases e
      split at h
      · rename_i e1 e2
        injection e1 with e1 _; injection e2 with e2 _; subst e1 e2
        split at h
        · rename_i hkk
          injection h with h; subst h
          simp only [VR] at hc hc'
          subst hc hc' hkk
          simp [Op.equalIn, under_of hu]
        · cases h
      · cases h
    · rename_i hu
      have ha := agg_not hu rfl
      rcases hx with ⟨e, _⟩ | ⟨_, c, r, rfl, hc⟩
      · rw [ha] at e; cases e
      rcases hy with ⟨e, _⟩ | ⟨_, c', r', rfl, hc'⟩
      · rw [ha] at e; cases e
      split at h
      · rename_i e1 e2
        injection e1 with e1 _; injection e2 with e2 _; subst e1 e2
        injection h with h; subst h
        simp only [VR] at hc hc'
        subst hc hc'
        rw [run_equalIn_string _ _ _ _ _ hu, bytes_toList, bytes_toList]
      · cases h
    · rename_i fs hu
      split at h
      · cases h
      · rename_i hs
        have ha : isAggB P T = some true := by unfold isAggB; rw [hu]
        obtain ⟨vs, rfl, hv⟩ := agg_of ha hx
        obtain ⟨us, rfl, hu'⟩ := agg_of ha hy
        have hf : P.fieldsOf T = fs := by unfold Program.fieldsOf; rw [hu]
        rw [run_equalIn_struct _ _ _ _ _ (by rw [hf]; exact hu) (by simpa using hs), hf]
        exact eqFs_spec (fun h hx hy => eqD_spec d D (by omega) h hx hy) (fun h => eqD_pos h) hv hu' h
    · rename_i n e hu
      split at h
      · cases h
      · rename_i k hk
        split at h
        · cases h
        · rename_i hk0
          have ha : isAggB P T = some true := by unfold isAggB; rw [hu]
          obtain ⟨vs, rfl, hv⟩ := agg_of ha hx
          obtain ⟨us, rfl, hu'⟩ := agg_of ha hy
          have hk1 := hk
          unfold sizeB at hk1
          obtain ⟨i, hi, hik⟩ := Option.map_eq_some_iff.1 hk1
          have hc : P.cellsOf e = k := by simp [Program.cellsOf, hi, hik]
          rw [run_equalIn_array w D _ _ hu hi, hc, List.range_eq_range']
          refine eqIs_spec hk hk0 (fun h hx hy => eqD_spec d D (by omega) h hx hy) (fun h => (eqD_pos h).imp fun _ h => h.1) hv hu' n 0 (by simpa using h)
    · cases h
end
end Go.Det
