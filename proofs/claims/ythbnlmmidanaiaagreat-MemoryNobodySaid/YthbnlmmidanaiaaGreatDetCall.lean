/-
  Calls, and the whole run.
-/
import Derived.Test.YthbnlmmidanaiaaGreatDetRun
set_option linter.unusedVariables false
set_option linter.unusedSimpArgs false
set_option linter.unusedSectionVars false
namespace Go.Det
variable [Beside]

theorem load_spec {P : Program} {ρ : Nm} {N : Nat → Prop} {w : World} {m : DH} {x d : DV} {v : Value} {T : TypeId} (hv : VR ρ N w x v) (hR : ∀ b, Row ρ N w m b) (h : loadD P T x m = some d) :
    ∃ ad y, v = .pointer (some ad) ∧ (loadVar T ad).run P w = .ok y w ∧ VR ρ N w d y := by
  unfold loadD at h
  split at h
  · rename_i b off
    simp only [VR] at hv
    obtain ⟨g, hg, hv⟩ := hv
    split at h
    · rename_i cs e' ro hb
      obtain ⟨vs, h3, h4⟩ := row_cells (hR b) hg hb off
      obtain ⟨y, hy1, hy2⟩ := loadVar_spec h h3 h4
      exact ⟨_, y, hv, hy1, hy2⟩
    · cases h
  · rename_i cs
    simp only [VR] at hv
    obtain ⟨ad, hv, hc⟩ := hv
    by_cases hn : cs = []
    · subst hn
      unfold takeVar at h
      split at h
      · rename_i k ha hk
        split at h
        · rename_i hl
          injection h with h; subst h
          have hk0 : k = 0 := by simpa using hl
          subst hk0
          exact ⟨ad, .agg #[], hv, by simp [loadVar, isAgg_of ha, size_of hk, loadCells, loadCellsFrom], by simp only [VR]; exact ⟨[], rfl, by simp [VRL]⟩⟩
        · cases h
      · cases h
      · cases h
    · obtain ⟨vs, h3, h4⟩ := of_cellsAt (hc hn).2
      obtain ⟨y, hy1, hy2⟩ := loadVar_spec h h3 (a := ad) fun j v hv => by have := h4 j v hv; rwa [Nat.zero_add] at this
      exact ⟨ad, y, hv, hy1, hy2⟩
  · cases h

/-- The result of one variable. -/
def resOne (tmps : Array Value) : ResultVar → Sem Value
  | .tmp t => pure (tmps.getD t undef)
  | .cell a t => do loadVar t (← asAddr (tmps.getD a undef))

theorem res_spec {P : Program} {ρ : Nm} {N : Nat → Prop} {w : World} {m : DH} {t : Slots} {tmps : Array Value} (S : SR ρ N w t tmps) (hR : ∀ b, Row ρ N w m b) : ∀ {rs : List ResultVar} {vs : List DV}, resD P t m rs = some vs →
    ∃ us, (rs.mapM (resOne tmps)).run P w = .ok us w ∧ VRL ρ N w vs us
  | [], vs, h => by
    simp only [resD] at h; injection h with h; subst h
    exact ⟨[], by simp, VRL.nil⟩
  | .tmp i :: rs, vs, h => by
    simp only [resD] at h
    split at h
    · rename_i vs' hr
      injection h with h; subst h
      obtain ⟨us, h1, h2⟩ := res_spec S hR hr
      exact ⟨_ :: us, by simp [List.mapM_cons, resOne, h1], VRL.cons (S i) h2⟩
    · cases h
  | .cell a T :: rs, vs, h => by
    simp only [resD] at h
    split at h
    · rename_i v vs' hl hr
      injection h with h; subst h
      obtain ⟨us, h1, h2⟩ := res_spec S hR hr
      obtain ⟨ad, y, h3, h4, h5⟩ := load_spec (S a) hR hl
      exact ⟨y :: us, by simp [List.mapM_cons, resOne, h3, asAddr, h4, h1], VRL.cons h5 h2⟩
    · cases h

theorem results_spec {P : Program} {fn : Func} {ρ : Nm} {N : Nat → Prop} {w : World} {m m' : DH} {t : Slots} {tmps : Array Value} (S : SR ρ N w t tmps) (hR : ∀ b, Row ρ N w m b) {v : DV} (h : resultsD P fn t m = some (v, m')) :
    m' = m ∧ ∃ x, (results fn tmps).run P w = .ok x w ∧ VR ρ N w v x := by
  have hres : ∀ {vs : List DV}, resD P t m fn.results.toList = some vs → ∃ us, VRL ρ N w vs us ∧ (results fn tmps).run P w = .ok (if h : us.toArray.size = 1 then us.toArray[0] else .tuple us.toArray) w := by
    intro vs hvs
    obtain ⟨us, h1, h2⟩ := res_spec S hR hvs
    refine ⟨us, h2, ?_⟩
    have he : results fn tmps = (do let vs ← fn.results.mapM (resOne tmps); pure (if h : vs.size = 1 then vs[0] else .tuple vs)) := by
      unfold results
      rfl
    rw [he, Array.mapM_eq_mapM_toList]
    simp [h1]
  unfold resultsD at h
  split at h
  · rename_i v' hr
    injection h with h; injection h with h1 h2; subst h1 h2
    obtain ⟨us, h3, h4⟩ := hres hr
    cases us with
    | nil => simp [VRL] at h3
    | cons u us =>
      have hn := h3.uncons.2
      simp only [VRL] at hn
      subst hn
      exact ⟨rfl, u, by rw [h4]; simp, h3.uncons.1⟩
  · rename_i vs hne hr
    injection h with h; injection h with h1 h2; subst h1 h2
    obtain ⟨us, h3, h4⟩ := hres hr
    refine ⟨rfl, .tuple us.toArray, ?_, by simp only [VR]; exact ⟨us, rfl, h3⟩⟩
    rw [h4, dif_neg]
    intro h1
    have hl := h3.length
    simp at h1
    cases vs with
    | nil => simp at hl; omega
    | cons d ds =>
      cases ds with
      | nil => exact hne d rfl
      | cons e es => simp at hl; omega
  · cases h

theorem enter_get : ∀ (args : List DV) (i : Nat) (t : Slots) (j : Nat), (enterSlots args i t).get j = if i ≤ j ∧ j < i + args.length then args[j - i]? else t.get j
  | [], i, t, j => by simp [enterSlots]; omega
  | v :: vs, i, t, j => by
    simp only [enterSlots, enter_get vs (i + 1), List.length_cons, PM.get_set]
    by_cases h1 : j = i
    · subst h1
      rw [if_neg (by omega), if_pos rfl, if_pos (by omega)]
      simp
    · by_cases h2 : i + 1 ≤ j ∧ j < i + 1 + vs.length
      · rw [if_pos h2, if_pos (by omega)]
        have : j - i = (j - (i + 1)) + 1 := by omega
        rw [this]; simp
      · rw [if_neg h2, if_neg (by omega), if_neg (by omega)]

theorem enter_SR {ρ : Nm} {N : Nat → Prop} {w : World} {args : List DV} {vs : List Value} (h : VRL ρ N w args vs) (n : Nat) : SR ρ N w (enterSlots args 0 .lf) ((⟨vs⟩ : Array Value) ++ Array.replicate n undef) := by
  intro i
  rw [enter_get]
  have hl := h.length
  by_cases hi : i < args.length
  · rw [if_pos (by omega), Nat.sub_zero, List.getElem?_eq_getElem hi, Option.getD_some]
    obtain ⟨v, h1, h2⟩ := h.get i (List.getElem?_eq_getElem hi)
    have : ((⟨vs⟩ : Array Value) ++ Array.replicate n undef).getD i undef = v := by
      rw [Array.getD_eq_getD_getElem?, Array.getElem?_append_left (by simp; omega)]
      simp [h1]
    rw [this]; exact h2
  · rw [if_neg (by omega), PM.get_lf, Option.getD_none]
    have : ((⟨vs⟩ : Array Value) ++ Array.replicate n undef).getD i undef = undef := by
      rw [Array.getD_eq_getD_getElem?, Array.getElem?_append_right (by simp; omega)]
      rw [Array.getElem?_replicate]
      split <;> rfl
    rw [this]; exact VR.undef

theorem call_spec {E : Env} (K : Known E) {T : Task → Out} (ih : ∀ t, Shown E t (T t)) (f : FuncId) (args : List DV) (m : DH) : Shown E (.call f args m) (callB E T f args m) := by
  cases hr : callB E T f args m with
  | st x t' m' => trivial
  | no => trivial
  | val v m' =>
    unfold callB at hr
    split at hr
    · cases hr
    · rename_i fn hf
      split at hr
      · cases hr
      · rename_i c hb
        split at hr
        · rename_i r hext
          injection hr with h1 h2; subst h1 h2
          exact ⟨(K.ext f args m r hext).1, (K.ext f args m r hext).2, fn, c, hf, hb⟩
        · split at hr
          · rename_i hle
            rw [Nat.ble_eq] at hle
            have hs := ih (.code f c (enterSlots args 0 .lf) m)
            cases hT : T (.code f c (enterSlots args 0 .lf) m) with
            | val _ _ => rw [hT] at hr; cases hr
            | no => rw [hT] at hr; cases hr
            | st x t1 m1 =>
              rw [hT] at hs hr
              have hfin : ∀ {r : OR}, Out.ofOR r = .val v m' → r = some (v, m') := by
                intro r h
                cases r with
                | none => cases h
                | some p => obtain ⟨p1, p2⟩ := p; simp only [Out.ofOR] at h; injection h with h1 h2; rw [h1, h2]
              have hres : x ≠ .exit 0 → (∀ id, x ≠ .exit id) → resultsD E.P fn t1 m1 = some (v, m') := by
                intro _ hx
                cases x with
                | exit id => exact absurd rfl (hx id)
                | normal => exact hfin hr
                | ret => exact hfin hr
              have hx : ∀ id, x ≠ .exit id := by
                intro id e
                subst e
                cases hr
              have hres := hres (hx 0) hx
              have hm1 : m' = m1 := by
                unfold resultsD at hres
                split at hres
                · injection hres with h; injection h with h1 h2; exact h2.symm
                · injection hres with h; injection h with h1 h2; exact h2.symm
                · cases hres
              subst hm1
              refine ⟨?_, hs.1, fn, c, hf, hb⟩
              intro ρ N w vs M hvs
              have hg := (hs.2 fn.ntmps (K.ok f fn c hf hb)).1
              have hl := hvs.length
              refine calls_of_wp hf hb (wp_mono (hg ρ N w _ ⟨M, enter_SR hvs _, by simp; omega, rfl⟩) fun e a' w' h => ?_)
              obtain ⟨rfl, ρ', N', B, S⟩ := h
              obtain ⟨_, y, h1, h2⟩ := results_spec S.2.1 S.1.R hres
              cases x with
              | exit id => exact absurd rfl (hx id)
              | normal => exact ⟨S.2.2.2, y, h1, y, rfl, ρ', N', B, S.1, h2⟩
              | ret => exact ⟨S.2.2.2, y, h1, y, rfl, ρ', N', B, S.1, h2⟩
          · cases hr

/-- What the machine does, the model does. -/
theorem run_spec {E : Env} (K : Known E) (D : Draws E) : ∀ (k : Nat) (t : Task), Shown E t (run E k t)
  | 0, t => by cases t <;> trivial
  | k + 1, t => by
    have ih := run_spec K D k
    show Shown E t (bodyB E (run E k) t)
    cases t with
    | call f args m => exact call_spec K ih f args m
    | ops f all rest t m => exact ops_spec K ih f all rest t m
    | rops f all l j rest t m b tr => exact rops_spec ih f all l j rest t m b tr
    | code f c t m => exact code_spec D ih f c t m
end Go.Det
