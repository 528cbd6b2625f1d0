/-
  What the static test of a region that draws says; slots by what has been done.
-/
import Derived.Test.YthbnlmmidanaiaaGreatDetText
set_option linter.unusedVariables false
set_option linter.unusedSimpArgs false
set_option linter.unusedSectionVars false
namespace Go.Det
variable [Beside]

def Bef (ops : Array Oper) (i j : Nat) : Prop := i ∈ ((ordGo ops.toList [])[j]?).getD []

theorem ordOf_mem {acc : List (List Nat)} {i : Nat} : ∀ {es : List Edge}, i ∈ ordOf acc es → ∃ e, e ∈ es ∧ Region.binds .any e = true ∧ (e.on = i ∨ i ∈ ((acc[e.on]?).getD []))
  | [], h => by simp [ordOf] at h
  | e :: es, h => by
    simp only [ordOf] at h
    split at h
    · rename_i hb
      simp only [List.mem_cons, List.mem_append] at h
      rcases h with h | h | h
      · exact ⟨e, by simp, hb, .inl h.symm⟩
      · exact ⟨e, by simp, hb, .inr h⟩
      · obtain ⟨e', h1, h2⟩ := ordOf_mem h
        exact ⟨e', by simp [h1], h2⟩
    · obtain ⟨e', h1, h2⟩ := ordOf_mem h
      exact ⟨e', by simp [h1], h2⟩

theorem ordGo_get : ∀ (os : List Oper) (acc : List (List Nat)), (∀ j, j < acc.length → (ordGo os acc)[j]? = acc[j]?) ∧ ∀ j o, os[j]? = some o → (ordGo os acc)[acc.length + j]? = some (ordOf ((ordGo os acc).take (acc.length + j)) o.after.toList)
  | [], acc => ⟨fun _ _ => rfl, fun j o h => by simp at h⟩
  | o :: os, acc => by
    obtain ⟨h1, h2⟩ := ordGo_get os (acc ++ [ordOf acc o.after.toList])
    have hlen : (acc ++ [ordOf acc o.after.toList]).length = acc.length + 1 := by simp
    refine ⟨fun j hj => ?_, fun j o' hj => ?_⟩
    · simp only [ordGo]
      rw [h1 j (by omega), List.getElem?_append_left hj]
    · simp only [ordGo]
      cases j with
      | zero =>
        simp at hj
        subst hj
        rw [Nat.add_zero, h1 acc.length (by omega)]
        rw [List.getElem?_append_right (Nat.le_refl _)]
        simp only [Nat.sub_self, List.getElem?_cons_zero, Option.some.injEq]
        congr 1
        apply List.ext_getElem?
        intro k
        rw [List.getElem?_take]
        split
        · rename_i hk
          rw [h1 k (by omega), List.getElem?_append_left hk]
        · rename_i hk
          rw [List.getElem?_eq_none (by omega)]
      | succ j =>
        have := h2 j o' (by simpa using hj)
        rw [hlen] at this
        rw [show acc.length + (j + 1) = acc.length + 1 + j by omega]
        exact this

theorem bef_spec {ops : Array Oper} {i j : Nat} {o : Oper} (ho : ops[j]? = some o) (h : Bef ops i j) : ∃ e, e ∈ o.after.toList ∧ Region.binds .any e = true ∧ (e.on = i ∨ Bef ops i e.on) := by
  have h2 := (ordGo_get ops.toList []).2 j o (by simpa using ho)
  simp only [List.length_nil, Nat.zero_add] at h2
  unfold Bef at h
  rw [h2, Option.getD_some] at h
  obtain ⟨e, h3, h4, h5⟩ := ordOf_mem h
  refine ⟨e, h3, h4, ?_⟩
  rcases h5 with h5 | h5
  · exact .inl h5
  · right
    rw [List.getElem?_take] at h5
    split at h5
    · exact h5
    · simp at h5

theorem edgesOk_spec : ∀ {os : List Oper} {k : Nat}, edgesOk os k = true → ∀ j o, os[j]? = some o → ∀ e, e ∈ o.after.toList → Region.binds .any e = true → e.on < k + j
  | [], k, _, j, o, h => by simp at h
  | o' :: os, k, hk, j, o, h => by
    simp only [edgesOk] at hk
    split at hk
    · rename_i hall
      intro e he hb
      cases j with
      | zero =>
        simp at h
        subst h
        have := List.all_eq_true.1 hall e he
        rw [hb] at this
        simp only [Bool.not_true, Bool.false_or, Nat.blt_eq] at this
        exact this
      | succ j =>
        have := edgesOk_spec hk j o (by simpa using h) e he hb
        omega
    · cases hk

theorem allBelow_spec {p : Nat → Bool} : ∀ {n : Nat}, allBelow p n = true → ∀ i, i < n → p i = true
  | 0, _, i, hi => by omega
  | n + 1, h, i, hi => by
    simp only [allBelow] at h
    split at h
    · rename_i hp
      by_cases e : i = n
      · subst e; exact hp
      · exact allBelow_spec h i (by omega)
    · cases h

theorem inPairs_spec {i j : Nat} : ∀ {l : List (Nat × Nat)}, inPairs i j l = true → (i, j) ∈ l
  | [], h => by simp [inPairs] at h
  | p :: l, h => by
    simp only [inPairs] at h
    split at h
    · rename_i hb
      simp only [Bool.and_eq_true, Nat.beq_eq] at hb
      obtain ⟨p1, p2⟩ := p
      simp only at hb
      rw [hb.1, hb.2]
      simp
    · exact List.mem_cons_of_mem _ (inPairs_spec h)

structure Stat (ops : Array Oper) (l : List (Nat × Nat)) : Prop where
  edges : ∀ (j : Nat) (o : Oper), ops[j]? = some o → ∀ e, e ∈ o.after.toList → Region.binds .any e = true → e.on < j
  pairs : ∀ (i j : Nat) (x y : Oper), i < j → ops[i]? = some x → ops[j]? = some y → Bef ops i j ∨ (x.apart ops y = true ∧ classOk l i j (clsOf x.op) (clsOf y.op) = true)

theorem stat_of {ops : Array Oper} {l : List (Nat × Nat)} (h : statOk ops l = true) : Stat ops l := by
  unfold statOk at h
  split at h
  · rename_i he
    refine ⟨fun j o ho e h1 h2 => ?_, fun i j x y hij hx hy => ?_⟩
    · have := edgesOk_spec he j o (by simpa using ho) e h1 h2
      omega
    · have hj : j < ops.size := (Array.getElem?_eq_some_iff.1 hy).1
      have h3 := allBelow_spec (allBelow_spec h j hj) i hij
      unfold pairOk at h3
      split at h3
      · rename_i hc
        left
        unfold Bef
        simpa using hc
      · right
        rw [hx, hy] at h3
        simpa using h3
  · cases h

/-! ### Slots -/
structure SlotsAt (X : Text) (ops : Array Oper) (L : Nat → Prop) (t0 ts : Slots) : Prop where
  at_ : ∀ d, (∃ i o, L i ∧ ops[i]? = some o ∧ o.dst = some d ∧ ts.get d = some (X.vS i) ∧ ∀ i' o', L i' → ops[i']? = some o' → o'.dst = some d → i' ≤ i) ∨
    ((∀ i o, L i → ops[i]? = some o → o.dst ≠ some d) ∧ ts.get d = t0.get d)

theorem SlotsAt.put {X : Text} {ops : Array Oper} {L : Nat → Prop} {t0 ts : Slots} (h : SlotsAt X ops L t0 ts) {j : Nat} {o : Oper} (ho : ops[j]? = some o) (hlast : ∀ i o' d, L i → ops[i]? = some o' → o'.dst = some d → o.dst = some d → i ≤ j) :
    SlotsAt X ops (fun i => L i ∨ i = j) t0 (put ts o.dst (X.vS j)) := by
  refine ⟨fun d => ?_⟩
  by_cases hd : o.dst = some d
  · left
    refine ⟨j, o, .inr rfl, ho, hd, ?_, fun i' o' hi ho' hd' => ?_⟩
    · rw [hd]; exact PM.get_set_same _ _ _
    · rcases hi with hi | hi
      · exact hlast i' o' d hi ho' hd' hd
      · omega
  · have hget : (Det.put ts o.dst (X.vS j)).get d = ts.get d := by
      cases hdst : o.dst with
      | none => rfl
      | some d' =>
        simp only [Det.put]
        rw [PM.get_set_ne]
        intro e
        subst e
        exact hd hdst
    rcases h.at_ d with ⟨i, o', h1, h2, h3, h4, h5⟩ | ⟨h1, h2⟩
    · left
      refine ⟨i, o', .inl h1, h2, h3, by rw [hget]; exact h4, fun i' o'' hi ho'' hd'' => ?_⟩
      rcases hi with hi | hi
      · exact h5 i' o'' hi ho'' hd''
      · subst hi
        rw [ho] at ho''; injection ho'' with ho''; subst ho''
        exact absurd hd'' hd
    · right
      refine ⟨fun i o' hi ho' => ?_, by rw [hget]; exact h2⟩
      rcases hi with hi | hi
      · exact h1 i o' hi ho'
      · subst hi
        rw [ho] at ho'; injection ho' with ho'; subst ho'
        exact hd

theorem SlotsAt.text {X : Text} {E : Env} {ops : Array Oper} {l : List (Nat × Nat)} (hs : ∀ i o, ops[i]? = some o → X.stepAt E ops l i o) : ∀ j, j ≤ ops.size → SlotsAt X ops (fun i => i < j) (X.tS 0) (X.tS j)
  | 0, _ => ⟨fun d => .inr ⟨fun i o hi => by omega, rfl⟩⟩
  | j + 1, hj => by
    have hlt : j < ops.size := by omega
    have ho : ops[j]? = some ops[j] := Array.getElem?_eq_getElem hlt
    have h := (SlotsAt.text hs j (by omega)).put ho (fun i o' d hi _ _ _ => by omega)
    rw [(hs j _ ho).1]
    refine ⟨fun d => ?_⟩
    rcases h.at_ d with ⟨i, o', h1, h2, h3, h4, h5⟩ | ⟨h1, h2⟩
    · exact .inl ⟨i, o', by omega, h2, h3, h4, fun i' o'' hi => h5 i' o'' (by omega)⟩
    · exact .inr ⟨fun i o' hi => h1 i o' (by omega), h2⟩

theorem SlotsAt.agree {X : Text} {ops : Array Oper} {L L' : Nat → Prop} {t0 ts ts' : Slots} (h : SlotsAt X ops L t0 ts) (h' : SlotsAt X ops L' t0 ts') {d : Nat} (hd : ∀ i o, ops[i]? = some o → o.dst = some d → (L i ↔ L' i)) : ts.get d = ts'.get d := by
  rcases h.at_ d with ⟨i, o, h1, h2, h3, h4, h5⟩ | ⟨h1, h2⟩
  · rcases h'.at_ d with ⟨i', o', k1, k2, k3, k4, k5⟩ | ⟨k1, k2⟩
    · have e1 := k5 i o ((hd i o h2 h3).1 h1) h2 h3
      have e2 := h5 i' o' ((hd i' o' k2 k3).2 k1) k2 k3
      have : i = i' := by omega
      subst this
      rw [h4, k4]
    · exact absurd h3 (k1 i o ((hd i o h2 h3).1 h1) h2)
  · rcases h'.at_ d with ⟨i', o', k1, k2, k3, k4, k5⟩ | ⟨k1, k2⟩
    · exact absurd k3 (h1 i' o' ((hd i' o' k2 k3).2 k1) k2)
    · rw [h2, k2]
end Go.Det
