/-
  A region that draws, done in the text's order: what is known at each of its operations.
-/
import Derived.Test.YthbnlmmidanaiaaGreatDetClass
set_option linter.unusedVariables false
set_option linter.unusedSimpArgs false
set_option linter.unusedSectionVars false
namespace Go.Det
variable [Beside]

structure Text where
  tS : Nat → Slots
  mS : Nat → DH
  bS : Nat → Nat
  kS : Nat → Kd
  vS : Nat → DV

def Text.stepAt (X : Text) (E : Env) (ops : Array Oper) (l : List (Nat × Nat)) (i : Nat) (o : Oper) : Prop :=
  X.tS (i + 1) = put (X.tS i) o.dst (X.vS i) ∧ X.bS (i + 1) = (match isNew (clsOf o.op) with | true => X.bS i + 1 | false => X.bS i) ∧
  ((wantedD ops o (X.tS i) = some false ∧ X.kS i = .idle ∧ X.vS i = undefD ∧ X.mS (i + 1) = X.mS i) ∨
   (wantedD ops o (X.tS i) = some true ∧ Did E l o (X.tS i) (X.mS i) (X.bS i) (X.kS i) (X.vS i) (X.mS (i + 1))))

theorem checkPairs_spec {tr : List Kd} {k : Kd} {j : Nat} : ∀ {l : List (Nat × Nat)}, checkPairs tr k j l = true → ∀ p, (p, j) ∈ l → compat (getKd tr (j - 1 - p)) k = true
  | [], _, p, hp => by simp at hp
  | q :: l, h, p, hp => by
    simp only [checkPairs] at h
    split at h
    · split at h
      · rename_i hc
        rcases List.mem_cons.1 hp with e | hp
        · subst e; exact hc
        · exact checkPairs_spec h p hp
      · cases h
    · rename_i hb
      rcases List.mem_cons.1 hp with e | hp
      · subst e
        simp at hb
      · exact checkPairs_spec h p hp

theorem text_of {E : Env} {ops : Array Oper} {l : List (Nat × Nat)} {t' : Slots} {m' : DH} {j : Nat} {rest : List Oper} {t : Slots} {m : DH} {b : Nat} {tr : List Kd} (h : TRun E ops l t' m' j rest t m b tr) :
    rest = ops.toList.drop j → j ≤ ops.size → ∃ X : Text, X.tS j = t ∧ X.mS j = m ∧ X.bS j = b ∧ X.tS ops.size = t' ∧ X.mS ops.size = m' ∧ (∀ i o, j ≤ i → ops[i]? = some o → X.stepAt E ops l i o) ∧
      (∀ p, p < j → X.kS p = getKd tr (j - 1 - p)) ∧ (∀ i k, i < k → j ≤ k → k < ops.size → (i, k) ∈ l → compat (X.kS i) (X.kS k) = true) := by
  induction h with
  | @nil j b tr =>
    intro hr hj
    have hsz : ops.size ≤ j := by
      have := congrArg List.length hr
      simp at this
      omega
    have : j = ops.size := by omega
    subst this
    exact ⟨⟨fun _ => t', fun _ => m', fun _ => b, fun p => getKd tr (ops.size - 1 - p), fun _ => undefD⟩, rfl, rfl, rfl, rfl, rfl, (fun i o hi ho => by
      rw [Array.getElem?_eq_none (by omega)] at ho; cases ho), fun _ _ => rfl, fun i k h1 h2 h3 => by omega⟩
  | @skip j o rest t m b tr hw hc h ih =>
    intro hr hj
    have hjo : ops[j]? = some o := by
      have := congrArg (·[0]?) hr
      simp at this
      exact this.symm
    have hlt : j < ops.size := (Array.getElem?_eq_some_iff.1 hjo).1
    obtain ⟨X, h1, h2, h3, h4, h5, h6, h7, h8⟩ := ih (by
      have := congrArg List.tail hr
      simpa [List.tail_drop] using this) (by omega)
    refine ⟨⟨fun i => if i = j then t else X.tS i, fun i => if i = j then m else X.mS i, fun i => if i = j then b else X.bS i, X.kS, fun i => if i = j then undefD else X.vS i⟩, by simp, by simp, by simp, ?_, ?_, fun i o' hi ho' => ?_, fun p hp => ?_, fun i k q1 q2 q3 q4 => ?_⟩
    · simp only; rw [if_neg (by omega)]; exact h4
    · simp only; rw [if_neg (by omega)]; exact h5
    · by_cases e : i = j
      · subst e
        rw [hjo] at ho'; injection ho' with ho'; subst ho'
        unfold Text.stepAt
        simp only [if_true]
        rw [if_neg (by omega), if_neg (by omega), if_neg (by omega)]
        have hk := h7 i (by omega)
        rw [show i + 1 - 1 - i = 0 by omega] at hk
        exact ⟨h1, h3, .inl ⟨hw, hk, trivial, h2⟩⟩
      · have := h6 i o' (by omega) ho'
        unfold Text.stepAt at this ⊢
        simp only
        rw [if_neg (by omega), if_neg (by omega), if_neg (by omega), if_neg (by omega), if_neg (by omega), if_neg (by omega), if_neg (by omega)]
        exact this
    · have := h7 p (by omega)
      rw [this, show j + 1 - 1 - p = (j - 1 - p) + 1 by omega]
      rfl
    · by_cases e : k = j
      · subst e
        have hk := h7 k (by omega)
        rw [show k + 1 - 1 - k = 0 by omega] at hk
        have hi := h7 i (by omega)
        rw [show k + 1 - 1 - i = (k - 1 - i) + 1 by omega] at hi
        have := checkPairs_spec hc i q4
        simp only
        rw [hk, hi]
        exact this
      · exact h8 i k q1 (by omega) q3 q4
  | @step j o rest t m m1 b tr k v hw hd hc h ih =>
    intro hr hj
    have hjo : ops[j]? = some o := by
      have := congrArg (·[0]?) hr
      simp at this
      exact this.symm
    have hlt : j < ops.size := (Array.getElem?_eq_some_iff.1 hjo).1
    obtain ⟨X, h1, h2, h3, h4, h5, h6, h7, h8⟩ := ih (by
      have := congrArg List.tail hr
      simpa [List.tail_drop] using this) (by omega)
    refine ⟨⟨fun i => if i = j then t else X.tS i, fun i => if i = j then m else X.mS i, fun i => if i = j then b else X.bS i, X.kS, fun i => if i = j then v else X.vS i⟩, by simp, by simp, by simp, ?_, ?_, fun i o' hi ho' => ?_, fun p hp => ?_, fun i k' q1 q2 q3 q4 => ?_⟩
    · simp only; rw [if_neg (by omega)]; exact h4
    · simp only; rw [if_neg (by omega)]; exact h5
    · by_cases e : i = j
      · subst e
        rw [hjo] at ho'; injection ho' with ho'; subst ho'
        unfold Text.stepAt
        simp only [if_true]
        rw [if_neg (by omega), if_neg (by omega), if_neg (by omega)]
        have hk := h7 i (by omega)
        rw [show i + 1 - 1 - i = 0 by omega] at hk
        have hk : X.kS i = k := hk
        exact ⟨h1, h3, .inr ⟨hw, by rw [hk, h2]; exact hd⟩⟩
      · have := h6 i o' (by omega) ho'
        unfold Text.stepAt at this ⊢
        simp only
        rw [if_neg (by omega), if_neg (by omega), if_neg (by omega), if_neg (by omega), if_neg (by omega), if_neg (by omega), if_neg (by omega)]
        exact this
    · have := h7 p (by omega)
      rw [this, show j + 1 - 1 - p = (j - 1 - p) + 1 by omega]
      rfl
    · by_cases e : k' = j
      · subst e
        have hk := h7 k' (by omega)
        rw [show k' + 1 - 1 - k' = 0 by omega] at hk
        have hi := h7 i (by omega)
        rw [show k' + 1 - 1 - i = (k' - 1 - i) + 1 by omega] at hi
        have := checkPairs_spec hc i q4
        simp only
        rw [hk, hi]
        exact this
      · exact h8 i k' q1 (by omega) q3 q4

/-! ### What memory becomes -/
theorem opD_new {P : Program} {op : Op} (hc : clsOf op = .new) {t : Slots} {m m' : DH} {v : DV} (h : opD P op t m = some (v, m')) : ∃ d, m' = m.add d := by
  cases op <;> simp only [clsOf] at hc <;> try (cases hc; done)
  all_goals simp only [opD] at h
  case alloc e =>
    unfold allocD newPtr at h
    split at h
    · injection h with h; injection h with h1 h2; subst h2; exact ⟨_, rfl⟩
    · cases h
  case box e x =>
    unfold boxD newPtr at h
    split at h
    · injection h with h; injection h with h1 h2; subst h2; exact ⟨_, rfl⟩
    · cases h
  case buildSlice T n ps =>
    unfold buildSliceD at h
    repeat' split at h
    all_goals first | (cases h; done) | (injection h with h; injection h with h1 h2; subst h2; exact ⟨_, rfl⟩)
  case makeSlice T l c =>
    unfold makeSliceD at h
    repeat' split at h
    all_goals first | (cases h; done) | (injection h with h; injection h with h1 h2; subst h2; exact ⟨_, rfl⟩)
  case makeMap T r =>
    cases r with
    | none => injection h with h; injection h with h1 h2; subst h2; exact ⟨_, rfl⟩
    | some r => cases hc
  case call c =>
    cases hcc : c.callee with
    | value f => rw [hcc] at hc; cases hc
    | invoke f n => rw [hcc] at hc; cases hc
    | builtin b => rw [hcc] at hc; cases b <;> cases hc

/-- One operation's step: memory is the same; a row is made; or a link of the chain. -/
inductive StepM (X : Text) (l : List (Nat × Nat)) (i : Nat) (o : Oper) : Prop where
  | idle (hk : X.kS i = .idle) (hm : X.mS (i + 1) = X.mS i)
  | read (rd : List Nat) (hk : X.kS i = .read rd) (hc : clsOf o.op = .read) (hm : X.mS (i + 1) = X.mS i)
  | new (hk : X.kS i = .new (X.bS i)) (hc : clsOf o.op = .new) (d : DO) (hd : (X.mS (i + 1)).h.get (X.bS i) = some d) (hm : ∀ b, b ≠ X.bS i → (X.mS (i + 1)).h.get b = (X.mS i).h.get b) (hn : (X.mS (i + 1)).n = (X.mS i).n)
  | chain (wr : List Nat) (hk : X.kS i = .chain wr (X.mS i).n) (hc : clsOf o.op = .chain) (hle : (X.mS i).n ≤ (X.mS (i + 1)).n) (gone : ∀ b, b < (X.mS i).n → (X.mS i).h.get b = none → (X.mS (i + 1)).h.get b = none)
      (fresh : (∀ b, (X.mS i).n ≤ b → (X.mS i).h.get b = none) → ∀ b, (X.mS (i + 1)).n ≤ b → (X.mS (i + 1)).h.get b = none) (same : l ≠ [] → ∀ b, b < (X.mS i).n → b ∉ wr → (X.mS (i + 1)).h.get b = (X.mS i).h.get b)

theorem stepM_of {X : Text} {E : Env} {ops : Array Oper} {l : List (Nat × Nat)} {i : Nat} {o : Oper} (h : X.stepAt E ops l i o) : StepM X l i o := by
  obtain ⟨_, _, h | ⟨hw, hd⟩⟩ := h
  · exact .idle h.2.1 h.2.2.2
  · generalize hk : X.kS i = k at hd
    generalize hv : X.vS i = v at hd
    generalize hm : X.mS (i + 1) = m1 at hd
    cases hd with
    | idle hc ho => exact .idle hk hm
    | read hc ho => exact .read _ hk hc hm
    | @new hc v m2 ho =>
      obtain ⟨d, hd⟩ := opD_new hc ho
      subst hd
      refine .new hk hc d ?_ (fun b hb => ?_) ?_
      · rw [hm]; exact PM.get_set_same _ _ _
      · rw [hm]; exact PM.get_set_ne _ _ (Ne.symm hb)
      · rw [hm]
    | @call hc c hu g args ht fn body hf hb v m2 hg hkk =>
      refine .chain _ hk hc ?_ (fun b hb hn => ?_) (fun hfr b hb => ?_) (fun hl b hb hw => ?_)
      · rw [hm]; exact hkk.le
      · rw [hm]; exact hkk.gone b hb hn
      · rw [hm] at hb ⊢; exact hkk.fresh hfr b hb
      · rw [hm]
        exact hkk.same b hb (fun e => hw (mem_oldOf.2 ⟨e, hb⟩))
    | @chain hc hu v m2 ho =>
      have he := opD_eff ho
      refine .chain _ hk hc ?_ (fun b hb hn => ?_) (fun hfr b hb => ?_) (fun hl b hb hw => ?_)
      · rw [hm]; exact he.kept.le
      · rw [hm]; exact he.kept.gone b hb hn
      · rw [hm] at hb ⊢; exact he.kept.fresh hfr b hb
      · rw [hm]; exact he.frame hb hw

/-- What holds at each place. -/
structure Facts (X : Text) (n : Nat) (m : DH) : Prop where
  nn : ∀ i, i ≤ n → (X.mS 0).n ≤ (X.mS i).n
  mono : ∀ i j, i ≤ j → j ≤ n → (X.mS i).n ≤ (X.mS j).n
  low : ∀ i, i ≤ n → m.n ≤ X.bS i
  high : ∀ i, i < n → (∃ b, X.kS i = .new b) → X.bS i < (X.mS 0).n
  bmono : ∀ i j, i < j → j ≤ n → (∃ b, X.kS i = .new b) → X.bS i < X.bS j
  fresh : ∀ i, i ≤ n → ∀ b, (X.mS i).n ≤ b → (X.mS i).h.get b = none
  early : ∀ i j, j ≤ i → i < n → (∃ b, X.kS i = .new b) → (X.mS j).h.get (X.bS i) = none
  gone : ∀ i, i ≤ n → ∀ b, b < m.n → m.h.get b = none → (X.mS i).h.get b = none

theorem facts_of {X : Text} {E : Env} {ops : Array Oper} {l : List (Nat × Nat)} {m : DH} (hm0 : X.mS 0 = { h := m.h, n := m.n + countNew ops.toList, wrs := m.wrs }) (hb0 : X.bS 0 = m.n) (hf : ∀ b, m.n ≤ b → m.h.get b = none)
    (hs : ∀ i o, ops[i]? = some o → X.stepAt E ops l i o) : Facts X ops.size m := by
  have hn0 : (X.mS 0).n = m.n + countNew ops.toList := by rw [hm0]
  have key : ∀ i, i ≤ ops.size → (X.mS 0).n ≤ (X.mS i).n ∧ m.n ≤ X.bS i ∧ X.bS i + countNew (ops.toList.drop i) = (X.mS 0).n ∧ (∀ b, (X.mS i).n ≤ b → (X.mS i).h.get b = none) ∧ (∀ b, X.bS i ≤ b → b < (X.mS 0).n → (X.mS i).h.get b = none) ∧
      (∀ b, b < m.n → m.h.get b = none → (X.mS i).h.get b = none) := by
    intro i
    induction i with
    | zero =>
      intro _
      refine ⟨Nat.le_refl _, by omega, by rw [hb0, hn0, List.drop_zero], fun b hb => ?_, fun b hb _ => ?_, fun b _ hn => ?_⟩
      · rw [hm0]; exact hf b (by rw [hn0] at hb; omega)
      · rw [hm0]; exact hf b (by omega)
      · rw [hm0]; exact hn
    | succ i ih =>
      intro hi
      obtain ⟨h1, h2, h3, h4, h5, h6⟩ := ih (by omega)
      have hlt : i < ops.size := by omega
      have ho : ops[i]? = some ops[i] := Array.getElem?_eq_getElem hlt
      have hst := hs i _ ho
      have hb := hst.2.1
      have hdrop : ops.toList.drop i = ops[i] :: ops.toList.drop (i + 1) := by
        rw [List.drop_eq_getElem_cons (by simpa using hlt)]; simp
      rw [hdrop] at h3
      have hcount : X.bS (i + 1) + countNew (ops.toList.drop (i + 1)) = (X.mS 0).n ∧ X.bS i ≤ X.bS (i + 1) := by
        simp only [countNew] at h3
        have hb1 : isNew (clsOf ops[i].op) = true → X.bS (i + 1) = X.bS i + 1 := fun h => by rw [hb, h]
        have hb2 : isNew (clsOf ops[i].op) = false → X.bS (i + 1) = X.bS i := fun h => by rw [hb, h]
        clear hb
        cases hcl : clsOf ops[i].op <;> rw [hcl] at hb1 hb2 h3 <;> simp only at h3
        case new => have := hb1 rfl; omega
        all_goals (have := hb2 rfl; omega)
      cases stepM_of hst with
      | idle hk hm => rw [hm]; exact ⟨h1, by omega, hcount.1, h4, fun b hb' hb2 => h5 b (by omega) hb2, h6⟩
      | read rd hk hc hm => rw [hm]; exact ⟨h1, by omega, hcount.1, h4, fun b hb' hb2 => h5 b (by omega) hb2, h6⟩
      | new hk hc d hd hm hn =>
        have hbs : X.bS (i + 1) = X.bS i + 1 := by rw [hb, hc]; rfl
        have hbl : X.bS i < (X.mS 0).n := by omega
        refine ⟨by rw [hn]; exact h1, by omega, hcount.1, fun b hb' => ?_, fun b hb' hb2 => ?_, fun b hb' hn' => ?_⟩
        · rw [hn] at hb'
          rw [hm b (by omega)]; exact h4 b hb'
        · rw [hm b (by omega)]; exact h5 b (by omega) hb2
        · rw [hm b (by omega)]; exact h6 b hb' hn'
      | chain wr hk hc hle gone fresh same =>
        exact ⟨by omega, by omega, hcount.1, fresh h4, fun b hb' hb2 => gone b (by omega) (h5 b (by omega) hb2), fun b hb' hn' => gone b (by omega) (h6 b hb' hn')⟩
  have bs : ∀ i, i < ops.size → (∃ b, X.kS i = .new b) → X.bS (i + 1) = X.bS i + 1 := by
    intro i hlt hk
    have hst := hs i _ (Array.getElem?_eq_getElem hlt)
    have hb := hst.2.1
    cases stepM_of hst with
    | idle hk' hm => obtain ⟨b, hk⟩ := hk; rw [hk] at hk'; cases hk'
    | read rd hk' hc hm => obtain ⟨b, hk⟩ := hk; rw [hk] at hk'; cases hk'
    | new hk hc d hd hm hn => rw [hb, hc]; rfl
    | chain wr hk' hc hle gone fresh same => obtain ⟨b, hk⟩ := hk; rw [hk] at hk'; cases hk'
  have bmono : ∀ i j, i ≤ j → j ≤ ops.size → X.bS i ≤ X.bS j := by
    intro i j hij
    induction hij with
    | refl => intro _; exact Nat.le_refl _
    | @step j hij ih =>
      intro hj
      have hij : i ≤ j := hij
      have h1 := ih (by omega)
      have hlt : j < ops.size := by omega
      have hb := (hs j _ (Array.getElem?_eq_getElem hlt)).2.1
      have hb1 : isNew (clsOf ops[j].op) = true → X.bS (j + 1) = X.bS j + 1 := fun h => by rw [hb, h]
      have hb2 : isNew (clsOf ops[j].op) = false → X.bS (j + 1) = X.bS j := fun h => by rw [hb, h]
      clear hb
      have : X.bS j ≤ X.bS (j + 1) := by
        cases hcl : isNew (clsOf ops[j].op) with
        | true => have := hb1 hcl; omega
        | false => have := hb2 hcl; omega
      exact Nat.le_trans h1 this
  have mono : ∀ i j, i ≤ j → j ≤ ops.size → (X.mS i).n ≤ (X.mS j).n := by
    intro i j hij
    induction hij with
    | refl => intro _; exact Nat.le_refl _
    | @step j hij ih =>
      intro hj
      have h1 := ih (by omega)
      have hlt : j < ops.size := by omega
      refine Nat.le_trans h1 ?_
      cases stepM_of (hs j _ (Array.getElem?_eq_getElem hlt)) with
      | idle hk' hm => show _ ≤ (X.mS (j + 1)).n; rw [hm]; exact Nat.le_refl _
      | read rd hk' hc hm => show _ ≤ (X.mS (j + 1)).n; rw [hm]; exact Nat.le_refl _
      | new hk hc d hd hm hn => show _ ≤ (X.mS (j + 1)).n; rw [hn]; exact Nat.le_refl _
      | chain wr hk' hc hle gone fresh same => exact hle
  refine ⟨fun i hi => (key i hi).1, mono, fun i hi => (key i hi).2.1, fun i hi hk => ?_, fun i j hij hj hk => ?_, fun i hi => (key i hi).2.2.2.1, fun i j hji hi hk => ?_, fun i hi => (key i hi).2.2.2.2.2⟩
  · have h1 := (key (i + 1) (by omega)).2.2.1
    have h2 := bs i hi hk
    omega
  · have h1 := bs i (by omega) hk
    have h2 := bmono (i + 1) j (by omega) hj
    omega
  · have h1 := (key (i + 1) (by omega)).2.2.1
    have h2 := bs i hi hk
    exact (key j (by omega)).2.2.2.2.1 _ (bmono j i hji (by omega)) (by omega)
end Go.Det
