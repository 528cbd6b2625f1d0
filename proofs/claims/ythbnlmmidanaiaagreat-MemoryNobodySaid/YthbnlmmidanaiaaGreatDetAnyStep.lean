/-
  A region that draws, in any order: one operation.
-/
import Derived.Test.YthbnlmmidanaiaaGreatDetAny
set_option linter.unusedVariables false
set_option linter.unusedSimpArgs false
set_option linter.unusedSectionVars false
namespace Go.Det
variable [Beside]

theorem names_spec {ρ : Nm} {N : Nat → Prop} {w : World} {d : DV} {v : Value} (h : VR ρ N w d v) {b : Nat} (hb : b ∈ names d) : ∃ g, ρ b = some g := by
  cases d <;> simp [names] at hb <;> subst hb <;> simp only [VR] at h
  case sl => obtain ⟨g, _, _, _, _, _, h, _⟩ := h; exact ⟨g, h⟩
  case ptr => obtain ⟨g, h, _⟩ := h; exact ⟨g, h⟩
  case mp => obtain ⟨g, h, _⟩ := h; exact ⟨g, h⟩

theorem disj_spec {xs ys : List Nat} (h : disj xs ys = true) {b : Nat} (hb : b ∈ xs) : b ∉ ys := by
  have := List.all_eq_true.1 h b hb
  simpa using this

/-- What makes a row, in the model. -/
theorem new_op {P : Program} {o : Oper} {a : Act} {ρ : Nm} {N : Nat → Prop} {m : DH} {w : World} {t : Slots} (hc : clsOf o.op = .new) (S : SR ρ N w t a.tmps) {v : DV} {m' : DH} (h : opD P o.op t m = some (v, m')) :
    ∃ d, m' = m.add d ∧ NewS P o a ρ N w m.n v d := by
  cases ho : o.op <;> rw [ho] at hc h <;> simp only [clsOf] at hc <;> try (cases hc; done)
  case alloc e => exact new_alloc ho h
  case box e x => exact new_box S ho h
  case buildSlice T n ps => exact new_buildSlice S ho h
  case makeSlice T l c => exact new_makeSlice S ho h
  case makeMap T r =>
    cases r with
    | none => exact new_makeMap ho h
    | some r => cases hc
  case call c =>
    cases hcc : c.callee with
    | value f => rw [hcc] at hc; cases hc
    | invoke f n => rw [hcc] at hc; cases hc
    | builtin b => rw [hcc] at hc; cases b <;> cases hc

section
variable {E : Env} {X : Text} {ops : Array Oper} {l : List (Nat × Nat)}

/-- A row that stays. -/
theorem stay (hs : ∀ i o, ops[i]? = some o → X.stepAt E ops l i o) {b i0 : Nat} : ∀ i1, i0 ≤ i1 → i1 ≤ ops.size → (∀ i, i0 ≤ i → i < i1 → isN X i → X.bS i ≠ b) → (∀ i wr n, i0 ≤ i → i < i1 → X.kS i = .chain wr n → l ≠ [] ∧ b < (X.mS i).n ∧ b ∉ wr) →
    (X.mS i1).h.get b = (X.mS i0).h.get b := by
  intro i1 h
  induction h with
  | refl => intros; rfl
  | @step i1 h ih =>
    intro hsz hN hC
    have h : i0 ≤ i1 := h
    have hsz : i1 + 1 ≤ ops.size := hsz
    rw [← ih (by omega) (fun i h1 h2 => hN i h1 (by omega)) (fun i wr n h1 h2 => hC i wr n h1 (by omega))]
    show (X.mS (i1 + 1)).h.get b = _
    cases stepM_of (hs i1 _ (Array.getElem?_eq_getElem (by omega))) with
    | idle hk hm => rw [hm]
    | read rd hk hc hm => rw [hm]
    | new hk hc d hd hm hn => exact hm b (Ne.symm (hN i1 h (by omega) ⟨_, hk⟩))
    | chain wr hk hc hle gone fresh same =>
      obtain ⟨h1, h2, h3⟩ := hC i1 wr _ h (by omega) hk
      exact same h1 b h2 h3

open Classical in
/-- Memory with the rows that were made ahead of their time. -/
noncomputable def addEarly (X : Text) (p : Nat → Prop) : Nat → PM DO → PM DO
  | 0, h => h
  | k + 1, h => if p k then match (X.mS (k + 1)).h.get (X.bS k) with
      | some d => (addEarly X p k h).set (X.bS k) d
      | none => addEarly X p k h
    else addEarly X p k h

theorem addEarly_get (X : Text) (p : Nat → Prop) (h : PM DO) (b : Nat) : ∀ n, (∀ i, i < n → p i → ∃ d, (X.mS (i + 1)).h.get (X.bS i) = some d) →
    (∃ i, i < n ∧ p i ∧ X.bS i = b ∧ (addEarly X p n h).get b = (X.mS (i + 1)).h.get b) ∨ ((∀ i, i < n → p i → X.bS i ≠ b) ∧ (addEarly X p n h).get b = h.get b)
  | 0, _ => .inr ⟨fun i hi => by omega, rfl⟩
  | n + 1, hd => by
    have ih := addEarly_get X p h b n fun i hi => hd i (by omega)
    by_cases hp : p n
    · obtain ⟨d, hd⟩ := hd n (by omega) hp
      have he : addEarly X p (n + 1) h = (addEarly X p n h).set (X.bS n) d := by
        simp only [addEarly, hp, if_true, hd]
      rw [he]
      by_cases hb : X.bS n = b
      · subst hb
        exact .inl ⟨n, by omega, hp, rfl, by rw [PM.get_set_same, hd]⟩
      · rw [PM.get_set_ne _ _ hb]
        rcases ih with ⟨i, h1, h2⟩ | ⟨h1, h2⟩
        · exact .inl ⟨i, by omega, h2⟩
        · refine .inr ⟨fun i hi hpi => ?_, h2⟩
          by_cases e : i = n
          · subst e; exact hb
          · exact h1 i (by omega) hpi
    · have he : addEarly X p (n + 1) h = addEarly X p n h := by
        simp only [addEarly, hp, if_false]
      rw [he]
      rcases ih with ⟨i, h1, h2⟩ | ⟨h1, h2⟩
      · exact .inl ⟨i, by omega, h2⟩
      · refine .inr ⟨fun i hi hpi => ?_, h2⟩
        by_cases e : i = n
        · subst e; exact absurd hpi hp
        · exact h1 i (by omega) hpi

variable {L : Nat → Prop} {j : Nat} {o : Oper} {nn : Nat} {m : DH} {ρ0 : Nm} {N0 : Nat → Prop} {w0 : World} {a : Act} {w : World} {ρ : Nm} {N : Nat → Prop} {ts : Slots} {c : Nat}

/-- The rows that one who looks now finds. -/
theorem Inv.mem (I : Inv X ops nn m ρ0 N0 w0 L a w ρ N ts c) (F : Facts X ops.size m) :
    MemG ρ N w { h := addEarly X (fun i => c ≤ i ∧ L i ∧ isN X i) ops.size (X.mS c).h, n := (X.mS c).n, wrs := [] } ∧ ∀ b, Row ρ N w { h := addEarly X (fun i => c ≤ i ∧ L i ∧ isN X i) ops.size (X.mS c).h, n := (X.mS c).n, wrs := [] } b := by
  have hget := fun b => addEarly_get X (fun i => c ≤ i ∧ L i ∧ isN X i) (X.mS c).h b ops.size fun i hi hp => by
    obtain ⟨g, d, _, h2, _⟩ := I.early i hp.1 hi hp.2.1 hp.2.2
    exact ⟨d, h2⟩
  refine ⟨⟨I.G.dom, fun b hb => ?_, fun b b' g o1 o2 h1 h2 h3 h4 h5 h6 => ?_, I.G.apart, I.G.below⟩, fun b g o1 hg ho => ?_⟩
  · rcases hget b with ⟨i, h1, h2, h3, h4⟩ | ⟨_, h4⟩
    · have := F.high i h1 h2.2.2
      have := F.nn c I.cle
      have hb' : (X.mS c).n ≤ b := hb
      omega
    · show (addEarly X _ ops.size (X.mS c).h).get b = none
      rw [h4]; exact I.G.fresh b hb
  · rcases hget b with ⟨i, q1, q2, q3, q4⟩ | ⟨_, q4⟩
    · obtain ⟨g', d, r1, _, _, r2⟩ := I.early i q2.1 q1 q2.2.1 q2.2.2
      rw [q3, h1] at r1; injection r1 with r1; subst r1
      rw [← q3]; exact (r2 b' h2).symm
    · rcases hget b' with ⟨i, p1, p2, p3, p4⟩ | ⟨_, p4⟩
      · obtain ⟨g', d, r1, _, _, r2⟩ := I.early i p2.1 p1 p2.2.1 p2.2.2
        rw [p3, h2] at r1; injection r1 with r1; subst r1
        rw [← p3]; exact r2 b h1
      · rw [q4] at h3
        rw [p4] at h4
        exact I.G.inj b b' g o1 o2 h1 h2 h3 h4 h5 h6
  · rcases hget b with ⟨i, q1, q2, q3, q4⟩ | ⟨_, q4⟩
    · obtain ⟨g', d, r1, r2, r3, _⟩ := I.early i q2.1 q1 q2.2.1 q2.2.2
      rw [q3, hg] at r1; injection r1 with r1; subst r1
      have ho : (addEarly X _ ops.size (X.mS c).h).get b = some o1 := ho
      rw [q4, ← q3, r2] at ho
      injection ho with ho; subst ho
      exact r3
    · have ho : (addEarly X _ ops.size (X.mS c).h).get b = some o1 := ho
      rw [q4] at ho
      exact I.R b g o1 hg ho

/-- What the text's look saw is seen now. -/
theorem Inv.seen (I : Inv X ops nn m ρ0 N0 w0 L a w ρ N ts c) (F : Facts X ops.size m) (T : Stat ops l) (H : Next ops L j o) (hs : ∀ i o, ops[i]? = some o → X.stepAt E ops l i o)
    (hp : ∀ i k, i < k → k < ops.size → (i, k) ∈ l → compat (X.kS i) (X.kS k) = true) {rd : List Nat} (hk : X.kS j = .read rd) (hc : clsOf o.op = .read) {b : Nat} (hb : b ∈ rd) (hsome : (X.mS j).h.get b ≠ none) (hρ : ∃ g, ρ b = some g) :
    (addEarly X (fun i => c ≤ i ∧ L i ∧ isN X i) ops.size (X.mS c).h).get b = (X.mS j).h.get b := by
  have hj : j < ops.size := (Array.getElem?_eq_some_iff.1 H.op).1
  have hget := addEarly_get X (fun i => c ≤ i ∧ L i ∧ isN X i) (X.mS c).h b ops.size fun i hi hp => by
    obtain ⟨g, d, _, h2, _⟩ := I.early i hp.1 hi hp.2.1 hp.2.2
    exact ⟨d, h2⟩
  have clsC : ∀ i x wr n, ops[i]? = some x → X.kS i = .chain wr n → clsOf x.op = .chain ∧ n = (X.mS i).n := by
    intro i x wr n hx hki
    cases stepM_of (hs i x hx) with
    | idle hk' hm => rw [hki] at hk'; cases hk'
    | read rd hk' hc hm => rw [hki] at hk'; cases hk'
    | new hk' hc d hd hm hn => rw [hki] at hk'; cases hk'
    | chain wr' hk' hc hle gone fresh same => rw [hki] at hk'; injection hk' with e1 e2; exact ⟨hc, e2⟩
  have hnj : ¬ isC X j := fun ⟨wr, n, h⟩ => by rw [hk] at h; cases h
  have hfresh : ∀ i, i ≤ ops.size → (X.mS i).h.get b ≠ none → b < (X.mS i).n := by
    intro i hi hne
    rcases Nat.lt_or_ge b (X.mS i).n with h | h
    · exact h
    · exact absurd (F.fresh i hi b h) hne
  have hbn := hfresh j (by omega) hsome
  rcases Nat.lt_or_ge j c with hjc | hjc
  · -- the chain is ahead
    have hst : (X.mS c).h.get b = (X.mS j).h.get b := by
      refine stay hs c (by omega) I.cle (fun i h1 h2 hN e => ?_) (fun i wr n h1 h2 hki => ?_)
      · have := F.early i j h1 (by have := I.cle; omega) hN
        rw [e] at this
        exact hsome this
      · have hi : i < ops.size := by have := I.cle; omega
        have hx : ops[i]? = some ops[i] := Array.getElem?_eq_getElem hi
        have hne : i ≠ j := fun e => by subst e; exact hnj ⟨wr, n, hki⟩
        obtain ⟨hci, hn⟩ := clsC i _ wr n hx hki
        have hmono := F.mono j i h1 (by omega)
        rcases H.pair T hne hx with ⟨h3, _⟩ | ⟨_, h3⟩ | ⟨h3, _⟩ | ⟨h3, _, h4⟩
        · omega
        · exact absurd (I.cL i h2 ⟨wr, n, hki⟩) h3
        · omega
        · rw [hc, hci] at h4
          have hmem := inPairs_spec h4
          have hcp := hp j i h3 hi hmem
          rw [hk, hki] at hcp
          exact ⟨fun e => by rw [e] at hmem; simp at hmem, by omega, disj_spec hcp hb⟩
    rcases hget with ⟨i, h1, h2, h3, h4⟩ | ⟨_, h4⟩
    · have := F.early i c h2.1 h1 h2.2.2
      rw [h3, hst] at this
      exact absurd this hsome
    · rw [h4, hst]
  · have hjc : c < j := by
      rcases Nat.lt_or_ge c j with h | h
      · exact h
      · have : c = j := by omega
        subst this
        rcases I.cc with h | h
        · omega
        · exact absurd h hnj
    have hchain : ∀ i wr n, c ≤ i → i < j → X.kS i = .chain wr n → l ≠ [] ∧ b < (X.mS i).n ∧ b ∉ wr := by
      intro i wr n h1 h2 hki
      have hi : i < ops.size := by omega
      have hx : ops[i]? = some ops[i] := Array.getElem?_eq_getElem hi
      obtain ⟨hci, hn⟩ := clsC i _ wr n hx hki
      rcases H.pair T (by omega) hx with ⟨_, h3⟩ | ⟨h3, _⟩ | ⟨h3, _, h4⟩ | ⟨h3, _⟩
      · exact absurd h3 (I.cN i h1 hi ⟨wr, n, hki⟩)
      · omega
      · rw [hc, hci] at h4
        have hmem := inPairs_spec h4
        have hcp := hp i j h3 hj hmem
        rw [hk, hki] at hcp
        simp only [compat, Bool.and_eq_true] at hcp
        have h5 := List.all_eq_true.1 hcp.2 b hb
        rw [Nat.blt_eq] at h5
        exact ⟨fun e => by rw [e] at hmem; simp at hmem, by omega, disj_spec hcp.1 hb⟩
      · omega
    rcases hget with ⟨i, h1, h2, h3, h4⟩ | ⟨h3, h4⟩
    · -- it was made ahead of its time
      rw [h4]
      have hij : i < j := by
        rcases Nat.lt_or_ge i j with h | h
        · exact h
        · have := F.early i j h h1 h2.2.2
          rw [h3] at this
          exact absurd this hsome
      refine (stay hs j (by omega) (by omega) (fun i' q1 q2 hN e => ?_) (fun i' wr n q1 q2 hki => hchain i' wr n (by have := h2.1; omega) q2 hki)).symm
      have := F.bmono i i' (by omega) (by omega) h2.2.2
      omega
    · rw [h4]
      refine (stay hs j (by omega) (by omega) (fun i q1 q2 hN e => ?_) (fun i wr n q1 q2 hki => hchain i wr n q1 q2 hki)).symm
      have hi : i < ops.size := by omega
      by_cases hL : L i
      · exact h3 i hi ⟨q1, hL, hN⟩ e
      · have := I.late i hi hL hN
        rw [e] at this
        obtain ⟨g, hg⟩ := hρ
        rw [this] at hg; cases hg
end
end Go.Det
