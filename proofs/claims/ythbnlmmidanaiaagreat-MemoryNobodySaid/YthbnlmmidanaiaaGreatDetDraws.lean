/-
  A region that draws, in any order: all of it.
-/
import Derived.Test.YthbnlmmidanaiaaGreatDetAnyStep
set_option linter.unusedVariables false
set_option linter.unusedSimpArgs false
set_option linter.unusedSectionVars false
namespace Go.Det
variable [Beside]

section
variable {E : Env} {X : Text} {ops : Array Oper} {l : List (Nat × Nat)}
variable {L : Nat → Prop} {j : Nat} {o : Oper} {nn : Nat} {m : DH} {ρ0 : Nm} {N0 : Nat → Prop} {w0 : World} {a : Act} {w : World} {ρ : Nm} {N : Nat → Prop} {ts : Slots} {c : Nat}

theorem IsNew.calm {w w' : World} {ob : Obj} (h : IsNew w w' ob) : Calm w w' := ⟨by rw [h.heap]; simp, fun k hk => h.old hk, h.os, h.tape, h.output⟩

/-- A row is made. -/
theorem Inv.made (I : Inv X ops nn m ρ0 N0 w0 L a w ρ N ts c) (F : Facts X ops.size m) (T : Stat ops l) (H : Next ops L j o) (hs : ∀ i o, ops[i]? = some o → X.stepAt E ops l i o)
    (hp : ∀ i k, i < k → k < ops.size → (i, k) ∈ l → compat (X.kS i) (X.kS k) = true) (hd : ∀ i, o.dst = some i → i < nn) (hk : X.kS j = .new (X.bS j)) (hc : clsOf o.op = .new) {d : DO} (hget : (X.mS (j + 1)).h.get (X.bS j) = some d)
    {w' : World} {ob : Obj} (hn : IsNew w w' ob) {x : Value} (hO : ∀ ρ', Later ρ N w ρ' N w' → ρ' (X.bS j) = some w.heap.size → ObjR ρ' N w' w.heap.size d ∧ VR ρ' N w' (X.vS j) x) :
    Inv X ops nn m ρ0 N0 w0 (fun i => L i ∨ i = j) (a.put o.dst x) w' (nm ρ (X.bS j) w.heap.size) N (put ts o.dst (X.vS j)) c := by
  have hj : j < ops.size := (Array.getElem?_eq_some_iff.1 H.op).1
  have hN : isN X j := ⟨_, hk⟩
  have hnone := I.late j hj H.not hN
  have hext : ∀ b g, ρ b = some g → nm ρ (X.bS j) w.heap.size b = some g := by
    intro b g hb
    simp only [nm]
    rw [if_neg]
    · exact hb
    · intro e; subst e; rw [hnone] at hb; cases hb
  have C := hn.calm
  have La := C.later hext N
  obtain ⟨h1, h2⟩ := hO _ La (by simp [nm])
  have hhigh := F.high j hj hN
  have hnn := F.nn c I.cle
  have hsz : w'.heap.size = w.heap.size + 1 := by rw [hn.heap]; simp
  have hnC : ¬ isC X j := fun ⟨wr, n, h⟩ => by rw [hk] at h; cases h
  have hjc : j ≠ c := fun e => by
    subst e
    rcases I.cc with h | h
    · omega
    · exact hnC h
  have clsC : ∀ i x wr n, ops[i]? = some x → X.kS i = .chain wr n → clsOf x.op = .chain ∧ n = (X.mS i).n := by
    intro i x wr n hx hki
    cases stepM_of (hs i x hx) with
    | idle hk' hm => rw [hki] at hk'; cases hk'
    | read rd hk' hc hm => rw [hki] at hk'; cases hk'
    | new hk' hc d hd hm hn => rw [hki] at hk'; cases hk'
    | chain wr' hk' hc hle gone fresh same => rw [hki] at hk'; injection hk' with e1 e2; exact ⟨hc, e2⟩
  have hrow : ∀ d', (X.mS c).h.get (X.bS j) = some d' → d' = d := by
    intro d' hd'
    rcases Nat.lt_or_ge j c with h | h
    · have := stay hs (b := X.bS j) (i0 := j + 1) c (by omega) I.cle (fun i q1 q2 hNi e => by
        have := F.bmono j i (by omega) (by have := I.cle; omega) hN
        omega) (fun i wr n q1 q2 hki => by
        have hi : i < ops.size := by have := I.cle; omega
        have hx : ops[i]? = some ops[i] := Array.getElem?_eq_getElem hi
        obtain ⟨hci, hn⟩ := clsC i _ wr n hx hki
        rcases H.pair T (by omega) hx with ⟨h3, _⟩ | ⟨_, h3⟩ | ⟨h3, _⟩ | ⟨h3, _, h4⟩
        · omega
        · exact absurd (I.cL i q2 ⟨wr, n, hki⟩) h3
        · omega
        · rw [hc, hci] at h4
          have hmem := inPairs_spec h4
          have hcp := hp j i h3 hi hmem
          rw [hk, hki] at hcp
          have hnni := F.nn i (by omega)
          refine ⟨fun e => by rw [e] at hmem; simp at hmem, by omega, ?_⟩
          simpa [compat] using hcp)
      rw [hget, hd'] at this
      injection this
    · have := F.early j c h hj hN
      rw [hd'] at this; cases this
  refine ⟨by rw [put_size]; exact I.asz, by rw [put_defers]; exact I.adef, (I.sr.later La).put (fun i hi => by rw [I.asz]; exact hd i hi) h2, I.sl.put H.op (fun i o' d h1 h2 h3 h4 => H.last T h1 h2 h3 h4), I.cle, fun i hi hc => .inl (I.cL i hi hc), fun i hi hn hc => ?_, I.cc, ?_, fun b => ?_, fun i hi hin hL hNi => ?_, fun i hi hL hNi => ?_, ?_⟩
  · rintro (h | h)
    · exact I.cN i hi hn hc h
    · subst h; exact hnC hc
  · refine ⟨fun b g hb => ?_, I.G.fresh, fun b b' g o1 o2 q1 q2 q3 q4 q5 q6 => ?_, fun b g hb hNg => ?_, fun g hg => by have := I.G.below g hg; omega⟩
    · simp only [nm] at hb
      split at hb
      · rename_i e; subst e; injection hb with hb; subst hb; omega
      · have := I.G.dom b g hb; omega
    · simp only [nm] at q1 q2
      split at q1 <;> split at q2
      · omega
      · injection q1 with q1; have := (I.G.dom b' g q2).2; omega
      · injection q2 with q2; have := (I.G.dom b g q1).2; omega
      · exact I.G.inj b b' g o1 o2 q1 q2 q3 q4 q5 q6
    · simp only [nm] at hb
      split at hb
      · injection hb with hb; subst hb; have := I.G.below _ hNg; omega
      · exact I.G.apart b g hb hNg
  · intro g o1 hg ho
    simp only [nm] at hg
    split at hg
    · rename_i e; subst e
      injection hg with hg; subst hg
      have := hrow o1 ho
      subst this
      exact h1
    · exact ObjR.later La (C.same g (I.G.dom b g hg).2) (I.R b g o1 hg ho)
  · rcases hL with hL | hL
    · obtain ⟨g, d', q1, q2, q3, q4⟩ := I.early i hi hin hL hNi
      have hg := (I.G.dom _ g q1).2
      refine ⟨g, d', hext _ _ q1, q2, ObjR.later La (C.same g hg) q3, fun b hb => ?_⟩
      simp only [nm] at hb
      split at hb
      · injection hb with hb; omega
      · exact q4 b hb
    · subst hL
      refine ⟨w.heap.size, d, by simp [nm], hget, h1, fun b hb => ?_⟩
      simp only [nm] at hb
      split at hb
      · rename_i e; exact e
      · have := (I.G.dom b _ hb).2; omega
  · have hne : i ≠ j := fun e => hL (.inr e)
    have hb : X.bS i ≠ X.bS j := by
      rcases Nat.lt_or_ge i j with h | h
      · have := F.bmono i j h (by omega) hNi; omega
      · have := F.bmono j i (by omega) (by omega) hN; omega
    simp only [nm]
    rw [if_neg hb]
    exact I.late i hi (fun h => hL (.inl h)) hNi
  · have B := I.big
    refine ⟨B.later.trans B.size La, fun b g hb => ?_, B.gone, B.le, Nat.le_trans B.size C.size, fun k hk hf => ?_, C.os.trans B.os, C.tape.trans B.tape, C.output.trans B.output⟩
    · simp only [nm] at hb
      split at hb
      · rename_i e; subst e
        injection hb with hb; subst hb
        exact .inr ⟨F.low j (by omega), .inl B.size⟩
      · exact B.new b g hb
    · rw [C.same k (Nat.lt_of_lt_of_le hk B.size)]
      exact B.frame k hk hf

/-- The next link of the chain behind a place. -/
theorem next_chain (X : Text) (n : Nat) : ∀ k i, i + k = n → ∃ c', i ≤ c' ∧ c' ≤ n ∧ (c' = n ∨ isC X c') ∧ ∀ q, i ≤ q → q < c' → ¬ isC X q
  | 0, i, h => ⟨n, by omega, Nat.le_refl _, .inl rfl, fun q h1 h2 => by omega⟩
  | k + 1, i, h => by
    by_cases hc : isC X i
    · exact ⟨i, Nat.le_refl _, by omega, .inr hc, fun q h1 h2 => by omega⟩
    · obtain ⟨c', h1, h2, h3, h4⟩ := next_chain X n k (i + 1) (by omega)
      exact ⟨c', by omega, h2, h3, fun q q1 q2 => by
        by_cases e : q = i
        · subst e; exact hc
        · exact h4 q (by omega) q2⟩

/-- A link of the chain. -/
theorem Inv.link (I : Inv X ops nn m ρ0 N0 w0 L a w ρ N ts c) (F : Facts X ops.size m) (T : Stat ops l) (H : Next ops L j o) (hs : ∀ i o, ops[i]? = some o → X.stepAt E ops l i o) (hd : ∀ i, o.dst = some i → i < nn) (hjc : j = c) (hcj : isC X j)
    (hdom0 : ∀ b g, ρ0 b = some g → b < m.n ∧ g < w0.heap.size)
    {ρ' : Nm} {N' : Nat → Prop} {w' : World} (B : Big ρ N (X.mS j) w ρ' N' (X.mS (j + 1)) w') (M : Mem ρ' N' w' (X.mS (j + 1))) {x : Value} (hv : VR ρ' N' w' (X.vS j) x) :
    ∃ c', Inv X ops nn m ρ0 N0 w0 (fun i => L i ∨ i = j) (a.put o.dst x) w' ρ' N' (put ts o.dst (X.vS j)) c' := by
  subst hjc
  have hj : j < ops.size := (Array.getElem?_eq_some_iff.1 H.op).1
  obtain ⟨c', hc1, hc2, hc3, hc4⟩ := next_chain X ops.size (ops.size - (j + 1)) (j + 1) (by omega)
  have La := B.later
  have hnj : ¬ isN X j := fun ⟨b, h⟩ => by obtain ⟨wr, n, hcj⟩ := hcj; rw [h] at hcj; cases hcj
  -- rows made ahead of their time
  have hearly : ∀ i, j < i → i < ops.size → L i → isN X i → ∃ g d, ρ' (X.bS i) = some g ∧ (X.mS (i + 1)).h.get (X.bS i) = some d ∧ ObjR ρ' N' w' g d ∧ ∀ b, ρ' b = some g → b = X.bS i := by
    intro i h1 h2 h3 h4
    obtain ⟨g, d, q1, q2, q3, q4⟩ := I.early i (by omega) h2 h3 h4
    have hg := (I.G.dom _ g q1).2
    have hn := F.early i j (by omega) h2 h4
    refine ⟨g, d, La.ext _ _ q1, q2, ObjR.later La (B.frame g hg fun b hb => by rw [q4 b hb]; exact hn) q3, fun b hb => ?_⟩
    rcases B.new b g hb with h5 | ⟨_, h5 | ⟨b0, o1, h5, h6⟩⟩
    · exact q4 b h5
    · omega
    · rw [q4 b0 h5, hn] at h6; cases h6
  have hlate : ∀ i, i < ops.size → ¬ L i → isN X i → ρ' (X.bS i) = none := by
    intro i h1 h2 h3
    cases hb : ρ' (X.bS i) with
    | none => rfl
    | some g =>
      rcases B.new _ g hb with h5 | ⟨h5, _⟩
      · rw [I.late i h1 h2 h3] at h5; cases h5
      · have := F.high i h1 h3
        have := F.nn j (by omega)
        omega
  -- from the link to the next
  have hmid : ∀ b, (∃ i, j + 1 ≤ i ∧ i < c' ∧ isN X i ∧ X.bS i = b ∧ (X.mS c').h.get b = (X.mS (i + 1)).h.get b) ∨ ((∀ i, j + 1 ≤ i → i < c' → isN X i → X.bS i ≠ b) ∧ (X.mS c').h.get b = (X.mS (j + 1)).h.get b) := by
    intro b
    have hch : ∀ i0, j + 1 ≤ i0 → ∀ i wr n, i0 ≤ i → i < c' → X.kS i = .chain wr n → l ≠ [] ∧ b < (X.mS i).n ∧ b ∉ wr := fun i0 h0 i wr n q1 q2 hki => absurd ⟨wr, n, hki⟩ (hc4 i (by omega) q2)
    by_cases hex : ∃ i, j + 1 ≤ i ∧ i < c' ∧ isN X i ∧ X.bS i = b
    · obtain ⟨i, h1, h2, h3, h4⟩ := hex
      refine .inl ⟨i, h1, h2, h3, h4, stay hs c' (by omega) hc2 (fun i' q1 q2 hN e => ?_) (hch (i + 1) (by omega))⟩
      have := F.bmono i i' (by omega) (by omega) h3
      omega
    · have hno : ∀ i, j + 1 ≤ i → i < c' → isN X i → X.bS i ≠ b := fun i h1 h2 h3 h4 => hex ⟨i, h1, h2, h3, h4⟩
      exact .inr ⟨hno, stay hs c' (by omega) hc2 (fun i q1 q2 hN => hno i q1 q2 hN) (hch (j + 1) (Nat.le_refl _))⟩
  have hmono := F.mono (j + 1) c' (by omega) hc2
  have hncd : (X.mS c').n = (X.mS (j + 1)).n := by
    have : ∀ k, j + 1 ≤ k → k ≤ c' → (X.mS k).n = (X.mS (j + 1)).n := by
      intro k hk
      induction hk with
      | refl => intro _; rfl
      | @step k hk ih =>
        intro hkc
        have hk : j + 1 ≤ k := hk
        rw [← ih (by omega)]
        show (X.mS (k + 1)).n = _
        cases stepM_of (hs k _ (Array.getElem?_eq_getElem (by omega))) with
        | idle hk' hm => rw [hm]
        | read rd hk' hc hm => rw [hm]
        | new hk' hc d hd hm hn => exact hn
        | chain wr hk' hc hle gone fresh same => exact absurd ⟨wr, _, hk'⟩ (hc4 k hk (by omega))
    exact this c' (by omega) (Nat.le_refl _)
  refine ⟨c', by rw [put_size]; exact I.asz, by rw [put_defers]; exact I.adef, (I.sr.later La).put (fun i hi => by rw [I.asz]; exact hd i hi) hv, I.sl.put H.op (fun i o' d h1 h2 h3 h4 => H.last T h1 h2 h3 h4), hc2, fun i hi hc => ?_, fun i hi hn hc => ?_, hc3, ?_, fun b => ?_, fun i hi hin hL hNi => ?_, fun i hi hL hNi => hlate i hi (fun h => hL (.inl h)) hNi, ?_⟩
  · rcases Nat.lt_or_ge i j with h | h
    · exact .inl (I.cL i h hc)
    · by_cases e : i = j
      · exact .inr e
      · exact absurd hc (hc4 i (by omega) hi)
  · rintro (h | h)
    · exact I.cN i (by omega) hn hc h
    · omega
  · refine ⟨fun b g hb => by rw [hncd]; exact M.G.dom b g hb, F.fresh c' hc2, fun b b' g o1 o2 q1 q2 q3 q4 q5 q6 => ?_, M.G.apart, M.G.below⟩
    rcases hmid b with ⟨i, r1, r2, r3, r4, r5⟩ | ⟨_, r5⟩
    · have hL : L i := Classical.byContradiction fun hL => by
        have := hlate i (by omega) hL r3; rw [r4, q1] at this; cases this
      obtain ⟨g', d, s1, _, _, s4⟩ := hearly i (by omega) (by omega) hL r3
      rw [r4, q1] at s1; injection s1 with s1; subst s1
      rw [← r4]; exact (s4 b' q2).symm
    · rcases hmid b' with ⟨i, p1, p2, p3, p4, p5⟩ | ⟨_, p5⟩
      · have hL : L i := Classical.byContradiction fun hL => by
          have := hlate i (by omega) hL p3; rw [p4, q2] at this; cases this
        obtain ⟨g', d, s1, _, _, s4⟩ := hearly i (by omega) (by omega) hL p3
        rw [p4, q2] at s1; injection s1 with s1; subst s1
        rw [← p4]; exact s4 b q1
      · rw [r5] at q3
        rw [p5] at q4
        exact M.G.inj b b' g o1 o2 q1 q2 q3 q4 q5 q6
  · intro g o1 hg ho
    rcases hmid b with ⟨i, r1, r2, r3, r4, r5⟩ | ⟨_, r5⟩
    · have hL : L i := Classical.byContradiction fun hL => by
        have := hlate i (by omega) hL r3; rw [r4, hg] at this; cases this
      obtain ⟨g', d, s1, s2, s3, _⟩ := hearly i (by omega) (by omega) hL r3
      rw [r4, hg] at s1; injection s1 with s1; subst s1
      rw [r5, ← r4, s2] at ho
      injection ho with ho; subst ho
      exact s3
    · rw [r5] at ho
      exact M.R b g o1 hg ho
  · rcases hL with hL | hL
    · exact hearly i (by omega) hin hL hNi
    · subst hL; exact absurd hNi hnj
  · have B2 := I.big.trans hdom0 B
    exact ⟨B2.later, B2.new, F.gone c' hc2, by have := F.nn c' hc2; have := F.low 0 (by omega); have := B2.le; omega, B2.size, B2.frame, B2.os, B2.tape, B2.output⟩
end
end Go.Det
