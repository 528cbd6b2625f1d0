/-
  The deterministic machine is sound.
-/
import Derived.Test.YthbnlmmidanaiaaGreatDetDraws
set_option linter.unusedVariables false
set_option linter.unusedSimpArgs false
set_option linter.unusedSectionVars false
namespace Go.Det
variable [Beside]

section
variable {E : Env} {X : Text} {ops : Array Oper} {l : List (Nat × Nat)}
variable {L : Nat → Prop} {j : Nat} {o : Oper} {nn : Nat} {m : DH} {ρ0 : Nm} {N0 : Nat → Prop} {w0 : World} {a : Act} {w : World} {ρ : Nm} {N : Nat → Prop} {ts : Slots} {c : Nat}

theorem step_any (K : Known E) (F : Facts X ops.size m) (T : Stat ops l) (H : Next ops L j o) (hs : ∀ i o, ops[i]? = some o → X.stepAt E ops l i o)
    (hp : ∀ i k, i < k → k < ops.size → (i, k) ∈ l → compat (X.kS i) (X.kS k) = true) (hd : ∀ i, o.dst = some i → i < nn) (hdom0 : ∀ b g, ρ0 b = some g → b < m.n ∧ g < w0.heap.size) (B0 : Beside.holds N0 w0)
    (I : Inv X ops nn m ρ0 N0 w0 L a w ρ N ts c) {Kk : Act → World → Prop} {Q : Exit → Act → World → Prop}
    (hK : ∀ a' w' ρ' N' ts' c', Inv X ops nn m ρ0 N0 w0 (fun i => L i ∨ i = j) a' w' ρ' N' ts' c' → Kk a' w') : wpOp E.P ops Q j Kk a w := by
  have hj : j < ops.size := (Array.getElem?_eq_some_iff.1 H.op).1
  have hag : ∀ d, d ∈ o.looksAt ops → ts.get d = (X.tS j).get d := fun d hdl =>
    I.sl.agree (SlotsAt.text hs j (by omega)) fun i x hx hxd => H.agree T hdl hx hxd
  obtain ⟨hev, hwant⟩ := looks_agree hag
  unfold wpOp
  rw [H.op]
  simp only
  obtain ⟨_, _, hst⟩ := hs j o H.op
  rcases hst with ⟨hw, hk, hv, hm⟩ | ⟨hw, hdid⟩
  · rw [← hwant] at hw
    rw [guard_spec I.sr hw]
    simp only [Bool.false_eq_true, if_false]
    refine hK _ _ _ _ _ _ (I.calm H T hd (fun ⟨wr, n, h⟩ => by rw [hk] at h; cases h) (fun ⟨b, h⟩ => by rw [hk] at h; cases h) (Calm.refl w) ?_)
    rw [hv]; exact VR.undef
  · rw [← hwant] at hw
    rw [guard_spec I.sr hw]
    simp only [if_true]
    refine .inl ?_
    have still : ∀ {M : DH}, MemG ρ N w M → (∀ b, Row ρ N w M b) → (clsOf o.op = .idle ∨ clsOf o.op = .read) → ¬ isC X j → ¬ isN X j → opD E.P o.op ts M = some (X.vS j, M) → o.wp E.P a w Kk Q := by
      intro M G R hc h1 h2 ho
      obtain ⟨r, w', h3, C, h4⟩ := still_spec G I.sr hc (fun b _ => R b) ho
      unfold Oper.wp
      rw [h3]
      rcases h4 with ⟨x, rfl, hv⟩ | ⟨rfl, hv⟩
      · exact hK _ _ _ _ _ _ (I.calm H T hd h1 h2 C hv)
      · exact hK _ _ _ _ _ _ (I.calm H T hd h1 h2 C (by rw [hv]; exact VR.undef))
    generalize hk : X.kS j = k at hdid
    generalize hv : X.vS j = v at hdid still
    generalize hm : X.mS (j + 1) = m1 at hdid
    cases hdid with
    | idle hc ho =>
      refine still I.G I.R (.inl hc) (fun ⟨wr, n, h⟩ => by rw [hk] at h; cases h) (fun ⟨b, h⟩ => by rw [hk] at h; cases h) ?_
      rw [opD_congr hev, opD_idle hc (X.tS j) (X.mS j), ho]
      rfl
    | @read hc v m2 ho =>
      obtain ⟨G, R⟩ := I.mem F
      obtain ⟨h1, h2, h3⟩ := opD_read hc ho
      refine still G R (.inr hc) (fun ⟨wr, n, h⟩ => by rw [hk] at h; cases h) (fun ⟨b, h⟩ => by rw [hk] at h; cases h) ?_
      rw [opD_congr hev]
      refine (h3 _ fun b hb => ?_).1
      obtain ⟨x, hx1, hx2⟩ := h2 b hb
      refine I.seen F T H hs hp hk hc hb (h1 b hb) ?_
      rw [← hev x hx1] at hx2
      exact names_spec (ev_spec I.sr x) hx2
    | @new hc v m2 ho =>
      rw [← opD_congr hev] at ho
      obtain ⟨d, hmd, ob, x, w', hn, hr, hO⟩ := new_op (P := E.P) (a := a) (w := w) (ρ := ρ) (N := N) hc I.sr ho
      unfold Oper.wp
      rw [hr]
      refine hK _ _ _ _ _ _ (I.made F T H hs hp hd hk hc (d := d) ?_ hn fun ρ' La hb => ?_)
      · rw [hm, hmd]
        exact PM.get_set_same _ _ _
      · have := hO ρ' La hb
        rw [hv]
        exact this
    | @call hc cl hu g args ht fn body hf hb v m2 hg hkk =>
      have hcj : isC X j := ⟨_, _, hk⟩
      have hjc : j = c := by
        rcases Nat.lt_or_ge j c with h | h
        · exact absurd (I.cL j h hcj) H.not
        · rcases I.cc with h2 | h2
          · omega
          · by_cases e : j = c
            · exact e
            · exfalso
              have hcs : c < ops.size := by omega
              have hx : ops[c]? = some ops[c] := Array.getElem?_eq_getElem hcs
              have hcc : clsOf ops[c].op = .chain := by
                obtain ⟨wr, n, h2⟩ := h2
                cases stepM_of (hs c _ hx) with
                | idle hk' hm => rw [h2] at hk'; cases hk'
                | read rd hk' hc hm => rw [h2] at hk'; cases hk'
                | new hk' hc d hd hm hn => rw [h2] at hk'; cases hk'
                | chain wr' hk' hc hle gone fresh same => exact hc
              rcases H.pair T (Ne.symm e) hx with ⟨_, h3⟩ | ⟨h3, _⟩ | ⟨_, _, h3⟩ | ⟨h3, _⟩
              · exact I.cN c (Nat.le_refl _) hcs h2 h3
              · omega
              · rw [hcc, hc] at h3; cases h3
              · omega
      have ht' : targetD cl ts = some (g, args) := by
        rw [targetD_congr (c := cl) fun x hx => hev x (by rw [userCall_spec hu]; exact hx)]
        exact ht
      obtain ⟨vs, h1, h2⟩ := enter_spec K hf hb I.sr hu ht'
      unfold Oper.wp
      rw [h2]
      simp only [Oper.upon]
      have Mj : Mem ρ N w { h := (X.mS j).h, n := (X.mS j).n, wrs := [] } := by
        have G := I.G
        have R := I.R
        rw [← hjc] at G R
        exact ⟨⟨G.dom, G.fresh, G.inj, G.apart, G.below⟩, R, Beside.later I.big.later B0⟩
      refine Calls.mono (hg ρ N w vs Mj h1) fun e w' he => ?_
      obtain ⟨x, rfl, ρ', N', B, M, hvx⟩ := he
      have B' : Big ρ N (X.mS j) w ρ' N' (X.mS (j + 1)) w' := by
        rw [hm]
        exact ⟨B.later, B.new, B.gone, B.le, B.size, B.frame, B.os, B.tape, B.output⟩
      have M' : Mem ρ' N' w' (X.mS (j + 1)) := by
        rw [hm]
        exact ⟨⟨M.G.dom, M.G.fresh, M.G.inj, M.G.apart, M.G.below⟩, M.R, M.I⟩
      obtain ⟨c', I'⟩ := I.link F T H hs hd hjc hcj hdom0 B' M' (x := x) (by rw [hv]; exact hvx)
      exact hK _ _ _ _ _ _ I'
    | @chain hc hu v m2 ho =>
      have hcj : isC X j := ⟨_, _, hk⟩
      have hjc : j = c := by
        rcases Nat.lt_or_ge j c with h | h
        · exact absurd (I.cL j h hcj) H.not
        · rcases I.cc with h2 | h2
          · omega
          · by_cases e : j = c
            · exact e
            · exfalso
              have hcs : c < ops.size := by omega
              have hx : ops[c]? = some ops[c] := Array.getElem?_eq_getElem hcs
              have hcc : clsOf ops[c].op = .chain := by
                obtain ⟨wr, n, h2⟩ := h2
                cases stepM_of (hs c _ hx) with
                | idle hk' hm => rw [h2] at hk'; cases hk'
                | read rd hk' hc hm => rw [h2] at hk'; cases hk'
                | new hk' hc d hd hm hn => rw [h2] at hk'; cases hk'
                | chain wr' hk' hc hle gone fresh same => exact hc
              rcases H.pair T (Ne.symm e) hx with ⟨_, h3⟩ | ⟨h3, _⟩ | ⟨_, _, h3⟩ | ⟨h3, _⟩
              · exact I.cN c (Nat.le_refl _) hcs h2 h3
              · omega
              · rw [hcc, hc] at h3; cases h3
              · omega
      have Mj : Mem ρ N w (X.mS j) := by
        have G := I.G
        have R := I.R
        rw [← hjc] at G R
        exact ⟨G, R, Beside.later I.big.later B0⟩
      rw [← opD_congr hev] at ho
      obtain ⟨wr, _, hdn⟩ := done_op (P := E.P) (o := o) Mj.G I.sr (fun b _ => Mj.R b) ho
      obtain ⟨r, ρ', w', h1, B, M, hvx⟩ := hdn.mem Mj
      rw [← hm] at B M
      unfold Oper.wp
      rw [h1]
      rcases hvx with ⟨x, rfl, hvx⟩ | ⟨rfl, hvx⟩
      · obtain ⟨c', I'⟩ := I.link F T H hs hd hjc hcj hdom0 B M (x := x) (by rw [hv]; exact hvx)
        exact hK _ _ _ _ _ _ I'
      · obtain ⟨c', I'⟩ := I.link F T H hs hd hjc hcj hdom0 B M (x := undef) (by rw [hv, hvx]; exact VR.undef)
        exact hK _ _ _ _ _ _ I'

/-! ### All of them -/
def Ld (listed : Array Bool) (i : Nat) : Prop := listed.getD i false = true

theorem Ld_set {listed : Array Bool} {i : Nat} (hi : i < listed.size) : Ld (listed.setIfInBounds i true) = fun k => Ld listed k ∨ k = i := by
  funext k
  apply propext
  unfold Ld
  rw [Array.getD_eq_getD_getElem?, Array.getD_eq_getD_getElem?, Array.getElem?_setIfInBounds]
  by_cases h : i = k
  · subst h; simp [hi]
  · rw [if_neg h]
    exact ⟨fun h1 => .inl h1, fun h1 => by rcases h1 with h1 | h1; exact h1; exact absurd h1.symm h⟩

theorem cnt_set : ∀ (l : List Bool) (i : Nat), l[i]? = some false → (l.set i true).countP (fun b => !b) + 1 = l.countP (fun b => !b)
  | [], i, h => by simp at h
  | b :: l, 0, h => by simp at h; subst h; simp [List.countP_cons]
  | b :: l, i + 1, h => by
    have := cnt_set l i (by simpa using h)
    simp only [List.set_cons_succ, List.countP_cons]
    omega

theorem mem_ready {listed : Array Bool} {i : Nat} (h : i ∈ Region.ready .any ops listed) : i < ops.size ∧ listed.getD i true = false ∧ ∀ o, ops[i]? = some o → ∀ e, e ∈ o.after.toList → Region.binds .any e = true → Ld listed e.on := by
  unfold Region.ready at h
  rw [List.mem_filter] at h
  obtain ⟨h1, h2⟩ := h
  rw [List.mem_range] at h1
  simp only [Bool.and_eq_true, Bool.not_eq_true'] at h2
  refine ⟨h1, h2.1, fun o ho e he hb => ?_⟩
  have h3 := h2.2
  rw [ho] at h3
  simp only [Option.map_some, Option.getD_some, Array.all_eq_true_iff_forall_mem] at h3
  have := h3 e (by simpa using he)
  rw [hb] at this
  simpa [Ld] using this

theorem ready_mem {listed : Array Bool} {i : Nat} {o : Oper} (ho : ops[i]? = some o) (hl : listed.getD i true = false) (he : ∀ e, e ∈ o.after.toList → Region.binds .any e = true → Ld listed e.on) : i ∈ Region.ready .any ops listed := by
  unfold Region.ready
  rw [List.mem_filter]
  refine ⟨List.mem_range.2 (Array.getElem?_eq_some_iff.1 ho).1, ?_⟩
  simp only [Bool.and_eq_true, Bool.not_eq_true']
  refine ⟨hl, ?_⟩
  rw [ho]
  simp only [Option.map_some, Option.getD_some, Array.all_eq_true_iff_forall_mem]
  intro e hm
  by_cases hb : Region.binds .any e = true
  · have := he e (by simpa using hm) hb
    unfold Ld at this
    rw [this]; simp
  · simp at hb; rw [hb]; rfl

theorem getD_of {listed : Array Bool} {i : Nat} (hi : i < listed.size) (b : Bool) : listed.getD i b = listed[i] := by
  rw [Array.getD_eq_getD_getElem?, Array.getElem?_eq_getElem hi]; rfl

theorem any_of_inv (K : Known E) (F : Facts X ops.size m) (T : Stat ops l) (hs : ∀ i o, ops[i]? = some o → X.stepAt E ops l i o)
    (hp : ∀ i k, i < k → k < ops.size → (i, k) ∈ l → compat (X.kS i) (X.kS k) = true) (hd : ∀ (i : Nat) (o : Oper) (d : Nat), ops[i]? = some o → o.dst = some d → d < nn) (hdom0 : ∀ b g, ρ0 b = some g → b < m.n ∧ g < w0.heap.size) (B0 : Beside.holds N0 w0)
    {Q : Exit → Act → World → Prop} (hQ : ∀ a' w' ρ' N' ts' c' L', (∀ i, i < ops.size → L' i) → Inv X ops nn m ρ0 N0 w0 L' a' w' ρ' N' ts' c' → Q .normal a' w') :
    ∀ (fuel : Nat) (listed : Array Bool) (a : Act) (w : World) (ρ : Nm) (N : Nat → Prop) (ts : Slots) (c : Nat), listed.size = ops.size → listed.toList.countP (fun b => !b) = fuel → (∀ i k, Ld listed k → Bef ops i k → Ld listed i) →
      Inv X ops nn m ρ0 N0 w0 (Ld listed) a w ρ N ts c → wpAny E.P .any ops Q fuel listed a w := by
  intro fuel
  induction fuel with
  | zero =>
    intro listed a w ρ N ts c hsz hcnt hcl I
    have hall : ∀ i, i < ops.size → Ld listed i := by
      intro i hi
      have hi' : i < listed.size := by omega
      unfold Ld
      rw [getD_of hi']
      rw [List.countP_eq_zero] at hcnt
      have := hcnt listed[i] (by simp)
      simpa using this
    refine ⟨?_, hQ _ _ _ _ _ _ _ hall I⟩
    rw [List.eq_nil_iff_forall_not_mem]
    intro i hi
    obtain ⟨h1, h2, _⟩ := mem_ready hi
    have h3 := hall i h1
    unfold Ld at h3
    rw [getD_of (by omega)] at h2 h3
    rw [h2] at h3; cases h3
  | succ fuel ih =>
    intro listed a w ρ N ts c hsz hcnt hcl I
    refine ⟨fun hr => ?_, fun j hj => ?_⟩
    · have hall : ∀ i, i < ops.size → Ld listed i := by
        intro i
        induction i using Nat.strongRecOn with
        | _ i ih2 =>
          intro hi
          refine Classical.byContradiction fun hn => ?_
          have ho : ops[i]? = some ops[i] := Array.getElem?_eq_getElem hi
          have hl : listed.getD i true = false := by
            unfold Ld at hn
            rw [getD_of (by omega)] at hn ⊢
            simpa using hn
          have := ready_mem ho hl fun e he hb => by
            have hlt := T.edges i _ ho e he hb
            exact ih2 e.on hlt (by omega)
          rw [hr] at this
          simp at this
      exact hQ _ _ _ _ _ _ _ hall I
    · obtain ⟨h1, h2, h3⟩ := mem_ready hj
      have ho : ops[j]? = some ops[j] := Array.getElem?_eq_getElem h1
      have hnL : ¬ Ld listed j := by
        unfold Ld
        rw [getD_of (by omega)] at h2 ⊢
        rw [h2]; simp
      have H : Next ops (Ld listed) j ops[j] := ⟨ho, hnL, fun i hb => by
        obtain ⟨e, q1, q2, q3⟩ := bef_spec ho hb
        have he := h3 _ ho e q1 q2
        rcases q3 with q3 | q3
        · rw [← q3]; exact he
        · exact hcl i e.on he q3, hcl⟩
      refine step_any K F T H hs hp (fun i hi => hd j ops[j] i ho hi) hdom0 B0 I fun a' w' ρ' N' ts' c' I' => ?_
      have hset := Ld_set (listed := listed) (i := j) (by omega)
      refine ih _ _ _ _ _ _ _ (by simp [hsz]) ?_ ?_ (by rw [hset]; exact I')
      · have h4 := cnt_set listed.toList j (by
          rw [getD_of (by omega)] at h2
          rw [Array.getElem?_toList, Array.getElem?_eq_getElem (by omega), h2])
        rw [Array.toList_setIfInBounds]
        omega
      · rw [hset]
        intro i k hk hb
        rcases hk with hk | hk
        · exact .inl (hcl i k hk hb)
        · subst hk; exact .inl (H.bef i hb)
end

theorem opsOk_get {n : Nat} : ∀ {os : List Oper}, opsOk n os = true → ∀ (i : Nat) (o : Oper) (d : Nat), os[i]? = some o → o.dst = some d → d < n
  | [], _, i, o, d, h, _ => by simp at h
  | o' :: os, h, i, o, d, ho, hd => by
    obtain ⟨h1, h2⟩ := opsOk_cons h
    cases i with
    | zero => simp at ho; subst ho; exact h1 d hd
    | succ i => exact opsOk_get h2 i o d (by simpa using ho) hd

/-- Regions that draw. -/
theorem draws (E : Env) (K : Known E) : Draws E := by
  intro f id n ops l t m t' m' hl hok hst htr ρ N w a S
  have T := stat_of hst
  obtain ⟨X, x1, x2, x3, x4, x5, x6, _, x8⟩ := text_of htr (by simp) (Nat.zero_le _)
  have hs : ∀ i o, ops[i]? = some o → X.stepAt E ops l i o := fun i o ho => x6 i o (Nat.zero_le _) ho
  have F := facts_of x2 x3 S.1.G.fresh hs
  have hp : ∀ i k, i < k → k < ops.size → (i, k) ∈ l → compat (X.kS i) (X.kS k) = true := fun i k h1 h2 h3 => x8 i k h1 (Nat.zero_le _) h2 h3
  refine wp_region_any K.mixed ?_
  obtain ⟨c, hc1, hc2, hc3, hc4⟩ := next_chain X ops.size ops.size 0 (by omega)
  have hL : ∀ i, ¬ Ld (Array.replicate ops.size false) i := by
    intro i
    unfold Ld
    rw [Array.getD_eq_getD_getElem?, Array.getElem?_replicate]
    split <;> simp
  have C : Calm w { w with drawn := w.drawn + 1 } := ⟨Nat.le_refl _, fun _ _ => rfl, rfl, rfl, rfl⟩
  have hm0 : (X.mS 0).h = m.h := by rw [x2]
  have hn0 : (X.mS 0).n = m.n + countNew ops.toList := by rw [x2]
  have hrow : ∀ b, b < m.n → (X.mS c).h.get b = m.h.get b := by
    intro b hb
    rw [← hm0]
    refine stay hs c (Nat.zero_le _) hc2 (fun i q1 q2 hN e => ?_) (fun i wr n' q1 q2 hki => absurd ⟨wr, n', hki⟩ (hc4 i (Nat.zero_le _) q2))
    have := F.low i (by omega)
    omega
  have hnc := F.nn c hc2
  refine any_of_inv (m := m) (ρ0 := ρ) (N0 := N) (w0 := w) (nn := n) K F T hs hp (fun i o d ho hd => opsOk_get hok i o d (by simpa using ho) hd) S.1.G.dom S.1.I ?_ ops.size _ a _ ρ N (X.tS 0) c (by simp) ?_ (fun i k hk => absurd hk (hL k)) ?_
  · intro a' w' ρ' N' ts' c' L' hall I
    have hcs : c' = ops.size := by
      rcases I.cc with h | h
      · exact h
      · rcases Nat.lt_or_ge c' ops.size with h2 | h2
        · exact absurd (hall c' h2) (I.cN c' (Nat.le_refl _) h2 h)
        · have := I.cle; omega
    subst hcs
    refine ⟨rfl, ρ', N', by rw [← x5]; exact I.big, ⟨by rw [← x5]; exact I.G, by rw [← x5]; exact I.R, Beside.later I.big.later S.1.I⟩, fun d => ?_, I.asz, I.adef⟩
    have := I.sl.agree (SlotsAt.text hs ops.size (Nat.le_refl _)) (d := d) fun i o ho _ => ⟨fun _ => (Array.getElem?_eq_some_iff.1 ho).1, fun h => hall i h⟩
    rw [← x4, ← this]
    exact I.sr d
  · simp [List.countP_replicate]
  · refine ⟨S.2.2.1, S.2.2.2, ?_, ⟨fun d => .inr ⟨fun i o h => absurd h (hL i), rfl⟩⟩, hc2, fun i hi hc => absurd hc (hc4 i (Nat.zero_le _) hi), fun i _ _ _ => hL i, hc3, ?_, fun b => ?_, fun i _ _ h => absurd h (hL i), fun i hi _ hN => ?_, ?_⟩
    · rw [x1]; exact S.2.1.later (C.later (fun _ _ h => h) N)
    · refine ⟨fun b g hb => ?_, F.fresh c hc2, fun b b' g o1 o2 h1 h2 h3 h4 h5 h6 => ?_, S.1.G.apart, S.1.G.below⟩
      · have := S.1.G.dom b g hb
        exact ⟨by omega, this.2⟩
      · rw [hrow b (S.1.G.dom b g h1).1] at h3
        rw [hrow b' (S.1.G.dom b' g h2).1] at h4
        exact S.1.G.inj b b' g o1 o2 h1 h2 h3 h4 h5 h6
    · intro g o1 hg ho
      rw [hrow b (S.1.G.dom b g hg).1] at ho
      exact C.obj (S.1.G.dom b g hg).2 (S.1.R b g o1 hg ho)
    · cases hb : ρ (X.bS i) with
      | none => rfl
      | some g =>
        have := (S.1.G.dom _ g hb).1
        have := F.low i (by omega)
        omega
    · exact ⟨C.later (fun _ _ h => h) N, fun b g h => .inl h, F.gone c hc2, by omega, Nat.le_refl _, fun _ _ _ => rfl, rfl, rfl, rfl⟩

/-- WHAT THE MACHINE DOES, THE MODEL DOES. -/
theorem sound {E : Env} (K : Known E) {k : Nat} {f : FuncId} {args : List DV} {m m' : DH} {v : DV} (h : run E k (.call f args m) = .val v m') : GoodCall E.P f args m v m' := by
  have := run_spec K (draws E K) k (.call f args m)
  rw [h] at this
  exact this.1
#print axioms sound
end Go.Det
