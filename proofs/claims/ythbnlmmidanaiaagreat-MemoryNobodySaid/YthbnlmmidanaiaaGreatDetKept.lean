/-
  What an operation of the deterministic machine leaves alone; on what its answer rests.
-/
import Derived.Test.YthbnlmmidanaiaaGreatDetOp
set_option linter.unusedVariables false
set_option linter.unusedSimpArgs false
set_option linter.unusedSectionVars false
namespace Go.Det

/-! ### On which operands -/
theorem evs_congr {t t' : Slots} : ∀ {xs : List Operand}, (∀ x, x ∈ xs → ev t x = ev t' x) → evs t xs = evs t' xs
  | [], _ => rfl
  | x :: xs, h => by simp only [evs]; rw [h x (by simp), evs_congr fun y hy => h y (by simp [hy])]
theorem mapEv_congr {t t' : Slots} : ∀ {ps : List (Nat × Operand)}, (∀ p, p ∈ ps → ev t p.2 = ev t' p.2) → mapEv t ps = mapEv t' ps
  | [], _ => rfl
  | p :: ps, h => by simp only [mapEv]; rw [h p (by simp), mapEv_congr fun y hy => h y (by simp [hy])]
theorem optEv_congr {t t' : Slots} {x : Option Operand} (h : ∀ y, x = some y → ev t y = ev t' y) : optEv t x = optEv t' x := by
  cases x with
  | none => rfl
  | some y => simp only [optEv]; rw [h y rfl]

theorem opD_congr {P : Program} {op : Op} {t t' : Slots} (h : ∀ x, x ∈ op.operands → ev t x = ev t' x) (m : DH) : opD P op t m = opD P op t' m := by
  cases op <;> simp only [Op.operands] at h <;> simp only [opD]
  case build T ps => rw [mapEv_congr (ps := ps.toList) fun p hp => h p.2 (by simp; exact ⟨p.1, by simpa using hp⟩)]
  case buildSlice T n ps => rw [mapEv_congr (ps := ps.toList) fun p hp => h p.2 (by simp; exact ⟨p.1, by simpa using hp⟩)]
  case makeFunc fn first captured => rw [evs_congr (xs := captured.toList) fun x hx => h x (by simp at hx ⊢; exact .inr hx), evs_congr (xs := first.toList) fun x hx => h x (by simp at hx ⊢; exact .inl hx)]
  case call c =>
    cases hc : c.callee with
    | builtin b => simp only; rw [evs_congr (xs := c.args.toList) fun x hx => h x (by simp [Call.operands, hc] at hx ⊢; exact hx)]
    | value f => rfl
    | invoke r n => rfl
  case slice T x lo hi mx =>
    rw [h x (by simp), optEv_congr (x := lo) fun y hy => h y (by simp [hy]), optEv_congr (x := hi) fun y hy => h y (by simp [hy]), optEv_congr (x := mx) fun y hy => h y (by simp [hy])]
  case makeMap T r => cases r <;> rfl
  case pick c a b => rw [h c (by simp), h a (by simp), h b (by simp)]
  case mapUpdate T x k v => rw [h x (by simp), h k (by simp), h v (by simp)]
  case store T x v => rw [h x (by simp), h v (by simp)]
  case binOp op T x y T' => rw [h x (by simp), h y (by simp)]
  case makeSlice T x y => rw [h x (by simp), h y (by simp)]
  case indexAddr T x y => rw [h x (by simp), h y (by simp)]
  case index T x y => rw [h x (by simp), h y (by simp)]
  case lookup T x y ok => rw [h x (by simp), h y (by simp)]
  all_goals first | rfl | (rename_i x; rw [h _ (by simp)]) | (rw [h _ (by simp)])

theorem rdD_congr {op : Op} {t t' : Slots} (h : ∀ x, x ∈ op.operands → ev t x = ev t' x) (m : DH) : rdD op t m = rdD op t' m := by
  cases op <;> simp only [Op.operands] at h <;> simp only [rdD]
  case call c =>
    have := evs_congr (t := t) (t' := t') (xs := c.args.toList) fun x hx => h x (by simp [Call.operands] at hx ⊢; exact .inr hx)
    rw [this]
  all_goals first | rfl | (rw [h _ (by simp)])

theorem wrD_congr {op : Op} {t t' : Slots} (h : ∀ x, x ∈ op.operands → ev t x = ev t' x) : wrD op t = wrD op t' := by
  cases op <;> simp only [Op.operands] at h <;> simp only [wrD]
  case call c =>
    have := evs_congr (t := t) (t' := t') (xs := c.args.toList) fun x hx => h x (by simp [Call.operands] at hx ⊢; exact .inr hx)
    rw [this]
  all_goals first | rfl | (rw [h _ (by simp)])

theorem targetD_congr {c : Call} {t t' : Slots} (h : ∀ x, x ∈ c.operands → ev t x = ev t' x) : targetD c t = targetD c t' := by
  unfold targetD
  cases hc : c.callee with
  | value f =>
    simp only
    rw [h f (by simp [Call.operands, hc]), evs_congr (xs := c.args.toList) fun x hx => h x (by simp [Call.operands] at hx ⊢; exact .inr hx)]
  | _ => rfl

/-! ### What it does to memory -/
inductive Eff (op : Op) (t : Slots) (m : DH) : DH → Prop where
  | same : Eff op t m m
  | add (d : DO) : Eff op t m (m.add d)
  | set (b : Nat) (d o : DO) (hb : b ∈ wrD op t) (h : m.h.get b = some o) : Eff op t m { h := m.h.set b d, n := m.n, wrs := addW b m.wrs }
  | opened (b : Nat) (d o : DO) (hb : b ∈ wrD op t) (h : m.h.get b = some o) : Eff op t m { h := (m.h.set m.n d).set b .dead, n := m.n + 1, wrs := addW b m.wrs }

theorem okV_mem {m m' : DH} {v : DV} {x : Option DV} (h : okV m x = some (v, m')) : m' = m := by
  unfold okV at h
  split at h
  · injection h with h; injection h with h1 h2; exact h2.symm
  · cases h

theorem opD_eff {P : Program} {op : Op} {t : Slots} {m m' : DH} {v : DV} (h : opD P op t m = some (v, m')) : Eff op t m m' := by
  have same : m' = m → Eff op t m m' := fun e => by subst e; exact .same
  cases op <;> simp only [opD] at h
  case move x => injection h with h; injection h with h1 h2; subst h2; exact .same
  case assign x => injection h with h; injection h with h1 h2; subst h2; exact .same
  case pick c a b =>
    unfold pickD at h
    split at h <;> first | (injection h with h; injection h with h1 h2; subst h2; exact .same) | cases h
  case alloc e =>
    unfold allocD newPtr at h
    split at h
    · injection h with h; injection h with h1 h2; subst h2; exact .add _
    · cases h
  case box e x =>
    unfold boxD newPtr at h
    split at h
    · injection h with h; injection h with h1 h2; subst h2; exact .add _
    · cases h
  case build T ps =>
    unfold buildD at h
    split at h
    · split at h
      · injection h with h; injection h with h1 h2; subst h2; exact .same
      · cases h
    · cases h
  case buildSlice T n ps =>
    unfold buildSliceD at h
    split at h
    · split at h
      · split at h
        · cases h
        · split at h
          · injection h with h; injection h with h1 h2; subst h2; exact .add _
          · cases h
      · cases h
    · cases h
  case load T x => exact same (okV_mem h)
  case store T x v' =>
    unfold okM at h
    split at h
    · rename_i m1 hm
      injection h with h; injection h with h1 h2; subst h2
      unfold storeD at hm
      split at hm
      · rename_i b off e
        split at hm
        · rename_i cs e' hb
          split at hm
          · injection hm with hm; subst hm
            exact .set b _ _ (by simp [wrD, e, names]) hb
          · cases hm
        · cases hm
      · cases hm
    · cases h
  case nilCheck x =>
    unfold nilCheckD at h
    split at h
    · injection h with h; injection h with h1 h2; subst h2; exact .same
    · cases h
  case binOp => exact same (okV_mem h)
  case unOp => exact same (okV_mem h)
  case convert src dst x =>
    unfold convD at h
    repeat' split at h
    all_goals first | (cases h; done) | (injection h with h; injection h with h1 h2; subst h2; first | exact .same | exact .add _)
  case makeFunc fn first captured =>
    unfold makeFuncD at h
    split at h
    · injection h with h; injection h with h1 h2; subst h2; exact .same
    · cases h
  case makeMap T r =>
    cases r with
    | none => injection h with h; injection h with h1 h2; subst h2; exact .add _
    | some r => cases h
  case makeSlice T l c =>
    unfold makeSliceD at h
    repeat' split at h
    all_goals first | (cases h; done) | (injection h with h; injection h with h1 h2; subst h2; exact .add _)
  case slice => exact same (okV_mem h)
  case fieldAddr =>
    unfold fieldAddrD at h
    repeat' split at h
    all_goals first | (cases h; done) | (injection h with h; injection h with h1 h2; subst h2; exact .same)
  case field =>
    unfold fieldD at h
    split at h
    · exact same (okV_mem h)
    · cases h
  case indexAddr =>
    unfold indexAddrD at h
    repeat' split at h
    all_goals first | (cases h; done) | (injection h with h; injection h with h1 h2; subst h2; exact .same)
  case index =>
    unfold indexD at h
    repeat' split at h
    all_goals first | (cases h; done) | (injection h with h; injection h with h1 h2; subst h2; exact .same) | exact same (okV_mem h)
  case lookup => exact same (okV_mem h)
  case mapUpdate T x k v' =>
    unfold okM at h
    split at h
    · rename_i m1 hm
      injection h with h; injection h with h1 h2; subst h2
      unfold updateD at hm
      split at hm
      · split at hm
        · rename_i b e
          split at hm
          · cases hm
          · split at hm
            · rename_i es c hb
              split at hm
              · injection hm with hm; subst hm; exact .set b _ _ (by simp [wrD, e, names]) hb
              · injection hm with hm; subst hm; exact .set b _ _ (by simp [wrD, e, names]) hb
              · cases hm
            · cases hm
        · cases hm
      · cases hm
    · cases h
  case range T x =>
    unfold rangeD at h
    repeat' split at h
    all_goals first | (cases h; done) | (injection h with h; injection h with h1 h2; subst h2; exact .add _)
  case next x s =>
    unfold nextD at h
    split at h
    · cases h
    · split at h
      · rename_i r e
        split at h
        · injection h with h; injection h with h1 h2; subst h2; exact .same
        · rename_i b since seen last hr
          split at h
          · split at h
            · cases h
            · split at h
              · injection h with h; injection h with h1 h2; subst h2; exact .same
              · split at h
                · injection h with h; injection h with h1 h2; subst h2
                  exact .set r _ _ (by simp [wrD, e, names]) hr
                · cases h
              · cases h
          · cases h
        · cases h
      · cases h
  case entry x => exact same (okV_mem h)
  case extract x i =>
    unfold extractD at h
    split at h
    · exact same (okV_mem h)
    · cases h
  case call c =>
    split at h
    case h_2 => cases h
    rename_i b hc
    unfold builtinD at h
    split at h
    · split at h
      · unfold lenD at h
        repeat' split at h
        all_goals first | (cases h; done) | (injection h with h; injection h with h1 h2; subst h2; exact .same)
      · cases h
    · split at h
      · rename_i s x hx
        unfold appD at h
        split at h
        · split at h
          · split at h
            · unfold appendD at h
              split at h
              · split at h
                · cases h
                · split at h
                  · split at h
                    · injection h with h; injection h with h1 h2; subst h2; exact .same
                    · injection h with h; injection h with h1 h2; subst h2; exact .add _
                  · rename_i b off len cap ex sz' hlen
                    split at h
                    · rename_i cs e' ro hb
                      split at h
                      · cases h
                      · split at h
                        · unfold appRoom at h
                          split at h
                          · injection h with h; injection h with h1 h2; subst h2; exact .set b _ _ (by simp [wrD, hc, hx, headNames, names]) hb
                          · cases h
                        · split at h
                          · unfold appNone at h
                            injection h with h; injection h with h1 h2; subst h2; exact .add _
                          · unfold appOpen at h
                            split at h
                            · injection h with h; injection h with h1 h2; subst h2; exact .opened b _ _ (by simp [wrD, hc, hx, headNames, names]) hb
                            · cases h
                    · cases h
                  · cases h
              · cases h
            · cases h
          · cases h
        · cases h
      · cases h
    · split at h
      · unfold minmaxD at h
        repeat' split at h
        all_goals first | (cases h; done) | (injection h with h; injection h with h1 h2; subst h2; exact .same)
      · cases h
    · split at h
      · unfold minmaxD at h
        repeat' split at h
        all_goals first | (cases h; done) | (injection h with h; injection h with h1 h2; subst h2; exact .same)
      · cases h
    · split at h
      · rename_i x k hx
        split at h
        · split at h
          · rename_i m1 hm
            injection h with h; injection h with h1 h2; subst h2
            unfold deleteD at hm
            split at hm
            · split at hm
              · rename_i b
                split at hm
                · cases hm
                · split at hm
                  · rename_i es c' hb
                    split at hm
                    · injection hm with hm; subst hm; exact .set b _ _ (by simp [wrD, hc, hx, headNames, names]) hb
                    · injection hm with hm; subst hm; exact .set b _ _ (by simp [wrD, hc, hx, headNames, names]) hb
                    · cases hm
                  · cases hm
              · cases hm
            · cases hm
          · cases h
        · cases h
      · cases h
    · cases h
  all_goals cases h

theorem mem_addW {b x : Nat} {l : List Nat} : x ∈ addW b l ↔ x = b ∨ x ∈ l := by
  unfold addW
  split
  · simp
  · rename_i c cs
    split
    · rename_i h
      rw [Nat.beq_eq] at h
      subst h
      simp
    · simp

theorem mem_oldOf {n x : Nat} : ∀ {l : List Nat}, x ∈ oldOf n l ↔ x ∈ l ∧ x < n
  | [] => by simp [oldOf]
  | b :: bs => by
    unfold oldOf
    split
    · rename_i h
      rw [Nat.blt_eq] at h
      simp only [List.mem_cons, mem_oldOf (l := bs)]
      constructor
      · rintro (h1 | ⟨h1, h2⟩)
        · subst h1; exact ⟨.inl rfl, h⟩
        · exact ⟨.inr h1, h2⟩
      · rintro ⟨h1 | h1, h2⟩
        · exact .inl h1
        · exact .inr ⟨h1, h2⟩
    · rename_i h
      have h : ¬ b < n := by rw [← Nat.blt_eq, h]; simp
      simp only [List.mem_cons, mem_oldOf (l := bs)]
      constructor
      · rintro ⟨h1, h2⟩; exact ⟨.inr h1, h2⟩
      · rintro ⟨h1 | h1, h2⟩
        · subst h1; exact absurd h2 h
        · exact ⟨h1, h2⟩

structure Kept (m m' : DH) : Prop where
  le : m.n ≤ m'.n
  more : ∀ b, b ∈ m.wrs → b ∈ m'.wrs
  same : ∀ b, b < m.n → b ∉ m'.wrs → m'.h.get b = m.h.get b
  gone : ∀ b, b < m.n → m.h.get b = none → m'.h.get b = none
  fresh : (∀ b, m.n ≤ b → m.h.get b = none) → ∀ b, m'.n ≤ b → m'.h.get b = none

theorem Kept.refl (m : DH) : Kept m m := ⟨Nat.le_refl _, fun _ h => h, fun _ _ _ => rfl, fun _ _ h => h, fun h => h⟩
theorem Kept.trans {m m' m'' : DH} (h : Kept m m') (k : Kept m' m'') : Kept m m'' := by
  have h1 := h.le
  exact ⟨Nat.le_trans h.le k.le, fun b hb => k.more b (h.more b hb), fun b hb hl => by rw [k.same b (by omega) hl, h.same b hb (fun e => hl (k.more b e))], fun b hb hn => k.gone b (by omega) (h.gone b hb hn), fun hf => k.fresh (h.fresh hf)⟩

theorem Eff.kept {op : Op} {t : Slots} {m m' : DH} (h : Eff op t m m') : Kept m m' := by
  cases h with
  | same => exact .refl m
  | add d =>
    refine ⟨Nat.le_succ _, fun _ h => h, fun b hb _ => by rw [PM.get_set_ne _ _ (by omega)], fun b hb hn => by rw [PM.get_set_ne _ _ (by omega)]; exact hn, fun hf b hb => ?_⟩
    have hb' : m.n + 1 ≤ b := hb
    rw [PM.get_set_ne _ _ (by omega)]
    exact hf b (by omega)
  | set b d o hb h =>
    refine ⟨Nat.le_refl _, fun _ h => mem_addW.2 (.inr h), fun b' hb' hl => ?_, fun b' hb' hn => ?_, fun hf b' hb' => ?_⟩
    · have hne : b ≠ b' := fun e => hl (mem_addW.2 (.inl e.symm))
      rw [PM.get_set_ne _ _ hne]
    · by_cases e : b = b'
      · subst e; rw [h] at hn; cases hn
      · rw [PM.get_set_ne _ _ e]; exact hn
    · by_cases e : b = b'
      · subst e; rw [hf b hb'] at h; cases h
      · rw [PM.get_set_ne _ _ e]; exact hf b' hb'
  | opened b d o hb h =>
    refine ⟨Nat.le_succ _, fun _ h => mem_addW.2 (.inr h), fun b' hb' hl => ?_, fun b' hb' hn => ?_, fun hf b' hb' => ?_⟩
    · have hne : b ≠ b' := fun e => hl (mem_addW.2 (.inl e.symm))
      rw [PM.get_set_ne _ _ hne, PM.get_set_ne _ _ (by omega)]
    · by_cases e : b = b'
      · subst e; rw [h] at hn; cases hn
      · rw [PM.get_set_ne _ _ e, PM.get_set_ne _ _ (by omega)]; exact hn
    · have hb'' : m.n + 1 ≤ b' := hb'
      by_cases e : b = b'
      · subst e; rw [hf b (by omega)] at h; cases h
      · rw [PM.get_set_ne _ _ e, PM.get_set_ne _ _ (by omega)]; exact hf b' (by omega)

theorem Eff.frame {op : Op} {t : Slots} {m m' : DH} (h : Eff op t m m') {b : Nat} (hb : b < m.n) (hw : b ∉ wrD op t) : m'.h.get b = m.h.get b := by
  cases h with
  | same => rfl
  | add d => rw [PM.get_set_ne _ _ (by omega)]
  | set b' d o hb' h => rw [PM.get_set_ne _ _ (by intro e; subst e; exact hw hb')]
  | opened b' d o hb' h => rw [PM.get_set_ne _ _ (by intro e; subst e; exact hw hb'), PM.get_set_ne _ _ (by omega)]
end Go.Det
