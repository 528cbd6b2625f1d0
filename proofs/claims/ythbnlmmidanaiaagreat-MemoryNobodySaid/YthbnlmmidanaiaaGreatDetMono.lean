/-
  More fuel turns no answer: 'Runs E T r': the machine comes to r, with some fuel; and how runs are put together.
-/
import Derived.Test.YthbnlmmidanaiaaGreatDetRel
set_option linter.unusedVariables false
set_option linter.unusedSimpArgs false
set_option linter.unusedSectionVars false
namespace Go.Det

/-- What the first answers, the second answers. -/
def Le (ih1 ih2 : Task → Out) : Prop := ∀ T, ih1 T ≠ .no → ih2 T = ih1 T

section
variable {E : Env} {ih1 ih2 : Task → Out}

theorem leaveB_no {P : Program} {fn : Func} {o : Out} (h : leaveB P fn o ≠ .no) : o ≠ .no := by
  intro e; subst e; exact h rfl
theorem opsGo_no {ih : Task → Out} {f : FuncId} {all : Array Oper} {rest : List Oper} {t : Slots} {d : Option Nat} {o : Out} (h : opsGo ih f all rest t d o ≠ .no) : o ≠ .no := by
  intro e; subst e; exact h rfl
theorem seqGo_no {ih : Task → Out} {f : FuncId} {b : Code} {o : Out} (h : seqGo ih f b o ≠ .no) : o ≠ .no := by
  intro e; subst e; exact h rfl
theorem blockGo_no {id : Nat} {o : Out} (h : blockGo id o ≠ .no) : o ≠ .no := by
  intro e; subst e; exact h rfl

theorem callB_mono (H : Le ih1 ih2) (f : FuncId) (args : List DV) (m : DH) (h : callB E ih1 f args m ≠ .no) : callB E ih2 f args m = callB E ih1 f args m := by
  unfold callB at h ⊢
  split
  · rfl
  · rename_i fn hf
    rw [hf] at h
    simp only at h
    split
    · rfl
    · rename_i c hb
      rw [hb] at h
      simp only at h
      split
      · rfl
      · rename_i he
        rw [he] at h
        simp only at h
        split
        · rename_i hl
          rw [hl] at h
          simp only at h
          rw [H _ (leaveB_no h)]
        · rfl

theorem oneB_mono (H : Le ih1 ih2) (o : Op) (t : Slots) (m : DH) (h : oneB E ih1 o t m ≠ .no) : oneB E ih2 o t m = oneB E ih1 o t m := by
  unfold oneB at h ⊢
  split
  · rename_i c hc
    rw [hc] at h
    simp only at h
    split
    · rename_i g args hg
      rw [hg] at h
      exact H _ h
    · rfl
  · rfl

theorem opsB_mono (H : Le ih1 ih2) (f : FuncId) (all : Array Oper) (rest : List Oper) (t : Slots) (m : DH) (h : opsB E ih1 f all rest t m ≠ .no) : opsB E ih2 f all rest t m = opsB E ih1 f all rest t m := by
  cases rest with
  | nil => rfl
  | cons o rest =>
    simp only [opsB] at h ⊢
    split
    · rfl
    · rename_i hw
      rw [hw] at h
      exact H _ h
    · rename_i hw
      rw [hw] at h
      simp only at h
      rw [oneB_mono H _ _ _ (opsGo_no h)]
      cases ho : oneB E ih1 o.op t m with
      | val v m' =>
        rw [ho] at h
        exact H _ h
      | _ => rfl

theorem ropsNext_mono (H : Le ih1 ih2) {f : FuncId} {all : Array Oper} {l : List (Nat × Nat)} {j : Nat} {rest : List Oper} {t : Slots} {d : Option Nat} {b : Nat} {tr : List Kd} {k : Kd} {v : DV} {m : DH}
    (h : ropsNext ih1 f all l j rest t d b tr k v m ≠ .no) : ropsNext ih2 f all l j rest t d b tr k v m = ropsNext ih1 f all l j rest t d b tr k v m := by
  unfold ropsNext at h ⊢
  split
  · rename_i hc
    rw [hc] at h
    exact H _ h
  · rfl

theorem ropsB_mono (H : Le ih1 ih2) (f : FuncId) (all : Array Oper) (l : List (Nat × Nat)) (j : Nat) (rest : List Oper) (t : Slots) (m : DH) (b : Nat) (tr : List Kd) (h : ropsB E ih1 f all l j rest t m b tr ≠ .no) :
    ropsB E ih2 f all l j rest t m b tr = ropsB E ih1 f all l j rest t m b tr := by
  cases rest with
  | nil => rfl
  | cons o rest =>
    simp only [ropsB] at h ⊢
    cases hw : wantedD all o t with
    | none => rfl
    | some w =>
      rw [hw] at h
      cases w with
      | false => exact ropsNext_mono H h
      | true =>
        simp only at h ⊢
        cases hc : clsOf o.op with
        | idle =>
          rw [hc] at h
          simp only at h ⊢
          cases ho : opD E.P o.op t m with
          | none => rfl
          | some p => rw [ho] at h; exact ropsNext_mono H h
        | new =>
          rw [hc] at h
          simp only at h ⊢
          cases ho : opD E.P o.op t { h := m.h, n := b, wrs := m.wrs } with
          | none => rfl
          | some p => rw [ho] at h; exact ropsNext_mono H h
        | read =>
          rw [hc] at h
          simp only at h ⊢
          cases ho : opD E.P o.op t m with
          | none => rfl
          | some p => rw [ho] at h; exact ropsNext_mono H h
        | chain =>
          rw [hc] at h
          simp only at h ⊢
          cases hu : userCall o.op with
          | some c =>
            rw [hu] at h
            simp only at h ⊢
            cases ht : targetD c t with
            | none => rfl
            | some p =>
              obtain ⟨g, args⟩ := p
              rw [ht] at h
              simp only at h ⊢
              cases hi : ih1 (.call g args { h := m.h, n := m.n, wrs := [] }) with
              | val v m' =>
                rw [hi] at h
                rw [H _ (by rw [hi]; exact fun e => by cases e), hi]
                exact ropsNext_mono H h
              | st x t' m' => rw [H _ (by rw [hi]; exact fun e => by cases e), hi]
              | no => rw [hi] at h; exact absurd rfl h
          | none =>
            rw [hu] at h
            simp only at h ⊢
            cases ho : opD E.P o.op t m with
            | none => rfl
            | some p => rw [ho] at h; exact ropsNext_mono H h

theorem codeB_mono (H : Le ih1 ih2) (f : FuncId) (c : Code) (t : Slots) (m : DH) (h : codeB E ih1 f c t m ≠ .no) : codeB E ih2 f c t m = codeB E ih1 f c t m := by
  have hseq : ∀ a b, seqGo ih1 f b (ih1 (.code f a t m)) ≠ .no → seqGo ih2 f b (ih2 (.code f a t m)) = seqGo ih1 f b (ih1 (.code f a t m)) := by
    intro a b h
    rw [H _ (seqGo_no h)]
    cases hi : ih1 (.code f a t m) with
    | st x t' m' =>
      rw [hi] at h
      cases x with
      | normal => exact H _ h
      | _ => rfl
    | _ => rfl
  cases c with
  | region id ops draw =>
    simp only [codeB] at h ⊢
    cases draw with
    | false => exact H _ h
    | true =>
      simp only at h ⊢
      cases hp : E.pairs f id with
      | none => rfl
      | some l => rw [hp] at h; exact H _ h
  | seq a b => exact hseq a b h
  | cond c a b =>
    simp only [codeB] at h ⊢
    unfold condGo at h ⊢
    split
    · rename_i hc; rw [hc] at h; exact H _ h
    · rename_i hc; rw [hc] at h; exact H _ h
    · rfl
  | block id c =>
    simp only [codeB] at h ⊢
    rw [H _ (blockGo_no h)]
  | loop c => exact hseq c (.loop c) h
  | _ => rfl

theorem bodyB_mono (H : Le ih1 ih2) : Le (bodyB E ih1) (bodyB E ih2) := by
  intro T h
  cases T with
  | call => exact callB_mono H _ _ _ h
  | ops => exact opsB_mono H _ _ _ _ _ h
  | rops => exact ropsB_mono H _ _ _ _ _ _ _ _ _ h
  | code => exact codeB_mono H _ _ _ _ h
end

theorem run_le (E : Env) : ∀ k, Le (run E k) (run E (k + 1))
  | 0 => fun _ h => absurd rfl h
  | k + 1 => bodyB_mono (run_le E k)

theorem run_mono {E : Env} {k : Nat} {T : Task} (h : run E k T ≠ .no) : ∀ j, run E (k + j) T = run E k T
  | 0 => rfl
  | j + 1 => by
    have ih := run_mono h j
    rw [← ih]
    exact run_le E (k + j) T (by rw [ih]; exact h)

/-- The machine comes to 'r'. -/
def Runs (E : Env) (T : Task) (r : Out) : Prop := r ≠ .no ∧ ∃ k, run E k T = r

theorem Runs.up {E : Env} {T : Task} {r : Out} (h : Runs E T r) : ∃ k, ∀ j, run E (k + j) T = r := by
  obtain ⟨hn, k, hk⟩ := h
  exact ⟨k, fun j => by rw [run_mono (by rw [hk]; exact hn) j, hk]⟩

theorem Runs.seq {E : Env} {f : FuncId} {a b : Code} {t t' : Slots} {m m' : DH} {r : Out} (h1 : Runs E (.code f a t m) (.st .normal t' m')) (h2 : Runs E (.code f b t' m') r) : Runs E (.code f (.seq a b) t m) r := by
  obtain ⟨k1, hk1⟩ := h1.up
  obtain ⟨k2, hk2⟩ := h2.up
  refine ⟨h2.1, k1 + k2 + 1, ?_⟩
  show seqGo (run E (k1 + k2)) f b (run E (k1 + k2) (.code f a t m)) = r
  rw [hk1 k2]
  show run E (k1 + k2) (.code f b t' m') = r
  rw [Nat.add_comm]; exact hk2 k1

theorem Runs.seq_out {E : Env} {f : FuncId} {a b : Code} {t t' : Slots} {m m' : DH} {x : DX} (h1 : Runs E (.code f a t m) (.st x t' m')) (hx : x ≠ .normal) : Runs E (.code f (.seq a b) t m) (.st x t' m') := by
  obtain ⟨k1, hk1⟩ := h1.up
  refine ⟨h1.1, k1 + 1, ?_⟩
  show seqGo (run E k1) f b (run E k1 (.code f a t m)) = _
  rw [show run E k1 (.code f a t m) = _ from hk1 0]
  cases x with
  | normal => exact absurd rfl hx
  | _ => rfl

theorem Runs.loop {E : Env} {f : FuncId} {c : Code} {t t' : Slots} {m m' : DH} {r : Out} (h1 : Runs E (.code f c t m) (.st .normal t' m')) (h2 : Runs E (.code f (.loop c) t' m') r) : Runs E (.code f (.loop c) t m) r := by
  obtain ⟨k1, hk1⟩ := h1.up
  obtain ⟨k2, hk2⟩ := h2.up
  refine ⟨h2.1, k1 + k2 + 1, ?_⟩
  show seqGo (run E (k1 + k2)) f (.loop c) (run E (k1 + k2) (.code f c t m)) = r
  rw [hk1 k2]
  show run E (k1 + k2) (.code f (.loop c) t' m') = r
  rw [Nat.add_comm]; exact hk2 k1

theorem Runs.loop_out {E : Env} {f : FuncId} {c : Code} {t t' : Slots} {m m' : DH} {x : DX} (h1 : Runs E (.code f c t m) (.st x t' m')) (hx : x ≠ .normal) : Runs E (.code f (.loop c) t m) (.st x t' m') := by
  obtain ⟨k1, hk1⟩ := h1.up
  refine ⟨h1.1, k1 + 1, ?_⟩
  show seqGo (run E k1) f (.loop c) (run E k1 (.code f c t m)) = _
  rw [show run E k1 (.code f c t m) = _ from hk1 0]
  cases x with
  | normal => exact absurd rfl hx
  | _ => rfl

theorem Runs.block {E : Env} {f : FuncId} {id : Nat} {c : Code} {t t' : Slots} {m m' : DH} {x : DX} (h1 : Runs E (.code f c t m) (.st x t' m')) : Runs E (.code f (.block id c) t m) (blockGo id (.st x t' m')) := by
  obtain ⟨k1, hk1⟩ := h1.up
  refine ⟨?_, k1 + 1, ?_⟩
  · cases x with
    | exit i => simp only [blockGo]; cases Nat.beq i id <;> exact (fun e => by cases e)
    | _ => exact fun e => by cases e
  · show blockGo id (run E k1 (.code f c t m)) = _
    rw [show run E k1 (.code f c t m) = _ from hk1 0]

theorem Runs.call {E : Env} {f : FuncId} {args : List DV} {m m' : DH} {fn : Func} {c : Code} {x : DX} {t' : Slots} {v : DV} (hf : E.P.funcs[f]? = some fn) (hb : fn.body = some c) (he : E.ext f args m = none) (hl : args.length ≤ fn.ntmps)
    (h : Runs E (.code f c (enterSlots args 0 .lf) m) (.st x t' m')) (hx : x = .normal ∨ x = .ret) (hr : resultsD E.P fn t' m' = some (v, m')) : Runs E (.call f args m) (.val v m') := by
  obtain ⟨k1, hk1⟩ := h.up
  refine ⟨(fun e => by cases e), k1 + 1, ?_⟩
  show callB E (run E k1) f args m = _
  unfold callB
  rw [hf]
  simp only [hb, he, Nat.ble_eq.mpr hl]
  rw [show run E k1 _ = _ from hk1 0]
  rcases hx with rfl | rfl <;> simp [leaveB, hr, Out.ofOR]

theorem Runs.region {E : Env} {f : FuncId} {id : Nat} {ops : Array Oper} {t : Slots} {m : DH} {r : Out} (h : Runs E (.ops f ops ops.toList t m) r) : Runs E (.code f (.region id ops false) t m) r := by
  obtain ⟨hn, k, hk⟩ := h
  exact ⟨hn, k + 1, hk⟩

theorem Runs.done {E : Env} {f : FuncId} {all : Array Oper} {t : Slots} {m : DH} : Runs E (.ops f all [] t m) (.st .normal t m) := ⟨(fun e => by cases e), 1, rfl⟩

theorem Runs.op {E : Env} {f : FuncId} {all : Array Oper} {o : Oper} {rest : List Oper} {t : Slots} {m m' : DH} {v : DV} {r : Out} (hw : wantedD all o t = some true) (hu : userCall o.op = none) (ho : opD E.P o.op t m = some (v, m'))
    (h : Runs E (.ops f all rest (put t o.dst v) m') r) : Runs E (.ops f all (o :: rest) t m) r := by
  obtain ⟨hn, k, hk⟩ := h
  refine ⟨hn, k + 1, ?_⟩
  show opsB E (run E k) f all (o :: rest) t m = r
  simp only [opsB, hw, oneB, hu, ho, Out.ofOR, opsGo]
  exact hk

theorem Runs.opCall {E : Env} {f g : FuncId} {all : Array Oper} {o : Oper} {c : Call} {args : List DV} {rest : List Oper} {t : Slots} {m m' : DH} {v : DV} {r : Out} (hw : wantedD all o t = some true) (hu : userCall o.op = some c) (ht : targetD c t = some (g, args))
    (hc : Runs E (.call g args m) (.val v m')) (h : Runs E (.ops f all rest (put t o.dst v) m') r) : Runs E (.ops f all (o :: rest) t m) r := by
  obtain ⟨k1, hk1⟩ := hc.up
  obtain ⟨k2, hk2⟩ := h.up
  refine ⟨h.1, k1 + k2 + 1, ?_⟩
  show opsB E (run E (k1 + k2)) f all (o :: rest) t m = r
  simp only [opsB, hw, oneB, hu, ht, hk1 k2, opsGo]
  rw [Nat.add_comm]; exact hk2 k1
end Go.Det
