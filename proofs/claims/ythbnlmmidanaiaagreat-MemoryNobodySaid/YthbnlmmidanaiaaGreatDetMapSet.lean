/-
  Maps that are written, gone through; lengths; least and greatest.
-/
import Derived.Test.YthbnlmmidanaiaaGreatDetMap
set_option linter.unusedVariables false
set_option linter.unusedSimpArgs false
set_option linter.unusedSectionVars false
namespace Go.Det

section
variable {P : Program} {o : Oper} {a : Act} {ρ : Nm} {N : Nat → Prop} {m : DH} {w : World} {t : Slots}

def World.put (w : World) (g : Nat) (ob : Obj) : World := { w with heap := w.heap.setIfInBounds g ob }

theorem put_same {g : Nat} {ob old : Obj} (h : w.heap[g]? = some old) : (World.put w g ob).heap[g]? = some ob := by
  have hlt : g < w.heap.size := (Array.getElem?_eq_some_iff.1 h).1
  simp [World.put, hlt]
theorem put_isSet {g : Nat} {ob old : Obj} (h : w.heap[g]? = some old) (hn : ∀ arr e fr, old ≠ .cells arr e fr) : IsSet w (World.put w g ob) g :=
  ⟨by simp [World.put], fun k hk => by simp [World.put, Ne.symm hk], fun arr e fr h' => absurd (by rw [h] at h'; injection h') (hn arr e fr), rfl, rfl, rfl⟩
theorem run_setMap {g : Nat} {ob : Obj} {xs : Array MapEntry} {c : Nat} (h : w.heap[g]? = some (.map xs c)) : (setObj g ob).run P w = .ok () (World.put w g ob) := by
  simp [setObj, Sem.run, h, World.put]
theorem run_setIter {g : Nat} {ob : Obj} {mo : Option Nat} {since last : Nat} {seen : Array Nat} (h : w.heap[g]? = some (.mapIter mo since seen last)) : (setObj g ob).run P w = .ok () (World.put w g ob) := by
  simp [setObj, Sem.run, h, World.put]

theorem EntR.append : ∀ {es es' : List (DV × DV × Nat)} {xs xs' : List MapEntry}, EntR ρ N w es xs → EntR ρ N w es' xs' → EntR ρ N w (es ++ es') (xs ++ xs')
  | [], es', xs, xs', h, h' => by simp only [EntR] at h; subst h; simpa using h'
  | e :: es, es', xs, xs', h, h' => by
    obtain ⟨x, ys, rfl, h1, h2, h3, h4⟩ := h
    exact ⟨x, _, rfl, h1, h2, h3, EntR.append h4 h'⟩

theorem EntR.setEnt {k v : DV} {kv vv : Value} (hk : VR ρ N w k kv) (hv : VR ρ N w v vv) : ∀ {es : List (DV × DV × Nat)} {xs : List MapEntry} (i : Nat), EntR ρ N w es xs →
    EntR ρ N w (setEnt k v es i) (xs.modify i fun e => { e with key := kv, val := vv })
  | [], xs, i, h => by simp only [EntR] at h; subst h; simp [Det.setEnt, EntR]
  | e :: es, xs, 0, h => by
    obtain ⟨x, ys, rfl, h1, h2, h3, h4⟩ := h
    exact ⟨_, ys, rfl, hk, hv, h3, h4⟩
  | e :: es, xs, i + 1, h => by
    obtain ⟨x, ys, rfl, h1, h2, h3, h4⟩ := h
    exact ⟨x, _, rfl, h1, h2, h3, EntR.setEnt hk hv i h4⟩

theorem EntR.erase : ∀ {es : List (DV × DV × Nat)} {xs : List MapEntry} (i : Nat), EntR ρ N w es xs → EntR ρ N w (es.eraseIdx i) (xs.eraseIdx i)
  | [], xs, i, h => by simp only [EntR] at h; subst h; simp [EntR]
  | e :: es, xs, 0, h => by
    obtain ⟨x, ys, rfl, h1, h2, h3, h4⟩ := h
    exact h4
  | e :: es, xs, i + 1, h => by
    obtain ⟨x, ys, rfl, h1, h2, h3, h4⟩ := h
    exact ⟨x, _, rfl, h1, h2, h3, EntR.erase i h4⟩

theorem done_update (G : MemG ρ N w m) (S : SR ρ N w t a.tmps) {T : TypeId} {x k v : Operand} (ho : o.op = .mapUpdate T x k v) (hR : ∀ b, ev t x = .mp b → Row ρ N w m b) {d : DV} {m' : DH}
    (h : okM (updateD P T (ev t x) (ev t k) (ev t v) m) = some (d, m')) : ∃ b, ev t x = .mp b ∧ Done P o a ρ N m w [b] d m' := by
  unfold okM at h
  split at h
  case h_2 => cases h
  rename_i m1 hm
  injection h with h; injection h with h1 h2; subst h1 h2
  have hx := ev_spec S x
  have hk := ev_spec S k
  have hv := ev_spec S v
  unfold updateD at hm
  split at hm
  · rename_i kt et hu
    split at hm
    · rename_i b e
      refine ⟨b, e, ?_⟩
      split at hm
      · cases hm
      · rename_i hko
        have KF := key_facts hko hk
        split at hm
        · rename_i es c hb
          rw [e] at hx; simp only [VR] at hx
          obtain ⟨g, hg, hxv⟩ := hx
          obtain ⟨xs, h3, h4⟩ := hR b e g _ hg hb
          split at hm
          · rename_i j u hf
            injection hm with hm; subst hm
            obtain ⟨y, hy1, hy2⟩ := KF.find h4 hf
            cases y with
            | none => exact hy2.elim
            | some p =>
              obtain ⟨j', u'⟩ := p
              simp only [FindR] at hy2
              obtain ⟨rfl, h5, _, e', x', h6, h7, h8, h9, h10, h11⟩ := hy2
              rw [Nat.sub_zero] at h7
              have hsb := KF.bits
              have hrun : (Instr.mapUpdate T (a.eval x) (a.eval k) (a.eval v)).run P w = .ok () (World.put w g (.map (xs.modify j fun e => { e with key := a.eval k, val := a.eval v }) c)) := by
                unfold Instr.mapUpdate
                have hxj : xs[j]? = some x' := by rw [← Array.getElem?_toList]; exact h7
                have hkts : (Instr.keyThatStays (((xs[j]?).map (·.key)).getD (a.eval k)) (a.eval k)).run P w = .ok (a.eval k) w := by
                  rw [hxj]
                  simp only [Option.map_some, Option.getD_some, ← h11]
                  unfold Instr.keyThatStays
                  rw [hsb]
                  simp
                simp only [Sem.run_bind, under_of hu, Result.andThen_ok, hxv, run_getObj_of h3, KF.check, hy1, hkts, run_setMap h3]
              have hfin : (execOp a.eval o).run P w = .ok .skip (World.put w g (.map (xs.modify j fun e => { e with key := a.eval k, val := a.eval v }) c)) := by
                unfold execOp
                simp only [ho, Sem.run_bind, hrun, Result.andThen_ok, Sem.run_pure]
              refine done_set G hg hb rfl (put_isSet h3 (by simp)) hfin fun L => ⟨⟨_, put_same h3, ?_⟩, .inr ⟨rfl, rfl⟩⟩
              · rw [Array.toList_modify]
                exact EntR.setEnt (VR.later L _ _ hk) (VR.later L _ _ hv) j (EntR.later L h4)
          · rename_i hf
            injection hm with hm; subst hm
            obtain ⟨y, hy1, hy2⟩ := KF.find h4 hf
            cases y with
            | some _ => exact hy2.elim
            | none =>
              have hrun : (Instr.mapUpdate T (a.eval x) (a.eval k) (a.eval v)).run P w = .ok () (World.put w g (.map (xs.push { key := a.eval k, val := a.eval v, born := c }) (c + 1))) := by
                unfold Instr.mapUpdate
                simp only [Sem.run_bind, under_of hu, Result.andThen_ok, hxv, run_getObj_of h3, KF.check, hy1, run_setMap h3]
              have hfin : (execOp a.eval o).run P w = .ok .skip (World.put w g (.map (xs.push { key := a.eval k, val := a.eval v, born := c }) (c + 1))) := by
                unfold execOp
                simp only [ho, Sem.run_bind, hrun, Result.andThen_ok, Sem.run_pure]
              refine done_set G hg hb rfl (put_isSet h3 (by simp)) hfin fun L => ⟨⟨_, put_same h3, ?_⟩, .inr ⟨rfl, rfl⟩⟩
              · rw [Array.toList_push]
                exact EntR.append (EntR.later L h4) ⟨_, [], rfl, VR.later L _ _ hk, VR.later L _ _ hv, rfl, rfl⟩
          · cases hm
        · cases hm
    · cases hm
  · cases hm

/-! ### Going through -/
theorem range_nil {T kt et : TypeId} (hu : P.underlying T = some (.map kt et)) : (Instr.range T (.map none)).run P w = .ok (.pointer (some ⟨w.heap.size, 0, none⟩)) (w.alloc (.mapIter none 0 #[] 0)) := by
  simp [Instr.range, under_of hu]
theorem range_map {T kt et : TypeId} (hu : P.underlying T = some (.map kt et)) {g c : Nat} {xs : Array MapEntry} (h : w.heap[g]? = some (.map xs c)) :
    (Instr.range T (.map (some g))).run P w = .ok (.pointer (some ⟨w.heap.size, 0, none⟩)) (w.alloc (.mapIter (some g) c #[] c)) := by
  simp [Instr.range, under_of hu, run_getObj_of h]
theorem done_range (G : MemG ρ N w m) (S : SR ρ N w t a.tmps) {T : TypeId} {x : Operand} (ho : o.op = .range T x) (hR : ∀ b, ev t x = .mp b → Row ρ N w m b) {d : DV} {m' : DH}
    (h : rangeD P T (ev t x) m = some (d, m')) : Done P o a ρ N m w [] d m' := by
  have hx := ev_spec S x
  unfold rangeD at h
  split at h
  · rename_i kt et hu
    split at h
    · rename_i e
      injection h with h; injection h with h1 h2; subst h1 h2
      rw [e] at hx; simp only [VR] at hx
      refine done_new G (d := .iter none 0 [] 0) ⟨_, .pointer (some ⟨w.heap.size, 0, none⟩), _, IsNew.alloc w (.mapIter none 0 #[] 0), ?_, fun ρ' L hb => ⟨⟨none, rfl, (IsNew.alloc w _).last⟩, ?_⟩⟩
      · unfold execOp
        simp only [ho, hx, range_nil hu, Sem.run_bind, Result.andThen_ok, Sem.run_pure]
      · simp only [VR]; exact ⟨_, hb, rfl⟩
    · rename_i b e
      rw [e] at hx; simp only [VR] at hx
      obtain ⟨g, hg, hxv⟩ := hx
      split at h
      · rename_i es c hb
        injection h with h; injection h with h1 h2; subst h1 h2
        obtain ⟨xs, h3, h4⟩ := hR b e g _ hg hb
        refine done_new G (d := .iter (some b) c [] c) ⟨_, .pointer (some ⟨w.heap.size, 0, none⟩), _, IsNew.alloc w (.mapIter (some g) c #[] c), ?_, fun ρ' L hbb => ⟨⟨some g, ⟨g, L.ext _ _ hg, rfl⟩, (IsNew.alloc w _).last⟩, ?_⟩⟩
        · unfold execOp
          simp only [ho, hxv, range_map hu h3, Sem.run_bind, Result.andThen_ok, Sem.run_pure]
        · simp only [VR]; exact ⟨_, hbb, rfl⟩
      · cases h
    · cases h
  · cases h

theorem left_spec (seen : List Nat) : ∀ {es : List (DV × DV × Nat)} {xs : List MapEntry}, EntR ρ N w es xs → EntR ρ N w (leftD seen es) (xs.filter fun e => !seen.contains e.born)
  | [], xs, h => by simp only [EntR] at h; subst h; simp [leftD, EntR]
  | e :: es, xs, h => by
    obtain ⟨x, ys, rfl, h1, h2, h3, h4⟩ := h
    simp only [leftD, List.filter_cons, ← h3]
    split
    · rename_i hc; rw [hc]; exact left_spec seen h4
    · rename_i hc; rw [hc]; exact ⟨x, _, rfl, h1, h2, h3, left_spec seen h4⟩
theorem newer_spec (last : Nat) : ∀ {es : List (DV × DV × Nat)} {xs : List MapEntry}, EntR ρ N w es xs → newerD last es = xs.all fun e => decide (e.born ≥ last)
  | [], xs, h => by simp only [EntR] at h; subst h; rfl
  | e :: es, xs, h => by
    obtain ⟨x, ys, rfl, h1, h2, h3, h4⟩ := h
    simp only [newerD, List.all_cons, ← h3]
    have : decide (e.2.2 ≥ last) = Nat.ble last e.2.2 := by
      rw [Bool.eq_iff_iff, decide_eq_true_iff, Nat.ble_eq]
    rw [this]
    split
    · rename_i hc; rw [hc, newer_spec last h4]; simp
    · rename_i hc; rw [hc]; simp

theorem done_next (G : MemG ρ N w m) (S : SR ρ N w t a.tmps) {x : Operand} {s : Bool} (ho : o.op = .next x s) (hR : ∀ r, ev t x = .ptr r 0 → Row ρ N w m r ∧ ∀ b since seen last, m.h.get r = some (.iter (some b) since seen last) → Row ρ N w m b) {d : DV} {m' : DH}
    (h : nextD (ev t x) s m = some (d, m')) : ∃ r, ev t x = .ptr r 0 ∧ (Done P o a ρ N m w [] d m' ∨ Done P o a ρ N m w [r] d m') := by
  have hx := ev_spec S x
  unfold nextD at h
  cases s
  case true => cases h
  simp only at h
  split at h
  · rename_i r e
    refine ⟨r, e, ?_⟩
    obtain ⟨hR1, hR2⟩ := hR r e
    rw [e] at hx; simp only [VR] at hx
    obtain ⟨g, hg, hxv⟩ := hx
    split at h
    · rename_i since seen last hr
      injection h with h; injection h with h1 h2; subst h1 h2
      obtain ⟨mo, h3, h4⟩ := hR1 g _ hg hr
      simp only at h3
      subst h3
      left
      refine done_pure G (x := .tuple #[.bool false]) ?_ (by simp only [VR]; exact ⟨_, rfl, VRL.cons (by simp only [VR]) VRL.nil⟩)
      unfold execOp
      simp only [ho, hxv, Instr.next, Sem.run_bind, run_getIter_of h4, Result.andThen_ok, Sem.run_pure]
    · rename_i b since seen last hr
      obtain ⟨mo, ⟨gm, hgm, h3⟩, h4⟩ := hR1 g _ hg hr
      subst h3
      split at h
      · rename_i es c hb
        obtain ⟨xs, h5, h6⟩ := hR2 b since seen last hr gm _ hgm hb
        split at h
        · cases h
        · rename_i htest
          have htest' : (!seen.toArray.isEmpty && !xs.isEmpty && xs.all fun e => decide (e.born ≥ last)) = false := by
            rw [← htest]
            have e1 : seen.toArray.isEmpty = seen.isEmpty := by cases seen <;> rfl
            have e2 : xs.isEmpty = es.isEmpty := by
              have := EntR.length h6
              cases es with
              | nil =>
                have : xs = #[] := Array.toList_eq_nil_iff.1 (List.eq_nil_of_length_eq_zero this.symm)
                subst this; rfl
              | cons e' es' =>
                have : xs ≠ #[] := by intro h; subst h; simp at this
                simpa using this
            rw [e1, e2, newer_spec last h6, ← Array.all_toList]
          have hleft : EntR ρ N w (leftD seen es) ((xs.filter fun e => !seen.toArray.contains e.born)).toList := by
            rw [Array.toList_filter]
            simpa using left_spec seen h6
          have hstep : (Instr.next (.pointer (some ⟨g, 0, none⟩)) false o.type).run P w =
              (match ((if ((xs.filter fun e => !seen.toArray.contains e.born).filter (·.born < since)).isEmpty then #[none] else #[]) ++ (((xs.filter fun e => !seen.toArray.contains e.born).filter (·.born < since)) ++ ((xs.filter fun e => !seen.toArray.contains e.born).filter (·.born ≥ since))).map some : Array (Option MapEntry)) with
              | cand => (do
                match cand[← choose (.mapNext cand.size)]? with
                | some (some e) =>
                  setObj g (.mapIter (some gm) since (seen.toArray.push e.born) c)
                  pure (.tuple #[.bool true, e.key, e.val])
                | some none => pure (.tuple #[.bool false])
                | none => stuck "Next: no such candidate" : Sem Value).run P w) := by
            simp only [Instr.next, Sem.run_bind, run_getIter_of h4, run_getObj_of h5, Result.andThen_ok, htest', Bool.false_eq_true, if_false, Sem.run_pure]
            rfl
          split at h
          · rename_i hl
            injection h with h; injection h with h1 h2; subst h1 h2
            rw [hl] at hleft
            simp only [EntR] at hleft
            have hnil : (xs.filter fun e => !seen.toArray.contains e.born) = #[] := Array.toList_eq_nil_iff.1 hleft
            left
            refine done_pure G (x := .tuple #[.bool false]) ?_ (by simp only [VR]; exact ⟨_, rfl, VRL.cons (by simp only [VR]) VRL.nil⟩)
            unfold execOp
            rw [hnil] at hstep
            simp only [ho, hxv, hstep, Sem.run_bind]
            simp [Question.forced]
          · rename_i e1 hl
            split at h
            · rename_i hlt
              rw [Nat.blt_eq] at hlt
              injection h with h; injection h with h1 h2; subst h1 h2
              rw [hl] at hleft
              obtain ⟨x1, xs1, he, h7, h8, h9, h10⟩ := hleft
              simp only [EntR] at h10
              subst h10
              have hone : (xs.filter fun e => !seen.toArray.contains e.born) = #[x1] := Array.ext' (by simpa using he)
              right
              have hb1 : x1.born < since := by omega
              have hb2 : ¬ x1.born ≥ since := by omega
              have hfin : (execOp a.eval o).run P w = .ok (.value (.tuple #[.bool true, x1.key, x1.val])) (World.put w g (.mapIter (some gm) since (seen.toArray.push x1.born) c)) := by
                unfold execOp
                rw [hone] at hstep
                simp only [ho, hxv, hstep, Sem.run_bind]
                simp [Question.forced, hb1, run_setIter h4]
              refine done_set G hg hr rfl (put_isSet h4 (by simp)) hfin fun L => ⟨⟨some gm, ⟨gm, hgm, rfl⟩, ?_⟩, .inl ⟨_, rfl, ?_⟩⟩
              · rw [put_same h4]
                simp [h9]
              · simp only [VR]
                exact ⟨_, rfl, VRL.cons (by simp only [VR]) (VRL.cons (VR.later L _ _ h7) (VRL.cons (VR.later L _ _ h8) VRL.nil))⟩
            · cases h
          · cases h
      · cases h
    · cases h
  · cases h

theorem born_spec (s : Nat) : ∀ {es : List (DV × DV × Nat)} {xs : List MapEntry} {k v : DV}, EntR ρ N w es xs → findBorn s es = some (k, v) → ∃ x, xs.find? (·.born == s) = some x ∧ VR ρ N w k x.key ∧ VR ρ N w v x.val
  | [], xs, k, v, h, hf => by simp [findBorn] at hf
  | e :: es, xs, k, v, h, hf => by
    obtain ⟨x, ys, rfl, h1, h2, h3, h4⟩ := h
    simp only [findBorn] at hf
    split at hf
    · rename_i hb
      rw [Nat.beq_eq] at hb
      injection hf with hf; injection hf with hf1 hf2; subst hf1 hf2
      exact ⟨x, by simp [← h3, hb], h1, h2⟩
    · rename_i hb
      have hne : ¬ e.2.2 = s := by intro e'; rw [← Nat.beq_eq, hb] at e'; cases e'
      obtain ⟨y, h5, h6⟩ := born_spec s h4 hf
      exact ⟨y, by simp [← h3, hne, h5], h6⟩
theorem last_spec : ∀ {l : List Nat} {s : Nat}, lastD l = some s → l.toArray.back? = some s
  | [], s, h => by simp [lastD] at h
  | [x], s, h => by simp only [lastD] at h; injection h with h; subst h; rfl
  | x :: y :: ys, s, h => by
    simp only [lastD] at h
    have := last_spec h
    simp only [List.back?_toArray] at this ⊢
    rw [List.getLast?_cons_cons]
    exact this

theorem done_entry (G : MemG ρ N w m) (S : SR ρ N w t a.tmps) {x : Operand} (ho : o.op = .entry x) (hR : ∀ r, ev t x = .ptr r 0 → Row ρ N w m r ∧ ∀ b since seen last, m.h.get r = some (.iter (some b) since seen last) → Row ρ N w m b) {d : DV} {m' : DH}
    (h : okV m (entryD (ev t x) m) = some (d, m')) : Done P o a ρ N m w [] d m' := by
  unfold okV at h
  split at h
  case h_2 => cases h
  rename_i d' hd
  injection h with h; injection h with h1 h2; subst h1 h2
  have hx := ev_spec S x
  unfold entryD at hd
  split at hd
  · rename_i r e
    obtain ⟨hR1, hR2⟩ := hR r e
    rw [e] at hx; simp only [VR] at hx
    obtain ⟨g, hg, hxv⟩ := hx
    split at hd
    · rename_i b since seen last hr
      obtain ⟨mo, ⟨gm, hgm, h3⟩, h4⟩ := hR1 g _ hg hr
      subst h3
      split at hd
      · rename_i es c hb
        obtain ⟨xs, h5, h6⟩ := hR2 b since seen last hr gm _ hgm hb
        split at hd
        · cases hd
        · rename_i hcl
          rw [Nat.beq_eq] at hcl
          subst hcl
          split at hd
          · rename_i s hs
            split at hd
            · rename_i k v hf
              injection hd with hd; subst hd
              obtain ⟨y, h7, h8, h9⟩ := born_spec s h6 hf
              rw [Array.find?_toList] at h7
              refine done_pure G (x := .tuple #[y.key, y.val]) ?_ (by simp only [VR]; exact ⟨_, rfl, VRL.cons h8 (VRL.cons h9 VRL.nil)⟩)
              unfold execOp
              simp only [ho, hxv, Instr.entry, Sem.run_bind, run_getIter_of h4, run_getObj_of h5, Result.andThen_ok, last_spec hs, bne_self_eq_false, Bool.false_eq_true, if_false, Sem.run_pure, h7]
            · cases hd
          · cases hd
      · cases hd
    · cases hd
  · cases hd

/-! ### Builtins -/
theorem exec_builtin {c : Call} {b : Builtin} (ho : o.op = .call c) (hc : c.callee = .builtin b) : ∃ cs, (execOp a.eval o).run P w = (builtin b c.argTypes o.type cs (c.args.map a.eval)).run P w := by
  refine ⟨c.args.map fun | .const _ => true | _ => false, ?_⟩
  unfold execOp
  simp only [ho, resolve, hc, Sem.run_bind, Sem.run_pure, Result.andThen_ok, invoke]
  rfl

theorem args_one {c : Call} {t : Slots} {x : DV} (S : SR ρ N w t a.tmps) (h : evs t c.args.toList = [x]) : ∃ v, c.args.map a.eval = #[v] ∧ VR ρ N w x v ∧ ∃ y, c.args = #[y] ∧ x = ev t y := by
  cases hc : c.args.toList with
  | nil => rw [hc] at h; simp [evs] at h
  | cons y ys =>
    cases ys with
    | nil =>
      rw [hc] at h
      simp only [evs, List.cons.injEq, and_true] at h
      have : c.args = #[y] := Array.ext' (by simpa using hc)
      exact ⟨a.eval y, by rw [this]; simp, by rw [← h]; exact ev_spec S y, y, this, h.symm⟩
    | cons z zs => rw [hc] at h; simp [evs] at h
theorem args_two {c : Call} {t : Slots} {x y : DV} (S : SR ρ N w t a.tmps) (h : evs t c.args.toList = [x, y]) : ∃ v u, c.args.map a.eval = #[v, u] ∧ VR ρ N w x v ∧ VR ρ N w y u := by
  cases hc : c.args.toList with
  | nil => rw [hc] at h; simp [evs] at h
  | cons p ps =>
    cases ps with
    | nil => rw [hc] at h; simp [evs] at h
    | cons q qs =>
      cases qs with
      | nil =>
        rw [hc] at h
        simp only [evs, List.cons.injEq, and_true] at h
        have : c.args = #[p, q] := Array.ext' (by simpa using hc)
        exact ⟨a.eval p, a.eval q, by rw [this]; simp, by rw [← h.1]; exact ev_spec S p, by rw [← h.2]; exact ev_spec S q⟩
      | cons r rs => rw [hc] at h; simp [evs] at h

theorem done_len (G : MemG ρ N w m) (S : SR ρ N w t a.tmps) {c : Call} (ho : o.op = .call c) (hc : c.callee = .builtin .len) {x : DV} (hx : evs t c.args.toList = [x]) (hR : ∀ b, x = .mp b → Row ρ N w m b) {d : DV} {m' : DH}
    (h : lenD P c.argTypes[0]? x m = some (d, m')) : Done P o a ρ N m w [] d m' := by
  obtain ⟨v, hv, hvr, _⟩ := args_one S hx
  have hexec : ∀ {n : Nat}, (Builtin.len_ c.argTypes o.type #[v]).run P w = .ok (goInt n) w → Done P o a ρ N m w [] (.int .i64 n) m := by
    intro n hn
    refine done_pure G (x := goInt n) ?_ (by simp only [VR, goInt])
    obtain ⟨cs, hcs⟩ := exec_builtin (P := P) (w := w) (a := a) ho hc
    rw [hcs, hv]
    simp only [builtin, Sem.run_bind, hn, Result.andThen_ok, Sem.run_pure]
  unfold lenD at h
  cases ht : c.argTypes[0]? with
  | none => rw [ht] at h; simp at h
  | some T =>
    rw [ht] at h
    simp only [Option.bind_some] at h
    split at h
    · rename_i hu
      split at h
      · injection h with h; injection h with h1 h2; subst h1 h2
        simp only [VR] at hvr
        exact hexec (by simp [Builtin.len_, ht, under_of hu, hvr])
      · cases h
    · rename_i e hu
      split at h
      · injection h with h; injection h with h1 h2; subst h1 h2
        simp only [VR] at hvr
        obtain ⟨g, off', cc, arr, e', fr, hg, hvr, _⟩ := hvr
        exact hexec (by simp [Builtin.len_, ht, under_of hu, hvr])
      · injection h with h; injection h with h1 h2; subst h1 h2
        simp only [VR] at hvr
        obtain ⟨ad, cc, hvr, _⟩ := hvr
        exact hexec (by simp [Builtin.len_, ht, under_of hu, hvr])
      · cases h
    · rename_i k e hu
      split at h
      · rename_i es hm
        injection h with h; injection h with h1 h2; subst h1 h2
        rcases mapOf_spec hvr hR (c := es.2) hm with ⟨hv', he⟩ | ⟨g, xs, hv', hg, he⟩
        · rw [he]
          exact hexec (by simp [Builtin.len_, ht, under_of hu, hv'])
        · have := EntR.length he
          refine hexec ?_
          rw [this]
          simp [Builtin.len_, ht, under_of hu, hv', run_getObj_of hg]
      · cases h
    · rename_i n e hu
      split at h
      · cases h
      · injection h with h; injection h with h1 h2; subst h1 h2
        exact hexec (by simp [Builtin.len_, ht, under_of hu])
    · cases h

theorem done_minmax (G : MemG ρ N w m) (S : SR ρ N w t a.tmps) {c : Call} (mx : Bool) (ho : o.op = .call c) (hc : c.callee = .builtin (if mx then .max else .min)) {x y : DV} (hx : evs t c.args.toList = [x, y]) {d : DV} {m' : DH}
    (h : minmaxD mx x y m = some (d, m')) : Done P o a ρ N m w [] d m' := by
  obtain ⟨v, u, hv, hvr, hur⟩ := args_two S hx
  unfold minmaxD at h
  split at h
  · rename_i k n k' n'
    split at h
    · rename_i hk
      subst hk
      injection h with h; injection h with h1 h2; subst h1 h2
      simp only [VR] at hvr hur
      subst hvr hur
      refine done_pure G (x := .int k (if (if mx then decide (n' > n) else decide (n' < n)) then n' else n)) ?_ (by simp only [VR])
      obtain ⟨cs, hcs⟩ := exec_builtin (P := P) (w := w) (a := a) ho hc
      rw [hcs, hv]
      cases mx <;> simp [builtin, Builtin.max_, Builtin.min_, Builtin.max2, Builtin.min2]
    · cases h
  · cases h
end
end Go.Det
