/-
  Any operation that is no call of a function.
-/
import Derived.Test.YthbnlmmidanaiaaGreatDetAppend
set_option linter.unusedVariables false
set_option linter.unusedSimpArgs false
set_option linter.unusedSectionVars false
namespace Go.Det

section
variable {P : Program} {o : Oper} {a : Act} {ρ : Nm} {N : Nat → Prop} {m : DH} {w : World} {t : Slots}

theorem done_delete (G : MemG ρ N w m) (S : SR ρ N w t a.tmps) {c : Call} (ho : o.op = .call c) (hc : c.callee = .builtin .delete) {T : TypeId} (hT : c.argTypes[0]? = some T) {x k : DV} (hx : evs t c.args.toList = [x, k]) (hR : ∀ b, x = .mp b → Row ρ N w m b) {m1 : DH}
    (hm : deleteD P T x k m = some m1) : ∃ b, x = .mp b ∧ Done P o a ρ N m w [b] (.tup []) m1 := by
  obtain ⟨xv, kv, hv, hxr, hk⟩ := args_two S hx
  obtain ⟨ccs, hccs⟩ := exec_builtin (P := P) (w := w) (a := a) ho hc
  unfold deleteD at hm
  split at hm
  · rename_i kt et hu
    split at hm
    · rename_i b
      refine ⟨b, rfl, ?_⟩
      split at hm
      · cases hm
      · rename_i hko
        have KF := key_facts hko hk
        split at hm
        · rename_i es c' hb
          simp only [VR] at hxr
          obtain ⟨g, hg, hxv⟩ := hxr
          obtain ⟨xs, h3, h4⟩ := hR b rfl g _ hg hb
          split at hm
          · rename_i j u hf
            injection hm with hm; subst hm
            obtain ⟨y, hy1, hy2⟩ := KF.find h4 hf
            cases y with
            | none => exact hy2.elim
            | some p =>
              obtain ⟨j', u'⟩ := p
              simp only [FindR] at hy2
              obtain ⟨rfl, _⟩ := hy2
              have hfin : (execOp a.eval o).run P w = .ok (.value (.tuple #[])) (World.put w g (.map (xs.eraseIdxIfInBounds j) c')) := by
                rw [hccs, hv]
                simp only [builtin, Sem.run_bind, Builtin.delete_, hT]
                simp [under_of hu, hxv, run_getObj_of h3, KF.check, hy1, run_setMap h3]
              refine done_set G hg hb rfl (put_isSet h3 (by simp)) hfin fun L => ⟨⟨_, put_same h3, ?_⟩, .inl ⟨_, rfl, by simp only [VR]; exact ⟨[], rfl, VRL.nil⟩⟩⟩
              rw [Array.toList_eraseIdxIfInBounds]
              exact EntR.erase j (EntR.later L h4)
          · rename_i hf
            injection hm with hm; subst hm
            obtain ⟨y, hy1, hy2⟩ := KF.find h4 hf
            cases y with
            | some _ => exact hy2.elim
            | none =>
              have hfin : (execOp a.eval o).run P w = .ok (.value (.tuple #[])) (World.put w g (.map xs c')) := by
                rw [hccs, hv]
                simp only [builtin, Sem.run_bind, Builtin.delete_, hT]
                simp [under_of hu, hxv, run_getObj_of h3, KF.check, hy1, run_setMap h3]
              exact done_set G hg hb rfl (put_isSet h3 (by simp)) hfin fun L => ⟨⟨_, put_same h3, EntR.later L h4⟩, .inl ⟨_, rfl, by simp only [VR]; exact ⟨[], rfl, VRL.nil⟩⟩⟩
          · cases hm
        · cases hm
    · cases hm
  · cases hm

theorem done_op (G : MemG ρ N w m) (S : SR ρ N w t a.tmps) (hR : ∀ b, b ∈ rdD o.op t m → Row ρ N w m b) {v : DV} {m' : DH} (h : opD P o.op t m = some (v, m')) :
    ∃ wr, (∀ b, b ∈ wr → b ∈ wrD o.op t) ∧ Done P o a ρ N m w wr v m' := by
  have pure0 : Done P o a ρ N m w [] v m' → ∃ wr, (∀ b, b ∈ wr → b ∈ wrD o.op t) ∧ Done P o a ρ N m w wr v m' := fun h => ⟨[], fun b hb => by simp at hb, h⟩
  cases ho : o.op with
  | move x => rw [ho] at h; simp only [opD] at h; injection h with h; injection h with h1 h2; subst h1 h2; exact ⟨[], by simp, done_move G S ho⟩
  | assign x => rw [ho] at h; simp only [opD] at h; injection h with h; injection h with h1 h2; subst h1 h2; exact ⟨[], by simp, done_assign G S ho⟩
  | pick c x y => rw [ho] at h; exact ⟨[], by simp, done_pick G S ho h⟩
  | alloc e => rw [ho] at h; obtain ⟨d, rfl, hd⟩ := new_alloc ho h; exact ⟨[], by simp, done_new G hd⟩
  | box e x => rw [ho] at h; obtain ⟨d, rfl, hd⟩ := new_box S ho h; exact ⟨[], by simp, done_new G hd⟩
  | build T parts => rw [ho] at h; exact ⟨[], by simp, done_build G S ho h⟩
  | buildSlice T len parts => rw [ho] at h; obtain ⟨d, rfl, hd⟩ := new_buildSlice S ho h; exact ⟨[], by simp, done_new G hd⟩
  | load T x =>
    rw [ho] at h hR
    exact ⟨[], by simp, done_load G S (fun b off e => hR b (by simp [rdD, e, names])) ho h⟩
  | store T x y =>
    rw [ho] at h hR
    obtain ⟨b, off, e, hd⟩ := done_store G S (fun b off e => hR b (by simp [rdD, e, names])) ho h
    exact ⟨[b], by simp [wrD, e, names], hd⟩
  | nilCheck x => rw [ho] at h; exact ⟨[], by simp, done_nilCheck G S ho h⟩
  | binOp op T x y T' => rw [ho] at h; exact ⟨[], by simp, done_binOp G S ho h⟩
  | unOp op T x => rw [ho] at h; exact ⟨[], by simp, done_unOp G S ho h⟩
  | convert src dst x =>
    rw [ho] at h hR
    exact ⟨[], by simp, done_conv G S ho (fun b off len cap ex sz e => hR b (by simp [rdD, e, names])) h⟩
  | makeFunc fn first captured => rw [ho] at h; exact ⟨[], by simp, done_makeFunc G S ho h⟩
  | makeMap T r =>
    cases r with
    | none => rw [ho] at h; obtain ⟨d, rfl, hd⟩ := new_makeMap ho h; exact ⟨[], by simp, done_new G hd⟩
    | some r => rw [ho] at h; simp [opD] at h
  | makeSlice T l c => rw [ho] at h; obtain ⟨d, rfl, hd⟩ := new_makeSlice S ho h; exact ⟨[], by simp, done_new G hd⟩
  | slice T x lo hi mx => rw [ho] at h; exact ⟨[], by simp, done_slice G S ho h⟩
  | fieldAddr T x f => rw [ho] at h; exact ⟨[], by simp, done_fieldAddr G S ho h⟩
  | field T x f => rw [ho] at h; exact ⟨[], by simp, done_field G S ho h⟩
  | indexAddr T x i => rw [ho] at h; exact ⟨[], by simp, done_indexAddr G S ho h⟩
  | index T x i => rw [ho] at h; exact ⟨[], by simp, done_index G S ho h⟩
  | lookup T x i ok =>
    rw [ho] at h hR
    exact ⟨[], by simp, done_lookup G S ho (fun b e => hR b (by simp [rdD, e, names])) h⟩
  | mapUpdate T x k v =>
    rw [ho] at h hR
    obtain ⟨b, e, hd⟩ := done_update G S ho (fun b e => hR b (by simp [rdD, e, names])) h
    exact ⟨[b], by simp [wrD, e, names], hd⟩
  | range T x =>
    rw [ho] at h hR
    exact ⟨[], by simp, done_range G S ho (fun b e => hR b (by simp [rdD, e, names])) h⟩
  | next x s =>
    rw [ho] at h hR
    obtain ⟨r, e, hd⟩ := done_next G S ho (fun r e => ⟨hR r (by simp [rdD, e, names]), fun b since seen last hg => hR b (by simp [rdD, e, names, iterOf, hg])⟩) h
    rcases hd with hd | hd
    · exact ⟨[], by simp, hd⟩
    · exact ⟨[r], by simp [wrD, e, names], hd⟩
  | entry x =>
    rw [ho] at h hR
    exact ⟨[], by simp, done_entry G S ho (fun r e => ⟨hR r (by simp [rdD, e, names]), fun b since seen last hg => hR b (by simp [rdD, e, names, iterOf, hg])⟩) h⟩
  | extract x i => rw [ho] at h; exact ⟨[], by simp, done_extract G S ho h⟩
  | call c =>
    rw [ho] at h hR
    simp only [opD] at h
    split at h
    case h_2 => cases h
    rename_i b hc
    unfold builtinD at h
    split at h
    · split at h
      · rename_i x hx
        exact ⟨[], by simp, done_len G S ho hc hx (fun b e => hR b (by simp [rdD, hc, hx, mapNames, e])) h⟩
      · cases h
    · split at h
      · rename_i s x hx
        rcases done_append G S ho hc hx (fun b off len cap ex sz e => hR b (by simp [rdD, hc, hx, namesL, e, names])) (fun b off len cap ex sz e => hR b (by simp [rdD, hc, hx, namesL, e, names])) h with hd | ⟨b, off, len, cap, ex, sz, e, hd⟩
        · exact ⟨[], by simp, hd⟩
        · exact ⟨[b], by simp [wrD, hc, hx, headNames, e, names], hd⟩
      · cases h
    · split at h
      · rename_i x y hx
        exact ⟨[], by simp, done_minmax G S true ho hc hx h⟩
      · cases h
    · split at h
      · rename_i x y hx
        exact ⟨[], by simp, done_minmax G S false ho hc hx h⟩
      · cases h
    · split at h
      · rename_i x k hx
        split at h
        · rename_i T hT
          split at h
          · rename_i m1 hm
            injection h with h; injection h with h1 h2; subst h1 h2
            obtain ⟨b, e, hd⟩ := done_delete G S ho hc hT hx (fun b e => hR b (by simp [rdD, hc, hx, namesL, e, names])) hm
            exact ⟨[b], by simp [wrD, hc, hx, headNames, e, names], hd⟩
          · cases h
        · cases h
      · cases h
    · cases h
  | _ => rw [ho] at h; simp [opD] at h
end
end Go.Det
