/-
  Structs, arrays and slices that are built; slices that are made.
-/
import Derived.Test.YthbnlmmidanaiaaGreatDetNew
set_option linter.unusedVariables false
set_option linter.unusedSimpArgs false
set_option linter.unusedSectionVars false
namespace Go.Det

section
variable {ρ : Nm} {N : Nat → Prop} {w : World} {P : Program}

def PartsR (ρ : Nm) (N : Nat → Prop) (w : World) : List (Nat × DV) → List (Nat × Value) → Prop
  | [], ps => ps = []
  | d :: ds, ps => ∃ p ps', ps = p :: ps' ∧ d.1 = p.1 ∧ VR ρ N w d.2 p.2 ∧ PartsR ρ N w ds ps'

theorem mapEv_spec {t : Slots} {a : Act} (h : SR ρ N w t a.tmps) : ∀ (ps : List (Nat × Operand)), PartsR ρ N w (mapEv t ps) (ps.map fun p => (p.1, a.eval p.2))
  | [] => rfl
  | p :: ps => ⟨_, _, rfl, rfl, ev_spec h p.2, mapEv_spec h ps⟩

theorem setArr_spec (off : Nat) : ∀ {us : List DV} {xs : List Value}, VRL ρ N w us xs → ∀ (k : Nat) {ds : List DV} {arr : Array Value}, VRL ρ N w ds arr.toList →
    VRL ρ N w (setAt ds (off + k) us) ((xs.zipIdx k).foldl (fun cs (x : Value × Nat) => cs.setIfInBounds (off + x.2) x.1) arr).toList
  | [], xs, h, k, ds, arr, hd => by
    simp only [VRL] at h; subst h
    simpa [setAt] using hd
  | u :: us, [], h, k, ds, arr, hd => by simp [VRL] at h
  | u :: us, x :: xs, h, k, ds, arr, hd => by
    simp only [setAt, List.zipIdx_cons, List.foldl_cons]
    rw [Nat.add_assoc]
    exact setArr_spec off h.uncons.2 (k + 1) (by rw [Array.toList_setIfInBounds]; exact hd.set _ h.uncons.1)

theorem fill_spec {pl : Nat → Option (Nat × Nat)} {pl' : Nat → Option (Nat × Nat)} (hp : ∀ i, pl i = pl' i) : ∀ {ps : List (Nat × DV)} {qs : List (Nat × Value)}, PartsR ρ N w ps qs → ∀ {cs cs' : List DV} {arr : Array Value}, VRL ρ N w cs arr.toList →
    fillD pl cs ps = some cs' → ∃ arr', Instr.fill pl' arr qs = some arr' ∧ VRL ρ N w cs' arr'.toList
  | [], qs, h, cs, cs', arr, hv, hf => by
    simp only [PartsR] at h; subst h
    simp only [fillD] at hf
    injection hf with hf; subst hf
    exact ⟨arr, rfl, hv⟩
  | (i, d) :: ps, qs, h, cs, cs', arr, hv, hf => by
    simp only [PartsR] at h
    obtain ⟨⟨j, x⟩, qs', rfl, hij, hx, hr⟩ := h
    simp only at hij hx
    subst hij
    simp only [fillD] at hf
    split at hf
    · cases hf
    · rename_i off size hpl
      split at hf
      · rename_i hb
        simp only [Bool.and_eq_true, Nat.beq_eq, Nat.ble_eq] at hb
        have hc := cells_of hx hb.2
        have hl := hc.length
        have hl2 := hv.length
        simp only [Array.length_toList] at hl hl2
        obtain ⟨arr', h1, h2⟩ := fill_spec hp hr (setArr_spec off hc 0 hv) hf
        refine ⟨arr', ?_, h2⟩
        have h3 : ¬ (x.cells.size ≠ size ∨ off + x.cells.size > arr.size) := by omega
        simp only [Instr.fill, ← hp, hpl]
        rw [if_neg (by simpa using h3)]
        rw [← h1]
        congr 1
        rw [← Array.foldl_toList, Array.toList_zipIdx]
      · cases hf

theorem places_spec : ∀ {fs : List Field} {l : List (Nat × Nat)}, placesOf P fs = some l → fs.mapM (fun f => (P.info? f.type).map fun i => (f.offset, i.size)) = some l
  | [], l, h => by simp [placesOf] at h; subst h; rfl
  | f :: fs, l, h => by
    simp only [placesOf] at h
    split at h
    · rename_i k l' hk hl
      injection h with h; subst h
      have ih := places_spec hl
      simp only [sizeB] at hk
      obtain ⟨i, hi, rfl⟩ := Option.map_eq_some_iff.1 hk
      simp [List.mapM_cons, hi, ih]
    · cases h
end

section
variable {P : Program} {o : Oper} {a : Act} {ρ : Nm} {N : Nat → Prop} {m : DH} {w : World} {t : Slots}

theorem done_build (G : MemG ρ N w m) (S : SR ρ N w t a.tmps) {T : TypeId} {parts : Array (Nat × Operand)} (ho : o.op = .build T parts) {v : DV} {m' : DH} (h : buildD P T (mapEv t parts.toList) m = some (v, m')) : Done P o a ρ N m w [] v m' := by
  unfold buildD at h
  split at h
  · rename_i z pl hz hpl
    split at h
    · rename_i cs hf
      injection h with h; injection h with h1 h2; subst h1 h2
      obtain ⟨i, x, hi, hx, hv⟩ := zeroOf_spec hz
      have hzc := (hv ρ N w).2
      simp only [DV.cells] at hzc
      have hpr := mapEv_spec S parts.toList
      have hpq : (parts.map fun (x : Nat × Operand) => (x.1, a.eval x.2)).toList = parts.toList.map fun p => (p.1, a.eval p.2) := by simp
      have hb : ∃ arr, P.built T (parts.map fun (x : Nat × Operand) => (x.1, a.eval x.2)).toList = some arr ∧ VRL ρ N w cs arr.toList := by
        rw [hpq]
        unfold placeD at hpl
        split at hpl
        · rename_i fs hu
          split at hpl
          · rename_i l hl
            injection hpl with hpl; subst hpl
            obtain ⟨arr, h1, h2⟩ := fill_spec (pl' := (l.toArray[·]?)) (fun i => by simp) hpr hzc hf
            refine ⟨arr, ?_, h2⟩
            unfold Program.built
            simp only [hi, hu, hx, places_spec hl]
            exact h1
          · cases hpl
        · rename_i n e hu
          split at hpl
          · rename_i k hk
            injection hpl with hpl; subst hpl
            obtain ⟨ie, hie, rfl⟩ := Option.map_eq_some_iff.1 hk
            obtain ⟨arr, h1, h2⟩ := fill_spec (pl' := fun i => some (i * ie.size, ie.size)) (fun i => rfl) hpr hzc hf
            refine ⟨arr, ?_, h2⟩
            unfold Program.built
            simp only [hi, hu, hx, hie]
            exact h1
          · cases hpl
        · cases hpl
      obtain ⟨arr, h1, h2⟩ := hb
      refine done_pure G (x := .agg arr) ?_ (by simp only [VR]; exact ⟨arr.toList, by simp, h2⟩)
      unfold execOp
      simp only [ho, Sem.run_bind, run_build w T _ _ h1, Result.andThen_ok, Sem.run_pure]
    · cases h
  · cases h

theorem info_of_size {T : TypeId} {k : Nat} (h : sizeB P T = some k) : ∃ i, P.info? T = some i ∧ i.size = k := by
  unfold sizeB at h
  obtain ⟨i, hi, rfl⟩ := Option.map_eq_some_iff.1 h
  exact ⟨i, hi, rfl⟩

theorem new_buildSlice (S : SR ρ N w t a.tmps) {T : TypeId} {len : Nat} {parts : Array (Nat × Operand)} (ho : o.op = .buildSlice T len parts) {v : DV} {m' : DH} (h : buildSliceD P T len (mapEv t parts.toList) m = some (v, m')) : ∃ d, m' = m.add d ∧ NewS P o a ρ N w m.n v d := by
  unfold buildSliceD at h
  split at h
  · rename_i e hu
    split at h
    · rename_i k z hk hz
      split at h
      · cases h
      · rename_i hb
        simp only [Bool.and_eq_true, Nat.beq_eq, Nat.ble_eq, Nat.blt_eq] at hb
        obtain ⟨⟨⟨hb1, hb2⟩, hb3⟩, hb4⟩ := hb
        split at h
        · rename_i cs hf
          injection h with h; injection h with h1 h2; subst h1 h2
          obtain ⟨i, x, hi, hx, hv⟩ := zeroOf_spec hz
          obtain ⟨i', hi', rfl⟩ := info_of_size hk
          rw [hi] at hi'; injection hi' with hi'; subst hi'
          have hzc := (hv ρ N w).2
          have hzl := hzc.length
          simp only [Array.length_toList] at hzl
          have hzs : x.cells.size = i.size := by omega
          have hzero : VRL ρ N w (zerosD z.cells len) ((Array.range (len * i.size)).map (x.cells[· % x.cells.size]!)).toList := by
            rw [← hzs, madeCells_eq _ _ (by omega)]
            exact zeros_spec hzc len
          have hpr := mapEv_spec S parts.toList
          obtain ⟨arr, h1, h2⟩ := fill_spec (pl' := fun j => some (j * i.size, i.size)) (fun j => rfl) hpr hzero hf
          have hpq : (parts.map fun (x : Nat × Operand) => (x.1, a.eval x.2)).toList = parts.toList.map fun p => (p.1, a.eval p.2) := by simp
          have hlen : arr.size = len * i.size := by
            have e1 : ∀ (ps : List (Nat × DV)) (c1 c2 : List DV) (pl : Nat → Option (Nat × Nat)), fillD pl c1 ps = some c2 → c2.length = c1.length := by
              intro ps
              induction ps with
              | nil => intro c1 c2 pl h; simp only [fillD] at h; injection h with h; rw [h]
              | cons p ps ih =>
                intro c1 c2 pl h
                obtain ⟨j, d⟩ := p
                simp only [fillD] at h
                split at h
                · cases h
                · split at h
                  · rw [ih _ _ _ h, setAt_length]
                  · cases h
            have := e1 _ _ _ _ hf
            have h3 := h2.length
            have h4 := hzero.length
            simp at h3 h4
            omega
          by_cases hl0 : len = 0
          · subst hl0
            simp only [Nat.zero_mul] at hlen h1 hzero
            have harr : arr = #[] := Array.eq_empty_of_size_eq_zero hlen
            subst harr
            refine ⟨.cells cs e false, rfl, _, .slice (some ⟨w.heap.size, 0, none⟩) 0 0, _, IsNew.alloc w (.cells #[] e), ?_, fun ρ' L hb => ⟨?_, ?_⟩⟩
            · have h5 : Instr.fill (fun j => some (j * i.size, i.size)) ((Array.range 0).map ((#[] : Array Value)[· % (#[] : Array Value).size]!)) (parts.map fun (x : Nat × Operand) => (x.1, a.eval x.2)).toList = some #[] := by
                rw [hpq, ← h1]
                congr 1
                apply Array.eq_empty_of_size_eq_zero (by simp) |>.trans
                exact (Array.eq_empty_of_size_eq_zero (by simp)).symm
              unfold execOp
              simp only [ho, Sem.run_bind, Instr.buildSlice, under_of hu, Result.andThen_ok, size_of hk, Nat.zero_mul]
              simp only [gt_iff_lt, Nat.not_lt_zero, if_false, Sem.run_pure, Result.andThen_ok, Sem.run_bind, if_true]
              rw [h5]
              rfl
            · exact obj_cells (IsNew.alloc w (.cells #[] e)).last (VRL.later L _ _ h2) (by simp)
            · simp only [VR]
              exact ⟨w.heap.size, 0, 0, #[], e, (0, 0), hb, rfl, .inr rfl, Nat.le_refl _, Nat.le_refl _, fun _ => rfl, by simp [maxLen], (IsNew.alloc w (.cells #[] e)).last, by simp⟩
          · refine ⟨.cells cs e false, rfl, _, .slice (some ⟨w.heap.size, 0, none⟩) len len, _, IsNew.alloc w (.cells arr e), ?_, fun ρ' L hb => ⟨?_, ?_⟩⟩
            · unfold execOp
              have := run_buildSlice (P := P) w T e len (parts.map fun (x : Nat × Operand) => (x.1, a.eval x.2)) arr i x hu hi hx (by omega) (by rw [Nat.mul_eq_zero]; omega) (by rw [hpq]; exact h1)
              simp only [ho, Sem.run_bind, this, Result.andThen_ok, Sem.run_pure]
            · exact obj_cells (IsNew.alloc w (.cells arr e)).last (VRL.later L _ _ h2) List.take_length
            · simp only [VR]
              have hm : len ≤ 16777216 := Nat.le_trans (Nat.le_mul_of_pos_right _ hb2) hb1
              exact ⟨w.heap.size, 0, len, arr, e, (0, 0), hb, rfl, .inr rfl, Nat.le_refl _, Nat.le_refl _, fun _ => rfl, by simp only [maxLen]; omega, (IsNew.alloc w (.cells arr e)).last, by omega⟩
        · cases h
    · cases h
  · cases h

theorem new_makeSlice (S : SR ρ N w t a.tmps) {T : TypeId} {l c : Operand} (ho : o.op = .makeSlice T l c) {v : DV} {m' : DH} (h : makeSliceD P T (ev t l) (ev t c) m = some (v, m')) : ∃ d, m' = m.add d ∧ NewS P o a ρ N w m.n v d := by
  unfold makeSliceD at h
  split at h
  · rename_i e hu
    split at h
    · rename_i l' c' k z hl hc hk hz
      split at h
      · rename_i hb
        simp only [Bool.and_eq_true, Nat.beq_eq, Nat.ble_eq, Nat.blt_eq] at hb
        obtain ⟨⟨⟨⟨⟨hb1, hb2⟩, hb3⟩, hb4⟩, hb5⟩, hb6⟩ := hb
        injection h with h; injection h with h1 h2; subst h1 h2
        obtain ⟨kl, hl⟩ := asNat_spec hl (ev_spec S l)
        obtain ⟨kc, hc⟩ := asNat_spec hc (ev_spec S c)
        obtain ⟨i, x, hi, hx, hv⟩ := zeroOf_spec hz
        obtain ⟨i', hi', rfl⟩ := info_of_size hk
        rw [hi] at hi'; injection hi' with hi'; subst hi'
        have hzc := (hv ρ N w).2
        have hzl := hzc.length
        simp only [Array.length_toList] at hzl
        have hzs : x.cells.size = i.size := by omega
        have hfit : c' * i.bytes ≤ 70368744177664 := by
          unfold fitsD at hb2
          rw [hi] at hb2
          simp only [Bool.and_eq_true, Nat.ble_eq] at hb2
          exact hb2.1
        have hr := run_make (P := P) w T e i x hu hi hx kl kc (l' : Int) (c' : Int) (by omega) (by omega) (by
          have : ((i.bytes * c' : Nat) : Int) ≤ 281474976710656 := by rw [Nat.mul_comm]; omega
          rwa [Int.natCast_mul] at this) (by omega)
        simp only [Int.toNat_natCast] at hr
        have hmade : (madeCells x.cells (c' * i.size)).toList = zerosV x.cells.toList c' := by
          rw [← hzs]; exact madeCells_eq _ _ (by omega)
        refine ⟨.cells (zerosD z.cells c') e false, rfl, _, .slice (some ⟨w.heap.size, 0, none⟩) l' c', _, IsNew.alloc w (.cells (madeCells x.cells (c' * i.size)) e), ?_, fun ρ' L hb => ⟨?_, ?_⟩⟩
        · unfold execOp
          simp only [ho, hl, hc, Sem.run_bind, hr, Result.andThen_ok, Sem.run_pure]
        · refine obj_cells (IsNew.alloc w _).last (zeros_spec (VRL.later L _ _ hzc) c') ?_
          rw [hmade]; exact List.take_length
        · simp only [VR]
          exact ⟨w.heap.size, 0, c', _, e, (0, 0), hb, rfl, .inr rfl, hb1, Nat.le_refl _, fun _ => rfl, by simp only [maxLen]; omega, (IsNew.alloc w _).last, by rw [size_madeCells]; omega⟩
      · cases h
    · cases h
  · cases h
end
end Go.Det
