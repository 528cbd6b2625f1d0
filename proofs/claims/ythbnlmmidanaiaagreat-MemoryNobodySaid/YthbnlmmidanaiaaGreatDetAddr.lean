/-
  Loads, fields, elements, cuts of slices, structs that are built.
-/
import Derived.Test.YthbnlmmidanaiaaGreatDetBin
set_option linter.unusedVariables false
set_option linter.unusedSimpArgs false
set_option linter.unusedSectionVars false
namespace Go.Det

theorem run_loadCells (P : Program) (w : World) (a : Addr) : ∀ (vs : List Value) (i : Nat) (acc : Array Value), (∀ j v, vs[j]? = some v → w.cell? (a.add (i + j)) = some v) →
    (loadCellsFrom a i vs.length acc).run P w = .ok (acc ++ ⟨vs⟩) w
  | [], i, acc, _ => by simp [loadCellsFrom]
  | v :: vs, i, acc, h => by
    have h0 := h 0 v (by simp)
    rw [Nat.add_zero] at h0
    have ih := run_loadCells P w a vs (i + 1) (acc.push v) fun j u hu => by
      have := h (j + 1) u (by simpa using hu)
      rwa [show i + 1 + j = i + (j + 1) by omega]
    simp only [List.length_cons, loadCellsFrom, Sem.run_bind]
    have hl : (load (a.add i)).run P w = .ok v w := by simp [load, Sem.run, h0]
    rw [hl, Result.andThen_ok, ih]
    congr 1
    apply Array.ext'
    simp

section
variable {ρ : Nm} {N : Nat → Prop} {w : World} {P : Program}

theorem loadVar_spec {T : TypeId} {cs : List DV} {d : DV} (h : takeVar P T cs = some d) {vs : List Value} (hv : VRL ρ N w cs vs) {a : Addr} (hc : ∀ j v, vs[j]? = some v → w.cell? (a.add j) = some v) :
    ∃ x, (loadVar T a).run P w = .ok x w ∧ VR ρ N w d x := by
  unfold takeVar at h
  split at h
  · rename_i k ha hk
    split at h
    · rename_i hl
      injection h with h; subst h
      have hlen : (vs.take k).length = k := by rw [List.length_take]; have := hv.length; omega
      have hr := run_loadCells P w a (vs.take k) 0 #[] fun j v hj => by
        rw [List.getElem?_take] at hj
        split at hj
        · rw [Nat.zero_add]; exact hc j v hj
        · cases hj
      rw [hlen] at hr
      refine ⟨.agg ⟨vs.take k⟩, ?_, by simp only [VR]; exact ⟨_, rfl, hv.take k⟩⟩
      simp only [loadVar, Sem.run_bind, isAgg_of ha, Result.andThen_ok, if_true, size_of hk, loadCells, hr, Sem.run_pure]
      congr 2
      simp
    · cases h
  · rename_i k ha hk
    split at h
    · rename_i c rest
      split at h
      · injection h with h; subst h
        cases vs with
        | nil => simp [VRL] at hv
        | cons v vs =>
          have h0 := hc 0 v (by simp)
          have : a.add 0 = a := by simp [Go.Addr.add]
          rw [this] at h0
          exact ⟨v, by simp [loadVar, isAgg_of ha, load, Sem.run, h0], hv.uncons.1⟩
      · cases h
    · cases h
  · cases h

theorem part_take {T : TypeId} {cs : List DV} {d : DV} {off : Nat} (h : takeVar P T (cs.drop off) = some d) {vs : List Value} (hv : VRL ρ N w cs vs) : ∃ x, (part T ⟨vs⟩ off).run P w = .ok x w ∧ VR ρ N w d x := by
  unfold takeVar at h
  split at h
  · rename_i k ha hk
    split at h
    · rename_i hl
      injection h with h; subst h
      refine ⟨.agg ⟨(vs.drop off).take k⟩, ?_, by simp only [VR]; exact ⟨_, rfl, (hv.drop off).take k⟩⟩
      simp only [part, Sem.run_bind, isAgg_of ha, Result.andThen_ok, if_true, size_of hk, Sem.run_pure]
      congr 2
      apply Array.ext'
      simp
    · cases h
  · rename_i k ha hk
    split at h
    · rename_i c rest e
      split at h
      · injection h with h; subst h
        have hd : cs[off]? = some c := by
          have : (cs.drop off)[0]? = some c := by rw [e]; rfl
          simpa using this
        obtain ⟨v, hv1, hv2⟩ := hv.get off hd
        have : (⟨vs⟩ : Array Value)[off]? = some v := by simpa using hv1
        exact ⟨v, by simp [part, isAgg_of ha, this], hv2⟩
      · cases h
    · cases h
  · cases h
end

section
variable {P : Program} {o : Oper} {a : Act} {ρ : Nm} {N : Nat → Prop} {m : DH} {w : World} {t : Slots}

/-- The cells of a row that are known. -/
theorem row_cells {b g : Nat} {cs : List DV} {e : TypeId} {ro : Bool} (R : Row ρ N w m b) (hg : ρ b = some g) (hb : m.h.get b = some (.cells cs e ro)) (off : Nat) :
    ∃ vs, VRL ρ N w (cs.drop off) vs ∧ ∀ j v, vs[j]? = some v → w.cell? ((⟨g, off, none⟩ : Addr).add j) = some v := by
  obtain ⟨arr, fr, h1, _, h3, h4⟩ := R g _ hg hb
  refine ⟨_, h4.drop off, fun j v hv => ?_⟩
  have hv' : arr[off + j]? = some v := by
    rw [List.getElem?_drop, List.getElem?_take] at hv
    split at hv
    · simpa using hv
    · cases hv
  have : (⟨g, off, none⟩ : Addr).add j = ⟨g, off + j, none⟩ := by unfold Go.Addr.add; split <;> simp_all
  rw [this]
  simp [World.cell?, h1, hv']

theorem done_load (G : MemG ρ N w m) (S : SR ρ N w t a.tmps) {x : Operand} (hR : ∀ b off, ev t x = .ptr b off → Row ρ N w m b) {T : TypeId} (ho : o.op = .load T x) {v : DV} {m' : DH} (h : okV m (loadD P T (ev t x) m) = some (v, m')) : Done P o a ρ N m w [] v m' := by
  unfold okV at h
  split at h
  case h_2 => cases h
  rename_i d hd
  injection h with h; injection h with h1 h2; subst h1 h2
  have hx := ev_spec S x
  unfold loadD at hd
  split at hd
  · rename_i b off e
    rw [e] at hx; simp only [VR] at hx
    obtain ⟨g, hg, hv⟩ := hx
    split at hd
    · rename_i cs e' ro hb
      obtain ⟨vs, h3, h4⟩ := row_cells (hR b off e) hg hb off
      obtain ⟨y, hy1, hy2⟩ := loadVar_spec hd h3 h4
      exact done_pure G (x := y) (by unfold execOp; simp only [ho, Instr.loadAt, hv, Instr.sureAddr, Sem.run_bind, Sem.run_pure, Result.andThen_ok, hy1]) hy2
    · cases hd
  · rename_i cs e
    rw [e] at hx; simp only [VR] at hx
    obtain ⟨ad, hv, hc⟩ := hx
    by_cases hn : cs = []
    · subst hn
      unfold takeVar at hd
      split at hd
      · rename_i k ha hk
        split at hd
        · rename_i hl
          injection hd with hd; subst hd
          have hk0 : k = 0 := by simpa using hl
          subst hk0
          refine done_pure G (x := .agg #[]) (by unfold execOp; simp [ho, Instr.loadAt, hv, Instr.sureAddr, loadVar, isAgg_of ha, size_of hk, loadCells, loadCellsFrom]) (by simp only [VR]; exact ⟨[], rfl, by simp [VRL]⟩)
        · cases hd
      · cases hd
      · cases hd
    · obtain ⟨vs, h3, h4⟩ := of_cellsAt (hc hn).2
      obtain ⟨y, hy1, hy2⟩ := loadVar_spec hd h3 (a := ad) fun j v hv => by have := h4 j v hv; rwa [Nat.zero_add] at this
      exact done_pure G (x := y) (by unfold execOp; simp only [ho, Instr.loadAt, hv, Instr.sureAddr, Sem.run_bind, Sem.run_pure, Result.andThen_ok, hy1]) hy2
  · cases hd

theorem done_field (G : MemG ρ N w m) (S : SR ρ N w t a.tmps) {T : TypeId} {x : Operand} {f : Nat} (ho : o.op = .field T x f) {v : DV} {m' : DH} (h : fieldD P T (ev t x) f m = some (v, m')) : Done P o a ρ N m w [] v m' := by
  have hx := ev_spec S x
  unfold fieldD okV at h
  split at h
  · rename_i fd cs hf e
    split at h
    · rename_i d hd
      injection h with h; injection h with h1 h2; subst h1 h2
      rw [e] at hx; simp only [VR] at hx
      obtain ⟨vs, hv, hl⟩ := hx
      obtain ⟨y, hy1, hy2⟩ := part_take (P := P) hd hl
      unfold fieldOf at hf
      split at hf
      · rename_i fs hu
        refine done_pure G (x := y) ?_ hy2
        unfold execOp
        simp only [ho, Instr.field, Sem.run_bind, under_of hu, Result.andThen_ok, hf, hv, asAgg, Sem.run_pure, hy1]
      · cases hf
    · cases h
  · cases h

theorem asNat_spec {N : Nat → Prop} {d : DV} {i : Nat} (h : asNat d = some i) {v : Value} (hv : VR ρ N w d v) : ∃ k, v = .int k (i : Int) := by
  unfold asNat at h
  split at h
  · rename_i k n
    split at h
    · rename_i hn
      injection h with h; subst h
      simp only [VR] at hv
      exact ⟨k, by rw [hv]; congr 1; omega⟩
    · cases h
  · cases h

theorem done_index (G : MemG ρ N w m) (S : SR ρ N w t a.tmps) {T : TypeId} {x i : Operand} (ho : o.op = .index T x i) {v : DV} {m' : DH} (h : indexD P T (ev t x) (ev t i) m = some (v, m')) : Done P o a ρ N m w [] v m' := by
  have hx := ev_spec S x
  unfold indexD at h
  split at h
  · cases h
  · rename_i j hj
    obtain ⟨k, hi⟩ := asNat_spec hj (ev_spec S i)
    split at h
    · rename_i hu
      split at h
      · rename_i s e
        rw [e] at hx; simp only [VR] at hx
        split at h
        · rename_i c hc
          injection h with h; injection h with h1 h2; subst h1 h2
          have hlt : j < s.size := by
            have := (List.getElem?_eq_some_iff.1 hc).1
            rw [Array.length_toList] at this; exact this
          have hs : s[(j : Int).toNat]? = some c := by
            have e1 : (j : Int).toNat = j := rfl
            rw [e1, getElem?_pos s j hlt]
            have : s.data.toList[j]? = some c := hc
            rw [Array.getElem?_toList, Array.getElem?_eq_some_iff] at this
            obtain ⟨_, h2⟩ := this
            exact congrArg some h2
          refine done_pure G (x := .int .u8 c.toNat) ?_ (by simp only [VR])
          unfold execOp
          simp only [ho, Instr.index, hi, asIntOf, Sem.run_bind, Sem.run_pure, Result.andThen_ok, under_of hu, hx, Int.natCast_nonneg, if_true, hs]
        · cases h
      · cases h
    · rename_i n e hu
      split at h
      · rename_i cs e1
        rw [e1] at hx; simp only [VR] at hx
        obtain ⟨vs, hv, hl⟩ := hx
        split at h
        · rename_i sz hsz
          split at h
          · rename_i hlt
            rw [Nat.blt_eq] at hlt
            unfold okV at h
            split at h
            · rename_i d hd
              injection h with h; injection h with h1 h2; subst h1 h2
              obtain ⟨y, hy1, hy2⟩ := part_take (P := P) hd hl
              refine done_pure G (x := y) ?_ hy2
              unfold execOp
              have hc : (0 : Int) ≤ (j : Int) ∧ (j : Int) < (n : Int) := ⟨by omega, by omega⟩
              simp only [ho, Instr.index, hi, asIntOf, Sem.run_bind, Sem.run_pure, Result.andThen_ok, under_of hu, hv, hc, if_true, and_self, size_of hsz, Int.toNat_natCast, hy1]
            · cases h
          · cases h
        · cases h
      · cases h
    · cases h
end
end Go.Det
