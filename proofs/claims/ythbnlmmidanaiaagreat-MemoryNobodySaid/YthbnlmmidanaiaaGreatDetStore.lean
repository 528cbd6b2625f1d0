/-
  Stores.
-/
import Derived.Test.YthbnlmmidanaiaaGreatDetBuild
import Derived.Laws.IdiomCopy
set_option linter.unusedVariables false
set_option linter.unusedSimpArgs false
set_option linter.unusedSectionVars false
namespace Go.Det

def setL : List Value → Nat → List Value → List Value
  | cs, _, [] => cs
  | cs, i, v :: vs => setL (cs.set i v) (i + 1) vs

theorem setL_length : ∀ (xs l : List Value) (i : Nat), (setL l i xs).length = l.length
  | [], l, i => rfl
  | x :: xs, l, i => by simp [setL, setL_length xs]
theorem take_setL (n : Nat) : ∀ (xs l : List Value) (i : Nat), (setL l i xs).take n = setL (l.take n) i xs
  | [], l, i => rfl
  | x :: xs, l, i => by simp only [setL]; rw [take_setL n xs, List.take_set]

section
variable {ρ : Nm} {N : Nat → Prop} {w : World}
theorem VRL.setL : ∀ {us : List DV} {xs : List Value}, VRL ρ N w us xs → ∀ {ds : List DV} {vs : List Value} (i : Nat), VRL ρ N w ds vs → VRL ρ N w (Det.setAt ds i us) (Det.setL vs i xs)
  | [], xs, hu, ds, vs, i, h => by simp only [VRL] at hu; subst hu; exact h
  | u :: us, [], hu, ds, vs, i, h => by simp [VRL] at hu
  | u :: us, x :: xs, hu, ds, vs, i, h => VRL.setL hu.uncons.2 (i + 1) (h.set i hu.uncons.1)
end

structure IsSet (w w' : World) (g : Nat) : Prop where
  size : w'.heap.size = w.heap.size
  other : ∀ k, k ≠ g → w'.heap[k]? = w.heap[k]?
  shape : ∀ (arr : Array Value) (e : TypeId) (fr : Nat × Nat), w.heap[g]? = some (Obj.cells arr e fr) → ∃ (arr' : Array Value) (fr' : Nat × Nat), w'.heap[g]? = some (Obj.cells arr' e fr') ∧ arr'.size = arr.size
  os : w'.os = w.os
  tape : w'.tape = w.tape
  output : w'.output = w.output

section
variable {P : Program} {o : Oper} {a : Act} {ρ : Nm} {N : Nat → Prop} {m : DH} {w : World} {t : Slots}

theorem set_step (G : MemG ρ N w m) {b g : Nat} (hg : ρ b = some g) {old : DO} (hold : m.h.get b = some old) (hwr : old.wr = true) {w' : World} (hS : IsSet w w' g) (d : DO) (low : List Nat) :
    Step (· ∈ [b]) ρ m w ρ { h := m.h.set b d, n := m.n, wrs := low } w' ∧ MemG ρ N w' { h := m.h.set b d, n := m.n, wrs := low } := by
  have hb := G.dom b g hg
  have hnd : old ≠ .dead := by intro e; subst e; simp [DO.wr] at hwr
  have hs : Step (· ∈ [b]) ρ m w ρ { h := m.h.set b d, n := m.n, wrs := low } w' := by
    refine ⟨fun _ _ h => h, fun _ _ h => .inl h, fun b' h => by simp at h; subst h; exact ⟨old, hold, hnd⟩, fun b' _ h => ?_, Nat.le_refl _, by rw [hS.size]; exact Nat.le_refl _, fun k _ h => hS.other k ?_, fun k arr e fr h => ?_, hS.os, hS.tape, hS.output⟩
    · rw [PM.get_set_ne _ _ (by simp at h; exact Ne.symm h)]
    · intro e; subst e; exact h b (by simp) hg
    · by_cases e : k = g
      · subst e; exact hS.shape arr _ fr h
      · exact ⟨arr, fr, by rw [hS.other k e]; exact h, rfl⟩
  refine ⟨hs, ⟨fun b' g' h => ?_, fun b' h => ?_, fun b1 b2 g' o1 o2 h1 h2 h3 h4 h5 h6 => ?_, hs.apart G, fun g hg => Nat.lt_of_lt_of_le (G.below g hg) hs.size⟩⟩
  · rw [hS.size]; exact G.dom b' g' h
  · have hb' : m.n ≤ b' := h
    rw [PM.get_set_ne _ _ (by omega)]
    exact G.fresh b' hb'
  · have key : ∀ b' o', (m.h.set b d).get b' = some o' → o' ≠ .dead → ρ b' = some g' → ∃ o'', m.h.get b' = some o'' ∧ o'' ≠ .dead := by
      intro b' o' h7 h8 _
      by_cases e : b = b'
      · subst e; exact ⟨old, hold, hnd⟩
      · rw [PM.get_set_ne _ _ e] at h7; exact ⟨o', h7, h8⟩
    obtain ⟨q1, r1, s1⟩ := key b1 o1 h3 h5 h1
    obtain ⟨q2, r2, s2⟩ := key b2 o2 h4 h6 h2
    exact G.inj b1 b2 g' q1 q2 h1 h2 r1 r2 s1 s2

theorem done_set (G : MemG ρ N w m) {b g : Nat} (hg : ρ b = some g) {old : DO} (hold : m.h.get b = some old) (hwr : old.wr = true) {w' : World} (hS : IsSet w w' g) {d : DO} {low : List Nat} {v : DV} {r : Next}
    (hr : (execOp a.eval o).run P w = .ok r w')
    (hO : Later ρ N w ρ N w' → ObjR ρ N w' g d ∧
      ((∃ x, r = .value x ∧ VR ρ N w' v x) ∨ (r = .skip ∧ v = undefD))) :
    Done P o a ρ N m w [b] v { h := m.h.set b d, n := m.n, wrs := low } := by
  obtain ⟨hs, hG⟩ := set_step G hg hold hwr hS d low
  obtain ⟨h1, h2⟩ := hO (hs.later G)
  refine ⟨_, _, _, hr, hs, hG, fun b' hb => ?_, h2⟩
  intro g' q hg' hq
  rcases hb with hb | hb
  · simp at hb
    subst hb
    rw [hg] at hg'; injection hg' with hg'; subst hg'
    rw [PM.get_set_same] at hq; injection hq with hq; subst hq
    exact h1
  · have := (G.dom b' g' hg').1; omega

/-! ### Cells that are set -/
theorem setCell_row {w : World} {g i : Nat} {arr : Array Value} {e : TypeId} {fr : Nat × Nat} {v : Value} (h : w.heap[g]? = some (.cells arr e fr)) : (w.setCell ⟨g, i, none⟩ v).heap[g]? = some (.cells (arr.setIfInBounds i v) e fr) := by
  simp [World.setCell, Array.getElem?_modify, h]
theorem setCell_far {w : World} {g i k : Nat} {v : Value} (h : k ≠ g) : (w.setCell ⟨g, i, none⟩ v).heap[k]? = w.heap[k]? := by
  simp [World.setCell, Array.getElem?_modify, Ne.symm h]

theorem setCells_spec (g : Nat) : ∀ (vs : List Value) (i : Nat) (w : World) {arr : Array Value} {e : TypeId} {fr : Nat × Nat}, w.heap[g]? = some (.cells arr e fr) →
    IsSet w (w.setCells g i vs) g ∧ (w.setCells g i vs).heap[g]? = some (.cells (setL arr.toList i vs).toArray e fr)
  | [], i, w, arr, e, fr, h => ⟨⟨rfl, fun _ _ => rfl, fun arr _ fr h => ⟨arr, fr, h, rfl⟩, rfl, rfl, rfl⟩, by simpa [World.setCells, setL] using h⟩
  | v :: vs, i, w, arr, e, fr, h => by
    have h1 := setCell_row (i := i) (v := v) h
    obtain ⟨h2, h3⟩ := setCells_spec g vs (i + 1) (w.setCell ⟨g, i, none⟩ v) h1
    refine ⟨⟨?_, fun k hk => ?_, fun arr' e' fr' h' => ?_, ?_, ?_, ?_⟩, ?_⟩
    · rw [World.setCells, h2.size]; simp
    · rw [World.setCells, h2.other k hk, setCell_far hk]
    · rw [h] at h'; injection h' with h'; injection h' with e1 e2 e3; subst e1 e2 e3
      rw [World.setCells]
      exact ⟨_, _, h3, by simp [setL_length]⟩
    · rw [World.setCells, h2.os]; rfl
    · rw [World.setCells, h2.tape]; rfl
    · rw [World.setCells, h2.output]; rfl
    · rw [World.setCells, h3]; simp [setL]

theorem one_oneCell {v : Value} (h : oneV v = true) : v.oneCell' = true := by
  cases v <;> first | rfl | simp [oneV] at h

/-- What a store of cells within what is known comes to. -/
theorem store_row {b g off : Nat} {cs : List DV} {e : TypeId} (R : Row ρ N w m b) (hg : ρ b = some g) (hb : m.h.get b = some (.cells cs e false)) {us : List DV} {xs : List Value} (hu : VRL ρ N w us xs) (h1 : allOne us = true)
    (hl : off + us.length ≤ cs.length) :
    (storeCells ⟨g, off, none⟩ xs).run P w = .ok () (w.setCells g off xs) ∧ IsSet w (w.setCells g off xs) g ∧
      ∀ {ρ' : Nm} {N' : Nat → Prop} {ro : Bool}, Later ρ N w ρ' N' (w.setCells g off xs) → ObjR ρ' N' (w.setCells g off xs) g (.cells (setAt cs off us) e ro) := by
  obtain ⟨arr, fr, h2, h3, h4, h5⟩ := R g _ hg hb
  have hlen := hu.length
  obtain ⟨h6, h7⟩ := setCells_spec g xs off w h2
  refine ⟨?_, h6, fun L => ⟨_, fr, h7, ?_, ?_, ?_⟩⟩
  · have hcell : ∀ j, j < xs.length → off + j < arr.size := fun j hj => by omega
    have := run_storeCells_cells (P := P) g off xs 0 w (fun j hj => by
      have := hcell j hj
      simp [World.cell?, h2, this]) (fun j hj => by
      have h8 := hcell j hj
      have h9 := h3 _ h8
      simp only [World.frozen?, h2, Nat.add_zero]
      simp
      omega) (fun v hv => one_oneCell (allOne_values hu h1 v hv))
    simpa using this
  · intro i hi
    have : i < arr.size := by simpa [setL_length] using hi
    exact h3 i this
  · simp [setAt_length, setL_length]; exact h4
  · rw [setAt_length]
    simp only [take_setL]
    exact VRL.later L _ _ (VRL.setL hu off h5)

theorem done_store (G : MemG ρ N w m) (S : SR ρ N w t a.tmps) {x y : Operand} {T : TypeId} (hR : ∀ b off, ev t x = .ptr b off → Row ρ N w m b) (ho : o.op = .store T x y) {v : DV} {m' : DH} (h : okM (storeD P T (ev t x) (ev t y) m) = some (v, m')) :
    ∃ b off, ev t x = .ptr b off ∧ Done P o a ρ N m w [b] v m' := by
  unfold okM at h
  split at h
  case h_2 => cases h
  rename_i m1 hm
  injection h with h; injection h with h1 h2; subst h1 h2
  have hx := ev_spec S x
  have hy := ev_spec S y
  unfold storeD at hm
  split at hm
  · rename_i b off e
    refine ⟨b, off, e, ?_⟩
    rw [e] at hx; simp only [VR] at hx
    obtain ⟨g, hg, hv⟩ := hx
    split at hm
    · rename_i cs e' hb
      split at hm
      · rename_i hc
        obtain ⟨hc1, hc2, hc3⟩ := hc
        injection hm with hm; subst hm
        have hcs := cells_of hy hc3
        obtain ⟨h1, h2, h3⟩ := store_row (P := P) (hR b off e) hg hb hcs hc3 hc2
        refine done_set G hg hb (by rfl) h2 (r := .skip) ?_ fun L => ⟨h3 L, .inr ⟨rfl, rfl⟩⟩
        have hsz : (a.eval y).cells.size = (ev t y).cells.length := by have := hcs.length; simp at this; omega
        unfold execOp
        simp only [ho, Instr.storeAt, hv, Instr.sureAddr, Sem.run_bind, Sem.run_pure, Result.andThen_ok, storeVar, size_of hc1, hsz, ne_eq, not_true, if_false, h1]
      · cases hm
    · cases hm
  · cases hm
end
end Go.Det
