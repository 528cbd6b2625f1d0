/-
  How a memory of the deterministic machine stands for a world; what a step keeps; new rows, stores.
-/
import Derived.Test.YthbnlmmidanaiaaGreatDetRel
set_option linter.unusedVariables false
set_option linter.unusedSimpArgs false
set_option linter.unusedSectionVars false
namespace Go.Det

/-! ### Lists of values -/
section
variable {ρ : Nm} {N : Nat → Prop} {w : World}
theorem VRL.length : ∀ {ds : List DV} {vs : List Value}, VRL ρ N w ds vs → ds.length = vs.length
  | [], vs, h => by simp only [VRL] at h; subst h; rfl
  | d :: ds, vs, h => by
    simp only [VRL] at h
    obtain ⟨v, vs', rfl, _, h3⟩ := h
    simp [VRL.length h3]
theorem VRL.nil : VRL ρ N w [] [] := by simp [VRL]
theorem VRL.cons {d : DV} {ds : List DV} {v : Value} {vs : List Value} (h : VR ρ N w d v) (hs : VRL ρ N w ds vs) : VRL ρ N w (d :: ds) (v :: vs) := by
  simp only [VRL]; exact ⟨v, vs, rfl, h, hs⟩
theorem VRL.uncons {d : DV} {ds : List DV} {v : Value} {vs : List Value} (h : VRL ρ N w (d :: ds) (v :: vs)) : VR ρ N w d v ∧ VRL ρ N w ds vs := by
  simp only [VRL] at h
  obtain ⟨v', vs', e, h1, h2⟩ := h
  injection e with e1 e2
  subst e1 e2
  exact ⟨h1, h2⟩
theorem VRL.get {ds : List DV} {vs : List Value} (h : VRL ρ N w ds vs) (i : Nat) {d : DV} (hd : ds[i]? = some d) : ∃ v, vs[i]? = some v ∧ VR ρ N w d v := by
  induction ds generalizing vs i with
  | nil => simp at hd
  | cons x xs ih =>
    cases vs with
    | nil => simp [VRL] at h
    | cons y ys =>
      obtain ⟨h1, h2⟩ := h.uncons
      cases i with
      | zero => simp at hd; subst hd; exact ⟨y, by simp, h1⟩
      | succ i => simpa using ih h2 i (by simpa using hd)
theorem VRL.of_get {ds : List DV} {vs : List Value} (hl : ds.length = vs.length) (h : ∀ (i : Nat) (d : DV) (v : Value), ds[i]? = some d → vs[i]? = some v → VR ρ N w d v) : VRL ρ N w ds vs := by
  induction ds generalizing vs with
  | nil => cases vs with | nil => exact VRL.nil | cons _ _ => simp at hl
  | cons x xs ih =>
    cases vs with
    | nil => simp at hl
    | cons y ys => exact VRL.cons (h 0 x y (by simp) (by simp)) (ih (by simpa using hl) fun i d v hd hv => h (i + 1) d v (by simpa using hd) (by simpa using hv))
theorem VRL.append {ds es : List DV} {vs us : List Value} (h : VRL ρ N w ds vs) (k : VRL ρ N w es us) : VRL ρ N w (ds ++ es) (vs ++ us) := by
  induction ds generalizing vs with
  | nil => simp only [VRL] at h; subst h; simpa using k
  | cons x xs ih =>
    cases vs with
    | nil => simp [VRL] at h
    | cons y ys => exact VRL.cons h.uncons.1 (ih h.uncons.2)
theorem VRL.take {ds : List DV} {vs : List Value} (h : VRL ρ N w ds vs) (n : Nat) : VRL ρ N w (ds.take n) (vs.take n) := by
  induction ds generalizing vs n with
  | nil => simp only [VRL] at h; subst h; simp [VRL]
  | cons x xs ih =>
    cases vs with
    | nil => simp [VRL] at h
    | cons y ys => cases n with
      | zero => simp [VRL]
      | succ n => exact VRL.cons h.uncons.1 (ih h.uncons.2 n)
theorem VRL.drop {ds : List DV} {vs : List Value} (h : VRL ρ N w ds vs) (n : Nat) : VRL ρ N w (ds.drop n) (vs.drop n) := by
  induction ds generalizing vs n with
  | nil => simp only [VRL] at h; subst h; simp [VRL]
  | cons x xs ih =>
    cases vs with
    | nil => simp [VRL] at h
    | cons y ys => cases n with
      | zero => exact h
      | succ n => simpa using ih h.uncons.2 n
theorem VRL.set {ds : List DV} {vs : List Value} (h : VRL ρ N w ds vs) (i : Nat) {d : DV} {v : Value} (hd : VR ρ N w d v) : VRL ρ N w (ds.set i d) (vs.set i v) := by
  induction ds generalizing vs i with
  | nil => simp only [VRL] at h; subst h; simp [VRL]
  | cons x xs ih =>
    cases vs with
    | nil => simp [VRL] at h
    | cons y ys => cases i with
      | zero => exact VRL.cons hd h.uncons.2
      | succ i => exact VRL.cons h.uncons.1 (ih h.uncons.2 i)
theorem VRL.setAt {us : List DV} {xs : List Value} (hu : VRL ρ N w us xs) : ∀ {ds : List DV} {vs : List Value} (i : Nat), VRL ρ N w ds vs → ∃ vs', vs'.length = vs.length ∧ VRL ρ N w (setAt ds i us) vs' ∧
    (∀ j, vs'[j]? = if i ≤ j ∧ j < i + xs.length ∧ j < vs.length then xs[j - i]? else vs[j]?) := by
  induction us generalizing xs with
  | nil =>
    intro ds vs i h
    simp only [VRL] at hu
    subst hu
    exact ⟨vs, rfl, by simpa [Det.setAt] using h, fun j => by rw [if_neg (by simp; omega)]⟩
  | cons u us ih =>
    intro ds vs i h
    cases xs with
    | nil => simp [VRL] at hu
    | cons x xs =>
      obtain ⟨h1, h2⟩ := hu.uncons
      obtain ⟨vs', hl, hv, hg⟩ := ih h2 (i + 1) (h.set i h1)
      refine ⟨vs', by simpa using hl, by simpa [Det.setAt] using hv, fun j => ?_⟩
      rw [hg j]
      simp only [List.length_set, List.length_cons]
      by_cases hji : j = i
      · subst hji
        rw [if_neg (by omega)]
        by_cases hlt : j < vs.length
        · rw [if_pos ⟨by omega, by omega, hlt⟩]; simp [hlt]
        · rw [if_neg (by omega)]; simp [hlt]
      · by_cases hc : i + 1 ≤ j ∧ j < i + 1 + xs.length ∧ j < vs.length
        · rw [if_pos hc, if_pos ⟨by omega, by omega, by omega⟩]
          have : j - i = (j - (i + 1)) + 1 := by omega
          rw [this]; simp
        · rw [if_neg hc, List.getElem?_set_ne (by omega)]
          by_cases hc2 : i ≤ j ∧ j < i + (xs.length + 1) ∧ j < vs.length
          · omega
          · rw [if_neg hc2]
theorem setAt_length : ∀ (us ds : List DV) (i : Nat), (setAt ds i us).length = ds.length
  | [], ds, i => rfl
  | u :: us, ds, i => by simp [setAt, setAt_length us]

def oneV : Value → Bool
  | .agg _ | .tuple _ => false
  | _ => true

theorem one_of {d : DV} {v : Value} (h : VR ρ N w d v) (h1 : d.one = true) : oneV v = true := by
  cases d <;> simp [DV.one] at h1 <;> simp only [VR] at h
  case sl => obtain ⟨_, _, _, _, _, _, _, rfl, _⟩ := h; rfl
  case dsl => obtain ⟨_, _, rfl, _⟩ := h; rfl
  case ptr => obtain ⟨_, _, rfl⟩ := h; rfl
  case dptr => obtain ⟨_, rfl, _⟩ := h; rfl
  case fn => obtain ⟨_, _, rfl, _⟩ := h; rfl
  case mp => obtain ⟨_, _, rfl⟩ := h; rfl
  all_goals (subst h; rfl)
theorem cells_of {d : DV} {v : Value} (h : VR ρ N w d v) (h1 : allOne d.cells = true) : VRL ρ N w d.cells v.cells.toList := by
  cases d
  case agg cs => simp only [VR] at h; obtain ⟨vs, rfl, hv⟩ := h; simpa [DV.cells, Value.cells] using hv
  all_goals
    have hv := one_of h (by simpa [allOne, DV.cells] using h1)
    have hc : v.cells = #[v] := by cases v <;> first | rfl | simp [oneV] at hv
    rw [hc]
    exact VRL.cons h VRL.nil
theorem allOne_get {cs : List DV} (h : allOne cs = true) {i : Nat} {d : DV} (hd : cs[i]? = some d) : d.one = true :=
  List.all_eq_true.1 h d (List.mem_of_getElem? hd)
theorem allOne_values {cs : List DV} {vs : List Value} (h : VRL ρ N w cs vs) (h1 : allOne cs = true) : ∀ v ∈ vs, oneV v = true := by
  intro v hv
  obtain ⟨i, hi⟩ := List.getElem?_of_mem hv
  have hlt : i < cs.length := by rw [h.length]; exact (List.getElem?_eq_some_iff.1 hi).1
  obtain ⟨v', hv', hr⟩ := h.get i (List.getElem?_eq_getElem hlt)
  rw [hi] at hv'
  injection hv' with hv'
  subst hv'
  exact one_of hr (allOne_get h1 (List.getElem?_eq_getElem hlt))

/-- From a row's cells to an address on. -/
theorem cellsAt_of {cs : List DV} {vs : List Value} (h : VRL ρ N w cs vs) {a : Addr} {i : Nat} (hc : ∀ j v, vs[j]? = some v → w.cell? (a.add (i + j)) = some v) : CellsAt ρ N w cs a i := by
  induction cs generalizing vs i with
  | nil => simp [CellsAt]
  | cons d ds ih =>
    cases vs with
    | nil => simp [VRL] at h
    | cons v vs =>
      obtain ⟨h1, h2⟩ := h.uncons
      simp only [CellsAt]
      exact ⟨⟨v, by simpa using hc 0 v (by simp), h1⟩, ih h2 fun j u hu => by
        have := hc (j + 1) u (by simpa using hu)
        rwa [show i + (j + 1) = i + 1 + j by omega] at this⟩
theorem of_cellsAt {cs : List DV} {a : Addr} {i : Nat} (h : CellsAt ρ N w cs a i) : ∃ vs, VRL ρ N w cs vs ∧ ∀ j v, vs[j]? = some v → w.cell? (a.add (i + j)) = some v := by
  induction cs generalizing i with
  | nil => exact ⟨[], VRL.nil, fun j v hv => by simp at hv⟩
  | cons d ds ih =>
    simp only [CellsAt] at h
    obtain ⟨⟨v, hv, h1⟩, h2⟩ := h
    obtain ⟨vs, h3, h4⟩ := ih h2
    refine ⟨v :: vs, VRL.cons h1 h3, fun j u hu => ?_⟩
    cases j with
    | zero => simp at hu; subst hu; simpa using hv
    | succ j => rw [show i + (j + 1) = i + 1 + j by omega]; exact h4 j u (by simpa using hu)
theorem add_add (a : Addr) (i j : Nat) : (a.add i).add j = a.add (i + j) := by
  unfold Go.Addr.add
  by_cases h1 : i = 0 <;> by_cases h2 : j = 0 <;> simp [h1, h2, Nat.add_assoc]
theorem CellsAt.drop {cs : List DV} {a : Addr} (h : CellsAt ρ N w cs a 0) (n : Nat) : CellsAt ρ N w (cs.drop n) (a.add n) 0 := by
  obtain ⟨vs, h1, h2⟩ := of_cellsAt h
  refine cellsAt_of (h1.drop n) fun j v hv => ?_
  rw [add_add, Nat.zero_add]
  have := h2 (n + j) v (by simpa using hv)
  simpa using this
theorem CellsAt.take {cs : List DV} {a : Addr} (h : CellsAt ρ N w cs a 0) (n : Nat) : CellsAt ρ N w (cs.take n) a 0 := by
  obtain ⟨vs, h1, h2⟩ := of_cellsAt h
  refine cellsAt_of (h1.take n) fun j v hv => ?_
  rw [List.getElem?_take] at hv
  split at hv
  · exact h2 j v hv
  · cases hv
end

/-! ### Memory -/
def EntR (ρ : Nm) (N : Nat → Prop) (w : World) : List (DV × DV × Nat) → List MapEntry → Prop
  | [], xs => xs = []
  | e :: es, xs => ∃ x xs', xs = x :: xs' ∧ VR ρ N w e.1 x.key ∧ VR ρ N w e.2.1 x.val ∧ e.2.2 = x.born ∧ EntR ρ N w es xs'

def ObjR (ρ : Nm) (N : Nat → Prop) (w : World) (g : Nat) : DO → Prop
  | .cells cs e _ => ∃ arr fr, w.heap[g]? = some (.cells arr e fr) ∧ (∀ i, i < arr.size → ¬ (fr.1 ≤ i ∧ i < fr.2)) ∧ cs.length ≤ arr.size ∧ VRL ρ N w cs (arr.toList.take cs.length)
  | .map es c => ∃ xs, w.heap[g]? = some (.map xs c) ∧ EntR ρ N w es xs.toList
  | .iter m since seen last => ∃ mo, (match m with | none => mo = none | some b => ∃ g', ρ b = some g' ∧ mo = some g') ∧ w.heap[g]? = some (.mapIter mo since seen.toArray last)
  | .dead => True

theorem EntR.later {ρ ρ' : Nm} {N N' : Nat → Prop} {w w' : World} (L : Later ρ N w ρ' N' w') : ∀ {es : List (DV × DV × Nat)} {xs : List MapEntry}, EntR ρ N w es xs → EntR ρ' N' w' es xs
  | [], _, h => h
  | e :: es, xs, h => by
    obtain ⟨x, xs', rfl, h1, h2, h3, h4⟩ := h
    exact ⟨x, xs', rfl, VR.later L _ _ h1, VR.later L _ _ h2, h3, EntR.later L h4⟩

theorem ObjR.later {ρ ρ' : Nm} {N N' : Nat → Prop} {w w' : World} (L : Later ρ N w ρ' N' w') {g : Nat} (hg : w'.heap[g]? = w.heap[g]?) {o : DO} (h : ObjR ρ N w g o) : ObjR ρ' N' w' g o := by
  cases o with
  | cells cs e ro =>
    obtain ⟨arr, fr, h1, h2, h3, h4⟩ := h
    exact ⟨arr, fr, hg.trans h1, h2, h3, VRL.later L _ _ h4⟩
  | map es c =>
    obtain ⟨xs, h1, h2⟩ := h
    exact ⟨xs, hg.trans h1, EntR.later L h2⟩
  | iter m s se l =>
    obtain ⟨mo, h1, h2⟩ := h
    refine ⟨mo, ?_, hg.trans h2⟩
    cases m with
    | none => exact h1
    | some b => obtain ⟨g', h3, h4⟩ := h1; exact ⟨g', L.ext _ _ h3, h4⟩
  | dead => trivial

structure MemG (ρ : Nm) (N : Nat → Prop) (w : World) (m : DH) : Prop where
  dom : ∀ b g, ρ b = some g → b < m.n ∧ g < w.heap.size
  fresh : ∀ b, m.n ≤ b → m.h.get b = none
  inj : ∀ b b' g o o', ρ b = some g → ρ b' = some g → m.h.get b = some o → m.h.get b' = some o' → o ≠ .dead → o' ≠ .dead → b = b'
  apart : ∀ b g, ρ b = some g → ¬ N g
  below : ∀ g, N g → g < w.heap.size

def Row (ρ : Nm) (N : Nat → Prop) (w : World) (m : DH) (b : Nat) : Prop := ∀ g o, ρ b = some g → m.h.get b = some o → ObjR ρ N w g o

structure Step (wrs : Nat → Prop) (ρ : Nm) (m : DH) (w : World) (ρ' : Nm) (m' : DH) (w' : World) : Prop where
  ext : ∀ b g, ρ b = some g → ρ' b = some g
  new : ∀ b g, ρ' b = some g → ρ b = some g ∨ (m.n ≤ b ∧ (w.heap.size ≤ g ∨ ∃ b0, wrs b0 ∧ ρ b0 = some g))
  wr : ∀ b, wrs b → ∃ o, m.h.get b = some o ∧ o ≠ .dead
  old : ∀ b, b < m.n → ¬ wrs b → m'.h.get b = m.h.get b
  le : m.n ≤ m'.n
  size : w.heap.size ≤ w'.heap.size
  frame : ∀ k, k < w.heap.size → (∀ b, wrs b → ρ b ≠ some k) → w'.heap[k]? = w.heap[k]?
  shape : ∀ (k : Nat) (arr : Array Value) (e : TypeId) (fr : Nat × Nat), w.heap[k]? = some (Obj.cells arr e fr) → ∃ (arr' : Array Value) (fr' : Nat × Nat), w'.heap[k]? = some (Obj.cells arr' e fr') ∧ arr'.size = arr.size
  os : w'.os = w.os
  tape : w'.tape = w.tape
  output : w'.output = w.output

theorem Step.refl (ρ : Nm) (m : DH) (w : World) : Step (· ∈ ([] : List Nat)) ρ m w ρ m w :=
  ⟨fun _ _ h => h, fun _ _ h => .inl h, fun _ h => by simp at h, fun _ _ _ => rfl, Nat.le_refl _, Nat.le_refl _, fun _ _ _ => rfl, fun _ arr _ fr h => ⟨arr, fr, h, rfl⟩, rfl, rfl, rfl⟩

theorem Step.later {wrs : Nat → Prop} {ρ ρ' : Nm} {N : Nat → Prop} {m m' : DH} {w w' : World} (h : Step wrs ρ m w ρ' m' w') (G : MemG ρ N w m) : Later ρ N w ρ' N w' :=
  ⟨h.ext, fun k hk hN => ⟨h.frame k hk fun b _ hb => G.apart b k hb hN, hN⟩, h.shape⟩

theorem Step.apart {wrs : Nat → Prop} {ρ ρ' : Nm} {N : Nat → Prop} {m m' : DH} {w w' : World} (h : Step wrs ρ m w ρ' m' w') (G : MemG ρ N w m) : ∀ b g, ρ' b = some g → ¬ N g := fun b g hb hN => by
  rcases h.new b g hb with h1 | ⟨_, h2 | ⟨b0, _, h3⟩⟩
  · exact G.apart b g h1 hN
  · have := G.below g hN; omega
  · exact G.apart b0 g h3 hN

theorem Step.row_old {wrs : Nat → Prop} {ρ ρ' : Nm} {N : Nat → Prop} {m m' : DH} {w w' : World} (h : Step wrs ρ m w ρ' m' w') (G : MemG ρ N w m) {b : Nat} (hb : b < m.n) (hw : ¬ wrs b)
    (R : Row ρ N w m b) : Row ρ' N w' m' b := by
  intro g o hρ ho
  rw [h.old b hb hw] at ho
  rcases h.new b g hρ with h1 | ⟨h1, _⟩
  · by_cases hd : o = .dead
    · subst hd; trivial
    · refine ObjR.later (h.later G) (h.frame g (G.dom b g h1).2 fun b0 hb0 h0 => ?_) (R g o h1 ho)
      obtain ⟨o0, h2, h3⟩ := h.wr b0 hb0
      have := G.inj b b0 g o o0 h1 h0 ho h2 hd h3
      subst this
      exact hw hb0
  · omega

end Go.Det
