/-
  How a value of the deterministic machine stands for a value of the model, and how its memory stands for a world.
-/
import Derived.Test.YthbnlmmidanaiaaGreatDetCore
import Derived.Below
import Derived.KernelRfl
set_option linter.unusedVariables false
set_option linter.unusedSimpArgs false
set_option linter.unusedSectionVars false
namespace Go.Det

/-! ### The store -/
def unway : PW → Nat
  | .z => 0
  | .a p => unway p * 4 + 1
  | .b p => unway p * 4 + 2
  | .c p => unway p * 4 + 3
  | .d p => unway p * 4 + 4

theorem unway_dig (p : PW) (n : Nat) (h : n < 4) : unway (digD p n) = unway p * 4 + (n + 1) := by
  match n, h with
  | 0, _ => rfl
  | 1, _ => rfl
  | 2, _ => rfl
  | 3, _ => rfl

theorem unway_wayF : ∀ (f i : Nat), i < f → unway (wayF f i) = i := by
  intro f
  induction f with
  | zero => intro i h; omega
  | succ f ih =>
    intro i h
    cases i with
    | zero => rfl
    | succ j =>
      rw [wayF, unway_dig _ _ (Nat.mod_lt _ (by omega)), ih _ (by omega)]
      omega

theorem unway_way (i : Nat) : unway (way i) = i := unway_wayF _ _ (Nat.lt_succ_self _)

theorem PM.getP_lf {α : Type} (p : PW) : PM.getP p (PM.lf : PM α) = none := by
  cases p <;> rfl

theorem PM.get_lf {α : Type} (i : Nat) : (PM.lf : PM α).get i = none := PM.getP_lf _

theorem PM.getP_setP {α : Type} (x : α) (p : PW) : ∀ (t : PM α) (q : PW), PM.getP q (PM.setP x p t) = if p = q then some x else PM.getP q t := by
  induction p with
  | z => intro t q; cases t <;> cases q <;> simp [PM.setP, PM.getP, PM.getP_lf]
  | a p ih | b p ih | c p ih | d p ih =>
    intro t q
    cases t <;> cases q <;> simp [PM.setP, PM.getP, PM.getP_lf, ih]

theorem PM.get_set {α : Type} (t : PM α) (i j : Nat) (x : α) : (t.set i x).get j = if i = j then some x else t.get j := by
  rw [PM.get, PM.set, PM.getP_setP]
  by_cases h : i = j
  · subst h; rw [if_pos rfl, if_pos rfl]
  · rw [if_neg h, if_neg (fun e => h (by rw [← unway_way i, e, unway_way])), PM.get]
theorem PM.get_set_same {α : Type} (t : PM α) (i : Nat) (x : α) : (t.set i x).get i = some x := by rw [PM.get_set, if_pos rfl]
theorem PM.get_set_ne {α : Type} (t : PM α) {i j : Nat} (x : α) (h : i ≠ j) : (t.set i x).get j = t.get j := by rw [PM.get_set, if_neg h]

/-! ### Values -/
abbrev Nm := Nat → Option Nat

mutual
/-- The value 'v' is what 'd' stands for: by the rows that names have; 'N': rows that nobody changes. -/
def VR (ρ : Nm) (N : Nat → Prop) (w : World) : DV → Value → Prop
  | .int k n, v => v = .int k n
  | .bool b, v => v = .bool b
  | .str s, v => v = .string s
  | .sl b off len cap ex sz, v => ∃ g off' c arr e fr, ρ b = some g ∧ v = .slice (some ⟨g, off', none⟩) len c ∧ (c = 0 ∨ off' = off) ∧ len ≤ cap ∧ cap ≤ c ∧ (ex = true → c = cap) ∧ c ≤ maxLen ∧
      w.heap[g]? = some (.cells arr e fr) ∧ off + c * sz ≤ arr.size
  | .dsl z sz n cs, v => ∃ a c, v = .slice a n c ∧ n ≤ c ∧ c ≤ maxLen ∧ (z = some true → a = none ∧ c = 0) ∧ (z = some false → a ≠ none) ∧ (a = none → n = 0 ∧ c = 0) ∧ cs.length = n * sz ∧
      (∀ ad, a = some ad → cs ≠ [] → N ad.block ∧ CellsAt ρ N w cs ad 0)
  | .ptr b off, v => ∃ g, ρ b = some g ∧ v = .pointer (some ⟨g, off, none⟩)
  | .nilp, v => v = .pointer none
  | .dptr cs, v => ∃ ad, v = .pointer (some ad) ∧ (cs ≠ [] → N ad.block ∧ CellsAt ρ N w cs ad 0)
  | .fn f fst caps, v => ∃ us vs, v = .func (.func f) ⟨us⟩ ⟨vs⟩ ∧ VRL ρ N w fst us ∧ VRL ρ N w caps vs
  | .nilf, v => v = .nilFunc
  | .mp b, v => ∃ g, ρ b = some g ∧ v = .map (some g)
  | .nilm, v => v = .map none
  | .agg cs, v => ∃ vs, v = .agg ⟨vs⟩ ∧ VRL ρ N w cs vs
  | .tup cs, v => ∃ vs, v = .tuple ⟨vs⟩ ∧ VRL ρ N w cs vs
  | .junk, _ => True
def VRL (ρ : Nm) (N : Nat → Prop) (w : World) : List DV → List Value → Prop
  | [], vs => vs = []
  | d :: ds, vs => ∃ v vs', vs = v :: vs' ∧ VR ρ N w d v ∧ VRL ρ N w ds vs'
/-- From an address on, cell by cell. -/
def CellsAt (ρ : Nm) (N : Nat → Prop) (w : World) : List DV → Addr → Nat → Prop
  | [], _, _ => True
  | d :: ds, a, i => (∃ v, w.cell? (a.add i) = some v ∧ VR ρ N w d v) ∧ CellsAt ρ N w ds a (i + 1)
end

/-- What may be changed. -/
def DO.wr : DO → Bool
  | .cells _ _ ro => !ro
  | .map _ _ => true
  | .iter _ _ _ _ => true
  | .dead => false

/-- From one state to a later one: what values stand for does not turn. -/
structure Later (ρ : Nm) (N : Nat → Prop) (w : World) (ρ' : Nm) (N' : Nat → Prop) (w' : World) : Prop where
  ext : ∀ b g, ρ b = some g → ρ' b = some g
  keep : ∀ k, k < w.heap.size → N k → w'.heap[k]? = w.heap[k]? ∧ N' k
  shape : ∀ (k : Nat) (arr : Array Value) (e : TypeId) (fr : Nat × Nat), w.heap[k]? = some (Obj.cells arr e fr) → ∃ (arr' : Array Value) (fr' : Nat × Nat), w'.heap[k]? = some (Obj.cells arr' e fr') ∧ arr'.size = arr.size

theorem Later.refl (ρ : Nm) (N : Nat → Prop) (w : World) : Later ρ N w ρ N w := ⟨fun _ _ h => h, fun _ _ h => ⟨rfl, h⟩, fun _ arr _ fr h => ⟨arr, fr, h, rfl⟩⟩

theorem lt_of_cell {w : World} {a : Addr} {v : Value} (h : w.cell? a = some v) : a.block < w.heap.size := World.block_lt_of_cell? w a h

theorem Addr.block_add (a : Addr) (n : Nat) : (a.add n).block = a.block := by unfold Go.Addr.add; split <;> rfl

theorem CellsAt.lt {ρ : Nm} {N : Nat → Prop} {w : World} {cs : List DV} {a : Addr} {i : Nat} (h : CellsAt ρ N w cs a i) (hc : cs ≠ []) : a.block < w.heap.size := by
  cases cs with
  | nil => exact absurd rfl hc
  | cons d ds =>
    simp only [CellsAt] at h
    obtain ⟨⟨v, hv, _⟩, _⟩ := h
    have := lt_of_cell hv
    rwa [Addr.block_add] at this

mutual
theorem VR.later {ρ ρ' : Nm} {N N' : Nat → Prop} {w w' : World} (L : Later ρ N w ρ' N' w') : ∀ (d : DV) (v : Value), VR ρ N w d v → VR ρ' N' w' d v
  | .int .., _, h => by simpa [VR] using h
  | .bool .., _, h => by simpa [VR] using h
  | .str .., _, h => by simpa [VR] using h
  | .sl b off len cap ex sz, v, h => by
    simp only [VR] at h ⊢
    obtain ⟨g, off', c, arr, e, fr, h1, h2, h3, h4, h5, h6, h7, h8, h9⟩ := h
    obtain ⟨arr', fr', h10, h11⟩ := L.shape _ _ _ _ h8
    exact ⟨g, off', c, arr', e, fr', L.ext _ _ h1, h2, h3, h4, h5, h6, h7, h10, by omega⟩
  | .dsl z sz n cs, v, h => by
    simp only [VR] at h ⊢
    obtain ⟨a, c, h1, h2, h3, h4, h5, h6, h7, h8⟩ := h
    refine ⟨a, c, h1, h2, h3, h4, h5, h6, h7, fun ad had hn => ?_⟩
    obtain ⟨h9, h10⟩ := h8 ad had hn
    exact ⟨(L.keep _ (h10.lt hn) h9).2, CellsAt.later L cs ad 0 h9 h10⟩
  | .ptr b off, v, h => by
    simp only [VR] at h ⊢
    obtain ⟨g, h1, h2⟩ := h
    exact ⟨g, L.ext _ _ h1, h2⟩
  | .nilp, _, h => by simpa [VR] using h
  | .dptr cs, v, h => by
    simp only [VR] at h ⊢
    obtain ⟨ad, h1, h2⟩ := h
    refine ⟨ad, h1, fun hn => ?_⟩
    obtain ⟨h9, h10⟩ := h2 hn
    exact ⟨(L.keep _ (h10.lt hn) h9).2, CellsAt.later L cs ad 0 h9 h10⟩
  | .fn f fst caps, v, h => by
    simp only [VR] at h ⊢
    obtain ⟨us, vs, h1, h2, h3⟩ := h
    exact ⟨us, vs, h1, VRL.later L fst us h2, VRL.later L caps vs h3⟩
  | .nilf, _, h => by simpa [VR] using h
  | .mp b, v, h => by
    simp only [VR] at h ⊢
    obtain ⟨g, h1, h2⟩ := h
    exact ⟨g, L.ext _ _ h1, h2⟩
  | .nilm, _, h => by simpa [VR] using h
  | .agg cs, v, h => by
    simp only [VR] at h ⊢
    obtain ⟨vs, h1, h2⟩ := h
    exact ⟨vs, h1, VRL.later L cs vs h2⟩
  | .tup cs, v, h => by
    simp only [VR] at h ⊢
    obtain ⟨vs, h1, h2⟩ := h
    exact ⟨vs, h1, VRL.later L cs vs h2⟩
  | .junk, _, _ => by simp [VR]
theorem VRL.later {ρ ρ' : Nm} {N N' : Nat → Prop} {w w' : World} (L : Later ρ N w ρ' N' w') : ∀ (ds : List DV) (vs : List Value), VRL ρ N w ds vs → VRL ρ' N' w' ds vs
  | [], _, h => by simpa [VRL] using h
  | d :: ds, vs, h => by
    simp only [VRL] at h ⊢
    obtain ⟨v, vs', h1, h2, h3⟩ := h
    exact ⟨v, vs', h1, VR.later L d v h2, VRL.later L ds vs' h3⟩
theorem CellsAt.later {ρ ρ' : Nm} {N N' : Nat → Prop} {w w' : World} (L : Later ρ N w ρ' N' w') : ∀ (ds : List DV) (a : Addr) (i : Nat), N a.block → CellsAt ρ N w ds a i → CellsAt ρ' N' w' ds a i
  | [], _, _, _, _ => by simp [CellsAt]
  | d :: ds, a, i, hN, h => by
    simp only [CellsAt] at h ⊢
    obtain ⟨⟨v, hv, h1⟩, h2⟩ := h
    have hlt : a.block < w.heap.size := by
      have := lt_of_cell hv
      rwa [Addr.block_add] at this
    refine ⟨⟨v, ?_, VR.later L d v h1⟩, CellsAt.later L ds a (i + 1) hN h2⟩
    rw [World.cell?_of_block (w := w)]
    · exact hv
    · rw [Addr.block_add]; exact (L.keep _ hlt hN).1
end
end Go.Det
