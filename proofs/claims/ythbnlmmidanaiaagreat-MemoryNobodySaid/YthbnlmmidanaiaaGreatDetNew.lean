/-
  New rows: what is made; structs and slices that are built.
-/
import Derived.Test.YthbnlmmidanaiaaGreatDetCut
import Derived.Great.BuildSlice
import Derived.Laws.MakeOwn
import Derived.Carry
set_option linter.unusedVariables false
set_option linter.unusedSimpArgs false
set_option linter.unusedSectionVars false
namespace Go.Det

def nm (ρ : Nm) (n g : Nat) : Nm := fun b => if b = n then some g else ρ b

structure IsNew (w w' : World) (ob : Obj) : Prop where
  heap : w'.heap = w.heap.push ob
  os : w'.os = w.os
  tape : w'.tape = w.tape
  output : w'.output = w.output

theorem IsNew.alloc (w : World) (ob : Obj) : IsNew w (w.alloc ob) ob := ⟨rfl, rfl, rfl, rfl⟩
theorem IsNew.drew (w : World) (ob : Obj) : IsNew w (w.drew.alloc ob) ob := ⟨rfl, rfl, rfl, rfl⟩
theorem IsNew.last {w w' : World} {ob : Obj} (h : IsNew w w' ob) : w'.heap[w.heap.size]? = some ob := by rw [h.heap]; simp
theorem IsNew.old {w w' : World} {ob : Obj} (h : IsNew w w' ob) {k : Nat} (hk : k < w.heap.size) : w'.heap[k]? = w.heap[k]? := by
  rw [h.heap, Array.getElem?_push, if_neg (by omega)]

section
variable {P : Program} {o : Oper} {a : Act} {ρ : Nm} {N : Nat → Prop} {m : DH} {w : World} {t : Slots}

theorem new_step (G : MemG ρ N w m) {w' : World} {ob : Obj} (h : IsNew w w' ob) (d : DO) : Step (· ∈ []) ρ m w (nm ρ m.n w.heap.size) (m.add d) w' ∧ MemG (nm ρ m.n w.heap.size) N w' (m.add d) := by
  have hs : Step (· ∈ []) ρ m w (nm ρ m.n w.heap.size) (m.add d) w' := by
    refine ⟨fun b g hb => ?_, fun b g hb => ?_, fun b hb => by simp at hb, fun b hb _ => ?_, Nat.le_succ _, by rw [h.heap]; simp, fun k hk _ => h.old hk, fun k arr e fr hk => ⟨arr, fr, ?_, rfl⟩, h.os, h.tape, h.output⟩
    · have := (G.dom b g hb).1
      simp only [nm]; rw [if_neg (by omega)]; exact hb
    · simp only [nm] at hb
      split at hb
      · injection hb with hb; right; exact ⟨by omega, .inl (by omega)⟩
      · exact .inl hb
    · rw [PM.get_set_ne _ _ (by omega)]
    · rw [h.old]
      · exact hk
      · rcases Nat.lt_or_ge k w.heap.size with h1 | h1
        · exact h1
        · rw [Array.getElem?_eq_none h1] at hk; cases hk
  refine ⟨hs, ⟨fun b g hb => ?_, fun b hb => ?_, fun b b' g o1 o2 h1 h2 h3 h4 h5 h6 => ?_, hs.apart G, fun g hg => Nat.lt_of_lt_of_le (G.below g hg) hs.size⟩⟩
  · simp only [nm] at hb
    rw [h.heap, Array.size_push]
    split at hb
    · injection hb with hb; show _ < m.n + 1 ∧ _; omega
    · have := G.dom b g hb; show _ < m.n + 1 ∧ _; omega
  · have hb' : m.n + 1 ≤ b := hb
    rw [PM.get_set_ne _ _ (by omega)]
    exact G.fresh b (by omega)
  · simp only [nm] at h1 h2
    split at h1 <;> split at h2
    · omega
    · injection h1 with h1; have := (G.dom b' g h2).2; omega
    · injection h2 with h2; have := (G.dom b g h1).2; omega
    · rename_i q1 q2
      rw [PM.get_set_ne _ _ (Ne.symm q1)] at h3
      rw [PM.get_set_ne _ _ (Ne.symm q2)] at h4
      exact G.inj b b' g o1 o2 h1 h2 h3 h4 h5 h6

/-- What makes a row: the model makes one, and the name 'b' may be given to it. -/
def NewS (P : Program) (o : Oper) (a : Act) (ρ : Nm) (N : Nat → Prop) (w : World) (b : Nat) (v : DV) (d : DO) : Prop :=
  ∃ ob x w', IsNew w w' ob ∧ (execOp a.eval o).run P w = .ok (.value x) w' ∧ ∀ ρ', Later ρ N w ρ' N w' → ρ' b = some w.heap.size → ObjR ρ' N w' w.heap.size d ∧ VR ρ' N w' v x

theorem done_new (G : MemG ρ N w m) {d : DO} {v : DV} (h : NewS P o a ρ N w m.n v d) : Done P o a ρ N m w [] v (m.add d) := by
  obtain ⟨ob, x, w', h, hr, hO⟩ := h
  obtain ⟨hs, hG⟩ := new_step G h d
  obtain ⟨h1, h2⟩ := hO _ (hs.later G) (by simp [nm])
  refine ⟨_, _, _, hr, hs, hG, fun b hb => ?_, .inl ⟨x, rfl, h2⟩⟩
  rcases hb with hb | hb
  · simp at hb
  · intro g q hg hq
    simp only [nm] at hg
    split at hg
    · rename_i e
      subst e
      injection hg with hg
      subst hg
      rw [PM.get_set_same] at hq
      injection hq with hq
      subst hq
      exact h1
    · have := (G.dom b g hg).1; omega

theorem obj_cells {ρ : Nm} {N : Nat → Prop} {w : World} {g : Nat} {cs : List DV} {vs : List Value} {arr : Array Value} {e : TypeId} {ro : Bool} (harr : w.heap[g]? = some (.cells arr e)) (hv : VRL ρ N w cs vs) (ht : arr.toList.take vs.length = vs) : ObjR ρ N w g (.cells cs e ro) := by
  refine ⟨arr, (0, 0), harr, fun i _ h => by simp at h, ?_, ?_⟩
  · have := congrArg List.length ht
    rw [List.length_take] at this
    rw [hv.length]
    simp at this ⊢
    omega
  · rw [hv.length, ht]; exact hv

theorem cells_of2 {ρ : Nm} {N : Nat → Prop} {w : World} {d : DV} {v : Value} (h : VR ρ N w d v) (hj : d ≠ .junk) : VRL ρ N w d.cells v.cells.toList := by
  by_cases h1 : allOne d.cells = true
  · exact cells_of h h1
  · cases d
    case agg cs => simp only [VR] at h; obtain ⟨vs, rfl, hv⟩ := h; simpa [DV.cells, Value.cells] using hv
    case tup cs => simp only [VR] at h; obtain ⟨vs, rfl, hv⟩ := h; exact VRL.cons (by simp only [VR]; exact ⟨vs, rfl, hv⟩) VRL.nil
    case junk => exact absurd rfl hj
    all_goals exact absurd (by simp [allOne, DV.cells, DV.one]) h1

theorem zeroOf_junk {T : TypeId} {z : DV} (h : zeroOf P T = some z) : z ≠ .junk := by
  unfold zeroOf at h
  split at h
  · split at h
    · split at h
      · cases h
      · rename_i hz; injection h with h; subst h; exact hz
    · cases h
  · cases h

theorem zeroOf_spec {T : TypeId} {z : DV} (h : zeroOf P T = some z) : ∃ i v, P.info? T = some i ∧ i.zero = some v ∧ ∀ (ρ : Nm) (N : Nat → Prop) (w : World), VR ρ N w z v ∧ VRL ρ N w z.cells v.cells.toList := by
  have hj := zeroOf_junk h
  unfold zeroOf at h
  split at h
  · rename_i i hi
    split at h
    · rename_i v hz
      split at h
      · cases h
      · injection h with h
        subst h
        exact ⟨i, v, hi, hz, fun ρ N w => ⟨ofConst_spec v, cells_of2 (ofConst_spec v) hj⟩⟩
    · cases h
  · cases h

theorem new_alloc {e : TypeId} (ho : o.op = .alloc e) {v : DV} {m' : DH} (h : allocD P e m = some (v, m')) : ∃ d, m' = m.add d ∧ NewS P o a ρ N w m.n v d := by
  unfold allocD newPtr at h
  split at h
  · rename_i z hz
    injection h with h; injection h with h1 h2; subst h1 h2
    obtain ⟨i, x, hi, hx, hv⟩ := zeroOf_spec hz
    refine ⟨.cells z.cells e false, rfl, _, .pointer (some ⟨w.heap.size, 0, none⟩), _, IsNew.alloc w (.cells x.cells e), ?_, fun ρ' L hb => ⟨?_, ?_⟩⟩
    · unfold execOp
      simp [ho, Instr.alloc, zeroValue, typeInfo, hi, hx, newVar, newRow]
    · exact obj_cells (IsNew.alloc w (.cells x.cells e)).last (hv _ _ _).2 List.take_length
    · simp only [VR]; exact ⟨_, hb, rfl⟩
  · cases h

theorem new_box (S : SR ρ N w t a.tmps) {e : TypeId} {x : Operand} (ho : o.op = .box e x) {v : DV} {m' : DH} (h : boxD e (ev t x) m = some (v, m')) : ∃ d, m' = m.add d ∧ NewS P o a ρ N w m.n v d := by
  unfold boxD newPtr at h
  split at h
  · rename_i hall
    injection h with h; injection h with h1 h2; subst h1 h2
    have hx := ev_spec S x
    refine ⟨.cells (ev t x).cells e false, rfl, _, .pointer (some ⟨w.heap.size, 0, none⟩), _, IsNew.alloc w (.cells (a.eval x).cells e), ?_, fun ρ' L hb => ⟨?_, ?_⟩⟩
    · unfold execOp
      simp [ho, Instr.box, newVar, newRow]
    · exact obj_cells (IsNew.alloc w (.cells (a.eval x).cells e)).last (VRL.later L _ _ (cells_of hx hall)) List.take_length
    · simp only [VR]; exact ⟨_, hb, rfl⟩
  · cases h

theorem new_makeMap {T : TypeId} (ho : o.op = .makeMap T none) {v : DV} {m' : DH} (h : some ((.mp m.n, { m with h := m.h.set m.n (.map [] 0), n := m.n + 1 }) : DV × DH) = some (v, m')) : ∃ d, m' = m.add d ∧ NewS P o a ρ N w m.n v d := by
  injection h with h; injection h with h1 h2; subst h1 h2
  refine ⟨.map [] 0, rfl, _, .map (some w.heap.size), _, IsNew.alloc w (.map #[] 0), ?_, fun ρ' L hb => ⟨?_, ?_⟩⟩
  · unfold execOp
    simp [ho, show (Instr.makeMap T none).run P w = .ok (.map (some w.heap.size)) (w.alloc (.map #[] 0)) from rfl]
  · exact ⟨#[], (IsNew.alloc w (.map #[] 0)).last, rfl⟩
  · simp only [VR]; exact ⟨_, hb, rfl⟩

/-! ### Rows of zeros -/
def zerosV (z : List Value) : Nat → List Value
  | 0 => []
  | n + 1 => z ++ zerosV z n
theorem zerosV_length (z : List Value) : ∀ n, (zerosV z n).length = n * z.length
  | 0 => by simp [zerosV]
  | n + 1 => by simp [zerosV, zerosV_length z n, Nat.succ_mul, Nat.add_comm]
theorem zerosV_get (z : List Value) (hz : 0 < z.length) : ∀ (n i : Nat), i < n * z.length → (zerosV z n)[i]? = z[i % z.length]?
  | 0, i, h => by simp at h
  | n + 1, i, h => by
    simp only [zerosV]
    by_cases hi : i < z.length
    · rw [List.getElem?_append_left hi, Nat.mod_eq_of_lt hi]
    · rw [List.getElem?_append_right (by omega), zerosV_get z hz n (i - z.length) (by rw [Nat.succ_mul] at h; omega)]
      rw [Nat.mod_eq_sub_mod (by omega : z.length ≤ i)]
theorem madeCells_eq (z : Array Value) (n : Nat) (hz : 0 < z.size) : ((Array.range (n * z.size)).map (z[· % z.size]!)).toList = zerosV z.toList n := by
  apply List.ext_getElem?
  intro i
  by_cases hi : i < n * z.size
  · rw [zerosV_get _ (by simpa using hz) n i (by simpa using hi)]
    have hm : i % z.size < z.size := Nat.mod_lt _ hz
    simp only [Array.toList_map, Array.toList_range, List.getElem?_map, List.getElem?_range hi, Option.map_some, Array.length_toList, Array.getElem?_toList]
    rw [Array.getElem?_eq_getElem hm, getElem!_pos z _ hm]
  · rw [List.getElem?_eq_none (by simp; omega), List.getElem?_eq_none (by rw [zerosV_length]; simp; omega)]
theorem zeros_spec {ρ : Nm} {N : Nat → Prop} {w : World} {z : List DV} {zv : List Value} (h : VRL ρ N w z zv) : ∀ n, VRL ρ N w (zerosD z n) (zerosV zv n)
  | 0 => VRL.nil
  | n + 1 => h.append (zeros_spec h n)
end
end Go.Det
