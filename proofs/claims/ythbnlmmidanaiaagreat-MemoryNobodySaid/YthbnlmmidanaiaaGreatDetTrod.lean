/-
  What a row's argument reads as: a value of the machine that nobody changes, of the argument's type.
-/
import Derived.Test.YthbnlmmidanaiaaGreatDetKnown
import Derived.ProofKit
import Derived.OpenShut
import Derived.HandedShaped
set_option linter.unusedVariables false
set_option linter.unusedSimpArgs false
set_option linter.unusedSectionVars false
namespace Go.Det

/-! ### Values of a type -/
inductive Ty (P : Program) : TypeId → List DV → Prop
  | bool {t : TypeId} {b : Bool} : P.underlying t = some .bool → Ty P t [.bool b]
  | int {t : TypeId} {k : IntKind} {n : Int} : P.underlying t = some (.int k) → (Lit.int k n).wf = true → Ty P t [.int k n]
  | str {t : TypeId} {s : ByteArray} : P.underlying t = some .string → s.size ≤ maxLen → Ty P t [.str s]
  | nilp {t e : TypeId} : P.underlying t = some (.pointer e) → Ty P t [.nilp]
  | ptr {t e : TypeId} {cs : List DV} : P.underlying t = some (.pointer e) → Ty P e cs → Ty P t [.dptr cs]
  | nils {t e : TypeId} : P.underlying t = some (.slice e) → Ty P t [.dsl (some true) 0 0 []]
  | slice {t e : TypeId} (els : List (List DV)) : P.underlying t = some (.slice e) → els.length ≤ maxLen → (∀ c, c ∈ els → Ty P e c) → (∀ c, c ∈ els → c.length = P.cellsOf e) → Ty P t [.dsl (some false) (P.cellsOf e) els.length els.flatten]
  | struct {t : TypeId} {fs : Array Field} (parts : List (List DV)) : P.underlying t = some (.struct fs) → parts.length = fs.size → (∀ (i : Nat) (f : Field) (c : List DV), fs.toList[i]? = some f → parts[i]? = some c → Ty P f.type c) → (∀ (i : Nat) (f : Field) (c : List DV), fs.toList[i]? = some f → parts[i]? = some c → c.length = P.cellsOf f.type) → Ty P t parts.flatten
  | array {t e : TypeId} {n : Nat} (els : List (List DV)) : P.underlying t = some (.array n e) → els.length = n → (∀ c, c ∈ els → Ty P e c) → (∀ c, c ∈ els → c.length = P.cellsOf e) → Ty P t els.flatten
  | other {t : TypeId} : (∀ e, P.underlying t ≠ some (.slice e)) → (∀ e, P.underlying t ≠ some (.pointer e)) → P.underlying t ≠ some .bool → (∀ k, P.underlying t ≠ some (.int k)) → P.underlying t ≠ some .string → (∀ fs, P.underlying t ≠ some (.struct fs)) → (∀ n e, P.underlying t ≠ some (.array n e)) → Ty P t [.junk]

section
variable {P : Program} {t : TypeId} {cs : List DV}
theorem Ty.bool_inv (hu : P.underlying t = some .bool) (h : Ty P t cs) : ∃ b, cs = [.bool b] := by
  cases h <;> simp_all
theorem Ty.int_inv {k : IntKind} (hu : P.underlying t = some (.int k)) (h : Ty P t cs) : ∃ n, cs = [.int k n] ∧ (Lit.int k n).wf = true := by
  cases h <;> simp_all
theorem Ty.str_inv (hu : P.underlying t = some .string) (h : Ty P t cs) : ∃ s, cs = [.str s] ∧ s.size ≤ maxLen := by
  cases h <;> simp_all
theorem Ty.slice_inv {e : TypeId} (hu : P.underlying t = some (.slice e)) (h : Ty P t cs) : cs = [.dsl (some true) 0 0 []] ∨ ∃ els : List (List DV), cs = [.dsl (some false) (P.cellsOf e) els.length els.flatten] ∧ els.length ≤ maxLen ∧ (∀ c, c ∈ els → Ty P e c) ∧ (∀ c, c ∈ els → c.length = P.cellsOf e) := by
  cases h with
  | nils hu' => exact .inl rfl
  | slice els hu' h1 h2 h3 =>
    rw [hu] at hu'; injection hu' with hu'; injection hu' with hu'; subst hu'
    exact .inr ⟨els, rfl, h1, h2, h3⟩
  | _ => simp_all
theorem Ty.struct_inv {fs : Array Field} (hu : P.underlying t = some (.struct fs)) (h : Ty P t cs) : ∃ parts : List (List DV), cs = parts.flatten ∧ parts.length = fs.size ∧ ∀ (i : Nat) (f : Field) (c : List DV), fs.toList[i]? = some f → parts[i]? = some c → Ty P f.type c := by
  cases h with
  | struct parts hu' h1 h2 h3 =>
    rw [hu] at hu'; injection hu' with hu'; injection hu' with hu'; subst hu'
    exact ⟨parts, rfl, h1, h2⟩
  | _ => simp_all
end

theorem mapM_get {α β : Type} {f : α → Option β} : ∀ {l : List α} {r : List β}, l.mapM f = some r → r.length = l.length ∧ ∀ (i : Nat) (a : α), l[i]? = some a → ∃ y, r[i]? = some y ∧ f a = some y
  | [], r, h => by
    simp at h; subst h
    exact ⟨rfl, fun i a h => by simp at h⟩
  | x :: l, r, h => by
    rw [List.mapM_cons] at h
    cases hx : f x with
    | none => rw [hx] at h; cases h
    | some y =>
      rw [hx] at h
      cases hl : l.mapM f with
      | none => rw [hl] at h; cases h
      | some ys =>
        rw [hl] at h
        simp at h; subst h
        obtain ⟨h1, h2⟩ := mapM_get hl
        refine ⟨by simp [h1], fun i a hi => ?_⟩
        cases i with
        | zero => simp at hi; subst hi; exact ⟨y, rfl, hx⟩
        | succ i => simpa using h2 i a (by simpa using hi)

theorem addr_add (a : Addr) (x y : Nat) : (a.add x).add y = a.add (x + y) := by
  unfold Addr.add
  by_cases hx : x = 0
  · subst hx; simp
  · by_cases hy : y = 0
    · subst hy; simp
    · simp [hx, hy, Nat.add_assoc]

theorem CellsAt.append {ρ : Nm} {N : Nat → Prop} {w : World} {a : Addr} : ∀ {xs ys : List DV} {i : Nat}, CellsAt ρ N w xs a i → CellsAt ρ N w ys a (i + xs.length) → CellsAt ρ N w (xs ++ ys) a i
  | [], ys, i, _, h => by simpa using h
  | x :: xs, ys, i, h, k => by
    simp only [CellsAt, List.cons_append] at h ⊢
    refine ⟨h.1, CellsAt.append h.2 ?_⟩
    rw [show i + 1 + xs.length = i + (x :: xs).length by simp; omega]
    exact k

theorem flatten_len {α : Type} {k : Nat} : ∀ {l : List (List α)}, (∀ c, c ∈ l → c.length = k) → l.flatten.length = l.length * k
  | [], _ => by simp
  | c :: l, h => by
    have := flatten_len (l := l) fun c hc => h c (List.mem_cons_of_mem _ hc)
    simp only [List.flatten_cons, List.length_append, List.length_cons, h c List.mem_cons_self, this, Nat.add_mul]
    omega

section
variable {H : Type} {enc : TypeId × Value → H} {P : Program} {w : World} {ρ : Nm} {N : Nat → Prop}

/-- Parts that tile a list. -/
theorem tile : ∀ (ts : List TypeId) (cs : List Value), cs.length = (ts.map P.cellsOf).sum →
    (∀ (i : Nat) t, ts[i]? = some t → ∃ ds, VRL ρ N w ds ((cs.drop ((ts.take i).map P.cellsOf).sum).take (P.cellsOf t)) ∧ Ty P t ds) →
    ∃ parts : List (List DV), parts.length = ts.length ∧ VRL ρ N w parts.flatten cs ∧ ∀ (i : Nat) t c, ts[i]? = some t → parts[i]? = some c → Ty P t c ∧ c.length = P.cellsOf t
  | [], cs, hl, _ => by
    simp at hl; subst hl
    exact ⟨[], rfl, VRL.nil, fun i t c h => by simp at h⟩
  | t :: ts, cs, hl, h => by
    simp only [List.map_cons, List.sum_cons] at hl
    obtain ⟨ds, h1, h2⟩ := h 0 t rfl
    simp only [List.take_zero, List.map_nil, List.sum_nil, List.drop_zero] at h1
    obtain ⟨parts, h3, h4, h5⟩ := tile ts (cs.drop (P.cellsOf t)) (by simp; omega) fun i u hu => by
      obtain ⟨es, k1, k2⟩ := h (i + 1) u (by simpa using hu)
      refine ⟨es, ?_, k2⟩
      simpa [List.drop_drop, Nat.add_comm] using k1
    have hlen : ds.length = P.cellsOf t := by
      rw [h1.length]; simp; omega
    refine ⟨ds :: parts, by simp [h3], ?_, fun i u c hu hc => ?_⟩
    · rw [List.flatten_cons]
      have := h1.append h4
      rwa [List.take_append_drop] at this
    · cases i with
      | zero => simp at hu hc; subst hu hc; exact ⟨h2, hlen⟩
      | succ i => exact h5 i u c (by simpa using hu) (by simpa using hc)

/-- Elements that stand one behind the other in memory. -/
theorem elems_at {a : Addr} {k : Nat} {e : TypeId} : ∀ (n i0 : Nat), (∀ i, i < n → ∃ xs ds, xs.length = k ∧ (∀ j v, xs[j]? = some v → w.cell? ((a.add ((i0 + i) * k)).add j) = some v) ∧ VRL ρ N w ds xs ∧ Ty P e ds) →
    ∃ els : List (List DV), els.length = n ∧ CellsAt ρ N w els.flatten a (i0 * k) ∧ ∀ c, c ∈ els → Ty P e c ∧ c.length = k
  | 0, i0, _ => ⟨[], rfl, by simp [CellsAt], fun c h => by simp at h⟩
  | n + 1, i0, h => by
    obtain ⟨xs, ds, h1, h2, h3, h4⟩ := h 0 (by omega)
    obtain ⟨els, h5, h6, h7⟩ := elems_at n (i0 + 1) fun i hi => by
      have := h (i + 1) (by omega)
      rwa [show i0 + 1 + i = i0 + (i + 1) by omega]
    have hl : ds.length = k := by rw [h3.length, h1]
    refine ⟨ds :: els, by simp [h5], ?_, fun c hc => ?_⟩
    · rw [List.flatten_cons]
      refine CellsAt.append (cellsAt_of h3 fun j v hv => ?_) (by rw [hl, show i0 * k + k = (i0 + 1) * k by rw [Nat.add_mul]; omega]; exact h6)
      have := h2 j v hv
      rw [addr_add] at this
      exact this
    · rcases List.mem_cons.1 hc with hc | hc
      · subst hc; exact ⟨h4, hl⟩
      · exact h7 c hc

theorem cells?_get {a : Addr} {k : Nat} {xs : List Value} (h : w.cells? 0 a k = some xs) : xs.length = k ∧ ∀ j v, xs[j]? = some v → w.cell? (a.add j) = some v := by
  unfold World.cells? at h
  rw [if_pos (Nat.zero_le _)] at h
  obtain ⟨h1, h2⟩ := mapM_get h
  rw [List.length_range] at h1
  refine ⟨h1, fun j v hv => ?_⟩
  have hj : j < k := by rw [← h1]; exact (List.getElem?_eq_some_iff.1 hv).1
  obtain ⟨y, h3, h4⟩ := h2 j j (by rw [List.getElem?_range hj])
  rw [hv] at h3; injection h3 with h3; subst h3
  exact h4

theorem trod_ty (hl : laidOutB P = true) (hN : ∀ b, b < w.heap.size → N b) {spare : Nat → Bool} {held : Bool} : ∀ (fuel : Nat) (t : TypeId) (cs : List Value) (x : DataW H × List MemPlace), t < P.types.size →
    DataW.trod enc P w 0 spare held fuel t cs = some x → ∃ ds, VRL ρ N w ds cs ∧ Ty P t ds
  | 0, _, _, _, _, h => by simp [DataW.trod] at h
  | fuel + 1, t, cs, x, ht, h => by
    have other : (∀ e, P.underlying t ≠ some (.slice e)) → (∀ e, P.underlying t ≠ some (.pointer e)) → P.underlying t ≠ some .bool → (∀ k, P.underlying t ≠ some (.int k)) → P.underlying t ≠ some .string → (∀ fs, P.underlying t ≠ some (.struct fs)) → (∀ n e, P.underlying t ≠ some (.array n e)) →
        (∃ v, cs = [v]) → ∃ ds, VRL ρ N w ds cs ∧ Ty P t ds := by
      intro h1 h2 h3 h4 h5 h6 h7 ⟨v, hv⟩
      subst hv
      exact ⟨[.junk], VRL.cons (by simp only [VR]) VRL.nil, .other h1 h2 h3 h4 h5 h6 h7⟩
    cases hu : P.underlying t with
    | none =>
      unfold DataW.trod at h
      rw [hu] at h
      split at h <;> simp_all
    | some dsc =>
      cases dsc with
      | bool =>
        obtain ⟨b, rfl, _⟩ := DataW.trod_bool hu h
        exact ⟨[.bool b], VRL.cons (by simp only [VR]) VRL.nil, .bool hu⟩
      | int k =>
        obtain ⟨n, rfl, _, hw⟩ := DataW.trod_int hu h
        exact ⟨[.int k n], VRL.cons (by simp only [VR]) VRL.nil, .int hu hw⟩
      | string =>
        obtain ⟨s, rfl, _, hw⟩ := DataW.trod_string hu h
        exact ⟨[.str s], VRL.cons (by simp only [VR]) VRL.nil, .str hu hw⟩
      | pointer e =>
        rcases DataW.trod_pointer hu h with ⟨rfl, _⟩ | ⟨a, cs', y, n, hn, rfl, _, hc, hx⟩
        · exact ⟨[.nilp], VRL.cons (by simp only [VR]) VRL.nil, .nilp hu⟩
        · injection hn with hn; subst hn
          obtain ⟨ds, h1, h2⟩ := trod_ty hl hN fuel e cs' y (kid_pointer hl ht hu) hx
          obtain ⟨h3, h4⟩ := cells?_get hc
          have hca : CellsAt ρ N w ds a 0 := cellsAt_of h1 fun j v hv => by rw [Nat.zero_add]; exact h4 j v hv
          refine ⟨_, VRL.cons (v := .pointer (some a)) (d := .dptr ds) ?_ VRL.nil, .ptr hu h2⟩
          simp only [VR]
          exact ⟨a, rfl, fun hn => ⟨hN _ (hca.lt hn), hca⟩⟩
      | slice e =>
        rcases DataW.trod_slice hu h with ⟨rfl, _⟩ | ⟨a, len, cap, els, rest, n, hn, rfl, _, _, hlc, hcm, hel, hget, _, _⟩
        · refine ⟨_, VRL.cons (d := .dsl (some true) 0 0 []) ?_ VRL.nil, .nils hu⟩
          simp only [VR]
          exact ⟨none, 0, rfl, by omega, by simp [maxLen], fun _ => ⟨rfl, rfl⟩, (by intro h; cases h), fun _ => ⟨trivial, rfl⟩, rfl, fun ad h => by cases h⟩
        · injection hn with hn; subst hn
          obtain ⟨els', k1, k2, k3⟩ := elems_at (ρ := ρ) (N := N) (w := w) (P := P) (a := a) (k := P.cellsOf e) (e := e) len 0 fun i hi => by
            have h4 := hget i hi
            rw [List.getElem?_eq_getElem (by omega)] at h4
            cases hc : w.cells? 0 (a.add (i * P.cellsOf e)) (P.cellsOf e) with
            | none => rw [hc] at h4; cases h4
            | some xs =>
              rw [hc, Option.bind_some] at h4
              obtain ⟨ds, h5, h6⟩ := trod_ty hl hN fuel e xs _ (kid_slice hl ht hu) h4
              obtain ⟨h7, h8⟩ := cells?_get hc
              exact ⟨xs, ds, h7, (by rw [Nat.zero_add]; exact h8), h5, h6⟩
          rw [Nat.zero_mul] at k2
          subst k1
          refine ⟨_, VRL.cons (v := .slice (some a) els'.length cap) (d := .dsl (some false) (P.cellsOf e) els'.length els'.flatten) ?_ VRL.nil, .slice els' hu (by omega) (fun c hc => (k3 c hc).1) (fun c hc => (k3 c hc).2)⟩
          simp only [VR]
          exact ⟨some a, cap, rfl, hlc, hcm, (by intro h; cases h), (by intro _ h; cases h), (by intro h; cases h), flatten_len fun c hc => (k3 c hc).2, fun ad he hn => by
            injection he with he; subst he; exact ⟨hN _ (k2.lt hn), k2⟩⟩
      | struct fs =>
        obtain ⟨xs, n, hn, _, hlen, hxl, hget⟩ := DataW.trod_struct hu h
        injection hn with hn; subst hn
        obtain ⟨hk1, hk2, hk3⟩ := kid_struct hl ht hu
        obtain ⟨parts, h3, h4, h5⟩ := tile (ρ := ρ) (N := N) (w := w) (P := P) (fs.toList.map (·.type)) cs (by rw [hlen, hk2, List.map_map]; rfl) fun i t' hi => by
          rw [List.getElem?_map] at hi
          cases hf : fs.toList[i]? with
          | none => rw [hf] at hi; cases hi
          | some f =>
            rw [hf] at hi
            simp only [Option.map_some, Option.some.injEq] at hi
            subst hi
            have h7 := hget i f (by rw [← Array.getElem?_toList]; exact hf)
            have hi' : i < xs.length := by
              have := (List.getElem?_eq_some_iff.1 hf).1
              simp at this; omega
            rw [List.getElem?_eq_getElem hi'] at h7
            obtain ⟨ds, h8, h9⟩ := trod_ty hl hN fuel f.type _ _ (hk1 f (List.mem_of_getElem? hf)) h7
            refine ⟨ds, ?_, h9⟩
            rw [hk3 i f hf] at h8
            rw [← List.map_take, List.map_map]
            exact h8
        refine ⟨parts.flatten, h4, .struct parts hu (by simpa using h3) (fun i f c hf hc => (h5 i f.type c (by rw [List.getElem?_map, hf]; rfl) hc).1) (fun i f c hf hc => (h5 i f.type c (by rw [List.getElem?_map, hf]; rfl) hc).2)⟩
      | array n e =>
        obtain ⟨xs, m, hn, _, hlen, hxl, hget⟩ := DataW.trod_array hu h
        injection hn with hn; subst hn
        obtain ⟨hk1, hk2⟩ := kid_array hl ht hu
        have hsum : ∀ i, ((List.replicate i e).map P.cellsOf).sum = i * P.cellsOf e := by
          intro i
          rw [List.map_replicate, List.sum_replicate_nat]
        obtain ⟨parts, h3, h4, h5⟩ := tile (ρ := ρ) (N := N) (w := w) (P := P) (List.replicate n e) cs (by rw [hlen, hk2, hsum]) fun i t' hi => by
          have hin : i < n := by
            have := (List.getElem?_eq_some_iff.1 hi).1
            simpa using this
          have hte : t' = e := by
            rw [List.getElem?_replicate] at hi
            simp [hin] at hi
            exact hi.symm
          subst hte
          have h7 := hget i hin
          rw [List.getElem?_eq_getElem (by omega)] at h7
          obtain ⟨ds, h8, h9⟩ := trod_ty hl hN fuel t' _ _ hk1 h7
          refine ⟨ds, ?_, h9⟩
          rw [List.take_replicate, Nat.min_eq_left (by omega), hsum]
          exact h8
        have hall : ∀ c, c ∈ parts → Ty P e c ∧ c.length = P.cellsOf e := by
          intro c hc
          obtain ⟨i, hi⟩ := List.getElem?_of_mem hc
          have hin : i < n := by
            have := (List.getElem?_eq_some_iff.1 hi).1
            simpa [h3] using this
          exact h5 i e c (by rw [List.getElem?_replicate, if_pos hin]) hi
        exact ⟨parts.flatten, h4, .array parts hu (by simpa using h3) (fun c hc => (hall c hc).1) (fun c hc => (hall c hc).2)⟩
      | _ =>
        refine other (by simp [hu]) (by simp [hu]) (by simp [hu]) (by simp [hu]) (by simp [hu]) (by simp [hu]) (by simp [hu]) ?_
        unfold DataW.trod at h
        rw [hu] at h
        split at h <;> simp_all
end
end Go.Det
