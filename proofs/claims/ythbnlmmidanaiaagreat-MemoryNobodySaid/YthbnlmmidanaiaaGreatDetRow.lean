/-
  A law's row, from what the machine answers.
-/
import Derived.Test.YthbnlmmidanaiaaGreatDetTrod
set_option linter.unusedVariables false
set_option linter.unusedSimpArgs false
set_option linter.unusedSectionVars false
namespace Go.Det
open Go.ChangeShapes Go.WideShapes Go.ChangeAt Go.RowKit

/-- An argument: of its type. -/
def ArgOf (P : Program) (t : TypeId) (x : DV) : Prop :=
  match P.underlying t with
  | some (.struct _) | some (.array _ _) => ∃ cs, x = .agg cs ∧ Ty P t cs
  | _ => Ty P t [x]

def ArgsOf (P : Program) : List TypeId → List DV → Prop
  | [], xs => xs = []
  | t :: ts, xs => ∃ x xs', xs = x :: xs' ∧ ArgOf P t x ∧ ArgsOf P ts xs'

section
variable {H : Type} {enc : TypeId × Value → H} {P : Program} {w : World} {ρ : Nm} {N : Nat → Prop}

theorem arg_of (hl : laidOutB P = true) (hN : ∀ b, b < w.heap.size → N b) {spare : Nat → Bool} {held : Bool} {t : TypeId} {v : Value} {d : DataW H} {ps : List MemPlace} {b0 : Nat} (ht : t < P.types.size)
    (hok : Value.okWide P w .any b0 t v) (h : DataW.Trod enc P w 0 spare held t v d ps) : ∃ x, VR ρ N w x v ∧ ArgOf P t x := by
  obtain ⟨fuel, h⟩ := h
  obtain ⟨ds, h1, h2⟩ := trod_ty hl hN fuel t _ _ ht h
  unfold ArgOf
  unfold Value.okWide at hok
  have one : (¬ ∃ cs, v = .agg cs) → ∃ x, ds = [x] ∧ VR ρ N w x v := by
    intro hv
    have hc : v.cells.toList = [v] := by cases v <;> first | rfl | exact absurd ⟨_, rfl⟩ hv
    rw [hc] at h1
    cases ds with
    | nil => simp [VRL] at h1
    | cons x ds =>
      obtain ⟨h3, h4⟩ := h1.uncons
      have : ds = [] := List.length_eq_zero_iff.1 (by simpa using h4.length)
      subst this
      exact ⟨x, rfl, h3⟩
  have agg : (∃ cs, v = .agg cs) → VR ρ N w (.agg ds) v := by
    rintro ⟨cs, rfl⟩
    simp only [VR]
    exact ⟨cs.toList, rfl, h1⟩
  have cell : Cell.okWide P w .any b0 t v → (∀ fs, P.underlying t ≠ some (.struct fs)) → (∀ n e, P.underlying t ≠ some (.array n e)) → ¬ ∃ cs, v = .agg cs := by
    rintro hc hs ha ⟨cs, rfl⟩
    cases hu : P.underlying t with
    | none => simp [Cell.okWide, Cell.ok, hu] at hc
    | some dsc => cases dsc <;> simp_all [Cell.okWide, Cell.ok]
  cases hu : P.underlying t with
  | none =>
    rw [hu] at hok
    obtain ⟨x, rfl, hx⟩ := one (cell hok (by simp [hu]) (by simp [hu]))
    exact ⟨x, hx, h2⟩
  | some dsc =>
    rw [hu] at hok
    cases dsc with
    | struct fs =>
      obtain ⟨cs, rfl, _⟩ := hok
      exact ⟨.agg ds, agg ⟨cs, rfl⟩, ds, rfl, h2⟩
    | array n e =>
      obtain ⟨cs, rfl, _⟩ := hok
      exact ⟨.agg ds, agg ⟨cs, rfl⟩, ds, rfl, h2⟩
    | _ =>
      obtain ⟨x, rfl, hx⟩ := one (cell hok (by simp [hu]) (by simp [hu]))
      exact ⟨x, hx, h2⟩

theorem args_of (hl : laidOutB P = true) (hN : ∀ b, b < w.heap.size → N b) {spare : Nat → Bool} {held : Bool} {b0 : Nat} : ∀ (ts : List TypeId) (vs : List Value) (ds : List (DataW H)) (ps : List MemPlace), (∀ t, t ∈ ts → t < P.types.size) →
    (∀ (j : Nat) t v, ts[j]? = some t → vs[j]? = some v → Value.okWide P w .any b0 t v) → DataW.TrodAll enc P w 0 spare held ts vs ds ps → ∃ xs, VRL ρ N w xs vs ∧ ArgsOf P ts xs
  | [], vs, ds, ps, _, _, h => by
    cases vs <;> cases ds <;> simp_all [DataW.TrodAll]
    exact ⟨[], VRL.nil, rfl⟩
  | t :: ts, vs, ds, ps, hts, hok, h => by
    cases vs with
    | nil => simp [DataW.TrodAll] at h
    | cons v vs =>
      cases ds with
      | nil => simp [DataW.TrodAll] at h
      | cons d ds =>
        obtain ⟨p, q, h1, h2, rfl⟩ := h
        obtain ⟨x, h3, h4⟩ := arg_of (ρ := ρ) hl hN (hts t List.mem_cons_self) (hok 0 t v rfl rfl) h1
        obtain ⟨xs, h5, h6⟩ := args_of hl hN ts vs ds q (fun t h => hts t (List.mem_cons_of_mem _ h)) (fun j t v q1 q2 => hok (j + 1) t v (by simpa using q1) (by simpa using q2)) h2
        exact ⟨x :: xs, VRL.cons h3 h5, x, xs, rfl, h4, h6⟩

theorem trodAll_below (hl : laidOutB P = true) {W W' : World} (hb : Below W.heap.size W W') : ∀ (ts : List TypeId) (vs : List Value) (ds : List (DataW H)) (ps : List MemPlace), (∀ t, t ∈ ts → t < P.types.size ∧ P.readableRec t = true) →
    DataW.TrodAll enc P W 0 (fun _ => true) true ts vs ds ps → DataW.TrodAll enc P W' 0 (fun b => decide (b < W.heap.size)) true ts vs ds ps
  | [], vs, ds, ps, _, h => by
    cases vs <;> cases ds <;> simp_all [DataW.TrodAll]
  | t :: ts, vs, ds, ps, hts, h => by
    cases vs with
    | nil => simp [DataW.TrodAll] at h
    | cons v vs =>
      cases ds with
      | nil => simp [DataW.TrodAll] at h
      | cons d ds =>
        obtain ⟨p, q, h1, h2, rfl⟩ := h
        obtain ⟨h3, h4⟩ := hts t List.mem_cons_self
        refine ⟨p, q, Below.trod hl h4 h3 h1 hb (fun x hx => ?_), trodAll_below hl hb ts vs ds q (fun t h => hts t (List.mem_cons_of_mem _ h)) h2, rfl⟩
        obtain ⟨fuel, h1⟩ := h1
        exact DataW.trod_lt fuel t _ _ h1 x hx
end

/-- The machine's memory where a call begins: nothing of it is named. -/
def noMem : DH := ⟨.lf, 0, []⟩

theorem mem_none [Beside] {W : World} (hB : Beside.holds (fun b => b < W.heap.size) W) : Mem (fun _ => none) (fun b => b < W.heap.size) W noMem :=
  ⟨⟨fun b g h => (by cases h), fun b _ => PM.get_lf _, fun b b' g o o' h => (by cases h), fun b g h => (by cases h), fun _ h => h⟩, fun b g o h => (by cases h), hB⟩

theorem big_below [Beside] {W W' : World} {m' : DH} {ρ' : Nm} {N' : Nat → Prop} (B : Big (fun _ => none) (fun b => b < W.heap.size) noMem W ρ' N' m' W') : Below W.heap.size W W' :=
  ⟨B.os, B.tape, B.output, B.size, fun k hk => (B.later.keep k hk hk).1⟩

theorem law_post [Beside] {H : Type} {enc : TypeId × Value → H} {C : Checked} {f : FuncId} {fn : Func} {s : ChangeSpec} {tb : TypeId}
    (hl : laidOutB C.prog = true) (hts : ∀ t, t ∈ fn.params.toList → t < C.prog.types.size ∧ C.prog.readableRec t = true) (hres : fn.resultTypes = #[tb]) (htb : C.prog.underlying tb = some .bool) (hv : s.vars = [])
    (hs : ∀ ds : List (DataW H), ds.length = fn.params.size → (s.fn H ds) = { results := [.lit (.bool true)], args := ds })
    (hB : ∀ W : World, W.ShapedOpen C.prog → Beside.holds (fun b => b < W.heap.size) W)
    (hrun : ∀ xs, ArgsOf C.prog fn.params.toList xs → ∃ m', GoodCall C.prog f xs noMem (.bool true) m')
    (W : World) (base : Nat) (args : Array Value) (ds gs : List (DataW H)) (before : List MemPlace)
    (hval : ∀ (j : Nat) t v, fn.params[j]? = some t → args[j]? = some v → Value.okWide C.prog W .any base t v)
    (hW : DataW.Whole enc C.prog fn.params.toList s.vars false W args.toList ds gs before) (hsh : W.ShapedOpen C.prog) :
    Calls C.prog f args W fun e W' => ∃ v, e = .returned v ∧ s.post enc C.prog fn false true false false W args v W' := by
  have hW' := hW
  obtain ⟨p, q, hA, hV, rfl, hfz, hnd⟩ := hW
  rw [hv] at hV
  obtain ⟨rfl, rfl⟩ := trodVars_none hV
  obtain ⟨xs, h1, h2⟩ := args_of (ρ := fun _ => none) (N := fun b => b < W.heap.size) (b0 := base) hl (fun _ h => h) fn.params.toList args.toList ds p (fun t h => (hts t h).1) (fun j t v q1 q2 => hval j t v (by rw [← Array.getElem?_toList]; exact q1) (by rw [← Array.getElem?_toList]; exact q2)) hA
  obtain ⟨m', hg⟩ := hrun xs h2
  have := hg _ _ W args.toList (mem_none (hB W hsh)) h1
  refine Calls.mono this fun e W' he => ?_
  obtain ⟨x, rfl, ρ', N', B, _, hx⟩ := he
  simp only [VR] at hx
  subst hx
  have hb := big_below B
  have hlen : ds.length = fn.params.size := by
    have : ∀ (ts : List TypeId) (vs : List Value) (ds : List (DataW H)) (ps : List MemPlace), DataW.TrodAll enc C.prog W 0 (fun _ => true) true ts vs ds ps → ds.length = ts.length := by
      intro ts
      induction ts with
      | nil => intro vs ds ps h; cases vs <;> cases ds <;> simp_all [DataW.TrodAll]
      | cons t ts ih =>
        intro vs ds ps h
        cases vs with
        | nil => simp [DataW.TrodAll] at h
        | cons v vs => cases ds with
          | nil => simp [DataW.TrodAll] at h
          | cons d ds =>
            obtain ⟨p, q, _, h2, _⟩ := h
            simp [ih vs ds q h2]
    simpa using this _ _ _ _ hA
  refine ⟨_, rfl, ds, [], p ++ [], [], p, [], hW', ?_, ?_, ?_, ?_, fun h => by cases h⟩
  · rw [List.append_nil, hs ds hlen, hres]
    exact trodAll_mk1 ⟨1, by simp [DataW.trod, htb, Value.cells]⟩
  · rw [List.append_nil, hs ds hlen]
    exact trodAll_below hl hb _ _ _ _ hts hA
  · rw [List.append_nil, hs ds hlen, hv]
    exact rfl
  · exact hb.frame _

end Go.Det
