/-
  The classes of operations: idle ones, those that make a row, those that look.
-/
import Derived.Test.YthbnlmmidanaiaaGreatDetKept
import Derived.Test.YthbnlmmidanaiaaGreatDetCall
set_option linter.unusedVariables false
set_option linter.unusedSimpArgs false
set_option linter.unusedSectionVars false
namespace Go.Det

theorem okV_map (m m2 : DH) (x : Option DV) : okV m2 x = (okV m x).map fun r => (r.1, m2) := by cases x <;> rfl

theorem opD_idle {P : Program} {op : Op} (hc : clsOf op = .idle) (t : Slots) (m m2 : DH) : opD P op t m2 = (opD P op t m).map fun r => (r.1, m2) := by
  cases op <;> simp only [clsOf] at hc <;> try (cases hc; done)
  all_goals simp only [opD]
  case move => rfl
  case assign => rfl
  case pick c a b => unfold pickD; cases ev t c <;> first | rfl | (rename_i b; cases b <;> rfl)
  case build T ps =>
    unfold buildD
    cases zeroOf P T with
    | none => rfl
    | some z =>
      cases placeD P T with
      | none => cases z <;> rfl
      | some pl =>
        cases z <;> try rfl
        rename_i cs
        simp only
        cases fillD pl cs (mapEv t ps.toList) <;> rfl
  case nilCheck x =>
    unfold nilCheckD
    cases nilB (ev t x) with
    | none => rfl
    | some b => cases b <;> rfl
  case binOp => exact okV_map _ _ _
  case unOp => exact okV_map _ _ _
  case makeFunc fn first captured =>
    unfold makeFuncD
    cases fn <;> rfl
  case slice => exact okV_map _ _ _
  case fieldAddr T x f =>
    unfold fieldAddrD
    cases fieldOf P T f with
    | none => rfl
    | some fd =>
      simp only
      cases sizeB P fd.type with
      | none => rfl
      | some k =>
        cases k with
        | zero => rfl
        | succ k => simp only; cases ev t x <;> rfl
  case field T x f =>
    unfold fieldD
    cases fieldOf P T f with
    | none => rfl
    | some fd => cases ev t x <;> first | rfl | exact okV_map _ _ _
  case indexAddr T x i =>
    unfold indexAddrD
    cases asNat (ev t i) with
    | none => rfl
    | some j =>
      simp only
      cases P.underlying T with
      | none => rfl
      | some d =>
        cases d <;> try rfl
        case slice e =>
          simp only
          cases sizeB P e with
          | none => rfl
          | some k =>
            simp only
            cases ev t x <;> try rfl
            case sl b off len cap ex sz => simp only; cases (Nat.blt j len && Nat.beq sz k) <;> rfl
            case dsl z sz n cs => simp only; cases (Nat.blt j n && Nat.beq sz k) <;> rfl
        case array n e =>
          simp only
          cases sizeB P e with
          | none => rfl
          | some k =>
            simp only
            cases Nat.blt j n with
            | false => rfl
            | true => simp only; cases ev t x <;> rfl
  case index T x i =>
    unfold indexD
    cases asNat (ev t i) with
    | none => rfl
    | some j =>
      simp only
      cases P.underlying T with
      | none => rfl
      | some d =>
        cases d <;> try rfl
        case string =>
          simp only
          cases ev t x <;> try rfl
          rename_i s
          simp only
          cases s.data.toList[j]? <;> rfl
        case array n e =>
          simp only
          cases ev t x <;> try rfl
          rename_i cs
          simp only
          cases sizeB P e with
          | none => rfl
          | some k =>
            simp only
            cases Nat.blt j n with
            | false => rfl
            | true => exact okV_map _ _ _
  case extract x i =>
    unfold extractD
    cases ev t x <;> first | rfl | exact okV_map _ _ _
  case makeMap T r => cases r <;> cases hc
  case call c =>
    cases hcc : c.callee with
    | value f => rw [hcc] at hc; cases hc
    | invoke f n => rw [hcc] at hc; cases hc
    | builtin b =>
      rw [hcc] at hc
      cases b <;> try (cases hc; done)
      case max =>
        simp only [builtinD]
        cases evs t c.args.toList with
        | nil => rfl
        | cons x xs =>
          cases xs with
          | nil => rfl
          | cons y ys =>
            cases ys with
            | cons z zs => rfl
            | nil =>
              simp only
              unfold minmaxD
              cases x <;> try rfl
              cases y <;> try rfl
              simp only
              split <;> rfl
      case min =>
        simp only [builtinD]
        cases evs t c.args.toList with
        | nil => rfl
        | cons x xs =>
          cases xs with
          | nil => rfl
          | cons y ys =>
            cases ys with
            | cons z zs => rfl
            | nil =>
              simp only
              unfold minmaxD
              cases x <;> try rfl
              cases y <;> try rfl
              simp only
              split <;> rfl

/-- What looks at rows: they are there; where the same rows are, it answers the same. -/
theorem opD_read {P : Program} {op : Op} (hc : clsOf op = .read) {t : Slots} {m m' : DH} {v : DV} (h : opD P op t m = some (v, m')) :
    (∀ b, b ∈ rdD op t m → m.h.get b ≠ none) ∧ (∀ b, b ∈ rdD op t m → ∃ x, x ∈ op.operands ∧ b ∈ names (ev t x)) ∧ ∀ m2 : DH, (∀ b, b ∈ rdD op t m → m2.h.get b = m.h.get b) → opD P op t m2 = some (v, m2) ∧ rdD op t m2 = rdD op t m := by
  cases op <;> simp only [clsOf] at hc <;> try (cases hc; done)
  case load T x =>
    simp only [opD, rdD, Op.operands] at h ⊢
    cases he : ev t x <;> simp only [he, names, loadD, okV] at h ⊢ <;> try (cases h; done)
    case ptr b off =>
      cases hb : m.h.get b with
      | none => rw [hb] at h; cases h
      | some o =>
        refine ⟨fun b' hb' => ?_, fun b' hb' => ⟨x, by simp, by rw [he]; exact hb'⟩, fun m2 h2 => ?_⟩
        · simp at hb'; subst hb'; rw [hb]; simp
        · have := h2 b (by simp)
          rw [this, hb]
          rw [hb] at h
          cases o <;> simp only at h ⊢ <;> try (cases h; done)
          rename_i cs e ro
          cases ht : takeVar P T (cs.drop off) with
          | none => rw [ht] at h; cases h
          | some y =>
            rw [ht] at h
            injection h with h; injection h with h1 h2
            subst h1
            exact ⟨rfl, trivial⟩
    case dptr cs =>
      refine ⟨fun b' hb' => by simp at hb', fun b' hb' => by simp at hb', fun m2 _ => ?_⟩
      cases ht : takeVar P T cs with
      | none => rw [ht] at h; cases h
      | some y =>
        rw [ht] at h
        injection h with h; injection h with h1 h2
        subst h1
        exact ⟨rfl, trivial⟩
  case lookup T x k ok =>
    simp only [opD, rdD, Op.operands] at h ⊢
    have key : ∀ m2 : DH, mapOf m2 (ev t x) = mapOf m (ev t x) → okV m2 (lookupD P T (ev t x) (ev t k) ok m2) = some (v, m2) := by
      intro m2 hm
      have : lookupD P T (ev t x) (ev t k) ok m2 = lookupD P T (ev t x) (ev t k) ok m := by unfold lookupD; rw [hm]
      rw [this]
      cases hl : lookupD P T (ev t x) (ev t k) ok m with
      | none => rw [hl] at h; cases h
      | some y => rw [hl] at h; injection h with h; injection h with h1 h2; subst h1; rfl
    cases he : ev t x
    case mp b =>
      have hsome : m.h.get b ≠ none := by
        intro hb
        rw [he] at h
        unfold lookupD mapOf at h
        simp only [hb, okV] at h
        split at h
        · rename_i hq
          split at hq <;> try (cases hq; done)
          split at hq <;> cases hq
        · cases h
      refine ⟨fun b' hb' => ?_, fun b' hb' => ⟨x, by simp, by rw [he]; exact hb'⟩, fun m2 h2 => ⟨?_, ?_⟩⟩
      · simp [names] at hb'; subst hb'; exact hsome
      · rw [he] at key
        refine key m2 ?_
        simp only [mapOf]
        rw [h2 b (by simp [names])]
      · trivial
    case ptr b off =>
      exfalso
      rw [he] at h
      unfold lookupD mapOf at h
      simp only [okV] at h
      split at h
      · rename_i hq
        split at hq <;> try (cases hq; done)
        split at hq <;> cases hq
      · cases h
    case sl b off len cap ex sz =>
      exfalso
      rw [he] at h
      unfold lookupD mapOf at h
      simp only [okV] at h
      split at h
      · rename_i hq
        split at hq <;> try (cases hq; done)
        split at hq <;> cases hq
      · cases h
    all_goals
      rw [he] at key
      exact ⟨fun b' hb' => by simp [names] at hb', fun b' hb' => by simp [names] at hb', fun m2 _ => ⟨key m2 rfl, trivial⟩⟩
  case makeMap T r => cases r <;> cases hc
  case call c =>
    cases hcc : c.callee with
    | value f => rw [hcc] at hc; cases hc
    | invoke f n => rw [hcc] at hc; cases hc
    | builtin b =>
      rw [hcc] at hc
      cases b <;> try (cases hc; done)
      simp only [opD, rdD, hcc, builtinD] at h ⊢
      cases hx : evs t c.args.toList with
      | nil => rw [hx] at h; cases h
      | cons x xs =>
        cases xs with
        | cons y ys => rw [hx] at h; cases h
        | nil =>
          rw [hx] at h
          simp only at h ⊢
          have key : ∀ m2 : DH, mapOf m2 x = mapOf m x → lenD P c.argTypes[0]? x m2 = some (v, m2) := by
            intro m2 hm
            unfold lenD at h ⊢
            rw [hm]
            split at h
            · split at h
              · injection h with h; injection h with h1 h2; subst h1; rfl
              · cases h
            · split at h
              · injection h with h; injection h with h1 h2; subst h1; rfl
              · injection h with h; injection h with h1 h2; subst h1; rfl
              · cases h
            · split at h
              · injection h with h; injection h with h1 h2; subst h1; rfl
              · cases h
            · split at h
              · cases h
              · injection h with h; injection h with h1 h2; subst h1; rfl
            · cases h
          have hargs : ∃ y, y ∈ c.args.toList ∧ x = ev t y := by
            cases hc2 : c.args.toList with
            | nil => rw [hc2] at hx; simp [evs] at hx
            | cons y ys =>
              rw [hc2] at hx
              simp only [evs, List.cons.injEq] at hx
              exact ⟨y, by simp, hx.1.symm⟩
          obtain ⟨y, hy1, hy2⟩ := hargs
          cases x
          case mp b =>
            by_cases hb : m.h.get b = none
            · -- a length that does not look
              exfalso
              unfold lenD at h
              simp only [mapOf, hb] at h
              split at h <;> cases h
            · refine ⟨fun b' hb' => ?_, fun b' hb' => ⟨y, by simp [Op.operands, Call.operands]; right; simpa using hy1, by rw [← hy2]; simpa [names, mapNames] using hb'⟩, fun m2 h2 => ⟨key m2 ?_, trivial⟩⟩
              · simp [mapNames] at hb'; subst hb'; exact hb
              · simp only [mapOf]; rw [h2 b (by simp [mapNames])]
          all_goals exact ⟨fun b' hb' => by simp [mapNames] at hb', fun b' hb' => by simp [mapNames] at hb', fun m2 _ => ⟨key m2 rfl, trivial⟩⟩
end Go.Det
