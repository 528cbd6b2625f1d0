/-
  A run of the deterministic machine, and what the model does then.
-/
import Derived.Test.YthbnlmmidanaiaaGreatDetKept
import Derived.Orders
import Derived.Tactics
import Derived.LoopN
set_option linter.unusedVariables false
set_option linter.unusedSimpArgs false
set_option linter.unusedSectionVars false
namespace Go.Det

/-! ### From one state to a later one -/
structure Big (ρ : Nm) (N : Nat → Prop) (m : DH) (w : World) (ρ' : Nm) (N' : Nat → Prop) (m' : DH) (w' : World) : Prop where
  later : Later ρ N w ρ' N' w'
  new : ∀ b g, ρ' b = some g → ρ b = some g ∨ (m.n ≤ b ∧ (w.heap.size ≤ g ∨ ∃ b0 o, ρ b0 = some g ∧ m.h.get b0 = some o))
  gone : ∀ b, b < m.n → m.h.get b = none → m'.h.get b = none
  le : m.n ≤ m'.n
  size : w.heap.size ≤ w'.heap.size
  frame : ∀ k, k < w.heap.size → (∀ b, ρ b = some k → m.h.get b = none) → w'.heap[k]? = w.heap[k]?
  os : w'.os = w.os
  tape : w'.tape = w.tape
  output : w'.output = w.output

/-- What a program asks of its world beside: a fact on what nobody changes. -/
class Beside where
  holds : (Nat → Prop) → World → Prop
  later : ∀ {ρ ρ' : Nm} {N N' : Nat → Prop} {w w' : World}, Later ρ N w ρ' N' w' → holds N w → holds N' w'

variable [Beside]

structure Mem (ρ : Nm) (N : Nat → Prop) (w : World) (m : DH) : Prop where
  G : MemG ρ N w m
  R : ∀ b, Row ρ N w m b
  I : Beside.holds N w

theorem Later.trans {ρ ρ' ρ'' : Nm} {N N' N'' : Nat → Prop} {w w' w'' : World} (h : Later ρ N w ρ' N' w') (hs : w.heap.size ≤ w'.heap.size) (k : Later ρ' N' w' ρ'' N'' w'') : Later ρ N w ρ'' N'' w'' :=
  ⟨fun b g hb => k.ext b g (h.ext b g hb), fun q hq hN => by
    obtain ⟨h1, h2⟩ := h.keep q hq hN
    obtain ⟨h3, h4⟩ := k.keep q (Nat.lt_of_lt_of_le hq hs) h2
    exact ⟨h3.trans h1, h4⟩, fun q arr e fr hq => by
    obtain ⟨arr', fr', h1, h2⟩ := h.shape q arr e fr hq
    obtain ⟨arr'', fr'', h3, h4⟩ := k.shape q arr' e fr' h1
    exact ⟨arr'', fr'', h3, h4.trans h2⟩⟩

theorem Big.refl (ρ : Nm) (N : Nat → Prop) (m : DH) (w : World) : Big ρ N m w ρ N m w :=
  ⟨Later.refl _ _ _, fun _ _ h => .inl h, fun _ _ h => h, Nat.le_refl _, Nat.le_refl _, fun _ _ _ => rfl, rfl, rfl, rfl⟩

theorem Big.trans {ρ ρ' ρ'' : Nm} {N N' N'' : Nat → Prop} {m m' m'' : DH} {w w' w'' : World} (h : Big ρ N m w ρ' N' m' w') (hd : ∀ b g, ρ b = some g → b < m.n ∧ g < w.heap.size) (k : Big ρ' N' m' w' ρ'' N'' m'' w'') : Big ρ N m w ρ'' N'' m'' w'' := by
  have hle := h.le
  have hsz := h.size
  refine ⟨h.later.trans h.size k.later, fun b g hb => ?_, fun b hb hn => k.gone b (by omega) (h.gone b hb hn), by have := k.le; omega, by have := k.size; omega, fun q hq hf => ?_, k.os.trans h.os, k.tape.trans h.tape, k.output.trans h.output⟩
  · rcases k.new b g hb with h1 | ⟨h1, h2 | ⟨b0, o, h2, h3⟩⟩
    · exact h.new b g h1
    · exact .inr ⟨by omega, .inl (by omega)⟩
    · refine .inr ⟨by omega, ?_⟩
      rcases h.new b0 g h2 with h4 | ⟨_, h4⟩
      · cases hg : m.h.get b0 with
        | none => rw [h.gone b0 (hd b0 g h4).1 hg] at h3; cases h3
        | some o' => exact .inr ⟨b0, o', h4, hg⟩
      · exact h4
  · rw [k.frame q (by omega) fun b hb => ?_, h.frame q hq hf]
    rcases h.new b q hb with h1 | ⟨_, h1 | ⟨b0, o, h1, h2⟩⟩
    · exact h.gone b (hd b q h1).1 (hf b h1)
    · omega
    · rw [hf b0 h1] at h2; cases h2

theorem Step.big {wrs : Nat → Prop} {ρ ρ' : Nm} {N : Nat → Prop} {m m' : DH} {w w' : World} (h : Step wrs ρ m w ρ' m' w') (G : MemG ρ N w m) : Big ρ N m w ρ' N m' w' := by
  refine ⟨h.later G, fun b g hb => ?_, fun b hb hn => ?_, h.le, h.size, fun k hk hf => h.frame k hk fun b hb hρ => ?_, h.os, h.tape, h.output⟩
  · rcases h.new b g hb with h1 | ⟨h1, h2 | ⟨b0, h2, h3⟩⟩
    · exact .inl h1
    · exact .inr ⟨h1, .inl h2⟩
    · obtain ⟨o, h4, _⟩ := h.wr b0 h2
      exact .inr ⟨h1, .inr ⟨b0, o, h3, h4⟩⟩
  · rw [h.old b hb fun hw => ?_]
    · exact hn
    · obtain ⟨o, h4, _⟩ := h.wr b hw
      rw [hn] at h4; cases h4
  · obtain ⟨o, h4, _⟩ := h.wr b hb
    rw [hf b hρ] at h4; cases h4

theorem Done.mem {P : Program} {o : Oper} {a : Act} {ρ : Nm} {N : Nat → Prop} {m m' : DH} {w : World} {wr : List Nat} {v : DV} (h : Done P o a ρ N m w wr v m') (M : Mem ρ N w m) :
    ∃ r ρ' w', (execOp a.eval o).run P w = .ok r w' ∧ Big ρ N m w ρ' N m' w' ∧ Mem ρ' N w' m' ∧ ((∃ x, r = .value x ∧ VR ρ' N w' v x) ∨ (r = .skip ∧ v = undefD)) := by
  obtain ⟨r, ρ', w', h1, h2, h3, h4, h5⟩ := h
  refine ⟨r, ρ', w', h1, h2.big M.G, ⟨h3, fun b => ?_, Beside.later (h2.later M.G) M.I⟩, h5⟩
  by_cases hb : b ∈ wr ∨ m.n ≤ b
  · exact h4 b hb
  · exact h2.row_old M.G (by omega) (by intro h; exact hb (.inl h)) (M.R b)

/-! ### What is shown -/
def St (n : Nat) (ρ : Nm) (N : Nat → Prop) (w : World) (t : Slots) (m : DH) (a : Act) : Prop := Mem ρ N w m ∧ SR ρ N w t a.tmps ∧ a.tmps.size = n ∧ a.defers = []

theorem SR.later {ρ ρ' : Nm} {N N' : Nat → Prop} {w w' : World} (L : Later ρ N w ρ' N' w') {t : Slots} {tmps : Array Value} (h : SR ρ N w t tmps) : SR ρ' N' w' t tmps := fun i => VR.later L _ _ (h i)

theorem SR.put {ρ : Nm} {N : Nat → Prop} {w : World} {t : Slots} {a : Act} {d : Option Nat} {v : DV} {x : Value} (h : SR ρ N w t a.tmps) (hd : ∀ i, d = some i → i < a.tmps.size) (hv : VR ρ N w v x) : SR ρ N w (Det.put t d v) (a.put d x).tmps := by
  cases d with
  | none => exact h
  | some d =>
    intro i
    show VR ρ N w (((t.set d v).get i).getD undefD) ((a.tmps.setIfInBounds d x).getD i undef)
    rw [PM.get_set]
    by_cases e : d = i
    · subst e
      have := hd d rfl
      simp [Array.getD_eq_getD_getElem?, this]
      exact hv
    · rw [if_neg e]
      have := h i
      simpa [Array.getD_eq_getD_getElem?, e] using this

theorem put_size (a : Act) (d : Option Nat) (v : Value) : (a.put d v).tmps.size = a.tmps.size := by cases d <;> simp [Act.put]
theorem put_defers (a : Act) (d : Option Nat) (v : Value) : (a.put d v).defers = a.defers := by cases d <;> rfl

def opsOk (n : Nat) : List Oper → Bool
  | [] => true
  | o :: os => match o.dst with
    | none => opsOk n os
    | some d => match Nat.blt d n with
      | true => opsOk n os
      | false => false

/-! What a region that draws must satisfy: each pair of operations is ordered by the edges that bind, or nothing that one leaves is looked at by the other. -/
def ordOf (acc : List (List Nat)) : List Edge → List Nat
  | [] => []
  | e :: es => match Region.binds .any e with
    | true => e.on :: (((acc[e.on]?).getD []) ++ ordOf acc es)
    | false => ordOf acc es

def ordGo : List Oper → List (List Nat) → List (List Nat)
  | [], acc => acc
  | o :: os, acc => ordGo os (acc ++ [ordOf acc o.after.toList])

def edgesOk : List Oper → Nat → Bool
  | [], _ => true
  | o :: os, j => match o.after.toList.all fun e => !(Region.binds .any e) || Nat.blt e.on j with
    | true => edgesOk os (j + 1)
    | false => false

def inPairs (i j : Nat) : List (Nat × Nat) → Bool
  | [] => false
  | p :: ps => match Nat.beq p.1 i && Nat.beq p.2 j with
    | true => true
    | false => inPairs i j ps

def classOk (l : List (Nat × Nat)) (i j : Nat) : Cls → Cls → Bool
  | .chain, .chain => false
  | .read, .chain => inPairs i j l
  | .chain, .read => inPairs i j l
  | .new, .chain => inPairs i j l
  | _, _ => true

def pairOk (ops : Array Oper) (ord : List (List Nat)) (l : List (Nat × Nat)) (i j : Nat) : Bool :=
  match (((ord[j]?).getD []).contains i) with
  | true => true
  | false => match ops[i]?, ops[j]? with
    | some x, some y => x.apart ops y && classOk l i j (clsOf x.op) (clsOf y.op)
    | _, _ => false

def allBelow (p : Nat → Bool) : Nat → Bool
  | 0 => true
  | n + 1 => match p n with
    | true => allBelow p n
    | false => false

def statOk (ops : Array Oper) (l : List (Nat × Nat)) : Bool :=
  match edgesOk ops.toList 0 with
  | true => let ord := ordGo ops.toList []
    allBelow (fun j => allBelow (fun i => pairOk ops ord l i j) j) ops.size
  | false => false

def drawOk (pr : Nat → Option (List (Nat × Nat))) (id : Nat) (ops : Array Oper) : Bool → Bool
  | false => true
  | true => match pr id with
    | none => true
    | some l => statOk ops l

def codeOk (pr : Nat → Option (List (Nat × Nat))) (n : Nat) : Code → Bool
  | .region id ops draw => opsOk n ops.toList && drawOk pr id ops draw
  | .seq a b => codeOk pr n a && codeOk pr n b
  | .cond _ a b => codeOk pr n a && codeOk pr n b
  | .block _ c => codeOk pr n c
  | .loop c => codeOk pr n c
  | _ => true

theorem opsOk_cons {n : Nat} {o : Oper} {os : List Oper} (h : opsOk n (o :: os) = true) : (∀ d, o.dst = some d → d < n) ∧ opsOk n os = true := by
  simp only [opsOk] at h
  split at h
  · rename_i hd; exact ⟨(fun d hd' => by rw [hd] at hd'; cases hd'), h⟩
  · rename_i d hd
    split at h
    · rename_i hlt
      rw [Nat.blt_eq] at hlt
      exact ⟨(fun d' hd' => by rw [hd] at hd'; injection hd' with hd'; subst hd'; exact hlt), h⟩
    · cases h

def GoodCall (P : Program) (f : FuncId) (args : List DV) (m : DH) (v : DV) (m' : DH) : Prop :=
  ∀ (ρ : Nm) (N : Nat → Prop) (w : World) (vs : List Value), Mem ρ N w m → VRL ρ N w args vs → Calls P f ⟨vs⟩ w fun e w' => ∃ x, e = .returned x ∧ ∃ ρ' N', Big ρ N m w ρ' N' m' w' ∧ Mem ρ' N' w' m' ∧ VR ρ' N' w' v x

def exitOf : DX → Exit
  | .normal => .normal
  | .exit id => .exit id
  | .ret => .ret

def GoodCode (P : Program) (n : Nat) (c : Code) (t : Slots) (m : DH) (x : DX) (t' : Slots) (m' : DH) : Prop :=
  ∀ (ρ : Nm) (N : Nat → Prop) (w : World) (a : Act), St n ρ N w t m a → c.wp P (fun e a' w' => e = exitOf x ∧ ∃ ρ' N', Big ρ N m w ρ' N' m' w' ∧ St n ρ' N' w' t' m' a') a w

def Post (n : Nat) (ρ : Nm) (N : Nat → Prop) (m : DH) (w : World) (x : DX) (t' : Slots) (m' : DH) : Exit → Act → World → Prop := fun e a' w' => e = exitOf x ∧ ∃ ρ' N', Big ρ N m w ρ' N' m' w' ∧ St n ρ' N' w' t' m' a'

def GoodLoop (P : Program) (n : Nat) (c : Code) (t : Slots) (m : DH) (x : DX) (t' : Slots) (m' : DH) : Prop :=
  ∃ k, ∀ (ρ : Nm) (N : Nat → Prop) (w : World) (a : Act), St n ρ N w t m a → Code.rounds P c (Post n ρ N m w x t' m') k a w

def GoodOps (P : Program) (n : Nat) (all : Array Oper) (rest : List Oper) (t : Slots) (m : DH) (t' : Slots) (m' : DH) : Prop :=
  ∀ (ρ : Nm) (N : Nat → Prop) (w : World) (a : Act) (Q : Exit → Act → World → Prop), St n ρ N w t m a → (∀ a' w' ρ' N', Big ρ N m w ρ' N' m' w' → St n ρ' N' w' t' m' a' → Q .normal a' w') → wpList P all Q rest a w

/-- What is known of the program. -/
structure Known (E : Env) : Prop where
  ext : ∀ f args m r, E.ext f args m = some r → GoodCall E.P f args m r.1 r.2 ∧ Kept m r.2
  ok : ∀ (f : FuncId) (fn : Func) (c : Code), E.P.funcs[f]? = some fn → fn.body = some c → codeOk (E.pairs f) fn.ntmps c = true
  mixed : E.P.follows .mixedOrders = true
  name : ∀ (f : FuncId) (fn : Func), E.P.funcs[f]? = some fn → (fn.name == "runtime.NumGoroutine") = false

theorem not_bool {ρ : Nm} {N : Nat → Prop} {w : World} {d : DV} {q : Bool} (h : VR ρ N w d (.bool q)) : d = .bool q ∨ d = .junk := by
  cases d <;> simp only [VR] at h
  case bool => injection h with h; subst h; exact .inl rfl
  case junk => exact .inr rfl
  case int => cases h
  case str => cases h
  case nilp => cases h
  case nilf => cases h
  case nilm => cases h
  case sl => obtain ⟨_, _, _, _, _, _, _, h, _⟩ := h; cases h
  case dsl => obtain ⟨_, _, h, _⟩ := h; cases h
  case ptr => obtain ⟨_, _, h⟩ := h; cases h
  case dptr => obtain ⟨_, h, _⟩ := h; cases h
  case fn => obtain ⟨_, _, h, _⟩ := h; cases h
  case mp => obtain ⟨_, _, h⟩ := h; cases h
  case agg => obtain ⟨_, h, _⟩ := h; cases h
  case tup => obtain ⟨_, h, _⟩ := h; cases h

theorem guard_spec {ρ : Nm} {N : Nat → Prop} {w : World} {t : Slots} {a : Act} {all : Array Oper} {o : Oper} {b : Bool} (h : SR ρ N w t a.tmps) (hw : wantedD all o t = some b) : Region.wanted o (yielded all a.tmps) = b := by
  unfold wantedD at hw
  unfold Region.wanted
  split at hw
  · rename_i hg
    rw [hg]
    injection hw with hw
  · rename_i g hg
    rw [hg]
    obtain ⟨j, want⟩ := g
    simp only
    unfold guardD at hw
    simp only at hw
    unfold yielded
    split at hw
    · rename_i hd
      injection hw with hw; subst hw
      rw [hd]; rfl
    · rename_i d hd
      rw [hd]
      simp only [Option.bind_some]
      have hs := h d
      split at hw
      · rename_i q hq
        injection hw with hw; subst hw
        rw [hq] at hs
        simp only [Option.getD_some, VR] at hs
        have : a.tmps[d]? = some (.bool q) := by
          rw [Array.getD_eq_getD_getElem?] at hs
          cases h9 : a.tmps[d]? with
          | none => rw [h9] at hs; simp [undef] at hs
          | some u => rw [h9] at hs; simp at hs; rw [hs]
        rw [this]
        cases q <;> cases want <;> rfl
      · cases hw
      · rename_i h1 h2
        injection hw with hw; subst hw
        cases h9 : a.tmps[d]? with
        | none => rfl
        | some u =>
          cases u <;> try rfl
          rename_i q
          exfalso
          rw [Array.getD_eq_getD_getElem?, h9] at hs
          simp only [Option.getD_some] at hs
          cases h8 : t.get d with
          | none =>
            rw [h8] at hs
            simp only [Option.getD_none, undefD, VR] at hs
            obtain ⟨vs, h7, _⟩ := hs
            cases h7
          | some v =>
            rw [h8] at hs
            simp only [Option.getD_some] at hs
            rcases not_bool hs with e | e
            · subst e; exact h1 q h8
            · subst e; exact h2 h8

/-! ### One operation -/
theorem target_spec {ρ : Nm} {N : Nat → Prop} {w : World} {t : Slots} {a : Act} {c : Call} {g : FuncId} {args : List DV} (h : SR ρ N w t a.tmps) (ht : targetD c t = some (g, args)) (type : TypeId) (P : Program) :
    ∃ vs, VRL ρ N w args vs ∧ ∃ d, (resolve a.eval c type).run P w = .ok d w ∧ (invoke d.target d.args) = callFunc g ⟨vs⟩ := by
  unfold targetD at ht
  split at ht
  · rename_i f hc
    split at ht
    · rename_i g' fst caps hf
      injection ht with ht; injection ht with h1 h2; subst h1 h2
      have hv := ev_spec h f
      rw [hf] at hv
      simp only [VR] at hv
      obtain ⟨fs, us, hu, hr1, hr⟩ := hv
      refine ⟨fs ++ (c.args.toList.map a.eval ++ us), hr1.append ((evs_spec h c.args.toList).append hr), { target := .fn (.func g') ⟨us⟩, args := ⟨fs⟩ ++ c.args.map a.eval }, ?_, ?_⟩
      · simp only [resolve, hc, hu, Deferred.ofValue, Sem.run_pure]
      · simp only [invoke]
        congr 1
        apply Array.ext'
        simp
    · cases ht
  · cases ht

theorem userCall_spec {o : Op} {c : Call} (h : userCall o = some c) : o = .call c := by
  unfold userCall at h
  split at h
  · split at h
    · injection h with h; subst h; rfl
    · cases h
  · cases h

/-- A call: the model enters. -/
theorem enter_spec {E : Env} (K : Known E) {ρ : Nm} {N : Nat → Prop} {w : World} {t : Slots} {a : Act} {o : Oper} {c : Call} {g : FuncId} {args : List DV} {fn : Func} {body : Code} (hf : E.P.funcs[g]? = some fn) (hb : fn.body = some body) (h : SR ρ N w t a.tmps) (hc : userCall o.op = some c) (ht : targetD c t = some (g, args)) :
    ∃ vs, VRL ρ N w args vs ∧ (execOp a.eval o).run E.P w = .ok (.enter g ⟨vs⟩) w := by
  obtain ⟨vs, h1, d, h2, h3⟩ := target_spec h ht o.type E.P
  refine ⟨vs, h1, ?_⟩
  have ho := userCall_spec hc
  unfold execOp
  simp only [ho, Sem.run_bind, h2, Result.andThen_ok, h3]
  have hn : ¬ fn.name = "runtime.NumGoroutine" := by
    intro e
    have := K.name g fn hf
    rw [e] at this
    simp at this
  unfold callFunc
  simp [hf, hb, hn]

/-- One operation of a region that draws, done in the text's order. -/
inductive Did (E : Env) (l : List (Nat × Nat)) (o : Oper) (t : Slots) (m : DH) (b : Nat) : Kd → DV → DH → Prop where
  | idle (hc : clsOf o.op = .idle) {v : DV} {m1 : DH} (h : opD E.P o.op t m = some (v, m1)) : Did E l o t m b .idle v m
  | new (hc : clsOf o.op = .new) {v : DV} {m1 : DH} (h : opD E.P o.op t { h := m.h, n := b, wrs := m.wrs } = some (v, m1)) : Did E l o t m b (.new b) v { h := m1.h, n := m.n, wrs := m.wrs }
  | read (hc : clsOf o.op = .read) {v : DV} {m1 : DH} (h : opD E.P o.op t m = some (v, m1)) : Did E l o t m b (.read (rdD o.op t m)) v m
  | call (hc : clsOf o.op = .chain) {c : Call} (hu : userCall o.op = some c) {g : FuncId} {args : List DV} (ht : targetD c t = some (g, args)) {fn : Func} {body : Code} (hf : E.P.funcs[g]? = some fn) (hb : fn.body = some body)
      {v : DV} {m1 : DH} (h : GoodCall E.P g args { h := m.h, n := m.n, wrs := [] } v m1) (hk : Kept { h := m.h, n := m.n, wrs := [] } m1) : Did E l o t m b (.chain (oldOf m.n m1.wrs) m.n) v { h := m1.h, n := m1.n, wrs := oldOf m.n m1.wrs ++ m.wrs }
  | chain (hc : clsOf o.op = .chain) (hu : userCall o.op = none) {v : DV} {m1 : DH} (h : opD E.P o.op t m = some (v, m1)) : Did E l o t m b (.chain (wrD o.op t) m.n) v m1

/-- All of them. -/
inductive TRun (E : Env) (all : Array Oper) (l : List (Nat × Nat)) (t' : Slots) (m' : DH) : Nat → List Oper → Slots → DH → Nat → List Kd → Prop where
  | nil {j : Nat} {b : Nat} {tr : List Kd} : TRun E all l t' m' j [] t' m' b tr
  | skip {j : Nat} {o : Oper} {rest : List Oper} {t : Slots} {m : DH} {b : Nat} {tr : List Kd} (hw : wantedD all o t = some false) (hc : checkPairs tr .idle j l = true)
      (h : TRun E all l t' m' (j + 1) rest (put t o.dst undefD) m (match isNew (clsOf o.op) with | true => b + 1 | false => b) (.idle :: tr)) : TRun E all l t' m' j (o :: rest) t m b tr
  | step {j : Nat} {o : Oper} {rest : List Oper} {t : Slots} {m m1 : DH} {b : Nat} {tr : List Kd} {k : Kd} {v : DV} (hw : wantedD all o t = some true) (hd : Did E l o t m b k v m1) (hc : checkPairs tr k j l = true)
      (h : TRun E all l t' m' (j + 1) rest (put t o.dst v) m1 (match isNew (clsOf o.op) with | true => b + 1 | false => b) (k :: tr)) : TRun E all l t' m' j (o :: rest) t m b tr

/-- What is shown of a task. -/
def Shown (E : Env) (T : Task) (out : Out) : Prop :=
  match T, out with
  | .call f args m, .val v m' => GoodCall E.P f args m v m' ∧ Kept m m' ∧ ∃ fn c, E.P.funcs[f]? = some fn ∧ fn.body = some c
  | .ops _ all rest t m, .st x t' m' => Kept m m' ∧ ∀ n, opsOk n rest = true → x = .normal ∧ GoodOps E.P n all rest t m t' m'
  | .code f c t m, .st x t' m' => Kept m m' ∧ ∀ n, codeOk (E.pairs f) n c = true → GoodCode E.P n c t m x t' m' ∧ ∀ d, c = .loop d → GoodLoop E.P n d t m x t' m'
  | .rops _ all l j rest t m b tr, .st x t' m' => x = .normal ∧ TRun E all l t' m' j rest t m b tr
  | _, _ => True

theorem st_mono {n : Nat} {ρ ρ' : Nm} {N N' : Nat → Prop} {w w' : World} {t : Slots} {m m' : DH} {a : Act} (h : St n ρ N w t m a) (B : Big ρ N m w ρ' N' m' w') (M : Mem ρ' N' w' m') : St n ρ' N' w' t m' a :=
  ⟨M, h.2.1.later B.later, h.2.2.1, h.2.2.2⟩

theorem st_put {n : Nat} {ρ : Nm} {N : Nat → Prop} {w : World} {t : Slots} {m : DH} {a : Act} {d : Option Nat} {v : DV} {x : Value} (h : St n ρ N w t m a) (hd : ∀ i, d = some i → i < n) (hv : VR ρ N w v x) : St n ρ N w (put t d v) m (a.put d x) :=
  ⟨h.1, h.2.1.put (fun i hi => by rw [h.2.2.1]; exact hd i hi) hv, by rw [put_size]; exact h.2.2.1, by rw [put_defers]; exact h.2.2.2⟩

theorem one_kept {E : Env} {T : Task → Out} (ih : ∀ t, Shown E t (T t)) {t : Slots} {m : DH} {o : Op} {v : DV} {m' : DH} (h : oneB E T o t m = .val v m') : Kept m m' := by
  unfold oneB at h
  split at h
  · split at h
    · rename_i g args ht
      have hs := ih (.call g args m)
      rw [h] at hs
      exact hs.2.1
    · cases h
  · cases ho : opD E.P o t m with
    | none => rw [ho] at h; cases h
    | some r =>
      obtain ⟨v', m1⟩ := r
      rw [ho] at h
      simp only [Out.ofOR] at h
      injection h with h1 h2; subst h1 h2
      exact (opD_eff ho).kept

/-- One operation, done. -/
theorem one_spec {E : Env} (K : Known E) {T : Task → Out} (ih : ∀ t, Shown E t (T t)) {n : Nat} {ρ : Nm} {N : Nat → Prop} {w : World} {t : Slots} {m : DH} {a : Act} {o : Oper} {Q : Exit → Act → World → Prop} {next : Act → World → Prop} (S : St n ρ N w t m a) (hd : ∀ i, o.dst = some i → i < n) {v : DV} {m' : DH}
    (h : oneB E T o.op t m = .val v m') (hn : ∀ a' w' ρ' N', Big ρ N m w ρ' N' m' w' → St n ρ' N' w' (put t o.dst v) m' a' → next a' w') : o.wp E.P a w next Q := by
  unfold oneB at h
  split at h
  · rename_i c hc
    split at h
    · rename_i g args ht
      have hs := ih (.call g args m)
      rw [h] at hs
      obtain ⟨hg, hk, fn, body, hf, hb⟩ := hs
      obtain ⟨vs, h1, h2⟩ := enter_spec K hf hb S.2.1 hc ht
      unfold Oper.wp
      rw [h2]
      simp only [Oper.upon]
      refine Calls.mono (hg ρ N w vs S.1 h1) fun e w' he => ?_
      obtain ⟨x, rfl, ρ', N', B, M, hv⟩ := he
      exact hn _ _ ρ' N' B (st_put (st_mono S B M) hd hv)
    · cases h
  · rename_i hc
    cases ho : opD E.P o.op t m with
    | none => rw [ho] at h; cases h
    | some r =>
      obtain ⟨v', m1⟩ := r
      rw [ho] at h
      simp only [Out.ofOR] at h
      injection h with h1 h2; subst h1 h2
      obtain ⟨wr, _, hdn⟩ := done_op (P := E.P) (o := o) S.1.G S.2.1 (fun b _ => S.1.R b) ho
      obtain ⟨r, ρ', w', h1, B, M, hv⟩ := hdn.mem S.1
      unfold Oper.wp
      rw [h1]
      rcases hv with ⟨x, rfl, hv⟩ | ⟨rfl, hv⟩
      · exact hn _ _ ρ' N B (st_put (st_mono S B M) hd hv)
      · subst hv
        exact hn _ _ ρ' N B (st_put (st_mono S B M) hd VR.undef)

theorem ops_spec {E : Env} (K : Known E) {T : Task → Out} (ih : ∀ t, Shown E t (T t)) (f : FuncId) (all : Array Oper) (rest : List Oper) (t : Slots) (m : DH) : Shown E (.ops f all rest t m) (opsB E T f all rest t m) := by
  unfold opsB
  cases rest with
  | nil =>
    refine ⟨Kept.refl _, fun n _ => ?_⟩
    exact ⟨rfl, fun ρ N w a Q S h => h a w ρ N (Big.refl _ _ _ _) S⟩
  | cons o rest =>
    simp only
    cases hw : wantedD all o t with
    | none => trivial
    | some b =>
      cases b with
      | false =>
        simp only
        have hs := ih (.ops f all rest (put t o.dst undefD) m)
        cases hT : T (.ops f all rest (put t o.dst undefD) m) with
        | val v m' => trivial
        | no => trivial
        | st x t' m' =>
          rw [hT] at hs
          refine ⟨hs.1, fun n hn => ?_⟩
          obtain ⟨hd, hn'⟩ := opsOk_cons hn
          obtain ⟨hx, hg⟩ := hs.2 n hn'
          refine ⟨hx, fun ρ N w a Q S h => ?_⟩
          unfold wpList
          rw [guard_spec S.2.1 hw]
          simp only [Bool.false_eq_true, if_false]
          exact hg ρ N w _ Q (st_put S hd VR.undef) h
      | true =>
        simp only
        cases h1 : oneB E T o.op t m with
        | no => trivial
        | st x t' m' => trivial
        | val v m1 =>
          simp only [opsGo]
          have hs := ih (.ops f all rest (put t o.dst v) m1)
          cases hT : T (.ops f all rest (put t o.dst v) m1) with
          | val v m' => trivial
          | no => trivial
          | st x t' m' =>
            rw [hT] at hs
            refine ⟨(one_kept ih h1).trans hs.1, fun n hn => ?_⟩
            obtain ⟨hd, hn'⟩ := opsOk_cons hn
            obtain ⟨hx, hg⟩ := hs.2 n hn'
            refine ⟨hx, fun ρ N w a Q S h => ?_⟩
            unfold wpList
            rw [guard_spec S.2.1 hw]
            simp only [if_true]
            refine .inl (one_spec K ih S hd h1 fun a' w' ρ' N' B S' => ?_)
            exact hg ρ' N' w' a' Q S' fun a'' w'' ρ'' N'' B' S'' => h a'' w'' ρ'' N'' (B.trans S.1.G.dom B') S''

theorem ropsNext_spec {E : Env} {T : Task → Out} (ih : ∀ t, Shown E t (T t)) {f : FuncId} {all : Array Oper} {l : List (Nat × Nat)} {j : Nat} {rest : List Oper} {t : Slots} {d : Option Nat} {b : Nat} {tr : List Kd} {k : Kd} {v : DV} {m : DH} {x : DX} {t' : Slots} {m' : DH}
    (h : ropsNext T f all l j rest t d b tr k v m = .st x t' m') : checkPairs tr k j l = true ∧ x = .normal ∧ TRun E all l t' m' (j + 1) rest (put t d v) m b (k :: tr) := by
  unfold ropsNext at h
  split at h
  · rename_i hc
    have hs := ih (.rops f all l (j + 1) rest (put t d v) m b (k :: tr))
    rw [h] at hs
    exact ⟨hc, hs⟩
  · cases h

theorem rops_spec {E : Env} {T : Task → Out} (ih : ∀ t, Shown E t (T t)) (f : FuncId) (all : Array Oper) (l : List (Nat × Nat)) (j : Nat) (rest : List Oper) (t : Slots) (m : DH) (b : Nat) (tr : List Kd) : Shown E (.rops f all l j rest t m b tr) (ropsB E T f all l j rest t m b tr) := by
  cases hr : ropsB E T f all l j rest t m b tr with
  | val v m' => trivial
  | no => trivial
  | st x t' m' =>
    show x = .normal ∧ TRun E all l t' m' j rest t m b tr
    unfold ropsB at hr
    cases rest with
    | nil => simp only at hr; injection hr with h1 h2 h3; subst h1 h2 h3; exact ⟨rfl, .nil⟩
    | cons o rest =>
      simp only at hr
      cases hw : wantedD all o t with
      | none => rw [hw] at hr; cases hr
      | some q =>
        cases q with
        | false =>
          rw [hw] at hr
          obtain ⟨h1, h2, h3⟩ := ropsNext_spec ih hr
          exact ⟨h2, .skip hw h1 h3⟩
        | true =>
          rw [hw] at hr
          simp only at hr
          cases hc : clsOf o.op with
          | idle =>
            rw [hc] at hr
            simp only at hr
            split at hr
            · rename_i v m1 ho
              obtain ⟨h1, h2, h3⟩ := ropsNext_spec ih hr
              exact ⟨h2, .step hw (.idle hc ho) h1 (by rw [hc]; exact h3)⟩
            · cases hr
          | new =>
            rw [hc] at hr
            simp only at hr
            split at hr
            · rename_i v m1 ho
              obtain ⟨h1, h2, h3⟩ := ropsNext_spec ih hr
              exact ⟨h2, .step hw (.new hc ho) h1 (by rw [hc]; exact h3)⟩
            · cases hr
          | read =>
            rw [hc] at hr
            simp only at hr
            split at hr
            · rename_i v m1 ho
              obtain ⟨h1, h2, h3⟩ := ropsNext_spec ih hr
              exact ⟨h2, .step hw (.read hc ho) h1 (by rw [hc]; exact h3)⟩
            · cases hr
          | chain =>
            rw [hc] at hr
            simp only at hr
            split at hr
            · rename_i c hu
              split at hr
              · rename_i g args ht
                have hs := ih (.call g args { h := m.h, n := m.n, wrs := [] })
                split at hr
                · rename_i v m1 hT
                  rw [hT] at hs
                  obtain ⟨hg, hk, fn, body, hf, hb⟩ := hs
                  obtain ⟨h1, h2, h3⟩ := ropsNext_spec ih hr
                  exact ⟨h2, .step hw (.call hc hu ht hf hb hg hk) h1 (by rw [hc]; exact h3)⟩
                · cases hr
              · cases hr
            · rename_i hu
              split at hr
              · rename_i v m1 ho
                obtain ⟨h1, h2, h3⟩ := ropsNext_spec ih hr
                exact ⟨h2, .step hw (.chain hc hu ho) h1 (by rw [hc]; exact h3)⟩
              · cases hr

theorem wrD_new {op : Op} (h : clsOf op = .new) (t : Slots) : wrD op t = [] := by
  cases op <;> first | rfl | (simp only [clsOf] at h; cases h; done) | skip
  case call c =>
    cases hc : c.callee with
    | builtin b => simp only [clsOf, hc] at h; cases b <;> cases h
    | value f => simp only [clsOf, hc] at h; cases h
    | invoke f n => simp only [clsOf, hc] at h; cases h

theorem new_eff {op : Op} {t : Slots} {m m' : DH} (h : clsOf op = .new) (he : Eff op t m m') : ∀ b', b' ≠ m.n → m'.h.get b' = m.h.get b' := by
  intro b' hb
  have hw := wrD_new h t
  cases he with
  | same => rfl
  | add d => rw [PM.get_set_ne _ _ (Ne.symm hb)]
  | set b d o hb h => rw [hw] at hb; simp at hb
  | opened b d o hb h => rw [hw] at hb; simp at hb

theorem trun_kept {E : Env} {all : Array Oper} {l : List (Nat × Nat)} {t' : Slots} {m' : DH} {m0 : DH} {j : Nat} {rest : List Oper} {t : Slots} {m : DH} {b : Nat} {tr : List Kd} (h : TRun E all l t' m' j rest t m b tr) (hb : m0.n ≤ b) (hbc : b + countNew rest ≤ m.n) (K : Kept m0 m) : Kept m0 m' := by
  induction h with
  | nil => exact K
  | @skip j o rest t m b tr hw hc h ih =>
    refine ih ?_ ?_ K
    · split <;> omega
    · simp only [countNew] at hbc
      cases hcl : clsOf o.op <;> simp only [hcl, isNew] at hbc ⊢ <;> omega
  | @step j o rest t m m1 b tr k v hw hd hc h ih =>
    have hle := K.le
    refine ih ?_ ?_ ?_
    · split <;> omega
    · simp only [countNew] at hbc
      cases hd with
      | idle hcl ho => rw [hcl] at hbc ⊢; simp only [isNew] at hbc ⊢; omega
      | new hcl ho => rw [hcl] at hbc ⊢; simp only [isNew] at hbc ⊢; omega
      | read hcl ho => rw [hcl] at hbc ⊢; simp only [isNew] at hbc ⊢; omega
      | call hcl hu ht hf hbd hg hk => rw [hcl] at hbc ⊢; simp only [isNew] at hbc ⊢; have := hk.le; simp only at this; omega
      | chain hcl hu ho => rw [hcl] at hbc ⊢; simp only [isNew] at hbc ⊢; have := (opD_eff ho).kept.le; omega
    · cases hd with
      | idle hcl ho => exact K
      | new hcl ho =>
        simp only [countNew, hcl] at hbc
        have hm1 : ∀ b', b' ≠ b → PM.get _ b' = PM.get m.h b' := new_eff hcl (opD_eff ho)
        refine ⟨K.le, K.more, fun b' hb' hl => ?_, fun b' hb' hn => ?_, fun hfr b' hb' => ?_⟩
        · exact (hm1 b' (by omega)).trans (K.same b' hb' hl)
        · exact (hm1 b' (by omega)).trans (K.gone b' hb' hn)
        · have hb2 : m.n ≤ b' := hb'
          exact (hm1 b' (by omega)).trans (K.fresh hfr b' hb2)
      | read hcl ho => exact K
      | @call hcl c hu g args ht fn body hf hbd v m1 hg hk =>
        have h1 := hk.le
        simp only at h1
        refine ⟨by simp only; omega, fun b' hb' => List.mem_append.2 (.inr (K.more b' hb')), fun b' hb' hl => ?_, fun b' hb' hn => ?_, fun hfr b' hb' => ?_⟩
        · simp only [List.mem_append, mem_oldOf, not_or] at hl
          have := hk.same b' (by simp only; omega) (fun e => hl.1 ⟨e, by omega⟩)
          simp only at this
          simp only
          rw [this, K.same b' hb' hl.2]
        · have := hk.gone b' (by simp only; omega) (K.gone b' hb' hn)
          exact this
        · exact hk.fresh (K.fresh hfr) b' hb'
      | chain hcl hu ho => exact K.trans (opD_eff ho).kept

/-- What a region that draws must come to. -/
def Draws (E : Env) : Prop := ∀ (f : FuncId) (id n : Nat) (ops : Array Oper) (l : List (Nat × Nat)) (t : Slots) (m : DH) (t' : Slots) (m' : DH), E.pairs f id = some l → opsOk n ops.toList = true → statOk ops l = true →
  TRun E ops l t' m' 0 ops.toList t { h := m.h, n := m.n + countNew ops.toList, wrs := m.wrs } m.n [] → GoodCode E.P n (.region id ops true) t m .normal t' m'

theorem rounds_mono {P : Program} {c : Code} {Q Q' : Exit → Act → World → Prop} (h : ∀ e a w, Q e a w → Q' e a w) : ∀ (n : Nat) (a : Act) (w : World), Code.rounds P c Q n a w → Code.rounds P c Q' n a w
  | 0, _, _, hr => hr.elim
  | n + 1, a, w, hr => by
    rw [rounds_succ] at hr ⊢
    refine wp_mono hr fun e a' w' hq => ?_
    cases e <;> first | exact rounds_mono h n _ _ hq | exact h _ _ _ hq

theorem big_code {P : Program} {n : Nat} {c : Code} {t' t'' : Slots} {m m' m'' : DH} {x : DX} {ρ ρ' : Nm} {N N' : Nat → Prop} {w w' : World} {a' : Act} (hg : GoodCode P n c t' m' x t'' m'') (hd : ∀ b g, ρ b = some g → b < m.n ∧ g < w.heap.size) (B : Big ρ N m w ρ' N' m' w') (S : St n ρ' N' w' t' m' a')
    {Q : Exit → Act → World → Prop} (hQ : ∀ a'' w'' ρ'' N'', Big ρ N m w ρ'' N'' m'' w'' → St n ρ'' N'' w'' t'' m'' a'' → Q (exitOf x) a'' w'') : c.wp P Q a' w' := by
  refine wp_mono (hg ρ' N' w' a' S) fun e a'' w'' h => ?_
  obtain ⟨rfl, ρ'', N'', B', S'⟩ := h
  exact hQ a'' w'' ρ'' N'' (B.trans hd B') S'

theorem loop_case {E : Env} {T : Task → Out} (ih : ∀ t, Shown E t (T t)) {f : FuncId} {c : Code} {t : Slots} {m : DH} {x : DX} {t' : Slots} {m' : DH} {n : Nat} (hr : codeB E T f (.loop c) t m = .st x t' m') (hn : codeOk (E.pairs f) n (.loop c) = true) :
    GoodCode E.P n (.loop c) t m x t' m' ∧ ∀ d, Code.loop c = .loop d → GoodLoop E.P n d t m x t' m' := by
  have key : GoodLoop E.P n c t m x t' m' := by
    unfold codeB at hr
    simp only at hr
    have hp := ih (.code f c t m)
    cases hT : T (.code f c t m) with
    | val v m' => rw [hT] at hr; cases hr
    | no => rw [hT] at hr; cases hr
    | st y t1 m1 =>
      rw [hT] at hp
      rw [hT] at hr
      have hp := (hp.2 n hn).1
      cases y with
      | normal =>
        simp only [seqGo] at hr
        have hq := ih (.code f (.loop c) t1 m1)
        rw [hr] at hq
        obtain ⟨k, hq⟩ := (hq.2 n hn).2 c rfl
        refine ⟨k + 1, fun ρ N w a S => ?_⟩
        rw [rounds_succ]
        refine wp_mono (hp ρ N w a S) fun e a' w' h => ?_
        obtain ⟨rfl, ρ', N', B, S'⟩ := h
        refine rounds_mono (fun e a'' w'' h => ?_) k a' w' (hq ρ' N' w' a' S')
        obtain ⟨he, ρ'', N'', B', S''⟩ := h
        exact ⟨he, ρ'', N'', B.trans S.1.G.dom B', S''⟩
      | exit id =>
        simp only [seqGo] at hr
        injection hr with h1 h2 h3; subst h1 h2 h3
        refine ⟨1, fun ρ N w a S => ?_⟩
        rw [rounds_succ]
        refine wp_mono (hp ρ N w a S) fun e a' w' h => ?_
        obtain ⟨rfl, h⟩ := h
        exact ⟨rfl, h⟩
      | ret =>
        simp only [seqGo] at hr
        injection hr with h1 h2 h3; subst h1 h2 h3
        refine ⟨1, fun ρ N w a S => ?_⟩
        rw [rounds_succ]
        refine wp_mono (hp ρ N w a S) fun e a' w' h => ?_
        obtain ⟨rfl, h⟩ := h
        exact ⟨rfl, h⟩
  refine ⟨fun ρ N w a S => ?_, fun d h => by injection h with h; subst h; exact key⟩
  obtain ⟨k, hk⟩ := key
  exact wp_loop_rounds k (hk ρ N w a S)

theorem code_kept {E : Env} {T : Task → Out} (ih : ∀ t, Shown E t (T t)) {f : FuncId} {c : Code} {t : Slots} {m : DH} {x : DX} {t' : Slots} {m' : DH} (hr : codeB E T f c t m = .st x t' m') : Kept m m' := by
  have code : ∀ (c : Code) (t : Slots) (m : DH) (x : DX) (t' : Slots) (m' : DH), T (.code f c t m) = .st x t' m' → Kept m m' := by
    intro c t m x t' m' h
    have hs := ih (.code f c t m)
    rw [h] at hs
    exact hs.1
  unfold codeB at hr
  cases c <;> simp only at hr
  case skip => injection hr with h1 h2 h3; subst h3; exact .refl _
  case exit id => injection hr with h1 h2 h3; subst h3; exact .refl _
  case ret => injection hr with h1 h2 h3; subst h3; exact .refl _
  case region id ops draw =>
    cases draw with
    | false =>
      simp only at hr
      have hs := ih (.ops f ops ops.toList t m)
      rw [hr] at hs
      exact hs.1
    | true =>
      simp only at hr
      split at hr
      · cases hr
      · rename_i l hl
        have hs := ih (.rops f ops l 0 ops.toList t { h := m.h, n := m.n + countNew ops.toList, wrs := m.wrs } m.n [])
        rw [hr] at hs
        refine trun_kept hs.2 (Nat.le_refl _) (Nat.le_refl _) ⟨Nat.le_add_right _ _, fun _ h => h, fun _ _ _ => rfl, fun _ _ h => h, fun h b hb => h b ?_⟩
        have hb' : m.n + countNew ops.toList ≤ b := hb
        omega
  case seq p q =>
    cases hT : T (.code f p t m) with
    | val v m' => rw [hT] at hr; cases hr
    | no => rw [hT] at hr; cases hr
    | st y t1 m1 =>
      rw [hT] at hr
      have h1 := code _ _ _ _ _ _ hT
      cases y with
      | normal => simp only [seqGo] at hr; exact h1.trans (code _ _ _ _ _ _ hr)
      | exit id => simp only [seqGo] at hr; injection hr with h2 h3 h4; subst h4; exact h1
      | ret => simp only [seqGo] at hr; injection hr with h2 h3 h4; subst h4; exact h1
  case cond o p q =>
    unfold condGo at hr
    split at hr
    · exact code _ _ _ _ _ _ hr
    · exact code _ _ _ _ _ _ hr
    · cases hr
  case block id c =>
    cases hT : T (.code f c t m) with
    | val v m' => rw [hT] at hr; cases hr
    | no => rw [hT] at hr; cases hr
    | st y t1 m1 =>
      rw [hT] at hr
      have h1 := code _ _ _ _ _ _ hT
      cases y with
      | normal => simp only [blockGo] at hr; injection hr with h2 h3 h4; subst h4; exact h1
      | ret => simp only [blockGo] at hr; injection hr with h2 h3 h4; subst h4; exact h1
      | exit i =>
        simp only [blockGo] at hr
        split at hr <;> (injection hr with h2 h3 h4; subst h4; exact h1)
  case loop c =>
    cases hT : T (.code f c t m) with
    | val v m' => rw [hT] at hr; cases hr
    | no => rw [hT] at hr; cases hr
    | st y t1 m1 =>
      rw [hT] at hr
      have h1 := code _ _ _ _ _ _ hT
      cases y with
      | normal => simp only [seqGo] at hr; exact h1.trans (code _ _ _ _ _ _ hr)
      | exit id => simp only [seqGo] at hr; injection hr with h2 h3 h4; subst h4; exact h1
      | ret => simp only [seqGo] at hr; injection hr with h2 h3 h4; subst h4; exact h1
  all_goals cases hr

theorem code_spec {E : Env} (D : Draws E) {T : Task → Out} (ih : ∀ t, Shown E t (T t)) (f : FuncId) (c : Code) (t : Slots) (m : DH) : Shown E (.code f c t m) (codeB E T f c t m) := by
  cases hr : codeB E T f c t m with
  | val v m' => trivial
  | no => trivial
  | st x t' m' =>
    refine ⟨code_kept ih hr, fun n hn => ?_⟩
    suffices hh : (∀ d, c ≠ .loop d) → GoodCode E.P n c t m x t' m' by
      cases c
      case loop d => exact loop_case ih hr hn
      all_goals exact ⟨hh (by simp), fun d h => by cases h⟩
    intro hnl
    unfold codeB at hr
    cases c <;> simp only at hr
    case skip => injection hr with h1 h2 h3; subst h1 h2 h3; exact fun ρ N w a S => wp_skip ⟨rfl, ρ, N, Big.refl _ _ _ _, S⟩
    case exit id => injection hr with h1 h2 h3; subst h1 h2 h3; exact fun ρ N w a S => wp_exit ⟨rfl, ρ, N, Big.refl _ _ _ _, S⟩
    case ret => injection hr with h1 h2 h3; subst h1 h2 h3; exact fun ρ N w a S => wp_ret ⟨rfl, ρ, N, Big.refl _ _ _ _, S⟩
    case region id ops draw =>
      cases draw with
      | false =>
        simp only at hr
        have hs := ih (.ops f ops ops.toList t m)
        rw [hr] at hs
        simp only [codeOk, Bool.and_eq_true] at hn
        obtain ⟨hx, hg⟩ := hs.2 n hn.1
        subst hx
        exact fun ρ N w a S => wp_region_list (hg ρ N w a _ S fun a' w' ρ' N' B S' => ⟨rfl, ρ', N', B, S'⟩)
      | true =>
        simp only at hr
        split at hr
        · cases hr
        · rename_i l hl
          have hs := ih (.rops f ops l 0 ops.toList t { h := m.h, n := m.n + countNew ops.toList, wrs := m.wrs } m.n [])
          rw [hr] at hs
          obtain ⟨hx, hg⟩ := hs
          subst hx
          simp only [codeOk, drawOk, hl, Bool.and_eq_true] at hn
          exact D f id n ops l t m t' m' hl hn.1 hn.2 hg
    case seq p q =>
      simp only [codeOk, Bool.and_eq_true] at hn
      have hp := ih (.code f p t m)
      cases hT : T (.code f p t m) with
      | val v m' => rw [hT] at hr; cases hr
      | no => rw [hT] at hr; cases hr
      | st y t1 m1 =>
        rw [hT] at hp
        rw [hT] at hr
        have hp := (hp.2 n hn.1).1
        cases y with
        | normal =>
          simp only [seqGo] at hr
          have hq := ih (.code f q t1 m1)
          rw [hr] at hq
          exact fun ρ N w a S => wp_seq (wp_mono (hp ρ N w a S) fun e a' w' h => by
            obtain ⟨rfl, ρ', N', B, S'⟩ := h
            exact big_code (hq.2 n hn.2).1 S.1.G.dom B S' fun a'' w'' ρ'' N'' B' S'' => ⟨rfl, ρ'', N'', B', S''⟩)
        | exit id =>
          simp only [seqGo] at hr
          injection hr with h1 h2 h3; subst h1 h2 h3
          exact fun ρ N w a S => wp_seq (wp_mono (hp ρ N w a S) fun e a' w' h => by
            obtain ⟨rfl, h⟩ := h
            exact ⟨rfl, h⟩)
        | ret =>
          simp only [seqGo] at hr
          injection hr with h1 h2 h3; subst h1 h2 h3
          exact fun ρ N w a S => wp_seq (wp_mono (hp ρ N w a S) fun e a' w' h => by
            obtain ⟨rfl, h⟩ := h
            exact ⟨rfl, h⟩)
    case cond o p q =>
      simp only [codeOk, Bool.and_eq_true] at hn
      unfold condGo at hr
      split at hr
      · rename_i he
        have hp := ih (.code f p t m)
        rw [hr] at hp
        exact fun ρ N w a S => wp_cond_true (by have := ev_spec S.2.1 o; rw [he] at this; simpa [VR] using this) ((hp.2 n hn.1).1 ρ N w a S)
      · rename_i he
        have hp := ih (.code f q t m)
        rw [hr] at hp
        exact fun ρ N w a S => wp_cond_false (by have := ev_spec S.2.1 o; rw [he] at this; simpa [VR] using this) ((hp.2 n hn.2).1 ρ N w a S)
      · cases hr
    case block id c =>
      have hp := ih (.code f c t m)
      cases hT : T (.code f c t m) with
      | val v m' => rw [hT] at hr; cases hr
      | no => rw [hT] at hr; cases hr
      | st y t1 m1 =>
        rw [hT] at hp
        rw [hT] at hr
        have hp := (hp.2 n hn).1
        cases y with
        | normal =>
          simp only [blockGo] at hr
          injection hr with h1 h2 h3; subst h1 h2 h3
          exact fun ρ N w a S => wp_block (wp_mono (hp ρ N w a S) fun e a' w' h => by
            obtain ⟨rfl, h⟩ := h
            exact ⟨rfl, h⟩)
        | ret =>
          simp only [blockGo] at hr
          injection hr with h1 h2 h3; subst h1 h2 h3
          exact fun ρ N w a S => wp_block (wp_mono (hp ρ N w a S) fun e a' w' h => by
            obtain ⟨rfl, h⟩ := h
            exact ⟨rfl, h⟩)
        | exit i =>
          simp only [blockGo] at hr
          split at hr
          · rename_i hb
            rw [Nat.beq_eq] at hb
            injection hr with h1 h2 h3; subst h1 h2 h3 hb
            exact fun ρ N w a S => wp_block (wp_mono (hp ρ N w a S) fun e a' w' h => by
              obtain ⟨rfl, h⟩ := h
              simp only [exitOf, Exit.inBlock, if_true]
              exact ⟨trivial, h⟩)
          · rename_i hb
            injection hr with h1 h2 h3; subst h1 h2 h3
            exact fun ρ N w a S => wp_block (wp_mono (hp ρ N w a S) fun e a' w' h => by
              obtain ⟨rfl, h⟩ := h
              have hne : ¬ i = id := by intro e; rw [← Nat.beq_eq, hb] at e; cases e
              simp only [exitOf, Exit.inBlock, hne, if_false]
              exact ⟨trivial, h⟩)
    case loop c => exact absurd rfl (hnl c)
    all_goals cases hr
end Go.Det
