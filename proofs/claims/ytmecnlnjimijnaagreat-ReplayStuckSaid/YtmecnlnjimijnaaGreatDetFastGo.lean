/-
  The quick machine's run, and that it does what the machine does (run_fast).
-/
import Derived.Test.YtmecnlnjimijnaaGreatDetFastRun
set_option linter.unusedVariables false
set_option linter.unusedSimpArgs false
set_option linter.unusedSectionVars false
namespace Go.Det
noncomputable section

/-- A word of its own, so that the kernel's own stack is left between two steps. -/
def onward (ih : Task → Out) (t : Task) : Out := ih t

def outV (o : Out) (k : DV → DH → Out) : Out := Out.rec (motive := fun _ => Out) (fun v m => k v m) (fun _ _ _ => .no) .no o

def seqF (ih : Task → Out) (f : FuncId) (b : Code) (o : Out) : Out :=
  Out.rec (motive := fun _ => Out) (fun v m => .val v m) (fun x t m => DX.rec (motive := fun _ => Out) (ih (.code f b t m)) (fun id => .st (.exit id) t m) (.st .ret t m) x) .no o
theorem seqF_eq (ih : Task → Out) (f : FuncId) (b : Code) (o : Out) : seqF ih f b o = seqGo ih f b o := by
  cases o with
  | st x t m => cases x <;> rfl
  | _ => rfl

def blockF (id : Nat) (o : Out) : Out :=
  Out.rec (motive := fun _ => Out) (fun v m => .val v m) (fun x t m => DX.rec (motive := fun _ => Out) (.st .normal t m) (fun i => iteB (Nat.beq i id) (.st .normal t m) (.st (.exit i) t m)) (.st .ret t m) x) .no o
theorem blockF_eq (id : Nat) (o : Out) : blockF id o = blockGo id o := by
  cases o with
  | st x t m => cases x with
    | exit i =>
      show iteB (Nat.beq i id) (Out.st .normal t m) (Out.st (.exit i) t m) = _
      rw [iteB_eq, blockGo]
      cases Nat.beq i id <;> rfl
    | _ => rfl
  | _ => rfl

def condF (ih : Task → Out) (f : FuncId) (a b : Code) (t : Slots) (m : DH) (v : DV) : Out :=
  match v with
  | .bool c => iteB c (ih (.code f a t m)) (ih (.code f b t m))
  | _ => .no
theorem condF_eq (ih : Task → Out) (f : FuncId) (a b : Code) (t : Slots) (m : DH) (v : DV) : condF ih f a b t m v = condGo ih f a b t m v := by
  cases v with
  | bool c => cases c <;> rfl
  | _ => rfl

inductive Gd where
  | all
  | never
  | at (d : Nat) (b : Bool)

def gdOf (all : Array Oper) (o : Oper) : Gd :=
  match o.guard with
  | none => .all
  | some g => match (all[g.1]?).bind (·.dst) with
    | none => .never
    | some d => .at d g.2

def eqBool (c b : Bool) : Bool := Bool.rec (motive := fun _ => Bool) (notB b) b c

def wantK (g : Gd) (t : Slots) (y x : Out) : Out :=
  Gd.rec (motive := fun _ => Out) y x (fun d b => Option.rec (motive := fun _ => Out) x (fun v => match v with
    | .bool c => iteB (eqBool c b) y x
    | .junk => .no
    | _ => x) (getV (wayX d) t)) g
theorem wantK_eq (all : Array Oper) (o : Oper) (t : Slots) (y x : Out) : wantK (gdOf all o) t y x = match wantedD all o t with | none => .no | some false => x | some true => y := by
  unfold wantK gdOf wantedD
  cases o.guard with
  | none => rfl
  | some g =>
    simp only [guardD]
    cases (all[g.1]?).bind (·.dst) with
    | none => rfl
    | some d =>
      simp only [getVX_eq]
      cases t.get d with
      | none => rfl
      | some v =>
        cases v with
        | bool c => cases c <;> cases g.2 <;> rfl
        | _ => rfl

inductive OneX where
  | call (c : Call)
  | op (f : Slots → DH → (DV → DH → Out) → Out)

def oneX (P : Program) (op : Op) : OneX :=
  match userCall op with
  | some c => .call c
  | none => match opX P op with
    | ⟨f⟩ => .op f

def argsF (xs : List Operand) (t : Slots) (caps : List DV) : List DV := List.rec (motive := fun _ => List DV) (evsF xs t) (fun c cs _ => evsF xs t ++ c :: cs) caps
theorem argsF_eq (xs : List Operand) (t : Slots) (caps : List DV) : argsF xs t caps = evs t xs ++ caps := by
  cases caps with
  | nil => show evsF xs t = _; rw [evsF_eq, List.append_nil]
  | cons c cs => show evsF xs t ++ c :: cs = _; rw [evsF_eq]

/-- A call: the function and its arguments, or not. -/
def targK (c : Call) (t : Slots) (k : FuncId → List DV → Out) : Out :=
  match c.callee with
  | .value f => match evF f t with
    | .fn g caps => k g (argsF c.args.toList t caps)
    | _ => .no
  | _ => .no
theorem targK_eq (c : Call) (t : Slots) (k : FuncId → List DV → Out) : targK c t k = match targetD c t with | some (g, args) => k g args | none => .no := by
  unfold targK targetD
  cases c.callee with
  | value f =>
    simp only [evF_eq]
    cases ev t f <;> simp only [argsF_eq]
  | _ => rfl

def oneK (E : Env) (ih : Task → Out) (o : Op) (t : Slots) (m : DH) (k : DV → DH → Out) : Out :=
  OneX.rec (motive := fun _ => Out) (fun c => targK c t fun g args => outV (ih (.call g args m)) k) (fun f => f t m k) (oneX E.P o)
theorem oneK_eq (E : Env) (ih : Task → Out) (o : Op) (t : Slots) (m : DH) (k : DV → DH → Out) : oneK E ih o t m k = outV (oneB E ih o t m) k := by
  unfold oneK oneX oneB
  cases hu : userCall o with
  | some c =>
    simp only [targK_eq]
    cases targetD c t with
    | none => rfl
    | some p => rfl
  | none =>
    simp only
    have h := opK_eq E.P o t m k
    unfold opK at h
    cases hx : opX E.P o with
    | mk f =>
      rw [hx] at h
      show f t m k = _
      rw [show f t m k = outE (opD E.P o t m) k from h]
      cases opD E.P o t m <;> rfl

def opsF (E : Env) (ih : Task → Out) (f : FuncId) (all : Array Oper) (rest : List Oper) (t : Slots) (m : DH) : Out :=
  List.rec (motive := fun _ => Out) (.st .normal t m) (fun o rest _ => wantK (gdOf all o) t
    (oneK E ih o.op t m fun v m => putK t o.dst v fun t => ih (.ops f all rest t m))
    (putK t o.dst undefD fun t => ih (.ops f all rest t m))) rest
theorem opsF_eq (E : Env) (ih : Task → Out) (f : FuncId) (all : Array Oper) (rest : List Oper) (t : Slots) (m : DH) : opsF E ih f all rest t m = opsB E ih f all rest t m := by
  cases rest with
  | nil => rfl
  | cons o rest =>
    show wantK (gdOf all o) t _ _ = _
    rw [wantK_eq, opsB]
    cases wantedD all o t with
    | none => rfl
    | some b =>
      cases b with
      | false => exact putK_eq _ _ _ _
      | true =>
        simp only [oneK_eq, putK_eq]
        cases oneB E ih o.op t m <;> rfl

/-! ### Results -/
def enterK (args : List DV) : Nat → Slots → (Slots → Out) → Out :=
  List.rec (motive := fun _ => Nat → Slots → (Slots → Out) → Out) (fun _ t k => k t) (fun v _ ih i t k => nowH v fun v => setV (wayX i) v t fun t => nowN (Nat.succ i) fun i => ih i t k) args
theorem enterK_eq : ∀ (args : List DV) (i : Nat) (t : Slots) (k : Slots → Out), enterK args i t k = k (enterSlots args i t)
  | [], _, _, _ => rfl
  | v :: args, i, t, k => by
    show (nowH v fun v => setV (wayX i) v t fun t => nowN (Nat.succ i) fun i => enterK args i t k) = _
    rw [nowH_eq, setVX_eq, nowN_eq, enterK_eq args]; rfl

def resK (P : Program) (t : Slots) (m : DH) (rs : List ResultVar) : (List DV → Out) → Out :=
  List.rec (motive := fun _ => (List DV → Out) → Out) (fun k => k []) (fun r _ ih k => ih fun vs => match r with
    | .tmp i => nowH (evF (.tmp i) t) fun v => k (v :: vs)
    | .cell a T => loadK .no P T (evF (.tmp a) t) m fun v => k (v :: vs)) rs
theorem resK_eq (P : Program) (t : Slots) (m : DH) : ∀ (rs : List ResultVar) (k : List DV → Out), resK P t m rs k = elimO .no (resD P t m rs) k
  | [], _ => rfl
  | r :: rs, k => by
    show resK P t m rs _ = _
    rw [resK_eq P t m rs]
    cases r with
    | tmp i =>
      simp only [resD, nowH_eq, evF_eq]
      cases resD P t m rs <;> rfl
    | cell a T =>
      simp only [resD, loadK_eq, evF_eq]
      show _ = elimO .no (match loadD P T (ev t (.tmp a)) m, resD P t m rs with | some v, some vs => some (v :: vs) | _, _ => none) k
      cases resD P t m rs <;> cases loadD P T (ev t (.tmp a)) m <;> rfl

def resultsK (P : Program) (fn : Func) (t : Slots) (m : DH) : Out :=
  resK P t m fn.results.toList fun vs => match vs with
    | [v] => .val v m
    | vs => .val (.tup vs) m
theorem resultsK_eq (P : Program) (fn : Func) (t : Slots) (m : DH) : resultsK P fn t m = Out.ofOR (resultsD P fn t m) := by
  unfold resultsK resultsD
  rw [resK_eq]
  cases resD P t m fn.results.toList with
  | none => rfl
  | some vs => rcases vs with _ | ⟨v, _ | ⟨w, vs⟩⟩ <;> rfl

def leaveK (P : Program) (fn : Func) (o : Out) : Out :=
  Out.rec (motive := fun _ => Out) (fun _ _ => .no) (fun x t m => DX.rec (motive := fun _ => Out) (resultsK P fn t m) (fun _ => .no) (resultsK P fn t m) x) .no o
theorem leaveK_eq (P : Program) (fn : Func) (o : Out) : leaveK P fn o = leaveB P fn o := by
  cases o with
  | st x t m => cases x with
    | exit i => rfl
    | _ => exact resultsK_eq _ _ _ _
  | _ => rfl

def callF (E : Env) (ih : Task → Out) (f : FuncId) (args : List DV) (m : DH) : Out :=
  Option.rec (motive := fun _ => Out) .no (fun fn => Option.rec (motive := fun _ => Out) .no (fun c => Option.rec (motive := fun _ => Out)
    (iteB (Nat.ble (lenF args) fn.ntmps) (enterK args Nat.zero .lf fun t => leaveK E.P fn (ih (.code f c t m))) .no)
    (fun r => nowV r.1 fun v => .val v r.2) (E.ext f args m)) fn.body) (E.P.funcs[f]?)
theorem callF_eq (E : Env) (ih : Task → Out) (f : FuncId) (args : List DV) (m : DH) : callF E ih f args m = callB E ih f args m := by
  unfold callF callB
  cases E.P.funcs[f]? with
  | none => rfl
  | some fn =>
    simp only
    cases fn.body with
    | none => rfl
    | some c =>
      simp only
      cases E.ext f args m with
      | some r => simp only [nowV_eq]
      | none =>
        simp only [iteB_eq, lenF_eq, enterK_eq, leaveK_eq]
        cases Nat.ble args.length fn.ntmps <;> rfl

/-! ### Regions that draw -/
def checkPairsF (tr : List Kd) (k : Kd) (j : Nat) (l : List (Nat × Nat)) : Bool :=
  List.rec (motive := fun _ => Bool) true (fun p _ ih => iteB (Nat.beq p.2 j) (iteB (compat (getKd tr (j - 1 - p.1)) k) ih false) ih) l
theorem checkPairsF_eq (tr : List Kd) (k : Kd) (j : Nat) : ∀ l : List (Nat × Nat), checkPairsF tr k j l = checkPairs tr k j l
  | [] => rfl
  | p :: ps => by
    show iteB (Nat.beq p.2 j) (iteB (compat (getKd tr (j - 1 - p.1)) k) (checkPairsF tr k j ps) false) (checkPairsF tr k j ps) = _
    rw [checkPairsF_eq tr k j ps, iteB_eq, iteB_eq, checkPairs]
    cases Nat.beq p.2 j <;> cases compat (getKd tr (j - 1 - p.1)) k <;> rfl

def ropsNextK (ih : Task → Out) (f : FuncId) (all : Array Oper) (l : List (Nat × Nat)) (j : Nat) (rest : List Oper) (t : Slots) (d : Option Nat) (b : Nat) (tr : List Kd) (k : Kd) (v : DV) (m : DH) : Out :=
  iteB (checkPairsF tr k j l) (putK t d v fun t => nowN (Nat.succ j) fun j => nowN b fun b => ih (.rops f all l j rest t m b (k :: tr))) .no
theorem ropsNextK_eq (ih : Task → Out) (f : FuncId) (all : Array Oper) (l : List (Nat × Nat)) (j : Nat) (rest : List Oper) (t : Slots) (d : Option Nat) (b : Nat) (tr : List Kd) (k : Kd) (v : DV) (m : DH) :
    ropsNextK ih f all l j rest t d b tr k v m = ropsNext ih f all l j rest t d b tr k v m := by
  unfold ropsNextK ropsNext
  simp only [iteB_eq, checkPairsF_eq, putK_eq, nowN_eq]
  cases checkPairs tr k j l <;> rfl

def ropsF (E : Env) (ih : Task → Out) (f : FuncId) (all : Array Oper) (l : List (Nat × Nat)) (j : Nat) (rest : List Oper) (t : Slots) (m : DH) (b : Nat) (tr : List Kd) : Out :=
  List.rec (motive := fun _ => Out) (.st .normal t m) (fun o rest _ => wantK (gdOf all o) t
    (Cls.rec (motive := fun _ => Out)
      (opK E.P o.op t m fun v _ => ropsNextK ih f all l j rest t o.dst b tr .idle v m)
      (DH.rec (motive := fun _ => Out) (fun h n low => opK E.P o.op t ⟨h, b, low⟩ fun v m' => DH.rec (motive := fun _ => Out) (fun h' _ _ => ropsNextK ih f all l j rest t o.dst (Nat.succ b) tr (.new b) v ⟨h', n, low⟩) m') m)
      (opK E.P o.op t m fun v _ => ropsNextK ih f all l j rest t o.dst b tr (.read (rdD o.op t m)) v m)
      (OneX.rec (motive := fun _ => Out)
        (fun c => targK c t fun g args => DH.rec (motive := fun _ => Out) (fun h n low => outV (ih (.call g args ⟨h, n, n⟩)) fun v m' =>
          DH.rec (motive := fun _ => Out) (fun h' n' low' => iteB (Nat.ble n low')
            (ropsNextK ih f all l j rest t o.dst b tr (.chain [] n) v ⟨h', n', low⟩)
            (List.rec (motive := fun _ => Out) (nowN (minF low low') fun low => ropsNextK ih f all [] j rest t o.dst b tr (.chain [] n) v ⟨h', n', low⟩) (fun _ _ _ => .no) l)) m') m)
        (fun g => g t m fun v m' => ropsNextK ih f all l j rest t o.dst b tr (.chain (wrD o.op t) m.n) v m')
        (oneX E.P o.op))
      (clsOf o.op))
    (ropsNextK ih f all l j rest t o.dst (match isNew (clsOf o.op) with | true => Nat.succ b | false => b) tr .idle undefD m)) rest

theorem ropsF_eq (E : Env) (ih : Task → Out) (f : FuncId) (all : Array Oper) (l : List (Nat × Nat)) (j : Nat) (rest : List Oper) (t : Slots) (m : DH) (b : Nat) (tr : List Kd) :
    ropsF E ih f all l j rest t m b tr = ropsB E ih f all l j rest t m b tr := by
  cases rest with
  | nil => rfl
  | cons o rest =>
    show wantK (gdOf all o) t _ _ = _
    rw [wantK_eq, ropsB]
    cases wantedD all o t with
    | none => rfl
    | some w =>
      cases w with
      | false => exact ropsNextK_eq _ _ _ _ _ _ _ _ _ _ _ _ _
      | true =>
        simp only [opK_eq, ropsNextK_eq]
        cases clsOf o.op with
        | idle => cases opD E.P o.op t m <;> rfl
        | new =>
          cases m with
          | mk h n low =>
            simp only
            cases opD E.P o.op t ⟨h, b, low⟩ with
            | none => rfl
            | some p => obtain ⟨v, m'⟩ := p; cases m'; rfl
        | read => cases opD E.P o.op t m <;> rfl
        | chain =>
          simp only [oneX]
          cases hu : userCall o.op with
          | some c =>
            simp only [targK_eq]
            cases targetD c t with
            | none => rfl
            | some p =>
              obtain ⟨g, args⟩ := p
              cases m with
              | mk h n low =>
                simp only
                cases ih (.call g args ⟨h, n, n⟩) with
                | val v m' =>
                  cases m' with
                  | mk h' n' low' =>
                    simp only [outV, iteB_eq, nowN_eq, minF_eq]
                    cases Nat.ble n low' with
                    | true => rfl
                    | false => cases l <;> rfl
                | _ => rfl
          | none =>
            simp only
            have h := opK_eq E.P o.op t m fun v m' => ropsNext ih f all l j rest t o.dst b tr (.chain (wrD o.op t) m.n) v m'
            unfold opK at h
            cases hx : opX E.P o.op with
            | mk g =>
              rw [hx] at h
              refine Eq.trans h ?_
              cases opD E.P o.op t m <;> rfl

def codeF (E : Env) (ih : Task → Out) (f : FuncId) (c : Code) (t : Slots) (m : DH) : Out :=
  match c with
  | .skip => .st .normal t m
  | .region id ops draw => iteB draw
      (Option.rec (motive := fun _ => Out) .no (fun l => DH.rec (motive := fun _ => Out) (fun h n low => nowN (Nat.add n (countNew ops.toList)) fun n' => ih (.rops f ops l Nat.zero ops.toList t ⟨h, n', low⟩ n [])) m) (E.pairs f id))
      (ih (.ops f ops ops.toList t m))
  | .seq a b => seqF ih f b (ih (.code f a t m))
  | .cond c a b => condF ih f a b t m (evF c t)
  | .block id c => blockF id (ih (.code f c t m))
  | .loop c => seqF ih f (.loop c) (ih (.code f c t m))
  | .exit id => .st (.exit id) t m
  | .ret => .st .ret t m
  | _ => .no
theorem codeF_eq (E : Env) (ih : Task → Out) (f : FuncId) (c : Code) (t : Slots) (m : DH) : codeF E ih f c t m = codeB E ih f c t m := by
  cases c with
  | region id ops draw =>
    simp only [codeF, codeB, iteB_eq, nowN_eq]
    cases draw with
    | false => rfl
    | true =>
      simp only [if_true]
      cases E.pairs f id with
      | none => rfl
      | some l => cases m; rfl
  | seq a b => exact seqF_eq _ _ _ _
  | cond c a b => simp only [codeF, codeB, condF_eq, evF_eq]
  | block id c => exact blockF_eq _ _
  | loop c => exact seqF_eq _ _ _ _
  | _ => rfl

def bodyF (E : Env) (ih : Task → Out) (t : Task) : Out :=
  Task.rec (motive := fun _ => Out) (fun f args m => callF E ih f args m) (fun f all rest t m => opsF E ih f all rest t m) (fun f all l j rest t m b tr => ropsF E ih f all l j rest t m b tr) (fun f c t m => codeF E ih f c t m) t
theorem bodyF_eq (E : Env) (ih : Task → Out) (t : Task) : bodyF E ih t = bodyB E ih t := by
  cases t with
  | call => exact callF_eq _ _ _ _ _
  | ops => exact opsF_eq _ _ _ _ _ _ _
  | rops => exact ropsF_eq _ _ _ _ _ _ _ _ _ _ _
  | code => exact codeF_eq _ _ _ _ _ _

def fast (E : Env) (k : Nat) : Task → Out :=
  Nat.rec (motive := fun _ => Task → Out) (fun _ => .no) (fun _ ih t => bodyF E (onward ih) t) k

theorem run_fast (E : Env) : ∀ k, run E k = fast E k
  | 0 => rfl
  | k + 1 => by
    funext t
    show bodyB E (run E k) t = bodyF E (onward (fast E k)) t
    rw [bodyF_eq, run_fast E k]; rfl

end
end Go.Det
