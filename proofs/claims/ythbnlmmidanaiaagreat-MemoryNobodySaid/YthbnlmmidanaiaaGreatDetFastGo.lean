/-
  The quick machine's run, and that it does what the machine does (run_fast).
-/
import Derived.Test.YthbnlmmidanaiaaGreatDetFastRun
set_option linter.unusedVariables false
set_option linter.unusedSimpArgs false
set_option linter.unusedSectionVars false
namespace Go.Det
noncomputable section

/-- A word of its own, so that the kernel's own stack is left between two steps. -/
def onward (ih : Task → Out) (t : Task) : Out := ih t

def outV (o : Out) (k : DV → DH → Out) : Out := Out.rec (motive := fun _ => (DV → DH → Out) → Out) (fun v m k => k v m) (fun _ _ _ _ => .no) (fun _ => .no) o k

def seqX (x : DX) : (Task → Out) → FuncId → Code → Slots → DH → Out :=
  DX.rec (motive := fun _ => (Task → Out) → FuncId → Code → Slots → DH → Out) (fun ih f b t m => ih (.code f b t m)) (fun id _ _ _ t m => .st (.exit id) t m) (fun _ _ _ t m => .st .ret t m) x
def seqF (o : Out) : (Task → Out) → FuncId → Code → Out :=
  Out.rec (motive := fun _ => (Task → Out) → FuncId → Code → Out) (fun v m _ _ _ => .val v m) (fun x t m ih f b => seqX x ih f b t m) (fun _ _ _ => .no) o
theorem seqF_eq (ih : Task → Out) (f : FuncId) (b : Code) (o : Out) : seqF o ih f b = seqGo ih f b o := by
  cases o with
  | st x t m => cases x <;> rfl
  | _ => rfl

def blockX (x : DX) : Nat → Slots → DH → Out :=
  DX.rec (motive := fun _ => Nat → Slots → DH → Out) (fun _ t m => .st .normal t m) (fun i id t m => iteO (Nat.beq i id) (.st .normal t m) (.st (.exit i) t m)) (fun _ t m => .st .ret t m) x
def blockF (o : Out) : Nat → Out :=
  Out.rec (motive := fun _ => Nat → Out) (fun v m _ => .val v m) (fun x t m id => blockX x id t m) (fun _ => .no) o
theorem blockF_eq (id : Nat) (o : Out) : blockF o id = blockGo id o := by
  cases o with
  | st x t m => cases x with
    | exit i =>
      show iteO (Nat.beq i id) (Out.st .normal t m) (Out.st (.exit i) t m) = _
      rw [iteO_eq, blockGo]
      cases Nat.beq i id <;> rfl
    | _ => rfl
  | _ => rfl

def condF : DV → (Task → Out) → FuncId → Code → Code → Slots → DH → Out :=
  @DV.rec (fun _ => (Task → Out) → FuncId → Code → Code → Slots → DH → Out) (fun _ => Unit)
    (fun _ _ _ _ _ _ _ _ => .no)
    (fun b ih f x y t m => Bool.rec (motive := fun _ => (Task → Out) → FuncId → Code → Code → Slots → DH → Out) (fun ih f _ y t m => ih (.code f y t m)) (fun ih f x _ t m => ih (.code f x t m)) b ih f x y t m)
    (fun _ _ _ _ _ _ _ => .no)
    (fun _ _ _ _ _ _ _ _ _ _ _ _ => .no)
    (fun _ _ _ _ _ _ _ _ _ _ _ => .no)
    (fun _ _ _ _ _ _ _ _ => .no)
    (fun _ _ _ _ _ _ => .no)
    (fun _ _ _ _ _ _ _ _ => .no)
    (fun _ _ _ _ _ _ _ _ _ _ _ => .no)
    (fun _ _ _ _ _ _ => .no)
    (fun _ _ _ _ _ _ _ => .no)
    (fun _ _ _ _ _ _ => .no)
    (fun _ _ _ _ _ _ _ _ => .no)
    (fun _ _ _ _ _ _ _ _ => .no)
    (fun _ _ _ _ _ _ => .no)
    () (fun _ _ _ _ => ())
theorem condF_eq (ih : Task → Out) (f : FuncId) (a b : Code) (t : Slots) (m : DH) (v : DV) : condF v ih f a b t m = condGo ih f a b t m v := by
  cases v with
  | bool c => cases c <;> rfl
  | _ => rfl

inductive Gd where
  | all
  | never
  | at (d : Nat) (b : Bool)

def gdOf (all : Array Oper) (o : Oper) : Gd :=
  match o.guard with
  | none => .all
  | some g => match (all[g.1]?).bind (·.dst) with
    | none => .never
    | some d => .at d g.2

def eqBool (c b : Bool) : Bool := Bool.rec (motive := fun _ => Bool) (notB b) b c

def wantV : DV → Bool → Out → Out → Out :=
  @DV.rec (fun _ => Bool → Out → Out → Out) (fun _ => Unit)
    (fun _ _ _ _ x => x)
    (fun b b0 y x => iteO (eqBool b b0) y x)
    (fun _ _ _ x => x)
    (fun _ _ _ _ _ _ _ _ x => x)
    (fun _ _ _ _ _ _ _ x => x)
    (fun _ _ _ _ x => x)
    (fun _ _ x => x)
    (fun _ _ _ _ x => x)
    (fun _ _ _ _ _ _ _ x => x)
    (fun _ _ x => x)
    (fun _ _ _ x => x)
    (fun _ _ x => x)
    (fun _ _ _ _ x => x)
    (fun _ _ _ _ x => x)
    (fun _ _ _ => .no)
    () (fun _ _ _ _ => ())
def wantK (g : Gd) : Slots → Out → Out → Out :=
  Gd.rec (motive := fun _ => Slots → Out → Out → Out) (fun _ y _ => y) (fun _ _ x => x) (fun d b t y x => Option.rec (motive := fun _ => Bool → Out → Out → Out) (fun _ _ x => x) wantV (getV (wayX d) t) b y x) g
theorem wantK_eq (all : Array Oper) (o : Oper) (t : Slots) (y x : Out) : wantK (gdOf all o) t y x = match wantedD all o t with | none => .no | some false => x | some true => y := by
  unfold wantK gdOf wantedD
  cases o.guard with
  | none => rfl
  | some g =>
    simp only [guardD]
    cases (all[g.1]?).bind (·.dst) with
    | none => rfl
    | some d =>
      simp only [getVX_eq]
      cases t.get d with
      | none => rfl
      | some v =>
        cases v with
        | bool c => cases c <;> cases g.2 <;> rfl
        | _ => rfl

inductive OneX where
  | call (c : Call)
  | op (f : Slots → DH → (DV → DH → Out) → Out)

def oneX (P : Program) (op : Op) : OneX :=
  match userCall op with
  | some c => .call c
  | none => match opX P op with
    | ⟨f⟩ => .op f

def argsC (xs : List Operand) (t : Slots) (caps : List DV) : List DV := List.rec (motive := fun _ => List Operand → Slots → List DV) (fun xs t => evsF xs t) (fun c cs _ xs t => evsF xs t ++ c :: cs) caps xs t
def argsF (xs : List Operand) (t : Slots) (caps fst : List DV) : List DV := List.rec (motive := fun _ => List Operand → Slots → List DV → List DV) (fun xs t caps => argsC xs t caps) (fun c _ ih xs t caps => c :: ih xs t caps) fst xs t caps
theorem argsC_eq (xs : List Operand) (t : Slots) (caps : List DV) : argsC xs t caps = evs t xs ++ caps := by
  cases caps with
  | nil => show evsF xs t = _; rw [evsF_eq, List.append_nil]
  | cons c cs => show evsF xs t ++ c :: cs = _; rw [evsF_eq]
theorem argsF_eq (xs : List Operand) (t : Slots) (caps : List DV) : ∀ fst : List DV, argsF xs t caps fst = fst ++ (evs t xs ++ caps)
  | [] => by
    show argsC xs t caps = _
    rw [argsC_eq]; rfl
  | c :: fst => congrArg (c :: ·) (argsF_eq xs t caps fst)

def targV : DV → List Operand → Slots → (FuncId → List DV → Out) → Out :=
  @DV.rec (fun _ => List Operand → Slots → (FuncId → List DV → Out) → Out) (fun _ => Unit)
    (fun _ _ _ _ _ => .no)
    (fun _ _ _ _ => .no)
    (fun _ _ _ _ => .no)
    (fun _ _ _ _ _ _ _ _ _ => .no)
    (fun _ _ _ _ _ _ _ _ => .no)
    (fun _ _ _ _ _ => .no)
    (fun _ _ _ => .no)
    (fun _ _ _ _ _ => .no)
    (fun fid fst caps _ _ xs t k => k fid (argsF xs t caps fst))
    (fun _ _ _ => .no)
    (fun _ _ _ _ => .no)
    (fun _ _ _ => .no)
    (fun _ _ _ _ _ => .no)
    (fun _ _ _ _ _ => .no)
    (fun _ _ _ => .no)
    () (fun _ _ _ _ => ())
/-- A call: the function and its arguments, or not. -/
def targK (c : Call) (t : Slots) (k : FuncId → List DV → Out) : Out :=
  Callee.rec (motive := fun _ => List Operand → Slots → (FuncId → List DV → Out) → Out) (fun f xs t k => targV (evF f t) xs t k) (fun _ _ _ _ _ => .no) (fun _ _ _ _ => .no) c.callee c.args.toList t k
theorem targK_eq (c : Call) (t : Slots) (k : FuncId → List DV → Out) : targK c t k = match targetD c t with | some (g, args) => k g args | none => .no := by
  unfold targK targetD
  cases c.callee with
  | value f =>
    simp only [evF_eq]
    cases ev t f <;> simp only [targV, argsF_eq]
  | _ => rfl

def oneCall (c : Call) (ih : Task → Out) (t : Slots) (m : DH) (k : DV → DH → Out) : Out := targK c t fun g args => outV (ih (.call g args m)) k
def oneR (o : OneX) : (Task → Out) → Slots → DH → (DV → DH → Out) → Out :=
  OneX.rec (motive := fun _ => (Task → Out) → Slots → DH → (DV → DH → Out) → Out) oneCall (fun f _ t m k => f t m k) o
theorem oneR_eq (E : Env) (ih : Task → Out) (o : Op) (t : Slots) (m : DH) (k : DV → DH → Out) : oneR (oneX E.P o) ih t m k = outV (oneB E ih o t m) k := by
  unfold oneX oneB
  cases hu : userCall o with
  | some c =>
    show oneCall c ih t m k = _
    simp only [oneCall, targK_eq]
    cases targetD c t with
    | none => rfl
    | some p => rfl
  | none =>
    simp only [opX_eq]
    show outE (opD E.P o t m) k = _
    cases opD E.P o t m <;> rfl

def opsCons (o : Oper) (rest : List Oper) (_ : Env → (Task → Out) → FuncId → Array Oper → Slots → DH → Out) (E : Env) (ih : Task → Out) (f : FuncId) (all : Array Oper) (t : Slots) (m : DH) : Out :=
  wantK (gdOf all o) t
    (oneR (oneX E.P o.op) ih t m fun v m => putK t o.dst v fun t => ih (.ops f all rest t m))
    (putK t o.dst undefD fun t => ih (.ops f all rest t m))
def opsF (rest : List Oper) : Env → (Task → Out) → FuncId → Array Oper → Slots → DH → Out :=
  List.rec (motive := fun _ => Env → (Task → Out) → FuncId → Array Oper → Slots → DH → Out) (fun _ _ _ _ t m => .st .normal t m) opsCons rest
theorem opsF_eq (E : Env) (ih : Task → Out) (f : FuncId) (all : Array Oper) (rest : List Oper) (t : Slots) (m : DH) : opsF rest E ih f all t m = opsB E ih f all rest t m := by
  cases rest with
  | nil => rfl
  | cons o rest =>
    show wantK (gdOf all o) t _ _ = _
    rw [wantK_eq, opsB]
    cases wantedD all o t with
    | none => rfl
    | some b =>
      cases b with
      | false => exact putK_eq _ _ _ _
      | true =>
        simp only [oneR_eq, putK_eq]
        cases oneB E ih o.op t m <;> rfl

/-! ### Results -/
def enterK (args : List DV) : Nat → Slots → (Slots → Out) → Out :=
  List.rec (motive := fun _ => Nat → Slots → (Slots → Out) → Out) (fun _ t k => k t) (fun v _ ih i t k => nowH v fun v => setV (wayX i) v t fun t => nowN (Nat.succ i) fun i => ih i t k) args
theorem enterK_eq : ∀ (args : List DV) (i : Nat) (t : Slots) (k : Slots → Out), enterK args i t k = k (enterSlots args i t)
  | [], _, _, _ => rfl
  | v :: args, i, t, k => by
    show (nowH v fun v => setV (wayX i) v t fun t => nowN (Nat.succ i) fun i => enterK args i t k) = _
    rw [nowH_eq, setVX_eq, nowN_eq, enterK_eq args]; rfl

def resK (P : Program) (t : Slots) (m : DH) (rs : List ResultVar) : (List DV → Out) → Out :=
  List.rec (motive := fun _ => (List DV → Out) → Out) (fun k => k []) (fun r _ ih k => ih fun vs => match r with
    | .tmp i => nowH (evF (.tmp i) t) fun v => k (v :: vs)
    | .cell a T => ldK (evF (.tmp a) t) m (szOf P T) fun v => k (v :: vs)) rs
theorem resK_eq (P : Program) (t : Slots) (m : DH) : ∀ (rs : List ResultVar) (k : List DV → Out), resK P t m rs k = elimO (resD P t m rs) k
  | [], _ => rfl
  | r :: rs, k => by
    show resK P t m rs _ = _
    rw [resK_eq P t m rs]
    cases r with
    | tmp i =>
      simp only [resD, nowH_eq, evF_eq]
      cases resD P t m rs <;> rfl
    | cell a T =>
      simp only [resD, ldK_eq, evF_eq]
      show _ = elimO (match loadD P T (ev t (.tmp a)) m, resD P t m rs with | some v, some vs => some (v :: vs) | _, _ => none) k
      cases resD P t m rs <;> cases loadD P T (ev t (.tmp a)) m <;> rfl

def resultsK (P : Program) (fn : Func) (t : Slots) (m : DH) : Out :=
  resK P t m fn.results.toList fun vs => match vs with
    | [v] => .val v m
    | vs => .val (.tup vs) m
theorem resultsK_eq (P : Program) (fn : Func) (t : Slots) (m : DH) : resultsK P fn t m = Out.ofOR (resultsD P fn t m) := by
  unfold resultsK resultsD
  rw [resK_eq]
  cases resD P t m fn.results.toList with
  | none => rfl
  | some vs => rcases vs with _ | ⟨v, _ | ⟨w, vs⟩⟩ <;> rfl

def leaveX (x : DX) : Program → Func → Slots → DH → Out :=
  DX.rec (motive := fun _ => Program → Func → Slots → DH → Out) resultsK (fun _ _ _ _ _ => .no) resultsK x
def leaveK (o : Out) : Program → Func → Out :=
  Out.rec (motive := fun _ => Program → Func → Out) (fun _ _ _ _ => .no) (fun x t m P fn => leaveX x P fn t m) (fun _ _ => .no) o
theorem leaveK_eq (P : Program) (fn : Func) (o : Out) : leaveK o P fn = leaveB P fn o := by
  cases o with
  | st x t m => cases x with
    | exit i => rfl
    | _ => exact resultsK_eq _ _ _ _
  | _ => rfl

def callGo (E : Env) (ih : Task → Out) (f : FuncId) (args : List DV) (m : DH) (fn : Func) (c : Code) : Out :=
  iteO (Nat.ble (lenF args) fn.ntmps) (enterK args Nat.zero .lf fun t => leaveK (ih (.code f c t m)) E.P fn) .no
def callF (f : FuncId) (args : List DV) (m : DH) (E : Env) (ih : Task → Out) : Out :=
  Option.rec (motive := fun _ => Out) .no (fun fn => Option.rec (motive := fun _ => Out) .no (fun c => Option.rec (motive := fun _ => Out) (callGo E ih f args m fn c)
    (fun r => nowV r.1 fun v => .val v r.2) (E.ext f args m)) fn.body) (E.P.funcs[f]?)
theorem callF_eq (E : Env) (ih : Task → Out) (f : FuncId) (args : List DV) (m : DH) : callF f args m E ih = callB E ih f args m := by
  unfold callF callB
  cases E.P.funcs[f]? with
  | none => rfl
  | some fn =>
    simp only
    cases fn.body with
    | none => rfl
    | some c =>
      simp only
      cases E.ext f args m with
      | some r => simp only [nowV_eq]
      | none =>
        simp only [callGo, iteO_eq, lenF_eq, enterK_eq, leaveK_eq]
        cases Nat.ble args.length fn.ntmps <;> rfl

/-! ### Regions that draw -/
def checkPairsF (tr : List Kd) (k : Kd) (j : Nat) (l : List (Nat × Nat)) : Bool :=
  List.rec (motive := fun _ => List Kd → Kd → Nat → Bool) (fun _ _ _ => true) (fun p _ ih tr k j => iteB (Nat.beq p.2 j) (iteB (compat (getKd tr (j - 1 - p.1)) k) (ih tr k j) false) (ih tr k j)) l tr k j
theorem checkPairsF_eq (tr : List Kd) (k : Kd) (j : Nat) : ∀ l : List (Nat × Nat), checkPairsF tr k j l = checkPairs tr k j l
  | [] => rfl
  | p :: ps => by
    show iteB (Nat.beq p.2 j) (iteB (compat (getKd tr (j - 1 - p.1)) k) (checkPairsF tr k j ps) false) (checkPairsF tr k j ps) = _
    rw [checkPairsF_eq tr k j ps, iteB_eq, iteB_eq, checkPairs]
    cases Nat.beq p.2 j <;> cases compat (getKd tr (j - 1 - p.1)) k <;> rfl

/-- What stays from operation to operation. -/
structure Rg where
  ih : Task → Out
  f : FuncId
  all : Array Oper
  l : List (Nat × Nat)
  rest : List Oper
  d : Option Nat

def ropsNextK (g : Rg) (j : Nat) (t : Slots) (b : Nat) (tr : List Kd) (k : Kd) (v : DV) (m : DH) : Out :=
  iteO (checkPairsF tr k j g.l) (putK t g.d v fun t => nowN (Nat.succ j) fun j => nowN b fun b => g.ih (.rops g.f g.all g.l j g.rest t m b (k :: tr))) .no
theorem ropsNextK_eq (ih : Task → Out) (f : FuncId) (all : Array Oper) (l : List (Nat × Nat)) (j : Nat) (rest : List Oper) (t : Slots) (d : Option Nat) (b : Nat) (tr : List Kd) (k : Kd) (v : DV) (m : DH) :
    ropsNextK ⟨ih, f, all, l, rest, d⟩ j t b tr k v m = ropsNext ih f all l j rest t d b tr k v m := by
  unfold ropsNextK ropsNext
  simp only [iteO_eq, checkPairsF_eq, putK_eq, nowN_eq]
  cases checkPairs tr k j l <;> rfl

def opR (b : Box (Slots → DH → (DV → DH → Out) → Out)) : Slots → DH → (DV → DH → Out) → Out := Box.rec (motive := fun _ => Slots → DH → (DV → DH → Out) → Out) (fun f => f) b

def oldK (n : Nat) (l : List Nat) (k : List Nat → Out) : Out :=
  List.rec (motive := fun _ => Nat → (List Nat → Out) → Out) (fun _ k => k []) (fun b _ ih n k => iteO (Nat.ble (Nat.succ b) n) (ih n fun r => k (b :: r)) (ih n k)) l n k
theorem oldK_eq (n : Nat) : ∀ (l : List Nat) (k : List Nat → Out), oldK n l k = k (oldOf n l)
  | [], _ => rfl
  | b :: l, k => by
    show iteO (Nat.ble (Nat.succ b) n) (oldK n l fun r => k (b :: r)) (oldK n l k) = _
    rw [iteO_eq, oldK_eq n l, oldK_eq n l, oldOf]
    show (if Nat.blt b n = true then _ else _) = _
    cases Nat.blt b n <;> rfl
def catW (xs ys : List Nat) (k : List Nat → Out) : Out :=
  List.rec (motive := fun _ => List Nat → (List Nat → Out) → Out) (fun ys k => k ys) (fun b _ ih ys k => ih ys fun r => k (b :: r)) xs ys k
theorem catW_eq (ys : List Nat) : ∀ (xs : List Nat) (k : List Nat → Out), catW xs ys k = k (xs ++ ys)
  | [], _ => rfl
  | b :: xs, k => catW_eq ys xs fun r => k (b :: r)

def rIdle (E : Env) (o : Op) (g : Rg) (j : Nat) (t : Slots) (m : DH) (b : Nat) (tr : List Kd) : Out :=
  opR (opX E.P o) t m fun v _ => ropsNextK g j t b tr .idle v m
def rNew (E : Env) (o : Op) (g : Rg) (j : Nat) (t : Slots) (m : DH) (b : Nat) (tr : List Kd) : Out :=
  DH.rec (motive := fun _ => Out) (fun h n low => opR (opX E.P o) t ⟨h, b, low⟩ fun v m' => DH.rec (motive := fun _ => Out) (fun h' _ _ => ropsNextK g j t (Nat.succ b) tr (.new b) v ⟨h', n, low⟩) m') m
def rRead (E : Env) (o : Op) (g : Rg) (j : Nat) (t : Slots) (m : DH) (b : Nat) (tr : List Kd) : Out :=
  opR (opX E.P o) t m fun v _ => ropsNextK g j t b tr (.read (rdD o t m)) v m
def rCall (c : Call) (_ : Op) (g : Rg) (j : Nat) (t : Slots) (m : DH) (b : Nat) (tr : List Kd) : Out :=
  targK c t fun q args => DH.rec (motive := fun _ => Out) (fun h n low => outV (g.ih (.call q args ⟨h, n, []⟩)) fun v m' =>
    DH.rec (motive := fun _ => Out) (fun h' n' low' => oldK n low' fun wr => catW wr low fun low => ropsNextK g j t b tr (.chain wr n) v ⟨h', n', low⟩) m') m
def rOp (f : Slots → DH → (DV → DH → Out) → Out) (o : Op) (g : Rg) (j : Nat) (t : Slots) (m : DH) (b : Nat) (tr : List Kd) : Out :=
  f t m fun v m' => ropsNextK g j t b tr (.chain (wrD o t) m.n) v m'
def rChain (E : Env) (o : Op) (g : Rg) (j : Nat) (t : Slots) (m : DH) (b : Nat) (tr : List Kd) : Out :=
  OneX.rec (motive := fun _ => Op → Rg → Nat → Slots → DH → Nat → List Kd → Out) rCall rOp (oneX E.P o) o g j t m b tr

def clsR (c : Cls) : Env → Op → Rg → Nat → Slots → DH → Nat → List Kd → Out :=
  Cls.rec (motive := fun _ => Env → Op → Rg → Nat → Slots → DH → Nat → List Kd → Out) rIdle rNew rRead rChain c

def ropsCons (o : Oper) (rest : List Oper) (_ : Env → (Task → Out) → FuncId → Array Oper → List (Nat × Nat) → Nat → Slots → DH → Nat → List Kd → Out)
    (E : Env) (ih : Task → Out) (f : FuncId) (all : Array Oper) (l : List (Nat × Nat)) (j : Nat) (t : Slots) (m : DH) (b : Nat) (tr : List Kd) : Out :=
  wantK (gdOf all o) t (clsR (clsOf o.op) E o.op ⟨ih, f, all, l, rest, o.dst⟩ j t m b tr)
    (ropsNextK ⟨ih, f, all, l, rest, o.dst⟩ j t (match isNew (clsOf o.op) with | true => Nat.succ b | false => b) tr .idle undefD m)
def ropsF (rest : List Oper) : Env → (Task → Out) → FuncId → Array Oper → List (Nat × Nat) → Nat → Slots → DH → Nat → List Kd → Out :=
  List.rec (motive := fun _ => Env → (Task → Out) → FuncId → Array Oper → List (Nat × Nat) → Nat → Slots → DH → Nat → List Kd → Out) (fun _ _ _ _ _ _ t m _ _ => .st .normal t m) ropsCons rest

theorem ropsF_eq (E : Env) (ih : Task → Out) (f : FuncId) (all : Array Oper) (l : List (Nat × Nat)) (j : Nat) (rest : List Oper) (t : Slots) (m : DH) (b : Nat) (tr : List Kd) :
    ropsF rest E ih f all l j t m b tr = ropsB E ih f all l j rest t m b tr := by
  cases rest with
  | nil => rfl
  | cons o rest =>
    show wantK (gdOf all o) t _ _ = _
    rw [wantK_eq, ropsB]
    cases wantedD all o t with
    | none => rfl
    | some w =>
      cases w with
      | false => exact ropsNextK_eq _ _ _ _ _ _ _ _ _ _ _ _ _
      | true =>
        simp only
        cases clsOf o.op with
        | idle =>
          show opR (opX E.P o.op) t m _ = _
          simp only [opX_eq, opR, ropsNextK_eq]
          cases opD E.P o.op t m <;> rfl
        | new =>
          cases m with
          | mk h n low =>
            show opR (opX E.P o.op) t ⟨h, b, low⟩ _ = _
            simp only [opX_eq, opR, ropsNextK_eq]
            cases opD E.P o.op t ⟨h, b, low⟩ with
            | none => rfl
            | some p => obtain ⟨v, m'⟩ := p; cases m'; rfl
        | read =>
          show opR (opX E.P o.op) t m _ = _
          simp only [opX_eq, opR, ropsNextK_eq]
          cases opD E.P o.op t m <;> rfl
        | chain =>
          show OneX.rec (motive := fun _ => Op → Rg → Nat → Slots → DH → Nat → List Kd → Out) rCall rOp (oneX E.P o.op) o.op ⟨ih, f, all, l, rest, o.dst⟩ j t m b tr = _
          cases hu : userCall o.op with
          | some c =>
            have hx : oneX E.P o.op = .call c := by unfold oneX; rw [hu]
            rw [hx]
            show rCall c o.op ⟨ih, f, all, l, rest, o.dst⟩ j t m b tr = _
            simp only [rCall, targK_eq, ropsNextK_eq]
            cases targetD c t with
            | none => rfl
            | some p =>
              obtain ⟨g, args⟩ := p
              cases m with
              | mk h n low =>
                simp only
                cases ih (.call g args ⟨h, n, []⟩) with
                | val v m' =>
                  cases m' with
                  | mk h' n' low' => simp only [outV, oldK_eq, catW_eq]; rfl
                | _ => rfl
          | none =>
            have hx : oneX E.P o.op = .op fun t m k => outE (opD E.P o.op t m) k := by unfold oneX; rw [hu]; simp only [opX_eq]
            rw [hx]
            show outE (opD E.P o.op t m) _ = _
            cases opD E.P o.op t m with
            | none => rfl
            | some p => exact ropsNextK_eq _ _ _ _ _ _ _ _ _ _ _ _ _

/-! ### Code -/
def cRegion (id : Nat) (ops : Array Oper) (draw : Bool) (E : Env) (ih : Task → Out) (f : FuncId) (t : Slots) (m : DH) : Out :=
  Bool.rec (motive := fun _ => Out) (ih (.ops f ops ops.toList t m))
    (Option.rec (motive := fun _ => Out) .no (fun l => DH.rec (motive := fun _ => Out) (fun h n low => nowN (Nat.add n (countNew ops.toList)) fun n' => ih (.rops f ops l Nat.zero ops.toList t ⟨h, n', low⟩ n [])) m) (E.pairs f id)) draw
abbrev CT := Env → (Task → Out) → FuncId → Slots → DH → Out
def codeF (c : Code) : CT :=
  Code.rec (motive := fun _ => CT) (fun _ _ _ t m => .st .normal t m) cRegion (fun a b _ _ _ ih f t m => seqF (ih (.code f a t m)) ih f b) (fun c a b _ _ _ ih f t m => condF (evF c t) ih f a b t m)
    (fun id c _ _ ih f t m => blockF (ih (.code f c t m)) id) (fun c _ _ ih f t m => seqF (ih (.code f c t m)) ih f (.loop c)) (fun _ _ _ _ _ _ _ _ _ _ _ => .no) (fun id _ _ _ t m => .st (.exit id) t m)
    (fun _ _ _ _ _ _ _ => .no) (fun _ _ _ _ _ _ => .no) (fun _ _ _ _ _ _ => .no) (fun _ _ _ t m => .st .ret t m) (fun _ _ _ _ _ _ => .no) c
theorem codeF_eq (E : Env) (ih : Task → Out) (f : FuncId) (c : Code) (t : Slots) (m : DH) : codeF c E ih f t m = codeB E ih f c t m := by
  cases c with
  | region id ops draw =>
    show cRegion id ops draw E ih f t m = _
    simp only [cRegion, codeB, nowN_eq]
    cases draw with
    | false => rfl
    | true =>
      simp only
      cases E.pairs f id with
      | none => rfl
      | some l => cases m; rfl
  | seq a b => exact seqF_eq _ _ _ _
  | cond c a b =>
    show condF (evF c t) ih f a b t m = _
    rw [condF_eq, evF_eq]; rfl
  | block id c => exact blockF_eq _ _
  | loop c => exact seqF_eq _ _ _ _
  | _ => rfl

def bodyF (t : Task) : Env → (Task → Out) → Out :=
  Task.rec (motive := fun _ => Env → (Task → Out) → Out) callF (fun f all rest t m E ih => opsF rest E ih f all t m) (fun f all l j rest t m b tr E ih => ropsF rest E ih f all l j t m b tr) (fun f c t m E ih => codeF c E ih f t m) t
theorem bodyF_eq (E : Env) (ih : Task → Out) (t : Task) : bodyF t E ih = bodyB E ih t := by
  cases t with
  | call => exact callF_eq _ _ _ _ _
  | ops => exact opsF_eq _ _ _ _ _ _ _
  | rops => exact ropsF_eq _ _ _ _ _ _ _ _ _ _ _
  | code => exact codeF_eq _ _ _ _ _ _

def fast (E : Env) (k : Nat) : Task → Out :=
  Nat.rec (motive := fun _ => Task → Out) (fun _ => .no) (fun _ ih t => bodyF t E (onward ih)) k

theorem run_fast (E : Env) : ∀ k, run E k = fast E k
  | 0 => rfl
  | k + 1 => by
    funext t
    show bodyB E (run E k) t = bodyF t E (onward (fast E k))
    rw [bodyF_eq, run_fast E k]; rfl

end
end Go.Det
