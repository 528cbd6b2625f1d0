/-
  The machine once more, in words that the kernel runs quickly: recursors instead of matches, values that are worked out ahead of being kept. It does just what the machine does (run_fast).
-/
import Derived.Test.YtmecnlnjimijnaaGreatDetRel
set_option linter.unusedVariables false
set_option linter.unusedSimpArgs false
set_option linter.unusedSectionVars false
namespace Go.Det

noncomputable section

/-! ### Worked out ahead -/
def nowN {R : Type} (n : Nat) (k : Nat → R) : R := Nat.rec (motive := fun _ => R) (k Nat.zero) (fun p _ => k (Nat.succ p)) n
def nowB {R : Type} (b : Bool) (k : Bool → R) : R := Bool.rec (motive := fun _ => R) (k false) (k true) b
def nowI {R : Type} (n : Int) (k : Int → R) : R := Int.rec (motive := fun _ => R) (fun a => nowN a fun a => k (.ofNat a)) (fun a => nowN a fun a => k (.negSucc a)) n
def iteB {R : Type} (b : Bool) (x y : R) : R := Bool.rec (motive := fun _ => R) y x b

theorem nowN_eq {R : Type} (n : Nat) (k : Nat → R) : nowN n k = k n := by cases n <;> rfl
theorem nowB_eq {R : Type} (n : Bool) (k : Bool → R) : nowB n k = k n := by cases n <;> rfl
theorem nowI_eq {R : Type} (n : Int) (k : Int → R) : nowI n k = k n := by
  cases n with
  | ofNat a => exact nowN_eq a fun a => k (.ofNat a)
  | negSucc a => exact nowN_eq a fun a => k (.negSucc a)
theorem iteB_eq {R : Type} (b : Bool) (x y : R) : iteB b x y = if b = true then x else y := by cases b <;> rfl

/-! ### The store -/
def digQ (p : PW) (n : Nat) : PW :=
  Nat.rec (motive := fun _ => PW) (.a p) (fun n _ => Nat.rec (motive := fun _ => PW) (.b p) (fun n _ => Nat.rec (motive := fun _ => PW) (.c p) (fun _ _ => .d p) n) n) n
def wayQ (f : Nat) : Nat → PW :=
  Nat.rec (motive := fun _ => Nat → PW) (fun _ => .z) (fun _ ih i => Nat.rec (motive := fun _ => PW) .z (fun j _ => digQ (ih (Nat.div j 4)) (Nat.mod j 4)) i) f
def wayX (i : Nat) : PW := wayQ (Nat.succ i) i

theorem digQ_eq (p : PW) (n : Nat) : digQ p n = digD p n := by
  rcases n with _ | _ | _ | n <;> rfl
theorem wayQ_eq : ∀ (f i : Nat), wayQ f i = wayF f i
  | 0, _ => rfl
  | f + 1, 0 => rfl
  | f + 1, j + 1 => by
    show digQ (wayQ f (Nat.div j 4)) (Nat.mod j 4) = digD (wayF f (j / 4)) (j % 4)
    rw [digQ_eq, wayQ_eq f]; rfl
theorem wayX_eq (i : Nat) : wayX i = way i := wayQ_eq _ _

def getVz (t : PM DV) : Option DV := PM.rec (motive := fun _ => Option DV) none (fun v _ _ _ _ _ _ _ _ => v) t
def getVa (_ : PW) (ih : PM DV → Option DV) (t : PM DV) : Option DV := PM.rec (motive := fun _ => Option DV) none (fun _ a _ _ _ _ _ _ _ => ih a) t
def getVb (_ : PW) (ih : PM DV → Option DV) (t : PM DV) : Option DV := PM.rec (motive := fun _ => Option DV) none (fun _ _ b _ _ _ _ _ _ => ih b) t
def getVc (_ : PW) (ih : PM DV → Option DV) (t : PM DV) : Option DV := PM.rec (motive := fun _ => Option DV) none (fun _ _ _ c _ _ _ _ _ => ih c) t
def getVd (_ : PW) (ih : PM DV → Option DV) (t : PM DV) : Option DV := PM.rec (motive := fun _ => Option DV) none (fun _ _ _ _ d _ _ _ _ => ih d) t
def getV (p : PW) : PM DV → Option DV := PW.rec (motive := fun _ => PM DV → Option DV) getVz getVa getVb getVc getVd p
theorem getV_eq (p : PW) : ∀ t : PM DV, getV p t = PM.getP p t := by
  induction p with
  | z => intro t; cases t <;> rfl
  | a p ih | b p ih | c p ih | d p ih => intro t; cases t with
    | lf => rfl
    | nd v a b c d => exact ih _
theorem getVX_eq (i : Nat) (t : PM DV) : getV (wayX i) t = t.get i := by rw [getV_eq, wayX_eq]; rfl

def getOz (t : PM DO) : Option DO := PM.rec (motive := fun _ => Option DO) none (fun v _ _ _ _ _ _ _ _ => v) t
def getOa (_ : PW) (ih : PM DO → Option DO) (t : PM DO) : Option DO := PM.rec (motive := fun _ => Option DO) none (fun _ a _ _ _ _ _ _ _ => ih a) t
def getOb (_ : PW) (ih : PM DO → Option DO) (t : PM DO) : Option DO := PM.rec (motive := fun _ => Option DO) none (fun _ _ b _ _ _ _ _ _ => ih b) t
def getOc (_ : PW) (ih : PM DO → Option DO) (t : PM DO) : Option DO := PM.rec (motive := fun _ => Option DO) none (fun _ _ _ c _ _ _ _ _ => ih c) t
def getOd (_ : PW) (ih : PM DO → Option DO) (t : PM DO) : Option DO := PM.rec (motive := fun _ => Option DO) none (fun _ _ _ _ d _ _ _ _ => ih d) t
def getO (p : PW) : PM DO → Option DO := PW.rec (motive := fun _ => PM DO → Option DO) getOz getOa getOb getOc getOd p
theorem getO_eq (p : PW) : ∀ t : PM DO, getO p t = PM.getP p t := by
  induction p with
  | z => intro t; cases t <;> rfl
  | a p ih | b p ih | c p ih | d p ih => intro t; cases t with
    | lf => rfl
    | nd v a b c d => exact ih _
theorem getOX_eq (i : Nat) (t : PM DO) : getO (wayX i) t = t.get i := by rw [getO_eq, wayX_eq]; rfl

def setVz (x : DV) (t : PM DV) (k : PM DV → Out) : Out := PM.rec (motive := fun _ => Out) (k (.nd (some x) .lf .lf .lf .lf)) (fun _ a b c d _ _ _ _ => k (.nd (some x) a b c d)) t
def setVa (_ : PW) (ih : DV → PM DV → (PM DV → Out) → Out) (x : DV) (t : PM DV) (k : PM DV → Out) : Out := PM.rec (motive := fun _ => Out) (ih x .lf fun r => k (.nd none r .lf .lf .lf)) (fun v a b c d _ _ _ _ => ih x a fun r => k (.nd v r b c d)) t
def setVb (_ : PW) (ih : DV → PM DV → (PM DV → Out) → Out) (x : DV) (t : PM DV) (k : PM DV → Out) : Out := PM.rec (motive := fun _ => Out) (ih x .lf fun r => k (.nd none .lf r .lf .lf)) (fun v a b c d _ _ _ _ => ih x b fun r => k (.nd v a r c d)) t
def setVc (_ : PW) (ih : DV → PM DV → (PM DV → Out) → Out) (x : DV) (t : PM DV) (k : PM DV → Out) : Out := PM.rec (motive := fun _ => Out) (ih x .lf fun r => k (.nd none .lf .lf r .lf)) (fun v a b c d _ _ _ _ => ih x c fun r => k (.nd v a b r d)) t
def setVd (_ : PW) (ih : DV → PM DV → (PM DV → Out) → Out) (x : DV) (t : PM DV) (k : PM DV → Out) : Out := PM.rec (motive := fun _ => Out) (ih x .lf fun r => k (.nd none .lf .lf .lf r)) (fun v a b c d _ _ _ _ => ih x d fun r => k (.nd v a b c r)) t
def setV (p : PW) : DV → PM DV → (PM DV → Out) → Out := PW.rec (motive := fun _ => DV → PM DV → (PM DV → Out) → Out) setVz setVa setVb setVc setVd p
theorem setV_eq (x : DV) (p : PW) : ∀ (t : PM DV) (k : PM DV → Out), setV p x t k = k (PM.setP x p t) := by
  induction p with
  | z => intro t k; cases t <;> rfl
  | a p ih | b p ih | c p ih | d p ih => intro t k; cases t with
    | lf => exact ih _ _
    | nd v a b c d => exact ih _ _
theorem setVX_eq (x : DV) (i : Nat) (t : PM DV) (k : PM DV → Out) : setV (wayX i) x t k = k (t.set i x) := by rw [setV_eq, wayX_eq]; rfl

def setOz (x : DO) (t : PM DO) (k : PM DO → Out) : Out := PM.rec (motive := fun _ => Out) (k (.nd (some x) .lf .lf .lf .lf)) (fun _ a b c d _ _ _ _ => k (.nd (some x) a b c d)) t
def setOa (_ : PW) (ih : DO → PM DO → (PM DO → Out) → Out) (x : DO) (t : PM DO) (k : PM DO → Out) : Out := PM.rec (motive := fun _ => Out) (ih x .lf fun r => k (.nd none r .lf .lf .lf)) (fun v a b c d _ _ _ _ => ih x a fun r => k (.nd v r b c d)) t
def setOb (_ : PW) (ih : DO → PM DO → (PM DO → Out) → Out) (x : DO) (t : PM DO) (k : PM DO → Out) : Out := PM.rec (motive := fun _ => Out) (ih x .lf fun r => k (.nd none .lf r .lf .lf)) (fun v a b c d _ _ _ _ => ih x b fun r => k (.nd v a r c d)) t
def setOc (_ : PW) (ih : DO → PM DO → (PM DO → Out) → Out) (x : DO) (t : PM DO) (k : PM DO → Out) : Out := PM.rec (motive := fun _ => Out) (ih x .lf fun r => k (.nd none .lf .lf r .lf)) (fun v a b c d _ _ _ _ => ih x c fun r => k (.nd v a b r d)) t
def setOd (_ : PW) (ih : DO → PM DO → (PM DO → Out) → Out) (x : DO) (t : PM DO) (k : PM DO → Out) : Out := PM.rec (motive := fun _ => Out) (ih x .lf fun r => k (.nd none .lf .lf .lf r)) (fun v a b c d _ _ _ _ => ih x d fun r => k (.nd v a b c r)) t
def setO (p : PW) : DO → PM DO → (PM DO → Out) → Out := PW.rec (motive := fun _ => DO → PM DO → (PM DO → Out) → Out) setOz setOa setOb setOc setOd p
theorem setO_eq (x : DO) (p : PW) : ∀ (t : PM DO) (k : PM DO → Out), setO p x t k = k (PM.setP x p t) := by
  induction p with
  | z => intro t k; cases t <;> rfl
  | a p ih | b p ih | c p ih | d p ih => intro t k; cases t with
    | lf => exact ih _ _
    | nd v a b c d => exact ih _ _
theorem setOX_eq (x : DO) (i : Nat) (t : PM DO) (k : PM DO → Out) : setO (wayX i) x t k = k (t.set i x) := by rw [setO_eq, wayX_eq]; rfl

/-! ### Values -/
def nowL {α R : Type} (cs : List α) : (List α → R) → R :=
  List.rec (motive := fun _ => (List α → R) → R) (fun k => k []) (fun c _ ih k => ih fun cs => k (c :: cs)) cs
theorem nowL_eq {α R : Type} : ∀ (cs : List α) (k : List α → R), nowL cs k = k cs
  | [], _ => rfl
  | c :: cs, k => nowL_eq cs fun cs => k (c :: cs)

def nowH {R : Type} (v : DV) (k : DV → R) : R :=
  match v with
  | .int kd n => k (.int kd n)
  | .bool b => k (.bool b)
  | .str s => k (.str s)
  | .sl b off len cap ex sz => k (.sl b off len cap ex sz)
  | .dsl z sz n cs => k (.dsl z sz n cs)
  | .ptr b off => k (.ptr b off)
  | .nilp => k .nilp
  | .dptr cs => k (.dptr cs)
  | .fn f caps => k (.fn f caps)
  | .nilf => k .nilf
  | .mp b => k (.mp b)
  | .nilm => k .nilm
  | .agg cs => k (.agg cs)
  | .tup vs => k (.tup vs)
  | .junk => k .junk
theorem nowH_eq {R : Type} (v : DV) (k : DV → R) : nowH v k = k v := by cases v <;> rfl

def nowT {R : Type} (cs : List DV) : (List DV → R) → R :=
  List.rec (motive := fun _ => (List DV → R) → R) (fun k => k []) (fun c _ ih k => nowH c fun c => ih fun cs => k (c :: cs)) cs
theorem nowT_eq {R : Type} : ∀ (cs : List DV) (k : List DV → R), nowT cs k = k cs
  | [], _ => rfl
  | c :: cs, k => by
    show (nowH c fun c => nowT cs fun cs => k (c :: cs)) = k (c :: cs)
    rw [nowH_eq, nowT_eq cs]

def nowV {R : Type} (v : DV) (k : DV → R) : R :=
  match v with
  | .int kd n => nowI n fun n => k (.int kd n)
  | .bool b => nowB b fun b => k (.bool b)
  | .str s => k (.str s)
  | .sl b off len cap ex sz => nowN b fun b => nowN off fun off => nowN len fun len => nowN cap fun cap => nowB ex fun ex => nowN sz fun sz => k (.sl b off len cap ex sz)
  | .dsl z sz n cs => nowN sz fun sz => nowN n fun n => nowL cs fun cs => k (.dsl z sz n cs)
  | .ptr b off => nowN b fun b => nowN off fun off => k (.ptr b off)
  | .nilp => k .nilp
  | .dptr cs => nowL cs fun cs => k (.dptr cs)
  | .fn f caps => k (.fn f caps)
  | .nilf => k .nilf
  | .mp b => nowN b fun b => k (.mp b)
  | .nilm => k .nilm
  | .agg cs => nowL cs fun cs => k (.agg cs)
  | .tup vs => nowT vs fun vs => k (.tup vs)
  | .junk => k .junk
theorem nowV_eq {R : Type} (v : DV) (k : DV → R) : nowV v k = k v := by
  cases v <;> simp only [nowV, nowN_eq, nowB_eq, nowI_eq, nowL_eq, nowT_eq]

def nowM {R : Type} (m : DH) (k : DH → R) : R :=
  DH.rec (motive := fun _ => R) (fun h n low => PM.rec (motive := fun _ => R) (nowN n fun n => nowN low fun low => k ⟨.lf, n, low⟩)
    (fun v a b c d _ _ _ _ => nowN n fun n => nowN low fun low => k ⟨.nd v a b c d, n, low⟩) h) m
theorem nowM_eq {R : Type} (m : DH) (k : DH → R) : nowM m k = k m := by
  cases m with
  | mk h n low => cases h <;> simp only [nowM, nowN_eq]

/-! ### What is read -/
def evF (x : Operand) (t : Slots) : DV :=
  Operand.casesOn (motive := fun _ => DV) x (fun i => Option.rec (motive := fun _ => DV) undefD (fun v => v) (getV (wayX i) t)) (fun v => ofConst v) (fun _ => .junk) (fun f => .fn f [])
theorem evF_eq (x : Operand) (t : Slots) : evF x t = ev t x := by
  cases x with
  | tmp i =>
    show Option.rec (motive := fun _ => DV) undefD (fun v => v) (getV (wayX i) t) = (t.get i).getD undefD
    rw [getVX_eq]; cases t.get i <;> rfl
  | const | global | func => rfl

def evsF (xs : List Operand) (t : Slots) : List DV := List.rec (motive := fun _ => List DV) [] (fun x _ ih => evF x t :: ih) xs
theorem evsF_eq : ∀ (xs : List Operand) (t : Slots), evsF xs t = evs t xs
  | [], _ => rfl
  | x :: xs, t => by
    show evF x t :: evsF xs t = _
    rw [evF_eq, evsF_eq xs]; rfl

def putK (t : Slots) (d : Option Nat) (v : DV) (k : Slots → Out) : Out :=
  Option.rec (motive := fun _ => Out) (k t) (fun d => setV (wayX d) v t k) d
theorem putK_eq (t : Slots) (d : Option Nat) (v : DV) (k : Slots → Out) : putK t d v k = k (put t d v) := by
  cases d with
  | none => rfl
  | some d => exact setVX_eq _ _ _ _

/-! ### Lists of cells -/
def dropF {α : Type} (n : Nat) : List α → List α :=
  Nat.rec (motive := fun _ => List α → List α) (fun cs => cs) (fun _ ih cs => List.rec (motive := fun _ => List α) [] (fun _ cs _ => ih cs) cs) n
theorem dropF_eq {α : Type} : ∀ (n : Nat) (cs : List α), dropF n cs = cs.drop n
  | 0, _ => rfl
  | n + 1, [] => rfl
  | n + 1, c :: cs => dropF_eq n cs

def takeK {α R : Type} (e : R) (n : Nat) : List α → (List α → R) → R :=
  Nat.rec (motive := fun _ => List α → (List α → R) → R) (fun _ k => k [])
    (fun _ ih cs k => List.rec (motive := fun _ => R) e (fun c cs _ => ih cs fun r => k (c :: r)) cs) n
theorem takeK_eq {α R : Type} (e : R) : ∀ (n : Nat) (cs : List α) (k : List α → R), takeK e n cs k = if n ≤ cs.length then k (cs.take n) else e
  | 0, _, _ => by rw [if_pos (Nat.zero_le _)]; rfl
  | n + 1, [], k => by rw [if_neg (by simp)]; rfl
  | n + 1, c :: cs, k => by
    show takeK e n cs (fun r => k (c :: r)) = _
    rw [takeK_eq e n]; simp

def oneF (v : DV) : Bool :=
  match v with
  | .agg _ => false
  | .tup _ => false
  | .junk => false
  | _ => true
theorem oneF_eq (v : DV) : oneF v = v.one := by cases v <;> rfl

def elimO {α R : Type} (e : R) (o : Option α) (k : α → R) : R := Option.rec (motive := fun _ => R) e k o

inductive Sz where
  | one
  | many (n : Nat)
  | bad

def szOf (P : Program) (T : TypeId) : Sz :=
  match isAggB P T, sizeB P T with
  | some true, some k => .many k
  | some false, some _ => .one
  | _, _ => .bad

def takeVarK {R : Type} (e : R) (P : Program) (T : TypeId) (cs : List DV) (k : DV → R) : R :=
  Sz.rec (motive := fun _ => R) (List.rec (motive := fun _ => R) e (fun c _ _ => iteB (oneF c) (k c) e) cs) (fun n => takeK e n cs fun cs => k (.agg cs)) e (szOf P T)
theorem takeVarK_eq {R : Type} (e : R) (P : Program) (T : TypeId) (cs : List DV) (k : DV → R) : takeVarK e P T cs k = elimO e (takeVar P T cs) k := by
  unfold takeVarK takeVar szOf
  cases isAggB P T with
  | none => rfl
  | some b => cases sizeB P T with
    | none => cases b <;> rfl
    | some n => cases b with
      | true => simp only [takeK_eq]; split <;> rfl
      | false => cases cs with
        | nil => rfl
        | cons c cs => simp only [iteB_eq, oneF_eq]; split <;> rfl

def loadK {R : Type} (e : R) (P : Program) (T : TypeId) (a : DV) (m : DH) (k : DV → R) : R :=
  match a with
  | .ptr b off => elimO e (getO (wayX b) m.h) fun o => match o with
    | .cells cs _ _ => takeVarK e P T (dropF off cs) k
    | _ => e
  | .dptr cs => takeVarK e P T cs k
  | _ => e
theorem loadK_eq {R : Type} (e : R) (P : Program) (T : TypeId) (a : DV) (m : DH) (k : DV → R) : loadK e P T a m k = elimO e (loadD P T a m) k := by
  cases a with
  | ptr b off =>
    simp only [loadK, loadD, getOX_eq]
    cases m.h.get b with
    | none => rfl
    | some o =>
      cases o with
      | cells cs e' ro => simp only [elimO]; rw [takeVarK_eq, dropF_eq]; rfl
      | _ => rfl
  | dptr cs => simp only [loadK, loadD, takeVarK_eq]
  | _ => rfl

/-! ### Numbers -/
def eqI (x y : Int) : Bool :=
  Int.rec (motive := fun _ => Bool) (fun a => Int.rec (motive := fun _ => Bool) (fun b => Nat.beq a b) (fun _ => false) y) (fun a => Int.rec (motive := fun _ => Bool) (fun _ => false) (fun b => Nat.beq a b) y) x
def ltI (x y : Int) : Bool :=
  Int.rec (motive := fun _ => Bool) (fun a => Int.rec (motive := fun _ => Bool) (fun b => Nat.blt a b) (fun _ => false) y) (fun a => Int.rec (motive := fun _ => Bool) (fun _ => true) (fun b => Nat.blt b a) y) x
def leI (x y : Int) : Bool :=
  Int.rec (motive := fun _ => Bool) (fun a => Int.rec (motive := fun _ => Bool) (fun b => Nat.ble a b) (fun _ => false) y) (fun a => Int.rec (motive := fun _ => Bool) (fun _ => true) (fun b => Nat.ble b a) y) x
def notB (b : Bool) : Bool := Bool.rec (motive := fun _ => Bool) true false b

theorem nat_beq (a b : Nat) : Nat.beq a b = (a == b) := by rw [Bool.eq_iff_iff, beq_iff_eq, Nat.beq_eq]
theorem eqI_eq (x y : Int) : eqI x y = (x == y) := by
  rw [Bool.eq_iff_iff]
  cases x <;> cases y <;> simp [eqI, nat_beq] <;> omega
theorem ltI_eq (x y : Int) : ltI x y = decide (x < y) := by
  rw [Bool.eq_iff_iff, decide_eq_true_iff]
  cases x <;> cases y <;> simp [ltI, Nat.blt_eq] <;> omega
theorem leI_eq (x y : Int) : leI x y = decide (x ≤ y) := by
  rw [Bool.eq_iff_iff, decide_eq_true_iff]
  cases x <;> cases y <;> simp [leI, Nat.ble_eq] <;> omega
theorem notB_eq (b : Bool) : notB b = !b := by cases b <;> rfl

def kdN (k : IntKind) : Nat := IntKind.rec (motive := fun _ => Nat) 0 1 2 3 4 5 6 7 k
def kdEq (k k' : IntKind) : Bool := Nat.beq (kdN k) (kdN k')
theorem kdEq_eq (k k' : IntKind) : kdEq k k' = decide (k = k') := by cases k <;> cases k' <;> rfl

def topK (k : IntKind) : Nat := IntKind.rec (motive := fun _ => Nat) 128 32768 2147483648 9223372036854775808 256 65536 4294967296 18446744073709551616 k

def wrapF (k : IntKind) (n : Int) : Int :=
  Int.rec (motive := fun _ => Int) (fun a => iteB (Nat.blt a (topK k)) (.ofNat a) (wrapD k (.ofNat a))) (fun a => wrapD k (.negSucc a)) n
theorem wrapF_eq (k : IntKind) (n : Int) : wrapF k n = wrapD k n := by
  cases n with
  | ofNat a =>
    show iteB (Nat.blt a (topK k)) (.ofNat a) (wrapD k (.ofNat a)) = _
    rw [iteB_eq]
    split
    · rename_i h
      unfold wrapD
      have : fitsK k (.ofNat a) = true := by cases k <;> exact h
      rw [this]
    · rfl
  | negSucc a => rfl

def addI (x y : Int) : Int :=
  Int.rec (motive := fun _ => Int) (fun a => Int.rec (motive := fun _ => Int) (fun b => .ofNat (Nat.add a b)) (fun b => Int.add (.ofNat a) (.negSucc b)) y) (fun a => Int.add (.negSucc a) y) x
def subI (x y : Int) : Int :=
  Int.rec (motive := fun _ => Int) (fun a => Int.rec (motive := fun _ => Int) (fun b => iteB (Nat.ble b a) (.ofNat (Nat.sub a b)) (Int.sub (.ofNat a) (.ofNat b))) (fun b => Int.sub (.ofNat a) (.negSucc b)) y) (fun a => Int.sub (.negSucc a) y) x
theorem addI_eq (x y : Int) : addI x y = x + y := by cases x <;> cases y <;> rfl
theorem subI_eq (x y : Int) : subI x y = x - y := by
  cases x with
  | ofNat a => cases y with
    | ofNat b =>
      show iteB (Nat.ble b a) (.ofNat (Nat.sub a b)) (Int.sub (.ofNat a) (.ofNat b)) = _
      rw [iteB_eq]
      split
      · rename_i h
        rw [Nat.ble_eq] at h
        show ((a - b : Nat) : Int) = (a : Int) - (b : Int)
        omega
      · rfl
    | negSucc b => rfl
  | negSucc a => rfl

inductive Box (α : Type) where
  | mk (x : α)

def intOpK {R : Type} (e : R) (op : BinOp) : IntKind → Int → Int → (DV → R) → R :=
  match op with
  | .add => fun kd x y k => nowI (wrapF kd (addI x y)) fun n => k (.int kd n)
  | .sub => fun kd x y k => nowI (wrapF kd (subI x y)) fun n => k (.int kd n)
  | .eql => fun _ x y k => nowB (eqI x y) fun b => k (.bool b)
  | .neq => fun _ x y k => nowB (notB (eqI x y)) fun b => k (.bool b)
  | .lss => fun _ x y k => nowB (ltI x y) fun b => k (.bool b)
  | .leq => fun _ x y k => nowB (leI x y) fun b => k (.bool b)
  | .gtr => fun _ x y k => nowB (ltI y x) fun b => k (.bool b)
  | .geq => fun _ x y k => nowB (leI y x) fun b => k (.bool b)
  | op => fun kd x y k => elimO e (intOpD op kd x y) fun v => nowV v k
theorem intOpK_eq {R : Type} (e : R) (op : BinOp) (kd : IntKind) (x y : Int) (k : DV → R) : intOpK e op kd x y k = elimO e (intOpD op kd x y) k := by
  cases op <;> simp only [intOpK, intOpD, nowI_eq, nowB_eq, nowV_eq, wrapF_eq, addI_eq, subI_eq, eqI_eq, ltI_eq, leI_eq, notB_eq] <;> rfl

def eqB (xs : List UInt8) : List UInt8 → Bool :=
  List.rec (motive := fun _ => List UInt8 → Bool) (fun ys => List.rec (motive := fun _ => Bool) true (fun _ _ _ => false) ys)
    (fun x _ ih ys => List.rec (motive := fun _ => Bool) false (fun y ys _ => iteB (Nat.beq x.toNat y.toNat) (ih ys) false) ys) xs
theorem eqB_eq : ∀ (xs ys : List UInt8), eqB xs ys = (xs == ys)
  | [], [] => rfl
  | [], _ :: _ => rfl
  | _ :: _, [] => rfl
  | x :: xs, y :: ys => by
    show iteB (Nat.beq x.toNat y.toNat) (eqB xs ys) false = _
    rw [iteB_eq, eqB_eq xs ys, List.cons_beq_cons, nat_beq]
    by_cases h : x = y
    · subst h; simp
    · have : x.toNat ≠ y.toNat := fun e => h (UInt8.toNat_inj.mp e)
      simp [h, this]

def strOpK {R : Type} (e : R) (op : BinOp) (x y : ByteArray) (k : DV → R) : R :=
  match op with
  | .eql => nowB (eqB x.data.toList y.data.toList) fun b => k (.bool b)
  | .neq => nowB (notB (eqB x.data.toList y.data.toList)) fun b => k (.bool b)
  | op => elimO e (strOpD op x y) k
theorem strOpK_eq {R : Type} (e : R) (op : BinOp) (x y : ByteArray) (k : DV → R) : strOpK e op x y k = elimO e (strOpD op x y) k := by
  cases op <;> simp only [strOpK, strOpD, nowB_eq, eqB_eq, notB_eq] <;> rfl

def binGo {R : Type} (e : R) (f : IntKind → Int → Int → (DV → R) → R) (h : ByteArray → ByteArray → (DV → R) → R) (g : DV → DV → (DV → R) → R) (x y : DV) (k : DV → R) : R :=
  match x with
  | .int kd a => match y with
    | .int kd' b => iteB (kdEq kd kd') (f kd a b k) e
    | y => g (.int kd a) y k
  | .str a => match y with
    | .str b => h a b k
    | y => g (.str a) y k
  | x => g x y k

def binX {R : Type} (e : R) (P : Program) (op : BinOp) (T : TypeId) : DV → DV → (DV → R) → R :=
  match op with
  | .shl => fun x y k => elimO e (binOpD P .shl T x y) fun v => nowV v k
  | .shr => fun x y k => elimO e (binOpD P .shr T x y) fun v => nowV v k
  | op => binGo e (intOpK e op) (strOpK e op) fun x y k => elimO e (binOpD P op T x y) fun v => nowV v k
theorem binX_eq {R : Type} (e : R) (P : Program) (op : BinOp) (T : TypeId) (x y : DV) (k : DV → R) : binX e P op T x y k = elimO e (binOpD P op T x y) k := by
  have go : (∀ kd a kd' b, binOpD P op T (.int kd a) (.int kd' b) = if kd = kd' then intOpD op kd a b else none) → binGo e (intOpK e op) (strOpK e op) (fun x y k => elimO e (binOpD P op T x y) fun v => nowV v k) x y k = elimO e (binOpD P op T x y) k := by
    intro hk
    unfold binGo
    split
    · split
      · rename_i kd a _ kd' b
        rw [iteB_eq, kdEq_eq, intOpK_eq, hk]
        by_cases h : kd = kd'
        · simp [h]
        · simp [h]; rfl
      · simp only [nowV_eq]
    · split
      · rw [strOpK_eq]; rfl
      · simp only [nowV_eq]
    · simp only [nowV_eq]
  cases op with
  | shl | shr => simp only [binX, nowV_eq]
  | _ => exact go fun _ _ _ _ => rfl

/-! ### Rows -/
def replK {R : Type} (e : R) (vs : List DV) : List DV → (List DV → R) → R :=
  List.rec (motive := fun _ => List DV → (List DV → R) → R) (fun cs k => k cs)
    (fun v _ ih cs k => List.rec (motive := fun _ => R) e (fun _ cs _ => iteB (oneF v) (ih cs fun r => k (v :: r)) e) cs) vs
def setAtK {R : Type} (e : R) (vs : List DV) (n : Nat) : List DV → (List DV → R) → R :=
  Nat.rec (motive := fun _ => List DV → (List DV → R) → R) (fun cs k => replK e vs cs k)
    (fun _ ih cs k => List.rec (motive := fun _ => R) e (fun c cs _ => ih cs fun r => k (c :: r)) cs) n
theorem setAt_cons (c : DV) : ∀ (vs cs : List DV) (n : Nat), setAt (c :: cs) (n + 1) vs = c :: setAt cs n vs
  | [], _, _ => rfl
  | v :: vs, cs, n => by simp only [setAt, List.set_cons_succ, setAt_cons c vs]
theorem replK_eq {R : Type} (e : R) : ∀ (vs cs : List DV) (k : List DV → R), replK e vs cs k = if vs.length ≤ cs.length ∧ allOne vs = true then k (setAt cs 0 vs) else e
  | [], cs, k => by rw [if_pos ⟨Nat.zero_le _, rfl⟩]; rfl
  | v :: vs, [], k => by rw [if_neg (by simp)]; rfl
  | v :: vs, c :: cs, k => by
    show iteB (oneF v) (replK e vs cs fun r => k (v :: r)) e = _
    rw [iteB_eq, oneF_eq, replK_eq e vs cs]
    simp only [setAt, List.set_cons_zero, setAt_cons, allOne, List.all_cons, List.length_cons]
    by_cases h : v.one = true
    · simp [h]
    · simp [h]
theorem setAtK_eq {R : Type} (e : R) (vs : List DV) : ∀ (n : Nat) (cs : List DV) (k : List DV → R), setAtK e vs n cs k = if (n = 0 ∨ n ≤ cs.length) ∧ n + vs.length ≤ cs.length ∧ allOne vs = true then k (setAt cs n vs) else e
  | 0, cs, k => by
    show replK e vs cs k = _
    rw [replK_eq]; simp
  | n + 1, [], k => by rw [if_neg (by simp)]; rfl
  | n + 1, c :: cs, k => by
    show setAtK e vs n cs (fun r => k (c :: r)) = _
    rw [setAtK_eq e vs n cs]
    have h1 : ((n = 0 ∨ n ≤ cs.length) ∧ n + vs.length ≤ cs.length ∧ allOne vs = true) ↔ ((n + 1 = 0 ∨ n + 1 ≤ (c :: cs).length) ∧ n + 1 + vs.length ≤ (c :: cs).length ∧ allOne vs = true) := by
      simp only [List.length_cons]
      constructor
      · rintro ⟨h1, h2, h3⟩; exact ⟨by omega, by omega, h3⟩
      · rintro ⟨h1, h2, h3⟩; exact ⟨by omega, by omega, h3⟩
    simp only [h1, setAt_cons]

def lenF {α : Type} (cs : List α) : Nat := List.rec (motive := fun _ => Nat) Nat.zero (fun _ _ ih => Nat.succ ih) cs
theorem lenF_eq {α : Type} : ∀ cs : List α, lenF cs = cs.length
  | [] => rfl
  | c :: cs => congrArg Nat.succ (lenF_eq cs)

def cellsF (v : DV) : List DV :=
  match v with
  | .agg cs => cs
  | v => [v]
theorem cellsF_eq (v : DV) : cellsF v = v.cells := by cases v <;> rfl

def minF (a b : Nat) : Nat := iteB (Nat.ble a b) a b
theorem minF_eq (a b : Nat) : minF a b = Nat.min a b := by
  rw [minF, iteB_eq]
  show _ = min a b
  simp only [Nat.ble_eq, Nat.min_def]

def storeK (e : Out) (P : Program) (T : TypeId) (a v : DV) (m : DH) (k : DH → Out) : Out :=
  match a with
  | .ptr b off => DH.rec (motive := fun _ => Out) (fun h n low => elimO e (getO (wayX b) h) fun o => match o with
    | .cells cs E false => elimO e (sizeB P T) fun sz => iteB (Nat.beq sz (lenF (cellsF v))) (setAtK e (cellsF v) off cs fun cs => setO (wayX b) (.cells cs E false) h fun h => nowN (minF low b) fun low => k ⟨h, n, low⟩) e
    | _ => e) m
  | _ => e
theorem storeK_eq (e : Out) (P : Program) (T : TypeId) (a v : DV) (m : DH) (k : DH → Out) : storeK e P T a v m k = elimO e (storeD P T a v m) k := by
  cases a with
  | ptr b off =>
    cases m with
    | mk h n low =>
      simp only [storeK, storeD, getOX_eq]
      cases h.get b with
      | none => rfl
      | some o =>
        simp only [elimO]
        cases o with
        | cells cs E ro =>
          cases ro with
          | true => rfl
          | false =>
            simp only
            cases hs : sizeB P T with
            | none => simp
            | some sz =>
              simp only [iteB_eq, nat_beq, lenF_eq, cellsF_eq, setAtK_eq, setOX_eq, nowN_eq, minF_eq, Option.some.injEq, beq_iff_eq]
              by_cases h1 : sz = v.cells.length
              · by_cases h2 : off + v.cells.length ≤ cs.length ∧ allOne v.cells = true
                · rw [if_pos h1, if_pos ⟨by omega, h2⟩, if_pos ⟨h1, h2⟩]
                · rw [if_pos h1, if_neg (fun h => h2 h.2), if_neg (fun h => h2 h.2)]
              · rw [if_neg h1, if_neg (fun h => h1 h.1)]
        | _ => rfl
  | _ => rfl

end
end Go.Det
