/-
  The machine once more, in words that the kernel runs quickly: recursors whose arms are closed, values that are worked out ahead of being kept. It does just what the machine does (run_fast).
-/
import Derived.Test.YthbnlmmidanaiaaGreatDetRel
set_option linter.unusedVariables false
set_option linter.unusedSimpArgs false
set_option linter.unusedSectionVars false
namespace Go.Det

noncomputable section

/-! ### Worked out ahead -/
def nowN (n : Nat) (k : Nat → Out) : Out := Nat.rec (motive := fun _ => (Nat → Out) → Out) (fun k => k Nat.zero) (fun p _ k => k (Nat.succ p)) n k
def nowB (b : Bool) (k : Bool → Out) : Out := Bool.rec (motive := fun _ => (Bool → Out) → Out) (fun k => k false) (fun k => k true) b k
def nowI (n : Int) (k : Int → Out) : Out := Int.rec (motive := fun _ => (Int → Out) → Out) (fun a k => nowN a fun a => k (.ofNat a)) (fun a k => nowN a fun a => k (.negSucc a)) n k
def iteB (b : Bool) (x y : Bool) : Bool := Bool.rec (motive := fun _ => Bool → Bool → Bool) (fun _ y => y) (fun x _ => x) b x y
def iteI (b : Bool) (x y : Int) : Int := Bool.rec (motive := fun _ => Int → Int → Int) (fun _ y => y) (fun x _ => x) b x y
def iteN (b : Bool) (x y : Nat) : Nat := Bool.rec (motive := fun _ => Nat → Nat → Nat) (fun _ y => y) (fun x _ => x) b x y
def iteO (b : Bool) (x y : Out) : Out := Bool.rec (motive := fun _ => Out → Out → Out) (fun _ y => y) (fun x _ => x) b x y

theorem nowN_eq (n : Nat) (k : Nat → Out) : nowN n k = k n := by cases n <;> rfl
theorem nowB_eq (n : Bool) (k : Bool → Out) : nowB n k = k n := by cases n <;> rfl
theorem nowI_eq (n : Int) (k : Int → Out) : nowI n k = k n := by
  cases n with
  | ofNat a => exact nowN_eq a fun a => k (.ofNat a)
  | negSucc a => exact nowN_eq a fun a => k (.negSucc a)
theorem iteB_eq (b : Bool) (x y : Bool) : iteB b x y = if b = true then x else y := by cases b <;> rfl
theorem iteI_eq (b : Bool) (x y : Int) : iteI b x y = if b = true then x else y := by cases b <;> rfl
theorem iteN_eq (b : Bool) (x y : Nat) : iteN b x y = if b = true then x else y := by cases b <;> rfl
theorem iteO_eq (b : Bool) (x y : Out) : iteO b x y = if b = true then x else y := by cases b <;> rfl

/-! ### The store -/
def digQ (p : PW) (n : Nat) : PW :=
  Nat.rec (motive := fun _ => PW) (.a p) (fun n _ => Nat.rec (motive := fun _ => PW) (.b p) (fun n _ => Nat.rec (motive := fun _ => PW) (.c p) (fun _ _ => .d p) n) n) n
def wayQ (f : Nat) : Nat → PW :=
  Nat.rec (motive := fun _ => Nat → PW) (fun _ => .z) (fun _ ih i => Nat.rec (motive := fun _ => PW) .z (fun j _ => digQ (ih (Nat.div j 4)) (Nat.mod j 4)) i) f
def wayX (i : Nat) : PW := wayQ (Nat.succ i) i

theorem digQ_eq (p : PW) (n : Nat) : digQ p n = digD p n := by
  rcases n with _ | _ | _ | n <;> rfl
theorem wayQ_eq : ∀ (f i : Nat), wayQ f i = wayF f i
  | 0, _ => rfl
  | f + 1, 0 => rfl
  | f + 1, j + 1 => by
    show digQ (wayQ f (Nat.div j 4)) (Nat.mod j 4) = digD (wayF f (j / 4)) (j % 4)
    rw [digQ_eq, wayQ_eq f]; rfl
theorem wayX_eq (i : Nat) : wayX i = way i := wayQ_eq _ _

def getVz (t : PM DV) : Option DV := PM.rec (motive := fun _ => Option DV) none (fun v _ _ _ _ _ _ _ _ => v) t
def getVa (_ : PW) (ih : PM DV → Option DV) (t : PM DV) : Option DV := PM.rec (motive := fun _ => (PM DV → Option DV) → Option DV) (fun _ => none) (fun _ a _ _ _ _ _ _ _ ih => ih a) t ih
def getVb (_ : PW) (ih : PM DV → Option DV) (t : PM DV) : Option DV := PM.rec (motive := fun _ => (PM DV → Option DV) → Option DV) (fun _ => none) (fun _ _ b _ _ _ _ _ _ ih => ih b) t ih
def getVc (_ : PW) (ih : PM DV → Option DV) (t : PM DV) : Option DV := PM.rec (motive := fun _ => (PM DV → Option DV) → Option DV) (fun _ => none) (fun _ _ _ c _ _ _ _ _ ih => ih c) t ih
def getVd (_ : PW) (ih : PM DV → Option DV) (t : PM DV) : Option DV := PM.rec (motive := fun _ => (PM DV → Option DV) → Option DV) (fun _ => none) (fun _ _ _ _ d _ _ _ _ ih => ih d) t ih
def getV (p : PW) : PM DV → Option DV := PW.rec (motive := fun _ => PM DV → Option DV) getVz getVa getVb getVc getVd p
theorem getV_eq (p : PW) : ∀ t : PM DV, getV p t = PM.getP p t := by
  induction p with
  | z => intro t; cases t <;> rfl
  | a p ih | b p ih | c p ih | d p ih => intro t; cases t with
    | lf => rfl
    | nd v a b c d => exact ih _
theorem getVX_eq (i : Nat) (t : PM DV) : getV (wayX i) t = t.get i := by rw [getV_eq, wayX_eq]; rfl

def getOz (t : PM DO) : Option DO := PM.rec (motive := fun _ => Option DO) none (fun v _ _ _ _ _ _ _ _ => v) t
def getOa (_ : PW) (ih : PM DO → Option DO) (t : PM DO) : Option DO := PM.rec (motive := fun _ => (PM DO → Option DO) → Option DO) (fun _ => none) (fun _ a _ _ _ _ _ _ _ ih => ih a) t ih
def getOb (_ : PW) (ih : PM DO → Option DO) (t : PM DO) : Option DO := PM.rec (motive := fun _ => (PM DO → Option DO) → Option DO) (fun _ => none) (fun _ _ b _ _ _ _ _ _ ih => ih b) t ih
def getOc (_ : PW) (ih : PM DO → Option DO) (t : PM DO) : Option DO := PM.rec (motive := fun _ => (PM DO → Option DO) → Option DO) (fun _ => none) (fun _ _ _ c _ _ _ _ _ ih => ih c) t ih
def getOd (_ : PW) (ih : PM DO → Option DO) (t : PM DO) : Option DO := PM.rec (motive := fun _ => (PM DO → Option DO) → Option DO) (fun _ => none) (fun _ _ _ _ d _ _ _ _ ih => ih d) t ih
def getO (p : PW) : PM DO → Option DO := PW.rec (motive := fun _ => PM DO → Option DO) getOz getOa getOb getOc getOd p
theorem getO_eq (p : PW) : ∀ t : PM DO, getO p t = PM.getP p t := by
  induction p with
  | z => intro t; cases t <;> rfl
  | a p ih | b p ih | c p ih | d p ih => intro t; cases t with
    | lf => rfl
    | nd v a b c d => exact ih _
theorem getOX_eq (i : Nat) (t : PM DO) : getO (wayX i) t = t.get i := by rw [getO_eq, wayX_eq]; rfl

def setVz (x : DV) (t : PM DV) (k : PM DV → Out) : Out := PM.rec (motive := fun _ => DV → (PM DV → Out) → Out) (fun x k => k (.nd (some x) .lf .lf .lf .lf)) (fun _ a b c d _ _ _ _ x k => k (.nd (some x) a b c d)) t x k
def setVa (_ : PW) (ih : DV → PM DV → (PM DV → Out) → Out) (x : DV) (t : PM DV) (k : PM DV → Out) : Out := PM.rec (motive := fun _ => (DV → PM DV → (PM DV → Out) → Out) → DV → (PM DV → Out) → Out) (fun ih x k => ih x .lf fun r => k (.nd none r .lf .lf .lf)) (fun v a b c d _ _ _ _ ih x k => ih x a fun r => k (.nd v r b c d)) t ih x k
def setVb (_ : PW) (ih : DV → PM DV → (PM DV → Out) → Out) (x : DV) (t : PM DV) (k : PM DV → Out) : Out := PM.rec (motive := fun _ => (DV → PM DV → (PM DV → Out) → Out) → DV → (PM DV → Out) → Out) (fun ih x k => ih x .lf fun r => k (.nd none .lf r .lf .lf)) (fun v a b c d _ _ _ _ ih x k => ih x b fun r => k (.nd v a r c d)) t ih x k
def setVc (_ : PW) (ih : DV → PM DV → (PM DV → Out) → Out) (x : DV) (t : PM DV) (k : PM DV → Out) : Out := PM.rec (motive := fun _ => (DV → PM DV → (PM DV → Out) → Out) → DV → (PM DV → Out) → Out) (fun ih x k => ih x .lf fun r => k (.nd none .lf .lf r .lf)) (fun v a b c d _ _ _ _ ih x k => ih x c fun r => k (.nd v a b r d)) t ih x k
def setVd (_ : PW) (ih : DV → PM DV → (PM DV → Out) → Out) (x : DV) (t : PM DV) (k : PM DV → Out) : Out := PM.rec (motive := fun _ => (DV → PM DV → (PM DV → Out) → Out) → DV → (PM DV → Out) → Out) (fun ih x k => ih x .lf fun r => k (.nd none .lf .lf .lf r)) (fun v a b c d _ _ _ _ ih x k => ih x d fun r => k (.nd v a b c r)) t ih x k
def setV (p : PW) : DV → PM DV → (PM DV → Out) → Out := PW.rec (motive := fun _ => DV → PM DV → (PM DV → Out) → Out) setVz setVa setVb setVc setVd p
theorem setV_eq (x : DV) (p : PW) : ∀ (t : PM DV) (k : PM DV → Out), setV p x t k = k (PM.setP x p t) := by
  induction p with
  | z => intro t k; cases t <;> rfl
  | a p ih | b p ih | c p ih | d p ih => intro t k; cases t with
    | lf => exact ih _ _
    | nd v a b c d => exact ih _ _
theorem setVX_eq (x : DV) (i : Nat) (t : PM DV) (k : PM DV → Out) : setV (wayX i) x t k = k (t.set i x) := by rw [setV_eq, wayX_eq]; rfl

def setOz (x : DO) (t : PM DO) (k : PM DO → Out) : Out := PM.rec (motive := fun _ => DO → (PM DO → Out) → Out) (fun x k => k (.nd (some x) .lf .lf .lf .lf)) (fun _ a b c d _ _ _ _ x k => k (.nd (some x) a b c d)) t x k
def setOa (_ : PW) (ih : DO → PM DO → (PM DO → Out) → Out) (x : DO) (t : PM DO) (k : PM DO → Out) : Out := PM.rec (motive := fun _ => (DO → PM DO → (PM DO → Out) → Out) → DO → (PM DO → Out) → Out) (fun ih x k => ih x .lf fun r => k (.nd none r .lf .lf .lf)) (fun v a b c d _ _ _ _ ih x k => ih x a fun r => k (.nd v r b c d)) t ih x k
def setOb (_ : PW) (ih : DO → PM DO → (PM DO → Out) → Out) (x : DO) (t : PM DO) (k : PM DO → Out) : Out := PM.rec (motive := fun _ => (DO → PM DO → (PM DO → Out) → Out) → DO → (PM DO → Out) → Out) (fun ih x k => ih x .lf fun r => k (.nd none .lf r .lf .lf)) (fun v a b c d _ _ _ _ ih x k => ih x b fun r => k (.nd v a r c d)) t ih x k
def setOc (_ : PW) (ih : DO → PM DO → (PM DO → Out) → Out) (x : DO) (t : PM DO) (k : PM DO → Out) : Out := PM.rec (motive := fun _ => (DO → PM DO → (PM DO → Out) → Out) → DO → (PM DO → Out) → Out) (fun ih x k => ih x .lf fun r => k (.nd none .lf .lf r .lf)) (fun v a b c d _ _ _ _ ih x k => ih x c fun r => k (.nd v a b r d)) t ih x k
def setOd (_ : PW) (ih : DO → PM DO → (PM DO → Out) → Out) (x : DO) (t : PM DO) (k : PM DO → Out) : Out := PM.rec (motive := fun _ => (DO → PM DO → (PM DO → Out) → Out) → DO → (PM DO → Out) → Out) (fun ih x k => ih x .lf fun r => k (.nd none .lf .lf .lf r)) (fun v a b c d _ _ _ _ ih x k => ih x d fun r => k (.nd v a b c r)) t ih x k
def setO (p : PW) : DO → PM DO → (PM DO → Out) → Out := PW.rec (motive := fun _ => DO → PM DO → (PM DO → Out) → Out) setOz setOa setOb setOc setOd p
theorem setO_eq (x : DO) (p : PW) : ∀ (t : PM DO) (k : PM DO → Out), setO p x t k = k (PM.setP x p t) := by
  induction p with
  | z => intro t k; cases t <;> rfl
  | a p ih | b p ih | c p ih | d p ih => intro t k; cases t with
    | lf => exact ih _ _
    | nd v a b c d => exact ih _ _
theorem setOX_eq (x : DO) (i : Nat) (t : PM DO) (k : PM DO → Out) : setO (wayX i) x t k = k (t.set i x) := by rw [setO_eq, wayX_eq]; rfl

/-! ### Values -/
def nowL (cs : List DV) : (List DV → Out) → Out :=
  List.rec (motive := fun _ => (List DV → Out) → Out) (fun k => k []) (fun c _ ih k => ih fun cs => k (c :: cs)) cs
theorem nowL_eq : ∀ (cs : List DV) (k : List DV → Out), nowL cs k = k cs
  | [], _ => rfl
  | c :: cs, k => nowL_eq cs fun cs => k (c :: cs)

def nowH : DV → (DV → Out) → Out :=
  @DV.rec (fun _ => (DV → Out) → Out) (fun _ => Unit)
    (fun kd n k => k (.int kd n))
    (fun b k => k (.bool b))
    (fun s k => k (.str s))
    (fun b off len cap ex sz k => k (.sl b off len cap ex sz))
    (fun z sz n cs _ k => k (.dsl z sz n cs))
    (fun b off k => k (.ptr b off))
    (fun k => k .nilp)
    (fun cs _ k => k (.dptr cs))
    (fun fid fst caps _ _ k => k (.fn fid fst caps))
    (fun k => k .nilf)
    (fun b k => k (.mp b))
    (fun k => k .nilm)
    (fun cs _ k => k (.agg cs))
    (fun vs _ k => k (.tup vs))
    (fun k => k .junk)
    () (fun _ _ _ _ => ())
theorem nowH_eq (v : DV) (k : DV → Out) : nowH v k = k v := by cases v <;> rfl

def nowT (cs : List DV) : (List DV → Out) → Out :=
  List.rec (motive := fun _ => (List DV → Out) → Out) (fun k => k []) (fun c _ ih k => nowH c fun c => ih fun cs => k (c :: cs)) cs
theorem nowT_eq : ∀ (cs : List DV) (k : List DV → Out), nowT cs k = k cs
  | [], _ => rfl
  | c :: cs, k => by
    show (nowH c fun c => nowT cs fun cs => k (c :: cs)) = k (c :: cs)
    rw [nowH_eq, nowT_eq cs]

def nowV : DV → (DV → Out) → Out :=
  @DV.rec (fun _ => (DV → Out) → Out) (fun _ => Unit)
    (fun kd n k => nowI n fun n => k (.int kd n))
    (fun b k => nowB b fun b => k (.bool b))
    (fun s k => k (.str s))
    (fun b off len cap ex sz k => nowN b fun b => nowN off fun off => nowN len fun len => nowN cap fun cap => nowB ex fun ex => nowN sz fun sz => k (.sl b off len cap ex sz))
    (fun z sz n cs _ k => nowN sz fun sz => nowN n fun n => nowL cs fun cs => k (.dsl z sz n cs))
    (fun b off k => nowN b fun b => nowN off fun off => k (.ptr b off))
    (fun k => k .nilp)
    (fun cs _ k => nowL cs fun cs => k (.dptr cs))
    (fun fid fst caps _ _ k => k (.fn fid fst caps))
    (fun k => k .nilf)
    (fun b k => nowN b fun b => k (.mp b))
    (fun k => k .nilm)
    (fun cs _ k => nowL cs fun cs => k (.agg cs))
    (fun vs _ k => nowT vs fun vs => k (.tup vs))
    (fun k => k .junk)
    () (fun _ _ _ _ => ())
theorem nowV_eq (v : DV) (k : DV → Out) : nowV v k = k v := by
  cases v <;> simp only [nowV, nowN_eq, nowB_eq, nowI_eq, nowL_eq, nowT_eq]

def nowW (l : List Nat) (k : List Nat → Out) : Out := List.rec (motive := fun _ => (List Nat → Out) → Out) (fun k => k []) (fun c cs _ k => k (c :: cs)) l k
theorem nowW_eq (l : List Nat) (k : List Nat → Out) : nowW l k = k l := by cases l <;> rfl

def nowM (m : DH) (k : DH → Out) : Out :=
  DH.rec (motive := fun _ => (DH → Out) → Out) (fun h n low k => PM.rec (motive := fun _ => Nat → List Nat → (DH → Out) → Out) (fun n low k => nowN n fun n => nowW low fun low => k ⟨.lf, n, low⟩)
    (fun v a b c d _ _ _ _ n low k => nowN n fun n => nowW low fun low => k ⟨.nd v a b c d, n, low⟩) h n low k) m k
theorem nowM_eq (m : DH) (k : DH → Out) : nowM m k = k m := by
  cases m with
  | mk h n low => cases h <;> simp only [nowM, nowN_eq, nowW_eq]

/-! ### What is read -/
def evTmp (i : Nat) (t : Slots) : DV := Option.rec (motive := fun _ => DV) undefD (fun v => v) (getV (wayX i) t)
def evF (x : Operand) : Slots → DV :=
  Operand.rec (motive := fun _ => Slots → DV) evTmp (fun v _ => ofConst v) (fun _ _ => .junk) (fun f _ => .fn f [] []) x
theorem evF_eq (x : Operand) (t : Slots) : evF x t = ev t x := by
  cases x with
  | tmp i =>
    show Option.rec (motive := fun _ => DV) undefD (fun v => v) (getV (wayX i) t) = (t.get i).getD undefD
    rw [getVX_eq]; cases t.get i <;> rfl
  | const | global | func => rfl

def evsF (xs : List Operand) : Slots → List DV := List.rec (motive := fun _ => Slots → List DV) (fun _ => []) (fun x _ ih t => evF x t :: ih t) xs
theorem evsF_eq : ∀ (xs : List Operand) (t : Slots), evsF xs t = evs t xs
  | [], _ => rfl
  | x :: xs, t => by
    show evF x t :: evsF xs t = _
    rw [evF_eq, evsF_eq xs]; rfl

def putK (t : Slots) (d : Option Nat) (v : DV) (k : Slots → Out) : Out :=
  Option.rec (motive := fun _ => Slots → DV → (Slots → Out) → Out) (fun t _ k => k t) (fun d t v k => setV (wayX d) v t k) d t v k
theorem putK_eq (t : Slots) (d : Option Nat) (v : DV) (k : Slots → Out) : putK t d v k = k (put t d v) := by
  cases d with
  | none => rfl
  | some d => exact setVX_eq _ _ _ _

/-! ### Lists of cells -/
def dropF (n : Nat) : List DV → List DV :=
  Nat.rec (motive := fun _ => List DV → List DV) (fun cs => cs) (fun _ ih cs => List.rec (motive := fun _ => (List DV → List DV) → List DV) (fun _ => []) (fun _ cs _ ih => ih cs) cs ih) n
theorem dropF_eq : ∀ (n : Nat) (cs : List DV), dropF n cs = cs.drop n
  | 0, _ => rfl
  | n + 1, [] => rfl
  | n + 1, c :: cs => dropF_eq n cs

def takeK (n : Nat) : List DV → (List DV → Out) → Out :=
  Nat.rec (motive := fun _ => List DV → (List DV → Out) → Out) (fun _ k => k [])
    (fun _ ih cs k => List.rec (motive := fun _ => (List DV → (List DV → Out) → Out) → (List DV → Out) → Out) (fun _ _ => .no) (fun c cs _ ih k => ih cs fun r => k (c :: r)) cs ih k) n
theorem takeK_eq : ∀ (n : Nat) (cs : List DV) (k : List DV → Out), takeK n cs k = if n ≤ cs.length then k (cs.take n) else .no
  | 0, _, _ => by rw [if_pos (Nat.zero_le _)]; rfl
  | n + 1, [], k => by rw [if_neg (by simp)]; rfl
  | n + 1, c :: cs, k => by
    show takeK n cs (fun r => k (c :: r)) = _
    rw [takeK_eq n]; simp

def oneF : DV → Bool :=
  @DV.rec (fun _ => Bool) (fun _ => Unit)
    (fun _ _ => true)
    (fun _ => true)
    (fun _ => true)
    (fun _ _ _ _ _ _ => true)
    (fun _ _ _ _ _ => true)
    (fun _ _ => true)
    (true)
    (fun _ _ => true)
    (fun _ _ _ _ _ => true)
    (true)
    (fun _ => true)
    (true)
    (fun _ _ => false)
    (fun _ _ => false)
    (false)
    () (fun _ _ _ _ => ())
theorem oneF_eq (v : DV) : oneF v = v.one := by cases v <;> rfl

def oneVK : DV → (DV → Out) → Out :=
  @DV.rec (fun _ => (DV → Out) → Out) (fun _ => Unit)
    (fun kd n k => k (.int kd n))
    (fun b k => k (.bool b))
    (fun s k => k (.str s))
    (fun b off len cap ex sz k => k (.sl b off len cap ex sz))
    (fun z sz n cs _ k => k (.dsl z sz n cs))
    (fun b off k => k (.ptr b off))
    (fun k => k .nilp)
    (fun cs _ k => k (.dptr cs))
    (fun fid fst caps _ _ k => k (.fn fid fst caps))
    (fun k => k .nilf)
    (fun b k => k (.mp b))
    (fun k => k .nilm)
    (fun _ _ _ => .no)
    (fun _ _ _ => .no)
    (fun _ => .no)
    () (fun _ _ _ _ => ())
theorem oneVK_eq (v : DV) (k : DV → Out) : oneVK v k = if v.one = true then k v else .no := by cases v <;> rfl

def elimO {α : Type} (o : Option α) (k : α → Out) : Out := Option.rec (motive := fun _ => Out) .no k o

inductive Sz where
  | one
  | many (n : Nat)
  | bad

def szOf (P : Program) (T : TypeId) : Sz :=
  match isAggB P T, sizeB P T with
  | some true, some k => .many k
  | some false, some _ => .one
  | _, _ => .bad

def tvOne (cs : List DV) (k : DV → Out) : Out := List.rec (motive := fun _ => (DV → Out) → Out) (fun _ => .no) (fun c _ _ k => oneVK c k) cs k
def tvMany (n : Nat) (cs : List DV) (k : DV → Out) : Out := takeK n cs fun cs => k (.agg cs)
def tvK (s : Sz) : List DV → (DV → Out) → Out := Sz.rec (motive := fun _ => List DV → (DV → Out) → Out) tvOne tvMany (fun _ _ => .no) s

theorem tvK_eq (P : Program) (T : TypeId) (cs : List DV) (k : DV → Out) : tvK (szOf P T) cs k = elimO (takeVar P T cs) k := by
  unfold takeVar szOf
  cases isAggB P T with
  | none => rfl
  | some b => cases sizeB P T with
    | none => cases b <;> rfl
    | some n => cases b with
      | true =>
        show takeK n cs (fun cs => k (.agg cs)) = _
        simp only [takeK_eq]; split <;> rfl
      | false => cases cs with
        | nil => rfl
        | cons c cs =>
          show oneVK c k = _
          simp only [oneVK_eq]; split <;> rfl

def ldObj (o : DO) : Nat → Sz → (DV → Out) → Out :=
  DO.rec (motive := fun _ => Nat → Sz → (DV → Out) → Out) (fun cs _ _ off s k => tvK s (dropF off cs) k) (fun _ _ _ _ _ => .no) (fun _ _ _ _ _ _ _ => .no) (fun _ _ _ => .no) o
def ldRow (o : Option DO) : Nat → Sz → (DV → Out) → Out :=
  Option.rec (motive := fun _ => Nat → Sz → (DV → Out) → Out) (fun _ _ _ => .no) ldObj o
def ldK : DV → DH → Sz → (DV → Out) → Out :=
  @DV.rec (fun _ => DH → Sz → (DV → Out) → Out) (fun _ => Unit)
    (fun _ _ _ _ _ => .no)
    (fun _ _ _ _ => .no)
    (fun _ _ _ _ => .no)
    (fun _ _ _ _ _ _ _ _ _ => .no)
    (fun _ _ _ _ _ _ _ _ => .no)
    (fun b off m s k => ldRow (getO (wayX b) m.h) off s k)
    (fun _ _ _ => .no)
    (fun cs _ _ s k => tvK s cs k)
    (fun _ _ _ _ _ _ _ _ => .no)
    (fun _ _ _ => .no)
    (fun _ _ _ _ => .no)
    (fun _ _ _ => .no)
    (fun _ _ _ _ _ => .no)
    (fun _ _ _ _ _ => .no)
    (fun _ _ _ => .no)
    () (fun _ _ _ _ => ())
theorem ldK_eq (P : Program) (T : TypeId) (a : DV) (m : DH) (k : DV → Out) : ldK a m (szOf P T) k = elimO (loadD P T a m) k := by
  cases a with
  | ptr b off =>
    show ldRow (getO (wayX b) m.h) off (szOf P T) k = _
    rw [getOX_eq, loadD]
    cases m.h.get b with
    | none => rfl
    | some o =>
      cases o with
      | cells cs e' ro =>
        show tvK (szOf P T) (dropF off cs) k = _
        rw [tvK_eq, dropF_eq]
      | _ => rfl
  | dptr cs => exact tvK_eq _ _ _ _
  | _ => rfl

/-! ### Numbers -/
def eqI (x y : Int) : Bool :=
  Int.rec (motive := fun _ => Int → Bool) (fun a y => Int.rec (motive := fun _ => Nat → Bool) (fun b a => Nat.beq a b) (fun _ _ => false) y a) (fun a y => Int.rec (motive := fun _ => Nat → Bool) (fun _ _ => false) (fun b a => Nat.beq a b) y a) x y
def ltI (x y : Int) : Bool :=
  Int.rec (motive := fun _ => Int → Bool) (fun a y => Int.rec (motive := fun _ => Nat → Bool) (fun b a => Nat.ble (Nat.succ a) b) (fun _ _ => false) y a) (fun a y => Int.rec (motive := fun _ => Nat → Bool) (fun _ _ => true) (fun b a => Nat.ble (Nat.succ b) a) y a) x y
def leI (x y : Int) : Bool :=
  Int.rec (motive := fun _ => Int → Bool) (fun a y => Int.rec (motive := fun _ => Nat → Bool) (fun b a => Nat.ble a b) (fun _ _ => false) y a) (fun a y => Int.rec (motive := fun _ => Nat → Bool) (fun _ _ => true) (fun b a => Nat.ble b a) y a) x y
def notB (b : Bool) : Bool := Bool.rec (motive := fun _ => Bool) true false b

theorem nat_beq (a b : Nat) : Nat.beq a b = (a == b) := by rw [Bool.eq_iff_iff, beq_iff_eq, Nat.beq_eq]
theorem eqI_eq (x y : Int) : eqI x y = (x == y) := by
  rw [Bool.eq_iff_iff]
  cases x <;> cases y <;> simp [eqI, nat_beq] <;> omega
theorem ltI_eq (x y : Int) : ltI x y = decide (x < y) := by
  rw [Bool.eq_iff_iff, decide_eq_true_iff]
  cases x <;> cases y <;> simp [ltI, Nat.ble_eq] <;> omega
theorem leI_eq (x y : Int) : leI x y = decide (x ≤ y) := by
  rw [Bool.eq_iff_iff, decide_eq_true_iff]
  cases x <;> cases y <;> simp [leI, Nat.ble_eq] <;> omega
theorem notB_eq (b : Bool) : notB b = !b := by cases b <;> rfl

def kdN (k : IntKind) : Nat := IntKind.rec (motive := fun _ => Nat) 0 1 2 3 4 5 6 7 k
def kdEq (k k' : IntKind) : Bool := Nat.beq (kdN k) (kdN k')
theorem kdEq_eq (k k' : IntKind) : kdEq k k' = decide (k = k') := by cases k <;> cases k' <;> rfl

def topK (k : IntKind) : Nat := IntKind.rec (motive := fun _ => Nat) 128 32768 2147483648 9223372036854775808 256 65536 4294967296 18446744073709551616 k

def wrapF (k : IntKind) (n : Int) : Int :=
  Int.rec (motive := fun _ => IntKind → Int) (fun a k => iteI (Nat.ble (Nat.succ a) (topK k)) (.ofNat a) (wrapD k (.ofNat a))) (fun a k => wrapD k (.negSucc a)) n k
theorem wrapF_eq (k : IntKind) (n : Int) : wrapF k n = wrapD k n := by
  cases n with
  | ofNat a =>
    show iteI (Nat.ble (Nat.succ a) (topK k)) (.ofNat a) (wrapD k (.ofNat a)) = _
    rw [iteI_eq]
    split
    · rename_i h
      unfold wrapD
      have : fitsK k (.ofNat a) = true := by cases k <;> exact h
      rw [this]
    · rfl
  | negSucc a => rfl

def addI (x y : Int) : Int :=
  Int.rec (motive := fun _ => Int → Int) (fun a y => Int.rec (motive := fun _ => Nat → Int) (fun b a => .ofNat (Nat.add a b)) (fun b a => Int.add (.ofNat a) (.negSucc b)) y a) (fun a y => Int.add (.negSucc a) y) x y
def subI (x y : Int) : Int :=
  Int.rec (motive := fun _ => Int → Int) (fun a y => Int.rec (motive := fun _ => Nat → Int) (fun b a => iteI (Nat.ble b a) (.ofNat (Nat.sub a b)) (Int.sub (.ofNat a) (.ofNat b))) (fun b a => Int.sub (.ofNat a) (.negSucc b)) y a) (fun a y => Int.sub (.negSucc a) y) x y
theorem addI_eq (x y : Int) : addI x y = x + y := by cases x <;> cases y <;> rfl
theorem subI_eq (x y : Int) : subI x y = x - y := by
  cases x with
  | ofNat a => cases y with
    | ofNat b =>
      show iteI (Nat.ble b a) (.ofNat (Nat.sub a b)) (Int.sub (.ofNat a) (.ofNat b)) = _
      rw [iteI_eq]
      split
      · rename_i h
        rw [Nat.ble_eq] at h
        show ((a - b : Nat) : Int) = (a : Int) - (b : Int)
        omega
      · rfl
    | negSucc b => rfl
  | negSucc a => rfl

inductive Box (α : Type) where
  | mk (x : α)

abbrev IntFn := IntKind → Int → Int → (DV → Out) → Out

def intOpK (op : BinOp) : IntFn :=
  match op with
  | .add => fun kd x y k => nowI (wrapF kd (addI x y)) fun n => k (.int kd n)
  | .sub => fun kd x y k => nowI (wrapF kd (subI x y)) fun n => k (.int kd n)
  | .eql => fun _ x y k => nowB (eqI x y) fun b => k (.bool b)
  | .neq => fun _ x y k => nowB (notB (eqI x y)) fun b => k (.bool b)
  | .lss => fun _ x y k => nowB (ltI x y) fun b => k (.bool b)
  | .leq => fun _ x y k => nowB (leI x y) fun b => k (.bool b)
  | .gtr => fun _ x y k => nowB (ltI y x) fun b => k (.bool b)
  | .geq => fun _ x y k => nowB (leI y x) fun b => k (.bool b)
  | op => fun kd x y k => elimO (intOpD op kd x y) fun v => nowV v k
theorem intOpK_eq (op : BinOp) (kd : IntKind) (x y : Int) (k : DV → Out) : intOpK op kd x y k = elimO (intOpD op kd x y) k := by
  cases op <;> simp only [intOpK, intOpD, nowI_eq, nowB_eq, nowV_eq, wrapF_eq, addI_eq, subI_eq, eqI_eq, ltI_eq, leI_eq, notB_eq] <;> rfl

def eqB (xs : List UInt8) : List UInt8 → Bool :=
  List.rec (motive := fun _ => List UInt8 → Bool) (fun ys => List.rec (motive := fun _ => Bool) true (fun _ _ _ => false) ys)
    (fun x _ ih ys => List.rec (motive := fun _ => Bool) false (fun y ys _ => iteB (Nat.beq x.toNat y.toNat) (ih ys) false) ys) xs
theorem eqB_eq : ∀ (xs ys : List UInt8), eqB xs ys = (xs == ys)
  | [], [] => rfl
  | [], _ :: _ => rfl
  | _ :: _, [] => rfl
  | x :: xs, y :: ys => by
    show iteB (Nat.beq x.toNat y.toNat) (eqB xs ys) false = _
    rw [iteB_eq, eqB_eq xs ys, List.cons_beq_cons, nat_beq]
    by_cases h : x = y
    · subst h; simp
    · have : x.toNat ≠ y.toNat := fun e => h (UInt8.toNat_inj.mp e)
      simp [h, this]

def strOpK (op : BinOp) : ByteArray → ByteArray → (DV → Out) → Out :=
  match op with
  | .eql => fun x y k => nowB (eqB x.data.toList y.data.toList) fun b => k (.bool b)
  | .neq => fun x y k => nowB (notB (eqB x.data.toList y.data.toList)) fun b => k (.bool b)
  | op => fun x y k => elimO (strOpD op x y) k
theorem strOpK_eq (op : BinOp) (x y : ByteArray) (k : DV → Out) : strOpK op x y k = elimO (strOpD op x y) k := by
  cases op <;> simp only [strOpK, strOpD, nowB_eq, eqB_eq, notB_eq] <;> rfl

abbrev StrFn := ByteArray → ByteArray → (DV → Out) → Out
abbrev AnyFn := DV → DV → (DV → Out) → Out

def binI : DV → IntKind → Int → IntFn → AnyFn → (DV → Out) → Out :=
  @DV.rec (fun _ => IntKind → Int → IntFn → AnyFn → (DV → Out) → Out) (fun _ => Unit)
    (fun kd n kd0 a f _ k => iteO (kdEq kd0 kd) (f kd0 a n k) .no)
    (fun b kd0 a _ g k => g (.int kd0 a) (.bool b) k)
    (fun s kd0 a _ g k => g (.int kd0 a) (.str s) k)
    (fun b off len cap ex sz kd0 a _ g k => g (.int kd0 a) (.sl b off len cap ex sz) k)
    (fun z sz n cs _ kd0 a _ g k => g (.int kd0 a) (.dsl z sz n cs) k)
    (fun b off kd0 a _ g k => g (.int kd0 a) (.ptr b off) k)
    (fun kd0 a _ g k => g (.int kd0 a) .nilp k)
    (fun cs _ kd0 a _ g k => g (.int kd0 a) (.dptr cs) k)
    (fun fid fst caps _ _ kd0 a _ g k => g (.int kd0 a) (.fn fid fst caps) k)
    (fun kd0 a _ g k => g (.int kd0 a) .nilf k)
    (fun b kd0 a _ g k => g (.int kd0 a) (.mp b) k)
    (fun kd0 a _ g k => g (.int kd0 a) .nilm k)
    (fun cs _ kd0 a _ g k => g (.int kd0 a) (.agg cs) k)
    (fun vs _ kd0 a _ g k => g (.int kd0 a) (.tup vs) k)
    (fun kd0 a _ g k => g (.int kd0 a) .junk k)
    () (fun _ _ _ _ => ())
def binS : DV → ByteArray → StrFn → AnyFn → (DV → Out) → Out :=
  @DV.rec (fun _ => ByteArray → StrFn → AnyFn → (DV → Out) → Out) (fun _ => Unit)
    (fun kd n a _ g k => g (.str a) (.int kd n) k)
    (fun b a _ g k => g (.str a) (.bool b) k)
    (fun s a h _ k => h a s k)
    (fun b off len cap ex sz a _ g k => g (.str a) (.sl b off len cap ex sz) k)
    (fun z sz n cs _ a _ g k => g (.str a) (.dsl z sz n cs) k)
    (fun b off a _ g k => g (.str a) (.ptr b off) k)
    (fun a _ g k => g (.str a) .nilp k)
    (fun cs _ a _ g k => g (.str a) (.dptr cs) k)
    (fun fid fst caps _ _ a _ g k => g (.str a) (.fn fid fst caps) k)
    (fun a _ g k => g (.str a) .nilf k)
    (fun b a _ g k => g (.str a) (.mp b) k)
    (fun a _ g k => g (.str a) .nilm k)
    (fun cs _ a _ g k => g (.str a) (.agg cs) k)
    (fun vs _ a _ g k => g (.str a) (.tup vs) k)
    (fun a _ g k => g (.str a) .junk k)
    () (fun _ _ _ _ => ())
def binGo : DV → DV → IntFn → StrFn → AnyFn → (DV → Out) → Out :=
  @DV.rec (fun _ => DV → IntFn → StrFn → AnyFn → (DV → Out) → Out) (fun _ => Unit)
    (fun kd n y f _ g k => binI y kd n f g k)
    (fun b y _ _ g k => g (.bool b) y k)
    (fun s y _ h g k => binS y s h g k)
    (fun b off len cap ex sz y _ _ g k => g (.sl b off len cap ex sz) y k)
    (fun z sz n cs _ y _ _ g k => g (.dsl z sz n cs) y k)
    (fun b off y _ _ g k => g (.ptr b off) y k)
    (fun y _ _ g k => g .nilp y k)
    (fun cs _ y _ _ g k => g (.dptr cs) y k)
    (fun fid fst caps _ _ y _ _ g k => g (.fn fid fst caps) y k)
    (fun y _ _ g k => g .nilf y k)
    (fun b y _ _ g k => g (.mp b) y k)
    (fun y _ _ g k => g .nilm y k)
    (fun cs _ y _ _ g k => g (.agg cs) y k)
    (fun vs _ y _ _ g k => g (.tup vs) y k)
    (fun y _ _ g k => g .junk y k)
    () (fun _ _ _ _ => ())

def binX (P : Program) (op : BinOp) (T : TypeId) : Box AnyFn :=
  match op with
  | .shl => ⟨fun x y k => elimO (binOpD P .shl T x y) fun v => nowV v k⟩
  | .shr => ⟨fun x y k => elimO (binOpD P .shr T x y) fun v => nowV v k⟩
  | op => ⟨fun x y k => binGo x y (intOpK op) (strOpK op) (fun x y k => elimO (binOpD P op T x y) fun v => nowV v k) k⟩
theorem binX_eq (P : Program) (op : BinOp) (T : TypeId) : binX P op T = ⟨fun x y k => elimO (binOpD P op T x y) k⟩ := by
  have go : (∀ kd a kd' b, binOpD P op T (.int kd a) (.int kd' b) = if kd = kd' then intOpD op kd a b else none) → ∀ x y k, binGo x y (intOpK op) (strOpK op) (fun x y k => elimO (binOpD P op T x y) fun v => nowV v k) k = elimO (binOpD P op T x y) k := by
    intro hk x y k
    have hg : ∀ x y, elimO (binOpD P op T x y) (fun v => nowV v k) = elimO (binOpD P op T x y) k := fun x y => by simp only [nowV_eq]
    cases x with
    | int kd a =>
      cases y with
      | int kd' b =>
        show iteO (kdEq kd kd') (intOpK op kd a b k) .no = _
        rw [iteO_eq, kdEq_eq, intOpK_eq, hk]
        by_cases h : kd = kd'
        · simp [h]
        · simp [h]; rfl
      | _ => exact hg _ _
    | str a =>
      cases y with
      | str b =>
        show strOpK op a b k = _
        rw [strOpK_eq]; rfl
      | _ => exact hg _ _
    | _ => exact hg _ _
  cases op with
  | shl | shr => simp only [binX, nowV_eq]
  | _ => exact congrArg Box.mk (funext fun x => funext fun y => funext fun k => go (fun _ _ _ _ => rfl) x y k)

/-! ### Rows -/
def replK (vs : List DV) : List DV → (List DV → Out) → Out :=
  List.rec (motive := fun _ => List DV → (List DV → Out) → Out) (fun cs k => k cs)
    (fun v _ ih cs k => List.rec (motive := fun _ => DV → (List DV → (List DV → Out) → Out) → (List DV → Out) → Out) (fun _ _ _ => .no) (fun _ cs _ v ih k => iteO (oneF v) (ih cs fun r => k (v :: r)) .no) cs v ih k) vs
def setAtK (vs : List DV) (n : Nat) : List DV → (List DV → Out) → Out :=
  Nat.rec (motive := fun _ => List DV → (List DV → Out) → Out) (fun cs k => replK vs cs k)
    (fun _ ih cs k => List.rec (motive := fun _ => (List DV → (List DV → Out) → Out) → (List DV → Out) → Out) (fun _ _ => .no) (fun c cs _ ih k => ih cs fun r => k (c :: r)) cs ih k) n
theorem setAt_cons (c : DV) : ∀ (vs cs : List DV) (n : Nat), setAt (c :: cs) (n + 1) vs = c :: setAt cs n vs
  | [], _, _ => rfl
  | v :: vs, cs, n => by simp only [setAt, List.set_cons_succ, setAt_cons c vs]
theorem replK_eq : ∀ (vs cs : List DV) (k : List DV → Out), replK vs cs k = if vs.length ≤ cs.length ∧ allOne vs = true then k (setAt cs 0 vs) else .no
  | [], cs, k => by rw [if_pos ⟨Nat.zero_le _, rfl⟩]; rfl
  | v :: vs, [], k => by rw [if_neg (by simp)]; rfl
  | v :: vs, c :: cs, k => by
    show iteO (oneF v) (replK vs cs fun r => k (v :: r)) .no = _
    rw [iteO_eq, oneF_eq, replK_eq vs cs]
    simp only [setAt, List.set_cons_zero, setAt_cons, allOne, List.all_cons, List.length_cons]
    by_cases h : v.one = true
    · simp [h]
    · simp [h]
theorem setAtK_eq (vs : List DV) : ∀ (n : Nat) (cs : List DV) (k : List DV → Out), setAtK vs n cs k = if (n = 0 ∨ n ≤ cs.length) ∧ n + vs.length ≤ cs.length ∧ allOne vs = true then k (setAt cs n vs) else .no
  | 0, cs, k => by
    show replK vs cs k = _
    rw [replK_eq]; simp
  | n + 1, [], k => by rw [if_neg (by simp)]; rfl
  | n + 1, c :: cs, k => by
    show setAtK vs n cs (fun r => k (c :: r)) = _
    rw [setAtK_eq vs n cs]
    have h1 : ((n = 0 ∨ n ≤ cs.length) ∧ n + vs.length ≤ cs.length ∧ allOne vs = true) ↔ ((n + 1 = 0 ∨ n + 1 ≤ (c :: cs).length) ∧ n + 1 + vs.length ≤ (c :: cs).length ∧ allOne vs = true) := by
      simp only [List.length_cons]
      constructor
      · rintro ⟨h1, h2, h3⟩; exact ⟨by omega, by omega, h3⟩
      · rintro ⟨h1, h2, h3⟩; exact ⟨by omega, by omega, h3⟩
    simp only [h1, setAt_cons]

def lenF (cs : List DV) : Nat := List.rec (motive := fun _ => Nat) Nat.zero (fun _ _ ih => Nat.succ ih) cs
theorem lenF_eq : ∀ cs : List DV, lenF cs = cs.length
  | [] => rfl
  | c :: cs => congrArg Nat.succ (lenF_eq cs)

def cellsF : DV → List DV :=
  @DV.rec (fun _ => List DV) (fun _ => Unit)
    (fun kd n => [(.int kd n)])
    (fun b => [(.bool b)])
    (fun s => [(.str s)])
    (fun b off len cap ex sz => [(.sl b off len cap ex sz)])
    (fun z sz n cs _ => [(.dsl z sz n cs)])
    (fun b off => [(.ptr b off)])
    ([.nilp])
    (fun cs _ => [(.dptr cs)])
    (fun fid fst caps _ _ => [(.fn fid fst caps)])
    ([.nilf])
    (fun b => [(.mp b)])
    ([.nilm])
    (fun cs _ => cs)
    (fun vs _ => [(.tup vs)])
    ([.junk])
    () (fun _ _ _ _ => ())
theorem cellsF_eq (v : DV) : cellsF v = v.cells := by cases v <;> rfl

def stCells (cs : List DV) (E : TypeId) (ro : Bool) : Nat → Nat → Option Nat → DV → DH → (DH → Out) → Out :=
  Bool.rec (motive := fun _ => Nat → Nat → Option Nat → DV → DH → (DH → Out) → Out)
    (fun b off sz v m k => elimO sz fun sz => iteO (Nat.beq sz (lenF (cellsF v))) (setAtK (cellsF v) off cs fun cs => DH.rec (motive := fun _ => Out) (fun h n low => setO (wayX b) (.cells cs E false) h fun h => nowW (addW b low) fun low => k ⟨h, n, low⟩) m) .no)
    (fun _ _ _ _ _ _ => .no) ro
def stObj (o : DO) : Nat → Nat → Option Nat → DV → DH → (DH → Out) → Out :=
  DO.rec (motive := fun _ => Nat → Nat → Option Nat → DV → DH → (DH → Out) → Out) stCells (fun _ _ _ _ _ _ _ _ => .no) (fun _ _ _ _ _ _ _ _ _ _ => .no) (fun _ _ _ _ _ _ => .no) o
def stRow (o : Option DO) : Nat → Nat → Option Nat → DV → DH → (DH → Out) → Out :=
  Option.rec (motive := fun _ => Nat → Nat → Option Nat → DV → DH → (DH → Out) → Out) (fun _ _ _ _ _ _ => .no) stObj o
def storeK : DV → Option Nat → DV → DH → (DH → Out) → Out :=
  @DV.rec (fun _ => Option Nat → DV → DH → (DH → Out) → Out) (fun _ => Unit)
    (fun _ _ _ _ _ _ => .no)
    (fun _ _ _ _ _ => .no)
    (fun _ _ _ _ _ => .no)
    (fun _ _ _ _ _ _ _ _ _ _ => .no)
    (fun _ _ _ _ _ _ _ _ _ => .no)
    (fun b off sz v m k => stRow (getO (wayX b) m.h) b off sz v m k)
    (fun _ _ _ _ => .no)
    (fun _ _ _ _ _ _ => .no)
    (fun _ _ _ _ _ _ _ _ _ => .no)
    (fun _ _ _ _ => .no)
    (fun _ _ _ _ _ => .no)
    (fun _ _ _ _ => .no)
    (fun _ _ _ _ _ _ => .no)
    (fun _ _ _ _ _ _ => .no)
    (fun _ _ _ _ => .no)
    () (fun _ _ _ _ => ())
theorem storeK_eq (P : Program) (T : TypeId) (a v : DV) (m : DH) (k : DH → Out) : storeK a (sizeB P T) v m k = elimO (storeD P T a v m) k := by
  cases a with
  | ptr b off =>
    show stRow (getO (wayX b) m.h) b off (sizeB P T) v m k = _
    rw [getOX_eq, storeD]
    cases m with
    | mk h n low =>
      cases h.get b with
      | none => rfl
      | some o =>
        cases o with
        | cells cs E ro =>
          cases ro with
          | true => rfl
          | false =>
            show (elimO (sizeB P T) fun sz => iteO (Nat.beq sz (lenF (cellsF v))) (setAtK (cellsF v) off cs fun cs => setO (wayX b) (.cells cs E false) h fun h => nowW (addW b low) fun low => k ⟨h, n, low⟩) .no) = _
            simp only
            cases hs : sizeB P T with
            | none => simp; rfl
            | some sz =>
              simp only [elimO, iteO_eq, nat_beq, lenF_eq, cellsF_eq, setAtK_eq, setOX_eq, nowW_eq, Option.some.injEq, beq_iff_eq]
              by_cases h1 : sz = v.cells.length
              · by_cases h2 : off + v.cells.length ≤ cs.length ∧ allOne v.cells = true
                · rw [if_pos h1, if_pos ⟨by omega, h2⟩, if_pos ⟨h1, h2⟩]
                · rw [if_pos h1, if_neg (fun h => h2 h.2), if_neg (fun h => h2 h.2)]
              · rw [if_neg h1, if_neg (fun h => h1 h.1)]
        | _ => rfl
  | _ => rfl

end
end Go.Det
