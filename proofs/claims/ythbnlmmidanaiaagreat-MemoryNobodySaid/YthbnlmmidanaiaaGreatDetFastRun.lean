/-
  The quick machine's operations: opK_eq says that they do what the machine's do.
-/
import Derived.Test.YthbnlmmidanaiaaGreatDetFast
set_option linter.unusedVariables false
set_option linter.unusedSimpArgs false
set_option linter.unusedSectionVars false
namespace Go.Det
noncomputable section

def outE (o : OR) (k : DV → DH → Out) : Out := elimO o fun p => Prod.rec (motive := fun _ => Out) (fun v m => k v m) p

theorem outE_okV (m : DH) (o : Option DV) (k : DV → DH → Out) : outE (okV m o) k = elimO o fun v => k v m := by
  cases o <;> rfl
theorem outE_okM (o : Option DH) (k : DV → DH → Out) : outE (okM o) k = elimO o fun m => k undefD m := by
  cases o <;> rfl

def slowK (o : OR) (k : DV → DH → Out) : Out := outE o fun v m => nowV v fun v => nowM m fun m => k v m
theorem slowK_eq (o : OR) (k : DV → DH → Out) : slowK o k = outE o k := by
  unfold slowK; simp only [nowV_eq, nowM_eq]

def nowLh (cs : List DV) (k : List DV → Out) : Out := List.rec (motive := fun _ => (List DV → Out) → Out) (fun k => k []) (fun c cs _ k => k (c :: cs)) cs k
theorem nowLh_eq (cs : List DV) (k : List DV → Out) : nowLh cs k = k cs := by cases cs <;> rfl

/-- A new row. -/
def newK (v : Nat → DV) (d : DO) (m : DH) (k : DV → DH → Out) : Out :=
  DH.rec (motive := fun _ => (Nat → DV) → DO → (DV → DH → Out) → Out) (fun h n low v d k => setO (wayX n) d h fun h => nowN (Nat.succ n) fun n' => k (v n) ⟨h, n', low⟩) m v d k
theorem newK_eq (v : Nat → DV) (d : DO) (m : DH) (k : DV → DH → Out) : newK v d m k = k (v m.n) { m with h := m.h.set m.n d, n := m.n + 1 } := by
  cases m with
  | mk h n low => simp only [newK, setOX_eq, nowN_eq]

def allF (cs : List DV) : Bool := List.rec (motive := fun _ => Bool) true (fun c _ ih => iteB (oneF c) ih false) cs
theorem allF_eq : ∀ cs : List DV, allF cs = allOne cs
  | [] => rfl
  | c :: cs => by
    show iteB (oneF c) (allF cs) false = _
    rw [iteB_eq, allF_eq cs, oneF_eq]
    simp only [allOne, List.all_cons]
    cases c.one <;> rfl

def ptrAt (n : Nat) : DV := .ptr n Nat.zero

def allocK (e : TypeId) (z : DV) (m : DH) (k : DV → DH → Out) : Out := nowL (cellsF z) fun cs => newK ptrAt (.cells cs e false) m k
def allocX (P : Program) (e : TypeId) : Box (DH → (DV → DH → Out) → Out) :=
  match zeroOf P e with
  | some z => ⟨fun m k => allocK e z m k⟩
  | none => ⟨fun _ _ => .no⟩
theorem allocX_eq (P : Program) (e : TypeId) : allocX P e = ⟨fun m k => outE (allocD P e m) k⟩ := by
  unfold allocX allocD
  cases zeroOf P e with
  | none => rfl
  | some z => simp only [allocK, nowL_eq, newK_eq, cellsF_eq]; rfl

def boxK (e : TypeId) (v : DV) (m : DH) (k : DV → DH → Out) : Out :=
  nowL (cellsF v) fun cs => iteO (allF cs) (newK ptrAt (.cells cs e false) m k) .no
theorem boxK_eq (e : TypeId) (v : DV) (m : DH) (k : DV → DH → Out) : boxK e v m k = outE (boxD e v m) k := by
  unfold boxK boxD
  simp only [nowL_eq, newK_eq, cellsF_eq, iteO_eq, allF_eq]
  cases allOne v.cells <;> rfl

def pickK : DV → DV → DV → DH → (DV → DH → Out) → Out :=
  @DV.rec (fun _ => DV → DV → DH → (DV → DH → Out) → Out) (fun _ => Unit)
    (fun _ _ _ _ _ _ => .no)
    (fun b x y m k => iteO b (nowH x fun v => k v m) (nowH y fun v => k v m))
    (fun _ _ _ _ _ => .no)
    (fun _ _ _ _ _ _ _ _ _ _ => .no)
    (fun _ _ _ _ _ _ _ _ _ => .no)
    (fun _ _ _ _ _ _ => .no)
    (fun _ _ _ _ => .no)
    (fun _ _ _ _ _ _ => .no)
    (fun _ _ _ _ _ _ _ _ _ => .no)
    (fun _ _ _ _ => .no)
    (fun _ _ _ _ _ => .no)
    (fun _ _ _ _ => .no)
    (fun _ _ _ _ _ _ => .no)
    (fun _ _ _ _ _ _ => .no)
    (fun _ _ _ _ => .no)
    () (fun _ _ _ _ => ())
theorem pickK_eq (c a b : DV) (m : DH) (k : DV → DH → Out) : pickK c a b m k = outE (pickD c a b m) k := by
  cases c with
  | bool c => cases c <;> simp only [pickK, iteO, nowH_eq] <;> rfl
  | _ => rfl

def nilK : DV → DH → (DV → DH → Out) → Out :=
  @DV.rec (fun _ => DH → (DV → DH → Out) → Out) (fun _ => Unit)
    (fun kd n m k => slowK (nilCheckD (.int kd n) m) k)
    (fun b m k => slowK (nilCheckD (.bool b) m) k)
    (fun s m k => slowK (nilCheckD (.str s) m) k)
    (fun b off len cap ex sz m k => slowK (nilCheckD (.sl b off len cap ex sz) m) k)
    (fun z sz n cs _ m k => slowK (nilCheckD (.dsl z sz n cs) m) k)
    (fun b off m k => k (.ptr b off) m)
    (fun m k => slowK (nilCheckD .nilp m) k)
    (fun cs _ m k => k (.dptr cs) m)
    (fun fid fst caps _ _ m k => k (.fn fid fst caps) m)
    (fun m k => slowK (nilCheckD .nilf m) k)
    (fun b m k => k (.mp b) m)
    (fun m k => slowK (nilCheckD .nilm m) k)
    (fun cs _ m k => slowK (nilCheckD (.agg cs) m) k)
    (fun vs _ m k => slowK (nilCheckD (.tup vs) m) k)
    (fun m k => slowK (nilCheckD .junk m) k)
    () (fun _ _ _ _ => ())
theorem nilK_eq (v : DV) (m : DH) (k : DV → DH → Out) : nilK v m k = outE (nilCheckD v m) k := by
  cases v <;> simp only [nilK, slowK_eq] <;> rfl

def fdK : DV → Nat → Sz → DH → (DV → DH → Out) → Out :=
  @DV.rec (fun _ => Nat → Sz → DH → (DV → DH → Out) → Out) (fun _ => Unit)
    (fun _ _ _ _ _ _ => .no)
    (fun _ _ _ _ _ => .no)
    (fun _ _ _ _ _ => .no)
    (fun _ _ _ _ _ _ _ _ _ _ => .no)
    (fun _ _ _ _ _ _ _ _ _ => .no)
    (fun _ _ _ _ _ _ => .no)
    (fun _ _ _ _ => .no)
    (fun _ _ _ _ _ _ => .no)
    (fun _ _ _ _ _ _ _ _ _ => .no)
    (fun _ _ _ _ => .no)
    (fun _ _ _ _ _ => .no)
    (fun _ _ _ _ => .no)
    (fun cs _ o s m k => tvK s (dropF o cs) fun v => k v m)
    (fun _ _ _ _ _ _ => .no)
    (fun _ _ _ _ => .no)
    () (fun _ _ _ _ => ())
def fieldX (P : Program) (T : TypeId) (f : Nat) : Box (DV → DH → (DV → DH → Out) → Out) :=
  match fieldOf P T f with
  | some fd => ⟨fun x m k => fdK x fd.offset (szOf P fd.type) m k⟩
  | none => ⟨fun _ _ _ => .no⟩
theorem fieldX_eq (P : Program) (T : TypeId) (f : Nat) : fieldX P T f = ⟨fun x m k => outE (fieldD P T x f m) k⟩ := by
  unfold fieldX fieldD
  cases fieldOf P T f with
  | none => rfl
  | some fd =>
    refine congrArg Box.mk (funext fun x => funext fun m => funext fun k => ?_)
    cases x with
    | agg cs =>
      show tvK (szOf P fd.type) (dropF fd.offset cs) (fun v => k v m) = _
      rw [tvK_eq, dropF_eq, outE_okV]
    | _ => rfl

def offOf (P : Program) (T : TypeId) (f : Nat) : Option Nat :=
  match fieldOf P T f with
  | some fd => match sizeB P fd.type with
    | some (_ + 1) => some fd.offset
    | _ => none
  | none => none

def faK : DV → Nat → DH → (DV → DH → Out) → Out :=
  @DV.rec (fun _ => Nat → DH → (DV → DH → Out) → Out) (fun _ => Unit)
    (fun _ _ _ _ _ => .no)
    (fun _ _ _ _ => .no)
    (fun _ _ _ _ => .no)
    (fun _ _ _ _ _ _ _ _ _ => .no)
    (fun _ _ _ _ _ _ _ _ => .no)
    (fun b off o m k => nowN (Nat.add off o) fun off => k (.ptr b off) m)
    (fun _ _ _ => .no)
    (fun cs _ o m k => nowLh (dropF o cs) fun cs => k (.dptr cs) m)
    (fun _ _ _ _ _ _ _ _ => .no)
    (fun _ _ _ => .no)
    (fun _ _ _ _ => .no)
    (fun _ _ _ => .no)
    (fun _ _ _ _ _ => .no)
    (fun _ _ _ _ _ => .no)
    (fun _ _ _ => .no)
    () (fun _ _ _ _ => ())
def fieldAddrX (P : Program) (T : TypeId) (f : Nat) : Box (DV → DH → (DV → DH → Out) → Out) :=
  match offOf P T f with
  | some o => ⟨fun x m k => faK x o m k⟩
  | none => ⟨fun _ _ _ => .no⟩
theorem fieldAddrX_eq (P : Program) (T : TypeId) (f : Nat) : fieldAddrX P T f = ⟨fun x m k => outE (fieldAddrD P T x f m) k⟩ := by
  unfold fieldAddrX fieldAddrD offOf
  cases fieldOf P T f with
  | none => rfl
  | some fd =>
    simp only
    cases sizeB P fd.type with
    | none => rfl
    | some n => cases n with
      | zero => rfl
      | succ n =>
        refine congrArg Box.mk (funext fun x => funext fun m => funext fun k => ?_)
        cases x <;> simp only [faK, nowN_eq, nowLh_eq, dropF_eq] <;> rfl

inductive Ix where
  | sl (k : Nat)
  | arr (n k : Nat)
  | bad

def ixOf (P : Program) (T : TypeId) : Ix :=
  match P.underlying T with
  | some (.slice e) => match sizeB P e with
    | some k => .sl k
    | none => .bad
  | some (.array n e) => match sizeB P e with
    | some k => .arr n k
    | none => .bad
  | _ => .bad

def natI (i : Int) (k : Nat → Out) : Out := Int.rec (motive := fun _ => (Nat → Out) → Out) (fun a k => k a) (fun _ _ => .no) i k
def natK : DV → (Nat → Out) → Out :=
  @DV.rec (fun _ => (Nat → Out) → Out) (fun _ => Unit)
    (fun _ n k => natI n k)
    (fun _ _ => .no)
    (fun _ _ => .no)
    (fun _ _ _ _ _ _ _ => .no)
    (fun _ _ _ _ _ _ => .no)
    (fun _ _ _ => .no)
    (fun _ => .no)
    (fun _ _ _ => .no)
    (fun _ _ _ _ _ _ => .no)
    (fun _ => .no)
    (fun _ _ => .no)
    (fun _ => .no)
    (fun _ _ _ => .no)
    (fun _ _ _ => .no)
    (fun _ => .no)
    () (fun _ _ _ _ => ())
theorem natK_eq (v : DV) (k : Nat → Out) : natK v k = elimO (asNat v) k := by
  cases v with
  | int kd i =>
    cases i with
    | ofNat a =>
      have : (0 : Int) ≤ Int.ofNat a := Int.natCast_nonneg a
      simp only [asNat, if_pos this]; rfl
    | negSucc a =>
      have : ¬ (0 : Int) ≤ Int.negSucc a := by omega
      simp only [asNat, if_neg this]; rfl
  | _ => rfl

def iaSl : DV → Nat → Nat → DH → (DV → DH → Out) → Out :=
  @DV.rec (fun _ => Nat → Nat → DH → (DV → DH → Out) → Out) (fun _ => Unit)
    (fun _ _ _ _ _ _ => .no)
    (fun _ _ _ _ _ => .no)
    (fun _ _ _ _ _ => .no)
    (fun b off len _ _ sz sz0 i m k => iteO (Nat.ble (Nat.succ i) len) (iteO (Nat.beq sz sz0) (nowN (Nat.add off (Nat.mul i sz0)) fun o => k (.ptr b o) m) .no) .no)
    (fun _ sz n cs _ sz0 i m k => iteO (Nat.ble (Nat.succ i) n) (iteO (Nat.beq sz sz0) (nowLh (dropF (Nat.mul i sz0) cs) fun cs => k (.dptr cs) m) .no) .no)
    (fun _ _ _ _ _ _ => .no)
    (fun _ _ _ _ => .no)
    (fun _ _ _ _ _ _ => .no)
    (fun _ _ _ _ _ _ _ _ _ => .no)
    (fun _ _ _ _ => .no)
    (fun _ _ _ _ _ => .no)
    (fun _ _ _ _ => .no)
    (fun _ _ _ _ _ _ => .no)
    (fun _ _ _ _ _ _ => .no)
    (fun _ _ _ _ => .no)
    () (fun _ _ _ _ => ())
def iaArr : DV → Nat → Nat → Nat → DH → (DV → DH → Out) → Out :=
  @DV.rec (fun _ => Nat → Nat → Nat → DH → (DV → DH → Out) → Out) (fun _ => Unit)
    (fun _ _ _ _ _ _ _ => .no)
    (fun _ _ _ _ _ _ => .no)
    (fun _ _ _ _ _ _ => .no)
    (fun _ _ _ _ _ _ _ _ _ _ _ => .no)
    (fun _ _ _ _ _ _ _ _ _ _ => .no)
    (fun b off n0 sz0 i m k => iteO (Nat.ble (Nat.succ i) n0) (nowN (Nat.add off (Nat.mul i sz0)) fun o => k (.ptr b o) m) .no)
    (fun _ _ _ _ _ => .no)
    (fun cs _ n0 sz0 i m k => iteO (Nat.ble (Nat.succ i) n0) (nowLh (dropF (Nat.mul i sz0) cs) fun cs => k (.dptr cs) m) .no)
    (fun _ _ _ _ _ _ _ _ _ _ => .no)
    (fun _ _ _ _ _ => .no)
    (fun _ _ _ _ _ _ => .no)
    (fun _ _ _ _ _ => .no)
    (fun _ _ _ _ _ _ _ => .no)
    (fun _ _ _ _ _ _ _ => .no)
    (fun _ _ _ _ _ => .no)
    () (fun _ _ _ _ => ())
def indexAddrX (P : Program) (T : TypeId) : Box (DV → DV → DH → (DV → DH → Out) → Out) :=
  match ixOf P T with
  | .sl sz => ⟨fun x i m k => natK i fun i => iaSl x sz i m k⟩
  | .arr n sz => ⟨fun x i m k => natK i fun i => iaArr x n sz i m k⟩
  | .bad => ⟨fun _ _ _ _ => .no⟩
theorem indexAddrX_eq (P : Program) (T : TypeId) : indexAddrX P T = ⟨fun x i m k => outE (indexAddrD P T x i m) k⟩ := by
  have bad : (∀ x i m, indexAddrD P T x i m = none) → (⟨fun _ _ _ _ => .no⟩ : Box (DV → DV → DH → (DV → DH → Out) → Out)) = ⟨fun x i m k => outE (indexAddrD P T x i m) k⟩ := by
    intro h
    refine congrArg Box.mk (funext fun x => funext fun i => funext fun m => funext fun k => ?_)
    rw [h]; rfl
  unfold indexAddrX ixOf
  cases hu : P.underlying T with
  | none => exact bad fun x i m => by unfold indexAddrD; rw [hu]; cases asNat i <;> rfl
  | some d =>
    cases d with
    | slice e =>
      simp only
      cases hs : sizeB P e with
      | none => exact bad fun x i m => by unfold indexAddrD; rw [hu]; simp only [hs]; cases asNat i <;> rfl
      | some sz =>
        refine congrArg Box.mk (funext fun x => funext fun i => funext fun m => funext fun k => ?_)
        unfold indexAddrD
        rw [natK_eq, hu]
        simp only [hs]
        cases asNat i with
        | none => rfl
        | some i =>
          simp only [elimO]
          cases x with
          | sl b off len cap ex sz' =>
            simp only [iaSl, iteO_eq, nowN_eq]
            show (if Nat.blt i len = true then _ else _) = _
            cases Nat.blt i len <;> cases Nat.beq sz' sz <;> rfl
          | dsl z sz' n cs =>
            simp only [iaSl, iteO_eq, nowLh_eq, dropF_eq]
            show (if Nat.blt i n = true then _ else _) = _
            cases Nat.blt i n <;> cases Nat.beq sz' sz <;> rfl
          | _ => rfl
    | array n e =>
      simp only
      cases hs : sizeB P e with
      | none => exact bad fun x i m => by unfold indexAddrD; rw [hu]; simp only [hs]; cases asNat i <;> rfl
      | some sz =>
        refine congrArg Box.mk (funext fun x => funext fun i => funext fun m => funext fun k => ?_)
        unfold indexAddrD
        rw [natK_eq, hu]
        simp only [hs]
        cases asNat i with
        | none => rfl
        | some i =>
          simp only [elimO]
          cases x with
          | ptr b off =>
            simp only [iaArr, iteO_eq, nowN_eq]
            show (if Nat.blt i n = true then _ else _) = _
            cases Nat.blt i n <;> rfl
          | dptr cs =>
            simp only [iaArr, iteO_eq, nowLh_eq, dropF_eq]
            show (if Nat.blt i n = true then _ else _) = _
            cases Nat.blt i n <;> rfl
          | _ => cases Nat.blt i n <;> rfl
    | _ => exact bad fun x i m => by unfold indexAddrD; rw [hu]; cases asNat i <;> rfl

def nthK (n : Nat) (cs : List DV) (k : DV → Out) : Out := List.rec (motive := fun _ => (DV → Out) → Out) (fun _ => .no) (fun c _ _ k => k c) (dropF n cs) k
theorem nthK_eq : ∀ (n : Nat) (cs : List DV) (k : DV → Out), nthK n cs k = elimO cs[n]? k := by
  intro n cs k
  unfold nthK
  rw [dropF_eq]
  induction cs generalizing n with
  | nil => simp; rfl
  | cons c cs ih => cases n with
    | zero => rfl
    | succ n => simpa using ih n

def extractK : DV → Nat → DH → (DV → DH → Out) → Out :=
  @DV.rec (fun _ => Nat → DH → (DV → DH → Out) → Out) (fun _ => Unit)
    (fun _ _ _ _ _ => .no)
    (fun _ _ _ _ => .no)
    (fun _ _ _ _ => .no)
    (fun _ _ _ _ _ _ _ _ _ => .no)
    (fun _ _ _ _ _ _ _ _ => .no)
    (fun _ _ _ _ _ => .no)
    (fun _ _ _ => .no)
    (fun _ _ _ _ _ => .no)
    (fun _ _ _ _ _ _ _ _ => .no)
    (fun _ _ _ => .no)
    (fun _ _ _ _ => .no)
    (fun _ _ _ => .no)
    (fun _ _ _ _ _ => .no)
    (fun vs _ i m k => nthK i vs fun v => nowH v fun v => k v m)
    (fun _ _ _ => .no)
    () (fun _ _ _ _ => ())
theorem extractK_eq (x : DV) (i : Nat) (m : DH) (k : DV → DH → Out) : extractK x i m k = outE (extractD x i m) k := by
  cases x with
  | tup vs =>
    show nthK i vs (fun v => nowH v fun v => k v m) = _
    simp only [extractD, nthK_eq, outE_okV, nowH_eq]
  | _ => rfl

def fillOne (v : DV) (q : Option (Nat × Nat)) (cs : List DV) (k : List DV → Out) : Out :=
  elimO q fun q => iteO (Nat.beq (lenF (cellsF v)) q.2) (setAtK (cellsF v) q.1 cs k) .no
def fillK (place : Nat → Option (Nat × Nat)) (ps : List (Nat × Operand)) : Slots → List DV → (List DV → Out) → Out :=
  List.rec (motive := fun _ => Slots → List DV → (List DV → Out) → Out) (fun _ cs k => k cs)
    (fun p _ ih t cs k => nowH (evF p.2 t) fun v => fillOne v (place p.1) cs fun cs => ih t cs k) ps
theorem fillK_eq (place : Nat → Option (Nat × Nat)) (t : Slots) : ∀ (ps : List (Nat × Operand)) (cs : List DV) (k : List DV → Out), fillK place ps t cs k = elimO (fillD place cs (mapEv t ps)) k
  | [], _, _ => rfl
  | p :: ps, cs, k => by
    show (nowH (evF p.2 t) fun v => fillOne v (place p.1) cs fun cs => fillK place ps t cs k) = _
    rw [nowH_eq, evF_eq]
    simp only [mapEv, fillD, fillOne]
    cases place p.1 with
    | none => rfl
    | some q =>
      obtain ⟨o, sz⟩ := q
      simp only [elimO, iteO_eq, lenF_eq, cellsF_eq, setAtK_eq]
      by_cases h1 : Nat.beq (ev t p.2).cells.length sz = true
      · rw [if_pos h1]
        rw [Nat.beq_eq] at h1
        by_cases h2 : o + sz ≤ cs.length
        · by_cases h3 : allOne (ev t p.2).cells = true
          · rw [if_pos ⟨by omega, by omega, h3⟩, fillK_eq place t ps]
            simp only [h1, Nat.ble_eq.mpr h2, h3, Nat.beq_refl]; rfl
          · rw [if_neg (fun h => h3 h.2.2)]
            simp only [Bool.not_eq_true] at h3
            simp only [h3, Bool.and_false]
        · rw [if_neg (fun h => h2 (by omega))]
          have : Nat.ble (o + sz) cs.length = false := by
            rw [← Bool.not_eq_true, Nat.ble_eq]; exact h2
          simp only [this, Bool.and_false, Bool.false_and]
      · rw [if_neg h1]
        simp only [Bool.not_eq_true] at h1
        simp only [h1, Bool.false_and]

def buildX (P : Program) (T : TypeId) (ps : List (Nat × Operand)) : Box (Slots → DH → (DV → DH → Out) → Out) :=
  match zeroOf P T with
  | some (.agg z) => match placeD P T with
    | some pl => ⟨fun t m k => fillK pl ps t z fun cs => k (.agg cs) m⟩
    | none => ⟨fun _ _ _ => .no⟩
  | _ => ⟨fun _ _ _ => .no⟩
theorem buildX_eq (P : Program) (T : TypeId) (ps : List (Nat × Operand)) : buildX P T ps = ⟨fun t m k => outE (buildD P T (mapEv t ps) m) k⟩ := by
  unfold buildX buildD
  cases zeroOf P T with
  | none => rfl
  | some z =>
    cases z with
    | agg z =>
      simp only
      cases placeD P T with
      | none => rfl
      | some pl =>
        refine congrArg Box.mk (funext fun t => funext fun m => funext fun k => ?_)
        simp only [fillK_eq]
        cases fillD pl z (mapEv t ps) <;> rfl
    | _ => rfl

def slAt (len sz n : Nat) : DV := .sl n Nat.zero len len true sz
def buildSliceX (P : Program) (T : TypeId) (len : Nat) (ps : List (Nat × Operand)) : Box (Slots → DH → (DV → DH → Out) → Out) :=
  match P.underlying T with
  | some (.slice e) => match sizeB P e, zeroOf P e with
    | some sz, some z => match Nat.ble (len * sz) 16777216 && Nat.blt 0 sz && Nat.beq z.cells.length sz && allOne z.cells with
      | true => ⟨fun t m k => nowL (zerosD z.cells len) fun zs => fillK (fun i => some (Nat.mul i sz, sz)) ps t zs fun cs => newK (slAt len sz) (.cells cs e false) m k⟩
      | false => ⟨fun _ _ _ => .no⟩
    | _, _ => ⟨fun _ _ _ => .no⟩
  | _ => ⟨fun _ _ _ => .no⟩
theorem buildSliceX_eq (P : Program) (T : TypeId) (len : Nat) (ps : List (Nat × Operand)) : buildSliceX P T len ps = ⟨fun t m k => outE (buildSliceD P T len (mapEv t ps) m) k⟩ := by
  unfold buildSliceX buildSliceD
  cases P.underlying T with
  | none => rfl
  | some d =>
    cases d with
    | slice e =>
      simp only
      cases sizeB P e with
      | none => rfl
      | some sz => cases zeroOf P e with
        | none => rfl
        | some z =>
          simp only
          cases (Nat.ble (len * sz) 16777216 && Nat.blt 0 sz && Nat.beq z.cells.length sz && allOne z.cells) with
          | false => rfl
          | true =>
            refine congrArg Box.mk (funext fun t => funext fun m => funext fun k => ?_)
            simp only [nowL_eq, fillK_eq, newK_eq]
            show elimO (fillD (fun i => some (i * sz, sz)) (zerosD z.cells len) (mapEv t ps)) _ = _
            cases fillD (fun i => some (i * sz, sz)) (zerosD z.cells len) (mapEv t ps) <;> rfl
    | _ => rfl

def makeSliceK (P : Program) (T : TypeId) (l c : DV) (m : DH) (k : DV → DH → Out) : Out :=
  match P.underlying T with
  | some (.slice e) => natK l fun l => natK c fun c => match sizeB P e, zeroOf P e with
    | some sz, some z => iteO (Nat.ble l c && fitsD P e c && Nat.beq z.cells.length sz && Nat.ble c 70368744177664 && Nat.blt 0 sz && allOne z.cells)
        (nowL (zerosD z.cells c) fun cs => nowN l fun l => nowN c fun c => newK (fun n => .sl n Nat.zero l c true sz) (.cells cs e false) m k) .no
    | _, _ => .no
  | _ => .no
theorem makeSliceK_eq (P : Program) (T : TypeId) (l c : DV) (m : DH) (k : DV → DH → Out) : makeSliceK P T l c m k = outE (makeSliceD P T l c m) k := by
  unfold makeSliceK makeSliceD
  cases P.underlying T with
  | none => rfl
  | some d =>
    cases d with
    | slice e =>
      simp only [natK_eq]
      cases asNat l with
      | none => rfl
      | some l => cases asNat c with
        | none => rfl
        | some c =>
          simp only [elimO]
          cases sizeB P e with
          | none => rfl
          | some sz => cases zeroOf P e with
            | none => rfl
            | some z =>
              simp only [iteO_eq]
              cases (Nat.ble l c && fitsD P e c && Nat.beq z.cells.length sz && Nat.ble c 70368744177664 && Nat.blt 0 sz && allOne z.cells) with
              | false => rfl
              | true => simp only [if_true, nowL_eq, nowN_eq, newK_eq]; rfl
    | _ => rfl

def kindOf (P : Program) (src dst : TypeId) : Option IntKind :=
  match P.underlying src, P.underlying dst with
  | some _, some (.int k) => some k
  | _, _ => none

def cvK : DV → Option IntKind → (DV → OR) → DH → (DV → DH → Out) → Out :=
  @DV.rec (fun _ => Option IntKind → (DV → OR) → DH → (DV → DH → Out) → Out) (fun _ => Unit)
    (fun _ n kd0 _ m k => elimO kd0 fun kd0 => nowI (wrapF kd0 n) fun n => k (.int kd0 n) m)
    (fun b _ g _ k => slowK (g (.bool b)) k)
    (fun s _ g _ k => slowK (g (.str s)) k)
    (fun b off len cap ex sz _ g _ k => slowK (g (.sl b off len cap ex sz)) k)
    (fun z sz n cs _ _ g _ k => slowK (g (.dsl z sz n cs)) k)
    (fun b off _ g _ k => slowK (g (.ptr b off)) k)
    (fun _ g _ k => slowK (g .nilp) k)
    (fun cs _ _ g _ k => slowK (g (.dptr cs)) k)
    (fun fid fst caps _ _ _ g _ k => slowK (g (.fn fid fst caps)) k)
    (fun _ g _ k => slowK (g .nilf) k)
    (fun b _ g _ k => slowK (g (.mp b)) k)
    (fun _ g _ k => slowK (g .nilm) k)
    (fun cs _ _ g _ k => slowK (g (.agg cs)) k)
    (fun vs _ _ g _ k => slowK (g (.tup vs)) k)
    (fun _ g _ k => slowK (g .junk) k)
    () (fun _ _ _ _ => ())
def convX (P : Program) (src dst : TypeId) : Box (DV → DH → (DV → DH → Out) → Out) := ⟨fun x m k => cvK x (kindOf P src dst) (fun x => convD P src dst x m) m k⟩
theorem convX_eq (P : Program) (src dst : TypeId) : convX P src dst = ⟨fun x m k => outE (convD P src dst x m) k⟩ := by
  refine congrArg Box.mk (funext fun x => funext fun m => funext fun k => ?_)
  cases x with
  | int kd n =>
    show (elimO (kindOf P src dst) fun kd0 => nowI (wrapF kd0 n) fun n => k (.int kd0 n) m) = _
    simp only [convD, kindOf]
    cases P.underlying src with
    | none => rfl
    | some st => cases P.underlying dst with
      | none => rfl
      | some dt => cases dt <;> simp only [elimO, nowI_eq, wrapF_eq] <;> rfl
  | _ => exact slowK_eq _ _

/-! ### Adding to a slice -/
def catK (xs : List DV) : List DV → (List DV → Out) → Out := List.rec (motive := fun _ => List DV → (List DV → Out) → Out) (fun ys k => k ys) (fun c _ ih ys k => ih ys fun r => k (c :: r)) xs
theorem catK_eq (ys : List DV) : ∀ (xs : List DV) (k : List DV → Out), catK xs ys k = k (xs ++ ys)
  | [], _ => rfl
  | c :: xs, k => catK_eq ys xs fun r => k (c :: r)

def appRoomK (b off len cap : Nat) (ex : Bool) (sz n : Nat) (cs : List DV) (e' : TypeId) (ro : Bool) (new : List DV) (m : DH) (k : DV → DH → Out) : Out :=
  iteO (notB ro) (iteO (Nat.ble (off + (len + n) * sz) (lenF cs)) (setAtK new (off + len * sz) cs fun cs =>
    DH.rec (motive := fun _ => Out) (fun h n' low => setO (wayX b) (.cells cs e' false) h fun h => nowW (addW b low) fun low => nowN (len + n) fun l => k (.sl b off l cap ex sz) ⟨h, n', low⟩) m) .no) .no
theorem appRoomK_eq (b off len cap : Nat) (ex : Bool) (sz n : Nat) (cs : List DV) (e' : TypeId) (ro : Bool) (new : List DV) (m : DH) (k : DV → DH → Out) (h1 : new.length = n * sz) (h2 : allOne new = true) :
    appRoomK b off len cap ex sz n cs e' ro new m k = outE (appRoom b off len cap ex sz n cs e' ro new m) k := by
  unfold appRoomK appRoom
  simp only [iteO_eq, notB_eq, setAtK_eq, setOX_eq, nowN_eq, nowW_eq, lenF_eq]
  cases ro with
  | true => rfl
  | false =>
    cases hb : Nat.ble (off + (len + n) * sz) cs.length with
    | false => rfl
    | true =>
      rw [Nat.ble_eq, Nat.add_mul] at hb
      have e1 : (if (!false) = true then (if (off + len * sz = 0 ∨ off + len * sz ≤ cs.length) ∧ off + len * sz + new.length ≤ cs.length ∧ allOne new = true then
          k (DV.sl b off (len + n) cap ex sz) { h := m.h.set b (DO.cells (setAt cs (off + len * sz) new) e' false), n := m.n, wrs := addW b m.wrs } else Out.no) else Out.no) = k (DV.sl b off (len + n) cap ex sz) { h := m.h.set b (DO.cells (setAt cs (off + len * sz) new) e' false), n := m.n, wrs := addW b m.wrs } := by
        rw [if_pos (by rfl), if_pos ⟨by omega, by omega, h2⟩]
      exact e1

def appNoneK (e : TypeId) (off len sz n : Nat) (cs new : List DV) (m : DH) (k : DV → DH → Out) : Out :=
  takeK (len * sz) (dropF off cs) fun l => catK l new fun cs => nowN (len + n) fun l => newK (fun b => .sl b Nat.zero l l false sz) (.cells cs e false) m k
theorem appNoneK_eq (e : TypeId) (off len sz n : Nat) (cs new : List DV) (m : DH) (k : DV → DH → Out) (h : off + len * sz ≤ cs.length) :
    appNoneK e off len sz n cs new m k = outE (appNone e off len sz n cs new m) k := by
  unfold appNoneK appNone
  rw [takeK_eq, dropF_eq, if_pos (by simp; omega), catK_eq, nowN_eq, newK_eq]; rfl

def appOpenK (e : TypeId) (b off len sz n : Nat) (cs : List DV) (e' : TypeId) (ro : Bool) (new : List DV) (m : DH) (k : DV → DH → Out) : Out :=
  iteO (!ro && Nat.beq cs.length (len * sz) && Nat.beq off 0 && Nat.beq e' e) (catK cs new fun cs => nowN (len + n) fun l =>
    DH.rec (motive := fun _ => Out) (fun h n' low => setO (wayX n') (.cells cs e false) h fun h => setO (wayX b) .dead h fun h => nowW (addW b low) fun low => nowN (Nat.succ n') fun n'' => k (.sl n' Nat.zero l l false sz) ⟨h, n'', low⟩) m) .no
theorem appOpenK_eq (e : TypeId) (b off len sz n : Nat) (cs : List DV) (e' : TypeId) (ro : Bool) (new : List DV) (m : DH) (k : DV → DH → Out) :
    appOpenK e b off len sz n cs e' ro new m k = outE (appOpen e b off len sz n cs e' ro new m) k := by
  unfold appOpenK appOpen
  simp only [iteO_eq]
  cases (!ro && Nat.beq cs.length (len * sz) && Nat.beq off 0 && Nat.beq e' e) with
  | false => rfl
  | true =>
    simp only [if_true, catK_eq, nowN_eq, setOX_eq, nowW_eq]
    cases m; rfl

def appendK (P : Program) (e : TypeId) (s : DV) (n : Nat) (new : List DV) (m : DH) (k : DV → DH → Out) : Out :=
  match sizeB P e, zeroOf P e with
  | some sz, some z => iteO (Nat.blt 0 sz && Nat.beq (lenF new) (n * sz) && allF new && Nat.beq z.cells.length sz)
      (match s with
      | .dsl (some true) q 0 [] => Nat.rec (motive := fun _ => Out) (k (.dsl (some true) q 0 []) m) (fun p _ => nowL new fun cs => newK (fun b => .sl b Nat.zero (Nat.succ p) (Nat.succ p) false sz) (.cells cs e false) m k) n
      | .sl b off len cap ex sz' => elimO (getO (wayX b) m.h) fun o => match o with
        | .cells cs e' ro => iteO (Nat.beq sz' sz && Nat.ble (off + len * sz) (lenF cs))
            (iteO (Nat.ble (len + n) cap) (appRoomK b off len cap ex sz n cs e' ro new m k) (iteO ex (appNoneK e off len sz n cs new m k) (appOpenK e b off len sz n cs e' ro new m k))) .no
        | _ => .no
      | _ => .no) .no
  | _, _ => .no
theorem appendK_eq (P : Program) (e : TypeId) (s : DV) (n : Nat) (new : List DV) (m : DH) (k : DV → DH → Out) : appendK P e s n new m k = outE (appendD P e s n new m) k := by
  unfold appendK appendD
  cases sizeB P e with
  | none => rfl
  | some sz => cases zeroOf P e with
    | none => rfl
    | some z =>
      simp only [iteO_eq, lenF_eq, allF_eq, getOX_eq, nowL_eq, newK_eq]
      cases hc : (Nat.blt 0 sz && Nat.beq new.length (n * sz) && allOne new && Nat.beq z.cells.length sz) with
      | false => rfl
      | true =>
        simp only [Bool.and_eq_true] at hc
        obtain ⟨⟨⟨_, h1⟩, h2⟩, _⟩ := hc
        rw [Nat.beq_eq] at h1
        simp only [if_true]
        split
        · cases n <;> rfl
        · rename_i b off len cap ex sz'
          dsimp only
          cases m.h.get b with
          | none => rfl
          | some o =>
            simp only [elimO]
            cases o with
            | cells cs e' ro =>
              simp only
              cases hq : (Nat.beq sz' sz && Nat.ble (off + len * sz) cs.length) with
              | false => rfl
              | true =>
                rw [Bool.and_eq_true, Nat.ble_eq] at hq
                simp only [if_true]
                cases Nat.ble (len + n) cap with
                | true => exact appRoomK_eq _ _ _ _ _ _ _ _ _ _ _ _ _ h1 h2
                | false => cases ex with
                  | true => exact appNoneK_eq _ _ _ _ _ _ _ _ _ hq.2
                  | false => exact appOpenK_eq _ _ _ _ _ _ _ _ _ _ _ _
            | _ => rfl
        · split
          · rename_i h _; exact (h _ rfl).elim
          · rename_i h; exact (h _ _ _ _ _ _ rfl).elim
          · rfl

def rowK (v : DV) (m : DH) (k : Nat → List DV → Out) : Out :=
  match v with
  | .sl b off len _ _ sz => elimO (getO (wayX b) m.h) fun o => match o with
    | .cells cs _ _ => takeK (len * sz) (dropF off cs) fun r => iteO (Nat.ble (off + len * sz) (lenF cs)) (k len r) .no
    | _ => .no
  | .dsl _ _ n cs => k n cs
  | _ => .no
theorem rowK_eq (v : DV) (m : DH) (k : Nat → List DV → Out) : rowK v m k = elimO (rowD v m) fun p => k p.1 p.2 := by
  unfold rowK rowD
  split
  · rename_i b off len cap ex sz
    rw [getOX_eq]
    simp only
    cases m.h.get b with
    | none => rfl
    | some o =>
      simp only [elimO]
      cases o with
      | cells cs e' ro =>
        simp only [iteO_eq, takeK_eq, dropF_eq, lenF_eq]
        cases hb : Nat.ble (off + len * sz) cs.length with
        | false => simp
        | true =>
          rw [Nat.ble_eq] at hb
          rw [if_pos (by simp; omega)]; rfl
      | _ => rfl
  · rfl
  · split
    · rename_i h _; exact (h _ _ _ _ _ _ rfl).elim
    · rename_i h; exact (h _ _ _ _ rfl).elim
    · rfl

def elemOf (P : Program) (t u : Option TypeId) : Option TypeId :=
  match t.bind P.underlying, u.bind P.underlying with
  | some (.slice e), some (.slice _) => some e
  | _, _ => none

def lenOfF : DV → Option Nat :=
  @DV.rec (fun _ => Option Nat) (fun _ => Unit)
    (fun _ _ => none)
    (fun _ => none)
    (fun _ => none)
    (fun _ _ len _ _ _ => some len)
    (fun _ _ n _ _ => some n)
    (fun _ _ => none)
    (none)
    (fun _ _ => none)
    (fun _ _ _ _ _ => none)
    (none)
    (fun _ => none)
    (none)
    (fun _ _ => none)
    (fun _ _ => none)
    (none)
    () (fun _ _ _ _ => ())
theorem lenOfF_eq (v : DV) : lenOfF v = lenOfD v := by cases v <;> rfl

def appX (P : Program) (t u : Option TypeId) : Box (DV → DV → DH → (DV → DH → Out) → Out) :=
  match elemOf P t u with
  | some e => ⟨fun s x m k => rowK x m fun n new => elimO (lenOfF s) fun len => iteO (fitsD P e (len + n)) (appendK P e s n new m k) .no⟩
  | none => ⟨fun _ _ _ _ => .no⟩
theorem appX_eq (P : Program) (t u : Option TypeId) : appX P t u = ⟨fun s x m k => outE (appD P t u s x m) k⟩ := by
  unfold appX elemOf appD
  cases t.bind P.underlying with
  | none => rfl
  | some d =>
    cases u.bind P.underlying with
    | none => cases d <;> rfl
    | some d' =>
      cases d with
      | slice e =>
        cases d' with
        | slice e' =>
          refine congrArg Box.mk (funext fun s => funext fun x => funext fun m => funext fun k => ?_)
          simp only [elimO, rowK_eq, lenOfF_eq]
          cases rowD x m with
          | none => rfl
          | some p =>
            cases lenOfD s with
            | none => rfl
            | some len =>
              simp only [iteO_eq, appendK_eq]
              cases fitsD P e (len + p.1) <;> rfl
        | _ => rfl
      | _ => rfl

def lenSl : DV → DH → (DV → DH → Out) → Out :=
  @DV.rec (fun _ => DH → (DV → DH → Out) → Out) (fun _ => Unit)
    (fun _ _ _ _ => .no)
    (fun _ _ _ => .no)
    (fun _ _ _ => .no)
    (fun _ _ len _ _ _ m k => k (.int .i64 (.ofNat len)) m)
    (fun _ _ n _ _ m k => k (.int .i64 (.ofNat n)) m)
    (fun _ _ _ _ => .no)
    (fun _ _ => .no)
    (fun _ _ _ _ => .no)
    (fun _ _ _ _ _ _ _ => .no)
    (fun _ _ => .no)
    (fun _ _ _ => .no)
    (fun _ _ => .no)
    (fun _ _ _ _ => .no)
    (fun _ _ _ _ => .no)
    (fun _ _ => .no)
    () (fun _ _ _ _ => ())
def lenX (P : Program) (t : Option TypeId) : Box (DV → DH → (DV → DH → Out) → Out) :=
  match t.bind P.underlying with
  | some (.slice _) => ⟨fun x m k => lenSl x m k⟩
  | _ => ⟨fun x m k => slowK (lenD P t x m) k⟩
theorem lenX_eq (P : Program) (t : Option TypeId) : lenX P t = ⟨fun x m k => outE (lenD P t x m) k⟩ := by
  unfold lenX
  split
  · rename_i h
    refine congrArg Box.mk (funext fun x => funext fun m => funext fun k => ?_)
    unfold lenD
    rw [h]
    cases x <;> rfl
  · simp only [slowK_eq]

def builtinX (P : Program) (b : Builtin) (argTypes : Array TypeId) (args : List Operand) : Box (Slots → DH → (DV → DH → Out) → Out) :=
  match b with
  | .len => match args with
    | [x] => match lenX P argTypes[0]? with
      | ⟨f⟩ => ⟨fun t m k => f (evF x t) m k⟩
    | _ => ⟨fun _ _ _ => .no⟩
  | .append => match args with
    | [s, x] => match appX P argTypes[0]? argTypes[1]? with
      | ⟨f⟩ => ⟨fun t m k => f (evF s t) (evF x t) m k⟩
    | _ => ⟨fun _ _ _ => .no⟩
  | b => ⟨fun t m k => slowK (builtinD P b argTypes (evsF args t) m) k⟩
theorem builtinX_eq (P : Program) (b : Builtin) (argTypes : Array TypeId) (args : List Operand) : builtinX P b argTypes args = ⟨fun t m k => outE (builtinD P b argTypes (evs t args) m) k⟩ := by
  cases b with
  | len =>
    simp only [builtinX, builtinD]
    rcases args with _ | ⟨x, _ | ⟨y, l⟩⟩
    · rfl
    · simp only [lenX_eq, evF_eq]; rfl
    · rfl
  | append =>
    simp only [builtinX, builtinD]
    rcases args with _ | ⟨x, _ | ⟨y, _ | ⟨z, l⟩⟩⟩
    · rfl
    · rfl
    · simp only [appX_eq, evF_eq]; rfl
    · rfl
  | _ => simp only [builtinX, slowK_eq, evsF_eq]

/-! ### Every operation -/
def opX (P : Program) (op : Op) : Box (Slots → DH → (DV → DH → Out) → Out) :=
  match op with
  | .move x => ⟨fun t m k => nowH (evF x t) fun v => k v m⟩
  | .assign x => ⟨fun t m k => nowH (evF x t) fun v => k v m⟩
  | .pick c a b => ⟨fun t m k => pickK (evF c t) (evF a t) (evF b t) m k⟩
  | .alloc e => match allocX P e with
    | ⟨f⟩ => ⟨fun _ m k => f m k⟩
  | .box e x => ⟨fun t m k => nowH (evF x t) fun v => boxK e v m k⟩
  | .build T ps => buildX P T ps.toList
  | .buildSlice T len ps => buildSliceX P T len ps.toList
  | .load T a => match szOf P T with
    | s => ⟨fun t m k => ldK (evF a t) m s fun v => k v m⟩
  | .store T a x => match sizeB P T with
    | s => ⟨fun t m k => nowH (evF x t) fun v => storeK (evF a t) s v m fun m => k undefD m⟩
  | .nilCheck x => ⟨fun t m k => nilK (evF x t) m k⟩
  | .binOp op T x y _ => match binX P op T with
    | ⟨f⟩ => ⟨fun t m k => f (evF x t) (evF y t) fun v => k v m⟩
  | .unOp op _ x => ⟨fun t m k => elimO (unOpD op (evF x t)) fun v => nowV v fun v => k v m⟩
  | .convert src dst x => match convX P src dst with
    | ⟨f⟩ => ⟨fun t m k => f (evF x t) m k⟩
  | .makeSlice T l c => ⟨fun t m k => makeSliceK P T (evF l t) (evF c t) m k⟩
  | .slice T x lo hi mx => ⟨fun t m k => elimO (sliceD P T (evF x t) (optEv t lo) (optEv t hi) (optEv t mx)) fun v => nowV v fun v => k v m⟩
  | .fieldAddr T x f => match fieldAddrX P T f with
    | ⟨g⟩ => ⟨fun t m k => g (evF x t) m k⟩
  | .field T x f => match fieldX P T f with
    | ⟨g⟩ => ⟨fun t m k => g (evF x t) m k⟩
  | .indexAddr T x i => match indexAddrX P T with
    | ⟨g⟩ => ⟨fun t m k => g (evF x t) (evF i t) m k⟩
  | .extract x i => ⟨fun t m k => extractK (evF x t) i m k⟩
  | .lookup T x i ok => ⟨fun t m k => elimO (lookupD P T (evF x t) (evF i t) ok m) fun v => nowV v fun v => k v m⟩
  | .call c => match c.callee with
    | .builtin b => builtinX P b c.argTypes c.args.toList
    | _ => ⟨fun _ _ _ => .no⟩
  | op => ⟨fun t m k => slowK (opD P op t m) k⟩

theorem opX_eq (P : Program) (op : Op) : opX P op = ⟨fun t m k => outE (opD P op t m) k⟩ := by
  cases op with
  | call c =>
    simp only [opX, opD]
    cases c.callee with
    | builtin b => simp only [builtinX_eq]
    | _ => rfl
  | _ => simp only [opX, opD, nowH_eq, nowV_eq, evF_eq, pickK_eq, allocX_eq, boxK_eq, buildX_eq, buildSliceX_eq, ldK_eq, storeK_eq, nilK_eq, binX_eq, convX_eq, makeSliceK_eq, fieldAddrX_eq, fieldX_eq, indexAddrX_eq, extractK_eq, slowK_eq, outE_okV, outE_okM] <;> rfl
end
end Go.Det
