/-
  The quick machine's operations and its run: run_fast says that it does what the machine does.
-/
import Derived.Test.YtmecnlnjimijnaaGreatDetFast
set_option linter.unusedVariables false
set_option linter.unusedSimpArgs false
set_option linter.unusedSectionVars false
namespace Go.Det
noncomputable section

def outE (o : OR) (k : DV → DH → Out) : Out := elimO .no o fun p => Prod.rec (motive := fun _ => Out) (fun v m => k v m) p

theorem outE_ofOR (o : OR) (k : DV → DH → Out) : outE o k = match Out.ofOR o with | .val v m => k v m | _ => .no := by
  cases o <;> rfl
theorem outE_okV (m : DH) (o : Option DV) (k : DV → DH → Out) : outE (okV m o) k = elimO .no o fun v => k v m := by
  cases o <;> rfl
theorem outE_okM (o : Option DH) (k : DV → DH → Out) : outE (okM o) k = elimO .no o fun m => k undefD m := by
  cases o <;> rfl

def slowK (o : OR) (k : DV → DH → Out) : Out := outE o fun v m => nowV v fun v => nowM m fun m => k v m
theorem slowK_eq (o : OR) (k : DV → DH → Out) : slowK o k = outE o k := by
  unfold slowK; simp only [nowV_eq, nowM_eq]

def nowLh {α R : Type} (cs : List α) (k : List α → R) : R := List.rec (motive := fun _ => R) (k []) (fun c cs _ => k (c :: cs)) cs
theorem nowLh_eq {α R : Type} (cs : List α) (k : List α → R) : nowLh cs k = k cs := by cases cs <;> rfl

/-- A new row. -/
def newK (v : Nat → DV) (d : DO) (m : DH) (k : DV → DH → Out) : Out :=
  DH.rec (motive := fun _ => Out) (fun h n low => setO (wayX n) d h fun h => nowN (Nat.succ n) fun n' => k (v n) ⟨h, n', low⟩) m
theorem newK_eq (v : Nat → DV) (d : DO) (m : DH) (k : DV → DH → Out) : newK v d m k = k (v m.n) { m with h := m.h.set m.n d, n := m.n + 1 } := by
  cases m with
  | mk h n low => simp only [newK, setOX_eq, nowN_eq]

def allF (cs : List DV) : Bool := List.rec (motive := fun _ => Bool) true (fun c _ ih => iteB (oneF c) ih false) cs
theorem allF_eq : ∀ cs : List DV, allF cs = allOne cs
  | [] => rfl
  | c :: cs => by
    show iteB (oneF c) (allF cs) false = _
    rw [iteB_eq, allF_eq cs, oneF_eq]
    simp only [allOne, List.all_cons]
    cases c.one <;> rfl

def allocK (P : Program) (e : TypeId) (m : DH) (k : DV → DH → Out) : Out :=
  elimO .no (zeroOf P e) fun z => nowL (cellsF z) fun cs => newK (fun n => .ptr n Nat.zero) (.cells cs e false) m k
theorem allocK_eq (P : Program) (e : TypeId) (m : DH) (k : DV → DH → Out) : allocK P e m k = outE (allocD P e m) k := by
  unfold allocK allocD
  cases zeroOf P e with
  | none => rfl
  | some z => simp only [elimO, nowL_eq, newK_eq, cellsF_eq]; rfl

def boxK (e : TypeId) (v : DV) (m : DH) (k : DV → DH → Out) : Out :=
  nowL (cellsF v) fun cs => iteB (allF cs) (newK (fun n => .ptr n Nat.zero) (.cells cs e false) m k) .no
theorem boxK_eq (e : TypeId) (v : DV) (m : DH) (k : DV → DH → Out) : boxK e v m k = outE (boxD e v m) k := by
  unfold boxK boxD
  simp only [nowL_eq, newK_eq, cellsF_eq, iteB_eq, allF_eq]
  cases allOne v.cells <;> rfl

def pickK (c a b : DV) (m : DH) (k : DV → DH → Out) : Out :=
  match c with
  | .bool c => iteB c (nowH a fun v => k v m) (nowH b fun v => k v m)
  | _ => .no
theorem pickK_eq (c a b : DV) (m : DH) (k : DV → DH → Out) : pickK c a b m k = outE (pickD c a b m) k := by
  unfold pickK pickD
  cases c with
  | bool c => cases c <;> simp only [iteB, nowH_eq] <;> rfl
  | _ => rfl

def nilK (v : DV) (m : DH) (k : DV → DH → Out) : Out :=
  match v with
  | .ptr b off => k (.ptr b off) m
  | .dptr cs => k (.dptr cs) m
  | .mp b => k (.mp b) m
  | .fn f caps => k (.fn f caps) m
  | v => slowK (nilCheckD v m) k
theorem nilK_eq (v : DV) (m : DH) (k : DV → DH → Out) : nilK v m k = outE (nilCheckD v m) k := by
  cases v <;> simp only [nilK, slowK_eq] <;> rfl

def fieldK (P : Program) (T : TypeId) (x : DV) (f : Nat) (m : DH) (k : DV → DH → Out) : Out :=
  elimO .no (fieldOf P T f) fun fd => match x with
    | .agg cs => takeVarK .no P fd.type (dropF fd.offset cs) fun v => k v m
    | _ => .no
theorem fieldK_eq (P : Program) (T : TypeId) (x : DV) (f : Nat) (m : DH) (k : DV → DH → Out) : fieldK P T x f m k = outE (fieldD P T x f m) k := by
  unfold fieldK fieldD
  cases fieldOf P T f with
  | none => rfl
  | some fd =>
    simp only [elimO]
    cases x with
    | agg cs => simp only [takeVarK_eq, dropF_eq, outE_okV]
    | _ => rfl

def offOf (P : Program) (T : TypeId) (f : Nat) : Option Nat :=
  match fieldOf P T f with
  | some fd => match sizeB P fd.type with
    | some (_ + 1) => some fd.offset
    | _ => none
  | none => none

def fieldAddrK (P : Program) (T : TypeId) (x : DV) (f : Nat) (m : DH) (k : DV → DH → Out) : Out :=
  elimO .no (offOf P T f) fun o => match x with
    | .ptr b off => nowN (Nat.add off o) fun off => k (.ptr b off) m
    | .dptr cs => nowLh (dropF o cs) fun cs => k (.dptr cs) m
    | _ => .no
theorem fieldAddrK_eq (P : Program) (T : TypeId) (x : DV) (f : Nat) (m : DH) (k : DV → DH → Out) : fieldAddrK P T x f m k = outE (fieldAddrD P T x f m) k := by
  unfold fieldAddrK fieldAddrD offOf
  cases fieldOf P T f with
  | none => rfl
  | some fd =>
    simp only
    cases sizeB P fd.type with
    | none => rfl
    | some n => cases n with
      | zero => rfl
      | succ n =>
        simp only [elimO]
        cases x <;> simp only [nowN_eq, nowLh_eq, dropF_eq] <;> rfl

inductive Ix where
  | sl (k : Nat)
  | arr (n k : Nat)
  | bad

def ixOf (P : Program) (T : TypeId) : Ix :=
  match P.underlying T with
  | some (.slice e) => match sizeB P e with
    | some k => .sl k
    | none => .bad
  | some (.array n e) => match sizeB P e with
    | some k => .arr n k
    | none => .bad
  | _ => .bad

def natK {R : Type} (e : R) (v : DV) (k : Nat → R) : R :=
  match v with
  | .int _ i => Int.rec (motive := fun _ => R) (fun a => k a) (fun _ => e) i
  | _ => e
theorem natK_eq {R : Type} (e : R) (v : DV) (k : Nat → R) : natK e v k = elimO e (asNat v) k := by
  cases v with
  | int kd i =>
    cases i with
    | ofNat a =>
      have : (0 : Int) ≤ Int.ofNat a := Int.natCast_nonneg a
      simp only [natK, asNat, if_pos this]; rfl
    | negSucc a =>
      have : ¬ (0 : Int) ≤ Int.negSucc a := by omega
      simp only [natK, asNat, if_neg this]; rfl
  | _ => rfl

def indexAddrK (P : Program) (T : TypeId) (x i : DV) (m : DH) (k : DV → DH → Out) : Out :=
  natK .no i fun i => Ix.rec (motive := fun _ => Out)
    (fun sz => match x with
      | .sl b off len _ _ sz' => iteB (Nat.blt i len) (iteB (Nat.beq sz' sz) (nowN (Nat.add off (Nat.mul i sz)) fun o => k (.ptr b o) m) .no) .no
      | .dsl _ sz' n cs => iteB (Nat.blt i n) (iteB (Nat.beq sz' sz) (nowLh (dropF (Nat.mul i sz) cs) fun cs => k (.dptr cs) m) .no) .no
      | _ => .no)
    (fun n sz => iteB (Nat.blt i n) (match x with
      | .ptr b off => nowN (Nat.add off (Nat.mul i sz)) fun o => k (.ptr b o) m
      | .dptr cs => nowLh (dropF (Nat.mul i sz) cs) fun cs => k (.dptr cs) m
      | _ => .no) .no)
    .no (ixOf P T)
theorem indexAddrK_eq (P : Program) (T : TypeId) (x i : DV) (m : DH) (k : DV → DH → Out) : indexAddrK P T x i m k = outE (indexAddrD P T x i m) k := by
  unfold indexAddrK indexAddrD ixOf
  rw [natK_eq]
  cases asNat i with
  | none => rfl
  | some i =>
    simp only [elimO]
    cases P.underlying T with
    | none => rfl
    | some d =>
      cases d with
      | slice e =>
        simp only
        cases sizeB P e with
        | none => rfl
        | some sz =>
          simp only
          cases x with
          | sl b off len cap ex sz' =>
            simp only [iteB_eq, nowN_eq]
            cases Nat.blt i len <;> cases Nat.beq sz' sz <;> rfl
          | dsl z sz' n cs =>
            simp only [iteB_eq, nowLh_eq, dropF_eq]
            cases Nat.blt i n <;> cases Nat.beq sz' sz <;> rfl
          | _ => rfl
      | array n e =>
        simp only
        cases sizeB P e with
        | none => rfl
        | some sz =>
          simp only [iteB_eq, nowN_eq, nowLh_eq, dropF_eq]
          cases Nat.blt i n <;> cases x <;> rfl
      | _ => rfl

def nthK {α R : Type} (e : R) (n : Nat) (cs : List α) (k : α → R) : R := List.rec (motive := fun _ => R) e (fun c _ _ => k c) (dropF n cs)
theorem nthK_eq {α R : Type} (e : R) : ∀ (n : Nat) (cs : List α) (k : α → R), nthK e n cs k = elimO e cs[n]? k := by
  intro n cs k
  unfold nthK
  rw [dropF_eq]
  induction cs generalizing n with
  | nil => simp; rfl
  | cons c cs ih => cases n with
    | zero => rfl
    | succ n => simpa using ih n

def extractK (x : DV) (i : Nat) (m : DH) (k : DV → DH → Out) : Out :=
  match x with
  | .tup vs => nthK .no i vs fun v => nowH v fun v => k v m
  | _ => .no
theorem extractK_eq (x : DV) (i : Nat) (m : DH) (k : DV → DH → Out) : extractK x i m k = outE (extractD x i m) k := by
  cases x <;> simp only [extractK, extractD, nthK_eq, outE_okV, nowH_eq] <;> rfl

def fillK (place : Nat → Option (Nat × Nat)) (t : Slots) (ps : List (Nat × Operand)) : List DV → (List DV → Out) → Out :=
  List.rec (motive := fun _ => List DV → (List DV → Out) → Out) (fun cs k => k cs)
    (fun p _ ih cs k => nowH (evF p.2 t) fun v => elimO .no (place p.1) fun q => iteB (Nat.beq (lenF (cellsF v)) q.2) (setAtK .no (cellsF v) q.1 cs fun cs => ih cs k) .no) ps
theorem fillK_eq (place : Nat → Option (Nat × Nat)) (t : Slots) : ∀ (ps : List (Nat × Operand)) (cs : List DV) (k : List DV → Out), fillK place t ps cs k = elimO .no (fillD place cs (mapEv t ps)) k
  | [], _, _ => rfl
  | p :: ps, cs, k => by
    show (nowH (evF p.2 t) fun v => elimO .no (place p.1) fun q => iteB (Nat.beq (lenF (cellsF v)) q.2) (setAtK .no (cellsF v) q.1 cs fun cs => fillK place t ps cs k) .no) = _
    rw [nowH_eq, evF_eq]
    simp only [mapEv, fillD]
    cases place p.1 with
    | none => rfl
    | some q =>
      obtain ⟨o, sz⟩ := q
      simp only [elimO, iteB_eq, lenF_eq, cellsF_eq, setAtK_eq]
      by_cases h1 : Nat.beq (ev t p.2).cells.length sz = true
      · rw [if_pos h1]
        rw [Nat.beq_eq] at h1
        by_cases h2 : o + sz ≤ cs.length
        · by_cases h3 : allOne (ev t p.2).cells = true
          · rw [if_pos ⟨by omega, by omega, h3⟩, fillK_eq place t ps]
            simp only [h1, Nat.ble_eq.mpr h2, h3, Nat.beq_refl]; rfl
          · rw [if_neg (fun h => h3 h.2.2)]
            simp only [Bool.not_eq_true] at h3
            simp only [h3, Bool.and_false]
        · rw [if_neg (fun h => h2 (by omega))]
          have : Nat.ble (o + sz) cs.length = false := by
            rw [← Bool.not_eq_true, Nat.ble_eq]; exact h2
          simp only [this, Bool.and_false, Bool.false_and]
      · rw [if_neg h1]
        simp only [Bool.not_eq_true] at h1
        simp only [h1, Bool.false_and]

def buildK (P : Program) (T : TypeId) (ps : List (Nat × Operand)) (t : Slots) (m : DH) (k : DV → DH → Out) : Out :=
  elimO .no (zeroOf P T) fun z => match z with
    | .agg z => elimO .no (placeD P T) fun pl => fillK pl t ps z fun cs => k (.agg cs) m
    | _ => .no
theorem buildK_eq (P : Program) (T : TypeId) (ps : List (Nat × Operand)) (t : Slots) (m : DH) (k : DV → DH → Out) : buildK P T ps t m k = outE (buildD P T (mapEv t ps) m) k := by
  unfold buildK buildD
  cases zeroOf P T with
  | none => rfl
  | some z =>
    cases z with
    | agg z =>
      simp only [elimO]
      cases placeD P T with
      | none => rfl
      | some pl =>
        simp only [fillK_eq]
        cases fillD pl z (mapEv t ps) <;> rfl
    | _ => rfl

def buildSliceK (P : Program) (T : TypeId) (len : Nat) (ps : List (Nat × Operand)) (t : Slots) (m : DH) (k : DV → DH → Out) : Out :=
  match P.underlying T with
  | some (.slice e) => match sizeB P e, zeroOf P e with
    | some sz, some z => iteB (Nat.ble (len * sz) 16777216 && Nat.blt 0 sz && Nat.beq z.cells.length sz && allOne z.cells)
        (nowL (zerosD z.cells len) fun zs => fillK (fun i => some (Nat.mul i sz, sz)) t ps zs fun cs => newK (fun n => .sl n Nat.zero len len true sz) (.cells cs e false) m k) .no
    | _, _ => .no
  | _ => .no
theorem buildSliceK_eq (P : Program) (T : TypeId) (len : Nat) (ps : List (Nat × Operand)) (t : Slots) (m : DH) (k : DV → DH → Out) : buildSliceK P T len ps t m k = outE (buildSliceD P T len (mapEv t ps) m) k := by
  unfold buildSliceK buildSliceD
  cases P.underlying T with
  | none => rfl
  | some d =>
    cases d with
    | slice e =>
      simp only
      cases sizeB P e with
      | none => rfl
      | some sz => cases zeroOf P e with
        | none => rfl
        | some z =>
          simp only [iteB_eq]
          cases (Nat.ble (len * sz) 16777216 && Nat.blt 0 sz && Nat.beq z.cells.length sz && allOne z.cells) with
          | false => rfl
          | true =>
            simp only [if_true, nowL_eq, fillK_eq, newK_eq]
            show elimO Out.no (fillD (fun i => some (i * sz, sz)) (zerosD z.cells len) (mapEv t ps)) _ = _
            cases fillD (fun i => some (i * sz, sz)) (zerosD z.cells len) (mapEv t ps) <;> rfl
    | _ => rfl

def makeSliceK (P : Program) (T : TypeId) (l c : DV) (m : DH) (k : DV → DH → Out) : Out :=
  match P.underlying T with
  | some (.slice e) => natK .no l fun l => natK .no c fun c => match sizeB P e, zeroOf P e with
    | some sz, some z => iteB (Nat.ble l c && fitsD P e c && Nat.beq z.cells.length sz && Nat.ble c 70368744177664 && Nat.blt 0 sz && allOne z.cells)
        (nowL (zerosD z.cells c) fun cs => nowN l fun l => nowN c fun c => newK (fun n => .sl n Nat.zero l c true sz) (.cells cs e false) m k) .no
    | _, _ => .no
  | _ => .no
theorem makeSliceK_eq (P : Program) (T : TypeId) (l c : DV) (m : DH) (k : DV → DH → Out) : makeSliceK P T l c m k = outE (makeSliceD P T l c m) k := by
  unfold makeSliceK makeSliceD
  cases P.underlying T with
  | none => rfl
  | some d =>
    cases d with
    | slice e =>
      simp only [natK_eq]
      cases asNat l with
      | none => rfl
      | some l => cases asNat c with
        | none => rfl
        | some c =>
          simp only [elimO]
          cases sizeB P e with
          | none => rfl
          | some sz => cases zeroOf P e with
            | none => rfl
            | some z =>
              simp only [iteB_eq]
              cases (Nat.ble l c && fitsD P e c && Nat.beq z.cells.length sz && Nat.ble c 70368744177664 && Nat.blt 0 sz && allOne z.cells) with
              | false => rfl
              | true => simp only [if_true, nowL_eq, nowN_eq, newK_eq]; rfl
    | _ => rfl

def kindOf (P : Program) (src dst : TypeId) : Option IntKind :=
  match P.underlying src, P.underlying dst with
  | some _, some (.int k) => some k
  | _, _ => none

def convK (P : Program) (src dst : TypeId) (x : DV) (m : DH) (k : DV → DH → Out) : Out :=
  match x with
  | .int _ n => elimO .no (kindOf P src dst) fun kd => nowI (wrapF kd n) fun n => k (.int kd n) m
  | x => slowK (convD P src dst x m) k
theorem convK_eq (P : Program) (src dst : TypeId) (x : DV) (m : DH) (k : DV → DH → Out) : convK P src dst x m k = outE (convD P src dst x m) k := by
  cases x with
  | int kd n =>
    simp only [convK, convD, kindOf]
    cases P.underlying src with
    | none => rfl
    | some st => cases P.underlying dst with
      | none => rfl
      | some dt => cases dt <;> simp only [elimO, nowI_eq, wrapF_eq] <;> rfl
  | _ => simp only [convK, slowK_eq]


/-! ### Adding to a slice -/
def catK {α R : Type} (xs ys : List α) : (List α → R) → R := List.rec (motive := fun _ => (List α → R) → R) (fun k => k ys) (fun c _ ih k => ih fun r => k (c :: r)) xs
theorem catK_eq {α R : Type} (ys : List α) : ∀ (xs : List α) (k : List α → R), catK xs ys k = k (xs ++ ys)
  | [], _ => rfl
  | c :: xs, k => catK_eq ys xs fun r => k (c :: r)

def appRoomK (b off len cap : Nat) (ex : Bool) (sz n : Nat) (cs : List DV) (e' : TypeId) (ro : Bool) (new : List DV) (m : DH) (k : DV → DH → Out) : Out :=
  iteB (notB ro) (iteB (Nat.ble (off + (len + n) * sz) cs.length) (setAtK .no new (off + len * sz) cs fun cs =>
    DH.rec (motive := fun _ => Out) (fun h n' low => setO (wayX b) (.cells cs e' false) h fun h => nowN (minF low b) fun low => nowN (len + n) fun l => k (.sl b off l cap ex sz) ⟨h, n', low⟩) m) .no) .no
theorem appRoomK_eq (b off len cap : Nat) (ex : Bool) (sz n : Nat) (cs : List DV) (e' : TypeId) (ro : Bool) (new : List DV) (m : DH) (k : DV → DH → Out) (h1 : new.length = n * sz) (h2 : allOne new = true) :
    appRoomK b off len cap ex sz n cs e' ro new m k = outE (appRoom b off len cap ex sz n cs e' ro new m) k := by
  unfold appRoomK appRoom
  simp only [iteB_eq, notB_eq, setAtK_eq, setOX_eq, nowN_eq, minF_eq]
  cases ro with
  | true => rfl
  | false =>
    cases hb : Nat.ble (off + (len + n) * sz) cs.length with
    | false => rfl
    | true =>
      rw [Nat.ble_eq, Nat.add_mul] at hb
      have e1 : (if (!false) = true then (if (off + len * sz = 0 ∨ off + len * sz ≤ cs.length) ∧ off + len * sz + new.length ≤ cs.length ∧ allOne new = true then
          k (DV.sl b off (len + n) cap ex sz) { h := m.h.set b (DO.cells (setAt cs (off + len * sz) new) e' false), n := m.n, low := m.low.min b } else Out.no) else Out.no) = k (DV.sl b off (len + n) cap ex sz) { h := m.h.set b (DO.cells (setAt cs (off + len * sz) new) e' false), n := m.n, low := m.low.min b } := by
        rw [if_pos (by rfl), if_pos ⟨by omega, by omega, h2⟩]
      exact e1

def appNoneK (e : TypeId) (off len sz n : Nat) (cs new : List DV) (m : DH) (k : DV → DH → Out) : Out :=
  takeK .no (len * sz) (dropF off cs) fun l => catK l new fun cs => nowN (len + n) fun l => newK (fun b => .sl b Nat.zero l l false sz) (.cells cs e false) m k
theorem appNoneK_eq (e : TypeId) (off len sz n : Nat) (cs new : List DV) (m : DH) (k : DV → DH → Out) (h : off + len * sz ≤ cs.length) :
    appNoneK e off len sz n cs new m k = outE (appNone e off len sz n cs new m) k := by
  unfold appNoneK appNone
  rw [takeK_eq, dropF_eq, if_pos (by simp; omega), catK_eq, nowN_eq, newK_eq]; rfl

def appOpenK (e : TypeId) (b off len sz n : Nat) (cs : List DV) (e' : TypeId) (ro : Bool) (new : List DV) (m : DH) (k : DV → DH → Out) : Out :=
  iteB (!ro && Nat.beq cs.length (len * sz) && Nat.beq off 0 && Nat.beq e' e) (catK cs new fun cs => nowN (len + n) fun l =>
    DH.rec (motive := fun _ => Out) (fun h n' low => setO (wayX n') (.cells cs e false) h fun h => setO (wayX b) .dead h fun h => nowN (minF low b) fun low => nowN (Nat.succ n') fun n'' => k (.sl n' Nat.zero l l false sz) ⟨h, n'', low⟩) m) .no
theorem appOpenK_eq (e : TypeId) (b off len sz n : Nat) (cs : List DV) (e' : TypeId) (ro : Bool) (new : List DV) (m : DH) (k : DV → DH → Out) :
    appOpenK e b off len sz n cs e' ro new m k = outE (appOpen e b off len sz n cs e' ro new m) k := by
  unfold appOpenK appOpen
  simp only [iteB_eq]
  cases (!ro && Nat.beq cs.length (len * sz) && Nat.beq off 0 && Nat.beq e' e) with
  | false => rfl
  | true =>
    simp only [if_true, catK_eq, nowN_eq, setOX_eq, minF_eq]
    cases m; rfl

def appendK (P : Program) (e : TypeId) (s : DV) (n : Nat) (new : List DV) (m : DH) (k : DV → DH → Out) : Out :=
  match sizeB P e, zeroOf P e with
  | some sz, some z => iteB (Nat.blt 0 sz && Nat.beq (lenF new) (n * sz) && allF new && Nat.beq z.cells.length sz)
      (match s with
      | .dsl (some true) q 0 [] => Nat.rec (motive := fun _ => Out) (k (.dsl (some true) q 0 []) m) (fun p _ => nowL new fun cs => newK (fun b => .sl b Nat.zero (Nat.succ p) (Nat.succ p) false sz) (.cells cs e false) m k) n
      | .sl b off len cap ex sz' => elimO .no (getO (wayX b) m.h) fun o => match o with
        | .cells cs e' ro => iteB (Nat.beq sz' sz && Nat.ble (off + len * sz) (lenF cs))
            (iteB (Nat.ble (len + n) cap) (appRoomK b off len cap ex sz n cs e' ro new m k) (iteB ex (appNoneK e off len sz n cs new m k) (appOpenK e b off len sz n cs e' ro new m k))) .no
        | _ => .no
      | _ => .no) .no
  | _, _ => .no
theorem appendK_eq (P : Program) (e : TypeId) (s : DV) (n : Nat) (new : List DV) (m : DH) (k : DV → DH → Out) : appendK P e s n new m k = outE (appendD P e s n new m) k := by
  unfold appendK appendD
  cases sizeB P e with
  | none => rfl
  | some sz => cases zeroOf P e with
    | none => rfl
    | some z =>
      simp only [iteB_eq, lenF_eq, allF_eq, getOX_eq, nowL_eq, newK_eq]
      cases hc : (Nat.blt 0 sz && Nat.beq new.length (n * sz) && allOne new && Nat.beq z.cells.length sz) with
      | false => rfl
      | true =>
        simp only [Bool.and_eq_true] at hc
        obtain ⟨⟨⟨_, h1⟩, h2⟩, _⟩ := hc
        rw [Nat.beq_eq] at h1
        simp only [if_true]
        split
        · cases n <;> rfl
        · rename_i b off len cap ex sz'
          dsimp only
          cases m.h.get b with
          | none => rfl
          | some o =>
            simp only [elimO]
            cases o with
            | cells cs e' ro =>
              simp only
              cases hq : (Nat.beq sz' sz && Nat.ble (off + len * sz) cs.length) with
              | false => rfl
              | true =>
                rw [Bool.and_eq_true, Nat.ble_eq] at hq
                simp only [if_true]
                cases Nat.ble (len + n) cap with
                | true => exact appRoomK_eq _ _ _ _ _ _ _ _ _ _ _ _ _ h1 h2
                | false => cases ex with
                  | true => exact appNoneK_eq _ _ _ _ _ _ _ _ _ hq.2
                  | false => exact appOpenK_eq _ _ _ _ _ _ _ _ _ _ _ _
            | _ => rfl
        · split
          · rename_i h _; exact (h _ rfl).elim
          · rename_i h; exact (h _ _ _ _ _ _ rfl).elim
          · rfl

def rowK (v : DV) (m : DH) (k : Nat → List DV → Out) : Out :=
  match v with
  | .sl b off len _ _ sz => elimO .no (getO (wayX b) m.h) fun o => match o with
    | .cells cs _ _ => takeK .no (len * sz) (dropF off cs) fun r => iteB (Nat.ble (off + len * sz) (lenF cs)) (k len r) .no
    | _ => .no
  | .dsl _ _ n cs => k n cs
  | _ => .no
theorem rowK_eq (v : DV) (m : DH) (k : Nat → List DV → Out) : rowK v m k = elimO .no (rowD v m) fun p => k p.1 p.2 := by
  unfold rowK rowD
  split
  · rename_i b off len cap ex sz
    rw [getOX_eq]
    simp only
    cases m.h.get b with
    | none => rfl
    | some o =>
      simp only [elimO]
      cases o with
      | cells cs e' ro =>
        simp only [iteB_eq, takeK_eq, dropF_eq, lenF_eq]
        cases hb : Nat.ble (off + len * sz) cs.length with
        | false => simp
        | true =>
          rw [Nat.ble_eq] at hb
          rw [if_pos (by simp; omega)]; rfl
      | _ => rfl
  · rfl
  · split
    · rename_i h _; exact (h _ _ _ _ _ _ rfl).elim
    · rename_i h; exact (h _ _ _ _ rfl).elim
    · rfl

def elemOf (P : Program) (t u : Option TypeId) : Option TypeId :=
  match t.bind P.underlying, u.bind P.underlying with
  | some (.slice e), some (.slice _) => some e
  | _, _ => none

def lenOfF (v : DV) : Option Nat :=
  match v with
  | .sl _ _ len _ _ _ => some len
  | .dsl _ _ n _ => some n
  | _ => none
theorem lenOfF_eq (v : DV) : lenOfF v = lenOfD v := by cases v <;> rfl

def appK (P : Program) (t u : Option TypeId) (s x : DV) (m : DH) (k : DV → DH → Out) : Out :=
  elimO .no (elemOf P t u) fun e => rowK x m fun n new => elimO .no (lenOfF s) fun len => iteB (fitsD P e (len + n)) (appendK P e s n new m k) .no
theorem appK_eq (P : Program) (t u : Option TypeId) (s x : DV) (m : DH) (k : DV → DH → Out) : appK P t u s x m k = outE (appD P t u s x m) k := by
  unfold appK appD elemOf
  cases t.bind P.underlying with
  | none => rfl
  | some d =>
    cases u.bind P.underlying with
    | none => cases d <;> rfl
    | some d' =>
      cases d with
      | slice e =>
        cases d' with
        | slice e' =>
          simp only [elimO, rowK_eq, lenOfF_eq]
          cases rowD x m with
          | none => rfl
          | some p =>
            cases lenOfD s with
            | none => rfl
            | some len =>
              simp only [iteB_eq, appendK_eq]
              cases fitsD P e (len + p.1) <;> rfl
        | _ => rfl
      | _ => rfl

def lenK (P : Program) (t : Option TypeId) (x : DV) (m : DH) (k : DV → DH → Out) : Out :=
  match t.bind P.underlying with
  | some (.slice _) => match x with
    | .sl _ _ n _ _ _ => k (.int .i64 (.ofNat n)) m
    | .dsl _ _ n _ => k (.int .i64 (.ofNat n)) m
    | _ => .no
  | _ => slowK (lenD P t x m) k
theorem lenK_eq (P : Program) (t : Option TypeId) (x : DV) (m : DH) (k : DV → DH → Out) : lenK P t x m k = outE (lenD P t x m) k := by
  unfold lenK
  split
  · rename_i h
    unfold lenD
    rw [h]
    simp only
    cases x <;> rfl
  · exact slowK_eq _ _

def builtinK (P : Program) (b : Builtin) (argTypes : Array TypeId) (args : List DV) (m : DH) (k : DV → DH → Out) : Out :=
  match b with
  | .len => match args with
    | [x] => lenK P argTypes[0]? x m k
    | _ => .no
  | .append => match args with
    | [s, x] => appK P argTypes[0]? argTypes[1]? s x m k
    | _ => .no
  | b => slowK (builtinD P b argTypes args m) k
theorem builtinK_eq (P : Program) (b : Builtin) (argTypes : Array TypeId) (args : List DV) (m : DH) (k : DV → DH → Out) : builtinK P b argTypes args m k = outE (builtinD P b argTypes args m) k := by
  cases b with
  | len =>
    simp only [builtinK, builtinD]
    rcases args with _ | ⟨x, _ | ⟨y, l⟩⟩
    · rfl
    · exact lenK_eq _ _ _ _ _
    · rfl
  | append =>
    simp only [builtinK, builtinD]
    rcases args with _ | ⟨x, _ | ⟨y, _ | ⟨z, l⟩⟩⟩
    · rfl
    · rfl
    · exact appK_eq _ _ _ _ _ _ _
    · rfl
  | _ => simp only [builtinK, slowK_eq]

/-! ### Every operation -/
def opX (P : Program) (op : Op) : Box (Slots → DH → (DV → DH → Out) → Out) :=
  match op with
  | .move x => ⟨fun t m k => nowH (evF x t) fun v => k v m⟩
  | .assign x => ⟨fun t m k => nowH (evF x t) fun v => k v m⟩
  | .pick c a b => ⟨fun t m k => pickK (evF c t) (evF a t) (evF b t) m k⟩
  | .alloc e => ⟨fun _ m k => allocK P e m k⟩
  | .box e x => ⟨fun t m k => nowH (evF x t) fun v => boxK e v m k⟩
  | .build T ps => ⟨fun t m k => buildK P T ps.toList t m k⟩
  | .buildSlice T len ps => ⟨fun t m k => buildSliceK P T len ps.toList t m k⟩
  | .load T a => ⟨fun t m k => loadK .no P T (evF a t) m fun v => k v m⟩
  | .store T a x => ⟨fun t m k => nowH (evF x t) fun v => storeK .no P T (evF a t) v m fun m => k undefD m⟩
  | .nilCheck x => ⟨fun t m k => nilK (evF x t) m k⟩
  | .binOp op T x y _ => ⟨fun t m k => binX .no P op T (evF x t) (evF y t) fun v => k v m⟩
  | .unOp op _ x => ⟨fun t m k => elimO .no (unOpD op (evF x t)) fun v => nowV v fun v => k v m⟩
  | .convert src dst x => ⟨fun t m k => convK P src dst (evF x t) m k⟩
  | .makeSlice T l c => ⟨fun t m k => makeSliceK P T (evF l t) (evF c t) m k⟩
  | .slice T x lo hi mx => ⟨fun t m k => elimO .no (sliceD P T (evF x t) (optEv t lo) (optEv t hi) (optEv t mx)) fun v => nowV v fun v => k v m⟩
  | .fieldAddr T x f => ⟨fun t m k => fieldAddrK P T (evF x t) f m k⟩
  | .field T x f => ⟨fun t m k => fieldK P T (evF x t) f m k⟩
  | .indexAddr T x i => ⟨fun t m k => indexAddrK P T (evF x t) (evF i t) m k⟩
  | .extract x i => ⟨fun t m k => extractK (evF x t) i m k⟩
  | .lookup T x i ok => ⟨fun t m k => elimO .no (lookupD P T (evF x t) (evF i t) ok m) fun v => nowV v fun v => k v m⟩
  | .call c => match c.callee with
    | .builtin b => ⟨fun t m k => builtinK P b c.argTypes (evsF c.args.toList t) m k⟩
    | _ => ⟨fun _ _ _ => .no⟩
  | op => ⟨fun t m k => slowK (opD P op t m) k⟩

def opK (P : Program) (op : Op) (t : Slots) (m : DH) (k : DV → DH → Out) : Out := Box.rec (motive := fun _ => Out) (fun f => f t m k) (opX P op)

theorem opK_eq (P : Program) (op : Op) (t : Slots) (m : DH) (k : DV → DH → Out) : opK P op t m k = outE (opD P op t m) k := by
  unfold opK
  cases op with
  | call c =>
    cases hc : c.callee <;> simp only [opX, opD, hc, builtinK_eq, evsF_eq] <;> rfl
  | _ => simp only [opX, opD, nowH_eq, nowV_eq, evF_eq, pickK_eq, allocK_eq, boxK_eq, buildK_eq, buildSliceK_eq, loadK_eq, storeK_eq, nilK_eq, binX_eq, convK_eq, makeSliceK_eq, fieldAddrK_eq, fieldK_eq, indexAddrK_eq, extractK_eq, slowK_eq, outE_okV, outE_okM] <;> rfl
end
end Go.Det
