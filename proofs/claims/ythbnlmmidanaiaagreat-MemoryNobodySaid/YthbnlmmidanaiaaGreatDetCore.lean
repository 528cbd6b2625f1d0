/-
  A deterministic machine for a part of the model's programs: values, memory by names, and what each operation does. Definitions alone; that the model follows it is proved in the texts behind this one.
-/
import Derived.StillTail
set_option linter.unusedVariables false
set_option linter.unusedSimpArgs false
set_option linter.unusedSectionVars false
namespace Go.Det

/-! ### A store by numbers -/
inductive PW where
  | z
  | a (p : PW)
  | b (p : PW)
  | c (p : PW)
  | d (p : PW)
  deriving DecidableEq

def digD (p : PW) : Nat → PW
  | 0 => .a p
  | 1 => .b p
  | 2 => .c p
  | _ => .d p

/-- The way to a number. -/
def wayF : Nat → Nat → PW
  | 0, _ => .z
  | f + 1, i => match i with
    | 0 => .z
    | j + 1 => digD (wayF f (j / 4)) (j % 4)

def way (i : Nat) : PW := wayF (i + 1) i

inductive PM (α : Type) where
  | lf
  | nd (v : Option α) (a b c d : PM α)

def PM.getP {α : Type} : PW → PM α → Option α
  | .z, t => match t with
    | .lf => none
    | .nd v _ _ _ _ => v
  | .a p, t => match t with
    | .lf => none
    | .nd _ a _ _ _ => PM.getP p a
  | .b p, t => match t with
    | .lf => none
    | .nd _ _ b _ _ => PM.getP p b
  | .c p, t => match t with
    | .lf => none
    | .nd _ _ _ c _ => PM.getP p c
  | .d p, t => match t with
    | .lf => none
    | .nd _ _ _ _ d => PM.getP p d

def PM.setP {α : Type} (x : α) : PW → PM α → PM α
  | .z, t => match t with
    | .lf => .nd (some x) .lf .lf .lf .lf
    | .nd _ a b c d => .nd (some x) a b c d
  | .a p, t => match t with
    | .lf => .nd none (PM.setP x p .lf) .lf .lf .lf
    | .nd v a b c d => .nd v (PM.setP x p a) b c d
  | .b p, t => match t with
    | .lf => .nd none .lf (PM.setP x p .lf) .lf .lf
    | .nd v a b c d => .nd v a (PM.setP x p b) c d
  | .c p, t => match t with
    | .lf => .nd none .lf .lf (PM.setP x p .lf) .lf
    | .nd v a b c d => .nd v a b (PM.setP x p c) d
  | .d p, t => match t with
    | .lf => .nd none .lf .lf .lf (PM.setP x p .lf)
    | .nd v a b c d => .nd v a b c (PM.setP x p d)

def PM.get {α : Type} (t : PM α) (i : Nat) : Option α := PM.getP (way i) t

def PM.set {α : Type} (t : PM α) (i : Nat) (x : α) : PM α := PM.setP x (way i) t

/-! ### Values and memory -/
inductive DV where
  | int (k : IntKind) (n : Int)
  | bool (b : Bool)
  | str (s : ByteArray)
  /- a slice of a row of memory: the row, the cell where it begins, how many elements, what its capacity is at least (just so, if 'ex'), an element's cells -/
  | sl (b off len cap : Nat) (ex : Bool) (sz : Nat)
  /- a slice of what nobody changes: whether it is nil (none: not known), an element's cells, how many elements, all cells -/
  | dsl (z : Option Bool) (sz n : Nat) (cs : List DV)
  | ptr (b off : Nat)
  | nilp
  /- the address of what nobody changes: the cells from there on -/
  | dptr (cs : List DV)
  | fn (f : FuncId) (fst caps : List DV)
  | nilf
  | mp (b : Nat)
  | nilm
  | agg (cs : List DV)
  | tup (vs : List DV)
  | junk

def undefD : DV := .tup []

/-- What lies behind a name: cells (of an element type; may they be written?), a map, a map's iterator; a row that nobody may look at any more. -/
inductive DO where
  | cells (cs : List DV) (e : TypeId) (ro : Bool)
  | map (es : List (DV × DV × Nat)) (clock : Nat)
  | iter (m : Option Nat) (since : Nat) (seen : List Nat) (last : Nat)
  | dead

structure DH where
  h : PM DO
  n : Nat
  /- the names that were changed -/
  wrs : List Nat

def addW (b : Nat) : List Nat → List Nat
  | [] => [b]
  | c :: cs => match Nat.beq c b with
    | true => c :: cs
    | false => b :: c :: cs

def oldOf (n : Nat) : List Nat → List Nat
  | [] => []
  | b :: bs => match Nat.blt b n with
    | true => b :: oldOf n bs
    | false => oldOf n bs

def DV.cells : DV → List DV
  | .agg cs => cs
  | v => [v]

def DV.one : DV → Bool
  | .agg _ | .tup _ | .junk => false
  | _ => true

def ofValues : List Value → Option (List DV)
  | [] => some []
  | v :: vs =>
    match ofValues vs with
    | none => none
    | some ds =>
      match v with
      | .int k n => some (.int k n :: ds)
      | .bool b => some (.bool b :: ds)
      | .string s => some (.str s :: ds)
      | .pointer none => some (.nilp :: ds)
      | .slice none 0 0 => some (.dsl (some true) 0 0 [] :: ds)
      | .map none => some (.nilm :: ds)
      | .nilFunc => some (.nilf :: ds)
      | _ => none

def ofConst (v : Value) : DV :=
  match v with
  | .agg cs => match ofValues cs.toList with | some ds => .agg ds | none => .junk
  | .tuple vs => match ofValues vs.toList with | some ds => .tup ds | none => .junk
  | v => match ofValues [v] with | some [d] => d | _ => .junk

def zeroOf (P : Program) (t : TypeId) : Option DV :=
  match P.info? t with
  | some i => match i.zero with
    | some v => match ofConst v with
      | .junk => none
      | d => some d
    | none => none
  | none => none

/-! ### Frames -/
abbrev Slots := PM DV

def ev (t : Slots) : Operand → DV
  | .tmp i => (t.get i).getD undefD
  | .const v => ofConst v
  | .global _ => .junk
  | .func f => .fn f [] []

/-! ### Operations -/
def isAggB (P : Program) (t : TypeId) : Option Bool :=
  match P.underlying t with
  | some (.struct _) | some (.array _ _) => some true
  | some _ => some false
  | none => none

def sizeB (P : Program) (t : TypeId) : Option Nat := (P.info? t).map (·.size)

/-- The cells of a variable of a type, the first of these. -/
def takeVar (P : Program) (t : TypeId) (cs : List DV) : Option DV :=
  match isAggB P t, sizeB P t with
  | some true, some k => if k ≤ cs.length then some (.agg (cs.take k)) else none
  | some false, some _ => match cs with | c :: _ => if c.one then some c else none | [] => none
  | _, _ => none

def loadD (P : Program) (t : TypeId) (a : DV) (m : DH) : Option DV :=
  match a with
  | .ptr b off => match m.h.get b with
    | some (.cells cs _ _) => takeVar P t (cs.drop off)
    | _ => none
  | .dptr cs => takeVar P t cs
  | _ => none

def setAt : List DV → Nat → List DV → List DV
  | cs, _, [] => cs
  | cs, i, v :: vs => setAt (cs.set i v) (i + 1) vs

def allOne (cs : List DV) : Bool := cs.all DV.one

def storeD (P : Program) (t : TypeId) (a v : DV) (m : DH) : Option DH :=
  match a with
  | .ptr b off => match m.h.get b with
    | some (.cells cs e false) =>
      if sizeB P t = some v.cells.length ∧ off + v.cells.length ≤ cs.length ∧ allOne v.cells = true then
        some { m with h := m.h.set b (.cells (setAt cs off v.cells) e false), wrs := addW b m.wrs }
      else none
    | _ => none
  | _ => none

@[reducible] def DH.add (m : DH) (d : DO) : DH := { m with h := m.h.set m.n d, n := m.n + 1 }

def fillD (place : Nat → Option (Nat × Nat)) (cells : List DV) : List (Nat × DV) → Option (List DV)
  | [] => some cells
  | (i, v) :: rest =>
    match place i with
    | none => none
    | some (off, size) =>
      match Nat.beq v.cells.length size && Nat.ble (off + size) cells.length && allOne v.cells with
      | true => fillD place (setAt cells off v.cells) rest
      | false => none

def fieldOf (P : Program) (t : TypeId) (f : Nat) : Option Field :=
  match P.underlying t with
  | some (.struct fs) => fs[f]?
  | _ => none

/-- Does a number fit its kind? (Quick in the kernel.) -/
def fitsK (k : IntKind) (n : Int) : Bool :=
  match n with
  | .ofNat a => match k with
    | .i64 => Nat.blt a 9223372036854775808
    | .i32 => Nat.blt a 2147483648
    | .i16 => Nat.blt a 32768
    | .i8 => Nat.blt a 128
    | .u64 => Nat.blt a 18446744073709551616
    | .u32 => Nat.blt a 4294967296
    | .u16 => Nat.blt a 65536
    | .u8 => Nat.blt a 256
  | .negSucc a => match k with
    | .i64 => Nat.blt a 9223372036854775808
    | .i32 => Nat.blt a 2147483648
    | .i16 => Nat.blt a 32768
    | .i8 => Nat.blt a 128
    | _ => false

def wrapD (k : IntKind) (n : Int) : Int :=
  match fitsK k n with
  | true => n
  | false => k.wrap n

def nnB : Int → Bool
  | .ofNat _ => true
  | .negSucc _ => false

/-- Bits of two numbers. -/
def bitsD (op : Nat → Nat → Nat) (slow : Int) (k : IntKind) (x y : Int) : Int :=
  match nnB x && nnB y && fitsK k x && fitsK k y with
  | true => Int.ofNat (op x.toNat y.toNat)
  | false => slow

def intOpD (op : BinOp) (k : IntKind) (x y : Int) : Option DV :=
  match op with
  | .add => some (.int k (wrapD k (x + y)))
  | .sub => some (.int k (wrapD k (x - y)))
  | .mul => some (.int k (wrapD k (x * y)))
  | .quo => if y = 0 then none else some (.int k (wrapD k (x.tdiv y)))
  | .rem => if y = 0 then none else some (.int k (x.tmod y))
  | .and => some (.int k (bitsD Nat.land (k.wrap (BitVec.ofInt k.bits x &&& BitVec.ofInt k.bits y).toNat) k x y))
  | .or => some (.int k (bitsD Nat.lor (k.wrap (BitVec.ofInt k.bits x ||| BitVec.ofInt k.bits y).toNat) k x y))
  | .xor => some (.int k (bitsD Nat.xor (k.wrap (BitVec.ofInt k.bits x ^^^ BitVec.ofInt k.bits y).toNat) k x y))
  | .andNot => some (.int k (k.wrap (BitVec.ofInt k.bits x &&& ~~~(BitVec.ofInt k.bits y)).toNat))
  | .eql => some (.bool (x == y))
  | .neq => some (.bool (x != y))
  | .lss => some (.bool (decide (x < y)))
  | .leq => some (.bool (decide (x ≤ y)))
  | .gtr => some (.bool (decide (x > y)))
  | .geq => some (.bool (decide (x ≥ y)))
  | _ => none

def shiftD (op : BinOp) (k : IntKind) (x y : Int) : Option DV :=
  if y < 0 then none else
  match op with
  | .shl => some (.int k (wrapD k (x * Int.ofNat (Nat.pow 2 (min y.toNat k.bits)))))
  | .shr => some (.int k (x.fdiv (Int.ofNat (Nat.pow 2 (min y.toNat k.bits)))))
  | _ => none

def strOpD (op : BinOp) (x y : ByteArray) : Option DV :=
  match op with
  | .add => if ((x.size + y.size : Nat) : Int) > IntKind.i64.max then none else some (.str (x ++ y))
  | .eql => some (.bool (x.data.toList == y.data.toList))
  | .neq => some (.bool !(x.data.toList == y.data.toList))
  | .lss => some (.bool (Op.bytesLess x.data.toList y.data.toList))
  | .leq => some (.bool (Op.bytesLess x.data.toList y.data.toList || x.data.toList == y.data.toList))
  | .gtr => some (.bool !(Op.bytesLess x.data.toList y.data.toList || x.data.toList == y.data.toList))
  | .geq => some (.bool !(Op.bytesLess x.data.toList y.data.toList))
  | _ => none

/-- Equality of structs as the model goes: fields in order, up to the first that differs. -/
def eqFs (P : Program) (r : TypeId → List DV → List DV → Option Bool) (xs ys : List DV) : List Field → Option Bool
  | [] => some true
  | f :: fs =>
    if f.name = "_" then none else
    match sizeB P f.type with
    | none => none
    | some k =>
      match Nat.ble (f.offset + k) xs.length && Nat.ble (f.offset + k) ys.length with
      | false => none
      | true => match r f.type ((xs.drop f.offset).take k) ((ys.drop f.offset).take k) with
        | some true => eqFs P r xs ys fs
        | some false => some false
        | none => none

def eqIs (r : List DV → List DV → Option Bool) (k : Nat) (xs ys : List DV) : Nat → Option Bool
  | 0 => some true
  | n + 1 =>
    match Nat.ble k xs.length && Nat.ble k ys.length with
    | false => none
    | true => match r (xs.take k) (ys.take k) with
      | some true => eqIs r k (xs.drop k) (ys.drop k) n
      | some false => some false
      | none => none

def eqD (P : Program) : Nat → TypeId → List DV → List DV → Option Bool
  | 0, _, _, _ => none
  | d + 1, t, xs, ys =>
    match P.underlying t with
    | some .bool => match xs, ys with
      | .bool a :: _, .bool b :: _ => some (a == b)
      | _, _ => none
    | some (.int _) => match xs, ys with
      | .int k a :: _, .int k' b :: _ => if k = k' then some (a == b) else none
      | _, _ => none
    | some .string => match xs, ys with
      | .str a :: _, .str b :: _ => some (a.data.toList == b.data.toList)
      | _, _ => none
    | some (.struct fs) => if P.stoodInHeld t then none else eqFs P (eqD P d) xs ys fs.toList
    | some (.array n e) => match sizeB P e with
      | none => none
      | some k => if k = 0 then none else eqIs (eqD P d e) k xs ys n
    | _ => none

/-- Is it nil? -/
def nilB : DV → Option Bool
  | .nilp | .nilm | .nilf => some true
  | .ptr _ _ | .dptr _ | .mp _ | .fn _ _ _ => some false
  | .sl .. => some false
  | .dsl (some z) _ _ _ => some z
  | .dsl none _ n _ => if n = 0 then none else some false
  | _ => none

def eqlD (P : Program) (t : TypeId) (x y : DV) : Option Bool :=
  match P.underlying t with
  | some .bool => match x, y with
    | .bool a, .bool b => some (a == b)
    | _, _ => none
  | some (.pointer _) => match y with
    | .nilp => match x with
      | .nilp | .ptr _ _ | .dptr _ => nilB x
      | _ => none
    | _ => none
  | some (.slice _) => match y with
    | .dsl (some true) _ 0 [] => match x with
      | .sl .. | .dsl .. => nilB x
      | _ => none
    | _ => none
  | some (.map _ _) => match y with
    | .nilm => match x with
      | .nilm | .mp _ => nilB x
      | _ => none
    | _ => none
  | some (.func ..) => match y with
    | .nilf => match x with
      | .nilf | .fn _ _ _ => nilB x
      | _ => none
    | _ => none
  | some (.struct _) | some (.array _ _) => match x, y with
    | .agg xs, .agg ys => if P.eqGuardType P.depth t then none else eqD P 50 t xs ys
    | _, _ => none
  | _ => none

def binOpD (P : Program) (op : BinOp) (t : TypeId) (x y : DV) : Option DV :=
  match x, y with
  | .int k a, .int k' b =>
    match op with
    | .shl | .shr => shiftD op k a b
    | _ => if k = k' then intOpD op k a b else none
  | .str a, .str b => strOpD op a b
  | x, y => match op with
    | .eql => (eqlD P t x y).map .bool
    | .neq => (eqlD P t x y).map fun b => .bool !b
    | _ => none

def unOpD (op : UnOp) (x : DV) : Option DV :=
  match op, x with
  | .neg, .int k n => some (.int k (wrapD k (0 - n)))
  | .xor, .int k n => some (.int k (k.wrap (BitVec.ofInt k.bits (if k.signed then -1 else k.max) ^^^ BitVec.ofInt k.bits n).toNat))
  | .not, .bool b => some (.bool !b)
  | _, _ => none

def bytesD (cs : List DV) : Option (List UInt8) :=
  match cs with
  | [] => some []
  | .int .u8 n :: cs => match bytesD cs with
    | some l => some (UInt8.ofNat n.toNat :: l)
    | none => none
  | _ => none

/-- The cells of a slice's elements. -/
def rowD (v : DV) (m : DH) : Option (Nat × List DV) :=
  match v with
  | .sl b off len _ _ sz => match m.h.get b with
    | some (.cells cs _ _) => match Nat.ble (off + len * sz) cs.length with
      | true => some (len, (cs.drop off).take (len * sz))
      | false => none
    | _ => none
  | .dsl _ _ n cs => some (n, cs)
  | _ => none

def bytesV (s : ByteArray) : List DV := s.data.toList.map fun c => .int .u8 c.toNat

def convD (P : Program) (src dst : TypeId) (x : DV) (m : DH) : Option (DV × DH) :=
  match P.underlying src with
  | none => none
  | some st => match P.underlying dst with
    | none => none
    | some dt => match x with
      | .int _ n => match dt with
        | .int k => some (.int k (wrapD k n), m)
        | _ => none
      | .str s => match st, dt with
        | .string, .string => some (.str s, m)
        | .string, .slice e => match P.underlying e with
          | some (.int .u8) => match Nat.ble s.size 70368744177664 with
            | true => some (.sl m.n 0 s.size s.size false 1, m.add (.cells (bytesV s) e false))
            | false => none
          | _ => none
        | _, _ => none
      | x => match st, dt with
        | .slice e, .string => match P.underlying e with
          | some (.int .u8) => match rowD x m with
            | some (n, cs) => match Nat.beq cs.length n with
              | true => match bytesD cs with
                | some l => some (.str ⟨l.toArray⟩, m)
                | none => none
              | false => none
            | none => none
          | _ => none
        | _, _ => none

def asNat (v : DV) : Option Nat :=
  match v with
  | .int _ i => if 0 ≤ i then some i.toNat else none
  | _ => none

def optNat (v : Option DV) (d : Nat) : Option Nat :=
  match v with
  | none => some d
  | some v => asNat v

def cutStr (s : ByteArray) (lo hi mx : Option DV) : Option DV :=
  match mx, optNat hi s.size, optNat lo 0 with
  | none, some h, some l => match Nat.ble l h && Nat.ble h s.size with
    | true => some (.str (s.extract l h))
    | false => none
  | _, _, _ => none

def cutSl (k : Nat) (b off len cap : Nat) (ex : Bool) (sz : Nat) (lo hi mx : Option DV) : Option DV :=
  match optNat hi len, optNat lo 0 with
  | some h, some l => match Nat.beq k sz && Nat.ble l h && Nat.ble h cap with
    | true => match mx with
      | none => some (.sl b (off + l * sz) (h - l) (cap - l) ex sz)
      | some v => match hi, asNat v with
        | some _, some q => match Nat.ble h q && Nat.ble q cap with
          | true => some (.sl b (off + l * sz) (h - l) (q - l) true sz)
          | false => none
        | _, _ => none
    | false => none
  | _, _ => none

def cutDsl (k : Nat) (z : Option Bool) (sz n : Nat) (cs : List DV) (lo hi mx : Option DV) : Option DV :=
  match mx, optNat hi n, optNat lo 0 with
  | none, some h, some l => match Nat.ble l h && Nat.ble h n && (Nat.beq n 0 || Nat.beq k sz) with
    | true => some (.dsl z sz (h - l) ((cs.drop (l * sz)).take ((h - l) * sz)))
    | false => none
  | _, _, _ => none

def sliceD (P : Program) (t : TypeId) (x : DV) (lo hi mx : Option DV) : Option DV :=
  match P.underlying t with
  | some .string => match x with
    | .str s => cutStr s lo hi mx
    | _ => none
  | some (.slice e) => match sizeB P e with
    | some k => match x with
      | .sl b off len cap ex sz => cutSl k b off len cap ex sz lo hi mx
      | .dsl z sz n cs => cutDsl k z sz n cs lo hi mx
      | _ => none
    | none => none
  | _ => none

/-- Adding to a slice: there is room; there is none; nobody knows (the old row is nobody's from there on). -/
def appRoom (b off len cap : Nat) (ex : Bool) (sz k : Nat) (cs : List DV) (e' : TypeId) (ro : Bool) (new : List DV) (m : DH) : Option (DV × DH) :=
  match !ro && Nat.ble (off + (len + k) * sz) cs.length with
  | true => some (.sl b off (len + k) cap ex sz, { h := m.h.set b (.cells (setAt cs (off + len * sz) new) e' false), n := m.n, wrs := addW b m.wrs })
  | false => none

def appNone (e : TypeId) (off len sz k : Nat) (cs new : List DV) (m : DH) : Option (DV × DH) :=
  some (.sl m.n 0 (len + k) (len + k) false sz, m.add (.cells ((cs.drop off).take (len * sz) ++ new) e false))

def appOpen (e : TypeId) (b off len sz k : Nat) (cs : List DV) (e' : TypeId) (ro : Bool) (new : List DV) (m : DH) : Option (DV × DH) :=
  match !ro && Nat.beq cs.length (len * sz) && Nat.beq off 0 && Nat.beq e' e with
  | true => some (.sl m.n 0 (len + k) (len + k) false sz, { h := (m.h.set m.n (.cells (cs ++ new) e false)).set b .dead, n := m.n + 1, wrs := addW b m.wrs })
  | false => none

def appendD (P : Program) (e : TypeId) (s : DV) (k : Nat) (new : List DV) (m : DH) : Option (DV × DH) :=
  match sizeB P e, zeroOf P e with
  | some sz, some z =>
    match Nat.blt 0 sz && Nat.beq new.length (k * sz) && allOne new && Nat.beq z.cells.length sz with
    | false => none
    | true => match s with
      | .dsl (some true) _ 0 [] => match k with
        | 0 => some (s, m)
        | _ => some (.sl m.n 0 k k false sz, m.add (.cells new e false))
      | .sl b off len cap ex sz' => match m.h.get b with
        | some (.cells cs e' ro) => match Nat.beq sz' sz && Nat.ble (off + len * sz) cs.length with
          | false => none
          | true => match Nat.ble (len + k) cap with
            | true => appRoom b off len cap ex sz k cs e' ro new m
            | false => match ex with
              | true => appNone e off len sz k cs new m
              | false => appOpen e b off len sz k cs e' ro new m
        | _ => none
      | _ => none
  | _, _ => none

/-- The room that a model's row may take: what is asked for in bytes. -/
def fitsD (P : Program) (e : TypeId) (n : Nat) : Bool :=
  match P.info? e with
  | some i => Nat.ble (n * i.bytes) 70368744177664 && Nat.blt 0 i.bytes
  | none => false

/-! ### Maps: keys are whole numbers or texts -/
def plainL : List DV → Bool
  | [] => true
  | .int _ _ :: xs => plainL xs
  | .bool _ :: xs => plainL xs
  | .str _ :: xs => plainL xs
  | _ => false

def sameC : DV → DV → Bool
  | .int k a, .int k' b => decide (k = k') && (a == b)
  | .bool a, .bool b => a == b
  | .str a, .str b => a.data.toList == b.data.toList
  | _, _ => false

def sameL : List DV → List DV → Bool
  | [], [] => true
  | x :: xs, y :: ys => sameC x y && sameL xs ys
  | _, _ => false

def keyEq (P : Program) (t : TypeId) : DV → DV → Option Bool
  | .int k a, .int k' b => if k = k' then some (a == b) else none
  | .str a, .str b => some (a.data.toList == b.data.toList)
  | .agg xs, .agg ys => match eqD P 50 t xs ys with
    | some true => match sameL xs ys with
      | true => some true
      | false => none
    | some false => some false
    | none => none
  | _, _ => none

def findD (P : Program) (t : TypeId) (k : DV) : List (DV × DV × Nat) → Nat → Option (Option (Nat × DV))
  | [], _ => some none
  | e :: es, i => match keyEq P t k e.1 with
    | some true => some (some (i, e.2.1))
    | some false => findD P t k es (i + 1)
    | none => none

/-- Fields that are numbers, truths or texts, of a struct of so many cells. -/
def plainFs (P : Program) (n : Nat) : List Field → Bool
  | [] => true
  | f :: fs => match P.underlying f.type with
    | some (.int _) => Nat.blt f.offset n && plainFs P n fs
    | some .bool => Nat.blt f.offset n && plainFs P n fs
    | some .string => Nat.blt f.offset n && plainFs P n fs
    | _ => false

def keyOk (P : Program) (t : TypeId) (k : DV) : Bool :=
  match P.underlying t with
  | some (.int _) => match k with
    | .int _ _ => true
    | _ => false
  | some .string => match k with
    | .str _ => true
    | _ => false
  | some (.struct fs) => match k with
    | .agg cs => plainFs P cs.length fs.toList && plainL cs
    | _ => false
  | _ => false

def mapOf (m : DH) : DV → Option (List (DV × DV × Nat) × Nat)
  | .nilm => some ([], 0)
  | .mp b => match m.h.get b with
    | some (.map es c) => some (es, c)
    | _ => none
  | _ => none

def lookupD (P : Program) (t : TypeId) (x k : DV) (ok : Bool) (m : DH) : Option DV :=
  match P.underlying t with
  | some (.map kt et) => match keyOk P kt k with
    | false => none
    | true => match mapOf m x with
      | some (es, _) => match findD P kt k es 0 with
        | some (some (_, v)) => some (match ok with | true => .tup [v, .bool true] | false => v)
        | some none => match zeroOf P et with
          | some z => some (match ok with | true => .tup [z, .bool false] | false => z)
          | none => none
        | none => none
      | none => none
  | _ => none

def setEnt (k v : DV) : List (DV × DV × Nat) → Nat → List (DV × DV × Nat)
  | [], _ => []
  | e :: es, 0 => (k, v, e.2.2) :: es
  | e :: es, i + 1 => e :: setEnt k v es i

def updateD (P : Program) (t : TypeId) (x k v : DV) (m : DH) : Option DH :=
  match P.underlying t with
  | some (.map kt _) => match x with
    | .mp b => match keyOk P kt k with
      | false => none
      | true => match m.h.get b with
        | some (.map es c) => match findD P kt k es 0 with
          | some (some (i, _)) => some { h := m.h.set b (.map (setEnt k v es i) c), n := m.n, wrs := addW b m.wrs }
          | some none => some { h := m.h.set b (.map (es ++ [(k, v, c)]) (c + 1)), n := m.n, wrs := addW b m.wrs }
          | none => none
        | _ => none
    | _ => none
  | _ => none

def deleteD (P : Program) (t : TypeId) (x k : DV) (m : DH) : Option DH :=
  match P.underlying t with
  | some (.map kt _) => match x with
    | .mp b => match keyOk P kt k with
      | false => none
      | true => match m.h.get b with
        | some (.map es c) => match findD P kt k es 0 with
          | some (some (i, _)) => some { h := m.h.set b (.map (es.eraseIdx i) c), n := m.n, wrs := addW b m.wrs }
          | some none => some { h := m.h.set b (.map es c), n := m.n, wrs := addW b m.wrs }
          | none => none
        | _ => none
    | _ => none
  | _ => none

def rangeD (P : Program) (t : TypeId) (x : DV) (m : DH) : Option (DV × DH) :=
  match P.underlying t with
  | some (.map _ _) => match x with
    | .nilm => some (.ptr m.n 0, m.add (.iter none 0 [] 0))
    | .mp b => match m.h.get b with
      | some (.map _ c) => some (.ptr m.n 0, m.add (.iter (some b) c [] c))
      | _ => none
    | _ => none
  | _ => none

/-- What is left of a map that is gone through. -/
def leftD (seen : List Nat) : List (DV × DV × Nat) → List (DV × DV × Nat)
  | [] => []
  | e :: es => match seen.contains e.2.2 with
    | true => leftD seen es
    | false => e :: leftD seen es

def newerD (last : Nat) : List (DV × DV × Nat) → Bool
  | [] => true
  | e :: es => match Nat.ble last e.2.2 with
    | true => newerD last es
    | false => false

/-- The next of a map that has one left at most (of more the order is open). -/
def nextD (x : DV) (isString : Bool) (m : DH) : Option (DV × DH) :=
  match isString with
  | true => none
  | false => match x with
    | .ptr r 0 => match m.h.get r with
      | some (.iter none _ _ _) => some (.tup [.bool false], m)
      | some (.iter (some b) since seen last) => match m.h.get b with
        | some (.map es c) => match !seen.isEmpty && !es.isEmpty && newerD last es with
          | true => none
          | false => match leftD seen es with
            | [] => some (.tup [.bool false], m)
            | [e] => match Nat.blt e.2.2 since with
              | true => some (.tup [.bool true, e.1, e.2.1], { h := m.h.set r (.iter (some b) since (seen ++ [e.2.2]) c), n := m.n, wrs := addW r m.wrs })
              | false => none
            | _ => none
        | _ => none
      | _ => none
    | _ => none

def findBorn (s : Nat) : List (DV × DV × Nat) → Option (DV × DV)
  | [] => none
  | e :: es => match Nat.beq e.2.2 s with
    | true => some (e.1, e.2.1)
    | false => findBorn s es

def lastD : List Nat → Option Nat
  | [] => none
  | [x] => some x
  | _ :: y :: ys => lastD (y :: ys)

def entryD (x : DV) (m : DH) : Option DV :=
  match x with
  | .ptr r 0 => match m.h.get r with
    | some (.iter (some b) _ seen last) => match m.h.get b with
      | some (.map es c) => match Nat.beq c last with
        | false => none
        | true => match lastD seen with
          | some s => match findBorn s es with
            | some (k, v) => some (.tup [k, v])
            | none => none
          | none => none
      | _ => none
    | _ => none
  | _ => none

/-! ### One operation that is no call of a function -/
def mapEv (t : Slots) : List (Nat × Operand) → List (Nat × DV)
  | [] => []
  | p :: ps => (p.1, ev t p.2) :: mapEv t ps

def evs (t : Slots) : List Operand → List DV
  | [] => []
  | x :: xs => ev t x :: evs t xs

def optEv (t : Slots) : Option Operand → Option DV
  | none => none
  | some x => some (ev t x)

abbrev OR := Option (DV × DH)

def okV (m : DH) : Option DV → OR
  | some v => some (v, m)
  | none => none

def okM : Option DH → OR
  | some m => some (undefD, m)
  | none => none

def lenD (P : Program) (t : Option TypeId) (x : DV) (m : DH) : OR :=
  match t.bind P.underlying with
  | some .string => match x with
    | .str s => some (.int .i64 s.size, m)
    | _ => none
  | some (.slice _) => match x with
    | .sl _ _ n _ _ _ => some (.int .i64 n, m)
    | .dsl _ _ n _ => some (.int .i64 n, m)
    | _ => none
  | some (.map _ _) => match mapOf m x with
    | some es => some (.int .i64 es.1.length, m)
    | none => none
  | some (.array n _) => match x with
    | .mp _ => none
    | _ => some (.int .i64 n, m)
  | _ => none

def lenOfD : DV → Option Nat
  | .sl _ _ len _ _ _ => some len
  | .dsl _ _ n _ => some n
  | _ => none

def appD (P : Program) (t u : Option TypeId) (s x : DV) (m : DH) : OR :=
  match t.bind P.underlying, u.bind P.underlying with
  | some (.slice e), some (.slice _) => match rowD x m, lenOfD s with
    | some (k, new), some len => match fitsD P e (len + k) with
      | true => appendD P e s k new m
      | false => none
    | _, _ => none
  | _, _ => none

def minmaxD (mx : Bool) (x y : DV) (m : DH) : OR :=
  match x, y with
  | .int k a, .int k' b => if k = k' then some (.int k (if (if mx then decide (b > a) else decide (b < a)) then b else a), m) else none
  | _, _ => none

def builtinD (P : Program) (b : Builtin) (argTypes : Array TypeId) (args : List DV) (m : DH) : OR :=
  match b with
  | .len => match args with
    | [x] => lenD P argTypes[0]? x m
    | _ => none
  | .append => match args with
    | [s, x] => appD P argTypes[0]? argTypes[1]? s x m
    | _ => none
  | .max => match args with
    | [x, y] => minmaxD true x y m
    | _ => none
  | .min => match args with
    | [x, y] => minmaxD false x y m
    | _ => none
  | .delete => match args with
    | [x, k] => match argTypes[0]? with
      | some t => match deleteD P t x k m with
        | some m => some (.tup [], m)
        | none => none
      | none => none
    | _ => none
  | _ => none

def pickD (c a b : DV) (m : DH) : OR :=
  match c with
  | .bool true => some (a, m)
  | .bool false => some (b, m)
  | _ => none

def newPtr (cs : List DV) (e : TypeId) (m : DH) : OR := some (.ptr m.n 0, { m with h := m.h.set m.n (.cells cs e false), n := m.n + 1 })

def allocD (P : Program) (e : TypeId) (m : DH) : OR :=
  match zeroOf P e with
  | some z => newPtr z.cells e m
  | none => none

def boxD (e : TypeId) (v : DV) (m : DH) : OR :=
  match allOne v.cells with
  | true => newPtr v.cells e m
  | false => none

def zerosD (z : List DV) : Nat → List DV
  | 0 => []
  | n + 1 => z ++ zerosD z n

def placesOf (P : Program) : List Field → Option (List (Nat × Nat))
  | [] => some []
  | f :: fs => match sizeB P f.type, placesOf P fs with
    | some k, some l => some ((f.offset, k) :: l)
    | _, _ => none

def placeD (P : Program) (T : TypeId) : Option (Nat → Option (Nat × Nat)) :=
  match P.underlying T with
  | some (.struct fs) => match placesOf P fs.toList with
    | some l => some fun i => l[i]?
    | none => none
  | some (.array _ e) => match sizeB P e with
    | some k => some fun i => some (i * k, k)
    | none => none
  | _ => none

def buildD (P : Program) (T : TypeId) (parts : List (Nat × DV)) (m : DH) : OR :=
  match zeroOf P T, placeD P T with
  | some (.agg z), some pl => match fillD pl z parts with
    | some cs => some (.agg cs, m)
    | none => none
  | _, _ => none

def buildSliceD (P : Program) (T : TypeId) (len : Nat) (parts : List (Nat × DV)) (m : DH) : OR :=
  match P.underlying T with
  | some (.slice e) => match sizeB P e, zeroOf P e with
    | some k, some z =>
      match Nat.ble (len * k) 16777216 && Nat.blt 0 k && Nat.beq z.cells.length k && allOne z.cells with
      | false => none
      | true => match fillD (fun i => some (i * k, k)) (zerosD z.cells len) parts with
        | some cs => some (.sl m.n 0 len len true k, { m with h := m.h.set m.n (.cells cs e false), n := m.n + 1 })
        | none => none
    | _, _ => none
  | _ => none

def nilCheckD (v : DV) (m : DH) : OR :=
  match nilB v with
  | some false => some (v, m)
  | _ => none

def makeSliceD (P : Program) (T : TypeId) (l c : DV) (m : DH) : OR :=
  match P.underlying T with
  | some (.slice e) => match asNat l, asNat c, sizeB P e, zeroOf P e with
    | some l, some c, some k, some z =>
      match Nat.ble l c && fitsD P e c && Nat.beq z.cells.length k && Nat.ble c 70368744177664 && Nat.blt 0 k && allOne z.cells with
      | true => some (.sl m.n 0 l c true k, { m with h := m.h.set m.n (.cells (zerosD z.cells c) e false), n := m.n + 1 })
      | false => none
    | _, _, _, _ => none
  | _ => none

def fieldAddrD (P : Program) (T : TypeId) (x : DV) (f : Nat) (m : DH) : OR :=
  match fieldOf P T f with
  | some fd => match sizeB P fd.type with
    | some (_ + 1) => match x with
      | .ptr b off => some (.ptr b (off + fd.offset), m)
      | .dptr cs => some (.dptr (cs.drop fd.offset), m)
      | _ => none
    | _ => none
  | none => none

def fieldD (P : Program) (T : TypeId) (x : DV) (f : Nat) (m : DH) : OR :=
  match fieldOf P T f, x with
  | some fd, .agg cs => okV m (takeVar P fd.type (cs.drop fd.offset))
  | _, _ => none

def indexAddrD (P : Program) (T : TypeId) (x : DV) (i : DV) (m : DH) : OR :=
  match asNat i with
  | none => none
  | some i => match P.underlying T with
    | some (.slice e) => match sizeB P e with
      | some k => match x with
        | .sl b off len _ _ sz => match Nat.blt i len && Nat.beq sz k with
          | true => some (.ptr b (off + i * k), m)
          | false => none
        | .dsl _ sz n cs => match Nat.blt i n && Nat.beq sz k with
          | true => some (.dptr (cs.drop (i * k)), m)
          | false => none
        | _ => none
      | none => none
    | some (.array n e) => match sizeB P e with
      | some k => match Nat.blt i n with
        | true => match x with
          | .ptr b off => some (.ptr b (off + i * k), m)
          | .dptr cs => some (.dptr (cs.drop (i * k)), m)
          | _ => none
        | false => none
      | none => none
    | _ => none

def indexD (P : Program) (T : TypeId) (x : DV) (i : DV) (m : DH) : OR :=
  match asNat i with
  | none => none
  | some i => match P.underlying T with
    | some .string => match x with
      | .str s => match s.data.toList[i]? with
        | some c => some (.int .u8 c.toNat, m)
        | none => none
      | _ => none
    | some (.array n e) => match x with
      | .agg cs => match sizeB P e with
        | some k => match Nat.blt i n with
          | true => okV m (takeVar P e (cs.drop (i * k)))
          | false => none
        | none => none
      | _ => none
    | _ => none

def extractD (x : DV) (i : Nat) (m : DH) : OR :=
  match x with
  | .tup vs => okV m vs[i]?
  | _ => none

def makeFuncD (fn : Fn) (fst caps : List DV) (m : DH) : OR :=
  match fn with
  | .func f => some (.fn f fst caps, m)
  | _ => none

def opD (P : Program) (op : Op) (t : Slots) (m : DH) : OR :=
  match op with
  | .move x => some (ev t x, m)
  | .assign x => some (ev t x, m)
  | .pick c a b => pickD (ev t c) (ev t a) (ev t b) m
  | .alloc e => allocD P e m
  | .box e x => boxD e (ev t x) m
  | .build T parts => buildD P T (mapEv t parts.toList) m
  | .buildSlice T len parts => buildSliceD P T len (mapEv t parts.toList) m
  | .load T a => okV m (loadD P T (ev t a) m)
  | .store T a x => okM (storeD P T (ev t a) (ev t x) m)
  | .nilCheck x => nilCheckD (ev t x) m
  | .binOp op T x y _ => okV m (binOpD P op T (ev t x) (ev t y))
  | .unOp op _ x => okV m (unOpD op (ev t x))
  | .convert src dst x => convD P src dst (ev t x) m
  | .makeFunc fn first captured => makeFuncD fn (evs t first.toList) (evs t captured.toList) m
  | .makeMap _ none => some (.mp m.n, { m with h := m.h.set m.n (.map [] 0), n := m.n + 1 })
  | .makeSlice T l c => makeSliceD P T (ev t l) (ev t c) m
  | .slice T x lo hi mx => okV m (sliceD P T (ev t x) (optEv t lo) (optEv t hi) (optEv t mx))
  | .fieldAddr T x f => fieldAddrD P T (ev t x) f m
  | .field T x f => fieldD P T (ev t x) f m
  | .indexAddr T x i => indexAddrD P T (ev t x) (ev t i) m
  | .index T x i => indexD P T (ev t x) (ev t i) m
  | .lookup T x i ok => okV m (lookupD P T (ev t x) (ev t i) ok m)
  | .mapUpdate T x k v => okM (updateD P T (ev t x) (ev t k) (ev t v) m)
  | .range T x => rangeD P T (ev t x) m
  | .next x s => nextD (ev t x) s m
  | .entry x => okV m (entryD (ev t x) m)
  | .extract x i => extractD (ev t x) i m
  | .call c => match c.callee with
    | .builtin b => builtinD P b c.argTypes (evs t c.args.toList) m
    | _ => none
  | _ => none

/-! ### What an operation looks at and changes -/
def names : DV → List Nat
  | .ptr b _ => [b]
  | .sl b _ _ _ _ _ => [b]
  | .mp b => [b]
  | _ => []

def iterOf (m : DH) : DV → List Nat
  | .ptr r _ => match m.h.get r with
    | some (.iter (some b) _ _ _) => [b]
    | _ => []
  | _ => []

def namesL : List DV → List Nat
  | [] => []
  | x :: xs => names x ++ namesL xs

def mapNames : List DV → List Nat
  | .mp b :: _ => [b]
  | _ => []

def headNames : List DV → List Nat
  | [] => []
  | x :: _ => names x

/-- The rows that an operation looks at. -/
def rdD (op : Op) (t : Slots) (m : DH) : List Nat :=
  match op with
  | .load _ a => names (ev t a)
  | .store _ a _ => names (ev t a)
  | .convert _ _ x => names (ev t x)
  | .lookup _ x _ _ => names (ev t x)
  | .mapUpdate _ x _ _ => names (ev t x)
  | .range _ x => names (ev t x)
  | .next x _ => names (ev t x) ++ iterOf m (ev t x)
  | .entry x => names (ev t x) ++ iterOf m (ev t x)
  | .call c => match c.callee with
    | .builtin .len => mapNames (evs t c.args.toList)
    | _ => namesL (evs t c.args.toList)
  | _ => []

/-- The rows that an operation may change. -/
def wrD (op : Op) (t : Slots) : List Nat :=
  match op with
  | .store _ a _ => names (ev t a)
  | .mapUpdate _ x _ _ => names (ev t x)
  | .next x _ => names (ev t x)
  | .call c => match c.callee with
    | .builtin .append => headNames (evs t c.args.toList)
    | .builtin .delete => headNames (evs t c.args.toList)
    | _ => []
  | _ => []

/-! ### Code -/
inductive DX where
  | normal
  | exit (id : Nat)
  | ret

structure Env where
  P : Program
  /- what known functions answer -/
  ext : FuncId → List DV → DH → Option (DV × DH)
  /- of a region that draws: the pairs of its operations that nothing orders and that must be looked at (none: it is not known) -/
  pairs : FuncId → Nat → Option (List (Nat × Nat))

def put (t : Slots) (d : Option Nat) (v : DV) : Slots :=
  match d with
  | some d => t.set d v
  | none => t

def guardD (ops : Array Oper) (g : Nat × Bool) (t : Slots) : Option Bool :=
  match (ops[g.1]?).bind (·.dst) with
  | none => some false
  | some d => match t.get d with
    | some (.bool b) => some (b == g.2)
    | some .junk => none
    | _ => some false

def wantedD (ops : Array Oper) (o : Oper) (t : Slots) : Option Bool :=
  match o.guard with
  | none => some true
  | some g => guardD ops g t

/-- The function, and its arguments, that a call enters. -/
def targetD (c : Call) (t : Slots) : Option (FuncId × List DV) :=
  match c.callee with
  | .value f => match ev t f with
    | .fn g fst caps => some (g, fst ++ (evs t c.args.toList ++ caps))
    | _ => none
  | _ => none

def userCall (o : Op) : Option Call :=
  match o with
  | .call c => match c.callee with
    | .value _ => some c
    | _ => none
  | _ => none

def resD (P : Program) (t : Slots) (m : DH) : List ResultVar → Option (List DV)
  | [] => some []
  | .tmp i :: rs => match resD P t m rs with
    | some vs => some ((t.get i).getD undefD :: vs)
    | none => none
  | .cell a T :: rs => match loadD P T ((t.get a).getD undefD) m, resD P t m rs with
    | some v, some vs => some (v :: vs)
    | _, _ => none

def resultsD (P : Program) (fn : Func) (t : Slots) (m : DH) : OR :=
  match resD P t m fn.results.toList with
  | some [v] => some (v, m)
  | some vs => some (.tup vs, m)
  | none => none

def enterSlots : List DV → Nat → Slots → Slots
  | [], _, t => t
  | v :: vs, i, t => enterSlots vs (i + 1) (t.set i v)

/-- What an operation of a region that draws has done: nothing to memory; a new row; it has looked at rows; it may have changed rows (of those below a name). -/
inductive Kd where
  | idle
  | new (b : Nat)
  | read (rd : List Nat)
  | chain (wr : List Nat) (n : Nat)

inductive Cls where
  | idle | new | read | chain

def clsOf : Op → Cls
  | .move _ | .assign _ | .pick .. | .build .. | .nilCheck _ | .binOp .. | .unOp .. | .makeFunc .. | .slice .. | .fieldAddr .. | .field .. | .indexAddr .. | .index .. | .extract .. => .idle
  | .alloc _ | .box .. | .buildSlice .. | .makeSlice .. => .new
  | .load .. | .lookup .. => .read
  | .makeMap _ r => match r with
    | none => .new
    | some _ => .chain
  | .call c => match c.callee with
    | .builtin .len => .read
    | .builtin .max => .idle
    | .builtin .min => .idle
    | _ => .chain
  | _ => .chain

def countNew : List Oper → Nat
  | [] => 0
  | o :: os => match clsOf o.op with
    | .new => countNew os + 1
    | _ => countNew os

inductive Task where
  | call (f : FuncId) (args : List DV) (m : DH)
  | ops (f : FuncId) (all : Array Oper) (rest : List Oper) (t : Slots) (m : DH)
  | rops (f : FuncId) (all : Array Oper) (l : List (Nat × Nat)) (j : Nat) (rest : List Oper) (t : Slots) (m : DH) (b : Nat) (tr : List Kd)
  | code (f : FuncId) (c : Code) (t : Slots) (m : DH)

inductive Out where
  | val (v : DV) (m : DH)
  | st (x : DX) (t : Slots) (m : DH)
  | no

def Out.ofOR : OR → Out
  | some (v, m) => .val v m
  | none => .no

def leaveB (P : Program) (fn : Func) : Out → Out
  | .st .normal t m => Out.ofOR (resultsD P fn t m)
  | .st .ret t m => Out.ofOR (resultsD P fn t m)
  | _ => .no

def callB (E : Env) (ih : Task → Out) (f : FuncId) (args : List DV) (m : DH) : Out :=
  match E.P.funcs[f]? with
  | none => .no
  | some fn => match fn.body with
    | none => .no
    | some c => match E.ext f args m with
      | some r => .val r.1 r.2
      | none => match Nat.ble args.length fn.ntmps with
        | true => leaveB E.P fn (ih (.code f c (enterSlots args 0 .lf) m))
        | false => .no

def opsGo (ih : Task → Out) (f : FuncId) (all : Array Oper) (rest : List Oper) (t : Slots) (d : Option Nat) : Out → Out
  | .val v m => ih (.ops f all rest (put t d v) m)
  | _ => .no

def oneB (E : Env) (ih : Task → Out) (o : Op) (t : Slots) (m : DH) : Out :=
  match userCall o with
  | some c => match targetD c t with
    | some (g, args) => ih (.call g args m)
    | none => .no
  | none => Out.ofOR (opD E.P o t m)

def opsB (E : Env) (ih : Task → Out) (f : FuncId) (all : Array Oper) (rest : List Oper) (t : Slots) (m : DH) : Out :=
  match rest with
  | [] => .st .normal t m
  | o :: rest => match wantedD all o t with
    | none => .no
    | some false => ih (.ops f all rest (put t o.dst undefD) m)
    | some true => opsGo ih f all rest t o.dst (oneB E ih o.op t m)

def seqGo (ih : Task → Out) (f : FuncId) (b : Code) : Out → Out
  | .st .normal t m => ih (.code f b t m)
  | r => r

def blockGo (id : Nat) : Out → Out
  | .st (.exit i) t m => match Nat.beq i id with
    | true => .st .normal t m
    | false => .st (.exit i) t m
  | r => r

def condGo (ih : Task → Out) (f : FuncId) (a b : Code) (t : Slots) (m : DH) : DV → Out
  | .bool true => ih (.code f a t m)
  | .bool false => ih (.code f b t m)
  | _ => .no

/-! A region that draws: in the text's order; new rows have names of their own. -/
def getKd : List Kd → Nat → Kd
  | [], _ => .idle
  | k :: _, 0 => k
  | _ :: ks, n + 1 => getKd ks n

def disj (xs ys : List Nat) : Bool := xs.all fun x => !ys.contains x

/-- May the two stand in either order (the first stands ahead in the text)? -/
def compat : Kd → Kd → Bool
  | .read rd, .chain wr _ => disj rd wr
  | .chain wr n, .read rd => disj rd wr && rd.all fun b => Nat.blt b n
  | .new b, .chain wr _ => !wr.contains b
  | _, _ => true

/-- 'tr': what has been done, the last first; 'k' is the operation numbered 'j'. -/
def checkPairs (tr : List Kd) (k : Kd) (j : Nat) : List (Nat × Nat) → Bool
  | [] => true
  | p :: ps => match Nat.beq p.2 j with
    | true => match compat (getKd tr (j - 1 - p.1)) k with
      | true => checkPairs tr k j ps
      | false => false
    | false => checkPairs tr k j ps

def isChain : Cls → Bool
  | .chain => true
  | _ => false
def isNew : Cls → Bool
  | .new => true
  | _ => false

def ropsNext (ih : Task → Out) (f : FuncId) (all : Array Oper) (l : List (Nat × Nat)) (j : Nat) (rest : List Oper) (t : Slots) (d : Option Nat) (b : Nat) (tr : List Kd) (k : Kd) (v : DV) (m : DH) : Out :=
  match checkPairs tr k j l with
  | true => ih (.rops f all l (j + 1) rest (put t d v) m b (k :: tr))
  | false => .no

/-- A call counts as what changes the rows that it has changed. -/
def ropsB (E : Env) (ih : Task → Out) (f : FuncId) (all : Array Oper) (l : List (Nat × Nat)) (j : Nat) (rest : List Oper) (t : Slots) (m : DH) (b : Nat) (tr : List Kd) : Out :=
  match rest with
  | [] => .st .normal t m
  | o :: rest =>
    let b' := match isNew (clsOf o.op) with | true => b + 1 | false => b
    match wantedD all o t with
    | none => .no
    | some false => ropsNext ih f all l j rest t o.dst b' tr .idle undefD m
    | some true => match clsOf o.op with
      | .idle => match opD E.P o.op t m with
        | some (v, _) => ropsNext ih f all l j rest t o.dst b' tr .idle v m
        | none => .no
      | .new => match opD E.P o.op t { h := m.h, n := b, wrs := m.wrs } with
        | some (v, m') => ropsNext ih f all l j rest t o.dst b' tr (.new b) v { h := m'.h, n := m.n, wrs := m.wrs }
        | none => .no
      | .read => match opD E.P o.op t m with
        | some (v, _) => ropsNext ih f all l j rest t o.dst b' tr (.read (rdD o.op t m)) v m
        | none => .no
      | .chain => match userCall o.op with
        | some c => match targetD c t with
          | some (g, args) => match ih (.call g args { h := m.h, n := m.n, wrs := [] }) with
            | .val v m' => ropsNext ih f all l j rest t o.dst b' tr (.chain (oldOf m.n m'.wrs) m.n) v { h := m'.h, n := m'.n, wrs := oldOf m.n m'.wrs ++ m.wrs }
            | _ => .no
          | none => .no
        | none => match opD E.P o.op t m with
          | some (v, m') => ropsNext ih f all l j rest t o.dst b' tr (.chain (wrD o.op t) m.n) v m'
          | none => .no

def codeB (E : Env) (ih : Task → Out) (f : FuncId) (c : Code) (t : Slots) (m : DH) : Out :=
  match c with
  | .skip => .st .normal t m
  | .region id ops draw => match draw with
    | false => ih (.ops f ops ops.toList t m)
    | true => match E.pairs f id with
      | none => .no
      | some l => ih (.rops f ops l 0 ops.toList t { h := m.h, n := m.n + countNew ops.toList, wrs := m.wrs } m.n [])
  | .seq a b => seqGo ih f b (ih (.code f a t m))
  | .cond c a b => condGo ih f a b t m (ev t c)
  | .block id c => blockGo id (ih (.code f c t m))
  | .loop c => seqGo ih f (.loop c) (ih (.code f c t m))
  | .exit id => .st (.exit id) t m
  | .ret => .st .ret t m
  | _ => .no

def bodyB (E : Env) (ih : Task → Out) : Task → Out
  | .call f args m => callB E ih f args m
  | .ops f all rest t m => opsB E ih f all rest t m
  | .rops f all l j rest t m b tr => ropsB E ih f all l j rest t m b tr
  | .code f c t m => codeB E ih f c t m

def run (E : Env) : Nat → Task → Out
  | 0 => fun _ => .no
  | k + 1 => bodyB E (run E k)

end Go.Det
