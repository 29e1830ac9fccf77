/- Sk, part A: abstract values, objects, states, and the abstract stepper over the model's own code. Nothing is proved here. -/
import Derived.AtR
set_option linter.all false
namespace Go.Sk
open Go

/-- The shape of a value: lone cells, structs, arrays (whether their elements are numbers or texts). -/
inductive Sh where
  | x
  | c
  | a (l : List Sh)
  | ar (n st : Nat) (sc : Bool)

/-- Contents of an array or a slice, by the kind of its elements. -/
inductive Sq (α : Type) where
  | b (l : List UInt8)
  | s (l : List (List UInt8))
  | i (k : IntKind) (l : List Int)
  | g (sh : Sh) (l : List α)

/-- Closed data: no mutable memory is reached. -/
inductive D where
  | bool (b : Bool)
  | int (k : IntKind) (n : Int)
  | str (s : List UInt8)
  | agg (l : List D)
  | arr (n : Nat) (q : Sq D)
  | sl (q : Sq D)
  | slx (q : Sq D)
  | nils
  | nilp
  | nilm
  | nilf
  | nili
  | ifc (t : TypeId) (v : D)
  | junk

instance : Inhabited D := ⟨.junk⟩

/-- A step of a path into a value: a field, or an index. -/
inductive PE where
  | f (n : Nat)
  | i (x : Int)

inductive AV where
  | d (x : D)
  | ptr (r : Nat) (p : List PE)
  | ep (r g : Nat) (i : Int) (p : List PE)
  | pd (x : D) (p : List PE)
  | agg (l : List AV)
  | tup (l : List AV)
  | slt (q : Sq D) (r e : Nat)
  | msl (r g : Nat) (off len : Int)
  | asl (r : Nat) (p : List PE) (lo hi : Int)
  | map (r : Nat)
  | fn (f : FuncId) (first cap : List AV)
  | yield (r : Nat)
  | ifc (t : TypeId) (v : AV)
  | gd (c : Bool) (v : AV)
  | gl (g : Nat)
  | undef

instance : Inhabited AV := ⟨.undef⟩

/-- How an activation ends. -/
inductive AE where
  | ret (v : AV)
  | pan (ch : List (AV × Bool))

inductive AMode where
  | run
  | ret
  | pan (ch : List (AV × Bool))

/-- A pending jump of a loop over a function. -/
inductive AJ where
  | ret
  | exit (id : Nat)
  | goto (l : Nat)

/-- A deferred call, or the mark of a loop's block of deferred calls. -/
inductive AD where
  | col (r : Nat)
  | call (f : AV) (args : List AV)

structure ALoop where
  state : LoopState
  pend : Option AJ
  fn : FuncId
  fr : List AV
  ps : List Nat
  pc : List Nat
  df : Nat

inductive AO where
  | blk (t : Nat) (v : AV)
  | arr (e : Nat) (q : Sq D) (g : Nat)
  | grow (e : Nat)
  | map (m : List (D × AV))
  | loop (l : ALoop)
  | dfr (open_ : Bool)
  | gone

instance : Inhabited AO := ⟨.gone⟩

/-- A step of a region: an operation (o, og: its guard holds); in a drawn order: one that acts (n, ng), with those that surely stand behind it and the temporaries that may not be there yet; a look again (chk). -/
inductive Sx where
  | o (i : Nat)
  | og (i : Nat)
  | n (i : Nat) (an pn : List Nat)
  | ng (i : Nat) (an pn : List Nat)
  | chk (i : Nat)

/-- What is told of a function's code: the kinds of its slices, the orders of its regions. -/
structure Mt where
  k : List (Nat × Nat)
  s : List (Nat × List Sx)

def schedOf (M : Mt) (id : Nat) : List Sx := match M.s.find? (fun x => x.1 == id) with | some x => x.2 | none => []

inductive It where
  | c (p : List Nat)
  | blk (id : Nat)
  | loop (p : List Nat)
  | scope (p : List Nat)
  | ops (p : List Nat) (l : List Sx)
  | rf (r : Nat)
  | erf (r : Nat)
  | beg
  | rend (j : Option AJ)

structure St where
  todo : List It
  fr : List AV
  V : List AO
  df : List AD
  md : AMode
  cm : Option AMode
  ro : Option Nat

/-! ### Lists -/
def lget {α : Type} [Inhabited α] : List α → Nat → α
  | [], _ => default
  | a :: _, 0 => a
  | _ :: l, n + 1 => lget l n

def lset {α : Type} : List α → Nat → α → List α
  | [], _, _ => []
  | _ :: l, 0, v => v :: l
  | a :: l, n + 1, v => a :: lset l n v

def llen {α : Type} : List α → Nat
  | [] => 0
  | _ :: l => llen l + 1

/-- Shape words of the arithmetic: symbols for the stepper, with their meaning as laws. -/
def arStd (op : BinOp) (k : IntKind) (a b : Int) : Int :=
  match op with
  | .add => k.wrap (a + b)
  | .sub => k.wrap (a - b)
  | .mul => k.wrap (a * b)
  | .quo => k.wrap (a.tdiv b)
  | .rem => a.tmod b
  | .and => k.wrap (BitVec.ofInt k.bits a &&& BitVec.ofInt k.bits b).toNat
  | .or => k.wrap (BitVec.ofInt k.bits a ||| BitVec.ofInt k.bits b).toNat
  | .xor => k.wrap (BitVec.ofInt k.bits a ^^^ BitVec.ofInt k.bits b).toNat
  | .andNot => k.wrap (BitVec.ofInt k.bits a &&& ~~~ BitVec.ofInt k.bits b).toNat
  | .shl => k.wrap (a * 2 ^ (min b.toNat k.bits))
  | .shr => a.fdiv (2 ^ (min b.toNat k.bits))
  | _ => 0

def cmpStd (op : BinOp) (a b : Int) : Bool :=
  match op with
  | .eql => a == b
  | .neq => a != b
  | .lss => decide (a < b)
  | .leq => decide (a ≤ b)
  | .gtr => decide (a > b)
  | .geq => decide (a ≥ b)
  | _ => false

def scmpStd (op : BinOp) (a b : List UInt8) : Bool :=
  match op with
  | .eql => a == b
  | .neq => !(a == b)
  | .lss => Op.bytesLess a b
  | .leq => Op.bytesLess a b || a == b
  | .gtr => !(Op.bytesLess a b || a == b)
  | .geq => !(Op.bytesLess a b)
  | _ => false

structure Ari where
  len : {α : Type} → List α → Int
  cut : {α : Type} → List α → Int → Int → List α
  get : {α : Type} → List α → Int → α → α
  getb : List UInt8 → Int → Int
  set : {α : Type} → List α → Int → α → List α
  setb : List UInt8 → Int → Int → List UInt8
  app : {α : Type} → List α → List α → List α
  rep : {α : Type} → Int → α → List α
  ar : BinOp → IntKind → Int → Int → Int
  cmp : BinOp → Int → Int → Bool
  scmp : BinOp → List UInt8 → List UInt8 → Bool
  conv : IntKind → Int → Int
  not : Bool → Bool
  and : Bool → Bool → Bool
  eqB : Bool → Bool → Bool
  pick : Bool → Bool → Bool → Bool
  plus : Int → Int → Int
  minus : Int → Int → Int
  mn : Int → Int → Int
  mx : Int → Int → Int
  byt : Int → UInt8
  inb : Int → Int → Bool
  bnd : Int → Int → Int → Bool
  room : Int → Int → Bool
  nz : Int → Bool
  ge0 : Int → Bool
  eqI : Int → Int → Bool
  tt : Bool → Bool
  imp : Bool → Bool → Bool
  eqv : AV → AV → Bool
  len_eq : ∀ {α : Type} (l : List α), len l = (l.length : Int)
  cut_eq : ∀ {α : Type} (l : List α) (lo hi : Int), cut l lo hi = (l.take hi.toNat).drop lo.toNat
  get_eq : ∀ {α : Type} (l : List α) (i : Int) (x : α), get l i x = l.getD i.toNat x
  getb_eq : ∀ (l : List UInt8) (i : Int), getb l i = ((l.getD i.toNat 0).toNat : Int)
  set_eq : ∀ {α : Type} (l : List α) (i : Int) (x : α), set l i x = l.set i.toNat x
  setb_eq : ∀ (l : List UInt8) (i : Int) (n : Int), setb l i n = l.set i.toNat (UInt8.ofNat n.toNat)
  app_eq : ∀ {α : Type} (l m : List α), app l m = l ++ m
  rep_eq : ∀ {α : Type} (n : Int) (x : α), rep n x = List.replicate n.toNat x
  ar_eq : ∀ op k a b, ar op k a b = arStd op k a b
  cmp_eq : ∀ op a b, cmp op a b = cmpStd op a b
  scmp_eq : ∀ op a b, scmp op a b = scmpStd op a b
  conv_eq : ∀ k a, conv k a = k.wrap a
  not_eq : ∀ b, not b = !b
  and_eq : ∀ a b, and a b = (a && b)
  eqB_eq : ∀ a b, eqB a b = (a == b)
  pick_eq : ∀ c a b, pick c a b = bif c then a else b
  plus_eq : ∀ a b, plus a b = a + b
  minus_eq : ∀ a b, minus a b = a - b
  mn_eq : ∀ a b, mn a b = if b < a then b else a
  mx_eq : ∀ a b, mx a b = if b > a then b else a
  byt_eq : ∀ n, byt n = UInt8.ofNat n.toNat
  inb_eq : ∀ i n, inb i n = true ↔ 0 ≤ i ∧ i < n
  bnd_eq : ∀ lo hi n, bnd lo hi n = true ↔ 0 ≤ lo ∧ lo ≤ hi ∧ hi ≤ n
  room_eq : ∀ n k, room n k = true ↔ n * k ≤ 2 ^ 47
  nz_eq : ∀ n, nz n = true ↔ n ≠ 0
  ge0_eq : ∀ n, ge0 n = true ↔ 0 ≤ n
  eqI_eq : ∀ a b, eqI a b = true ↔ a = b
  tt_eq : ∀ b, tt b = true ↔ b = true
  imp_eq : ∀ b p, imp b p = true ↔ (b = true → p = true)
  eqv_eq : ∀ a b, eqv a b = true ↔ a = b

/-! ### Types, as the stepper reads them -/
inductive TD where
  | bool
  | int (k : IntKind)
  | str
  | ptr (e : Nat)
  | sl (e : Nat)
  | map (k e : Nat)
  | strct (sz : Nat) (fs : List Nat)
  | arr (sz n : Nat) (e : Nat)
  | ifc (empty : Bool)
  | fn
  | tup (l : List Nat)
  | other

instance : Inhabited TD := ⟨.other⟩

/-- A radix tree by a number's bits, lowest first. -/
inductive Tr (α : Type) where
  | e
  | n (l : Tr α) (v : Option α) (r : Tr α)

def Tr.get {α : Type} (t : Tr α) (k : Nat) : Option α :=
  match t with
  | .e => none
  | .n l v r => if k == 0 then v else if k % 2 == 0 then l.get ((k - 1) / 2) else r.get ((k - 1) / 2)

structure Tb where
  n : Nat
  ty : Tr (TD × Nat × Nat)
  rtErr : Nat
  meth : List (Nat × String × Nat)
  gl : List (Nat × D)
  gi : List Nat

def Tb.td (X : Tb) (t : Nat) : TD := if Nat.blt t X.n then (match X.ty.get t with | some d => d.1 | none => .other) else .other
def Tb.bytes (X : Tb) (t : Nat) : Nat := match X.ty.get t with | some d => d.2.1 | none => 0
def Tb.un (X : Tb) (t : Nat) : Nat := if Nat.blt t X.n then (match X.ty.get t with | some d => d.2.2 | none => t) else t
def sameT (X : Tb) (a b : Nat) : Bool := a == b || X.un a == X.un b

def TD.size : TD → Nat
  | .strct sz _ => sz
  | .arr sz _ _ => sz
  | _ => 1

def TD.isAgg : TD → Bool
  | .strct .. => true
  | .arr .. => true
  | _ => false

/-! ### Shapes of values -/
/-- Types that the table tells whole. -/
def kn (X : Tb) (t : Nat) : Bool :=
  match X.td t with
  | .other => false
  | .tup _ => false
  | _ => true

mutual
def Sh.sz : Sh → Nat
  | .x => 0
  | .c => 1
  | .a l => Sh.szs l
  | .ar n st _ => n * st
def Sh.szs : List Sh → Nat
  | [] => 0
  | s :: l => Sh.sz s + Sh.szs l
end

mutual
def shq : Sh → Sh → Bool
  | .c, .c => true
  | .a l, .a m => shqs l m
  | .ar n k b, .ar n' k' b' => n == n' && k == k' && b == b'
  | _, _ => false
def shqs : List Sh → List Sh → Bool
  | [], [] => true
  | x :: l, y :: m => shq x y && shqs l m
  | _, _ => false
end

def isU8 : TD → Bool
  | .int .u8 => true
  | _ => false

/-- Numbers and texts. -/
def scK : TD → Bool
  | .int _ => true
  | .str => true
  | _ => false

def depth : Nat := 60

mutual
def shT (X : Tb) : Nat → Nat → Sh
  | 0, _ => .x
  | n + 1, t =>
    match X.td t with
    | .strct _ fs => .a (shTs X n fs)
    | .arr _ m e => .ar m (X.td e).size (scK (X.td e))
    | _ => .c
def shTs (X : Tb) : Nat → List Nat → List Sh
  | 0, _ => [.x]
  | _, [] => []
  | n + 1, t :: ts => shT X n t :: shTs X n ts
end

def Sq.st {α : Type} : Sq α → Nat
  | .g sh _ => sh.sz
  | _ => 1

def Sq.isG {α : Type} : Sq α → Bool
  | .g .. => true
  | _ => false

mutual
def shD : D → Sh
  | .agg l => .a (shDs l)
  | .arr n q => .ar n q.st (!q.isG)
  | _ => .c
def shDs : List D → List Sh
  | [] => []
  | x :: l => shD x :: shDs l
end

mutual
def shA : AV → Sh
  | .agg l => .a (shAs l)
  | .d x => shD x
  | _ => .c
def shAs : List AV → List Sh
  | [] => []
  | x :: l => shA x :: shAs l
end

def fits (X : Tb) (t : Nat) (v : AV) : Bool := shq (shA v) (shT X depth t)

def emptySq (X : Tb) (e : Nat) : Sq D :=
  match X.td e with
  | .int .u8 => .b []
  | .int k => .i k []
  | .str => .s []
  | _ => .g (shT X depth e) []

def repSq (A : Ari) (X : Tb) (e : Nat) (n : Int) (z : D) : Sq D :=
  match X.td e with
  | .int .u8 => .b (A.rep n 0)
  | .int k => .i k (A.rep n 0)
  | .str => .s (A.rep n [])
  | _ => .g (shT X depth e) (A.rep n z)

def lrep {α : Type} : Nat → α → List α
  | 0, _ => []
  | n + 1, x => x :: lrep n x

def repSqL (X : Tb) (e : Nat) (n : Nat) (z : D) : Sq D :=
  match X.td e with
  | .int .u8 => .b (lrep n 0)
  | .int k => .i k (lrep n 0)
  | .str => .s (lrep n [])
  | _ => .g (shT X depth e) (lrep n z)

mutual
def zeroD (X : Tb) : Nat → Nat → D
  | 0, _ => .junk
  | n + 1, t =>
    match X.td t with
    | .bool => .bool false
    | .int k => .int k 0
    | .str => .str []
    | .ptr _ => .nilp
    | .sl _ => .nils
    | .map _ _ => .nilm
    | .strct _ fs => .agg (zeroDs X n fs)
    | .arr _ m e => .arr m (repSqL X e m (zeroD X n e))
    | .ifc _ => .nili
    | .fn => .nilf
    | _ => .junk
def zeroDs (X : Tb) : Nat → List Nat → List D
  | 0, _ => []
  | _, [] => []
  | n + 1, t :: ts => zeroD X n t :: zeroDs X n ts
end

mutual
def D.sz : D → Nat
  | .agg l => D.szs l
  | .arr n q => n * q.st
  | _ => 1
def D.szs : List D → Nat
  | [] => 0
  | x :: l => x.sz + D.szs l
end

def D.shsAll (sh : Sh) (l : List D) : Prop := ∀ x, x ∈ l → shD x = sh

def D.isAgg : D → Bool
  | .agg _ => true
  | .arr .. => true
  | _ => false

mutual
def AV.sz : AV → Nat
  | .agg l => AV.szs l
  | .d x => x.sz
  | _ => 1
def AV.szs : List AV → Nat
  | [] => 0
  | x :: l => x.sz + AV.szs l
end

def AV.isAgg : AV → Bool
  | .agg _ => true
  | .d x => x.isAgg
  | _ => false

mutual
/-- Every struct laid open down to its scalars and arrays. -/
def expandD : D → AV
  | .agg l => .agg (expandDs l)
  | x => .d x
def expandDs : List D → List AV
  | [] => []
  | x :: l => expandD x :: expandDs l
end

mutual
def expand : AV → AV
  | .d x => expandD x
  | .agg l => .agg (expands l)
  | v => v
def expands : List AV → List AV
  | [] => []
  | x :: l => expand x :: expands l
end

def consD : AV → Option (List D) → Option (List D)
  | .d x, some l => some (x :: l)
  | _, _ => none

mutual
/-- A struct of closed data is closed data. -/
def norm : AV → AV
  | .agg l => match normD l with | some ds => .d (.agg ds) | none => .agg (norms l)
  | v => v
def norms : List AV → List AV
  | [] => []
  | x :: l => norm x :: norms l
def normD : List AV → Option (List D)
  | [] => some []
  | x :: l => consD (norm x) (normD l)
end

def allD : List AV → Option (List D)
  | [] => some []
  | x :: l => consD x (allD l)

def mkAgg (l : List AV) : AV := match allD l with | some ds => .d (.agg ds) | none => .agg l
def mkIfc (t : Nat) : AV → AV
  | .d x => .d (.ifc t x)
  | v => .ifc t v

/-! ### Sequences -/
def Sq.len {α : Type} (A : Ari) : Sq α → Int
  | .b l => A.len l
  | .s l => A.len l
  | .i _ l => A.len l
  | .g _ l => A.len l

def Sq.cut {α : Type} (A : Ari) (lo hi : Int) : Sq α → Sq α
  | .b l => .b (A.cut l lo hi)
  | .s l => .s (A.cut l lo hi)
  | .i k l => .i k (A.cut l lo hi)
  | .g sh l => .g sh (A.cut l lo hi)

def Sq.get (A : Ari) (i : Int) : Sq D → D
  | .b l => .int .u8 (A.getb l i)
  | .s l => .str (A.get l i [])
  | .i k l => .int k (A.get l i 0)
  | .g _ l => A.get l i .junk

def ikEq : IntKind → IntKind → Bool
  | .i8, .i8 | .i16, .i16 | .i32, .i32 | .i64, .i64 | .u8, .u8 | .u16, .u16 | .u32, .u32 | .u64, .u64 => true
  | _, _ => false

/-- Element i set; the demand that it makes. -/
def Sq.set (A : Ari) (i : Int) (v : D) : Sq D → Option (Sq D × List Bool)
  | .b l => match v with | .int .u8 n => some (.b (A.setb l i n), [A.inb n 256]) | _ => none
  | .s l => match v with | .str x => some (.s (A.set l i x), []) | _ => none
  | .i k l => match v with | .int k' n => if ikEq k k' then some (.i k (A.set l i n), []) else none | _ => none
  | .g sh l => if shq (shD v) sh then some (.g sh (A.set l i v), []) else none

def Sq.app (A : Ari) : Sq D → Sq D → Option (Sq D)
  | .b l, .b m => some (.b (A.app l m))
  | .s l, .s m => some (.s (A.app l m))
  | .i k l, .i k' m => if ikEq k k' then some (.i k (A.app l m)) else none
  | .g sh l, .g sh' m => if shq sh sh' then some (.g sh (A.app l m)) else none
  | _, _ => none

def consB (A : Ari) : D → Option (List UInt8 × List Bool) → Option (List UInt8 × List Bool)
  | .int .u8 n, some (l, o) => some (A.byt n :: l, A.inb n 256 :: o)
  | _, _ => none
def toB (A : Ari) : List D → Option (List UInt8 × List Bool)
  | [] => some ([], [])
  | x :: l => consB A x (toB A l)
def consS : D → Option (List (List UInt8)) → Option (List (List UInt8))
  | .str x, some l => some (x :: l)
  | _, _ => none
def toS : List D → Option (List (List UInt8))
  | [] => some []
  | x :: l => consS x (toS l)
def consI (k : IntKind) : D → Option (List Int) → Option (List Int)
  | .int k' n, some l => if ikEq k k' then some (n :: l) else none
  | _, _ => none
def toI (k : IntKind) : List D → Option (List Int)
  | [] => some []
  | x :: l => consI k x (toI k l)
def shAll (sh : Sh) : List D → Bool
  | [] => true
  | x :: l => shq (shD x) sh && shAll sh l

def toSq (A : Ari) (X : Tb) (e : Nat) (l : List D) : Option (Sq D × List Bool) :=
  match X.td e with
  | .int .u8 => match toB A l with | some (b, o) => some (.b b, o) | none => none
  | .int k => match toI k l with | some b => some (.i k b, []) | none => none
  | .str => match toS l with | some b => some (.s b, []) | none => none
  | _ => if shAll (shT X depth e) l then some (.g (shT X depth e) l, []) else none

/-! ### Paths -/
def getPD (A : Ari) : List PE → D → D
  | [], v => v
  | .f n :: p, .agg l => getPD A p (lget l n)
  | .i x :: p, .arr _ q => getPD A p (q.get A x)
  | _, _ => .junk

def getP (A : Ari) : List PE → AV → AV
  | [], v => v
  | .f n :: p, .agg l => getP A p (lget l n)
  | p, .d x => .d (getPD A p x)
  | _, _ => .undef

def setPD (A : Ari) : List PE → D → D → Option (D × List Bool)
  | [], _, x => some (x, [])
  | .f n :: p, .agg l, x => match setPD A p (lget l n) x with | some (y, o) => some (.agg (lset l n y), o) | none => none
  | [.i j], .arr n q, x => match q.set A j x with | some (q', o) => some (.arr n q', o) | none => none
  | _, _, _ => none

def setP (A : Ari) : List PE → AV → AV → Option (AV × List Bool)
  | [], _, x => some (expand x, [])
  | .f n :: p, .agg l, x => match setP A p (lget l n) x with | some (y, o) => some (.agg (lset l n y), o) | none => none
  | p, .d y, .d x => match setPD A p y x with | some (z, o) => some (.d z, o) | none => none
  | _, _, _ => none

def sumSz (X : Tb) : List Nat → Nat → Nat
  | _, 0 => 0
  | [], _ => 0
  | t :: ts, n + 1 => (X.td t).size + sumSz X ts n
def sumAV : List AV → Nat → Nat
  | _, 0 => 0
  | [], _ => 0
  | v :: vs, n + 1 => v.sz + sumAV vs n
def sumD : List D → Nat → Nat
  | _, 0 => 0
  | [], _ => 0
  | v :: vs, n + 1 => v.sz + sumD vs n

mutual
/-- May a value be stored? -/
def solid : AV → Bool
  | .agg l => solids l
  | .tup _ => false
  | .gd _ _ => false
  | .undef => false
  | _ => true
def solids : List AV → Bool
  | [] => true
  | x :: l => solid x && solids l
end

/-- The type at a path's end. -/
def tyAt (X : Tb) : List PE → Nat → Option Nat
  | [], t => some t
  | .f n :: p, t => match X.td t with | .strct _ fs => if Nat.blt n (llen fs) then tyAt X p (lget fs n) else none | _ => none
  | .i _ :: p, t => match X.td t with | .arr _ _ e => if scK (X.td e) then tyAt X p e else none | _ => none

def tyIs (X : Tb) (p : List PE) (t s : Nat) : Bool := match tyAt X p t with | some u => sameT X u s && kn X s | none => false

/-- May field f of struct type s be taken of this value? -/
def hasF (X : Tb) (s f : Nat) : Bool :=
  match X.td s with
  | .strct _ fs => Nat.blt f (llen fs) && Nat.blt 0 (X.td (lget fs f)).size && kn X (lget fs f)
  | _ => false

/-! ### Operands -/
def ofConst : Value → AV
  | .bool b => .d (.bool b)
  | .int k n => .d (.int k n)
  | .string s => .d (.str s.data.toList)
  | .pointer none => .d .nilp
  | .slice none 0 0 => .d .nils
  | .map none => .d .nilm
  | .nilFunc => .d .nilf
  | .nilIface => .d .nili
  | .iface t (.bool b) => .d (.ifc t (.bool b))
  | .iface t (.int k n) => .d (.ifc t (.int k n))
  | .iface t (.string s) => .d (.ifc t (.str s.data.toList))
  | _ => .undef

def opd (fr : List AV) : Operand → AV
  | .tmp t => lget fr t
  | .const v => ofConst v
  | .global g => .gl g
  | .func f => .fn f [] []

def strip : AV → AV
  | .gd _ v => v
  | v => v
def stripO (A : Ari) : AV → List Bool
  | .gd c _ => [A.tt c]
  | _ => []

def ov (fr : List AV) (x : Operand) : AV := strip (opd fr x)
def oo (A : Ari) (fr : List AV) (x : Operand) : List Bool := stripO A (opd fr x)

def glob (l : List (Nat × D)) (g : Nat) : Option D :=
  match l with
  | [] => none
  | x :: r => match x.1 == g with
    | true => some x.2
    | false => glob r g

/-- A package-level variable's address, as a pointer to what it holds. -/
def deref (X : Tb) : AV → AV
  | .gl g => match glob X.gl g with | some x => .pd x [] | none => .gl g
  | v => v

/-! ### What an operation does -/
inductive OR where
  | v (x : AV) (V : List AO) (o : List Bool)
  | el (x : AV) (V : List AO) (o : List Bool)
  | call (f : AV) (args : List AV) (o : List Bool)
  | pan (x : AV) (o : List Bool)
  | df (d : AD) (o : List Bool)
  | rcv
  | mp (o : List Bool)
  | bad (n : Nat)

def nilDeref (X : Tb) : AV :=
  .d (.ifc X.rtErr (.str [105, 110, 118, 97, 108, 105, 100, 32, 109, 101, 109, 111, 114, 121, 32, 97, 100, 100, 114, 101, 115, 115, 32, 111, 114, 32, 110, 105, 108, 32, 112, 111, 105, 110, 116, 101, 114, 32, 100, 101, 114, 101, 102, 101, 114, 101, 110, 99, 101]))

def loadAV (A : Ari) (X : Tb) (V : List AO) (t : Nat) : AV → Option AV
  | .ptr r p => match lget V r with | .blk u v => if tyIs X p u t then some (norm (getP A p v)) else none | _ => none
  | .ep r g i p => match lget V r with | .arr e q g' => if g == g' && tyIs X p e t then some (.d (getPD A p (q.get A i))) else none | _ => none
  | .pd x p => if fits X t (.d (getPD A p x)) && kn X t then some (.d (getPD A p x)) else none
  | _ => none

def storeAV (A : Ari) (X : Tb) (V : List AO) (t : Nat) (a x : AV) : Option (List AO × List Bool) :=
  match a with
  | .ptr r p => match lget V r with
    | .blk u v => if tyIs X p u t && fits X t x && solid x then (match setP A p v x with | some (v', o) => some (lset V r (.blk u v'), o) | none => none) else none
    | _ => none
  | .ep r g i p => match lget V r, x with
    | .arr e q g', .d y =>
      if g == g' && tyIs X p e t && fits X t x then
        match setPD A p (q.get A i) y with
        | some (z, o) => match q.set A i z with | some (q', o') => some (lset V r (.arr e q' g), o ++ o') | none => none
        | none => none
      else none
    | _, _ => none
  | _ => none

/-- A slice's elements as data: the sequence, or nothing. -/
def seqOf (A : Ari) (X : Tb) (V : List AO) (e : Nat) : AV → Option (Sq D)
  | .d (.sl q) => some q
  | .d (.slx q) => some q
  | .d .nils => some (emptySq X e)
  | .d (.str l) => some (.b l)
  | .slt q _ _ => some q
  | .msl r g off len => match lget V r with | .arr _ q g' => if g == g' then some (q.cut A off (A.plus off len)) else none | _ => none
  | .asl r p lo hi => match lget V r with | .blk _ v => (match getP A p v with | .d (.arr _ q) => some (q.cut A lo hi) | _ => none) | _ => none
  | _ => none

/-- A slice that is not written. -/
def closedSeq : AV → Option (Sq D)
  | .d (.sl q) => some q
  | .d (.slx q) => some q
  | .slt q _ _ => some q
  | _ => none

def lenOf (A : Ari) (V : List AO) : AV → Option Int
  | .d (.sl q) => some (q.len A)
  | .d (.slx q) => some (q.len A)
  | .d .nils => some 0
  | .slt q _ _ => some (q.len A)
  | .msl r g _ len => match lget V r with | .arr _ _ g' => if g == g' then some len else none | _ => none
  | .asl _ _ lo hi => some (A.minus hi lo)
  | _ => none

def intOf : AV → Option Int
  | .d (.int _ n) => some n
  | _ => none

def isCmp : BinOp → Bool
  | .eql | .neq | .lss | .leq | .gtr | .geq => true
  | _ => false

/-- The step of a slice's elements must be the type's. -/
def stOK (X : Tb) (e : Nat) (q : Sq D) : Bool :=
  match q with
  | .b _ => isU8 (X.td e)
  | .s _ => match X.td e with | .str => true | _ => false
  | .i k _ => match X.td e with | .int k' => ikEq k k' && !isU8 (.int k') | _ => false
  | .g sh _ => !scK (X.td e) && kn X e && shq sh (shT X depth e)

def ptrNil : AV → Option Bool
  | .d .nilp => some true
  | .ptr .. => some false
  | .pd .. => some false
  | _ => none
def mapNil : AV → Option Bool
  | .d .nilm => some true
  | .map _ => some false
  | _ => none
def fnNil : AV → Option Bool
  | .d .nilf => some true
  | .fn .. => some false
  | .yield _ => some false
  | _ => none
def ifcNil : AV → Option Bool
  | .d .nili => some true
  | .d (.ifc ..) => some false
  | .ifc .. => some false
  | _ => none
def nilEq : Option Bool → Option Bool → Option Bool
  | some true, some b => some b
  | some a, some true => some a
  | _, _ => none

def eqAV (A : Ari) (X : Tb) (t : Nat) (x y : AV) : Option Bool :=
  match X.td t with
  | .bool => match x, y with
    | .d (.bool a), .d (.bool b) => some (A.eqB a b)
    | _, _ => none
  | .arr _ n e => match x, y with
    | .d (.arr n1 (.b l)), .d (.arr n2 (.b m)) => if n == n1 && n == n2 && isU8 (X.td e) then some (A.scmp .eql l m) else none
    | _, _ => none
  | .ptr _ => nilEq (ptrNil x) (ptrNil y)
  | .sl _ => match x, y with
    | .d .nils, .d .nils => some true
    | _, _ => none
  | .map _ _ => nilEq (mapNil x) (mapNil y)
  | .fn => nilEq (fnNil x) (fnNil y)
  | .ifc _ => nilEq (ifcNil x) (ifcNil y)
  | _ => none

/-- Is a slice nil? (Of an empty one that isn't told as nil nothing is known.) -/
def slNil (A : Ari) : AV → Option (Bool × List Bool)
  | .d .nils => some (true, [])
  | .d (.sl q) => some (false, [A.inb 0 (q.len A)])
  | .d (.slx q) => some (false, [A.inb 0 (q.len A)])
  | .slt q _ _ => some (false, [A.inb 0 (q.len A)])
  | .asl _ _ _ _ => some (false, [])
  | _ => none
def slEq (A : Ari) (X : Tb) (t : Nat) (x y : AV) : Option (Bool × List Bool) :=
  match X.td t with
  | .sl _ => match y with
    | .d .nils => slNil A x
    | _ => match x with
      | .d .nils => slNil A y
      | _ => none
  | _ => none

def binAV (A : Ari) (X : Tb) (t : Nat) (op : BinOp) (x y : AV) : Option (AV × List Bool) :=
  match x, y with
  | .d (.int k a), .d (.int k' b) =>
    match op with
    | .shl => some (.d (.int k (A.ar op k a b)), [A.ge0 b])
    | .shr => some (.d (.int k (A.ar op k a b)), [A.ge0 b])
    | .quo => if ikEq k k' then some (.d (.int k (A.ar op k a b)), [A.nz b]) else none
    | .rem => if ikEq k k' then some (.d (.int k (A.ar op k a b)), [A.nz b]) else none
    | _ => if ikEq k k' then (if isCmp op then some (.d (.bool (A.cmp op a b)), []) else some (.d (.int k (A.ar op k a b)), [])) else none
  | .d (.str a), .d (.str b) =>
    match op with
    | .add => some (.d (.str (A.app a b)), [A.room (A.plus (A.len a) (A.len b)) 1])
    | _ => if isCmp op then some (.d (.bool (A.scmp op a b)), []) else none
  | _, _ =>
    match op with
    | .eql => match slEq A X t x y with
      | some (b, o) => some (.d (.bool b), o)
      | none => match eqAV A X t x y with | some b => some (.d (.bool b), []) | none => none
    | .neq => match slEq A X t x y with
      | some (b, o) => some (.d (.bool (!b)), o)
      | none => match eqAV A X t x y with | some b => some (.d (.bool (A.not b)), []) | none => none
    | _ => none

/-- Is t a type of slices of (what is) e? -/
def slOf (X : Tb) (t e : Nat) : Bool := match X.td t with | .sl e' => sameT X e e' | _ => false

def isSl (X : Tb) (t : Nat) : Bool := match X.td t with | .sl e => kn X e | _ => false
def isStr (X : Tb) (t : Nat) : Bool := match X.td t with | .str => true | _ => false
def slQ (X : Tb) (t : Nat) (q : Sq D) : Bool := match X.td t with | .sl e => stOK X e q | _ => false

def sliceAV (A : Ari) (X : Tb) (V : List AO) (t : Nat) (x : AV) (lo hi mx : Option Int) : Option (AV × List Bool) :=
  let l := lo.getD 0
  match x with
  | .d (.str s) => let h := hi.getD (A.len s)
    match mx with | none => if isStr X t then some (.d (.str (A.cut s l h)), [A.bnd l h (A.len s)]) else none | _ => none
  | .d .nils => let h := hi.getD (0)
    match mx with | none => if isSl X t then some (.d .nils, [A.eqI l 0, A.eqI h 0]) else none | _ => none
  | .d (.sl q) => let h := hi.getD (q.len A)
    if slQ X t q then
    match mx with
    | none => some (.d (.sl (q.cut A l h)), [A.bnd l h (q.len A)])
    | some m => match hi with | some _ => some (.d (.slx (q.cut A l h)), [A.bnd l h (q.len A), A.eqI m h]) | none => none
    else none
  | .d (.slx q) =>
    if slQ X t q then
    match mx, hi with
    | none, none => some (.d (.slx (q.cut A l (q.len A))), [A.bnd l (q.len A) (q.len A)])
    | none, some h => some (.d (.sl (q.cut A l h)), [A.bnd l h (q.len A)])
    | some m, some h => some (.d (.slx (q.cut A l h)), [A.bnd l h (q.len A), A.eqI m h])
    | _, _ => none
    else none
  | .slt q r e =>
    if slQ X t q then
    match mx, hi with
    | none, none => some (.slt (q.cut A l (q.len A)) r e, [A.bnd l (q.len A) (q.len A)])
    | none, some h => some (.d (.sl (q.cut A l h)), [A.bnd l h (q.len A)])
    | some m, some h => some (.d (.slx (q.cut A l h)), [A.bnd l h (q.len A), A.eqI m h])
    | _, _ => none
    else none
  | .msl r g off len => let h := hi.getD (len)
    match mx, lget V r with
    | none, .arr e _ g' => if g == g' && slOf X t e then some (.msl r g (A.plus off l) (A.minus h l), [A.bnd l h len]) else none
    | _, _ => none
  | .ptr r p =>
    match X.td t, lget V r, mx with
    | .arr _ n e, .blk u _, none =>
      let h := hi.getD ((n : Int))
      if tyIs X p u t && kn X e then some (.asl r p l h, [A.bnd l h (n : Int)]) else none
    | _, _, _ => none
  | .pd y p =>
    match X.td t, getPD A p y, mx with
    | .arr _ n e, .arr n' q, none =>
      let h := hi.getD ((n : Int))
      if n == n' && stOK X e q then some (.d (.sl (q.cut A l h)), [A.bnd l h (n : Int)]) else none
    | _, _, _ => none
  | _ => none

def elemOf (X : Tb) (t : Nat) : Option Nat := match X.td t with | .sl e => some e | _ => none

def ixAddr (A : Ari) (X : Tb) (V : List AO) (t : Nat) (x : AV) (i : Int) : Option (AV × List Bool × Bool) :=
  match X.td t with
  | .sl e =>
    match x with
    | .d (.sl q) => if stOK X e q then some (.pd (q.get A i) [], [A.inb i (q.len A)], q.isG) else none
    | .d (.slx q) => if stOK X e q then some (.pd (q.get A i) [], [A.inb i (q.len A)], q.isG) else none
    | .slt q _ _ => if stOK X e q then some (.pd (q.get A i) [], [A.inb i (q.len A)], q.isG) else none
    | .msl r g off len =>
      match lget V r with
      | .arr e' _ g' => if g == g' && sameT X e' e then some (.ep r g (A.plus off i) [], [A.inb i len], false) else none
      | _ => none
    | .asl r p a b =>
      match lget V r with
      | .blk u _ => if tyIs X (p ++ [.i 0]) u e then some (.ptr r (p ++ [.i (A.plus a i)]), [A.inb i (A.minus b a)], false) else none
      | _ => none
    | _ => none
  | .arr _ n e =>
    match x with
    | .ptr r p => match lget V r with
      | .blk u _ => if tyIs X p u t && kn X e && scK (X.td e) then some (.ptr r (p ++ [.i i]), [A.inb i (n : Int)], false) else none
      | _ => none
    | .pd y p => match getPD A p y with
      | .arr n' q => if n == n' && stOK X e q then some (.pd y (p ++ [.i i]), [A.inb i (n : Int)], false) else none
      | _ => none
    | _ => none
  | _ => none

def ixVal (A : Ari) (X : Tb) (t : Nat) (x : AV) (i : Int) : Option (AV × List Bool × Bool) :=
  match X.td t, x with
  | .str, .d (.str l) => some (.d (.int .u8 (A.getb l i)), [A.inb i (A.len l)], false)
  | .arr _ n e, .d (.arr n' q) => if n == n' && stOK X e q then some (.d (q.get A i), [A.inb i (n : Int)], q.isG) else none
  | _, _ => none

/-- A new slice of elements: 0: closed data; 1: with the right to grow; else: to be written. -/
def newSl (kind : Nat) (e : Nat) (q : Sq D) (V : List AO) : AV × List AO :=
  match kind with
  | 0 => (.d (.slx q), V)
  | 1 => (.slt q (llen V) 0, V ++ [.grow 0])
  | _ => (.msl (llen V) 0 0 0, V ++ [.arr e q 0])

def kindOf (M : Mt) (d : Option Nat) : Nat :=
  match d with
  | none => 0
  | some d => match M.k.find? (fun x => x.1 == d) with | some x => x.2 | none => 0

def appendAV (A : Ari) (X : Tb) (V : List AO) (e : Nat) (x : AV) (m : Sq D) : Option (AV × List AO × List Bool) :=
  let by_ := X.bytes e
  match x with
  | .d .nils => match (emptySq X e).app A m with
    | some _ => if stOK X e m && Nat.blt 0 by_ then some (.slt m (llen V) 0, V ++ [.grow 0], [A.room (m.len A) (by_ : Int)]) else none
    | none => none
  | .d (.slx q) => match q.app A m with
    | some q' => if stOK X e q && Nat.blt 0 by_ then some (.slt q' (llen V) 0, V ++ [.grow 0], [A.room (A.plus (q.len A) (m.len A)) (by_ : Int)]) else none
    | none => none
  | .slt q r n => match lget V r, q.app A m with
    | .grow n', some q' => if n == n' && stOK X e q && Nat.blt 0 by_ then some (.slt q' r (n + 1), lset V r (.grow (n + 1)), [A.room (A.plus (q.len A) (m.len A)) (by_ : Int)]) else none
    | _, _ => none
  | _ => none

def allKn (X : Tb) : List Nat → Bool
  | [] => true
  | t :: l => kn X t && allKn X l
def knAll (X : Tb) (t : Nat) : Bool :=
  match X.td t with
  | .strct _ fs => allKn X fs
  | .arr _ _ e => kn X e
  | _ => true

def buildParts (A : Ari) (X : Tb) (t : Nat) (z : AV) : List (Nat × AV) → Option (AV × List Bool)
  | [] => some (z, [])
  | (i, v) :: r =>
    match X.td t with
    | .strct _ fs =>
      if Nat.blt i (llen fs) && kn X (lget fs i) && fits X (lget fs i) v && solid v then
        match setP A [.f i] z v with
        | some (z', o) => match buildParts A X t z' r with | some (w, o') => some (w, o ++ o') | none => none
        | none => none
      else none
    | .arr _ n e =>
      if Nat.blt i n && scK (X.td e) && fits X e v && solid v then
        match setP A [.i (i : Int)] z v with
        | some (z', o) => match buildParts A X t z' r with | some (w, o') => some (w, o ++ o') | none => none
        | none => none
      else none
    | _ => none

def setAllD (X : Tb) (e : Nat) : List (Nat × AV) → List D → Option (List D)
  | [], l => some l
  | (i, .d y) :: r, l => if Nat.blt i (llen l) && fits X e (.d y) then setAllD X e r (lset l i y) else none
  | _, _ => none

/-- Is the array at a path of elements of type e? -/
def arrE (X : Tb) (p : List PE) (u e : Nat) : Bool := match tyAt X p u with | some u' => (match X.td u' with | .arr _ _ e' => sameT X e' e && scK (X.td e') | _ => false) | none => false

/-- m's first n elements laid over q's from off on. -/
def overSq (A : Ari) (q m : Sq D) (off n : Int) : Option (Sq D) :=
  match (q.cut A 0 off).app A (m.cut A 0 n) with
  | some a => a.app A (q.cut A (A.plus off n) (q.len A))
  | none => none

def copyAV (A : Ari) (X : Tb) (V : List AO) (e : Nat) (x : AV) (m : Sq D) : Option (AV × List AO × List Bool) :=
  match x with
  | .msl r g off len => match lget V r with
    | .arr e' q g' => if g == g' && sameT X e' e && stOK X e m then
        match overSq A q m off (A.mn (m.len A) len) with
        | some b => some (.d (.int .i64 (A.mn (m.len A) len)), lset V r (.arr e' b g), [])
        | none => none
      else none
    | _ => none
  | .asl r p lo hi => match lget V r with
    | .blk u v => match getP A p v with
      | .d (.arr k q) => if arrE X p u e && stOK X e m then
          match overSq A q m lo (A.mn (m.len A) (A.minus hi lo)) with
          | some b => match setP A p v (.d (.arr k b)) with
            | some (v', o) => some (.d (.int .i64 (A.mn (m.len A) (A.minus hi lo))), lset V r (.blk u v'), o)
            | none => none
          | none => none
        else none
      | _ => none
    | _ => none
  | _ => none

def pureOp : Op → Bool
  | .move _ | .binOp .. | .unOp .. | .field .. | .index .. | .indexAddr .. | .fieldAddr .. | .load .. | .slice .. | .extract .. | .pick .. => true
  | .convert .. => true
  | .call { callee := .builtin .len, .. } | .call { callee := .builtin .min, .. } | .call { callee := .builtin .max, .. } => true
  | _ => false

def optInt (fr : List AV) : Option Operand → Option (Option Int)
  | none => some none
  | some x => match intOf (ov fr x) with | some n => some (some n) | none => none
def optO (A : Ari) (fr : List AV) : Option Operand → List Bool
  | none => []
  | some x => oo A fr x

def avB (A : Ari) : AV → Option (Bool × Option Bool)
  | .d (.bool b) => some (b, none)
  | .gd c (.d (.bool b)) => some (b, some c)
  | _ => none

def ovs (fr : List AV) (l : List Operand) : List AV := l.map (ov fr)
def oos (A : Ari) (fr : List AV) : List Operand → List Bool
  | [] => []
  | x :: l => oo A fr x ++ oos A fr l

def foldMM (A : Ari) (mx : Bool) (k : IntKind) : List AV → Int → Option Int
  | [], n => some n
  | .d (.int _ m) :: l, n => foldMM A mx k l (if mx then A.mx n m else A.mn n m)
  | _, _ => none

def vO (r : Option (AV × List Bool)) (V : List AO) (o : List Bool) (n : Nat) : OR :=
  match r with
  | some (x, o') => .v x V (o ++ o')
  | none => .bad n
def vE (r : Option (AV × List Bool × Bool)) (V : List AO) (o : List Bool) (n : Nat) : OR :=
  match r with
  | some (x, o', true) => .el x V (o ++ o')
  | some (x, o', false) => .v x V (o ++ o')
  | none => .bad n
def vV (r : Option (AV × List AO × List Bool)) (o : List Bool) (n : Nat) : OR :=
  match r with
  | some (x, V, o') => .v x V (o ++ o')
  | none => .bad n

def isElemLoad : AV → Bool
  | .d (.agg _) => false
  | _ => false

/-- Two nil interface values, neither of them a constant. -/
def nilPair (a b : AV) (x y : Operand) : Bool :=
  match a, b, x, y with
  | .d .nili, .d .nili, .const _, _ => false
  | .d .nili, .d .nili, _, .const _ => false
  | .d .nili, .d .nili, _, _ => true
  | _, _, _, _ => false

def execBuiltin (A : Ari) (X : Tb) (fr : List AV) (V : List AO) (b : Builtin) (ats : List Nat) (args : List Operand) : OR :=
  let o := oos A fr args
  match b with
  | .len => match ovs fr args, ats with
    | [x], [t] => match X.td t with
      | .arr _ n _ => .v (.d (.int .i64 (n : Int))) V o
      | .map _ _ => match x with
        | .map r => match lget V r with | .map m => .v (.d (.int .i64 (A.len m))) V o | _ => .bad 101
        | .d .nilm => .v (.d (.int .i64 0)) V o
        | _ => .bad 102
      | .str => match x with | .d (.str l) => .v (.d (.int .i64 (A.len l))) V o | _ => .bad 103
      | .sl _ => match lenOf A V x with | some n => .v (.d (.int .i64 n)) V o | none => .bad 104
      | _ => .bad 103
    | _, _ => .bad 105
  | .append => match ovs fr args, ats with
    | [x, y], [t, u] => match elemOf X t with
      | some e => if isSl X u || isStr X u then
          match seqOf A X V e y with
          | some m => vV (appendAV A X V e x m) o 107
          | none => .bad 108
        else .bad 106
      | none => .bad 109
    | _, _ => .bad 110
  | .copy => match ovs fr args, ats with
    | [x, y], t :: _ => match elemOf X t with
      | some e => match seqOf A X V e y with
        | some m => if kn X e then vV (copyAV A X V e x m) o 111 else .bad 112
        | none => .bad 113
      | none => .bad 114
    | _, _ => .bad 115
  | .min => match ovs fr args with
    | .d (.int k n) :: l => match foldMM A false k l n with | some m => .v (.d (.int k m)) V o | none => .bad 116
    | _ => .bad 117
  | .max => match ovs fr args with
    | .d (.int k n) :: l => match foldMM A true k l n with | some m => .v (.d (.int k m)) V o | none => .bad 118
    | _ => .bad 119
  | .recover => .rcv
  | _ => .bad 120

def buildSl (A : Ari) (X : Tb) (M : Mt) (fr : List AV) (V : List AO) (op : Oper) (t n : Nat) (ps : Array (Nat × Operand)) : OR :=
  match elemOf X t with
  | some e => if kn X e && fits X e (.d (zeroD X depth e)) && stOK X e (emptySq X e) && Nat.blt 0 (n * (X.td e).size) && Nat.ble (n * (X.td e).size) 16777216 then match setAllD X e (ps.toList.map fun p => (p.1, ov fr p.2)) (lrep n (zeroD X depth e)) with
    | some l => match toSq A X e l with
      | some (q, o) => match newSl (kindOf M op.dst) e q V with
        | (.msl r g off _, V') => .v (.msl r g off (n : Int)) V' (oos A fr (ps.toList.map (·.2)) ++ o)
        | (x, V') => .v x V' (oos A fr (ps.toList.map (·.2)) ++ o)
      | none => .bad 4
    | none => .bad 5
    else .bad 6
  | none => .bad 6

def exec (A : Ari) (X : Tb) (M : Mt) (fr : List AV) (V : List AO) (op : Oper) : OR :=
  match op.op with
  | .move x | .assign x => .v (ov fr x) V (oo A fr x)
  | .pick c a b => match ov fr c, avB A (opd fr a), avB A (opd fr b) with
    | .d (.bool c0), some (a0, ca), some (b0, cb) =>
      .v (.d (.bool (A.pick c0 a0 b0))) V (oo A fr c ++ (match ca with | some x => [A.imp c0 (A.tt x)] | none => []) ++ (match cb with | some x => [A.imp (A.not c0) (A.tt x)] | none => []))
    | _, _, _ => .bad 1
  | .alloc t => if kn X t && fits X t (.d (zeroD X depth t)) then .v (.ptr (llen V) []) (V ++ [.blk t (expandD (zeroD X depth t))]) [] else .bad 44
  | .box t x => if fits X t (ov fr x) && kn X t && solid (ov fr x) then .v (.ptr (llen V) []) (V ++ [.blk t (expand (ov fr x))]) (oo A fr x) else .bad 2
  | .build t ps => if kn X t && fits X t (.d (zeroD X depth t)) && knAll X t && (X.td t).isAgg then
    match buildParts A X t (expandD (zeroD X depth t)) (ps.toList.map fun p => (p.1, ov fr p.2)) with
    | some (v, o) => .v (norm v) V (oos A fr (ps.toList.map (·.2)) ++ o)
    | none => .bad 3
    else .bad 3
  | .buildSlice t n ps => match n, ps.toList with
    | 0, [] => (match elemOf X t with
      | some e => if kn X e && stOK X e (emptySq X e) && Nat.blt 0 (X.td e).size then .v (.d (.slx (emptySq X e))) V [] else .bad 6
      | none => .bad 6)
    | _, _ => buildSl A X M fr V op t n ps
  | .load t a => match loadAV A X V t (deref X (ov fr a)) with
    | some x => .v x V (oo A fr a)
    | none => .bad 8
  | .store t a x => match storeAV A X V t (ov fr a) (ov fr x) with
    | some (V', o) => .v .undef V' (oo A fr a ++ oo A fr x ++ o)
    | none => .bad 10
  | .nilCheck x => match deref X (ov fr x) with
    | .d .nilp => .pan (nilDeref X) (oo A fr x)
    | .ptr r p => .v (.ptr r p) V (oo A fr x)
    | .ep r g i p => match lget V r with
      | .arr _ _ g' => if g == g' then .v (.ep r g i p) V (oo A fr x) else .bad 11
      | _ => .bad 11
    | .pd y p => .v (.pd y p) V (oo A fr x)
    | .fn f a b => .v (.fn f a b) V (oo A fr x)
    | .yield r => .v (.yield r) V (oo A fr x)
    | _ => .bad 11
  | .binOp b t x y _ => if nilPair (ov fr x) (ov fr y) x y then .bad 12 else vO (binAV A X t b (ov fr x) (ov fr y)) V (oo A fr x ++ oo A fr y) 12
  | .unOp u _ x => match u, ov fr x with
    | .not, .d (.bool b) => .v (.d (.bool (A.not b))) V (oo A fr x)
    | .neg, .d (.int k n) => .v (.d (.int k (A.ar .sub k 0 n))) V (oo A fr x)
    | .xor, .d (.int k n) => .v (.d (.int k (A.ar .xor k (if k.signed then -1 else k.max) n))) V (oo A fr x)
    | _, _ => .bad 13
  | .convert s t x => if kn X s then match X.td s, X.td t, ov fr x with
    | _, .int k, .d (.int _ n) => .v (.d (.int k (A.conv k n))) V (oo A fr x)
    | _, .str, .d (.str l) => .v (.d (.str l)) V (oo A fr x)
    | .str, .sl e, .d (.str l) => match X.td e with
      | .int .u8 => match kindOf M op.dst with
        | 0 => .v (.d (.sl (.b l))) V (oo A fr x)
        | 1 => .v (.slt (.b l) (llen V) 0) (V ++ [.grow 0]) (oo A fr x)
        | _ => .v (.msl (llen V) 0 0 (A.len l)) (V ++ [.arr e (.b l) 0]) (oo A fr x)
      | _ => .bad 14
    | .sl e, .str, y => match X.td e with
      | .int .u8 => match seqOf A X V e y with
        | some (.b l) => .v (.d (.str l)) V (oo A fr x)
        | _ => .bad 15
      | _ => .bad 16
    | .sl e, .sl _, .msl r g off len => if s == t && isU8 (X.td e) then (match lget V r with
      | .arr _ q g' => if g == g' then .v (.msl r g off len) V (oo A fr x ++ [A.inb off (q.len A)]) else .bad 17
      | _ => .bad 17) else .bad 17
    | _, _, _ => .bad 17
    else .bad 17
  | .makeInterface t x => if kn X t then match X.td t with
    | .ifc _ => .bad 18
    | _ => .v (mkIfc t (ov fr x)) V (oo A fr x)
    else .bad 18
  | .makeFunc fn first cap => match fn with
    | .func f => .v (.fn f (ovs fr first.toList) (ovs fr cap.toList)) V (oos A fr first.toList ++ oos A fr cap.toList)
    | _ => .bad 19
  | .makeSlice t l c => match elemOf X t, intOf (ov fr l), intOf (ov fr c) with
    | some e, some n, some m =>
      if !(kn X e && Nat.blt 0 (X.bytes e) && fits X e (.d (zeroD X depth e)) && stOK X e (emptySq X e)) then .bad 20 else
      match kindOf M op.dst with
      | 1 => .v (.d (.slx (repSq A X e n (zeroD X depth e)))) V (oo A fr l ++ oo A fr c ++ [A.ge0 n, A.eqI n m, A.room m (X.bytes e : Int)])
      | _ => .v (.msl (llen V) 0 0 n) (V ++ [.arr e (repSq A X e n (zeroD X depth e)) 0]) (oo A fr l ++ oo A fr c ++ [A.bnd 0 n m, A.room m (X.bytes e : Int)])
    | _, _, _ => .bad 20
  | .sliceToArrayPointer t x => match X.td t, closedSeq (ov fr x) with
    | .arr _ n _, some q => if Nat.blt 0 n then .v (.pd (.arr n (q.cut A 0 (n : Int))) []) V (oo A fr x ++ [A.bnd 0 (n : Int) (q.len A)]) else .bad 45
    | _, _ => .bad 45
  | .makeMap _ none => .v (.map (llen V)) (V ++ [.map []]) []
  | .slice t x lo hi mx => match optInt fr lo, optInt fr hi, optInt fr mx with
    | some a, some b, some c => vO (sliceAV A X V t (deref X (ov fr x)) a b c) V (oo A fr x ++ optO A fr lo ++ optO A fr hi ++ optO A fr mx) 21
    | _, _, _ => .bad 22
  | .fieldAddr s x f => match deref X (ov fr x) with
    | .ptr r p => match lget V r with
      | .blk u _ => if tyIs X p u s && hasF X s f then .v (.ptr r (p ++ [.f f])) V (oo A fr x) else .bad 23
      | _ => .bad 23
    | .ep r g i p => match lget V r with
      | .arr e _ g' => if g == g' && tyIs X p e s && hasF X s f then .v (.ep r g i (p ++ [.f f])) V (oo A fr x) else .bad 24
      | _ => .bad 24
    | .pd y p => if fits X s (.d (getPD A p y)) && hasF X s f then .v (.pd y (p ++ [.f f])) V (oo A fr x) else .bad 25
    | _ => .bad 26
  | .field s x f => if fits X s (ov fr x) && hasF X s f then
      (match ov fr x with
       | .agg l => .v (lget l f) V (oo A fr x)
       | .d (.agg l) => .v (.d (lget l f)) V (oo A fr x)
       | _ => .bad 27) else .bad 28
  | .indexAddr t x i => match intOf (ov fr i) with
    | some n => vE (ixAddr A X V t (deref X (ov fr x)) n) V (oo A fr x ++ oo A fr i) 29
    | none => .bad 30
  | .index t x i => match intOf (ov fr i) with
    | some n => vE (ixVal A X t (ov fr x) n) V (oo A fr x ++ oo A fr i) 31
    | none => .bad 32
  | .typeAssert x _ t ok => if kn X t then match X.td t, ov fr x, ok with
    | .ifc _, _, _ => .bad 33
    | _, .d .nili, true => .v (.tup [.d (zeroD X depth t), .d (.bool false)]) V (oo A fr x)
    | _, .d (.ifc u v), true => if u == t then .v (.tup [.d v, .d (.bool true)]) V (oo A fr x) else .v (.tup [.d (zeroD X depth t), .d (.bool false)]) V (oo A fr x)
    | _, .ifc u v, true => if u == t then .v (.tup [v, .d (.bool true)]) V (oo A fr x) else .v (.tup [.d (zeroD X depth t), .d (.bool false)]) V (oo A fr x)
    | _, .d (.ifc u v), false => if u == t then .v (.d v) V (oo A fr x) else .bad 34
    | _, .ifc u v, false => if u == t then .v v V (oo A fr x) else .bad 35
    | _, _, _ => .bad 36
    else .bad 36
  | .extract t i => match ov fr t with
    | .tup l => if Nat.blt i (llen l) then .v (lget l i) V (oo A fr t) else .bad 37
    | _ => .bad 38
  | .call c => match c.callee with
    | .builtin b => execBuiltin A X fr V b c.argTypes.toList c.args.toList
    | .value f => .call (ov fr f) (ovs fr c.args.toList) (oo A fr f ++ oos A fr c.args.toList)
    | .invoke _ _ => .bad 39
  | .defer c => match c.callee with
    | .value f => match ov fr f with
      | .fn g x y => .df (.call (.fn g x y) (ovs fr c.args.toList)) (oo A fr f ++ oos A fr c.args.toList)
      | _ => .bad 42
    | _ => .bad 42
  | .panic x => match ov fr x with
    | .d (.ifc t v) => .pan (.d (.ifc t v)) (oo A fr x)
    | .ifc t v => .pan (.ifc t v) (oo A fr x)
    | _ => .bad 43
  | _ => .mp []

/-! ### Steps -/
def sub : List Nat → Code → Option Code
  | [], c => some c
  | 0 :: p, .seq a _ => sub p a
  | 1 :: p, .seq _ b => sub p b
  | 0 :: p, .cond _ a _ => sub p a
  | 1 :: p, .cond _ _ b => sub p b
  | 0 :: p, .block _ a => sub p a
  | 0 :: p, .loop a => sub p a
  | 0 :: p, .scope a => sub p a
  | 0 :: p, .rangeFunc _ _ a _ => sub p a
  | 1 :: p, .rangeFunc _ _ _ b => sub p b
  | _, _ => none

def exitIt (id : Nat) : List It → Option (List It)
  | .blk n :: k => if n == id then some k else exitIt id k
  | _ :: k => exitIt id k
  | [] => none

def findL (l : Nat) : Code → List Nat → Option (List It)
  | .seq a b, p =>
    match findL l a (p ++ [0]) with
    | some its => some (its ++ [.c (p ++ [1])])
    | none => findL l b (p ++ [1])
  | .label n, _ => if n == l then some [] else none
  | _, _ => none

def gotoIt (C : Code) (l : Nat) : List It → Option (List It)
  | .scope p :: k =>
    match sub p C with
    | some (.scope c) => match findL l c (p ++ [0]) with
      | some its => some (its ++ .scope p :: k)
      | none => gotoIt C l k
    | _ => none
  | _ :: k => gotoIt C l k
  | [] => none

inductive Pz where
  | more (s : St)
  | stuck (n : Nat) (s : St)
  | cond (b : Bool) (s1 s2 : St)
  | guard (c : Bool) (s1 s2 : St)
  | loop (s : St)
  | call (f : AV) (args : List AV) (dst : Option Nat) (s sp : St)
  | rfun (f : AV) (r : Nat) (s : St)
  | el (s : St)
  | leave (s : St)
  | dcall (f : AV) (args : List AV) (s : St)
  | mp (i : Nat) (s : St)

inductive Rs where
  | go (s : St) (o : List Bool)
  | pz (z : Pz) (o : List Bool)

def put (fr : List AV) (d : Option Nat) (v : AV) : List AV := match d with | some d => lset fr d v | none => fr

def nth? {α : Type} : List α → Nat → Option α
  | [], _ => none
  | a :: _, 0 => some a
  | _ :: l, n + 1 => nth? l n

def ixs : Nat → Nat → List Sx
  | 0, _ => []
  | n + 1, i => .o i :: ixs n (i + 1)

/-- Does the operation leave the objects as they are, its value hanging on operands (and objects) alone? -/
def calm (M : Mt) (o : Oper) : Bool :=
  match o.op with
  | .buildSlice .. => kindOf M o.dst == 0
  | .convert .. => kindOf M o.dst == 0
  | .makeSlice .. => kindOf M o.dst == 1
  | .build .. | .makeInterface .. | .makeFunc .. | .nilCheck _ | .sliceToArrayPointer .. => true
  | .typeAssert _ _ _ ok => ok
  | op => pureOp op

def depsOf (o : Oper) : List Nat := (o.after.toList.filter (Region.binds .any)).map (·.on)

def zipI {α : Type} : Nat → List α → List (Nat × α)
  | _, [] => []
  | n, x :: l => (n, x) :: zipI (n + 1) l

def mem (n : Nat) : List Nat → Bool
  | [] => false
  | m :: l => n == m || mem n l
def mems (l : List Nat) (d : List Nat) : Bool :=
  match l with
  | [] => true
  | n :: l => mem n d && mems l d

/-- Does the operation not look at the objects? -/
def vfree (X : Tb) (o : Oper) : Bool :=
  match o.op with
  | .move _ | .pick .. | .binOp .. | .unOp .. | .field .. | .index .. | .extract .. | .makeInterface .. | .makeFunc .. | .build .. | .typeAssert .. => true
  | .convert _ t _ => match X.td t with | .int _ => true | _ => false
  | _ => false

/-- Does the operation, though it acts, leave the objects? -/
def keepsV (o : Oper) : Bool :=
  match o.op with
  | .assign _ => true
  | _ => false

def looks (ops : List Oper) (o : Oper) : List Nat :=
  (o.op.operands.toList.filterMap fun | .tmp t => some t | _ => none) ++
  (match o.guard with
   | some (g, _) => (match nth? ops g with | some p => (match p.dst with | some d => [d] | none => []) | none => [])
   | none => [])

def lead : List Sx → List Nat
  | .chk j :: l => j :: lead l
  | _ => []

def allB {α : Type} (p : α → Bool) : List α → Bool
  | [] => true
  | x :: l => p x && allB p l
def anyB {α : Type} (p : α → Bool) : List α → Bool
  | [] => false
  | x :: l => p x || anyB p l

/-- An operation's own conditions, in a drawn region: its edges lead back; what hangs on a calm operation's temporary stands behind it; nobody else has that temporary. -/
def statO (M : Mt) (ops : List Oper) (i : Nat) (o : Oper) : Bool :=
  allB (fun d => Nat.blt d i) (depsOf o) &&
  (match o.guard with | some (g, _) => mem g (depsOf o) | none => true) &&
  (!calm M o || (match o.dst with
    | none => true
    | some d => allB (fun jo : Nat × Oper => (!mem d (looks ops jo.2) || mem i (depsOf jo.2)) && (jo.1 == i || (match jo.2.dst with | some d' => !(d' == d) | none => true))) (zipI 0 ops)))

def ancGo (ops : List Oper) (o : Oper) : List Nat → List Nat → Bool
  | [], _ => true
  | j :: r, acc => (mem j (depsOf o) || anyB (fun k => match nth? ops k with | some p => mem j (depsOf p) | none => false) acc) && ancGo ops o r (j :: acc)

/-- Is l an order of the operations that are not done, which stands for each order that may be drawn? -/
def goodGo (X : Tb) (M : Mt) (ops : List Oper) : List Sx → List Nat → Bool
  | [], done => allB (fun jo : Nat × Oper => mem jo.1 done) (zipI 0 ops)
  | .o i :: l, done => !mem i done && (match nth? ops i with | some o => calm M o && mems (depsOf o) done | none => false) && goodGo X M ops l (i :: done)
  | .n i an pn :: l, done =>
    !mem i done &&
    allB (fun jo : Nat × Oper => mem jo.1 done || jo.1 == i || !mems (depsOf jo.2) done) (zipI 0 ops) &&
    (match nth? ops i with
     | some o => !calm M o && ancGo ops o an [] &&
       allB (fun j => match nth? ops j with
         | some p => !calm M p || mem j an ||
            ((vfree X p || keepsV o || mem j (lead l)) && (match p.dst with | some d => mem d pn | none => true) && (match o.dst with | some d => !mem d (looks ops p) | none => true))
         | none => false) done
     | none => false) && goodGo X M ops l (i :: done)
  | .chk i :: l, done => mem i done && goodGo X M ops l done
  | _, _ => false

def goodR (X : Tb) (M : Mt) (ops : List Oper) (l : List Sx) : Bool := allB (fun jo : Nat × Oper => statO M ops jo.1 jo.2) (zipI 0 ops) && goodGo X M ops l []

def goodC (X : Tb) (M : Mt) : Code → Bool
  | .region id ops d => !d || goodR X M ops.toList (schedOf M id)
  | .seq a b => goodC X M a && goodC X M b
  | .cond _ a b => goodC X M a && goodC X M b
  | .block _ a => goodC X M a
  | .loop a => goodC X M a
  | .scope a => goodC X M a
  | .rangeFunc _ _ a b => goodC X M a && goodC X M b
  | _ => true

def undefs (fr : List AV) : List Nat → List AV
  | [] => fr
  | t :: l => undefs (lset fr t .undef) l

section
variable (A : Ari) (X : Tb) (M : Mt) (S : FuncId → List AV → Option (AV × List Bool)) (F : FuncId) (C : Code)

def jumpTo (s : St) (k : List It) (j : AJ) : Rs :=
  match j with
  | .ret => match s.ro with | none => .go { s with todo := k, md := .ret } [] | some _ => .pz (.leave { s with todo := [.rend (some .ret)] }) []
  | .exit id => match exitIt id k with
    | some k' => .go { s with todo := k' } []
    | none => match s.ro with | none => .pz (.stuck 201 s) [] | some _ => .pz (.leave { s with todo := [.rend (some (.exit id))] }) []
  | .goto l => match gotoIt C l k with
    | some k' => .go { s with todo := k' } []
    | none => match s.ro with | none => .pz (.stuck 202 s) [] | some _ => .pz (.leave { s with todo := [.rend (some (.goto l))] }) []

def codeStep (s : St) (p : List Nat) (k : List It) : Rs :=
  match sub p C with
  | none => .pz (.stuck 203 s) []
  | some c =>
    match c with
    | .skip => .go { s with todo := k } []
    | .label _ => .go { s with todo := k } []
    | .seq _ _ => .go { s with todo := .c (p ++ [0]) :: .c (p ++ [1]) :: k } []
    | .cond x _ _ => match opd s.fr x with
      | .d (.bool b) => .pz (.cond b { s with todo := .c (p ++ [0]) :: k } { s with todo := .c (p ++ [1]) :: k }) []
      | _ => .pz (.stuck 204 s) []
    | .block id _ => .go { s with todo := .c (p ++ [0]) :: .blk id :: k } []
    | .loop _ => .pz (.loop { s with todo := .loop p :: k }) []
    | .scope _ => .go { s with todo := .c (p ++ [0]) :: .scope p :: k } []
    | .exit id => jumpTo C s k (.exit id)
    | .goto l => jumpTo C s k (.goto l)
    | .ret => jumpTo C s k .ret
    | .region id ops draw => .go { s with todo := .ops p (if draw then schedOf M id else ixs ops.size 0) :: k } []
    | .rangeFunc f ps _ _ => match s.ro with
      | none => .pz (.rfun (ov s.fr f) (llen s.V + 1) { s with todo := .rf (llen s.V + 1) :: k, V := s.V ++ [.dfr true, .loop ⟨.ready, none, F, s.fr, ps.toList, p, llen s.V⟩], df := .col (llen s.V) :: s.df }) (oo A s.fr f)
      | some l => match lget s.V l with
        | .loop L => .pz (.rfun (ov s.fr f) (llen s.V) { s with todo := .rf (llen s.V) :: k, V := s.V ++ [.loop ⟨.ready, none, F, s.fr, ps.toList, p, L.df⟩] }) (oo A s.fr f)
        | _ => .pz (.stuck 205 s) []
    | .refuse _ => .pz (.stuck 206 s) []

def wantedOf (fr : List AV) (ops : List Oper) (o : Oper) : Option (Option Bool) :=
  match o.guard with
  | none => some none
  | some (j, w) =>
    match nth? ops j with
    | some g => match g.dst with
      | some t => match lget fr t with
        | .d (.bool b) => some (some (if w then b else A.not b))
        | .gd c (.d (.bool b)) => some (some (A.and c (if w then b else A.not b)))
        | _ => none
      | none => none
    | none => none

def isGd : AV → Bool
  | .gd _ _ => true
  | _ => false

/-- A call that is told without a walk: slices with the right to grow are handed on without it. -/
def coer : AV → AV
  | .slt q _ _ => .d (.sl q)
  | v => v
def coers : List AV → List AV
  | [] => []
  | v :: l => coer v :: coers l
/-- Memory that is written elsewhere is lent to a call that only reads, and whose answer bears no memory. -/
def coerV (V : List AO) : AV → AV
  | .msl r g off len => match lget V r with
    | .arr _ q g' => if g == g' then .d (.sl (q.cut A off (A.plus off len))) else .msl r g off len
    | _ => .msl r g off len
  | .asl r p lo hi => match lget V r with
    | .blk _ v => match getP A p v with
      | .d (.arr _ q) => .d (.sl (q.cut A lo hi))
      | _ => .asl r p lo hi
    | _ => .asl r p lo hi
  | v => coer v
def coersV (V : List AO) : List AV → List AV
  | [] => []
  | v :: l => coerV A V v :: coersV V l
mutual
def flatA : AV → Bool
  | .d (.bool _) => true
  | .d (.int _ _) => true
  | .d (.str _) => true
  | .tup l => flatAs l
  | _ => false
def flatAs : List AV → Bool
  | [] => true
  | v :: l => flatA v && flatAs l
end
def sumOf (V : List AO) (f : AV) (args : List AV) : Option (AV × List Bool) :=
  match f with
  | .fn g a c => match S g (coers (a ++ args ++ c)) with
    | some r => some r
    | none => match S g (coersV A V (a ++ args ++ c)) with
      | some (r, ob) => match flatA r with
        | true => some (r, ob)
        | false => none
      | none => none
  | _ => none

def impAll (c : Bool) : List Bool → List Bool
  | [] => []
  | p :: l => A.imp c p :: impAll c l

def runOp (s : St) (p : List Nat) (o : Oper) (x : Sx) (i : Nat) (pn : List Nat) (rest : List Sx) (k : List It) : Rs :=
  match exec A X M s.fr s.V o with
  | .v x V ob => match isGd x with
    | false => .go { s with todo := .ops p rest :: k, fr := put s.fr o.dst x, V := V } ob
    | true => .pz (.stuck 223 s) []
  | .el x V ob => match isGd x with
    | false => .pz (.el { s with todo := .ops p rest :: k, fr := put s.fr o.dst x, V := V }) ob
    | true => .pz (.stuck 223 s) []
  | .call f args ob => match sumOf A S s.V f args with
    | some (r, ob') => match isGd r with
      | false => .go { s with todo := .ops p rest :: k, fr := put s.fr o.dst r } (ob' ++ ob)
      | true => .pz (.stuck 223 s) []
    | none => .pz (.call f args o.dst { s with todo := .ops p rest :: k } { s with todo := .ops p rest :: k, fr := undefs s.fr pn }) ob
  | .pan x ob => .go { s with todo := .ops p rest :: k, fr := undefs s.fr pn, md := .pan [(x, false)] } ob
  | .df d ob => match s.ro with
    | none => .go { s with todo := .ops p rest :: k, fr := put s.fr o.dst .undef, df := d :: s.df } ob
    | some _ => .pz (.stuck 219 { s with todo := .ops p (x :: rest) :: k }) []
  | .rcv => match s.ro, s.cm with
    | none, some (.pan ((v, false) :: older)) => match isGd v with
      | false => .go { s with todo := .ops p rest :: k, fr := put s.fr o.dst v, cm := some (.pan ((v, true) :: older)) } []
      | true => .pz (.stuck 223 s) []
    | none, _ => .go { s with todo := .ops p rest :: k, fr := put s.fr o.dst (.d .nili) } []
    | some _, _ => .pz (.stuck 225 s) []
  | .mp _ => .pz (.mp i { s with todo := .ops p (x :: rest) :: k }) []
  | .bad n => .pz (.stuck n { s with todo := .ops p (x :: rest) :: k }) []

/-- An operation in the text's order. -/
def opStep (s : St) (p : List Nat) (ops : List Oper) (x : Sx) (rest : List Sx) (k : List It) : Rs :=
  match x with
  | .o i => match nth? ops i with
    | none => .pz (.stuck 211 s) []
    | some o => match wantedOf A s.fr ops o with
      | none => .pz (.stuck 212 s) []
      | some none => runOp A X M S s p o x i [] rest k
      | some (some c) =>
        let pz := Rs.pz (.guard c { s with todo := .ops p (.og i :: rest) :: k } { s with todo := .ops p rest :: k, fr := put s.fr o.dst (.gd false (.d (.bool false))) }) []
        match calm M o with
        | true => match exec A X M s.fr s.V o with
          | .v x V ob => match isGd x with
            | false => .go { s with todo := .ops p rest :: k, fr := put s.fr o.dst (.gd c x), V := V } (impAll A c ob)
            | true => pz
          | _ => pz
        | false => pz
  | .og i => match nth? ops i with
    | none => .pz (.stuck 213 s) []
    | some o => runOp A X M S s p o x i [] rest k
  | _ => .pz (.stuck 214 s) []

/-- A calm operation, in a drawn order. -/
def calmOp (s : St) (p : List Nat) (o : Oper) (rest : List Sx) (k : List It) : Rs :=
  match exec A X M s.fr s.V o with
  | .v x _ ob => match isGd x with
    | false => .go { s with todo := .ops p rest :: k, fr := put s.fr o.dst x } ob
    | true => .pz (.stuck 223 s) []
  | .el x _ ob => match isGd x with
    | false => .pz (.el { s with todo := .ops p rest :: k, fr := put s.fr o.dst x }) ob
    | true => .pz (.stuck 223 s) []
  | .bad n => .pz (.stuck n s) []
  | _ => .pz (.stuck 224 s) []

/-- An operation in a drawn order. -/
def opStepD (s : St) (p : List Nat) (ops : List Oper) (x : Sx) (rest : List Sx) (k : List It) : Rs :=
  match x with
  | .o i => match nth? ops i with
    | none => .pz (.stuck 211 s) []
    | some o => match wantedOf A s.fr ops o with
      | none => .pz (.stuck 212 s) []
      | some none => calmOp A X M s p o rest k
      | some (some c) =>
        let pz := Rs.pz (.guard c { s with todo := .ops p (.og i :: rest) :: k } { s with todo := .ops p rest :: k, fr := put s.fr o.dst (.gd false (.d (.bool false))) }) []
        match exec A X M s.fr s.V o with
        | .v x _ ob => match isGd x with
          | false => .go { s with todo := .ops p rest :: k, fr := put s.fr o.dst (.gd c x) } (impAll A c ob)
          | true => pz
        | _ => pz
  | .og i => match nth? ops i with
    | none => .pz (.stuck 213 s) []
    | some o => calmOp A X M s p o rest k
  | .n i an pn => match nth? ops i with
    | none => .pz (.stuck 211 s) []
    | some o => match wantedOf A s.fr ops o with
      | none => .pz (.stuck 212 s) []
      | some none => runOp A X M S s p o x i pn rest k
      | some (some c) => .pz (.guard c { s with todo := .ops p (.ng i an pn :: rest) :: k } { s with todo := .ops p rest :: k, fr := put s.fr o.dst (.gd false (.d (.bool false))) }) []
  | .ng i _ pn => match nth? ops i with
    | none => .pz (.stuck 213 s) []
    | some o => runOp A X M S s p o x i pn rest k
  | .chk i => match nth? ops i with
    | none => .pz (.stuck 214 s) []
    | some o => match exec A X M s.fr s.V o, o.dst, wantedOf A s.fr ops o with
      | .v x _ ob, some t, some none => .go { s with todo := .ops p rest :: k } (A.eqv x (lget s.fr t) :: ob)
      | .el x _ ob, some t, some none => .go { s with todo := .ops p rest :: k } (A.eqv x (lget s.fr t) :: ob)
      | .v x _ ob, some t, some (some c) => if isGd x then .pz (.stuck 223 s) [] else .go { s with todo := .ops p rest :: k } (A.imp c (A.eqv x (strip (lget s.fr t))) :: impAll A c ob)
      | .v x _ ob, none, some none => if isGd x then .pz (.stuck 223 s) [] else .go { s with todo := .ops p rest :: k } ob
      | _, _, _ => .pz (.stuck 215 s) []

/-- An activation that ends: its deferred calls first. -/
def leaveStep (s : St) : Rs :=
  match s.df with
  | [] => .pz (.leave s) []
  | .col r :: ds => match lget s.V r with
    | .dfr true => .go { s with df := ds, V := lset s.V r (.dfr false) } []
    | _ => .pz (.stuck 226 s) []
  | .call f args :: ds => .pz (.dcall f args { s with df := ds }) []

def step (s : St) : Rs :=
  match s.md with
  | .ret => leaveStep s
  | .pan _ => leaveStep s
  | .run =>
    match s.todo with
    | [] => match s.ro with | none => .go { s with md := .ret } [] | some _ => .pz (.leave { s with todo := [.rend none] }) []
    | .c p :: k => codeStep A M F C s p k
    | .blk _ :: k => .go { s with todo := k } []
    | .scope _ :: k => .go { s with todo := k } []
    | .loop _ :: _ => .pz (.loop s) []
    | .ops _ [] :: k => .go { s with todo := k } []
    | .ops p (x :: rest) :: k => match sub p C with
      | some (.region _ ops draw) => if draw then opStepD A X M S s p ops.toList x rest k else opStep A X M S s p ops.toList x rest k
      | _ => .pz (.stuck 216 s) []
    | .rf _ :: _ => .pz (.stuck 217 s) []
    | .rend _ :: _ => .pz (.stuck 227 s) []
    | .erf r :: k => match lget s.V r with
      | .loop L => match L.state with
        | .busy => .pz (.stuck 218 s) []
        | _ =>
          let s' := { s with todo := k, V := lset s.V r (.loop { L with state := .exhausted }) }
          match L.pend with
          | none => .go s' []
          | some j => jumpTo C s' k j
      | _ => .pz (.stuck 219 s) []
    | .beg :: k => match s.ro with
      | some r => match lget s.V r with
        | .loop L => match L.state with
          | .ready => .go { s with todo := k, V := lset s.V r (.loop { L with state := .busy }) } []
          | _ => .pz (.stuck 220 s) []
        | _ => .pz (.stuck 221 s) []
      | none => .pz (.stuck 222 s) []

def adv : Nat → St → List Bool → Pz × List Bool
  | 0, s, o => (.more s, o)
  | n + 1, s, o =>
    match step A X M S F C s with
    | .go s' o' => adv n s' (o' ++ o)
    | .pz z o' => (z, o' ++ o)

end
def Obl : List Bool → Prop
  | [] => True
  | p :: l => p = true ∧ Obl l

end Go.Sk
