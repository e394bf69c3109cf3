/- An abstract machine over data for the model's code: its definitions. Nothing is proved here. -/
import Derived.WalkKit
set_option linter.all false
namespace Go.AM
open Go

/-- Data: an integer, a bool, bytes, a slice's elements (and whether it is nil), the cells of a struct or an array. -/
inductive D where
  | i (n : Int)
  | b (x : Bool)
  | s (x : List UInt8)
  | l (isnil : Bool) (xs : List D)
  | a (cs : List D)

def D.toI : D → Int
  | .i n => n
  | _ => 0
def D.toB : D → Bool
  | .b x => x
  | _ => false
def D.toS : D → List UInt8
  | .s x => x
  | _ => []
def D.isNil : D → Bool
  | .l n _ => n
  | _ => true
def D.items : D → List D
  | .l _ xs => xs
  | _ => []
def D.cell (d : D) (j : Nat) : D :=
  match d with
  | .a cs => cs.getD j (.i 0)
  | _ => .i 0
instance : Inhabited D := ⟨.i 0⟩

/-- A cell's value in the abstract machine. -/
inductive C where
  | u
  | i (k : IntKind) (n : Int)
  | b (x : Bool)
  | k (x : Bool)
  | s (x : List UInt8)
  | sl (e : TypeId) (isnil : Bool) (xs : List D)
  | v (x : Value)
  | p (key off : Nat)
  | el (e : TypeId) (d : D) (off : Nat)
  | re (key : Nat) (e : TypeId) (ix off : Nat)
  | pi (key base len esz ix off : Nat)
  | o (key : Nat)
  | m (key : Nat)
  | f (fn : FuncId) (caps : List (Nat × Nat))

inductive V where
  | c (x : C)
  | g (xs : List C)
  | t (xs : List V)
  | w (slot : Nat) (want : Bool) (x : V)

inductive Obj where
  | box (cells : List C)
  | row (e : TypeId) (excl isnil : Bool) (xs : List D)
  | map (kt vt : TypeId) (es : List (D × D))

abbrev AL (α : Type) := List (Nat × α)
def get {α : Type} : AL α → Nat → Option α
  | [], _ => none
  | (k, v) :: r, n => bif Nat.beq k n then some v else get r n
def set {α : Type} : AL α → Nat → α → AL α
  | [], n, x => [(n, x)]
  | (k, v) :: r, n, x => bif Nat.beq k n then (n, x) :: r else bif Nat.ble n k then (n, x) :: (k, v) :: r else (k, v) :: set r n x
def del {α : Type} : AL α → Nat → AL α
  | [], _ => []
  | (k, v) :: r, n => bif Nat.beq k n then del r n else (k, v) :: del r n
def keep {α : Type} (p : Nat → Bool) : AL α → AL α
  | [] => []
  | (k, v) :: r => bif p k then (k, v) :: keep p r else keep p r
def mapV {α β : Type} (h : α → β) : AL α → AL β
  | [] => []
  | (k, v) :: r => (k, h v) :: mapV h r
def memB (n : Nat) : List Nat → Bool
  | [] => false
  | m :: r => bif Nat.beq m n then true else memB n r

structure St where
  tmps : AL V
  mem : AL Obj

inductive Ex where
  | normal
  | exit (id : Nat)
  | ret

abbrev Res := List V × AL Obj
/-- What is known of a call: alternatives, each with its condition. -/
abbrev Oracle := FuncId → List V → AL Obj → Option (List (Bool × Res))
/-- Which slots and keys are kept at the head of the loop whose body's first region has this number. -/
abbrev Hints := List (Nat × (List Nat × List Nat × List Nat))

/-! ### Types -/
inductive CK where
  | int (k : IntKind) | bool | str | sl (e : TypeId) | oth
def kindsOf (P : Program) : Nat → TypeId → List CK
  | 0, _ => []
  | n + 1, T => match P.underlying T with
    | some (.int k) => [.int k]
    | some .bool => [.bool]
    | some .string => [.str]
    | some (.slice e) => [.sl e]
    | some (.struct fs) => fs.toList.flatMap fun f => kindsOf P n f.type
    | some (.array len e) => (List.replicate len (kindsOf P n e)).flatten
    | some _ => [.oth]
    | none => []
def kinds (P : Program) (T : TypeId) : List CK := kindsOf P 12 T
def isAggB (P : Program) (T : TypeId) : Bool :=
  match P.underlying T with
  | some (.struct _) | some (.array _ _) => true
  | _ => false
def tyB (P : Program) (T : TypeId) : Bool := (P.underlying T).isSome
def isSliceB (P : Program) (T : TypeId) : Bool :=
  match P.underlying T with
  | some (.slice _) => true
  | _ => false
def sizeB (P : Program) (T : TypeId) : Nat := ((P.info? T).map (·.size)).getD 0

/-! ### Values -/
def ofC : Value → C
  | .int k n => .i k n
  | .bool x => .k x
  | .string x => .s x.data.toList
  | x => .v x
def ofV : Value → V
  | .agg cs => .g (cs.toList.map ofC)
  | x => .c (ofC x)
def cellsV : V → List C
  | .c x => [x]
  | .g xs => xs
  | _ => []
def mkC : CK → D → C
  | .int k, d => .i k d.toI
  | .bool, d => .b d.toB
  | .str, d => .s d.toS
  | .sl e, d => .sl e d.isNil d.items
  | .oth, _ => .u
def mkCs (d : D) : Nat → List CK → List C
  | _, [] => []
  | j, k :: r => mkC k (d.cell j) :: mkCs d (j + 1) r
/-- The cells of an element of type e whose datum is d. -/
def elCells (P : Program) (e : TypeId) (d : D) : List C :=
  bif isAggB P e then mkCs d 0 (kinds P e) else match kinds P e with
    | k :: _ => [mkC k d]
    | [] => []
/-- A nil slice is given the type that the place has. -/
def coe (P : Program) (T : TypeId) (x : V) : V :=
  match x with
  | .c (.v (.slice none 0 0)) => (match P.underlying T with | some (.slice e) => .c (.sl e true []) | _ => x)
  | _ => x
def coeC (k : CK) (x : C) : C :=
  match x with
  | .v (.slice none 0 0) => (match k with | .sl e => .sl e true [] | _ => x)
  | _ => x
def coeCs : List CK → List C → List C
  | k :: ks, c :: cs => coeC k c :: coeCs ks cs
  | _, cs => cs
/-- A cell as a datum of a kind. -/
def fit (mem : AL Obj) (k : CK) (c : C) : Option D :=
  match k, c with
  | .int k, .i k' n => bif k == k' then some (.i n) else none
  | .bool, .b x => some (.b x)
  | .bool, .k x => some (.b x)
  | .str, .s x => some (.s x)
  | .sl e, .sl e' n xs => bif Nat.beq e e' then some (.l n xs) else none
  | .sl _, .v (.slice none 0 0) => some (.l true [])
  | .sl e, .o key => match get mem key with
    | some (.row e' false n xs) => bif Nat.beq e e' then some (.l n xs) else none
    | _ => none
  | _, _ => none
def fits (mem : AL Obj) : List CK → List C → Option (List D)
  | [], [] => some []
  | k :: ks, c :: cs => match fit mem k c with
    | some d => (match fits mem ks cs with | some ds => some (d :: ds) | none => none)
    | none => none
  | _, _ => none
/-- A value as the datum of an element of type e. -/
def asD (P : Program) (mem : AL Obj) (e : TypeId) (x : V) : Option D :=
  bif isAggB P e then match x with
    | .g cs => (match fits mem (kinds P e) cs with | some ds => some (.a ds) | none => none)
    | _ => none
  else match x, kinds P e with
    | .c c, [k] => fit mem k c
    | _, _ => none

/-! ### Keys -/
def inval (key : Nat) : C → C
  | .p k o => bif Nat.beq k key then .u else .p k o
  | .re k e a b => bif Nat.beq k key then .u else .re k e a b
  | .pi k a b c d e => bif Nat.beq k key then .u else .pi k a b c d e
  | .o k => bif Nat.beq k key then .u else .o k
  | .m k => bif Nat.beq k key then .u else .m k
  | .f fn caps => bif caps.any (fun x => Nat.beq x.1 key) then .u else .f fn caps
  | x => x
def inval1 (key : Nat) : V → V
  | .c x => .c (inval key x)
  | .g xs => .g (xs.map (inval key))
  | _ => .c .u
def invalV (key : Nat) : V → V
  | .c x => .c (inval key x)
  | .g xs => .g (xs.map (inval key))
  | .t xs => .t (xs.map (inval1 key))
  | .w s b x => .w s b (inval1 key x)
def invalO (key : Nat) : Obj → Obj
  | .box cs => .box (cs.map (inval key))
  | x => x
/-- The key comes to stand for a new object. -/
def fresh (key : Nat) (o : Obj) (st : St) : St :=
  { tmps := mapV (invalV key) st.tmps, mem := set (mapV (invalO key) st.mem) key o }

/-! ### Slots -/
def detag (d : Nat) : V → V
  | .w s b x => bif Nat.beq s d then .c .u else .w s b x
  | x => x
def St.put (st : St) (dst : Option Nat) (x : V) : St :=
  match dst with
  | none => st
  | some d => { st with tmps := set (mapV (detag d) st.tmps) d (detag d x) }
def ev (st : St) : Operand → V
  | .tmp t => (get st.tmps t).getD (.c .u)
  | .const v => ofV v
  | .func f => .c (.f f [])
  | .global _ => .c .u
def untag : V → V
  | .w _ _ _ => .c .u
  | x => x
def evu (st : St) (x : Operand) : V := untag (ev st x)
def unwrap (t : Nat) (want : Bool) : V → V
  | .w s b x => bif Nat.beq s t && (b == want) then x else .c .u
  | x => x
def evw (st : St) (t : Nat) (want : Bool) (x : Operand) : V := unwrap t want (ev st x)
def toB : V → Option Bool
  | .c (.b x) => some x
  | .c (.k x) => some x
  | _ => none

/-! ### Operators -/
def bitsV (op : BinOp) (k : IntKind) (x y : Int) : Option Int :=
  let a := BitVec.ofInt k.bits x
  let b := BitVec.ofInt k.bits y
  match op with
  | .and => some (k.wrap (a &&& b).toNat)
  | .or => some (k.wrap (a ||| b).toNat)
  | .xor => some (k.wrap (a ^^^ b).toNat)
  | .andNot => some (k.wrap (a &&& ~~~b).toNat)
  | _ => none
def binI (op : BinOp) (k : IntKind) (a b : Int) : Option (Bool × C) :=
  match op with
  | .add => some (true, .i k (k.wrap (a + b)))
  | .sub => some (true, .i k (k.wrap (a - b)))
  | .mul => some (true, .i k (k.wrap (a * b)))
  | .quo => some (!(b == 0), .i k (k.wrap (a.tdiv b)))
  | .rem => some (!(b == 0), .i k (a.tmod b))
  | .eql => some (true, .b (a == b))
  | .neq => some (true, .b (a != b))
  | .lss => some (true, .b (decide (a < b)))
  | .leq => some (true, .b (decide (a ≤ b)))
  | .gtr => some (true, .b (decide (a > b)))
  | .geq => some (true, .b (decide (a ≥ b)))
  | op => match bitsV op k a b with
    | some n => some (true, .i k n)
    | none => none
def shiftV (op : BinOp) (k : IntKind) (x y : Int) : Option (Bool × C) :=
  match op with
  | .shl => some (decide (0 ≤ y), .i k (k.wrap (x * 2 ^ (min y.toNat k.bits))))
  | .shr => some (decide (0 ≤ y), .i k (x.fdiv (2 ^ (min y.toNat k.bits))))
  | _ => none
def strMax : Nat := 9223372036854775807
def binS (op : BinOp) (x y : List UInt8) : Option (Bool × C) :=
  match op with
  | .add => some (decide (x.length + y.length ≤ strMax), .s (x ++ y))
  | .eql => some (true, .b (x == y))
  | .neq => some (true, .b (!(x == y)))
  | .lss => some (true, .b (Op.bytesLess x y))
  | .leq => some (true, .b (Op.bytesLess x y || x == y))
  | .gtr => some (true, .b (!(Op.bytesLess x y || x == y)))
  | .geq => some (true, .b (!(Op.bytesLess x y)))
  | _ => none
/-- '==' on two cells of data. -/
def eqInt : List C → List C → Option Bool
  | [.i k a], [.i k' b] => bif k == k' then some (a == b) else none
  | _, _ => none
def eqStr : List C → List C → Option Bool
  | [.s a], [.s b] => some (a == b)
  | _, _ => none
def boolC : C → Option Bool
  | .b a => some a
  | .k a => some a
  | _ => none
def eqBool : List C → List C → Option Bool
  | [c], [d] => (match boolC c, boolC d with | some a, some b => some (a == b) | _, _ => none)
  | _, _ => none
def optAnd : Option Bool → Option Bool → Option Bool
  | some a, some b => some (a && b)
  | _, _ => none
/-- '==' on the cells of two values of type T (the model's own way through a struct and an array). -/
def eqT (P : Program) : Nat → TypeId → List C → List C → Option Bool
  | 0, _, _, _ => none
  | n + 1, T, xs, ys => match P.underlying T with
    | some (.int _) => eqInt xs ys
    | some .bool => eqBool xs ys
    | some .string => eqStr xs ys
    | some (.struct fs) => bif P.stoodInHeld T then none else
      fs.toList.foldr (fun f r => bif f.name == "_" then none else
        optAnd (eqT P n f.type ((xs.drop f.offset).take (sizeB P f.type)) ((ys.drop f.offset).take (sizeB P f.type))) r) (some true)
    | some (.array len e) => bif tyB P e then (List.range len).foldr (fun i r =>
        optAnd (eqT P n e ((xs.drop (i * sizeB P e)).take (sizeB P e)) ((ys.drop (i * sizeB P e)).take (sizeB P e))) r) (some true) else none
    | _ => none
/-- The cells of two values of type T. -/
def cells2 (P : Program) (T : TypeId) (x y : V) : Option (List C × List C) :=
  bif isAggB P T then (match x, y with | .g a, .g b => some (a, b) | _, _ => none) else (match x, y with | .c a, .c b => some ([a], [b]) | _, _ => none)
def eqV (P : Program) (T : TypeId) (x y : V) : Option Bool :=
  bif P.eqGuardType P.depth T then none else (match cells2 P T x y with | some (a, b) => eqT P 12 T a b | none => none)
def binV (P : Program) (op : BinOp) (T : TypeId) (x y : V) : Option (Bool × C) :=
  match x, y with
  | .c (.i k a), .c (.i k' b) => (match op with
    | .shl | .shr => shiftV op k a b
    | _ => bif k == k' then binI op k a b else none)
  | .c (.s a), .c (.s b) => binS op a b
  | .c (.sl _ n _), .c (.v (.slice none 0 0)) => bif isSliceB P T then (match op with
    | .eql => some (true, .b n)
    | .neq => some (true, .b (!n))
    | _ => none) else none
  | x, y => match op with
    | .eql => (match eqV P T x y with | some r => some (true, .b r) | none => none)
    | .neq => (match eqV P T x y with | some r => some (true, .b (!r)) | none => none)
    | _ => none
def unV (op : UnOp) (x : V) : Option C :=
  match op, x with
  | .not, .c (.b x) => some (.b (!x))
  | .not, .c (.k x) => some (.k (!x))
  | .neg, .c (.i k n) => some (.i k (k.wrap (0 - n)))
  | .xor, .c (.i k n) => (match bitsV .xor k (if k.signed then -1 else k.max) n with | some r => some (.i k r) | none => none)
  | _, _ => none

/-! ### Memory -/
def splice (cs : List C) (off : Nat) (new : List C) : List C := cs.take off ++ new ++ cs.drop (off + new.length)
def sameKind : C → C → Bool
  | .i k _, .i k' _ => k == k'
  | .b _, .b _ => true
  | .b _, .k _ => true
  | .k _, .b _ => true
  | .k _, .k _ => true
  | _, _ => false
def selC (c : Bool) (x y : C) : C :=
  match x, y with
  | .i k a, .i _ b => .i k (bif c then a else b)
  | .b a, .b b => .b (bif c then a else b)
  | .b a, .k b => .b (bif c then a else b)
  | .k a, .b b => .b (bif c then a else b)
  | .k a, .k b => .b (bif c then a else b)
  | x, _ => x
/-- The cell at base + ix * esz of an array of len elements, all of one plain kind. -/
def pickAt (cs : List C) (base esz : Nat) (ix : Nat) : Nat → Nat → Option C
  | 0, _ => none
  | 1, j => cs[base + j * esz]?
  | n + 2, j => match cs[base + j * esz]?, pickAt cs base esz ix (n + 1) (j + 1) with
    | some x, some y => bif sameKind x y then some (selC (Nat.beq ix j) x y) else none
    | _, _ => none
def storeAt (cs : List C) (base esz : Nat) (ix : Nat) (x : C) : Nat → Nat → Option (List C)
  | 0, _ => some cs
  | n + 1, j => match storeAt cs base esz ix x n (j + 1) with
    | some cs' => (match cs'[base + j * esz]? with
      | some y => bif sameKind x y then some (cs'.set (base + j * esz) (selC (Nat.beq ix j) x y)) else none
      | none => none)
    | none => none
def readC (P : Program) (T : TypeId) (cs : List C) (off : Nat) : Option V :=
  bif isAggB P T then (bif Nat.ble (off + sizeB P T) cs.length then some (.g ((cs.drop off).take (sizeB P T))) else none)
  else bif tyB P T then (match cs[off]? with | some c => some (.c c) | none => none) else none
def sure (x : Option V) : Option (Bool × V) :=
  match x with
  | some v => some (true, v)
  | none => none
def loadV (P : Program) (mem : AL Obj) (T : TypeId) (a : V) : Option (Bool × V) :=
  match a with
  | .c (.p key off) => (match get mem key with | some (.box cs) => sure (readC P T cs off) | _ => none)
  | .c (.el e d off) => sure (readC P T (elCells P e d) off)
  | .c (.re key e ix off) => (match get mem key with
    | some (.row e' _ _ xs) => bif Nat.beq e e' then (match readC P T (elCells P e (xs.getD ix (.i 0))) off with | some v => some (decide (ix < xs.length), v) | none => none) else none
    | _ => none)
  | .c (.pi key base len esz ix off) => bif isAggB P T || !tyB P T then none else
    (match get mem key with | some (.box cs) => (match pickAt cs (base + off) esz ix len 0 with | some c => some (true, .c c) | none => none) | _ => none)
  | _ => none
/-- May this be written into a cell? -/
def plainC : C → Bool
  | .u => false
  | .v x => x.oneCell'
  | _ => true
def allPlain : List C → Bool
  | [] => true
  | c :: cs => bif plainC c then allPlain cs else false
/-- The cells that a value of type T puts into memory. -/
def storeCellsV (P : Program) (T : TypeId) (x : V) : Option (List C) :=
  let cs := coeCs (kinds P T) (cellsV x)
  bif Nat.beq cs.length (sizeB P T) && allPlain cs && !cs.isEmpty then some cs else none
def cellsD (P : Program) (mem : AL Obj) (e : TypeId) (cs : List C) : Option D :=
  asD P mem e (bif isAggB P e then .g cs else match cs with | [c] => .c c | _ => .t [])
def storeM (P : Program) (mem : AL Obj) (T : TypeId) (a x : V) : Option (Bool × AL Obj) :=
  match storeCellsV P T x with
  | none => none
  | some new => match a with
    | .c (.p key off) => (match get mem key with
      | some (.box cs) => bif Nat.ble (off + new.length) cs.length then some (true, set mem key (.box (splice cs off new))) else none
      | _ => none)
    | .c (.pi key base len esz ix off) => (match get mem key with
      | some (.box cs) => (match new with
        | [c] => (match storeAt cs (base + off) esz ix c len 0 with | some cs' => some (true, set mem key (.box cs')) | none => none)
        | _ => none)
      | _ => none)
    | .c (.re key e ix off) => (match get mem key with
      | some (.row e' true n xs) => bif Nat.beq e e' && Nat.ble (off + new.length) (kinds P e).length then
          (match cellsD P mem e (splice (elCells P e (xs.getD ix (.i 0))) off new) with
          | some d => some (decide (ix < xs.length), set mem key (.row e true n (xs.set ix d)))
          | none => none) else none
      | _ => none)
    | _ => none
def fieldOff (P : Program) (S : TypeId) (f : Nat) : Option Nat :=
  match P.underlying S with
  | some (.struct fs) => (match fs[f]? with | some x => bif Nat.beq (sizeB P x.type) 0 then none else some x.offset | none => none)
  | _ => none
def addOff (a : V) (n : Nat) : Option V :=
  match a with
  | .c (.p key off) => some (.c (.p key (off + n)))
  | .c (.el e d off) => some (.c (.el e d (off + n)))
  | .c (.re key e ix off) => some (.c (.re key e ix (off + n)))
  | .c (.pi key base len esz ix off) => some (.c (.pi key base len esz ix (off + n)))
  | _ => none
def inB (i : Int) (n : Nat) : Bool := decide (0 ≤ i) && decide (i < n)
def indexAddrV (P : Program) (mem : AL Obj) (T : TypeId) (x ix : V) : Option (Bool × V) :=
  match ix with
  | .c (.i _ i) => (match P.underlying T, x with
    | some (.slice e'), .c (.sl e _ xs) => bif Nat.beq e e' && tyB P e then some (inB i xs.length, .c (.el e (xs.getD i.toNat (.i 0)) 0)) else none
    | some (.slice e'), .c (.o key) => (match get mem key with | some (.row e _ _ xs) => bif Nat.beq e e' && tyB P e then some (inB i xs.length, .c (.re key e i.toNat 0)) else none | _ => none)
    | some (.array len e), .c (.p key off) => bif Nat.beq (sizeB P e) 0 then none else some (inB i len, .c (.pi key off len (sizeB P e) i.toNat 0))
    | _, _ => none)
  | _ => none
def fieldV (P : Program) (T : TypeId) (x : V) (f : Nat) : Option V :=
  match P.underlying T, x with
  | some (.struct fs), .g cs => (match fs[f]? with
    | some fd => bif isAggB P fd.type then some (.g ((cs.drop fd.offset).take (sizeB P fd.type))) else bif tyB P fd.type then (match cs[fd.offset]? with | some c => some (.c c) | none => none) else none
    | none => none)
  | _, _ => none
def indexV (P : Program) (T : TypeId) (x ix : V) : Option (Bool × V) :=
  match P.underlying T, x, ix with
  | some .string, .c (.s l), .c (.i _ i) => some (inB i l.length, .c (.i .u8 ((l.getD i.toNat 0).toNat : Int)))
  | _, _, _ => none
def zeroV (P : Program) (T : TypeId) : Option (List C) :=
  match (P.info? T).bind (·.zero) with
  | some (.agg cs) => bif isAggB P T then some (coeCs (kinds P T) (cs.toList.map ofC)) else none
  | some v => bif isAggB P T then none else some (coeCs (kinds P T) [ofC v])
  | none => none
def zeroVal (P : Program) (T : TypeId) : Option V :=
  match zeroV P T with
  | some z => bif isAggB P T then some (.g z) else (match z with | [c] => some (.c c) | _ => none)
  | none => none
def fillC (P : Program) (places : List (Nat × TypeId)) : List C → List (Nat × V) → Option (List C)
  | cs, [] => some cs
  | cs, (i, x) :: rest => match places[i]? with
    | none => none
    | some (off, T) => match storeCellsV P T x with
      | none => none
      | some new => bif Nat.ble (off + new.length) cs.length then fillC P places (splice cs off new) rest else none
def buildV (P : Program) (T : TypeId) (parts : List (Nat × V)) : Option V :=
  match zeroV P T, P.underlying T with
  | some z, some (.struct fs) => bif !(fs.toList.all fun f => (P.info? f.type).isSome) then none else (match fillC P (fs.toList.map fun f => (f.offset, f.type)) z parts with | some cs => some (.g cs) | none => none)
  | some z, some (.array len e) => bif !(P.info? e).isSome then none else (match fillC P ((List.range len).map fun i => (i * sizeB P e, e)) z parts with | some cs => some (.g cs) | none => none)
  | _, _ => none
def boundV (o : Option V) (d : Int) : Option Int :=
  match o with
  | none => some d
  | some (.c (.i _ n)) => some n
  | _ => none
def sliceV (P : Program) (T : TypeId) (x : V) (lo hi : Option V) : Option (Bool × V) :=
  match P.underlying T, x with
  | some .string, .c (.s l) => (match boundV lo 0, boundV hi l.length with
    | some a, some b => some (decide (0 ≤ a) && decide (a ≤ b) && decide (b ≤ l.length), .c (.s ((l.take b.toNat).drop a.toNat)))
    | _, _ => none)
  | some (.slice e'), .c (.sl e n xs) => bif Nat.beq e e' && tyB P e then (match boundV lo 0, boundV hi xs.length with
    | some a, some b => some (decide (0 ≤ a) && decide (a ≤ b) && decide (b ≤ xs.length), .c (.sl e n ((xs.take b.toNat).drop a.toNat)))
    | _, _ => none) else none
  | _, _ => none
/-- Equality of two data of type T (a map's keys). -/
def eqD (P : Program) (T : TypeId) (x y : D) : Option Bool := eqT P 12 T (elCells P T x) (elCells P T y)
def findD (P : Program) (T : TypeId) (k : D) : List (D × D) → Option (Option D)
  | [] => some none
  | (k', v) :: r => match eqD P T k k' with
    | some e => (match findD P T k r with | some o => some (bif e then some v else o) | none => none)
    | none => none
def eqB (P : Program) (T : TypeId) (x y : D) : Bool := (eqD P T x y).getD false
/-- The same where every two keys can be held against each other. -/
def findB (P : Program) (T : TypeId) (k : D) : List (D × D) → Option D
  | [] => none
  | (k', v) :: r => bif eqB P T k k' then some v else findB P T k r
def valueD (P : Program) (T : TypeId) (d : D) : V := bif isAggB P T then .g (elCells P T d) else match elCells P T d with | [c] => .c c | _ => .c .u
def lookupV (P : Program) (mem : AL Obj) (T : TypeId) (x k : V) (commaOk : Bool) : Option V :=
  match x, P.underlying T with
  | .c (.m key), some (.map kt' vt') => (match get mem key with
    | some (.map kt vt es) => bif Nat.beq kt kt' && Nat.beq vt vt' then (match asD P mem kt k, zeroVal P vt with
      | some kd, some z => (match eqD P kt kd kd, asD P mem vt z with
        | some _, some zd =>
          let v := valueD P vt ((findB P kt kd es).getD zd)
          some (bif commaOk then .t [v, .c (.b (findB P kt kd es).isSome)] else v)
        | _, _ => none)
      | _, _ => none) else none
    | _ => none)
  | _, _ => none
def lenV (P : Program) (mem : AL Obj) (T : TypeId) (x : V) : Option Int :=
  match P.underlying T, x with
  | some .string, .c (.s l) => some l.length
  | some (.slice _), .c (.sl _ _ xs) => some xs.length
  | some (.slice _), .c (.v (.slice none 0 0)) => some 0
  | some (.slice _), .c (.o key) => (match get mem key with | some (.row _ _ _ xs) => some xs.length | _ => none)
  | some (.map _ _), .c (.m key) => (match get mem key with | some (.map _ _ es) => some es.length | _ => none)
  | some (.array n _), _ => some n
  | _, _ => none
def foldI (op : Int → Int → Int) (k : IntKind) : Int → List V → Option V
  | a, [] => some (.c (.i k a))
  | a, .c (.i k' b) :: r => bif k == k' then foldI op k (op a b) r else none
  | _, _ => none
def max2 (x y : Int) : Int := if y > x then y else x
def min2 (x y : Int) : Int := if y < x then y else x

/-- An operation that leaves the memory alone: its side condition and its value. 'e': how operands are read; 'c': the slot of a 'pick''s condition with its reading. -/
def valOp (P : Program) (mem : AL Obj) (e : Operand → V) (ew : Nat → Bool → Operand → V) (o : Oper) : Option (Bool × V) :=
  let okc (x : Option (Bool × C)) : Option (Bool × V) := match x with | some (b, c) => some (b, .c c) | none => none
  match o.op with
  | .move x | .assign x => some (true, coe P o.type (e x))
  | .pick c a b => (match e c with
    | .c (.k x) => some (true, bif x then e a else e b)
    | .c (.b x) => (match c with
      | .tmp t => (match toB (ew t true a), toB (ew t false b) with
        | some y, some z => some (true, .c (.b (bif x then y else z)))
        | _, _ => none)
      | _ => none)
    | _ => none)
  | .build t parts => sure (buildV P t (parts.toList.map fun (i, x) => (i, e x)))
  | .load t a => loadV P mem t (e a)
  | .nilCheck x => (match e x with | .c (.p k n) => some (true, .c (.p k n)) | .c (.el t d n) => some (true, .c (.el t d n)) | .c (.re k t a b) => some (true, .c (.re k t a b)) | .c (.pi a b c d x y) => some (true, .c (.pi a b c d x y)) | .c (.f fn cs) => some (true, .c (.f fn cs)) | _ => none)
  | .binOp op t x y _ => okc (binV P op t (e x) (e y))
  | .unOp op _ x => (match unV op (e x) with | some c => some (true, .c c) | none => none)
  | .convert s d x => (match P.underlying s, P.underlying d, e x with
    | some (.int _), some (.int k), .c (.i _ n) => some (true, .c (.i k (k.wrap n)))
    | some .string, some .string, .c (.s l) => some (true, .c (.s l))
    | _, _, _ => none)
  | .makeFunc fn first caps => (match fn, first.toList with
    | .func f, [] => (match caps.toList.mapM (fun x => match e x with | .c (.p k n) => some (k, n) | _ => none) with | some cs => some (true, .c (.f f cs)) | none => none)
    | _, _ => none)
  | .slice t x lo hi none => sliceV P t (e x) (lo.map e) (hi.map e)
  | .fieldAddr s x f => (match fieldOff P s f with | some n => sure (addOff (e x) n) | none => none)
  | .field t x f => sure (fieldV P t (e x) f)
  | .indexAddr t x i => indexAddrV P mem t (e x) (e i)
  | .index t x i => indexV P t (e x) (e i)
  | .extract x i => (match e x with | .t vs => (match vs[i]? with | some v => some (true, v) | none => none) | _ => none)
  | .lookup t x k commaOk => sure (lookupV P mem t (e x) (e k) commaOk)
  | .call c => (match c.callee with
    | .builtin .len => (match c.args.toList, c.argTypes.toList with
      | [x], [T] => (match lenV P mem T (e x) with | some n => some (true, .c (.i .i64 n)) | none => none)
      | _, _ => none)
    | .builtin .max => (match c.args.toList.map e with
      | .c (.i k a) :: r => sure (foldI max2 k a r)
      | _ => none)
    | .builtin .min => (match c.args.toList.map e with
      | .c (.i k a) :: r => sure (foldI min2 k a r)
      | _ => none)
    | _ => none)
  | _ => none
/-- Is it one of those? -/
def isVal (o : Oper) : Bool :=
  match o.op with
  | .move _ | .assign _ | .pick .. | .build .. | .load .. | .nilCheck _ | .binOp .. | .unOp .. | .convert .. | .makeFunc .. | .slice .. | .fieldAddr .. | .field .. | .indexAddr .. | .index .. | .extract .. | .lookup .. => true
  | .call c => (match c.callee with | .builtin .len | .builtin .max | .builtin .min => true | _ => false)
  | _ => false
end Go.AM
