/- The abstract machine: operations that change the memory, calls, code. Nothing is proved here. -/
import Derived.Test.YtefmjfcdgadggaaAm1
set_option linter.all false
namespace Go.AM
open Go

/-! ### Rows read as data -/
def shareO : Obj → Obj
  | .row e _ n xs => .row e false n xs
  | x => x
def rowsC : C → List Nat
  | .o key => [key]
  | _ => []
def rowsV : V → List Nat
  | .c x => rowsC x
  | .g xs => xs.flatMap rowsC
  | _ => []
def shareKeys (mem : AL Obj) : List Nat → AL Obj
  | [] => mem
  | k :: r => shareKeys (match get mem k with | some o => set mem k (shareO o) | none => mem) r
def dataC (mem : AL Obj) : C → C
  | .o key => (match get mem key with | some (.row e false n xs) => .sl e n xs | _ => .o key)
  | .k x => .b x
  | x => x
def dataV (mem : AL Obj) : V → V
  | .c x => .c (dataC mem x)
  | .g xs => .g (xs.map (dataC mem))
  | x => x

/-! ### What a call hands over -/
structure Ref where
  key : Nat
  off : Nat
  size : Option Nat
def refsC : C → List Ref
  | .p k _ => [⟨k, 0, none⟩]
  | .o k => [⟨k, 0, none⟩]
  | .m k => [⟨k, 0, none⟩]
  | .f _ caps => caps.map fun x => ⟨x.1, 0, none⟩
  | _ => []
def refsV (P : Program) (T : Option TypeId) : V → List Ref
  | .c (.p k o) => (match T.bind P.underlying with
    | some (.pointer e) => [⟨k, o, some (sizeB P e)⟩]
    | _ => [⟨k, 0, none⟩])
  | .c x => refsC x
  | .g xs => xs.flatMap refsC
  | _ => []
def argRefs (P : Program) : List TypeId → List V → List Ref
  | T :: ts, x :: xs => refsV P (some T) x ++ argRefs P ts xs
  | [], x :: xs => refsV P none x ++ argRefs P [] xs
  | _, [] => []
def sameSize : Option Nat → Option Nat → Bool
  | none, none => true
  | some a, some b => Nat.beq a b
  | _, _ => false
def subBox (cs : List C) (r : Ref) : Option (List C) :=
  match r.size with
  | none => bif Nat.beq r.off 0 then some cs else none
  | some n => bif Nat.ble (r.off + n) cs.length then some ((cs.drop r.off).take n) else none
def findRef (k : Nat) : List Ref → Nat → Option (Nat × Ref)
  | [], _ => none
  | r :: rs, i => bif Nat.beq r.key k then some (i, r) else findRef k rs (i + 1)
def collect (mem : AL Obj) : Nat → List Ref → List Ref → Option (List Ref)
  | 0, _, _ => none
  | _ + 1, [], acc => some acc
  | n + 1, r :: rest, acc => match findRef r.key acc 0 with
    | some (_, r') => bif Nat.beq r.off r'.off && sameSize r.size r'.size then collect mem n rest acc else none
    | none => match get mem r.key with
      | none => none
      | some (.box cs) => (match subBox cs r with
        | some sub => collect mem n (rest ++ sub.flatMap refsC) (acc ++ [r])
        | none => none)
      | some _ => collect mem n rest (acc ++ [r])
def renCap (acc : List Ref) (x : Nat × Nat) : Option (Nat × Nat) :=
  match findRef x.1 acc 0 with
  | some (i, r) => bif Nat.ble r.off x.2 then some (i, x.2 - r.off) else none
  | none => none
def renCaps (acc : List Ref) : List (Nat × Nat) → Option (List (Nat × Nat))
  | [] => some []
  | x :: xs => match renCap acc x, renCaps acc xs with
    | some y, some ys => some (y :: ys)
    | _, _ => none
def renC (acc : List Ref) : C → Option C
  | .p k o => (match findRef k acc 0 with | some (i, r) => bif Nat.ble r.off o then some (.p i (o - r.off)) else none | none => none)
  | .o k => (match findRef k acc 0 with | some (i, _) => some (.o i) | none => none)
  | .m k => (match findRef k acc 0 with | some (i, _) => some (.m i) | none => none)
  | .f fn caps => (match renCaps acc caps with
    | some cs => some (.f fn cs)
    | none => none)
  | .re .. => none
  | .pi .. => none
  | .el .. => none
  | x => some x
def renCs (acc : List Ref) : List C → Option (List C)
  | [] => some []
  | c :: cs => match renC acc c, renCs acc cs with
    | some x, some xs => some (x :: xs)
    | _, _ => none
def renV (acc : List Ref) : V → Option V
  | .c x => (match renC acc x with | some y => some (.c y) | none => none)
  | .g xs => (match renCs acc xs with | some ys => some (.g ys) | none => none)
  | _ => none
def renVs (acc : List Ref) : List V → Option (List V)
  | [] => some []
  | c :: cs => match renV acc c, renVs acc cs with
    | some x, some xs => some (x :: xs)
    | _, _ => none
/-- The objects that go along, by their places. -/
def handed (mem : AL Obj) (acc : List Ref) : List Ref → Nat → Option (AL Obj)
  | [], _ => some []
  | r :: rs, i => match get mem r.key, handed mem acc rs (i + 1) with
    | some (.box cs), some rest => (match subBox cs r with
      | some sub => (match renCs acc sub with | some sub' => some ((i, .box sub') :: rest) | none => none)
      | none => none)
    | some (.row e ex nl xs), some rest => bif Nat.beq r.off 0 then some ((i, .row e ex nl xs) :: rest) else none
    | some (.map kt vt es), some rest => bif Nat.beq r.off 0 then some ((i, .map kt vt es) :: rest) else none
    | _, _ => none
/-- Back: a place's key, or a new one. -/
def backKey (acc : List Ref) (base k : Nat) : Nat × Nat :=
  match acc[k]? with
  | some r => (r.key, r.off)
  | none => (base + k, 0)
def backC (acc : List Ref) (base : Nat) : C → C
  | .p k o => let x := backKey acc base k; .p x.1 (x.2 + o)
  | .o k => .o (backKey acc base k).1
  | .m k => .m (backKey acc base k).1
  | .f fn caps => .f fn (caps.map fun x => let y := backKey acc base x.1; (y.1, y.2 + x.2))
  | .re k e a b => .re (backKey acc base k).1 e a b
  | .pi k a b c d e => let x := backKey acc base k; .pi x.1 (x.2 + a) b c d e
  | x => x
def backV (acc : List Ref) (base : Nat) : V → V
  | .c x => .c (backC acc base x)
  | .g xs => .g (xs.map (backC acc base))
  | x => x
def backO (acc : List Ref) (base : Nat) : Obj → Obj
  | .box cs => .box (cs.map (backC acc base))
  | x => x
/-- The objects that came back take their places. -/
def backMem (acc : List Ref) (base : Nat) (memR : AL Obj) : List Ref → Nat → AL Obj → Option (AL Obj)
  | [], _, mem => some mem
  | r :: rs, i, mem => match get memR i with
    | none => backMem acc base memR rs (i + 1) (del mem r.key)
    | some o => match r.size with
      | none => backMem acc base memR rs (i + 1) (set mem r.key (backO acc base o))
      | some n => match o, get mem r.key with
        | .box sub, some (.box cs) => bif Nat.beq sub.length n then backMem acc base memR rs (i + 1) (set mem r.key (.box (splice cs r.off (sub.map (backC acc base))))) else none
        | _, _ => none
/-- The keys that come to stand for new objects. -/
def newKeys (n base : Nat) : AL Obj → List Nat
  | [] => []
  | (k, _) :: r => bif Nat.ble n k then (base + k) :: newKeys n base r else newKeys n base r
def invalAll : List Nat → St → St
  | [], st => st
  | key :: r, st => invalAll r { tmps := mapV (invalV key) st.tmps, mem := del (mapV (invalO key) st.mem) key }
def setNew (acc : List Ref) (base : Nat) : AL Obj → AL Obj → AL Obj
  | [], mem => mem
  | (k, o) :: r, mem => bif Nat.ble acc.length k then set (setNew acc base r mem) (base + k) (backO acc base o) else setNew acc base r mem
def keysOf : C → List Nat
  | .p k _ => [k]
  | .re k _ _ _ => [k]
  | .pi k _ _ _ _ _ => [k]
  | .o k => [k]
  | .m k => [k]
  | .f _ caps => caps.map (·.1)
  | _ => []
def keysOfV : V → List Nat
  | .c x => keysOf x
  | .g xs => xs.flatMap keysOf
  | _ => []
def keysOfO : Obj → List Nat
  | .box cs => cs.flatMap keysOf
  | _ => []
/-- No result names an object that is not there; a new object takes no other's place. -/
def hereAll (mem : AL Obj) : List Nat → Bool
  | [] => true
  | k :: r => (get mem k).isSome && hereAll mem r
def fullO : Obj → Bool
  | .box [] => false
  | _ => true
def closedMem (mem : AL Obj) : AL Obj → Bool
  | [] => true
  | (_, o) :: r => hereAll mem (keysOfO o) && fullO o && closedMem mem r
def plainV : V → Bool
  | .c _ => true
  | .g _ => true
  | _ => false
def closedRes (r : Res) : Bool := hereAll r.2 (r.1.flatMap keysOfV) && closedMem r.2 r.2 && r.1.all plainV
def noClash (memR : AL Obj) (news : List Nat) : List Ref → Nat → Bool
  | [], _ => true
  | r :: rs, i => (bif memB r.key news then (get memR i).isNone else true) && noClash memR news rs (i + 1)
def resultOf : List V → V
  | [x] => x
  | xs => .t xs
/-- The keys of the objects that a call makes and hands back, in the slots' own space. -/
def newBase (kb : Nat) (dst : Option Nat) : Nat := kb + 10000 * ((match dst with | some d => d | none => 0) + 1)
/-- All of them lie in the slot's own space. -/
def inRange (base : Nat) : List Nat → Bool
  | [] => true
  | k :: r => Nat.blt k (base + 10000) && inRange base r
/-- Does the operation enter a function? -/
def isEnter (o : Oper) : Bool :=
  match o.op with
  | .call c => (match c.callee with | .value _ => true | _ => false)
  | _ => false
/-- The keys that an operation may bring in. -/
def freshB (kb : Nat) (o : Oper) (k : Nat) : Bool :=
  bif isVal o then false else bif isEnter o then Nat.ble (newBase kb o.dst) k && Nat.blt k (newBase kb o.dst + 10000) else match o.dst with | some d => Nat.beq k (kb + d) | none => false
/-- The first alternative whose condition holds. -/
def altK {α R : Type} : List (Bool × α) → (α → Option R) → Option R
  | [], _ => none
  | (c, x) :: r, k => bif c then k x else altK r k
def callOp {R : Type} (P : Program) (cl : Oracle) (kb : Nat) (f : FuncId) (args : List V) (o : Oper) (st : St) (k : St → Option R) : Option R :=
  match P.funcs[f]? with
  | none => none
  | some fn =>
    let mem := shareKeys st.mem (args.flatMap rowsV)
    let args := args.map (dataV mem)
    match collect mem 60 (argRefs P fn.params.toList args) [] with
    | none => none
    | some acc => match renVs acc args, handed mem acc acc 0 with
      | some args', some mem' => match cl f args' mem' with
       | none => none
       | some alts => altK alts fun r =>
        let base := newBase kb o.dst
        let news := newKeys acc.length base r.2
        let st1 := invalAll news { st with mem }
        bif closedRes r && noClash r.2 news acc 0 && inRange base news then match backMem acc base r.2 acc 0 st1.mem with
        | none => none
        | some mem2 => k (St.put { st1 with mem := setNew acc base r.2 mem2 } o.dst (resultOf (r.1.map (backV acc base)))) else none
      | _, _ => none

/-! ### The other operations -/
def srcD (mem : AL Obj) (e : TypeId) (x : V) : Option (List D) :=
  match x with
  | .c (.o key) => (match get mem key with | some (.row e' _ _ xs) => bif Nat.beq e e' then some xs else none | _ => none)
  | .c (.sl e' _ xs) => bif Nat.beq e e' then some xs else none
  | .c (.v (.slice none 0 0)) => some []
  | _ => none
def room : Nat := 140737488355328
def elemOfSlice (P : Program) (T : TypeId) : Option TypeId :=
  match P.underlying T with
  | some (.slice e) => bif Nat.beq (sizeB P e) (kinds P e).length && tyB P e && !Nat.beq (sizeB P e) 0 then some e else none
  | _ => none
def bytesB (P : Program) (T : TypeId) : Nat := ((P.info? T).map (·.bytes)).getD 0
def roomB (P : Program) (e n : Nat) : Bool := decide (n * bytesB P e ≤ room) && decide (n ≤ strMax)
def putD (P : Program) (T : TypeId) (k v : D) : List (D × D) → Option (List (D × D))
  | [] => some [(k, v)]
  | (k', v') :: r => match eqD P T k k', putD P T k v r with
    | some e, some r' => some (bif e then (k, v) :: r else (k', v') :: r')
    | _, _ => none
def putB (P : Program) (T : TypeId) (k v : D) : List (D × D) → List (D × D)
  | [] => [(k, v)]
  | (k', v') :: r => bif eqB P T k k' then (k, v) :: r else (k', v') :: putB P T k v r
def coeV (P : Program) (e : TypeId) : V → V
  | .c c => .c (match kinds P e with | [k] => coeC k c | _ => c)
  | .g cs => .g (coeCs (kinds P e) cs)
  | y => y
def partsD (P : Program) (mem : AL Obj) (e : TypeId) : List D → List (Nat × V) → Option (List D)
  | ds, [] => some ds
  | ds, (i, x) :: r => match asD P mem e (coeV P e x) with
    | some d => bif Nat.blt i ds.length then partsD P mem e (ds.set i d) r else none
    | none => none
def zeroD (P : Program) (e : TypeId) : Option D :=
  match zeroVal P e with
  | some z => asD P [] e z
  | none => none

def stOp {R : Type} (P : Program) (cl : Oracle) (kb : Nat) (o : Oper) (st : St) (k : St → Option R) : Option R :=
  let e := evu st
  match o.op, o.dst with
  | .alloc T, some d => (match zeroV P T with
    | some z => k ((fresh (kb + d) (.box z) st).put (some d) (.c (.p (kb + d) 0)))
    | none => none)
  | .box T x, some d => (match storeCellsV P T (e x) with
    | some cs => k ((fresh (kb + d) (.box (cs.map (inval (kb + d)))) st).put (some d) (.c (.p (kb + d) 0)))
    | none => none)
  | .store T a x, dst => (match storeM P (shareKeys st.mem (match e a with | .c (.re ..) => rowsV (e x) | _ => [])) T (e a) (e x) with
    | some (c, mem) => bif c then k (St.put { st with mem } dst (.c .u)) else none
    | none => none)
  | .buildSlice T n parts, some d => (match elemOfSlice P T with
    | some el =>
      let ps := parts.toList.map fun (i, x) => (i, e x)
      let mem := shareKeys st.mem (ps.flatMap fun p => rowsV p.2)
      (match zeroD P el with
      | some z => (match partsD P mem el (List.replicate n z) ps with
        | some ds => bif decide (n * sizeB P el ≤ 16777216) then k ((fresh (kb + d) (.row el true false ds) { st with mem }).put (some d) (.c (.o (kb + d)))) else none
        | none => none)
      | none => none)
    | none => none)
  | .makeSlice T l c, some d => (match elemOfSlice P T, e l, e c with
    | some el, .c (.i .i64 n), .c (.i .i64 m) => (match zeroD P el with
      | some z => bif decide (0 ≤ n) && decide (n ≤ m) && roomB P el m.toNat then
          k ((fresh (kb + d) (.row el true false (List.replicate n.toNat z)) st).put (some d) (.c (.o (kb + d)))) else none
      | none => none)
    | _, _, _ => none)
  | .makeMap T none, some d => (match P.underlying T with
    | some (.map kt vt) => k ((fresh (kb + d) (.map kt vt []) st).put (some d) (.c (.m (kb + d))))
    | _ => none)
  | .mapUpdate T m key x, dst => (match e m, P.underlying T with
    | .c (.m mk), some (.map kt' _) => (match get st.mem mk with
      | some (.map kt vt es) => bif Nat.beq kt kt' then (match asD P st.mem kt (e key), asD P st.mem vt (e x) with
        | some kd, some vd => (match eqD P kt kd kd with
          | some _ => k (St.put { st with mem := set st.mem mk (.map kt vt (putB P kt kd vd es)) } dst (.c .u))
          | none => none)
        | _, _ => none) else none
      | _ => none)
    | _, _ => none)
  | .call c, dst => (match c.callee with
    | .builtin .append => (match dst, c.args.toList, c.argTypes.toList with
      | some d, [s, x], [T, T'] => bif !Nat.beq T T' then none else (match elemOfSlice P T with
        | some el => bif (zeroD P el).isNone then none else (match srcD st.mem el (e x) with
          | some ys => (match e s with
            | .c (.o key) => (match get st.mem key with
              | some (.row el' ex nl xs) => bif Nat.beq el el' && roomB P el (xs.length + ys.length) then
                  k ((fresh (kb + d) (.row el ex (ys.isEmpty && nl) (xs ++ ys)) { st with mem := del st.mem key }).put (some d) (.c (.o (kb + d)))) else none
              | _ => none)
            | .c (.sl _ true []) | .c (.v (.slice none 0 0)) => bif roomB P el ys.length then
                k ((fresh (kb + d) (.row el true ys.isEmpty ys) st).put (some d) (.c (.o (kb + d)))) else none
            | _ => none)
          | none => none)
        | none => none)
      | _, _, _ => none)
    | .value f => (match e f with
      | .c (.f fn caps) => callOp P cl kb fn (c.args.toList.zipIdx.map (fun (x, i) => match c.argTypes[i]? with | some T => coe P T (e x) | none => e x) ++ caps.map fun x => .c (.p x.1 x.2)) o st k
      | _ => none)
    | _ => none)
  | _, _ => none

/-! ### Regions -/
def guardSlot (ops : List Oper) (j : Nat) : Option Nat := (ops[j]?).bind (·.dst)
def isNo : Value → Bool
  | .tuple vs => Nat.beq vs.size 0
  | _ => false
/-- The bool that says whether slot t yields what is wanted, from what is known. -/
def yields (st : St) : Nat → Nat → Bool → Option Bool
  | 0, _, _ => none
  | n + 1, t, want => match get st.tmps t with
    | some (.c (.k x)) => some (x == want)
    | some (.c (.b x)) => some (x == want)
    | some (.w s b y) => (match toB y, yields st n s b with
      | some z, some c => some (c && (z == want))
      | _, _ => none)
    | some (.c (.v v)) => bif isNo v then some false else none
    | _ => none
def known (st : St) (t : Nat) (want : Bool) : Option Bool :=
  match get st.tmps t with
  | some (.c (.k x)) => some (x == want)
  | some (.c (.v v)) => bif isNo v then some false else none
  | _ => none
def opC {R : Type} (P : Program) (cl : Oracle) (kb : Nat) (o : Oper) (st : St) (k : St → Option R) : Option R :=
  bif isVal o then match valOp P st.mem (evu st) (evw st) o with
    | some (c, x) => bif c then k (st.put o.dst x) else none
    | none => none
  else stOp P cl kb o st k
def noVal : V := .c (.v (.tuple #[]))
def settle1 (t : Nat) (x : Bool) : V → V
  | .w s b y => bif Nat.beq s t then (bif b == x then y else noVal) else .w s b y
  | y => y
/-- Slot t holds the bool x: what hangs on it is settled. -/
def settle (t : Nat) (x : Bool) (st : St) : St := { st with tmps := set (mapV (settle1 t x) st.tmps) t (.c (.k x)) }
def guardBr {R : Type} : Nat → Nat → Bool → St → (St → Option R) → (St → Option R) → Option R
  | 0, _, _, _, _, _ => none
  | n + 1, t, want, st, yes, no => match get st.tmps t with
    | some (.c (.k x)) => bif x == want then yes st else no st
    | some (.c (.v v)) => bif isNo v then no st else none
    | some (.c (.b x)) => bif x then (bif want then yes (settle t true st) else no (settle t true st)) else (bif want then no (settle t false st) else yes (settle t false st))
    | some (.w s b _) => guardBr n s b st (fun st => guardBr n t want st yes no) no
    | _ => none
/-- Reading under a guard. -/
def evg (st : St) (t : Nat) (want : Bool) (x : Operand) : V :=
  match ev st x with
  | .w s b y => unwrap t want (.w s b y)
  | y => y
def evgw (st : St) (t : Nat) (want : Bool) (t' : Nat) (w' : Bool) (x : Operand) : V :=
  match ev st x with
  | .w s b y => bif Nat.beq s t' && (b == w') then y else unwrap t want (.w s b y)
  | y => y
/-- One operation of a region, its guard looked at. -/
def guarded {R : Type} (P : Program) (cl : Oracle) (kb : Nat) (ops : List Oper) (o : Oper) (st : St) (k : St → Option R) : Option R :=
  match o.guard with
  | none => opC P cl kb o st k
  | some (j, want) => match guardSlot ops j with
    | none => none
    | some t => match known st t want with
      | some x => bif x then opC P cl kb o st k else k (st.put o.dst noVal)
      | none => bif isVal o then
          (match yields st 8 t want, valOp P st.mem (evg st t want) (evgw st t want) o with
          | some c, some (cond, x) => bif (bif cond then true else !c) then k (st.put o.dst (.w t want x)) else none
          | _, _ => none)
        else guardBr 8 t want st (fun st => opC P cl kb o st k) (fun st => k (st.put o.dst noVal))
def regOps {R : Type} (P : Program) (cl : Oracle) (kb : Nat) (ops : List Oper) : List Oper → St → (St → Option R) → Option R
  | [], st, k => k { st with tmps := mapV untag st.tmps }
  | o :: rest, st, k => guarded P cl kb ops o st fun st' => regOps P cl kb ops rest st' k

/-! ### A region whose order is drawn -/
def tmpsOf : List Operand → List Nat
  | [] => []
  | .tmp t :: r => t :: tmpsOf r
  | _ :: r => tmpsOf r
/-- The slots that an operation looks at. -/
def looks (ops : List Oper) (o : Oper) : List Nat :=
  (match o.guard with | some (j, _) => (match guardSlot ops j with | some t => [t] | none => []) | none => []) ++ tmpsOf o.op.operands.toList
def pickAL {α : Type} (l : AL α) : List Nat → AL α
  | [] => []
  | k :: r => match get l k with | some x => (k, x) :: pickAL l r | none => pickAL l r
def keysAt (mem : AL Obj) (k : Nat) : List Nat :=
  match get mem k with | some o => keysOfO o | none => []
/-- The keys that are reached. 'deep': through what lies there. -/
def reach (mem : AL Obj) (deep : Bool) : Nat → List Nat → List Nat → Option (List Nat)
  | 0, _, _ => none
  | _ + 1, [], acc => some acc
  | n + 1, k :: r, acc => bif memB k acc then reach mem deep n r acc else reach mem deep n (bif deep then keysAt mem k ++ r else r) (k :: acc)
def slotKeys (tmps : AL V) : List Nat → List Nat
  | [] => []
  | t :: r => (match get tmps t with | some x => keysOfV x | none => []) ++ slotKeys tmps r
/-- What an operation may lean on. -/
def mini (ops : List Oper) (o : Oper) (st : St) (ks : List Nat) : St := ⟨pickAL st.tmps (looks ops o), pickAL st.mem ks⟩
def putOpt (l : AL V) (d : Nat) : Option V → AL V
  | some x => set l d (untag x)
  | none => del l d
def putSel (sel : Nat → Bool) : AL Obj → AL Obj → AL Obj
  | [], mem => mem
  | (k, o) :: r, mem => bif sel k then set (putSel sel r mem) k o else putSel sel r mem
def selB (kb : Nat) (o : Oper) (ks : List Nat) (k : Nat) : Bool := memB k ks || freshB kb o k
/-- What it leaves is laid over what was there. -/
def merge (kb : Nat) (o : Oper) (ks : List Nat) (st out : St) : St :=
  { tmps := match o.dst with | some d => putOpt st.tmps d (get out.tmps d) | none => st.tmps
    mem := bif isVal o then st.mem else putSel (selB kb o ks) out.mem (keep (fun k => !selB kb o ks k) st.mem) }
structure Rec where
  o : Oper
  ks : List Nat
  out : St
def guardedD {R : Type} (P : Program) (cl : Oracle) (kb : Nat) (ops : List Oper) (o : Oper) (st : St) (k : St → Option R) : Option R :=
  match o.guard with
  | none => opC P cl kb o st k
  | some (j, want) => match guardSlot ops j with
    | none => none
    | some t => match known st t want with
      | some x => bif x then opC P cl kb o st k else k (st.put o.dst noVal)
      | none => none
/-- A bool that others hang on is settled at once. -/
def settleK {R : Type} (gs : List Nat) (o : Oper) (out : St) (k : St → Option R) : Option R :=
  match o.dst with
  | some d => bif memB d gs then (match get out.tmps d with
    | some (.c (.b x)) => bif x then k { out with tmps := set out.tmps d (.c (.k true)) } else k { out with tmps := set out.tmps d (.c (.k false)) }
    | _ => k out) else k out
  | none => k out
def stepC {R : Type} (P : Program) (cl : Oracle) (kb : Nat) (ops : List Oper) (gs : List Nat) (o : Oper) (st : St) (k : St → Rec → Option R) : Option R :=
  match reach st.mem (isEnter o) 1000 (slotKeys st.tmps (looks ops o)) [] with
  | none => none
  | some ks => guardedD P cl kb ops o (mini ops o st ks) fun out => settleK gs o out fun out => k (merge kb o ks st out) ⟨o, ks, out⟩
def drawRun {R : Type} (P : Program) (cl : Oracle) (kb : Nat) (ops : List Oper) (gs : List Nat) : List Oper → St → List Rec → (St → List Rec → Option R) → Option R
  | [], st, recs, k => k st recs
  | o :: r, st, recs, k => stepC P cl kb ops gs o st fun st' rec => drawRun P cl kb ops gs r st' (recs ++ [rec]) k
def bindsOn : List Edge → List Nat
  | [] => []
  | e :: r => bif Region.binds .any e then e.on :: bindsOn r else bindsOn r
def directs (o : Oper) : List Nat := bindsOn o.after.toList
def union (xs : List Nat) : List Nat → List Nat
  | [] => xs
  | y :: r => bif memB y xs then union xs r else union (y :: xs) r
def unions (tab : List (List Nat)) : List Nat → List Nat → List Nat
  | [], acc => acc
  | d :: r, acc => unions tab r (union (union acc [d]) (tab.getD d []))
/-- Which operations must come ahead of each. -/
def ancTab : List Oper → List (List Nat) → List (List Nat)
  | [], tab => tab
  | o :: r, tab => ancTab r (tab ++ [unions tab (directs o) []])
def topoB : Nat → List Oper → Bool
  | _, [] => true
  | i, o :: r => (directs o).all (fun d => Nat.blt d i) && topoB (i + 1) r
def allAfter {α : Type} (f : Nat → α → Bool) : Nat → List α → Bool
  | _, [] => true
  | j, q :: r => f j q && allAfter f (j + 1) r
def allPairs {α : Type} (f : Nat → α → Nat → α → Bool) : Nat → List α → Bool
  | _, [] => true
  | i, p :: r => allAfter (f i p) (i + 1) r && allPairs f (i + 1) r
def freshLo (kb : Nat) (o : Oper) : Nat := bif isEnter o then newBase kb o.dst else match o.dst with | some d => kb + d | none => 0
def freshHi (kb : Nat) (o : Oper) : Nat := bif isEnter o then newBase kb o.dst + 10000 else match o.dst with | some d => kb + d + 1 | none => 0
def freshApart (kb : Nat) (p q : Oper) : Bool := isVal p || isVal q || Nat.ble (freshHi kb p) (freshLo kb q) || Nat.ble (freshHi kb q) (freshLo kb p)
def dstOff (d : Option Nat) (ts : List Nat) : Bool :=
  match d with | some d => !memB d ts | none => true
def apartS (ops : List Oper) (p q : Oper) : Bool :=
  dstOff p.dst (looks ops q) && dstOff q.dst (looks ops p) && dstOff p.dst q.dst.toList
def disjB : List Nat → List Nat → Bool
  | [], _ => true
  | k :: r, l => !memB k l && disjB r l
def noneFresh (kb : Nat) (o : Oper) : List Nat → Bool
  | [] => true
  | k :: r => !freshB kb o k && noneFresh kb o r
def keysAll1 : V → List Nat
  | .c x => keysOf x
  | .g xs => xs.flatMap keysOf
  | _ => []
def keysAll : V → List Nat
  | .c x => keysOf x
  | .g xs => xs.flatMap keysOf
  | .t xs => xs.flatMap keysAll1
  | .w _ _ x => keysAll1 x
def memNames (kb : Nat) (o : Oper) : AL Obj → Bool
  | [] => true
  | (_, ob) :: r => noneFresh kb o (keysOfO ob) && memNames kb o r
/-- What p leaves names no key that q may bring in. -/
def namesNot (kb : Nat) (p : Rec) (q : Oper) : Bool :=
  bif isVal q then true else noneFresh kb q p.ks &&
  (match p.o.dst with | some d => (match get p.out.tmps d with | some x => noneFresh kb q (keysAll (untag x)) | none => true) | none => true) && (bif isVal p.o then true else memNames kb q p.out.mem)
def apartK (kb : Nat) (p q : Rec) : Bool :=
  bif isVal p.o && isVal q.o then true else disjB p.ks q.ks && noneFresh kb p.o q.ks && namesNot kb q p.o
def staticOk (kb : Nat) (ops : List Oper) : Bool :=
  topoB 0 ops && allPairs (fun i p j q => freshApart kb p q && (memB i ((ancTab ops []).getD j []) || apartS ops p q)) 0 ops
def fullMem : AL Obj → Bool
  | [] => true
  | (_, o) :: r => fullO o && fullMem r
def fullRecs : List Rec → Bool
  | [] => true
  | p :: r => fullMem p.out.mem && fullRecs r
def dynOk (kb : Nat) (ops : List Oper) (recs : List Rec) : Bool :=
  allPairs (fun i p j q => namesNot kb p q.o && (memB i ((ancTab ops []).getD j []) || apartK kb p q)) 0 recs && fullRecs recs
def guardSlots (ops : List Oper) : List Oper → List Nat
  | [] => []
  | o :: r => (match o.guard with | some (j, _) => (match guardSlot ops j with | some t => [t] | none => []) | none => []) ++
      (match o.op with | .pick (.tmp t) _ _ => [t] | _ => []) ++ guardSlots ops r
def hitC (q : Nat → Bool) (c : C) : C := bif (keysOf c).any q then .u else c
def hit1 (q : Nat → Bool) : V → V
  | .c x => .c (hitC q x)
  | .g xs => .g (xs.map (hitC q))
  | _ => .c .u
def hitV (q : Nat → Bool) : V → V
  | .c x => .c (hitC q x)
  | .g xs => .g (xs.map (hitC q))
  | .t xs => .t (xs.map (hit1 q))
  | .w _ _ _ => .c .u
def hitO (q : Nat → Bool) : Obj → Obj
  | .box cs => .box (cs.map (hitC q))
  | x => x
def freshAny (kb : Nat) : List Oper → Nat → Bool
  | [], _ => false
  | o :: r, k => freshB kb o k || freshAny kb r k
def cleanD (q : Nat → Bool) (st : St) : St := ⟨mapV (hitV q) st.tmps, mapV (hitO q) (keep (fun k => !q k) st.mem)⟩
/-- The order is left open: the listed one is run, and checked to stand for all. -/
def drawOps {R : Type} (P : Program) (cl : Oracle) (kb : Nat) (ops : List Oper) (st : St) (k : St → Option R) : Option R :=
  bif staticOk kb ops then drawRun P cl kb ops (guardSlots ops ops) ops (cleanD (freshAny kb ops) st) [] fun st recs => bif dynOk kb ops recs then k st else none else none

/-! ### Code -/
/-- The number of a piece of code of which something can be known. -/
def firstId : Code → Nat
  | .region id _ _ => id
  | .seq a _ => firstId a
  | .cond _ a _ => firstId a
  | .block _ b => firstId b
  | .loop b => firstId b
  | _ => 0
def cutId : Code → Option Nat
  | .loop b => some (3 * firstId b)
  | .region id _ _ => some (3 * id + 1)
  | .cond _ a b => some (3 * (firstId a + 1000 * firstId b) + 2)
  | _ => none
/-- What is laid down of a function's code: the slots and keys that are kept at a loop's head, the slots that are kept at a region's start, what a loop is known to do. -/
structure Hint where
  loops : Hints := []
  regs : List (Nat × List Nat) := []
  los : AL (St → Option (List (Bool × (Ex × St)))) := []
instance : Inhabited Hint := ⟨{}⟩
def findReg : List (Nat × List Nat) → Nat → Option (List Nat)
  | [], _ => none
  | (i, h) :: r, n => bif Nat.beq i n then some h else findReg r n
def trim (hs : Hint) (id : Nat) (st : St) : St :=
  match findReg hs.regs id with
  | none => st
  | some ts => { st with tmps := keep (fun t => memB t ts) st.tmps }
def findHint : Hints → Nat → Option (List Nat × List Nat × List Nat)
  | [], _ => none
  | (i, h) :: r, n => bif Nat.beq i n then some h else findHint r n
def unkC : C → C
  | .k x => .b x
  | x => x
def unkV : V → V
  | .c x => .c (unkC x)
  | .g xs => .g (xs.map unkC)
  | x => x
def unkO : Obj → Obj
  | .box xs => .box (xs.map unkC)
  | x => x
def cutSt (ts ks : List Nat) (st : St) : St := { tmps := mapV unkV (keep (fun t => memB t ts) st.tmps), mem := mapV unkO (keep (fun t => memB t ks) st.mem) }
/-- The row in this slot takes the slot's own key; a nil slice becomes a row. -/
def ownSlot (P : Program) (kb t : Nat) (st : St) : St :=
  match get st.tmps t with
  | some (.c (.o key)) => (match get st.mem key with
    | some (.row e ex nl xs) => bif Nat.beq key (kb + t) then st else
      { tmps := set (fresh (kb + t) (.row e ex nl xs) { st with mem := del st.mem key }).tmps t (.c (.o (kb + t))), mem := (fresh (kb + t) (.row e ex nl xs) { st with mem := del st.mem key }).mem }
    | _ => st)
  | some (.c (.sl e true [])) => bif Nat.beq (sizeB P e) (kinds P e).length then
      { tmps := set (fresh (kb + t) (.row e true true []) st).tmps t (.c (.o (kb + t))), mem := (fresh (kb + t) (.row e true true []) st).mem } else st
  | _ => st
def ownSlots (P : Program) (kb : Nat) : List Nat → St → St
  | [], st => st
  | t :: r, st => ownSlots P kb r (ownSlot P kb t st)
def clearSt (P : Program) (kb : Nat) (hs : Hints) (id : Nat) (st : St) : St :=
  match findHint hs id with
  | none => st
  | some (ts, ks, own) => cutSt ts ks (ownSlots P kb own st)
def lawOf (hs : Hint) (c : Code) : Option (Nat × (St → Option (List (Bool × (Ex × St))))) :=
  match cutId c with
  | none => none
  | some id => match get hs.los id with
    | some f => some (id, f)
    | none => none
def exec {R : Type} (P : Program) (cl : Oracle) (hs : Hint) (kb : Nat) : Nat → Code → St → (Ex → St → Option R) → Option R
  | 0, _, _, _ => none
  | n + 1, c, st, k => match lawOf hs c with
   | some (id, f) => (match f (clearSt P kb hs.loops id st) with
      | some alts => altK alts fun x => k x.1 x.2
      | none => none)
   | none => match c with
    | .skip => k .normal st
    | .label _ => k .normal st
    | .seq a b => exec P cl hs kb n a st fun e st => match e with
      | .normal => exec P cl hs kb n b st k
      | e => k e st
    | .cond c a b => (match ev st c with
      | .c (.k x) => bif x then exec P cl hs kb n a st k else exec P cl hs kb n b st k
      | .c (.b x) => (match c with
        | .tmp t => bif x then exec P cl hs kb n a { st with tmps := set st.tmps t (.c (.k true)) } k else exec P cl hs kb n b { st with tmps := set st.tmps t (.c (.k false)) } k
        | _ => none)
      | _ => none)
    | .block id b => exec P cl hs kb n b st fun e st => match e with
      | .exit i => bif Nat.beq i id then k .normal st else k (.exit i) st
      | e => k e st
    | .loop b => exec P cl hs kb n b (clearSt P kb hs.loops (3 * firstId b) st) fun e st => match e with
        | .normal => exec P cl hs kb n (.loop b) (clearSt P kb hs.loops (3 * firstId b) st) k
        | e => k e st
    | .exit id => k (.exit id) st
    | .ret => k .ret st
    | .region id ops false => regOps P cl kb ops.toList ops.toList (trim hs id st) (k .normal)
    | .region id ops true => drawOps P cl kb ops.toList (trim hs id st) (k .normal)
    | _ => none

/-! ### Functions -/
def params : Nat → List V → AL V
  | _, [] => []
  | i, x :: xs => (i, x) :: params (i + 1) xs
def resultVars (P : Program) (st : St) : List ResultVar → Option (List V)
  | [] => some []
  | .tmp t :: r => (match resultVars P st r with | some xs => some (evu st (.tmp t) :: xs) | none => none)
  | .cell a T :: r => (match loadV P st.mem T (evu st (.tmp a)), resultVars P st r with | some (true, x), some xs => some (x :: xs) | _, _ => none)
def sharedRefs (mem : AL Obj) : Nat → Nat → List Ref
  | 0, _ => []
  | n + 1, i => (match get mem i with | some _ => [⟨i, 0, none⟩] | none => []) ++ sharedRefs mem n (i + 1)
/-- Each in the form of its type. -/
def coeRes (P : Program) : List TypeId → List V → List V
  | T :: ts, x :: xs => coe P T x :: coeRes P ts xs
  | _, xs => xs
def finish (P : Program) (fn : Func) (kb : Nat) (st : St) : Option Res :=
  match resultVars P st fn.results.toList with
  | none => none
  | some rs =>
    let mem := shareKeys st.mem (rs.flatMap rowsV)
    let rs := coeRes P fn.resultTypes.toList (rs.map (dataV mem))
    match collect mem 60 (sharedRefs mem kb 0 ++ rs.flatMap (refsV P none)) [] with
    | none => none
    | some acc => bif rs.all plainV then some (rs, keep (fun x => acc.any fun r => Nat.beq r.key x) mem) else none
def body (P : Program) (cl : Oracle) (hs : Hint) (n : Nat) (f : FuncId) (args : List V) (mem : AL Obj) : Option Res :=
  match P.funcs[f]? with
  | none => none
  | some fn => match fn.body with
    | none => none
    | some c => exec P cl hs mem.length n c { tmps := params 0 args, mem } fun e st => match e with
      | .exit _ => none
      | _ => finish P fn mem.length st
/-- The hints of all functions. -/
abbrev Book := FuncId → Hint
/-- A tower of bodies: for trying out. -/
def call (P : Program) (hb : Book) : Nat → Oracle
  | 0 => fun _ _ _ => none
  | n + 1 => fun f args mem => (body P (call P hb n) (hb f) n f args mem).map fun r => [(true, r)]
end Go.AM
