/- The abstract machine: how a state goes on standing for a state when memory changes. -/
import Derived.WalkKit
import Derived.Lib.Bytealg
import Derived.Laws.StructEq
import Derived.WalkLawsBesides
import Derived.Laws.IdiomStrings
set_option linter.all false
set_option maxRecDepth 100000
set_option maxHeartbeats 4000000
noncomputable section
namespace Go.AM
open Go
def e55.{u}:= @Option.some.injEq.{u}
def e56:= @Nat.eq_of_beq_eq_true
def e57:= @Bool.and_eq_true
def e58:= @Result.andThen_ok
def e59.{u}:= @_root_.cond_true.{u}
def e6a.{u}:= @_root_.cond_false.{u}
def e6b:= @Sem.run_bind
def e6c:= @Sem.run_pure
def e6d.{u}:= @List.getD_eq_getElem?_getD.{u}
def e6e.{u}:= @Option.isSome_some.{u}
def e6f.{u}:= @Array.getElem?_eq_some_iff.{u}
def e6g:= @Nat.le_of_ble_eq_true
def e6h.{u}:= @List.getElem?_eq_some_iff.{u}
def e6i.{u}:= @Array.getD_eq_getD_getElem?.{u}
def e6j.{u}:= @List.getElem?_eq_getElem.{u}
def e6k.{u}:= @List.mem_cons.{u}
def e6l.{u}:= @List.length_append.{u}
def e6m.{u}:= @List.length_cons.{u}
def e6n.{u}:= @List.append_assoc.{u}
def e6o.{u}:= @List.getElem?_append_right.{u}
def e6p.{u}:= @List.getElem?_append_left.{u}
def e6q.{u,v}:= @Prod.mk.injEq.{u,v}
def e6r.{u,v}:= @Option.map_some.{u,v}
inductive D where
 |i (n:Int)
 |b (x:Bool)
 |s (x:List UInt8)
 |l (isnil:Bool) (xs:List D)
 |a (cs:List D)
def D.toI:D→Int
 | .i n=>n
 |_=>0
def D.toB:D→Bool
 | .b x=>x
 |_=>false
def D.toS:D→List UInt8
 | .s x=>x
 |_=>[]
def D.isNil:D→Bool
 | .l n _=>n
 |_=>true
def D.items:D→List D
 | .l _ xs=>xs
 |_=>[]
def D.cell (d:D) (j:Nat):D:=
 match d with
 | .a cs=>cs.getD j (.i 0)
 |_=> .i 0
instance:Inhabited D:=⟨.i 0⟩
def c53:List D→Nat→D→List D
 | [],0,x=>[x]
 | [],j+1,x=> .i 0::c53 [] j x
 |_::r,0,x=>x::r
 |c::r,j+1,x=>c::c53 r j x
def D.put (d:D) (j:Nat) (x:D):D:=
 match d with
 | .a cs=> .a (c53 cs j x)
 |_=> .a (c53 [] j x)
def e0o (d:D) (c s:Nat):List D→D
 | []=>d
 |x::r=>e0o (d.put (c+s) x) (c+1) s r
inductive C where
 |u
 |i (k:IntKind) (n:Int)
 |b (x:Bool)
 |k (x:Bool)
 |s (x:List UInt8)
 |sl (e:TypeId) (isnil:Bool) (xs:List D)
 |v (x:Value)
 |p (key off:Nat)
 |el (e:TypeId) (d:D) (off:Nat)
 |re (key:Nat) (e:TypeId) (ix off:Nat)
 |pi (key base len esz ix off:Nat)
 |o (key:Nat)
 |m (key:Nat)
 |z (e:TypeId) (isnil:Bool)
 |bs (key n:Nat)
 |bx (key n:Nat)
 |kp (key:Nat)
 |y (key:Nat)
 |ifc (isnil:Bool)
 |ba (key:Nat) (T:TypeId)
 |f (fn:FuncId) (caps:List (Nat×Nat))
def bm:Nat:=5000
def a1K (fn:Nat) {α:Type} (caps:List α):Bool:=bif caps.isEmpty then false else Nat.ble bm fn
def e3y (fn:Nat) {α:Type} (caps:List α):Nat:=bif a1K fn caps then fn-bm else fn
def c0E (fn:Nat) {α β:Type} (caps:List α) (xs ys:List β):List β:=bif a1K fn caps then ys++xs else xs++ys
inductive V where
 |c (x:C)
 |g (xs:List C)
 |t (xs:List V)
 |w (slot:Nat) (want:Bool) (x:V)
inductive Obj where
 |box (cells:List C)
 |row (e:TypeId) (excl isnil:Bool) (xs:List D)
 |map (kt vt:TypeId) (es:List (D×D))
 |tab (kt vt:TypeId) (es:List (D×C))
 |dat (T:TypeId) (d:D)
 |krow (e:TypeId) (k q:Nat) (c:C) (xs:List D)
abbrev AL (α:Type):=List (Nat×α)
def get {α:Type}:AL α→Nat→Option α
 | [],_=>none
 |(k,v)::r,n=>bif Nat.beq k n then some v else get r n
def set {α:Type}:AL α→Nat→α→AL α
 | [],n,x=>[(n,x)]
 |(k,v)::r,n,x=>bif Nat.beq k n then (n,x)::r else bif Nat.ble n k then (n,x)::(k,v)::r else (k,v)::set r n x
def del {α:Type}:AL α→Nat→AL α
 | [],_=>[]
 |(k,v)::r,n=>bif Nat.beq k n then del r n else (k,v)::del r n
def c0A {α:Type} (p:Nat→Bool):AL α→AL α
 | []=>[]
 |(k,v)::r=>bif p k then (k,v)::c0A p r else c0A p r
def b8m {α β:Type} (h:α→β):AL α→AL β
 | []=>[]
 |(k,v)::r=>(k,h v)::b8m h r
def b0d (n:Nat):List Nat→Bool
 | []=>false
 |m::r=>bif Nat.beq m n then true else b0d n r
structure St where
 tmps:AL V
 mem:AL Obj
inductive Ex where
 |normal
 |exit (id:Nat)
 |ret
abbrev Res:=List V×AL Obj
abbrev a0i:=FuncId→List V→AL Obj→Option (List (Bool×Res))
abbrev c6b:=List (Nat×(List Nat×List Nat×List Nat))
inductive CK where
 |int (k:IntKind)|bool|str|sl (e:TypeId)|oth
def a00 (P:Program):Nat→TypeId→List CK
 |0,_=>[]
 |n+1,T=>match P.underlying T with
  |some (.int k)=>[.int k]
  |some .bool=>[.bool]
  |some .string=>[.str]
  |some (.slice e)=>[.sl e]
  |some (.struct fs)=>fs.toList.flatMap fun f=>a00 P n f.type
  |some (.array len e)=>(List.replicate len (a00 P n e)).flatten
  |some _=>[.oth]
  |none=>[]
def kinds (P:Program) (T:TypeId):List CK:=a00 P 12 T
def a0d (P:Program) (T:TypeId):Bool:=
 match P.underlying T with
 |some (.struct _)|some (.array _ _)=>true
 |_=>false
def tyB (P:Program) (T:TypeId):Bool:=(P.underlying T).isSome
def a8F (P:Program) (T:TypeId):Bool:=
 match P.underlying T with
 |some (.slice _)=>true
 |_=>false
def a0a (P:Program) (T:TypeId):Nat:=((P.info? T).map (·.size)).getD 0
def ofC:Value→C
 | .int k n=> .i k n
 | .bool x=> .k x
 | .string x=> .s x.data.toList
 |x=> .v x
def ofV:Value→V
 | .agg cs=> .g (cs.toList.map ofC)
 |x=> .c (ofC x)
def a36:V→List C
 | .c x=>[x]
 | .g xs=>xs
 |_=>[]
def mkC:CK→D→C
 | .int k,d=> .i k d.toI
 | .bool,d=> .b d.toB
 | .str,d=> .s d.toS
 | .sl e,d=> .sl e d.isNil d.items
 | .oth,d=>bif d.toB then .v .nilFunc else .f d.toI.toNat []
def d32 (d:D):Nat→List CK→List C
 |_,[]=>[]
 |j,k::r=>mkC k (d.cell j)::d32 d (j+1) r
def e0D (d:D) (c s:Nat):List CK→List C
 | []=>[]
 |k::r=>mkC k (d.cell (c+s))::e0D d (c+1) s r
def eqK:CK→CK→Bool
 | .int k,.int k'=>k==k'
 | .bool,.bool=>true
 | .str,.str=>true
 | .sl e,.sl e'=>Nat.beq e e'
 |_,_=>false
def e23:List CK→List CK→Bool
 | [],[]=>true
 |k::r,k'::r'=>eqK k k'&&e23 r r'
 |_,_=>false
def c0F (P:Program) (T:TypeId) (o n:Nat):List CK:=((kinds P T).drop o).take n
def d44 (P:Program) (T:TypeId) (o esz n:Nat) (ks:List CK):Nat→Bool
 |0=>true
 |i+1=>e23 (c0F P T (o+i*esz) n) ks&&d44 P T o esz n ks i
def d33 (P:Program) (T:TypeId):Bool:=a0d P T&&Nat.beq (a0a P T) (kinds P T).length&&Nat.ble 24 (kinds P T).length
def a0E (P:Program) (e:TypeId) (d:D):List C:=
 bif a0d P e then d32 d 0 (kinds P e) else match kinds P e with
  |k::_=>[mkC k d]
  | []=>[]
def coe (P:Program) (T:TypeId) (x:V):V:=
 match x with
 | .c (.v (.slice none 0 0))=>(match P.underlying T with|some (.slice e)=> .c (.sl e true [])|_=>x)
 |_=>x
def d34 (k:CK) (x:C):C:=
 match x with
 | .v (.slice none 0 0)=>(match k with| .sl e=> .sl e true []|_=>x)
 |_=>x
def a3C:List CK→List C→List C
 |k::ks,c::cs=>d34 k c::a3C ks cs
 |_,cs=>cs
def fit (mem:AL Obj) (k:CK) (c:C):Option D:=
 match k,c with
 | .int k,.i k' n=>bif k==k' then some (.i n) else none
 | .bool,.b x=>some (.b x)
 | .bool,.k x=>some (.b x)
 | .str,.s x=>some (.s x)
 | .sl e,.sl e' n xs=>bif Nat.beq e e' then some (.l n xs) else none
 | .sl _,.v (.slice none 0 0)=>some (.l true [])
 | .sl e,.o key=>match get mem key with
  |some (.row e' false n xs)=>bif Nat.beq e e' then some (.l n xs) else none
  |_=>none
 | .oth,.f fn []=>some (.i fn)
 | .oth,.v .nilFunc=>some (.b true)
 |_,_=>none
def c0G (mem:AL Obj):List CK→List C→Option (List D)
 | [],[]=>some []
 |k::ks,c::cs=>match fit mem k c with
  |some d=>(match c0G mem ks cs with|some ds=>some (d::ds)|none=>none)
  |none=>none
 |_,_=>none
def asD (P:Program) (mem:AL Obj) (e:TypeId) (x:V):Option D:=
 bif a0d P e then match x with
  | .g cs=>(match c0G mem (kinds P e) cs with|some ds=>some (.a ds)|none=>none)
  |_=>none
 else match x,kinds P e with
  | .c c,[k]=>fit mem k c
  |_,_=>none
def inval (key:Nat):C→C
 | .p k o=>bif Nat.beq k key then .u else .p k o
 | .re k e a b=>bif Nat.beq k key then .u else .re k e a b
 | .pi k a b c d e=>bif Nat.beq k key then .u else .pi k a b c d e
 | .o k=>bif Nat.beq k key then .u else .o k
 | .m k=>bif Nat.beq k key then .u else .m k
 | .bs k n=>bif Nat.beq k key then .u else .bs k n
 | .bx k n=>bif Nat.beq k key then .u else .bx k n
 | .kp k=>bif Nat.beq k key then .u else .kp k
 | .y k=>bif Nat.beq k key then .u else .y k
 | .ba k T=>bif Nat.beq k key then .u else .ba k T
 | .f fn caps=>bif caps.any (fun x=>Nat.beq x.1 key) then .u else .f fn caps
 |x=>x
def inval1 (key:Nat):V→V
 | .c x=> .c (inval key x)
 | .g xs=> .g (xs.map (inval key))
 |_=> .c .u
def c2f (key:Nat):V→V
 | .c x=> .c (inval key x)
 | .g xs=> .g (xs.map (inval key))
 | .t xs=> .t (xs.map (inval1 key))
 | .w s b x=> .w s b (inval1 key x)
def a4s (key:Nat):Obj→Obj
 | .box cs=> .box (cs.map (inval key))
 | .tab kt vt es=> .tab kt vt (es.map fun x=>(x.1,inval key x.2))
 | .krow e k q c xs=> .krow e k q (inval key c) xs
 |x=>x
def a0o (key:Nat) (o:Obj) (st:St):St:=
 {tmps:=b8m (c2f key) st.tmps,mem:=set (b8m (a4s key) st.mem) key o}
def c9T (d:Nat):V→V
 | .w s b x=>bif Nat.beq s d then .c .u else .w s b x
 |x=>x
def St.put (st:St) (dst:Option Nat) (x:V):St:=
 match dst with
 |none=>st
 |some d=>{st with tmps:=set (b8m (c9T d) st.tmps) d (c9T d x)}
def ev (st:St):Operand→V
 | .tmp t=>(get st.tmps t).getD (.c .u)
 | .const v=>ofV v
 | .func f=> .c (.f f [])
 | .global _=> .c .u
def b4T:V→V
 | .w _ _ _=> .c .u
 |x=>x
def evu (st:St) (x:Operand):V:=b4T (ev st x)
def b5b (t:Nat) (want:Bool):V→V
 | .w s b x=>bif Nat.beq s t&&(b==want) then x else .c .u
 |x=>x
def evw (st:St) (t:Nat) (want:Bool) (x:Operand):V:=b5b t want (ev st x)
def toB:V→Option Bool
 | .c (.b x)=>some x
 | .c (.k x)=>some x
 |_=>none
def c0H (op:BinOp) (k:IntKind) (x y:Int):Option Int:=
 let a:=BitVec.ofInt k.bits x
 let b:=BitVec.ofInt k.bits y
 match op with
 | .and=>some (k.wrap (a&&&b).toNat)
 | .or=>some (k.wrap (a|||b).toNat)
 | .xor=>some (k.wrap (a^^^b).toNat)
 | .andNot=>some (k.wrap (a&&& ~~~b).toNat)
 |_=>none
def e3z (op:BinOp) (k:IntKind) (a b:Int):Option (Bool×C):=
 match op with
 | .add=>some (true,.i k (k.wrap (a+b)))
 | .sub=>some (true,.i k (k.wrap (a-b)))
 | .mul=>some (true,.i k (k.wrap (a*b)))
 | .quo=>some (!(b==0),.i k (k.wrap (a.tdiv b)))
 | .rem=>some (!(b==0),.i k (a.tmod b))
 | .eql=>some (true,.b (a==b))
 | .neq=>some (true,.b (a !=b))
 | .lss=>some (true,.b (decide (a<b)))
 | .leq=>some (true,.b (decide (a≤b)))
 | .gtr=>some (true,.b (decide (a>b)))
 | .geq=>some (true,.b (decide (a≥b)))
 |op=>match c0H op k a b with
  |some n=>some (true,.i k n)
  |none=>none
def c6c (op:BinOp) (k:IntKind) (x y:Int):Option (Bool×C):=
 match op with
 | .shl=>some (decide (0≤y),.i k (k.wrap (x*2^(min y.toNat k.bits))))
 | .shr=>some (decide (0≤y),.i k (x.fdiv (2^(min y.toNat k.bits))))
 |_=>none
def a0c:Nat:=9223372036854775807
def e3A (op:BinOp) (x y:List UInt8):Option (Bool×C):=
 match op with
 | .add=>some (decide (x.length+y.length≤a0c),.s (x++y))
 | .eql=>some (true,.b (x==y))
 | .neq=>some (true,.b (!(x==y)))
 | .lss=>some (true,.b (Op.bytesLess x y))
 | .leq=>some (true,.b (Op.bytesLess x y||x==y))
 | .gtr=>some (true,.b (!(Op.bytesLess x y||x==y)))
 | .geq=>some (true,.b (!(Op.bytesLess x y)))
 |_=>none
def a8G:List C→List C→Option Bool
 | [.i k a],[.i k' b]=>bif k==k' then some (a==b) else none
 |_,_=>none
def b0e:List C→List C→Option Bool
 | [.s a],[.s b]=>some (a==b)
 |_,_=>none
def b4U:C→Option Bool
 | .b a=>some a
 | .k a=>some a
 |_=>none
def a4t:List C→List C→Option Bool
 | [c],[d]=>(match b4U c,b4U d with|some a,some b=>some (a==b)|_,_=>none)
 |_,_=>none
def a6f:Option Bool→Option Bool→Option Bool
 |some a,some b=>some (a&&b)
 |_,_=>none
def eqT (P:Program):Nat→TypeId→List C→List C→Option Bool
 |0,_,_,_=>none
 | n+1,T,xs,ys=>match P.underlying T with
  |some (.int _)=>a8G xs ys
  |some .bool=>a4t xs ys
  |some .string=>b0e xs ys
  | some (.struct fs)=>bif P.stoodInHeld T then none else
   fs.toList.foldr (fun f r=>bif f.name== "_" then none else
    a6f (eqT P n f.type ((xs.drop f.offset).take (a0a P f.type)) ((ys.drop f.offset).take (a0a P f.type))) r) (some true)
  | some (.array len e)=>bif tyB P e then (List.range len).foldr (fun i r=>
    a6f (eqT P n e ((xs.drop (i*a0a P e)).take (a0a P e)) ((ys.drop (i*a0a P e)).take (a0a P e))) r) (some true) else none
  |_=>none
def c6d (P:Program) (T:TypeId) (x y:V):Option (List C×List C):=
 bif a0d P T then (match x,y with| .g a,.g b=>some (a,b)|_,_=>none) else (match x,y with| .c a,.c b=>some ([a],[b])|_,_=>none)
def eqV (P:Program) (T:TypeId) (x y:V):Option Bool:=
 bif P.eqGuardType P.depth T then none else (match c6d P T x y with|some (a,b)=>eqT P 12 T a b|none=>none)
def e3B (P:Program) (op:BinOp) (T:TypeId) (x y:V):Option (Bool×C):=
 match x,y with
 | .c (.i k a),.c (.i k' b)=>(match op with
  | .shl| .shr=>c6c op k a b
  |_=>bif k==k' then e3z op k a b else none)
 | .c (.s a),.c (.s b)=>e3A op a b
 | .c (.sl _ n _),.c (.v (.slice none 0 0))=>bif a8F P T then (match op with
  | .eql=>some (true,.b n)
  | .neq=>some (true,.b (!n))
  |_=>none) else none
 |x,y=>match op with
  | .eql=>(match eqV P T x y with|some r=>some (true,.b r)|none=>none)
  | .neq=>(match eqV P T x y with|some r=>some (true,.b (!r))|none=>none)
  |_=>none
def unV (op:UnOp) (x:V):Option C:=
 match op,x with
 | .not,.c (.b x)=>some (.b (!x))
 | .not,.c (.k x)=>some (.k (!x))
 | .neg,.c (.i k n)=>some (.i k (k.wrap (0-n)))
 | .xor,.c (.i k n)=>(match c0H .xor k (if k.signed then-1 else k.max) n with|some r=>some (.i k r)|none=>none)
 |_,_=>none
def a3k (cs:List C) (off:Nat) (new:List C):List C:=cs.take off++new++cs.drop (off+new.length)
def a4u:C→C→Bool
 | .i k _,.i k' _=>k==k'
 | .b _,.b _=>true
 | .b _,.k _=>true
 | .k _,.b _=>true
 | .k _,.k _=>true
 |_,_=>false
def d45 (c:Bool) (x y:C):C:=
 match x,y with
 | .i k a,.i _ b=> .i k (bif c then a else b)
 | .b a,.b b=> .b (bif c then a else b)
 | .b a,.k b=> .b (bif c then a else b)
 | .k a,.b b=> .b (bif c then a else b)
 | .k a,.k b=> .b (bif c then a else b)
 |x,_=>x
def d46 (b:Bool) (x y:C):C:=
 match a4u x y with
 |true=>d45 b x y
 |false=>match b with
  |true=>x
  |false=>y
def b01 (cs:List C) (base esz:Nat) (ix:Nat):Nat→Nat→Option C
 |0,_=>none
 |1,j=>cs[base+j*esz]?
 |n+2,j=>match cs[base+j*esz]?,b01 cs base esz ix (n+1) (j+1) with
  |some x,some y=>some (d46 (Nat.beq ix j) x y)
  |_,_=>none
def storeAt (cs:List C) (base esz:Nat) (ix:Nat) (x:C):Nat→Nat→Option (List C)
 |0,_=>some cs
 | n+1,j=>match storeAt cs base esz ix x n (j+1) with
  |some cs'=>(match cs'[base+j*esz]? with
   |some y=>some (cs'.set (base+j*esz) (d46 (Nat.beq ix j) x y))
   |none=>none)
  |none=>none
def c6e (P:Program) (T:TypeId) (cs:List C) (off:Nat):Option V:=
 bif a0d P T then (bif Nat.ble (off+a0a P T) cs.length then some (.g ((cs.drop off).take (a0a P T))) else none)
 else bif tyB P T then (match cs[off]? with|some c=>some (.c c)|none=>none) else none
def c9U (P:Program) (T:TypeId) (d:D) (c s:Nat) (ks:List CK):Option V:=
 bif a0d P T then (bif Nat.beq ks.length (a0a P T) then some (.g (e0D d c s ks)) else none)
 else bif tyB P T then (match ks with| [k]=>some (.c (mkC k (d.cell (c+s))))|_=>none) else none
def c54 (x:Option V):Option (Bool×V):=
 match x with
 |some v=>some (true,v)
 |none=>none
def c9V (P:Program) (mem:AL Obj) (T:TypeId) (a:V):Option (Bool×V):=
 match a with
 | .c (.p key off)=>(match get mem key with
  |some (.box cs)=>c54 (c6e P T cs off)
  |some (.dat T' d)=>c54 (c9U P T d off 0 (c0F P T' off (a0a P T)))
  |_=>none)
 | .c (.el e d off)=>c54 (c6e P T (a0E P e d) off)
 | .c (.re key e ix off)=>(match get mem key with
  |some (.row e' _ _ xs)=>bif Nat.beq e e' then (match c6e P T (a0E P e (xs.getD ix (.i 0))) off with|some v=>some (decide (ix<xs.length),v)|none=>none) else none
  |_=>none)
 | .c (.pi key base len esz ix off)=>(match get mem key with
  |some (.box cs)=>bif a0d P T|| !tyB P T then none else (match b01 cs (base+off) esz ix len 0 with|some c=>some (true,.c c)|none=>none)
  |some (.dat T' d)=>bif d44 P T' (base+off) esz (a0a P T) (c0F P T' (base+off) (a0a P T)) len then c54 (c9U P T d (base+off) (ix*esz) (c0F P T' (base+off) (a0a P T))) else none
  |_=>none)
 |_=>none
def a1F:C→Bool
 | .u=>false
 | .z _ _=>false
 | .y _=>false
 | .ba _ _=>false
 | .v x=>x.oneCell'
 |_=>true
def a2l:List C→Bool
 | []=>true
 |c::cs=>bif a1F c then a2l cs else false
def a1O (P:Program) (T:TypeId) (x:V):Option (List C):=
 let cs:=a3C (kinds P T) (a36 x)
 bif Nat.beq cs.length (a0a P T)&&a2l cs&& !cs.isEmpty then some cs else none
def c6f (P:Program) (mem:AL Obj) (e:TypeId) (cs:List C):Option D:=
 asD P mem e (bif a0d P e then .g cs else match cs with| [c]=> .c c|_=> .t [])
def c6g (P:Program) (mem:AL Obj) (T:TypeId) (a x:V):Option (Bool×AL Obj):=
 match a1O P T x with
 |none=>none
 | some new=>match a with
  | .c (.p key off)=>(match get mem key with
   |some (.box cs)=>bif Nat.ble (off+new.length) cs.length then some (true,set mem key (.box (a3k cs off new))) else none
   |some (.dat T' d)=>(match c0G mem (c0F P T' off new.length) new with|some ds=>some (true,set mem key (.dat T' (e0o d off 0 ds)))|none=>none)
   |_=>none)
  | .c (.pi key base len esz ix off)=>(match get mem key with
   |some (.box cs)=>(match new with
    | [c]=>(match storeAt cs (base+off) esz ix c len 0 with|some cs'=>some (true,set mem key (.box cs'))|none=>none)
    |_=>none)
   | some (.dat T' d)=>bif d44 P T' (base+off) esz new.length (c0F P T' (base+off) new.length) len then
     (match c0G mem (c0F P T' (base+off) new.length) new with|some ds=>some (true,set mem key (.dat T' (e0o d (base+off) (ix*esz) ds)))|none=>none) else none
   |_=>none)
  | .c (.re key e ix off)=>(match get mem key with
   | some (.row e' true n xs)=>bif Nat.beq e e'&&Nat.ble (off+new.length) (kinds P e).length then
     (match c6f P mem e (a3k (a0E P e (xs.getD ix (.i 0))) off new) with
     |some d=>some (decide (ix<xs.length),set mem key (.row e true n (xs.set ix d)))
     |none=>none) else none
   |_=>none)
  |_=>none
def c2g (P:Program) (S:TypeId) (f:Nat):Option Nat:=
 match P.underlying S with
 |some (.struct fs)=>(match fs[f]? with|some x=>bif Nat.beq (a0a P x.type) 0 then none else some x.offset|none=>none)
 |_=>none
def c6h (a:V) (n:Nat):Option V:=
 match a with
 | .c (.p key off)=>some (.c (.p key (off+n)))
 | .c (.el e d off)=>some (.c (.el e d (off+n)))
 | .c (.re key e ix off)=>some (.c (.re key e ix (off+n)))
 | .c (.pi key base len esz ix off)=>some (.c (.pi key base len esz ix (off+n)))
 |_=>none
def inB (i:Int) (n:Nat):Bool:=decide (0≤i)&&decide (i<n)
def a4U (P:Program) (mem:AL Obj) (T:TypeId) (x ix:V):Option (Bool×V):=
 match ix with
 | .c (.i _ i)=>(match P.underlying T,x with
  |some (.slice e'),.c (.sl e _ xs)=>bif Nat.beq e e'&&tyB P e then some (inB i xs.length,.c (.el e (xs.getD i.toNat (.i 0)) 0)) else none
  |some (.slice e'),.c (.o key)=>(match get mem key with|some (.row e _ _ xs)=>bif Nat.beq e e'&&tyB P e then some (inB i xs.length,.c (.re key e i.toNat 0)) else none|_=>none)
  |some (.slice e'),.c (.bs key n)=>bif Nat.beq (a0a P e') 1&&tyB P e' then some (inB i n,.c (.p key i.toNat)) else none
  |some (.slice e'),.c (.bx key n)=>bif Nat.beq (a0a P e') 1&&tyB P e' then some (inB i n,.c (.p key i.toNat)) else none
  |some (.array len e),.c (.p key off)=>bif Nat.beq (a0a P e) 0 then none else some (inB i len,.c (.pi key off len (a0a P e) i.toNat 0))
  |_,_=>none)
 |_=>none
def c6i (P:Program) (T:TypeId) (x:V) (f:Nat):Option V:=
 match P.underlying T,x with
 |some (.struct fs),.g cs=>(match fs[f]? with
  |some fd=>bif a0d P fd.type then some (.g ((cs.drop fd.offset).take (a0a P fd.type))) else bif tyB P fd.type then (match cs[fd.offset]? with|some c=>some (.c c)|none=>none) else none
  |none=>none)
 |_,_=>none
def c6j (P:Program) (T:TypeId) (x ix:V):Option (Bool×V):=
 match P.underlying T,x,ix with
 |some .string,.c (.s l),.c (.i _ i)=>some (inB i l.length,.c (.i .u8 ((l.getD i.toNat 0).toNat:Int)))
 |some (.array len e),.g cs,.c (.i _ i)=>bif a0d P e|| !Nat.beq (a0a P e) 1|| !tyB P e then none else (match b01 cs 0 1 i.toNat len 0 with|some c=>some (inB i len,.c c)|none=>none)
 |_,_,_=>none
def b4V (P:Program) (T:TypeId):Option (List C):=
 match (P.info? T).bind (·.zero) with
 |some (.agg cs)=>bif a0d P T then some (a3C (kinds P T) (cs.toList.map ofC)) else none
 |some v=>bif a0d P T then none else some (a3C (kinds P T) [ofC v])
 |none=>none
def a4K (P:Program) (T:TypeId):Option V:=
 match b4V P T with
 |some z=>bif a0d P T then some (.g z) else (match z with| [c]=>some (.c c)|_=>none)
 |none=>none
def c4D (P:Program) (places:List (Nat×TypeId)):List C→List (Nat×V)→Option (List C)
 |cs,[]=>some cs
 | cs,(i,x)::rest=>match places[i]? with
  |none=>none
  |some (off,T)=>match a1O P T x with
   |none=>none
   |some new=>bif Nat.ble (off+new.length) cs.length then c4D P places (a3k cs off new) rest else none
def c6k (P:Program) (T:TypeId) (parts:List (Nat×V)):Option V:=
 match b4V P T,P.underlying T with
 |some z,some (.struct fs)=>bif !(fs.toList.all fun f=>(P.info? f.type).isSome) then none else (match c4D P (fs.toList.map fun f=>(f.offset,f.type)) z parts with|some cs=>some (.g cs)|none=>none)
 |some z,some (.array len e)=>bif !(P.info? e).isSome then none else (match c4D P ((List.range len).map fun i=>(i*a0a P e,e)) z parts with|some cs=>some (.g cs)|none=>none)
 |_,_=>none
def b02 (o:Option V) (d:Int):Option Int:=
 match o with
 |none=>some d
 |some (.c (.i _ n))=>some n
 |_=>none
def c2h (P:Program) (T:TypeId) (x:V) (lo hi:Option V):Option (Bool×V):=
 match P.underlying T,x with
 |some .string,.c (.s l)=>(match b02 lo 0,b02 hi l.length with
  |some a,some b=>some (decide (0≤a)&&decide (a≤b)&&decide (b≤l.length),.c (.s ((l.take b.toNat).drop a.toNat)))
  |_,_=>none)
 |some (.slice e'),.c (.sl e n xs)=>bif Nat.beq e e'&&tyB P e then (match b02 lo 0,b02 hi xs.length with
  |some a,some b=>some (decide (0≤a)&&decide (a≤b)&&decide (b≤xs.length),.c (.sl e n ((xs.take b.toNat).drop a.toNat)))
  |_,_=>none) else none
 |_,_=>none
def c6l (P:Program) (T:TypeId) (x:V) (lo:Option V) (hi mx:V):Option (Bool×V):=
 match P.underlying T,x,b02 lo 0,hi,mx with
 | some (.slice e'),.c (.sl e n xs),some a,.c (.i _ b),.c (.i _ m)=>bif Nat.beq e e'&&tyB P e then
   some (decide (0≤a)&&decide (a≤b)&&decide (b≤m)&&decide (m≤xs.length),.c (.sl e n ((xs.take b.toNat).drop a.toNat))) else none
 |_,_,_,_,_=>none
def b5c:Operand→Bool
 | .const (.int _ 0)=>true
 |_=>false
def eqD (P:Program) (T:TypeId) (x y:D):Option Bool:=eqT P 12 T (a0E P T x) (a0E P T y)
def c4E (P:Program) (T:TypeId) (k:D):List (D×D)→Option (Option D)
 | []=>some none
 |(k',v)::r=>match eqD P T k k' with
  |some e=>(match c4E P T k r with|some o=>some (bif e then some v else o)|none=>none)
  |none=>none
def eqB (P:Program) (T:TypeId) (x y:D):Bool:=(eqD P T x y).getD false
def a2R (P:Program) (T:TypeId) (k:D):List (D×D)→Option D
 | []=>none
 |(k',v)::r=>bif eqB P T k k' then some v else a2R P T k r
def a1L (P:Program) (T:TypeId) (d:D):V:=bif a0d P T then .g (a0E P T d) else match a0E P T d with| [c]=> .c c|_=> .c .u
def c0I (P:Program) (mem:AL Obj) (T:TypeId) (x k:V) (commaOk:Bool):Option V:=
 match x,P.underlying T with
 | .c (.m key),some (.map kt' vt')=>(match get mem key with
  | some (.map kt vt es)=>bif Nat.beq kt kt'&&Nat.beq vt vt' then (match asD P mem kt k,a4K P vt with
   | some kd,some z=>(match eqD P kt kd kd,asD P mem vt z with
    |some _,some zd=>
     let v:=a1L P vt ((a2R P kt kd es).getD zd)
     some (bif commaOk then .t [v,.c (.b (a2R P kt kd es).isSome)] else v)
    |_,_=>none)
   |_,_=>none) else none
  |_=>none)
 |_,_=>none
def e3C (P:Program) (mem:AL Obj) (T:TypeId) (x:V):Option Int:=
 match P.underlying T,x with
 |some .string,.c (.s l)=>some l.length
 |some (.slice _),.c (.sl _ _ xs)=>some xs.length
 |some (.slice _),.c (.v (.slice none 0 0))=>some 0
 |some (.slice _),.c (.o key)=>(match get mem key with|some (.row _ _ _ xs)=>some xs.length|_=>none)
 |some (.slice _),.c (.bs _ n)=>some n
 |some (.slice _),.c (.bx _ n)=>some n
 |some (.map _ _),.c (.m key)=>(match get mem key with|some (.map _ _ es)=>some es.length|_=>none)
 |some (.array n _),_=>some n
 |_,_=>none
def c6m (P:Program) (T:TypeId) (x:V):Option Int:=
 match P.underlying T,x with
 |some (.slice _),.c (.v (.slice none 0 0))=>some 0
 |some (.slice _),.c (.sl _ true [])=>some 0
 |_,_=>none
def c4F (op:Int→Int→Int) (k:IntKind):Int→List V→Option V
 |a,[]=>some (.c (.i k a))
 |a,.c (.i k' b)::r=>bif k==k' then c4F op k (op a b) r else none
 |_,_=>none
def max2 (x y:Int):Int:=if y>x then y else x
def min2 (x y:Int):Int:=if y<x then y else x
def c9W (b:UInt8):D:= .i (b.toNat:Int)
def a0T (l:List UInt8):List D:=l.map c9W
def c9X (xs:List D):List UInt8:=xs.map fun d=>UInt8.ofNat d.toI.toNat
def b4W (P:Program) (e:TypeId):Bool:=match P.underlying e with|some (.int .u8)=>true|_=>false
def e24 (mem:AL Obj) (e:TypeId) (x:V):Option (List D):=
 match x with
 | .c (.o key)=>(match get mem key with|some (.row e' _ _ xs)=>bif Nat.beq e e' then some xs else none|_=>none)
 | .c (.sl e' _ xs)=>bif Nat.beq e e' then some xs else none
 | .c (.v (.slice none 0 0))=>some []
 |_=>none
def c0J:Operand→Bool
 | .const .nilIface=>true
 |_=>false
def b26 (P:Program) (T:TypeId):Bool:=
 match P.underlying T with
 |some (.interface _)=>true
 |_=>false
def e3D (P:Program) (op:BinOp) (T:TypeId) (x:V) (y:Operand):Option C:=
 match op,x with
 | .eql,.c (.ifc b)=>bif c0J y&&b26 P T then some (.b b) else none
 | .neq,.c (.ifc b)=>bif c0J y&&b26 P T then some (.b (!b)) else none
 | .eql,.c (.v .nilIface)=>bif c0J y&&b26 P T then some (.b true) else none
 | .neq,.c (.v .nilIface)=>bif c0J y&&b26 P T then some (.b false) else none
 |_,_=>none
def c4G (P:Program) (mem:AL Obj) (e:Operand→V) (ew:Nat→Bool→Operand→V) (o:Oper):Option (Bool×V):=
 let okc (x:Option (Bool×C)):Option (Bool×V):=match x with|some (b,c)=>some (b,.c c)|none=>none
 match o.op with
 | .move x| .assign x=>some (true,coe P o.type (e x))
 | .pick c a b=>(match e c with
  | .c (.k x)=>some (true,bif x then e a else e b)
  | .c (.b x)=>(match c with
   | .tmp t=>(match toB (ew t true a),toB (ew t false b) with
    |some y,some z=>some (true,.c (.b (bif x then y else z)))
    |_,_=>none)
   |_=>none)
  |_=>none)
 | .build t parts=>c54 (c6k P t (parts.toList.map fun (i,x)=>(i,e x)))
 | .load t a=>c9V P mem t (e a)
 | .nilCheck x=>(match e x with| .c (.p k n)=>some (true,.c (.p k n))| .c (.el t d n)=>some (true,.c (.el t d n))| .c (.re k t a b)=>some (true,.c (.re k t a b))| .c (.pi a b c d x y)=>some (true,.c (.pi a b c d x y))| .c (.f fn cs)=>some (true,.c (.f fn cs))|_=>none)
 | .binOp op t x y _=>(match e3D P op t (e x) y with
  |some c=>some (true,.c c)
  |none=>okc (e3B P op t (e x) (e y)))
 | .unOp op _ x=>(match unV op (e x) with|some c=>some (true,.c c)|none=>none)
 | .convert s d x=>(match P.underlying s,P.underlying d,e x with
  |some (.int _),some (.int k),.c (.i _ n)=>some (true,.c (.i k (k.wrap n)))
  |some (.int _),some .string,.c (.i _ n)=>some (true,.c (.s (Utf8.encode n).data.toList))
  |some .string,some .string,.c (.s l)=>some (true,.c (.s l))
  |some (.slice el),some .string,y=>bif b4W P el then (match e24 mem el y with|some xs=>some (true,.c (.s (c9X xs)))|none=>none) else none
  |_,_,_=>none)
 | .makeFunc fn first caps=>(match fn with
  | .func f=>(match first.toList with
   | []=>(match caps.toList.mapM (fun x=>match e x with| .c (.p k n)=>some (k,n)|_=>none) with
    |some cs=>bif Nat.ble bm f then none else some (true,.c (.f f cs))
    |none=>none)
   |fs=>bif caps.isEmpty then (match fs.mapM (fun x=>match e x with| .c (.p k n)=>some (k,n)|_=>none) with
    |some cs=>some (true,.c (.f (f+bm) cs))
    |none=>none) else none)
  |_=>none)
 | .slice t x lo hi none=>c2h P t (e x) (lo.map e) (hi.map e)
 | .fieldAddr s x f=>(match c2g P s f with|some n=>c54 (c6h (e x) n)|none=>none)
 | .field t x f=>c54 (c6i P t (e x) f)
 | .indexAddr t x i=>a4U P mem t (e x) (e i)
 | .index t x i=>c6j P t (e x) (e i)
 | .extract x i=>(match e x with| .t vs=>(match vs[i]? with|some v=>some (true,v)|none=>none)|_=>none)
 | .lookup t x k commaOk=>c54 (c0I P mem t (e x) (e k) commaOk)
 | .call c=>(match c.callee with
  | .builtin .len=>(match c.args.toList,c.argTypes.toList with
   | [x],[T]=>(match e3C P mem T (e x) with|some n=>some (true,.c (.i .i64 n))|none=>none)
   |_,_=>none)
  | .builtin .cap=>(match c.args.toList,c.argTypes.toList with
   | [x],[T]=>(match c6m P T (e x) with|some n=>some (true,.c (.i .i64 n))|none=>none)
   |_,_=>none)
  | .builtin .max=>(match c.args.toList.map e with
   | .c (.i k a)::r=>c54 (c4F max2 k a r)
   |_=>none)
  | .builtin .min=>(match c.args.toList.map e with
   | .c (.i k a)::r=>c54 (c4F min2 k a r)
   |_=>none)
  |_=>none)
 |_=>none
def b51 (P:Program) (T:TypeId):Bool:=
 match P.underlying T with
 |some (.map _ vt)=>(match kinds P vt with| [.oth]=> !a0d P vt|_=>false)
 |_=>false
def e3E:CK→Bool
 | .oth=>true
 |_=>false
def b27 (P:Program) (T:TypeId):Bool:=
 match P.underlying T with
 |some (.slice e)=>(kinds P e).any e3E
 |_=>false
def a1P (P:Program) (o:Oper):Bool:=
 match o.op with
 | .slice t _ _ _ _=> !(a8F P t)
 | .convert _ d _=> !(a8F P d)
 | .lookup t _ _ ok=> !(ok&&b51 P t)
 | .indexAddr t _ _=> !(b27 P t)
 | .move _| .assign _| .pick .. | .build .. | .load .. | .nilCheck _| .binOp .. | .unOp .. | .makeFunc .. | .fieldAddr .. | .field .. | .index .. | .extract .. =>true
 | .call c=>(match c.callee with| .builtin .len| .builtin .cap| .builtin .max| .builtin .min=>true|_=>false)
 |_=>false
def b5d:Obj→Obj
  | .row e _ n xs=> .row e false n xs
  |x=>x
def e0E:C→List Nat
  | .o key=>[key]
  |_=>[]
def a3l:V→List Nat
  | .c x=>e0E x
  | .g xs=>xs.flatMap e0E
  |_=>[]
def a0w (mem:AL Obj):List Nat→AL Obj
  | []=>mem
  |k::r=>a0w (match get mem k with|some o=>set mem k (b5d o)|none=>mem) r
def c9Y (mem:AL Obj):C→C
  | .o key=>(match get mem key with|some (.row e false n xs)=> .sl e n xs|_=> .o key)
  | .k x=> .b x
  |x=>x
def b52 (mem:AL Obj):V→V
  | .c x=> .c (c9Y mem x)
  | .g xs=> .g (xs.map (c9Y mem))
  |x=>x
structure Ref where
  key:Nat
  off:Nat
  size:Option Nat
def c9Z:C→List Ref
  | .p k _=>[⟨k,0,none⟩]
  | .o k=>[⟨k,0,none⟩]
  | .m k=>[⟨k,0,none⟩]
  | .bs k _=>[⟨k,0,none⟩]
  | .bx k _=>[⟨k,0,none⟩]
  | .kp k=>[⟨k,0,none⟩]
  | .f _ caps=>caps.map fun x=>⟨x.1,0,none⟩
  |_=>[]
def d47 (P:Program) (T:Option TypeId):V→List Ref
  | .c (.p k o)=>(match T.bind P.underlying with
    |some (.pointer e)=>[⟨k,o,some (a0a P e)⟩]
    |_=>[⟨k,0,none⟩])
  | .c x=>c9Z x
  | .g xs=>xs.flatMap c9Z
  |_=>[]
def b53 (P:Program):List TypeId→List V→List Ref
  |T::ts,x::xs=>d47 P (some T) x++b53 P ts xs
  | [],x::xs=>d47 P none x++b53 P [] xs
  |_,[]=>[]
def c2i:Option Nat→Option Nat→Bool
  |none,none=>true
  |some a,some b=>Nat.beq a b
  |_,_=>false
def a8H (cs:List C) (r:Ref):Option (List C):=
  match r.size with
  |none=>bif Nat.beq r.off 0 then some cs else none
  |some n=>bif Nat.ble (r.off+n) cs.length then some ((cs.drop r.off).take n) else none
def a2B (k:Nat):List Ref→Nat→Option (Nat×Ref)
  | [],_=>none
  |r::rs,i=>bif Nat.beq r.key k then some (i,r) else a2B k rs (i+1)
def b03 (mem:AL Obj) (r:Ref):Ref:=
  match get mem r.key with
  |some (.dat _ _)=>⟨r.key,r.off,none⟩
  | some (.box cs)=>(match r.size with
    |some n=>bif Nat.beq r.off 0&&Nat.beq n cs.length then ⟨r.key,r.off,none⟩ else r
    |none=>r)
  |_=>r
def a37 (mem:AL Obj):Nat→List Ref→List Ref→Option (List Ref)
  |0,_,_=>none
  |_+1,[],acc=>some acc
  | n + 1,r::rest,acc=>match a2B r.key acc 0 with
    |some (_,r')=>bif Nat.beq r.off r'.off&&c2i (b03 mem r).size r'.size then a37 mem n rest acc else none
    | none=>match get mem r.key with
      |none=>none
      | some (.box cs)=>(match a8H cs r with
        |some sub=>a37 mem n (rest++sub.flatMap c9Z) (acc++[b03 mem r])
        |none=>none)
      |some (.krow _ _ _ c _)=>a37 mem n (rest++c9Z c) (acc++[b03 mem r])
      |some _=>a37 mem n rest (acc++[b03 mem r])
def d35 (acc:List Ref) (x:Nat×Nat):Option (Nat×Nat):=
  match a2B x.1 acc 0 with
  |some (i,r)=>bif Nat.ble r.off x.2 then some (i,x.2-r.off) else none
  |none=>none
def b0f (acc:List Ref):List (Nat×Nat)→Option (List (Nat×Nat))
  | []=>some []
  | x::xs=>match d35 acc x,b0f acc xs with
    |some y,some ys=>some (y::ys)
    |_,_=>none
def b8g (acc:List Ref):C→Option C
  | .p k o=>(match a2B k acc 0 with|some (i,r)=>bif Nat.ble r.off o then some (.p i (o-r.off)) else none|none=>none)
  | .o k=>(match a2B k acc 0 with|some (i,_)=>some (.o i)|none=>none)
  | .m k=>(match a2B k acc 0 with|some (i,_)=>some (.m i)|none=>none)
  | .f fn caps=>(match b0f acc caps with
    |some cs=>some (.f fn cs)
    |none=>none)
  | .re .. =>none
  | .pi .. =>none
  | .el .. =>none
  | .bs k n=>(match a2B k acc 0 with|some (i,r)=>bif Nat.beq r.off 0 then some (.bs i n) else none|none=>none)
  | .bx k n=>(match a2B k acc 0 with|some (i,r)=>bif Nat.beq r.off 0 then some (.bx i n) else none|none=>none)
  | .kp _=>none
  | .y .. =>none
  | .ba k T=>(match a2B k acc 0 with|some (i,r)=>bif Nat.beq r.off 0 then some (.ba i T) else none|none=>none)
  |x=>some x
def a7M (acc:List Ref):List C→Option (List C)
  | []=>some []
  | c::cs=>match b8g acc c,a7M acc cs with
    |some x,some xs=>some (x::xs)
    |_,_=>none
def e0F (acc:List Ref):V→Option V
  | .c x=>(match b8g acc x with|some y=>some (.c y)|none=>none)
  | .g xs=>(match a7M acc xs with|some ys=>some (.g ys)|none=>none)
  |_=>none
def c4H (acc:List Ref):List V→Option (List V)
  | []=>some []
  | c::cs=>match e0F acc c,c4H acc cs with
    |some x,some xs=>some (x::xs)
    |_,_=>none
def a7P (mem:AL Obj) (acc:List Ref):List Ref→Nat→Option (AL Obj)
  | [],_=>some []
  | r ::rs,i=>match get mem r.key,a7P mem acc rs (i+1) with
    | some (.box cs),some rest=>(match a8H cs r with
      |some sub=>(match a7M acc sub with|some sub'=>some ((i,.box sub')::rest)|none=>none)
      |none=>none)
    |some (.row e ex nl xs),some rest=>bif Nat.beq r.off 0 then some ((i,.row e ex nl xs)::rest) else none
    |some (.map kt vt es),some rest=>bif Nat.beq r.off 0 then some ((i,.map kt vt es)::rest) else none
    |some (.dat T d),some rest=>bif Nat.beq r.off 0 then some ((i,.dat T d)::rest) else none
    |_,_=>none
def a06 (acc:List Ref) (base k:Nat):Nat×Nat:=
  match acc[k]? with
  |some r=>(r.key,r.off)
  |none=>(base+k,0)
def a38 (acc:List Ref) (base:Nat):C→C
  | .p k o=>let x:=a06 acc base k; .p x.1 (x.2+o)
  | .o k=> .o (a06 acc base k).1
  | .m k=> .m (a06 acc base k).1
  | .f fn caps=> .f fn (caps.map fun x=>let y:=a06 acc base x.1;(y.1,y.2+x.2))
  | .re k e a b=> .re (a06 acc base k).1 e a b
  | .pi k a b c d e=>let x:=a06 acc base k; .pi x.1 (x.2+a) b c d e
  | .bs k n=>let x:=a06 acc base k;bif Nat.beq x.2 0 then .bs x.1 n else .u
  | .bx k n=>let x:=a06 acc base k;bif Nat.beq x.2 0 then .bx x.1 n else .u
  | .kp k=> .kp (a06 acc base k).1
  | .y _=> .u
  | .ba k T=>let x:=a06 acc base k;bif Nat.beq x.2 0 then .ba x.1 T else .u
  |x=>x
def c4I (acc:List Ref) (base:Nat):V→V
  | .c x=> .c (a38 acc base x)
  | .g xs=> .g (xs.map (a38 acc base))
  |x=>x
def b28 (acc:List Ref) (base:Nat):Obj→Obj
  | .box cs=> .box (cs.map (a38 acc base))
  | .tab kt vt es=> .tab kt vt (es.map fun x=>(x.1,a38 acc base x.2))
  | .krow e k q c xs=> .krow e k q (a38 acc base c) xs
  |x=>x
def a4a (acc:List Ref) (base:Nat) (memR:AL Obj):List Ref→Nat→AL Obj→Option (AL Obj)
  | [],_,mem=>some mem
  | r ::rs,i,mem=>match get memR i with
    |none=>a4a acc base memR rs (i+1) (del mem r.key)
    | some o=>match r.size with
      |none=>a4a acc base memR rs (i+1) (set mem r.key (b28 acc base o))
      | some n=>match o,get mem r.key with
        | .box sub,some (.box cs)=>bif Nat.beq sub.length n then a4a acc base memR rs (i+1) (set mem r.key (.box (a3k cs r.off (sub.map (a38 acc base))))) else none
        |_,_=>none
def a1G (n base:Nat):AL Obj→List Nat
  | []=>[]
  |(k,_)::r=>bif Nat.ble n k then (base+k)::a1G n base r else a1G n base r
def a12:List Nat→St→St
  | [],st=>st
  |key::r,st=>a12 r {tmps:=b8m (c2f key) st.tmps,mem:=del (b8m (a4s key) st.mem) key}
def a6g (acc:List Ref) (base:Nat):AL Obj→AL Obj→AL Obj
  | [],mem=>mem
  |(k,o)::r,mem=>bif Nat.ble acc.length k then set (a6g acc base r mem) (base+k) (b28 acc base o) else a6g acc base r mem
def a1C:C→List Nat
  | .p k _=>[k]
  | .re k _ _ _=>[k]
  | .pi k _ _ _ _ _=>[k]
  | .o k=>[k]
  | .m k=>[k]
  | .bs k _=>[k]
  | .bx k _=>[k]
  | .kp k=>[k]
  | .y k=>[k]
  | .ba k _=>[k]
  | .f _ caps=>caps.map (·.1)
  |_=>[]
def a6h:V→List Nat
  | .c x=>a1C x
  | .g xs=>xs.flatMap a1C
  |_=>[]
def a1g:Obj→List Nat
  | .box cs=>cs.flatMap a1C
  | .tab _ _ es=>es.flatMap fun x=>a1C x.2
  | .krow _ _ _ c _=>a1C c
  |_=>[]
def b29 (mem:AL Obj):List Nat→Bool
  | []=>true
  |k::r=>(get mem k).isSome&&b29 mem r
def b54:Obj→Bool
  | .box []=>false
  |_=>true
def a8I (mem:AL Obj):AL Obj→Bool
  | []=>true
  |(_,o)::r=>b29 mem (a1g o)&&b54 o&&a8I mem r
def b04:V→Bool
  | .c _=>true
  | .g _=>true
  |_=>false
def a4b (r:Res):Bool:=b29 r.2 (r.1.flatMap a6h)&&a8I r.2 r.2&&r.1.all b04
def a6i (memR:AL Obj) (news:List Nat):List Ref→Nat→Bool
  | [],_=>true
  |r::rs,i=>(bif b0d r.key news then (get memR i).isNone else true)&&a6i memR news rs (i+1)
def a3L:List V→V
  | [x]=>x
  |xs=> .t xs
def a0O (kb:Nat) (dst:Option Nat):Nat:=kb+1000000000*((match dst with|some d=>d|none=>0)+1)
def b3a (base:Nat):List Nat→Bool
  | []=>true
  |k::r=>Nat.blt k (base+1000000000)&&b3a base r
def a0F (o:Oper):Bool:=
  match o.op with
  | .call c=>(match c.callee with| .value _=>true|_=>false)
  |_=>false
def a0v (P:Program) (kb:Nat) (o:Oper) (k:Nat):Bool:=
  bif a1P P o then false else bif a0F o then Nat.ble (a0O kb o.dst) k&&Nat.blt k (a0O kb o.dst+1000000000) else match o.dst with|some d=>Nat.beq k (kb+d)|none=>false
def a4v {α R:Type}:List (Bool×α)→(α→Option R)→Option R
  | [],_=>none
  |(c,x)::r,k=>bif c then k x else a4v r k
def b1V (P:Program) (cl:a0i) (f:FuncId) (fn:Func) (mem:AL Obj) (args:List V):Option (List Ref×List (Bool×Res)):=
  match a37 mem 300 (b53 P fn.params.toList args) [] with
  |none=>none
  | some acc=>match c4H acc args,a7P mem acc acc 0 with
    | some args',some mem'=>(match cl f args' mem' with
      |none=>none
      |some alts=>some (acc,alts))
    |_,_=>none
def a7Z {R:Type} (kb:Nat) (mem:AL Obj) (x:List Ref×List (Bool×Res)) (o:Oper) (st:St) (k:St→Option R):Option R:=
  a4v x.2 fun r=>
    let base:=a0O kb o.dst
    let news:=a1G x.1.length base r.2
    let st1:=a12 news {st with mem}
    bif a4b r&&a6i r.2 news x.1 0&&b3a base news then match a4a x.1 base r.2 x.1 0 st1.mem with
    |none=>none
    |some mem2=>k (St.put {st1 with mem:=a6g x.1 base r.2 mem2} o.dst (a3L (r.1.map (c4I x.1 base)))) else none
def b5e {R:Type} (P:Program) (cl:a0i) (kb:Nat) (f:FuncId) (args:List V) (o:Oper) (st:St) (k:St→Option R):Option R:=
  match P.funcs[f]? with
  |none=>none
  | some fn=>
    match (bif (args.flatMap a3l).isEmpty then none else b1V P cl f fn st.mem args) with
    |some x=>a7Z kb st.mem x o st k
    | none=>
      let mem:=a0w st.mem (args.flatMap a3l)
      match b1V P cl f fn mem (args.map (b52 mem)) with
      |some x=>a7Z kb mem x o st k
      |none=>none
def e0G (mem:AL Obj) (e:TypeId) (x:V):Option (List D):=
  match x with
  | .c (.o key)=>(match get mem key with|some (.row e' _ _ xs)=>bif Nat.beq e e' then some xs else none|_=>none)
  | .c (.sl e' _ xs)=>bif Nat.beq e e' then some xs else none
  | .c (.v (.slice none 0 0))=>some []
  |_=>none
def a0X:Nat:=140737488355328
def a0h (P:Program) (T:TypeId):Option TypeId:=
  match P.underlying T with
  |some (.slice e)=>bif Nat.beq (a0a P e) (kinds P e).length&&tyB P e&& !Nat.beq (a0a P e) 0 then some e else none
  |_=>none
def a07 (P:Program) (T:TypeId):Nat:=((P.info? T).map (·.bytes)).getD 0
def a0V (P:Program) (e n:Nat):Bool:=decide (n*a07 P e≤a0X)&&decide (n≤a0c)
def d48 (P:Program) (T:TypeId) (k v:D):List (D×D)→Option (List (D×D))
  | []=>some [(k,v)]
  | (k',v')::r=>match eqD P T k k',d48 P T k v r with
    |some e,some r'=>some (bif e then (k,v)::r else (k',v')::r')
    |_,_=>none
def c6n (P:Program) (T:TypeId) (k v:D):List (D×D)→List (D×D)
  | []=>[(k,v)]
  |(k',v')::r=>bif eqB P T k k' then (k,v)::r else (k',v')::c6n P T k v r
def e0H (P:Program) (e:TypeId):V→V
  | .c c=> .c (match kinds P e with| [k]=>d34 k c|_=>c)
  | .g cs=> .g (a3C (kinds P e) cs)
  |y=>y
def b5f (P:Program) (mem:AL Obj) (e:TypeId):List D→List (Nat×V)→Option (List D)
  |ds,[]=>some ds
  | ds,(i,x)::r=>match asD P mem e (e0H P e x) with
    |some d=>bif Nat.blt i ds.length then b5f P mem e (ds.set i d) r else none
    |none=>none
def a8J:List C→List (Nat×V)→Option (List C)
  |cs,[]=>some cs
  | cs,(i,x)::r=>match x with
    | .c c=>bif Nat.blt i cs.length&&a1F c then a8J (cs.set i c) r else none
    |_=>none
def a2U (P:Program) (e:TypeId):Option D:=
  match a4K P e with
  |some z=>asD P [] e z
  |none=>none
def e0I:List C→Nat→Option (Nat×Nat)
  | [],_=>none
  | .kp k::_,j=>some (j,k)
  |_::r,j=>e0I r (j+1)
def c90 (P:Program) (mem:AL Obj) (el:TypeId) (cs:List C):Option (Nat×Nat×D):=
  match e0I cs 0 with
  | some (q,key)=>(match (kinds P el)[q]? with
    | some (.sl e')=>(match c0G mem (kinds P el) (cs.set q (.sl e' true [])) with
      |some ds=>some (q,key,.a ds)
      |none=>none)
    |_=>none)
  |none=>none
def c6o (mem:AL Obj) (a:V):Bool:=
  match a with
  | .c (.re ..)=>true
  | .c (.p key _)=>(match get mem key with|some (.dat _ _)=>true|_=>false)
  | .c (.pi key _ _ _ _ _)=>(match get mem key with|some (.dat _ _)=>true|_=>false)
  |_=>false
def b55 (P:Program) (mem:AL Obj) (el T:TypeId) (x:V):Option (List D):=
  match P.underlying T,x with
  |some .string,.c (.s l)=>bif b4W P el then some (a0T l) else none
  |some (.slice el'),x=>bif Nat.beq el el' then e0G mem el x else none
  |_,_=>none
def d36 (st:St) (x:V) (lo hi mx:Option Operand):Option (Nat×Operand):=
  match x,lo,hi,mx with
  | .c (.o key),none,some h,none=>(match get st.mem key with|some (.row _ true _ _)=>some (key,h)|_=>none)
  |_,_,_,_=>none
def d37 (x:V) (lo hi mx:Option Operand):Option (Nat×Nat×Operand):=
  match x,lo,hi,mx with
  | .c (.bs key n),none,some h,none=>some (key,n,h)
  | .c (.bx key n),none,some h,none=>some (key,n,h)
  |_,_,_,_=>none
def c2j (P:Program) (el:TypeId) (ps:List (Nat×V)):Bool:=
  (match P.underlying el with|some (.slice e)=>a0d P e|_=>false)&& !ps.isEmpty&&ps.all fun p=>match p.2 with| .c (.v (.slice none 0 0))=>true|_=>false
def d38 (P:Program) (kt:TypeId) (kd:D):List (D×C)→Option (Option C)
  | []=>some none
  | (k',c)::r=>match eqD P kt kd k',d38 P kt kd r with
    |some e,some p=>some (bif e then some c else p)
    |_,_=>none
def b8n:V→C
  | .c c=>c
  |_=> .u
def b3b {R:Type} (P:Program) (kb d:Nat) (st:St) (e:Operand→V) (T:TypeId) (x:Operand) (lo hi mx:Option Operand) (k:St→Option R):Option R:=
  match d37 (e x) lo hi mx with
  | some (key,n,h)=>(match e h with
    | .c (.i _ j)=>bif (a0h P T).isSome&&decide (0≤j)&&decide (j≤n)&&decide (n≤a0c) then k (st.put (some d) (.c (.bx key j.toNat))) else none
    |_=>none)
  |none=>match d36 st (e x) lo hi mx with
  | some (key,h)=>(match get st.mem key,e h,a0h P T with
    |some (.row el true nl xs),.c (.i _ n),some el'=>bif Nat.beq el el'&&decide (0≤n)&&decide (n≤xs.length) then
        k ((a0o (kb+d) (.row el true nl (xs.take n.toNat)) {st with mem:=del st.mem key}).put (some d) (.c (.o (kb+d)))) else none
    |_,_,_=>none)
  | none=>match mx with
    | none=>(match c2h P T (b52 (a0w st.mem (a3l (e x))) (e x)) (lo.map e) (hi.map e) with
      |some (c,v)=>bif c then k (St.put {st with mem:=a0w st.mem (a3l (e x))} (some d) v) else none
      |none=>none)
    | some m=>match hi with
      |none=>none
      | some h=>bif b5c h&&b5c m&&lo.isNone then (match P.underlying T,b52 (a0w st.mem (a3l (e x))) (e x) with
          |some (.slice e'),.c (.sl el n _)=>bif Nat.beq el e'&&tyB P el then k (St.put {st with mem:=a0w st.mem (a3l (e x))} (some d) (.c (.z el n))) else none
          |_,_=>none)
        else (match c6l P T (b52 (a0w st.mem (a3l (e x))) (e x)) (lo.map e) (e h) (e m) with
          |some (c,v)=>bif c then k (St.put {st with mem:=a0w st.mem (a3l (e x))} (some d) v) else none
          |none=>none)
def e3F (P:Program) (f:FuncId) (caps:List (Nat×Nat)) (args:List V):Option C:=
  match P.funcs[f]? with
  | some g=>bif g.body.isNone&&caps.isEmpty&&(g.origin== "") then (match args with
    | [.c (.s l),.c (.i .u8 b)]=>
      bif g.name== "internal/bytealg.IndexByteString" then some (.i .i64 (Lib.indexByte l b.toNat.toUInt8))
      else bif g.name== "internal/bytealg.CountString" then some (.i .i64 (Lib.countByte l b.toNat.toUInt8:Nat)) else none
    |_=>none) else none
  |none=>none
def c91 {R:Type} (P:Program) (kt vt:TypeId) (kd:D) (z:V) (k:V→Bool→Option R):List (D×D)→Option R
  | []=>k z false
  |(k',v)::r=>bif eqB P kt kd k' then k (a1L P vt v) true else c91 P kt vt kd z k r
def d39 {R:Type} (n:Int) (k:Nat→D→Option R):Nat→List D→Option R
  |_,[]=>none
  |j,x::r=>bif n==(j:Int) then k j x else d39 n k (j+1) r
def c4J {R:Type} (P:Program) (st:St) (d:Nat) (T:TypeId) (x i:V) (k:St→Option R):Option R:=
  match i,P.underlying T,x with
  | .c (.i _ n),some (.slice e'),.c (.sl e _ xs)=>bif Nat.beq e e'&&tyB P e then d39 n (fun _ y=>k (st.put (some d) (.c (.el e y 0)))) 0 xs else none
  | .c (.i _ n),some (.slice e'),.c (.o key)=>(match get st.mem key with
    |some (.row e _ _ xs)=>bif Nat.beq e e'&&tyB P e then d39 n (fun j _=>k (st.put (some d) (.c (.re key e j 0)))) 0 xs else none
    |_=>none)
  | .c (.i _ n),some (.slice e'),.c (.bs key m)=>bif Nat.beq (a0a P e') 1&&tyB P e'&&inB n m then k (st.put (some d) (.c (.p key n.toNat))) else none
  |_,_,_=>none
def c92 (P:Program) (T:TypeId):Bool:=
  match P.underlying T with
  | some (.struct fs)=>(match fs[0]? with
    |some f=>Nat.beq f.offset 0&&(match P.underlying f.type with|some (.pointer T')=>Nat.beq T T'|_=>false)
    |none=>false)
  |_=>false
def a5x (P:Program) (key:Nat) (T:TypeId) (z:List C):List C:=
  bif c92 P T&&Nat.beq z.length (a0a P T) then (match z with
    | .v (.pointer none)::r=> .ba key T::r
    |_=>z) else z
def e0p {R : Type} (P :Program) (cl:a0i) (kb:Nat) (o:Oper) (st:St) (k:St→Option R):Option R:=
  let e:=evu st
  match o.op,o.dst with
  | .alloc T,some d=>bif d33 P T then (match a2U P T with
    |some z=>k ((a0o (kb+d) (.dat T z) st).put (some d) (.c (.p (kb+d) 0)))
    |none=>none) else (match b4V P T with
    |some z=>k ((a0o (kb+d) (.box (a5x P (kb+d) T z)) st).put (some d) (.c (.p (kb+d) 0)))
    |none=>none)
  | .box T x,some d=>bif d33 P T then (match asD P (a0w st.mem (a3l (e x))) T (e0H P T (e x)) with
    |some z=>k ((a0o (kb+d) (.dat T z) {st with mem:=a0w st.mem (a3l (e x))}).put (some d) (.c (.p (kb+d) 0)))
    |none=>none) else (match a1O P T (e x) with
    |some cs=>k ((a0o (kb+d) (.box (cs.map (inval (kb+d)))) st).put (some d) (.c (.p (kb+d) 0)))
    |none=>none)
  | .store T a x,dst=>(match c6g P (a0w st.mem (bif c6o st.mem (e a) then a3l (e x) else [])) T (e a) (e x) with
    |some (c,mem)=>bif c then k (St.put {st with mem} dst (.c .u)) else none
    |none=>none)
  | .buildSlice T n parts,some d=>(match a0h P T with
    | some el=>
      let ps:=parts.toList.map fun (i,x)=>(i,e x)
      let mem:=a0w st.mem (ps.flatMap fun p=>a3l p.2)
      (match (bif c2j P el ps then none else a2U P el) with
      | some z=>(match b5f P mem el (List.replicate n z) ps with
        |some ds=>bif decide (n*a0a P el≤16777216) then k ((a0o (kb+d) (.row el true false ds) {st with mem}).put (some d) (.c (.o (kb+d)))) else none
        | none=>(match ps with
          | [(0,.g cs)]=>(match c90 P mem el cs with
            |some (q,key,dd)=>bif Nat.beq n 1&&a0d P el&&Nat.beq cs.length (a0a P el)&&Nat.ble (a0a P el) 16777216 then
                k ((a0o (kb+d) (.krow el 0 q (inval (kb+d) (.kp key)) [dd]) {st with mem}).put (some d) (.c (.o (kb+d)))) else none
            |none=>none)
          |_=>none))
      | none=>match b4V P el with
        | some [z]=>(match a8J (List.replicate n z) ps with
          |some cs=>bif Nat.beq (a0a P el) 1&&Nat.blt 0 n&&decide (n≤16777216) then k ((a0o (kb+d) (.box (cs.map (inval (kb+d)))) st).put (some d) (.c (.bs (kb+d) n))) else none
          |none=>none)
        |_=>none)
    |none=>none)
  | .makeSlice T l c,some d=>(match a0h P T,e l,e c with
    | some el,.c (.i .i64 n),.c (.i .i64 m)=>(match a2U P el with
      |some z=>bif decide (0≤n)&&decide (n≤m)&&a0V P el m.toNat then
          k ((a0o (kb+d) (.row el true false (List.replicate n.toNat z)) st).put (some d) (.c (.o (kb+d)))) else none
      |none=>none)
    |_,_,_=>none)
  | .slice T x lo hi mx,some d=>b3b P kb d st e T x lo hi mx k
  | .convert s t x,some d=>(match P.underlying s,a0h P t,e x with
    |some .string,some el,.c (.s l)=>bif b4W P el&&Nat.ble l.length a0c then
        k ((a0o (kb+d) (.row el true false (a0T l)) st).put (some d) (.c (.o (kb+d)))) else none
    | some (.slice _),some el,.c (.o key)=>(match get st.mem key with
      |some (.row el' true false _)=>bif Nat.beq s t&&Nat.beq el el'&&b4W P el then k (st.put (some d) (.c (.o key))) else none
      |_=>none)
    |_,_,_=>none)
  | .makeMap T none,some d=>(match P.underlying T with
    |some (.map kt vt)=>k ((a0o (kb+d) (.map kt vt []) st).put (some d) (.c (.m (kb+d))))
    |_=>none)
  | .mapUpdate T m key x,dst=>(match e m,P.underlying T with
    | .c (.m mk),some (.map kt' _)=>(match get st.mem mk with
      | some (.map kt vt es)=>bif Nat.beq kt kt' then (match asD P st.mem kt (e key),asD P st.mem vt (e x) with
        | some kd,some vd=>(match eqD P kt kd kd with
          |some _=>k (St.put {st with mem:=set st.mem mk (.map kt vt (c6n P kt kd vd es))} dst (.c .u))
          |none=>none)
        |_,_=>none) else none
      |_=>none)
    |_,_=>none)
  | .insert T m key x,dst=>(match e m,P.underlying T with
    | .c (.m mk),some (.map kt' _)=>(match get st.mem mk with
      | some (.map kt vt es)=>bif Nat.beq kt kt' then (match asD P st.mem kt (e key),asD P st.mem vt (e x) with
        | some kd,some vd=>(match eqD P kt kd kd with
          |some _=>k (St.put {st with mem:=set st.mem mk (.map kt vt (c6n P kt kd vd es))} dst (.c .u))
          |none=>none)
        | some kd,none=>(match eqD P kt kd kd,es with
          |some _,[]=>bif a1F (b8n (e x)) then k (St.put {st with mem:=set st.mem mk (.tab kt vt [(kd,b8n (e x))])} dst (.c .u)) else none
          |_,_=>none)
        |_,_=>none) else none
      | some (.tab kt vt es)=>bif Nat.beq kt kt' then (match asD P st.mem kt (e key) with
        | some kd=>(match eqD P kt kd kd with
          | some _=>(match d38 P kt kd es with
            |some none=>bif a1F (b8n (e x)) then k (St.put {st with mem:=set st.mem mk (.tab kt vt (es++[(kd,b8n (e x))]))} dst (.c .u)) else none
            |_=>none)
          |none=>none)
        |none=>none) else none
      |_=>none)
    |_,_=>none)
  | .lookup T x key true,some d=>bif b51 P T then (match e x,P.underlying T with
    | .c (.m mk),some (.map kt' vt')=>(match get st.mem mk with
      | some (.map kt vt es)=>bif Nat.beq kt kt'&&Nat.beq vt vt' then (match asD P st.mem kt (e key),a4K P vt with
        | some kd,some z=>(match eqD P kt kd kd with
          |some _=>c91 P kt vt kd z (fun y b=>k (st.put (some d) (.t [y,.c (.k b)]))) es
          |none=>none)
        |_,_=>none) else none
      | some (.tab kt vt es)=>bif Nat.beq kt kt'&&Nat.beq vt vt' then (match asD P st.mem kt (e key),a4K P vt with
        | some kd,some z=>(match eqD P kt kd kd with
          | some _=>(match d38 P kt kd es with
            |some (some c)=>k (st.put (some d) (.t [.c c,.c (.k true)]))
            |some none=>k (st.put (some d) (.t [z,.c (.k false)]))
            |none=>none)
          |none=>none)
        |_,_=>none) else none
      |_=>none)
    |_,_=>none) else none
  | .indexAddr T x i,some d=>bif b27 P T then c4J P st d T (e x) (e i) k else none
  | .call c, dst => (match c.callee with
    | .builtin .append=>(match dst,c.args.toList,c.argTypes.toList with
      | some d, [s, x],[T,T']=>bif !Nat.beq T T' then (match a0h P T,P.underlying T',e s,e x with
        | some el,some (.int _),.c (.sl _ true []),.c (.i _ n)=>(match a2U P el with
          |some z=>bif decide (0≤n)&&a0V P el n.toNat then k ((a0o (kb+d) (.row el true (Nat.beq n.toNat 0) (List.replicate n.toNat z)) st).put (some d) (.c (.o (kb+d)))) else none
          |none=>none)
        | some el,some (.int _),.c (.o key),.c (.i _ n)=>(match get st.mem key,a2U P el with
          |some (.row el' ex false xs),some z=>bif Nat.beq el el'&&decide (0≤n)&&a0V P el (xs.length+n.toNat) then
              k ((a0o (kb+d) (.row el ex false (xs++List.replicate n.toNat z)) {st with mem:=del st.mem key}).put (some d) (.c (.o (kb+d)))) else none
          |_,_=>none)
        | some el,some .string,.c (.o key),.c (.s l)=>(match get st.mem key,a2U P el with
          |some (.row el' ex nl xs),some _=>bif Nat.beq el el'&&b4W P el&&a0V P el (xs.length+l.length) then
              k ((a0o (kb+d) (.row el ex (l.isEmpty&&nl) (xs++a0T l)) {st with mem:=del st.mem key}).put (some d) (.c (.o (kb+d)))) else none
          |_,_=>none)
        | some el,some .string,.c (.sl _ true []),.c (.s l)=>(match a2U P el with
          |some _=>bif b4W P el&&a0V P el l.length then
              k ((a0o (kb+d) (.row el true l.isEmpty (a0T l)) st).put (some d) (.c (.o (kb+d)))) else none
          |none=>none)
        |_,_,_,_=>none) else (match a0h P T,e s,e x with
        | some el,.c (.bs k1 n),.c (.bs k2 m)=>(match get st.mem k1,get st.mem k2 with
          |some (.box c1),some (.box c2)=>bif (a2U P el).isSome&&Nat.beq (a0a P el) 1&&Nat.blt 0 n&&Nat.blt 0 m&&Nat.ble n c1.length&&Nat.ble m c2.length&&a0V P el (n+m)&&a2l (c1.take n++c2.take m) then
              k ((a0o (kb+d) (.box ((c1.take n++c2.take m).map (inval (kb+d)))) st).put (some d) (.c (.bx (kb+d) (n+m)))) else none
          |_,_=>none)
        | some el, _, _=>bif (a2U P el).isNone then none else (match e0G st.mem el (e x) with
          | some ys=>(match e s with
            | .c (.o key)=>(match get st.mem key with
              |some (.row el' ex nl xs)=>bif Nat.beq el el'&&a0V P el (xs.length+ys.length) then
                  k ((a0o (kb+d) (.row el ex (ys.isEmpty&&nl) (xs++ys)) {st with mem:=del st.mem key}).put (some d) (.c (.o (kb+d)))) else none
              |some (.krow el' i q c xs)=>bif Nat.beq el el'&&a0V P el (xs.length+ys.length)&& !ys.isEmpty then
                  k ((a0o (kb+d) (.krow el i q (inval (kb+d) c) (xs++ys)) {st with mem:=del st.mem key}).put (some d) (.c (.o (kb+d)))) else none
              |_=>none)
            | .c (.sl _ true [])| .c (.v (.slice none 0 0))=>bif a0V P el ys.length then
                k ((a0o (kb+d) (.row el true ys.isEmpty ys) st).put (some d) (.c (.o (kb+d)))) else none
            | .c (.z el' n)=>bif Nat.beq el el'&&a0V P el ys.length then (bif ys.isEmpty then k (st.put (some d) (.c (.sl el n []))) else
                k ((a0o (kb+d) (.row el true false ys) st).put (some d) (.c (.o (kb+d))))) else none
            |_=>none)
          | none => (match e x with
            | .c (.o k2)=>(match get st.mem k2 with
              | some (.krow el2 0 q c [dd])=>(match e s with
                | .c (.o k1)=>(match get st.mem k1 with
                  |some (.row el1 true false xs)=>bif Nat.beq el el1&&Nat.beq el el2&&a0V P el (xs.length+1)&&a1F c then
                      k ((a0o (kb+d) (.krow el xs.length q (inval (kb+d) c) (xs++[dd])) {st with mem:=del (del st.mem k2) k1}).put (some d) (.c (.o (kb+d)))) else none
                  |some (.row _ true true _)=>bif Nat.beq el el2&&a0V P el 1&&a1F c then
                      k ((a0o (kb+d) (.krow el 0 q (inval (kb+d) c) [dd]) {st with mem:=del st.mem k2}).put (some d) (.c (.o (kb+d)))) else none
                  |_=>none)
                | .c (.sl _ true [])| .c (.v (.slice none 0 0))=>bif Nat.beq el el2&&a0V P el 1&&a1F c then
                    k ((a0o (kb+d) (.krow el 0 q (inval (kb+d) c) [dd]) {st with mem:=del st.mem k2}).put (some d) (.c (.o (kb+d)))) else none
                |_=>none)
              |_=>none)
            |_=>none))
        |none,_,_=>none)
      |_,_,_=>none)
    | .builtin .copy=>(match c.args.toList,c.argTypes.toList with
      | [x,y],[T,T']=>(match a0h P T,e x with
        | some el,.c (.o key)=>(match get st.mem key,b55 P st.mem el T' (e y) with
          |some (.row el' true false xs),some ys=>bif Nat.beq el el'&&Nat.beq (a0a P el) 1 then
              k (St.put {st with mem:=set st.mem key (.row el true false (ys.take xs.length++xs.drop ys.length))} dst (.c (.i .i64 (min2 ys.length xs.length)))) else none
          |_,_=>none)
        |_,_=>none)
      |_,_=>none)
    | .value f=>(match e f with
      | .c (.f fn caps)=>(match e3F P fn caps (c.args.toList.map e) with
        |some v=>k (st.put dst (.c v))
        |none=>b5e P cl kb (e3y fn caps) (c0E fn caps (c.args.toList.zipIdx.map (fun (x,i)=>match c.argTypes[i]? with|some T=>coe P T (e x)|none=>e x)) (caps.map fun x=> .c (.p x.1 x.2))) o st k)
      |_=>none)
    |_=>none)
  |_,_=>none
def a6j (ops:List Oper) (j:Nat):Option Nat:=(ops[j]?).bind (·.dst)
def c6p:Value→Bool
  | .tuple vs=>Nat.beq vs.size 0
  |_=>false
def c2k (st:St):Nat→Nat→Bool→Option Bool
  |0,_,_=>none
  | n +1,t,want=>match get st.tmps t with
    |some (.c (.k x))=>some (x==want)
    |some (.c (.b x))=>some (x==want)
    | some (.w s b y)=>(match toB y,c2k st n s b with
      |some z,some c=>some (c&&(z==want))
      |_,_=>none)
    |some (.c (.v v))=>bif c6p v then some false else none
    |_=>none
def known (st:St) (t:Nat) (want:Bool):Option Bool:=
  match get st.tmps t with
  |some (.c (.k x))=>some (x==want)
  |some (.c (.v v))=>bif c6p v then some false else none
  |_=>none
def opC {R:Type} (P:Program) (cl:a0i) (kb:Nat) (o:Oper) (st:St) (k:St→Option R):Option R:=
  bif a1P P o then match c4G P st.mem (evu st) (evw st) o with
    |some (c,x)=>bif c then k (st.put o.dst x) else none
    |none=>none
  else e0p P cl kb o st k
def c4K:V:= .c (.v (.tuple #[]))
def c6q (t:Nat) (x:Bool):V→V
  | .w s b y=>bif Nat.beq s t then (bif b==x then y else c4K) else .w s b y
  |y=>y
def b8o (t:Nat) (x:Bool) (st:St):St:={st with tmps:=set (b8m (c6q t x) st.tmps) t (.c (.k x))}
def b3c {R:Type}:Nat→Nat→Bool→St→(St→Option R)→(St→Option R)→Option R
  |0,_,_,_,_,_=>none
  | n+1,t,want,st,yes,no=>match get st.tmps t with
    |some (.c (.k x))=>bif x==want then yes st else no st
    |some (.c (.v v))=>bif c6p v then no st else none
    |some (.c (.b x))=>bif x then (bif want then yes (b8o t true st) else no (b8o t true st)) else (bif want then no (b8o t false st) else yes (b8o t false st))
    |some (.w s b _)=>b3c n s b st (fun st=>b3c n t want st yes no) no
    |_=>none
def evg (st:St) (t:Nat) (want:Bool) (x:Operand):V:=
  match ev st x with
  | .w s b y=>b5b t want (.w s b y)
  |y=>y
def e3G (st:St) (t:Nat) (want:Bool) (t':Nat) (w':Bool) (x:Operand):V:=
  match ev st x with
  | .w s b y=>bif Nat.beq s t'&&(b==w') then y else b5b t want (.w s b y)
  |y=>y
def b0g {R:Type} (P:Program) (cl:a0i) (kb:Nat) (ops:List Oper) (o:Oper) (st:St) (k:St→Option R):Option R:=
  match o.guard with
  |none=>opC P cl kb o st k
  | some (j,want)=>match a6j ops j with
    |none=>none
    | some t=>match known st t want with
      |some x=>bif x then opC P cl kb o st k else k (st.put o.dst c4K)
      | none=>bif a1P P o then
          (match c2k st 8 t want,c4G P st.mem (evg st t want) (e3G st t want) o with
          |some c,some (cond,x)=>bif (bif cond then true else !c) then k (st.put o.dst (.w t want x)) else none
          |_,_=>none)
        else b3c 8 t want st (fun st=>opC P cl kb o st k) (fun st=>k (st.put o.dst c4K))
def c2l {R:Type} (P:Program) (cl:a0i) (kb:Nat) (ops:List Oper):List Oper→St→(St→Option R)→Option R
  | [],st,k=>k {st with tmps:=b8m b4T st.tmps}
  |o::rest,st,k=>b0g P cl kb ops o st fun st'=>c2l P cl kb ops rest st' k
def c6r:List Operand→List Nat
  | []=>[]
  | .tmp t::r=>t::c6r r
  |_::r=>c6r r
def looks (ops:List Oper) (o:Oper):List Nat:=
  (match o.guard with|some (j,_)=>(match a6j ops j with|some t=>[t]|none=>[])|none=>[])++c6r o.op.operands.toList
def a13 {α:Type} (l:AL α):List Nat→AL α
  | []=>[]
  |k::r=>match get l k with|some x=>(k,x)::a13 l r|none=>a13 l r
def c2m (mem:AL Obj) (k:Nat):List Nat:=
  match get mem k with|some o=>a1g o|none=>[]
def b3d (mem:AL Obj) (deep:Bool):Nat→List Nat→List Nat→Option (List Nat)
  |0,_,_=>none
  |_+1,[],acc=>some acc
  |n+1,k::r,acc=>bif b0d k acc then b3d mem deep n r acc else b3d mem deep n (bif deep then c2m mem k++r else r) (k::acc)
def a8K (tmps:AL V):List Nat→List Nat
  | []=>[]
  |t::r=>(match get tmps t with|some x=>a6h x|none=>[])++a8K tmps r
def e3H (o:Oper):Bool:=
  match o.op with
  | .move _| .assign _| .field .. | .fieldAddr .. | .extract .. | .makeFunc .. | .nilCheck _| .pick .. | .build .. =>true
  |_=>false
def a6k (o:Oper) (tmps:AL V) (l:List Nat):List Nat:=bif e3H o then [] else a8K tmps l
def c6s (ops:List Oper) (o:Oper) (st:St) (ks:List Nat):St:=⟨a13 st.tmps (looks ops o),a13 st.mem ks⟩
def c2n (l:AL V) (d:Nat):Option V→AL V
  |some x=>set l d (b4T x)
  |none=>del l d
def b5g (sel:Nat→Bool):AL Obj→AL Obj→AL Obj
  | [],mem=>mem
  |(k,o)::r,mem=>bif sel k then set (b5g sel r mem) k o else b5g sel r mem
def c0B (P:Program) (kb:Nat) (o:Oper) (ks:List Nat) (k:Nat):Bool:=b0d k ks||a0v P kb o k
def a2n (P:Program) (kb:Nat) (o:Oper) (ks:List Nat) (st out:St):St:=
  { tmps:=match o.dst with|some d=>c2n st.tmps d (get out.tmps d)|none=>st.tmps
    mem:=bif a1P P o then st.mem else b5g (c0B P kb o ks) out.mem (c0A (fun k=> !c0B P kb o ks k) st.mem)}
structure Rec where
  o:Oper
  ks:List Nat
  out:St
def a3f {R:Type} (P:Program) (cl:a0i) (kb:Nat) (ops:List Oper) (o:Oper) (st:St) (k:St→Option R):Option R:=
  match o.guard with
  |none=>opC P cl kb o st k
  | some (j,want)=>match a6j ops j with
    |none=>none
    | some t=>match known st t want with
      |some x=>bif x then opC P cl kb o st k else k (st.put o.dst c4K)
      |none=>none
def a2C {R:Type} (gs:List Nat) (o:Oper) (out:St) (k:St→Option R):Option R:=
  match o.dst with
  | some d=>bif b0d d gs then (match get out.tmps d with
    |some (.c (.b x))=>bif x then k {out with tmps:=set out.tmps d (.c (.k true))} else k {out with tmps:=set out.tmps d (.c (.k false))}
    |_=>k out) else k out
  |none=>k out
def d49 {R:Type} (P:Program) (cl:a0i) (kb:Nat) (ops:List Oper) (gs:List Nat) (o:Oper) (st:St) (k:St→Rec→Option R):Option R:=
  match b3d st.mem (a0F o) 1000 (a6k o st.tmps (looks ops o)) [] with
  |none=>none
  |some ks=>a3f P cl kb ops o (c6s ops o st ks) fun out=>a2C gs o out fun out=>k (a2n P kb o ks st out) ⟨o,ks,out⟩
def a5y {R:Type} (P:Program) (cl:a0i) (kb:Nat) (ops:List Oper) (gs:List Nat):List Oper→St→List Rec→(St→List Rec→Option R)→Option R
  | [],st,recs,k=>k st recs
  |o::r,st,recs,k=>d49 P cl kb ops gs o st fun st' rec=>a5y P cl kb ops gs r st' (recs++[rec]) k
def b0h:List Edge→List Nat
  | []=>[]
  |e::r=>bif Region.binds .any e then e.on::b0h r else b0h r
def a4L (o:Oper):List Nat:=b0h o.after.toList
def c4L (xs:List Nat):List Nat→List Nat
  | []=>xs
  |y::r=>bif b0d y xs then c4L xs r else c4L (y::xs) r
def c2o (tab:List (List Nat)):List Nat→List Nat→List Nat
  | [],acc=>acc
  |d::r,acc=>c2o tab r (c4L (c4L acc [d]) (tab.getD d []))
def a4V:List Oper→List (List Nat)→List (List Nat)
  | [],tab=>tab
  |o::r,tab=>a4V r (tab++[c2o tab (a4L o) []])
def c4M:Nat→List Oper→Bool
  |_,[]=>true
  |i,o::r=>(a4L o).all (fun d=>Nat.blt d i)&&c4M (i+1) r
def b1W {α:Type} (f:Nat→α→Bool):Nat→List α→Bool
  |_,[]=>true
  |j,q::r=>f j q&&b1W f (j+1) r
def a8L {α:Type} (f:Nat→α→Nat→α→Bool):Nat→List α→Bool
  |_,[]=>true
  |i,p::r=>b1W (f i p) (i+1) r&&a8L f (i+1) r
def b56 (kb:Nat) (o:Oper):Nat:=bif a0F o then a0O kb o.dst else match o.dst with|some d=>kb+d|none=>0
def b57 (kb:Nat) (o:Oper):Nat:=bif a0F o then a0O kb o.dst+1000000000 else match o.dst with|some d=>kb+d+1|none=>0
def a2w (P:Program) (kb:Nat) (p q:Oper):Bool:=a1P P p||a1P P q||Nat.ble (b57 kb p) (b56 kb q)||Nat.ble (b57 kb q) (b56 kb p)
def b8p (d:Option Nat) (ts:List Nat):Bool:=
  match d with|some d=> !b0d d ts|none=>true
def b3e (ops:List Oper) (p q:Oper):Bool:=
  b8p p.dst (looks ops q)&&b8p q.dst (looks ops p)&&b8p p.dst q.dst.toList
def c93:List Nat→List Nat→Bool
  | [],_=>true
  |k::r,l=> !b0d k l&&c93 r l
def a2D (P:Program) (kb:Nat) (o:Oper):List Nat→Bool
  | []=>true
  |k::r=> !a0v P kb o k&&a2D P kb o r
def a6V:V→List Nat
  | .c x=>a1C x
  | .g xs=>xs.flatMap a1C
  |_=>[]
def a5z:V→List Nat
  | .c x=>a1C x
  | .g xs=>xs.flatMap a1C
  | .t xs=>xs.flatMap a6V
  | .w _ _ x=>a6V x
def b1X (P:Program) (kb:Nat) (o:Oper):AL Obj→Bool
  | []=>true
  |(_,ob)::r=>a2D P kb o (a1g ob)&&b1X P kb o r
def a14 (P:Program) (kb:Nat) (p:Rec) (q:Oper):Bool:=
  bif a1P P q then true else a2D P kb q p.ks&&
  (match p.o.dst with|some d=>(match get p.out.tmps d with|some x=>a2D P kb q (a5z (b4T x))|none=>true)|none=>true)&&(bif a1P P p.o then true else b1X P kb q p.out.mem)
def a7Q (P:Program) (kb:Nat) (p q:Rec):Bool:=
  bif a1P P p.o&&a1P P q.o then true else c93 p.ks q.ks&&a2D P kb p.o q.ks&&a14 P kb q p.o
def a6W (P:Program) (kb:Nat) (ops:List Oper):Bool:=
  c4M 0 ops&&a8L (fun i p j q=>a2w P kb p q&&(b0d i ((a4V ops []).getD j [])||b3e ops p q)) 0 ops
def a2V:AL Obj→Bool
  | []=>true
  |(_,o)::r=>b54 o&&a2V r
def b1Y:List Rec→Bool
  | []=>true
  |p::r=>a2V p.out.mem&&b1Y r
def c4N (P:Program) (kb:Nat) (ops:List Oper) (recs:List Rec):Bool:=
  a8L (fun i p j q=>a14 P kb p q.o&&(b0d i ((a4V ops []).getD j [])||a7Q P kb p q)) 0 recs&&b1Y recs
def a31 (ops:List Oper):List Oper→List Nat
  | []=>[]
  | o ::r=>(match o.guard with|some (j,_)=>(match a6j ops j with|some t=>[t]|none=>[])|none=>[])++
      (match o.op with| .pick (.tmp t) _ _=>[t]|_=>[])++a31 ops r
def c6t (q:Nat→Bool) (c:C):C:=bif (a1C c).any q then .u else c
def e0J (q:Nat→Bool):V→V
  | .c x=> .c (c6t q x)
  | .g xs=> .g (xs.map (c6t q))
  |_=> .c .u
def d5a (q:Nat→Bool):V→V
  | .c x=> .c (c6t q x)
  | .g xs=> .g (xs.map (c6t q))
  | .t xs=> .t (xs.map (e0J q))
  | .w _ _ _=> .c .u
def c55 (q:Nat→Bool):Obj→Obj
  | .box cs=> .box (cs.map (c6t q))
  | .tab kt vt es=> .tab kt vt (es.map fun x=>(x.1,c6t q x.2))
  | .krow e k j c xs=> .krow e k j (c6t q c) xs
  |x=>x
def a6X (P:Program) (kb:Nat):List Oper→Nat→Bool
  | [],_=>false
  |o::r,k=>a0v P kb o k||a6X P kb r k
def a4W (q:Nat→Bool) (st:St):St:=⟨b8m (d5a q) st.tmps,b8m (c55 q) (c0A (fun k=> !q k) st.mem)⟩
def c0K {R:Type} (P:Program) (cl:a0i) (kb:Nat) (ops:List Oper) (st:St) (k:St→Option R):Option R:=
  bif a6W P kb ops then a5y P cl kb ops (a31 ops ops) ops (a4W (a6X P kb ops) st) [] fun st recs=>bif c4N P kb ops recs then k st else none else none
def a1X:Code→Nat
  | .region id _ _=>id
  | .seq a _=>a1X a
  | .cond _ a _=>a1X a
  | .block _ b=>a1X b
  | .loop b=>a1X b
  |_=>0
def c4O:Code→Option Nat
  | .loop b=>some (3*a1X b)
  | .region id _ _=>some (3*id+1)
  | .cond _ a b=>some (3*(a1X a+1000*a1X b)+2)
  | .seq (.region id _ _) (.block _ _)=>some (3*(id+100000000)+1)
  | .seq (.region id _ true) (.cond _ _ _)=>some (3*(id+300000000)+1)
  | .rangeFunc _ _ a _=>some (3*(a1X a+200000000)+1)
  |_=>none
structure a6Y where
  loops:c6b:=[]
  regs:List (Nat×List Nat):=[]
  los:AL (St→Option (List (Bool×(Ex×St)))):=[]
  rows:Bool:=false
instance:Inhabited a6Y:=⟨{}⟩
def c6u:List (Nat×List Nat)→Nat→Option (List Nat)
  | [],_=>none
  |(i,h)::r,n=>bif Nat.beq i n then some h else c6u r n
def a3M (tmps:AL V):List Nat→List Nat
  | []=>[]
  |t::r=>bif Nat.ble 60000000 t then (match get tmps (t-60000000) with|some (.c (.o key))=>key::a3M tmps r|_=>a3M tmps r) else a3M tmps r
def c6v (mem:AL Obj) (ks:List Nat):V→V
  | .c (.o key)=>bif b0d key ks then b52 mem (.c (.o key)) else .c (.o key)
  |x=>x
def e25 (hs:a6Y) (id:Nat) (st:St):St:=
  match c6u hs.regs id with
  |none=>st
  | some ts=>match a3M st.tmps ts with
    | []=>{st with tmps:=c0A (fun t=>b0d t ts) st.tmps}
    |ks=>{tmps:=c0A (fun t=>b0d t ts) (b8m (c6v (a0w st.mem ks) ks) st.tmps),mem:=a0w st.mem ks}
def c2p:c6b→Nat→Option (List Nat×List Nat×List Nat)
  | [],_=>none
  |(i,h)::r,n=>bif Nat.beq i n then some h else c2p r n
def e26:C→C
  | .k x=> .b x
  |x=>x
def e5d:V→V
  | .c x=> .c (e26 x)
  | .g xs=> .g (xs.map e26)
  |x=>x
def d5b:Obj→Obj
  | .box xs=> .box (xs.map e26)
  |x=>x
def a3N (ts ks:List Nat) (st:St):St:={tmps:=b8m e5d (a13 st.tmps ts),mem:=b8m d5b (a13 st.mem ks)}
def c6w (o:Option Obj) (ix:Nat) (c:C):Obj:=match o with|some (.box cs)=> .box (cs.set ix c)|_=> .box []
def c0L (P:Program) (kb t key0 ix:Nat) (st:St):St:=
  match get st.mem key0 with
  | some (.box cs)=>(match cs[ix]? with
    | some (.o key)=>(match get st.mem key with
      | some (.row e ex nl xs)=>bif Nat.beq key (kb+t)||Nat.beq key0 key||Nat.beq key0 (kb+t) then st else
        {a0o (kb+t) (.row e ex nl xs) {st with mem:=del st.mem key} with mem:=set (a0o (kb+t) (.row e ex nl xs) {st with mem:=del st.mem key}).mem key0 (c6w (get (a0o (kb+t) (.row e ex nl xs) {st with mem:=del st.mem key}).mem key0) ix (.o (kb+t)))}
      |_=>st)
    |some (.sl e true [])=>bif Nat.beq (a0a P e) (kinds P e).length&& !Nat.beq key0 (kb+t) then
        {a0o (kb+t) (.row e true true []) st with mem:=set (a0o (kb+t) (.row e true true []) st).mem key0 (c6w (get (a0o (kb+t) (.row e true true []) st).mem key0) ix (.o (kb+t)))} else st
    |_=>st)
  |_=>st
def c0M (P:Program) (kb t:Nat) (st:St):St:=
  bif Nat.ble 50000000 t then c0L P kb t ((t-50000000)/1000) ((t-50000000)%1000) st else
  match get st.tmps t with
  | some (.c (.o key))=>(match get st.mem key with
    | some (.row e ex nl xs)=>bif Nat.beq key (kb+t) then st else
      {tmps:=set (a0o (kb+t) (.row e ex nl xs) {st with mem:=del st.mem key}).tmps t (.c (.o (kb+t))),mem:=(a0o (kb+t) (.row e ex nl xs) {st with mem:=del st.mem key}).mem}
    |_=>st)
  |some (.c (.sl e true []))=>bif Nat.beq (a0a P e) (kinds P e).length then
      {tmps:=set (a0o (kb+t) (.row e true true []) st).tmps t (.c (.o (kb+t))),mem:=(a0o (kb+t) (.row e true true []) st).mem} else st
  |_=>st
def b58 (P:Program) (kb:Nat):List Nat→St→St
  | [],st=>st
  |t::r,st=>b58 P kb r (c0M P kb t st)
def a3D (P:Program) (kb:Nat) (hs:c6b) (id:Nat) (st:St):St:=
  match c2p hs id with
  |none=>st
  |some (ts,ks,own)=>a3N ts ks (b58 P kb own st)
def a8M (hs:a6Y) (c:Code):Option (Nat×(St→Option (List (Bool×(Ex×St))))):=
  match c4O c with
  |none=>none
  | some id=>match get hs.los id with
    |some f=>some (id,f)
    |none=>none
def a5A (P:Program) (kb:Nat) (hs:a6Y) (c:Code) (st:St):Option (List (Bool×(Ex×St))):=
  match a8M hs c with
  |none=>none
  |some (id,f)=>f (a3D P kb hs.loops id st)
def a32 {R:Type} (P:Program) (cl:a0i) (hs:a6Y) (kb:Nat):Nat→Code→St→(Ex→St→Option R)→Option R
  |0,_,_,_=>none
  | n + 1,c,st,k=>match a5A P kb hs c st with
   |some alts=>a4v alts fun x=>k x.1 x.2
   | none =>match c with
    | .skip=>k .normal st
    | .label _=>k .normal st
    | .seq a b=>a32 P cl hs kb n a st fun e st=>match e with
      | .normal=>a32 P cl hs kb n b st k
      |e=>k e st
    | .cond c a b=>(match ev st c with
      | .c (.k x)=>bif x then a32 P cl hs kb n a st k else a32 P cl hs kb n b st k
      | .c (.b x)=>(match c with
        | .tmp t=>bif x then a32 P cl hs kb n a {st with tmps:=set st.tmps t (.c (.k true))} k else a32 P cl hs kb n b {st with tmps:=set st.tmps t (.c (.k false))} k
        |_=>none)
      |_=>none)
    | .block id b=>a32 P cl hs kb n b st fun e st=>match e with
      | .exit i=>bif Nat.beq i id then k .normal st else k (.exit i) st
      |e=>k e st
    | .loop b=>a32 P cl hs kb n b (a3D P kb hs.loops (3*a1X b) st) fun e st=>match e with
        | .normal=>(match a8M hs (.loop b) with
          |none=>a32 P cl hs kb n (.loop b) (a3D P kb hs.loops (3*a1X b) st) k
          |some _=>none)
        |e=>k e st
    | .exit id=>k (.exit id) st
    | .ret=>k .ret st
    | .region id ops false=>c2l P cl kb ops.toList ops.toList (e25 hs id st) (k .normal)
    | .region id ops true=>c0K P cl kb ops.toList (e25 hs id st) (k .normal)
    |_=>none
def params:Nat→List V→AL V
  |_,[]=>[]
  |i,x::xs=>(i,x)::params (i+1) xs
def a2W (P:Program) (st:St):List ResultVar→Option (List V)
  | []=>some []
  | .tmp t::r=>(match a2W P st r with|some xs=>some (evu st (.tmp t)::xs)|none=>none)
  | .cell a T::r=>(match c9V P st.mem T (evu st (.tmp a)),a2W P st r with|some (true,x),some xs=>some (x::xs)|_,_=>none)
def b5h (mem:AL Obj):Nat→Nat→List Ref
  |0,_=>[]
  |n+1,i=>(match get mem i with|some _=>[⟨i,0,none⟩]|none=>[])++b5h mem n (i+1)
def b3f (P:Program):List TypeId→List V→List V
  |T::ts,x::xs=>coe P T x::b3f P ts xs
  |_,xs=>xs
def b5i (P:Program) (fn:Func) (own:Bool) (kb:Nat) (st:St):Option Res:=
  match a2W P st fn.results.toList with
  |none=>none
  | some rs=>
    let mem:=bif own then st.mem else a0w st.mem (rs.flatMap a3l)
    let rs:=b3f P fn.resultTypes.toList (bif own then rs else rs.map (b52 mem))
    match a37 mem 300 (b5h mem kb 0++rs.flatMap (d47 P none)) [] with
    |none=>none
    |some acc=>bif rs.all b04 then some (rs,c0A (fun x=>acc.any fun r=>Nat.beq r.key x) mem) else none
def body (P:Program) (cl:a0i) (hs:a6Y) (n:Nat) (f:FuncId) (args:List V) (mem:AL Obj):Option Res:=
  match P.funcs[f]? with
  |none=>none
  | some fn=>match fn.body with
    |none=>none
    | some c=>a32 P cl hs mem.length n c {tmps:=params 0 args,mem} fun e st=>match e with
      | .exit _=>none
      |_=>b5i P fn hs.rows mem.length st
abbrev e27:=FuncId→a6Y
def call (P:Program) (hb:e27):Nat→a0i
  |0=>fun _ _ _=>none
  |n+1=>fun f args mem=>(body P (call P hb n) (hb f) n f args mem).map fun r=>[(true,r)]
theorem cond_true {α:Type} {c:Bool} {x y:α} (h:c=true):(bif c then x else y)=x:=by subst h;rfl
theorem cond_false {α:Type} {c:Bool} {x y:α} (h:c=false):(bif c then x else y)=y:=by subst h;rfl
theorem a0k {m n:Nat}:Nat.beq m n=decide (m=n):=by
  by_cases h:m=n
  ·subst h;simp
  · rw [decide_eq_false h];cases hb:Nat.beq m n with
    |false=>rfl
    |true=>exact absurd (e56 hb) h
theorem a1Q {α:Type} (l:AL α) (n m:Nat) (x:α):get (set l n x) m=if m=n then some x else get l m:=by
  induction l with
  | nil => simp only [set,get,a0k];by_cases h:m=n
           ·subst h;simp
           ·simp [h,Ne.symm h]
  | cons e r ih=>
    obtain ⟨k,v⟩:=e;simp only [set,a0k];by_cases hk:k=n
    · subst hk
      simp only [decide_true,cond_true,get,a0k];by_cases h:m=k
      ·subst h;simp
      ·simp [h,Ne.symm h]
    · simp only [decide_eq_false hk,cond_false]
      cases Nat.ble n k with
      | true=>
        simp only [cond_true,get,a0k];by_cases h:m=n
        ·subst h;simp
        ·simp [h,Ne.symm h]
      | false=>
        simp only [cond_false,get,a0k,ih];by_cases h:m=n
        ·subst h;simp [hk]
        ·simp [h]
theorem a1c {α β:Type} (h:α→β) (l:AL α) (n:Nat):get (b8m h l) n=(get l n).map h:=by
  induction l with
  |nil=>rfl
  | cons e r ih=>
    obtain ⟨k,v⟩:=e;simp only [b8m,get,a0k,ih];by_cases hk:k=n<;>simp [hk]
theorem a71 {α:Type} (l:AL α) (n m:Nat):get (del l n) m=if m=n then none else get l m:=by
  induction l with
  |nil=>simp [del,get]
  | cons e r ih=>
    obtain ⟨k,v⟩:=e;simp only [del,a0k];by_cases hk:k=n
    · subst hk
      simp only [decide_true,cond_true,ih,get,a0k];by_cases h:m=k
      ·subst h;simp
      ·simp [h,Ne.symm h]
    · simp only [decide_eq_false hk,cond_false,get,a0k,ih]
      by_cases h:m=n
      ·subst h;simp [hk]
      ·simp [h]
theorem b1Z {α:Type} (p:Nat→Bool) (l:AL α) (n:Nat) (x:α) (h:get (c0A p l) n=some x):get l n=some x:=by
  induction l with
  |nil=>exact h
  | cons e r ih =>
    obtain ⟨k,v⟩:=e;simp only [c0A] at h;cases hp:p k with
    | true=>
      simp only [hp,cond_true,get,a0k] at h⊢;by_cases hk:k=n
      ·simpa [hk] using h
      ·simp only [decide_eq_false hk,cond_false] at h⊢;exact ih h
    | false =>
      simp only [hp,cond_false] at h;have h2:=ih h
      -- a kept key further on: the first entry has another key or the same
      simp only [get,a0k];by_cases hk:k=n
      · exfalso
        subst hk;exact absurd h (by
          clear h2 ih;intro h;have:∀(l:AL α),get (c0A p l) k=none:=by
            intro l;induction l with
            |nil=>rfl
            | cons e l ih=>
              obtain ⟨k',v'⟩:=e;simp only [c0A];cases hp':p k' with
              | true=>
                simp only [cond_true,get,a0k];by_cases hkk:k'=k
                ·subst hkk;rw [hp] at hp';cases hp'
                ·simp only [decide_eq_false hkk,cond_false];exact ih
              |false=>simp only [cond_false];exact ih
          rw [this] at h;cases h)
      ·simp only [decide_eq_false hk,cond_false];exact h2
def All2 {α β:Type} (R:α→β→Prop):List α→List β→Prop
  | [],[]=>True
  |x::xs,y::ys=>R x y∧All2 R xs ys
  |_,_=>False
section
variable {α β:Type} {R R':α→β→Prop}
theorem All2.length:∀{xs:List α} {ys:List β},All2 R xs ys→xs.length=ys.length
  | [],[],_=>rfl
  |_::_,_::_,h=>by simp [All2.length h.2]
  | [],_::_,h=>h.elim
  |_::_,[],h=>h.elim
theorem All2.mono {xs:List α} (hr:∀x y,x∈xs→R x y→R' x y):∀{ys:List β},All2 R xs ys→All2 R' xs ys:=by
  induction xs with
  | nil=>intro ys h;cases ys with
    |nil=>trivial
    |cons=>exact h.elim
  | cons x xs ih=>intro ys h;cases ys with
    |nil=>exact h.elim
    |cons y ys=>exact ⟨hr x y (by simp) h.1,ih (fun a b ha=>hr a b (by simp [ha])) h.2⟩
theorem All2.get:∀{xs:List α} {ys:List β},All2 R xs ys→ ∀{j:Nat} {x:α},xs[j]? =some x→ ∃y,ys[j]? =some y∧R x y
  | [],[],_,j,x,hx=>by simp at hx
  |x::xs,y::ys,h,0,_,hx=>by simp at hx;subst hx;exact ⟨y,by simp,h.1⟩
  |x::xs,y::ys,h,j+1,_,hx=>by simp at hx;obtain ⟨z,h1,h2⟩:=All2.get h.2 hx;exact ⟨z,by simpa using h1,h2⟩
  | [],_::_,h,_,_,_=>h.elim
  |_::_,[],h,_,_,_=>h.elim
theorem All2.of_get:∀{xs:List α} {ys:List β},xs.length=ys.length→(∀(j:Nat) (x:α) (y:β),xs[j]? =some x→ys[j]? =some y→R x y)→All2 R xs ys
  | [],[],_,_=>trivial
  |x::xs,y::ys,hl,h=>⟨h 0 x y (by simp) (by simp),All2.of_get (by simpa using hl) fun j a b ha hb=>h (j+1) a b (by simpa using ha) (by simpa using hb)⟩
  | [],_::_,hl,_=>by simp at hl
  |_::_,[],hl,_=>by simp at hl
theorem All2.get2 {xs:List α} {ys:List β} (h:All2 R xs ys) {j:Nat} {x:α} {y:β} (hx:xs[j]? =some x) (hy:ys[j]? =some y):R x y:=by
  obtain ⟨z,h1,h2⟩:=h.get hx;rw [hy] at h1;cases h1;exact h2
theorem All2.drop {xs:List α} {ys:List β} (h:All2 R xs ys) (n:Nat):All2 R (xs.drop n) (ys.drop n):=
  .of_get (by simp [h.length]) fun j x y hx hy=>h.get2 (j:=n+j) (by simpa using hx) (by simpa using hy)
theorem All2.take {xs:List α} {ys:List β} (h:All2 R xs ys) (n:Nat):All2 R (xs.take n) (ys.take n):=
  .of_get (by simp [h.length]) fun j x y hx hy=>by
    rw [List.getElem?_take] at hx hy;split at hx
    ·rename_i hj;rw [if_pos hj] at hy;exact h.get2 hx hy
    ·cases hx
theorem All2.append {xs xs':List α} {ys ys':List β} (h:All2 R xs ys) (h':All2 R xs' ys'):All2 R (xs++xs') (ys++ys'):=by
  induction xs generalizing ys with
  | nil=>cases ys with
    |nil=>exact h'
    |cons=>exact h.elim
  | cons x xs ih=>cases ys with
    |nil=>exact h.elim
    |cons y ys=>exact ⟨h.1,ih h.2⟩
theorem All2.map {γ δ:Type} {R2:γ→δ→Prop} {f:α→γ} {g:β→δ} {xs:List α} {ys:List β} (h:All2 R xs ys) (hf:∀x y,x∈xs→R x y→R2 (f x) (g y)):All2 R2 (xs.map f) (ys.map g):=by
  induction xs generalizing ys with
  | nil=>cases ys with
    |nil=>trivial
    |cons=>exact h.elim
  | cons x xs ih=>cases ys with
    |nil=>exact h.elim
    |cons y ys=>exact ⟨hf x y (by simp) h.1,ih h.2 fun a b ha=>hf a b (by simp [ha])⟩
theorem All2.mapl {γ:Type} {R2:γ→β→Prop} {f:α→γ} {xs:List α} {ys:List β} (h:All2 R xs ys) (hf:∀x y,x∈xs→R x y→R2 (f x) y):All2 R2 (xs.map f) ys:=by
  have:=All2.map (R2:=R2) (f:=f) (g:=id) h hf;simpa using this
end
abbrev a0A:=Nat→Nat→Prop
def elD (P:Program) (e:TypeId) (d:D) (j:Nat):D:=bif a0d P e then d.cell j else d
def a0y (w:World) (S:a0A) (w':World) (S':a0A):Prop:=∀b o v,S b o→w.cell? ⟨b,o,none⟩=some v→S' b o∧w'.cell? ⟨b,o,none⟩=some v
def fnV (d:D):Value:=bif d.toB then .nilFunc else .func (.func d.toI.toNat) #[] #[]
theorem b3g (d:D):(fnV d).cells= #[fnV d]:=by unfold fnV;cases d.toB<;>rfl
inductive a1D (P:Program) (w:World) (S:a0A):CK→D→Value→Prop
  |int (k:IntKind) (d:D):a1D P w S (.int k) d (.int k d.toI)
  |bool (d:D):a1D P w S .bool d (.bool d.toB)
  |str (d:D):a1D P w S .str d (.string ⟨d.toS.toArray⟩)
  |oth (d:D):a1D P w S .oth d (fnV d)
  |nil (e:TypeId) (d:D) (h1:d.isNil=true) (h2:d.items=[]):a1D P w S (.sl e) d (.slice none 0 0)
  |emp (e:TypeId) (d:D) (a:Addr) (cap:Nat) (h1:d.isNil=false) (h2:d.items=[]) (hm:cap≤maxLen):a1D P w S (.sl e) d (.slice (some a) 0 cap)
  |sl (e:TypeId) (d:D) (b off cap:Nat) (cv:Nat→Nat→Value) (h1:d.isNil=false) (h2:a0a P e=(kinds P e).length) (hl:d.items.length≤cap) (hm:cap≤maxLen)
      (h3:∀i,i<d.items.length→ ∀j,j<(kinds P e).length→S b (off+i*a0a P e+j)∧w.cell? ⟨b,off+i*a0a P e+j,none⟩=some (cv i j))
      (h4:∀i,i<d.items.length→ ∀(j:Nat) (k:CK),(kinds P e)[j]? =some k→a1D P w S k (elD P e (d.items.getD i (.i 0)) j) (cv i j)):
      a1D P w S (.sl e) d (.slice (some ⟨b,off,none⟩) d.items.length cap)
theorem a1D.mono {P:Program} {w w':World} {S S':a0A} (h:a0y w S w' S') {k:CK} {d:D} {v:Value} (hr:a1D P w S k d v):a1D P w' S' k d v:=by
  induction hr with
  |int k d=>exact .int k d
  |bool d=>exact .bool d
  |str d=>exact .str d
  |oth d=>exact .oth d
  |nil e d h1 h2=>exact .nil e d h1 h2
  |emp e d a cap h1 h2 hm=>exact .emp e d a cap h1 h2 hm
  | sl e d b off cap cv h1 h2 hl hm h3 _ ih=>
    exact .sl e d b off cap cv h1 h2 hl hm (fun i hi j hj=>let ⟨a,c⟩:=h3 i hi j hj;h _ _ _ a c) ih
def e0K (P:Program) (w:World) (S:a0A) (e:TypeId) (d:D) (b o:Nat):Prop:=
  a0a P e=(kinds P e).length∧ ∀(j:Nat) (k:CK),(kinds P e)[j]? =some k→ ∃cv,S b (o+j)∧w.cell? ⟨b,o+j,none⟩=some cv∧a1D P w S k (elD P e d j) cv
theorem e0K.mono {P:Program} {w w':World} {S S':a0A} (h:a0y w S w' S') {e:TypeId} {d:D} {b o:Nat} (hr:e0K P w S e d b o):e0K P w' S' e d b o:=
  ⟨hr.1,fun j k hk=>let ⟨cv,h1,h2,h3⟩:=hr.2 j k hk;⟨cv,(h _ _ _ h1 h2).1,(h _ _ _ h1 h2).2,h3.mono h⟩⟩
structure a1J where
  blk:Nat
  base:Nat
  head:Option (Nat×Nat):=none
def a1J.hdr (s:a1J):Value:=match s.head with|none=> .slice none 0 0|some (n,c)=> .slice (some ⟨s.blk,0,none⟩) n c
abbrev Env:=Nat→a1J
structure a6l where
  f:Env
  D:List Deferred:=[]
instance:CoeFun a6l (fun _=>Env):=⟨a6l.f⟩
instance:Coe Env a6l:=⟨fun e=>{f:=e}⟩
def b1D (env:Env) (x:Nat×Nat):Value:= .pointer (some ⟨(env x.1).blk,(env x.1).base+x.2,none⟩)
def fnW (b:Bool) (fn:Nat) (vs:List Value):Value:=bif b then .func (.func (fn-bm)) vs.toArray #[] else .func (.func fn) #[] vs.toArray
def a0j (P:Program) (env:Env) (S:a0A) (w:World):C→Value→Prop
  | .u,_=>True
  | .i k n,v=>v= .int k n
  | .b x,v=>v= .bool x
  | .k x,v=>v= .bool x
  | .s l,v=>v= .string ⟨l.toArray⟩
  | .sl e n xs,v=>a1D P w S (.sl e) (.l n xs) v
  | .v x,v=>v=x
  | .p key off,v=>v= .pointer (some ⟨(env key).blk,(env key).base+off,none⟩)
  | .el e d off,v=>∃b o,v= .pointer (some ⟨b,o+off,none⟩)∧e0K P w S e d b o
  | .re key e ix off,v=>v= .pointer (some ⟨(env key).blk,ix*a0a P e+off,none⟩)
  | .pi key base len esz ix off,v=>ix<len∧0<esz∧v= .pointer (some ⟨(env key).blk,(env key).base+(base+ix*esz)+off,none⟩)
  | .o key,v=>v=(env key).hdr
  | .m key,v=>v= .map (some (env key).blk)
  | .bs key n,v=>v= .slice (some ⟨(env key).blk,(env key).base,none⟩) n n
  | .kp key,v=>v=(env key).hdr
  | .bx key n,v=>∃cap,n≤cap∧cap≤maxLen∧v= .slice (some ⟨(env key).blk,(env key).base,none⟩) n cap
  | .y key,v=>v= .func (.yield (env key).blk) #[] #[]
  | .ba key _,v=>v= .pointer none∨v= .pointer (some ⟨(env key).blk,(env key).base,none⟩)
  | .ifc n,v=>(n=true∧v= .nilIface)∨(n=false∧ ∃t p,v= .iface t p)
  | .z _ n,v=>(n=true∧v= .slice none 0 0)∨(n=false∧ ∃a,v= .slice (some a) 0 0)
  | .f fn caps,v=>v=fnW (a1K fn caps) fn (caps.map (b1D env))
def a4q (P:Program) (env:Env) (S:a0A) (w:World):V→Value→Prop
  | .c x,v=>a0j P env S w x v
  | .g xs,v=>∃vs:Array Value,v= .agg vs∧All2 (a0j P env S w) xs vs.toList
  |_,_=>False
def a0s (P:Program) (env:Env) (S:a0A) (w:World):V→Value→Prop
  | .c x,v=>a0j P env S w x v
  | .g xs,v=>∃vs:Array Value,v= .agg vs∧All2 (a0j P env S w) xs vs.toList
  | .t xs,v=>∃vs:Array Value,v= .tuple vs∧All2 (a4q P env S w) xs vs.toList
  | .w _ _ _,_=>False
def a01 (a:Act) (s:Nat) (want:Bool):Prop:=a.tmps[s]? =some (.bool want)
def a0l (P:Program) (env:Env) (S:a0A) (w:World) (a:Act):V→Value→Prop
  | .w s want y,v=>(a01 a s want→a0s P env S w y v)∧(¬a01 a s want→v=undef)
  |x,v=>a0s P env S w x v
theorem a0l.of {P:Program} {env:Env} {S:a0A} {w:World} {a:Act} {x:V} {v:Value} (h:a0s P env S w x v):a0l P env S w a x v:=by
  cases x<;>first|exact h|exact h.elim
def a2X:C→List Nat
  | .p k _=>[k]
  | .re k _ _ _=>[k]
  | .pi k _ _ _ _ _=>[k]
  | .o k=>[k]
  | .m k=>[k]
  | .bs k _=>[k]
  | .bx k _=>[k]
  | .kp k=>[k]
  | .y k=>[k]
  | .ba k _=>[k]
  | .f _ caps=>caps.map (·.1)
  |_=>[]
section
variable {P:Program} {env env':Env} {S S':a0A} {w w':World}
theorem a0j.mono (h:a0y w S w' S') {x:C} {v:Value} (hk:∀k∈a2X x,env' k=env k) (hr:a0j P env S w x v):a0j P env' S' w' x v:=by
  cases x with
  |sl e n xs=>exact a1D.mono h hr
  |el e d off=>obtain ⟨b,o,h1,h2⟩:=hr;exact ⟨b,o,h1,h2.mono h⟩
  |p k o=>simp only [a0j] at hr⊢;rw [hk k (by simp [a2X])];exact hr
  |re k e a b=>simp only [a0j] at hr⊢;rw [hk k (by simp [a2X])];exact hr
  |pi k b l e i o=>simp only [a0j] at hr⊢;rw [hk k (by simp [a2X])];exact hr
  |o k=>simp only [a0j] at hr⊢;rw [hk k (by simp [a2X])];exact hr
  |m k=>simp only [a0j] at hr⊢;rw [hk k (by simp [a2X])];exact hr
  |bs k n=>simp only [a0j] at hr⊢;rw [hk k (by simp [a2X])];exact hr
  |bx k n=>simp only [a0j] at hr⊢;rw [hk k (by simp [a2X])];exact hr
  |kp k=>simp only [a0j] at hr⊢;rw [hk k (by simp [a2X])];exact hr
  |y k=>simp only [a0j] at hr⊢;rw [hk k (by simp [a2X])];exact hr
  |ba k T=>simp only [a0j] at hr⊢;rw [hk k (by simp [a2X])];exact hr
  | f fn caps=>
    simp only [a0j] at hr⊢;rw [hr];congr 1
    refine List.map_congr_left fun x hx=> ?_
    simp only [b1D];rw [hk x.1 (by simp only [a2X];exact List.mem_map_of_mem hx)]
  |_=>exact hr
theorem c0N (key:Nat) (x:C):∀k∈a2X (inval key x),k≠key:=by
  intro k hk;have one:∀(k0:Nat) (y:C),a2X y=[k0]→k∈a2X (bif Nat.beq k0 key then C.u else y)→k≠key:=by
    intro k0 y hy h;rw [a0k] at h;by_cases hne:k0=key
    ·rw [cond_true (by simpa using hne)] at h;simp [a2X] at h
    ·rw [cond_false (by simpa using hne),hy] at h;simp at h;omega
  cases x with
  |p k0 o=>exact one k0 _ rfl hk
  |re k0 e a b=>exact one k0 _ rfl hk
  |pi k0 b l e i o=>exact one k0 _ rfl hk
  |o k0=>exact one k0 _ rfl hk
  |m k0=>exact one k0 _ rfl hk
  |bs k0 n=>exact one k0 _ rfl hk
  |bx k0 n=>exact one k0 _ rfl hk
  |kp k0=>exact one k0 _ rfl hk
  |y k0=>exact one k0 _ rfl hk
  |ba k0 T=>exact one k0 _ rfl hk
  | f fn caps=>
    simp only [inval] at hk;cases hc:caps.any (fun x=>Nat.beq x.1 key) with
    |true=>rw [hc] at hk;simp [a2X] at hk
    | false=>
      rw [hc] at hk;simp only [cond_false,a2X,List.mem_map] at hk;obtain ⟨x,hx,rfl⟩:=hk;intro he;rw [List.any_eq_false] at hc;exact hc x hx (by rw [a0k];simpa using he)
  |_=>simp [inval,a2X] at hk
theorem a0j.inval (h:a0y w S w' S') (key:Nat) (he:∀k,k≠key→env' k=env k) {x:C} {v:Value} (hr:a0j P env S w x v):a0j P env' S' w' (inval key x) v:=by
  have one:∀(c:Bool) (y:C),a0j P env S w y v→a0j P env S w (bif c then .u else y) v:=fun c y hy=>by cases c<;>first|trivial|exact hy
  have h1:a0j P env S w (AM.inval key x) v:=by
    cases x<;>simp only [AM.inval]<;>first|exact one _ _ hr|exact hr
  exact a0j.mono h (fun k hk=>he k (c0N key x k hk)) h1
theorem a4q.mono (h:a0y w S w' S') (hk:∀k,env' k=env k) {x:V} {v:Value} (hr:a4q P env S w x v):a4q P env' S' w' x v:=by
  cases x with
  |c x=>exact a0j.mono h (fun k _=>hk k) hr
  |g xs=>obtain ⟨vs,h1,h2⟩:=hr;exact ⟨vs,h1,h2.mono fun x y _=>a0j.mono h fun k _=>hk k⟩
  |_=>exact hr.elim
theorem a0s.mono (h:a0y w S w' S') (hk:∀k,env' k=env k) {x:V} {v:Value} (hr:a0s P env S w x v):a0s P env' S' w' x v:=by
  cases x with
  |c x=>exact a0j.mono h (fun k _=>hk k) hr
  |g xs=>obtain ⟨vs,h1,h2⟩:=hr;exact ⟨vs,h1,h2.mono fun x y _=>a0j.mono h fun k _=>hk k⟩
  |t xs=>obtain ⟨vs,h1,h2⟩:=hr;exact ⟨vs,h1,h2.mono fun x y _=>a4q.mono h hk⟩
  |w _ _ _=>exact hr.elim
theorem a4q.inval (h:a0y w S w' S') (key:Nat) (he:∀k,k≠key→env' k=env k) {x:V} {v:Value} (hr:a4q P env S w x v):a4q P env' S' w' (inval1 key x) v:=by
  cases x with
  |c x=>exact a0j.inval h key he hr
  |g xs=>obtain ⟨vs,h1,h2⟩:=hr;exact ⟨vs,h1,h2.mapl fun x y _=>a0j.inval h key he⟩
  |_=>exact hr.elim
theorem a0s.inval1 (h:a0y w S w' S') (key:Nat) (he:∀k,k≠key→env' k=env k) {x:V} {v:Value} (hr:a0s P env S w x v):a0s P env' S' w' (inval1 key x) v:=by
  cases x with
  |c x=>exact a0j.inval h key he hr
  |g xs=>obtain ⟨vs,h1,h2⟩:=hr;exact ⟨vs,h1,h2.mapl fun x y _=>a0j.inval h key he⟩
  |t xs=>trivial
  |w _ _ _=>exact hr.elim
theorem a0l.inval {a:Act} (h:a0y w S w' S') (key:Nat) (he:∀k,k≠key→env' k=env k) {x:V} {v:Value} (hr:a0l P env S w a x v):a0l P env' S' w' a (c2f key x) v:=by
  cases x with
  |c x=>exact a0j.inval h key he hr
  |g xs=>obtain ⟨vs,h1,h2⟩:=hr;exact ⟨vs,h1,h2.mapl fun x y _=>a0j.inval h key he⟩
  |t xs=>obtain ⟨vs,h1,h2⟩:=hr;exact ⟨vs,h1,h2.mapl fun x y _=>a4q.inval h key he⟩
  |w s b x=>exact ⟨fun hy=>a0s.inval1 h key he (hr.1 hy),hr.2⟩
theorem a0l.mono {a:Act} (h:a0y w S w' S') (hk:∀k,env' k=env k) {x:V} {v:Value} (hr:a0l P env S w a x v):a0l P env' S' w' a x v:=by
  cases x with
  |w s b x=>exact ⟨fun hy=>a0s.mono h hk (hr.1 hy),hr.2⟩
  |c x=>exact a0s.mono h hk (x:= .c x) hr
  |g xs=>exact a0s.mono h hk (x:= .g xs) hr
  |t xs=>exact a0s.mono h hk (x:= .t xs) hr
end
def d4a (fr:Nat×Nat) (n:Nat):Prop:=fr=(0,0)∨n≤fr.1
def a72 (w:World) (b:Nat) (cur:Array Value) (e:TypeId):Prop:=∃fr,d4a fr cur.size∧w.heap[b]? =some (.cells cur e fr)
theorem a72.of {w:World} {b:Nat} {cur:Array Value} {e:TypeId} (h:w.heap[b]? =some (.cells cur e (0,0))):a72 w b cur e:=⟨_,.inl rfl,h⟩
theorem a72.lt {w:World} {b:Nat} {cur:Array Value} {e:TypeId} (h:a72 w b cur e):b<w.heap.size:=by
  obtain ⟨_,_,h⟩:=h;exact (e6f.1 h).1
def a0N:Obj→Prop
  | .row _ _ nl _=>nl=false
  |_=>True
def a3B (P:Program) (s:a1J):Obj→Nat→Nat→Prop
  | .box cs,b,o=>b=s.blk∧s.base≤o∧o<s.base+cs.length
  | .row e ex nl xs,b,o=>nl=false∧b=s.blk∧(ex=true∨xs.length*a0a P e≤o)
  | .map _ _ _,b,_=>b=s.blk
  | .tab _ _ _,b,_=>b=s.blk
  | .dat _ _,b,_=>b=s.blk
  | .krow _ _ _ _ _,b,_=>b=s.blk
section
variable (P:Program) (env:Env) (S:a0A) (w:World)
def EqK (kt:TypeId) (x y:D):Prop:=∀k,eqD P kt k x=eqD P kt k y
def c6x (kt vt:TypeId) (x:D×D) (e:MapEntry):Prop:=(∃kd,a0s P env S w (a1L P kt kd) e.key∧EqK P kt x.1 kd)∧a0s P env S w (a1L P vt x.2) e.val
def e3I (kt:TypeId) (x:D×C) (e:MapEntry):Prop:=(∃kd,a0s P env S w (a1L P kt kd) e.key∧EqK P kt x.1 kd)∧a0j P env S w x.2 e.val
def a4w (P:Program) (T:TypeId) (n:Nat):C→Prop
  | .ba _ T'=>T'=T∧n=a0a P T
  |_=>True
def a0x (s:a1J):Obj→Prop
  | .box cs=>∃cur T,w.heap[s.blk]? =some (.cells cur T (0,0))∧s.base+cs.length≤cur.size∧All2 (a0j P env S w) cs ((cur.toList.drop s.base).take cs.length)∧ ∀c∈cs,a4w P T cur.size c
  | .row e _ nl xs=>a0a P e=(kinds P e).length∧((nl=true∧xs=[]∧s.hdr= .slice none 0 0)∨
      (nl=false∧s.base=0∧ ∃cap cur,s.hdr= .slice (some ⟨s.blk,0,none⟩) xs.length cap∧a72 w s.blk cur e∧xs.length≤cap∧cap≤maxLen∧cur.size=cap*a0a P e∧
        ∀(i:Nat) (j:Nat) (k:CK),i<xs.length→(kinds P e)[j]? =some k→ ∃u,cur[i*a0a P e+j]? =some u∧a1D P w S k (elD P e (xs.getD i (.i 0)) j) u))
  | .map kt vt es=>∃ents clock,w.heap[s.blk]? =some (.map ents clock)∧All2 (c6x P env S w kt vt) es ents.toList
  | .tab kt vt es=>∃ents clock,w.heap[s.blk]? =some (.map ents clock)∧All2 (e3I P env S w kt) es ents.toList
  | .dat T d=>s.base=0∧ ∃cur E,w.heap[s.blk]? =some (.cells cur E (0,0))∧(kinds P T).length≤cur.size∧ ∀(j:Nat) (k:CK),(kinds P T)[j]? =some k→ ∃u,cur[j]? =some u∧a1D P w S k (d.cell j) u
  | .krow e k q c xs=>a0a P e=(kinds P e).length∧s.base=0∧k<xs.length∧q<(kinds P e).length∧ ∃cap cur,s.hdr= .slice (some ⟨s.blk,0,none⟩) xs.length cap∧a72 w s.blk cur e∧xs.length≤cap∧cap≤maxLen∧cur.size=cap*a0a P e∧
      (∃u,cur[k*a0a P e+q]? =some u∧a0j P env S w c u)∧
      ∀(i:Nat) (j:Nat) (t:CK),i<xs.length→(kinds P e)[j]? =some t→ ¬(i=k∧j=q)→ ∃u,cur[i*a0a P e+j]? =some u∧a1D P w S t (elD P e (xs.getD i (.i 0)) j) u
end
theorem c2q {P:Program} {T:TypeId} {n:Nat} {b:Bool} {c:C} (h:a4w P T n c):a4w P T n (bif b then .u else c):=by
  cases b with
  |true=>trivial
  |false=>exact h
theorem a4X {P:Program} {T:TypeId} {n key:Nat} {c:C} (h:a4w P T n c):a4w P T n (inval key c):=by
  cases c<;>simp only [inval]<;>first|exact c2q h|exact h
theorem c2r {P:Program} {T:TypeId} {n:Nat} {v:Value}:a4w P T n (ofC v):=by cases v<;>trivial
theorem c6y {P:Program} {T:TypeId} {n:Nat} {k:CK} {c:C} (h:a4w P T n c):a4w P T n (d34 k c):=by
  unfold d34
  repeat' split
  all_goals first|trivial|exact h
theorem b0i {P:Program} {T:TypeId} {n:Nat}:∀{ks:List CK} {cs:List C},(∀c∈cs,a4w P T n c)→ ∀c∈a3C ks cs,a4w P T n c
  | [],cs,h,c,hc=>by
    have:a3C [] cs=cs:=by cases cs<;>rfl
    rw [this] at hc;exact h c hc
  |_::_,[],h,c,hc=>h c hc
  | k::ks,x::xs,h,c,hc=>by
    rcases e6k.1 (show c∈d34 k x::a3C ks xs from hc) with rfl|hc
    ·exact c6y (h x (by simp))
    ·exact b0i (fun c hc=>h c (by simp [hc])) c hc
theorem b0j {P:Program} {T:TypeId} {n:Nat} {c:C} (h:a1F c=true):a4w P T n c:=by cases c<;>first|trivial|cases h
theorem a3O {P:Program} {T:TypeId} {n:Nat} {f:C→C} (hf:∀c,a4w P T n c→a4w P T n (f c)) {cs:List C} (h:∀c∈cs,a4w P T n c):∀c∈cs.map f,a4w P T n c:=by
  intro c hc;obtain ⟨x,hx,rfl⟩:=List.mem_map.1 hc;exact hf x (h x hx)
theorem b3h {P:Program} {T:TypeId} {n off:Nat} {cs new:List C} (h:∀c∈cs,a4w P T n c) (h':∀c∈new,a4w P T n c):∀c∈a3k cs off new,a4w P T n c:=by
  intro c hc;unfold a3k at hc;simp only [List.mem_append] at hc;rcases hc with (hc|hc)|hc
  ·exact h c (List.mem_of_mem_take hc)
  ·exact h' c hc
  ·exact h c (List.mem_of_mem_drop hc)
theorem c6z {P:Program} {T:TypeId} {n:Nat} {b:Bool} {x y:C} (hx:a4w P T n x) (hy:a4w P T n y):a4w P T n (d46 b x y):=by
  unfold d46;split
  ·cases x<;>cases y<;>first|exact hx|exact hy|trivial
  · split
    ·exact hx
    ·exact hy
theorem b59 {P:Program} {T:TypeId} {n ix:Nat} {x:C} {cs:List C} (h:∀c∈cs,a4w P T n c) (hx:a4w P T n x):∀c∈cs.set ix x,a4w P T n c:=by
  intro c hc;rcases List.mem_or_eq_of_mem_set hc with hc|rfl
  ·exact h c hc
  ·exact hx
theorem b05 {P:Program} {T:TypeId} {n base esz ix:Nat} {x:C} (hx:a4w P T n x) {cs:List C} (h:∀c∈cs,a4w P T n c):∀{m j:Nat} {cs':List C},storeAt cs base esz ix x m j=some cs'→ ∀c∈cs',a4w P T n c
  |0,_,cs',he=>by cases he;exact h
  | m + 1,j,cs',he=>by
    unfold storeAt at he;split at he
    · rename_i cs1 h1
      split at he
      · rename_i y hy
        cases he;have h2:=b05 hx h h1;exact b59 h2 (c6z hx (h2 y (List.mem_of_getElem? hy)))
      ·cases he
    ·cases he
def Sof (P:Program) (B M0:a0A) (n0:Nat) (env:Env) (mem:AL Obj) (w:World):a0A:=fun b o=>
  (B b o∨n0≤b∨M0 b o)∧b<w.heap.size∧ ∀key ob,get mem key=some ob→ ¬a3B P (env key) ob b o
structure Chg (M:a0A) (w w':World):Prop where
  os:w'.os=w.os
  tape:w'.tape=w.tape
  output:w'.output=w.output
  size:w.heap.size≤w'.heap.size
  cells:∀b cur T fr,w.heap[b]? =some (.cells cur T fr)→ ∃(cur':Array Value) (fr':Nat×Nat),w'.heap[b]? =some (.cells cur' T fr')∧cur'.size=cur.size∧(∀o,¬M b o→cur'[o]? =cur[o]?)∧(fr'=fr∨ ∀o,M b o)
  other:∀b ob,w.heap[b]? =some ob→(∀o,¬M b o)→w'.heap[b]? =some ob
def mkD (b:Nat):Deferred:={target:= .collected b,args:= #[]}
def a1Y (n0:Nat) (w:World) (D ds:List Deferred):Prop:=∃ns:List Nat,ds=ns.map mkD++D∧(∀b∈ns,n0≤b∧w.heap[b]? =some (.deferred (some [])))∧ns.Nodup
theorem a1Y.nil {n0:Nat} {w:World} {D:List Deferred}:a1Y n0 w D D:=⟨[],rfl,by simp,by simp⟩
theorem a1Y.mono {n0:Nat} {w w':World} {D ds:List Deferred} (h:a1Y n0 w D ds) (hh:∀b,n0≤b→w.heap[b]? =some (.deferred (some []))→w'.heap[b]? =some (.deferred (some []))):a1Y n0 w' D ds:=by
  obtain ⟨ns,h1,h2,h3⟩:=h;exact ⟨ns,h1,fun b hb=>⟨(h2 b hb).1,hh b (h2 b hb).1 (h2 b hb).2⟩,h3⟩
theorem a1Y.join {n0:Nat} {w w':World} {D ds ds':List Deferred} (h:a1Y n0 w D ds) (h':a1Y w.heap.size w' ds ds') (hn:n0≤w.heap.size) (hh:∀b:Nat,w.heap[b]? =some (.deferred (some []))→w'.heap[b]? =some (.deferred (some []))):a1Y n0 w' D ds':=by
  obtain ⟨ns,rfl,h2,h3⟩:=h;obtain ⟨ms,rfl,g2,g3⟩:=h';refine ⟨ms++ns,by simp,fun b hb=> ?_,?_⟩
  · rcases List.mem_append.1 hb with hb|hb
    ·exact ⟨Nat.le_trans hn (g2 b hb).1,(g2 b hb).2⟩
    ·exact ⟨(h2 b hb).1,hh b (h2 b hb).2⟩
  · refine List.nodup_append.2 ⟨g3,h3,fun x hx y hy he=> ?_⟩
    subst he;have h4:=(g2 x hx).1;have h5:=(e6f.1 (h2 x hy).2).1;omega
theorem a1Y.grown {n0:Nat} {w w':World} {D ds:List Deferred} {row:Option Nat} (h:a1Y n0 w D ds) (hg:w.grownBy w' row) (hr:∀r:Nat,row=some r→ ∀d,w.heap[r]?≠some (.deferred d)):a1Y n0 w' D ds:=
  h.mono fun b _ hb=>by
    rw [hg.block b (e6f.1 hb).1 (fun e=>hr b e.symm _ hb)]
    exact hb
def e0L (v:Value):Prop:=∃n,v= .int .i64 n
def c6A (v:Value):Prop:=v= .nilIface∨ ∃t p,v= .iface t p
def d4b:List (String×List (Value→Prop)):=[
  ("internal/bytealg.MaxLen",[e0L]),
  ("internal/strconv.uint64pow10",(List.range 20).map fun i v=>v= .int .u64 ((10^i:Nat):Int)),
  ("strconv.ErrSyntax",[c6A]),
  ("strconv.ErrRange",[c6A])]
def GI (P:Program) (M:a0A) (w:World):Prop:=∀x∈d4b,∀g,P.globalNamed x.1=some g→(∀o,¬M g o)∧ ∃cur T fr,w.heap[g]? =some (.cells cur T fr)∧cur.size=x.2.length∧ ∀(o:Nat) p v,x.2[o]? =some p→cur[o]? =some v→p v
structure Rel (P:Program) (N n0:Nat) (B M0:a0A) (w0:World) (F:Nat→Prop) (e0:a6l) (env:Env) (st:St) (a:Act) (w:World):Prop where
  size:a.tmps.size=N
  dfr:a1Y n0 w e0.D a.defers
  hn0:n0=w0.heap.size
  tm:∀t x,get st.tmps t=some x→a0l P env (Sof P B M0 n0 env st.mem w) w a x (a.tmps.getD t undef)
  ob:∀key o,get st.mem key=some o→a0x P env (Sof P B M0 n0 env st.mem w) w (env key) o
  ds:∀k k' o o',get st.mem k=some o→get st.mem k'=some o'→a0N o→a0N o'→k≠k'→(env k).blk≠(env k').blk
  mu:∀key o b x,get st.mem key=some o→a3B P (env key) o b x→M0 b x∨n0≤b
  pr:∀key e ex xs,get st.mem key=some (.row e ex false xs)→ ∀o,o<xs.length*a0a P e→B (env key).blk o∨n0≤(env key).blk∨M0 (env key).blk o
  ch:Chg M0 w0 w
  bb:∀b o,B b o→b<n0
  fx:∀k,F k→env k=e0 k
  gi:GI P M0 w0
theorem Chg.refl (M:a0A) (w:World):Chg M w w:=⟨rfl,rfl,rfl,Nat.le_refl _,fun _ cur _ fr h=>⟨cur,fr,h,rfl,fun _ _=>rfl,.inl rfl⟩,fun _ _ h _=>h⟩
theorem Chg.trans {M M':a0A} {w w' w'':World} (h:Chg M w w') (h':Chg M' w' w'') (hm:∀b o,M' b o→M b o∨w.heap.size≤b):Chg M w w'':=by
  refine ⟨h'.os.trans h.os,h'.tape.trans h.tape,h'.output.trans h.output,Nat.le_trans h.size h'.size,?_,?_⟩
  · intro b cur T fr hb
    have hlt:b<w.heap.size:=(e6f.1 hb).1;obtain ⟨c1,fr1,h1,s1,e1,f1⟩:=h.cells b cur T fr hb;obtain ⟨c2,fr2,h2,s2,e2,f2⟩:=h'.cells b c1 T fr1 h1;have hall:(∀o,M' b o)→ ∀o,M b o:=fun hh o=>by
      rcases hm b o (hh o) with h3|h3
      ·exact h3
      ·omega
    refine ⟨c2,fr2,h2,s2.trans s1,fun o ho=> ?_,?_⟩
    · rw [e2 o (fun hm' => by rcases hm b o hm' with h3|h3
                              ·exact ho h3
                              ·omega),e1 o ho]
    · rcases f2 with f2|f2
      · rcases f1 with f1|f1
        ·exact .inl (f2.trans f1)
        ·exact .inr f1
      ·exact .inr (hall f2)
  · intro b ob hb hno
    have hlt:b<w.heap.size:=(e6f.1 hb).1;exact h'.other b ob (h.other b ob hb hno) fun o hm'=>by
      rcases hm b o hm' with h3|h3
      ·exact hno o h3
      ·omega
theorem a4Y {w:World} {b o:Nat} {v:Value} (h:w.cell? ⟨b,o,none⟩=some v):∃cur T fr,w.heap[b]? =some (.cells cur T fr)∧cur[o]? =some v:=by
  unfold World.cell? at h;cases hw:w.heap[b]? with
  |none=>simp only [hw] at h;cases h
  | some ob=>
    cases ob<;>simp only [hw] at h
    case cells cur T fr=>exact ⟨cur,T,fr,rfl,by simpa using h⟩
    all_goals cases h
theorem a2Y {w:World} {b o:Nat} {v:Value} {cur:Array Value} {T:TypeId} {fr:Nat×Nat} (h:w.heap[b]? =some (.cells cur T fr)) (hv:cur[o]? =some v):w.cell? ⟨b,o,none⟩=some v:=by
  unfold World.cell?;simp only [h];simpa using hv
theorem a72.cell {w:World} {b o:Nat} {v:Value} {cur:Array Value} {T:TypeId} (h:a72 w b cur T) (hv:cur[o]? =some v):w.cell? ⟨b,o,none⟩=some v:=by
  obtain ⟨_,_,h⟩:=h;exact a2Y h hv
theorem a72.same {w w':World} {b:Nat} {cur:Array Value} {T:TypeId} (h:a72 w b cur T) (hh:w'.heap[b]? =w.heap[b]?):a72 w' b cur T:=by
  obtain ⟨fr,h1,h2⟩:=h;exact ⟨fr,h1,by rw [hh];exact h2⟩
theorem Chg.cell {M:a0A} {w w':World} (h:Chg M w w') {b o:Nat} {v:Value} (hv:w.cell? ⟨b,o,none⟩=some v) (hm:¬M b o):w'.cell? ⟨b,o,none⟩=some v:=by
  obtain ⟨cur,T,fr,h1,h2⟩:=a4Y hv;obtain ⟨c',fr',h3,_,h4,_⟩:=h.cells b cur T fr h1;exact a2Y h3 (by rw [h4 o hm];exact h2)
theorem GI.step {P:Program} {M M':a0A} {w w':World} (h:GI P M w) (hc:Chg M w w') (hm:∀b o,M' b o→M b o∨w.heap.size≤b):GI P M' w':=by
  intro x hx g hg;obtain ⟨h1,cur,T,fr,h2,h3,h4⟩:=h x hx g hg;refine ⟨fun o h5=> ?_,cur,T,fr,hc.other g _ h2 h1,h3,h4⟩
  rcases hm g o h5 with h6|h6
  ·exact h1 o h6
  · have:=(e6f.1 h2).1
    omega
theorem d5c {w:World} {b o:Nat} {v:Value} (h:w.cell? ⟨b,o,none⟩=some v):b<w.heap.size:=by
  obtain ⟨_,_,_,h1,_⟩:=a4Y h;exact (e6f.1 h1).1
def a2E (w:World) (b o:Nat) (vs:List Value):Prop:=∀(j:Nat) (v:Value),vs[j]? =some v→w.cell? ⟨b,o+j,none⟩=some v
theorem a2E.drop {w:World} {b o:Nat} {vs:List Value} (h:a2E w b o vs) (n:Nat):a2E w b (o+n) (vs.drop n):=fun j v hv=>by
 have:=h (n+j) v (by simpa using hv)
 rwa [←Nat.add_assoc] at this
theorem a2E.take {w:World} {b o:Nat} {vs:List Value} (h:a2E w b o vs) (n:Nat):a2E w b o (vs.take n):=fun j v hv=>by
 rw [List.getElem?_take] at hv;split at hv
 ·exact h j v hv
 ·cases hv
theorem b3i {w:World} {b:Nat} {cur:Array Value} {T:TypeId} {fr:Nat×Nat} (h:w.heap[b]? =some (.cells cur T fr)) (base:Nat):a2E w b base (cur.toList.drop base):=fun j v hv=>
 a2Y h (by simpa using hv)
theorem a4x {P:Program} {T:TypeId} {d:TypeDesc} (h:P.underlying T=some d):∃i,P.info? T=some i:=by
 unfold Program.underlying at h;cases hi:P.info? T with
 |none=>simp [hi] at h
 |some i=>exact ⟨i,rfl⟩
theorem a5B {P:Program} {T:TypeId} (h:(P.info? T).isSome=true) (w:World):(sizeOf T).run P w= .ok (a0a P T) w:=by
 cases hi:P.info? T with
 |none=>simp [hi] at h
 |some i=>simp [sizeOf,typeInfo,hi,a0a]
theorem a6m {P:Program} {T:TypeId} (h:a0a P T≠0):(P.info? T).isSome=true:=by
 unfold a0a at h;cases hi:P.info? T with
 |none=>simp [hi] at h
 |some i=>rfl
theorem a0J {P:Program} {T:TypeId} (h:tyB P T=true) (w:World):(sizeOf T).run P w= .ok (a0a P T) w:=by
 unfold tyB at h;cases hu:P.underlying T with
 |none=>simp [hu] at h
 |some d=>
  obtain ⟨i,hi⟩:=a4x hu;simp [sizeOf,typeInfo,hi,a0a]
theorem c0O {P:Program} {T:TypeId} (h:a0d P T=true):tyB P T=true:=by
 unfold a0d at h;unfold tyB;cases hu:P.underlying T<;>simp [hu] at h⊢
theorem a6n {P:Program} {T:TypeId} (h:tyB P T=true) (w:World):(isAgg T).run P w= .ok (a0d P T) w:=by
 unfold tyB at h;cases hu:P.underlying T with
 |none=>simp [hu] at h
 |some d=>unfold isAgg;rw [e6b,run_underlying hu w];unfold a0d;rw [hu];cases d<;>rfl
theorem c6B {P:Program} {w:World} {a:Addr} {v:Value} (h:w.cell? a=some v):(load a).run P w= .ok v w:=by
 rw [run_load];simp [h]
theorem a6o {P:Program} {T:TypeId} {w:World} {b o:Nat} {vs:List Value} (ha:a0d P T=true) (hs:a0a P T=vs.length) (h:a2E w b o vs):
  (loadVar T ⟨b,o,none⟩).run P w= .ok (.agg vs.toArray) w:=by
 have hl:(loadCells ⟨b,o,none⟩ vs.length).run P w= .ok vs.toArray w:=
  run_loadCells_list (P:=P) w ⟨b,o,none⟩ vs fun j v hv=>by rw [Addr.add_lit];exact h j v hv
 unfold loadVar;simp only [e6b,a6n (c0O ha),e58,ha,if_true,a0J (c0O ha),hs,hl,e6c]
theorem a4c {P:Program} {T:TypeId} {w:World} {b o:Nat} {v:Value} (ha:a0d P T=false) (ht:tyB P T=true) (h:w.cell? ⟨b,o,none⟩=some v):
  (loadVar T ⟨b,o,none⟩).run P w= .ok v w:=by
 unfold loadVar;simp only [e6b,a6n ht,e58,ha,Bool.false_eq_true,if_false,c6B h]
theorem b8q {P:Program} {e:TypeId} (h:a0d P e=false):(kinds P e).length≤1:=by
 unfold kinds;unfold a0d at h;simp only [a00];cases hu:P.underlying e with
 |none=>simp
 |some d=>cases d<;>simp [hu] at h⊢
theorem getElem?_mkCs (d:D) (j0:Nat) (ks:List CK) (j:Nat):(d32 d j0 ks)[j]? =(ks[j]?).map fun k=>mkC k (d.cell (j0+j)):=by
 induction ks generalizing j0 j with
 |nil=>simp [d32]
 |cons k ks ih=>
  cases j with
  |zero=>simp [d32]
  |succ j=>simp only [d32,List.getElem?_cons_succ,ih];congr 2;funext k;congr 2;omega
theorem getElem?_elCells (P:Program) (e:TypeId) (d:D) (j:Nat):(a0E P e d)[j]? =((kinds P e)[j]?).map fun k=>mkC k (elD P e d j):=by
 unfold a0E elD;cases ha:a0d P e with
 |true=>simp only [cond_true];rw [getElem?_mkCs];simp
 | false=>
  simp only [cond_false];have h1:=b8q ha;cases hk:kinds P e with
  |nil=>simp
  |cons k r=>
   rw [hk] at h1;have:r=[]:=by cases r<;>simp at h1⊢
   subst this;cases j<;>simp
theorem a4M (P:Program) (e:TypeId) (d:D):(a0E P e d).length=(kinds P e).length:=by
 have h1:∀j:Nat,(a0E P e d)[j]? =none↔(kinds P e)[j]? =none:=fun j=>by rw [getElem?_elCells,Option.map_eq_none_iff]
 have h2:=(h1 (a0E P e d).length).1 (by simp)
 have h3:=(h1 (kinds P e).length).2 (by simp)
 simp at h2 h3;omega
section
variable {P:Program} {env:Env} {S:a0A} {w:World}
theorem a1D.congr {k:CK} {d d':D} {v:Value} (h:a1D P w S k d v) (h1:d.toI=d'.toI) (h2:d.toB=d'.toB) (h3:d.toS=d'.toS) (h4:d.isNil=d'.isNil) (h5:d.items=d'.items):a1D P w S k d' v:=by
 cases h with
 |int k d=>rw [h1];exact .int k d'
 |bool d=>rw [h2];exact .bool d'
 |str d=>rw [h3];exact .str d'
 |oth d=>rw [show fnV d=fnV d' by unfold fnV;rw [h1,h2]];exact .oth d'
 |nil e d a b=>exact .nil e d' (h4▸a) (h5▸b)
 |emp e d ad cap a b hm=>exact .emp e d' ad cap (h4▸a) (h5▸b) hm
 |sl e d b off cap cv a1 a2 a3 am a4 a5=>
  rw [h5] at a3 a4 a5⊢;exact .sl e d' b off cap cv (h4▸a1) a2 a3 am a4 a5
theorem a8N {k:CK} {d:D} {v:Value} (h:a1D P w S k d v):a0j P env S w (mkC k d) v:=by
 cases k with
 |int k=>cases h;rfl
 |bool=>cases h;rfl
 |str=>cases h;rfl
 |oth=>
  cases h;show a0j P env S w (bif d.toB then C.v .nilFunc else C.f d.toI.toNat []) (bif d.toB then .nilFunc else .func (.func d.toI.toNat) #[] #[])
  cases d.toB<;>rfl
 |sl e=>
  show a1D P w S (.sl e) (.l d.isNil d.items) v;cases h with
  |nil e d a b=>exact .nil e _ (by rw [a];rfl) (by rw [b];rfl)
  |emp e d ad cap a b hm=>exact .emp e _ ad cap (by rw [a];rfl) (by rw [b];rfl) hm
  |sl e d b off cap cv a1 a2 a3 am a4 a5=>exact .sl e (.l d.isNil d.items) b off cap cv (by rw [a1];rfl) a2 a3 am a4 a5
theorem b3j {e:TypeId} {d:D} {b o:Nat} (h:∀(j:Nat) (k:CK),(kinds P e)[j]? =some k→ ∃cv,w.cell? ⟨b,o+j,none⟩=some cv∧a1D P w S k (elD P e d j) cv):
  ∃us,a2E w b o us∧All2 (a0j P env S w) (a0E P e d) us:=by
 refine ⟨(List.range (kinds P e).length).map fun j=>(w.cell? ⟨b,o+j,none⟩).getD undef,?_,?_⟩
 ·intro j v hv
  rw [List.getElem?_map] at hv;by_cases hj:j<(kinds P e).length
  ·rw [List.getElem?_range hj] at hv
   simp only [e6r,e55] at hv;obtain ⟨cv,h1,_⟩:=h j _ (e6j hj);rw [h1] at hv⊢;exact congrArg some hv
  ·rw [List.getElem?_eq_none (by simpa using hj)] at hv;cases hv
 ·refine .of_get (by simp [a4M]) fun j x y hx hy=> ?_
  rw [getElem?_elCells] at hx;rw [List.getElem?_map] at hy;cases hk:(kinds P e)[j]? with
  |none=>rw [hk] at hx;cases hx
  |some k=>
   have hj:j<(kinds P e).length:=(e6h.1 hk).1;rw [hk] at hx;rw [List.getElem?_range hj] at hy;simp only [e6r,e55] at hx hy;obtain ⟨cv,h1,h2⟩:=h j k hk;rw [h1] at hy;simp only [Option.getD_some] at hy;subst hx hy;exact a8N h2
theorem a73 {T:TypeId} {cs:List C} {us:List Value} {off b o:Nat} {x:V} (h:c6e P T cs off=some x) (hr:All2 (a0j P env S w) cs us) (hc:a2E w b o us):
  ∃v,(loadVar T ⟨b,o+off,none⟩).run P w= .ok v w∧a0s P env S w x v:=by
 unfold c6e at h;cases ha:a0d P T with
 | true=>
  simp only [ha,cond_true] at h;cases hl:Nat.ble (off+a0a P T) cs.length with
  |false=>rw [hl] at h;cases h
  |true=>
   rw [hl] at h;simp only [cond_true,e55] at h;subst h;have hlen:=e6g hl;have:=hr.length;refine ⟨_,a6o (vs:=(us.drop off).take (a0a P T)) ha (by simp;omega) ((hc.drop off).take _),_,rfl,?_⟩
   simpa using (hr.drop off).take (a0a P T)
 | false=>
  simp only [ha,cond_false] at h;cases ht:tyB P T with
  |false=>rw [ht] at h;cases h
  | true=>
   rw [ht] at h;simp only [cond_true] at h;cases hx:cs[off]? with
   |none=>rw [hx] at h;cases h
   |some c=>
    rw [hx] at h;simp only [e55] at h;subst h;obtain ⟨u,hu,hcr⟩:=hr.get hx;exact ⟨u,a4c ha ht (hc off u hu),hcr⟩
theorem a4y {cs:List C} {us:List Value} (hr:All2 (a0j P env S w) cs us) {base esz ix:Nat}:∀{n j:Nat} {c:C},b01 cs base esz ix n j=some c→j≤ix→ix<j+n→
  ∃u,us[base+ix*esz]? =some u∧a0j P env S w c u
 |0,j,c,h,_,_=>by simp [b01] at h
 |1,j,c,h,h1,h2=>by
  have:ix=j:=by omega
  subst this;simp only [b01] at h;exact hr.get h
 | n + 2,j,c,h,h1,h2=>by
  simp only [b01] at h;cases hx:cs[base+j*esz]? with
  |none=>rw [hx] at h;cases h
  | some x=>
   cases hy:b01 cs base esz ix (n+1) (j+1) with
   |none=>rw [hx,hy] at h;cases h
   | some y=>
    rw [hx,hy] at h;simp only [e55] at h;subst h;unfold d46;cases hk:a4u x y with
    | false=>
     simp only;by_cases he:ix=j
     ·subst he
      obtain ⟨u,hu,hcr⟩:=hr.get hx;have:Nat.beq ix ix=true:=by simp
      rw [this];exact ⟨u,hu,hcr⟩
     ·have:Nat.beq ix j=false:=by rw [a0k];simpa using he
      rw [this];exact a4y hr hy (by omega) (by omega)
    | true=>
     simp only;by_cases he:ix=j
     ·subst he
      obtain ⟨u,hu,hcr⟩:=hr.get hx;refine ⟨u,hu,?_⟩;have:Nat.beq ix ix=true:=by simp
      rw [this]
      -- the other value does not matter
      cases x<;>cases y<;>simp only [a4u] at hk<;>try (cases hk;done)
      all_goals simpa [d45,a0j] using hcr
     ·obtain ⟨u,hu,hcr⟩:=a4y hr hy (by omega) (by omega)
      refine ⟨u,hu,?_⟩;have:Nat.beq ix j=false:=by rw [a0k];simpa using he
      rw [this];cases x<;>cases y<;>simp only [a4u] at hk<;>try (cases hk;done)
      all_goals first
       |(have hkk:=eq_of_beq hk;subst hkk;simpa [d45,a0j] using hcr)
       |simpa [d45,a0j] using hcr
end
section
variable {P:Program} {env:Env} {S:a0A} {w:World} {mem:AL Obj}
theorem b8r {s:a1J} {cs:List C} (h:a0x P env S w s (.box cs)):∃us,a2E w s.blk s.base us∧All2 (a0j P env S w) cs us:=by
  obtain ⟨cur,T,h1,h2,h3,_⟩:=h;exact ⟨_,(b3i h1 s.base).take _,h3⟩
theorem d4c {s:a1J} {e:TypeId} {ex nl:Bool} {xs:List D} (h:a0x P env S w s (.row e ex nl xs)) {ix:Nat} (hi:ix<xs.length):
    ∃us,a2E w s.blk (ix*a0a P e) us∧All2 (a0j P env S w) (a0E P e (xs.getD ix (.i 0))) us:=by
  obtain ⟨_,⟨_,rfl,_⟩|⟨_,_,cap,cur,_,h2,_,_,_,h6⟩⟩:=h
  ·simp at hi
  ·exact b3j fun j k hk=>let ⟨u,h7,h8⟩:=h6 ix j k hi hk;⟨u,h2.cell h7,h8⟩
theorem c94 {e:TypeId} {d:D} {b o:Nat} (h:e0K P w S e d b o):∃us,a2E w b o us∧All2 (a0j P env S w) (a0E P e d) us:=
  b3j fun j k hk=>let ⟨cv,_,h1,h2⟩:=h.2 j k hk;⟨cv,h1,h2⟩
theorem c2s {d:D} {s b:Nat}:∀{ks:List CK} {c o:Nat},(∀(j:Nat) (k:CK),ks[j]? =some k→ ∃u,w.cell? ⟨b,o+j,none⟩=some u∧a1D P w S k (d.cell (c+j+s)) u)→
    ∃us,a2E w b o us∧All2 (a0j P env S w) (e0D d c s ks) us
  | [],c,o,_=>⟨[],fun j v hv=>by simp at hv,trivial⟩
  | k ::ks,c,o,h=>by
    obtain ⟨u,h1,h2⟩:=h 0 k (by simp)
    obtain ⟨us,h3,h4⟩:=c2s (d:=d) (s:=s) (b:=b) (ks:=ks) (c:=c+1) (o:=o+1) fun j k' hk=>by
      obtain ⟨u',q1,q2⟩:=h (j+1) k' (by simpa using hk)
      exact ⟨u',by rw [show o+1+j=o+(j+1) by omega];exact q1,by rw [show c+1+j+s=c+(j+1)+s by omega];exact q2⟩
    refine ⟨u::us,fun j v hv=> ?_,a8N (by simpa using h2),h4⟩
    cases j with
    |zero=>simp at hv;subst hv;simpa using h1
    | succ j=>
      have:=h3 j v (by simpa using hv)
      rw [show o+(j+1)=o+1+j by omega];exact this
theorem b3k {d:D} {s:Nat}:∀{ks:List CK} {c:Nat},(e0D d c s ks).length=ks.length
  | [],_=>rfl
  |_::ks,c=>by simp [e0D,b3k (ks:=ks)]
theorem b3l {T:TypeId} {d:D} {c s b o:Nat} {ks:List CK} {x:V} (h:c9U P T d c s ks=some x) (hc:∀(j:Nat) (k:CK),ks[j]? =some k→ ∃u,w.cell? ⟨b,o+j,none⟩=some u∧a1D P w S k (d.cell (c+j+s)) u):
    ∃v,(loadVar T ⟨b,o,none⟩).run P w= .ok v w∧a0s P env S w x v:=by
  unfold c9U at h;cases ha:a0d P T with
  | true=>
    simp only [ha,cond_true] at h;cases hl:Nat.beq ks.length (a0a P T) with
    |false=>rw [hl] at h;cases h
    | true=>
      rw [hl] at h;simp only [cond_true,e55] at h;subst h;have hlen:=e56 hl;obtain ⟨us,h1,h2⟩:=c2s (env:=env) hc;have h3:=h2.length;rw [b3k] at h3;exact ⟨_,a6o (vs:=us) ha (by omega) h1,_,rfl,by simpa using h2⟩
  | false=>
    simp only [ha,cond_false] at h;cases ht:tyB P T with
    |false=>rw [ht] at h;cases h
    | true=>
      rw [ht] at h;simp only [cond_true] at h;split at h
      · rename_i k
        simp only [e55] at h;subst h;obtain ⟨u,h1,h2⟩:=hc 0 k (by simp)
        exact ⟨u,a4c ha ht (by simpa using h1),a8N (by simpa using h2)⟩
      ·cases h
theorem e0M {k k':CK} (h:eqK k k'=true):k=k':=by
  cases k<;>cases k'<;>simp only [eqK] at h<;>first|rfl|(have:=eq_of_beq h;subst this;rfl)|(have:=e56 h;subst this;rfl)|cases h
theorem c6C:∀{ks ks':List CK},e23 ks ks'=true→ks=ks'
  | [],[],_=>rfl
  | k::ks,k'::ks',h=>by
    simp only [e23,e57] at h;rw [e0M h.1,c6C h.2]
  | [],_::_,h=>by cases h
  |_::_,[],h=>by cases h
theorem b6a {T:TypeId} {o esz n:Nat} {ks:List CK}:∀{len i:Nat},d44 P T o esz n ks len=true→i<len→c0F P T (o+i*esz) n=ks
  |0,i,_,hi=>by omega
  | len+1,i,h,hi=>by
    simp only [d44,e57] at h;by_cases hil:i=len
    ·subst hil;exact c6C h.1
    ·exact b6a h.2 (by omega)
theorem b6b {T:TypeId} {o n j:Nat} {k:CK} (h:(c0F P T o n)[j]? =some k):(kinds P T)[o+j]? =some k∧j<n:=by
  unfold c0F at h;rw [List.getElem?_take] at h;split at h
  · rename_i hj
    rw [List.getElem?_drop] at h;exact ⟨h,hj⟩
  ·cases h
theorem b8s {s:a1J} {T:TypeId} {d:D} (h:a0x P env S w s (.dat T d)) {o n c s':Nat} (hcs:c+s'=o):∀(j:Nat) (k:CK),(c0F P T o n)[j]? =some k→ ∃u,w.cell? ⟨s.blk,o+j,none⟩=some u∧a1D P w S k (d.cell (c+j+s')) u:=by
  intro j k hk;obtain ⟨_,cur,E,h1,_,h2⟩:=h;obtain ⟨u,h3,h4⟩:=h2 _ k (b6b hk).1;exact ⟨u,a2Y h1 h3,by rw [show c+j+s'=o+j by omega];exact h4⟩
theorem a2h {x:Option V} {c:Bool} {y:V} (h:c54 x=some (c,y)):c=true∧x=some y:=by
  cases x with
  |none=>cases h
  |some v=>simp only [c54,e55,e6q] at h;exact ⟨h.1.symm,by rw [h.2]⟩
theorem b3m (hob:∀key o,get mem key=some o→a0x P env S w (env key) o) {T:TypeId} {x y:V} {vx:Value} (hx:a0s P env S w x vx) (h:c9V P mem T x=some (true,y)):
    ∃ad v,vx= .pointer (some ad)∧(loadVar T ad).run P w= .ok v w∧a0s P env S w y v:=by
  unfold c9V at h;split at h
  · rename_i key off
    split at h
    · rename_i cs hg
      obtain ⟨us,h1,h2⟩:=b8r (hob _ _ hg);obtain ⟨v,h3,h4⟩:=a73 (a2h h).2 h2 h1;exact ⟨_,v,hx,h3,h4⟩
    · rename_i T' d hg
      have hob':=hob _ _ hg;obtain ⟨v,h3,h4⟩:=b3l (env:=env) (b:=(env key).blk) (o:=off) (a2h h).2 (b8s hob' (by omega))
      refine ⟨_,v,hx,?_,h4⟩;rw [hob'.1,Nat.zero_add];exact h3
    ·cases h
  · rename_i e d off
    obtain ⟨b,o,rfl,hel⟩:=hx;obtain ⟨us,h1,h2⟩:=c94 (env:=env) hel;obtain ⟨v,h3,h4⟩:=a73 (a2h h).2 h2 h1;exact ⟨_,v,rfl,h3,h4⟩
  · rename_i key e ix off
    split at h
    · rename_i e' ex nl xs hg
      cases he:Nat.beq e e' with
      |false=>rw [he] at h;cases h
      | true=>
        have hee:=e56 he;subst hee;rw [he] at h;simp only [cond_true] at h;split at h
        · rename_i v hr
          simp only [e55,e6q,decide_eq_true_eq] at h;obtain ⟨hi,rfl⟩:=h;obtain ⟨us,h1,h2⟩:=d4c (hob _ _ hg) hi;obtain ⟨v,h3,h4⟩:=a73 hr h2 h1;exact ⟨_,v,hx,h3,h4⟩
        ·cases h
    ·cases h
  · rename_i key base len esz ix off
    split at h
    · rename_i cs hg
      cases ha:a0d P T|| !tyB P T with
      |true=>rw [ha] at h;cases h
      | false=>
        rw [ha] at h;simp only [cond_false] at h;simp only [Bool.or_eq_false_iff,Bool.not_eq_false'] at ha;split at h
        · rename_i c hc
          simp only [e55,e6q,true_and] at h;subst h;obtain ⟨us,h1,h2⟩:=b8r (hob _ _ hg);obtain ⟨hlt,_,rfl⟩:=hx;obtain ⟨u,h3,h4⟩:=a4y h2 hc (Nat.zero_le _) (by omega)
          refine ⟨_,u,rfl,a4c ha.1 ha.2 ?_,h4⟩;have:=h1 _ u h3
          rwa [show (env key).base+(base+off+ix*esz)=(env key).base+(base+ix*esz)+off by omega] at this
        ·cases h
    · rename_i T' d hg
      cases hu:d44 P T' (base+off) esz (a0a P T) (c0F P T' (base+off) (a0a P T)) len with
      |false=>rw [hu] at h;cases h
      | true=>
        rw [hu] at h;simp only [cond_true] at h;have hob':=hob _ _ hg;obtain ⟨hlt,_,rfl⟩:=hx;have hseg:=b6a hu hlt;obtain ⟨v,h3,h4⟩:=b3l (env:=env) (b:=(env key).blk) (o:=base+off+ix*esz) (a2h h).2 (by rw [←hseg];exact b8s hob' rfl)
        refine ⟨_,v,rfl,?_,h4⟩;rw [hob'.1,show 0+(base+ix*esz)+off=base+off+ix*esz by omega]
        exact h3
    ·cases h
  ·cases h
theorem b0k {k:CK} {x:C} {v:Value} (h:a0j P env S w x v):a0j P env S w (d34 k x) v:=by
  unfold d34;split
  · split
    · have hv:v= .slice none 0 0:=h
      subst hv;exact a1D.nil _ _ rfl rfl
    ·exact h
  ·exact h
theorem b8t (ks:List CK) (cs:List C):(a3C ks cs).length=cs.length:=by
  induction ks generalizing cs with
  |nil=>rfl
  | cons k ks ih=>cases cs with
    |nil=>rfl
    |cons c cs=>simp [a3C,ih]
theorem a5C {ks:List CK} {cs:List C} {us:List Value} (h:All2 (a0j P env S w) cs us):All2 (a0j P env S w) (a3C ks cs) us:=by
  induction ks generalizing cs us with
  |nil=>exact h
  | cons k ks ih=>cases cs with
    |nil=>exact h
    | cons c cs=>cases us with
      |nil=>exact h.elim
      |cons u us=>exact ⟨b0k h.1,ih h.2⟩
theorem b0l (v:Value):a0j P env S w (ofC v) v:=by
  cases v<;>first|rfl|simp [ofC,a0j]
theorem d5d (v:Value):a0s P env S w (ofV v) v:=by
  cases v with
  | agg cs=>
    refine ⟨cs,rfl,.of_get (by simp) fun j x y hx hy=> ?_⟩
    rw [List.getElem?_map,hy] at hx;simp only [e6r,e55] at hx;subst hx;exact b0l y
  |bool x=>exact b0l (P:=P) (env:=env) (S:=S) (w:=w) (.bool x)
  |int k n=>exact b0l (P:=P) (env:=env) (S:=S) (w:=w) (.int k n)
  |string x=>exact b0l (P:=P) (env:=env) (S:=S) (w:=w) (.string x)
  |_=>rfl
theorem a6p {c:C} {v:Value} (hp:a1F c=true) (h:a0j P env S w c v):v.oneCell'=true∧v.cells= #[v]:=by
  cases c with
  |u=>cases hp
  |z e n=>cases hp
  |ba k T=>cases hp
  |v x=>have hv:v=x:=h;subst hv;refine ⟨hp,?_⟩;cases v<;>first|rfl|(simp [a1F,Value.oneCell'] at hp)
  |sl e n xs=>cases (show a1D P w S (.sl e) (.l n xs) v from h)<;>exact ⟨rfl,rfl⟩
  |el e d off=>obtain ⟨b,o,rfl,_⟩:=h;exact ⟨rfl,rfl⟩
  |pi k b l e i o=>obtain ⟨_,_,rfl⟩:=h;exact ⟨rfl,rfl⟩
  |o k=>have hv:v=(env k).hdr:=h;subst hv;unfold a1J.hdr;split<;>exact ⟨rfl,rfl⟩
  |ifc b=>rcases h with ⟨_,rfl⟩|⟨_,t,p,rfl⟩<;>exact ⟨rfl,rfl⟩
  |bx k n=>obtain ⟨cap,_,_,rfl⟩:=h;exact ⟨rfl,rfl⟩
  |kp k=>have hv:v=(env k).hdr:=h;subst hv;unfold a1J.hdr;split<;>exact ⟨rfl,rfl⟩
  |f fn caps=>have hv:v=fnW (a1K fn caps) fn (caps.map (b1D env)):=h;subst hv;unfold fnW;cases a1K fn caps<;>exact ⟨rfl,rfl⟩
  |_=>simp only [a0j] at h;subst h;exact ⟨rfl,rfl⟩
theorem a6q {cs:List C} (h:a2l cs=true):∀c∈cs,a1F c=true:=by
  induction cs with
  |nil=>simp
  | cons c cs ih=>
    simp only [a2l] at h;cases hp:a1F c with
    |false=>rw [hp] at h;cases h
    | true => rw [hp] at h;intro x hx;rcases e6k.1 hx with rfl|hx
              ·exact hp
              ·exact ih h x hx
theorem a4N {T T':TypeId} {n:Nat} {x:V} {new:List C} (h:a1O P T x=some new):∀c∈new,a4w P T' n c:=by
  unfold a1O at h;simp only at h;cases hb:Nat.beq (a3C (kinds P T) (a36 x)).length (a0a P T)&&a2l (a3C (kinds P T) (a36 x))&& !(a3C (kinds P T) (a36 x)).isEmpty with
  |false=>rw [hb] at h;cases h
  | true=>
    rw [hb] at h;simp only [cond_true,e55] at h;subst h;simp only [e57] at hb;exact fun c hc=>b0j (a6q hb.1.2 c hc)
theorem a2Z {T : TypeId} {x:V} {v:Value} {new:List C} (hx:a0s P env S w x v) (h:a1O P T x=some new):
    All2 (a0j P env S w) new v.cells.toList∧v.cells.size=a0a P T∧new.length=a0a P T∧(∀u∈v.cells.toList,u.oneCell'=true):=by
  unfold a1O at h;simp only at h;cases hb:Nat.beq (a3C (kinds P T) (a36 x)).length (a0a P T)&&a2l (a3C (kinds P T) (a36 x))&& !(a3C (kinds P T) (a36 x)).isEmpty with
  |false=>rw [hb] at h;cases h
  | true=>
    rw [hb] at h;simp only [cond_true,e55] at h;simp only [e57] at hb;obtain ⟨⟨hb1,hb2⟩,hb3⟩:=hb;have hlen:=e56 hb1;have key:All2 (a0j P env S w) (a36 x) v.cells.toList:=by
      cases x with
      | c c=>
        have hr:a0j P env S w c v:=hx;have:v.cells= #[v]:=by
          simp only [a36] at hb2;cases hk:kinds P T with
          | nil => rw [hk] at hb2;simp only [a3C,a2l] at hb2
                   cases hp:a1F c with
                   |false=>rw [hp] at hb2;cases hb2
                   |true=>exact (a6p hp hr).2
          | cons k ks => rw [hk] at hb2;simp only [a3C,a2l] at hb2
                         cases hp:a1F (d34 k c) with
                         |false=>rw [hp] at hb2;cases hb2
                         |true=>exact (a6p hp (b0k hr)).2
        rw [this];exact ⟨hr,trivial⟩
      |g xs=>obtain ⟨vs,rfl,h2⟩:=hx;exact h2
      | t xs=>
        exfalso;have:(a3C (kinds P T) (a36 (.t xs)))=[]:=List.eq_nil_of_length_eq_zero (by rw [b8t];rfl)
        rw [this] at hb3;cases hb3
      |w _ _ _=>exact hx.elim
    subst h;have hall:=a5C (ks:=kinds P T) key;refine ⟨hall,?_,hlen,?_⟩
    ·have:=hall.length;simp at this;omega
    · intro u hu
      obtain ⟨j,hj⟩:=List.getElem?_of_mem hu;have hl:=hall.length;have hjl:j<(a3C (kinds P T) (a36 x)).length:=by rw [hl];exact (e6h.1 hj).1
      have hc:=e6j hjl;exact (a6p (a6q hb2 _ (List.getElem_mem hjl)) (hall.get2 hc hj)).1
theorem b4X {fd:Field} (h:a0a P fd.type≠0) (b o:Nat):(fieldPlace ⟨b,o,none⟩ fd).run P w= .ok ⟨b,o+fd.offset,none⟩ w:=by
  unfold fieldPlace;simp only [e6b,a5B (a6m h),e58,if_neg h,e6c,Addr.add_lit]
theorem b8u {x y:V} {v:Value} {n:Nat} (hx:a0s P env S w x v) (h:c6h x n=some y):∃b o,v= .pointer (some ⟨b,o,none⟩)∧a0s P env S w y (.pointer (some ⟨b,o+n,none⟩)):=by
  unfold c6h at h;split at h<;>(try (cases h;done))<;>simp only [e55] at h<;>subst h
  ·exact ⟨_,_,hx,by simp [a0s,a0j,Nat.add_assoc]⟩
  · obtain ⟨b,o,rfl,h2⟩:=hx
    exact ⟨_,_,rfl,b,o,by simp [Nat.add_assoc],h2⟩
  ·exact ⟨_,_,hx,by simp [a0s,a0j,Nat.add_assoc]⟩
  ·exact ⟨_,_,hx.2.2,hx.1,hx.2.1,by simp [Nat.add_assoc]⟩
end
section
variable {P:Program} {env:Env} {S:a0A} {w:World}
theorem a6r (l:List UInt8):(ByteArray.mk l.toArray).toList=l:=by rw [ByteArray.toList_eq]
theorem b3n (l:List UInt8):(ByteArray.mk l.toArray).size=l.length:=by show l.toArray.size=_;simp
theorem c6D (l m:List UInt8):ByteArray.mk l.toArray++ByteArray.mk m.toArray=ByteArray.mk (l++m).toArray:=by
 apply ByteArray.ext;simp
theorem a20 {a b:Option Bool} {r:Bool} (h:a6f a b=some r):∃x y,a=some x∧b=some y∧r=(x&&y):=by
 unfold a6f at h;split at h
 ·rename_i x y;exact ⟨x,y,rfl,rfl,by simpa using h.symm⟩
 ·cases h
def ofT (P:Program) (env:Env) (S:a0A) (w:World) (T:TypeId) (xs:List C) (v:Value):Prop:=
 (a0d P T=true∧ ∃us:Array Value,v= .agg us∧All2 (a0j P env S w) xs us.toList)∨(a0d P T=false∧ ∃c,xs=[c]∧a0j P env S w c v)
theorem a21 {T:TypeId} {xs:List C} {us:Array Value} {off:Nat} (hr:All2 (a0j P env S w) xs us.toList) (ht:tyB P T=true) (hl:a0d P T=false→((xs.drop off).take (a0a P T)).length=1):
  ∃v,(part T us off).run P w= .ok v w∧ofT P env S w T ((xs.drop off).take (a0a P T)) v:=by
 unfold part;simp only [e6b,a6n ht,e58];cases ha:a0d P T with
 | true=>
  simp only [if_true,e6b,a0J ht,e58,e6c];refine ⟨_,rfl,.inl ⟨ha,_,rfl,?_⟩⟩;have:=(hr.drop off).take (a0a P T);have he:(us.extract off (off+a0a P T)).toList=(us.toList.drop off).take (a0a P T):=by
   rw [Array.toList_extract,List.extract_eq_take_drop];simp
  rwa [he]
 | false=>
  simp only [Bool.false_eq_true,if_false];have h1:=hl ha;have h2:=(hr.drop off).take (a0a P T);generalize (xs.drop off).take (a0a P T)=ys at h1 h2⊢;match ys,h1 with
  | [c],_=>
   have hl2:=h2.length;have h0:∃u,((us.toList.drop off).take (a0a P T))[0]? =some u∧a0j P env S w c u:=h2.get (by simp)
   obtain ⟨u,hu,hc⟩:=h0;rw [List.getElem?_take] at hu;split at hu
   ·have hu':us[off]? =some u:=by simpa using hu
    simp only [hu'];exact ⟨u,rfl,.inr ⟨ha,c,rfl,hc⟩⟩
   ·cases hu
theorem a23 {xs ys:List C} {r:Bool} (h:a8G xs ys=some r):∃k a b,xs=[.i k a]∧ys=[.i k b]∧r=(a==b):=by
 unfold a8G at h;split at h
 ·rename_i k a k' b
  cases hk:k==k' with
  |false=>rw [hk] at h;cases h
  |true=>rw [hk] at h;have:=eq_of_beq hk;subst this;exact ⟨k,a,b,rfl,rfl,by simpa using h.symm⟩
 ·cases h
theorem a26 {xs ys:List C} {r:Bool} (h:b0e xs ys=some r):∃a b,xs=[.s a]∧ys=[.s b]∧r=(a==b):=by
 unfold b0e at h;split at h
 ·exact ⟨_,_,rfl,rfl,by simpa using h.symm⟩
 ·cases h
theorem a2o {c:C} {a:Bool} {v:Value} (h:b4U c=some a) (hc:a0j P env S w c v):v= .bool a:=by
 cases c<;>simp only [b4U] at h<;>first|(cases h;done)|(simp only [e55] at h;subst h;exact hc)
theorem a2x {xs ys:List C} {r:Bool} (h:a4t xs ys=some r):∃c d a b,xs=[c]∧ys=[d]∧b4U c=some a∧b4U d=some b∧r=(a==b):=by
 unfold a4t at h;split at h
 ·rename_i c d
  split at h
  ·rename_i a b h1 h2;exact ⟨c,d,a,b,rfl,rfl,h1,h2,by simpa using h.symm⟩
  ·cases h
 ·cases h
theorem a1h {T:TypeId} {c:C} {v:Value} (ha:a0d P T=false) (h:ofT P env S w T [c] v):a0j P env S w c v:=by
 rcases h with ⟨h,_⟩|⟨_,d,h,hd⟩
 ·rw [ha] at h;cases h
 ·simp only [List.cons.injEq,and_true] at h;subst h;exact hd
theorem a74 {n:Nat} {T:TypeId} {xs ys:List C} {r:Bool} (ha:a0d P T=false) (h:eqT P n T xs ys=some r):xs.length=1∧ys.length=1:=by
 cases n with
 |zero=>simp [eqT] at h
 |succ n=>
  simp only [eqT] at h;unfold a0d at ha;split at h
  ·obtain ⟨_,_,_,rfl,rfl,_⟩:=a23 h;exact ⟨rfl,rfl⟩
  ·obtain ⟨_,_,_,_,rfl,rfl,_⟩:=a2x h;exact ⟨rfl,rfl⟩
  ·obtain ⟨_,_,rfl,rfl,_⟩:=a26 h;exact ⟨rfl,rfl⟩
  ·rename_i hu;simp [hu] at ha
  ·rename_i hu;simp [hu] at ha
  ·cases h
theorem b5j {n:Nat} {T:TypeId} {xs ys:List C} {r:Bool} (h:eqT P n T xs ys=some r):tyB P T=true:=by
 cases n with
 |zero=>simp [eqT] at h
 |succ n=>unfold tyB;simp only [eqT] at h;cases hu:P.underlying T<;>simp [hu] at h⊢
theorem a6s (d:Nat) (xs ys:List C) (us vs:Array Value) (hx:All2 (a0j P env S w) xs us.toList) (hy:All2 (a0j P env S w) ys vs.toList) (n:Nat)
  (ih:∀T xs ys r vx vy,eqT P n T xs ys=some r→ofT P env S w T xs vx→ofT P env S w T ys vy→(Op.equalIn d T vx vy).run P w= .ok r w):∀(fs:List Field) (r:Bool),
  fs.foldr (fun f r=>bif f.name== "_" then none else a6f (eqT P n f.type ((xs.drop f.offset).take (a0a P f.type)) ((ys.drop f.offset).take (a0a P f.type))) r) (some true)=some r→
  (Op.eqFields d us vs fs).run P w= .ok r w
 | [],r,h=>by simp at h;subst h;simp [Op.eqFields]
 | f::fs,r,h=>by
  simp only [List.foldr_cons] at h;cases hn:f.name== "_" with
  |true=>rw [hn] at h;cases h
  | false=>
   rw [hn] at h;simp only [cond_false] at h;obtain ⟨a,b,h1,h2,rfl⟩:=a20 h;have hne:f.name≠ "_" :=by simpa using hn
   have ht:tyB P f.type=true:=b5j h1;have hlen:a0d P f.type=false→((xs.drop f.offset).take (a0a P f.type)).length=1∧((ys.drop f.offset).take (a0a P f.type)).length=1:=fun ha=>a74 ha h1
   obtain ⟨v1,r1,o1⟩:=a21 hx ht fun ha=>(hlen ha).1
   obtain ⟨v2,r2,o2⟩:=a21 hy ht fun ha=>(hlen ha).2
   have h3:=ih _ _ _ _ _ _ h1 o1 o2;simp only [Op.eqFields,hne,ne_eq,not_false_eq_true,if_true,e6b,r1,r2,h3,e58];cases a with
   |true=>
    simp only [Bool.not_true,Bool.false_eq_true,if_false,Bool.true_and];exact a6s d xs ys us vs hx hy n ih fs b h2
   |false=>simp
def a75 (P:Program) (d:Nat) (us vs:Array Value) (e:TypeId):List Nat→Sem Bool
 | []=>pure true
 |i::is=>do
  let a←part e us (i*a0a P e)
  let b←part e vs (i*a0a P e)
  let r←Op.equalIn d e a b
  if (!r)=true then pure false else a75 P d us vs e is
theorem b0m (d:Nat) (t len e:Nat) (us vs:Array Value) (hu:P.underlying t=some (.array len e)) (he:(P.info? e).isSome=true):
  (Op.equalIn (d+1) t (.agg us) (.agg vs)).run P w=(a75 P d us vs e (List.range' 0 len)).run P w:=by
 simp only [Op.equalIn,e6b,run_underlying hu,e58,a5B he];rw [Std.Legacy.Range.forIn_eq_forIn_range'];have hl:([0:len]:Std.Legacy.Range).size=len:=by simp [Std.Legacy.Range.size]
 rw [hl];show Result.andThen (Sem.run P (forIn (List.range' 0 len 1) _ _) w) _=_;generalize List.range' 0 len 1=is;clear hl hu;induction is generalizing w with
 |nil=>simp [a75]
 | cons i is ih=>
  simp only [List.forIn_cons,a75,e6b];generalize (part e us (i*a0a P e)).run P w=r1;cases r1 with
  | ok a w1=>
   simp only [e58];generalize (part e vs (i*a0a P e)).run P w1=r2;cases r2 with
   | ok b w2=>
    simp only [e58];generalize (Op.equalIn d e a b).run P w2=r3;cases r3 with
    | ok r w3=>
     cases r
     ·simp
     ·simp only [e58,Bool.not_true,Bool.false_eq_true,if_false,e6c]
      exact ih
    |halt x w3=>simp [Result.andThen]
   |halt x w2=>simp [Result.andThen]
  |halt x w1=>simp [Result.andThen]
theorem a7R (d:Nat) (xs ys:List C) (us vs:Array Value) (hx:All2 (a0j P env S w) xs us.toList) (hy:All2 (a0j P env S w) ys vs.toList) (n:Nat) (e:TypeId)
  (ih:∀T xs ys r vx vy,eqT P n T xs ys=some r→ofT P env S w T xs vx→ofT P env S w T ys vy→(Op.equalIn d T vx vy).run P w= .ok r w):∀(is:List Nat) (r:Bool),
  is.foldr (fun i r=>a6f (eqT P n e ((xs.drop (i*a0a P e)).take (a0a P e)) ((ys.drop (i*a0a P e)).take (a0a P e))) r) (some true)=some r→
  (a75 P d us vs e is).run P w= .ok r w
 | [],r,h=>by simp at h;subst h;simp [a75]
 | i::is,r,h=>by
  simp only [List.foldr_cons] at h;obtain ⟨a,b,h1,h2,rfl⟩:=a20 h;obtain ⟨v1,r1,o1⟩:=a21 hx (b5j h1) fun ha=>(a74 ha h1).1
  obtain ⟨v2,r2,o2⟩:=a21 hy (b5j h1) fun ha=>(a74 ha h1).2
  have h3:=ih _ _ _ _ _ _ h1 o1 o2;simp only [a75,e6b,r1,r2,h3,e58];cases a with
  |true=>
   simp only [Bool.not_true,Bool.false_eq_true,if_false,Bool.true_and];exact a7R d xs ys us vs hx hy n e ih is b h2
  |false=>simp
theorem b3o:∀(n:Nat) (T:TypeId) (xs ys:List C) (r:Bool) (vx vy:Value),eqT P n T xs ys=some r→ofT P env S w T xs vx→ofT P env S w T ys vy→ ∀d,n≤d→(Op.equalIn d T vx vy).run P w= .ok r w
 |0,_,_,_,_,_,_,h,_,_,_,_=>by simp [eqT] at h
 | n + 1,T,xs,ys,r,vx,vy,h,hx,hy,d,hd=>by
  obtain ⟨d',rfl⟩:∃d',d=d'+1:=⟨d-1,by omega⟩
  have ih:∀T xs ys r vx vy,eqT P n T xs ys=some r→ofT P env S w T xs vx→ofT P env S w T ys vy→(Op.equalIn d' T vx vy).run P w= .ok r w:=
   fun T xs ys r vx vy h hx hy=>b3o n T xs ys r vx vy h hx hy d' (by omega)
  simp only [eqT] at h;split at h
  ·rename_i k hu
   have ha:a0d P T=false:=by unfold a0d;rw [hu]
   obtain ⟨k',a,b,rfl,rfl,rfl⟩:=a23 h;have h1:=a1h ha hx;have h2:=a1h ha hy;simp only [a0j] at h1 h2;subst h1 h2;exact run_equalIn_int w d' T k' k a b hu
  ·rename_i hu
   have ha:a0d P T=false:=by unfold a0d;rw [hu]
   obtain ⟨c,e,a,b,rfl,rfl,h3,h4,rfl⟩:=a2x h;have h1:=a2o h3 (a1h ha hx);have h2:=a2o h4 (a1h ha hy);subst h1 h2;exact run_equalIn_bool' w d' T a b hu
  ·rename_i hu
   have ha:a0d P T=false:=by unfold a0d;rw [hu]
   obtain ⟨a,b,rfl,rfl,rfl⟩:=a26 h;have h1:=a1h ha hx;have h2:=a1h ha hy;simp only [a0j] at h1 h2;subst h1 h2;rw [run_equalIn_string w d' T _ _ hu,a6r,a6r]
  ·rename_i fs hu
   have ha:a0d P T=true:=by unfold a0d;rw [hu]
   cases hs:P.stoodInHeld T with
   |true=>rw [hs] at h;cases h
   | false=>
    rw [hs] at h;simp only [cond_false] at h;rcases hx with ⟨_,us,rfl,hx⟩|⟨hx1,_⟩
    ·rcases hy with ⟨_,vs,rfl,hy⟩|⟨hy1,_⟩
     ·have hf:P.fieldsOf T=fs:=by unfold Program.fieldsOf;rw [hu]
      rw [run_equalIn_struct w d' T us vs (by rw [hf];exact hu) hs,hf]
      exact a6s d' xs ys us vs hx hy n ih fs.toList r h
     ·rw [ha] at hy1;cases hy1
    ·rw [ha] at hx1;cases hx1
  ·rename_i len e hu
   have ha:a0d P T=true:=by unfold a0d;rw [hu]
   rcases hx with ⟨_,us,rfl,hx⟩|⟨hx1,_⟩
   ·rcases hy with ⟨_,vs,rfl,hy⟩|⟨hy1,_⟩
    ·cases ht:tyB P e with
     |false=>rw [ht] at h;cases h
     | true=>
      rw [ht] at h;simp only [cond_true] at h;have he:(P.info? e).isSome=true:=by
       unfold tyB at ht;cases hq:P.underlying e with
       |none=>rw [hq] at ht;cases ht
       |some D=>obtain ⟨i,hi⟩:=a4x hq;rw [hi];rfl
      rw [b0m d' T len e us vs hu he,←List.range_eq_range'];exact a7R d' xs ys us vs hx hy n e ih _ r h
    ·rw [ha] at hy1;cases hy1
   ·rw [ha] at hx1;cases hx1
  ·cases h
end
section
variable {P:Program} {env:Env} {S:a0A} {w:World}
theorem a6t {op:BinOp} {k:IntKind} {a b n:Int} (h:c0H op k a b=some n):(Op.intBits op k a b).run P w= .ok (.int k n) w:=by
  unfold c0H at h;cases op<;>simp only at h<;>first|(cases h;done)|(simp only [e55] at h;subst h;simp [Op.intBits])
theorem c4P {op:BinOp} {T:TypeId} {k:IntKind} {a b:Int} {c:C} (h1:op≠ .shl) (h2:op≠ .shr) (h:e3z op k a b=some (true,c)):∃v,(binOp op T (.int k a) (.int k b)).run P w= .ok v w∧a0j P env S w c v:=by
  have hb:∀{op:BinOp} {n:Int},c0H op k a b=some n→(binOp op T (.int k a) (.int k b)).run P w=(Op.intBits op k a b).run P w:=by
    intro op n hn;cases op<;>first|(cases hn;done)|simp [binOp]
  cases op<;>simp only [e3z] at h
  case shl=>exact absurd rfl h1
  case shr=>exact absurd rfl h2
  case quo=>
    simp only [e55,e6q,Bool.not_eq_true',beq_eq_false_iff_ne] at h;obtain ⟨h,rfl⟩:=h;exact ⟨_,by simp [binOp,Op.intDiv,h],rfl⟩
  case rem=>
    simp only [e55,e6q,Bool.not_eq_true',beq_eq_false_iff_ne] at h;obtain ⟨h,rfl⟩:=h;exact ⟨_,by simp [binOp,Op.intDiv,h],rfl⟩
  case and=>split at h<;>first|(cases h;done)|(rename_i n hn;simp only [e55,e6q,true_and] at h;subst h;exact ⟨_,(hb hn).trans (a6t hn),rfl⟩)
  case or=>split at h<;>first|(cases h;done)|(rename_i n hn;simp only [e55,e6q,true_and] at h;subst h;exact ⟨_,(hb hn).trans (a6t hn),rfl⟩)
  case xor=>split at h<;>first|(cases h;done)|(rename_i n hn;simp only [e55,e6q,true_and] at h;subst h;exact ⟨_,(hb hn).trans (a6t hn),rfl⟩)
  case andNot=>split at h<;>first|(cases h;done)|(rename_i n hn;simp only [e55,e6q,true_and] at h;subst h;exact ⟨_,(hb hn).trans (a6t hn),rfl⟩)
  all_goals
    simp only [e55,e6q,true_and] at h;subst h;exact ⟨_,by simp [binOp,Op.intArith,Op.intCmp],rfl⟩
theorem b06 {op:BinOp} {T:TypeId} {k k':IntKind} {a b:Int} {c:C} (h:c6c op k a b=some (true,c)):∃v,(binOp op T (.int k a) (.int k' b)).run P w= .ok v w∧a0j P env S w c v:=by
  cases op<;>simp only [c6c] at h<;>try (cases h;done)
  all_goals
    simp only [e55,e6q,decide_eq_true_eq] at h;obtain ⟨h,rfl⟩:=h;exact ⟨_,by simp [binOp,Op.shift,show¬b<0 by omega],rfl⟩
theorem c4Q {op:BinOp} {T:TypeId} {x y:List UInt8} {c:C} (h:e3A op x y=some (true,c)):∃v,(binOp op T (.string ⟨x.toArray⟩) (.string ⟨y.toArray⟩)).run P w= .ok v w∧a0j P env S w c v:=by
  have e0:(binOp op T (.string ⟨x.toArray⟩) (.string ⟨y.toArray⟩))=Op.stringOp op ⟨x.toArray⟩ ⟨y.toArray⟩:=by cases op<;>rfl
  rw [e0];cases op<;>simp only [e3A] at h<;>try (cases h;done)
  case add=>
    simp only [e55,e6q,decide_eq_true_eq] at h;obtain ⟨h,rfl⟩:=h;refine ⟨.string ⟨(x++y).toArray⟩,?_,rfl⟩;have:¬(((ByteArray.mk x.toArray).size+(ByteArray.mk y.toArray).size:Nat):Int)>IntKind.i64.max:=by
      rw [b3n,b3n];have:IntKind.i64.max=9223372036854775807:=by decide
      rw [this];unfold a0c at h;omega
    simp only [Op.stringOp,if_neg this,c6D,e6c]
  all_goals
    simp only [e55,e6q,true_and] at h;subst h;exact ⟨_,by simp only [Op.stringOp,a6r,e6c],rfl⟩
theorem a2d (op:BinOp) (T:TypeId) (x y:Operand) (vx vy:Value) (h:(∃k a,vx= .int k a)∨(∃s,vx= .string s)∨(∃b,vx= .bool b)∨(∃a n c,vx= .slice a n c)):(eqGuard op T x y vx vy).run P w= .ok () w:=by
  unfold eqGuard;rcases h with ⟨k,a,rfl⟩|⟨s,rfl⟩|⟨b,rfl⟩|⟨a,n,c,rfl⟩<;>cases op<;>simp
theorem c4R {T:TypeId} {x y:V} {vx vy:Value} {a b:List C} (hx:a0s P env S w x vx) (hy:a0s P env S w y vy) (h:c6d P T x y=some (a,b)):ofT P env S w T a vx∧ofT P env S w T b vy:=by
  unfold c6d at h;cases ha:a0d P T with
  | true=>
    rw [ha] at h;simp only [cond_true] at h;split at h
    · simp only [e55,e6q] at h
      obtain ⟨rfl,rfl⟩:=h;exact ⟨.inl ⟨ha,hx⟩,.inl ⟨ha,hy⟩⟩
    ·cases h
  | false=>
    rw [ha] at h;simp only [cond_false] at h;split at h
    · simp only [e55,e6q] at h
      obtain ⟨rfl,rfl⟩:=h;exact ⟨.inr ⟨ha,_,rfl,hx⟩,.inr ⟨ha,_,rfl,hy⟩⟩
    ·cases h
theorem c6E {n:Nat} {T:TypeId} {xs ys:List C} {r:Bool} {vx vy:Value} (h:eqT P n T xs ys=some r) (hx:ofT P env S w T xs vx) (hy:ofT P env S w T ys vy):
    (∃us vs,vx= .agg us∧vy= .agg vs)∨(∃k a b,vx= .int k a∧vy= .int k b∧r=(a==b))∨(∃a b:List UInt8,vx= .string ⟨a.toArray⟩∧vy= .string ⟨b.toArray⟩∧r=(a==b))∨(∃a b,vx= .bool a∧vy= .bool b∧r=(a==b)):=by
  cases n with
  |zero=>simp [eqT] at h
  | succ n =>
    simp only [eqT] at h;have one:a0d P T=false→ ∀c,ofT P env S w T [c] vx→a0j P env S w c vx:=fun ha c h=>a1h ha h
    split at h
    · rename_i k hu
      have ha:a0d P T=false:=by unfold a0d;rw [hu]
      obtain ⟨k',a,b,rfl,rfl,rfl⟩:=a23 h;exact .inr (.inl ⟨k',a,b,a1h ha hx,a1h ha hy,rfl⟩)
    · rename_i hu
      have ha:a0d P T=false:=by unfold a0d;rw [hu]
      obtain ⟨c,e,a,b,rfl,rfl,h3,h4,rfl⟩:=a2x h;exact .inr (.inr (.inr ⟨a,b,a2o h3 (a1h ha hx),a2o h4 (a1h ha hy),rfl⟩))
    · rename_i hu
      have ha:a0d P T=false:=by unfold a0d;rw [hu]
      obtain ⟨a,b,rfl,rfl,rfl⟩:=a26 h;exact .inr (.inr (.inl ⟨a,b,a1h ha hx,a1h ha hy,rfl⟩))
    all_goals first
      |(cases h;done)
      | (rename_i hu
         have ha:a0d P T=true:=by unfold a0d;rw [hu]
         rcases hx with ⟨_,us,rfl,_⟩|⟨hx,_⟩
         · rcases hy with ⟨_,vs,rfl,_⟩|⟨hy,_⟩
           ·exact .inl ⟨us,vs,rfl,rfl⟩
           ·rw [ha] at hy;cases hy
         ·rw [ha] at hx;cases hx)
theorem c6F {T:TypeId} {x y:V} {vx vy:Value} {r:Bool} {ox oy:Operand} (hx:a0s P env S w x vx) (hy:a0s P env S w y vy) (h:eqV P T x y=some r):
    (do eqGuard .eql T ox oy vx vy;binOp .eql T vx vy:Sem Value).run P w= .ok (.bool r) w∧(do eqGuard .neq T ox oy vx vy;binOp .neq T vx vy:Sem Value).run P w= .ok (.bool (!r)) w:=by
  unfold eqV at h;cases hg:P.eqGuardType P.depth T with
  |true=>rw [hg] at h;cases h
  | false=>
    rw [hg] at h;simp only [cond_false] at h;split at h
    · rename_i a b hc
      obtain ⟨h1,h2⟩:=c4R hx hy hc;have h3:=b3o 12 T a b r vx vy h h1 h2 Op.maxDepth (by decide)
      rcases c6E h h1 h2 with ⟨us,vs,rfl,rfl⟩|⟨k,a,b,rfl,rfl,rfl⟩|⟨a,b,rfl,rfl,rfl⟩|⟨a,b,rfl,rfl,rfl⟩
      · have g:=fun op=>run_eqGuard_agg (P:=P) w op T ox oy us vs hg
        unfold Op.maxDepth at h3;refine ⟨?_,?_⟩<;>simp only [e6b,g,e58]<;>simp [run_eql_struct,run_neq_struct,h3]
      · have g:=fun op=>a2d (P:=P) (w:=w) op T ox oy (.int k a) (.int k b) (.inl ⟨k,a,rfl⟩)
        refine ⟨?_,?_⟩<;>simp only [e6b,g,e58]<;>simp [binOp,Op.intCmp,bne]
      · have g:=fun op=>a2d (P:=P) (w:=w) op T ox oy (.string ⟨a.toArray⟩) (.string ⟨b.toArray⟩) (.inr (.inl ⟨_,rfl⟩))
        refine ⟨?_,?_⟩<;>simp only [e6b,g,e58,binOp,Op.stringOp,a6r,e6c]
      · have g:=fun op=>a2d (P:=P) (w:=w) op T ox oy (.bool a) (.bool b) (.inr (.inr (.inl ⟨_,rfl⟩)))
        unfold Op.maxDepth at h3;refine ⟨?_,?_⟩<;>simp only [e6b,g,e58,binOp,Op.equal,Op.maxDepth,h3,e6c]
    ·cases h
theorem c4S {op:BinOp} {T:TypeId} {x y:V} {vx vy:Value} {c:C} {ox oy:Operand} (hx:a0s P env S w x vx) (hy:a0s P env S w y vy) (h:e3B P op T x y=some (true,c)):
    ∃v,(do eqGuard op T ox oy vx vy;binOp op T vx vy:Sem Value).run P w= .ok v w∧a0j P env S w c v:=by
  unfold e3B at h;split at h
  · rename_i k a k' b
    simp only [a0s,a0j] at hx hy;subst hx hy;have g:=a2d (P:=P) (w:=w) op T ox oy (.int k a) (.int k' b) (.inl ⟨k,a,rfl⟩);simp only [e6b,g,e58];split at h
    ·exact b06 h
    ·exact b06 h
    · rename_i n1 n2
      cases hk:k==k' with
      |false=>rw [hk] at h;cases h
      | true=>
        rw [hk] at h;have:=eq_of_beq hk;subst this;exact c4P (fun e=>n1 e) (fun e=>n2 e) h
  · simp only [a0s,a0j] at hx hy
    subst hx hy;have g:=fun a b=>a2d (P:=P) (w:=w) op T ox oy (.string a) (.string b) (.inr (.inl ⟨_,rfl⟩))
    simp only [e6b,g,e58];exact c4Q h
  · rename_i e n xs
    cases hs:a8F P T with
    |false=>rw [hs] at h;cases h
    | true=>
      rw [hs] at h;simp only [cond_true] at h;unfold a8F at hs;have hu:∃e',P.underlying T=some (.slice e'):=by
        split at hs
        ·rename_i e' hu;exact ⟨e',hu⟩
        ·cases hs
      obtain ⟨e',hu⟩:=hu;have hy':vy= .slice none 0 0:=hy;subst hy';have hn:∃a len cap,vx= .slice a len cap∧a.isNone=n:=by
        cases (show a1D P w S (.sl e) (.l n xs) vx from hx) with
        |nil e d h1 h2=>exact ⟨_,_,_,rfl,h1.symm⟩
        |emp e d a cap h1=>exact ⟨_,_,_,rfl,h1.symm⟩
        |sl e d b off cap cv h1=>exact ⟨_,_,_,rfl,h1.symm⟩
      obtain ⟨a,len,cap,rfl,hn⟩:=hn;have g:=fun op=>a2d (P:=P) (w:=w) op T ox oy (.slice a len cap) (.slice none 0 0) (.inr (.inr (.inr ⟨_,_,_,rfl⟩)))
      have heq1:∀d,(Op.equalIn (d+1) T (.slice a len cap) (.slice none 0 0)).run P w= .ok n w:=by
        intro d;cases a with
        |none=>simp only [Op.equalIn,e6b,run_underlying hu,e58,e6c,Option.isNone_none];rw [←hn];rfl
        |some a=>simp only [Op.equalIn,e6b,run_underlying hu,e58,e6c];rw [←hn];rfl
      have heq:(Op.equalIn 10000 T (.slice a len cap) (.slice none 0 0)).run P w= .ok n w:=heq1 9999;cases op<;>simp only at h<;>try (cases h;done)
      all_goals
        simp only [e55,e6q,true_and] at h;subst h;exact ⟨_,by simp only [e6b,g,e58,binOp,Op.equal,Op.maxDepth,heq,e6c],rfl⟩
  · cases op<;>simp only at h<;>try (cases h;done)
    all_goals
      split at h
      · rename_i r hr
        simp only [e55,e6q,true_and] at h;subst h;obtain ⟨h1,h2⟩:=c6F (ox:=ox) (oy:=oy) hx hy hr;first|exact ⟨_,h1,rfl⟩|exact ⟨_,h2,rfl⟩
      ·cases h
theorem c95 {y:Operand} (h:c0J y=true):y= .const .nilIface:=by
  unfold c0J at h;split at h
  ·rfl
  ·cases h
theorem c6G {T:TypeId} (h:b26 P T=true):∃ms,P.underlying T=some (.interface ms):=by
  unfold b26 at h;split at h
  ·rename_i ms hu;exact ⟨ms,hu⟩
  ·cases h
theorem c4T {op:BinOp} {T:TypeId} {x:V} {y ox:Operand} {a:Act} {vx:Value} {c:C} (hx:a0s P env S w x vx) (h:e3D P op T x y=some c):
    ∃v,(do eqGuard op T ox y vx (a.eval y);binOp op T vx (a.eval y):Sem Value).run P w= .ok v w∧a0j P env S w c v:=by
  have key:∀b:Bool,(b=true∧vx= .nilIface)∨(b=false∧ ∃t p,vx= .iface t p)→ ∀ms,P.underlying T=some (.interface ms)→
      (do eqGuard .eql T ox (.const .nilIface) vx .nilIface;binOp .eql T vx .nilIface:Sem Value).run P w= .ok (.bool b) w∧
      (do eqGuard .neq T ox (.const .nilIface) vx .nilIface;binOp .neq T vx .nilIface:Sem Value).run P w= .ok (.bool (!b)) w:=by
    rintro b (⟨rfl,rfl⟩|⟨rfl,t,p,rfl⟩) ms hu
    · have heq1:∀d,(Op.equalIn (d+1) T .nilIface .nilIface).run P w= .ok true w:=by
        intro d;simp only [Op.equalIn,e6b,run_underlying hu,e58,e6c]
      have heq:=heq1 9999;have g:∀op,(eqGuard op T ox (.const .nilIface) .nilIface .nilIface).run P w= .ok () w:=by intro op;unfold eqGuard;cases op<;>simp
      refine ⟨?_,?_⟩<;>simp only [e6b,g,e58,binOp,Op.equal,Op.maxDepth,heq,e6c]
    · have heq1:∀d,(Op.equalIn (d+1) T (.iface t p) .nilIface).run P w= .ok false w:=by
        intro d;simp only [Op.equalIn,e6b,run_underlying hu,e58,e6c]
      have heq:=heq1 9999;have g:∀op,(eqGuard op T ox (.const .nilIface) (.iface t p) .nilIface).run P w= .ok () w:=by intro op;unfold eqGuard;cases op<;>simp
      refine ⟨?_,?_⟩<;>simp only [e6b,g,e58,binOp,Op.equal,Op.maxDepth,heq,e6c]
  unfold e3D at h;split at h
  case h_5=>cases h
  all_goals
    cases hc:c0J y&&b26 P T with
    |false=>rw [hc] at h;cases h
    | true=>
      rw [hc] at h;simp only [cond_true,e55] at h;rw [e57] at hc;obtain ⟨ms,hu⟩:=c6G hc.2;have hy:=c95 hc.1;subst hy h;have ek:∀v,a.eval (.const v)=v:=fun _=>rfl
      rw [ek];first
        |exact ⟨_,(key _ hx ms hu).1,rfl⟩
        |exact ⟨_,(key _ hx ms hu).2,rfl⟩
        |exact ⟨_,(key true (.inl ⟨rfl,hx⟩) ms hu).1,rfl⟩
        |exact ⟨_,(key true (.inl ⟨rfl,hx⟩) ms hu).2,rfl⟩
theorem c6H {op:UnOp} {x:V} {vx:Value} {c:C} (hx:a0s P env S w x vx) (h:unV op x=some c):∃v,(Op.unary op vx).run P w= .ok v w∧a0j P env S w c v:=by
  unfold unV at h;split at h<;>try (cases h;done)
  ·simp only [e55] at h;simp only [a0s,a0j] at hx;subst h hx;exact ⟨_,by simp [Op.unary],rfl⟩
  ·simp only [e55] at h;simp only [a0s,a0j] at hx;subst h hx;exact ⟨_,by simp [Op.unary],rfl⟩
  ·simp only [e55] at h;simp only [a0s,a0j] at hx;subst h hx;exact ⟨_,by simp only [Op.unary,Op.intArith,e6c],rfl⟩
  · split at h
    · rename_i r hr
      simp only [e55] at h;simp only [a0s,a0j] at hx;subst h hx;exact ⟨_,by simp only [Op.unary];exact a6t hr,rfl⟩
    ·cases h
end
theorem a8O (off:Nat):∀(l:List Value) (k:Nat) (cs:Array Value),off+k+l.length≤cs.size→
  ((l.zipIdx k).foldl (fun cs (x:Value×Nat)=>cs.setIfInBounds (off+x.2) x.1) cs).toList=cs.toList.take (off+k)++l++cs.toList.drop (off+k+l.length)
 | [],k,cs,_=>by simp
 | v::l,k,cs,h=>by
  simp only [e6m] at h;rw [List.zipIdx_cons,List.foldl_cons,a8O off l (k+1) _ (by simp;omega)]
  have hlt:off+k<cs.toList.length:=by simp;omega
  have e1:(cs.setIfInBounds (off+k) v).toList=cs.toList.set (off+k) v:=by simp
  simp only [e1];have e2:(cs.toList.set (off+k) v).take (off+(k+1))=cs.toList.take (off+k)++[v]:=by
   have hl:(cs.toList.take (off+k)).length=off+k:=by rw [List.length_take];omega
   rw [List.set_eq_take_append_cons_drop,if_pos hlt,show off+(k+1)=(cs.toList.take (off+k)).length+1 by omega,List.take_length_add_append]
   rfl
  have e3:(cs.toList.set (off+k) v).drop (off+(k+1)+l.length)=cs.toList.drop (off+k+(l.length+1)):=by
   rw [List.drop_set_of_lt (by omega)]
   congr 1;omega
  rw [e2,e3];simp
section
variable {P:Program} {env:Env} {S:a0A} {w:World} {mem:AL Obj}
theorem b0n {cs new:List C} {us vs:List Value} {off:Nat} (h1:All2 (a0j P env S w) cs us) (h2:All2 (a0j P env S w) new vs):
  All2 (a0j P env S w) (a3k cs off new) (us.take off++vs++us.drop (off+vs.length)):=by
 unfold a3k;rw [←h2.length];exact ((h1.take off).append h2).append (h1.drop _)
theorem a78 {places:List (Nat×TypeId)} {pl:Nat→Option (Nat×Nat)} (hp:∀i off T,places[i]? =some (off,T)→pl i=some (off,a0a P T)):∀{parts:List (Nat×V)} {vps:List (Nat×Value)} {cs out:List C} {us:Array Value},
  All2 (fun x y=>x.1=y.1∧a0s P env S w x.2 y.2) parts vps→All2 (a0j P env S w) cs us.toList→c4D P places cs parts=some out→
  ∃us',Instr.fill pl us vps=some us'∧All2 (a0j P env S w) out us'.toList
 | [],vps,cs,out,us,hps,hc,h=>by
  cases vps with
  |nil=>simp only [c4D,e55] at h;subst h;exact ⟨us,rfl,hc⟩
  |cons=>exact hps.elim
 | (i, x)::parts,vps,cs,out,us,hps,hc,h=>by
  cases vps with
  |nil=>exact hps.elim
  | cons y vps=>
   obtain ⟨i',v⟩:=y;obtain ⟨⟨hi,hv⟩,hps⟩:=hps;simp only at hi hv;subst hi;simp only [c4D] at h;split at h
   ·cases h
   ·rename_i off T hpl
    split at h
    ·cases h
    ·rename_i new hnew
     obtain ⟨h1,h2,h3,h4⟩:=a2Z hv hnew;cases hl:Nat.ble (off+new.length) cs.length with
     |false=>rw [hl] at h;cases h
     | true=>
      rw [hl] at h;simp only [cond_true] at h;have hle:=e6g hl;have hcl:=hc.length;have hnl:=h1.length;simp only [Array.length_toList] at hcl hnl;have hf:(v.cells.zipIdx.foldl (fun cs (c,j)=>cs.setIfInBounds (off+j) c) us).toList=us.toList.take off++v.cells.toList++us.toList.drop (off+v.cells.toList.length):=by
       have:=a8O off v.cells.toList 0 us (by simp;omega)
       rw [←Array.foldl_toList,Array.toList_zipIdx];simpa using this
      have hr:All2 (a0j P env S w) (a3k cs off new) (v.cells.zipIdx.foldl (fun cs (c,j)=>cs.setIfInBounds (off+j) c) us).toList:=by
       rw [hf];exact b0n hc h1
      obtain ⟨us',h5,h6⟩:=a78 hp hps hr h;refine ⟨us',?_,h6⟩;simp only [Instr.fill,hp i off T hpl];rw [if_neg (by
       intro hh;rw [Bool.or_eq_true,decide_eq_true_eq,decide_eq_true_eq] at hh;rcases hh with hh|hh
       ·exact hh h2
       ·omega)]
      exact h5
theorem c96 (cs:List Value):All2 (a0j P env S w) (cs.map ofC) cs:= .of_get (by simp) fun j x y hx hy=>by
 rw [List.getElem?_map,hy] at hx;simp only [e6r,e55] at hx;subst hx;exact b0l y
theorem c6I {v:Value} (h:∀cs,v≠ .agg cs):v.cells= #[v]:=by
 cases v<;>first|rfl|exact absurd rfl (h _)
theorem a2p {T:TypeId} {z:List C} (h:b4V P T=some z):∃i v,P.info? T=some i∧i.zero=some v∧All2 (a0j P env S w) z v.cells.toList∧(zeroValue T).run P w= .ok v w∧
  ((a0d P T=true∧ ∃cs,v= .agg cs)∨(a0d P T=false∧v.cells= #[v])):=by
 unfold b4V at h;have fin:∀v,(P.info? T).bind (·.zero)=some v→ ∃i,P.info? T=some i∧i.zero=some v∧(zeroValue T).run P w= .ok v w:=by
  intro v hz;cases hi:P.info? T with
  |none=>rw [hi] at hz;cases hz
  |some i=>rw [hi] at hz;exact ⟨i,rfl,hz,by simp [zeroValue,typeInfo,hi,show i.zero=some v from hz]⟩
 split at h
 ·rename_i cs hz
  cases ha:a0d P T with
  |false=>rw [ha] at h;cases h
  |true=>
   rw [ha] at h;simp only [cond_true,e55] at h;subst h;obtain ⟨i,h1,h2,h3⟩:=fin _ hz;exact ⟨i,_,h1,h2,a5C (c96 cs.toList),h3,.inl ⟨rfl,cs,rfl⟩⟩
 ·rename_i v hne hz
  cases ha:a0d P T with
  |true=>rw [ha] at h;cases h
  |false=>
   rw [ha] at h;simp only [cond_false,e55] at h;subst h;obtain ⟨i,h1,h2,h3⟩:=fin _ hz;have hc:=c6I (v:=v) fun cs hcs=>hne cs (hcs▸rfl)
   exact ⟨i,v,h1,h2,a5C (by rw [hc];exact ⟨b0l v,trivial⟩),h3,.inr ⟨rfl,hc⟩⟩
 ·cases h
theorem a2F {T:TypeId} {x:V} (h:a4K P T=some x):∃v,(zeroValue T).run P w= .ok v w∧a0s P env S w x v:=by
 unfold a4K at h;split at h
 ·rename_i z hz
  obtain ⟨i,v,_,_,h1,h2,h3⟩:=a2p (env:=env) (S:=S) (w:=w) hz;refine ⟨v,h2,?_⟩;rcases h3 with ⟨ha,cs,rfl⟩|⟨ha,hc⟩
  ·rw [ha] at h
   simp only [cond_true,e55] at h;subst h;exact ⟨cs,rfl,h1⟩
  ·rw [ha] at h
   simp only [cond_false] at h;split at h
   ·simp only [e55] at h
    subst h;rw [hc] at h1;exact h1.1
   ·cases h
 ·cases h
theorem c0P (fs:List Field) (h:(fs.all fun f=>(P.info? f.type).isSome)=true):fs.mapM (fun f=>(P.info? f.type).map fun i=>(f.offset,i.size))=some (fs.map fun f=>(f.offset,a0a P f.type)):=by
 induction fs with
 |nil=>rfl
 |cons f fs ih=>
  simp only [List.all_cons,e57] at h;cases hi:P.info? f.type with
  |none=>rw [hi] at h;cases h.1
  |some i=>simp [List.mapM_cons,hi,ih h.2,a0a]
theorem b8v {T:TypeId} {parts:List (Nat×V)} {vps:Array (Nat×Value)} {x:V} (hp:All2 (fun x y=>x.1=y.1∧a0s P env S w x.2 y.2) parts vps.toList) (h:c6k P T parts=some x):
  ∃v,(Instr.build T vps).run P w= .ok v w∧a0s P env S w x v:=by
 unfold c6k at h;split at h
 ·rename_i z fs hz hu
  obtain ⟨i,v,hi,hzv,hzr,_,_⟩:=a2p (env:=env) (S:=S) (w:=w) hz;cases hall:fs.toList.all fun f=>(P.info? f.type).isSome with
  |false=>rw [hall] at h;cases h
  | true=>
   rw [hall] at h;simp only [Bool.not_true,cond_false] at h;split at h
   ·rename_i cs hf
    simp only [e55] at h;subst h;obtain ⟨us',h1,h2⟩:=a78 (pl:=fun x=>(fs.toList.map fun f=>(f.offset,a0a P f.type)).toArray[x]?) (us:=v.cells) (fun i off T hpl=>by
     rw [List.getElem?_map] at hpl;cases hfi:fs.toList[i]? with
     |none=>rw [hfi] at hpl;cases hpl
     |some f=>
      rw [hfi] at hpl;simp only [e6r,e55,e6q] at hpl;obtain ⟨rfl,rfl⟩:=hpl;simp only [List.getElem?_toArray,List.getElem?_map,hfi,e6r]) hp hzr hf
    refine ⟨.agg us',run_build w T vps us' ?_,us',rfl,h2⟩;unfold Program.built;simp only [hi,hu,hzv,c0P fs.toList hall];exact h1
   ·cases h
 ·rename_i z len e hz hu
  obtain ⟨i,v,hi,hzv,hzr,_,_⟩:=a2p (env:=env) (S:=S) (w:=w) hz;cases hie:P.info? e with
  |none=>rw [hie] at h;cases h
  | some ie=>
   rw [hie] at h;simp only [e6e,Bool.not_true,cond_false] at h;split at h
   ·rename_i cs hf
    simp only [e55] at h;subst h;have hse:a0a P e=ie.size:=by simp [a0a,hie]
    obtain ⟨us',h1,h2⟩:=a78 (pl:=fun i=>some (i*ie.size,ie.size)) (us:=v.cells) (fun i off T hpl=>by
     rw [List.getElem?_map] at hpl;by_cases hil:i<len
     ·rw [List.getElem?_range hil] at hpl
      simp only [e6r,e55,e6q] at hpl;obtain ⟨rfl,rfl⟩:=hpl;rw [hse]
     ·rw [List.getElem?_eq_none (by simpa using hil)] at hpl;cases hpl) hp hzr hf
    refine ⟨.agg us',run_build w T vps us' ?_,us',rfl,h2⟩;unfold Program.built;simp only [hi,hu,hzv,hie];exact h1
   ·cases h
 ·cases h
theorem c97 {T:TypeId} {xs:List C} {us:Array Value} {off:Nat} {c:C} (hr:All2 (a0j P env S w) xs us.toList) (ht:tyB P T=true) (ha:a0d P T=false) (hc:xs[off]? =some c):
  ∃v,(part T us off).run P w= .ok v w∧a0j P env S w c v:=by
 obtain ⟨u,hu,hcr⟩:=hr.get hc;have hu':us[off]? =some u:=by simpa using hu
 refine ⟨u,?_,hcr⟩;unfold part;simp only [e6b,a6n ht,e58,ha,Bool.false_eq_true,if_false,hu',e6c]
theorem b8w {T:TypeId} {x y:V} {v:Value} {f:Nat} (hx:a0s P env S w x v) (h:c6i P T x f=some y):∃u,(Instr.field T v f).run P w= .ok u w∧a0s P env S w y u:=by
 unfold c6i at h;split at h
 ·rename_i fs cs hu
  obtain ⟨us,rfl,hr⟩:=hx;split at h
  ·rename_i fd hf
   simp only [Instr.field,e6b,run_underlying hu,e58,hf,asAgg,e6c];cases ha:a0d P fd.type with
   |true=>
    rw [ha] at h;simp only [cond_true,e55] at h;subst h;obtain ⟨u,h1,h2⟩:=a21 (off:=fd.offset) hr (c0O ha) fun h=>by rw [ha] at h;cases h
    refine ⟨u,h1,?_⟩;rcases h2 with ⟨_,h2⟩|⟨h2,_⟩
    ·exact h2
    ·rw [ha] at h2;cases h2
   | false=>
    rw [ha] at h;simp only [cond_false] at h;cases ht:tyB P fd.type with
    |false=>rw [ht] at h;cases h
    | true=>
     rw [ht] at h;simp only [cond_true] at h;split at h
     ·rename_i c hc
      simp only [e55] at h;subst h;exact c97 hr ht ha hc
     ·cases h
  ·cases h
 ·cases h
end
section
variable {P:Program} {env:Env} {S:a0A} {w:World} {mem:AL Obj}
def a0Y (P:Program) (env:Env) (S:a0A) (mem:AL Obj):Prop:=
 ∀key e xs,get mem key=some (.row e false false xs)→ ∀o,o<xs.length*a0a P e→S (env key).blk o
theorem a54 {i n s j:Nat} (hi:i<n) (hj:j<s):i*s+j<n*s:=by
 have:(i+1)*s≤n*s:=Nat.mul_le_mul_right _ hi;rw [Nat.add_mul,Nat.one_mul] at this;omega
theorem c2t (hob:∀key o,get mem key=some o→a0x P env S w (env key) o) (hst:a0Y P env S mem) {key:Nat} {e:TypeId} {n:Bool} {xs:List D} (hg:get mem key=some (.row e false n xs)):
  a1D P w S (.sl e) (.l n xs) (env key).hdr:=by
 obtain ⟨h0,⟨rfl,rfl,h1⟩|⟨rfl,hb,cap,cur,h1,h2,h3,h4,h5,h6⟩⟩:=hob _ _ hg
 ·rw [h1];exact .nil e _ rfl rfl
 ·rw [h1]
  refine .sl e (.l false xs) (env key).blk 0 cap (fun i j=>(w.cell? ⟨(env key).blk,i*a0a P e+j,none⟩).getD undef) rfl h0 h3 h4 ?_ ?_
  ·intro i hi j hj
   obtain ⟨k,hk⟩:∃k,(kinds P e)[j]? =some k:=⟨_,e6j hj⟩;obtain ⟨u,hu,_⟩:=h6 i j k hi hk;have hc:=h2.cell hu;rw [Nat.zero_add,hc];exact ⟨hst key e xs hg _ (a54 hi (h0▸hj)),rfl⟩
  ·intro i hi j k hk
   obtain ⟨u,hu,hr⟩:=h6 i j k hi hk;rw [h2.cell hu];exact hr
theorem a8P (hob:∀key o,get mem key=some o→a0x P env S w (env key) o) (hst:a0Y P env S mem) {k:CK} {c:C} {d:D} {v:Value} (hc:a0j P env S w c v) (h:fit mem k c=some d):a1D P w S k d v:=by
 unfold fit at h;split at h
 ·rename_i k k' n
  cases hk:k==k' with
  |false=>rw [hk] at h;cases h
  |true=>
   rw [hk] at h;have:=eq_of_beq hk;subst this;simp only [cond_true,e55] at h;simp only [a0j] at hc;subst h hc;exact .int k (.i n)
 ·simp only [e55] at h;simp only [a0j] at hc;subst h hc;exact .bool (.b _)
 ·simp only [e55] at h;simp only [a0j] at hc;subst h hc;exact .bool (.b _)
 ·simp only [e55] at h;simp only [a0j] at hc;subst h hc;exact .str (.s _)
 ·rename_i e e' n xs
  cases he:Nat.beq e e' with
  |false=>rw [he] at h;cases h
  |true=>
   rw [he] at h;have:=e56 he;subst this;simp only [cond_true,e55] at h;subst h;exact hc
 ·simp only [e55] at h;simp only [a0j] at hc;subst h hc;exact .nil _ _ rfl rfl
 ·rename_i e key
  split at h
  ·rename_i e' n xs hg
   cases he:Nat.beq e e' with
   |false=>rw [he] at h;cases h
   |true=>
    rw [he] at h;have:=e56 he;subst this;simp only [cond_true,e55] at h;simp only [a0j] at hc;subst h hc;exact c2t hob hst hg
  ·cases h
 ·simp only [e55] at h;simp only [a0j,List.map_nil] at hc;subst h hc;exact .oth (.i _)
 ·simp only [e55] at h;simp only [a0j] at hc;subst h hc;exact .oth (.b true)
 ·cases h
theorem a6Z (hob:∀key o,get mem key=some o→a0x P env S w (env key) o) (hst:a0Y P env S mem):∀{ks:List CK} {cs:List C} {ds:List D} {us:List Value},All2 (a0j P env S w) cs us→c0G mem ks cs=some ds→
  ks.length=us.length∧ ∀(j:Nat) (k:CK),ks[j]? =some k→ ∃u,us[j]? =some u∧a1D P w S k (ds.getD j (.i 0)) u
 | [],[],ds,us,hr,h=>by cases us with
  |nil=>exact ⟨rfl,fun j k hk=>by simp at hk⟩
  |cons=>exact hr.elim
 | [],_::_,ds,us,hr,h=>by simp [c0G] at h
 |_::_,[],ds,us,hr,h=>by simp [c0G] at h
 | k ::ks,c::cs,ds,us,hr,h=>by
  cases us with
  |nil=>exact hr.elim
  | cons u us=>
   simp only [c0G] at h;split at h
   ·rename_i d hd
    split at h
    ·rename_i ds' hds
     simp only [e55] at h;subst h;obtain ⟨h1,h2⟩:=a6Z hob hst hr.2 hds;refine ⟨by simp [h1],fun j k' hk'=> ?_⟩
     cases j with
     |zero=>
      simp only [List.getElem?_cons_zero,e55] at hk';subst hk';exact ⟨u,by simp,by simpa using a8P hob hst hr.1 hd⟩
     |succ j=>
      obtain ⟨u',h3,h4⟩:=h2 j k' (by simpa using hk')
      exact ⟨u',by simpa using h3,by simpa using h4⟩
    ·cases h
   ·cases h
theorem a4Z (hob:∀key o,get mem key=some o→a0x P env S w (env key) o) (hst:a0Y P env S mem) {e:TypeId} {x:V} {d:D} {v:Value} (hx:a0s P env S w x v) (h:asD P mem e x=some d):
  (kinds P e).length=v.cells.size∧ ∀(j:Nat) (k:CK),(kinds P e)[j]? =some k→ ∃u,v.cells[j]? =some u∧a1D P w S k (elD P e d j) u:=by
 unfold asD at h;cases ha:a0d P e with
 | true=>
  rw [ha] at h;simp only [cond_true] at h;split at h
  ·obtain ⟨us,rfl,hr⟩:=hx
   split at h
   ·rename_i cs ds hds
    simp only [e55] at h;subst h;obtain ⟨h1,h2⟩:=a6Z hob hst hr hds;refine ⟨(show (kinds P e).length=us.size by simpa using h1),fun j k hk=> ?_⟩
    obtain ⟨u,h3,h4⟩:=h2 j k hk;exact ⟨u,(show us[j]? =some u by simpa using h3),by unfold elD;rw [ha];exact h4⟩
   ·cases h
  ·cases h
 | false=>
  rw [ha] at h;simp only [cond_false] at h;split at h
  ·rename_i c k hk
   have hr:=a8P hob hst hx h;have hcells:v.cells= #[v]:=by cases hr<;>first|rfl|exact b3g _
   rw [hk,hcells];refine ⟨rfl,fun j k' hk'=> ?_⟩
   cases j with
   |zero=>
    simp only [List.getElem?_cons_zero,e55] at hk';subst hk';exact ⟨v,by simp,by unfold elD;rw [ha];exact hr⟩
   |succ j=>simp at hk'
  ·cases h
theorem b1E {e:TypeId} {d:D} {us:List Value} (h0:(kinds P e).length=us.length) (h:∀(j:Nat) (k:CK),(kinds P e)[j]? =some k→ ∃u,us[j]? =some u∧a1D P w S k (elD P e d j) u):All2 (a0j P env S w) (a0E P e d) us:=by
 refine .of_get (by rw [a4M,h0]) fun j x y hx hy=> ?_
 rw [getElem?_elCells] at hx;cases hk:(kinds P e)[j]? with
 |none=>rw [hk] at hx;cases hx
 |some k=>
  rw [hk] at hx;simp only [e6r,e55] at hx;obtain ⟨u,h1,h2⟩:=h j k hk;rw [hy] at h1;simp only [e55] at h1;subst h1 hx;exact a8N h2
theorem a1R (hob:∀key o,get mem key=some o→a0x P env S w (env key) o) (hst:a0Y P env S mem) {e:TypeId} {x:V} {d:D} {v:Value} (hx:a0s P env S w x v) (h:asD P mem e x=some d):a0s P env S w (a1L P e d) v:=by
 obtain ⟨h1,h2⟩:=a4Z hob hst hx h;have hall:=b1E (env:=env) (us:=v.cells.toList) (by simpa using h1) (fun j k hk=>let ⟨u,a,b⟩:=h2 j k hk;⟨u,by simpa using a,b⟩)
 unfold asD at h;unfold a1L;cases ha:a0d P e with
 | true=>
  rw [ha] at h;simp only [cond_true] at h⊢;split at h
  ·obtain ⟨us,rfl,hr⟩:=hx
   exact ⟨us,rfl,hall⟩
  ·cases h
 | false=>
  rw [ha] at h;simp only [cond_false] at h⊢;split at h
  ·rename_i c k hk
   have hr:=a8P hob hst hx h;have hcells:v.cells= #[v]:=by cases hr<;>first|rfl|exact b3g _
   rw [hcells] at hall;have he:a0E P e d=[mkC k d]:=by unfold a0E;rw [ha,hk];rfl
   rw [he] at hall⊢;exact hall.1
  ·cases h
theorem a27 {T:TypeId} {d:D} {v:Value} {n:Nat} {ys:List C} {r:Bool} (h:a0s P env S w (a1L P T d) v) (he:eqT P n T (a0E P T d) ys=some r):ofT P env S w T (a0E P T d) v:=by
 unfold a1L at h;cases ha:a0d P T with
 |true=>rw [ha] at h;exact .inl ⟨ha,h⟩
 |false=>
  rw [ha] at h;simp only [cond_false] at h;have h1:=(a74 ha he).1;match hc:a0E P T d,h1 with
  | [c],_=>rw [hc] at h;exact .inr ⟨ha,c,rfl,h⟩
theorem b3p {T:TypeId} {d:D} {v:Value} {n:Nat} {xs:List C} {r:Bool} (h:a0s P env S w (a1L P T d) v) (he:eqT P n T xs (a0E P T d)=some r):ofT P env S w T (a0E P T d) v:=by
 unfold a1L at h;cases ha:a0d P T with
 |true=>rw [ha] at h;exact .inl ⟨ha,h⟩
 |false=>
  rw [ha] at h;simp only [cond_false] at h;have h1:=(a74 ha he).2;match hc:a0E P T d,h1 with
  | [c],_=>rw [hc] at h;exact .inr ⟨ha,c,rfl,h⟩
theorem a1v (em:Bool):∀(n:Nat) (T:TypeId) (xs ys:List C) (r:Bool) (v:Value),eqT P n T xs ys=some r→ofT P env S w T xs v→ ∀d,n≤d→(Instr.checkKey em d T v).run P w= .ok () w
 |0,_,_,_,_,_,h,_,_,_=>by simp [eqT] at h
 | n + 1,T,xs,ys,r,v,h,hx,d,hd=>by
  obtain ⟨d',rfl⟩:∃d',d=d'+1:=⟨d-1,by omega⟩
  simp only [eqT] at h;split at h
  ·rename_i k hu
   have ha:a0d P T=false:=by unfold a0d;rw [hu]
   obtain ⟨k',a,b,rfl,rfl,rfl⟩:=a23 h;have h1:=a1h ha hx;simp only [a0j] at h1;subst h1;simp [Instr.checkKey,run_underlying hu]
  ·rename_i hu
   have ha:a0d P T=false:=by unfold a0d;rw [hu]
   obtain ⟨c,e,a,b,rfl,rfl,h3,h4,rfl⟩:=a2x h;have h1:=a2o h3 (a1h ha hx);subst h1;simp [Instr.checkKey,run_underlying hu]
  ·rename_i hu
   have ha:a0d P T=false:=by unfold a0d;rw [hu]
   obtain ⟨a,b,rfl,rfl,rfl⟩:=a26 h;have h1:=a1h ha hx;simp only [a0j] at h1;subst h1;simp [Instr.checkKey,run_underlying hu]
  ·rename_i fs hu
   have ha:a0d P T=true:=by unfold a0d;rw [hu]
   cases hs:P.stoodInHeld T with
   |true=>rw [hs] at h;cases h
   | false=>
    rw [hs] at h;simp only [cond_false] at h;rcases hx with ⟨_,us,rfl,hx⟩|⟨hx1,_⟩
    ·simp only [Instr.checkKey,e6b,run_underlying hu,e58]
     rw [←Array.forIn_toList];generalize fs.toList=l at h;clear hu ha hs;induction l generalizing r with
     |nil=>simp
     | cons f l ih=>
      simp only [List.foldr_cons] at h;cases hn:f.name== "_" with
      |true=>rw [hn] at h;cases h
      |false=>
       rw [hn] at h;simp only [cond_false] at h;obtain ⟨a,b,h1,h2,rfl⟩:=a20 h;have hne:f.name≠ "_" :=by simpa using hn
       obtain ⟨v1,r1,o1⟩:=a21 hx (b5j h1) fun ha=>(a74 ha h1).1
       have h3:=a1v em n _ _ _ _ _ h1 o1 d' (by omega)
       simp only [List.forIn_cons,hne,ne_eq,not_false_eq_true,if_true,e6b,r1,e58,h3,e6c];exact ih b h2
    ·rw [ha] at hx1;cases hx1
  ·rename_i len e hu
   have ha:a0d P T=true:=by unfold a0d;rw [hu]
   rcases hx with ⟨_,us,rfl,hx⟩|⟨hx1,_⟩
   ·cases ht:tyB P e with
    |false=>rw [ht] at h;cases h
    | true=>
     rw [ht] at h;simp only [cond_true] at h;simp only [Instr.checkKey,e6b,run_underlying hu,e58];rw [Std.Legacy.Range.forIn_eq_forIn_range'];have hl:([0:len]:Std.Legacy.Range).size=len:=by simp [Std.Legacy.Range.size]
     rw [hl];rw [List.range_eq_range'] at h;show (Sem.run P (forIn (List.range' 0 len 1) _ _) w).andThen _=_;generalize List.range' 0 len 1=is at h;clear hl hu ha;induction is generalizing r with
     |nil=>simp
     |cons i is ih=>
      simp only [List.foldr_cons] at h;obtain ⟨a,b,h1,h2,rfl⟩:=a20 h;obtain ⟨v1,r1,o1⟩:=a21 hx (b5j h1) fun ha=>(a74 ha h1).1
      have h3:=a1v em n _ _ _ _ _ h1 o1 d' (by omega)
      simp only [List.forIn_cons,e6b,a0J ht,r1,e58,h3,e6c];exact ih b h2
   ·rw [ha] at hx1;cases hx1
  ·cases h
end
section
variable {P:Program} {env:Env} {S:a0A} {w:World} {mem:AL Obj}
def b8h (P:Program) (T:TypeId) (k:D):List (D×D)→Option (Option Nat)
 | []=>some none
 |(k',_)::r=>match eqD P T k k',b8h P T k r with
  |some e,some o=>some (bif e then some 0 else o.map (· +1))
  |_,_=>none
def ShC (c c':C):Prop:=∃k d d',c=mkC k d∧c'=mkC k d'
theorem b5k (T:TypeId) (x y:D):All2 ShC (a0E P T x) (a0E P T y):=by
 refine .of_get ?_ fun j c c' hc hc'=> ?_
 ·have h1:∀z,(a0E P T z).length=if a0d P T=true then (kinds P T).length else min 1 (kinds P T).length:=by
   intro z;unfold a0E;cases a0d P T with
   | true=>
    have:∀(ks:List CK) (j:Nat),(d32 z j ks).length=ks.length:=by
     intro ks;induction ks with
     |nil=>intro j;rfl
     |cons k r ih=>intro j;simp [d32,ih]
    simp [this]
   |false=>cases kinds P T<;>simp<;>omega
  rw [h1,h1]
 ·rw [getElem?_elCells] at hc hc'
  cases hk:(kinds P T)[j]? with
  |none=>rw [hk] at hc;cases hc
  |some k=>
   rw [hk] at hc hc';simp only [e6r,e55] at hc hc';exact ⟨k,_,_,hc.symm,hc'.symm⟩
theorem b8x (a b:Option Bool):(a6f a b).isSome=(a.isSome&&b.isSome):=by cases a<;>cases b<;>rfl
theorem a28 (d:D):mkC .oth d= .v .nilFunc∨ ∃n,mkC .oth d= .f n []:=by
 show (bif d.toB then C.v .nilFunc else C.f d.toI.toNat [])=_∨ ∃n,(bif d.toB then C.v .nilFunc else C.f d.toI.toNat [])=_
 cases d.toB
 ·exact .inr ⟨_,rfl⟩
 ·exact .inl rfl
theorem c98 {xs xs' ys ys':List C} (hx:All2 ShC xs xs') (hy:All2 ShC ys ys'):(a8G xs ys).isSome=(a8G xs' ys').isSome:=by
 match xs,xs',hx with
 | [],[],_=>rfl
 |_::_::_,_::_::_,_=>simp [a8G]
 | [c],[c'],hx=>
  obtain ⟨⟨k,d,d',rfl,rfl⟩,_⟩:=hx;match ys,ys',hy with
  | [],[],_=>simp [a8G]
  |_::_::_,_::_::_,_=>simp [a8G]
  | [e],[e'],hy=>
   obtain ⟨⟨k2,d2,d2',rfl,rfl⟩,_⟩:=hy;have o1:=a28 d;have o2:=a28 d';have o3:=a28 d2;have o4:=a28 d2';cases k<;>cases k2<;>first
    |(simp [a8G,mkC];done)
    |(rename_i a b;simp [a8G,mkC];cases a==b<;>rfl)
    |(rcases o1 with o1|⟨_,o1⟩<;>rcases o2 with o2|⟨_,o2⟩<;>rcases o3 with o3|⟨_,o3⟩<;>rcases o4 with o4|⟨_,o4⟩<;>simp only [o1,o2,o3,o4]<;>simp [a8G,mkC])
    |(rcases o1 with o1|⟨_,o1⟩<;>rcases o2 with o2|⟨_,o2⟩<;>simp only [o1,o2]<;>simp [a8G,mkC])
    |(rcases o3 with o3|⟨_,o3⟩<;>rcases o4 with o4|⟨_,o4⟩<;>simp only [o3,o4]<;>simp [a8G,mkC])
theorem c99 {xs xs' ys ys':List C} (hx:All2 ShC xs xs') (hy:All2 ShC ys ys'):(b0e xs ys).isSome=(b0e xs' ys').isSome:=by
 match xs,xs',hx with
 | [],[],_=>rfl
 |_::_::_,_::_::_,_=>simp [b0e]
 | [c],[c'],hx=>
  obtain ⟨⟨k,d,d',rfl,rfl⟩,_⟩:=hx;match ys,ys',hy with
  | [],[],_=>simp [b0e]
  |_::_::_,_::_::_,_=>simp [b0e]
  | [e],[e'],hy=>
   obtain ⟨⟨k2,d2,d2',rfl,rfl⟩,_⟩:=hy;have o1:=a28 d;have o2:=a28 d';have o3:=a28 d2;have o4:=a28 d2';cases k<;>cases k2<;>first
    |(simp [b0e,mkC];done)
    |(rcases o1 with o1|⟨_,o1⟩<;>rcases o2 with o2|⟨_,o2⟩<;>rcases o3 with o3|⟨_,o3⟩<;>rcases o4 with o4|⟨_,o4⟩<;>simp only [o1,o2,o3,o4]<;>simp [b0e,mkC])
    |(rcases o1 with o1|⟨_,o1⟩<;>rcases o2 with o2|⟨_,o2⟩<;>simp only [o1,o2]<;>simp [b0e,mkC])
    |(rcases o3 with o3|⟨_,o3⟩<;>rcases o4 with o4|⟨_,o4⟩<;>simp only [o3,o4]<;>simp [b0e,mkC])
theorem c6J {xs xs' ys ys':List C} (hx:All2 ShC xs xs') (hy:All2 ShC ys ys'):(a4t xs ys).isSome=(a4t xs' ys').isSome:=by
 match xs,xs',hx with
 | [],[],_=>rfl
 |_::_::_,_::_::_,_=>simp [a4t]
 | [c],[c'],hx=>
  obtain ⟨⟨k,d,d',rfl,rfl⟩,_⟩:=hx;match ys,ys',hy with
  | [],[],_=>simp [a4t]
  |_::_::_,_::_::_,_=>simp [a4t]
  | [e],[e'],hy=>
   obtain ⟨⟨k2,d2,d2',rfl,rfl⟩,_⟩:=hy;have o1:=a28 d;have o2:=a28 d';have o3:=a28 d2;have o4:=a28 d2';cases k<;>cases k2<;>first
    |(simp [a4t,mkC,b4U];done)
    |(rcases o1 with o1|⟨_,o1⟩<;>rcases o2 with o2|⟨_,o2⟩<;>rcases o3 with o3|⟨_,o3⟩<;>rcases o4 with o4|⟨_,o4⟩<;>simp only [o1,o2,o3,o4]<;>simp [a4t,mkC,b4U])
    |(rcases o1 with o1|⟨_,o1⟩<;>rcases o2 with o2|⟨_,o2⟩<;>simp only [o1,o2]<;>simp [a4t,mkC,b4U])
    |(rcases o3 with o3|⟨_,o3⟩<;>rcases o4 with o4|⟨_,o4⟩<;>simp only [o3,o4]<;>simp [a4t,mkC,b4U])
theorem b3q {α:Type} {f g:α→Option Bool} {stop:α→Bool} {l:List α} (h:∀x∈l,(f x).isSome=(g x).isSome):
  (l.foldr (fun x r=>bif stop x then none else a6f (f x) r) (some true)).isSome=(l.foldr (fun x r=>bif stop x then none else a6f (g x) r) (some true)).isSome:=by
 induction l with
 |nil=>rfl
 |cons x l ih=>
  simp only [List.foldr_cons];cases stop x with
  |true=>rfl
  |false=>simp only [cond_false,b8x];rw [h x (by simp),ih fun y hy=>h y (by simp [hy])]
theorem b1F {α:Type} {f g:α→Option Bool} {l:List α} (h:∀x∈l,(f x).isSome=(g x).isSome):
  (l.foldr (fun x r=>a6f (f x) r) (some true)).isSome=(l.foldr (fun x r=>a6f (g x) r) (some true)).isSome:=by
 induction l with
 |nil=>rfl
 |cons x l ih=>
  simp only [List.foldr_cons,b8x];rw [h x (by simp),ih fun y hy=>h y (by simp [hy])]
theorem c6K:∀(n:Nat) (T:TypeId) {xs xs' ys ys':List C},All2 ShC xs xs'→All2 ShC ys ys'→(eqT P n T xs ys).isSome=(eqT P n T xs' ys').isSome
 |0,_,_,_,_,_,_,_=>rfl
 | n+1,T,xs,xs',ys,ys',hx,hy=>by
  simp only [eqT];split
  ·exact c98 hx hy
  ·exact c6J hx hy
  ·exact c99 hx hy
  ·cases P.stoodInHeld T with
   |true=>rfl
   |false=>
    simp only [cond_false];exact b3q fun f _=>c6K n f.type ((hx.drop _).take _) ((hy.drop _).take _)
  ·rename_i len e _
   cases tyB P e with
   |false=>rfl
   |true=>
    simp only [cond_true];exact b1F fun i _=>c6K n e ((hx.drop _).take _) ((hy.drop _).take _)
  ·rfl
theorem e0N (T:TypeId) (x y x' y':D):(eqD P T x y).isSome=(eqD P T x' y').isSome:=c6K 12 T (b5k T x x') (b5k T y y')
theorem e0O {T:TypeId} {k:D} {b:Bool} (h:eqD P T k k=some b) (x y:D):eqD P T x y=some (eqB P T x y):=by
 have:=e0N (P:=P) T x y k k;rw [h] at this;obtain ⟨c,hc⟩:=Option.isSome_iff_exists.1 (this.trans rfl);unfold eqB;rw [hc];rfl
theorem c0Q {T:TypeId} {k:D} {b:Bool} (h:eqD P T k k=some b):∀(es:List (D×D)),c4E P T k es=some (a2R P T k es)
 | []=>rfl
 |(k',v)::r=>by
  simp only [c4E,a2R,e0O h,c0Q h r]
theorem c6L {T:TypeId} {k v:D} {b:Bool} (h:eqD P T k k=some b):∀(es:List (D×D)),d48 P T k v es=some (c6n P T k v es)
 | []=>rfl
 |(k',v')::r=>by
  simp only [d48,c6n,e0O h,c6L h r]
theorem c6M {T:TypeId} {k:D}:∀{es:List (D×D)} {i:Nat} {x:D×D},b8h P T k es=some (some i)→es[i]? =some x→eqD P T k x.1=some true
 | [],i,x,h,_=>by simp [b8h] at h
 | (k',v)::r,i,x,h,hx=>by
  simp only [b8h] at h;split at h
  ·rename_i e o he ho
   simp only [e55] at h;cases e with
   |true=>
    simp only [cond_true,e55] at h;subst h;simp only [List.getElem?_cons_zero,e55] at hx;subst hx;exact he
   |false=>
    simp only [cond_false,Option.map_eq_some_iff] at h;obtain ⟨j,rfl,rfl⟩:=h;exact c6M ho (by simpa using hx)
  ·cases h
theorem b3r {T:TypeId} {k:D}:∀{es:List (D×D)} {o:Option D},c4E P T k es=some o→ ∃p,b8h P T k es=some p∧(∀i,p=some i→i<es.length)∧o=p.bind fun i=>(es[i]?).map (·.2)
 | [],o,h=>by simp only [c4E,e55] at h;subst h;exact ⟨none,rfl,by simp,rfl⟩
 | (k',v)::r,o,h=>by
  simp only [c4E] at h;split at h
  ·rename_i e he
   split at h
   ·rename_i o' ho'
    obtain ⟨p,h1,h2,h3⟩:=b3r ho';simp only [e55] at h;subst h;refine ⟨bif e then some 0 else p.map (· +1),by simp only [b8h,he,h1],?_,?_⟩
    ·intro i hi
     cases e with
     |true=>simp at hi;subst hi;simp
     |false=>
      simp only [cond_false,Option.map_eq_some_iff] at hi;obtain ⟨j,hj,rfl⟩:=hi;have:=h2 j hj;simp;omega
    ·cases e with
     |true=>simp
     |false=>simp only [cond_false];rw [h3];cases p<;>simp
   ·cases h
  ·cases h
theorem c2u {T:TypeId} {k v:D}:∀{es es':List (D×D)},d48 P T k v es=some es'→ ∃p,b8h P T k es=some p∧(∀i,p=some i→i<es.length)∧es'=(match p with|some i=>es.set i (k,v)|none=>es++[(k,v)])
 | [],es',h=>by simp only [d48,e55] at h;subst h;exact ⟨none,rfl,by simp,rfl⟩
 | (k',v')::r,es',h=>by
  simp only [d48] at h;split at h
  ·rename_i e r' he hr'
   obtain ⟨p,h1,h2,h3⟩:=c2u hr';simp only [e55] at h;subst h;refine ⟨bif e then some 0 else p.map (· +1),by simp only [b8h,he,h1],?_,?_⟩
   ·intro i hi
    cases e with
    |true=>simp at hi;subst hi;simp
    |false=>
     simp only [cond_false,Option.map_eq_some_iff] at hi;obtain ⟨j,hj,rfl⟩:=hi;have:=h2 j hj;simp;omega
   ·cases e with
    |true=>simp
    |false=>simp only [cond_false];rw [h3];cases p<;>simp
  ·cases h
def a1w (L:List MapEntry) (i0:Nat) (p:Option Nat):Option (Nat×Value):=p.map fun i=>(i0+i,(L.getD i default).val)
def c2v (P:Program) (env:Env) (S:a0A) (w:World) (kt:TypeId) (x:D×D) (e:MapEntry):Prop:=∃kd,a0s P env S w (a1L P kt kd) e.key∧EqK P kt x.1 kd
theorem a7S {kt:TypeId} {k:D} {kv:Value} (hk:a0s P env S w (a1L P kt k) kv):∀{es:List (D×D)} {L:List MapEntry} {p:Option Nat} (i0:Nat),All2 (c2v P env S w kt) es L→b8h P kt k es=some p→
  (Instr.findAsking kt kv L i0).run P w= .ok (a1w L i0 p) w
 | [],L,p,i0,hr,h=>by
  cases L with
  |nil=>simp only [b8h,e55] at h;subst h;simp [Instr.findAsking,a1w]
  |cons=>exact hr.elim
 | (k',v')::r,L,p,i0,hr,h=>by
  cases L with
  |nil=>exact hr.elim
  | cons en L=>
   simp only [b8h] at h;split at h
   ·rename_i e o he ho
    simp only [e55] at h;subst h;obtain ⟨kd',hkd',hke⟩:=hr.1;have he:eqD P kt k kd'=some e:=(hke k).symm.trans he;have heq:=b3o 12 kt _ _ e kv en.key he (a27 hk he) (b3p hkd' he) Op.maxDepth (by decide)
    simp only [Instr.findAsking,e6b,Op.equal,heq,e58];cases e with
    |true=>simp [a1w]
    |false=>
     simp only [Bool.false_eq_true,if_false,cond_false];rw [a7S hk (i0+1) hr.2 ho];cases o with
     |none=>simp [a1w]
     |some i=>simp [a1w];omega
   ·cases h
theorem d5e {n:Nat} {T:TypeId} {k:IntKind} {xs ys:List C} (hu:P.underlying T=some (.int k)):eqT P (n+1) T xs ys=a8G xs ys:=by simp only [eqT,hu]
theorem d0a {n:Nat} {T:TypeId} {xs ys:List C} (hu:P.underlying T=some .bool):eqT P (n+1) T xs ys=a4t xs ys:=by simp only [eqT,hu]
theorem d5f {n:Nat} {T:TypeId} {xs ys:List C} (hu:P.underlying T=some .string):eqT P (n+1) T xs ys=b0e xs ys:=by simp only [eqT,hu]
theorem a7T {kt:TypeId} {k:D} {kv:Value} {kind:TypeDesc} (hu:P.underlying kt=some kind) (hs:(match kind with| .int _| .bool| .string=>true|_=>false)=true) (hk:a0s P env S w (a1L P kt k) kv):
  ∀{es:List (D×D)} {L:List MapEntry} {p:Option Nat} (i0:Nat),All2 (c2v P env S w kt) es L→b8h P kt k es=some p→Instr.findNow kind kv L i0=some (a1w L i0 p)
 | [],L,p,i0,hr,h=>by
  cases L with
  |nil=>simp only [b8h,e55] at h;subst h;simp [Instr.findNow,a1w]
  |cons=>exact hr.elim
 | (k',v')::r,L,p,i0,hr,h=>by
  cases L with
  |nil=>exact hr.elim
  | cons en L=>
   simp only [b8h] at h;split at h
   ·rename_i e o he ho
    simp only [e55] at h;subst h;obtain ⟨kd',hkd',hke⟩:=hr.1;have he:eqD P kt k kd'=some e:=(hke k).symm.trans he;have o1:=a27 hk he;have o2:=b3p hkd' he;have hsame:Instr.sameNow kind kv en.key=some e:=by
     have ha:a0d P kt=false:=by unfold a0d;rw [hu];cases kind<;>first|rfl|cases hs
     unfold eqD at he;cases kind<;>simp only at hs<;>try (cases hs;done)
     ·obtain ⟨c,d,a,b,e1,e2,h3,h4,rfl⟩:=a2x (d0a hu▸he)
      rw [e1] at o1;rw [e2] at o2;have h5:=a2o h3 (a1h ha o1);have h6:=a2o h4 (a1h ha o2);rw [h5,h6];rfl
     ·obtain ⟨k1,a,b,e1,e2,rfl⟩:=a23 (d5e hu▸he)
      rw [e1] at o1;rw [e2] at o2;have h5:kv= .int k1 a:=a1h (c:= .i k1 a) ha o1;have h6:en.key= .int k1 b:=a1h (c:= .i k1 b) ha o2;rw [h5,h6];simp [Instr.sameNow]
     ·obtain ⟨a,b,e1,e2,rfl⟩:=a26 (d5f hu▸he)
      rw [e1] at o1;rw [e2] at o2;have h5:kv= .string ⟨a.toArray⟩:=a1h (c:= .s a) ha o1;have h6:en.key= .string ⟨b.toArray⟩:=a1h (c:= .s b) ha o2;rw [h5,h6];simp only [Instr.sameNow,beq_toListBytes,a6r]
    simp only [Instr.findNow,hsame];cases e with
    |true=>simp [a1w]
    |false=>
     simp only [cond_false];rw [a7T hu hs hk (i0+1) hr.2 ho];cases o with
     |none=>simp [a1w]
     |some i=>simp [a1w];omega
   ·cases h
theorem b6c:∀(n:Nat) (T:TypeId) (xs ys zs:List C),eqT P n T xs ys=some true→eqT P n T zs xs=eqT P n T zs ys
 |0,_,_,_,_,h=>by simp [eqT] at h
 | n +1,T,xs,ys,zs,h=>by
  simp only [eqT] at h⊢;split at h
  ·rename_i k hu
   obtain ⟨k',a,b,rfl,rfl,hab⟩:=a23 h;have:a=b:=by simpa using hab.symm
   rw [this]
  ·obtain ⟨c,d,a,b,rfl,rfl,h1,h2,hab⟩:=a2x h
   have:a=b:=by simpa using hab.symm
   subst this;unfold a4t;match zs with
   | [z]=>simp only [h1,h2]
   | []=>rfl
   |_::_::_=>rfl
  ·obtain ⟨a,b,rfl,rfl,hab⟩:=a26 h
   have:a=b:=by simpa using hab.symm
   rw [this]
  ·rename_i fs hu
   cases hs:P.stoodInHeld T with
   |true=>rw [hs] at h;cases h
   | false=>
    rw [hs] at h;simp only [cond_false] at h⊢;generalize fs.toList=l at h;induction l with
    |nil=>rfl
    | cons f l ih=>
     simp only [List.foldr_cons] at h⊢;cases hn:f.name== "_" with
     |true=>rfl
     |false=>
      rw [hn] at h;simp only [cond_false] at h⊢;obtain ⟨a,b,h1,h2,hab⟩:=a20 h;have hab':a=true∧b=true:=by simpa using hab.symm
      rw [hab'.1] at h1;rw [hab'.2] at h2;rw [b6c n _ _ _ _ h1,ih h2]
  ·rename_i len e hu
   cases ht:tyB P e with
   |false=>rw [ht] at h;cases h
   | true=>
    rw [ht] at h;simp only [cond_true] at h⊢;generalize List.range len=l at h;induction l with
    |nil=>rfl
    |cons i l ih=>
     simp only [List.foldr_cons] at h⊢;obtain ⟨a,b,h1,h2,hab⟩:=a20 h;have hab':a=true∧b=true:=by simpa using hab.symm
     rw [hab'.1] at h1;rw [hab'.2] at h2;rw [b6c n _ _ _ _ h1,ih h2]
  ·cases h
theorem run_findKey {kt:TypeId} {k:D} {kv:Value} (hk:a0s P env S w (a1L P kt k) kv) (hself:∃b,eqD P kt k k=some b) {es:List (D×D)} {L:List MapEntry} {p:Option Nat} (hr:All2 (c2v P env S w kt) es L) (h:b8h P kt k es=some p):
  (Instr.findKey kt kv L).run P w= .ok (a1w L 0 p) w:=by
 obtain ⟨b,hb⟩:=hself;have ht:=b5j hb;unfold tyB at ht;cases hu:P.underlying kt with
 |none=>rw [hu] at ht;cases ht
 | some kind=>
  simp only [Instr.findKey,e6b,run_underlying hu,e58];have ask:(match Instr.findNow kind kv L 0 with|some r=>pure r|none=>Instr.findAsking kt kv L:Sem _).run P w= .ok (a1w L 0 p) w:=by
   by_cases hs:(match kind with| .int _| .bool| .string=>true|_=>false)=true
   ·rw [a7T hu hs hk 0 hr h];rfl
   ·have hn:L=[]∨Instr.findNow kind kv L 0=none:=by
     cases L with
     |nil=>exact .inl rfl
     | cons en L=>
      right;have:Instr.sameNow kind kv en.key=none:=by
       cases kind<;>first|(exact absurd rfl hs)|(simp [Instr.sameNow])
      simp [Instr.findNow,this]
    rcases hn with rfl|hn
    ·cases es with
     |nil=>simp only [b8h,e55] at h;subst h;rfl
     |cons=>exact hr.elim
    ·rw [hn];exact a7S hk 0 hr h
  exact ask
end
section
variable {P:Program} {env:Env} {S:a0A} {w:World} {mem:AL Obj}
theorem b6d {T:TypeId} {d:D} {v:Value} (h:a0s P env S w (a1L P T d) v):a4q P env S w (a1L P T d) v:=by
 unfold a1L at h⊢;cases ha:a0d P T with
 |true=>rw [ha] at h;exact h
 |false=>rw [ha] at h;simp only [cond_false] at h⊢;split at h<;>exact h
theorem b6e (hob:∀key o,get mem key=some o→a0x P env S w (env key) o) (hst:a0Y P env S mem) {T:TypeId} {x k y:V} {vx vk:Value} {ok:Bool} (hx:a0s P env S w x vx) (hk:a0s P env S w k vk) (h:c0I P mem T x k ok=some y):
  ∃v,(Instr.lookup T vx vk ok).run P w= .ok v w∧a0s P env S w y v:=by
 unfold c0I at h;split at h
 ·rename_i key kt' vt' hu
  split at h
  ·rename_i kt vt es hg
   cases hb:Nat.beq kt kt'&&Nat.beq vt vt' with
   |false=>rw [hb] at h;cases h
   | true=>
    rw [hb] at h;simp only [e57] at hb;have e1:=e56 hb.1;have e2:=e56 hb.2;subst e1 e2;simp only [cond_true] at h;split at h
    ·rename_i kd z hkd hz
     split at h
     ·rename_i b zd hb' hzd
      have hr:=c0Q hb' es;have hforms:∀(r:Option D),a1L P vt (r.getD zd)=a1L P vt (match r with|some d=>d|none=>zd)∧r.isSome=(match r with|some _=>true|none=>false):=fun r=>by cases r<;>exact ⟨rfl,rfl⟩
      simp only [e55] at h;rw [(hforms _).1,(hforms _).2] at h;generalize a2R P kt kd es=r at hr h;obtain ⟨ents,clock,hh,hents⟩:=hob _ _ hg;obtain ⟨p,hp,hpl,hpr⟩:=b3r hr;have hkv:=a1R hob hst hk hkd;have hself:∃b,eqD P kt kd kd=some b:=⟨b,hb'⟩;have hf:=run_findKey hkv hself (hents.mono fun _ _ _ h=>h.1) hp
      have hck:=a1v (w:=w) ents.isEmpty 12 kt _ _ _ vk hb' (a27 hkv hb') 10000 (by decide)
      obtain ⟨zv,hzr,hzrel⟩:=a2F (env:=env) (S:=S) (w:=w) hz;have hvx:vx= .map (some (env key).blk):=hx;subst hvx;have hget:(getObj (env key).blk).run P w= .ok (.map ents clock) w:=by
       unfold getObj;simp only [Sem.run,hh]
      simp only [Instr.lookup,e6b,run_underlying hu,e58,hget,e6c,hck,hf];cases p with
      |none=>
       simp only [Option.bind_none] at hpr;subst hpr;simp only [a1w,Option.map_none,e6b,hzr,e58,e6c];refine ⟨_,rfl,?_⟩;subst h;have hzD:=a1R hob hst hzrel hzd;cases ok with
       |true=>exact ⟨#[zv,.bool false],rfl,b6d hzD,rfl,trivial⟩
       |false=>exact hzD
      |some i=>
       have hi:=hpl i rfl;obtain ⟨en,hen,henr⟩:=hents.get (e6j hi);have hval:((ents.toList.getD i default).val)=en.val:=by rw [e6d,hen];rfl
       simp only [Option.bind_some,e6j hi,e6r] at hpr;subst hpr;simp only [a1w,e6r,hval];refine ⟨_,rfl,?_⟩;subst h;cases ok with
       |true=>exact ⟨#[en.val,.bool true],rfl,b6d henr.2,rfl,trivial⟩
       |false=>exact henr.2
     ·cases h
    ·cases h
  ·cases h
 ·cases h
theorem b8y {vt:TypeId} {z:V} {v:Value} (hz:a4K P vt=some z) (h:a0s P env S w z v):a4q P env S w z v:=by
 unfold a4K at hz;split at hz
 ·rename_i l hl
  cases ha:a0d P vt with
  |true=>rw [ha] at hz;simp only [cond_true,e55] at hz;subst hz;exact h
  |false=>
   rw [ha] at hz;simp only [cond_false] at hz;split at hz
   ·simp only [e55] at hz;subst hz;exact h
   ·cases hz
 ·cases hz
theorem b6f (hob:∀key o,get mem key=some o→a0x P env S w (env key) o) (hst:a0Y P env S mem) {T kt vt:TypeId} {key:Nat} {es:List (D×D)} {x k z:V} {vx vk:Value} {kd:D} {b:Bool} (hx:a0s P env S w x vx) (hk:a0s P env S w k vk)
  (hm:x= .c (.m key)) (hu:P.underlying T=some (.map kt vt)) (hg:get mem key=some (.map kt vt es)) (hkd:asD P mem kt k=some kd) (hz:a4K P vt=some z) (hb':eqD P kt kd kd=some b):
  ∃v,(Instr.lookup T vx vk true).run P w= .ok v w∧a0s P env S w (.t [match a2R P kt kd es with|some d=>a1L P vt d|none=>z,.c (.k (a2R P kt kd es).isSome)]) v:=by
 have hr:=c0Q hb' es;generalize a2R P kt kd es=r at hr⊢;obtain ⟨ents,clock,hh,hents⟩:=hob _ _ hg;obtain ⟨p,hp,hpl,hpr⟩:=b3r hr;have hkv:=a1R hob hst hk hkd;have hself:∃b,eqD P kt kd kd=some b:=⟨b,hb'⟩;have hf:=run_findKey hkv hself (hents.mono fun _ _ _ h=>h.1) hp
 have hck:=a1v (w:=w) ents.isEmpty 12 kt _ _ _ vk hb' (a27 hkv hb') 10000 (by decide)
 obtain ⟨zv,hzr,hzrel⟩:=a2F (env:=env) (S:=S) (w:=w) hz;subst hm;have hvx:vx= .map (some (env key).blk):=hx;subst hvx;have hget:(getObj (env key).blk).run P w= .ok (.map ents clock) w:=by
  unfold getObj;simp only [Sem.run,hh]
 simp only [Instr.lookup,e6b,run_underlying hu,e58,hget,e6c,hck,hf];cases p with
 |none=>
  simp only [Option.bind_none] at hpr;subst hpr;simp only [a1w,Option.map_none,e6b,hzr,e58,e6c];exact ⟨_,rfl, #[zv,.bool false],rfl,b8y hz hzrel,rfl,trivial⟩
 |some i=>
  have hi:=hpl i rfl;obtain ⟨en,hen,henr⟩:=hents.get (e6j hi);have hval:((ents.toList.getD i default).val)=en.val:=by rw [e6d,hen];rfl
  simp only [Option.bind_some,e6j hi,e6r] at hpr;subst hpr;simp only [a1w,e6r,hval];exact ⟨_,rfl, #[en.val,.bool true],rfl,b6d henr.2,rfl,trivial⟩
theorem b6g {R:Type} {kt vt:TypeId} {kd:D} {z:V} {k:V→Bool→Option R} (es:List (D×D)):
  c91 P kt vt kd z k es=k (match a2R P kt kd es with|some d=>a1L P vt d|none=>z) (a2R P kt kd es).isSome:=by
 induction es with
 |nil=>rfl
 |cons e r ih=>
  obtain ⟨k',v⟩:=e;simp only [c91,a2R];cases eqB P kt kd k' with
  |true=>rfl
  |false=>exact ih
theorem b3s {R:Type} {n:Int} {k:Nat→D→Option R} {r:R}:∀{xs:List D} {j:Nat},d39 n k j xs=some r→ ∃i,n=((j+i:Nat):Int)∧i<xs.length∧k (j+i) (xs.getD i (.i 0))=some r
 | [],_,h=>by cases h
 | x::xs,j,h=>by
  simp only [d39] at h;cases hb:n==(j:Int) with
  |true=>
   rw [hb] at h;exact ⟨0,by simpa using hb,by simp,h⟩
  |false=>
   rw [hb] at h;obtain ⟨i,h1,h2,h3⟩:=b3s h;exact ⟨i+1,by rw [h1];congr 1;omega,by simp;omega,by rw [show j+(i+1)=j+1+i by omega];simpa using h3⟩
theorem c4U {R:Type} {st:St} {d:Nat} {T:TypeId} {x i:V} {k:St→Option R} {r:R} (h:c4J P st d T x i k=some r):∃y,a4U P st.mem T x i=some (true,y)∧k (st.put (some d) y)=some r:=by
 have inr:∀{j:Nat} {n:Nat},j<n→inB ((j:Nat):Int) n=true:=fun {j n} hj=>by unfold inB;simp;omega
 unfold c4J at h;unfold a4U;split at h
 ·rename_i kk n e' e nl xs hu
  rw [hu];simp only;cases hb:Nat.beq e e'&&tyB P e with
  |false=>rw [hb] at h;cases h
  |true=>
   rw [hb] at h;obtain ⟨j,h1,h2,h3⟩:=b3s h;rw [Nat.zero_add] at h1;subst h1;exact ⟨.c (.el e (xs.getD j (.i 0)) 0),by simp only [cond_true,Int.toNat_natCast,inr h2],h3⟩
 ·rename_i kk n e' key hu
  rw [hu];simp only;split at h
  ·rename_i e ex nl xs hg
   try rw [hg]
   try simp only
   cases hb:Nat.beq e e'&&tyB P e with
   |false=>rw [hb] at h;cases h
   |true=>
    rw [hb] at h;obtain ⟨j,h1,h2,h3⟩:=b3s h;rw [Nat.zero_add] at h1 h3;subst h1;exact ⟨.c (.re key e j 0),by simp only [cond_true,Int.toNat_natCast,inr h2],h3⟩
  ·cases h
 ·rename_i kk n e' key m hu
  rw [hu];simp only;cases hb:Nat.beq (a0a P e') 1&&tyB P e'&&inB n m with
  |false=>rw [hb] at h;cases h
  |true=>
   rw [hb] at h;rw [e57] at hb;exact ⟨.c (.p key n.toNat),by rw [hb.1,hb.2];rfl,h⟩
 ·cases h
theorem a5D {i:Int} {n:Nat} (h:inB i n=true):0≤i∧i<n:=by
 unfold inB at h;simpa using h
theorem a56 (hob:∀key o,get mem key=some o→a0x P env S w (env key) o) {T:TypeId} {x ix y:V} {vx vi:Value} (hx:a0s P env S w x vx) (hi:a0s P env S w ix vi) (h:a4U P mem T x ix=some (true,y)):
  ∃v,(Instr.indexAt T vx vi).run P w= .ok v w∧a0s P env S w y v:=by
 unfold a4U at h;split at h
 ·rename_i k i
  have hvi:vi= .int k i:=hi;subst hvi;split at h
  ·rename_i e' e nl xs hu
   cases he:Nat.beq e e'&&tyB P e with
   |false=>rw [he] at h;cases h
   | true=>
    rw [he] at h;simp only [e57] at he;obtain ⟨he,hty⟩:=he;have:=e56 he;subst this;simp only [cond_true,e55,e6q] at h;obtain ⟨hb,rfl⟩:=h;obtain ⟨h0,h1⟩:=a5D hb;have hr:a1D P w S (.sl e) (.l nl xs) vx:=hx;cases hr with
    |nil e d a1 a2=>
     have:xs=[]:=a2;subst this;simp at h1;omega
    |emp e d ad cap a1 a2 am=>
     have:xs=[]:=a2;subst this;simp at h1;omega
    | sl e d b off cap cv a1 a2 a3 am a4 a5=>
     have hin:i.toNat<xs.length:=by omega
     refine ⟨.pointer (some ⟨b,off+i.toNat*a0a P e,none⟩),?_,b,off+i.toNat*a0a P e,rfl,a2,?_⟩
     ·simp only [Instr.indexAt,asIntOf,e6b,e6c,e58,run_underlying hu,D.items]
      rw [if_pos ⟨h0,h1⟩];simp only [e6b,a0J hty,e58,e6c,Addr.add_lit]
     ·intro j k hk
      have hj:j<(kinds P e).length:=(e6h.1 hk).1;obtain ⟨c1,c2⟩:=a4 i.toNat hin j hj;exact ⟨_,c1,c2,a5 i.toNat hin j k hk⟩
  ·rename_i e' key hu
   split at h
   ·rename_i e ex nl xs hg
    cases he:Nat.beq e e'&&tyB P e with
    |false=>rw [he] at h;cases h
    | true=>
     rw [he] at h;simp only [e57] at he;obtain ⟨he,hty⟩:=he;have:=e56 he;subst this;simp only [cond_true,e55,e6q] at h;obtain ⟨hb,rfl⟩:=h;obtain ⟨h0,h1⟩:=a5D hb;have hv:vx=(env key).hdr:=hx;obtain ⟨_,⟨_,rfl,_⟩|⟨_,_,cap,cur,g1,_⟩⟩:=hob _ _ hg
     ·simp at h1;omega
     ·rw [hv,g1]
      refine ⟨.pointer (some ⟨(env key).blk,i.toNat*a0a P e,none⟩),?_,by simp [a0s,a0j]⟩
      simp only [Instr.indexAt,asIntOf,e6b,e6c,e58,run_underlying hu];rw [if_pos ⟨h0,h1⟩];simp only [e6b,a0J hty,e58,e6c,Addr.add_lit,Nat.zero_add]
   ·cases h
  ·rename_i e' key n hu
   cases he:Nat.beq (a0a P e') 1&&tyB P e' with
   |false=>rw [he] at h;cases h
   |true=>
    rw [he] at h;simp only [e57] at he;obtain ⟨he,hty⟩:=he;have hs1:=e56 he;simp only [cond_true,e55,e6q] at h;obtain ⟨hb,rfl⟩:=h;obtain ⟨h0,h1⟩:=a5D hb;have hv:vx= .slice (some ⟨(env key).blk,(env key).base,none⟩) n n:=hx;rw [hv];refine ⟨.pointer (some ⟨(env key).blk,(env key).base+i.toNat,none⟩),?_,by simp [a0s,a0j]⟩
    simp only [Instr.indexAt,asIntOf,e6b,e6c,e58,run_underlying hu];rw [if_pos ⟨h0,h1⟩];simp only [e6b,a0J hty,e58,e6c,Addr.add_lit,hs1,Nat.mul_one]
  ·rename_i e' key n hu
   cases he:Nat.beq (a0a P e') 1&&tyB P e' with
   |false=>rw [he] at h;cases h
   |true=>
    rw [he] at h;simp only [e57] at he;obtain ⟨he,hty⟩:=he;have hs1:=e56 he;simp only [cond_true,e55,e6q] at h;obtain ⟨hb,rfl⟩:=h;obtain ⟨h0,h1⟩:=a5D hb;obtain ⟨cap,_,_,hv⟩:∃cap,n≤cap∧cap≤maxLen∧vx= .slice (some ⟨(env key).blk,(env key).base,none⟩) n cap:=hx;rw [hv];refine ⟨.pointer (some ⟨(env key).blk,(env key).base+i.toNat,none⟩),?_,by simp [a0s,a0j]⟩
    simp only [Instr.indexAt,asIntOf,e6b,e6c,e58,run_underlying hu];rw [if_pos ⟨h0,h1⟩];simp only [e6b,a0J hty,e58,e6c,Addr.add_lit,hs1,Nat.mul_one]
  ·rename_i len e key off hu
   cases hs:Nat.beq (a0a P e) 0 with
   |true=>rw [hs] at h;cases h
   |false=>
    rw [hs] at h;simp only [cond_false,e55,e6q] at h;obtain ⟨hb,rfl⟩:=h;obtain ⟨h0,h1⟩:=a5D hb;have hne:a0a P e≠0:=by rw [a0k] at hs;simpa using hs
    have hv:vx= .pointer (some ⟨(env key).blk,(env key).base+off,none⟩):=hx;subst hv;refine ⟨.pointer (some ⟨(env key).blk,(env key).base+off+i.toNat*a0a P e,none⟩),?_,by omega,by omega,by simp [Nat.add_assoc]⟩
    simp only [Instr.indexAt,asIntOf,e6b,e6c,e58,run_underlying hu,Instr.sureAddr];rw [if_pos ⟨h0,h1⟩];simp only [e6b,a5B (a6m hne),e58,e6c,Addr.add_lit]
  ·cases h
 ·cases h
theorem b8z {T:TypeId} {x ix y:V} {vx vi:Value} (hx:a0s P env S w x vx) (hi:a0s P env S w ix vi) (h:c6j P T x ix=some (true,y)):
  ∃v,(Instr.index T vx vi).run P w= .ok v w∧a0s P env S w y v:=by
 unfold c6j at h;split at h
 ·rename_i l k i hu
  simp only [e55,e6q] at h;obtain ⟨hb,rfl⟩:=h;obtain ⟨h0,h1⟩:=a5D hb;simp only [a0s,a0j] at hx hi;subst hx hi;have hin:i.toNat<l.length:=by omega
  refine ⟨_,?_,rfl⟩;have hget:(ByteArray.mk l.toArray)[i.toNat]? =some (l.getD i.toNat 0):=by
   have hsz:i.toNat<(ByteArray.mk l.toArray).size:=by rw [b3n];exact hin
   have e1:(ByteArray.mk l.toArray)[i.toNat]=l[i.toNat]:=rfl;rw [getElem?_pos (ByteArray.mk l.toArray) i.toNat hsz,e1,e6d,e6j hin];rfl
  simp only [Instr.index,asIntOf,e6b,e6c,e58,run_underlying hu,if_pos h0,hget]
 ·rename_i len e cs k i hu
  cases hb:a0d P e|| !Nat.beq (a0a P e) 1|| !tyB P e with
  |true=>rw [hb] at h;cases h
  | false=>
   rw [hb] at h;simp only [Bool.or_eq_false_iff,Bool.not_eq_false'] at hb;obtain ⟨⟨ha,hs1⟩,hty⟩:=hb;simp only [cond_false] at h;split at h
   ·rename_i c hp
    simp only [e55,e6q] at h;obtain ⟨hb,rfl⟩:=h;obtain ⟨h0,h1⟩:=a5D hb;have hvi:vi= .int k i:=hi;subst hvi;obtain ⟨vs,rfl,hvs⟩:=hx;obtain ⟨u,hu1,hu2⟩:=a4y hvs hp (Nat.zero_le _) (by omega)
    have hs1':=e56 hs1;simp only [Instr.index,asIntOf,e6b,e6c,e58,run_underlying hu];rw [if_pos ⟨h0,h1⟩];simp only [e6b,a0J hty,e58,hs1',Nat.mul_one];have hu':vs[i.toNat]? =some u:=by simpa using hu1
    refine ⟨u,?_,hu2⟩;unfold part;simp only [e6b,a6n hty,e58,ha,Bool.false_eq_true,if_false,hu',e6c]
   ·cases h
 ·cases h
theorem c4V (l:List UInt8) (a b:Nat):(ByteArray.mk l.toArray).extract a b=ByteArray.mk ((l.take b).drop a).toArray:=by
 apply ByteArray.ext;rw [ByteArray.data_extract];apply Array.ext';simp [List.extract_eq_take_drop,List.drop_take]
theorem a3m {a:Act} {o:Option V} {vo:Option Value} {d n:Int} (hr:(o=none∧vo=none)∨ ∃l v,o=some l∧vo=some v∧a0l P env S w a l v) (h:b02 o d=some n):(vo=none∧n=d)∨ ∃k,vo=some (.int k n):=by
 rcases hr with ⟨rfl,rfl⟩|⟨l,v,rfl,rfl,hl⟩
 ·exact .inl ⟨rfl,by simpa [b02] using h.symm⟩
 ·unfold b02 at h
  split at h
  ·rename_i he;cases he
  ·rename_i k m he
   simp only [e55] at he h;subst he h;exact .inr ⟨k,by rw [show v= .int k m from hl]⟩
  ·cases h
theorem a60 {isS:Bool} {len cap:Nat} {vlo vhi:Option Value} {a b:Int} (hlo:(vlo=none∧a=0)∨ ∃k,vlo=some (.int k a)) (hhi:(vhi=none∧b=len)∨ ∃k,vhi=some (.int k b)) (h0:0≤a) (h1:a≤b) (h2:b≤len) (h3:len≤cap):
  (Instr.sliceBounds isS len cap vlo vhi none).run P w= .ok (a.toNat,b.toNat,cap) w:=by
 have eb:(b.toNat:Int)=b:=Int.toNat_of_nonneg (by omega)
 rcases hlo with ⟨rfl,rfl⟩|⟨k,rfl⟩<;>rcases hhi with ⟨rfl,rfl⟩|⟨k',rfl⟩
 ·simp [Instr.sliceBounds]
 ·simp [Instr.sliceBounds,Instr.sliceBound,asIntOf,show 0≤b by omega,show b≤(cap:Int) by omega]
 ·simp [Instr.sliceBounds,Instr.sliceBound,asIntOf,h0,h1]
 ·simp [Instr.sliceBounds,Instr.sliceBound,asIntOf,h0,show 0≤b by omega,show b≤(cap:Int) by omega,eb,h1]
theorem b07 {ac:Act} {T:TypeId} {x y:V} {vx:Value} {lo hi:Option V} {vlo vhi:Option Value} (hx:a0s P env S w x vx)
  (hlo:(lo=none∧vlo=none)∨ ∃l v,lo=some l∧vlo=some v∧a0l P env S w ac l v) (hhi:(hi=none∧vhi=none)∨ ∃l v,hi=some l∧vhi=some v∧a0l P env S w ac l v) (h:c2h P T x lo hi=some (true,y)):
  ∃v,(Instr.sliceAt T vx vlo vhi none).run P w= .ok v w∧a0s P env S w y v:=by
 unfold c2h at h;split at h
 ·rename_i l hu
  split at h
  ·rename_i a b ha hb
   simp only [e55,e6q,e57,decide_eq_true_eq] at h;obtain ⟨⟨⟨h0,h1⟩,h2⟩,rfl⟩:=h;have hv:vx= .string ⟨l.toArray⟩:=hx;subst hv;have hr:=a60 (P:=P) (w:=w) (isS:=false) (len:=l.length) (cap:=l.length) (a3m hlo ha) (a3m hhi hb) h0 h1 h2 (Nat.le_refl _);refine ⟨.string ⟨((l.take b.toNat).drop a.toNat).toArray⟩,?_,rfl⟩;simp only [Instr.sliceAt,e6b,run_underlying hu,e58,Instr.slice,Option.isSome_none,Bool.false_eq_true,if_false,e6c,b3n,hr,c4V]
  ·cases h
 ·rename_i e' e n xs hu
  cases he:Nat.beq e e'&&tyB P e with
  |false=>rw [he] at h;cases h
  | true=>
   rw [he] at h;simp only [e57] at he;obtain ⟨he,hty⟩:=he;have:=e56 he;subst this;simp only [cond_true] at h;split at h
   ·rename_i a b ha hb
    simp only [e55,e6q,e57,decide_eq_true_eq] at h;obtain ⟨⟨⟨h0,h1⟩,h2⟩,rfl⟩:=h;have hrep:a1D P w S (.sl e) (.l n xs) vx:=hx;have key:∀(ad:Option Addr) (cap:Nat),xs.length≤cap→(Instr.sliceAt T (.slice ad xs.length cap) vlo vhi none).run P w= .ok (.slice (if cap=a.toNat then ad else ad.map (·.add (a.toNat*a0a P e))) (b.toNat-a.toNat) (cap-a.toNat)) w:=by
     intro ad cap hcap;have hr:=a60 (P:=P) (w:=w) (isS:=true) (len:=xs.length) (cap:=cap) (a3m hlo ha) (a3m hhi hb) h0 h1 h2 hcap;simp only [Instr.sliceAt,e6b,run_underlying hu,e58,Instr.slice,hr,a0J hty,e6c]
    cases hrep with
    |nil e d a1 a2=>
     have:xs=[]:=a2;subst this;have:n=true:=a1;subst this;simp only [List.length_nil,Int.natCast_zero] at h2;have hb0:b=0:=by omega
     have ha0:a=0:=by omega
     subst hb0 ha0;have:=key none 0 (by simp)
     refine ⟨_,this,?_⟩;simp only [Int.toNat_zero,if_true,Nat.sub_self,List.take_zero,List.drop_zero];exact a1D.nil e _ rfl rfl
    |emp e d ad cap a1 a2 am=>
     have:xs=[]:=a2;subst this;have:n=false:=a1;subst this;simp only [List.length_nil,Int.natCast_zero] at h2;have hb0:b=0:=by omega
     have ha0:a=0:=by omega
     subst hb0 ha0;have:=key (some ad) cap (by simp)
     refine ⟨_,this,?_⟩;simp only [Int.toNat_zero,Nat.sub_zero,Nat.zero_mul,List.take_zero,List.drop_zero,e6r,Addr.add,if_true,ite_self];exact a1D.emp e _ ad cap rfl rfl am
    | sl e d bk off cap cv a1 a2 a3 am a4 a5=>
     have hn:n=false:=a1;subst hn;have hc:xs.length≤cap:=a3;refine ⟨_,key _ cap hc,?_⟩;have hbl:b.toNat≤xs.length:=by omega
     have hab:a.toNat≤b.toNat:=by omega
     have hlen:((xs.take b.toNat).drop a.toNat).length=b.toNat-a.toNat:=by simp;omega
     by_cases hca:cap=a.toNat
     ·have hz:b.toNat-a.toNat=0:=by omega
      have hnil:(xs.take b.toNat).drop a.toNat=[]:=List.eq_nil_of_length_eq_zero (by omega)
      rw [if_pos hca,hz,hnil];exact .sl e (.l false []) bk off (cap-a.toNat) (fun _ _=>undef) rfl a2 (Nat.zero_le _) (by omega) (fun i hi=>by simp [D.items] at hi) (fun i hi=>by simp [D.items] at hi)
     ·rw [if_neg hca,←hlen]
      simp only [e6r,Addr.add_lit];refine .sl e (.l false ((xs.take b.toNat).drop a.toNat)) bk (off+a.toNat*a0a P e) (cap-a.toNat) (fun i j=>cv (a.toNat+i) j) rfl a2 (by show _≤_;simp only [D.items];omega) (by omega) ?_ ?_
      ·intro i hi j hj
       simp only [D.items,hlen] at hi;have:=a4 (a.toNat+i) (by show _<xs.length;omega) j hj
       rwa [show off+(a.toNat+i)*a0a P e+j=off+a.toNat*a0a P e+i*a0a P e+j by rw [Nat.add_mul];omega] at this
      ·intro i hi j k hk
       simp only [D.items,hlen] at hi;have:=a5 (a.toNat+i) (by show _<xs.length;omega) j k hk
       have e1:(D.l false ((xs.take b.toNat).drop a.toNat)).items.getD i (.i 0)=(D.l false xs).items.getD (a.toNat+i) (.i 0):=by
        simp only [D.items,e6d,List.getElem?_drop,List.getElem?_take];rw [if_pos (by omega)]
       rw [e1];exact this
   ·cases h
 ·cases h
theorem b3t {len cap:Nat} {vlo:Option Value} {a b m:Int} {kb km:IntKind} (hlo:(vlo=none∧a=0)∨ ∃k,vlo=some (.int k a)) (h0:0≤a) (h1:a≤b) (h2:b≤m) (h3:m≤cap):
  (Instr.sliceBounds true len cap vlo (some (.int kb b)) (some (.int km m))).run P w= .ok (a.toNat,b.toNat,m.toNat) w:=by
 have eb:(b.toNat:Int)=b:=Int.toNat_of_nonneg (by omega)
 have em:(m.toNat:Int)=m:=Int.toNat_of_nonneg (by omega)
 rcases hlo with ⟨rfl,rfl⟩|⟨k,rfl⟩
 ·simp [Instr.sliceBounds,Instr.sliceBound,asIntOf,show 0≤b by omega,show 0≤m by omega,em,h2,h3]
 ·simp [Instr.sliceBounds,Instr.sliceBound,asIntOf,h0,show 0≤b by omega,show 0≤m by omega,eb,em,h1,h2,h3]
theorem b8A {ac:Act} {T:TypeId} {x y hi mx:V} {vx vhi vmx:Value} {lo:Option V} {vlo:Option Value} (hx:a0s P env S w x vx)
  (hlo:(lo=none∧vlo=none)∨ ∃l v,lo=some l∧vlo=some v∧a0l P env S w ac l v) (hhi:a0s P env S w hi vhi) (hmx:a0s P env S w mx vmx) (h:c6l P T x lo hi mx=some (true,y)):
  ∃v,(Instr.sliceAt T vx vlo (some vhi) (some vmx)).run P w= .ok v w∧a0s P env S w y v:=by
 unfold c6l at h;split at h
 ·rename_i e' e n xs a kb b km m hu ha
  cases he:Nat.beq e e'&&tyB P e with
  |false=>rw [he] at h;cases h
  | true=>
   rw [he] at h;simp only [e57] at he;obtain ⟨he,hty⟩:=he;have:=e56 he;subst this;simp only [cond_true,e55,e6q,e57,decide_eq_true_eq] at h;obtain ⟨⟨⟨⟨h0,h1⟩,h2⟩,h3⟩,rfl⟩:=h;have hv1:vhi= .int kb b:=hhi;have hv2:vmx= .int km m:=hmx;subst hv1 hv2;have hrep:a1D P w S (.sl e) (.l n xs) vx:=hx
   have key:∀(ad:Option Addr) (cap:Nat),xs.length≤cap→(Instr.sliceAt T (.slice ad xs.length cap) vlo (some (.int kb b)) (some (.int km m))).run P w= .ok (.slice (if m.toNat=a.toNat then ad else ad.map (·.add (a.toNat*a0a P e))) (b.toNat-a.toNat) (m.toNat-a.toNat)) w:=by
    intro ad cap hcap;have hr:=b3t (P:=P) (w:=w) (len:=xs.length) (cap:=cap) (kb:=kb) (km:=km) (a3m hlo ha) h0 h1 h2 (by omega)
    simp only [Instr.sliceAt,e6b,run_underlying hu,e58,Instr.slice,hr,a0J hty,e6c]
   cases hrep with
   |nil e d a1 a2=>
    have:xs=[]:=a2;subst this;have:n=true:=a1;subst this;simp only [List.length_nil,Int.natCast_zero] at h3;have hm0:m=0:=by omega
    have hb0:b=0:=by omega
    have ha0:a=0:=by omega
    subst hb0 ha0 hm0;have:=key none 0 (by simp)
    refine ⟨_,this,?_⟩;simp only [Int.toNat_zero,if_true,Nat.sub_self,List.take_zero,List.drop_zero];exact a1D.nil e _ rfl rfl
   |emp e d ad cap a1 a2 am=>
    have:xs=[]:=a2;subst this;have:n=false:=a1;subst this;simp only [List.length_nil,Int.natCast_zero] at h3;have hm0:m=0:=by omega
    have hb0:b=0:=by omega
    have ha0:a=0:=by omega
    subst hb0 ha0 hm0;have:=key (some ad) cap (by simp)
    refine ⟨_,this,?_⟩;simp only [Int.toNat_zero,Nat.sub_zero,if_true,List.take_zero,List.drop_zero];exact a1D.emp e _ ad 0 rfl rfl (Nat.zero_le _)
   | sl e d bk off cap cv a1 a2 a3 am a4 a5=>
    have hn:n=false:=a1;subst hn;have hc:xs.length≤cap:=a3;refine ⟨_,key _ cap hc,?_⟩;have hbl:b.toNat≤xs.length:=by omega
    have hab:a.toNat≤b.toNat:=by omega
    have hlen:((xs.take b.toNat).drop a.toNat).length=b.toNat-a.toNat:=by simp;omega
    by_cases hca:m.toNat=a.toNat
    ·have hz:b.toNat-a.toNat=0:=by omega
     have hnil:(xs.take b.toNat).drop a.toNat=[]:=List.eq_nil_of_length_eq_zero (by omega)
     rw [if_pos hca,hz,hnil];exact .sl e (.l false []) bk off (m.toNat-a.toNat) (fun _ _=>undef) rfl a2 (Nat.zero_le _) (by omega) (fun i hi=>by simp [D.items] at hi) (fun i hi=>by simp [D.items] at hi)
    ·rw [if_neg hca,←hlen]
     simp only [e6r,Addr.add_lit];refine .sl e (.l false ((xs.take b.toNat).drop a.toNat)) bk (off+a.toNat*a0a P e) (m.toNat-a.toNat) (fun i j=>cv (a.toNat+i) j) rfl a2 (by show _≤_;simp only [D.items];omega) (by omega) ?_ ?_
     ·intro i hi j hj
      simp only [D.items,hlen] at hi;have:=a4 (a.toNat+i) (by show _<xs.length;omega) j hj
      rwa [show off+(a.toNat+i)*a0a P e+j=off+a.toNat*a0a P e+i*a0a P e+j by rw [Nat.add_mul];omega] at this
     ·intro i hi j k hk
      simp only [D.items,hlen] at hi;have:=a5 (a.toNat+i) (by show _<xs.length;omega) j k hk
      have e1:(D.l false ((xs.take b.toNat).drop a.toNat)).items.getD i (.i 0)=(D.l false xs).items.getD (a.toNat+i) (.i 0):=by
       simp only [D.items,e6d,List.getElem?_drop,List.getElem?_take];rw [if_pos (by omega)]
      rw [e1];exact this
 ·cases h
theorem b8B {T e:TypeId} {n:Bool} {xs:List D} {vx:Value} {k1 k2:IntKind} (hx:a0s P env S w (.c (.sl e n xs)) vx) (hu:P.underlying T=some (.slice e)) (hty:tyB P e=true):
  ∃v,(Instr.sliceAt T vx none (some (.int k1 0)) (some (.int k2 0))).run P w= .ok v w∧a0s P env S w (.c (.z e n)) v:=by
 have hrep:a1D P w S (.sl e) (.l n xs) vx:=hx;have key:∀(ad:Option Addr) (len cap:Nat),(Instr.sliceAt T (.slice ad len cap) none (some (.int k1 0)) (some (.int k2 0))).run P w= .ok (.slice ad 0 0) w:=by
  intro ad len cap;have hr:=b3t (P:=P) (w:=w) (len:=len) (cap:=cap) (kb:=k1) (km:=k2) (vlo:=none) (a:=0) (b:=0) (m:=0) (.inl ⟨rfl,rfl⟩) (by omega) (by omega) (by omega) (by omega)
  simp [Instr.sliceAt,run_underlying hu,Instr.slice,hr,a0J hty]
 cases hrep with
 |nil e d a1 a2=>exact ⟨_,key _ _ _,.inl ⟨a1,rfl⟩⟩
 |emp e d ad cap a1 a2 am=>exact ⟨_,key _ _ _,.inr ⟨a1,_,rfl⟩⟩
 |sl e d bk off cap cv a1 a2 a3 am a4 a5=>exact ⟨_,key _ _ _,.inr ⟨a1,_,rfl⟩⟩
theorem c4W (hob:∀key o,get mem key=some o→a0x P env S w (env key) o) {a:Act} {T ty:TypeId} {x:V} {vx:Value} {n:Int} (hx:a0l P env S w a x vx) (h:e3C P mem T x=some n):
  (Builtin.len_ #[T] ty #[vx]).run P w= .ok (.int .i64 n) w:=by
 unfold e3C at h;split at h
 ·rename_i l hu
  simp only [e55] at h;have hv:vx= .string ⟨l.toArray⟩:=hx;subst h hv;simp [Builtin.len_,run_underlying hu,b3n,goInt]
 ·rename_i e xs nl hu
  simp only [e55] at h;subst h;have hr:a1D P w S (.sl _) (.l _ _) vx:=hx;cases hr with
  |nil e d a1 a2=>have:nl=[]:=a2;subst this;simp [Builtin.len_,run_underlying hu,goInt]
  |emp e d ad cap a1 a2=>have:nl=[]:=a2;subst this;simp [Builtin.len_,run_underlying hu,goInt]
  |sl e d b off cap cv a1=>simp [Builtin.len_,run_underlying hu,goInt,D.items]
 ·rename_i hu
  simp only [e55] at h;have hv:vx= .slice none 0 0:=hx;subst h hv;simp [Builtin.len_,run_underlying hu,goInt]
 ·rename_i key hu
  split at h
  ·rename_i e ex nl xs hg
   simp only [e55] at h;have hv:vx=(env key).hdr:=hx;subst h hv;obtain ⟨_,⟨_,rfl,h1⟩|⟨_,_,cap,cur,h1,_⟩⟩:=hob _ _ hg<;>rw [h1]<;>simp [Builtin.len_,run_underlying hu,goInt]
  ·cases h
 ·rename_i key m hu
  simp only [e55] at h;have hv:vx= .slice (some ⟨(env key).blk,(env key).base,none⟩) m m:=hx;subst h hv;simp [Builtin.len_,run_underlying hu,goInt]
 ·rename_i key m hu
  simp only [e55] at h;obtain ⟨cap,_,_,hv⟩:∃cap,m≤cap∧cap≤maxLen∧vx= .slice (some ⟨(env key).blk,(env key).base,none⟩) m cap:=hx;subst h hv;simp [Builtin.len_,run_underlying hu,goInt]
 ·rename_i key hu
  split at h
  ·rename_i kt vt es hg
   simp only [e55] at h;have hv:vx= .map (some (env key).blk):=hx;subst h hv;obtain ⟨ents,clock,h1,h2⟩:=hob _ _ hg;have hl:=h2.length;have hget:(getObj (env key).blk).run P w= .ok (.map ents clock) w:=by unfold getObj;simp only [Sem.run,h1]
   simp only [Array.length_toList] at hl;simp [Builtin.len_,run_underlying hu,goInt,hget,hl]
  ·cases h
 ·rename_i hu
  simp only [e55] at h;subst h;simp [Builtin.len_,run_underlying hu,goInt]
 ·cases h
theorem a79 {a:Act} {op:Int→Int→Int} {f:Value→Value→Sem Value} (hf:∀k x y,f (.int k x) (.int k y)=pure (.int k (op x y))) {k:IntKind}:∀{xs:List V} {vs:List Value} {x:Int} {y:V},All2 (a0l P env S w a) xs vs→c4F op k x xs=some y→
  ∃v,(vs.foldlM f (.int k x)).run P w= .ok v w∧a0s P env S w y v
 | [],vs,x,y,hr,h=>by
  cases vs with
  |nil=>simp only [c4F,e55] at h;subst h;exact ⟨_,rfl,rfl⟩
  |cons=>exact hr.elim
 | z ::xs,vs,x,y,hr,h=>by
  cases vs with
  |nil=>exact hr.elim
  | cons u vs=>
   unfold c4F at h;split at h
   ·rename_i he;cases he
   ·rename_i k' b r he
    simp only [List.cons.injEq] at he;obtain ⟨rfl,rfl⟩:=he;cases hk:k==k' with
    |false=>rw [hk] at h;cases h
    |true=>
     rw [hk] at h;have:=eq_of_beq hk;subst this;simp only [cond_true] at h;have hu:u= .int k b:=hr.1;subst hu;simp only [List.foldlM_cons,hf,e6b,e6c,e58];exact a79 hf hr.2 h
   ·cases h
end
section
variable {P:Program} {env:Env} {S:a0A} {w:World} {mem:AL Obj}
theorem c4X (hob:∀key o,get mem key=some o→a0x P env S w (env key) o) {e:TypeId} {x:V} {vx:Value} {xs:List D} (hx:a0s P env S w x vx) (hs:e24 mem e x=some xs):
  (∃(ao:Option Addr) (c:Nat),vx= .slice ao 0 c∧xs=[])∨(a0a P e=(kinds P e).length∧ ∃b o c,vx= .slice (some ⟨b,o,none⟩) xs.length c∧
  ∀(i j:Nat) (k:CK),i<xs.length→(kinds P e)[j]? =some k→ ∃u,w.cell? ⟨b,o+(i*a0a P e+j),none⟩=some u∧a1D P w S k (elD P e (xs.getD i (.i 0)) j) u):=by
 unfold e24 at hs;split at hs
 ·rename_i key
  split at hs
  ·rename_i e' ex nl ys hg
   cases he:Nat.beq e e' with
   |false=>rw [he] at hs;cases hs
   | true=>
    have:=e56 he;subst this;rw [he] at hs;simp only [cond_true,e55] at hs;subst hs;have hv:vx=(env key).hdr:=hx;obtain ⟨h0,⟨_,rfl,h1⟩|⟨_,_,cap,cur,h1,h2,h3,h4,h5,h6⟩⟩:=hob _ _ hg
    ·exact .inl ⟨none,0,by rw [hv,h1],rfl⟩
    ·refine .inr ⟨h0,(env key).blk,0,cap,by rw [hv,h1],fun i j k hi hk=> ?_⟩
     obtain ⟨u,hu,hr⟩:=h6 i j k hi hk;exact ⟨u,by rw [Nat.zero_add];exact h2.cell hu,hr⟩
  ·cases hs
 ·rename_i e' nl ys
  cases he:Nat.beq e e' with
  |false=>rw [he] at hs;cases hs
  | true=>
   have:=e56 he;subst this;rw [he] at hs;simp only [cond_true,e55] at hs;subst hs;have hr:a1D P w S (.sl e) (.l nl ys) vx:=hx;cases hr with
   |nil e d a1 a2=>exact .inl ⟨none,0,rfl,a2⟩
   |emp e d ad cap a1 a2 am=>exact .inl ⟨some ad,cap,rfl,a2⟩
   |sl e d b off cap cv a1 a2 a3 am a4 a5=>
    refine .inr ⟨a2,b,off,cap,rfl,fun i j k hi hk=> ?_⟩
    have hj:j<(kinds P e).length:=(e6h.1 hk).1;refine ⟨cv i j,?_,a5 i hi j k hk⟩;rw [←Nat.add_assoc];exact (a4 i hi j hj).2
 ·simp only [e55] at hs
  subst hs;have hv:vx= .slice none 0 0:=hx;exact .inl ⟨none,0,hv,rfl⟩
 ·cases hs
theorem b3u {e:TypeId} (h:b4W P e=true):P.underlying e=some (.int .u8):=by
 unfold b4W at h;split at h
 ·assumption
 ·cases h
theorem a61 {e:TypeId} (h:b4W P e=true):kinds P e=[.int .u8]∧a0d P e=false:=by
 have hu:=b3u h;constructor
 ·unfold kinds;simp [a00,hu]
 ·unfold a0d;rw [hu]
theorem b3v:∀(ns:List Int) (r:ByteArray),ns.foldl (fun r n=>r.push (UInt8.ofNat n.toNat)) r=⟨r.data++(ns.map fun n=>UInt8.ofNat n.toNat).toArray⟩
 | [],r=>by simp
 |n::ns,r=>by
  simp only [List.foldl_cons];rw [b3v ns];simp [ByteArray.push]
theorem a8a (hob:∀key o,get mem key=some o→a0x P env S w (env key) o) {el s d:TypeId} {x:V} {vx:Value} {xs:List D} (hx:a0s P env S w x vx) (hs:P.underlying s=some (.slice el)) (hd:P.underlying d=some .string) (h8:b4W P el=true) (hxs:e24 mem el x=some xs):
  (convert s d vx).run P w= .ok (.string ⟨(c9X xs).toArray⟩) w:=by
 obtain ⟨hk,ha⟩:=a61 h8;have hfin:∀(a:Addr) (len c:Nat) (ns:List Int),vx= .slice (some a) len c→ns=xs.map D.toI→(loadCells a len).run P w= .ok (ns.map (Value.int .u8)).toArray w→(convert s d vx).run P w= .ok (.string ⟨(c9X xs).toArray⟩) w:=by
  intro a len c ns h1 h2 h3;subst h1 h2;rw [run_convert_bytes_string w s d el _ _ _ hs (b3u h8) hd,run_bytesToString w a len c _ h3,b3v];congr 3
  simp [c9X,List.map_map]
 rcases c4X hob hx hxs with ⟨ao,c,rfl,rfl⟩|⟨h0,b,o,c,h1,h2⟩
 ·cases ao with
  |none=>
   rw [run_convert_bytes_string w s d el _ _ _ hs (b3u h8) hd];simp [Conv.bytesToString,c9X];rfl
  |some a=>exact hfin a 0 c [] rfl rfl (by have:=run_loadCells_list (P:=P) w a [] (by simp);simpa using this)
 ·refine hfin ⟨b,o,none⟩ xs.length c _ h1 rfl ?_
  have:=run_loadCells_list (P:=P) w ⟨b,o,none⟩ ((xs.map D.toI).map (Value.int .u8)) (fun j v hv=>by
   simp only [List.map_map,List.getElem?_map] at hv;cases hx:xs[j]? with
   |none=>rw [hx] at hv;cases hv
   |some dd=>
    rw [hx] at hv;simp only [e6r,e55,Function.comp] at hv;subst hv;have hj:=(e6h.1 hx).1;obtain ⟨u,q1,q2⟩:=h2 j 0 (.int .u8) hj (by rw [hk];rfl)
    rw [hk] at h0;rw [h0] at q1;have hgd:xs.getD j (.i 0)=dd:=by rw [e6d,hx];rfl
    unfold elD at q2;rw [ha,hgd] at q2;cases q2;rw [Addr.add_lit];simpa using q1)
  simpa using this
theorem b6h {T:TypeId} {x:V} {v:Value} (h:a0s P env S w x v):a0s P env S w (coe P T x) v:=by
 unfold coe;split
 ·split
  ·have hv:v= .slice none 0 0:=h
   subst hv;exact a1D.nil _ _ rfl rfl
  ·exact h
 ·exact h
theorem c6N {a:Act} {x:V} {b:Bool} {v:Value} (hx:a0l P env S w a x v) (h:toB x=some b):v= .bool b:=by
 unfold toB at h;split at h<;>first|(cases h;done)|(simp only [e55] at h;subst h;exact hx)
theorem a8b {e:Operand→V} {a:Act} (he:∀x,a0s P env S w (e x) (a.eval x)):∀{xs:List Operand} {cs:List (Nat×Nat)},xs.mapM (fun x=>match e x with| .c (.p k n)=>some (k,n)|_=>none)=some cs→xs.map a.eval=cs.map (b1D env)
 | [],cs,h=>by simp at h;subst h;rfl
 | x ::xs,cs,h=>by
  rw [List.mapM_cons] at h;cases hx:e x with
  | c c=>
   cases c with
   | p k n=>
    rw [hx] at h;cases hr:xs.mapM (fun x=>match e x with| .c (.p k n)=>some (k,n)|_=>none) with
    |none=>simp [hr] at h
    |some r=>
     simp [hr] at h;subst h;have:=he x;rw [hx] at this;simp only [List.map_cons];rw [a8b he hr];congr 1
   |_=>rw [hx] at h;simp at h
  |_=>rw [hx] at h;simp at h
theorem c2w {e:Operand→V} {a:Act} (he:∀x,a0s P env S w (e x) (a.eval x)) (ps:List (Nat×Operand)):
  All2 (fun (x:Nat×V) (y:Nat×Value)=>x.1=y.1∧a0s P env S w x.2 y.2) (ps.map fun (i,x)=>(i,e x)) (ps.map fun (i,x)=>(i,a.eval x)):=by
 induction ps with
 |nil=>trivial
 |cons p ps ih=>exact ⟨⟨rfl,he p.2⟩,ih⟩
theorem b8C (hob:∀key o,get mem key=some o→a0x P env S w (env key) o) (hst:a0Y P env S mem) {e:Operand→V} {ew:Nat→Bool→Operand→V} {a:Act} (he:∀x,a0s P env S w (e x) (a.eval x))
  (hew:∀t b x,a01 a t b→a0l P env S w a (ew t b x) (a.eval x)) {o:Oper} {x:V} (h:c4G P mem e ew o=some (true,x)):
  ∃v,(execOp a.eval o).run P w= .ok (.value v) w∧a0s P env S w x v:=by
 unfold c4G at h;simp only at h;have wrap:∀{s:Sem Value} {v:Value},s.run P w= .ok v w→(do pure (.value (←s)):Sem Next).run P w= .ok (.value v) w:=by
  intro s v hs;simp only [e6b,hs,e58,e6c]
 cases ho:o.op<;>rw [ho] at h<;>(try simp only at h)<;>try (cases h;done)
 case move y=>
  simp only [e55,e6q,true_and] at h;subst h;exact ⟨_,by simp only [execOp,ho,e6c],b6h (he y)⟩
 case assign y=>
  simp only [e55,e6q,true_and] at h;subst h;exact ⟨_,by simp only [execOp,ho,e6c],b6h (he y)⟩
 case pick c y z=>
  split at h
  ·rename_i b hc
   simp only [e55,e6q,true_and] at h;subst h;have hcv:a.eval c= .bool b:=by have:=he c;rw [hc] at this;exact this
   refine ⟨if b then a.eval y else a.eval z,?_,?_⟩
   ·simp only [execOp,ho,hcv,asBool,e6b,e6c,e58]
   ·cases b with
    |true=>exact he y
    |false=>exact he z
  ·rename_i b hc
   have hcv:a.eval c= .bool b:=by have:=he c;rw [hc] at this;exact this
   split at h
   ·rename_i t
    split at h
    ·rename_i by' bz hy hz
     simp only [e55,e6q,true_and] at h;subst h;have hyield:a01 a t b:=by
      unfold a01;have:a.tmps.getD t undef= .bool b:=hcv;rw [e6i] at this;cases ht:a.tmps[t]? with
      |none=>rw [ht] at this;cases this
      |some u=>rw [ht] at this;exact congrArg some this
     refine ⟨if b then a.eval y else a.eval z,?_,?_⟩
     ·simp only [execOp,ho,hcv,asBool,e6b,e6c,e58]
     ·cases b with
      |true=>exact c6N (hew t true y hyield) hy
      |false=>exact c6N (hew t false z hyield) hz
    ·cases h
   ·cases h
  ·cases h
 case build t parts=>
  obtain ⟨_,h⟩:=a2h h;obtain ⟨v,h1,h2⟩:=b8v (vps:=parts.map fun (i,x)=>(i,a.eval x)) (by rw [Array.toList_map];exact c2w he parts.toList) h
  exact ⟨v,by simp only [execOp,ho];exact wrap h1,h2⟩
 case load t y=>
  obtain ⟨ad,v,h1,h2,h3⟩:=b3m hob (he y) h;refine ⟨v,?_,h3⟩;simp only [execOp,ho];exact wrap (by simp only [Instr.loadAt,h1,Instr.sureAddr,e6b,e6c,e58,h2])
 case nilCheck y=>
  have hy:=he y;split at h<;>(try (cases h;done))<;>rename_i hey<;>rw [hey] at hy<;>simp only [e55,e6q,true_and] at h<;>subst h
  ·refine ⟨_,?_,hy⟩
   simp only [execOp,ho,show a.eval y=_ from hy,e6c]
  ·obtain ⟨b,off,h1,h2⟩:=hy
   refine ⟨_,?_,b,off,h1,h2⟩;simp only [execOp,ho,h1,e6c]
  ·refine ⟨_,?_,hy⟩
   simp only [execOp,ho,show a.eval y=_ from hy,e6c]
  ·refine ⟨_,?_,hy⟩
   simp only [execOp,ho,hy.2.2,e6c]
  ·rename_i fn cs
   refine ⟨_,?_,hy⟩;have hy:a.eval y=fnW (a1K fn cs) fn (cs.map (b1D env)):=hy;revert hy
   unfold fnW;cases a1K fn cs<;>(intro hy;simp only [execOp,ho,hy,cond_true,cond_false,e6c])
 case binOp op t y z yt=>
  split at h
  ·rename_i c hc
   simp only [e55,e6q,true_and] at h;subst h;obtain ⟨v,h1,h2⟩:=c4T (ox:=y) (a:=a) (he y) hc;exact ⟨v,by simp only [execOp,ho];exact wrap h1,h2⟩
  ·split at h
   ·rename_i b c hb
    simp only [e55,e6q] at h;obtain ⟨rfl,rfl⟩:=h;obtain ⟨v,h1,h2⟩:=c4S (ox:=y) (oy:=z) (he y) (he z) hb;exact ⟨v,by simp only [execOp,ho];exact wrap h1,h2⟩
   ·cases h
 case unOp op t y=>
  split at h
  ·rename_i c hc
   simp only [e55,e6q,true_and] at h;subst h;obtain ⟨v,h1,h2⟩:=c6H (he y) hc;exact ⟨v,by simp only [execOp,ho];exact wrap h1,h2⟩
  ·cases h
 case convert s d y=>
  have hy:=he y;split at h
  ·rename_i k0 k kk n hs hd hey
   rw [hey] at hy;simp only [e55,e6q,true_and] at h;subst h;refine ⟨.int k (k.wrap n),?_,rfl⟩;simp only [execOp,ho,show a.eval y= .int kk n from hy];refine wrap ?_;simp only [convert,e6b,run_underlying hs,run_underlying hd,e58,Conv.intToInt,e6c]
  ·rename_i k0 kk n hs hd hey
   rw [hey] at hy;simp only [e55,e6q,true_and] at h;subst h;refine ⟨.string (Utf8.encode n),?_,rfl⟩;simp only [execOp,ho,show a.eval y= .int kk n from hy];refine wrap ?_;simp only [convert,e6b,run_underlying hs,run_underlying hd,e58,Conv.intToString,e6c]
  ·rename_i l hs hd hey
   rw [hey] at hy;simp only [e55,e6q,true_and] at h;subst h;refine ⟨.string ⟨l.toArray⟩,?_,rfl⟩;simp only [execOp,ho,show a.eval y= .string ⟨l.toArray⟩ from hy];refine wrap ?_;simp only [convert,e6b,run_underlying hs,run_underlying hd,e58,e6c]
  ·rename_i el hs hd
   cases h8:b4W P el with
   |false=>rw [h8] at h;cases h
   | true=>
    rw [h8] at h;simp only [cond_true] at h;split at h
    ·rename_i xs hxs
     simp only [e55,e6q,true_and] at h;subst h;refine ⟨.string ⟨(c9X xs).toArray⟩,?_,rfl⟩;simp only [execOp,ho];exact wrap (a8a hob hy hs hd h8 hxs)
    ·cases h
  ·cases h
 case makeFunc fn first caps=>
  split at h
  ·rename_i f
   split at h
   ·rename_i hf
    have hfe:first= #[]:=by
     cases first;simp at hf;subst hf;rfl
    subst hfe;split at h
    ·rename_i cs hcs
     cases hbm:Nat.ble bm f with
     |true=>rw [hbm] at h;cases h
     | false=>
      rw [hbm] at h;simp only [cond_false,e55,e6q,true_and] at h;subst h;refine ⟨.func (.func f) #[] (caps.map a.eval),?_,?_⟩
      ·simp only [execOp,ho]
       exact wrap (by simp [Instr.makeFunc])
      ·show _=fnW (a1K f cs) f (cs.map (b1D env))
       rw [show a1K f cs=false by unfold a1K;rw [hbm];cases cs<;>rfl]
       show Value.func (.func f) #[] (caps.map a.eval)=Value.func (.func f) #[] (cs.map (b1D env)).toArray;congr 1
       apply Array.ext';rw [Array.toList_map,a8b he hcs]
    ·cases h
   ·rename_i hf
    cases hce:caps.isEmpty with
    |false=>rw [hce] at h;cases h
    | true=>
     rw [hce] at h;simp only [cond_true] at h;have hcap:caps= #[]:=by simpa using hce
     subst hcap;split at h
     ·rename_i cs hcs
      simp only [e55,e6q,true_and] at h;subst h;have hm:=a8b he hcs;refine ⟨.func (.func f) (first.map a.eval) #[],?_,?_⟩
      ·simp only [execOp,ho]
       exact wrap (by simp [Instr.makeFunc])
      ·show _=fnW (a1K (f+bm) cs) (f+bm) (cs.map (b1D env))
       have hbd:a1K (f+bm) cs=true:=by
        cases cs with
        |nil=>cases hl:first.toList with
         |nil=>exact absurd hl hf
         |cons x r=>rw [hl] at hm;cases hm
        |cons x r=>
         have hle:∀m:Nat,Nat.ble m (f+m)=true:=fun m=>Nat.ble_eq_true_of_le (Nat.le_add_left _ _)
         unfold a1K;rw [hle,List.isEmpty_cons];rfl
       rw [hbd];show Value.func (.func f) (first.map a.eval) #[]=Value.func (.func (f+bm-bm)) (cs.map (b1D env)).toArray #[]
       rw [Nat.add_sub_cancel];congr 1
       apply Array.ext';rw [Array.toList_map,hm]
     ·cases h
  ·cases h
 case slice t y lo hi mx=>
  cases mx with
  |some m=>simp only at h;cases h
  | none=>
   simp only at h;have opt:∀q:Option Operand,(q.map e=none∧q.map a.eval=none)∨ ∃l v,q.map e=some l∧q.map a.eval=some v∧a0l P env S w a l v:=by
    intro q;cases q with
    |none=>exact .inl ⟨rfl,rfl⟩
    |some q=>exact .inr ⟨_,_,rfl,rfl,a0l.of (he q)⟩
   obtain ⟨v,h1,h2⟩:=b07 (he y) (opt lo) (opt hi) h;exact ⟨v,by simp only [execOp,ho,Option.map_none];exact wrap h1,h2⟩
 case fieldAddr s y f=>
  split at h
  ·rename_i n hn
   obtain ⟨_,h⟩:=a2h h;obtain ⟨b,off,h1,h2⟩:=b8u (he y) h;refine ⟨_,?_,h2⟩;unfold c2g at hn;split at hn
   ·rename_i fs hu
    split at hn
    ·rename_i fd hfd
     cases hz:Nat.beq (a0a P fd.type) 0 with
     |true=>rw [hz] at hn;cases hn
     |false=>
      rw [hz] at hn;simp only [cond_false,e55] at hn;subst hn;have hne:a0a P fd.type≠0:=by rw [a0k] at hz;simpa using hz
      simp only [execOp,ho];exact wrap (by simp only [Instr.fieldAt,e6b,run_underlying hu,e58,hfd,h1,Instr.sureAddr,e6c,b4X hne])
    ·cases hn
   ·cases hn
  ·cases h
 case field t y f=>
  obtain ⟨_,h⟩:=a2h h;obtain ⟨v,h1,h2⟩:=b8w (he y) h;exact ⟨v,by simp only [execOp,ho];exact wrap h1,h2⟩
 case indexAddr t y i=>
  obtain ⟨v,h1,h2⟩:=a56 hob (he y) (he i) h;exact ⟨v,by simp only [execOp,ho];exact wrap h1,h2⟩
 case index t y i=>
  obtain ⟨v,h1,h2⟩:=b8z (he y) (he i) h;exact ⟨v,by simp only [execOp,ho];exact wrap h1,h2⟩
 case lookup t y k ok=>
  obtain ⟨_,h⟩:=a2h h;obtain ⟨v,h1,h2⟩:=b6e hob hst (he y) (he k) h;exact ⟨v,by simp only [execOp,ho];exact wrap h1,h2⟩
 case extract y i=>
  have hy:=he y;split at h
  ·rename_i vs hey
   rw [hey] at hy;split at h
   ·rename_i x' hx'
    simp only [e55,e6q,true_and] at h;subst h;obtain ⟨us,h1,h2⟩:=hy;obtain ⟨u,h3,h4⟩:=h2.get hx';have h3':us[i]? =some u:=by simpa using h3
    refine ⟨u,?_,?_⟩
    ·simp only [execOp,ho,h1]
     exact wrap (by simp only [Instr.extract,h3',e6c])
    ·cases x'<;>first|exact h4|exact h4.elim
   ·cases h
  ·cases h
 case call c=>
  obtain ⟨callee,args,tys⟩:=c;simp only at h;cases callee with
  |value f=>simp only at h;cases h
  |invoke r m=>simp only at h;cases h
  | builtin bi=>
   have run1:∀v,(builtin bi tys o.type (args.map fun| .const _=>true|_=>false) (args.map a.eval)).run P w= .ok (.value v) w→(execOp a.eval o).run P w= .ok (.value v) w:=by
    intro v hv;simp only [execOp,ho,resolve,e6b,e6c,e58,invoke];exact hv
   cases bi<;>(try simp only at h)<;>try (cases h;done)
   case len=>
    split at h
    ·rename_i y T hargs htys
     split at h
     ·rename_i n hn
      simp only [e55,e6q,true_and] at h;subst h;have e1:args= #[y]:=by cases args;simp at hargs;subst hargs;rfl
      have e2:tys= #[T]:=by cases tys;simp at htys;subst htys;rfl
      subst e1 e2;refine ⟨.int .i64 n,run1 _ ?_,rfl⟩;have:=c4W (ty:=o.type) hob (a0l.of (a:=a) (he y)) hn;simp only [builtin];exact wrap (by simpa using this)
     ·cases h
    ·cases h
   case cap=>
    split at h
    ·rename_i y T hargs htys
     split at h
     ·rename_i n hn
      simp only [e55,e6q,true_and] at h;subst h;have e1:args= #[y]:=by cases args;simp at hargs;subst hargs;rfl
      have e2:tys= #[T]:=by cases tys;simp at htys;subst htys;rfl
      subst e1 e2;refine ⟨.int .i64 n,run1 _ ?_,rfl⟩;have hy:=he y;simp only [builtin];refine wrap ?_;have:∃e,P.underlying T=some (.slice e)∧a.eval y= .slice none 0 0∧n=0:=by
       unfold c6m at hn;split at hn
       ·rename_i e hu hey
        rw [hey] at hy;exact ⟨e,hu,hy,by simpa using hn.symm⟩
       ·rename_i e e' hu hey
        rw [hey] at hy;refine ⟨e,hu,?_,by simpa using hn.symm⟩
        have hr:a1D P w S (.sl e') (.l true []) (a.eval y):=hy;generalize a.eval y=q at hr;cases hr with
        |nil=>rfl
        |emp e d ad cp h1=>cases h1
        |sl e d b off cp cv h1=>cases h1
       ·cases hn
      obtain ⟨e,hu,hv,rfl⟩:=this;simp [Builtin.cap_,run_underlying hu,goInt,hv]
     ·cases h
    ·cases h
   case max=>
    split at h
    ·rename_i k b r hargs
     obtain ⟨_,h⟩:=a2h h;have hl:∀(l:List Operand),l.map e= .c (.i k b)::r→ ∃y l',l=y::l'∧a.eval y= .int k b∧All2 (a0l P env S w a) r (l'.map a.eval):=by
      intro l hl;cases l with
      |nil=>cases hl
      |cons y l'=>
       simp only [List.map_cons,List.cons.injEq] at hl;have:=he y;rw [hl.1] at this;refine ⟨y,l',rfl,this,?_⟩;rw [←hl.2];clear hl this hargs h;induction l' with
       |nil=>trivial
       |cons z l' ih=>exact ⟨a0l.of (he z),ih⟩
     obtain ⟨y,l',h1,h2,h3⟩:=hl _ hargs;obtain ⟨v,h4,h5⟩:=a79 (f:=Builtin.max2) (fun k x y=>rfl) h3 h
     refine ⟨v,run1 _ ?_,h5⟩;simp only [builtin];refine wrap ?_;have:(args.map a.eval).toList= .int k b::l'.map a.eval:=by rw [Array.toList_map,h1,List.map_cons,h2]
     simp only [Builtin.max_,this];exact h4
    ·cases h
   case min=>
    split at h
    ·rename_i k b r hargs
     obtain ⟨_,h⟩:=a2h h;have hl:∀(l:List Operand),l.map e= .c (.i k b)::r→ ∃y l',l=y::l'∧a.eval y= .int k b∧All2 (a0l P env S w a) r (l'.map a.eval):=by
      intro l hl;cases l with
      |nil=>cases hl
      |cons y l'=>
       simp only [List.map_cons,List.cons.injEq] at hl;have:=he y;rw [hl.1] at this;refine ⟨y,l',rfl,this,?_⟩;rw [←hl.2];clear hl this hargs h;induction l' with
       |nil=>trivial
       |cons z l' ih=>exact ⟨a0l.of (he z),ih⟩
     obtain ⟨y,l',h1,h2,h3⟩:=hl _ hargs;obtain ⟨v,h4,h5⟩:=a79 (f:=Builtin.min2) (fun k x y=>rfl) h3 h
     refine ⟨v,run1 _ ?_,h5⟩;simp only [builtin];refine wrap ?_;have:(args.map a.eval).toList= .int k b::l'.map a.eval:=by rw [Array.toList_map,h1,List.map_cons,h2]
     simp only [Builtin.min_,this];exact h4
    ·cases h
end
section
variable {P:Program} {N n0 kb:Nat} {F:Nat→Prop} {B M0:a0A} {w0:World} {e0:a6l} {env:Env} {st:St} {a:Act} {w:World}
theorem Rel.n0le (h:Rel P N n0 B M0 w0 F e0 env st a w):n0≤w.heap.size:=by rw [h.hn0];exact h.ch.size
theorem c2x {mem mem':AL Obj} {env':Env} {w':World} {Mt:a0A} (hch:Chg Mt w w') (hMt:∀b o,Mt b o→ ∃k ob,get mem k=some ob∧a3B P (env k) ob b o)
  (hmut:∀k ob b o,get mem' k=some ob→a3B P (env' k) ob b o→w.heap.size≤b∨ ∃k' ob',get mem k'=some ob'∧a3B P (env k') ob' b o):
  a0y w (Sof P B M0 n0 env mem w) w' (Sof P B M0 n0 env' mem' w'):=by
 intro b o v hS hv;obtain ⟨h1,h2,h3⟩:=hS;have hno:¬Mt b o:=fun hm=>let ⟨k,ob,g,m⟩:=hMt b o hm;h3 k ob g m
 refine ⟨⟨h1,Nat.lt_of_lt_of_le h2 hch.size,fun k ob hg hm=> ?_⟩,hch.cell hv hno⟩
 rcases hmut k ob b o hg hm with h4|⟨k',ob',g,m⟩
 ·omega
 ·exact h3 k' ob' g m
theorem b0o {S:a0A} {s:a1J} {ob:Obj} {b x:Nat} {ds:Option (List Deferred)} (h:a0x P env S w s ob) (hm:a3B P s ob b x) (hb:w.heap[b]? =some (.deferred ds)):False:=by
 cases ob with
 |box cs=>
  obtain ⟨rfl,_⟩:=hm;obtain ⟨cur,T,q,_⟩:=h;rw [hb] at q;cases q
 |row e ex nl xs=>
  obtain ⟨hn,rfl,_⟩:=hm;obtain ⟨_,⟨q,_⟩|⟨_,_,cap,cur,_,⟨fr,_,q⟩,_⟩⟩:=h
  ·rw [hn] at q;cases q
  ·rw [hb] at q;cases q
 |map kt vt es=>
  have e:b=s.blk:=hm;obtain ⟨ents,clock,q,_⟩:=h;rw [e,q] at hb;cases hb
 |tab kt vt es=>
  have e:b=s.blk:=hm;obtain ⟨ents,clock,q,_⟩:=h;rw [e,q] at hb;cases hb
 |dat T d=>
  have e:b=s.blk:=hm;obtain ⟨_,cur,E,q,_⟩:=h;rw [e,q] at hb;cases hb
 |krow e k q c xs=>
  have e:b=s.blk:=hm;obtain ⟨_,_,_,_,cap,cur,_,⟨fr,_,q⟩,_⟩:=h;rw [e,q] at hb;cases hb
theorem Rel.step (h:Rel P N n0 B M0 w0 F e0 env st a w) {env':Env} {w':World} {mem':AL Obj} {tmps':AL V} (Mt:a0A)
  (hch:Chg Mt w w') (hMt:∀b o,Mt b o→ ∃k ob,get st.mem k=some ob∧a3B P (env k) ob b o)
  (hmut:∀k ob b o,get mem' k=some ob→a3B P (env' k) ob b o→w.heap.size≤b∨ ∃k' ob',get st.mem k'=some ob'∧a3B P (env k') ob' b o)
  (htm:a0y w (Sof P B M0 n0 env st.mem w) w' (Sof P B M0 n0 env' mem' w')→ ∀t x,get tmps' t=some x→a0l P env' (Sof P B M0 n0 env' mem' w') w' a x (a.tmps.getD t undef))
  (hob:a0y w (Sof P B M0 n0 env st.mem w) w' (Sof P B M0 n0 env' mem' w')→ ∀k ob,get mem' k=some ob→a0x P env' (Sof P B M0 n0 env' mem' w') w' (env' k) ob)
  (hds:∀k k' o o',get mem' k=some o→get mem' k'=some o'→a0N o→a0N o'→k≠k'→(env' k).blk≠(env' k').blk)
  (hpr:∀key e ex xs,get mem' key=some (.row e ex false xs)→ ∀o,o<xs.length*a0a P e→B (env' key).blk o∨n0≤(env' key).blk∨M0 (env' key).blk o)
  (hfx:∀k,F k→env' k=env k):
  Rel P N n0 B M0 w0 F e0 env' {tmps:=tmps',mem:=mem'} a w':=by
 have hk:=c2x (B:=B) (M0:=M0) (n0:=n0) hch hMt hmut;refine ⟨h.size,h.dfr.mono fun b _ hb=>hch.other b _ hb fun o hm=> ?_,h.hn0,htm hk,hob hk,hds,?_,hpr,?_,h.bb,fun k hkb=>(hfx k hkb).trans (h.fx k hkb),h.gi⟩
 ·obtain ⟨k,ob,g,m⟩:=hMt b o hm
  exact b0o (h.ob k ob g) m hb
 ·intro k ob b x hg hm
  rcases hmut k ob b x hg hm with h1|⟨k',ob',g,m⟩
  ·exact .inr (Nat.le_trans h.n0le h1)
  ·exact h.mu k' ob' b x g m
 ·refine Chg.trans h.ch hch fun b o hm=> ?_
  obtain ⟨k,ob,g,m⟩:=hMt b o hm;rw [←h.hn0];exact h.mu k ob b o g m
theorem c2y (a:Act) (dst:Option Nat) (v:Value):(a.put dst v).tmps.size=a.tmps.size:=by
 cases dst<;>simp [Act.put]
theorem c6O (a:Act) (dst:Option Nat) (v:Value):(a.put dst v).defers=a.defers:=by
 cases dst<;>simp [Act.put]
theorem a5E {a:Act} {d t:Nat} {v:Value} (h:t≠d):(a.put (some d) v).tmps.getD t undef=a.tmps.getD t undef:=by
 simp only [Act.put,e6i,Array.getElem?_setIfInBounds];rw [if_neg (Ne.symm h)]
theorem b3w {a:Act} {d:Nat} {v:Value} (h:d<a.tmps.size):(a.put (some d) v).tmps.getD d undef=v:=by
 simp only [Act.put,e6i,Array.getElem?_setIfInBounds];simp [h]
theorem a8Q {a:Act} {d s:Nat} {v:Value} {b:Bool} (h:s≠d):a01 (a.put (some d) v) s b↔a01 a s b:=by
 unfold a01;simp only [Act.put,Array.getElem?_setIfInBounds];rw [if_neg (Ne.symm h)]
theorem b3x {S:a0A} {d:Nat} {v v':Value} {x:V} (h:a0l P env S w a x v):a0l P env S w (a.put (some d) v') (c9T d x) v:=by
 cases x with
 | w s b y=>
  simp only [c9T,a0k];by_cases hs:s=d
  ·rw [cond_true (by simpa using hs)];trivial
  ·rw [cond_false (by simpa using hs)]
   exact ⟨fun hy=>h.1 ((a8Q hs).1 hy),fun hy=>h.2 fun h'=>hy ((a8Q hs).2 h')⟩
 |_=>exact h
theorem Rel.put (h:Rel P N n0 B M0 w0 F e0 env st a w) {dst:Option Nat} (hd:∀d,dst=some d→d<N) {x:V} {v:Value} (hx:a0l P env (Sof P B M0 n0 env st.mem w) w a x v):
  Rel P N n0 B M0 w0 F e0 env (st.put dst x) (a.put dst v) w:=by
 cases dst with
 |none=>exact h
 | some d=>
  refine ⟨by rw [c2y];exact h.size,by rw [c6O];exact h.dfr,h.hn0,?_,h.ob,h.ds,h.mu,h.pr,h.ch,h.bb,h.fx,h.gi⟩
  intro t y hy;simp only [St.put,a1Q] at hy;by_cases ht:t=d
  ·subst ht
   simp only [if_true,e55] at hy;subst hy;rw [b3w (by rw [h.size];exact hd t rfl)]
   exact b3x hx
  ·rw [if_neg ht,a1c] at hy
   cases hg:get st.tmps t with
   |none=>rw [hg] at hy;cases hy
   |some z=>
    rw [hg] at hy;simp only [e6r,e55] at hy;subst hy;rw [a5E ht];exact b3x (h.tm t z hg)
theorem d5g {S:a0A} {v:Value}:a0l P env S w a (.c .u) v:=trivial
theorem Rel.put_u (h:Rel P N n0 B M0 w0 F e0 env st a w) {dst:Option Nat} (hd:∀d,dst=some d→d<N) (v:Value):Rel P N n0 B M0 w0 F e0 env (st.put dst (.c .u)) (a.put dst v) w:=h.put hd d5g
theorem a4d {S:a0A} {x:V} {v:Value} (h:a0l P env S w a x v):a0s P env S w (b4T x) v:=by
 cases x<;>first|exact h|trivial
theorem Rel.ev (h:Rel P N n0 B M0 w0 F e0 env st a w) (x:Operand):a0l P env (Sof P B M0 n0 env st.mem w) w a (AM.ev st x) (a.eval x):=by
 cases x with
 |tmp t=>
  simp only [AM.ev,Act.eval];cases hg:get st.tmps t with
  |none=>trivial
  |some y=>exact h.tm t y hg
 |const v=>exact a0l.of (d5d v)
 |global g=>trivial
 |func f=>exact rfl
theorem Rel.evu (h:Rel P N n0 B M0 w0 F e0 env st a w) (x:Operand):a0s P env (Sof P B M0 n0 env st.mem w) w (AM.evu st x) (a.eval x):=a4d (h.ev x)
theorem b08 {S:a0A} {x:V} {v:Value} {t:Nat} {b:Bool} (hy:a01 a t b) (h:a0l P env S w a x v):a0l P env S w a (b5b t b x) v:=by
 cases x with
 | w s want y=>
  simp only [b5b];cases hc:Nat.beq s t&&(want==b) with
  |false=>trivial
  |true=>
   simp only [e57] at hc;have h1:=e56 hc.1;have h2:=eq_of_beq hc.2;subst h1 h2;exact a0l.of (h.1 hy)
 |_=>exact h
theorem Rel.evw (h:Rel P N n0 B M0 w0 F e0 env st a w) (t:Nat) (b:Bool) (x:Operand) (hy:a01 a t b):a0l P env (Sof P B M0 n0 env st.mem w) w a (AM.evw st t b x) (a.eval x):=b08 hy (h.ev x)
theorem Rel.rows (h:Rel P N n0 B M0 w0 F e0 env st a w):a0Y P env (Sof P B M0 n0 env st.mem w) st.mem:=by
 intro key e xs hg o ho;obtain ⟨h0,⟨hn,_⟩|⟨_,_,cap,cur,h1,h2,_⟩⟩:=h.ob _ _ hg
 ·cases hn
 ·refine ⟨h.pr key e false xs hg o ho,h2.lt,fun k ob hk hm=> ?_⟩
  by_cases hkk:k=key
  ·subst hkk
   rw [hg] at hk;simp only [e55] at hk;subst hk;obtain ⟨_,_,hm⟩:=hm;rcases hm with hm|hm
   ·cases hm
   ·omega
  ·have hr:a0N ob∧(env k).blk=(env key).blk:=by
    cases ob with
    |box cs=>exact ⟨trivial,hm.1.symm⟩
    |row e' ex' nl' xs'=>exact ⟨hm.1,hm.2.1.symm⟩
    |map kt vt es=>exact ⟨trivial,hm.symm⟩
    |tab kt vt es=>exact ⟨trivial,hm.symm⟩
    |dat T d=>exact ⟨trivial,hm.symm⟩
    |krow e k q c xs=>exact ⟨trivial,hm.symm⟩
   exact h.ds k key ob _ hk hg hr.1 rfl hkk hr.2
end
end Go.AM
end
