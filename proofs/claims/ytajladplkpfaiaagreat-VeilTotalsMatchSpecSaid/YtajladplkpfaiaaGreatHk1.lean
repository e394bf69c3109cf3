/- Proved: what slices.SortFunc by cmp.Compare and slices.Compact answer over numbers, by their contracts. -/
import Derived.Test.YtajladplkpfaiaaGreatAm4
import Derived.Below
import Derived.Lib.Join
import Derived.Lib.LaidTab
import Derived.LaidLaws
import Derived.Lib.Split
import Derived.Lib.SplitLaws
import Derived.Lib.ItoaNum
import Derived.Lib.AtoiAll
import Derived.Lib.ConvBytes
import Derived.Sort.Row
import Derived.Lib.Builder
import Derived.Lib.UnsafeStr
import Derived.Shelf.Strings.Builder1
import Derived.Shelf.SlSortCmp.WholeK
import Derived.Shelf.SlSortCmp.Whole1
import Derived.Lib.SlicesCompact
import Derived.Test.YtajladplkpfaiaaGreatChecked
import Derived.KernelRfl
import Derived.Shelf.Small.Bits
import Derived.Shelf.Small.Wraps
import Derived.Shelf.Strconv.Itoa0
import Derived.Shelf.Slices.Turned
import Derived.Ground.Names2Prog
import Derived.Shelf.Slices.Clone
import Derived.Shelf.Slices.CompactI
import Derived.Shelf.Slices.SearchI
import Derived.Shelf.Slices.Cells
import Derived.Ground.SlgnProg
import Derived.Shelf.SlicesE.Clone
import Derived.Ground.SlsfProg
import Derived.Shelf.SlSortCmp.Insertion
import Derived.Shelf.SlSortCmp.SiftDown1
import Derived.Shelf.SlSortCmp.HeapSort1
import Derived.Shelf.SlSortCmp.Insertion1
import Derived.Shelf.SlSortCmp.Median1
import Derived.Shelf.SlSortCmp.Pivot1
import Derived.Shelf.SlSortCmp.ReverseRange1
import Derived.Shelf.SlSortCmp.PartialInsertion1
import Derived.Shelf.SlSortCmp.PartitionEqual1
import Derived.Shelf.SlSortCmp.Partition1
import Derived.Shelf.SlSortCmp.Pdq1
import Derived.Shelf.SlSortCmp.NoneTotal
set_option linter.all false
set_option maxRecDepth 100000
set_option maxHeartbeats 4000000
noncomputable section
namespace Go.AM
open Go
end Go.AM
namespace Go.AM
open Go Go.RowKit
section
variable {P:Program}
theorem d0A {α β:Type} {R:α→β→Prop} {x y:α} {l:List β} (h:a0q R [x,y] l):∃a b,l=[a,b]∧R x a∧R y b:=by
 match l,h with
 | [a,b],⟨h1,h2,_⟩=>exact ⟨a,b,rfl,h1,h2⟩
end
end Go.AM
namespace Go.AM
open Go
theorem c1O.mono {P:Program} {T T':CK→D→Prop} {e:TypeId} {x:D} (h:∀k d,T k d→T' k d) (hx:c1O P T e x):c1O P T' e x:=by
 unfold c1O at hx⊢;split
 ·rename_i ha
  rw [if_pos ha] at hx;obtain ⟨cs,h1,h2⟩:=hx;exact ⟨cs,h1,h2.mono fun k d _=>h k d⟩
 ·rename_i ha
  rw [if_neg ha] at hx;obtain ⟨k,h1,h2⟩:=hx;exact ⟨k,h1,h k x h2⟩
theorem TyK.succ {P:Program}:∀{m:Nat} {k:CK} {d:D},TyK P m k d→TyK P (m+1) k d
 |0,_,_,h=>h.elim
 | m+1,k,d,h=>by
  cases k with
  |sl e=>
   obtain ⟨nl,xs,h1,h2,h3,h4⟩:=h;exact ⟨nl,xs,h1,h2,h3,fun x hx=>(h4 x hx).mono fun k d=>TyK.succ⟩
  |_=>exact h
theorem TyK.mono {P:Program} {m m':Nat} {k:CK} {d:D} (hm:m≤m') (h:TyK P m k d):TyK P m' k d:=by
 induction hm with
 |refl=>exact h
 |step _ ih=>exact ih.succ
section
variable {H:Type} {enc:TypeId×Value→H} {P:Program} {w:World} {spare:Nat→Bool} {held:Bool} {Ts:List TypeId}
theorem RT.mono {m m':Nat} (hm:m≤m') {kd:CK×D} {v:Value} (h:RT P w m kd v):RT P w m' kd v:=⟨h.1.mono hm,h.2⟩
variable {bk:DataW H→Nat} {bkA:List (DataW H)→Nat}
end
section
variable {P:Program} {W:World}
end
end Go.AM
namespace Go.AM
open Go Go.RowKit
theorem a3p {α:Type} {k0 k:Nat} {x o:α} (h:get [(k0,x)] k=some o):k=k0∧o=x:=by
 simp only [get,a0l] at h;by_cases hk:k0=k
 ·rw [cond_true (by simpa using hk)] at h;exact ⟨hk.symm,(Option.some.inj h).symm⟩
 ·rw [cond_false (by simpa using hk)] at h;cases h
section
variable {P:Program}
open Go.Sort in
end
section
variable {P:Program}
end
end Go.AM
set_option maxHeartbeats 1000000
namespace Go.Proofs
open Go Go.Shelf Go.RowKit
variable {P:Program} {ρ:Ren}
end Go.Proofs
namespace Go.AM
open Go Go.Sort Go.RowKit Go.Proofs
structure b2a {α:Type} (c:α→α→Int):Prop where
 sym:∀x y,c x y<0↔0<c y x
 trans:∀x y z,c x y≤0→c y z≤0→c x z≤0
theorem b2a.swo {α:Type} {c:α→α→Int} (h:b2a c):SWO (ltOf c):=by
 have hl:∀x y,(ltOf c x y=true)↔c x y<0:=fun x y=>by unfold ltOf;simp
 have hf:∀x y,(ltOf c x y=false)↔c y x≤0:=fun x y=>by
  have:=h.sym x y;unfold ltOf;simp only [decide_eq_false_iff_not];omega
 refine ⟨fun x=> ?_,fun x y z h1 h2=> ?_,fun x y z h1 h2=> ?_⟩
 ·rw [hf]
  have:=h.sym x x;omega
 ·rw [hl] at*
  have a:=h.sym x y;have b:=h.sym y z;have d:=h.sym x z;have:=h.trans y z x (by omega)
  have e:=h.sym z x;by_cases hz:c z x≤0
  ·have:=this hz;omega
  ·omega
 ·rw [hf] at*
  exact h.trans z y x h2 h1
theorem a4s {α β:Type} {c:β→β→Int} (h:b2a c) (f:α→β):b2a fun x y=>c (f x) (f y):=⟨fun x y=>h.sym _ _,fun x y z=>h.trans _ _ _⟩
theorem c0c:b2a Lib.compareInt:=by
 refine ⟨fun x y=> ?_,fun x y z=> ?_⟩<;>unfold Lib.compareInt<;>repeat' split
 all_goals omega
theorem a6j:∀x y:List UInt8,Lib.compareBytes x y<0↔0<Lib.compareBytes y x
 | [],[]=>by simp [Lib.compareBytes]
 | [],_::_=>by simp [Lib.compareBytes]
 |_::_,[]=>by simp [Lib.compareBytes]
 | a::at',b::bs=>by
  have ih:=a6j at' bs;simp only [Lib.compareBytes];have h1:a<b↔a.toNat<b.toNat:=UInt8.lt_iff_toNat_lt;have h2:b<a↔b.toNat<a.toNat:=UInt8.lt_iff_toNat_lt;by_cases p:a<b
  ·have q:¬b<a:=by rw [h1] at p;rw [h2];omega
   simp [p,q]
  ·by_cases q:b<a
   ·simp [p,q]
   ·simp only [p,q,if_false];exact ih
theorem a4K:∀x y z:List UInt8,Lib.compareBytes x y≤0→Lib.compareBytes y z≤0→Lib.compareBytes x z≤0
 | [],_,[],_,_=>by simp [Lib.compareBytes]
 | [],_,_::_,_,_=>by simp [Lib.compareBytes]
 |_::_,[],_,h,_=>by simp [Lib.compareBytes] at h
 |_::_,_::_,[],_,h=>by simp [Lib.compareBytes] at h
 | a ::at',b::bs,c::cs,h1,h2=>by
  have ih:=a4K at' bs cs;have e1:a<b↔a.toNat<b.toNat:=UInt8.lt_iff_toNat_lt;have e2:b<a↔b.toNat<a.toNat:=UInt8.lt_iff_toNat_lt;have e3:b<c↔b.toNat<c.toNat:=UInt8.lt_iff_toNat_lt;have e4:c<b↔c.toNat<b.toNat:=UInt8.lt_iff_toNat_lt;have e5:a<c↔a.toNat<c.toNat:=UInt8.lt_iff_toNat_lt;have e6:c<a↔c.toNat<a.toNat:=UInt8.lt_iff_toNat_lt;simp only [Lib.compareBytes,e1,e2,e3,e4,e5,e6] at*
  by_cases p:a.toNat<c.toNat
  ·simp [p]
  ·by_cases q1:a.toNat<b.toNat
   ·have:c.toNat<b.toNat:=by omega
    have n:¬b.toNat<c.toNat:=by omega
    simp [this,n] at h2
   ·by_cases q2:b.toNat<a.toNat
    ·simp [q1,q2] at h1
    ·simp only [q1,q2,if_false] at h1
     by_cases r1:b.toNat<c.toNat
     ·omega
     ·by_cases r2:c.toNat<b.toNat
      ·simp [r1,r2] at h2
      ·simp only [r1,r2,if_false] at h2
       have:¬c.toNat<a.toNat:=by omega
       simp only [p,this,if_false];exact ih h1 h2
theorem b4L:b2a Lib.compareBytes:=⟨a6j,a4K⟩
def lex (a b:Int):Int:=if a=0 then b else a
theorem a9D {α:Type} {c d:α→α→Int} (h:b2a c) (h':b2a d):b2a fun x y=>lex (c x y) (d x y):=by
 refine ⟨fun x y=> ?_,fun x y z h1 h2=> ?_⟩
 ·have a:=h.sym x y
  have b:=h.sym y x;have e:=h'.sym x y;simp only [lex];split<;>split<;>omega
 ·have a:=h.sym x y
  have a':=h.sym y x;have b:=h.sym y z;have b':=h.sym z y;have e:=h.sym x z;have e':=h.sym z x;have t:=h.trans x y z;have t1:=h.trans y z x;have t2:=h.trans z x y;have u:=h'.trans x y z;simp only [lex] at*
  split at h1<;>split at h2<;>split<;>omega
theorem b6t {α:Type}:b2a fun (_ _:α)=>(0:Int):=⟨fun _ _=>by omega,fun _ _ _ _ _=>by omega⟩
abbrev a4t:=List (Nat×Bool)
def vI:Value→Int
 | .int _ n=>n
 |_=>0
def vS:Value→List UInt8
 | .string s=>s.data.toList
 |_=>[]
def c70:a4t→List Value→List Value→Int
 | [],_,_=>0
 |(j,s)::r,x,y=>lex (bif s then Lib.compareBytes (vS (x.getD j undef)) (vS (y.getD j undef)) else Lib.compareInt (vI (x.getD j undef)) (vI (y.getD j undef))) (c70 r x y)
def c57 (P:Program) (e:TypeId):a4t→D→D→Int
 | [],_,_=>0
 |(j,s)::r,x,y=>lex (bif s then Lib.compareBytes (elD P e x j).toS (elD P e y j).toS else Lib.compareInt (elD P e x j).toI (elD P e y j).toI) (c57 P e r x y)
theorem b0I:∀os,b2a (c70 os)
 | []=>b6t
 |(j,true)::r=>a9D (a4s b4L fun x:List Value=>vS (x.getD j undef)) (b0I r)
 |(j,false)::r=>a9D (a4s c0c fun x:List Value=>vI (x.getD j undef)) (b0I r)
theorem a1h {P:Program} {e:TypeId}:∀os,b2a (c57 P e os)
 | []=>b6t
 |(j,true)::r=>a9D (a4s b4L fun x=>(elD P e x j).toS) (a1h r)
 |(j,false)::r=>a9D (a4s c0c fun x=>(elD P e x j).toI) (a1h r)
def c1U (P:Program) (e:TypeId) (os:a4t) (xs:List D):List D:=xs.mergeSort fun x y=> !ltOf (c57 P e os) y x
def c71 (P:Program) (e:TypeId) (os:a4t) (xs:List D):Prop:=∀a∈xs,∀b∈xs,c57 P e os a b=0→a=b
open Classical in
def c72 (P:Program) (e:TypeId) (os:a4t) (xs:List D):Bool:=decide (c71 P e os xs)
theorem b6u {P:Program} {e:TypeId} {os:a4t} {xs:List D}:c72 P e os xs=true↔c71 P e os xs:=by unfold c72;exact @decide_eq_true_iff _ (Classical.propDecidable _)
def kOk:CK→Value→Prop
 | .int k,v=>∃n,v= .int k n
 | .bool,v=>∃b,v= .bool b
 | .str,v=>∃s,v= .string s
 | .sl _,v=>∃p n c,v= .slice p n c
 | .oth,v=>v= .nilFunc∨ ∃g,v= .func (.func g) #[] #[]
def e3e:CK→Value
 | .int k=> .int k 0
 | .bool=> .bool false
 | .str=> .string ⟨#[]⟩
 | .sl _=> .slice none 0 0
 | .oth=> .nilFunc
theorem d5n (k:CK):kOk k (e3e k):=by cases k<;>first|exact ⟨_,rfl⟩|exact ⟨_,_,_,rfl⟩|exact .inl rfl
theorem d5o {P:Program} {w:World} {S:a0z} {k:CK} {d:D} {v:Value} (h:a1G P w S k d v):kOk k v:=by
 cases h with
 |oth d=>unfold fnV;cases d.toB with
  |true=>exact .inl rfl
  |false=>exact .inr ⟨_,rfl⟩
 |int k d=>exact ⟨_,rfl⟩
 |bool d=>exact ⟨_,rfl⟩
 |str d=>exact ⟨_,rfl⟩
 |nil e d=>exact ⟨_,_,_,rfl⟩
 |emp e d=>exact ⟨_,_,_,rfl⟩
 |sl e d=>exact ⟨_,_,_,rfl⟩
abbrev Elt (ks:List CK):={vs:List Value//a0q kOk ks vs}
theorem c3H:∀ks:List CK,a0q kOk ks (ks.map e3e)
 | []=>trivial
 |k::ks=>⟨d5n k,c3H ks⟩
instance (ks:List CK):Inhabited (Elt ks):=⟨⟨ks.map e3e,c3H ks⟩⟩
theorem c73 {α β:Type} {R:α→β→Prop} {l l':List β} (hp:l'.Perm l):∀{xs:List α},a0q R xs l→ ∃ys:List α,ys.Perm xs∧a0q R ys l':=by
 induction hp with
 |nil=>intro xs h;exact ⟨xs,.refl _,h⟩
 | @cons b l1 l2 _ ih=>
  intro xs h;cases xs with
  |nil=>exact h.elim
  |cons x xs=>
   obtain ⟨ys,h1,h2⟩:=ih h.2;exact ⟨x::ys,h1.cons x,h.1,h2⟩
 |swap a b l=>
  intro xs h;match xs,h with
  |x::y::xs,h=>exact ⟨y::x::xs,.swap x y xs,h.2.1,h.1,h.2.2⟩
 |trans _ _ ih1 ih2=>
  intro xs h;obtain ⟨ys,h1,h2⟩:=ih2 h;obtain ⟨zs,h3,h4⟩:=ih1 h2;exact ⟨zs,h3.trans h1,h4⟩
section
variable {P:Program}
def d5p (P:Program) (w:World) (S:a0z) (e:TypeId) (x:D) (vs:List Value):Prop:=∀(j:Nat) (k:CK),(a0c P e)[j]? =some k→ ∃u,vs[j]? =some u∧a1G P w S k (elD P e x j) u
theorem c74 {w:World} {S:a0z} {e:TypeId} {x y:D} {vs ws:List Value} (hx:d5p P w S e x vs) (hy:d5p P w S e y ws):∀os:a4t,(∀z∈os,(a0c P e)[z.1]? =some (bif z.2 then .str else .int .i64))→c70 os vs ws=c57 P e os x y
 | [],_=>rfl
 |(j,true)::r,h=>by
  have hk:=h _ (List.mem_cons_self ..);obtain ⟨u,hu,ru⟩:=hx j _ hk;obtain ⟨v,hv,rv⟩:=hy j _ hk;simp only [c70,c57,AM.cond_true rfl] at ru rv⊢;rw [c74 hx hy r fun z hz=>h z (List.mem_cons_of_mem _ hz),e4L,e4L,hu,hv]
  generalize elD P e x j=a at ru;generalize elD P e y j=b at rv;cases ru;cases rv;rfl
 |(j,false)::r,h=>by
  have hk:=h _ (List.mem_cons_self ..);obtain ⟨u,hu,ru⟩:=hx j _ hk;obtain ⟨v,hv,rv⟩:=hy j _ hk;simp only [c70,c57,AM.cond_false rfl] at ru rv⊢;rw [c74 hx hy r fun z hz=>h z (List.mem_cons_of_mem _ hz),e4L,e4L,hu,hv]
  generalize elD P e x j=a at ru;generalize elD P e y j=b at rv;cases ru;cases rv;rfl
theorem c75 {α:Type} {Q:Nat→α→Prop}:∀n:Nat,(∀i,i<n→ ∃x,Q i x)→ ∃l:List α,l.length=n∧ ∀(i:Nat) x,l[i]? =some x→Q i x
 |0,_=>⟨[],rfl,fun i x h=>by simp at h⟩
 | n+1,h=>by
  obtain ⟨l,h1,h2⟩:=c75 n fun i hi=>h i (by omega)
  obtain ⟨x,hx⟩:=h n (by omega)
  refine ⟨l++[x],by simp [h1],fun i y hy=> ?_⟩
  rcases Nat.lt_or_ge i n with hi|hi
  ·rw [e4X (by omega)] at hy;exact h2 i y hy
  ·rw [e4W (by omega),h1] at hy
   have:i-n=0:=by
    rcases Nat.eq_zero_or_pos (i-n) with h|h
    ·exact h
    ·rw [List.getElem?_eq_none (by simp;omega)] at hy;cases hy
   rw [this] at hy;simp only [List.getElem?_cons_zero,e4D] at hy;subst hy;have:i=n:=by omega
   subst this;exact hx
structure b7i {ks:List CK} (co:a4t) (blk:Nat) (d:Array (Elt ks)) (w w':World):Prop where
 os:w'.os=w.os
 tape:w'.tape=w.tape
 output:w'.output=w.output
 size:w.heap.size≤w'.heap.size
 other:∀b,b<w.heap.size→b≠blk→w'.heap[b]? =w.heap[b]?
 row:∃d':Array (Elt ks),PermIn 0 d.size d d'∧SortedIn (ltOf fun x y:Elt ks=>c70 co x.val y.val) 0 d.size d'∧
  ∀cur T fr,w.heap[blk]? =some (.cells cur T fr)→ ∃cur':Array Value,w'.heap[blk]? =some (.cells cur' T fr)∧cur'.size=cur.size∧ ∀i,i<d.size→ ∀j,j<ks.length→i*ks.length+j<cur.size→cur'[i*ks.length+j]? =(d'[i]!).val[j]?
theorem d5q {f g:FuncId} {e:TypeId} {os:a4t} (hsz:a0a P e=(a0c P e).length) (hk0:0<(a0c P e).length) (hos:∀z∈os,(a0c P e)[z.1]? =some (bif z.2 then .str else .int .i64))
  (hS:∀(blk cap:Nat) (d:Array (Elt (a0c P e))) (w:World),HoldsK (fun x:Elt (a0c P e)=>x.val) (a0c P e).length w blk 0 d→blk<w.heap.size→d.size<4611686018427387904→
   Calls P f #[.slice (some ⟨blk,0,none⟩) d.size cap,.func (.func g) #[] #[]] w fun en w'=>en= .returned (.tuple #[])∧b7i os blk d w w')
  (h0:∀(p:Option Addr) (cap:Nat) (w:World),Calls P f #[.slice p 0 cap,.func (.func g) #[] #[]] w fun en w'=>en= .returned (.tuple #[])∧w'=w)
  {nl:Bool} {xs:List D} (hx:c71 P e os xs) (hl:xs.length<4611686018427387904):a3x P f [.c (.o 0),.c (.f g [])] [(0,.row e true nl xs)] ([],[(0,.row e true nl (c1U P e os xs))]):=by
 intro B env w vs hpre hall;obtain ⟨v1,v2,hv,r1,r2⟩:=d0A hall;have hvs:vs= #[v1,v2]:=by rw [←Array.toList_inj];exact hv
 subst hvs;have r1:v1=(env 0).hdr:=r1;have r2:v2= .func (.func g) #[] #[]:=r2;subst r1 r2;have hob:=hpre.rel.ob 0 _ rfl;have hob0:=hob;obtain ⟨_,⟨hn,hxs,hhdr⟩|⟨hn,hbase,cap,cur,hhdr,hrow,h1,h2,h3,h4⟩⟩:=hob
 ·-- nil
  subst hn hxs;rw [hhdr];have hs:c1U P e os []=[]:=by unfold c1U;simp
  rw [hs];refine (h0 none 0 w).mono ?_;rintro en w' ⟨rfl,rfl⟩;exact ⟨_,rfl,env,hpre.rel,⟨#[],rfl,trivial⟩⟩
 subst hn;obtain ⟨fr,hfr,hheap⟩:=hrow;have hblk:(env 0).blk<w.heap.size:=(e4N.1 hheap).1;generalize hS0:Sof P B (a3N P env [(0,.row e true false xs)]) w.heap.size env [(0,.row e true false xs)] w=S at*
 obtain ⟨l,hl1,hl2⟩:∃l:List (Elt (a0c P e)),l.length=xs.length∧ ∀(i:Nat) x,l[i]? =some x→(∀j,j<(a0c P e).length→x.val[j]? =cur[i*(a0c P e).length+j]?)∧i<xs.length:=by
  refine c75 xs.length fun i hi=> ?_
  have hc:∀(j:Nat) k,(a0c P e)[j]? =some k→ ∃u,cur[i*(a0c P e).length+j]? =some u∧kOk k u:=fun j k hk=>by
   obtain ⟨u,hu,hr⟩:=h4 i j k hi hk;rw [hsz] at hu;exact ⟨u,hu,d5o hr⟩
  have hv:∀j,j<(a0c P e).length→((List.range (a0c P e).length).map fun j=>cur.getD (i*(a0c P e).length+j) undef)[j]? =cur[i*(a0c P e).length+j]? :=fun j hj=>by
   obtain ⟨u,hu,_⟩:=hc j _ (e4R hj);rw [List.getElem?_map,List.getElem?_range hj];simp [e4Q,hu]
  refine ⟨⟨(List.range (a0c P e).length).map fun j=>cur.getD (i*(a0c P e).length+j) undef,.of_get (by simp) fun j k v hk hv'=> ?_⟩,hv,hi⟩
  have hj:=(e4P.1 hk).1;rw [hv j hj] at hv';obtain ⟨u,hu,hr⟩:=hc j k hk;rw [hu] at hv';cases hv';exact hr
 have hval:∀i,i<xs.length→ ∀j,j<(a0c P e).length→(l.toArray[i]!).val[j]? =cur[i*(a0c P e).length+j]? :=fun i hi j hj=>by
  have:l[i]? =some (l.toArray[i]!):=by
   rw [e4R (by omega),getElem!_pos l.toArray i (by simp;omega)];simp
  exact (hl2 i _ this).1 j hj
 have hH:HoldsK (fun x:Elt (a0c P e)=>x.val) (a0c P e).length w (env 0).blk 0 l.toArray:=by
  intro t ht;rw [size_flatK,List.size_toArray,hl1] at ht;rw [get_flatK _ _ _ _ (by rw [List.size_toArray,hl1];exact ht)]
  have hi:t/(a0c P e).length<xs.length:=by rw [Nat.div_lt_iff_lt_mul hk0];exact ht
  have hj:t%(a0c P e).length<(a0c P e).length:=Nat.mod_lt _ hk0;have he:=hval _ hi _ hj;rw [Nat.mul_comm,Nat.div_add_mod] at he;obtain ⟨u,hu,_⟩:=h4 _ _ _ hi (e4R hj);rw [hsz,Nat.mul_comm,Nat.div_add_mod] at hu;rw [hu] at he;refine ⟨?_,?_⟩
  ·rw [Nat.zero_add,a3f hheap hu]
   congr 1
   show u=(l.toArray[t/(a0c P e).length]!).val[t%(a0c P e).length]!;rw [List.getElem!_eq_getElem?_getD,he];rfl
  ·unfold World.frozen?
   simp only [hheap];have:=(e4N.1 hu).1;rcases hfr with rfl|hfr
   ·simp
   ·simp;omega
 have hcs:=hS (env 0).blk cap l.toArray w hH hblk (by rw [List.size_toArray,hl1];exact hl)
 rw [List.size_toArray,hl1] at hcs;rw [hhdr];refine hcs.mono ?_;rintro en w' ⟨rfl,hp⟩;obtain ⟨d',hperm,hsorted,hcells⟩:=hp.row;rw [List.size_toArray,hl1] at hperm hsorted hcells;obtain ⟨cur',c1,c2,c3⟩:=hcells cur e fr hheap;have hsd:d'.size=xs.length:=by rw [hperm.1,List.size_toArray,hl1]
 have hpm:d'.toList.Perm l:=by
  have:=hperm.2.2;have e1:d'.extract 0 xs.length=d':=by rw [←hsd];exact Array.extract_size
  have e2:l.toArray.extract 0 xs.length=l.toArray:=by rw [←hl1,←List.size_toArray];exact Array.extract_size
  rw [e1,e2] at this;simpa using this
 have hrel:a0q (fun (x:D) (el:Elt (a0c P e))=>d5p P w S e x el.val) xs l:=by
  refine .of_get hl1.symm fun i x el hxi hel j k hk=> ?_
  have hi:=(e4P.1 hxi).1;have hj:=(e4P.1 hk).1;obtain ⟨u,hu,hr⟩:=h4 i j k hi hk;rw [hsz] at hu;refine ⟨u,by rw [(hl2 i el hel).1 j hj,hu],?_⟩
  rw [e4L,hxi] at hr;exact hr
 obtain ⟨ys,hys,hrel'⟩:=c73 hpm hrel;have hysl:ys.length=xs.length:=hys.length_eq;have hcmp:=(a1h (P:=P) (e:=e) os);have heq:ys=c1U P e os xs:=by
  refine List.Perm.eq_of_pairwise (le:=fun x y=>(!ltOf (c57 P e os) y x)=true) ?_ ?_ ?_ (hys.trans (List.mergeSort_perm _ _).symm)
  ·intro a b ha hb g1 g2
   have ha:=hys.mem_iff.1 ha;have hb:=(List.mergeSort_perm _ _).mem_iff.1 hb;refine hx a ha b hb ?_;have h:=hcmp.sym a b;have h':=hcmp.sym b a;simp only [ltOf,Bool.not_eq_true',decide_eq_false_iff_not] at g1 g2;omega
  ·rw [List.pairwise_iff_getElem]
   intro i j hi hj hij;have hj':j<d'.size:=by omega
   have hi':i<d'.size:=by omega
   have:=hsorted i j (Nat.zero_le _) hij (by omega)
   rw [getElem!_pos d' j hj',getElem!_pos d' i hi'] at this;have a1:=hrel'.get2 (e4R hi) (y:=d'[i]) (by simp [hi'])
   have a2:=hrel'.get2 (e4R hj) (y:=d'[j]) (by simp [hj'])
   rw [Bool.not_eq_true'];unfold ltOf at this⊢;rw [←c74 a2 a1 os hos];exact this
  ·refine List.pairwise_mergeSort ?_ ?_ _
   ·intro a b c g1 g2
    simp only [Bool.not_eq_true'] at g1 g2⊢;exact hcmp.swo.ntrans c b a g2 g1
   ·intro a b
    have h:=hcmp.sym a b;simp only [ltOf,Bool.or_eq_true,Bool.not_eq_true',decide_eq_false_iff_not];omega
 subst heq;have hM:∀o,a3N P env [(0,.row e true false xs)] (env 0).blk o:=fun o=>⟨0,_,rfl,rfl,rfl,.inl rfl⟩
 have hk:a0y w S w' (Sof P B (a3N P env [(0,.row e true false xs)]) w.heap.size env [(0,.row e true false (c1U P e os xs))] w'):=by
  intro b o v hSb hv;rw [←hS0] at hSb;obtain ⟨s1,s2,s3⟩:=hSb;have hne:b≠(env 0).blk:=fun hb=>s3 0 _ rfl ⟨rfl,hb,.inl rfl⟩
  refine ⟨⟨s1,Nat.lt_of_lt_of_le s2 hp.size,fun key ob hg hm=> ?_⟩,?_⟩
  ·obtain ⟨rfl,rfl⟩:=a3p hg
   exact hne hm.2.1
  ·obtain ⟨c,T,fr',q1,q2⟩:=a47 hv
   exact a3f (by rw [hp.other b s2 hne];exact q1) q2
 refine ⟨_,rfl,env,⟨rfl,?_,?_,?_,?_,?_,hpre.rel.bb,fun _ _=>rfl,hpre.rel.gi⟩,⟨#[],rfl,trivial⟩⟩
 ·intro k o hg
  obtain ⟨rfl,rfl⟩:=a3p hg;refine ⟨hsz,.inr ⟨rfl,hbase,cap,cur',by rw [hhdr,hysl],⟨fr,by rw [c2];exact hfr,c1⟩,by omega,h2,by rw [c2];exact h3,fun i j k hi hj=> ?_⟩⟩
  have hjl:=(e4P.1 hj).1;have a1:=hrel'.get2 (e4R hi) (y:=d'[i]'(by omega)) (by simp) j k hj
  obtain ⟨u,hu,hr⟩:=a1;have hin:i*(a0c P e).length+j<cur.size:=by
   obtain ⟨u',hu',_⟩:=h4 i j k (by omega) hj
   rw [hsz] at hu';exact (e4N.1 hu').1
  refine ⟨u,?_,?_⟩
  ·rw [hsz,c3 i (by omega) j hjl hin,getElem!_pos d' i (by omega)]
   exact hu
  ·rw [e4L,e4R hi]
   exact hr.mono hk
 ·intro k k' o o' hg hg' _ _ hne
  exact absurd ((a3p hg).1.trans (a3p hg').1.symm) hne
 ·intro k o b' x hg hm
  obtain ⟨rfl,rfl⟩:=a3p hg;obtain ⟨_,rfl,_⟩:=hm;exact .inl (hM x)
 ·intro k e' ex ys hg o _
  obtain ⟨rfl,_⟩:=a3p hg;exact .inr (.inr (hM o))
 ·refine ⟨hp.os,hp.tape,hp.output,hp.size,?_,?_⟩
  ·intro b c T fr' hb
   by_cases hbb:b=(env 0).blk
   ·subst hbb
    rw [hheap] at hb;cases hb;exact ⟨cur',fr,c1,c2,fun o ho=>absurd (hM o) ho,.inl rfl⟩
   ·exact ⟨c,fr',by rw [hp.other b (e4N.1 hb).1 hbb];exact hb,rfl,fun _ _=>rfl,.inl rfl⟩
  ·intro b ob hb hno
   by_cases hbb:b=(env 0).blk
   ·subst hbb;exact absurd (hM 0) (hno 0)
   ·rw [hp.other b (e4N.1 hb).1 hbb];exact hb
theorem c58 {ks:List CK} {os:a4t} {blk:Nat} {d d':Array (Elt ks)} {w w':World} {n:Nat} {bs:Array Go.Obj} (hk0:0<ks.length) (hblk:blk<w.heap.size) (h1:PermIn 0 d.size d d') (h2:SortedIn (ltOf fun x y:Elt ks=>c70 os x.val y.val) 0 d.size d')
  (hw:w'=sortWorldK (fun x:Elt ks=>x.val) ks.length w blk 0 n d' bs):b7i os blk d w w':=by
 subst hw;have hsz:(putRowK (fun x:Elt ks=>x.val) ks.length (Sort.ahead w n) blk 0 d').heap.size=w.heap.size:=by
  unfold putRowK;rw [Sort.size_putRow];rfl
 have hat:∀b,b<w.heap.size→(sortWorldK (fun x:Elt ks=>x.val) ks.length w blk 0 n d' bs).heap[b]? =(putRowK (fun x:Elt ks=>x.val) ks.length (Sort.ahead w n) blk 0 d').heap[b]? :=fun b hb=>by
  unfold sortWorldK grow;exact Array.getElem?_append_left (by rw [hsz];exact hb)
 refine ⟨rfl,rfl,rfl,?_,fun b hb hne=> ?_,d',h1,h2,fun cur T fr hc=> ?_⟩
 ·unfold sortWorldK grow;rw [Array.size_append,hsz];omega
 ·rw [hat b hb]
  unfold putRowK putRow mapBlock;simp only [Array.getElem?_modify,Sort.ahead];rw [if_neg (Ne.symm hne)]
 ·refine ⟨putCells id 0 (flatK (fun x:Elt ks=>x.val) ks.length d') cur,?_,by simp [putCells],fun i hi j hj hin=> ?_⟩
  ·rw [hat blk hblk]
   unfold putRowK putRow mapBlock;simp only [Array.getElem?_modify,if_pos,Sort.ahead,hc,e4Z,onCells]
  ·have hid:i<d'.size:=by rw [h1.1];exact hi
   have hlt:i*ks.length+j<d'.size*ks.length:=by
    have:=Nat.mul_le_mul_right ks.length (show i+1≤d'.size from hid);rw [Nat.add_mul,Nat.one_mul] at this;omega
   unfold putCells;rw [Array.getElem?_mapIdx,Array.getElem?_eq_getElem hin];simp only [e4Z,Nat.zero_le,true_and,Nat.zero_add,Nat.sub_zero,size_flatK,id];rw [if_pos hlt,get_flatK _ _ _ _ hlt];have e1:(i*ks.length+j)/ks.length=i:=(blk_iff _ i _ hk0).1 ⟨by omega,by omega⟩
   have e2:(i*ks.length+j)%ks.length=j:=by rw [Nat.mod_eq_sub_div_mul,e1];omega
   rw [e1,e2];have hvl:(d'[i]!).val.length=ks.length:=(d'[i]!).property.length.symm;rw [List.getElem!_eq_getElem?_getD,e4R (by omega)]
   rfl
def c76 (k k':Nat):AL Obj→Option (AL Obj)
 | [(j,.row e ex nl xs)]=>bif Nat.beq j k then some [(k',.row e ex nl xs)] else none
 |(j,.box cs)::r=>bif !(Nat.beq j k)&& !(Nat.beq j k')&&cs.all (fun c=>(a3e c).isEmpty) then (match c76 k k' r with|some r'=>some ((j,.box cs)::r')|none=>none) else none
 |_=>none
def e2K (k k':Nat) (r:Res):Res:=
 match r.1,c76 k k' r.2 with
 | [.c (.o j)],some m=>bif Nat.beq j k then ([.c (.o k')],m) else r
 |_,_=>r
def e2L (k k':Nat) (alts:List (Bool×Res)):List (Bool×Res):=alts.map fun x=>(x.1,e2K k k' x.2)
theorem c0d {k k':Nat} (hne:k≠k'):∀{m m':AL Obj},c76 k k' m=some m'→
  (∃e ex nl xs,get m k=some (.row e ex nl xs)∧get m' k'=some (.row e ex nl xs))∧
  (∀j ob,get m' j=some ob→j≠k'→get m j=some ob∧j≠k∧ ∃cs,ob= .box cs∧ ∀c∈cs,a3e c=[])∧
  (∀j ob,get m j=some ob→j≠k→get m' j=some ob∧j≠k')
 | [],m',h=>by simp [c76] at h
 | (j,.row e ex nl xs)::[],m',h=>by
  simp only [c76,a0l] at h;by_cases hj:j=k
  ·subst hj
   simp only [decide_true,AM.cond_true rfl,e4D] at h;subst h;refine ⟨⟨e,ex,nl,xs,by simp [get,a0l],by simp [get,a0l]⟩,fun i ob hg hi=> ?_,fun i ob hg hi=> ?_⟩
   ·exact absurd (a3p hg).1 hi
   ·exact absurd (a3p hg).1 hi
  ·simp [hj] at h
 |(j,.row e ex nl xs)::y::r,m',h=>by simp [c76] at h
 |(j,.map _ _ _)::r,m',h=>by simp [c76] at h
 |(j,.tab _ _ _)::r,m',h=>by simp [c76] at h
 |(j,.dat _ _)::r,m',h=>by simp [c76] at h
 |(j,.krow _ _ _ _ _)::r,m',h=>by simp [c76] at h
 | (j,.box cs)::r,m',h=>by
  simp only [c76,a0l] at h;cases hc: !(decide (j=k))&& !(decide (j=k'))&&cs.all (fun c=>(a3e c).isEmpty) with
  |false=>rw [hc] at h;cases h
  | true=>
   rw [hc] at h;simp only [AM.cond_true rfl] at h;split at h
   ·rename_i r' hr
    simp only [e4D] at h;subst h;simp only [e4F,Bool.not_eq_true',decide_eq_false_iff_not] at hc;obtain ⟨⟨h1,h2⟩,h3⟩:=hc;obtain ⟨⟨e,ex,nl,xs,g1,g2⟩,g3,g4⟩:=c0d hne hr;have hcs:∀c∈cs,a3e c=[]:=fun c hc=>by
     have:=List.all_eq_true.1 h3 c hc;simpa using this
    refine ⟨⟨e,ex,nl,xs,by simp [get,a0l,h1,g1],by simp [get,a0l,h2,g2]⟩,fun i ob hg hi=> ?_,fun i ob hg hi=> ?_⟩
    ·simp only [get,a0l] at hg⊢
     by_cases hji:j=i
     ·subst hji
      simp only [decide_true,AM.cond_true rfl,e4D] at hg⊢;exact ⟨hg,h1,cs,hg.symm,hcs⟩
     ·simp only [decide_eq_false hji,AM.cond_false rfl] at hg⊢
      exact g3 i ob hg hi
    ·simp only [get,a0l] at hg⊢
     by_cases hji:j=i
     ·subst hji
      simp only [decide_true,AM.cond_true rfl,e4D] at hg⊢;exact ⟨hg,h2⟩
     ·simp only [decide_eq_false hji,AM.cond_false rfl] at hg⊢
      exact g4 i ob hg hi
   ·cases h
theorem c59 {f:FuncId} {args:List V} {mem:AL Obj} {r:Res} {k k':Nat} (hne:k≠k') (hk':mem.length≤k') (h:a3x P f args mem r):a3x P f args mem (e2K k k' r):=by
 unfold e2K;split
 case h_2=>exact h
 rename_i j m hr1 hr2;cases hj:Nat.beq j k with
 |false=>exact h
 |true=>
 have hj:=e4E hj;subst hj;simp only [AM.cond_true rfl];obtain ⟨rs,m0⟩:=r;simp only at hr1 hr2;subst hr1;obtain ⟨⟨e,ex,nl,xs,g1,g2⟩,g3,g4⟩:=c0d hne hr2;intro B env w vs hpre hall;refine (h B env w vs hpre hall).mono ?_;rintro en w' ⟨v,he,env',M,hv⟩;have hu:∀i,i≠k'→upd env' k' (env' j) i=env' i:=fun i hi=>by simp [upd,hi]
 have hu':upd env' k' (env' j) k'=env' j:=by simp [upd]
 have hsub:∀i ob,get m i=some ob→ ∃i0,get m0 i0=some ob∧upd env' k' (env' j) i=env' i0∧(i=k'→i0=j)∧(i≠k'→i0=i∧i≠j):=by
  intro i ob hg;by_cases hi:i=k'
  ·subst hi
   rw [g2] at hg;exact ⟨j,by rw [g1,hg],hu',fun _=>rfl,fun h=>absurd rfl h⟩
  ·obtain ⟨q1,q2,_⟩:=g3 i ob hg hi
   exact ⟨i,q1,hu i hi,fun h=>absurd h hi,fun _=>⟨rfl,q2⟩⟩
 have hk:a0y w' (Sof P B (a3N P env mem) w.heap.size env' m0 w') w' (Sof P B (a3N P env mem) w.heap.size (upd env' k' (env' j)) m w'):=by
  intro b o u hS hc;refine ⟨⟨hS.1,hS.2.1,fun i ob hg hm=> ?_⟩,hc⟩
  obtain ⟨i0,q1,q2,_⟩:=hsub i ob hg;rw [q2] at hm;exact hS.2.2 i0 ob q1 hm
 refine ⟨v,he,upd env' k' (env' j),⟨M.hn0,?_,?_,?_,?_,M.ch,M.bb,?_,M.gi⟩,?_⟩
 ·intro i ob hg
  by_cases hi:i=k'
  ·subst hi
   rw [g2] at hg;cases hg;rw [hu'];obtain ⟨o1,o2|⟨o2,o3,cap,cur,o4,o5,o6,o7,o8,o9⟩⟩:=M.ob j _ g1
   ·exact ⟨o1,.inl o2⟩
   ·exact ⟨o1,.inr ⟨o2,o3,cap,cur,o4,o5,o6,o7,o8,fun a b c d1 d2=>(let ⟨u,u1,u2⟩:=o9 a b c d1 d2;⟨u,u1,u2.mono hk⟩)⟩⟩
  ·obtain ⟨q1,q2,cs,rfl,q4⟩:=g3 i ob hg hi
   rw [hu i hi];obtain ⟨cur,T,c1,c2,c3,c4⟩:=M.ob i _ q1;exact ⟨cur,T,c1,c2,c3.mono fun x y hx=>a0k.mono hk fun a ha=>(by rw [q4 x hx] at ha;cases ha),c4⟩
 ·intro i i' o o' hg hg' hr hr' hii
  obtain ⟨a,a1,a2,a3,a4⟩:=hsub i o hg;obtain ⟨a',b1,b2,b3,b4⟩:=hsub i' o' hg';rw [a2,b2];refine M.ds a a' o o' a1 b1 hr hr' ?_;by_cases h1:i=k'
  ·by_cases h2:i'=k'
   ·exact absurd (h1.trans h2.symm) hii
   ·rw [a3 h1,(b4 h2).1];exact fun h=>(b4 h2).2 h.symm
  ·by_cases h2:i'=k'
   ·rw [b3 h2,(a4 h1).1];exact (a4 h1).2
   ·rw [(a4 h1).1,(b4 h2).1];exact hii
 ·intro i o b x hg hm
  obtain ⟨a,a1,a2,_⟩:=hsub i o hg;rw [a2] at hm;exact M.mu a o b x a1 hm
 ·intro i e' ex' ys hg o ho
  obtain ⟨a,a1,a2,_⟩:=hsub i _ hg;rw [a2];exact M.pr a e' ex' ys a1 o ho
 ·intro i hi
  rw [hu i (by omega)]
  exact M.fx i hi
 ·have hv:v=(env' j).hdr:=hv
  show v=(upd env' k' (env' j) k').hdr;rw [hu'];exact hv
theorem c3I {k k':Nat}:∀{alts:List (Bool×Res)} {x:Res},a5C (e2L k k' alts) some=some x→ ∃y,a5C alts some=some y∧x=e2K k k' y
 | [],x,h=>by cases h
 |(c,y)::r,x,h=>by
  simp only [e2L,List.map_cons,a5C] at h⊢;cases c with
  |true=>simp only [AM.cond_true rfl,e4D] at h⊢;exact ⟨y,rfl,h.symm⟩
  |false=>simp only [AM.cond_false rfl] at h⊢;exact c3I h
end
theorem Sg.fnR {P:Program} {cl:a0j} {kb f:Nat} (s:Sg P kb f) {sh:Sh} {A:List Lf→List (Bool×Res)} (k k':Nat) (hne:Nat.beq k k'=false) (hkb:Nat.ble kb k'=true) (hP:a4q P) (hcl:a0n P cl) (h:∀L x,a5C (A L) some=some x→bd P cl s.h f sh L=some x) (hk:∀L,(a2w sh L).mem.length=kb:=by intro L;rfl):c7N P f sh fun L=>e2L k k' (A L):=
 b2o fun L x hx=>(let ⟨y,h1,h2⟩:=c3I hx;h2▸c59 (fun he=>by rw [he,Nat.beq_refl] at hne;cases hne) (by rw [hk L];exact e4O hkb) (b90 (n:=200) hP hcl s.ok (hk L) (h L y h1)))
def bdK (P:Program) (cl:a0j) (h:a65) (kb:Nat) (f:FuncId) (sh:Sh) (L:List Lf):Option Res:=
 match P.funcs[f]? with
 |none=>none
 | some fn=>match fn.body with
  |none=>none
  |some c=>a4b P cl h kb 200 c {tmps:=params 0 (b1J (a2w sh L).tmps),mem:=(a2w sh L).mem} fun e st=>match e with
   | .exit _=>none
   |_=>b56 P fn h.rows kb st
theorem e3f {P:Program} {cl:a0j} {h:a65} {f:FuncId} {sh:Sh} {L:List Lf} (kb:Nat) (hk:(a2w sh L).mem.length=kb):bd P cl h f sh L=bdK P cl h kb f sh L:=by
 subst hk;rfl
end Go.AM
namespace Go.AM
open Go Go.RowKit
variable {P:Program}
def c1V (ys:List Int):List D:=ys.map D.i
theorem d0B {env:Env} {S:a0z} {w:World} {e:TypeId} (hk:a0c P e=[.int .i64]) (ha:a0d P e=false) (hsz:a0a P e=1) {xs:List Int} {ex:Bool} {b cap:Nat} {cur:Array Value}
  (hrow:a8A w b cur e) (h1:xs.length≤cap) (h2:cap≤maxLen) (h3:cur.size=cap) (h4:∀(i:Nat) (x:Int),xs[i]? =some x→cur[i]? =some (Value.int .i64 x)):
  a0v P env S w ⟨b,0,some (xs.length,cap)⟩ (.row e ex false (c1V xs)):=by
 have hl:(c1V xs).length=xs.length:=by simp [c1V]
 refine ⟨by rw [hsz,hk];rfl,.inr ⟨rfl,rfl,cap,cur,by rw [hl];rfl,hrow,by rw [hl];exact h1,h2,by rw [hsz];omega,fun i j k hi hj=> ?_⟩⟩
 rw [hk] at hj;cases j with
 |succ j=>simp at hj
 | zero=>
  simp only [List.getElem?_cons_zero,e4D] at hj;subst hj;rw [hl] at hi;have hx:=e4R hi;refine ⟨_,by rw [hsz,Nat.mul_one,Nat.add_zero];exact h4 i _ hx,?_⟩
  have:elD P e ((c1V xs).getD i (.i 0)) 0= .i xs[i]:=by
   unfold elD;rw [ha];simp [c1V,e4L,List.getElem?_map,hx]
  rw [this];exact .int _ (.i xs[i])
theorem c1W (zs:List Int):(Lib.compact zs).length≤zs.length:=by
 unfold Lib.compact Lib.compactUpTo;rw [List.length_map];exact Nat.le_trans (List.length_filter_le _ _) (by simp)
def a2H (xs:List D):List D:=c1V (Lib.compact (xs.map D.toI))
open Go.Sort in
theorem c6a {f:FuncId} {e:TypeId} (hk:a0c P e=[.int .i64]) (ha:a0d P e=false) (hsz:a0a P e=1)
  (h:∀(blk cap:Nat) (zs:List Int) (w:World),Holds (Value.int .i64) w blk 0 zs.toArray→zs.length≤9223372036854775807→zs.length≤cap→Calls P f #[.slice (some ⟨blk,0,none⟩) zs.length cap] w fun en w'=>
   en= .returned (.slice (some ⟨blk,0,none⟩) (Lib.compact zs).length cap)∧ ∃q,w'=putRow (Value.int .i64) (Sort.ahead w q) blk 0 (Lib.compact zs++List.replicate (zs.length-(Lib.compact zs).length) 0).toArray)
  {xs:List D}:a3x P f [.c (.o 0)] [(0,.row e true false xs)] ([.c (.o 1)],[(1,.row e true false (a2H xs))]):=by
 intro B env w vs hpre hall;obtain ⟨v1,hv,r1⟩:∃v1,vs.toList=[v1]∧a0r P env (Sof P B (a3N P env [(0,.row e true false xs)]) w.heap.size env [(0,.row e true false xs)] w) w (.c (.o 0)) v1:=by
  obtain ⟨v1,r,hr,r1,h2⟩:=a0A hall;obtain rfl:=a4J h2;exact ⟨v1,hr,r1⟩
 have hvs:vs= #[v1]:=by rw [←Array.toList_inj];exact hv
 subst hvs;obtain ⟨_,⟨hn,_⟩|⟨_,hbase,cap,cur,hhdr,hrow,h1,h2,h3,h4⟩⟩:=hpre.rel.ob 0 _ rfl
 ·cases hn
 have r1:v1=(env 0).hdr:=r1;rw [hhdr] at r1;subst r1;rw [hsz,Nat.mul_one] at h3;obtain ⟨zs,hzs⟩:∃zs:List Int,zs=xs.map D.toI:=⟨_,rfl⟩;have hzl:zs.length=xs.length:=by rw [hzs];simp
 have hcell:∀i (hi:i<zs.length),cur[i]? =some (Value.int .i64 zs[i]):=by
  intro i hi;obtain ⟨u,hu,hr⟩:=h4 i 0 (.int .i64) (by omega) (by rw [hk];rfl)
  rw [hsz,Nat.mul_one,Nat.add_zero] at hu;unfold elD at hr;rw [ha] at hr;simp only [AM.cond_false rfl] at hr;have hx:xs.getD i (.i 0)=xs[i]'(by omega):=by rw [e4L,e4R (by omega)];rfl
  have hz:zs[i]=(xs.getD i (.i 0)).toI:=by rw [hx];subst hzs;simp
  rw [hu,hz];generalize xs.getD i (.i 0)=d at hr;cases hr;rfl
 obtain ⟨fr,hfr,hheap⟩:=hrow;have hH:Holds (Value.int .i64) w (env 0).blk 0 zs.toArray:=by
  intro j hj;have hj:j<zs.length:=by simpa using hj
  have hget:(zs.toArray)[j]! =zs[j]:=by simp [hj]
  refine ⟨?_,?_⟩
  ·rw [Nat.zero_add,hget]
   exact a3f hheap (hcell j hj)
  ·unfold World.frozen?
   simp only [hheap];rcases hfr with rfl|hfr
   ·simp
   ·simp;omega
 have hle:=c1W zs;have hc:=h (env 0).blk cap zs w hH (by rw [hzl];exact Nat.le_trans h1 (Nat.le_trans h2 (by decide))) (by rw [hzl];exact h1)
 rw [hzl] at hc;refine hc.mono ?_;rintro en w' ⟨he,q,hw⟩;have hLe:a2H xs=c1V (Lib.compact zs):=by rw [hzs];rfl
 rw [hLe];generalize hL:Lib.compact zs=L at*
 refine ⟨_,he,upd env 1 ⟨(env 0).blk,0,some (L.length,cap)⟩,?_,?_⟩
 ·have hblk:∃cur':Array Value,w'.heap[(env 0).blk]? =some (.cells cur' e fr)∧cur'.size=cur.size∧ ∀(i:Nat) (x:Int),L[i]? =some x→cur'[i]? =some (Value.int .i64 x):=by
   rw [hw];refine ⟨putCells (Value.int .i64) 0 (L++List.replicate (xs.length-L.length) 0).toArray cur,?_,?_,?_⟩
   ·unfold putRow mapBlock
    simp only [Array.getElem?_modify,if_pos,Sort.ahead,hheap,e4Z,onCells]
   ·simp [putCells]
   ·intro i x hx
    have hi:=(e4P.1 hx).1;have hic:i<cur.size:=by omega
    unfold putCells;rw [Array.getElem?_mapIdx,Array.getElem?_eq_getElem hic];simp only [e4Z,e4D,Nat.zero_le,true_and,Nat.zero_add,Nat.sub_zero];rw [if_pos (by simp;omega)]
    congr 1
    have he2:=(e4P.1 hx).2;simp [List.getElem?_append,hi];exact he2
  have hother:∀b:Nat,b≠(env 0).blk→w'.heap[b]? =w.heap[b]? :=by
   intro b hb;rw [hw];unfold putRow mapBlock;simp only [Array.getElem?_modify,Sort.ahead];rw [if_neg (Ne.symm hb)]
  obtain ⟨cur',c1,c2,c3⟩:=hblk;have hM:∀o,a3N P env [(0,.row e true false xs)] (env 0).blk o:=fun o=>⟨0,_,rfl,rfl,rfl,.inl rfl⟩
  have hup:upd env 1 ⟨(env 0).blk,0,some (L.length,cap)⟩ 1=⟨(env 0).blk,0,some (L.length,cap)⟩:=by simp [upd]
  refine ⟨rfl,?_,?_,?_,?_,?_,hpre.rel.bb,?_,hpre.rel.gi⟩
  ·intro k o hg
   obtain ⟨rfl,rfl⟩:=a3p hg;rw [hup];exact d0B hk ha hsz ⟨fr,by rw [c2];exact hfr,c1⟩ (by omega) h2 (by rw [c2];exact h3) c3
  ·intro k k' o o' hg hg' _ _ hne
   exact absurd ((a3p hg).1.trans (a3p hg').1.symm) hne
  ·intro k o b' x hg hm
   obtain ⟨rfl,rfl⟩:=a3p hg;rw [hup] at hm;obtain ⟨_,rfl,_⟩:=hm;exact .inl (hM x)
  ·intro k e' ex ys hg o _
   obtain ⟨rfl,_⟩:=a3p hg;rw [hup];exact .inr (.inr (hM o))
  ·refine ⟨by rw [hw];rfl,by rw [hw];rfl,by rw [hw];rfl,by rw [hw];simp [putRow,mapBlock,Sort.ahead],?_,?_⟩
   ·intro b c T fr' hb
    by_cases hbb:b=(env 0).blk
    ·subst hbb
     rw [hheap] at hb;cases hb;exact ⟨cur',fr,c1,c2,fun o ho=>absurd (hM o) ho,.inl rfl⟩
    ·exact ⟨c,fr',by rw [hother b hbb];exact hb,rfl,fun _ _=>rfl,.inl rfl⟩
   ·intro b ob hb hno
    by_cases hbb:b=(env 0).blk
    ·subst hbb;exact absurd (hM 0) (hno 0)
    ·rw [hother b hbb];exact hb
  ·intro k hk'
   have:k=0:=by simpa using hk'
   subst this;simp [upd]
 ·show _=a1N.hdr _
  simp [upd,a1N.hdr]
open Go.Sort Go.Shelf Go.Proofs in
theorem c6b {ks:List CK} (hk:ks.length=1) {d:Array (Elt ks)} {w:World} {blk:Nat} (h:HoldsK (fun x:Elt ks=>x.val) ks.length w blk 0 d):Holds (fun x:Elt ks=>x.val.getD 0 undef) w blk 0 d:=by
 intro j hj;have h':=h j (by rw [size_flatK,hk];omega)
 rw [get_flatK _ _ _ _ (by rw [hk];omega),hk,Nat.div_one,Nat.mod_one] at h'
 have hv:(d[j]!).val.length=1:=by rw [←hk];exact (d[j]!).property.length.symm
 refine ⟨h'.1.trans (congrArg some ?_),h'.2⟩;show ((d[j]!).val)[0]! =(d[j]!).val.getD 0 undef;match (d[j]!).val,hv with
 | [v],_=>rfl
open Go.Sort Go.Shelf Go.Proofs in
theorem c6c {ks:List CK} {os:a4t} {blk:Nat} {d d':Array (Elt ks)} {w w':World} {n:Nat} {bs:Array Go.Obj} (hk:ks.length=1) (hblk:blk<w.heap.size) (h1:PermIn 0 d.size d d') (h2:SortedIn (ltOf fun x y:Elt ks=>c70 os x.val y.val) 0 d.size d')
  (hw:w'=sortWorld (fun x:Elt ks=>x.val.getD 0 undef) w blk 0 n d' bs):b7i os blk d w w':=by
 refine c58 (n:=n) (bs:=bs) (by omega) hblk h1 h2 ?_
 rw [hw];unfold sortWorld sortWorldK putRowK putRow;have e:putCells (fun x:Elt ks=>x.val.getD 0 undef) 0 d'=putCells id 0 (flatK (fun x:Elt ks=>x.val) ks.length d'):=by
  funext cur
  unfold putCells;congr 1
  funext i v
  rw [size_flatK,hk,Nat.mul_one];by_cases hi:0≤i∧i<0+d'.size
  ·rw [if_pos hi,if_pos hi,get_flatK _ _ _ _ (by omega),Nat.div_one,Nat.mod_one]
   have hv:(d'[i-0]!).val.length=1:=by rw [←hk];exact (d'[i-0]!).property.length.symm
   show (d'[i-0]!).val.getD 0 undef=((d'[i-0]!).val)[0]!;match (d'[i-0]!).val,hv with
   | [v],_=>rfl
  ·rw [if_neg hi,if_neg hi]
 rw [e]
end Go.AM
namespace Go.AM
open Go
theorem bb {A R:Type} {z:Option R} {u:Option A} {K:A→Option R} (h:z=u.bind K:=by repeat' (first|with_reducible apply a6P|(with_reducible apply b4G;intro _)|rfl)):z=u.bind K:=h
theorem kk {A R:Type} {x:R} {k:A→R} {a:A} (h:x=k a:=by repeat' (first|rfl|apply e04|(apply e28;intro _))):x=k a:=h
structure Oc (P:Program) where
 o:a0j
 ok:a0n P o
 pr:a4q P
section
variable {P:Program} {kb f:Nat}
def Oc.x (c:Oc P) {f:FuncId} {sh:Sh} {A:List Lf→List (Bool×Res)} (h:c7N P f sh A) (he:a6Q P f=true:=by kernel_rfl):Oc P:=⟨ext f (e2I sh A) c.o,h.to c.ok he,c.pr⟩
def Oc.no (h:a4q P):Oc P:=⟨c3t,c1G,h⟩
section
variable {X:Ctx} {Fs:a1d} (s:Sg P kb f X Fs) (c:Oc P)
abbrev Kt (T:Type):=St→(AL V→AL Obj→St)→List Lf→T→Ex×St
def Kt.at {T:Type} (K:Kt T) (sh:Sh) (a b:List Nat) (L:List Lf):T→Ex×St:=K (a2w sh L) (fun x y=>mg (a2w sh L) a x b y) L
section
variable (id n:Nat) (a b:List Nat) (sh:Sh) {T0 T1 T2 T3:Type}
def Sg.c0 (J:List Lf→(R:Type)→(T0→R)→R) (K:Kt T0) (ht:∀L (k:T0→Option (Ex×St)),J L _ k=k (J L _ fun p=>p))
  (raw:∀L,pc P c.o s.h kb n f id sh L a b=J L _ (fun p=>some (K.at sh a b L p)):=by intro L;kernel_rfl)
  (h1:b5O P f id=true:=by kernel_rfl) (hfs:a6l Fs (a0S P f id):=by first|exact fsW _|exact fsA (by kernel_rfl)):Sg P kb f X Fs:=
 s.cut (fun L=>bnd (J L _ fun p=>p) fun q=>[(true,K.at sh a b L q)]) c.pr c.ok (fun L x hx=>(raw L).trans ((ht L _).trans (e4f _ _ hx))) h1 hfs
def Sg.c1 [Inhabited T0] (J:List Lf→(R:Type)→(T0→Option R)→Option R) (K:Kt T0) (hb:∀L (k:T0→Option (Ex×St)),J L _ k=(J L _ fun p=>some p).bind k)
  (raw:∀L,pc P c.o s.h kb n f id sh L a b=J L _ (fun p=>some (K.at sh a b L p)):=by intro L;kernel_rfl)
  (h1:b5O P f id=true:=by kernel_rfl) (hfs:a6l Fs (a0S P f id):=by first|exact fsW _|exact fsA (by kernel_rfl)):Sg P kb f X Fs:=
 s.cut (fun L=>bnd (J L _ fun p=>some p) fun q=>[(q.isSome,K.at sh a b L (q.getD default))]) c.pr c.ok (fun L x hx=>(raw L).trans ((hb L _).trans (b95 x hx))) h1 hfs
def Sg.c2 [Inhabited T0] [Inhabited T1] (J:List Lf→(R:Type)→(T0→Option R)→(T1→Option R)→Option R) (K0:Kt T0) (K1:Kt T1)
  (hb:∀L (k0:T0→Option (Ex×St)) k1,J L _ k0 k1=(J L (Sum T0 T1) (fun p=>some (.inl p)) (fun p=>some (.inr p))).bind (b94 k0 k1))
  (raw:∀L,pc P c.o s.h kb n f id sh L a b=J L _ (fun p=>some (K0.at sh a b L p)) (fun p=>some (K1.at sh a b L p)):=by intro L;kernel_rfl)
  (h1:b5O P f id=true:=by kernel_rfl) (hfs:a6l Fs (a0S P f id):=by first|exact fsW _|exact fsA (by kernel_rfl)):Sg P kb f X Fs:=
 s.cut (fun L=>bnd (J L (Sum T0 T1) (fun p=>some (.inl p)) (fun p=>some (.inr p))) fun q=>[(a1x q,K0.at sh a b L (a2t q)),((a0w q).isSome,K1.at sh a b L ((a0w q).getD default))])
  c.pr c.ok (fun L x hx=>(raw L).trans ((hb L _ _).trans ((c9M b95) x hx))) h1 hfs
def Sg.c3 [Inhabited T0] [Inhabited T1] [Inhabited T2] (J:List Lf→(R:Type)→(T0→Option R)→(T1→Option R)→(T2→Option R)→Option R) (K0:Kt T0) (K1:Kt T1) (K2:Kt T2)
  (hb:∀L (k0:T0→Option (Ex×St)) k1 k2,J L _ k0 k1 k2=(J L (Sum T0 (Sum T1 T2)) (fun p=>some (.inl p)) (fun p=>some (.inr (.inl p))) (fun p=>some (.inr (.inr p)))).bind (b94 k0 (b94 k1 k2)))
  (raw:∀L,pc P c.o s.h kb n f id sh L a b=J L _ (fun p=>some (K0.at sh a b L p)) (fun p=>some (K1.at sh a b L p)) (fun p=>some (K2.at sh a b L p)):=by intro L;kernel_rfl)
  (h1:b5O P f id=true:=by kernel_rfl) (hfs:a6l Fs (a0S P f id):=by first|exact fsW _|exact fsA (by kernel_rfl)):Sg P kb f X Fs:=
 s.cut (fun L=>bnd (J L (Sum T0 (Sum T1 T2)) (fun p=>some (.inl p)) (fun p=>some (.inr (.inl p))) (fun p=>some (.inr (.inr p)))) fun q=>[(a1x q,K0.at sh a b L (a2t q)),(a1x (a0w q),K1.at sh a b L (a2t (a0w q))),((a0w (a0w q)).isSome,K2.at sh a b L ((a0w (a0w q)).getD default))])
  c.pr c.ok (fun L x hx=>(raw L).trans ((hb L _ _ _).trans ((c9M (c9M b95)) x hx))) h1 hfs
end
section
variable (id:Nat) (vs a b:List Nat) (sh:Sh) {T0 T1:Type} (N:Nat)
def Sg.l1 [Inhabited T0] (J:List Lf→List Lf→(R:Type)→(List Lf→Option R)→(T0→Option R)→Option R) (Q:List Lf→Nat→List Lf→Option T0) (K:Kt T0)
  (sb:∀L x (R:Type) (kr:List Lf→Option R) k0,J L x _ kr k0=(J L x (Sum (List Lf) T0) (fun y=>some (.inl y)) (fun p=>some (.inr p))).bind (b94 kr k0))
  (step:∀m kn L x,lpB P c.o s.h kb f id sh vs a b (m+100) kn L x=J L x _ (fun y=>kn (a2w sh (mx sh vs L y))) (fun p=>some (K.at sh a b L p)):=by intro m kn L x;kernel_rfl)
  (ql:∀L m x,Q L (m+1) x=J L x _ (Q L m) some:=by intro L m x;kernel_rfl)
  (h1:b5O P f id=true:=by kernel_rfl) (hlp:a0S P f id= .loop (a9z (a0S P f id)):=by kernel_rfl) (hnl:a9f s.h (.loop (a9z (a0S P f id)))=none:=by kernel_rfl) (hid:3*a16 (a9z (a0S P f id))=id:=by kernel_rfl)
  (hc:∀L,a3P P kb s.h.loops id (a2w sh L)=a2w sh L:=by intro L;kernel_rfl) (h0:∀L,a2w sh L=a2w sh (mx sh vs L (pk sh vs L)):=by intro L;kernel_rfl)
  (q0:∀L x,Q L 0 x=none:=by intro L x;rfl) (hfs:a6l Fs (a0S P f id):=by first|exact fsW _|exact fsA (by kernel_rfl)):Sg P kb f X Fs:=
 s.lp (sh:=sh) (vs:=vs) (a:=a) (b:=b) (fun L=>bnd (Q L N (pk sh vs L)) fun q=>[(q.isSome,K.at sh a b L (q.getD default))]) N c.pr c.ok (fun m kn L x=>(step m kn L x).trans (sb L x _ _ _)) (fun L m x=>(ql L m x).trans (sb L x _ (Q L m) some)) (fun L x hx=>b95 x hx)
  h1 hlp hnl hid hc h0 q0 (fun _=>rfl) hfs
def Sg.l2 [Inhabited T0] [Inhabited T1] (J:List Lf→List Lf→(R:Type)→(List Lf→Option R)→(T0→Option R)→(T1→Option R)→Option R) (Q:List Lf→Nat→List Lf→Option (Sum T0 T1)) (K0:Kt T0) (K1:Kt T1)
  (sb:∀L x (R:Type) (kr:List Lf→Option R) k0 k1,J L x _ kr k0 k1=(J L x (Sum (List Lf) (Sum T0 T1)) (fun y=>some (.inl y)) (fun p=>some (.inr (.inl p))) (fun p=>some (.inr (.inr p)))).bind (b94 kr (b94 k0 k1)))
  (step:∀m kn L x,lpB P c.o s.h kb f id sh vs a b (m+100) kn L x=J L x _ (fun y=>kn (a2w sh (mx sh vs L y))) (fun p=>some (K0.at sh a b L p)) (fun p=>some (K1.at sh a b L p)):=by intro m kn L x;kernel_rfl)
  (ql:∀L m x,Q L (m+1) x=J L x (Sum T0 T1) (Q L m) (fun p=>some (.inl p)) (fun p=>some (.inr p)):=by intro L m x;kernel_rfl)
  (h1:b5O P f id=true:=by kernel_rfl) (hlp:a0S P f id= .loop (a9z (a0S P f id)):=by kernel_rfl) (hnl:a9f s.h (.loop (a9z (a0S P f id)))=none:=by kernel_rfl) (hid:3*a16 (a9z (a0S P f id))=id:=by kernel_rfl)
  (hc:∀L,a3P P kb s.h.loops id (a2w sh L)=a2w sh L:=by intro L;kernel_rfl) (h0:∀L,a2w sh L=a2w sh (mx sh vs L (pk sh vs L)):=by intro L;kernel_rfl)
  (q0:∀L x,Q L 0 x=none:=by intro L x;rfl) (hfs:a6l Fs (a0S P f id):=by first|exact fsW _|exact fsA (by kernel_rfl)):Sg P kb f X Fs:=
 s.lp (sh:=sh) (vs:=vs) (a:=a) (b:=b) (fun L=>bnd (Q L N (pk sh vs L)) fun q=>[(a1x q,K0.at sh a b L (a2t q)),((a0w q).isSome,K1.at sh a b L ((a0w q).getD default))]) N c.pr c.ok
  (fun m kn L x=>(step m kn L x).trans (sb L x _ _ _ _)) (fun L m x=>(ql L m x).trans (sb L x _ (Q L m) _ _)) (fun L x hx=>(c9M b95) x hx)
  h1 hlp hnl hid hc h0 q0 (fun p=>by rcases p with p|p<;>rfl) hfs
end
end
section
variable (s:Sg P kb f) (c:Oc P) (sh:Sh) {T0 T1:Type}
def Sg.f0 (J:List Lf→(R:Type)→(T0→R)→R) (K:List Lf→T0→Res) (ht:∀L (k:T0→Option Res),J L _ k=k (J L _ fun p=>p))
  (raw:∀L,bd P c.o s.h f sh L=J L _ (fun p=>some (K L p)):=by intro L;kernel_rfl) (hk:∀L,(a2w sh L).mem.length=kb:=by intro L;rfl) (he:a6Q P f=true:=by kernel_rfl):Oc P:=
 c.x (s.fn (A:=fun L=>bnd (J L _ fun p=>p) fun q=>[(true,K L q)]) c.pr c.ok (fun L x hx=>(raw L).trans ((ht L _).trans (e4f _ _ hx))) hk) he
def Sg.f1 [Inhabited T0] (J:List Lf→(R:Type)→(T0→Option R)→Option R) (K:List Lf→T0→Res) (hb:∀L (k:T0→Option Res),J L _ k=(J L _ fun p=>some p).bind k)
  (raw:∀L,bd P c.o s.h f sh L=J L _ (fun p=>some (K L p)):=by intro L;kernel_rfl) (hk:∀L,(a2w sh L).mem.length=kb:=by intro L;rfl) (he:a6Q P f=true:=by kernel_rfl):Oc P:=
 c.x (s.fn (A:=fun L=>bnd (J L _ fun p=>some p) fun q=>[(q.isSome,K L (q.getD default))]) c.pr c.ok (fun L x hx=>(raw L).trans ((hb L _).trans (b95 x hx))) hk) he
def Sg.f2 [Inhabited T0] [Inhabited T1] (J:List Lf→(R:Type)→(T0→Option R)→(T1→Option R)→Option R) (K0:List Lf→T0→Res) (K1:List Lf→T1→Res)
  (hb:∀L (k0:T0→Option Res) k1,J L _ k0 k1=(J L (Sum T0 T1) (fun p=>some (.inl p)) (fun p=>some (.inr p))).bind (b94 k0 k1))
  (raw:∀L,bd P c.o s.h f sh L=J L _ (fun p=>some (K0 L p)) (fun p=>some (K1 L p)):=by intro L;kernel_rfl) (hk:∀L,(a2w sh L).mem.length=kb:=by intro L;rfl) (he:a6Q P f=true:=by kernel_rfl):Oc P:=
 c.x (s.fn (A:=fun L=>bnd (J L (Sum T0 T1) (fun p=>some (.inl p)) (fun p=>some (.inr p))) fun q=>[(a1x q,K0 L (a2t q)),((a0w q).isSome,K1 L ((a0w q).getD default))]) c.pr c.ok (fun L x hx=>(raw L).trans ((hb L _ _).trans ((c9M b95) x hx))) hk) he
end
end
end Go.AM
namespace Go.Proofs.YtajladplkpfaiaaGreat
open Go Go.AM
theorem a8w:a4q Tryz.prog:=c7J (by kernel_rfl)
def lkC:Code:=a0S Tryz.prog 103 300000004
def d5r:Code→Code| .seq a _=>a|c=>c
def d0C:Code→Code| .seq _ b=>b|c=>c
def e3g:Code→Code| .block _ b=>b| .loop b=>b| .cond _ a _=>a|c=>c
def d5s:Code→List Oper| .region _ ops _=>ops.toList|_=>[]
def d5t:List Oper:=d5s (d5r lkC)
def lkL:Code:=e3g (e3g (d0C lkC))
def d5u:List Oper:=d5s (d5r lkL)
def lkB:Code:=e3g (d0C (d0C lkL))
def d4f:List Oper:=d5s (d5r lkB)
def lkT:Code:=d0C lkB
theorem d4g:lkC= .seq (.region 1 d5t.toArray false) (.block 0 (.loop (.seq (.region 2 d5u.toArray false) (.seq (.cond (.tmp 16) .skip (.exit 0)) (.block 1 (.seq (.region 3 d4f.toArray false) lkT)))))):=by kernel_rfl
def lk1 (i:Nat):Oper:=d5t.getD i default
def lk2 (i:Nat):Oper:=d5u.getD i default
def lk3 (i:Nat):Oper:=d4f.getD i default
theorem d5v:d5t=[lk1 0,lk1 1,lk1 2,lk1 3,lk1 4,lk1 5,lk1 6,lk1 7,lk1 8]:=by kernel_rfl
theorem c77:d5u=[lk2 0,lk2 1]:=by kernel_rfl
theorem d5w:d4f=[lk3 0,lk3 1,lk3 2,lk3 3,lk3 4]:=by kernel_rfl
theorem e4o:(lk1 0).op= .makeMap 161 none∧(lk1 0).dst=some 9∧(lk1 0).guard=none:=⟨by kernel_rfl,by kernel_rfl,by kernel_rfl⟩
theorem e4p:(lk1 2).op= .insert 161 (.tmp 9) (.const (.int .i64 1)) (.tmp 10)∧(lk1 2).dst=none∧(lk1 2).guard=none:=⟨by kernel_rfl,by kernel_rfl,by kernel_rfl⟩
theorem e4q:(lk1 4).op= .insert 161 (.tmp 9) (.const (.int .i64 2)) (.tmp 11)∧(lk1 4).dst=none∧(lk1 4).guard=none:=⟨by kernel_rfl,by kernel_rfl,by kernel_rfl⟩
theorem e4r:(lk1 6).op= .insert 161 (.tmp 9) (.const (.int .i64 3)) (.tmp 12)∧(lk1 6).dst=none∧(lk1 6).guard=none:=⟨by kernel_rfl,by kernel_rfl,by kernel_rfl⟩
theorem e4s:(lk1 8).op= .range 161 (.tmp 13)∧(lk1 8).dst=some 14∧(lk1 8).guard=none:=⟨by kernel_rfl,by kernel_rfl,by kernel_rfl⟩
theorem e3h:(lk2 0).op= .next (.tmp 14) false∧(lk2 0).dst=some 15∧(lk2 0).guard=none:=⟨by kernel_rfl,by kernel_rfl,by kernel_rfl⟩
theorem e4t:(lk3 0).op= .entry (.tmp 14)∧(lk3 0).dst=some 17∧(lk3 0).guard=none:=⟨by kernel_rfl,by kernel_rfl,by kernel_rfl⟩
theorem noG {l:List Oper} (h:(l.all fun o=>o.guard.isNone)=true) {o:Oper} (ho:o∈l):o.guard=none:=Option.isNone_iff_eq_none.1 (List.all_eq_true.1 h o ho)
theorem e4u:(d5t.all fun o=>o.guard.isNone)=true:=by kernel_rfl
theorem e4v:(d5u.all fun o=>o.guard.isNone)=true:=by kernel_rfl
theorem e4w:(d4f.all fun o=>o.guard.isNone)=true:=by kernel_rfl
theorem lkU:Tryz.prog.underlying 161=some (.map 3 160):=by kernel_rfl
theorem e4i:Tryz.prog.underlying 3=some (.int .i64):=by kernel_rfl
def a3q (L:List Lf) (p q s:Int):AL AM.Obj:=[(2,.box [.b (lb L 0),.b (lb L 1),.b (lb L 2),.b (lb L 3),.b (lb L 4),.sl 3 (lb L 5) (ll L 6),.b (lb L 7),.b (lb L 8)]),
 (3,.box [.i .i64 (li L 9),.i .i64 (li L 10),.i .i64 (li L 11),.i .i64 (li L 12),.i .i64 p,.i .i64 q,.i .i64 s]),
 (4,.box [.i .i64 (li L 16),.i .i64 (li L 17),.i .i64 (li L 18),.i .i64 (li L 19),.i .i64 (li L 20),.i .i64 (li L 21),.i .i64 (li L 22)])]
def d5x:AL V:=[(2,.c (.p 2 0)),(3,.c (.p 3 0)),(4,.c (.p 4 0))]
def c3J:Sh:={tmps:=[(2,.c (.p 2 0)),(3,.c (.p 3 0)),(4,.c (.p 4 0))],mem:=[(2,.box (rB 5 ([.sl 3,.b,.b]))),(3,.box (rI 7 ([]))),(4,.box (rI 7 ([])))]}
theorem c78 (L:List Lf):a2w c3J L=⟨d5x,a3q L (li L 13) (li L 14) (li L 15)⟩:=by kernel_rfl
def mis (f:Bool) (x:Int):Int:=bif f then-1 else x
def d5y (L:List Lf):List (Bool×(Ex×St)):=[(true,(.normal,⟨d5x,a3q L (mis (lb L 1) (li L 13)) (mis (lb L 2) (li L 14)) (mis (lb L 3) (li L 15))⟩))]
def cl0:a0j:=fun _ _ _=>none
def c79 (L:List Lf) (p q s:Int) (rb:Nat):St:=⟨d5x++[(14,.c (.v (.pointer (some ⟨rb,0,none⟩))))],a3q L p q s⟩
def c0e (L:List Lf) (p q s:Int) (rb i:Nat):St:=⟨d5x++[(5,.c (.i .i64 i)),(6,.c (.p 3 (3+i))),(14,.c (.v (.pointer (some ⟨rb,0,none⟩))))],a3q L p q s⟩
def lkK (e:Ex) (st:St):Option (Ex×St):=some (e,a3Z [2,3,4,14] [2,3,4] st)
theorem c3K (L:List Lf) (p q s:Int) (rb:Nat):a4b Tryz.prog cl0 {} 1000 50 lkT (c0e L p q s rb 1) lkK=bif lb L 1 then some (.normal,c79 L (-1) q s rb) else some (.normal,c79 L p q s rb):=by kernel_rfl
theorem c3L (L:List Lf) (p q s:Int) (rb:Nat):a4b Tryz.prog cl0 {} 1000 50 lkT (c0e L p q s rb 2) lkK=bif lb L 2 then some (.normal,c79 L p (-1) s rb) else some (.normal,c79 L p q s rb):=by kernel_rfl
theorem c3M (L:List Lf) (p q s:Int) (rb:Nat):a4b Tryz.prog cl0 {} 1000 50 lkT (c0e L p q s rb 3) lkK=bif lb L 3 then some (.normal,c79 L p q (-1) rb) else some (.normal,c79 L p q s rb):=by kernel_rfl
theorem d4h:a0n Tryz.prog cl0:=fun _ _ _ _ h=>by cases h
theorem d5z {hs:a65} (h:hs.los=[]) {kb:Nat} {b:Code}:b5N Tryz.prog hs kb b:=by
 intro id f hl;unfold a9f at hl;rw [h] at hl;split at hl
 ·cases hl
 ·simp [AM.get] at hl
def e3i:V→Bool| .w .. =>false|_=>true
theorem e09 {st:St} (h:(st.tmps.all fun x=>e3i x.2)=true):NoW st:=by
 intro t x hx s b y he;subst he;have:∀(l:AL V),(l.all fun x=>e3i x.2)=true→AM.get l t≠some (.w s b y):=by
  intro l;induction l with
  |nil=>intro _ h;cases h
  |cons e r ih=>
   obtain ⟨k,v⟩:=e;intro hl hg;simp only [List.all_cons,e4F] at hl;simp only [AM.get] at hg;cases hk:Nat.beq k t with
   |true=>rw [hk] at hg;simp only [AM.cond_true rfl,e4D] at hg;subst hg;exact absurd hl.1 (by simp [e3i])
   |false=>rw [hk] at hg;exact ih hl.2 hg
 exact this _ h hx
theorem c0f {w:World} {b:Nat} {o:Go.Obj}:w.grownBy {w with heap:=w.heap.setIfInBounds b o} (some b):=
 ⟨rfl,rfl,rfl,by simp,fun k hk hne=>by
  show (w.heap.setIfInBounds b o)[k]? =_;rw [Array.getElem?_setIfInBounds,if_neg (fun e=>hne (by rw [e]))]⟩
theorem c6d {w w1:World} {b:Nat} {o:Go.Obj} (h:w1=w∨w1=w.drew):w.grownBy (ChangeMaps.setBlock w1 b o) (some b):=by
 rcases h with rfl|rfl
 ·exact c0f
 ·exact ⟨rfl,rfl,rfl,by show w.heap.size≤(w.heap.setIfInBounds b o).size;simp,fun k hk hne=>by
   show (w.heap.setIfInBounds b o)[k]? =_;rw [Array.getElem?_setIfInBounds,if_neg (fun e=>hne (by rw [e]))]⟩
theorem d5A {w:World} {mb clock:Nat} {es:Array MapEntry} {k:Int} {v:Value} (hb:w.heap[mb]? =some (.map es clock)) (hf:Instr.findNow (.int .i64) (.int .i64 k) es.toList 0=some none):
  (Instr.mapUpdate 161 (.map (some mb)) (.int .i64 k) v).run Tryz.prog w= .ok () {w with heap:=w.heap.setIfInBounds mb (.map (es.push {key:= .int .i64 k,val:=v,born:=clock}) (clock+1))}:=by
 have hc:(Instr.checkKey false 10000 3 (.int .i64 k)).run Tryz.prog w= .ok () w:=MapKept.run_checkKey (k:= .int .i64 k) e4i (by simp [MapKept.IsKey]) false 9999
 simp [Instr.mapUpdate,run_underlying lkU,MapKept.run_getObj_map hb,hc,MapKept.run_findKey e4i hf,MapKept.run_setObj_map _ hb,Result.andThen]
def lkE (s:a1N) (i:Nat):MapEntry:={key:= .int .i64 (i+1),val:= .pointer (some ⟨s.blk,s.base+(4+i),none⟩),born:=i}
def b7j (s:a1N):Array MapEntry:= #[lkE s 0,lkE s 1,lkE s 2]
theorem d4i {s:a1N} {e:MapEntry} (h:e∈(b7j s).toList):∃i,i<3∧e=lkE s i:=by
 simp only [b7j,e4S,List.not_mem_nil,or_false] at h;rcases h with rfl|rfl|rfl
 ·exact ⟨0,by omega,rfl⟩
 ·exact ⟨1,by omega,rfl⟩
 ·exact ⟨2,by omega,rfl⟩
section
variable {N n0:Nat} {F:Nat→Prop} {B M0:a0z} {w0:World} {e0:a6t} {env:Env} {a:Act} {w:World}
def LkI (N n0:Nat) (F:Nat→Prop) (B M0:a0z) (w0:World) (e0:a6t) (L:List Lf) (s:a1N) (mb rb:Nat) (a:Act) (w:World):Prop:=
 ∃env p q r,∃(seen:Array Nat) (c0:Nat),Rel Tryz.prog N n0 B M0 w0 F e0 env (c79 L p q r rb) a w∧env 3=s∧w.heap[mb]? =some (.map (b7j s) 3)∧w.heap[rb]? =some (.mapIter (some mb) 3 seen c0)∧3≤c0∧
  Off env (a3q L p q r) mb∧Off env (a3q L p q r) rb∧n0≤rb∧
  p=(bif seen.contains 0 then mis (lb L 1) (li L 13) else li L 13)∧q=(bif seen.contains 1 then mis (lb L 2) (li L 14) else li L 14)∧r=(bif seen.contains 2 then mis (lb L 3) (li L 15) else li L 15)
def lkM (s:a1N) (rb:Nat) (w:World):Nat:=match w.heap[rb]? with
 |some (.mapIter _ _ seen _)=>(leftOf (b7j s) seen).size
 |_=>0
theorem c3N {st st':St} (h:Rel Tryz.prog N n0 B M0 w0 F e0 env st a w) (e:st=st'):Rel Tryz.prog N n0 B M0 w0 F e0 env st' a w:=e▸h
theorem d4j {N:Nat} (h:okC N lkC=true):(∀o∈d5t,∀d,o.dst=some d→d<N)∧(∀o∈d5u,∀d,o.dst=some d→d<N)∧(∀o∈d4f,∀d,o.dst=some d→d<N)∧okC N lkT=true:=by
 rw [d4g] at h;simp only [okC,e4F] at h;exact ⟨a8R h.1,a8R h.2.1,a8R h.2.2.2.1,h.2.2.2.2⟩
theorem d5B {L:List Lf} {p q r p' q' r':Int} {rb i:Nat} (hN:okC N lkT=true) (hF:∀k,F k→k<0) (h:Rel Tryz.prog N n0 B M0 w0 F e0 env (c0e L p q r rb i) a w)
  (hx:a4b Tryz.prog cl0 {} 1000 50 lkT (c0e L p q r rb i) lkK=some (.normal,c79 L p' q' r' rb)):
  lkT.wp Tryz.prog (fun e a' w'=>e= .normal∧ ∃env',Rel Tryz.prog N n0 B M0 w0 F e0 env' (c79 L p' q' r' rb) a' w'∧AM.Left (· <1000) env (a3q L p q r) w env' (a3q L p' q' r') w') a w:=
 d5i (kb:=1000) (ts:=[2,3,4,14]) (ks:=[2,3,4]) d4h (a6O a8w.mixed d4h) (fun k hk=>by have:=hF k hk;omega) hN (fun b _=>d5z rfl) h (e09 rfl) hx rfl
theorem d0D {x:Ex×St} {L:List Lf} {s:a1N} {mb rb:Nat} (hok:okC N lkC=true) (hF:∀k,F k→k<0) (hI:LkI N n0 F B M0 w0 e0 L s mb rb a w) (hmr:mb≠rb)
  (hx:x=(.normal,⟨d5x,a3q L (mis (lb L 1) (li L 13)) (mis (lb L 2) (li L 14)) (mis (lb L 3) (li L 15))⟩)):
  (Code.seq (.region 2 d5u.toArray false) (.seq (.cond (.tmp 16) .skip (.exit 0)) (.block 1 (.seq (.region 3 d4f.toArray false) lkT)))).wp Tryz.prog
   (Exit.then (fun a' w'=>LkI N n0 F B M0 w0 e0 L s mb rb a' w'∧lkM s rb w'<lkM s rb w) (Exit.inBlock 0 (b68 Tryz.prog N n0 B M0 w0 F e0 (fun e st=>some (e,st)) x))) a w:=by
 obtain ⟨ok1,ok2,ok3,okT⟩:=d4j hok;obtain ⟨env,p,q,r,seen,c0,h,hs,hb,hr,hc,hOb,hOr,hn,hp,hq,hrr⟩:=hI;have hold:∀x∈(b7j s).toList,x.born<3:=fun x hx=>by obtain ⟨i,hi,rfl⟩:=d4i hx;exact hi
 have hM:lkM s rb w=(leftOf (b7j s) seen).size:=by unfold lkM;rw [hr]
 refine wp_seq (wp_region_list ?_);show wpList Tryz.prog _ _ d5u a w;rw [c77] at ok2⊢;have e14:a.eval (.tmp 14)= .pointer (some ⟨rb,0,none⟩):=h.evu (.tmp 14);have d0:∀d,(lk2 0).dst=some d→d<N:=ok2 _ (by simp)
 have d1:∀d,(lk2 1).dst=some d→d<N:=ok2 _ (by simp)
 have g0:(lk2 0).guard=none:=e3h.2.2;have g1:(lk2 1).guard=none:=noG e4v (by rw [c77];simp)
 rcases run_next_at (P:=Tryz.prog) w (lk2 0).type rb mb 3 c0 seen (b7j s) 3 hr hb hold hc with ⟨h0,hrun⟩|⟨e,he,w1,hal,hrun⟩
 ·-- nothing is left
  have hall:=all_seen (b7j s) seen h0;refine a5g (v:= .tuple #[.bool false]) (w':=w) g0 (by simp only [execOp,e3h.1,e14,e4J,hrun,e4G,e4K]) ?_
  have h1:=h.put (x:= .t [.c (.k false)]) (v:= .tuple #[.bool false]) d0 ⟨#[.bool false],rfl,rfl,trivial⟩;refine a4Y (x:= .c (.k false)) h1 d1 g1 (by kernel_rfl) fun v hv h2=> ?_
  show (Code.seq _ _).wp Tryz.prog _ _ _;have h16:(Act.put (Act.put a (lk2 0).dst (.tuple #[.bool false])) (lk2 1).dst v).eval (.tmp 16)= .bool false:=h2.evu (.tmp 16);refine wp_seq (wp_cond_false h16 (wp_exit ?_));have h3:=a0I h2 [2,3,4] [2,3,4];refine ⟨env,_,h3,?_⟩;subst hx;have s0:=hall (lkE s 0) (by simp [b7j])
  have s1:=hall (lkE s 1) (by simp [b7j])
  have s2:=hall (lkE s 2) (by simp [b7j])
  have s0:seen.contains 0=true:=s0;have s1:seen.contains 1=true:=s1;have s2:seen.contains 2=true:=s2;rw [s0] at hp;rw [s1] at hq;rw [s2] at hrr;subst hp hq hrr;show some (Ex.normal,_)=some _;kernel_rfl
 ·obtain ⟨hes,hnot⟩:=mem_left he
  obtain ⟨i,hi,rfl⟩:=d4i hes;have hw1:w1.heap=w.heap:=by rcases hal with rfl|rfl<;>rfl
  have hsz:rb<w.heap.size:=(e4N.1 hr).1;have hmsz:mb<w.heap.size:=(e4N.1 hb).1;have hg2:=c6d (b:=rb) (o:= .mapIter (some mb) 3 (seen.push (lkE s i).born) 3) hal;have hr2:(ChangeMaps.setBlock w1 rb (.mapIter (some mb) 3 (seen.push (lkE s i).born) 3)).heap[rb]? =some (.mapIter (some mb) 3 (seen.push (lkE s i).born) 3):=by
   show (w1.heap.setIfInBounds rb _)[rb]? =_;rw [hw1,Array.getElem?_setIfInBounds,if_pos rfl,if_pos hsz]
  have hb2:(ChangeMaps.setBlock w1 rb (.mapIter (some mb) 3 (seen.push (lkE s i).born) 3)).heap[mb]? =some (.map (b7j s) 3):=by
   rw [hg2.block mb hmsz (fun e=>hmr (Option.some.inj e))];exact hb
  generalize ChangeMaps.setBlock w1 rb (.mapIter (some mb) 3 (seen.push (lkE s i).born) 3)=w2 at hrun hg2 hr2 hb2;have hA:=h.alien hg2 (fun b e=>by cases e;exact ⟨hn,(fun c T f e=>by rw [hr] at e;cases e),hOr⟩) (fun b e d q=>by cases e;rw [hr] at q;cases q)
  refine a5g (v:= .tuple #[.bool true,(lkE s i).key,(lkE s i).val]) (w':=w2) g0 (by simp only [execOp,e3h.1,e14,e4J,hrun,e4G,e4K]) ?_
  have h1:=hA.put (x:= .t [.c (.k true),.c .u,.c .u]) (v:= .tuple #[.bool true,(lkE s i).key,(lkE s i).val]) d0 ⟨_,rfl,rfl,trivial,trivial,trivial⟩;refine a4Y (x:= .c (.k true)) h1 d1 g1 (by kernel_rfl) fun v hv h2=> ?_
  show (Code.seq _ _).wp Tryz.prog _ _ _;have h16:(Act.put (Act.put a (lk2 0).dst (.tuple #[.bool true,(lkE s i).key,(lkE s i).val])) (lk2 1).dst v).eval (.tmp 16)= .bool true:=h2.evu (.tmp 16);refine wp_seq (wp_cond_true h16 (wp_skip ?_));show (Code.block _ _).wp Tryz.prog _ _ _;refine wp_block (wp_seq (wp_region_list ?_));show wpList Tryz.prog _ _ d4f _ _;have f:∀o∈d4f,o.guard=none:=fun o ho=>noG e4w ho
  rw [d5w] at ok3 f⊢;have e14':(Act.put (Act.put a (lk2 0).dst (.tuple #[.bool true,(lkE s i).key,(lkE s i).val])) (lk2 1).dst v).eval (.tmp 14)= .pointer (some ⟨rb,0,none⟩):=h2.evu (.tmp 14);have hent:=run_entry_at (P:=Tryz.prog) w2 rb mb 3 seen (b7j s) 3 (lkE s i) hr2 hb2 hes (by simp [b7j,lkE])
  refine a5g (v:= .tuple #[(lkE s i).key,(lkE s i).val]) (w':=w2) (f _ (by simp)) (by simp only [execOp,e4t.1,e14',e4J,hent,e4G,e4K]) ?_
  have h3:=h2.put (x:= .t [.c (.i .i64 ((i+1:Nat):Int)),.c (.p 3 (3+(i+1)))]) (v:= .tuple #[(lkE s i).key,(lkE s i).val]) (ok3 (lk3 0) (by simp)) ⟨_,rfl,by show _=_;simp [lkE],by
   show (lkE s i).val=_;rw [hs];simp only [lkE];congr 4
   omega,trivial⟩
  refine a4Y (x:= .c (.i .i64 ((i+1:Nat):Int))) h3 (ok3 _ (by simp)) (f _ (by simp)) (by kernel_rfl) fun v1 hv1 h4=> ?_
  refine a4Y (x:= .c (.p 3 (3+(i+1)))) h4 (ok3 _ (by simp)) (f _ (by simp)) (by kernel_rfl) fun v2 hv2 h5=> ?_
  refine a4Y (x:= .c (.i .i64 ((i+1:Nat):Int))) h5 (ok3 _ (by simp)) (f _ (by simp)) (by kernel_rfl) fun v3 hv3 h6=> ?_
  refine a4Y (x:= .c (.p 3 (3+(i+1)))) h6 (ok3 _ (by simp)) (f _ (by simp)) (by kernel_rfl) fun v4 hv4 h7=> ?_
  show lkT.wp Tryz.prog _ _ _;have h8:Rel Tryz.prog N n0 B M0 w0 F e0 env (c0e L p q r rb (i+1)) _ w2:=c3N (a0I h7 [2,3,4,5,6,14] [2,3,4]) (by kernel_rfl)
  have hlt:(leftOf (b7j s) (seen.push (lkE s i).born)).size<(leftOf (b7j s) seen).size:=left_shrinks _ _ _ he;have fin:∀(af:Act),Rel Tryz.prog N n0 B M0 w0 F e0 env (c0e L p q r rb (i+1)) af w2→ ∀p' q' r',a4b Tryz.prog cl0 {} 1000 50 lkT (c0e L p q r rb (i+1)) lkK=some (.normal,c79 L p' q' r' rb)→
    p'=(bif (seen.push (lkE s i).born).contains 0 then mis (lb L 1) (li L 13) else li L 13)→q'=(bif (seen.push (lkE s i).born).contains 1 then mis (lb L 2) (li L 14) else li L 14)→r'=(bif (seen.push (lkE s i).born).contains 2 then mis (lb L 3) (li L 15) else li L 15)→
    lkT.wp Tryz.prog (fun e a' w'=>e= .normal∧(LkI N n0 F B M0 w0 e0 L s mb rb a' w'∧lkM s rb w'<lkM s rb w)) af w2:=by
   intro af h8 p' q' r' hx' e1 e2 e3;refine Code.wp_mono ?_ (d5B okT hF h8 hx');rintro e a' w' ⟨he',env',k1,k2,k3,k4⟩;have m1:=k4 mb _ hb2 hOb;have m2:=k4 rb _ hr2 hOr;refine ⟨he',⟨env',p',q',r',_,3,k1,(k3 3 (by omega)).trans hs,m1.1,m2.1,Nat.le_refl _,m1.2,m2.2,hn,e1,e2,e3⟩,?_⟩
   rw [hM];unfold lkM;rw [m2.1];exact hlt
  have done:∀{c:Code} {a':Act} {w':World},c.wp Tryz.prog (fun e a' w'=>e= .normal∧(LkI N n0 F B M0 w0 e0 L s mb rb a' w'∧lkM s rb w'<lkM s rb w)) a' w'→
    c.wp Tryz.prog (Exit.inBlock 1 (Exit.then (fun a' w'=>LkI N n0 F B M0 w0 e0 L s mb rb a' w'∧lkM s rb w'<lkM s rb w) (Exit.inBlock 0 (b68 Tryz.prog N n0 B M0 w0 F e0 (fun e st=>some (e,st)) x)))) a' w':=fun hc=>Code.wp_mono (fun e a' w' hp=>by obtain ⟨rfl,hp⟩:=hp;exact hp) hc
  refine done ?_;have hcp:∀j,(seen.push (lkE s i).born).contains j=(seen.contains j||j==i):=fun j=>contains_push seen i j
  have hni:seen.contains i=false:=hnot;clear hv hv1 hv2 hv3 hv4 h1 h2 h3 h4 h5 h6 h7 hA hent e14' h16 hrun;generalize (Act.put _ (lk3 4).dst v4)=af at h8⊢;rcases (by omega:i=0∨i=1∨i=2) with rfl|rfl|rfl
  ·skip
   rw [hni] at hp;cases hf:lb L 1 with
   |true=>exact fin _ h8 (-1) q r (by rw [c3K,hf];rfl) (by rw [hcp,hf];simp [mis]) (by rw [hcp,hq];simp) (by rw [hcp,hrr];simp)
   |false=>exact fin _ h8 p q r (by rw [c3K,hf];rfl) (by rw [hcp,hf,hp];simp [mis]) (by rw [hcp,hq];simp) (by rw [hcp,hrr];simp)
  ·skip
   rw [hni] at hq;cases hf:lb L 2 with
   |true=>exact fin _ h8 p (-1) r (by rw [c3L,hf];rfl) (by rw [hcp,hp];simp) (by rw [hcp,hf];simp [mis]) (by rw [hcp,hrr];simp)
   |false=>exact fin _ h8 p q r (by rw [c3L,hf];rfl) (by rw [hcp,hp];simp) (by rw [hcp,hf,hq];simp [mis]) (by rw [hcp,hrr];simp)
  ·skip
   rw [hni] at hrr;cases hf:lb L 3 with
   |true=>exact fin _ h8 p q (-1) (by rw [c3M,hf];rfl) (by rw [hcp,hp];simp) (by rw [hcp,hq];simp) (by rw [hcp,hf];simp [mis])
   |false=>exact fin _ h8 p q r (by rw [c3M,hf];rfl) (by rw [hcp,hp];simp) (by rw [hcp,hq];simp) (by rw [hcp,hf,hrr];simp [mis])
end
section
variable {N n0:Nat} {F:Nat→Prop} {B M0:a0z} {w0:World} {e0:a6t} {env:Env} {a:Act} {w:World}
theorem e1a (w:World):(Instr.makeMap 161 none).run Tryz.prog w= .ok (.map (some w.heap.size)) (w.alloc (.map #[] 0)):=by simp [Instr.makeMap]
theorem c8a {st:St} {mb clock:Nat} {es:Array MapEntry} {k:Int} {v:Value} {o:Oper} {ops:Array Oper} {Q:Exit→Act→World→Prop} {rest:List Oper} {t:Nat} (h:Rel Tryz.prog N n0 B M0 w0 F e0 env st a w) (hb:w.heap[mb]? =some (.map es clock)) (hn:n0≤mb) (hO:Off env st.mem mb)
  (ho:o.op= .insert 161 (.tmp 9) (.const (.int .i64 k)) (.tmp t)∧o.dst=none∧o.guard=none) (h9:a.eval (.tmp 9)= .map (some mb)) (hv:a.eval (.tmp t)=v) (hf:Instr.findNow (.int .i64) (.int .i64 k) es.toList 0=some none)
  (hk:∀w',Rel Tryz.prog N n0 B M0 w0 F e0 env st a w'→w'.heap[mb]? =some (.map (es.push {key:= .int .i64 k,val:=v,born:=clock}) (clock+1))→w'.heap.size=w.heap.size→wpList Tryz.prog ops Q rest a w'):wpList Tryz.prog ops Q (o::rest) a w:=by
 refine d0v (w':={w with heap:=w.heap.setIfInBounds mb (.map (es.push {key:= .int .i64 k,val:=v,born:=clock}) (clock+1))}) ho.2.2 ?_ ?_
 ·have:a.eval (.const (.int .i64 k))= .int .i64 k:=rfl
  simp only [execOp,ho.1,h9,hv,this,e4J,d5A hb hf,e4G,e4K]
 ·rw [ho.2.1]
  refine hk _ (h.alien c0f (fun r e=>by cases e;exact ⟨hn,(fun c T f e=>by rw [hb] at e;cases e),hO⟩) (fun r e d q=>by cases e;rw [hb] at q;cases q)) ?_ (by simp)
  show (w.heap.setIfInBounds mb _)[mb]? =_;rw [Array.getElem?_setIfInBounds,if_pos rfl,if_pos (e4N.1 hb).1]
theorem d5C:a4I Tryz.prog 0 (a0S Tryz.prog 103 300000004) (c6M c3J d5y):=by
 intro st alts hst x hx N n0 F B M0 w0 e0 env a w _ hF hok hrel;rintro Fe nn rfl;refine wpIn_wide.2 ?_;have hq:=a7g (sh:=c3J) (A:=d5y) (Q:=fun st x=>∃L,st=a2w c3J L∧a5C (d5y L) some=some x) (fun L x hx=>⟨L,rfl,hx⟩) st alts hst x hx
 obtain ⟨L,rfl,hxL⟩:=hq;have hx':x=(.normal,⟨d5x,a3q L (mis (lb L 1) (li L 13)) (mis (lb L 2) (li L 14)) (mis (lb L 3) (li L 15))⟩):=by
  have:some (Ex.normal,(⟨d5x,a3q L (mis (lb L 1) (li L 13)) (mis (lb L 2) (li L 14)) (mis (lb L 3) (li L 15))⟩:St))=some x:=hxL;exact (Option.some.inj this).symm
 clear hst hx hxL;have hok':okC N lkC=true:=hok;obtain ⟨ok1,_,_,_⟩:=d4j hok';rw [c78] at hrel;show lkC.wp Tryz.prog _ _ _;rw [d4g];refine wp_seq (wp_region_list ?_);show wpList Tryz.prog _ _ d5t a w;have f:∀o∈d5t,o.guard=none:=fun o ho=>noG e4u ho
 rw [d5v] at ok1 f⊢;have hn0:=hrel.n0le
 -- the map
 have hO0:Off env (a3q L (li L 13) (li L 14) (li L 15)) w.heap.size:=Off.new hrel (Nat.le_refl _);have hO1:Off env (a3q L (li L 13) (li L 14) (li L 15)) (w.heap.size+1):=Off.new hrel (Nat.le_succ _);obtain ⟨mb,hmb⟩:∃mb,mb=w.heap.size:=⟨_,rfl⟩;have hA:=hrel.alien (World.grownBy_alloc w (.map #[] 0) none) (fun r e=>by cases e) (fun r e=>by cases e)
 have hb0:(w.alloc (.map #[] 0)).heap[mb]? =some (.map #[] 0):=by rw [hmb];exact (MapKept.heap_alloc w _).1
 have hsz0:(w.alloc (.map #[] 0)).heap.size=mb+1:=by rw [hmb];simp
 refine a5g (v:= .map (some mb)) (w':=w.alloc (.map #[] 0)) (f _ (by simp)) (by simp only [execOp,e4o.1,Option.map_none,e1a,e4J,e4G,e4K,hmb]) ?_
 rw [←hmb] at hO0 hO1;have h0:=hA.put (x:= .c (.v (.map (some mb)))) (v:= .map (some mb)) (ok1 (lk1 0) (by simp)) (show _=_ from rfl)
 generalize w.alloc (.map #[] 0)=wA at h0 hb0 hsz0;clear hA;have hnm:n0≤mb:=by omega
 refine a4Y (x:= .c (.p 3 4)) h0 (ok1 _ (by simp)) (f _ (by simp)) (by kernel_rfl) fun v1 hv1 h1=> ?_
 refine c8a h1 hb0 hnm hO0 e4p (h1.evu (.tmp 9)) (h1.evu (.tmp 10)) rfl fun w1 h2 hb1 hs1=> ?_
 refine a4Y (x:= .c (.p 3 5)) h2 (ok1 _ (by simp)) (f _ (by simp)) (by kernel_rfl) fun v2 hv2 h3=> ?_
 refine c8a h3 hb1 hnm hO0 e4q (h3.evu (.tmp 9)) (h3.evu (.tmp 11)) rfl fun w2 h4 hb2 hs2=> ?_
 refine a4Y (x:= .c (.p 3 6)) h4 (ok1 _ (by simp)) (f _ (by simp)) (by kernel_rfl) fun v3 hv3 h5=> ?_
 refine c8a h5 hb2 hnm hO0 e4r (h5.evu (.tmp 9)) (h5.evu (.tmp 12)) rfl fun w3 h6 hb3 hs3=> ?_
 refine a4Y (x:= .c (.v (.map (some mb)))) h6 (ok1 _ (by simp)) (f _ (by simp)) (by kernel_rfl) fun v4 hv4 h7=> ?_
 have e13:(Act.put _ (lk1 7).dst v4).eval (.tmp 13)= .map (some mb):=h7.evu (.tmp 13);have hes:w3.heap[mb]? =some (.map (b7j (env 3)) 3):=hb3;have hrn:=run_range_map (P:=Tryz.prog) w3 161 3 160 mb (b7j (env 3)) 3 lkU hes;obtain ⟨rb,hrb⟩:∃rb,rb=w3.heap.size:=⟨_,rfl⟩;rw [←hrb] at hrn;have hsr:rb=mb+1:=by omega
 refine a5g (v:= .pointer (some ⟨rb,0,none⟩)) (w':=w3.alloc (.mapIter (some mb) 3 #[] 3)) (f _ (by simp)) (by simp only [execOp,e4s.1,e13,e4J,hrn,e4G,e4K]) ?_
 have hr4:(w3.alloc (.mapIter (some mb) 3 #[] 3)).heap[rb]? =some (.mapIter (some mb) 3 #[] 3):=by rw [hrb];exact (MapKept.heap_alloc w3 _).1
 have hb4:(w3.alloc (.mapIter (some mb) 3 #[] 3)).heap[mb]? =some (.map (b7j (env 3)) 3):=((MapKept.heap_alloc w3 _).2 mb (e4N.1 hes).1).trans hes;have h8:=(h7.alien (World.grownBy_alloc w3 (.mapIter (some mb) 3 #[] 3) none) (fun r e=>by cases e) (fun r e=>by cases e)).put (x:= .c (.v (.pointer (some ⟨rb,0,none⟩)))) (v:= .pointer (some ⟨rb,0,none⟩)) (ok1 (lk1 8) (by simp)) (show _=_ from rfl)
 generalize w3.alloc (.mapIter (some mb) 3 #[] 3)=w4 at h8 hr4 hb4;have h9:Rel Tryz.prog N n0 B M0 w0 F e0 env (c79 L (li L 13) (li L 14) (li L 15) rb) _ w4:=c3N (a0I h8 [2,3,4,14] [2,3,4]) (by kernel_rfl)
 show (Code.block 0 _).wp Tryz.prog _ _ _;refine wp_block (wp_loop (LkI N n0 F B M0 w0 e0 L (env 3) mb rb) (fun _ w=>lkM (env 3) rb w) ?_ fun a' w' hI=>d0D hok' hF hI (by omega) hx')
 exact ⟨env,_,_,_, #[],3,h9,rfl,hb4,hr4,Nat.le_refl _,hO0,by rw [hsr];exact hO1,by omega,by simp,by simp,by simp⟩
end
end Go.Proofs.YtajladplkpfaiaaGreat
namespace Go.Proofs.YtajladplkpfaiaaGreat
open Go Go.AM Go.Shelf Go.Sort Go.RowKit
def Tryz.lays122_ren:Go.Shelf.Ren:=⟨fun|122=>52|215=>85|n=>n,fun|3=>3|4=>4|n=>n,fun|n=>n⟩
theorem Tryz.lays122:Go.Proofs.Lays.n122 Tryz.prog Tryz.lays122_ren:={
 mixed:=by kernel_rfl
 f122:=Tryz.func52.trans (congrArg some (by kernel_rfl))
 f215:=Tryz.func85.trans (congrArg some (by kernel_rfl))
 t3:=Tryz.underlying3
 a3:=Tryz.isAgg3
 z3:=Tryz.sizeOf3
 v3:=Tryz.zeroValue3
 t4:=Tryz.underlying4
 a4:=Tryz.isAgg4
 z4:=Tryz.sizeOf4
 v4:=Tryz.zeroValue4}
open Go.RowKit in
theorem Tryz.cmp_Compare_int (x y:Int) (w:World):
  Calls Tryz.prog 52 #[.int .i64 x,.int .i64 y] w fun e w'=>e= .returned (.int .i64 (Lib.compareInt x y))∧w'=w:=Any.cmp_Compare_int Tryz.lays122 x y w
def Tryz.laysNm220_ren:Go.Shelf.Ren:=⟨fun|20=>84|n=>n,fun|22=>26|3=>3|4=>4|0=>0|n=>n,fun|n=>n⟩
theorem Tryz.laysNm220:Go.Proofs.Lays2.n20 Tryz.prog Tryz.laysNm220_ren:={
 mixed:=by kernel_rfl
 f20:=Tryz.func84.trans (congrArg some (by kernel_rfl))
 t0:=Tryz.underlying0
 a0:=Tryz.isAgg0
 z0:=Tryz.sizeOf0
 v0:=Tryz.zeroValue0
 t3:=Tryz.underlying3
 a3:=Tryz.isAgg3
 z3:=Tryz.sizeOf3
 v3:=Tryz.zeroValue3
 t4:=Tryz.underlying4
 a4:=Tryz.isAgg4
 z4:=Tryz.sizeOf4
 v4:=Tryz.zeroValue4
 t22:=Tryz.underlying26
 a22:=Tryz.isAgg26
 z22:=Tryz.sizeOf26
 v22:=Tryz.zeroValue26
 i3:=by kernel_rfl}
open Go.RowKit Go.Lib Go.Sort in
theorem Tryz.slices_Compact_int (blk off cap:Nat) (zs:List Int) (w:World) (hH:Holds (Value.int .i64) w blk off zs.toArray) (hsz:zs.length≤9223372036854775807) (hcap:zs.length≤cap):
  Calls Tryz.prog 84 #[.slice (some ⟨blk,off,none⟩) zs.length cap] w fun e w'=>e= .returned (.slice (some ⟨blk,off,none⟩) (Lib.compact zs).length cap)∧ ∃q,w'=putRow (Value.int .i64) (Sort.ahead w q) blk off (Lib.compact zs++List.replicate (zs.length-(Lib.compact zs).length) 0).toArray:=Any.slices_Compact_int Tryz.laysNm220 blk off cap zs w hH hsz hcap
open Go.RowKit Go.Lib Go.Sort in
def Tryz.laysSlF6_f83_ren:Go.Shelf.Ren:=⟨fun|6=>83|15=>114|14=>113|28=>129|29=>130|20=>121|21=>122|22=>123|23=>124|24=>125|25=>126|26=>127|27=>128|46=>132|47=>133|48=>134|49=>135|50=>136|57=>137|n=>n,fun|22=>26|24=>3|25=>88|3=>3|39=>157|0=>0|53=>171|55=>173|4=>4|46=>165|45=>164|50=>125|5=>5|9=>9|66=>175|70=>160|76=>180|77=>111|n=>n,fun|n=>n⟩
theorem Tryz.laysSlF6_f83:Go.Proofs.SlLaysF.n6 Tryz.prog Tryz.laysSlF6_f83_ren:={
 mixed:=by kernel_rfl
 f6:=⟨Tryz.f83.name,by decide,Tryz.func83.trans (congrArg some (by kernel_rfl))⟩
 f14:=⟨Tryz.f113.name,by decide,Tryz.func113.trans (congrArg some (by kernel_rfl))⟩
 f15:=Tryz.func114.trans (congrArg some (by kernel_rfl))
 f20:=⟨Tryz.f121.name,by decide,Tryz.func121.trans (congrArg some (by kernel_rfl))⟩
 f21:=⟨Tryz.f122.name,by decide,Tryz.func122.trans (congrArg some (by kernel_rfl))⟩
 f22:=⟨Tryz.f123.name,by decide,Tryz.func123.trans (congrArg some (by kernel_rfl))⟩
 f23:=⟨Tryz.f124.name,by decide,Tryz.func124.trans (congrArg some (by kernel_rfl))⟩
 f24:=⟨Tryz.f125.name,by decide,Tryz.func125.trans (congrArg some (by kernel_rfl))⟩
 f25:=⟨Tryz.f126.name,by decide,Tryz.func126.trans (congrArg some (by kernel_rfl))⟩
 f26:=⟨Tryz.f127.name,by decide,Tryz.func127.trans (congrArg some (by kernel_rfl))⟩
 f27:=⟨Tryz.f128.name,by decide,Tryz.func128.trans (congrArg some (by kernel_rfl))⟩
 f28:=Tryz.func129.trans (congrArg some (by kernel_rfl))
 f29:=Tryz.func130.trans (congrArg some (by kernel_rfl))
 f46:=⟨Tryz.f132.name,by decide,Tryz.func132.trans (congrArg some (by kernel_rfl))⟩
 f47:=Tryz.func133.trans (congrArg some (by kernel_rfl))
 f48:=Tryz.func134.trans (congrArg some (by kernel_rfl))
 f49:=⟨Tryz.f135.name,by decide,Tryz.func135.trans (congrArg some (by kernel_rfl))⟩
 f50:=⟨Tryz.f136.name,by decide,Tryz.func136.trans (congrArg some (by kernel_rfl))⟩
 f57:=⟨Tryz.f137.name,by decide,Tryz.func137.trans (congrArg some (by kernel_rfl))⟩
 t0:=Tryz.underlying0
 a0:=Tryz.isAgg0
 z0:=Tryz.sizeOf0
 v0:=Tryz.zeroValue0
 t3:=Tryz.underlying3
 a3:=Tryz.isAgg3
 z3:=Tryz.sizeOf3
 v3:=Tryz.zeroValue3
 t4:=Tryz.underlying4
 a4:=Tryz.isAgg4
 z4:=Tryz.sizeOf4
 v4:=Tryz.zeroValue4
 t5:=Tryz.underlying5
 a5:=Tryz.isAgg5
 z5:=Tryz.sizeOf5
 v5:=Tryz.zeroValue5
 t9:=Tryz.underlying9
 a9:=Tryz.isAgg9
 z9:=Tryz.sizeOf9
 v9:=Tryz.zeroValue9
 t22:=Tryz.underlying26
 a22:=Tryz.isAgg26
 z22:=Tryz.sizeOf26
 v22:=Tryz.zeroValue26
 a24:=Tryz.isAgg3
 z24:=Tryz.sizeOf3
 t25:=Tryz.underlying88
 a25:=Tryz.isAgg88
 z25:=Tryz.sizeOf88
 v25:=Tryz.zeroValue88
 t39:=Tryz.underlying157
 a39:=Tryz.isAgg157
 z39:=Tryz.sizeOf157
 v39:=Tryz.zeroValue157
 t45:=Tryz.underlying164
 a45:=Tryz.isAgg164
 z45:=Tryz.sizeOf164
 v45:=Tryz.zeroValue164
 t46:=Tryz.underlying165
 a46:=Tryz.isAgg165
 z46:=Tryz.sizeOf165
 v46:=Tryz.zeroValue165
 t50:=Tryz.underlying125
 a50:=Tryz.isAgg125
 z50:=Tryz.sizeOf125
 v50:=Tryz.zeroValue125
 t53:=Tryz.underlying171
 a53:=Tryz.isAgg171
 z53:=Tryz.sizeOf171
 v53:=Tryz.zeroValue171
 t55:=Tryz.underlying173
 a55:=Tryz.isAgg173
 z55:=Tryz.sizeOf173
 v55:=Tryz.zeroValue173
 t66:=Tryz.underlying175
 a66:=Tryz.isAgg175
 z66:=Tryz.sizeOf175
 v66:=Tryz.zeroValue175
 t70:=Tryz.underlying160
 a70:=Tryz.isAgg160
 z70:=Tryz.sizeOf160
 v70:=Tryz.zeroValue160
 t76:=Tryz.underlying180
 a76:=Tryz.isAgg180
 z76:=Tryz.sizeOf180
 v76:=Tryz.zeroValue180
 t77:=Tryz.underlying111
 a77:=Tryz.isAgg111
 z77:=Tryz.sizeOf111
 v77:=Tryz.zeroValue111}
def Tryz.laysSlF06_f83_ren:Go.Shelf.Ren:=⟨fun|6=>83|15=>114|14=>113|28=>129|29=>130|20=>121|21=>122|22=>123|23=>124|24=>125|25=>126|26=>127|27=>128|46=>132|47=>133|48=>134|49=>135|50=>136|57=>137|n=>n,fun|22=>26|24=>3|25=>88|3=>3|39=>157|0=>0|53=>171|55=>173|4=>4|46=>165|45=>164|50=>125|5=>5|9=>9|66=>175|70=>160|76=>180|77=>111|n=>n,fun|n=>n⟩
theorem Tryz.laysSlF06_f83:Go.Proofs.SlLaysF0.n6 Tryz.prog Tryz.laysSlF06_f83_ren:={
 mixed:=by kernel_rfl
 f6:=⟨Tryz.f83.name,by decide,Tryz.func83.trans (congrArg some (by kernel_rfl))⟩
 f14:=⟨Tryz.f113.name,by decide,Tryz.func113.trans (congrArg some (by kernel_rfl))⟩
 f15:=Tryz.func114.trans (congrArg some (by kernel_rfl))
 f20:=⟨Tryz.f121.name,by decide,Tryz.func121.trans (congrArg some (by kernel_rfl))⟩
 f21:=⟨Tryz.f122.name,by decide,Tryz.func122.trans (congrArg some (by kernel_rfl))⟩
 f22:=⟨Tryz.f123.name,by decide,Tryz.func123.trans (congrArg some (by kernel_rfl))⟩
 f23:=⟨Tryz.f124.name,by decide,Tryz.func124.trans (congrArg some (by kernel_rfl))⟩
 f24:=⟨Tryz.f125.name,by decide,Tryz.func125.trans (congrArg some (by kernel_rfl))⟩
 f25:=⟨Tryz.f126.name,by decide,Tryz.func126.trans (congrArg some (by kernel_rfl))⟩
 f26:=⟨Tryz.f127.name,by decide,Tryz.func127.trans (congrArg some (by kernel_rfl))⟩
 f27:=⟨Tryz.f128.name,by decide,Tryz.func128.trans (congrArg some (by kernel_rfl))⟩
 f28:=Tryz.func129.trans (congrArg some (by kernel_rfl))
 f29:=Tryz.func130.trans (congrArg some (by kernel_rfl))
 f46:=⟨Tryz.f132.name,by decide,Tryz.func132.trans (congrArg some (by kernel_rfl))⟩
 f47:=Tryz.func133.trans (congrArg some (by kernel_rfl))
 f48:=Tryz.func134.trans (congrArg some (by kernel_rfl))
 f49:=⟨Tryz.f135.name,by decide,Tryz.func135.trans (congrArg some (by kernel_rfl))⟩
 f50:=⟨Tryz.f136.name,by decide,Tryz.func136.trans (congrArg some (by kernel_rfl))⟩
 f57:=⟨Tryz.f137.name,by decide,Tryz.func137.trans (congrArg some (by kernel_rfl))⟩
 t0:=Tryz.underlying0
 a0:=Tryz.isAgg0
 z0:=Tryz.sizeOf0
 v0:=Tryz.zeroValue0
 t3:=Tryz.underlying3
 a3:=Tryz.isAgg3
 z3:=Tryz.sizeOf3
 v3:=Tryz.zeroValue3
 t4:=Tryz.underlying4
 a4:=Tryz.isAgg4
 z4:=Tryz.sizeOf4
 v4:=Tryz.zeroValue4
 t5:=Tryz.underlying5
 a5:=Tryz.isAgg5
 z5:=Tryz.sizeOf5
 v5:=Tryz.zeroValue5
 t9:=Tryz.underlying9
 a9:=Tryz.isAgg9
 z9:=Tryz.sizeOf9
 v9:=Tryz.zeroValue9
 t22:=Tryz.underlying26
 a22:=Tryz.isAgg26
 z22:=Tryz.sizeOf26
 v22:=Tryz.zeroValue26
 t25:=Tryz.underlying88
 a25:=Tryz.isAgg88
 z25:=Tryz.sizeOf88
 v25:=Tryz.zeroValue88
 t39:=Tryz.underlying157
 a39:=Tryz.isAgg157
 z39:=Tryz.sizeOf157
 v39:=Tryz.zeroValue157
 t45:=Tryz.underlying164
 a45:=Tryz.isAgg164
 z45:=Tryz.sizeOf164
 v45:=Tryz.zeroValue164
 t46:=Tryz.underlying165
 a46:=Tryz.isAgg165
 z46:=Tryz.sizeOf165
 v46:=Tryz.zeroValue165
 t50:=Tryz.underlying125
 a50:=Tryz.isAgg125
 z50:=Tryz.sizeOf125
 v50:=Tryz.zeroValue125
 t53:=Tryz.underlying171
 a53:=Tryz.isAgg171
 z53:=Tryz.sizeOf171
 v53:=Tryz.zeroValue171
 t55:=Tryz.underlying173
 a55:=Tryz.isAgg173
 z55:=Tryz.sizeOf173
 v55:=Tryz.zeroValue173
 t66:=Tryz.underlying175
 a66:=Tryz.isAgg175
 z66:=Tryz.sizeOf175
 v66:=Tryz.zeroValue175
 t70:=Tryz.underlying160
 a70:=Tryz.isAgg160
 z70:=Tryz.sizeOf160
 v70:=Tryz.zeroValue160
 t76:=Tryz.underlying180
 a76:=Tryz.isAgg180
 z76:=Tryz.sizeOf180
 v76:=Tryz.zeroValue180
 t77:=Tryz.underlying111
 a77:=Tryz.isAgg111
 z77:=Tryz.sizeOf111
 v77:=Tryz.zeroValue111}
open Go.RowKit Go.Lib Go.Sort in
theorem Tryz.slices_SortFunc_none {α:Type} [Inhabited α] (p:Option Addr) (cap:Nat) (fv:Value) (w:World):
  Calls Tryz.prog 83 #[.slice p 0 cap,fv] w fun e w'=>e= .returned (.tuple #[])∧w'=w:=AnyF.slices_SortFunc_none Tryz.laysSlF06_f83 p cap fv w
open Go.RowKit Go.Lib Go.Sort in
theorem c0g:a0c Tryz.prog 3=[.int .i64]:=by kernel_rfl
theorem e1b (x y:Elt (a0c Tryz.prog 3)) (W:World):Calls Tryz.prog 52 #[x.val.getD 0 undef,y.val.getD 0 undef] W fun e w'=>e= .returned (.int .i64 (c70 [(0,false)] x.val y.val))∧ ∃q os',w'=grow (W.drewN q) os':=by
 obtain ⟨x,hx⟩:=x;obtain ⟨y,hy⟩:=y;rw [c0g] at hx hy;simp only;match x,hx with
 | [x0],hx=>
 obtain ⟨⟨x0,rfl⟩,_⟩:=hx;match y,hy with
 | [y0],hy=>
 obtain ⟨⟨y0,rfl⟩,_⟩:=hy;refine (Tryz.cmp_Compare_int x0 y0 W).mono fun e w' ⟨h1,h2⟩=>⟨?_,0, #[],?_⟩
 ·have e:c70 [(0,false)] [Value.int .i64 x0] [Value.int .i64 y0]=Lib.compareInt x0 y0:=by
   show lex (Lib.compareInt x0 y0) 0=_;unfold lex;split<;>simp_all
  exact h1.trans (by rw [e])
 ·rw [h2,grow_empty];rfl
def a7i (xs:List D):List D:=c1U Tryz.prog 3 [(0,false)] xs
def a7j (xs:List D):Bool:=c72 Tryz.prog 3 [(0,false)] xs&&Nat.blt xs.length 4611686018427387904
def c0h:Sh:={tmps:=[(0,.c (.o 0)),(1,.c (.f 52 []))],mem:=[(0,.row 3 true)]}
def b7k (L:List Lf):List (Bool×Res):=[(a7j (ll L 1),([],[(0,.row 3 true (lb L 0) (a7i (ll L 1)))]))]
theorem c6e:c7N Tryz.prog 83 c0h b7k:=by
 refine b2o fun L x hx=> ?_
 show a3x Tryz.prog 83 [.c (.o 0),.c (.f 52 [])] [(0,.row 3 true (lb L 0) (ll L 1))] x;unfold b7k at hx;cases hc:a7j (ll L 1) with
 |false=>rw [hc] at hx;cases hx
 |true=>
 rw [hc] at hx;have hx:some (([],[(0,.row 3 true (lb L 0) (a7i (ll L 1)))]):Res)=some x:=hx;simp only [e4D] at hx;subst hx;simp only [a7j,e4F] at hc;have eg:∀args w,(callFunc 52 args).run Tryz.prog w= .ok (.enter 52 args) w:=Go.Proofs.enters_of Tryz.func52 (by kernel_rfl) rfl
 have hl:(a0c Tryz.prog 3).length=1:=by rw [c0g];rfl
 refine d5q (g:=52) (os:=[(0,false)]) (by kernel_rfl) (by rw [c0g];decide) (fun z hz=>by (simp only [e4S,List.not_mem_nil,or_false] at hz;rcases hz with rfl;kernel_rfl)) (fun blk cap d w hH hb hs=> ?_) (fun p cap w=> ?_) (b6u.1 hc.1) (e4O hc.2)
 ·refine (Go.Proofs.Any.slices_SortFunc Tryz.laysSlF6_f83 (fun x:Elt (a0c Tryz.prog 3)=>x.val.getD 0 undef) (fun x=> ?_) (fun x y=>c70 [(0,false)] x.val y.val) (a4s (b0I [(0,false)]) _).swo 52 #[] blk 0 cap d w eg (fun m bs dk _ x y=>e1b x y _) (c6b hl hH) hb hs).mono ?_
  ·obtain ⟨x,hx⟩:=x
   rw [c0g] at hx;match x,hx with
   | [x0],hx=>
   obtain ⟨⟨x0,rfl⟩,_⟩:=hx;rfl
  rintro e w' ⟨he,d',n,bs,h1,h2,hw⟩;exact ⟨he,c6c hl hb h1 h2 hw⟩
 ·exact Go.Proofs.AnyF.slices_SortFunc_none {Tryz.laysSlF6_f83 with} p cap _ w
def b1N:Sh:={tmps:=[(0,.c (.o 0))],mem:=[(0,.row 3 true)]}
def a8V (L:List Lf):List (Bool×Res):=[(!(lb L 0),([.c (.o 1)],[(1,.row 3 true false (a2H (ll L 1)))]))]
theorem b7l:c7N Tryz.prog 84 b1N a8V:=by
 refine b2o fun L x hx=> ?_
 show a3x Tryz.prog 84 [.c (.o 0)] [(0,.row 3 true (lb L 0) (ll L 1))] x;unfold a8V at hx;cases hc:lb L 0 with
 |true=>rw [hc] at hx;cases hx
 |false=>
 rw [hc] at hx;have hx:some (([.c (.o 1)],[(1,.row 3 true false (a2H (ll L 1)))]):Res)=some x:=hx;simp only [e4D] at hx;subst hx;exact c6a c0g (by kernel_rfl) (by kernel_rfl) fun blk cap zs w hH h1 h2=>Tryz.slices_Compact_int blk 0 cap zs w hH h1 h2
end Go.Proofs.YtajladplkpfaiaaGreat
end
