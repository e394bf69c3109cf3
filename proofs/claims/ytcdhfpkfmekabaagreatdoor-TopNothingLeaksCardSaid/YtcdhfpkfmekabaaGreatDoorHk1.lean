/- Proved: toldKern() returns true, reckoned by the machine at its constants. -/
import Derived.Test.YtcdhfpkfmekabaaGreatDoorAm4
import Derived.Below
import Derived.Lib.Join
import Derived.Lib.LaidTab
import Derived.LaidLaws
import Derived.Lib.Split
import Derived.Lib.SplitLaws
import Derived.Lib.ItoaNum
import Derived.Lib.AtoiAll
import Derived.Lib.ConvBytes
import Derived.Sort.Row
import Derived.Lib.Builder
import Derived.Lib.UnsafeStr
import Derived.Shelf.Strings.Builder1
import Derived.Shelf.SlSortCmp.WholeK
import Derived.Shelf.SlSortCmp.Whole1
import Derived.Lib.SlicesCompact
import Derived.Test.YtcdhfpkfmekabaaGreatDoorChecked
import Derived.KernelRfl
import Derived.Shelf.Small.Bits
import Derived.Shelf.Small.Wraps
import Derived.Shelf.Strconv.Itoa0
import Derived.Shelf.Slices.Turned
import Derived.Ground.Names2Prog
import Derived.Shelf.Slices.Clone
import Derived.Shelf.Slices.CompactI
import Derived.Shelf.Slices.SearchI
import Derived.Shelf.Slices.Cells
import Derived.Ground.SlgnProg
import Derived.Shelf.SlicesE.Clone
import Derived.Ground.SlsfProg
import Derived.Shelf.SlSortCmp.Insertion
import Derived.Shelf.SlSortCmp.SiftDown1
import Derived.Shelf.SlSortCmp.HeapSort1
import Derived.Shelf.SlSortCmp.Insertion1
import Derived.Shelf.SlSortCmp.Median1
import Derived.Shelf.SlSortCmp.Pivot1
import Derived.Shelf.SlSortCmp.ReverseRange1
import Derived.Shelf.SlSortCmp.PartialInsertion1
import Derived.Shelf.SlSortCmp.PartitionEqual1
import Derived.Shelf.SlSortCmp.Partition1
import Derived.Shelf.SlSortCmp.Pdq1
import Derived.Shelf.SlSortCmp.NoneTotal
set_option linter.all false
set_option maxRecDepth 100000
set_option maxHeartbeats 4000000
noncomputable section
namespace Go.AM
open Go
def tow (P:Program) (hb:e27) (base:a0i):Nat→a0i
 |0=>base
 |n+1=>fun f args mem=>match base f args mem with
  |some a=>some a
  |none=>(body P (tow P hb base n) (hb f) n f args mem).map fun r=>[(true,r)]
theorem d4k {P:Program} {base:a0i} (hP:a3o P) (hb:e27) (hlos:∀f,(hb f).los=[]) (hbase:a0m P base):∀n,a0m P (tow P hb base n)
 |0=>hbase
 | n+1=>by
  have ih:=d4k hP hb hlos hbase n;intro f args mem alts h;unfold tow at h;cases hbs:base f args mem with
  |some a=>
   rw [hbs] at h;simp only [e55] at h;subst h;exact hbase f args mem a hbs
  | none=>
   rw [hbs] at h;cases hb':body P (tow P hb base n) (hb f) n f args mem with
   |none=>rw [hb'] at h;cases h
   |some r=>
    rw [hb'] at h;simp only [e6r,e55] at h;subst h;have hal:a02 P (hb f).los mem.length f:=by rw [hlos];exact a02.nil
    refine ⟨(b5B hP ih (a49 hP.mixed ih) hal.loops hb').2,fun res hr=> ?_⟩
    have hr:some r=some res:=hr;simp only [e55] at hr;subst hr;exact a86 hP ih hal rfl hb'
end Go.AM
namespace Go.AM
open Go Go.RowKit
section
variable {P:Program}
theorem d0z {α β:Type} {R:α→β→Prop} {x y:α} {l:List β} (h:All2 R [x,y] l):∃a b,l=[a,b]∧R x a∧R y b:=by
 match l,h with
 | [a,b],⟨h1,h2,_⟩=>exact ⟨a,b,rfl,h1,h2⟩
end
end Go.AM
namespace Go.AM
open Go
theorem b6C.mono {P:Program} {T T':CK→D→Prop} {e:TypeId} {x:D} (h:∀k d,T k d→T' k d) (hx:b6C P T e x):b6C P T' e x:=by
 unfold b6C at hx⊢;split
 ·rename_i ha
  rw [if_pos ha] at hx;obtain ⟨cs,h1,h2⟩:=hx;exact ⟨cs,h1,h2.mono fun k d _=>h k d⟩
 ·rename_i ha
  rw [if_neg ha] at hx;obtain ⟨k,h1,h2⟩:=hx;exact ⟨k,h1,h k x h2⟩
theorem TyK.succ {P:Program}:∀{m:Nat} {k:CK} {d:D},TyK P m k d→TyK P (m+1) k d
 |0,_,_,h=>h.elim
 | m+1,k,d,h=>by
  cases k with
  |sl e=>
   obtain ⟨nl,xs,h1,h2,h3,h4⟩:=h;exact ⟨nl,xs,h1,h2,h3,fun x hx=>(h4 x hx).mono fun k d=>TyK.succ⟩
  |_=>exact h
theorem TyK.mono {P:Program} {m m':Nat} {k:CK} {d:D} (hm:m≤m') (h:TyK P m k d):TyK P m' k d:=by
 induction hm with
 |refl=>exact h
 |step _ ih=>exact ih.succ
def okS (Ts:List TypeId):CK→Bool
 | .sl e=>b0d e Ts
 | .oth=>false
 |_=>true
def e3c (P:Program) (Ts:List TypeId):Bool:=Ts.all fun e=>b1N P 12 e&&Nat.beq (a0a P e) (kinds P e).length&&(kinds P e).all (okS Ts)&& !Nat.beq (a0a P e) 0
section
variable {H:Type} {enc:TypeId×Value→H} {P:Program} {w:World} {spare:Nat→Bool} {held:Bool} {Ts:List TypeId}
theorem RT.mono {m m':Nat} (hm:m≤m') {kd:CK×D} {v:Value} (h:RT P w m kd v):RT P w m' kd v:=⟨h.1.mono hm,h.2⟩
theorem b14 {Q:Nat→Nat→Prop} (hmono:∀i m m',m≤m'→Q i m→Q i m'):∀n,(∀i,i<n→ ∃m,Q i m)→ ∃m,∀i,i<n→Q i m
 |0,_=>⟨0,fun i hi=>by omega⟩
 |n+1,h=>by
  obtain ⟨m,h1⟩:=b14 hmono n fun i hi=>h i (by omega)
  obtain ⟨m',h2⟩:=h n (by omega)
  refine ⟨max m m',fun i hi=> ?_⟩
  by_cases hin:i=n
  ·subst hin;exact hmono _ _ _ (Nat.le_max_right _ _) h2
  ·exact hmono _ _ _ (Nat.le_max_left _ _) (h1 i (by omega))
mutual
def szD:D→Nat
 | .l _ xs=>a8E xs+1
 | .a cs=>a8E cs+1
 | .s l=>l.length+1
 | .i _=>1
 | .b _=>1
def a8E:List D→Nat
 | []=>0
 |x::r=>szD x+a8E r
end
theorem a8p:∀(xs ys:List D),a8E (xs++ys)=a8E xs+a8E ys
 | [],ys=>by simp [a8E]
 |x::xs,ys=>by simp only [List.cons_append,a8E,a8p xs ys];omega
theorem b3V {α:Type} {f:α→D} {c:α→Nat}:∀{l:List α},(∀i∈l,szD (f i)≤c i)→a8E (l.map f)≤(l.map c).sum
 | [],_=>by simp [a8E]
 |x::l,h=>by
  have h1:=h x (by simp)
  have h2:=b3V (l:=l) fun i hi=>h i (by simp [hi])
  simp only [List.map_cons,a8E,List.sum_cons];omega
structure b5H (bk:DataW H→Nat) (bkA:List (DataW H)→Nat):Prop where
 lit:∀l,1≤bk (.lit l)
 str:∀l,l.length+1≤bk (.lit (.string l))
 nil:1≤bk .nil
 slice:∀e s,bkA e+1≤bk (.slice e s)
 agg:∀p,bkA p+1≤bk (.agg p)
 nilA:bkA []=0
 consA:∀d r,bkA (d::r)=bk d+bkA r
theorem c2T {α:Type} {bk:DataW H→Nat} {bkA:List (DataW H)→Nat} (hB:b5H bk bkA) {F:α→Option (DataW H×List MemPlace)}:∀{l:List α} {ys:List (DataW H×List MemPlace)},All2 (fun i y=>F i=some y) l ys→
  (l.map fun i=>((F i).map fun y=>bk y.1).getD 0).sum=bkA (ys.map (·.1))
 | [],[],_=>by simp [hB.nilA]
 |x::l,y::ys,⟨h1,h2⟩=>by
  simp only [List.map_cons,List.sum_cons,h1,e6r,Option.getD_some,hB.consA,c2T hB h2]
 | [],_::_,h=>h.elim
 |_::_,[],h=>h.elim
theorem b9m {α:Type} {c:α→Nat}:∀{fs:List α} {ls:List (List (CK×D))},All2 (fun f l=>a8E (l.map Prod.snd)≤c f) fs ls→a8E (ls.flatten.map Prod.snd)≤(fs.map c).sum
 | [],[],_=>by simp [a8E]
 |f::fs,l::ls,⟨h1,h2⟩=>by
  have:=b9m h2;simp only [List.flatten_cons,List.map_append,a8p,List.map_cons,List.sum_cons];omega
 | [],_::_,h=>h.elim
 |_::_,[],h=>h.elim
theorem c7l {R:CK×D→Value→Prop} {ks:List CK} {sz:Nat} {cs:List Value} {c:Nat→Nat}:∀(len:Nat),len*sz≤cs.length→(∀i,i<len→ ∃l:List (CK×D),l.map Prod.fst=ks∧All2 R l ((cs.drop (i*sz)).take sz)∧a8E (l.map Prod.snd)≤c i)→
  ∃l:List (CK×D),l.map Prod.fst=(List.replicate len ks).flatten∧All2 R l (cs.take (len*sz))∧a8E (l.map Prod.snd)≤((List.range len).map c).sum
 |0,_,_=>⟨[],by simp,by simp [All2],by simp [a8E]⟩
 | len+1,hl,h=>by
  rw [Nat.add_mul,Nat.one_mul] at hl;obtain ⟨l,h1,h2,h5⟩:=c7l len (by omega) fun i hi=>h i (by omega)
  obtain ⟨l',h3,h4,h6⟩:=h len (by omega)
  refine ⟨l++l',?_,?_,?_⟩
  ·rw [List.map_append,h1,h3,List.replicate_succ',List.flatten_append];simp
  ·rw [Nat.add_mul,Nat.one_mul,List.take_add]
   exact h2.append h4
  ·rw [List.map_append,a8p,List.range_succ,List.map_append,List.sum_append]
   simp;omega
variable {bk:DataW H→Nat} {bkA:List (DataW H)→Nat}
def b6F (P:Program) (T:TypeId):Nat:=bif a0d P T then 1 else 0
def HR (enc:TypeId×Value→H) (P:Program) (w:World) (spare:Nat→Bool) (held:Bool) (Ts:List TypeId) (bk:DataW H→Nat) (fuel:Nat):Prop:=∀(n:Nat) (T:TypeId) (cs:List Value) (d:DataW H) (ps:List MemPlace),b1N P n T=true→(a00 P n T).all (okS Ts)=true→DataW.trod enc P w 0 spare held fuel T cs=some (d,ps)→
 ∃m,∃kds:List (CK×D),kds.map Prod.fst=a00 P n T∧All2 (RT P w m) kds cs∧a8E (kds.map Prod.snd)+b6F P T≤bk d
theorem c2U (hB:b5H bk bkA) (hTs:e3c P Ts=true):∀fuel,HR enc P w spare held Ts bk fuel
 |0=>fun n T cs d ps _ _ h=>by cases h
 | fuel +1=>by
  have ih:=c2U hB hTs fuel;intro n T cs d ps hf hk h;cases n with
  |zero=>cases hf
  |succ n=>
  unfold DataW.trod at h;split at h
  ·rename_i b hu
   simp only [a00,hu] at hk⊢;simp only [e55,e6q] at h;obtain ⟨rfl,_⟩:=h;exact ⟨1,[(.bool,.b b)],rfl,⟨⟨⟨b,rfl⟩,.bool (.b b)⟩,trivial⟩,by rw [show b6F P T=0 by unfold b6F a0d;rw [hu];rfl];exact hB.lit _⟩
  ·rename_i k k' i hu
   split at h
   ·rename_i hw
    obtain ⟨rfl,hw⟩:=hw;simp only [a00,hu] at hk⊢;simp only [e55,e6q] at h;obtain ⟨rfl,_⟩:=h;exact ⟨1,[(.int k',.i i)],rfl,⟨⟨⟨i,rfl,hw⟩,.int k' (.i i)⟩,trivial⟩,by rw [show b6F P T=0 by unfold b6F a0d;rw [hu];rfl];exact hB.lit _⟩
   ·cases h
  all_goals first
   |(rename_i hu;simp [b1N,hu] at hf;done)
   |skip
  ·rename_i x hu
   split at h
   ·rename_i hl
    simp only [a00,hu] at hk⊢;simp only [e55,e6q] at h;obtain ⟨rfl,_⟩:=h;exact ⟨1,[(.str,.s x.data.toList)],rfl,⟨⟨⟨x.data.toList,rfl,by rw [Array.length_toList];exact hl⟩,by have:=a1D.str (P:=P) (w:=w) (S:=Sw w) (.s x.data.toList);simpa [D.toS] using this⟩,trivial⟩,by rw [show b6F P T=0 by unfold b6F a0d;rw [hu];rfl];exact hB.str _⟩
   ·cases h
  ·rename_i e hu
   simp only [a00,hu] at hk⊢;simp only [e55,e6q] at h;obtain ⟨rfl,_⟩:=h;exact ⟨1,[(.sl e,.l true [])],rfl,⟨⟨⟨true,[],rfl,fun _=>rfl,Nat.zero_le _,fun x hx=>by simp at hx⟩,.nil e _ rfl rfl⟩,trivial⟩,by rw [show b6F P T=0 by unfold b6F a0d;rw [hu];rfl];exact hB.nil⟩
  ·rename_i e a len cap hu
   simp only [a00,hu,List.all_cons,List.all_nil,Bool.and_true] at hk⊢;have hq:=List.all_eq_true.1 hTs e (a1j.1 hk);simp only [e57] at hq;obtain ⟨⟨⟨q1,q2⟩,q3⟩,q4⟩:=hq;dsimp only at h
   split at h
   ·rename_i hc
    obtain ⟨elems,he,h⟩:=Option.bind_eq_some_iff.1 h;have hx:=a88 he;obtain ⟨rest,_,h⟩:=Option.map_eq_some_iff.1 h;simp only [e6q] at h;obtain ⟨rfl,_⟩:=h;have hbk:=c2T hB hx;have hbs:=hB.slice (elems.map (·.1)) (rest.map (·.1))
    by_cases h0:len=0
    ·subst h0
     exact ⟨1,[(.sl e,.l false [])],rfl,⟨⟨⟨false,[],rfl,nofun,Nat.zero_le _,nofun⟩,.emp e _ a cap rfl rfl hc.2.2⟩,trivial⟩,by rw [show b6F P T=0 by unfold b6F a0d;rw [hu];rfl];show a8E []+1+0+0≤_;simp only [a8E];omega⟩
    ·have q2:a0a P e=(kinds P e).length:=e56 q2
     have hsz:0<a0a P e:=by
      rcases Nat.eq_zero_or_pos (a0a P e) with h|h
      ·rw [h] at q4;cases q4
      ·exact h
     have hel0:∀i,∃p:Nat×D×(Nat→Value),i<len→b6C P (TyK P p.1) e p.2.1∧(∀(j:Nat) (k:CK),(kinds P e)[j]? =some k→w.cell? (a.add (i*a0a P e+j))=some (p.2.2 j)∧a1D P w (Sw w) k (elD P e p.2.1 j) (p.2.2 j))∧szD p.2.1≤(((w.cells? 0 (a.add (i*P.cellsOf e)) (P.cellsOf e)).bind (DataW.trod enc P w 0 spare held fuel e)).map fun y=>bk y.1).getD 0:=by
      intro i;by_cases hi:i<len
      ·obtain ⟨y,_,hy⟩:=hx.get (List.getElem?_range hi)
       obtain ⟨cs,hcs,hd⟩:=Option.bind_eq_some_iff.1 hy;obtain ⟨_,hl,hcell⟩:=World.cells?_some hcs;obtain ⟨m,kds,k1,k2,k3⟩:=ih 12 e cs y.1 y.2 q1 q3 hd;obtain ⟨x,x1,x2,x3⟩:=d0q q1 k1 k2;refine ⟨(m,x,fun j=>cs.getD j undef),fun _=>⟨x1,fun j k hj=> ?_,?_⟩⟩
       case refine_2=>
        rw [hy];simp only [e6r,Option.getD_some];rcases x3 with ⟨ha,rfl⟩|⟨ha,x3⟩
        ·unfold b6F at k3;rw [ha] at k3;exact k3
        ·unfold b6F at k3;rw [ha,x3] at k3;simpa [a8E] using k3
       obtain ⟨v,h1,h2⟩:=x2 j k hj;have hjl:=(e6h.1 h1).1;have:=hcell j (by omega)
       rw [Addr.add_add,h1] at this;have e1:cs.getD j undef=v:=by rw [e6d,h1];rfl
       simp only [e1];exact ⟨this,h2⟩
      ·exact ⟨(0,.i 0,fun _=>undef),fun h=>absurd h hi⟩
     obtain ⟨g,hg⟩:=Classical.axiomOfChoice hel0;obtain ⟨m,hm⟩:=b14 (Q:=fun i m=>b6C P (TyK P m) e (g i).2.1) (fun i m m' hmm h=>h.mono fun k d=>TyK.mono hmm) len fun i hi=>⟨_,(hg i hi).1⟩
     have hks:0<(kinds P e).length:=by omega
     have hspot:a.spot=none:=by
      have:=((hg 0 (by omega)).2.1 0 _ (e6j hks)).1
      rw [Nat.zero_mul] at this;exact World.cell?_spot this
     have hadd:∀n,a.add n=⟨a.block,a.off+n,none⟩:=fun n=>by
      unfold Addr.add;split
      ·rename_i h;subst h;cases a;simp_all
      ·rfl
     have hlen:((List.range len).map fun i=>(g i).2.1).length=len:=by simp
     refine ⟨m+1,[(.sl e,.l false ((List.range len).map fun i=>(g i).2.1))],rfl,⟨⟨⟨false,_,rfl,nofun,by rw [hlen];omega,?_⟩,?_⟩,trivial⟩,?_⟩
     ·intro x hx
      obtain ⟨i,hi,rfl⟩:=List.mem_map.1 hx;exact hm i (List.mem_range.1 hi)
     ·have ha:a=⟨a.block,a.off,none⟩:=by cases a;simp_all
      rw [ha];have:=a1D.sl (P:=P) (w:=w) (S:=Sw w) e (.l false ((List.range len).map fun i=>(g i).2.1)) a.block a.off cap (fun i j=>(g i).2.2 j) rfl q2 (by simp only [D.items];omega) hc.2.2
       (fun i hi j hj=>by
        simp only [D.items,hlen] at hi;have:=((hg i hi).2.1 j _ (e6j hj)).1;rw [hadd,←Nat.add_assoc] at this;exact ⟨d5c this,this⟩)
       (fun i hi j k hk=>by
        simp only [D.items,hlen] at hi;have:=((hg i hi).2.1 j k hk).2;simp only [D.items,e6d,List.getElem?_map,List.getElem?_range hi];exact this)
      simpa only [D.items,hlen] using this
     ·have hs:=b3V (f:=fun i=>(g i).2.1) (l:=List.range len) fun i hi=>(hg i (List.mem_range.1 hi)).2.2
      rw [hbk] at hs;rw [show b6F P T=0 by unfold b6F a0d;rw [hu];rfl]
      show a8E _+1+0+0≤_;omega
   ·cases h
  ·rename_i cs _ _ fs hu
   split at h
   ·rename_i hl
    simp only [b1N,hu,e57,List.all_eq_true] at hf;simp only [a00,hu] at hk⊢;obtain ⟨xs,hxs,he⟩:=Option.map_eq_some_iff.1 h;simp only [e6q] at he;obtain ⟨rfl,_⟩:=he;have hx:=a88 hxs;have hbk:=c2T hB hx;have hba:=hB.agg (xs.map (·.1))
    have hb:∃m,∀j,j<fs.toList.length→ ∀f,fs.toList[j]? =some f→ ∃l:List (CK×D),l.map Prod.fst=a00 P n f.type∧All2 (RT P w m) l ((cs.drop f.offset).take (a0a P f.type))∧a8E (l.map Prod.snd)≤((DataW.trod enc P w 0 spare held fuel f.type ((cs.drop f.offset).take (P.cellsOf f.type))).map fun y=>bk y.1).getD 0:=by
     refine b14 (Q:=fun j m=>∀f,fs.toList[j]? =some f→ ∃l:List (CK×D),l.map Prod.fst=a00 P n f.type∧All2 (RT P w m) l ((cs.drop f.offset).take (a0a P f.type))∧a8E (l.map Prod.snd)≤((DataW.trod enc P w 0 spare held fuel f.type ((cs.drop f.offset).take (P.cellsOf f.type))).map fun y=>bk y.1).getD 0) (fun j m m' hmm h f hf=> ?_) _ fun j hj=> ?_
     ·obtain ⟨l,h1,h2,h3⟩:=h f hf
      exact ⟨l,h1,h2.mono fun _ _ _=>RT.mono hmm,h3⟩
     ·have hjf:=e6j hj
      obtain ⟨y,_,hy⟩:=hx.get hjf;have hfm:=List.mem_of_getElem? hjf;have hff:=hf.2 _ hfm;have hkf:(a00 P n (fs.toList[j]).type).all (okS Ts)=true:=by
       rw [List.all_eq_true] at hk⊢;exact fun k hkk=>hk k (List.mem_flatMap.2 ⟨_,hfm,hkk⟩)
      obtain ⟨m,l,h1,h2,h3⟩:=ih n _ _ y.1 y.2 hff.1 hkf hy;refine ⟨m,fun f hff=> ?_⟩
      rw [hjf] at hff;cases hff;exact ⟨l,h1,h2,by rw [hy];exact Nat.le_trans (Nat.le_add_right _ _) h3⟩
    obtain ⟨m,hb⟩:=hb;have:=b1v (P:=P) (kds:=fun f l=>l.map Prod.fst=a00 P n f.type∧a8E (l.map Prod.snd)≤((DataW.trod enc P w 0 spare held fuel f.type ((cs.drop f.offset).take (P.cellsOf f.type))).map fun y=>bk y.1).getD 0) (R:=RT P w m) hf.1 hl (fun f hfm=>by
     obtain ⟨j,hj⟩:=List.getElem?_of_mem hfm;obtain ⟨l,h1,h2,h3⟩:=hb j (e6h.1 hj).1 f hj;refine ⟨l,⟨h1,h3⟩,h2,?_⟩;have:l.length=(l.map Prod.fst).length:=by simp
     rw [this,h1,e56 (hf.2 f hfm).2])
    obtain ⟨ls,h1,h2⟩:=this;have hfl:=b9m (h1.mono fun f l _ h=>h.2)
    rw [hbk] at hfl;refine ⟨m,ls.flatten,?_,by simpa using h2,by rw [show b6F P T=1 by unfold b6F a0d;rw [hu];rfl];omega⟩
    rw [List.map_flatten];exact b9h (h1.mono fun f l _ h=>h.1)
   ·cases h
  ·rename_i cs _ _ len e hu
   split at h
   ·rename_i hl
    simp only [b1N,hu,e57] at hf;simp only [a00,hu] at hk⊢;obtain ⟨xs,hxs,he⟩:=Option.map_eq_some_iff.1 h;simp only [e6q] at he;obtain ⟨rfl,_⟩:=he;have hx:=a88 hxs;have hbk:=c2T hB hx;have hba:=hB.agg (xs.map (·.1))
    have e1:=hl.trans (e56 hf.1.1);have hb:∃m,∀i,i<len→ ∃l:List (CK×D),l.map Prod.fst=a00 P n e∧All2 (RT P w m) l ((cs.drop (i*a0a P e)).take (a0a P e))∧a8E (l.map Prod.snd)≤((DataW.trod enc P w 0 spare held fuel e ((cs.drop (i*P.cellsOf e)).take (P.cellsOf e))).map fun y=>bk y.1).getD 0:=by
     refine b14 (Q:=fun i m=>∃l:List (CK×D),l.map Prod.fst=a00 P n e∧All2 (RT P w m) l ((cs.drop (i*a0a P e)).take (a0a P e))∧a8E (l.map Prod.snd)≤((DataW.trod enc P w 0 spare held fuel e ((cs.drop (i*P.cellsOf e)).take (P.cellsOf e))).map fun y=>bk y.1).getD 0) (fun i m m' hmm ⟨l,h1,h2,h3⟩=>⟨l,h1,h2.mono fun _ _ _=>RT.mono hmm,h3⟩) _ fun i hi=> ?_
     obtain ⟨y,_,hy⟩:=hx.get (List.getElem?_range hi);obtain ⟨m,l,h1,h2,h3⟩:=ih n e _ y.1 y.2 hf.1.2 (by
      rw [List.all_eq_true] at hk⊢;refine fun k hkk=>hk k ?_
      cases len with
      |zero=>omega
      |succ len=>rw [List.replicate_succ,List.flatten_cons];simp [hkk]) hy
     exact ⟨m,l,h1,h2,by rw [hy];exact Nat.le_trans (Nat.le_add_right _ _) h3⟩
    obtain ⟨m,hb⟩:=hb;obtain ⟨l,h1,h2,h3⟩:=c7l (R:=RT P w m) (ks:=a00 P n e) (sz:=a0a P e) len (Nat.le_of_eq e1.symm) hb;rw [hbk] at h3;refine ⟨m,l,h1,?_,by rw [show b6F P T=1 by unfold b6F a0d;rw [hu];rfl];omega⟩
    rw [←e1,List.take_length] at h2;exact h2
   ·cases h
  ·cases h
def e0t (P:Program) (Ts:List TypeId) (T:TypeId):Bool:=b1N P 12 T&&(kinds P T).all (okS Ts)&&stB P T
theorem d0A {W:World} {env:Env} {S:a0A} {base:Nat} (hB:b5H bk bkA) (hTs:e3c P Ts=true) {T:TypeId} {v:Value} {d:DataW H} {ps:List MemPlace} (hp:e0t P Ts T=true) (h:DataW.Trod enc P W 0 (fun _=>true) true T v d ps) (ho:Value.okWide P W .any base T v)
  (hk:a0y W (Sw W) W S):∃m ds,b0z P m T ds∧a0s P env S W (e0r P T ds) v∧a8E ds≤bk d:=by
 unfold e0t at hp;simp only [e57] at hp;obtain ⟨⟨p1,p2⟩,_⟩:=hp;obtain ⟨fuel,h⟩:=h;obtain ⟨m,kds,k1,k2,k3⟩:=c2U hB hTs fuel 12 T _ d ps p1 p2 h;have k1:kds.map Prod.fst=kinds P T:=k1;refine ⟨m,kds.map Prod.snd,?_,?_,Nat.le_trans (Nat.le_add_right _ _) k3⟩
 ·unfold b0z
  rw [←k1];refine .of_get (by simp) fun j x y hx hy=> ?_
  rw [List.getElem?_map] at hx hy;obtain ⟨kd,h1,rfl⟩:=Option.map_eq_some_iff.1 hx;rw [h1] at hy;cases hy;obtain ⟨v,_,hv⟩:=k2.get h1;exact hv.1
 ·have hz:=c7a (env:=env) k2 hk
  rw [k1] at hz;exact d0s p1 ho hz
theorem b9n {W:World} {env:Env} {S:a0A} {base:Nat} (hB:b5H bk bkA) (hTs:e3c P Ts=true) (hk:a0y W (Sw W) W S):∀{Tl:List TypeId} {vs:List Value} {ds:List (DataW H)} {ps:List MemPlace},(∀T∈Tl,e0t P Ts T=true)→DataW.TrodAll enc P W 0 (fun _=>true) true Tl vs ds ps→
  (∀(j:Nat) t v,Tl[j]? =some t→vs[j]? =some v→Value.okWide P W .any base t v)→ ∃m dss,All2 (b0z P m) Tl dss∧All2 (a0s P env S W) (d0r P Tl dss) vs∧(dss.map a8E).sum≤bkA ds
 | [],vs,ds,ps,_,h,_=>by
  obtain ⟨rfl,rfl,rfl⟩:=ChangeShapes.trodAll_nil h;exact ⟨0,[],trivial,trivial,by simp⟩
 |T::Tl,vs,ds,ps,hp,h,ho=>by
  obtain ⟨v,vs1,d,ds1,a,b,rfl,rfl,rfl,h1,h2⟩:=ChangeShapes.trodAll_cons h;obtain ⟨m,x,q1,q2,q5⟩:=d0A (env:=env) hB hTs (hp T (by simp)) h1 (ho 0 T v rfl rfl) hk
  obtain ⟨m',xs,q3,q4,q6⟩:=b9n hB hTs hk (fun T hT=>hp T (by simp [hT])) h2 (fun j t v ht hv=>ho (j+1) t v (by simpa using ht) (by simpa using hv))
  exact ⟨max m m',x::xs,⟨q1.mono fun _ _ _=>TyK.mono (Nat.le_max_left _ _),q3.mono fun _ _ _ h=>h.mono fun _ _ _=>TyK.mono (Nat.le_max_right _ _)⟩,⟨q2,q4⟩,by rw [hB.consA,List.map_cons,List.sum_cons];omega⟩
theorem c7m {W:World} {f:FuncId} {fn:Func} {s:ChangeSpec} {apart a0o handsOn again:Bool} {tb:TypeId} (hB:b5H bk bkA) (Ts:List TypeId) (hTs:e3c P Ts=true) (hl:laidOutB P=true) (hvars:s.vars=[])
  (hres:fn.resultTypes= #[tb]) (htb:P.underlying tb=some .bool) (hpar:fn.params.all (e0t P Ts)=true) (hs:∀l,l.length=fn.params.size→s.fn H l={results:=[.lit (.bool true)],args:=l})
  {base:Nat} {args:Array Value} {ds gs:List (DataW H)} {before:List MemPlace} (hc:∀m dss,All2 (b0z P m) fn.params.toList dss→(dss.map a8E).sum≤bkA ds→a2z P f (d0r P fn.params.toList dss) [] ([.c (.b true)],[]))
  (hgi:∀{M:a0A},(∀b o,¬M b o)→GI P M W)
  (hok:∀(j:Nat) t v,fn.params[j]? =some t→args[j]? =some v→Value.okWide P W .any base t v)
  (hW:DataW.Whole enc P fn.params.toList s.vars apart W args.toList ds gs before):Calls P f args W fun e W'=>∃v,e= .returned v∧s.post enc P fn apart a0o handsOn again W args v W':=by
 have hpar':∀T∈fn.params.toList,e0t P Ts T=true:=by
  rw [Array.all_eq_true_iff_forall_mem] at hpar;exact fun T hT=>hpar T (by simpa using hT)
 let env:Env:=fun _=>⟨0,0,none⟩
 have hkeep:a0y W (Sw W) W (Sof P (Sw W) (a3g P env []) W.heap.size env [] W):=fun b o v hS hc=>⟨⟨.inl hS,hS,fun k ob hg=>by cases hg⟩,hc⟩
 obtain ⟨p,q,h1,_⟩:=id hW;obtain ⟨m,dss,d1,d2,d3⟩:=b9n (env:=env) hB hTs hkeep hpar' h1 (fun j t v ht hv=>hok j t v (by simpa using ht) (by simpa using hv))
 exact d5s hl hvars hres htb (fun T hT=>by
  have:=hpar' T hT;unfold e0t at this;simp only [e57] at this;exact this.2) hs (hc m dss d1 d3) hgi d2 hW
end
end Go.AM
namespace Go.AM
open Go
section
variable {P:Program} {W:World}
def GAt (W:World) (g:Nat) (ps:List (Value→Prop)):Prop:=∃cur T fr,W.heap[g]? =some (.cells cur T fr)∧cur.size=ps.length∧ ∀(o:Nat) p v,ps[o]? =some p→cur[o]? =some v→p v
theorem d0B {cur:Array Value} {p:Value→Prop} {v0:Value} (h:cur= #[v0]) (hp:p v0):∀(o:Nat) q v,([p]:List (Value→Prop))[o]? =some q→cur[o]? =some v→q v:=by
 intro o q v hq hv;subst h;cases o with
 |zero=>simp at hq hv;subst hq hv;exact hp
 |succ o=>simp at hv
theorem d5z {g:Nat} {name:String} {k:IntKind} {zs:List Int} (hg:P.globalNamed name=some g) (h:Lib.TabIs P W name k zs) {ps:List (Value→Prop)} (hl:ps.length=zs.length) (hp:∀(i:Nat) p z,ps[i]? =some p→zs[i]? =some z→p (.int k z)):GAt W g ps:=by
 unfold Lib.TabIs World.var? at h;rw [hg] at h;simp only [Option.bind_some] at h;split at h
 ·rename_i cs T fr hh
  simp only [e55] at h;subst h;refine ⟨_,T,fr,hh,by simp [hl],fun o p v q1 q2=> ?_⟩
  simp only [List.getElem?_toArray,List.getElem?_map,Option.map_eq_some_iff] at q2;obtain ⟨z,q3,rfl⟩:=q2;exact hp o p z q1 q3
 ·cases h
theorem b6G {x:String×DataW Unit}:∀{l:List (String×DataW Unit)} {ps:List MemPlace},DataW.LaidVars P W l ps→x∈l→
  ∃g t cs fuel p,P.globalNamed x.1=some g∧(P.globals[g]?).map (·.type)=some t∧W.var? P x.1=some cs∧DataW.trod (fun _=>()) P W 0 (fun _=>true) false fuel t cs.toList=some (x.2,p)
 |(n,d)::l,ps,h,hx=>by
  obtain ⟨g,t,cs,fuel,p,q,h1,h2,h3,h4,h5,_⟩:=h;rcases e6k.1 hx with rfl|hx
  ·exact ⟨g,t,cs,fuel,p,h1,h2,h3,h4⟩
  ·exact b6G h5 hx
def d4l (P:Program) (t:TypeId):Bool:=match P.underlying t with
 |some (.interface _)=>true
 |_=>false
theorem c7n {l:List (String×DataW Unit)} {name tn:String} {g t:Nat} {d:DataW Unit} (h:laidMet P l W) (hx:(name,DataW.iface tn d)∈l) (hg:P.globalNamed name=some g) (ht:(P.globals[g]?).map (·.type)=some t) (hi:d4l P t=true):GAt W g [c6A]:=by
 obtain ⟨ms,hu⟩:∃ms,P.underlying t=some (.interface ms):=by
  unfold d4l at hi;split at hi
  ·rename_i ms h;exact ⟨ms,h⟩
  ·cases hi
 obtain ⟨ps,hl,_⟩:=h;obtain ⟨g',t',cs,fuel,p,q1,q2,q3,q4⟩:=b6G hl hx;obtain rfl:=Option.some.inj (hg.symm.trans q1);obtain rfl:=Option.some.inj (ht.symm.trans q2);unfold World.var? at q3;rw [hg] at q3;simp only [Option.bind_some] at q3;split at q3
 ·rename_i cs' T fr hh
  simp only [e55] at q3;subst q3;cases fuel with
  |zero=>cases q4
  | succ fuel=>
   unfold DataW.trod at q4;rw [hu] at q4;have hone:∃u v,cs'.toList=[.iface u v]:=by
    generalize hcl:cs'.toList=cl at q4;match cl,q4 with
    | [.iface u v],_=>exact ⟨u,v,rfl⟩
    | [.nilIface],q4=>simp at q4
   obtain ⟨u,v,hone⟩:=hone;have:cs'= #[.iface u v]:=by rw [←Array.toList_inj];exact hone
   exact ⟨cs',T,fr,hh,by rw [this];rfl,d0B this (.inr ⟨u,v,rfl⟩)⟩
 ·cases q3
end
end Go.AM
namespace Go.AM
open Go Go.RowKit
theorem a3b {α:Type} {k0 k:Nat} {x o:α} (h:get [(k0,x)] k=some o):k=k0∧o=x:=by
 simp only [get,a0k] at h;by_cases hk:k0=k
 ·rw [cond_true (by simpa using hk)] at h;exact ⟨hk.symm,(Option.some.inj h).symm⟩
 ·rw [cond_false (by simpa using hk)] at h;cases h
section
variable {P:Program}
open Go.Sort in
end
section
variable {P:Program}
end
end Go.AM
set_option maxHeartbeats 1000000
namespace Go.Proofs
open Go Go.Shelf Go.RowKit
variable {P:Program} {ρ:Ren}
end Go.Proofs
namespace Go.AM
open Go Go.Sort Go.RowKit Go.Proofs
structure b1O {α:Type} (c:α→α→Int):Prop where
 sym:∀x y,c x y<0↔0<c y x
 trans:∀x y z,c x y≤0→c y z≤0→c x z≤0
theorem b1O.swo {α:Type} {c:α→α→Int} (h:b1O c):SWO (ltOf c):=by
 have hl:∀x y,(ltOf c x y=true)↔c x y<0:=fun x y=>by unfold ltOf;simp
 have hf:∀x y,(ltOf c x y=false)↔c y x≤0:=fun x y=>by
  have:=h.sym x y;unfold ltOf;simp only [decide_eq_false_iff_not];omega
 refine ⟨fun x=> ?_,fun x y z h1 h2=> ?_,fun x y z h1 h2=> ?_⟩
 ·rw [hf]
  have:=h.sym x x;omega
 ·rw [hl] at*
  have a:=h.sym x y;have b:=h.sym y z;have d:=h.sym x z;have:=h.trans y z x (by omega)
  have e:=h.sym z x;by_cases hz:c z x≤0
  ·have:=this hz;omega
  ·omega
 ·rw [hf] at*
  exact h.trans z y x h2 h1
theorem a4i {α β:Type} {c:β→β→Int} (h:b1O c) (f:α→β):b1O fun x y=>c (f x) (f y):=⟨fun x y=>h.sym _ _,fun x y z=>h.trans _ _ _⟩
theorem b9o:b1O Lib.compareInt:=by
 refine ⟨fun x y=> ?_,fun x y z=> ?_⟩<;>unfold Lib.compareInt<;>repeat' split
 all_goals omega
theorem a6c:∀x y:List UInt8,Lib.compareBytes x y<0↔0<Lib.compareBytes y x
 | [],[]=>by simp [Lib.compareBytes]
 | [],_::_=>by simp [Lib.compareBytes]
 |_::_,[]=>by simp [Lib.compareBytes]
 | a::at',b::bs=>by
  have ih:=a6c at' bs;simp only [Lib.compareBytes];have h1:a<b↔a.toNat<b.toNat:=UInt8.lt_iff_toNat_lt;have h2:b<a↔b.toNat<a.toNat:=UInt8.lt_iff_toNat_lt;by_cases p:a<b
  ·have q:¬b<a:=by rw [h1] at p;rw [h2];omega
   simp [p,q]
  ·by_cases q:b<a
   ·simp [p,q]
   ·simp only [p,q,if_false];exact ih
theorem a4D:∀x y z:List UInt8,Lib.compareBytes x y≤0→Lib.compareBytes y z≤0→Lib.compareBytes x z≤0
 | [],_,[],_,_=>by simp [Lib.compareBytes]
 | [],_,_::_,_,_=>by simp [Lib.compareBytes]
 |_::_,[],_,h,_=>by simp [Lib.compareBytes] at h
 |_::_,_::_,[],_,h=>by simp [Lib.compareBytes] at h
 | a ::at',b::bs,c::cs,h1,h2=>by
  have ih:=a4D at' bs cs;have e1:a<b↔a.toNat<b.toNat:=UInt8.lt_iff_toNat_lt;have e2:b<a↔b.toNat<a.toNat:=UInt8.lt_iff_toNat_lt;have e3:b<c↔b.toNat<c.toNat:=UInt8.lt_iff_toNat_lt;have e4:c<b↔c.toNat<b.toNat:=UInt8.lt_iff_toNat_lt;have e5:a<c↔a.toNat<c.toNat:=UInt8.lt_iff_toNat_lt;have e6:c<a↔c.toNat<a.toNat:=UInt8.lt_iff_toNat_lt;simp only [Lib.compareBytes,e1,e2,e3,e4,e5,e6] at*
  by_cases p:a.toNat<c.toNat
  ·simp [p]
  ·by_cases q1:a.toNat<b.toNat
   ·have:c.toNat<b.toNat:=by omega
    have n:¬b.toNat<c.toNat:=by omega
    simp [this,n] at h2
   ·by_cases q2:b.toNat<a.toNat
    ·simp [q1,q2] at h1
    ·simp only [q1,q2,if_false] at h1
     by_cases r1:b.toNat<c.toNat
     ·omega
     ·by_cases r2:c.toNat<b.toNat
      ·simp [r1,r2] at h2
      ·simp only [r1,r2,if_false] at h2
       have:¬c.toNat<a.toNat:=by omega
       simp only [p,this,if_false];exact ih h1 h2
theorem b3W:b1O Lib.compareBytes:=⟨a6c,a4D⟩
def lex (a b:Int):Int:=if a=0 then b else a
theorem a9b {α:Type} {c d:α→α→Int} (h:b1O c) (h':b1O d):b1O fun x y=>lex (c x y) (d x y):=by
 refine ⟨fun x y=> ?_,fun x y z h1 h2=> ?_⟩
 ·have a:=h.sym x y
  have b:=h.sym y x;have e:=h'.sym x y;simp only [lex];split<;>split<;>omega
 ·have a:=h.sym x y
  have a':=h.sym y x;have b:=h.sym y z;have b':=h.sym z y;have e:=h.sym x z;have e':=h.sym z x;have t:=h.trans x y z;have t1:=h.trans y z x;have t2:=h.trans z x y;have u:=h'.trans x y z;simp only [lex] at*
  split at h1<;>split at h2<;>split<;>omega
theorem b5I {α:Type}:b1O fun (_ _:α)=>(0:Int):=⟨fun _ _=>by omega,fun _ _ _ _ _=>by omega⟩
abbrev a4j:=List (Nat×Bool)
def vI:Value→Int
 | .int _ n=>n
 |_=>0
def vS:Value→List UInt8
 | .string s=>s.data.toList
 |_=>[]
def c7o:a4j→List Value→List Value→Int
 | [],_,_=>0
 |(j,s)::r,x,y=>lex (bif s then Lib.compareBytes (vS (x.getD j undef)) (vS (y.getD j undef)) else Lib.compareInt (vI (x.getD j undef)) (vI (y.getD j undef))) (c7o r x y)
def c5f (P:Program) (e:TypeId):a4j→D→D→Int
 | [],_,_=>0
 |(j,s)::r,x,y=>lex (bif s then Lib.compareBytes (elD P e x j).toS (elD P e y j).toS else Lib.compareInt (elD P e x j).toI (elD P e y j).toI) (c5f P e r x y)
theorem b0A:∀os,b1O (c7o os)
 | []=>b5I
 |(j,true)::r=>a9b (a4i b3W fun x:List Value=>vS (x.getD j undef)) (b0A r)
 |(j,false)::r=>a9b (a4i b9o fun x:List Value=>vI (x.getD j undef)) (b0A r)
theorem a1i {P:Program} {e:TypeId}:∀os,b1O (c5f P e os)
 | []=>b5I
 |(j,true)::r=>a9b (a4i b3W fun x=>(elD P e x j).toS) (a1i r)
 |(j,false)::r=>a9b (a4i b9o fun x=>(elD P e x j).toI) (a1i r)
def c1i (P:Program) (e:TypeId) (os:a4j) (xs:List D):List D:=xs.mergeSort fun x y=> !ltOf (c5f P e os) y x
def c7p (P:Program) (e:TypeId) (os:a4j) (xs:List D):Prop:=∀a∈xs,∀b∈xs,c5f P e os a b=0→a=b
open Classical in
def c7q (P:Program) (e:TypeId) (os:a4j) (xs:List D):Bool:=decide (c7p P e os xs)
theorem b5J {P:Program} {e:TypeId} {os:a4j} {xs:List D}:c7q P e os xs=true↔c7p P e os xs:=by unfold c7q;exact @decide_eq_true_iff _ (Classical.propDecidable _)
def kOk:CK→Value→Prop
 | .int k,v=>∃n,v= .int k n
 | .bool,v=>∃b,v= .bool b
 | .str,v=>∃s,v= .string s
 | .sl _,v=>∃p n c,v= .slice p n c
 | .oth,v=>v= .nilFunc∨ ∃g,v= .func (.func g) #[] #[]
def e3P:CK→Value
 | .int k=> .int k 0
 | .bool=> .bool false
 | .str=> .string ⟨#[]⟩
 | .sl _=> .slice none 0 0
 | .oth=> .nilFunc
theorem d5A (k:CK):kOk k (e3P k):=by cases k<;>first|exact ⟨_,rfl⟩|exact ⟨_,_,_,rfl⟩|exact .inl rfl
theorem d5B {P:Program} {w:World} {S:a0A} {k:CK} {d:D} {v:Value} (h:a1D P w S k d v):kOk k v:=by
 cases h with
 |oth d=>unfold fnV;cases d.toB with
  |true=>exact .inl rfl
  |false=>exact .inr ⟨_,rfl⟩
 |int k d=>exact ⟨_,rfl⟩
 |bool d=>exact ⟨_,rfl⟩
 |str d=>exact ⟨_,rfl⟩
 |nil e d=>exact ⟨_,_,_,rfl⟩
 |emp e d=>exact ⟨_,_,_,rfl⟩
 |sl e d=>exact ⟨_,_,_,rfl⟩
abbrev Elt (ks:List CK):={vs:List Value//All2 kOk ks vs}
theorem c2V:∀ks:List CK,All2 kOk ks (ks.map e3P)
 | []=>trivial
 |k::ks=>⟨d5A k,c2V ks⟩
instance (ks:List CK):Inhabited (Elt ks):=⟨⟨ks.map e3P,c2V ks⟩⟩
theorem c7r {α β:Type} {R:α→β→Prop} {l l':List β} (hp:l'.Perm l):∀{xs:List α},All2 R xs l→ ∃ys:List α,ys.Perm xs∧All2 R ys l':=by
 induction hp with
 |nil=>intro xs h;exact ⟨xs,.refl _,h⟩
 | @cons b l1 l2 _ ih=>
  intro xs h;cases xs with
  |nil=>exact h.elim
  |cons x xs=>
   obtain ⟨ys,h1,h2⟩:=ih h.2;exact ⟨x::ys,h1.cons x,h.1,h2⟩
 |swap a b l=>
  intro xs h;match xs,h with
  |x::y::xs,h=>exact ⟨y::x::xs,.swap x y xs,h.2.1,h.1,h.2.2⟩
 |trans _ _ ih1 ih2=>
  intro xs h;obtain ⟨ys,h1,h2⟩:=ih2 h;obtain ⟨zs,h3,h4⟩:=ih1 h2;exact ⟨zs,h3.trans h1,h4⟩
section
variable {P:Program}
def d5C (P:Program) (w:World) (S:a0A) (e:TypeId) (x:D) (vs:List Value):Prop:=∀(j:Nat) (k:CK),(kinds P e)[j]? =some k→ ∃u,vs[j]? =some u∧a1D P w S k (elD P e x j) u
theorem c7s {w:World} {S:a0A} {e:TypeId} {x y:D} {vs ws:List Value} (hx:d5C P w S e x vs) (hy:d5C P w S e y ws):∀os:a4j,(∀z∈os,(kinds P e)[z.1]? =some (bif z.2 then .str else .int .i64))→c7o os vs ws=c5f P e os x y
 | [],_=>rfl
 |(j,true)::r,h=>by
  have hk:=h _ (List.mem_cons_self ..);obtain ⟨u,hu,ru⟩:=hx j _ hk;obtain ⟨v,hv,rv⟩:=hy j _ hk;simp only [c7o,c5f,AM.cond_true rfl] at ru rv⊢;rw [c7s hx hy r fun z hz=>h z (List.mem_cons_of_mem _ hz),e6d,e6d,hu,hv]
  generalize elD P e x j=a at ru;generalize elD P e y j=b at rv;cases ru;cases rv;rfl
 |(j,false)::r,h=>by
  have hk:=h _ (List.mem_cons_self ..);obtain ⟨u,hu,ru⟩:=hx j _ hk;obtain ⟨v,hv,rv⟩:=hy j _ hk;simp only [c7o,c5f,AM.cond_false rfl] at ru rv⊢;rw [c7s hx hy r fun z hz=>h z (List.mem_cons_of_mem _ hz),e6d,e6d,hu,hv]
  generalize elD P e x j=a at ru;generalize elD P e y j=b at rv;cases ru;cases rv;rfl
theorem c7t {α:Type} {Q:Nat→α→Prop}:∀n:Nat,(∀i,i<n→ ∃x,Q i x)→ ∃l:List α,l.length=n∧ ∀(i:Nat) x,l[i]? =some x→Q i x
 |0,_=>⟨[],rfl,fun i x h=>by simp at h⟩
 | n+1,h=>by
  obtain ⟨l,h1,h2⟩:=c7t n fun i hi=>h i (by omega)
  obtain ⟨x,hx⟩:=h n (by omega)
  refine ⟨l++[x],by simp [h1],fun i y hy=> ?_⟩
  rcases Nat.lt_or_ge i n with hi|hi
  ·rw [e6p (by omega)] at hy;exact h2 i y hy
  ·rw [e6o (by omega),h1] at hy
   have:i-n=0:=by
    rcases Nat.eq_zero_or_pos (i-n) with h|h
    ·exact h
    ·rw [List.getElem?_eq_none (by simp;omega)] at hy;cases hy
   rw [this] at hy;simp only [List.getElem?_cons_zero,e55] at hy;subst hy;have:i=n:=by omega
   subst this;exact hx
structure b6H {ks:List CK} (co:a4j) (blk:Nat) (d:Array (Elt ks)) (w w':World):Prop where
 os:w'.os=w.os
 tape:w'.tape=w.tape
 output:w'.output=w.output
 size:w.heap.size≤w'.heap.size
 other:∀b,b<w.heap.size→b≠blk→w'.heap[b]? =w.heap[b]?
 row:∃d':Array (Elt ks),PermIn 0 d.size d d'∧SortedIn (ltOf fun x y:Elt ks=>c7o co x.val y.val) 0 d.size d'∧
  ∀cur T fr,w.heap[blk]? =some (.cells cur T fr)→ ∃cur':Array Value,w'.heap[blk]? =some (.cells cur' T fr)∧cur'.size=cur.size∧ ∀i,i<d.size→ ∀j,j<ks.length→i*ks.length+j<cur.size→cur'[i*ks.length+j]? =(d'[i]!).val[j]?
theorem d5D {f g:FuncId} {e:TypeId} {os:a4j} (hsz:a0a P e=(kinds P e).length) (hk0:0<(kinds P e).length) (hos:∀z∈os,(kinds P e)[z.1]? =some (bif z.2 then .str else .int .i64))
  (hS:∀(blk cap:Nat) (d:Array (Elt (kinds P e))) (w:World),HoldsK (fun x:Elt (kinds P e)=>x.val) (kinds P e).length w blk 0 d→blk<w.heap.size→d.size<4611686018427387904→
   Calls P f #[.slice (some ⟨blk,0,none⟩) d.size cap,.func (.func g) #[] #[]] w fun en w'=>en= .returned (.tuple #[])∧b6H os blk d w w')
  (h0:∀(p:Option Addr) (cap:Nat) (w:World),Calls P f #[.slice p 0 cap,.func (.func g) #[] #[]] w fun en w'=>en= .returned (.tuple #[])∧w'=w)
  {nl:Bool} {xs:List D} (hx:c7p P e os xs) (hl:xs.length<4611686018427387904):a2z P f [.c (.o 0),.c (.f g [])] [(0,.row e true nl xs)] ([],[(0,.row e true nl (c1i P e os xs))]):=by
 intro B env w vs hpre hall;obtain ⟨v1,v2,hv,r1,r2⟩:=d0z hall;have hvs:vs= #[v1,v2]:=by rw [←Array.toList_inj];exact hv
 subst hvs;have r1:v1=(env 0).hdr:=r1;have r2:v2= .func (.func g) #[] #[]:=r2;subst r1 r2;have hob:=hpre.rel.ob 0 _ rfl;have hob0:=hob;obtain ⟨_,⟨hn,hxs,hhdr⟩|⟨hn,hbase,cap,cur,hhdr,hrow,h1,h2,h3,h4⟩⟩:=hob
 ·-- nil
  subst hn hxs;rw [hhdr];have hs:c1i P e os []=[]:=by unfold c1i;simp
  rw [hs];refine (h0 none 0 w).mono ?_;rintro en w' ⟨rfl,rfl⟩;exact ⟨_,rfl,env,hpre.rel,⟨#[],rfl,trivial⟩⟩
 subst hn;obtain ⟨fr,hfr,hheap⟩:=hrow;have hblk:(env 0).blk<w.heap.size:=(e6f.1 hheap).1;generalize hS0:Sof P B (a3g P env [(0,.row e true false xs)]) w.heap.size env [(0,.row e true false xs)] w=S at*
 obtain ⟨l,hl1,hl2⟩:∃l:List (Elt (kinds P e)),l.length=xs.length∧ ∀(i:Nat) x,l[i]? =some x→(∀j,j<(kinds P e).length→x.val[j]? =cur[i*(kinds P e).length+j]?)∧i<xs.length:=by
  refine c7t xs.length fun i hi=> ?_
  have hc:∀(j:Nat) k,(kinds P e)[j]? =some k→ ∃u,cur[i*(kinds P e).length+j]? =some u∧kOk k u:=fun j k hk=>by
   obtain ⟨u,hu,hr⟩:=h4 i j k hi hk;rw [hsz] at hu;exact ⟨u,hu,d5B hr⟩
  have hv:∀j,j<(kinds P e).length→((List.range (kinds P e).length).map fun j=>cur.getD (i*(kinds P e).length+j) undef)[j]? =cur[i*(kinds P e).length+j]? :=fun j hj=>by
   obtain ⟨u,hu,_⟩:=hc j _ (e6j hj);rw [List.getElem?_map,List.getElem?_range hj];simp [e6i,hu]
  refine ⟨⟨(List.range (kinds P e).length).map fun j=>cur.getD (i*(kinds P e).length+j) undef,.of_get (by simp) fun j k v hk hv'=> ?_⟩,hv,hi⟩
  have hj:=(e6h.1 hk).1;rw [hv j hj] at hv';obtain ⟨u,hu,hr⟩:=hc j k hk;rw [hu] at hv';cases hv';exact hr
 have hval:∀i,i<xs.length→ ∀j,j<(kinds P e).length→(l.toArray[i]!).val[j]? =cur[i*(kinds P e).length+j]? :=fun i hi j hj=>by
  have:l[i]? =some (l.toArray[i]!):=by
   rw [e6j (by omega),getElem!_pos l.toArray i (by simp;omega)];simp
  exact (hl2 i _ this).1 j hj
 have hH:HoldsK (fun x:Elt (kinds P e)=>x.val) (kinds P e).length w (env 0).blk 0 l.toArray:=by
  intro t ht;rw [size_flatK,List.size_toArray,hl1] at ht;rw [get_flatK _ _ _ _ (by rw [List.size_toArray,hl1];exact ht)]
  have hi:t/(kinds P e).length<xs.length:=by rw [Nat.div_lt_iff_lt_mul hk0];exact ht
  have hj:t%(kinds P e).length<(kinds P e).length:=Nat.mod_lt _ hk0;have he:=hval _ hi _ hj;rw [Nat.mul_comm,Nat.div_add_mod] at he;obtain ⟨u,hu,_⟩:=h4 _ _ _ hi (e6j hj);rw [hsz,Nat.mul_comm,Nat.div_add_mod] at hu;rw [hu] at he;refine ⟨?_,?_⟩
  ·rw [Nat.zero_add,a2Y hheap hu]
   congr 1
   show u=(l.toArray[t/(kinds P e).length]!).val[t%(kinds P e).length]!;rw [List.getElem!_eq_getElem?_getD,he];rfl
  ·unfold World.frozen?
   simp only [hheap];have:=(e6f.1 hu).1;rcases hfr with rfl|hfr
   ·simp
   ·simp;omega
 have hcs:=hS (env 0).blk cap l.toArray w hH hblk (by rw [List.size_toArray,hl1];exact hl)
 rw [List.size_toArray,hl1] at hcs;rw [hhdr];refine hcs.mono ?_;rintro en w' ⟨rfl,hp⟩;obtain ⟨d',hperm,hsorted,hcells⟩:=hp.row;rw [List.size_toArray,hl1] at hperm hsorted hcells;obtain ⟨cur',c1,c2,c3⟩:=hcells cur e fr hheap;have hsd:d'.size=xs.length:=by rw [hperm.1,List.size_toArray,hl1]
 have hpm:d'.toList.Perm l:=by
  have:=hperm.2.2;have e1:d'.extract 0 xs.length=d':=by rw [←hsd];exact Array.extract_size
  have e2:l.toArray.extract 0 xs.length=l.toArray:=by rw [←hl1,←List.size_toArray];exact Array.extract_size
  rw [e1,e2] at this;simpa using this
 have hrel:All2 (fun (x:D) (el:Elt (kinds P e))=>d5C P w S e x el.val) xs l:=by
  refine .of_get hl1.symm fun i x el hxi hel j k hk=> ?_
  have hi:=(e6h.1 hxi).1;have hj:=(e6h.1 hk).1;obtain ⟨u,hu,hr⟩:=h4 i j k hi hk;rw [hsz] at hu;refine ⟨u,by rw [(hl2 i el hel).1 j hj,hu],?_⟩
  rw [e6d,hxi] at hr;exact hr
 obtain ⟨ys,hys,hrel'⟩:=c7r hpm hrel;have hysl:ys.length=xs.length:=hys.length_eq;have hcmp:=(a1i (P:=P) (e:=e) os);have heq:ys=c1i P e os xs:=by
  refine List.Perm.eq_of_pairwise (le:=fun x y=>(!ltOf (c5f P e os) y x)=true) ?_ ?_ ?_ (hys.trans (List.mergeSort_perm _ _).symm)
  ·intro a b ha hb g1 g2
   have ha:=hys.mem_iff.1 ha;have hb:=(List.mergeSort_perm _ _).mem_iff.1 hb;refine hx a ha b hb ?_;have h:=hcmp.sym a b;have h':=hcmp.sym b a;simp only [ltOf,Bool.not_eq_true',decide_eq_false_iff_not] at g1 g2;omega
  ·rw [List.pairwise_iff_getElem]
   intro i j hi hj hij;have hj':j<d'.size:=by omega
   have hi':i<d'.size:=by omega
   have:=hsorted i j (Nat.zero_le _) hij (by omega)
   rw [getElem!_pos d' j hj',getElem!_pos d' i hi'] at this;have a1:=hrel'.get2 (e6j hi) (y:=d'[i]) (by simp [hi'])
   have a2:=hrel'.get2 (e6j hj) (y:=d'[j]) (by simp [hj'])
   rw [Bool.not_eq_true'];unfold ltOf at this⊢;rw [←c7s a2 a1 os hos];exact this
  ·refine List.pairwise_mergeSort ?_ ?_ _
   ·intro a b c g1 g2
    simp only [Bool.not_eq_true'] at g1 g2⊢;exact hcmp.swo.ntrans c b a g2 g1
   ·intro a b
    have h:=hcmp.sym a b;simp only [ltOf,Bool.or_eq_true,Bool.not_eq_true',decide_eq_false_iff_not];omega
 subst heq;have hM:∀o,a3g P env [(0,.row e true false xs)] (env 0).blk o:=fun o=>⟨0,_,rfl,rfl,rfl,.inl rfl⟩
 have hk:a0y w S w' (Sof P B (a3g P env [(0,.row e true false xs)]) w.heap.size env [(0,.row e true false (c1i P e os xs))] w'):=by
  intro b o v hSb hv;rw [←hS0] at hSb;obtain ⟨s1,s2,s3⟩:=hSb;have hne:b≠(env 0).blk:=fun hb=>s3 0 _ rfl ⟨rfl,hb,.inl rfl⟩
  refine ⟨⟨s1,Nat.lt_of_lt_of_le s2 hp.size,fun key ob hg hm=> ?_⟩,?_⟩
  ·obtain ⟨rfl,rfl⟩:=a3b hg
   exact hne hm.2.1
  ·obtain ⟨c,T,fr',q1,q2⟩:=a4Y hv
   exact a2Y (by rw [hp.other b s2 hne];exact q1) q2
 refine ⟨_,rfl,env,⟨rfl,?_,?_,?_,?_,?_,hpre.rel.bb,fun _ _=>rfl,hpre.rel.gi⟩,⟨#[],rfl,trivial⟩⟩
 ·intro k o hg
  obtain ⟨rfl,rfl⟩:=a3b hg;refine ⟨hsz,.inr ⟨rfl,hbase,cap,cur',by rw [hhdr,hysl],⟨fr,by rw [c2];exact hfr,c1⟩,by omega,h2,by rw [c2];exact h3,fun i j k hi hj=> ?_⟩⟩
  have hjl:=(e6h.1 hj).1;have a1:=hrel'.get2 (e6j hi) (y:=d'[i]'(by omega)) (by simp) j k hj
  obtain ⟨u,hu,hr⟩:=a1;have hin:i*(kinds P e).length+j<cur.size:=by
   obtain ⟨u',hu',_⟩:=h4 i j k (by omega) hj
   rw [hsz] at hu';exact (e6f.1 hu').1
  refine ⟨u,?_,?_⟩
  ·rw [hsz,c3 i (by omega) j hjl hin,getElem!_pos d' i (by omega)]
   exact hu
  ·rw [e6d,e6j hi]
   exact hr.mono hk
 ·intro k k' o o' hg hg' _ _ hne
  exact absurd ((a3b hg).1.trans (a3b hg').1.symm) hne
 ·intro k o b' x hg hm
  obtain ⟨rfl,rfl⟩:=a3b hg;obtain ⟨_,rfl,_⟩:=hm;exact .inl (hM x)
 ·intro k e' ex ys hg o _
  obtain ⟨rfl,_⟩:=a3b hg;exact .inr (.inr (hM o))
 ·refine ⟨hp.os,hp.tape,hp.output,hp.size,?_,?_⟩
  ·intro b c T fr' hb
   by_cases hbb:b=(env 0).blk
   ·subst hbb
    rw [hheap] at hb;cases hb;exact ⟨cur',fr,c1,c2,fun o ho=>absurd (hM o) ho,.inl rfl⟩
   ·exact ⟨c,fr',by rw [hp.other b (e6f.1 hb).1 hbb];exact hb,rfl,fun _ _=>rfl,.inl rfl⟩
  ·intro b ob hb hno
   by_cases hbb:b=(env 0).blk
   ·subst hbb;exact absurd (hM 0) (hno 0)
   ·rw [hp.other b (e6f.1 hb).1 hbb];exact hb
theorem c5g {ks:List CK} {os:a4j} {blk:Nat} {d d':Array (Elt ks)} {w w':World} {n:Nat} {bs:Array Go.Obj} (hk0:0<ks.length) (hblk:blk<w.heap.size) (h1:PermIn 0 d.size d d') (h2:SortedIn (ltOf fun x y:Elt ks=>c7o os x.val y.val) 0 d.size d')
  (hw:w'=sortWorldK (fun x:Elt ks=>x.val) ks.length w blk 0 n d' bs):b6H os blk d w w':=by
 subst hw;have hsz:(putRowK (fun x:Elt ks=>x.val) ks.length (Sort.ahead w n) blk 0 d').heap.size=w.heap.size:=by
  unfold putRowK;rw [Sort.size_putRow];rfl
 have hat:∀b,b<w.heap.size→(sortWorldK (fun x:Elt ks=>x.val) ks.length w blk 0 n d' bs).heap[b]? =(putRowK (fun x:Elt ks=>x.val) ks.length (Sort.ahead w n) blk 0 d').heap[b]? :=fun b hb=>by
  unfold sortWorldK grow;exact Array.getElem?_append_left (by rw [hsz];exact hb)
 refine ⟨rfl,rfl,rfl,?_,fun b hb hne=> ?_,d',h1,h2,fun cur T fr hc=> ?_⟩
 ·unfold sortWorldK grow;rw [Array.size_append,hsz];omega
 ·rw [hat b hb]
  unfold putRowK putRow mapBlock;simp only [Array.getElem?_modify,Sort.ahead];rw [if_neg (Ne.symm hne)]
 ·refine ⟨putCells id 0 (flatK (fun x:Elt ks=>x.val) ks.length d') cur,?_,by simp [putCells],fun i hi j hj hin=> ?_⟩
  ·rw [hat blk hblk]
   unfold putRowK putRow mapBlock;simp only [Array.getElem?_modify,if_pos,Sort.ahead,hc,e6r,onCells]
  ·have hid:i<d'.size:=by rw [h1.1];exact hi
   have hlt:i*ks.length+j<d'.size*ks.length:=by
    have:=Nat.mul_le_mul_right ks.length (show i+1≤d'.size from hid);rw [Nat.add_mul,Nat.one_mul] at this;omega
   unfold putCells;rw [Array.getElem?_mapIdx,Array.getElem?_eq_getElem hin];simp only [e6r,Nat.zero_le,true_and,Nat.zero_add,Nat.sub_zero,size_flatK,id];rw [if_pos hlt,get_flatK _ _ _ _ hlt];have e1:(i*ks.length+j)/ks.length=i:=(blk_iff _ i _ hk0).1 ⟨by omega,by omega⟩
   have e2:(i*ks.length+j)%ks.length=j:=by rw [Nat.mod_eq_sub_div_mul,e1];omega
   rw [e1,e2];have hvl:(d'[i]!).val.length=ks.length:=(d'[i]!).property.length.symm;rw [List.getElem!_eq_getElem?_getD,e6j (by omega)]
   rfl
def c58 (k k':Nat):AL Obj→Option (AL Obj)
 | [(j,.row e ex nl xs)]=>bif Nat.beq j k then some [(k',.row e ex nl xs)] else none
 |(j,.box cs)::r=>bif !(Nat.beq j k)&& !(Nat.beq j k')&&cs.all (fun c=>(a2X c).isEmpty) then (match c58 k k' r with|some r'=>some ((j,.box cs)::r')|none=>none) else none
 |_=>none
def e3d (k k':Nat) (r:Res):Res:=
 match r.1,c58 k k' r.2 with
 | [.c (.o j)],some m=>bif Nat.beq j k then ([.c (.o k')],m) else r
 |_,_=>r
def e3e (k k':Nat) (alts:List (Bool×Res)):List (Bool×Res):=alts.map fun x=>(x.1,e3d k k' x.2)
theorem b3X {k k':Nat} (hne:k≠k'):∀{m m':AL Obj},c58 k k' m=some m'→
  (∃e ex nl xs,get m k=some (.row e ex nl xs)∧get m' k'=some (.row e ex nl xs))∧
  (∀j ob,get m' j=some ob→j≠k'→get m j=some ob∧j≠k∧ ∃cs,ob= .box cs∧ ∀c∈cs,a2X c=[])∧
  (∀j ob,get m j=some ob→j≠k→get m' j=some ob∧j≠k')
 | [],m',h=>by simp [c58] at h
 | (j,.row e ex nl xs)::[],m',h=>by
  simp only [c58,a0k] at h;by_cases hj:j=k
  ·subst hj
   simp only [decide_true,AM.cond_true rfl,e55] at h;subst h;refine ⟨⟨e,ex,nl,xs,by simp [get,a0k],by simp [get,a0k]⟩,fun i ob hg hi=> ?_,fun i ob hg hi=> ?_⟩
   ·exact absurd (a3b hg).1 hi
   ·exact absurd (a3b hg).1 hi
  ·simp [hj] at h
 |(j,.row e ex nl xs)::y::r,m',h=>by simp [c58] at h
 |(j,.map _ _ _)::r,m',h=>by simp [c58] at h
 |(j,.tab _ _ _)::r,m',h=>by simp [c58] at h
 |(j,.dat _ _)::r,m',h=>by simp [c58] at h
 |(j,.krow _ _ _ _ _)::r,m',h=>by simp [c58] at h
 | (j,.box cs)::r,m',h=>by
  simp only [c58,a0k] at h;cases hc: !(decide (j=k))&& !(decide (j=k'))&&cs.all (fun c=>(a2X c).isEmpty) with
  |false=>rw [hc] at h;cases h
  | true=>
   rw [hc] at h;simp only [AM.cond_true rfl] at h;split at h
   ·rename_i r' hr
    simp only [e55] at h;subst h;simp only [e57,Bool.not_eq_true',decide_eq_false_iff_not] at hc;obtain ⟨⟨h1,h2⟩,h3⟩:=hc;obtain ⟨⟨e,ex,nl,xs,g1,g2⟩,g3,g4⟩:=b3X hne hr;have hcs:∀c∈cs,a2X c=[]:=fun c hc=>by
     have:=List.all_eq_true.1 h3 c hc;simpa using this
    refine ⟨⟨e,ex,nl,xs,by simp [get,a0k,h1,g1],by simp [get,a0k,h2,g2]⟩,fun i ob hg hi=> ?_,fun i ob hg hi=> ?_⟩
    ·simp only [get,a0k] at hg⊢
     by_cases hji:j=i
     ·subst hji
      simp only [decide_true,AM.cond_true rfl,e55] at hg⊢;exact ⟨hg,h1,cs,hg.symm,hcs⟩
     ·simp only [decide_eq_false hji,AM.cond_false rfl] at hg⊢
      exact g3 i ob hg hi
    ·simp only [get,a0k] at hg⊢
     by_cases hji:j=i
     ·subst hji
      simp only [decide_true,AM.cond_true rfl,e55] at hg⊢;exact ⟨hg,h2⟩
     ·simp only [decide_eq_false hji,AM.cond_false rfl] at hg⊢
      exact g4 i ob hg hi
   ·cases h
theorem c5h {f:FuncId} {args:List V} {mem:AL Obj} {r:Res} {k k':Nat} (hne:k≠k') (hk':mem.length≤k') (h:a2z P f args mem r):a2z P f args mem (e3d k k' r):=by
 unfold e3d;split
 case h_2=>exact h
 rename_i j m hr1 hr2;cases hj:Nat.beq j k with
 |false=>exact h
 |true=>
 have hj:=e56 hj;subst hj;simp only [AM.cond_true rfl];obtain ⟨rs,m0⟩:=r;simp only at hr1 hr2;subst hr1;obtain ⟨⟨e,ex,nl,xs,g1,g2⟩,g3,g4⟩:=b3X hne hr2;intro B env w vs hpre hall;refine (h B env w vs hpre hall).mono ?_;rintro en w' ⟨v,he,env',M,hv⟩;have hu:∀i,i≠k'→upd env' k' (env' j) i=env' i:=fun i hi=>by simp [upd,hi]
 have hu':upd env' k' (env' j) k'=env' j:=by simp [upd]
 have hsub:∀i ob,get m i=some ob→ ∃i0,get m0 i0=some ob∧upd env' k' (env' j) i=env' i0∧(i=k'→i0=j)∧(i≠k'→i0=i∧i≠j):=by
  intro i ob hg;by_cases hi:i=k'
  ·subst hi
   rw [g2] at hg;exact ⟨j,by rw [g1,hg],hu',fun _=>rfl,fun h=>absurd rfl h⟩
  ·obtain ⟨q1,q2,_⟩:=g3 i ob hg hi
   exact ⟨i,q1,hu i hi,fun h=>absurd h hi,fun _=>⟨rfl,q2⟩⟩
 have hk:a0y w' (Sof P B (a3g P env mem) w.heap.size env' m0 w') w' (Sof P B (a3g P env mem) w.heap.size (upd env' k' (env' j)) m w'):=by
  intro b o u hS hc;refine ⟨⟨hS.1,hS.2.1,fun i ob hg hm=> ?_⟩,hc⟩
  obtain ⟨i0,q1,q2,_⟩:=hsub i ob hg;rw [q2] at hm;exact hS.2.2 i0 ob q1 hm
 refine ⟨v,he,upd env' k' (env' j),⟨M.hn0,?_,?_,?_,?_,M.ch,M.bb,?_,M.gi⟩,?_⟩
 ·intro i ob hg
  by_cases hi:i=k'
  ·subst hi
   rw [g2] at hg;cases hg;rw [hu'];obtain ⟨o1,o2|⟨o2,o3,cap,cur,o4,o5,o6,o7,o8,o9⟩⟩:=M.ob j _ g1
   ·exact ⟨o1,.inl o2⟩
   ·exact ⟨o1,.inr ⟨o2,o3,cap,cur,o4,o5,o6,o7,o8,fun a b c d1 d2=>(let ⟨u,u1,u2⟩:=o9 a b c d1 d2;⟨u,u1,u2.mono hk⟩)⟩⟩
  ·obtain ⟨q1,q2,cs,rfl,q4⟩:=g3 i ob hg hi
   rw [hu i hi];obtain ⟨cur,T,c1,c2,c3,c4⟩:=M.ob i _ q1;exact ⟨cur,T,c1,c2,c3.mono fun x y hx=>a0j.mono hk fun a ha=>(by rw [q4 x hx] at ha;cases ha),c4⟩
 ·intro i i' o o' hg hg' hr hr' hii
  obtain ⟨a,a1,a2,a3,a4⟩:=hsub i o hg;obtain ⟨a',b1,b2,b3,b4⟩:=hsub i' o' hg';rw [a2,b2];refine M.ds a a' o o' a1 b1 hr hr' ?_;by_cases h1:i=k'
  ·by_cases h2:i'=k'
   ·exact absurd (h1.trans h2.symm) hii
   ·rw [a3 h1,(b4 h2).1];exact fun h=>(b4 h2).2 h.symm
  ·by_cases h2:i'=k'
   ·rw [b3 h2,(a4 h1).1];exact (a4 h1).2
   ·rw [(a4 h1).1,(b4 h2).1];exact hii
 ·intro i o b x hg hm
  obtain ⟨a,a1,a2,_⟩:=hsub i o hg;rw [a2] at hm;exact M.mu a o b x a1 hm
 ·intro i e' ex' ys hg o ho
  obtain ⟨a,a1,a2,_⟩:=hsub i _ hg;rw [a2];exact M.pr a e' ex' ys a1 o ho
 ·intro i hi
  rw [hu i (by omega)]
  exact M.fx i hi
 ·have hv:v=(env' j).hdr:=hv
  show v=(upd env' k' (env' j) k').hdr;rw [hu'];exact hv
theorem c2W {k k':Nat}:∀{alts:List (Bool×Res)} {x:Res},a4v (e3e k k' alts) some=some x→ ∃y,a4v alts some=some y∧x=e3d k k' y
 | [],x,h=>by cases h
 |(c,y)::r,x,h=>by
  simp only [e3e,List.map_cons,a4v] at h⊢;cases c with
  |true=>simp only [AM.cond_true rfl,e55] at h⊢;exact ⟨y,rfl,h.symm⟩
  |false=>simp only [AM.cond_false rfl] at h⊢;exact c2W h
end
theorem Sg.fnR {P:Program} {cl:a0i} {kb f:Nat} (s:Sg P kb f) {sh:Sh} {A:List Lf→List (Bool×Res)} (k k':Nat) (hne:Nat.beq k k'=false) (hkb:Nat.ble kb k'=true) (hP:a3o P) (hcl:a0m P cl) (h:∀L x,a4v (A L) some=some x→bd P cl s.h f sh L=some x) (hk:∀L,(a16 sh L).mem.length=kb:=by intro L;rfl):c1d P f sh fun L=>e3e k k' (A L):=
 a7a fun L x hx=>(let ⟨y,h1,h2⟩:=c2W hx;h2▸c5h (fun he=>by rw [he,Nat.beq_refl] at hne;cases hne) (by rw [hk L];exact e6g hkb) (a86 (n:=200) hP hcl s.ok (hk L) (h L y h1)))
def bdK (P:Program) (cl:a0i) (h:a6Y) (kb:Nat) (f:FuncId) (sh:Sh) (L:List Lf):Option Res:=
 match P.funcs[f]? with
 |none=>none
 | some fn=>match fn.body with
  |none=>none
  |some c=>a32 P cl h kb 200 c {tmps:=params 0 (b1u (a16 sh L).tmps),mem:=(a16 sh L).mem} fun e st=>match e with
   | .exit _=>none
   |_=>b5i P fn h.rows kb st
theorem e0Y {P:Program} {cl:a0i} {h:a6Y} {f:FuncId} {sh:Sh} {L:List Lf} (kb:Nat) (hk:(a16 sh L).mem.length=kb):bd P cl h f sh L=bdK P cl h kb f sh L:=by
 subst hk;rfl
end Go.AM
namespace Go.AM
open Go
def d0C (k k':Nat) (r:Res):Res:=
 match r.1,c58 k k' r.2 with
 | [.g [.o j],.c (.i kk n)],some m=>bif Nat.beq j k then ([.g [.o k'],.c (.i kk n)],m) else r
 |_,_=>r
def d0D (k k':Nat) (alts:List (Bool×Res)):List (Bool×Res):=alts.map fun x=>(x.1,d0C k k' x.2)
section
variable {P:Program}
theorem c1j {f:FuncId} {args:List V} {mem:AL Obj} {r:Res} {k k':Nat} (hne:k≠k') (hk':mem.length≤k') (h:a2z P f args mem r):a2z P f args mem (d0C k k' r):=by
 unfold d0C;split
 case h_2=>exact h
 rename_i j kk n m hr1 hr2;cases hj:Nat.beq j k with
 |false=>exact h
 |true=>
 have hj:=e56 hj;subst hj;simp only [AM.cond_true rfl];obtain ⟨rs,m0⟩:=r;simp only at hr1 hr2;subst hr1;obtain ⟨⟨e,ex,nl,xs,g1,g2⟩,g3,g4⟩:=b3X hne hr2;intro B env w vs hpre hall;refine (h B env w vs hpre hall).mono ?_;rintro en w' ⟨v,he,env',M,hv⟩;have hu:∀i,i≠k'→upd env' k' (env' j) i=env' i:=fun i hi=>by simp [upd,hi]
 have hu':upd env' k' (env' j) k'=env' j:=by simp [upd]
 have hsub:∀i ob,get m i=some ob→ ∃i0,get m0 i0=some ob∧upd env' k' (env' j) i=env' i0∧(i=k'→i0=j)∧(i≠k'→i0=i∧i≠j):=by
  intro i ob hg;by_cases hi:i=k'
  ·subst hi
   rw [g2] at hg;exact ⟨j,by rw [g1,hg],hu',fun _=>rfl,fun h=>absurd rfl h⟩
  ·obtain ⟨q1,q2,_⟩:=g3 i ob hg hi
   exact ⟨i,q1,hu i hi,fun h=>absurd h hi,fun _=>⟨rfl,q2⟩⟩
 have hk:a0y w' (Sof P B (a3g P env mem) w.heap.size env' m0 w') w' (Sof P B (a3g P env mem) w.heap.size (upd env' k' (env' j)) m w'):=by
  intro b o u hS hc;refine ⟨⟨hS.1,hS.2.1,fun i ob hg hm=> ?_⟩,hc⟩
  obtain ⟨i0,q1,q2,_⟩:=hsub i ob hg;rw [q2] at hm;exact hS.2.2 i0 ob q1 hm
 refine ⟨v,he,upd env' k' (env' j),⟨M.hn0,?_,?_,?_,?_,M.ch,M.bb,?_,M.gi⟩,?_⟩
 ·intro i ob hg
  by_cases hi:i=k'
  ·subst hi
   rw [g2] at hg;cases hg;rw [hu'];obtain ⟨o1,o2|⟨o2,o3,cap,cur,o4,o5,o6,o7,o8,o9⟩⟩:=M.ob j _ g1
   ·exact ⟨o1,.inl o2⟩
   ·exact ⟨o1,.inr ⟨o2,o3,cap,cur,o4,o5,o6,o7,o8,fun a b c d1 d2=>(let ⟨u,u1,u2⟩:=o9 a b c d1 d2;⟨u,u1,u2.mono hk⟩)⟩⟩
  ·obtain ⟨q1,q2,cs,rfl,q4⟩:=g3 i ob hg hi
   rw [hu i hi];obtain ⟨cur,T,c1,c2,c3,c4⟩:=M.ob i _ q1;exact ⟨cur,T,c1,c2,c3.mono fun x y hx=>a0j.mono hk fun a ha=>(by rw [q4 x hx] at ha;cases ha),c4⟩
 ·intro i i' o o' hg hg' hr hr' hii
  obtain ⟨a,a1,a2,a3,a4⟩:=hsub i o hg;obtain ⟨a',b1,b2,b3,b4⟩:=hsub i' o' hg';rw [a2,b2];refine M.ds a a' o o' a1 b1 hr hr' ?_;by_cases h1:i=k'
  ·by_cases h2:i'=k'
   ·exact absurd (h1.trans h2.symm) hii
   ·rw [a3 h1,(b4 h2).1];exact fun h=>(b4 h2).2 h.symm
  ·by_cases h2:i'=k'
   ·rw [b3 h2,(a4 h1).1];exact (a4 h1).2
   ·rw [(a4 h1).1,(b4 h2).1];exact hii
 ·intro i o b x hg hm
  obtain ⟨a,a1,a2,_⟩:=hsub i o hg;rw [a2] at hm;exact M.mu a o b x a1 hm
 ·intro i e' ex' ys hg o ho
  obtain ⟨a,a1,a2,_⟩:=hsub i _ hg;rw [a2];exact M.pr a e' ex' ys a1 o ho
 ·intro i hi
  rw [hu i (by omega)]
  exact M.fx i hi
 ·obtain ⟨vs',q1,q2⟩:=(show∃vs':Array Value,v= .tuple vs'∧All2 (a4q P env' _ w') [.g [.o j],.c (.i kk n)] vs'.toList from hv)
  refine (show∃vs':Array Value,v= .tuple vs'∧All2 (a4q P (upd env' k' (env' j)) _ w') [.g [.o k'],.c (.i kk n)] vs'.toList from ⟨vs',q1,?_⟩);cases hl:vs'.toList with
  |nil=>rw [hl] at q2;exact q2.elim
  | cons u us=>
   rw [hl] at q2;obtain ⟨⟨cs,c1,c2⟩,q3⟩:=q2;refine ⟨⟨cs,c1,?_⟩,?_⟩
   ·cases hc:cs.toList with
    |nil=>rw [hc] at c2;exact c2.elim
    | cons x xs=>
     rw [hc] at c2;obtain ⟨d1,d2⟩:=c2;have d1:x=(env' j).hdr:=d1;refine ⟨?_,?_⟩
     ·show x=(upd env' k' (env' j) k').hdr
      rw [hu'];exact d1
     ·cases xs with
      |nil=>trivial
      |cons=>exact d2.elim
   ·cases us with
    |nil=>exact q3.elim
    |cons x xs=>
     refine ⟨q3.1,?_⟩;cases xs with
     |nil=>trivial
     |cons=>exact q3.2.elim
theorem b9p {k k':Nat}:∀{alts:List (Bool×Res)} {x:Res},a4v (d0D k k' alts) some=some x→ ∃y,a4v alts some=some y∧x=d0C k k' y
 | [],x,h=>by cases h
 |(c,y)::r,x,h=>by
  simp only [d0D,List.map_cons,a4v] at h⊢;cases c with
  |true=>simp only [AM.cond_true rfl,e55] at h⊢;exact ⟨y,rfl,h.symm⟩
  |false=>simp only [AM.cond_false rfl] at h⊢;exact b9p h
end
theorem Sg.fnR2 {P:Program} {cl:a0i} {kb f:Nat} (s:Sg P kb f) {sh:Sh} {A:List Lf→List (Bool×Res)} (k k':Nat) (hne:Nat.beq k k'=false) (hkb:Nat.ble kb k'=true) (hP:a3o P) (hcl:a0m P cl) (h:∀L x,a4v (A L) some=some x→bd P cl s.h f sh L=some x) (hk:∀L,(a16 sh L).mem.length=kb:=by intro L;rfl):c1d P f sh fun L=>d0D k k' (A L):=
 a7a fun L x hx=>(let ⟨y,h1,h2⟩:=b9p hx;h2▸c1j (fun he=>by rw [he,Nat.beq_refl] at hne;cases hne) (by rw [hk L];exact e6g hkb) (a86 (n:=200) hP hcl s.ok (hk L) (h L y h1)))
end Go.AM
namespace Go.AM
open Go Go.RowKit
variable {P:Program}
def c1k (ys:List Int):List D:=ys.map D.i
theorem d0E {env:Env} {S:a0A} {w:World} {e:TypeId} (hk:kinds P e=[.int .i64]) (ha:a0d P e=false) (hsz:a0a P e=1) {xs:List Int} {ex:Bool} {b cap:Nat} {cur:Array Value}
  (hrow:a72 w b cur e) (h1:xs.length≤cap) (h2:cap≤maxLen) (h3:cur.size=cap) (h4:∀(i:Nat) (x:Int),xs[i]? =some x→cur[i]? =some (Value.int .i64 x)):
  a0x P env S w ⟨b,0,some (xs.length,cap)⟩ (.row e ex false (c1k xs)):=by
 have hl:(c1k xs).length=xs.length:=by simp [c1k]
 refine ⟨by rw [hsz,hk];rfl,.inr ⟨rfl,rfl,cap,cur,by rw [hl];rfl,hrow,by rw [hl];exact h1,h2,by rw [hsz];omega,fun i j k hi hj=> ?_⟩⟩
 rw [hk] at hj;cases j with
 |succ j=>simp at hj
 | zero=>
  simp only [List.getElem?_cons_zero,e55] at hj;subst hj;rw [hl] at hi;have hx:=e6j hi;refine ⟨_,by rw [hsz,Nat.mul_one,Nat.add_zero];exact h4 i _ hx,?_⟩
  have:elD P e ((c1k xs).getD i (.i 0)) 0= .i xs[i]:=by
   unfold elD;rw [ha];simp [c1k,e6d,List.getElem?_map,hx]
  rw [this];exact .int _ (.i xs[i])
theorem c1l (zs:List Int):(Lib.compact zs).length≤zs.length:=by
 unfold Lib.compact Lib.compactUpTo;rw [List.length_map];exact Nat.le_trans (List.length_filter_le _ _) (by simp)
def a2s (xs:List D):List D:=c1k (Lib.compact (xs.map D.toI))
open Go.Sort in
theorem c5i {f:FuncId} {e:TypeId} (hk:kinds P e=[.int .i64]) (ha:a0d P e=false) (hsz:a0a P e=1)
  (h:∀(blk cap:Nat) (zs:List Int) (w:World),Holds (Value.int .i64) w blk 0 zs.toArray→zs.length≤9223372036854775807→zs.length≤cap→Calls P f #[.slice (some ⟨blk,0,none⟩) zs.length cap] w fun en w'=>
   en= .returned (.slice (some ⟨blk,0,none⟩) (Lib.compact zs).length cap)∧ ∃q,w'=putRow (Value.int .i64) (Sort.ahead w q) blk 0 (Lib.compact zs++List.replicate (zs.length-(Lib.compact zs).length) 0).toArray)
  {xs:List D}:a2z P f [.c (.o 0)] [(0,.row e true false xs)] ([.c (.o 1)],[(1,.row e true false (a2s xs))]):=by
 intro B env w vs hpre hall;obtain ⟨v1,hv,r1⟩:∃v1,vs.toList=[v1]∧a0s P env (Sof P B (a3g P env [(0,.row e true false xs)]) w.heap.size env [(0,.row e true false xs)] w) w (.c (.o 0)) v1:=by
  obtain ⟨v1,r,hr,r1,h2⟩:=a0B hall;obtain rfl:=a4C h2;exact ⟨v1,hr,r1⟩
 have hvs:vs= #[v1]:=by rw [←Array.toList_inj];exact hv
 subst hvs;obtain ⟨_,⟨hn,_⟩|⟨_,hbase,cap,cur,hhdr,hrow,h1,h2,h3,h4⟩⟩:=hpre.rel.ob 0 _ rfl
 ·cases hn
 have r1:v1=(env 0).hdr:=r1;rw [hhdr] at r1;subst r1;rw [hsz,Nat.mul_one] at h3;obtain ⟨zs,hzs⟩:∃zs:List Int,zs=xs.map D.toI:=⟨_,rfl⟩;have hzl:zs.length=xs.length:=by rw [hzs];simp
 have hcell:∀i (hi:i<zs.length),cur[i]? =some (Value.int .i64 zs[i]):=by
  intro i hi;obtain ⟨u,hu,hr⟩:=h4 i 0 (.int .i64) (by omega) (by rw [hk];rfl)
  rw [hsz,Nat.mul_one,Nat.add_zero] at hu;unfold elD at hr;rw [ha] at hr;simp only [AM.cond_false rfl] at hr;have hx:xs.getD i (.i 0)=xs[i]'(by omega):=by rw [e6d,e6j (by omega)];rfl
  have hz:zs[i]=(xs.getD i (.i 0)).toI:=by rw [hx];subst hzs;simp
  rw [hu,hz];generalize xs.getD i (.i 0)=d at hr;cases hr;rfl
 obtain ⟨fr,hfr,hheap⟩:=hrow;have hH:Holds (Value.int .i64) w (env 0).blk 0 zs.toArray:=by
  intro j hj;have hj:j<zs.length:=by simpa using hj
  have hget:(zs.toArray)[j]! =zs[j]:=by simp [hj]
  refine ⟨?_,?_⟩
  ·rw [Nat.zero_add,hget]
   exact a2Y hheap (hcell j hj)
  ·unfold World.frozen?
   simp only [hheap];rcases hfr with rfl|hfr
   ·simp
   ·simp;omega
 have hle:=c1l zs;have hc:=h (env 0).blk cap zs w hH (by rw [hzl];exact Nat.le_trans h1 (Nat.le_trans h2 (by decide))) (by rw [hzl];exact h1)
 rw [hzl] at hc;refine hc.mono ?_;rintro en w' ⟨he,q,hw⟩;have hLe:a2s xs=c1k (Lib.compact zs):=by rw [hzs];rfl
 rw [hLe];generalize hL:Lib.compact zs=L at*
 refine ⟨_,he,upd env 1 ⟨(env 0).blk,0,some (L.length,cap)⟩,?_,?_⟩
 ·have hblk:∃cur':Array Value,w'.heap[(env 0).blk]? =some (.cells cur' e fr)∧cur'.size=cur.size∧ ∀(i:Nat) (x:Int),L[i]? =some x→cur'[i]? =some (Value.int .i64 x):=by
   rw [hw];refine ⟨putCells (Value.int .i64) 0 (L++List.replicate (xs.length-L.length) 0).toArray cur,?_,?_,?_⟩
   ·unfold putRow mapBlock
    simp only [Array.getElem?_modify,if_pos,Sort.ahead,hheap,e6r,onCells]
   ·simp [putCells]
   ·intro i x hx
    have hi:=(e6h.1 hx).1;have hic:i<cur.size:=by omega
    unfold putCells;rw [Array.getElem?_mapIdx,Array.getElem?_eq_getElem hic];simp only [e6r,e55,Nat.zero_le,true_and,Nat.zero_add,Nat.sub_zero];rw [if_pos (by simp;omega)]
    congr 1
    have he2:=(e6h.1 hx).2;simp [List.getElem?_append,hi];exact he2
  have hother:∀b:Nat,b≠(env 0).blk→w'.heap[b]? =w.heap[b]? :=by
   intro b hb;rw [hw];unfold putRow mapBlock;simp only [Array.getElem?_modify,Sort.ahead];rw [if_neg (Ne.symm hb)]
  obtain ⟨cur',c1,c2,c3⟩:=hblk;have hM:∀o,a3g P env [(0,.row e true false xs)] (env 0).blk o:=fun o=>⟨0,_,rfl,rfl,rfl,.inl rfl⟩
  have hup:upd env 1 ⟨(env 0).blk,0,some (L.length,cap)⟩ 1=⟨(env 0).blk,0,some (L.length,cap)⟩:=by simp [upd]
  refine ⟨rfl,?_,?_,?_,?_,?_,hpre.rel.bb,?_,hpre.rel.gi⟩
  ·intro k o hg
   obtain ⟨rfl,rfl⟩:=a3b hg;rw [hup];exact d0E hk ha hsz ⟨fr,by rw [c2];exact hfr,c1⟩ (by omega) h2 (by rw [c2];exact h3) c3
  ·intro k k' o o' hg hg' _ _ hne
   exact absurd ((a3b hg).1.trans (a3b hg').1.symm) hne
  ·intro k o b' x hg hm
   obtain ⟨rfl,rfl⟩:=a3b hg;rw [hup] at hm;obtain ⟨_,rfl,_⟩:=hm;exact .inl (hM x)
  ·intro k e' ex ys hg o _
   obtain ⟨rfl,_⟩:=a3b hg;rw [hup];exact .inr (.inr (hM o))
  ·refine ⟨by rw [hw];rfl,by rw [hw];rfl,by rw [hw];rfl,by rw [hw];simp [putRow,mapBlock,Sort.ahead],?_,?_⟩
   ·intro b c T fr' hb
    by_cases hbb:b=(env 0).blk
    ·subst hbb
     rw [hheap] at hb;cases hb;exact ⟨cur',fr,c1,c2,fun o ho=>absurd (hM o) ho,.inl rfl⟩
    ·exact ⟨c,fr',by rw [hother b hbb];exact hb,rfl,fun _ _=>rfl,.inl rfl⟩
   ·intro b ob hb hno
    by_cases hbb:b=(env 0).blk
    ·subst hbb;exact absurd (hM 0) (hno 0)
    ·rw [hother b hbb];exact hb
  ·intro k hk'
   have:k=0:=by simpa using hk'
   subst this;simp [upd]
 ·show _=a1J.hdr _
  simp [upd,a1J.hdr]
open Go.Sort Go.Shelf Go.Proofs in
theorem c5j {ks:List CK} (hk:ks.length=1) {d:Array (Elt ks)} {w:World} {blk:Nat} (h:HoldsK (fun x:Elt ks=>x.val) ks.length w blk 0 d):Holds (fun x:Elt ks=>x.val.getD 0 undef) w blk 0 d:=by
 intro j hj;have h':=h j (by rw [size_flatK,hk];omega)
 rw [get_flatK _ _ _ _ (by rw [hk];omega),hk,Nat.div_one,Nat.mod_one] at h'
 have hv:(d[j]!).val.length=1:=by rw [←hk];exact (d[j]!).property.length.symm
 refine ⟨h'.1.trans (congrArg some ?_),h'.2⟩;show ((d[j]!).val)[0]! =(d[j]!).val.getD 0 undef;match (d[j]!).val,hv with
 | [v],_=>rfl
open Go.Sort Go.Shelf Go.Proofs in
theorem c5k {ks:List CK} {os:a4j} {blk:Nat} {d d':Array (Elt ks)} {w w':World} {n:Nat} {bs:Array Go.Obj} (hk:ks.length=1) (hblk:blk<w.heap.size) (h1:PermIn 0 d.size d d') (h2:SortedIn (ltOf fun x y:Elt ks=>c7o os x.val y.val) 0 d.size d')
  (hw:w'=sortWorld (fun x:Elt ks=>x.val.getD 0 undef) w blk 0 n d' bs):b6H os blk d w w':=by
 refine c5g (n:=n) (bs:=bs) (by omega) hblk h1 h2 ?_
 rw [hw];unfold sortWorld sortWorldK putRowK putRow;have e:putCells (fun x:Elt ks=>x.val.getD 0 undef) 0 d'=putCells id 0 (flatK (fun x:Elt ks=>x.val) ks.length d'):=by
  funext cur
  unfold putCells;congr 1
  funext i v
  rw [size_flatK,hk,Nat.mul_one];by_cases hi:0≤i∧i<0+d'.size
  ·rw [if_pos hi,if_pos hi,get_flatK _ _ _ _ (by omega),Nat.div_one,Nat.mod_one]
   have hv:(d'[i-0]!).val.length=1:=by rw [←hk];exact (d'[i-0]!).property.length.symm
   show (d'[i-0]!).val.getD 0 undef=((d'[i-0]!).val)[0]!;match (d'[i-0]!).val,hv with
   | [v],_=>rfl
  ·rw [if_neg hi,if_neg hi]
 rw [e]
end Go.AM
namespace Go.AM
open Go
theorem bb {A R:Type} {z:Option R} {u:Option A} {K:A→Option R} (h:z=u.bind K:=by repeat' (first|with_reducible apply a6a|(with_reducible apply b1M;intro _)|rfl)):z=u.bind K:=h
theorem kk {A R:Type} {x:R} {k:A→R} {a:A} (h:x=k a:=by repeat' (first|rfl|apply e0T|(apply e3J;intro _))):x=k a:=h
abbrev cI:HV:= .c (.i .i64)
abbrev cB:HV:= .c .b
abbrev cS:HV:= .c .s
abbrev cP (k:Nat):HV:= .c (.p k 0)
abbrev cL (e:Nat):HV:= .c (.sl e)
abbrev cO (k:Nat):HV:= .c (.o k)
structure Oc (P:Program) where
 o:a0i
 ok:a0m P o
 pr:a3o P
section
variable {P:Program} {kb f:Nat}
def Oc.x (c:Oc P) {f:FuncId} {sh:Sh} {A:List Lf→List (Bool×Res)} (h:c1d P f sh A) (he:a6G P f=true:=by kernel_rfl):Oc P:=⟨ext f (e3b sh A) c.o,h.to c.ok he,c.pr⟩
def Oc.no (h:a3o P):Oc P:=⟨b6t,b3M,h⟩
section
variable {X:Ctx} {Fs:a1e} (s:Sg P kb f X Fs) (c:Oc P)
abbrev Kt (T:Type):=St→(AL V→AL Obj→St)→List Lf→T→Ex×St
def Kt.at {T:Type} (K:Kt T) (sh:Sh) (a b:List Nat) (L:List Lf):T→Ex×St:=K (a16 sh L) (fun x y=>mg (a16 sh L) a x b y) L
section
variable (id n:Nat) (a b:List Nat) (sh:Sh) {T0 T1 T2 T3:Type}
def Sg.c0 (J:List Lf→(R:Type)→(T0→R)→R) (K:Kt T0) (ht:∀L (k:T0→Option (Ex×St)),J L _ k=k (J L _ fun p=>p))
  (raw:∀L,pc P c.o s.h kb n f id sh L a b=J L _ (fun p=>some (K.at sh a b L p)):=by intro L;kernel_rfl)
  (h1:b45 P f id=true:=by kernel_rfl) (hfs:a6e Fs (a0S P f id):=by first|exact fsW _|exact fsA (by kernel_rfl)):Sg P kb f X Fs:=
 s.cut (fun L=>bnd (J L _ fun p=>p) fun q=>[(true,K.at sh a b L q)]) c.pr c.ok (fun L x hx=>(raw L).trans ((ht L _).trans (e5g _ _ hx))) h1 hfs
def Sg.c1 [Inhabited T0] (J:List Lf→(R:Type)→(T0→Option R)→Option R) (K:Kt T0) (hb:∀L (k:T0→Option (Ex×St)),J L _ k=(J L _ fun p=>some p).bind k)
  (raw:∀L,pc P c.o s.h kb n f id sh L a b=J L _ (fun p=>some (K.at sh a b L p)):=by intro L;kernel_rfl)
  (h1:b45 P f id=true:=by kernel_rfl) (hfs:a6e Fs (a0S P f id):=by first|exact fsW _|exact fsA (by kernel_rfl)):Sg P kb f X Fs:=
 s.cut (fun L=>bnd (J L _ fun p=>some p) fun q=>[(q.isSome,K.at sh a b L (q.getD default))]) c.pr c.ok (fun L x hx=>(raw L).trans ((hb L _).trans (b8i x hx))) h1 hfs
def Sg.c2 [Inhabited T0] [Inhabited T1] (J:List Lf→(R:Type)→(T0→Option R)→(T1→Option R)→Option R) (K0:Kt T0) (K1:Kt T1)
  (hb:∀L (k0:T0→Option (Ex×St)) k1,J L _ k0 k1=(J L (Sum T0 T1) (fun p=>some (.inl p)) (fun p=>some (.inr p))).bind (b6B k0 k1))
  (raw:∀L,pc P c.o s.h kb n f id sh L a b=J L _ (fun p=>some (K0.at sh a b L p)) (fun p=>some (K1.at sh a b L p)):=by intro L;kernel_rfl)
  (h1:b45 P f id=true:=by kernel_rfl) (hfs:a6e Fs (a0S P f id):=by first|exact fsW _|exact fsA (by kernel_rfl)):Sg P kb f X Fs:=
 s.cut (fun L=>bnd (J L (Sum T0 T1) (fun p=>some (.inl p)) (fun p=>some (.inr p))) fun q=>[(a0U q,K0.at sh a b L (a1E q)),((a0n q).isSome,K1.at sh a b L ((a0n q).getD default))])
  c.pr c.ok (fun L x hx=>(raw L).trans ((hb L _ _).trans ((c57 b8i) x hx))) h1 hfs
def Sg.c3 [Inhabited T0] [Inhabited T1] [Inhabited T2] (J:List Lf→(R:Type)→(T0→Option R)→(T1→Option R)→(T2→Option R)→Option R) (K0:Kt T0) (K1:Kt T1) (K2:Kt T2)
  (hb:∀L (k0:T0→Option (Ex×St)) k1 k2,J L _ k0 k1 k2=(J L (Sum T0 (Sum T1 T2)) (fun p=>some (.inl p)) (fun p=>some (.inr (.inl p))) (fun p=>some (.inr (.inr p)))).bind (b6B k0 (b6B k1 k2)))
  (raw:∀L,pc P c.o s.h kb n f id sh L a b=J L _ (fun p=>some (K0.at sh a b L p)) (fun p=>some (K1.at sh a b L p)) (fun p=>some (K2.at sh a b L p)):=by intro L;kernel_rfl)
  (h1:b45 P f id=true:=by kernel_rfl) (hfs:a6e Fs (a0S P f id):=by first|exact fsW _|exact fsA (by kernel_rfl)):Sg P kb f X Fs:=
 s.cut (fun L=>bnd (J L (Sum T0 (Sum T1 T2)) (fun p=>some (.inl p)) (fun p=>some (.inr (.inl p))) (fun p=>some (.inr (.inr p)))) fun q=>[(a0U q,K0.at sh a b L (a1E q)),(a0U (a0n q),K1.at sh a b L (a1E (a0n q))),((a0n (a0n q)).isSome,K2.at sh a b L ((a0n (a0n q)).getD default))])
  c.pr c.ok (fun L x hx=>(raw L).trans ((hb L _ _ _).trans ((c57 (c57 b8i)) x hx))) h1 hfs
end
section
variable (id:Nat) (vs a b:List Nat) (sh:Sh) {T0 T1:Type} (N:Nat)
def Sg.l1 [Inhabited T0] (J:List Lf→List Lf→(R:Type)→(List Lf→Option R)→(T0→Option R)→Option R) (Q:List Lf→Nat→List Lf→Option T0) (K:Kt T0)
  (sb:∀L x (R:Type) (kr:List Lf→Option R) k0,J L x _ kr k0=(J L x (Sum (List Lf) T0) (fun y=>some (.inl y)) (fun p=>some (.inr p))).bind (b6B kr k0))
  (step:∀m kn L x,lpB P c.o s.h kb f id sh vs a b (m+100) kn L x=J L x _ (fun y=>kn (a16 sh (mx sh vs L y))) (fun p=>some (K.at sh a b L p)):=by intro m kn L x;kernel_rfl)
  (ql:∀L m x,Q L (m+1) x=J L x _ (Q L m) some:=by intro L m x;kernel_rfl)
  (h1:b45 P f id=true:=by kernel_rfl) (hlp:a0S P f id= .loop (a87 (a0S P f id)):=by kernel_rfl) (hnl:a8M s.h (.loop (a87 (a0S P f id)))=none:=by kernel_rfl) (hid:3*a1X (a87 (a0S P f id))=id:=by kernel_rfl)
  (hc:∀L,a3D P kb s.h.loops id (a16 sh L)=a16 sh L:=by intro L;kernel_rfl) (h0:∀L,a16 sh L=a16 sh (mx sh vs L (pk sh vs L)):=by intro L;kernel_rfl)
  (q0:∀L x,Q L 0 x=none:=by intro L x;rfl) (hfs:a6e Fs (a0S P f id):=by first|exact fsW _|exact fsA (by kernel_rfl)):Sg P kb f X Fs:=
 s.lp (sh:=sh) (vs:=vs) (a:=a) (b:=b) (fun L=>bnd (Q L N (pk sh vs L)) fun q=>[(q.isSome,K.at sh a b L (q.getD default))]) N c.pr c.ok (fun m kn L x=>(step m kn L x).trans (sb L x _ _ _)) (fun L m x=>(ql L m x).trans (sb L x _ (Q L m) some)) (fun L x hx=>b8i x hx)
  h1 hlp hnl hid hc h0 q0 (fun _=>rfl) hfs
def Sg.l2 [Inhabited T0] [Inhabited T1] (J:List Lf→List Lf→(R:Type)→(List Lf→Option R)→(T0→Option R)→(T1→Option R)→Option R) (Q:List Lf→Nat→List Lf→Option (Sum T0 T1)) (K0:Kt T0) (K1:Kt T1)
  (sb:∀L x (R:Type) (kr:List Lf→Option R) k0 k1,J L x _ kr k0 k1=(J L x (Sum (List Lf) (Sum T0 T1)) (fun y=>some (.inl y)) (fun p=>some (.inr (.inl p))) (fun p=>some (.inr (.inr p)))).bind (b6B kr (b6B k0 k1)))
  (step:∀m kn L x,lpB P c.o s.h kb f id sh vs a b (m+100) kn L x=J L x _ (fun y=>kn (a16 sh (mx sh vs L y))) (fun p=>some (K0.at sh a b L p)) (fun p=>some (K1.at sh a b L p)):=by intro m kn L x;kernel_rfl)
  (ql:∀L m x,Q L (m+1) x=J L x (Sum T0 T1) (Q L m) (fun p=>some (.inl p)) (fun p=>some (.inr p)):=by intro L m x;kernel_rfl)
  (h1:b45 P f id=true:=by kernel_rfl) (hlp:a0S P f id= .loop (a87 (a0S P f id)):=by kernel_rfl) (hnl:a8M s.h (.loop (a87 (a0S P f id)))=none:=by kernel_rfl) (hid:3*a1X (a87 (a0S P f id))=id:=by kernel_rfl)
  (hc:∀L,a3D P kb s.h.loops id (a16 sh L)=a16 sh L:=by intro L;kernel_rfl) (h0:∀L,a16 sh L=a16 sh (mx sh vs L (pk sh vs L)):=by intro L;kernel_rfl)
  (q0:∀L x,Q L 0 x=none:=by intro L x;rfl) (hfs:a6e Fs (a0S P f id):=by first|exact fsW _|exact fsA (by kernel_rfl)):Sg P kb f X Fs:=
 s.lp (sh:=sh) (vs:=vs) (a:=a) (b:=b) (fun L=>bnd (Q L N (pk sh vs L)) fun q=>[(a0U q,K0.at sh a b L (a1E q)),((a0n q).isSome,K1.at sh a b L ((a0n q).getD default))]) N c.pr c.ok
  (fun m kn L x=>(step m kn L x).trans (sb L x _ _ _ _)) (fun L m x=>(ql L m x).trans (sb L x _ (Q L m) _ _)) (fun L x hx=>(c57 b8i) x hx)
  h1 hlp hnl hid hc h0 q0 (fun p=>by rcases p with p|p<;>rfl) hfs
end
end
section
variable (s:Sg P kb f) (c:Oc P) (sh:Sh) {T0 T1:Type}
def Sg.f0 (J:List Lf→(R:Type)→(T0→R)→R) (K:List Lf→T0→Res) (ht:∀L (k:T0→Option Res),J L _ k=k (J L _ fun p=>p))
  (raw:∀L,bd P c.o s.h f sh L=J L _ (fun p=>some (K L p)):=by intro L;kernel_rfl) (hk:∀L,(a16 sh L).mem.length=kb:=by intro L;rfl) (he:a6G P f=true:=by kernel_rfl):Oc P:=
 c.x (s.fn (A:=fun L=>bnd (J L _ fun p=>p) fun q=>[(true,K L q)]) c.pr c.ok (fun L x hx=>(raw L).trans ((ht L _).trans (e5g _ _ hx))) hk) he
def Sg.f1 [Inhabited T0] (J:List Lf→(R:Type)→(T0→Option R)→Option R) (K:List Lf→T0→Res) (hb:∀L (k:T0→Option Res),J L _ k=(J L _ fun p=>some p).bind k)
  (raw:∀L,bd P c.o s.h f sh L=J L _ (fun p=>some (K L p)):=by intro L;kernel_rfl) (hk:∀L,(a16 sh L).mem.length=kb:=by intro L;rfl) (he:a6G P f=true:=by kernel_rfl):Oc P:=
 c.x (s.fn (A:=fun L=>bnd (J L _ fun p=>some p) fun q=>[(q.isSome,K L (q.getD default))]) c.pr c.ok (fun L x hx=>(raw L).trans ((hb L _).trans (b8i x hx))) hk) he
def Sg.f2 [Inhabited T0] [Inhabited T1] (J:List Lf→(R:Type)→(T0→Option R)→(T1→Option R)→Option R) (K0:List Lf→T0→Res) (K1:List Lf→T1→Res)
  (hb:∀L (k0:T0→Option Res) k1,J L _ k0 k1=(J L (Sum T0 T1) (fun p=>some (.inl p)) (fun p=>some (.inr p))).bind (b6B k0 k1))
  (raw:∀L,bd P c.o s.h f sh L=J L _ (fun p=>some (K0 L p)) (fun p=>some (K1 L p)):=by intro L;kernel_rfl) (hk:∀L,(a16 sh L).mem.length=kb:=by intro L;rfl) (he:a6G P f=true:=by kernel_rfl):Oc P:=
 c.x (s.fn (A:=fun L=>bnd (J L (Sum T0 T1) (fun p=>some (.inl p)) (fun p=>some (.inr p))) fun q=>[(a0U q,K0 L (a1E q)),((a0n q).isSome,K1 L ((a0n q).getD default))]) c.pr c.ok (fun L x hx=>(raw L).trans ((hb L _ _).trans ((c57 b8i) x hx))) hk) he
end
end
end Go.AM
namespace Go.Proofs.YtcdhfpkfmekabaaGreatDoor
open Go Go.AM
theorem a6d:a3o Tryz.prog:=c66 (by kernel_rfl)
def lkC:Code:=a0S Tryz.prog 113 300000004
def d5E:Code→Code| .seq a _=>a|c=>c
def d0F:Code→Code| .seq _ b=>b|c=>c
def e3Q:Code→Code| .block _ b=>b| .loop b=>b| .cond _ a _=>a|c=>c
def d5F:Code→List Oper| .region _ ops _=>ops.toList|_=>[]
def d5G:List Oper:=d5F (d5E lkC)
def lkL:Code:=e3Q (e3Q (d0F lkC))
def d5H:List Oper:=d5F (d5E lkL)
def lkB:Code:=e3Q (d0F (d0F lkL))
def d4m:List Oper:=d5F (d5E lkB)
def lkT:Code:=d0F lkB
theorem d4n:lkC= .seq (.region 1 d5G.toArray false) (.block 0 (.loop (.seq (.region 2 d5H.toArray false) (.seq (.cond (.tmp 16) .skip (.exit 0)) (.block 1 (.seq (.region 3 d4m.toArray false) lkT)))))):=by kernel_rfl
def lk1 (i:Nat):Oper:=d5G.getD i default
def lk2 (i:Nat):Oper:=d5H.getD i default
def lk3 (i:Nat):Oper:=d4m.getD i default
theorem d5I:d5G=[lk1 0,lk1 1,lk1 2,lk1 3,lk1 4,lk1 5,lk1 6,lk1 7,lk1 8]:=by kernel_rfl
theorem c7u:d5H=[lk2 0,lk2 1]:=by kernel_rfl
theorem d5J:d4m=[lk3 0,lk3 1,lk3 2,lk3 3,lk3 4]:=by kernel_rfl
theorem e5B:(lk1 0).op= .makeMap 228 none∧(lk1 0).dst=some 9∧(lk1 0).guard=none:=⟨by kernel_rfl,by kernel_rfl,by kernel_rfl⟩
theorem e5C:(lk1 2).op= .insert 228 (.tmp 9) (.const (.int .i64 1)) (.tmp 10)∧(lk1 2).dst=none∧(lk1 2).guard=none:=⟨by kernel_rfl,by kernel_rfl,by kernel_rfl⟩
theorem e5D:(lk1 4).op= .insert 228 (.tmp 9) (.const (.int .i64 2)) (.tmp 11)∧(lk1 4).dst=none∧(lk1 4).guard=none:=⟨by kernel_rfl,by kernel_rfl,by kernel_rfl⟩
theorem e5E:(lk1 6).op= .insert 228 (.tmp 9) (.const (.int .i64 3)) (.tmp 12)∧(lk1 6).dst=none∧(lk1 6).guard=none:=⟨by kernel_rfl,by kernel_rfl,by kernel_rfl⟩
theorem e5F:(lk1 8).op= .range 228 (.tmp 13)∧(lk1 8).dst=some 14∧(lk1 8).guard=none:=⟨by kernel_rfl,by kernel_rfl,by kernel_rfl⟩
theorem e3R:(lk2 0).op= .next (.tmp 14) false∧(lk2 0).dst=some 15∧(lk2 0).guard=none:=⟨by kernel_rfl,by kernel_rfl,by kernel_rfl⟩
theorem e5G:(lk3 0).op= .entry (.tmp 14)∧(lk3 0).dst=some 17∧(lk3 0).guard=none:=⟨by kernel_rfl,by kernel_rfl,by kernel_rfl⟩
theorem noG {l:List Oper} (h:(l.all fun o=>o.guard.isNone)=true) {o:Oper} (ho:o∈l):o.guard=none:=Option.isNone_iff_eq_none.1 (List.all_eq_true.1 h o ho)
theorem e5H:(d5G.all fun o=>o.guard.isNone)=true:=by kernel_rfl
theorem e5I:(d5H.all fun o=>o.guard.isNone)=true:=by kernel_rfl
theorem e5J:(d4m.all fun o=>o.guard.isNone)=true:=by kernel_rfl
theorem lkU:Tryz.prog.underlying 228=some (.map 3 227):=by kernel_rfl
theorem e5j:Tryz.prog.underlying 3=some (.int .i64):=by kernel_rfl
def a3c (L:List Lf) (p q s:Int):AL AM.Obj:=[(2,.box [.b (lb L 0),.b (lb L 1),.b (lb L 2),.b (lb L 3),.b (lb L 4),.sl 3 (lb L 5) (ll L 6),.b (lb L 7),.b (lb L 8)]),
 (3,.box [.i .i64 (li L 9),.i .i64 (li L 10),.i .i64 (li L 11),.i .i64 (li L 12),.i .i64 p,.i .i64 q,.i .i64 s]),
 (4,.box [.i .i64 (li L 16),.i .i64 (li L 17),.i .i64 (li L 18),.i .i64 (li L 19),.i .i64 (li L 20),.i .i64 (li L 21),.i .i64 (li L 22)])]
def d5K:AL V:=[(2,.c (.p 2 0)),(3,.c (.p 3 0)),(4,.c (.p 4 0))]
def c2X:Sh:={tmps:=[(2,.c (.p 2 0)),(3,.c (.p 3 0)),(4,.c (.p 4 0))],mem:=[(2,.box (rB 5 ([.sl 3,.b,.b]))),(3,.box (rI 7 ([]))),(4,.box (rI 7 ([])))]}
theorem c7v (L:List Lf):a16 c2X L=⟨d5K,a3c L (li L 13) (li L 14) (li L 15)⟩:=by kernel_rfl
def mis (f:Bool) (x:Int):Int:=bif f then-1 else x
def d5L (L:List Lf):List (Bool×(Ex×St)):=[(true,(.normal,⟨d5K,a3c L (mis (lb L 1) (li L 13)) (mis (lb L 2) (li L 14)) (mis (lb L 3) (li L 15))⟩))]
def cl0:a0i:=fun _ _ _=>none
def c7w (L:List Lf) (p q s:Int) (rb:Nat):St:=⟨d5K++[(14,.c (.v (.pointer (some ⟨rb,0,none⟩))))],a3c L p q s⟩
def b9q (L:List Lf) (p q s:Int) (rb i:Nat):St:=⟨d5K++[(5,.c (.i .i64 i)),(6,.c (.p 3 (3+i))),(14,.c (.v (.pointer (some ⟨rb,0,none⟩))))],a3c L p q s⟩
def lkK (e:Ex) (st:St):Option (Ex×St):=some (e,a3N [2,3,4,14] [2,3,4] st)
theorem c2Y (L:List Lf) (p q s:Int) (rb:Nat):a32 Tryz.prog cl0 {} 1000 50 lkT (b9q L p q s rb 1) lkK=bif lb L 1 then some (.normal,c7w L (-1) q s rb) else some (.normal,c7w L p q s rb):=by kernel_rfl
theorem c2Z (L:List Lf) (p q s:Int) (rb:Nat):a32 Tryz.prog cl0 {} 1000 50 lkT (b9q L p q s rb 2) lkK=bif lb L 2 then some (.normal,c7w L p (-1) s rb) else some (.normal,c7w L p q s rb):=by kernel_rfl
theorem c20 (L:List Lf) (p q s:Int) (rb:Nat):a32 Tryz.prog cl0 {} 1000 50 lkT (b9q L p q s rb 3) lkK=bif lb L 3 then some (.normal,c7w L p q (-1) rb) else some (.normal,c7w L p q s rb):=by kernel_rfl
theorem d4o:a0m Tryz.prog cl0:=fun _ _ _ _ h=>by cases h
theorem d5M {hs:a6Y} (h:hs.los=[]) {kb:Nat} {b:Code}:b44 Tryz.prog hs kb b:=by
 intro id f hl;unfold a8M at hl;rw [h] at hl;split at hl
 ·cases hl
 ·simp [AM.get] at hl
def e3S:V→Bool| .w .. =>false|_=>true
theorem e0Z {st:St} (h:(st.tmps.all fun x=>e3S x.2)=true):NoW st:=by
 intro t x hx s b y he;subst he;have:∀(l:AL V),(l.all fun x=>e3S x.2)=true→AM.get l t≠some (.w s b y):=by
  intro l;induction l with
  |nil=>intro _ h;cases h
  |cons e r ih=>
   obtain ⟨k,v⟩:=e;intro hl hg;simp only [List.all_cons,e57] at hl;simp only [AM.get] at hg;cases hk:Nat.beq k t with
   |true=>rw [hk] at hg;simp only [AM.cond_true rfl,e55] at hg;subst hg;exact absurd hl.1 (by simp [e3S])
   |false=>rw [hk] at hg;exact ih hl.2 hg
 exact this _ h hx
theorem b9r {w:World} {b:Nat} {o:Go.Obj}:w.grownBy {w with heap:=w.heap.setIfInBounds b o} (some b):=
 ⟨rfl,rfl,rfl,by simp,fun k hk hne=>by
  show (w.heap.setIfInBounds b o)[k]? =_;rw [Array.getElem?_setIfInBounds,if_neg (fun e=>hne (by rw [e]))]⟩
theorem c5l {w w1:World} {b:Nat} {o:Go.Obj} (h:w1=w∨w1=w.drew):w.grownBy (ChangeMaps.setBlock w1 b o) (some b):=by
 rcases h with rfl|rfl
 ·exact b9r
 ·exact ⟨rfl,rfl,rfl,by show w.heap.size≤(w.heap.setIfInBounds b o).size;simp,fun k hk hne=>by
   show (w.heap.setIfInBounds b o)[k]? =_;rw [Array.getElem?_setIfInBounds,if_neg (fun e=>hne (by rw [e]))]⟩
theorem d5N {w:World} {mb clock:Nat} {es:Array MapEntry} {k:Int} {v:Value} (hb:w.heap[mb]? =some (.map es clock)) (hf:Instr.findNow (.int .i64) (.int .i64 k) es.toList 0=some none):
  (Instr.mapUpdate 228 (.map (some mb)) (.int .i64 k) v).run Tryz.prog w= .ok () {w with heap:=w.heap.setIfInBounds mb (.map (es.push {key:= .int .i64 k,val:=v,born:=clock}) (clock+1))}:=by
 have hc:(Instr.checkKey false 10000 3 (.int .i64 k)).run Tryz.prog w= .ok () w:=MapKept.run_checkKey (k:= .int .i64 k) e5j (by simp [MapKept.IsKey]) false 9999
 simp [Instr.mapUpdate,run_underlying lkU,MapKept.run_getObj_map hb,hc,MapKept.run_findKey e5j hf,MapKept.run_setObj_map _ hb,Result.andThen]
def lkE (s:a1J) (i:Nat):MapEntry:={key:= .int .i64 (i+1),val:= .pointer (some ⟨s.blk,s.base+(4+i),none⟩),born:=i}
def b6I (s:a1J):Array MapEntry:= #[lkE s 0,lkE s 1,lkE s 2]
theorem d4p {s:a1J} {e:MapEntry} (h:e∈(b6I s).toList):∃i,i<3∧e=lkE s i:=by
 simp only [b6I,e6k,List.not_mem_nil,or_false] at h;rcases h with rfl|rfl|rfl
 ·exact ⟨0,by omega,rfl⟩
 ·exact ⟨1,by omega,rfl⟩
 ·exact ⟨2,by omega,rfl⟩
section
variable {N n0:Nat} {F:Nat→Prop} {B M0:a0A} {w0:World} {e0:a6l} {env:Env} {a:Act} {w:World}
def LkI (N n0:Nat) (F:Nat→Prop) (B M0:a0A) (w0:World) (e0:a6l) (L:List Lf) (s:a1J) (mb rb:Nat) (a:Act) (w:World):Prop:=
 ∃env p q r,∃(seen:Array Nat) (c0:Nat),Rel Tryz.prog N n0 B M0 w0 F e0 env (c7w L p q r rb) a w∧env 3=s∧w.heap[mb]? =some (.map (b6I s) 3)∧w.heap[rb]? =some (.mapIter (some mb) 3 seen c0)∧3≤c0∧
  Off env (a3c L p q r) mb∧Off env (a3c L p q r) rb∧n0≤rb∧
  p=(bif seen.contains 0 then mis (lb L 1) (li L 13) else li L 13)∧q=(bif seen.contains 1 then mis (lb L 2) (li L 14) else li L 14)∧r=(bif seen.contains 2 then mis (lb L 3) (li L 15) else li L 15)
def lkM (s:a1J) (rb:Nat) (w:World):Nat:=match w.heap[rb]? with
 |some (.mapIter _ _ seen _)=>(leftOf (b6I s) seen).size
 |_=>0
theorem c21 {st st':St} (h:Rel Tryz.prog N n0 B M0 w0 F e0 env st a w) (e:st=st'):Rel Tryz.prog N n0 B M0 w0 F e0 env st' a w:=e▸h
theorem d4q {N:Nat} (h:okC N lkC=true):(∀o∈d5G,∀d,o.dst=some d→d<N)∧(∀o∈d5H,∀d,o.dst=some d→d<N)∧(∀o∈d4m,∀d,o.dst=some d→d<N)∧okC N lkT=true:=by
 rw [d4n] at h;simp only [okC,e57] at h;exact ⟨a8l h.1,a8l h.2.1,a8l h.2.2.2.1,h.2.2.2.2⟩
theorem d5O {L:List Lf} {p q r p' q' r':Int} {rb i:Nat} (hN:okC N lkT=true) (hF:∀k,F k→k<0) (h:Rel Tryz.prog N n0 B M0 w0 F e0 env (b9q L p q r rb i) a w)
  (hx:a32 Tryz.prog cl0 {} 1000 50 lkT (b9q L p q r rb i) lkK=some (.normal,c7w L p' q' r' rb)):
  lkT.wp Tryz.prog (fun e a' w'=>e= .normal∧ ∃env',Rel Tryz.prog N n0 B M0 w0 F e0 env' (c7w L p' q' r' rb) a' w'∧AM.Left (· <1000) env (a3c L p q r) w env' (a3c L p' q' r') w') a w:=
 d5u (kb:=1000) (ts:=[2,3,4,14]) (ks:=[2,3,4]) d4o (a49 a6d.mixed d4o) (fun k hk=>by have:=hF k hk;omega) hN (fun b _=>d5M rfl) h (e0Z rfl) hx rfl
theorem d0G {x:Ex×St} {L:List Lf} {s:a1J} {mb rb:Nat} (hok:okC N lkC=true) (hF:∀k,F k→k<0) (hI:LkI N n0 F B M0 w0 e0 L s mb rb a w) (hmr:mb≠rb)
  (hx:x=(.normal,⟨d5K,a3c L (mis (lb L 1) (li L 13)) (mis (lb L 2) (li L 14)) (mis (lb L 3) (li L 15))⟩)):
  (Code.seq (.region 2 d5H.toArray false) (.seq (.cond (.tmp 16) .skip (.exit 0)) (.block 1 (.seq (.region 3 d4m.toArray false) lkT)))).wp Tryz.prog
   (Exit.then (fun a' w'=>LkI N n0 F B M0 w0 e0 L s mb rb a' w'∧lkM s rb w'<lkM s rb w) (Exit.inBlock 0 (b6s Tryz.prog N n0 B M0 w0 F e0 (fun e st=>some (e,st)) x))) a w:=by
 obtain ⟨ok1,ok2,ok3,okT⟩:=d4q hok;obtain ⟨env,p,q,r,seen,c0,h,hs,hb,hr,hc,hOb,hOr,hn,hp,hq,hrr⟩:=hI;have hold:∀x∈(b6I s).toList,x.born<3:=fun x hx=>by obtain ⟨i,hi,rfl⟩:=d4p hx;exact hi
 have hM:lkM s rb w=(leftOf (b6I s) seen).size:=by unfold lkM;rw [hr]
 refine wp_seq (wp_region_list ?_);show wpList Tryz.prog _ _ d5H a w;rw [c7u] at ok2⊢;have e14:a.eval (.tmp 14)= .pointer (some ⟨rb,0,none⟩):=h.evu (.tmp 14);have d0:∀d,(lk2 0).dst=some d→d<N:=ok2 _ (by simp)
 have d1:∀d,(lk2 1).dst=some d→d<N:=ok2 _ (by simp)
 have g0:(lk2 0).guard=none:=e3R.2.2;have g1:(lk2 1).guard=none:=noG e5I (by rw [c7u];simp)
 rcases run_next_at (P:=Tryz.prog) w (lk2 0).type rb mb 3 c0 seen (b6I s) 3 hr hb hold hc with ⟨h0,hrun⟩|⟨e,he,w1,hal,hrun⟩
 ·-- nothing is left
  have hall:=all_seen (b6I s) seen h0;refine a5a (v:= .tuple #[.bool false]) (w':=w) g0 (by simp only [execOp,e3R.1,e14,e6b,hrun,e58,e6c]) ?_
  have h1:=h.put (x:= .t [.c (.k false)]) (v:= .tuple #[.bool false]) d0 ⟨#[.bool false],rfl,rfl,trivial⟩;refine a4Q (x:= .c (.k false)) h1 d1 g1 (by kernel_rfl) fun v hv h2=> ?_
  show (Code.seq _ _).wp Tryz.prog _ _ _;have h16:(Act.put (Act.put a (lk2 0).dst (.tuple #[.bool false])) (lk2 1).dst v).eval (.tmp 16)= .bool false:=h2.evu (.tmp 16);refine wp_seq (wp_cond_false h16 (wp_exit ?_));have h3:=a0L h2 [2,3,4] [2,3,4];refine ⟨env,_,h3,?_⟩;subst hx;have s0:=hall (lkE s 0) (by simp [b6I])
  have s1:=hall (lkE s 1) (by simp [b6I])
  have s2:=hall (lkE s 2) (by simp [b6I])
  have s0:seen.contains 0=true:=s0;have s1:seen.contains 1=true:=s1;have s2:seen.contains 2=true:=s2;rw [s0] at hp;rw [s1] at hq;rw [s2] at hrr;subst hp hq hrr;show some (Ex.normal,_)=some _;kernel_rfl
 ·obtain ⟨hes,hnot⟩:=mem_left he
  obtain ⟨i,hi,rfl⟩:=d4p hes;have hw1:w1.heap=w.heap:=by rcases hal with rfl|rfl<;>rfl
  have hsz:rb<w.heap.size:=(e6f.1 hr).1;have hmsz:mb<w.heap.size:=(e6f.1 hb).1;have hg2:=c5l (b:=rb) (o:= .mapIter (some mb) 3 (seen.push (lkE s i).born) 3) hal;have hr2:(ChangeMaps.setBlock w1 rb (.mapIter (some mb) 3 (seen.push (lkE s i).born) 3)).heap[rb]? =some (.mapIter (some mb) 3 (seen.push (lkE s i).born) 3):=by
   show (w1.heap.setIfInBounds rb _)[rb]? =_;rw [hw1,Array.getElem?_setIfInBounds,if_pos rfl,if_pos hsz]
  have hb2:(ChangeMaps.setBlock w1 rb (.mapIter (some mb) 3 (seen.push (lkE s i).born) 3)).heap[mb]? =some (.map (b6I s) 3):=by
   rw [hg2.block mb hmsz (fun e=>hmr (Option.some.inj e))];exact hb
  generalize ChangeMaps.setBlock w1 rb (.mapIter (some mb) 3 (seen.push (lkE s i).born) 3)=w2 at hrun hg2 hr2 hb2;have hA:=h.alien hg2 (fun b e=>by cases e;exact ⟨hn,(fun c T f e=>by rw [hr] at e;cases e),hOr⟩) (fun b e d q=>by cases e;rw [hr] at q;cases q)
  refine a5a (v:= .tuple #[.bool true,(lkE s i).key,(lkE s i).val]) (w':=w2) g0 (by simp only [execOp,e3R.1,e14,e6b,hrun,e58,e6c]) ?_
  have h1:=hA.put (x:= .t [.c (.k true),.c .u,.c .u]) (v:= .tuple #[.bool true,(lkE s i).key,(lkE s i).val]) d0 ⟨_,rfl,rfl,trivial,trivial,trivial⟩;refine a4Q (x:= .c (.k true)) h1 d1 g1 (by kernel_rfl) fun v hv h2=> ?_
  show (Code.seq _ _).wp Tryz.prog _ _ _;have h16:(Act.put (Act.put a (lk2 0).dst (.tuple #[.bool true,(lkE s i).key,(lkE s i).val])) (lk2 1).dst v).eval (.tmp 16)= .bool true:=h2.evu (.tmp 16);refine wp_seq (wp_cond_true h16 (wp_skip ?_));show (Code.block _ _).wp Tryz.prog _ _ _;refine wp_block (wp_seq (wp_region_list ?_));show wpList Tryz.prog _ _ d4m _ _;have f:∀o∈d4m,o.guard=none:=fun o ho=>noG e5J ho
  rw [d5J] at ok3 f⊢;have e14':(Act.put (Act.put a (lk2 0).dst (.tuple #[.bool true,(lkE s i).key,(lkE s i).val])) (lk2 1).dst v).eval (.tmp 14)= .pointer (some ⟨rb,0,none⟩):=h2.evu (.tmp 14);have hent:=run_entry_at (P:=Tryz.prog) w2 rb mb 3 seen (b6I s) 3 (lkE s i) hr2 hb2 hes (by simp [b6I,lkE])
  refine a5a (v:= .tuple #[(lkE s i).key,(lkE s i).val]) (w':=w2) (f _ (by simp)) (by simp only [execOp,e5G.1,e14',e6b,hent,e58,e6c]) ?_
  have h3:=h2.put (x:= .t [.c (.i .i64 ((i+1:Nat):Int)),.c (.p 3 (3+(i+1)))]) (v:= .tuple #[(lkE s i).key,(lkE s i).val]) (ok3 (lk3 0) (by simp)) ⟨_,rfl,by show _=_;simp [lkE],by
   show (lkE s i).val=_;rw [hs];simp only [lkE];congr 4
   omega,trivial⟩
  refine a4Q (x:= .c (.i .i64 ((i+1:Nat):Int))) h3 (ok3 _ (by simp)) (f _ (by simp)) (by kernel_rfl) fun v1 hv1 h4=> ?_
  refine a4Q (x:= .c (.p 3 (3+(i+1)))) h4 (ok3 _ (by simp)) (f _ (by simp)) (by kernel_rfl) fun v2 hv2 h5=> ?_
  refine a4Q (x:= .c (.i .i64 ((i+1:Nat):Int))) h5 (ok3 _ (by simp)) (f _ (by simp)) (by kernel_rfl) fun v3 hv3 h6=> ?_
  refine a4Q (x:= .c (.p 3 (3+(i+1)))) h6 (ok3 _ (by simp)) (f _ (by simp)) (by kernel_rfl) fun v4 hv4 h7=> ?_
  show lkT.wp Tryz.prog _ _ _;have h8:Rel Tryz.prog N n0 B M0 w0 F e0 env (b9q L p q r rb (i+1)) _ w2:=c21 (a0L h7 [2,3,4,5,6,14] [2,3,4]) (by kernel_rfl)
  have hlt:(leftOf (b6I s) (seen.push (lkE s i).born)).size<(leftOf (b6I s) seen).size:=left_shrinks _ _ _ he;have fin:∀(af:Act),Rel Tryz.prog N n0 B M0 w0 F e0 env (b9q L p q r rb (i+1)) af w2→ ∀p' q' r',a32 Tryz.prog cl0 {} 1000 50 lkT (b9q L p q r rb (i+1)) lkK=some (.normal,c7w L p' q' r' rb)→
    p'=(bif (seen.push (lkE s i).born).contains 0 then mis (lb L 1) (li L 13) else li L 13)→q'=(bif (seen.push (lkE s i).born).contains 1 then mis (lb L 2) (li L 14) else li L 14)→r'=(bif (seen.push (lkE s i).born).contains 2 then mis (lb L 3) (li L 15) else li L 15)→
    lkT.wp Tryz.prog (fun e a' w'=>e= .normal∧(LkI N n0 F B M0 w0 e0 L s mb rb a' w'∧lkM s rb w'<lkM s rb w)) af w2:=by
   intro af h8 p' q' r' hx' e1 e2 e3;refine Code.wp_mono ?_ (d5O okT hF h8 hx');rintro e a' w' ⟨he',env',k1,k2,k3,k4⟩;have m1:=k4 mb _ hb2 hOb;have m2:=k4 rb _ hr2 hOr;refine ⟨he',⟨env',p',q',r',_,3,k1,(k3 3 (by omega)).trans hs,m1.1,m2.1,Nat.le_refl _,m1.2,m2.2,hn,e1,e2,e3⟩,?_⟩
   rw [hM];unfold lkM;rw [m2.1];exact hlt
  have done:∀{c:Code} {a':Act} {w':World},c.wp Tryz.prog (fun e a' w'=>e= .normal∧(LkI N n0 F B M0 w0 e0 L s mb rb a' w'∧lkM s rb w'<lkM s rb w)) a' w'→
    c.wp Tryz.prog (Exit.inBlock 1 (Exit.then (fun a' w'=>LkI N n0 F B M0 w0 e0 L s mb rb a' w'∧lkM s rb w'<lkM s rb w) (Exit.inBlock 0 (b6s Tryz.prog N n0 B M0 w0 F e0 (fun e st=>some (e,st)) x)))) a' w':=fun hc=>Code.wp_mono (fun e a' w' hp=>by obtain ⟨rfl,hp⟩:=hp;exact hp) hc
  refine done ?_;have hcp:∀j,(seen.push (lkE s i).born).contains j=(seen.contains j||j==i):=fun j=>contains_push seen i j
  have hni:seen.contains i=false:=hnot;clear hv hv1 hv2 hv3 hv4 h1 h2 h3 h4 h5 h6 h7 hA hent e14' h16 hrun;generalize (Act.put _ (lk3 4).dst v4)=af at h8⊢;rcases (by omega:i=0∨i=1∨i=2) with rfl|rfl|rfl
  ·skip
   rw [hni] at hp;cases hf:lb L 1 with
   |true=>exact fin _ h8 (-1) q r (by rw [c2Y,hf];rfl) (by rw [hcp,hf];simp [mis]) (by rw [hcp,hq];simp) (by rw [hcp,hrr];simp)
   |false=>exact fin _ h8 p q r (by rw [c2Y,hf];rfl) (by rw [hcp,hf,hp];simp [mis]) (by rw [hcp,hq];simp) (by rw [hcp,hrr];simp)
  ·skip
   rw [hni] at hq;cases hf:lb L 2 with
   |true=>exact fin _ h8 p (-1) r (by rw [c2Z,hf];rfl) (by rw [hcp,hp];simp) (by rw [hcp,hf];simp [mis]) (by rw [hcp,hrr];simp)
   |false=>exact fin _ h8 p q r (by rw [c2Z,hf];rfl) (by rw [hcp,hp];simp) (by rw [hcp,hf,hq];simp [mis]) (by rw [hcp,hrr];simp)
  ·skip
   rw [hni] at hrr;cases hf:lb L 3 with
   |true=>exact fin _ h8 p q (-1) (by rw [c20,hf];rfl) (by rw [hcp,hp];simp) (by rw [hcp,hq];simp) (by rw [hcp,hf];simp [mis])
   |false=>exact fin _ h8 p q r (by rw [c20,hf];rfl) (by rw [hcp,hp];simp) (by rw [hcp,hq];simp) (by rw [hcp,hf,hrr];simp [mis])
end
section
variable {N n0:Nat} {F:Nat→Prop} {B M0:a0A} {w0:World} {e0:a6l} {env:Env} {a:Act} {w:World}
theorem e00 (w:World):(Instr.makeMap 228 none).run Tryz.prog w= .ok (.map (some w.heap.size)) (w.alloc (.map #[] 0)):=by simp [Instr.makeMap]
theorem c7x {st:St} {mb clock:Nat} {es:Array MapEntry} {k:Int} {v:Value} {o:Oper} {ops:Array Oper} {Q:Exit→Act→World→Prop} {rest:List Oper} {t:Nat} (h:Rel Tryz.prog N n0 B M0 w0 F e0 env st a w) (hb:w.heap[mb]? =some (.map es clock)) (hn:n0≤mb) (hO:Off env st.mem mb)
  (ho:o.op= .insert 228 (.tmp 9) (.const (.int .i64 k)) (.tmp t)∧o.dst=none∧o.guard=none) (h9:a.eval (.tmp 9)= .map (some mb)) (hv:a.eval (.tmp t)=v) (hf:Instr.findNow (.int .i64) (.int .i64 k) es.toList 0=some none)
  (hk:∀w',Rel Tryz.prog N n0 B M0 w0 F e0 env st a w'→w'.heap[mb]? =some (.map (es.push {key:= .int .i64 k,val:=v,born:=clock}) (clock+1))→w'.heap.size=w.heap.size→wpList Tryz.prog ops Q rest a w'):wpList Tryz.prog ops Q (o::rest) a w:=by
 refine d0u (w':={w with heap:=w.heap.setIfInBounds mb (.map (es.push {key:= .int .i64 k,val:=v,born:=clock}) (clock+1))}) ho.2.2 ?_ ?_
 ·have:a.eval (.const (.int .i64 k))= .int .i64 k:=rfl
  simp only [execOp,ho.1,h9,hv,this,e6b,d5N hb hf,e58,e6c]
 ·rw [ho.2.1]
  refine hk _ (h.alien b9r (fun r e=>by cases e;exact ⟨hn,(fun c T f e=>by rw [hb] at e;cases e),hO⟩) (fun r e d q=>by cases e;rw [hb] at q;cases q)) ?_ (by simp)
  show (w.heap.setIfInBounds mb _)[mb]? =_;rw [Array.getElem?_setIfInBounds,if_pos rfl,if_pos (e6f.1 hb).1]
theorem d5P:a4B Tryz.prog 0 (a0S Tryz.prog 113 300000004) (c56 c2X d5L):=by
 intro st alts hst x hx N n0 F B M0 w0 e0 env a w _ hF hok hrel;rintro Fe nn rfl;refine wpIn_wide.2 ?_;have hq:=a69 (sh:=c2X) (A:=d5L) (Q:=fun st x=>∃L,st=a16 c2X L∧a4v (d5L L) some=some x) (fun L x hx=>⟨L,rfl,hx⟩) st alts hst x hx
 obtain ⟨L,rfl,hxL⟩:=hq;have hx':x=(.normal,⟨d5K,a3c L (mis (lb L 1) (li L 13)) (mis (lb L 2) (li L 14)) (mis (lb L 3) (li L 15))⟩):=by
  have:some (Ex.normal,(⟨d5K,a3c L (mis (lb L 1) (li L 13)) (mis (lb L 2) (li L 14)) (mis (lb L 3) (li L 15))⟩:St))=some x:=hxL;exact (Option.some.inj this).symm
 clear hst hx hxL;have hok':okC N lkC=true:=hok;obtain ⟨ok1,_,_,_⟩:=d4q hok';rw [c7v] at hrel;show lkC.wp Tryz.prog _ _ _;rw [d4n];refine wp_seq (wp_region_list ?_);show wpList Tryz.prog _ _ d5G a w;have f:∀o∈d5G,o.guard=none:=fun o ho=>noG e5H ho
 rw [d5I] at ok1 f⊢;have hn0:=hrel.n0le
 -- the map
 have hO0:Off env (a3c L (li L 13) (li L 14) (li L 15)) w.heap.size:=Off.new hrel (Nat.le_refl _);have hO1:Off env (a3c L (li L 13) (li L 14) (li L 15)) (w.heap.size+1):=Off.new hrel (Nat.le_succ _);obtain ⟨mb,hmb⟩:∃mb,mb=w.heap.size:=⟨_,rfl⟩;have hA:=hrel.alien (World.grownBy_alloc w (.map #[] 0) none) (fun r e=>by cases e) (fun r e=>by cases e)
 have hb0:(w.alloc (.map #[] 0)).heap[mb]? =some (.map #[] 0):=by rw [hmb];exact (MapKept.heap_alloc w _).1
 have hsz0:(w.alloc (.map #[] 0)).heap.size=mb+1:=by rw [hmb];simp
 refine a5a (v:= .map (some mb)) (w':=w.alloc (.map #[] 0)) (f _ (by simp)) (by simp only [execOp,e5B.1,Option.map_none,e00,e6b,e58,e6c,hmb]) ?_
 rw [←hmb] at hO0 hO1;have h0:=hA.put (x:= .c (.v (.map (some mb)))) (v:= .map (some mb)) (ok1 (lk1 0) (by simp)) (show _=_ from rfl)
 generalize w.alloc (.map #[] 0)=wA at h0 hb0 hsz0;clear hA;have hnm:n0≤mb:=by omega
 refine a4Q (x:= .c (.p 3 4)) h0 (ok1 _ (by simp)) (f _ (by simp)) (by kernel_rfl) fun v1 hv1 h1=> ?_
 refine c7x h1 hb0 hnm hO0 e5C (h1.evu (.tmp 9)) (h1.evu (.tmp 10)) rfl fun w1 h2 hb1 hs1=> ?_
 refine a4Q (x:= .c (.p 3 5)) h2 (ok1 _ (by simp)) (f _ (by simp)) (by kernel_rfl) fun v2 hv2 h3=> ?_
 refine c7x h3 hb1 hnm hO0 e5D (h3.evu (.tmp 9)) (h3.evu (.tmp 11)) rfl fun w2 h4 hb2 hs2=> ?_
 refine a4Q (x:= .c (.p 3 6)) h4 (ok1 _ (by simp)) (f _ (by simp)) (by kernel_rfl) fun v3 hv3 h5=> ?_
 refine c7x h5 hb2 hnm hO0 e5E (h5.evu (.tmp 9)) (h5.evu (.tmp 12)) rfl fun w3 h6 hb3 hs3=> ?_
 refine a4Q (x:= .c (.v (.map (some mb)))) h6 (ok1 _ (by simp)) (f _ (by simp)) (by kernel_rfl) fun v4 hv4 h7=> ?_
 have e13:(Act.put _ (lk1 7).dst v4).eval (.tmp 13)= .map (some mb):=h7.evu (.tmp 13);have hes:w3.heap[mb]? =some (.map (b6I (env 3)) 3):=hb3;have hrn:=run_range_map (P:=Tryz.prog) w3 228 3 227 mb (b6I (env 3)) 3 lkU hes;obtain ⟨rb,hrb⟩:∃rb,rb=w3.heap.size:=⟨_,rfl⟩;rw [←hrb] at hrn;have hsr:rb=mb+1:=by omega
 refine a5a (v:= .pointer (some ⟨rb,0,none⟩)) (w':=w3.alloc (.mapIter (some mb) 3 #[] 3)) (f _ (by simp)) (by simp only [execOp,e5F.1,e13,e6b,hrn,e58,e6c]) ?_
 have hr4:(w3.alloc (.mapIter (some mb) 3 #[] 3)).heap[rb]? =some (.mapIter (some mb) 3 #[] 3):=by rw [hrb];exact (MapKept.heap_alloc w3 _).1
 have hb4:(w3.alloc (.mapIter (some mb) 3 #[] 3)).heap[mb]? =some (.map (b6I (env 3)) 3):=((MapKept.heap_alloc w3 _).2 mb (e6f.1 hes).1).trans hes;have h8:=(h7.alien (World.grownBy_alloc w3 (.mapIter (some mb) 3 #[] 3) none) (fun r e=>by cases e) (fun r e=>by cases e)).put (x:= .c (.v (.pointer (some ⟨rb,0,none⟩)))) (v:= .pointer (some ⟨rb,0,none⟩)) (ok1 (lk1 8) (by simp)) (show _=_ from rfl)
 generalize w3.alloc (.mapIter (some mb) 3 #[] 3)=w4 at h8 hr4 hb4;have h9:Rel Tryz.prog N n0 B M0 w0 F e0 env (c7w L (li L 13) (li L 14) (li L 15) rb) _ w4:=c21 (a0L h8 [2,3,4,14] [2,3,4]) (by kernel_rfl)
 show (Code.block 0 _).wp Tryz.prog _ _ _;refine wp_block (wp_loop (LkI N n0 F B M0 w0 e0 L (env 3) mb rb) (fun _ w=>lkM (env 3) rb w) ?_ fun a' w' hI=>d0G hok' hF hI (by omega) hx')
 exact ⟨env,_,_,_, #[],3,h9,rfl,hb4,hr4,Nat.le_refl _,hO0,by rw [hsr];exact hO1,by omega,by simp,by simp,by simp⟩
end
end Go.Proofs.YtcdhfpkfmekabaaGreatDoor
namespace Go.Proofs.YtcdhfpkfmekabaaGreatDoor
open Go Go.AM Go.Shelf Go.Sort Go.RowKit
def Tryz.lays122_ren:Go.Shelf.Ren:=⟨fun|122=>63|215=>102|n=>n,fun|3=>3|4=>4|n=>n,fun|n=>n⟩
theorem Tryz.lays122:Go.Proofs.Lays.n122 Tryz.prog Tryz.lays122_ren:={
 mixed:=by kernel_rfl
 f122:=Tryz.func63.trans (congrArg some (by kernel_rfl))
 f215:=Tryz.func102.trans (congrArg some (by kernel_rfl))
 t3:=Tryz.underlying3
 a3:=Tryz.isAgg3
 z3:=Tryz.sizeOf3
 v3:=Tryz.zeroValue3
 t4:=Tryz.underlying4
 a4:=Tryz.isAgg4
 z4:=Tryz.sizeOf4
 v4:=Tryz.zeroValue4}
open Go.RowKit in
theorem Tryz.cmp_Compare_int (x y:Int) (w:World):
  Calls Tryz.prog 63 #[.int .i64 x,.int .i64 y] w fun e w'=>e= .returned (.int .i64 (Lib.compareInt x y))∧w'=w:=Any.cmp_Compare_int Tryz.lays122 x y w
def Tryz.laysNm220_ren:Go.Shelf.Ren:=⟨fun|20=>101|n=>n,fun|22=>26|3=>3|4=>4|0=>0|n=>n,fun|n=>n⟩
theorem Tryz.laysNm220:Go.Proofs.Lays2.n20 Tryz.prog Tryz.laysNm220_ren:={
 mixed:=by kernel_rfl
 f20:=Tryz.func101.trans (congrArg some (by kernel_rfl))
 t0:=Tryz.underlying0
 a0:=Tryz.isAgg0
 z0:=Tryz.sizeOf0
 v0:=Tryz.zeroValue0
 t3:=Tryz.underlying3
 a3:=Tryz.isAgg3
 z3:=Tryz.sizeOf3
 v3:=Tryz.zeroValue3
 t4:=Tryz.underlying4
 a4:=Tryz.isAgg4
 z4:=Tryz.sizeOf4
 v4:=Tryz.zeroValue4
 t22:=Tryz.underlying26
 a22:=Tryz.isAgg26
 z22:=Tryz.sizeOf26
 v22:=Tryz.zeroValue26
 i3:=by kernel_rfl}
open Go.RowKit Go.Lib Go.Sort in
theorem Tryz.slices_Compact_int (blk off cap:Nat) (zs:List Int) (w:World) (hH:Holds (Value.int .i64) w blk off zs.toArray) (hsz:zs.length≤9223372036854775807) (hcap:zs.length≤cap):
  Calls Tryz.prog 101 #[.slice (some ⟨blk,off,none⟩) zs.length cap] w fun e w'=>e= .returned (.slice (some ⟨blk,off,none⟩) (Lib.compact zs).length cap)∧ ∃q,w'=putRow (Value.int .i64) (Sort.ahead w q) blk off (Lib.compact zs++List.replicate (zs.length-(Lib.compact zs).length) 0).toArray:=Any.slices_Compact_int Tryz.laysNm220 blk off cap zs w hH hsz hcap
open Go.RowKit Go.Lib Go.Sort in
def Tryz.laysSlF6_f83_ren:Go.Shelf.Ren:=⟨fun|6=>100|15=>135|14=>134|28=>156|29=>157|20=>148|21=>149|22=>150|23=>151|24=>152|25=>153|26=>154|27=>155|46=>172|47=>173|48=>174|49=>175|50=>176|57=>184|n=>n,fun|22=>26|24=>3|25=>136|3=>3|39=>158|0=>0|53=>202|55=>250|4=>4|46=>243|45=>242|50=>187|5=>5|9=>9|66=>256|70=>227|76=>269|77=>175|n=>n,fun|n=>n⟩
theorem Tryz.laysSlF6_f83:Go.Proofs.SlLaysF.n6 Tryz.prog Tryz.laysSlF6_f83_ren:={
 mixed:=by kernel_rfl
 f6:=⟨Tryz.f100.name,by decide,Tryz.func100.trans (congrArg some (by kernel_rfl))⟩
 f14:=⟨Tryz.f134.name,by decide,Tryz.func134.trans (congrArg some (by kernel_rfl))⟩
 f15:=Tryz.func135.trans (congrArg some (by kernel_rfl))
 f20:=⟨Tryz.f148.name,by decide,Tryz.func148.trans (congrArg some (by kernel_rfl))⟩
 f21:=⟨Tryz.f149.name,by decide,Tryz.func149.trans (congrArg some (by kernel_rfl))⟩
 f22:=⟨Tryz.f150.name,by decide,Tryz.func150.trans (congrArg some (by kernel_rfl))⟩
 f23:=⟨Tryz.f151.name,by decide,Tryz.func151.trans (congrArg some (by kernel_rfl))⟩
 f24:=⟨Tryz.f152.name,by decide,Tryz.func152.trans (congrArg some (by kernel_rfl))⟩
 f25:=⟨Tryz.f153.name,by decide,Tryz.func153.trans (congrArg some (by kernel_rfl))⟩
 f26:=⟨Tryz.f154.name,by decide,Tryz.func154.trans (congrArg some (by kernel_rfl))⟩
 f27:=⟨Tryz.f155.name,by decide,Tryz.func155.trans (congrArg some (by kernel_rfl))⟩
 f28:=Tryz.func156.trans (congrArg some (by kernel_rfl))
 f29:=Tryz.func157.trans (congrArg some (by kernel_rfl))
 f46:=⟨Tryz.f172.name,by decide,Tryz.func172.trans (congrArg some (by kernel_rfl))⟩
 f47:=Tryz.func173.trans (congrArg some (by kernel_rfl))
 f48:=Tryz.func174.trans (congrArg some (by kernel_rfl))
 f49:=⟨Tryz.f175.name,by decide,Tryz.func175.trans (congrArg some (by kernel_rfl))⟩
 f50:=⟨Tryz.f176.name,by decide,Tryz.func176.trans (congrArg some (by kernel_rfl))⟩
 f57:=⟨Tryz.f184.name,by decide,Tryz.func184.trans (congrArg some (by kernel_rfl))⟩
 t0:=Tryz.underlying0
 a0:=Tryz.isAgg0
 z0:=Tryz.sizeOf0
 v0:=Tryz.zeroValue0
 t3:=Tryz.underlying3
 a3:=Tryz.isAgg3
 z3:=Tryz.sizeOf3
 v3:=Tryz.zeroValue3
 t4:=Tryz.underlying4
 a4:=Tryz.isAgg4
 z4:=Tryz.sizeOf4
 v4:=Tryz.zeroValue4
 t5:=Tryz.underlying5
 a5:=Tryz.isAgg5
 z5:=Tryz.sizeOf5
 v5:=Tryz.zeroValue5
 t9:=Tryz.underlying9
 a9:=Tryz.isAgg9
 z9:=Tryz.sizeOf9
 v9:=Tryz.zeroValue9
 t22:=Tryz.underlying26
 a22:=Tryz.isAgg26
 z22:=Tryz.sizeOf26
 v22:=Tryz.zeroValue26
 a24:=Tryz.isAgg3
 z24:=Tryz.sizeOf3
 t25:=Tryz.underlying136
 a25:=Tryz.isAgg136
 z25:=Tryz.sizeOf136
 v25:=Tryz.zeroValue136
 t39:=Tryz.underlying158
 a39:=Tryz.isAgg158
 z39:=Tryz.sizeOf158
 v39:=Tryz.zeroValue158
 t45:=Tryz.underlying242
 a45:=Tryz.isAgg242
 z45:=Tryz.sizeOf242
 v45:=Tryz.zeroValue242
 t46:=Tryz.underlying243
 a46:=Tryz.isAgg243
 z46:=Tryz.sizeOf243
 v46:=Tryz.zeroValue243
 t50:=Tryz.underlying187
 a50:=Tryz.isAgg187
 z50:=Tryz.sizeOf187
 v50:=Tryz.zeroValue187
 t53:=Tryz.underlying202
 a53:=Tryz.isAgg202
 z53:=Tryz.sizeOf202
 v53:=Tryz.zeroValue202
 t55:=Tryz.underlying250
 a55:=Tryz.isAgg250
 z55:=Tryz.sizeOf250
 v55:=Tryz.zeroValue250
 t66:=Tryz.underlying256
 a66:=Tryz.isAgg256
 z66:=Tryz.sizeOf256
 v66:=Tryz.zeroValue256
 t70:=Tryz.underlying227
 a70:=Tryz.isAgg227
 z70:=Tryz.sizeOf227
 v70:=Tryz.zeroValue227
 t76:=Tryz.underlying269
 a76:=Tryz.isAgg269
 z76:=Tryz.sizeOf269
 v76:=Tryz.zeroValue269
 t77:=Tryz.underlying175
 a77:=Tryz.isAgg175
 z77:=Tryz.sizeOf175
 v77:=Tryz.zeroValue175}
def Tryz.laysSlF06_f83_ren:Go.Shelf.Ren:=⟨fun|6=>100|15=>135|14=>134|28=>156|29=>157|20=>148|21=>149|22=>150|23=>151|24=>152|25=>153|26=>154|27=>155|46=>172|47=>173|48=>174|49=>175|50=>176|57=>184|n=>n,fun|22=>26|24=>3|25=>136|3=>3|39=>158|0=>0|53=>202|55=>250|4=>4|46=>243|45=>242|50=>187|5=>5|9=>9|66=>256|70=>227|76=>269|77=>175|n=>n,fun|n=>n⟩
theorem Tryz.laysSlF06_f83:Go.Proofs.SlLaysF0.n6 Tryz.prog Tryz.laysSlF06_f83_ren:={
 mixed:=by kernel_rfl
 f6:=⟨Tryz.f100.name,by decide,Tryz.func100.trans (congrArg some (by kernel_rfl))⟩
 f14:=⟨Tryz.f134.name,by decide,Tryz.func134.trans (congrArg some (by kernel_rfl))⟩
 f15:=Tryz.func135.trans (congrArg some (by kernel_rfl))
 f20:=⟨Tryz.f148.name,by decide,Tryz.func148.trans (congrArg some (by kernel_rfl))⟩
 f21:=⟨Tryz.f149.name,by decide,Tryz.func149.trans (congrArg some (by kernel_rfl))⟩
 f22:=⟨Tryz.f150.name,by decide,Tryz.func150.trans (congrArg some (by kernel_rfl))⟩
 f23:=⟨Tryz.f151.name,by decide,Tryz.func151.trans (congrArg some (by kernel_rfl))⟩
 f24:=⟨Tryz.f152.name,by decide,Tryz.func152.trans (congrArg some (by kernel_rfl))⟩
 f25:=⟨Tryz.f153.name,by decide,Tryz.func153.trans (congrArg some (by kernel_rfl))⟩
 f26:=⟨Tryz.f154.name,by decide,Tryz.func154.trans (congrArg some (by kernel_rfl))⟩
 f27:=⟨Tryz.f155.name,by decide,Tryz.func155.trans (congrArg some (by kernel_rfl))⟩
 f28:=Tryz.func156.trans (congrArg some (by kernel_rfl))
 f29:=Tryz.func157.trans (congrArg some (by kernel_rfl))
 f46:=⟨Tryz.f172.name,by decide,Tryz.func172.trans (congrArg some (by kernel_rfl))⟩
 f47:=Tryz.func173.trans (congrArg some (by kernel_rfl))
 f48:=Tryz.func174.trans (congrArg some (by kernel_rfl))
 f49:=⟨Tryz.f175.name,by decide,Tryz.func175.trans (congrArg some (by kernel_rfl))⟩
 f50:=⟨Tryz.f176.name,by decide,Tryz.func176.trans (congrArg some (by kernel_rfl))⟩
 f57:=⟨Tryz.f184.name,by decide,Tryz.func184.trans (congrArg some (by kernel_rfl))⟩
 t0:=Tryz.underlying0
 a0:=Tryz.isAgg0
 z0:=Tryz.sizeOf0
 v0:=Tryz.zeroValue0
 t3:=Tryz.underlying3
 a3:=Tryz.isAgg3
 z3:=Tryz.sizeOf3
 v3:=Tryz.zeroValue3
 t4:=Tryz.underlying4
 a4:=Tryz.isAgg4
 z4:=Tryz.sizeOf4
 v4:=Tryz.zeroValue4
 t5:=Tryz.underlying5
 a5:=Tryz.isAgg5
 z5:=Tryz.sizeOf5
 v5:=Tryz.zeroValue5
 t9:=Tryz.underlying9
 a9:=Tryz.isAgg9
 z9:=Tryz.sizeOf9
 v9:=Tryz.zeroValue9
 t22:=Tryz.underlying26
 a22:=Tryz.isAgg26
 z22:=Tryz.sizeOf26
 v22:=Tryz.zeroValue26
 t25:=Tryz.underlying136
 a25:=Tryz.isAgg136
 z25:=Tryz.sizeOf136
 v25:=Tryz.zeroValue136
 t39:=Tryz.underlying158
 a39:=Tryz.isAgg158
 z39:=Tryz.sizeOf158
 v39:=Tryz.zeroValue158
 t45:=Tryz.underlying242
 a45:=Tryz.isAgg242
 z45:=Tryz.sizeOf242
 v45:=Tryz.zeroValue242
 t46:=Tryz.underlying243
 a46:=Tryz.isAgg243
 z46:=Tryz.sizeOf243
 v46:=Tryz.zeroValue243
 t50:=Tryz.underlying187
 a50:=Tryz.isAgg187
 z50:=Tryz.sizeOf187
 v50:=Tryz.zeroValue187
 t53:=Tryz.underlying202
 a53:=Tryz.isAgg202
 z53:=Tryz.sizeOf202
 v53:=Tryz.zeroValue202
 t55:=Tryz.underlying250
 a55:=Tryz.isAgg250
 z55:=Tryz.sizeOf250
 v55:=Tryz.zeroValue250
 t66:=Tryz.underlying256
 a66:=Tryz.isAgg256
 z66:=Tryz.sizeOf256
 v66:=Tryz.zeroValue256
 t70:=Tryz.underlying227
 a70:=Tryz.isAgg227
 z70:=Tryz.sizeOf227
 v70:=Tryz.zeroValue227
 t76:=Tryz.underlying269
 a76:=Tryz.isAgg269
 z76:=Tryz.sizeOf269
 v76:=Tryz.zeroValue269
 t77:=Tryz.underlying175
 a77:=Tryz.isAgg175
 z77:=Tryz.sizeOf175
 v77:=Tryz.zeroValue175}
open Go.RowKit Go.Lib Go.Sort in
theorem Tryz.slices_SortFunc_none {α:Type} [Inhabited α] (p:Option Addr) (cap:Nat) (fv:Value) (w:World):
  Calls Tryz.prog 100 #[.slice p 0 cap,fv] w fun e w'=>e= .returned (.tuple #[])∧w'=w:=AnyF.slices_SortFunc_none Tryz.laysSlF06_f83 p cap fv w
open Go.RowKit Go.Lib Go.Sort in
theorem b9s:kinds Tryz.prog 3=[.int .i64]:=by kernel_rfl
theorem e01 (x y:Elt (kinds Tryz.prog 3)) (W:World):Calls Tryz.prog 63 #[x.val.getD 0 undef,y.val.getD 0 undef] W fun e w'=>e= .returned (.int .i64 (c7o [(0,false)] x.val y.val))∧ ∃q os',w'=grow (W.drewN q) os':=by
 obtain ⟨x,hx⟩:=x;obtain ⟨y,hy⟩:=y;rw [b9s] at hx hy;simp only;match x,hx with
 | [x0],hx=>
 obtain ⟨⟨x0,rfl⟩,_⟩:=hx;match y,hy with
 | [y0],hy=>
 obtain ⟨⟨y0,rfl⟩,_⟩:=hy;refine (Tryz.cmp_Compare_int x0 y0 W).mono fun e w' ⟨h1,h2⟩=>⟨?_,0, #[],?_⟩
 ·have e:c7o [(0,false)] [Value.int .i64 x0] [Value.int .i64 y0]=Lib.compareInt x0 y0:=by
   show lex (Lib.compareInt x0 y0) 0=_;unfold lex;split<;>simp_all
  exact h1.trans (by rw [e])
 ·rw [h2,grow_empty];rfl
def a7b (xs:List D):List D:=c1i Tryz.prog 3 [(0,false)] xs
def a7c (xs:List D):Bool:=c7q Tryz.prog 3 [(0,false)] xs&&Nat.blt xs.length 4611686018427387904
def b9t:Sh:={tmps:=[(0,.c (.o 0)),(1,.c (.f 63 []))],mem:=[(0,.row 3 true)]}
def b6J (L:List Lf):List (Bool×Res):=[(a7c (ll L 1),([],[(0,.row 3 true (lb L 0) (a7b (ll L 1)))]))]
theorem c5m:c1d Tryz.prog 100 b9t b6J:=by
 refine a7a fun L x hx=> ?_
 show a2z Tryz.prog 100 [.c (.o 0),.c (.f 63 [])] [(0,.row 3 true (lb L 0) (ll L 1))] x;unfold b6J at hx;cases hc:a7c (ll L 1) with
 |false=>rw [hc] at hx;cases hx
 |true=>
 rw [hc] at hx;have hx:some (([],[(0,.row 3 true (lb L 0) (a7b (ll L 1)))]):Res)=some x:=hx;simp only [e55] at hx;subst hx;simp only [a7c,e57] at hc;have eg:∀args w,(callFunc 63 args).run Tryz.prog w= .ok (.enter 63 args) w:=Go.Proofs.enters_of Tryz.func63 (by kernel_rfl) rfl
 have hl:(kinds Tryz.prog 3).length=1:=by rw [b9s];rfl
 refine d5D (g:=63) (os:=[(0,false)]) (by kernel_rfl) (by rw [b9s];decide) (fun z hz=>by (simp only [e6k,List.not_mem_nil,or_false] at hz;rcases hz with rfl;kernel_rfl)) (fun blk cap d w hH hb hs=> ?_) (fun p cap w=> ?_) (b5J.1 hc.1) (e6g hc.2)
 ·refine (Go.Proofs.Any.slices_SortFunc Tryz.laysSlF6_f83 (fun x:Elt (kinds Tryz.prog 3)=>x.val.getD 0 undef) (fun x=> ?_) (fun x y=>c7o [(0,false)] x.val y.val) (a4i (b0A [(0,false)]) _).swo 63 #[] blk 0 cap d w eg (fun m bs dk _ x y=>e01 x y _) (c5j hl hH) hb hs).mono ?_
  ·obtain ⟨x,hx⟩:=x
   rw [b9s] at hx;match x,hx with
   | [x0],hx=>
   obtain ⟨⟨x0,rfl⟩,_⟩:=hx;rfl
  rintro e w' ⟨he,d',n,bs,h1,h2,hw⟩;exact ⟨he,c5k hl hb h1 h2 hw⟩
 ·exact Go.Proofs.AnyF.slices_SortFunc_none {Tryz.laysSlF6_f83 with} p cap _ w
def b1y:Sh:={tmps:=[(0,.c (.o 0))],mem:=[(0,.row 3 true)]}
def a8q (L:List Lf):List (Bool×Res):=[(!(lb L 0),([.c (.o 1)],[(1,.row 3 true false (a2s (ll L 1)))]))]
theorem b6K:c1d Tryz.prog 101 b1y a8q:=by
 refine a7a fun L x hx=> ?_
 show a2z Tryz.prog 101 [.c (.o 0)] [(0,.row 3 true (lb L 0) (ll L 1))] x;unfold a8q at hx;cases hc:lb L 0 with
 |true=>rw [hc] at hx;cases hx
 |false=>
 rw [hc] at hx;have hx:some (([.c (.o 1)],[(1,.row 3 true false (a2s (ll L 1)))]):Res)=some x:=hx;simp only [e55] at hx;subst hx;exact c5i b9s (by kernel_rfl) (by kernel_rfl) fun blk cap zs w hH h1 h2=>Tryz.slices_Compact_int blk 0 cap zs w hH h1 h2
end Go.Proofs.YtcdhfpkfmekabaaGreatDoor
namespace Go.Proofs.YtcdhfpkfmekabaaGreatDoor
open Go Go.AM
def bk:e27:=fun _=>{}
def R1:a0i:=tow Tryz.prog bk b6t 400
theorem e3T:a0m Tryz.prog R1:=d4k a6d bk (fun _=>rfl) b3M 400
theorem d0H:R1 5 [] []=some [(true,([.c (.b true)],[]))]:=by kernel_rfl
def d4r:Sh:={tmps:=[],mem:=[]}
def e02 (_:List Lf):List (Bool×Res):=[(true,([.c (.b true)],[]))]
theorem c7y:a2z Tryz.prog 5 [] [] ([.c (.b true)],[]):=(e3T 5 [] [] _ d0H).2 _ rfl
theorem d5Q:c1d Tryz.prog 5 d4r e02:=a7a fun L x hx=>by
 have hx:some (([.c (.b true)],[]):Res)=some x:=hx;simp only [e55] at hx;subst hx;exact c7y
end Go.Proofs.YtcdhfpkfmekabaaGreatDoor
end
