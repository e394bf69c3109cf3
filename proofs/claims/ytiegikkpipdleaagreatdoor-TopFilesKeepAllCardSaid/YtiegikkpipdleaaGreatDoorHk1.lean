/- A part of a proof of a law: lemmas. Conditions: those of each lemma. -/
import Derived.Test.YtiegikkpipdleaaGreatDoorAm3
import Derived.Below
import Derived.Lib.Join
import Derived.Lib.LaidTab
import Derived.LaidLaws
import Derived.Lib.Split
import Derived.Lib.SplitLaws
import Derived.Lib.ItoaNum
import Derived.Lib.AtoiAll
import Derived.Lib.ConvBytes
import Derived.Sort.Row
import Derived.Shelf.SlSortCmp.WholeK
import Derived.StillTail
import Derived.Test.YtiegikkpipdleaaGreatDoorChecked
import Derived.KernelRfl
set_option linter.all false
set_option maxRecDepth 100000
set_option maxHeartbeats 4000000
noncomputable section
namespace Go.AM
open Go
def tow (P:Program) (hb:f3D) (base:a0e):Nat→a0e
 |0=>base
 |n+1=>fun f args mem=>match base f args mem with
  |some a=>some a
  |none=>(body P (tow P hb base n) (hb f) n f args mem).map fun r=>[(true,r)]
theorem e28 {P:Program} {base:a0e} (hP:a4m P) (hb:f3D) (hlos:∀f,(hb f).los=[]) (hbase:a0c P base):∀n,a0c P (tow P hb base n)
 |0=>hbase
 | n+1=>by
  have ih:=e28 hP hb hlos hbase n;intro f args mem alts h;unfold tow at h;cases hbs:base f args mem with
  |some a=>
   rw [hbs] at h;simp only [f6x] at h;subst h;exact hbase f args mem a hbs
  | none=>
   rw [hbs] at h;cases hb':body P (tow P hb base n) (hb f) n f args mem with
   |none=>rw [hb'] at h;cases h
   |some r=>
    rw [hb'] at h;simp only [f6T,f6x] at h;subst h;have hal:a08 P (hb f).los mem.length f:=by rw [hlos];exact a08.nil
    refine ⟨(b6u hP ih (a8f hP.mixed ih) hal.loops hb').2,fun res hr=> ?_⟩
    have hr:some r=some res:=hr;simp only [f6x] at hr;subst hr;exact a5J hP ih hal rfl hb'
end Go.AM
namespace Go.AM
open Go Go.RowKit
section
variable {P:Program}
end
end Go.AM
namespace Go.AM
open Go
theorem c1s.mono {P:Program} {T T':CK→D→Prop} {e:TypeId} {x:D} (h:∀k d,T k d→T' k d) (hx:c1s P T e x):c1s P T' e x:=by
 unfold c1s at hx⊢;split
 ·rename_i ha
  rw [if_pos ha] at hx;obtain ⟨cs,h1,h2⟩:=hx;exact ⟨cs,h1,h2.mono fun k d _=>h k d⟩
 ·rename_i ha
  rw [if_neg ha] at hx;obtain ⟨k,h1,h2⟩:=hx;exact ⟨k,h1,h k x h2⟩
theorem TyK.succ {P:Program}:∀{m:Nat} {k:CK} {d:D},TyK P m k d→TyK P (m+1) k d
 |0,_,_,h=>h.elim
 | m+1,k,d,h=>by
  cases k with
  |sl e=>
   obtain ⟨nl,xs,h1,h2,h3,h4⟩:=h;exact ⟨nl,xs,h1,h2,h3,fun x hx=>(h4 x hx).mono fun k d=>TyK.succ⟩
  |_=>exact h
theorem TyK.mono {P:Program} {m m':Nat} {k:CK} {d:D} (hm:m≤m') (h:TyK P m k d):TyK P m' k d:=by
 induction hm with
 |refl=>exact h
 |step _ ih=>exact ih.succ
def okS (Ts:List TypeId):CK→Bool
 | .sl e=>b2Z e Ts
 | .oth=>false
 |_=>true
def f3F (P:Program) (Ts:List TypeId):Bool:=Ts.all fun e=>b1E P 12 e&&Nat.beq (a0a P e) (kinds P e).length&&(kinds P e).all (okS Ts)&& !Nat.beq (a0a P e) 0
section
variable {H:Type} {enc:TypeId×Value→H} {P:Program} {w:World} {spare:Nat→Bool} {held:Bool} {Ts:List TypeId}
theorem RT.mono {m m':Nat} (hm:m≤m') {kd:CK×D} {v:Value} (h:RT P w m kd v):RT P w m' kd v:=⟨h.1.mono hm,h.2⟩
theorem b1U {Q:Nat→Nat→Prop} (hmono:∀i m m',m≤m'→Q i m→Q i m'):∀n,(∀i,i<n→ ∃m,Q i m)→ ∃m,∀i,i<n→Q i m
 |0,_=>⟨0,fun i hi=>by omega⟩
 |n+1,h=>by
  obtain ⟨m,h1⟩:=b1U hmono n fun i hi=>h i (by omega)
  obtain ⟨m',h2⟩:=h n (by omega)
  refine ⟨max m m',fun i hi=> ?_⟩
  by_cases hin:i=n
  ·subst hin;exact hmono _ _ _ (Nat.le_max_right _ _) h2
  ·exact hmono _ _ _ (Nat.le_max_left _ _) (h1 i (by omega))
mutual
def szD:D→Nat
 | .l _ xs=>a7G xs+1
 | .a cs=>a7G cs+1
 | .s l=>l.length+1
 | .i _=>1
 | .b _=>1
def a7G:List D→Nat
 | []=>0
 |x::r=>szD x+a7G r
end
theorem a7q:∀(xs ys:List D),a7G (xs++ys)=a7G xs+a7G ys
 | [],ys=>by simp [a7G]
 |x::xs,ys=>by simp only [List.cons_append,a7G,a7q xs ys];omega
theorem b3O {α:Type} {f:α→D} {c:α→Nat}:∀{l:List α},(∀i∈l,szD (f i)≤c i)→a7G (l.map f)≤(l.map c).sum
 | [],_=>by simp [a7G]
 |x::l,h=>by
  have h1:=h x (by simp)
  have h2:=b3O (l:=l) fun i hi=>h i (by simp [hi])
  simp only [List.map_cons,a7G,List.sum_cons];omega
structure b6y (bk:DataW H→Nat) (bkA:List (DataW H)→Nat):Prop where
 lit:∀l,1≤bk (.lit l)
 str:∀l,l.length+1≤bk (.lit (.string l))
 nil:1≤bk .nil
 slice:∀e s,bkA e+1≤bk (.slice e s)
 agg:∀p,bkA p+1≤bk (.agg p)
 nilA:bkA []=0
 consA:∀d r,bkA (d::r)=bk d+bkA r
theorem c6y {α:Type} {bk:DataW H→Nat} {bkA:List (DataW H)→Nat} (hB:b6y bk bkA) {F:α→Option (DataW H×List MemPlace)}:∀{l:List α} {ys:List (DataW H×List MemPlace)},All2 (fun i y=>F i=some y) l ys→
  (l.map fun i=>((F i).map fun y=>bk y.1).getD 0).sum=bkA (ys.map (·.1))
 | [],[],_=>by simp [hB.nilA]
 |x::l,y::ys,⟨h1,h2⟩=>by
  simp only [List.map_cons,List.sum_cons,h1,f6T,Option.getD_some,hB.consA,c6y hB h2]
 | [],_::_,h=>h.elim
 |_::_,[],h=>h.elim
theorem c1u {α:Type} {c:α→Nat}:∀{fs:List α} {ls:List (List (CK×D))},All2 (fun f l=>a7G (l.map Prod.snd)≤c f) fs ls→a7G (ls.flatten.map Prod.snd)≤(fs.map c).sum
 | [],[],_=>by simp [a7G]
 |f::fs,l::ls,⟨h1,h2⟩=>by
  have:=c1u h2;simp only [List.flatten_cons,List.map_append,a7q,List.map_cons,List.sum_cons];omega
 | [],_::_,h=>h.elim
 |_::_,[],h=>h.elim
theorem d2B {R:CK×D→Value→Prop} {ks:List CK} {sz:Nat} {cs:List Value} {c:Nat→Nat}:∀(len:Nat),len*sz≤cs.length→(∀i,i<len→ ∃l:List (CK×D),l.map Prod.fst=ks∧All2 R l ((cs.drop (i*sz)).take sz)∧a7G (l.map Prod.snd)≤c i)→
  ∃l:List (CK×D),l.map Prod.fst=(List.replicate len ks).flatten∧All2 R l (cs.take (len*sz))∧a7G (l.map Prod.snd)≤((List.range len).map c).sum
 |0,_,_=>⟨[],by simp,by simp [All2],by simp [a7G]⟩
 | len+1,hl,h=>by
  rw [Nat.add_mul,Nat.one_mul] at hl;obtain ⟨l,h1,h2,h5⟩:=d2B len (by omega) fun i hi=>h i (by omega)
  obtain ⟨l',h3,h4,h6⟩:=h len (by omega)
  refine ⟨l++l',?_,?_,?_⟩
  ·rw [List.map_append,h1,h3,List.replicate_succ',List.flatten_append];simp
  ·rw [Nat.add_mul,Nat.one_mul,List.take_add]
   exact h2.append h4
  ·rw [List.map_append,a7q,List.range_succ,List.map_append,List.sum_append]
   simp;omega
variable {bk:DataW H→Nat} {bkA:List (DataW H)→Nat}
def b8l (P:Program) (T:TypeId):Nat:=bif a0g P T then 1 else 0
def HR (enc:TypeId×Value→H) (P:Program) (w:World) (spare:Nat→Bool) (held:Bool) (Ts:List TypeId) (bk:DataW H→Nat) (fuel:Nat):Prop:=∀(n:Nat) (T:TypeId) (cs:List Value) (d:DataW H) (ps:List MemPlace),b1E P n T=true→(a03 P n T).all (okS Ts)=true→DataW.trod enc P w 0 spare held fuel T cs=some (d,ps)→
 ∃m,∃kds:List (CK×D),kds.map Prod.fst=a03 P n T∧All2 (RT P w m) kds cs∧a7G (kds.map Prod.snd)+b8l P T≤bk d
theorem c6z (hB:b6y bk bkA) (hTs:f3F P Ts=true):∀fuel,HR enc P w spare held Ts bk fuel
 |0=>fun n T cs d ps _ _ h=>by cases h
 | fuel +1=>by
  have ih:=c6z hB hTs fuel;intro n T cs d ps hf hk h;cases n with
  |zero=>cases hf
  |succ n=>
  unfold DataW.trod at h;split at h
  ·rename_i b hu
   simp only [a03,hu] at hk⊢;simp only [f6x,f6S] at h;obtain ⟨rfl,_⟩:=h;exact ⟨1,[(.bool,.b b)],rfl,⟨⟨⟨b,rfl⟩,.bool (.b b)⟩,trivial⟩,by rw [show b8l P T=0 by unfold b8l a0g;rw [hu];rfl];exact hB.lit _⟩
  ·rename_i k k' i hu
   split at h
   ·rename_i hw
    obtain ⟨rfl,hw⟩:=hw;simp only [a03,hu] at hk⊢;simp only [f6x,f6S] at h;obtain ⟨rfl,_⟩:=h;exact ⟨1,[(.int k',.i i)],rfl,⟨⟨⟨i,rfl,hw⟩,.int k' (.i i)⟩,trivial⟩,by rw [show b8l P T=0 by unfold b8l a0g;rw [hu];rfl];exact hB.lit _⟩
   ·cases h
  all_goals first
   |(rename_i hu;simp [b1E,hu] at hf;done)
   |skip
  ·rename_i x hu
   split at h
   ·rename_i hl
    simp only [a03,hu] at hk⊢;simp only [f6x,f6S] at h;obtain ⟨rfl,_⟩:=h;exact ⟨1,[(.str,.s x.data.toList)],rfl,⟨⟨⟨x.data.toList,rfl,by rw [Array.length_toList];exact hl⟩,by have:=a1o.str (P:=P) (w:=w) (S:=Sw w) (.s x.data.toList);simpa [D.toS] using this⟩,trivial⟩,by rw [show b8l P T=0 by unfold b8l a0g;rw [hu];rfl];exact hB.str _⟩
   ·cases h
  ·rename_i e hu
   simp only [a03,hu] at hk⊢;simp only [f6x,f6S] at h;obtain ⟨rfl,_⟩:=h;exact ⟨1,[(.sl e,.l true [])],rfl,⟨⟨⟨true,[],rfl,fun _=>rfl,Nat.zero_le _,fun x hx=>by simp at hx⟩,.nil e _ rfl rfl⟩,trivial⟩,by rw [show b8l P T=0 by unfold b8l a0g;rw [hu];rfl];exact hB.nil⟩
  ·rename_i e a len cap hu
   simp only [a03,hu,List.all_cons,List.all_nil,Bool.and_true] at hk⊢;have hq:=List.all_eq_true.1 hTs e (a1U.1 hk);simp only [f6z] at hq;obtain ⟨⟨⟨q1,q2⟩,q3⟩,q4⟩:=hq;dsimp only at h
   split at h
   ·rename_i hc
    obtain ⟨elems,he,h⟩:=Option.bind_eq_some_iff.1 h;have hx:=a8i he;obtain ⟨rest,_,h⟩:=Option.map_eq_some_iff.1 h;simp only [f6S] at h;obtain ⟨rfl,_⟩:=h;have hbk:=c6y hB hx;have hbs:=hB.slice (elems.map (·.1)) (rest.map (·.1))
    by_cases h0:len=0
    ·subst h0
     exact ⟨1,[(.sl e,.l false [])],rfl,⟨⟨⟨false,[],rfl,nofun,Nat.zero_le _,nofun⟩,.emp e _ a cap rfl rfl hc.2.2⟩,trivial⟩,by rw [show b8l P T=0 by unfold b8l a0g;rw [hu];rfl];show a7G []+1+0+0≤_;simp only [a7G];omega⟩
    ·have q2:a0a P e=(kinds P e).length:=f6y q2
     have hsz:0<a0a P e:=by
      rcases Nat.eq_zero_or_pos (a0a P e) with h|h
      ·rw [h] at q4;cases q4
      ·exact h
     have hel0:∀i,∃p:Nat×D×(Nat→Value),i<len→c1s P (TyK P p.1) e p.2.1∧(∀(j:Nat) (k:CK),(kinds P e)[j]?=some k→w.cell? (a.add (i*a0a P e+j))=some (p.2.2 j)∧a1o P w (Sw w) k (elD P e p.2.1 j) (p.2.2 j))∧szD p.2.1≤(((w.cells? 0 (a.add (i*P.cellsOf e)) (P.cellsOf e)).bind (DataW.trod enc P w 0 spare held fuel e)).map fun y=>bk y.1).getD 0:=by
      intro i;by_cases hi:i<len
      ·obtain ⟨y,_,hy⟩:=hx.get (List.getElem?_range hi)
       obtain ⟨cs,hcs,hd⟩:=Option.bind_eq_some_iff.1 hy;obtain ⟨_,hl,hcell⟩:=World.cells?_some hcs;obtain ⟨m,kds,k1,k2,k3⟩:=ih 12 e cs y.1 y.2 q1 q3 hd;obtain ⟨x,x1,x2,x3⟩:=d9f q1 k1 k2;refine ⟨(m,x,fun j=>cs.getD j undef),fun _=>⟨x1,fun j k hj=> ?_,?_⟩⟩
       case refine_2=>
        rw [hy];simp only [f6T,Option.getD_some];rcases x3 with ⟨ha,rfl⟩|⟨ha,x3⟩
        ·unfold b8l at k3;rw [ha] at k3;exact k3
        ·unfold b8l at k3;rw [ha,x3] at k3;simpa [a7G] using k3
       obtain ⟨v,h1,h2⟩:=x2 j k hj;have hjl:=(f6J.1 h1).1;have:=hcell j (by omega)
       rw [Addr.add_add,h1] at this;have e1:cs.getD j undef=v:=by rw [f6F,h1];rfl
       simp only [e1];exact ⟨this,h2⟩
      ·exact ⟨(0,.i 0,fun _=>undef),fun h=>absurd h hi⟩
     obtain ⟨g,hg⟩:=Classical.axiomOfChoice hel0;obtain ⟨m,hm⟩:=b1U (Q:=fun i m=>c1s P (TyK P m) e (g i).2.1) (fun i m m' hmm h=>h.mono fun k d=>TyK.mono hmm) len fun i hi=>⟨_,(hg i hi).1⟩
     have hks:0<(kinds P e).length:=by omega
     have hspot:a.spot=none:=by
      have:=((hg 0 (by omega)).2.1 0 _ (f6L hks)).1
      rw [Nat.zero_mul] at this;exact World.cell?_spot this
     have hadd:∀n,a.add n=⟨a.block,a.off+n,none⟩:=fun n=>by
      unfold Addr.add;split
      ·rename_i h;subst h;cases a;simp_all
      ·rfl
     have hlen:((List.range len).map fun i=>(g i).2.1).length=len:=by simp
     refine ⟨m+1,[(.sl e,.l false ((List.range len).map fun i=>(g i).2.1))],rfl,⟨⟨⟨false,_,rfl,nofun,by rw [hlen];omega,?_⟩,?_⟩,trivial⟩,?_⟩
     ·intro x hx
      obtain ⟨i,hi,rfl⟩:=List.mem_map.1 hx;exact hm i (List.mem_range.1 hi)
     ·have ha:a=⟨a.block,a.off,none⟩:=by cases a;simp_all
      rw [ha];have:=a1o.sl (P:=P) (w:=w) (S:=Sw w) e (.l false ((List.range len).map fun i=>(g i).2.1)) a.block a.off cap (fun i j=>(g i).2.2 j) rfl q2 (by simp only [D.items];omega) hc.2.2
       (fun i hi j hj=>by
        simp only [D.items,hlen] at hi;have:=((hg i hi).2.1 j _ (f6L hj)).1;rw [hadd,←Nat.add_assoc] at this;exact ⟨e4p this,this⟩)
       (fun i hi j k hk=>by
        simp only [D.items,hlen] at hi;have:=((hg i hi).2.1 j k hk).2;simp only [D.items,f6F,List.getElem?_map,List.getElem?_range hi];exact this)
      simpa only [D.items,hlen] using this
     ·have hs:=b3O (f:=fun i=>(g i).2.1) (l:=List.range len) fun i hi=>(hg i (List.mem_range.1 hi)).2.2
      rw [hbk] at hs;rw [show b8l P T=0 by unfold b8l a0g;rw [hu];rfl]
      show a7G _+1+0+0≤_;omega
   ·cases h
  ·rename_i cs _ _ fs hu
   split at h
   ·rename_i hl
    simp only [b1E,hu,f6z,List.all_eq_true] at hf;simp only [a03,hu] at hk⊢;obtain ⟨xs,hxs,he⟩:=Option.map_eq_some_iff.1 h;simp only [f6S] at he;obtain ⟨rfl,_⟩:=he;have hx:=a8i hxs;have hbk:=c6y hB hx;have hba:=hB.agg (xs.map (·.1))
    have hb:∃m,∀j,j<fs.toList.length→ ∀f,fs.toList[j]?=some f→ ∃l:List (CK×D),l.map Prod.fst=a03 P n f.type∧All2 (RT P w m) l ((cs.drop f.offset).take (a0a P f.type))∧a7G (l.map Prod.snd)≤((DataW.trod enc P w 0 spare held fuel f.type ((cs.drop f.offset).take (P.cellsOf f.type))).map fun y=>bk y.1).getD 0:=by
     refine b1U (Q:=fun j m=>∀f,fs.toList[j]?=some f→ ∃l:List (CK×D),l.map Prod.fst=a03 P n f.type∧All2 (RT P w m) l ((cs.drop f.offset).take (a0a P f.type))∧a7G (l.map Prod.snd)≤((DataW.trod enc P w 0 spare held fuel f.type ((cs.drop f.offset).take (P.cellsOf f.type))).map fun y=>bk y.1).getD 0) (fun j m m' hmm h f hf=> ?_) _ fun j hj=> ?_
     ·obtain ⟨l,h1,h2,h3⟩:=h f hf
      exact ⟨l,h1,h2.mono fun _ _ _=>RT.mono hmm,h3⟩
     ·have hjf:=f6L hj
      obtain ⟨y,_,hy⟩:=hx.get hjf;have hfm:=List.mem_of_getElem? hjf;have hff:=hf.2 _ hfm;have hkf:(a03 P n (fs.toList[j]).type).all (okS Ts)=true:=by
       rw [List.all_eq_true] at hk⊢;exact fun k hkk=>hk k (List.mem_flatMap.2 ⟨_,hfm,hkk⟩)
      obtain ⟨m,l,h1,h2,h3⟩:=ih n _ _ y.1 y.2 hff.1 hkf hy;refine ⟨m,fun f hff=> ?_⟩
      rw [hjf] at hff;cases hff;exact ⟨l,h1,h2,by rw [hy];exact Nat.le_trans (Nat.le_add_right _ _) h3⟩
    obtain ⟨m,hb⟩:=hb;have:=b1h (P:=P) (kds:=fun f l=>l.map Prod.fst=a03 P n f.type∧a7G (l.map Prod.snd)≤((DataW.trod enc P w 0 spare held fuel f.type ((cs.drop f.offset).take (P.cellsOf f.type))).map fun y=>bk y.1).getD 0) (R:=RT P w m) hf.1 hl (fun f hfm=>by
     obtain ⟨j,hj⟩:=List.getElem?_of_mem hfm;obtain ⟨l,h1,h2,h3⟩:=hb j (f6J.1 hj).1 f hj;refine ⟨l,⟨h1,h3⟩,h2,?_⟩;have:l.length=(l.map Prod.fst).length:=by simp
     rw [this,h1,f6y (hf.2 f hfm).2])
    obtain ⟨ls,h1,h2⟩:=this;have hfl:=c1u (h1.mono fun f l _ h=>h.2)
    rw [hbk] at hfl;refine ⟨m,ls.flatten,?_,by simpa using h2,by rw [show b8l P T=1 by unfold b8l a0g;rw [hu];rfl];omega⟩
    rw [List.map_flatten];exact c1t (h1.mono fun f l _ h=>h.1)
   ·cases h
  ·rename_i cs _ _ len e hu
   split at h
   ·rename_i hl
    simp only [b1E,hu,f6z] at hf;simp only [a03,hu] at hk⊢;obtain ⟨xs,hxs,he⟩:=Option.map_eq_some_iff.1 h;simp only [f6S] at he;obtain ⟨rfl,_⟩:=he;have hx:=a8i hxs;have hbk:=c6y hB hx;have hba:=hB.agg (xs.map (·.1))
    have e1:=hl.trans (f6y hf.1.1);have hb:∃m,∀i,i<len→ ∃l:List (CK×D),l.map Prod.fst=a03 P n e∧All2 (RT P w m) l ((cs.drop (i*a0a P e)).take (a0a P e))∧a7G (l.map Prod.snd)≤((DataW.trod enc P w 0 spare held fuel e ((cs.drop (i*P.cellsOf e)).take (P.cellsOf e))).map fun y=>bk y.1).getD 0:=by
     refine b1U (Q:=fun i m=>∃l:List (CK×D),l.map Prod.fst=a03 P n e∧All2 (RT P w m) l ((cs.drop (i*a0a P e)).take (a0a P e))∧a7G (l.map Prod.snd)≤((DataW.trod enc P w 0 spare held fuel e ((cs.drop (i*P.cellsOf e)).take (P.cellsOf e))).map fun y=>bk y.1).getD 0) (fun i m m' hmm ⟨l,h1,h2,h3⟩=>⟨l,h1,h2.mono fun _ _ _=>RT.mono hmm,h3⟩) _ fun i hi=> ?_
     obtain ⟨y,_,hy⟩:=hx.get (List.getElem?_range hi);obtain ⟨m,l,h1,h2,h3⟩:=ih n e _ y.1 y.2 hf.1.2 (by
      rw [List.all_eq_true] at hk⊢;refine fun k hkk=>hk k ?_
      cases len with
      |zero=>omega
      |succ len=>rw [List.replicate_succ,List.flatten_cons];simp [hkk]) hy
     exact ⟨m,l,h1,h2,by rw [hy];exact Nat.le_trans (Nat.le_add_right _ _) h3⟩
    obtain ⟨m,hb⟩:=hb;obtain ⟨l,h1,h2,h3⟩:=d2B (R:=RT P w m) (ks:=a03 P n e) (sz:=a0a P e) len (Nat.le_of_eq e1.symm) hb;rw [hbk] at h3;refine ⟨m,l,h1,?_,by rw [show b8l P T=1 by unfold b8l a0g;rw [hu];rfl];omega⟩
    rw [←e1,List.take_length] at h2;exact h2
   ·cases h
  ·cases h
def e8n (P:Program) (Ts:List TypeId) (T:TypeId):Bool:=b1E P 12 T&&(kinds P T).all (okS Ts)&&stB P T
theorem d9j {W:World} {env:Env} {S:a0D} {base:Nat} (hB:b6y bk bkA) (hTs:f3F P Ts=true) {T:TypeId} {v:Value} {d:DataW H} {ps:List MemPlace} (hp:e8n P Ts T=true) (h:DataW.Trod enc P W 0 (fun _=>true) true T v d ps) (ho:Value.okWide P W .any base T v)
  (hk:a0F W (Sw W) W S):∃m ds,a7p P m T ds∧a0x P env S W (e8m P T ds) v∧a7G ds≤bk d:=by
 unfold e8n at hp;simp only [f6z] at hp;obtain ⟨⟨p1,p2⟩,_⟩:=hp;obtain ⟨fuel,h⟩:=h;obtain ⟨m,kds,k1,k2,k3⟩:=c6z hB hTs fuel 12 T _ d ps p1 p2 h;have k1:kds.map Prod.fst=kinds P T:=k1;refine ⟨m,kds.map Prod.snd,?_,?_,Nat.le_trans (Nat.le_add_right _ _) k3⟩
 ·unfold a7p
  rw [←k1];refine .of_get (by simp) fun j x y hx hy=> ?_
  rw [List.getElem?_map] at hx hy;obtain ⟨kd,h1,rfl⟩:=Option.map_eq_some_iff.1 hx;rw [h1] at hy;cases hy;obtain ⟨v,_,hv⟩:=k2.get h1;exact hv.1
 ·have hz:=d2z (env:=env) k2 hk
  rw [k1] at hz;exact d9h p1 ho hz
theorem c1v {W:World} {env:Env} {S:a0D} {base:Nat} (hB:b6y bk bkA) (hTs:f3F P Ts=true) (hk:a0F W (Sw W) W S):∀{Tl:List TypeId} {vs:List Value} {ds:List (DataW H)} {ps:List MemPlace},(∀T∈Tl,e8n P Ts T=true)→DataW.TrodAll enc P W 0 (fun _=>true) true Tl vs ds ps→
  (∀(j:Nat) t v,Tl[j]?=some t→vs[j]?=some v→Value.okWide P W .any base t v)→ ∃m dss,All2 (a7p P m) Tl dss∧All2 (a0x P env S W) (d9g P Tl dss) vs∧(dss.map a7G).sum≤bkA ds
 | [],vs,ds,ps,_,h,_=>by
  obtain ⟨rfl,rfl,rfl⟩:=ChangeShapes.trodAll_nil h;exact ⟨0,[],trivial,trivial,by simp⟩
 |T::Tl,vs,ds,ps,hp,h,ho=>by
  obtain ⟨v,vs1,d,ds1,a,b,rfl,rfl,rfl,h1,h2⟩:=ChangeShapes.trodAll_cons h;obtain ⟨m,x,q1,q2,q5⟩:=d9j (env:=env) hB hTs (hp T (by simp)) h1 (ho 0 T v rfl rfl) hk
  obtain ⟨m',xs,q3,q4,q6⟩:=c1v hB hTs hk (fun T hT=>hp T (by simp [hT])) h2 (fun j t v ht hv=>ho (j+1) t v (by simpa using ht) (by simpa using hv))
  exact ⟨max m m',x::xs,⟨q1.mono fun _ _ _=>TyK.mono (Nat.le_max_left _ _),q3.mono fun _ _ _ h=>h.mono fun _ _ _=>TyK.mono (Nat.le_max_right _ _)⟩,⟨q2,q4⟩,by rw [hB.consA,List.map_cons,List.sum_cons];omega⟩
theorem d2C {W:World} {f:FuncId} {fn:Func} {s:ChangeSpec} {apart a0r handsOn again:Bool} {tb:TypeId} (hB:b6y bk bkA) (Ts:List TypeId) (hTs:f3F P Ts=true) (hl:laidOutB P=true) (hvars:s.vars=[])
  (hres:fn.resultTypes= #[tb]) (htb:P.underlying tb=some .bool) (hpar:fn.params.all (e8n P Ts)=true) (hs:∀l,l.length=fn.params.size→s.fn H l={results:=[.lit (.bool true)],args:=l})
  {base:Nat} {args:Array Value} {ds gs:List (DataW H)} {before:List MemPlace} (hc:∀m dss,All2 (a7p P m) fn.params.toList dss→(dss.map a7G).sum≤bkA ds→a13 P f (d9g P fn.params.toList dss) [] ([.c (.b true)],[]))
  (hgi:∀{M:a0D},(∀b o,¬M b o)→GI P M W)
  (hok:∀(j:Nat) t v,fn.params[j]?=some t→args[j]?=some v→Value.okWide P W .any base t v)
  (hW:DataW.Whole enc P fn.params.toList s.vars apart W args.toList ds gs before):Calls P f args W fun e W'=>∃v,e= .returned v∧s.post enc P fn apart a0r handsOn again W args v W':=by
 have hpar':∀T∈fn.params.toList,e8n P Ts T=true:=by
  rw [Array.all_eq_true_iff_forall_mem] at hpar;exact fun T hT=>hpar T (by simpa using hT)
 let env:Env:=fun _=>⟨0,0,none⟩
 have hkeep:a0F W (Sw W) W (Sof P (Sw W) (a7F P env []) W.heap.size env [] W):=fun b o v hS hc=>⟨⟨.inl hS,hS,fun k ob hg=>by cases hg⟩,hc⟩
 obtain ⟨p,q,h1,_⟩:=id hW;obtain ⟨m,dss,d1,d2,d3⟩:=c1v (env:=env) hB hTs hkeep hpar' h1 (fun j t v ht hv=>hok j t v (by simpa using ht) (by simpa using hv))
 exact e4H hl hvars hres htb (fun T hT=>by
  have:=hpar' T hT;unfold e8n at this;simp only [f6z] at this;exact this.2) hs (hc m dss d1 d3) hgi d2 hW
end
end Go.AM
namespace Go.AM
open Go
section
variable {P:Program} {W:World}
def GAt (W:World) (g:Nat) (ps:List (Value→Prop)):Prop:=∃cur T fr,W.heap[g]?=some (.cells cur T fr)∧cur.size=ps.length∧ ∀(o:Nat) p v,ps[o]?=some p→cur[o]?=some v→p v
theorem f4b {a b c d:Nat} (ha:P.globalNamed "internal/bytealg.MaxLen" =some a) (hb:P.globalNamed "internal/strconv.uint64pow10" =some b) (hc:P.globalNamed "strconv.ErrSyntax" =some c) (hd:P.globalNamed "strconv.ErrRange" =some d)
  (h1:GAt W a [c6f]) (h2:GAt W b ((List.range 20).map fun i v=>v= .int .u64 ((10^i:Nat):Int))) (h3:GAt W c [c0A]) (h4:GAt W d [c0A]) {M:a0D} (hM:∀b o,¬M b o):GI P M W:=by
 intro x hx g hg;refine ⟨hM g,?_⟩;simp only [e22,f6M,List.not_mem_nil,or_false] at hx;rcases hx with rfl|rfl|rfl|rfl
 ·obtain rfl:=Option.some.inj (ha.symm.trans hg);exact h1
 ·obtain rfl:=Option.some.inj (hb.symm.trans hg);exact h2
 ·obtain rfl:=Option.some.inj (hc.symm.trans hg);exact h3
 ·obtain rfl:=Option.some.inj (hd.symm.trans hg);exact h4
theorem c6A {cur:Array Value} {p:Value→Prop} {v0:Value} (h:cur= #[v0]) (hp:p v0):∀(o:Nat) q v,([p]:List (Value→Prop))[o]?=some q→cur[o]?=some v→q v:=by
 intro o q v hq hv;subst h;cases o with
 |zero=>simp at hq hv;subst hq hv;exact hp
 |succ o=>simp at hv
theorem e4J {g t:Nat} {zero:Array Value} (hs:W.ShapedOpen P) (hg:g<P.globals.size) (hrow:(((begin P (fun _ _=>0) default).world.heap[g]?).bind Obj.row?)=some (zero,t)) (hz:zero.size=1) (hb:P.buildable t=true)
  (hct:P.cellTypes P.depth t=some [t]) (hu:P.underlying t=some (.int .i64)):GAt W g [c6f]:=by
 obtain ⟨cs,h1,h2,h3⟩:=hs.1 g zero t hg hrow;obtain ⟨ts,q1,_,q2⟩:=h3 hb;rw [hct] at q1;obtain rfl:=Option.some.inj q1;have hsz:cs.size=1:=h2.trans hz;have hcl:0<cs.size:=by omega
 obtain ⟨u,q3,q4⟩:=q2 0 cs[0] (Array.getElem?_eq_getElem hcl);obtain rfl:t=u:=by simpa using q3
 have hv:c6f cs[0]:=by
  unfold Cell.ok at q4;rw [hu] at q4;generalize cs[0]=v at q4⊢;cases v with
  |int k' n=>exact ⟨n,by rw [q4.1]⟩
  |_=>exact False.elim q4
 refine ⟨cs,t,_,h1,hsz,c6A (v0:=cs[0]) ?_ hv⟩;apply Array.ext
 ·simpa using hsz
 ·intro i hi hi';simp at hi';subst hi';rfl
theorem e4K {g:Nat} {name:String} {k:IntKind} {zs:List Int} (hg:P.globalNamed name=some g) (h:Lib.TabIs P W name k zs) {ps:List (Value→Prop)} (hl:ps.length=zs.length) (hp:∀(i:Nat) p z,ps[i]?=some p→zs[i]?=some z→p (.int k z)):GAt W g ps:=by
 unfold Lib.TabIs World.var? at h;rw [hg] at h;simp only [Option.bind_some] at h;split at h
 ·rename_i cs T fr hh
  simp only [f6x] at h;subst h;refine ⟨_,T,fr,hh,by simp [hl],fun o p v q1 q2=> ?_⟩
  simp only [List.getElem?_toArray,List.getElem?_map,Option.map_eq_some_iff] at q2;obtain ⟨z,q3,rfl⟩:=q2;exact hp o p z q1 q3
 ·cases h
theorem b8m {x:String×DataW Unit}:∀{l:List (String×DataW Unit)} {ps:List MemPlace},DataW.LaidVars P W l ps→x∈l→
  ∃g t cs fuel p,P.globalNamed x.1=some g∧(P.globals[g]?).map (·.type)=some t∧W.var? P x.1=some cs∧DataW.trod (fun _=>()) P W 0 (fun _=>true) false fuel t cs.toList=some (x.2,p)
 |(n,d)::l,ps,h,hx=>by
  obtain ⟨g,t,cs,fuel,p,q,h1,h2,h3,h4,h5,_⟩:=h;rcases f6M.1 hx with rfl|hx
  ·exact ⟨g,t,cs,fuel,p,h1,h2,h3,h4⟩
  ·exact b8m h5 hx
def e3a (P:Program) (t:TypeId):Bool:=match P.underlying t with
 |some (.interface _)=>true
 |_=>false
theorem d2D {l:List (String×DataW Unit)} {name tn:String} {g t:Nat} {d:DataW Unit} (h:laidMet P l W) (hx:(name,DataW.iface tn d)∈l) (hg:P.globalNamed name=some g) (ht:(P.globals[g]?).map (·.type)=some t) (hi:e3a P t=true):GAt W g [c0A]:=by
 obtain ⟨ms,hu⟩:∃ms,P.underlying t=some (.interface ms):=by
  unfold e3a at hi;split at hi
  ·rename_i ms h;exact ⟨ms,h⟩
  ·cases hi
 obtain ⟨ps,hl,_⟩:=h;obtain ⟨g',t',cs,fuel,p,q1,q2,q3,q4⟩:=b8m hl hx;obtain rfl:=Option.some.inj (hg.symm.trans q1);obtain rfl:=Option.some.inj (ht.symm.trans q2);unfold World.var? at q3;rw [hg] at q3;simp only [Option.bind_some] at q3;split at q3
 ·rename_i cs' T fr hh
  simp only [f6x] at q3;subst q3;cases fuel with
  |zero=>cases q4
  | succ fuel=>
   unfold DataW.trod at q4;rw [hu] at q4;have hone:∃u v,cs'.toList=[.iface u v]:=by
    generalize hcl:cs'.toList=cl at q4;match cl,q4 with
    | [.iface u v],_=>exact ⟨u,v,rfl⟩
    | [.nilIface],q4=>simp at q4
   obtain ⟨u,v,hone⟩:=hone;have:cs'= #[.iface u v]:=by rw [←Array.toList_inj];exact hone
   exact ⟨cs',T,fr,hh,by rw [this];rfl,c6A this (.inr ⟨u,v,rfl⟩)⟩
 ·cases q3
end
end Go.AM
namespace Go.AM
open Go Go.RowKit
theorem c4j {α:Type} {k0 k:Nat} {x o:α} (h:get [(k0,x)] k=some o):k=k0∧o=x:=by
 simp only [get,a0o] at h;by_cases hk:k0=k
 ·rw [cond_true (by simpa using hk)] at h;exact ⟨hk.symm,(Option.some.inj h).symm⟩
 ·rw [cond_false (by simpa using hk)] at h;cases h
section
variable {P:Program}
open Go.Sort in
end
end Go.AM
namespace Go.AM
open Go Go.Sort Go.RowKit Go.Proofs
open Classical in
def kOk:CK→Value→Prop
 | .int k,v=>∃n,v= .int k n
 | .bool,v=>∃b,v= .bool b
 | .str,v=>∃s,v= .string s
 | .sl _,v=>∃p n c,v= .slice p n c
 | .oth,v=>v= .nilFunc∨ ∃g,v= .func (.func g) #[] #[]
def f4c:CK→Value
 | .int k=> .int k 0
 | .bool=> .bool false
 | .str=> .string ⟨#[]⟩
 | .sl _=> .slice none 0 0
 | .oth=> .nilFunc
theorem e4L (k:CK):kOk k (f4c k):=by cases k<;>first|exact ⟨_,rfl⟩|exact ⟨_,_,_,rfl⟩|exact .inl rfl
abbrev Elt (ks:List CK):={vs:List Value//All2 kOk ks vs}
theorem c6B:∀ks:List CK,All2 kOk ks (ks.map f4c)
 | []=>trivial
 |k::ks=>⟨e4L k,c6B ks⟩
instance (ks:List CK):Inhabited (Elt ks):=⟨⟨ks.map f4c,c6B ks⟩⟩
section
variable {P:Program}
def d2E (k k':Nat):AL Obj→Option (AL Obj)
 | [(j,.row e ex nl xs)]=>bif Nat.beq j k then some [(k',.row e ex nl xs)] else none
 |(j,.box cs)::r=>bif !(Nat.beq j k)&& !(Nat.beq j k')&&cs.all (fun c=>(a2n c).isEmpty) then (match d2E k k' r with|some r'=>some ((j,.box cs)::r')|none=>none) else none
 |_=>none
theorem c1w {k k':Nat} (hne:k≠k'):∀{m m':AL Obj},d2E k k' m=some m'→
  (∃e ex nl xs,get m k=some (.row e ex nl xs)∧get m' k'=some (.row e ex nl xs))∧
  (∀j ob,get m' j=some ob→j≠k'→get m j=some ob∧j≠k∧ ∃cs,ob= .box cs∧ ∀c∈cs,a2n c=[])∧
  (∀j ob,get m j=some ob→j≠k→get m' j=some ob∧j≠k')
 | [],m',h=>by simp [d2E] at h
 | (j,.row e ex nl xs)::[],m',h=>by
  simp only [d2E,a0o] at h;by_cases hj:j=k
  ·subst hj
   simp only [decide_true,AM.cond_true rfl,f6x] at h;subst h;refine ⟨⟨e,ex,nl,xs,by simp [get,a0o],by simp [get,a0o]⟩,fun i ob hg hi=> ?_,fun i ob hg hi=> ?_⟩
   ·exact absurd (c4j hg).1 hi
   ·exact absurd (c4j hg).1 hi
  ·simp [hj] at h
 |(j,.row e ex nl xs)::y::r,m',h=>by simp [d2E] at h
 |(j,.map _ _ _)::r,m',h=>by simp [d2E] at h
 |(j,.tab _ _ _)::r,m',h=>by simp [d2E] at h
 |(j,.dat _ _)::r,m',h=>by simp [d2E] at h
 |(j,.krow _ _ _ _ _)::r,m',h=>by simp [d2E] at h
 | (j,.box cs)::r,m',h=>by
  simp only [d2E,a0o] at h;cases hc: !(decide (j=k))&& !(decide (j=k'))&&cs.all (fun c=>(a2n c).isEmpty) with
  |false=>rw [hc] at h;cases h
  | true=>
   rw [hc] at h;simp only [AM.cond_true rfl] at h;split at h
   ·rename_i r' hr
    simp only [f6x] at h;subst h;simp only [f6z,Bool.not_eq_true',decide_eq_false_iff_not] at hc;obtain ⟨⟨h1,h2⟩,h3⟩:=hc;obtain ⟨⟨e,ex,nl,xs,g1,g2⟩,g3,g4⟩:=c1w hne hr;have hcs:∀c∈cs,a2n c=[]:=fun c hc=>by
     have:=List.all_eq_true.1 h3 c hc;simpa using this
    refine ⟨⟨e,ex,nl,xs,by simp [get,a0o,h1,g1],by simp [get,a0o,h2,g2]⟩,fun i ob hg hi=> ?_,fun i ob hg hi=> ?_⟩
    ·simp only [get,a0o] at hg⊢
     by_cases hji:j=i
     ·subst hji
      simp only [decide_true,AM.cond_true rfl,f6x] at hg⊢;exact ⟨hg,h1,cs,hg.symm,hcs⟩
     ·simp only [decide_eq_false hji,AM.cond_false rfl] at hg⊢
      exact g3 i ob hg hi
    ·simp only [get,a0o] at hg⊢
     by_cases hji:j=i
     ·subst hji
      simp only [decide_true,AM.cond_true rfl,f6x] at hg⊢;exact ⟨hg,h2⟩
     ·simp only [decide_eq_false hji,AM.cond_false rfl] at hg⊢
      exact g4 i ob hg hi
   ·cases h
end
def bdK (P:Program) (cl:a0e) (h:a53) (kb:Nat) (f:FuncId) (sh:Sh) (L:List Lf):Option Res:=
 match P.funcs[f]? with
 |none=>none
 | some fn=>match fn.body with
  |none=>none
  |some c=>a4z P cl h kb 200 c {tmps:=params 0 (b1g (a0v sh L).tmps),mem:=(a0v sh L).mem} fun e st=>match e with
   | .exit _=>none
   |_=>b6c P fn h.rows kb st
theorem f4d {P:Program} {cl:a0e} {h:a53} {f:FuncId} {sh:Sh} {L:List Lf} (kb:Nat) (hk:(a0v sh L).mem.length=kb):bd P cl h f sh L=bdK P cl h kb f sh L:=by
 subst hk;rfl
end Go.AM
namespace Go.AM
open Go
theorem a2z {α β:Type} {R:α→β→Prop}:∀{xs ys:List α} {zs:List β},All2 R (xs++ys) zs→ ∃z1 z2,zs=z1++z2∧All2 R xs z1∧All2 R ys z2
 | [],ys,zs,h=>⟨[],zs,rfl,trivial,h⟩
 |x::xs,ys,[],h=>h.elim
 |x::xs,ys,z::zs,h=>by
  obtain ⟨z1,z2,rfl,h1,h2⟩:=a2z (xs:=xs) h.2;exact ⟨z::z1,z2,rfl,⟨h.1,h1⟩,h2⟩
section
variable {P:Program}
theorem c8P {env:Env} {S S':a0D} {w:World} {s:a1J} {e:TypeId} {ex n:Bool} {xs:List D} (hk:a0F w S w S') (h:a0y P env S w s (.row e ex n xs)) (hst:n=false→ ∀o,o<xs.length*a0a P e→S' s.blk o):a1o P w S' (.sl e) (.l n xs) s.hdr:=by
 obtain ⟨h0,⟨rfl,rfl,h1⟩|⟨rfl,hb,cap,cur,h1,h2,h3,h4,h5,h6⟩⟩:=h
 ·rw [h1];exact .nil e _ rfl rfl
 ·rw [h1]
  refine .sl e (.l false xs) s.blk 0 cap (fun i j=>(w.cell? ⟨s.blk,i*a0a P e+j,none⟩).getD undef) rfl h0 h3 h4 ?_ ?_
  ·intro i hi j hj
   obtain ⟨k,hk⟩:∃k,(kinds P e)[j]?=some k:=⟨_,f6L hj⟩;obtain ⟨u,hu,_⟩:=h6 i j k hi hk;have hc:=h2.cell hu;rw [Nat.zero_add,hc];exact ⟨hst rfl _ (a4h hi (h0▸hj)),rfl⟩
  ·intro i hi j k hkk
   obtain ⟨u,hu,hr⟩:=h6 i j k hi hkk;rw [h2.cell hu];exact hr.mono hk
theorem e4M {env:Env} {S:a0D} {w:World} {s:a1J} {e:TypeId} {ex:Bool} {xs:List D} (h:a0y P env S w s (.row e ex false xs)):s.blk<w.heap.size:=by
 obtain ⟨_,⟨hn,_⟩|⟨_,_,cap,cur,_,h2,_⟩⟩:=h
 ·cases hn
 ·exact h2.lt
theorem c4k {f:FuncId} {args:List V} {mem:AL Obj} {cs:List C} {eD eK kD kK:Nat} {nD nK:Bool} {xD xK:List D} (hcs:∀c∈cs,a2n c=[]) (hne:kK≠kD)
  (h:a13 P f args mem ([.g (cs++[.o kD,.o kK])],[(kK,.row eK true nK xK),(kD,.row eD true nD xD)])):a13 P f args mem ([.g (cs++[.sl eD nD xD,.kp kK])],[(kK,.row eK true nK xK)]):=by
 intro B env w vs hpre hall;refine (h B env w vs hpre hall).mono ?_;rintro en w' ⟨v,he,env',M,hv⟩;have gK:get [(kK,Obj.row eK true nK xK),(kD,Obj.row eD true nD xD)] kK=some (.row eK true nK xK):=by simp [get,a0o]
 have gD:get [(kK,Obj.row eK true nK xK),(kD,Obj.row eD true nD xD)] kD=some (.row eD true nD xD):=by simp [get,a0o,hne]
 have hsub:∀k o,get [(kK,Obj.row eK true nK xK)] k=some o→k=kK∧o= .row eK true nK xK:=fun k o hg=>by
  simp only [get,a0o] at hg;by_cases hk:kK=k
  ·rw [cond_true (by simpa using hk)] at hg;cases hg;exact ⟨hk.symm,rfl⟩
  ·rw [cond_false (by simpa using hk)] at hg;cases hg
 have hk:a0F w' (Sof P B (a7F P env mem) w.heap.size env' [(kK,Obj.row eK true nK xK),(kD,Obj.row eD true nD xD)] w') w' (Sof P B (a7F P env mem) w.heap.size env' [(kK,Obj.row eK true nK xK)] w'):=by
  intro b o u hS hc;refine ⟨⟨hS.1,hS.2.1,fun k ob hg hm=> ?_⟩,hc⟩
  obtain ⟨rfl,rfl⟩:=hsub k ob hg;exact hS.2.2 _ _ gK hm
 obtain ⟨us,rfl,hall2⟩:=hv;obtain ⟨z1,z2,hz,a1,a2⟩:=a2z hall2;match z2,a2 with
 | [u1,u2],⟨b1,b2,_⟩=>
 refine ⟨_,he,env',⟨M.hn0,fun k o hg=> ?_,fun k k' o o' hg hg' _ _ hkk=> ?_,fun k o b x hg hm=> ?_,fun k e ex xs hg o ho=> ?_,M.ch,M.bb,M.fx,M.gi⟩,us,rfl,?_⟩
 ·obtain ⟨rfl,rfl⟩:=hsub k o hg
  exact a2r hk (fun _=>rfl) (M.ob k _ gK) true
 ·obtain ⟨rfl,_⟩:=hsub k o hg
  obtain ⟨rfl,_⟩:=hsub k' o' hg';exact absurd rfl hkk
 ·obtain ⟨rfl,rfl⟩:=hsub k o hg
  exact M.mu k _ b x gK hm
 ·obtain ⟨rfl,he'⟩:=hsub k _ hg
  cases he';exact M.pr k _ _ _ gK o ho
 ·rw [hz]
  refine All2.append (a1.mono fun x y hx hxy=>a0p.mono hk (fun k hk'=>by simp [hcs x hx] at hk') hxy) ⟨?_,b2,trivial⟩
  have hu:u1=(env' kD).hdr:=b1;show a1o P w' _ (.sl eD) (.l nD xD) u1;rw [hu];refine c8P hk (M.ob kD _ gD) fun hn o ho=>⟨?_,?_,fun k ob hg hm=> ?_⟩
  ·subst hn
   exact M.pr kD _ _ _ gD o ho
  ·subst hn
   exact e4M (M.ob kD _ gD)
  ·obtain ⟨rfl,rfl⟩:=hsub k ob hg
   subst hn;obtain ⟨m1,m2,_⟩:=hm;exact M.ds k kD _ _ gK gD m1 rfl hne m2.symm
theorem c1x {f:FuncId} {args:List V} {mem:AL Obj} {cs:List C} {eK kK:Nat} {nK:Bool} {xK:List D}
  (h:a13 P f args mem ([.g (cs++[.o kK])],[(kK,.row eK true nK xK)])):a13 P f args mem ([.g (cs++[.kp kK])],[(kK,.row eK true nK xK)]):=by
 intro B env w vs hpre hall;refine (h B env w vs hpre hall).mono ?_;rintro en w' ⟨v,he,env',M,hv⟩;obtain ⟨us,rfl,hall2⟩:=hv;obtain ⟨z1,z2,hz,a1,a2⟩:=a2z hall2;match z2,a2 with
 | [u1],⟨b1,_⟩=>exact ⟨_,he,env',M,us,rfl,by rw [hz];exact All2.append a1 ⟨b1,trivial⟩⟩
theorem b3P {f:FuncId} {args:List V} {mem:AL Obj} {cs:List C} {e k k':Nat} {n:Bool} {xs:List D} (hcs:∀c∈cs,a2n c=[]) (hk':mem.length≤k')
  (h:a13 P f args mem ([.g (cs++[.kp k])],[(k,.row e true n xs)])):a13 P f args mem ([.g (cs++[.kp k'])],[(k',.row e true n xs)]):=by
 intro B env w vs hpre hall;refine (h B env w vs hpre hall).mono ?_;rintro en w' ⟨v,he,env',M,hv⟩;have g1:get [(k,Obj.row e true n xs)] k=some (.row e true n xs):=by simp [get,a0o]
 have hu:∀i,i≠k'→upd env' k' (env' k) i=env' i:=fun i hi=>by simp [upd,hi]
 have hu':upd env' k' (env' k) k'=env' k:=by simp [upd]
 have hsub:∀i o,get [(k',Obj.row e true n xs)] i=some o→i=k'∧o= .row e true n xs:=fun i o hg=>c4j hg
 have hk:a0F w' (Sof P B (a7F P env mem) w.heap.size env' [(k,Obj.row e true n xs)] w') w' (Sof P B (a7F P env mem) w.heap.size (upd env' k' (env' k)) [(k',Obj.row e true n xs)] w'):=by
  intro b o u hS hc;refine ⟨⟨hS.1,hS.2.1,fun i ob hg hm=> ?_⟩,hc⟩
  obtain ⟨rfl,rfl⟩:=hsub i ob hg;rw [hu'] at hm;exact hS.2.2 _ _ g1 hm
 obtain ⟨us,rfl,hall2⟩:=hv;obtain ⟨z1,z2,hz,a1,a2⟩:=a2z hall2;match z2,a2 with
 | [u1],⟨b1,_⟩=>
 refine ⟨_,he,upd env' k' (env' k),⟨M.hn0,fun i o hg=> ?_,fun i i' o o' hg hg' _ _ hii=> ?_,fun i o b x hg hm=> ?_,fun i e ex ys hg o ho=> ?_,M.ch,M.bb,fun i hi=> ?_,M.gi⟩,us,rfl,?_⟩
 ·obtain ⟨rfl,rfl⟩:=hsub i o hg
  rw [hu'];exact a2r hk (fun _=>rfl) (M.ob k _ g1) true
 ·obtain ⟨rfl,_⟩:=hsub i o hg
  obtain ⟨rfl,_⟩:=hsub i' o' hg';exact absurd rfl hii
 ·obtain ⟨rfl,rfl⟩:=hsub i o hg
  rw [hu'] at hm;exact M.mu k _ b x g1 hm
 ·obtain ⟨rfl,he'⟩:=hsub i _ hg
  cases he';rw [hu'];exact M.pr k _ _ _ g1 o ho
 ·rw [hu i (by omega)]
  exact M.fx i hi
 ·rw [hz]
  refine All2.append (a1.mono fun x y hx hxy=>a0p.mono hk (fun k hk'=>by simp [hcs x hx] at hk') hxy) ⟨?_,trivial⟩
  show u1=(upd env' k' (env' k) k').hdr;rw [hu'];exact b1
end
inductive d9k (R:St→Ex×St→Prop):St→Ex×St→Prop
 |stop {st out i}:R st (.exit i,out)→d9k R st (.exit i,out)
 |step {st st' r}:R st (.normal,st')→d9k R st' r→d9k R st r
inductive d2F (R:St→Ex×St→Prop):Nat→St→Ex×St→Prop
 |stop {n st out i}:R st (.exit i,out)→d2F R n st (.exit i,out)
 |step {n st st' r}:R st (.normal,st')→d2F R n st' r→d2F R (n+1) st r
theorem d9k.num {R:St→Ex×St→Prop} {st:St} {r:Ex×St} (h:d9k R st r):∃n,d2F R n st r:=by
 induction h with
 |stop h=>exact ⟨0,.stop h⟩
 |step h _ ih=>obtain ⟨n,hn⟩:=ih;exact ⟨n+1,.step h hn⟩
section
variable {P:Program} {N n0 kb:Nat} {F:Nat→Prop} {B M0:a0D} {w0:World} {e0:a5i} {env:Env} {st:St} {a:Act} {w:World}
theorem d2G (h:Rel P N n0 B M0 w0 F e0 env st a w) {key key0 e k q:Nat} {c:C} {xs:List D} (hg:get st.mem key0=some (.krow e k q c xs)) (hkey:¬F key):
  Rel P N n0 B M0 w0 F e0 (upd env key (env key0)) (a0r key (.krow e k q (inval key c) xs) {st with mem:=del st.mem key0}) a w:=by
 have hsub:∀k ob,get (del st.mem key0) k=some ob→get st.mem k=some ob:=fun k ob hk=>(a0B k ob hk).2
 refine Rel.new h hsub key hkey _ _ (fun _ _=>False) (Chg.refl _ w) (fun _ _ hf=>hf.elim) (fun _ _ _ _ _=>rfl) ?_ ?_ ?_ ?_
 ·intro hk
  exact b3s (o:= .krow e k q c xs) hk (fun k hk=>by simp [upd,hk]) (fun _=>rfl) (h.ob _ _ hg)
 ·intro b x hm
  exact .inr ⟨key0,_,hg,a9W (key:=key) (o:= .krow e k q c xs)|>.1 hm⟩
 ·intro hr k ob _ hk hrk
  obtain ⟨h1,h2⟩:=a0B k ob hk;exact h.ds k key0 ob _ h2 hg hrk trivial h1
 ·intro e' ex' xs' he x hx
  cases he
def f4e (t key0 ix:Nat) (st:St):St:=
 match get st.mem key0 with
 | some (.box cs)=>(match cs[ix]? with
  | some (.o key)=>(match get st.mem key with
   |some (.krow e k q c xs)=>bif Nat.beq key t||Nat.beq key0 key||Nat.beq key0 t then st else
    {a0r t (.krow e k q (inval t c) xs) {st with mem:=del st.mem key} with mem:=set (a0r t (.krow e k q (inval t c) xs) {st with mem:=del st.mem key}).mem key0 (c3N (get (a0r t (.krow e k q (inval t c) xs) {st with mem:=del st.mem key}).mem key0) ix (.o t))}
   |_=>st)
  |_=>st)
 |_=>st
theorem c8Q (h:Rel P N n0 B M0 w0 F e0 env st a w) (t key0 ix:Nat) (hkey:¬F t):∃env',Rel P N n0 B M0 w0 F e0 env' (f4e t key0 ix st) a w:=by
 unfold f4e;split
 ·rename_i cs hb
  split
  ·rename_i key hcell
   split
   ·rename_i e k q c xs hrow
    cases hq:Nat.beq key t||Nat.beq key0 key||Nat.beq key0 t with
    |true=>exact ⟨env,h⟩
    | false=>
     simp only [Bool.or_eq_false_iff,a0o,decide_eq_false_iff_not] at hq;obtain ⟨⟨n1,n2⟩,n3⟩:=hq;have hm:=d2G h hrow hkey;have hg:get (a0r t (.krow e k q (inval t c) xs) {st with mem:=del st.mem key}).mem key0=some (.box (cs.map (inval t))):=by
      simp only [a0r,a00,a1g,a4E,if_neg n3,if_neg n2,hb,f6T,a3d]
     simp only [cond_false];rw [hg];refine ⟨_,b8c hm hg (c:= .o key) ?_ (fun v hv=> ?_) fun _ _ _=>trivial⟩
     ·rw [List.getElem?_map,hcell]
      simp only [f6T,inval,a0o,decide_eq_false n1,cond_false]
     ·show v=(upd env t (env key) t).hdr
      have hv:v=(upd env t (env key) key).hdr:=hv;rw [hv];simp [upd,n1]
   ·exact ⟨env,h⟩
  ·exact ⟨env,h⟩
 ·exact ⟨env,h⟩
theorem d2H (h:Rel P N n0 B M0 w0 F e0 env st a w) {key e i q:Nat} {xs:List D} {c c':C} (hg:get st.mem key=some (.krow e i q c xs)) (hcc:∀v,a0p P env (Sof P B M0 n0 env st.mem w) w c v→a0p P env (Sof P B M0 n0 env st.mem w) w c' v):
  Rel P N n0 B M0 w0 F e0 env {st with mem:=set st.mem key (.krow e i q c' xs)} a w:=by
 have hget:∀{k ob},get (set st.mem key (.krow e i q c' xs)) k=some ob→ ∃ob0,get st.mem k=some ob0∧(k≠key→ob=ob0)∧(k=key→ob0= .krow e i q c xs∧ob= .krow e i q c' xs):=by
  intro k ob hk;rw [a00] at hk;by_cases he:k=key
  ·rw [if_pos he] at hk
   cases hk;exact ⟨.krow e i q c xs,by rw [he];exact hg,fun hn=>absurd he hn,fun _=>⟨rfl,rfl⟩⟩
  ·rw [if_neg he] at hk
   exact ⟨ob,hk,fun _=>rfl,fun hh=>absurd hh he⟩
 have hmut:∀{k ob ob0:_} {b x:Nat},get (set st.mem key (.krow e i q c' xs)) k=some ob→get st.mem k=some ob0→a2F P (env k) ob b x→a2F P (env k) ob0 b x:=by
  intro k ob ob0 b x hk h0 hm;obtain ⟨ob1,h1,h2,h3⟩:=hget hk;rw [h0] at h1;cases h1;by_cases he:k=key
  ·obtain ⟨rfl,rfl⟩:=h3 he
   exact hm
  ·rw [h2 he] at hm;exact hm
 have hk:a0F w (Sof P B M0 n0 env st.mem w) w (Sof P B M0 n0 env (set st.mem key (.krow e i q c' xs)) w):=fun b o v hS hv=>⟨⟨hS.1,hS.2.1,fun k ob hgk hmu=>by
  obtain ⟨ob0,h1,_⟩:=hget hgk;exact hS.2.2 k ob0 h1 (hmut hgk h1 hmu)⟩,hv⟩
 refine ⟨h.size,h.dfr,h.hn0,fun t x hx=>a0q.mono hk (fun _=>rfl) (h.tm t x hx),?_,?_,?_,?_,h.ch,h.bb,h.fx,h.gi⟩
 ·intro k ob hgk
  obtain ⟨ob0,h1,h2,h3⟩:=hget hgk;by_cases he:k=key
  ·obtain ⟨rfl,rfl⟩:=h3 he
   exact a58 hk rfl rfl rfl (fun v hv=>a0p.mono hk (fun _ _=>rfl) (hcc v hv)) rfl (h.ob k _ h1)
  ·rw [h2 he]
   exact a1r hk (fun _=>rfl) (h.ob k ob0 h1)
 ·intro k k' o o' hgk hgk' hr hr' hne
  obtain ⟨ob0,h1,h2,h3⟩:=hget hgk;obtain ⟨ob0',h1',h2',h3'⟩:=hget hgk';refine h.ds k k' ob0 ob0' h1 h1' ?_ ?_ hne
  ·by_cases he:k=key
   ·rw [(h3 he).1];trivial
   ·rw [←h2 he];exact hr
  ·by_cases he:k'=key
   ·rw [(h3' he).1];trivial
   ·rw [←h2' he];exact hr'
 ·intro k o b x hgk hmu
  obtain ⟨ob0,h1,_⟩:=hget hgk;exact h.mu k ob0 b x h1 (hmut hgk h1 hmu)
 ·intro k e' ex ys hgk
  obtain ⟨ob0,h1,h2,h3⟩:=hget hgk;by_cases he:k=key
  ·obtain ⟨_,h4⟩:=h3 he;cases h4
  ·have:=h2 he
   subst this;exact h.pr k e' ex ys h1
def e4N (t key0:Nat) (st:St):St:=
 match get st.mem key0 with
 | some (.krow e i q (.kp key) xs)=>(match get st.mem key with
  |some (.row e' ex nl ys)=>bif Nat.beq key t||Nat.beq key0 key||Nat.beq key0 t then st else
   {a0r t (.row e' ex nl ys) {st with mem:=del st.mem key} with mem:=set (a0r t (.row e' ex nl ys) {st with mem:=del st.mem key}).mem key0 (.krow e i q (.kp t) xs)}
  |_=>st)
 |_=>st
theorem c4l (h:Rel P N n0 B M0 w0 F e0 env st a w) (t key0:Nat) (hkey:¬F t):∃env',Rel P N n0 B M0 w0 F e0 env' (e4N t key0 st) a w:=by
 unfold e4N;split
 ·rename_i e i q key xs hb
  split
  ·rename_i e' ex nl ys hrow
   cases hq:Nat.beq key t||Nat.beq key0 key||Nat.beq key0 t with
   |true=>exact ⟨env,h⟩
   | false=>
    simp only [Bool.or_eq_false_iff,a0o,decide_eq_false_iff_not] at hq;obtain ⟨⟨n1,n2⟩,n3⟩:=hq;have hm:=b8b h hrow hkey;have hg:get (a0r t (.row e' ex nl ys) {st with mem:=del st.mem key}).mem key0=some (.krow e i q (.kp key) xs):=by
     simp only [a0r,a00,a1g,a4E,if_neg n3,if_neg n2,hb,f6T,a3d,inval,a0o,decide_eq_false n1,cond_false]
    simp only [cond_false];refine ⟨_,d2H hm hg (fun v hv=> ?_)⟩
    show v=(upd env t (env key) t).hdr;have hv:v=(upd env t (env key) key).hdr:=hv;rw [hv];simp [upd,n1]
  ·exact ⟨env,h⟩
 ·exact ⟨env,h⟩
theorem c1y (h:Rel P N n0 B M0 w0 F e0 env st a w) {key e i q:Nat} {xs xs':List D} {c:C} (hg:get st.mem key=some (.krow e i q c xs)) (hl:xs'.length=xs.length) (hx:∀a j,¬(a=i∧j=q)→elD P e (xs'.getD a (.i 0)) j=elD P e (xs.getD a (.i 0)) j) (hcc:∀t v,(kinds P e)[q]?=some t→a0p P env (Sof P B M0 n0 env st.mem w) w c v→a1o P w (Sof P B M0 n0 env st.mem w) t (elD P e (xs'.getD i (.i 0)) q) v):
  Rel P N n0 B M0 w0 F e0 env {st with mem:=set st.mem key (.row e true false xs')} a w:=by
 have hget:∀{k ob},get (set st.mem key (.row e true false xs')) k=some ob→ ∃ob0,get st.mem k=some ob0∧(k≠key→ob=ob0)∧(k=key→ob0= .krow e i q c xs∧ob= .row e true false xs'):=by
  intro k ob hk;rw [a00] at hk;by_cases he:k=key
  ·rw [if_pos he] at hk
   cases hk;exact ⟨.krow e i q c xs,by rw [he];exact hg,fun hn=>absurd he hn,fun _=>⟨rfl,rfl⟩⟩
  ·rw [if_neg he] at hk
   exact ⟨ob,hk,fun _=>rfl,fun hh=>absurd hh he⟩
 have hmut:∀{k ob ob0:_} {b x:Nat},get (set st.mem key (.row e true false xs')) k=some ob→get st.mem k=some ob0→a2F P (env k) ob b x→a2F P (env k) ob0 b x:=by
  intro k ob ob0 b x hk h0 hm;obtain ⟨ob1,h1,h2,h3⟩:=hget hk;rw [h0] at h1;cases h1;by_cases he:k=key
  ·obtain ⟨rfl,rfl⟩:=h3 he
   exact hm.2.1
  ·rw [h2 he] at hm;exact hm
 have hk:a0F w (Sof P B M0 n0 env st.mem w) w (Sof P B M0 n0 env (set st.mem key (.row e true false xs')) w):=fun b o v hS hv=>⟨⟨hS.1,hS.2.1,fun k ob hgk hmu=>by
  obtain ⟨ob0,h1,_⟩:=hget hgk;exact hS.2.2 k ob0 h1 (hmut hgk h1 hmu)⟩,hv⟩
 refine ⟨h.size,h.dfr,h.hn0,fun t x hx=>a0q.mono hk (fun _=>rfl) (h.tm t x hx),?_,?_,?_,?_,h.ch,h.bb,h.fx,h.gi⟩
 ·intro k ob hgk
  obtain ⟨ob0,h1,h2,h3⟩:=hget hgk;by_cases he:k=key
  ·obtain ⟨rfl,rfl⟩:=h3 he
   obtain ⟨a1,a2,a3,a4,cap,cur,a5,a6,a7,a8,a9,⟨u,b1,b2⟩,b3⟩:=h.ob k _ h1;refine ⟨a1,.inr ⟨rfl,a2,cap,cur,by rw [hl];exact a5,a6,by omega,a8,a9,fun m j t hm ht=> ?_⟩⟩
   by_cases hmj:m=i∧j=q
   ·obtain ⟨rfl,rfl⟩:=hmj
    exact ⟨u,b1,(hcc t u ht b2).mono hk⟩
   ·obtain ⟨v,c1,c2⟩:=b3 m j t (by omega) ht hmj
    exact ⟨v,c1,by rw [hx m j hmj];exact c2.mono hk⟩
  ·rw [h2 he]
   exact a1r hk (fun _=>rfl) (h.ob k ob0 h1)
 ·intro k k' o o' hgk hgk' hr hr' hne
  obtain ⟨ob0,h1,h2,h3⟩:=hget hgk;obtain ⟨ob0',h1',h2',h3'⟩:=hget hgk';refine h.ds k k' ob0 ob0' h1 h1' ?_ ?_ hne
  ·by_cases he:k=key
   ·rw [(h3 he).1];trivial
   ·rw [←h2 he];exact hr
  ·by_cases he:k'=key
   ·rw [(h3' he).1];trivial
   ·rw [←h2' he];exact hr'
 ·intro k o b x hgk hmu
  obtain ⟨ob0,h1,_⟩:=hget hgk;exact h.mu k ob0 b x h1 (hmut hgk h1 hmu)
 ·intro k e' ex ys hgk
  obtain ⟨ob0,h1,h2,h3⟩:=hget hgk;by_cases he:k=key
  ·obtain ⟨rfl,h4⟩:=h3 he
   intro o ho;exact (h.mu k _ (env k).blk o h1 rfl).elim (fun q=> .inr (.inr q)) (fun q=> .inr (.inl q))
  ·have:=h2 he
   subst this;exact h.pr k e' ex ys h1
theorem d9l (h:Rel P N n0 B M0 w0 F e0 env st a w) {key kK e eK i q:Nat} {xs xs' ys:List D} {nK ex:Bool} (hne:key≠kK) (hg:get st.mem key=some (.krow e i q (.kp kK) xs)) (hgK:get st.mem kK=some (.row eK ex nK ys)) (hkq:(kinds P e)[q]?=some (.sl eK))
  (hl:xs'.length=xs.length) (hx:∀a j,¬(a=i∧j=q)→elD P e (xs'.getD a (.i 0)) j=elD P e (xs.getD a (.i 0)) j) (hq:elD P e (xs'.getD i (.i 0)) q= .l nK ys):
  Rel P N n0 B M0 w0 F e0 env {st with mem:=set (set st.mem kK (.row eK false nK ys)) key (.row e true false xs')} a w:=by
 have h1:Rel P N n0 B M0 w0 F e0 env {st with mem:=set st.mem kK (.row eK false nK ys)} a w:=h.share1 kK hgK
 have g1:get (set st.mem kK (.row eK false nK ys)) key=some (.krow e i q (.kp kK) xs):=by rw [a00,if_neg hne];exact hg
 have g2:get (set st.mem kK (.row eK false nK ys)) kK=some (.row eK false nK ys):=by rw [a00,if_pos rfl]
 refine c1y (st:={st with mem:=set st.mem kK (.row eK false nK ys)}) h1 g1 hl hx fun t v ht hv=> ?_
 rw [hkq] at ht;cases ht;rw [hq];have:=a3A (x:= .c (.o kK)) h1.ob h1.rows (show a0x P env _ w (.c (.o kK)) v from hv);simp only [b5L,d1A,g2] at this;exact this
def f4f (kb:Nat) (own:Option (Nat×Nat×Nat)) (st:St):St:=match own with
 |some (t,key0,ix)=>e4N (kb+t+1) (kb+t) (f4e (kb+t) key0 ix st)
 |none=>st
theorem a98 (h:Rel P N n0 B M0 w0 F e0 env st a w) {kb:Nat} (hF:∀k,F k→k<kb) (own:Option (Nat×Nat×Nat)):∃env',Rel P N n0 B M0 w0 F e0 env' (f4f kb own st) a w:=by
 cases own with
 |none=>exact ⟨env,h⟩
 |some o=>
  obtain ⟨env1,h1⟩:=c8Q h (kb+o.1) o.2.1 o.2.2 fun hf=>by have:=hF _ hf;omega
  exact c4l h1 _ _ fun hf=>by have:=hF _ hf;omega
def d9m (P:Program) (kb f id:Nat) (X:Ctx) (Fs:a1f) (st:St) (x:Ex×St):Prop:=∃(cl:a0e) (hs:a53) (a b:List Nat) (own:Option (Nat×Nat×Nat)) (n:Nat),a0c P cl∧a08 P hs.los kb f X Fs∧a4z P cl hs kb n (a97 (a1p P f id)) st (fun e st=>some (e,a5h a b (f4f kb own (a29 P kb hs.loops id st))))=some x
theorem d9n {kb f id:Nat} {X:Ctx} {Fs:a1f} {g:St→Option (List (Bool×(Ex×St)))} (hP:a4m P) (h1:c8N P f id=true) (hlp:a1p P f id= .loop (a97 (a1p P f id))) (hfs:a6Z Fs (a1p P f id))
  (h:∀st alts,g st=some alts→ ∀x,a6S alts some=some x→d9k (d9m P kb f id X Fs) st x):a30 P kb (a1p P f id) g X Fs:=by
 intro st alts hst x hx N n0 F B M0 w0 e0 env a w hX hF hok hrel Fe nn hFe;obtain ⟨n,hn⟩:=(h st alts hst x hx).num;rw [hlp] at hok hfs⊢;simp only [okC] at hok;refine a3B (fun m a w=>∃env st,Rel P N n0 B M0 w0 F e0 env st a w∧d2F (d9m P kb f id X Fs) m st x) n ⟨env,st,hrel,hn⟩ ?_
 rintro m a' w' ⟨env',st',h2,h3⟩;have round:∀{y:Ex×St},d9m P kb f id X Fs st' y→(a97 (a1p P f id)).wpIn Fe nn P (c1b P N n0 B M0 w0 F e0 (fun e st=>some (e,st)) y) a' w':=by
  rintro y ⟨cl,hs,ts,ks,own,k,hcl,hal,hk⟩;have hin:∀b'∈a0V (a97 (a1p P f id)),c8F P hs kb b' X Fs:=fun b' hb'=>hal.inner h1 b' (by rw [hlp];simp [a0V,hb'])
  refine wpIn_mono (a93 hX hcl (a8f hP.mixed hcl) hF k hok hfs.loop hin h2 hk Fe nn hFe) ?_;intro e a1 w1 hp;cases e with
  |normal=>obtain ⟨e1,s1,g1,g2⟩:=hp;obtain ⟨e2,g3⟩:=a1A g1 hF hs.loops id;obtain ⟨e3,g4⟩:=a98 g3 hF own;exact ⟨e3,_,a1M g4 ts ks,g2⟩
  |exit i=>obtain ⟨e1,s1,g1,g2⟩:=hp;obtain ⟨e2,g3⟩:=a1A g1 hF hs.loops id;obtain ⟨e3,g4⟩:=a98 g3 hF own;exact ⟨e3,_,a1M g4 ts ks,g2⟩
  |ret=>obtain ⟨e1,s1,g1,g2⟩:=hp;obtain ⟨e2,g3⟩:=a1A g1 hF hs.loops id;obtain ⟨e3,g4⟩:=a98 g3 hF own;exact ⟨e3,_,a1M g4 ts ks,g2⟩
  |_=>exact hp.elim
 cases h3 with
 | @stop _ _ out i hr=>
  refine wpIn_mono (round hr) ?_;intro e a1 w1 hp;cases e with
  |normal=>obtain ⟨_,_,_,h4⟩:=hp;cases h4
  |exit i=>exact hp
  |ret=>exact hp
  |_=>exact hp.elim
 | @step n _ st2 _ hr hrest=>
  refine wpIn_mono (round hr) ?_;intro e a1 w1 hp;cases e with
  |normal=>
   obtain ⟨e1,s1,g1,g2⟩:=hp;cases g2;exact ⟨n,Nat.lt_succ_self n,e1,_,g1,hrest⟩
  |exit i=>obtain ⟨_,_,_,h4⟩:=hp;cases h4
  |ret=>obtain ⟨_,_,_,h4⟩:=hp;cases h4
  |_=>exact hp.elim
end
variable {P:Program} {N n0 kb:Nat} {F:Nat→Prop} {B M0:a0D} {w0:World} {e0:a5i} {env:Env} {st:St} {a:Act} {w:World}
theorem e4O {T T' ty el:TypeId} {key off cp:Nat} {xs ys:List D} {y:V} {vy:Value}
  (h:Rel P N n0 B M0 w0 F e0 env st a w) (hel:a0j P T=some el) (hg:get st.mem key=some (.row el true false xs)) (hvy:a0x P env (Sof P B M0 n0 env st.mem w) w y vy) (hy:a66 P st.mem el T' y=some ys) (h1:a0a P el=1) (ho:off≤xs.length):
  ∃w',(Builtin.copy_ #[T,T'] ty #[.slice (some ⟨(env key).blk,off,none⟩) (xs.length-off) cp,vy]).run P w= .ok (goInt ((min ys.length (xs.length-off):Nat):Int)) w'∧
   Rel P N n0 B M0 w0 F e0 env {st with mem:=set st.mem key (.row el true false (xs.take off++ys.take (xs.length-off)++xs.drop (off+ys.length)))} a w':=by
 obtain ⟨hu,hsl,hty,hpos⟩:=a0h hel;obtain ⟨news,n1,n2,n3,n4,n5⟩:=a70 h hvy hy h1 hsl;obtain ⟨_,⟨hn,_⟩|⟨_,hb,cap,cur,q1,⟨fr,hfr,q2⟩,q3,q4,q5,q6⟩⟩:=h.ob _ _ hg
 ·cases hn
 rw [h1,Nat.mul_one] at q5;generalize hm:min ys.length (xs.length-off)=m;have hlm:(news.take m).length=m:=by rw [List.length_take];omega
 have hfit:(news.take m).length+off≤cur.size:=by rw [hlm];omega
 have hst:=a0Y P (env key).blk off el fr (news.take m) 0 cur w q2 hfr (by rw [Nat.add_zero];omega) fun u hu=>n3 u (List.mem_of_mem_take hu)
 simp only [Nat.add_zero,Nat.zero_add] at hst;have hty1:(sizeOf el).run P w= .ok 1 w:=by rw [a0I hty,h1]
 have hrun:∃c',c'=(cur.toList.take off++news.take m++cur.toList.drop (off+m)).toArray∧(Builtin.copy_ #[T,T'] ty #[.slice (some ⟨(env key).blk,off,none⟩) (xs.length-off) cp,vy]).run P w= .ok (goInt ((m:Nat):Int)) (w.setRow (env key).blk c'):=by
  refine ⟨_,rfl,?_⟩;have n4':=n4 m (by omega)
  simp only [Builtin.copy_,List.getElem?_toArray,List.getElem?_cons_zero,List.getElem?_cons_succ,f6D,run_underlying hu,f6A,n2,hty1];rw [show Nat.min ys.length (xs.length-off)=m from hm,n4'];simp only [f6A,f6D,hst,f6E,hlm]
 obtain ⟨c',hc',hrun⟩:=hrun;refine ⟨_,hrun,?_⟩;have hlt0:(cur.toList.take off).length=off:=by rw [List.length_take,Array.length_toList];omega
 have hsz:c'.size=cur.size:=by rw [hc'];simp only [List.size_toArray,f6N,List.length_drop,Array.length_toList,hlt0,hlm];omega
 have hlen:(xs.take off++ys.take (xs.length-off)++xs.drop (off+ys.length)).length=xs.length:=by simp;omega
 have hseg:∀j:Nat,c'[j]?=if off≤j∧j<off+m then news[j-off]? else cur[j]?:=by
  intro j;rw [hc',List.getElem?_toArray];by_cases hj:j<off
  ·rw [if_neg (by omega),f6P,f6R (by omega),List.getElem?_take,if_pos hj,Array.getElem?_toList]
  ·by_cases hj2:j<off+m
   ·rw [if_pos ⟨by omega,hj2⟩,f6R (by simp only [f6N,hlt0,hlm];omega),f6Q (by omega),hlt0,List.getElem?_take,if_pos (by omega)]
   ·rw [if_neg (by omega),f6Q (by simp only [f6N,hlt0,hlm];omega),List.getElem?_drop,Array.getElem?_toList]
    simp only [f6N,hlt0,hlm];congr 1
    omega
 refine Rel.upd h hg (o':= .row el true false (xs.take off++ys.take (xs.length-off)++xs.drop (off+ys.length))) (w':=w.setRow (env key).blk c') (fun b i=>b=(env key).blk∧off≤i∧i<off+m) ?_ ?_ ?_ (fun hr=>hr) ?_ rfl ?_ ?_
 ·refine a2f q2 (by rw [hsz]) fun i hi=> ?_
  rw [hseg,if_neg (fun hc=>hi ⟨rfl,hc.1,hc.2⟩)]
 ·rintro b i ⟨rfl,_⟩;exact ⟨rfl,rfl,.inl rfl⟩
 ·rintro b i ⟨_,h7,_⟩;exact ⟨rfl,h7,.inl rfl⟩
 ·intro b hb';exact setRow_other _ _ _ _ hb'
 ·intro S' hkp
  refine ⟨hsl,.inr ⟨rfl,hb,cap,_,by rw [hlen];exact q1,a4k hfr q2 (by rw [hsz]),by rw [hlen];exact q3,q4,by rw [h1,Nat.mul_one,←q5];exact hsz,?_⟩⟩
  intro i j kk hi hkk;rw [hlen] at hi;have hj:j=0:=by have:=(f6J.1 hkk).1;omega
  subst hj;rw [h1,Nat.mul_one,Nat.add_zero,hseg];have hx1:(xs.take off).length=off:=by rw [List.length_take];omega
  have hx2:(ys.take (xs.length-off)).length=m:=by rw [List.length_take];omega
  by_cases hlt:off≤i∧i<off+m
  ·rw [if_pos hlt]
   obtain ⟨u,r1,r2⟩:=n5 (i-off) kk (by omega) hkk
   have hgd:(xs.take off++ys.take (xs.length-off)++xs.drop (off+ys.length)).getD i (.i 0)=ys.getD (i-off) (.i 0):=by
    rw [f6F,f6R (by simp only [f6N,hx1,hx2];omega),f6Q (by omega),hx1,List.getElem?_take,if_pos (by omega),f6F]
   exact ⟨u,r1,by rw [hgd];exact r2.mono hkp⟩
  ·rw [if_neg hlt]
   obtain ⟨u,r1,r2⟩:=q6 i 0 kk hi hkk;rw [h1,Nat.mul_one,Nat.add_zero] at r1;have hgd:(xs.take off++ys.take (xs.length-off)++xs.drop (off+ys.length)).getD i (.i 0)=xs.getD i (.i 0):=by
    rw [f6F,f6F];by_cases hj:i<off
    ·rw [f6P,f6R (by omega),List.getElem?_take,if_pos hj]
    ·rw [f6Q (by simp only [f6N,hx1,hx2];omega),List.getElem?_drop]
     simp only [f6N,hx1,hx2];congr 2
     omega
   exact ⟨u,r1,by rw [hgd];exact r2.mono hkp⟩
 ·intro e' ex xs' he i hi
  simp only [Obj.row.injEq] at he;obtain ⟨rfl,rfl,_,rfl⟩:=he;exact h.pr key _ _ xs hg i (by rw [hlen] at hi;exact hi)
end Go.AM
namespace Go.AM
open Go
variable {P:Program} {N n0 kb:Nat} {F:Nat→Prop} {B M0:a0D} {w0:World} {e0:a5i} {env:Env} {st:St} {a:Act} {w:World}
theorem b8n {ops:Array Oper} {Q:Act→Prop} {o:Oper} {rest:List Oper} {v:Value} (hg:o.guard=none) (h:(execOp a.eval o).run P w= .ok (.value v) w) (hk:wpStill P ops w Q rest (a.put o.dst v)):wpStill P ops w Q (o::rest) a:=by
 unfold wpStill;rw [if_pos (by simp [Region.wanted,hg])]
 unfold Oper.still;rw [h,Oper.stillUpon_value];exact hk
theorem a2A {ops:Array Oper} {Q:Act→Prop} {o:Oper} {rest:List Oper} (h:Rel P N n0 B M0 w0 F e0 env st a w) (hd:∀d,o.dst=some d→d<N) (hg:o.guard=none) {x:V} (hv:a1S P st.mem (evu st) (evw st) o=some (true,x))
  (hk:∀v,a0x P env (Sof P B M0 n0 env st.mem w) w x v→Rel P N n0 B M0 w0 F e0 env (st.put o.dst x) (a.put o.dst v) w→wpStill P ops w Q rest (a.put o.dst v)):wpStill P ops w Q (o::rest) a:=by
 obtain ⟨v,h1,h2⟩:=c0N h.ob h.rows h.evu h.evw hv;exact b8n hg h1 (hk v h2 (h.put hd (a0q.of h2)))
theorem a7r {ops:Array Oper} {Q:Act→Prop} {o:Oper} {rest:List Oper} {v:Value} (h:Rel P N n0 B M0 w0 F e0 env st a w) (hd:∀d,o.dst=some d→d<N) (hg:o.guard=none) (hr:(execOp a.eval o).run P w= .ok (.value v) w)
  (hk:Rel P N n0 B M0 w0 F e0 env (st.put o.dst (.c (.v v))) (a.put o.dst v) w→wpStill P ops w Q rest (a.put o.dst v)):wpStill P ops w Q (o::rest) a:=
 b8n hg hr (hk (h.put hd (a0q.of (x:= .c (.v v)) rfl)))
theorem d2I {s f n:Nat} (hn:a4B P s f=some n) (b o:Nat):(Instr.fieldAt s (.pointer (some ⟨b,o,none⟩)) f).run P w= .ok (.pointer (some ⟨b,o+n,none⟩)) w:=by
 unfold a4B at hn;split at hn
 ·rename_i fs hu
  split at hn
  ·rename_i fd hfd
   cases hz:Nat.beq (a0a P fd.type) 0 with
   |true=>rw [hz] at hn;cases hn
   |false=>
    rw [hz] at hn;simp only [cond_false,f6x] at hn;subst hn;have hne:a0a P fd.type≠0:=by rw [a0o] at hz;simpa using hz
    simp only [Instr.fieldAt,f6D,run_underlying hu,f6A,hfd,Instr.sureAddr,f6E,a6T hne]
  ·cases hn
 ·cases hn
theorem c8R {T b o:Nat} {v:Value} (ha:a0g P T=false) (ht:tyB P T=true) (h:w.cell? ⟨b,o,none⟩=some v):(Instr.loadAt T (.pointer (some ⟨b,o,none⟩))).run P w= .ok v w:=by
 simp only [Instr.loadAt,Instr.sureAddr,f6D,f6E,f6A,a2p ha ht h]
theorem a6f {ρ:Operand→Value} {o:Oper} {m:Sem Value} {v:Value} (h:execOp ρ o=(do pure (.value (←m)))) (hm:m.run P w= .ok v w):(execOp ρ o).run P w= .ok (.value v) w:=by
 rw [h,f6D,hm];rfl
theorem d2J {S:a0D} {s:a1J} {e i q:Nat} {c:C} {xs:List D} (h:a0y P env S w s (.krow e i q c xs)):i<xs.length∧ ∃cap u,s.hdr= .slice (some ⟨s.blk,0,none⟩) xs.length cap∧w.cell? ⟨s.blk,i*a0a P e+q,none⟩=some u∧a0p P env S w c u:=by
 obtain ⟨a1,a2,a3,a4,cap,cur,a5,⟨fr,_,a6⟩,a7,a8,a9,⟨u,b1,b2⟩,_⟩:=h;exact ⟨a3,cap,u,a5,by simp only [World.cell?,a6];exact b1,b2⟩
theorem d2K {T e:TypeId} (hu:P.underlying T=some (.slice e)) (hty:tyB P e=true) {b len cap:Nat} {kk:IntKind} {n:Int} (h0:0≤n) (h1:n<len):
  (Instr.indexAt T (.slice (some ⟨b,0,none⟩) len cap) (.int kk n)).run P w= .ok (.pointer (some ⟨b,n.toNat*a0a P e,none⟩)) w:=by
 simp only [Instr.indexAt,asIntOf,f6D,f6E,f6A,run_underlying hu];rw [if_pos ⟨h0,h1⟩];simp only [f6D,a0I hty,f6A,f6E,Addr.add_lit,Nat.zero_add]
theorem d9o {T e:TypeId} (hu:P.underlying T=some (.slice e)) (hty:tyB P e=true) {b len cap:Nat} {kk:IntKind} {n:Int} (h0:0≤n) (h1:n≤len) (h2:n.toNat<cap) (h3:len≤cap):
  (Instr.sliceAt T (.slice (some ⟨b,0,none⟩) len cap) (some (.int kk n)) none none).run P w= .ok (.slice (some ⟨b,n.toNat*a0a P e,none⟩) (len-n.toNat) (cap-n.toNat)) w:=by
 have hr:=a4j (P:=P) (w:=w) (isS:=true) (len:=len) (cap:=cap) (vlo:=some (.int kk n)) (vhi:=none) (a:=n) (b:=len) (.inr ⟨kk,rfl⟩) (.inl ⟨rfl,rfl⟩) h0 h1 (by omega) h3
 simp only [Instr.sliceAt,f6D,run_underlying hu,f6A,Instr.slice,hr,a0I hty,f6E,if_neg (Nat.ne_of_gt h2),f6T,Addr.add_lit,Nat.zero_add,Int.toNat_natCast]
end Go.AM
namespace Go.AM
open Go
variable {P:Program} {N n0 kb:Nat} {F:Nat→Prop} {B M0:a0D} {w0:World} {e0:a5i} {env:Env} {a:Act} {w:World}
theorem d2L {id nn R K T3 T5 T11 T13 e k q eb sf ff:Nat} {i n:Int} {xs xs' bs bs' ys:List D} {o0 o1 o2 o3 o4 o5 o6 o7 o8 o9 o10 o11 o12 o13:Oper} {c:Call} {s0 s1 s2 s3:St} {S4:Value→St} {S5 S6 S7 S8 S9 S10 S11:Value→Value→St} {S12 S13:Value→Value→Value→St} {x0 x1 x2 x6 x7 x8 x9 x12:V} {ts ks:List Nat} {out:St}
 (hm:P.follows .mixedOrders=true) (hlex:Region.lexTailB .any [o0,o1,o2,o3,o4,o5,o6,o7,o8,o9,o10,o11,o12,o13].toArray 13=true) (h:Rel P N n0 B M0 w0 F e0 env s0 a w) (hN:84≤N) (hcl:a4f (fun _=>false) s0=s0)
 (g0:o0.guard=none) (d0:o0.dst=some 70) (g1:o1.guard=none) (d1:o1.dst=some 71) (g2:o2.guard=none) (d2:o2.dst=some 72) (g3:o3.guard=none) (d3:o3.dst=some 73) (g4:o4.guard=none) (d4:o4.dst=some 74) (g5:o5.guard=none) (d5:o5.dst=some 75) (g6:o6.guard=none) (d6:o6.dst=some 76) (g7:o7.guard=none) (d7:o7.dst=some 77) (g8:o8.guard=none) (d8:o8.dst=some 78) (g9:o9.guard=none) (d9:o9.dst=some 79) (g10:o10.guard=none) (d10:o10.dst=some 80) (g11:o11.guard=none) (d11:o11.dst=some 81) (g12:o12.guard=none) (d12:o12.dst=some 82) (g13:o13.guard=none) (d13:o13.dst=some 83)
 (v0:a1S P (s0).mem (evu (s0)) (evw (s0)) o0=some (true,x0)) (e1:s0.put (some 70) x0=s1)
 (v1:a1S P (s1).mem (evu (s1)) (evw (s1)) o1=some (true,x1)) (e2:s1.put (some 71) x1=s2)
 (v2:a1S P (s2).mem (evu (s2)) (evw (s2)) o2=some (true,x2)) (e3:s2.put (some 72) x2=s3)
 (p3:o3.op= .indexAddr T3 (.tmp 71) (.tmp 72)) (u71:evu s3 (.tmp 71)= .c (.o R)) (u72:evu s3 (.tmp 72)= .c (.i .i64 i)) (k3:get s3.mem R=some (.krow e k q (.kp K) xs)) (t3:P.underlying T3=some (.slice e)) (t3':tyB P e=true) (hik:i=k)
 (e4:∀v,s3.put (some 73) (.c (.v v))=S4 v) (p4:o4.op= .fieldAddr sf (.tmp 73) ff) (f4g:a4B P sf ff=some q) (u73:∀v,evu (S4 v) (.tmp 73)= .c (.v v))
 (e5:∀v v',(S4 v).put (some 74) (.c (.v v'))=S5 v v') (u74:∀v v',evu (S5 v v') (.tmp 74)= .c (.v v')) (p5:o5.op= .load T5 (.tmp 74)) (ha5:a0g P T5=false) (ty5:tyB P T5=true)
 (e6:∀v v',(S5 v v').put (some 75) (.c (.o K))=S6 v v')
 (v6:∀v v',a1S P (S6 v v').mem (evu (S6 v v')) (evw (S6 v v')) o6=some (true,x6)) (e7:∀v v',(S6 v v').put (some 76) x6=S7 v v')
 (v7:∀v v',a1S P (S7 v v').mem (evu (S7 v v')) (evw (S7 v v')) o7=some (true,x7)) (e8:∀v v',(S7 v v').put (some 77) x7=S8 v v')
 (v8:∀v v',a1S P (S8 v v').mem (evu (S8 v v')) (evw (S8 v v')) o8=some (true,x8)) (e9:∀v v',(S8 v v').put (some 78) x8=S9 v v')
 (v9:∀v v',a1S P (S9 v v').mem (evu (S9 v v')) (evw (S9 v v')) o9=some (true,x9)) (e10:∀v v',(S9 v v').put (some 79) x9=S10 v v')
 (v10:∀v v',a1S P (S10 v v').mem (evu (S10 v v')) (evw (S10 v v')) o10=some (true,(.c (.i .i64 n)))) (e11:∀v v',(S10 v v').put (some 80) (.c (.i .i64 n))=S11 v v')
 (u75:∀v v',evu (S11 v v') (.tmp 75)= .c (.o K)) (u80:∀v v',evu (S11 v v') (.tmp 80)= .c (.i .i64 n)) (k11:∀v v',get (S11 v v').mem K=some (.row eb true false bs))
 (p11:o11.op= .slice T11 (.tmp 75) (some (.tmp 80)) none none) (t11:P.underlying T11=some (.slice eb)) (t11':tyB P eb=true) (z11:a0a P eb=1) (h0:0≤n) (h1:n.toNat<bs.length)
 (e12:∀v v' v'',(S11 v v').put (some 81) (.c (.v v''))=S12 v v' v'') (v12:∀v v' v'',a1S P (S12 v v' v'').mem (evu (S12 v v' v'')) (evw (S12 v v' v'')) o12=some (true,x12)) (e13:∀v v' v'',(S12 v v' v'').put (some 82) x12=S13 v v' v'')
 (u81:∀v v' v'',evu (S13 v v' v'') (.tmp 81)= .c (.v v'')) (u82:∀v v' v'',evu (S13 v v' v'') (.tmp 82)=x12) (c0:o13.op= .call c) (c1:c.callee= .builtin .copy) (c2:c.args= #[.tmp 81,.tmp 82]) (c3:c.argTypes= #[T11,T13])
 (hel:a0j P T11=some eb) (k13:∀v v' v'',get (S13 v v' v'').mem K=some (.row eb true false bs)) (k13':∀v v' v'',get (S13 v v' v'').mem R=some (.krow e k q (.kp K) xs)) (hy:∀v v' v'',a66 P (S13 v v' v'').mem eb T13 x12=some ys)
 (hb:bs.take n.toNat++ys.take (bs.length-n.toNat)++bs.drop (n.toNat+ys.length)=bs') (hl:xs'.length=xs.length) (hx:∀a j,¬(a=k∧j=q)→elD P e (xs'.getD a (.i 0)) j=elD P e (xs.getD a (.i 0)) j) (hq:elD P e (xs'.getD k (.i 0)) q= .l false bs') (hkq:(kinds P e)[q]?=some (.sl eb)) (hne:R≠K)
 (eo:∀v v' v'' m,a5h ts ks {({S13 v v' v'' with mem:=set (S13 v v' v'').mem K (.row eb true false bs')}:St).put (some 83) (.c (.i .i64 m)) with mem:=set (set (set (S13 v v' v'').mem K (.row eb true false bs')) K (.row eb false false bs')) R (.row e true false xs')}=out):
 (Code.region id [o0,o1,o2,o3,o4,o5,o6,o7,o8,o9,o10,o11,o12,o13].toArray true).wpIn Fence.wide nn P (c1b P N n0 B M0 w0 F e0 (fun e st=>some (e,st)) (.normal,out)) a w:=by
 refine wpIn_wide.2 ?_;refine wp_region_still_tail 13 hm hlex ?_;simp only [List.take_succ_cons,List.take_zero,List.drop_succ_cons,List.drop_zero];have h:=c1m h (fun _=>false) (w.drawn+1)
 rw [hcl] at h;generalize ({w with drawn:=w.drawn+1}:World)=w at h⊢
 refine a2A h (fun dd he=>by rw [d0] at he;cases he;exact Nat.lt_of_lt_of_le (by decide) hN) g0 v0 fun v hv h=> ?_
 rw [d0] at h⊢;rw [e1] at h;generalize a.put (some 70) v=a at h⊢;refine a2A h (fun dd he=>by rw [d1] at he;cases he;exact Nat.lt_of_lt_of_le (by decide) hN) g1 v1 fun v hv h=> ?_
 rw [d1] at h⊢;rw [e2] at h;generalize a.put (some 71) v=a at h⊢;refine a2A h (fun dd he=>by rw [d2] at he;cases he;exact Nat.lt_of_lt_of_le (by decide) hN) g2 v2 fun v hv h=> ?_
 rw [d2] at h⊢;rw [e3] at h;generalize a.put (some 72) v=a at h⊢;have e71:=h.evu (.tmp 71);rw [u71] at e71;have e72:=h.evu (.tmp 72);rw [u72] at e72;have e71:a.eval (.tmp 71)=(env R).hdr:=e71;have e72:a.eval (.tmp 72)= .int .i64 i:=e72;obtain ⟨hk,cap,u,q1,q2,q3⟩:=d2J (h.ob R (.krow e k q (.kp K) xs) k3);have q3:u=(env K).hdr:=q3
 refine a7r h (fun dd he=>by rw [d3] at he;cases he;exact Nat.lt_of_lt_of_le (by decide) hN) g3 (a6f (m:=Instr.indexAt T3 (a.eval (.tmp 71)) (a.eval (.tmp 72))) (by unfold execOp;rw [p3]) (by rw [e71,e72,q1];exact d2K (e:=e) t3 t3' (by omega) (by omega))) fun h=> ?_
 rw [d3] at h⊢;rw [e4] at h;have e73:=h.evu (.tmp 73);rw [u73] at e73;have e73:(a.put (some 73) (.pointer (some ⟨(env R).blk,i.toNat*a0a P e,none⟩))).eval (.tmp 73)= .pointer (some ⟨(env R).blk,i.toNat*a0a P e,none⟩):=e73;generalize hp3:(Value.pointer (some ⟨(env R).blk,i.toNat*a0a P e,none⟩))=p3 at h e73⊢;generalize a.put (some 73) p3=a at h e73⊢;rw [←hp3] at e73
 refine a7r h (fun dd he=>by rw [d4] at he;cases he;exact Nat.lt_of_lt_of_le (by decide) hN) g4 (a6f (m:=Instr.fieldAt sf (a.eval (.tmp 73)) ff) (by unfold execOp;rw [p4]) (by rw [e73];exact d2I f4g _ _)) fun h=> ?_
 rw [d4] at h⊢;rw [e5] at h;have e74:=h.evu (.tmp 74);rw [u74] at e74;have e74:(a.put (some 74) (.pointer (some ⟨(env R).blk,i.toNat*a0a P e+q,none⟩))).eval (.tmp 74)= .pointer (some ⟨(env R).blk,i.toNat*a0a P e+q,none⟩):=e74;generalize hp4:(Value.pointer (some ⟨(env R).blk,i.toNat*a0a P e+q,none⟩))=p4 at h e74⊢;generalize a.put (some 74) p4=a at h e74⊢;rw [←hp4] at e74
 have hr5:(execOp a.eval o5).run P w= .ok (.value u) w:=a6f (m:=Instr.loadAt T5 (a.eval (.tmp 74))) (by unfold execOp;rw [p5]) (by rw [e74];refine c8R ha5 ty5 ?_;rw [show i.toNat=k by omega];exact q2)
 refine b8n g5 hr5 ?_;have h:=h.put (dst:=o5.dst) (fun dd he=>by rw [d5] at he;cases he;exact Nat.lt_of_lt_of_le (by decide) hN) (a0q.of (x:= .c (.o K)) (v:=u) q3)
 rw [d5] at h⊢;rw [e6] at h;generalize a.put (some 75) u=a at h⊢;refine a2A h (fun dd he=>by rw [d6] at he;cases he;exact Nat.lt_of_lt_of_le (by decide) hN) g6 (v6 p3 p4) fun v hv h=> ?_
 rw [d6] at h⊢;rw [e7] at h;generalize a.put (some 76) v=a at h⊢;refine a2A h (fun dd he=>by rw [d7] at he;cases he;exact Nat.lt_of_lt_of_le (by decide) hN) g7 (v7 p3 p4) fun v hv h=> ?_
 rw [d7] at h⊢;rw [e8] at h;generalize a.put (some 77) v=a at h⊢;refine a2A h (fun dd he=>by rw [d8] at he;cases he;exact Nat.lt_of_lt_of_le (by decide) hN) g8 (v8 p3 p4) fun v hv h=> ?_
 rw [d8] at h⊢;rw [e9] at h;generalize a.put (some 78) v=a at h⊢;refine a2A h (fun dd he=>by rw [d9] at he;cases he;exact Nat.lt_of_lt_of_le (by decide) hN) g9 (v9 p3 p4) fun v hv h=> ?_
 rw [d9] at h⊢;rw [e10] at h;generalize a.put (some 79) v=a at h⊢;refine a2A h (fun dd he=>by rw [d10] at he;cases he;exact Nat.lt_of_lt_of_le (by decide) hN) g10 (v10 p3 p4) fun v hv h=> ?_
 rw [d10] at h⊢;rw [e11] at h;generalize a.put (some 80) v=a at h⊢;have e75:=h.evu (.tmp 75);rw [u75] at e75;have e75:a.eval (.tmp 75)=(env K).hdr:=e75;have e80:=h.evu (.tmp 80);rw [u80] at e80;have e80:a.eval (.tmp 80)= .int .i64 n:=e80;obtain ⟨_,⟨hn,_⟩|⟨_,hb0,cap2,cur,r1,r2,r3,_⟩⟩:=h.ob K (.row eb true false bs) (k11 p3 p4)
 ·cases hn
 have hr11:=d9o (P:=P) (w:=w) (T:=T11) (e:=eb) (kk:= .i64) t11 t11' (b:=(env K).blk) (len:=bs.length) (cap:=cap2) h0 (by omega) (by omega) r3
 rw [z11,Nat.mul_one] at hr11;refine a7r h (fun dd he=>by rw [d11] at he;cases he;exact Nat.lt_of_lt_of_le (by decide) hN) g11 (a6f (m:=Instr.sliceAt T11 (a.eval (.tmp 75)) (some (a.eval (.tmp 80))) none none) (by unfold execOp;rw [p11];rfl) (by rw [e75,e80,r1];exact hr11)) fun h=> ?_
 rw [d11] at h⊢;rw [e12] at h;generalize hp11:(Value.slice (some ⟨(env K).blk,n.toNat,none⟩) (bs.length-n.toNat) (cap2-n.toNat))=p11 at h⊢;generalize a.put (some 81) p11=a at h⊢;refine a2A h (fun dd he=>by rw [d12] at he;cases he;exact Nat.lt_of_lt_of_le (by decide) hN) g12 (v12 p3 p4 p11) fun v hv h=> ?_
 rw [d12] at h⊢;rw [e13] at h;generalize a.put (some 82) v=a at h⊢;refine wpStill_nil ?_;have e81:=h.evu (.tmp 81);rw [u81] at e81;have e81:a.eval (.tmp 81)=p11:=e81;have e82:=h.evu (.tmp 82);rw [u82] at e82;obtain ⟨w',hrun,hrel⟩:=e4O (T:=T11) (T':=T13) (ty:=o13.type) (el:=eb) (key:=K) (off:=n.toNat) (cp:=cap2-n.toNat) (xs:=bs) (ys:=ys) h hel (k13 p3 p4 p11) e82 (hy p3 p4 p11) z11 (by omega)
 rw [hp11,←e81] at hrun;refine d2A g13 (v:=goInt ((min ys.length (bs.length-n.toNat):Nat):Int)) (w':=w') ?_ ?_
 ·simp only [execOp,c0,resolve,c1,c2,c3,f6D,f6E,f6A,invoke,builtin,List.map_toArray,List.map_cons,List.map_nil,hrun]
 ·have hf:=hrel.put (dst:=o13.dst) (fun dd he=>by rw [d13] at he;cases he;exact Nat.lt_of_lt_of_le (by decide) hN) (a0q.of (x:= .c (.i .i64 ((min ys.length (bs.length-n.toNat):Nat):Int))) (v:=goInt ((min ys.length (bs.length-n.toNat):Nat):Int)) rfl)
  rw [d13] at hf⊢;rw [hb] at hf;have hf2:=d9l hf hne (xs':=xs') (nK:=false) (ex:=true) (ys:=bs') (by rw [show∀(s:St) (d:Option Nat) (x:V),(s.put d x).mem=s.mem from fun s d x=>by cases d<;>rfl,a00,if_neg hne];exact k13' p3 p4 p11) (by rw [show∀(s:St) (d:Option Nat) (x:V),(s.put d x).mem=s.mem from fun s d x=>by cases d<;>rfl,a00,if_pos rfl]) hkq hl hx hq
  have hf3:=a1M hf2 ts ks;rw [show∀(s:St) (d:Option Nat) (x:V),(s.put d x).mem=s.mem from fun s d x=>by cases d<;>rfl] at hf3
  have eo':=eo p3 p4 p11 ((min ys.length (bs.length-n.toNat):Nat):Int);rw [eo'] at hf3;exact ⟨env,out,hf3,rfl⟩
end Go.AM
namespace Go.AM
open Go
def d9p (k k':Nat) (r:Res):Res:=
 match r.1,d2E k k' r.2 with
 | [.g [.o j],.c (.i kk n)],some m=>bif Nat.beq j k then ([.g [.o k'],.c (.i kk n)],m) else r
 |_,_=>r
def d9q (k k':Nat) (alts:List (Bool×Res)):List (Bool×Res):=alts.map fun x=>(x.1,d9p k k' x.2)
section
variable {P:Program}
theorem c4m {f:FuncId} {args:List V} {mem:AL Obj} {r:Res} {k k':Nat} (hne:k≠k') (hk':mem.length≤k') (h:a13 P f args mem r):a13 P f args mem (d9p k k' r):=by
 unfold d9p;split
 case h_2=>exact h
 rename_i j kk n m hr1 hr2;cases hj:Nat.beq j k with
 |false=>exact h
 |true=>
 have hj:=f6y hj;subst hj;simp only [AM.cond_true rfl];obtain ⟨rs,m0⟩:=r;simp only at hr1 hr2;subst hr1;obtain ⟨⟨e,ex,nl,xs,g1,g2⟩,g3,g4⟩:=c1w hne hr2;intro B env w vs hpre hall;refine (h B env w vs hpre hall).mono ?_;rintro en w' ⟨v,he,env',M,hv⟩;have hu:∀i,i≠k'→upd env' k' (env' j) i=env' i:=fun i hi=>by simp [upd,hi]
 have hu':upd env' k' (env' j) k'=env' j:=by simp [upd]
 have hsub:∀i ob,get m i=some ob→ ∃i0,get m0 i0=some ob∧upd env' k' (env' j) i=env' i0∧(i=k'→i0=j)∧(i≠k'→i0=i∧i≠j):=by
  intro i ob hg;by_cases hi:i=k'
  ·subst hi
   rw [g2] at hg;exact ⟨j,by rw [g1,hg],hu',fun _=>rfl,fun h=>absurd rfl h⟩
  ·obtain ⟨q1,q2,_⟩:=g3 i ob hg hi
   exact ⟨i,q1,hu i hi,fun h=>absurd h hi,fun _=>⟨rfl,q2⟩⟩
 have hk:a0F w' (Sof P B (a7F P env mem) w.heap.size env' m0 w') w' (Sof P B (a7F P env mem) w.heap.size (upd env' k' (env' j)) m w'):=by
  intro b o u hS hc;refine ⟨⟨hS.1,hS.2.1,fun i ob hg hm=> ?_⟩,hc⟩
  obtain ⟨i0,q1,q2,_⟩:=hsub i ob hg;rw [q2] at hm;exact hS.2.2 i0 ob q1 hm
 refine ⟨v,he,upd env' k' (env' j),⟨M.hn0,?_,?_,?_,?_,M.ch,M.bb,?_,M.gi⟩,?_⟩
 ·intro i ob hg
  by_cases hi:i=k'
  ·subst hi
   rw [g2] at hg;cases hg;rw [hu'];obtain ⟨o1,o2|⟨o2,o3,cap,cur,o4,o5,o6,o7,o8,o9⟩⟩:=M.ob j _ g1
   ·exact ⟨o1,.inl o2⟩
   ·exact ⟨o1,.inr ⟨o2,o3,cap,cur,o4,o5,o6,o7,o8,fun a b c d1 d2=>(let ⟨u,u1,u2⟩:=o9 a b c d1 d2;⟨u,u1,u2.mono hk⟩)⟩⟩
  ·obtain ⟨q1,q2,cs,rfl,q4⟩:=g3 i ob hg hi
   rw [hu i hi];obtain ⟨cur,T,c1,c2,c3,c4⟩:=M.ob i _ q1;exact ⟨cur,T,c1,c2,c3.mono fun x y hx=>a0p.mono hk fun a ha=>(by rw [q4 x hx] at ha;cases ha),c4⟩
 ·intro i i' o o' hg hg' hr hr' hii
  obtain ⟨a,a1,a2,a3,a4⟩:=hsub i o hg;obtain ⟨a',b1,b2,b3,b4⟩:=hsub i' o' hg';rw [a2,b2];refine M.ds a a' o o' a1 b1 hr hr' ?_;by_cases h1:i=k'
  ·by_cases h2:i'=k'
   ·exact absurd (h1.trans h2.symm) hii
   ·rw [a3 h1,(b4 h2).1];exact fun h=>(b4 h2).2 h.symm
  ·by_cases h2:i'=k'
   ·rw [b3 h2,(a4 h1).1];exact (a4 h1).2
   ·rw [(a4 h1).1,(b4 h2).1];exact hii
 ·intro i o b x hg hm
  obtain ⟨a,a1,a2,_⟩:=hsub i o hg;rw [a2] at hm;exact M.mu a o b x a1 hm
 ·intro i e' ex' ys hg o ho
  obtain ⟨a,a1,a2,_⟩:=hsub i _ hg;rw [a2];exact M.pr a e' ex' ys a1 o ho
 ·intro i hi
  rw [hu i (by omega)]
  exact M.fx i hi
 ·obtain ⟨vs',q1,q2⟩:=(show∃vs':Array Value,v= .tuple vs'∧All2 (a3R P env' _ w') [.g [.o j],.c (.i kk n)] vs'.toList from hv)
  refine (show∃vs':Array Value,v= .tuple vs'∧All2 (a3R P (upd env' k' (env' j)) _ w') [.g [.o k'],.c (.i kk n)] vs'.toList from ⟨vs',q1,?_⟩);cases hl:vs'.toList with
  |nil=>rw [hl] at q2;exact q2.elim
  | cons u us=>
   rw [hl] at q2;obtain ⟨⟨cs,c1,c2⟩,q3⟩:=q2;refine ⟨⟨cs,c1,?_⟩,?_⟩
   ·cases hc:cs.toList with
    |nil=>rw [hc] at c2;exact c2.elim
    | cons x xs=>
     rw [hc] at c2;obtain ⟨d1,d2⟩:=c2;have d1:x=(env' j).hdr:=d1;refine ⟨?_,?_⟩
     ·show x=(upd env' k' (env' j) k').hdr
      rw [hu'];exact d1
     ·cases xs with
      |nil=>trivial
      |cons=>exact d2.elim
   ·cases us with
    |nil=>exact q3.elim
    |cons x xs=>
     refine ⟨q3.1,?_⟩;cases xs with
     |nil=>trivial
     |cons=>exact q3.2.elim
theorem c1z {k k':Nat}:∀{alts:List (Bool×Res)} {x:Res},a6S (d9q k k' alts) some=some x→ ∃y,a6S alts some=some y∧x=d9p k k' y
 | [],x,h=>by cases h
 |(c,y)::r,x,h=>by
  simp only [d9q,List.map_cons,a6S] at h⊢;cases c with
  |true=>simp only [AM.cond_true rfl,f6x] at h⊢;exact ⟨y,rfl,h.symm⟩
  |false=>simp only [AM.cond_false rfl] at h⊢;exact c1z h
end
theorem Sg.fnR2 {P:Program} {cl:a0e} {kb f:Nat} (s:Sg P kb f) {sh:Sh} {A:List Lf→List (Bool×Res)} (k k':Nat) (hne:Nat.beq k k'=false) (hkb:Nat.ble kb k'=true) (hP:a4m P) (hcl:a0c P cl) (h:∀L x,a6S (A L) some=some x→bd P cl s.h f sh L=some x) (hk:∀L,(a0v sh L).mem.length=kb:=by intro L;rfl):a0G P f sh fun L=>d9q k k' (A L):=
 a8h fun L x hx=>(let ⟨y,h1,h2⟩:=c1z hx;h2▸c4m (fun he=>by rw [he,Nat.beq_refl] at hne;cases hne) (by rw [hk L];exact f6I hkb) (a5J (n:=200) hP hcl s.ok (hk L) (h L y h1)))
end Go.AM
namespace Go.Proofs.YtiegikkpipdleaaGreatDoor
open Go Go.AM
theorem a0b:a4m Tryz.prog:=d2v (by kernel_rfl)
namespace Ce
abbrev LD:Type:=List D
abbrev LB:Type:=List UInt8
variable (N:Nat) {R:Type}
def c1A:List (Nat×List Nat):=[(0,[0]),(1,[0]),(2,[]),(3,[0])]
def c1B:a0E:=[]
def a5K (N:Nat):Sg Tryz.prog 0 55:= .start c1B c1A
def F55x0 (N:Nat) (v0:Bool) (v1:LD) (k0:Bool×LD→Option R):Option R:=
 bif v0 then
  k0 (true,[])
 else
  bif (decide ((0+v1.length)*1≤a0L)&&decide ((0+v1.length)≤a0d)) then
   k0 ((v1.isEmpty&&false),v1)
  else
   none
def G55x0 (v0:Bool) (v1:LD):Option (Bool×LD):=F55x0 N v0 v1 (fun p=>some p)
theorem a8j (v0:Bool) (v1:LD) (k0:Bool×LD→Option R):F55x0 N v0 v1 k0=(G55x0 N v0 v1).bind k0:=by
 unfold G55x0 F55x0
 repeat' (first|with_reducible apply a0f|(with_reducible apply a0m;intro _)|rfl)
def a5L:Sh:={tmps:=[(0,.c (.sl 5))],mem:=[]}
def c1C (L:List Lf):List (Bool×Res):=bnd (F55x0 N (lb L 0) (ll L 1) (fun p=>some p)) fun q=>[(q.isSome,([.c (.sl 5 (q.getD default).1 (q.getD default).2)],[]))]
theorem b3Q (L:List Lf):bd Tryz.prog a3k (a5K N).h 55 a5L L=F55x0 N (lb L 0) (ll L 1) (fun p=>some ([.c (.sl 5 p.1 p.2)],[])):=by kernel_rfl
theorem c1D:a0G Tryz.prog 55 a5L (c1C N):=
 (a5K N).fn a0b a1N fun L x hx=>((b3Q N L).trans ((a8j N ..).trans (a0N x hx)))
def a8k:a0e:=ext 55 (a1E a5L (c1C N)) a3k
theorem a2B:a0c Tryz.prog (a8k N):=a0G.to (c1D N) a1N
def d2M:List (Nat×List Nat):=[(0,[0]),(1,[0]),(2,[]),(3,[0])]
def d2N:a0E:=[]
def b3R (N:Nat):Sg Tryz.prog 0 68:= .start d2N d2M true
def b3S (N:Nat) (v0:Bool) (v1:LD) (k0:Unit→Option R) (k1:Bool→Option R):Option R:=
 bif v0 then
  k0 ()
 else
  bif (decide ((0+v1.length)*40≤a0L)&&decide ((0+v1.length)≤a0d)) then
   k1 (v1.isEmpty&&false)
  else
   none
def c1E (v0:Bool) (v1:LD):Option (Sum (Unit) (Bool)):=b3S N v0 v1 (fun p=>some (.inl p)) (fun p=>some (.inr p))
theorem b8o (v0:Bool) (v1:LD) (k0:Unit→Option R) (k1:Bool→Option R):b3S N v0 v1 k0 k1=(c1E N v0 v1).bind (a1a k0 k1):=by
 unfold c1E b3S
 repeat' (first|with_reducible apply a0f|(with_reducible apply a0m;intro _)|rfl)
def b3T:Sh:={tmps:=[(0,.c (.sl 40))],mem:=[]}
def d2O (L:List Lf):List (Bool×Res):=bnd (b3S N (lb L 0) (ll L 1) (fun p=>some (.inl p)) (fun p=>some (.inr p))) fun q=>[((a0O q),([.c (.sl 40 true [])],[])),((a0l q).isSome,([.c (.o 7)],[(7,.row 40 true ((a0l q).getD default) (ll L 1))]))]
theorem c4n (L:List Lf):bd Tryz.prog (a8k N) (b3R N).h 68 b3T L=b3S N (lb L 0) (ll L 1) (fun _=>some ([.c (.sl 40 true [])],[])) (fun p=>some ([.c (.o 7)],[(7,.row 40 true p (ll L 1))])):=by kernel_rfl
theorem d2P:a0G Tryz.prog 68 b3T (d2O N):=
 (b3R N).fn a0b (a2B N) fun L x hx=>((c4n N L).trans ((b8o N ..).trans ((a27 a0N) x hx)))
def c4o:a0e:=ext 68 (a1E b3T (d2O N)) (a8k N)
theorem a8l:a0c Tryz.prog (c4o N):=a0G.to (d2P N) (a2B N)
def d2Q:List (Nat×List Nat):=[(0,[0]),(1,[0]),(2,[]),(3,[0])]
def d2R:a0E:=[]
def b3U (N:Nat):Sg Tryz.prog 0 69:= .start d2R d2Q true
def F69x0 (N:Nat) (v0:Bool) (v1:LD) (k0:Unit→Option R) (k1:Bool→Option R):Option R:=
 bif v0 then
  k0 ()
 else
  bif (decide ((0+v1.length)*24≤a0L)&&decide ((0+v1.length)≤a0d)) then
   k1 (v1.isEmpty&&false)
  else
   none
def G69x0 (v0:Bool) (v1:LD):Option (Sum (Unit) (Bool)):=F69x0 N v0 v1 (fun p=>some (.inl p)) (fun p=>some (.inr p))
theorem b8p (v0:Bool) (v1:LD) (k0:Unit→Option R) (k1:Bool→Option R):F69x0 N v0 v1 k0 k1=(G69x0 N v0 v1).bind (a1a k0 k1):=by
 unfold G69x0 F69x0
 repeat' (first|with_reducible apply a0f|(with_reducible apply a0m;intro _)|rfl)
def b3V:Sh:={tmps:=[(0,.c (.sl 37))],mem:=[]}
def d2S (L:List Lf):List (Bool×Res):=bnd (F69x0 N (lb L 0) (ll L 1) (fun p=>some (.inl p)) (fun p=>some (.inr p))) fun q=>[((a0O q),([.c (.sl 37 true [])],[])),((a0l q).isSome,([.c (.o 7)],[(7,.row 37 true ((a0l q).getD default) (ll L 1))]))]
theorem c4p (L:List Lf):bd Tryz.prog (c4o N) (b3U N).h 69 b3V L=F69x0 N (lb L 0) (ll L 1) (fun _=>some ([.c (.sl 37 true [])],[])) (fun p=>some ([.c (.o 7)],[(7,.row 37 true p (ll L 1))])):=by kernel_rfl
theorem d2T:a0G Tryz.prog 69 b3V (d2S N):=
 (b3U N).fn a0b (a8l N) fun L x hx=>((c4p N L).trans ((b8p N ..).trans ((a27 a0N) x hx)))
def T69x0:a0e:=ext 69 (a1E b3V (d2S N)) (c4o N)
theorem T69x0_ok:a0c Tryz.prog (T69x0 N):=a0G.to (d2T N) (a8l N)
def d2U:List (Nat×List Nat):=[(0,[0]),(1,[1,2]),(2,[1,2]),(3,[1,2]),(4,[15,14,1,2]),(5,[15,1,14,2]),(6,[1,3,15,14,2]),(7,[15,14,1,2]),(8,[1,2])]
def d2V:a0E:=[(7,[1,2],[1,2],[]),(12,[1,2,14,15],[1,2,11000000007],[]),(19,[1,2,3,14,15],[1,2,11000000007],[])]
def b3W (N:Nat):Sg Tryz.prog 0 58:= .start d2V d2U
def a3D (w3:Bool) (w4:LD) (k0:Unit→Option R) (k1:Bool→Option R):Option R:=
 bnd (c1E N w3 w4) fun y0=>
 bif (a0O y0) then
  k0 ()
 else
  bif (a0l y0).isSome then
   k1 ((a0l y0).getD default)
  else
   none
def G58x0x7 (w3:Bool) (w4:LD):Option (Sum (Unit) (Bool)):=a3D N w3 w4 (fun p=>some (.inl p)) (fun p=>some (.inr p))
theorem a99 (w3:Bool) (w4:LD) (k0:Unit→Option R) (k1:Bool→Option R):a3D N w3 w4 k0 k1=(G58x0x7 N w3 w4).bind (a1a k0 k1):=by
 unfold G58x0x7 a3D
 repeat' (first|with_reducible apply a0f|(with_reducible apply a0m;intro _)|rfl)
def a4Q:Sh:={tmps:=[(1,.c (.p 1 0)),(2,.c (.p 2 0))],mem:=[(1,.box ([.i .i64,.i .i64,.i .i64,.sl 40,.sl 5])),(2,.box ([.i .i64,.i .i64,.i .i64,.sl 40,.sl 5]))]}
def a5M (L:List Lf) (_:Unit):Ex×St:=(.normal,mg (a0v a4Q L) [1,2] [] [1,2] [(1,.box [.i .i64 (li L 0),.i .i64 (li L 1),.i .i64 (li L 2),.sl 40 true [],.sl 5 (lb L 5) (ll L 6)])])
def a5N (L:List Lf) (p:Bool):Ex×St:=(.normal,mg (a0v a4Q L) [1,2] [] [1,2,11000000007] [(1,.box [.i .i64 (li L 0),.i .i64 (li L 1),.i .i64 (li L 2),.o 11000000007,.sl 5 (lb L 5) (ll L 6)]),(11000000007,.row 40 true p (ll L 4))])
def c4q (L:List Lf):List (Bool×(Ex×St)):=bnd (a3D N (lb L 3) (ll L 4) (fun p=>some (.inl p)) (fun p=>some (.inr p))) fun q=>[((a0O q),a5M L ()),((a0l q).isSome,a5N L ((a0l q).getD default))]
theorem b3X (L:List Lf):pc Tryz.prog (T69x0 N) (b3W N).h 0 100 58 7 a4Q L [1,2] [1,2,11000000007]=a3D N (lb L 3) (ll L 4) (fun _=>some (a5M L ())) (fun p=>some (a5N L p)):=by kernel_rfl
def b3Y:Sg Tryz.prog 0 58:=
 (b3W N).cut (c4q N) a0b (T69x0_ok N) fun L x hx=>(b3X N L).trans ((a99 N ..).trans ((a27 a0N) x hx))
def F58x0x19 (w0:Int) (w16:LD) (k0:LD→Option R):Option R:=
 bif (inB w0 w16.length) then
  bif (decide (w0.toNat<w16.length)) then
   bnd (G69x0 N ((w16.getD w0.toNat (.i 0)).cell 2).isNil ((w16.getD w0.toNat (.i 0)).cell 2).items) fun y0=>
   bif (a0O y0) then
    bif (inB w0 w16.length) then
     bif (decide (w0.toNat<w16.length)) then
      bnd ((w16.set w0.toNat (.a [(.b ((w16.getD w0.toNat (.i 0)).cell 0).toB),(.i ((w16.getD w0.toNat (.i 0)).cell 1).toI),(.l true [])])):List D) fun y1=>
      k0 y1
     else
      none
    else
     none
   else
    bif (a0l y0).isSome then
     bif (inB w0 w16.length) then
      bif (decide (w0.toNat<w16.length)) then
       bnd ((w16.set w0.toNat (.a [(.b ((w16.getD w0.toNat (.i 0)).cell 0).toB),(.i ((w16.getD w0.toNat (.i 0)).cell 1).toI),(.l ((a0l y0).getD default) ((w16.getD w0.toNat (.i 0)).cell 2).items)])):List D) fun y2=>
       k0 y2
      else
       none
     else
      none
    else
     none
  else
   none
 else
  none
def G58x0x19 (w0:Int) (w16:LD):Option (LD):=F58x0x19 N w0 w16 (fun p=>some p)
theorem a7s (w0:Int) (w16:LD) (k0:LD→Option R):F58x0x19 N w0 w16 k0=(G58x0x19 N w0 w16).bind k0:=by
 unfold G58x0x19 F58x0x19
 repeat' (first|with_reducible apply a0f|(with_reducible apply a0m;intro _)|rfl)
def a5O:Sh:={tmps:=[(1,.c (.p 1 0)),(2,.c (.p 2 0)),(3,.c (.i .i64)),(14,.c (.i .i64)),(15,.c (.i .i64))],mem:=[(1,.box ([.i .i64,.i .i64,.i .i64,.o 11000000007,.sl 5])),(2,.box ([.i .i64,.i .i64,.i .i64,.sl 40,.sl 5])),(11000000007,.row 40 true)]}
def a4o (L:List Lf) (p:LD):Ex×St:=(.normal,mg (a0v a5O L) [1,2,14,15] [] [1,2,11000000007] [(11000000007,.row 40 true (lb L 15) p)])
def b8q (L:List Lf):List (Bool×(Ex×St)):=bnd (F58x0x19 N (li L 0) (ll L 16) (fun p=>some p)) fun q=>[(q.isSome,a4o L (q.getD default))]
theorem b0a (L:List Lf):pc Tryz.prog (T69x0 N) (b3Y N).h 0 100 58 19 a5O L [1,2,14,15] [1,2,11000000007]=F58x0x19 N (li L 0) (ll L 16) (fun p=>some (a4o L p)):=by kernel_rfl
def b3Z:Sg Tryz.prog 0 58:=
 (b3Y N).cut (b8q N) a0b (T69x0_ok N) fun L x hx=>(b0a N L).trans ((a7s N ..).trans (a0N x hx))
def a4R (w0:Int) (w1:Int) (w15:LD) (kr:Int→LD→Option R) (k0:LD→Option R):Option R:=
 bif (decide (w1<w0)) then
  bnd (G58x0x19 N w1 w15) fun y0=>
  bif y0.isSome then
   kr (IntKind.wrap .i64 (w1+1)) (y0.getD default)
  else
   none
 else
  k0 w15
def a4S (N:Nat) {R:Type} (w0:Int):Nat→Int→LD→(LD→Option R)→Option R
 |0,_,_,_=>none
 |m+1,w1,w15,k0=>a4R N w0 w1 w15 (fun w1 w15=>a4S N w0 m w1 w15 k0) k0
def G58x0x12 (w0:Int) (w1:Int) (w15:LD):Option (LD):=a4S N (R:=(LD)) w0 N w1 w15 (fun p=>some p)
def a2C (L x:List Lf) (kr:List Lf→Option R) (k0:LD→Option R):Option R:=a4R N (li L 0) (li x 0) (ll x 1) (fun w1 w15=>kr [.i w1,.l w15]) k0
theorem a5P (L x:List Lf) (kr:List Lf→Option R) (k0:LD→Option R):a2C N L x kr k0=(a2C N L x (fun y=>some (.inl y)) (fun p=>some (.inr p))).bind (a1a kr k0):=by
 unfold a2C a4R
 repeat' (first|with_reducible apply a0f|(with_reducible apply a0m;intro _)|rfl)
def a3l (L:List Lf) (m:Nat) (x:List Lf):Option (LD):=a4S N (R:=(LD)) (li L 0) m (li x 0) (ll x 1) (fun p=>some p)
def a1O:Sh:={tmps:=[(1,.c (.p 1 0)),(2,.c (.p 2 0)),(14,.c (.i .i64)),(15,.c (.i .i64))],mem:=[(1,.box ([.i .i64,.i .i64,.i .i64,.o 11000000007,.sl 5])),(2,.box ([.i .i64,.i .i64,.i .i64,.sl 40,.sl 5])),(11000000007,.row 40 true)]}
def a4p (L:List Lf) (p:LD):Ex×St:=((.exit 0),mg (a0v a1O L) [1,2] [] [1,2,11000000007] [(11000000007,.row 40 true (lb L 14) p)])
def b8r (L:List Lf):List (Bool×(Ex×St)):=bnd (a3l N L N (pk a1O [1,15] L)) fun q=>[(q.isSome,a4p L (q.getD default))]
theorem a7t (m:Nat) (kn:St→Option (Ex×St)) (L x:List Lf):lpB Tryz.prog (T69x0 N) (b3Z N).h 0 58 12 a1O [1,15] [1,2] [1,2,11000000007] (m+100) kn L x=a2C N L x (fun y=>kn (a0v a1O (mx a1O [1,15] L y))) (fun p=>some (a4p L p)):=by kernel_rfl
theorem b30 (L:List Lf) (m:Nat) (x:List Lf):a3l N L (m+1) x=a2C N L x (a3l N L m) some:=by kernel_rfl
def b31:Sg Tryz.prog 0 58:=
 (b3Z N).lp (b8r N) N a0b (T69x0_ok N) (fun m kn L x=>(a7t N m kn L x).trans (a5P N L x _ _)) (fun L m x=>(b30 N L m x).trans (a5P N L x (a3l N L m) some)) fun L x hx=>a0N x hx
def F58x0 (v3:Bool) (v4:LD) (v5:Bool) (v6:LD) (k0:Bool×LD×Bool×LD→Option R):Option R:=
 bnd (G55x0 N v5 v6) fun y0=>
 bif y0.isSome then
  bnd (G58x0x7 N v3 v4) fun y1=>
  bif (a0O y1) then
   k0 (true,[],(y0.getD default).1,(y0.getD default).2)
  else
   bif (a0l y1).isSome then
    bnd (G58x0x12 N (v4.length:Int) 0 v4) fun y2=>
    bif y2.isSome then
     k0 (((a0l y1).getD default),(y2.getD default),(y0.getD default).1,(y0.getD default).2)
    else
     none
   else
    none
 else
  none
def G58x0 (v3:Bool) (v4:LD) (v5:Bool) (v6:LD):Option (Bool×LD×Bool×LD):=F58x0 N v3 v4 v5 v6 (fun p=>some p)
theorem bind58x0 (v3:Bool) (v4:LD) (v5:Bool) (v6:LD) (k0:Bool×LD×Bool×LD→Option R):F58x0 N v3 v4 v5 v6 k0=(G58x0 N v3 v4 v5 v6).bind k0:=by
 unfold G58x0 F58x0
 repeat' (first|with_reducible apply a0f|(with_reducible apply a0m;intro _)|rfl)
def d2W (L:List Lf) (k0:Bool×LD×Bool×LD→Option R):Option R:=F58x0 N (lb L 3) (ll L 4) (lb L 5) (ll L 6) k0
def sh58x0:Sh:={tmps:=[(0,.g ([.i .i64,.i .i64,.i .i64,.sl 40,.sl 5]))],mem:=[]}
def b32 (L:List Lf) (p:Bool×LD×Bool×LD):Res:=([.g [.i .i64 (li L 0),.i .i64 (li L 1),.i .i64 (li L 2),.sl 40 p.1 p.2.1,.sl 5 p.2.2.1 p.2.2.2]],[])
def d2X (L:List Lf):List (Bool×Res):=bnd (d2W N L (fun p=>some p)) fun q=>[(q.isSome,b32 L (q.getD default))]
theorem raw58x0 (L:List Lf):bd Tryz.prog (T69x0 N) (b31 N).h 58 sh58x0 L=d2W N L (fun p=>some (b32 L p)):=by kernel_rfl
theorem d2Y:a0G Tryz.prog 58 sh58x0 (d2X N):=
 (b31 N).fn a0b (T69x0_ok N) fun L x hx=>((raw58x0 N L).trans ((bind58x0 N ..).trans (a0N x hx)))
def c8S:a0e:=ext 58 (a1E sh58x0 (d2X N)) (T69x0 N)
theorem b1V:a0c Tryz.prog (c8S N):=a0G.to (d2Y N) (T69x0_ok N)
end Ce
end Go.Proofs.YtiegikkpipdleaaGreatDoor
namespace Go.Proofs.YtiegikkpipdleaaGreatDoor
open Go Go.AM
namespace Ce
namespace Hd
abbrev LD:Type:=List D
abbrev LB:Type:=List UInt8
variable (N:Nat) {R:Type}
def c1A:List (Nat×List Nat):=[(0,[0]),(1,[0]),(2,[]),(3,[0])]
def c1B:a0E:=[]
def a5K (N:Nat):Sg Tryz.prog 0 55:= .start c1B c1A true
def F55x0 (N:Nat) (v0:Bool) (v1:LD) (k0:Unit→Option R) (k1:Bool→Option R):Option R:=
 bif v0 then
  k0 ()
 else
  bif (decide ((0+v1.length)*1≤a0L)&&decide ((0+v1.length)≤a0d)) then
   k1 (v1.isEmpty&&false)
  else
   none
def G55x0 (v0:Bool) (v1:LD):Option (Sum (Unit) (Bool)):=F55x0 N v0 v1 (fun p=>some (.inl p)) (fun p=>some (.inr p))
theorem a8j (v0:Bool) (v1:LD) (k0:Unit→Option R) (k1:Bool→Option R):F55x0 N v0 v1 k0 k1=(G55x0 N v0 v1).bind (a1a k0 k1):=by
 unfold G55x0 F55x0
 repeat' (first|with_reducible apply a0f|(with_reducible apply a0m;intro _)|rfl)
def a5L:Sh:={tmps:=[(0,.c (.sl 5))],mem:=[]}
def c1C (L:List Lf):List (Bool×Res):=bnd (F55x0 N (lb L 0) (ll L 1) (fun p=>some (.inl p)) (fun p=>some (.inr p))) fun q=>[((a0O q),([.c (.sl 5 true [])],[])),((a0l q).isSome,([.c (.o 7)],[(7,.row 5 true ((a0l q).getD default) (ll L 1))]))]
theorem b3Q (L:List Lf):bd Tryz.prog a3k (a5K N).h 55 a5L L=F55x0 N (lb L 0) (ll L 1) (fun _=>some ([.c (.sl 5 true [])],[])) (fun p=>some ([.c (.o 7)],[(7,.row 5 true p (ll L 1))])):=by kernel_rfl
theorem c1D:a0G Tryz.prog 55 a5L (c1C N):=
 (a5K N).fn a0b a1N fun L x hx=>((b3Q N L).trans ((a8j N ..).trans ((a27 a0N) x hx)))
def a8k:a0e:=ext 55 (a1E a5L (c1C N)) a3k
theorem a2B:a0c Tryz.prog (a8k N):=a0G.to (c1D N) a1N
def d2M:List (Nat×List Nat):=[(0,[0]),(1,[0]),(2,[]),(3,[0])]
def d2N:a0E:=[]
def b3R (N:Nat):Sg Tryz.prog 0 68:= .start d2N d2M true
def b3S (N:Nat) (v0:Bool) (v1:LD) (k0:Unit→Option R) (k1:Bool→Option R):Option R:=
 bif v0 then
  k0 ()
 else
  bif (decide ((0+v1.length)*40≤a0L)&&decide ((0+v1.length)≤a0d)) then
   k1 (v1.isEmpty&&false)
  else
   none
def c1E (v0:Bool) (v1:LD):Option (Sum (Unit) (Bool)):=b3S N v0 v1 (fun p=>some (.inl p)) (fun p=>some (.inr p))
theorem b8o (v0:Bool) (v1:LD) (k0:Unit→Option R) (k1:Bool→Option R):b3S N v0 v1 k0 k1=(c1E N v0 v1).bind (a1a k0 k1):=by
 unfold c1E b3S
 repeat' (first|with_reducible apply a0f|(with_reducible apply a0m;intro _)|rfl)
def b3T:Sh:={tmps:=[(0,.c (.sl 40))],mem:=[]}
def d2O (L:List Lf):List (Bool×Res):=bnd (b3S N (lb L 0) (ll L 1) (fun p=>some (.inl p)) (fun p=>some (.inr p))) fun q=>[((a0O q),([.c (.sl 40 true [])],[])),((a0l q).isSome,([.c (.o 7)],[(7,.row 40 true ((a0l q).getD default) (ll L 1))]))]
theorem c4n (L:List Lf):bd Tryz.prog (a8k N) (b3R N).h 68 b3T L=b3S N (lb L 0) (ll L 1) (fun _=>some ([.c (.sl 40 true [])],[])) (fun p=>some ([.c (.o 7)],[(7,.row 40 true p (ll L 1))])):=by kernel_rfl
theorem d2P:a0G Tryz.prog 68 b3T (d2O N):=
 (b3R N).fn a0b (a2B N) fun L x hx=>((c4n N L).trans ((b8o N ..).trans ((a27 a0N) x hx)))
def c4o:a0e:=ext 68 (a1E b3T (d2O N)) (a8k N)
theorem a8l:a0c Tryz.prog (c4o N):=a0G.to (d2P N) (a2B N)
def d2Q:List (Nat×List Nat):=[(0,[0]),(1,[0]),(2,[]),(3,[0])]
def d2R:a0E:=[]
def b3U (N:Nat):Sg Tryz.prog 0 69:= .start d2R d2Q true
def F69x0 (N:Nat) (v0:Bool) (v1:LD) (k0:Unit→Option R) (k1:Bool→Option R):Option R:=
 bif v0 then
  k0 ()
 else
  bif (decide ((0+v1.length)*24≤a0L)&&decide ((0+v1.length)≤a0d)) then
   k1 (v1.isEmpty&&false)
  else
   none
def G69x0 (v0:Bool) (v1:LD):Option (Sum (Unit) (Bool)):=F69x0 N v0 v1 (fun p=>some (.inl p)) (fun p=>some (.inr p))
theorem b8p (v0:Bool) (v1:LD) (k0:Unit→Option R) (k1:Bool→Option R):F69x0 N v0 v1 k0 k1=(G69x0 N v0 v1).bind (a1a k0 k1):=by
 unfold G69x0 F69x0
 repeat' (first|with_reducible apply a0f|(with_reducible apply a0m;intro _)|rfl)
def b3V:Sh:={tmps:=[(0,.c (.sl 37))],mem:=[]}
def d2S (L:List Lf):List (Bool×Res):=bnd (F69x0 N (lb L 0) (ll L 1) (fun p=>some (.inl p)) (fun p=>some (.inr p))) fun q=>[((a0O q),([.c (.sl 37 true [])],[])),((a0l q).isSome,([.c (.o 7)],[(7,.row 37 true ((a0l q).getD default) (ll L 1))]))]
theorem c4p (L:List Lf):bd Tryz.prog (c4o N) (b3U N).h 69 b3V L=F69x0 N (lb L 0) (ll L 1) (fun _=>some ([.c (.sl 37 true [])],[])) (fun p=>some ([.c (.o 7)],[(7,.row 37 true p (ll L 1))])):=by kernel_rfl
theorem d2T:a0G Tryz.prog 69 b3V (d2S N):=
 (b3U N).fn a0b (a8l N) fun L x hx=>((c4p N L).trans ((b8p N ..).trans ((a27 a0N) x hx)))
def T69x0:a0e:=ext 69 (a1E b3V (d2S N)) (c4o N)
theorem T69x0_ok:a0c Tryz.prog (T69x0 N):=a0G.to (d2T N) (a8l N)
def d2U:List (Nat×List Nat):=[(0,[0]),(1,[1,2]),(2,[1,2]),(3,[1,2]),(4,[15,14,1,2]),(5,[15,1,14,2]),(6,[1,3,15,14,2]),(7,[15,14,1,2]),(8,[1,2])]
def d2V:a0E:=[(4,[1,2],[1,2],[]),(7,[1,2],[1,2,7000000007],[]),(12,[1,2,14,15],[1,2,7000000007,11000000007],[]),(19,[1,2,3,14,15],[1,2,7000000007,11000000007],[])]
def b3W (N:Nat):Sg Tryz.prog 0 58:= .start d2V d2U true
def F58x0x4 (w5:Bool) (w6:LD) (k0:Unit→Option R) (k1:Bool→Option R):Option R:=
 bnd (G55x0 N w5 w6) fun y0=>
 bif (a0O y0) then
  k0 ()
 else
  bif (a0l y0).isSome then
   k1 ((a0l y0).getD default)
  else
   none
def G58x0x4 (w5:Bool) (w6:LD):Option (Sum (Unit) (Bool)):=F58x0x4 N w5 w6 (fun p=>some (.inl p)) (fun p=>some (.inr p))
theorem c8T (w5:Bool) (w6:LD) (k0:Unit→Option R) (k1:Bool→Option R):F58x0x4 N w5 w6 k0 k1=(G58x0x4 N w5 w6).bind (a1a k0 k1):=by
 unfold G58x0x4 F58x0x4
 repeat' (first|with_reducible apply a0f|(with_reducible apply a0m;intro _)|rfl)
def b8s:Sh:={tmps:=[(1,.c (.p 1 0)),(2,.c (.p 2 0))],mem:=[(1,.box ([.i .i64,.i .i64,.i .i64,.sl 40,.sl 5])),(2,.box ([.i .i64,.i .i64,.i .i64,.sl 40,.sl 5]))]}
def c1F (L:List Lf) (_:Unit):Ex×St:=(.normal,mg (a0v b8s L) [1,2] [] [1,2] [(1,.box [.i .i64 (li L 0),.i .i64 (li L 1),.i .i64 (li L 2),.sl 40 (lb L 3) (ll L 4),.sl 5 true []])])
def c1G (L:List Lf) (p:Bool):Ex×St:=(.normal,mg (a0v b8s L) [1,2] [] [1,2,7000000007] [(1,.box [.i .i64 (li L 0),.i .i64 (li L 1),.i .i64 (li L 2),.sl 40 (lb L 3) (ll L 4),.o 7000000007]),(7000000007,.row 5 true p (ll L 6))])
def e4P (L:List Lf):List (Bool×(Ex×St)):=bnd (F58x0x4 N (lb L 5) (ll L 6) (fun p=>some (.inl p)) (fun p=>some (.inr p))) fun q=>[((a0O q),c1F L ()),((a0l q).isSome,c1G L ((a0l q).getD default))]
theorem d2Z (L:List Lf):pc Tryz.prog (T69x0 N) (b3W N).h 0 100 58 4 b8s L [1,2] [1,2,7000000007]=F58x0x4 N (lb L 5) (ll L 6) (fun _=>some (c1F L ())) (fun p=>some (c1G L p)):=by kernel_rfl
def b3Y:Sg Tryz.prog 0 58:=
 (b3W N).cut (e4P N) a0b (T69x0_ok N) fun L x hx=>(d2Z N L).trans ((c8T N ..).trans ((a27 a0N) x hx))
def a3D (w3:Bool) (w4:LD) (k0:Unit→Option R) (k1:Bool→Option R):Option R:=
 bnd (c1E N w3 w4) fun y0=>
 bif (a0O y0) then
  k0 ()
 else
  bif (a0l y0).isSome then
   k1 ((a0l y0).getD default)
  else
   none
def G58x0x7 (w3:Bool) (w4:LD):Option (Sum (Unit) (Bool)):=a3D N w3 w4 (fun p=>some (.inl p)) (fun p=>some (.inr p))
theorem a99 (w3:Bool) (w4:LD) (k0:Unit→Option R) (k1:Bool→Option R):a3D N w3 w4 k0 k1=(G58x0x7 N w3 w4).bind (a1a k0 k1):=by
 unfold G58x0x7 a3D
 repeat' (first|with_reducible apply a0f|(with_reducible apply a0m;intro _)|rfl)
def a4Q:Sh:={tmps:=[(1,.c (.p 1 0)),(2,.c (.p 2 0))],mem:=[(1,.box ([.i .i64,.i .i64,.i .i64,.sl 40,.sl 5])),(2,.box ([.i .i64,.i .i64,.i .i64,.sl 40,.sl 5]))]}
def a5M (L:List Lf) (_:Unit):Ex×St:=(.normal,mg (a0v a4Q L) [1,2] [] [1,2] [(1,.box [.i .i64 (li L 0),.i .i64 (li L 1),.i .i64 (li L 2),.sl 40 true [],.sl 5 (lb L 5) (ll L 6)])])
def a5N (L:List Lf) (p:Bool):Ex×St:=(.normal,mg (a0v a4Q L) [1,2] [] [1,2,11000000007] [(1,.box [.i .i64 (li L 0),.i .i64 (li L 1),.i .i64 (li L 2),.o 11000000007,.sl 5 (lb L 5) (ll L 6)]),(11000000007,.row 40 true p (ll L 4))])
def c4q (L:List Lf):List (Bool×(Ex×St)):=bnd (a3D N (lb L 3) (ll L 4) (fun p=>some (.inl p)) (fun p=>some (.inr p))) fun q=>[((a0O q),a5M L ()),((a0l q).isSome,a5N L ((a0l q).getD default))]
theorem b3X (L:List Lf):pc Tryz.prog (T69x0 N) (b3Y N).h 0 100 58 7 a4Q L [1,2] [1,2,11000000007]=a3D N (lb L 3) (ll L 4) (fun _=>some (a5M L ())) (fun p=>some (a5N L p)):=by kernel_rfl
def b3Z:Sg Tryz.prog 0 58:=
 (b3Y N).cut (c4q N) a0b (T69x0_ok N) fun L x hx=>(b3X N L).trans ((a99 N ..).trans ((a27 a0N) x hx))
def F58x0x19 (w0:Int) (w16:LD) (k0:LD→Option R):Option R:=
 bif (inB w0 w16.length) then
  bif (decide (w0.toNat<w16.length)) then
   bnd (G69x0 N ((w16.getD w0.toNat (.i 0)).cell 2).isNil ((w16.getD w0.toNat (.i 0)).cell 2).items) fun y0=>
   bif (a0O y0) then
    bif (inB w0 w16.length) then
     bif (decide (w0.toNat<w16.length)) then
      bnd ((w16.set w0.toNat (.a [(.b ((w16.getD w0.toNat (.i 0)).cell 0).toB),(.i ((w16.getD w0.toNat (.i 0)).cell 1).toI),(.l true [])])):List D) fun y1=>
      k0 y1
     else
      none
    else
     none
   else
    bif (a0l y0).isSome then
     bif (inB w0 w16.length) then
      bif (decide (w0.toNat<w16.length)) then
       bnd ((w16.set w0.toNat (.a [(.b ((w16.getD w0.toNat (.i 0)).cell 0).toB),(.i ((w16.getD w0.toNat (.i 0)).cell 1).toI),(.l ((a0l y0).getD default) ((w16.getD w0.toNat (.i 0)).cell 2).items)])):List D) fun y2=>
       k0 y2
      else
       none
     else
      none
    else
     none
  else
   none
 else
  none
def G58x0x19 (w0:Int) (w16:LD):Option (LD):=F58x0x19 N w0 w16 (fun p=>some p)
theorem a7s (w0:Int) (w16:LD) (k0:LD→Option R):F58x0x19 N w0 w16 k0=(G58x0x19 N w0 w16).bind k0:=by
 unfold G58x0x19 F58x0x19
 repeat' (first|with_reducible apply a0f|(with_reducible apply a0m;intro _)|rfl)
def a5O:Sh:={tmps:=[(1,.c (.p 1 0)),(2,.c (.p 2 0)),(3,.c (.i .i64)),(14,.c (.i .i64)),(15,.c (.i .i64))],mem:=[(1,.box ([.i .i64,.i .i64,.i .i64,.o 11000000007,.sl 5])),(2,.box ([.i .i64,.i .i64,.i .i64,.sl 40,.sl 5])),(11000000007,.row 40 true)]}
def a4o (L:List Lf) (p:LD):Ex×St:=(.normal,mg (a0v a5O L) [1,2,14,15] [] [1,2,11000000007] [(11000000007,.row 40 true (lb L 15) p)])
def b8q (L:List Lf):List (Bool×(Ex×St)):=bnd (F58x0x19 N (li L 0) (ll L 16) (fun p=>some p)) fun q=>[(q.isSome,a4o L (q.getD default))]
theorem b0a (L:List Lf):pc Tryz.prog (T69x0 N) (b3Z N).h 0 100 58 19 a5O L [1,2,14,15] [1,2,11000000007]=F58x0x19 N (li L 0) (ll L 16) (fun p=>some (a4o L p)):=by kernel_rfl
def b31:Sg Tryz.prog 0 58:=
 (b3Z N).cut (b8q N) a0b (T69x0_ok N) fun L x hx=>(b0a N L).trans ((a7s N ..).trans (a0N x hx))
def a4R (w0:Int) (w1:Int) (w15:LD) (kr:Int→LD→Option R) (k0:LD→Option R):Option R:=
 bif (decide (w1<w0)) then
  bnd (G58x0x19 N w1 w15) fun y0=>
  bif y0.isSome then
   kr (IntKind.wrap .i64 (w1+1)) (y0.getD default)
  else
   none
 else
  k0 w15
def a4S (N:Nat) {R:Type} (w0:Int):Nat→Int→LD→(LD→Option R)→Option R
 |0,_,_,_=>none
 |m+1,w1,w15,k0=>a4R N w0 w1 w15 (fun w1 w15=>a4S N w0 m w1 w15 k0) k0
def G58x0x12 (w0:Int) (w1:Int) (w15:LD):Option (LD):=a4S N (R:=(LD)) w0 N w1 w15 (fun p=>some p)
def a2C (L x:List Lf) (kr:List Lf→Option R) (k0:LD→Option R):Option R:=a4R N (li L 0) (li x 0) (ll x 1) (fun w1 w15=>kr [.i w1,.l w15]) k0
theorem a5P (L x:List Lf) (kr:List Lf→Option R) (k0:LD→Option R):a2C N L x kr k0=(a2C N L x (fun y=>some (.inl y)) (fun p=>some (.inr p))).bind (a1a kr k0):=by
 unfold a2C a4R
 repeat' (first|with_reducible apply a0f|(with_reducible apply a0m;intro _)|rfl)
def a3l (L:List Lf) (m:Nat) (x:List Lf):Option (LD):=a4S N (R:=(LD)) (li L 0) m (li x 0) (ll x 1) (fun p=>some p)
def a1O:Sh:={tmps:=[(1,.c (.p 1 0)),(2,.c (.p 2 0)),(14,.c (.i .i64)),(15,.c (.i .i64))],mem:=[(1,.box ([.i .i64,.i .i64,.i .i64,.o 11000000007,.sl 5])),(2,.box ([.i .i64,.i .i64,.i .i64,.sl 40,.sl 5])),(11000000007,.row 40 true)]}
def a4p (L:List Lf) (p:LD):Ex×St:=((.exit 0),mg (a0v a1O L) [1,2] [] [1,2,11000000007] [(11000000007,.row 40 true (lb L 14) p)])
def b8r (L:List Lf):List (Bool×(Ex×St)):=bnd (a3l N L N (pk a1O [1,15] L)) fun q=>[(q.isSome,a4p L (q.getD default))]
theorem a7t (m:Nat) (kn:St→Option (Ex×St)) (L x:List Lf):lpB Tryz.prog (T69x0 N) (b31 N).h 0 58 12 a1O [1,15] [1,2] [1,2,11000000007] (m+100) kn L x=a2C N L x (fun y=>kn (a0v a1O (mx a1O [1,15] L y))) (fun p=>some (a4p L p)):=by kernel_rfl
theorem b30 (L:List Lf) (m:Nat) (x:List Lf):a3l N L (m+1) x=a2C N L x (a3l N L m) some:=by kernel_rfl
def c4r:Sg Tryz.prog 0 58:=
 (b31 N).lp (b8r N) N a0b (T69x0_ok N) (fun m kn L x=>(a7t N m kn L x).trans (a5P N L x _ _)) (fun L m x=>(b30 N L m x).trans (a5P N L x (a3l N L m) some)) fun L x hx=>a0N x hx
def a8m (w3:Bool) (w4:LD) (k0:Unit→Option R) (k1:Bool→Option R):Option R:=
 bnd (c1E N w3 w4) fun y0=>
 bif (a0O y0) then
  k0 ()
 else
  bif (a0l y0).isSome then
   k1 ((a0l y0).getD default)
  else
   none
def b8t (w3:Bool) (w4:LD):Option (Sum (Unit) (Bool)):=a8m N w3 w4 (fun p=>some (.inl p)) (fun p=>some (.inr p))
theorem c4s (w3:Bool) (w4:LD) (k0:Unit→Option R) (k1:Bool→Option R):a8m N w3 w4 k0 k1=(b8t N w3 w4).bind (a1a k0 k1):=by
 unfold b8t a8m
 repeat' (first|with_reducible apply a0f|(with_reducible apply a0m;intro _)|rfl)
def b33:Sh:={tmps:=[(1,.c (.p 1 0)),(2,.c (.p 2 0))],mem:=[(1,.box ([.i .i64,.i .i64,.i .i64,.sl 40,.o 7000000007])),(2,.box ([.i .i64,.i .i64,.i .i64,.sl 40,.sl 5])),(7000000007,.row 5 true)]}
def b6z (L:List Lf) (_:Unit):Ex×St:=(.normal,mg (a0v b33 L) [1,2] [] [1,2,7000000007] [(1,.box [.i .i64 (li L 0),.i .i64 (li L 1),.i .i64 (li L 2),.sl 40 true [],.o 7000000007])])
def b6A (L:List Lf) (p:Bool):Ex×St:=(.normal,mg (a0v b33 L) [1,2] [] [1,2,7000000007,11000000007] [(1,.box [.i .i64 (li L 0),.i .i64 (li L 1),.i .i64 (li L 2),.o 11000000007,.o 7000000007]),(11000000007,.row 40 true p (ll L 4))])
def d9r (L:List Lf):List (Bool×(Ex×St)):=bnd (a8m N (lb L 3) (ll L 4) (fun p=>some (.inl p)) (fun p=>some (.inr p))) fun q=>[((a0O q),b6z L ()),((a0l q).isSome,b6A L ((a0l q).getD default))]
theorem c8U (L:List Lf):pc Tryz.prog (T69x0 N) ((c4r N).no 7).h 0 100 58 7 b33 L [1,2] [1,2,7000000007,11000000007]=a8m N (lb L 3) (ll L 4) (fun _=>some (b6z L ())) (fun p=>some (b6A L p)):=by kernel_rfl
def c4t:Sg Tryz.prog 0 58:=
 (c4r N).add (((c4r N).no 7).cut (d9r N) a0b (T69x0_ok N) fun L x hx=>(c8U N L).trans ((c4s N ..).trans ((a27 a0N) x hx))) 7
def a5Q (w0:Int) (w16:LD) (k0:LD→Option R):Option R:=
 bif (inB w0 w16.length) then
  bif (decide (w0.toNat<w16.length)) then
   bnd (G69x0 N ((w16.getD w0.toNat (.i 0)).cell 2).isNil ((w16.getD w0.toNat (.i 0)).cell 2).items) fun y0=>
   bif (a0O y0) then
    bif (inB w0 w16.length) then
     bif (decide (w0.toNat<w16.length)) then
      bnd ((w16.set w0.toNat (.a [(.b ((w16.getD w0.toNat (.i 0)).cell 0).toB),(.i ((w16.getD w0.toNat (.i 0)).cell 1).toI),(.l true [])])):List D) fun y1=>
      k0 y1
     else
      none
    else
     none
   else
    bif (a0l y0).isSome then
     bif (inB w0 w16.length) then
      bif (decide (w0.toNat<w16.length)) then
       bnd ((w16.set w0.toNat (.a [(.b ((w16.getD w0.toNat (.i 0)).cell 0).toB),(.i ((w16.getD w0.toNat (.i 0)).cell 1).toI),(.l ((a0l y0).getD default) ((w16.getD w0.toNat (.i 0)).cell 2).items)])):List D) fun y2=>
       k0 y2
      else
       none
     else
      none
    else
     none
  else
   none
 else
  none
def b34 (w0:Int) (w16:LD):Option (LD):=a5Q N w0 w16 (fun p=>some p)
theorem c1H (w0:Int) (w16:LD) (k0:LD→Option R):a5Q N w0 w16 k0=(b34 N w0 w16).bind k0:=by
 unfold b34 a5Q
 repeat' (first|with_reducible apply a0f|(with_reducible apply a0m;intro _)|rfl)
def b6B:Sh:={tmps:=[(1,.c (.p 1 0)),(2,.c (.p 2 0)),(3,.c (.i .i64)),(14,.c (.i .i64)),(15,.c (.i .i64))],mem:=[(1,.box ([.i .i64,.i .i64,.i .i64,.o 11000000007,.o 7000000007])),(2,.box ([.i .i64,.i .i64,.i .i64,.sl 40,.sl 5])),(7000000007,.row 5 true),(11000000007,.row 40 true)]}
def b35 (L:List Lf) (p:LD):Ex×St:=(.normal,mg (a0v b6B L) [1,2,14,15] [] [1,2,7000000007,11000000007] [(11000000007,.row 40 true (lb L 15) p)])
def d20 (L:List Lf):List (Bool×(Ex×St)):=bnd (a5Q N (li L 0) (ll L 16) (fun p=>some p)) fun q=>[(q.isSome,b35 L (q.getD default))]
theorem c4u (L:List Lf):pc Tryz.prog (T69x0 N) ((c4t N).no 19).h 0 100 58 19 b6B L [1,2,14,15] [1,2,7000000007,11000000007]=a5Q N (li L 0) (ll L 16) (fun p=>some (b35 L p)):=by kernel_rfl
def c4v:Sg Tryz.prog 0 58:=
 (c4t N).add (((c4t N).no 19).cut (d20 N) a0b (T69x0_ok N) fun L x hx=>(c4u N L).trans ((c1H N ..).trans (a0N x hx))) 19
def b36 (w0:Int) (w1:Int) (w15:LD) (kr:Int→LD→Option R) (k0:LD→Option R):Option R:=
 bif (decide (w1<w0)) then
  bnd (b34 N w1 w15) fun y0=>
  bif y0.isSome then
   kr (IntKind.wrap .i64 (w1+1)) (y0.getD default)
  else
   none
 else
  k0 w15
def b37 (N:Nat) {R:Type} (w0:Int):Nat→Int→LD→(LD→Option R)→Option R
 |0,_,_,_=>none
 |m+1,w1,w15,k0=>b36 N w0 w1 w15 (fun w1 w15=>b37 N w0 m w1 w15 k0) k0
def d21 (w0:Int) (w1:Int) (w15:LD):Option (LD):=b37 N (R:=(LD)) w0 N w1 w15 (fun p=>some p)
def a5R (L x:List Lf) (kr:List Lf→Option R) (k0:LD→Option R):Option R:=b36 N (li L 0) (li x 0) (ll x 1) (fun w1 w15=>kr [.i w1,.l w15]) k0
theorem b6C (L x:List Lf) (kr:List Lf→Option R) (k0:LD→Option R):a5R N L x kr k0=(a5R N L x (fun y=>some (.inl y)) (fun p=>some (.inr p))).bind (a1a kr k0):=by
 unfold a5R b36
 repeat' (first|with_reducible apply a0f|(with_reducible apply a0m;intro _)|rfl)
def a8n (L:List Lf) (m:Nat) (x:List Lf):Option (LD):=b37 N (R:=(LD)) (li L 0) m (li x 0) (ll x 1) (fun p=>some p)
def a4q:Sh:={tmps:=[(1,.c (.p 1 0)),(2,.c (.p 2 0)),(14,.c (.i .i64)),(15,.c (.i .i64))],mem:=[(1,.box ([.i .i64,.i .i64,.i .i64,.o 11000000007,.o 7000000007])),(2,.box ([.i .i64,.i .i64,.i .i64,.sl 40,.sl 5])),(7000000007,.row 5 true),(11000000007,.row 40 true)]}
def b38 (L:List Lf) (p:LD):Ex×St:=((.exit 0),mg (a0v a4q L) [1,2] [] [1,2,7000000007,11000000007] [(11000000007,.row 40 true (lb L 14) p)])
def d22 (L:List Lf):List (Bool×(Ex×St)):=bnd (a8n N L N (pk a4q [1,15] L)) fun q=>[(q.isSome,b38 L (q.getD default))]
theorem c1I (m:Nat) (kn:St→Option (Ex×St)) (L x:List Lf):lpB Tryz.prog (T69x0 N) ((c4v N).no 12).h 0 58 12 a4q [1,15] [1,2] [1,2,7000000007,11000000007] (m+100) kn L x=a5R N L x (fun y=>kn (a0v a4q (mx a4q [1,15] L y))) (fun p=>some (b38 L p)):=by kernel_rfl
theorem c8V (L:List Lf) (m:Nat) (x:List Lf):a8n N L (m+1) x=a5R N L x (a8n N L m) some:=by kernel_rfl
def h58x0s7:Sg Tryz.prog 0 58:=
 (c4v N).add (((c4v N).no 12).lp (d22 N) N a0b (T69x0_ok N) (fun m kn L x=>(c1I N m kn L x).trans (b6C N L x _ _)) (fun L m x=>(c8V N L m x).trans (b6C N L x (a8n N L m) some)) fun L x hx=>a0N x hx) 12
def F58x0 (v3:Bool) (v4:LD) (v5:Bool) (v6:LD) (k0:Unit→Option R) (k1:Bool×LD→Option R) (k2:Bool→Option R) (k3:Bool×Bool×LD→Option R):Option R:=
 bnd (G58x0x4 N v5 v6) fun y0=>
 bif (a0O y0) then
  bnd (G58x0x7 N v3 v4) fun y1=>
  bif (a0O y1) then
   k0 ()
  else
   bif (a0l y1).isSome then
    bnd (G58x0x12 N (v4.length:Int) 0 v4) fun y2=>
    bif y2.isSome then
     k1 (((a0l y1).getD default),(y2.getD default))
    else
     none
   else
    none
 else
  bif (a0l y0).isSome then
   bnd (b8t N v3 v4) fun y3=>
   bif (a0O y3) then
    k2 ((a0l y0).getD default)
   else
    bif (a0l y3).isSome then
     bnd (d21 N (v4.length:Int) 0 v4) fun y4=>
     bif y4.isSome then
      k3 (((a0l y0).getD default),((a0l y3).getD default),(y4.getD default))
     else
      none
    else
     none
  else
   none
def G58x0 (v3:Bool) (v4:LD) (v5:Bool) (v6:LD):Option (Sum (Unit) (Sum (Bool×LD) (Sum (Bool) (Bool×Bool×LD)))):=F58x0 N v3 v4 v5 v6 (fun p=>some (.inl p)) (fun p=>some (.inr (.inl p))) (fun p=>some (.inr (.inr (.inl p)))) (fun p=>some (.inr (.inr (.inr p))))
theorem bind58x0 (v3:Bool) (v4:LD) (v5:Bool) (v6:LD) (k0:Unit→Option R) (k1:Bool×LD→Option R) (k2:Bool→Option R) (k3:Bool×Bool×LD→Option R):F58x0 N v3 v4 v5 v6 k0 k1 k2 k3=(G58x0 N v3 v4 v5 v6).bind (a1a k0 (a1a k1 (a1a k2 k3))):=by
 unfold G58x0 F58x0
 repeat' (first|with_reducible apply a0f|(with_reducible apply a0m;intro _)|rfl)
def d2W (L:List Lf) (k0:Unit→Option R) (k1:Bool×LD→Option R) (k2:Bool→Option R) (k3:Bool×Bool×LD→Option R):Option R:=F58x0 N (lb L 3) (ll L 4) (lb L 5) (ll L 6) k0 k1 k2 k3
def sh58x0:Sh:={tmps:=[(0,.g ([.i .i64,.i .i64,.i .i64,.sl 40,.sl 5]))],mem:=[]}
def b32 (L:List Lf) (_:Unit):Res:=([.g [.i .i64 (li L 0),.i .i64 (li L 1),.i .i64 (li L 2),.sl 40 true [],.sl 5 true []]],[])
def d23 (L:List Lf) (p:Bool×LD):Res:=([.g [.i .i64 (li L 0),.i .i64 (li L 1),.i .i64 (li L 2),.o 11000000007,.sl 5 true []]],[(11000000007,.row 40 true p.1 p.2)])
def d24 (L:List Lf) (p:Bool):Res:=([.g [.i .i64 (li L 0),.i .i64 (li L 1),.i .i64 (li L 2),.sl 40 true [],.o 7000000007]],[(7000000007,.row 5 true p (ll L 6))])
def d25 (L:List Lf) (p:Bool×Bool×LD):Res:=([.g [.i .i64 (li L 0),.i .i64 (li L 1),.i .i64 (li L 2),.o 11000000007,.o 7000000007]],[(7000000007,.row 5 true p.1 (ll L 6)),(11000000007,.row 40 true p.2.1 p.2.2)])
def d2X (L:List Lf):List (Bool×Res):=bnd (d2W N L (fun p=>some (.inl p)) (fun p=>some (.inr (.inl p))) (fun p=>some (.inr (.inr (.inl p)))) (fun p=>some (.inr (.inr (.inr p))))) fun q=>[((a0O q),b32 L ()),((a0O (a0l q)),d23 L (a01 (a0l q))),((a0O (a0l (a0l q))),d24 L (a01 (a0l (a0l q)))),((a0l (a0l (a0l q))).isSome,d25 L ((a0l (a0l (a0l q))).getD default))]
theorem raw58x0 (L:List Lf):bd Tryz.prog (T69x0 N) (h58x0s7 N).h 58 sh58x0 L=d2W N L (fun _=>some (b32 L ())) (fun p=>some (d23 L p)) (fun p=>some (d24 L p)) (fun p=>some (d25 L p)):=by kernel_rfl
theorem d2Y:a0G Tryz.prog 58 sh58x0 (d2X N):=
 (h58x0s7 N).fn a0b (T69x0_ok N) fun L x hx=>((raw58x0 N L).trans ((bind58x0 N ..).trans ((a27 (a27 (a27 a0N))) x hx)))
def c8S:a0e:=ext 58 (a1E sh58x0 (d2X N)) (T69x0 N)
theorem b1V:a0c Tryz.prog (c8S N):=a0G.to (d2Y N) (T69x0_ok N)
end Hd
end Ce
end Go.Proofs.YtiegikkpipdleaaGreatDoor
namespace Go.Proofs.YtiegikkpipdleaaGreatDoor
open Go Go.AM
namespace Ce
def H44 (N:Nat) (v3:Bool) (v4:List D) (v5:Bool) (v6:List D):Option (Bool×List D×Bool):=(Hd.G58x0 N v3 v4 v5 v6).bind fun
 | .inr (.inr (.inl b))=>some (true,[],b)
 | .inr (.inr (.inr p))=>some (p.2.1,p.2.2,p.1)
 |_=>none
def f5P (L:List Lf) (p:Bool×List D×Bool):Res:=([.g [.i .i64 (li L 0),.i .i64 (li L 1),.i .i64 (li L 2),.sl 40 p.1 p.2.1,.kp 7]],[(7,.row 5 true p.2.2 (ll L 6))])
def f5r (N:Nat) (L:List Lf):List (Bool×Res):=bnd (H44 N (lb L 3) (ll L 4) (lb L 5) (ll L 6)) fun q=>[(q.isSome,f5P L (q.getD default))]
theorem e3b (N:Nat) (L:List Lf) (x:Res) (h:bd Tryz.prog (Hd.T69x0 N) (Hd.h58x0s7 N).h 58 Hd.sh58x0 L=some x):a13 Tryz.prog 58 (b1g (a0v Hd.sh58x0 L).tmps) (a0v Hd.sh58x0 L).mem x:=
 a5J (n:=200) a0b (Hd.T69x0_ok N) (Hd.h58x0s7 N).ok (kb:=0) (by rfl) h
theorem f4h (N:Nat):a0G Tryz.prog 58 Hd.sh58x0 (f5r N):=a8h fun L x hx=>by
 have hr:=(Hd.raw58x0 N L).trans (Hd.bind58x0 N ..);have hx':=a0N x hx;unfold H44 at hx';cases hg:Hd.G58x0 N (lb L 3) (ll L 4) (lb L 5) (ll L 6) with
 |none=>rw [hg] at hx';cases hx'
 | some q=>
  rw [hg] at hx' hr;have hne:(0:Nat)≤7:=by decide
  match q with
  | .inl _=>cases hx'
  | .inr (.inl _)=>cases hx'
  | .inr (.inr (.inl b))=>
   have hc:=e3b N L _ hr;have:=b3P (k':=7) (by intro c hc;simp only [f6M,List.not_mem_nil,or_false] at hc;rcases hc with rfl|rfl|rfl|rfl<;>rfl) (by exact Nat.zero_le 7) (c1x (cs:=[.i .i64 (li L 0),.i .i64 (li L 1),.i .i64 (li L 2),.sl 40 true []]) hc)
   cases hx';exact this
  | .inr (.inr (.inr p))=>
   have hc:=e3b N L _ hr;have:=b3P (k':=7) (cs:=[.i .i64 (li L 0),.i .i64 (li L 1),.i .i64 (li L 2),.sl 40 p.2.1 p.2.2]) (by intro c hc;simp only [f6M,List.not_mem_nil,or_false] at hc;rcases hc with rfl|rfl|rfl|rfl<;>rfl) (by exact Nat.zero_le 7) (c4k (cs:=[.i .i64 (li L 0),.i .i64 (li L 1),.i .i64 (li L 2)]) (by intro c hc;simp only [f6M,List.not_mem_nil,or_false] at hc;rcases hc with rfl|rfl|rfl<;>rfl) (by decide) hc)
   cases hx';exact this
def f4i (N:Nat):a0e:=ext 58 (a1E Hd.sh58x0 (f5r N)) (Hd.T69x0 N)
theorem d26 (N:Nat):a0c Tryz.prog (f4i N):=a0G.to (f4h N) (Hd.T69x0_ok N)
end Ce
namespace Ce
def f4j:List (Nat×List Nat):=[(0,[0]),(1,[1,2]),(2,[1,3,2]),(3,[9,8,7,3,2]),(4,[7,9,3,8,2]),(5,[3,5,9,8,7,2]),(6,[9,8,7,3,2]),(7,[3,2])]
def f5s:a0E:=[(9,[2,3,7,8,9],[2,3,50003000],[50003000])]
def f5Q:a53:={loops:=f5s,regs:=f4j,los:=[],rows:=true}
def f3G:a53:={loops:=[],regs:=f4j,los:=[],rows:=true}
abbrev KB:Nat:=50003001
abbrev KR:Nat:=50003000
def tm9 (n7:Bool) (xs:List D) (n i:Int):AL V:=[(2,.c (.p 2 0)),(3,.c (.p 3 0)),(7,.c (.sl 44 n7 xs)),(8,.c (.i .i64 n)),(9,.c (.i .i64 i))]
def stA (n7:Bool) (xs:List D) (n:Int) (b2:Bool) (x2:List D) (i:Int) (nl:Bool) (ys:List D):St:=⟨tm9 n7 xs n i,[(2,.box [.sl 44 b2 x2]),(3,.box [.o 50003000]),(50003000,.row 44 true nl ys)]⟩
def mC (b2:Bool) (x2:List D) (k:Nat) (ys:List D) (nK:Bool) (bs:List D):AL AM.Obj:=[(2,.box [.sl 44 b2 x2]),(3,.box [.o KR]),(KR,.krow 44 k 4 (.kp KB) ys),(KB,.row 5 true nK bs)]
def stC (n7:Bool) (xs:List D) (n:Int) (b2:Bool) (x2:List D) (i:Int) (k:Nat) (ys:List D) (nK:Bool) (bs:List D):St:=⟨tm9 n7 xs n i,mC b2 x2 k ys nK bs⟩
def e8Q (b2:Bool) (x2:List D) (k:Nat) (ys:List D) (nK:Bool) (bs:List D):St:=⟨[(2,.c (.p 2 0)),(3,.c (.p 3 0))],mC b2 x2 k ys nK bs⟩
def rdA (cl:a0e) (hs:a53) (a b:List Nat) (st:St) (own:Option (Nat×Nat×Nat):=none):Option (Ex×St):=a4z Tryz.prog cl hs 0 200 (a97 (a1p Tryz.prog 42 9)) st (fun e st=>some (e,a5h a b (f4f 0 own (a29 Tryz.prog 0 hs.loops 9 st))))
def dEnt (x:D) (nl:Bool) (dl:List D) (nb:Bool) (bs:List D):D:= .a [(.i (x.cell 0).toI),(.i (x.cell 1).toI),(.i (x.cell 2).toI),(.l nl dl),(.l nb bs)]
def SA {R:Type} (N:Nat) (xs:List D) (n i:Int) (ys:List D) (kr:List D→Option R):Option R:=
 bif (inB i xs.length) then
  bnd (G58x0 N ((xs.getD i.toNat (.i 0)).cell 3).isNil ((xs.getD i.toNat (.i 0)).cell 3).items ((xs.getD i.toNat (.i 0)).cell 4).isNil ((xs.getD i.toNat (.i 0)).cell 4).items) fun q=>
  bif q.isSome then
   bif (decide ((ys.length+1)*72≤a0L)&&decide ((ys.length+1)≤a0d)) then
    kr (ys++[dEnt (xs.getD i.toNat (.i 0)) (q.getD default).1 (q.getD default).2.1 (q.getD default).2.2.1 (q.getD default).2.2.2])
   else
    none
  else
   none
 else
  none
theorem e8R (N:Nat) (n7:Bool) (xs:List D) (n:Int) (b2:Bool) (x2:List D) (i:Int) (nl:Bool) (ys:List D):
  rdA (c8S N) f5Q [2,3,7,8,9] [2,3,50003000] (stA n7 xs n b2 x2 i nl ys)=(bif decide (i<n) then SA N xs n i ys fun zs=>some (.normal,stA n7 xs n b2 x2 (IntKind.wrap .i64 (i+1)) false zs)
   else some (.exit 0,⟨tm9 n7 xs n i,(stA n7 xs n b2 x2 i nl ys).mem⟩)):=by kernel_rfl
def SC {R:Type} (N:Nat) (xs:List D) (n i:Int) (ys:List D) (kr:List D→Option R):Option R:=
 bif (inB i xs.length) then
  bnd (G58x0 N ((xs.getD i.toNat (.i 0)).cell 3).isNil ((xs.getD i.toNat (.i 0)).cell 3).items ((xs.getD i.toNat (.i 0)).cell 4).isNil ((xs.getD i.toNat (.i 0)).cell 4).items) fun q=>
  bif q.isSome then
   bif (decide ((ys.length+1)*72≤a0L)&&decide ((ys.length+1)≤a0d))&&true then
    kr (ys++[dEnt (xs.getD i.toNat (.i 0)) (q.getD default).1 (q.getD default).2.1 (q.getD default).2.2.1 (q.getD default).2.2.2])
   else
    none
  else
   none
 else
  none
theorem e8S (N:Nat) (n7:Bool) (xs:List D) (n:Int) (b2:Bool) (x2:List D) (i:Int) (k:Nat) (ys:List D) (nK:Bool) (bs:List D):
  rdA (c8S N) f3G [2,3,7,8,9] [2,3,KR,KB] (stC n7 xs n b2 x2 i k ys nK bs) (some (KR,3,0))=(bif decide (i<n) then SC N xs n i ys fun zs=>some (.normal,stC n7 xs n b2 x2 (IntKind.wrap .i64 (i+1)) k zs nK bs)
   else some (.exit 0,⟨tm9 n7 xs n i,mC b2 x2 k ys nK bs⟩)):=by kernel_rfl
def SH {R:Type} (N:Nat) (xs:List D) (n i:Int) (kr:D→Bool→List D→Option R):Option R:=
 bif (inB i xs.length) then
  bnd (H44 N ((xs.getD i.toNat (.i 0)).cell 3).isNil ((xs.getD i.toNat (.i 0)).cell 3).items ((xs.getD i.toNat (.i 0)).cell 4).isNil ((xs.getD i.toNat (.i 0)).cell 4).items) fun q=>
  bif q.isSome then
   kr (dEnt (xs.getD i.toNat (.i 0)) (q.getD default).1 (q.getD default).2.1 true []) (q.getD default).2.2 ((xs.getD i.toNat (.i 0)).cell 4).items
  else
   none
 else
  none
theorem e4Q (N:Nat) (n7:Bool) (xs:List D) (n:Int) (b2:Bool) (x2:List D) (i:Int) (ys:List D):
  rdA (f4i N) f3G [2,3,7,8,9] [2,3,KR,KB] (stA n7 xs n b2 x2 i false ys) (some (KR,3,0))=(bif decide (i<n) then SH N xs n i fun z nK bs=>bif (decide ((ys.length+1)*72≤a0L)&&decide ((ys.length+1)≤a0d))&&true then some (.normal,stC n7 xs n b2 x2 (IntKind.wrap .i64 (i+1)) ys.length (ys++[z]) nK bs) else none
   else some (.exit 0,⟨tm9 n7 xs n i,(stA n7 xs n b2 x2 i false ys).mem⟩)):=by kernel_rfl
theorem e4R (N:Nat) (n7:Bool) (xs:List D) (n:Int) (b2:Bool) (x2:List D) (i:Int):
  rdA (f4i N) f3G [2,3,7,8,9] [2,3,KR,KB] (stA n7 xs n b2 x2 i true []) (some (KR,3,0))=(bif decide (i<n) then SH N xs n i fun z nK bs=>some (.normal,stC n7 xs n b2 x2 (IntKind.wrap .i64 (i+1)) 0 [z] nK bs)
   else some (.exit 0,⟨tm9 n7 xs n i,(stA n7 xs n b2 x2 i true []).mem⟩)):=by kernel_rfl
end Ce
namespace Ce
theorem f4k (N:Nat) (n7:Bool) (xs:List D) (n:Int) (b2:Bool) (x2:List D) (i:Int) (k:Nat) (ys:List D) (nK:Bool) (bs:List D):
  rdA (c8S N) f3G [2,3] [2,3,KR,KB] (stC n7 xs n b2 x2 i k ys nK bs) (some (KR,3,0))=(bif decide (i<n) then SC N xs n i ys fun zs=>some (.normal,e8Q b2 x2 k zs nK bs)
   else some (.exit 0,e8Q b2 x2 k ys nK bs)):=by kernel_rfl
def lpC (N:Nat) (xs:List D) (n:Int):Nat→Int→List D→Option (List D)
 |0,_,_=>none
 |m+1,i,ys=>bif decide (i<n) then SC N xs n i ys fun zs=>lpC N xs n m (IntKind.wrap .i64 (i+1)) zs else some ys
def lpA (N:Nat) (xs:List D) (n k:Int):Nat→Int→Bool→List D→Option (Nat×List D×Bool×List D)
 |0,_,_,_=>none
 | m +1,i,nl,ys=>bif decide (i<n) then
   (bif decide (i=k) then SH N xs n i fun z nK bs=>bif (bif nl then ys.isEmpty else ((decide ((ys.length+1)*72≤a0L)&&decide ((ys.length+1)≤a0d))&&true)) then
     (lpC N xs n m (IntKind.wrap .i64 (i+1)) (ys++[z])).bind fun zs=>some (ys.length,zs,nK,bs)
    else none
   else SA N xs n i ys fun zs=>lpA N xs n k m (IntKind.wrap .i64 (i+1)) false zs)
  else none
abbrev Rd (st:St) (x:Ex×St):Prop:=d9m Tryz.prog 0 42 9 e8k a6e st x
theorem d27 {cl:a0e} {hs:a53} {a b:List Nat} {st:St} {own:Option (Nat×Nat×Nat)} {x:Ex×St} (hcl:a0c Tryz.prog cl) (hlo:hs.los=[]) (h:rdA cl hs a b st own=some x):Rd st x:=
 ⟨cl,hs,a,b,own,200,hcl,by rw [hlo];exact a08.nil,h⟩
theorem e4S {R:Type} {N:Nat} {xs:List D} {n i:Int} {ys:List D} {kr:List D→Option R} {r:R} (h:SC N xs n i ys kr=some r):∃zs,kr zs=some r∧ ∀{R':Type} (kr':List D→Option R'),SC N xs n i ys kr'=kr' zs:=by
 unfold SC bnd at h⊢;cases h1:inB i xs.length with
 |false=>rw [h1] at h;cases h
 | true=>
  rw [h1] at h;simp only [f6B] at h⊢;generalize hq:G58x0 N ((xs.getD i.toNat (.i 0)).cell 3).isNil ((xs.getD i.toNat (.i 0)).cell 3).items ((xs.getD i.toNat (.i 0)).cell 4).isNil ((xs.getD i.toNat (.i 0)).cell 4).items=q at h⊢;cases h2:q.isSome with
  |false=>rw [h2] at h;cases h
  |true=>
   rw [h2] at h;simp only [f6B] at h⊢;cases h3:(decide ((ys.length+1)*72≤a0L)&&decide ((ys.length+1)≤a0d))&&true with
   |false=>rw [h3] at h;cases h
   |true=>rw [h3] at h;exact ⟨_,h,fun _=>rfl⟩
theorem e4T {R:Type} {N:Nat} {xs:List D} {n i:Int} {ys:List D} {kr:List D→Option R} {r:R} (h:SA N xs n i ys kr=some r):∃zs,kr zs=some r∧ ∀{R':Type} (kr':List D→Option R'),SA N xs n i ys kr'=kr' zs:=by
 unfold SA bnd at h⊢;cases h1:inB i xs.length with
 |false=>rw [h1] at h;cases h
 | true=>
  rw [h1] at h;simp only [f6B] at h⊢;generalize hq:G58x0 N ((xs.getD i.toNat (.i 0)).cell 3).isNil ((xs.getD i.toNat (.i 0)).cell 3).items ((xs.getD i.toNat (.i 0)).cell 4).isNil ((xs.getD i.toNat (.i 0)).cell 4).items=q at h⊢;cases h2:q.isSome with
  |false=>rw [h2] at h;cases h
  |true=>
   rw [h2] at h;simp only [f6B] at h⊢;cases h3:(decide ((ys.length+1)*72≤a0L)&&decide ((ys.length+1)≤a0d)) with
   |false=>rw [h3] at h;cases h
   |true=>rw [h3] at h;exact ⟨_,h,fun _=>rfl⟩
theorem e4U {R:Type} {N:Nat} {xs:List D} {n i:Int} {kr:D→Bool→List D→Option R} {r:R} (h:SH N xs n i kr=some r):∃z nK bs,kr z nK bs=some r∧ ∀{R':Type} (kr':D→Bool→List D→Option R'),SH N xs n i kr'=kr' z nK bs:=by
 unfold SH bnd at h⊢;cases h1:inB i xs.length with
 |false=>rw [h1] at h;cases h
 |true=>
  rw [h1] at h;simp only [f6B] at h⊢;generalize hq:H44 N ((xs.getD i.toNat (.i 0)).cell 3).isNil ((xs.getD i.toNat (.i 0)).cell 3).items ((xs.getD i.toNat (.i 0)).cell 4).isNil ((xs.getD i.toNat (.i 0)).cell 4).items=q at h⊢;cases h2:q.isSome with
  |false=>rw [h2] at h;cases h
  |true=>rw [h2] at h;exact ⟨_,_,_,h,fun _=>rfl⟩
theorem e4V {N:Nat} {n7:Bool} {xs:List D} {n:Int} {b2:Bool} {x2:List D} {k:Nat} {nK:Bool} {bs:List D}:∀(m:Nat) (i:Int) (ys zs:List D),lpC N xs n m i ys=some zs→d9k Rd (stC n7 xs n b2 x2 i k ys nK bs) (.exit 0,e8Q b2 x2 k zs nK bs)
 |0,i,ys,zs,h=>by cases h
 | m+1,i,ys,zs,h=>by
  unfold lpC at h;cases hi:decide (i<n) with
  |false=>
   rw [hi] at h;cases h;refine .stop (d27 (b1V N) rfl ((f4k ..).trans ?_));rw [hi];rfl
  |true=>
   rw [hi] at h;obtain ⟨ws,h1,h2⟩:=e4S (n:=n) h;refine .step (d27 (b1V N) rfl ((e8S ..).trans ?_)) (e4V (n7:=n7) m _ ws zs h1);rw [hi];exact h2 fun zs=>some (Ex.normal,stC n7 xs n b2 x2 (IntKind.i64.wrap (i+1)) k zs nK bs)
theorem e8T {N:Nat} {n7:Bool} {xs:List D} {n k:Int} {b2:Bool} {x2:List D}:∀(m:Nat) (i:Int) (nl:Bool) (ys:List D) (p:Nat×List D×Bool×List D),lpA N xs n k m i nl ys=some p→d9k Rd (stA n7 xs n b2 x2 i nl ys) (.exit 0,e8Q b2 x2 p.1 p.2.1 p.2.2.1 p.2.2.2)
 |0,i,nl,ys,p,h=>by cases h
 | m + 1,i,nl,ys,p,h=>by
  unfold lpA at h;cases hi:decide (i<n) with
  |false=>rw [hi] at h;cases h
  | true=>
   rw [hi] at h;simp only [f6B] at h;cases hk:decide (i=k) with
   |false=>
    rw [hk] at h;obtain ⟨ws,h1,h2⟩:=e4T (n:=n) h;refine .step (d27 (b1V N) rfl ((e8R ..).trans ?_)) (e8T (n7:=n7) m _ false ws p h1);rw [hi];exact h2 fun zs=>some (Ex.normal,stA n7 xs n b2 x2 (IntKind.i64.wrap (i+1)) false zs)
   | true=>
    rw [hk] at h;simp only [f6B] at h;obtain ⟨z,nK,bs,h1,h2⟩:=e4U h;cases nl with
    | true=>
     cases ys with
     |cons y ys=>cases h1
     | nil=>
      have h1:(lpC N xs n m (IntKind.wrap .i64 (i+1)) [z]).bind (fun zs=>some (0,zs,nK,bs))=some p:=h1
      cases hc:lpC N xs n m (IntKind.wrap .i64 (i+1)) [z] with
      |none=>rw [hc] at h1;cases h1
      |some zs=>
       rw [hc] at h1;cases h1;refine .step (d27 (d26 N) rfl ((e4R ..).trans ?_)) (e4V (n7:=n7) m _ _ zs hc);rw [hi];exact h2 fun z nK bs=>some (Ex.normal,stC n7 xs n b2 x2 (IntKind.i64.wrap (i+1)) 0 [z] nK bs)
    | false=>
     simp only [f6C] at h1;cases hr:(decide ((ys.length+1)*72≤a0L)&&decide ((ys.length+1)≤a0d))&&true with
     |false=>rw [hr] at h1;cases h1
     | true=>
      rw [hr] at h1;simp only [f6B] at h1;cases hc:lpC N xs n m (IntKind.wrap .i64 (i+1)) (ys++[z]) with
      |none=>rw [hc] at h1;cases h1
      |some zs=>
       rw [hc] at h1;cases h1;refine .step (d27 (d26 N) rfl ((e4Q ..).trans ?_)) (e4V (n7:=n7) m _ _ zs hc);rw [hi];refine (h2 fun z nK bs=>bif (decide ((ys.length+1)*72≤a0L)&&decide ((ys.length+1)≤a0d))&&true then some (Ex.normal,stC n7 xs n b2 x2 (IntKind.i64.wrap (i+1)) ys.length (ys++[z]) nK bs) else none).trans ?_
       simp only [hr,f6B]
def sh9:Sh:={tmps:=[(2,.c (.p 2 0)),(3,.c (.p 3 0)),(7,.c (.sl 44)),(8,.c (.i .i64)),(9,.c (.i .i64))],mem:=[(2,.box ([.sl 44])),(3,.box ([.o 50003000])),(50003000,.row 44 true)]}
def A9 (N:Nat) (k:Int) (L:List Lf):List (Bool×(Ex×St)):=bnd (lpA N (ll L 1) (li L 2) k N (li L 3) (lb L 6) (ll L 7)) fun q=>[(q.isSome,(.exit 0,e8Q (lb L 4) (ll L 5) (q.getD default).1 (q.getD default).2.1 (q.getD default).2.2.1 (q.getD default).2.2.2))]
theorem f5R (N:Nat) (k:Int):a30 Tryz.prog 0 (a1p Tryz.prog 42 9) (d8B sh9 (A9 N k)):=
 d9n a0b (by kernel_rfl) (by kernel_rfl) (fsW _) (b1T (Q:=fun st x=>d9k Rd st x) fun L x hx=>by
  unfold A9 bnd at hx;cases hq:lpA N (ll L 1) (li L 2) k N (li L 3) (lb L 6) (ll L 7) with
  |none=>rw [hq] at hx;cases hx
  |some p=>rw [hq] at hx;cases hx;exact e8T N _ _ _ p hq)
end Ce
namespace Ce
def g22 (N:Nat) (k:Int):Sg Tryz.prog 0 42:=(Sg.start f5s f4j true).hand (id:=9) (f5R N k)
def sh22:Sh:={tmps:=[(0,.g ([.sl 44]))],mem:=[]}
def f5t (p:Nat×List D×Bool×List D):Res:=([.g [.o KR]],[(KR,.krow 44 p.1 4 (.kp KB) p.2.1),(KB,.row 5 true p.2.2.1 p.2.2.2)])
def A22k (N:Nat) (k:Int) (L:List Lf):List (Bool×Res):=bnd (lpA N (ll L 1) ((ll L 1).length:Int) k N 0 true []) fun q=>[(q.isSome,f5t (q.getD default))]
theorem e8U (N:Nat) (k:Int) (L:List Lf):bd Tryz.prog a3k (g22 N k).h 42 sh22 L=bnd (lpA N (ll L 1) ((ll L 1).length:Int) k N 0 true []) fun q=>bif q.isSome then some (f5t (q.getD default)) else none:=by kernel_rfl
theorem ok22k (N:Nat) (k:Int):a0G Tryz.prog 42 sh22 (A22k N k):=(g22 N k).fn a0b a1N fun L x hx=>(e8U N k L).trans hx
end Ce
namespace Ce
def f4l:List Oper:=match a1p Tryz.prog 10 43 with| .region _ ops _=>ops.toList|_=>[]
def e8V:List Oper→Nat→Oper
 |o::_,0=>o
 |_::r,n+1=>e8V r n
 | [],_=>⟨none,.move (.tmp 0),0, "", #[],none⟩
def o14 (n:Nat):Oper:=e8V f4l n
theorem d28:a1p Tryz.prog 10 43= .region 14 [o14 0,o14 1,o14 2,o14 3,o14 4,o14 5,o14 6,o14 7,o14 8,o14 9,o14 10,o14 11,o14 12,o14 13].toArray true:=by kernel_rfl
theorem op3:(o14 3).op= .indexAddr 29 (.tmp 71) (.tmp 72):=by kernel_rfl
def s4:Nat:=match (o14 4).op with| .fieldAddr s _ _=>s|_=>0
theorem op4:(o14 4).op= .fieldAddr s4 (.tmp 73) 4:=by kernel_rfl
theorem f4g:a4B Tryz.prog s4 4=some 4:=by kernel_rfl
theorem op5:(o14 5).op= .load 42 (.tmp 74):=by kernel_rfl
theorem f5S:(o14 11).op= .slice 42 (.tmp 75) (some (.tmp 80)) none none:=by kernel_rfl
def d29 (o:Oper):Bool:=match o.op with
 | .call c=>(match c.callee,c.args.toList,c.argTypes.toList with
  | .builtin .copy,[.tmp x,.tmp y],[T,T']=>Nat.beq x 81&&Nat.beq y 82&&Nat.beq T 42&&Nat.beq T' 42
  |_,_,_=>false)
 |_=>false
theorem e8W:d29 (o14 13)=true:=by kernel_rfl
theorem c4w {o:Oper} (h:d29 o=true):∃c,o.op= .call c∧c.callee= .builtin .copy∧c.args.toList=[.tmp 81,.tmp 82]∧c.argTypes.toList=[42,42]:=by
 unfold d29 at h;split at h
 ·rename_i c hc
  split at h
  ·rename_i x y T T' h1 h2 h3
   simp only [f6z] at h;have e1:=f6y h.1.1.1;have e2:=f6y h.1.1.2;have e3:=f6y h.1.2;have e4:=f6y h.2;subst e1 e2 e3 e4;exact ⟨c,hc,h1,h2,h3⟩
  ·cases h
 ·cases h
abbrev R7:Nat:=70050003000
abbrev K7:Nat:=70050003001
def E14:Nat:=match (o14 8).op with| .indexAddr T _ _=>(a0j Tryz.prog T).getD 0|_=>0
def f5u (i:Int) (nl:Bool) (fs:List D) (j:Int) (nb:Bool) (ys:List D):AL V:=[(1,.c (.i .i64 i)),(6,.c (.p 6 0)),(10,.c (.sl E14 nl fs)),(11,.c (.i .i64 j)),(12,.c (.sl 5 nb ys)),(13,.c (.p 13 0))]
def e8X (i:Int) (nl:Bool) (fs:List D) (j:Int) (nb:Bool) (ys:List D) (b6:Bool) (x6:List D) (k:Nat) (xs:List D) (bs:List D):St:=
 ⟨f5u i nl fs j nb ys,[(6,.box [.sl 44 b6 x6]),(13,.box [.o R7]),(R7,.krow 44 k 4 (.kp K7) xs),(K7,.row 5 true false bs)]⟩
section
variable (i:Int) (nl:Bool) (fs:List D) (j:Int) (nb:Bool) (ys:List D) (b6:Bool) (x6:List D) (k:Nat) (xs bs:List D)
def f5T:St:=((e8X i nl fs j nb ys b6 x6 k xs bs).put (some 70) (.c (.p 13 0))).put (some 71) (.c (.o R7))|>.put (some 72) (.c (.i .i64 i))
theorem v0:(let st:=e8X i nl fs j nb ys b6 x6 k xs bs;a1S Tryz.prog st.mem (evu st) (evw st) (o14 0))=some (true,.c (.p 13 0)):=by kernel_rfl
theorem v1:(let st:=(e8X i nl fs j nb ys b6 x6 k xs bs).put (some 70) (.c (.p 13 0));a1S Tryz.prog st.mem (evu st) (evw st) (o14 1))=some (true,.c (.o R7)):=by kernel_rfl
theorem v2:(let st:=((e8X i nl fs j nb ys b6 x6 k xs bs).put (some 70) (.c (.p 13 0))).put (some 71) (.c (.o R7));a1S Tryz.prog st.mem (evu st) (evw st) (o14 2))=some (true,.c (.i .i64 i)):=by kernel_rfl
def q14:Nat:=match (o14 9).op with| .fieldAddr s _ f=>(a4B Tryz.prog s f).getD 0|_=>0
def sB (p3 p4:Value):St:=(((f5T i nl fs j nb ys b6 x6 k xs bs).put (some 73) (.c (.v p3))).put (some 74) (.c (.v p4))).put (some 75) (.c (.o K7))
theorem v6 (p3 p4:Value):(let st:=sB i nl fs j nb ys b6 x6 k xs bs p3 p4;a1S Tryz.prog st.mem (evu st) (evw st) (o14 6))=some (true,.c (.sl E14 nl fs)):=by kernel_rfl
def sC (p3 p4:Value):St:=((sB i nl fs j nb ys b6 x6 k xs bs p3 p4).put (some 76) (.c (.sl E14 nl fs))).put (some 77) (.c (.i .i64 j))
theorem v7 (p3 p4:Value):(let st:=(sB i nl fs j nb ys b6 x6 k xs bs p3 p4).put (some 76) (.c (.sl E14 nl fs));a1S Tryz.prog st.mem (evu st) (evw st) (o14 7))=some (true,.c (.i .i64 j)):=by kernel_rfl
theorem v8 (p3 p4:Value):(let st:=sC i nl fs j nb ys b6 x6 k xs bs p3 p4;a1S Tryz.prog st.mem (evu st) (evw st) (o14 8))=some (inB j fs.length,.c (.el E14 (fs.getD j.toNat (.i 0)) 0)):=by kernel_rfl
theorem v9 (p3 p4:Value):(let st:=(sC i nl fs j nb ys b6 x6 k xs bs p3 p4).put (some 78) (.c (.el E14 (fs.getD j.toNat (.i 0)) 0));a1S Tryz.prog st.mem (evu st) (evw st) (o14 9))=some (true,.c (.el E14 (fs.getD j.toNat (.i 0)) q14)):=by kernel_rfl
theorem v10 (p3 p4:Value):(let st:=((sC i nl fs j nb ys b6 x6 k xs bs p3 p4).put (some 78) (.c (.el E14 (fs.getD j.toNat (.i 0)) 0))).put (some 79) (.c (.el E14 (fs.getD j.toNat (.i 0)) q14));a1S Tryz.prog st.mem (evu st) (evw st) (o14 10))=some (true,.c (.i .i64 ((fs.getD j.toNat (.i 0)).cell q14).toI)):=by kernel_rfl
def off14:Int:=((fs.getD j.toNat (.i 0)).cell q14).toI
def sD (p3 p4 p11:Value):St:=((((sC i nl fs j nb ys b6 x6 k xs bs p3 p4).put (some 78) (.c (.el E14 (fs.getD j.toNat (.i 0)) 0))).put (some 79) (.c (.el E14 (fs.getD j.toNat (.i 0)) q14))).put (some 80) (.c (.i .i64 (off14 fs j)))).put (some 81) (.c (.v p11))
theorem v12 (p3 p4 p11:Value):(let st:=sD i nl fs j nb ys b6 x6 k xs bs p3 p4 p11;a1S Tryz.prog st.mem (evu st) (evw st) (o14 12))=some (true,.c (.sl 5 nb ys)):=by kernel_rfl
end
end Ce
namespace Ce
section
variable (i:Int) (nl:Bool) (fs:List D) (j:Int) (nb:Bool) (ys:List D) (b6:Bool) (x6:List D) (k:Nat) (xs bs:List D)
def z0:St:=e8X i nl fs j nb ys b6 x6 k xs bs
def z1:St:=(z0 i nl fs j nb ys b6 x6 k xs bs).put (some 70) (.c (.p 13 0))
def z2:St:=(z1 i nl fs j nb ys b6 x6 k xs bs).put (some 71) (.c (.o R7))
def z3:St:=(z2 i nl fs j nb ys b6 x6 k xs bs).put (some 72) (.c (.i .i64 i))
def z4 (v:Value):St:=(z3 i nl fs j nb ys b6 x6 k xs bs).put (some 73) (.c (.v v))
def z5 (v v':Value):St:=(z4 i nl fs j nb ys b6 x6 k xs bs v).put (some 74) (.c (.v v'))
def z6 (v v':Value):St:=(z5 i nl fs j nb ys b6 x6 k xs bs v v').put (some 75) (.c (.o K7))
def z7 (v v':Value):St:=(z6 i nl fs j nb ys b6 x6 k xs bs v v').put (some 76) (.c (.sl E14 nl fs))
def z8 (v v':Value):St:=(z7 i nl fs j nb ys b6 x6 k xs bs v v').put (some 77) (.c (.i .i64 j))
def z9 (v v':Value):St:=(z8 i nl fs j nb ys b6 x6 k xs bs v v').put (some 78) (.c (.el E14 (fs.getD j.toNat (.i 0)) 0))
def z10 (v v':Value):St:=(z9 i nl fs j nb ys b6 x6 k xs bs v v').put (some 79) (.c (.el E14 (fs.getD j.toNat (.i 0)) q14))
def z11 (v v':Value):St:=(z10 i nl fs j nb ys b6 x6 k xs bs v v').put (some 80) (.c (.i .i64 (off14 fs j)))
def z12 (v v' v'':Value):St:=(z11 i nl fs j nb ys b6 x6 k xs bs v v').put (some 81) (.c (.v v''))
def z13 (v v' v'':Value):St:=(z12 i nl fs j nb ys b6 x6 k xs bs v v' v'').put (some 82) (.c (.sl 5 nb ys))
theorem y0:a1S Tryz.prog (z0 i nl fs j nb ys b6 x6 k xs bs).mem (evu (z0 i nl fs j nb ys b6 x6 k xs bs)) (evw (z0 i nl fs j nb ys b6 x6 k xs bs)) (o14 0)=some (true,.c (.p 13 0)):=by kernel_rfl
theorem y1:a1S Tryz.prog (z1 i nl fs j nb ys b6 x6 k xs bs).mem (evu (z1 i nl fs j nb ys b6 x6 k xs bs)) (evw (z1 i nl fs j nb ys b6 x6 k xs bs)) (o14 1)=some (true,.c (.o R7)):=by kernel_rfl
theorem y2:a1S Tryz.prog (z2 i nl fs j nb ys b6 x6 k xs bs).mem (evu (z2 i nl fs j nb ys b6 x6 k xs bs)) (evw (z2 i nl fs j nb ys b6 x6 k xs bs)) (o14 2)=some (true,.c (.i .i64 i)):=by kernel_rfl
theorem y6 (v v':Value):a1S Tryz.prog (z6 i nl fs j nb ys b6 x6 k xs bs v v').mem (evu (z6 i nl fs j nb ys b6 x6 k xs bs v v')) (evw (z6 i nl fs j nb ys b6 x6 k xs bs v v')) (o14 6)=some (true,.c (.sl E14 nl fs)):=by kernel_rfl
theorem y7 (v v':Value):a1S Tryz.prog (z7 i nl fs j nb ys b6 x6 k xs bs v v').mem (evu (z7 i nl fs j nb ys b6 x6 k xs bs v v')) (evw (z7 i nl fs j nb ys b6 x6 k xs bs v v')) (o14 7)=some (true,.c (.i .i64 j)):=by kernel_rfl
theorem y8 (v v':Value):a1S Tryz.prog (z8 i nl fs j nb ys b6 x6 k xs bs v v').mem (evu (z8 i nl fs j nb ys b6 x6 k xs bs v v')) (evw (z8 i nl fs j nb ys b6 x6 k xs bs v v')) (o14 8)=some (inB j fs.length,.c (.el E14 (fs.getD j.toNat (.i 0)) 0)):=by kernel_rfl
theorem y9 (v v':Value):a1S Tryz.prog (z9 i nl fs j nb ys b6 x6 k xs bs v v').mem (evu (z9 i nl fs j nb ys b6 x6 k xs bs v v')) (evw (z9 i nl fs j nb ys b6 x6 k xs bs v v')) (o14 9)=some (true,.c (.el E14 (fs.getD j.toNat (.i 0)) q14)):=by kernel_rfl
theorem y10 (v v':Value):a1S Tryz.prog (z10 i nl fs j nb ys b6 x6 k xs bs v v').mem (evu (z10 i nl fs j nb ys b6 x6 k xs bs v v')) (evw (z10 i nl fs j nb ys b6 x6 k xs bs v v')) (o14 10)=some (true,.c (.i .i64 (off14 fs j))):=by kernel_rfl
theorem y12 (v v' v'':Value):a1S Tryz.prog (z12 i nl fs j nb ys b6 x6 k xs bs v v' v'').mem (evu (z12 i nl fs j nb ys b6 x6 k xs bs v v' v'')) (evw (z12 i nl fs j nb ys b6 x6 k xs bs v v' v'')) (o14 12)=some (true,.c (.sl 5 nb ys)):=by kernel_rfl
theorem f4m:evu (z3 i nl fs j nb ys b6 x6 k xs bs) (.tmp 71)= .c (.o R7):=by kernel_rfl
theorem f4n:evu (z3 i nl fs j nb ys b6 x6 k xs bs) (.tmp 72)= .c (.i .i64 i):=by kernel_rfl
theorem f4o (v:Value):evu (z4 i nl fs j nb ys b6 x6 k xs bs v) (.tmp 73)= .c (.v v):=by kernel_rfl
theorem f4p (v v':Value):evu (z5 i nl fs j nb ys b6 x6 k xs bs v v') (.tmp 74)= .c (.v v'):=by kernel_rfl
theorem e8Y (v v':Value):evu (z11 i nl fs j nb ys b6 x6 k xs bs v v') (.tmp 75)= .c (.o K7):=by kernel_rfl
theorem e8Z (v v':Value):evu (z11 i nl fs j nb ys b6 x6 k xs bs v v') (.tmp 80)= .c (.i .i64 (off14 fs j)):=by kernel_rfl
theorem e83 (v v' v'':Value):evu (z13 i nl fs j nb ys b6 x6 k xs bs v v' v'') (.tmp 81)= .c (.v v''):=by kernel_rfl
theorem e84 (v v' v'':Value):evu (z13 i nl fs j nb ys b6 x6 k xs bs v v' v'') (.tmp 82)= .c (.sl 5 nb ys):=by kernel_rfl
theorem f4q:get (z3 i nl fs j nb ys b6 x6 k xs bs).mem R7=some (.krow 44 k 4 (.kp K7) xs):=by kernel_rfl
theorem e85 (v v':Value):get (z11 i nl fs j nb ys b6 x6 k xs bs v v').mem K7=some (.row 5 true false bs):=by kernel_rfl
theorem e86 (v v' v'':Value):get (z13 i nl fs j nb ys b6 x6 k xs bs v v' v'').mem K7=some (.row 5 true false bs):=by kernel_rfl
theorem e87 (v v' v'':Value):get (z13 i nl fs j nb ys b6 x6 k xs bs v v' v'').mem R7=some (.krow 44 k 4 (.kp K7) xs):=by kernel_rfl
theorem y13 (v v' v'':Value):a66 Tryz.prog (z13 i nl fs j nb ys b6 x6 k xs bs v v' v'').mem 5 42 (.c (.sl 5 nb ys))=some ys:=by kernel_rfl
def bs':List D:=bs.take (off14 fs j).toNat++ys.take (bs.length-(off14 fs j).toNat)++bs.drop ((off14 fs j).toNat+ys.length)
def xs':List D:=xs.set k ((xs.getD k (.i 0)).put 4 (.l false (bs' fs j ys bs)))
def d9s (b6:Bool) (x6:List D) (zs:List D):St:=⟨[(6,.c (.p 6 0)),(13,.c (.p 13 0))],[(6,.box [.sl 44 b6 x6]),(13,.box [.o R7]),(R7,.row 44 true false zs)]⟩
theorem f5U (zs ws:List D) (v v' v'':Value) (m:Int):a5h [6,13] [6,13,R7] {({(z13 i nl fs j nb ys b6 x6 k xs bs v v' v'') with mem:=set (z13 i nl fs j nb ys b6 x6 k xs bs v v' v'').mem K7 (.row 5 true false ws)}:St).put (some 83) (.c (.i .i64 m)) with mem:=set (set (set (z13 i nl fs j nb ys b6 x6 k xs bs v v' v'').mem K7 (.row 5 true false ws)) K7 (.row 5 false false ws)) R7 (.row 44 true false zs)}=d9s b6 x6 zs:=by kernel_rfl
end
theorem g14:∀n,n<14→(o14 n).guard=none∧(o14 n).dst=some (70+n):=by
 intro n hn;match n,hn with
 |0,_=>exact ⟨by kernel_rfl,by kernel_rfl⟩
 |1,_=>exact ⟨by kernel_rfl,by kernel_rfl⟩
 |2,_=>exact ⟨by kernel_rfl,by kernel_rfl⟩
 |3,_=>exact ⟨by kernel_rfl,by kernel_rfl⟩
 |4,_=>exact ⟨by kernel_rfl,by kernel_rfl⟩
 |5,_=>exact ⟨by kernel_rfl,by kernel_rfl⟩
 |6,_=>exact ⟨by kernel_rfl,by kernel_rfl⟩
 |7,_=>exact ⟨by kernel_rfl,by kernel_rfl⟩
 |8,_=>exact ⟨by kernel_rfl,by kernel_rfl⟩
 |9,_=>exact ⟨by kernel_rfl,by kernel_rfl⟩
 |10,_=>exact ⟨by kernel_rfl,by kernel_rfl⟩
 |11,_=>exact ⟨by kernel_rfl,by kernel_rfl⟩
 |12,_=>exact ⟨by kernel_rfl,by kernel_rfl⟩
 |13,_=>exact ⟨by kernel_rfl,by kernel_rfl⟩
end Ce
namespace Ce
theorem f4r (i:Int) (nl:Bool) (fs:List D) (j:Int) (nb:Bool) (ys:List D) (b6:Bool) (x6:List D) (k:Nat) (xs bs:List D):a4f (fun _=>false) (z0 i nl fs j nb ys b6 x6 k xs bs)=z0 i nl fs j nb ys b6 x6 k xs bs:=by kernel_rfl
theorem f5V:Tryz.prog.follows .mixedOrders=true:=by kernel_rfl
theorem f4s:Region.lexTailB .any [o14 0,o14 1,o14 2,o14 3,o14 4,o14 5,o14 6,o14 7,o14 8,o14 9,o14 10,o14 11,o14 12,o14 13].toArray 13=true:=by kernel_rfl
theorem f5W:Tryz.prog.underlying 29=some (.slice 44):=by kernel_rfl
theorem f5X:tyB Tryz.prog 44=true:=by kernel_rfl
theorem f5Y:a0g Tryz.prog 42=false:=by kernel_rfl
theorem f5Z:tyB Tryz.prog 42=true:=by kernel_rfl
theorem f50:Tryz.prog.underlying 42=some (.slice 5):=by kernel_rfl
theorem f51:tyB Tryz.prog 5=true:=by kernel_rfl
theorem f52:a0a Tryz.prog 5=1:=by kernel_rfl
theorem f53:a0j Tryz.prog 42=some 5:=by kernel_rfl
theorem f54:(kinds Tryz.prog 44)[4]?=some (.sl 5):=by kernel_rfl
theorem f55:a0g Tryz.prog 44=true:=by kernel_rfl
theorem f4t (d:D) (j:Nat):elD Tryz.prog 44 d j=d.cell j:=by unfold elD;rw [f55];rfl
theorem e88 {i:Int} {nl:Bool} {fs:List D} {j:Int} {nb:Bool} {ys:List D} {b6:Bool} {x6:List D} {k:Nat} {xs bs:List D} {N n0:Nat} {F:Nat→Prop} {B M0:a0D} {w0:World} {e0:a5i} {env:Env} {a:Act} {w:World} {nn:Nat}
  (h:Rel Tryz.prog N n0 B M0 w0 F e0 env (z0 i nl fs j nb ys b6 x6 k xs bs) a w) (hN:84≤N) (hi:i=k) (hj:inB j fs.length=true) (h0:0≤off14 fs j) (h1:(off14 fs j).toNat<bs.length) (hk:k<xs.length):
  (a1p Tryz.prog 10 43).wpIn Fence.wide nn Tryz.prog (c1b Tryz.prog N n0 B M0 w0 F e0 (fun e st=>some (e,st)) (.normal,d9s b6 x6 (xs' fs j ys k xs bs))) a w:=by
 rw [d28];obtain ⟨c,c1,c2,c3,c4⟩:=c4w e8W;have c3':c.args= #[.tmp 81,.tmp 82]:=by rw [←Array.toList_inj];exact c3
 have c4':c.argTypes= #[42,42]:=by rw [←Array.toList_inj];exact c4
 have hg:∀(zs:List D) (a:Nat),(xs.set k zs.head!).getD a (.i 0)=if k=a∧a<xs.length then zs.head! else xs.getD a (.i 0):=by
  intro zs a;rw [f6F,f6F,List.getElem?_set];by_cases hka:k=a
  ·subst hka
   simp [hk]
  ·simp [hka]
 have hgx:∀a:Nat,(xs' fs j ys k xs bs).getD a (.i 0)=if k=a then (xs.getD k (.i 0)).put 4 (.l false (bs' fs j ys bs)) else xs.getD a (.i 0):=by
  intro a;unfold xs';rw [f6F,List.getElem?_set];by_cases hka:k=a
  ·subst hka
   simp [hk]
  ·simp [hka,f6F]
 have hv8:∀v v',a1S Tryz.prog (z8 i nl fs j nb ys b6 x6 k xs bs v v').mem (evu (z8 i nl fs j nb ys b6 x6 k xs bs v v')) (evw (z8 i nl fs j nb ys b6 x6 k xs bs v v')) (o14 8)=some (true,.c (.el E14 (fs.getD j.toNat (.i 0)) 0)):=by
  intro v v';rw [←hj];exact y8 ..
 exact d2L (S4:=z4 i nl fs j nb ys b6 x6 k xs bs) (S5:=z5 i nl fs j nb ys b6 x6 k xs bs) (S6:=z6 i nl fs j nb ys b6 x6 k xs bs) (S7:=z7 i nl fs j nb ys b6 x6 k xs bs) (S8:=z8 i nl fs j nb ys b6 x6 k xs bs) (S9:=z9 i nl fs j nb ys b6 x6 k xs bs) (S10:=z10 i nl fs j nb ys b6 x6 k xs bs) (S11:=z11 i nl fs j nb ys b6 x6 k xs bs) (S12:=z12 i nl fs j nb ys b6 x6 k xs bs) (S13:=z13 i nl fs j nb ys b6 x6 k xs bs)
  (s1:=z1 i nl fs j nb ys b6 x6 k xs bs) (s2:=z2 i nl fs j nb ys b6 x6 k xs bs) (s3:=z3 i nl fs j nb ys b6 x6 k xs bs) (bs':=bs' fs j ys bs) (xs':=xs' fs j ys k xs bs)
  f5V f4s h hN (f4r ..)
  (g14 0 (by omega)).1 (g14 0 (by omega)).2 (g14 1 (by omega)).1 (g14 1 (by omega)).2 (g14 2 (by omega)).1 (g14 2 (by omega)).2 (g14 3 (by omega)).1 (g14 3 (by omega)).2 (g14 4 (by omega)).1 (g14 4 (by omega)).2 (g14 5 (by omega)).1 (g14 5 (by omega)).2 (g14 6 (by omega)).1 (g14 6 (by omega)).2 (g14 7 (by omega)).1 (g14 7 (by omega)).2 (g14 8 (by omega)).1 (g14 8 (by omega)).2 (g14 9 (by omega)).1 (g14 9 (by omega)).2 (g14 10 (by omega)).1 (g14 10 (by omega)).2 (g14 11 (by omega)).1 (g14 11 (by omega)).2 (g14 12 (by omega)).1 (g14 12 (by omega)).2 (g14 13 (by omega)).1 (g14 13 (by omega)).2
  (y0 ..) rfl (y1 ..) rfl (y2 ..) rfl
  op3 (f4m ..) (f4n ..) (f4q ..) f5W f5X hi
  (fun _=>rfl) op4 f4g (fun _=>f4o ..) (fun _ _=>rfl) (fun _ _=>f4p ..) op5 f5Y f5Z (fun _ _=>rfl)
  (fun _ _=>y6 ..) (fun _ _=>rfl) (fun _ _=>y7 ..) (fun _ _=>rfl) hv8 (fun _ _=>rfl) (fun _ _=>y9 ..) (fun _ _=>rfl) (fun _ _=>y10 ..) (fun _ _=>rfl)
  (fun _ _=>e8Y ..) (fun _ _=>e8Z ..) (fun _ _=>e85 ..)
  f5S f50 f51 f52 h0 h1
  (fun _ _ _=>rfl) (fun _ _ _=>y12 ..) (fun _ _ _=>rfl) (fun _ _ _=>e83 ..) (fun _ _ _=>e84 ..) c1 c2 c3' c4'
  f53 (fun _ _ _=>e86 ..) (fun _ _ _=>e87 ..) (fun _ _ _=>y13 ..)
  rfl (by unfold xs';rw [List.length_set]) (fun a b hab=>by
   rw [f4t,f4t,hgx];by_cases hka:k=a
   ·rw [if_pos hka,a16,if_neg (fun hb=>hab ⟨hka.symm,hb⟩),hka]
   ·rw [if_neg hka]) (by rw [f4t,hgx,if_pos rfl,a16,if_pos rfl]) f54 (by decide)
  (fun v v' v'' m=>f5U ..)
theorem e14:E14=101:=by kernel_rfl
theorem f56 {N:Nat} (h:okC N (a1p Tryz.prog 10 43)=true):84≤N:=by
 rw [d28] at h;simp only [okC] at h;have:=c35 h (o14 13) (by simp) 83 (g14 13 (by omega)).2
 exact this
def f4u:Sh:={tmps:=[(1,.c (.i .i64)),(6,.c (.p 6 0)),(10,.c (.sl 101)),(11,.c (.i .i64)),(12,.c (.sl 5)),(13,.c (.p 13 0))],mem:=[(6,.box [.sl 44]),(13,.box [.o R7]),(R7,.krow 44 4 K7),(K7,.row 5 true)]}
def c43 (i:Int) (fs:List D) (j:Int) (k:Nat) (xs:List D) (nK:Bool) (bs:List D):Bool:=
 ((((decide (i=k)&&inB j fs.length)&&decide (0≤off14 fs j))&&decide ((off14 fs j).toNat<bs.length))&& !nK)&&decide (k<xs.length)
def A43 (L:List Lf):List (Bool×(Ex×St)):=[(c43 (li L 0) (ll L 2) (li L 3) (ln L 8) (ll L 9) (lb L 10) (ll L 11),(.normal,d9s (lb L 6) (ll L 7) (xs' (ll L 2) (li L 3) (ll L 5) (ln L 8) (ll L 9) (ll L 11))))]
def zn (i:Int) (nl:Bool) (fs:List D) (j:Int) (nb:Bool) (ys:List D) (b6:Bool) (x6:List D) (k:Nat) (xs:List D) (nK:Bool) (bs:List D):St:=
 ⟨f5u i nl fs j nb ys,[(6,.box [.sl 44 b6 x6]),(13,.box [.o R7]),(R7,.krow 44 k 4 (.kp K7) xs),(K7,.row 5 true nK bs)]⟩
theorem f4v (L:List Lf):a0v f4u L=zn (li L 0) (lb L 1) (ll L 2) (li L 3) (lb L 4) (ll L 5) (lb L 6) (ll L 7) (ln L 8) (ll L 9) (lb L 10) (ll L 11):=by kernel_rfl
theorem law43:a30 Tryz.prog 0 (a1p Tryz.prog 10 43) (d8B f4u A43):=by
 intro st alts hst x hx N n0 F B M0 w0 e0 env a w hX hF hok hrel Fe nn hFe;have hFe:Fe=Fence.wide:=hFe;subst hFe;have hq:=b1T (sh:=f4u) (A:=A43) (Q:=fun st x=>∃i nl fs j nb ys b6 x6 k xs bs,st=z0 i nl fs j nb ys b6 x6 k xs bs∧x=(.normal,d9s b6 x6 (xs' fs j ys k xs bs))∧i=k∧inB j fs.length=true∧0≤off14 fs j∧(off14 fs j).toNat<bs.length∧k<xs.length) (fun L x hx=>by
  unfold A43 at hx;cases hc:c43 (li L 0) (ll L 2) (li L 3) (ln L 8) (ll L 9) (lb L 10) (ll L 11) with
  |false=>rw [hc] at hx;cases hx
  |true=>
   rw [hc] at hx;have hx:=Option.some.inj hx;unfold c43 at hc;simp only [f6z,decide_eq_true_eq,Bool.not_eq_true'] at hc;obtain ⟨⟨⟨⟨⟨h1,h2⟩,h3⟩,h4⟩,h5⟩,h6⟩:=hc;refine ⟨_,lb L 1,_,_,lb L 4,_,_,_,_,_,_,(f4v L).trans ?_,hx.symm,h1,h2,h3,h4,h6⟩;rw [h5];exact rfl) st alts hst x hx
 obtain ⟨i,nl,fs,j,nb,ys,b6,x6,k,xs,bs,e1,e2,h1,h2,h3,h4,h5⟩:=hq;subst e1 e2;exact e88 hrel (f56 hok) h1 h2 h3 h4 h5
end Ce
def bk:f3D:=fun _=>{}
def R1:a0e:=tow Tryz.prog bk a3k 400
theorem f4w:a0c Tryz.prog R1:=e28 a0b bk (fun _=>rfl) a1N 400
theorem d9t:R1 11 [] []=some [(true,([.c (.b true)],[]))]:=by kernel_rfl
def e3c:Sh:={tmps:=[],mem:=[]}
def e89 (_:List Lf):List (Bool×Res):=[(true,([.c (.b true)],[]))]
theorem d3a:a13 Tryz.prog 11 [] [] ([.c (.b true)],[]):=(f4w 11 [] [] _ d9t).2 _ rfl
theorem e4W:a0G Tryz.prog 11 e3c e89:=a8h fun L x hx=>by
 have hx:some (([.c (.b true)],[]):Res)=some x:=hx;simp only [f6x] at hx;subst hx;exact d3a
abbrev LD:Type:=List D
abbrev LB:Type:=List UInt8
abbrev Ty0:Type:=LB×Int×Int×Bool×LD×Bool×LD×Bool×LD×Int
abbrev Ty1:Type:=Int×Int×Int×Bool×LD×Bool×LD×Bool×Int×D
abbrev Ty2:Type:=Bool×Bool×Int×Bool×LD×Int×Int×Int
abbrev Ty3:Type:=Bool×LD×Bool×LD×Bool×LD
abbrev Ty4:Type:=LB×Bool×LD×Bool×LD
abbrev Ty5:Type:=LB×LB×Bool
abbrev Ty6:Type:=Bool×LB×Int×Int
abbrev Ty7:Type:=Int×LB×Bool
variable (N:Nat) {R:Type}
def e9a:List (Nat×List Nat):=[(0,[]),(1,[])]
def e9b:a0E:=[]
def d3b (N:Nat):Sg Tryz.prog 0 47:= .start e9b e9a
def d3c (N:Nat) (k0:D→R):R:=
 k0 (.a [(.b false),(.b false),(.i 0),(.l true []),(.i 0),(.i 0),(.b false),(.b false),(.i 0),(.l true []),(.i 0),(.i 0),(.b false),(.b false),(.i 0),(.l true []),(.i 0),(.i 0),(.b false),(.b false),(.i 0),(.l true []),(.i 0),(.i 0),(.b false),(.b false),(.i 0),(.l true []),(.i 0),(.i 0),(.b false),(.b false),(.i 0),(.l true []),(.i 0),(.i 0),(.b false),(.b false),(.i 0),(.l true []),(.i 0),(.i 0),(.b false),(.b false),(.i 0),(.l true []),(.i 0),(.i 0),(.b false),(.b false),(.i 0),(.l true []),(.i 0),(.i 0),(.b false),(.b false),(.i 0),(.l true []),(.i 0),(.i 0),(.b false),(.b false),(.i 0),(.l true []),(.i 0),(.i 0),(.b false),(.b false),(.i 0),(.l true []),(.i 0),(.i 0),(.b false),(.b false),(.i 0),(.l true []),(.i 0),(.i 0),(.b false),(.b false),(.i 0),(.l true []),(.i 0),(.i 0),(.b false),(.b false),(.i 0),(.l true []),(.i 0),(.i 0),(.b false),(.b false),(.i 0),(.l true []),(.i 0),(.i 0),(.i (-1))])
def b0b:D:=d3c N (fun p=>p)
theorem e4X (k0:D→R):d3c N k0=k0 (b0b N):=by
 unfold b0b d3c
 repeat' (first|rfl|apply a0W|(apply a1D;intro _))
def d3d:Sh:={tmps:=[],mem:=[]}
def e9c (L:List Lf):List (Bool×Res):=bnd (d3c N (fun p=>p)) fun q=>[(true,([.c (.p 2 0)],[(2,.dat 132 q)]))]
theorem e4Y (L:List Lf):bd Tryz.prog a3k (d3b N).h 47 d3d L=d3c N (fun p=>some ([.c (.p 2 0)],[(2,.dat 132 p)])):=by kernel_rfl
theorem e9d:a0G Tryz.prog 47 d3d (e9c N):=
 (d3b N).fn a0b a1N fun L x hx=>((e4Y N L).trans ((e4X N ..).trans (a5j _ _ hx)))
def e4Z:a0e:=ext 47 (a1E d3d (e9c N)) a3k
theorem c6C:a0c Tryz.prog (e4Z N):=a0G.to (e9d N) a1N
def e9e:List (Nat×List Nat):=[(0,[0,1,2]),(1,[0,1,2])]
def e9f:a0E:=[]
def d3e (N:Nat):Sg Tryz.prog 0 20:= .start e9f e9e
def c4x (N:Nat) (v0 v1 v2:Int) (k0:Bool→R):R:=
 k0 (bif (decide (v0≥v1)) then (decide (v0≤v2)) else false)
def a26 (v0 v1 v2:Int):Bool:=c4x N v0 v1 v2 (fun p=>p)
theorem e41 (v0 v1 v2:Int) (k0:Bool→R):c4x N v0 v1 v2 k0=k0 (a26 N v0 v1 v2):=by
 unfold a26 c4x
 repeat' (first|rfl|apply a0W|(apply a1D;intro _))
def d3f:Sh:={tmps:=[(0,.c (.i .i64)),(1,.c (.i .i64)),(2,.c (.i .i64))],mem:=[]}
def e9g (L:List Lf):List (Bool×Res):=bnd (c4x N (li L 0) (li L 1) (li L 2) (fun p=>p)) fun q=>[(true,([.c (.b q)],[]))]
theorem e42 (L:List Lf):bd Tryz.prog (e4Z N) (d3e N).h 20 d3f L=c4x N (li L 0) (li L 1) (li L 2) (fun p=>some ([.c (.b p)],[])):=by kernel_rfl
theorem e9h:a0G Tryz.prog 20 d3f (e9g N):=
 (d3e N).fn a0b (c6C N) fun L x hx=>((e42 N L).trans ((e41 N ..).trans (a5j _ _ hx)))
def e43:a0e:=ext 20 (a1E d3f (e9g N)) (e4Z N)
theorem c6D:a0c Tryz.prog (e43 N):=a0G.to (e9h N) (c6C N)
def e9i:List (Nat×List Nat):=[(0,[0,1]),(1,[2,1])]
def e9j:a0E:=[]
def d3g (N:Nat):Sg Tryz.prog 1 80:= .start e9j e9i
def c8W (N:Nat) (v0 v3:Int) (k0:Bool→R):R:=
 k0 (v0==v3)
def d9u (v0 v3:Int):Bool:=c8W N v0 v3 (fun p=>p)
theorem e44 (v0 v3:Int) (k0:Bool→R):c8W N v0 v3 k0=k0 (d9u N v0 v3):=by
 unfold d9u c8W
 repeat' (first|rfl|apply a0W|(apply a1D;intro _))
def c1J:Sh:={tmps:=[(0,.g ([.i .i64,.i .i64,.i .i64])),(1,.c (.p 0 0))],mem:=[(0,.box ([.i .i64,.i .i64,.i .i64]))]}
def e9k (L:List Lf):List (Bool×Res):=bnd (c8W N (li L 0) (li L 3) (fun p=>p)) fun q=>[(true,([.c (.b q)],mgA (a0v c1J L).mem [] [0]))]
theorem e45 (L:List Lf):bd Tryz.prog (e43 N) (d3g N).h 80 c1J L=c8W N (li L 0) (li L 3) (fun p=>some ([.c (.b p)],mgA (a0v c1J L).mem [] [0])):=by kernel_rfl
theorem e9l:a0G Tryz.prog 80 c1J (e9k N):=
 (d3g N).fn a0b (c6D N) fun L x hx=>((e45 N L).trans ((e44 N ..).trans (a5j _ _ hx)))
def d9v:a0e:=ext 80 (a1E c1J (e9k N)) (e43 N)
theorem b8u:a0c Tryz.prog (d9v N):=a0G.to (e9l N) (c6D N)
def e46:List (Nat×List Nat):=[(0,[0,1]),(1,[0,1]),(2,[8,7,1,0]),(3,[8,1,0,7]),(4,[1,0,5,8,7]),(5,[5]),(6,[8,7,1,0]),(7,[])]
def e47:a0E:=[(6,[0,1,7,8],[0],[])]
def c6E (N:Nat):Sg Tryz.prog 1 101:= .start e47 e46
def a6g (w1:LD) (w2 w4:Int) (w3:Int) (kr:Int→Option R) (k0:Int→Option R) (k1:Unit→Option R):Option R:=
 bif (decide (w3<w2)) then
  bif (inB w3 w1.length) then
   bnd (d9u N ((w1.getD w3.toNat (.i 0)).cell 0).toI w4) fun y0=>
   bif y0 then
    k0 w3
   else
    kr (IntKind.wrap .i64 (w3+1))
  else
   none
 else
  k1 ()
def b1W (N:Nat) {R:Type} (w1:LD) (w2 w4:Int):Nat→Int→(Int→Option R)→(Unit→Option R)→Option R
 |0,_,_,_=>none
 |m+1,w3,k0,k1=>a6g N w1 w2 w4 w3 (fun w3=>b1W N w1 w2 w4 m w3 k0 k1) k0 k1
def b8v (w1:LD) (w2 w4:Int) (w3:Int):Option (Sum (Int) (Unit)):=b1W N (R:=(Sum (Int) (Unit))) w1 w2 w4 N w3 (fun p=>some (.inl p)) (fun p=>some (.inr p))
def a8o (L x:List Lf) (kr:List Lf→Option R) (k0:Int→Option R) (k1:Unit→Option R):Option R:=a6g N (ll L 1) (li L 2) (li L 4) (li x 0) (fun w3=>kr [.i w3]) k0 k1
theorem c1K (L x:List Lf) (kr:List Lf→Option R) (k0:Int→Option R) (k1:Unit→Option R):a8o N L x kr k0 k1=(a8o N L x (fun y=>some (.inl y)) (fun p=>some (.inr (.inl p))) (fun p=>some (.inr (.inr p)))).bind (a1a kr (a1a k0 k1)):=by
 unfold a8o a6g
 repeat' (first|with_reducible apply a0f|(with_reducible apply a0m;intro _)|rfl)
def b1X (L:List Lf) (m:Nat) (x:List Lf):Option (Sum (Int) (Unit)):=b1W N (R:=(Sum (Int) (Unit))) (ll L 1) (li L 2) (li L 4) m (li x 0) (fun p=>some (.inl p)) (fun p=>some (.inr p))
def a3E:Sh:={tmps:=[(0,.c (.sl 37)),(1,.c (.f 80 [(0,0)])),(7,.c (.i .i64)),(8,.c (.i .i64))],mem:=[(0,.box ([.i .i64,.i .i64,.i .i64]))]}
def b6D (L:List Lf) (p:Int):Ex×St:=(.ret,mg (a0v a3E L) [4] [(4,.c (.i .i64 p))] [0] [])
def d9w (L:List Lf):List (Bool×(Ex×St)):=bnd (b1X N L N (pk a3E [3] L)) fun q=>[((a0O q),b6D L (a01 q)),((a0l q).isSome,((.exit 0),mg (a0v a3E L) [] [] [0] []))]
theorem c4y (m:Nat) (kn:St→Option (Ex×St)) (L x:List Lf):lpB Tryz.prog (d9v N) (c6E N).h 1 101 6 a3E [3] [4] [0] (m+100) kn L x=a8o N L x (fun y=>kn (a0v a3E (mx a3E [3] L y))) (fun p=>some (b6D L p)) (fun _=>some ((.exit 0),mg (a0v a3E L) [] [] [0] [])):=by kernel_rfl
theorem d3h (L:List Lf) (m:Nat) (x:List Lf):b1X N L (m+1) x=a8o N L x (b1X N L m) (fun p=>some (.inl p)) (fun p=>some (.inr p)):=by kernel_rfl
def c6F:Sg Tryz.prog 1 101:=
 (c6E N).lp (d9w N) N a0b (b8u N) (fun m kn L x=>(c4y N m kn L x).trans (c1K N L x _ _ _)) (fun L m x=>(d3h N L m x).trans (c1K N L x (b1X N L m) (fun p=>some (.inl p)) (fun p=>some (.inr p)))) fun L x hx=>(a27 a0N) x hx
def b6E (v1:LD) (v2:Int) (k0:Int→Option R):Option R:=
 bnd (b8v N v1 (v1.length:Int) v2 0) fun y0=>
 bif (a0O y0) then
  k0 (a01 y0)
 else
  bif (a0l y0).isSome then
   k0 (-1)
  else
   none
def c1L (v1:LD) (v2:Int):Option (Int):=b6E N v1 v2 (fun p=>some p)
theorem d3i (v1:LD) (v2:Int) (k0:Int→Option R):b6E N v1 v2 k0=(c1L N v1 v2).bind k0:=by
 unfold c1L b6E
 repeat' (first|with_reducible apply a0f|(with_reducible apply a0m;intro _)|rfl)
def b39:Sh:={tmps:=[(0,.c (.sl 37)),(1,.c (.f 80 [(0,0)]))],mem:=[(0,.box ([.i .i64,.i .i64,.i .i64]))]}
def e3d (L:List Lf):List (Bool×Res):=bnd (b6E N (ll L 1) (li L 2) (fun p=>some p)) fun q=>[(q.isSome,([.c (.i .i64 (q.getD default))],mgA (a0v b39 L).mem [] [0]))]
theorem d9x (L:List Lf):bd Tryz.prog (d9v N) (c6F N).h 101 b39 L=b6E N (ll L 1) (li L 2) (fun p=>some ([.c (.i .i64 p)],mgA (a0v b39 L).mem [] [0])):=by kernel_rfl
theorem e48:a0G Tryz.prog 101 b39 (e3d N):=
 (c6F N).fn a0b (b8u N) fun L x hx=>((d9x N L).trans ((d3i N ..).trans (a0N x hx)))
def d3j:a0e:=ext 101 (a1E b39 (e3d N)) (d9v N)
theorem c1M:a0c Tryz.prog (d3j N):=a0G.to (e48 N) (b8u N)
def e9m:List (Nat×List Nat):=[(0,[0,1]),(1,[0,1])]
def e9n:a0E:=[]
def d3k (N:Nat):Sg Tryz.prog 1 79:= .start e9n e9m
def c8X (v1:LD) (v2:Int) (k0:Bool→Option R):Option R:=
 bnd (c1L N v1 v2) fun y0=>
 bif y0.isSome then
  k0 (decide ((y0.getD default)≥0))
 else
  none
def d3l (v1:LD) (v2:Int):Option (Bool):=c8X N v1 v2 (fun p=>some p)
theorem d9y (v1:LD) (v2:Int) (k0:Bool→Option R):c8X N v1 v2 k0=(d3l N v1 v2).bind k0:=by
 unfold d3l c8X
 repeat' (first|with_reducible apply a0f|(with_reducible apply a0m;intro _)|rfl)
def c1N:Sh:={tmps:=[(0,.c (.sl 37)),(1,.c (.f 80 [(0,0)]))],mem:=[(0,.box ([.i .i64,.i .i64,.i .i64]))]}
def e9o (L:List Lf):List (Bool×Res):=bnd (c8X N (ll L 1) (li L 2) (fun p=>some p)) fun q=>[(q.isSome,([.c (.b (q.getD default))],mgA (a0v c1N L).mem [] [0]))]
theorem e49 (L:List Lf):bd Tryz.prog (d3j N) (d3k N).h 79 c1N L=c8X N (ll L 1) (li L 2) (fun p=>some ([.c (.b p)],mgA (a0v c1N L).mem [] [0])):=by kernel_rfl
theorem e9p:a0G Tryz.prog 79 c1N (e9o N):=
 (d3k N).fn a0b (c1M N) fun L x hx=>((e49 N L).trans ((d9y N ..).trans (a0N x hx)))
def d3m:a0e:=ext 79 (a1E c1N (e9o N)) (d3j N)
theorem b1Y:a0c Tryz.prog (d3m N):=a0G.to (e9p N) (c1M N)
def e9q:List (Nat×List Nat):=[(0,[0]),(1,[1]),(3,[1]),(4,[]),(2,[]),(5,[1]),(6,[19,18,17,1]),(7,[19,17,1,18]),(8,[4,1,3,19,18,17]),(9,[4,5,1,3,19,18,17]),(11,[4,5,1,3,19,18,17]),(13,[5,4,1,3,19,18,17]),(15,[1,3,4,19,18,17]),(16,[]),(14,[]),(12,[]),(10,[]),(17,[19,18,17,1]),(18,[])]
def e9r:a0E:=[(18,[1,17,18,19],[1],[]),(28,[1,3,4,5,17,18,19],[1,4],[])]
def d3n (N:Nat):Sg Tryz.prog 0 65:= .start e9r e9q
def a6h (w10 w11:Int) (k0:Bool→R):R:=
 bnd (a26 N w10 0 255) fun y0=>
 bif (!y0) then
  k0 true
 else
  bnd (a26 N w11 1 255) fun y1=>
  k0 (!y1)
def b1Z (w10 w11:Int):Bool:=a6h N w10 w11 (fun p=>p)
theorem c8Y (w10 w11:Int) (k0:Bool→R):a6h N w10 w11 k0=k0 (b1Z N w10 w11):=by
 unfold b1Z a6h
 repeat' (first|rfl|apply a0W|(apply a1D;intro _))
def c1O:Sh:={tmps:=[(1,.c (.p 1 0)),(3,.c (.i .i64)),(4,.c (.p 4 0)),(5,.c (.b)),(17,.c (.sl 37)),(18,.c (.i .i64)),(19,.c (.i .i64))],mem:=[(1,.box ([.b,.i .i64,.sl 37])),(4,.box ([.i .i64,.i .i64,.i .i64]))]}
def b6F (L:List Lf) (p:Bool):Ex×St:=(.normal,mg (a0v c1O L) [1,3,4,5,17,18,19,32] [(32,.c (.b p))] [1,4] [])
def d9z (L:List Lf):List (Bool×(Ex×St)):=bnd (a6h N (li L 10) (li L 11) (fun p=>p)) fun q=>[(true,b6F L q)]
theorem c8Z (L:List Lf):pc Tryz.prog (d3m N) (d3n N).h 0 100 65 28 c1O L [1,3,4,5,17,18,19,32] [1,4]=a6h N (li L 10) (li L 11) (fun p=>some (b6F L p)):=by kernel_rfl
def d3o:Sg Tryz.prog 0 65:=
 (d3n N).cut (d9z N) a0b (b1Y N) fun L x hx=>(c8Z N L).trans ((c8Y N ..).trans (a5j _ _ hx))
def a6i (w1:LD) (w2:Int) (w7:LD) (w3:Int) (kr:Int→Option R) (k0:Int→Option R) (k1:Unit→Option R):Option R:=
 bif (decide (w3<w2)) then
  bif (inB w3 w1.length) then
   bnd (bif (((w1.getD w3.toNat (.i 0)).cell 2).toI==0) then true else (((w1.getD w3.toNat (.i 0)).cell 2).toI==1)) fun y0=>
   bnd (b1Z N ((w1.getD w3.toNat (.i 0)).cell 0).toI ((w1.getD w3.toNat (.i 0)).cell 1).toI) fun y1=>
   bif y1 then
    k0 9
   else
    bnd (a26 N ((w1.getD w3.toNat (.i 0)).cell 2).toI 0 3) fun y2=>
    bif (!y2) then
     k0 7
    else
     bnd (bif y0 then (((w1.getD w3.toNat (.i 0)).cell 1).toI !=1) else false) fun y3=>
     bnd (bif y3 then (((w1.getD w3.toNat (.i 0)).cell 1).toI !=2) else false) fun y4=>
     bnd (bif y4 then (((w1.getD w3.toNat (.i 0)).cell 1).toI !=4) else false) fun y5=>
     bif y5 then
      k0 2
     else
      bif ((decide (0≤w3))&&(decide (w3≤(w7.length:Int)))) then
       bnd (d3l N ((w7.take w3.toNat).drop 0) ((w1.getD w3.toNat (.i 0)).cell 0).toI) fun y6=>
       bif y6.isSome then
        bif (y6.getD default) then
         k0 5
        else
         kr (IntKind.wrap .i64 (w3+1))
       else
        none
      else
       none
  else
   none
 else
  k1 ()
def b10 (N:Nat) {R:Type} (w1:LD) (w2:Int) (w7:LD):Nat→Int→(Int→Option R)→(Unit→Option R)→Option R
 |0,_,_,_=>none
 |m+1,w3,k0,k1=>a6i N w1 w2 w7 w3 (fun w3=>b10 N w1 w2 w7 m w3 k0 k1) k0 k1
def b8w (w1:LD) (w2:Int) (w7:LD) (w3:Int):Option (Sum (Int) (Unit)):=b10 N (R:=(Sum (Int) (Unit))) w1 w2 w7 N w3 (fun p=>some (.inl p)) (fun p=>some (.inr p))
def a8p (L x:List Lf) (kr:List Lf→Option R) (k0:Int→Option R) (k1:Unit→Option R):Option R:=a6i N (ll L 1) (li L 2) (ll L 7) (li x 0) (fun w3=>kr [.i w3]) k0 k1
theorem c1P (L x:List Lf) (kr:List Lf→Option R) (k0:Int→Option R) (k1:Unit→Option R):a8p N L x kr k0 k1=(a8p N L x (fun y=>some (.inl y)) (fun p=>some (.inr (.inl p))) (fun p=>some (.inr (.inr p)))).bind (a1a kr (a1a k0 k1)):=by
 unfold a8p a6i
 repeat' (first|with_reducible apply a0f|(with_reducible apply a0m;intro _)|rfl)
def b11 (L:List Lf) (m:Nat) (x:List Lf):Option (Sum (Int) (Unit)):=b10 N (R:=(Sum (Int) (Unit))) (ll L 1) (li L 2) (ll L 7) m (li x 0) (fun p=>some (.inl p)) (fun p=>some (.inr p))
def a8q:Sh:={tmps:=[(1,.c (.p 1 0)),(17,.c (.sl 37)),(18,.c (.i .i64)),(19,.c (.i .i64))],mem:=[(1,.box ([.b,.i .i64,.sl 37]))]}
def d9A (L:List Lf):List (Bool×(Ex×St)):=bnd (b11 N L N (pk a8q [3] L)) fun q=>[((a0O q),(.ret,⟨[(2,.c (.i .i64 (a01 q)))],[]⟩)),((a0l q).isSome,((.exit 1),⟨[],[]⟩))]
theorem c4z (m:Nat) (kn:St→Option (Ex×St)) (L x:List Lf):lpB Tryz.prog (d3m N) (d3o N).h 0 65 18 a8q [3] [2] [] (m+100) kn L x=a8p N L x (fun y=>kn (a0v a8q (mx a8q [3] L y))) (fun p=>some (.ret,⟨[(2,.c (.i .i64 p))],[]⟩)) (fun _=>some ((.exit 1),⟨[],[]⟩)):=by kernel_rfl
theorem d3p (L:List Lf) (m:Nat) (x:List Lf):b11 N L (m+1) x=a8p N L x (b11 N L m) (fun p=>some (.inl p)) (fun p=>some (.inr p)):=by kernel_rfl
def d3q:Sg Tryz.prog 0 65:=
 (d3o N).lp (d9A N) N a0b (b1Y N) (fun m kn L x=>(c4z N m kn L x).trans (c1P N L x _ _ _)) (fun L m x=>(d3p N L m x).trans (c1P N L x (b11 N L m) (fun p=>some (.inl p)) (fun p=>some (.inr p)))) fun L x hx=>(a27 a0N) x hx
def c80 (v1:Int) (v3:LD) (k0:Int→Option R):Option R:=
 bnd (a26 N v1 0 65535) fun y0=>
 bif (!y0) then
  k0 9
 else
  bif (decide ((v3.length:Int)>30)) then
   k0 3
  else
   bnd (b8w N v3 (v3.length:Int) v3 0) fun y1=>
   bif (a0O y1) then
    k0 (a01 y1)
   else
    bif (a0l y1).isSome then
     k0 0
    else
     none
def d3r (v1:Int) (v3:LD):Option (Int):=c80 N v1 v3 (fun p=>some p)
theorem d9B (v1:Int) (v3:LD) (k0:Int→Option R):c80 N v1 v3 k0=(d3r N v1 v3).bind k0:=by
 unfold d3r c80
 repeat' (first|with_reducible apply a0f|(with_reducible apply a0m;intro _)|rfl)
def d3s:Sh:={tmps:=[(0,.g ([.b,.i .i64,.sl 37]))],mem:=[]}
def e9s (L:List Lf):List (Bool×Res):=bnd (c80 N (li L 1) (ll L 3) (fun p=>some p)) fun q=>[(q.isSome,([.c (.i .i64 (q.getD default))],[]))]
theorem e5a (L:List Lf):bd Tryz.prog (d3m N) (d3q N).h 65 d3s L=c80 N (li L 1) (ll L 3) (fun p=>some ([.c (.i .i64 p)],[])):=by kernel_rfl
theorem e9t:a0G Tryz.prog 65 d3s (e9s N):=
 (d3q N).fn a0b (b1Y N) fun L x hx=>((e5a N L).trans ((d9B N ..).trans (a0N x hx)))
def c4A:a0e:=ext 65 (a1E d3s (e9s N)) (d3m N)
theorem a6j:a0c Tryz.prog (c4A N):=a0G.to (e9t N) (b1Y N)
def e9u:List (Nat×List Nat):=[(0,[1,0]),(1,[3,0]),(2,[6,5,3,0]),(3,[6,5,3,0,9,7,8]),(4,[5,3,0,6,9]),(5,[5,3,7,8,0,6,9]),(6,[3,7,8,5,0,6]),(7,[3,7,8,9,5,0,6]),(9,[3,7,8,9,5,0,6]),(11,[3,9,5,0,6]),(13,[5,3,0,6]),(14,[3]),(12,[]),(10,[]),(8,[]),(15,[0,3,6]),(16,[10,6,0,3]),(17,[]),(18,[10,6,3]),(19,[6,11,3]),(20,[11,3]),(21,[3,11]),(22,[]),(23,[])]
def e9v:a0E:=[(14,[0,3,5,6,7,8,9,18],[0,4],[]),(20,[0,3,5,6,7,8,9,19],[0,4],[]),(28,[0,3,5,6,7,8,9],[0,4],[]),(62,[3,11,87],[0,4],[])]
def d3t (N:Nat):Sg Tryz.prog 1 48:= .start e9v e9u
def a6k (N:Nat) (w2 w3:Int) (w5:Bool) (k0:Int×Int→R):R:=
 bif w5 then
  k0 (3,31)
 else
  k0 (w2,w3)
def b12 (w2 w3:Int) (w5:Bool):Int×Int:=a6k N w2 w3 w5 (fun p=>p)
theorem c81 (w2 w3:Int) (w5:Bool) (k0:Int×Int→R):a6k N w2 w3 w5 k0=k0 (b12 N w2 w3 w5):=by
 unfold b12 a6k
 repeat' (first|rfl|apply a0W|(apply a1D;intro _))
def c1Q:Sh:={tmps:=[(0,.c (.p 0 0)),(3,.c (.p 4 0)),(5,.c (.b)),(6,.c (.b)),(7,.c (.i .i64)),(8,.c (.i .i64)),(9,.c (.i .i64)),(18,.c (.b))],mem:=[(0,.dat 132),(4,.box ([.i .i64,.i .i64,.i .i64,.sl 40,.sl 5]))]}
def b6G (L:List Lf) (p:Int×Int):Ex×St:=(.normal,mg (a0v c1Q L) [0,3,5,6,7,8,9] [(7,.c (.i .i64 p.1)),(8,.c (.i .i64 p.2))] [0,4] [])
def d9C (L:List Lf):List (Bool×(Ex×St)):=bnd (a6k N (li L 2) (li L 3) (lb L 5) (fun p=>p)) fun q=>[(true,b6G L q)]
theorem c82 (L:List Lf):pc Tryz.prog (c4A N) (d3t N).h 1 100 48 14 c1Q L [0,3,5,6,7,8,9] [0,4]=a6k N (li L 2) (li L 3) (lb L 5) (fun p=>some (b6G L p)):=by kernel_rfl
def d3u:Sg Tryz.prog 1 48:=
 (d3t N).cut (d9C N) a0b (a6j N) fun L x hx=>(c82 N L).trans ((c81 N ..).trans (a5j _ _ hx))
def a6l (N:Nat) (w4:Int) (w5:Bool) (k0:Int→R):R:=
 bif w5 then
  k0 1
 else
  k0 w4
def b13 (w4:Int) (w5:Bool):Int:=a6l N w4 w5 (fun p=>p)
theorem c83 (w4:Int) (w5:Bool) (k0:Int→R):a6l N w4 w5 k0=k0 (b13 N w4 w5):=by
 unfold b13 a6l
 repeat' (first|rfl|apply a0W|(apply a1D;intro _))
def c1R:Sh:={tmps:=[(0,.c (.p 0 0)),(3,.c (.p 4 0)),(5,.c (.b)),(6,.c (.b)),(7,.c (.i .i64)),(8,.c (.i .i64)),(9,.c (.i .i64)),(19,.c (.b))],mem:=[(0,.dat 132),(4,.box ([.i .i64,.i .i64,.i .i64,.sl 40,.sl 5]))]}
def b6H (L:List Lf) (p:Int):Ex×St:=(.normal,mg (a0v c1R L) [0,3,5,6,7,8,9] [(9,.c (.i .i64 p))] [0,4] [])
def d9D (L:List Lf):List (Bool×(Ex×St)):=bnd (a6l N (li L 4) (lb L 5) (fun p=>p)) fun q=>[(true,b6H L q)]
theorem c84 (L:List Lf):pc Tryz.prog (c4A N) (d3u N).h 1 100 48 20 c1R L [0,3,5,6,7,8,9] [0,4]=a6l N (li L 4) (lb L 5) (fun p=>some (b6H L p)):=by kernel_rfl
def d3v:Sg Tryz.prog 1 48:=
 (d3u N).cut (d9D N) a0b (a6j N) fun L x hx=>(c84 N L).trans ((c83 N ..).trans (a5j _ _ hx))
def a8r (w2 w3 w7 w8:Int) (k0:Bool→R):R:=
 bnd (a26 N w7 0 w2) fun y0=>
 bif (!y0) then
  k0 true
 else
  bnd (a26 N w8 0 w3) fun y1=>
  k0 (!y1)
def b14 (w2 w3 w7 w8:Int):Bool:=a8r N w2 w3 w7 w8 (fun p=>p)
theorem c85 (w2 w3 w7 w8:Int) (k0:Bool→R):a8r N w2 w3 w7 w8 k0=k0 (b14 N w2 w3 w7 w8):=by
 unfold b14 a8r
 repeat' (first|rfl|apply a0W|(apply a1D;intro _))
def c6G (L:List Lf) (k0:Bool→R):R:=a8r N (li L 2) (li L 3) (li L 7) (li L 8) k0
def c1S:Sh:={tmps:=[(0,.c (.p 0 0)),(3,.c (.p 4 0)),(5,.c (.b)),(6,.c (.b)),(7,.c (.i .i64)),(8,.c (.i .i64)),(9,.c (.i .i64))],mem:=[(0,.dat 132),(4,.box ([.i .i64,.i .i64,.i .i64,.sl 40,.sl 5]))]}
def b6I (L:List Lf) (p:Bool):Ex×St:=(.normal,mg (a0v c1S L) [0,3,5,6,9,25] [(25,.c (.b p))] [0,4] [])
def d9E (L:List Lf):List (Bool×(Ex×St)):=bnd (c6G N L (fun p=>p)) fun q=>[(true,b6I L q)]
theorem c86 (L:List Lf):pc Tryz.prog (c4A N) (d3v N).h 1 100 48 28 c1S L [0,3,5,6,9,25] [0,4]=c6G N L (fun p=>some (b6I L p)):=by kernel_rfl
def d3w:Sg Tryz.prog 1 48:=
 (d3v N).cut (d9E N) a0b (a6j N) fun L x hx=>(c86 N L).trans ((c85 N ..).trans (a5j _ _ hx))
def a6m (N:Nat) (w0:Int) (w1:Bool) (k0:Int→R):R:=
 bif w1 then
  k0 (IntKind.wrap .i64 (w0-4))
 else
  k0 w0
def b15 (w0:Int) (w1:Bool):Int:=a6m N w0 w1 (fun p=>p)
theorem c87 (w0:Int) (w1:Bool) (k0:Int→R):a6m N w0 w1 k0=k0 (b15 N w0 w1):=by
 unfold b15 a6m
 repeat' (first|rfl|apply a0W|(apply a1D;intro _))
def c1T:Sh:={tmps:=[(3,.c (.p 4 0)),(11,.c (.i .i64)),(87,.c (.b))],mem:=[(0,.dat 132),(4,.box ([.i .i64,.i .i64,.i .i64,.sl 40,.sl 5]))]}
def b6J (L:List Lf) (p:Int):Ex×St:=(.normal,mg (a0v c1T L) [3,11] [(11,.c (.i .i64 p))] [0,4] [])
def d9F (L:List Lf):List (Bool×(Ex×St)):=bnd (a6m N (li L 0) (lb L 1) (fun p=>p)) fun q=>[(true,b6J L q)]
theorem c88 (L:List Lf):pc Tryz.prog (c4A N) (d3w N).h 1 100 48 62 c1T L [3,11] [0,4]=a6m N (li L 0) (lb L 1) (fun p=>some (b6J L p)):=by kernel_rfl
def d3x:Sg Tryz.prog 1 48:=
 (d3w N).cut (d9F N) a0b (a6j N) fun L x hx=>(c88 N L).trans ((c87 N ..).trans (a5j _ _ hx))
def d3y (v0 v1 v2:Int) (v4 v6:LD) (v7:D) (k0:Int→Option R):Option R:=
 bnd (b12 N 15 0 (v0==3)) fun y0=>
 bnd (b13 N 0 (v0==1)) fun y1=>
 bnd (a26 N v0 1 3) fun y2=>
 bif (!y2) then
  k0 7
 else
  bnd (b14 N y0.1 y0.2 v1 v2) fun y3=>
  bif y3 then
   k0 9
  else
   bnd (bif ((v4.length:Int) !=y1) then true else (bif (v0==1) then (decide ((v6.length:Int)>0)) else false)) fun y4=>
   bif y4 then
    k0 2
   else
    bif (v0==1) then
     bif (inB 0 v4.length) then
      bnd (d3r N ((v4.getD 0 (.i 0)).cell 1).toI ((v4.getD 0 (.i 0)).cell 2).items) fun y5=>
      bif y5.isSome then
       k0 (y5.getD default)
      else
       none
     else
      none
    else
     bif (inB v1 16) then
      bnd (bif (!(v7.cell (0+(v1.toNat*6))).toB) then true else (bif (v0==3) then (bif (decide ((v7.cell (5+(v1.toNat*6))).toI<0)) then true else (decide ((v7.cell 96).toI<0))) else false)) fun y6=>
      bif y6 then
       k0 11
      else
       bnd (b15 N (v7.cell (4+(v1.toNat*6))).toI (v0==3)) fun y7=>
       bif ((v6.length:Int) !=y7) then
        k0 2
       else
        k0 0
     else
      none
def d3z (v0 v1 v2:Int) (v4 v6:LD) (v7:D):Option (Int):=d3y N v0 v1 v2 v4 v6 v7 (fun p=>some p)
theorem d9G (v0 v1 v2:Int) (v4 v6:LD) (v7:D) (k0:Int→Option R):d3y N v0 v1 v2 v4 v6 v7 k0=(d3z N v0 v1 v2 v4 v6 v7).bind k0:=by
 unfold d3z d3y
 repeat' (first|with_reducible apply a0f|(with_reducible apply a0m;intro _)|rfl)
def e9w (L:List Lf) (k0:Int→Option R):Option R:=d3y N (li L 0) (li L 1) (li L 2) (ll L 4) (ll L 6) (ld L 7) k0
def d3A:Sh:={tmps:=[(0,.c (.p 0 0)),(1,.g ([.i .i64,.i .i64,.i .i64,.sl 40,.sl 5]))],mem:=[(0,.dat 132)]}
def e9x (L:List Lf):List (Bool×Res):=bnd (e9w N L (fun p=>some p)) fun q=>[(q.isSome,([.c (.i .i64 (q.getD default))],[(0,.dat 132 (ld L 7))]))]
theorem e5b (L:List Lf):bd Tryz.prog (c4A N) (d3x N).h 48 d3A L=e9w N L (fun p=>some ([.c (.i .i64 p)],[(0,.dat 132 (ld L 7))])):=by kernel_rfl
theorem e9y:a0G Tryz.prog 48 d3A (e9x N):=
 (d3x N).fn a0b (a6j N) fun L x hx=>((e5b N L).trans ((d9G N ..).trans (a0N x hx)))
def d3B:a0e:=ext 48 (a1E d3A (e9x N)) (c4A N)
theorem b16:a0c Tryz.prog (d3B N):=a0G.to (e9y N) (a6j N)
def e9z:List (Nat×List Nat):=[(0,[0]),(1,[1,2]),(2,[1,3,2]),(3,[11,10,9,3,2]),(4,[9,11,3,10,2]),(5,[5,3,11,10,9,2]),(6,[3,5,11,10,9,2]),(7,[3,5,11,10,9,2]),(8,[11,10,9,3,2]),(9,[3,2])]
def e9A:a0E:=[(9,[2,3,9,10,11],[2,3],[]),(20,[2,3,5,9,10,11,32],[2,3,5],[])]
def d3C (N:Nat):Sg Tryz.prog 0 54:= .start e9A e9z
def a6n (N:Nat) (w4:Bool) (w17 w18:Int) (k0:Int→R):R:=
 bif w4 then
  k0 w17
 else
  k0 w18
def b17 (w4:Bool) (w17 w18:Int):Int:=a6n N w4 w17 w18 (fun p=>p)
theorem c89 (w4:Bool) (w17 w18:Int) (k0:Int→R):a6n N w4 w17 w18 k0=k0 (b17 N w4 w17 w18):=by
 unfold b17 a6n
 repeat' (first|rfl|apply a0W|(apply a1D;intro _))
def c1U:Sh:={tmps:=[(2,.c (.p 2 0)),(3,.c (.p 3 0)),(5,.c (.p 5 0)),(9,.c (.sl 37)),(10,.c (.i .i64)),(11,.c (.i .i64)),(32,.c (.b))],mem:=[(2,.box (.b::[.b,.i .i64,.sl 37,.i .i64,.i .i64])),(3,.box (.b::[.b,.i .i64,.sl 37,.i .i64,.i .i64])),(5,.box ([.i .i64,.i .i64,.i .i64]))]}
def b6K (L:List Lf) (p:Int):Ex×St:=(.normal,mg (a0v c1U L) [2,3,5,9,10,11] [] [2,3,5] [(3,.box [.b (lb L 12),.b (lb L 13),.i .i64 (li L 14),.sl 37 (lb L 15) (ll L 16),.i .i64 (li L 17),.i .i64 p])])
def d9H (L:List Lf):List (Bool×(Ex×St)):=bnd (a6n N (lb L 4) (li L 17) (li L 18) (fun p=>p)) fun q=>[(true,b6K L q)]
theorem c9a (L:List Lf):pc Tryz.prog (d3B N) (d3C N).h 0 100 54 20 c1U L [2,3,5,9,10,11] [2,3,5]=a6n N (lb L 4) (li L 17) (li L 18) (fun p=>some (b6K L p)):=by kernel_rfl
def d3D:Sg Tryz.prog 0 54:=
 (d3C N).cut (d9H N) a0b (b16 N) fun L x hx=>(c9a N L).trans ((c89 N ..).trans (a5j _ _ hx))
def b4a (w1:LD) (w2:Int) (w3 w16 w17:Int) (kr:Int→Int→Int→Option R) (k0:Int×Int→Option R):Option R:=
 bif (decide (w3<w2)) then
  bif (inB w3 w1.length) then
   bnd (bif (((w1.getD w3.toNat (.i 0)).cell 0).toI==253) then (((w1.getD w3.toNat (.i 0)).cell 2).toI==0) else false) fun y0=>
   bnd (bif y0 then (((w1.getD w3.toNat (.i 0)).cell 1).toI==4) else false) fun y1=>
   bnd (b17 N (bif y1 then (decide (w17<0)) else false) w16 w17) fun y2=>
   bnd (IntKind.wrap .i64 (w16+((w1.getD w3.toNat (.i 0)).cell 1).toI)) fun y3=>
   kr (IntKind.wrap .i64 (w3+1)) y3 y2
  else
   none
 else
  k0 (w16,w17)
def b8x (N:Nat) {R:Type} (w1:LD) (w2:Int):Nat→Int→Int→Int→(Int×Int→Option R)→Option R
 |0,_,_,_,_=>none
 |m+1,w3,w16,w17,k0=>b4a N w1 w2 w3 w16 w17 (fun w3 w16 w17=>b8x N w1 w2 m w3 w16 w17 k0) k0
def d3E (w1:LD) (w2:Int) (w3 w16 w17:Int):Option (Int×Int):=b8x N (R:=(Int×Int)) w1 w2 N w3 w16 w17 (fun p=>some p)
def b4b (L x:List Lf) (kr:List Lf→Option R) (k0:Int×Int→Option R):Option R:=b4a N (ll L 1) (li L 2) (li x 0) (li x 1) (li x 2) (fun w3 w16 w17=>kr [.i w3,.i w16,.i w17]) k0
theorem c6H (L x:List Lf) (kr:List Lf→Option R) (k0:Int×Int→Option R):b4b N L x kr k0=(b4b N L x (fun y=>some (.inl y)) (fun p=>some (.inr p))).bind (a1a kr k0):=by
 unfold b4b b4a
 repeat' (first|with_reducible apply a0f|(with_reducible apply a0m;intro _)|rfl)
def b8y (L:List Lf) (m:Nat) (x:List Lf):Option (Int×Int):=b8x N (R:=(Int×Int)) (ll L 1) (li L 2) m (li x 0) (li x 1) (li x 2) (fun p=>some p)
def a8s:Sh:={tmps:=[(2,.c (.p 2 0)),(3,.c (.p 3 0)),(9,.c (.sl 37)),(10,.c (.i .i64)),(11,.c (.i .i64))],mem:=[(2,.box (.b::[.b,.i .i64,.sl 37,.i .i64,.i .i64])),(3,.box (.b::[.b,.i .i64,.sl 37,.i .i64,.i .i64]))]}
def c1V (L:List Lf) (p:Int×Int):Ex×St:=((.exit 0),mg (a0v a8s L) [2,3] [] [2,3] [(3,.box [.b (lb L 11),.b (lb L 12),.i .i64 (li L 13),.sl 37 (lb L 14) (ll L 15),.i .i64 p.1,.i .i64 p.2])])
def e5c (L:List Lf):List (Bool×(Ex×St)):=bnd (b8y N L N (pk a8s [3,16,17] L)) fun q=>[(q.isSome,c1V L (q.getD default))]
theorem c9b (m:Nat) (kn:St→Option (Ex×St)) (L x:List Lf):lpB Tryz.prog (d3B N) (d3D N).h 0 54 9 a8s [3,16,17] [2,3] [2,3] (m+100) kn L x=b4b N L x (fun y=>kn (a0v a8s (mx a8s [3,16,17] L y))) (fun p=>some (c1V L p)):=by kernel_rfl
theorem d9I (L:List Lf) (m:Nat) (x:List Lf):b8y N L (m+1) x=b4b N L x (b8y N L m) some:=by kernel_rfl
def d3F:Sg Tryz.prog 0 54:=
 (d3D N).lp (e5c N) N a0b (b16 N) (fun m kn L x=>(c9b N m kn L x).trans (c6H N L x _ _)) (fun L m x=>(d9I N L m x).trans (c6H N L x (b8y N L m) some)) fun L x hx=>a0N x hx
def c9c (v3:LD) (k0:Int×Int→Option R):Option R:=
 bnd (d3E N v3 (v3.length:Int) 0 0 (-1)) fun y0=>
 bif y0.isSome then
  k0 (y0.getD default)
 else
  none
def c9d (v3:LD):Option (Int×Int):=c9c N v3 (fun p=>some p)
theorem d9J (v3:LD) (k0:Int×Int→Option R):c9c N v3 k0=(c9d N v3).bind k0:=by
 unfold c9d c9c
 repeat' (first|with_reducible apply a0f|(with_reducible apply a0m;intro _)|rfl)
def d3G:Sh:={tmps:=[(0,.g ([.b,.i .i64,.sl 37]))],mem:=[]}
def d3H (L:List Lf) (p:Int×Int):Res:=([.g [.b true,.b (lb L 0),.i .i64 (li L 1),.sl 37 (lb L 2) (ll L 3),.i .i64 p.1,.i .i64 p.2]],[])
def e9B (L:List Lf):List (Bool×Res):=bnd (c9c N (ll L 3) (fun p=>some p)) fun q=>[(q.isSome,d3H L (q.getD default))]
theorem e5d (L:List Lf):bd Tryz.prog (d3B N) (d3F N).h 54 d3G L=c9c N (ll L 3) (fun p=>some (d3H L p)):=by kernel_rfl
theorem e9C:a0G Tryz.prog 54 d3G (e9B N):=
 (d3F N).fn a0b (b16 N) fun L x hx=>((e5d N L).trans ((d9J N ..).trans (a0N x hx)))
def d3I:a0e:=ext 54 (a1E d3G (e9B N)) (d3B N)
theorem b18:a0c Tryz.prog (d3I N):=a0G.to (e9C N) (b16 N)
def e9D:List (Nat×List Nat):=[(0,[0,1]),(1,[0,1]),(2,[0,1,5]),(3,[10,9,0,1,5]),(4,[10,0,1,5,9]),(5,[0,6,1,5,10,9]),(6,[1,6,5,0,10,9,7]),(7,[6,5,0,10,9,1]),(8,[5,0,7,10,9,1]),(9,[10,9,0,1,5]),(10,[5])]
def e9E:a0E:=[(9,[0,1,5,9,10],[],[]),(23,[0,1,5,6,7,9,10,18],[],[])]
def d3J (N:Nat):Sg Tryz.prog 0 28:= .start e9E e9D
def a6o (N:Nat) (w4 w5:Int) (w8:Bool) (k0:Int→R):R:=
 bif w8 then
  k0 w4
 else
  k0 w5
def a8t (w4 w5:Int) (w8:Bool):Int:=a6o N w4 w5 w8 (fun p=>p)
theorem c9e (w4 w5:Int) (w8:Bool) (k0:Int→R):a6o N w4 w5 w8 k0=k0 (a8t N w4 w5 w8):=by
 unfold a8t a6o
 repeat' (first|rfl|apply a0W|(apply a1D;intro _))
def c1W:Sh:={tmps:=[(0,.c (.sl 5)),(1,.c (.b)),(5,.c (.i .i64)),(6,.c (.i .i64)),(7,.c (.i .i64)),(9,.c (.i .i64)),(10,.c (.i .i64)),(18,.c (.b))],mem:=[]}
def b6L (L:List Lf) (p:Int):Ex×St:=(.normal,mg (a0v c1W L) [0,1,5,7,9,10] [(7,.c (.i .i64 p))] [] [])
def d9K (L:List Lf):List (Bool×(Ex×St)):=bnd (a6o N (li L 4) (li L 5) (lb L 8) (fun p=>p)) fun q=>[(true,b6L L q)]
theorem c9f (L:List Lf):pc Tryz.prog (d3I N) (d3J N).h 0 100 28 23 c1W L [0,1,5,7,9,10] []=a6o N (li L 4) (li L 5) (lb L 8) (fun p=>some (b6L L p)):=by kernel_rfl
def d3K:Sg Tryz.prog 0 28:=
 (d3J N).cut (d9K N) a0b (b18 N) fun L x hx=>(c9f N L).trans ((c9e N ..).trans (a5j _ _ hx))
def b4c (w1:LD) (w2:Bool) (w4:Int) (w3 w5:Int) (kr:Int→Int→Option R) (k0:Int→Option R):Option R:=
 bif (decide (w5<w4)) then
  bnd (IntKind.wrap .i64 ((IntKind.wrap .i64 ((w1.length:Int)-1))-w5)) fun y0=>
  bnd (a8t N w5 y0 w2) fun y1=>
  bif (inB y1 w1.length) then
   bnd ((c3H .or .i64 (IntKind.wrap .i64 (w3*2^8)) (IntKind.wrap .i64 (w1.getD y1.toNat (.i 0)).toI)).getD 0) fun y2=>
   kr y2 (IntKind.wrap .i64 (w5+1))
  else
   none
 else
  k0 w3
def b8z (N:Nat) {R:Type} (w1:LD) (w2:Bool) (w4:Int):Nat→Int→Int→(Int→Option R)→Option R
 |0,_,_,_=>none
 |m+1,w3,w5,k0=>b4c N w1 w2 w4 w3 w5 (fun w3 w5=>b8z N w1 w2 w4 m w3 w5 k0) k0
def d3L (w1:LD) (w2:Bool) (w4:Int) (w3 w5:Int):Option (Int):=b8z N (R:=(Int)) w1 w2 w4 N w3 w5 (fun p=>some p)
def b4d (L x:List Lf) (kr:List Lf→Option R) (k0:Int→Option R):Option R:=b4c N (ll L 1) (lb L 2) (li L 4) (li x 0) (li x 1) (fun w3 w5=>kr [.i w3,.i w5]) k0
theorem c6I (L x:List Lf) (kr:List Lf→Option R) (k0:Int→Option R):b4d N L x kr k0=(b4d N L x (fun y=>some (.inl y)) (fun p=>some (.inr p))).bind (a1a kr k0):=by
 unfold b4d b4c
 repeat' (first|with_reducible apply a0f|(with_reducible apply a0m;intro _)|rfl)
def b8A (L:List Lf) (m:Nat) (x:List Lf):Option (Int):=b8z N (R:=(Int)) (ll L 1) (lb L 2) (li L 4) m (li x 0) (li x 1) (fun p=>some p)
def b19:Sh:={tmps:=[(0,.c (.sl 5)),(1,.c (.b)),(5,.c (.i .i64)),(9,.c (.i .i64)),(10,.c (.i .i64))],mem:=[]}
def e5e (L:List Lf):List (Bool×(Ex×St)):=bnd (b8A N L N (pk b19 [3,5] L)) fun q=>[(q.isSome,((.exit 0),⟨[(5,.c (.i .i64 (q.getD default)))],[]⟩))]
theorem c9g (m:Nat) (kn:St→Option (Ex×St)) (L x:List Lf):lpB Tryz.prog (d3I N) (d3K N).h 0 28 9 b19 [3,5] [4,5] [] (m+100) kn L x=b4d N L x (fun y=>kn (a0v b19 (mx b19 [3,5] L y))) (fun p=>some ((.exit 0),⟨[(5,.c (.i .i64 p))],[]⟩)):=by kernel_rfl
theorem d9L (L:List Lf) (m:Nat) (x:List Lf):b8A N L (m+1) x=b4d N L x (b8A N L m) some:=by kernel_rfl
def d3M:Sg Tryz.prog 0 28:=
 (d3K N).lp (e5e N) N a0b (b18 N) (fun m kn L x=>(c9g N m kn L x).trans (c6I N L x _ _)) (fun L m x=>(d9L N L m x).trans (c6I N L x (b8A N L m) some)) fun L x hx=>a0N x hx
def c9h (v1:LD) (v2:Bool) (k0:Int→Option R):Option R:=
 bnd (d3L N v1 v2 (v1.length:Int) 0 0) fun y0=>
 bif y0.isSome then
  k0 (y0.getD default)
 else
  none
def b8B (v1:LD) (v2:Bool):Option (Int):=c9h N v1 v2 (fun p=>some p)
theorem d9M (v1:LD) (v2:Bool) (k0:Int→Option R):c9h N v1 v2 k0=(b8B N v1 v2).bind k0:=by
 unfold b8B c9h
 repeat' (first|with_reducible apply a0f|(with_reducible apply a0m;intro _)|rfl)
def d3N:Sh:={tmps:=[(0,.c (.sl 5)),(1,.c (.b))],mem:=[]}
def e9F (L:List Lf):List (Bool×Res):=bnd (c9h N (ll L 1) (lb L 2) (fun p=>some p)) fun q=>[(q.isSome,([.c (.i .i64 (q.getD default))],[]))]
theorem e5f (L:List Lf):bd Tryz.prog (d3I N) (d3M N).h 28 d3N L=c9h N (ll L 1) (lb L 2) (fun p=>some ([.c (.i .i64 p)],[])):=by kernel_rfl
theorem e9G:a0G Tryz.prog 28 d3N (e9F N):=
 (d3M N).fn a0b (b18 N) fun L x hx=>((e5f N L).trans ((d9M N ..).trans (a0N x hx)))
def e5g:a0e:=ext 28 (a1E d3N (e9F N)) (d3I N)
theorem c6J:a0c Tryz.prog (e5g N):=a0G.to (e9G N) (b18 N)
def e9H:List (Nat×List Nat):=[(0,[1,0]),(1,[1,0]),(2,[0]),(3,[0])]
def e9I:a0E:=[]
def d3O (N:Nat):Sg Tryz.prog 0 45:= .start e9I e9H
def c4B (N:Nat) (v0:Int) (v1:Bool) (k0:Int→Option R):Option R:=
 bif v1 then
  bif (decide (0≤(IntKind.wrap .i64 ((IntKind.wrap .i64 (8*v0))-1)))) then
   bnd (IntKind.wrap .i64 (1*2^(min (IntKind.wrap .i64 ((IntKind.wrap .i64 (8*v0))-1)).toNat 64))) fun y0=>
   k0 (IntKind.wrap .i64 (y0-1))
  else
   none
 else
  bif (decide (0≤(IntKind.wrap .i64 (8*v0)))) then
   bnd (IntKind.wrap .i64 (1*2^(min (IntKind.wrap .i64 (8*v0)).toNat 64))) fun y1=>
   k0 (IntKind.wrap .i64 (y1-1))
  else
   none
def a8u (v0:Int) (v1:Bool):Option (Int):=c4B N v0 v1 (fun p=>some p)
theorem d9N (v0:Int) (v1:Bool) (k0:Int→Option R):c4B N v0 v1 k0=(a8u N v0 v1).bind k0:=by
 unfold a8u c4B
 repeat' (first|with_reducible apply a0f|(with_reducible apply a0m;intro _)|rfl)
def d3P:Sh:={tmps:=[(0,.c (.i .i64)),(1,.c (.b))],mem:=[]}
def e9J (L:List Lf):List (Bool×Res):=bnd (c4B N (li L 0) (lb L 1) (fun p=>some p)) fun q=>[(q.isSome,([.c (.i .i64 (q.getD default))],[]))]
theorem e5h (L:List Lf):bd Tryz.prog (e5g N) (d3O N).h 45 d3P L=c4B N (li L 0) (lb L 1) (fun p=>some ([.c (.i .i64 p)],[])):=by kernel_rfl
theorem e9K:a0G Tryz.prog 45 d3P (e9J N):=
 (d3O N).fn a0b (c6J N) fun L x hx=>((e5h N L).trans ((d9N N ..).trans (a0N x hx)))
def c1X:a0e:=ext 45 (a1E d3P (e9J N)) (e5g N)
theorem a4T:a0c Tryz.prog (c1X N):=a0G.to (e9K N) (c6J N)
def e9L:List (Nat×List Nat):=[(0,[1,0]),(1,[0,3]),(2,[0,3,5]),(3,[3,0,5,6]),(5,[3,0,6,5]),(7,[6,3,0,5]),(8,[3,6,0,5]),(9,[7,0,5]),(10,[7,0]),(6,[0,3]),(4,[0,3,5]),(11,[5,0]),(12,[0,5]),(13,[5])]
def e9M:a0E:=[(32,[0,5,7,67],[0],[]),(26,[0,3,5,6,49],[0,4,7],[]),(21020,[0,3,5,6,30],[0,4,7],[]),(15014,[0,3,5,6,15],[0,4,7],[]),(38,[0,5,70],[0],[])]
def d3Q (N:Nat):Sg Tryz.prog 1 49:= .start e9M e9L
def a6p (N:Nat) (w0 w1:Int) (w2:Bool) (k0:Int→R):R:=
 bif w2 then
  k0 w1
 else
  k0 w0
def b2a (w0 w1:Int) (w2:Bool):Int:=a6p N w0 w1 w2 (fun p=>p)
theorem c9i (w0 w1:Int) (w2:Bool) (k0:Int→R):a6p N w0 w1 w2 k0=k0 (b2a N w0 w1 w2):=by
 unfold b2a a6p
 repeat' (first|rfl|apply a0W|(apply a1D;intro _))
def c1Y:Sh:={tmps:=[(0,.c (.p 0 0)),(5,.c (.i .i64)),(7,.c (.i .i64)),(67,.c (.b))],mem:=[(0,.dat 132)]}
def b6M (L:List Lf) (p:Int):Ex×St:=(.normal,mg (a0v c1Y L) [0,5] [(5,.c (.i .i64 p))] [0] [])
def d9O (L:List Lf):List (Bool×(Ex×St)):=bnd (a6p N (li L 0) (li L 1) (lb L 2) (fun p=>p)) fun q=>[(true,b6M L q)]
theorem c9j (L:List Lf):pc Tryz.prog (c1X N) (d3Q N).h 1 100 49 32 c1Y L [0,5] [0]=a6p N (li L 0) (li L 1) (lb L 2) (fun p=>some (b6M L p)):=by kernel_rfl
def d3R:Sg Tryz.prog 1 49:=
 (d3Q N).cut (d9O N) a0b (a4T N) fun L x hx=>(c9j N L).trans ((c9i N ..).trans (a5j _ _ hx))
def a8v (w0:Int) (w1:Bool) (w9:LD) (w11:Bool) (w16:Int) (k0:Int→Option R):Option R:=
 bif w1 then
  bif (((decide (0≤w16))&&(decide (w16≤(IntKind.wrap .i64 (w16+4)))))&&(decide ((IntKind.wrap .i64 (w16+4))≤(w9.length:Int)))) then
   bnd (((w9.take (IntKind.wrap .i64 (w16+4)).toNat).drop w16.toNat):List D) fun y0=>
   bnd (b8B N y0 w11) fun y1=>
   bif y1.isSome then
    bnd (a8u N 4 false) fun y2=>
    bif y2.isSome then
     bnd (b2a N w0 (y1.getD default) ((y1.getD default) !=(y2.getD default))) fun y3=>
     k0 y3
    else
     none
   else
    none
  else
   none
 else
  k0 w0
def b2b (w0:Int) (w1:Bool) (w9:LD) (w11:Bool) (w16:Int):Option (Int):=a8v N w0 w1 w9 w11 w16 (fun p=>some p)
theorem c4C (w0:Int) (w1:Bool) (w9:LD) (w11:Bool) (w16:Int) (k0:Int→Option R):a8v N w0 w1 w9 w11 w16 k0=(b2b N w0 w1 w9 w11 w16).bind k0:=by
 unfold b2b a8v
 repeat' (first|with_reducible apply a0f|(with_reducible apply a0m;intro _)|rfl)
def c6K (L:List Lf) (k0:Int→Option R):Option R:=a8v N (li L 0) (lb L 1) (ll L 9) (lb L 11) (li L 16) k0
def c1Z:Sh:={tmps:=[(0,.c (.p 0 0)),(3,.c (.p 4 0)),(5,.c (.i .i64)),(6,.c (.p 7 0)),(49,.c (.b))],mem:=[(0,.dat 132),(4,.box ([.i .i64,.i .i64,.i .i64,.sl 40,.sl 5])),(7,.box (.b::[.b,.i .i64,.sl 37,.i .i64,.i .i64]))]}
def b6N (L:List Lf) (p:Int):Ex×St:=(.normal,mg (a0v c1Z L) [0,5] [(5,.c (.i .i64 p))] [0] [])
def d9P (L:List Lf):List (Bool×(Ex×St)):=bnd (c6K N L (fun p=>some p)) fun q=>[(q.isSome,b6N L (q.getD default))]
theorem c9k (L:List Lf):pc Tryz.prog (c1X N) (d3R N).h 1 100 49 26 c1Z L [0,5] [0]=c6K N L (fun p=>some (b6N L p)):=by kernel_rfl
def d3S:Sg Tryz.prog 1 49:=
 (d3R N).cut (d9P N) a0b (a4T N) fun L x hx=>(c9k N L).trans ((c4C N ..).trans (a0N x hx))
def a3F (w0:Int) (w1:Bool) (w2:D) (w5:Int) (w9:LD) (w11:Bool) (w16:Int) (k0:Int→Option R):Option R:=
 bif w1 then
  bnd (IntKind.wrap .i64 ((IntKind.wrap .i64 (w5-((w2.cell 96).toI.tmod 32)))+32)) fun y0=>
  k0 (IntKind.wrap .i64 ((w2.cell 96).toI+(y0.tmod 32)))
 else
  bnd (b2b N w0 (decide (w16≥0)) w9 w11 w16) fun y1=>
  bif y1.isSome then
   k0 (y1.getD default)
  else
   none
def a4U (w0:Int) (w1:Bool) (w2:D) (w5:Int) (w9:LD) (w11:Bool) (w16:Int):Option (Int):=a3F N w0 w1 w2 w5 w9 w11 w16 (fun p=>some p)
theorem b5T (w0:Int) (w1:Bool) (w2:D) (w5:Int) (w9:LD) (w11:Bool) (w16:Int) (k0:Int→Option R):a3F N w0 w1 w2 w5 w9 w11 w16 k0=(a4U N w0 w1 w2 w5 w9 w11 w16).bind k0:=by
 unfold a4U a3F
 repeat' (first|with_reducible apply a0f|(with_reducible apply a0m;intro _)|rfl)
def b4e (L:List Lf) (k0:Int→Option R):Option R:=a3F N (li L 0) (lb L 1) (ld L 2) (li L 5) (ll L 9) (lb L 11) (li L 16) k0
def b1i:Sh:={tmps:=[(0,.c (.p 0 0)),(3,.c (.p 4 0)),(5,.c (.i .i64)),(6,.c (.p 7 0)),(30,.c (.b))],mem:=[(0,.dat 132),(4,.box ([.i .i64,.i .i64,.i .i64,.sl 40,.sl 5])),(7,.box (.b::[.b,.i .i64,.sl 37,.i .i64,.i .i64]))]}
def a8w (L:List Lf) (p:Int):Ex×St:=(.normal,mg (a0v b1i L) [0,5] [(5,.c (.i .i64 p))] [0] [])
def c4D (L:List Lf):List (Bool×(Ex×St)):=bnd (b4e N L (fun p=>some p)) fun q=>[(q.isSome,a8w L (q.getD default))]
theorem b8C (L:List Lf):pc Tryz.prog (c1X N) (d3S N).h 1 100 49 21020 b1i L [0,5] [0]=b4e N L (fun p=>some (a8w L p)):=by kernel_rfl
def d3T:Sg Tryz.prog 1 49:=
 (d3S N).cut (c4D N) a0b (a4T N) fun L x hx=>(b8C N L).trans ((b5T N ..).trans (a0N x hx))
def a3G (w0:Int) (w1:Bool) (w2:D) (w3 w4 w5:Int) (w7 w9:LD) (w11:Bool) (w16:Int) (k0:Int×D→Option R):Option R:=
 bif w1 then
  bif (inB 0 w7.length) then
   bnd (c9d N ((w7.getD 0 (.i 0)).cell 2).items) fun y0=>
   bif y0.isSome then
    bif (inB w4 16) then
     bnd (((((((w2.put (0+(w4.toNat*6)) (.b true)).put (1+(w4.toNat*6)) (.b ((w7.getD 0 (.i 0)).cell 0).toB)).put (2+(w4.toNat*6)) (.i ((w7.getD 0 (.i 0)).cell 1).toI)).put (3+(w4.toNat*6)) (.l ((w7.getD 0 (.i 0)).cell 2).isNil ((w7.getD 0 (.i 0)).cell 2).items)).put (4+(w4.toNat*6)) (.i (y0.getD default).1)).put (5+(w4.toNat*6)) (.i (y0.getD default).2)):D) fun y1=>
     k0 (w0,y1)
    else
     none
   else
    none
  else
   none
 else
  bnd (a4U N w0 (w3==3) w2 w5 w9 w11 w16) fun y2=>
  bif y2.isSome then
   k0 ((y2.getD default),w2)
  else
   none
def a4V (w0:Int) (w1:Bool) (w2:D) (w3 w4 w5:Int) (w7 w9:LD) (w11:Bool) (w16:Int):Option (Int×D):=a3G N w0 w1 w2 w3 w4 w5 w7 w9 w11 w16 (fun p=>some p)
theorem b5U (w0:Int) (w1:Bool) (w2:D) (w3 w4 w5:Int) (w7 w9:LD) (w11:Bool) (w16:Int) (k0:Int×D→Option R):a3G N w0 w1 w2 w3 w4 w5 w7 w9 w11 w16 k0=(a4V N w0 w1 w2 w3 w4 w5 w7 w9 w11 w16).bind k0:=by
 unfold a4V a3G
 repeat' (first|with_reducible apply a0f|(with_reducible apply a0m;intro _)|rfl)
def b4f (L:List Lf) (k0:Int×D→Option R):Option R:=a3G N (li L 0) (lb L 1) (ld L 2) (li L 3) (li L 4) (li L 5) (ll L 7) (ll L 9) (lb L 11) (li L 16) k0
def c10:Sh:={tmps:=[(0,.c (.p 0 0)),(3,.c (.p 4 0)),(5,.c (.i .i64)),(6,.c (.p 7 0)),(15,.c (.b))],mem:=[(0,.dat 132),(4,.box ([.i .i64,.i .i64,.i .i64,.sl 40,.sl 5])),(7,.box (.b::[.b,.i .i64,.sl 37,.i .i64,.i .i64]))]}
def a8x (L:List Lf) (p:Int×D):Ex×St:=(.normal,⟨[(0,.c (.p 0 0)),(5,.c (.i .i64 p.1))],[(0,.dat 132 p.2)]⟩)
def c4E (L:List Lf):List (Bool×(Ex×St)):=bnd (b4f N L (fun p=>some p)) fun q=>[(q.isSome,a8x L (q.getD default))]
theorem b8D (L:List Lf):pc Tryz.prog (c1X N) (d3T N).h 1 100 49 15014 c10 L [0,5] [0]=b4f N L (fun p=>some (a8x L p)):=by kernel_rfl
def d3U:Sg Tryz.prog 1 49:=
 (d3T N).cut (c4E N) a0b (a4T N) fun L x hx=>(b8D N L).trans ((b5U N ..).trans (a0N x hx))
def a4W (N:Nat) (w0:Int) (w1:Bool) (w2:D) (k0:D→R):R:=
 bif w1 then
  k0 (w2.put 96 (.i w0))
 else
  k0 w2
def a6q (w0:Int) (w1:Bool) (w2:D):D:=a4W N w0 w1 w2 (fun p=>p)
theorem c9l (w0:Int) (w1:Bool) (w2:D) (k0:D→R):a4W N w0 w1 w2 k0=k0 (a6q N w0 w1 w2):=by
 unfold a6q a4W
 repeat' (first|rfl|apply a0W|(apply a1D;intro _))
def d3V:Sh:={tmps:=[(0,.c (.p 0 0)),(5,.c (.i .i64)),(70,.c (.b))],mem:=[(0,.dat 132)]}
def d9Q (L:List Lf):List (Bool×(Ex×St)):=bnd (a4W N (li L 0) (lb L 1) (ld L 2) (fun p=>p)) fun q=>[(true,(.normal,⟨[(5,.c (.i .i64 (li L 0)))],[(0,.dat 132 q)]⟩))]
theorem c9m (L:List Lf):pc Tryz.prog (c1X N) (d3U N).h 1 100 49 38 d3V L [5] [0]=a4W N (li L 0) (lb L 1) (ld L 2) (fun p=>some (.normal,⟨[(5,.c (.i .i64 (li L 0)))],[(0,.dat 132 p)]⟩)):=by kernel_rfl
def d3W:Sg Tryz.prog 1 49:=
 (d3U N).cut (d9Q N) a0b (a4T N) fun L x hx=>(c9m N L).trans ((c9l N ..).trans (a5j _ _ hx))
def d3X (v0 v1 v2:Int) (v4 v6:LD) (v7:D) (k0:Int×D→Option R):Option R:=
 bif (inB v1 16) then
  bnd (a4V N (-1) (v0==1) v7 v0 v1 v2 v4 v6 (v7.cell (1+(v1.toNat*6))).toB (v7.cell (5+(v1.toNat*6))).toI) fun y0=>
  bif y0.isSome then
   bnd (a6q N (y0.getD default).1 (decide ((y0.getD default).1≥0)) (y0.getD default).2) fun y1=>
   k0 ((y0.getD default).1,y1)
  else
   none
 else
  none
def c4F (v0 v1 v2:Int) (v4 v6:LD) (v7:D):Option (Int×D):=d3X N v0 v1 v2 v4 v6 v7 (fun p=>some p)
theorem d9R (v0 v1 v2:Int) (v4 v6:LD) (v7:D) (k0:Int×D→Option R):d3X N v0 v1 v2 v4 v6 v7 k0=(c4F N v0 v1 v2 v4 v6 v7).bind k0:=by
 unfold c4F d3X
 repeat' (first|with_reducible apply a0f|(with_reducible apply a0m;intro _)|rfl)
def e9N (L:List Lf) (k0:Int×D→Option R):Option R:=d3X N (li L 0) (li L 1) (li L 2) (ll L 4) (ll L 6) (ld L 7) k0
def d3Y:Sh:={tmps:=[(0,.c (.p 0 0)),(1,.g ([.i .i64,.i .i64,.i .i64,.sl 40,.sl 5]))],mem:=[(0,.dat 132)]}
def e9O (L:List Lf):List (Bool×Res):=bnd (e9N N L (fun p=>some p)) fun q=>[(q.isSome,([.c (.i .i64 (q.getD default).1)],[(0,.dat 132 (q.getD default).2)]))]
theorem e5i (L:List Lf):bd Tryz.prog (c1X N) (d3W N).h 49 d3Y L=e9N N L (fun p=>some ([.c (.i .i64 p.1)],[(0,.dat 132 p.2)])):=by kernel_rfl
theorem e9P:a0G Tryz.prog 49 d3Y (e9O N):=
 (d3W N).fn a0b (a4T N) fun L x hx=>((e5i N L).trans ((d9R N ..).trans (a0N x hx)))
def d9S:a0e:=ext 49 (a1E d3Y (e9O N)) (c1X N)
theorem b8E:a0c Tryz.prog (d9S N):=a0G.to (e9P N) (a4T N)
def e9Q:List (Nat×List Nat):=[(0,[0]),(1,[1]),(2,[]),(3,[1]),(4,[1,3]),(5,[15,14,13,3]),(6,[13,15,3,14]),(7,[3,5,15,14,13]),(8,[6,3,5,15,14,13]),(9,[6]),(10,[3,5,15,14,13]),(11,[15,14,13,3]),(12,[])]
def e9R:a0E:=[(15,[3,13,14,15],[12000000002],[])]
def d3Z (N:Nat):Sg Tryz.prog 0 23:= .start e9R e9Q
def b2c (w1:LD) (w2:Int) (w3:Int) (w4:D) (kr:Int→D→Option R) (k0:Int→Option R) (k1:Unit→Option R):Option R:=
 bif (decide (w3<w2)) then
  bif (inB w3 w1.length) then
   bnd (d3z N ((w1.getD w3.toNat (.i 0)).cell 0).toI ((w1.getD w3.toNat (.i 0)).cell 1).toI ((w1.getD w3.toNat (.i 0)).cell 2).toI ((w1.getD w3.toNat (.i 0)).cell 3).items ((w1.getD w3.toNat (.i 0)).cell 4).items w4) fun y0=>
   bif y0.isSome then
    bif ((y0.getD default) !=0) then
     k0 (y0.getD default)
    else
     bnd (c4F N ((w1.getD w3.toNat (.i 0)).cell 0).toI ((w1.getD w3.toNat (.i 0)).cell 1).toI ((w1.getD w3.toNat (.i 0)).cell 2).toI ((w1.getD w3.toNat (.i 0)).cell 3).items ((w1.getD w3.toNat (.i 0)).cell 4).items w4) fun y1=>
     bif y1.isSome then
      kr (IntKind.wrap .i64 (w3+1)) (y1.getD default).2
     else
      none
   else
    none
  else
   none
 else
  k1 ()
def a8y (N:Nat) {R:Type} (w1:LD) (w2:Int):Nat→Int→D→(Int→Option R)→(Unit→Option R)→Option R
 |0,_,_,_,_=>none
 |m+1,w3,w4,k0,k1=>b2c N w1 w2 w3 w4 (fun w3 w4=>a8y N w1 w2 m w3 w4 k0 k1) k0 k1
def b8F (w1:LD) (w2:Int) (w3:Int) (w4:D):Option (Sum (Int) (Unit)):=a8y N (R:=(Sum (Int) (Unit))) w1 w2 N w3 w4 (fun p=>some (.inl p)) (fun p=>some (.inr p))
def a8z (L x:List Lf) (kr:List Lf→Option R) (k0:Int→Option R) (k1:Unit→Option R):Option R:=b2c N (ll L 1) (li L 2) (li x 0) (ld x 1) (fun w3 w4=>kr [.i w3,.d w4]) k0 k1
theorem c11 (L x:List Lf) (kr:List Lf→Option R) (k0:Int→Option R) (k1:Unit→Option R):a8z N L x kr k0 k1=(a8z N L x (fun y=>some (.inl y)) (fun p=>some (.inr (.inl p))) (fun p=>some (.inr (.inr p)))).bind (a1a kr (a1a k0 k1)):=by
 unfold a8z b2c
 repeat' (first|with_reducible apply a0f|(with_reducible apply a0m;intro _)|rfl)
def b2d (L:List Lf) (m:Nat) (x:List Lf):Option (Sum (Int) (Unit)):=a8y N (R:=(Sum (Int) (Unit))) (ll L 1) (li L 2) m (li x 0) (ld x 1) (fun p=>some (.inl p)) (fun p=>some (.inr p))
def a8A:Sh:={tmps:=[(3,.c (.p 12000000002 0)),(13,.c (.sl 44)),(14,.c (.i .i64)),(15,.c (.i .i64))],mem:=[(12000000002,.dat 132)]}
def d9T (L:List Lf):List (Bool×(Ex×St)):=bnd (b2d N L N (pk a8A [3,4] L)) fun q=>[((a0O q),(.ret,⟨[(2,.c (.i .i64 (a01 q)))],[]⟩)),((a0l q).isSome,((.exit 0),⟨[],[]⟩))]
theorem c4G (m:Nat) (kn:St→Option (Ex×St)) (L x:List Lf):lpB Tryz.prog (d9S N) (d3Z N).h 0 23 15 a8A [3,4] [2] [] (m+100) kn L x=a8z N L x (fun y=>kn (a0v a8A (mx a8A [3,4] L y))) (fun p=>some (.ret,⟨[(2,.c (.i .i64 p))],[]⟩)) (fun _=>some ((.exit 0),⟨[],[]⟩)):=by kernel_rfl
theorem d30 (L:List Lf) (m:Nat) (x:List Lf):b2d N L (m+1) x=a8z N L x (b2d N L m) (fun p=>some (.inl p)) (fun p=>some (.inr p)):=by kernel_rfl
def d31:Sg Tryz.prog 0 23:=
 (d3Z N).lp (d9T N) N a0b (b8E N) (fun m kn L x=>(c4G N m kn L x).trans (c11 N L x _ _ _)) (fun L m x=>(d30 N L m x).trans (c11 N L x (b2d N L m) (fun p=>some (.inl p)) (fun p=>some (.inr p)))) fun L x hx=>(a27 a0N) x hx
def c4H (v1:LD) (k0:Int→Option R):Option R:=
 bif (decide ((v1.length:Int)>50000)) then
  k0 3
 else
  bnd (b0b N) fun y0=>
  bnd (b8F N v1 (v1.length:Int) 0 y0) fun y1=>
  bif (a0O y1) then
   k0 (a01 y1)
  else
   bif (a0l y1).isSome then
    k0 0
   else
    none
def b1F (v1:LD):Option (Int):=c4H N v1 (fun p=>some p)
theorem d9U (v1:LD) (k0:Int→Option R):c4H N v1 k0=(b1F N v1).bind k0:=by
 unfold b1F c4H
 repeat' (first|with_reducible apply a0f|(with_reducible apply a0m;intro _)|rfl)
def d32:Sh:={tmps:=[(0,.g ([.sl 44]))],mem:=[]}
def e9S (L:List Lf):List (Bool×Res):=bnd (c4H N (ll L 1) (fun p=>some p)) fun q=>[(q.isSome,([.c (.i .i64 (q.getD default))],[]))]
theorem e5j (L:List Lf):bd Tryz.prog (d9S N) (d31 N).h 23 d32 L=c4H N (ll L 1) (fun p=>some ([.c (.i .i64 p)],[])):=by kernel_rfl
theorem e9T:a0G Tryz.prog 23 d32 (e9S N):=
 (d31 N).fn a0b (b8E N) fun L x hx=>((e5j N L).trans ((d9U N ..).trans (a0N x hx)))
def d9V:a0e:=ext 23 (a1E d32 (e9S N)) (d9S N)
theorem b8G:a0c Tryz.prog (d9V N):=a0G.to (e9T N) (b8E N)
def e9U:List (Nat×List Nat):=[(0,[0,1]),(1,[2,4,1]),(2,[6,4,1,2]),(3,[6,4]),(4,[1,2,4]),(5,[4]),(6,[2,1,4]),(7,[2,1,7,4]),(8,[30,29,28,7,2,1,4]),(9,[28,30,7,29,2,1,4]),(10,[7,9,30,29,28,2,1,4]),(11,[30,29,28,7,2,1,4]),(12,[2,1,4,7]),(13,[4]),(14,[7,2,1,4])]
def e9V:a0E:=[(24,[1,2,4,7,28,29,30],[2,4,25000000002],[])]
def d33 (N:Nat):Sg Tryz.prog 0 37:= .start e9V e9U
def b2e (w2:LD) (w3:Int) (w4:Int) (w14:D) (kr:Int→D→Option R) (k0:D→Option R):Option R:=
 bif (decide (w4<w3)) then
  bif (inB w4 w2.length) then
   bnd (c4F N ((w2.getD w4.toNat (.i 0)).cell 0).toI ((w2.getD w4.toNat (.i 0)).cell 1).toI ((w2.getD w4.toNat (.i 0)).cell 2).toI ((w2.getD w4.toNat (.i 0)).cell 3).items ((w2.getD w4.toNat (.i 0)).cell 4).items w14) fun y0=>
   bif y0.isSome then
    kr (IntKind.wrap .i64 (w4+1)) (y0.getD default).2
   else
    none
  else
   none
 else
  k0 w14
def a8B (N:Nat) {R:Type} (w2:LD) (w3:Int):Nat→Int→D→(D→Option R)→Option R
 |0,_,_,_=>none
 |m+1,w4,w14,k0=>b2e N w2 w3 w4 w14 (fun w4 w14=>a8B N w2 w3 m w4 w14 k0) k0
def c6L (w2:LD) (w3:Int) (w4:Int) (w14:D):Option (D):=a8B N (R:=(D)) w2 w3 N w4 w14 (fun p=>some p)
def a8C (L x:List Lf) (kr:List Lf→Option R) (k0:D→Option R):Option R:=b2e N (ll L 2) (li L 3) (li x 0) (ld x 1) (fun w4 w14=>kr [.i w4,.d w14]) k0
theorem c12 (L x:List Lf) (kr:List Lf→Option R) (k0:D→Option R):a8C N L x kr k0=(a8C N L x (fun y=>some (.inl y)) (fun p=>some (.inr p))).bind (a1a kr k0):=by
 unfold a8C b2e
 repeat' (first|with_reducible apply a0f|(with_reducible apply a0m;intro _)|rfl)
def b2f (L:List Lf) (m:Nat) (x:List Lf):Option (D):=a8B N (R:=(D)) (ll L 2) (li L 3) m (li x 0) (ld x 1) (fun p=>some p)
def a5S:Sh:={tmps:=[(1,.c (.i .i64)),(2,.c (.p 2 0)),(4,.c (.p 4 0)),(7,.c (.p 25000000002 0)),(28,.c (.sl 44)),(29,.c (.i .i64)),(30,.c (.i .i64))],mem:=[(2,.box ([.sl 44])),(4,.box (.b::[.b,.i .i64,.sl 37,.i .i64,.i .i64])),(25000000002,.dat 132)]}
def b6O (L:List Lf) (p:D):Ex×St:=((.exit 0),mg (a0v a5S L) [1,2,4,7] [] [2,4,25000000002] [(25000000002,.dat 132 p)])
def d9W (L:List Lf):List (Bool×(Ex×St)):=bnd (b2f N L N (pk a5S [4,14] L)) fun q=>[(q.isSome,b6O L (q.getD default))]
theorem c4I (m:Nat) (kn:St→Option (Ex×St)) (L x:List Lf):lpB Tryz.prog (d9V N) (d33 N).h 0 37 24 a5S [4,14] [1,2,4,5,7] [2,4,25000000002] (m+100) kn L x=a8C N L x (fun y=>kn (a0v a5S (mx a5S [4,14] L y))) (fun p=>some (b6O L p)):=by kernel_rfl
theorem d34 (L:List Lf) (m:Nat) (x:List Lf):b2f N L (m+1) x=a8C N L x (b2f N L m) some:=by kernel_rfl
def d35:Sg Tryz.prog 0 37:=
 (d33 N).lp (d9W N) N a0b (b8G N) (fun m kn L x=>(c4I N m kn L x).trans (c12 N L x _ _)) (fun L m x=>(d34 N L m x).trans (c12 N L x (b2f N L m) some)) fun L x hx=>a0N x hx
def c9n (v1:LD) (v2:Int) (k0:Ty2→Option R):Option R:=
 bnd (b1F N v1) fun y0=>
 bif y0.isSome then
  bif ((y0.getD default) !=0) then
   k0 (false,false,0,true,[],0,0,(y0.getD default))
  else
   bnd (a26 N v2 0 (IntKind.wrap .i64 ((v1.length:Int)-1))) fun y1=>
   bif (!y1) then
    k0 (false,false,0,true,[],0,0,4)
   else
    bnd (b0b N) fun y2=>
    bif ((decide (0≤v2))&&(decide (v2≤(v1.length:Int)))) then
     bnd (c6L N ((v1.take v2.toNat).drop 0) (((v1.take v2.toNat).drop 0).length:Int) 0 y2) fun y3=>
     bif y3.isSome then
      bif (inB v2 v1.length) then
       bif (((v1.getD v2.toNat (.i 0)).cell 0).toI==1) then
        k0 (false,false,0,true,[],0,0,7)
       else
        bif (inB v2 v1.length) then
         bif (inB ((v1.getD v2.toNat (.i 0)).cell 1).toI 16) then
          bnd ((y3.getD default).cell (0+(((v1.getD v2.toNat (.i 0)).cell 1).toI.toNat*6))).toB fun y4=>
          bnd ((y3.getD default).cell (1+(((v1.getD v2.toNat (.i 0)).cell 1).toI.toNat*6))).toB fun y5=>
          bnd ((y3.getD default).cell (2+(((v1.getD v2.toNat (.i 0)).cell 1).toI.toNat*6))).toI fun y6=>
          bnd ((y3.getD default).cell (3+(((v1.getD v2.toNat (.i 0)).cell 1).toI.toNat*6))).isNil fun y7=>
          bnd (((y3.getD default).cell (3+(((v1.getD v2.toNat (.i 0)).cell 1).toI.toNat*6))).items:List D) fun y8=>
          bnd ((y3.getD default).cell (4+(((v1.getD v2.toNat (.i 0)).cell 1).toI.toNat*6))).toI fun y9=>
          bnd ((y3.getD default).cell (5+(((v1.getD v2.toNat (.i 0)).cell 1).toI.toNat*6))).toI fun y10=>
          k0 (y4,y5,y6,y7,y8,y9,y10,0)
         else
          none
        else
         none
      else
       none
     else
      none
    else
     none
 else
  none
def d36 (v1:LD) (v2:Int):Option (Ty2):=c9n N v1 v2 (fun p=>some p)
theorem d9X (v1:LD) (v2:Int) (k0:Ty2→Option R):c9n N v1 v2 k0=(d36 N v1 v2).bind k0:=by
 unfold d36 c9n
 repeat' (first|with_reducible apply a0f|(with_reducible apply a0m;intro _)|rfl)
def d37:Sh:={tmps:=[(0,.g ([.sl 44])),(1,.c (.i .i64))],mem:=[]}
def d38 (L:List Lf) (p:Ty2):Res:=let p1:=p.2;let p2:=p1.2;let p3:=p2.2;let p4:=p3.2;let p5:=p4.2;let p6:=p5.2;let p7:=p6.2;([.g [.b p.1,.b p1.1,.i .i64 p2.1,.sl 37 p3.1 p4.1,.i .i64 p5.1,.i .i64 p6.1],.c (.i .i64 p7)],[])
def e9W (L:List Lf):List (Bool×Res):=bnd (c9n N (ll L 1) (li L 2) (fun p=>some p)) fun q=>[(q.isSome,d38 L (q.getD default))]
theorem e5k (L:List Lf):bd Tryz.prog (d9V N) (d35 N).h 37 d37 L=c9n N (ll L 1) (li L 2) (fun p=>some (d38 L p)):=by kernel_rfl
theorem e9X:a0G Tryz.prog 37 d37 (e9W N):=
 (d35 N).fn a0b (b8G N) fun L x hx=>((e5k N L).trans ((d9X N ..).trans (a0N x hx)))
def d9Y:a0e:=ext 37 (a1E d37 (e9W N)) (d9V N)
theorem b8H:a0c Tryz.prog (d9Y N):=a0G.to (e9X N) (b8G N)
def e9Y:List (Nat×List Nat):=[(0,[0,1]),(1,[2,1]),(2,[2,1,5]),(3,[2,7,1,5,6]),(4,[15,14,13,7,2,1,5,6]),(5,[13,15,7,2,1,14,5,6]),(6,[7,2,9,1,15,14,13,5,6]),(7,[7,9,1,10,15,14,13,2,5,6]),(8,[1,10,15,14,13,7,2,5,6,9]),(9,[5,9,6,15,14,13,7,2,1]),(10,[6,9,15,14,13,7,2,1,5]),(11,[15,14,13,7,2,1,5,6]),(12,[5])]
def e9Z:a0E:=[(12,[1,2,5,6,7,13,14,15],[2,5],[5])]
def d39 (N:Nat):Sg Tryz.prog 0 38:= .start e9Z e9Y
def a8D (N:Nat) (w0:Bool) (w4:LD) (w5 w13:Int) (w1 w2 w6:Int) (w14:Bool) (w15:LD) (kr:Int→Int→Int→Bool→LD→Option R) (k0:Bool×LD→Option R):Option R:=
 bif (decide (w6<w5)) then
  bif (inB w6 w4.length) then
   bnd (IntKind.wrap .i64 (w2+((w4.getD w6.toNat (.i 0)).cell 1).toI)) fun y0=>
   bif (bif w0 then (w2==w13) else false) then
    kr w1 y0 (IntKind.wrap .i64 (w6+1)) w14 w15
   else
    bif (decide ((w15.length+1)*32≤a0L)&&decide ((w15.length+1)≤a0d)) then
     bnd ((w15++[(.a [(.i ((w4.getD w6.toNat (.i 0)).cell 0).toI),(.i ((w4.getD w6.toNat (.i 0)).cell 1).toI),(.i ((w4.getD w6.toNat (.i 0)).cell 2).toI),(.i w1)])]):List D) fun y1=>
     bnd (IntKind.wrap .i64 (w1+((w4.getD w6.toNat (.i 0)).cell 1).toI)) fun y2=>
     kr y2 y0 (IntKind.wrap .i64 (w6+1)) false y1
    else
     none
  else
   none
 else
  k0 (w14,w15)
def b2g (N:Nat) {R:Type} (w0:Bool) (w4:LD) (w5 w13:Int):Nat→Int→Int→Int→Bool→LD→(Bool×LD→Option R)→Option R
 |0,_,_,_,_,_,_=>none
 |m+1,w1,w2,w6,w14,w15,k0=>a8D N w0 w4 w5 w13 w1 w2 w6 w14 w15 (fun w1 w2 w6 w14 w15=>b2g N w0 w4 w5 w13 m w1 w2 w6 w14 w15 k0) k0
def c6M (w0:Bool) (w4:LD) (w5 w13:Int) (w1 w2 w6:Int) (w14:Bool) (w15:LD):Option (Bool×LD):=b2g N (R:=(Bool×LD)) w0 w4 w5 w13 N w1 w2 w6 w14 w15 (fun p=>some p)
def a8E (L x:List Lf) (kr:List Lf→Option R) (k0:Bool×LD→Option R):Option R:=a8D N (lb L 0) (ll L 4) (li L 5) (li L 13) (li x 0) (li x 1) (li x 2) (lb x 3) (ll x 4) (fun w1 w2 w6 w14 w15=>kr [.i w1,.i w2,.i w6,.b w14,.l w15]) k0
theorem c13 (L x:List Lf) (kr:List Lf→Option R) (k0:Bool×LD→Option R):a8E N L x kr k0=(a8E N L x (fun y=>some (.inl y)) (fun p=>some (.inr p))).bind (a1a kr k0):=by
 unfold a8E a8D
 repeat' (first|with_reducible apply a0f|(with_reducible apply a0m;intro _)|rfl)
def b2h (L:List Lf) (m:Nat) (x:List Lf):Option (Bool×LD):=b2g N (R:=(Bool×LD)) (lb L 0) (ll L 4) (li L 5) (li L 13) m (li x 0) (li x 1) (li x 2) (lb x 3) (ll x 4) (fun p=>some p)
def a8F:Sh:={tmps:=[(1,.c (.b)),(2,.c (.p 2 0)),(5,.c (.o 5)),(6,.c (.i .i64)),(7,.c (.i .i64)),(13,.c (.sl 37)),(14,.c (.i .i64)),(15,.c (.i .i64))],mem:=[(2,.box (.b::[.b,.i .i64,.sl 37,.i .i64,.i .i64])),(5,.row 101 true)]}
def b6P (L:List Lf) (p:Bool×LD):Ex×St:=((.exit 0),⟨[(5,.c (.o 5))],[(5,.row 101 true p.1 p.2)]⟩)
def d9Z (L:List Lf):List (Bool×(Ex×St)):=bnd (b2h N L N (pk a8F [1,2,6,14,15] L)) fun q=>[(q.isSome,b6P L (q.getD default))]
theorem c4J (m:Nat) (kn:St→Option (Ex×St)) (L x:List Lf):lpB Tryz.prog (d9Y N) (d39 N).h 0 38 12 a8F [1,2,6,14,15] [4,5] [5] (m+100) kn L x=a8E N L x (fun y=>kn (a0v a8F (mx a8F [1,2,6,14,15] L y))) (fun p=>some (b6P L p)):=by kernel_rfl
theorem d4a (L:List Lf) (m:Nat) (x:List Lf):b2h N L (m+1) x=a8E N L x (b2h N L m) some:=by kernel_rfl
def d4b:Sg Tryz.prog 0 38:=
 (d39 N).lp (d9Z N) N a0b (b8H N) (fun m kn L x=>(c4J N m kn L x).trans (c13 N L x _ _)) (fun L m x=>(d4a N L m x).trans (c13 N L x (b2h N L m) some)) fun L x hx=>a0N x hx
def c9o (v4:LD) (v6:Int) (v7:Bool) (k0:Bool×LD→Option R):Option R:=
 bnd (c6M N v7 v4 (v4.length:Int) v6 0 0 0 true []) fun y0=>
 bif y0.isSome then
  k0 (y0.getD default)
 else
  none
def c4K (v4:LD) (v6:Int) (v7:Bool):Option (Bool×LD):=c9o N v4 v6 v7 (fun p=>some p)
theorem d90 (v4:LD) (v6:Int) (v7:Bool) (k0:Bool×LD→Option R):c9o N v4 v6 v7 k0=(c4K N v4 v6 v7).bind k0:=by
 unfold c4K c9o
 repeat' (first|with_reducible apply a0f|(with_reducible apply a0m;intro _)|rfl)
def d4c:Sh:={tmps:=[(0,.g (.b::[.b,.i .i64,.sl 37,.i .i64,.i .i64])),(1,.c (.b))],mem:=[]}
def e90 (L:List Lf):List (Bool×Res):=bnd (c9o N (ll L 4) (li L 6) (lb L 7) (fun p=>some p)) fun q=>[(q.isSome,([.c (.sl 101 (q.getD default).1 (q.getD default).2)],[]))]
theorem e5l (L:List Lf):bd Tryz.prog (d9Y N) (d4b N).h 38 d4c L=c9o N (ll L 4) (li L 6) (lb L 7) (fun p=>some ([.c (.sl 101 p.1 p.2)],[])):=by kernel_rfl
theorem e91:a0G Tryz.prog 38 d4c (e90 N):=
 (d4b N).fn a0b (b8H N) fun L x hx=>((e5l N L).trans ((d90 N ..).trans (a0N x hx)))
def e5m:a0e:=ext 38 (a1E d4c (e90 N)) (d9Y N)
theorem c6N:a0c Tryz.prog (e5m N):=a0G.to (e91 N) (b8H N)
def e92:List (Nat×List Nat):=[(0,[0,1]),(1,[2,1])]
def e93:a0E:=[]
def d4d (N:Nat):Sg Tryz.prog 1 40:= .start e93 e92
def c9p (N:Nat) (v0 v4:Int) (k0:Bool→R):R:=
 k0 (v0==v4)
def d91 (v0 v4:Int):Bool:=c9p N v0 v4 (fun p=>p)
theorem e5n (v0 v4:Int) (k0:Bool→R):c9p N v0 v4 k0=k0 (d91 N v0 v4):=by
 unfold d91 c9p
 repeat' (first|rfl|apply a0W|(apply a1D;intro _))
def c14:Sh:={tmps:=[(0,.g ([.i .i64,.i .i64,.i .i64,.i .i64])),(1,.c (.p 0 0))],mem:=[(0,.box ([.i .i64,.i .i64,.i .i64,.s,.b]))]}
def e94 (L:List Lf):List (Bool×Res):=bnd (c9p N (li L 0) (li L 4) (fun p=>p)) fun q=>[(true,([.c (.b q)],mgA (a0v c14 L).mem [] [0]))]
theorem e5o (L:List Lf):bd Tryz.prog (e5m N) (d4d N).h 40 c14 L=c9p N (li L 0) (li L 4) (fun p=>some ([.c (.b p)],mgA (a0v c14 L).mem [] [0])):=by kernel_rfl
theorem e95:a0G Tryz.prog 40 c14 (e94 N):=
 (d4d N).fn a0b (c6N N) fun L x hx=>((e5o N L).trans ((e5n N ..).trans (a5j _ _ hx)))
def d92:a0e:=ext 40 (a1E c14 (e94 N)) (e5m N)
theorem b8I:a0c Tryz.prog (d92 N):=a0G.to (e95 N) (c6N N)
def e96:List (Nat×List Nat):=[(0,[0,1]),(1,[0,1]),(2,[8,7,1,0]),(3,[8,1,0,7]),(4,[1,0,5,8,7]),(5,[5]),(6,[8,7,1,0]),(7,[])]
def e97:a0E:=[(6,[0,1,7,8],[0],[])]
def d4e (N:Nat):Sg Tryz.prog 1 39:= .start e97 e96
def b8J (w1:LD) (w2 w4:Int) (w3:Int) (kr:Int→Option R) (k0:Int→Option R) (k1:Unit→Option R):Option R:=
 bif (decide (w3<w2)) then
  bif (inB w3 w1.length) then
   bnd (d91 N ((w1.getD w3.toNat (.i 0)).cell 0).toI w4) fun y0=>
   bif y0 then
    k0 w3
   else
    kr (IntKind.wrap .i64 (w3+1))
  else
   none
 else
  k1 ()
def b4g (N:Nat) {R:Type} (w1:LD) (w2 w4:Int):Nat→Int→(Int→Option R)→(Unit→Option R)→Option R
 |0,_,_,_=>none
 |m+1,w3,k0,k1=>b8J N w1 w2 w4 w3 (fun w3=>b4g N w1 w2 w4 m w3 k0 k1) k0 k1
def d4f (w1:LD) (w2 w4:Int) (w3:Int):Option (Sum (Int) (Unit)):=b4g N (R:=(Sum (Int) (Unit))) w1 w2 w4 N w3 (fun p=>some (.inl p)) (fun p=>some (.inr p))
def b4h (L x:List Lf) (kr:List Lf→Option R) (k0:Int→Option R) (k1:Unit→Option R):Option R:=b8J N (ll L 1) (li L 2) (li L 4) (li x 0) (fun w3=>kr [.i w3]) k0 k1
theorem c6O (L x:List Lf) (kr:List Lf→Option R) (k0:Int→Option R) (k1:Unit→Option R):b4h N L x kr k0 k1=(b4h N L x (fun y=>some (.inl y)) (fun p=>some (.inr (.inl p))) (fun p=>some (.inr (.inr p)))).bind (a1a kr (a1a k0 k1)):=by
 unfold b4h b8J
 repeat' (first|with_reducible apply a0f|(with_reducible apply a0m;intro _)|rfl)
def b8K (L:List Lf) (m:Nat) (x:List Lf):Option (Sum (Int) (Unit)):=b4g N (R:=(Sum (Int) (Unit))) (ll L 1) (li L 2) (li L 4) m (li x 0) (fun p=>some (.inl p)) (fun p=>some (.inr p))
def a4X:Sh:={tmps:=[(0,.c (.sl 101)),(1,.c (.f 40 [(0,0)])),(7,.c (.i .i64)),(8,.c (.i .i64))],mem:=[(0,.box ([.i .i64,.i .i64,.i .i64,.s,.b]))]}
def c15 (L:List Lf) (p:Int):Ex×St:=(.ret,mg (a0v a4X L) [4] [(4,.c (.i .i64 p))] [0] [])
def e5p (L:List Lf):List (Bool×(Ex×St)):=bnd (b8K N L N (pk a4X [3] L)) fun q=>[((a0O q),c15 L (a01 q)),((a0l q).isSome,((.exit 0),mg (a0v a4X L) [] [] [0] []))]
theorem c9q (m:Nat) (kn:St→Option (Ex×St)) (L x:List Lf):lpB Tryz.prog (d92 N) (d4e N).h 1 39 6 a4X [3] [4] [0] (m+100) kn L x=b4h N L x (fun y=>kn (a0v a4X (mx a4X [3] L y))) (fun p=>some (c15 L p)) (fun _=>some ((.exit 0),mg (a0v a4X L) [] [] [0] [])):=by kernel_rfl
theorem d93 (L:List Lf) (m:Nat) (x:List Lf):b8K N L (m+1) x=b4h N L x (b8K N L m) (fun p=>some (.inl p)) (fun p=>some (.inr p)):=by kernel_rfl
def d4g:Sg Tryz.prog 1 39:=
 (d4e N).lp (e5p N) N a0b (b8I N) (fun m kn L x=>(c9q N m kn L x).trans (c6O N L x _ _ _)) (fun L m x=>(d93 N L m x).trans (c6O N L x (b8K N L m) (fun p=>some (.inl p)) (fun p=>some (.inr p)))) fun L x hx=>(a27 a0N) x hx
def c9r (v1:LD) (v2:Int) (k0:Int→Option R):Option R:=
 bnd (d4f N v1 (v1.length:Int) v2 0) fun y0=>
 bif (a0O y0) then
  k0 (a01 y0)
 else
  bif (a0l y0).isSome then
   k0 (-1)
  else
   none
def d4h (v1:LD) (v2:Int):Option (Int):=c9r N v1 v2 (fun p=>some p)
theorem d94 (v1:LD) (v2:Int) (k0:Int→Option R):c9r N v1 v2 k0=(d4h N v1 v2).bind k0:=by
 unfold d4h c9r
 repeat' (first|with_reducible apply a0f|(with_reducible apply a0m;intro _)|rfl)
def c16:Sh:={tmps:=[(0,.c (.sl 101)),(1,.c (.f 40 [(0,0)]))],mem:=[(0,.box ([.i .i64,.i .i64,.i .i64,.s,.b]))]}
def e98 (L:List Lf):List (Bool×Res):=bnd (c9r N (ll L 1) (li L 2) (fun p=>some p)) fun q=>[(q.isSome,([.c (.i .i64 (q.getD default))],mgA (a0v c16 L).mem [] [0]))]
theorem e5q (L:List Lf):bd Tryz.prog (d92 N) (d4g N).h 39 c16 L=c9r N (ll L 1) (li L 2) (fun p=>some ([.c (.i .i64 p)],mgA (a0v c16 L).mem [] [0])):=by kernel_rfl
theorem e99:a0G Tryz.prog 39 c16 (e98 N):=
 (d4g N).fn a0b (b8I N) fun L x hx=>((e5q N L).trans ((d94 N ..).trans (a0N x hx)))
def d95:a0e:=ext 39 (a1E c16 (e98 N)) (d92 N)
theorem b8L:a0c Tryz.prog (d95 N):=a0G.to (e99 N) (b8I N)
def f0a:List (Nat×List Nat):=[(0,[0]),(1,[2,3,0]),(3,[0,2,3]),(2,[2,3,0])]
def f0b:a0E:=[(3,[0,2,3],[0],[])]
def d4i (N:Nat):Sg Tryz.prog 1 51:= .start f0b f0a
def c4L (N:Nat) (w0 w1:Int) (w3:LD) (kr:Int→Int→LD→Option R) (k0:LD→Option R):Option R:=
 bif (decide (w0<w1)) then
  bif (inB w1 w3.length) then
   bif (decide (w1.toNat<w3.length)) then
    bif (inB w0 w3.length) then
     bif (decide (w0.toNat<w3.length)) then
      bif (inB w0 w3.length) then
       bif (decide (w0.toNat<w3.length)) then
        bif (inB w1 (w3.set w0.toNat (.i (w3.getD w1.toNat (.i 0)).toI)).length) then
         bif (decide (w1.toNat<(w3.set w0.toNat (.i (w3.getD w1.toNat (.i 0)).toI)).length)) then
          bnd (((w3.set w0.toNat (.i (w3.getD w1.toNat (.i 0)).toI)).set w1.toNat (.i (w3.getD w0.toNat (.i 0)).toI)):List D) fun y0=>
          kr (IntKind.wrap .i64 (w0+1)) (IntKind.wrap .i64 (w1-1)) y0
         else
          none
        else
         none
       else
        none
      else
       none
     else
      none
    else
     none
   else
    none
  else
   none
 else
  k0 w3
def c4M (N:Nat) {R:Type}:Nat→Int→Int→LD→(LD→Option R)→Option R
 |0,_,_,_,_=>none
 |m+1,w0,w1,w3,k0=>c4L N w0 w1 w3 (fun w0 w1 w3=>c4M N m w0 w1 w3 k0) k0
def e5r (w0 w1:Int) (w3:LD):Option (LD):=c4M N (R:=(LD)) N w0 w1 w3 (fun p=>some p)
def b4i (L x:List Lf) (kr:List Lf→Option R) (k0:LD→Option R):Option R:=c4L N (li x 0) (li x 1) (ll x 2) (fun w0 w1 w3=>kr [.i w0,.i w1,.l w3]) k0
theorem c6P (L x:List Lf) (kr:List Lf→Option R) (k0:LD→Option R):b4i N L x kr k0=(b4i N L x (fun y=>some (.inl y)) (fun p=>some (.inr p))).bind (a1a kr k0):=by
 unfold b4i c4L
 repeat' (first|with_reducible apply a0f|(with_reducible apply a0m;intro _)|rfl)
def b8M (L:List Lf) (m:Nat) (x:List Lf):Option (LD):=c4M N (R:=(LD)) m (li x 0) (li x 1) (ll x 2) (fun p=>some p)
def b2i:Sh:={tmps:=[(0,.c (.o 0)),(2,.c (.i .i64)),(3,.c (.i .i64))],mem:=[(0,.row 5 true)]}
def e5s (L:List Lf):List (Bool×(Ex×St)):=bnd (b8M N L N (pk b2i [0,1,3] L)) fun q=>[(q.isSome,((.exit 0),⟨[],[(0,.row 5 true (lb L 2) (q.getD default))]⟩))]
theorem c9s (m:Nat) (kn:St→Option (Ex×St)) (L x:List Lf):lpB Tryz.prog (d95 N) (d4i N).h 1 51 3 b2i [0,1,3] [] [0] (m+100) kn L x=b4i N L x (fun y=>kn (a0v b2i (mx b2i [0,1,3] L y))) (fun p=>some ((.exit 0),⟨[],[(0,.row 5 true (lb L 2) p)]⟩)):=by kernel_rfl
theorem d96 (L:List Lf) (m:Nat) (x:List Lf):b8M N L (m+1) x=b4i N L x (b8M N L m) some:=by kernel_rfl
def d4j:Sg Tryz.prog 1 51:=
 (d4i N).lp (e5s N) N a0b (b8L N) (fun m kn L x=>(c9s N m kn L x).trans (c6P N L x _ _)) (fun L m x=>(d96 N L m x).trans (c6P N L x (b8M N L m) some)) fun L x hx=>a0N x hx
def d4k (v1:LD) (k0:LD→Option R):Option R:=
 bnd (e5r N 0 (IntKind.wrap .i64 ((v1.length:Int)-1)) v1) fun y0=>
 bif y0.isSome then
  k0 (y0.getD default)
 else
  none
def e5t (v1:LD):Option (LD):=d4k N v1 (fun p=>some p)
theorem d97 (v1:LD) (k0:LD→Option R):d4k N v1 k0=(e5t N v1).bind k0:=by
 unfold e5t d4k
 repeat' (first|with_reducible apply a0f|(with_reducible apply a0m;intro _)|rfl)
def d4l:Sh:={tmps:=[(0,.c (.o 0))],mem:=[(0,.row 5 true)]}
def f0c (L:List Lf):List (Bool×Res):=bnd (d4k N (ll L 1) (fun p=>some p)) fun q=>[(q.isSome,([],[(0,.row 5 true (lb L 0) (q.getD default))]))]
theorem e5u (L:List Lf):bd Tryz.prog (d95 N) (d4j N).h 51 d4l L=d4k N (ll L 1) (fun p=>some ([],[(0,.row 5 true (lb L 0) p)])):=by kernel_rfl
theorem f0d:a0G Tryz.prog 51 d4l (f0c N):=
 (d4j N).fn a0b (b8L N) fun L x hx=>((e5u N L).trans ((d97 N ..).trans (a0N x hx)))
def d4m:a0e:=ext 51 (a1E d4l (f0c N)) (d95 N)
theorem b2j:a0c Tryz.prog (d4m N):=a0G.to (f0d N) (b8L N)
def f0e:List (Nat×List Nat):=[(0,[1,0,2]),(1,[1,0,2]),(2,[7,0,2]),(3,[13,12,7,0,2]),(4,[13,7,0,12,2]),(5,[7,8,0,13,12,2]),(6,[13,12,7,0,2]),(7,[2,7]),(8,[7]),(9,[7])]
def f0f:a0E:=[(9,[0,2,7,12,13],[10],[]),(26,[7,25],[10],[])]
def d4n (N:Nat):Sg Tryz.prog 0 26:= .start f0f f0e
def c4N (N:Nat) (w0 w2:Int) (w3:Int) (w5:LD) (kr:Int→LD→Option R) (k0:LD→Option R):Option R:=
 bif (decide (w3<w2)) then
  bif (decide (0≤(IntKind.wrap .i64 (8*w3)))) then
   bnd (IntKind.wrap .u8 (w0.fdiv (2^(min (IntKind.wrap .i64 (8*w3)).toNat 64)))) fun y0=>
   bif (inB w3 w5.length) then
    bif (decide (w3.toNat<w5.length)) then
     kr (IntKind.wrap .i64 (w3+1)) (w5.set w3.toNat (.i y0))
    else
     none
   else
    none
  else
   none
 else
  k0 w5
def c4O (N:Nat) {R:Type} (w0 w2:Int):Nat→Int→LD→(LD→Option R)→Option R
 |0,_,_,_=>none
 |m+1,w3,w5,k0=>c4N N w0 w2 w3 w5 (fun w3 w5=>c4O N w0 w2 m w3 w5 k0) k0
def e5v (w0 w2:Int) (w3:Int) (w5:LD):Option (LD):=c4O N (R:=(LD)) w0 w2 N w3 w5 (fun p=>some p)
def b4j (L x:List Lf) (kr:List Lf→Option R) (k0:LD→Option R):Option R:=c4N N (li L 0) (li L 2) (li x 0) (ll x 1) (fun w3 w5=>kr [.i w3,.l w5]) k0
theorem c6Q (L x:List Lf) (kr:List Lf→Option R) (k0:LD→Option R):b4j N L x kr k0=(b4j N L x (fun y=>some (.inl y)) (fun p=>some (.inr p))).bind (a1a kr k0):=by
 unfold b4j c4N
 repeat' (first|with_reducible apply a0f|(with_reducible apply a0m;intro _)|rfl)
def b8N (L:List Lf) (m:Nat) (x:List Lf):Option (LD):=c4O N (R:=(LD)) (li L 0) (li L 2) m (li x 0) (ll x 1) (fun p=>some p)
def a8G:Sh:={tmps:=[(0,.c (.i .i64)),(2,.c (.b)),(7,.c (.o 10)),(12,.c (.i .i64)),(13,.c (.i .i64))],mem:=[(10,.row 5 true)]}
def c17 (L:List Lf) (p:LD):Ex×St:=((.exit 0),mg (a0v a8G L) [2,7] [] [10] [(10,.row 5 true (lb L 4) p)])
def e5w (L:List Lf):List (Bool×(Ex×St)):=bnd (b8N N L N (pk a8G [3,5] L)) fun q=>[(q.isSome,c17 L (q.getD default))]
theorem c9t (m:Nat) (kn:St→Option (Ex×St)) (L x:List Lf):lpB Tryz.prog (d4m N) (d4n N).h 0 26 9 a8G [3,5] [2,6,7] [10] (m+100) kn L x=b4j N L x (fun y=>kn (a0v a8G (mx a8G [3,5] L y))) (fun p=>some (c17 L p)):=by kernel_rfl
theorem d98 (L:List Lf) (m:Nat) (x:List Lf):b8N N L (m+1) x=b4j N L x (b8N N L m) some:=by kernel_rfl
def d4o:Sg Tryz.prog 0 26:=
 (d4n N).lp (e5w N) N a0b (b2j N) (fun m kn L x=>(c9t N m kn L x).trans (c6Q N L x _ _)) (fun L m x=>(d98 N L m x).trans (c6Q N L x (b8N N L m) some)) fun L x hx=>a0N x hx
def a8H (w0:Bool) (w2:LD) (k0:LD→Option R):Option R:=
 bif w0 then
  bnd (e5t N w2) fun y0=>
  bif y0.isSome then
   k0 (y0.getD default)
  else
   none
 else
  k0 w2
def b8O (w0:Bool) (w2:LD):Option (LD):=a8H N w0 w2 (fun p=>some p)
theorem c4P (w0:Bool) (w2:LD) (k0:LD→Option R):a8H N w0 w2 k0=(b8O N w0 w2).bind k0:=by
 unfold b8O a8H
 repeat' (first|with_reducible apply a0f|(with_reducible apply a0m;intro _)|rfl)
def d4p:Sh:={tmps:=[(7,.c (.o 10)),(25,.c (.b))],mem:=[(10,.row 5 true)]}
def b6Q (L:List Lf) (p:LD):Ex×St:=(.normal,⟨[(7,.c (.o 10))],[(10,.row 5 true (lb L 1) p)]⟩)
def d99 (L:List Lf):List (Bool×(Ex×St)):=bnd (a8H N (lb L 0) (ll L 2) (fun p=>some p)) fun q=>[(q.isSome,b6Q L (q.getD default))]
theorem c9u (L:List Lf):pc Tryz.prog (d4m N) (d4o N).h 0 100 26 26 d4p L [7] [10]=a8H N (lb L 0) (ll L 2) (fun p=>some (b6Q L p)):=by kernel_rfl
def d4q:Sg Tryz.prog 0 26:=
 (d4o N).cut (d99 N) a0b (b2j N) fun L x hx=>(c9u N L).trans ((c4P N ..).trans (a0N x hx))
def d4r (v0 v1:Int) (v2:Bool) (k0:LD→Option R):Option R:=
 bif (((decide (0≤v1))&&(decide (v1≤v1)))&&(decide (v1.toNat*1≤a0L)&&decide (v1.toNat≤a0d))) then
  bnd (e5v N v0 ((List.replicate v1.toNat ((.i 0):D)).length:Int) 0 (List.replicate v1.toNat ((.i 0):D))) fun y0=>
  bif y0.isSome then
   bnd (b8O N v2 (y0.getD default)) fun y1=>
   bif y1.isSome then
    k0 (y1.getD default)
   else
    none
  else
   none
 else
  none
def a8I (v0 v1:Int) (v2:Bool):Option (LD):=d4r N v0 v1 v2 (fun p=>some p)
theorem e0a (v0 v1:Int) (v2:Bool) (k0:LD→Option R):d4r N v0 v1 v2 k0=(a8I N v0 v1 v2).bind k0:=by
 unfold a8I d4r
 repeat' (first|with_reducible apply a0f|(with_reducible apply a0m;intro _)|rfl)
def d4s:Sh:={tmps:=[(0,.c (.i .i64)),(1,.c (.i .i64)),(2,.c (.b))],mem:=[]}
def f0g (L:List Lf):List (Bool×Res):=bnd (d4r N (li L 0) (li L 1) (lb L 2) (fun p=>some p)) fun q=>[(q.isSome,([.c (.sl 5 false (q.getD default))],[]))]
theorem e5x (L:List Lf):bd Tryz.prog (d4m N) (d4q N).h 26 d4s L=d4r N (li L 0) (li L 1) (lb L 2) (fun p=>some ([.c (.sl 5 false p)],[])):=by kernel_rfl
theorem f0h:a0G Tryz.prog 26 d4s (f0g N):=
 (d4q N).fn a0b (b2j N) fun L x hx=>((e5x N L).trans ((e0a N ..).trans (a0N x hx)))
def e5y:a0e:=ext 26 (a1E d4s (f0g N)) (d4m N)
theorem c6R:a0c Tryz.prog (e5y N):=a0G.to (f0h N) (b2j N)
def e5z:List (Nat×List Nat):=[(0,[0,1]),(1,[0,1])]
def e5A:a0E:=[]
def c6S (N:Nat):Sg Tryz.prog 0 103:= .start e5A e5z
def b4k (N:Nat) (v0:LB) (v1:Int) (k0:Int→R):R:=
 k0 (Lib.indexByte v0 v1.toNat.toUInt8)
def c18 (v0:LB) (v1:Int):Int:=b4k N v0 v1 (fun p=>p)
theorem e0b (v0:LB) (v1:Int) (k0:Int→R):b4k N v0 v1 k0=k0 (c18 N v0 v1):=by
 unfold c18 b4k
 repeat' (first|rfl|apply a0W|(apply a1D;intro _))
def c4Q:Sh:={tmps:=[(0,.c (.s)),(1,.c (.i .u8))],mem:=[]}
def e3e (L:List Lf):List (Bool×Res):=bnd (b4k N (ls L 0) (li L 1) (fun p=>p)) fun q=>[(true,([.c (.i .i64 q)],[]))]
theorem e0c (L:List Lf):bd Tryz.prog (e5y N) (c6S N).h 103 c4Q L=b4k N (ls L 0) (li L 1) (fun p=>some ([.c (.i .i64 p)],[])):=by kernel_rfl
theorem e5B:a0G Tryz.prog 103 c4Q (e3e N):=
 (c6S N).fn a0b (c6R N) fun L x hx=>((e0c N L).trans ((e0b N ..).trans (a5j _ _ hx)))
def d4t:a0e:=ext 103 (a1E c4Q (e3e N)) (e5y N)
theorem c19:a0c Tryz.prog (d4t N):=a0G.to (e5B N) (c6R N)
def f0i:List (Nat×List Nat):=[(0,[1,0]),(1,[1,0]),(2,[5,1,0]),(4,[5,0,1]),(6,[5,0,1]),(8,[5,0,1]),(9,[0,1]),(7,[]),(5,[0,1]),(3,[]),(10,[1,0,5]),(11,[1,0,5,6]),(12,[0,5,6,7,1]),(13,[0,5,8,6,7,1]),(14,[8,9,0,6,7,5,1]),(15,[8,9,0,6,7,5,1,10]),(16,[0,8,6,9,7,5,1,10]),(17,[0,8,9,6,7,5,1,10]),(18,[11,8,0,7,5,1,10,9,6]),(19,[]),(20,[8,11,0,7,5,1,10,9,6]),(21,[0,8,7,5,1,10,9,6]),(22,[8]),(23,[8,10,5,0,1,9,6,7]),(24,[10,5,8,0,1,9,6,7]),(25,[5,10,8,0,1,9,6,7]),(30,[5,10,8,9,0,1,6,7]),(31,[0,8,1]),(32,[13,8]),(33,[]),(34,[8,13]),(26,[0,8,1]),(27,[12,8]),(28,[12,8]),(29,[]),(35,[])]
def f0j:a0E:=[]
def d4u (N:Nat):Sg Tryz.prog 0 82:= .start f0j f0i
def c4R (v0:LB) (k0:Int→R):R:=
 bif (([0]:List UInt8)==v0) then
  k0 0
 else
  bnd (c18 N v0 0) fun y0=>
  k0 y0
def c4S (v0:LB):Int:=c4R N v0 (fun p=>p)
theorem e5C (v0:LB) (k0:Int→R):c4R N v0 k0=k0 (c4S N v0):=by
 unfold c4S c4R
 repeat' (first|rfl|apply a0W|(apply a1D;intro _))
def d4v:Sh:={tmps:=[(0,.c (.s)),(1,.c (.ks [0]))],mem:=[]}
def f0k (L:List Lf):List (Bool×Res):=bnd (c4R N (ls L 0) (fun p=>p)) fun q=>[(true,([.c (.i .i64 q)],[]))]
theorem e5D (L:List Lf):bd Tryz.prog (d4t N) (d4u N).h 82 d4v L=c4R N (ls L 0) (fun p=>some ([.c (.i .i64 p)],[])):=by kernel_rfl
theorem f0l:a0G Tryz.prog 82 d4v (f0k N):=
 (d4u N).fn a0b (c19 N) fun L x hx=>((e5D N L).trans ((e5C N ..).trans (a5j _ _ hx)))
def e5E:a0e:=ext 82 (a1E d4v (f0k N)) (d4t N)
theorem c6T:a0c Tryz.prog (e5E N):=a0G.to (f0l N) (c19 N)
def f0m:List (Nat×List Nat):=[(0,[0,1]),(1,[0,1])]
def f0n:a0E:=[]
def d4w (N:Nat):Sg Tryz.prog 0 67:= .start f0n f0m
def c9v (v0:LB) (k0:Int→R):R:=
 bnd (c4S N v0) fun y0=>
 k0 y0
def e0d (v0:LB):Int:=c9v N v0 (fun p=>p)
theorem e5F (v0:LB) (k0:Int→R):c9v N v0 k0=k0 (e0d N v0):=by
 unfold e0d c9v
 repeat' (first|rfl|apply a0W|(apply a1D;intro _))
def d4x:Sh:={tmps:=[(0,.c (.s)),(1,.c (.ks [0]))],mem:=[]}
def f0o (L:List Lf):List (Bool×Res):=bnd (c9v N (ls L 0) (fun p=>p)) fun q=>[(true,([.c (.i .i64 q)],[]))]
theorem e5G (L:List Lf):bd Tryz.prog (e5E N) (d4w N).h 67 d4x L=c9v N (ls L 0) (fun p=>some ([.c (.i .i64 p)],[])):=by kernel_rfl
theorem f0p:a0G Tryz.prog 67 d4x (f0o N):=
 (d4w N).fn a0b (c6T N) fun L x hx=>((e5G N L).trans ((e5F N ..).trans (a5j _ _ hx)))
def e5H:a0e:=ext 67 (a1E d4x (f0o N)) (e5E N)
theorem c6U:a0c Tryz.prog (e5H N):=a0G.to (f0p N) (c6T N)
def f0q:List (Nat×List Nat):=[(0,[0,1]),(1,[0,1])]
def f0r:a0E:=[]
def d4y (N:Nat):Sg Tryz.prog 0 57:= .start f0r f0q
def c9w (v0:LB) (k0:Bool→R):R:=
 bnd (e0d N v0) fun y0=>
 k0 (decide (y0≥0))
def c9x (v0:LB):Bool:=c9w N v0 (fun p=>p)
theorem e5I (v0:LB) (k0:Bool→R):c9w N v0 k0=k0 (c9x N v0):=by
 unfold c9x c9w
 repeat' (first|rfl|apply a0W|(apply a1D;intro _))
def d4z:Sh:={tmps:=[(0,.c (.s)),(1,.c (.ks [0]))],mem:=[]}
def f0s (L:List Lf):List (Bool×Res):=bnd (c9w N (ls L 0) (fun p=>p)) fun q=>[(true,([.c (.b q)],[]))]
theorem e5J (L:List Lf):bd Tryz.prog (e5H N) (d4y N).h 57 d4z L=c9w N (ls L 0) (fun p=>some ([.c (.b p)],[])):=by kernel_rfl
theorem f0t:a0G Tryz.prog 57 d4z (f0s N):=
 (d4y N).fn a0b (c6U N) fun L x hx=>((e5J N L).trans ((e5I N ..).trans (a5j _ _ hx)))
def c9y:a0e:=ext 57 (a1E d4z (f0s N)) (e5H N)
theorem a8J:a0c Tryz.prog (c9y N):=a0G.to (f0t N) (c6U N)
def f0u:List (Nat×List Nat):=[(0,[0,1,2]),(1,[3,4,2]),(2,[8,3,4,2]),(3,[3,8,4,9,2]),(4,[8,10,4,3,9,2]),(5,[8,10,4,3,9,2,11]),(6,[10,4,3,9,2]),(7,[4,3,9,10,2,11]),(9,[4,9,10,3,2,11]),(11,[4,3,9,11,10,2]),(13,[9,4,11,10,3,2]),(15,[9,4,11,10,3,2]),(17,[9,4,3,2]),(19,[4,3]),(21,[3,4]),(23,[3,4]),(25,[3,4]),(26,[]),(24,[]),(22,[]),(20,[]),(18,[4,3,2]),(16,[]),(14,[]),(12,[3]),(10,[10,3,2]),(8,[]),(27,[3,4]),(28,[12,4]),(29,[12])]
def f0v:a0E:=[(20,[2,3,4,9,10,11,29],[3,4],[]),(46,[2,3,4,9,10,11],[3,4],[]),(64,[3,4],[3,4],[])]
def d4A (N:Nat):Sg Tryz.prog 0 41:= .start f0v f0u
def a8K (N:Nat) (w2 w3:Int) (w4:Bool) (k0:Int→R):R:=
 bif w4 then
  k0 (IntKind.wrap .i64 ((IntKind.wrap .i64 (0-w2))-1))
 else
  k0 w3
def b2k (w2 w3:Int) (w4:Bool):Int:=a8K N w2 w3 w4 (fun p=>p)
theorem c9z (w2 w3:Int) (w4:Bool) (k0:Int→R):a8K N w2 w3 w4 k0=k0 (b2k N w2 w3 w4):=by
 unfold b2k a8K
 repeat' (first|rfl|apply a0W|(apply a1D;intro _))
def c2a:Sh:={tmps:=[(2,.c (.b)),(3,.c (.p 3 0)),(4,.c (.p 4 0)),(9,.c (.b)),(10,.c (.i .i64)),(11,.c (.i .i64)),(29,.c (.b))],mem:=[(3,.box ([.i .i64,.i .i64,.i .i64,.i .i64])),(4,.box ([.i .i64,.i .i64,.i .i64,.s,.b]))]}
def b6R (L:List Lf) (p:Int):Ex×St:=(.normal,mg (a0v c2a L) [2,3,4,9,10,11] [(11,.c (.i .i64 p))] [3,4] [])
def e0e (L:List Lf):List (Bool×(Ex×St)):=bnd (a8K N (li L 2) (li L 3) (lb L 4) (fun p=>p)) fun q=>[(true,b6R L q)]
theorem c9A (L:List Lf):pc Tryz.prog (c9y N) (d4A N).h 0 100 41 20 c2a L [2,3,4,9,10,11] [3,4]=a8K N (li L 2) (li L 3) (lb L 4) (fun p=>some (b6R L p)):=by kernel_rfl
def d4B:Sg Tryz.prog 0 41:=
 (d4A N).cut (e0e N) a0b (a8J N) fun L x hx=>(c9A N L).trans ((c9z N ..).trans (a5j _ _ hx))
def a8L (w1:Bool) (w2 w3 w10:Int) (k0:Bool→R):R:=
 bif w1 then
  bnd (a26 N w10 w3 (IntKind.wrap .i64 (w2-1))) fun y0=>
  k0 (!y0)
 else
  k0 false
def b2l (w1:Bool) (w2 w3 w10:Int):Bool:=a8L N w1 w2 w3 w10 (fun p=>p)
theorem c9B (w1:Bool) (w2 w3 w10:Int) (k0:Bool→R):a8L N w1 w2 w3 w10 k0=k0 (b2l N w1 w2 w3 w10):=by
 unfold b2l a8L
 repeat' (first|rfl|apply a0W|(apply a1D;intro _))
def c6V (L:List Lf) (k0:Bool→R):R:=a8L N (lb L 1) (li L 2) (li L 3) (li L 10) k0
def c2b:Sh:={tmps:=[(2,.c (.b)),(3,.c (.p 3 0)),(4,.c (.p 4 0)),(9,.c (.b)),(10,.c (.i .i64)),(11,.c (.i .i64))],mem:=[(3,.box ([.i .i64,.i .i64,.i .i64,.i .i64])),(4,.box ([.i .i64,.i .i64,.i .i64,.s,.b]))]}
def b6S (L:List Lf) (p:Bool):Ex×St:=(.normal,mg (a0v c2b L) [2,3,4,9,78] [(78,.c (.b p))] [3,4] [])
def e0f (L:List Lf):List (Bool×(Ex×St)):=bnd (c6V N L (fun p=>p)) fun q=>[(true,b6S L q)]
theorem c9C (L:List Lf):pc Tryz.prog (c9y N) (d4B N).h 0 100 41 46 c2b L [2,3,4,9,78] [3,4]=c6V N L (fun p=>some (b6S L p)):=by kernel_rfl
def d4C:Sg Tryz.prog 0 41:=
 (d4B N).cut (e0f N) a0b (a8J N) fun L x hx=>(c9C N L).trans ((c9B N ..).trans (a5j _ _ hx))
def a6r (w2:Int) (w7:LB) (k0:Bool→R):R:=
 bif (w2==2) then
  bif (w7==([]:List UInt8)) then
   k0 true
  else
   bnd (c9x N w7) fun y0=>
   k0 y0
 else
  k0 false
def b2m (w2:Int) (w7:LB):Bool:=a6r N w2 w7 (fun p=>p)
theorem c9D (w2:Int) (w7:LB) (k0:Bool→R):a6r N w2 w7 k0=k0 (b2m N w2 w7):=by
 unfold b2m a6r
 repeat' (first|rfl|apply a0W|(apply a1D;intro _))
def c2c:Sh:={tmps:=[(3,.c (.p 3 0)),(4,.c (.p 4 0))],mem:=[(3,.box ([.i .i64,.i .i64,.i .i64,.i .i64])),(4,.box ([.i .i64,.i .i64,.i .i64,.s,.b]))]}
def b6T (L:List Lf) (p:Bool):Ex×St:=(.normal,mg (a0v c2c L) [3,4,102] [(102,.c (.b p))] [3,4] [])
def e0g (L:List Lf):List (Bool×(Ex×St)):=bnd (a6r N (li L 2) (ls L 7) (fun p=>p)) fun q=>[(true,b6T L q)]
theorem c9E (L:List Lf):pc Tryz.prog (c9y N) (d4C N).h 0 100 41 64 c2c L [3,4,102] [3,4]=a6r N (li L 2) (ls L 7) (fun p=>some (b6T L p)):=by kernel_rfl
def d4D:Sg Tryz.prog 0 41:=
 (d4C N).cut (e0g N) a0b (a8J N) fun L x hx=>(c9E N L).trans ((c9D N ..).trans (a5j _ _ hx))
def d4E (v1 v2 v6:Int) (v7:LB) (v8 v9:Bool) (k0:Bool×LD×Int→Option R):Option R:=
 bnd (a8u N v1 (v2==1)) fun y0=>
 bif y0.isSome then
  bnd (b2k N (y0.getD default) 0 (v2==1)) fun y1=>
  bnd (bif v8 then (bif (bif (v6 !=0) then true else (!(v7==([]:List UInt8)))) then true else (v2==3)) else false) fun y2=>
  bif y2 then
   k0 (true,[],2)
  else
   bnd (bif v8 then (bif (v2==1) then true else (v2==0)) else false) fun y3=>
   bif y3 then
    bnd (a8I N (y0.getD default) v1 v9) fun y4=>
    bif y4.isSome then
     k0 (false,(y4.getD default),0)
    else
     none
   else
    bif v8 then
     bif (((decide (0≤v1))&&(decide (v1≤v1)))&&(decide (v1.toNat*1≤a0L)&&decide (v1.toNat≤a0d))) then
      k0 (false,(List.replicate v1.toNat ((.i 0):D)),0)
     else
      none
    else
     bnd (bif (bif (v2==1) then true else (v2==0)) then (!(v7==([]:List UInt8))) else false) fun y5=>
     bif y5 then
      k0 (true,[],2)
     else
      bnd (b2l N (bif (v2==1) then true else (v2==0)) (y0.getD default) y1 v6) fun y6=>
      bif y6 then
       k0 (true,[],9)
      else
       bif (bif (v2==1) then true else (v2==0)) then
        bnd (a8I N v6 v1 v9) fun y7=>
        bif y7.isSome then
         k0 (false,(y7.getD default),0)
        else
         none
       else
        bif (v6 !=0) then
         k0 (true,[],2)
        else
         bnd (b2m N v2 v7) fun y8=>
         bif y8 then
          k0 (true,[],2)
         else
          bnd (bif (v2==2) then (decide ((v7.length:Int)>v1)) else false) fun y9=>
          bif y9 then
           k0 (true,[],3)
          else
           bif (bif (v2==3) then ((v7.length:Int) !=v1) else false) then
            k0 (true,[],2)
           else
            bif (((decide (0≤v1))&&(decide (v1≤v1)))&&(decide (v1.toNat*1≤a0L)&&decide (v1.toNat≤a0d))) then
             bnd (((a0u v7).take (List.replicate v1.toNat ((.i 0):D)).length++(List.replicate v1.toNat ((.i 0):D)).drop (a0u v7).length):List D) fun y10=>
             k0 (false,y10,0)
            else
             none
 else
  none
def d4F (v1 v2 v6:Int) (v7:LB) (v8 v9:Bool):Option (Bool×LD×Int):=d4E N v1 v2 v6 v7 v8 v9 (fun p=>some p)
theorem e0h (v1 v2 v6:Int) (v7:LB) (v8 v9:Bool) (k0:Bool×LD×Int→Option R):d4E N v1 v2 v6 v7 v8 v9 k0=(d4F N v1 v2 v6 v7 v8 v9).bind k0:=by
 unfold d4F d4E
 repeat' (first|with_reducible apply a0f|(with_reducible apply a0m;intro _)|rfl)
def f0w (L:List Lf) (k0:Bool×LD×Int→Option R):Option R:=d4E N (li L 1) (li L 2) (li L 6) (ls L 7) (lb L 8) (lb L 9) k0
def d4G:Sh:={tmps:=[(0,.g ([.i .i64,.i .i64,.i .i64,.i .i64])),(1,.g ([.i .i64,.i .i64,.i .i64,.s,.b])),(2,.c (.b))],mem:=[]}
def f0x (L:List Lf):List (Bool×Res):=bnd (f0w N L (fun p=>some p)) fun q=>[(q.isSome,([.c (.sl 5 (q.getD default).1 (q.getD default).2.1),.c (.i .i64 (q.getD default).2.2)],[]))]
theorem e5K (L:List Lf):bd Tryz.prog (c9y N) (d4D N).h 41 d4G L=f0w N L (fun p=>some ([.c (.sl 5 p.1 p.2.1),.c (.i .i64 p.2.2)],[])):=by kernel_rfl
theorem f0y:a0G Tryz.prog 41 d4G (f0x N):=
 (d4D N).fn a0b (a8J N) fun L x hx=>((e5K N L).trans ((e0h N ..).trans (a0N x hx)))
def e0i:a0e:=ext 41 (a1E d4G (f0x N)) (c9y N)
theorem b8P:a0c Tryz.prog (e0i N):=a0G.to (f0y N) (a8J N)
end Go.Proofs.YtiegikkpipdleaaGreatDoor
namespace Go.Proofs.YtiegikkpipdleaaGreatDoor
open Go Go.AM
variable (N:Nat) {R:Type}
def rgS:List (Nat×List Nat):=[(0,[0,2,1]),(1,[3,1,6,5]),(2,[9,6,8,3,1,5]),(3,[9,6]),(4,[8,3,1,5,6]),(5,[10,5,6,8,3,1]),(6,[11,6,10,5,8,3,1]),(8,[10,11,5,6,8,3,1]),(9,[6]),(7,[6]),(10,[10,11,5,8,6,3,1]),(11,[9,6,3,1,10,11,12]),(12,[9,6]),(13,[3,6,1,10,11,12]),(15,[13,6]),(16,[14,6,13]),(17,[14,6]),(18,[13,6])]
def hdS:a0E:=[(43,[1,6,10,11,12,13],[6,13,Ce.R7,Ce.K7],[])]
def sgS:Sg Tryz.prog 0 10:=(Sg.start hdS rgS).hand (id:=43) Ce.law43
def F7s (v1 : LD) (v2 v3 v4 v5:Int) (v6:LB) (v7:Bool) (k0:Bool×LD×Int→Option R):Option R:=
 bnd (d36 N v1 v2) fun y0=>
 bif y0.isSome then
  bif ((y0.getD default).2.2.2.2.2.2.2 !=0) then
   k0 (true,[],(y0.getD default).2.2.2.2.2.2.2)
  else
   bif (inB v2 v1.length) then
    bnd (c4K N (y0.getD default).2.2.2.2.1 (y0.getD default).2.2.2.2.2.2.1 (((v1.getD v2.toNat (.i 0)).cell 0).toI==3)) fun y1=>
    bif y1.isSome then
     bnd (d4h N (y1.getD default).2 v3) fun y2=>
     bif y2.isSome then
      bif (decide ((y2.getD default)<0)) then
       k0 (true,[],4)
      else
       bif (inB (y2.getD default) (y1.getD default).2.length) then
        bnd (((y1.getD default).2.getD (y2.getD default).toNat (.i 0)):D) fun y3=>
        bif ((y3.cell 2).toI !=v4) then
         k0 (true,[],7)
        else
         bif (inB (y2.getD default) (y1.getD default).2.length) then
          bnd (((y1.getD default).2.getD (y2.getD default).toNat (.i 0)):D) fun y3=>
          bnd (d4F N (y3.cell 1).toI (y3.cell 2).toI v5 v6 v7 (y0.getD default).2.1) fun y4=>
          bif y4.isSome then
           bif ((y4.getD default).2.2 !=0) then
            k0 (true,[],(y4.getD default).2.2)
           else
            bnd (Ce.lpA N v1 (v1.length:Int) v2 N 0 true []) fun y5=>
            bif y5.isSome then
             bif Ce.c43 v2 (y1.getD default).2 (y2.getD default) (y5.getD default).1 (y5.getD default).2.1 (y5.getD default).2.2.1 (y5.getD default).2.2.2 then
              bnd (Ce.xs' (y1.getD default).2 (y2.getD default) (y4.getD default).2.1 (y5.getD default).1 (y5.getD default).2.1 (y5.getD default).2.2.2) fun y7=>
              bnd (b1F N y7) fun y6=>
              bif y6.isSome then
               bif ((y6.getD default) !=0) then
                k0 (true,[],(y6.getD default))
               else
                k0 (false,y7,0)
              else
               none
             else
              none
            else
             none
          else
           none
         else
          none
       else
        none
     else
      none
    else
     none
   else
    none
 else
  none
def a6P (v1:LD) (v2 v3 v4 v5:Int) (v6:LB) (v7:Bool):Option (Bool×LD×Int):=F7s N v1 v2 v3 v4 v5 v6 v7 (fun p=>some p)
theorem f4x (v1:LD) (v2 v3 v4 v5:Int) (v6:LB) (v7:Bool) (k0:Bool×LD×Int→Option R):F7s N v1 v2 v3 v4 v5 v6 v7 k0=(a6P N v1 v2 v3 v4 v5 v6 v7).bind k0:=by
 unfold a6P F7s
 repeat' (first|with_reducible apply a0f|(with_reducible apply a0m;intro _)|rfl)
def TS (k:Int):a0e:=ext 42 (a1E Ce.sh22 (Ce.A22k N k)) (e0i N)
theorem f4y (k:Int):a0c Tryz.prog (TS N k):=a0G.to (Ce.ok22k N k) (b8P N)
def e5L:Sh:={tmps:=[(0,.g ([.sl 44])),(1,.c (.i .i64)),(2,.g ([.i .i64,.i .i64,.i .i64,.s,.b]))],mem:=[]}
def f5v (L:List Lf):List (Bool×Res):=bnd (a6P N (ll L 1) (li L 2) (li L 3) (li L 4) (li L 5) (ls L 6) (lb L 7)) fun q=>[(q.isSome,([.g [.sl 44 (q.getD default).1 (q.getD default).2.1],.c (.i .i64 (q.getD default).2.2)],[]))]
theorem f57 (L:List Lf):bd Tryz.prog (TS N (li L 2)) sgS.h 10 e5L L=F7s N (ll L 1) (li L 2) (li L 3) (li L 4) (li L 5) (ls L 6) (lb L 7) (fun p=>some ([.g [.sl 44 p.1 p.2.1],.c (.i .i64 p.2.2)],[])):=by kernel_rfl
theorem f0z:a0G Tryz.prog 10 e5L (f5v N):=
 a8h fun L x hx=>a5J (n:=200) a0b (f4y N (li L 2)) sgS.ok rfl ((f57 N L).trans ((f4x N ..).trans (a0N x hx)))
end Go.Proofs.YtiegikkpipdleaaGreatDoor
end
