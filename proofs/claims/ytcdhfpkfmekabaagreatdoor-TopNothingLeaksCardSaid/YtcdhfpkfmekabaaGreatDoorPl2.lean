/- A part of a proof of a law: lemmas. Conditions: those of each lemma. -/
import Derived.Test.YtcdhfpkfmekabaaGreatDoorPl1
import Derived.KernelRfl
import Derived.Test.YtcdhfpkfmekabaaGreatDoorRows
import Derived.KernelRfl
import Derived.Test.YtcdhfpkfmekabaaGreatDoorCards
import Derived.Test.YtcdhfpkfmekabaaGreatDoorTie
import Derived.Deep.DeepHandedRow
import Derived.ProofKit
set_option linter.all false
set_option maxRecDepth 100000
set_option maxHeartbeats 4000000
noncomputable section
namespace Go.Proofs.YtcdhfpkfmekabaaGreatDoor.Z
open Go Go.AM
variable {N:Nat}
def b1U:List D→List D
 | []=>[]
 |x::r=>x.items++b1U r
section
variable {ps:List D}
theorem c0t {w:Int} (h0:0≤w) (h1:w<ps.length):(b1U (ps.drop w.toNat)).length=(ps.getD w.toNat (.i 0)).items.length+(b1U (ps.drop (w+1).toNat)).length:=by
 rw [a2I (.i 0) h0 h1];simp [b1U]
theorem c9t (hN:maxLen<N) (hp:ps.length≤1000) (hc:(b1U ps).length≤10000000000):∃b,d9b N ps=some (b,b1U ps):=by
 have hm:maxLen=9223372036854775807:=rfl;have k1:c8D N ps ps.length 0 0=some ((b1U ps).length:Int):=by
  have key:=a5P (A:=Int×Int) (X:=Option Int) (S:=fun x kr=>b4o N ps ps.length x.1 x.2 (fun a b=>kr (a,b)) (fun p=>some p)) (L:=fun m x=>b7B N ps ps.length m x.1 x.2 (fun p=>some p)) (fun m x=>rfl)
   (fun x=>some (x.1+((b1U (ps.drop x.2.toNat)).length:Int))) (fun x=>0≤x.2∧x.2≤ps.length∧0≤x.1∧x.1+((b1U (ps.drop x.2.toNat)).length:Int)≤10000000000) (fun x=>(ps.length-x.2).toNat) ?_ N (0,0) ⟨by decide,by show (0:Int)≤_;omega,by decide,by simp;omega⟩ (by simp;omega)
  ·refine Eq.trans key ?_;simp
  ·rintro ⟨a,w⟩ kr ⟨h0,h1,h2,h3⟩ ih
   simp only at h0 h1 h2 h3 ih⊢;unfold b4o;by_cases hw:w<ps.length
   ·have:=c0t h0 hw
    rw [decide_eq_true hw,a0D h0 hw,a0u (x:=a+_) (by omega) (by omega),a0u (x:=w+1) (by omega) (by omega)]
    simp only [e59,a0b];rw [decide_eq_false (show¬a+((ps.getD w.toNat (.i 0)).items.length:Int)<0 by omega)]
    simp only [e6a];rw [ih (_,w+1) ⟨by simp only;omega,by simp only;omega,by simp only;omega,by simp only;omega⟩ (by simp only;omega)]
    simp only;congr 1;omega
   ·have:w=ps.length:=by omega
    subst this;rw [decide_eq_false hw,a2f (by omega)]
    simp [b1U]
 have k3:∀b0:Bool,∃b,b7D N ps ps.length 0 b0 []=some (b,b1U ps):=by
  intro b0;have key:=c0p (A:=Int×Bool×LD) (X:=Option (Bool×LD)) (S:=fun x kr=>a92 N ps ps.length x.1 x.2.1 x.2.2 (fun a b c=>kr (a,b,c)) (fun p=>some p)) (L:=fun m x=>b2S N ps ps.length m x.1 x.2.1 x.2.2 (fun p=>some p)) (fun m x=>rfl)
   (fun x r=>∃b,r=some (b,x.2.2++b1U (ps.drop x.1.toNat))) (fun x=>0≤x.1∧x.1≤ps.length∧(x.2.2.length:Int)+((b1U (ps.drop x.1.toNat)).length:Int)≤10000000000) (fun x=>(ps.length-x.1).toNat) ?_ N (0,b0,[]) ⟨by show (0:Int)≤0;omega,by show (0:Int)≤_;omega,by simp;omega⟩ (by simp;omega)
  ·obtain ⟨b,q⟩:=key;exact ⟨b,q⟩
  ·rintro ⟨w,b,acc⟩ kr ⟨h0,h1,h2⟩ ih
   simp only at h0 h1 h2 ih⊢;unfold a92;by_cases hw:w<ps.length
   ·have:=c0t h0 hw
    have r1:decide ((acc.length+(ps.getD w.toNat (.i 0)).items.length)*1≤a0X)=true:=decide_eq_true (by unfold a0X;omega)
    have r2:decide (acc.length+(ps.getD w.toNat (.i 0)).items.length≤a0c)=true:=decide_eq_true (by unfold a0c;omega)
    rw [decide_eq_true hw,a0D h0 hw,r1,r2,a0u (x:=w+1) (by omega) (by omega),a2I (.i 0) h0 hw]
    simp only [e59,Bool.and_self];obtain ⟨b',q⟩:=ih (w+1,(ps.getD w.toNat (.i 0)).items.isEmpty&&b,acc++(ps.getD w.toNat (.i 0)).items) ⟨by simp only;omega,by simp only;omega,by simp only [e6l];omega⟩ (by simp only;omega)
    exact ⟨b',q.trans (by simp [b1U])⟩
   ·have:w=ps.length:=by omega
    subst this;rw [decide_eq_false hw,a2f (by omega)]
    exact ⟨b,by simp [b1U]⟩
 have k2:∃r,b7C N ((b1U ps).length:Int)=some r:=by
  unfold b7C b2R d4M c3O b9Z a91;rw [decide_eq_false (show¬((b1U ps).length:Int)<0 by omega),Int.sub_zero,a0u (by omega) (by omega)]
  by_cases h0:((b1U ps).length:Int)>0
  ·have r1:decide (((b1U ps).length:Int).toNat*1≤a0X)=true:=decide_eq_true (by unfold a0X;omega)
   have r2:decide (((b1U ps).length:Int).toNat≤a0c)=true:=decide_eq_true (by unfold a0c;omega)
   rw [decide_eq_true h0,r1,r2,decide_eq_true (show (0:Int)≤((b1U ps).length:Int) by omega),decide_eq_true (show (0:Int)≤((List.replicate ((b1U ps).length:Int).toNat (D.i 0)).length:Int) by omega)]
   exact ⟨_,rfl⟩
  ·rw [decide_eq_false h0]
   exact ⟨_,rfl⟩
 obtain ⟨r,k2⟩:=k2;unfold d9b d2H;rw [k1];simp only [a0b,e6e,e59,getD_some,k2];cases r with
 |inl b0=>
  obtain ⟨b,q⟩:=k3 b0;exact ⟨b,by simp [a0U,a1E,q]⟩
 |inr u=>
  obtain ⟨b,q⟩:=k3 true;exact ⟨b,by simp [a0U,a0n,q]⟩
end
theorem c5X (n i:Int):0≤(bt n i).toI∧(bt n i).toI≤255:=by
 unfold bt D.toI;simp only [IntKind.wrap_u8];omega
theorem c14 (n:Int):0≤(u8 n).toI∧(u8 n).toI≤255:=by
 unfold u8 D.toI;simp only [IntKind.wrap_u8];omega
theorem a0G.append {a b:List D} (h1:a0G a) (h2:a0G b):a0G (a++b):=fun x hx=>by
 rcases List.mem_append.1 hx with h|h
 ·exact h1 x h
 ·exact h2 x h
theorem a0G.cons {x:D} {b:List D} (h1:0≤x.toI∧x.toI≤255) (h2:a0G b):a0G (x::b):=fun y hy=>by
 rcases e6k.1 hy with rfl|h
 ·exact h1
 ·exact h2 y h
theorem a0G.nil:a0G []:=fun x hx=>by simp at hx
theorem e2N (n:Int) (big:Bool):a0G (nb4 n big):=by
 cases big<;>exact .cons (c5X _ _) (.cons (c5X _ _) (.cons (c5X _ _) (.cons (c5X _ _) .nil)))
theorem e2O (n:Int) (big:Bool):a0G (nb2 n big):=by
 cases big<;>exact .cons (c5X _ _) (.cons (c5X _ _) .nil)
theorem c4t:∀fs:List D,a0G (b8b fs)
 | []=> .nil
 |f::r=> .cons (c14 _) (.cons (c14 _) (.cons (c14 _) (c4t r)))
theorem d9Z (slot:Int) (d:D):a0G (e2L slot d):=by
 unfold e2L;refine a0G.append (a0G.append (a0G.append (.cons (c14 _) (.cons ?_ .nil)) (e2O _ _)) (.cons (c14 _) .nil)) (c4t _);cases (d.cell 0).toB<;>exact ⟨by decide,by decide⟩
theorem d90 {x:D} (h:EntD x):a0G (c9Q x):=by
 unfold c9Q e2M;cases kX x==2 with
 |true=>exact .cons (c14 _) h.y
 |false=>
  cases kX x==3 with
  |true=>exact .cons (c14 _) h.y
  |false=>exact d9Z _ _
theorem c4u:∀{es:List D},(∀x∈es,EntD x)→a0G (a3K es)
 | [],_=> .nil
 |x::r,h=>a0G.append (d90 (h x (by simp))) (c4u fun y hy=>h y (by simp [hy]))
section
variable {es:List D}
theorem d3G (h:∀x∈es,EntD x):a0G (a8B es):=
 a0G.append (a0G.append (.cons ⟨by decide,by decide⟩ (.cons ⟨by decide,by decide⟩ (.cons ⟨by decide,by decide⟩ (.cons ⟨by decide,by decide⟩ .nil)))) (e2N _ _)) (c4u h)
theorem c0u:(a8B es).length=8+(a3K es).length:=by
 unfold a8B;simp only [e6l,a2v,e6m,List.length_nil]
theorem d3H:(allB es).length=12+(a3K es).length:=by
 unfold allB;rw [e6l,c0u,a2v];omega
def writeB (es:List D):List D:=bif writeE es !=0 then [] else allB es
theorem write_eq (hN:maxLen<N) (hes:∀x∈es,EntD x):∃nl,c5y N es=some (nl,writeB es,writeE es):=by
 have hm:maxLen=9223372036854775807:=rfl;have c1:=c13 (N:=N) hN hes;unfold c5y d2J writeB writeE;rw [c1];simp only [a0b,e6e,e59,getD_some];cases hc:fileE es !=0 with
 |true=>simp only [e59,hc];exact ⟨_,rfl⟩
 | false=>
  obtain ⟨hl,he⟩:=d3D (by simpa using hc)
  obtain ⟨b,z1⟩:=c5W hN hes hl N 0 Ab.start true [] OkA.start (by omega) (by omega) (by omega) (by simpa using he) (by simp)
  have y1:b7F N es es.length 0 true []=some (b,a3K es):=by unfold b7F;simpa using z1
  have hbl:=c4s OkA.start he;have l4:=a2v ((a3K es).length:Int) true;obtain ⟨b3,k3⟩:=c9t (N:=N) (ps:=[.l false [.i 72,.i 65,.i 82,.i 49],.l false (nb4 ((a3K es).length:Int) true),.l b (a3K es)]) hN (by simp) (by simp only [b1U,D.items,e6l,List.length_nil,e6m,l4];omega)
  have ec:b1U [.l false [.i 72,.i 65,.i 82,.i 49],.l false (nb4 ((a3K es).length:Int) true),.l b (a3K es)]=a8B es:=by
   simp only [b1U,D.items,a8B,e6n,List.append_nil]
  rw [ec] at k3;have fl:=c0u (es:=es);have hs:=d3x hN (d3G hes) (by omega)
  have al:=d3H (es:=es);have l5:=a2v (c5S 1 (a8B es)) true;have r1:decide (((a8B es).length+(nb4 (c5S 1 (a8B es)) true).length)*1≤a0X)=true:=decide_eq_true (by unfold a0X;omega)
  have r2:decide ((a8B es).length+(nb4 (c5S 1 (a8B es)) true).length≤a0c)=true:=decide_eq_true (by unfold a0c;omega)
  have r3:decide ((4+(nb4 ((a3K es).length:Int) true).length)*1≤a0X)=true:=decide_eq_true (by unfold a0X;omega)
  have r4:decide (4+(nb4 ((a3K es).length:Int) true).length≤a0c)=true:=decide_eq_true (by unfold a0c;omega)
  have r5:decide (((([.i 72,.i 65,.i 82,.i 49]:List D)++nb4 ((a3K es).length:Int) true).length+(a3K es).length)*1≤a0X)=true:=decide_eq_true (by simp only [e6l,l4,e6m,List.length_nil];unfold a0X;omega)
  have r6:decide ((([.i 72,.i 65,.i 82,.i 49]:List D)++nb4 ((a3K es).length:Int) true).length+(a3K es).length≤a0c)=true:=decide_eq_true (by simp only [e6l,l4,e6m,List.length_nil];unfold a0c;omega)
  have ef:[.i 72,.i 65,.i 82,.i 49]++nb4 ((a3K es).length:Int) true++a3K es=a8B es:=rfl;have ea:a8B es++nb4 (c5S 1 (a8B es)) true=allB es:=rfl;simp only [e6a,y1,e6e,e59,getD_some,d9Y hN,k3,r3,r4,r5,r6,ef,hs,r1,r2,Bool.and_self,ea];cases h4:decide (((allB es).length:Int)>4000000) with
  |true=>exact ⟨_,rfl⟩
  |false=>exact ⟨_,rfl⟩
end
end Go.Proofs.YtcdhfpkfmekabaaGreatDoor.Z
namespace Go.Proofs.YtcdhfpkfmekabaaGreatDoor.Z
open Go Go.AM
def a5w (i:Int):Prop:= -9223372036854775808≤i∧i≤9223372036854775807
def d91 (f:D):Prop:=∃a b c,f= .a [.i a,.i b,.i c]∧a5w a∧a5w b∧a5w c
def e5R (d:D):Prop:=∃big g nl fs,d= .a [.b big,.i g,.l nl fs]∧a5w g∧(nl=true→fs=[])∧fs.length≤maxLen∧ ∀f∈fs,d91 f
def d92 (x:D):Prop:=∃n,x= .i n∧0≤n∧n≤255
def e0C (x:D):Prop:=∃kind slot off dn ds bn data,x= .a [.i kind,.i slot,.i off,.l dn ds,.l bn data]∧a5w kind∧a5w slot∧a5w off∧(dn=true→ds=[])∧(bn=true→data=[])∧ds.length≤maxLen∧data.length≤maxLen∧(∀d∈ds,e5R d)∧ ∀y∈data,d92 y
theorem e0C.entD {x:D} (h:e0C x):EntD x:=by
 obtain ⟨a,b,c,dn,ds,bn,data,rfl,_,_,_,n1,m1,n2,m2,n3,m3⟩:=h;refine ⟨n2,m2,fun d hd=> ?_,fun y hy=> ?_⟩
 ·obtain ⟨big,g,nl,fs,rfl,_,_,hl,_⟩:=n3 d hd
  exact hl
 ·obtain ⟨n,rfl,h0,h1⟩:=m3 y hy
  exact ⟨h0,h1⟩
end Go.Proofs.YtcdhfpkfmekabaaGreatDoor.Z
namespace Go.Proofs.YtcdhfpkfmekabaaGreatDoor.Z
open Go Go.AM
variable {N:Nat}
def e4W (a:Ab) (x d:D):Prop:=(kX x=1→d.items=[])∧(kX x≠1→ ∃nl,d.items=[.a [.b (a.bg (sX x).toNat),.i (a.gl (sX x).toNat),.l nl (a.fs (sX x).toNat)]])
def PlL:Ab→List D→List D→Prop
 |_,[],[]=>True
 |a,x::r,d::ds=>e4W a x d∧PlL (a6T a x) r ds
 |_,_,_=>False
theorem PlL.len:∀{es ds:List D} {a:Ab},PlL a es ds→ds.length=es.length
 | [],[],_,_=>rfl
 |x::r,d::ds,a,h=>by simp [PlL.len h.2]
 | [],_::_,_,h=>h.elim
 |_::_,[],_,h=>h.elim
section
variable {es:List D}
end
end Go.Proofs.YtcdhfpkfmekabaaGreatDoor.Z
namespace Go.Proofs.YtcdhfpkfmekabaaGreatDoor.Z
open Go Go.AM
variable {N:Nat}
def d93 (d:D):D:= .a [.b (d.cell 0).toB,.i (d.cell 1).toI,.l false (d.cell 2).items]
structure EqE (x y:D):Prop where
 k:kX x=kX y
 s:sX x=sX y
 o:oX x=oX y
 d:(dX x).map d93=(dX y).map d93
 b:bX x=bX y
theorem EqE.symm {x y:D} (h:EqE x y):EqE y x:=⟨h.k.symm,h.s.symm,h.o.symm,h.d.symm,h.b.symm⟩
theorem d3I {d d':D} (h:d93 d=d93 d'):(d.cell 0).toB=(d'.cell 0).toB∧(d.cell 1).toI=(d'.cell 1).toI∧(d.cell 2).items=(d'.cell 2).items:=by
 unfold d93 at h;simp only [D.a.injEq,List.cons.injEq,D.b.injEq,D.i.injEq,D.l.injEq,and_true,true_and] at h;exact h
theorem c9u {ds ds':List D} (h:ds.map d93=ds'.map d93):ds.length=ds'.length∧((ds.getD 0 (.i 0)).cell 0).toB=((ds'.getD 0 (.i 0)).cell 0).toB∧((ds.getD 0 (.i 0)).cell 1).toI=((ds'.getD 0 (.i 0)).cell 1).toI∧((ds.getD 0 (.i 0)).cell 2).items=((ds'.getD 0 (.i 0)).cell 2).items:=by
 have hl:ds.length=ds'.length:=by have:=congrArg List.length h;simpa using this
 refine ⟨hl,?_⟩;match ds,ds',h,hl with
 | [],[],_,_=>exact ⟨rfl,rfl,rfl⟩
 |d::_,d'::_,h,_=>
  simp only [List.map_cons,List.cons.injEq] at h;exact d3I h.1
 | [],_::_,_,hl=>simp at hl
 |_::_,[],_,hl=>simp at hl
theorem EqE.err {x y:D} (h:EqE x y) (a:Ab):c4q a x=c4q a y:=by
 obtain ⟨l,d0,d1,d2⟩:=c9u h.d;unfold c4q d9T c6a;rw [h.k,h.s,h.o,h.b,l,d1,d2]
theorem EqE.time {x y:D} (h:EqE x y) (a:Ab):c5U a x=c5U a y:=by
 unfold c5U;rw [h.k,h.s,h.o,h.b]
theorem EqE.step {x y:D} (h:EqE x y) (a:Ab):a6T a x=a6T a y:=by
 obtain ⟨l,d0,d1,d2⟩:=c9u h.d;unfold a6T c5T;rw [h.k,h.s,h.o,h.b,d0,d1,d2]
theorem All2.errs {xs ys:List D} (h:All2 EqE xs ys) (a:Ab):a4p a xs=a4p a ys:=by
 induction xs generalizing ys a with
 |nil=>cases ys with
  |nil=>rfl
  |cons=>exact h.elim
 |cons x xs ih=>cases ys with
  |nil=>exact h.elim
  |cons y ys=>simp only [a4p];rw [h.1.err,h.1.step,ih h.2]
theorem All2.fileE {xs ys:List D} (h:All2 EqE xs ys):Z.fileE xs=Z.fileE ys:=by
 unfold Z.fileE;rw [AM.All2.length h,All2.errs h]
section
variable {xs ys:List D}
end
end Go.Proofs.YtcdhfpkfmekabaaGreatDoor.Z
namespace Go.Proofs.YtcdhfpkfmekabaaGreatDoor.Z
open Go Go.AM
variable {N:Nat}
structure Asc (l:List D) (n:Int):Prop where
 lo:∀i:Int,0≤i→i<l.length→0≤by_ l i∧by_ l i≤n-1
 up:∀i j:Int,0≤i→i<j→j<l.length→by_ l i<by_ l j
theorem Asc.ge {l:List D} {n:Int} (h:Asc l n):∀i:Nat,i<l.length→(i:Int)≤by_ l i
 |0,hi=>(h.lo 0 (by omega) (by omega)).1
 |i+1,hi=>by
  have h1:=Asc.ge h i (by omega)
  have h2:=h.up i (i+1) (by omega) (by omega) (by omega)
  have:((i+1:Nat):Int)=(i:Int)+1:=by omega
  rw [this];omega
theorem Asc.len {l:List D} {n:Int} (h:Asc l n) (hn:0≤n):(l.length:Int)≤n:=by
 rcases Nat.eq_zero_or_pos l.length with h0|h0
 ·omega
 ·have h1:=h.ge (l.length-1) (by omega)
  have h2:=(h.lo ((l.length-1:Nat):Int) (by omega) (by omega)).2
  omega
end Go.Proofs.YtcdhfpkfmekabaaGreatDoor.Z
namespace Go.Proofs.YtcdhfpkfmekabaaGreatDoor.Z
open Go Go.AM
variable {N:Nat}
section
variable {l es:List D}
end
end Go.Proofs.YtcdhfpkfmekabaaGreatDoor.Z
namespace Go.Proofs.YtcdhfpkfmekabaaGreatDoor.Z
open Go Go.AM
variable {N:Nat}
section
variable {es:List D}
end
end Go.Proofs.YtcdhfpkfmekabaaGreatDoor.Z
namespace Go.Proofs.YtcdhfpkfmekabaaGreatDoor.Z
open Go Go.AM
variable {N:Nat}
def e2P (fs:List D):Prop:=∀f∈fs,0≤fT f∧fT f≤3∧1≤fS f∧fS f≤255∧(fT f≤1→fS f=1∨fS f=2∨fS f=4)
theorem d3J {g:Int} {fs:List D} (h:c9P g fs=0):e2P fs:=by
 unfold c9P at h;cases h1:inI g 0 65535 with
 |false=>rw [h1] at h;exact absurd (show (9:Int)=0 from h) (by decide)
 | true=>
  rw [h1] at h;cases h2:decide ((fs.length:Int)>30) with
  |true=>rw [h2] at h;exact absurd (show (3:Int)=0 from h) (by decide)
  | false=>
   rw [h2] at h;simp only [Bool.not_true,e6a] at h;intro f hf;obtain ⟨i,hi,rfl⟩:=List.getElem_of_mem hf;have:=a0I h i hi;rw [Int.zero_add] at this;unfold d9Q at this;have hg:fs.getD ((i:Int)).toNat (.i 0)=fs[i]:=by
    rw [e6d,Int.toNat_natCast,e6j hi];rfl
   rw [hg] at this;cases h0:inI (fN fs[i]) 0 255 with
   |false=>rw [h0] at this;exact absurd (show (9:Int)=0 from by simpa using this) (by decide)
   |true=>
   cases h3:inI (fS fs[i]) 1 255 with
   |false=>rw [h0,h3] at this;exact absurd (show (9:Int)=0 from by simpa using this) (by decide)
   |true=>
   cases h4:inI (fT fs[i]) 0 3 with
   |false=>rw [h0,h3,h4] at this;exact absurd (show (7:Int)=0 from by simpa using this) (by decide)
   |true=>
   rw [h0,h3,h4] at this;simp only [Bool.not_true,e6a,Bool.or_self] at this;cases h5:(decide (fT fs[i]≤1)&&(fS fs[i] !=1)&&(fS fs[i] !=2)&&(fS fs[i] !=4)) with
   |true=>rw [h5] at this;exact absurd (show (2:Int)=0 from by simpa using this) (by decide)
   |false=>
   unfold inI at h3 h4;simp only [e57,decide_eq_true_eq] at h3 h4;refine ⟨h4.1,h4.2,h3.1,h3.2,fun ht=> ?_⟩
   rw [decide_eq_true ht] at h5;simp only [Bool.true_and] at h5;by_cases a1:fS fs[i]=1
   ·exact .inl a1
   by_cases a2:fS fs[i]=2
   ·exact .inr (.inl a2)
   by_cases a3:fS fs[i]=4
   ·exact .inr (.inr a3)
   have:∀k:Int,fS fs[i]≠k→(fS fs[i] !=k)=true:=fun k hk=>by simpa using hk
   rw [this 1 a1,this 2 a2,this 4 a3] at h5;cases h5
def d94 (s:Int) (sg:Bool):Int:=bif sg then (bif s==1 then 127 else bif s==2 then 32767 else 2147483647) else (bif s==1 then 255 else bif s==2 then 65535 else 4294967295)
def pwV (s:Int):Int:=bif s==1 then 256 else bif s==2 then 65536 else 4294967296
abbrev Sz (s:Int):Prop:=s=1∨s=2∨s=4
theorem c9v {s:Int} (h:Sz s) (sg:Bool):b9M N s sg=some (d94 s sg):=by
 rcases h with rfl|rfl|rfl<;>cases sg<;>kernel_rfl
def e5t (l:List UInt8):List UInt8:=bif decide (Lib.indexByte l 0≥0) then l.take (Lib.indexByte l 0).toNat else l
def e4X (s t:Int) (b:List D) (big:Bool):Int×List UInt8×Bool:=
 bif t==3 then (0,c9X b,false) else bif t==2 then (0,e5t (c9X b),e5t (c9X b)==[]) else
 bif c4o b big==d94 s (t==1) then (0,[],true) else (bif (t==1)&&decide (c4o b big>d94 s true) then c4o b big-pwV s else c4o b big,[],false)
def e5S (f:D) (a:Int) (data:List D) (big:Bool):D:=
 .a [.i (fN f),.i (fT f),.i (e4X (fS f) (fT f) ((data.take (a+fS f).toNat).drop a.toNat) big).1,.s (e4X (fS f) (fT f) ((data.take (a+fS f).toNat).drop a.toNat) big).2.1,.b (e4X (fS f) (fT f) ((data.take (a+fS f).toNat).drop a.toNat) big).2.2]
def d95 (data:List D) (big:Bool):Bool→Int→List D→List D
 |_,_,[]=>[]
 |t,a,f::r=>bif t&&isT f then d95 data big false a r else e5S f a data big::d95 data big t (a+fS f) r
section
variable {fs:List D}
end
section
variable {fs data:List D} {big:Bool}
end
end Go.Proofs.YtcdhfpkfmekabaaGreatDoor.Z
namespace Go.Proofs.YtcdhfpkfmekabaaGreatDoor.Z
open Go Go.AM
variable {N:Nat}
def isV (f t:Int) (v:D):Bool:=bif (bif (v.cell 0).toI==f then (v.cell 1).toI==t else false) then !(v.cell 4).toB else false
def isX (f:Int) (v:D):Bool:=bif (v.cell 0).toI==f then (v.cell 1).toI==2 else false
def c9R (f t:Int) (vs:List D):Int×Bool:=match vs.find? (isV f t) with|some v=>((v.cell 2).toI,true)|none=>(0,false)
def e4Y (f:Int) (vs:List D):List UInt8:=match vs.find? (isX f) with|some v=>(v.cell 3).toS|none=>[]
section
variable {vs:List D}
def knV (f:Int) (vs:List D):Int:=bif (c9R f 0 vs).2 then (c9R f 0 vs).1 else-1
end
def OkT (a:Ab):Prop:=∀j,a.kn j=true→e2P (a.fs j)
theorem OkT.step {a:Ab} (h:OkT a) {x:D} (hx:c4q a x=0):OkT (a6T a x):=by
 unfold a6T c5T;cases hk:kX x==1 with
 |true=>
  have hE:=b8a hx;have hf:=d3J (hE.d (by simpa using hk)).2
  intro j hj;simp only [e59,upA] at hj⊢;by_cases e:j=(sX x).toNat
  ·simp only [if_pos e];exact hf
  ·simp only [if_neg e] at hj⊢;exact h j hj
 |false=>exact h
theorem OkT.start:OkT Ab.start:=fun j hj=>by simp [Ab.start] at hj
def e4Z (a:Ab) (x:D):List D:=d95 (bX x) (a.bg (sX x).toNat) (kX x==3) 0 (a.fs (sX x).toNat)
abbrev Tri:Type:=Int×Int×List D
def c0v:Ab→List D→List Tri
 |_,[]=>[]
 |a,x::r=>bif kX x==1 then c0v (a6T a x) r else (a.gl (sX x).toNat,c5U a x,e4Z a x)::c0v (a6T a x) r
section
variable {es:List D}
end
end Go.Proofs.YtcdhfpkfmekabaaGreatDoor.Z
namespace Go.Proofs.YtcdhfpkfmekabaaGreatDoor.Z
open Go Go.AM
variable {N:Nat}
def b8c (slot g:Int) (fs:List D) (big:Bool):D:= .a [.i 1,.i slot,.i 0,.l false [.a [.b big,.i g,.l false fs]],.l true []]
def c0D (slot:Int) (b:List D):D:= .a [.i 2,.i slot,.i 0,.l true [],.l false b]
def e5u (off:Int) (b:List D):D:= .a [.i 3,.i 1,.i off,.l true [],.l false b]
abbrev tF:D:= .a [.i 253,.i 4,.i 0]
def txB (s:List UInt8):List D:=a0T s++List.replicate (60-s.length) (.i 0)
def nm2 (v:Int):Int:=bif decide (v<0) then 65535 else v
abbrev fs0:List D:=[tF,.a [.i 1,.i 60,.i 2],.a [.i 2,.i 1,.i 0]]
abbrev fs3:List D:=[.a [.i 1,.i 60,.i 2]]
abbrev fs2:List D:=[tF,.a [.i 1,.i 4,.i 0],.a [.i 2,.i 60,.i 2]]
abbrev fs1:List D:=[tF,.a [.i 0,.i 4,.i 1],.a [.i 1,.i 4,.i 1],.a [.i 2,.i 4,.i 1],.a [.i 3,.i 2,.i 0],.a [.i 4,.i 2,.i 0],.a [.i 5,.i 2,.i 0]]
def tmA (st:Int) (x:D):Int:=IntKind.wrap .i64 (st+(x.cell 0).toI)
def tmB (st:Int) (x:D):Int:=IntKind.wrap .i64 (st+(x.cell 1).toI)
def c4v (big:Bool) (s:D):List D:=nb4 (s.cell 1).toI big++(nb4 (s.cell 2).toI big++(nb4 (s.cell 3).toI big++(nb2 (nm2 (s.cell 4).toI) big++(nb2 (nm2 (s.cell 5).toI) big++nb2 (nm2 (s.cell 6).toI) big))))
def d3K (big:Bool) (st:Int) (l:D):List D:=nb4 (tmA st l) big++(nb4 (tmB st l) big++txB (l.cell 2).toS)
def b5X:Option Int→D→Bool
 |none,_=>false
 |some p,s=>decide (IntKind.wrap .i64 ((s.cell 0).toI-p)<32)
def e3u (W big:Bool) (st:Int) (prev:Option Int) (s:D):D:=bif !W&&b5X prev s then e5u ((tmA st s).tmod 32) (c4v big s) else c0D 1 (nb4 (tmA st s) big++c4v big s)
def b0Z (W big:Bool) (st:Int):Option Int→List D→List D
 |_,[]=>[]
 |prev,s::r=>e3u W big st prev s::b0Z W big st (some (s.cell 0).toI) r
def ifE (xs:List D) (d:D):List D:=bif decide ((xs.length:Int)>0) then [d] else []
def e2Q (W:Bool) (name:List UInt8) (sport st:Int) (ss ls ts:List D) (big:Bool):List D:=
 [b8c 0 0 fs0 big,c0D 0 (nb4 st big++(txB name++nb1 sport))]++ifE ts (b8c 3 30 fs3 big)++ts.map (fun t=>c0D 3 (txB t.toS))++ifE ls (b8c 2 19 fs2 big)++ls.map (fun l=>c0D 2 (d3K big st l))++ifE ss (b8c 1 20 fs1 big)++b0Z W big st none ss
def b4S:List D→List D
 | []=>[]
 |p::r=>p.items++b4S r
section
variable {ps acc:List D} {slot:Int}
theorem d4X (h:acc.length≤100000):(decide ((acc.length+1)*72≤a0X)&&decide (acc.length+1≤a0c))=true:=by
 rw [decide_eq_true (by unfold a0X;omega),decide_eq_true (by unfold a0c;omega)];rfl
theorem c5Y (hN:maxLen<N) (hl:ps.length≤20) (hp:∀p∈ps,p.items.length≤100):c8j N ps ps.length 0 true []=some ((b4S ps).isEmpty,b4S ps):=by
 have hm:maxLen=9223372036854775807:=rfl;have key:=a5P (A:=Int×Bool×LD) (X:=Option (Bool×LD)) (S:=fun x kr=>b4k N ps ps.length x.1 x.2.1 x.2.2 (fun a b c=>kr (a,b,c)) (fun p=>some p)) (L:=fun m x=>b7v N ps ps.length m x.1 x.2.1 x.2.2 (fun p=>some p)) (fun m x=>rfl)
  (fun x=>some ((x.2.2++b4S (ps.drop x.1.toNat)).isEmpty,x.2.2++b4S (ps.drop x.1.toNat))) (fun x=>0≤x.1∧x.1≤ps.length∧x.2.1=x.2.2.isEmpty∧(x.2.2.length:Int)≤100*x.1) (fun x=>(ps.length-x.1).toNat) ?_ N (0,true,[]) ⟨by show (0:Int)≤0;omega,by show (0:Int)≤_;omega,rfl,by simp⟩ (by simp;omega)
 ·exact Eq.trans key (by simp)
 ·rintro ⟨w,b,l⟩ kr ⟨h0,h1,h2,h3⟩ ih
  simp only at h0 h1 h2 h3 ih⊢;unfold b4k;by_cases hw:w<ps.length
  ·have hx:=hp _ (a1u (fs:=ps) h0 hw)
   rw [decide_eq_true hw,a0D h0 hw,a2I (.i 0) h0 hw];have r1:decide ((l.length+(ps.getD w.toNat (.i 0)).items.length)*1≤a0X)=true:=decide_eq_true (by unfold a0X;omega)
   have r2:decide (l.length+(ps.getD w.toNat (.i 0)).items.length≤a0c)=true:=decide_eq_true (by unfold a0c;omega)
   simp only [e59,r1,r2,Bool.and_self,a0u (x:=w+1) (by omega) (by omega),b4S]
   rw [ih (w+1,(ps.getD w.toNat (.i 0)).items.isEmpty&&b,l++(ps.getD w.toNat (.i 0)).items) ⟨by simp only;omega,by simp only;omega,by show _=(l++_).isEmpty;rw [h2];cases l<;>cases (ps.getD w.toNat (.i 0)).items<;>rfl,by simp only [e6l];omega⟩ (by simp only;omega)]
   simp
  ·have:w=ps.length:=by omega
   subst this;rw [decide_eq_false hw,a2f (by omega)]
   simp [b4S,h2]
theorem c0w (hN:maxLen<N) (hl:ps.length≤20) (hp:∀p∈ps,p.items.length≤100) (hne:(b4S ps).isEmpty=false) (ha:acc.length≤100000):b9N N slot ps acc=some (acc++[c0D slot (b4S ps)]):=by
 unfold b9N d2a;simp only [a0b];rw [c5Y hN hl hp,hne,d4X ha];rfl
theorem c9w {g:Int} {fs:List D} {big:Bool} (ha:acc.length≤100000):c5w N slot g false fs big acc=some (acc++[b8c slot g fs big]):=by
 unfold c5w d2b;rw [d4X ha];rfl
end
section
variable {big:Bool}
theorem b8d (hN:maxLen<N) {v:Int} (h:0≤v):a5o N v 4 false big=some (nb4 v big):=by
 unfold a5o c1E b4j a8t;rw [decide_eq_false (show¬v<0 by omega)]
 simp only [a0b,e6a,e6e,getD_some,e59];rw [d9Y hN];rfl
theorem d3L (hN:maxLen<N) (v:Int):a5o N v 4 true big=some (nb4 v big):=by
 unfold a5o c1E b4j a8t;have e:(bif decide (v<0) then !true else false)=false:=by cases decide (v<0)<;>rfl
 rw [e];simp only [a0b,e6a,e6e,getD_some,e59];rw [d9Y hN];rfl
theorem c15 (hN:maxLen<N) {v:Int} (h: -1≤v):a5o N v 2 false big=some (nb2 (nm2 v) big):=by
 unfold a5o c1E b4j a8t nm2;by_cases hv:v<0
 ·have:v= -1:=by omega
  subst this;rw [c9v (.inr (.inl rfl))];simp only [a0b];show (bif (b7u N 65535 2 big).isSome then some ((b7u N 65535 2 big).getD default) else none)=_
  rw [d9X hN];rfl
 ·rw [decide_eq_false hv]
  simp only [a0b,e6a,e6e,getD_some,e59];rw [d9X hN];rfl
theorem d96 (hN:maxLen<N) {v:Int} (h:0≤v):a5o N v 1 false big=some (nb1 v):=by
 unfold a5o c1E b4j a8t;rw [decide_eq_false (show¬v<0 by omega)]
 simp only [a0b,e6a,e6e,getD_some,e59];rw [e4V hN];rfl
theorem b00 (s:List UInt8):(a0T s).length=s.length:=by simp [a0T]
theorem a8C {s:List UInt8} (h:s.length≤60):(txB s).length=60:=by
 unfold txB;simp [b00];omega
theorem c16 {s:List UInt8} (h:s.length≤60):d19 N s=txB s:=by
 show (a0T s).take 60++(List.replicate 60 (D.i 0)).drop (a0T s).length=txB s;rw [List.take_of_length_le (by rw [b00];exact h),List.drop_replicate,b00]
 rfl
end
structure e5v (st:Int) (s:D):Prop where
 t:0≤tmA st s
 p: -1≤(s.cell 4).toI
 w: -1≤(s.cell 5).toI
 k: -1≤(s.cell 6).toI
structure e5w (st:Int) (l:D):Prop where
 f:0≤tmA st l
 t:0≤tmB st l
 n:(l.cell 2).toS.length≤60
section
variable {ss ls ts acc:List D} {st:Int} {big:Bool}
theorem nbp (v:Int):(D.l false (nb4 v big)).items.length≤100:=by show (nb4 v big).length≤100;rw [a2v];omega
theorem nbq (v:Int):(D.l false (nb2 v big)).items.length≤100:=by show (nb2 v big).length≤100;rw [a8A];omega
theorem txp {s:List UInt8} (h:s.length≤60):(D.l false (txB s)).items.length≤100:=by show (txB s).length≤100;rw [a8C h];omega
theorem a6U {l:List D} {n:Nat} (h:l.length=n+1):l.isEmpty=false:=by cases l with|nil=>simp at h|cons=>rfl
theorem c9x (hN:maxLen<N) (hl:ts.length≤20000) (ht:∀x∈ts,x.toS.length≤60):∀(m:Nat) (i:Int) (b:Bool) (acc:List D),0≤i→i≤ts.length→(ts.length-i).toNat<m→(acc.length:Int)≤100+i→
  (∃b',a9K N ts ts.length m i b acc (fun p=>some p)=some (b',acc++(ts.drop i.toNat).map (fun t=>c0D 3 (txB t.toS)))):=by
 have hm:maxLen=9223372036854775807:=rfl;intro m;induction m with
 |zero=>intro i b acc _ _ h;omega
 | succ m ih=>
  intro i b acc h0 h1 hmm ha;unfold a9K b2G;by_cases hi:i<ts.length
  ·have hx:=ht _ (a1u (fs:=ts) h0 hi)
   have t1:=c16 (N:=N) hx;have e:b4S [.l false (txB (ts.getD i.toNat (.i 0)).toS)]=txB (ts.getD i.toNat (.i 0)).toS:=by simp only [b4S,D.items,List.append_nil]
   have q1:=c0w (N:=N) (slot:=3) (acc:=acc) (ps:=[.l false (txB (ts.getD i.toNat (.i 0)).toS)]) hN (by simp) (by simp only [List.mem_singleton,forall_eq];exact txp hx) (a6U (n:=59) (by rw [e];exact a8C hx)) (by omega)
   rw [e] at q1;rw [decide_eq_true hi,a0D h0 hi,a2I (.i 0) h0 hi,t1];simp only [e59,a0b,e6e,getD_some,q1,a0u (x:=i+1) (by omega) (by omega)]
   obtain ⟨c1,z1⟩:=ih (i+1) false (acc++[c0D 3 (txB (ts.getD i.toNat (.i 0)).toS)]) (by omega) (by omega) (by omega) (by simp;omega)
   exact ⟨c1,z1.trans (by simp)⟩
  ·have:i=ts.length:=by omega
   subst this;rw [decide_eq_false hi,a2f (by omega)]
   exact ⟨b,by simp⟩
theorem c9y (hN:maxLen<N) (hl:ls.length≤20000) (ht:∀x∈ls,e5w st x):∀(m:Nat) (i:Int) (b:Bool) (acc:List D),0≤i→i≤ls.length→(ls.length-i).toNat<m→(acc.length:Int)≤30000+i→
  (∃b',a9L N ls ls.length st big m i b acc (fun p=>some p)=some (b',acc++(ls.drop i.toNat).map (fun l=>c0D 2 (d3K big st l)))):=by
 have hm:maxLen=9223372036854775807:=rfl;intro m;induction m with
 |zero=>intro i b acc _ _ h;omega
 | succ m ih=>
  intro i b acc h0 h1 hmm ha;unfold a9L b2K;by_cases hi:i<ls.length
  ·have hx:=ht _ (a1u (fs:=ls) h0 hi)
   have t1:=c16 (N:=N) hx.n;have n1:=b8d (N:=N) (big:=big) hN hx.f;have n3:=b8d (N:=N) (big:=big) hN hx.t;unfold tmA at n1;unfold tmB at n3;have e:b4S [.l false (nb4 (tmA st (ls.getD i.toNat (.i 0))) big),.l false (nb4 (tmB st (ls.getD i.toNat (.i 0))) big),.l false (txB ((ls.getD i.toNat (.i 0)).cell 2).toS)]=d3K big st (ls.getD i.toNat (.i 0)):=by simp only [b4S,D.items,d3K,List.append_nil]
   have q1:=c0w (N:=N) (slot:=2) (acc:=acc) (ps:=[.l false (nb4 (tmA st (ls.getD i.toNat (.i 0))) big),.l false (nb4 (tmB st (ls.getD i.toNat (.i 0))) big),.l false (txB ((ls.getD i.toNat (.i 0)).cell 2).toS)]) hN (by simp) (by
    intro p hp;simp only [e6k,List.not_mem_nil,or_false] at hp;rcases hp with rfl|rfl|rfl
    ·exact nbp _
    ·exact nbp _
    ·exact txp hx.n) (a6U (n:=67) (by rw [e];unfold d3K;simp only [e6l,a2v];rw [a8C hx.n])) (by omega)
   rw [e] at q1;unfold tmA tmB at q1;rw [decide_eq_true hi,a0D h0 hi,a2I (.i 0) h0 hi];simp only [e59,a0b,n1,n3,t1,e6e,getD_some,q1,a0u (x:=i+1) (by omega) (by omega)]
   obtain ⟨c1,z1⟩:=ih (i+1) false (acc++[c0D 2 (d3K big st (ls.getD i.toNat (.i 0)))]) (by omega) (by omega) (by omega) (by simp;omega)
   exact ⟨c1,z1.trans (by simp)⟩
  ·have:i=ls.length:=by omega
   subst this;rw [decide_eq_false hi,a2f (by omega)]
   exact ⟨b,by simp⟩
theorem d97 {x y:D}:(acc++[x]).set acc.length y=acc++[y]:=by simp
theorem d98 {x:D}:(acc++[x]).getD acc.length (.i 0)=x:=by simp
theorem d99 {x:D} (ha:acc.length≤100000):IntKind.wrap .i64 (((acc++[x]).length:Int)-1)=(acc.length:Int):=by
 rw [e6l];simp only [e6m,List.length_nil];rw [a0u (by omega) (by omega)];omega
theorem d3M (hN:maxLen<N) {s:D} (sh:Bool) (ha:acc.length≤100000):
  a5Z N (tmA st s) sh [.l false (nb4 (tmA st s) big),.l false (nb4 (s.cell 1).toI big),.l false (nb4 (s.cell 2).toI big),.l false (nb4 (s.cell 3).toI big),.l false (nb2 (nm2 (s.cell 4).toI) big),.l false (nb2 (nm2 (s.cell 5).toI) big),.l false (nb2 (nm2 (s.cell 6).toI) big)] acc
   =some (bif sh then .inl (acc++[e5u ((tmA st s).tmod 32) (c4v big s)]) else .inr (acc++[c0D 1 (nb4 (tmA st s) big++c4v big s)])):=by
 have hlen:(c4v big s).length=18:=by unfold c4v;simp [a2v,a8A]
 unfold a5Z a5Y;cases sh with
 |true=>
  have q1:=c0w (N:=N) (slot:=1) (acc:=acc) (ps:=[.l false (nb4 (s.cell 1).toI big),.l false (nb4 (s.cell 2).toI big),.l false (nb4 (s.cell 3).toI big),.l false (nb2 (nm2 (s.cell 4).toI) big),.l false (nb2 (nm2 (s.cell 5).toI) big),.l false (nb2 (nm2 (s.cell 6).toI) big)]) hN (by simp) (by
    intro p hp;simp only [e6k,List.not_mem_nil,or_false] at hp;rcases hp with rfl|rfl|rfl|rfl|rfl|rfl<;>first|exact nbp _|exact nbq _) (a6U (n:=17) (by simp [b4S,D.items,a8A,a2v])) ha
  have e:b4S [.l false (nb4 (s.cell 1).toI big),.l false (nb4 (s.cell 2).toI big),.l false (nb4 (s.cell 3).toI big),.l false (nb2 (nm2 (s.cell 4).toI) big),.l false (nb2 (nm2 (s.cell 5).toI) big),.l false (nb2 (nm2 (s.cell 6).toI) big)]=c4v big s:=by simp [b4S,D.items,c4v]
  rw [e] at q1;simp only [e6m,List.length_nil,e59,a0b];rw [show decide ((1:Int)≤((0+1+1+1+1+1+1+1:Nat):Int))=true from rfl,show decide (((0+1+1+1+1+1+1+1:Nat):Int)≤((0+1+1+1+1+1+1+1:Nat):Int))=true from rfl];simp only [Bool.and_self,e59]
  have e2:(List.take ((0+1+1+1+1+1+1+1:Nat):Int).toNat [.l false (nb4 (tmA st s) big),.l false (nb4 (s.cell 1).toI big),.l false (nb4 (s.cell 2).toI big),.l false (nb4 (s.cell 3).toI big),.l false (nb2 (nm2 (s.cell 4).toI) big),.l false (nb2 (nm2 (s.cell 5).toI) big),.l false (nb2 (nm2 (s.cell 6).toI) big)]).drop 1=[D.l false (nb4 (s.cell 1).toI big),.l false (nb4 (s.cell 2).toI big),.l false (nb4 (s.cell 3).toI big),.l false (nb2 (nm2 (s.cell 4).toI) big),.l false (nb2 (nm2 (s.cell 5).toI) big),.l false (nb2 (nm2 (s.cell 6).toI) big)]:=rfl;rw [e2,q1]
  simp only [e6e,getD_some,e59,d99 ha,Int.toNat_natCast,d98,d97];rw [a0D (by omega) (by rw [e6l];simp;omega),decide_eq_true (by simp),decide_eq_true (by simp)]
  rfl
 |false=>
  have q1:=c0w (N:=N) (slot:=1) (acc:=acc) (ps:=[.l false (nb4 (tmA st s) big),.l false (nb4 (s.cell 1).toI big),.l false (nb4 (s.cell 2).toI big),.l false (nb4 (s.cell 3).toI big),.l false (nb2 (nm2 (s.cell 4).toI) big),.l false (nb2 (nm2 (s.cell 5).toI) big),.l false (nb2 (nm2 (s.cell 6).toI) big)]) hN (by simp) (by
    intro p hp;simp only [e6k,List.not_mem_nil,or_false] at hp;rcases hp with rfl|rfl|rfl|rfl|rfl|rfl|rfl<;>first|exact nbp _|exact nbq _) (a6U (n:=21) (by simp [b4S,D.items,a8A,a2v])) ha
  have e:b4S [.l false (nb4 (tmA st s) big),.l false (nb4 (s.cell 1).toI big),.l false (nb4 (s.cell 2).toI big),.l false (nb4 (s.cell 3).toI big),.l false (nb2 (nm2 (s.cell 4).toI) big),.l false (nb2 (nm2 (s.cell 5).toI) big),.l false (nb2 (nm2 (s.cell 6).toI) big)]=nb4 (tmA st s) big++c4v big s:=by simp [b4S,D.items,c4v]
  rw [e] at q1;rw [q1];rfl
def b0b (ss:List D) (i:Int):Option Int:=bif decide (i>0) then some (((ss.getD (i-1).toNat (.i 0)).cell 0).toI) else none
theorem c9z (hN:maxLen<N) (hl:ss.length≤20000) (ht:∀x∈ss,e5v st x):∀(m:Nat) (i:Int) (b:Bool) (acc:List D),0≤i→i≤ss.length→(ss.length-i).toNat<m→(acc.length:Int)≤60000+i→
  (∃b',a9J N ss ss.length big st ss m i b acc (fun p=>some p)=some (b',acc++b0Z false big st (b0b ss i) (ss.drop i.toNat))):=by
 have hm:maxLen=9223372036854775807:=rfl;intro m;induction m with
 |zero=>intro i b acc _ _ h;omega
 | succ m ih=>
  intro i b acc h0 h1 hmm ha;unfold a9J b2E;by_cases hi:i<ss.length
  ·have hx:=ht _ (a1u (fs:=ss) h0 hi)
   have n1:=b8d (N:=N) (big:=big) hN hx.t;have n1':a5o N (IntKind.wrap .i64 (st+((ss.getD i.toNat (.i 0)).cell 0).toI)) 4 false big=some (nb4 (tmA st (ss.getD i.toNat (.i 0))) big):=n1;have p1:=c15 (N:=N) (big:=big) hN hx.p;have p3:=c15 (N:=N) (big:=big) hN hx.w;have p5:=c15 (N:=N) (big:=big) hN hx.k;have hshort:b7w N i ss ((ss.getD i.toNat (.i 0)).cell 0).toI=some (b5X (b0b ss i) (ss.getD i.toNat (.i 0))):=by
    unfold b7w b2D b0b;by_cases hp:i>0
    ·rw [decide_eq_true hp,a0u (x:=i-1) (by omega) (by omega),a0D (by omega) (by omega)]
     rfl
    ·rw [decide_eq_false hp]
     rfl
   have s1:=d3M (N:=N) (st:=st) (big:=big) (s:=ss.getD i.toNat (.i 0)) (acc:=acc) hN (b5X (b0b ss i) (ss.getD i.toNat (.i 0))) (by omega)
   have s1':a5Z N (IntKind.wrap .i64 (st+((ss.getD i.toNat (.i 0)).cell 0).toI)) (b5X (b0b ss i) (ss.getD i.toNat (.i 0))) _ acc=_:=s1;have hpn:b0b ss (i+1)=some ((ss.getD i.toNat (.i 0)).cell 0).toI:=by
    unfold b0b;rw [decide_eq_true (by omega),show i+1-1=i by omega];rfl
   obtain ⟨c1,z1⟩:=ih (i+1) false (acc++[e3u false big st (b0b ss i) (ss.getD i.toNat (.i 0))]) (by omega) (by omega) (by omega) (by simp;omega)
   rw [hpn] at z1;rw [decide_eq_true hi,a0D h0 hi,a2I (.i 0) h0 hi];simp only [e59,a0b,n1',d3L hN,p1,p3,p5,e6e,getD_some,hshort,s1',a0u (x:=i+1) (by omega) (by omega),b0Z]
   refine ⟨c1,Eq.trans ?_ (z1.trans (by simp))⟩
   unfold e3u;cases b5X (b0b ss i) (ss.getD i.toNat (.i 0))<;>rfl
  ·have:i=ss.length:=by omega
   subst this;rw [decide_eq_false hi,a2f (by omega)]
   exact ⟨b,by simp [b0Z]⟩
end
end Go.Proofs.YtcdhfpkfmekabaaGreatDoor.Z
namespace Go.Proofs.YtcdhfpkfmekabaaGreatDoor.Z
open Go Go.AM
variable {N:Nat}
structure e2R (name:List UInt8) (sport st:Int) (ss ls ts:List D):Prop where
 n:name.length≤60
 sp:0≤sport
 b0:0≤st
 b1:st≤4294967294
 s:ss.length≤20000
 l:ls.length≤200
 t:ts.length≤20
 sa:∀x∈ss,e5v st x
 la:∀x∈ls,e5w st x
 ta:∀x∈ts,x.toS.length≤60
section
variable {name:List UInt8} {sport st:Int} {ss ls ts:List D} {big:Bool}
def e5x (q:Bool) (a b:List D):List D:=bif q then a else b
theorem fileOf_prog (hN:maxLen<N) (h:e2R name sport st ss ls ts) (ha:ActOk name ss ls ts) (hc:chkA name sport st ss ls ts=0) (hw:¬IntKind.wrap .i64 (st+spanD ss)>4294967294):
  ∃b,b4l N name sport st ss ls ts big=some (.inr (.inl (b,e2Q false name sport st ss ls ts big)))∨b4l N name sport st ss ls ts big=some (.inr (.inr (b,e2Q false name sport st ss ls ts big))):=by
 have hm:maxLen=9223372036854775807:=rfl;have hsl:=h.s;have hll:=h.l;have htl:=h.t;have k38:∀q (acc:List D),acc.length≤100000→b7x N q big acc=some (bif q then .inl (acc++[b8c 3 30 fs3 big]) else .inr ()):=fun q acc hacc=>by
  unfold b7x b2F;rw [(c9w (N:=N) (slot:=3) (g:=30) (fs:=fs3) (big:=big) hacc)];cases q<;>rfl
 have k59:∀q (acc:List D),acc.length≤100000→b2J N q 253 4 0 big acc=some (bif q then .inl (acc++[b8c 2 19 fs2 big]) else .inr ()):=fun q acc hacc=>by
  unfold b2J b2I;rw [(c9w (N:=N) (slot:=2) (g:=19) (fs:=fs2) (big:=big) hacc)];cases q<;>rfl
 have kt:∀b (acc:List D),acc.length≤100→(∃b',b2H N ts ts.length 0 b acc=some (b',acc++ts.map (fun t=>c0D 3 (txB t.toS)))):=fun b acc hacc=>
  c9x (N:=N) hN (by omega) h.ta N 0 b acc (by omega) (by omega) (by omega) (by omega)
 have kl:∀b (acc:List D),acc.length≤30000→(∃b',a7B N ls ls.length st big 0 b acc=some (b',acc++ls.map (fun l=>c0D 2 (d3K big st l)))):=fun b acc hacc=>
  c9y (N:=N) hN (by omega) h.la N 0 b acc (by omega) (by omega) (by omega) (by omega)
 have ks:∀b (acc:List D),acc.length≤60000→(∃b',c3B N ss ss.length big st ss 0 b acc=some (b',acc++b0Z false big st none ss)):=fun b acc hacc=>
  c9z (N:=N) hN (by omega) h.sa N 0 b acc (by omega) (by omega) (by omega) (by omega)
 have r24:∀n:Nat,n≤20→(decide ((n+1)*24≤a0X)&&decide (n+1≤a0c))=true:=fun n hn=>by
  rw [decide_eq_true (by unfold a0X;omega),decide_eq_true (by unfold a0c;omega)];rfl
 have k76:∀(acc:List D),acc.length≤50000→ ∃b',a51 N st ss 253 4 0 big acc=some (bif decide ((ss.length:Int)>0) then .inr (b',acc++[b8c 1 20 fs1 big]++b0Z false big st none ss) else .inl ()):=fun acc hacc=>by
  obtain ⟨b',e⟩:=ks false (acc++[b8c 1 20 fs1 big]) (by simp;omega)
  refine ⟨b',?_⟩;unfold a51 b2L e1Y d2d;by_cases hs:ss.length>0
  ·have e0:((ss.length:Int)==0)=false:=by rw [beq_eq_false_iff_ne];omega
   rw [e0,decide_eq_true (show (ss.length:Int)>0 by omega)]
   have e1:=(c9w (N:=N) (slot:=1) (g:=20) (fs:=fs1) (big:=big) (acc:=acc) (by omega))
   have e1':c5w N 1 20 false (((([(.a [(.i 253),(.i 4),(.i 0)]),(.a [(.i 0),(.i 4),(.i 1)])]++[(.a [(.i 1),(.i 4),(.i 1)])])++[(.a [(.i 2),(.i 4),(.i 1)])]++[(.a [(.i 3),(.i 2),(.i 0)])])++[(.a [(.i 4),(.i 2),(.i 0)])])++[(.a [(.i 5),(.i 2),(.i 0)])]) big acc=some (acc++[b8c 1 20 fs1 big]):=e1
   simp only [e59,e6a,a0b,e6l,e6m,List.length_nil,r24 (0+1+1) (by decide),r24 (0+1+1+(0+1)) (by decide),r24 (0+1+1+(0+1)+(0+1)) (by decide),r24 (0+1+1+(0+1)+(0+1)+(0+1)) (by decide),r24 (0+1+1+(0+1)+(0+1)+(0+1)+(0+1)) (by decide),e1',e6e,getD_some,e,a0q,a0r]
  ·have e0:((ss.length:Int)==0)=true:=by rw [beq_iff_eq];omega
   rw [e0,decide_eq_false (show¬(ss.length:Int)>0 by omega)]
   rfl
 obtain ⟨b1,e1⟩:∃b':Bool→(acc:List D)→acc.length≤100→Bool,∀b acc hacc,b2H N ts ts.length 0 b acc=some (b' b acc hacc,acc++ts.map (fun t=>c0D 3 (txB t.toS))):=⟨fun b acc hacc=>(kt b acc hacc).choose,fun b acc hacc=>(kt b acc hacc).choose_spec⟩
 obtain ⟨b2,e2⟩:∃b':Bool→(acc:List D)→acc.length≤30000→Bool,∀b acc hacc,a7B N ls ls.length st big 0 b acc=some (b' b acc hacc,acc++ls.map (fun l=>c0D 2 (d3K big st l))):=⟨fun b acc hacc=>(kl b acc hacc).choose,fun b acc hacc=>(kl b acc hacc).choose_spec⟩
 obtain ⟨b3,e3⟩:∃b':(acc:List D)→acc.length≤50000→Bool,∀acc hacc,a51 N st ss 253 4 0 big acc=some (bif decide ((ss.length:Int)>0) then .inr (b' acc hacc,acc++[b8c 1 20 fs1 big]++b0Z false big st none ss) else .inl ()):=⟨fun acc hacc=>(k76 acc hacc).choose,fun acc hacc=>(k76 acc hacc).choose_spec⟩
 have x1:=b8d (N:=N) (big:=big) hN h.b0;have x3:=d96 (N:=N) (big:=big) hN h.sp;have x5:=c16 (N:=N) h.n;have hdd:decide (IntKind.wrap .i64 (st+spanD ss)>4294967294)=false:=decide_eq_false hw;have p1:=c0w (N:=N) (slot:=0) (acc:=[b8c 0 0 fs0 big]) (ps:=[.l false (nb4 st big),.l false (txB name),.l false (nb1 sport)]) hN (by simp) (by
  intro p hp;simp only [e6k,List.not_mem_nil,or_false] at hp;rcases hp with rfl|rfl|rfl
  ·exact nbp _
  ·exact txp h.n
  ·show 1≤100;omega) (a6U (n:=64) (by simp only [b4S,D.items,e6l,a2v];rw [a8C h.n];rfl)) (by simp)
 have ec:b4S [.l false (nb4 st big),.l false (txB name),.l false (nb1 sport)]=nb4 st big++(txB name++nb1 sport):=by simp only [b4S,D.items,List.append_nil]
 rw [ec] at p1;have hnil:ss.length>0∨b0Z false big st none ss=[]:=by
  cases ss with
  |nil=>exact .inr rfl
  |cons=>left;simp
 have len1:∀q1:Bool,(e5x q1 ([b8c 0 0 fs0 big]++[c0D 0 (nb4 st big++(txB name++nb1 sport))]++[b8c 3 30 fs3 big]) ([b8c 0 0 fs0 big]++[c0D 0 (nb4 st big++(txB name++nb1 sport))])).length≤3:=fun q1=>by cases q1<;>simp [e5x]
 unfold b4l c5x e2Q ifE;rw [G37x0_eq hN ha,hc,G29x0_eq ha.s];dsimp only [a0b,Option.isSome_some,getD_some,_root_.cond_true]
 rw [hdd,x1,x3,x5];rw [show ((0:Int) !=0)=false from rfl];dsimp only [Option.isSome_some,getD_some,_root_.cond_true,_root_.cond_false]
 have p1':b9N N 0 [.l false (nb4 st big),.l false (txB name),.l false (nb1 sport)] (e1U N 0 0 false fs0 big)=_:=p1;rw [p1'];dsimp only [Option.isSome_some,getD_some,_root_.cond_true,_root_.cond_false]
 have hq3:decide ((ss.length:Int)>0)=false→b0Z false big st none ss=[]:=fun hh=>by
  rcases hnil with hn|hn
  ·simp at hh;simp [hh] at hn
  ·exact hn
 generalize decide ((ts.length:Int)>0)=q1;generalize decide ((ls.length:Int)>0)=q2;generalize decide ((ss.length:Int)>0)=q3 at e3 hq3;rw [k38 q1 _ (by simp)]
 cases q1<;>cases q2<;>cases q3<;>dsimp only [a0H,a0M,a0q,a0r,Option.isSome_some,getD_some,_root_.cond_true,_root_.cond_false];all_goals
  rw [e1 _ _ (by simp)]
  dsimp only [a0H,a0M,a0q,a0r,Option.isSome_some,getD_some,_root_.cond_true,_root_.cond_false]
  rw [k59 _ _ (by simp;omega)]
  dsimp only [a0H,a0M,a0q,a0r,Option.isSome_some,getD_some,_root_.cond_true,_root_.cond_false]
  rw [e2 _ _ (by simp;omega)]
  dsimp only [a0H,a0M,a0q,a0r,Option.isSome_some,getD_some,_root_.cond_true,_root_.cond_false]
  rw [e3 _ (by simp;omega)]
  dsimp only [a0H,a0M,a0q,a0r,Option.isSome_some,getD_some,_root_.cond_true,_root_.cond_false]
  first
  |(refine ⟨_,.inl (congrArg some (congrArg Sum.inr (congrArg Sum.inl (Prod.ext rfl ?_))))⟩;first|(rw [hq3 rfl];simp)|simp)
  |(refine ⟨_,.inr (congrArg some (congrArg Sum.inr (congrArg Sum.inr (Prod.ext rfl ?_))))⟩;first|(rw [hq3 rfl];simp)|simp)
end
end Go.Proofs.YtcdhfpkfmekabaaGreatDoor.Z
namespace Go.Proofs.YtcdhfpkfmekabaaGreatDoor.Z
open Go Go.AM
variable {N:Nat}
def c59 (t st:Int) (vs:List D):D:= .a [.i (IntKind.wrap .i64 (t-st)),.i (c9R 0 1 vs).1,.i (c9R 1 1 vs).1,.i (c9R 2 1 vs).1,.i (knV 3 vs),.i (knV 4 vs),.i (knV 5 vs)]
def e40 (t:Int) (vs:List D):Bool:=bif (bif (bif decide (t≥0) then (c9R 0 1 vs).2 else false) then (c9R 1 1 vs).2 else false) then (c9R 2 1 vs).2 else false
def b8k (t st:Int) (vs:List D):D:= .a [.i (IntKind.wrap .i64 (t-st)),.i (IntKind.wrap .i64 ((c9R 1 0 vs).1-st)),.s (e4Y 2 vs)]
def e41 (t:Int) (vs:List D):Bool:=bif (c9R 1 0 vs).2 then decide (t≥0) else false
def e42 (vs:List D):Bool:= !(e4Y 1 vs==[])
def e0a (st:Int):List Tri→List D→List D→List D→Option (List D×List D×List D)
 | [],ss,ls,ts=>some (ss,ls,ts)
 | d::r,ss,ls,ts=>bif d.1==20 then (bif e40 d.2.1 d.2.2 then e0a st r (ss++[c59 d.2.1 st d.2.2]) ls ts else none)
   else bif d.1==19 then (bif e41 d.2.1 d.2.2 then e0a st r ss (ls++[b8k d.2.1 st d.2.2]) ts else none)
   else bif d.1==30 then (bif e42 d.2.2 then e0a st r ss ls (ts++[.s (e4Y 1 d.2.2)]) else none)
   else e0a st r ss ls ts
section
variable {es:List D}
end
end Go.Proofs.YtcdhfpkfmekabaaGreatDoor.Z
namespace Go.Proofs.YtcdhfpkfmekabaaGreatDoor.Z
open Go Go.AM
variable {N:Nat}
def e43 (a:Ab) (x:D):List D:=(bX x).take (tmL 0 (a.fs (sX x).toNat)).toNat++nb4 (c5U a x) (a.bg (sX x).toNat)++(bX x).drop (tmL 0 (a.fs (sX x).toNat)).toNat
structure WdE (a:Ab) (x y:D):Prop where
 n:kX x≠3→EqE x y
 t:kX x=3→c5U a x≤4294967294∧kX y=2∧sX y=sX x∧oX y=0∧dX y=[]∧bX y=e43 a x
def WdL:Ab→List D→List D→Prop
 |_,[],[]=>True
 |a,x::r,y::s=>WdE a x y∧WdL (a6T a x) r s
 |_,_,_=>False
theorem WdL.len:∀{es ys:List D} {a:Ab},WdL a es ys→ys.length=es.length
 | [],[],_,_=>rfl
 |x::r,y::s,a,h=>by simp [WdL.len h.2]
 | [],_::_,_,h=>h.elim
 |_::_,[],_,h=>h.elim
section
variable {es:List D}
end
end Go.Proofs.YtcdhfpkfmekabaaGreatDoor.Z
namespace Go.Proofs.YtcdhfpkfmekabaaGreatDoor.Z
open Go Go.AM
variable {N:Nat}
section
variable {big:Bool}
structure e5T (x y z p w k:Int):Prop where
 x: -2147483648≤x∧x<2147483647
 y: -2147483648≤y∧y<2147483647
 z: -2147483648≤z∧z<2147483647
 p: -1≤p∧p≤65534
 w: -1≤w∧w≤65534
 k: -1≤k∧k≤65534
end
end Go.Proofs.YtcdhfpkfmekabaaGreatDoor.Z
namespace Go.Proofs.YtcdhfpkfmekabaaGreatDoor.Z
open Go Go.AM
variable {N:Nat}
structure Sl (a:Ab) (j:Nat) (g:Int) (f:List D) (big:Bool):Prop where
 kn:a.kn j=true
 bg:a.bg j=big
 gl:a.gl j=g
 fl:a.fs j=f
def aft:Ab→List D→Ab
 |a,[]=>a
 |a,x::r=>aft (a6T a x) r
theorem b5Y {a:Ab} {x:D} {r:List D} (h:c4q a x=0):a4p a (x::r)=a4p (a6T a x) r:=by
 simp only [a4p];rw [h];rfl
theorem c0x:∀{xs ys:List D} {a:Ab},a4p a xs=0→a4p a (xs++ys)=a4p (aft a xs) ys
 | [],_,_,_=>rfl
 |x::r,ys,a,h=>by
  obtain ⟨e1,e2⟩:=b4L h;rw [List.cons_append,b5Y e1];exact c0x e2
theorem b4M:∀{xs ys:List D} {a:Ab},c0v a (xs++ys)=c0v a xs++c0v (aft a xs) ys
 | [],_,_=>rfl
 |x::r,ys,a=>by
  simp only [List.cons_append,c0v,aft];cases kX x==1 with
  |true=>exact b4M
  |false=>simp only [e6a,List.cons_append,b4M (xs:=r)]
section
variable {a:Ab} {j g:Int} {f:List D} {big:Bool}
theorem d3N (hj:0≤j) (hj2:j≤15) (hd:c9P g f=0):c4q a (b8c j g f big)=0∧Sl (a6T a (b8c j g f big)) j.toNat g f big:=by
 have i2:inI j 0 15=true:=decide_eq_true ⟨hj,hj2⟩;constructor
 ·show (bif !(inI 1 1 3) then 7 else bif !(inI j 0 15)|| !(inI 0 0 0) then 9 else _)=0
  rw [i2];exact hd
 ·refine ⟨?_,?_,?_,?_⟩
  ·show upA a.kn j.toNat true j.toNat=true;simp [upA]
  ·show upA a.bg j.toNat big j.toNat=big;simp [upA]
  ·show upA a.gl j.toNat g j.toNat=g;simp [upA]
  ·show upA a.fs j.toNat f j.toNat=f;simp [upA]
end
def e5y (st:Int) (s:D):Prop:=∃t x y z p w k,s= .a [.i t,.i x,.i y,.i z,.i p,.i w,.i k]∧0≤t∧st+t≤4294967294∧e5T x y z p w k
def e5U (st:Int) (l:D):Prop:=∃f t n,l= .a [.i f,.i t,.s n]∧0≤f∧0≤t∧st+f≤4294967294∧st+t≤4294967294∧n.length≤60∧ ∀c∈n,c≠0
def e5V (t:D):Prop:=∃s,t= .s s∧s≠[]∧s.length≤60∧ ∀c∈s,c≠0
def Inc:Option Int→List D→Prop
 |_,[]=>True
 |prev,s::r=>(∀p,prev=some p→p<(s.cell 0).toI)∧Inc (some (s.cell 0).toI) r
structure Seg (st:Int) (a:Ab) (es S L T:List D):Prop where
 e:a4p a es=0
 f:∀rest SS LS TS,e0a st (c0v a es++rest) SS LS TS=e0a st rest (SS++S) (LS++L) (TS++T)
theorem Seg.nil {st:Int} {a:Ab}:Seg st a [] [] [] []:=⟨rfl,fun rest SS LS TS=>by simp [c0v]⟩
theorem Seg.app {st:Int} {a:Ab} {xs ys S L T S' L' T':List D} (h:Seg st a xs S L T) (h':Seg st (aft a xs) ys S' L' T'):Seg st a (xs++ys) (S++S') (L++L') (T++T'):=
 ⟨by rw [c0x h.e];exact h'.e,fun rest SS LS TS=>by rw [b4M,e6n,h.f,h'.f];simp [e6n]⟩
theorem Seg.one {st:Int} {a:Ab} {x:D} {es S L T S' L' T':List D} (h:Seg st a [x] S L T) (h':Seg st (a6T a x) es S' L' T'):Seg st a (x::es) (S++S') (L++L') (T++T'):=Seg.app (xs:=[x]) h h'
theorem Seg.def {st:Int} {a:Ab} {j g:Int} {f:List D} {big:Bool} (hj:0≤j) (hj2:j≤15) (hd:c9P g f=0):Seg st a [b8c j g f big] [] [] []:=by
 refine ⟨?_,fun rest SS LS TS=> ?_⟩
 ·rw [b5Y (d3N hj hj2 hd).1];rfl
 ·show e0a st rest SS LS TS=_;simp
section
variable {st:Int} {big:Bool}
end
end Go.Proofs.YtcdhfpkfmekabaaGreatDoor.Z
namespace Go.Proofs.YtcdhfpkfmekabaaGreatDoor.Z
open Go Go.AM
variable {N:Nat}
structure c8Y (name:List UInt8) (sport st:Int) (ss ls ts:List D):Prop where
 nm:name≠[]∧name.length≤60∧ ∀c∈name,c≠0
 sp:1≤sport∧sport≤5
 b0:0≤st
 b1:st≤4294967294
 s:ss.length≤20000
 l:ls.length≤200
 t:ts.length≤20
 sg:∀x∈ss,e5y st x
 lg:∀x∈ls,e5U st x
 tg:∀x∈ts,e5V x
 inc:Inc none ss
section
variable {name:List UInt8} {sport st:Int} {ss ls ts:List D} {big:Bool}
theorem c8Y.filOk (h:c8Y name sport st ss ls ts):e2R name sport st ss ls ts:=by
 have h0:=h.b0;refine ⟨h.nm.2.1,by have:=h.sp;omega,h.b0,h.b1,h.s,h.l,h.t,fun x hx=> ?_,fun x hx=> ?_,fun x hx=> ?_⟩
 ·obtain ⟨t,x,y,z,p,w,k,rfl,t0,t1,hr⟩:=h.sg x hx
  refine ⟨?_,hr.p.1,hr.w.1,hr.k.1⟩;show 0≤IntKind.wrap .i64 (st+t);rw [a0u (by omega) (by omega)];omega
 ·obtain ⟨f,t,n,rfl,f0,t0,f1,t1,hn,hz⟩:=h.lg x hx
  refine ⟨?_,?_,hn⟩
  ·show 0≤IntKind.wrap .i64 (st+f)
   rw [a0u (by omega) (by omega)];omega
  ·show 0≤IntKind.wrap .i64 (st+t)
   rw [a0u (by omega) (by omega)];omega
 ·obtain ⟨s,rfl,_,hl,_⟩:=h.tg x hx
  exact hl
end
section
variable {es:List D}
end
end Go.Proofs.YtcdhfpkfmekabaaGreatDoor.Z
namespace Go.Proofs.YtcdhfpkfmekabaaGreatDoor.Z
open Go Go.AM
def b4N (l:List D):Prop:=∀y∈l,d92 y
theorem b4N.app {xs ys:List D} (h:b4N xs) (h':b4N ys):b4N (xs++ys):=fun y hy=>(List.mem_append.1 hy).elim (h y) (h' y)
theorem e44 (n i:Int):d92 (bt n i):=⟨_,rfl,by simp only [IntKind.wrap_u8];omega,by simp only [IntKind.wrap_u8];omega⟩
theorem c17 (n:Int) (big:Bool):b4N (nb4 n big):=by
 intro y hy;cases big<;>(simp only [nb4,e59,e6a,e6k,List.not_mem_nil,or_false] at hy;rcases hy with rfl|rfl|rfl|rfl<;>exact e44 _ _)
theorem e0b (n:Int) (big:Bool):b4N (nb2 n big):=by
 intro y hy;cases big<;>(simp only [nb2,e59,e6a,e6k,List.not_mem_nil,or_false] at hy;rcases hy with rfl|rfl<;>exact e44 _ _)
theorem e45 (n:Int):b4N (nb1 n):=by
 intro y hy;simp only [nb1,e6k,List.not_mem_nil,or_false] at hy;subst hy;exact e44 _ _
theorem e0c (s:List UInt8):b4N (txB s):=by
 refine b4N.app (fun y hy=> ?_) (fun y hy=> ?_)
 ·obtain ⟨b,_,rfl⟩:=List.mem_map.1 hy
  exact ⟨_,rfl,by omega,by have:=b.toNat_lt;omega⟩
 ·obtain ⟨_,rfl⟩:=List.mem_replicate.1 hy
  exact ⟨0,rfl,by omega,by omega⟩
theorem d4Y (big:Bool) (s:D):b4N (c4v big s):=by
 unfold c4v;exact (c17 _ _).app ((c17 _ _).app ((c17 _ _).app ((e0b _ _).app ((e0b _ _).app (e0b _ _)))))
theorem c4w {j g:Int} {fs:List D} {big:Bool} (hj:a5w j) (hg:a5w g) (hl:fs.length≤maxLen) (hf:∀f∈fs,d91 f):e0C (b8c j g fs big):=by
 refine ⟨1,j,0,false,[.a [.b big,.i g,.l false fs]],true,[],rfl,by unfold a5w;omega,hj,by unfold a5w;omega,fun h=>(by cases h),fun _=>rfl,by show 1≤maxLen;decide,Nat.zero_le _,fun d hd=> ?_,fun y hy=>(by simp at hy)⟩
 simp only [e6k,List.not_mem_nil,or_false] at hd;subst hd;exact ⟨big,g,false,fs,rfl,hg,fun h=>(by cases h),hl,hf⟩
theorem c0y {k j o:Int} {b:List D} (hk:a5w k) (hj:a5w j) (ho:a5w o) (hl:b.length≤maxLen) (hb:b4N b):e0C (.a [.i k,.i j,.i o,.l true [],.l false b]):=
 ⟨k,j,o,true,[],false,b,rfl,hk,hj,ho,fun _=>rfl,fun h=>(by cases h),Nat.zero_le _,hl,fun d hd=>(by simp at hd),hb⟩
theorem e46 {a b c:Int} (h:a5w a∧a5w b∧a5w c):d91 (.a [.i a,.i b,.i c]):=⟨a,b,c,rfl,h.1,h.2.1,h.2.2⟩
theorem e5W:(∀f∈fs0,d91 f)∧(∀f∈fs3,d91 f)∧(∀f∈fs2,d91 f)∧(∀f∈fs1,d91 f):=by
 refine ⟨?_,?_,?_,?_⟩<;>
 ·intro f hf
  simp only [fs0,fs1,fs2,fs3,tF,e6k,List.not_mem_nil,or_false] at hf;rcases hf with rfl|rfl|rfl|rfl|rfl|rfl|rfl<;>exact e46 (by unfold a5w;omega)
section
variable {name:List UInt8} {sport st:Int} {ss ls ts:List D} {big:Bool}
theorem d4Z (h0:0≤st) (W:Bool):∀{ss:List D} {prev:Option Int},(∀s∈ss,e5y st s)→ ∀x∈b0Z W big st prev ss,e0C x
 | [],_,_,x,hx=>by simp [b0Z] at hx
 | s::r,prev,h,x,hx=>by
  have hm:maxLen=9223372036854775807:=rfl;have hlen:(c4v big s).length=18:=by unfold c4v;simp [a2v,a8A]
  obtain ⟨t,_,_,_,_,_,_,hs,t0,t1,_⟩:=h s (by simp)
  have et:tmA st s=st+t:=by rw [hs];exact a0u (by show-9223372036854775808≤st+t;omega) (by show st+t≤9223372036854775807;omega)
  simp only [b0Z,e6k] at hx;rcases hx with rfl|hx
  ·unfold e3u
   cases (!W&&b5X prev s) with
   |true=>
    refine c0y (by unfold a5w;omega) (by unfold a5w;omega) ?_ (by rw [hlen];omega) (d4Y _ _)
    rw [et,Int.tmod_eq_emod_of_nonneg (by omega)]
    unfold a5w;omega
   |false=>exact c0y (by unfold a5w;omega) (by unfold a5w;omega) (by unfold a5w;omega) (by rw [e6l,a2v,hlen];omega) ((c17 _ _).app (d4Y _ _))
  ·exact d4Z h0 W (fun y hy=>h y (by simp [hy])) x hx
theorem c18 {xs:List D} {d x:D} (h:x∈ifE xs d):x=d:=by
 unfold ifE at h;cases hd:decide ((xs.length:Int)>0) with
 |true=>rw [hd] at h;simpa using h
 |false=>rw [hd] at h;simp at h
theorem filF_T (h:c8Y name sport st ss ls ts) (W:Bool):∀x∈e2Q W name sport st ss ls ts big,e0C x:=by
 have hm:maxLen=9223372036854775807:=rfl;obtain ⟨f0,f3,f2,f1⟩:=e5W;intro x hx;unfold e2Q at hx;simp only [List.mem_append,e6k,List.not_mem_nil,or_false,List.mem_map] at hx;rcases hx with (((((((rfl|rfl)|hx)|⟨t,ht,rfl⟩)|hx)|⟨l,hl,rfl⟩)|hx)|hx)
 ·exact c4w (by unfold a5w;omega) (by unfold a5w;omega) (by show 3≤maxLen;omega) f0
 ·exact c0y (by unfold a5w;omega) (by unfold a5w;omega) (by unfold a5w;omega) (by rw [e6l,e6l,a2v,a8C h.nm.2.1];show 4+(60+1)≤maxLen;omega) ((c17 _ _).app ((e0c _).app (e45 _)))
 ·rw [c18 hx];exact c4w (by unfold a5w;omega) (by unfold a5w;omega) (by show 1≤maxLen;omega) f3
 ·obtain ⟨s,rfl,_,hl,_⟩:=h.tg t ht
  exact c0y (by unfold a5w;omega) (by unfold a5w;omega) (by unfold a5w;omega) (by show (txB s).length≤maxLen;rw [a8C hl];omega) (e0c _)
 ·rw [c18 hx];exact c4w (by unfold a5w;omega) (by unfold a5w;omega) (by show 3≤maxLen;omega) f2
 ·obtain ⟨f,t,n,rfl,_,_,_,_,hn,_⟩:=h.lg l hl
  refine c0y (by unfold a5w;omega) (by unfold a5w;omega) (by unfold a5w;omega) ?_ ((c17 _ _).app ((c17 _ _).app (e0c _)))
  unfold d3K;rw [e6l,e6l,a2v,a2v];show 4+(4+(txB n).length)≤maxLen;rw [a8C hn];omega
 ·rw [c18 hx];exact c4w (by unfold a5w;omega) (by unfold a5w;omega) (by show 7≤maxLen;omega) f1
 ·exact d4Z h.b0 W h.sg x hx
end
def SmpT (s:D):Prop:=∃a b c d e f g,s= .a [.i a,.i b,.i c,.i d,.i e,.i f,.i g]
def LapT (l:D):Prop:=∃f t n,l= .a [.i f,.i t,.s n]
def TagT (t:D):Prop:=∃s,t= .s s
section
variable {name:List UInt8} {sport st:Int} {ss ls ts:List D}
theorem c9A (h:chkA name sport st ss ls ts=0):a30 name=true∧inI sport 1 5=true∧inI st 0 86399999999=true∧(ss.length≤20000∧ls.length≤200∧ts.length≤20)∧a0g (a7K st ss) 0 ss=0∧a0g (b48 (spanD ss) ls) 0 ls=0∧a0g (c1I ts) 0 ts=0:=by
 unfold chkA at h;cases h1:a30 name with
 |false=>rw [h1] at h;exact absurd (show (8:Int)=0 from h) (by decide)
 |true=>
 cases h2:inI sport 1 5 with
 |false=>rw [h1,h2] at h;exact absurd (show (7:Int)=0 from h) (by decide)
 |true=>
 cases h3:inI st 0 86399999999 with
 |false=>rw [h1,h2,h3] at h;exact absurd (show (9:Int)=0 from h) (by decide)
 |true=>
 rw [h1,h2,h3] at h;simp only [Bool.not_true,e6a] at h;cases h4:decide ((ss.length:Int)>20000)||decide ((ls.length:Int)>200)||decide ((ts.length:Int)>20) with
 |true=>rw [h4] at h;exact absurd (show (3:Int)=0 from h) (by decide)
 |false=>
 rw [h4] at h;simp only [e6a] at h;simp only [Bool.or_eq_false_iff,decide_eq_false_iff_not] at h4;cases h5:a0g (a7K st ss) 0 ss !=0 with
 |true=>rw [h5] at h;simp only [e59] at h;rw [h] at h5;simp at h5
 |false=>
 rw [h5] at h;simp only [e6a] at h;cases h6:a0g (b48 (spanD ss) ls) 0 ls !=0 with
 |true=>rw [h6] at h;simp only [e59] at h;rw [h] at h6;simp at h6
 |false=>
 rw [h6] at h;simp only [e6a] at h;exact ⟨rfl,rfl,rfl,by omega,by simpa using h5,by simpa using h6,h⟩
theorem c4x {s:List UInt8} (h:a30 s=true):s≠[]∧s.length≤60∧ ∀c∈s,c≠0:=by
 unfold a30 at h;simp only [e57,decide_eq_true_eq,List.all_eq_true] at h;refine ⟨fun e=>by rw [e] at h;simp at h,h.2.2,fun c hc e=> ?_⟩
 have:=h.1 c hc;rw [e] at this;exact absurd this (by decide)
theorem c9B {s:List UInt8} (h:a2A s=true):s.length≤60∧ ∀c∈s,c≠0:=by
 unfold a2A at h;simp only [e57,decide_eq_true_eq,List.all_eq_true] at h;refine ⟨h.2,fun c hc e=> ?_⟩
 have:=h.1 c hc;rw [e] at this;exact absurd this.1 (by decide)
def atS (ss:List D) (i:Nat):Int:=((ss.getD i (.i 0)).cell 0).toI
theorem b0c (h:a0g (a7K st ss) 0 ss=0) {i:Nat} (hi:i<ss.length):(i=0→atS ss i=0)∧(0<i→atS ss (i-1)<atS ss i)∧atS ss i≤1000000∧b70 (ss.getD i (.i 0))=true:=by
 have hz:=a0I h i hi;rw [Int.zero_add] at hz;unfold a7K at hz;cases h1:b4t ss (i:Int) with
 |true=>rw [h1] at hz;exact absurd (show (10:Int)=0 from hz) (by decide)
 | false=>
  rw [h1] at hz;simp only [e6a,Int.toNat_natCast] at hz;cases h2:b5P st (ss.getD i (.i 0))|| !b70 (ss.getD i (.i 0)) with
  |true=>rw [h2] at hz;exact absurd (show (9:Int)=0 from hz) (by decide)
  | false=>
   simp only [Bool.or_eq_false_iff,Bool.not_eq_false'] at h2;unfold b4t at h1;unfold b5P at h2;simp only [Bool.or_eq_false_iff,decide_eq_false_iff_not] at h2;refine ⟨fun hi0=> ?_,fun hi0=> ?_,by unfold atS;omega,h2.2⟩
   ·subst hi0
    simp at h1;unfold atS;simpa using h1
   ·have e:((i:Int)==0)=false:=by rw [beq_eq_false_iff_ne];omega
    rw [e] at h1;simp only [e6a,Int.toNat_natCast,decide_eq_false_iff_not] at h1;have e2:((i:Int)-1).toNat=i-1:=by omega
    rw [e2] at h1;unfold atS;omega
theorem e0d (h:a0g (a7K st ss) 0 ss=0):∀(d i:Nat),i+d<ss.length→atS ss i≤atS ss (i+d)
 |0,i,_=>Int.le_refl _
 |d+1,i,hi=>by
  have h1:=e0d h d i (by omega)
  have h2:=(b0c h (i:=i+(d+1)) hi).2.1 (by omega)
  rw [show i+(d+1)-1=i+d by omega] at h2
  omega
theorem c9C (h:a0g (a7K st ss) 0 ss=0) {i:Nat} (hi:i<ss.length):0≤atS ss i∧atS ss i≤spanD ss∧spanD ss≤1000000:=by
 have h0:=e0d h i 0 (by omega)
 have h1:=(b0c h (i:=0) (by omega)).1 rfl
 have h2:=e0d h (ss.length-1-i) i (by omega)
 have h3:=(b0c h (i:=ss.length-1) (by omega)).2.2.1
 rw [show i+(ss.length-1-i)=ss.length-1 by omega] at h2
 rw [Nat.zero_add] at h0;have e:spanD ss=atS ss (ss.length-1):=by
  unfold spanD atS;rw [decide_eq_true (show (ss.length:Int)>0 by omega),show ((ss.length:Int)-1).toNat=ss.length-1 by omega];rfl
 rw [e];omega
theorem d40 (h:a0g (a7K st ss) 0 ss=0):∀(n k:Nat),k+n=ss.length→Inc (if k=0 then none else some (atS ss (k-1))) (ss.drop k)
 |0,k,hk=>by rw [List.drop_eq_nil_of_le (by omega)];trivial
 | n+1,k,hk=>by
  have hd:ss.drop k=ss.getD k (.i 0)::ss.drop (k+1):=by
   rw [List.drop_eq_getElem_cons (by omega),e6d,e6j (by omega)];rfl
  have ih:=d40 h n (k+1) (by omega)
  rw [if_neg (by omega),show k+1-1=k by omega] at ih
  rw [hd];refine ⟨fun p hp=> ?_,ih⟩
  by_cases h0:k=0
  ·rw [if_pos h0] at hp;cases hp
  ·rw [if_neg h0] at hp
   simp only [e55] at hp;subst hp;exact (b0c h (i:=k) (by omega)).2.1 (by omega)
theorem actG_of (h:chkA name sport st ss ls ts=0) (hw:¬IntKind.wrap .i64 (st+spanD ss)>4294967294) (hs:∀s∈ss,SmpT s) (hl:∀l∈ls,LapT l) (ht:∀t∈ts,TagT t):c8Y name sport st ss ls ts:=by
 obtain ⟨c1,c2,c3,⟨c4,c5,c6⟩,c7,c8,c9⟩:=c9A h;unfold inI at c2 c3;simp only [decide_eq_true_eq] at c2 c3;have hsp:0≤spanD ss∧spanD ss≤1000000:=by
  cases hss:ss with
  |nil=>exact ⟨by decide,by decide⟩
  |cons x r=>
   have:=c9C c7 (i:=0) (by rw [hss];simp)
   rw [←hss];omega
 have hsum:st+spanD ss≤4294967294:=by
  rw [a0u (by omega) (by omega)] at hw;omega
 refine ⟨c4x c1,c2,c3.1,by omega,c4,c5,c6,fun s hx=> ?_,fun l hx=> ?_,fun t hx=> ?_,?_⟩
 ·obtain ⟨i,hi,rfl⟩:=List.getElem_of_mem hx
  have hg:ss.getD i (.i 0)=ss[i]:=by rw [e6d,e6j hi];rfl
  obtain ⟨_,_,_,r⟩:=b0c c7 hi;obtain ⟨a1,a2,a3⟩:=c9C c7 hi;unfold atS at a1 a2;rw [hg] at r a1 a2;obtain ⟨a,b,c,d,e,f,g,he⟩:=hs _ hx;rw [he] at r a1 a2;have a1:0≤a:=a1;have a2:a≤spanD ss:=a2;have r:(inI b (-100000000) 100000000&&inI c (-100000000) 100000000&&inI d (-100000) 100000&&inI e (-1) 300&&inI f (-1) 3000&&inI g (-1) 300)=true:=r;unfold inI at r;simp only [e57,decide_eq_true_eq] at r;exact ⟨a,b,c,d,e,f,g,he,a1,by omega,⟨by omega,by omega,by omega,by omega,by omega,by omega⟩⟩
 ·obtain ⟨i,hi,rfl⟩:=List.getElem_of_mem hx
  have hg:ls.getD i (.i 0)=ls[i]:=by rw [e6d,e6j hi];rfl
  have hz:=a0I c8 i hi;rw [Int.zero_add] at hz;obtain ⟨f,t,n,he⟩:=hl _ hx;unfold b48 at hz;rw [Int.toNat_natCast,hg,he] at hz;cases h1:c9M (spanD ss) (.a [.i f,.i t,.s n]) with
  |true=>rw [h1] at hz;exact absurd (show (9:Int)=0 from hz) (by decide)
  | false=>
   rw [h1] at hz;simp only [e6a] at hz;cases h2:c3T ls (i:Int) with
   |true=>rw [h2] at hz;exact absurd (show (10:Int)=0 from hz) (by decide)
   | false=>
    rw [h2] at hz;simp only [e6a] at hz;cases h3:a2A n with
    |false=>
     have hz:(bif a2A n then (0:Int) else 8)=0:=hz
     rw [h3] at hz;exact absurd (show (8:Int)=0 from hz) (by decide)
    |true=>
     have h1:(decide (f<0)||decide (f≥t)||decide (t>spanD ss))=false:=h1;simp only [Bool.or_eq_false_iff,decide_eq_false_iff_not] at h1;obtain ⟨t1,t2⟩:=c9B h3;exact ⟨f,t,n,he,by omega,by omega,by omega,by omega,t1,t2⟩
 ·obtain ⟨i,hi,rfl⟩:=List.getElem_of_mem hx
  have hg:ts.getD i (.i 0)=ts[i]:=by rw [e6d,e6j hi];rfl
  have hz:=a0I c9 i hi;rw [Int.zero_add] at hz;obtain ⟨s,he⟩:=ht _ hx;unfold c1I at hz;rw [Int.toNat_natCast,hg,he] at hz;cases h3:a30 s with
  |false=>
   have hz:(bif a30 s then (bif c9N ts i then (10:Int) else 0) else 8)=0:=hz
   rw [h3] at hz;exact absurd (show (8:Int)=0 from hz) (by decide)
  |true=>exact ⟨s,he,c4x h3⟩
 ·exact d40 c7 ss.length 0 (by omega)
end
end Go.Proofs.YtcdhfpkfmekabaaGreatDoor.Z
namespace Go.Proofs.YtcdhfpkfmekabaaGreatDoor
open Go Go.AM
theorem e47 {A X:Type} {S:A→(A→X)→X} {L:Nat→A→X} (hL:∀m a,L (m+1) a=S a (L m)) (P:A→X→Prop) (Inv:A→Prop) (μ:A→Nat)
  (h:∀a kr,Inv a→(∀a',Inv a'→μ a'<μ a→P a' (kr a'))→P a (S a kr)):∀(m:Nat) (a:A),Inv a→μ a<m→P a (L m a):=by
 intro m;induction m with
 |zero=>intro a _ h;omega
 |succ m ih=>intro a ha hm;rw [hL];exact h a (L m) ha fun a' h1 h2=>ih a' h1 (by omega)
variable {N:Nat} {xs ys:List D}
def c9S (x y:D):Bool:=x.toB==y.toB
theorem c9D (hN:maxLen<N) (hl:xs.length≤maxLen):e0x N xs ys=some (eqL c9S xs ys):=by
 unfold e0x e3l eqL;rw [b4v];cases h:(xs.length==ys.length) with
 |false=>rfl
 | true=>
  have e:c1v N xs ys xs.length 0=some (bif a2i c9S xs ys then .inr () else .inl ()):=by
   unfold c1v;refine b4u c9S (S:=fun w kr=>b0G N xs ys xs.length w kr _ _) (L:=fun m w=>b64 N xs ys xs.length m w _ _) (fun m w=>rfl) hl (by simpa using h) (fun kr=>by simp [b0G]) (fun w kr h1 h2 h3=> ?_) hN
   unfold b0G;rw [h1,h2,h3];show (bif !(c9S _ _) then _ else _)=_
   cases c9S (xs.getD w.toNat (.i 0)) (ys.getD w.toNat (.i 0))<;>rfl
  rw [e];cases a2i c9S xs ys<;>rfl
section
variable {lv sp st:Int} {nm:List UInt8} {sn ln tn:Bool} {s l t:List D}
theorem b8e (hN:maxLen<N) (hv:a6Q xs) (ha:ActOk nm s l t):
  ∃b c,d4y N xs lv nm sp st sn s ln l tn t=some (b,(bif a2k xs lv [mkA nm sp st sn s ln l tn t] !=0 then [] else e3p xs lv (mkA nm sp st sn s ln l tn t)),c,a2k xs lv [mkA nm sp st sn s ln l tn t]):=by
 have hm:maxLen=9223372036854775807:=rfl;unfold d4y e3j;rw [show (D.a [.s nm,.i sp,.i st,.l sn s,.l ln l,.l tn t])=mkA nm sp st sn s ln l tn t from rfl];simp only [a0b,b74 (l:=[mkA nm sp st sn s ln l tn t]) (lv:=lv) hN hv (by simp;omega) (e2w ha),e6e,getD_some,e59]
 cases hf:a2k xs lv [mkA nm sp st sn s ln l tn t] !=0 with
 |true=>exact ⟨true,_,rfl⟩
 |false=>
  simp only [bne_eq_false_iff_eq] at hf;obtain ⟨r1,r2,r3⟩:=a2c hf;have hr:=a6S (r3 (mkA nm sp st sn s ln l tn t) (by simp))
  have h1:s.length≤20000:=hr.s;have h2:t.length≤20:=hr.t;obtain ⟨b,e⟩:=c3W (lv:=lv) hN r1.l;rw [e,hf];simp only [e6a,e6e,getD_some,e59,c3Y (sport:=sp) (start:=st) hN (e2s (Nat.le_trans (c3X (xs:=xs) (lv:=lv)) r1.l)) h1 (show t.length≤maxLen by omega)]
  exact ⟨_,_,rfl⟩
end
section
variable {hid:D→Bool}
def c9E (hid:D→Bool) (l:List D):List D:=(l.filter fun x=> !hid x).map reS
def e2S:List D→List D×List (List D)→List D×List (List D)
 | [],a=>a
 |s::r,a=>e2S r (bif c32 a.1 s then ([s],a.2++[a.1]) else (a.1++[s],a.2))
theorem b4O:∀(l:List D) (b:List D×List (List D)),a4r hid l b=e2S (c9E hid l) b
 | [],b=>rfl
 |s::l,b=>by
  rw [a4r,b4O l];unfold c9E;rw [List.filter_cons];cases hid s with
  |true=>rfl
  |false=>rfl
theorem c4y:∀{s s':List D},All2 (fun x y=>hid x=hid y∧(hid x=false→y=x)) s s'→c9E hid s'=c9E hid s
 | [],[],_=>rfl
 | [],_::_,h=>h.elim
 |_::_,[],h=>h.elim
 |x::s,y::s',h=>by
  have ih:=c4y h.2;obtain ⟨h1,h2⟩:=h.1;unfold c9E at ih⊢;rw [List.filter_cons,List.filter_cons,←h1];cases hx:hid x with
  |true=>exact ih
  |false=>rw [h2 hx];exact congrArg (reS x:: ·) ih
end
theorem d3O {rs:List D} {tn:Bool} {nm:List UInt8} {sp st:Int} {sn sn2 ln:Bool} {s s2 l t:List D} (h:c9E (b4y rs (rs.any (a1f sp t)) st) s=c9E (b4y rs (rs.any (a1f sp t)) st) s2):
  a8y rs tn (mkA nm sp st sn s ln l tn t)=a8y rs tn (mkA nm sp st sn2 s2 ln l tn t):=by
 show (a2g (b4y rs (rs.any (a1f sp t)) st) s).map (a3y rs nm sp st l tn t)=(a2g (b4y rs (rs.any (a1f sp t)) st) s2).map (a3y rs nm sp st l tn t);unfold a2g;rw [b4O,b4O,h]
theorem d41 {f:D→Bool}:∀{s s':List D},s.length=s'.length→a2i c9S (s.map fun x=> .b (f x)) (s'.map fun x=> .b (f x))=true→All2 (fun x y=>f x=f y) s s'
 | [],[],_,_=>trivial
 | [],_::_,h,_=>by simp at h
 |_::_,[],h,_=>by simp at h
 |x::s,y::s',h,hz=>by
  simp only [List.map_cons,a2i,e57] at hz;exact ⟨eq_of_beq hz.1,d41 (by simpa using h) hz.2⟩
def e48 (H s r:List D):Prop:=r.length=s.length∧ ∀i:Nat,i<s.length→(H.getD i (.i 0)).toB=false→r.getD i (.i 0)=s.getD i (.i 0)
theorem a8D {r:List D} {i j:Nat} {x:D} (h:j≠i):(r.set j x).getD i (.i 0)=r.getD i (.i 0):=by
 simp only [e6d,List.getElem?_set_ne h]
theorem d3P {x y w:Int} {b:Bool} {r:List D} (h0:0≤w) (h1:w<r.length):∃r',c1H N x y w b r=some r'∧r'.length=r.length∧(∀i:Nat,((i:Int)=w→b=false)→r'.getD i (.i 0)=r.getD i (.i 0)):=by
 cases b with
 |false=>exact ⟨r,rfl,rfl,fun _ _=>rfl⟩
 | true=>
  unfold c1H b7L;simp only [e59,a0D h0 h1,decide_eq_true (show w.toNat<r.length by omega),a0b,List.length_set]
  refine ⟨_,rfl,by simp only [List.length_set],fun i hi=> ?_⟩
  have hne:w.toNat≠i:=fun e=>by
   have:=hi (by omega)
   cases this
  rw [a8D hne,a8D hne,a8D hne]
theorem e0e (hN:maxLen<N) {x y:Int} {H s:List D} (hH:H.length=s.length) (hs:s.length≤20000):∃r,b7N N x y H s.length 0 s=some r∧e48 H s r:=by
 have hm:maxLen=9223372036854775807:=rfl;unfold b7N;have key:=e47 (A:=Int×List D) (X:=Option (List D)) (S:=fun p kr=>b0U N x y H s.length p.1 p.2 (fun a b=>kr (a,b)) some) (L:=fun m p=>b7M N (R:=List D) x y H s.length m p.1 p.2 some) (fun m a=>rfl)
  (fun p z=>∃r,z=some r∧e48 H s r) (fun p=>0≤p.1∧p.1≤s.length∧e48 H s p.2) (fun p=>(s.length-p.1).toNat) (fun ⟨w,r⟩ kr ⟨h0,h1,h2⟩ ih=>by
   simp only at h0 h1 h2 ih⊢;by_cases hw:w<s.length
   ·obtain ⟨r',e,e1,e2⟩:=d3P (N:=N) (x:=x) (y:=y) (b:=(H.getD w.toNat (.i 0)).toB) (r:=r) h0 (by rw [h2.1];exact hw)
    simp only [b0U,decide_eq_true hw,e59,a0D h0 (show w<H.length by omega),a0b,e,e6e,getD_some,a0u (x:=w+1) (by omega) (by omega)]
    refine ih (w+1,r') ⟨by simp only;omega,by simp only;omega,e1.trans h2.1,fun i hi hb=> ?_⟩ (by simp only;omega)
    rw [e2 i (fun q=>by rw [←q,Int.toNat_natCast];exact hb)]
    exact h2.2 i hi hb
   ·simp only [b0U,decide_eq_false hw,e6a]
    exact ⟨r,rfl,h2⟩) N (0,s) ⟨by simp,by simp,rfl,fun _ _ _=>rfl⟩ (by simp;omega)
 exact key
theorem c19: @c3R N= @b7N N:=by kernel_rfl
end Go.Proofs.YtcdhfpkfmekabaaGreatDoor
namespace Go.Proofs.YtcdhfpkfmekabaaGreatDoor
open Go Go.AM
variable {N:Nat} {xs ys:List D} {n n':List UInt8} {sp st sp' st':Int} {s l t s' l' t':List D}
theorem c2a (hN:maxLen<N) (hl:xs.length≤maxLen) (h:xs.length=ys.length):b65 N xs ys xs.length 0=some (bif a2i d2S xs ys then .inr () else .inl ()):=by
 unfold b65;refine b4u d2S (S:=fun w kr=>a7n N xs ys xs.length w kr _ _) (L:=fun m w=>b2q N xs ys xs.length m w _ _) (fun m w=>rfl) hl h (fun kr=>by simp [a7n]) (fun w kr h1 h2 h3=> ?_) hN
 unfold a7n;rw [h1,h2,h3];show (bif !(d2S _ _) then _ else _)=_
 cases d2S (xs.getD w.toNat (.i 0)) (ys.getD w.toNat (.i 0))<;>rfl
theorem c2b (hN:maxLen<N) (hl:xs.length≤maxLen) (h:xs.length=ys.length):b66 N xs ys xs.length 0=some (bif a2i d2T xs ys then .inr () else .inl ()):=by
 unfold b66;refine b4u d2T (S:=fun w kr=>a7o N xs ys xs.length w kr _ _) (L:=fun m w=>b2r N xs ys xs.length m w _ _) (fun m w=>rfl) hl h (fun kr=>by simp [a7o]) (fun w kr h1 h2 h3=> ?_) hN
 unfold a7o;rw [h1,h2,h3];show (bif !(d2T _ _) then _ else _)=_
 cases d2T (xs.getD w.toNat (.i 0)) (ys.getD w.toNat (.i 0))<;>rfl
theorem c2c (hN:maxLen<N) (hl:xs.length≤maxLen) (h:xs.length=ys.length):b67 N xs ys xs.length 0=some (bif a2i d2U xs ys then .inr () else .inl ()):=by
 unfold b67;refine b4u d2U (S:=fun w kr=>a7p N xs ys xs.length w kr _ _) (L:=fun m w=>b2s N xs ys xs.length m w _ _) (fun m w=>rfl) hl h (fun kr=>by simp [a7p]) (fun w kr h1 h2 h3=> ?_) hN
 unfold a7p;rw [h1,h2,h3];show (bif !(d2U _ _) then _ else _)=_
 cases d2U (xs.getD w.toNat (.i 0)) (ys.getD w.toNat (.i 0))<;>rfl
theorem d3Q (hN:maxLen<N) (hl:xs.length≤maxLen):d7s N xs ys=some (eqL d2S xs ys):=by
 unfold d7s d1h eqL;rw [b4v];cases h:(xs.length==ys.length) with
 |false=>rfl
 |true=>
  rw [c2a hN hl (by simpa using h)]
  cases a2i d2S xs ys<;>rfl
theorem d3R (hN:maxLen<N) (hl:xs.length≤maxLen):d7v N xs ys=some (eqL d2T xs ys):=by
 unfold d7v d1i eqL;rw [b4v];cases h:(xs.length==ys.length) with
 |false=>rfl
 |true=>
  rw [c2b hN hl (by simpa using h)]
  cases a2i d2T xs ys<;>rfl
theorem d3S (hN:maxLen<N) (hl:xs.length≤maxLen):d7y N xs ys=some (eqL d2U xs ys):=by
 unfold d7y d1j eqL;rw [b4v];cases h:(xs.length==ys.length) with
 |false=>rfl
 |true=>
  rw [c2c hN hl (by simpa using h)]
  cases a2i d2U xs ys<;>rfl
theorem d3T (hN:maxLen<N) (hs:s.length≤maxLen) (hl:l.length≤maxLen) (ht:t.length≤maxLen):d1l N n sp st s l t n' sp' st' s' l' t'=some (c8O n sp st s l t n' sp' st' s' l' t'):=by
 unfold d1l d1k c7X b68;simp only [a0b,d3Q hN hs,d3R hN hl,d3S hN ht,e6e,e59,getD_some];unfold c8O;cases n==n'<;>cases sp==sp'<;>cases st==st'<;>cases eqL d2S s s'<;>cases eqL d2T l l'<;>cases eqL d2U t t'<;>rfl
theorem d3U (hN:maxLen<N) (hl:xs.length≤maxLen) (ho:∀x∈xs,c80 x):c7Y N xs ys=some (eqL c0e xs ys):=by
 unfold c7Y d1m eqL;rw [b4v];cases h:(xs.length==ys.length) with
 |false=>rfl
 | true=>
  have e:b69 N ys xs xs.length 0=some (bif a2i c0e xs ys then .inr () else .inl ()):=by
   unfold b69;refine b4u c0e (S:=fun w kr=>a7q N ys xs xs.length w kr _ _) (L:=fun m w=>b2t N ys xs xs.length m w _ _) (fun m w=>rfl) hl (by simpa using h) (fun kr=>by simp [a7q]) (fun w kr h1 h2 h3=> ?_) hN
   obtain ⟨q1,q2⟩:=e2v h2;have ho':=ho _ (a1u q1 q2);have hx:∀y:D,d1l N ((xs.getD w.toNat (.i 0)).cell 0).toS ((xs.getD w.toNat (.i 0)).cell 1).toI ((xs.getD w.toNat (.i 0)).cell 2).toI ((xs.getD w.toNat (.i 0)).cell 3).items ((xs.getD w.toNat (.i 0)).cell 4).items ((xs.getD w.toNat (.i 0)).cell 5).items (y.cell 0).toS (y.cell 1).toI (y.cell 2).toI (y.cell 3).items (y.cell 4).items (y.cell 5).items=some (c0e (xs.getD w.toNat (.i 0)) y):=fun y=>d3T hN ho'.s ho'.l ho'.t
   unfold a7q;rw [h1,h2,h3];simp only [e59,a0b,hx,e6e,getD_some];cases c0e (xs.getD w.toNat (.i 0)) (ys.getD w.toNat (.i 0))<;>rfl
  rw [e];cases a2i c0e xs ys<;>rfl
theorem c5Z (hN:maxLen<N) {v:List D} (hv:v.length≤maxLen):d9p N v v=some true:=by
 have e:b7G N v v v.length 0=some (.inr ()):=by
  unfold b7G;refine (a03 (.i 0:D) (S:=fun w kr=>a7F N v v v.length w kr _ _) (L:=fun m w=>b2V N v v v.length m w _ _) (fun m w=>rfl) (fun _ _=>some (.inr ())) hv ?_ ?_ hN).trans rfl
  ·intro kr;simp [a7F]
  ·intro w kr h0 h1 hw hi hk
   simp only [a7F,decide_eq_true h1,e59,hi,a0b,hw,hk,beq_self_eq_true,Bool.and_true,Bool.not_true,e6a]
 unfold d9p d2M;rw [show ((v.length:Int) !=(v.length:Int))=false by simp,e]
 rfl
theorem c50 (hN:maxLen<N) {v:List D} (hv:v.length≤maxLen):d9s N v v=some true:=by
 have e:b7H N v v v.length 0=some (.inr ()):=by
  unfold b7H;refine (a03 (.i 0:D) (S:=fun w kr=>a7G N v v v.length w kr _ _) (L:=fun m w=>b2W N v v v.length m w _ _) (fun m w=>rfl) (fun _ _=>some (.inr ())) hv ?_ ?_ hN).trans rfl
  ·intro kr;simp [a7G]
  ·intro w kr h0 h1 hw hi hk
   simp only [a7G,decide_eq_true h1,e59,hi,a0b,hw,hk,bne_self_eq_false,e6a]
 unfold d9s d2N;rw [show ((v.length:Int) !=(v.length:Int))=false by simp,e]
 rfl
theorem c9F (hN:maxLen<N) {A:List D} (h1:A.length≤maxLen) (h2:∀x∈A,c80 x):c7Y N A A=some true:=by
 rw [d3U hN h1 h2,c82]
end Go.Proofs.YtcdhfpkfmekabaaGreatDoor
namespace Go.Proofs.YtcdhfpkfmekabaaGreatDoor
open Go Go.AM
variable {N:Nat}
theorem c51 {b:Bool} {t:List D} (h:t.length≤20):∃q,b7I N b t=some q:=by
 have h2:a0X=140737488355328:=rfl;have h3:a0c=9223372036854775807:=rfl;unfold b7I b2X d03 c7N;cases b with
 |true=>exact ⟨.inl (),rfl⟩
 |false=>
  simp only [e6a,decide_eq_true (show (0+t.length)*16≤a0X by omega),decide_eq_true (show 0+t.length≤a0c by omega),Bool.and_self,e59,a0b,a0q,a0r,e6e]
  exact ⟨_,rfl⟩
theorem d3V (hN:maxLen<N) {x:D} (h:a5v x):∃z,a8r N (x.cell 3).items=some (spanD (a1B x))∧c1z N (x.cell 0).toS (x.cell 1).toI (x.cell 2).toI (x.cell 3).items (x.cell 4).items (x.cell 5).items 0 (spanD (a1B x))=some z∧
  ∃r,d9x N (x.cell 0).toS (x.cell 1).toI (x.cell 2).toI (x.cell 3).items (x.cell 4).items (x.cell 5).isNil (x.cell 5).items 0=some r∧r.2.2.2.1=z.2.2.1∧r.2.2.2.2.2.2.2.2.2=0:=by
 obtain ⟨g1,z,g3⟩:=c5M hN h;have hok:ActOk (a4R x) (a1B x) (a3J x) (a10 x):=h.2;have hc:chkA (a4R x) (a2Q x) (a2j x) (a1B x) (a3J x) (a10 x)=0:=h.1;have e37:b1Q N (x.cell 0).toS (x.cell 1).toI (x.cell 2).toI (x.cell 3).items (x.cell 4).items (x.cell 5).items=some 0:=(G37x0_eq hN hok).trans (congrArg some hc);have g1:a8r N (x.cell 3).items=some (spanD (a1B x)):=g1;have g3:c1z N (x.cell 0).toS (x.cell 1).toI (x.cell 2).toI (x.cell 3).items (x.cell 4).items (x.cell 5).items 0 (spanD (a1B x))=some z:=g3;refine ⟨z,g1,g3,?_⟩
 have ht:(x.cell 5).items.length≤20:=(a6S h.1).t;obtain ⟨q,e22⟩:=c51 (N:=N) (b:=(x.cell 5).isNil) ht;unfold d9x d2O;simp only [a0b,e37,e6e,getD_some,e59,bne_self_eq_false,e6a,show e2c N 0 0 1000000=true from rfl,Bool.not_true,g1,g3,e22];cases q with
 |inl u=>exact ⟨_,rfl,rfl,rfl⟩
 |inr b=>exact ⟨_,rfl,rfl,rfl⟩
theorem c0z (hN:maxLen<N) {A:List D} (hA:A.length≤40000000):∀(r:List D) (w m:Nat) (a b c d:Int),A.drop w=r→(∀x∈r,a5v x)→r.length<m→0≤a→a+r.length≤40000000→
  ∃R,a7s N (R:=Int×Int×Int×Int) A A.length m w a b c d some=some R∧a7H N (R:=Sum Unit Int) A A.length m b w (fun p=>some (.inl p)) (fun p=>some (.inr p))=some (.inr R.2.1)∧R.1=a+r.length
 |_,_,0,_,_,_,_,_,_,hm,_,_=>by omega
 | [],w,m+1,a,b,c,d,hd,_,_,_,_=>by
  have hl:=congrArg List.length hd;rw [List.length_drop] at hl;have h1:¬((w:Int)<(A.length:Int)):=by simp at hl;omega
  refine ⟨(a,b,c,d),?_,?_,by simp⟩
  ·simp only [a7s,a9E,decide_eq_false h1,e6a]
  ·simp only [a7H,a95,decide_eq_false h1,e6a]
 | x::r,w,m+1,a,b,c,d,hd,hr,hm,h0,h1=>by
  obtain ⟨b1,b2,b3,b4⟩:=b0Y hd;have hM:maxLen=9223372036854775807:=rfl;have hcA:(w:Int)<(A.length:Int):=by omega
  have hiA:inB (w:Int) A.length=true:=a0D (by omega) (by omega)
  have eA:A.getD ((w:Int)).toNat (.i 0)=x:=by rw [Int.toNat_natCast];exact b2
  have hw:IntKind.wrap .i64 ((w:Int)+1)=((w+1:Nat):Int):=(a0u (by omega) (by omega)).trans (by omega)
  obtain ⟨z,g1,g3,q,g5,g6,g7⟩:=d3V hN (hr x (by simp))
  simp only [e6m] at h1 hm;obtain ⟨R,i1,i2,i3⟩:=c0z hN hA r (w+1) m (a+1) (IntKind.wrap .i64 (b+z.2.2.1)) (IntKind.wrap .i64 (c+z.2.2.2.1)) (IntKind.wrap .i64 (d+z.2.1)) b3 (fun x hx=>hr x (by simp [hx])) (by omega) (by omega) (by omega)
  refine ⟨R,?_,?_,by rw [i3];simp;omega⟩
  ·simp only [a7s,a9E,decide_eq_true hcA,e59,a0b,hiA,eA,g1,g3,e6e,getD_some,hw,a0u (x:=a+1) (by omega) (by omega)]
   exact i1
  ·simp only [a7H,a95,decide_eq_true hcA,e59,a0b,hiA,eA,g5,e6e,getD_some,hw,g6,g7,bne_self_eq_false,e6a]
   exact i2
end Go.Proofs.YtcdhfpkfmekabaaGreatDoor
namespace Go.Proofs.YtcdhfpkfmekabaaGreatDoor
open Go Go.AM
variable {N:Nat}
def b4P (y:D):Prop:=(∀s∈a1B y,Z.SmpT s)∧(∀l∈a3J y,Z.LapT l)∧ ∀t∈a10 y,Z.TagT t
theorem c2d {rs:List D} {tn:Bool} {a:D} (ht:∀t∈a10 a,Z.TagT t):∀y∈a8y rs tn a,b4P y:=by
 intro y hy;unfold a8y at hy;obtain ⟨r,h1,rfl⟩:=List.mem_map.1 hy;refine ⟨fun s hs=> ?_,fun l hl=> ?_,fun t h=> ?_⟩
 ·have hs:s∈r.map (c59 rs (a4T (r.getD 0 (.i 0)))):=hs
  obtain ⟨s',_,rfl⟩:=List.mem_map.1 hs;exact ⟨_,_,_,_,_,_,_,rfl⟩
 ·have hl:l∈(a3e (b95 (b5Q r [])) (b8k (kdB rs 7) (a4T (r.getD 0 (.i 0)))) (a3J a) (true,[])).2:=hl
  rw [a5s,List.nil_append] at hl;obtain ⟨l',_,rfl⟩:=List.mem_map.1 hl;exact ⟨_,_,_,rfl⟩
 ·have h:t∈(bif kdB rs 7 then [] else a10 a):=h
  cases hk:kdB rs 7 with
  |true=>rw [hk] at h;simp at h
  |false=>rw [hk] at h;exact ht t h
theorem c2e {xs l:List D} {lv:Int} (ht:∀a∈l,∀t∈a10 a,Z.TagT t):∀y∈a4S xs lv l,b4P y:=by
 intro y hy;unfold a4S at hy;obtain ⟨a,h1,h2⟩:=List.mem_flatMap.1 hy;exact c2d (ht a h1) y h2
theorem c9G (hN:maxLen<N) {x:D} (h:a5v x) (ht:b4P x) (big:Bool):
  (∃e,a52 N big (x.cell 0).toS (x.cell 1).toI (x.cell 2).toI (x.cell 3).items (x.cell 4).items (x.cell 5).items=some (.inl e)∧e≠0)∨
  ∃b es,(a52 N big (x.cell 0).toS (x.cell 1).toI (x.cell 2).toI (x.cell 3).items (x.cell 4).items (x.cell 5).items=some (.inr (.inl (b,es)))∨a52 N big (x.cell 0).toS (x.cell 1).toI (x.cell 2).toI (x.cell 3).items (x.cell 4).items (x.cell 5).items=some (.inr (.inr (b,es))))∧ ∀y∈es,Z.EntD y:=by
 have hM:maxLen=9223372036854775807:=rfl;have hok:ActOk (a4R x) (a1B x) (a3J x) (a10 x):=h.2;have hokZ:Z.ActOk (a4R x) (a1B x) (a3J x) (a10 x):=⟨hok.n,hok.s,hok.l,hok.t,hok.ln,hok.tn⟩;have hc:chkA (a4R x) (a2Q x) (a2j x) (a1B x) (a3J x) (a10 x)=0:=h.1;have e1:=G37x0_eq (sport:=a2Q x) (start:=a2j x) hN hok;have e2:=Z.G37x0_eq (sport:=a2Q x) (start:=a2j x) hN hokZ;have hcZ:Z.chkA (a4R x) (a2Q x) (a2j x) (a1B x) (a3J x) (a10 x)=0:=(Option.some.inj (e2.symm.trans e1)).trans hc;have s2:=Z.G29x0_eq (N:=N) (xs:=a1B x) hok.s
 by_cases hw:IntKind.wrap .i64 (a2j x+Z.spanD (a1B x))>4294967294
 ·refine .inl ⟨9,?_,by decide⟩
  have:b4l N (a4R x) (a2Q x) (a2j x) (a1B x) (a3J x) (a10 x) big=some (.inl 9):=by
   unfold b4l c5x;simp only [a0b,e1,hc,s2,e6e,getD_some,e59,bne_self_eq_false,e6a,decide_eq_true hw]
  have this:b4l N (x.cell 0).toS (x.cell 1).toI (x.cell 2).toI (x.cell 3).items (x.cell 4).items (x.cell 5).items big=some (.inl 9):=this;unfold a52 a7D;simp only [a0b,this,a0H,a0M,e59]
 ·refine .inr ?_
  have hg:=Z.actG_of hcZ hw ht.1 ht.2.1 ht.2.2;obtain ⟨b,q⟩:=Z.fileOf_prog (N:=N) (big:=big) hN hg.filOk hokZ hcZ hw;refine ⟨b,_,?_,fun y hy=>(Z.filF_T (big:=big) hg false y hy).entD⟩
  rcases q with q|q
  ·have q:b4l N (x.cell 0).toS (x.cell 1).toI (x.cell 2).toI (x.cell 3).items (x.cell 4).items (x.cell 5).items big=_:=q
   left;unfold a52 a7D;simp only [a0b,q,a0q,a0r,a0H,a0M,e59,e6a]
  ·have q:b4l N (x.cell 0).toS (x.cell 1).toI (x.cell 2).toI (x.cell 3).items (x.cell 4).items (x.cell 5).items big=_:=q
   right;unfold a52 a7D;simp only [a0b,q,a0q,a0r,e6e,getD_some,e59,e6a]
theorem c52 {es:List D}:(Z.writeB es).length≤4000000:=by
 unfold Z.writeB;cases h:Z.writeE es !=0 with
 |true=>simp
 | false=>
  simp only [e6a];have h0:Z.writeE es=0:=by simpa using h
  unfold Z.writeE at h0;cases h1:Z.fileE es !=0 with
  |true=>rw [h1] at h0;simp only [e59] at h0;rw [h0] at h1;cases h1
  |false=>
   rw [h1] at h0;simp only [e6a] at h0;by_cases h2:((Z.allB es).length:Int)>4000000
   ·rw [decide_eq_true h2] at h0;cases h0
   ·omega
theorem e49 {bs acc:List D} {f b:Bool} (hb:bs.length≤4000000) (ha:acc.length≤110000000):∃q,a7E N bs f b acc=some q∧(f=true→ ∃b',q= .inl (b',acc++d2K N (bs.length:Int)++bs))∧(f=false→q= .inr ()):=by
 have h2:a0X=140737488355328:=rfl;have h3:a0c=9223372036854775807:=rfl;have h4:(d2K N (bs.length:Int)).length=4:=rfl;unfold a7E b2U;cases f with
 |false=>exact ⟨_,rfl,(fun h=>by cases h),(fun _=>rfl)⟩
 |true=>
  simp only [e59,a0b,h4,e6l,decide_eq_true (show (acc.length+4)*1≤a0X by omega),decide_eq_true (show acc.length+4≤a0c by omega),decide_eq_true (show (acc.length+4+bs.length)*1≤a0X by omega),decide_eq_true (show acc.length+4+bs.length≤a0c by omega),Bool.and_self]
  exact ⟨_,rfl,(fun _=>⟨_,rfl⟩),(fun h=>by cases h)⟩
theorem c5zq (hN:maxLen<N) {big:Bool} {A:List D} (hA:A.length≤40000000) {x:D} {r:List D} {w m:Nat} {f b:Bool} {acc:List D} (hd:A.drop w=x :: r) (hr:a5v x∧b4P x) (ha:acc.length≤100000000)
  (ih:∀(f b:Bool) (acc:List D),acc.length≤100000000→ ∃q,a4I N (R:=Sum (Int×Bool×LD) (Bool×Bool×LD)) big A A.length m f ((w+1:Nat):Int) b acc (fun p=>some (.inl p)) (fun p=>some (.inr p))=some q∧(∀p,q= .inr p→p.2.2.length≤100000000)):
  ∃q,a4I N (R:=Sum (Int×Bool×LD) (Bool×Bool×LD)) big A A.length (m+1) f w b acc (fun p=>some (.inl p)) (fun p=>some (.inr p))=some q∧(∀p,q= .inr p→p.2.2.length≤100000000):=by
 obtain ⟨b1,b2,b3,b4⟩:=b0Y hd;have hM:maxLen=9223372036854775807:=rfl;have hcA:(w:Int)<(A.length:Int):=by omega
 have hiA:inB (w:Int) A.length=true:=a0D (by omega) (by omega)
 have eA:A.getD ((w:Int)).toNat (.i 0)=x:=by rw [Int.toNat_natCast];exact b2
 have hw:IntKind.wrap .i64 ((w:Int)+1)=((w+1:Nat):Int):=(a0u (by omega) (by omega)).trans (by omega)
 have step:∀es:List D,(∀y∈es,Z.EntD y)→ ∃q,(bnd (c5y N es) fun y4=>
    bif y4.isSome then
     bif ((y4.getD default).2.2 !=0) then
      some (Sum.inl ((y4.getD default).2.2,b,acc))
     else
      bnd (bif f then true else (decide ((IntKind.wrap .i64 ((IntKind.wrap .i64 ((acc.length:Int)+4))+((y4.getD default).2.1.length:Int)))>100000000))) fun y5=>
      bnd (a7E N (y4.getD default).2.1 (!y5) b acc) fun y6=>
      bif (a0U y6) then
       a4I N (R:=Sum (Int×Bool×LD) (Bool×Bool×LD)) big A A.length m y5 (IntKind.wrap .i64 ((w:Int)+1)) (a1E y6).1 (a1E y6).2 (fun p=>some (.inl p)) (fun p=>some (.inr p))
      else
       bif (a0n y6).isSome then
        a4I N (R:=Sum (Int×Bool×LD) (Bool×Bool×LD)) big A A.length m y5 (IntKind.wrap .i64 ((w:Int)+1)) b acc (fun p=>some (.inl p)) (fun p=>some (.inr p))
       else
        none
    else
     none)=some q∧(∀p,q= .inr p→p.2.2.length≤100000000):=fun es hes=>by
  obtain ⟨nl,e⟩:=Z.write_eq hN hes;have hbl:=c52 (es:=es);simp only [a0b,e,e6e,getD_some,e59];cases h:Z.writeE es !=0 with
  |true=>exact ⟨_,rfl,fun p hp=>by cases hp⟩
  | false=>
   simp only [e6a];generalize hy:(bif f then true else (decide ((IntKind.wrap .i64 ((IntKind.wrap .i64 ((acc.length:Int)+4))+((Z.writeB es).length:Int)))>100000000)))=y5
   obtain ⟨q,e3,q1,q2⟩:=e49 (N:=N) (f:= !y5) (b:=b) hbl (show acc.length≤110000000 by omega)
   rw [e3];cases y5 with
   |true=>
    obtain rfl:=q2 rfl;simp only [a0q,a0r,e6e,e59,e6a,hw];exact ih true b acc ha
   | false=>
    obtain ⟨b',rfl⟩:=q1 rfl;simp only [a0H,a0M,e59,hw];refine ih false b' _ ?_;have h36:(d2K N ((Z.writeB es).length:Int)).length=4:=rfl;rw [e6l,e6l,h36];cases f with
    |true=>cases hy
    |false=>
     have hy:decide ((IntKind.wrap .i64 ((IntKind.wrap .i64 ((acc.length:Int)+4))+((Z.writeB es).length:Int)))>100000000)=false:=hy;have hy:=of_decide_eq_false hy;rw [a0u (x:=(acc.length:Int)+4) (by omega) (by omega),a0u (by omega) (by omega)] at hy
     omega
 simp only [a4I,a94,decide_eq_true hcA,e59,hiA,eA];rcases c9G hN hr.1 hr.2 big with ⟨e,q,hne⟩|⟨bb,es,q,hes⟩
 ·have hne':(e !=0)=true:=by simpa using hne
  rw [q];simp only [a0b,a0H,a0M,e59,hne'];exact ⟨_,rfl,fun p hp=>by cases hp⟩
 ·rcases q with q|q
  ·rw [q,a0b]
   simp only [a0H,a0q,a0r,a0M,e59,e6a];exact step es hes
  ·rw [q]
   simp only [a0b,a0q,a0r,e6e,getD_some,e59,e6a];exact step es hes
theorem c4z (hN:maxLen<N) {big:Bool} {A:List D} (hA:A.length≤40000000):∀(r:List D) (w m:Nat) (f b:Bool) (acc:List D),A.drop w=r→(∀x∈r,a5v x∧b4P x)→r.length<m→acc.length≤100000000→
  ∃q,a4I N (R:=Sum (Int×Bool×LD) (Bool×Bool×LD)) big A A.length m f w b acc (fun p=>some (.inl p)) (fun p=>some (.inr p))=some q∧(∀p,q= .inr p→p.2.2.length≤100000000)
 |_,_,0,_,_,_,_,_,hm,_=>by omega
 | [],w,m+1,f,b,acc,hd,_,_,ha=>by
  have hl:=congrArg List.length hd;rw [List.length_drop] at hl;have h1:¬((w:Int)<(A.length:Int)):=by simp at hl;omega
  refine ⟨.inr (f,b,acc),by simp only [a4I,a94,decide_eq_false h1,e6a],fun p hp=>by cases hp;exact ha⟩
 | x :: r,w,m+1,f,b,acc,hd,hr,hm,ha=>
  c5zq hN hA hd (hr x (by simp)) ha fun f b acc h=>c4z hN hA r (w+1) m f b acc (b0Y hd).2.2.1 (fun x hx=>hr x (by simp [hx])) (by simp only [e6m] at hm;omega) h
end Go.Proofs.YtcdhfpkfmekabaaGreatDoor
namespace Go.Proofs.YtcdhfpkfmekabaaGreatDoor
open Go Go.AM
variable {N:Nat} {xs l l' S zs:List D} {lv kind x y which:Int} {b b':Bool}
theorem d3W (hN:maxLen<N) (hS:S.length≤40000000) (hr:∀y∈S,a5v y∧b4P y):∃R:Bool×List D×Int,R.2.1.length≤100000000∧ ∀{l:List D} {b:Bool},b63 N xs lv l=some (b,S,0)→b47 N xs lv l true=some R:=by
 have hM:maxLen=9223372036854775807:=rfl;obtain ⟨q,e,hq⟩:=c4z hN (big:=true) hS S 0 N false true [] rfl hr (by omega) (by simp)
 have e:c3Q N true S S.length false 0 true []=some q:=e;cases q with
 |inl p=>
  refine ⟨(true,[],p.1),by simp,fun {l b} e1=> ?_⟩
  unfold b47 c5z;simp only [a0b,e1,e,e6e,getD_some,e59,bne_self_eq_false,e6a,a0H,a0M]
 | inr p=>
  have:=hq p rfl;cases h:p.1 with
  |true=>
   refine ⟨(true,[],3),by simp,fun {l b} e1=> ?_⟩
   unfold b47 c5z;simp only [a0b,e1,e,e6e,getD_some,e59,bne_self_eq_false,e6a,a0q,a0r,h]
  |false=>
   refine ⟨(p.2.1,p.2.2,0),this,fun {l b} e1=> ?_⟩
   unfold b47 c5z;simp only [a0b,e1,e,e6e,getD_some,e59,bne_self_eq_false,e6a,a0q,a0r,h]
theorem d3X (e1:b63 N xs lv l=some (b,S,0)) (e2:b63 N xs lv l'=some (b',S,0)):b4f N xs lv l'=b4f N xs lv l:=by
 unfold b4f c74;simp only [a0b,e1,e2,e6e,getD_some,e59]
theorem d3Y (e1:b63 N xs lv l=some (b,S,0)) (e2:b63 N xs lv l'=some (b',S,0)):b0T N xs lv l' kind zs=b0T N xs lv l kind zs:=by
 unfold b0T c8g;simp only [a0b,e1,e2,e6e,getD_some,e59]
theorem x91 (hN:maxLen<N) {e f g:Int} {c d:List D} {t0 t1 t2 t3:Int} (hc:c.length≤maxLen) (hd:d.length≤maxLen):b4q N e e c f c f d g d g t0 t1 t2 t3 t0 t1 t2 t3=some false:=by
 unfold b4q b7R;simp only [a0b,beq_self_eq_true,Bool.and_self,Bool.not_true,bne_self_eq_false,e6a,c5Z hN hc,c50 hN hd,e6e,getD_some,e59]
def e0f (N : Nat) (xs l l' S zs:List D) (lv kind:Int):Option Bool:=
 bnd (b63 N xs lv l') fun y17=>
 bif y17.isSome then
  bnd (b7Q N S (y17.getD default).2.2 (y17.getD default).2.1) fun y18=>
  bif y18.isSome then
   bif (y18.getD default) then
    some false
   else
    bnd (b4f N xs lv l) fun y6=>
    bif y6.isSome then
     bnd (b4f N xs lv l') fun y19=>
     bif y19.isSome then
      bnd (b0T N xs lv l kind zs) fun y8=>
      bif y8.isSome then
       bnd (b0T N xs lv l' kind zs) fun y20=>
       bif y20.isSome then
        bnd (b47 N xs lv l true) fun y10=>
        bif y10.isSome then
         bnd (b47 N xs lv l' true) fun y21=>
         bif y21.isSome then
          bnd (b4q N (y6.getD default).2.2.2.2 (y19.getD default).2.2.2.2 (y8.getD default).2.1 (y8.getD default).2.2 (y20.getD default).2.1 (y20.getD default).2.2 (y10.getD default).2.1 (y10.getD default).2.2 (y21.getD default).2.1 (y21.getD default).2.2 (y6.getD default).1 (y6.getD default).2.1 (y6.getD default).2.2.1 (y6.getD default).2.2.2.1 (y19.getD default).1 (y19.getD default).2.1 (y19.getD default).2.2.1 (y19.getD default).2.2.2.1) fun y22=>
          bif y22.isSome then
           bif (y22.getD default) then
            some false
           else
            bnd (bif ((y6.getD default).2.2.2.2 !=0) then true else ((y6.getD default).1 !=(S.length:Int))) fun y13=>
            bif y13 then
             some false
            else
             bnd (b2Y N S (S.length:Int) 0 0) fun y14=>
             bif (a0U y14) then
              some false
             else
              bif (a0n y14).isSome then
               bnd (a96 N ((a0n y14).getD default) (y6.getD default).2.1) fun y15=>
               some y15
              else
               none
          else
           none
         else
          none
        else
         none
       else
        none
      else
       none
     else
      none
    else
     none
  else
   none
 else
  none
theorem c9H (hN:maxLen<N) (hS:S.length≤40000000) (hr:∀y∈S,a5v y∧b4P y) (ho:∀y∈S,c80 y) (hcur:∃R,b0T N xs lv l kind zs=some R∧R.2.1.length≤maxLen)
  (e1:b63 N xs lv l=some (b,S,0)) (e2:b63 N xs lv l'=some (b',S,0)):e0f N xs l l' S zs lv kind=some true:=by
 have hM:maxLen=9223372036854775807:=rfl;obtain ⟨C,c1,c2⟩:=hcur;have c3:=(d3Y (kind:=kind) (zs:=zs) e1 e2).trans c1;obtain ⟨X,x1,x2⟩:=d3W (xs:=xs) (lv:=lv) hN hS hr;have x3:=x2 e1;have x4:=x2 e2;obtain ⟨R,r1,r2,r3⟩:=c0z hN hS S 0 N 0 0 0 0 rfl (fun y hy=>(hr y hy).1) (by omega) (by decide) (by omega)
 have r1:c3q N S S.length 0 0 0 0 0=some R:=r1;have r2:b2Y N S S.length 0 0=some (.inr R.2.1):=r2;have t1:b4f N xs lv l=some (R.1,R.2.1,R.2.2.1,R.2.2.2,0):=by
  unfold b4f c74;simp only [a0b,e1,r1,e6e,getD_some,e59,bne_self_eq_false,e6a]
 have t2:=(d3X e1 e2).trans t1;have h67:b7Q N S 0 S=some false:=by
  unfold b7Q b7P;simp only [a0b,bne_self_eq_false,e6a,c9F hN (show S.length≤maxLen by omega) ho,e6e,getD_some,e59,Bool.not_true]
 have hlen:R.1=(S.length:Int):=by rw [r3];simp
 have h130:a96 N R.2.1 R.2.1=true:=by
  unfold a96 b2Z;simp only [beq_self_eq_true,e59]
 unfold e0f;simp only [a0b,e2,h67,t1,t2,c1,c3,x3,x4,x91 hN c2 (show X.2.1.length≤maxLen by omega),e6e,getD_some,e59,e6a,hlen,bne_self_eq_false,r2,a0q,a0r,h130]
end Go.Proofs.YtcdhfpkfmekabaaGreatDoor
namespace Go.Proofs.YtcdhfpkfmekabaaGreatDoor
open Go Go.AM
variable {N:Nat} {xs l S:List D} {lv x y which:Int} {b:Bool}
theorem b5Z {e:Int→Int}:∀(l:List D) (w:Int),(∀i:Nat,i<l.length→e (w+i)=0)→a0g e w l=0
 | [],_,_=>rfl
 | _::r,w,h=>by
  have h0:=h 0 (by simp)
  rw [Int.natCast_zero,Int.add_zero] at h0;rw [a0g,h0];exact b5Z r (w+1) fun i hi=>by
   have:=h (i+1) (by simpa using hi)
   rwa [show w+((i+1:Nat):Int)=w+1+i by omega] at this
theorem b4Q (h:a2k xs lv l=0):c3V xs=0∧inI lv 0 3=true:=by
 unfold a2k at h;obtain ⟨h1,h⟩:=b98 h;obtain ⟨h2,h⟩:=b0W h (by decide)
 exact ⟨by simpa using h1,by simpa using h2⟩
theorem c4A (h1:c3V xs=0) (h2:inI lv 0 3=true) (h:∀a∈l,c5H a=0):a2k xs lv l=0:=by
 unfold a2k;rw [h1,h2];simp only [bne_self_eq_false,e6a,Bool.not_true];refine b5Z _ _ fun i hi=> ?_
 rw [Int.zero_add,Int.toNat_natCast,e6d,e6j hi];exact h _ (List.getElem_mem hi)
theorem c9I (h1:c3V xs=0) (h2:inI lv 0 3=true) (h3:l.length≤2000) (h:∀a∈l,c5H a=0):a2T xs lv l=0:=by
 have:=c4A h1 h2 h;unfold a2k at this;unfold a2T;rw [h1,h2] at this⊢;simp only [bne_self_eq_false,e6a,Bool.not_true,decide_eq_false (show¬(l.length:Int)>2000 by omega)] at this⊢
 exact this
theorem c4B {f:D→List D}:∀(l:List D) (k:Nat) (y:D),f y=f (l.getD k (.i 0))→(l.set k y).flatMap f=l.flatMap f
 | [],_,_,_=>rfl
 |x::r,0,y,h=>by
  simp only [List.set_cons_zero,List.flatMap_cons];rw [h];rfl
 |x::r,k+1,y,h=>by
  simp only [List.set_cons_succ,List.flatMap_cons];rw [c4B r k y (by simpa using h)]
theorem b8f {l:List D} {k:Nat} {y z:D} (h:z∈l.set k y):z∈l∨z=y:=List.mem_or_eq_of_mem_set h
structure d3Z (l:List D):Prop where
 n:l.length≤maxLen
 a:∀a∈l,a7Y a
 t:∀a∈l,aTn a=true→a10 a=[]
 s:∀a∈l,(a.cell 3).isNil=true→a1B a=[]
 y:∀a∈l,∀t∈a10 a,Z.TagT t
theorem c4C (hN:maxLen<N) (hv:a6Q xs) (hL:d3Z l) (h0:a2T xs lv l=0) {k:Nat} (hk:k<l.length) {a:D} (ea:l.getD k (.i 0)=a) {sn2:Bool} {r:List D}
  (hr:r.length=(a.cell 3).items.length) (hc:a2k xs lv [mkA (a.cell 0).toS (a.cell 1).toI (a.cell 2).toI sn2 r (a.cell 4).isNil (a.cell 4).items (a.cell 5).isNil (a.cell 5).items]=0)
  (hvis:c9E (b4y (a5t xs lv) ((a5t xs lv).any (a1f (a.cell 1).toI (a.cell 5).items)) (a.cell 2).toI) r=c9E (b4y (a5t xs lv) ((a5t xs lv).any (a1f (a.cell 1).toI (a.cell 5).items)) (a.cell 2).toI) (a.cell 3).items):
  ∃b',b63 N xs lv (l.set k (mkA (a.cell 0).toS (a.cell 1).toI (a.cell 2).toI sn2 r (a.cell 4).isNil (a.cell 4).items (a.cell 5).isNil (a.cell 5).items))=some (b',a4S xs lv l,0):=by
 have hm:a∈l:=by rw [←ea,e6d,e6j hk];exact List.getElem_mem hk
 have hok:ActOk (a.cell 0).toS (a.cell 3).items (a.cell 4).items (a.cell 5).items:=hL.a a hm;obtain ⟨q1,q2⟩:=a3z h0;obtain ⟨q3,q4⟩:=b4Q q2;have q5:=(a2c q2).2.2;have hy:=(a2c hc).2.2 _ (List.mem_singleton.2 rfl);obtain ⟨b',e⟩:=a8z (lv:=lv) (l:=l.set k (mkA (a.cell 0).toS (a.cell 1).toI (a.cell 2).toI sn2 r (a.cell 4).isNil (a.cell 4).items (a.cell 5).isNil (a.cell 5).items)) hN hv (by rw [List.length_set];exact hL.n)
  (fun z hz=>by
   rcases b8f hz with h|rfl
   ·exact hL.a z h
   ·exact ⟨hok.n,by rw [show (a1B (mkA (a.cell 0).toS (a.cell 1).toI (a.cell 2).toI sn2 r (a.cell 4).isNil (a.cell 4).items (a.cell 5).isNil (a.cell 5).items))=r from rfl,hr];exact hok.s,hok.l,hok.t,hok.ln,hok.tn⟩)
  (fun z hz=>by
   rcases b8f hz with h|rfl
   ·exact hL.t z h
   ·exact hL.t a hm)
 have hf:a2T xs lv (l.set k (mkA (a.cell 0).toS (a.cell 1).toI (a.cell 2).toI sn2 r (a.cell 4).isNil (a.cell 4).items (a.cell 5).isNil (a.cell 5).items))=0:=c9I q3 q4 (by rw [List.length_set];exact q1) fun z hz=>by
  rcases b8f hz with h|rfl
  ·exact q5 z h
  ·exact hy
 have hs:a4S xs lv (l.set k (mkA (a.cell 0).toS (a.cell 1).toI (a.cell 2).toI sn2 r (a.cell 4).isNil (a.cell 4).items (a.cell 5).isNil (a.cell 5).items))=a4S xs lv l:=by
  unfold a4S;refine c4B l k _ ?_;rw [ea];exact d3O (rs:=a5t xs lv) (tn:=(a.cell 5).isNil) (nm:=(a.cell 0).toS) (sp:=(a.cell 1).toI) (st:=(a.cell 2).toI) (sn:=sn2) (sn2:=(a.cell 3).isNil) (ln:=(a.cell 4).isNil) (s:=r) (s2:=(a.cell 3).items) (l:=(a.cell 4).items) (t:=(a.cell 5).items) hvis
 rw [hf,hs] at e;exact ⟨b',e⟩
theorem e5a (hN:maxLen<N) (hv:a6Q xs) (hL:d3Z l) (h0:a2T xs lv l=0) (w0:0≤which) (w1:which<l.length):
  b4s N lv l which x y true xs l=some (.inl true)∨ ∃l' b',b4s N lv l which x y true xs l=some (.inr l')∧b63 N xs lv l'=some (b',a4S xs lv l,0):=by
 have hM:maxLen=9223372036854775807:=rfl;generalize ea:l.getD which.toNat (.i 0)=a;have hk:which.toNat<l.length:=by omega
 have hm:a∈l:=by rw [←ea,e6d,e6j hk];exact List.getElem_mem hk
 have hok:ActOk (a.cell 0).toS (a.cell 3).items (a.cell 4).items (a.cell 5).items:=hL.a a hm;obtain ⟨q1,q2⟩:=a3z h0;obtain ⟨q3,q4⟩:=b4Q q2;have q5:=(a2c q2).2.2 a hm;have hs20:(a.cell 3).items.length≤20000:=(a6S q5).s;have hf0:∀sn,a2k xs lv [mkA (a.cell 0).toS (a.cell 1).toI (a.cell 2).toI sn (a.cell 3).items (a.cell 4).isNil (a.cell 4).items (a.cell 5).isNil (a.cell 5).items]=0:=fun sn=>c4A q3 q4 fun z hz=>by
  rw [List.mem_singleton] at hz;rw [hz];exact q5
 obtain ⟨b1,c1,e1⟩:=b8e (lv:=lv) (sp:=(a.cell 1).toI) (st:=(a.cell 2).toI) (sn:=(a.cell 3).isNil) (ln:=(a.cell 4).isNil) (tn:=(a.cell 5).isNil) hN hv hok;rw [hf0] at e1;simp only [bne_self_eq_false,e6a] at e1;have eH:e3p xs lv (mkA (a.cell 0).toS (a.cell 1).toI (a.cell 2).toI (a.cell 3).isNil (a.cell 3).items (a.cell 4).isNil (a.cell 4).items (a.cell 5).isNil (a.cell 5).items)=b1T (a5t xs lv) ((a5t xs lv).any (a1f (a.cell 1).toI (a.cell 5).items)) (a.cell 2).toI (a.cell 3).items:=rfl;rw [eH] at e1
 generalize hh:b4y (a5t xs lv) ((a5t xs lv).any (a1f (a.cell 1).toI (a.cell 5).items)) (a.cell 2).toI=hid;have hHl:(b1T (a5t xs lv) ((a5t xs lv).any (a1f (a.cell 1).toI (a.cell 5).items)) (a.cell 2).toI (a.cell 3).items).length=(a.cell 3).items.length:=c34;have hiw:inB which l.length=true:=a0D w0 w1;have hlt:decide (which.toNat<l.length)=true:=decide_eq_true hk;have room2:a0X=140737488355328:=rfl;have str2:a0c=9223372036854775807:=rfl;unfold b4s b7V;simp only [e59,hiw,hlt,ea,a0b,e1,e6e,getD_some,bne_self_eq_false,e6a,hHl]
 cases hsn:(a.cell 3).isNil with
 | true=>
  have hs0:(a.cell 3).items=[]:=hL.s a hm hsn;have e31:b21 N true (a.cell 3).items=some (.inl ()):=rfl;obtain ⟨b2,c2,e2⟩:=b8e (lv:=lv) (nm:=(a.cell 0).toS) (s:=[]) (l:=(a.cell 4).items) (t:=(a.cell 5).items) (sp:=(a.cell 1).toI) (st:=(a.cell 2).toI) (sn:=true) (ln:=(a.cell 4).isNil) (tn:=(a.cell 5).isNil) hN hv ⟨hok.n,by simp,hok.l,hok.t,hok.ln,hok.tn⟩
  have hf1:=hf0 true;rw [hs0] at hf1;rw [hf1] at e2;simp only [bne_self_eq_false,e6a] at e2;have e9:b4r N (b1T (a5t xs lv) ((a5t xs lv).any (a1f (a.cell 1).toI (a.cell 5).items)) (a.cell 2).toI (a.cell 3).items) 0 (e3p xs lv (mkA (a.cell 0).toS (a.cell 1).toI (a.cell 2).toI true [] (a.cell 4).isNil (a.cell 4).items (a.cell 5).isNil (a.cell 5).items))=some false:=by
   rw [hs0];unfold b4r a97;rw [c9D hN (by simp [b1T])]
   rfl
  simp only [e31,a0H,e59,e2,e6e,getD_some,e9,e6a];right;obtain ⟨b',e4⟩:=c4C (lv:=lv) (sn2:=true) (r:=[]) hN hv hL h0 hk ea (by rw [hs0]) hf1 (by rw [hs0])
  exact ⟨_,b',rfl,e4⟩
 | false=>
  have e31:b21 N false (a.cell 3).items=some (.inr ((a.cell 3).items.isEmpty&&false)):=by
   unfold b21 b20 e4h e3k;simp only [e6a,decide_eq_true (show (0+(a.cell 3).items.length)*56≤a0X by omega),decide_eq_true (show 0+(a.cell 3).items.length≤a0c by omega),Bool.and_self,e59,a0b,a0q,a0r,e6e,getD_some]
  obtain ⟨r,er,hr,hkeep⟩:=e0e (x:=x) (y:=y) hN hHl hs20;rw [←c19] at er;obtain ⟨b2,c2,e2⟩:=b8e (lv:=lv) (nm:=(a.cell 0).toS) (s:=r) (l:=(a.cell 4).items) (t:=(a.cell 5).items) (sp:=(a.cell 1).toI) (st:=(a.cell 2).toI) (sn:=((a.cell 3).items.isEmpty&&false)) (ln:=(a.cell 4).isNil) (tn:=(a.cell 5).isNil) hN hv ⟨hok.n,by rw [hr];exact hok.s,hok.l,hok.t,hok.ln,hok.tn⟩
  simp only [e31,a0q,a0r,e6e,getD_some,e59,e6a,er,e2];cases hf:a2k xs lv [mkA (a.cell 0).toS (a.cell 1).toI (a.cell 2).toI ((a.cell 3).items.isEmpty&&false) r (a.cell 4).isNil (a.cell 4).items (a.cell 5).isNil (a.cell 5).items] !=0 with
  |true=>
   left;unfold a7I a5r;simp only [hf,e59,e6e,getD_some]
  | false=>
   have hf1:a2k xs lv [mkA (a.cell 0).toS (a.cell 1).toI (a.cell 2).toI ((a.cell 3).items.isEmpty&&false) r (a.cell 4).isNil (a.cell 4).items (a.cell 5).isNil (a.cell 5).items]=0:=by simpa using hf
   have e9:a7I N (b1T (a5t xs lv) ((a5t xs lv).any (a1f (a.cell 1).toI (a.cell 5).items)) (a.cell 2).toI (a.cell 3).items) (a2k xs lv [mkA (a.cell 0).toS (a.cell 1).toI (a.cell 2).toI ((a.cell 3).items.isEmpty&&false) r (a.cell 4).isNil (a.cell 4).items (a.cell 5).isNil (a.cell 5).items])
     (e3p xs lv (mkA (a.cell 0).toS (a.cell 1).toI (a.cell 2).toI ((a.cell 3).items.isEmpty&&false) r (a.cell 4).isNil (a.cell 4).items (a.cell 5).isNil (a.cell 5).items))=some (!(eqL c9S (b1T (a5t xs lv) ((a5t xs lv).any (a1f (a.cell 1).toI (a.cell 5).items)) (a.cell 2).toI (a.cell 3).items) (b1T (a5t xs lv) ((a5t xs lv).any (a1f (a.cell 1).toI (a.cell 5).items)) (a.cell 2).toI r))):=by
    unfold a7I a5r;rw [hf,c9D hN (by rw [hHl];omega)]
    rfl
   simp only [e6a,e9,e6e,getD_some,e59];cases he:eqL c9S (b1T (a5t xs lv) ((a5t xs lv).any (a1f (a.cell 1).toI (a.cell 5).items)) (a.cell 2).toI (a.cell 3).items) (b1T (a5t xs lv) ((a5t xs lv).any (a1f (a.cell 1).toI (a.cell 5).items)) (a.cell 2).toI r) with
   |false=>left;rfl
   | true=>
    simp only [Bool.not_true,e6a];right;have hz:a2i c9S ((a.cell 3).items.map fun z=> .b (hid z)) (r.map fun z=> .b (hid z))=true:=by
     unfold eqL at he;rw [e57] at he;rw [←hh];exact he.2
    have h2:=d41 hr.symm hz;have hvis:c9E hid r=c9E hid (a.cell 3).items:=c4y (AM.All2.of_get hr.symm fun i z z' hz hz'=>by
     refine ⟨h2.get2 hz hz',fun hf=> ?_⟩
     have hi:i<(a.cell 3).items.length:=(e6h.1 hz).1;have h3:=hkeep i hi (by
      have:=c33 (rs:=a5t xs lv) (l:=(a.cell 3).items) (all:=(a5t xs lv).any (a1f (a.cell 1).toI (a.cell 5).items)) (start:=(a.cell 2).toI) (w:=(i:Int)) (by omega) (by omega)
      rw [Int.toNat_natCast,hh] at this;rw [this,e6d,hz];exact hf)
     rw [e6d,e6d,hz,hz'] at h3;exact h3)
    obtain ⟨b',e4⟩:=c4C (lv:=lv) hN hv hL h0 hk ea hr hf1 (by rw [hh];exact hvis)
    exact ⟨_,b',rfl,e4⟩
end Go.Proofs.YtcdhfpkfmekabaaGreatDoor
namespace Go.Proofs.YtcdhfpkfmekabaaGreatDoor
open Go Go.AM
variable {xs l zs:List D} {lv kind x y which:Int} {n1:Bool}
theorem e5X (hv:a6Q xs) (hL:d3Z l) (hz:zs.length≤maxLen) (hn1:n1=true→l=[]):e2o 18446744073709551616 xs lv n1 l which x y kind zs=some true:=by
 have hN:maxLen<18446744073709551616:=by decide
 have hM:maxLen=9223372036854775807:=rfl;generalize 18446744073709551616=N at hN⊢;obtain ⟨b,e1⟩:=a8z (lv:=lv) hN hv hL.n hL.a hL.t;unfold e2o e2n;simp only [a0b,e1,e6e,getD_some,e59];cases hf:a2T xs lv l !=0 with
 |true=>rfl
 | false=>
  have h0:a2T xs lv l=0:=by simpa using hf
  rw [h0] at e1;simp only [bne_self_eq_false,e6a] at e1⊢;obtain ⟨q1,q2⟩:=a3z h0;obtain ⟨r1,r2,r3⟩:=a2c q2;have hg:=b4E q2 hL.t;have hS:(a4S xs lv l).length≤40000000:=c4b q1 hg;have hR:∀y∈a4S xs lv l,a5v y∧b4P y:=fun y hy=>⟨b4H r1 r3 hL.a y hy,c2e hL.y y hy⟩
  have hO:∀y∈a4S xs lv l,c80 y:=fun y hy=>by
   unfold a4S at hy;obtain ⟨a,m1,m2⟩:=List.mem_flatMap.1 hy;exact d3c (hg a m1) y m2
  have hC:∃R,b0T N xs lv l kind zs=some R∧R.2.1.length≤maxLen:=by
   obtain ⟨C,c1,c3⟩:=d3u (lv:=lv) hN hv hL.n hL.a hL.t hz kind;exact ⟨C,c1,by omega⟩
  have hT:∀{l':List D} {b':Bool},b63 N xs lv l'=some (b',a4S xs lv l,0)→e0f N xs l l' (a4S xs lv l) zs lv kind=some true:=fun e2=>c9H hN hS hR hO hC e1 e2
  cases hn:n1 with
  | true=>
   obtain rfl:=hn1 hn;have e13:b7K N true ([]:List D)=some (.inl ()):=rfl;have hy2:(bif (decide (which≥0)) then (decide (which<(([]:List D).length:Int))) else false)=false:=by
    by_cases hw:which≥0
    ·rw [decide_eq_true hw,decide_eq_false (by simp;omega)];rfl
    ·rw [decide_eq_false hw];rfl
   simp only [e13,a0H,e59,hy2];have e20:c3S N lv ([]:List D) which x y false xs=some (.inr ()):=rfl;simp only [e20,a0q,a0r,e6e,e59,e6a];exact hT e1
  | false=>
   have room2:a0X=140737488355328:=rfl;have str2:a0c=9223372036854775807:=rfl;have e13:b7K N false l=some (.inr (l.isEmpty&&false)):=by
    unfold b7K b7J e5k e3i;simp only [e6a,decide_eq_true (show (0+l.length)*104≤a0X by omega),decide_eq_true (show 0+l.length≤a0c by omega),Bool.and_self,e59,a0b,a0q,a0r,e6e,getD_some]
   simp only [e13,a0q,a0r,e6e,e59,e6a];by_cases hw:0≤which∧which<l.length
   ·have hy2:(bif (decide (which≥0)) then (decide (which<(l.length:Int))) else false)=true:=by
     rw [decide_eq_true hw.1,decide_eq_true hw.2];rfl
    simp only [hy2];rcases e5a (x:=x) (y:=y) hN hv hL h0 hw.1 hw.2 with e20|⟨l',b',e20,e4⟩
    ·simp only [e20,a0H,a0M,e59]
    ·simp only [e20,a0q,a0r,e6e,getD_some,e59,e6a]
     exact hT e4
   ·have hy2:(bif (decide (which≥0)) then (decide (which<(l.length:Int))) else false)=false:=by
     by_cases h1:which≥0
     ·rw [decide_eq_true h1,decide_eq_false (by omega)];rfl
     ·rw [decide_eq_false h1];rfl
    have e20:b4s N lv l which x y false xs l=some (.inr l):=rfl;simp only [hy2,e20,a0q,a0r,e6e,getD_some,e59,e6a];exact hT e1
end Go.Proofs.YtcdhfpkfmekabaaGreatDoor
namespace Go.Proofs.YtcdhfpkfmekabaaGreatDoor
open Go Go.AM
theorem e0g:kinds Tryz.prog 24=[.sl 124]:=by kernel_rfl
theorem d30:kinds Tryz.prog 124=[.int .i64,.int .i64,.int .i64,.int .i64,.int .i64,.int .i64,.int .i64,.int .i64,.str]:=by kernel_rfl
theorem e0h:kinds Tryz.prog 36=[.str,.int .i64,.int .i64,.sl 42,.sl 81,.sl 9]:=by kernel_rfl
theorem e0i:kinds Tryz.prog 81=[.int .i64,.int .i64,.str]:=by kernel_rfl
theorem e2T:kinds Tryz.prog 9=[.str]:=by kernel_rfl
theorem e2U:kinds Tryz.prog 3=[.int .i64]:=by kernel_rfl
theorem e0j:kinds Tryz.prog 25=[.sl 36]:=by kernel_rfl
theorem e0k:kinds Tryz.prog 26=[.sl 3]:=by kernel_rfl
theorem e5Y:a0d Tryz.prog 9=false:=by kernel_rfl
theorem e5b {m:Nat} {k:IntKind} {d:D} (h:TyK Tryz.prog m (.int k) d):∃i,d= .i i:=by
 cases m with
 |zero=>exact h.elim
 |succ m=>obtain ⟨i,h1,_⟩:=h;exact ⟨i,h1⟩
theorem e3v {m:Nat} {d:D} (h:TyK Tryz.prog m .str d):∃s,d= .s s∧s.length≤maxLen:=by
 cases m with
 |zero=>exact h.elim
 |succ m=>exact h
theorem sl1 {m:Nat} {e:TypeId} {d:D} (h:TyK Tryz.prog m (.sl e) d):∃nl xs,d= .l nl xs∧xs.length≤maxLen∧(nl=true→xs=[])∧ ∀x∈xs,∃m',b6C Tryz.prog (TyK Tryz.prog m') e x:=by
 cases m with
 |zero=>exact h.elim
 |succ m=>obtain ⟨nl,xs,h1,h0,h2,h3⟩:=h;exact ⟨nl,xs,h1,h2,h0,fun x hx=>⟨m,h3 x hx⟩⟩
theorem e5Z {m:Nat} {x:D} (h:b6C Tryz.prog (TyK Tryz.prog m) 81 x):(x.cell 2).toS.length≤maxLen:=by
 unfold b6C at h;rw [if_pos (show a0d Tryz.prog 81=true by kernel_rfl),e0i] at h
 obtain ⟨cs,rfl,hc⟩:=h;obtain ⟨_,_,rfl,h0,hc⟩:=a0B hc;obtain ⟨_,_,rfl,h1,hc⟩:=a0B hc;obtain ⟨_,_,rfl,h2,hc⟩:=a0B hc;obtain rfl:=a4C hc;obtain ⟨s,rfl,hs⟩:=e3v h2;exact hs
theorem e5z {m:Nat} {x:D} (h:b6C Tryz.prog (TyK Tryz.prog m) 9 x):Z.TagT x∧x.toS.length≤maxLen:=by
 unfold b6C at h;rw [if_neg (by rw [e5Y];simp),e2T] at h
 obtain ⟨k,h1,h2⟩:=h;simp only [List.cons.injEq,and_true] at h1;subst h1;obtain ⟨s,rfl,hs⟩:=e3v h2;exact ⟨⟨s,rfl⟩,hs⟩
theorem e5c {m:Nat} {x:D} (h:b6C Tryz.prog (TyK Tryz.prog m) 124 x):(x.cell 8).toS.length≤maxLen:=by
 unfold b6C at h;rw [if_pos (show a0d Tryz.prog 124=true by kernel_rfl),d30] at h
 obtain ⟨cs,rfl,hc⟩:=h;obtain ⟨_,_,rfl,h0,hc⟩:=a0B hc;obtain ⟨_,_,rfl,h1,hc⟩:=a0B hc;obtain ⟨_,_,rfl,h2,hc⟩:=a0B hc;obtain ⟨_,_,rfl,h3,hc⟩:=a0B hc;obtain ⟨_,_,rfl,h4,hc⟩:=a0B hc;obtain ⟨_,_,rfl,h5,hc⟩:=a0B hc;obtain ⟨_,_,rfl,h6,hc⟩:=a0B hc;obtain ⟨_,_,rfl,h7,hc⟩:=a0B hc;obtain ⟨_,_,rfl,h8,hc⟩:=a0B hc;obtain rfl:=a4C hc;obtain ⟨s,rfl,hs⟩:=e3v h8;exact hs
theorem e3w {m:Nat} {x:D} (h:b6C Tryz.prog (TyK Tryz.prog m) 36 x):a7Y x∧(aTn x=true→a10 x=[])∧((x.cell 3).isNil=true→a1B x=[])∧ ∀t∈a10 x,Z.TagT t:=by
 unfold b6C at h;rw [if_pos (show a0d Tryz.prog 36=true by kernel_rfl),e0h] at h
 obtain ⟨cs,rfl,hc⟩:=h;obtain ⟨_,_,rfl,h0,hc⟩:=a0B hc;obtain ⟨_,_,rfl,h1,hc⟩:=a0B hc;obtain ⟨_,_,rfl,h2,hc⟩:=a0B hc;obtain ⟨_,_,rfl,h3,hc⟩:=a0B hc;obtain ⟨_,_,rfl,h4,hc⟩:=a0B hc;obtain ⟨_,_,rfl,h5,hc⟩:=a0B hc;obtain rfl:=a4C hc;obtain ⟨name,rfl,hn⟩:=e3v h0;obtain ⟨sport,rfl⟩:=e5b h1;obtain ⟨start,rfl⟩:=e5b h2;obtain ⟨a,smps,rfl,l1,n1,e1⟩:=sl1 h3;obtain ⟨b,laps,rfl,l2,_,e2⟩:=sl1 h4;obtain ⟨c,tags,rfl,l3,n3,e3⟩:=sl1 h5
 exact ⟨⟨hn,l1,l2,l3,fun y hy=>by obtain ⟨_,q⟩:=e2 y hy;exact e5Z q,fun y hy=>by obtain ⟨_,q⟩:=e3 y hy;exact (e5z q).2⟩,n3,n1,fun y hy=>by obtain ⟨_,q⟩:=e3 y hy;exact (e5z q).1⟩
theorem e0r {m:Nat} {ds:List D} (h:b0z Tryz.prog m 24 ds):∃nl xs,ds=[.l nl xs]∧a6Q xs:=by
 unfold b0z at h;rw [e0g] at h;obtain ⟨_,_,rfl,h0,h⟩:=a0B h;obtain rfl:=a4C h;obtain ⟨nl,xs,rfl,l1,_,e1⟩:=sl1 h0;exact ⟨nl,xs,rfl,l1,fun x hx=>by obtain ⟨_,q⟩:=e1 x hx;exact e5c q⟩
theorem e50 {m:Nat} {ds:List D} (h:b0z Tryz.prog m 25 ds):∃nl l,ds=[.l nl l]∧d3Z l∧(nl=true→l=[]):=by
 unfold b0z at h;rw [e0j] at h;obtain ⟨_,_,rfl,h0,h⟩:=a0B h;obtain rfl:=a4C h;obtain ⟨nl,l,rfl,l1,n1,e1⟩:=sl1 h0;exact ⟨nl,l,rfl,⟨l1,fun a ha=>by obtain ⟨_,q⟩:=e1 a ha;exact (e3w q).1,fun a ha=>by obtain ⟨_,q⟩:=e1 a ha;exact (e3w q).2.1,fun a ha=>by obtain ⟨_,q⟩:=e1 a ha;exact (e3w q).2.2.1,fun a ha=>by obtain ⟨_,q⟩:=e1 a ha;exact (e3w q).2.2.2⟩,n1⟩
theorem e51 {m:Nat} {ds:List D} (h:b0z Tryz.prog m 26 ds):∃nl xs,ds=[.l nl xs]∧xs.length≤maxLen:=by
 unfold b0z at h;rw [e0k] at h;obtain ⟨_,_,rfl,h0,h⟩:=a0B h;obtain rfl:=a4C h;obtain ⟨nl,xs,rfl,l1,_,_⟩:=sl1 h0;exact ⟨nl,xs,rfl,l1⟩
theorem e2V {m:Nat} {ds:List D} (h:b0z Tryz.prog m 3 ds):∃n,ds=[.i n]:=by
 unfold b0z at h;rw [e2U] at h;obtain ⟨_,_,rfl,h0,h⟩:=a0B h;obtain rfl:=a4C h;obtain ⟨n,rfl⟩:=e5b h0;exact ⟨n,rfl⟩
theorem e0l (m:Nat) (dss:List (List D)) (h:All2 (b0z Tryz.prog m) Tryz.f3.params.toList dss):a2z Tryz.prog 3 (d0r Tryz.prog Tryz.f3.params.toList dss) [] ([.c (.b true)],[]):=by
 have hp:Tryz.f3.params.toList=[24,3,25,3,3,3,3,26]:=by kernel_rfl
 rw [hp] at h⊢;match dss,h with
 | [d0,d1,d2,d3,d4,d5,d6,d7],⟨h0,h1,h2,h3,h4,h5,h6,h7,_⟩=>
  obtain ⟨nv,xs,rfl,hv⟩:=e0r h0;obtain ⟨lv,rfl⟩:=e2V h1;obtain ⟨n1,l,rfl,hL,hn1⟩:=e50 h2;obtain ⟨which,rfl⟩:=e2V h3;obtain ⟨x,rfl⟩:=e2V h4;obtain ⟨y,rfl⟩:=e2V h5;obtain ⟨kind,rfl⟩:=e2V h6;obtain ⟨nz,zs,rfl,hz⟩:=e51 h7;refine e4G 18446744073709551616 _ _ (e4F 18446744073709551616 [.b nv,.l xs,.i lv,.b n1,.l l,.i which,.i x,.i y,.i kind,.b nz,.l zs]) (by kernel_rfl) _ ?_
  have e:e4F 18446744073709551616 [.b nv,.l xs,.i lv,.b n1,.l l,.i which,.i x,.i y,.i kind,.b nz,.l zs]=bnd (e2o 18446744073709551616 xs lv n1 l which x y kind zs) fun q=>[(q.isSome,([.c (.b (q.getD default))],[]))]:=by kernel_rfl
  rw [e,e5X hv hL hz hn1];rfl
theorem Tryz.own:ownKnob Tryz.prog.godebug=none:=by kernel_rfl
theorem Tryz.laidOut:laidOutB Tryz.prog=true:=by kernel_rfl
theorem e2W {H:Type}:b5H (Rows.uptoBulk:DataW H→Nat) Rows.uptoBulkAll:=by
 refine ⟨fun l=> ?_,fun l=> ?_,?_,fun e s=> ?_,fun p=> ?_,?_,fun d r=> ?_⟩
 ·cases l<;>simp [Rows.uptoBulk]
 ·simp [Rows.uptoBulk]
 ·simp [Rows.uptoBulk]
 ·simp only [Rows.uptoBulk];omega
 ·simp [Rows.uptoBulk]
 ·simp [Rows.uptoBulkAll]
 ·simp [Rows.uptoBulkAll]
theorem g0:Tryz.prog.globalNamed "internal/bytealg.MaxLen" =none:=by kernel_rfl
theorem g1:Tryz.prog.globalNamed "internal/strconv.uint64pow10" =some 2:=by kernel_rfl
theorem g2:Tryz.prog.globalNamed "strconv.ErrSyntax" =some 0:=by kernel_rfl
theorem g3:Tryz.prog.globalNamed "strconv.ErrRange" =some 1:=by kernel_rfl
theorem giW {W:World} (hl:laidMetH Tryz.prog Rows.topNothingLeaksRow.laid W) {M:a0A} (hM:∀b o,¬M b o):GI Tryz.prog M W:=by
 have hl:laidMet Tryz.prog Rows.topNothingLeaksRow.laid W:=hl;intro x hx g hg;refine ⟨hM g,?_⟩;simp only [d4b,e6k,List.not_mem_nil,or_false] at hx;rcases hx with rfl|rfl|rfl|rfl
 ·rw [g0] at hg;cases hg
 ·obtain rfl:=Option.some.inj (g1.symm.trans hg)
  obtain ⟨ps,hv,_⟩:=hl;obtain ⟨g,t,cs,fuel,p,q1,q2,q3,q4⟩:=b6G (x:=("internal/strconv.uint64pow10",Rows.laid_internal_strconv_uint64pow10)) hv (by simp [Rows.topNothingLeaksRow])
  obtain rfl:=Option.some.inj ((show (Tryz.prog.globals[2]?).map (·.type)=some 288 by kernel_rfl).symm.trans (by rw [Option.some.inj (g1.symm.trans q1)];exact q2))
  have hcs:=Lib.cells_of_tab (k:= .u64) (zs:=(List.range 20).map fun i=>((10^i:Nat):Int)) (n:=20) (e:=250) (t:=288) (by kernel_rfl) (by kernel_rfl) (by kernel_rfl) (by kernel_rfl) (show DataW.trod _ _ _ _ _ _ fuel 288 cs.toList=some (Lib.tabData .u64 ((List.range 20).map fun i=>((10^i:Nat):Int)),p) from q4)
  refine d5z (k:= .u64) (zs:=(List.range 20).map fun i=>((10^i:Nat):Int)) g1 (show W.var? Tryz.prog _=_ by rw [q3,←hcs]) (by simp) fun i p z h1 h2=> ?_
  rw [List.getElem?_map] at h1 h2;obtain ⟨j,j1,rfl⟩:=Option.map_eq_some_iff.1 h1;rw [j1] at h2;simp only [e6r,e55] at h2;subst h2;rfl
 ·obtain rfl:=Option.some.inj (g2.symm.trans hg)
  exact c7n (t:=236) hl (show ("strconv.ErrSyntax",Rows.laid_strconv_ErrSyntax)∈Rows.topNothingLeaksRow.laid by simp [Rows.topNothingLeaksRow]) g2 (by kernel_rfl) (by kernel_rfl)
 ·obtain rfl:=Option.some.inj (g3.symm.trans hg)
  exact c7n (t:=236) hl (show ("strconv.ErrRange",Rows.laid_strconv_ErrRange)∈Rows.topNothingLeaksRow.laid by simp [Rows.topNothingLeaksRow]) g3 (by kernel_rfl) (by kernel_rfl)
abbrev e52:ByteArray:={data:= #[105,110,118,97,108,105,100,32,115,121,110,116,97,120]}
abbrev e53:ByteArray:={data:= #[118,97,108,117,101,32,111,117,116,32,111,102,32,114,97,110,103,101]}
def low:Nat:=(World.holding Tryz.prog default ⟨#[], #[],[]⟩).heap.size
def e0m {H:Type}:DataW H→Array Value
 | .agg l=>(l.map fun| .lit (.int k n)=>Value.int k n|_=>undef).toArray
 |_=> #[]
def e2X (h:Array Obj) (g:Nat) (vs:Array Value):Array Obj:=h.modify g fun
 | .cells _ t fr=> .cells vs t fr
 |o=>o
def b4R (os:Os):World:=
 let w0:=World.holding Tryz.prog os ⟨#[.cells #[.string e52] 285,.cells #[.string e53] 285], #[],[]⟩
 { w0 with heap:=e2X (e2X (e2X (e2X (e2X w0.heap 2 (e0m (H:=Unit) Rows.laid_internal_strconv_uint64pow10)) 0 #[.iface 283 (.pointer (some ⟨low,0,none⟩))]) 1 #[.iface 283 (.pointer (some ⟨low+1,0,none⟩))])
   3 (e0m (H:=Unit) Rows.laid_math_bits_deBruijn32tab)) 4 (e0m (H:=Unit) Rows.laid_math_bits_deBruijn64tab)}
def e3x:Value:= .agg #[.slice none 0 0]
def b50:Value:= .int .i64 0
def d42:Value:= .slice none 0 0
def e54 {H:Type}:DataW H:= .agg [.nil]
def e2Y {H:Type}:DataW H:= .lit (.int .i64 0)
def e5A {H:Type}:DataW H:= .nil
theorem d31 (os:Os):laidMet Tryz.prog Rows.topNothingLeaksRow.laid ((b4R os).forCall (fun _ _=>0) ⟨#[], #[e3x,b50,d42,b50,b50,b50,b50,d42],[]⟩).memory:=
 laidMet_of_run' 8 (by kernel_rfl) (by kernel_rfl)
theorem reads (os:Os) {H:Type} (enc:TypeId×Value→H):∃places,DataW.whole enc Tryz.prog ((b4R os).forCall (fun _ _=>0) ⟨#[], #[e3x,b50,d42,b50,b50,b50,b50,d42],[]⟩).memory Tryz.f3.params.toList Rows.topNothingLeaksSpec.vars false #[e3x,b50,d42,b50,b50,b50,b50,d42].toList 8=some ([e54,e2Y,e5A,e2Y,e2Y,e2Y,e2Y,e5A],[],places):=
 ⟨[],by kernel_rfl⟩
theorem e2Z (os:Os) (started:os.Started) (H:Type) (enc:TypeId×Value→H) (F:Stop.Interp):
  ReturnsInHanded {} Tryz.checked os 3 .any ((OpenSpec.ofChange Rows.topNothingLeaksSpec).preRow enc Tryz.prog Tryz.f3 Rows.topNothingLeaksRow.domain false Rows.topNothingLeaksRow.laid) (((OpenSpec.ofChange Rows.topNothingLeaksSpec).at F).post enc Tryz.prog Tryz.f3 false true false false):=by
 obtain ⟨places,hx⟩:=reads os enc;refine returnsInHanded_of_row (C:=Tryz.checked) (s:=OpenSpec.ofChange Rows.topNothingLeaksSpec) Tryz.own started (by kernel_rfl) Tryz.func3
  (witness_row_at (enc:=enc) (C:=Tryz.checked) false (b4R os) #[e3x,b50,d42,b50,b50,b50,b50,d42] rfl (by kernel_rfl) (by kernel_rfl) (by kernel_rfl)
   (OpenSpec.preRow_of_cond 8 hx (by kernel_rfl) (fun k hk=>by cases hk) (by kernel_rfl) (d31 os))) ?_
 intro W base args ds gs before hval hW _ _ _ hL hsh _;exact c7m (tb:=4) e2W [124,36,42,81,9,3] (by kernel_rfl) Tryz.laidOut rfl (by kernel_rfl) (by kernel_rfl) (by kernel_rfl) (fun l hl=>by
  rw [show Tryz.f3.params.size=8 by kernel_rfl] at hl
  match l,hl with
  | [_,_,_,_,_,_,_,_],_=>rfl) (fun m dss h _=>e0l m dss h) (fun hM=>giW hL hM) hval hW
theorem d43:Tryz.pinned.checked.prog.funcNamed "harrier/harriertop.TopNothingLeaks" =some 3:=by kernel_rfl
theorem e0n:joinedFacts Tryz.pinned.checked.prog 3 Tryz.f3 (OpenSpec.ofChange Rows.topNothingLeaksSpec).bare Rows.topNothingLeaksRow=true:=by
 simp only [joinedFacts,e57]
 repeat' apply And.intro
 all_goals (as_aux_lemma=>kernel_rfl)
theorem e5e:Rows.TopNothingLeaksSaid:=
 OpenClaim.holds_of_cond 3 Tryz.f3 rfl rfl rfl rfl rfl rfl rfl ⟨rfl,rfl,rfl,rfl,rfl⟩ rfl rfl rfl rfl rfl d43 Tryz.func3 e0n
  (of_decide_eq_true (by as_aux_lemma=>kernel_rfl)) (by unfold Func.isWrapper;first|(rw [if_pos (by decide+kernel)];kernel_rfl)|(rw [if_neg (by decide+kernel)];exact ⟨rfl,rfl⟩))
  (fun os started H enc _ F=>by rw [OpenClaim.pre_eq_preRow];exact e2Z os started H enc F)
theorem e21 (f:FuncId) (fn:Func) (hf:Tryz.pinned.checked.prog.funcNamed "harrier/harriertop.TopNothingLeaks" =some f) (hfn:Tryz.pinned.checked.prog.funcs[f]? =some fn):
  true=Tryz.pinned.checked.prog.looks []∧ ∀(j:Nat) t,fn.params[j]? =some t→Tryz.pinned.checked.prog.wantsStandIn t=false:=by
 obtain rfl:f=3:=Option.some.inj (d43.symm.trans hf)|>.symm;obtain rfl:fn=Tryz.f3:=(Option.some.inj (Tryz.func3.symm.trans hfn)).symm;refine ⟨by as_aux_lemma=>kernel_rfl,fun j t ht=> ?_⟩
 have hp:Tryz.f3.params= #[24,3,25,3,3,3,3,26]:=by kernel_rfl
 rw [hp] at ht;match j,ht with
 |0,ht=>(obtain rfl:24=t:=by simpa using ht);exact (show Tryz.prog.wantsStandIn 24=false by kernel_rfl)
 |1,ht=>(obtain rfl:3=t:=by simpa using ht);exact (show Tryz.prog.wantsStandIn 3=false by kernel_rfl)
 |2,ht=>(obtain rfl:25=t:=by simpa using ht);exact (show Tryz.prog.wantsStandIn 25=false by kernel_rfl)
 |3,ht=>(obtain rfl:3=t:=by simpa using ht);exact (show Tryz.prog.wantsStandIn 3=false by kernel_rfl)
 |4,ht=>(obtain rfl:3=t:=by simpa using ht);exact (show Tryz.prog.wantsStandIn 3=false by kernel_rfl)
 |5,ht=>(obtain rfl:3=t:=by simpa using ht);exact (show Tryz.prog.wantsStandIn 3=false by kernel_rfl)
 |6,ht=>(obtain rfl:3=t:=by simpa using ht);exact (show Tryz.prog.wantsStandIn 3=false by kernel_rfl)
 |7,ht=>(obtain rfl:26=t:=by simpa using ht);exact (show Tryz.prog.wantsStandIn 26=false by kernel_rfl)
 |j+8,ht=>simp at ht
theorem leaks_holds:Rows.TopNothingLeaksCardSaid:=
 Claim7.holds_tied_plain_at .later [] _ _ _ _ e5e (fun _ h=>by cases h) (by as_aux_lemma=>kernel_rfl) (fun _ h=>by cases h) topNothingLeaks_row_tie rfl ⟨rfl,rfl⟩ (by as_aux_lemma=>kernel_rfl) rfl e21 (by as_aux_lemma=>kernel_rfl)
end Go.Proofs.YtcdhfpkfmekabaaGreatDoor
end
