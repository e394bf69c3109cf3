/- Proved: for every veil, level, log, kind and sizes, veil.SeeAll, veil.Totals and veil.Curve answer what the reference package answers, and a small veil tells just what the document says (VeilTotalsMatchSpec returns true and leaves its arguments as they were). Conditions: none beyond those of the given statement. -/
import Derived.Test.YtajladplkpfaiaaGreatPl1
import Derived.KernelRfl
import Derived.Test.YtajladplkpfaiaaGreatRows
set_option linter.all false
set_option maxRecDepth 100000
set_option maxHeartbeats 4000000
noncomputable section
namespace Go.Proofs.YtajladplkpfaiaaGreat
open Go Go.AM
variable {N:Nat} {a b zs:List D}
def c6H (a b:List D):List D:=bif (a87 a==0)&&(a87 b==0) then c09 a b else []
def c9R (a b:List D):Bool:= !((a87 a==0)&&(a87 b==0))
theorem d3T (hN:maxLen<N) (hla:a.length≤1000000) (hlb:b.length≤1000000) (hs:a87 a=0→a87 b=0→a.map a3L=b.map a3L):
  (∃e,c6n N a b=some (c9R a b,c6H a b,e))∧(b09 N b a=some (.inr (c9R a b,c6H a b))∨(b09 N b a=some (.inl ())∧c9R a b=true∧c6H a b=[])):=by
 by_cases ha:a87 a=0
 ·by_cases hb:a87 b=0
  ·have h1:=d3S hN ha hb (hs ha hb)
   have h2:=e0p hN ha hb (hs ha hb);have e1:c9R a b=false:=by unfold c9R;rw [ha,hb];rfl
   have e2:c6H a b=c09 a b:=by unfold c6H;rw [ha,hb];rfl
   rw [e1,e2];refine ⟨⟨0,h1⟩,.inl ?_⟩;unfold b09 b08;rw [h2];rfl
  ·have n:(a87 b==0)=false:=by simpa using hb
   have n':(a87 b !=0)=true:=by simpa using hb
   have e1:c9R a b=true:=by unfold c9R;rw [n];simp
   have e2:c6H a b=[]:=by unfold c6H;rw [n];simp
   rw [e1,e2];refine ⟨⟨a87 b,?_⟩,.inr ⟨?_,rfl,rfl⟩⟩
   ·unfold c6n c6m
    rw [a8h hN hla,a8h hN hlb,ha];simp only [a0b,e4M,e4H,getD_some,c5i hN,show ((0:Int) !=0)=false from rfl,e4I,n']
   ·unfold b09 b08 c87 c6p d20 c6o
    rw [b0l hN hla,b0l hN hlb,ha];simp only [a0b,e4M,e4H,getD_some,show ((0:Int) !=0)=false from rfl,e4I,n'];rfl
 ·have n:(a87 a==0)=false:=by simpa using ha
  have n':(a87 a !=0)=true:=by simpa using ha
  have e1:c9R a b=true:=by unfold c9R;rw [n];rfl
  have e2:c6H a b=[]:=by unfold c6H;rw [n];rfl
  rw [e1,e2];refine ⟨⟨a87 a,?_⟩,.inr ⟨?_,rfl,rfl⟩⟩
  ·unfold c6n c6m
   rw [a8h hN hla,a8h hN hlb];simp only [a0b,e4M,e4H,getD_some,c5i hN,n']
  ·unfold b09 b08 c87 c6p d20 c6o
   rw [b0l hN hla];simp only [a0b,e4M,e4H,getD_some,n'];rfl
def c9F (zs out:List D):Prop:=out=[]∨out.map a3L=zs.map fun x=> .i x.toI
theorem e0q (hab:b.length=a.length) (h:a.map a3L=b.map a3L):(c09 a b).map a3L=a.map a3L:=by
 rw [←c2W a b hab];clear hab;induction a generalizing b with
 |nil=>cases b<;>rfl
 |cons x r ih=>
  match b,h with
  |y::s,h=>
  simp only [List.map_cons,List.cons.injEq] at h;rw [e0o,List.map_cons,List.map_cons,ih h.2];congr 1
  unfold c9Q e2y;cases btr x y
  ·rfl
  ·exact h.1.symm
end Go.Proofs.YtajladplkpfaiaaGreat
namespace Go.Proofs.YtajladplkpfaiaaGreat
open Go Go.AM
variable {N:Nat} {zs:List D} {kind:Int}
theorem c2X (hN:maxLen<N) (h1:1≤kind) (h2:kind≤5) {x:D} (h:b5x x):
  (a14 kind (a2f x)).length≤maxLen∧d2D N (a6m x) (a3V x) (a3W x) (a2f x) (a6c x) (a27 x) kind=some (false,a14 kind (a2f x),0)∧
  ∃nl,b5R N (a6m x) (a3V x) (a3W x) (a2f x) (a6c x) (a27 x) kind=some (nl,a14 kind (a2f x),0):=by
 have hM:maxLen=9223372036854775807:=rfl;obtain ⟨s1,s2,s3⟩:=b6D h;have hok:c2n (a6m x) (a2f x) (a6c x) (a27 x):=h.2;have hc:c1d (a6m x) (a3V x) (a3W x) (a2f x) (a6c x) (a27 x)=0:=h.1;obtain ⟨p1,p2,p3,p4⟩:=a00 hN h1 h2 s1 s2 s3;refine ⟨by omega,?_,a4f hN h1 h2 s1 s2 s3 (by rw [b8J hN hok,hc])⟩
 unfold d2D d2C;rw [b8I hN hok,hc];simp only [a0b,e4M,e4H,getD_some,show ((0:Int) !=0)=false from rfl,e4I,b3R,show inI kind 1 5=true from decide_eq_true ⟨h1,h2⟩,Bool.not_true,p1]
theorem c5q (l:List D):b82 l zs=[]∨(b82 l zs).map a3L=zs.map fun x=> .i x.toI:=by
 unfold b82;cases c07 l zs !=0 with
 |true=>exact .inl rfl
 |false=>refine .inr ?_;rw [e4I,List.map_map];rfl
theorem b84:a87 []≠0:=by decide
theorem c9G (hz:zs.length≤100) {out:List D} (h:c9F zs out):out.length≤100:=by
 rcases h with rfl|h
 ·simp
 ·have:=congrArg List.length h;simp at this;omega
theorem e0r (hz:zs.length≤100) {out:List D} (h:c9F zs out) (l:List D):(a87 out=0→a87 (b82 l zs)=0→out.map a3L=(b82 l zs).map a3L)∧c9F zs (c6H out (b82 l zs)):=by
 have hs:a87 out=0→a87 (b82 l zs)=0→out.map a3L=(b82 l zs).map a3L:=by
  intro h1 h2;rcases h with rfl|h
  ·exact absurd h1 b84
  ·rcases c5q (zs:=zs) l with e|e
   ·rw [e] at h2;exact absurd h2 b84
   ·rw [h,e]
 refine ⟨hs,?_⟩;by_cases hb:((a87 out==0)&&(a87 (b82 l zs)==0))=true
 ·have hb':=hb
  simp only [e4F,beq_iff_eq] at hb';have e:=hs hb'.1 hb'.2;right;unfold c6H;rw [hb,e4H,e0q (by have:=congrArg List.length e;simpa using this.symm) e]
  rcases h with rfl|h
  ·exact absurd hb'.1 b84
  ·exact h
 ·left
  unfold c6H;rw [Bool.not_eq_true] at hb;rw [hb];rfl
theorem c5r (hN:maxLen<N) (h1:1≤kind) (h2:kind≤5) (hz:zs.length≤100) {A B:List D} (hA:A.length≤40000000) (hAB:B.length=A.length):∀(r s:List D) (w m:Nat) (fl:Bool) (out:List D),A.drop w=r→B.drop w=s→r.map b8U=s.map b8U→(∀x∈r,b5x x)→r.length<m→c9F zs out→
  ∃R,b06 N (R:=Bool×LD) kind zs A A.length m fl out w (fun p=>some p)=some R∧b1a N (R:=Bool×LD) kind zs B B.length m w fl out (fun p=>some p)=some R∧c9F zs R.2
 |_,_,_,0,_,_,_,_,_,_,hm,_=>by omega
 | [],s,w,m+1,fl,out,hd,_,_,_,_,ho=>by
  have hl:=congrArg List.length hd;rw [List.length_drop] at hl;have h1:¬((w:Int)<(A.length:Int)):=by simp at hl;omega
  have h2:¬((w:Int)<(B.length:Int)):=by omega
  refine ⟨(fl,out),?_,?_,by assumption⟩
  ·simp only [b06,b5e,decide_eq_false h1,e4I]
  ·simp only [b1a,b5g,decide_eq_false h2,e4I]
 | x::r,s,w,m+1,fl,out,hd,hs,hk,hr,hm,ho=>by
  match s,hk with
  |y::s,hk=>
  simp only [List.map_cons,List.cons.injEq] at hk;obtain ⟨hxy,hk⟩:=hk;obtain ⟨b1,b2,b3,b4⟩:=a4y hd;obtain ⟨c1,c2,c3,c4⟩:=a4y hs;have hM:maxLen=9223372036854775807:=rfl;have hcA:(w:Int)<(A.length:Int):=by omega
  have hcB:(w:Int)<(B.length:Int):=by omega
  have hiA:inB (w:Int) A.length=true:=a0M (by omega) (by omega)
  have hiB:inB (w:Int) B.length=true:=a0M (by omega) (by omega)
  have eA:A.getD ((w:Int)).toNat (.i 0)=x:=by rw [Int.toNat_natCast];exact b2
  have eB:B.getD ((w:Int)).toNat (.i 0)=y:=by rw [Int.toNat_natCast];exact c2
  have hw:IntKind.wrap .i64 ((w:Int)+1)=((w+1:Nat):Int):=(a0H (by omega) (by omega)).trans (by omega)
  obtain ⟨q0,q1,nl,q2⟩:=c2X hN h1 h2 (hr x (by simp))
  generalize hl:a14 kind (a2f x)=l at q0 q1 q2;simp only [b8U,e4Y] at hxy;obtain ⟨k0,k1,k2,k3,k4,k5⟩:=hxy;rw [k0,k1,k2,k3,k4,k5] at q2;have q1:d2D N (x.cell 0).toS (x.cell 1).toI (x.cell 2).toI (x.cell 3).items (x.cell 4).items (x.cell 5).items kind=some (false,l,0):=q1;have q2:b5R N (y.cell 0).toS (y.cell 1).toI (y.cell 2).toI (y.cell 3).items (y.cell 4).items (y.cell 5).items kind=some (nl,l,0):=q2;have u1:=c5j (N:=N) (zs:=zs) hN q0 (by omega)
  have u2:=e0m (N:=N) (zs:=zs) hN q0 (by omega)
  obtain ⟨t1,t2⟩:=e0r hz ho l;have hcl:(b82 l zs).length≤1000000:=by
   rcases c5q (zs:=zs) l with e|e
   ·rw [e];simp
   ·have:=congrArg List.length e;simp at this;omega
  obtain ⟨⟨e,v1⟩,v2⟩:=d3T (N:=N) (a:=out) (b:=b82 l zs) hN (by have:=c9G hz ho;omega) hcl t1
  obtain ⟨R,i1,i2,i3⟩:=c5r hN h1 h2 hz hA hAB r s (w+1) m (c9R out (b82 l zs)) (c6H out (b82 l zs)) b3 c3 hk (fun x hx=>hr x (by simp [hx])) (by simp at hm;omega) t2
  refine ⟨R,?_,?_,i3⟩
  ·simp only [b06,b5e,decide_eq_true hcA,e4H,a0b,hiA,eA,q1,u1,v1,e4M,getD_some,hw]
   exact i1
  ·simp only [b1a,b5g,decide_eq_true hcB,e4H,a0b,hiB,eB,q2,u2,e4M,getD_some,hw]
   rcases v2 with v2|⟨v2,v3,v4⟩
   ·rw [v2];exact i2
   ·rw [v2];rw [v3,v4] at i2;exact i2
end Go.Proofs.YtajladplkpfaiaaGreat
namespace Go.Proofs.YtajladplkpfaiaaGreat
open Go Go.AM
variable {N:Nat} {xs l zs:List D} {lv kind:Int}
def d4N (x:D):D:= .a [.i x.toI,.i 0,.i 0,.b false]
theorem b6G (hz:zs.length≤100):∀(d m i:Nat) (fl:Bool) (acc:List D),d<m→i+d=zs.length→acc.length=i→
  b07 N (R:=Bool×LD) zs zs.length m i fl acc (fun p=>some p)=some (bif decide (0<d) then false else fl,acc++(zs.drop i).map d4N)
 |d,0,i,fl,acc,hm,_,_=>by omega
 |0,m+1,i,fl,acc,hm,hi,_=>by
  have:¬((i:Int)<(zs.length:Int)):=by omega
  simp only [b07,b5f,decide_eq_false this,e4I];rw [List.drop_eq_nil_of_le (by omega)]
  simp
 | d+1,m+1,i,fl,acc,hm,hi,ha=>by
  have hlt:(i:Int)<(zs.length:Int):=by omega
  have hin:inB (i:Int) zs.length=true:=a0M (by omega) (by omega)
  have hg:zs.getD ((i:Int)).toNat (.i 0)=zs.getD i (.i 0):=by rw [Int.toNat_natCast]
  have hw:IntKind.wrap .i64 ((i:Int)+1)=((i+1:Nat):Int):=(a0H (by omega) (by omega)).trans (by omega)
  have hr:(decide ((acc.length+1)*32≤a1K)&&decide ((acc.length+1)≤a0g))=true:=by
   have e1:a1K=140737488355328:=rfl;have e2:a0g=9223372036854775807:=rfl;rw [decide_eq_true (by omega),decide_eq_true (by omega)];rfl
  have ih:=b6G hz d m (i+1) false (acc++[d4N (zs.getD i (.i 0))]) (by omega) (by omega) (by simp;omega)
  simp only [b07,b5f,decide_eq_true hlt,e4H,hin,a0b,hg,hw,hr];refine Eq.trans ih ?_;rw [decide_eq_true (by omega:0<d+1),e4V]
  have hd:zs.drop i=zs.getD i (.i 0)::zs.drop (i+1):=by
   rw [List.drop_eq_getElem_cons (by omega),e4L,e4R (by omega)];rfl
  rw [hd,List.map_cons];cases decide (0<d)<;>rfl
theorem c9H (h:szE zs=0):c07 [] zs=0∧b82 [] zs=zs.map d4N:=by
 have e:c07 [] zs=0:=by
  unfold c07;rw [show c2O []=0 from rfl,h];rfl
 refine ⟨e,?_⟩;obtain ⟨_,_,z3⟩:=b1Z h;unfold b82;rw [e];show zs.map (b81 [])=_;refine List.map_congr_left fun x hx=> ?_
 obtain ⟨i,hi,rfl⟩:=List.getElem_of_mem hx;have:=z3 i hi;rw [e4L,e4R hi] at this;simp only [Option.getD_some] at this;unfold b81 d4N;rw [show ([]:List D).length+1-(zs[i]).toI.toNat=0 by simp only [List.length_nil];omega]
 rfl
theorem d3U (hN:maxLen<N) (hv:a4R xs) (hl:l.length≤maxLen) (ha:∀a∈l,a4w a) (hn:∀a∈l,aTn a=true→a27 a=[]) (hz:zs.length≤maxLen) (kind:Int):
  ∃R,e3X N xs lv l kind zs=some R∧e31 N xs lv l kind zs=some R∧R.2.1.length≤100:=by
 have hM:maxLen=9223372036854775807:=rfl;obtain ⟨b,e1⟩:=a86 (lv:=lv) hN hv hl ha hn;unfold e3X e2T e31 e2U;rw [e1,c2L hN hv ha];simp only [a0b,e4M,e4H,getD_some];cases h:a15 xs lv l !=0 with
 |true=>exact ⟨(true,[],a15 xs lv l),by simp only [e4H],by simp only [e4H],by simp⟩
 | false=>
  simp only [e4I,a3t,a38];cases hk:inI kind 1 5 with
  |false=>exact ⟨(true,[],7),rfl,rfl,by simp⟩
  | true=>
   have hk':=of_decide_eq_true hk;simp only [Bool.not_true,e4I];rw [c5j hN (Nat.zero_le _) hz,b8X hN hz];simp only [e4M,e4H,getD_some];have hcE:c07 [] zs=szE zs:=by unfold c07;rw [show c2O []=0 from rfl];rfl
   rw [hcE];cases h3:szE zs !=0 with
   |true=>exact ⟨(true,[],szE zs),by simp only [e4H],by simp only [e4H],by simp⟩
   |false=>
    have h30:szE zs=0:=by simpa using h3
    obtain ⟨z1,z2,_⟩:=b1Z h30;obtain ⟨_,f2⟩:=c9H h30;have hp:0<zs.length:=List.length_pos_iff.2 z1;have fl:=b6G (N:=N) z2 zs.length N 0 true [] (by omega) (by omega) rfl
    rw [decide_eq_true hp] at fl;have fl:c88 N zs zs.length 0 true []=some (false,zs.map d4N):=fl;have h0:a15 xs lv l=0:=by simpa using h
    obtain ⟨q1,q2⟩:=a3J h0;obtain ⟨r1,_,r3⟩:=a4x q2;obtain ⟨b',e2⟩:=c2M (N:=N) (lv:=lv) hN r1 q1 (a4z q2 hn);have hsl:=b8W (xs:=xs) (lv:=lv) q1 (a4z q2 hn);have hkk:=b8V (xs:=xs) (lv:=lv) (l:=l);have hkl:(b1e xs lv l).length=(a8m xs lv l).length:=by have:=congrArg List.length hkk;simpa using this.symm
    obtain ⟨R,i1,i2,i3⟩:=c5r (N:=N) hN hk'.1 hk'.2 z2 hsl hkl (a8m xs lv l) (b1e xs lv l) 0 N false (zs.map d4N) rfl rfl hkk (b5y r1 r3 ha) (by omega) (.inr (by rw [List.map_map];rfl))
    have i1:c84 N kind zs (a8m xs lv l) (a8m xs lv l).length false (zs.map d4N) 0=some R:=i1;have i2:c89 N kind zs (b1e xs lv l) (b1e xs lv l).length 0 false (zs.map d4N)=some R:=i2;refine ⟨(R.1,R.2,0),?_,?_,c9G z2 i3⟩
    ·simp only [e4I,f2,i1,e4M,e4H,getD_some]
    ·simp only [e4I,fl,e2,i2,e4M,e4H,getD_some]
end Go.Proofs.YtajladplkpfaiaaGreat
namespace Go.Proofs.YtajladplkpfaiaaGreat
open Go Go.AM
variable {N:Nat} {xs l zs:List D} {lv kind:Int}
theorem c6I (hN:maxLen<N) {v:List D} (hv:v.length≤maxLen):d9U N v v=some true:=by
 have e:b8A N v v v.length 0=some (.inr ()):=by
  unfold b8A;refine (a0E (.i 0:D) (S:=fun w kr=>a8c N v v v.length w kr _ _) (L:=fun m w=>b3L N v v v.length m w _ _) (fun m w=>rfl) (fun _ _=>some (.inr ())) hv ?_ ?_ hN).trans rfl
  ·intro kr;simp [a8c]
  ·intro w kr h0 h1 hw hi hk
   simp only [a8c,decide_eq_true h1,e4H,hi,a0b,hw,hk,beq_self_eq_true,Bool.and_true,Bool.not_true,e4I]
 unfold d9U d26;rw [show ((v.length:Int) !=(v.length:Int))=false by simp,e]
 rfl
theorem c9I:∀{A B:List D},A.map b8U=B.map b8U→a2x b5X A B=true
 | [],[],_=>rfl
 | [],_::_,h=>by simp at h
 |_::_,[],h=>by simp at h
 | x::r,y::s,h=>by
  simp only [List.map_cons,List.cons.injEq] at h;have e:b5X x y=true:=by
   have hk:=h.1;simp only [b8U,e4Y] at hk;obtain ⟨k0,k1,k2,k3,k4,k5⟩:=hk;unfold b5X;rw [k0,k1,k2,k3,k4,k5];exact c6t
  unfold a2x;rw [e,c9I h.2];rfl
theorem e2z {A B:List D} (h:A.map b8U=B.map b8U):eqL b5X A B=true:=by
 have hl:A.length=B.length:=by have:=congrArg List.length h;simpa using this
 unfold eqL;rw [c9I h,hl];simp
theorem e4C (hv:a4R xs) (hl:l.length≤maxLen) (ha:∀a∈l,a4w a) (hn:∀a∈l,aTn a=true→a27 a=[]) (hz:zs.length≤maxLen) (kind:Int):e2l 18446744073709551616 xs lv l kind zs=some true:=by
 have hN:maxLen<18446744073709551616:=by decide
 have hM:maxLen=9223372036854775807:=rfl;have ht:=d93;generalize 18446744073709551616=N at hN ht⊢;obtain ⟨b,e1⟩:=a86 (lv:=lv) hN hv hl ha hn;obtain ⟨b',e2⟩:=c6C (lv:=lv) hN hv ha hn;obtain ⟨T,t1,t2⟩:=c9x (lv:=lv) hN hv hl ha hn;obtain ⟨C,c1,c2,c3⟩:=d3U (lv:=lv) hN hv hl ha hn hz kind;have hs:d25 N (bif a15 xs lv l !=0 then [] else a8m xs lv l) (bif a15 xs lv l !=0 then [] else b1e xs lv l)=some true:=by
  cases h:a15 xs lv l !=0 with
  |true=>simp only [e4H];rw [c48 hN (by simp) (by simp)];rfl
  | false=>
   simp only [e4I];have h0:a15 xs lv l=0:=by simpa using h
   obtain ⟨q1,q2⟩:=a3J h0;have hg:=a4z q2 hn;rw [c48 hN (by have:=b8W (xs:=xs) (lv:=lv) q1 hg;omega) (fun x hx=>by
    unfold a8m at hx;obtain ⟨a,m1,m2⟩:=List.mem_flatMap.1 hx;exact d3y (hg a m1) x m2),e2z b8V]
 unfold e2l e2k;simp only [e1,e2,t1,t2,c1,c2,a0b,e4M,e4H,getD_some];unfold c9a b8B;simp only [hs,a0b,e4M,e4H,getD_some,beq_self_eq_true,Bool.and_true,Bool.and_self,c6I hN (show C.2.1.length≤maxLen by omega),ht]
end Go.Proofs.YtajladplkpfaiaaGreat
namespace Go.Proofs.YtajladplkpfaiaaGreat
open Go Go.AM
theorem e0s:a0c Tryz.prog 24=[.sl 67]:=by kernel_rfl
theorem e0t:a0c Tryz.prog 67=[.int .i64,.int .i64,.int .i64,.int .i64,.int .i64,.int .i64,.int .i64,.int .i64,.str]:=by kernel_rfl
theorem e0u:a0c Tryz.prog 51=[.str,.int .i64,.int .i64,.sl 69,.sl 95,.sl 9]:=by kernel_rfl
theorem e0v:a0c Tryz.prog 95=[.int .i64,.int .i64,.str]:=by kernel_rfl
theorem e2A:a0c Tryz.prog 9=[.str]:=by kernel_rfl
theorem e2B:a0c Tryz.prog 3=[.int .i64]:=by kernel_rfl
theorem e0w:a0c Tryz.prog 25=[.sl 51]:=by kernel_rfl
theorem e0x:a0c Tryz.prog 26=[.sl 3]:=by kernel_rfl
theorem e0y {ds:List D} (h:b0H Tryz.prog 6 24 ds):∃nl xs,ds=[.l nl xs]∧a4R xs:=by
 unfold b0H at h;rw [e0s] at h;obtain ⟨_,_,rfl,h0,h⟩:=a0A h;obtain rfl:=a4J h;obtain ⟨nl,xs,rfl,_,l1,e1⟩:=c55 (m:=5) h0;refine ⟨nl,xs,rfl,l1,fun x hx=> ?_⟩
 have h:=e1 x hx;unfold c1O at h;rw [if_pos (show a0d Tryz.prog 67=true by kernel_rfl),e0t] at h
 obtain ⟨cs,rfl,hc⟩:=h;obtain ⟨_,_,rfl,h0,hc⟩:=a0A hc;obtain ⟨_,_,rfl,h1,hc⟩:=a0A hc;obtain ⟨_,_,rfl,h2,hc⟩:=a0A hc;obtain ⟨_,_,rfl,h3,hc⟩:=a0A hc;obtain ⟨_,_,rfl,h4,hc⟩:=a0A hc;obtain ⟨_,_,rfl,h5,hc⟩:=a0A hc;obtain ⟨_,_,rfl,h6,hc⟩:=a0A hc;obtain ⟨_,_,rfl,h7,hc⟩:=a0A hc;obtain ⟨_,_,rfl,h8,hc⟩:=a0A hc;obtain rfl:=a4J hc;obtain ⟨_,rfl,hl⟩:=c3A h8;exact hl
theorem d4O {ds:List D} (h:b0H Tryz.prog 6 3 ds):∃n,ds=[.i n]:=by
 unfold b0H at h;rw [e2B] at h;obtain ⟨_,_,rfl,h0,h⟩:=a0A h;obtain rfl:=a4J h;obtain ⟨n,rfl,hw⟩:=c7O (m:=5) h0;exact ⟨n,rfl⟩
theorem e0z {ds:List D} (h:b0H Tryz.prog 6 26 ds):∃nl xs,ds=[.l nl xs]∧xs.length≤maxLen:=by
 unfold b0H at h;rw [e0x] at h;obtain ⟨_,_,rfl,h0,h⟩:=a0A h;obtain rfl:=a4J h;obtain ⟨nl,xs,rfl,_,l1,_⟩:=c55 (m:=5) h0;exact ⟨nl,xs,rfl,l1⟩
theorem d4P {m:Nat} {x:D} (h:c1O Tryz.prog (TyK Tryz.prog (m+2)) 51 x):a4w x∧(aTn x=true→a27 x=[]):=by
 unfold c1O at h;rw [if_pos (show a0d Tryz.prog 51=true by kernel_rfl),e0u] at h
 obtain ⟨cs,rfl,hc⟩:=h;obtain ⟨_,_,rfl,h0,hc⟩:=a0A hc;obtain ⟨_,_,rfl,h1,hc⟩:=a0A hc;obtain ⟨_,_,rfl,h2,hc⟩:=a0A hc;obtain ⟨_,_,rfl,h3,hc⟩:=a0A hc;obtain ⟨_,_,rfl,h4,hc⟩:=a0A hc;obtain ⟨_,_,rfl,h5,hc⟩:=a0A hc;obtain rfl:=a4J hc;obtain ⟨name,rfl,hn⟩:=c3A h0;obtain ⟨sport,rfl,_⟩:=c7O h1;obtain ⟨start,rfl,_⟩:=c7O h2;obtain ⟨a,smps,rfl,_,l1,e1⟩:=c55 h3;obtain ⟨b,laps,rfl,_,l2,e2⟩:=c55 h4;obtain ⟨c,tags,rfl,hc,l3,e3⟩:=c55 h5;refine ⟨⟨hn,l1,l2,l3,fun y hy=> ?_,fun y hy=> ?_⟩,hc⟩
 ·have h:=e2 y hy
  unfold c1O at h;rw [if_pos (show a0d Tryz.prog 95=true by kernel_rfl),e0v] at h
  obtain ⟨cs,rfl,hc⟩:=h;obtain ⟨_,_,rfl,h0,hc⟩:=a0A hc;obtain ⟨_,_,rfl,h1,hc⟩:=a0A hc;obtain ⟨_,_,rfl,h2,hc⟩:=a0A hc;obtain rfl:=a4J hc;obtain ⟨_,rfl,hl⟩:=c3A h2;exact hl
 ·have h:=e3 y hy
  unfold c1O at h;have:a0d Tryz.prog 9=false:=by kernel_rfl
  rw [if_neg (by rw [this];simp),e2A] at h
  obtain ⟨k,hk,h⟩:=h;simp only [List.cons.injEq,and_true] at hk;subst hk;obtain ⟨_,rfl,hl⟩:=c3A h;exact hl
theorem e0A {ds:List D} (h:b0H Tryz.prog 6 25 ds):∃nl l,ds=[.l nl l]∧l.length≤maxLen∧(∀a∈l,a4w a)∧(∀a∈l,aTn a=true→a27 a=[]):=by
 unfold b0H at h;rw [e0w] at h;obtain ⟨_,_,rfl,h0,h⟩:=a0A h;obtain rfl:=a4J h;obtain ⟨nl,xs,rfl,_,l1,e1⟩:=c55 (m:=5) h0;exact ⟨nl,xs,rfl,l1,fun a ha=>(d4P (m:=3) (e1 a ha)).1,fun a ha=>(d4P (m:=3) (e1 a ha)).2⟩
theorem Try.own:ownKnob Tryz.prog.godebug=none:=by kernel_rfl
theorem Try.laidOut:laidOutB Tryz.prog=true:=by kernel_rfl
theorem e0B (dss:List (List D)) (h:a0q (b0H Tryz.prog 6) Tryz.f3.params.toList dss):a3x Tryz.prog 3 (d0r Tryz.prog Tryz.f3.params.toList dss) [] ([.c (.b true)],[]):=by
 have hp:Tryz.f3.params.toList=[24,3,25,3,26]:=by kernel_rfl
 rw [hp] at h⊢;match dss,h with
 | [d0,d1,d2,d3,d4],⟨h0,h1,h2,h3,h4,_⟩=>
  obtain ⟨n0,xs,rfl,hv⟩:=e0y h0;obtain ⟨lv,rfl⟩:=d4O h1;obtain ⟨n1,l,rfl,hl,ha,hn⟩:=e0A h2;obtain ⟨kind,rfl⟩:=d4O h3;obtain ⟨n2,zs,rfl,hz⟩:=e0z h4;refine e36 18446744073709551616 _ _ (e35 18446744073709551616 [.b n0,.l xs,.i lv,.b n1,.l l,.i kind,.b n2,.l zs]) (by kernel_rfl) _ ?_
  have e:e35 18446744073709551616 [.b n0,.l xs,.i lv,.b n1,.l l,.i kind,.b n2,.l zs]=bnd (e2l 18446744073709551616 xs lv l kind zs) fun q=>[(q.isSome,([.c (.b (q.getD default))],[]))]:=by kernel_rfl
  rw [e,e4C hv hl ha hn hz];rfl
theorem c9J (os:Os) (started:os.Started) (H:Type) (enc:TypeId×Value→H):
  ReturnsInHanded {} Tryz.checked os 3 .any (Rows.veilTotalsMatchSpecSpec.pre6 enc Tryz.prog Tryz.f3 Rows.veilTotalsMatchSpecRow.domain false) (Rows.veilTotalsMatchSpecSpec.post enc Tryz.prog Tryz.f3 false true false false):=by
 refine returnsInHanded_of_change (C:=Tryz.checked) Try.own started (by kernel_rfl) Tryz.func3
  (ChangeSpec.witness6 (enc:=enc) (C:=Tryz.checked) false ⟨#[], #[.agg #[.slice none 0 0],.int .i64 0,.slice none 0 0,.int .i64 0,.slice none 0 0],[]⟩ 8 (by kernel_rfl) (by kernel_rfl) (by kernel_rfl) (by kernel_rfl)) ?_
 intro W base args ds gs before hval hW _ _;exact d0u (m:=6) (tb:=4) Try.laidOut rfl (by kernel_rfl) (by kernel_rfl) (by kernel_rfl) (fun l hl=>by
  rw [show Tryz.f3.params.size=5 by kernel_rfl] at hl
  match l,hl with
  | [_,_,_,_,_],_=>rfl) e0B (fun _=>d5f (by kernel_rfl)) hval hW
theorem totals_holds:Rows.VeilTotalsMatchSpecSaid:=
 OpenClaim.holds_of_wide 3 Tryz.f3 rfl rfl rfl rfl rfl rfl rfl ⟨rfl,rfl,rfl,rfl,rfl⟩ rfl rfl rfl rfl rfl (by kernel_rfl) Tryz.func3 (by kernel_rfl)
  (of_decide_eq_true (by kernel_rfl)) (by unfold Func.isWrapper;first|(rw [if_pos (by decide+kernel)];kernel_rfl)|(rw [if_neg (by decide+kernel)];exact ⟨rfl,rfl⟩))
  (fun os started H enc _=>c9J os started H enc)
end Go.Proofs.YtajladplkpfaiaaGreat
end
