/- A part of a proof of a law: lemmas. Conditions: those of each lemma. -/
import Derived.Test.YtiegikkpipdleaaGreatDoorPl1
import Derived.KernelRfl
import Derived.Test.YtiegikkpipdleaaGreatDoorRows
import Derived.Test.YtiegikkpipdleaaGreatDoorCards
import Derived.Test.YtiegikkpipdleaaGreatDoorTie
import Derived.Deep.DeepHandedRow
import Derived.ProofKit
set_option linter.all false
set_option maxRecDepth 100000
set_option maxHeartbeats 4000000
noncomputable section
namespace Go.Proofs.YtiegikkpipdleaaGreatDoor
open Go Go.AM
variable {N:Nat}
def a5b (slot g:Int) (fs:List D) (big:Bool):D:= .a [.i 1,.i slot,.i 0,.l false [.a [.b big,.i g,.l false fs]],.l true []]
def a2E (slot:Int) (b:List D):D:= .a [.i 2,.i slot,.i 0,.l true [],.l false b]
def d77 (off:Int) (b:List D):D:= .a [.i 3,.i 1,.i off,.l true [],.l false b]
abbrev tF:D:= .a [.i 253,.i 4,.i 0]
def txB (s:List UInt8):List D:=a0u s++List.replicate (60-s.length) (.i 0)
def nm2 (v:Int):Int:=bif decide (v<0) then 65535 else v
abbrev fs0:List D:=[tF,.a [.i 1,.i 60,.i 2],.a [.i 2,.i 1,.i 0]]
abbrev fs3:List D:=[.a [.i 1,.i 60,.i 2]]
abbrev fs2:List D:=[tF,.a [.i 1,.i 4,.i 0],.a [.i 2,.i 60,.i 2]]
abbrev fs1:List D:=[tF,.a [.i 0,.i 4,.i 1],.a [.i 1,.i 4,.i 1],.a [.i 2,.i 4,.i 1],.a [.i 3,.i 2,.i 0],.a [.i 4,.i 2,.i 0],.a [.i 5,.i 2,.i 0]]
def tmA (st:Int) (x:D):Int:=IntKind.wrap .i64 (st+(x.cell 0).toI)
def tmB (st:Int) (x:D):Int:=IntKind.wrap .i64 (st+(x.cell 1).toI)
def a7C (big:Bool) (s:D):List D:=nb4 (s.cell 1).toI big++(nb4 (s.cell 2).toI big++(nb4 (s.cell 3).toI big++(nb2 (nm2 (s.cell 4).toI) big++(nb2 (nm2 (s.cell 5).toI) big++nb2 (nm2 (s.cell 6).toI) big))))
def c3q (big:Bool) (st:Int) (l:D):List D:=nb4 (tmA st l) big++(nb4 (tmB st l) big++txB (l.cell 2).toS)
def a4v:Option Int→D→Bool
 |none,_=>false
 |some p,s=>decide (IntKind.wrap .i64 ((s.cell 0).toI-p)<32)
def d8F (W big:Bool) (st:Int) (prev:Option Int) (s:D):D:=bif !W&&a4v prev s then d77 ((tmA st s).tmod 32) (a7C big s) else a2E 1 (nb4 (tmA st s) big++a7C big s)
def a2X (W big:Bool) (st:Int):Option Int→List D→List D
 |_,[]=>[]
 |prev,s::r=>d8F W big st prev s::a2X W big st (some (s.cell 0).toI) r
def ifE (xs:List D) (d:D):List D:=bif decide ((xs.length:Int)>0) then [d] else []
def a50 (W:Bool) (name:List UInt8) (sport st:Int) (ss ls ts:List D) (big:Bool):List D:=
 [a5b 0 0 fs0 big,a2E 0 (nb4 st big++(txB name++nb1 sport))]++ifE ts (a5b 3 30 fs3 big)++ts.map (fun t=>a2E 3 (txB t.toS))++ifE ls (a5b 2 19 fs2 big)++ls.map (fun l=>a2E 2 (c3q big st l))++ifE ss (a5b 1 20 fs1 big)++a2X W big st none ss
def a64:List D→List D
 | []=>[]
 |p::r=>p.items++a64 r
section
variable {ps acc:List D} {slot:Int}
theorem e35 (h:acc.length≤100000):(decide ((acc.length+1)*72≤a0L)&&decide (acc.length+1≤a0d))=true:=by
 rw [decide_eq_true (by unfold a0L;omega),decide_eq_true (by unfold a0d;omega)];rfl
theorem d1e (hN:maxLen<N) (hl:ps.length≤20) (hp:∀p∈ps,p.items.length≤100):d5n N ps ps.length 0 true []=some ((a64 ps).isEmpty,a64 ps):=by
 have hm:maxLen=9223372036854775807:=rfl;have key:=a2w (A:=Int×Bool×LD) (X:=Option (Bool×LD)) (S:=fun x kr=>b4v N ps ps.length x.1 x.2.1 x.2.2 (fun a b c=>kr (a,b,c)) (fun p=>some p)) (L:=fun m x=>b87 N ps ps.length m x.1 x.2.1 x.2.2 (fun p=>some p)) (fun m x=>rfl)
  (fun x=>some ((x.2.2++a64 (ps.drop x.1.toNat)).isEmpty,x.2.2++a64 (ps.drop x.1.toNat))) (fun x=>0≤x.1∧x.1≤ps.length∧x.2.1=x.2.2.isEmpty∧(x.2.2.length:Int)≤100*x.1) (fun x=>(ps.length-x.1).toNat) ?_ N (0,true,[]) ⟨by show (0:Int)≤0;omega,by show (0:Int)≤_;omega,rfl,by simp⟩ (by simp;omega)
 ·exact Eq.trans key (by simp)
 ·rintro ⟨w,b,l⟩ kr ⟨h0,h1,h2,h3⟩ ih
  simp only at h0 h1 h2 h3 ih⊢;unfold b4v;by_cases hw:w<ps.length
  ·have hx:=hp _ (a0R (fs:=ps) h0 hw)
   rw [decide_eq_true hw,a0K h0 hw,a05 (.i 0) h0 hw];have r1:decide ((l.length+(ps.getD w.toNat (.i 0)).items.length)*1≤a0L)=true:=decide_eq_true (by unfold a0L;omega)
   have r2:decide (l.length+(ps.getD w.toNat (.i 0)).items.length≤a0d)=true:=decide_eq_true (by unfold a0d;omega)
   simp only [f6B,r1,r2,Bool.and_self,a0s (x:=w+1) (by omega) (by omega),a64]
   rw [ih (w+1,(ps.getD w.toNat (.i 0)).items.isEmpty&&b,l++(ps.getD w.toNat (.i 0)).items) ⟨by simp only;omega,by simp only;omega,by show _=(l++_).isEmpty;rw [h2];cases l<;>cases (ps.getD w.toNat (.i 0)).items<;>rfl,by simp only [f6N];omega⟩ (by simp only;omega)]
   simp
  ·have:w=ps.length:=by omega
   subst this;rw [decide_eq_false hw,a0U (by omega)]
   simp [a64,h2]
theorem c3r (hN:maxLen<N) (hl:ps.length≤20) (hp:∀p∈ps,p.items.length≤100):c3h N ps ps.length 0 true []=some ((a64 ps).isEmpty,a64 ps):=by
 have hm:maxLen=9223372036854775807:=rfl;have key:=a2w (A:=Int×Bool×LD) (X:=Option (Bool×LD)) (S:=fun x kr=>b5k N ps ps.length x.1 x.2.1 x.2.2 (fun a b c=>kr (a,b,c)) (fun p=>some p)) (L:=fun m x=>b5l N ps ps.length m x.1 x.2.1 x.2.2 (fun p=>some p)) (fun m x=>rfl)
  (fun x=>some ((x.2.2++a64 (ps.drop x.1.toNat)).isEmpty,x.2.2++a64 (ps.drop x.1.toNat))) (fun x=>0≤x.1∧x.1≤ps.length∧x.2.1=x.2.2.isEmpty∧(x.2.2.length:Int)≤100*x.1) (fun x=>(ps.length-x.1).toNat) ?_ N (0,true,[]) ⟨by show (0:Int)≤0;omega,by show (0:Int)≤_;omega,rfl,by simp⟩ (by simp;omega)
 ·exact Eq.trans key (by simp)
 ·rintro ⟨w,b,l⟩ kr ⟨h0,h1,h2,h3⟩ ih
  simp only at h0 h1 h2 h3 ih⊢;unfold b5k;by_cases hw:w<ps.length
  ·have hx:=hp _ (a0R (fs:=ps) h0 hw)
   rw [decide_eq_true hw,a0K h0 hw,a05 (.i 0) h0 hw];have r1:decide ((l.length+(ps.getD w.toNat (.i 0)).items.length)*1≤a0L)=true:=decide_eq_true (by unfold a0L;omega)
   have r2:decide (l.length+(ps.getD w.toNat (.i 0)).items.length≤a0d)=true:=decide_eq_true (by unfold a0d;omega)
   simp only [f6B,r1,r2,Bool.and_self,a0s (x:=w+1) (by omega) (by omega),a64]
   rw [ih (w+1,(ps.getD w.toNat (.i 0)).items.isEmpty&&b,l++(ps.getD w.toNat (.i 0)).items) ⟨by simp only;omega,by simp only;omega,by show _=(l++_).isEmpty;rw [h2];cases l<;>cases (ps.getD w.toNat (.i 0)).items<;>rfl,by simp only [f6N];omega⟩ (by simp only;omega)]
   simp
  ·have:w=ps.length:=by omega
   subst this;rw [decide_eq_false hw,a0U (by omega)]
   simp [a64,h2]
theorem b7H (hN:maxLen<N) (hl:ps.length≤20) (hp:∀p∈ps,p.items.length≤100) (hne:(a64 ps).isEmpty=false) (ha:acc.length≤100000):b5W N slot ps acc=some (acc++[a2E slot (a64 ps)])∧b5m N slot ps acc=some (acc++[a2E slot (a64 ps)]):=by
 unfold b5W c9Y b5m d7G;simp only [a0i];rw [d1e hN hl hp,c3r hN hl hp,hne,e35 ha];exact ⟨rfl,rfl⟩
theorem b7I {g:Int} {fs:List D} {big:Bool} (ha:acc.length≤100000):c2p N slot g false fs big acc=some (acc++[a5b slot g fs big])∧b5j N slot g false fs big acc=some (acc++[a5b slot g fs big]):=by
 unfold c2p d5s b5j d7E;rw [e35 ha];exact ⟨rfl,rfl⟩
end
section
variable {big:Bool}
theorem c0o (hN:maxLen<N) {v:Int} (h:0≤v):a3S N v 4 false big=some (nb4 v big)∧a2V N v 4 big=some (nb4 v big):=by
 unfold a3S c2m a7u a40 a2V b95 a9y a9x;have e:(v== -1)=false:=by simp;omega
 rw [decide_eq_false (show¬v<0 by omega),e]
 simp only [a0i,f6C,f6G,getD_some,f6B];rw [d7S hN,e7v hN];exact ⟨rfl,rfl⟩
theorem e2v (hN:maxLen<N) (v:Int):a3S N v 4 true big=some (nb4 v big):=by
 unfold a3S c2m a7u a40;have e:(bif decide (v<0) then !true else false)=false:=by cases decide (v<0)<;>rfl
 rw [e];simp only [a0i,f6C,f6G,getD_some,f6B];rw [d7S hN];rfl
theorem c5T (hN:maxLen<N) {v:Int} (h: -1≤v):a3S N v 2 false big=some (nb2 (nm2 v) big)∧a2V N v 2 big=some (nb2 (nm2 v) big):=by
 unfold a3S c2m a7u a40 a2V b95 a9y a9x nm2;by_cases hv:v<0
 ·have:v= -1:=by omega
  subst this;rw [b2W (.inr (.inl rfl))];simp only [a0i];refine ⟨?_,?_⟩
  ·show (bif (a8I N 65535 2 big).isSome then some ((a8I N 65535 2 big).getD default) else none)=_
   rw [e2a hN];rfl
  ·show (bif (a3b N 65535 2 big).isSome then some ((a3b N 65535 2 big).getD default) else none)=_
   rw [e7u hN];rfl
 ·have e:(v== -1)=false:=by simp;omega
  rw [decide_eq_false hv,e];simp only [a0i,f6C,f6G,getD_some,f6B];rw [e2a hN,e7u hN];exact ⟨rfl,rfl⟩
theorem e7L (hN:maxLen<N) {v:Int} (h:0≤v):a3S N v 1 false big=some (nb1 v)∧a2V N v 1 big=some (nb1 v):=by
 unfold a3S c2m a7u a40 a2V b95 a9y a9x;have e:(v== -1)=false:=by simp;omega
 rw [decide_eq_false (show¬v<0 by omega),e]
 simp only [a0i,f6C,f6G,getD_some,f6B];rw [f25 hN,f43 hN];exact ⟨rfl,rfl⟩
theorem a4w (s:List UInt8):(a0u s).length=s.length:=by simp [a0u]
theorem a1R {s:List UInt8} (h:s.length≤60):(txB s).length=60:=by
 unfold txB;simp [a4w];omega
theorem c5U {s:List UInt8} (h:s.length≤60):c9W N s=txB s∧b94 N s=some (txB s):=by
 have h64:a0d=9223372036854775807:=rfl;have hr:a0L=140737488355328:=rfl;constructor
 ·show (a0u s).take 60++(List.replicate 60 (D.i 0)).drop (a0u s).length=txB s
  rw [List.take_of_length_le (by rw [a4w];exact h),List.drop_replicate,a4w]
  rfl
 ·unfold b94 d7F
  have e1:Nat.ble s.length a0d=true:=Nat.ble_eq_true_of_le (by omega)
  have e2:IntKind.wrap .i64 (60-(s.length:Int))=60-(s.length:Int):=a0s (by omega) (by omega)
  have e3:(60-(s.length:Int)).toNat=60-s.length:=by omega
  rw [e1,e2,e3,decide_eq_true (show (0:Int)≤60-s.length by omega),decide_eq_true (by rw [a4w];omega),decide_eq_true (by rw [a4w];omega)]
  rfl
end
structure f5I (st:Int) (s:D):Prop where
 t:0≤tmA st s
 p: -1≤(s.cell 4).toI
 w: -1≤(s.cell 5).toI
 k: -1≤(s.cell 6).toI
structure f5J (st:Int) (l:D):Prop where
 f:0≤tmA st l
 t:0≤tmB st l
 n:(l.cell 2).toS.length≤60
section
variable {ss ls ts acc:List D} {st:Int} {big:Bool}
theorem nbp (v:Int):(D.l false (nb4 v big)).items.length≤100:=by show (nb4 v big).length≤100;rw [a0t];omega
theorem nbq (v:Int):(D.l false (nb2 v big)).items.length≤100:=by show (nb2 v big).length≤100;rw [a3P];omega
theorem txp {s:List UInt8} (h:s.length≤60):(D.l false (txB s)).items.length≤100:=by show (txB s).length≤100;rw [a1R h];omega
theorem a4x {l:List D} {n:Nat} (h:l.length=n+1):l.isEmpty=false:=by cases l with|nil=>simp at h|cons=>rfl
theorem d78 (hN:maxLen<N) (hl:ts.length≤20000) (ht:∀x∈ts,x.toS.length≤60):∀(m:Nat) (i:Int) (b b2:Bool) (acc:List D),0≤i→i≤ts.length→(ts.length-i).toNat<m→(acc.length:Int)≤100+i→
  (∃b',b4z N ts ts.length m i b acc (fun p=>some p)=some (b',acc++(ts.drop i.toNat).map (fun t=>a2E 3 (txB t.toS))))∧(∃b',a6H N ts ts.length m i b2 acc (fun p=>some p)=some (b',acc++(ts.drop i.toNat).map (fun t=>a2E 3 (txB t.toS)))):=by
 have hm:maxLen=9223372036854775807:=rfl;intro m;induction m with
 |zero=>intro i b b2 acc _ _ h;omega
 | succ m ih=>
  intro i b b2 acc h0 h1 hmm ha;unfold b4z b9b a6H b7n;by_cases hi:i<ts.length
  ·have hx:=ht _ (a0R (fs:=ts) h0 hi)
   obtain ⟨t1,t2⟩:=c5U (N:=N) hx;have e:a64 [.l false (txB (ts.getD i.toNat (.i 0)).toS)]=txB (ts.getD i.toNat (.i 0)).toS:=by simp only [a64,D.items,List.append_nil]
   obtain ⟨q1,q2⟩:=b7H (N:=N) (slot:=3) (acc:=acc) (ps:=[.l false (txB (ts.getD i.toNat (.i 0)).toS)]) hN (by simp) (by simp only [List.mem_singleton,forall_eq];exact txp hx) (a4x (n:=59) (by rw [e];exact a1R hx)) (by omega)
   rw [e] at q1 q2;rw [decide_eq_true hi,a0K h0 hi,a05 (.i 0) h0 hi,t1,t2];simp only [f6B,a0i,f6G,getD_some,q1,q2,a0s (x:=i+1) (by omega) (by omega)]
   obtain ⟨⟨c1,z1⟩,c2,z2⟩:=ih (i+1) false false (acc++[a2E 3 (txB (ts.getD i.toNat (.i 0)).toS)]) (by omega) (by omega) (by omega) (by simp;omega)
   exact ⟨⟨c1,z1.trans (by simp)⟩,c2,z2.trans (by simp)⟩
  ·have:i=ts.length:=by omega
   subst this;rw [decide_eq_false hi,a0U (by omega)]
   exact ⟨⟨b,by simp⟩,b2,by simp⟩
theorem d79 (hN:maxLen<N) (hl:ls.length≤20000) (ht:∀x∈ls,f5J st x):∀(m:Nat) (i:Int) (b b2:Bool) (acc:List D),0≤i→i≤ls.length→(ls.length-i).toNat<m→(acc.length:Int)≤30000+i→
  (∃b',b4C N ls ls.length st big m i b acc (fun p=>some p)=some (b',acc++(ls.drop i.toNat).map (fun l=>a2E 2 (c3q big st l))))∧(∃b',a6I N ls ls.length st big m i b2 acc (fun p=>some p)=some (b',acc++(ls.drop i.toNat).map (fun l=>a2E 2 (c3q big st l)))):=by
 have hm:maxLen=9223372036854775807:=rfl;intro m;induction m with
 |zero=>intro i b b2 acc _ _ h;omega
 | succ m ih=>
  intro i b b2 acc h0 h1 hmm ha;unfold b4C b9f a6I b7r;by_cases hi:i<ls.length
  ·have hx:=ht _ (a0R (fs:=ls) h0 hi)
   obtain ⟨t1,t2⟩:=c5U (N:=N) hx.n;obtain ⟨n1,n2⟩:=c0o (N:=N) (big:=big) hN hx.f;obtain ⟨n3,n4⟩:=c0o (N:=N) (big:=big) hN hx.t;unfold tmA at n1 n2;unfold tmB at n3 n4;have e:a64 [.l false (nb4 (tmA st (ls.getD i.toNat (.i 0))) big),.l false (nb4 (tmB st (ls.getD i.toNat (.i 0))) big),.l false (txB ((ls.getD i.toNat (.i 0)).cell 2).toS)]=c3q big st (ls.getD i.toNat (.i 0)):=by simp only [a64,D.items,c3q,List.append_nil]
   obtain ⟨q1,q2⟩:=b7H (N:=N) (slot:=2) (acc:=acc) (ps:=[.l false (nb4 (tmA st (ls.getD i.toNat (.i 0))) big),.l false (nb4 (tmB st (ls.getD i.toNat (.i 0))) big),.l false (txB ((ls.getD i.toNat (.i 0)).cell 2).toS)]) hN (by simp) (by
    intro p hp;simp only [f6M,List.not_mem_nil,or_false] at hp;rcases hp with rfl|rfl|rfl
    ·exact nbp _
    ·exact nbp _
    ·exact txp hx.n) (a4x (n:=67) (by rw [e];unfold c3q;simp only [f6N,a0t];rw [a1R hx.n])) (by omega)
   rw [e] at q1 q2;unfold tmA tmB at q1 q2;rw [decide_eq_true hi,a0K h0 hi,a05 (.i 0) h0 hi];simp only [f6B,a0i,n1,n2,n3,n4,t1,t2,f6G,getD_some,q1,q2,a0s (x:=i+1) (by omega) (by omega)]
   obtain ⟨⟨c1,z1⟩,c2,z2⟩:=ih (i+1) false false (acc++[a2E 2 (c3q big st (ls.getD i.toNat (.i 0)))]) (by omega) (by omega) (by omega) (by simp;omega)
   exact ⟨⟨c1,z1.trans (by simp)⟩,c2,z2.trans (by simp)⟩
  ·have:i=ls.length:=by omega
   subst this;rw [decide_eq_false hi,a0U (by omega)]
   exact ⟨⟨b,by simp⟩,b2,by simp⟩
theorem d8a {x y:D}:(acc++[x]).set acc.length y=acc++[y]:=by simp
theorem d8b {x:D}:(acc++[x]).getD acc.length (.i 0)=x:=by simp
theorem d8c {x:D} (ha:acc.length≤100000):IntKind.wrap .i64 (((acc++[x]).length:Int)-1)=(acc.length:Int):=by
 rw [f6N];simp only [f6O,List.length_nil];rw [a0s (by omega) (by omega)];omega
theorem e2w (hN:maxLen<N) {s:D} (sh:Bool) (ha:acc.length≤100000):
  a2T N (tmA st s) sh [.l false (nb4 (tmA st s) big),.l false (nb4 (s.cell 1).toI big),.l false (nb4 (s.cell 2).toI big),.l false (nb4 (s.cell 3).toI big),.l false (nb2 (nm2 (s.cell 4).toI) big),.l false (nb2 (nm2 (s.cell 5).toI) big),.l false (nb2 (nm2 (s.cell 6).toI) big)] acc
   =some (bif sh then .inl (acc++[d77 ((tmA st s).tmod 32) (a7C big s)]) else .inr (acc++[a2E 1 (nb4 (tmA st s) big++a7C big s)])):=by
 have hlen:(a7C big s).length=18:=by unfold a7C;simp [a0t,a3P]
 unfold a2T a3H;cases sh with
 |true=>
  obtain ⟨q1,_⟩:=b7H (N:=N) (slot:=1) (acc:=acc) (ps:=[.l false (nb4 (s.cell 1).toI big),.l false (nb4 (s.cell 2).toI big),.l false (nb4 (s.cell 3).toI big),.l false (nb2 (nm2 (s.cell 4).toI) big),.l false (nb2 (nm2 (s.cell 5).toI) big),.l false (nb2 (nm2 (s.cell 6).toI) big)]) hN (by simp) (by
    intro p hp;simp only [f6M,List.not_mem_nil,or_false] at hp;rcases hp with rfl|rfl|rfl|rfl|rfl|rfl<;>first|exact nbp _|exact nbq _) (a4x (n:=17) (by simp [a64,D.items,a3P,a0t])) ha
  have e:a64 [.l false (nb4 (s.cell 1).toI big),.l false (nb4 (s.cell 2).toI big),.l false (nb4 (s.cell 3).toI big),.l false (nb2 (nm2 (s.cell 4).toI) big),.l false (nb2 (nm2 (s.cell 5).toI) big),.l false (nb2 (nm2 (s.cell 6).toI) big)]=a7C big s:=by simp [a64,D.items,a7C]
  rw [e] at q1;simp only [f6O,List.length_nil,f6B,a0i];rw [show decide ((1:Int)≤((0+1+1+1+1+1+1+1:Nat):Int))=true from rfl,show decide (((0+1+1+1+1+1+1+1:Nat):Int)≤((0+1+1+1+1+1+1+1:Nat):Int))=true from rfl];simp only [Bool.and_self,f6B]
  have e2:(List.take ((0+1+1+1+1+1+1+1:Nat):Int).toNat [.l false (nb4 (tmA st s) big),.l false (nb4 (s.cell 1).toI big),.l false (nb4 (s.cell 2).toI big),.l false (nb4 (s.cell 3).toI big),.l false (nb2 (nm2 (s.cell 4).toI) big),.l false (nb2 (nm2 (s.cell 5).toI) big),.l false (nb2 (nm2 (s.cell 6).toI) big)]).drop 1=[D.l false (nb4 (s.cell 1).toI big),.l false (nb4 (s.cell 2).toI big),.l false (nb4 (s.cell 3).toI big),.l false (nb2 (nm2 (s.cell 4).toI) big),.l false (nb2 (nm2 (s.cell 5).toI) big),.l false (nb2 (nm2 (s.cell 6).toI) big)]:=rfl;rw [e2,q1]
  simp only [f6G,getD_some,f6B,d8c ha,Int.toNat_natCast,d8b,d8a];rw [a0K (by omega) (by rw [f6N];simp;omega),decide_eq_true (by simp),decide_eq_true (by simp)]
  rfl
 |false=>
  obtain ⟨q1,_⟩:=b7H (N:=N) (slot:=1) (acc:=acc) (ps:=[.l false (nb4 (tmA st s) big),.l false (nb4 (s.cell 1).toI big),.l false (nb4 (s.cell 2).toI big),.l false (nb4 (s.cell 3).toI big),.l false (nb2 (nm2 (s.cell 4).toI) big),.l false (nb2 (nm2 (s.cell 5).toI) big),.l false (nb2 (nm2 (s.cell 6).toI) big)]) hN (by simp) (by
    intro p hp;simp only [f6M,List.not_mem_nil,or_false] at hp;rcases hp with rfl|rfl|rfl|rfl|rfl|rfl|rfl<;>first|exact nbp _|exact nbq _) (a4x (n:=21) (by simp [a64,D.items,a3P,a0t])) ha
  have e:a64 [.l false (nb4 (tmA st s) big),.l false (nb4 (s.cell 1).toI big),.l false (nb4 (s.cell 2).toI big),.l false (nb4 (s.cell 3).toI big),.l false (nb2 (nm2 (s.cell 4).toI) big),.l false (nb2 (nm2 (s.cell 5).toI) big),.l false (nb2 (nm2 (s.cell 6).toI) big)]=nb4 (tmA st s) big++a7C big s:=by simp [a64,D.items,a7C]
  rw [e] at q1;rw [q1];rfl
theorem e7M {s:D} (sh:Bool) (ha:acc.length≤100000):b0H N sh st (s.cell 0).toI (acc++[a2E 1 (nb4 (tmA st s) big++a7C big s)])=some (acc++[bif sh then d77 ((tmA st s).tmod 32) (a7C big s) else a2E 1 (nb4 (tmA st s) big++a7C big s)]):=by
 have hlen:(a7C big s).length=18:=by unfold a7C;simp [a0t,a3P]
 unfold b0H b7w;cases sh with
 |false=>rfl
 | true=>
  have e4:((a2E 1 (nb4 (tmA st s) big++a7C big s)).cell 4).items=nb4 (tmA st s) big++a7C big s:=rfl;have ec:decide ((4:Int)≤(((nb4 (tmA st s) big++a7C big s).length:Nat):Int))=true:=decide_eq_true (by rw [f6N,a0t];omega)
  have ed:((nb4 (tmA st s) big++a7C big s).take (nb4 (tmA st s) big++a7C big s).length).drop 4=a7C big s:=by
   rw [List.take_length];exact List.drop_left' (a0t _ _)
  simp only [f6B,a0i,d8c ha,Int.toNat_natCast,d8b,d8a,e4,ec,ed,decide_eq_true (Int.le_refl (((nb4 (tmA st s) big++a7C big s).length:Nat):Int)),Bool.and_self];rw [a0K (by omega) (by rw [f6N];simp;omega),decide_eq_true (by simp),decide_eq_true (by simp),decide_eq_true (by simp)]
  rfl
def a4y (ss:List D) (i:Int):Option Int:=bif decide (i>0) then some (((ss.getD (i-1).toNat (.i 0)).cell 0).toI) else none
theorem d8d (hN:maxLen<N) (hl:ss.length≤20000) (ht:∀x∈ss,f5I st x):∀(m:Nat) (i:Int) (b b2:Bool) (acc:List D),0≤i→i≤ss.length→(ss.length-i).toNat<m→(acc.length:Int)≤60000+i→
  (∃b',a8R N ss ss.length big st ss m i b acc (fun p=>some p)=some (b',acc++a2X false big st (a4y ss i) (ss.drop i.toNat)))∧(∃b',a6J N big ss ss.length st ss big m i b2 acc (fun p=>some p)=some (b',acc++a2X false big st (a4y ss i) (ss.drop i.toNat))):=by
 have hm:maxLen=9223372036854775807:=rfl;intro m;induction m with
 |zero=>intro i b b2 acc _ _ h;omega
 | succ m ih=>
  intro i b b2 acc h0 h1 hmm ha;unfold a8R b2t a6J b7x;by_cases hi:i<ss.length
  ·have hx:=ht _ (a0R (fs:=ss) h0 hi)
   obtain ⟨n1,n2⟩:=c0o (N:=N) (big:=big) hN hx.t;have n1':a3S N (IntKind.wrap .i64 (st+((ss.getD i.toNat (.i 0)).cell 0).toI)) 4 false big=some (nb4 (tmA st (ss.getD i.toNat (.i 0))) big):=n1;have n2':a2V N (IntKind.wrap .i64 (st+((ss.getD i.toNat (.i 0)).cell 0).toI)) 4 big=some (nb4 (tmA st (ss.getD i.toNat (.i 0))) big):=n2;obtain ⟨p1,p2⟩:=c5T (N:=N) (big:=big) hN hx.p;obtain ⟨p3,p4⟩:=c5T (N:=N) (big:=big) hN hx.w;obtain ⟨p5,p6⟩:=c5T (N:=N) (big:=big) hN hx.k
   have hshort:a8O N i ss ((ss.getD i.toNat (.i 0)).cell 0).toI=some (a4v (a4y ss i) (ss.getD i.toNat (.i 0)))∧b0G N i ss ((ss.getD i.toNat (.i 0)).cell 0).toI=some (a4v (a4y ss i) (ss.getD i.toNat (.i 0))):=by
    unfold a8O a6t b0G b7v a4y;by_cases hp:i>0
    ·rw [decide_eq_true hp,a0s (x:=i-1) (by omega) (by omega),a0K (by omega) (by omega)]
     exact ⟨rfl,rfl⟩
    ·rw [decide_eq_false hp]
     exact ⟨rfl,rfl⟩
   obtain ⟨_,q2⟩:=b7H (N:=N) (slot:=1) (acc:=acc) (ps:=[.l false (nb4 (tmA st (ss.getD i.toNat (.i 0))) big),.l false (nb4 ((ss.getD i.toNat (.i 0)).cell 1).toI big),.l false (nb4 ((ss.getD i.toNat (.i 0)).cell 2).toI big),.l false (nb4 ((ss.getD i.toNat (.i 0)).cell 3).toI big),.l false (nb2 (nm2 ((ss.getD i.toNat (.i 0)).cell 4).toI) big),.l false (nb2 (nm2 ((ss.getD i.toNat (.i 0)).cell 5).toI) big),.l false (nb2 (nm2 ((ss.getD i.toNat (.i 0)).cell 6).toI) big)]) hN (by simp) (by
    intro p hp;simp only [f6M,List.not_mem_nil,or_false] at hp;rcases hp with rfl|rfl|rfl|rfl|rfl|rfl|rfl<;>first|exact nbp _|exact nbq _) (a4x (n:=21) (by simp [a64,D.items,a3P,a0t])) (by omega)
   have e:a64 [.l false (nb4 (tmA st (ss.getD i.toNat (.i 0))) big),.l false (nb4 ((ss.getD i.toNat (.i 0)).cell 1).toI big),.l false (nb4 ((ss.getD i.toNat (.i 0)).cell 2).toI big),.l false (nb4 ((ss.getD i.toNat (.i 0)).cell 3).toI big),.l false (nb2 (nm2 ((ss.getD i.toNat (.i 0)).cell 4).toI) big),.l false (nb2 (nm2 ((ss.getD i.toNat (.i 0)).cell 5).toI) big),.l false (nb2 (nm2 ((ss.getD i.toNat (.i 0)).cell 6).toI) big)]=nb4 (tmA st (ss.getD i.toNat (.i 0))) big++a7C big (ss.getD i.toNat (.i 0)):=by simp [a64,D.items,a7C]
   rw [e] at q2;have s1:=e2w (N:=N) (st:=st) (big:=big) (s:=ss.getD i.toNat (.i 0)) (acc:=acc) hN (a4v (a4y ss i) (ss.getD i.toNat (.i 0))) (by omega)
   have s1':a2T N (IntKind.wrap .i64 (st+((ss.getD i.toNat (.i 0)).cell 0).toI)) (a4v (a4y ss i) (ss.getD i.toNat (.i 0))) _ acc=_:=s1;have s2:=e7M (N:=N) (st:=st) (big:=big) (s:=ss.getD i.toNat (.i 0)) (acc:=acc) (a4v (a4y ss i) (ss.getD i.toNat (.i 0))) (by omega)
   have hpn:a4y ss (i+1)=some ((ss.getD i.toNat (.i 0)).cell 0).toI:=by
    unfold a4y;rw [decide_eq_true (by omega),show i+1-1=i by omega];rfl
   obtain ⟨⟨c1,z1⟩,c2,z2⟩:=ih (i+1) false false (acc++[d8F false big st (a4y ss i) (ss.getD i.toNat (.i 0))]) (by omega) (by omega) (by omega) (by simp;omega)
   rw [hpn] at z1 z2;rw [decide_eq_true hi,a0K h0 hi,a05 (.i 0) h0 hi];simp only [f6B,a0i,n1',n2',e2v hN,e7v hN,p1,p2,p3,p4,p5,p6,f6G,getD_some,hshort.1,hshort.2,s1',q2,s2,a0s (x:=i+1) (by omega) (by omega),a2X]
   refine ⟨⟨c1,?_⟩,c2,?_⟩
   ·refine Eq.trans ?_ (z1.trans (by simp))
    unfold d8F;cases a4v (a4y ss i) (ss.getD i.toNat (.i 0))<;>rfl
   ·refine Eq.trans ?_ (z2.trans (by simp))
    unfold d8F;cases a4v (a4y ss i) (ss.getD i.toNat (.i 0))<;>rfl
  ·have:i=ss.length:=by omega
   subst this;rw [decide_eq_false hi,a0U (by omega)]
   exact ⟨⟨b,by simp [a2X]⟩,b2,by simp [a2X]⟩
end
end Go.Proofs.YtiegikkpipdleaaGreatDoor
namespace Go.Proofs.YtiegikkpipdleaaGreatDoor
open Go Go.AM
variable {N:Nat}
structure f3h (name:List UInt8) (sport st:Int) (ss ls ts:List D):Prop where
 n:name.length≤60
 sp:0≤sport
 b0:0≤st
 b1:st≤4294967294
 s:ss.length≤20000
 l:ls.length≤200
 t:ts.length≤20
 sa:∀x∈ss,f5I st x
 la:∀x∈ls,f5J st x
 ta:∀x∈ts,x.toS.length≤60
section
variable {name:List UInt8} {sport st:Int} {ss ls ts:List D} {big:Bool}
def f5K (q:Bool) (a b:List D):List D:=bif q then a else b
theorem c5V (hN:maxLen<N) (h:f3h name sport st ss ls ts) (ha:d0W name ss ls ts) (hc:c5F name sport st ss ls ts=0) (hw:¬IntKind.wrap .i64 (st+a4d ss)>4294967294):
  ∃b,e0M N name sport st ss ls ts big=some (.inr (.inl (b,a50 false name sport st ss ls ts big)))∨e0M N name sport st ss ls ts big=some (.inr (.inr (b,a50 false name sport st ss ls ts big))):=by
 have hm:maxLen=9223372036854775807:=rfl;have hsl:=h.s;have hll:=h.l;have htl:=h.t;have k38:∀q (acc:List D),acc.length≤100000→b4y N q big acc=some (bif q then .inl (acc++[a5b 3 30 fs3 big]) else .inr ()):=fun q acc hacc=>by
  unfold b4y b0k;rw [(b7I (N:=N) (slot:=3) (g:=30) (fs:=fs3) (big:=big) hacc).1];cases q<;>rfl
 have k32:∀q (acc:List D),acc.length≤100000→b7m N q big acc=some (bif q then .inl (acc++[a5b 3 30 fs3 big]) else .inr ()):=fun q acc hacc=>by
  unfold b7m b7l;rw [(b7I (N:=N) (slot:=3) (g:=30) (fs:=fs3) (big:=big) hacc).2];cases q<;>rfl
 have k59:∀q (acc:List D),acc.length≤100000→b0l N q 253 4 0 big acc=some (bif q then .inl (acc++[a5b 2 19 fs2 big]) else .inr ()):=fun q acc hacc=>by
  unfold b0l b4B;rw [(b7I (N:=N) (slot:=2) (g:=19) (fs:=fs2) (big:=big) hacc).1];cases q<;>rfl
 have k53:∀q (acc:List D),acc.length≤100000→b7q N q big acc=some (bif q then .inl (acc++[a5b 2 19 fs2 big]) else .inr ()):=fun q acc hacc=>by
  unfold b7q b7p;rw [(b7I (N:=N) (slot:=2) (g:=19) (fs:=fs2) (big:=big) hacc).2];cases q<;>rfl
 have k74:∀q (acc:List D),acc.length≤100000→b7u N q big acc=some (bif q then .inl (acc++[a5b 1 20 fs1 big]) else .inr ()):=fun q acc hacc=>by
  unfold b7u b7t;rw [(b7I (N:=N) (slot:=1) (g:=20) (fs:=fs1) (big:=big) hacc).2];cases q<;>rfl
 have kt:∀b b2 (acc:List D),acc.length≤100→(∃b',b9c N ts ts.length 0 b acc=some (b',acc++ts.map (fun t=>a2E 3 (txB t.toS))))∧(∃b',b7o N ts ts.length 0 b2 acc=some (b',acc++ts.map (fun t=>a2E 3 (txB t.toS)))):=fun b b2 acc hacc=>
  d78 (N:=N) hN (by omega) h.ta N 0 b b2 acc (by omega) (by omega) (by omega) (by omega)
 have kl:∀b b2 (acc:List D),acc.length≤30000→(∃b',b0m N ls ls.length st big 0 b acc=some (b',acc++ls.map (fun l=>a2E 2 (c3q big st l))))∧(∃b',b7s N ls ls.length st big 0 b2 acc=some (b',acc++ls.map (fun l=>a2E 2 (c3q big st l)))):=fun b b2 acc hacc=>
  d79 (N:=N) hN (by omega) h.la N 0 b b2 acc (by omega) (by omega) (by omega) (by omega)
 have ks:∀b b2 (acc:List D),acc.length≤60000→(∃b',c7b N ss ss.length big st ss 0 b acc=some (b',acc++a2X false big st none ss))∧(∃b',b7y N big ss ss.length st ss big 0 b2 acc=some (b',acc++a2X false big st none ss)):=fun b b2 acc hacc=>
  d8d (N:=N) hN (by omega) h.sa N 0 b b2 acc (by omega) (by omega) (by omega) (by omega)
 have r24:∀n:Nat,n≤20→(decide ((n+1)*24≤a0L)&&decide (n+1≤a0d))=true:=fun n hn=>by
  rw [decide_eq_true (by unfold a0L;omega),decide_eq_true (by unfold a0d;omega)];rfl
 have k76:∀(acc:List D),acc.length≤50000→ ∃b',a42 N st ss 253 4 0 big acc=some (bif decide ((ss.length:Int)>0) then .inr (b',acc++[a5b 1 20 fs1 big]++a2X false big st none ss) else .inl ()):=fun acc hacc=>by
  obtain ⟨⟨b',e⟩,_⟩:=ks false false (acc++[a5b 1 20 fs1 big]) (by simp;omega)
  refine ⟨b',?_⟩;unfold a42 b4E e0I d5A;by_cases hs:ss.length>0
  ·have e0:((ss.length:Int)==0)=false:=by rw [beq_eq_false_iff_ne];omega
   rw [e0,decide_eq_true (show (ss.length:Int)>0 by omega)]
   have e1:=(b7I (N:=N) (slot:=1) (g:=20) (fs:=fs1) (big:=big) (acc:=acc) (by omega)).1
   have e1':c2p N 1 20 false (((([(.a [(.i 253),(.i 4),(.i 0)]),(.a [(.i 0),(.i 4),(.i 1)])]++[(.a [(.i 1),(.i 4),(.i 1)])])++[(.a [(.i 2),(.i 4),(.i 1)])]++[(.a [(.i 3),(.i 2),(.i 0)])])++[(.a [(.i 4),(.i 2),(.i 0)])])++[(.a [(.i 5),(.i 2),(.i 0)])]) big acc=some (acc++[a5b 1 20 fs1 big]):=e1
   simp only [f6B,f6C,a0i,f6N,f6O,List.length_nil,r24 (0+1+1) (by decide),r24 (0+1+1+(0+1)) (by decide),r24 (0+1+1+(0+1)+(0+1)) (by decide),r24 (0+1+1+(0+1)+(0+1)+(0+1)) (by decide),r24 (0+1+1+(0+1)+(0+1)+(0+1)+(0+1)) (by decide),e1',f6G,getD_some,e,a1V,a1W]
  ·have e0:((ss.length:Int)==0)=true:=by rw [beq_iff_eq];omega
   rw [e0,decide_eq_false (show¬(ss.length:Int)>0 by omega)]
   rfl
 obtain ⟨b1,e1⟩:∃b':Bool→(acc:List D)→acc.length≤100→Bool,∀b acc hacc,b9c N ts ts.length 0 b acc=some (b' b acc hacc,acc++ts.map (fun t=>a2E 3 (txB t.toS))):=⟨fun b acc hacc=>(kt b b acc hacc).1.choose,fun b acc hacc=>(kt b b acc hacc).1.choose_spec⟩
 obtain ⟨c1,d1⟩:∃b':Bool→(acc:List D)→acc.length≤100→Bool,∀b acc hacc,b7o N ts ts.length 0 b acc=some (b' b acc hacc,acc++ts.map (fun t=>a2E 3 (txB t.toS))):=⟨fun b acc hacc=>(kt b b acc hacc).2.choose,fun b acc hacc=>(kt b b acc hacc).2.choose_spec⟩
 obtain ⟨b2,e2⟩:∃b':Bool→(acc:List D)→acc.length≤30000→Bool,∀b acc hacc,b0m N ls ls.length st big 0 b acc=some (b' b acc hacc,acc++ls.map (fun l=>a2E 2 (c3q big st l))):=⟨fun b acc hacc=>(kl b b acc hacc).1.choose,fun b acc hacc=>(kl b b acc hacc).1.choose_spec⟩
 obtain ⟨c2,d2⟩:∃b':Bool→(acc:List D)→acc.length≤30000→Bool,∀b acc hacc,b7s N ls ls.length st big 0 b acc=some (b' b acc hacc,acc++ls.map (fun l=>a2E 2 (c3q big st l))):=⟨fun b acc hacc=>(kl b b acc hacc).2.choose,fun b acc hacc=>(kl b b acc hacc).2.choose_spec⟩
 obtain ⟨b3,e3⟩:∃b':(acc:List D)→acc.length≤50000→Bool,∀acc hacc,a42 N st ss 253 4 0 big acc=some (bif decide ((ss.length:Int)>0) then .inr (b' acc hacc,acc++[a5b 1 20 fs1 big]++a2X false big st none ss) else .inl ()):=⟨fun acc hacc=>(k76 acc hacc).choose,fun acc hacc=>(k76 acc hacc).choose_spec⟩
 obtain ⟨c3,d3⟩:∃b':Bool→(acc:List D)→acc.length≤60000→Bool,∀b acc hacc,b7y N big ss ss.length st ss big 0 b acc=some (b' b acc hacc,acc++a2X false big st none ss):=⟨fun b acc hacc=>(ks b b acc hacc).2.choose,fun b acc hacc=>(ks b b acc hacc).2.choose_spec⟩
 obtain ⟨x1,x2⟩:=c0o (N:=N) (big:=big) hN h.b0;obtain ⟨x3,x4⟩:=e7L (N:=N) (big:=big) hN h.sp;obtain ⟨x5,x6⟩:=c5U (N:=N) h.n;have hdd:decide (IntKind.wrap .i64 (st+a4d ss)>4294967294)=false:=decide_eq_false hw;obtain ⟨p1,p2⟩:=b7H (N:=N) (slot:=0) (acc:=[a5b 0 0 fs0 big]) (ps:=[.l false (nb4 st big),.l false (txB name),.l false (nb1 sport)]) hN (by simp) (by
  intro p hp;simp only [f6M,List.not_mem_nil,or_false] at hp;rcases hp with rfl|rfl|rfl
  ·exact nbp _
  ·exact txp h.n
  ·show 1≤100;omega) (a4x (n:=64) (by simp only [a64,D.items,f6N,a0t];rw [a1R h.n];rfl)) (by simp)
 have ec:a64 [.l false (nb4 st big),.l false (txB name),.l false (nb1 sport)]=nb4 st big++(txB name++nb1 sport):=by simp only [a64,D.items,List.append_nil]
 rw [ec] at p1 p2;have hnil:ss.length>0∨a2X false big st none ss=[]:=by
  cases ss with
  |nil=>exact .inr rfl
  |cons=>left;simp
 have len1:∀q1:Bool,(f5K q1 ([a5b 0 0 fs0 big]++[a2E 0 (nb4 st big++(txB name++nb1 sport))]++[a5b 3 30 fs3 big]) ([a5b 0 0 fs0 big]++[a2E 0 (nb4 st big++(txB name++nb1 sport))])).length≤3:=fun q1=>by cases q1<;>simp [f5K]
 unfold e0M e6q a50 ifE;rw [b5n hN ha,hc,b96 ha.s];dsimp only [a0i,Option.isSome_some,getD_some,_root_.cond_true]
 rw [hdd,x1,x3,x5];rw [show ((0:Int) !=0)=false from rfl];dsimp only [Option.isSome_some,getD_some,_root_.cond_true,_root_.cond_false]
 have p1':b5W N 0 [.l false (nb4 st big),.l false (txB name),.l false (nb1 sport)] (e0z N 0 0 false fs0 big)=_:=p1;rw [p1'];dsimp only [Option.isSome_some,getD_some,_root_.cond_true,_root_.cond_false]
 have hq3:decide ((ss.length:Int)>0)=false→a2X false big st none ss=[]:=fun hh=>by
  rcases hnil with hn|hn
  ·simp at hh;simp [hh] at hn
  ·exact hn
 generalize decide ((ts.length:Int)>0)=q1;generalize decide ((ls.length:Int)>0)=q2;generalize decide ((ss.length:Int)>0)=q3 at e3 hq3;rw [k38 q1 _ (by simp)]
 cases q1<;>cases q2<;>cases q3<;>dsimp only [a2x,a2y,a1V,a1W,Option.isSome_some,getD_some,_root_.cond_true,_root_.cond_false];all_goals
  rw [e1 _ _ (by simp)]
  dsimp only [a2x,a2y,a1V,a1W,Option.isSome_some,getD_some,_root_.cond_true,_root_.cond_false]
  rw [k59 _ _ (by simp;omega)]
  dsimp only [a2x,a2y,a1V,a1W,Option.isSome_some,getD_some,_root_.cond_true,_root_.cond_false]
  rw [e2 _ _ (by simp;omega)]
  dsimp only [a2x,a2y,a1V,a1W,Option.isSome_some,getD_some,_root_.cond_true,_root_.cond_false]
  rw [e3 _ (by simp;omega)]
  dsimp only [a2x,a2y,a1V,a1W,Option.isSome_some,getD_some,_root_.cond_true,_root_.cond_false]
  first
  |(refine ⟨_,.inl (congrArg some (congrArg Sum.inr (congrArg Sum.inl (Prod.ext rfl ?_))))⟩;first|(rw [hq3 rfl];simp)|simp)
  |(refine ⟨_,.inr (congrArg some (congrArg Sum.inr (congrArg Sum.inr (Prod.ext rfl ?_))))⟩;first|(rw [hq3 rfl];simp)|simp)
end
end Go.Proofs.YtiegikkpipdleaaGreatDoor
namespace Go.Proofs.YtiegikkpipdleaaGreatDoor
open Go Go.AM
variable {N:Nat}
theorem d8e (n:Int):(bt n 0).toI=n%256∧(bt n 1).toI=n/256%256∧(bt n 2).toI=n/65536%256∧(bt n 3).toI=n/16777216%256:=by
 have e:∀k:Nat,(n.fdiv (2^k))=n/2^k:=fun k=>Int.fdiv_eq_ediv_of_nonneg _ (by exact Int.le_of_lt (Int.pow_pos (by decide)))
 have w0:(min (IntKind.wrap .i64 (8*0)).toNat 64)=0:=by decide
 have w1:(min (IntKind.wrap .i64 (8*1)).toNat 64)=8:=by decide
 have w2:(min (IntKind.wrap .i64 (8*2)).toNat 64)=16:=by decide
 have w3:(min (IntKind.wrap .i64 (8*3)).toNat 64)=24:=by decide
 unfold bt D.toI;simp only [w0,w1,w2,w3,e,IntKind.wrap_u8];refine ⟨?_,?_,?_,?_⟩<;>omega
theorem e7N (n:Int) (big:Bool):a7x (nb4 n big) big=n%4294967296:=by
 obtain ⟨b0,b1,b2,b3⟩:=d8e n;cases big with
 |true=>
  show 256*(256*(256*(256*0+(bt n 3).toI)+(bt n 2).toI)+(bt n 1).toI)+(bt n 0).toI=_;rw [b0,b1,b2,b3];omega
 |false=>
  show 256*(256*(256*(256*0+(bt n 3).toI)+(bt n 2).toI)+(bt n 1).toI)+(bt n 0).toI=_;rw [b0,b1,b2,b3];omega
theorem f48 (n:Int) (big:Bool):a7x (nb2 n big) big=n%65536:=by
 obtain ⟨b0,b1,_,_⟩:=d8e n;cases big with
 |true=>
  show 256*(256*0+(bt n 1).toI)+(bt n 0).toI=_;rw [b0,b1];omega
 |false=>
  show 256*(256*0+(bt n 1).toI)+(bt n 0).toI=_;rw [b0,b1];omega
theorem f49 (n:Int) (big:Bool):a7x (nb1 n) big=n%256:=by
 obtain ⟨b0,_,_,_⟩:=d8e n;cases big<;>(show 256*0+(bt n 0).toI=_;rw [b0];omega)
theorem d1f {x:Int} (big:Bool) (h0: -2147483648≤x) (h1:x<2147483647):c0u 4 1 (nb4 x big) big=(x,[],false):=by
 unfold c0u;rw [e7N];show (bif x%4294967296==2147483647 then _ else (bif true&&decide (x%4294967296>2147483647) then x%4294967296-4294967296 else x%4294967296,_,_))=_
 rw [show (x%4294967296==2147483647)=false by rw [beq_eq_false_iff_ne];omega]
 by_cases hx:x<0
 ·rw [decide_eq_true (by omega)]
  simp only [f6C,f6B,Bool.and_self,f6S,and_true];omega
 ·rw [decide_eq_false (by omega)]
  simp only [f6C,Bool.and_false,f6S,and_true];omega
def V2 (v:Int):Int×List UInt8×Bool:=bif decide (v<0) then (0,[],true) else (v,[],false)
theorem d1g {v:Int} (big:Bool) (h0: -1≤v) (h1:v≤65534):c0u 2 0 (nb2 (nm2 v) big) big=V2 v:=by
 unfold c0u V2 nm2;rw [f48];by_cases hv:v<0
 ·rw [decide_eq_true hv];rfl
 ·rw [decide_eq_false hv]
  show (bif v%65536==65535 then _ else (bif false&&_ then _ else v%65536,_,_))=_
  rw [show (v%65536==65535)=false by rw [beq_eq_false_iff_ne];omega]
  simp only [f6C,Bool.false_and,f6S,and_true];omega
theorem e2x {v:Int} (big:Bool) (h0:0≤v) (h1:v≤4294967294):c0u 4 0 (nb4 v big) big=(v,[],false):=by
 unfold c0u;rw [e7N];show (bif v%4294967296==4294967295 then _ else (bif false&&_ then _ else v%4294967296,_,_))=_
 rw [show (v%4294967296==4294967295)=false by rw [beq_eq_false_iff_ne];omega]
 simp only [f6C,Bool.false_and,f6S,and_true];omega
theorem f5a {v:Int} (big:Bool) (h0:0≤v) (h1:v≤254):c0u 1 0 (nb1 v) big=(v,[],false):=by
 unfold c0u;rw [f49];show (bif v%256==255 then _ else (bif false&&_ then _ else v%256,_,_))=_
 rw [show (v%256==255)=false by rw [beq_eq_false_iff_ne];omega]
 simp only [f6C,Bool.false_and,f6S,and_true];omega
theorem c7U:∀{s:List UInt8} (k:Nat),(∀c∈s,c≠0)→Lib.indexByte (s++List.replicate k 0) 0=if k=0 then-1 else (s.length:Int)
 | [],0,_=>rfl
 | [],k+1,_=>rfl
 | c::s,k,h=>by
  have hc:(c==0)=false:=by rw [beq_eq_false_iff_ne];exact h c (by simp)
  have ih:=c7U (s:=s) k fun x hx=>h x (by simp [hx])
  simp only [List.cons_append,Lib.indexByte,hc,ih,f6O];by_cases hk:k=0
  ·simp [hk]
  ·simp only [if_neg hk]
   rw [if_neg (by simp),if_neg (by rw [beq_iff_eq];omega)]
   omega
theorem c5W (s:List UInt8):a9H (a0u s)=s:=by
 unfold a9H a0u;rw [List.map_map];have:((fun d:D=>UInt8.ofNat d.toI.toNat)∘c3J)=id:=by
  funext b
  simp [c3J,D.toI]
 rw [this,List.map_id]
theorem e7O {s:List UInt8} (h0:∀c∈s,c≠0):d8E (a9H (txB s))=s:=by
 have e:a9H (txB s)=s++List.replicate (60-s.length) 0:=by
  unfold txB;have:a9H (a0u s++List.replicate (60-s.length) (.i 0))=a9H (a0u s)++a9H (List.replicate (60-s.length) (.i 0)):=by unfold a9H;rw [List.map_append]
  rw [this,c5W];congr 1
  unfold a9H;rw [List.map_replicate];rfl
 rw [e];unfold d8E;rw [c7U _ h0];by_cases hk:60-s.length=0
 ·rw [if_pos hk,hk];simp
 ·rw [if_neg hk,decide_eq_true (show (s.length:Int)≥0 by omega)]
  simp
theorem f5b {s:List UInt8} (big:Bool) (h0:∀c∈s,c≠0):c0u 60 2 (txB s) big=(0,s,s==[]):=by
 unfold c0u;show (0,d8E (a9H (txB s)),d8E (a9H (txB s))==[])=_;rw [e7O h0]
theorem mid {A B C:List D} {a b:Nat} (ha:A.length=a) (hb:B.length=b):((A++(B++C)).take (a+b)).drop a=B:=by
 subst ha hb;rw [←f6P,List.take_left' (by simp),List.drop_left' rfl]
theorem f5L {A B:List D} {a b:Nat} (ha:A.length=a) (hb:B.length=b):((A++B).take (a+b)).drop a=B:=by
 have:=mid (C:=[]) ha hb;simpa using this
theorem f3M {B C:List D} {b:Nat} (hb:B.length=b):((B++C).take b).drop 0=B:=by
 subst hb;rw [List.take_left' rfl];rfl
def mkV (n t:Int) (v:Int×List UInt8×Bool):D:= .a [.i n,.i t,.i v.1,.s v.2.1,.b v.2.2]
theorem a1t {f:D} {a:Int} {data b:List D} {big:Bool} {v:Int×List UInt8×Bool} (h:(data.take (a+fS f).toNat).drop a.toNat=b) (hv:c0u (fS f) (fT f) b big=v):b2X f a data big=mkV (fN f) (fT f) v:=by
 unfold b2X mkV;rw [h,hv]
section
variable {big:Bool}
theorem d8f {name:List UInt8} {st sport:Int} (hn:∀c∈name,c≠0) (hl:name.length≤60) (h0:0≤st) (h1:st≤4294967294) (h2:0≤sport) (h3:sport≤254):
  a4u (nb4 st big++(txB name++nb1 sport)) big false 0 fs0=[mkV 253 0 (st,[],false),mkV 1 2 (0,name,name==[]),mkV 2 0 (sport,[],false)]:=by
 have e1:=a1t (f:=tF) (a:=0) (data:=nb4 st big++(txB name++nb1 sport)) (big:=big) (f3M (a0t st big)) (e2x big h0 h1);have e2:=a1t (f:= .a [.i 1,.i 60,.i 2]) (a:=4) (data:=nb4 st big++(txB name++nb1 sport)) (big:=big) (mid (a0t st big) (a1R hl)) (f5b big hn);have e3:=a1t (f:= .a [.i 2,.i 1,.i 0]) (a:=64) (data:=nb4 st big++(txB name++nb1 sport)) (big:=big) (b:=nb1 sport) (by
  rw [←f6P];exact f5L (a:=64) (b:=1) (by rw [f6N,a0t,a1R hl]) rfl) (f5a big h2 h3)
 show [b2X tF 0 _ big,b2X (.a [.i 1,.i 60,.i 2]) 4 _ big,b2X (.a [.i 2,.i 1,.i 0]) 64 _ big]=_;rw [e1,e2,e3];rfl
theorem e2y {s:List UInt8} (hn:∀c∈s,c≠0) (hl:s.length≤60):a4u (txB s) big false 0 fs3=[mkV 1 2 (0,s,s==[])]:=by
 have e1:=a1t (f:= .a [.i 1,.i 60,.i 2]) (a:=0) (data:=txB s) (big:=big) (b:=txB s) (by
  show ((txB s).take 60).drop 0=txB s;rw [List.take_of_length_le (by rw [a1R hl];omega)];rfl) (f5b big hn)
 show [b2X (.a [.i 1,.i 60,.i 2]) 0 _ big]=_;rw [e1];rfl
theorem e2z {s:List UInt8} {f t:Int} (hn:∀c∈s,c≠0) (hl:s.length≤60) (h0:0≤f) (h1:f≤4294967294) (h2:0≤t) (h3:t≤4294967294):
  a4u (nb4 f big++(nb4 t big++txB s)) big false 0 fs2=[mkV 253 0 (f,[],false),mkV 1 0 (t,[],false),mkV 2 2 (0,s,s==[])]:=by
 have e1:=a1t (f:=tF) (a:=0) (data:=nb4 f big++(nb4 t big++txB s)) (big:=big) (f3M (a0t f big)) (e2x big h0 h1);have e2:=a1t (f:= .a [.i 1,.i 4,.i 0]) (a:=4) (data:=nb4 f big++(nb4 t big++txB s)) (big:=big) (mid (a0t f big) (a0t t big)) (e2x big h2 h3);have e3:=a1t (f:= .a [.i 2,.i 60,.i 2]) (a:=8) (data:=nb4 f big++(nb4 t big++txB s)) (big:=big) (b:=txB s) (by
  rw [←f6P];exact f5L (a:=8) (b:=60) (by rw [f6N,a0t,a0t]) (a1R hl)) (f5b big hn)
 show [b2X tF 0 _ big,b2X (.a [.i 1,.i 4,.i 0]) 4 _ big,b2X (.a [.i 2,.i 60,.i 2]) 8 _ big]=_;rw [e1,e2,e3];rfl
def c7V (x y z p w k:Int):List D:=[mkV 0 1 (x,[],false),mkV 1 1 (y,[],false),mkV 2 1 (z,[],false),mkV 3 0 (V2 p),mkV 4 0 (V2 w),mkV 5 0 (V2 k)]
structure f3N (x y z p w k:Int):Prop where
 x: -2147483648≤x∧x<2147483647
 y: -2147483648≤y∧y<2147483647
 z: -2147483648≤z∧z<2147483647
 p: -1≤p∧p≤65534
 w: -1≤w∧w≤65534
 k: -1≤k∧k≤65534
def a4A (big:Bool) (x y z p w k:Int):List D:=nb4 x big++(nb4 y big++(nb4 z big++(nb2 (nm2 p) big++(nb2 (nm2 w) big++nb2 (nm2 k) big))))
theorem d8g {x y z p w k:Int} (h:f3N x y z p w k):a4u (a4A big x y z p w k) big true 0 fs1=c7V x y z p w k:=by
 have e1:=a1t (f:= .a [.i 0,.i 4,.i 1]) (a:=0) (data:=a4A big x y z p w k) (big:=big) (b:=nb4 x big) (by unfold a4A;cases big<;>rfl) (d1f big h.x.1 h.x.2)
 have e2:=a1t (f:= .a [.i 1,.i 4,.i 1]) (a:=4) (data:=a4A big x y z p w k) (big:=big) (b:=nb4 y big) (by unfold a4A;cases big<;>rfl) (d1f big h.y.1 h.y.2)
 have e3:=a1t (f:= .a [.i 2,.i 4,.i 1]) (a:=8) (data:=a4A big x y z p w k) (big:=big) (b:=nb4 z big) (by unfold a4A;cases big<;>rfl) (d1f big h.z.1 h.z.2)
 have e4:=a1t (f:= .a [.i 3,.i 2,.i 0]) (a:=12) (data:=a4A big x y z p w k) (big:=big) (b:=nb2 (nm2 p) big) (by unfold a4A;cases big<;>rfl) (d1g big h.p.1 h.p.2)
 have e5:=a1t (f:= .a [.i 4,.i 2,.i 0]) (a:=14) (data:=a4A big x y z p w k) (big:=big) (b:=nb2 (nm2 w) big) (by unfold a4A;cases big<;>rfl) (d1g big h.w.1 h.w.2)
 have e6:=a1t (f:= .a [.i 5,.i 2,.i 0]) (a:=16) (data:=a4A big x y z p w k) (big:=big) (b:=nb2 (nm2 k) big) (by unfold a4A;cases big<;>rfl) (d1g big h.k.1 h.k.2)
 show [b2X (.a [.i 0,.i 4,.i 1]) 0 _ big,b2X (.a [.i 1,.i 4,.i 1]) 4 _ big,b2X (.a [.i 2,.i 4,.i 1]) 8 _ big,b2X (.a [.i 3,.i 2,.i 0]) 12 _ big,b2X (.a [.i 4,.i 2,.i 0]) 14 _ big,b2X (.a [.i 5,.i 2,.i 0]) 16 _ big]=_;rw [e1,e2,e3,e4,e5,e6];rfl
theorem d8h {t x y z p w k:Int} (h0:0≤t) (h1:t≤4294967294) (h:f3N x y z p w k):a4u (nb4 t big++a4A big x y z p w k) big false 0 fs1=mkV 253 0 (t,[],false)::c7V x y z p w k:=by
 have e0:=a1t (f:=tF) (a:=0) (data:=nb4 t big++a4A big x y z p w k) (big:=big) (f3M (a0t t big)) (e2x big h0 h1);have e1:=a1t (f:= .a [.i 0,.i 4,.i 1]) (a:=4) (data:=nb4 t big++a4A big x y z p w k) (big:=big) (b:=nb4 x big) (by unfold a4A;cases big<;>rfl) (d1f big h.x.1 h.x.2)
 have e2:=a1t (f:= .a [.i 1,.i 4,.i 1]) (a:=8) (data:=nb4 t big++a4A big x y z p w k) (big:=big) (b:=nb4 y big) (by unfold a4A;cases big<;>rfl) (d1f big h.y.1 h.y.2)
 have e3:=a1t (f:= .a [.i 2,.i 4,.i 1]) (a:=12) (data:=nb4 t big++a4A big x y z p w k) (big:=big) (b:=nb4 z big) (by unfold a4A;cases big<;>rfl) (d1f big h.z.1 h.z.2)
 have e4:=a1t (f:= .a [.i 3,.i 2,.i 0]) (a:=16) (data:=nb4 t big++a4A big x y z p w k) (big:=big) (b:=nb2 (nm2 p) big) (by unfold a4A;cases big<;>rfl) (d1g big h.p.1 h.p.2)
 have e5:=a1t (f:= .a [.i 4,.i 2,.i 0]) (a:=18) (data:=nb4 t big++a4A big x y z p w k) (big:=big) (b:=nb2 (nm2 w) big) (by unfold a4A;cases big<;>rfl) (d1g big h.w.1 h.w.2)
 have e6:=a1t (f:= .a [.i 5,.i 2,.i 0]) (a:=20) (data:=nb4 t big++a4A big x y z p w k) (big:=big) (b:=nb2 (nm2 k) big) (by unfold a4A;cases big<;>rfl) (d1g big h.k.1 h.k.2)
 show [b2X tF 0 _ big,b2X (.a [.i 0,.i 4,.i 1]) 4 _ big,b2X (.a [.i 1,.i 4,.i 1]) 8 _ big,b2X (.a [.i 2,.i 4,.i 1]) 12 _ big,b2X (.a [.i 3,.i 2,.i 0]) 16 _ big,b2X (.a [.i 4,.i 2,.i 0]) 18 _ big,b2X (.a [.i 5,.i 2,.i 0]) 20 _ big]=_;rw [e0,e1,e2,e3,e4,e5,e6];rfl
end
theorem f3i {t st x y z p w k:Int} {pre:List D} (hp:pre=[]∨ ∃u,pre=[mkV 253 0 (u,[],false)]) (h:f3N x y z p w k) (ht:0≤t) (h0:0≤t-st) (h1:t-st≤4294967295):
  b54 t (pre++c7V x y z p w k)=true∧e33 t st (pre++c7V x y z p w k)= .a [.i (t-st),.i x,.i y,.i z,.i p,.i w,.i k]:=by
 have hk:∀f v,(f=3∧v=p)∨(f=4∧v=w)∨(f=5∧v=k)→knV f (pre++c7V x y z p w k)=v:=by
  intro f v hf;have main:∀p w k:Int,-1≤p→-1≤w→-1≤k→knV 3 (pre++c7V x y z p w k)=p∧knV 4 (pre++c7V x y z p w k)=w∧knV 5 (pre++c7V x y z p w k)=k:=by
   intro p w k hp' hw' hk';unfold c7V V2 knV;by_cases a1:p<0<;>by_cases a2:w<0<;>by_cases a3:k<0<;>
    simp only [a1,a2,a3,decide_true,decide_false,f6B,f6C]<;>
    rcases hp with rfl|⟨u,rfl⟩<;>
    (refine ⟨?_,?_,?_⟩<;>first|rfl|(show (-1:Int)=_;omega))
  obtain ⟨q1,q2,q3⟩:=main p w k h.p.1 h.w.1 h.k.1;rcases hf with ⟨rfl,rfl⟩|⟨rfl,rfl⟩|⟨rfl,rfl⟩
  ·exact q1
  ·exact q2
  ·exact q3
 have hn:c3p 0 1 (pre++c7V x y z p w k)=(x,true)∧c3p 1 1 (pre++c7V x y z p w k)=(y,true)∧c3p 2 1 (pre++c7V x y z p w k)=(z,true):=by
  rcases hp with rfl|⟨u,rfl⟩<;>exact ⟨rfl,rfl,rfl⟩
 unfold b54 e33;rw [hn.1,hn.2.1,hn.2.2,hk 3 p (.inl ⟨rfl,rfl⟩),hk 4 w (.inr (.inl ⟨rfl,rfl⟩)),hk 5 k (.inr (.inr ⟨rfl,rfl⟩)),decide_eq_true (show t≥0 from ht),a0s (by omega) (by omega)]
 exact ⟨rfl,rfl⟩
end Go.Proofs.YtiegikkpipdleaaGreatDoor
namespace Go.Proofs.YtiegikkpipdleaaGreatDoor
open Go Go.AM
variable {N:Nat}
structure Sl (a:Ab) (j:Nat) (g:Int) (f:List D) (big:Bool):Prop where
 kn:a.kn j=true
 bg:a.bg j=big
 gl:a.gl j=g
 fl:a.fs j=f
def aft:Ab→List D→Ab
 |a,[]=>a
 |a,x::r=>aft (a0T a x) r
theorem a2i {a:Ab} {x:D} {r:List D} (h:a7H a x=0):a1q a (x::r)=a1q (a0T a x) r:=by
 simp only [a1q];rw [h];rfl
theorem b5C:∀{xs ys:List D} {a:Ab},a1q a xs=0→a1q a (xs++ys)=a1q (aft a xs) ys
 | [],_,_,_=>rfl
 |x::r,ys,a,h=>by
  obtain ⟨e1,e2⟩:=a2D h;rw [List.cons_append,a2i e1];exact b5C e2
theorem a51:∀{xs ys:List D} {a:Ab},a1F a (xs++ys)=a1F a xs++a1F (aft a xs) ys
 | [],_,_=>rfl
 |x::r,ys,a=>by
  simp only [List.cons_append,a1F,aft];cases kX x==1 with
  |true=>exact a51
  |false=>simp only [f6C,List.cons_append,a51 (xs:=r)]
section
variable {a:Ab} {j g:Int} {f:List D} {big:Bool}
theorem a6L (hj:0≤j) (hj2:j≤15) (hd:b7z g f=0):a7H a (a5b j g f big)=0∧Sl (a0T a (a5b j g f big)) j.toNat g f big:=by
 have i2:inI j 0 15=true:=decide_eq_true ⟨hj,hj2⟩;constructor
 ·show (bif !(inI 1 1 3) then 7 else bif !(inI j 0 15)|| !(inI 0 0 0) then 9 else _)=0
  rw [i2];exact hd
 ·refine ⟨?_,?_,?_,?_⟩
  ·show upA a.kn j.toNat true j.toNat=true;simp [upA]
  ·show upA a.bg j.toNat big j.toNat=big;simp [upA]
  ·show upA a.gl j.toNat g j.toNat=g;simp [upA]
  ·show upA a.fs j.toNat f j.toNat=f;simp [upA]
theorem a9E {b:List D} (h:Sl a j.toNat g f big) (hj:0≤j) (hj2:j≤15) (hl:(b.length:Int)=szL f):a7H a (a2E j b)=0∧a7B a (a2E j b)=a4u b big false 0 f∧a.gl (sX (a2E j b)).toNat=g∧(∀i g' f' big',Sl a i g' f' big'→Sl (a0T a (a2E j b)) i g' f' big'):=by
 have i2:inI j 0 15=true:=decide_eq_true ⟨hj,hj2⟩;refine ⟨?_,?_,h.gl,fun i g' f' big' hs=>⟨hs.kn,hs.bg,hs.gl,hs.fl⟩⟩
 ·show b5H 2 j 0 [] b (a.kn j.toNat) (szL (a.fs j.toNat)) (tmL 0 (a.fs j.toNat)) a.last=0
  rw [h.kn,h.fl];unfold b5H;show (bif !(inI 2 1 3) then 7 else bif !(inI j 0 15)|| !(inI 0 0 0) then 9 else _)=0
  rw [i2];show (bif (b.length:Int) !=szL f then (2:Int) else 0)=0
  rw [hl];simp
 ·show a4u b (a.bg j.toNat) false 0 (a.fs j.toNat)=_
  rw [h.bg,h.fl]
theorem c0p {t:Int} {r:List D} (h:Sl a j.toNat g f big) (hf:tmL 0 f=0) (h0:0≤t) (h1:t≤4294967294):a1I a (a2E j (nb4 t big++r))=t∧(a0T a (a2E j (nb4 t big++r))).last=t:=by
 have ht:a5k a 2 j 0 (nb4 t big++r)=t:=by
  unfold a5k;show (bif decide (tmL 0 (a.fs j.toNat)<0) then (-1:Int) else _)=t
  rw [h.fl,h.bg,hf];show (bif a7x (((nb4 t big++r).take 4).drop 0) big==4294967295 then (-1:Int) else a7x (((nb4 t big++r).take 4).drop 0) big)=t
  rw [f3M (a0t t big),e7N,show t%4294967296=t by omega,show (t==4294967295)=false by rw [beq_eq_false_iff_ne];omega]
  rfl
 refine ⟨ht,?_⟩;show (bif decide (a5k a 2 j 0 (nb4 t big++r)≥0) then a5k a 2 j 0 (nb4 t big++r) else a.last)=t
 rw [ht,decide_eq_true (show t≥0 from h0)];rfl
theorem e2A {tp t:Int} {b:List D} (h:Sl a 1 20 fs1 big) (hl:b.length=18) (hp:a.last=tp) (h0:0≤tp) (h1:tp<t) (h2:t-tp<32):a7H a (d77 (t.tmod 32) b)=0∧a7B a (d77 (t.tmod 32) b)=a4u b big true 0 fs1∧a.gl (sX (d77 (t.tmod 32) b)).toNat=20∧a1I a (d77 (t.tmod 32) b)=t∧(a0T a (d77 (t.tmod 32) b)).last=t∧(∀i g' f' big',Sl a i g' f' big'→Sl (a0T a (d77 (t.tmod 32) b)) i g' f' big'):=by
 have m0:t.tmod 32=t%32:=Int.tmod_eq_emod_of_nonneg (by omega)
 rw [m0];have ht:a5k a 3 1 (t%32) b=t:=by
  show a.last+(t%32-a.last%32+32)%32=t;rw [hp];omega
 refine ⟨?_,?_,h.gl,ht,?_,fun i g' f' big' hs=>⟨hs.kn,hs.bg,hs.gl,hs.fl⟩⟩
 ·show b5H 3 1 (t%32) [] b (a.kn 1) (szL (a.fs 1)) (tmL 0 (a.fs 1)) a.last=0
  rw [h.kn,h.fl,hp];unfold b5H;have i3:inI (t%32) 0 31=true:=decide_eq_true (by omega)
  show (bif !(inI 3 1 3) then 7 else bif !(inI 1 0 3)|| !(inI (t%32) 0 31) then 9 else _)=0
  rw [i3];show (bif (!true||(true&&(decide ((0:Int)<0)||decide (tp<0)))) then (11:Int) else bif (b.length:Int) !=22-4 then 2 else 0)=0
  rw [decide_eq_false (show¬tp<0 by omega),hl];rfl
 ·show a4u b (a.bg 1) true 0 (a.fs 1)=_
  rw [h.bg,h.fl]
 ·show (bif decide (a5k a 3 1 (t%32) b≥0) then a5k a 3 1 (t%32) b else a.last)=t
  rw [ht,decide_eq_true (show t≥0 by omega)];rfl
end
def f3O (st:Int) (s:D):Prop:=∃t x y z p w k,s= .a [.i t,.i x,.i y,.i z,.i p,.i w,.i k]∧0≤t∧st+t≤4294967294∧f3N x y z p w k
def f5c (st:Int) (l:D):Prop:=∃f t n,l= .a [.i f,.i t,.s n]∧0≤f∧0≤t∧st+f≤4294967294∧st+t≤4294967294∧n.length≤60∧ ∀c∈n,c≠0
def f5d (t:D):Prop:=∃s,t= .s s∧s≠[]∧s.length≤60∧ ∀c∈s,c≠0
def Inc:Option Int→List D→Prop
 |_,[]=>True
 |prev,s::r=>(∀p,prev=some p→p<(s.cell 0).toI)∧Inc (some (s.cell 0).toI) r
structure Seg (st:Int) (a:Ab) (es S L T:List D):Prop where
 e:a1q a es=0
 f:∀rest SS LS TS,b0L st (a1F a es++rest) SS LS TS=b0L st rest (SS++S) (LS++L) (TS++T)
theorem Seg.nil {st:Int} {a:Ab}:Seg st a [] [] [] []:=⟨rfl,fun rest SS LS TS=>by simp [a1F]⟩
theorem Seg.app {st:Int} {a:Ab} {xs ys S L T S' L' T':List D} (h:Seg st a xs S L T) (h':Seg st (aft a xs) ys S' L' T'):Seg st a (xs++ys) (S++S') (L++L') (T++T'):=
 ⟨by rw [b5C h.e];exact h'.e,fun rest SS LS TS=>by rw [a51,f6P,h.f,h'.f];simp [f6P]⟩
theorem Seg.one {st:Int} {a:Ab} {x:D} {es S L T S' L' T':List D} (h:Seg st a [x] S L T) (h':Seg st (a0T a x) es S' L' T'):Seg st a (x::es) (S++S') (L++L') (T++T'):=Seg.app (xs:=[x]) h h'
theorem Seg.def {st:Int} {a:Ab} {j g:Int} {f:List D} {big:Bool} (hj:0≤j) (hj2:j≤15) (hd:b7z g f=0):Seg st a [a5b j g f big] [] [] []:=by
 refine ⟨?_,fun rest SS LS TS=> ?_⟩
 ·rw [a2i (a6L hj hj2 hd).1];rfl
 ·show b0L st rest SS LS TS=_;simp
section
variable {st:Int} {big:Bool}
theorem c7W:∀{ts:List D} {a:Ab},Sl a 3 30 fs3 big→(∀t∈ts,f5d t)→Seg st a (ts.map fun t=>a2E 3 (txB t.toS)) [] [] ts
 | [],_,_,_=>Seg.nil
 | t::ts,a,h,ht=>by
  obtain ⟨s,rfl,hne,hl,hn⟩:=ht t (by simp)
  obtain ⟨w1,w2,w3,w4⟩:=a9E (b:=txB s) (j:=3) h (by omega) (by omega) (by rw [a1R hl];rfl)
  refine Seg.one (S:=[]) (L:=[]) (T:=[.s s]) ⟨?_,fun rest SS LS TS=> ?_⟩ (c7W (w4 _ _ _ _ h) fun x hx=>ht x (by simp [hx]))
  ·show a1q a [a2E 3 (txB s)]=0
   rw [a2i w1];rfl
  ·have hv:=e2y (big:=big) hn hl
   have e:a1F a [a2E 3 (txB s)]=[(30,a1I a (a2E 3 (txB s)),[mkV 1 2 (0,s,s==[])])]:=by
    show [(a.gl (sX (a2E 3 (txB s))).toNat,a1I a (a2E 3 (txB s)),a7B a (a2E 3 (txB s)))]=_;rw [w3,w2,hv]
   show b0L st (a1F a [a2E 3 (txB s)]++rest) SS LS TS=_;rw [e];have hs:(s==[])=false:=by rw [beq_eq_false_iff_ne];exact hne
   show (bif !(s==[]) then b0L st rest SS LS (TS++[.s s]) else none)=_
   rw [hs];simp
theorem c7X (h0:0≤st):∀{ls:List D} {a:Ab},Sl a 2 19 fs2 big→(∀l∈ls,f5c st l)→Seg st a (ls.map fun l=>a2E 2 (c3q big st l)) [] ls []
 | [],_,_,_=>Seg.nil
 | l::ls,a,h,hl=>by
  obtain ⟨f,t,n,rfl,f0,t0,f1,t1,hn,hz⟩:=hl l (by simp)
  have eb:c3q big st (.a [.i f,.i t,.s n])=nb4 (st+f) big++(nb4 (st+t) big++txB n):=by
   unfold c3q tmA tmB;show nb4 (IntKind.wrap .i64 (st+f)) big++(nb4 (IntKind.wrap .i64 (st+t)) big++txB n)=_;rw [a0s (by omega) (by omega),a0s (by omega) (by omega)]
  obtain ⟨w1,w2,w3,w4⟩:=a9E (b:=nb4 (st+f) big++(nb4 (st+t) big++txB n)) (j:=2) h (by omega) (by omega) (by rw [f6N,f6N,a0t,a0t,a1R hn];rfl)
  obtain ⟨w5,_⟩:=c0p (t:=st+f) (r:=nb4 (st+t) big++txB n) (j:=2) h rfl (by omega) f1
  simp only [List.map_cons,eb];refine Seg.one (S:=[]) (L:=[.a [.i f,.i t,.s n]]) (T:=[]) ⟨?_,fun rest SS LS TS=> ?_⟩ (c7X h0 (w4 _ _ _ _ h) fun x hx=>hl x (by simp [hx]))
  ·rw [a2i w1];rfl
  ·have hv:=e2z (big:=big) (f:=st+f) (t:=st+t) hz hn (by omega) f1 (by omega) t1
   have e:a1F a [a2E 2 (nb4 (st+f) big++(nb4 (st+t) big++txB n))]=[(19,st+f,[mkV 253 0 (st+f,[],false),mkV 1 0 (st+t,[],false),mkV 2 2 (0,n,n==[])])]:=by
    show [(a.gl (sX (a2E 2 (nb4 (st+f) big++(nb4 (st+t) big++txB n)))).toNat,a1I a (a2E 2 (nb4 (st+f) big++(nb4 (st+t) big++txB n))),a7B a (a2E 2 (nb4 (st+f) big++(nb4 (st+t) big++txB n))))]=_;rw [w3,w5,w2,hv]
   rw [e];show (bif (bif true then decide (st+f≥0) else false) then b0L st rest SS (LS++[.a [.i (IntKind.wrap .i64 (st+f-st)),.i (IntKind.wrap .i64 (st+t-st)),.s n]]) TS else none)=_
   rw [decide_eq_true (show st+f≥0 by omega),show st+f-st=f by omega,show st+t-st=t by omega,a0s (x:=f) (by omega) (by omega),a0s (x:=t) (by omega) (by omega)]
   simp
theorem e7P {st t:Int} {vs rest SS LS TS:List D} {r:List Tri} {x:D} (h:b54 t vs=true) (hd:e33 t st vs=x):b0L st ((20,t,vs)::r) SS LS TS=b0L st r (SS++[x]) LS TS:=by
 show (bif b54 t vs then b0L st r (SS++[e33 t st vs]) LS TS else none)=_
 rw [h,hd];rfl
theorem c7Y (h0:0≤st) (W:Bool):∀{ss:List D} {prev:Option Int} {a:Ab},Sl a 1 20 fs1 big→(∀p,prev=some p→0≤p∧a.last=st+p)→Inc prev ss→(∀s∈ss,f3O st s)→Seg st a (a2X W big st prev ss) ss [] []
 | [],_,_,_,_,_,_=>Seg.nil
 | s ::ss,prev,a,h,hp,hi,hs=>by
  obtain ⟨t,x,y,z,p,w,k,rfl,t0,t1,hr⟩:=hs s (by simp)
  have et:tmA st (.a [.i t,.i x,.i y,.i z,.i p,.i w,.i k])=st+t:=a0s (by show-9223372036854775808≤st+t;omega) (by show st+t≤9223372036854775807;omega)
  have er:a7C big (.a [.i t,.i x,.i y,.i z,.i p,.i w,.i k])=a4A big x y z p w k:=rfl;have hlen:(a4A big x y z p w k).length=18:=by unfold a4A;simp [a0t,a3P]
  have hi1:=hi.1;have fin:∀(e:D) (pre:List D),(pre=[]∨ ∃u,pre=[mkV 253 0 (u,[],false)])→kX e≠1→a7H a e=0→a.gl (sX e).toNat=20→a1I a e=st+t→a7B a e=pre++c7V x y z p w k→Sl (a0T a e) 1 20 fs1 big→(a0T a e).last=st+t→d8F W big st prev (.a [.i t,.i x,.i y,.i z,.i p,.i w,.i k])=e→
    Seg st a (a2X W big st prev (.a [.i t,.i x,.i y,.i z,.i p,.i w,.i k]::ss)) (.a [.i t,.i x,.i y,.i z,.i p,.i w,.i k]::ss) [] []:=by
   intro e pre hpre hk1 he hg htm hv hsl hlast hsm;simp only [a2X,hsm];refine Seg.one (S:=[.a [.i t,.i x,.i y,.i z,.i p,.i w,.i k]]) (L:=[]) (T:=[]) ⟨?_,fun rest SS LS TS=> ?_⟩ (c7Y h0 W hsl (fun q hq=>by cases hq;exact ⟨t0,hlast⟩) hi.2 fun x hx=>hs x (by simp [hx]))
   ·rw [a2i he];rfl
   ·have e':a1F a [e]=[(20,st+t,pre++c7V x y z p w k)]:=by
     simp only [a1F,(f27 hk1).1,f6C,hg,htm,hv]
    obtain ⟨o1,o2⟩:=f3i (t:=st+t) (st:=st) hpre hr (by omega) (by omega) (by omega)
    rw [e'];refine (e7P (rest:=[]) o1 o2).trans ?_;rw [show st+t-st=t by omega]
    simp
  have hlong:d8F W big st prev (.a [.i t,.i x,.i y,.i z,.i p,.i w,.i k])=a2E 1 (nb4 (st+t) big++a4A big x y z p w k)→Seg st a (a2X W big st prev (.a [.i t,.i x,.i y,.i z,.i p,.i w,.i k]::ss)) (.a [.i t,.i x,.i y,.i z,.i p,.i w,.i k]::ss) [] []:=by
   intro hsm;obtain ⟨w1,w2,w3,w4⟩:=a9E (b:=nb4 (st+t) big++a4A big x y z p w k) (j:=1) h (by omega) (by omega) (by rw [f6N,a0t,hlen];rfl)
   obtain ⟨w5,w6⟩:=c0p (t:=st+t) (r:=a4A big x y z p w k) (j:=1) h rfl (by omega) t1
   exact fin _ [mkV 253 0 (st+t,[],false)] (.inr ⟨_,rfl⟩) (by show (2:Int)≠1;decide) w1 w3 w5 (by rw [w2,d8h (by omega) t1 hr];rfl) (w4 _ _ _ _ h) w6 hsm
  cases hc:(!W&&a4v prev (.a [.i t,.i x,.i y,.i z,.i p,.i w,.i k])) with
  |false=>
   apply hlong;unfold d8F;rw [hc,et,er];rfl
  | true=>
   simp only [f6z] at hc;cases prev with
   |none=>exact absurd hc.2 (by simp [a4v])
   |some q=>
    obtain ⟨q0,ql⟩:=hp q rfl;have hq:=hi1 q rfl;have hq:q<t:=hq;have hsh:=hc.2;have hsh:decide (IntKind.wrap .i64 (t-q)<32)=true:=hsh;rw [a0s (by omega) (by omega)] at hsh
    simp only [decide_eq_true_eq] at hsh;obtain ⟨w1,w2,w3,w4,w5,w6⟩:=e2A (t:=st+t) (tp:=st+q) (b:=a4A big x y z p w k) h hlen ql (by omega) (by omega) (by omega)
    refine fin (d77 ((st+t).tmod 32) (a4A big x y z p w k)) [] (.inl rfl) (by show (3:Int)≠1;decide) w1 w3 w4 (by rw [w2,d8g hr];rfl) (w6 _ _ _ _ h) w5 ?_
    unfold d8F;rw [et,er,show (!W&&a4v (some q) (.a [.i t,.i x,.i y,.i z,.i p,.i w,.i k]))=true by rw [hc.1,hc.2];rfl]
    rfl
end
end Go.Proofs.YtiegikkpipdleaaGreatDoor
namespace Go.Proofs.YtiegikkpipdleaaGreatDoor
open Go Go.AM
variable {N:Nat}
structure d8i (name:List UInt8) (sport st:Int) (ss ls ts:List D):Prop where
 nm:name≠[]∧name.length≤60∧ ∀c∈name,c≠0
 sp:1≤sport∧sport≤5
 b0:0≤st
 b1:st≤4294967294
 s:ss.length≤20000
 l:ls.length≤200
 t:ts.length≤20
 sg:∀x∈ss,f3O st x
 lg:∀x∈ls,f5c st x
 tg:∀x∈ts,f5d x
 inc:Inc none ss
section
variable {name:List UInt8} {sport st:Int} {ss ls ts:List D} {big:Bool}
theorem d8i.filOk (h:d8i name sport st ss ls ts):f3h name sport st ss ls ts:=by
 have h0:=h.b0;refine ⟨h.nm.2.1,by have:=h.sp;omega,h.b0,h.b1,h.s,h.l,h.t,fun x hx=> ?_,fun x hx=> ?_,fun x hx=> ?_⟩
 ·obtain ⟨t,x,y,z,p,w,k,rfl,t0,t1,hr⟩:=h.sg x hx
  refine ⟨?_,hr.p.1,hr.w.1,hr.k.1⟩;show 0≤IntKind.wrap .i64 (st+t);rw [a0s (by omega) (by omega)];omega
 ·obtain ⟨f,t,n,rfl,f0,t0,f1,t1,hn,hz⟩:=h.lg x hx
  refine ⟨?_,?_,hn⟩
  ·show 0≤IntKind.wrap .i64 (st+f)
   rw [a0s (by omega) (by omega)];omega
  ·show 0≤IntKind.wrap .i64 (st+t)
   rw [a0s (by omega) (by omega)];omega
 ·obtain ⟨s,rfl,_,hl,_⟩:=h.tg x hx
  exact hl
def e8u (big:Bool) (ts:List D):List D:=ifE ts (a5b 3 30 fs3 big)++ts.map (fun t=>a2E 3 (txB t.toS))
def f3j (big:Bool) (st:Int) (ls:List D):List D:=ifE ls (a5b 2 19 fs2 big)++ls.map (fun l=>a2E 2 (c3q big st l))
def f3P (W big:Bool) (st:Int) (ss:List D):List D:=ifE ss (a5b 1 20 fs1 big)++a2X W big st none ss
def hd0 (big:Bool) (name:List UInt8) (sport st:Int):List D:=[a5b 0 0 fs0 big,a2E 0 (nb4 st big++(txB name++nb1 sport))]
theorem e7Q (W:Bool):a50 W name sport st ss ls ts big=hd0 big name sport st++(e8u big ts++(f3j big st ls++f3P W big st ss)):=by
 unfold a50 e8u f3j f3P hd0;simp only [f6P]
theorem f5e {a:Ab} (h:∀t∈ts,f5d t):Seg st a (e8u big ts) [] [] ts:=by
 unfold e8u ifE;cases ts with
 |nil=>exact Seg.nil
 |cons t r=>
  rw [decide_eq_true (by simp)]
  have:=Seg.app (Seg.def (st:=st) (a:=a) (j:=3) (g:=30) (f:=fs3) (big:=big) (by omega) (by omega) rfl) (c7W (st:=st) (a6L (a:=a) (j:=3) (g:=30) (f:=fs3) (big:=big) (by omega) (by omega) rfl).2 h)
  simpa using this
theorem f5f {a:Ab} (h0:0≤st) (h:∀l∈ls,f5c st l):Seg st a (f3j big st ls) [] ls []:=by
 unfold f3j ifE;cases ls with
 |nil=>exact Seg.nil
 |cons t r=>
  rw [decide_eq_true (by simp)]
  have:=Seg.app (Seg.def (st:=st) (a:=a) (j:=2) (g:=19) (f:=fs2) (big:=big) (by omega) (by omega) rfl) (c7X (st:=st) h0 (a6L (a:=a) (j:=2) (g:=19) (f:=fs2) (big:=big) (by omega) (by omega) rfl).2 h)
  simpa using this
theorem f5g {a:Ab} (W:Bool) (h0:0≤st) (hi:Inc none ss) (h:∀s∈ss,f3O st s):Seg st a (f3P W big st ss) ss [] []:=by
 unfold f3P ifE;cases ss with
 |nil=>exact Seg.nil
 |cons t r=>
  rw [decide_eq_true (by simp)]
  have:=Seg.app (Seg.def (st:=st) (a:=a) (j:=1) (g:=20) (f:=fs1) (big:=big) (by omega) (by omega) rfl) (c7Y (st:=st) h0 W (a6L (a:=a) (j:=1) (g:=20) (f:=fs1) (big:=big) (by omega) (by omega) rfl).2 (fun p hp=>by cases hp) hi h)
  simpa using this
theorem e7R (h:d8i name sport st ss ls ts) (rest:List D):a1q Ab.start (hd0 big name sport st)=0∧a1F Ab.start (hd0 big name sport st)=[(0,st,[mkV 253 0 (st,[],false),mkV 1 2 (0,name,name==[]),mkV 2 0 (sport,[],false)])]:=by
 obtain ⟨n1,n2,n3⟩:=h.nm;obtain ⟨d1,d2⟩:=a6L (a:=Ab.start) (j:=0) (g:=0) (f:=fs0) (big:=big) (by omega) (by omega) rfl
 obtain ⟨w1,w2,w3,w4⟩:=a9E (b:=nb4 st big++(txB name++nb1 sport)) (j:=0) d2 (by omega) (by omega) (by rw [f6N,f6N,a0t,a1R n2];rfl)
 obtain ⟨w5,_⟩:=c0p (t:=st) (r:=txB name++nb1 sport) (j:=0) d2 rfl h.b0 h.b1;have hv:=d8f (big:=big) n3 n2 h.b0 h.b1 (by have:=h.sp;omega) (by have:=h.sp;omega:sport≤254)
 unfold hd0;constructor
 ·rw [a2i d1,a2i w1];rfl
 ·show [((a0T Ab.start (a5b 0 0 fs0 big)).gl (sX (a2E 0 (nb4 st big++(txB name++nb1 sport)))).toNat,a1I (a0T Ab.start (a5b 0 0 fs0 big)) (a2E 0 (nb4 st big++(txB name++nb1 sport))),a7B (a0T Ab.start (a5b 0 0 fs0 big)) (a2E 0 (nb4 st big++(txB name++nb1 sport))))]=_
  rw [w3,w5,w2,hv]
theorem c3s {W:Bool}:∀{ss:List D} {prev:Option Int},(a2X W big st prev ss).length=ss.length
 | [],_=>rfl
 |s::r,prev=>by simp [a2X,c3s (ss:=r)]
theorem c5X {xs:List D} {d:D}:(ifE xs d).length≤1:=by unfold ifE;cases decide ((xs.length:Int)>0)<;>simp
theorem c3t:∀{xs ys:List D} {a:Ab},All2 EqE xs ys→a1F a xs=a1F a ys∧a1q a xs=a1q a ys
 | [],[],_,_=>⟨rfl,rfl⟩
 | x::r,y::s,a,h=>by
  have hk:=h.1.k;have hs:=h.1.s;have hb:=h.1.b;obtain ⟨i1,i2⟩:=c3t (a:=a0T a x) h.2;have ev:a7B a x=a7B a y:=by unfold a7B;rw [hk,hs,hb]
  have et:a1I a x=a1I a y:=h.1.time a;constructor
  ·simp only [a1F]
   rw [i1,←h.1.step a,ev,et,hk,hs]
  ·simp only [a1q]
   rw [i2,←h.1.step a,h.1.err a]
 | [],_::_,_,h=>h.elim
 |_::_,[],_,h=>h.elim
theorem e2B {xs ys:List D} (h:All2 EqE xs ys):c7T xs=c7T ys:=by
 have hl:=AM.All2.length h;obtain ⟨h1,h2⟩:=c3t (a:=Ab.start) h;have hf:fileE xs=fileE ys:=by unfold fileE;rw [hl,h2]
 unfold c7T;rw [hf,h1]
end
section
variable {es:List D}
end
end Go.Proofs.YtiegikkpipdleaaGreatDoor
namespace Go.Proofs.YtiegikkpipdleaaGreatDoor
open Go Go.AM
def b1J (l:List D):Prop:=∀y∈l,e7z y
theorem b1J.app {xs ys:List D} (h:b1J xs) (h':b1J ys):b1J (xs++ys):=fun y hy=>(List.mem_append.1 hy).elim (h y) (h' y)
theorem f5h (n i:Int):e7z (bt n i):=⟨_,rfl,by simp only [IntKind.wrap_u8];omega,by simp only [IntKind.wrap_u8];omega⟩
theorem c5Y (n:Int) (big:Bool):b1J (nb4 n big):=by
 intro y hy;cases big<;>(simp only [nb4,f6B,f6C,f6M,List.not_mem_nil,or_false] at hy;rcases hy with rfl|rfl|rfl|rfl<;>exact f5h _ _)
theorem e7S (n:Int) (big:Bool):b1J (nb2 n big):=by
 intro y hy;cases big<;>(simp only [nb2,f6B,f6C,f6M,List.not_mem_nil,or_false] at hy;rcases hy with rfl|rfl<;>exact f5h _ _)
theorem f5i (n:Int):b1J (nb1 n):=by
 intro y hy;simp only [nb1,f6M,List.not_mem_nil,or_false] at hy;subst hy;exact f5h _ _
theorem e7T (s:List UInt8):b1J (txB s):=by
 refine b1J.app (fun y hy=> ?_) (fun y hy=> ?_)
 ·obtain ⟨b,_,rfl⟩:=List.mem_map.1 hy
  exact ⟨_,rfl,by omega,by have:=b.toNat_lt;omega⟩
 ·obtain ⟨_,rfl⟩:=List.mem_replicate.1 hy
  exact ⟨0,rfl,by omega,by omega⟩
theorem e36 (big:Bool) (s:D):b1J (a7C big s):=by
 unfold a7C;exact (c5Y _ _).app ((c5Y _ _).app ((c5Y _ _).app ((e7S _ _).app ((e7S _ _).app (e7S _ _)))))
theorem c3u {j g:Int} {fs:List D} {big:Bool} (hj:a3o j) (hg:a3o g) (hl:fs.length≤maxLen) (hf:∀f∈fs,d8D f):c5R (a5b j g fs big):=by
 refine ⟨1,j,0,false,[.a [.b big,.i g,.l false fs]],true,[],rfl,by unfold a3o;omega,hj,by unfold a3o;omega,fun h=>(by cases h),fun _=>rfl,by show 1≤maxLen;decide,Nat.zero_le _,fun d hd=> ?_,fun y hy=>(by simp at hy)⟩
 simp only [f6M,List.not_mem_nil,or_false] at hd;subst hd;exact ⟨big,g,false,fs,rfl,hg,fun h=>(by cases h),hl,hf⟩
theorem b7J {k j o:Int} {b:List D} (hk:a3o k) (hj:a3o j) (ho:a3o o) (hl:b.length≤maxLen) (hb:b1J b):c5R (.a [.i k,.i j,.i o,.l true [],.l false b]):=
 ⟨k,j,o,true,[],false,b,rfl,hk,hj,ho,fun _=>rfl,fun h=>(by cases h),Nat.zero_le _,hl,fun d hd=>(by simp at hd),hb⟩
theorem f3k {a b c:Int} (h:a3o a∧a3o b∧a3o c):d8D (.a [.i a,.i b,.i c]):=⟨a,b,c,rfl,h.1,h.2.1,h.2.2⟩
theorem f6c:(∀f∈fs0,d8D f)∧(∀f∈fs3,d8D f)∧(∀f∈fs2,d8D f)∧(∀f∈fs1,d8D f):=by
 refine ⟨?_,?_,?_,?_⟩<;>
 ·intro f hf
  simp only [fs0,fs1,fs2,fs3,tF,f6M,List.not_mem_nil,or_false] at hf;rcases hf with rfl|rfl|rfl|rfl|rfl|rfl|rfl<;>exact f3k (by unfold a3o;omega)
section
variable {name:List UInt8} {sport st:Int} {ss ls ts:List D} {big:Bool}
theorem e37 (h0:0≤st) (W:Bool):∀{ss:List D} {prev:Option Int},(∀s∈ss,f3O st s)→ ∀x∈a2X W big st prev ss,c5R x
 | [],_,_,x,hx=>by simp [a2X] at hx
 | s::r,prev,h,x,hx=>by
  have hm:maxLen=9223372036854775807:=rfl;have hlen:(a7C big s).length=18:=by unfold a7C;simp [a0t,a3P]
  obtain ⟨t,_,_,_,_,_,_,hs,t0,t1,_⟩:=h s (by simp)
  have et:tmA st s=st+t:=by rw [hs];exact a0s (by show-9223372036854775808≤st+t;omega) (by show st+t≤9223372036854775807;omega)
  simp only [a2X,f6M] at hx;rcases hx with rfl|hx
  ·unfold d8F
   cases (!W&&a4v prev s) with
   |true=>
    refine b7J (by unfold a3o;omega) (by unfold a3o;omega) ?_ (by rw [hlen];omega) (e36 _ _)
    rw [et,Int.tmod_eq_emod_of_nonneg (by omega)]
    unfold a3o;omega
   |false=>exact b7J (by unfold a3o;omega) (by unfold a3o;omega) (by unfold a3o;omega) (by rw [f6N,a0t,hlen];omega) ((c5Y _ _).app (e36 _ _))
  ·exact e37 h0 W (fun y hy=>h y (by simp [hy])) x hx
theorem b0M {xs:List D} {d x:D} (h:x∈ifE xs d):x=d:=by
 unfold ifE at h;cases hd:decide ((xs.length:Int)>0) with
 |true=>rw [hd] at h;simpa using h
 |false=>rw [hd] at h;simp at h
theorem f3l (h:d8i name sport st ss ls ts) (W:Bool):∀x∈a50 W name sport st ss ls ts big,c5R x:=by
 have hm:maxLen=9223372036854775807:=rfl;obtain ⟨f0,f3,f2,f1⟩:=f6c;intro x hx;unfold a50 at hx;simp only [List.mem_append,f6M,List.not_mem_nil,or_false,List.mem_map] at hx;rcases hx with (((((((rfl|rfl)|hx)|⟨t,ht,rfl⟩)|hx)|⟨l,hl,rfl⟩)|hx)|hx)
 ·exact c3u (by unfold a3o;omega) (by unfold a3o;omega) (by show 3≤maxLen;omega) f0
 ·exact b7J (by unfold a3o;omega) (by unfold a3o;omega) (by unfold a3o;omega) (by rw [f6N,f6N,a0t,a1R h.nm.2.1];show 4+(60+1)≤maxLen;omega) ((c5Y _ _).app ((e7T _).app (f5i _)))
 ·rw [b0M hx];exact c3u (by unfold a3o;omega) (by unfold a3o;omega) (by show 1≤maxLen;omega) f3
 ·obtain ⟨s,rfl,_,hl,_⟩:=h.tg t ht
  exact b7J (by unfold a3o;omega) (by unfold a3o;omega) (by unfold a3o;omega) (by show (txB s).length≤maxLen;rw [a1R hl];omega) (e7T _)
 ·rw [b0M hx];exact c3u (by unfold a3o;omega) (by unfold a3o;omega) (by show 3≤maxLen;omega) f2
 ·obtain ⟨f,t,n,rfl,_,_,_,_,hn,_⟩:=h.lg l hl
  refine b7J (by unfold a3o;omega) (by unfold a3o;omega) (by unfold a3o;omega) ?_ ((c5Y _ _).app ((c5Y _ _).app (e7T _)))
  unfold c3q;rw [f6N,f6N,a0t,a0t];show 4+(4+(txB n).length)≤maxLen;rw [a1R hn];omega
 ·rw [b0M hx];exact c3u (by unfold a3o;omega) (by unfold a3o;omega) (by show 7≤maxLen;omega) f1
 ·exact e37 h.b0 W h.sg x hx
end
def f3Q (s:D):Prop:=∃a b c d e f g,s= .a [.i a,.i b,.i c,.i d,.i e,.i f,.i g]
def f3R (l:D):Prop:=∃f t n,l= .a [.i f,.i t,.s n]
def f3S (t:D):Prop:=∃s,t= .s s
section
variable {name:List UInt8} {sport st:Int} {ss ls ts:List D}
theorem d8j (h:c5F name sport st ss ls ts=0):b1H name=true∧inI sport 1 5=true∧inI st 0 86399999999=true∧(ss.length≤20000∧ls.length≤200∧ts.length≤20)∧a0Q (d0S st ss) 0 ss=0∧a0Q (e1I (a4d ss) ls) 0 ls=0∧a0Q (e7o ts) 0 ts=0:=by
 unfold c5F at h;cases h1:b1H name with
 |false=>rw [h1] at h;exact absurd (show (8:Int)=0 from h) (by decide)
 |true=>
 cases h2:inI sport 1 5 with
 |false=>rw [h1,h2] at h;exact absurd (show (7:Int)=0 from h) (by decide)
 |true=>
 cases h3:inI st 0 86399999999 with
 |false=>rw [h1,h2,h3] at h;exact absurd (show (9:Int)=0 from h) (by decide)
 |true=>
 rw [h1,h2,h3] at h;simp only [Bool.not_true,f6C] at h;cases h4:decide ((ss.length:Int)>20000)||decide ((ls.length:Int)>200)||decide ((ts.length:Int)>20) with
 |true=>rw [h4] at h;exact absurd (show (3:Int)=0 from h) (by decide)
 |false=>
 rw [h4] at h;simp only [f6C] at h;simp only [Bool.or_eq_false_iff,decide_eq_false_iff_not] at h4;cases h5:a0Q (d0S st ss) 0 ss !=0 with
 |true=>rw [h5] at h;simp only [f6B] at h;rw [h] at h5;simp at h5
 |false=>
 rw [h5] at h;simp only [f6C] at h;cases h6:a0Q (e1I (a4d ss) ls) 0 ls !=0 with
 |true=>rw [h6] at h;simp only [f6B] at h;rw [h] at h6;simp at h6
 |false=>
 rw [h6] at h;simp only [f6C] at h;exact ⟨rfl,rfl,rfl,by omega,by simpa using h5,by simpa using h6,h⟩
theorem c7Z {s:List UInt8} (h:b1H s=true):s≠[]∧s.length≤60∧ ∀c∈s,c≠0:=by
 unfold b1H at h;simp only [f6z,decide_eq_true_eq,List.all_eq_true] at h;refine ⟨fun e=>by rw [e] at h;simp at h,h.2.2,fun c hc e=> ?_⟩
 have:=h.1 c hc;rw [e] at this;exact absurd this (by decide)
theorem d8k {s:List UInt8} (h:b1p s=true):s.length≤60∧ ∀c∈s,c≠0:=by
 unfold b1p at h;simp only [f6z,decide_eq_true_eq,List.all_eq_true] at h;refine ⟨h.2,fun c hc e=> ?_⟩
 have:=h.1 c hc;rw [e] at this;exact absurd this.1 (by decide)
def atS (ss:List D) (i:Nat):Int:=((ss.getD i (.i 0)).cell 0).toI
theorem a9F (h:a0Q (d0S st ss) 0 ss=0) {i:Nat} (hi:i<ss.length):(i=0→atS ss i=0)∧(0<i→atS ss (i-1)<atS ss i)∧atS ss i≤1000000∧e8r (ss.getD i (.i 0))=true:=by
 have hz:=a1Q h i hi;rw [Int.zero_add] at hz;unfold d0S at hz;cases h1:e8q ss (i:Int) with
 |true=>rw [h1] at hz;exact absurd (show (10:Int)=0 from hz) (by decide)
 | false=>
  rw [h1] at hz;simp only [f6C,Int.toNat_natCast] at hz;cases h2:e8s st (ss.getD i (.i 0))|| !e8r (ss.getD i (.i 0)) with
  |true=>rw [h2] at hz;exact absurd (show (9:Int)=0 from hz) (by decide)
  | false=>
   simp only [Bool.or_eq_false_iff,Bool.not_eq_false'] at h2;unfold e8q at h1;unfold e8s at h2;simp only [Bool.or_eq_false_iff,decide_eq_false_iff_not] at h2;refine ⟨fun hi0=> ?_,fun hi0=> ?_,by unfold atS;omega,h2.2⟩
   ·subst hi0
    simp at h1;unfold atS;simpa using h1
   ·have e:((i:Int)==0)=false:=by rw [beq_eq_false_iff_ne];omega
    rw [e] at h1;simp only [f6C,Int.toNat_natCast,decide_eq_false_iff_not] at h1;have e2:((i:Int)-1).toNat=i-1:=by omega
    rw [e2] at h1;unfold atS;omega
theorem e7U (h:a0Q (d0S st ss) 0 ss=0):∀(d i:Nat),i+d<ss.length→atS ss i≤atS ss (i+d)
 |0,i,_=>Int.le_refl _
 |d+1,i,hi=>by
  have h1:=e7U h d i (by omega)
  have h2:=(a9F h (i:=i+(d+1)) hi).2.1 (by omega)
  rw [show i+(d+1)-1=i+d by omega] at h2
  omega
theorem d8l (h:a0Q (d0S st ss) 0 ss=0) {i:Nat} (hi:i<ss.length):0≤atS ss i∧atS ss i≤a4d ss∧a4d ss≤1000000:=by
 have h0:=e7U h i 0 (by omega)
 have h1:=(a9F h (i:=0) (by omega)).1 rfl
 have h2:=e7U h (ss.length-1-i) i (by omega)
 have h3:=(a9F h (i:=ss.length-1) (by omega)).2.2.1
 rw [show i+(ss.length-1-i)=ss.length-1 by omega] at h2
 rw [Nat.zero_add] at h0;have e:a4d ss=atS ss (ss.length-1):=by
  unfold a4d atS;rw [decide_eq_true (show (ss.length:Int)>0 by omega),show ((ss.length:Int)-1).toNat=ss.length-1 by omega];rfl
 rw [e];omega
theorem e39 (h:a0Q (d0S st ss) 0 ss=0):∀(n k:Nat),k+n=ss.length→Inc (if k=0 then none else some (atS ss (k-1))) (ss.drop k)
 |0,k,hk=>by rw [List.drop_eq_nil_of_le (by omega)];trivial
 | n+1,k,hk=>by
  have hd:ss.drop k=ss.getD k (.i 0)::ss.drop (k+1):=by
   rw [List.drop_eq_getElem_cons (by omega),f6F,f6L (by omega)];rfl
  have ih:=e39 h n (k+1) (by omega)
  rw [if_neg (by omega),show k+1-1=k by omega] at ih
  rw [hd];refine ⟨fun p hp=> ?_,ih⟩
  by_cases h0:k=0
  ·rw [if_pos h0] at hp;cases hp
  ·rw [if_neg h0] at hp
   simp only [f6x] at hp;subst hp;exact (a9F h (i:=k) (by omega)).2.1 (by omega)
theorem e7V (h:c5F name sport st ss ls ts=0) (hw:¬IntKind.wrap .i64 (st+a4d ss)>4294967294) (hs:∀s∈ss,f3Q s) (hl:∀l∈ls,f3R l) (ht:∀t∈ts,f3S t):d8i name sport st ss ls ts:=by
 obtain ⟨c1,c2,c3,⟨c4,c5,c6⟩,c7,c8,c9⟩:=d8j h;unfold inI at c2 c3;simp only [decide_eq_true_eq] at c2 c3;have hsp:0≤a4d ss∧a4d ss≤1000000:=by
  cases hss:ss with
  |nil=>exact ⟨by decide,by decide⟩
  |cons x r=>
   have:=d8l c7 (i:=0) (by rw [hss];simp)
   rw [←hss];omega
 have hsum:st+a4d ss≤4294967294:=by
  rw [a0s (by omega) (by omega)] at hw;omega
 refine ⟨c7Z c1,c2,c3.1,by omega,c4,c5,c6,fun s hx=> ?_,fun l hx=> ?_,fun t hx=> ?_,?_⟩
 ·obtain ⟨i,hi,rfl⟩:=List.getElem_of_mem hx
  have hg:ss.getD i (.i 0)=ss[i]:=by rw [f6F,f6L hi];rfl
  obtain ⟨_,_,_,r⟩:=a9F c7 hi;obtain ⟨a1,a2,a3⟩:=d8l c7 hi;unfold atS at a1 a2;rw [hg] at r a1 a2;obtain ⟨a,b,c,d,e,f,g,he⟩:=hs _ hx;rw [he] at r a1 a2;have a1:0≤a:=a1;have a2:a≤a4d ss:=a2;have r:(inI b (-100000000) 100000000&&inI c (-100000000) 100000000&&inI d (-100000) 100000&&inI e (-1) 300&&inI f (-1) 3000&&inI g (-1) 300)=true:=r;unfold inI at r;simp only [f6z,decide_eq_true_eq] at r;exact ⟨a,b,c,d,e,f,g,he,a1,by omega,⟨by omega,by omega,by omega,by omega,by omega,by omega⟩⟩
 ·obtain ⟨i,hi,rfl⟩:=List.getElem_of_mem hx
  have hg:ls.getD i (.i 0)=ls[i]:=by rw [f6F,f6L hi];rfl
  have hz:=a1Q c8 i hi;rw [Int.zero_add] at hz;obtain ⟨f,t,n,he⟩:=hl _ hx;unfold e1I at hz;rw [Int.toNat_natCast,hg,he] at hz;cases h1:f40 (a4d ss) (.a [.i f,.i t,.s n]) with
  |true=>rw [h1] at hz;exact absurd (show (9:Int)=0 from hz) (by decide)
  | false=>
   rw [h1] at hz;simp only [f6C] at hz;cases h2:f2Y ls (i:Int) with
   |true=>rw [h2] at hz;exact absurd (show (10:Int)=0 from hz) (by decide)
   | false=>
    rw [h2] at hz;simp only [f6C] at hz;cases h3:b1p n with
    |false=>
     have hz:(bif b1p n then (0:Int) else 8)=0:=hz
     rw [h3] at hz;exact absurd (show (8:Int)=0 from hz) (by decide)
    |true=>
     have h1:(decide (f<0)||decide (f≥t)||decide (t>a4d ss))=false:=h1;simp only [Bool.or_eq_false_iff,decide_eq_false_iff_not] at h1;obtain ⟨t1,t2⟩:=d8k h3;exact ⟨f,t,n,he,by omega,by omega,by omega,by omega,t1,t2⟩
 ·obtain ⟨i,hi,rfl⟩:=List.getElem_of_mem hx
  have hg:ts.getD i (.i 0)=ts[i]:=by rw [f6F,f6L hi];rfl
  have hz:=a1Q c9 i hi;rw [Int.zero_add] at hz;obtain ⟨s,he⟩:=ht _ hx;unfold e7o at hz;rw [Int.toNat_natCast,hg,he] at hz;cases h3:b1H s with
  |false=>
   have hz:(bif b1H s then (bif f2Z ts i then (10:Int) else 0) else 8)=0:=hz
   rw [h3] at hz;exact absurd (show (8:Int)=0 from hz) (by decide)
  |true=>exact ⟨s,he,c7Z h3⟩
 ·exact e39 c7 ss.length 0 (by omega)
end
theorem e7W:kinds Tryz.prog 26=[.str,.int .i64,.int .i64,.sl 70,.sl 65,.sl 9]:=by kernel_rfl
theorem e7X:kinds Tryz.prog 70=[.int .i64,.int .i64,.int .i64,.int .i64,.int .i64,.int .i64,.int .i64]:=by kernel_rfl
theorem e7Y:kinds Tryz.prog 65=[.int .i64,.int .i64,.str]:=by kernel_rfl
theorem e4a:kinds Tryz.prog 9=[.str]:=by kernel_rfl
theorem f3m:kinds Tryz.prog 4=[.bool]:=by kernel_rfl
variable {N:Nat}
def abN:Ab→List D→Nat→Ab
 |a,_,0=>a
 |a,[],_+1=>a
 |a,x::r,i+1=>abN (a0T a x) r i
theorem b1t:∀{es:List D} {a:Ab} {i:Nat},OkA a→OkT a→a1q a es=0→i<es.length→OkA (abN a es i)∧OkT (abN a es i)∧a7H (abN a es i) (es.getD i (.i 0))=0
 |x::r,a,0,ha,ht,h,_=>⟨ha,ht,(a2D h).1⟩
 |x::r,a,i+1,ha,ht,h,hi=>by
  obtain ⟨h1,h2⟩:=a2D h;exact b1t (es:=r) (a:=a0T a x) (ha.step h1) (ht.step h1) h2 (by simpa using hi)
 | [],_,_,_,_,_,hi=>by simp at hi
theorem c70:∀{es:List D} {a:Ab} {i:Nat},i<es.length→abN a es (i+1)=a0T (abN a es i) (es.getD i (.i 0))
 |x::r,a,0,_=>by cases r<;>rfl
 |x::r,a,i+1,hi=>c70 (es:=r) (a:=a0T a x) (by simpa using hi)
 | [],_,_,hi=>by simp at hi
def a7D (es:List D) (k:Int):Int:=bif fileE es !=0 then fileE es else bif (bif decide (k<0) then true else decide (k≥(es.length:Int))) then 4 else bif kX (es.getD k.toNat (.i 0))==1 then 7 else 0
section
variable {es:List D}
theorem e2C {k:Int} (h:a7D es k=0):fileE es=0∧0≤k∧k<es.length∧kX (es.getD k.toNat (.i 0))≠1:=by
 unfold a7D at h;cases h1:fileE es !=0 with
 |true=>rw [h1] at h;exact absurd h (by simpa using h1)
 | false=>
  rw [h1] at h;simp only [f6C] at h;by_cases h2:k<0
  ·rw [decide_eq_true h2] at h;exact absurd (show (4:Int)=0 from h) (by decide)
  ·by_cases h3:k≥(es.length:Int)
   ·rw [decide_eq_false h2,decide_eq_true h3] at h;exact absurd (show (4:Int)=0 from h) (by decide)
   ·rw [decide_eq_false h2,decide_eq_false h3] at h
    simp only [f6C] at h;refine ⟨by simpa using h1,by omega,by omega,fun h4=> ?_⟩
    rw [show (kX (es.getD k.toNat (.i 0))==1)=true from by rw [h4];rfl] at h
    exact absurd (show (7:Int)=0 from h) (by decide)
theorem c71 {n:Nat} (h:n≤es.length):((es.take n).drop 0).length=n:=by simp;omega
theorem e2D {n:Nat} {i:Int} (h0:0≤i) (h1:i<n) (h:n≤es.length):((es.take n).drop 0).getD i.toNat (.i 0)=es.getD i.toNat (.i 0):=by
 rw [List.drop_zero,f6F,f6F,List.getElem?_take,if_pos (by omega)]
theorem d8m (hN:maxLen<N) (hes:∀x∈es,a3c x) (hl:es.length≤50000) (he:a1q Ab.start es=0) {n:Nat} (hn:n≤es.length):∀(m:Nat) (i:Int) (p s:D),0≤i→i≤n→(n-i).toNat<m→Wk p s (abN Ab.start es i.toNat) i→
  ∃p' s',a8B N ((es.take n).drop 0) n m i p (fun p=>some p)=some p'∧Wk p' s' (abN Ab.start es n) n:=by
 intro m;induction m with
 |zero=>intro i p s _ _ h;omega
 | succ m ih=>
  intro i p s h0 h1 hm hs;unfold a8B b2e;by_cases hi:i<n
  ·have hx:a3c (es.getD i.toNat (.i 0)):=hes _ (a0R (fs:=es) h0 (by omega))
   have hE:=(b1t (i:=i.toNat) OkA.start OkT.start he (by omega)).2.2
   obtain ⟨p',s',q1,q2,hs'⟩:=c0f hN hs hx h0 (by omega) hE
   rw [decide_eq_true hi,a0K h0 (by rw [c71 hn];omega),e2D h0 hi hn,q1]
   simp only [f6B,a0i,f6G,getD_some,a0s (x:=i+1) (by omega) (by omega)]
   have hnx:(i+1).toNat=i.toNat+1:=by omega
   refine ih (i+1) p' s' (by omega) (by omega) (by omega) ?_
   rw [hnx,c70 (by omega)]
   exact hs'
  ·have:i=n:=by omega
   subst this;rw [decide_eq_false hi];exact ⟨p,s,rfl,by simpa using hs⟩
structure f6d (a:Ab) (x:D) (t:Ty2):Prop where
 g:t.2.1=a.bg (sX x).toNat
 f:t.2.2.2.2.1=a.fs (sX x).toNat
 t:t.2.2.2.2.2.2.1=tmL 0 (a.fs (sX x).toNat)
theorem f3n (hN:maxLen<N) (hes:∀x∈es,a3c x) (k:Int):∃t:Ty2,d36 N es k=some t∧t.2.2.2.2.2.2.2=a7D es k∧(a7D es k=0→f6d (abN Ab.start es k.toNat) (es.getD k.toNat (.i 0)) t):=by
 have hmx:maxLen=9223372036854775807:=rfl;unfold d36 c9n a7D;rw [(a2W (N:=N) hN hes).1];simp only [a0i,f6G,f6B,getD_some];cases h1:fileE es !=0 with
 |true=>exact ⟨_,rfl,rfl,fun h=>absurd h (by simpa using h1)⟩
 | false=>
  have hz:fileE es=0:=by simpa using h1
  obtain ⟨hl,he⟩:=a36 hz;simp only [f6C];unfold a26 c4x;rw [a0s (x:=(es.length:Int)-1) (by omega) (by omega)]
  by_cases h2:k<0
  ·rw [decide_eq_true h2,decide_eq_false (show¬k≥0 by omega)];exact ⟨_,rfl,rfl,fun h=>absurd (show (4:Int)=0 from h) (by decide)⟩
  ·by_cases h3:k≥(es.length:Int)
   ·rw [decide_eq_false h2,decide_eq_true h3,decide_eq_true (show k≥0 by omega),decide_eq_false (show¬k≤(es.length:Int)-1 by omega)];exact ⟨_,rfl,rfl,fun h=>absurd (show (4:Int)=0 from h) (by decide)⟩
   ·obtain ⟨p',s',q1,q2⟩:=d8m hN hes hl he (n:=k.toNat) (by omega) N 0 (b0b N) a7y (by omega) (by omega) (by omega) (by simpa [abN] using b5t)
    have y1:c6L N ((es.take k.toNat).drop 0) (((es.take k.toNat).drop 0).length:Int) 0 (b0b N)=some p':=by rw [c71 (by omega)];exact q1
    rw [decide_eq_false h2,decide_eq_false h3,decide_eq_true (show k≥0 by omega),decide_eq_true (show k≤(es.length:Int)-1 by omega),decide_eq_true (show k≤(es.length:Int) by omega),y1,a0K (by omega) (by omega)]
    simp only [f6C,f6B,Bool.not_true,Bool.and_true,f6G,getD_some];cases h4:((es.getD k.toNat (.i 0)).cell 0).toI==1 with
    |true=>exact ⟨_,rfl,rfl,fun h=>absurd (show (7:Int)=0 from h) (by decide)⟩
    |false=>
     have hk:kX (es.getD k.toNat (.i 0))≠1:=by simpa [kX] using h4
     obtain ⟨oa,ot,oe⟩:=b1t (i:=k.toNat) OkA.start OkT.start he (by omega)
     have hE:=a11 oe;obtain ⟨i1,i2⟩:=hE.s;simp only [f6C];rw [show inB ((es.getD k.toNat (.i 0)).cell 1).toI 16=true from i1];obtain ⟨_,d1,d2,d3,d4,d5⟩:=q2.pp.df _ i2 (hE.n hk).1;exact ⟨_,rfl,rfl,fun _=>⟨d1,d3,d5⟩⟩
end
end Go.Proofs.YtiegikkpipdleaaGreatDoor
namespace Go.Proofs.YtiegikkpipdleaaGreatDoor
open Go Go.AM
variable {N:Nat}
def nbS (s n:Int) (big:Bool):List D:=bif s==1 then nb1 n else bif s==2 then nb2 n big else nb4 n big
theorem f6e (hN:maxLen<N) {s:Int} (h:Sz s) (n:Int) (big:Bool):a8I N n s big=some (nbS s n big):=by
 rcases h with rfl|rfl|rfl
 ·exact f25 hN n big
 ·exact e2a hN n big
 ·exact d7S hN n big
theorem d8n {s:Int} (h:Sz s) (n:Int) (big:Bool):((nbS s n big).length:Int)=s:=by
 rcases h with rfl|rfl|rfl
 ·rfl
 ·cases big<;>rfl
 ·cases big<;>rfl
theorem e4b {s:Int} (h:Sz s) (n:Int) (big:Bool):a0n (nbS s n big):=by
 rcases h with rfl|rfl|rfl
 ·intro x hx
  simp only [nbS,nb1] at hx;have:x=bt n 0:=by simpa using hx
  rw [this];exact c5P n 0
 ·exact e3Y n big
 ·exact c3m n big
def c72 (s:Int) (sg:Bool):Int:=bif sg then-(a7A s true)-1 else 0
def b1K (s t vi:Int) (vt:List UInt8) (vm big:Bool):Int×List D:=
 bif (bif t==1 then true else t==0) then
  bif vm then (bif (bif vi !=0 then true else !(vt==[])) then (2,[]) else (0,nbS s (a7A s (t==1)) big))
  else bif !(vt==[]) then (2,[]) else bif !inI vi (c72 s (t==1)) (a7A s (t==1)-1) then (9,[]) else (0,nbS s vi big)
 else bif t==2 then
  bif vm then (bif (bif vi !=0 then true else !(vt==[])) then (2,[]) else (0,List.replicate s.toNat (.i 0)))
  else bif (bif (bif vi !=0 then true else vt==[]) then true else decide (Lib.indexByte vt 0≥0)) then (2,[]) else bif decide ((vt.length:Int)>s) then (3,[]) else (0,a0u vt++List.replicate (s-vt.length).toNat (.i 0))
 else
  bif vm then (2,[]) else bif (bif vi !=0 then true else (vt.length:Int) !=s) then (2,[]) else (0,a0u vt)
theorem a2d (l:List UInt8):(a0u l).length=l.length:=by unfold a0u;simp
theorem c3v (l:List UInt8):a0n (a0u l):=by
 intro x hx;unfold a0u at hx;obtain ⟨c,_,rfl⟩:=List.mem_map.1 hx;have:=c.toNat_lt;simp only [c3J,D.toI];omega
theorem c73 (n:Nat):a0n (List.replicate n (.i 0)):=fun x hx=>by
 rw [(List.mem_replicate.1 hx).2];exact ⟨by decide,by decide⟩
theorem c5Z {s t vi:Int} {vt:List UInt8} {vm big:Bool} (hs:1≤s∧s≤255) (hz:t≤1→s=1∨s=2∨s=4) (h0:0≤t∧t≤3) (h:(b1K s t vi vt vm big).1=0):((b1K s t vi vt vm big).2.length:Int)=s∧a0n (b1K s t vi vt vm big).2:=by
 unfold b1K at h⊢;cases c1:(bif t==1 then true else t==0) with
 | true=>
  have ht:Sz s:=hz (by cases c2:t==1<;>rw [c2] at c1<;>simp at c1 c2<;>omega)
  rw [c1] at h;simp only [f6B] at h⊢;cases vm with
  |true=>
   simp only [f6B] at h⊢;cases c3:(bif vi !=0 then true else !(vt==[])) with
   |true=>rw [c3] at h;exact absurd (show (2:Int)=0 from h) (by decide)
   |false=>exact ⟨d8n ht _ _,e4b ht _ _⟩
  | false=>
   simp only [f6C] at h⊢;cases c3: !(vt==[]) with
   |true=>rw [c3] at h;exact absurd (show (2:Int)=0 from h) (by decide)
   |false=>
    rw [c3] at h;simp only [f6C] at h⊢;cases c4: !inI vi (c72 s (t==1)) (a7A s (t==1)-1) with
    |true=>rw [c4] at h;exact absurd (show (9:Int)=0 from h) (by decide)
    |false=>exact ⟨d8n ht _ _,e4b ht _ _⟩
 | false=>
  rw [c1] at h;simp only [f6C] at h⊢;cases c2:t==2 with
  | true=>
   rw [c2] at h;simp only [f6B] at h⊢;cases vm with
   |true=>
    simp only [f6B] at h⊢;cases c3:(bif vi !=0 then true else !(vt==[])) with
    |true=>rw [c3] at h;exact absurd (show (2:Int)=0 from h) (by decide)
    |false=>exact ⟨by simp only [f6C,List.length_replicate];omega,c73 _⟩
   | false=>
    simp only [f6C] at h⊢;cases c3:(bif (bif vi !=0 then true else vt==[]) then true else decide (Lib.indexByte vt 0≥0)) with
    |true=>rw [c3] at h;exact absurd (show (2:Int)=0 from h) (by decide)
    | false=>
     rw [c3] at h;simp only [f6C] at h⊢;cases c4:decide ((vt.length:Int)>s) with
     |true=>rw [c4] at h;exact absurd (show (3:Int)=0 from h) (by decide)
     |false=>
      have:¬(vt.length:Int)>s:=by simpa using c4
      refine ⟨?_,?_⟩
      ·simp only [f6C,f6N,List.length_replicate,a2d];omega
      ·simp only [f6C];exact (c3v vt).append (c73 _)
  | false=>
   rw [c2] at h;simp only [f6C] at h⊢;cases vm with
   |true=>exact absurd (show (2:Int)=0 from h) (by decide)
   | false=>
    simp only [f6C] at h⊢;cases c3:(bif vi !=0 then true else (vt.length:Int) !=s) with
    |true=>rw [c3] at h;exact absurd (show (2:Int)=0 from h) (by decide)
    | false=>
     have:(vt.length:Int)=s:=by
      cases c4:vi !=0 with
      |true=>rw [c4] at c3;cases c3
      |false=>rw [c4] at c3;simpa using c3
     simp only [f6C];exact ⟨by rw [a2d];exact this,c3v vt⟩
theorem d8o {s:Int} (hs:1≤s∧s≤255):∃m,a8u N s false=some m:=by
 unfold a8u c4B;rw [a0s (x:=8*s) (by omega) (by omega),decide_eq_true (show (0:Int)≤8*s by omega)]
 exact ⟨_,rfl⟩
theorem f3o (vt:List UInt8):c9x N vt=bif ([0]:List UInt8)==vt then true else decide (Lib.indexByte vt 0≥0):=by
 unfold c9x c9w e0d c9v c4S c4R c18 b4k;cases ([0]:List UInt8)==vt<;>rfl
theorem e2E {vt:List UInt8} (h:(([0]:List UInt8)==vt)=true):decide (Lib.indexByte vt 0≥0)=true:=by
 have:=eq_of_beq h;rw [←this];decide
theorem e7Z (vt:List UInt8):c9x N vt=decide (Lib.indexByte vt 0≥0):=by
 rw [f3o];cases h:([0]:List UInt8)==vt with
 |true=>exact (e2E h).symm
 |false=>rfl
theorem f5j {s:Int} (h:Sz s) (sg:Bool):b2k N (a7A s sg) 0 sg=c72 s sg:=by
 rcases h with rfl|rfl|rfl<;>cases sg<;>kernel_rfl
theorem d8p {s:Int} (h:Sz s) (sg:Bool):IntKind.wrap .i64 (a7A s sg-1)=a7A s sg-1:=by
 rcases h with rfl|rfl|rfl<;>cases sg<;>kernel_rfl
theorem f6f (a b c:Int):a26 N a b c=inI a b c:=a34 a b c
theorem e4c {s:Int} {vt:List UInt8} (h0:0≤s) (h:¬(vt.length:Int)>s):(a0u vt).take (List.replicate s.toNat ((.i 0):D)).length++(List.replicate s.toNat ((.i 0):D)).drop (a0u vt).length=a0u vt++List.replicate (s-vt.length).toNat (.i 0):=by
 rw [List.length_replicate,List.take_of_length_le (by rw [a2d];omega),List.drop_replicate,a2d]
 congr 2
 omega
theorem e70 {n:Nat} (h:n≤1000000):(decide (n*1≤a0L)&&decide (n≤a0d))=true:=by
 rw [decide_eq_true (show n*1≤a0L by unfold a0L;omega),decide_eq_true (show n≤a0d by unfold a0d;omega)];rfl
theorem f5k (hN:maxLen<N) {s t vi:Int} {vt:List UInt8} {vm big:Bool} (hs:1≤s∧s≤255) (hz:t≤1→s=1∨s=2∨s=4) (h0:0≤t∧t≤3) (hl:vt.length≤maxLen):∃nl,d4F N s t vi vt vm big=some (nl,(b1K s t vi vt vm big).2,(b1K s t vi vt vm big).1):=by
 have hm:maxLen=9223372036854775807:=rfl;have hr:(((decide (0≤s))&&(decide (s≤s)))&&(decide (s.toNat*1≤a0L)&&decide (s.toNat≤a0d)))=true:=by
  rw [e70 (by omega),decide_eq_true (show 0≤s by omega),decide_eq_true (Int.le_refl s)];rfl
 unfold d4F d4E b1K b2l a8L b2m a6r;cases c1:(bif t==1 then true else t==0) with
 | true=>
  have ht:Sz s:=hz (by cases c2:t==1<;>rw [c2] at c1<;>simp at c1 c2<;>omega)
  have n3:(t==3)=false:=by cases c2:t==1<;>rw [c2] at c1<;>simp at c1 c2⊢<;>omega
  rw [b2W ht];simp only [a0i,f6G,getD_some,f6B,n3,f5j ht,d8p ht,f6f,f6e hN ht];cases vm with
  |true=>
   simp only [f6B];cases (bif vi !=0 then true else !(vt==[])) with
   |true=>exact ⟨_,rfl⟩
   |false=>exact ⟨_,rfl⟩
  | false=>
   simp only [f6C];cases !(vt==[]) with
   |true=>exact ⟨_,rfl⟩
   |false=>
    simp only [f6C];cases !inI vi (c72 s (t==1)) (a7A s (t==1)-1) with
    |true=>exact ⟨_,rfl⟩
    |false=>exact ⟨_,rfl⟩
 | false=>
  have n1:(t==1)=false:=by cases c2:t==1<;>rw [c2] at c1<;>simp at c1⊢
  obtain ⟨m,hmm⟩:=d8o (N:=N) hs;rw [n1,hmm];simp only [a0i,f6G,getD_some,f6B,f6C,e7Z];cases c2:t==2 with
  | true=>
   have n3:(t==3)=false:=by simp at c2⊢;omega
   simp only [n3,f6B,f6C];cases vm with
   | true=>
    simp only [f6B,hr];cases vi !=0 with
    |true=>exact ⟨_,rfl⟩
    |false=>
     cases vt==[] with
     |true=>exact ⟨_,rfl⟩
     |false=>exact ⟨_,rfl⟩
   | false=>
    simp only [f6C];cases vi !=0 with
    |true=>exact ⟨_,rfl⟩
    | false=>
     simp only [f6C];cases vt==[] with
     |true=>exact ⟨_,rfl⟩
     | false=>
      simp only [f6C];cases decide (Lib.indexByte vt 0≥0) with
      |true=>exact ⟨_,rfl⟩
      |false=>
       simp only [f6C];by_cases c4:(vt.length:Int)>s
       ·rw [decide_eq_true c4];exact ⟨_,rfl⟩
       ·rw [decide_eq_false c4,hr,e4c (by omega) c4];exact ⟨_,rfl⟩
  | false=>
   have n3:(t==3)=true:=by
    have c2':t≠2:=by simpa using c2
    have n1':t≠1:=by simpa using n1
    have n0':t≠0:=by rw [n1] at c1;simpa using c1
    simp;omega
   simp only [n3,f6B,f6C];cases vm with
   | true=>
    simp only [f6B];cases vi !=0 with
    |true=>exact ⟨_,rfl⟩
    |false=>
     cases vt==[] with
     |true=>exact ⟨_,rfl⟩
     |false=>exact ⟨_,rfl⟩
   | false=>
    simp only [f6C];cases vi !=0 with
    |true=>exact ⟨_,rfl⟩
    | false=>
     simp only [f6C];cases c4:(vt.length:Int) !=s with
     |true=>exact ⟨_,rfl⟩
     |false=>
      have c5:(vt.length:Int)=s:=by simpa using c4
      rw [hr,e4c (by omega) (by omega),show (s-(vt.length:Int)).toNat=0 by omega]
      simp only [List.replicate_zero,List.append_nil];exact ⟨_,rfl⟩
end Go.Proofs.YtiegikkpipdleaaGreatDoor
namespace Go.Proofs.YtiegikkpipdleaaGreatDoor
open Go Go.AM
variable {N:Nat}
theorem f6g {b:Bool} {xs:List D} (hb:b=true→xs=[]) (h:xs.length≤100000):∃b',Ce.G55x0 N b xs=some (b',xs)∧(b'=true→xs=[]):=by
 cases b with
 |true=>rw [hb rfl];exact ⟨true,rfl,fun _=>rfl⟩
 |false=>
  have r1:decide ((0+xs.length)*1≤a0L)=true:=decide_eq_true (by unfold a0L;omega)
  have r2:decide (0+xs.length≤a0d)=true:=decide_eq_true (by unfold a0d;omega)
  unfold Ce.G55x0 Ce.F55x0;rw [r1,r2];simp
theorem d8q (hN:maxLen<N) {dn bn:Bool} {ds data:List D} (h1:dn=true→ds=[]) (h2:bn=true→data=[]) (h3:ds.length≤1) (h4:data.length≤65025) (h5:∀d∈ds,e7y d) (h6:∀d∈ds,(d.cell 2).items.length≤255):
  ∃n1 ds' n2,Ce.G58x0 N dn ds bn data=some (n1,ds',n2,data)∧ds'.map b1I=ds.map b1I:=by
 obtain ⟨n2,q2,hn2⟩:=f6g (N:=N) (xs:=data) h2 (by omega)
 obtain ⟨k,rfl⟩:=fuel hN 8 (by omega)
 unfold Ce.G58x0 Ce.F58x0;rw [q2];match ds,h1,h3,h5,h6 with
 | [],h1,_,_,_=>
  cases dn with
  |true=>exact ⟨true,[],n2,rfl,rfl⟩
  |false=>exact ⟨false,[],n2,by kernel_rfl,rfl⟩
 | [d],h1,_,h5,h6=>
  have hdn:dn=false:=by
   cases dn with
   |false=>rfl
   |true=>simp at h1
  subst hdn;obtain ⟨big,g,nl,fs,rfl,_,hnl,hfl,_⟩:=h5 d (by simp)
  have hl:fs.length≤255:=h6 (.a [.b big,.i g,.l nl fs]) (by simp)
  have r1:decide ((0+fs.length)*24≤a0L)=true:=decide_eq_true (by unfold a0L;omega)
  have r2:decide (0+fs.length≤a0d)=true:=decide_eq_true (by unfold a0d;omega)
  have e12:∃nl',Ce.G58x0x12 (k+8) 1 0 [D.a [.b big,.i g,.l nl fs]]=some [D.a [.b big,.i g,.l nl' fs]]:=by
   cases nl with
   |true=>
    rw [hnl rfl];exact ⟨true,by kernel_rfl⟩
   | false=>
    have e131:Ce.G69x0 (k+8) false fs=some (.inr false):=by
     unfold Ce.G69x0 Ce.F69x0;rw [r1,r2];simp
    refine ⟨false,?_⟩;have e19:Ce.G58x0x19 (k+8) 0 [D.a [.b big,.i g,.l false fs]]=some [D.a [.b big,.i g,.l false fs]]:=by
     have d2:((([D.a [.b big,.i g,.l false fs]]:List D).getD (0:Int).toNat (.i 0)).cell 2).items=fs:=rfl;have d3:((([D.a [.b big,.i g,.l false fs]]:List D).getD (0:Int).toNat (.i 0)).cell 2).isNil=false:=rfl;unfold Ce.G58x0x19 Ce.F58x0x19;rw [d2,d3,e131];rfl
    have:Ce.G58x0x12 (k+8) 1 0 [D.a [.b big,.i g,.l false fs]]=bnd (Ce.G58x0x19 (k+8) 0 [D.a [.b big,.i g,.l false fs]]) fun y0=>bif y0.isSome then some (y0.getD default) else none:=by kernel_rfl
    rw [this,e19];rfl
  obtain ⟨nl',e12⟩:=e12;have e7:Ce.G58x0x7 (k+8) false [D.a [.b big,.i g,.l nl fs]]=some (.inr false):=by kernel_rfl
  have el:(([D.a [.b big,.i g,.l nl fs]]:List D).length:Int)=1:=rfl;rw [e7,el];simp only [a0i,f6G,getD_some,f6B];have i7:a0O (some (Sum.inr false:Sum Unit Bool))=false:=rfl;rw [i7];simp only [f6C];have i8:(a0l (some (Sum.inr false:Sum Unit Bool))).isSome=true:=rfl;rw [i8,e12];exact ⟨false,_,n2,rfl,rfl⟩
theorem d8r (hN:maxLen<N) {dn:Bool} {data:List D} (h4:data.length≤65025):∃n1,Ce.H44 N dn [] false data=some (n1,[],false):=by
 obtain ⟨k,rfl⟩:=fuel hN 8 (by omega)
 have r1:decide ((0+data.length)*1≤a0L)=true:=decide_eq_true (by unfold a0L;omega)
 have r2:decide (0+data.length≤a0d)=true:=decide_eq_true (by unfold a0d;omega)
 have e68:Ce.Hd.G58x0x4 (k+8) false data=some (.inr false):=by
  unfold Ce.Hd.G58x0x4 Ce.Hd.F58x0x4 Ce.Hd.G55x0 Ce.Hd.F55x0;rw [r1,r2];simp [a0i,a0O,a0l]
 unfold Ce.H44 Ce.Hd.G58x0 Ce.Hd.F58x0;rw [e68];cases dn with
 |true=>exact ⟨true,by kernel_rfl⟩
 |false=>exact ⟨false,by kernel_rfl⟩
def e76 (x:D):Prop:=a3c x∧f44 x
theorem b7K {x:D} (h:e76 x):((x.cell 3).isNil=true→dX x=[])∧((x.cell 4).isNil=true→bX x=[])∧ ∀d∈dX x,e7y d:=h.2
theorem e2F {x:D} {n1 n2:Bool} {ds:List D} (h:ds.map b1I=(dX x).map b1I):EqE x (Ce.dEnt x n1 ds n2 (bX x)):=⟨rfl,rfl,rfl,h.symm,rfl⟩
theorem c3w (hN:maxLen<N) {a:Ab} {x:D} (hx:e76 x) (ha:OkA a) (he:a7H a x=0):∃q,Ce.G58x0 N (x.cell 3).isNil (x.cell 3).items (x.cell 4).isNil (x.cell 4).items=some q∧EqE x (Ce.dEnt x q.1 q.2.1 q.2.2.1 q.2.2.2):=by
 obtain ⟨f1,f2,f3⟩:=b7K hx;obtain ⟨o1,_,_,o4,o5⟩:=b1s (ha _) he;have hE:=a11 he;have hds:(dX x).length≤1:=by
  by_cases hk:kX x=1
  ·have:=(o4 hk).1;omega
  ·have:=(hE.n hk).2;omega
 have hdl:∀d∈dX x,(d.cell 2).items.length≤255:=by
  intro d hd;by_cases hk:kX x=1
  ·obtain ⟨p1,p2⟩:=o4 hk
   match hq:dX x,p1,hd with
   | [d0],_,hd=>
    have:d=d0:=by simpa using hd
    rw [this];rw [hq] at p2;exact p2
  ·have h0:=(hE.n hk).2
   have:dX x=[]:=List.length_eq_zero_iff.1 h0;rw [this] at hd;simp at hd
 obtain ⟨n1,ds',n2,q1,q2⟩:=d8q (N:=N) hN f1 f2 hds o5 f3 hdl;exact ⟨_,q1,e2F q2⟩
section
variable {es:List D}
theorem d1h {w:Int} (h0:0≤w) (h:w<es.length):es.take (w+1).toNat=es.take w.toNat++[es.getD w.toNat (.i 0)]:=by
 have hw:(w+1).toNat=w.toNat+1:=by omega
 have hlt:w.toNat<es.length:=by omega
 rw [hw,List.take_succ_eq_append_getElem hlt,f6F,f6L hlt,Option.getD_some]
theorem c0q {n:Nat} (h:n≤100000):(decide (n*72≤a0L)&&decide (n≤a0d))=true:=by
 rw [decide_eq_true (show n*72≤a0L by unfold a0L;omega),decide_eq_true (show n≤a0d by unfold a0d;omega)];rfl
theorem f3p (hN:maxLen<N) (hes:∀x∈es,e76 x) (hl:es.length≤50000) (he:a1q Ab.start es=0):∀(m:Nat) (i:Int) (ys:List D),0≤i→i≤es.length→(es.length-i).toNat<m→(ys.length:Int)=i→
  ∃zs,Ce.lpC N es es.length m i ys=some (ys++zs)∧All2 EqE (es.drop i.toNat) zs:=by
 intro m;induction m with
 |zero=>intro i ys _ _ h;omega
 | succ m ih=>
  intro i ys h0 h1 hm hy;have hmx:maxLen=9223372036854775807:=rfl;unfold Ce.lpC Ce.SC;by_cases hi:i<es.length
  ·obtain ⟨oa,_,oe⟩:=b1t (i:=i.toNat) OkA.start OkT.start he (by omega)
   obtain ⟨q,q1,q2⟩:=c3w (N:=N) hN (hes _ (a0R (fs:=es) h0 hi)) oa oe;rw [decide_eq_true hi,a0K h0 hi,q1,c0q (by omega)]
   simp only [f6B,a0i,f6G,getD_some,Bool.and_true,a0s (x:=i+1) (by omega) (by omega)]
   obtain ⟨zs,z1,z2⟩:=ih (i+1) (ys++[Ce.dEnt (es.getD i.toNat (.i 0)) q.1 q.2.1 q.2.2.1 q.2.2.2]) (by omega) (by omega) (by omega) (by simp;omega)
   refine ⟨Ce.dEnt (es.getD i.toNat (.i 0)) q.1 q.2.1 q.2.2.1 q.2.2.2::zs,?_,?_⟩
   ·rw [z1];simp
   ·rw [a05 (.i 0) h0 hi]
    exact ⟨q2,z2⟩
  ·rw [decide_eq_false hi,a0U hi]
   exact ⟨[],by simp,trivial⟩
theorem f3q (hN:maxLen<N) (hes:∀x∈es,e76 x) (hl:es.length≤50000) (he:a1q Ab.start es=0) {k:Int} (hk0:0≤k) (hk1:k<es.length) (hk:kX (es.getD k.toNat (.i 0))≠1) (hb:bX (es.getD k.toNat (.i 0))≠[]):∀(m:Nat) (i:Int) (nl:Bool) (ys:List D),0≤i→i≤k→(es.length-i).toNat<m→(ys.length:Int)=i→(nl=true→ys=[])→All2 EqE (es.take i.toNat) ys→
  ∃n1 us zs,Ce.lpA N es es.length k m i nl ys=some (k.toNat,us++Ce.dEnt (es.getD k.toNat (.i 0)) n1 [] true []::zs,false,bX (es.getD k.toNat (.i 0)))∧All2 EqE (es.take k.toNat) us∧All2 EqE (es.drop (k.toNat+1)) zs:=by
 intro m;induction m with
 |zero=>intro i nl ys _ _ h;omega
 | succ m ih=>
  intro i nl ys h0 h1 hm hy hn ha;have hmx:maxLen=9223372036854775807:=rfl;have hi:i<es.length:=by omega
  obtain ⟨oa,_,oe⟩:=b1t (i:=i.toNat) OkA.start OkT.start he (by omega)
  unfold Ce.lpA;by_cases hik:i=k
  ·subst hik
   obtain ⟨f1,f2,f3⟩:=b7K (hes _ (a0R (fs:=es) h0 hi));have hE:=a11 oe;have hd0:((es.getD i.toNat (.i 0)).cell 3).items=[]:=List.length_eq_zero_iff.1 (hE.n hk).2;have hbn:((es.getD i.toNat (.i 0)).cell 4).isNil=false:=by
    cases h:((es.getD i.toNat (.i 0)).cell 4).isNil with
    |false=>rfl
    |true=>exact absurd (f2 h) hb
   obtain ⟨n1,q1⟩:=d8r (N:=N) hN (dn:=((es.getD i.toNat (.i 0)).cell 3).isNil) (data:=bX (es.getD i.toNat (.i 0))) (b1s (oa _) oe).2.2.2.2;have q1':Ce.H44 N ((es.getD i.toNat (.i 0)).cell 3).isNil [] false ((es.getD i.toNat (.i 0)).cell 4).items=some (n1,[],false):=q1;have hroom:(bif nl then ys.isEmpty else ((decide ((ys.length+1)*72≤a0L)&&decide ((ys.length+1)≤a0d))&&true))=true:=by
    cases nl with
    |true=>rw [hn rfl];rfl
    |false=>rw [c0q (by omega)];rfl
   obtain ⟨zs,z1,z2⟩:=f3p hN hes hl he m (i+1) (ys++[Ce.dEnt (es.getD i.toNat (.i 0)) n1 [] true []]) (by omega) (by omega) (by omega) (by simp;omega)
   unfold Ce.SH;rw [decide_eq_true hi,decide_eq_true (rfl:i=i),a0K h0 hi,hd0,hbn,q1'];simp only [f6B,a0i,f6G,getD_some,hroom,a0s (x:=i+1) (by omega) (by omega),z1]
   refine ⟨n1,ys,zs,?_,ha,?_⟩
   ·simp only [Option.bind_some,f6P,List.cons_append,List.nil_append,show ys.length=i.toNat by omega]
   ·rw [show i.toNat+1=(i+1).toNat by omega];exact z2
  ·obtain ⟨q,q1,q2⟩:=c3w (N:=N) hN (hes _ (a0R (fs:=es) h0 hi)) oa oe
   unfold Ce.SA;rw [decide_eq_true hi,decide_eq_false hik,a0K h0 hi,q1,c0q (by omega)]
   simp only [f6B,f6C,a0i,f6G,getD_some,a0s (x:=i+1) (by omega) (by omega)]
   refine ih (i+1) false _ (by omega) (by omega) (by omega) (by simp;omega) (fun h=>by cases h) ?_
   rw [d1h h0 hi];exact ha.append ⟨q2,trivial⟩
end
end Go.Proofs.YtiegikkpipdleaaGreatDoor
namespace Go.Proofs.YtiegikkpipdleaaGreatDoor
open Go Go.AM
variable {N:Nat}
def fIx (n:Int):List Int→Int→Option Int
 | [],_=>none
 |f::r,w=>bif f==n then some w else fIx n r (w+1)
theorem c74 {n:Int}:∀{l:List Int} {w i:Int},fIx n l w=some i→w≤i∧i<w+l.length∧l.getD (i-w).toNat 0=n
 | f::r,w,i,h=>by
  unfold fIx at h;cases hf:f==n with
  |true=>
   rw [hf] at h;have:w=i:=Option.some.inj h;subst this;refine ⟨Int.le_refl _,by simp only [f6O];omega,?_⟩
   rw [Int.sub_self];simpa using hf
  |false=>
   rw [hf] at h;obtain ⟨h1,h2,h3⟩:=c74 (l:=r) (w:=w+1) h;refine ⟨by omega,by simp only [f6O];omega,?_⟩
   rw [show (i-w).toNat=(i-(w+1)).toNat+1 by omega]
   exact h3
def f6h:Option Int→Sum Int Unit
 |some i=> .inl i
 |none=> .inr ()
section
variable {l:List D}
theorem c50 {w:Int} (h0:0≤w) (h1:w<l.length):(l.map fN).drop w.toNat=fN (l.getD w.toNat (.i 0))::(l.map fN).drop (w+1).toNat:=by
 rw [←List.map_drop,←List.map_drop,a05 (.i 0) h0 h1];rfl
theorem f3r (hN:maxLen<N) (hl:l.length≤100000) (n:Int):d4h N l n=some ((fIx n (l.map fN) 0).getD (-1)):=by
 have hmx:maxLen=9223372036854775807:=rfl;have loop:∀(m:Nat) (w:Int),0≤w→w≤l.length→(l.length-w).toNat<m→b4g N l l.length n m w (fun p=>some (Sum.inl p)) (fun p=>some (Sum.inr p))=some (f6h (fIx n ((l.map fN).drop w.toNat) w)):=by
  intro m;induction m with
  |zero=>intro w _ _ h;omega
  | succ m ih=>
   intro w h0 h1 hm;unfold b4g b8J;by_cases hw:w<l.length
   ·rw [decide_eq_true hw,a0K h0 hw,c50 h0 hw]
    simp only [f6B,a0i,d91,c9p,a0s (x:=w+1) (by omega) (by omega),fIx]
    cases hf:fN (l.getD w.toNat (.i 0))==n with
    |true=>rw [show (((l.getD w.toNat (.i 0)).cell 0).toI==n)=true from hf];rfl
    |false=>
     rw [show (((l.getD w.toNat (.i 0)).cell 0).toI==n)=false from hf];exact ih (w+1) (by omega) (by omega) (by omega)
   ·rw [decide_eq_false hw,List.drop_eq_nil_of_le (by simp;omega)];rfl
 have k:d4f N l l.length n 0=_:=loop N 0 (by omega) (by omega) (by omega)
 unfold d4h c9r;rw [k];simp only [a0i,List.drop_zero,Int.toNat_zero];cases fIx n (l.map fN) 0<;>rfl
end
theorem c75:∀{fs:List D} {t:Bool} {a:Int},(a1H t a fs).length=(flds t fs).length∧(a1H t a fs).map fN=(flds t fs).map fN∧ ∀i:Nat,i<(flds t fs).length→fS ((a1H t a fs).getD i (.i 0))=fS ((flds t fs).getD i (.i 0))∧fT ((a1H t a fs).getD i (.i 0))=fT ((flds t fs).getD i (.i 0))∧(((a1H t a fs).getD i (.i 0)).cell 3).toI=a+szL ((flds t fs).take i)
 | [],_,_=>⟨rfl,rfl,fun i hi=>by simp [flds] at hi⟩
 | f::r,t,a=>by
  simp only [a1H,flds];cases t&&isT f with
  |true=>exact c75 (fs:=r) (t:=false) (a:=a)
  | false=>
   obtain ⟨h1,h2,h3⟩:=c75 (fs:=r) (t:=t) (a:=a+fS f);refine ⟨by simp only [f6C,f6O,h1],by simp only [f6C,List.map_cons,h2];rfl,fun i hi=> ?_⟩
   cases i with
   |zero=>exact ⟨rfl,rfl,by simp [szL,D.cell,D.toI]⟩
   |succ i=>
    simp only [f6C,f6O] at hi;obtain ⟨g1,g2,g3⟩:=h3 i (by omega)
    refine ⟨g1,g2,?_⟩;show (((a1H t (a+fS f) r).getD i (.i 0)).cell 3).toI=a+szL (.a [.i (fN f),.i (fS f),.i (fT f)]::(flds t r).take i);rw [g3];have:szL (.a [.i (fN f),.i (fS f),.i (fT f)]::(flds t r).take i)=fS f+szL ((flds t r).take i):=rfl;omega
def c76 (x:D) (at_ s:Int) (b:List D):D:= .a [.i (kX x),.i (sX x),.i (oX x),.l false (dX x),.l false ((bX x).take at_.toNat++b++(bX x).drop (at_+s).toNat)]
def d1i (es:List D) (k:Int) (x:D) (at_ s ft t vi:Int) (vt:List UInt8) (vm big:Bool):Int×List D:=
 bif ft !=t then (7,[]) else
 bif (b1K s ft vi vt vm big).1 !=0 then ((b1K s ft vi vt vm big).1,[]) else
 bif fileE (es.set k.toNat (c76 x at_ s (b1K s ft vi vt vm big).2)) !=0 then (fileE (es.set k.toNat (c76 x at_ s (b1K s ft vi vt vm big).2)),[]) else (0,es.set k.toNat (c76 x at_ s (b1K s ft vi vt vm big).2))
def a7E (a:Ab) (x:D):List D:=a1H (kX x==3) 0 (a.fs (sX x).toNat)
def a1G (a:Ab) (x:D) (i:Int):D:=(a7E a x).getD i.toNat (.i 0)
def d1o (es:List D) (k n t vi:Int) (vt:List UInt8) (vm:Bool):Int×List D:=
 bif a7D es k !=0 then (a7D es k,[]) else
 match fIx n ((a7E (abN Ab.start es k.toNat) (es.getD k.toNat (.i 0))).map fN) 0 with
 |none=>(4,[])
 |some i=>d1i es k (es.getD k.toNat (.i 0)) ((a1G (abN Ab.start es k.toNat) (es.getD k.toNat (.i 0)) i).cell 3).toI (fS (a1G (abN Ab.start es k.toNat) (es.getD k.toNat (.i 0)) i)) (fT (a1G (abN Ab.start es k.toNat) (es.getD k.toNat (.i 0)) i)) t vi vt vm ((abN Ab.start es k.toNat).bg (sX (es.getD k.toNat (.i 0))).toNat)
theorem EqE.trans {x y z:D} (h:EqE x y) (g:EqE y z):EqE x z:=⟨h.k.trans g.k,h.s.trans g.s,h.o.trans g.o,h.d.trans g.d,h.b.trans g.b⟩
theorem EqE.entD {x y:D} (h:EqE x y) (hx:a3c x):a3c y:=by
 refine ⟨?_,by rw [show (y.cell 4).items=(x.cell 4).items from h.b.symm];exact hx.b,fun d hd=> ?_,by rw [show (y.cell 4).items=(x.cell 4).items from h.b.symm];exact hx.y⟩
 ·have:=congrArg List.length h.d
  simp only [List.length_map] at this;show (dX y).length≤_;rw [←this];exact hx.d
 ·have hm:b1I d∈(dX y).map b1I:=List.mem_map.2 ⟨d,hd,rfl⟩
  rw [←h.d] at hm;obtain ⟨d',hd',e⟩:=List.mem_map.1 hm;rw [←(c0i e).2.2];exact hx.f d' hd'
theorem a9G:∀{xs ys:List D},All2 EqE xs ys→(∀x∈xs,a3c x)→ ∀y∈ys,a3c y
 | [],[],_,_,y,hy=>by simp at hy
 |x::xs,z::zs,h,hx,y,hy=>by
  rcases f6M.1 hy with rfl|hy
  ·exact h.1.entD (hx x (by simp))
  ·exact a9G h.2 (fun x hx'=>hx x (by simp [hx'])) y hy
 | [],_::_,h,_,_,_=>h.elim
 |_::_,[],h,_,_,_=>h.elim
theorem d8s {x:D} (hx:a3c x) {at_ s:Int} {b:List D} (h0:0≤at_) (h1:at_+s≤(bX x).length) (hs:0≤s) (hb:a0n b) (hl:(b.length:Int)=s):a3c (c76 x at_ s b):=by
 have hlen:((bX x).take at_.toNat++b++(bX x).drop (at_+s).toNat).length=(bX x).length:=by
  simp only [f6N,List.length_take,List.length_drop];omega
 refine ⟨hx.d,?_,hx.f,?_⟩
 ·show ((bX x).take at_.toNat++b++(bX x).drop (at_+s).toNat).length≤_
  rw [hlen];exact hx.b
 ·show a0n ((bX x).take at_.toNat++b++(bX x).drop (at_+s).toNat)
  have hxy:a0n (bX x):=hx.y;exact (a0n.append (fun y hy=>hxy y (List.mem_of_mem_take hy)) hb).append (fun y hy=>hxy y (List.mem_of_mem_drop hy))
theorem c77 {es:List D} (hes:∀x∈es,a3c x) {y:D} (hy:a3c y) (n:Nat):∀x∈es.set n y,a3c x:=by
 intro x hx;rcases List.mem_or_eq_of_mem_set hx with h|h
 ·exact hes x h
 ·rw [h];exact hy
theorem c3x {es:List D} {n:Nat} (h:n<es.length) (y:D):es.set n y=es.take n++y::es.drop (n+1):=by
 rw [List.set_eq_take_append_cons_drop,if_pos h]
structure At (es:List D) (k:Int):Prop where
 e:a1q Ab.start es=0
 l:es.length≤50000
 k0:0≤k
 k1:k<es.length
 d:kX (es.getD k.toNat (.i 0))≠1
 f:a1P ((abN Ab.start es k.toNat).fs (sX (es.getD k.toNat (.i 0))).toNat)
 t:a6Q ((abN Ab.start es k.toNat).fs (sX (es.getD k.toNat (.i 0))).toNat)
 s:szL (flds (kX (es.getD k.toNat (.i 0))==3) ((abN Ab.start es k.toNat).fs (sX (es.getD k.toNat (.i 0))).toNat))≤(bX (es.getD k.toNat (.i 0))).length
 x:a3c (es.getD k.toNat (.i 0))
theorem e77 {es:List D} (hes:∀x∈es,a3c x) {k:Int} (h:a7D es k=0):At es k:=by
 obtain ⟨z1,z2,z3,z4⟩:=e2C h;obtain ⟨hl,he⟩:=a36 z1;obtain ⟨oa,ot,oe⟩:=b1t (i:=k.toNat) OkA.start OkT.start he (by omega)
 have hx:a3c (es.getD k.toNat (.i 0)):=hes _ (a0R (fs:=es) z2 z3);obtain ⟨e1,e2,e3,e4,e5,e6⟩:=d71 oa ot oe hx z4;exact ⟨he,hl,z2,z3,z4,e1,e2,e3,hx⟩
structure f3s (es:List D) (k i:Int):Prop where
 i0:0≤i
 i1:i<(a7E (abN Ab.start es k.toNat) (es.getD k.toNat (.i 0))).length
 a0:0≤((a1G (abN Ab.start es k.toNat) (es.getD k.toNat (.i 0)) i).cell 3).toI
 a1:((a1G (abN Ab.start es k.toNat) (es.getD k.toNat (.i 0)) i).cell 3).toI+fS (a1G (abN Ab.start es k.toNat) (es.getD k.toNat (.i 0)) i)≤(bX (es.getD k.toNat (.i 0))).length
 s:1≤fS (a1G (abN Ab.start es k.toNat) (es.getD k.toNat (.i 0)) i)∧fS (a1G (abN Ab.start es k.toNat) (es.getD k.toNat (.i 0)) i)≤255
 t:0≤fT (a1G (abN Ab.start es k.toNat) (es.getD k.toNat (.i 0)) i)∧fT (a1G (abN Ab.start es k.toNat) (es.getD k.toNat (.i 0)) i)≤3
 z:fT (a1G (abN Ab.start es k.toNat) (es.getD k.toNat (.i 0)) i)≤1→fS (a1G (abN Ab.start es k.toNat) (es.getD k.toNat (.i 0)) i)=1∨fS (a1G (abN Ab.start es k.toNat) (es.getD k.toNat (.i 0)) i)=2∨fS (a1G (abN Ab.start es k.toNat) (es.getD k.toNat (.i 0)) i)=4
theorem c0r {es:List D} {k i:Int} (h:At es k) (h0:0≤i) (h1:i<(a7E (abN Ab.start es k.toNat) (es.getD k.toNat (.i 0))).length):f3s es k i:=by
 obtain ⟨a1,a2⟩:=a9D (t:=kX (es.getD k.toNat (.i 0))==3) (a:=0) (n:=(bX (es.getD k.toNat (.i 0))).length) h.t (by omega) (by have:=h.s;omega)
 obtain ⟨b1,b2⟩:=c0k (i:=i.toNat) a1 (by unfold a7E at h1;omega)
 obtain ⟨c1,c2,c3,c4,c5⟩:=a2 _ (a0R (fs:=a7E (abN Ab.start es k.toNat) (es.getD k.toNat (.i 0))) h0 h1);exact ⟨h0,h1,b1,b2,⟨c3,c4⟩,⟨c1,c2⟩,c5⟩
end Go.Proofs.YtiegikkpipdleaaGreatDoor
namespace Go.Proofs.YtiegikkpipdleaaGreatDoor
open Go Go.AM
variable {N:Nat}
theorem f5l:Ce.q14=3:=by kernel_rfl
theorem e78 {a:Ab} {x:D} (h:a1P (a.fs (sX x).toNat)):(a7E a x).length≤255:=by
 have:=a6K (fs:=a.fs (sX x).toNat) (t:=kX x==3) (a:=0);have:=h.len;unfold a7E;omega
theorem e2G (hN:maxLen<N) {es:List D} (hes:∀x∈es,e76 x) (k n t vi:Int) {vt:List UInt8} (vm:Bool) (hl:vt.length≤maxLen):
  ∃nl out,a6P N es k n t vi vt vm=some (nl,out,(d1o es k n t vi vt vm).1)∧All2 EqE (d1o es k n t vi vt vm).2 out:=by
 have hmx:maxLen=9223372036854775807:=rfl;have hed:∀x∈es,a3c x:=fun x hx=>(hes x hx).1
 obtain ⟨tu,h1,h2,h3⟩:=f3n (N:=N) hN hed k;unfold a6P F7s d1o;rw [h1];simp only [a0i,f6G,f6B,getD_some,h2];cases hd:a7D es k !=0 with
 |true=>exact ⟨_,_,rfl,trivial⟩
 | false=>
  have hz:a7D es k=0:=by simpa using hd
  have A:=e77 hed hz;obtain ⟨g1,g2,g3⟩:=h3 hz;have hx:e76 (es.getD k.toNat (.i 0)):=hes _ (a0R (fs:=es) A.k0 A.k1);obtain ⟨a,ha⟩:∃a,abN Ab.start es k.toNat=a:=⟨_,rfl⟩;obtain ⟨x,hxx⟩:∃x,es.getD k.toNat (.i 0)=x:=⟨_,rfl⟩;have FA:∀i:Int,0≤i→i<(a7E a x).length→f3s es k i:=fun i p q=>c0r A p (by rw [ha,hxx];exact q)
  have Af:=A.f;have At':=A.t;rw [ha,hxx] at Af At' g1 g2 g3;obtain ⟨nlf,e18⟩:=c7P (N:=N) hN Af At' (kX x==3);have e18':c4K N tu.2.2.2.2.1 tu.2.2.2.2.2.2.1 ((x.cell 0).toI==3)=some (nlf,a7E a x):=by rw [g2,g3];exact e18
  have e19:=f3r (N:=N) hN (show (a7E a x).length≤100000 by have:=e78 Af;omega) n
  simp only [a0K A.k0 A.k1,hxx,ha,e18',f6B,f6C,f6G,getD_some,e19];cases hi:fIx n ((a7E a x).map fN) 0 with
  |none=>exact ⟨_,_,rfl,trivial⟩
  | some i=>
   obtain ⟨i0,i1,_⟩:=c74 hi;rw [List.length_map] at i1;have F:=FA i i0 (by omega)
   have hF:a1G a x i=(a7E a x).getD i.toNat (.i 0):=rfl;simp only [getD_some,decide_eq_false (show¬i<0 by omega),a0K i0 (show i<(a7E a x).length by omega),←hF,f6B,f6C]
   unfold d1i;have hF2:((a1G a x i).cell 2).toI=fT (a1G a x i):=rfl;have hF1:((a1G a x i).cell 1).toI=fS (a1G a x i):=rfl;rw [hF2,hF1];have F0:=F.a0;have F1:=F.a1;have Fs:=F.s;have Ft:=F.t;have Fz:=F.z;rw [ha,hxx] at F0 F1 Fs Ft Fz;cases ht:fT (a1G a x i) !=t with
   |true=>exact ⟨_,_,rfl,trivial⟩
   | false=>
    obtain ⟨nlv,e21⟩:=f5k (N:=N) (vi:=vi) (vt:=vt) (vm:=vm) (big:=tu.2.1) hN Fs Fz Ft hl;rw [g1] at e21;simp only [f6C,g1,e21,f6G,getD_some,f6B];obtain ⟨e,he⟩:∃e,b1K (fS (a1G a x i)) (fT (a1G a x i)) vi vt vm (a.bg (sX x).toNat)=e:=⟨_,rfl⟩;simp only [he];cases hc:e.1 !=0 with
    |true=>exact ⟨_,_,rfl,trivial⟩
    | false=>
     simp only [f6C];have he0:e.1=0:=by simpa using hc
     obtain ⟨el,eb⟩:=c5Z (vi:=vi) (vt:=vt) (vm:=vm) (big:=a.bg (sX x).toNat) Fs Fz Ft (by rw [he];exact he0)
     rw [he] at el eb;have hb:bX x≠[]:=by
      intro h;rw [h] at F1;simp at F1;omega
     obtain ⟨n1,us,zs,l1,l2,l3⟩:=f3q (N:=N) hN hes A.l A.e A.k0 A.k1 A.d (by rw [hxx];exact hb) N 0 true [] (by omega) A.k0 (by have:=A.l;omega) (by simp) (fun _=>rfl) (by rw [show (0:Int).toNat=0 from rfl,List.take_zero];trivial)
     rw [hxx] at l1;have l1':=l1;have hul:=All2.length l2;rw [List.length_take] at hul;have hzl:=All2.length l3;rw [List.length_drop] at hzl;have hus:us.length=k.toNat:=by have:=A.k1;have:=A.k0;omega
     have ho:Ce.off14 (a7E a x) i=((a1G a x i).cell 3).toI:=by unfold Ce.off14;rw [f5l];rfl
     have hc43:Ce.c43 k (a7E a x) i k.toNat (us++Ce.dEnt x n1 [] true []::zs) false (bX x)=true:=by
      unfold Ce.c43;rw [ho,decide_eq_true (show k=(k.toNat:Int) by have:=A.k0;omega),a0K i0 (by omega),decide_eq_true F0,decide_eq_true (show ((a1G a x i).cell 3).toI.toNat<(bX x).length by omega),decide_eq_true (show k.toNat<(us++Ce.dEnt x n1 [] true []::zs).length by simp only [f6N,f6O];omega)]
      rfl
     simp only [l1,f6B,f6G,getD_some,hc43];have hbs:Ce.bs' (a7E a x) i e.2 (bX x)=(bX x).take ((a1G a x i).cell 3).toI.toNat++e.2++(bX x).drop (((a1G a x i).cell 3).toI+fS (a1G a x i)).toNat:=by
      unfold Ce.bs';rw [ho,List.take_of_length_le (show e.2.length≤(bX x).length-((a1G a x i).cell 3).toI.toNat by omega),show ((a1G a x i).cell 3).toI.toNat+e.2.length=(((a1G a x i).cell 3).toI+fS (a1G a x i)).toNat by omega]
     have hxs:Ce.xs' (a7E a x) i e.2 k.toNat (us++Ce.dEnt x n1 [] true []::zs) (bX x)=us++(Ce.dEnt x n1 [] true []).put 4 (.l false (Ce.bs' (a7E a x) i e.2 (bX x)))::zs:=by
      unfold Ce.xs';rw [←hus,f6F,f6Q (Nat.le_refl _),Nat.sub_self,List.getElem?_cons_zero,Option.getD_some,List.set_append_right _ _ (Nat.le_refl _),Nat.sub_self];rfl
     have hdx:dX x=[]:=by
      have hE:=a11 (b1t (i:=k.toNat) OkA.start OkT.start A.e (by have:=A.k1;have:=A.k0;omega)).2.2
      have:=(hE.n (by have:=A.d;exact this)).2
      rw [hxx] at this;exact List.length_eq_zero_iff.1 this
     have hq:EqE (c76 x ((a1G a x i).cell 3).toI (fS (a1G a x i)) e.2) ((Ce.dEnt x n1 [] true []).put 4 (.l false (Ce.bs' (a7E a x) i e.2 (bX x)))):=by
      refine ⟨rfl,rfl,rfl,?_,?_⟩
      ·show (dX x).map b1I=([]:List D).map b1I
       rw [hdx]
      ·show (bX x).take ((a1G a x i).cell 3).toI.toNat++e.2++(bX x).drop (((a1G a x i).cell 3).toI+fS (a1G a x i)).toNat=Ce.bs' (a7E a x) i e.2 (bX x)
       rw [hbs]
     have hall:All2 EqE (es.set k.toNat (c76 x ((a1G a x i).cell 3).toI (fS (a1G a x i)) e.2)) (Ce.xs' (a7E a x) i e.2 k.toNat (us++Ce.dEnt x n1 [] true []::zs) (bX x)):=by
      rw [hxs,c3x (by have:=A.k1;have:=A.k0;omega)]
      exact l2.append ⟨hq,l3⟩
     have hnx:a3c (c76 x ((a1G a x i).cell 3).toI (fS (a1G a x i)) e.2):=d8s (by rw [←hxx];exact A.x) F0 F1 (by omega) eb el
     have hsd:=c77 hed hnx k.toNat;have hcf:=(a2W (N:=N) hN (a9G hall hsd)).1;rw [←All2.fileE hall] at hcf;simp only [hcf,f6B,f6G,getD_some];cases hfe:fileE (es.set k.toNat (c76 x ((a1G a x i).cell 3).toI (fS (a1G a x i)) e.2)) !=0 with
     |true=>exact ⟨_,_,rfl,trivial⟩
     |false=>exact ⟨_,_,rfl,hall⟩
end Go.Proofs.YtiegikkpipdleaaGreatDoor
namespace Go.Proofs.YtiegikkpipdleaaGreatDoor
open Go Go.AM
section
variable {N:Nat}
theorem d8t {es:List D} (hed:∀x∈es,a3c x) (k:Int) (x:D) (at_ s ft t vi:Int) (vt:List UInt8) (vm big:Bool) (hx:(b1K s ft vi vt vm big).1=0→a3c (c76 x at_ s (b1K s ft vi vt vm big).2)):(∀y∈(d1i es k x at_ s ft t vi vt vm big).2,a3c y)∧(d1i es k x at_ s ft t vi vt vm big).2.length≤es.length:=by
 unfold d1i;cases ft !=t with
 |true=>exact ⟨fun y hy=>by simp at hy,Nat.zero_le _⟩
 | false=>
  simp only [f6C];cases he:(b1K s ft vi vt vm big).1 !=0 with
  |true=>exact ⟨fun y hy=>by simp at hy,Nat.zero_le _⟩
  |false=>
   simp only [f6C];cases fileE (es.set k.toNat (c76 x at_ s (b1K s ft vi vt vm big).2)) !=0 with
   |true=>exact ⟨fun y hy=>by simp at hy,Nat.zero_le _⟩
   |false=>exact ⟨c77 hed (hx (by simpa using he)) _,by simp⟩
theorem e2H {es:List D} (hed:∀x∈es,a3c x) (k n t vi:Int) (vt:List UInt8) (vm:Bool):(∀y∈(d1o es k n t vi vt vm).2,a3c y)∧(d1o es k n t vi vt vm).2.length≤es.length:=by
 unfold d1o;cases hd:a7D es k !=0 with
 |true=>exact ⟨fun y hy=>by simp at hy,Nat.zero_le _⟩
 | false=>
  have hz:a7D es k=0:=by simpa using hd
  have A:=e77 hed hz;simp only [f6C];cases hi:fIx n ((a7E (abN Ab.start es k.toNat) (es.getD k.toNat (.i 0))).map fN) 0 with
  |none=>exact ⟨fun y hy=>by simp at hy,Nat.zero_le _⟩
  |some i=>
   obtain ⟨i0,i1,_⟩:=c74 hi;rw [List.length_map] at i1;have F:=c0r A i0 (by omega)
   refine d8t hed k _ _ _ _ t vi vt vm _ fun he=> ?_
   obtain ⟨el,eb⟩:=c5Z (vi:=vi) (vt:=vt) (vm:=vm) F.s F.z F.t he;have:=F.s;exact d8s A.x F.a0 F.a1 (by omega) eb el
end
variable {N:Nat}
end Go.Proofs.YtiegikkpipdleaaGreatDoor
namespace Go.Proofs.YtiegikkpipdleaaGreatDoor
open Go Go.AM
variable {N:Nat}
def f5M (l:List Int):Prop:=∀i j:Nat,i<l.length→j<l.length→l.getD i 0=l.getD j 0→i=j
theorem d8u {g:Int} {fs:List D} (h:b7z g fs=0):f5M (fs.map fN):=by
 unfold b7z at h;cases h1:inI g 0 65535 with
 |false=>rw [h1] at h;exact absurd (show (9:Int)=0 from h) (by decide)
 | true=>
  rw [h1] at h;cases h2:decide ((fs.length:Int)>30) with
  |true=>rw [h2] at h;exact absurd (show (3:Int)=0 from h) (by decide)
  | false=>
   rw [h2] at h;simp only [Bool.not_true,f6C] at h;have key:∀i j:Nat,i<j→j<fs.length→(fs.map fN).getD i 0≠(fs.map fN).getD j 0:=by
    intro i j hij hj he;have:=a1Q h j hj;rw [Int.zero_add] at this;unfold c3i at this;rw [Int.toNat_natCast] at this;have hh:d0Z (fN (fs.getD j (.i 0))) (fs.take j)=true:=by
     unfold d0Z;rw [List.any_eq_true];refine ⟨fs.getD i (.i 0),?_,?_⟩
     ·rw [f6F,f6L (by omega)]
      exact List.mem_take_iff_getElem.2 ⟨i,by omega,rfl⟩
     ·have e1:(fs.map fN).getD i 0=fN (fs.getD i (.i 0)):=by simp [f6F,f6L (show i<fs.length by omega)]
      have e2:(fs.map fN).getD j 0=fN (fs.getD j (.i 0)):=by simp [f6F,f6L hj]
      rw [e1,e2] at he;show (fN (fs.getD i (.i 0))==fN (fs.getD j (.i 0)))=true;rw [he];exact beq_self_eq_true _
    rw [hh] at this;revert this
    cases !(inI (fN (fs.getD j (.i 0))) 0 255)|| !(inI (fS (fs.getD j (.i 0))) 1 255) with
    |true=>exact fun h=>absurd (show (9:Int)=0 from h) (by decide)
    | false=>
     cases !inI (fT (fs.getD j (.i 0))) 0 3 with
     |true=>exact fun h=>absurd (show (7:Int)=0 from h) (by decide)
     |false=>
      cases decide (fT (fs.getD j (.i 0))≤1)&&(fS (fs.getD j (.i 0)) !=1)&&(fS (fs.getD j (.i 0)) !=2)&&(fS (fs.getD j (.i 0)) !=4) with
      |true=>exact fun h=>absurd (show (2:Int)=0 from h) (by decide)
      |false=>exact fun h=>absurd (show (5:Int)=0 from h) (by decide)
   intro i j hi hj he;rw [List.length_map] at hi hj;by_cases hij:i<j
   ·exact absurd he (key i j hij hj)
   ·by_cases hji:j<i
    ·exact absurd he.symm (key j i hji hi)
    ·omega
def OkU (a:Ab):Prop:=∀j,a.kn j=true→f5M ((a.fs j).map fN)
theorem OkU.step {a:Ab} (h:OkU a) {x:D} (hx:a7H a x=0):OkU (a0T a x):=by
 unfold a0T b5s;cases hk:kX x==1 with
 |true=>
  have hE:=a11 hx;have hf:=d8u (hE.d (by simpa using hk)).2
  intro j hj;simp only [f6B,upA] at hj⊢;by_cases e:j=(sX x).toNat
  ·simp only [if_pos e];exact hf
  ·simp only [if_neg e] at hj⊢;exact h j hj
 |false=>exact h
theorem OkU.start:OkU Ab.start:=fun j hj=>by simp [Ab.start] at hj
structure f5m (es:List D) (k n t vi:Int) (vt:List UInt8) (vm:Bool) (i:Int) (x:D) (a:Ab):Prop where
 z:a7D es k=0
 i0:0≤i
 i1:i<(a7E a x).length
 nm:((a7E a x).map fN).getD i.toNat 0=n
 ty:fT (a1G a x i)=t
 e:(b1K (fS (a1G a x i)) (fT (a1G a x i)) vi vt vm (a.bg (sX x).toNat)).1=0
 f:fileE (es.set k.toNat (c76 x ((a1G a x i).cell 3).toI (fS (a1G a x i)) (b1K (fS (a1G a x i)) (fT (a1G a x i)) vi vt vm (a.bg (sX x).toNat)).2))=0
 o:d1o es k n t vi vt vm=(0,es.set k.toNat (c76 x ((a1G a x i).cell 3).toI (fS (a1G a x i)) (b1K (fS (a1G a x i)) (fT (a1G a x i)) vi vt vm (a.bg (sX x).toNat)).2))
theorem e79 {es:List D} {k n t vi:Int} {vt:List UInt8} {vm:Bool} (h:(d1o es k n t vi vt vm).1=0):∃i,f5m es k n t vi vt vm i (es.getD k.toNat (.i 0)) (abN Ab.start es k.toNat):=by
 obtain ⟨r,hr⟩:∃r,d1o es k n t vi vt vm=r:=⟨_,rfl⟩;have hr0:=hr;unfold d1o at hr;rw [hr0] at h;cases hd:a7D es k !=0 with
 |true=>rw [hd] at hr;subst hr;exact absurd h (by simpa using hd)
 | false=>
  have hz:a7D es k=0:=by simpa using hd
  rw [hd] at hr;simp only [f6C] at hr;generalize es.getD k.toNat (.i 0)=x at hr⊢;generalize abN Ab.start es k.toNat=a at hr⊢;cases hi:fIx n ((a7E a x).map fN) 0 with
  |none=>rw [hi] at hr;subst hr;exact absurd (show (4:Int)=0 from h) (by decide)
  | some i=>
   rw [hi] at hr;obtain ⟨i0,i1,i2⟩:=c74 hi;rw [List.length_map] at i1;rw [Int.sub_zero] at i2;simp only at hr;unfold d1i at hr;cases ht:fT (a1G a x i) !=t with
   |true=>rw [ht] at hr;subst hr;exact absurd (show (7:Int)=0 from h) (by decide)
   | false=>
    rw [ht] at hr;simp only [f6C] at hr;cases he:(b1K (fS (a1G a x i)) (fT (a1G a x i)) vi vt vm (a.bg (sX x).toNat)).1 !=0 with
    |true=>rw [he] at hr;subst hr;exact absurd h (by simpa using he)
    | false=>
     rw [he] at hr;simp only [f6C] at hr;cases hf:fileE (es.set k.toNat (c76 x ((a1G a x i).cell 3).toI (fS (a1G a x i)) (b1K (fS (a1G a x i)) (fT (a1G a x i)) vi vt vm (a.bg (sX x).toNat)).2)) !=0 with
     |true=>rw [hf] at hr;subst hr;exact absurd h (by simpa using hf)
     |false=>
      rw [hf] at hr;exact ⟨i,hz,i0,by omega,i2,by simpa using ht,by simpa using he,by simpa using hf,hr0.trans hr.symm⟩
end Go.Proofs.YtiegikkpipdleaaGreatDoor
namespace Go.Proofs.YtiegikkpipdleaaGreatDoor
open Go Go.AM
section
variable {N:Nat}
theorem e4d {a:Ab} {x:D} (hf:a1P (a.fs (sX x).toNat)) {w:Int} (h0:0≤w) (h1:w<(a7E a x).length):((a1G a x w).cell 3).toI=szL ((flds (kX x==3) (a.fs (sX x).toNat)).take w.toNat)∧fS (a1G a x w)=fS ((flds (kX x==3) (a.fs (sX x).toNat)).getD w.toNat (.i 0)):=by
 obtain ⟨r1,r2,r3⟩:=c75 (fs:=a.fs (sX x).toNat) (t:=kX x==3) (a:=0);have hl:(a7E a x).length=(flds (kX x==3) (a.fs (sX x).toNat)).length:=r1;obtain ⟨q1,q2,q3⟩:=r3 w.toNat (by omega)
 exact ⟨by have:((a1G a x w).cell 3).toI=0+szL ((flds (kX x==3) (a.fs (sX x).toNat)).take w.toNat):=q3;omega,q1⟩
theorem e2I {l:List D} (h:∀f∈l,0≤fS f∧fS f≤255) {m n:Nat} (hmn:m≤n):szL (l.take m)≤szL (l.take n):=by
 have hap:∀(xs ys:List D),szL (xs++ys)=szL xs+szL ys:=by
  intro xs ys;induction xs with
  |nil=>simp [szL]
  |cons z zs ih=>simp only [List.cons_append,szL,ih];omega
 have e:l.take n=l.take m++(l.drop m).take (n-m):=by
  rw [←List.drop_take]
  conv=>lhs;rw [←List.take_append_drop m (l.take n)]
  rw [List.take_take,Nat.min_eq_left hmn]
 rw [e,hap];have:=(a3O (fs:=(l.drop m).take (n-m)) (fun f hf=>h f (List.mem_of_mem_drop (List.mem_of_mem_take hf)))).1
 omega
theorem e2J {l:List D} {w:Int} (h0:0≤w) (h1:w<l.length):szL (l.take (w+1).toNat)=szL (l.take w.toNat)+fS (l.getD w.toNat (.i 0)):=by
 have hap:∀(xs:List D) (y:D),szL (xs++[y])=szL xs+fS y:=by
  intro xs y;induction xs with
  |nil=>simp [szL]
  |cons z zs ih=>simp only [List.cons_append,szL,ih];omega
 have hw:(w+1).toNat=w.toNat+1:=by omega
 have hlt:w.toNat<l.length:=by omega
 rw [hw,List.take_succ_eq_append_getElem hlt,hap,f6F,f6L hlt,Option.getD_some]
theorem apart {a:Ab} {x:D} (hf:a1P (a.fs (sX x).toNat)) {w i:Int} (h0:0≤w) (h1:w<(a7E a x).length) (i0:0≤i) (i1:i<(a7E a x).length) (hwi:w<i):((a1G a x w).cell 3).toI+fS (a1G a x w)≤((a1G a x i).cell 3).toI:=by
 obtain ⟨p1,p2⟩:=e4d hf h0 h1;obtain ⟨q1,q2⟩:=e4d hf i0 i1;have hB:=hf.flds (kX x==3);have hl:(a7E a x).length=(flds (kX x==3) (a.fs (sX x).toNat)).length:=(c75 (fs:=a.fs (sX x).toNat) (t:=kX x==3) (a:=0)).1;have:=e2J h0 (l:=flds (kX x==3) (a.fs (sX x).toNat)) (by omega)
 have:=e2I hB.size (show (w+1).toNat≤i.toNat by omega)
 omega
end
variable {N:Nat}
def e4e (u:List UInt8):List D:=[.a [.i 1,.i (u.length:Int),.i 3]]
def e8v (big:Bool) (u:List UInt8):List D:=[a5b 9 60000 (e4e u) big,a2E 9 (a0u u)]
theorem e8a {u:List UInt8} (h0:1≤u.length) (h1:u.length≤255):b7z 60000 (e4e u)=0:=by
 unfold b7z e4e;have e:c3i [.a [.i 1,.i (u.length:Int),.i 3]] 0=0:=by
  unfold c3i;show (bif !(inI 1 0 255)|| !(inI (u.length:Int) 1 255) then (9:Int) else bif !inI 3 0 3 then 7 else bif decide ((3:Int)≤1)&&_&&_&&_ then 2 else bif d0Z 1 [] then 5 else 0)=0
  rw [show inI (u.length:Int) 1 255=true from decide_eq_true (by omega)]
  rfl
 show (bif !(inI 60000 0 65535) then (9:Int) else bif decide (((1:Nat):Int)>30) then 3 else (bif c3i [.a [.i 1,.i (u.length:Int),.i 3]] 0 !=0 then c3i [.a [.i 1,.i (u.length:Int),.i 3]] 0 else 0))=0
 rw [e];rfl
theorem e8b {st:Int} {a:Ab} {big:Bool} {u:List UInt8} (h0:1≤u.length) (h1:u.length≤255):Seg st a (e8v big u) [] [] []:=by
 have hd:=e8a h0 h1;obtain ⟨e1,sl⟩:=a6L (a:=a) (j:=9) (g:=60000) (big:=big) (by omega) (by omega) hd
 obtain ⟨w1,w2,w3,w4⟩:=a9E (b:=a0u u) (j:=9) sl (by omega) (by omega) (by
  rw [a2d];show (u.length:Int)=(u.length:Int)+0;omega)
 refine Seg.one (S:=[]) (L:=[]) (T:=[]) (S':=[]) (L':=[]) (T':=[]) (Seg.def (by omega) (by omega) hd) ⟨?_,fun rest SS LS TS=> ?_⟩
 ·rw [a2i w1];rfl
 ·have e:a1F (a0T a (a5b 9 60000 (e4e u) big)) [a2E 9 (a0u u)]=[(60000,a1I (a0T a (a5b 9 60000 (e4e u) big)) (a2E 9 (a0u u)),a7B (a0T a (a5b 9 60000 (e4e u) big)) (a2E 9 (a0u u)))]:=by
   show [((a0T a (a5b 9 60000 (e4e u) big)).gl (sX (a2E 9 (a0u u))).toNat,_,_)]=_;rw [w3]
  rw [e];show b0L st rest SS LS TS=_;simp
section
variable {name:List UInt8} {sport st:Int} {ss ls ts X:List D} {big:Bool}
theorem c3y (h:d8i name sport st ss ls ts) (hX:∀a,Seg st a X [] [] []):a1q Ab.start (a50 false name sport st ss ls ts big++X)=0∧b0K (a1F Ab.start (a50 false name sport st ss ls ts big++X))=some (name,sport,st,true)∧b0L st (a1F Ab.start (a50 false name sport st ss ls ts big++X)) [] [] []=some (ss,ls,ts):=by
 obtain ⟨e1,e2⟩:=e7R (big:=big) h [];have s1:=f5e (st:=st) (big:=big) (a:=aft Ab.start (hd0 big name sport st)) h.tg;have s2:=f5f (big:=big) (a:=aft (aft Ab.start (hd0 big name sport st)) (e8u big ts)) h.b0 h.lg;have s3:=f5g (big:=big) (a:=aft (aft (aft Ab.start (hd0 big name sport st)) (e8u big ts)) (f3j big st ls)) false h.b0 h.inc h.sg;have s:=Seg.app s1 (Seg.app s2 (Seg.app s3 (hX _)));rw [e7Q,f6P,f6P,f6P];refine ⟨?_,?_,?_⟩
 ·rw [b5C e1];exact s.e
 ·rw [a51,e2]
  show b0K ((0,st,_)::_)=_;rw [b7G];rfl
 ·rw [a51,e2]
  have q:=s.f [] [] [] [];rw [List.append_nil] at q;show b0L st (a1F _ _) [] [] []=_;rw [q];simp [b0L]
theorem b0N (h:d8i name sport st ss ls ts) (hX:∀a,Seg st a X [] [] []) (hl:(a50 false name sport st ss ls ts big++X).length≤50000):fileE (a50 false name sport st ss ls ts big++X)=0:=by
 unfold fileE;rw [decide_eq_false (by omega),(c3y h hX).1];rfl
theorem e2K (h:d8i name sport st ss ls ts) (hc:c5F name sport st ss ls ts=0) (hX:∀a,Seg st a X [] [] []) (hl:(a50 false name sport st ss ls ts big++X).length≤50000):c7T (a50 false name sport st ss ls ts big++X)=(name,sport,st,ss,ls,ts,0):=by
 obtain ⟨_,w1,w2⟩:=c3y (big:=big) h hX;unfold c7T;rw [b0N h hX hl,w1];show (bif e8t (name,sport,st,true) then e7J 4 else match b0L st (a1F Ab.start (a50 false name sport st ss ls ts big++X)) [] [] [] with|none=>e7J 2|some r=>_)=_
 have hb:e8t (name,sport,st,true)=false:=by
  unfold e8t;have hn:(name==[])=false:=by rw [beq_eq_false_iff_ne];exact h.nm.1
  show (bif (bif !true then true else name==[]) then true else decide (st<0))=false
  rw [hn,decide_eq_false (by have:=h.b0;omega)];rfl
 rw [hb,w2];show (bif c5F name sport st ss ls ts !=0 then _ else (name,sport,st,ss,ls,ts,0))=_
 rw [hc];rfl
theorem d8v {n:Nat}:∀{es:List D},(∀x∈es,(a5l x).length≤n)→(a0C es).length≤n*es.length
 | [],_=>Nat.zero_le _
 |x::r,h=>by
  have h1:=h x (by simp)
  have h2:=d8v (es:=r) fun y hy=>h y (by simp [hy])
  simp only [a0C,f6N,f6O,Nat.mul_succ];omega
theorem b2Y:∀{xs ys:List D},a0C (xs++ys)=a0C xs++a0C ys
 | [],_=>rfl
 |x::r,ys=>by simp only [List.cons_append,a0C,b2Y (xs:=r),f6P]
theorem b5D {j g:Int} {fs:List D}:(a5l (a5b j g fs big)).length=5+3*fs.length:=a9B _ _
theorem b5E {j:Int} {b:List D}:(a5l (a2E j b)).length=b.length+1:=rfl
theorem e8c {o:Int} {b:List D}:(a5l (d77 o b)).length=b.length+1:=rfl
theorem c78 (s:D):(a7C big s).length=18:=by
 unfold a7C;simp only [f6N,a0t,a3P]
theorem c79:∀{ss:List D} {prev:Option Int},∀x∈a2X false big st prev ss,(a5l x).length≤100
 | [],_,x,hx=>by simp [a2X] at hx
 | s::r,prev,x,hx=>by
  simp only [a2X,f6M] at hx;rcases hx with rfl|hx
  ·unfold d8F
   cases !false&&a4v prev s with
   |true=>simp only [f6B];rw [e8c,c78];omega
   |false=>simp only [f6C];rw [b5E,f6N,a0t,c78];omega
  ·exact c79 (ss:=r) x hx
theorem e8d (h:d8i name sport st ss ls ts):∀x∈a50 false name sport st ss ls ts big,(a5l x).length≤100:=by
 intro x hx;unfold a50 at hx;simp only [List.mem_append,f6M,List.not_mem_nil,or_false,List.mem_map] at hx;rcases hx with (((((((rfl|rfl)|hx)|⟨t,ht,rfl⟩)|hx)|⟨l,hl,rfl⟩)|hx)|hx)
 ·rw [b5D];show 5+3*3≤100;omega
 ·rw [b5E,f6N,f6N,a0t,a1R h.nm.2.1];show 4+(60+1)+1≤100;omega
 ·rw [b0M hx,b5D];show 5+3*1≤100;omega
 ·obtain ⟨s,rfl,_,hl,_⟩:=h.tg t ht
  rw [b5E];show (txB s).length+1≤100;rw [a1R hl];omega
 ·rw [b0M hx,b5D];show 5+3*3≤100;omega
 ·obtain ⟨f,t,n,rfl,_,_,_,_,hn,_⟩:=h.lg l hl
  rw [b5E];unfold c3q;rw [f6N,f6N,a0t,a0t];show 4+(4+(txB n).length)+1≤100;rw [a1R hn];omega
 ·rw [b0M hx,b5D];show 5+3*7≤100;omega
 ·exact c79 x hx
theorem c8a (h:d8i name sport st ss ls ts):(a50 false name sport st ss ls ts big).length≤20225:=by
 have h1:=h.s;have h2:=h.l;have h3:=h.t;have e1:=c5X (xs:=ts) (d:=a5b 3 30 fs3 big);have e2:=c5X (xs:=ls) (d:=a5b 2 19 fs2 big);have e3:=c5X (xs:=ss) (d:=a5b 1 20 fs1 big);unfold a50;simp only [f6N,List.length_map,c3s,f6O,List.length_nil];omega
theorem d1j (h:d8i name sport st ss ls ts) (hX:∀a,Seg st a X [] [] []) (hl:X.length≤2) (hb:(a0C X).length≤1000):a3e (a50 false name sport st ss ls ts big++X)=0:=by
 have h1:=c8a (big:=big) h;have h2:=d8v (e8d (big:=big) h);have hz:=b0N (big:=big) h hX (by rw [f6N];omega)
 have hlen:=a49 (es:=a50 false name sport st ss ls ts big++X);rw [b2Y,f6N] at hlen;have:100*(a50 false name sport st ss ls ts big).length≤100*20225:=Nat.mul_le_mul_left _ h1;unfold a3e;rw [hz,decide_eq_false (show¬((a2j (a50 false name sport st ss ls ts big++X)).length:Int)>4000000 by omega)]
 rfl
end
theorem c3z (u:List UInt8):b1J (a0u u):=by
 intro y hy;unfold a0u at hy;obtain ⟨c,_,rfl⟩:=List.mem_map.1 hy;have:=c.toNat_lt;exact ⟨(c.toNat:Int),rfl,by omega,by omega⟩
theorem f5n {big:Bool} {u:List UInt8} (h1:u.length≤255):∀x∈e8v big u,c5R x:=by
 have hm:maxLen=9223372036854775807:=rfl;intro x hx;unfold e8v at hx;simp only [f6M,List.not_mem_nil,or_false] at hx;rcases hx with rfl|rfl
 ·exact c3u (by unfold a3o;omega) (by unfold a3o;omega) (by show 1≤maxLen;omega) (fun f hf=>by
   unfold e4e at hf;have:f= .a [.i 1,.i (u.length:Int),.i 3]:=by simpa using hf
   rw [this];exact f3k ⟨by unfold a3o;omega,by unfold a3o;omega,by unfold a3o;omega⟩)
 ·exact b7J (by unfold a3o;omega) (by unfold a3o;omega) (by unfold a3o;omega) (by rw [a2d];omega) (c3z u)
theorem e2L {big:Bool} {u:List UInt8} (h1:u.length≤255):(a0C (e8v big u)).length≤1000:=by
 unfold e8v;simp only [a0C,f6N,List.length_nil];rw [b5D,b5E,a2d];show 5+3*1+(u.length+1+0)≤1000;omega
end Go.Proofs.YtiegikkpipdleaaGreatDoor
namespace Go.Proofs.YtiegikkpipdleaaGreatDoor
open Go Go.AM
variable {N:Nat}
theorem e2M {x y:D} (h:EqE x y):a5l x=a5l y:=by
 obtain ⟨hl,h1,h2,h3⟩:=b5v h.d;unfold a5l d8C;rw [h.k,h.s,h.o,h.b];have:c3j (sX y) ((dX x).getD 0 (.i 0))=c3j (sX y) ((dX y).getD 0 (.i 0)):=by
  unfold c3j;rw [h1,h2,h3]
 rw [this]
theorem c8b:∀{xs ys:List D},All2 EqE xs ys→a0C xs=a0C ys
 | [],[],_=>rfl
 |x::xs,y::ys,h=>by
  simp only [a0C,e2M h.1,c8b h.2]
 | [],_::_,h=>h.elim
 |_::_,[],h=>h.elim
theorem c8c {xs ys:List D} (h:All2 EqE xs ys):a1i xs=a1i ys:=by
 unfold a1i;rw [c8b h]
def e8w (A B:List D) (p n:Nat):Prop:=A.length=B.length∧ ∀i:Nat,(i<p∨p+n≤i)→A.getD i (.i 0)=B.getD i (.i 0)
theorem e2N {A B P Q:List D} {p n:Nat} (h:e8w A B p n):e8w (P++A++Q) (P++B++Q) (P.length+p) n:=by
 obtain ⟨h1,h2⟩:=h;refine ⟨by simp [h1],fun i hi=> ?_⟩
 rw [f6P,f6P];have g0:∀Z:List D,i<P.length→(P++(Z++Q)).getD i (.i 0)=P.getD i (.i 0):=fun Z hp=>by
  rw [f6F,f6F,f6R hp]
 have g1:∀Z:List D,¬i<P.length→i-P.length<Z.length→(P++(Z++Q)).getD i (.i 0)=Z.getD (i-P.length) (.i 0):=fun Z hp hq=>by
  rw [f6F,f6F,f6Q (by omega),f6R hq]
 have g2:∀Z:List D,¬i<P.length→ ¬i-P.length<Z.length→(P++(Z++Q)).getD i (.i 0)=Q.getD (i-P.length-Z.length) (.i 0):=fun Z hp hq=>by
  rw [f6F,f6F,f6Q (by omega),f6Q (by omega)]
 by_cases hp:i<P.length
 ·rw [g0 A hp,g0 B hp]
 ·by_cases hq:i-P.length<A.length
  ·rw [g1 A hp hq,g1 B hp (by omega)]
   exact h2 (i-P.length) (by omega)
  ·rw [g2 A hp hq,g2 B hp (by omega),h1]
theorem e2O {data b:List D} {p r:Nat} (h2:p≤data.length) (h3:r=p+b.length) (h4:r≤data.length):e8w data (data.take p++b++data.drop r) p b.length:=by
 have hl:(data.take p).length=p:=by rw [List.length_take];omega
 refine ⟨by simp only [f6N,hl,List.length_drop];omega,fun i hi=> ?_⟩
 rw [f6P];rcases hi with hi|hi
 ·rw [f6F,f6F,f6R (by omega),List.getElem?_take,if_pos hi]
 ·rw [f6F,f6F,f6Q (by omega),f6Q (by omega),List.getElem?_drop,hl]
  congr 2
  omega
theorem d8w {es:List D} {n:Nat} (hn:n<es.length) {X:D} (hk:kX (es.getD n (.i 0))≠1) (e1:kX X=kX (es.getD n (.i 0))) (e2:sX X=sX (es.getD n (.i 0))) (e3:oX X=oX (es.getD n (.i 0))) (hkk:kX (es.getD n (.i 0))=2∨kX (es.getD n (.i 0))=3) {p m:Nat} (hb:e8w (bX (es.getD n (.i 0))) (bX X) p m):
  ∃q,e8w (a1i es) (a1i (es.set n X)) q m:=by
 have hs:es=es.take n++es.getD n (.i 0)::es.drop (n+1):=by
  conv=>lhs;rw [←List.take_append_drop n es]
  rw [List.drop_eq_getElem_cons hn,f6F,f6L hn,Option.getD_some]
 have b1:a0C es=a0C (es.take n)++(a5l (es.getD n (.i 0))++a0C (es.drop (n+1))):=by
  conv=>lhs;rw [hs]
  rw [b2Y];rfl
 have b2:a0C (es.set n X)=a0C (es.take n)++(a5l X++a0C (es.drop (n+1))):=by
  rw [c3x hn,b2Y];rfl
 have hx:=b5w hkk;have hX:=b5w (x:=X) (by rw [e1];exact hkk)
 rw [e1,e2,e3] at hX;rw [hx] at b1;rw [hX] at b2;have hlen:(a0C es).length=(a0C (es.set n X)).length:=by
  rw [b1,b2];simp only [f6N,f6O,hb.1]
 refine ⟨8+(a0C (es.take n)).length+1+p,?_⟩;unfold a1i;rw [←hlen];generalize hH:([.i 72,.i 65,.i 82,.i 49]++nb4 ((a0C es).length:Int) true:List D)=H;have hHl:H.length=8:=by rw [←hH];simp [a0t]
 rw [b1,b2];generalize u8 (bif kX (es.getD n (.i 0))==3 then 128+32*sX (es.getD n (.i 0))+oX (es.getD n (.i 0)) else sX (es.getD n (.i 0)))=c
 have a1:∀Z:List D,H++(a0C (es.take n)++(c::Z++a0C (es.drop (n+1))))=(H++a0C (es.take n)++[c])++Z++a0C (es.drop (n+1)):=by
  intro Z;simp
 rw [a1,a1];have:=e2N (P:=H++a0C (es.take n)++[c]) (Q:=a0C (es.drop (n+1))) hb;rw [show (H++a0C (es.take n)++[c]).length+p=8+(a0C (es.take n)).length+1+p by simp only [f6N,f6O,List.length_nil,hHl]] at this
 exact this
theorem d8x (hN:maxLen<N) {A B:List D} {m p n:Nat} (hA:A.length≤10000000) (hm:m≤A.length) (hB:B.length=A.length) (hn:n≤255) (h:∀i:Nat,i<m→(i<p∨p+n≤i)→(A.getD i (.i 0)).toI=(B.getD i (.i 0)).toI):
  ∃f l,a5X N A B m (-1) (-1) 0=some (f,l)∧(f<0∨(0≤f∧f≤10000000∧0≤l∧l≤10000000∧l-f<255)):=by
 have hmx:maxLen=9223372036854775807:=rfl;have loop:∀(k:Nat) (i f l:Int),0≤i→i≤m→(m-i).toNat<k→(f= -1∨((p:Int)≤f∧f<m∧0≤l∧l<m∧l<(p:Int)+n))→
   ∃f' l',b48 N A B m k f l i (fun p=>some p)=some (f',l')∧(f'= -1∨((p:Int)≤f'∧f'<m∧0≤l'∧l'<m∧l'<(p:Int)+n)):=by
  intro k;induction k with
  |zero=>intro i f l _ _ h;omega
  | succ k ih=>
   intro i f l h0 h1 hk hI;unfold b48 b91;by_cases hi:i<m
   ·rw [decide_eq_true hi,a0K h0 (show i<(A.length:Int) by omega),a0K h0 (show i<(B.length:Int) by omega)]
    simp only [f6B,a0i,a0s (x:=i+1) (by omega) (by omega)]
    refine ih (i+1) _ _ (by omega) (by omega) (by omega) ?_
    unfold b90 b47 b9Z b0s;cases hd:(A.getD i.toNat (.i 0)).toI !=(B.getD i.toNat (.i 0)).toI with
    |false=>exact hI
    | true=>
     have hin:p≤i.toNat∧i.toNat<p+n:=by
      apply Decidable.byContradiction;intro hc;have:=h i.toNat (by omega) (by omega)
      rw [this] at hd;simp at hd
     simp only [f6B,a0i];rcases hI with rfl|hI
     ·right
      show (p:Int)≤i∧i<m∧0≤i∧i<m∧i<(p:Int)+n;omega
     ·right
      rw [decide_eq_false (show¬f<0 by omega)]
      show (p:Int)≤f∧f<m∧0≤i∧i<m∧i<(p:Int)+n;omega
   ·rw [decide_eq_false hi]
    exact ⟨f,l,rfl,hI⟩
 obtain ⟨f,l,q1,q2⟩:=loop N 0 (-1) (-1) (by omega) (by omega) (by omega) (.inl rfl)
 exact ⟨f,l,q1,by omega⟩
theorem d8y {f l:Int} (h:f<0∨(0≤f∧f≤10000000∧0≤l∧l≤10000000∧l-f<255)):a3N N f l=true:=by
 unfold a3N b0t;rcases h with h|⟨h1,h2,h3,h4,h5⟩
 ·rw [decide_eq_true h];rfl
 ·rw [decide_eq_false (show¬f<0 by omega),a0s (x:=l-f) (by omega) (by omega),decide_eq_true h5];rfl
end Go.Proofs.YtiegikkpipdleaaGreatDoor
namespace Go.Proofs.YtiegikkpipdleaaGreatDoor
open Go Go.AM
variable {M:Nat}
def tl3 (N : Nat) (v0:LB) (v1 v2:Int) (v4 v6 v8:LD) (v11 v12 v13 v14:Int) (v15:LB) (v16:Bool) (es:LD):Option Bool:=
 bnd (b61 N es) fun y5=>
 bif y5.isSome then
  bif ((y5.getD default).2.2 !=0) then
   some false
  else
   bnd (d6j N (y5.getD default).1 (y5.getD default).2.1) fun y6=>
   bif y6.isSome then
    bif ((y6.getD default).2.2.2 !=0) then
     some false
    else
     bnd (d0G N (y6.getD default).2.1) fun y7=>
     bif y7.isSome then
      bnd (a3M N (y7.getD default).2.2.2.2.2.2.2.2.2 v0 v1 v2 v4 v6 v8 (y7.getD default).1 (y7.getD default).2.1 (y7.getD default).2.2.1 (y7.getD default).2.2.2.2.1 (y7.getD default).2.2.2.2.2.2.1 (y7.getD default).2.2.2.2.2.2.2.2.1) fun y8=>
      bif y8.isSome then
       bif (y8.getD default) then
        some false
       else
        bif (a6P N (y6.getD default).2.1 v11 v12 v13 v14 v15 v16).isSome then
         bnd ((a6P N (y6.getD default).2.1 v11 v12 v13 v14 v15 v16).getD default).1 fun y9=>
         bnd (((a6P N (y6.getD default).2.1 v11 v12 v13 v14 v15 v16).getD default).2.1:List D) fun y10=>
         bnd ((a6P N (y6.getD default).2.1 v11 v12 v13 v14 v15 v16).getD default).2.2 fun y11=>
         bif (y11 !=0) then
          some true
         else
          bnd (b61 N y10) fun y12=>
          bif y12.isSome then
           bnd (bif ((y12.getD default).2.2 !=0) then true else (((y12.getD default).2.1.length:Int) !=((y5.getD default).2.1.length:Int))) fun y13=>
           bif y13 then
            some false
           else
            bnd (IntKind.wrap .i64 (((y5.getD default).2.1.length:Int)-4)) fun y14=>
            bnd (a5X N (y5.getD default).2.1 (y12.getD default).2.1 y14 (-1) (-1) 0) fun y15=>
            bif y15.isSome then
             bnd (a3N N (y15.getD default).1 (y15.getD default).2) fun y16=>
             some y16
            else
             none
          else
           none
        else
         none
      else
       none
     else
      none
   else
    none
 else
  none
theorem b7L {A B:List D} {i:Nat} (h:i<A.length):(A++B).getD i (.i 0)=A.getD i (.i 0):=by
 rw [f6F,f6F,f6R h]
theorem d8z (hN:maxLen<M) {es:List D} {name:List UInt8} {sport st:Int} {ss ls ts:List D} (ha:d0W name ss ls ts) (hes:∀x∈es,c5R x) (hw:a3e es=0) (hact:c7T es=(name,sport,st,ss,ls,ts,0)) (hlen:(a2j es).length≤4000000) (k n t vi:Int) {vt:List UInt8} (vm:Bool) (hv:vt.length≤maxLen):
  tl3 M name sport st ss ls ts k n t vi vt vm es=some true:=by
 have hmx:maxLen=9223372036854775807:=rfl;have hed:∀x∈es,a3c x:=fun x hx=>(hes x hx).entD
 have w1:=c7N (N:=M) hN hed hw;obtain ⟨b,ys,r1,r2,r3⟩:=d1a (N:=M) hN hes hw;have hyd:=a9G r2 hed;have hyg:∀y∈ys,e76 y:=fun y hy=>⟨hyd y hy,r3 y hy⟩
 obtain ⟨n1,n2,n3,a1⟩:=e2u (N:=M) hN hyd;rw [←e2B r2,hact] at a1;have hs:=e7p (N:=M) (n:=name) (sp:=sport) (st:=st) (s:=ss) (l:=ls) (t:=ts) (n':=name) (sp':=sport) (st':=st) (s':=ss) (l':=ls) (t':=ts) hN ha.s ha.l ha.t;rw [d0Y] at hs;have e40:a3M M 0 name sport st ss ls ts name sport st ss ls ts=some false:=by
  unfold a3M b46;rw [hs];rfl
 obtain ⟨nl,out,s1,s2⟩:=e2G (N:=M) hN hyg k n t vi vm hv;unfold tl3;simp only [a0i,w1,r1,f6G,getD_some,f6B,show ((0:Int) !=0)=false from rfl,f6C,a1,e40,s1];cases hc:(d1o ys k n t vi vt vm).1 !=0 with
 |true=>rfl
 | false=>
  have hc0:(d1o ys k n t vi vt vm).1=0:=by simpa using hc
  obtain ⟨i,K⟩:=e79 hc0;have A:=e77 hyd K.z;have kn:k.toNat<ys.length:=by have:=A.k0;have:=A.k1;omega
  have F:=c0r A K.i0 K.i1;have hIs:=F.s;obtain ⟨el,eb⟩:=c5Z (vi:=vi) (vt:=vt) (vm:=vm) (big:=(abN Ab.start ys k.toNat).bg (sX (ys.getD k.toNat (.i 0))).toNat) F.s F.z F.t K.e
  obtain ⟨X,hX⟩:∃X,c76 (ys.getD k.toNat (.i 0)) ((a1G (abN Ab.start ys k.toNat) (ys.getD k.toNat (.i 0)) i).cell 3).toI (fS (a1G (abN Ab.start ys k.toNat) (ys.getD k.toNat (.i 0)) i)) (b1K (fS (a1G (abN Ab.start ys k.toNat) (ys.getD k.toNat (.i 0)) i)) (fT (a1G (abN Ab.start ys k.toNat) (ys.getD k.toNat (.i 0)) i)) vi vt vm ((abN Ab.start ys k.toNat).bg (sX (ys.getD k.toNat (.i 0))).toNat)).2=X:=⟨_,rfl⟩;have Ko:=K.o;have Kf:=K.f;rw [hX] at Ko Kf;have aS:All2 EqE (ys.set k.toNat X) out:=by rw [Ko] at s2;exact s2
  have hE:=a11 (b1t (i:=k.toNat) OkA.start OkT.start A.e kn).2.2;have hkk:kX (ys.getD k.toNat (.i 0))=2∨kX (ys.getD k.toNat (.i 0))=3:=by
   have:=A.d;have:=hE.k;have h1:1≤kX (ys.getD k.toNat (.i 0)):=this.1;have h2:kX (ys.getD k.toNat (.i 0))≤3:=this.2;omega
  have hnear:e8w (bX (ys.getD k.toNat (.i 0))) (bX X) ((a1G (abN Ab.start ys k.toNat) (ys.getD k.toNat (.i 0)) i).cell 3).toI.toNat (b1K (fS (a1G (abN Ab.start ys k.toNat) (ys.getD k.toNat (.i 0)) i)) (fT (a1G (abN Ab.start ys k.toNat) (ys.getD k.toNat (.i 0)) i)) vi vt vm ((abN Ab.start ys k.toNat).bg (sX (ys.getD k.toNat (.i 0))).toNat)).2.length:=by
   rw [←hX];have f0:=F.a0;have f1:=F.a1;exact e2O (by omega) (by omega) (by omega)
  obtain ⟨q,hq⟩:=d8w kn A.d (by rw [←hX];rfl) (by rw [←hX];rfl) (by rw [←hX];rfl) hkk hnear
  rw [←c8c r2,c8c aS] at hq;obtain ⟨q1,q2⟩:=hq;have hod:∀y∈out,a3c y:=a9G s2 (e2H hyd k n t vi vt vm).1;have hfo:fileE out=0:=by rw [←All2.fileE aS];exact Kf
  have hal:(a2j out).length=(a2j es).length:=by
   unfold a2j;rw [f6N,f6N,a0t,a0t,q1]
  have hwo:a3e out=0:=by
   unfold a3e;rw [hfo,decide_eq_false (show¬((a2j out).length:Int)>4000000 by omega)];rfl
  have w2:=c7N (N:=M) hN hod hwo;have hfl:(a2j es).length=(a1i es).length+4:=by unfold a2j;rw [f6N,a0t]
  have w4:IntKind.wrap .i64 (((a2j es).length:Int)-4)=((a1i es).length:Int):=by rw [a0s (by omega) (by omega)];omega
  obtain ⟨f,l,d1,d2⟩:=d8x (N:=M) hN (A:=a2j es) (B:=a2j out) (m:=(a1i es).length) (p:=q) (n:=(b1K (fS (a1G (abN Ab.start ys k.toNat) (ys.getD k.toNat (.i 0)) i)) (fT (a1G (abN Ab.start ys k.toNat) (ys.getD k.toNat (.i 0)) i)) vi vt vm ((abN Ab.start ys k.toNat).bg (sX (ys.getD k.toNat (.i 0))).toNat)).2.length) (by omega) (by omega) hal (by omega) (fun j hj hp=>by
   unfold a2j;rw [b7L hj,b7L (by omega),q2 j hp])
  simp only [w2,hal,f6G,getD_some,f6B,f6C,show ((0:Int) !=0)=false from rfl,bne_self_eq_false,w4,d1,d8y d2]
theorem f6i (hN:maxLen<M) {name:List UInt8} {sport st:Int} {ss ls ts:List D} (ha:d0W name ss ls ts) (hs:∀s∈ss,f3Q s) (hl:∀l∈ls,f3R l) (ht:∀t∈ts,f3S t) (big:Bool) {u:List UInt8} (hu:u.length≤maxLen) (k n t vi:Int) {vt:List UInt8} (vm:Bool) (hv:vt.length≤maxLen):
  e7k M name sport st ss ls ts big u k n t vi vt vm=some true:=by
 have hmx:maxLen=9223372036854775807:=rfl;have bad:∀e:Int,(e !=0)=true→(e=c5F name sport st ss ls ts∨e=9)→e0M M name sport st ss ls ts big=some (.inl e)→e7k M name sport st ss ls ts big u k n t vi vt vm=some true:=by
  intro e he h9 q1;have q4:a9w M big name sport st ss ls ts=some (.inl e):=by
   unfold a9w b45;rw [q1];rfl
  have q5:=b5n (N:=M) (name:=name) (sport:=sport) (start:=st) hN ha;unfold e7k e8p;rw [q4];simp only [a0i,a2x,a2y,f6B,he,q5,f6G,getD_some];rcases h9 with h9|h9
  ·rw [←h9,he];rfl
  ·rw [h9]
   cases c5F name sport st ss ls ts !=0<;>rfl
 cases hc:c5F name sport st ss ls ts !=0 with
 |true=>
  refine bad _ hc (.inl rfl) ?_;unfold e0M e6q;rw [b5n hN ha];dsimp only [a0i,Option.isSome_some,_root_.cond_true,getD_some]
  rw [hc];rfl
 |false=>
 have hz:c5F name sport st ss ls ts=0:=by simpa using hc
 by_cases hw:IntKind.wrap .i64 (st+a4d ss)>4294967294
 ·refine bad 9 rfl (.inr rfl) ?_
  unfold e0M e6q;rw [b5n hN ha,hz,b96 ha.s];dsimp only [a0i,Option.isSome_some,_root_.cond_true,getD_some]
  rw [decide_eq_true hw];rfl
 ·have hg:=e7V hz hw hs hl ht
  obtain ⟨b,q1⟩:=c5V (N:=M) (big:=big) hN hg.filOk ha hz hw;have hT:=f3l (big:=big) hg false;have hmany:=c8a (big:=big) hg;have main:∀X:List D,(∀a,Seg st a X [] [] [])→X.length≤2→(a0C X).length≤1000→(∀x∈X,c5R x)→tl3 M name sport st ss ls ts k n t vi vt vm (a50 false name sport st ss ls ts big++X)=some true:=by
   intro X hX h2 h3 h4;have hwr:=d1j (big:=big) hg hX h2 h3;refine d8z hN ha (fun x hx=> ?_) hwr (e2K hg hz hX (by rw [f6N];omega)) ?_ k n t vi vm hv
   ·rcases List.mem_append.1 hx with hx|hx
    ·exact hT x hx
    ·exact h4 x hx
   ·unfold a3e at hwr
    rw [b0N hg hX (by rw [f6N];omega)] at hwr
    apply Decidable.byContradiction;intro hcon;rw [decide_eq_true (show ((a2j (a50 false name sport st ss ls ts big++X)).length:Int)>4000000 by omega)] at hwr
    exact absurd (show (3:Int)=0 from hwr) (by decide)
  have q4:a9w M big name sport st ss ls ts=some (.inr (.inl (b,a50 false name sport st ss ls ts big)))∨a9w M big name sport st ss ls ts=some (.inr (.inr (b,a50 false name sport st ss ls ts big))):=by
   rcases q1 with q1|q1
   ·left
    unfold a9w b45;rw [q1];rfl
   ·right
    unfold a9w b45;rw [q1];rfl
  have hX:(∃X:List D,(∀a,Seg st a X [] [] [])∧X.length≤2∧(a0C X).length≤1000∧(∀x∈X,c5R x)∧a3L M big u (bif decide ((u.length:Int)>0) then decide ((u.length:Int)≤255) else false) (a50 false name sport st ss ls ts big)=some (.inl (a50 false name sport st ss ls ts big++X)))∨a3L M big u (bif decide ((u.length:Int)>0) then decide ((u.length:Int)≤255) else false) (a50 false name sport st ss ls ts big)=some (.inr ()):=by
   by_cases h0:(u.length:Int)>0
   ·by_cases h1:(u.length:Int)≤255
    ·left
     refine ⟨e8v big u,fun a=>e8b (by omega) (by omega),Nat.le_refl _,e2L (by omega),f5n (by omega),?_⟩
     unfold a3L a7w;rw [decide_eq_true h0,decide_eq_true h1,show Nat.ble u.length a0d=true from (by rw [Nat.ble_eq];unfold a0d;omega),show (decide (((a50 false name sport st ss ls ts big).length+2)*72≤a0L)&&decide (((a50 false name sport st ss ls ts big).length+2)≤a0d))=true from c0q (by omega)]
     rfl
    ·right
     unfold a3L a7w;rw [decide_eq_true h0,decide_eq_false h1];rfl
   ·right
    unfold a3L a7w;rw [decide_eq_false h0];rfl
  have fin:(bnd (a3L M big u (bif decide ((u.length:Int)>0) then decide ((u.length:Int)≤255) else false) (a50 false name sport st ss ls ts big)) fun z=>bif a0O z then tl3 M name sport st ss ls ts k n t vi vt vm (a01 z) else bif (a0l z).isSome then tl3 M name sport st ss ls ts k n t vi vt vm (a50 false name sport st ss ls ts big) else none)=some true:=by
   rcases hX with ⟨X,x1,x2,x3,x4,x5⟩|x5
   ·rw [x5]
    simp only [a0i,a2x,a2y,f6B];exact main X x1 x2 x3 x4
   ·rw [x5]
    simp only [a0i,a1V,a1W,f6C,f6G,f6B];have:=main [] (fun a=>Seg.nil) (by simp) (by simp [a0C]) (by simp)
    rw [List.append_nil] at this;exact this
  generalize a50 false name sport st ss ls ts big=es at q4 fin;unfold e7k e8p;rcases q4 with q4|q4
  ·rw [q4]
   exact Eq.trans (by kernel_rfl) fin
  ·rw [q4]
   exact Eq.trans (by kernel_rfl) fin
end Go.Proofs.YtiegikkpipdleaaGreatDoor
namespace Go.Proofs.YtiegikkpipdleaaGreatDoor
open Go Go.AM
theorem e8e:kinds Tryz.prog 28=[.int .i64,.int .i64,.int .i64,.str,.bool]:=by kernel_rfl
theorem f6j:a0g Tryz.prog 9=false:=by kernel_rfl
theorem c51 {m:Nat} {k:IntKind} {d:D} (h:TyK Tryz.prog m (.int k) d):∃i,d= .i i:=by
 cases m with
 |zero=>exact h.elim
 |succ m=>obtain ⟨i,h1,_⟩:=h;exact ⟨i,h1⟩
theorem f3t {m:Nat} {d:D} (h:TyK Tryz.prog m .str d):∃s,d= .s s∧s.length≤maxLen:=by
 cases m with
 |zero=>exact h.elim
 |succ m=>exact h
theorem sl1 {m:Nat} {e:TypeId} {d:D} (h:TyK Tryz.prog m (.sl e) d):∃nl xs,d= .l nl xs∧xs.length≤maxLen∧(nl=true→xs=[])∧ ∀x∈xs,∃m',c1s Tryz.prog (TyK Tryz.prog m') e x:=by
 cases m with
 |zero=>exact h.elim
 |succ m=>obtain ⟨nl,xs,h1,h0,h2,h3⟩:=h;exact ⟨nl,xs,h1,h2,h0,fun x hx=>⟨m,h3 x hx⟩⟩
theorem f3u {m:Nat} {d:D} (h:TyK Tryz.prog m .bool d):∃b,d= .b b:=by
 cases m with
 |zero=>exact h.elim
 |succ m=>exact h
theorem f6k {m:Nat} {x:D} (h:c1s Tryz.prog (TyK Tryz.prog m) 70 x):f3Q x:=by
 unfold c1s at h;rw [if_pos (show a0g Tryz.prog 70=true by kernel_rfl),e7X] at h
 obtain ⟨cs,rfl,hc⟩:=h;obtain ⟨_,_,rfl,h0,hc⟩:=a0H hc;obtain ⟨_,_,rfl,h1,hc⟩:=a0H hc;obtain ⟨_,_,rfl,h2,hc⟩:=a0H hc;obtain ⟨_,_,rfl,h3,hc⟩:=a0H hc;obtain ⟨_,_,rfl,h4,hc⟩:=a0H hc;obtain ⟨_,_,rfl,h5,hc⟩:=a0H hc;obtain ⟨_,_,rfl,h6,hc⟩:=a0H hc;obtain rfl:=a4P hc;obtain ⟨a,rfl⟩:=c51 h0;obtain ⟨b,rfl⟩:=c51 h1;obtain ⟨c,rfl⟩:=c51 h2;obtain ⟨d,rfl⟩:=c51 h3;obtain ⟨e,rfl⟩:=c51 h4;obtain ⟨f,rfl⟩:=c51 h5;obtain ⟨g,rfl⟩:=c51 h6;exact ⟨a,b,c,d,e,f,g,rfl⟩
theorem f5N {m:Nat} {x:D} (h:c1s Tryz.prog (TyK Tryz.prog m) 65 x):f3R x∧(x.cell 2).toS.length≤maxLen:=by
 unfold c1s at h;rw [if_pos (show a0g Tryz.prog 65=true by kernel_rfl),e7Y] at h
 obtain ⟨cs,rfl,hc⟩:=h;obtain ⟨_,_,rfl,h0,hc⟩:=a0H hc;obtain ⟨_,_,rfl,h1,hc⟩:=a0H hc;obtain ⟨_,_,rfl,h2,hc⟩:=a0H hc;obtain rfl:=a4P hc;obtain ⟨a,rfl⟩:=c51 h0;obtain ⟨b,rfl⟩:=c51 h1;obtain ⟨s,rfl,hs⟩:=f3t h2;exact ⟨⟨a,b,s,rfl⟩,hs⟩
theorem f5O {m:Nat} {x:D} (h:c1s Tryz.prog (TyK Tryz.prog m) 9 x):f3S x∧x.toS.length≤maxLen:=by
 unfold c1s at h;rw [if_neg (by rw [f6j];simp),e4a] at h
 obtain ⟨k,h1,h2⟩:=h;simp only [List.cons.injEq,and_true] at h1;subst h1;obtain ⟨s,rfl,hs⟩:=f3t h2;exact ⟨⟨s,rfl⟩,hs⟩
theorem f6l {m:Nat} {ds:List D} (h:a7p Tryz.prog m 26 ds):∃name sport start a smps b laps c tags,ds=[.s name,.i sport,.i start,.l a smps,.l b laps,.l c tags]∧d0W name smps laps tags∧(∀s∈smps,f3Q s)∧(∀l∈laps,f3R l)∧(∀t∈tags,f3S t):=by
 unfold a7p at h;rw [e7W] at h;obtain ⟨_,_,rfl,h0,h⟩:=a0H h;obtain ⟨_,_,rfl,h1,h⟩:=a0H h;obtain ⟨_,_,rfl,h2,h⟩:=a0H h;obtain ⟨_,_,rfl,h3,h⟩:=a0H h;obtain ⟨_,_,rfl,h4,h⟩:=a0H h;obtain ⟨_,_,rfl,h5,h⟩:=a0H h;obtain rfl:=a4P h;obtain ⟨name,rfl,hn⟩:=f3t h0;obtain ⟨sport,rfl⟩:=c51 h1;obtain ⟨start,rfl⟩:=c51 h2;obtain ⟨a,smps,rfl,l1,_,e1⟩:=sl1 h3;obtain ⟨b,laps,rfl,l2,_,e2⟩:=sl1 h4;obtain ⟨c,tags,rfl,l3,_,e3⟩:=sl1 h5
 exact ⟨name,sport,start,a,smps,b,laps,c,tags,rfl,⟨hn,l1,l2,l3,fun x hx=>by obtain ⟨_,q⟩:=e2 x hx;exact (f5N q).2,fun x hx=>by obtain ⟨_,q⟩:=e3 x hx;exact (f5O q).2⟩,fun x hx=>by obtain ⟨_,q⟩:=e1 x hx;exact f6k q,fun x hx=>by obtain ⟨_,q⟩:=e2 x hx;exact (f5N q).1,fun x hx=>by obtain ⟨_,q⟩:=e3 x hx;exact (f5O q).1⟩
theorem f6m {m:Nat} {ds:List D} (h:a7p Tryz.prog m 4 ds):∃b,ds=[.b b]:=by
 unfold a7p at h;rw [f3m] at h;obtain ⟨_,_,rfl,h0,h⟩:=a0H h;obtain rfl:=a4P h;obtain ⟨b,rfl⟩:=f3u h0;exact ⟨b,rfl⟩
theorem f6n {m:Nat} {ds:List D} (h:a7p Tryz.prog m 9 ds):∃s,ds=[.s s]∧s.length≤maxLen:=by
 unfold a7p at h;rw [e4a] at h;obtain ⟨_,_,rfl,h0,h⟩:=a0H h;obtain rfl:=a4P h;obtain ⟨s,rfl,hs⟩:=f3t h0;exact ⟨s,rfl,hs⟩
theorem f6o {m:Nat} {ds:List D} (h:a7p Tryz.prog m 3 ds):∃n,ds=[.i n]:=by
 unfold a7p at h;rw [e7A] at h;obtain ⟨_,_,rfl,h0,h⟩:=a0H h;obtain rfl:=a4P h;obtain ⟨n,rfl⟩:=c51 h0;exact ⟨n,rfl⟩
theorem e8m {m:Nat} {ds:List D} (h:a7p Tryz.prog m 28 ds):∃n t vi vt vm,ds=[.i n,.i t,.i vi,.s vt,.b vm]∧vt.length≤maxLen:=by
 unfold a7p at h;rw [e8e] at h;obtain ⟨_,_,rfl,h0,h⟩:=a0H h;obtain ⟨_,_,rfl,h1,h⟩:=a0H h;obtain ⟨_,_,rfl,h2,h⟩:=a0H h;obtain ⟨_,_,rfl,h3,h⟩:=a0H h;obtain ⟨_,_,rfl,h4,h⟩:=a0H h;obtain rfl:=a4P h;obtain ⟨n,rfl⟩:=c51 h0;obtain ⟨t,rfl⟩:=c51 h1;obtain ⟨vi,rfl⟩:=c51 h2;obtain ⟨vt,rfl,hs⟩:=f3t h3;obtain ⟨vm,rfl⟩:=f3u h4;exact ⟨n,t,vi,vt,vm,rfl,hs⟩
theorem e8f (m:Nat) (dss:List (List D)) (h:All2 (a7p Tryz.prog m) Tryz.f3.params.toList dss):a13 Tryz.prog 3 (d9g Tryz.prog Tryz.f3.params.toList dss) [] ([.c (.b true)],[]):=by
 have hp:Tryz.f3.params.toList=[26,4,9,3,28]:=by kernel_rfl
 rw [hp] at h⊢;match dss,h with
 | [d0,d1,d2,d3,d4],⟨h0,h1,h2,h3,h4,_⟩=>
  obtain ⟨name,sport,st,a,ss,b,ls,c,ts,rfl,ha,hs,hl,ht⟩:=f6l h0;obtain ⟨big,rfl⟩:=f6m h1;obtain ⟨u,rfl,hu⟩:=f6n h2;obtain ⟨k,rfl⟩:=f6o h3;obtain ⟨n,t,vi,vt,vm,rfl,hv⟩:=e8m h4;refine f4X 18446744073709551616 _ _ (f4W 18446744073709551616 [.s name,.i sport,.i st,.b a,.l ss,.b b,.l ls,.b c,.l ts,.b big,.s u,.i k,.i n,.i t,.i vi,.s vt,.b vm]) (by kernel_rfl) _ ?_
  have e:f4W 18446744073709551616 [.s name,.i sport,.i st,.b a,.l ss,.b b,.l ls,.b c,.l ts,.b big,.s u,.i k,.i n,.i t,.i vi,.s vt,.b vm]=bnd (e7k 18446744073709551616 name sport st ss ls ts big u k n t vi vt vm) fun q=>[(q.isSome,([.c (.b (q.getD default))],[]))]:=by kernel_rfl
  rw [e,f6i (by decide) ha hs hl ht big hu k n t vi vm hv]
  rfl
theorem Tryz.own:ownKnob Tryz.prog.godebug=none:=by kernel_rfl
theorem Tryz.laidOut:laidOutB Tryz.prog=true:=by kernel_rfl
theorem f3v {H:Type}:b6y (Rows.uptoBulk:DataW H→Nat) Rows.uptoBulkAll:=by
 refine ⟨fun l=> ?_,fun l=> ?_,?_,fun e s=> ?_,fun p=> ?_,?_,fun d r=> ?_⟩
 ·cases l<;>simp [Rows.uptoBulk]
 ·simp [Rows.uptoBulk]
 ·simp [Rows.uptoBulk]
 ·simp only [Rows.uptoBulk];omega
 ·simp [Rows.uptoBulk]
 ·simp [Rows.uptoBulkAll]
 ·simp [Rows.uptoBulkAll]
theorem g0:Tryz.prog.globalNamed "internal/bytealg.MaxLen" =some 0:=by kernel_rfl
theorem g1:Tryz.prog.globalNamed "internal/strconv.uint64pow10" =some 3:=by kernel_rfl
theorem g2:Tryz.prog.globalNamed "strconv.ErrSyntax" =some 1:=by kernel_rfl
theorem g3:Tryz.prog.globalNamed "strconv.ErrRange" =some 2:=by kernel_rfl
theorem giW {W:World} (hs:W.ShapedOpen Tryz.prog) (hl:laidMetH Tryz.prog Rows.topFilesKeepAllRow.laid W) {M:a0D} (hM:∀b o,¬M b o):GI Tryz.prog M W:=by
 have hl:laidMet Tryz.prog Rows.topFilesKeepAllRow.laid W:=hl;refine f4b g0 g1 g2 g3 ?_ ?_ ?_ ?_ hM
 ·exact e4J (t:=3) (zero:= #[.int .i64 0]) hs (of_decide_eq_true (by kernel_rfl)) (by kernel_rfl) rfl (by kernel_rfl) (by kernel_rfl) (by kernel_rfl)
 ·obtain ⟨ps,hv,_⟩:=hl
  obtain ⟨g,t,cs,fuel,p,q1,q2,q3,q4⟩:=b8m (x:=("internal/strconv.uint64pow10",Rows.laid_internal_strconv_uint64pow10)) hv (by simp [Rows.topFilesKeepAllRow])
  obtain rfl:=Option.some.inj ((show (Tryz.prog.globals[3]?).map (·.type)=some 215 by kernel_rfl).symm.trans (by rw [Option.some.inj (g1.symm.trans q1)];exact q2))
  have hcs:=Lib.cells_of_tab (k:= .u64) (zs:=(List.range 20).map fun i=>((10^i:Nat):Int)) (n:=20) (e:=197) (t:=215) (by kernel_rfl) (by kernel_rfl) (by kernel_rfl) (by kernel_rfl) (show DataW.trod _ _ _ _ _ _ fuel 215 cs.toList=some (Lib.tabData .u64 ((List.range 20).map fun i=>((10^i:Nat):Int)),p) from q4)
  refine e4K (k:= .u64) (zs:=(List.range 20).map fun i=>((10^i:Nat):Int)) g1 (show W.var? Tryz.prog _=_ by rw [q3,←hcs]) (by simp) fun i p z h1 h2=> ?_
  rw [List.getElem?_map] at h1 h2;obtain ⟨j,j1,rfl⟩:=Option.map_eq_some_iff.1 h1;rw [j1] at h2;simp only [f6T,f6x] at h2;subst h2;rfl
 ·exact d2D (t:=180) hl (show ("strconv.ErrSyntax",Rows.laid_strconv_ErrSyntax)∈Rows.topFilesKeepAllRow.laid by simp [Rows.topFilesKeepAllRow]) g2 (by kernel_rfl) (by kernel_rfl)
 ·exact d2D (t:=180) hl (show ("strconv.ErrRange",Rows.laid_strconv_ErrRange)∈Rows.topFilesKeepAllRow.laid by simp [Rows.topFilesKeepAllRow]) g3 (by kernel_rfl) (by kernel_rfl)
abbrev f6p:ByteArray:={data:= #[105,110,118,97,108,105,100,32,115,121,110,116,97,120]}
abbrev f6q:ByteArray:={data:= #[118,97,108,117,101,32,111,117,116,32,111,102,32,114,97,110,103,101]}
def low:Nat:=(World.holding Tryz.prog default ⟨#[], #[],[]⟩).heap.size
def e8g {H:Type}:DataW H→Array Value
 | .agg l=>(l.map fun| .lit (.int k n)=>Value.int k n|_=>undef).toArray
 |_=> #[]
def f3w (h:Array Obj) (g:Nat) (vs:Array Value):Array Obj:=h.modify g fun
 | .cells _ t fr=> .cells vs t fr
 |o=>o
def b5F (os:Os):World:=
 let w0:=World.holding Tryz.prog os ⟨#[.cells #[.string f6p] 213,.cells #[.string f6q] 213], #[],[]⟩
 { w0 with heap:=f3w (f3w (f3w (f3w (f3w w0.heap 3 (e8g (H:=Unit) Rows.laid_internal_strconv_uint64pow10)) 1 #[.iface 211 (.pointer (some ⟨low,0,none⟩))]) 2 #[.iface 211 (.pointer (some ⟨low+1,0,none⟩))])
   4 (e8g (H:=Unit) Rows.laid_math_bits_deBruijn32tab)) 5 (e8g (H:=Unit) Rows.laid_math_bits_deBruijn64tab)}
def f3T:Value:= .agg #[.string ⟨#[]⟩,.int .i64 0,.int .i64 0,.slice none 0 0,.slice none 0 0,.slice none 0 0]
def f3U:Value:= .bool false
def f3V:Value:= .string ⟨#[]⟩
def e2P:Value:= .int .i64 0
def e2Q:Value:= .agg #[.int .i64 0,.int .i64 0,.int .i64 0,.string ⟨#[]⟩,.bool false]
def f6r {H:Type}:DataW H:= .agg [.lit (.string []),.lit (.int .i64 0),.lit (.int .i64 0),.nil,.nil,.nil]
def f6s {H:Type}:DataW H:= .lit (.bool false)
def f6t {H:Type}:DataW H:= .lit (.string [])
def f6u {H:Type}:DataW H:= .lit (.int .i64 0)
def f6v {H:Type}:DataW H:= .agg [.lit (.int .i64 0),.lit (.int .i64 0),.lit (.int .i64 0),.lit (.string []),.lit (.bool false)]
theorem e2R (os:Os):laidMet Tryz.prog Rows.topFilesKeepAllRow.laid ((b5F os).forCall (fun _ _=>0) ⟨#[], #[f3T,f3U,f3V,e2P,e2Q],[]⟩).memory:=
 laidMet_of_run' 8 (by kernel_rfl) (by kernel_rfl)
theorem reads (os:Os) {H:Type} (enc:TypeId×Value→H):∃places,DataW.whole enc Tryz.prog ((b5F os).forCall (fun _ _=>0) ⟨#[], #[f3T,f3U,f3V,e2P,e2Q],[]⟩).memory Tryz.f3.params.toList Rows.topFilesKeepAllSpec.vars false #[f3T,f3U,f3V,e2P,e2Q].toList 8=some ([f6r,f6s,f6t,f6u,f6v],[],places):=
 ⟨[],by kernel_rfl⟩
theorem f3x (os:Os) (started:os.Started) (H:Type) (enc:TypeId×Value→H) (F:Stop.Interp):
  ReturnsInHanded {} Tryz.checked os 3 .any ((OpenSpec.ofChange Rows.topFilesKeepAllSpec).preRow enc Tryz.prog Tryz.f3 Rows.topFilesKeepAllRow.domain false Rows.topFilesKeepAllRow.laid) (((OpenSpec.ofChange Rows.topFilesKeepAllSpec).at F).post enc Tryz.prog Tryz.f3 false true false false):=by
 obtain ⟨places,hx⟩:=reads os enc;refine returnsInHanded_of_row (C:=Tryz.checked) (s:=OpenSpec.ofChange Rows.topFilesKeepAllSpec) Tryz.own started (by kernel_rfl) Tryz.func3
  (witness_row_at (enc:=enc) (C:=Tryz.checked) false (b5F os) #[f3T,f3U,f3V,e2P,e2Q] rfl (by kernel_rfl) (by kernel_rfl) (by kernel_rfl)
   (OpenSpec.preRow_of_cond 8 hx (by kernel_rfl) (fun k hk=>by cases hk) (by kernel_rfl) (e2R os))) ?_
 intro W base args ds gs before hval hW _ _ _ hL hsh _;exact d2C (tb:=4) f3v [70,65,9] (by kernel_rfl) Tryz.laidOut rfl (by kernel_rfl) (by kernel_rfl) (by kernel_rfl) (fun l hl=>by
  rw [show Tryz.f3.params.size=5 by kernel_rfl] at hl
  match l,hl with
  | [_,_,_,_,_],_=>rfl) (fun m dss h _=>e8f m dss h) (fun hM=>giW hsh hL hM) hval hW
theorem e4f:Tryz.pinned.checked.prog.funcNamed "harrier/harriertop.TopFilesKeepAll" =some 3:=by kernel_rfl
theorem e8h:joinedFacts Tryz.pinned.checked.prog 3 Tryz.f3 (OpenSpec.ofChange Rows.topFilesKeepAllSpec).bare Rows.topFilesKeepAllRow=true:=by
 simp only [joinedFacts,f6z]
 repeat' apply And.intro
 all_goals (as_aux_lemma=>kernel_rfl)
theorem f6w:Rows.TopFilesKeepAllSaid:=
 OpenClaim.holds_of_cond 3 Tryz.f3 rfl rfl rfl rfl rfl rfl rfl ⟨rfl,rfl,rfl,rfl,rfl⟩ rfl rfl rfl rfl rfl e4f Tryz.func3 e8h
  (of_decide_eq_true (by as_aux_lemma=>kernel_rfl)) (by unfold Func.isWrapper;first|(rw [if_pos (by decide+kernel)];kernel_rfl)|(rw [if_neg (by decide+kernel)];exact ⟨rfl,rfl⟩))
  (fun os started H enc _ F=>by rw [OpenClaim.pre_eq_preRow];exact f3x os started H enc F)
theorem f3y (f:FuncId) (fn:Func) (hf:Tryz.pinned.checked.prog.funcNamed "harrier/harriertop.TopFilesKeepAll" =some f) (hfn:Tryz.pinned.checked.prog.funcs[f]?=some fn):
  true=Tryz.pinned.checked.prog.looks []∧ ∀(j:Nat) t,fn.params[j]?=some t→Tryz.pinned.checked.prog.wantsStandIn t=false:=by
 obtain rfl:f=3:=Option.some.inj (e4f.symm.trans hf)|>.symm;obtain rfl:fn=Tryz.f3:=(Option.some.inj (Tryz.func3.symm.trans hfn)).symm;refine ⟨by as_aux_lemma=>kernel_rfl,fun j t ht=> ?_⟩
 have hp:Tryz.f3.params= #[26,4,9,3,28]:=by kernel_rfl
 rw [hp] at ht;match j,ht with
 |0,ht=>(obtain rfl:26=t:=by simpa using ht);exact (show Tryz.prog.wantsStandIn 26=false by kernel_rfl)
 |1,ht=>(obtain rfl:4=t:=by simpa using ht);exact (show Tryz.prog.wantsStandIn 4=false by kernel_rfl)
 |2,ht=>(obtain rfl:9=t:=by simpa using ht);exact (show Tryz.prog.wantsStandIn 9=false by kernel_rfl)
 |3,ht=>(obtain rfl:3=t:=by simpa using ht);exact (show Tryz.prog.wantsStandIn 3=false by kernel_rfl)
 |4,ht=>(obtain rfl:28=t:=by simpa using ht);exact (show Tryz.prog.wantsStandIn 28=false by kernel_rfl)
 |j+5,ht=>simp at ht
theorem topfiles_holds:Rows.TopFilesKeepAllCardSaid:=
 Claim7.holds_tied_plain_at .later [] _ _ _ _ f6w (fun _ h=>by cases h) (by as_aux_lemma=>kernel_rfl) (fun _ h=>by cases h) topFilesKeepAll_row_tie rfl ⟨rfl,rfl⟩ (by as_aux_lemma=>kernel_rfl) rfl f3y (by as_aux_lemma=>kernel_rfl)
end Go.Proofs.YtiegikkpipdleaaGreatDoor
end
