/- The statement of a range over a function, by the machine. -/
import Derived.Test.YtcdhfpkfmekabaaGreatDoorAm3
import Derived.OrdersIn
set_option linter.all false
set_option maxRecDepth 100000
set_option maxHeartbeats 4000000
noncomputable section
namespace Go.AM
open Go
structure a1y where
 ps:List Nat
 ca:Code
 cb:Code
 tm:List (Nat×V)
 ky:Nat
 d:Nat
 hs:a6Y:={}
def tmB (n:Nat):V→Bool
 | .c (.p i _)=>Nat.blt i n
 | .c (.i _ _)=>true
 | .c (.b _)=>true
 | .c (.k _)=>true
 | .c (.s _)=>true
 |_=>false
def d5v (F:Nat→Prop) (e0:Env):V→Value→Prop
 | .c (.p k o),v=>F k∧v= .pointer (some ⟨(e0 k).blk,(e0 k).base+o,none⟩)
 | .c (.i k n),v=>v= .int k n
 | .c (.b x),v=>v= .bool x
 | .c (.k x),v=>v= .bool x
 | .c (.s l),v=>v= .string ⟨l.toArray⟩
 |_,_=>False
def b8j (Y:a1y):Ctx:=fun _ _ F _ M0 w0 e0=>F Y.ky∧(∀o,¬M0 (e0 Y.ky).blk o)∧ ∃rc:Loop,w0.heap[(e0 Y.ky).blk]? =some (.loop rc)∧rc.state= .ready∧rc.pending=none∧rc.params=Y.ps.toArray∧rc.assign=Y.ca∧
 rc.body=Y.cb∧okC rc.tmps.size rc.assign=true∧okC rc.tmps.size rc.body=true∧(∀p∈Y.ps,p<rc.tmps.size)∧ ∀t∈Y.tm,d5v F e0 t.2 (rc.tmps.getD t.1 undef)
def b3T (P:Program) (kb:Nat) (Y:a1y):Prop:=a0C Y.ca=true∧a0C Y.cb=true∧ ∀b∈a0K Y.ca++a0K Y.cb,b44 P Y.hs kb b c2J a4O
def e0s (st:St):Bool:=st.tmps.all fun x=>match x.2 with| .w .. =>false|_=>true
def b6D (P:Program) (kb:Nat) (o:Oper) (st:St):Bool:=(st.tmps.all fun x=>a2D P kb o (a5z x.2))&&st.mem.all fun x=> !a0v P kb o x.1&&a2D P kb o (a1g x.2)
def c1e (st:St) (o:Oper):Option (Nat×List Operand):=
 match o.op with
 | .call c=>(match c.callee with
  | .value f=>(match evu st f with
   | .c (.y key)=>some (key,c.args.toList)
   |_=>none)
  |_=>none)
 |_=>none
def c1f:List Nat→List V→AL V→AL V
 |p::ps,v::vs,tm=>c1f ps vs (set tm p v)
 |_,_,tm=>tm
def d4h:List (Nat×V)→List Nat
 | []=>[]
 |(_,x)::r=>a6h x++d4h r
def e5i (P:Program) (kb:Nat) (o:Oper) (ks:List Nat) (mem:AL Obj):Bool:=mem.all fun x=>(b0d x.1 ks||a0v P kb o x.1)&&(a1g x.2).all fun k=>b0d k ks||a0v P kb o k
def d4i {R:Type} (P:Program) (cl:a0i) (kb:Nat) (Y:a1y) (st:St) (k:St→Option R):Option R:=
 a32 P cl Y.hs kb 200 Y.ca st fun e s1=>match e with
  | .normal=>bif e0s s1 then a32 P cl Y.hs kb 200 Y.cb s1 (fun e s2=>match e with
   | .normal=>k s2
   |_=>none) else none
  |_=>none
def c7c {R:Type} (P:Program) (cl:a0i) (kb:Nat) (Y:a1y) (key:Nat) (o:Oper) (xs:List Operand) (st:St) (k:St→Option R):Option R:=
 match o.dst,o.guard with
 | some d,none=>bif Nat.beq key Y.ky&&(Nat.beq d Y.d||Y.hs.los.isEmpty)&&Nat.beq xs.length Y.ps.length&&e0s st&&b6D P kb o st then (match b3d st.mem true 1000 (d4h Y.tm++xs.flatMap fun x=>a6h (evu st x)) [] with
  |none=>none
  | some ks=>bif ks.all (fun i=>Nat.blt i (a0O kb o.dst)) then d4i P cl (a0O kb o.dst) Y ⟨c1f Y.ps (xs.map (evu st)) Y.tm,a13 st.mem ks⟩ fun s2=>
    bif a2V s2.mem&&e5i P kb o ks s2.mem then k (a2n P kb o ks st ⟨[(d,.c (.k true))],s2.mem⟩) else none
   else none) else none
 |_,_=>none
def a3F {R:Type} (P:Program) (cl:a0i) (kb:Nat) (Y:a1y) (ops:List Oper):List Oper→St→(St→Option R)→Option R
 | [],st,k=>k {st with tmps:=b8m b4T st.tmps}
 |o::rest,st,k=>match c1e st o with
  |some q=>c7c P cl kb Y q.1 o q.2 st fun st'=>a3F P cl kb Y ops rest st' k
  |none=>b0g P cl kb ops o st fun st'=>a3F P cl kb Y ops rest st' k
def a5b:List Oper→Nat
 | []=>0
 |o::r=>match o.op with
  | .call c=>(match c.callee with| .value _=>0|_=>a5b r+1)
  |_=>a5b r+1
def c7d (ops:List Oper) (n:Nat):Bool:=(List.range ops.length).all fun j=>Nat.blt j n||(List.range j).all fun i=>b0d i ((a4V ops []).getD j [])
def b6E {R:Type} (P:Program) (cl:a0i) (kb:Nat) (Y:a1y) (ops:List Oper) (st:St) (k:St→Option R):Option R:=
 bif a6W P kb ops&&c7d ops (a5b ops) then a5y P cl kb ops (a31 ops ops) (ops.take (a5b ops)) (a4W (a6X P kb ops) st) [] fun st recs=>
  bif c4N P kb ops recs then a3F P cl kb Y ops (ops.drop (a5b ops)) st k else none
 else none
def c7e {R:Type} (P:Program) (cl:a0i) (kb:Nat) (Y:a1y) (c:Code) (st:St) (k:Ex→St→Option R):Option R:=
 match c with
 | .region _ ops false=>a3F P cl kb Y ops.toList ops.toList st (k .normal)
 | .region _ ops true=>b6E P cl kb Y ops.toList st (k .normal)
 |_=>none
theorem c7f {st:St} (h:e0s st=true):NoW st:=by
 intro t x hx s b y he;subst he;have:=List.all_eq_true.1 h _ (a4g hx);cases this
theorem c5e {P:Program} {kb:Nat} {o:Oper} {st:St} (h:b6D P kb o st=true):b1m P kb o st:=by
 unfold b6D at h;rw [e57] at h;refine ⟨fun t x hx k hk=>a1T (List.all_eq_true.1 h.1 _ (a4g hx)) k hk,fun k ob hg=> ?_⟩
 have:=List.all_eq_true.1 h.2 _ (a4g hg);rw [e57,Bool.not_eq_true'] at this;exact ⟨this.1,a1T this.2⟩
theorem c2Q {R:V→Value→Prop}:∀{ps:List Nat} {vs:List V} {us:List Value} {tm:AL V} {ts:Array Value},All2 R vs us→(∀p∈ps,p<ts.size)→ps.length=vs.length→(∀t y,get tm t=some y→R y (ts.getD t undef))→
  ∀t y,get (c1f ps vs tm) t=some y→R y (((ps.zip us).foldl (fun ts p=>ts.setIfInBounds p.1 p.2) ts).getD t undef)
 | [],vs,us,tm,ts,_,_,_,h,t,y,hy=>by simpa [c1f] using h t y (by simpa [c1f] using hy)
 |p::ps,[],_,_,_,_,_,hl,_,_,_,_=>by simp at hl
 |p::ps,v::vs,[],_,_,hr,_,_,_,_,_,_=>hr.elim
 | p::ps,v::vs,u::us,tm,ts,hr,hp,hl,h,t,y,hy=>by
  refine c2Q (ps:=ps) (vs:=vs) (us:=us) (tm:=set tm p v) (ts:=ts.setIfInBounds p u) hr.2 (fun q hq=>by simpa using hp q (by simp [hq])) (by simpa using hl) (fun t' y' hy'=> ?_) t y hy
  rw [a1Q] at hy';rw [e6i,Array.getElem?_setIfInBounds];by_cases ht:t'=p
  ·subst ht
   rw [if_pos rfl] at hy';cases hy';rw [if_pos rfl,if_pos (hp t' (by simp))]
   exact hr.1
  ·rw [if_neg ht] at hy'
   rw [if_neg (Ne.symm ht),←e6i];exact h t' y' hy'
theorem c7g {us:List (Nat×Value)}:∀{ts:Array Value},(us.foldl (fun ts p=>ts.setIfInBounds p.1 p.2) ts).size=ts.size:=by
 induction us with
 |nil=>intro ts;rfl
 |cons p us ih=>intro ts;rw [List.foldl_cons,ih];simp
section
variable {P:Program} {N n0 kb n:Nat} {F:Nat→Prop} {B M0:a0A} {w0:World} {e0:a6l} {env:Env} {st:St} {a:Act} {w:World} {Fe:Fence}
theorem Rel.reenv {mem:AL Obj} {F':Nat→Prop} {e:Env} {D:List Deferred} (h:Rel P N n0 B M0 w0 F ⟨e,D⟩ env ⟨[],mem⟩ a w)
  (hk:∀k o,get mem k=some o→(F' k→F k)∧ ∀k'∈a1g o,F' k'→F k'):∃env2,Rel P N n0 B M0 w0 F' ⟨e,D⟩ env2 ⟨[],mem⟩ a w:=by
 classical
 obtain ⟨env2,he2⟩:∃env2:Env,env2=fun k=>if F' k then e k else env k:=⟨_,rfl⟩
 have same:∀k,(F' k→F k)→env2 k=env k:=by
  intro k hk;rw [he2];by_cases hf:F' k
  ·simp only [hf,if_true];exact (h.fx k (hk hf)).symm
  ·simp only [hf,if_false]
 have hS:Sof P B M0 n0 env2 mem w=Sof P B M0 n0 env mem w:=by
  funext b o
  refine propext ⟨fun q=>⟨q.1,q.2.1,fun key ob hg hm=>q.2.2 key ob hg ?_⟩,fun q=>⟨q.1,q.2.1,fun key ob hg hm=>q.2.2 key ob hg ?_⟩⟩
  ·rw [same key (hk key ob hg).1];exact hm
  ·rw [same key (hk key ob hg).1] at hm;exact hm
 have hfx:∀k,F' k→env2 k=e k:=fun k hf=>by rw [he2];simp only [hf,if_true]
 have htm0:∀t x,get (([]:AL V)) t=some x→a0l P env2 (Sof P B M0 n0 env2 mem w) w a x (a.tmps.getD t undef):=fun t x hx=>by cases hx
 refine ⟨env2,h.size,h.dfr,h.hn0,htm0,fun key o hg=> ?_,fun k k' o o' hg hg'=> ?_,fun key o b x hg hm=> ?_,fun key e' ex xs hg=> ?_,h.ch,h.bb,hfx,h.gi⟩
 ·rw [same key (hk key o hg).1]
  refine b3O (S:=Sof P B M0 n0 env mem w) (w:=w) (env:=env) ?_ (fun k hkk=>same k ((hk key o hg).2 k hkk)) (fun _=>rfl) (h.ob key o hg)
  show a0y w (Sof P B M0 n0 env mem w) w (Sof P B M0 n0 env2 mem w);rw [hS];exact fun _ _ _ a b=>⟨a,b⟩
 ·rw [same k (hk k o hg).1,same k' (hk k' o' hg').1];exact h.ds k k' o o' hg hg'
 ·rw [same key (hk key o hg).1] at hm;exact h.mu key o b x hg hm
 ·rw [same key (hk key _ hg).1];exact h.pr key e' ex xs hg
theorem a6H {w:World} {b:Nat} {o:Go.Obj}:w.grownBy (w.putObj b o) (some b):=
 ⟨rfl,rfl,rfl,by simp,fun k hk hne=>World.putObj_heap_other (fun e=>hne (by rw [e]))⟩
theorem d0v {R:Type} {cl:a0i} (hcl:a0m P cl) (hdr:a1k P cl) {l f n1 n2:Nat} {hs:a6Y} {rc:Loop} {ca cb:Code} {tmps2:Array Value} {tmX:AL V} {memX:AL Obj} {K:St→Option R} {r:R} {e1:Env}
  (hrec:w.heap[l]? =some (.loop rc)) (hst:rc.state= .ready) (hpe:rc.pending=none)
  (hX:Rel P tmps2.size w.heap.size B M0 w F ⟨e1,[]⟩ e1 ⟨tmX,memX⟩ {tmps:=tmps2,defers:=[]} w) (hM:∀o,¬M0 l o) (hF:∀k,F k→k<kb)
  (hoka:okC tmps2.size ca=true) (hokb:okC tmps2.size cb=true) (hda:a0C ca=true) (hdb:a0C cb=true) (hla:∀b∈a0K ca,b44 P hs kb b c2J a4O) (hlb:∀b∈a0K cb,b44 P hs kb b c2J a4O)
  (hrun:a32 P cl hs kb n1 ca ⟨tmX,memX⟩ (fun e s1=>match e with
   | .normal=>bif e0s s1 then a32 P cl hs kb n2 cb s1 (fun e s2=>match e with
    | .normal=>K s2
    |_=>none) else none
   |_=>none)=some r):
  RoundIn Fence.wide n P l f tmps2 ca cb w fun e w'=>e= .returned (.bool true)∧ ∃env' out a',Rel P tmps2.size w.heap.size B M0 w F ⟨e1,[]⟩ env' out a' w'∧K out=some r∧w'.heap[l]? =some (.loop rc):=by
 refine roundIn_of_wpIn trivial (wpIn_mono (a44 (X:=c2J) trivial hcl hdr hF n1 hoka (fsA hda) hla hX hrun _ _ (.inr ⟨l,rfl⟩)) ?_);intro e a1 w1 hp;cases e with
 |exit i=>obtain ⟨_,_,_,h4⟩:=hp;cases h4
 |ret=>obtain ⟨_,_,_,h4⟩:=hp;cases h4
 |goto=>exact hp.elim
 |panic=>exact hp.elim
 |outgrown=>exact hp.elim
 |normal=>
 obtain ⟨env1,st1,hA,hk1⟩:=hp;simp only at hk1;cases hnA:e0s st1 with
 |false=>rw [hnA] at hk1;cases hk1
 |true=>
 rw [hnA] at hk1;simp only [AM.cond_true rfl] at hk1;have hr1:w1.heap[l]? =some (.loop rc):=hA.ch.other l _ hrec hM;refine ⟨_,run_beginRound hr1 hst,?_⟩;have hlt:l<w1.heap.size:=(e6f.1 hr1).1;have hoff:=Off.other hA hr1 (fun _ _ _ e=>by cases e) (fun _ _ e=>by cases e)
 have hG:=(hA.grow l hrec).alienM (a6H (b:=l) (o:= .loop {rc with state:= .busy})) ((hA.grow l hrec).dfr.grown a6H (fun r e d q=>by cases e;rw [hr1] at q;cases q)) (fun r e=>by cases e;exact ⟨.inr fun _=> .inr rfl,(fun c T f e=>by rw [hr1] at e;cases e),hoff⟩)
 have hr2:=World.putObj_heap_same (w:=w1) (r:=l) (o:= .loop {rc with state:= .busy}) hlt
 generalize w1.putObj l (.loop {rc with state:= .busy})=w2 at hG hr2
 have hb:=b12 hG (c7f hnA) (m:=st1) (fun _ _ e=>e) (fun _ _ e=>e) F
 refine wpIn_mono (a44 (X:=c2J) trivial hcl hdr hF n2 hokb (fsA hdb) hlb hb hk1 _ _ (.inr ⟨l,rfl⟩)) ?_;intro e a3 w3 hp;cases e with
 |exit i=>obtain ⟨_,_,_,h4⟩:=hp;cases h4
 |ret=>obtain ⟨_,_,_,h4⟩:=hp;cases h4
 |goto=>exact hp.elim
 |panic=>exact hp.elim
 |outgrown=>exact hp.elim
 |normal=>
 obtain ⟨env3,st3,hC,hk3⟩:=hp;simp only at hk3;have hr3:w3.heap[l]? =some (.loop {rc with state:= .busy}):=hC.ch.other l _ hr2 fun o ⟨k,ob,g,q⟩=>by
  obtain ⟨q1,q2⟩:=a1H q;exact hoff k ob g q1 q2.symm
 have hU:=Rel.unbase hG (fun k hk=>hk) hC
 have hlt3:l<w3.heap.size:=(e6f.1 hr3).1;have hoff3:=Off.other hU hr3 (fun _ _ _ e=>by cases e) (fun _ _ e=>by cases e)
 have hre:(Instr.endRound l none).run P w3= .ok (.bool true) (w3.putObj l (.loop rc)):=by
  refine (run_endRound (P:=P) none hr3).trans ?_;cases rc;simp only at hst hpe;subst hst hpe;rfl
 refine ⟨_,_,hre,rfl,env3,st3,a3,?_,hk3,?_⟩
 ·have hE:=hU.alienM (a6H (b:=l) (o:= .loop rc)) (hU.dfr.grown a6H (fun r e d q=>by cases e;rw [hr3] at q;cases q)) (fun r e=>by cases e;exact ⟨.inr fun _=> .inr rfl,(fun c T f e=>by rw [hr3] at e;cases e),hoff3⟩)
  exact hE.shrink (rc:=rc) (World.putObj_heap_same hlt3) hrec
 ·exact World.putObj_heap_same hlt3
theorem c7h {o:Oper} {c:Call} {fv:Operand} {ps:List Nat} {l:Nat} {rc:Loop} (ho:o.op= .call c) (hc:c.callee= .value fv) (hv:a.eval fv= .func (.yield l) #[] #[]) (hrec:w.heap[l]? =some (.loop rc)) (hp:rc.params=ps.toArray) (hlen:c.args.toList.length=ps.length):
  (execOp a.eval o).run P w= .ok (.round l rc.fn ((ps.zip (c.args.toList.map a.eval)).foldl (fun ts p=>ts.setIfInBounds p.1 p.2) rc.tmps) rc.assign rc.body) w:=by
 obtain ⟨xs,hxs⟩:∃xs,xs=c.args.toList:=⟨_,rfl⟩;have ha:c.args=xs.toArray:=by rw [hxs]
 rw [←hxs] at hlen⊢;have hy:=run_yield (P:=P) (args:=(xs.map a.eval).toArray) hrec (by rw [hp];simp [hlen])
 rw [hp] at hy;simp only [execOp,ho,resolve,hc,ha,Deferred.ofValue,hv,e6b,e6c,e58,invoke];rw [show #[]++Array.map a.eval xs.toArray=(xs.map a.eval).toArray by simp,hy]
 simp
theorem e0X {S:a0A} {F':Nat→Prop} (hf:∀k,F' k→env k=e0 k) {x:V} {v:Value} (h:d5v F' e0 x v):a0s P env S w x v:=by
 match x,h with
 | .c (.p k o),h=>show v=_;rw [hf k h.1];exact h.2
 | .c (.i k n),h=>exact h
 | .c (.b x),h=>exact h
 | .c (.k x),h=>exact h
 | .c (.s l),h=>exact h
theorem b1w {R:Type} {cl:a0i} (hcl:a0m P cl) (hdr:a1k P cl) {Y:a1y} (hY:b3T P (a0O kb (some Y.d)) Y) {o:Oper} {xs:List Operand} {key:Nat} {k:St→Option R} {r:R} {Q:Exit→Act→World→Prop} (hF:∀k,F k→k<kb) (hX:b8j Y N n0 F B M0 w0 e0)
  (h:Rel P N n0 B M0 w0 F e0 env st a w) (hd:∀d,o.dst=some d→d<N) (ho:c1e st o=some (key,xs)) (hk:c7c P cl kb Y key o xs st k=some r):o.guard=none∧o.wpIn Fence.wide n P a w (a0P P N n0 B M0 w0 F e0 k r) Q:=by
 unfold c7c at hk;split at hk
 case h_2=>cases hk
 rename_i d hdst hgd;refine ⟨hgd,?_⟩;cases hc0:Nat.beq key Y.ky&&(Nat.beq d Y.d||Y.hs.los.isEmpty)&&Nat.beq xs.length Y.ps.length&&e0s st&&b6D P kb o st with
 |false=>rw [hc0] at hk;cases hk
 |true=>
 rw [hc0] at hk;simp only [e57] at hc0;obtain ⟨⟨⟨⟨hkey,hdY⟩,hxl⟩,hnw⟩,hcl0⟩:=hc0;have hkey:=e56 hkey;have hY:b3T P (a0O kb (some d)) Y:=by
  rw [Bool.or_eq_true] at hdY;rcases hdY with q|q
  ·rw [e56 q];exact hY
  ·refine ⟨hY.1,hY.2.1,fun b _ id f hl=> ?_⟩
   unfold a8M at hl;split at hl
   ·cases hl
   ·rw [List.isEmpty_iff.1 q] at hl
    cases hl
 have hxl:=e56 hxl;subst hkey;have hn:=c7f hnw;have hc:=c5e hcl0;simp only [AM.cond_true rfl] at hk;split at hk
 ·cases hk
 rename_i ks hks;cases hlow:ks.all (fun i=>Nat.blt i (a0O kb o.dst)) with
 |false=>rw [hlow] at hk;cases hk
 |true=>
 rw [hlow] at hk;simp only [AM.cond_true rfl] at hk
 -- the operation
 unfold c1e at ho;split at ho
 case h_2=>cases ho
 rename_i c hop;split at ho
 case h_2=>cases ho
 rename_i fv hcc;split at ho
 case h_2=>cases ho
 rename_i key' hev;simp only [e55,e6q] at ho;obtain ⟨rfl,rfl⟩:=ho;have hval:a1P P o=false:=by unfold a1P;rw [hop];simp only;rw [hcc]
 have hent:a0F o=true:=by unfold a0F;rw [hop];simp only;rw [hcc]
 have hfv:a.eval fv= .func (.yield (env Y.ky).blk) #[] #[]:=by have:=h.evu fv;rw [hev] at this;exact this
 obtain ⟨hFk,hM0,rc,hrec0,hst,hpe,hp,hA,hB,hokA,hokB,hpn,htm⟩:=hX;have hek:env Y.ky=e0 Y.ky:=h.fx _ hFk;rw [hek] at hfv;have hrec:w.heap[(e0 Y.ky).blk]? =some (.loop rc):=h.ch.other _ _ hrec0 hM0;rw [hA] at hokA;rw [hB] at hokB;refine ⟨fun _ _=>trivial,?_⟩
 rw [show Fence.wide.round=none from rfl,Oper.semAt_none,c7h hop hcc hfv hrec hp hxl,Oper.uponIn_round,hA,hB];refine ⟨(fun h=>by cases h),?_⟩
 have hmX:∀k,get (a13 st.mem ks) k=if k∈ks then get st.mem k else none:=fun k=>a43
 have hsub:∀k ob,get (a13 st.mem ks) k=some ob→get st.mem k=some ob:=fun k ob hg=>by
  rw [hmX] at hg;by_cases hk:k∈ks
  ·rw [if_pos hk] at hg;exact hg
  ·rw [if_neg hk] at hg;cases hg
 have hm:=b12 h hn (m:=⟨[],a13 st.mem ks⟩) (fun t x hx=>by cases hx) hsub (fun k=>k∈ks)
 have hkp:a0y w (Sof P B M0 n0 env st.mem w) w (Sof P (Sof P B M0 n0 env st.mem w) (a3g P env (a13 st.mem ks)) w.heap.size env (a13 st.mem ks) w):=fun b o v hS hv=>
  ⟨⟨.inl hS,hS.2.1,fun key ob hg hmu=>hS.2.2 key ob (hsub key ob hg) hmu⟩,hv⟩
 have hargs:All2 (a0s P env (Sof P B M0 n0 env st.mem w) w) (c.args.toList.map (evu st)) (c.args.toList.map a.eval):= .of_get (by simp) fun j x y hx hy=>by
  rw [List.getElem?_map] at hx hy;obtain ⟨q,q1,rfl⟩:=Option.map_eq_some_iff.1 hx;rw [q1] at hy;cases hy;exact h.evu q
 have htx:∀t y,get (c1f Y.ps (c.args.toList.map (evu st)) Y.tm) t=some y→a0s P env (Sof P B M0 n0 env st.mem w) w y (((Y.ps.zip (c.args.toList.map a.eval)).foldl (fun ts p=>ts.setIfInBounds p.1 p.2) rc.tmps).getD t undef):=
  c2Q hargs hpn (by simpa using hxl.symm) fun t y hy=>e0X (fun k hf=>h.fx k hf) (htm _ (a4g hy))
 obtain ⟨ts,hts⟩:∃ts,ts=(Y.ps.zip (c.args.toList.map a.eval)).foldl (fun ts p=>ts.setIfInBounds p.1 p.2) rc.tmps:=⟨_,rfl⟩
 have hszp:ts.size=rc.tmps.size:=by rw [hts];exact c7g
 rw [←hts] at htx⊢;have hXr:=hm.act (tmps:=c1f Y.ps (c.args.toList.map (evu st)) Y.tm) (a2:={tmps:=ts,defers:=[]}) (D':=[]) .nil fun t y hy=>a0l.of (a0s.mono hkp (fun _=>rfl) (htx t y hy))
 have hlM:∀o,¬a3g P env (a13 st.mem ks) (e0 Y.ky).blk o:=fun o ⟨k,ob,g,q⟩=>by
  obtain ⟨q1,q2⟩:=a1H q;exact Off.other h hrec (fun _ _ _ e=>by cases e) (fun _ _ e=>by cases e) k ob (hsub k ob g) q1 q2.symm
 obtain ⟨hy1,hy2,hy3⟩:=hY;rw [←hdst] at hy3;unfold d4i at hk;refine (d0v (kb:=a0O kb o.dst) (n:=n-1) hcl hdr hrec hst hpe hXr hlM (fun k hk=>e6g (List.all_eq_true.1 hlow k hk)) (by rw [hszp];exact hokA) (by rw [hszp];exact hokB) hy1 hy2 (fun b hb=>hy3 b (List.mem_append.2 (.inl hb))) (fun b hb=>hy3 b (List.mem_append.2 (.inr hb))) hk).mono ?_
 rintro e w' ⟨rfl,env',out,a',hR,hk2,_⟩;cases hfu:a2V out.mem&&e5i P kb o ks out.mem with
 |false=>rw [hfu] at hk2;cases hk2
 |true=>
 rw [hfu] at hk2;simp only [AM.cond_true rfl] at hk2;rw [e57] at hfu;obtain ⟨hfu,hik⟩:=hfu;have hR0:=hR.act (tmps:=[]) (a2:={tmps:=ts,defers:=[]}) (D':=[]) .nil (fun t y hy=>by cases hy)
 have hfresh:∀i:Nat,(b0d i ks||a0v P kb o i)=true→a0v P kb o i=false→i∈ks:=by
  intro i hi hf;rw [hf,Bool.or_false] at hi;exact a1j.1 hi
 obtain ⟨env2,hR2⟩:=Rel.reenv (F':=fun i=>a0v P kb o i=false) hR0 fun i ob hg=>by
  have:=List.all_eq_true.1 hik _ (a4g hg);rw [e57] at this;exact ⟨hfresh i this.1,fun k' hk'=>hfresh k' (List.all_eq_true.1 this.2 k' hk')⟩
 have hin:Rel P N w.heap.size (Sof P B M0 n0 env st.mem w) (a3g P env (a13 st.mem ks)) w (fun k=>a0v P kb o k=false) ⟨env,a.defers⟩ env2 ⟨[(d,.c (.k true))],out.mem⟩ (a.put o.dst (.bool true)) w':=by
  have h9:=hR2.act (tmps:=[(d,.c (.k true))]) (a2:=a.put o.dst (.bool true)) (D':=a.defers) (by rw [c6O];exact .nil) fun t y hy=>by
   simp only [get] at hy;cases hdt:Nat.beq d t with
   |false=>rw [hdt] at hy;cases hy
   |true=>
    rw [hdt] at hy;have:=e56 hdt;subst this;have:y= .c (.k true):=(Option.some.inj hy).symm;subst this;rw [hdst,b3w (by rw [h.size];exact hd d hdst)]
    exact a0l.of (x:= .c (.k true)) rfl
  rw [c2y,h.size] at h9;exact h9
 exact ⟨env2,_,frame (m:=⟨[],a13 st.mem ks⟩) h hn hc (fun k hk=>by
   cases hb:a0v P kb o k with
   |false=>rfl
   |true=>exact absurd hk (a81 hF k hb)) (fun k=>a5K hval) hmX hin (fun k ob hg=>a8o hfu k ob hg) fun t ht=>by rw [hdst];exact a5E (fun e=>ht (by rw [hdst,e])),hk2⟩
theorem a89 {R:Type} {cl:a0i} (hcl:a0m P cl) (hdr:a1k P cl) {Y:a1y} (hY:b3T P (a0O kb (some Y.d)) Y) (hF:∀k,F k→k<kb) (hX:b8j Y N n0 F B M0 w0 e0) {ops:Array Oper} {k:St→Option R} {r:R} {Q:Exit→Act→World→Prop}
  (hQ:∀a w,a0P P N n0 B M0 w0 F e0 k r a w→Q .normal a w):
  ∀{l:List Oper} {env:Env} {st:St} {a:Act} {w:World},Rel P N n0 B M0 w0 F e0 env st a w→(∀o∈l,∀d,o.dst=some d→d<N)→(∀o∈l,∀c,o.op≠ .defer c)→a3F P cl kb Y ops.toList l st k=some r→wpListIn Fence.wide n P ops Q l a w
 | [],env,st,a,w,h,_,_,hk=>by
  refine hQ a w ⟨env,_,h.tmps fun t x hx=> ?_,hk⟩
  rw [a1c] at hx;cases hg:get st.tmps t with
  |none=>rw [hg] at hx;cases hx
  |some y=>
   rw [hg] at hx;simp only [e6r,e55] at hx;subst hx;exact a0l.of (a4d (h.tm t y hg))
 | o::l,env,st,a,w,h,hd,hdf,hk=>by
  have next:∀a w,a0P P N n0 B M0 w0 F e0 (fun st'=>a3F P cl kb Y ops.toList l st' k) r a w→wpListIn Fence.wide n P ops Q l a w:=by
   rintro a w ⟨env',st',h1,h2⟩;exact a89 hcl hdr hY hF hX hQ h1 (fun o' ho'=>hd o' (by simp [ho'])) (fun o' ho'=>hdf o' (by simp [ho'])) h2
  have hW:a4O Fence.wide:= .inl rfl;unfold a3F at hk;unfold wpListIn;split at hk
  ·rename_i q hq
   obtain ⟨g1,g2⟩:=b1w (n:=n) (Q:=Q) hcl hdr hY hF hX h (hd o (by simp)) hq hk
   rw [if_pos (by simp [Region.wanted,g1])]
   exact Oper.wpIn_mono next g2
  ·have ho:=a3T (Q:=Q) hcl (a81 hF) h (hd o (by simp)) hk
   split
   ·rename_i hw
    rw [if_pos hw] at ho;exact b3L hW (.inr (hdf o (by simp))) (Oper.wp_mono next ho)
   ·rename_i hw
    rw [if_neg hw] at ho;exact ⟨fun f _=>hW.fn f,next _ _ ho⟩
structure d5w (P:Program) (cl:a0i) (kb:Nat) (ops:Array Oper) (gs:List Nat) (iL:Nat) (rc:Nat→Rec):Prop where
 topo:c4M 0 ops.toList=true
 op:∀(i:Nat) (o:Oper),i<iL→ops[i]? =some o→(rc i).o=o
 ff:∀(i j:Nat) (p q:Oper),i<j→ops[i]? =some p→ops[j]? =some q→a2w P kb p q=true
 nn:∀(i j:Nat) (q:Oper),i<j→j<iL→ops[j]? =some q→a14 P kb (rc i) q=true
 ap:∀(i j:Nat) (p q:Oper),i<j→j<iL→ops[i]? =some p→ops[j]? =some q→i∈(a4V ops.toList []).getD j []∨(b3e ops.toList p q=true∧a7Q P kb (rc i) (rc j)=true)
 full:∀(i:Nat),i<iL→a2V (rc i).out.mem=true
 last:iL≤ops.size
 anc:∀j,iL≤j→j<ops.size→ ∀i,i<j→i∈(a4V ops.toList []).getD j []
theorem b5G {listed:Array Bool} {x n:Nat} (hsz:listed.size=n) (hx:x<n) (h:¬listed.getD x true=false):listed.getD x false=true:=by
 have hds:x<listed.size:=by omega
 simp only [e6i,Array.getElem?_eq_getElem hds,Option.getD_some] at h⊢;simpa using h
theorem a9a {listed:Array Bool} {x n:Nat} (hsz:listed.size=n) (hx:x<n) (h:listed.getD x true=false):¬listed.getD x false=true:=by
 have hds:x<listed.size:=by omega
 simp only [e6i,Array.getElem?_eq_getElem hds,Option.getD_some] at h⊢;simp [h]
theorem b9i {R:Type} {cl:a0i} (hcl:a0m P cl) (hdr:a1k P cl) {Y:a1y} (hY:b3T P (a0O kb (some Y.d)) Y) (hX:b8j Y N n0 F B M0 w0 e0) {ops:Array Oper} {gs:List Nat} {iL:Nat} {rc:Nat→Rec} {k:St→Option R} {r:R} {Q:Exit→Act→World→Prop}
  (hdf:∀o∈ops.toList,∀c,o.op≠ .defer c) (hF:∀k,F k→k<kb) (hd:∀o∈ops.toList,∀d,o.dst=some d→d<N) (hp:d5w P cl kb ops gs iL rc) (hQ:∀a w,a0P P N n0 B M0 w0 F e0 k r a w→Q .normal a w):
  ∀(fuel:Nat) {m:Nat} {listed:Array Bool} {env:Env} {st:St} {a:Act} {w:World},Rel P N n0 B M0 w0 F e0 env st a w→a3F P cl kb Y ops.toList (ops.toList.drop m) st k=some r→iL≤m→m≤ops.size→listed.size=ops.size→
   (∀i,i<ops.size→(listed.getD i true=false↔m≤i))→ops.size≤m+fuel→wpAnyIn Fence.wide n P .any ops Q fuel listed a w:=by
 have hend:∀{listed:Array Bool} {env:Env} {st:St} {a:Act} {w:World},Rel P N n0 B M0 w0 F e0 env st a w→a3F P cl kb Y ops.toList [] st k=some r→(∀i,i<ops.size→(listed.getD i true=false↔ops.size≤i))→Region.ready .any ops listed=[]∧Q .normal a w:=by
  intro listed env st a w h hk hl;refine ⟨?_,?_⟩
  ·cases hr:Region.ready .any ops listed with
   |nil=>rfl
   |cons x l=>
    exfalso;have:x∈Region.ready .any ops listed:=by rw [hr];simp
    obtain ⟨h1,h2,_⟩:=a3q.1 this;have:=(hl x h1).1 h2;omega
  ·refine hQ a w ⟨env,_,h.tmps fun t x hx=> ?_,hk⟩
   rw [a1c] at hx;cases hg:get st.tmps t with
   |none=>rw [hg] at hx;cases hx
   |some y=>
    rw [hg] at hx;simp only [e6r,e55] at hx;subst hx;exact a0l.of (a4d (h.tm t y hg))
 intro fuel;induction fuel with
 |zero=>
  intro m listed env st a w h hk hm1 hm2 hsz hl hlen;have:m=ops.size:=by omega
  subst this;rw [List.drop_eq_nil_of_le (by simp)] at hk
  exact hend h hk hl
 | succ fuel ih=>
  intro m listed env st a w h hk hm1 hm2 hsz hl hlen;by_cases hm:m=ops.size
  ·subst hm
   rw [List.drop_eq_nil_of_le (by simp)] at hk
   obtain ⟨h1,h2⟩:=hend h hk hl;exact ⟨fun _=>h2,fun x hx=>by rw [h1] at hx;simp at hx⟩
  have hmlt:m<ops.size:=by omega
  have hom:ops[m]? =some ops[m]:=Array.getElem?_eq_getElem hmlt;obtain ⟨o,ho'⟩:∃o,o=ops[m]:=⟨_,rfl⟩;rw [←ho'] at hom;have homl:ops.toList[m]? =some o:=by simpa using hom
  have hbelow:∀x,x<m→listed.getD x false=true:=fun x hx=>b5G hsz (by omega) fun hf=>by have:=(hl x (by omega)).1 hf;omega
  refine ⟨fun hready=> ?_,fun i hi=> ?_⟩
  ·exfalso
   have:m∈Region.ready .any ops listed:=a3q.2 ⟨hmlt,(hl m hmlt).2 (Nat.le_refl _),o,hom,fun d hdd=>by
    have hlt:=a6E hp.topo m o homl d hdd;rw [Nat.zero_add] at hlt;exact hbelow d hlt⟩
   rw [hready] at this;simp at this
  ·obtain ⟨hi1,hi2,o1,ho1,hdir⟩:=a3q.1 hi
   have hmi:=(hl i hi1).1 hi2;have him:i=m:=by
    by_cases hlt:m<i
    ·exfalso
     have hclosed:∀(j:Nat) (o:Oper),ops[j]? =some o→listed.getD j false=true→ ∀d∈a4L o,listed.getD d false=true:=by
      intro j oj hoj hlj d hdd;have hjs:j<ops.size:=(e6f.1 hoj).1;have hjm:j<m:=by
       by_cases hj:m≤j
       ·exact absurd hlj (a9a hsz hjs ((hl j hjs).2 hj))
       ·omega
      have hlt:=a6E hp.topo j oj (by simpa using hoj) d hdd
      rw [Nat.zero_add] at hlt;exact hbelow d (by omega)
     have hanc:=a3V (L:=fun x=>listed.getD x false=true) (all:=ops.toList) (fun j oj hj hl=>hclosed j oj (by simpa using hj) hl) (ops:=ops.toList) (pre:=[]) (tab:=[]) rfl rfl (fun _ _ hlt=>by simp at hlt) i o1 (by simpa using ho1) hdir
     exact a9a hsz hmlt ((hl m hmlt).2 (Nat.le_refl _)) (hanc m (hp.anc i (by omega) hi1 m hlt))
    ·omega
   subst him;rw [hom] at ho1;cases ho1;have hmem:o∈ops.toList:=List.mem_of_getElem? homl;have hdrop:ops.toList.drop i=o::ops.toList.drop (i+1):=by
    have hlt:i<ops.toList.length:=by simpa using hmlt
    rw [List.drop_eq_getElem_cons hlt];congr 1
    rw [e6j hlt] at homl;exact Option.some.inj homl
   rw [hdrop] at hk;have hilt:i<listed.size:=by omega
   have next:∀a w,a0P P N n0 B M0 w0 F e0 (fun st'=>a3F P cl kb Y ops.toList (ops.toList.drop (i+1)) st' k) r a w→wpAnyIn Fence.wide n P .any ops Q fuel (listed.setIfInBounds i true) a w:=by
    rintro a w ⟨env',st',h1,h2⟩;refine ih h1 h2 (by omega) (by omega) (by simpa using hsz) (fun x hx=> ?_) (by omega)
    simp only [e6i,Array.getElem?_setIfInBounds];by_cases hxi:i=x
    ·subst hxi
     rw [if_pos rfl,if_pos hilt];simp
    ·rw [if_neg hxi,←e6i,hl x hx]
     omega
   have hW:a4O Fence.wide:= .inl rfl;unfold a3F at hk;unfold wpOpIn;rw [hom];simp only;split at hk
   ·rename_i q hq
    obtain ⟨g1,g2⟩:=b1w (n:=n) (Q:=Q) hcl hdr hY hF hX h (hd o hmem) hq hk;rw [if_pos (by simp [Region.wanted,g1])]
    exact Oper.wpIn_mono next g2
   ·have ho:=a3T (Q:=Q) hcl (a81 hF) h (hd o hmem) hk
    split
    ·rename_i hw
     rw [if_pos hw] at ho;exact b3L hW (.inr (hdf o hmem)) (Oper.wp_mono next ho)
    ·rename_i hw
     rw [if_neg hw] at ho;exact ⟨fun f _=>hW.fn f,next _ _ ho⟩
theorem b9j {R:Type} {cl:a0i} (hcl:a0m P cl) (hdr:a1k P cl) {Y:a1y} (hY:b3T P (a0O kb (some Y.d)) Y) (hX:b8j Y N n0 F B M0 w0 e0) {ops:Array Oper} {gs:List Nat} {iL:Nat} {rc:Nat→Rec} {k:St→Option R} {r:R} {Q:Exit→Act→World→Prop}
  (hdf:∀o∈ops.toList,∀c,o.op≠ .defer c) (hF:∀k,F k→k<kb)
  (hd:∀o∈ops.toList,∀d,o.dst=some d→d<N) (hp:d5w P cl kb ops gs iL rc) {stF:St} (hk:a3F P cl kb Y ops.toList (ops.toList.drop iL) stF k=some r) (hQ:∀a w,a0P P N n0 B M0 w0 F e0 k r a w→Q .normal a w):
  ∀(fuel:Nat) {rem:List Nat} {listed:Array Bool} {env:Env} {st:St} {a:Act} {w:World},Rel P N n0 B M0 w0 F e0 env st a w→NoW st→(∀j∈rem,∀o,ops[j]? =some o→b1m P kb o st)→
   a48 P cl kb ops.toList gs rc rem st stF→rem.Pairwise (· < ·)→listed.size=ops.size→(∀i,i∈rem↔i<iL∧listed.getD i true=false)→(∀i,iL≤i→i<ops.size→listed.getD i true=false)→
   (∀(i:Nat) (o:Oper),ops[i]? =some o→listed.getD i false=true→ ∀d∈a4L o,listed.getD d false=true)→rem.length+(ops.size-iL)≤fuel→wpAnyIn Fence.wide n P .any ops Q fuel listed a w:=by
 have hiL:iL≤ops.size:=hp.last;have hnil:∀(fuel:Nat) {listed:Array Bool} {env:Env} {st:St} {a:Act} {w:World},Rel P N n0 B M0 w0 F e0 env st a w→a48 P cl kb ops.toList gs rc [] st stF→listed.size=ops.size→(∀i,i∈([]:List Nat)↔i<iL∧listed.getD i true=false)→(∀i,iL≤i→i<ops.size→listed.getD i true=false)→
   (ops.size-iL)≤fuel→wpAnyIn Fence.wide n P .any ops Q fuel listed a w:=by
  intro fuel listed env st a w h hrun hsz hrem hlast hlen;refine b9i hcl hdr hY hX hdf hF hd hp hQ fuel (h.eq hrun) hk (Nat.le_refl _) hiL hsz (fun i hi=>⟨fun hf=> ?_,fun hm=>hlast i hm hi⟩) (by omega)
  by_cases hlt:i<iL
  ·have:=(hrem i).2 ⟨hlt,hf⟩
   simp at this
  ·omega
 intro fuel;induction fuel with
 |zero=>
  intro rem listed env st a w h hn hc hrun hpw hsz hrem hlast hclosed hlen;have hr0:rem=[]:=List.eq_nil_of_length_eq_zero (by omega)
  subst hr0;exact hnil 0 h hrun hsz hrem hlast (by omega)
 | succ fuel ih=>
  intro rem listed env st a w h hn hc hrun hpw hsz hrem hlast hclosed hlen;cases hrem0:rem with
  |nil=>subst hrem0;exact hnil (fuel+1) h hrun hsz hrem hlast (by simpa using hlen)
  |cons x0 rr=>
  have hx0:x0∈rem:=by rw [hrem0];simp
  refine ⟨fun hready=> ?_,fun i hi=> ?_⟩
  ·exfalso
   subst hrem0;have hx:=(hrem x0).1 (by simp)
   have hox:ops[x0]? =some (ops[x0]'(by omega)):=Array.getElem?_eq_getElem _
   have:x0∈Region.ready .any ops listed:=by
    refine a3q.2 ⟨by omega,hx.2,_,hox,fun d hdd=> ?_⟩
    have hlt:=a6E hp.topo x0 _ (by simpa using hox) d hdd
    rw [Nat.zero_add] at hlt;refine b5G hsz (by omega) fun hf=> ?_
    have hm:=(hrem d).2 ⟨by omega,hf⟩
    rcases e6k.1 hm with rfl|hm
    ·omega
    ·have:=(List.pairwise_cons.1 hpw).1 d hm;omega
   rw [hready] at this;simp at this
  ·clear hrem0
   obtain ⟨hi1,hi2,o,ho,hdir⟩:=a3q.1 hi;have hanc:=a3V (L:=fun x=>listed.getD x false=true) (all:=ops.toList) (fun j oj hj hl=>hclosed j oj (by simpa using hj) hl) (ops:=ops.toList) (pre:=[]) (tab:=[]) rfl rfl (fun _ _ hlt=>by simp at hlt) i o (by simpa using ho) hdir
   have hilt:i<listed.size:=by rw [hsz];exact hi1
   have hget:∀x dflt,(listed.setIfInBounds i true).getD x dflt=if x=i then true else listed.getD x dflt:=by
    intro x dflt;simp only [e6i,Array.getElem?_setIfInBounds];by_cases hx:x=i
    ·subst hx;simp [hilt]
    ·rw [if_neg (Ne.symm hx),if_neg hx]
   have hi1':i<iL:=by
    by_cases hil:i<iL
    ·exact hil
    ·exfalso
     have hx:=(hrem x0).1 hx0;exact a9a hsz (by omega) hx.2 (hanc x0 (hp.anc i (by omega) hi1 x0 (by omega)))
   have hirem:=(hrem i).2 ⟨hi1',hi2⟩;obtain ⟨A,Bl,hsplit⟩:=List.append_of_mem hirem;subst hsplit;obtain ⟨hpA,hpB,hpAB⟩:=List.pairwise_append.1 hpw;have hltL:∀x∈A,x<iL:=fun x hx=>((hrem x).1 (by simp [hx])).1
   have hnl:∀x∈A,¬listed.getD x false=true:=by
    intro x hx;exact a9a hsz (by have:=hltL x hx;omega) ((hrem x).1 (by simp [hx])).2
   have hapA:∀x∈A,b6w P kb ops.toList rc x i:=by
    intro x hx p q hpx hqi;have hxi:x<i:=hpAB x hx i (by simp)
    have hpx':ops[x]? =some p:=by simpa using hpx
    have hqi':ops[i]? =some q:=by simpa using hqi
    have e1:=hp.op x p (hltL x hx) hpx';have e2:=hp.op i q hi1' hqi';rcases hp.ap x i p q hxi hi1' hpx' hqi' with h1|⟨h1,h2⟩
    ·exact absurd (hanc x h1) (hnl x hx)
    ·have:=c2L (p:=rc x) (q:=rc i) (by rw [e1,e2];exact hp.ff x i p q hxi hpx' hqi') (by rw [e1,e2];exact h1) h2 (by rw [e2];exact hp.nn x i q hxi hi1' hqi')
     rw [e1,e2] at this;exact this
   have hrun':=hrun.front hapA;obtain ⟨o',ho',hrec,hrest⟩:=hrun';have hoo:o'=o:=by
    have:ops[i]? =some o':=by simpa using ho'
    rw [ho] at this;exact (Option.some.inj this).symm
   subst hoo;have next:∀env' a' w',Rel P N n0 B M0 w0 F e0 env' (a2n P kb o' (rc i).ks st (rc i).out) a' w'→wpAnyIn Fence.wide n P .any ops Q fuel (listed.setIfInBounds i true) a' w':=by
    intro env' a' w' h';refine ih (rem:=A++Bl) h' (b9d hn) ?_ hrest ?_ (by simpa using hsz) ?_ ?_ ?_ (by simp at hlen⊢;omega)
    ·intro j hj oj hoj
     have hjr:j∈A++i::Bl:=by
      rcases List.mem_append.1 hj with hj|hj
      ·simp [hj]
      ·simp [hj]
     have hjL:=((hrem j).1 hjr).1;have hcj:=hc j hjr oj hoj;rcases List.mem_append.1 hj with hj|hj
     ·have hji:j<i:=hpAB j hj i (by simp)
      have hap:=hapA j hj oj o' (by simpa using hoj) ho'
      have hapk:a14 P kb (rc i) oj=true:=by
       rcases hp.ap j i oj o' hji hi1' hoj ho with h1|⟨_,h2⟩
       ·exact absurd (hanc j h1) (hnl j hj)
       ·unfold a7Q at h2
        cases hv:a1P P (rc j).o&&a1P P (rc i).o with
        |true=>
         rw [hp.op j oj hjL hoj] at hv;simp only [e57] at hv;unfold a14;rw [hv.1];rfl
        |false=>
         rw [hv,cond_false rfl] at h2;simp only [e57] at h2;rw [←hp.op j oj hjL hoj];exact h2.2
      exact a3W (hp.op i o' hi1' ho) hapk hap.symm.ff hcj
     ·have hij:i<j:=(List.pairwise_cons.1 hpB).1 j hj
      exact a3W (hp.op i o' hi1' ho) (hp.nn i j oj hij hjL hoj) (a4P (hp.ff i j o' oj hij ho hoj)) hcj
    ·refine List.pairwise_append.2 ⟨hpA,(List.pairwise_cons.1 hpB).2,fun x hx y hy=>hpAB x hx y (by simp [hy])⟩
    ·intro x
     rw [hget];have hx:=hrem x;constructor
     ·intro hm
      have hxi:x≠i:=by
       rintro rfl;rcases List.mem_append.1 hm with hm|hm
       ·have:=hpAB x hm x (by simp);omega
       ·have:=(List.pairwise_cons.1 hpB).1 x hm;omega
      rw [if_neg hxi];refine hx.1 ?_;rcases List.mem_append.1 hm with hm|hm<;>simp [hm]
     ·rintro ⟨h1,h2⟩
      by_cases hxi:x=i
      ·rw [if_pos hxi] at h2;cases h2
      ·rw [if_neg hxi] at h2
       have:=hx.2 ⟨h1,h2⟩;simp only [List.mem_append,e6k] at this⊢;rcases this with h3|h3|h3
       ·exact .inl h3
       ·exact absurd h3 hxi
       ·exact .inr h3
    ·intro x hx1 hx2
     rw [hget,if_neg (by omega)]
     exact hlast x hx1 hx2
    ·intro x ox hox hl d hdd
     rw [hget] at hl⊢;by_cases hdi:d=i
     ·rw [if_pos hdi]
     ·rw [if_neg hdi]
      by_cases hxi:x=i
      ·subst hxi
       rw [ho] at hox;cases hox;exact hdir d hdd
      ·rw [if_neg hxi] at hl
       exact hclosed x ox hox hl d hdd
   have hmem:o'∈ops.toList:=by have:=Array.mem_of_getElem? ho;simpa using this
   have hs:=b5D (Q:=Q) hcl (K:=wpAnyIn Fence.wide n P .any ops Q fuel (listed.setIfInBounds i true)) (fun k hk=>by
    cases hb:a0v P kb o' k with
    |false=>rfl
    |true=>
     have h1:=b3K hb;have h2:=hF k hk;omega) h hn (hc i (by simp) o' ho) (hd o' hmem) hrec (a8o (hp.full i hi1')) next
   have hW:a4O Fence.wide:= .inl rfl;unfold wpOpIn;rw [ho];simp only;split
   ·rename_i hw
    rw [if_pos hw] at hs;exact b3L hW (.inr (hdf o' hmem)) hs
   ·rename_i hw
    rw [if_neg hw] at hs;exact ⟨fun f _=>hW.fn f,hs⟩
theorem b1x {R:Type} {cl:a0i} {ops:List Oper} {gs:List Nat} {r:R}:∀{l:List Oper} {st:St} {recs:List Rec} {k:St→List Rec→Option R},a5y P cl kb ops gs l st recs k=some r→
  ∃rl stF,rl.length=l.length∧k stF (recs++rl)=some r∧ ∀(pre post:List Oper) (rc:Nat→Rec),ops=pre++(l++post)→(∀(i:Nat) (p:Rec),rl[i]? =some p→rc (pre.length+i)=p)→
   a48 P cl kb ops gs rc ((List.range l.length).map (pre.length+ ·)) st stF∧ ∀(i:Nat) (p:Rec) (o:Oper),rl[i]? =some p→l[i]? =some o→p.o=o
 | [],st,recs,k,h=>⟨[],st,rfl,by simpa [a5y] using h,fun _ _ _ _ _=>⟨b87.refl _,by simp⟩⟩
 | o::l,st,recs,k,h=>by
  simp only [a5y] at h;obtain ⟨rec,h1,h2⟩:=b85 h;obtain ⟨rl,stF,q1,q2,q3⟩:=b1x h2;refine ⟨rec::rl,stF,by simp [q1],by simpa using q2,fun pre post rc he hrc=> ?_⟩
  obtain ⟨q4,q5⟩:=q3 (pre++[o]) post rc (by rw [he];simp) (fun i p hp=>by
   have:=hrc (i+1) p (by simpa using hp)
   rw [←this];congr 1;simp;omega)
  have hr0:rc pre.length=rec:=hrc 0 rec (by simp)
  constructor
  ·rw [show (o::l).length=l.length+1 from rfl,List.range_succ_eq_map,List.map_cons,List.map_map]
   refine ⟨o,by rw [he];simp,by rw [Nat.add_zero,hr0];exact h1,?_⟩
   rw [Nat.add_zero,hr0];have:(List.range l.length).map ((pre.length+ ·)∘Nat.succ)=(List.range l.length).map ((pre++[o]).length+ ·):=by
    refine List.map_congr_left fun x _=> ?_
    simp;omega
   rw [this];exact q4
  ·intro i p o' hp ho
   cases i with
   |zero=>simp at hp ho;subst hp ho;exact h1.op
   |succ i=>exact q5 i p o' (by simpa using hp) (by simpa using ho)
theorem b46 {R:Type} {cl:a0i} (hm:P.follows .mixedOrders=true) (hcl:a0m P cl) (hdr:a1k P cl) {Y:a1y} (hY:b3T P (a0O kb (some Y.d)) Y) (hF:∀k,F k→k<kb) (hX:b8j Y N n0 F B M0 w0 e0) {id:Nat} {ops:Array Oper} {k:St→Option R} {r:R} {Q:Exit→Act→World→Prop}
  (hQ:∀a w,a0P P N n0 B M0 w0 F e0 k r a w→Q .normal a w) (h:Rel P N n0 B M0 w0 F e0 env st a w) (hd:∀o∈ops.toList,∀d,o.dst=some d→d<N) (hdf:∀o∈ops.toList,∀c,o.op≠ .defer c) (hk:b6E P cl kb Y ops.toList st k=some r):(Code.region id ops true).wpIn Fence.wide n P Q a w:=by
 unfold b6E at hk;obtain ⟨v,hv⟩:∃v,v=a5b ops.toList:=⟨_,rfl⟩;rw [←hv] at hk;cases hs:a6W P kb ops.toList&&c7d ops.toList v with
 |false=>rw [hs] at hk;cases hk
 |true=>
 rw [hs,cond_true rfl] at hk;rw [e57] at hs;obtain ⟨hs,hall⟩:=hs;obtain ⟨rl,stF,q1,q2,q3⟩:=b1x hk;rw [List.nil_append] at q2;cases hdy:c4N P kb ops.toList rl with
 |false=>rw [hdy] at q2;cases q2
 |true=>
 rw [hdy,cond_true rfl] at q2;obtain ⟨iL,hiL⟩:∃iL,iL=(ops.toList.take v).length:=⟨_,rfl⟩;have hiv:iL≤ops.size:=by rw [hiL];simp;omega
 have hdropE:ops.toList.drop v=ops.toList.drop iL:=by
  rw [hiL,List.length_take];by_cases h1:v≤ops.toList.length
  ·rw [Nat.min_eq_left h1]
  ·rw [Nat.min_eq_right (by omega),List.drop_eq_nil_of_le (by omega),List.drop_eq_nil_of_le (by omega)]
 rw [hdropE] at q2;let rc:Nat→Rec:=fun i=>rl.getD i ⟨default,[],⟨[],[]⟩⟩
 have hrc:∀(i:Nat) (p:Rec),rl[i]? =some p→rc i=p:=by
  intro i p hp;show rl.getD i _=p;rw [e6d,hp];rfl
 have hl:∀(i:Nat),i<iL→rl[i]? =some (rc i):=by
  intro i hi;have:i<rl.length:=by rw [q1,←hiL];exact hi
  have h1:=e6j this;rw [h1,hrc i _ h1]
 have hrun:a48 P cl kb ops.toList (a31 ops.toList ops.toList) rc (List.range iL) (a4W (a6X P kb ops.toList) st) stF∧ ∀(i:Nat) (o:Oper),i<iL→ops[i]? =some o→(rc i).o=o:=by
  obtain ⟨q4,q5⟩:=q3 [] (ops.toList.drop v) rc (by rw [List.take_append_drop];rfl) (fun i p hp=>by simpa using hrc i p hp)
  have hrange:(List.range (ops.toList.take v).length).map (([]:List Oper).length+ ·)=List.range iL:=by rw [hiL];simp
  rw [hrange] at q4;refine ⟨q4,fun i o hi ho=>q5 i (rc i) o (hl i hi) ?_⟩
  have hiv':i<v:=by rw [hiL,List.length_take] at hi;omega
  rw [List.getElem?_take_of_lt hiv'];simpa using ho
 obtain ⟨q4,hop⟩:=hrun;have hlt:∀(i:Nat) (o:Oper),ops[i]? =some o→i<ops.size:=fun i o ho=>(e6f.1 ho).1
 unfold a6W at hs;simp only [e57] at hs;unfold c4N at hdy;simp only [e57] at hdy;have hst:∀(i j:Nat) (p q:Oper),i<j→ops[i]? =some p→ops[j]? =some q→a2w P kb p q=true∧(i∈(a4V ops.toList []).getD j []∨b3e ops.toList p q=true):=by
  intro i j p q hij hp hq;have:=a3p hs.2 i j p q hij (by simpa using hp) (by simpa using hq)
  simp only [Nat.zero_add,e57,Bool.or_eq_true,a1j] at this;exact this
 have hdn:∀(i j:Nat),i<j→j<iL→a14 P kb (rc i) (rc j).o=true∧(i∈(a4V ops.toList []).getD j []∨a7Q P kb (rc i) (rc j)=true):=by
  intro i j hij hj;have:=a3p hdy.1 i j (rc i) (rc j) hij (hl i (by omega)) (hl j hj)
  simp only [Nat.zero_add,e57,Bool.or_eq_true,a1j] at this;exact this
 have hplan:d5w P cl kb ops (a31 ops.toList ops.toList) iL rc:=by
  refine ⟨hs.1,hop,fun i j p q hij hp hq=>(hst i j p q hij hp hq).1,?_,?_,fun i hi=>a6F hdy.2 i (rc i) (hl i hi),hiv,fun j hj1 hj2 i hi=> ?_⟩
  ·intro i j q hij hj hq
   have:=(hdn i j hij hj).1;rw [hop j q hj hq] at this;exact this
  ·intro i j p q hij hj hp hq
   rcases (hst i j p q hij hp hq).2 with h1|h1
   ·exact .inl h1
   ·exact (hdn i j hij hj).2.imp (fun h=>h) fun h2=>⟨h1,h2⟩
  ·unfold c7d at hall
   have h1:=List.all_eq_true.1 hall j (List.mem_range.2 (by simpa using hj2))
   rw [Bool.or_eq_true] at h1;rcases h1 with h1|h1
   ·have h1:j+1≤v:=e6g h1
    exfalso;rw [hiL,List.length_take] at hj1;have:ops.toList.length=ops.size:=by simp
    omega
   ·exact a1j.1 (List.all_eq_true.1 h1 i (List.mem_range.2 hi))
 refine wpIn_region_any hm ?_;refine b9j hcl hdr hY hX hdf hF hd hplan q2 hQ ops.size (rem:=List.range iL) (b9b h _ _) (b9c _) ?_ q4 List.pairwise_lt_range (by simp) ?_ ?_ ?_ (by simp;omega)
 ·intro j _ o ho
  refine b1r fun k hk=>b1s hk o ?_
  have:=Array.mem_of_getElem? ho;simpa using this
 ·intro i
  simp only [List.mem_range,e6i];constructor
  ·intro hi;exact ⟨hi,by rw [Array.getElem?_replicate,if_pos (by omega)];rfl⟩
  ·exact fun hi=>hi.1
 ·intro i _ hi
  simp only [e6i,Array.getElem?_replicate];rw [if_pos hi];rfl
 ·intro i o ho hl'
  have hi:=hlt i o ho;simp [e6i,hi] at hl'
def c1g:Code→Bool
 | .region _ ops _=>ops.toList.all fun o=>match o.op with| .defer _=>false|_=>true
 |_=>false
theorem c1h {R:Type} {cl:a0i} (hm:P.follows .mixedOrders=true) (hcl:a0m P cl) (hdr:a1k P cl) {Y:a1y} (hY:b3T P (a0O kb (some Y.d)) Y) (hF:∀k,F k→k<kb) (hX:b8j Y N n0 F B M0 w0 e0) {c:Code} (hdf:c1g c=true) {k:Ex→St→Option R} {r:R} (hok:okC N c=true)
  (h:Rel P N n0 B M0 w0 F e0 env st a w) (hk:c7e P cl kb Y c st k=some r):c.wp P (b6s P N n0 B M0 w0 F e0 k r) a w:=by
 unfold c7e at hk;split at hk
 case h_3=>cases hk
 ·rename_i id ops
  refine (wpIn_wide (n:=0)).1 (wpIn_region_list ?_);refine a89 (k:=k .normal) hcl hdr hY hF hX (fun a w hp=>hp) h (a8l hok) (fun o ho c hc=> ?_) hk
  have:=List.all_eq_true.1 hdf o ho;rw [hc] at this;cases this
 ·rename_i id ops
  refine (wpIn_wide (n:=0)).1 ?_;refine b46 (k:=k .normal) hm hcl hdr hY hF hX (fun a w hp=>hp) h (a8l hok) (fun o ho c hc=> ?_) hk
  have:=List.all_eq_true.1 hdf o ho;rw [hc] at this;cases this
theorem b9k {cl:a0i} (hm:P.follows .mixedOrders=true) (hcl:a0m P cl) (hdr:a1k P cl) {Y:a1y} (hY:b3T P (a0O kb (some Y.d)) Y) {c:Code} (hdf:c1g c=true) {f:St→Option (List (Bool×(Ex×St)))} (ts ks:List Nat)
  (h:∀st alts,f st=some alts→ ∀x,a4v alts some=some x→c7e P cl kb Y c st (fun e st=>some (e,a3N ts ks st))=some x):a4B P kb c f (b8j Y):=by
 intro st alts hst x hx N n0 F B M0 w0 e0 env a w hX hF hok hrel;rintro Fe nn rfl;refine wpIn_wide.2 (Code.wp_mono ?_ (c1h hm hcl hdr hY hF hX hdf hok hrel (h st alts hst x hx)));intro e a' w' hp;cases e with
 |normal=>obtain ⟨env',st',h1,h2⟩:=hp;exact ⟨env',_,a0L h1 ts ks,h2⟩
 |exit i=>obtain ⟨env',st',h1,h2⟩:=hp;exact ⟨env',_,a0L h1 ts ks,h2⟩
 |ret=>obtain ⟨env',st',h1,h2⟩:=hp;exact ⟨env',_,a0L h1 ts ks,h2⟩
 |_=>exact hp.elim
end
def c7i (n:Nat) (mem:AL Obj):Bool:=mem.all fun x=>(a1g x.2).all fun k=>Nat.blt k n
def b3U (kb:Nat):Nat:=kb+1000000000000000
def d5x {R:Type} (kb:Nat) (acc:List Ref) (mem2:AL Obj) (st:St) (k:St→Option R):Option R:=
 bif a4b ([],mem2)&&a6i mem2 (a1G acc.length (b3U kb) mem2) acc 0 then (match a4a acc (b3U kb) mem2 acc 0 (a12 (a1G acc.length (b3U kb) mem2) st).mem with
  |none=>none
  |some m=>k {tmps:=(a12 (a1G acc.length (b3U kb) mem2) st).tmps,mem:=a6g acc (b3U kb) mem2 m}) else none
def c2R (ts:List Nat) (st:St) (caps:List (Nat×Nat)):List V:=caps.map (fun x=>V.c (.p x.1 x.2))++ts.map fun t=>evu st (.tmp t)
def a1y.at_ (Y:a1y) (ts:List Nat) (xs:List V):a1y:={Y with tm:=ts.zip xs}
def rfK {R:Type} (P:Program) (Y:a1y) (ts:List Nat) (sp:a1y→List V→AL Obj→Option (List (Bool×Res))) (fnid:FuncId) (e:TypeId) (kb:Nat) (g:Operand) (st:St) (k:St→Option R):Option R:=
 match evu st g with
 | .c (.f fn caps)=>(match a37 st.mem 300 (b53 P [] (c2R ts st caps)) [] with
  |none=>none
  | some acc=>match c4H acc (c2R ts st caps),a7P st.mem acc acc 0 with
   |some args',some mem'=>bif Nat.beq fn fnid&&Nat.beq acc.length Y.ky&&args'.all (tmB Y.ky)&&Nat.beq (a0a P e) (kinds P e).length&&c7i Y.ky mem'&& !a1K fn caps then
    (match sp (Y.at_ ts (args'.drop caps.length)) (.c (.y Y.ky)::args'.take caps.length) (mem'++[(Y.ky,.row e true true [])]) with
    |none=>none
    |some alts=>a4v alts fun r=>d5x kb acc (del r.2 Y.ky) st k) else none
   |_,_=>none)
 |_=>none
def rfC {R:Type} (P:Program) (Y:a1y) (ts:List Nat) (sp:a1y→List V→AL Obj→Option (List (Bool×Res))) (fnid:FuncId) (e:TypeId) (kb:Nat) (c:Code) (st:St) (k:Ex→St→Option R):Option R:=
 match c with
 | .rangeFunc g _ _ _=>rfK P Y ts sp fnid e kb g st (k .normal)
 |_=>none
def rfY (c:Code) (tm:List (Nat×V)) (ky d:Nat) (hs:a6Y:={}):a1y:=
 match c with
 | .rangeFunc _ ps a b=>{ps:=ps.toList,ca:=a,cb:=b,tm,ky,d,hs}
 |_=>{ps:=[],ca:= .skip,cb:= .skip,tm,ky,d,hs}
def d5y (Y:a1y) (P:Program) (f:FuncId) (sp:a1y→List V→AL Obj→Option (List (Bool×Res))):Prop:=∀tm args mem alts,sp {Y with tm} args mem=some alts→ ∀res,a4v alts some=some res→c05 (b8j {Y with tm}) P f args mem res
theorem b13 {α:Type} {ky k:Nat} {o:α}:∀{l:AL α},(∀k x,get l k=some x→k<ky)→get (l++[(ky,o)]) k=if k=ky then some o else get l k
 | [],_=>by
  show get [(ky,o)] k=_;simp only [get,a0k];by_cases h:ky=k
  ·subst h;simp
  ·simp [h,Ne.symm h]
 | (j,x)::r,h=>by
  show get ((j,x)::(r++[(ky,o)])) k=_;simp only [get,a0k];by_cases hj:j=k
  ·subst hj
   have:=h j x (by simp [get,a0k])
   rw [if_neg (by omega),AM.cond_true (by simp),AM.cond_true (by simp)]
  ·rw [AM.cond_false (by simpa using hj),AM.cond_false (by simpa using hj)]
   refine b13 fun i y hi=> ?_
   by_cases hji:j=i
   ·subst hji;exact h j x (by simp [get,a0k])
   ·exact h i y (by simp only [get,a0k];rw [AM.cond_false (by simpa using hji)];exact hi)
section
variable {P:Program} {N n0 kb n:Nat} {F:Nat→Prop} {B M0:a0A} {w0:World} {e0:a6l} {env:Env} {st:St} {a:Act} {w:World}
theorem a6I {mem:AL Obj} {ky:Nat} {e:TypeId} {s:a1J} (hkeys:∀k o,get mem k=some o→k<ky):a3g P (upd env ky s) (mem++[(ky,.row e true true [])])=a3g P env mem:=by
 funext b o
 refine propext ⟨fun ⟨k,ob,g,m⟩=> ?_,fun ⟨k,ob,g,m⟩=> ?_⟩
 ·rw [b13 hkeys] at g
  by_cases hk:k=ky
  ·rw [if_pos hk] at g
   cases g;cases m.1
  ·rw [if_neg hk] at g
   exact ⟨k,ob,g,by simpa [upd,hk] using m⟩
 ·have hk:=hkeys k ob g
  exact ⟨k,ob,by rw [b13 hkeys,if_neg (by omega)];exact g,by simpa [upd,Nat.ne_of_lt hk] using m⟩
theorem d0w {mem:AL Obj} {ky:Nat} {e:TypeId} {s:a1J} (hlen:mem.length=ky) (hlow:c7i ky mem=true) (hsz:a0a P e=(kinds P e).length) (hs:s.head=none) (h:b0u P B env mem w):
  b0u P B (upd env ky s) (mem++[(ky,.row e true true [])]) w:=by
 have hkeys:∀k o,get mem k=some o→k<ky:=fun k o hg=>by have:=h.key k o hg;omega
 have M:=h.rel;have hget:∀{k ob},get (mem++[(ky,Obj.row e true true [])]) k=some ob→(k=ky∧ob= .row e true true [])∨(k≠ky∧get mem k=some ob):=by
  intro k ob hg;rw [b13 hkeys] at hg;by_cases hk:k=ky
  ·rw [if_pos hk] at hg;exact .inl ⟨hk,(Option.some.inj hg).symm⟩
  ·rw [if_neg hk] at hg;exact .inr ⟨hk,hg⟩
 have heq:∀k,k≠ky→upd env ky s k=env k:=fun k hk=>by simp [upd,hk]
 have hk:a0y w (Sof P B (a3g P env mem) w.heap.size env mem w) w (Sof P B (a3g P env mem) w.heap.size (upd env ky s) (mem++[(ky,.row e true true [])]) w):=fun b o v hS hv=>by
  refine ⟨⟨hS.1,hS.2.1,fun k ob hg hm=> ?_⟩,hv⟩
  rcases hget hg with ⟨_,rfl⟩|⟨q1,q2⟩
  ·cases hm.1
  ·rw [heq k q1] at hm;exact hS.2.2 k ob q2 hm
 refine ⟨⟨rfl,fun key o hg=> ?_,fun k k' o o' hg hg' hr hr' hne=> ?_,fun key o b x hg hm=> .inl ⟨key,o,hg,hm⟩,fun key e' ex xs hg o ho=> ?_,Chg.refl _ w,M.bb,fun _ _=>rfl,by rw [a6I hkeys];exact M.gi⟩,fun k o hg=> ?_⟩
 ·rw [a6I hkeys]
  rcases hget hg with ⟨rfl,rfl⟩|⟨q1,q2⟩
  ·exact ⟨hsz,.inl ⟨rfl,rfl,by simp [upd,a1J.hdr,hs]⟩⟩
  ·rw [heq key q1]
   refine b3O hk (fun k' hk'=>heq k' ?_) (fun _=>rfl) (M.ob key o q2)
   have:=List.all_eq_true.1 (List.all_eq_true.1 hlow _ (a4g q2)) k' hk';have:=e6g this;omega
 ·rcases hget hg with ⟨rfl,rfl⟩|⟨q1,q2⟩
  ·cases hr
  ·rcases hget hg' with ⟨rfl,rfl⟩|⟨q1',q2'⟩
   ·cases hr'
   ·rw [heq k q1,heq k' q1']
    exact M.ds k k' o o' q2 q2' hr hr' hne
 ·rw [a6I hkeys]
  rcases hget hg with ⟨rfl,q⟩|⟨q1,q2⟩
  ·cases q
  ·rw [heq key q1];exact M.pr key e' ex xs q2 o ho
 ·rw [e6l,hlen]
  rcases hget hg with ⟨rfl,rfl⟩|⟨_,q2⟩
  ·simp
  ·have:=hkeys k o q2;simp;omega
theorem b9l {mem:AL Obj} {ky:Nat} {e:TypeId} {s:a1J} {res:Res} {v:Value} {w':World} (hlen:mem.length=ky) (hkeys:∀k o,get mem k=some o→k<ky)
  (h:a65 P B (upd env ky s) (mem++[(ky,.row e true true [])]) w res v w'):a65 P B env mem w ([],del res.2 ky) (.tuple #[]) w':=by
 obtain ⟨env1,M,_⟩:=h;rw [a6I hkeys] at M;have hk:a0y w' (Sof P B (a3g P env mem) w.heap.size env1 res.2 w') w' (Sof P B (a3g P env mem) w.heap.size env1 (del res.2 ky) w'):=fun b o v hS hv=>
  ⟨⟨hS.1,hS.2.1,fun k ob hg hm=>hS.2.2 k ob (a0p k ob hg).2 hm⟩,hv⟩
 refine ⟨env1,⟨M.hn0,fun key o hg=>a1d hk (fun _=>rfl) (M.ob key o (a0p key o hg).2),fun k k' o o' hg hg'=>M.ds k k' o o' (a0p k o hg).2 (a0p k' o' hg').2,
  fun key o b x hg=>M.mu key o b x (a0p key o hg).2,fun key e' ex xs hg=>M.pr key e' ex xs (a0p key _ hg).2,M.ch,M.bb,fun k hk=> ?_,M.gi⟩,⟨#[],rfl,trivial⟩⟩
 have hk':k<ky:=by rw [←hlen];exact hk
 rw [M.fx k (by rw [e6l,hlen];simp;omega)]
 simp [upd,Nat.ne_of_lt hk']
theorem d0x {R:Type} {Y:a1y} {ts:List Nat} {sp:a1y→List V→AL Obj→Option (List (Bool×Res))} {fnid:FuncId} (hent:a6x P fnid) (hsp:d5y Y P fnid sp) {e:TypeId} {g:Operand} {k:Ex→St→Option R} {r:R}
  (hF:∀k,F k→k<kb) (hok:okC N (.rangeFunc g Y.ps.toArray Y.ca Y.cb)=true) (h:Rel P N n0 B M0 w0 F e0 env st a w)
  (hk:rfK P Y ts sp fnid e kb g st (k .normal)=some r):(Code.rangeFunc g Y.ps.toArray Y.ca Y.cb).wp P (b6s P N n0 B M0 w0 F e0 k r) a w:=by
 unfold rfK at hk;split at hk
 case h_2=>cases hk
 rename_i fn caps hev;split at hk
 ·cases hk
 rename_i acc hacc;have hnd:=a2e (acc:=[]) trivial hacc;split at hk
 case h_2=>cases hk
 rename_i args' mem' hren hh;cases hc0:Nat.beq fn fnid&&Nat.beq acc.length Y.ky&&args'.all (tmB Y.ky)&&Nat.beq (a0a P e) (kinds P e).length&&c7i Y.ky mem'&& !a1K fn caps with
 |false=>rw [hc0] at hk;cases hk
 |true=>
 rw [hc0] at hk;simp only [e57] at hc0;obtain ⟨⟨⟨⟨⟨c1,c2⟩,c3⟩,c5⟩,c6⟩,c7⟩:=hc0;have c1:=e56 c1;have c2:=e56 c2;have c5:=e56 c5;subst c1;simp only [AM.cond_true rfl] at hk;split at hk
 ·cases hk
 rename_i alts halts;rw [a42] at hk;cases hres:a4v alts some with
 |none=>rw [hres] at hk;cases hk
 |some res=>
 rw [hres] at hk;have hk:d5x kb acc (del res.2 Y.ky) st (k .normal)=some r:=hk;have hcall:=hsp _ _ _ _ halts res hres;have hgv:a.eval g= .func (.func fn) #[] (caps.map (b1D env)).toArray:=by
  have h1:=h.evu g;rw [hev] at h1;have h1:a.eval g=fnW (a1K fn caps) fn (caps.map (b1D env)):=h1;rw [show a1K fn caps=false by simpa using c7] at h1
  exact h1
 -- the record
 obtain ⟨l,hl⟩:∃l,l=w.heap.size+1:=⟨_,rfl⟩;refine (wpIn_wide (n:=0)).1 (wpIn_rangeFunc fun fr _=> ?_)
 obtain ⟨rc,hrc⟩:∃rc:Loop,rc={state:= .ready,pending:=none,fn:=fr,tmps:=a.tmps,params:=Y.ps.toArray,assign:=Y.ca,body:=Y.cb,defers:=w.heap.size}:=⟨_,rfl⟩;obtain ⟨W1,hW1⟩:∃W1,W1=(w.alloc (.deferred (some []))).alloc (.loop rc):=⟨_,rfl⟩;have hrun:=run_enterLoop_outer (P:=P) (w:=w) fr a.tmps Y.ps.toArray Y.ca Y.cb;rw [←hrc,←hW1,←hl] at hrun;have hL1:W1.heap[l]? =some (.loop rc):=by
  rw [hW1,hl];have:=World.alloc_heap_new (w.alloc (.deferred (some []))) (.loop rc);rwa [World.size_alloc] at this
 have hD1:W1.heap[w.heap.size]? =some (.deferred (some [])):=by
  rw [hW1];exact ((World.grownBy_alloc (w.alloc (.deferred (some []))) (.loop rc) none).block _ (by simp) (fun e=>by cases e)).trans (World.alloc_heap_new w _)
 have hR1:Rel P N n0 B M0 w0 F e0 env st a W1:=by
  rw [hW1];exact (h.alien (World.grownBy_alloc w _ none) (fun r e=>by cases e) (fun r e=>by cases e)).alien (World.grownBy_alloc _ _ none) (fun r e=>by cases e) (fun r e=>by cases e)
 have hgr:∀b:Nat,b<w.heap.size→W1.heap[b]? =w.heap[b]? :=fun b hb=>by
  rw [hW1];exact ((World.grownBy_alloc (w.alloc (.deferred (some []))) (.loop rc) none).block b (by simp;omega) (fun e=>by cases e)).trans ((World.grownBy_alloc w (.deferred (some [])) none).block b hb (fun e=>by cases e))
 have hoffL:=Off.other hR1 hL1 (fun _ _ _ e=>by cases e) (fun _ _ e=>by cases e)
 obtain ⟨hpre0,hkeep⟩:=c2E hR1 hnd hh;obtain ⟨g1,g2,g3⟩:=a41 hh;have hlen:mem'.length=Y.ky:=by rw [g2,c2]
 have hkeys:∀k o,get mem' k=some o→k<Y.ky:=fun k o hg=>by have:=hpre0.key k o hg;omega
 have hpre:=d0w (e:=e) (s:=⟨l,0,none⟩) hlen c6 c5 rfl hpre0;have hmut:∀b o,a3g P (b1f acc env) mem' b o→ ∀ob,W1.heap[b]? =some ob→(∃c T f,ob= .cells c T f)∨ ∃x y,ob= .map x y:=by
  rintro b o ⟨k,ob,q1,q2⟩ gob hb;obtain ⟨r',o',e1,e2,e3⟩:=c9J hh q1 q2;have ho:=hR1.ob _ _ e2;obtain ⟨e4,e5⟩:=a1H e3;rw [e5] at hb;cases o' with
  |box cs=>obtain ⟨cur,T,q,_⟩:=ho;rw [hb] at q;exact .inl ⟨_,_,_,Option.some.inj q⟩
  |row e ex nl xs=>
   obtain ⟨_,⟨q,_⟩|⟨_,_,cap,cur,_,⟨fr,_,q⟩,_⟩⟩:=ho
   ·rw [show nl=false from e4] at q;cases q
   ·rw [hb] at q;exact .inl ⟨_,_,_,Option.some.inj q⟩
  |map kt vt es=>obtain ⟨ents,clock,q,_⟩:=ho;rw [hb] at q;exact .inr ⟨_,_,Option.some.inj q⟩
  |tab kt vt es=>obtain ⟨ents,clock,q,_⟩:=ho;rw [hb] at q;exact .inr ⟨_,_,Option.some.inj q⟩
  |dat T d=>obtain ⟨_,cur,E,q,_⟩:=ho;rw [hb] at q;exact .inl ⟨_,_,_,Option.some.inj q⟩
  |krow e k i c xs=>obtain ⟨_,_,_,_,cap,cur,_,⟨fr,_,q⟩,_⟩:=ho;rw [hb] at q;exact .inl ⟨_,_,_,Option.some.inj q⟩
 -- the arguments
 have hall:All2 (a0s P env (Sof P B M0 n0 env st.mem W1) W1) (c2R ts st caps) (caps.map (b1D env)++ts.map fun t=>a.tmps.getD t undef):=by
  unfold c2R;refine All2.append ?_ ?_
  ·refine .of_get (by simp) fun j x y hx hy=> ?_
   rw [List.getElem?_map] at hx hy;obtain ⟨c,q1,rfl⟩:=Option.map_eq_some_iff.1 hx;rw [q1] at hy;cases hy;exact rfl
  ·refine .of_get (by simp) fun j x y hx hy=> ?_
   rw [List.getElem?_map] at hx hy;obtain ⟨c,q1,rfl⟩:=Option.map_eq_some_iff.1 hx;rw [q1] at hy;cases hy;exact hR1.evu (.tmp c)
 have hall':=a8d hkeep hren hall;have hlena:=hall'.length;simp only [e6l,List.length_map] at hlena;have hdropv:(caps.map (b1D env)++ts.map fun t=>a.tmps.getD t undef).drop caps.length=ts.map fun t=>a.tmps.getD t undef:=by
  exact List.drop_left' (by simp)
 have htakev:(caps.map (b1D env)++ts.map fun t=>a.tmps.getD t undef).take caps.length=caps.map (b1D env):=by
  exact List.take_left' (by simp)
 have hdr:=hall'.drop caps.length;have htk:=hall'.take caps.length;rw [hdropv] at hdr;rw [htakev] at htk;obtain ⟨E2,hE2⟩:∃E2:Env,E2=upd (b1f acc env) Y.ky ⟨l,0,none⟩:=⟨_,rfl⟩;have hE2ne:∀k,k≠Y.ky→E2 k=b1f acc env k:=fun k hk=>by rw [hE2];simp [upd,hk]
 have hE2ky:E2 Y.ky=⟨l,0,none⟩:=by rw [hE2];simp [upd]
 rw [←hE2] at hpre;have hM2:a3g P E2 (mem'++[(Y.ky,.row e true true [])])=a3g P (b1f acc env) mem':=by rw [hE2];exact a6I hkeys
 have hargs:All2 (a0s P E2 (Sof P (Sof P B M0 n0 env st.mem W1) (a3g P E2 (mem'++[(Y.ky,.row e true true [])])) W1.heap.size E2 (mem'++[(Y.ky,.row e true true [])]) W1) W1) (.c (.y Y.ky)::args'.take caps.length) (#[Value.func (.yield l) #[] #[]]++(caps.map (b1D env)).toArray).toList:=by
  have hto:(#[Value.func (.yield l) #[] #[]]++(caps.map (b1D env)).toArray).toList=Value.func (.yield l) #[] #[]::caps.map (b1D env):=by simp
  rw [hto];refine ⟨?_,htk.mono fun x v hx hxv=> ?_⟩
  ·show _=_
   rw [hE2ky]
  ·have hp:=List.all_eq_true.1 c3 x (List.mem_of_mem_take hx)
   match x,hp,hxv with
   | .c (.p i o),hp,hxv=>
    have hp:i+1≤Y.ky:=e6g hp;have hxv:v= .pointer (some ⟨(b1f acc env i).blk,(b1f acc env i).base+o,none⟩):=hxv;show v= .pointer (some ⟨(E2 i).blk,(E2 i).base+o,none⟩);rw [hE2ne i (by omega)]
    exact hxv
   | .c (.i k n),_,hxv=>exact hxv
   | .c (.b b),_,hxv=>exact hxv
   | .c (.k b),_,hxv=>exact hxv
   | .c (.s l),_,hxv=>exact hxv
 have hX:∀N',b8j (Y.at_ ts (args'.drop caps.length)) N' W1.heap.size (· <(mem'++[(Y.ky,Obj.row e true true [])]).length) (Sof P B M0 n0 env st.mem W1) (a3g P E2 (mem'++[(Y.ky,.row e true true [])])) W1 E2:=by
  intro N';have hlt:(mem'++[(Y.ky,Obj.row e true true [])]).length=Y.ky+1:=by simp [hlen]
  simp only [okC,e57] at hok;refine ⟨by show Y.ky<_;rw [hlt];omega,fun o hm=> ?_,rc,?_,by rw [hrc],by rw [hrc],by rw [hrc];rfl,by rw [hrc];rfl,by rw [hrc];rfl,?_,?_,fun p hp=> ?_,fun t ht=> ?_⟩
  ·rw [hM2] at hm
   have hm:a3g P (b1f acc env) mem' (E2 Y.ky).blk o:=hm;rw [hE2ky] at hm;rcases hmut _ _ hm _ hL1 with ⟨_,_,_,q⟩|⟨_,_,q⟩<;>cases q
  ·show W1.heap[(E2 Y.ky).blk]? =_
   rw [hE2ky];exact hL1
  ·rw [hrc];show okC a.tmps.size _=true;rw [h.size];exact hok.1.1
  ·rw [hrc];show okC a.tmps.size _=true;rw [h.size];exact hok.1.2
  ·rw [hrc];show p<a.tmps.size;rw [h.size]
   have hp:p∈Y.ps:=hp;exact e6g (List.all_eq_true.1 hok.2 p (by simpa using hp))
  ·obtain ⟨j,hj⟩:=List.getElem?_of_mem ht
   have hj:(ts.zip (args'.drop caps.length))[j]? =some t:=hj;rw [List.getElem?_zip_eq_some] at hj;obtain ⟨hj1,hj2⟩:=hj;have hv:=hdr.get2 (y:=a.tmps.getD t.1 undef) hj2 (by rw [List.getElem?_map,hj1];rfl)
   have hp:=List.all_eq_true.1 c3 t.2 (List.mem_of_mem_drop (List.mem_of_getElem? hj2));rw [hrc];show d5v _ E2 t.2 (a.tmps.getD t.1 undef);generalize a.tmps.getD t.1 undef=v at hv;generalize t.2=x at hv hp;match x,hp,hv with
   | .c (.p i o),hp,hv=>
    have hp:i+1≤Y.ky:=e6g hp;have hv:v= .pointer (some ⟨(b1f acc env i).blk,(b1f acc env i).base+o,none⟩):=hv;refine ⟨by show i<_;rw [hlt];omega,?_⟩
    rw [hE2ne i (by omega)]
    exact hv
   | .c (.i k n),_,hv=>exact hv
   | .c (.b b),_,hv=>exact hv
   | .c (.k b),_,hv=>exact hv
   | .c (.s l),_,hv=>exact hv
 have hC:=hcall _ E2 W1 _ hX hpre hargs;refine ⟨l,[mkD w.heap.size],W1,{target:= .fn (.func fn) (caps.map (b1D env)).toArray,args:= #[.func (.yield l) #[] #[]]},W1,fn, #[.func (.yield l) #[] #[]]++(caps.map (b1D env)).toArray,W1,hrun,?_,fun f' _=>trivial,?_,fun hd=>Bool.noConfusion hd,?_⟩
 ·simp only [resolve,hgv]
  simp [go_sem]
 ·simp only [invoke]
  exact a6A hent
 refine callsIn_wide.2 (Calls.mono hC ?_);rintro en w2 ⟨v,rfl,hp⟩;rw [hE2] at hp;have hp':=b9l hlen hkeys hp;obtain ⟨env1,M1,_⟩:=hp';have hL2:w2.heap[l]? =some (.loop rc):=M1.ch.other l _ hL1 fun o hm=>by rcases hmut _ _ hm _ hL1 with ⟨_,_,_,q⟩|⟨_,_,q⟩<;>cases q
 have hkeepD:∀b:Nat,W1.heap[b]? =some (.deferred (some []))→w2.heap[b]? =some (.deferred (some [])):=fun b hb=>M1.ch.other b _ hb fun o hm=>by rcases hmut _ _ hm _ hb with ⟨_,_,_,q⟩|⟨_,_,q⟩<;>cases q
 unfold d5x at hk;cases hc1:a4b ([],del res.2 Y.ky)&&a6i (del res.2 Y.ky) (a1G acc.length (b3U kb) (del res.2 Y.ky)) acc 0 with
 |false=>rw [hc1] at hk;cases hk
 |true=>
 rw [hc1] at hk;simp only [AM.cond_true rfl] at hk;rw [e57] at hc1;split at hk
 ·cases hk
 rename_i m2 hm2;obtain ⟨env2,q1,_⟩:=b8T hR1 hnd hh (res:=([],del res.2 Y.ky)) (b9l hlen hkeys hp) (fun k hk hf=>by have:=b5y hk;have:=hF k hf;unfold b3U at*;omega) rfl hc1.1 hc1.2 hm2
 have hend:=run_endLoop (P:=P) hL2 (by rw [hrc];simp)
 have hpe:rc.pending=none:=by rw [hrc]
 obtain ⟨W4,hW4⟩:∃W4,W4=w2.putObj l (.loop {rc with state:= .exhausted}):=⟨_,rfl⟩;rw [←hW4,hpe] at hend;refine ⟨none,W4,hend,?_⟩;have hn0:=h.n0le;have hne:∀b:Nat,W1.heap[b]? =some (.deferred (some []))→b≠l:=fun b hb e=>by subst e;rw [hL1] at hb;cases hb
 obtain ⟨ns,d1,d2,d3⟩:=h.dfr;have hmk:a1Y n0 (w2.putObj l (.loop {rc with state:= .exhausted})) e0.D a.defers:=by
  refine ⟨ns,d1,fun b hb=>⟨(d2 b hb).1,?_⟩,d3⟩
  have hb1:=(d2 b hb).2;have hb2:W1.heap[b]? =some (.deferred (some [])):=(hgr b (e6f.1 hb1).1).trans hb1;rw [World.putObj_heap_other (hne b hb2)];exact hkeepD b hb2
 have hq:=q1.alienM (a6H (b:=l) (o:= .loop {rc with state:= .exhausted})) hmk (fun r e=>by
  cases e;exact ⟨.inl (by omega),(fun c T f e=>by rw [hL2] at e;cases e),Off.other q1 hL2 (fun _ _ _ e=>by cases e) (fun _ _ e=>by cases e)⟩)
 rw [←hW4] at hq;refine ⟨env2,_,⟨hq.size,?_,hq.hn0,hq.tm,hq.ob,hq.ds,hq.mu,hq.pr,hq.ch,hq.bb,hq.fx,hq.gi⟩,hk⟩;refine ⟨w.heap.size::ns,by rw [d1];rfl,fun b hb=> ?_,?_⟩
 ·rcases e6k.1 hb with rfl|hb
  ·refine ⟨hn0,?_⟩
   rw [hW4,World.putObj_heap_other (hne _ hD1)];exact hkeepD _ hD1
  ·refine ⟨(d2 b hb).1,?_⟩
   have hb1:=(d2 b hb).2;have hb2:W1.heap[b]? =some (.deferred (some [])):=(hgr b (e6f.1 hb1).1).trans hb1;rw [hW4,World.putObj_heap_other (hne b hb2)];exact hkeepD b hb2
 ·refine List.nodup_cons.2 ⟨fun hm=> ?_,d3⟩
  have:=(e6f.1 (d2 _ hm).2).1;omega
theorem c7j {Y:a1y} {ts:List Nat} {sp:a1y→List V→AL Obj→Option (List (Bool×Res))} {fnid:FuncId} (hent:a6x P fnid) (hsp:d5y Y P fnid sp) {e:TypeId} {g:Operand} {c:Code} {X:Ctx} (hcode:c= .rangeFunc g Y.ps.toArray Y.ca Y.cb)
  {f:St→Option (List (Bool×(Ex×St)))} (tx kx:List Nat) (h:∀st alts,f st=some alts→ ∀x,a4v alts some=some x→rfC P Y ts sp fnid e kb c st (fun e st=>some (e,a3N tx kx st))=some x):a4B P kb c f X:=by
 intro st alts hst x hx N n0 F B M0 w0 e0 env a w _ hF hok hrel;rintro Fe nn rfl;have hr:=h st alts hst x hx;subst hcode;refine wpIn_wide.2 (Code.wp_mono ?_ (d0x hent hsp (k:=fun e st=>some (e,a3N tx kx st)) hF hok hrel hr))
 intro e a' w' hp;cases e with
 |normal=>obtain ⟨env',st',h1,h2⟩:=hp;exact ⟨env',_,a0L h1 tx kx,h2⟩
 |exit i=>obtain ⟨env',st',h1,h2⟩:=hp;exact ⟨env',_,a0L h1 tx kx,h2⟩
 |ret=>obtain ⟨env',st',h1,h2⟩:=hp;exact ⟨env',_,a0L h1 tx kx,h2⟩
 |_=>exact hp.elim
end
def spY (na:Nat) (sh:Sh) (A:List Lf→List (Bool×Res)) (Y:a1y) (args:List V) (mem:AL Obj):Option (List (Bool×Res)):=
 bif Nat.beq args.length na then c56 sh A ⟨params 0 args++Y.tm,mem⟩ else none
def c2S (na:Nat) (tm:AL V):List V:=b1u (tm.take na)
def d0y (Y:a1y) (P:Program) (f:FuncId) (na:Nat) (sh:Sh) (A:List Lf→List (Bool×Res)):Prop:=d5y Y P f (spY na sh A)
def bdY (P:Program) (cl:a0i) (h:a6Y) (f:FuncId) (na:Nat) (sh:Sh) (L:List Lf):Option Res:=body P cl h 200 f (c2S na (a16 sh L).tmps) (a16 sh L).mem
theorem Sg.fnY {Y:a1y} {P:Program} {cl:a0i} {kb f na:Nat} {sh:Sh} {A:List Lf→List (Bool×Res)} (Yf:List Lf→a1y) (s:∀L,Sg P kb f (b8j (Yf L))) (hY:∀L,{Y with tm:=(a16 sh L).tmps.drop na}=Yf L)
  (hP:a3o P) (hcl:a0m P cl) (h:∀L x,a4v (A L) some=some x→bdY P cl (s L).h f na sh L=some x) (hk:∀L,(a16 sh L).mem.length=kb:=by intro L;rfl):d0y Y P f na sh A:=by
 intro tm args mem alts ha res hr;unfold spY at ha;cases hl:Nat.beq args.length na with
 |false=>rw [hl] at ha;cases ha
 |true=>
 rw [hl] at ha;have hl:=e56 hl;simp only [AM.cond_true rfl] at ha;have hpl:(params 0 args).length=na:=by
  rw [←hl];have:∀(i:Nat) (xs:List V),(params i xs).length=xs.length:=by
   intro i xs;induction xs generalizing i with
   |nil=>rfl
   |cons x xs ih=>simp [params,ih]
  exact this 0 args
 have:=a69 (Q:=fun st x=>c05 (b8j {Y with tm:=st.tmps.drop na}) P f (c2S na st.tmps) st.mem x) (fun L x hx=>by
  have hb:=h L x hx;have hs:=(s L).ok;have hkL:=hk L;subst hkL;have:=(a8m hP hcl (a49 hP.mixed hcl) hs.loops hb).1;rw [hY L];exact this) ⟨params 0 args++tm,mem⟩ alts ha res hr
 have e1:(params 0 args++tm).drop na=tm:=List.drop_left' hpl;have e2:c2S na (params 0 args++tm)=args:=by
  unfold c2S;rw [List.take_left' hpl];exact a5O 0 args
 simp only [e1,e2] at this;exact this
def pcY (P:Program) (cl:a0i) (kb:Nat) (Y:a1y) (f id:Nat) (sh:Sh) (L:List Lf) (a b:List Nat):Option (Ex×St):=c7e P cl kb Y (a0S P f id) (a16 sh L) (fun e st=>some (e,a3N a b st))
def Sg.cutY {P:Program} {cl:a0i} {kb f:Nat} {Y:a1y} (s:Sg P kb f (b8j Y)) {id:Nat} {a b:List Nat} {sh:Sh} (A:List Lf→List (Bool×(Ex×St))) (hP:a3o P) (hcl:a0m P cl) (hY:b3T P (a0O kb (some Y.d)) Y) (h:∀L x,a4v (A L) some=some x→pcY P cl kb Y f id sh L a b=some x)
  (h1:b45 P f id=true:=by kernel_rfl) (hdf:c1g (a0S P f id)=true:=by kernel_rfl):Sg P kb f (b8j Y):=
 ⟨{s.h with los:=(id,c56 sh A)::s.h.los},a02.cons s.ok h1 (b9k hP.mixed hcl (a49 hP.mixed hcl) hY hdf a b (a69 (Q:=fun st x=>c7e P cl kb Y (a0S P f id) st (fun e st=>some (e,a3N a b st))=some x) h))⟩
def c7k:Code→Option (Code×Code)
 | .rangeFunc _ _ a b=>some (a,b)
 |_=>none
theorem e3O {P:Program} {kb kb0 f0:Nat} (id d0:Nat) (s:Sg P kb f0 c2J a4O) {Y:a1y} (hs:Y.hs=s.h) (hcode0:c7k (a0S P f0 id)=some (Y.ca,Y.cb)) (h1:b45 P f0 id=true:=by kernel_rfl)
  (ha:a0C Y.ca=true:=by kernel_rfl) (hb:a0C Y.cb=true:=by kernel_rfl) (hd0:Y.d=d0:=by kernel_rfl) (hkb0:Nat.beq (a0O kb0 (some d0)) kb=true:=by kernel_rfl):b3T P (a0O kb0 (some Y.d)) Y:=by
 rw [hd0];have hkb:=e56 hkb0;obtain ⟨g,ps,hcode⟩:∃g ps,a0S P f0 id= .rangeFunc g ps Y.ca Y.cb:=by
  cases hp:a0S P f0 id<;>rw [hp] at hcode0<;>simp only [c7k] at hcode0<;>first|(cases hcode0;done)|skip
  cases hcode0;exact ⟨_,_,rfl⟩
 rw [hkb];refine ⟨ha,hb,fun b hb=> ?_⟩
 rw [hs];refine s.ok.inner h1 b ?_;rw [hcode];simp only [a0K,e6k];exact .inr (by simpa using hb)
theorem d4j {P:Program} {kb:Nat} {Y:a1y} (hs:Y.hs={}) (ha:a0C Y.ca=true:=by kernel_rfl) (hb:a0C Y.cb=true:=by kernel_rfl):b3T P kb Y:=by
 refine ⟨ha,hb,fun b _ id f hl=> ?_⟩
 rw [hs] at hl;unfold a8M at hl;split at hl
 ·cases hl
 ·cases hl
def pcR (P:Program) (Y:a1y) (ts:List Nat) (sp:a1y→List V→AL Obj→Option (List (Bool×Res))) (fnid:FuncId) (e:TypeId) (kb f id:Nat) (sh:Sh) (L:List Lf) (a b:List Nat):Option (Ex×St):=rfC P Y ts sp fnid e kb (a0S P f id) (a16 sh L) (fun e st=>some (e,a3N a b st))
def Sg.rf {X:Ctx} {P:Program} {kb f:Nat} {Y:a1y} {ts:List Nat} (s:Sg P kb f X) {id na:Nat} {a b:List Nat} {sh shf:Sh} {Af:List Lf→List (Bool×Res)} {fnid:FuncId} {e:TypeId} {g:Operand} (A:List Lf→List (Bool×(Ex×St))) (hf:d0y Y P fnid na shf Af) (h:∀L x,a4v (A L) some=some x→pcR P Y ts (spY na shf Af) fnid e kb f id sh L a b=some x)
  (hcode:a0S P f id= .rangeFunc g Y.ps.toArray Y.ca Y.cb) (he:a6G P fnid=true:=by kernel_rfl) (h1:b45 P f id=true:=by kernel_rfl):Sg P kb f X:=
 ⟨{s.h with los:=(id,c56 sh A)::s.h.los},a02.cons s.ok h1 (c7j (enters_of he) hf hcode a b (a69 (Q:=fun st x=>rfC P Y ts (spY na shf Af) fnid e kb (a0S P f id) st (fun e st=>some (e,a3N a b st))=some x) h))⟩
end Go.AM
end
