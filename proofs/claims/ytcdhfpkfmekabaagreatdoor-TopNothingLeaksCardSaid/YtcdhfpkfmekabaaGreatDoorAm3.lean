/- The abstract machine in a round: what it says of plain walks, e5e of walks within a fence. -/
import Derived.Test.YtcdhfpkfmekabaaGreatDoorAm2
import Derived.ControlIn
import Derived.OrdersIn
import Derived.RangeFuncCalls
import Derived.Deep.LoopGhost
import Derived.Maps.RangeRun
import Derived.RangeFuncRecord
import Derived.CallsIn
import Derived.Orders
import Derived.KernelRfl
import Derived.ProofKit
import Derived.Carry
import Derived.ChangeSame
import Derived.IntWalk
import Derived.RangeFuncIn
import Derived.TacticsIn
set_option linter.all false
set_option maxRecDepth 100000
set_option maxHeartbeats 4000000
noncomputable section
namespace Go.AM
open Go
section
variable {P:Program} {N n0 kb:Nat} {F:Nat→Prop} {B M0:a0A} {w0:World} {e0:a6l} {env:Env} {st:St} {a:Act} {w:World}
theorem b3I {α β γ:Type} {R:β→γ→Prop} {f:α→β} {g:α→γ}:∀{l:List α},(∀x∈l,R (f x) (g x))→All2 R (l.map f) (l.map g)
 | [],_=>trivial
 |x::l,h=>⟨h x (by simp),b3I fun y hy=>h y (by simp [hy])⟩
theorem a68 {S:a0A} {k:CK} {d:D} {v:Value} (h:a1D P w S k d v) (hn:d.isNil=true):(∃e,k= .sl e)→v= .slice none 0 0:=by
 intro he;cases h with
 |nil=>rfl
 |emp e d a cap h1=>rw [hn] at h1;cases h1
 |sl e d b off cap cv h1=>rw [hn] at h1;cases h1
 |_=>obtain ⟨e,he⟩:=he;cases he
theorem b8U {fn:Nat} {vs:List Value}:fnW false fn vs= .func (.func fn) #[] vs.toArray:=rfl
theorem d0c {fn:Nat} {vs:List Value}:fnW true fn vs= .func (.func (fn-bm)) vs.toArray #[]:=rfl
theorem d4d {fn:Nat} {α:Type} {caps:List α} {b:Bool} (h:a1K fn caps=b):e3y fn caps=bif b then fn-bm else fn:=by unfold e3y;rw [h]
theorem b8V {fn:Nat} {α β:Type} {caps:List α} {xs ys:List β} {b:Bool} (h:a1K fn caps=b):c0E fn caps xs ys=bif b then ys++xs else xs++ys:=by unfold c0E;rw [h]
theorem c6X {o:Oper} {c:Call} {f:Operand} {g:FuncId} {us:Array Value} (ho:o.op= .call c) (hc:c.callee= .value f) (hv:a.eval f= .func (.func g) us #[]) (he:a6x P g):
  (execOp a.eval o).run P w= .ok (.enter g (us++c.args.map a.eval)) w:=by
 simp only [execOp,ho,resolve,hc,hv,Deferred.ofValue,e6b,e6c,e58,invoke];rw [Array.append_empty];exact a6A he
theorem c45 {fn:Nat} {α:Type}:a1K fn ([]:List α)=false:=rfl
theorem b8W {R:Type} {d:Nat} {c:Call} {s x:Operand} {T T':TypeId} {k:St→Option R} {r:R} {o:Oper} {Q:Exit→Act→World→Prop} {el:TypeId} {ys:List D}
  (h:Rel P N n0 B M0 w0 F e0 env st a w) (hd:d<N) (hF:¬F (kb+d)) (ho:o.op= .call c) (hdst:o.dst=some d) (hc:c.callee= .builtin .append) (ha:c.args.toList=[s,x]) (ht:c.argTypes.toList=[T,T']) (hT:T=T')
  (hel:a0h P T=some el) (hz:(a2U P el).isNone=false) (hys:e0G st.mem el (evu st x)=some ys)
  (hk : (match evu st s with
      | .c (.o key)=>(match get st.mem key with
       | some (.row el' ex nl xs)=>bif Nat.beq el el'&&a0V P el (xs.length+ys.length) then
         k ((a0o (kb+d) (.row el ex (ys.isEmpty&&nl) (xs++ys)) {st with mem:=del st.mem key}).put (some d) (.c (.o (kb+d)))) else none
       | some (.krow el' i q c xs)=>bif Nat.beq el el'&&a0V P el (xs.length+ys.length)&& !ys.isEmpty then
         k ((a0o (kb+d) (.krow el i q (inval (kb+d) c) (xs++ys)) {st with mem:=del st.mem key}).put (some d) (.c (.o (kb+d)))) else none
       |_=>none)
      | .c (.sl _ true [])| .c (.v (.slice none 0 0))=>bif a0V P el ys.length then
        k ((a0o (kb+d) (.row el true ys.isEmpty ys) st).put (some d) (.c (.o (kb+d)))) else none
      | .c (.z el' n)=>bif Nat.beq el el'&&a0V P el ys.length then (bif ys.isEmpty then k (st.put (some d) (.c (.sl el n []))) else
        k ((a0o (kb+d) (.row el true false ys) st).put (some d) (.c (.o (kb+d))))) else none
      |_=>none)=some r):o.wp P a w (a0P P N n0 B M0 w0 F e0 k r) Q:=by
 subst hT;have ha':c.args= #[s,x]:=by rw [←Array.toList_inj];exact ha
 have ht':c.argTypes= #[T,T]:=by rw [←Array.toList_inj];exact ht
 have hexec:∀{v:Value} {w':World},(Builtin.append_ #[T,T] o.type #[a.eval s,a.eval x]).run P w= .ok v w'→(execOp a.eval o).run P w= .ok (.value v) w':=by
  intro v w' hr;simp only [execOp,ho,resolve,hc,ha',ht',e6b,e6c,e58,invoke,builtin,List.map_toArray,List.map_cons,List.map_nil,hr]
 obtain ⟨z,hz'⟩:=Option.isSome_iff_exists.1 (by rw [←Option.not_isNone,hz];rfl:(a2U P el).isSome=true)
 obtain ⟨zv,_,⟨i,hi,hiz⟩,hzs,_⟩:=a08 hz';have hsrc:=b5o h (h.evu x) hys;have es:=h.evu s;have fin:∀{v:Value} {w':World} {env':Env} {o':Obj} {mem0:AL Obj},(Builtin.append_ #[T,T] o.type #[a.eval s,a.eval x]).run P w= .ok v w'→Rel P N n0 B M0 w0 F e0 env' (a0o (kb+d) o' {st with mem:=mem0}) a w'→v=(env' (kb+d)).hdr→
   k ((a0o (kb+d) o' {st with mem:=mem0}).put (some d) (.c (.o (kb+d))))=some r→o.wp P a w (a0P P N n0 B M0 w0 F e0 k r) Q:=by
  intro v w' env' o' mem0 h1 h2 h3 h4;refine a0z (hexec h1) ?_;rw [hdst];exact ⟨env',_,h2.put (fun _ hdd=>by cases hdd;exact hd) (a0l.of (x:= .c (.o (kb+d))) h3),h4⟩
 have nilCase:a.eval s= .slice none 0 0→ ∀(mem0:AL Obj) (ex:Bool),(∀k ob,get mem0 k=some ob→get st.mem k=some ob)→a0V P el ys.length=true→
   k ((a0o (kb+d) (.row el ex ys.isEmpty ys) {st with mem:=mem0}).put (some d) (.c (.o (kb+d))))=some r→o.wp P a w (a0P P N n0 B M0 w0 F e0 k r) Q:=by
  intro hs mem0 ex hsub hroom hkk;simp only [a0V,e57,decide_eq_true_eq] at hroom;obtain ⟨v,w',env',q1,q2,q3⟩:=a58 h hsub (ty:=o.type) hel hi hiz hzs hsrc hroom.1 hroom.2 (kb+d) hF ex;rw [←hs] at q1;exact fin q1 q2 q3 hkk
 split at hk
 ·rename_i key hkey
  rw [hkey] at es;have hsv:a.eval s=(env key).hdr:=es;split at hk
  ·rename_i el' ex nl xs hg
   cases hb:Nat.beq el el'&&a0V P el (xs.length+ys.length) with
   |false=>rw [hb] at hk;cases hk
   | true=>
    rw [hb] at hk;simp only [cond_true] at hk;simp only [e57] at hb;have:=e56 hb.1;subst this;have hroom:=hb.2;cases nl with
    | true=>
     obtain ⟨_,⟨_,rfl,hnil⟩|⟨hf,_⟩⟩:=h.ob _ _ hg
     ·rw [List.length_nil,Nat.zero_add] at hroom
      refine nilCase (hsv.trans hnil) (del st.mem key) ex (fun k ob hgk=>(a0p k ob hgk).2) hroom ?_
      simpa using hk
     ·cases hf
    |false=>
     simp only [a0V,e57,decide_eq_true_eq] at hroom;obtain ⟨v,w',env',q1,q2,q3⟩:=b1I h (ty:=o.type) hel hg hi hiz hzs hsrc hroom.1 hroom.2 (kb+d) hF;rw [←hsv] at q1;exact fin q1 q2 q3 (by simpa using hk)
  ·rename_i el' i q c xs hg
   cases hb:Nat.beq el el'&&a0V P el (xs.length+ys.length)&& !ys.isEmpty with
   |false=>rw [hb] at hk;cases hk
   |true=>
    rw [hb] at hk;simp only [cond_true] at hk;simp only [e57,Bool.not_eq_true'] at hb;have:=e56 hb.1.1;subst this;have hroom:=hb.1.2;simp only [a0V,e57,decide_eq_true_eq] at hroom;obtain ⟨v,w',env',q1,q2,q3⟩:=b8L h (ty:=o.type) hel hi hiz hzs hg hsrc hb.2 hroom.1 hroom.2 (kb+d) hF;rw [←hsv] at q1;exact fin q1 q2 q3 hk
  ·cases hk
 ·rename_i hsl
  rw [hsl] at es;cases hb:a0V P el ys.length with
  |false=>rw [hb] at hk;cases hk
  |true=>
   rw [hb] at hk;refine nilCase ?_ st.mem true (fun _ _ hg=>hg) hb hk
   exact a68 es rfl ⟨_,rfl⟩
 ·rename_i hsl
  rw [hsl] at es;cases hb:a0V P el ys.length with
  |false=>rw [hb] at hk;cases hk
  |true=>
   rw [hb] at hk;exact nilCase es st.mem true (fun _ _ hg=>hg) hb hk
 ·rename_i el' n hz0
  rw [hz0] at es;cases hb:Nat.beq el el'&&a0V P el ys.length with
  |false=>rw [hb] at hk;cases hk
  | true=>
   rw [hb] at hk;simp only [cond_true] at hk;simp only [e57] at hb;have:=e56 hb.1;subst this;have hroom:=hb.2;rcases es with ⟨rfl,hs⟩|⟨rfl,ad,hs⟩
   ·cases ye:ys.isEmpty with
    |false=>rw [ye] at hk;exact nilCase hs st.mem true (fun _ _ hg=>hg) hroom (by rw [ye];exact hk)
    | true=>
     rw [ye] at hk;have:ys=[]:=by simpa using ye
     subst this;obtain ⟨v,w',env',q1,q2,q3⟩:=a58 h (mem0:=st.mem) (fun _ _ hg=>hg) (ty:=o.type) hel hi hiz hzs hsrc (by simp) (by simp [a0c]) (kb+d) hF true
     rw [←hs] at q1
     -- nothing is appended to nil: nil
     have q4:(Builtin.append_ #[T,T] o.type #[a.eval s,a.eval x]).run P w= .ok (.slice none 0 0) w:=by
      rw [hs];obtain ⟨hu,hsz,hty,hpos⟩:=a0e hel;rcases hsrc.src with ⟨ao,c,hx,_⟩|⟨b,o',c,hx,_⟩
      ·rw [hx]
       cases ao<;>simp [Builtin.append_,run_underlying hu,sizeOf,typeInfo,hi,Builtin.lenOf,Builtin.firstCells,loadCells,loadCellsFrom]
      ·rw [hx]
       simp [Builtin.append_,run_underlying hu,sizeOf,typeInfo,hi,Builtin.lenOf,Builtin.firstCells,loadCells,loadCellsFrom]
     refine a0z (hexec q4) ?_;rw [hdst];exact ⟨_,_,h.put (fun _ hdd=>by cases hdd;exact hd) (a0l.of (x:= .c (.sl el true [])) (a1D.nil el _ rfl rfl)),hk⟩
   ·obtain ⟨hu,hsz,hty,hpos⟩:=a0e hel
    cases ye:ys.isEmpty with
    | true=>
     rw [ye] at hk;have:ys=[]:=by simpa using ye
     subst this;have q4:(Builtin.append_ #[T,T] o.type #[a.eval s,a.eval x]).run P w= .ok (.slice (some ad) 0 0) w:=by
      rw [hs];rcases hsrc.src with ⟨ao,c,hx,_⟩|⟨b,o',c,hx,_⟩
      ·rw [hx]
       cases ao<;>simp [Builtin.append_,run_underlying hu,sizeOf,typeInfo,hi,Builtin.lenOf,Builtin.firstCells,storeCells,loadCells,loadCellsFrom]
      ·rw [hx]
       simp [Builtin.append_,run_underlying hu,sizeOf,typeInfo,hi,Builtin.lenOf,Builtin.firstCells,storeCells,loadCells,loadCellsFrom]
     refine a0z (hexec q4) ?_;rw [hdst];exact ⟨_,_,h.put (fun _ hdd=>by cases hdd;exact hd) (a0l.of (x:= .c (.sl el false [])) (a1D.emp el _ ad 0 rfl rfl (Nat.zero_le _))),hk⟩
    |false=>
     rw [ye] at hk;simp only [a0V,e57,decide_eq_true_eq] at hroom;obtain ⟨v,w',env',q1,q2,q3⟩:=b1H h (mem0:=st.mem) (fun _ _ hg=>hg) (ty:=o.type) (ad:=ad) hel hi hiz hzs hsrc ye hroom.1 hroom.2 (kb+d) hF true
     rw [←hs] at q1;exact fin q1 q2 q3 hk
 ·cases hk
theorem a3S {R:Type} {d:Nat} {c:Call} {s x:Operand} {T T':TypeId} {k:St→Option R} {r:R} {o:Oper} {Q:Exit→Act→World→Prop} {el:TypeId} {k2 q:Nat} {cc:C} {dd:D}
  (h:Rel P N n0 B M0 w0 F e0 env st a w) (hd:d<N) (hF:¬F (kb+d)) (ho:o.op= .call c) (hdst:o.dst=some d) (hc:c.callee= .builtin .append) (ha:c.args.toList=[s,x]) (ht:c.argTypes.toList=[T,T']) (hT:T=T')
  (hel:a0h P T=some el) (hz:(a2U P el).isNone=false) (hx:evu st x= .c (.o k2)) (hg2:get st.mem k2=some (.krow el 0 q cc [dd])) (hp:a1F cc=true)
  (hk:(∃k1 xs,evu st s= .c (.o k1)∧get st.mem k1=some (.row el true false xs)∧a0V P el (xs.length+1)=true∧k ((a0o (kb+d) (.krow el xs.length q (inval (kb+d) cc) (xs++[dd])) {st with mem:=del (del st.mem k2) k1}).put (some d) (.c (.o (kb+d))))=some r)∨
   ((∃e,evu st s= .c (.sl e true []))∨evu st s= .c (.v (.slice none 0 0))∨ ∃k1 e1 ex xs,evu st s= .c (.o k1)∧get st.mem k1=some (.row e1 ex true xs))∧a0V P el 1=true∧k ((a0o (kb+d) (.krow el 0 q (inval (kb+d) cc) [dd]) {st with mem:=del st.mem k2}).put (some d) (.c (.o (kb+d))))=some r):o.wp P a w (a0P P N n0 B M0 w0 F e0 k r) Q:=by
 subst hT;have ha':c.args= #[s,x]:=by rw [←Array.toList_inj];exact ha
 have ht':c.argTypes= #[T,T]:=by rw [←Array.toList_inj];exact ht
 have hexec:∀{v:Value} {w':World},(Builtin.append_ #[T,T] o.type #[a.eval s,a.eval x]).run P w= .ok v w'→(execOp a.eval o).run P w= .ok (.value v) w':=by
  intro v w' hr;simp only [execOp,ho,resolve,hc,ha',ht',e6b,e6c,e58,invoke,builtin,List.map_toArray,List.map_cons,List.map_nil,hr]
 obtain ⟨z,hz'⟩:=Option.isSome_iff_exists.1 (by rw [←Option.not_isNone,hz];rfl:(a2U P el).isSome=true)
 obtain ⟨zv,_,⟨i,hi,hiz⟩,hzs,_⟩:=a08 hz';have es:=h.evu s;have ex:=h.evu x;rw [hx] at ex;have hxv:a.eval x=(env k2).hdr:=ex;have fin:∀{v:Value} {w':World} {env':Env} {o':Obj} {mem0:AL Obj},(Builtin.append_ #[T,T] o.type #[a.eval s,a.eval x]).run P w= .ok v w'→Rel P N n0 B M0 w0 F e0 env' (a0o (kb+d) o' {st with mem:=mem0}) a w'→v=(env' (kb+d)).hdr→
   k ((a0o (kb+d) o' {st with mem:=mem0}).put (some d) (.c (.o (kb+d))))=some r→o.wp P a w (a0P P N n0 B M0 w0 F e0 k r) Q:=by
  intro v w' env' o' mem0 h1 h2 h3 h4;refine a0z (hexec h1) ?_;rw [hdst];exact ⟨env',_,h2.put (fun _ hdd=>by cases hdd;exact hd) (a0l.of (x:= .c (.o (kb+d))) h3),h4⟩
 rcases hk with ⟨k1,xs,hs,hg1,hroom,hk⟩|⟨hs,hroom,hk⟩
 ·rw [hs] at es
  have hsv:a.eval s=(env k1).hdr:=es;simp only [a0V,e57,decide_eq_true_eq] at hroom;obtain ⟨v,w',env',q1,q2,q3⟩:=b8J h (ty:=o.type) hel hi hiz hzs hg1 hg2 hp hroom.1 hroom.2 (kb+d) hF;rw [←hsv,←hxv] at q1;exact fin q1 q2 q3 hk
 ·have hsv:a.eval s= .slice none 0 0:=by
   rcases hs with ⟨e,hs⟩|hs|⟨k1,e1,e2,xs,hs,hg1⟩
   ·rw [hs] at es;exact a68 es rfl ⟨_,rfl⟩
   ·rw [hs] at es;exact es
   ·rw [hs] at es
    have hsv:a.eval s=(env k1).hdr:=es;rw [hsv];obtain ⟨_,⟨_,_,h1⟩|⟨hn,_⟩⟩:=h.ob k1 _ hg1
    ·exact h1
    ·cases hn
  simp only [a0V,e57,decide_eq_true_eq] at hroom;obtain ⟨v,w',env',q1,q2,q3⟩:=b8K h (mem0:=del st.mem k2) (ty:=o.type) hel hi hiz hzs (fun k ob hgk=>(a0p k ob hgk).2) hg2 hp hroom.1 (kb+d) hF
  rw [←hsv,←hxv] at q1;exact fin q1 q2 q3 hk
theorem b8X {S:a0A} {x:V} {v:Value} (hp:a1F (b8n x)=true) (h:a0s P env S w x v):a0s P env S w (.c (b8n x)) v:=by
 cases x<;>first|exact h|cases hp
theorem a0t {o:Oper} {d:Nat} (hv:a1P P o=false) (he:a0F o=false) (hd:o.dst=some d):a0v P kb o (kb+d)=true:=by
 unfold a0v;rw [hv,he,hd];simp [a0k]
theorem c46 {R:Type} {cl:a0i} (hcl:a0m P cl) {o:Oper} {k:St→Option R} {r:R} {Q:Exit→Act→World→Prop} (hF:∀k,a0v P kb o k=true→ ¬F k) (hv:a1P P o=false) (h:Rel P N n0 B M0 w0 F e0 env st a w) (hd:∀d,o.dst=some d→d<N) (hk:e0p P cl kb o st k=some r):
  o.wp P a w (a0P P N n0 B M0 w0 F e0 k r) Q:=by
 unfold e0p at hk;simp only at hk;split at hk
 ·rename_i T d ho hdst
  cases hdb:d33 P T with
  |true=>
   rw [hdb] at hk;simp only [cond_true] at hk;split at hk
   ·rename_i z hz;exact b8N h (hd d hdst) (hF _ (a0t hv (by simp [a0F,ho]) hdst)) ho hdst hdb hz hk
   ·cases hk
  |false=>
   rw [hdb] at hk;simp only [cond_false] at hk;split at hk
   ·rename_i z hz;exact c0T h (hd d hdst) (hF _ (a0t hv (by simp [a0F,ho]) hdst)) ho hdst hz hk
   ·cases hk
 ·rename_i T x d ho hdst
  cases hdb:d33 P T with
  | true=>
   rw [hdb] at hk;simp only [cond_true] at hk;split at hk
   ·rename_i z hz
    have hsh:=Rel.share (a3l (evu st x)) (mem:=st.mem) h;exact c4Z hsh (hd d hdst) (hF _ (a0t hv (by simp [a0F,ho]) hdst)) ho hdst hdb (by rw [a5G];exact hz) hk
   ·cases hk
  |false=>
   rw [hdb] at hk;simp only [cond_false] at hk;split at hk
   ·rename_i z hz;exact c6Q h (hd d hdst) (hF _ (a0t hv (by simp [a0F,ho]) hdst)) ho hdst hz hk
   ·cases hk
 ·rename_i T ad x ho
  split at hk
  ·rename_i c mem hs
   cases c with
   |false=>cases hk
   |true=>
    have hsh:=Rel.share (bif c6o st.mem (evu st ad) then a3l (evu st x) else []) (mem:=st.mem) h
    exact c0U hsh hd ho (by rw [a5G,a5G];exact hs) hk
  ·cases hk
 ·rename_i T n parts d ho hdst
  split at hk
  ·rename_i el hel
   split at hk
   ·rename_i z hz
    have hz:a2U P el=some z:=by
     cases hnp:c2j P el (parts.toList.map fun (i,x)=>(i,evu st x)) with
     |true=>rw [hnp] at hz;cases hz
     |false=>rw [hnp] at hz;exact hz
    split at hk
    ·rename_i ds hds
     cases hn:decide (n*a0a P el≤16777216) with
     |false=>rw [hn] at hk;cases hk
     |true=>
      rw [hn] at hk;have hsh:=Rel.share ((parts.toList.map fun (i,x)=>(i,evu st x)).flatMap fun p=>a3l p.2) (mem:=st.mem) h
      exact b1G hsh (hd d hdst) (hF _ (a0t hv (by simp [a0F,ho]) hdst)) ho hdst hel hz (by simpa only [a5G] using hds) (by simpa using hn) hk
    ·split at hk
     ·rename_i cs hps
      split at hk
      ·rename_i q key dd hkd
       cases hn:Nat.beq n 1&&a0d P el&&Nat.beq cs.length (a0a P el)&&Nat.ble (a0a P el) 16777216 with
       |false=>rw [hn] at hk;cases hk
       |true=>
        rw [hn] at hk;simp only [e57] at hn;obtain ⟨⟨⟨n1,n2⟩,n3⟩,n4⟩:=hn;have:=e56 n1;subst this;have hsh:=Rel.share ((parts.toList.map fun (i,x)=>(i,evu st x)).flatMap fun p=>a3l p.2) (mem:=st.mem) h
        exact b0r hsh (hd d hdst) (hF _ (a0t hv (by simp [a0F,ho]) hdst)) ho hdst hel hz (by simpa only [a5G] using hps) hkd n2 (e56 n3) (e6g n4) hk
      ·cases hk
     ·cases hk
   ·split at hk
    ·rename_i z hz
     split at hk
     ·rename_i cs hcs
      cases hb:Nat.beq (a0a P el) 1&&Nat.blt 0 n&&decide (n≤16777216) with
      |false=>rw [hb] at hk;cases hk
      |true=>
       rw [hb] at hk;simp only [e57,decide_eq_true_eq] at hb;exact b0q h (hd d hdst) (hF _ (a0t hv (by simp [a0F,ho]) hdst)) ho hdst hel hz hcs (e56 hb.1.1) (e6g hb.1.2) hb.2 hk
     ·cases hk
    ·cases hk
  ·cases hk
 ·rename_i T l c d ho hdst
  split at hk
  ·rename_i el n m hel hl hc
   split at hk
   ·rename_i z hz
    cases hb:decide (0≤n)&&decide (n≤m)&&a0V P el m.toNat with
    |false=>rw [hb] at hk;cases hk
    |true=>
     rw [hb] at hk;simp only [e57,decide_eq_true_eq] at hb;exact b3z h (hd d hdst) (hF _ (a0t hv (by simp [a0F,ho]) hdst)) ho hdst hel hl hc hz hb.1.1 hb.1.2 hb.2 hk
   ·cases hk
  ·cases hk
 ·rename_i T x lo hi mx d ho hdst
  unfold b3b at hk;split at hk
  ·rename_i key n hh hbc
   have hb':(evu st x= .c (.bs key n)∨evu st x= .c (.bx key n))∧lo=none∧hi=some hh∧mx=none:=by
    unfold d37 at hbc;split at hbc
    ·rename_i he;cases hbc;exact ⟨.inl he,rfl,rfl,rfl⟩
    ·rename_i he;cases hbc;exact ⟨.inr he,rfl,rfl,rfl⟩
    ·cases hbc
   obtain ⟨hx',rfl,rfl,rfl⟩:=hb';split at hk
   ·rename_i kk j hj
    cases hb:(a0h P T).isSome&&decide (0≤j)&&decide (j≤n)&&decide (n≤a0c) with
    |false=>rw [hb] at hk;cases hk
    |true=>
     rw [hb] at hk;simp only [e57,decide_eq_true_eq] at hb;exact b40 h (hd d hdst) ho hdst hx' hj hb.1.1.1 hb.1.1.2 hb.1.2 hb.2 hk
   ·cases hk
  rename_i hbn;clear hbn;split at hk
  ·rename_i key hh hoc
   unfold d36 at hoc;split at hoc
   ·rename_i key' h0 hex
    split at hoc
    ·simp only [e55,e6q] at hoc
     obtain ⟨rfl,rfl⟩:=hoc;split at hk
     ·rename_i el nl xs kk n el' hg hhi hel
      cases hb:Nat.beq el el'&&decide (0≤n)&&decide (n≤xs.length) with
      |false=>rw [hb] at hk;cases hk
      |true=>
       rw [hb] at hk;simp only [e57,decide_eq_true_eq] at hb;have:=e56 hb.1.1;subst this;exact b4Z h (hd d hdst) (hF _ (a0t hv (by simp [a0F,ho]) hdst)) ho hdst hex hg hhi hel hb.1.2 hb.2 hk
     ·cases hk
    ·cases hoc
   ·cases hoc
  ·have hsh:=Rel.share (a3l (evu st x)) (mem:=st.mem) h
   have opt:∀q:Option Operand,(q.map (evu st)=none∧q.map a.eval=none)∨ ∃l v,q.map (evu st)=some l∧q.map a.eval=some v∧a0l P env (Sof P B M0 n0 env (a0w st.mem (a3l (evu st x))) w) w a l v:=by
    intro q;cases q with
    |none=>exact .inl ⟨rfl,rfl⟩
    |some q=>
     have:=hsh.evu q;rw [a5G] at this;exact .inr ⟨_,_,rfl,rfl,a0l.of this⟩
   have hx:a0s P env (Sof P B M0 n0 env (a0w st.mem (a3l (evu st x))) w) w (b52 (a0w st.mem (a3l (evu st x))) (evu st x)) (a.eval x):=by
    have:=hsh.evu x;rw [a5G] at this;exact a5I hsh.ob hsh.rows this
   split at hk
   ·split at hk
    ·rename_i c v hsv
     cases c with
     |false=>cases hk
     | true=>
      obtain ⟨v',q1,q2⟩:=b07 (ac:=a) hx (opt lo) (opt hi) hsv;refine a0z (v:=v') (w':=w) ?_ ?_
      ·simp only [execOp,ho,Option.map_none,e6b,q1,e58,e6c]
      ·rw [hdst]
       exact ⟨_,_,hsh.put (fun _ hdd=>by cases hdd;exact hd d hdst) (a0l.of q2),hk⟩
    ·cases hk
   ·rename_i m _
    split at hk
    ·cases hk
    ·rename_i hh _
     cases hz:b5c hh&&b5c m&&lo.isNone with
     | true=>
      rw [hz] at hk;simp only [cond_true] at hk;simp only [e57] at hz;have zop:∀q:Operand,b5c q=true→ ∃kk,a.eval q= .int kk 0:=by
       intro q hq;unfold b5c at hq;split at hq
       ·rename_i kk;exact ⟨kk,rfl⟩
       ·cases hq
      obtain ⟨k1,e1⟩:=zop hh hz.1.1;obtain ⟨k2,e2⟩:=zop m hz.1.2;have e3:lo=none:=by cases lo with
       |none=>rfl
       |some _=>cases hz.2
      subst e3;split at hk
      ·rename_i e' el n xs hu hdx
       cases hb:Nat.beq el e'&&tyB P el with
       |false=>rw [hb] at hk;cases hk
       | true=>
        rw [hb] at hk;simp only [e57] at hb;have:=e56 hb.1;subst this;rw [hdx] at hx;obtain ⟨v',q1,q2⟩:=b8B (k1:=k1) (k2:=k2) hx hu hb.2;refine a0z (v:=v') (w':=w) ?_ ?_
        ·simp only [execOp,ho,Option.map_none,e6r,e1,e2,e6b,q1,e58,e6c]
        ·rw [hdst]
         exact ⟨_,_,hsh.put (fun _ hdd=>by cases hdd;exact hd d hdst) (a0l.of q2),hk⟩
      ·cases hk
     | false=>
      rw [hz] at hk;simp only [cond_false] at hk;split at hk
      ·rename_i c v hsv
       cases c with
       |false=>cases hk
       | true=>
        have h1:=hsh.evu hh;have h2:=hsh.evu m;rw [a5G] at h1 h2;obtain ⟨v',q1,q2⟩:=b8A (ac:=a) hx (opt lo) h1 h2 hsv;refine a0z (v:=v') (w':=w) ?_ ?_
        ·simp only [execOp,ho,e6r,e6b,q1,e58,e6c]
        ·rw [hdst]
         exact ⟨_,_,hsh.put (fun _ hdd=>by cases hdd;exact hd d hdst) (a0l.of q2),hk⟩
      ·cases hk
 ·rename_i s t x d ho hdst
  split at hk
  ·rename_i el l hs hel hx
   cases hb:b4W P el&&Nat.ble l.length a0c with
   |false=>rw [hb] at hk;cases hk
   |true=>
    rw [hb] at hk;simp only [e57] at hb;exact b6l h (hd d hdst) (hF _ (a0t hv (by simp [a0F,ho]) hdst)) ho hdst hs hel hx hb.1 (e6g hb.2) hk
  ·rename_i u0 el key hs hel hx
   split at hk
   ·rename_i el' xs hg
    cases hb:Nat.beq s t&&Nat.beq el el'&&b4W P el with
    |false=>rw [hb] at hk;cases hk
    |true=>
     rw [hb] at hk;simp only [e57] at hb;have e2:=e56 hb.1.2;subst e2;exact c41 h (hd d hdst) ho hdst (e56 hb.1.1) hel hx hg hb.2 hk
   ·cases hk
  ·cases hk
 ·rename_i T d ho hdst
  split at hk
  ·exact b6k h (hd d hdst) (hF _ (a0t hv (by simp [a0F,ho]) hdst)) ho hdst hk
  ·cases hk
 ·rename_i T m key x ho
  split at hk
  ·rename_i mk kt' vt' hm hu
   split at hk
   ·rename_i kt vt es hg
    cases hb:Nat.beq kt kt' with
    |false=>rw [hb] at hk;cases hk
    | true=>
     rw [hb] at hk;have:=e56 hb;subst this;simp only [cond_true] at hk;split at hk
     ·rename_i kd vd hkd hvd
      split at hk
      ·rename_i b hself
       exact a6v h hd (by simp only [execOp,ho]) hm hu hg hkd hvd hself (c6L hself es) hk
      ·cases hk
     ·cases hk
   ·cases hk
  ·cases hk
 ·rename_i T m key x ho
  split at hk
  ·rename_i mk kt' vt' hm hu
   split at hk
   ·rename_i kt vt es hg
    cases hb:Nat.beq kt kt' with
    |false=>rw [hb] at hk;cases hk
    | true=>
     rw [hb] at hk;have:=e56 hb;subst this;simp only [cond_true] at hk;split at hk
     ·rename_i kd vd hkd hvd
      split at hk
      ·rename_i b hself
       exact a6v h hd (by simp only [execOp,ho]) hm hu hg hkd hvd hself (c6L hself es) hk
      ·cases hk
     ·rename_i kd hkd hvd
      split at hk
      ·rename_i b hself
       cases hp:a1F (b8n (evu st x)) with
       |false=>rw [hp] at hk;cases hk
       |true=>
        rw [hp] at hk;exact b1d (es:=[]) h hd (by simp only [execOp,ho]) hm hu hg (.inr ⟨rfl,_,rfl⟩) hkd (b8X hp (h.evu x)) hself rfl hk
      ·cases hk
     ·cases hk
   ·rename_i kt vt es hg
    cases hb:Nat.beq kt kt' with
    |false=>rw [hb] at hk;cases hk
    | true=>
     rw [hb] at hk;have:=e56 hb;subst this;simp only [cond_true] at hk;split at hk
     ·rename_i kd hkd
      split at hk
      ·rename_i b hself
       split at hk
       ·rename_i hpos
        cases hp:a1F (b8n (evu st x)) with
        |false=>rw [hp] at hk;cases hk
        |true=>
         rw [hp] at hk;exact b1d h hd (by simp only [execOp,ho]) hm hu hg (.inl ⟨_,rfl⟩) hkd (b8X hp (h.evu x)) hself hpos hk
       ·cases hk
      ·cases hk
     ·cases hk
   ·cases hk
  ·cases hk
 ·rename_i T x key d ho hdst
  cases hfm:b51 P T with
  |false=>rw [hfm] at hk;cases hk
  | true =>
   rw [hfm] at hk;simp only [cond_true] at hk;split at hk
   ·rename_i mk kt' vt' hm hu
    split at hk
    ·rename_i kt vt es hg
     cases hb:Nat.beq kt kt'&&Nat.beq vt vt' with
     |false=>rw [hb] at hk;cases hk
     | true=>
      rw [hb] at hk;simp only [e57] at hb;have e1:=e56 hb.1;have e2:=e56 hb.2;subst e1 e2;simp only [cond_true] at hk;split at hk
      ·rename_i kd z hkd hz
       split at hk
       ·rename_i b hself
        rw [b6g] at hk;obtain ⟨v,hrun,hrel⟩:=b6f h.ob h.rows (h.evu x) (h.evu key) hm hu hg hkd hz hself;refine a0z (v:=v) (w':=w) ?_ ⟨env,_,Rel.put h hd (a0l.of hrel),by rw [hdst];exact hk⟩
        simp only [execOp,ho,e6b,hrun,e58,e6c]
       ·cases hk
      ·cases hk
    ·rename_i kt vt es hg
     cases hb:Nat.beq kt kt'&&Nat.beq vt vt' with
     |false=>rw [hb] at hk;cases hk
     | true=>
      rw [hb] at hk;simp only [e57] at hb;have e1:=e56 hb.1;have e2:=e56 hb.2;subst e1 e2;simp only [cond_true] at hk;split at hk
      ·rename_i kd z hkd hz
       split at hk
       ·rename_i b hself
        split at hk
        ·rename_i c hp
         obtain ⟨v,hrun,hrel⟩:=a8V h.ob h.rows (h.evu x) (h.evu key) hm hu hg hkd hz hself hp;refine a0z (v:=v) (w':=w) ?_ ⟨env,_,Rel.put h hd (a0l.of hrel),by rw [hdst];exact hk⟩
         simp only [execOp,ho,e6b,hrun,e58,e6c]
        ·rename_i hp
         obtain ⟨v,hrun,hrel⟩:=a8V h.ob h.rows (h.evu x) (h.evu key) hm hu hg hkd hz hself hp;refine a0z (v:=v) (w':=w) ?_ ⟨env,_,Rel.put h hd (a0l.of hrel),by rw [hdst];exact hk⟩
         simp only [execOp,ho,e6b,hrun,e58,e6c]
        ·cases hk
       ·cases hk
      ·cases hk
    ·cases hk
   ·cases hk
 ·rename_i T x i d ho hdst
  cases hos:b27 P T with
  |false=>rw [hos] at hk;cases hk
  |true=>
   rw [hos] at hk;obtain ⟨y,h1,h2⟩:=c4U hk;obtain ⟨v,hrun,hrel⟩:=a56 h.ob (h.evu x) (h.evu i) h1;refine a0z (v:=v) (w':=w) ?_ ⟨env,_,Rel.put h hd (a0l.of hrel),by rw [hdst];exact h2⟩
   simp only [execOp,ho,e6b,hrun,e58,e6c]
 ·rename_i c ho
  split at hk
  ·rename_i hc
   split at hk
   ·rename_i d s x T T' hdst ha ht
    cases hT:Nat.beq T T' with
    | false=>
     rw [show (!Nat.beq T T')=true by rw [hT];rfl] at hk
     simp only [cond_true] at hk;split at hk
     ·rename_i el ik e' kk n hel hu' hes hex
      split at hk
      ·rename_i z hz
       cases hb:decide (0≤n)&&a0V P el n.toNat with
       |false=>rw [hb] at hk;cases hk
       |true=>
        rw [hb] at hk;simp only [e57,decide_eq_true_eq] at hb;have hs':=h.evu s;rw [hes] at hs';exact b0s h (hd d hdst) (hF _ (a0t hv (by simp [a0F,ho,hc]) hdst)) ho hdst hc ha ht hel hu' (a68 hs' rfl ⟨_,rfl⟩) hex hz hb.1 hb.2 hk
      ·cases hk
     ·rename_i el ik key kk n hel hu' hes hex
      split at hk
      ·rename_i el' ex xs z hg hz
       cases hb:Nat.beq el el'&&decide (0≤n)&&a0V P el (xs.length+n.toNat) with
       |false=>rw [hb] at hk;cases hk
       |true=>
        rw [hb] at hk;simp only [e57,decide_eq_true_eq] at hb;have:=e56 hb.1.1;subst this;exact a7N h (hd d hdst) (hF _ (a0t hv (by simp [a0F,ho,hc]) hdst)) ho hdst hc ha ht hel hu' hes hex hg hz hb.1.2 hb.2 hk
      ·cases hk
     ·rename_i el key l hel hu' hes hex
      split at hk
      ·rename_i el' ex nl xs z hg hz
       cases hb:Nat.beq el el'&&b4W P el&&a0V P el (xs.length+l.length) with
       |false=>rw [hb] at hk;cases hk
       |true=>
        rw [hb] at hk;simp only [e57] at hb;have:=e56 hb.1.1;subst this;exact b3A h (hd d hdst) (hF _ (a0t hv (by simp [a0F,ho,hc]) hdst)) ho hdst hc ha ht hel hu' hes hex hg hz hb.1.2 hb.2 hk
      ·cases hk
     ·rename_i el e' l hel hu' hes hex
      split at hk
      ·rename_i z hz
       cases hb:b4W P el&&a0V P el l.length with
       |false=>rw [hb] at hk;cases hk
       |true=>
        rw [hb] at hk;simp only [e57] at hb;have hs':=h.evu s;rw [hes] at hs';exact a4z h (hd d hdst) (hF _ (a0t hv (by simp [a0F,ho,hc]) hdst)) ho hdst hc ha ht hel hu' (a68 hs' rfl ⟨_,rfl⟩) hex hz hb.1 hb.2 true (mem0:=st.mem) (fun _ _ hg=>hg) hk
      ·cases hk
     ·cases hk
    | true =>
     rw [show (!Nat.beq T T')=false by rw [hT];rfl] at hk
     simp only [cond_false] at hk;split at hk
     ·rename_i el k1 n k2 m hel hes hex
      split at hk
      ·rename_i c1 c2 g1 g2
       cases hb:(a2U P el).isSome&&Nat.beq (a0a P el) 1&&Nat.blt 0 n&&Nat.blt 0 m&&Nat.ble n c1.length&&Nat.ble m c2.length&&a0V P el (n+m)&&a2l (c1.take n++c2.take m) with
       |false=>rw [hb] at hk;cases hk
       |true=>
        rw [hb] at hk;simp only [e57] at hb;obtain ⟨⟨⟨⟨⟨⟨⟨b1,b2⟩,b3⟩,b4⟩,b5⟩,b6⟩,b7⟩,b8⟩:=hb;exact b3B h (hd d hdst) (hF _ (a0t hv (by simp [a0F,ho,hc]) hdst)) ho hdst hc ha ht (e56 hT) hel b1 hes hex g1 g2 (e56 b2) (e6g b3) (e6g b4) (e6g b5) (e6g b6) b7 b8 hk
      ·cases hk
     ·rename_i el hel _
      cases hz:(a2U P el).isNone with
      |true=>rw [hz] at hk;cases hk
      | false=>
       rw [hz] at hk;simp only [cond_false] at hk;split at hk
       ·rename_i ys hys
        exact b8W h (hd d hdst) (hF _ (a0t hv (by simp [a0F,ho,hc]) hdst)) ho hdst hc ha ht (e56 hT) hel hz hys hk
       ·split at hk
        ·rename_i k2 hx
         split at hk
         ·rename_i el2 q cc dd hg2
          split at hk
          ·rename_i k1 hs
           split at hk
           ·rename_i el1 xs hg1
            cases hb:Nat.beq el el1&&Nat.beq el el2&&a0V P el (xs.length+1)&&a1F cc with
            |false=>rw [hb] at hk;cases hk
            |true=>
             rw [hb] at hk;simp only [e57] at hb;obtain ⟨⟨⟨b1,b2⟩,b3⟩,b4⟩:=hb;have e1:=e56 b1;have e2:=e56 b2;subst e1 e2;exact a3S h (hd d hdst) (hF _ (a0t hv (by simp [a0F,ho,hc]) hdst)) ho hdst hc ha ht (e56 hT) hel hz hx hg2 b4 (.inl ⟨k1,xs,hs,hg1,b3,hk⟩)
           ·rename_i e1 xs hg1
            cases hb:Nat.beq el el2&&a0V P el 1&&a1F cc with
            |false=>rw [hb] at hk;cases hk
            |true=>
             rw [hb] at hk;simp only [e57] at hb;have e2:=e56 hb.1.1;subst e2;exact a3S h (hd d hdst) (hF _ (a0t hv (by simp [a0F,ho,hc]) hdst)) ho hdst hc ha ht (e56 hT) hel hz hx hg2 hb.2 (.inr ⟨.inr (.inr ⟨k1,_,_,_,hs,hg1⟩),hb.1.2,hk⟩)
           ·cases hk
          ·rename_i e hs
           cases hb:Nat.beq el el2&&a0V P el 1&&a1F cc with
           |false=>rw [hb] at hk;cases hk
           |true=>
            rw [hb] at hk;simp only [e57] at hb;have e2:=e56 hb.1.1;subst e2;exact a3S h (hd d hdst) (hF _ (a0t hv (by simp [a0F,ho,hc]) hdst)) ho hdst hc ha ht (e56 hT) hel hz hx hg2 hb.2 (.inr ⟨.inl ⟨_,hs⟩,hb.1.2,hk⟩)
          ·rename_i hs
           cases hb:Nat.beq el el2&&a0V P el 1&&a1F cc with
           |false=>rw [hb] at hk;cases hk
           |true=>
            rw [hb] at hk;simp only [e57] at hb;have e2:=e56 hb.1.1;subst e2;exact a3S h (hd d hdst) (hF _ (a0t hv (by simp [a0F,ho,hc]) hdst)) ho hdst hc ha ht (e56 hT) hel hz hx hg2 hb.2 (.inr ⟨.inr (.inl hs),hb.1.2,hk⟩)
          ·cases hk
         ·cases hk
        ·cases hk
     ·cases hk
   ·cases hk
  ·rename_i hc
   split at hk
   ·rename_i x y T T' ha ht
    split at hk
    ·rename_i el key hel hx
     split at hk
     ·rename_i el' xs ys hg hy
      cases hb:Nat.beq el el'&&Nat.beq (a0a P el) 1 with
      |false=>rw [hb] at hk;cases hk
      |true=>
       rw [hb] at hk;simp only [e57] at hb;have:=e56 hb.1;subst this;exact c42 h hd ho hc ha ht hel hx hg hy (e56 hb.2) hk
     ·cases hk
    ·cases hk
   ·cases hk
  ·rename_i f hc
   split at hk
   ·rename_i fn caps hf
    have hfv:a.eval f=fnW (a1K fn caps) fn (caps.map (b1D env)):=by have:=h.evu f;rw [hf] at this;exact this
    split at hk
    ·rename_i v hext
     obtain ⟨rfl,u,hu1,hu2⟩:=c6W (S:=Sof P B M0 n0 env st.mem w) (env:=env) (w:=w) (vs:=c.args.map a.eval) hext (by
      rw [Array.toList_map];refine All2.of_get (by simp) fun j y v hy hv=> ?_
      rw [List.getElem?_map] at hy hv;cases hj:c.args.toList[j]? with
      |none=>rw [hj] at hy;cases hy
      |some x=>
       rw [hj] at hy hv;simp only [e6r,e55] at hy hv;subst hy hv;exact h.evu x)
     rw [c45,b8U] at hfv;refine a0z (v:=u) (w':=w) ?_ ⟨_,_,h.put hd (a0l.of (x:= .c v) hu2),hk⟩;simp only [execOp,ho,resolve,hc,hfv,Deferred.ofValue,e6b,e6c,e58,invoke];simpa using hu1
    ·have hargs:∀mem,Rel P N n0 B M0 w0 F e0 env {st with mem} a w→All2 (a0s P env (Sof P B M0 n0 env mem w) w) (c.args.toList.zipIdx.map (fun (x,i)=>match c.argTypes[i]? with|some T=>coe P T (evu st x)|none=>evu st x)) (c.args.toList.map a.eval):=by
      intro mem hm;refine All2.of_get (by simp) fun j y v hy hv=> ?_
      simp only [List.getElem?_map,List.getElem?_zipIdx,Nat.zero_add] at hy hv;cases hj:c.args.toList[j]? with
      |none=>rw [hj] at hv;cases hv
      |some x=>
       rw [hj] at hy hv;simp only [e6r,e55] at hy hv;subst hy hv;have hx:=hm.evu x;rw [a5G] at hx;split
       ·exact b6h hx
       ·exact hx
     have hent:a0F o=true:=by simp [a0F,ho,hc]
     cases hbd:a1K fn caps with
     | false=>
      rw [d4d hbd,b8V hbd,AM.cond_false rfl,AM.cond_false rfl] at hk;rw [hbd,b8U] at hfv;refine b1i hcl (vs:=c.args.map a.eval++(caps.map (b1D env)).toArray) (fun k h1 h2=>hF k (by unfold a0v;rw [hv,cond_false rfl,hent,cond_true rfl,Nat.ble_eq_true_of_le h1,show Nat.blt k _=true from Nat.ble_eq_true_of_le h2];rfl)) h hd ?_ ?_ hk
      ·intro hent
       simp only [execOp,ho,resolve,hc,hfv,Deferred.ofValue,e6b,e6c,e58,invoke];simpa using a6A hent
      ·intro mem hm
       simp only [Array.toList_append,Array.toList_map];exact All2.append (hargs mem hm) (b3I fun x _=>rfl)
     | true=>
      rw [d4d hbd,b8V hbd,AM.cond_true rfl,AM.cond_true rfl] at hk;rw [hbd,d0c] at hfv;refine b1i hcl (vs:=(caps.map (b1D env)).toArray++c.args.map a.eval) (fun k h1 h2=>hF k (by unfold a0v;rw [hv,cond_false rfl,hent,cond_true rfl,Nat.ble_eq_true_of_le h1,show Nat.blt k _=true from Nat.ble_eq_true_of_le h2];rfl)) h hd ?_ ?_ hk
      ·exact fun hent=>c6X ho hc hfv hent
      ·intro mem hm
       simp only [Array.toList_append,Array.toList_map];exact All2.append (b3I fun x _=>rfl) (hargs mem hm)
   ·cases hk
  ·cases hk
 ·cases hk
end
section
variable {P:Program} {N n0 kb:Nat} {F:Nat→Prop} {B M0:a0A} {w0:World} {e0:a6l} {env:Env} {st:St} {a:Act} {w:World}
theorem c6Y {a:Act} {t:Nat} {x:Bool} (h:a.tmps.getD t undef= .bool x):a.tmps[t]? =some (.bool x):=by
 rw [e6i] at h;cases hg:a.tmps[t]? with
 |none=>rw [hg] at h;cases h
 |some v=>rw [hg] at h;simp only [Option.getD_some] at h;rw [h]
theorem a15 {t:Nat} {x want:Bool} (h:a.tmps.getD t undef= .bool x):a01 a t want↔x=want:=by
 unfold a01;rw [c6Y h];simp
theorem a3n {t:Nat} {want:Bool} (h:a.tmps.getD t undef=undef):¬a01 a t want:=by
 intro hy;unfold a01 at hy;rw [e6i,hy] at h;cases h
theorem d5i {S:a0A} {y:V} {z:Bool} {v:Value} (h:toB y=some z) (hv:a0s P env S w y v):v= .bool z:=by
 unfold toB at h;split at h
 ·simp only [e55] at h;subst h;exact hv
 ·simp only [e55] at h;subst h;exact hv
 ·cases h
theorem b0v {v:Value} (h:c6p v=true):v=undef:=by
 unfold c6p at h;split at h
 ·rename_i vs
  have hs:=e56 h;have:vs= #[]:=Array.eq_empty_of_size_eq_zero hs;rw [this];rfl
 ·cases h
theorem b1j (h:Rel P N n0 B M0 w0 F e0 env st a w):∀{n t:Nat} {want c:Bool},c2k st n t want=some c→(c=true↔a01 a t want)
 |0,_,_,_,hy=>by cases hy
 | n +1,t,want,c,hy=>by
  simp only [c2k] at hy;split at hy
  ·rename_i x hg
   have hv:a.tmps.getD t undef= .bool x:=h.tm t _ hg;simp only [e55] at hy;rw [a15 hv,←hy];simp
  ·rename_i x hg
   have hv:a.tmps.getD t undef= .bool x:=h.tm t _ hg;simp only [e55] at hy;rw [a15 hv,←hy];simp
  ·rename_i s b y hg
   obtain ⟨h1,h2⟩:=h.tm t _ hg;split at hy
   ·rename_i z c' hz hc
    simp only [e55] at hy;have ih:=b1j h hc;subst hy;cases c' with
    |true=>
     rw [a15 (d5i hz (h1 (ih.1 rfl)))];simp
    |false=>
     have:=a3n (want:=want) (h2 fun hy=>by have:=ih.2 hy;cases this)
     simp [this]
   ·cases hy
  ·rename_i v hg
   cases hno:c6p v with
   |false=>rw [hno] at hy;cases hy
   |true=>
    have hv:a.tmps.getD t undef=undef:=(show _=v from h.tm t _ hg).trans (b0v hno);rw [hno] at hy;simp only [cond_true,e55] at hy;subst hy;simp [a3n hv]
  ·cases hy
theorem c01 (h:Rel P N n0 B M0 w0 F e0 env st a w) {t:Nat} {want c:Bool} (hy:known st t want=some c):(c=true↔a01 a t want):=by
 unfold known at hy;split at hy
 ·rename_i x hg
  have hv:a.tmps.getD t undef= .bool x:=h.tm t _ hg;simp only [e55] at hy;rw [a15 hv,←hy];simp
 ·rename_i v hg
  cases hno:c6p v with
  |false=>rw [hno] at hy;cases hy
  |true=>
   have hv:a.tmps.getD t undef=undef:=(show _=v from h.tm t _ hg).trans (b0v hno);rw [hno] at hy;simp only [cond_true,e55] at hy;subst hy;simp [a3n hv]
 ·cases hy
theorem Rel.tmps (h:Rel P N n0 B M0 w0 F e0 env st a w) {tmps:AL V} (ht:∀t x,get tmps t=some x→a0l P env (Sof P B M0 n0 env st.mem w) w a x (a.tmps.getD t undef)):Rel P N n0 B M0 w0 F e0 env {st with tmps} a w:=
 ⟨h.size,h.dfr,h.hn0,ht,h.ob,h.ds,h.mu,h.pr,h.ch,h.bb,h.fx,h.gi⟩
theorem b8Y (h:Rel P N n0 B M0 w0 F e0 env st a w) {t:Nat} {x:Bool} (hv:a.tmps.getD t undef= .bool x):Rel P N n0 B M0 w0 F e0 env (b8o t x st) a w:=by
 refine h.tmps fun t' y hy=> ?_
 rw [a1Q] at hy;by_cases ht:t'=t
 ·rw [if_pos ht] at hy
  simp only [e55] at hy;subst hy ht;exact hv
 ·rw [if_neg ht,a1c] at hy
  cases hg:get st.tmps t' with
  |none=>rw [hg] at hy;cases hy
  | some z=>
   rw [hg] at hy;simp only [e6r,e55] at hy;subst hy;have hz:=h.tm t' z hg;cases z with
   | w s b y=>
    simp only [c6q,a0k];by_cases hs:s=t
    ·subst hs
     rw [cond_true (by simp)]
     by_cases hb:b=x
     ·subst hb
      rw [cond_true (by simp)]
      exact a0l.of (hz.1 ((a15 hv).2 rfl))
     ·rw [cond_false (by simpa using hb)]
      exact hz.2 fun hy=>hb ((a15 hv).1 hy).symm
    ·rw [cond_false (by simpa using hs)]
     exact hz
   |_=>exact hz
theorem a5J {R:Type} {r:R}:∀{n t:Nat} {want:Bool} {st:St} {yes no:St→Option R},Rel P N n0 B M0 w0 F e0 env st a w→b3c n t want st yes no=some r→
  (a01 a t want∧ ∃st',Rel P N n0 B M0 w0 F e0 env st' a w∧yes st'=some r)∨(¬a01 a t want∧ ∃st',Rel P N n0 B M0 w0 F e0 env st' a w∧no st'=some r)
 |0,_,_,_,_,_,_,hg=>by cases hg
 | n+1,t,want,st,yes,no,h,hg=>by
  simp only [b3c] at hg;split at hg
  ·rename_i x hx
   have hv:a.tmps.getD t undef= .bool x:=h.tm t _ hx;rw [a15 hv];by_cases hw:x=want
   ·rw [cond_true (by simpa using hw)] at hg;exact .inl ⟨hw,st,h,hg⟩
   ·rw [cond_false (by simpa using hw)] at hg;exact .inr ⟨hw,st,h,hg⟩
  ·rename_i v hx
   cases hno:c6p v with
   |false=>rw [hno] at hg;cases hg
   |true=>
    have hv:a.tmps.getD t undef=undef:=(show _=v from h.tm t _ hx).trans (b0v hno);rw [hno] at hg;exact .inr ⟨a3n hv,st,h,hg⟩
  ·rename_i x hx
   have hv:a.tmps.getD t undef= .bool x:=h.tm t _ hx;rw [a15 hv];have hs:=b8Y h hv;cases x<;>cases want<;>simp only [cond_true,cond_false] at hg
   ·exact .inl ⟨rfl,_,hs,hg⟩
   ·exact .inr ⟨by simp,_,hs,hg⟩
   ·exact .inr ⟨by simp,_,hs,hg⟩
   ·exact .inl ⟨rfl,_,hs,hg⟩
  ·rename_i s b y hx
   obtain ⟨_,h2⟩:=h.tm t _ hx;rcases a5J h hg with ⟨h3,st',h4,h5⟩|⟨h3,st',h4,h5⟩
   ·exact a5J h4 h5
   ·exact .inr ⟨a3n (h2 h3),st',h4,h5⟩
  ·cases hg
theorem d4e {R:Type} {o:Oper} {k:St→Option R} {r:R} {Q:Exit→Act→World→Prop} {e:Operand→V} {ew:Nat→Bool→Operand→V} {x:V} (h:Rel P N n0 B M0 w0 F e0 env st a w)
  (he:∀x,a0s P env (Sof P B M0 n0 env st.mem w) w (e x) (a.eval x)) (hew:∀t b x,a01 a t b→a0l P env (Sof P B M0 n0 env st.mem w) w a (ew t b x) (a.eval x)) (hv:c4G P st.mem e ew o=some (true,x))
  (hk:∀v,a0s P env (Sof P B M0 n0 env st.mem w) w x v→a0P P N n0 B M0 w0 F e0 k r (a.put o.dst v) w):o.wp P a w (a0P P N n0 B M0 w0 F e0 k r) Q:=by
 obtain ⟨v,h1,h2⟩:=b8C h.ob h.rows he hew hv;exact a0z h1 (hk v h2)
theorem b3J {R:Type} {cl:a0i} (hcl:a0m P cl) {o:Oper} {k:St→Option R} {r:R} {Q:Exit→Act→World→Prop} (hF:∀k,a0v P kb o k=true→ ¬F k) (h:Rel P N n0 B M0 w0 F e0 env st a w) (hd:∀d,o.dst=some d→d<N) (hk:opC P cl kb o st k=some r):
  o.wp P a w (a0P P N n0 B M0 w0 F e0 k r) Q:=by
 unfold opC at hk;cases hv:a1P P o with
 |false=>rw [hv] at hk;exact c46 hcl hF hv h hd hk
 | true=>
  rw [hv] at hk;simp only [cond_true] at hk;split at hk
  ·rename_i c x hval
   cases c with
   |false=>cases hk
   |true=>exact d4e h h.evu h.evw hval fun v hvx=>⟨env,_,h.put hd (a0l.of hvx),hk⟩
  ·cases hk
theorem c6Z (h:Rel P N n0 B M0 w0 F e0 env st a w) {t:Nat} {want:Bool} (hy:a01 a t want) (x:Operand):a0s P env (Sof P B M0 n0 env st.mem w) w (evg st t want x) (a.eval x):=by
 unfold evg;have hx:=h.ev x;split
 ·rename_i s b y he
  rw [he] at hx;simp only [b5b];cases hc:Nat.beq s t&&(b==want) with
  |false=>trivial
  |true=>
   simp only [e57] at hc;have h1:=e56 hc.1;have h2:=eq_of_beq hc.2;subst h1 h2;exact hx.1 hy
 ·rename_i he
  cases hv:AM.ev st x with
  |w s b y=>exact absurd hv (he s b y)
  |_=>rw [hv] at hx;exact hx
theorem c47 (h:Rel P N n0 B M0 w0 F e0 env st a w) {t:Nat} {want:Bool} (hy:a01 a t want) (t':Nat) (w':Bool) (x:Operand) (hy':a01 a t' w'):a0l P env (Sof P B M0 n0 env st.mem w) w a (e3G st t want t' w' x) (a.eval x):=by
 unfold e3G;have hx:=h.ev x;split
 ·rename_i s b y he
  rw [he] at hx;cases hc:Nat.beq s t'&&(b==w') with
  |true=>
   simp only [e57] at hc;have h1:=e56 hc.1;have h2:=eq_of_beq hc.2;subst h1 h2;exact a0l.of (hx.1 hy')
  |false=>exact b08 hy hx
 ·exact hx
theorem a3T {R:Type} {cl:a0i} (hcl:a0m P cl) {ops:Array Oper} {o:Oper} {k:St→Option R} {r:R} {Q:Exit→Act→World→Prop} (hF:∀k,a0v P kb o k=true→ ¬F k) (h:Rel P N n0 B M0 w0 F e0 env st a w) (hd:∀d,o.dst=some d→d<N) (hk:b0g P cl kb ops.toList o st k=some r):
  if Region.wanted o (yielded ops a.tmps) then o.wp P a w (a0P P N n0 B M0 w0 F e0 k r) Q else a0P P N n0 B M0 w0 F e0 k r (a.put o.dst undef) w:=by
 unfold b0g at hk;split at hk
 ·rename_i hg
  rw [if_pos (by simp [Region.wanted,hg])]
  exact b3J hcl hF h hd hk
 ·rename_i j want hg
  split at hk
  ·cases hk
  ·rename_i t ht
   have hw:Region.wanted o (yielded ops a.tmps)=true↔a01 a t want:=by
    unfold a6j at ht;rw [Array.getElem?_toList] at ht;simp only [Region.wanted,hg,yielded,ht,Option.bind_some,a01];cases a.tmps[t]? with
    |none=>simp
    |some v=>cases v<;>simp
   have skip:∀{st':St},Rel P N n0 B M0 w0 F e0 env st' a w→k (st'.put o.dst c4K)=some r→a0P P N n0 B M0 w0 F e0 k r (a.put o.dst undef) w:=
    fun h' hk'=>⟨env,_,h'.put hd (show a0l P env _ w a c4K undef from rfl),hk'⟩
   split at hk
   ·rename_i x hx
    have:=c01 h hx;cases x with
    |true=>rw [if_pos (hw.2 (this.1 rfl))];exact b3J hcl hF h hd hk
    |false=>rw [if_neg (fun hc=>by have:=this.2 (hw.1 hc);cases this)];exact skip h hk
   ·cases hv:a1P P o with
    | true=>
     rw [hv] at hk;simp only [cond_true] at hk;split at hk
     ·rename_i c cond x hc hval
      have hyc:=b1j h hc;cases hb:(bif cond then true else !c) with
      |false=>rw [hb] at hk;cases hk
      | true=>
       rw [hb] at hk;by_cases hy:a01 a t want
       ·rw [if_pos (hw.2 hy)]
        have:c=true:=hyc.2 hy;subst this;have:cond=true:=by cases cond<;>simp at hb⊢
        subst this;exact d4e h (c6Z h hy) (fun t' b' x' hy'=>c47 h hy t' b' x' hy') hval fun v hvx=>⟨env,_,h.put hd (x:= .w t want x) ⟨fun _=>hvx,fun hn=>absurd hy hn⟩,hk⟩
       ·rw [if_neg (fun hc=>hy (hw.1 hc))]
        exact ⟨env,_,h.put hd (x:= .w t want x) ⟨fun hy'=>absurd hy' hy,fun _=>rfl⟩,hk⟩
     ·cases hk
    |false=>
     rw [hv] at hk;simp only [cond_false] at hk;rcases a5J h hk with ⟨h1,st',h2,h3⟩|⟨h1,st',h2,h3⟩
     ·rw [if_pos (hw.2 h1)];exact b3J hcl hF h2 hd h3
     ·rw [if_neg (fun hc=>h1 (hw.1 hc))];exact skip h2 h3
theorem b3K {o:Oper} {k:Nat} (h:a0v P kb o k=true):kb≤k:=by
 unfold a0v at h;cases hv:a1P P o with
 |true=>rw [hv] at h;cases h
 |false=>
 rw [hv,cond_false rfl] at h;cases he:a0F o with
 |true=>
  rw [he,cond_true rfl] at h;simp only [e57] at h;exact Nat.le_trans (b6o _ _) (e6g h.1)
 |false=>
  rw [he,cond_false rfl] at h;split at h
  ·have:=e56 h;omega
  ·cases h
theorem a81 {o:Oper} (hF:∀k,F k→k<kb):∀k,a0v P kb o k=true→ ¬F k:=fun k h1 h2=>by
 have:=b3K h1;have:=hF k h2;omega
variable {n:Nat} {Fe:Fence}
def a4O (Fe:Fence):Prop:=Fe=Fence.wide∨ ∃l,Fe=Fence.wide.inRound l
theorem a4O.fn (h:a4O Fe) (f:FuncId):Fe.fn f:=by
 rcases h with rfl|⟨l,rfl⟩<;>trivial
theorem a4O.depth (h:a4O Fe):Fe.depth.isSome=true→1≤n:=by
 rcases h with rfl|⟨l,rfl⟩<;>exact fun h=>by cases h
theorem a4O.calls (h:a4O Fe) {m:Nat} {f:FuncId} {args:Array Value} {w:World} {R:Ending→World→Prop} (hc:Calls P f args w R):CallsIn Fe m P f args w R:=by
 rcases h with rfl|⟨l,rfl⟩
 ·exact callsIn_wide.2 hc
 ·exact CallsIn.inRound l (callsIn_wide.2 hc)
theorem b3L (hF:a4O Fe) {o:Oper} {K:Act→World→Prop} {Q:Exit→Act→World→Prop} (hd:Fe=Fence.wide∨ ∀c,o.op≠ .defer c) (h:o.wp P a w K Q):o.wpIn Fe n P a w K Q:=by
 refine ⟨fun f _=>hF.fn f,?_⟩
 have hsem:o.semAt Fe.round a.eval=execOp a.eval o:=by
  rcases hd with rfl|hd
  ·rfl
  ·exact Oper.semAt_eq _ _ _ hd
 rw [hsem];unfold Oper.wp at h;generalize (execOp a.eval o).run P w=r at h;cases r with
 | ok x w'=>
  cases x with
  |enter f args=>exact ⟨hF.depth,hF.calls h⟩
  |row row args=>
   refine ⟨hF.depth,fun c cs _=> ?_⟩
   obtain ⟨v,w'',r,s⟩:=h c cs;refine ⟨v,w'',r,?_⟩;rcases hF with rfl|⟨l,rfl⟩<;>exact stepsIn_wide.2 s
  |round l f tmps assign body=>exact h.elim
  |_=>exact h
 |halt x w'=>cases x<;>exact h
theorem a7U {R:Type} {cl:a0i} (hW:a4O Fe) (hcl:a0m P cl) {ops:Array Oper} {k:St→Option R} {r:R} {Q:Exit→Act→World→Prop} {rest:List Oper}
  (hQ:∀a w,a0P P N n0 B M0 w0 F e0 k r a w→wpListIn Fe n P ops Q rest a w):
  ∀{l:List Oper} {env:Env} {st:St} {a:Act} {w:World},Rel P N n0 B M0 w0 F e0 env st a w→(∀o∈l,∀d,o.dst=some d→d<N)→(Fe=Fence.wide∨ ∀o∈l,∀c,o.op≠ .defer c)→(∀o∈l,∀k,a0v P kb o k=true→ ¬F k)→c2l P cl kb ops.toList l st k=some r→wpListIn Fe n P ops Q (l++rest) a w
 | [],env,st,a,w,h,_,_,_,hk=>by
  refine hQ a w ⟨env,_,h.tmps fun t x hx=> ?_,hk⟩
  rw [a1c] at hx;cases hg:get st.tmps t with
  |none=>rw [hg] at hx;cases hx
  |some y=>
   rw [hg] at hx;simp only [e6r,e55] at hx;subst hx;exact a0l.of (a4d (h.tm t y hg))
 | o::l,env,st,a,w,h,hd,hdf,hF,hk=>by
  have ho:=a3T (Q:=Q) hcl (hF o (by simp)) h (hd o (by simp)) hk
  have next:∀a w,a0P P N n0 B M0 w0 F e0 (fun st'=>c2l P cl kb ops.toList l st' k) r a w→wpListIn Fe n P ops Q (l++rest) a w:=by
   rintro a w ⟨env',st',h1,h2⟩;exact a7U hW hcl hQ h1 (fun o' ho'=>hd o' (by simp [ho'])) (hdf.imp id fun hdf o' ho'=>hdf o' (by simp [ho'])) (fun o' ho'=>hF o' (by simp [ho'])) h2
  show wpListIn Fe n P ops Q (o::(l++rest)) a w;unfold wpListIn;split
  ·rename_i hw
   rw [if_pos hw] at ho;exact b3L hW (hdf.imp id fun hdf=>hdf o (by simp)) (Oper.wp_mono next ho)
  ·rename_i hw
   rw [if_neg hw] at ho;exact ⟨fun f _=>hW.fn f,next _ _ ho⟩
end
section
variable {P:Program} {N n0 kb:Nat} {F:Nat→Prop} {B M0:a0A} {w0:World} {e0:a6l} {env:Env} {st:St} {a:Act} {w:World}
theorem Rel.weaken (h:Rel P N n0 B M0 w0 F e0 env st a w) {tmps:AL V} {mem:AL Obj} (ht:∀t x,get tmps t=some x→get st.tmps t=some x) (hm:∀t x,get mem t=some x→get st.mem t=some x):
  Rel P N n0 B M0 w0 F e0 env {tmps,mem} a w:=by
 have hk:a0y w (Sof P B M0 n0 env st.mem w) w (Sof P B M0 n0 env mem w):=fun b o v hS hv=>⟨⟨hS.1,hS.2.1,fun key ob hg hmu=>hS.2.2 key ob (hm key ob hg) hmu⟩,hv⟩
 exact ⟨h.size,h.dfr,h.hn0,fun t x hx=>a0l.mono hk (fun _=>rfl) (h.tm t x (ht t x hx)),fun key o hg=>a1d hk (fun _=>rfl) (h.ob key o (hm key o hg)),
  fun k k' o o' hg hg'=>h.ds k k' o o' (hm _ _ hg) (hm _ _ hg'),fun key o b x hg=>h.mu key o b x (hm _ _ hg),fun key e ex xs hg=>h.pr key e ex xs (hm _ _ hg),h.ch,h.bb,h.fx,h.gi⟩
theorem b5A (h:Rel P N n0 B M0 w0 F e0 env st a w) (hs:a6Y) (id:Nat):Rel P N n0 B M0 w0 F e0 env (e25 hs id st) a w:=by
 unfold e25;split
 ·exact h
 ·rename_i ts _
  split
  ·exact h.weaken (fun t x hx=>b1Z _ _ _ _ hx) (fun t x hx=>hx)
  ·rename_i ks _ _
   have hsh:=Rel.share (a3M st.tmps ts) (mem:=st.mem) h;refine Rel.weaken (st:={tmps:=b8m (c6v (a0w st.mem (a3M st.tmps ts)) (a3M st.tmps ts)) st.tmps,mem:=a0w st.mem (a3M st.tmps ts)}) ?_ (fun t x hx=>b1Z _ _ _ _ hx) (fun t x hx=>hx)
   refine ⟨hsh.size,hsh.dfr,hsh.hn0,fun t x hx=> ?_,hsh.ob,hsh.ds,hsh.mu,hsh.pr,hsh.ch,hsh.bb,hsh.fx,hsh.gi⟩
   simp only [a1c] at hx;obtain ⟨y,hy,rfl⟩:=Option.map_eq_some_iff.1 hx;have:=hsh.tm t y hy;unfold c6v;split
   ·rename_i key
    cases b0d key (a3M st.tmps ts) with
    |false=>exact this
    |true=>exact a0l.of (a5I hsh.ob hsh.rows (x:= .c (.o key)) this)
   ·exact this
theorem b6p {S:a0A} {c:C} {v:Value} (h:a0j P env S w c v):a0j P env S w (e26 c) v:=by cases c<;>exact h
theorem d0d {S:a0A} {x:V} {v:Value} (h:a0l P env S w a x v):a0l P env S w a (e5d x) v:=by
 cases x with
 |c c=>exact b6p h
 |g xs=>obtain ⟨vs,h1,h2⟩:=h;exact ⟨vs,h1,h2.mapl fun c u _ hcu=>b6p hcu⟩
 |t xs=>exact h
 |w s b x=>exact h
theorem c2F {s:a1J} {o:Obj} {b x:Nat}:a3B P s (d5b o) b x↔a3B P s o b x:=by
 cases o<;>simp [d5b,a3B]
theorem b8Z {o:Obj}:a0N (d5b o)↔a0N o:=by cases o<;>simp [d5b,a0N]
theorem a43 {α:Type} {l:AL α} {k:Nat}:∀{ks:List Nat},get (a13 l ks) k=if k∈ks then get l k else none
 | []=>by simp [a13,get]
 | j::r=>by
  have ih:=a43 (l:=l) (k:=k) (ks:=r);simp only [a13];split
  ·rename_i x hx
   simp only [get,a0k,ih];by_cases hj:j=k
   ·subst hj;simp [hx]
   ·rw [cond_false (by simpa using hj)];simp [Ne.symm hj]
  ·rename_i hx
   rw [ih];by_cases hj:k=j
   ·subst hj;simp [hx]
   ·simp [hj]
theorem c2G {α:Type} {l:AL α} {k:Nat} {ks:List Nat} {x:α} (h:get (a13 l ks) k=some x):get l k=some x:=by
 rw [a43] at h;split at h
 ·exact h
 ·cases h
theorem a0L (h:Rel P N n0 B M0 w0 F e0 env st a w) (ts ks:List Nat):Rel P N n0 B M0 w0 F e0 env (a3N ts ks st) a w:=by
 have hg:∀{k ob},get (a3N ts ks st).mem k=some ob→ ∃ob0,get st.mem k=some ob0∧ob=d5b ob0:=by
  intro k ob hk;unfold a3N at hk;simp only [a1c] at hk;cases h1:get (a13 st.mem ks) k with
  |none=>rw [h1] at hk;cases hk
  |some ob0=>rw [h1] at hk;simp only [e6r,e55] at hk;exact ⟨ob0,c2G h1,hk.symm⟩
 have hk:a0y w (Sof P B M0 n0 env st.mem w) w (Sof P B M0 n0 env (a3N ts ks st).mem w):=fun b o v hS hv=>⟨⟨hS.1,hS.2.1,fun key ob hgk hmu=>by
  obtain ⟨ob0,h1,rfl⟩:=hg hgk;exact hS.2.2 key ob0 h1 (c2F.1 hmu)⟩,hv⟩
 refine ⟨h.size,h.dfr,h.hn0,?_,?_,?_,?_,?_,h.ch,h.bb,h.fx,h.gi⟩
 ·intro t x hx
  unfold a3N at hx;simp only [a1c] at hx;cases h1:get (a13 st.tmps ts) t with
  |none=>rw [h1] at hx;cases hx
  |some y=>
   rw [h1] at hx;simp only [e6r,e55] at hx;subst hx;exact d0d (a0l.mono hk (fun _=>rfl) (h.tm t y (c2G h1)))
 ·intro key ob hgk
  obtain ⟨ob0,h1,rfl⟩:=hg hgk;have:=a1d (w':=w) hk (fun _=>rfl) (h.ob key ob0 h1)
  cases ob0 with
  |box cs=>
   obtain ⟨cur,T,c1,c2,c3,c4⟩:=this;refine ⟨cur,T,c1,by simpa using c2,?_,a3O (fun c hc=>by cases c<;>first|exact hc|trivial) c4⟩
   simp only [List.length_map];exact c3.mapl fun c u _ hcu=>b6p hcu
  |_=>exact this
 ·intro k k' o o' hgk hgk' hr hr' hne
  obtain ⟨ob0,h1,rfl⟩:=hg hgk;obtain ⟨ob0',h1',rfl⟩:=hg hgk';exact h.ds k k' ob0 ob0' h1 h1' (b8Z.1 hr) (b8Z.1 hr') hne
 ·intro key o b x hgk hmu
  obtain ⟨ob0,h1,rfl⟩:=hg hgk;exact h.mu key ob0 b x h1 (c2F.1 hmu)
 ·intro key e ex xs hgk
  obtain ⟨ob0,h1,h2⟩:=hg hgk;cases ob0 with
  |row e' ex' nl' xs'=>
   simp only [d5b,Obj.row.injEq] at h2;obtain ⟨rfl,rfl,rfl,rfl⟩:=h2;exact h.pr key e ex xs h1
  |box cs=>cases h2
  |map kt vt es=>cases h2
  |tab kt vt es=>cases h2
  |dat T d=>cases h2
  |krow e k q c xs=>cases h2
theorem c2H (h:Rel P N n0 B M0 w0 F e0 env st a w) {key key0:Nat} {e:TypeId} {ex nl:Bool} {xs:List D} (hg:get st.mem key0=some (.row e ex nl xs)) (hkey:¬F key):
  Rel P N n0 B M0 w0 F e0 (upd env key (env key0)) (a0o key (.row e ex nl xs) {st with mem:=del st.mem key0}) a w:=by
 have hsub:∀k ob,get (del st.mem key0) k=some ob→get st.mem k=some ob:=fun k ob hk=>(a0p k ob hk).2
 refine Rel.new h hsub key hkey _ _ (fun _ _=>False) (Chg.refl _ w) (fun _ _ hf=>hf.elim) (fun _ _ _ _ _=>rfl) ?_ ?_ ?_ ?_
 ·intro hk
  exact a3P (w':=w) hk (fun _=>rfl) (h.ob _ _ hg) ex
 ·intro b x hm
  exact .inr ⟨key0,_,hg,hm⟩
 ·intro hr k ob _ hk hrk
  obtain ⟨h1,h2⟩:=a0p k ob hk;exact h.ds k key0 ob _ h2 hg hrk hr h1
 ·intro e' ex' xs' he x hx
  simp only [Obj.row.injEq] at he;obtain ⟨rfl,rfl,rfl,rfl⟩:=he;exact h.pr key0 _ _ _ hg x hx
theorem c2I (h:Rel P N n0 B M0 w0 F e0 env st a w) {key ix:Nat} {cs:List C} {c c':C} (hg:get st.mem key=some (.box cs)) (hc:cs[ix]? =some c) (hcc:∀v,a0j P env (Sof P B M0 n0 env st.mem w) w c v→a0j P env (Sof P B M0 n0 env st.mem w) w c' v) (hnb:∀T n,a4w P T n c→a4w P T n c'):
  Rel P N n0 B M0 w0 F e0 env {st with mem:=set st.mem key (.box (cs.set ix c'))} a w:=by
 have hget:∀{k ob},get (set st.mem key (.box (cs.set ix c'))) k=some ob→ ∃ob0,get st.mem k=some ob0∧(k≠key→ob=ob0)∧(k=key→ob0= .box cs∧ob= .box (cs.set ix c')):=by
  intro k ob hk;rw [a1Q] at hk;by_cases he:k=key
  ·rw [if_pos he] at hk
   cases hk;exact ⟨.box cs,by rw [he];exact hg,fun hn=>absurd he hn,fun _=>⟨rfl,rfl⟩⟩
  ·rw [if_neg he] at hk
   exact ⟨ob,hk,fun _=>rfl,fun hh=>absurd hh he⟩
 have hmut:∀{k ob ob0:_} {b x:Nat},get (set st.mem key (.box (cs.set ix c'))) k=some ob→get st.mem k=some ob0→a3B P (env k) ob b x→a3B P (env k) ob0 b x:=by
  intro k ob ob0 b x hk h0 hm;obtain ⟨ob1,h1,h2,h3⟩:=hget hk;rw [h0] at h1;cases h1;by_cases he:k=key
  ·obtain ⟨rfl,rfl⟩:=h3 he
   simpa [a3B] using hm
  ·rw [h2 he] at hm;exact hm
 have hk:a0y w (Sof P B M0 n0 env st.mem w) w (Sof P B M0 n0 env (set st.mem key (.box (cs.set ix c'))) w):=fun b o v hS hv=>⟨⟨hS.1,hS.2.1,fun k ob hgk hmu=>by
  obtain ⟨ob0,h1,_⟩:=hget hgk;exact hS.2.2 k ob0 h1 (hmut hgk h1 hmu)⟩,hv⟩
 refine ⟨h.size,h.dfr,h.hn0,fun t x hx=>a0l.mono hk (fun _=>rfl) (h.tm t x hx),?_,?_,?_,?_,h.ch,h.bb,h.fx,h.gi⟩
 ·intro k ob hgk
  obtain ⟨ob0,h1,h2,h3⟩:=hget hgk;by_cases he:k=key
  ·obtain ⟨rfl,rfl⟩:=h3 he
   obtain ⟨cur,T,c1,c2,c3,c4⟩:=h.ob k _ h1;refine ⟨cur,T,c1,by simpa using c2,?_,b59 c4 (hnb T cur.size (c4 c (List.mem_of_getElem? hc)))⟩
   simp only [List.length_set];refine All2.of_get (by simpa using c3.length) fun j x y hx hy=> ?_
   by_cases hj:j=ix
   ·subst hj
    have hlt:=(e6h.1 hc).1;rw [List.getElem?_set_self hlt] at hx;cases hx;exact a0j.mono hk (fun _ _=>rfl) (hcc y (c3.get2 hc hy))
   ·rw [List.getElem?_set_ne (Ne.symm hj)] at hx
    exact a0j.mono hk (fun _ _=>rfl) (c3.get2 hx hy)
  ·rw [h2 he]
   exact a1d hk (fun _=>rfl) (h.ob k ob0 h1)
 ·intro k k' o o' hgk hgk' hr hr' hne
  obtain ⟨ob0,h1,h2,h3⟩:=hget hgk;obtain ⟨ob0',h1',h2',h3'⟩:=hget hgk';refine h.ds k k' ob0 ob0' h1 h1' ?_ ?_ hne
  ·by_cases he:k=key
   ·rw [(h3 he).1];trivial
   ·rw [←h2 he];exact hr
  ·by_cases he:k'=key
   ·rw [(h3' he).1];trivial
   ·rw [←h2' he];exact hr'
 ·intro k o b x hgk hmu
  obtain ⟨ob0,h1,_⟩:=hget hgk;exact h.mu k ob0 b x h1 (hmut hgk h1 hmu)
 ·intro k e ex xs hgk
  obtain ⟨ob0,h1,h2,h3⟩:=hget hgk;by_cases he:k=key
  ·have:=(h3 he).2;cases this
  ·exact h.pr k e ex xs (by rw [h1];exact congrArg some (h2 he).symm)
theorem b6q (h:Rel P N n0 B M0 w0 F e0 env st a w) (hF:∀k,F k→k<kb) (t key0 ix:Nat):∃env',Rel P N n0 B M0 w0 F e0 env' (c0L P kb t key0 ix st) a w:=by
 have hkey:¬F (kb+t):=fun hf=>by have:=hF _ hf;omega
 unfold c0L;split
 ·rename_i cs hb
  split
  ·rename_i key hcell
   split
   ·rename_i e ex nl xs hrow
    cases hq:Nat.beq key (kb+t)||Nat.beq key0 key||Nat.beq key0 (kb+t) with
    |true=>exact ⟨env,h⟩
    | false=>
     simp only [Bool.or_eq_false_iff,a0k,decide_eq_false_iff_not] at hq;obtain ⟨⟨n1,n2⟩,n3⟩:=hq;have hm:=c2H h hrow hkey;have hg:get (a0o (kb+t) (.row e ex nl xs) {st with mem:=del st.mem key}).mem key0=some (.box (cs.map (inval (kb+t)))):=by
      simp only [a0o,a1Q,a1c,a71,if_neg n3,if_neg n2,hb,e6r,a4s]
     simp only [cond_false];rw [hg];refine ⟨_,c2I hm hg (c:= .o key) ?_ (fun v hv=> ?_) fun _ _ _=>trivial⟩
     ·rw [List.getElem?_map,hcell]
      simp only [e6r,inval,a0k,decide_eq_false n1,cond_false]
     ·show v=(upd env (kb+t) (env key) (kb+t)).hdr
      have hv:v=(upd env (kb+t) (env key) key).hdr:=hv;rw [hv];simp [upd,n1]
   ·exact ⟨env,h⟩
  ·rename_i e hcell
   cases hq:Nat.beq (a0a P e) (kinds P e).length&& !Nat.beq key0 (kb+t) with
   |false=>exact ⟨env,h⟩
   | true=>
    simp only [e57,Bool.not_eq_true',a0k,decide_eq_true_eq,decide_eq_false_iff_not] at hq;have hm:=a33 h (mem0:=st.mem) (fun _ _ hg=>hg) (kb+t) hkey (e:=e) (ex:=true) hq.1
    have hg:get (a0o (kb+t) (.row e true true []) st).mem key0=some (.box (cs.map (inval (kb+t)))):=by
     simp only [a0o,a1Q,a1c,if_neg hq.2,hb,e6r,a4s]
    simp only [cond_true];rw [hg];refine ⟨_,c2I hm hg (c:= .sl e true []) ?_ (fun v hv=> ?_) fun _ _ _=>trivial⟩
    ·rw [List.getElem?_map,hcell];rfl
    ·show v=(upd env (kb+t) ⟨0,0,none⟩ (kb+t)).hdr
     have hv:a1D P w _ (.sl e) (.l true []) v:=hv;rw [a68 hv rfl ⟨_,rfl⟩];simp [upd,a1J.hdr]
  ·exact ⟨env,h⟩
 ·exact ⟨env,h⟩
theorem b6r (h:Rel P N n0 B M0 w0 F e0 env st a w) (hF:∀k,F k→k<kb) (t:Nat):∃env',Rel P N n0 B M0 w0 F e0 env' (c0M P kb t st) a w:=by
 have hkey:¬F (kb+t):=fun hf=>by have:=hF _ hf;omega
 have put:∀{env':Env} {st':St} {c:C},Rel P N n0 B M0 w0 F e0 env' st' a w→a0j P env' (Sof P B M0 n0 env' st'.mem w) w c (a.tmps.getD t undef)→Rel P N n0 B M0 w0 F e0 env' {st' with tmps:=set st'.tmps t (.c c)} a w:=by
  intro env' st' c h' hc;refine h'.tmps fun t' y hy=> ?_
  rw [a1Q] at hy;by_cases ht:t'=t
  ·rw [if_pos ht] at hy
   simp only [e55] at hy;subst hy ht;exact hc
  ·rw [if_neg ht] at hy
   exact h'.tm t' y hy
 unfold c0M;cases Nat.ble 50000000 t with
 |true=>exact b6q h hF _ _ _
 |false=>
 simp only [cond_false];split
 ·rename_i key hx
  have hv:a.tmps.getD t undef=(env key).hdr:=h.tm t _ hx;split
  ·rename_i e ex nl xs hg
   cases Nat.beq key (kb+t) with
   |true=>exact ⟨env,h⟩
   |false=>exact ⟨_,put (c2H h hg hkey) (show _=_ by rw [hv];simp [upd])⟩
  ·exact ⟨env,h⟩
 ·rename_i e hx
  have hv:a1D P w (Sof P B M0 n0 env st.mem w) (.sl e) (.l true []) (a.tmps.getD t undef):=h.tm t _ hx;cases hb:Nat.beq (a0a P e) (kinds P e).length with
  |false=>exact ⟨env,h⟩
  |true=>
   have hr:=a33 h (mem0:=st.mem) (fun _ _ hg=>hg) (kb+t) hkey (ex:=true) (e56 hb)
   refine ⟨_,put hr (show _=_ from ?_)⟩;have hnil:a.tmps.getD t undef= .slice none 0 0:=a68 hv rfl ⟨_,rfl⟩;rw [hnil];simp [upd,a1J.hdr]
 ·exact ⟨env,h⟩
theorem a7V (hF:∀k,F k→k<kb):∀(ts:List Nat) {env:Env} {st:St},Rel P N n0 B M0 w0 F e0 env st a w→ ∃env',Rel P N n0 B M0 w0 F e0 env' (b58 P kb ts st) a w
 | [],env,st,h=>⟨env,h⟩
 |t::r,env,st,h=>let ⟨_,h1⟩:=b6r h hF t;a7V hF r h1
theorem a3U (h:Rel P N n0 B M0 w0 F e0 env st a w) (hF:∀k,F k→k<kb) (hs:c6b) (id:Nat):∃env',Rel P N n0 B M0 w0 F e0 env' (a3D P kb hs id st) a w:=by
 unfold a3D;split
 ·exact ⟨env,h⟩
 ·obtain ⟨env',h1⟩:=a7V hF _ h
  exact ⟨env',a0L h1 _ _⟩
def b6s {R:Type} (P:Program) (N n0:Nat) (B M0:a0A) (w0:World) (F:Nat→Prop) (e0:a6l) (k:Ex→St→Option R) (r:R):Exit→Act→World→Prop
 | .normal,a,w=>a0P P N n0 B M0 w0 F e0 (k .normal) r a w
 | .exit i,a,w=>a0P P N n0 B M0 w0 F e0 (k (.exit i)) r a w
 | .ret,a,w=>a0P P N n0 B M0 w0 F e0 (k .ret) r a w
 |_,_,_=>False
def c60:Code→Code→List Code
 | .region id ops d,.block i b=>[.seq (.region id ops d) (.block i b)]
 | .region id ops true,.cond c a b=>[.seq (.region id ops true) (.cond c a b)]
 |_,_=>[]
def a0K:Code→List Code
 | .seq a b=>c60 a b++(a0K a++a0K b)
 | .cond c a b=> .cond c a b::(a0K a++a0K b)
 | .block _ b=>a0K b
 | .loop b=> .loop b::a0K b
 | .region id ops d=>[.region id ops d]
 | .rangeFunc g ps a b=> .rangeFunc g ps a b::(a0K a++a0K b)
 |_=>[]
def okC (N:Nat):Code→Bool
 | .region _ ops _=>ops.toList.all fun o=>match o.dst with|some d=>Nat.blt d N|none=>true
 | .seq a b=>okC N a&&okC N b
 | .cond _ a b=>okC N a&&okC N b
 | .block _ b=>okC N b
 | .loop b=>okC N b
 | .rangeFunc _ ps a b=>okC N a&&okC N b&&ps.toList.all fun p=>Nat.blt p N
 |_=>true
theorem a8l {N:Nat} {ops:List Oper} (h:(ops.all fun o=>match o.dst with|some d=>Nat.blt d N|none=>true)=true):∀o∈ops,∀d,o.dst=some d→d<N:=by
 intro o ho d hd;rw [List.all_eq_true] at h;have:=h o ho;rw [hd] at this;exact e6g this
theorem a6B {Fe:Fence} {nn:Nat} {Q:Exit→Act→World→Prop} {c:Code} (I:Nat→Act→World→Prop) (n₀:Nat) (h₀:I n₀ a w)
  (round:∀m a w,I m a w→c.wpIn Fe nn P (Exit.then (fun a' w'=>∃m',m'<m∧I m' a' w') Q) a w):(Code.loop c).wpIn Fe nn P Q a w:=by
 refine wpIn_loop (fun a w=>∃m,I m a w) (fun a w=>leastOf (fun m=>I m a w)) ⟨n₀,h₀⟩ ?_
 intro a w hI;refine wpIn_mono (round _ a w (leastOf_spec hI).1) ?_;intro e a' w' hq;cases e with
 |normal=>
  obtain ⟨n',hlt,hI'⟩:=hq;exact show (∃m,I m a' w')∧leastOf (fun m=>I m a' w')<leastOf (fun m=>I m a w) from ⟨⟨n',hI'⟩,Nat.lt_of_le_of_lt ((leastOf_spec ⟨n',hI'⟩).2 n' hI') hlt⟩
 |exit id=>exact hq
 |goto l=>exact hq
 |ret=>exact hq
 |panic ch=>exact hq
 |outgrown=>exact hq
abbrev a1e:=Fence→Prop
def a82:a1e:=fun Fe=>Fe=Fence.wide
def a0C:Code→Bool
 | .region _ ops _=>ops.toList.all fun o=>match o.op with| .defer _=>false|_=>true
 | .seq a b=>a0C a&&a0C b
 | .cond _ a b=>a0C a&&a0C b
 | .block _ b=>a0C b
 | .loop b=>a0C b
 | .rangeFunc _ _ a b=>a0C a&&a0C b
 |_=>true
theorem b80 {id:Nat} {ops:Array Oper} {d:Bool} (h:a0C (.region id ops d)=true):∀o∈ops.toList,∀c,o.op≠ .defer c:=by
 intro o ho c hc;have:=List.all_eq_true.1 h o ho;rw [hc] at this;cases this
def a6e (Fs:a1e) (c:Code):Prop:=(∀Fe,Fs Fe→a4O Fe)∧((∀Fe,Fs Fe→Fe=Fence.wide)∨a0C c=true)
theorem fsW (c:Code):a6e a82 c:=⟨fun _ h=> .inl h,.inl fun _ h=>h⟩
theorem fsA {c:Code} (h:a0C c=true):a6e a4O c:=⟨fun _ h=>h,.inr h⟩
def a1k (P:Program) (cl:a0i):Prop:=∀{R:Type} {N n0 kb:Nat} {F:Nat→Prop} {B M0:a0A} {w0:World} {e0:a6l} {env:Env} {st:St} {a:Act} {w:World} {id:Nat} {ops:Array Oper} {k:St→Option R} {r:R} {Q:Exit→Act→World→Prop} {Fe:Fence} {nn:Nat},a4O Fe→(Fe=Fence.wide∨ ∀o∈ops.toList,∀c,o.op≠ .defer c)→(∀k,F k→k<kb)→
 Rel P N n0 B M0 w0 F e0 env st a w→(∀o∈ops.toList,∀d,o.dst=some d→d<N)→c0K P cl kb ops.toList st k=some r→(∀a w,a0P P N n0 B M0 w0 F e0 k r a w→Q .normal a w)→(Code.region id ops true).wpIn Fe nn P Q a w
abbrev Ctx:=Nat→Nat→(Nat→Prop)→a0A→a0A→World→a6l→Prop
def c2J:Ctx:=fun _ _ _ _ _ _ _=>True
def a4B (P:Program) (kb:Nat) (b:Code) (f:St→Option (List (Bool×(Ex×St)))) (X:Ctx:=c2J) (Fs:a1e:=a82):Prop:=∀st alts,f st=some alts→ ∀x,a4v alts some=some x→
 ∀{N n0:Nat} {F:Nat→Prop} {B M0:a0A} {w0:World} {e0:a6l} {env:Env} {a:Act} {w:World},X N n0 F B M0 w0 e0→(∀k,F k→k<kb)→okC N b=true→Rel P N n0 B M0 w0 F e0 env st a w→
  ∀Fe nn,Fs Fe→b.wpIn Fe nn P (b6s P N n0 B M0 w0 F e0 (fun e st=>some (e,st)) x) a w
def b44 (P:Program) (hs:a6Y) (kb:Nat) (b:Code) (X:Ctx:=c2J) (Fs:a1e:=a82):Prop:=∀id f,a8M hs b=some (id,f)→a4B P kb b f X Fs
theorem d0e {R:Type} {k:Ex→St→Option R} {r:R} {x:Ex×St} (hk:k x.1 x.2=some r) {e:Exit} (h:b6s P N n0 B M0 w0 F e0 (fun e st=>some (e,st)) x e a w):b6s P N n0 B M0 w0 F e0 k r e a w:=by
 cases e with
 |normal=>obtain ⟨env',st',h1,h2⟩:=h;cases h2;exact ⟨env',st',h1,hk⟩
 |exit i=>obtain ⟨env',st',h1,h2⟩:=h;cases h2;exact ⟨env',st',h1,hk⟩
 |ret=>obtain ⟨env',st',h1,h2⟩:=h;cases h2;exact ⟨env',st',h1,hk⟩
 |_=>exact h.elim
theorem a6e.sub {Fs:a1e} {c d:Code} (h:a6e Fs c) (hd:a0C c=true→a0C d=true):a6e Fs d:=⟨h.1,h.2.imp id hd⟩
theorem a6e.seq1 {Fs:a1e} {x y:Code} (h:a6e Fs (.seq x y)):a6e Fs x:=h.sub fun q=>by simp only [a0C,e57] at q;exact q.1
theorem a6e.seq2 {Fs:a1e} {x y:Code} (h:a6e Fs (.seq x y)):a6e Fs y:=h.sub fun q=>by simp only [a0C,e57] at q;exact q.2
theorem a6e.cond1 {Fs:a1e} {c:Operand} {x y:Code} (h:a6e Fs (.cond c x y)):a6e Fs x:=h.sub fun q=>by simp only [a0C,e57] at q;exact q.1
theorem a6e.cond2 {Fs:a1e} {c:Operand} {x y:Code} (h:a6e Fs (.cond c x y)):a6e Fs y:=h.sub fun q=>by simp only [a0C,e57] at q;exact q.2
theorem a6e.block {Fs:a1e} {i:Nat} {x:Code} (h:a6e Fs (.block i x)):a6e Fs x:=h.sub fun q=>by simpa only [a0C] using q
theorem a6e.loop {Fs:a1e} {x:Code} (h:a6e Fs (.loop x)):a6e Fs x:=h.sub fun q=>by simpa only [a0C] using q
theorem a6e.ops {Fs:a1e} {id:Nat} {ops:Array Oper} {d:Bool} (h:a6e Fs (.region id ops d)) (Fe:Fence) (hFe:Fs Fe):Fe=Fence.wide∨ ∀o∈ops.toList,∀c,o.op≠ .defer c:=h.2.imp (fun q=>q Fe hFe) b80
theorem a44 {R:Type} {cl:a0i} {hs:a6Y} {X:Ctx} {Fs:a1e} (hX:X N n0 F B M0 w0 e0) (hcl:a0m P cl) (hdr:a1k P cl) (hF:∀k,F k→k<kb):∀(n:Nat) {c:Code} {k:Ex→St→Option R} {r:R} {env:Env} {st:St} {a:Act} {w:World},okC N c=true→a6e Fs c→(∀b∈a0K c,b44 P hs kb b X Fs)→
  Rel P N n0 B M0 w0 F e0 env st a w→a32 P cl hs kb n c st k=some r→ ∀Fe nn,Fs Fe→c.wpIn Fe nn P (b6s P N n0 B M0 w0 F e0 k r) a w:=by
 intro n;induction n using Nat.strongRecOn with
 |_ n ih=>
 intro c k r env st a w hok hfs hlo h hk Fe nn hFe;cases n with
 |zero=>cases hk
 |succ n=>
 have ihn:= @ih n (Nat.lt_succ_self n);cases hl:a5A P kb hs c st with
 | some alts=>
  unfold a5A at hl;split at hl
  ·cases hl
  ·rename_i id f hlo1
   have hmem:c∈a0K c:=by
    unfold a8M at hlo1;cases c with
    |seq x y=>
     cases x<;>first|(simp [c4O] at hlo1;done)|skip
     rename_i rid rops rd;cases y<;>first|(simp [c4O] at hlo1;done)|(cases rd<;>first|(simp [c4O] at hlo1;done)|simp [a0K,c60])
    |_=>first|(simp [c4O] at hlo1;done)|simp [a0K]
   have hla:a5A P kb hs c st=some alts:=by unfold a5A;rw [hlo1];exact hl
   simp only [a32,hla] at hk;rw [a42] at hk;cases hx:a4v alts some with
   |none=>rw [hx] at hk;cases hk
   |some y=>
    rw [hx] at hk;obtain ⟨env1,hcl1⟩:=a3U h hF hs.loops id;exact wpIn_mono (hlo c hmem id f hlo1 _ alts hl y hx hX hF hok hcl1 Fe nn hFe) fun e a w hp=>d0e hk hp
 |none=>
 cases c with
 |skip=>simp only [a32,hl] at hk;exact wpIn_skip ⟨env,st,h,hk⟩
 |label l=>simp only [a32,hl] at hk;exact wpIn_label ⟨env,st,h,hk⟩
 |ret=>simp only [a32,hl] at hk;exact wpIn_ret ⟨env,st,h,hk⟩
 |exit id=>simp only [a32,hl] at hk;exact wpIn_exit ⟨env,st,h,hk⟩
 | seq x y=>
  simp only [okC,e57] at hok;simp only [a32,hl] at hk;simp only [a0K,List.mem_append] at hlo;refine wpIn_seq (wpIn_mono (ihn hok.1 hfs.seq1 (fun b hb=>hlo b (.inr (.inl hb))) h hk Fe nn hFe) ?_)
  intro e a' w' hp;cases e with
  |normal=>
   obtain ⟨env',st',h1,h2⟩:=hp;exact ihn hok.2 hfs.seq2 (fun b hb=>hlo b (.inr (.inr hb))) h1 h2 Fe nn hFe
  |exit i=>exact hp
  |ret=>exact hp
  |_=>exact hp.elim
 | block id x=>
  simp only [okC] at hok;simp only [a32,hl] at hk;refine wpIn_block (wpIn_mono (ihn hok hfs.block (by simpa [a0K] using hlo) h hk Fe nn hFe) ?_)
  intro e a' w' hp;cases e with
  |normal=>exact hp
  | exit i=>
   obtain ⟨env',st',h1,h2⟩:=hp;simp only [Exit.inBlock];simp only [a0k] at h2;by_cases hi:i=id
   ·rw [cond_true (by simpa using hi)] at h2
    rw [if_pos hi];exact ⟨env',st',h1,h2⟩
   ·rw [cond_false (by simpa using hi)] at h2
    rw [if_neg hi];exact ⟨env',st',h1,h2⟩
  |ret=>exact hp
  |_=>exact hp.elim
 | cond c x y=>
  simp only [okC,e57] at hok;simp only [a32,hl] at hk;simp only [a0K,e6k,List.mem_append] at hlo;have hc:=h.ev c;split at hk
  ·rename_i b he
   rw [he] at hc;have hb:a.eval c= .bool b:=hc;cases b with
   |true=>exact wpIn_cond_true hb (ihn hok.1 hfs.cond1 (fun b hb=>hlo b (.inr (.inl hb))) h hk Fe nn hFe)
   |false=>exact wpIn_cond_false hb (ihn hok.2 hfs.cond2 (fun b hb=>hlo b (.inr (.inr hb))) h hk Fe nn hFe)
  ·rename_i b he
   rw [he] at hc;have hb:a.eval c= .bool b:=hc;split at hk
   ·rename_i t
    have put:∀z:Bool,b=z→Rel P N n0 B M0 w0 F e0 env {st with tmps:=set st.tmps t (.c (.k z))} a w:=by
     intro z hz;subst hz;refine h.tmps fun t' y hy=> ?_
     rw [a1Q] at hy;by_cases ht:t'=t
     ·rw [if_pos ht] at hy
      simp only [e55] at hy;subst hy ht;exact hb
     ·rw [if_neg ht] at hy
      exact h.tm t' y hy
    cases b with
    |true=>exact wpIn_cond_true hb (ihn hok.1 hfs.cond1 (fun b hb=>hlo b (.inr (.inl hb))) (put true rfl) hk Fe nn hFe)
    |false=>exact wpIn_cond_false hb (ihn hok.2 hfs.cond2 (fun b hb=>hlo b (.inr (.inr hb))) (put false rfl) hk Fe nn hFe)
   ·cases hk
  ·cases hk
 | loop x=>
  simp only [okC] at hok;cases hlw:a8M hs (.loop x) with
  |some q=>
   simp only [a32,hl,hlw] at hk;obtain ⟨env2,hcl2⟩:=a3U h hF hs.loops (3*a1X x);refine a6B (fun m a' w'=>a'=a∧w'=w) 0 ⟨rfl,rfl⟩ ?_
   rintro m a' w' ⟨rfl,rfl⟩;refine wpIn_mono (ihn hok hfs.loop (fun b hb=>hlo b (by simp [a0K,hb])) hcl2 hk Fe nn hFe) ?_
   intro e a'' w'' hp;cases e with
   |normal=>obtain ⟨_,_,_,h4⟩:=hp;cases h4
   |exit i=>exact hp
   |ret=>exact hp
   |_=>exact hp.elim
  |none=>
  refine a6B (fun m a w=>m≤n+1∧ ∃env st,Rel P N n0 B M0 w0 F e0 env st a w∧a32 P cl hs kb m (.loop x) st k=some r) (n+1) ⟨Nat.le_refl _,env,st,h,hk⟩ ?_
  rintro m a' w' ⟨hm,env',st',h1,h2⟩;cases m with
  |zero=>cases h2
  | succ m=>
   have hl':a5A P kb hs (.loop x) st'=none:=by unfold a5A;rw [hlw]
   simp only [a32,hl',hlw] at h2;obtain ⟨env2,hcl2⟩:=a3U h1 hF hs.loops (3*a1X x);refine wpIn_mono (@ih m (by omega) _ _ _ _ _ _ _ hok hfs.loop (fun b hb=>hlo b (by simp [a0K,hb])) hcl2 h2 Fe nn hFe) ?_
   intro e a'' w'' hp;cases e with
   |normal=>
    obtain ⟨env'',st'',h3,h4⟩:=hp;obtain ⟨env3,hcl3⟩:=a3U h3 hF hs.loops (3*a1X x);exact ⟨m,Nat.lt_succ_self m,by omega,env3,_,hcl3,h4⟩
   |exit i=>exact hp
   |ret=>exact hp
   |_=>exact hp.elim
 | region id ops d=>
  simp only [okC] at hok;cases d with
  |false=>
   simp only [a32,hl] at hk;refine wpIn_region_list ?_;have:=a7U (n:=nn) (k:=k .normal) (r:=r) (rest:=[]) (l:=ops.toList) (Q:=b6s P N n0 B M0 w0 F e0 k r) (hfs.1 Fe hFe) hcl (fun a w hp=>hp) (b5A h hs id) (a8l hok) (hfs.ops Fe hFe) (fun o _=>a81 hF) hk
   rwa [List.append_nil] at this
  |true=>
   simp only [a32,hl] at hk;exact hdr (hfs.1 Fe hFe) (hfs.ops Fe hFe) hF (b5A h hs id) (a8l hok) hk fun a w hp=>hp
 |_=>simp only [a32,hl] at hk;cases hk
end
theorem d0f {n m:Nat} (hnm:n≤m):∀{c:Code},okC n c=true→okC m c=true:=by
 intro c;induction c with
 |region id ops d=>
  intro h;simp only [okC,List.all_eq_true] at h⊢;intro o ho;have:=h o ho;cases hd:o.dst with
  |some d=>rw [hd] at this;exact Nat.ble_eq_true_of_le (Nat.le_trans (e6g this) hnm)
  |none=>rfl
 |seq a b iha ihb=>intro h;simp only [okC,e57] at h⊢;exact ⟨iha h.1,ihb h.2⟩
 |cond c a b iha ihb=>intro h;simp only [okC,e57] at h⊢;exact ⟨iha h.1,ihb h.2⟩
 |block id b ih=>intro h;simp only [okC] at h⊢;exact ih h
 |loop b ih=>intro h;simp only [okC] at h⊢;exact ih h
 |rangeFunc g ps a b iha ihb=>
  intro h;simp only [okC,e57,List.all_eq_true] at h⊢;exact ⟨⟨iha h.1.1,ihb h.1.2⟩,fun p hp=>Nat.ble_eq_true_of_le (Nat.le_trans (e6g (h.2 p hp)) hnm)⟩
 |_=>intro _;rfl
section
variable {P:Program} {N n0 kb:Nat} {F:Nat→Prop} {B M0:a0A} {w0:World} {e0:a6l} {env:Env} {st:St} {a:Act} {w:World}
theorem c48 {xs:List V}:∀{i t:Nat},get (params i xs) t=if i≤t then xs[t-i]? else none:=by
 induction xs with
 |nil=>intro i t;simp [params,get]
 | cons x xs ih=>
  intro i t;simp only [params,get,a0k,ih];by_cases h:i=t
  ·subst h;simp
  ·rw [cond_false (by simpa using h)]
   by_cases h1:i≤t
   ·rw [if_pos h1,if_pos (by omega),show t-i=(t-(i+1))+1 by omega,List.getElem?_cons_succ]
   ·rw [if_neg h1,if_neg (by omega)]
def e28 (a:Act):ResultVar→Sem Value
 | .tmp t=>pure (a.tmps.getD t undef)
 | .cell x t=>do loadVar t (←asAddr (a.tmps.getD x undef))
theorem b81:∀{ks:List Nat} {mem:AL Obj} {key:Nat} {ob:Obj},get (a0w mem ks) key=some ob→ ∃ob0,get mem key=some ob0∧ ∀(s:a1J) b x,a3B P s ob b x→a3B P s ob0 b x
 | [],mem,key,ob,h=>⟨ob,h,fun _ _ _ q=>q⟩
 | k ::ks,mem,key,ob,h=>by
  simp only [a0w] at h;obtain ⟨ob1,h1,h2⟩:=b81 h;cases hg:get mem k with
  |none=>rw [hg] at h1;exact ⟨ob1,h1,h2⟩
  | some o=>
   rw [hg] at h1;simp only [a1Q] at h1;by_cases hk:key=k
   ·rw [if_pos hk] at h1
    simp only [e55] at h1;subst h1 hk;refine ⟨o,hg,fun s b x hm=> ?_⟩
    have:=h2 s b x hm;cases o with
    |row e ex nl xs=>
     simp only [b5d,a3B] at this⊢;refine ⟨this.1,this.2.1,?_⟩;rcases this.2.2 with q|q
     ·cases q
     ·exact .inr q
    |_=>exact this
   ·rw [if_neg hk] at h1
    exact ⟨ob1,h1,h2⟩
theorem c02 {env:Env} (mem:AL Obj) (ks:List Nat):a0y w (Sof P B M0 n0 env mem w) w (Sof P B M0 n0 env (a0w mem ks) w):=fun b o v hS hv=>
 ⟨⟨hS.1,hS.2.1,fun key ob hg hm=>let ⟨ob0,g0,m0⟩:=b81 (P:=P) hg;hS.2.2 key ob0 g0 (m0 _ _ _ hm)⟩,hv⟩
theorem a3E (h:Rel P N n0 B M0 w0 F e0 env st a w):∀{l:List ResultVar} {rs:List V},a2W P st l=some rs→
  ∃vs,(l.mapM (e28 a)).run P w= .ok vs w∧All2 (a0s P env (Sof P B M0 n0 env st.mem w) w) rs vs
 | [],rs,hr=>by
  simp only [a2W,e55] at hr;subst hr;exact ⟨[],by simp,trivial⟩
 | .tmp t::l,rs,hr=>by
  simp only [a2W] at hr;split at hr
  ·rename_i xs hxs
   simp only [e55] at hr;subst hr;obtain ⟨vs,h1,h2⟩:=a3E h hxs;refine ⟨a.tmps.getD t undef::vs,?_,h.evu (.tmp t),h2⟩;simp only [List.mapM_cons,e28,e6b,e6c,e58,h1]
  ·cases hr
 | .cell x T::l,rs,hr=>by
  simp only [a2W] at hr;split at hr
  ·rename_i y xs hy hxs
   simp only [e55] at hr;subst hr;obtain ⟨vs,h1,h2⟩:=a3E h hxs;obtain ⟨ad,v,q1,q2,q3⟩:=b3m h.ob (h.evu (.tmp x)) hy;have q1':a.tmps.getD x undef= .pointer (some ad):=q1;refine ⟨v::vs,?_,q3,h2⟩;simp only [List.mapM_cons,e28,e6b,q1',asAddr,e6c,e58,q2,h1]
  ·cases hr
theorem d0g {S:a0A} {x:V} {v:Value} (hp:b04 x=true) (h:a0s P env S w x v):a4q P env S w x v:=by
 cases x with
 |c c=>exact h
 |g xs=>exact h
 |t=>cases hp
 |w=>cases hp
theorem c03 {S:a0A} {rs:List V} {vs:List Value} (hp:rs.all b04=true) (h:All2 (a0s P env S w) rs vs):a0s P env S w (a3L rs) (if h:vs.length=1 then vs[0] else .tuple vs.toArray):=by
 rw [List.all_eq_true] at hp;have hl:=h.length;match rs,vs,h,hl,hp with
 | [],[],_,_,_=>exact ⟨#[],rfl,trivial⟩
 | [x],[v],h,_,_=>simpa [a3L] using h.1
 |x::y::r,v::u::s,h,_,hp=>
  rw [dif_neg (by simp)]
  exact ⟨_,rfl,h.mono fun x v hx hxv=>d0g (hp x hx) hxv⟩
theorem b1k {S:a0A}:∀{ts:List TypeId} {xs:List V} {vs:List Value},All2 (a0s P env S w) xs vs→All2 (a0s P env S w) (b3f P ts xs) vs
 | [],xs,vs,h=>by simpa [b3f] using h
 |T::ts,[],[],h=>by simpa [b3f] using h
 |T::ts,x::xs,v::vs,h=>⟨b6h h.1,b1k h.2⟩
 |T::ts,[],_::_,h=>h.elim
 |T::ts,_::_,[],h=>h.elim
theorem b82 {fn:Func} {own:Bool} {r:Res} (h:Rel P N n0 B M0 w0 F e0 env st a w) (hf:b5i P fn own kb st=some r):
  ∃v,(results fn a.tmps).run P w= .ok v w∧e0R P n0 B M0 w0 F e0.f env r.2 w∧a0s P env (Sof P B M0 n0 env r.2 w) w (a3L r.1) v:=by
 unfold b5i at hf;split at hf
 ·cases hf
 ·rename_i rs hrs
  simp only at hf;obtain ⟨vs,h1,h2⟩:=a3E h hrs;have hpre:∃mem rs',(bif own then st.mem else a0w st.mem (rs.flatMap a3l))=mem∧(bif own then rs else rs.map (b52 mem))=rs'∧Rel P N n0 B M0 w0 F e0 env {st with mem} a w∧All2 (a0s P env (Sof P B M0 n0 env mem w) w) rs' vs:=by
   cases own with
   |true=>exact ⟨_,_,rfl,rfl,h,h2⟩
   |false=>
    have hsh:=Rel.share (rs.flatMap a3l) (mem:=st.mem) h;exact ⟨_,_,rfl,rfl,hsh,h2.mapl fun x v _ hxv=>a5I hsh.ob hsh.rows (a0s.mono (c02 _ _) (fun _=>rfl) hxv)⟩
  obtain ⟨mem,rs',hmem,hrs',hsh,h2'⟩:=hpre;rw [hmem,hrs'] at hf;split at hf
  ·cases hf
  ·rename_i acc hacc
   cases hp:(b3f P fn.resultTypes.toList rs').all b04 with
   |false=>rw [hp] at hf;cases hf
   | true=>
    rw [hp] at hf;simp only [cond_true,e55] at hf;subst hf;have h3:All2 (a0s P env (Sof P B M0 n0 env mem w) w) (b3f P fn.resultTypes.toList rs') vs:=b1k h2';have hwk:=hsh.weaken (tmps:=st.tmps) (mem:=c0A (fun x=>acc.any fun r=>Nat.beq r.key x) mem) (fun _ _ q=>q) (fun _ _ q=>b1Z _ _ _ _ q)
    have hk2:a0y w (Sof P B M0 n0 env mem w) w (Sof P B M0 n0 env (c0A (fun x=>acc.any fun r=>Nat.beq r.key x) mem) w):=fun b o v hS hv=>⟨⟨hS.1,hS.2.1,fun key ob hg hmu=>hS.2.2 key ob (b1Z _ _ _ _ hg) hmu⟩,hv⟩
    refine ⟨if h:vs.length=1 then vs[0] else .tuple vs.toArray,?_,hwk.toM,c03 hp (h3.mono fun x v _ hxv=>a0s.mono hk2 (fun _=>rfl) hxv)⟩
    have hfun:results fn a.tmps=(do let vs←fn.results.mapM (e28 a);pure (if h:vs.size=1 then vs[0] else .tuple vs)):=by
     unfold results;congr 1
    rw [hfun,Array.mapM_eq_mapM_toList];simp only [map_eq_pure_bind,e6b,h1,e58,e6c];simp
def Off (env:Env) (mem:AL Obj) (b:Nat):Prop:=∀key o,get mem key=some o→a0N o→(env key).blk≠b
theorem Off.new (h:Rel P N n0 B M0 w0 F e0 env st a w) {b:Nat} (hb:w.heap.size≤b):Off env st.mem b:=fun key o hg hr=>by have:=h.lt hg hr;omega
theorem Rel.alienM (h:Rel P N n0 B M0 w0 F e0 env st a w) {w':World} {row:Option Nat} (hg:w.grownBy w' row) (hmk:a1Y n0 w' e0.D a.defers)
  (hrow:∀r,row=some r→(n0≤r∨ ∀o,M0 r o)∧(∀c T f,w.heap[r]?≠some (.cells c T f))∧Off env st.mem r):Rel P N n0 B M0 w0 F e0 env st a w':=by
 have hcell:∀(b:Nat) (cur:Array Value) (T:TypeId) (fr:Nat×Nat),w.heap[b]? =some (Go.Obj.cells cur T fr)→w'.heap[b]? =some (Go.Obj.cells cur T fr):=by
  intro b cur T fr hb;rw [hg.block b (e6f.1 hb).1 (fun e=>(hrow b e.symm).2.1 _ _ _ hb)]
  exact hb
 have hk:a0y w (Sof P B M0 n0 env st.mem w) w' (Sof P B M0 n0 env st.mem w'):=by
  intro b o v hS hv;refine ⟨⟨hS.1,Nat.lt_of_lt_of_le hS.2.1 hg.size,hS.2.2⟩,?_⟩;obtain ⟨cur,T,fr,h1,h2⟩:=a4Y hv;exact a2Y (hcell b cur T fr h1) h2
 refine ⟨h.size,hmk,h.hn0,fun t x hx=>a0l.mono hk (fun _=>rfl) (h.tm t x hx),fun key o hgk=>a1d hk (fun hr=> ?_) (h.ob key o hgk),h.ds,h.mu,h.pr,?_,h.bb,h.fx,h.gi⟩
 ·exact hg.block _ (h.lt hgk hr) (fun e=>(hrow _ e.symm).2.2 key o hgk hr rfl)
 ·refine Chg.trans h.ch (M':=fun b _=>row=some b) ⟨hg.os,hg.tape,hg.output,hg.size,fun b cur T fr hb=>⟨cur,fr,hcell b cur T fr hb,rfl,fun _ _=>rfl,.inl rfl⟩,fun b ob hb hno=> ?_⟩ (fun b o hm=>by
    rcases (hrow b hm).1 with q|q
    ·exact .inr (by rw [←h.hn0];exact q)
    ·exact .inl (q o))
  rw [hg.block b (e6f.1 hb).1 (fun e=>hno 0 e.symm)]
  exact hb
theorem Rel.alien (h:Rel P N n0 B M0 w0 F e0 env st a w) {w':World} {row:Option Nat} (hg:w.grownBy w' row)
  (hrow:∀r,row=some r→n0≤r∧(∀c T f,w.heap[r]?≠some (.cells c T f))∧Off env st.mem r) (hnd:∀r,row=some r→ ∀d,w.heap[r]?≠some (.deferred d)):Rel P N n0 B M0 w0 F e0 env st a w':=
 h.alienM hg (h.dfr.grown hg hnd) fun r e=>⟨.inl (hrow r e).1,(hrow r e).2⟩
theorem Rel.act (h:Rel P N n0 B M0 w0 F e0 env st a w) {tmps:AL V} {a2:Act} {D':List Deferred} (hd:a1Y n0 w D' a2.defers) (ht:∀t x,get tmps t=some x→a0l P env (Sof P B M0 n0 env st.mem w) w a2 x (a2.tmps.getD t undef)):
  Rel P a2.tmps.size n0 B M0 w0 F ⟨e0.f,D'⟩ env ⟨tmps,st.mem⟩ a2 w:=⟨rfl,hd,h.hn0,ht,h.ob,h.ds,h.mu,h.pr,h.ch,h.bb,h.fx,h.gi⟩
theorem Off.other (h:Rel P N n0 B M0 w0 F e0 env st a w) {b:Nat} {ob:Go.Obj} (hb:w.heap[b]? =some ob) (h1:∀c T f,ob≠ .cells c T f) (h2:∀e c,ob≠ .map e c):Off env st.mem b:=by
 intro key o hg hr he;have ho:=h.ob key o hg;cases o with
 |box cs=>obtain ⟨cur,T,q,_⟩:=ho;rw [he,hb] at q;exact h1 _ _ _ (Option.some.inj q)
 |row e ex nl xs=>
  obtain ⟨_,⟨q,_⟩|⟨_,_,cap,cur,_,⟨fr,_,q⟩,_⟩⟩:=ho
  ·rw [show nl=false from hr] at q;cases q
  ·rw [he,hb] at q;exact h1 _ _ _ (Option.some.inj q)
 |map kt vt es=>obtain ⟨ents,clock,q,_⟩:=ho;rw [he,hb] at q;exact h2 _ _ (Option.some.inj q)
 |tab kt vt es=>obtain ⟨ents,clock,q,_⟩:=ho;rw [he,hb] at q;exact h2 _ _ (Option.some.inj q)
 |dat T d=>obtain ⟨_,cur,E,q,_⟩:=ho;rw [he,hb] at q;exact h1 _ _ _ (Option.some.inj q)
 |krow e k i c xs=>obtain ⟨_,_,_,_,cap,cur,_,⟨fr,_,q⟩,_⟩:=ho;rw [he,hb] at q;exact h1 _ _ _ (Option.some.inj q)
theorem b1l {fn:Func} {own:Bool} {r:Res} {R:Ending→World→Prop} {tmps:Array Value} (hf:b5i P fn own kb st=some r)
  (hR:∀v w,e0R P n0 B M0 w0 F e0.f env r.2 w→a0s P env (Sof P B M0 n0 env r.2 w) w (a3L r.1) v→R (.returned v) w):∀(ns:List Nat) {w:World},
  Rel P N n0 B M0 w0 F ⟨e0.f,[]⟩ env st {tmps:=tmps,defers:=[]} w→(∀b∈ns,n0≤b∧w.heap[b]? =some (.deferred (some [])))→ns.Nodup→LeavesInM Fence.wide 0 P fn tmps R (ns.map mkD) .returning w
 | [],w,h,_,_=>by
  obtain ⟨v,q1,q2,q3⟩:=b82 h hf;exact ⟨v,q1,hR v w q2 q3⟩
 | b::ns,w,h,hb,hn=>by
  obtain ⟨h1,h2⟩:=hb b (by simp)
  have hlt:b<w.heap.size:=(e6f.1 h2).1;refine ⟨(fun h=>by cases h),.inl ⟨b,_,rfl,run_takeDeferred h2,b1l hf hR ns ?_ (fun c hc=> ?_) (List.nodup_cons.1 hn).2⟩⟩
  ·exact h.alienM (row:=some b) ⟨rfl,rfl,rfl,by simp,fun k hk hne=>World.putObj_heap_other (fun e=>hne (by rw [e]))⟩ .nil fun r e=>by
    cases e;exact ⟨.inl h1,(fun c T f e=>by rw [h2] at e;cases e),Off.other h h2 (fun _ _ _ e=>by cases e) (fun _ _ e=>by cases e)⟩
  ·refine ⟨(hb c (by simp [hc])).1,?_⟩
   rw [World.putObj_heap_other (show c≠b from fun e=>by subst e;exact (List.nodup_cons.1 hn).1 hc)]
   exact (hb c (by simp [hc])).2
structure a3o (P:Program):Prop where
 mixed:P.follows .mixedOrders=true
 ok:∀(f:Nat) (fn:Func) (c:Code),P.funcs[f]? =some fn→fn.body=some c→okC fn.ntmps c=true
 num:∀(f:Nat) (fn:Func),P.funcs[f]? =some fn→fn.body.isNone=false→(fn.name== "runtime.NumGoroutine")=false
def c04 (P:Program) (hs:a6Y) (kb:Nat) (f:FuncId) (X:Ctx:=c2J):Prop:=∀fn c,P.funcs[f]? =some fn→fn.body=some c→ ∀b∈a0K c,b44 P hs kb b X
def c05 (X:Ctx) (P:Program) (f:FuncId) (args:List V) (mem:AL Obj) (res:Res):Prop:=
 ∀(B:a0A) (env:Env) (w:World) (vs:Array Value),(∀N,X N w.heap.size (· <mem.length) B (a3g P env mem) w env)→b0u P B env mem w→All2 (a0s P env (Sof P B (a3g P env mem) w.heap.size env mem w) w) args vs.toList→
  Calls P f vs w fun e w'=>∃v,e= .returned v∧a65 P B env mem w res v w'
theorem a8m {X:Ctx} {cl:a0i} {hs:a6Y} {n:Nat} {f:FuncId} {args:List V} {mem:AL Obj} {r:Res} (hP:a3o P) (hcl:a0m P cl) (hdr:a1k P cl) (hlo:c04 P hs mem.length f X)
  (h:body P cl hs n f args mem=some r):c05 X P f args mem r∧a6x P f:=by
 unfold body at h;split at h
 ·cases h
 ·rename_i fn hfn
  split at h
  ·cases h
  ·rename_i c hc
   have hbn:fn.body.isNone=false:=by rw [hc];rfl
   refine ⟨fun B env w vs hX hpre hargs=> ?_,fn,hfn,hbn,hP.num f fn hfn hbn⟩
   refine callsIn_wide.1 (callsIn_of_wp_marks (n:=0) hfn hc trivial ?_);have M:=hpre.rel;have hrel:Rel P (vs++Array.replicate (fn.ntmps-vs.size) undef).size w.heap.size B (a3g P env mem) w (· <mem.length) env env {tmps:=params 0 args,mem} {tmps:=vs++Array.replicate (fn.ntmps-vs.size) undef,defers:=[]} w:=by
    refine ⟨rfl,.nil,rfl,?_,M.ob,M.ds,M.mu,M.pr,M.ch,M.bb,M.fx,M.gi⟩;intro t x hx;rw [c48,if_pos (Nat.zero_le _),Nat.sub_zero] at hx;obtain ⟨v,h1,h2⟩:=hargs.get hx;rw [Array.getElem?_toList] at h1;have hlt:=(e6f.1 h1).1;have:(vs++Array.replicate (fn.ntmps-vs.size) undef).getD t undef=v:=by
     rw [e6i,Array.getElem?_append_left hlt,h1];rfl
    rw [this];exact a0l.of h2
   have hN:fn.ntmps≤(vs++Array.replicate (fn.ntmps-vs.size) undef).size:=by simp;omega
   refine wpIn_mono (a44 (hX _) hcl hdr (fun _ h=>h) n (d0f hN (hP.ok f fn c hfn hc)) (fsW _) (hlo fn c hfn hc) hrel h Fence.wide 0 rfl) ?_
   intro e a' w' hp;have fin:a0P P (vs++Array.replicate (fn.ntmps-vs.size) undef).size w.heap.size B (a3g P env mem) w (· <mem.length) env (fun st=>b5i P fn hs.rows mem.length st) r a' w'→
     LeavesInM Fence.wide 0 P fn a'.tmps (fun e w'=>∃v,e= .returned v∧a65 P B env mem w r v w') a'.defers .returning w':=by
    rintro ⟨env',st',h1,h2⟩;obtain ⟨ns,d1,d2,d3⟩:=h1.dfr;rw [d1,List.append_nil];have h3:=h1.act (tmps:=st'.tmps) (a2:={tmps:=a'.tmps,defers:=[]}) (D':=[]) .nil h1.tm;exact b1l (env:=env') (st:=st') h2 (fun v w q1 q2=>⟨v,rfl,env',q1,q2⟩) ns h3 d2 d3
   cases e with
   |normal=>exact fin hp
   |ret=>exact fin hp
   |exit i=>
    obtain ⟨env',st',h1,h2⟩:=hp;cases h2
   |_=>exact hp.elim
theorem b5B {cl:a0i} {hs:a6Y} {n:Nat} {f:FuncId} {args:List V} {mem:AL Obj} {r:Res} (hP:a3o P) (hcl:a0m P cl) (hdr:a1k P cl) (hlo:c04 P hs mem.length f)
  (h:body P cl hs n f args mem=some r):a2z P f args mem r∧a6x P f:=
 ⟨fun B env w vs hpre hargs=>(a8m hP hcl hdr hlo h).1 B env w vs (fun _=>trivial) hpre hargs,(a8m hP hcl hdr hlo h).2⟩
def ext (f:FuncId) (sp:List V→AL Obj→Option (List (Bool×Res))) (T:a0i):a0i:=fun g args mem=>
 bif Nat.beq g f then (match sp args mem with
  |some alts=>some alts
  |none=>T g args mem) else T g args mem
def b6t:a0i:=fun _ _ _=>none
theorem b3M:a0m P b6t:=fun _ _ _ _ h=>by cases h
theorem e0S {T:a0i} (hT:a0m P T) {f:FuncId} {sp:List V→AL Obj→Option (List (Bool×Res))} (hent:a6x P f)
  (h:∀args mem alts,sp args mem=some alts→ ∀res,a4v alts some=some res→a2z P f args mem res):a0m P (ext f sp T):=by
 intro g args mem alts hg;unfold ext at hg;cases hb:Nat.beq g f with
 |false=>rw [hb] at hg;exact hT g args mem alts hg
 | true=>
  rw [hb] at hg;have:=e56 hb;subst this;simp only [cond_true] at hg;split at hg
  ·rename_i alts' hs
   simp only [e55] at hg;subst hg;exact ⟨hent,h args mem alts' hs⟩
  ·exact hT g args mem alts hg
theorem c61 {X:Ctx} {Fs:a1e} {cl:a0i} {hs':a6Y} {kb:Nat} {b:Code} {f:St→Option (List (Bool×(Ex×St)))} (hcl:a0m P cl) (hdr:a1k P cl) (hfs:a6e Fs b) (hin:∀b'∈a0K b,b44 P hs' kb b' X Fs)
  (ts ks:List Nat)
  (h:∀st alts,f st=some alts→ ∀x,a4v alts some=some x→ ∃n,a32 P cl hs' kb n b st (fun e st=>some (e,a3N ts ks st))=some x):a4B P kb b f X Fs:=by
 intro st alts hst x hx N n0 F B M0 w0 e0 env a w hX hF hok hrel Fe nn hFe;obtain ⟨n,hn⟩:=h st alts hst x hx;refine wpIn_mono (a44 hX hcl hdr hF n hok hfs hin hrel hn Fe nn hFe) ?_;intro e a' w' hp;cases e with
 |normal=>obtain ⟨env',st',h1,h2⟩:=hp;exact ⟨env',_,a0L h1 ts ks,h2⟩
 |exit i=>obtain ⟨env',st',h1,h2⟩:=hp;exact ⟨env',_,a0L h1 ts ks,h2⟩
 |ret=>obtain ⟨env',st',h1,h2⟩:=hp;exact ⟨env',_,a0L h1 ts ks,h2⟩
 |_=>exact hp.elim
end
theorem b3N {α:Type} (p:Nat→Bool) (n:Nat):∀(l:AL α),get (c0A p l) n=if p n=true then get l n else none
 | []=>by simp [c0A,get]
 | (k,v)::r=>by
  have ih:=b3N p n r;simp only [c0A];cases hp:p k with
  |true=>
   simp only [cond_true,get,a0k,ih];by_cases hk:k=n
   ·subst hk;simp [hp]
   ·rw [cond_false (by simpa using hk),cond_false (by simpa using hk)]
  |false=>
   simp only [cond_false,ih,get,a0k];by_cases hk:k=n
   ·subst hk;simp [hp]
   ·rw [cond_false (by simpa using hk)]
theorem b5C {sel:Nat→Bool} {mem:AL Obj} {k:Nat}:∀{l:AL Obj},get (b5g sel l mem) k=if sel k=true then (match get l k with|some x=>some x|none=>get mem k) else get mem k
 | []=>by simp [b5g,get]
 | (j,o)::r=>by
  have ih:=b5C (sel:=sel) (mem:=mem) (k:=k) (l:=r);simp only [b5g];cases hs:sel j with
  |true=>
   simp only [cond_true,a1Q,get,a0k];by_cases hj:k=j
   ·subst hj;simp [hs]
   ·rw [if_neg hj,ih,cond_false (by simpa using Ne.symm hj)]
  |false=>
   simp only [cond_false,ih,get,a0k];by_cases hj:k=j
   ·subst hj;simp [hs]
   ·rw [cond_false (by simpa using Ne.symm hj)]
theorem c49 {l:AL V} {d t:Nat} {x:Option V}:get (c2n l d x) t=if t=d then x.map b4T else get l t:=by
 cases x with
 |none=>simp [c2n,a71]
 |some x=>simp [c2n,a1Q]
theorem a1x {P:Program} {kb:Nat} {o:Oper} {ks:List Nat} {st out:St} {t:Nat}:get (a2n P kb o ks st out).tmps t=if o.dst=some t then (get out.tmps t).map b4T else get st.tmps t:=by
 unfold a2n;cases hd:o.dst with
 |none=>simp
 |some d=>
  simp only [c49,e55];by_cases h:t=d
  ·subst h;simp
  ·rw [if_neg h,if_neg (Ne.symm h)]
theorem a5K {P:Program} {kb:Nat} {o:Oper} {ks:List Nat} {st out:St} {k:Nat} (hv:a1P P o=false):get (a2n P kb o ks st out).mem k=if c0B P kb o ks k=true then get out.mem k else get st.mem k:=by
 unfold a2n;simp only [hv,cond_false,b5C,b3N];cases c0B P kb o ks k with
 |true=>cases get out.mem k<;>simp
 |false=>simp
theorem a83 {P:Program} {kb:Nat} {o:Oper} {ks:List Nat} {st out:St} (hv:a1P P o=true):(a2n P kb o ks st out).mem=st.mem:=by
 unfold a2n;simp only [hv,cond_true]
def NoW (st:St):Prop:=∀t x,get st.tmps t=some x→ ∀s b y,x≠ .w s b y
def b1m (P:Program) (kb:Nat) (o:Oper) (st:St):Prop:=
 (∀t x,get st.tmps t=some x→ ∀k∈a5z x,a0v P kb o k=false)∧ ∀k ob,get st.mem k=some ob→a0v P kb o k=false∧ ∀k'∈a1g ob,a0v P kb o k'=false
theorem a5L (c:C):a2X c=a1C c:=by cases c<;>rfl
section
variable {P:Program} {env env':Env} {S S':a0A} {w w':World}
theorem a4q.monoK (h:a0y w S w' S') {x:V} {v:Value} (hk:∀k∈a6V x,env' k=env k) (hr:a4q P env S w x v):a4q P env' S' w' x v:=by
 cases x with
 |c x=>exact a0j.mono h (fun k hk'=>hk k (by rw [a5L] at hk';exact hk')) hr
 |g xs=>
  obtain ⟨vs,h1,h2⟩:=hr;refine ⟨vs,h1,h2.mono fun x y hx=>a0j.mono h fun k hk'=>hk k ?_⟩
  rw [a5L] at hk';exact List.mem_flatMap.2 ⟨x,hx,hk'⟩
 |_=>exact hr.elim
theorem a0s.monoK (h:a0y w S w' S') {x:V} {v:Value} (hk:∀k∈a5z x,env' k=env k) (hr:a0s P env S w x v):a0s P env' S' w' x v:=by
 cases x with
 |c x=>exact a0j.mono h (fun k hk'=>hk k (by rw [a5L] at hk';exact hk')) hr
 |g xs=>
  obtain ⟨vs,h1,h2⟩:=hr;refine ⟨vs,h1,h2.mono fun x y hx=>a0j.mono h fun k hk'=>hk k ?_⟩
  rw [a5L] at hk';exact List.mem_flatMap.2 ⟨x,hx,hk'⟩
 |t xs=>
  obtain ⟨vs,h1,h2⟩:=hr;exact ⟨vs,h1,h2.mono fun x y hx=>a4q.monoK h fun k hk'=>hk k (List.mem_flatMap.2 ⟨x,hx,hk'⟩)⟩
 |w _ _ _=>exact hr.elim
theorem a0l.untagged {a:Act} {x:V} {v:Value} (hn:∀s b y,x≠ .w s b y) (hr:a0l P env S w a x v):a0s P env S w x v:=by
 cases x with
 |w s b y=>exact absurd rfl (hn s b y)
 |_=>exact hr
theorem b3O (h:a0y w S w' S') {s:a1J} {o:Obj} (hk:∀k∈a1g o,env' k=env k) (hh:a0N o→w'.heap[s.blk]? =w.heap[s.blk]?) (hr:a0x P env S w s o):a0x P env' S' w' s o:=by
 cases o with
 |box cs=>
  obtain ⟨cur,T,h1,h2,h3,h4⟩:=hr;refine ⟨cur,T,by rw [hh trivial];exact h1,h2,h3.mono fun x y hx hxy=>a0j.mono h (fun k hk'=>hk k ?_) hxy,h4⟩
  rw [a5L] at hk';exact List.mem_flatMap.2 ⟨x,hx,hk'⟩
 |row e ex nl xs=>exact a3P h hh hr ex
 |map kt vt es=>exact a62 h (hh trivial) hr
 |tab kt vt es=>
  refine c2z h (fun x v hx hxv=>a0j.mono h (fun k hk'=>hk k ?_) hxv) (hh trivial) hr
  obtain ⟨y,hy,rfl⟩:=List.mem_map.1 hx;rw [a5L] at hk';exact List.mem_flatMap.2 ⟨y,hy,hk'⟩
 |dat T d=>exact a63 h (hh trivial) hr
 |krow e k q c xs=>exact a8R h rfl rfl rfl (fun v hx=>a0j.mono h (fun k hk'=>hk k (by rw [a5L] at hk';exact hk')) hx) (hh trivial) hr
end
section
variable {P:Program} {N n0 kb:Nat} {F:Nat→Prop} {B M0:a0A} {w0:World} {e0:a6l} {env:Env} {st:St} {a:Act} {w:World}
theorem b12 (h:Rel P N n0 B M0 w0 F e0 env st a w) (hn:NoW st) {m:St} (ht:∀t x,get m.tmps t=some x→get st.tmps t=some x) (hm:∀k ob,get m.mem k=some ob→get st.mem k=some ob) (F':Nat→Prop):
  Rel P N w.heap.size (Sof P B M0 n0 env st.mem w) (a3g P env m.mem) w F' ⟨env,a.defers⟩ env m a w:=by
 have hk:a0y w (Sof P B M0 n0 env st.mem w) w (Sof P (Sof P B M0 n0 env st.mem w) (a3g P env m.mem) w.heap.size env m.mem w):=fun b o v hS hv=>
  ⟨⟨.inl hS,hS.2.1,fun key ob hg hmu=>hS.2.2 key ob (hm key ob hg) hmu⟩,hv⟩
 refine ⟨h.size,.nil,rfl,fun t x hx=>a0l.of (a0s.mono hk (fun _=>rfl) (a0l.untagged (hn t x (ht t x hx)) (h.tm t x (ht t x hx)))),fun key o hg=>a1d hk (fun _=>rfl) (h.ob key o (hm key o hg)),
  fun k k' o o' hg hg'=>h.ds k k' o o' (hm _ _ hg) (hm _ _ hg'),fun key o b x hg hmu=> .inl ⟨key,o,hg,hmu⟩,?_,Chg.refl _ w,fun b o hS=>hS.2.1,fun _ _=>rfl,h.gi.step h.ch fun b o ⟨k,ob,hg,hmu⟩=>(by rw [←h.hn0];exact h.mu _ _ _ _ (hm k ob hg) hmu)⟩
 intro key e ex xs hg o ho;cases ex with
 |false=>exact .inl (h.rows key e xs (hm _ _ hg) o ho)
 |true=>exact .inr (.inr ⟨_,_,hg,rfl,rfl,.inl rfl⟩)
theorem frame (h:Rel P N n0 B M0 w0 F e0 env st a w) (hn:NoW st) {o:Oper} {ks:List Nat} (hc:b1m P kb o st) (hF:∀k,F k→a0v P kb o k=false) {m out:St} (hmm:∀k,get (a2n P kb o ks st out).mem k=if c0B P kb o ks k=true then get out.mem k else get st.mem k)
  (hm:∀k,get m.mem k=if k∈ks then get st.mem k else none) {env':Env} {a':Act} {w':World}
  (hin:Rel P N w.heap.size (Sof P B M0 n0 env st.mem w) (a3g P env m.mem) w (fun k=>a0v P kb o k=false) ⟨env,a.defers⟩ env' out a' w')
  (hfull:∀k ob,get out.mem k=some ob→b54 ob=true) (ha:∀t,o.dst≠some t→a'.tmps.getD t undef=a.tmps.getD t undef):
  Rel P N n0 B M0 w0 F e0 env' (a2n P kb o ks st out) a' w':=by
 have hsub:∀k ob,get m.mem k=some ob→get st.mem k=some ob∧k∈ks:=by
  intro k ob hg;rw [hm] at hg;by_cases hk:k∈ks
  ·rw [if_pos hk] at hg;exact ⟨hg,hk⟩
  ·rw [if_neg hk] at hg;cases hg
 have hMtS:∀b x,a3g P env m.mem b x→ ∃k ob,k∈ks∧get st.mem k=some ob∧a3B P (env k) ob b x:=fun b x ⟨k,ob,g,q⟩=>⟨k,ob,(hsub k ob g).2,(hsub k ob g).1,q⟩
 have hget:∀k ob,get (a2n P kb o ks st out).mem k=some ob→(c0B P kb o ks k=true∧get out.mem k=some ob)∨(c0B P kb o ks k=false∧k∉ks∧a0v P kb o k=false∧env' k=env k∧get st.mem k=some ob):=by
  intro k ob hg;rw [hmm] at hg;cases hs:c0B P kb o ks k with
  |true=>rw [hs] at hg;exact .inl ⟨rfl,by simpa using hg⟩
  |false=>
   rw [hs] at hg;have hs':=hs;unfold c0B at hs';simp only [Bool.or_eq_false_iff] at hs';refine .inr ⟨rfl,fun hk=> ?_,hs'.2,hin.fx k hs'.2,by simpa using hg⟩
   rw [a1j.2 hk] at hs';cases hs'.1
 -- a block that is not leaned on stays
 have hno:∀k ob,k∉ks→get st.mem k=some ob→a0N ob→ ∀x,¬a3g P env m.mem (env k).blk x:=by
  intro k ob hk hg hr x hmu;obtain ⟨k',ob',h1,h2,h3⟩:=hMtS _ _ hmu;obtain ⟨h4,h5⟩:=a1H h3;exact h.ds k k' ob ob' hg h2 hr h4 (fun e=>hk (e▸h1)) h5
 have hsame:∀k ob,k∉ks→get st.mem k=some ob→a0N ob→w'.heap[(env k).blk]? =w.heap[(env k).blk]? :=fun k ob hk hg hr=>b8Q hin.ch (b1h (h.ob _ _ hg) hr) (hno k ob hk hg hr)
 -- where the objects that came back lie
 have hreal:∀k ob,get out.mem k=some ob→a0N ob→w.heap.size≤(env' k).blk∨ ∃k' ob',k'∈ks∧get st.mem k'=some ob'∧a0N ob'∧(env k').blk=(env' k).blk:=by
  intro k ob hg hr;obtain ⟨x,hx⟩:=c00 (P:=P) (s:=env' k) hr (hfull k ob hg);rcases hin.mu k ob _ x hg hx with hmu|h1
  ·obtain ⟨k',ob',h1,h2,h3⟩:=hMtS _ _ hmu
   obtain ⟨h4,h5⟩:=a1H h3;exact .inr ⟨k',ob',h1,h2,h4,h5.symm⟩
  ·exact .inl h1
 have hS1:a0y w' (Sof P (Sof P B M0 n0 env st.mem w) (a3g P env m.mem) w.heap.size env' out.mem w') w' (Sof P B M0 n0 env' (a2n P kb o ks st out).mem w'):=by
  intro b x u hS hcell;refine ⟨⟨?_,hS.2.1,?_⟩,hcell⟩
  ·rcases hS.1 with h1|h1|h1
   ·exact h1.1
   ·exact .inr (.inl (Nat.le_trans h.n0le h1))
   ·obtain ⟨k,ob,_,h2,h3⟩:=hMtS _ _ h1
    rcases h.mu _ _ _ _ h2 h3 with h4|h4
    ·exact .inr (.inr h4)
    ·exact .inr (.inl h4)
  ·intro key ob hg hmu
   rcases hget key ob hg with ⟨_,h2⟩|⟨_,h2,_,h3,h4⟩
   ·exact hS.2.2 key ob h2 hmu
   ·rw [h3] at hmu
    obtain ⟨r1,r2⟩:=a1H hmu;rcases hS.1 with q|q|q
    ·exact q.2.2 key ob h4 hmu
    ·have:=b1h (h.ob _ _ h4) r1
     omega
    ·rw [r2] at q
     exact hno key ob h2 h4 r1 x q
 have hkeys:∀k,a0v P kb o k=false→env' k=env k:=fun k hk=>hin.fx k hk
 obtain ⟨tm0,hst⟩:∃t,t=st:=⟨st,rfl⟩;have hmu':∀k ob b x,get (a2n P kb o ks st out).mem k=some ob→a3B P (env' k) ob b x→w.heap.size≤b∨ ∃k' ob',get st.mem k'=some ob'∧a3B P (env k') ob' b x:=by
  intro k ob b x hg hmu;rcases hget k ob hg with ⟨_,h2⟩|⟨_,_,_,h3,h4⟩
  ·rcases hin.mu k ob b x h2 hmu with q|q
   ·obtain ⟨k',ob',_,q2,q3⟩:=hMtS _ _ q
    exact .inr ⟨k',ob',q2,q3⟩
   ·exact .inl q
  ·rw [h3] at hmu
   exact .inr ⟨k,ob,h4,hmu⟩
 have hkeep:=c2x (B:=B) (M0:=M0) (n0:=n0) (mem':=(a2n P kb o ks st out).mem) (env':=env') hin.ch (fun b x hx=>let ⟨k,ob,_,q2,q3⟩:=hMtS b x hx;⟨k,ob,q2,q3⟩) hmu'
 have hdfr:a1Y n0 w' e0.D a'.defers:=h.dfr.join hin.dfr h.n0le fun b hb=>hin.ch.other b _ hb fun x ⟨k,ob,g,q⟩=>b0o (h.ob k ob (hsub k ob g).1) q hb
 refine ⟨hin.size,hdfr,h.hn0,?_,?_,?_,?_,?_,?_,h.bb,?_,h.gi⟩
 ·intro t x hx
  rw [a1x] at hx;by_cases hd:o.dst=some t
  ·rw [if_pos hd] at hx
   cases hg:get out.tmps t with
   |none=>rw [hg] at hx;cases hx
   |some y=>
    rw [hg] at hx;simp only [e6r,e55] at hx;subst hx;exact a0l.of (a0s.mono hS1 (fun _=>rfl) (a4d (hin.tm t y hg)))
  ·rw [if_neg hd] at hx
   rw [ha t hd];exact a0l.of (a0s.monoK hkeep (fun k hk=>hkeys k (hc.1 t x hx k hk)) (a0l.untagged (hn t x hx) (h.tm t x hx)))
 ·intro key ob hg
  rcases hget key ob hg with ⟨_,h2⟩|⟨_,h2,_,h3,h4⟩
  ·exact a1d hS1 (fun _=>rfl) (hin.ob key ob h2)
  ·rw [h3]
   exact b3O hkeep (fun k hk=>hkeys k ((hc.2 key ob h4).2 k hk)) (hsame key ob h2 h4) (h.ob key ob h4)
 ·intro k1 k2 o1 o2 hg1 hg2 hr1 hr2 hne heq
  have cross:∀k k' ob ob',get out.mem k=some ob→a0N ob→k'∉ks→env' k'=env k'→get st.mem k'=some ob'→a0N ob'→(env' k).blk≠(env' k').blk:=by
   intro k k' ob ob' g r hk' he' g' r' hb;have hlt:=b1h (h.ob _ _ g') r';rw [he'] at hb;rcases hreal k ob g r with q|⟨k'',ob'',q1,q2,q3,q4⟩
   ·omega
   ·exact h.ds k'' k' ob'' ob' q2 g' q3 r' (fun e=>hk' (e▸q1)) (q4.trans hb)
  rcases hget k1 o1 hg1 with ⟨_,h2⟩|⟨_,h2,_,h3,h4⟩<;>rcases hget k2 o2 hg2 with ⟨_,p2⟩|⟨_,p2,_,p3,p4⟩
  ·exact hin.ds k1 k2 o1 o2 h2 p2 hr1 hr2 hne heq
  ·exact cross k1 k2 o1 o2 h2 hr1 p2 p3 p4 hr2 heq
  ·exact cross k2 k1 o2 o1 p2 hr2 h2 h3 h4 hr1 heq.symm
  ·rw [h3,p3] at heq
   exact h.ds k1 k2 o1 o2 h4 p4 hr1 hr2 hne heq
 ·intro k ob b x hg hmu
  rcases hmu' k ob b x hg hmu with q|⟨k',ob',q1,q2⟩
  ·exact .inr (Nat.le_trans h.n0le q)
  ·exact h.mu k' ob' b x q1 q2
 ·intro key e ex xs hg x hx
  rcases hget key _ hg with ⟨_,h2⟩|⟨_,h2,_,h3,h4⟩
  ·rcases hin.pr key e ex xs h2 x hx with q|q|q
   ·exact q.1
   ·exact .inr (.inl (Nat.le_trans h.n0le q))
   ·obtain ⟨k',ob',_,q2,q3⟩:=hMtS _ _ q
    rcases h.mu _ _ _ _ q2 q3 with q4|q4
    ·exact .inr (.inr q4)
    ·exact .inr (.inl q4)
  ·rw [h3]
   exact h.pr key e ex xs h4 x hx
 ·refine Chg.trans h.ch hin.ch fun b x hx=> ?_
  obtain ⟨k',ob',_,q2,q3⟩:=hMtS _ _ hx;rw [←h.hn0];exact h.mu _ _ _ _ q2 q3
 ·intro k hk
  exact (hkeys k (hF k hk)).trans (h.fx k hk)
theorem d0h {o:Oper} {K:Act→World→Prop} {Q:Exit→Act→World→Prop} (h:o.wp P a w K Q):o.wp P a w (fun a' w'=>K a' w'∧ ∀t,o.dst≠some t→a'.tmps.getD t undef=a.tmps.getD t undef) Q:=by
 have hput:∀(a1:Act) v,a1.tmps=a.tmps→ ∀t,o.dst≠some t→(a1.put o.dst v).tmps.getD t undef=a.tmps.getD t undef:=by
  intro a1 v he t ht;cases hd:o.dst with
  |none=>simp only [Act.put];rw [he]
  |some d=>rw [a5E (fun e=>ht (by rw [hd,e])),he]
 unfold Oper.wp at h⊢;generalize (execOp a.eval o).run P w=r at h⊢;cases r with
 | ok n w'=>
  cases n<;>simp only [Oper.upon] at h⊢<;>
   first
    |exact ⟨h,hput _ _ rfl⟩
    |exact Calls.mono h (fun e w'' he=>by cases e<;>first|exact ⟨he,hput _ _ rfl⟩|exact he)
    |exact Rows.mono h (fun _ _ he=>⟨he,hput _ _ rfl⟩)
    |exact h
 |halt x w'=>cases x<;>simp only [Oper.upon] at h⊢<;>exact h
end
theorem a0f {α β:Type} (b:Bool) (x y:Option α) (k:α→Option β):(bif b then x else y).bind k=bif b then x.bind k else y.bind k:=by cases b<;>rfl
theorem b1n {R:Type} {kb:Nat} {mem:AL Obj} {x:List Ref×List (Bool×Res)} {o:Oper} {st:St} {k:St→Option R}:a7Z kb mem x o st k=(a7Z kb mem x o st some).bind k:=by
 unfold a7Z;simp only;rw [a42]
 conv=>rhs;rw [a42,Option.bind_assoc]
 cases a4v x.2 some with
 |none=>rfl
 |some r=>
 simp only [Option.bind_some];generalize (a4b r&&_&&_)=b;cases b with
 |false=>rfl
 |true=>
  simp only [cond_true];split<;>rfl
theorem c06 {R:Type} {P:Program} {cl:a0i} {kb:Nat} {f:FuncId} {args:List V} {o:Oper} {st:St} {k:St→Option R}:b5e P cl kb f args o st k=(b5e P cl kb f args o st some).bind k:=by
 unfold b5e;split
 ·rfl
 ·split
  ·exact b1n
  ·simp only
   split
   ·exact b1n
   ·rfl
theorem b83 {R:Type} {P:Program} {kb d:Nat} {st:St} {e:Operand→V} {T:TypeId} {x:Operand} {lo hi mx:Option Operand} {k:St→Option R}:b3b P kb d st e T x lo hi mx k=(b3b P kb d st e T x lo hi mx some).bind k:=by
 unfold b3b;split
 ·split
  ·rw [a0f];rfl
  ·rfl
 split
 ·split
  ·rw [a0f];rfl
  ·rfl
 ·split
  ·split
   ·rw [a0f];rfl
   ·rfl
  ·split
   ·rfl
   ·rw [a0f]
    congr 1
    ·split
     ·rw [a0f];rfl
     ·rfl
    ·split
     ·rw [a0f];rfl
     ·rfl
theorem b3P {R:Type} {n:Int} {k:St→Option R} {g:Nat→D→St}:∀{xs:List D} {j:Nat},d39 n (fun j y=>k (g j y)) j xs=(d39 n (fun j y=>some (g j y)) j xs).bind k
 | [],_=>rfl
 |x::xs,j=>by
  simp only [d39];rw [a0f,←b3P];rfl
theorem c5a {R:Type} {P:Program} {st:St} {d:Nat} {T:TypeId} {x i:V} {k:St→Option R}:c4J P st d T x i k=(c4J P st d T x i some).bind k:=by
 unfold c4J;split
 ·rw [a0f,b3P];rfl
 ·split
  ·rw [a0f,b3P];rfl
  ·rfl
 ·rw [a0f];rfl
 ·rfl
theorem c62 {R:Type} {P:Program} {cl:a0i} {kb:Nat} {o:Oper} {st:St} {k:St→Option R}:e0p P cl kb o st k=(e0p P cl kb o st some).bind k:=by
 unfold e0p;simp only;split
 ·rw [a0f]
  congr 1
  ·split<;>rfl
  ·split<;>rfl
 ·rw [a0f]
  congr 1
  ·split<;>rfl
  ·split<;>rfl
 ·split
  ·rw [a0f];rfl
  ·rfl
 ·split
  ·split
   ·split
    ·rw [a0f];rfl
    ·split
     ·split
      ·rw [a0f];rfl
      ·rfl
     ·rfl
   ·split
    ·split
     ·rw [a0f];rfl
     ·rfl
    ·rfl
  ·rfl
 ·split
  ·split
   ·rw [a0f];rfl
   ·rfl
  ·rfl
 ·exact b83
 ·split
  ·rw [a0f];rfl
  ·split
   ·rw [a0f];rfl
   ·rfl
  ·rfl
 ·split<;>rfl
 ·split
  ·split
   ·rw [a0f]
    congr 1
    split
    ·split<;>rfl
    ·rfl
   ·rfl
  ·rfl
 ·split
  ·split
   ·rw [a0f]
    congr 1
    split
    ·split<;>rfl
    ·split
     ·rw [a0f];rfl
     ·rfl
    ·rfl
   ·rw [a0f]
    congr 1
    split
    ·split
     ·split
      ·rw [a0f];rfl
      ·rfl
     ·rfl
    ·rfl
   ·rfl
  ·rfl
 ·rw [a0f]
  congr 1
  split
  ·split
   ·rw [a0f]
    congr 1
    split
    ·split
     ·rw [b6g,b6g];rfl
     ·rfl
    ·rfl
   ·rw [a0f]
    congr 1
    split
    ·split
     ·split<;>rfl
     ·rfl
    ·rfl
   ·rfl
  ·rfl
 ·rw [a0f,←c5a];rfl
 ·split
  ·split
   ·rw [a0f]
    congr 1
    ·split
     ·split
      ·rw [a0f];rfl
      ·rfl
     ·split
      ·rw [a0f];rfl
      ·rfl
     ·split
      ·rw [a0f];rfl
      ·rfl
     ·split
      ·rw [a0f];rfl
      ·rfl
     ·rfl
    split
    ·split
     ·rw [a0f];rfl
     ·rfl
    ·rw [a0f]
     congr 1
     split
     ·split
      ·split
       ·rw [a0f];rfl
       ·rw [a0f];rfl
       ·rfl
      ·rw [a0f];rfl
      ·rw [a0f];rfl
      ·rw [a0f]
       congr 1
       rw [a0f];rfl
      ·rfl
     ·split
      ·split
       ·split
        ·split
         ·rw [a0f];rfl
         ·rw [a0f];rfl
         ·rfl
        ·rw [a0f];rfl
        ·rw [a0f];rfl
        ·rfl
       ·rfl
      ·rfl
    ·rfl
   ·rfl
  ·split
   ·split
    ·split
     ·rw [a0f];rfl
     ·rfl
    ·rfl
   ·rfl
  ·split
   ·split
    ·rfl
    ·exact c06
   ·rfl
  ·rfl
 ·rfl
theorem c2K {R:Type} {P:Program} {cl:a0i} {kb:Nat} {o:Oper} {st:St} {k:St→Option R}:opC P cl kb o st k=(opC P cl kb o st some).bind k:=by
 unfold opC;rw [a0f];congr 1
 ·split
  ·rw [a0f];rfl
  ·rfl
 ·exact c62
theorem a84 {R:Type} {P:Program} {cl:a0i} {kb:Nat} {ops:List Oper} {o:Oper} {st:St} {k:St→Option R}:a3f P cl kb ops o st k=(a3f P cl kb ops o st some).bind k:=by
 unfold a3f;split
 ·exact c2K
 ·split
  ·rfl
  ·split
   ·rw [a0f];rw [←c2K];rfl
   ·rfl
theorem b84 {R:Type} {gs:List Nat} {o:Oper} {out:St} {k:St→Option R}:a2C gs o out k=(a2C gs o out some).bind k:=by
 unfold a2C;split
 ·rw [a0f]
  congr 1
  split
  ·rw [a0f];rfl
  ·rfl
 ·rfl
structure c5b (P:Program) (cl:a0i) (kb:Nat) (ops:List Oper) (gs:List Nat) (o:Oper) (st:St) (rec:Rec):Prop where
 op:rec.o=o
 ks:b3d st.mem (a0F o) 1000 (a6k o st.tmps (looks ops o)) []=some rec.ks
 out:(a3f P cl kb ops o (c6s ops o st rec.ks) fun out=>a2C gs o out some)=some rec.out
theorem b85 {R:Type} {P:Program} {cl:a0i} {kb:Nat} {ops:List Oper} {gs:List Nat} {o:Oper} {st:St} {k:St→Rec→Option R} {r:R} (h:d49 P cl kb ops gs o st k=some r):
  ∃rec,c5b P cl kb ops gs o st rec∧k (a2n P kb o rec.ks st rec.out) rec=some r:=by
 unfold d49 at h;split at h
 ·cases h
 ·rename_i ks hks
  rw [a84] at h;cases h1:a3f P cl kb ops o (c6s ops o st ks) some with
  |none=>rw [h1] at h;cases h
  | some out=>
   rw [h1] at h;simp only [Option.bind_some] at h;rw [b84] at h;cases h2:a2C gs o out some with
   |none=>rw [h2] at h;cases h
   |some out'=>
    rw [h2] at h;refine ⟨⟨o,ks,out'⟩,⟨rfl,hks,?_⟩,h⟩;rw [a84,h1];exact h2
section
variable {P:Program} {N n0 kb:Nat} {F:Nat→Prop} {B M0:a0A} {w0:World} {e0:a6l} {env:Env} {st:St} {a:Act} {w:World}
theorem b1L {R:Type} {cl:a0i} {ops:List Oper} {o:Oper} {k:St→Option R} {r:R} (h:a3f P cl kb ops o st k=some r):b0g P cl kb ops o st k=some r:=by
 unfold a3f at h;unfold b0g;split at h
 ·exact h
 ·split at h
  ·cases h
  ·split at h
   ·rename_i hx
    first|exact h|(split;(rename_i hy;rw [hx] at hy;cases hy;exact h);(rename_i hy;rw [hx] at hy;cases hy))
   ·cases h
theorem c07 {gs:List Nat} {o:Oper} {out out':St} (h:a2C gs o out some=some out'):out'.mem=out.mem:=by
 unfold a2C at h;split at h
 ·rename_i d hd
  cases hb:b0d d gs with
  |false=>rw [hb] at h;simp only [cond_false,e55] at h;subst h;rfl
  | true=>
   rw [hb] at h;simp only [cond_true] at h;split at h
   ·rename_i x hx
    cases x<;>(simp only [cond_true,cond_false,e55] at h;subst h;rfl)
   ·simp only [e55] at h;subst h;rfl
 ·simp only [e55] at h;subst h;rfl
theorem b86 {cl:a0i} {ops:List Oper} {gs:List Nat} {o:Oper} {out:St} (hv:a1P P o=true) (h:(a3f P cl kb ops o st fun out=>a2C gs o out some)=some out):out.mem=st.mem:=by
 have put:∀(x:V),a2C gs o (st.put o.dst x) some=some out→out.mem=st.mem:=fun x hx=>by
  rw [c07 hx];cases o.dst<;>rfl
 have op:opC P cl kb o st (fun out=>a2C gs o out some)=some out→out.mem=st.mem:=by
  intro hk;unfold opC at hk;rw [hv] at hk;simp only [cond_true] at hk;split at hk
  ·rename_i c x _
   cases c with
   |false=>cases hk
   |true=>exact put x hk
  ·cases hk
 unfold a3f at h;split at h
 ·exact op h
 ·split at h
  ·cases h
  ·split at h
   ·rename_i x _
    cases x with
    |true=>exact op h
    |false=>exact put _ h
   ·cases h
theorem b6u (h:Rel P N n0 B M0 w0 F e0 env st a w) {gs:List Nat} {o:Oper} {out:St} (hs:a2C gs o st some=some out):Rel P N n0 B M0 w0 F e0 env out a w:=by
 unfold a2C at hs;split at hs
 ·rename_i d hd
  cases hb:b0d d gs with
  |false=>rw [hb] at hs;simp only [cond_false,e55] at hs;subst hs;exact h
  | true=>
   rw [hb] at hs;simp only [cond_true] at hs;split at hs
   ·rename_i x hx
    have hv:a.tmps.getD d undef= .bool x:=h.tm d _ hx;have put:Rel P N n0 B M0 w0 F e0 env {st with tmps:=set st.tmps d (.c (.k x))} a w:=by
     refine h.tmps fun t' y hy=> ?_
     rw [a1Q] at hy;by_cases ht:t'=d
     ·rw [if_pos ht] at hy
      simp only [e55] at hy;subst hy ht;exact hv
     ·rw [if_neg ht] at hy
      exact h.tm t' y hy
    cases x<;>(simp only [cond_true,cond_false,e55] at hs;subst hs;exact put)
   ·simp only [e55] at hs;subst hs;exact h
 ·simp only [e55] at hs;subst hs;exact h
theorem a47 {o:Oper} (hv:a1P P o=true) (k:Nat):a0v P kb o k=false:=by
 unfold a0v;rw [hv];rfl
theorem b5D {cl:a0i} (hcl:a0m P cl) {ops:Array Oper} {gs:List Nat} {o:Oper} {rec:Rec} {K:Act→World→Prop} {Q:Exit→Act→World→Prop} (hF:∀k,F k→a0v P kb o k=false) (h:Rel P N n0 B M0 w0 F e0 env st a w) (hn:NoW st) (hc:b1m P kb o st)
  (hd:∀d,o.dst=some d→d<N) (hr:c5b P cl kb ops.toList gs o st rec) (hfull:∀k ob,get rec.out.mem k=some ob→b54 ob=true)
  (hK:∀env' a' w',Rel P N n0 B M0 w0 F e0 env' (a2n P kb o rec.ks st rec.out) a' w'→K a' w'):
  if Region.wanted o (yielded ops a.tmps) then o.wp P a w K Q else K (a.put o.dst undef) w:=by
 have hmk:∀k,get (c6s ops.toList o st rec.ks).mem k=if k∈rec.ks then get st.mem k else none:=fun k=>a43
 have hmt:∀t x,get (c6s ops.toList o st rec.ks).tmps t=some x→get st.tmps t=some x:=by
  intro t x hx;unfold c6s at hx;simp only [a43] at hx;split at hx
  ·exact hx
  ·cases hx
 have hmm:∀k ob,get (c6s ops.toList o st rec.ks).mem k=some ob→get st.mem k=some ob:=by
  intro k ob hg;rw [hmk] at hg;split at hg
  ·exact hg
  ·cases hg
 have hin0:=b12 h hn hmt hmm (fun k=>a0v P kb o k=false)
 have hsel:∀k,get (a2n P kb o rec.ks st rec.out).mem k=if c0B P kb o rec.ks k=true then get rec.out.mem k else get st.mem k:=by
  intro k;cases hv:a1P P o with
  |false=>exact a5K hv
  |true=>
   rw [a83 hv,b86 hv hr.out,hmk];unfold c0B;rw [a47 hv,Bool.or_false];by_cases hk:k∈rec.ks
   ·rw [if_pos (a1j.2 hk),if_pos hk]
   ·rw [if_neg (fun hb=>hk (a1j.1 hb))]
 have hg:=a3T (Q:=Q) hcl (F:=fun k=>a0v P kb o k=false) (fun k h1 h2=>by rw [h1] at h2;cases h2) hin0 hd (b1L hr.out)
 have fin:∀a' w',a0P P N w.heap.size (Sof P B M0 n0 env st.mem w) (a3g P env (c6s ops.toList o st rec.ks).mem) w (fun k=>a0v P kb o k=false) ⟨env,a.defers⟩ (fun out=>a2C gs o out some) rec.out a' w'→
   (∀t,o.dst≠some t→a'.tmps.getD t undef=a.tmps.getD t undef)→K a' w':=by
  rintro a' w' ⟨env',st',h1,h2⟩ ha;exact hK env' a' w' (frame h hn hc hF hsel hmk (b6u h1 h2) hfull ha)
 split
 ·rename_i hw
  rw [if_pos hw] at hg;exact Oper.wp_mono (fun a' w' hp=>fin a' w' hp.1 hp.2) (d0h hg)
 ·rename_i hw
  rw [if_neg hw] at hg;refine fin _ _ hg fun t ht=> ?_
  cases hdd:o.dst with
  |none=>rfl
  |some d=>rw [a5E (fun e=>ht (by rw [hdd,e]))]
end
def b87 (st st':St):Prop:=(∀t,get st.tmps t=get st'.tmps t)∧ ∀k,get st.mem k=get st'.mem k
theorem b87.refl (st:St):b87 st st:=⟨fun _=>rfl,fun _=>rfl⟩
theorem b87.symm {st st':St} (h:b87 st st'):b87 st' st:=⟨fun t=>(h.1 t).symm,fun k=>(h.2 k).symm⟩
theorem b87.trans {st st' st'':St} (h:b87 st st') (h':b87 st' st''):b87 st st'':=⟨fun t=>(h.1 t).trans (h'.1 t),fun k=>(h.2 k).trans (h'.2 k)⟩
theorem a6C {α:Type} {l l':AL α}:∀{ks:List Nat},(∀k∈ks,get l k=get l' k)→a13 l ks=a13 l' ks
 | [],_=>rfl
 |k::r,h=>by
  simp only [a13];rw [h k (by simp),a6C (ks:=r) fun k' hk'=>h k' (by simp [hk'])]
theorem a7W {l l':AL V}:∀{ts:List Nat},(∀t∈ts,get l t=get l' t)→a8K l ts=a8K l' ts
 | [],_=>rfl
 |t::r,h=>by
  simp only [a8K];rw [h t (by simp),a7W (ts:=r) fun k' hk'=>h k' (by simp [hk'])]
theorem b3Q {mem:AL Obj} {deep:Bool}:∀{n:Nat} {todo acc ks:List Nat},b3d mem deep n todo acc=some ks→ ∀k∈acc,k∈ks
 |0,_,_,_,h=>by cases h
 |n+1,[],acc,ks,h=>by simp only [b3d,e55] at h;subst h;exact fun k hk=>hk
 |n+1,x::r,acc,ks,h=>by
  simp only [b3d] at h;intro k hk;cases hb:b0d x acc with
  |true=>rw [hb] at h;exact b3Q h k hk
  |false=>rw [hb] at h;exact b3Q h k (by simp [hk])
theorem a8n {mem mem':AL Obj} {deep:Bool}:∀{n:Nat} {todo acc ks:List Nat},b3d mem deep n todo acc=some ks→(∀k∈ks,get mem k=get mem' k)→b3d mem' deep n todo acc=some ks
 |0,_,_,_,h,_=>by cases h
 |n+1,[],acc,ks,h,_=>h
 | n+1,x::r,acc,ks,h,hk=>by
  simp only [b3d] at h⊢;cases hb:b0d x acc with
  |true=>rw [hb] at h;exact a8n h hk
  |false=>
   rw [hb] at h;simp only [cond_false] at h⊢;have hx:x∈ks:=b3Q h x (by simp)
   have:c2m mem' x=c2m mem x:=by unfold c2m;rw [hk x hx]
   rw [this];exact a8n h hk
theorem a6D {P:Program} {kb:Nat} {o:Oper} {ks:List Nat} {st out:St} {k:Nat}:get (a2n P kb o ks st out).mem k=if a1P P o=false∧c0B P kb o ks k=true then get out.mem k else get st.mem k:=by
 cases hv:a1P P o with
 |true=>rw [a83 hv];simp
 |false=>rw [a5K hv];simp
theorem c08 {P:Program} {kb:Nat} {o:Oper} {ks:List Nat} {st st' out:St} (h:b87 st st'):b87 (a2n P kb o ks st out) (a2n P kb o ks st' out):=by
 refine ⟨fun t=> ?_,fun k=> ?_⟩
 ·rw [a1x,a1x,h.1]
 ·rw [a6D,a6D,h.2]
structure b6v (P:Program) (kb:Nat) (ops:List Oper) (p q:Oper) (kp kq:List Nat):Prop where
 pq:∀d,p.dst=some d→d∉looks ops q
 qp:∀d,q.dst=some d→d∉looks ops p
 dd:∀d,p.dst=some d→q.dst≠some d
 ks:(a1P P p=true∧a1P P q=true)∨ ∀k∈kp,k∉kq
 fq:∀k∈kp,a0v P kb q k=false
 fp:∀k∈kq,a0v P kb p k=false
 ff:∀k,a0v P kb p k=true→a0v P kb q k=false
section
variable {P:Program} {cl:a0i} {kb:Nat} {ops:List Oper} {gs:List Nat}
theorem b6v.symm {p q:Oper} {kp kq:List Nat} (h:b6v P kb ops p q kp kq):b6v P kb ops q p kq kp:=
 ⟨h.qp,h.pq,fun d hq hp=>h.dd d hp hq,h.ks.imp (fun x=>⟨x.2,x.1⟩) fun x k hk hk'=>x k hk' hk,h.fp,h.fq,fun k hq=>by
  cases hp:a0v P kb p k with
  |false=>rfl
  |true=>rw [h.ff k hp] at hq;cases hq⟩
theorem c5b.congr {o:Oper} {st st':St} {rec:Rec} (h:c5b P cl kb ops gs o st rec) (ht:∀t∈looks ops o,get st.tmps t=get st'.tmps t) (hm:∀k∈rec.ks,get st.mem k=get st'.mem k):c5b P cl kb ops gs o st' rec:=by
 refine ⟨h.op,?_,?_⟩
 ·have e:a6k o st'.tmps (looks ops o)=a6k o st.tmps (looks ops o):=by unfold a6k;rw [a7W ht]
  rw [e];exact a8n h.ks hm
 ·have:c6s ops o st' rec.ks=c6s ops o st rec.ks:=by unfold c6s;rw [a6C ht,a6C hm]
  rw [this];exact h.out
theorem b6v.still {p q:Oper} {kp kq:List Nat} (h:b6v P kb ops p q kp kq) (st out:St):
  (∀t∈looks ops q,get (a2n P kb p kp st out).tmps t=get st.tmps t)∧ ∀k∈kq,get (a2n P kb p kp st out).mem k=get st.mem k:=by
 refine ⟨fun t ht=> ?_,fun k hk=> ?_⟩
 ·rw [a1x,if_neg fun e=>h.pq t e ht]
 ·rw [a6D]
  split
  ·rename_i hs
   obtain ⟨h1,h2⟩:=hs;unfold c0B at h2;rw [h.fp k hk,Bool.or_false] at h2;rcases h.ks with h3|h3
   ·rw [h3.1] at h1;cases h1
   ·exact absurd hk (h3 k (a1j.1 h2))
  ·rfl
theorem b6v.swap {p q:Oper} {kp kq:List Nat} (h:b6v P kb ops p q kp kq) (st op oq:St):b87 (a2n P kb q kq (a2n P kb p kp st op) oq) (a2n P kb p kp (a2n P kb q kq st oq) op):=by
 refine ⟨fun t=> ?_,fun k=> ?_⟩
 ·simp only [a1x]
  by_cases hp:p.dst=some t
  ·rw [if_pos hp,if_pos hp,if_neg (h.dd t hp)]
  ·rw [if_neg hp,if_neg hp]
 ·simp only [a6D]
  by_cases hp:a1P P p=false∧c0B P kb p kp k=true
  ·rw [if_pos hp,if_pos hp,if_neg ?_]
   rintro ⟨h1,h2⟩;obtain ⟨h3,h4⟩:=hp;unfold c0B at h2 h4;simp only [Bool.or_eq_true,a1j] at h2 h4;rcases h4 with h4|h4
   ·rcases h2 with h2|h2
    ·rcases h.ks with h5|h5
     ·rw [h5.1] at h3;cases h3
     ·exact h5 k h4 h2
    ·rw [h.fq k h4] at h2;cases h2
   ·rcases h2 with h2|h2
    ·rw [h.fp k h2] at h4;cases h4
    ·rw [h.ff k h4] at h2;cases h2
  ·rw [if_neg hp,if_neg hp]
def a48 (P:Program) (cl:a0i) (kb:Nat) (ops:List Oper) (gs:List Nat) (rc:Nat→Rec):List Nat→St→St→Prop
 | [],st,stF=>b87 st stF
 |i::r,st,stF=>∃o,ops[i]? =some o∧c5b P cl kb ops gs o st (rc i)∧a48 P cl kb ops gs rc r (a2n P kb o (rc i).ks st (rc i).out) stF
def b6w (P:Program) (kb:Nat) (ops:List Oper) (rc:Nat→Rec) (i j:Nat):Prop:=∀p q,ops[i]? =some p→ops[j]? =some q→b6v P kb ops p q (rc i).ks (rc j).ks
variable {rc:Nat→Rec}
theorem a48.congr:∀{l:List Nat} {st st' stF:St},b87 st st'→a48 P cl kb ops gs rc l st stF→a48 P cl kb ops gs rc l st' stF
 | [],_,_,_,h,hr=>h.symm.trans hr
 |_::_,_,_,_,h,⟨o,h1,h2,h3⟩=>⟨o,h1,h2.congr (fun t _=>h.1 t) (fun k _=>h.2 k),a48.congr (c08 h) h3⟩
theorem a48.swap {i j:Nat} {l:List Nat} {st stF:St} (ha:b6w P kb ops rc i j) (h:a48 P cl kb ops gs rc (i::j::l) st stF):a48 P cl kb ops gs rc (j::i::l) st stF:=by
 obtain ⟨p,p1,p2,q,q1,q2,h3⟩:=h;have hap:=ha p q p1 q1;obtain ⟨s1,s2⟩:=hap.still st (rc i).out;obtain ⟨s3,s4⟩:=hap.symm.still st (rc j).out;exact ⟨q,q1,q2.congr s1 s2,p,p1,p2.congr (fun t ht=>(s3 t ht).symm) (fun k hk=>(s4 k hk).symm),a48.congr (hap.swap st _ _) h3⟩
theorem a48.front {i:Nat} {B:List Nat} {stF:St}:∀{A:List Nat} {st:St},(∀x∈A,b6w P kb ops rc x i)→a48 P cl kb ops gs rc (A++i::B) st stF→a48 P cl kb ops gs rc (i::(A++B)) st stF
 | [],_,_,h=>h
 |x::A,st,ha,⟨p,p1,p2,h3⟩=>a48.swap (ha x (by simp)) ⟨p,p1,p2,a48.front (fun y hy=>ha y (by simp [hy])) h3⟩
theorem b1o {α:Type} {f:Nat→α→Bool}:∀{j0:Nat} {l:List α},b1W f j0 l=true→ ∀j q,l[j]? =some q→f (j0+j) q=true
 |_,[],_,j,q,hq=>by simp at hq
 |j0,x::r,h,j,q,hq=>by
  simp only [b1W,e57] at h;cases j with
  |zero=>simp only [List.getElem?_cons_zero,e55] at hq;subst hq;exact h.1
  |succ j=>rw [show j0+(j+1)=j0+1+j by omega];exact b1o h.2 j q (by simpa using hq)
theorem a3p {α:Type} {f:Nat→α→Nat→α→Bool}:∀{i0:Nat} {l:List α},a8L f i0 l=true→ ∀i j p q,i<j→l[i]? =some p→l[j]? =some q→f (i0+i) p (i0+j) q=true
 |_,[],_,i,j,p,q,_,hp,_=>by simp at hp
 | i0,x::r,h,i,j,p,q,hij,hp,hq=>by
  simp only [a8L,e57] at h;cases j with
  |zero=>omega
  | succ j=>
   cases i with
   |zero=>
    simp only [List.getElem?_cons_zero,e55] at hp;subst hp;have:=b1o h.1 j q (by simpa using hq)
    rw [show i0+(j+1)=i0+1+j by omega]
    exact this
   |succ i=>
    rw [show i0+(i+1)=i0+1+i by omega,show i0+(j+1)=i0+1+j by omega]
    exact a3p h.2 i j p q (by omega) (by simpa using hp) (by simpa using hq)
theorem a6E:∀{i0:Nat} {l:List Oper},c4M i0 l=true→ ∀i o,l[i]? =some o→ ∀d∈a4L o,d<i0+i
 |_,[],_,i,o,ho=>by simp at ho
 | i0,x::r,h,i,o,ho=>by
  simp only [c4M,e57,List.all_eq_true] at h;cases i with
  |zero=>
   simp only [List.getElem?_cons_zero,e55] at ho;subst ho;exact fun d hd=>e6g (h.1 d hd)
  |succ i=>rw [show i0+(i+1)=i0+1+i by omega];exact a6E h.2 i o (by simpa using ho)
theorem a85 {k:Nat}:∀{l xs:List Nat},k∈c4L xs l→k∈xs∨k∈l
 | [],xs,h=> .inl h
 | y::r,xs,h=>by
  simp only [c4L] at h;cases hb:b0d y xs with
  |true=>rw [hb] at h;exact (a85 h).imp id fun h=>by simp [h]
  | false=>
   rw [hb] at h;rcases a85 h with h|h
   ·rcases e6k.1 h with h|h
    ·exact .inr (by simp [h])
    ·exact .inl h
   ·exact .inr (by simp [h])
theorem b5E {tab:List (List Nat)} {k:Nat}:∀{l acc:List Nat},k∈c2o tab l acc→k∈acc∨ ∃d∈l,k=d∨k∈tab.getD d []
 | [],acc,h=> .inl h
 | d::r,acc,h=>by
  simp only [c2o] at h;rcases b5E h with h|⟨d',h1,h2⟩
  ·rcases a85 h with h|h
   ·rcases a85 h with h|h
    ·exact .inl h
    ·exact .inr ⟨d,by simp,.inl (by simpa using h)⟩
   ·exact .inr ⟨d,by simp,.inr h⟩
  ·exact .inr ⟨d',by simp [h1],h2⟩
theorem a3V {L:Nat→Prop} {all:List Oper} (hcl:∀i o,all[i]? =some o→L i→ ∀d∈a4L o,L d):∀{ops pre:List Oper} {tab:List (List Nat)},all=pre++ops→tab.length=pre.length→
  (∀i o,i<tab.length→all[i]? =some o→(∀d∈a4L o,L d)→ ∀x∈tab.getD i [],L x)→
  ∀i o,all[i]? =some o→(∀d∈a4L o,L d)→ ∀x∈(a4V ops tab).getD i [],L x
 | [],pre,tab,he,hl,h,i,o,ho,hd=>by
  have hlt:=(e6h.1 ho).1;exact h i o (by rw [he] at hlt;simp at hlt;omega) ho hd
 | o' ::r,pre,tab,he,hl,h,i,o,ho,hd=>by
  simp only [a4V];refine a3V hcl (pre:=pre++[o']) (by rw [he];simp) (by simp [hl]) ?_ i o ho hd
  intro j oj hj hoj hdj x hx;by_cases hjl:j<tab.length
  ·rw [e6d,e6p hjl,←e6d] at hx
   exact h j oj hjl hoj hdj x hx
  ·have hje:j=tab.length:=by simp at hj;omega
   subst hje;rw [e6d,e6o (Nat.le_refl _)] at hx;simp only [Nat.sub_self,List.getElem?_cons_zero,Option.getD_some] at hx;have hoe:oj=o':=by
    rw [he,hl] at hoj;rw [e6o (Nat.le_refl _)] at hoj;simpa using hoj.symm
   subst hoe;rcases b5E hx with hx|⟨d,h1,h2⟩
   ·simp at hx
   ·rcases h2 with rfl|h2
    ·exact hdj _ h1
    ·by_cases hdl:d<tab.length
     ·obtain ⟨od,hod⟩:∃od,all[d]? =some od:=by
       have:d<all.length:=by rw [he];simp;omega
       exact ⟨_,e6j this⟩
      exact h d od hdl hod (hcl d od hod (hdj d h1)) x h2
     ·rw [e6d,List.getElem?_eq_none (by omega)] at h2
      simp at h2
theorem a1T {o:Oper}:∀{l:List Nat},a2D P kb o l=true→ ∀k∈l,a0v P kb o k=false
 | [],_,k,hk=>by simp at hk
 |x::r,h,k,hk=>by
  simp only [a2D,e57,Bool.not_eq_true'] at h;rcases e6k.1 hk with rfl|hk
  ·exact h.1
  ·exact a1T h.2 k hk
theorem b88:∀{l l':List Nat},c93 l l'=true→ ∀k∈l,k∉l'
 | [],_,_,k,hk=>by simp at hk
 |x::r,l',h,k,hk=>by
  simp only [c93,e57,Bool.not_eq_true'] at h;rcases e6k.1 hk with rfl|hk
  ·intro hm;rw [a1j.2 hm] at h;cases h.1
  ·exact b88 h.2 k hk
theorem b89 {o:Oper}:∀{l:AL Obj},b1X P kb o l=true→ ∀k ob,get l k=some ob→ ∀k'∈a1g ob,a0v P kb o k'=false
 | l,h,k,ob,hg=>by
  have hm:=a4g hg;clear hg;induction l with
  |nil=>simp at hm
  | cons x r ih=>
   obtain ⟨j,o'⟩:=x;simp only [b1X,e57] at h;rcases e6k.1 hm with hm|hm
   ·simp only [e6q] at hm
    rw [hm.2];exact a1T h.1
   ·exact ih h.2 hm
theorem a8o:∀{l:AL Obj},a2V l=true→ ∀k ob,get l k=some ob→b54 ob=true
 | l,h,k,ob,hg=>by
  have hm:=a4g hg;clear hg;induction l with
  |nil=>simp at hm
  | cons x r ih=>
   obtain ⟨j,o'⟩:=x;simp only [a2V,e57] at h;rcases e6k.1 hm with hm|hm
   ·simp only [e6q] at hm
    rw [hm.2];exact h.1
   ·exact ih h.2 hm
theorem a6F:∀{l:List Rec},b1Y l=true→ ∀(i:Nat) (p:Rec),l[i]? =some p→a2V p.out.mem=true
 | [],_,i,p,hp=>by simp at hp
 |x::r,h,i,p,hp=>by
  simp only [b1Y,e57] at h;cases i with
  |zero=>simp only [List.getElem?_cons_zero,e55] at hp;subst hp;exact h.1
  |succ i=>exact a6F h.2 i p (by simpa using hp)
theorem b1p {o:Oper} {k:Nat} (h:a0v P kb o k=true):a1P P o=false∧b56 kb o≤k∧k<b57 kb o:=by
 unfold a0v at h;cases hv:a1P P o with
 |true=>rw [hv] at h;cases h
 | false=>
  rw [hv,cond_false rfl] at h;refine ⟨rfl,?_⟩;unfold b56 b57;cases he:a0F o with
  |true=>
   rw [he,cond_true rfl,e57] at h;simp only [cond_true];exact ⟨e6g h.1,e6g h.2⟩
  | false=>
   rw [he,cond_false rfl] at h;simp only [cond_false];cases hd:o.dst with
   |none=>rw [hd] at h;cases h
   |some d=>
    rw [hd] at h;have:=e56 h;exact ⟨by show kb+d≤k;omega,by show k<kb+d+1;omega⟩
theorem a4P {p q:Oper} (h:a2w P kb p q=true):∀k,a0v P kb p k=true→a0v P kb q k=false:=by
 intro k hp;cases hq:a0v P kb q k with
 |false=>rfl
 |true=>
  obtain ⟨p1,p2,p3⟩:=b1p hp;obtain ⟨q1,q2,q3⟩:=b1p hq;unfold a2w at h;rw [p1,q1] at h;simp only [Bool.false_or,Bool.or_eq_true] at h;rcases h with h|h
  ·have:=e6g h;omega
  ·have:=e6g h;omega
theorem b0w {d:Option Nat} {ts:List Nat} (h:b8p d ts=true):∀x,d=some x→x∉ts:=by
 intro x hx hm;subst hx;simp only [b8p,a1j.2 hm] at h;cases h
theorem b1q {p:Rec} {q:Oper} (h:a14 P kb p q=true):(∀k∈p.ks,a0v P kb q k=false)∧
  (∀d x,p.o.dst=some d→get p.out.tmps d=some x→ ∀k∈a5z (b4T x),a0v P kb q k=false)∧(a1P P p.o=false→ ∀k ob,get p.out.mem k=some ob→ ∀k'∈a1g ob,a0v P kb q k'=false):=by
 unfold a14 at h;cases hv:a1P P q with
 |true=>exact ⟨fun k _=>a47 hv k,fun _ _ _ _ k _=>a47 hv k,fun _ _ _ _ k _=>a47 hv k⟩
 | false=>
  rw [hv,cond_false rfl] at h;simp only [e57] at h;obtain ⟨⟨h1,h2⟩,h3⟩:=h;refine ⟨a1T h1,fun d x hd hx=> ?_,fun hp k ob hg=> ?_⟩
  ·rw [hd] at h2
   simp only [hx] at h2;exact a1T h2
  ·rw [hp,cond_false rfl] at h3
   exact b89 h3 k ob hg
theorem c2L {p q:Rec} (h1:a2w P kb p.o q.o=true) (h2:b3e ops p.o q.o=true) (h3:a7Q P kb p q=true) (h4:a14 P kb p q.o=true):b6v P kb ops p.o q.o p.ks q.ks:=by
 unfold b3e at h2;simp only [e57] at h2;refine ⟨b0w h2.1.1,b0w h2.1.2,fun d hp hq=>b0w h2.2 d hp (by rw [hq];simp),?_,(b1q h4).1,?_,a4P h1⟩
 ·unfold a7Q at h3
  cases hv:a1P P p.o&&a1P P q.o with
  |true=>exact .inl (by simpa using hv)
  |false=>
   rw [hv,cond_false rfl] at h3;simp only [e57] at h3;exact .inr (b88 h3.1.1)
 ·unfold a7Q at h3
  cases hv:a1P P p.o&&a1P P q.o with
  |true=>exact fun k _=>a47 (by simp at hv;exact hv.1) k
  |false=>
   rw [hv,cond_false rfl] at h3;simp only [e57] at h3;exact a1T h3.1.2
end
section
variable {P:Program} {N n0 kb:Nat} {F:Nat→Prop} {B M0:a0A} {w0:World} {e0:a6l} {env:Env} {st:St} {a:Act} {w:World}
theorem Rel.eq (h:Rel P N n0 B M0 w0 F e0 env st a w) {st':St} (he:b87 st st'):Rel P N n0 B M0 w0 F e0 env st' a w:=
 h.weaken (fun t x hx=>by rw [he.1];exact hx) (fun k ob hg=>by rw [he.2];exact hg)
theorem a5M {S:a0A} {w':World} {S':a0A} (hk:a0y w S w' S') {q:Nat→Bool} {c:C} {v:Value} (h:a0j P env S w c v):a0j P env S' w' (c6t q c) v:=by
 unfold c6t;cases (a1C c).any q with
 |true=>trivial
 |false=>exact a0j.mono hk (fun _ _=>rfl) h
theorem d0i {S:a0A} {w':World} {S':a0A} (hk:a0y w S w' S') {q:Nat→Bool} {x:V} {v:Value} (h:a4q P env S w x v):a4q P env S' w' (e0J q x) v:=by
 cases x with
 |c c=>exact a5M hk h
 |g xs=>obtain ⟨vs,h1,h2⟩:=h;exact ⟨vs,h1,h2.mapl fun c u _ hcu=>a5M hk hcu⟩
 |_=>exact h.elim
theorem d0j {S:a0A} {w':World} {S':a0A} (hk:a0y w S w' S') {q:Nat→Bool} {x:V} {v:Value} (h:a0l P env S w a x v):a0l P env S' w' a (d5a q x) v:=by
 cases x with
 |c c=>exact a5M hk h
 |g xs=>obtain ⟨vs,h1,h2⟩:=h;exact ⟨vs,h1,h2.mapl fun c u _ hcu=>a5M hk hcu⟩
 |t xs=>obtain ⟨vs,h1,h2⟩:=h;exact ⟨vs,h1,h2.mapl fun c u _ hcu=>d0i hk hcu⟩
 |w s b x=>trivial
theorem d0k {q:Nat→Bool} {s:a1J} {o:Obj} {b x:Nat}:a3B P s (c55 q o) b x↔a3B P s o b x:=by
 cases o<;>simp [c55,a3B]
theorem b9a {q:Nat→Bool} {o:Obj}:a0N (c55 q o)↔a0N o:=by cases o<;>simp [c55,a0N]
theorem a35 {q:Nat→Bool} {k:Nat} {ob:Obj} (h:get (a4W q st).mem k=some ob):q k=false∧ ∃ob0,get st.mem k=some ob0∧ob=c55 q ob0:=by
 unfold a4W at h;simp only [a1c,b3N] at h;cases hq:q k with
 |true=>rw [hq] at h;simp at h
 |false=>
  rw [hq] at h;cases hg:get st.mem k with
  |none=>rw [hg] at h;simp at h
  |some ob0=>rw [hg] at h;simp at h;exact ⟨rfl,ob0,rfl,h.symm⟩
theorem b9b (h:Rel P N n0 B M0 w0 F e0 env st a w) (q:Nat→Bool) (d:Nat):Rel P N n0 B M0 w0 F e0 env (a4W q st) a {w with drawn:=d}:=by
 have hch:Chg (fun _ _=>False) w {w with drawn:=d}:=⟨rfl,rfl,rfl,Nat.le_refl _,fun b cur T fr hb=>⟨cur,fr,hb,rfl,fun _ _=>rfl,.inl rfl⟩,fun b ob hb _=>hb⟩
 refine Rel.step (tmps':=(a4W q st).tmps) (mem':=(a4W q st).mem) h (fun _ _=>False) hch (fun _ _ hf=>hf.elim) ?_ ?_ ?_ ?_ ?_ (fun _ _=>rfl)
 ·intro k ob b x hg hm
  obtain ⟨_,ob0,h1,rfl⟩:=a35 hg;exact .inr ⟨k,ob0,h1,d0k.1 hm⟩
 ·intro hkeep t x hx
  unfold a4W at hx;simp only [a1c] at hx;cases hg:get st.tmps t with
  |none=>rw [hg] at hx;cases hx
  |some y=>
   rw [hg] at hx;simp only [e6r,e55] at hx;subst hx;exact d0j hkeep (h.tm t y hg)
 ·intro hkeep k ob hg
  obtain ⟨_,ob0,h1,rfl⟩:=a35 hg;have ho:=h.ob k ob0 h1;cases ob0 with
  |box cs=>
   obtain ⟨cur,T,c1,c2,c3,c4⟩:=ho;refine ⟨cur,T,c1,by simpa using c2,?_,a3O (fun c hc=>c2q hc) c4⟩
   simp only [List.length_map];exact c3.mapl fun x y _ hxy=>a5M hkeep hxy
  |row e ex nl xs=>exact a3P (w':={w with drawn:=d}) hkeep (fun _=>rfl) ho ex
  |map kt vt es=>exact a62 (w':={w with drawn:=d}) hkeep rfl ho
  |tab kt vt es=>exact c0R (w':={w with drawn:=d}) hkeep (fun x v _ hx=>a5M hkeep hx) rfl ho
  |dat T d'=>exact a63 (w':={w with drawn:=d}) hkeep rfl ho
  |krow e k q c xs=>exact a8R (w':={w with drawn:=d}) hkeep rfl rfl rfl (fun v hx=>a5M hkeep hx) rfl ho
 ·intro k k' o o' hg hg' hr hr' hne
  obtain ⟨_,ob0,h1,rfl⟩:=a35 hg;obtain ⟨_,ob0',h1',rfl⟩:=a35 hg';exact h.ds k k' ob0 ob0' h1 h1' (b9a.1 hr) (b9a.1 hr') hne
 ·intro key e ex xs hg x hx
  obtain ⟨_,ob0,h1,h2⟩:=a35 hg;cases ob0 with
  |row e' ex' nl' xs'=>
   simp only [c55,Obj.row.injEq] at h2;obtain ⟨rfl,rfl,rfl,rfl⟩:=h2;exact h.pr key e ex xs h1 x hx
  |box cs=>cases h2
  |map kt vt es=>cases h2
  |tab kt vt es=>cases h2
  |dat T d=>cases h2
  |krow e k q c xs=>cases h2
theorem a4h {q:Nat→Bool} {c:C}:∀k∈a1C (c6t q c),q k=false:=by
 intro k hk;unfold c6t at hk;cases hq:(a1C c).any q with
 |true=>rw [hq] at hk;simp [a1C] at hk
 |false=>
  rw [hq] at hk;rw [List.any_eq_false] at hq;simpa using hq k hk
theorem c63 {q:Nat→Bool} {x:V}:∀k∈a6V (e0J q x),q k=false:=by
 intro k hk;cases x with
 |c c=>exact a4h k hk
 |g xs=>
  simp only [e0J,a6V,List.mem_flatMap,List.mem_map] at hk;obtain ⟨c,⟨c0,_,rfl⟩,h⟩:=hk;exact a4h k h
 |_=>simp [e0J,a6V,a1C] at hk
theorem c64 {q:Nat→Bool} {x:V}:∀k∈a5z (d5a q x),q k=false:=by
 intro k hk;cases x with
 |c c=>exact a4h k hk
 |g xs=>
  simp only [d5a,a5z,List.mem_flatMap,List.mem_map] at hk;obtain ⟨c,⟨c0,_,rfl⟩,h⟩:=hk;exact a4h k h
 |t xs=>
  simp only [d5a,a5z,List.mem_flatMap,List.mem_map] at hk;obtain ⟨c,⟨c0,_,rfl⟩,h⟩:=hk;exact c63 k h
 |w s b x=>simp [d5a,a5z,a1C] at hk
theorem b9c (q:Nat→Bool):NoW (a4W q st):=by
 intro t x hx s b y he;unfold a4W at hx;simp only [a1c] at hx;cases hg:get st.tmps t with
 |none=>rw [hg] at hx;cases hx
 |some z=>
  rw [hg] at hx;simp only [e6r,e55] at hx;subst he;cases z<;>simp [d5a] at hx
theorem b1r {q:Nat→Bool} {o:Oper} (hq:∀k,q k=false→a0v P kb o k=false):b1m P kb o (a4W q st):=by
 refine ⟨fun t x hx k hk=> ?_,fun k ob hg=> ?_⟩
 ·unfold a4W at hx
  simp only [a1c] at hx;cases hg:get st.tmps t with
  |none=>rw [hg] at hx;cases hx
  |some z=>
   rw [hg] at hx;simp only [e6r,e55] at hx;subst hx;exact hq k (c64 k hk)
 ·obtain ⟨h1,ob0,_,rfl⟩:=a35 hg
  refine ⟨hq k h1,fun k' hk'=> ?_⟩
  cases ob0 with
  |box cs=>
   simp only [c55,a1g,List.mem_flatMap,List.mem_map] at hk';obtain ⟨c,⟨c0,_,rfl⟩,h⟩:=hk';exact hq k' (a4h k' h)
  |row=>simp [c55,a1g] at hk'
  |map=>simp [c55,a1g] at hk'
  |tab=>
   simp only [c55,a1g,List.mem_flatMap,List.mem_map] at hk';obtain ⟨c,⟨c0,_,rfl⟩,h⟩:=hk';exact hq k' (a4h k' h)
  |dat=>simp [c55,a1g] at hk'
  |krow e k q c xs=>exact hq k' (a4h k' hk')
theorem b1s {ops:List Oper} {k:Nat} (h:a6X P kb ops k=false):∀o∈ops,a0v P kb o k=false:=by
 induction ops with
 |nil=>intro o ho;simp at ho
 |cons x r ih=>
  simp only [a6X,Bool.or_eq_false_iff] at h;intro o ho;rcases e6k.1 ho with rfl|ho
  ·exact h.1
  ·exact ih h.2 o ho
theorem b3R {R:Type} {cl:a0i} {ops:List Oper} {gs:List Nat} {r:R}:∀{l:List Oper} {st:St} {recs:List Rec} {k:St→List Rec→Option R},a5y P cl kb ops gs l st recs k=some r→
  ∃rl stF,rl.length=l.length∧k stF (recs++rl)=some r∧ ∀(pre:List Oper) (rc:Nat→Rec),ops=pre++l→(∀(i:Nat) (p:Rec),rl[i]? =some p→rc (pre.length+i)=p)→
   a48 P cl kb ops gs rc ((List.range l.length).map (pre.length+ ·)) st stF∧ ∀(i:Nat) (p:Rec) (o:Oper),rl[i]? =some p→l[i]? =some o→p.o=o
 | [],st,recs,k,h=>⟨[],st,rfl,by simpa [a5y] using h,fun _ _ _ _=>⟨b87.refl _,by simp⟩⟩
 | o::l,st,recs,k,h=>by
  simp only [a5y] at h;obtain ⟨rec,h1,h2⟩:=b85 h;obtain ⟨rl,stF,q1,q2,q3⟩:=b3R h2;refine ⟨rec::rl,stF,by simp [q1],by simpa using q2,fun pre rc he hrc=> ?_⟩
  obtain ⟨q4,q5⟩:=q3 (pre++[o]) rc (by rw [he];simp) (fun i p hp=>by
   have:=hrc (i+1) p (by simpa using hp)
   rw [←this];congr 1;simp;omega)
  have hr0:rc pre.length=rec:=hrc 0 rec (by simp)
  constructor
  ·rw [show (o::l).length=l.length+1 from rfl,List.range_succ_eq_map,List.map_cons,List.map_map]
   refine ⟨o,by rw [he];simp,by rw [Nat.add_zero,hr0];exact h1,?_⟩
   rw [Nat.add_zero,hr0];have:(List.range l.length).map ((pre.length+ ·)∘Nat.succ)=(List.range l.length).map ((pre++[o]).length+ ·):=by
    refine List.map_congr_left fun x _=> ?_
    simp;omega
   rw [this];exact q4
  ·intro i p o' hp ho
   cases i with
   |zero=>simp at hp ho;subst hp ho;exact h1.op
   |succ i=>exact q5 i p o' (by simpa using hp) (by simpa using ho)
theorem a3W {o o':Oper} {rec:Rec} (ho:rec.o=o) (hnn:a14 P kb rec o'=true) (hff:∀k,a0v P kb o k=true→a0v P kb o' k=false) (hc:b1m P kb o' st):b1m P kb o' (a2n P kb o rec.ks st rec.out):=by
 obtain ⟨n1,n2,n3⟩:=b1q hnn;subst ho;refine ⟨fun t x hx=> ?_,fun k ob hg=> ?_⟩
 ·rw [a1x] at hx
  by_cases hd:rec.o.dst=some t
  ·rw [if_pos hd] at hx
   cases hg:get rec.out.tmps t with
   |none=>rw [hg] at hx;cases hx
   |some y=>
    rw [hg] at hx;simp only [e6r,e55] at hx;subst hx;exact n2 t y hd hg
  ·rw [if_neg hd] at hx
   exact hc.1 t x hx
 ·rw [a6D] at hg
  split at hg
  ·rename_i hs
   refine ⟨?_,n3 hs.1 k ob hg⟩;have:=hs.2;unfold c0B at this;simp only [Bool.or_eq_true,a1j] at this;rcases this with q|q
   ·exact n1 k q
   ·exact hff k q
  ·exact hc.2 k ob hg
theorem b9d {o:Oper} {ks:List Nat} {out:St} (hn:NoW st):NoW (a2n P kb o ks st out):=by
 intro t x hx s b y he;rw [a1x] at hx;by_cases hd:o.dst=some t
 ·rw [if_pos hd] at hx
  cases hg:get out.tmps t with
  |none=>rw [hg] at hx;cases hx
  |some z=>
   rw [hg] at hx;simp only [e6r,e55] at hx;subst he;cases z<;>simp [b4T] at hx
 ·rw [if_neg hd] at hx
  exact hn t x hx s b y he
theorem a5N {d:Nat}:∀{l:List Edge},d∈b0h l↔ ∃e∈l,Region.binds .any e=true∧e.on=d
 | []=>by simp [b0h]
 | e::r=>by
  simp only [b0h];cases hb:Region.binds .any e with
  | true=>
   simp only [cond_true,e6k,a5N (l:=r)];constructor
   ·rintro (h|⟨e',h1,h2⟩)
    ·exact ⟨e,.inl rfl,hb,h.symm⟩
    ·exact ⟨e',.inr h1,h2⟩
   ·rintro ⟨e',rfl|h1,h2,h3⟩
    ·exact .inl h3.symm
    ·exact .inr ⟨e',h1,h2,h3⟩
  | false=>
   simp only [cond_false,e6k,a5N (l:=r)];constructor
   ·rintro ⟨e',h1,h2⟩;exact ⟨e',.inr h1,h2⟩
   ·rintro ⟨e',rfl|h1,h2,h3⟩
    ·rw [hb] at h2;cases h2
    ·exact ⟨e',h1,h2,h3⟩
theorem a3q {ops:Array Oper} {listed:Array Bool} {i:Nat}:i∈Region.ready .any ops listed↔i<ops.size∧listed.getD i true=false∧ ∃o,ops[i]? =some o∧ ∀d∈a4L o,listed.getD d false=true:=by
 unfold Region.ready;simp only [List.mem_filter,List.mem_range,e57,Bool.not_eq_true'];constructor
 ·rintro ⟨h1,h2,h3⟩
  refine ⟨h1,h2,?_⟩;cases ho:ops[i]? with
  |none=>rw [ho] at h3;simp at h3
  |some o=>
   rw [ho] at h3;simp only [e6r,Option.getD_some,Array.all_eq_true'] at h3;refine ⟨o,rfl,fun d hd=> ?_⟩
   obtain ⟨e,h4,h5,h6⟩:=a5N.1 hd;have:=h3 e (by simpa using h4)
   rw [h5] at this;simpa [h6] using this
 ·rintro ⟨h1,h2,o,ho,h3⟩
  refine ⟨h1,h2,?_⟩;rw [ho];simp only [e6r,Option.getD_some,Array.all_eq_true'];intro e he;cases hb:Region.binds .any e with
  |false=>simp
  |true=>
   have:=h3 e.on (a5N.2 ⟨e,by simpa using he,hb,rfl⟩)
   simp [this]
structure e5f (P:Program) (cl:a0i) (kb:Nat) (ops:Array Oper) (gs:List Nat) (rc:Nat→Rec):Prop where
 topo:c4M 0 ops.toList=true
 op:∀(i:Nat) (o:Oper),ops[i]? =some o→(rc i).o=o
 ff:∀(i j:Nat) (p q:Oper),i<j→ops[i]? =some p→ops[j]? =some q→a2w P kb p q=true
 nn:∀(i j:Nat) (q:Oper),i<j→ops[j]? =some q→a14 P kb (rc i) q=true
 ap:∀(i j:Nat) (p q:Oper),i<j→ops[i]? =some p→ops[j]? =some q→i∈(a4V ops.toList []).getD j []∨(b3e ops.toList p q=true∧a7Q P kb (rc i) (rc j)=true)
 full:∀(i:Nat),i<ops.size→a2V (rc i).out.mem=true
theorem c09 {R:Type} {cl:a0i} (hcl:a0m P cl) {ops:Array Oper} {gs:List Nat} {rc:Nat→Rec} {k:St→Option R} {r:R} {Q:Exit→Act→World→Prop} {Fe:Fence} {nn:Nat} (hW:a4O Fe) (hdf:Fe=Fence.wide∨ ∀o∈ops.toList,∀c,o.op≠ .defer c) (hF:∀k,F k→k<kb)
  (hd:∀o∈ops.toList,∀d,o.dst=some d→d<N) (hp:e5f P cl kb ops gs rc) {stF:St} (hk:k stF=some r) (hQ:∀a w,a0P P N n0 B M0 w0 F e0 k r a w→Q .normal a w):
  ∀(fuel:Nat) {rem:List Nat} {listed:Array Bool} {env:Env} {st:St} {a:Act} {w:World},Rel P N n0 B M0 w0 F e0 env st a w→NoW st→(∀j∈rem,∀o,ops[j]? =some o→b1m P kb o st)→
   a48 P cl kb ops.toList gs rc rem st stF→rem.Pairwise (· < ·)→listed.size=ops.size→(∀i,i∈rem↔i<ops.size∧listed.getD i true=false)→
   (∀(i:Nat) (o:Oper),ops[i]? =some o→listed.getD i false=true→ ∀d∈a4L o,listed.getD d false=true)→rem.length≤fuel→wpAnyIn Fe nn P .any ops Q fuel listed a w:=by
 have hend:∀{rem:List Nat} {listed:Array Bool},(∀i,i∈rem↔i<ops.size∧listed.getD i true=false)→rem.Pairwise (· < ·)→listed.size=ops.size→Region.ready .any ops listed=[]→rem=[]:=by
  intro rem listed hrem hpw hsz hready;cases rem with
  |nil=>rfl
  | cons x rr=>
   exfalso;have hx:=(hrem x).1 (by simp)
   have hox:ops[x]? =some ops[x]:=Array.getElem?_eq_getElem hx.1;have:x∈Region.ready .any ops listed:=by
    refine a3q.2 ⟨hx.1,hx.2,_,hox,fun d hdd=> ?_⟩
    have hlt:=a6E hp.topo x ops[x] (by simpa using hox) d hdd
    rw [Nat.zero_add] at hlt;have hnm:d∉x::rr:=by
     intro hm;rcases e6k.1 hm with rfl|hm
     ·omega
     ·have:=(List.pairwise_cons.1 hpw).1 d hm;omega
    have hds:d<listed.size:=by omega
    cases hl:listed[d] with
    |true=>simp [e6i,Array.getElem?_eq_getElem hds,hl]
    |false=>exact absurd ((hrem d).2 ⟨by omega,by simp [e6i,Array.getElem?_eq_getElem hds,hl]⟩) hnm
   rw [hready] at this;simp at this
 intro fuel;induction fuel with
 | zero=>
  intro rem listed env st a w h hn hc hrun hpw hsz hrem hclosed hlen;have hnil:rem=[]:=List.eq_nil_of_length_eq_zero (by omega)
  subst hnil;refine ⟨?_,hQ a w ⟨env,stF,h.eq hrun,hk⟩⟩;cases hr:Region.ready .any ops listed with
  |nil=>rfl
  |cons i l=>
   have:i∈Region.ready .any ops listed:=by rw [hr];simp
   obtain ⟨h1,h2,_⟩:=a3q.1 this;have:=(hrem i).2 ⟨h1,h2⟩;simp at this
 | succ fuel ih=>
  intro rem listed env st a w h hn hc hrun hpw hsz hrem hclosed hlen;refine ⟨fun hready=> ?_,fun i hi=> ?_⟩
  ·have:=hend hrem hpw hsz hready
   subst this;exact hQ a w ⟨env,stF,h.eq hrun,hk⟩
  ·obtain ⟨hi1,hi2,o,ho,hdir⟩:=a3q.1 hi
   have hirem:=(hrem i).2 ⟨hi1,hi2⟩;obtain ⟨A,Bl,hsplit⟩:=List.append_of_mem hirem;subst hsplit;obtain ⟨hpA,hpB,hpAB⟩:=List.pairwise_append.1 hpw;have hanc:=a3V (L:=fun x=>listed.getD x false=true) (all:=ops.toList) (fun j oj hj hl=>hclosed j oj (by simpa using hj) hl) (ops:=ops.toList) (pre:=[]) (tab:=[]) rfl rfl (fun _ _ hlt=>by simp at hlt) i o (by simpa using ho) hdir
   have hnl:∀x∈A,¬listed.getD x false=true:=by
    intro x hx hl;have:=((hrem x).1 (by simp [hx])).2
    have hxs:x<listed.size:=by rw [hsz];exact ((hrem x).1 (by simp [hx])).1
    simp only [e6i,Array.getElem?_eq_getElem hxs,Option.getD_some] at this hl;rw [this] at hl;cases hl
   have hapA:∀x∈A,b6w P kb ops.toList rc x i:=by
    intro x hx p q hpx hqi;have hxi:x<i:=hpAB x hx i (by simp)
    have hpx':ops[x]? =some p:=by simpa using hpx
    have hqi':ops[i]? =some q:=by simpa using hqi
    have e1:=hp.op x p hpx';have e2:=hp.op i q hqi';rcases hp.ap x i p q hxi hpx' hqi' with h1|⟨h1,h2⟩
    ·exact absurd (hanc x h1) (hnl x hx)
    ·have:=c2L (p:=rc x) (q:=rc i) (by rw [e1,e2];exact hp.ff x i p q hxi hpx' hqi') (by rw [e1,e2];exact h1) h2 (by rw [e2];exact hp.nn x i q hxi hqi')
     rw [e1,e2] at this;exact this
   have hrun':=hrun.front hapA;obtain ⟨o',ho',hrec,hrest⟩:=hrun';have hoo:o'=o:=by
    have:ops[i]? =some o':=by simpa using ho'
    rw [ho] at this;exact (Option.some.inj this).symm
   subst hoo;have hilt:i<listed.size:=by rw [hsz];exact hi1
   have hget:∀x dflt,(listed.setIfInBounds i true).getD x dflt=if x=i then true else listed.getD x dflt:=by
    intro x dflt;simp only [e6i,Array.getElem?_setIfInBounds];by_cases hx:x=i
    ·subst hx;simp [hilt]
    ·rw [if_neg (Ne.symm hx),if_neg hx]
   have next:∀env' a' w',Rel P N n0 B M0 w0 F e0 env' (a2n P kb o' (rc i).ks st (rc i).out) a' w'→wpAnyIn Fe nn P .any ops Q fuel (listed.setIfInBounds i true) a' w':=by
    intro env' a' w' h';refine ih (rem:=A++Bl) h' (b9d hn) ?_ hrest ?_ (by simpa using hsz) ?_ ?_ (by simp at hlen⊢;omega)
    ·intro j hj oj hoj
     have hjr:j∈A++i::Bl:=by
      rcases List.mem_append.1 hj with hj|hj
      ·simp [hj]
      ·simp [hj]
     have hcj:=hc j hjr oj hoj;rcases List.mem_append.1 hj with hj|hj
     ·have hji:j<i:=hpAB j hj i (by simp)
      have hap:=hapA j hj oj o' (by simpa using hoj) ho'
      have hapk:a14 P kb (rc i) oj=true:=by
       rcases hp.ap j i oj o' hji hoj ho with h1|⟨_,h2⟩
       ·exact absurd (hanc j h1) (hnl j hj)
       ·unfold a7Q at h2
        cases hv:a1P P (rc j).o&&a1P P (rc i).o with
        |true=>
         rw [hp.op j oj hoj] at hv;simp only [e57] at hv;unfold a14;rw [hv.1];rfl
        |false=>
         rw [hv,cond_false rfl] at h2;simp only [e57] at h2;rw [←hp.op j oj hoj];exact h2.2
      exact a3W (hp.op i o' ho) hapk hap.symm.ff hcj
     ·have hij:i<j:=(List.pairwise_cons.1 hpB).1 j hj
      exact a3W (hp.op i o' ho) (hp.nn i j oj hij hoj) (a4P (hp.ff i j o' oj hij ho hoj)) hcj
    ·refine List.pairwise_append.2 ⟨hpA,(List.pairwise_cons.1 hpB).2,fun x hx y hy=>hpAB x hx y (by simp [hy])⟩
    ·intro x
     rw [hget];have hx:=hrem x;constructor
     ·intro hm
      have hxi:x≠i:=by
       rintro rfl;rcases List.mem_append.1 hm with hm|hm
       ·have:=hpAB x hm x (by simp);omega
       ·have:=(List.pairwise_cons.1 hpB).1 x hm;omega
      rw [if_neg hxi];refine hx.1 ?_;rcases List.mem_append.1 hm with hm|hm<;>simp [hm]
     ·rintro ⟨h1,h2⟩
      by_cases hxi:x=i
      ·rw [if_pos hxi] at h2;cases h2
      ·rw [if_neg hxi] at h2
       have:=hx.2 ⟨h1,h2⟩;simp only [List.mem_append,e6k] at this⊢;rcases this with h3|h3|h3
       ·exact .inl h3
       ·exact absurd h3 hxi
       ·exact .inr h3
    ·intro x ox hox hl d hdd
     rw [hget] at hl⊢;by_cases hdi:d=i
     ·rw [if_pos hdi]
     ·rw [if_neg hdi]
      by_cases hxi:x=i
      ·subst hxi
       rw [ho] at hox;cases hox;exact hdir d hdd
      ·rw [if_neg hxi] at hl
       exact hclosed x ox hox hl d hdd
   have hs:=b5D (Q:=Q) hcl (K:=wpAnyIn Fe nn P .any ops Q fuel (listed.setIfInBounds i true)) (fun k hk=>by
    cases hb:a0v P kb o' k with
    |false=>rfl
    | true=>
     have h1:=b3K hb;have h2:=hF k hk;omega) h hn (hc i (by simp) o' ho) (hd o' (by
      have:=Array.mem_of_getElem? ho;simpa using this)) hrec (a8o (hp.full i hi1)) next
   unfold wpOpIn;rw [ho];simp only;split
   ·rename_i hw
    rw [if_pos hw] at hs;exact b3L hW (hdf.imp id fun q=>q o' (by have:=Array.mem_of_getElem? ho;simpa using this)) hs
   ·rename_i hw
    rw [if_neg hw] at hs;exact ⟨fun f _=>hW.fn f,hs⟩
theorem a49 {cl:a0i} (hm:P.follows .mixedOrders=true) (hcl:a0m P cl):a1k P cl:=by
 intro R N n0 kb F B M0 w0 e0 env st a w id ops k r Q Fe nn hW hdf hF h hd hk hQ;unfold c0K at hk;cases hs:a6W P kb ops.toList with
 |false=>rw [hs] at hk;cases hk
 | true=>
  rw [hs,cond_true rfl] at hk;obtain ⟨rl,stF,q1,q2,q3⟩:=b3R hk;rw [List.nil_append] at q2;cases hdy:c4N P kb ops.toList rl with
  |false=>rw [hdy] at q2;cases q2
  | true=>
   rw [hdy,cond_true rfl] at q2;let rc:Nat→Rec:=fun i=>rl.getD i ⟨default,[],⟨[],[]⟩⟩
   have hrc:∀(i:Nat) (p:Rec),rl[i]? =some p→rc i=p:=by
    intro i p hp;show rl.getD i _=p;rw [e6d,hp];rfl
   obtain ⟨q4,q5⟩:=q3 [] rc rfl (fun i p hp=>by simpa using hrc i p hp)
   have hl:∀(i:Nat),i<ops.size→rl[i]? =some (rc i):=by
    intro i hi;have:i<rl.length:=by rw [q1];simpa using hi
    have h1:=e6j this;rw [h1,hrc i _ h1]
   have hlt:∀(i:Nat) (o:Oper),ops[i]? =some o→i<ops.size:=fun i o ho=>(e6f.1 ho).1
   unfold a6W at hs;simp only [e57] at hs;unfold c4N at hdy;simp only [e57] at hdy;have hop:∀(i:Nat) (o:Oper),ops[i]? =some o→(rc i).o=o:=fun i o ho=>q5 i (rc i) o (hl i (hlt i o ho)) (by simpa using ho)
   have hst:∀(i j:Nat) (p q:Oper),i<j→ops[i]? =some p→ops[j]? =some q→a2w P kb p q=true∧(i∈(a4V ops.toList []).getD j []∨b3e ops.toList p q=true):=by
    intro i j p q hij hp hq;have:=a3p hs.2 i j p q hij (by simpa using hp) (by simpa using hq)
    simp only [Nat.zero_add,e57,Bool.or_eq_true,a1j] at this;exact this
   have hdn:∀(i j:Nat),i<j→j<ops.size→a14 P kb (rc i) (rc j).o=true∧(i∈(a4V ops.toList []).getD j []∨a7Q P kb (rc i) (rc j)=true):=by
    intro i j hij hj;have:=a3p hdy.1 i j (rc i) (rc j) hij (hl i (by omega)) (hl j hj)
    simp only [Nat.zero_add,e57,Bool.or_eq_true,a1j] at this;exact this
   have hplan:e5f P cl kb ops (a31 ops.toList ops.toList) rc:=by
    refine ⟨hs.1,hop,fun i j p q hij hp hq=>(hst i j p q hij hp hq).1,?_,?_,fun i hi=>a6F hdy.2 i (rc i) (hl i hi)⟩
    ·intro i j q hij hq
     have:=(hdn i j hij (hlt j q hq)).1;rw [hop j q hq] at this;exact this
    ·intro i j p q hij hp hq
     rcases (hst i j p q hij hp hq).2 with h1|h1
     ·exact .inl h1
     ·exact (hdn i j hij (hlt j q hq)).2.imp (fun h=>h) fun h2=>⟨h1,h2⟩
   refine wpIn_region_any hm ?_;have hrange:(List.range ops.toList.length).map (([]:List Oper).length+ ·)=List.range ops.size:=by simp
   rw [hrange] at q4;refine c09 hcl hW hdf hF hd hplan q2 hQ ops.size (rem:=List.range ops.size) (b9b h _ _) (b9c _) ?_ q4 List.pairwise_lt_range (by simp) ?_ ?_ (by simp)
   ·intro j _ o ho
    refine b1r fun k hk=>b1s hk o ?_
    have:=Array.mem_of_getElem? ho;simpa using this
   ·intro i
    simp only [List.mem_range,e6i];constructor
    ·intro hi;exact ⟨hi,by simp [hi]⟩
    ·exact fun hi=>hi.1
   ·intro i o ho hl' 
    have hi:=hlt i o ho;simp [e6i,hi] at hl'
end
def bnd {A B:Type} (a:A) (f:A→B):B:=f a
theorem e3J {A B R:Type} {e:A} {f:A→R} {k:B→R} {g:A→B} (h:∀x,f x=k (g x)):bnd e f=k (bnd e g):=h e
theorem a6a {A R:Type} {c:Bool} {x y:Option R} {a b:Option A} {K:A→Option R} (hx:x=a.bind K) (hy:y=b.bind K):(bif c then x else y)=(bif c then a else b).bind K:=by cases c<;>assumption
theorem b1M {E A R:Type} {e:E} {f:E→Option R} {g:E→Option A} {K:A→Option R} (h:∀z,f z=(g z).bind K):bnd e f=(bnd e g).bind K:=h e
theorem e0T {A R:Type} {c:Bool} {x y:R} {k:A→R} {a b:A} (hx:x=k a) (hy:y=k b):(bif c then x else y)=k (bif c then a else b):=by cases c<;>assumption
theorem c5c:∀{c b b':Code},b∈a0K c→b'∈a0K b→b'∈a0K c:=by
 intro c;induction c with
 | seq x y ihx ihy=>
  intro b b' h h';simp only [a0K,List.mem_append] at h;rcases h with h|h
  ·have:b= .seq x y:=by
    unfold c60 at h;split at h
    ·simpa using h
    ·simpa using h
    ·cases h
   rw [←this];exact h'
  ·simp only [a0K,List.mem_append]
   exact .inr (h.imp (fun h=>ihx h h') (fun h=>ihy h h'))
 | cond o x y ihx ihy=>
  intro b b' h h';simp only [a0K,e6k,List.mem_append] at h;rcases h with rfl|h
  ·exact h'
  ·simp only [a0K,e6k,List.mem_append]
   exact .inr (h.imp (fun h=>ihx h h') (fun h=>ihy h h'))
 |block id x ih=>intro b b' h h';simp only [a0K] at h⊢;exact ih h h'
 |loop x ih=>
  intro b b' h h';simp only [a0K,e6k] at h;rcases h with rfl|h
  ·exact h'
  ·simp only [a0K,e6k];exact .inr (ih h h')
 |region id ops d=>
  intro b b' h h';simp only [a0K,List.mem_singleton] at h;subst h;exact h'
 | rangeFunc g ps x y ihx ihy=>
  intro b b' h h';simp only [a0K,e6k,List.mem_append] at h;rcases h with rfl|h
  ·exact h'
  ·simp only [a0K,e6k,List.mem_append]
   exact .inr (h.imp (fun h=>ihx h h') (fun h=>ihy h h'))
 |_=>intro b b' h;simp [a0K] at h
def c1a (P:Program) (f:FuncId):List Code:=
 match P.funcs[f]? with
 |some fn=>(match fn.body with|some c=>a0K c|none=>[])
 |none=>[]
def c5d (id:Nat) (b:Code):Bool:=match c4O b with|some i=>Nat.beq i id|none=>false
def b1t (id:Nat):List Code→List Code
 | []=>[]
 |b::r=>bif c5d id b then b::b1t id r else b1t id r
def a0S (P:Program) (f:FuncId) (id:Nat):Code:=match b1t id (c1a P f) with|b::_=>b| []=> .skip
def b45 (P:Program) (f:FuncId) (id:Nat):Bool:=match b1t id (c1a P f) with| [_]=>true|_=>false
theorem b0x {id:Nat} {b:Code}:∀{l:List Code},b∈l→c5d id b=true→b∈b1t id l
 | x::l,h,hi=>by
  simp only [b1t];rcases e6k.1 h with rfl|h
  ·rw [hi];simp
  ·cases c5d id x with
   |true=>simp [b0x h hi]
   |false=>simpa using b0x h hi
theorem b0y {id:Nat} {b:Code}:∀{l:List Code},b∈b1t id l→b∈l
 | x::l,h=>by
  simp only [b1t] at h;cases hx:c5d id x with
  |true=>
   rw [hx] at h;rcases e6k.1 h with rfl|h
   ·simp
   ·simp [b0y h]
  |false=>rw [hx] at h;simp [b0y (by simpa using h)]
section
variable {P:Program}
theorem d0l {f:FuncId} {id:Nat} {b:Code} (h1:b45 P f id=true) (hb:b∈c1a P f) (hi:c5d id b=true):b=a0S P f id:=by
 have hm:=b0x hb hi;unfold b45 at h1;unfold a0S;split at h1
 ·rename_i x hx
  rw [hx] at hm⊢;simpa using hm
 ·cases h1
theorem c65 {f:FuncId} {id:Nat} (h1:b45 P f id=true):a0S P f id∈c1a P f:=by
 unfold b45 at h1;split at h1
 ·rename_i x hx
  unfold a0S;rw [hx];exact b0y (id:=id) (by rw [hx];simp)
 ·cases h1
def a02 (P:Program) (los:AL (St→Option (List (Bool×(Ex×St))))) (kb:Nat) (f:FuncId) (X:Ctx:=c2J) (Fs:a1e:=a82):Prop:=∀id g,get los id=some g→b45 P f id=true∧a4B P kb (a0S P f id) g X Fs
theorem a02.nil {X:Ctx} {Fs:a1e} {kb:Nat} {f:FuncId}:a02 P [] kb f X Fs:=fun _ _ h=>by cases h
theorem a02.cons {X:Ctx} {Fs:a1e} {los:AL (St→Option (List (Bool×(Ex×St))))} {kb:Nat} {f:FuncId} {id:Nat} {g:St→Option (List (Bool×(Ex×St)))} (h:a02 P los kb f X Fs) (h1:b45 P f id=true) (hl:a4B P kb (a0S P f id) g X Fs):a02 P ((id,g)::los) kb f X Fs:=by
 intro i g' hg;simp only [get,a0k] at hg;by_cases hi:id=i
 ·subst hi
  simp only [decide_true,cond_true,e55] at hg;subst hg;exact ⟨h1,hl⟩
 ·rw [cond_false (by simpa using hi)] at hg
  exact h i g' hg
theorem a02.ok {X:Ctx} {Fs:a1e} {hs:a6Y} {kb:Nat} {f:FuncId} (h:a02 P hs.los kb f X Fs):∀b∈c1a P f,b44 P hs kb b X Fs:=by
 intro b hb id g hl;unfold a8M at hl;split at hl
 ·cases hl
 ·rename_i id' hid
  split at hl
  ·rename_i g' hg
   simp only [e55,e6q] at hl;obtain ⟨rfl,rfl⟩:=hl;obtain ⟨h1,h2⟩:=h _ _ hg;have:b=a0S P f id':=d0l h1 hb (by unfold c5d;rw [hid];simp)
   rw [this];exact h2
  ·cases hl
theorem a02.loops {X:Ctx} {hs:a6Y} {kb:Nat} {f:FuncId} (h:a02 P hs.los kb f X):c04 P hs kb f X:=by
 intro fn c hfn hc b hb;refine h.ok b ?_;unfold c1a;rw [hfn];simp only [hc];exact hb
theorem a02.inner {X:Ctx} {Fs:a1e} {hs:a6Y} {kb:Nat} {f:FuncId} {id:Nat} (h:a02 P hs.los kb f X Fs) (h1:b45 P f id=true):∀b'∈a0K (a0S P f id),b44 P hs kb b' X Fs:=by
 intro b' hb';refine h.ok b' ?_;have hmem:=c65 h1;unfold c1a at hmem⊢;split at hmem
 ·split at hmem
  ·exact c5c hmem hb'
  ·simp at hmem
 ·simp at hmem
theorem e0U {X:Ctx} {Fs:a1e} {cl:a0i} {hs':a6Y} {kb:Nat} {f0:FuncId} {id:Nat} {f:St→Option (List (Bool×(Ex×St)))} (hP:a3o P) (hcl:a0m P cl) (hc:a02 P hs'.los kb f0 X Fs) (h1:b45 P f0 id=true) (hfs:a6e Fs (a0S P f0 id)) (ts ks:List Nat)
  (h:∀st alts,f st=some alts→ ∀x,a4v alts some=some x→ ∃n,a32 P cl hs' kb n (a0S P f0 id) st (fun e st=>some (e,a3N ts ks st))=some x):a4B P kb (a0S P f0 id) f X Fs:=
 c61 hcl (a49 hP.mixed hcl) hfs (hc.inner h1) ts ks h
theorem a86 {cl:a0i} {hs:a6Y} {kb n:Nat} {f:FuncId} {args:List V} {mem:AL Obj} {r:Res} (hP:a3o P) (hcl:a0m P cl) (hlo:a02 P hs.los kb f) (hk:mem.length=kb)
  (h:body P cl hs n f args mem=some r):a2z P f args mem r:=by
 subst hk;exact (b5B hP hcl (a49 hP.mixed hcl) hlo.loops h).1
def a6G (P:Program) (f:FuncId):Bool:=
 match P.funcs[f]? with
 |some fn=> !fn.body.isNone&& !(fn.name== "runtime.NumGoroutine")
 |none=>false
theorem enters_of {f:FuncId} (h:a6G P f=true):a6x P f:=by
 unfold a6G at h;split at h
 ·rename_i fn hfn
  simp only [e57,Bool.not_eq_true'] at h;exact ⟨fn,hfn,h.1,h.2⟩
 ·cases h
def e0V (P:Program):Bool:=P.follows .mixedOrders&&P.funcs.toList.all fun fn=>match fn.body with
 |some c=>okC fn.ntmps c&& !(fn.name== "runtime.NumGoroutine")
 |none=>true
theorem c66 (h:e0V P=true):a3o P:=by
 unfold e0V at h;simp only [e57,List.all_eq_true] at h;refine ⟨h.1,fun f fn c hfn hc=> ?_,fun f fn hfn hb=> ?_⟩
 ·have:=h.2 fn (by simpa using Array.mem_of_getElem? hfn)
  rw [hc] at this;simp only [e57] at this;exact this.1
 ·have:=h.2 fn (by simpa using Array.mem_of_getElem? hfn)
  cases hc:fn.body with
  |none=>rw [hc] at hb;cases hb
  |some c=>
   rw [hc] at this;simp only [e57,Bool.not_eq_true'] at this;exact this.2
end
inductive Lf where
 |i (n:Int)
 |b (x:Bool)
 |s (x:List UInt8)
 |l (xs:List D)
 |d (x:D)
 |m (es:List (D×D))
 |n (k:Nat)
def c9K:List Lf→Nat→Option Lf
 | [],_=>none
 |x::_,0=>some x
 |_::r,k+1=>c9K r k
def li (L:List Lf) (k:Nat):Int:=match c9K L k with|some (.i x)=>x|_=>0
def lb (L:List Lf) (k:Nat):Bool:=match c9K L k with|some (.b x)=>x|_=>false
def ls (L:List Lf) (k:Nat):List UInt8:=match c9K L k with|some (.s x)=>x|_=>[]
def ll (L:List Lf) (k:Nat):List D:=match c9K L k with|some (.l x)=>x|_=>[]
def ld (L:List Lf) (k:Nat):D:=match c9K L k with|some (.d x)=>x|_=> .i 0
def lm (L:List Lf) (k:Nat):List (D×D):=match c9K L k with|some (.m x)=>x|_=>[]
def ln (L:List Lf) (k:Nat):Nat:=match c9K L k with|some (.n x)=>x|_=>0
inductive HC where
 |u
 |i (k:IntKind)
 |b
 |k (x:Bool)
 |s
 |ks (x:List UInt8)
 |sl (e:TypeId)
 |nsl (e:TypeId)
 |ksl (e:TypeId) (es:List D)
 |nils
 |nilf
 |nov
 |p (key off:Nat)
 |el (e:TypeId) (off:Nat)
 |re (key:Nat) (e:TypeId) (off:Nat)
 |pi (key base len esz off:Nat)
 |o (key:Nat)
 |m (key:Nat)
 |bs (key n:Nat)
 |y (key:Nat)
 |ba (key:Nat) (T:TypeId)
 |ifc
 |f (fn:FuncId) (caps:List (Nat×Nat))
def rI:Nat→List HC→List HC
 |0,l=>l
 |n+1,l=> .i .i64::rI n l
def rB:Nat→List HC→List HC
 |0,l=>l
 |n+1,l=> .b::rB n l
def rL (L:List Lf):Nat→Nat→List C→List C
 |_,0,r=>r
 |i,n+1,r=> .i .i64 (li L i)::rL L (i+1) n r
def rM (L:List Lf):Nat→Nat→List C→List C
 |_,0,r=>r
 |i,n+1,r=> .b (lb L i)::rM L (i+1) n r
inductive HV where
 |c (x:HC)
 |g (xs:List HC)
inductive HO where
 |box (cs:List HC)
 |row (e:TypeId) (excl:Bool)
 |map (kt vt:TypeId)
 |kmap (kt vt:TypeId) (es:List (Int×Int))
 |dat (T:TypeId)
 |krow (e q key:Nat)
structure Sh where
 tmps:AL HV
 mem:AL HO
def c2M:List (Nat×Nat)→List (Nat×Nat)→Bool
 | [],[]=>true
 |(a,b)::r,(c,d)::s=>Nat.beq a c&&Nat.beq b d&&c2M r s
 |_,_=>false
mutual
def d5j:D→D→Bool
 | .i a,.i b=>a==b
 | .b a,.b b=>a==b
 | .s a,.s b=>a==b
 | .l a xs,.l b ys=>a==b&&d5k xs ys
 | .a xs,.a ys=>d5k xs ys
 |_,_=>false
def d5k:List D→List D→Bool
 | [],[]=>true
 |x::xs,y::ys=>d5j x y&&d5k xs ys
 |_,_=>false
end
mutual
theorem d5l:∀{x y:D},d5j x y=true→x=y
 | .i a,y,h=>by cases y<;>simp only [d5j] at h<;>first|(rw [eq_of_beq h])|cases h
 | .b a,y,h=>by cases y<;>simp only [d5j] at h<;>first|(rw [eq_of_beq h])|cases h
 | .s a,y,h=>by cases y<;>simp only [d5j] at h<;>first|(rw [eq_of_beq h])|cases h
 | .l a xs,y,h=>by
  cases y<;>simp only [d5j,e57] at h<;>first|(rw [eq_of_beq h.1,b6x h.2])|cases h
 | .a xs,y,h=>by
  cases y<;>simp only [d5j] at h<;>first|(rw [b6x h])|cases h
theorem b6x:∀{xs ys:List D},d5k xs ys=true→xs=ys
 | [],ys,h=>by cases ys<;>simp only [d5k] at h<;>first|rfl|cases h
 |x::xs,ys,h=>by
  cases ys<;>simp only [d5k,e57] at h<;>first|(rw [d5l h.1,b6x h.2])|cases h
end
def e0W:HC→C→Bool
 | .u,.u=>true
 | .i k,.i k' _=>k==k'
 | .b,.b _=>true
 | .k x,.k y=>x==y
 | .s,.s _=>true
 | .ks x,.s y=>x==y
 | .sl e,.sl e' _ _=>Nat.beq e e'
 | .nsl e,.sl e' true []=>Nat.beq e e'
 | .nils,.v (.slice none 0 0)=>true
 | .nov,.v v=>c6p v
 | .p k o,.p k' o'=>Nat.beq k k'&&Nat.beq o o'
 | .el e o,.el e' _ o'=>Nat.beq e e'&&Nat.beq o o'
 | .re k e o,.re k' e' _ o'=>Nat.beq k k'&&Nat.beq e e'&&Nat.beq o o'
 | .pi k b l e o,.pi k' b' l' e' _ o'=>Nat.beq k k'&&Nat.beq b b'&&Nat.beq l l'&&Nat.beq e e'&&Nat.beq o o'
 | .o k,.o k'=>Nat.beq k k'
 | .m k,.m k'=>Nat.beq k k'
 | .bs k n,.bs k' n'=>Nat.beq k k'&&Nat.beq n n'
 | .y k,.y k'=>Nat.beq k k'
 | .ba k T,.ba k' T'=>Nat.beq k k'&&Nat.beq T T'
 | .ifc,.ifc _=>true
 | .f fn caps,.f fn' caps'=>Nat.beq fn fn'&&c2M caps caps'
 | .ksl e es,.sl e' nl xs=>Nat.beq e e'&&(!nl)&&d5k es xs
 | .nilf,.v .nilFunc=>true
 |_,_=>false
def c1b:List HC→List C→Bool
 | [],[]=>true
 |x::xs,y::ys=>e0W x y&&c1b xs ys
 |_,_=>false
def e3K:HV→V→Bool
 | .c x,.c y=>e0W x y
 | .g xs,.g ys=>c1b xs ys
 |_,_=>false
def e3a:List (Int×Int)→List (D×D)
 | []=>[]
 |(a,b)::r=>(.i a,.i b)::e3a r
def a6b:List (Int×Int)→List (D×D)→Bool
 | [],[]=>true
 |(a,b)::r,(.i c,.i d)::s=>(a==c)&&(b==d)&&a6b r s
 |_,_=>false
theorem b9e:∀{es:List (Int×Int)} {l:List (D×D)},a6b es l=true→e3a es=l
 | [],[],_=>rfl
 |(a,b)::r,(.i c,.i d)::s,h=>by
  simp only [a6b,e57] at h;rw [e3a,eq_of_beq h.1.1,eq_of_beq h.1.2,b9e h.2]
 | [],_::_,h=>by cases h
 |_::_,[],h=>by cases h
 |_::_,(.b _,_)::_,h=>by simp [a6b] at h
 |_::_,(.s _,_)::_,h=>by simp [a6b] at h
 |_::_,(.l _ _,_)::_,h=>by simp [a6b] at h
 |_::_,(.a _,_)::_,h=>by simp [a6b] at h
 |_::_,(.i _,.b _)::_,h=>by simp [a6b] at h
 |_::_,(.i _,.s _)::_,h=>by simp [a6b] at h
 |_::_,(.i _,.l _ _)::_,h=>by simp [a6b] at h
 |_::_,(.i _,.a _)::_,h=>by simp [a6b] at h
def d4f:HO→Obj→Bool
 | .box xs,.box ys=>c1b xs ys
 | .row e ex,.row e' ex' _ _=>Nat.beq e e'&&(ex==ex')
 | .map kt vt,.map kt' vt' _=>Nat.beq kt kt'&&Nat.beq vt vt'
 | .kmap kt vt es,.map kt' vt' es'=>Nat.beq kt kt'&&Nat.beq vt vt'&&a6b es es'
 | .dat T,.dat T' _=>Nat.beq T T'
 | .krow e q key,.krow e' _ q' (.kp key') _=>Nat.beq e e'&&Nat.beq q q'&&Nat.beq key key'
 |_,_=>false
def c67 {α β:Type} (f:α→β→Bool):AL α→AL β→Bool
 | [],[]=>true
 |(k,x)::r,(k',y)::s=>Nat.beq k k'&&f x y&&c67 f r s
 |_,_=>false
def d0m (sh:Sh) (st:St):Bool:=c67 e3K sh.tmps st.tmps&&c67 d4f sh.mem st.mem
def lvC:C→List Lf
 | .i _ n=>[.i n]
 | .b x=>[.b x]
 | .ifc x=>[.b x]
 | .s x=>[.s x]
 | .sl _ n xs=>[.b n,.l xs]
 | .el _ d _=>[.d d]
 | .re _ _ ix _=>[.n ix]
 | .pi _ _ _ _ ix _=>[.n ix]
 |_=>[]
def d5m:List C→List Lf
 | []=>[]
 |c::r=>lvC c++d5m r
def lvV:V→List Lf
 | .c x=>lvC x
 | .g xs=>d5m xs
 |_=>[]
def lvO:Obj→List Lf
 | .box cs=>d5m cs
 | .row _ _ n xs=>[.b n,.l xs]
 | .map _ _ es=>[.m es]
 | .tab _ _ _=>[]
 | .dat _ d=>[.d d]
 | .krow _ k _ _ xs=>[.n k,.l xs]
def d0n {α:Type} (f:α→List Lf):AL α→List Lf
 | []=>[]
 |(_,x)::r=>f x++d0n f r
def e3L (st:St):List Lf:=d0n lvV st.tmps++d0n lvO st.mem
def c2N (L:List Lf) (n:Nat):HC→C×Nat
 | .u=>(.u,n)
 | .i k=>(.i k (li L n),n+1)
 | .b=>(.b (lb L n),n+1)
 | .k x=>(.k x,n)
 | .s=>(.s (ls L n),n+1)
 | .ks x=>(.s x,n+1)
 | .sl e=>(.sl e (lb L n) (ll L (n+1)),n+2)
 | .nsl e=>(.sl e true [],n+2)
 | .ksl e es=>(.sl e false es,n+2)
 | .nils=>(.v (.slice none 0 0),n)
 | .nilf=>(.v .nilFunc,n)
 | .nov=>(.v (.tuple #[]),n)
 | .p k o=>(.p k o,n)
 | .el e o=>(.el e (ld L n) o,n+1)
 | .re k e o=>(.re k e (ln L n) o,n+1)
 | .pi k b l e o=>(.pi k b l e (ln L n) o,n+1)
 | .o k=>(.o k,n)
 | .m k=>(.m k,n)
 | .bs k j=>(.bs k j,n)
 | .y k=>(.y k,n)
 | .ba k T=>(.ba k T,n)
 | .ifc=>(.ifc (lb L n),n+1)
 | .f fn caps=>(.f fn caps,n)
def b9f (L:List Lf):Nat→List HC→List C×Nat
 |n,[]=>([],n)
 |n,x::r=>((c2N L n x).1::(b9f L (c2N L n x).2 r).1,(b9f L (c2N L n x).2 r).2)
def e0q (L:List Lf) (n:Nat):HV→V×Nat
 | .c x=>(.c (c2N L n x).1,(c2N L n x).2)
 | .g xs=>(.g (b9f L n xs).1,(b9f L n xs).2)
def d0o (L:List Lf) (n:Nat):HO→Obj×Nat
 | .box xs=>(.box (b9f L n xs).1,(b9f L n xs).2)
 | .row e ex=>(.row e ex (lb L n) (ll L (n+1)),n+2)
 | .map kt vt=>(.map kt vt (lm L n),n+1)
 | .kmap kt vt es=>(.map kt vt (e3a es),n+1)
 | .dat T=>(.dat T (ld L n),n+1)
 | .krow e q key=>(.krow e (ln L n) q (.kp key) (ll L (n+1)),n+2)
def c1c {α β:Type} (f:Nat→α→β×Nat):Nat→AL α→AL β×Nat
 |n,[]=>([],n)
 |n,(k,x)::r=>((k,(f n x).1)::(c1c f (f n x).2 r).1,(c1c f (f n x).2 r).2)
def a16 (sh:Sh) (L:List Lf):St:=
 {tmps:=(c1c (e0q L) 0 sh.tmps).1,mem:=(c1c (d0o L) (c1c (e0q L) 0 sh.tmps).2 sh.mem).1}
theorem a2H:∀(pre:List Lf) (x:Lf) (post:List Lf),c9K (pre++x::post) pre.length=some x
 | [],_,_=>rfl
 |_::r,x,post=>a2H r x post
theorem b6y (pre:List Lf) (x y:Lf) (post:List Lf):c9K (pre++x::y::post) (pre.length+1)=some y:=by
 have:=a2H (pre++[x]) y post;simpa using this
theorem b9g:∀{a b:List (Nat×Nat)},c2M a b=true→a=b
 | [],[],_=>rfl
 |(a,b)::r,(c,d)::s,h=>by
  simp only [c2M,e57] at h;rw [e56 h.1.1,e56 h.1.2,b9g h.2]
 | [],_::_,h=>by cases h
 |_::_,[],h=>by cases h
theorem d5n {v:Value} (h:c6p v=true):v= .tuple #[]:=by
 unfold c6p at h;split at h
 ·rename_i vs
  have:vs= #[]:=Array.eq_empty_of_size_eq_zero (e56 h);rw [this]
 ·cases h
theorem c68 {sh:HC} {c:C} (h:e0W sh c=true) (pre post:List Lf):c2N (pre++(lvC c++post)) pre.length sh=(c,pre.length+(lvC c).length):=by
 unfold e0W at h;split at h<;>(try simp only [e57] at h)
 ·rfl
 ·have:=eq_of_beq h;subst this;simp [c2N,lvC,li,a2H]
 ·simp [c2N,lvC,lb,a2H]
 ·have:=eq_of_beq h;subst this;rfl
 ·simp [c2N,lvC,ls,a2H]
 ·have:=eq_of_beq h;subst this;rfl
 ·have:=e56 h;subst this;simp [c2N,lvC,lb,ll,a2H,b6y]
 ·have:=e56 h;subst this;rfl
 ·rfl
 ·have:=d5n h;subst this;rfl
 ·have e1:=e56 h.1;have e2:=e56 h.2;subst e1 e2;rfl
 ·have e1:=e56 h.1;have e2:=e56 h.2;subst e1 e2;simp [c2N,lvC,ld,a2H]
 ·have e1:=e56 h.1.1;have e2:=e56 h.1.2;have e3:=e56 h.2;subst e1 e2 e3;simp [c2N,lvC,ln,a2H]
 ·obtain ⟨⟨⟨⟨h1,h2⟩,h3⟩,h4⟩,h5⟩:=h
  have e1:=e56 h1;have e2:=e56 h2;have e3:=e56 h3;have e4:=e56 h4;have e5:=e56 h5;subst e1 e2 e3 e4 e5;simp [c2N,lvC,ln,a2H]
 ·have:=e56 h;subst this;rfl
 ·have:=e56 h;subst this;rfl
 ·have e1:=e56 h.1;have e2:=e56 h.2;subst e1 e2;rfl
 ·have:=e56 h;subst this;rfl
 ·have e1:=e56 h.1;have e2:=e56 h.2;subst e1 e2;rfl
 ·simp [c2N,lvC,lb,a2H]
 ·have e1:=e56 h.1;have e2:=b9g h.2;subst e1 e2;rfl
 ·have e1:=e56 h.1.1;have e2:=b6x h.2;have e3:=h.1.2
  simp only [Bool.not_eq_true'] at e3;subst e1 e2 e3;rfl
 ·rfl
 ·cases h
theorem b6z:∀{sh:List HC} {cs:List C},c1b sh cs=true→ ∀(pre post:List Lf),b9f (pre++(d5m cs++post)) pre.length sh=(cs,pre.length+(d5m cs).length)
 | [],[],_,pre,post=>rfl
 |x::xs,y::ys,h,pre,post=>by
  simp only [c1b,e57] at h;have h1:=c68 h.1 pre (d5m ys++post);have h2:=b6z h.2 (pre++lvC y) post;simp only [e6l,e6n] at h2;simp only [b9f,d5m,e6n,h1,h2,e6l,Nat.add_assoc]
 | [],_::_,h,_,_=>by cases h
 |_::_,[],h,_,_=>by cases h
theorem d5o {sh:HV} {v:V} (h:e3K sh v=true) (pre post:List Lf):e0q (pre++(lvV v++post)) pre.length sh=(v,pre.length+(lvV v).length):=by
 cases sh<;>cases v<;>first|(simp [e3K] at h;done)|skip
 ·simp only [e0q,lvV,c68 (show e0W _ _=true from h)]
 ·simp only [e0q,lvV,b6z (show c1b _ _=true from h)]
theorem d5p {sh:HO} {o:Obj} (h:d4f sh o=true) (pre post:List Lf):d0o (pre++(lvO o++post)) pre.length sh=(o,pre.length+(lvO o).length):=by
 cases sh<;>cases o<;>first|(simp [d4f] at h;done)|skip
 ·simp only [d0o,lvO,b6z (show c1b _ _=true from h)]
 ·simp only [d4f,e57] at h
  have e1:=e56 h.1;have e2:=eq_of_beq h.2;subst e1 e2;simp [d0o,lvO,lb,ll,a2H,b6y]
 ·simp only [d4f,e57] at h
  have e1:=e56 h.1;have e2:=e56 h.2;subst e1 e2;simp [d0o,lvO,lm,a2H]
 ·simp only [d4f,e57] at h
  have e1:=e56 h.1.1;have e2:=e56 h.1.2;have e3:=b9e h.2;subst e1 e2 e3;simp [d0o,lvO]
 ·have e1:=e56 (show Nat.beq _ _=true from h)
  subst e1;simp [d0o,lvO,ld,a2H]
 ·rename_i e q key e' k q' c xs
  cases c<;>first|(simp [d4f] at h;done)|skip
  simp only [d4f,e57] at h;have e1:=e56 h.1.1;have e2:=e56 h.1.2;have e3:=e56 h.2;subst e1 e2 e3;simp [d0o,lvO,ln,ll,a2H,b6y]
theorem b6A {α β:Type} {fit:α→β→Bool} {lv:β→List Lf} {mk:List Lf→Nat→α→β×Nat} (hf:∀sh x,fit sh x=true→ ∀pre post,mk (pre++(lv x++post)) pre.length sh=(x,pre.length+(lv x).length)):
  ∀{sh:AL α} {l:AL β},c67 fit sh l=true→ ∀(pre post:List Lf),c1c (mk (pre++(d0n lv l++post))) pre.length sh=(l,pre.length+(d0n lv l).length)
 | [],[],_,pre,post=>rfl
 |(k,x)::xs,(k',y)::ys,h,pre,post=>by
  simp only [c67,e57] at h;have e:=e56 h.1.1;subst e;have h1:=hf x y h.1.2 pre (d0n lv ys++post);have h2:=b6A hf h.2 (pre++lv y) post;simp only [e6l,e6n] at h2;simp only [c1c,d0n,e6n,h1,h2,e6l,Nat.add_assoc]
 | [],_::_,h,_,_=>by cases h
 |_::_,[],h,_,_=>by cases h
theorem d5q {sh:Sh} {st:St} (h:d0m sh st=true):a16 sh (e3L st)=st:=by
 unfold d0m at h;simp only [e57] at h;have h1:=b6A (lv:=lvV) (mk:=e0q) (fun _ _ h pre post=>d5o h pre post) h.1 [] (d0n lvO st.mem)
 have h2:=b6A (lv:=lvO) (mk:=d0o) (fun _ _ h pre post=>d5p h pre post) h.2 (d0n lvV st.tmps) []
 simp only [List.nil_append,List.length_nil,Nat.zero_add,List.append_nil] at h1 h2;unfold a16 e3L;rw [h1];simp only;rw [h2]
def c56 {α:Type} (sh:Sh) (A:List Lf→List (Bool×α)) (st:St):Option (List (Bool×α)):=bif d0m sh st then some (A (e3L st)) else none
theorem a69 {α:Type} {sh:Sh} {A:List Lf→List (Bool×α)} {Q:St→α→Prop} (h:∀L x,a4v (A L) some=some x→Q (a16 sh L) x):∀st alts,c56 sh A st=some alts→ ∀x,a4v alts some=some x→Q st x:=by
 intro st alts ha x hx;unfold c56 at ha;cases hf:d0m sh st with
 |false=>rw [hf] at ha;cases ha
 |true=>
  rw [hf] at ha;simp only [cond_true,e55] at ha;subst ha;rw [←d5q hf];exact h _ x hx
def b1u:AL V→List V
 | []=>[]
 |(_,x)::r=>x::b1u r
theorem a5O:∀(i:Nat) (args:List V),b1u (params i args)=args
 |_,[]=>rfl
 |i,x::r=>by simp only [params,b1u,a5O]
def e3b (sh:Sh) (A:List Lf→List (Bool×Res)) (args:List V) (mem:AL Obj):Option (List (Bool×Res)):=c56 sh A ⟨params 0 args,mem⟩
theorem a7a {sh:Sh} {A:List Lf→List (Bool×Res)} {P:Program} {f:FuncId} (h:∀L x,a4v (A L) some=some x→a2z P f (b1u (a16 sh L).tmps) (a16 sh L).mem x):∀args mem alts,e3b sh A args mem=some alts→ ∀res,a4v alts some=some res→a2z P f args mem res:=by
 intro args mem alts ha res hr;have:=a69 (Q:=fun st x=>a2z P f (b1u st.tmps) st.mem x) h ⟨params 0 args,mem⟩ alts ha res hr
 simpa only [a5O] using this
def b6B {A B R:Type} (k:A→R) (g:B→R):Sum A B→R
 | .inl a=>k a
 | .inr b=>g b
def a0U {A B:Type}:Option (Sum A B)→Bool
 |some (.inl _)=>true
 |_=>false
def a1E {A B:Type} [Inhabited A]:Option (Sum A B)→A
 |some (.inl a)=>a
 |_=>default
def a0n {A B:Type}:Option (Sum A B)→Option B
 |some (.inr b)=>some b
 |_=>none
theorem e5g {R:Type} (x y:R) (h:a4v [(true,y)] some=some x):some y=some x:=h
theorem b8i {A R:Type} [Inhabited A] {q:Option A} {f:A→R} (x:R) (h:a4v [(q.isSome,f (q.getD default))] some=some x):q.bind (fun p=>some (f p))=some x:=by
 cases q with
 |none=>cases h
 |some a=>exact h
theorem c57 {A B R:Type} [Inhabited A] {q:Option (Sum A B)} {f:A→R} {rest:List (Bool×R)} {g:B→Option R} (h:∀x,a4v rest some=some x→(a0n q).bind g=some x) (x:R)
  (hx:a4v ((a0U q,f (a1E q))::rest) some=some x):q.bind (b6B (fun a=>some (f a)) g)=some x:=by
 match q,hx with
 |none,hx=>exact h x hx
 |some (.inl a),hx=>exact hx
 |some (.inr b),hx=>exact h x hx
def a87:Code→Code
 | .loop b=>b
 |c=>c
def reK {R:Type} (kn:St→Option R) (k:Ex→St→Option R):Ex→St→Option R:=fun e st=>match e with
 | .normal=>kn st
 |e=>k e st
theorem c69 {R:Type} {P:Program} {cl:a0i} {hs:a6Y} {kb n id:Nat} {b:Code} {st:St} {k:Ex→St→Option R} (hl:a8M hs (.loop b)=none) (hid:3*a1X b=id):
  a32 P cl hs kb (n+1) (.loop b) st k=a32 P cl hs kb n b (a3D P kb hs.loops id st) (reK (fun st=>a32 P cl hs kb n (.loop b) (a3D P kb hs.loops id st) k) k):=by
 subst hid;have hl':a5A P kb hs (.loop b) st=none:=by unfold a5A;rw [hl]
 simp only [a32,hl',hl];congr 1
theorem d4g {X:Ctx} {Fs:a1e} {P:Program} {cl:a0i} {hs:a6Y} {kb f id n:Nat} {a b:List Nat} {sh:Sh} {A:List Lf→List (Bool×(Ex×St))} (hP:a3o P) (hcl:a0m P cl) (hal:a02 P hs.los kb f X Fs) (h1:b45 P f id=true) (hfs:a6e Fs (a0S P f id))
  (h:∀L x,a4v (A L) some=some x→a32 P cl hs kb n (a0S P f id) (a16 sh L) (fun e st=>some (e,a3N a b st))=some x):a4B P kb (a0S P f id) (c56 sh A) X Fs:=
 e0U hP hcl hal h1 hfs a b (a69 (Q:=fun st x=>∃n,a32 P cl hs kb n (a0S P f id) st (fun e st=>some (e,a3N a b st))=some x) fun L x hx=>⟨n,h L x hx⟩)
inductive LT where
 |i|b|s|l|d|m|n
def acL:LT→List Lf→Nat→Lf
 | .i,L,k=> .i (li L k)
 | .b,L,k=> .b (lb L k)
 | .s,L,k=> .s (ls L k)
 | .l,L,k=> .l (ll L k)
 | .d,L,k=> .d (ld L k)
 | .m,L,k=> .m (lm L k)
 | .n,L,k=> .n (ln L k)
def tyC:HC→List LT
 | .i _=>[.i]
 | .b=>[.b]
 | .ifc=>[.b]
 | .s=>[.s]
 | .ks _=>[.s]
 | .sl _=>[.b,.l]
 | .nsl _=>[.b,.l]
 | .ksl _ _=>[.b,.l]
 | .el .. =>[.d]
 | .re .. =>[.n]
 | .pi .. =>[.n]
 |_=>[]
def e3M:List HC→List LT
 | []=>[]
 |c::r=>tyC c++e3M r
def tyV:HV→List LT
 | .c x=>tyC x
 | .g xs=>e3M xs
def tyO:HO→List LT
 | .box xs=>e3M xs
 | .row .. =>[.b,.l]
 | .map .. =>[.m]
 | .kmap .. =>[.m]
 | .dat _=>[.d]
 | .krow .. =>[.n,.l]
def e3N {α:Type} (f:α→List LT):AL α→List LT
 | []=>[]
 |(_,x)::r=>f x++e3N f r
def e5h (sh:Sh):List LT:=e3N tyV sh.tmps++e3N tyO sh.mem
def mxL (L x:List Lf):List LT→Nat→List Nat→Nat→List Lf
 | [],_,_,_=>[]
 |t::ts,i,[],j=>acL t L i::mxL L x ts (i+1) [] j
 |t::ts,i,v::vs,j=>bif Nat.beq v i then acL t x j::mxL L x ts (i+1) vs (j+1) else acL t L i::mxL L x ts (i+1) (v::vs) j
def mx (sh:Sh) (vs:List Nat) (L x:List Lf):List Lf:=mxL L x (e5h sh) 0 vs 0
def pkL (L:List Lf):List LT→Nat→List Nat→List Lf
 | [],_,_=>[]
 |_::_,_,[]=>[]
 |t::ts,i,v::vs=>bif Nat.beq v i then acL t L i::pkL L ts (i+1) vs else pkL L ts (i+1) (v::vs)
def pk (sh:Sh) (vs:List Nat) (L:List Lf):List Lf:=pkL L (e5h sh) 0 vs
def lpB (P:Program) (cl:a0i) (h:a6Y) (kb f id:Nat) (sh:Sh) (vs a b:List Nat) (m:Nat) (kn:St→Option (Ex×St)) (L x:List Lf):Option (Ex×St):=
 a32 P cl h kb m (a87 (a0S P f id)) (a16 sh (mx sh vs L x)) (reK (fun st=>kn (a3D P kb h.loops id st)) (fun e st=>some (e,a3N a b st)))
theorem d0p {P:Program} {cl:a0i} {kb f id:Nat} {h:a6Y} {a b:List Nat} {sh:Sh} {vs:List Nat} {T:Type} {B:List Lf→List Lf→Option (Sum (List Lf) T)} {Q:List Lf→Nat→List Lf→Option T} {ko:List Lf→T→Option (Ex×St)} {ki:T→Option T}
  (hnl:a8M h (.loop (a87 (a0S P f id)))=none) (hid:3*a1X (a87 (a0S P f id))=id) (hc:∀L,a3D P kb h.loops id (a16 sh L)=a16 sh L)
  (step:∀m kn L x,lpB P cl h kb f id sh vs a b (m+100) kn L x=(B L x).bind (b6B (fun y=>kn (a16 sh (mx sh vs L y))) (ko L)))
  (q0:∀L x,Q L 0 x=none) (qs:∀L m x,Q L (m+1) x=(B L x).bind (b6B (Q L m) ki)) (hki:∀p,ki p=some p):
  ∀(m:Nat) (L x:List Lf) (r:Ex×St),(Q L m x).bind (ko L)=some r→a32 P cl h kb (m+101) (.loop (a87 (a0S P f id))) (a16 sh (mx sh vs L x)) (fun e st=>some (e,a3N a b st))=some r:=by
 intro m;induction m with
 |zero=>intro L x r hr;rw [q0] at hr;cases hr
 | succ m ih=>
  intro L x r hr;rw [c69 hnl hid,hc];have e:=step (m+1) (fun s=>a32 P cl h kb (m+101) (.loop (a87 (a0S P f id))) s (fun e st=>some (e,a3N a b st))) L x
  refine Eq.trans e ?_;rw [qs] at hr;cases hb:B L x with
  |none=>rw [hb] at hr;cases hr
  | some q=>
   rw [hb] at hr;cases q with
   |inl y=>exact ih L y r hr
   |inr p=>
    have hr:(ki p).bind (ko L)=some r:=hr;rw [hki] at hr;exact hr
def mgA {α:Type} (old new:AL α):List Nat→AL α
 | []=>[]
 | k::r=>match get new k with
  |some v=>(k,v)::mgA old new r
  |none=>match get old k with
   |some v=>(k,v)::mgA old new r
   |none=>mgA old new r
def mg (s:St) (ts:List Nat) (nt:AL V) (ks:List Nat) (nm:AL Obj):St:=⟨mgA s.tmps nt ts,mgA s.mem nm ks⟩
def bd (P:Program) (cl:a0i) (h:a6Y) (f:FuncId) (sh:Sh) (L:List Lf):Option Res:=body P cl h 200 f (b1u (a16 sh L).tmps) (a16 sh L).mem
def c1d (P:Program) (f:FuncId) (sh:Sh) (A:List Lf→List (Bool×Res)):Prop:=∀args mem alts,e3b sh A args mem=some alts→ ∀res,a4v alts some=some res→a2z P f args mem res
structure Sg (P:Program) (kb:Nat) (f:FuncId) (X:Ctx:=c2J) (Fs:a1e:=a82) where
 h:a6Y
 ok:a02 P h.los kb f X Fs
def Sg.start {X:Ctx} {Fs:a1e} {P:Program} {kb:Nat} {f:FuncId} (hd:c6b) (rg:List (Nat×List Nat)) (rows:Bool:=false):Sg P kb f X Fs:=⟨{loops:=hd,regs:=rg,los:=[],rows:=rows},a02.nil⟩
def pc (P:Program) (cl:a0i) (h:a6Y) (kb n f id:Nat) (sh:Sh) (L:List Lf) (a b:List Nat):Option (Ex×St):=a32 P cl h kb n (a0S P f id) (a16 sh L) (fun e st=>some (e,a3N a b st))
def Sg.cut {X:Ctx} {Fs:a1e} {P:Program} {cl:a0i} {kb f n:Nat} (s:Sg P kb f X Fs) {id:Nat} {a b:List Nat} {sh:Sh} (A:List Lf→List (Bool×(Ex×St))) (hP:a3o P) (hcl:a0m P cl) (h:∀L x,a4v (A L) some=some x→pc P cl s.h kb n f id sh L a b=some x) (h1:b45 P f id=true:=by kernel_rfl) (hfs:a6e Fs (a0S P f id):=by first|exact fsW _|exact fsA (by kernel_rfl)):Sg P kb f X Fs:=
 ⟨{s.h with los:=(id,c56 sh A)::s.h.los},a02.cons s.ok h1 (d4g hP hcl s.ok h1 hfs h)⟩
def Sg.hand {X:Ctx} {Fs:a1e} {P:Program} {kb f:Nat} (s:Sg P kb f X Fs) {id:Nat} {sh:Sh} {A:List Lf→List (Bool×(Ex×St))} (h:a4B P kb (a0S P f id) (c56 sh A) X Fs) (h1:b45 P f id=true:=by kernel_rfl):Sg P kb f X Fs:=
 ⟨{s.h with los:=(id,c56 sh A)::s.h.los},a02.cons s.ok h1 h⟩
def orS {α:Type} (g:St→Option α) (o:Option (St→Option α)):St→Option α:=fun st=>match g st with
 |some x=>some x
 |none=>match o with
  |some f=>f st
  |none=>none
theorem a4B.orS {X:Ctx} {Fs:a1e} {P:Program} {kb:Nat} {b:Code} {g:St→Option (List (Bool×(Ex×St)))} {o:Option (St→Option (List (Bool×(Ex×St))))} (hg:a4B P kb b g X Fs) (ho:∀f,o=some f→a4B P kb b f X Fs):a4B P kb b (AM.orS g o) X Fs:=by
 intro st alts ha;unfold AM.orS at ha;split at ha
 ·rename_i x hx
  simp only [e55] at ha;subst ha;exact hg st _ hx
 ·cases o with
  |none=>cases ha
  |some f=>exact ho f rfl st _ ha
def Sg.no {X:Ctx} {Fs:a1e} {P:Program} {kb f:Nat} (s:Sg P kb f X Fs) (id:Nat):Sg P kb f X Fs:=⟨{s.h with los:=del s.h.los id},fun i g hg=>by
 simp only [a71] at hg;by_cases hi:i=id
 ·rw [if_pos hi] at hg;cases hg
 ·rw [if_neg hi] at hg;exact s.ok i g hg⟩
def Sg.add {X:Ctx} {Fs:a1e} {P:Program} {kb f:Nat} (s t:Sg P kb f X Fs) (id:Nat):Sg P kb f X Fs:=⟨{s.h with los:=match get t.h.los id with|some g=>(id,orS g (get s.h.los id))::s.h.los|none=>s.h.los},by
 cases ht:get t.h.los id with
 |none=>exact s.ok
 |some g=>exact a02.cons s.ok (t.ok id g ht).1 ((t.ok id g ht).2.orS fun f hf=>(s.ok id f hf).2)⟩
def Sg.lp {X:Ctx} {Fs:a1e} {P:Program} {cl:a0i} {kb f:Nat} (s:Sg P kb f X Fs) {id:Nat} {a b:List Nat} {sh:Sh} {vs:List Nat} {T:Type} (A:List Lf→List (Bool×(Ex×St))) {B:List Lf→List Lf→Option (Sum (List Lf) T)} {Q:List Lf→Nat→List Lf→Option T} {ko:List Lf→T→Option (Ex×St)} {ki:T→Option T} (N:Nat) (hP:a3o P) (hcl:a0m P cl)
  (step:∀m kn L x,lpB P cl s.h kb f id sh vs a b (m+100) kn L x=(B L x).bind (b6B (fun y=>kn (a16 sh (mx sh vs L y))) (ko L)))
  (qs:∀L m x,Q L (m+1) x=(B L x).bind (b6B (Q L m) ki)) (hA:∀L r,a4v (A L) some=some r→(Q L N (pk sh vs L)).bind (ko L)=some r)
  (h1:b45 P f id=true:=by kernel_rfl) (hlp:a0S P f id= .loop (a87 (a0S P f id)):=by kernel_rfl) (hnl:a8M s.h (.loop (a87 (a0S P f id)))=none:=by kernel_rfl) (hid:3*a1X (a87 (a0S P f id))=id:=by kernel_rfl)
  (hc:∀L,a3D P kb s.h.loops id (a16 sh L)=a16 sh L:=by intro L;kernel_rfl) (h0:∀L,a16 sh L=a16 sh (mx sh vs L (pk sh vs L)):=by intro L;kernel_rfl)
  (q0:∀L x,Q L 0 x=none:=by intro L x;rfl) (hki:∀p,ki p=some p:=by intro p;first|rfl|(rcases p with p|p<;>rfl)|(rcases p with p|p|p<;>rfl)|(rcases p with p|p|p|p<;>rfl))
  (hfs:a6e Fs (a0S P f id):=by first|exact fsW _|exact fsA (by kernel_rfl)):Sg P kb f X Fs:=
 ⟨{s.h with los:=(id,c56 sh A)::s.h.los},a02.cons s.ok h1 (d4g (n:=N+101) hP hcl s.ok h1 hfs fun L r hr=>by rw [hlp,h0 L];exact d0p hnl hid hc step q0 qs hki N L _ r (hA L r hr))⟩
theorem Sg.fn {P:Program} {cl:a0i} {kb f:Nat} (s:Sg P kb f) {sh:Sh} {A:List Lf→List (Bool×Res)} (hP:a3o P) (hcl:a0m P cl) (h:∀L x,a4v (A L) some=some x→bd P cl s.h f sh L=some x) (hk:∀L,(a16 sh L).mem.length=kb:=by intro L;rfl):c1d P f sh A:=
 a7a fun L x hx=>a86 (n:=200) hP hcl s.ok (hk L) (h L x hx)
theorem c1d.to {P:Program} {cl:a0i} {f:FuncId} {sh:Sh} {A:List Lf→List (Bool×Res)} (h:c1d P f sh A) (hcl:a0m P cl) (he:a6G P f=true:=by kernel_rfl):a0m P (ext f (e3b sh A) cl):=e0S hcl (enters_of he) h
def b6C (P:Program) (T:CK→D→Prop) (e:TypeId) (x:D):Prop:=
 if a0d P e=true then∃cs,x= .a cs∧All2 T (kinds P e) cs else∃k,kinds P e=[k]∧T k x
def TyK (P:Program):Nat→CK→D→Prop
 |0,_,_=>False
 |n+1,k,d=>match k with
  | .int k=>∃i,d= .i i∧(Lit.int k i).wf=true
  | .bool=>∃b,d= .b b
  | .str=>∃s,d= .s s∧s.length≤maxLen
  | .sl e=>∃nl xs,d= .l nl xs∧(nl=true→xs=[])∧xs.length≤maxLen∧ ∀x∈xs,b6C P (TyK P n) e x
  | .oth=>False
def c2O (P:Program):Nat→List Field→Nat→Bool
 |o,[],n=>Nat.beq o n
 |o,f::r,n=>Nat.beq f.offset o&&c2O P (o+a0a P f.type) r n
def b1N (P:Program):Nat→TypeId→Bool
 |0,_=>false
 |n+1,T=>match P.underlying T with
  |some (.int _)|some .bool|some .string|some (.slice _)=>true
  |some (.struct fs)=>c2O P 0 fs.toList (a0a P T)&&fs.toList.all fun f=>b1N P n f.type&&Nat.beq (a0a P f.type) (a00 P n f.type).length
  |some (.array len e)=>Nat.beq (a0a P T) (len*a0a P e)&&b1N P n e&&Nat.beq (a0a P e) (a00 P n e).length
  |_=>false
section
variable {H:Type} {enc:TypeId×Value→H} {P:Program} {w:World} {spare:Nat→Bool} {held:Bool}
def Sw (w:World):a0A:=fun b _=>b<w.heap.size
def RT (P:Program) (w:World) (m:Nat) (kd:CK×D) (v:Value):Prop:=TyK P m kd.1 kd.2∧a1D P w (Sw w) kd.1 kd.2 v
theorem a88 {α β:Type} {f:α→Option β}:∀{l:List α} {r:List β},l.mapM f=some r→All2 (fun x y=>f x=some y) l r
 | [],r,h=>by simp at h;subst h;trivial
 |x::l,r,h=>by
  simp only [List.mapM_cons,Option.bind_eq_bind,Option.bind_eq_some_iff,Option.pure_def,e55] at h;obtain ⟨y,h1,ys,h2,rfl⟩:=h;exact ⟨h1,a88 h2⟩
theorem b1v {n:Nat}:∀{fs:List Field} {o:Nat} {cs:List Value} {kds:Field→List (CK×D)→Prop} {R:CK×D→Value→Prop},c2O P o fs n=true→cs.length=n→
  (∀f∈fs,∃l,kds f l∧All2 R l ((cs.drop f.offset).take (a0a P f.type))∧l.length=a0a P f.type)→ ∃ls:List (List (CK×D)),All2 kds fs ls∧All2 R ls.flatten (cs.drop o)
 | [],o,cs,kds,R,hc,hl,_=>by
  have:=e56 hc;refine ⟨[],trivial,?_⟩;rw [List.drop_eq_nil_of_le (by omega)]
  trivial
 | f::r,o,cs,kds,R,hc,hl,h=>by
  simp only [c2O,e57] at hc;have ho:=e56 hc.1;obtain ⟨l,h1,h2,h3⟩:=h f (by simp)
  obtain ⟨ls,h4,h5⟩:=b1v hc.2 hl fun g hg=>h g (by simp [hg])
  refine ⟨l::ls,⟨h1,h4⟩,?_⟩;rw [List.flatten_cons];have:cs.drop o=(cs.drop f.offset).take (a0a P f.type)++cs.drop (o+a0a P f.type):=by
   rw [ho,←List.drop_drop,List.take_append_drop]
  rw [this];exact h2.append h5
theorem b9h {g:Field→List CK}:∀{fs:List Field} {ls:List (List (CK×D))},All2 (fun f l=>l.map Prod.fst=g f) fs ls→(ls.map (List.map Prod.fst)).flatten=fs.flatMap g
 | [],[],_=>rfl
 |f::fs,l::ls,h=>by simp only [List.map_cons,List.flatten_cons,List.flatMap_cons,b9h h.2,h.1]
 | [],_::_,h=>h.elim
 |_::_,[],h=>h.elim
theorem c2P {n:Nat} {T:TypeId} (hf:b1N P (n+1) T=true) (ha:a0d P T=false):∃k,a00 P (n+1) T=[k]:=by
 unfold b1N at hf;unfold a0d at ha;unfold a00;split at hf<;>rename_i hu<;>simp only [hu] at ha⊢<;>first|exact ⟨_,rfl⟩|(cases ha;done)|(cases hf;done)
theorem d0q {m':Nat} {e:TypeId} {cs:List Value} {kds:List (CK×D)} (q1:b1N P 12 e=true) (hk:kds.map Prod.fst=kinds P e) (h:All2 (RT P w m') kds cs):
  ∃x:D,b6C P (TyK P m') e x∧(∀(j:Nat) (k:CK),(kinds P e)[j]? =some k→ ∃v,cs[j]? =some v∧a1D P w (Sw w) k (elD P e x j) v)∧((a0d P e=true∧x= .a (kds.map Prod.snd))∨(a0d P e=false∧kds.map Prod.snd=[x])):=by
 have hty:All2 (TyK P m') (kinds P e) (kds.map Prod.snd):=by
  rw [←hk];refine .of_get (by simp) fun j x y hx hy=> ?_
  rw [List.getElem?_map] at hx hy;obtain ⟨kd,h1,rfl⟩:=Option.map_eq_some_iff.1 hx;rw [h1] at hy;cases hy;obtain ⟨v,_,hv⟩:=h.get h1;exact hv.1
 have hre:∀(j:Nat) (k:CK),(kinds P e)[j]? =some k→ ∃v,cs[j]? =some v∧a1D P w (Sw w) k ((kds.map Prod.snd).getD j (.i 0)) v:=by
  intro j k hj;rw [←hk,List.getElem?_map] at hj;obtain ⟨kd,h1,rfl⟩:=Option.map_eq_some_iff.1 hj;obtain ⟨v,h2,hv⟩:=h.get h1;refine ⟨v,h2,?_⟩;rw [e6d,List.getElem?_map,h1];exact hv.2
 by_cases ha:a0d P e=true
 ·refine ⟨.a (kds.map Prod.snd),?_,fun j k hj=> ?_,.inl ⟨ha,rfl⟩⟩
  ·unfold b6C;rw [if_pos ha];exact ⟨_,rfl,hty⟩
  ·unfold elD;rw [ha];exact hre j k hj
 ·have ha:=eq_false_of_ne_true ha
  obtain ⟨k0,hk0⟩:=c2P q1 ha;have hk0:kinds P e=[k0]:=hk0;have hl:=hty.length;rw [hk0] at hl hty hre;match hq:kds.map Prod.snd,hl with
  | [x],_=>
   rw [hq] at hty hre;refine ⟨x,?_,fun j k hj=> ?_,.inr ⟨ha,rfl⟩⟩
   ·unfold b6C;rw [ha];exact ⟨k0,hk0,hty.1⟩
   ·unfold elD;rw [ha]
    rw [hk0] at hj;obtain ⟨v,h1,h2⟩:=hre j k hj;refine ⟨v,h1,?_⟩;cases j with
    |zero=>exact h2
    |succ j=>simp at hj
end
def mkZ:List CK→List D→List C
 |k::ks,d::ds=>mkC k d::mkZ ks ds
 |_,_=>[]
def e0r (P:Program) (T:TypeId) (ds:List D):V:=
 bif a0d P T then .g (mkZ (kinds P T) ds) else match mkZ (kinds P T) ds with
  |x::_=> .c x
  | []=> .c .u
def d0r (P:Program):List TypeId→List (List D)→List V
 |T::Ts,ds::dss=>e0r P T ds::d0r P Ts dss
 |_,_=>[]
def b0z (P:Program) (m:Nat) (T:TypeId) (ds:List D):Prop:=All2 (TyK P m) (kinds P T) ds
theorem a0B {α β:Type} {R:α→β→Prop} {x:α} {xs:List α} {ys:List β} (h:All2 R (x::xs) ys):∃y r,ys=y::r∧R x y∧All2 R xs r:=by
 cases ys with
 |nil=>exact h.elim
 |cons y r=>exact ⟨y,r,rfl,h.1,h.2⟩
theorem a4C {α β:Type} {R:α→β→Prop} {ys:List β} (h:All2 R [] ys):ys=[]:=by
 cases ys with
 |nil=>rfl
 |cons=>exact h.elim
def stB (P:Program) (T:TypeId):Bool:=P.readableRec T&&decide (T<P.types.size)
theorem d5r {P:Program} {env:Env} {S:a0A} {w:World} {k:CK} {d:D} {v:Value} (h:a1D P w S k d v):a0j P env S w (mkC k d) v:=by
 cases h with
 |int k d=>rfl
 |bool d=>rfl
 |str d=>rfl
 |oth d=>exact a8N (.oth d)
 |nil e d h1 h2=>exact .nil e _ h1 h2
 |emp e d a cap h1 h2 hm=>exact .emp e _ a cap h1 h2 hm
 |sl e d b off cap cv h1 h2 hl hm h3 h4=>exact .sl e (.l d.isNil d.items) b off cap cv h1 h2 hl hm h3 h4
theorem c7a {P:Program} {env:Env} {S:a0A} {w:World} {m:Nat}:∀{kds:List (CK×D)} {cs:List Value},All2 (RT P w m) kds cs→a0y w (Sw w) w S→All2 (a0j P env S w) (mkZ (kds.map Prod.fst) (kds.map Prod.snd)) cs
 | [],[],_,_=>trivial
 |x::r,y::s,h,hk=>⟨d5r (h.1.2.mono hk),c7a h.2 hk⟩
 | [],_::_,h,_=>h.elim
 |_::_,[],h,_=>h.elim
section
variable {H:Type} {enc:TypeId×Value→H} {P:Program} {W:World}
theorem d0s {env:Env} {S:a0A} {base:Nat} {T:TypeId} {v:Value} {kds:List D} (p1:b1N P 12 T=true) (ho:Value.okWide P W .any base T v) (hz:All2 (a0j P env S W) (mkZ (kinds P T) kds) v.cells.toList):a0s P env S W (e0r P T kds) v:=by
 unfold e0r;by_cases ha:a0d P T=true
 ·rw [cond_true ha]
  have:∃cs,v= .agg cs:=by
   unfold a0d at ha;unfold Value.okWide at ho;split at ho
   ·obtain ⟨cs,h1,_⟩:=ho;exact ⟨cs,h1⟩
   ·obtain ⟨cs,h1,_⟩:=ho;exact ⟨cs,h1⟩
   ·rename_i q1 q2
    split at ha
    ·rename_i hu;exact absurd hu (q1 _)
    ·rename_i hu;exact absurd hu (q2 _ _)
    ·cases ha
  obtain ⟨cs,rfl⟩:=this;exact ⟨cs,rfl,hz⟩
 ·have ha:=eq_false_of_ne_true ha
  rw [cond_false ha];obtain ⟨k0,hk0⟩:=c2P p1 ha;have hk0:kinds P T=[k0]:=hk0;have hv:v.cells.toList=[v]:=by
   cases v with
   | agg cs=>
    exfalso;unfold a0d at ha;unfold Value.okWide at ho;split at ho
    ·rename_i hu;simp [hu] at ha
    ·rename_i hu;simp [hu] at ha
    ·unfold Cell.okWide at ho
     split at ho<;>(try rename_i hq)<;>(try cases hq)
     unfold Cell.ok at ho;split at ho<;>(try rename_i hq)<;>(try cases hq)<;>exact ho
   |_=>rfl
  rw [hv] at hz;generalize hzz:mkZ (kinds P T) kds=z at hz;match z,hz with
  | [x],hz=>exact hz.1
theorem b3S {W':World} {sp:Nat→Bool} (hl:laidOutB P=true) (hb:RowKit.Below W.heap.size W W'):∀{Ts:List TypeId} {vs:List Value} {ds:List (DataW H)} {ps:List MemPlace},(∀T∈Ts,stB P T=true)→DataW.TrodAll enc P W 0 (fun _=>true) true Ts vs ds ps→
  (∀p∈ps,p.block<W.heap.size)→(∀p∈ps,sp p.block=true)→DataW.TrodAll enc P W' 0 sp true Ts vs ds ps
 | [],vs,ds,ps,_,h,_,_=>by
  obtain ⟨rfl,rfl,rfl⟩:=ChangeShapes.trodAll_nil h;rfl
 | T::Ts,vs,ds,ps,hp,h,hlt,hs=>by
  obtain ⟨v,vs1,d,ds1,a,b,rfl,rfl,rfl,h1,h2⟩:=ChangeShapes.trodAll_cons h;have hT:=hp T (by simp)
  unfold stB at hT;simp only [e57,decide_eq_true_eq] at hT;exact ⟨a,b,WideElems.Trod_stays hl hT.1 hT.2 h1 (fun x hx=>hb.same (hlt x (List.mem_append_left _ hx))) (fun x hx=>hs x (List.mem_append_left _ hx)),
   b3S hl hb (fun T hT=>hp T (by simp [hT])) h2 (fun x hx=>hlt x (List.mem_append_right _ hx)) (fun x hx=>hs x (List.mem_append_right _ hx)),rfl⟩
theorem d0t {W':World} {f:Func} {s:ChangeSpec} {apart a0o handsOn again:Bool} {args:Array Value} {ds gs:List (DataW H)} {before:List MemPlace} {tb:TypeId} (hl:laidOutB P=true) (hvars:s.vars=[])
  (hres:f.resultTypes= #[tb]) (htb:P.underlying tb=some .bool) (hpar:∀T∈f.params.toList,stB P T=true) (hs:∀l,l.length=f.params.size→s.fn H l={results:=[.lit (.bool true)],args:=l})
  (hW:DataW.Whole enc P f.params.toList s.vars apart W args.toList ds gs before) (hb:RowKit.Below W.heap.size W W'):s.post enc P f apart a0o handsOn again W args (.bool true) W':=by
 have hlt:=hW.lt;obtain ⟨p,q,h1,h2,h3,h4,h5⟩:=hW;rw [hvars] at h2;have e2:gs=[]∧q=[]:=by
  cases gs with
  |nil=>exact ⟨rfl,h2⟩
  |cons=>exact h2.elim
 obtain ⟨rfl,rfl⟩:=e2;rw [List.append_nil] at h3;subst h3;have len:∀{Ts:List TypeId} {vs:List Value} {ds:List (DataW H)} {ps:List MemPlace},DataW.TrodAll enc P W 0 (fun _=>true) true Ts vs ds ps→ds.length=Ts.length:=by
  intro Ts;induction Ts with
  |nil=>intro vs ds ps h;obtain ⟨rfl,rfl,rfl⟩:=ChangeShapes.trodAll_nil h;rfl
  |cons T Ts ih=>
   intro vs ds ps h;obtain ⟨v,vs1,d,ds1,a,b,rfl,rfl,rfl,_,h⟩:=ChangeShapes.trodAll_cons h;simp [ih h]
 have hs:=hs (ds++[]) (by rw [List.append_nil,len h1];simp)
 rw [List.append_nil] at hs;have hone:∀(b:Nat) (sp:Nat→Bool) (hd:Bool),DataW.Trod enc P W' b sp hd tb (.bool true) (.lit (.bool true)) []:=fun b sp hd=>⟨1,by simp [DataW.trod,htb,Value.cells]⟩
 have hresl:((Value.bool true).resultList f.resultTypes.size)=[.bool true]:=by rw [hres];rfl
 refine ⟨ds,[],before,[],before,[],⟨before,[],h1,by rw [hvars];rfl,by simp,h4,h5⟩,?_,?_,?_,hb.frame _,fun _=>⟨?_,ds|>.cons (.lit (.bool true)),[],before,?_,fun x hx _=>hx⟩⟩
 ·rw [List.append_nil,hs,hresl,hres]
  exact ⟨[],[],hone _ _ _,rfl,rfl⟩
 ·rw [List.append_nil,hs]
  exact b3S hl hb hpar h1 hlt fun x hx=>decide_eq_true (hlt x hx)
 ·rw [List.append_nil,hs,hvars];rfl
 ·intro j t r hj hv'
  rw [hresl] at hv';rw [hres] at hj;cases j with
  |zero=>
   simp at hj hv';subst hj hv';simp [Value.okWide,htb,Cell.okWide,Cell.ok]
  |succ j=>simp at hj
 ·refine ⟨before,[],?_,by rw [hvars];rfl,by simp,?_,h5⟩
  ·rw [hresl,hres]
   exact ⟨[],before,hone _ _ _,b3S hl hb hpar h1 hlt fun x hx=>rfl,rfl⟩
  ·intro b off hx
   rw [hb.frozen (p:=⟨b,off,none⟩) (hlt _ hx)];exact h4 b off hx
theorem d5s {f:FuncId} {fn:Func} {s:ChangeSpec} {apart a0o handsOn again:Bool} {tb:TypeId} (hl:laidOutB P=true) (hvars:s.vars=[])
  (hres:fn.resultTypes= #[tb]) (htb:P.underlying tb=some .bool) (hst:∀T∈fn.params.toList,stB P T=true) (hs:∀l,l.length=fn.params.size→s.fn H l={results:=[.lit (.bool true)],args:=l})
  {avs:List V} (hc:a2z P f avs [] ([.c (.b true)],[])) (hgi:∀{M:a0A},(∀b o,¬M b o)→GI P M W) {args:Array Value}
  (d2:All2 (a0s P (fun _=>⟨0,0,none⟩) (Sof P (Sw W) (a3g P (fun _=>⟨0,0,none⟩) []) W.heap.size (fun _=>⟨0,0,none⟩) [] W) W) avs args.toList) {ds gs:List (DataW H)} {before:List MemPlace}
  (hW:DataW.Whole enc P fn.params.toList s.vars apart W args.toList ds gs before):Calls P f args W fun e W'=>∃v,e= .returned v∧s.post enc P fn apart a0o handsOn again W args v W':=by
 let env:Env:=fun _=>⟨0,0,none⟩
 have hpre:b0u P (Sw W) env [] W:=⟨⟨rfl,fun k o h=>(by cases h),fun k k' o o' h=>(by cases h),fun k o b x h=>(by cases h),fun k e ex xs h=>(by cases h),Chg.refl _ W,fun b o h=>h,fun _ _=>rfl,hgi fun b o ⟨k,ob,hg,_⟩=>(by cases hg)⟩,fun k o h=>(by cases h)⟩
 refine (hc (Sw W) env W args hpre d2).mono fun e W' ⟨v,he,env',hm,hv'⟩=>⟨v,he,?_⟩
 have hno:∀b o,¬a3g P env [] b o:=fun b o ⟨k,ob,hg,_⟩=>by cases hg
 have hb:RowKit.Below W.heap.size W W':=⟨hm.ch.os,hm.ch.tape,hm.ch.output,hm.ch.size,fun k hk=>by
  have hs:=Array.getElem?_eq_getElem hk;rw [hs];exact hm.ch.other k _ hs (hno k)⟩
 have:v= .bool true:=hv';subst this;exact d0t hl hvars hres htb hst hs hW hb
end
theorem a0b {A R:Type} (e:A) (f:A→R):bnd e f=f e:=rfl
theorem a0u {x:Int} (h1: -9223372036854775808≤x) (h2:x≤9223372036854775807):IntKind.wrap .i64 x=x:=by rw [IntKind.wrap_i64];omega
theorem a0D {i:Int} {n:Nat} (h1:0≤i) (h2:i<n):inB i n=true:=by unfold inB;rw [decide_eq_true h1,decide_eq_true h2];rfl
theorem a5P {A X:Type} {S:A→(A→X)→X} {L:Nat→A→X} (hL:∀m a,L (m+1) a=S a (L m)) (spec:A→X) (Inv:A→Prop) (μ:A→Nat)
  (h:∀a kr,Inv a→(∀a',Inv a'→μ a'<μ a→kr a'=spec a')→S a kr=spec a):∀(m:Nat) (a:A),Inv a→μ a<m→L m a=spec a:=by
 intro m;induction m with
 |zero=>intro a _ h;omega
 |succ m ih=>intro a ha hm;rw [hL];exact h a (L m) ha fun a' h1 h2=>ih a' h1 (by omega)
theorem a2I {α:Type} (d:α) {xs:List α} {w:Int} (h0:0≤w) (h1:w<xs.length):xs.drop w.toNat=xs.getD w.toNat d::xs.drop (w+1).toNat:=by
 have e:(w+1).toNat=w.toNat+1:=by omega
 have hl:w.toNat<xs.length:=by omega
 rw [e,List.drop_eq_getElem_cons hl,e6d,e6j hl];rfl
theorem a2f {α:Type} {xs:List α} {w:Int} (h1:¬w<xs.length):xs.drop w.toNat=[]:=List.drop_eq_nil_of_le (by omega)
theorem a03 {α X:Type} {xs:List α} (d:α) {S:Int→(Int→X)→X} {L:Nat→Int→X} (hL:∀m a,L (m+1) a=S a (L m)) (spec:Int→List α→X) (hlen:xs.length≤maxLen)
  (hend:∀kr,S xs.length kr=spec xs.length [])
  (hstep:∀(w:Int) (kr:Int→X),0≤w→w<xs.length→IntKind.wrap .i64 (w+1)=w+1→inB w xs.length=true→kr (w+1)=spec (w+1) (xs.drop (w+1).toNat)→S w kr=spec w (xs.getD w.toNat d::xs.drop (w+1).toNat))
  {N:Nat} (hN:maxLen<N):L N 0=spec 0 xs:=by
 have hm:maxLen=9223372036854775807:=rfl;have:=a5P hL (fun w=>spec w (xs.drop w.toNat)) (fun w=>0≤w∧w≤xs.length) (fun w=>(xs.length-w).toNat) (fun w kr ⟨h0,h1⟩ ih=>by
  by_cases hw:w<xs.length
  ·rw [a2I d h0 hw]
   exact hstep w kr h0 hw (a0u (by omega) (by omega)) (a0D h0 hw) (ih (w+1) ⟨by omega,by omega⟩ (by omega))
  ·have:w=xs.length:=by omega
   subst this;rw [a2f (by omega)]
   exact hend kr) N 0 ⟨Int.le_refl _,by omega⟩ (by omega)
 simpa using this
theorem b5F {R:Type} {c c':Bool} {x y:R} (h:c=c'):(bif c then x else y)=(bif c' then x else y):=by rw [h]
theorem a0H {A B:Type} (a:A):a0U (some (Sum.inl a:Sum A B))=true:=rfl
theorem a0q {A B:Type} (b:B):a0U (some (Sum.inr b:Sum A B))=false:=rfl
theorem a0M {A B:Type} [Inhabited A] (a:A):a1E (some (Sum.inl a:Sum A B))=a:=rfl
theorem a0r {A B:Type} (b:B):a0n (some (Sum.inr b:Sum A B))=some b:=rfl
theorem getD_some {A:Type} (a d:A):(some a).getD d=a:=rfl
section
variable {P:Program} {N n0 kb:Nat} {F:Nat→Prop} {B M0:a0A} {w0:World} {e0:a6l} {env:Env} {st:St} {a:Act} {w:World}
theorem Rel.unbase (h:Rel P N n0 B M0 w0 F e0 env st a w) {F':Nat→Prop} (hF:∀k,F k→F' k) {env':Env} {out:St} {a':Act} {w':World}
  (hin:Rel P N w.heap.size (Sof P B M0 n0 env st.mem w) (a3g P env st.mem) w F' ⟨env,a.defers⟩ env' out a' w'):Rel P N n0 B M0 w0 F e0 env' out a' w':=by
 have hback:∀b x,a3g P env st.mem b x→M0 b x∨n0≤b:=fun b x ⟨k,ob,g,q⟩=>h.mu k ob b x g q
 have hS1:a0y w' (Sof P (Sof P B M0 n0 env st.mem w) (a3g P env st.mem) w.heap.size env' out.mem w') w' (Sof P B M0 n0 env' out.mem w'):=by
  intro b x u hS hcell;refine ⟨⟨?_,hS.2.1,hS.2.2⟩,hcell⟩;rcases hS.1 with h1|h1|h1
  ·exact h1.1
  ·exact .inr (.inl (Nat.le_trans h.n0le h1))
  ·rcases hback b x h1 with h2|h2
   ·exact .inr (.inr h2)
   ·exact .inr (.inl h2)
 have hdfr:a1Y n0 w' e0.D a'.defers:=h.dfr.join hin.dfr h.n0le fun b hb=>hin.ch.other b _ hb fun x ⟨k,ob,g,q⟩=>b0o (h.ob k ob g) q hb
 refine ⟨hin.size,hdfr,h.hn0,fun t x hx=>a0l.mono hS1 (fun _=>rfl) (hin.tm t x hx),fun key o hg=>a1d hS1 (fun _=>rfl) (hin.ob key o hg),hin.ds,?_,?_,?_,h.bb,fun k hk=>(hin.fx k (hF k hk)).trans (h.fx k hk),h.gi⟩
 ·intro key o b x hg hm
  rcases hin.mu key o b x hg hm with h1|h1
  ·exact hback b x h1
  ·exact .inr (Nat.le_trans h.n0le h1)
 ·intro key e ex xs hg o ho
  rcases hin.pr key e ex xs hg o ho with h1|h1|h1
  ·exact h1.1
  ·exact .inr (.inl (Nat.le_trans h.n0le h1))
  ·rcases hback _ _ h1 with h2|h2
   ·exact .inr (.inr h2)
   ·exact .inr (.inl h2)
 ·refine Chg.trans h.ch hin.ch fun b o hm=> ?_
  rw [←h.hn0];exact hback b o hm
def Left (F:Nat→Prop) (env:Env) (mem:AL Obj) (w:World) (env':Env) (mem':AL Obj) (w':World):Prop:=
 w.heap.size≤w'.heap.size∧(∀k,F k→env' k=env k)∧ ∀b ob,w.heap[b]? =some ob→Off env mem b→w'.heap[b]? =some ob∧Off env' mem' b
theorem d5t (h:Rel P N n0 B M0 w0 F e0 env st a w) {F':Nat→Prop} {env':Env} {out:St} {a':Act} {w':World} (hfull:a2V out.mem=true)
  (hin:Rel P N w.heap.size (Sof P B M0 n0 env st.mem w) (a3g P env st.mem) w F' ⟨env,a.defers⟩ env' out a' w'):Left F' env st.mem w env' out.mem w':=by
 refine ⟨hin.ch.size,hin.fx,fun b ob hb hoff=> ?_⟩
 have hno:∀x,¬a3g P env st.mem b x:=fun x ⟨k,o,g,q⟩=>by
  obtain ⟨q1,q2⟩:=a1H q;exact hoff k o g q1 q2.symm
 refine ⟨hin.ch.other b ob hb hno,fun key o hg hr he=> ?_⟩
 have hf:∀{l:AL Obj} {key:Nat} {o:Obj},a2V l=true→get l key=some o→b54 o=true:=by
  intro l;induction l with
  |nil=>intro key o _ hg;cases hg
  |cons e r ih=>
   intro key o hl hg;obtain ⟨k,x⟩:=e;simp only [a2V,e57] at hl;simp only [get] at hg;cases hk:Nat.beq k key with
   |true=>rw [hk] at hg;simp only [cond_true,e55] at hg;subst hg;exact hl.1
   |false=>rw [hk] at hg;exact ih hl.2 hg
 obtain ⟨x,hx⟩:=c00 (P:=P) (s:=env' key) hr (hf hfull hg);rcases hin.mu key o _ x hg hx with h1|h1
 ·rw [he] at h1;exact hno x h1
 ·have:=(e6f.1 hb).1
  omega
def c7b:Ex→Exit
 | .normal=> .normal
 | .exit i=> .exit i
 | .ret=> .ret
theorem d5u {cl:a0i} {hs:a6Y} (hcl:a0m P cl) (hdr:a1k P cl) (hF:∀k,F k→k<kb) {n:Nat} {c:Code} {ts ks:List Nat} {ex:Ex} {out:St} (hok:okC N c=true) (hlo:∀b∈a0K c,b44 P hs kb b)
  (h:Rel P N n0 B M0 w0 F e0 env st a w) (hn:NoW st) (hk:a32 P cl hs kb n c st (fun e st=>some (e,a3N ts ks st))=some (ex,out)) (hfull:a2V out.mem=true):
  c.wp P (fun e a' w'=>e=c7b ex∧ ∃env',Rel P N n0 B M0 w0 F e0 env' out a' w'∧Left (· <kb) env st.mem w env' out.mem w') a w:=by
 have hb:=b12 h hn (m:=st) (fun _ _ e=>e) (fun _ _ e=>e) (· <kb)
 refine (wpIn_wide (n:=0)).1 (wpIn_mono (a44 (X:=c2J) trivial hcl hdr (fun k hk=>hk) n hok (fsW _) hlo hb hk Fence.wide 0 rfl) ?_)
 have fin:∀(e1:Ex) (a':Act) (w':World) (env':Env) (st':St),Rel P N w.heap.size (Sof P B M0 n0 env st.mem w) (a3g P env st.mem) w (· <kb) ⟨env,a.defers⟩ env' st' a' w'→some (e1,a3N ts ks st')=some (ex,out)→
   c7b e1=c7b ex∧ ∃env',Rel P N n0 B M0 w0 F e0 env' out a' w'∧Left (· <kb) env st.mem w env' out.mem w':=by
  intro e1 a' w' env' st' h1 h2;simp only [e55,e6q] at h2;obtain ⟨rfl,h3⟩:=h2;have h4:=a0L h1 ts ks;rw [h3] at h4;exact ⟨rfl,env',Rel.unbase h hF h4,d5t h hfull h4⟩
 intro e a' w' hp;cases e with
 |normal=>obtain ⟨env',st',h1,h2⟩:=hp;exact fin .normal a' w' env' st' h1 h2
 |exit i=>obtain ⟨env',st',h1,h2⟩:=hp;exact fin (.exit i) a' w' env' st' h1 h2
 |ret=>obtain ⟨env',st',h1,h2⟩:=hp;exact fin .ret a' w' env' st' h1 h2
 |_=>exact hp.elim
theorem a5a {ops:Array Oper} {Q:Exit→Act→World→Prop} {o:Oper} {rest:List Oper} {v:Value} {w':World} (hg:o.guard=none) (h:(execOp a.eval o).run P w= .ok (.value v) w') (hk:wpList P ops Q rest (a.put o.dst v) w'):wpList P ops Q (o::rest) a w:=by
 unfold wpList;rw [if_pos (by simp [Region.wanted,hg])]
 exact .inl (a0z h hk)
theorem d0u {ops:Array Oper} {Q:Exit→Act→World→Prop} {o:Oper} {rest:List Oper} {w':World} (hg:o.guard=none) (h:(execOp a.eval o).run P w= .ok .skip w') (hk:wpList P ops Q rest (a.put o.dst undef) w'):wpList P ops Q (o::rest) a w:=by
 unfold wpList;rw [if_pos (by simp [Region.wanted,hg])]
 exact .inl (b10 h hk)
theorem a4Q {ops:Array Oper} {Q:Exit→Act→World→Prop} {o:Oper} {rest:List Oper} (h:Rel P N n0 B M0 w0 F e0 env st a w) (hd:∀d,o.dst=some d→d<N) (hg:o.guard=none) {x:V} (hv:c4G P st.mem (evu st) (evw st) o=some (true,x))
  (hk:∀v,a0s P env (Sof P B M0 n0 env st.mem w) w x v→Rel P N n0 B M0 w0 F e0 env (st.put o.dst x) (a.put o.dst v) w→wpList P ops Q rest (a.put o.dst v) w):wpList P ops Q (o::rest) a w:=by
 obtain ⟨v,h1,h2⟩:=b8C h.ob h.rows h.evu h.evw hv;exact a5a hg h1 (hk v h2 (h.put hd (a0l.of h2)))
end
section
variable {P:Program} {N n0 kb n:Nat} {F:Nat→Prop} {B M0:a0A} {w0:World} {e0:a6l} {env:Env} {st:St} {a:Act} {w:World} {Fe:Fence}
theorem Rel.grow (h:Rel P N n0 B M0 w0 F e0 env st a w) (l:Nat) {rc:Loop} (hl0:w0.heap[l]? =some (.loop rc)):Rel P N n0 B (fun b o=>M0 b o∨b=l) w0 F e0 env st a w:=by
 have hk:a0y w (Sof P B M0 n0 env st.mem w) w (Sof P B (fun b o=>M0 b o∨b=l) n0 env st.mem w):=fun b o v hS hv=>
  ⟨⟨hS.1.imp id (fun q=>q.imp id .inl),hS.2.1,hS.2.2⟩,hv⟩
 refine ⟨h.size,h.dfr,h.hn0,fun t x hx=>a0l.mono hk (fun _=>rfl) (h.tm t x hx),fun key o hg=>a1d hk (fun _=>rfl) (h.ob key o hg),h.ds,fun key o b x hg hm=>(h.mu key o b x hg hm).imp .inl id,
  fun key e ex xs hg o ho=>(h.pr key e ex xs hg o ho).imp id (fun q=>q.imp id .inl),⟨h.ch.os,h.ch.tape,h.ch.output,h.ch.size,fun b cur T fr hb=> ?_,fun b ob hb hno=>h.ch.other b ob hb fun o hm=>hno o (.inl hm)⟩,h.bb,h.fx,fun x hx g hg=> ?_⟩
 case refine_2=>
  obtain ⟨q1,cur,T,fr,q2,q3⟩:=h.gi x hx g hg;exact ⟨fun o hm=>hm.elim (q1 o) fun e=>(by subst e;rw [hl0] at q2;cases q2),cur,T,fr,q2,q3⟩
 obtain ⟨c',fr',h1,h2,h3,h4⟩:=h.ch.cells b cur T fr hb;exact ⟨c',fr',h1,h2,fun o ho=>h3 o fun hm=>ho (.inl hm),h4.imp id fun q o=> .inl (q o)⟩
theorem Rel.shrink {l:Nat} {rc:Loop} (h:Rel P N n0 B (fun b o=>M0 b o∨b=l) w0 F e0 env st a w) (hl:w.heap[l]? =some (.loop rc)) (hl0:w0.heap[l]? =some (.loop rc)):Rel P N n0 B M0 w0 F e0 env st a w:=by
 have hoff:=Off.other h hl (fun _ _ _ e=>by cases e) (fun _ _ e=>by cases e)
 have hk:a0y w (Sof P B (fun b o=>M0 b o∨b=l) n0 env st.mem w) w (Sof P B M0 n0 env st.mem w):=by
  intro b o v hS hv;have hne:b≠l:=by
   rintro rfl;obtain ⟨cur,T,fr,q,_⟩:=a4Y hv;rw [hl] at q;cases q
  refine ⟨⟨?_,hS.2.1,hS.2.2⟩,hv⟩;rcases hS.1 with q|q|q|q
  ·exact .inl q
  ·exact .inr (.inl q)
  ·exact .inr (.inr q)
  ·exact absurd q hne
 refine ⟨h.size,h.dfr,h.hn0,fun t x hx=>a0l.mono hk (fun _=>rfl) (h.tm t x hx),fun key o hg=>a1d hk (fun _=>rfl) (h.ob key o hg),h.ds,fun key o b x hg hm=> ?_,
  fun key e ex xs hg o ho=> ?_,⟨h.ch.os,h.ch.tape,h.ch.output,h.ch.size,fun b cur T fr hb=> ?_,fun b ob hb hno=> ?_⟩,h.bb,h.fx,fun x hx g hg=>(let ⟨q1,q⟩:=h.gi x hx g hg;⟨fun o hm=>q1 o (.inl hm),q⟩)⟩
 ·rcases h.mu key o b x hg hm with (q|q)|q
  ·exact .inl q
  ·obtain ⟨q1,q2⟩:=a1H hm
   exact absurd (q2.symm.trans q) (hoff key o hg q1)
  ·exact .inr q
 ·rcases h.pr key e ex xs hg o ho with q|q|q|q
  ·exact .inl q
  ·exact .inr (.inl q)
  ·exact .inr (.inr q)
  ·exact absurd q (hoff key _ hg rfl)
 ·have hne:b≠l:=by rintro rfl;rw [hl0] at hb;cases hb
  obtain ⟨c',fr',h1,h2,h3,h4⟩:=h.ch.cells b cur T fr hb;refine ⟨c',fr',h1,h2,fun o ho=>h3 o fun hm=>hm.elim ho hne,h4.imp id fun q o=>(q o).elim id fun e=>absurd e hne⟩
 ·by_cases hne:b=l
  ·subst hne;rw [hl0] at hb;rw [hl];exact hb
  ·exact h.ch.other b ob hb fun o hm=>hm.elim (hno o) hne
end
end Go.AM
end
