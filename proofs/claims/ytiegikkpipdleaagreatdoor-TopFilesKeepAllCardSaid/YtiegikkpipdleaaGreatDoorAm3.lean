/- The statement of a range over a function, by the machine. -/
import Derived.Test.YtiegikkpipdleaaGreatDoorAm2
import Derived.ControlIn
import Derived.OrdersIn
import Derived.RangeFuncCalls
import Derived.Deep.LoopGhost
import Derived.Maps.RangeRun
import Derived.RangeFuncRecord
import Derived.CallsIn
import Derived.Orders
import Derived.KernelRfl
import Derived.ProofKit
import Derived.Carry
import Derived.ChangeSame
import Derived.IntWalk
import Derived.RangeFuncIn
import Derived.TacticsIn
set_option linter.all false
set_option maxRecDepth 100000
set_option maxHeartbeats 4000000
noncomputable section
namespace Go.AM
open Go
section
variable {P:Program} {N n0 kb:Nat} {F:Nat→Prop} {B M0:a0D} {w0:World} {e0:a5i} {env:Env} {st:St} {a:Act} {w:World}
theorem b3F {α β γ:Type} {R:β→γ→Prop} {f:α→β} {g:α→γ}:∀{l:List α},(∀x∈l,R (f x) (g x))→All2 R (l.map f) (l.map g)
 | [],_=>trivial
 |x::l,h=>⟨h x (by simp),b3F fun y hy=>h y (by simp [hy])⟩
theorem a6c {S:a0D} {k:CK} {d:D} {v:Value} (h:a1o P w S k d v) (hn:d.isNil=true):(∃e,k= .sl e)→v= .slice none 0 0:=by
 intro he;cases h with
 |nil=>rfl
 |emp e d a cap h1=>rw [hn] at h1;cases h1
 |sl e d b off cap cv h1=>rw [hn] at h1;cases h1
 |_=>obtain ⟨e,he⟩:=he;cases he
theorem c04 {fn:Nat} {vs:List Value}:fnW false fn vs= .func (.func fn) #[] vs.toArray:=rfl
theorem d8Z {fn:Nat} {vs:List Value}:fnW true fn vs= .func (.func (fn-bm)) vs.toArray #[]:=rfl
theorem e24 {fn:Nat} {α:Type} {caps:List α} {b:Bool} (h:a1Y fn caps=b):f3W fn caps=bif b then fn-bm else fn:=by unfold f3W;rw [h]
theorem c05 {fn:Nat} {α β:Type} {caps:List α} {xs ys:List β} {b:Bool} (h:a1Y fn caps=b):c3E fn caps xs ys=bif b then ys++xs else xs++ys:=by unfold c3E;rw [h]
theorem d2f {o:Oper} {c:Call} {f:Operand} {g:FuncId} {us:Array Value} (ho:o.op= .call c) (hc:c.callee= .value f) (hv:a.eval f= .func (.func g) us #[]) (he:a72 P g):
  (execOp a.eval o).run P w= .ok (.enter g (us++c.args.map a.eval)) w:=by
 simp only [execOp,ho,resolve,hc,hv,Deferred.ofValue,f6D,f6E,f6A,invoke];rw [Array.append_empty];exact b05 he
theorem c8C {fn:Nat} {α:Type}:a1Y fn ([]:List α)=false:=rfl
theorem c06 {R:Type} {d:Nat} {c:Call} {s x:Operand} {T T':TypeId} {k:St→Option R} {r:R} {o:Oper} {Q:Exit→Act→World→Prop} {el:TypeId} {ys:List D}
  (h:Rel P N n0 B M0 w0 F e0 env st a w) (hd:d<N) (hF:¬F (kb+d)) (ho:o.op= .call c) (hdst:o.dst=some d) (hc:c.callee= .builtin .append) (ha:c.args.toList=[s,x]) (ht:c.argTypes.toList=[T,T']) (hT:T=T')
  (hel:a0j P T=some el) (hz:(a2H P el).isNone=false) (hys:e8A st.mem el (evu st x)=some ys)
  (hk : (match evu st s with
      | .c (.o key)=>(match get st.mem key with
       | some (.row el' ex nl xs)=>bif Nat.beq el el'&&a0Z P el (xs.length+ys.length) then
         k ((a0r (kb+d) (.row el ex (ys.isEmpty&&nl) (xs++ys)) {st with mem:=del st.mem key}).put (some d) (.c (.o (kb+d)))) else none
       | some (.krow el' i q c xs)=>bif Nat.beq el el'&&a0Z P el (xs.length+ys.length)&& !ys.isEmpty then
         k ((a0r (kb+d) (.krow el i q (inval (kb+d) c) (xs++ys)) {st with mem:=del st.mem key}).put (some d) (.c (.o (kb+d)))) else none
       |_=>none)
      | .c (.sl _ true [])| .c (.v (.slice none 0 0))=>bif a0Z P el ys.length then
        k ((a0r (kb+d) (.row el true ys.isEmpty ys) st).put (some d) (.c (.o (kb+d)))) else none
      | .c (.z el' n)=>bif Nat.beq el el'&&a0Z P el ys.length then (bif ys.isEmpty then k (st.put (some d) (.c (.sl el n []))) else
        k ((a0r (kb+d) (.row el true false ys) st).put (some d) (.c (.o (kb+d))))) else none
      |_=>none)=some r):o.wp P a w (a06 P N n0 B M0 w0 F e0 k r) Q:=by
 subst hT;have ha':c.args= #[s,x]:=by rw [←Array.toList_inj];exact ha
 have ht':c.argTypes= #[T,T]:=by rw [←Array.toList_inj];exact ht
 have hexec:∀{v:Value} {w':World},(Builtin.append_ #[T,T] o.type #[a.eval s,a.eval x]).run P w= .ok v w'→(execOp a.eval o).run P w= .ok (.value v) w':=by
  intro v w' hr;simp only [execOp,ho,resolve,hc,ha',ht',f6D,f6E,f6A,invoke,builtin,List.map_toArray,List.map_cons,List.map_nil,hr]
 obtain ⟨z,hz'⟩:=Option.isSome_iff_exists.1 (by rw [←Option.not_isNone,hz];rfl:(a2H P el).isSome=true)
 obtain ⟨zv,_,⟨i,hi,hiz⟩,hzs,_⟩:=a1d hz';have hsrc:=b6i h (h.evu x) hys;have es:=h.evu s;have fin:∀{v:Value} {w':World} {env':Env} {o':Obj} {mem0:AL Obj},(Builtin.append_ #[T,T] o.type #[a.eval s,a.eval x]).run P w= .ok v w'→Rel P N n0 B M0 w0 F e0 env' (a0r (kb+d) o' {st with mem:=mem0}) a w'→v=(env' (kb+d)).hdr→
   k ((a0r (kb+d) o' {st with mem:=mem0}).put (some d) (.c (.o (kb+d))))=some r→o.wp P a w (a06 P N n0 B M0 w0 F e0 k r) Q:=by
  intro v w' env' o' mem0 h1 h2 h3 h4;refine a0A (hexec h1) ?_;rw [hdst];exact ⟨env',_,h2.put (fun _ hdd=>by cases hdd;exact hd) (a0q.of (x:= .c (.o (kb+d))) h3),h4⟩
 have nilCase:a.eval s= .slice none 0 0→ ∀(mem0:AL Obj) (ex:Bool),(∀k ob,get mem0 k=some ob→get st.mem k=some ob)→a0Z P el ys.length=true→
   k ((a0r (kb+d) (.row el ex ys.isEmpty ys) {st with mem:=mem0}).put (some d) (.c (.o (kb+d))))=some r→o.wp P a w (a06 P N n0 B M0 w0 F e0 k r) Q:=by
  intro hs mem0 ex hsub hroom hkk;simp only [a0Z,f6z,decide_eq_true_eq] at hroom;obtain ⟨v,w',env',q1,q2,q3⟩:=a5e h hsub (ty:=o.type) hel hi hiz hzs hsrc hroom.1 hroom.2 (kb+d) hF ex;rw [←hs] at q1;exact fin q1 q2 q3 hkk
 split at hk
 ·rename_i key hkey
  rw [hkey] at es;have hsv:a.eval s=(env key).hdr:=es;split at hk
  ·rename_i el' ex nl xs hg
   cases hb:Nat.beq el el'&&a0Z P el (xs.length+ys.length) with
   |false=>rw [hb] at hk;cases hk
   | true=>
    rw [hb] at hk;simp only [cond_true] at hk;simp only [f6z] at hb;have:=f6y hb.1;subst this;have hroom:=hb.2;cases nl with
    | true=>
     obtain ⟨_,⟨_,rfl,hnil⟩|⟨hf,_⟩⟩:=h.ob _ _ hg
     ·rw [List.length_nil,Nat.zero_add] at hroom
      refine nilCase (hsv.trans hnil) (del st.mem key) ex (fun k ob hgk=>(a0B k ob hgk).2) hroom ?_
      simpa using hk
     ·cases hf
    |false=>
     simp only [a0Z,f6z,decide_eq_true_eq] at hroom;obtain ⟨v,w',env',q1,q2,q3⟩:=b1z h (ty:=o.type) hel hg hi hiz hzs hsrc hroom.1 hroom.2 (kb+d) hF;rw [←hsv] at q1;exact fin q1 q2 q3 (by simpa using hk)
  ·rename_i el' i q c xs hg
   cases hb:Nat.beq el el'&&a0Z P el (xs.length+ys.length)&& !ys.isEmpty with
   |false=>rw [hb] at hk;cases hk
   |true=>
    rw [hb] at hk;simp only [cond_true] at hk;simp only [f6z,Bool.not_eq_true'] at hb;have:=f6y hb.1.1;subst this;have hroom:=hb.1.2;simp only [a0Z,f6z,decide_eq_true_eq] at hroom;obtain ⟨v,w',env',q1,q2,q3⟩:=c0V h (ty:=o.type) hel hi hiz hzs hg hsrc hb.2 hroom.1 hroom.2 (kb+d) hF;rw [←hsv] at q1;exact fin q1 q2 q3 hk
  ·cases hk
 ·rename_i hsl
  rw [hsl] at es;cases hb:a0Z P el ys.length with
  |false=>rw [hb] at hk;cases hk
  |true=>
   rw [hb] at hk;refine nilCase ?_ st.mem true (fun _ _ hg=>hg) hb hk
   exact a6c es rfl ⟨_,rfl⟩
 ·rename_i hsl
  rw [hsl] at es;cases hb:a0Z P el ys.length with
  |false=>rw [hb] at hk;cases hk
  |true=>
   rw [hb] at hk;exact nilCase es st.mem true (fun _ _ hg=>hg) hb hk
 ·rename_i el' n hz0
  rw [hz0] at es;cases hb:Nat.beq el el'&&a0Z P el ys.length with
  |false=>rw [hb] at hk;cases hk
  | true=>
   rw [hb] at hk;simp only [cond_true] at hk;simp only [f6z] at hb;have:=f6y hb.1;subst this;have hroom:=hb.2;rcases es with ⟨rfl,hs⟩|⟨rfl,ad,hs⟩
   ·cases ye:ys.isEmpty with
    |false=>rw [ye] at hk;exact nilCase hs st.mem true (fun _ _ hg=>hg) hroom (by rw [ye];exact hk)
    | true=>
     rw [ye] at hk;have:ys=[]:=by simpa using ye
     subst this;obtain ⟨v,w',env',q1,q2,q3⟩:=a5e h (mem0:=st.mem) (fun _ _ hg=>hg) (ty:=o.type) hel hi hiz hzs hsrc (by simp) (by simp [a0d]) (kb+d) hF true
     rw [←hs] at q1
     -- nothing is appended to nil: nil
     have q4:(Builtin.append_ #[T,T] o.type #[a.eval s,a.eval x]).run P w= .ok (.slice none 0 0) w:=by
      rw [hs];obtain ⟨hu,hsz,hty,hpos⟩:=a0h hel;rcases hsrc.src with ⟨ao,c,hx,_⟩|⟨b,o',c,hx,_⟩
      ·rw [hx]
       cases ao<;>simp [Builtin.append_,run_underlying hu,sizeOf,typeInfo,hi,Builtin.lenOf,Builtin.firstCells,loadCells,loadCellsFrom]
      ·rw [hx]
       simp [Builtin.append_,run_underlying hu,sizeOf,typeInfo,hi,Builtin.lenOf,Builtin.firstCells,loadCells,loadCellsFrom]
     refine a0A (hexec q4) ?_;rw [hdst];exact ⟨_,_,h.put (fun _ hdd=>by cases hdd;exact hd) (a0q.of (x:= .c (.sl el true [])) (a1o.nil el _ rfl rfl)),hk⟩
   ·obtain ⟨hu,hsz,hty,hpos⟩:=a0h hel
    cases ye:ys.isEmpty with
    | true=>
     rw [ye] at hk;have:ys=[]:=by simpa using ye
     subst this;have q4:(Builtin.append_ #[T,T] o.type #[a.eval s,a.eval x]).run P w= .ok (.slice (some ad) 0 0) w:=by
      rw [hs];rcases hsrc.src with ⟨ao,c,hx,_⟩|⟨b,o',c,hx,_⟩
      ·rw [hx]
       cases ao<;>simp [Builtin.append_,run_underlying hu,sizeOf,typeInfo,hi,Builtin.lenOf,Builtin.firstCells,storeCells,loadCells,loadCellsFrom]
      ·rw [hx]
       simp [Builtin.append_,run_underlying hu,sizeOf,typeInfo,hi,Builtin.lenOf,Builtin.firstCells,storeCells,loadCells,loadCellsFrom]
     refine a0A (hexec q4) ?_;rw [hdst];exact ⟨_,_,h.put (fun _ hdd=>by cases hdd;exact hd) (a0q.of (x:= .c (.sl el false [])) (a1o.emp el _ ad 0 rfl rfl (Nat.zero_le _))),hk⟩
    |false=>
     rw [ye] at hk;simp only [a0Z,f6z,decide_eq_true_eq] at hroom;obtain ⟨v,w',env',q1,q2,q3⟩:=b1y h (mem0:=st.mem) (fun _ _ hg=>hg) (ty:=o.type) (ad:=ad) hel hi hiz hzs hsrc ye hroom.1 hroom.2 (kb+d) hF true
     rw [←hs] at q1;exact fin q1 q2 q3 hk
 ·cases hk
theorem a3j {R:Type} {d:Nat} {c:Call} {s x:Operand} {T T':TypeId} {k:St→Option R} {r:R} {o:Oper} {Q:Exit→Act→World→Prop} {el:TypeId} {k2 q:Nat} {cc:C} {dd:D}
  (h:Rel P N n0 B M0 w0 F e0 env st a w) (hd:d<N) (hF:¬F (kb+d)) (ho:o.op= .call c) (hdst:o.dst=some d) (hc:c.callee= .builtin .append) (ha:c.args.toList=[s,x]) (ht:c.argTypes.toList=[T,T']) (hT:T=T')
  (hel:a0j P T=some el) (hz:(a2H P el).isNone=false) (hx:evu st x= .c (.o k2)) (hg2:get st.mem k2=some (.krow el 0 q cc [dd])) (hp:a1s cc=true)
  (hk:(∃k1 xs,evu st s= .c (.o k1)∧get st.mem k1=some (.row el true false xs)∧a0Z P el (xs.length+1)=true∧k ((a0r (kb+d) (.krow el xs.length q (inval (kb+d) cc) (xs++[dd])) {st with mem:=del (del st.mem k2) k1}).put (some d) (.c (.o (kb+d))))=some r)∨
   ((∃e,evu st s= .c (.sl e true []))∨evu st s= .c (.v (.slice none 0 0))∨ ∃k1 e1 ex xs,evu st s= .c (.o k1)∧get st.mem k1=some (.row e1 ex true xs))∧a0Z P el 1=true∧k ((a0r (kb+d) (.krow el 0 q (inval (kb+d) cc) [dd]) {st with mem:=del st.mem k2}).put (some d) (.c (.o (kb+d))))=some r):o.wp P a w (a06 P N n0 B M0 w0 F e0 k r) Q:=by
 subst hT;have ha':c.args= #[s,x]:=by rw [←Array.toList_inj];exact ha
 have ht':c.argTypes= #[T,T]:=by rw [←Array.toList_inj];exact ht
 have hexec:∀{v:Value} {w':World},(Builtin.append_ #[T,T] o.type #[a.eval s,a.eval x]).run P w= .ok v w'→(execOp a.eval o).run P w= .ok (.value v) w':=by
  intro v w' hr;simp only [execOp,ho,resolve,hc,ha',ht',f6D,f6E,f6A,invoke,builtin,List.map_toArray,List.map_cons,List.map_nil,hr]
 obtain ⟨z,hz'⟩:=Option.isSome_iff_exists.1 (by rw [←Option.not_isNone,hz];rfl:(a2H P el).isSome=true)
 obtain ⟨zv,_,⟨i,hi,hiz⟩,hzs,_⟩:=a1d hz';have es:=h.evu s;have ex:=h.evu x;rw [hx] at ex;have hxv:a.eval x=(env k2).hdr:=ex;have fin:∀{v:Value} {w':World} {env':Env} {o':Obj} {mem0:AL Obj},(Builtin.append_ #[T,T] o.type #[a.eval s,a.eval x]).run P w= .ok v w'→Rel P N n0 B M0 w0 F e0 env' (a0r (kb+d) o' {st with mem:=mem0}) a w'→v=(env' (kb+d)).hdr→
   k ((a0r (kb+d) o' {st with mem:=mem0}).put (some d) (.c (.o (kb+d))))=some r→o.wp P a w (a06 P N n0 B M0 w0 F e0 k r) Q:=by
  intro v w' env' o' mem0 h1 h2 h3 h4;refine a0A (hexec h1) ?_;rw [hdst];exact ⟨env',_,h2.put (fun _ hdd=>by cases hdd;exact hd) (a0q.of (x:= .c (.o (kb+d))) h3),h4⟩
 rcases hk with ⟨k1,xs,hs,hg1,hroom,hk⟩|⟨hs,hroom,hk⟩
 ·rw [hs] at es
  have hsv:a.eval s=(env k1).hdr:=es;simp only [a0Z,f6z,decide_eq_true_eq] at hroom;obtain ⟨v,w',env',q1,q2,q3⟩:=c0T h (ty:=o.type) hel hi hiz hzs hg1 hg2 hp hroom.1 hroom.2 (kb+d) hF;rw [←hsv,←hxv] at q1;exact fin q1 q2 q3 hk
 ·have hsv:a.eval s= .slice none 0 0:=by
   rcases hs with ⟨e,hs⟩|hs|⟨k1,e1,e2,xs,hs,hg1⟩
   ·rw [hs] at es;exact a6c es rfl ⟨_,rfl⟩
   ·rw [hs] at es;exact es
   ·rw [hs] at es
    have hsv:a.eval s=(env k1).hdr:=es;rw [hsv];obtain ⟨_,⟨_,_,h1⟩|⟨hn,_⟩⟩:=h.ob k1 _ hg1
    ·exact h1
    ·cases hn
  simp only [a0Z,f6z,decide_eq_true_eq] at hroom;obtain ⟨v,w',env',q1,q2,q3⟩:=c0U h (mem0:=del st.mem k2) (ty:=o.type) hel hi hiz hzs (fun k ob hgk=>(a0B k ob hgk).2) hg2 hp hroom.1 (kb+d) hF
  rw [←hsv,←hxv] at q1;exact fin q1 q2 q3 hk
theorem c07 {S:a0D} {x:V} {v:Value} (hp:a1s (c0w x)=true) (h:a0x P env S w x v):a0x P env S w (.c (c0w x)) v:=by
 cases x<;>first|exact h|cases hp
theorem a0w {o:Oper} {d:Nat} (hv:a1K P o=false) (he:a0P o=false) (hd:o.dst=some d):a0J P kb o (kb+d)=true:=by
 unfold a0J;rw [hv,he,hd];simp [a0o]
theorem c8D {R:Type} {cl:a0e} (hcl:a0c P cl) {o:Oper} {k:St→Option R} {r:R} {Q:Exit→Act→World→Prop} (hF:∀k,a0J P kb o k=true→ ¬F k) (hv:a1K P o=false) (h:Rel P N n0 B M0 w0 F e0 env st a w) (hd:∀d,o.dst=some d→d<N) (hk:e8j P cl kb o st k=some r):
  o.wp P a w (a06 P N n0 B M0 w0 F e0 k r) Q:=by
 unfold e8j at hk;simp only at hk;split at hk
 ·rename_i T d ho hdst
  cases hdb:e2T P T with
  |true=>
   rw [hdb] at hk;simp only [cond_true] at hk;split at hk
   ·rename_i z hz;exact c0X h (hd d hdst) (hF _ (a0w hv (by simp [a0P,ho]) hdst)) ho hdst hdb hz hk
   ·cases hk
  |false=>
   rw [hdb] at hk;simp only [cond_false] at hk;split at hk
   ·rename_i z hz;exact c3X h (hd d hdst) (hF _ (a0w hv (by simp [a0P,ho]) hdst)) ho hdst hz hk
   ·cases hk
 ·rename_i T x d ho hdst
  cases hdb:e2T P T with
  | true=>
   rw [hdb] at hk;simp only [cond_true] at hk;split at hk
   ·rename_i z hz
    have hsh:=Rel.share (a22 (evu st x)) (mem:=st.mem) h;exact c8v hsh (hd d hdst) (hF _ (a0w hv (by simp [a0P,ho]) hdst)) ho hdst hdb (by rw [a4J];exact hz) hk
   ·cases hk
  |false=>
   rw [hdb] at hk;simp only [cond_false] at hk;split at hk
   ·rename_i z hz;exact d16 h (hd d hdst) (hF _ (a0w hv (by simp [a0P,ho]) hdst)) ho hdst hz hk
   ·cases hk
 ·rename_i T ad x ho
  split at hk
  ·rename_i c mem hs
   cases c with
   |false=>cases hk
   |true=>
    have hsh:=Rel.share (bif d1C st.mem (evu st ad) then a22 (evu st x) else []) (mem:=st.mem) h
    exact c3Y hsh hd ho (by rw [a4J,a4J];exact hs) hk
  ·cases hk
 ·rename_i T n parts d ho hdst
  split at hk
  ·rename_i el hel
   split at hk
   ·rename_i z hz
    have hz:a2H P el=some z:=by
     cases hnp:c55 P el (parts.toList.map fun (i,x)=>(i,evu st x)) with
     |true=>rw [hnp] at hz;cases hz
     |false=>rw [hnp] at hz;exact hz
    split at hk
    ·rename_i ds hds
     cases hn:decide (n*a0a P el≤16777216) with
     |false=>rw [hn] at hk;cases hk
     |true=>
      rw [hn] at hk;have hsh:=Rel.share ((parts.toList.map fun (i,x)=>(i,evu st x)).flatMap fun p=>a22 p.2) (mem:=st.mem) h
      exact b1x hsh (hd d hdst) (hF _ (a0w hv (by simp [a0P,ho]) hdst)) ho hdst hel hz (by simpa only [a4J] using hds) (by simpa using hn) hk
    ·split at hk
     ·rename_i cs hps
      split at hk
      ·rename_i q key dd hkd
       cases hn:Nat.beq n 1&&a0g P el&&Nat.beq cs.length (a0a P el)&&Nat.ble (a0a P el) 16777216 with
       |false=>rw [hn] at hk;cases hk
       |true=>
        rw [hn] at hk;simp only [f6z] at hn;obtain ⟨⟨⟨n1,n2⟩,n3⟩,n4⟩:=hn;have:=f6y n1;subst this;have hsh:=Rel.share ((parts.toList.map fun (i,x)=>(i,evu st x)).flatMap fun p=>a22 p.2) (mem:=st.mem) h
        exact a9Z hsh (hd d hdst) (hF _ (a0w hv (by simp [a0P,ho]) hdst)) ho hdst hel hz (by simpa only [a4J] using hps) hkd n2 (f6y n3) (f6I n4) hk
      ·cases hk
     ·cases hk
   ·split at hk
    ·rename_i z hz
     split at hk
     ·rename_i cs hcs
      cases hb:Nat.beq (a0a P el) 1&&Nat.blt 0 n&&decide (n≤16777216) with
      |false=>rw [hb] at hk;cases hk
      |true=>
       rw [hb] at hk;simp only [f6z,decide_eq_true_eq] at hb;exact a9Y h (hd d hdst) (hF _ (a0w hv (by simp [a0P,ho]) hdst)) ho hdst hel hz hcs (f6y hb.1.1) (f6I hb.1.2) hb.2 hk
     ·cases hk
    ·cases hk
  ·cases hk
 ·rename_i T l c d ho hdst
  split at hk
  ·rename_i el n m hel hl hc
   split at hk
   ·rename_i z hz
    cases hb:decide (0≤n)&&decide (n≤m)&&a0Z P el m.toNat with
    |false=>rw [hb] at hk;cases hk
    |true=>
     rw [hb] at hk;simp only [f6z,decide_eq_true_eq] at hb;exact b3u h (hd d hdst) (hF _ (a0w hv (by simp [a0P,ho]) hdst)) ho hdst hel hl hc hz hb.1.1 hb.1.2 hb.2 hk
   ·cases hk
  ·cases hk
 ·rename_i T x lo hi mx d ho hdst
  unfold b25 at hk;split at hk
  ·rename_i key n hh hbc
   have hb':(evu st x= .c (.bs key n)∨evu st x= .c (.bx key n))∧lo=none∧hi=some hh∧mx=none:=by
    unfold e2X at hbc;split at hbc
    ·rename_i he;cases hbc;exact ⟨.inl he,rfl,rfl,rfl⟩
    ·rename_i he;cases hbc;exact ⟨.inr he,rfl,rfl,rfl⟩
    ·cases hbc
   obtain ⟨hx',rfl,rfl,rfl⟩:=hb';split at hk
   ·rename_i kk j hj
    cases hb:(a0j P T).isSome&&decide (0≤j)&&decide (j≤n)&&decide (n≤a0d) with
    |false=>rw [hb] at hk;cases hk
    |true=>
     rw [hb] at hk;simp only [f6z,decide_eq_true_eq] at hb;exact b5P h (hd d hdst) ho hdst hx' hj hb.1.1.1 hb.1.1.2 hb.1.2 hb.2 hk
   ·cases hk
  rename_i hbn;clear hbn;split at hk
  ·rename_i key hh hoc
   unfold e2W at hoc;split at hoc
   ·rename_i key' h0 hex
    split at hoc
    ·simp only [f6x,f6S] at hoc
     obtain ⟨rfl,rfl⟩:=hoc;split at hk
     ·rename_i el nl xs kk n el' hg hhi hel
      cases hb:Nat.beq el el'&&decide (0≤n)&&decide (n≤xs.length) with
      |false=>rw [hb] at hk;cases hk
      |true=>
       rw [hb] at hk;simp only [f6z,decide_eq_true_eq] at hb;have:=f6y hb.1.1;subst this;exact b5O h (hd d hdst) (hF _ (a0w hv (by simp [a0P,ho]) hdst)) ho hdst hex hg hhi hel hb.1.2 hb.2 hk
     ·cases hk
    ·cases hoc
   ·cases hoc
  ·have hsh:=Rel.share (a22 (evu st x)) (mem:=st.mem) h
   have opt:∀q:Option Operand,(q.map (evu st)=none∧q.map a.eval=none)∨ ∃l v,q.map (evu st)=some l∧q.map a.eval=some v∧a0q P env (Sof P B M0 n0 env (a0z st.mem (a22 (evu st x))) w) w a l v:=by
    intro q;cases q with
    |none=>exact .inl ⟨rfl,rfl⟩
    |some q=>
     have:=hsh.evu q;rw [a4J] at this;exact .inr ⟨_,_,rfl,rfl,a0q.of this⟩
   have hx:a0x P env (Sof P B M0 n0 env (a0z st.mem (a22 (evu st x))) w) w (b5L (a0z st.mem (a22 (evu st x))) (evu st x)) (a.eval x):=by
    have:=hsh.evu x;rw [a4J] at this;exact a3A hsh.ob hsh.rows this
   split at hk
   ·split at hk
    ·rename_i c v hsv
     cases c with
     |false=>cases hk
     | true=>
      obtain ⟨v',q1,q2⟩:=b0V (ac:=a) hx (opt lo) (opt hi) hsv;refine a0A (v:=v') (w':=w) ?_ ?_
      ·simp only [execOp,ho,Option.map_none,f6D,q1,f6A,f6E]
      ·rw [hdst]
       exact ⟨_,_,hsh.put (fun _ hdd=>by cases hdd;exact hd d hdst) (a0q.of q2),hk⟩
    ·cases hk
   ·rename_i m _
    split at hk
    ·cases hk
    ·rename_i hh _
     cases hz:b56 hh&&b56 m&&lo.isNone with
     | true=>
      rw [hz] at hk;simp only [cond_true] at hk;simp only [f6z] at hz;have zop:∀q:Operand,b56 q=true→ ∃kk,a.eval q= .int kk 0:=by
       intro q hq;unfold b56 at hq;split at hq
       ·rename_i kk;exact ⟨kk,rfl⟩
       ·cases hq
      obtain ⟨k1,e1⟩:=zop hh hz.1.1;obtain ⟨k2,e2⟩:=zop m hz.1.2;have e3:lo=none:=by cases lo with
       |none=>rfl
       |some _=>cases hz.2
      subst e3;split at hk
      ·rename_i e' el n xs hu hdx
       cases hb:Nat.beq el e'&&tyB P el with
       |false=>rw [hb] at hk;cases hk
       | true=>
        rw [hb] at hk;simp only [f6z] at hb;have:=f6y hb.1;subst this;rw [hdx] at hx;obtain ⟨v',q1,q2⟩:=c0M (k1:=k1) (k2:=k2) hx hu hb.2;refine a0A (v:=v') (w':=w) ?_ ?_
        ·simp only [execOp,ho,Option.map_none,f6T,e1,e2,f6D,q1,f6A,f6E]
        ·rw [hdst]
         exact ⟨_,_,hsh.put (fun _ hdd=>by cases hdd;exact hd d hdst) (a0q.of q2),hk⟩
      ·cases hk
     | false=>
      rw [hz] at hk;simp only [cond_false] at hk;split at hk
      ·rename_i c v hsv
       cases c with
       |false=>cases hk
       | true=>
        have h1:=hsh.evu hh;have h2:=hsh.evu m;rw [a4J] at h1 h2;obtain ⟨v',q1,q2⟩:=c0L (ac:=a) hx (opt lo) h1 h2 hsv;refine a0A (v:=v') (w':=w) ?_ ?_
        ·simp only [execOp,ho,f6T,f6D,q1,f6A,f6E]
        ·rw [hdst]
         exact ⟨_,_,hsh.put (fun _ hdd=>by cases hdd;exact hd d hdst) (a0q.of q2),hk⟩
      ·cases hk
 ·rename_i s t x d ho hdst
  split at hk
  ·rename_i el l hs hel hx
   cases hb:b5K P el&&Nat.ble l.length a0d with
   |false=>rw [hb] at hk;cases hk
   |true=>
    rw [hb] at hk;simp only [f6z] at hb;exact b76 h (hd d hdst) (hF _ (a0w hv (by simp [a0P,ho]) hdst)) ho hdst hs hel hx hb.1 (f6I hb.2) hk
  ·rename_i u0 el key hs hel hx
   split at hk
   ·rename_i el' xs hg
    cases hb:Nat.beq s t&&Nat.beq el el'&&b5K P el with
    |false=>rw [hb] at hk;cases hk
    |true=>
     rw [hb] at hk;simp only [f6z] at hb;have e2:=f6y hb.1.2;subst e2;exact c8x h (hd d hdst) ho hdst (f6y hb.1.1) hel hx hg hb.2 hk
   ·cases hk
  ·cases hk
 ·rename_i T d ho hdst
  split at hk
  ·exact b75 h (hd d hdst) (hF _ (a0w hv (by simp [a0P,ho]) hdst)) ho hdst hk
  ·cases hk
 ·rename_i T m key x ho
  split at hk
  ·rename_i mk kt' vt' hm hu
   split at hk
   ·rename_i kt vt es hg
    cases hb:Nat.beq kt kt' with
    |false=>rw [hb] at hk;cases hk
    | true=>
     rw [hb] at hk;have:=f6y hb;subst this;simp only [cond_true] at hk;split at hk
     ·rename_i kd vd hkd hvd
      split at hk
      ·rename_i b hself
       exact a5A h hd (by simp only [execOp,ho]) hm hu hg hkd hvd hself (d1Y hself es) hk
      ·cases hk
     ·cases hk
   ·cases hk
  ·cases hk
 ·rename_i T m key x ho
  split at hk
  ·rename_i mk kt' vt' hm hu
   split at hk
   ·rename_i kt vt es hg
    cases hb:Nat.beq kt kt' with
    |false=>rw [hb] at hk;cases hk
    | true=>
     rw [hb] at hk;have:=f6y hb;subst this;simp only [cond_true] at hk;split at hk
     ·rename_i kd vd hkd hvd
      split at hk
      ·rename_i b hself
       exact a5A h hd (by simp only [execOp,ho]) hm hu hg hkd hvd hself (d1Y hself es) hk
      ·cases hk
     ·rename_i kd hkd hvd
      split at hk
      ·rename_i b hself
       cases hp:a1s (c0w (evu st x)) with
       |false=>rw [hp] at hk;cases hk
       |true=>
        rw [hp] at hk;exact b01 (es:=[]) h hd (by simp only [execOp,ho]) hm hu hg (.inr ⟨rfl,_,rfl⟩) hkd (c07 hp (h.evu x)) hself rfl hk
      ·cases hk
     ·cases hk
   ·rename_i kt vt es hg
    cases hb:Nat.beq kt kt' with
    |false=>rw [hb] at hk;cases hk
    | true=>
     rw [hb] at hk;have:=f6y hb;subst this;simp only [cond_true] at hk;split at hk
     ·rename_i kd hkd
      split at hk
      ·rename_i b hself
       split at hk
       ·rename_i hpos
        cases hp:a1s (c0w (evu st x)) with
        |false=>rw [hp] at hk;cases hk
        |true=>
         rw [hp] at hk;exact b01 h hd (by simp only [execOp,ho]) hm hu hg (.inl ⟨_,rfl⟩) hkd (c07 hp (h.evu x)) hself hpos hk
       ·cases hk
      ·cases hk
     ·cases hk
   ·cases hk
  ·cases hk
 ·rename_i T x key d ho hdst
  cases hfm:b7N P T with
  |false=>rw [hfm] at hk;cases hk
  | true =>
   rw [hfm] at hk;simp only [cond_true] at hk;split at hk
   ·rename_i mk kt' vt' hm hu
    split at hk
    ·rename_i kt vt es hg
     cases hb:Nat.beq kt kt'&&Nat.beq vt vt' with
     |false=>rw [hb] at hk;cases hk
     | true=>
      rw [hb] at hk;simp only [f6z] at hb;have e1:=f6y hb.1;have e2:=f6y hb.2;subst e1 e2;simp only [cond_true] at hk;split at hk
      ·rename_i kd z hkd hz
       split at hk
       ·rename_i b hself
        rw [b70] at hk;obtain ⟨v,hrun,hrel⟩:=b7Z h.ob h.rows (h.evu x) (h.evu key) hm hu hg hkd hz hself;refine a0A (v:=v) (w':=w) ?_ ⟨env,_,Rel.put h hd (a0q.of hrel),by rw [hdst];exact hk⟩
        simp only [execOp,ho,f6D,hrun,f6A,f6E]
       ·cases hk
      ·cases hk
    ·rename_i kt vt es hg
     cases hb:Nat.beq kt kt'&&Nat.beq vt vt' with
     |false=>rw [hb] at hk;cases hk
     | true=>
      rw [hb] at hk;simp only [f6z] at hb;have e1:=f6y hb.1;have e2:=f6y hb.2;subst e1 e2;simp only [cond_true] at hk;split at hk
      ·rename_i kd z hkd hz
       split at hk
       ·rename_i b hself
        split at hk
        ·rename_i c hp
         obtain ⟨v,hrun,hrel⟩:=a71 h.ob h.rows (h.evu x) (h.evu key) hm hu hg hkd hz hself hp;refine a0A (v:=v) (w':=w) ?_ ⟨env,_,Rel.put h hd (a0q.of hrel),by rw [hdst];exact hk⟩
         simp only [execOp,ho,f6D,hrun,f6A,f6E]
        ·rename_i hp
         obtain ⟨v,hrun,hrel⟩:=a71 h.ob h.rows (h.evu x) (h.evu key) hm hu hg hkd hz hself hp;refine a0A (v:=v) (w':=w) ?_ ⟨env,_,Rel.put h hd (a0q.of hrel),by rw [hdst];exact hk⟩
         simp only [execOp,ho,f6D,hrun,f6A,f6E]
        ·cases hk
       ·cases hk
      ·cases hk
    ·cases hk
   ·cases hk
 ·rename_i T x i d ho hdst
  cases hos:b21 P T with
  |false=>rw [hos] at hk;cases hk
  |true=>
   rw [hos] at hk;obtain ⟨y,h1,h2⟩:=c8q hk;obtain ⟨v,hrun,hrel⟩:=a5c h.ob (h.evu x) (h.evu i) h1;refine a0A (v:=v) (w':=w) ?_ ⟨env,_,Rel.put h hd (a0q.of hrel),by rw [hdst];exact h2⟩
   simp only [execOp,ho,f6D,hrun,f6A,f6E]
 ·rename_i c ho
  split at hk
  ·rename_i hc
   split at hk
   ·rename_i d s x T T' hdst ha ht
    cases hT:Nat.beq T T' with
    | false=>
     rw [show (!Nat.beq T T')=true by rw [hT];rfl] at hk
     simp only [cond_true] at hk;split at hk
     ·rename_i el ik e' kk n hel hu' hes hex
      split at hk
      ·rename_i z hz
       cases hb:decide (0≤n)&&a0Z P el n.toNat with
       |false=>rw [hb] at hk;cases hk
       |true=>
        rw [hb] at hk;simp only [f6z,decide_eq_true_eq] at hb;have hs':=h.evu s;rw [hes] at hs';exact a90 h (hd d hdst) (hF _ (a0w hv (by simp [a0P,ho,hc]) hdst)) ho hdst hc ha ht hel hu' (a6c hs' rfl ⟨_,rfl⟩) hex hz hb.1 hb.2 hk
      ·cases hk
     ·rename_i el ik key kk n hel hu' hes hex
      split at hk
      ·rename_i el' ex xs z hg hz
       cases hb:Nat.beq el el'&&decide (0≤n)&&a0Z P el (xs.length+n.toNat) with
       |false=>rw [hb] at hk;cases hk
       |true=>
        rw [hb] at hk;simp only [f6z,decide_eq_true_eq] at hb;have:=f6y hb.1.1;subst this;exact a6N h (hd d hdst) (hF _ (a0w hv (by simp [a0P,ho,hc]) hdst)) ho hdst hc ha ht hel hu' hes hex hg hz hb.1.2 hb.2 hk
      ·cases hk
     ·rename_i el key l hel hu' hes hex
      split at hk
      ·rename_i el' ex nl xs z hg hz
       cases hb:Nat.beq el el'&&b5K P el&&a0Z P el (xs.length+l.length) with
       |false=>rw [hb] at hk;cases hk
       |true=>
        rw [hb] at hk;simp only [f6z] at hb;have:=f6y hb.1.1;subst this;exact b3v h (hd d hdst) (hF _ (a0w hv (by simp [a0P,ho,hc]) hdst)) ho hdst hc ha ht hel hu' hes hex hg hz hb.1.2 hb.2 hk
      ·cases hk
     ·rename_i el e' l hel hu' hes hex
      split at hk
      ·rename_i z hz
       cases hb:b5K P el&&a0Z P el l.length with
       |false=>rw [hb] at hk;cases hk
       |true=>
        rw [hb] at hk;simp only [f6z] at hb;have hs':=h.evu s;rw [hes] at hs';exact a3Y h (hd d hdst) (hF _ (a0w hv (by simp [a0P,ho,hc]) hdst)) ho hdst hc ha ht hel hu' (a6c hs' rfl ⟨_,rfl⟩) hex hz hb.1 hb.2 true (mem0:=st.mem) (fun _ _ hg=>hg) hk
      ·cases hk
     ·cases hk
    | true =>
     rw [show (!Nat.beq T T')=false by rw [hT];rfl] at hk
     simp only [cond_false] at hk;split at hk
     ·rename_i el k1 n k2 m hel hes hex
      split at hk
      ·rename_i c1 c2 g1 g2
       cases hb:(a2H P el).isSome&&Nat.beq (a0a P el) 1&&Nat.blt 0 n&&Nat.blt 0 m&&Nat.ble n c1.length&&Nat.ble m c2.length&&a0Z P el (n+m)&&a14 (c1.take n++c2.take m) with
       |false=>rw [hb] at hk;cases hk
       |true=>
        rw [hb] at hk;simp only [f6z] at hb;obtain ⟨⟨⟨⟨⟨⟨⟨b1,b2⟩,b3⟩,b4⟩,b5⟩,b6⟩,b7⟩,b8⟩:=hb;exact b3w h (hd d hdst) (hF _ (a0w hv (by simp [a0P,ho,hc]) hdst)) ho hdst hc ha ht (f6y hT) hel b1 hes hex g1 g2 (f6y b2) (f6I b3) (f6I b4) (f6I b5) (f6I b6) b7 b8 hk
      ·cases hk
     ·rename_i el hel _
      cases hz:(a2H P el).isNone with
      |true=>rw [hz] at hk;cases hk
      | false=>
       rw [hz] at hk;simp only [cond_false] at hk;split at hk
       ·rename_i ys hys
        exact c06 h (hd d hdst) (hF _ (a0w hv (by simp [a0P,ho,hc]) hdst)) ho hdst hc ha ht (f6y hT) hel hz hys hk
       ·split at hk
        ·rename_i k2 hx
         split at hk
         ·rename_i el2 q cc dd hg2
          split at hk
          ·rename_i k1 hs
           split at hk
           ·rename_i el1 xs hg1
            cases hb:Nat.beq el el1&&Nat.beq el el2&&a0Z P el (xs.length+1)&&a1s cc with
            |false=>rw [hb] at hk;cases hk
            |true=>
             rw [hb] at hk;simp only [f6z] at hb;obtain ⟨⟨⟨b1,b2⟩,b3⟩,b4⟩:=hb;have e1:=f6y b1;have e2:=f6y b2;subst e1 e2;exact a3j h (hd d hdst) (hF _ (a0w hv (by simp [a0P,ho,hc]) hdst)) ho hdst hc ha ht (f6y hT) hel hz hx hg2 b4 (.inl ⟨k1,xs,hs,hg1,b3,hk⟩)
           ·rename_i e1 xs hg1
            cases hb:Nat.beq el el2&&a0Z P el 1&&a1s cc with
            |false=>rw [hb] at hk;cases hk
            |true=>
             rw [hb] at hk;simp only [f6z] at hb;have e2:=f6y hb.1.1;subst e2;exact a3j h (hd d hdst) (hF _ (a0w hv (by simp [a0P,ho,hc]) hdst)) ho hdst hc ha ht (f6y hT) hel hz hx hg2 hb.2 (.inr ⟨.inr (.inr ⟨k1,_,_,_,hs,hg1⟩),hb.1.2,hk⟩)
           ·cases hk
          ·rename_i e hs
           cases hb:Nat.beq el el2&&a0Z P el 1&&a1s cc with
           |false=>rw [hb] at hk;cases hk
           |true=>
            rw [hb] at hk;simp only [f6z] at hb;have e2:=f6y hb.1.1;subst e2;exact a3j h (hd d hdst) (hF _ (a0w hv (by simp [a0P,ho,hc]) hdst)) ho hdst hc ha ht (f6y hT) hel hz hx hg2 hb.2 (.inr ⟨.inl ⟨_,hs⟩,hb.1.2,hk⟩)
          ·rename_i hs
           cases hb:Nat.beq el el2&&a0Z P el 1&&a1s cc with
           |false=>rw [hb] at hk;cases hk
           |true=>
            rw [hb] at hk;simp only [f6z] at hb;have e2:=f6y hb.1.1;subst e2;exact a3j h (hd d hdst) (hF _ (a0w hv (by simp [a0P,ho,hc]) hdst)) ho hdst hc ha ht (f6y hT) hel hz hx hg2 hb.2 (.inr ⟨.inr (.inl hs),hb.1.2,hk⟩)
          ·cases hk
         ·cases hk
        ·cases hk
     ·cases hk
   ·cases hk
  ·rename_i hc
   split at hk
   ·rename_i x y T T' ha ht
    split at hk
    ·rename_i el key hel hx
     split at hk
     ·rename_i el' xs ys hg hy
      cases hb:Nat.beq el el'&&Nat.beq (a0a P el) 1 with
      |false=>rw [hb] at hk;cases hk
      |true=>
       rw [hb] at hk;simp only [f6z] at hb;have:=f6y hb.1;subst this;exact c8y h hd ho hc ha ht hel hx hg hy (f6y hb.2) hk
     ·cases hk
    ·cases hk
   ·cases hk
  ·rename_i f hc
   split at hk
   ·rename_i fn caps hf
    have hfv:a.eval f=fnW (a1Y fn caps) fn (caps.map (c6c env)):=by have:=h.evu f;rw [hf] at this;exact this
    split at hk
    ·rename_i v hext
     obtain ⟨rfl,u,hu1,hu2⟩:=d2e (S:=Sof P B M0 n0 env st.mem w) (env:=env) (w:=w) (vs:=c.args.map a.eval) hext (by
      rw [Array.toList_map];refine All2.of_get (by simp) fun j y v hy hv=> ?_
      rw [List.getElem?_map] at hy hv;cases hj:c.args.toList[j]? with
      |none=>rw [hj] at hy;cases hy
      |some x=>
       rw [hj] at hy hv;simp only [f6T,f6x] at hy hv;subst hy hv;exact h.evu x)
     rw [c8C,c04] at hfv;refine a0A (v:=u) (w':=w) ?_ ⟨_,_,h.put hd (a0q.of (x:= .c v) hu2),hk⟩;simp only [execOp,ho,resolve,hc,hfv,Deferred.ofValue,f6D,f6E,f6A,invoke];simpa using hu1
    ·have hargs:∀mem,Rel P N n0 B M0 w0 F e0 env {st with mem} a w→All2 (a0x P env (Sof P B M0 n0 env mem w) w) (c.args.toList.zipIdx.map (fun (x,i)=>match c.argTypes[i]? with|some T=>coe P T (evu st x)|none=>evu st x)) (c.args.toList.map a.eval):=by
      intro mem hm;refine All2.of_get (by simp) fun j y v hy hv=> ?_
      simp only [List.getElem?_map,List.getElem?_zipIdx,Nat.zero_add] at hy hv;cases hj:c.args.toList[j]? with
      |none=>rw [hj] at hv;cases hv
      |some x=>
       rw [hj] at hy hv;simp only [f6T,f6x] at hy hv;subst hy hv;have hx:=hm.evu x;rw [a4J] at hx;split
       ·exact b71 hx
       ·exact hx
     have hent:a0P o=true:=by simp [a0P,ho,hc]
     cases hbd:a1Y fn caps with
     | false=>
      rw [e24 hbd,c05 hbd,AM.cond_false rfl,AM.cond_false rfl] at hk;rw [hbd,c04] at hfv;refine b06 hcl (vs:=c.args.map a.eval++(caps.map (c6c env)).toArray) (fun k h1 h2=>hF k (by unfold a0J;rw [hv,cond_false rfl,hent,cond_true rfl,Nat.ble_eq_true_of_le h1,show Nat.blt k _=true from Nat.ble_eq_true_of_le h2];rfl)) h hd ?_ ?_ hk
      ·intro hent
       simp only [execOp,ho,resolve,hc,hfv,Deferred.ofValue,f6D,f6E,f6A,invoke];simpa using b05 hent
      ·intro mem hm
       simp only [Array.toList_append,Array.toList_map];exact All2.append (hargs mem hm) (b3F fun x _=>rfl)
     | true=>
      rw [e24 hbd,c05 hbd,AM.cond_true rfl,AM.cond_true rfl] at hk;rw [hbd,d8Z] at hfv;refine b06 hcl (vs:=(caps.map (c6c env)).toArray++c.args.map a.eval) (fun k h1 h2=>hF k (by unfold a0J;rw [hv,cond_false rfl,hent,cond_true rfl,Nat.ble_eq_true_of_le h1,show Nat.blt k _=true from Nat.ble_eq_true_of_le h2];rfl)) h hd ?_ ?_ hk
      ·exact fun hent=>d2f ho hc hfv hent
      ·intro mem hm
       simp only [Array.toList_append,Array.toList_map];exact All2.append (b3F fun x _=>rfl) (hargs mem hm)
   ·cases hk
  ·cases hk
 ·cases hk
end
section
variable {P:Program} {N n0 kb:Nat} {F:Nat→Prop} {B M0:a0D} {w0:World} {e0:a5i} {env:Env} {st:St} {a:Act} {w:World}
theorem d2g {a:Act} {t:Nat} {x:Bool} (h:a.tmps.getD t undef= .bool x):a.tmps[t]?=some (.bool x):=by
 rw [f6K] at h;cases hg:a.tmps[t]? with
 |none=>rw [hg] at h;cases h
 |some v=>rw [hg] at h;simp only [Option.getD_some] at h;rw [h]
theorem a1L {t:Nat} {x want:Bool} (h:a.tmps.getD t undef= .bool x):a04 a t want↔x=want:=by
 unfold a04;rw [d2g h];simp
theorem a25 {t:Nat} {want:Bool} (h:a.tmps.getD t undef=undef):¬a04 a t want:=by
 intro hy;unfold a04 at hy;rw [f6K,hy] at h;cases h
theorem e4w {S:a0D} {y:V} {z:Bool} {v:Value} (h:toB y=some z) (hv:a0x P env S w y v):v= .bool z:=by
 unfold toB at h;split at h
 ·simp only [f6x] at h;subst h;exact hv
 ·simp only [f6x] at h;subst h;exact hv
 ·cases h
theorem a92 {v:Value} (h:d1D v=true):v=undef:=by
 unfold d1D at h;split at h
 ·rename_i vs
  have hs:=f6y h;have:vs= #[]:=Array.eq_empty_of_size_eq_zero hs;rw [this];rfl
 ·cases h
theorem b07 (h:Rel P N n0 B M0 w0 F e0 env st a w):∀{n t:Nat} {want c:Bool},c56 st n t want=some c→(c=true↔a04 a t want)
 |0,_,_,_,hy=>by cases hy
 | n +1,t,want,c,hy=>by
  simp only [c56] at hy;split at hy
  ·rename_i x hg
   have hv:a.tmps.getD t undef= .bool x:=h.tm t _ hg;simp only [f6x] at hy;rw [a1L hv,←hy];simp
  ·rename_i x hg
   have hv:a.tmps.getD t undef= .bool x:=h.tm t _ hg;simp only [f6x] at hy;rw [a1L hv,←hy];simp
  ·rename_i s b y hg
   obtain ⟨h1,h2⟩:=h.tm t _ hg;split at hy
   ·rename_i z c' hz hc
    simp only [f6x] at hy;have ih:=b07 h hc;subst hy;cases c' with
    |true=>
     rw [a1L (e4w hz (h1 (ih.1 rfl)))];simp
    |false=>
     have:=a25 (want:=want) (h2 fun hy=>by have:=ih.2 hy;cases this)
     simp [this]
   ·cases hy
  ·rename_i v hg
   cases hno:d1D v with
   |false=>rw [hno] at hy;cases hy
   |true=>
    have hv:a.tmps.getD t undef=undef:=(show _=v from h.tm t _ hg).trans (a92 hno);rw [hno] at hy;simp only [cond_true,f6x] at hy;subst hy;simp [a25 hv]
  ·cases hy
theorem c34 (h:Rel P N n0 B M0 w0 F e0 env st a w) {t:Nat} {want c:Bool} (hy:known st t want=some c):(c=true↔a04 a t want):=by
 unfold known at hy;split at hy
 ·rename_i x hg
  have hv:a.tmps.getD t undef= .bool x:=h.tm t _ hg;simp only [f6x] at hy;rw [a1L hv,←hy];simp
 ·rename_i v hg
  cases hno:d1D v with
  |false=>rw [hno] at hy;cases hy
  |true=>
   have hv:a.tmps.getD t undef=undef:=(show _=v from h.tm t _ hg).trans (a92 hno);rw [hno] at hy;simp only [cond_true,f6x] at hy;subst hy;simp [a25 hv]
 ·cases hy
theorem Rel.tmps (h:Rel P N n0 B M0 w0 F e0 env st a w) {tmps:AL V} (ht:∀t x,get tmps t=some x→a0q P env (Sof P B M0 n0 env st.mem w) w a x (a.tmps.getD t undef)):Rel P N n0 B M0 w0 F e0 env {st with tmps} a w:=
 ⟨h.size,h.dfr,h.hn0,ht,h.ob,h.ds,h.mu,h.pr,h.ch,h.bb,h.fx,h.gi⟩
theorem c08 (h:Rel P N n0 B M0 w0 F e0 env st a w) {t:Nat} {x:Bool} (hv:a.tmps.getD t undef= .bool x):Rel P N n0 B M0 w0 F e0 env (c0x t x st) a w:=by
 refine h.tmps fun t' y hy=> ?_
 rw [a00] at hy;by_cases ht:t'=t
 ·rw [if_pos ht] at hy
  simp only [f6x] at hy;subst hy ht;exact hv
 ·rw [if_neg ht,a1g] at hy
  cases hg:get st.tmps t' with
  |none=>rw [hg] at hy;cases hy
  | some z=>
   rw [hg] at hy;simp only [f6T,f6x] at hy;subst hy;have hz:=h.tm t' z hg;cases z with
   | w s b y=>
    simp only [d1E,a0o];by_cases hs:s=t
    ·subst hs
     rw [cond_true (by simp)]
     by_cases hb:b=x
     ·subst hb
      rw [cond_true (by simp)]
      exact a0q.of (hz.1 ((a1L hv).2 rfl))
     ·rw [cond_false (by simpa using hb)]
      exact hz.2 fun hy=>hb ((a1L hv).1 hy).symm
    ·rw [cond_false (by simpa using hs)]
     exact hz
   |_=>exact hz
theorem a4L {R:Type} {r:R}:∀{n t:Nat} {want:Bool} {st:St} {yes no:St→Option R},Rel P N n0 B M0 w0 F e0 env st a w→b26 n t want st yes no=some r→
  (a04 a t want∧ ∃st',Rel P N n0 B M0 w0 F e0 env st' a w∧yes st'=some r)∨(¬a04 a t want∧ ∃st',Rel P N n0 B M0 w0 F e0 env st' a w∧no st'=some r)
 |0,_,_,_,_,_,_,hg=>by cases hg
 | n+1,t,want,st,yes,no,h,hg=>by
  simp only [b26] at hg;split at hg
  ·rename_i x hx
   have hv:a.tmps.getD t undef= .bool x:=h.tm t _ hx;rw [a1L hv];by_cases hw:x=want
   ·rw [cond_true (by simpa using hw)] at hg;exact .inl ⟨hw,st,h,hg⟩
   ·rw [cond_false (by simpa using hw)] at hg;exact .inr ⟨hw,st,h,hg⟩
  ·rename_i v hx
   cases hno:d1D v with
   |false=>rw [hno] at hg;cases hg
   |true=>
    have hv:a.tmps.getD t undef=undef:=(show _=v from h.tm t _ hx).trans (a92 hno);rw [hno] at hg;exact .inr ⟨a25 hv,st,h,hg⟩
  ·rename_i x hx
   have hv:a.tmps.getD t undef= .bool x:=h.tm t _ hx;rw [a1L hv];have hs:=c08 h hv;cases x<;>cases want<;>simp only [cond_true,cond_false] at hg
   ·exact .inl ⟨rfl,_,hs,hg⟩
   ·exact .inr ⟨by simp,_,hs,hg⟩
   ·exact .inr ⟨by simp,_,hs,hg⟩
   ·exact .inl ⟨rfl,_,hs,hg⟩
  ·rename_i s b y hx
   obtain ⟨_,h2⟩:=h.tm t _ hx;rcases a4L h hg with ⟨h3,st',h4,h5⟩|⟨h3,st',h4,h5⟩
   ·exact a4L h4 h5
   ·exact .inr ⟨a25 (h2 h3),st',h4,h5⟩
  ·cases hg
theorem e25 {R:Type} {o:Oper} {k:St→Option R} {r:R} {Q:Exit→Act→World→Prop} {e:Operand→V} {ew:Nat→Bool→Operand→V} {x:V} (h:Rel P N n0 B M0 w0 F e0 env st a w)
  (he:∀x,a0x P env (Sof P B M0 n0 env st.mem w) w (e x) (a.eval x)) (hew:∀t b x,a04 a t b→a0q P env (Sof P B M0 n0 env st.mem w) w a (ew t b x) (a.eval x)) (hv:a1S P st.mem e ew o=some (true,x))
  (hk:∀v,a0x P env (Sof P B M0 n0 env st.mem w) w x v→a06 P N n0 B M0 w0 F e0 k r (a.put o.dst v) w):o.wp P a w (a06 P N n0 B M0 w0 F e0 k r) Q:=by
 obtain ⟨v,h1,h2⟩:=c0N h.ob h.rows he hew hv;exact a0A h1 (hk v h2)
theorem b3G {R:Type} {cl:a0e} (hcl:a0c P cl) {o:Oper} {k:St→Option R} {r:R} {Q:Exit→Act→World→Prop} (hF:∀k,a0J P kb o k=true→ ¬F k) (h:Rel P N n0 B M0 w0 F e0 env st a w) (hd:∀d,o.dst=some d→d<N) (hk:opC P cl kb o st k=some r):
  o.wp P a w (a06 P N n0 B M0 w0 F e0 k r) Q:=by
 unfold opC at hk;cases hv:a1K P o with
 |false=>rw [hv] at hk;exact c8D hcl hF hv h hd hk
 | true=>
  rw [hv] at hk;simp only [cond_true] at hk;split at hk
  ·rename_i c x hval
   cases c with
   |false=>cases hk
   |true=>exact e25 h h.evu h.evw hval fun v hvx=>⟨env,_,h.put hd (a0q.of hvx),hk⟩
  ·cases hk
theorem d2h (h:Rel P N n0 B M0 w0 F e0 env st a w) {t:Nat} {want:Bool} (hy:a04 a t want) (x:Operand):a0x P env (Sof P B M0 n0 env st.mem w) w (evg st t want x) (a.eval x):=by
 unfold evg;have hx:=h.ev x;split
 ·rename_i s b y he
  rw [he] at hx;simp only [b55];cases hc:Nat.beq s t&&(b==want) with
  |false=>trivial
  |true=>
   simp only [f6z] at hc;have h1:=f6y hc.1;have h2:=eq_of_beq hc.2;subst h1 h2;exact hx.1 hy
 ·rename_i he
  cases hv:AM.ev st x with
  |w s b y=>exact absurd hv (he s b y)
  |_=>rw [hv] at hx;exact hx
theorem c8E (h:Rel P N n0 B M0 w0 F e0 env st a w) {t:Nat} {want:Bool} (hy:a04 a t want) (t':Nat) (w':Bool) (x:Operand) (hy':a04 a t' w'):a0q P env (Sof P B M0 n0 env st.mem w) w a (f34 st t want t' w' x) (a.eval x):=by
 unfold f34;have hx:=h.ev x;split
 ·rename_i s b y he
  rw [he] at hx;cases hc:Nat.beq s t'&&(b==w') with
  |true=>
   simp only [f6z] at hc;have h1:=f6y hc.1;have h2:=eq_of_beq hc.2;subst h1 h2;exact a0q.of (hx.1 hy')
  |false=>exact b0W hy hx
 ·exact hx
theorem a78 {R:Type} {cl:a0e} (hcl:a0c P cl) {ops:Array Oper} {o:Oper} {k:St→Option R} {r:R} {Q:Exit→Act→World→Prop} (hF:∀k,a0J P kb o k=true→ ¬F k) (h:Rel P N n0 B M0 w0 F e0 env st a w) (hd:∀d,o.dst=some d→d<N) (hk:b27 P cl kb ops.toList o st k=some r):
  if Region.wanted o (yielded ops a.tmps) then o.wp P a w (a06 P N n0 B M0 w0 F e0 k r) Q else a06 P N n0 B M0 w0 F e0 k r (a.put o.dst undef) w:=by
 unfold b27 at hk;split at hk
 ·rename_i hg
  rw [if_pos (by simp [Region.wanted,hg])]
  exact b3G hcl hF h hd hk
 ·rename_i j want hg
  split at hk
  ·cases hk
  ·rename_i t ht
   have hw:Region.wanted o (yielded ops a.tmps)=true↔a04 a t want:=by
    unfold a5o at ht;rw [Array.getElem?_toList] at ht;simp only [Region.wanted,hg,yielded,ht,Option.bind_some,a04];cases a.tmps[t]? with
    |none=>simp
    |some v=>cases v<;>simp
   have skip:∀{st':St},Rel P N n0 B M0 w0 F e0 env st' a w→k (st'.put o.dst c8i)=some r→a06 P N n0 B M0 w0 F e0 k r (a.put o.dst undef) w:=
    fun h' hk'=>⟨env,_,h'.put hd (show a0q P env _ w a c8i undef from rfl),hk'⟩
   split at hk
   ·rename_i x hx
    have:=c34 h hx;cases x with
    |true=>rw [if_pos (hw.2 (this.1 rfl))];exact b3G hcl hF h hd hk
    |false=>rw [if_neg (fun hc=>by have:=this.2 (hw.1 hc);cases this)];exact skip h hk
   ·cases hv:a1K P o with
    | true=>
     rw [hv] at hk;simp only [cond_true] at hk;split at hk
     ·rename_i c cond x hc hval
      have hyc:=b07 h hc;cases hb:(bif cond then true else !c) with
      |false=>rw [hb] at hk;cases hk
      | true=>
       rw [hb] at hk;by_cases hy:a04 a t want
       ·rw [if_pos (hw.2 hy)]
        have:c=true:=hyc.2 hy;subst this;have:cond=true:=by cases cond<;>simp at hb⊢
        subst this;exact e25 h (d2h h hy) (fun t' b' x' hy'=>c8E h hy t' b' x' hy') hval fun v hvx=>⟨env,_,h.put hd (x:= .w t want x) ⟨fun _=>hvx,fun hn=>absurd hy hn⟩,hk⟩
       ·rw [if_neg (fun hc=>hy (hw.1 hc))]
        exact ⟨env,_,h.put hd (x:= .w t want x) ⟨fun hy'=>absurd hy' hy,fun _=>rfl⟩,hk⟩
     ·cases hk
    |false=>
     rw [hv] at hk;simp only [cond_false] at hk;rcases a4L h hk with ⟨h1,st',h2,h3⟩|⟨h1,st',h2,h3⟩
     ·rw [if_pos (hw.2 h1)];exact b3G hcl hF h2 hd h3
     ·rw [if_neg (fun hc=>h1 (hw.1 hc))];exact skip h2 h3
theorem c09 {o:Oper} {k:Nat} (h:a0J P kb o k=true):kb≤k:=by
 unfold a0J at h;cases hv:a1K P o with
 |true=>rw [hv] at h;cases h
 |false=>
 rw [hv,cond_false rfl] at h;cases he:a0P o with
 |true=>
  rw [he,cond_true rfl] at h;simp only [f6z] at h;exact Nat.le_trans (b79 _ _) (f6I h.1)
 |false=>
  rw [he,cond_false rfl] at h;split at h
  ·have:=f6y h;omega
  ·cases h
theorem d2i {o:Oper} (hF:∀k,F k→k<kb):∀k,a0J P kb o k=true→ ¬F k:=fun k h1 h2=>by
 have:=c09 h1;have:=hF k h2;omega
variable {n:Nat} {Fe:Fence}
def b1C (Fe:Fence):Prop:=Fe=Fence.wide∨ ∃l,Fe=Fence.wide.inRound l
theorem b1C.fn (h:b1C Fe) (f:FuncId):Fe.fn f:=by
 rcases h with rfl|⟨l,rfl⟩<;>trivial
theorem b1C.depth (h:b1C Fe):Fe.depth.isSome=true→1≤n:=by
 rcases h with rfl|⟨l,rfl⟩<;>exact fun h=>by cases h
theorem b1C.calls (h:b1C Fe) {m:Nat} {f:FuncId} {args:Array Value} {w:World} {R:Ending→World→Prop} (hc:Calls P f args w R):CallsIn Fe m P f args w R:=by
 rcases h with rfl|⟨l,rfl⟩
 ·exact callsIn_wide.2 hc
 ·exact CallsIn.inRound l (callsIn_wide.2 hc)
theorem d2j (hF:b1C Fe) {o:Oper} {K:Act→World→Prop} {Q:Exit→Act→World→Prop} (hd:Fe=Fence.wide∨ ∀c,o.op≠ .defer c) (h:o.wp P a w K Q):o.wpIn Fe n P a w K Q:=by
 refine ⟨fun f _=>hF.fn f,?_⟩
 have hsem:o.semAt Fe.round a.eval=execOp a.eval o:=by
  rcases hd with rfl|hd
  ·rfl
  ·exact Oper.semAt_eq _ _ _ hd
 rw [hsem];unfold Oper.wp at h;generalize (execOp a.eval o).run P w=r at h;cases r with
 | ok x w'=>
  cases x with
  |enter f args=>exact ⟨hF.depth,hF.calls h⟩
  |row row args=>
   refine ⟨hF.depth,fun c cs _=> ?_⟩
   obtain ⟨v,w'',r,s⟩:=h c cs;refine ⟨v,w'',r,?_⟩;rcases hF with rfl|⟨l,rfl⟩<;>exact stepsIn_wide.2 s
  |round l f tmps assign body=>exact h.elim
  |_=>exact h
 |halt x w'=>cases x<;>exact h
theorem a6X {R:Type} {cl:a0e} (hW:b1C Fe) (hcl:a0c P cl) {ops:Array Oper} {k:St→Option R} {r:R} {Q:Exit→Act→World→Prop} {rest:List Oper}
  (hQ:∀a w,a06 P N n0 B M0 w0 F e0 k r a w→wpListIn Fe n P ops Q rest a w):
  ∀{l:List Oper} {env:Env} {st:St} {a:Act} {w:World},Rel P N n0 B M0 w0 F e0 env st a w→(∀o∈l,∀d,o.dst=some d→d<N)→(Fe=Fence.wide∨ ∀o∈l,∀c,o.op≠ .defer c)→(∀o∈l,∀k,a0J P kb o k=true→ ¬F k)→c57 P cl kb ops.toList l st k=some r→wpListIn Fe n P ops Q (l++rest) a w
 | [],env,st,a,w,h,_,_,_,hk=>by
  refine hQ a w ⟨env,_,h.tmps fun t x hx=> ?_,hk⟩
  rw [a1g] at hx;cases hg:get st.tmps t with
  |none=>rw [hg] at hx;cases hx
  |some y=>
   rw [hg] at hx;simp only [f6T,f6x] at hx;subst hx;exact a0q.of (a7f (h.tm t y hg))
 | o::l,env,st,a,w,h,hd,hdf,hF,hk=>by
  have ho:=a78 (Q:=Q) hcl (hF o (by simp)) h (hd o (by simp)) hk
  have next:∀a w,a06 P N n0 B M0 w0 F e0 (fun st'=>c57 P cl kb ops.toList l st' k) r a w→wpListIn Fe n P ops Q (l++rest) a w:=by
   rintro a w ⟨env',st',h1,h2⟩;exact a6X hW hcl hQ h1 (fun o' ho'=>hd o' (by simp [ho'])) (hdf.imp id fun hdf o' ho'=>hdf o' (by simp [ho'])) (fun o' ho'=>hF o' (by simp [ho'])) h2
  show wpListIn Fe n P ops Q (o::(l++rest)) a w;unfold wpListIn;split
  ·rename_i hw
   rw [if_pos hw] at ho;exact d2j hW (hdf.imp id fun hdf=>hdf o (by simp)) (Oper.wp_mono next ho)
  ·rename_i hw
   rw [if_neg hw] at ho;exact ⟨fun f _=>hW.fn f,next _ _ ho⟩
end
section
variable {P:Program} {N n0 kb:Nat} {F:Nat→Prop} {B M0:a0D} {w0:World} {e0:a5i} {env:Env} {st:St} {a:Act} {w:World}
theorem Rel.weaken (h:Rel P N n0 B M0 w0 F e0 env st a w) {tmps:AL V} {mem:AL Obj} (ht:∀t x,get tmps t=some x→get st.tmps t=some x) (hm:∀t x,get mem t=some x→get st.mem t=some x):
  Rel P N n0 B M0 w0 F e0 env {tmps,mem} a w:=by
 have hk:a0F w (Sof P B M0 n0 env st.mem w) w (Sof P B M0 n0 env mem w):=fun b o v hS hv=>⟨⟨hS.1,hS.2.1,fun key ob hg hmu=>hS.2.2 key ob (hm key ob hg) hmu⟩,hv⟩
 exact ⟨h.size,h.dfr,h.hn0,fun t x hx=>a0q.mono hk (fun _=>rfl) (h.tm t x (ht t x hx)),fun key o hg=>a1r hk (fun _=>rfl) (h.ob key o (hm key o hg)),
  fun k k' o o' hg hg'=>h.ds k k' o o' (hm _ _ hg) (hm _ _ hg'),fun key o b x hg=>h.mu key o b x (hm _ _ hg),fun key e ex xs hg=>h.pr key e ex xs (hm _ _ hg),h.ch,h.bb,h.fx,h.gi⟩
theorem b6t (h:Rel P N n0 B M0 w0 F e0 env st a w) (hs:a53) (id:Nat):Rel P N n0 B M0 w0 F e0 env (f3B hs id st) a w:=by
 unfold f3B;split
 ·exact h
 ·rename_i ts _
  split
  ·exact h.weaken (fun t x hx=>b1Q _ _ _ _ hx) (fun t x hx=>hx)
  ·rename_i ks _ _
   have hsh:=Rel.share (a3g st.tmps ts) (mem:=st.mem) h;refine Rel.weaken (st:={tmps:=c3B (d1K (a0z st.mem (a3g st.tmps ts)) (a3g st.tmps ts)) st.tmps,mem:=a0z st.mem (a3g st.tmps ts)}) ?_ (fun t x hx=>b1Q _ _ _ _ hx) (fun t x hx=>hx)
   refine ⟨hsh.size,hsh.dfr,hsh.hn0,fun t x hx=> ?_,hsh.ob,hsh.ds,hsh.mu,hsh.pr,hsh.ch,hsh.bb,hsh.fx,hsh.gi⟩
   simp only [a1g] at hx;obtain ⟨y,hy,rfl⟩:=Option.map_eq_some_iff.1 hx;have:=hsh.tm t y hy;unfold d1K;split
   ·rename_i key
    cases b2Z key (a3g st.tmps ts) with
    |false=>exact this
    |true=>exact a0q.of (a3A hsh.ob hsh.rows (x:= .c (.o key)) this)
   ·exact this
theorem b8a {S:a0D} {c:C} {v:Value} (h:a0p P env S w c v):a0p P env S w (f3C c) v:=by cases c<;>exact h
theorem d80 {S:a0D} {x:V} {v:Value} (h:a0q P env S w a x v):a0q P env S w a (f5o x) v:=by
 cases x with
 |c c=>exact b8a h
 |g xs=>obtain ⟨vs,h1,h2⟩:=h;exact ⟨vs,h1,h2.mapl fun c u _ hcu=>b8a hcu⟩
 |t xs=>exact h
 |w s b x=>exact h
theorem c6r {s:a1J} {o:Obj} {b x:Nat}:a2F P s (e4o o) b x↔a2F P s o b x:=by
 cases o<;>simp [e4o,a2F]
theorem c1a {o:Obj}:a0S (e4o o)↔a0S o:=by cases o<;>simp [e4o,a0S]
theorem a6d {α:Type} {l:AL α} {k:Nat}:∀{ks:List Nat},get (a3v l ks) k=if k∈ks then get l k else none
 | []=>by simp [a3v,get]
 | j::r=>by
  have ih:=a6d (l:=l) (k:=k) (ks:=r);simp only [a3v];split
  ·rename_i x hx
   simp only [get,a0o,ih];by_cases hj:j=k
   ·subst hj;simp [hx]
   ·rw [cond_false (by simpa using hj)];simp [Ne.symm hj]
  ·rename_i hx
   rw [ih];by_cases hj:k=j
   ·subst hj;simp [hx]
   ·simp [hj]
theorem c6s {α:Type} {l:AL α} {k:Nat} {ks:List Nat} {x:α} (h:get (a3v l ks) k=some x):get l k=some x:=by
 rw [a6d] at h;split at h
 ·exact h
 ·cases h
theorem a1M (h:Rel P N n0 B M0 w0 F e0 env st a w) (ts ks:List Nat):Rel P N n0 B M0 w0 F e0 env (a5h ts ks st) a w:=by
 have hg:∀{k ob},get (a5h ts ks st).mem k=some ob→ ∃ob0,get st.mem k=some ob0∧ob=e4o ob0:=by
  intro k ob hk;unfold a5h at hk;simp only [a1g] at hk;cases h1:get (a3v st.mem ks) k with
  |none=>rw [h1] at hk;cases hk
  |some ob0=>rw [h1] at hk;simp only [f6T,f6x] at hk;exact ⟨ob0,c6s h1,hk.symm⟩
 have hk:a0F w (Sof P B M0 n0 env st.mem w) w (Sof P B M0 n0 env (a5h ts ks st).mem w):=fun b o v hS hv=>⟨⟨hS.1,hS.2.1,fun key ob hgk hmu=>by
  obtain ⟨ob0,h1,rfl⟩:=hg hgk;exact hS.2.2 key ob0 h1 (c6r.1 hmu)⟩,hv⟩
 refine ⟨h.size,h.dfr,h.hn0,?_,?_,?_,?_,?_,h.ch,h.bb,h.fx,h.gi⟩
 ·intro t x hx
  unfold a5h at hx;simp only [a1g] at hx;cases h1:get (a3v st.tmps ts) t with
  |none=>rw [h1] at hx;cases hx
  |some y=>
   rw [h1] at hx;simp only [f6T,f6x] at hx;subst hx;exact d80 (a0q.mono hk (fun _=>rfl) (h.tm t y (c6s h1)))
 ·intro key ob hgk
  obtain ⟨ob0,h1,rfl⟩:=hg hgk;have:=a1r (w':=w) hk (fun _=>rfl) (h.ob key ob0 h1)
  cases ob0 with
  |box cs=>
   obtain ⟨cur,T,c1,c2,c3,c4⟩:=this;refine ⟨cur,T,c1,by simpa using c2,?_,a3h (fun c hc=>by cases c<;>first|exact hc|trivial) c4⟩
   simp only [List.length_map];exact c3.mapl fun c u _ hcu=>b8a hcu
  |_=>exact this
 ·intro k k' o o' hgk hgk' hr hr' hne
  obtain ⟨ob0,h1,rfl⟩:=hg hgk;obtain ⟨ob0',h1',rfl⟩:=hg hgk';exact h.ds k k' ob0 ob0' h1 h1' (c1a.1 hr) (c1a.1 hr') hne
 ·intro key o b x hgk hmu
  obtain ⟨ob0,h1,rfl⟩:=hg hgk;exact h.mu key ob0 b x h1 (c6r.1 hmu)
 ·intro key e ex xs hgk
  obtain ⟨ob0,h1,h2⟩:=hg hgk;cases ob0 with
  |row e' ex' nl' xs'=>
   simp only [e4o,Obj.row.injEq] at h2;obtain ⟨rfl,rfl,rfl,rfl⟩:=h2;exact h.pr key e ex xs h1
  |box cs=>cases h2
  |map kt vt es=>cases h2
  |tab kt vt es=>cases h2
  |dat T d=>cases h2
  |krow e k q c xs=>cases h2
theorem b8b (h:Rel P N n0 B M0 w0 F e0 env st a w) {key key0:Nat} {e:TypeId} {ex nl:Bool} {xs:List D} (hg:get st.mem key0=some (.row e ex nl xs)) (hkey:¬F key):
  Rel P N n0 B M0 w0 F e0 (upd env key (env key0)) (a0r key (.row e ex nl xs) {st with mem:=del st.mem key0}) a w:=by
 have hsub:∀k ob,get (del st.mem key0) k=some ob→get st.mem k=some ob:=fun k ob hk=>(a0B k ob hk).2
 refine Rel.new h hsub key hkey _ _ (fun _ _=>False) (Chg.refl _ w) (fun _ _ hf=>hf.elim) (fun _ _ _ _ _=>rfl) ?_ ?_ ?_ ?_
 ·intro hk
  exact a2r (w':=w) hk (fun _=>rfl) (h.ob _ _ hg) ex
 ·intro b x hm
  exact .inr ⟨key0,_,hg,hm⟩
 ·intro hr k ob _ hk hrk
  obtain ⟨h1,h2⟩:=a0B k ob hk;exact h.ds k key0 ob _ h2 hg hrk hr h1
 ·intro e' ex' xs' he x hx
  simp only [Obj.row.injEq] at he;obtain ⟨rfl,rfl,rfl,rfl⟩:=he;exact h.pr key0 _ _ _ hg x hx
theorem b8c (h:Rel P N n0 B M0 w0 F e0 env st a w) {key ix:Nat} {cs:List C} {c c':C} (hg:get st.mem key=some (.box cs)) (hc:cs[ix]?=some c) (hcc:∀v,a0p P env (Sof P B M0 n0 env st.mem w) w c v→a0p P env (Sof P B M0 n0 env st.mem w) w c' v) (hnb:∀T n,a3V P T n c→a3V P T n c'):
  Rel P N n0 B M0 w0 F e0 env {st with mem:=set st.mem key (.box (cs.set ix c'))} a w:=by
 have hget:∀{k ob},get (set st.mem key (.box (cs.set ix c'))) k=some ob→ ∃ob0,get st.mem k=some ob0∧(k≠key→ob=ob0)∧(k=key→ob0= .box cs∧ob= .box (cs.set ix c')):=by
  intro k ob hk;rw [a00] at hk;by_cases he:k=key
  ·rw [if_pos he] at hk
   cases hk;exact ⟨.box cs,by rw [he];exact hg,fun hn=>absurd he hn,fun _=>⟨rfl,rfl⟩⟩
  ·rw [if_neg he] at hk
   exact ⟨ob,hk,fun _=>rfl,fun hh=>absurd hh he⟩
 have hmut:∀{k ob ob0:_} {b x:Nat},get (set st.mem key (.box (cs.set ix c'))) k=some ob→get st.mem k=some ob0→a2F P (env k) ob b x→a2F P (env k) ob0 b x:=by
  intro k ob ob0 b x hk h0 hm;obtain ⟨ob1,h1,h2,h3⟩:=hget hk;rw [h0] at h1;cases h1;by_cases he:k=key
  ·obtain ⟨rfl,rfl⟩:=h3 he
   simpa [a2F] using hm
  ·rw [h2 he] at hm;exact hm
 have hk:a0F w (Sof P B M0 n0 env st.mem w) w (Sof P B M0 n0 env (set st.mem key (.box (cs.set ix c'))) w):=fun b o v hS hv=>⟨⟨hS.1,hS.2.1,fun k ob hgk hmu=>by
  obtain ⟨ob0,h1,_⟩:=hget hgk;exact hS.2.2 k ob0 h1 (hmut hgk h1 hmu)⟩,hv⟩
 refine ⟨h.size,h.dfr,h.hn0,fun t x hx=>a0q.mono hk (fun _=>rfl) (h.tm t x hx),?_,?_,?_,?_,h.ch,h.bb,h.fx,h.gi⟩
 ·intro k ob hgk
  obtain ⟨ob0,h1,h2,h3⟩:=hget hgk;by_cases he:k=key
  ·obtain ⟨rfl,rfl⟩:=h3 he
   obtain ⟨cur,T,c1,c2,c3,c4⟩:=h.ob k _ h1;refine ⟨cur,T,c1,by simpa using c2,?_,b7T c4 (hnb T cur.size (c4 c (List.mem_of_getElem? hc)))⟩
   simp only [List.length_set];refine All2.of_get (by simpa using c3.length) fun j x y hx hy=> ?_
   by_cases hj:j=ix
   ·subst hj
    have hlt:=(f6J.1 hc).1;rw [List.getElem?_set_self hlt] at hx;cases hx;exact a0p.mono hk (fun _ _=>rfl) (hcc y (c3.get2 hc hy))
   ·rw [List.getElem?_set_ne (Ne.symm hj)] at hx
    exact a0p.mono hk (fun _ _=>rfl) (c3.get2 hx hy)
  ·rw [h2 he]
   exact a1r hk (fun _=>rfl) (h.ob k ob0 h1)
 ·intro k k' o o' hgk hgk' hr hr' hne
  obtain ⟨ob0,h1,h2,h3⟩:=hget hgk;obtain ⟨ob0',h1',h2',h3'⟩:=hget hgk';refine h.ds k k' ob0 ob0' h1 h1' ?_ ?_ hne
  ·by_cases he:k=key
   ·rw [(h3 he).1];trivial
   ·rw [←h2 he];exact hr
  ·by_cases he:k'=key
   ·rw [(h3' he).1];trivial
   ·rw [←h2' he];exact hr'
 ·intro k o b x hgk hmu
  obtain ⟨ob0,h1,_⟩:=hget hgk;exact h.mu k ob0 b x h1 (hmut hgk h1 hmu)
 ·intro k e ex xs hgk
  obtain ⟨ob0,h1,h2,h3⟩:=hget hgk;by_cases he:k=key
  ·have:=(h3 he).2;cases this
  ·exact h.pr k e ex xs (by rw [h1];exact congrArg some (h2 he).symm)
theorem b8d (h:Rel P N n0 B M0 w0 F e0 env st a w) (hF:∀k,F k→k<kb) (t key0 ix:Nat):∃env',Rel P N n0 B M0 w0 F e0 env' (c3O P kb t key0 ix st) a w:=by
 have hkey:¬F (kb+t):=fun hf=>by have:=hF _ hf;omega
 unfold c3O;split
 ·rename_i cs hb
  split
  ·rename_i key hcell
   split
   ·rename_i e ex nl xs hrow
    cases hq:Nat.beq key (kb+t)||Nat.beq key0 key||Nat.beq key0 (kb+t) with
    |true=>exact ⟨env,h⟩
    | false=>
     simp only [Bool.or_eq_false_iff,a0o,decide_eq_false_iff_not] at hq;obtain ⟨⟨n1,n2⟩,n3⟩:=hq;have hm:=b8b h hrow hkey;have hg:get (a0r (kb+t) (.row e ex nl xs) {st with mem:=del st.mem key}).mem key0=some (.box (cs.map (inval (kb+t)))):=by
      simp only [a0r,a00,a1g,a4E,if_neg n3,if_neg n2,hb,f6T,a3d]
     simp only [cond_false];rw [hg];refine ⟨_,b8c hm hg (c:= .o key) ?_ (fun v hv=> ?_) fun _ _ _=>trivial⟩
     ·rw [List.getElem?_map,hcell]
      simp only [f6T,inval,a0o,decide_eq_false n1,cond_false]
     ·show v=(upd env (kb+t) (env key) (kb+t)).hdr
      have hv:v=(upd env (kb+t) (env key) key).hdr:=hv;rw [hv];simp [upd,n1]
   ·exact ⟨env,h⟩
  ·rename_i e hcell
   cases hq:Nat.beq (a0a P e) (kinds P e).length&& !Nat.beq key0 (kb+t) with
   |false=>exact ⟨env,h⟩
   | true=>
    simp only [f6z,Bool.not_eq_true',a0o,decide_eq_true_eq,decide_eq_false_iff_not] at hq;have hm:=a3q h (mem0:=st.mem) (fun _ _ hg=>hg) (kb+t) hkey (e:=e) (ex:=true) hq.1
    have hg:get (a0r (kb+t) (.row e true true []) st).mem key0=some (.box (cs.map (inval (kb+t)))):=by
     simp only [a0r,a00,a1g,if_neg hq.2,hb,f6T,a3d]
    simp only [cond_true];rw [hg];refine ⟨_,b8c hm hg (c:= .sl e true []) ?_ (fun v hv=> ?_) fun _ _ _=>trivial⟩
    ·rw [List.getElem?_map,hcell];rfl
    ·show v=(upd env (kb+t) ⟨0,0,none⟩ (kb+t)).hdr
     have hv:a1o P w _ (.sl e) (.l true []) v:=hv;rw [a6c hv rfl ⟨_,rfl⟩];simp [upd,a1J.hdr]
  ·exact ⟨env,h⟩
 ·exact ⟨env,h⟩
theorem b8e (h:Rel P N n0 B M0 w0 F e0 env st a w) (hF:∀k,F k→k<kb) (t:Nat):∃env',Rel P N n0 B M0 w0 F e0 env' (c3P P kb t st) a w:=by
 have hkey:¬F (kb+t):=fun hf=>by have:=hF _ hf;omega
 have put:∀{env':Env} {st':St} {c:C},Rel P N n0 B M0 w0 F e0 env' st' a w→a0p P env' (Sof P B M0 n0 env' st'.mem w) w c (a.tmps.getD t undef)→Rel P N n0 B M0 w0 F e0 env' {st' with tmps:=set st'.tmps t (.c c)} a w:=by
  intro env' st' c h' hc;refine h'.tmps fun t' y hy=> ?_
  rw [a00] at hy;by_cases ht:t'=t
  ·rw [if_pos ht] at hy
   simp only [f6x] at hy;subst hy ht;exact hc
  ·rw [if_neg ht] at hy
   exact h'.tm t' y hy
 unfold c3P;cases Nat.ble 50000000 t with
 |true=>exact b8d h hF _ _ _
 |false=>
 simp only [cond_false];split
 ·rename_i key hx
  have hv:a.tmps.getD t undef=(env key).hdr:=h.tm t _ hx;split
  ·rename_i e ex nl xs hg
   cases Nat.beq key (kb+t) with
   |true=>exact ⟨env,h⟩
   |false=>exact ⟨_,put (b8b h hg hkey) (show _=_ by rw [hv];simp [upd])⟩
  ·exact ⟨env,h⟩
 ·rename_i e hx
  have hv:a1o P w (Sof P B M0 n0 env st.mem w) (.sl e) (.l true []) (a.tmps.getD t undef):=h.tm t _ hx;cases hb:Nat.beq (a0a P e) (kinds P e).length with
  |false=>exact ⟨env,h⟩
  |true=>
   have hr:=a3q h (mem0:=st.mem) (fun _ _ hg=>hg) (kb+t) hkey (ex:=true) (f6y hb)
   refine ⟨_,put hr (show _=_ from ?_)⟩;have hnil:a.tmps.getD t undef= .slice none 0 0:=a6c hv rfl ⟨_,rfl⟩;rw [hnil];simp [upd,a1J.hdr]
 ·exact ⟨env,h⟩
theorem a6Y (hF:∀k,F k→k<kb):∀(ts:List Nat) {env:Env} {st:St},Rel P N n0 B M0 w0 F e0 env st a w→ ∃env',Rel P N n0 B M0 w0 F e0 env' (b7R P kb ts st) a w
 | [],env,st,h=>⟨env,h⟩
 |t::r,env,st,h=>let ⟨_,h1⟩:=b8e h hF t;a6Y hF r h1
theorem a1A (h:Rel P N n0 B M0 w0 F e0 env st a w) (hF:∀k,F k→k<kb) (hs:a0E) (id:Nat):∃env',Rel P N n0 B M0 w0 F e0 env' (a29 P kb hs id st) a w:=by
 unfold a29;split
 ·exact ⟨env,h⟩
 ·obtain ⟨env',h1⟩:=a6Y hF _ h
  exact ⟨env',a1M h1 _ _⟩
def c1b {R:Type} (P:Program) (N n0:Nat) (B M0:a0D) (w0:World) (F:Nat→Prop) (e0:a5i) (k:Ex→St→Option R) (r:R):Exit→Act→World→Prop
 | .normal,a,w=>a06 P N n0 B M0 w0 F e0 (k .normal) r a w
 | .exit i,a,w=>a06 P N n0 B M0 w0 F e0 (k (.exit i)) r a w
 | .ret,a,w=>a06 P N n0 B M0 w0 F e0 (k .ret) r a w
 |_,_,_=>False
def d2k:Code→Code→List Code
 | .region id ops d,.block i b=>[.seq (.region id ops d) (.block i b)]
 | .region id ops true,.cond c a b=>[.seq (.region id ops true) (.cond c a b)]
 |_,_=>[]
def a0V:Code→List Code
 | .seq a b=>d2k a b++(a0V a++a0V b)
 | .cond c a b=> .cond c a b::(a0V a++a0V b)
 | .block _ b=>a0V b
 | .loop b=> .loop b::a0V b
 | .region id ops d=>[.region id ops d]
 | .rangeFunc g ps a b=> .rangeFunc g ps a b::(a0V a++a0V b)
 |_=>[]
def okC (N:Nat):Code→Bool
 | .region _ ops _=>ops.toList.all fun o=>match o.dst with|some d=>Nat.blt d N|none=>true
 | .seq a b=>okC N a&&okC N b
 | .cond _ a b=>okC N a&&okC N b
 | .block _ b=>okC N b
 | .loop b=>okC N b
 | .rangeFunc _ ps a b=>okC N a&&okC N b&&ps.toList.all fun p=>Nat.blt p N
 |_=>true
theorem c35 {N:Nat} {ops:List Oper} (h:(ops.all fun o=>match o.dst with|some d=>Nat.blt d N|none=>true)=true):∀o∈ops,∀d,o.dst=some d→d<N:=by
 intro o ho d hd;rw [List.all_eq_true] at h;have:=h o ho;rw [hd] at this;exact f6I this
theorem a3B {Fe:Fence} {nn:Nat} {Q:Exit→Act→World→Prop} {c:Code} (I:Nat→Act→World→Prop) (n₀:Nat) (h₀:I n₀ a w)
  (round:∀m a w,I m a w→c.wpIn Fe nn P (Exit.then (fun a' w'=>∃m',m'<m∧I m' a' w') Q) a w):(Code.loop c).wpIn Fe nn P Q a w:=by
 refine wpIn_loop (fun a w=>∃m,I m a w) (fun a w=>leastOf (fun m=>I m a w)) ⟨n₀,h₀⟩ ?_
 intro a w hI;refine wpIn_mono (round _ a w (leastOf_spec hI).1) ?_;intro e a' w' hq;cases e with
 |normal=>
  obtain ⟨n',hlt,hI'⟩:=hq;exact show (∃m,I m a' w')∧leastOf (fun m=>I m a' w')<leastOf (fun m=>I m a w) from ⟨⟨n',hI'⟩,Nat.lt_of_le_of_lt ((leastOf_spec ⟨n',hI'⟩).2 n' hI') hlt⟩
 |exit id=>exact hq
 |goto l=>exact hq
 |ret=>exact hq
 |panic ch=>exact hq
 |outgrown=>exact hq
abbrev a1f:=Fence→Prop
def a6e:a1f:=fun Fe=>Fe=Fence.wide
def a07:Code→Bool
 | .region _ ops _=>ops.toList.all fun o=>match o.op with| .defer _=>false|_=>true
 | .seq a b=>a07 a&&a07 b
 | .cond _ a b=>a07 a&&a07 b
 | .block _ b=>a07 b
 | .loop b=>a07 b
 | .rangeFunc _ _ a b=>a07 a&&a07 b
 |_=>true
theorem c1c {id:Nat} {ops:Array Oper} {d:Bool} (h:a07 (.region id ops d)=true):∀o∈ops.toList,∀c,o.op≠ .defer c:=by
 intro o ho c hc;have:=List.all_eq_true.1 h o ho;rw [hc] at this;cases this
def a6Z (Fs:a1f) (c:Code):Prop:=(∀Fe,Fs Fe→b1C Fe)∧((∀Fe,Fs Fe→Fe=Fence.wide)∨a07 c=true)
theorem fsW (c:Code):a6Z a6e c:=⟨fun _ h=> .inl h,.inl fun _ h=>h⟩
theorem fsA {c:Code} (h:a07 c=true):a6Z b1C c:=⟨fun _ h=>h,.inr h⟩
def a5F (P:Program) (cl:a0e):Prop:=∀{R:Type} {N n0 kb:Nat} {F:Nat→Prop} {B M0:a0D} {w0:World} {e0:a5i} {env:Env} {st:St} {a:Act} {w:World} {id:Nat} {ops:Array Oper} {k:St→Option R} {r:R} {Q:Exit→Act→World→Prop} {Fe:Fence} {nn:Nat},b1C Fe→(Fe=Fence.wide∨ ∀o∈ops.toList,∀c,o.op≠ .defer c)→(∀k,F k→k<kb)→
 Rel P N n0 B M0 w0 F e0 env st a w→(∀o∈ops.toList,∀d,o.dst=some d→d<N)→c3M P cl kb ops.toList st k=some r→(∀a w,a06 P N n0 B M0 w0 F e0 k r a w→Q .normal a w)→(Code.region id ops true).wpIn Fe nn P Q a w
abbrev Ctx:=Nat→Nat→(Nat→Prop)→a0D→a0D→World→a5i→Prop
def e8k:Ctx:=fun _ _ _ _ _ _ _=>True
def a30 (P:Program) (kb:Nat) (b:Code) (f:St→Option (List (Bool×(Ex×St)))) (X:Ctx:=e8k) (Fs:a1f:=a6e):Prop:=∀st alts,f st=some alts→ ∀x,a6S alts some=some x→
 ∀{N n0:Nat} {F:Nat→Prop} {B M0:a0D} {w0:World} {e0:a5i} {env:Env} {a:Act} {w:World},X N n0 F B M0 w0 e0→(∀k,F k→k<kb)→okC N b=true→Rel P N n0 B M0 w0 F e0 env st a w→
  ∀Fe nn,Fs Fe→b.wpIn Fe nn P (c1b P N n0 B M0 w0 F e0 (fun e st=>some (e,st)) x) a w
def c8F (P:Program) (hs:a53) (kb:Nat) (b:Code) (X:Ctx:=e8k) (Fs:a1f:=a6e):Prop:=∀id f,b7S hs b=some (id,f)→a30 P kb b f X Fs
theorem d81 {R:Type} {k:Ex→St→Option R} {r:R} {x:Ex×St} (hk:k x.1 x.2=some r) {e:Exit} (h:c1b P N n0 B M0 w0 F e0 (fun e st=>some (e,st)) x e a w):c1b P N n0 B M0 w0 F e0 k r e a w:=by
 cases e with
 |normal=>obtain ⟨env',st',h1,h2⟩:=h;cases h2;exact ⟨env',st',h1,hk⟩
 |exit i=>obtain ⟨env',st',h1,h2⟩:=h;cases h2;exact ⟨env',st',h1,hk⟩
 |ret=>obtain ⟨env',st',h1,h2⟩:=h;cases h2;exact ⟨env',st',h1,hk⟩
 |_=>exact h.elim
theorem a6Z.sub {Fs:a1f} {c d:Code} (h:a6Z Fs c) (hd:a07 c=true→a07 d=true):a6Z Fs d:=⟨h.1,h.2.imp id hd⟩
theorem a6Z.seq1 {Fs:a1f} {x y:Code} (h:a6Z Fs (.seq x y)):a6Z Fs x:=h.sub fun q=>by simp only [a07,f6z] at q;exact q.1
theorem a6Z.seq2 {Fs:a1f} {x y:Code} (h:a6Z Fs (.seq x y)):a6Z Fs y:=h.sub fun q=>by simp only [a07,f6z] at q;exact q.2
theorem a6Z.cond1 {Fs:a1f} {c:Operand} {x y:Code} (h:a6Z Fs (.cond c x y)):a6Z Fs x:=h.sub fun q=>by simp only [a07,f6z] at q;exact q.1
theorem a6Z.cond2 {Fs:a1f} {c:Operand} {x y:Code} (h:a6Z Fs (.cond c x y)):a6Z Fs y:=h.sub fun q=>by simp only [a07,f6z] at q;exact q.2
theorem a6Z.block {Fs:a1f} {i:Nat} {x:Code} (h:a6Z Fs (.block i x)):a6Z Fs x:=h.sub fun q=>by simpa only [a07] using q
theorem a6Z.loop {Fs:a1f} {x:Code} (h:a6Z Fs (.loop x)):a6Z Fs x:=h.sub fun q=>by simpa only [a07] using q
theorem a6Z.ops {Fs:a1f} {id:Nat} {ops:Array Oper} {d:Bool} (h:a6Z Fs (.region id ops d)) (Fe:Fence) (hFe:Fs Fe):Fe=Fence.wide∨ ∀o∈ops.toList,∀c,o.op≠ .defer c:=h.2.imp (fun q=>q Fe hFe) c1c
theorem a93 {R:Type} {cl:a0e} {hs:a53} {X:Ctx} {Fs:a1f} (hX:X N n0 F B M0 w0 e0) (hcl:a0c P cl) (hdr:a5F P cl) (hF:∀k,F k→k<kb):∀(n:Nat) {c:Code} {k:Ex→St→Option R} {r:R} {env:Env} {st:St} {a:Act} {w:World},okC N c=true→a6Z Fs c→(∀b∈a0V c,c8F P hs kb b X Fs)→
  Rel P N n0 B M0 w0 F e0 env st a w→a4z P cl hs kb n c st k=some r→ ∀Fe nn,Fs Fe→c.wpIn Fe nn P (c1b P N n0 B M0 w0 F e0 k r) a w:=by
 intro n;induction n using Nat.strongRecOn with
 |_ n ih=>
 intro c k r env st a w hok hfs hlo h hk Fe nn hFe;cases n with
 |zero=>cases hk
 |succ n=>
 have ihn:= @ih n (Nat.lt_succ_self n);cases hl:a4D P kb hs c st with
 | some alts=>
  unfold a4D at hl;split at hl
  ·cases hl
  ·rename_i id f hlo1
   have hmem:c∈a0V c:=by
    unfold b7S at hlo1;cases c with
    |seq x y=>
     cases x<;>first|(simp [c8k] at hlo1;done)|skip
     rename_i rid rops rd;cases y<;>first|(simp [c8k] at hlo1;done)|(cases rd<;>first|(simp [c8k] at hlo1;done)|simp [a0V,d2k])
    |_=>first|(simp [c8k] at hlo1;done)|simp [a0V]
   have hla:a4D P kb hs c st=some alts:=by unfold a4D;rw [hlo1];exact hl
   simp only [a4z,hla] at hk;rw [a5C] at hk;cases hx:a6S alts some with
   |none=>rw [hx] at hk;cases hk
   |some y=>
    rw [hx] at hk;obtain ⟨env1,hcl1⟩:=a1A h hF hs.loops id;exact wpIn_mono (hlo c hmem id f hlo1 _ alts hl y hx hX hF hok hcl1 Fe nn hFe) fun e a w hp=>d81 hk hp
 |none=>
 cases c with
 |skip=>simp only [a4z,hl] at hk;exact wpIn_skip ⟨env,st,h,hk⟩
 |label l=>simp only [a4z,hl] at hk;exact wpIn_label ⟨env,st,h,hk⟩
 |ret=>simp only [a4z,hl] at hk;exact wpIn_ret ⟨env,st,h,hk⟩
 |exit id=>simp only [a4z,hl] at hk;exact wpIn_exit ⟨env,st,h,hk⟩
 | seq x y=>
  simp only [okC,f6z] at hok;simp only [a4z,hl] at hk;simp only [a0V,List.mem_append] at hlo;refine wpIn_seq (wpIn_mono (ihn hok.1 hfs.seq1 (fun b hb=>hlo b (.inr (.inl hb))) h hk Fe nn hFe) ?_)
  intro e a' w' hp;cases e with
  |normal=>
   obtain ⟨env',st',h1,h2⟩:=hp;exact ihn hok.2 hfs.seq2 (fun b hb=>hlo b (.inr (.inr hb))) h1 h2 Fe nn hFe
  |exit i=>exact hp
  |ret=>exact hp
  |_=>exact hp.elim
 | block id x=>
  simp only [okC] at hok;simp only [a4z,hl] at hk;refine wpIn_block (wpIn_mono (ihn hok hfs.block (by simpa [a0V] using hlo) h hk Fe nn hFe) ?_)
  intro e a' w' hp;cases e with
  |normal=>exact hp
  | exit i=>
   obtain ⟨env',st',h1,h2⟩:=hp;simp only [Exit.inBlock];simp only [a0o] at h2;by_cases hi:i=id
   ·rw [cond_true (by simpa using hi)] at h2
    rw [if_pos hi];exact ⟨env',st',h1,h2⟩
   ·rw [cond_false (by simpa using hi)] at h2
    rw [if_neg hi];exact ⟨env',st',h1,h2⟩
  |ret=>exact hp
  |_=>exact hp.elim
 | cond c x y=>
  simp only [okC,f6z] at hok;simp only [a4z,hl] at hk;simp only [a0V,f6M,List.mem_append] at hlo;have hc:=h.ev c;split at hk
  ·rename_i b he
   rw [he] at hc;have hb:a.eval c= .bool b:=hc;cases b with
   |true=>exact wpIn_cond_true hb (ihn hok.1 hfs.cond1 (fun b hb=>hlo b (.inr (.inl hb))) h hk Fe nn hFe)
   |false=>exact wpIn_cond_false hb (ihn hok.2 hfs.cond2 (fun b hb=>hlo b (.inr (.inr hb))) h hk Fe nn hFe)
  ·rename_i b he
   rw [he] at hc;have hb:a.eval c= .bool b:=hc;split at hk
   ·rename_i t
    have put:∀z:Bool,b=z→Rel P N n0 B M0 w0 F e0 env {st with tmps:=set st.tmps t (.c (.k z))} a w:=by
     intro z hz;subst hz;refine h.tmps fun t' y hy=> ?_
     rw [a00] at hy;by_cases ht:t'=t
     ·rw [if_pos ht] at hy
      simp only [f6x] at hy;subst hy ht;exact hb
     ·rw [if_neg ht] at hy
      exact h.tm t' y hy
    cases b with
    |true=>exact wpIn_cond_true hb (ihn hok.1 hfs.cond1 (fun b hb=>hlo b (.inr (.inl hb))) (put true rfl) hk Fe nn hFe)
    |false=>exact wpIn_cond_false hb (ihn hok.2 hfs.cond2 (fun b hb=>hlo b (.inr (.inr hb))) (put false rfl) hk Fe nn hFe)
   ·cases hk
  ·cases hk
 | loop x=>
  simp only [okC] at hok;cases hlw:b7S hs (.loop x) with
  |some q=>
   simp only [a4z,hl,hlw] at hk;obtain ⟨env2,hcl2⟩:=a1A h hF hs.loops (3*a10 x);refine a3B (fun m a' w'=>a'=a∧w'=w) 0 ⟨rfl,rfl⟩ ?_
   rintro m a' w' ⟨rfl,rfl⟩;refine wpIn_mono (ihn hok hfs.loop (fun b hb=>hlo b (by simp [a0V,hb])) hcl2 hk Fe nn hFe) ?_
   intro e a'' w'' hp;cases e with
   |normal=>obtain ⟨_,_,_,h4⟩:=hp;cases h4
   |exit i=>exact hp
   |ret=>exact hp
   |_=>exact hp.elim
  |none=>
  refine a3B (fun m a w=>m≤n+1∧ ∃env st,Rel P N n0 B M0 w0 F e0 env st a w∧a4z P cl hs kb m (.loop x) st k=some r) (n+1) ⟨Nat.le_refl _,env,st,h,hk⟩ ?_
  rintro m a' w' ⟨hm,env',st',h1,h2⟩;cases m with
  |zero=>cases h2
  | succ m=>
   have hl':a4D P kb hs (.loop x) st'=none:=by unfold a4D;rw [hlw]
   simp only [a4z,hl',hlw] at h2;obtain ⟨env2,hcl2⟩:=a1A h1 hF hs.loops (3*a10 x);refine wpIn_mono (@ih m (by omega) _ _ _ _ _ _ _ hok hfs.loop (fun b hb=>hlo b (by simp [a0V,hb])) hcl2 h2 Fe nn hFe) ?_
   intro e a'' w'' hp;cases e with
   |normal=>
    obtain ⟨env'',st'',h3,h4⟩:=hp;obtain ⟨env3,hcl3⟩:=a1A h3 hF hs.loops (3*a10 x);exact ⟨m,Nat.lt_succ_self m,by omega,env3,_,hcl3,h4⟩
   |exit i=>exact hp
   |ret=>exact hp
   |_=>exact hp.elim
 | region id ops d=>
  simp only [okC] at hok;cases d with
  |false=>
   simp only [a4z,hl] at hk;refine wpIn_region_list ?_;have:=a6X (n:=nn) (k:=k .normal) (r:=r) (rest:=[]) (l:=ops.toList) (Q:=c1b P N n0 B M0 w0 F e0 k r) (hfs.1 Fe hFe) hcl (fun a w hp=>hp) (b6t h hs id) (c35 hok) (hfs.ops Fe hFe) (fun o _=>d2i hF) hk
   rwa [List.append_nil] at this
  |true=>
   simp only [a4z,hl] at hk;exact hdr (hfs.1 Fe hFe) (hfs.ops Fe hFe) hF (b6t h hs id) (c35 hok) hk fun a w hp=>hp
 |_=>simp only [a4z,hl] at hk;cases hk
end
theorem d82 {n m:Nat} (hnm:n≤m):∀{c:Code},okC n c=true→okC m c=true:=by
 intro c;induction c with
 |region id ops d=>
  intro h;simp only [okC,List.all_eq_true] at h⊢;intro o ho;have:=h o ho;cases hd:o.dst with
  |some d=>rw [hd] at this;exact Nat.ble_eq_true_of_le (Nat.le_trans (f6I this) hnm)
  |none=>rfl
 |seq a b iha ihb=>intro h;simp only [okC,f6z] at h⊢;exact ⟨iha h.1,ihb h.2⟩
 |cond c a b iha ihb=>intro h;simp only [okC,f6z] at h⊢;exact ⟨iha h.1,ihb h.2⟩
 |block id b ih=>intro h;simp only [okC] at h⊢;exact ih h
 |loop b ih=>intro h;simp only [okC] at h⊢;exact ih h
 |rangeFunc g ps a b iha ihb=>
  intro h;simp only [okC,f6z,List.all_eq_true] at h⊢;exact ⟨⟨iha h.1.1,ihb h.1.2⟩,fun p hp=>Nat.ble_eq_true_of_le (Nat.le_trans (f6I (h.2 p hp)) hnm)⟩
 |_=>intro _;rfl
section
variable {P:Program} {N n0 kb:Nat} {F:Nat→Prop} {B M0:a0D} {w0:World} {e0:a5i} {env:Env} {st:St} {a:Act} {w:World}
theorem c8G {xs:List V}:∀{i t:Nat},get (params i xs) t=if i≤t then xs[t-i]? else none:=by
 induction xs with
 |nil=>intro i t;simp [params,get]
 | cons x xs ih=>
  intro i t;simp only [params,get,a0o,ih];by_cases h:i=t
  ·subst h;simp
  ·rw [cond_false (by simpa using h)]
   by_cases h1:i≤t
   ·rw [if_pos h1,if_pos (by omega),show t-i=(t-(i+1))+1 by omega,List.getElem?_cons_succ]
   ·rw [if_neg h1,if_neg (by omega)]
def a4A (a:Act):ResultVar→Sem Value
 | .tmp t=>pure (a.tmps.getD t undef)
 | .cell x t=>do loadVar t (←asAddr (a.tmps.getD x undef))
theorem c1d:∀{ks:List Nat} {mem:AL Obj} {key:Nat} {ob:Obj},get (a0z mem ks) key=some ob→ ∃ob0,get mem key=some ob0∧ ∀(s:a1J) b x,a2F P s ob b x→a2F P s ob0 b x
 | [],mem,key,ob,h=>⟨ob,h,fun _ _ _ q=>q⟩
 | k ::ks,mem,key,ob,h=>by
  simp only [a0z] at h;obtain ⟨ob1,h1,h2⟩:=c1d h;cases hg:get mem k with
  |none=>rw [hg] at h1;exact ⟨ob1,h1,h2⟩
  | some o=>
   rw [hg] at h1;simp only [a00] at h1;by_cases hk:key=k
   ·rw [if_pos hk] at h1
    simp only [f6x] at h1;subst h1 hk;refine ⟨o,hg,fun s b x hm=> ?_⟩
    have:=h2 s b x hm;cases o with
    |row e ex nl xs=>
     simp only [b57,a2F] at this⊢;refine ⟨this.1,this.2.1,?_⟩;rcases this.2.2 with q|q
     ·cases q
     ·exact .inr q
    |_=>exact this
   ·rw [if_neg hk] at h1
    exact ⟨ob1,h1,h2⟩
theorem c36 {env:Env} (mem:AL Obj) (ks:List Nat):a0F w (Sof P B M0 n0 env mem w) w (Sof P B M0 n0 env (a0z mem ks) w):=fun b o v hS hv=>
 ⟨⟨hS.1,hS.2.1,fun key ob hg hm=>let ⟨ob0,g0,m0⟩:=c1d (P:=P) hg;hS.2.2 key ob0 g0 (m0 _ _ _ hm)⟩,hv⟩
theorem a3a (h:Rel P N n0 B M0 w0 F e0 env st a w):∀{l:List ResultVar} {rs:List V},a2I P st l=some rs→
  ∃vs,(l.mapM (a4A a)).run P w= .ok vs w∧All2 (a0x P env (Sof P B M0 n0 env st.mem w) w) rs vs
 | [],rs,hr=>by
  simp only [a2I,f6x] at hr;subst hr;exact ⟨[],by simp,trivial⟩
 | .tmp t::l,rs,hr=>by
  simp only [a2I] at hr;split at hr
  ·rename_i xs hxs
   simp only [f6x] at hr;subst hr;obtain ⟨vs,h1,h2⟩:=a3a h hxs;refine ⟨a.tmps.getD t undef::vs,?_,h.evu (.tmp t),h2⟩;simp only [List.mapM_cons,a4A,f6D,f6E,f6A,h1]
  ·cases hr
 | .cell x T::l,rs,hr=>by
  simp only [a2I] at hr;split at hr
  ·rename_i y xs hy hxs
   simp only [f6x] at hr;subst hr;obtain ⟨vs,h1,h2⟩:=a3a h hxs;obtain ⟨ad,v,q1,q2,q3⟩:=b3h h.ob (h.evu (.tmp x)) hy;have q1':a.tmps.getD x undef= .pointer (some ad):=q1;refine ⟨v::vs,?_,q3,h2⟩;simp only [List.mapM_cons,a4A,f6D,q1',asAddr,f6E,f6A,q2,h1]
  ·cases hr
theorem d83 {S:a0D} {x:V} {v:Value} (hp:b0R x=true) (h:a0x P env S w x v):a3R P env S w x v:=by
 cases x with
 |c c=>exact h
 |g xs=>exact h
 |t=>cases hp
 |w=>cases hp
theorem c37 {S:a0D} {rs:List V} {vs:List Value} (hp:rs.all b0R=true) (h:All2 (a0x P env S w) rs vs):a0x P env S w (a3f rs) (if h:vs.length=1 then vs[0] else .tuple vs.toArray):=by
 rw [List.all_eq_true] at hp;have hl:=h.length;match rs,vs,h,hl,hp with
 | [],[],_,_,_=>exact ⟨#[],rfl,trivial⟩
 | [x],[v],h,_,_=>simpa [a3f] using h.1
 |x::y::r,v::u::s,h,_,hp=>
  rw [dif_neg (by simp)]
  exact ⟨_,rfl,h.mono fun x v hx hxv=>d83 (hp x hx) hxv⟩
theorem b08 {S:a0D}:∀{ts:List TypeId} {xs:List V} {vs:List Value},All2 (a0x P env S w) xs vs→All2 (a0x P env S w) (b3a P ts xs) vs
 | [],xs,vs,h=>by simpa [b3a] using h
 |T::ts,[],[],h=>by simpa [b3a] using h
 |T::ts,x::xs,v::vs,h=>⟨b71 h.1,b08 h.2⟩
 |T::ts,[],_::_,h=>h.elim
 |T::ts,_::_,[],h=>h.elim
theorem c1e {fn:Func} {own:Bool} {r:Res} (h:Rel P N n0 B M0 w0 F e0 env st a w) (hf:b6c P fn own kb st=some r):
  ∃v,(results fn a.tmps).run P w= .ok v w∧e8L P n0 B M0 w0 F e0.f env r.2 w∧a0x P env (Sof P B M0 n0 env r.2 w) w (a3f r.1) v:=by
 unfold b6c at hf;split at hf
 ·cases hf
 ·rename_i rs hrs
  simp only at hf;obtain ⟨vs,h1,h2⟩:=a3a h hrs;have hpre:∃mem rs',(bif own then st.mem else a0z st.mem (rs.flatMap a22))=mem∧(bif own then rs else rs.map (b5L mem))=rs'∧Rel P N n0 B M0 w0 F e0 env {st with mem} a w∧All2 (a0x P env (Sof P B M0 n0 env mem w) w) rs' vs:=by
   cases own with
   |true=>exact ⟨_,_,rfl,rfl,h,h2⟩
   |false=>
    have hsh:=Rel.share (rs.flatMap a22) (mem:=st.mem) h;exact ⟨_,_,rfl,rfl,hsh,h2.mapl fun x v _ hxv=>a3A hsh.ob hsh.rows (a0x.mono (c36 _ _) (fun _=>rfl) hxv)⟩
  obtain ⟨mem,rs',hmem,hrs',hsh,h2'⟩:=hpre;rw [hmem,hrs'] at hf;split at hf
  ·cases hf
  ·rename_i acc hacc
   cases hp:(b3a P fn.resultTypes.toList rs').all b0R with
   |false=>rw [hp] at hf;cases hf
   | true=>
    rw [hp] at hf;simp only [cond_true,f6x] at hf;subst hf;have h3:All2 (a0x P env (Sof P B M0 n0 env mem w) w) (b3a P fn.resultTypes.toList rs') vs:=b08 h2';have hwk:=hsh.weaken (tmps:=st.tmps) (mem:=c3A (fun x=>acc.any fun r=>Nat.beq r.key x) mem) (fun _ _ q=>q) (fun _ _ q=>b1Q _ _ _ _ q)
    have hk2:a0F w (Sof P B M0 n0 env mem w) w (Sof P B M0 n0 env (c3A (fun x=>acc.any fun r=>Nat.beq r.key x) mem) w):=fun b o v hS hv=>⟨⟨hS.1,hS.2.1,fun key ob hg hmu=>hS.2.2 key ob (b1Q _ _ _ _ hg) hmu⟩,hv⟩
    refine ⟨if h:vs.length=1 then vs[0] else .tuple vs.toArray,?_,hwk.toM,c37 hp (h3.mono fun x v _ hxv=>a0x.mono hk2 (fun _=>rfl) hxv)⟩
    have hfun:results fn a.tmps=(do let vs←fn.results.mapM (a4A a);pure (if h:vs.size=1 then vs[0] else .tuple vs)):=by
     unfold results;congr 1
    rw [hfun,Array.mapM_eq_mapM_toList];simp only [map_eq_pure_bind,f6D,h1,f6A,f6E];simp
def Off (env:Env) (mem:AL Obj) (b:Nat):Prop:=∀key o,get mem key=some o→a0S o→(env key).blk≠b
theorem Off.new (h:Rel P N n0 B M0 w0 F e0 env st a w) {b:Nat} (hb:w.heap.size≤b):Off env st.mem b:=fun key o hg hr=>by have:=h.lt hg hr;omega
theorem Rel.alienM (h:Rel P N n0 B M0 w0 F e0 env st a w) {w':World} {row:Option Nat} (hg:w.grownBy w' row) (hmk:a2J n0 w' e0.D a.defers)
  (hrow:∀r,row=some r→(n0≤r∨ ∀o,M0 r o)∧(∀c T f,w.heap[r]?≠some (.cells c T f))∧Off env st.mem r):Rel P N n0 B M0 w0 F e0 env st a w':=by
 have hcell:∀(b:Nat) (cur:Array Value) (T:TypeId) (fr:Nat×Nat),w.heap[b]?=some (Go.Obj.cells cur T fr)→w'.heap[b]?=some (Go.Obj.cells cur T fr):=by
  intro b cur T fr hb;rw [hg.block b (f6H.1 hb).1 (fun e=>(hrow b e.symm).2.1 _ _ _ hb)]
  exact hb
 have hk:a0F w (Sof P B M0 n0 env st.mem w) w' (Sof P B M0 n0 env st.mem w'):=by
  intro b o v hS hv;refine ⟨⟨hS.1,Nat.lt_of_lt_of_le hS.2.1 hg.size,hS.2.2⟩,?_⟩;obtain ⟨cur,T,fr,h1,h2⟩:=a7S hv;exact a4a (hcell b cur T fr h1) h2
 refine ⟨h.size,hmk,h.hn0,fun t x hx=>a0q.mono hk (fun _=>rfl) (h.tm t x hx),fun key o hgk=>a1r hk (fun hr=> ?_) (h.ob key o hgk),h.ds,h.mu,h.pr,?_,h.bb,h.fx,h.gi⟩
 ·exact hg.block _ (h.lt hgk hr) (fun e=>(hrow _ e.symm).2.2 key o hgk hr rfl)
 ·refine Chg.trans h.ch (M':=fun b _=>row=some b) ⟨hg.os,hg.tape,hg.output,hg.size,fun b cur T fr hb=>⟨cur,fr,hcell b cur T fr hb,rfl,fun _ _=>rfl,.inl rfl⟩,fun b ob hb hno=> ?_⟩ (fun b o hm=>by
    rcases (hrow b hm).1 with q|q
    ·exact .inr (by rw [←h.hn0];exact q)
    ·exact .inl (q o))
  rw [hg.block b (f6H.1 hb).1 (fun e=>hno 0 e.symm)]
  exact hb
theorem Rel.act (h:Rel P N n0 B M0 w0 F e0 env st a w) {tmps:AL V} {a2:Act} {D':List Deferred} (hd:a2J n0 w D' a2.defers) (ht:∀t x,get tmps t=some x→a0q P env (Sof P B M0 n0 env st.mem w) w a2 x (a2.tmps.getD t undef)):
  Rel P a2.tmps.size n0 B M0 w0 F ⟨e0.f,D'⟩ env ⟨tmps,st.mem⟩ a2 w:=⟨rfl,hd,h.hn0,ht,h.ob,h.ds,h.mu,h.pr,h.ch,h.bb,h.fx,h.gi⟩
theorem Off.other (h:Rel P N n0 B M0 w0 F e0 env st a w) {b:Nat} {ob:Go.Obj} (hb:w.heap[b]?=some ob) (h1:∀c T f,ob≠ .cells c T f) (h2:∀e c,ob≠ .map e c):Off env st.mem b:=by
 intro key o hg hr he;have ho:=h.ob key o hg;cases o with
 |box cs=>obtain ⟨cur,T,q,_⟩:=ho;rw [he,hb] at q;exact h1 _ _ _ (Option.some.inj q)
 |row e ex nl xs=>
  obtain ⟨_,⟨q,_⟩|⟨_,_,cap,cur,_,⟨fr,_,q⟩,_⟩⟩:=ho
  ·rw [show nl=false from hr] at q;cases q
  ·rw [he,hb] at q;exact h1 _ _ _ (Option.some.inj q)
 |map kt vt es=>obtain ⟨ents,clock,q,_⟩:=ho;rw [he,hb] at q;exact h2 _ _ (Option.some.inj q)
 |tab kt vt es=>obtain ⟨ents,clock,q,_⟩:=ho;rw [he,hb] at q;exact h2 _ _ (Option.some.inj q)
 |dat T d=>obtain ⟨_,cur,E,q,_⟩:=ho;rw [he,hb] at q;exact h1 _ _ _ (Option.some.inj q)
 |krow e k i c xs=>obtain ⟨_,_,_,_,cap,cur,_,⟨fr,_,q⟩,_⟩:=ho;rw [he,hb] at q;exact h1 _ _ _ (Option.some.inj q)
theorem b09 {fn:Func} {own:Bool} {r:Res} {R:Ending→World→Prop} {tmps:Array Value} (hf:b6c P fn own kb st=some r)
  (hR:∀v w,e8L P n0 B M0 w0 F e0.f env r.2 w→a0x P env (Sof P B M0 n0 env r.2 w) w (a3f r.1) v→R (.returned v) w):∀(ns:List Nat) {w:World},
  Rel P N n0 B M0 w0 F ⟨e0.f,[]⟩ env st {tmps:=tmps,defers:=[]} w→(∀b∈ns,n0≤b∧w.heap[b]?=some (.deferred (some [])))→ns.Nodup→LeavesInM Fence.wide 0 P fn tmps R (ns.map mkD) .returning w
 | [],w,h,_,_=>by
  obtain ⟨v,q1,q2,q3⟩:=c1e h hf;exact ⟨v,q1,hR v w q2 q3⟩
 | b::ns,w,h,hb,hn=>by
  obtain ⟨h1,h2⟩:=hb b (by simp)
  have hlt:b<w.heap.size:=(f6H.1 h2).1;refine ⟨(fun h=>by cases h),.inl ⟨b,_,rfl,run_takeDeferred h2,b09 hf hR ns ?_ (fun c hc=> ?_) (List.nodup_cons.1 hn).2⟩⟩
  ·exact h.alienM (row:=some b) ⟨rfl,rfl,rfl,by simp,fun k hk hne=>World.putObj_heap_other (fun e=>hne (by rw [e]))⟩ .nil fun r e=>by
    cases e;exact ⟨.inl h1,(fun c T f e=>by rw [h2] at e;cases e),Off.other h h2 (fun _ _ _ e=>by cases e) (fun _ _ e=>by cases e)⟩
  ·refine ⟨(hb c (by simp [hc])).1,?_⟩
   rw [World.putObj_heap_other (show c≠b from fun e=>by subst e;exact (List.nodup_cons.1 hn).1 hc)]
   exact (hb c (by simp [hc])).2
structure a4m (P:Program):Prop where
 mixed:P.follows .mixedOrders=true
 ok:∀(f:Nat) (fn:Func) (c:Code),P.funcs[f]?=some fn→fn.body=some c→okC fn.ntmps c=true
 num:∀(f:Nat) (fn:Func),P.funcs[f]?=some fn→fn.body.isNone=false→(fn.name== "runtime.NumGoroutine")=false
def c38 (P:Program) (hs:a53) (kb:Nat) (f:FuncId) (X:Ctx:=e8k):Prop:=∀fn c,P.funcs[f]?=some fn→fn.body=some c→ ∀b∈a0V c,c8F P hs kb b X
def e4x (X:Ctx) (P:Program) (f:FuncId) (args:List V) (mem:AL Obj) (res:Res):Prop:=
 ∀(B:a0D) (env:Env) (w:World) (vs:Array Value),(∀N,X N w.heap.size (· <mem.length) B (a7F P env mem) w env)→b78 P B env mem w→All2 (a0x P env (Sof P B (a7F P env mem) w.heap.size env mem w) w) args vs.toList→
  Calls P f vs w fun e w'=>∃v,e= .returned v∧b1S P B env mem w res v w'
theorem b3H {X:Ctx} {cl:a0e} {hs:a53} {n:Nat} {f:FuncId} {args:List V} {mem:AL Obj} {r:Res} (hP:a4m P) (hcl:a0c P cl) (hdr:a5F P cl) (hlo:c38 P hs mem.length f X)
  (h:body P cl hs n f args mem=some r):e4x X P f args mem r∧a72 P f:=by
 unfold body at h;split at h
 ·cases h
 ·rename_i fn hfn
  split at h
  ·cases h
  ·rename_i c hc
   have hbn:fn.body.isNone=false:=by rw [hc];rfl
   refine ⟨fun B env w vs hX hpre hargs=> ?_,fn,hfn,hbn,hP.num f fn hfn hbn⟩
   refine callsIn_wide.1 (callsIn_of_wp_marks (n:=0) hfn hc trivial ?_);have M:=hpre.rel;have hrel:Rel P (vs++Array.replicate (fn.ntmps-vs.size) undef).size w.heap.size B (a7F P env mem) w (· <mem.length) env env {tmps:=params 0 args,mem} {tmps:=vs++Array.replicate (fn.ntmps-vs.size) undef,defers:=[]} w:=by
    refine ⟨rfl,.nil,rfl,?_,M.ob,M.ds,M.mu,M.pr,M.ch,M.bb,M.fx,M.gi⟩;intro t x hx;rw [c8G,if_pos (Nat.zero_le _),Nat.sub_zero] at hx;obtain ⟨v,h1,h2⟩:=hargs.get hx;rw [Array.getElem?_toList] at h1;have hlt:=(f6H.1 h1).1;have:(vs++Array.replicate (fn.ntmps-vs.size) undef).getD t undef=v:=by
     rw [f6K,Array.getElem?_append_left hlt,h1];rfl
    rw [this];exact a0q.of h2
   have hN:fn.ntmps≤(vs++Array.replicate (fn.ntmps-vs.size) undef).size:=by simp;omega
   refine wpIn_mono (a93 (hX _) hcl hdr (fun _ h=>h) n (d82 hN (hP.ok f fn c hfn hc)) (fsW _) (hlo fn c hfn hc) hrel h Fence.wide 0 rfl) ?_
   intro e a' w' hp;have fin:a06 P (vs++Array.replicate (fn.ntmps-vs.size) undef).size w.heap.size B (a7F P env mem) w (· <mem.length) env (fun st=>b6c P fn hs.rows mem.length st) r a' w'→
     LeavesInM Fence.wide 0 P fn a'.tmps (fun e w'=>∃v,e= .returned v∧b1S P B env mem w r v w') a'.defers .returning w':=by
    rintro ⟨env',st',h1,h2⟩;obtain ⟨ns,d1,d2,d3⟩:=h1.dfr;rw [d1,List.append_nil];have h3:=h1.act (tmps:=st'.tmps) (a2:={tmps:=a'.tmps,defers:=[]}) (D':=[]) .nil h1.tm;exact b09 (env:=env') (st:=st') h2 (fun v w q1 q2=>⟨v,rfl,env',q1,q2⟩) ns h3 d2 d3
   cases e with
   |normal=>exact fin hp
   |ret=>exact fin hp
   |exit i=>
    obtain ⟨env',st',h1,h2⟩:=hp;cases h2
   |_=>exact hp.elim
theorem b6u {cl:a0e} {hs:a53} {n:Nat} {f:FuncId} {args:List V} {mem:AL Obj} {r:Res} (hP:a4m P) (hcl:a0c P cl) (hdr:a5F P cl) (hlo:c38 P hs mem.length f)
  (h:body P cl hs n f args mem=some r):a13 P f args mem r∧a72 P f:=
 ⟨fun B env w vs hpre hargs=>(b3H hP hcl hdr hlo h).1 B env w vs (fun _=>trivial) hpre hargs,(b3H hP hcl hdr hlo h).2⟩
def ext (f:FuncId) (sp:List V→AL Obj→Option (List (Bool×Res))) (T:a0e):a0e:=fun g args mem=>
 bif Nat.beq g f then (match sp args mem with
  |some alts=>some alts
  |none=>T g args mem) else T g args mem
def a3k:a0e:=fun _ _ _=>none
theorem a1N:a0c P a3k:=fun _ _ _ _ h=>by cases h
theorem e8M {T:a0e} (hT:a0c P T) {f:FuncId} {sp:List V→AL Obj→Option (List (Bool×Res))} (hent:a72 P f)
  (h:∀args mem alts,sp args mem=some alts→ ∀res,a6S alts some=some res→a13 P f args mem res):a0c P (ext f sp T):=by
 intro g args mem alts hg;unfold ext at hg;cases hb:Nat.beq g f with
 |false=>rw [hb] at hg;exact hT g args mem alts hg
 | true=>
  rw [hb] at hg;have:=f6y hb;subst this;simp only [cond_true] at hg;split at hg
  ·rename_i alts' hs
   simp only [f6x] at hg;subst hg;exact ⟨hent,h args mem alts' hs⟩
  ·exact hT g args mem alts hg
theorem d2l {X:Ctx} {Fs:a1f} {cl:a0e} {hs':a53} {kb:Nat} {b:Code} {f:St→Option (List (Bool×(Ex×St)))} (hcl:a0c P cl) (hdr:a5F P cl) (hfs:a6Z Fs b) (hin:∀b'∈a0V b,c8F P hs' kb b' X Fs)
  (ts ks:List Nat)
  (h:∀st alts,f st=some alts→ ∀x,a6S alts some=some x→ ∃n,a4z P cl hs' kb n b st (fun e st=>some (e,a5h ts ks st))=some x):a30 P kb b f X Fs:=by
 intro st alts hst x hx N n0 F B M0 w0 e0 env a w hX hF hok hrel Fe nn hFe;obtain ⟨n,hn⟩:=h st alts hst x hx;refine wpIn_mono (a93 hX hcl hdr hF n hok hfs hin hrel hn Fe nn hFe) ?_;intro e a' w' hp;cases e with
 |normal=>obtain ⟨env',st',h1,h2⟩:=hp;exact ⟨env',_,a1M h1 ts ks,h2⟩
 |exit i=>obtain ⟨env',st',h1,h2⟩:=hp;exact ⟨env',_,a1M h1 ts ks,h2⟩
 |ret=>obtain ⟨env',st',h1,h2⟩:=hp;exact ⟨env',_,a1M h1 ts ks,h2⟩
 |_=>exact hp.elim
end
theorem b3I {α:Type} (p:Nat→Bool) (n:Nat):∀(l:AL α),get (c3A p l) n=if p n=true then get l n else none
 | []=>by simp [c3A,get]
 | (k,v)::r=>by
  have ih:=b3I p n r;simp only [c3A];cases hp:p k with
  |true=>
   simp only [cond_true,get,a0o,ih];by_cases hk:k=n
   ·subst hk;simp [hp]
   ·rw [cond_false (by simpa using hk),cond_false (by simpa using hk)]
  |false=>
   simp only [cond_false,ih,get,a0o];by_cases hk:k=n
   ·subst hk;simp [hp]
   ·rw [cond_false (by simpa using hk)]
theorem b6v {sel:Nat→Bool} {mem:AL Obj} {k:Nat}:∀{l:AL Obj},get (b6a sel l mem) k=if sel k=true then (match get l k with|some x=>some x|none=>get mem k) else get mem k
 | []=>by simp [b6a,get]
 | (j,o)::r=>by
  have ih:=b6v (sel:=sel) (mem:=mem) (k:=k) (l:=r);simp only [b6a];cases hs:sel j with
  |true=>
   simp only [cond_true,a00,get,a0o];by_cases hj:k=j
   ·subst hj;simp [hs]
   ·rw [if_neg hj,ih,cond_false (by simpa using Ne.symm hj)]
  |false=>
   simp only [cond_false,ih,get,a0o];by_cases hj:k=j
   ·subst hj;simp [hs]
   ·rw [cond_false (by simpa using Ne.symm hj)]
theorem c8H {l:AL V} {d t:Nat} {x:Option V}:get (c59 l d x) t=if t=d then x.map b7M else get l t:=by
 cases x with
 |none=>simp [c59,a4E]
 |some x=>simp [c59,a00]
theorem a1l {P:Program} {kb:Nat} {o:Oper} {ks:List Nat} {st out:St} {t:Nat}:get (a2l P kb o ks st out).tmps t=if o.dst=some t then (get out.tmps t).map b7M else get st.tmps t:=by
 unfold a2l;cases hd:o.dst with
 |none=>simp
 |some d=>
  simp only [c8H,f6x];by_cases h:t=d
  ·subst h;simp
  ·rw [if_neg h,if_neg (Ne.symm h)]
theorem a79 {P:Program} {kb:Nat} {o:Oper} {ks:List Nat} {st out:St} {k:Nat} (hv:a1K P o=false):get (a2l P kb o ks st out).mem k=if c3C P kb o ks k=true then get out.mem k else get st.mem k:=by
 unfold a2l;simp only [hv,cond_false,b6v,b3I];cases c3C P kb o ks k with
 |true=>cases get out.mem k<;>simp
 |false=>simp
theorem a8a {P:Program} {kb:Nat} {o:Oper} {ks:List Nat} {st out:St} (hv:a1K P o=true):(a2l P kb o ks st out).mem=st.mem:=by
 unfold a2l;simp only [hv,cond_true]
def NoW (st:St):Prop:=∀t x,get st.tmps t=some x→ ∀s b y,x≠ .w s b y
def b6w (P:Program) (kb:Nat) (o:Oper) (st:St):Prop:=
 (∀t x,get st.tmps t=some x→ ∀k∈a5r x,a0J P kb o k=false)∧ ∀k ob,get st.mem k=some ob→a0J P kb o k=false∧ ∀k'∈a1B ob,a0J P kb o k'=false
theorem a4M (c:C):a2n c=a1n c:=by cases c<;>rfl
section
variable {P:Program} {env env':Env} {S S':a0D} {w w':World}
theorem a3R.monoK (h:a0F w S w' S') {x:V} {v:Value} (hk:∀k∈a52 x,env' k=env k) (hr:a3R P env S w x v):a3R P env' S' w' x v:=by
 cases x with
 |c x=>exact a0p.mono h (fun k hk'=>hk k (by rw [a4M] at hk';exact hk')) hr
 |g xs=>
  obtain ⟨vs,h1,h2⟩:=hr;refine ⟨vs,h1,h2.mono fun x y hx=>a0p.mono h fun k hk'=>hk k ?_⟩
  rw [a4M] at hk';exact List.mem_flatMap.2 ⟨x,hx,hk'⟩
 |_=>exact hr.elim
theorem a0x.monoK (h:a0F w S w' S') {x:V} {v:Value} (hk:∀k∈a5r x,env' k=env k) (hr:a0x P env S w x v):a0x P env' S' w' x v:=by
 cases x with
 |c x=>exact a0p.mono h (fun k hk'=>hk k (by rw [a4M] at hk';exact hk')) hr
 |g xs=>
  obtain ⟨vs,h1,h2⟩:=hr;refine ⟨vs,h1,h2.mono fun x y hx=>a0p.mono h fun k hk'=>hk k ?_⟩
  rw [a4M] at hk';exact List.mem_flatMap.2 ⟨x,hx,hk'⟩
 |t xs=>
  obtain ⟨vs,h1,h2⟩:=hr;exact ⟨vs,h1,h2.mono fun x y hx=>a3R.monoK h fun k hk'=>hk k (List.mem_flatMap.2 ⟨x,hx,hk'⟩)⟩
 |w _ _ _=>exact hr.elim
theorem a0q.untagged {a:Act} {x:V} {v:Value} (hn:∀s b y,x≠ .w s b y) (hr:a0q P env S w a x v):a0x P env S w x v:=by
 cases x with
 |w s b y=>exact absurd rfl (hn s b y)
 |_=>exact hr
theorem d2m (h:a0F w S w' S') {s:a1J} {o:Obj} (hk:∀k∈a1B o,env' k=env k) (hh:a0S o→w'.heap[s.blk]?=w.heap[s.blk]?) (hr:a0y P env S w s o):a0y P env' S' w' s o:=by
 cases o with
 |box cs=>
  obtain ⟨cur,T,h1,h2,h3,h4⟩:=hr;refine ⟨cur,T,by rw [hh trivial];exact h1,h2,h3.mono fun x y hx hxy=>a0p.mono h (fun k hk'=>hk k ?_) hxy,h4⟩
  rw [a4M] at hk';exact List.mem_flatMap.2 ⟨x,hx,hk'⟩
 |row e ex nl xs=>exact a2r h hh hr ex
 |map kt vt es=>exact a56 h (hh trivial) hr
 |tab kt vt es=>
  refine c6m h (fun x v hx hxv=>a0p.mono h (fun k hk'=>hk k ?_) hxv) (hh trivial) hr
  obtain ⟨y,hy,rfl⟩:=List.mem_map.1 hx;rw [a4M] at hk';exact List.mem_flatMap.2 ⟨y,hy,hk'⟩
 |dat T d=>exact a57 h (hh trivial) hr
 |krow e k q c xs=>exact a58 h rfl rfl rfl (fun v hx=>a0p.mono h (fun k hk'=>hk k (by rw [a4M] at hk';exact hk')) hx) (hh trivial) hr
end
section
variable {P:Program} {N n0 kb:Nat} {F:Nat→Prop} {B M0:a0D} {w0:World} {e0:a5i} {env:Env} {st:St} {a:Act} {w:World}
theorem d84 (h:Rel P N n0 B M0 w0 F e0 env st a w) (hn:NoW st) {m:St} (ht:∀t x,get m.tmps t=some x→get st.tmps t=some x) (hm:∀k ob,get m.mem k=some ob→get st.mem k=some ob) (F':Nat→Prop):
  Rel P N w.heap.size (Sof P B M0 n0 env st.mem w) (a7F P env m.mem) w F' ⟨env,a.defers⟩ env m a w:=by
 have hk:a0F w (Sof P B M0 n0 env st.mem w) w (Sof P (Sof P B M0 n0 env st.mem w) (a7F P env m.mem) w.heap.size env m.mem w):=fun b o v hS hv=>
  ⟨⟨.inl hS,hS.2.1,fun key ob hg hmu=>hS.2.2 key ob (hm key ob hg) hmu⟩,hv⟩
 refine ⟨h.size,.nil,rfl,fun t x hx=>a0q.of (a0x.mono hk (fun _=>rfl) (a0q.untagged (hn t x (ht t x hx)) (h.tm t x (ht t x hx)))),fun key o hg=>a1r hk (fun _=>rfl) (h.ob key o (hm key o hg)),
  fun k k' o o' hg hg'=>h.ds k k' o o' (hm _ _ hg) (hm _ _ hg'),fun key o b x hg hmu=> .inl ⟨key,o,hg,hmu⟩,?_,Chg.refl _ w,fun b o hS=>hS.2.1,fun _ _=>rfl,h.gi.step h.ch fun b o ⟨k,ob,hg,hmu⟩=>(by rw [←h.hn0];exact h.mu _ _ _ _ (hm k ob hg) hmu)⟩
 intro key e ex xs hg o ho;cases ex with
 |false=>exact .inl (h.rows key e xs (hm _ _ hg) o ho)
 |true=>exact .inr (.inr ⟨_,_,hg,rfl,rfl,.inl rfl⟩)
theorem frame (h:Rel P N n0 B M0 w0 F e0 env st a w) (hn:NoW st) {o:Oper} {ks:List Nat} (hc:b6w P kb o st) (hF:∀k,F k→a0J P kb o k=false) {m out:St} (hmm:∀k,get (a2l P kb o ks st out).mem k=if c3C P kb o ks k=true then get out.mem k else get st.mem k)
  (hm:∀k,get m.mem k=if k∈ks then get st.mem k else none) {env':Env} {a':Act} {w':World}
  (hin:Rel P N w.heap.size (Sof P B M0 n0 env st.mem w) (a7F P env m.mem) w (fun k=>a0J P kb o k=false) ⟨env,a.defers⟩ env' out a' w')
  (hfull:∀k ob,get out.mem k=some ob→c0v ob=true) (ha:∀t,o.dst≠some t→a'.tmps.getD t undef=a.tmps.getD t undef):
  Rel P N n0 B M0 w0 F e0 env' (a2l P kb o ks st out) a' w':=by
 have hsub:∀k ob,get m.mem k=some ob→get st.mem k=some ob∧k∈ks:=by
  intro k ob hg;rw [hm] at hg;by_cases hk:k∈ks
  ·rw [if_pos hk] at hg;exact ⟨hg,hk⟩
  ·rw [if_neg hk] at hg;cases hg
 have hMtS:∀b x,a7F P env m.mem b x→ ∃k ob,k∈ks∧get st.mem k=some ob∧a2F P (env k) ob b x:=fun b x ⟨k,ob,g,q⟩=>⟨k,ob,(hsub k ob g).2,(hsub k ob g).1,q⟩
 have hget:∀k ob,get (a2l P kb o ks st out).mem k=some ob→(c3C P kb o ks k=true∧get out.mem k=some ob)∨(c3C P kb o ks k=false∧k∉ks∧a0J P kb o k=false∧env' k=env k∧get st.mem k=some ob):=by
  intro k ob hg;rw [hmm] at hg;cases hs:c3C P kb o ks k with
  |true=>rw [hs] at hg;exact .inl ⟨rfl,by simpa using hg⟩
  |false=>
   rw [hs] at hg;have hs':=hs;unfold c3C at hs';simp only [Bool.or_eq_false_iff] at hs';refine .inr ⟨rfl,fun hk=> ?_,hs'.2,hin.fx k hs'.2,by simpa using hg⟩
   rw [a1U.2 hk] at hs';cases hs'.1
 -- a block that is not leaned on stays
 have hno:∀k ob,k∉ks→get st.mem k=some ob→a0S ob→ ∀x,¬a7F P env m.mem (env k).blk x:=by
  intro k ob hk hg hr x hmu;obtain ⟨k',ob',h1,h2,h3⟩:=hMtS _ _ hmu;obtain ⟨h4,h5⟩:=a24 h3;exact h.ds k k' ob ob' hg h2 hr h4 (fun e=>hk (e▸h1)) h5
 have hsame:∀k ob,k∉ks→get st.mem k=some ob→a0S ob→w'.heap[(env k).blk]?=w.heap[(env k).blk]?:=fun k ob hk hg hr=>c01 hin.ch (b04 (h.ob _ _ hg) hr) (hno k ob hk hg hr)
 -- where the objects that came back lie
 have hreal:∀k ob,get out.mem k=some ob→a0S ob→w.heap.size≤(env' k).blk∨ ∃k' ob',k'∈ks∧get st.mem k'=some ob'∧a0S ob'∧(env k').blk=(env' k).blk:=by
  intro k ob hg hr;obtain ⟨x,hx⟩:=d2c (P:=P) (s:=env' k) hr (hfull k ob hg);rcases hin.mu k ob _ x hg hx with hmu|h1
  ·obtain ⟨k',ob',h1,h2,h3⟩:=hMtS _ _ hmu
   obtain ⟨h4,h5⟩:=a24 h3;exact .inr ⟨k',ob',h1,h2,h4,h5.symm⟩
  ·exact .inl h1
 have hS1:a0F w' (Sof P (Sof P B M0 n0 env st.mem w) (a7F P env m.mem) w.heap.size env' out.mem w') w' (Sof P B M0 n0 env' (a2l P kb o ks st out).mem w'):=by
  intro b x u hS hcell;refine ⟨⟨?_,hS.2.1,?_⟩,hcell⟩
  ·rcases hS.1 with h1|h1|h1
   ·exact h1.1
   ·exact .inr (.inl (Nat.le_trans h.n0le h1))
   ·obtain ⟨k,ob,_,h2,h3⟩:=hMtS _ _ h1
    rcases h.mu _ _ _ _ h2 h3 with h4|h4
    ·exact .inr (.inr h4)
    ·exact .inr (.inl h4)
  ·intro key ob hg hmu
   rcases hget key ob hg with ⟨_,h2⟩|⟨_,h2,_,h3,h4⟩
   ·exact hS.2.2 key ob h2 hmu
   ·rw [h3] at hmu
    obtain ⟨r1,r2⟩:=a24 hmu;rcases hS.1 with q|q|q
    ·exact q.2.2 key ob h4 hmu
    ·have:=b04 (h.ob _ _ h4) r1
     omega
    ·rw [r2] at q
     exact hno key ob h2 h4 r1 x q
 have hkeys:∀k,a0J P kb o k=false→env' k=env k:=fun k hk=>hin.fx k hk
 obtain ⟨tm0,hst⟩:∃t,t=st:=⟨st,rfl⟩;have hmu':∀k ob b x,get (a2l P kb o ks st out).mem k=some ob→a2F P (env' k) ob b x→w.heap.size≤b∨ ∃k' ob',get st.mem k'=some ob'∧a2F P (env k') ob' b x:=by
  intro k ob b x hg hmu;rcases hget k ob hg with ⟨_,h2⟩|⟨_,_,_,h3,h4⟩
  ·rcases hin.mu k ob b x h2 hmu with q|q
   ·obtain ⟨k',ob',_,q2,q3⟩:=hMtS _ _ q
    exact .inr ⟨k',ob',q2,q3⟩
   ·exact .inl q
  ·rw [h3] at hmu
   exact .inr ⟨k,ob,h4,hmu⟩
 have hkeep:=c6l (B:=B) (M0:=M0) (n0:=n0) (mem':=(a2l P kb o ks st out).mem) (env':=env') hin.ch (fun b x hx=>let ⟨k,ob,_,q2,q3⟩:=hMtS b x hx;⟨k,ob,q2,q3⟩) hmu'
 have hdfr:a2J n0 w' e0.D a'.defers:=h.dfr.join hin.dfr h.n0le fun b hb=>hin.ch.other b _ hb fun x ⟨k,ob,g,q⟩=>b6f (h.ob k ob (hsub k ob g).1) q hb
 refine ⟨hin.size,hdfr,h.hn0,?_,?_,?_,?_,?_,?_,h.bb,?_,h.gi⟩
 ·intro t x hx
  rw [a1l] at hx;by_cases hd:o.dst=some t
  ·rw [if_pos hd] at hx
   cases hg:get out.tmps t with
   |none=>rw [hg] at hx;cases hx
   |some y=>
    rw [hg] at hx;simp only [f6T,f6x] at hx;subst hx;exact a0q.of (a0x.mono hS1 (fun _=>rfl) (a7f (hin.tm t y hg)))
  ·rw [if_neg hd] at hx
   rw [ha t hd];exact a0q.of (a0x.monoK hkeep (fun k hk=>hkeys k (hc.1 t x hx k hk)) (a0q.untagged (hn t x hx) (h.tm t x hx)))
 ·intro key ob hg
  rcases hget key ob hg with ⟨_,h2⟩|⟨_,h2,_,h3,h4⟩
  ·exact a1r hS1 (fun _=>rfl) (hin.ob key ob h2)
  ·rw [h3]
   exact d2m hkeep (fun k hk=>hkeys k ((hc.2 key ob h4).2 k hk)) (hsame key ob h2 h4) (h.ob key ob h4)
 ·intro k1 k2 o1 o2 hg1 hg2 hr1 hr2 hne heq
  have cross:∀k k' ob ob',get out.mem k=some ob→a0S ob→k'∉ks→env' k'=env k'→get st.mem k'=some ob'→a0S ob'→(env' k).blk≠(env' k').blk:=by
   intro k k' ob ob' g r hk' he' g' r' hb;have hlt:=b04 (h.ob _ _ g') r';rw [he'] at hb;rcases hreal k ob g r with q|⟨k'',ob'',q1,q2,q3,q4⟩
   ·omega
   ·exact h.ds k'' k' ob'' ob' q2 g' q3 r' (fun e=>hk' (e▸q1)) (q4.trans hb)
  rcases hget k1 o1 hg1 with ⟨_,h2⟩|⟨_,h2,_,h3,h4⟩<;>rcases hget k2 o2 hg2 with ⟨_,p2⟩|⟨_,p2,_,p3,p4⟩
  ·exact hin.ds k1 k2 o1 o2 h2 p2 hr1 hr2 hne heq
  ·exact cross k1 k2 o1 o2 h2 hr1 p2 p3 p4 hr2 heq
  ·exact cross k2 k1 o2 o1 p2 hr2 h2 h3 h4 hr1 heq.symm
  ·rw [h3,p3] at heq
   exact h.ds k1 k2 o1 o2 h4 p4 hr1 hr2 hne heq
 ·intro k ob b x hg hmu
  rcases hmu' k ob b x hg hmu with q|⟨k',ob',q1,q2⟩
  ·exact .inr (Nat.le_trans h.n0le q)
  ·exact h.mu k' ob' b x q1 q2
 ·intro key e ex xs hg x hx
  rcases hget key _ hg with ⟨_,h2⟩|⟨_,h2,_,h3,h4⟩
  ·rcases hin.pr key e ex xs h2 x hx with q|q|q
   ·exact q.1
   ·exact .inr (.inl (Nat.le_trans h.n0le q))
   ·obtain ⟨k',ob',_,q2,q3⟩:=hMtS _ _ q
    rcases h.mu _ _ _ _ q2 q3 with q4|q4
    ·exact .inr (.inr q4)
    ·exact .inr (.inl q4)
  ·rw [h3]
   exact h.pr key e ex xs h4 x hx
 ·refine Chg.trans h.ch hin.ch fun b x hx=> ?_
  obtain ⟨k',ob',_,q2,q3⟩:=hMtS _ _ hx;rw [←h.hn0];exact h.mu _ _ _ _ q2 q3
 ·intro k hk
  exact (hkeys k (hF k hk)).trans (h.fx k hk)
theorem d85 {o:Oper} {K:Act→World→Prop} {Q:Exit→Act→World→Prop} (h:o.wp P a w K Q):o.wp P a w (fun a' w'=>K a' w'∧ ∀t,o.dst≠some t→a'.tmps.getD t undef=a.tmps.getD t undef) Q:=by
 have hput:∀(a1:Act) v,a1.tmps=a.tmps→ ∀t,o.dst≠some t→(a1.put o.dst v).tmps.getD t undef=a.tmps.getD t undef:=by
  intro a1 v he t ht;cases hd:o.dst with
  |none=>simp only [Act.put];rw [he]
  |some d=>rw [a7e (fun e=>ht (by rw [hd,e])),he]
 unfold Oper.wp at h⊢;generalize (execOp a.eval o).run P w=r at h⊢;cases r with
 | ok n w'=>
  cases n<;>simp only [Oper.upon] at h⊢<;>
   first
    |exact ⟨h,hput _ _ rfl⟩
    |exact Calls.mono h (fun e w'' he=>by cases e<;>first|exact ⟨he,hput _ _ rfl⟩|exact he)
    |exact Rows.mono h (fun _ _ he=>⟨he,hput _ _ rfl⟩)
    |exact h
 |halt x w'=>cases x<;>simp only [Oper.upon] at h⊢<;>exact h
end
theorem a0k {α β:Type} (b:Bool) (x y:Option α) (k:α→Option β):(bif b then x else y).bind k=bif b then x.bind k else y.bind k:=by cases b<;>rfl
theorem b1a {R:Type} {kb:Nat} {mem:AL Obj} {x:List Ref×List (Bool×Res)} {o:Oper} {st:St} {k:St→Option R}:a65 kb mem x o st k=(a65 kb mem x o st some).bind k:=by
 unfold a65;simp only;rw [a5C]
 conv=>rhs;rw [a5C,Option.bind_assoc]
 cases a6S x.2 some with
 |none=>rfl
 |some r=>
 simp only [Option.bind_some];generalize (a5n r&&_&&_)=b;cases b with
 |false=>rfl
 |true=>
  simp only [cond_true];split<;>rfl
theorem c39 {R:Type} {P:Program} {cl:a0e} {kb:Nat} {f:FuncId} {args:List V} {o:Oper} {st:St} {k:St→Option R}:b58 P cl kb f args o st k=(b58 P cl kb f args o st some).bind k:=by
 unfold b58;split
 ·rfl
 ·split
  ·exact b1a
  ·simp only
   split
   ·exact b1a
   ·rfl
theorem c1f {R:Type} {P:Program} {kb d:Nat} {st:St} {e:Operand→V} {T:TypeId} {x:Operand} {lo hi mx:Option Operand} {k:St→Option R}:b25 P kb d st e T x lo hi mx k=(b25 P kb d st e T x lo hi mx some).bind k:=by
 unfold b25;split
 ·split
  ·rw [a0k];rfl
  ·rfl
 split
 ·split
  ·rw [a0k];rfl
  ·rfl
 ·split
  ·split
   ·rw [a0k];rfl
   ·rfl
  ·split
   ·rfl
   ·rw [a0k]
    congr 1
    ·split
     ·rw [a0k];rfl
     ·rfl
    ·split
     ·rw [a0k];rfl
     ·rfl
theorem b3J {R:Type} {n:Int} {k:St→Option R} {g:Nat→D→St}:∀{xs:List D} {j:Nat},e2Z n (fun j y=>k (g j y)) j xs=(e2Z n (fun j y=>some (g j y)) j xs).bind k
 | [],_=>rfl
 |x::xs,j=>by
  simp only [e2Z];rw [a0k,←b3J];rfl
theorem c8I {R:Type} {P:Program} {st:St} {d:Nat} {T:TypeId} {x i:V} {k:St→Option R}:c8h P st d T x i k=(c8h P st d T x i some).bind k:=by
 unfold c8h;split
 ·rw [a0k,b3J];rfl
 ·split
  ·rw [a0k,b3J];rfl
  ·rfl
 ·rw [a0k];rfl
 ·rfl
theorem d2n {R:Type} {P:Program} {cl:a0e} {kb:Nat} {o:Oper} {st:St} {k:St→Option R}:e8j P cl kb o st k=(e8j P cl kb o st some).bind k:=by
 unfold e8j;simp only;split
 ·rw [a0k]
  congr 1
  ·split<;>rfl
  ·split<;>rfl
 ·rw [a0k]
  congr 1
  ·split<;>rfl
  ·split<;>rfl
 ·split
  ·rw [a0k];rfl
  ·rfl
 ·split
  ·split
   ·split
    ·rw [a0k];rfl
    ·split
     ·split
      ·rw [a0k];rfl
      ·rfl
     ·rfl
   ·split
    ·split
     ·rw [a0k];rfl
     ·rfl
    ·rfl
  ·rfl
 ·split
  ·split
   ·rw [a0k];rfl
   ·rfl
  ·rfl
 ·exact c1f
 ·split
  ·rw [a0k];rfl
  ·split
   ·rw [a0k];rfl
   ·rfl
  ·rfl
 ·split<;>rfl
 ·split
  ·split
   ·rw [a0k]
    congr 1
    split
    ·split<;>rfl
    ·rfl
   ·rfl
  ·rfl
 ·split
  ·split
   ·rw [a0k]
    congr 1
    split
    ·split<;>rfl
    ·split
     ·rw [a0k];rfl
     ·rfl
    ·rfl
   ·rw [a0k]
    congr 1
    split
    ·split
     ·split
      ·rw [a0k];rfl
      ·rfl
     ·rfl
    ·rfl
   ·rfl
  ·rfl
 ·rw [a0k]
  congr 1
  split
  ·split
   ·rw [a0k]
    congr 1
    split
    ·split
     ·rw [b70,b70];rfl
     ·rfl
    ·rfl
   ·rw [a0k]
    congr 1
    split
    ·split
     ·split<;>rfl
     ·rfl
    ·rfl
   ·rfl
  ·rfl
 ·rw [a0k,←c8I];rfl
 ·split
  ·split
   ·rw [a0k]
    congr 1
    ·split
     ·split
      ·rw [a0k];rfl
      ·rfl
     ·split
      ·rw [a0k];rfl
      ·rfl
     ·split
      ·rw [a0k];rfl
      ·rfl
     ·split
      ·rw [a0k];rfl
      ·rfl
     ·rfl
    split
    ·split
     ·rw [a0k];rfl
     ·rfl
    ·rw [a0k]
     congr 1
     split
     ·split
      ·split
       ·rw [a0k];rfl
       ·rw [a0k];rfl
       ·rfl
      ·rw [a0k];rfl
      ·rw [a0k];rfl
      ·rw [a0k]
       congr 1
       rw [a0k];rfl
      ·rfl
     ·split
      ·split
       ·split
        ·split
         ·rw [a0k];rfl
         ·rw [a0k];rfl
         ·rfl
        ·rw [a0k];rfl
        ·rw [a0k];rfl
        ·rfl
       ·rfl
      ·rfl
    ·rfl
   ·rfl
  ·split
   ·split
    ·split
     ·rw [a0k];rfl
     ·rfl
    ·rfl
   ·rfl
  ·split
   ·split
    ·rfl
    ·exact c39
   ·rfl
  ·rfl
 ·rfl
theorem c6t {R:Type} {P:Program} {cl:a0e} {kb:Nat} {o:Oper} {st:St} {k:St→Option R}:opC P cl kb o st k=(opC P cl kb o st some).bind k:=by
 unfold opC;rw [a0k];congr 1
 ·split
  ·rw [a0k];rfl
  ·rfl
 ·exact d2n
theorem a8b {R:Type} {P:Program} {cl:a0e} {kb:Nat} {ops:List Oper} {o:Oper} {st:St} {k:St→Option R}:a2Y P cl kb ops o st k=(a2Y P cl kb ops o st some).bind k:=by
 unfold a2Y;split
 ·exact c6t
 ·split
  ·rfl
  ·split
   ·rw [a0k];rw [←c6t];rfl
   ·rfl
theorem c1g {R:Type} {gs:List Nat} {o:Oper} {out:St} {k:St→Option R}:a2m gs o out k=(a2m gs o out some).bind k:=by
 unfold a2m;split
 ·rw [a0k]
  congr 1
  split
  ·rw [a0k];rfl
  ·rfl
 ·rfl
structure c8J (P:Program) (cl:a0e) (kb:Nat) (ops:List Oper) (gs:List Nat) (o:Oper) (st:St) (rec:Rec):Prop where
 op:rec.o=o
 ks:b5M st.mem (a0P o) 1000 (a5p o st.tmps (looks ops o)) []=some rec.ks
 out:(a2Y P cl kb ops o (d1G ops o st rec.ks) fun out=>a2m gs o out some)=some rec.out
theorem d2o {R:Type} {P:Program} {cl:a0e} {kb:Nat} {ops:List Oper} {gs:List Nat} {o:Oper} {st:St} {k:St→Rec→Option R} {r:R} (h:e4l P cl kb ops gs o st k=some r):
  ∃rec,c8J P cl kb ops gs o st rec∧k (a2l P kb o rec.ks st rec.out) rec=some r:=by
 unfold e4l at h;split at h
 ·cases h
 ·rename_i ks hks
  rw [a8b] at h;cases h1:a2Y P cl kb ops o (d1G ops o st ks) some with
  |none=>rw [h1] at h;cases h
  | some out=>
   rw [h1] at h;simp only [Option.bind_some] at h;rw [c1g] at h;cases h2:a2m gs o out some with
   |none=>rw [h2] at h;cases h
   |some out'=>
    rw [h2] at h;refine ⟨⟨o,ks,out'⟩,⟨rfl,hks,?_⟩,h⟩;rw [a8b,h1];exact h2
section
variable {P:Program} {N n0 kb:Nat} {F:Nat→Prop} {B M0:a0D} {w0:World} {e0:a5i} {env:Env} {st:St} {a:Act} {w:World}
theorem b1D {R:Type} {cl:a0e} {ops:List Oper} {o:Oper} {k:St→Option R} {r:R} (h:a2Y P cl kb ops o st k=some r):b27 P cl kb ops o st k=some r:=by
 unfold a2Y at h;unfold b27;split at h
 ·exact h
 ·split at h
  ·cases h
  ·split at h
   ·rename_i hx
    first|exact h|(split;(rename_i hy;rw [hx] at hy;cases hy;exact h);(rename_i hy;rw [hx] at hy;cases hy))
   ·cases h
theorem c4a {gs:List Nat} {o:Oper} {out out':St} (h:a2m gs o out some=some out'):out'.mem=out.mem:=by
 unfold a2m at h;split at h
 ·rename_i d hd
  cases hb:b2Z d gs with
  |false=>rw [hb] at h;simp only [cond_false,f6x] at h;subst h;rfl
  | true=>
   rw [hb] at h;simp only [cond_true] at h;split at h
   ·rename_i x hx
    cases x<;>(simp only [cond_true,cond_false,f6x] at h;subst h;rfl)
   ·simp only [f6x] at h;subst h;rfl
 ·simp only [f6x] at h;subst h;rfl
theorem c1h {cl:a0e} {ops:List Oper} {gs:List Nat} {o:Oper} {out:St} (hv:a1K P o=true) (h:(a2Y P cl kb ops o st fun out=>a2m gs o out some)=some out):out.mem=st.mem:=by
 have put:∀(x:V),a2m gs o (st.put o.dst x) some=some out→out.mem=st.mem:=fun x hx=>by
  rw [c4a hx];cases o.dst<;>rfl
 have op:opC P cl kb o st (fun out=>a2m gs o out some)=some out→out.mem=st.mem:=by
  intro hk;unfold opC at hk;rw [hv] at hk;simp only [cond_true] at hk;split at hk
  ·rename_i c x _
   cases c with
   |false=>cases hk
   |true=>exact put x hk
  ·cases hk
 unfold a2Y at h;split at h
 ·exact op h
 ·split at h
  ·cases h
  ·split at h
   ·rename_i x _
    cases x with
    |true=>exact op h
    |false=>exact put _ h
   ·cases h
theorem b8f (h:Rel P N n0 B M0 w0 F e0 env st a w) {gs:List Nat} {o:Oper} {out:St} (hs:a2m gs o st some=some out):Rel P N n0 B M0 w0 F e0 env out a w:=by
 unfold a2m at hs;split at hs
 ·rename_i d hd
  cases hb:b2Z d gs with
  |false=>rw [hb] at hs;simp only [cond_false,f6x] at hs;subst hs;exact h
  | true=>
   rw [hb] at hs;simp only [cond_true] at hs;split at hs
   ·rename_i x hx
    have hv:a.tmps.getD d undef= .bool x:=h.tm d _ hx;have put:Rel P N n0 B M0 w0 F e0 env {st with tmps:=set st.tmps d (.c (.k x))} a w:=by
     refine h.tmps fun t' y hy=> ?_
     rw [a00] at hy;by_cases ht:t'=d
     ·rw [if_pos ht] at hy
      simp only [f6x] at hy;subst hy ht;exact hv
     ·rw [if_neg ht] at hy
      exact h.tm t' y hy
    cases x<;>(simp only [cond_true,cond_false,f6x] at hs;subst hs;exact put)
   ·simp only [f6x] at hs;subst hs;exact h
 ·simp only [f6x] at hs;subst hs;exact h
theorem a4n {o:Oper} (hv:a1K P o=true) (k:Nat):a0J P kb o k=false:=by
 unfold a0J;rw [hv];rfl
theorem c8K {cl:a0e} (hcl:a0c P cl) {ops:Array Oper} {gs:List Nat} {o:Oper} {rec:Rec} {K:Act→World→Prop} {Q:Exit→Act→World→Prop} (hF:∀k,F k→a0J P kb o k=false) (h:Rel P N n0 B M0 w0 F e0 env st a w) (hn:NoW st) (hc:b6w P kb o st)
  (hd:∀d,o.dst=some d→d<N) (hr:c8J P cl kb ops.toList gs o st rec) (hfull:∀k ob,get rec.out.mem k=some ob→c0v ob=true)
  (hK:∀env' a' w',Rel P N n0 B M0 w0 F e0 env' (a2l P kb o rec.ks st rec.out) a' w'→K a' w'):
  if Region.wanted o (yielded ops a.tmps) then o.wp P a w K Q else K (a.put o.dst undef) w:=by
 have hmk:∀k,get (d1G ops.toList o st rec.ks).mem k=if k∈rec.ks then get st.mem k else none:=fun k=>a6d
 have hmt:∀t x,get (d1G ops.toList o st rec.ks).tmps t=some x→get st.tmps t=some x:=by
  intro t x hx;unfold d1G at hx;simp only [a6d] at hx;split at hx
  ·exact hx
  ·cases hx
 have hmm:∀k ob,get (d1G ops.toList o st rec.ks).mem k=some ob→get st.mem k=some ob:=by
  intro k ob hg;rw [hmk] at hg;split at hg
  ·exact hg
  ·cases hg
 have hin0:=d84 h hn hmt hmm (fun k=>a0J P kb o k=false)
 have hsel:∀k,get (a2l P kb o rec.ks st rec.out).mem k=if c3C P kb o rec.ks k=true then get rec.out.mem k else get st.mem k:=by
  intro k;cases hv:a1K P o with
  |false=>exact a79 hv
  |true=>
   rw [a8a hv,c1h hv hr.out,hmk];unfold c3C;rw [a4n hv,Bool.or_false];by_cases hk:k∈rec.ks
   ·rw [if_pos (a1U.2 hk),if_pos hk]
   ·rw [if_neg (fun hb=>hk (a1U.1 hb))]
 have hg:=a78 (Q:=Q) hcl (F:=fun k=>a0J P kb o k=false) (fun k h1 h2=>by rw [h1] at h2;cases h2) hin0 hd (b1D hr.out)
 have fin:∀a' w',a06 P N w.heap.size (Sof P B M0 n0 env st.mem w) (a7F P env (d1G ops.toList o st rec.ks).mem) w (fun k=>a0J P kb o k=false) ⟨env,a.defers⟩ (fun out=>a2m gs o out some) rec.out a' w'→
   (∀t,o.dst≠some t→a'.tmps.getD t undef=a.tmps.getD t undef)→K a' w':=by
  rintro a' w' ⟨env',st',h1,h2⟩ ha;exact hK env' a' w' (frame h hn hc hF hsel hmk (b8f h1 h2) hfull ha)
 split
 ·rename_i hw
  rw [if_pos hw] at hg;exact Oper.wp_mono (fun a' w' hp=>fin a' w' hp.1 hp.2) (d85 hg)
 ·rename_i hw
  rw [if_neg hw] at hg;refine fin _ _ hg fun t ht=> ?_
  cases hdd:o.dst with
  |none=>rfl
  |some d=>rw [a7e (fun e=>ht (by rw [hdd,e]))]
end
def c3D (st st':St):Prop:=(∀t,get st.tmps t=get st'.tmps t)∧ ∀k,get st.mem k=get st'.mem k
theorem c3D.refl (st:St):c3D st st:=⟨fun _=>rfl,fun _=>rfl⟩
theorem c3D.symm {st st':St} (h:c3D st st'):c3D st' st:=⟨fun t=>(h.1 t).symm,fun k=>(h.2 k).symm⟩
theorem c3D.trans {st st' st'':St} (h:c3D st st') (h':c3D st' st''):c3D st st'':=⟨fun t=>(h.1 t).trans (h'.1 t),fun k=>(h.2 k).trans (h'.2 k)⟩
theorem a5G {α:Type} {l l':AL α}:∀{ks:List Nat},(∀k∈ks,get l k=get l' k)→a3v l ks=a3v l' ks
 | [],_=>rfl
 |k::r,h=>by
  simp only [a3v];rw [h k (by simp),a5G (ks:=r) fun k' hk'=>h k' (by simp [hk'])]
theorem a60 {l l':AL V}:∀{ts:List Nat},(∀t∈ts,get l t=get l' t)→a7P l ts=a7P l' ts
 | [],_=>rfl
 |t::r,h=>by
  simp only [a7P];rw [h t (by simp),a60 (ts:=r) fun k' hk'=>h k' (by simp [hk'])]
theorem b3K {mem:AL Obj} {deep:Bool}:∀{n:Nat} {todo acc ks:List Nat},b5M mem deep n todo acc=some ks→ ∀k∈acc,k∈ks
 |0,_,_,_,h=>by cases h
 |n+1,[],acc,ks,h=>by simp only [b5M,f6x] at h;subst h;exact fun k hk=>hk
 |n+1,x::r,acc,ks,h=>by
  simp only [b5M] at h;intro k hk;cases hb:b2Z x acc with
  |true=>rw [hb] at h;exact b3K h k hk
  |false=>rw [hb] at h;exact b3K h k (by simp [hk])
theorem a7o {mem mem':AL Obj} {deep:Bool}:∀{n:Nat} {todo acc ks:List Nat},b5M mem deep n todo acc=some ks→(∀k∈ks,get mem k=get mem' k)→b5M mem' deep n todo acc=some ks
 |0,_,_,_,h,_=>by cases h
 |n+1,[],acc,ks,h,_=>h
 | n+1,x::r,acc,ks,h,hk=>by
  simp only [b5M] at h⊢;cases hb:b2Z x acc with
  |true=>rw [hb] at h;exact a7o h hk
  |false=>
   rw [hb] at h;simp only [cond_false] at h⊢;have hx:x∈ks:=b3K h x (by simp)
   have:c58 mem' x=c58 mem x:=by unfold c58;rw [hk x hx]
   rw [this];exact a7o h hk
theorem a5H {P:Program} {kb:Nat} {o:Oper} {ks:List Nat} {st out:St} {k:Nat}:get (a2l P kb o ks st out).mem k=if a1K P o=false∧c3C P kb o ks k=true then get out.mem k else get st.mem k:=by
 cases hv:a1K P o with
 |true=>rw [a8a hv];simp
 |false=>rw [a79 hv];simp
theorem c4b {P:Program} {kb:Nat} {o:Oper} {ks:List Nat} {st st' out:St} (h:c3D st st'):c3D (a2l P kb o ks st out) (a2l P kb o ks st' out):=by
 refine ⟨fun t=> ?_,fun k=> ?_⟩
 ·rw [a1l,a1l,h.1]
 ·rw [a5H,a5H,h.2]
structure b8g (P:Program) (kb:Nat) (ops:List Oper) (p q:Oper) (kp kq:List Nat):Prop where
 pq:∀d,p.dst=some d→d∉looks ops q
 qp:∀d,q.dst=some d→d∉looks ops p
 dd:∀d,p.dst=some d→q.dst≠some d
 ks:(a1K P p=true∧a1K P q=true)∨ ∀k∈kp,k∉kq
 fq:∀k∈kp,a0J P kb q k=false
 fp:∀k∈kq,a0J P kb p k=false
 ff:∀k,a0J P kb p k=true→a0J P kb q k=false
section
variable {P:Program} {cl:a0e} {kb:Nat} {ops:List Oper} {gs:List Nat}
theorem b8g.symm {p q:Oper} {kp kq:List Nat} (h:b8g P kb ops p q kp kq):b8g P kb ops q p kq kp:=
 ⟨h.qp,h.pq,fun d hq hp=>h.dd d hp hq,h.ks.imp (fun x=>⟨x.2,x.1⟩) fun x k hk hk'=>x k hk' hk,h.fp,h.fq,fun k hq=>by
  cases hp:a0J P kb p k with
  |false=>rfl
  |true=>rw [h.ff k hp] at hq;cases hq⟩
theorem c8J.congr {o:Oper} {st st':St} {rec:Rec} (h:c8J P cl kb ops gs o st rec) (ht:∀t∈looks ops o,get st.tmps t=get st'.tmps t) (hm:∀k∈rec.ks,get st.mem k=get st'.mem k):c8J P cl kb ops gs o st' rec:=by
 refine ⟨h.op,?_,?_⟩
 ·have e:a5p o st'.tmps (looks ops o)=a5p o st.tmps (looks ops o):=by unfold a5p;rw [a60 ht]
  rw [e];exact a7o h.ks hm
 ·have:d1G ops o st' rec.ks=d1G ops o st rec.ks:=by unfold d1G;rw [a5G ht,a5G hm]
  rw [this];exact h.out
theorem b8g.still {p q:Oper} {kp kq:List Nat} (h:b8g P kb ops p q kp kq) (st out:St):
  (∀t∈looks ops q,get (a2l P kb p kp st out).tmps t=get st.tmps t)∧ ∀k∈kq,get (a2l P kb p kp st out).mem k=get st.mem k:=by
 refine ⟨fun t ht=> ?_,fun k hk=> ?_⟩
 ·rw [a1l,if_neg fun e=>h.pq t e ht]
 ·rw [a5H]
  split
  ·rename_i hs
   obtain ⟨h1,h2⟩:=hs;unfold c3C at h2;rw [h.fp k hk,Bool.or_false] at h2;rcases h.ks with h3|h3
   ·rw [h3.1] at h1;cases h1
   ·exact absurd hk (h3 k (a1U.1 h2))
  ·rfl
theorem b8g.swap {p q:Oper} {kp kq:List Nat} (h:b8g P kb ops p q kp kq) (st op oq:St):c3D (a2l P kb q kq (a2l P kb p kp st op) oq) (a2l P kb p kp (a2l P kb q kq st oq) op):=by
 refine ⟨fun t=> ?_,fun k=> ?_⟩
 ·simp only [a1l]
  by_cases hp:p.dst=some t
  ·rw [if_pos hp,if_pos hp,if_neg (h.dd t hp)]
  ·rw [if_neg hp,if_neg hp]
 ·simp only [a5H]
  by_cases hp:a1K P p=false∧c3C P kb p kp k=true
  ·rw [if_pos hp,if_pos hp,if_neg ?_]
   rintro ⟨h1,h2⟩;obtain ⟨h3,h4⟩:=hp;unfold c3C at h2 h4;simp only [Bool.or_eq_true,a1U] at h2 h4;rcases h4 with h4|h4
   ·rcases h2 with h2|h2
    ·rcases h.ks with h5|h5
     ·rw [h5.1] at h3;cases h3
     ·exact h5 k h4 h2
    ·rw [h.fq k h4] at h2;cases h2
   ·rcases h2 with h2|h2
    ·rw [h.fp k h2] at h4;cases h4
    ·rw [h.ff k h4] at h2;cases h2
  ·rw [if_neg hp,if_neg hp]
def a6O (P:Program) (cl:a0e) (kb:Nat) (ops:List Oper) (gs:List Nat) (rc:Nat→Rec):List Nat→St→St→Prop
 | [],st,stF=>c3D st stF
 |i::r,st,stF=>∃o,ops[i]?=some o∧c8J P cl kb ops gs o st (rc i)∧a6O P cl kb ops gs rc r (a2l P kb o (rc i).ks st (rc i).out) stF
def c4c (P:Program) (kb:Nat) (ops:List Oper) (rc:Nat→Rec) (i j:Nat):Prop:=∀p q,ops[i]?=some p→ops[j]?=some q→b8g P kb ops p q (rc i).ks (rc j).ks
variable {rc:Nat→Rec}
theorem a6O.congr:∀{l:List Nat} {st st' stF:St},c3D st st'→a6O P cl kb ops gs rc l st stF→a6O P cl kb ops gs rc l st' stF
 | [],_,_,_,h,hr=>h.symm.trans hr
 |_::_,_,_,_,h,⟨o,h1,h2,h3⟩=>⟨o,h1,h2.congr (fun t _=>h.1 t) (fun k _=>h.2 k),a6O.congr (c4b h) h3⟩
theorem a6O.swap {i j:Nat} {l:List Nat} {st stF:St} (ha:c4c P kb ops rc i j) (h:a6O P cl kb ops gs rc (i::j::l) st stF):a6O P cl kb ops gs rc (j::i::l) st stF:=by
 obtain ⟨p,p1,p2,q,q1,q2,h3⟩:=h;have hap:=ha p q p1 q1;obtain ⟨s1,s2⟩:=hap.still st (rc i).out;obtain ⟨s3,s4⟩:=hap.symm.still st (rc j).out;exact ⟨q,q1,q2.congr s1 s2,p,p1,p2.congr (fun t ht=>(s3 t ht).symm) (fun k hk=>(s4 k hk).symm),a6O.congr (hap.swap st _ _) h3⟩
theorem a6O.front {i:Nat} {B:List Nat} {stF:St}:∀{A:List Nat} {st:St},(∀x∈A,c4c P kb ops rc x i)→a6O P cl kb ops gs rc (A++i::B) st stF→a6O P cl kb ops gs rc (i::(A++B)) st stF
 | [],_,_,h=>h
 |x::A,st,ha,⟨p,p1,p2,h3⟩=>a6O.swap (ha x (by simp)) ⟨p,p1,p2,a6O.front (fun y hy=>ha y (by simp [hy])) h3⟩
theorem b1b {α:Type} {f:Nat→α→Bool}:∀{j0:Nat} {l:List α},b1M f j0 l=true→ ∀j q,l[j]?=some q→f (j0+j) q=true
 |_,[],_,j,q,hq=>by simp at hq
 |j0,x::r,h,j,q,hq=>by
  simp only [b1M,f6z] at h;cases j with
  |zero=>simp only [List.getElem?_cons_zero,f6x] at hq;subst hq;exact h.1
  |succ j=>rw [show j0+(j+1)=j0+1+j by omega];exact b1b h.2 j q (by simpa using hq)
theorem a5I {α:Type} {f:Nat→α→Nat→α→Bool}:∀{i0:Nat} {l:List α},a7Q f i0 l=true→ ∀i j p q,i<j→l[i]?=some p→l[j]?=some q→f (i0+i) p (i0+j) q=true
 |_,[],_,i,j,p,q,_,hp,_=>by simp at hp
 | i0,x::r,h,i,j,p,q,hij,hp,hq=>by
  simp only [a7Q,f6z] at h;cases j with
  |zero=>omega
  | succ j=>
   cases i with
   |zero=>
    simp only [List.getElem?_cons_zero,f6x] at hp;subst hp;have:=b1b h.1 j q (by simpa using hq)
    rw [show i0+(j+1)=i0+1+j by omega]
    exact this
   |succ i=>
    rw [show i0+(i+1)=i0+1+i by omega,show i0+(j+1)=i0+1+j by omega]
    exact a5I h.2 i j p q (by omega) (by simpa using hp) (by simpa using hq)
theorem c1i:∀{i0:Nat} {l:List Oper},d1H i0 l=true→ ∀i o,l[i]?=some o→ ∀d∈a5q o,d<i0+i
 |_,[],_,i,o,ho=>by simp at ho
 | i0,x::r,h,i,o,ho=>by
  simp only [d1H,f6z,List.all_eq_true] at h;cases i with
  |zero=>
   simp only [List.getElem?_cons_zero,f6x] at ho;subst ho;exact fun d hd=>f6I (h.1 d hd)
  |succ i=>rw [show i0+(i+1)=i0+1+i by omega];exact c1i h.2 i o (by simpa using ho)
theorem a8c {k:Nat}:∀{l xs:List Nat},k∈c8j xs l→k∈xs∨k∈l
 | [],xs,h=> .inl h
 | y::r,xs,h=>by
  simp only [c8j] at h;cases hb:b2Z y xs with
  |true=>rw [hb] at h;exact (a8c h).imp id fun h=>by simp [h]
  | false=>
   rw [hb] at h;rcases a8c h with h|h
   ·rcases f6M.1 h with h|h
    ·exact .inr (by simp [h])
    ·exact .inl h
   ·exact .inr (by simp [h])
theorem b6x {tab:List (List Nat)} {k:Nat}:∀{l acc:List Nat},k∈c6a tab l acc→k∈acc∨ ∃d∈l,k=d∨k∈tab.getD d []
 | [],acc,h=> .inl h
 | d::r,acc,h=>by
  simp only [c6a] at h;rcases b6x h with h|⟨d',h1,h2⟩
  ·rcases a8c h with h|h
   ·rcases a8c h with h|h
    ·exact .inl h
    ·exact .inr ⟨d,by simp,.inl (by simpa using h)⟩
   ·exact .inr ⟨d,by simp,.inr h⟩
  ·exact .inr ⟨d',by simp [h1],h2⟩
theorem a8d {L:Nat→Prop} {all:List Oper} (hcl:∀i o,all[i]?=some o→L i→ ∀d∈a5q o,L d):∀{ops pre:List Oper} {tab:List (List Nat)},all=pre++ops→tab.length=pre.length→
  (∀i o,i<tab.length→all[i]?=some o→(∀d∈a5q o,L d)→ ∀x∈tab.getD i [],L x)→
  ∀i o,all[i]?=some o→(∀d∈a5q o,L d)→ ∀x∈(b0S ops tab).getD i [],L x
 | [],pre,tab,he,hl,h,i,o,ho,hd=>by
  have hlt:=(f6J.1 ho).1;exact h i o (by rw [he] at hlt;simp at hlt;omega) ho hd
 | o' ::r,pre,tab,he,hl,h,i,o,ho,hd=>by
  simp only [b0S];refine a8d hcl (pre:=pre++[o']) (by rw [he];simp) (by simp [hl]) ?_ i o ho hd
  intro j oj hj hoj hdj x hx;by_cases hjl:j<tab.length
  ·rw [f6F,f6R hjl,←f6F] at hx
   exact h j oj hjl hoj hdj x hx
  ·have hje:j=tab.length:=by simp at hj;omega
   subst hje;rw [f6F,f6Q (Nat.le_refl _)] at hx;simp only [Nat.sub_self,List.getElem?_cons_zero,Option.getD_some] at hx;have hoe:oj=o':=by
    rw [he,hl] at hoj;rw [f6Q (Nat.le_refl _)] at hoj;simpa using hoj.symm
   subst hoe;rcases b6x hx with hx|⟨d,h1,h2⟩
   ·simp at hx
   ·rcases h2 with rfl|h2
    ·exact hdj _ h1
    ·by_cases hdl:d<tab.length
     ·obtain ⟨od,hod⟩:∃od,all[d]?=some od:=by
       have:d<all.length:=by rw [he];simp;omega
       exact ⟨_,f6L this⟩
      exact h d od hdl hod (hcl d od hod (hdj d h1)) x h2
     ·rw [f6F,List.getElem?_eq_none (by omega)] at h2
      simp at h2
theorem a2u {o:Oper}:∀{l:List Nat},a3w P kb o l=true→ ∀k∈l,a0J P kb o k=false
 | [],_,k,hk=>by simp at hk
 |x::r,h,k,hk=>by
  simp only [a3w,f6z,Bool.not_eq_true'] at h;rcases f6M.1 hk with rfl|hk
  ·exact h.1
  ·exact a2u h.2 k hk
theorem c1j:∀{l l':List Nat},d8N l l'=true→ ∀k∈l,k∉l'
 | [],_,_,k,hk=>by simp at hk
 |x::r,l',h,k,hk=>by
  simp only [d8N,f6z,Bool.not_eq_true'] at h;rcases f6M.1 hk with rfl|hk
  ·intro hm;rw [a1U.2 hm] at h;cases h.1
  ·exact c1j h.2 k hk
theorem c1k {o:Oper}:∀{l:AL Obj},b1N P kb o l=true→ ∀k ob,get l k=some ob→ ∀k'∈a1B ob,a0J P kb o k'=false
 | l,h,k,ob,hg=>by
  have hm:=b3z hg;clear hg;induction l with
  |nil=>simp at hm
  | cons x r ih=>
   obtain ⟨j,o'⟩:=x;simp only [b1N,f6z] at h;rcases f6M.1 hm with hm|hm
   ·simp only [f6S] at hm
    rw [hm.2];exact a2u h.1
   ·exact ih h.2 hm
theorem c4d:∀{l:AL Obj},a9O l=true→ ∀k ob,get l k=some ob→c0v ob=true
 | l,h,k,ob,hg=>by
  have hm:=b3z hg;clear hg;induction l with
  |nil=>simp at hm
  | cons x r ih=>
   obtain ⟨j,o'⟩:=x;simp only [a9O,f6z] at h;rcases f6M.1 hm with hm|hm
   ·simp only [f6S] at hm
    rw [hm.2];exact h.1
   ·exact ih h.2 hm
theorem b1c:∀{l:List Rec},b1O l=true→ ∀(i:Nat) (p:Rec),l[i]?=some p→a9O p.out.mem=true
 | [],_,i,p,hp=>by simp at hp
 |x::r,h,i,p,hp=>by
  simp only [b1O,f6z] at h;cases i with
  |zero=>simp only [List.getElem?_cons_zero,f6x] at hp;subst hp;exact h.1
  |succ i=>exact b1c h.2 i p (by simpa using hp)
theorem b1d {o:Oper} {k:Nat} (h:a0J P kb o k=true):a1K P o=false∧b7O kb o≤k∧k<b7P kb o:=by
 unfold a0J at h;cases hv:a1K P o with
 |true=>rw [hv] at h;cases h
 | false=>
  rw [hv,cond_false rfl] at h;refine ⟨rfl,?_⟩;unfold b7O b7P;cases he:a0P o with
  |true=>
   rw [he,cond_true rfl,f6z] at h;simp only [cond_true];exact ⟨f6I h.1,f6I h.2⟩
  | false=>
   rw [he,cond_false rfl] at h;simp only [cond_false];cases hd:o.dst with
   |none=>rw [hd] at h;cases h
   |some d=>
    rw [hd] at h;have:=f6y h;exact ⟨by show kb+d≤k;omega,by show k<kb+d+1;omega⟩
theorem a61 {p q:Oper} (h:a3p P kb p q=true):∀k,a0J P kb p k=true→a0J P kb q k=false:=by
 intro k hp;cases hq:a0J P kb q k with
 |false=>rfl
 |true=>
  obtain ⟨p1,p2,p3⟩:=b1d hp;obtain ⟨q1,q2,q3⟩:=b1d hq;unfold a3p at h;rw [p1,q1] at h;simp only [Bool.false_or,Bool.or_eq_true] at h;rcases h with h|h
  ·have:=f6I h;omega
  ·have:=f6I h;omega
theorem a94 {d:Option Nat} {ts:List Nat} (h:c0y d ts=true):∀x,d=some x→x∉ts:=by
 intro x hx hm;subst hx;simp only [c0y,a1U.2 hm] at h;cases h
theorem b1e {p:Rec} {q:Oper} (h:a2Z P kb p q=true):(∀k∈p.ks,a0J P kb q k=false)∧
  (∀d x,p.o.dst=some d→get p.out.tmps d=some x→ ∀k∈a5r (b7M x),a0J P kb q k=false)∧(a1K P p.o=false→ ∀k ob,get p.out.mem k=some ob→ ∀k'∈a1B ob,a0J P kb q k'=false):=by
 unfold a2Z at h;cases hv:a1K P q with
 |true=>exact ⟨fun k _=>a4n hv k,fun _ _ _ _ k _=>a4n hv k,fun _ _ _ _ k _=>a4n hv k⟩
 | false=>
  rw [hv,cond_false rfl] at h;simp only [f6z] at h;obtain ⟨⟨h1,h2⟩,h3⟩:=h;refine ⟨a2u h1,fun d x hd hx=> ?_,fun hp k ob hg=> ?_⟩
  ·rw [hd] at h2
   simp only [hx] at h2;exact a2u h2
  ·rw [hp,cond_false rfl] at h3
   exact c1k h3 k ob hg
theorem d86 {p q:Rec} (h1:a3p P kb p.o q.o=true) (h2:c0z ops p.o q.o=true) (h3:b29 P kb p q=true) (h4:a2Z P kb p q.o=true):b8g P kb ops p.o q.o p.ks q.ks:=by
 unfold c0z at h2;simp only [f6z] at h2;refine ⟨a94 h2.1.1,a94 h2.1.2,fun d hp hq=>a94 h2.2 d hp (by rw [hq];simp),?_,(b1e h4).1,?_,a61 h1⟩
 ·unfold b29 at h3
  cases hv:a1K P p.o&&a1K P q.o with
  |true=>exact .inl (by simpa using hv)
  |false=>
   rw [hv,cond_false rfl] at h3;simp only [f6z] at h3;exact .inr (c1j h3.1.1)
 ·unfold b29 at h3
  cases hv:a1K P p.o&&a1K P q.o with
  |true=>exact fun k _=>a4n (by simp at hv;exact hv.1) k
  |false=>
   rw [hv,cond_false rfl] at h3;simp only [f6z] at h3;exact a2u h3.1.2
end
section
variable {P:Program} {N n0 kb:Nat} {F:Nat→Prop} {B M0:a0D} {w0:World} {e0:a5i} {env:Env} {st:St} {a:Act} {w:World}
theorem Rel.eq (h:Rel P N n0 B M0 w0 F e0 env st a w) {st':St} (he:c3D st st'):Rel P N n0 B M0 w0 F e0 env st' a w:=
 h.weaken (fun t x hx=>by rw [he.1];exact hx) (fun k ob hg=>by rw [he.2];exact hg)
theorem a4N {S:a0D} {w':World} {S':a0D} (hk:a0F w S w' S') {q:Nat→Bool} {c:C} {v:Value} (h:a0p P env S w c v):a0p P env S' w' (d1I q c) v:=by
 unfold d1I;cases (a1n c).any q with
 |true=>trivial
 |false=>exact a0p.mono hk (fun _ _=>rfl) h
theorem d87 {S:a0D} {w':World} {S':a0D} (hk:a0F w S w' S') {q:Nat→Bool} {x:V} {v:Value} (h:a3R P env S w x v):a3R P env S' w' (e8E q x) v:=by
 cases x with
 |c c=>exact a4N hk h
 |g xs=>obtain ⟨vs,h1,h2⟩:=h;exact ⟨vs,h1,h2.mapl fun c u _ hcu=>a4N hk hcu⟩
 |_=>exact h.elim
theorem d88 {S:a0D} {w':World} {S':a0D} (hk:a0F w S w' S') {q:Nat→Bool} {x:V} {v:Value} (h:a0q P env S w a x v):a0q P env S' w' a (e4n q x) v:=by
 cases x with
 |c c=>exact a4N hk h
 |g xs=>obtain ⟨vs,h1,h2⟩:=h;exact ⟨vs,h1,h2.mapl fun c u _ hcu=>a4N hk hcu⟩
 |t xs=>obtain ⟨vs,h1,h2⟩:=h;exact ⟨vs,h1,h2.mapl fun c u _ hcu=>d87 hk hcu⟩
 |w s b x=>trivial
theorem d89 {q:Nat→Bool} {s:a1J} {o:Obj} {b x:Nat}:a2F P s (d1m q o) b x↔a2F P s o b x:=by
 cases o<;>simp [d1m,a2F]
theorem c1l {q:Nat→Bool} {o:Obj}:a0S (d1m q o)↔a0S o:=by cases o<;>simp [d1m,a0S]
theorem a3s {q:Nat→Bool} {k:Nat} {ob:Obj} (h:get (a4f q st).mem k=some ob):q k=false∧ ∃ob0,get st.mem k=some ob0∧ob=d1m q ob0:=by
 unfold a4f at h;simp only [a1g,b3I] at h;cases hq:q k with
 |true=>rw [hq] at h;simp at h
 |false=>
  rw [hq] at h;cases hg:get st.mem k with
  |none=>rw [hg] at h;simp at h
  |some ob0=>rw [hg] at h;simp at h;exact ⟨rfl,ob0,rfl,h.symm⟩
theorem c1m (h:Rel P N n0 B M0 w0 F e0 env st a w) (q:Nat→Bool) (d:Nat):Rel P N n0 B M0 w0 F e0 env (a4f q st) a {w with drawn:=d}:=by
 have hch:Chg (fun _ _=>False) w {w with drawn:=d}:=⟨rfl,rfl,rfl,Nat.le_refl _,fun b cur T fr hb=>⟨cur,fr,hb,rfl,fun _ _=>rfl,.inl rfl⟩,fun b ob hb _=>hb⟩
 refine Rel.step (tmps':=(a4f q st).tmps) (mem':=(a4f q st).mem) h (fun _ _=>False) hch (fun _ _ hf=>hf.elim) ?_ ?_ ?_ ?_ ?_ (fun _ _=>rfl)
 ·intro k ob b x hg hm
  obtain ⟨_,ob0,h1,rfl⟩:=a3s hg;exact .inr ⟨k,ob0,h1,d89.1 hm⟩
 ·intro hkeep t x hx
  unfold a4f at hx;simp only [a1g] at hx;cases hg:get st.tmps t with
  |none=>rw [hg] at hx;cases hx
  |some y=>
   rw [hg] at hx;simp only [f6T,f6x] at hx;subst hx;exact d88 hkeep (h.tm t y hg)
 ·intro hkeep k ob hg
  obtain ⟨_,ob0,h1,rfl⟩:=a3s hg;have ho:=h.ob k ob0 h1;cases ob0 with
  |box cs=>
   obtain ⟨cur,T,c1,c2,c3,c4⟩:=ho;refine ⟨cur,T,c1,by simpa using c2,?_,a3h (fun c hc=>c6d hc) c4⟩
   simp only [List.length_map];exact c3.mapl fun x y _ hxy=>a4N hkeep hxy
  |row e ex nl xs=>exact a2r (w':={w with drawn:=d}) hkeep (fun _=>rfl) ho ex
  |map kt vt es=>exact a56 (w':={w with drawn:=d}) hkeep rfl ho
  |tab kt vt es=>exact c3V (w':={w with drawn:=d}) hkeep (fun x v _ hx=>a4N hkeep hx) rfl ho
  |dat T d'=>exact a57 (w':={w with drawn:=d}) hkeep rfl ho
  |krow e k q c xs=>exact a58 (w':={w with drawn:=d}) hkeep rfl rfl rfl (fun v hx=>a4N hkeep hx) rfl ho
 ·intro k k' o o' hg hg' hr hr' hne
  obtain ⟨_,ob0,h1,rfl⟩:=a3s hg;obtain ⟨_,ob0',h1',rfl⟩:=a3s hg';exact h.ds k k' ob0 ob0' h1 h1' (c1l.1 hr) (c1l.1 hr') hne
 ·intro key e ex xs hg x hx
  obtain ⟨_,ob0,h1,h2⟩:=a3s hg;cases ob0 with
  |row e' ex' nl' xs'=>
   simp only [d1m,Obj.row.injEq] at h2;obtain ⟨rfl,rfl,rfl,rfl⟩:=h2;exact h.pr key e ex xs h1 x hx
  |box cs=>cases h2
  |map kt vt es=>cases h2
  |tab kt vt es=>cases h2
  |dat T d=>cases h2
  |krow e k q c xs=>cases h2
theorem a3C {q:Nat→Bool} {c:C}:∀k∈a1n (d1I q c),q k=false:=by
 intro k hk;unfold d1I at hk;cases hq:(a1n c).any q with
 |true=>rw [hq] at hk;simp [a1n] at hk
 |false=>
  rw [hq] at hk;rw [List.any_eq_false] at hq;simpa using hq k hk
theorem d2p {q:Nat→Bool} {x:V}:∀k∈a52 (e8E q x),q k=false:=by
 intro k hk;cases x with
 |c c=>exact a3C k hk
 |g xs=>
  simp only [e8E,a52,List.mem_flatMap,List.mem_map] at hk;obtain ⟨c,⟨c0,_,rfl⟩,h⟩:=hk;exact a3C k h
 |_=>simp [e8E,a52,a1n] at hk
theorem d2q {q:Nat→Bool} {x:V}:∀k∈a5r (e4n q x),q k=false:=by
 intro k hk;cases x with
 |c c=>exact a3C k hk
 |g xs=>
  simp only [e4n,a5r,List.mem_flatMap,List.mem_map] at hk;obtain ⟨c,⟨c0,_,rfl⟩,h⟩:=hk;exact a3C k h
 |t xs=>
  simp only [e4n,a5r,List.mem_flatMap,List.mem_map] at hk;obtain ⟨c,⟨c0,_,rfl⟩,h⟩:=hk;exact d2p k h
 |w s b x=>simp [e4n,a5r,a1n] at hk
theorem d2r (q:Nat→Bool):NoW (a4f q st):=by
 intro t x hx s b y he;unfold a4f at hx;simp only [a1g] at hx;cases hg:get st.tmps t with
 |none=>rw [hg] at hx;cases hx
 |some z=>
  rw [hg] at hx;simp only [f6T,f6x] at hx;subst he;cases z<;>simp [e4n] at hx
theorem c1n {q:Nat→Bool} {o:Oper} (hq:∀k,q k=false→a0J P kb o k=false):b6w P kb o (a4f q st):=by
 refine ⟨fun t x hx k hk=> ?_,fun k ob hg=> ?_⟩
 ·unfold a4f at hx
  simp only [a1g] at hx;cases hg:get st.tmps t with
  |none=>rw [hg] at hx;cases hx
  |some z=>
   rw [hg] at hx;simp only [f6T,f6x] at hx;subst hx;exact hq k (d2q k hk)
 ·obtain ⟨h1,ob0,_,rfl⟩:=a3s hg
  refine ⟨hq k h1,fun k' hk'=> ?_⟩
  cases ob0 with
  |box cs=>
   simp only [d1m,a1B,List.mem_flatMap,List.mem_map] at hk';obtain ⟨c,⟨c0,_,rfl⟩,h⟩:=hk';exact hq k' (a3C k' h)
  |row=>simp [d1m,a1B] at hk'
  |map=>simp [d1m,a1B] at hk'
  |tab=>
   simp only [d1m,a1B,List.mem_flatMap,List.mem_map] at hk';obtain ⟨c,⟨c0,_,rfl⟩,h⟩:=hk';exact hq k' (a3C k' h)
  |dat=>simp [d1m,a1B] at hk'
  |krow e k q c xs=>exact hq k' (a3C k' hk')
theorem c1o {ops:List Oper} {k:Nat} (h:b1P P kb ops k=false):∀o∈ops,a0J P kb o k=false:=by
 induction ops with
 |nil=>intro o ho;simp at ho
 |cons x r ih=>
  simp only [b1P,Bool.or_eq_false_iff] at h;intro o ho;rcases f6M.1 ho with rfl|ho
  ·exact h.1
  ·exact ih h.2 o ho
theorem b3L {R:Type} {cl:a0e} {ops:List Oper} {gs:List Nat} {r:R}:∀{l:List Oper} {st:St} {recs:List Rec} {k:St→List Rec→Option R},b28 P cl kb ops gs l st recs k=some r→
  ∃rl stF,rl.length=l.length∧k stF (recs++rl)=some r∧ ∀(pre:List Oper) (rc:Nat→Rec),ops=pre++l→(∀(i:Nat) (p:Rec),rl[i]?=some p→rc (pre.length+i)=p)→
   a6O P cl kb ops gs rc ((List.range l.length).map (pre.length+ ·)) st stF∧ ∀(i:Nat) (p:Rec) (o:Oper),rl[i]?=some p→l[i]?=some o→p.o=o
 | [],st,recs,k,h=>⟨[],st,rfl,by simpa [b28] using h,fun _ _ _ _=>⟨c3D.refl _,by simp⟩⟩
 | o::l,st,recs,k,h=>by
  simp only [b28] at h;obtain ⟨rec,h1,h2⟩:=d2o h;obtain ⟨rl,stF,q1,q2,q3⟩:=b3L h2;refine ⟨rec::rl,stF,by simp [q1],by simpa using q2,fun pre rc he hrc=> ?_⟩
  obtain ⟨q4,q5⟩:=q3 (pre++[o]) rc (by rw [he];simp) (fun i p hp=>by
   have:=hrc (i+1) p (by simpa using hp)
   rw [←this];congr 1;simp;omega)
  have hr0:rc pre.length=rec:=hrc 0 rec (by simp)
  constructor
  ·rw [show (o::l).length=l.length+1 from rfl,List.range_succ_eq_map,List.map_cons,List.map_map]
   refine ⟨o,by rw [he];simp,by rw [Nat.add_zero,hr0];exact h1,?_⟩
   rw [Nat.add_zero,hr0];have:(List.range l.length).map ((pre.length+ ·)∘Nat.succ)=(List.range l.length).map ((pre++[o]).length+ ·):=by
    refine List.map_congr_left fun x _=> ?_
    simp;omega
   rw [this];exact q4
  ·intro i p o' hp ho
   cases i with
   |zero=>simp at hp ho;subst hp ho;exact h1.op
   |succ i=>exact q5 i p o' (by simpa using hp) (by simpa using ho)
theorem a8e {o o':Oper} {rec:Rec} (ho:rec.o=o) (hnn:a2Z P kb rec o'=true) (hff:∀k,a0J P kb o k=true→a0J P kb o' k=false) (hc:b6w P kb o' st):b6w P kb o' (a2l P kb o rec.ks st rec.out):=by
 obtain ⟨n1,n2,n3⟩:=b1e hnn;subst ho;refine ⟨fun t x hx=> ?_,fun k ob hg=> ?_⟩
 ·rw [a1l] at hx
  by_cases hd:rec.o.dst=some t
  ·rw [if_pos hd] at hx
   cases hg:get rec.out.tmps t with
   |none=>rw [hg] at hx;cases hx
   |some y=>
    rw [hg] at hx;simp only [f6T,f6x] at hx;subst hx;exact n2 t y hd hg
  ·rw [if_neg hd] at hx
   exact hc.1 t x hx
 ·rw [a5H] at hg
  split at hg
  ·rename_i hs
   refine ⟨?_,n3 hs.1 k ob hg⟩;have:=hs.2;unfold c3C at this;simp only [Bool.or_eq_true,a1U] at this;rcases this with q|q
   ·exact n1 k q
   ·exact hff k q
  ·exact hc.2 k ob hg
theorem d2s {o:Oper} {ks:List Nat} {out:St} (hn:NoW st):NoW (a2l P kb o ks st out):=by
 intro t x hx s b y he;rw [a1l] at hx;by_cases hd:o.dst=some t
 ·rw [if_pos hd] at hx
  cases hg:get out.tmps t with
  |none=>rw [hg] at hx;cases hx
  |some z=>
   rw [hg] at hx;simp only [f6T,f6x] at hx;subst he;cases z<;>simp [b7M] at hx
 ·rw [if_neg hd] at hx
  exact hn t x hx s b y he
theorem a4O {d:Nat}:∀{l:List Edge},d∈a9N l↔ ∃e∈l,Region.binds .any e=true∧e.on=d
 | []=>by simp [a9N]
 | e::r=>by
  simp only [a9N];cases hb:Region.binds .any e with
  | true=>
   simp only [cond_true,f6M,a4O (l:=r)];constructor
   ·rintro (h|⟨e',h1,h2⟩)
    ·exact ⟨e,.inl rfl,hb,h.symm⟩
    ·exact ⟨e',.inr h1,h2⟩
   ·rintro ⟨e',rfl|h1,h2,h3⟩
    ·exact .inl h3.symm
    ·exact .inr ⟨e',h1,h2,h3⟩
  | false=>
   simp only [cond_false,f6M,a4O (l:=r)];constructor
   ·rintro ⟨e',h1,h2⟩;exact ⟨e',.inr h1,h2⟩
   ·rintro ⟨e',rfl|h1,h2,h3⟩
    ·rw [hb] at h2;cases h2
    ·exact ⟨e',h1,h2,h3⟩
theorem b3M {ops:Array Oper} {listed:Array Bool} {i:Nat}:i∈Region.ready .any ops listed↔i<ops.size∧listed.getD i true=false∧ ∃o,ops[i]?=some o∧ ∀d∈a5q o,listed.getD d false=true:=by
 unfold Region.ready;simp only [List.mem_filter,List.mem_range,f6z,Bool.not_eq_true'];constructor
 ·rintro ⟨h1,h2,h3⟩
  refine ⟨h1,h2,?_⟩;cases ho:ops[i]? with
  |none=>rw [ho] at h3;simp at h3
  |some o=>
   rw [ho] at h3;simp only [f6T,Option.getD_some,Array.all_eq_true'] at h3;refine ⟨o,rfl,fun d hd=> ?_⟩
   obtain ⟨e,h4,h5,h6⟩:=a4O.1 hd;have:=h3 e (by simpa using h4)
   rw [h5] at this;simpa [h6] using this
 ·rintro ⟨h1,h2,o,ho,h3⟩
  refine ⟨h1,h2,?_⟩;rw [ho];simp only [f6T,Option.getD_some,Array.all_eq_true'];intro e he;cases hb:Region.binds .any e with
  |false=>simp
  |true=>
   have:=h3 e.on (a4O.2 ⟨e,by simpa using he,hb,rfl⟩)
   simp [this]
structure f5p (P:Program) (cl:a0e) (kb:Nat) (ops:Array Oper) (gs:List Nat) (rc:Nat→Rec):Prop where
 topo:d1H 0 ops.toList=true
 op:∀(i:Nat) (o:Oper),ops[i]?=some o→(rc i).o=o
 ff:∀(i j:Nat) (p q:Oper),i<j→ops[i]?=some p→ops[j]?=some q→a3p P kb p q=true
 nn:∀(i j:Nat) (q:Oper),i<j→ops[j]?=some q→a2Z P kb (rc i) q=true
 ap:∀(i j:Nat) (p q:Oper),i<j→ops[i]?=some p→ops[j]?=some q→i∈(b0S ops.toList []).getD j []∨(c0z ops.toList p q=true∧b29 P kb (rc i) (rc j)=true)
 full:∀(i:Nat),i<ops.size→a9O (rc i).out.mem=true
theorem c4e {R:Type} {cl:a0e} (hcl:a0c P cl) {ops:Array Oper} {gs:List Nat} {rc:Nat→Rec} {k:St→Option R} {r:R} {Q:Exit→Act→World→Prop} {Fe:Fence} {nn:Nat} (hW:b1C Fe) (hdf:Fe=Fence.wide∨ ∀o∈ops.toList,∀c,o.op≠ .defer c) (hF:∀k,F k→k<kb)
  (hd:∀o∈ops.toList,∀d,o.dst=some d→d<N) (hp:f5p P cl kb ops gs rc) {stF:St} (hk:k stF=some r) (hQ:∀a w,a06 P N n0 B M0 w0 F e0 k r a w→Q .normal a w):
  ∀(fuel:Nat) {rem:List Nat} {listed:Array Bool} {env:Env} {st:St} {a:Act} {w:World},Rel P N n0 B M0 w0 F e0 env st a w→NoW st→(∀j∈rem,∀o,ops[j]?=some o→b6w P kb o st)→
   a6O P cl kb ops.toList gs rc rem st stF→rem.Pairwise (· < ·)→listed.size=ops.size→(∀i,i∈rem↔i<ops.size∧listed.getD i true=false)→
   (∀(i:Nat) (o:Oper),ops[i]?=some o→listed.getD i false=true→ ∀d∈a5q o,listed.getD d false=true)→rem.length≤fuel→wpAnyIn Fe nn P .any ops Q fuel listed a w:=by
 have hend:∀{rem:List Nat} {listed:Array Bool},(∀i,i∈rem↔i<ops.size∧listed.getD i true=false)→rem.Pairwise (· < ·)→listed.size=ops.size→Region.ready .any ops listed=[]→rem=[]:=by
  intro rem listed hrem hpw hsz hready;cases rem with
  |nil=>rfl
  | cons x rr=>
   exfalso;have hx:=(hrem x).1 (by simp)
   have hox:ops[x]?=some ops[x]:=Array.getElem?_eq_getElem hx.1;have:x∈Region.ready .any ops listed:=by
    refine b3M.2 ⟨hx.1,hx.2,_,hox,fun d hdd=> ?_⟩
    have hlt:=c1i hp.topo x ops[x] (by simpa using hox) d hdd
    rw [Nat.zero_add] at hlt;have hnm:d∉x::rr:=by
     intro hm;rcases f6M.1 hm with rfl|hm
     ·omega
     ·have:=(List.pairwise_cons.1 hpw).1 d hm;omega
    have hds:d<listed.size:=by omega
    cases hl:listed[d] with
    |true=>simp [f6K,Array.getElem?_eq_getElem hds,hl]
    |false=>exact absurd ((hrem d).2 ⟨by omega,by simp [f6K,Array.getElem?_eq_getElem hds,hl]⟩) hnm
   rw [hready] at this;simp at this
 intro fuel;induction fuel with
 | zero=>
  intro rem listed env st a w h hn hc hrun hpw hsz hrem hclosed hlen;have hnil:rem=[]:=List.eq_nil_of_length_eq_zero (by omega)
  subst hnil;refine ⟨?_,hQ a w ⟨env,stF,h.eq hrun,hk⟩⟩;cases hr:Region.ready .any ops listed with
  |nil=>rfl
  |cons i l=>
   have:i∈Region.ready .any ops listed:=by rw [hr];simp
   obtain ⟨h1,h2,_⟩:=b3M.1 this;have:=(hrem i).2 ⟨h1,h2⟩;simp at this
 | succ fuel ih=>
  intro rem listed env st a w h hn hc hrun hpw hsz hrem hclosed hlen;refine ⟨fun hready=> ?_,fun i hi=> ?_⟩
  ·have:=hend hrem hpw hsz hready
   subst this;exact hQ a w ⟨env,stF,h.eq hrun,hk⟩
  ·obtain ⟨hi1,hi2,o,ho,hdir⟩:=b3M.1 hi
   have hirem:=(hrem i).2 ⟨hi1,hi2⟩;obtain ⟨A,Bl,hsplit⟩:=List.append_of_mem hirem;subst hsplit;obtain ⟨hpA,hpB,hpAB⟩:=List.pairwise_append.1 hpw;have hanc:=a8d (L:=fun x=>listed.getD x false=true) (all:=ops.toList) (fun j oj hj hl=>hclosed j oj (by simpa using hj) hl) (ops:=ops.toList) (pre:=[]) (tab:=[]) rfl rfl (fun _ _ hlt=>by simp at hlt) i o (by simpa using ho) hdir
   have hnl:∀x∈A,¬listed.getD x false=true:=by
    intro x hx hl;have:=((hrem x).1 (by simp [hx])).2
    have hxs:x<listed.size:=by rw [hsz];exact ((hrem x).1 (by simp [hx])).1
    simp only [f6K,Array.getElem?_eq_getElem hxs,Option.getD_some] at this hl;rw [this] at hl;cases hl
   have hapA:∀x∈A,c4c P kb ops.toList rc x i:=by
    intro x hx p q hpx hqi;have hxi:x<i:=hpAB x hx i (by simp)
    have hpx':ops[x]?=some p:=by simpa using hpx
    have hqi':ops[i]?=some q:=by simpa using hqi
    have e1:=hp.op x p hpx';have e2:=hp.op i q hqi';rcases hp.ap x i p q hxi hpx' hqi' with h1|⟨h1,h2⟩
    ·exact absurd (hanc x h1) (hnl x hx)
    ·have:=d86 (p:=rc x) (q:=rc i) (by rw [e1,e2];exact hp.ff x i p q hxi hpx' hqi') (by rw [e1,e2];exact h1) h2 (by rw [e2];exact hp.nn x i q hxi hqi')
     rw [e1,e2] at this;exact this
   have hrun':=hrun.front hapA;obtain ⟨o',ho',hrec,hrest⟩:=hrun';have hoo:o'=o:=by
    have:ops[i]?=some o':=by simpa using ho'
    rw [ho] at this;exact (Option.some.inj this).symm
   subst hoo;have hilt:i<listed.size:=by rw [hsz];exact hi1
   have hget:∀x dflt,(listed.setIfInBounds i true).getD x dflt=if x=i then true else listed.getD x dflt:=by
    intro x dflt;simp only [f6K,Array.getElem?_setIfInBounds];by_cases hx:x=i
    ·subst hx;simp [hilt]
    ·rw [if_neg (Ne.symm hx),if_neg hx]
   have next:∀env' a' w',Rel P N n0 B M0 w0 F e0 env' (a2l P kb o' (rc i).ks st (rc i).out) a' w'→wpAnyIn Fe nn P .any ops Q fuel (listed.setIfInBounds i true) a' w':=by
    intro env' a' w' h';refine ih (rem:=A++Bl) h' (d2s hn) ?_ hrest ?_ (by simpa using hsz) ?_ ?_ (by simp at hlen⊢;omega)
    ·intro j hj oj hoj
     have hjr:j∈A++i::Bl:=by
      rcases List.mem_append.1 hj with hj|hj
      ·simp [hj]
      ·simp [hj]
     have hcj:=hc j hjr oj hoj;rcases List.mem_append.1 hj with hj|hj
     ·have hji:j<i:=hpAB j hj i (by simp)
      have hap:=hapA j hj oj o' (by simpa using hoj) ho'
      have hapk:a2Z P kb (rc i) oj=true:=by
       rcases hp.ap j i oj o' hji hoj ho with h1|⟨_,h2⟩
       ·exact absurd (hanc j h1) (hnl j hj)
       ·unfold b29 at h2
        cases hv:a1K P (rc j).o&&a1K P (rc i).o with
        |true=>
         rw [hp.op j oj hoj] at hv;simp only [f6z] at hv;unfold a2Z;rw [hv.1];rfl
        |false=>
         rw [hv,cond_false rfl] at h2;simp only [f6z] at h2;rw [←hp.op j oj hoj];exact h2.2
      exact a8e (hp.op i o' ho) hapk hap.symm.ff hcj
     ·have hij:i<j:=(List.pairwise_cons.1 hpB).1 j hj
      exact a8e (hp.op i o' ho) (hp.nn i j oj hij hoj) (a61 (hp.ff i j o' oj hij ho hoj)) hcj
    ·refine List.pairwise_append.2 ⟨hpA,(List.pairwise_cons.1 hpB).2,fun x hx y hy=>hpAB x hx y (by simp [hy])⟩
    ·intro x
     rw [hget];have hx:=hrem x;constructor
     ·intro hm
      have hxi:x≠i:=by
       rintro rfl;rcases List.mem_append.1 hm with hm|hm
       ·have:=hpAB x hm x (by simp);omega
       ·have:=(List.pairwise_cons.1 hpB).1 x hm;omega
      rw [if_neg hxi];refine hx.1 ?_;rcases List.mem_append.1 hm with hm|hm<;>simp [hm]
     ·rintro ⟨h1,h2⟩
      by_cases hxi:x=i
      ·rw [if_pos hxi] at h2;cases h2
      ·rw [if_neg hxi] at h2
       have:=hx.2 ⟨h1,h2⟩;simp only [List.mem_append,f6M] at this⊢;rcases this with h3|h3|h3
       ·exact .inl h3
       ·exact absurd h3 hxi
       ·exact .inr h3
    ·intro x ox hox hl d hdd
     rw [hget] at hl⊢;by_cases hdi:d=i
     ·rw [if_pos hdi]
     ·rw [if_neg hdi]
      by_cases hxi:x=i
      ·subst hxi
       rw [ho] at hox;cases hox;exact hdir d hdd
      ·rw [if_neg hxi] at hl
       exact hclosed x ox hox hl d hdd
   have hs:=c8K (Q:=Q) hcl (K:=wpAnyIn Fe nn P .any ops Q fuel (listed.setIfInBounds i true)) (fun k hk=>by
    cases hb:a0J P kb o' k with
    |false=>rfl
    | true=>
     have h1:=c09 hb;have h2:=hF k hk;omega) h hn (hc i (by simp) o' ho) (hd o' (by
      have:=Array.mem_of_getElem? ho;simpa using this)) hrec (c4d (hp.full i hi1)) next
   unfold wpOpIn;rw [ho];simp only;split
   ·rename_i hw
    rw [if_pos hw] at hs;exact d2j hW (hdf.imp id fun q=>q o' (by have:=Array.mem_of_getElem? ho;simpa using this)) hs
   ·rename_i hw
    rw [if_neg hw] at hs;exact ⟨fun f _=>hW.fn f,hs⟩
theorem a8f {cl:a0e} (hm:P.follows .mixedOrders=true) (hcl:a0c P cl):a5F P cl:=by
 intro R N n0 kb F B M0 w0 e0 env st a w id ops k r Q Fe nn hW hdf hF h hd hk hQ;unfold c3M at hk;cases hs:b7Q P kb ops.toList with
 |false=>rw [hs] at hk;cases hk
 | true=>
  rw [hs,cond_true rfl] at hk;obtain ⟨rl,stF,q1,q2,q3⟩:=b3L hk;rw [List.nil_append] at q2;cases hdy:e4m P kb ops.toList rl with
  |false=>rw [hdy] at q2;cases q2
  | true=>
   rw [hdy,cond_true rfl] at q2;let rc:Nat→Rec:=fun i=>rl.getD i ⟨default,[],⟨[],[]⟩⟩
   have hrc:∀(i:Nat) (p:Rec),rl[i]?=some p→rc i=p:=by
    intro i p hp;show rl.getD i _=p;rw [f6F,hp];rfl
   obtain ⟨q4,q5⟩:=q3 [] rc rfl (fun i p hp=>by simpa using hrc i p hp)
   have hl:∀(i:Nat),i<ops.size→rl[i]?=some (rc i):=by
    intro i hi;have:i<rl.length:=by rw [q1];simpa using hi
    have h1:=f6L this;rw [h1,hrc i _ h1]
   have hlt:∀(i:Nat) (o:Oper),ops[i]?=some o→i<ops.size:=fun i o ho=>(f6H.1 ho).1
   unfold b7Q at hs;simp only [f6z] at hs;unfold e4m at hdy;simp only [f6z] at hdy;have hop:∀(i:Nat) (o:Oper),ops[i]?=some o→(rc i).o=o:=fun i o ho=>q5 i (rc i) o (hl i (hlt i o ho)) (by simpa using ho)
   have hst:∀(i j:Nat) (p q:Oper),i<j→ops[i]?=some p→ops[j]?=some q→a3p P kb p q=true∧(i∈(b0S ops.toList []).getD j []∨c0z ops.toList p q=true):=by
    intro i j p q hij hp hq;have:=a5I hs.2 i j p q hij (by simpa using hp) (by simpa using hq)
    simp only [Nat.zero_add,f6z,Bool.or_eq_true,a1U] at this;exact this
   have hdn:∀(i j:Nat),i<j→j<ops.size→a2Z P kb (rc i) (rc j).o=true∧(i∈(b0S ops.toList []).getD j []∨b29 P kb (rc i) (rc j)=true):=by
    intro i j hij hj;have:=a5I hdy.1 i j (rc i) (rc j) hij (hl i (by omega)) (hl j hj)
    simp only [Nat.zero_add,f6z,Bool.or_eq_true,a1U] at this;exact this
   have hplan:f5p P cl kb ops (a9P ops.toList ops.toList) rc:=by
    refine ⟨hs.1,hop,fun i j p q hij hp hq=>(hst i j p q hij hp hq).1,?_,?_,fun i hi=>b1c hdy.2 i (rc i) (hl i hi)⟩
    ·intro i j q hij hq
     have:=(hdn i j hij (hlt j q hq)).1;rw [hop j q hq] at this;exact this
    ·intro i j p q hij hp hq
     rcases (hst i j p q hij hp hq).2 with h1|h1
     ·exact .inl h1
     ·exact (hdn i j hij (hlt j q hq)).2.imp (fun h=>h) fun h2=>⟨h1,h2⟩
   refine wpIn_region_any hm ?_;have hrange:(List.range ops.toList.length).map (([]:List Oper).length+ ·)=List.range ops.size:=by simp
   rw [hrange] at q4;refine c4e hcl hW hdf hF hd hplan q2 hQ ops.size (rem:=List.range ops.size) (c1m h _ _) (d2r _) ?_ q4 List.pairwise_lt_range (by simp) ?_ ?_ (by simp)
   ·intro j _ o ho
    refine c1n fun k hk=>c1o hk o ?_
    have:=Array.mem_of_getElem? ho;simpa using this
   ·intro i
    simp only [List.mem_range,f6K];constructor
    ·intro hi;exact ⟨hi,by simp [hi]⟩
    ·exact fun hi=>hi.1
   ·intro i o ho hl' 
    have hi:=hlt i o ho;simp [f6K,hi] at hl'
end
def bnd {A B:Type} (a:A) (f:A→B):B:=f a
theorem a1D {A B R:Type} {e:A} {f:A→R} {k:B→R} {g:A→B} (h:∀x,f x=k (g x)):bnd e f=k (bnd e g):=h e
theorem a0f {A R:Type} {c:Bool} {x y:Option R} {a b:Option A} {K:A→Option R} (hx:x=a.bind K) (hy:y=b.bind K):(bif c then x else y)=(bif c then a else b).bind K:=by cases c<;>assumption
theorem a0m {E A R:Type} {e:E} {f:E→Option R} {g:E→Option A} {K:A→Option R} (h:∀z,f z=(g z).bind K):bnd e f=(bnd e g).bind K:=h e
theorem a0W {A R:Type} {c:Bool} {x y:R} {k:A→R} {a b:A} (hx:x=k a) (hy:y=k b):(bif c then x else y)=k (bif c then a else b):=by cases c<;>assumption
theorem c8L:∀{c b b':Code},b∈a0V c→b'∈a0V b→b'∈a0V c:=by
 intro c;induction c with
 | seq x y ihx ihy=>
  intro b b' h h';simp only [a0V,List.mem_append] at h;rcases h with h|h
  ·have:b= .seq x y:=by
    unfold d2k at h;split at h
    ·simpa using h
    ·simpa using h
    ·cases h
   rw [←this];exact h'
  ·simp only [a0V,List.mem_append]
   exact .inr (h.imp (fun h=>ihx h h') (fun h=>ihy h h'))
 | cond o x y ihx ihy=>
  intro b b' h h';simp only [a0V,f6M,List.mem_append] at h;rcases h with rfl|h
  ·exact h'
  ·simp only [a0V,f6M,List.mem_append]
   exact .inr (h.imp (fun h=>ihx h h') (fun h=>ihy h h'))
 |block id x ih=>intro b b' h h';simp only [a0V] at h⊢;exact ih h h'
 |loop x ih=>
  intro b b' h h';simp only [a0V,f6M] at h;rcases h with rfl|h
  ·exact h'
  ·simp only [a0V,f6M];exact .inr (ih h h')
 |region id ops d=>
  intro b b' h h';simp only [a0V,List.mem_singleton] at h;subst h;exact h'
 | rangeFunc g ps x y ihx ihy=>
  intro b b' h h';simp only [a0V,f6M,List.mem_append] at h;rcases h with rfl|h
  ·exact h'
  ·simp only [a0V,f6M,List.mem_append]
   exact .inr (h.imp (fun h=>ihx h h') (fun h=>ihy h h'))
 |_=>intro b b' h;simp [a0V] at h
def c4f (P:Program) (f:FuncId):List Code:=
 match P.funcs[f]? with
 |some fn=>(match fn.body with|some c=>a0V c|none=>[])
 |none=>[]
def c8M (id:Nat) (b:Code):Bool:=match c8k b with|some i=>Nat.beq i id|none=>false
def b1f (id:Nat):List Code→List Code
 | []=>[]
 |b::r=>bif c8M id b then b::b1f id r else b1f id r
def a1p (P:Program) (f:FuncId) (id:Nat):Code:=match b1f id (c4f P f) with|b::_=>b| []=> .skip
def c8N (P:Program) (f:FuncId) (id:Nat):Bool:=match b1f id (c4f P f) with| [_]=>true|_=>false
theorem a95 {id:Nat} {b:Code}:∀{l:List Code},b∈l→c8M id b=true→b∈b1f id l
 | x::l,h,hi=>by
  simp only [b1f];rcases f6M.1 h with rfl|h
  ·rw [hi];simp
  ·cases c8M id x with
   |true=>simp [a95 h hi]
   |false=>simpa using a95 h hi
theorem a96 {id:Nat} {b:Code}:∀{l:List Code},b∈b1f id l→b∈l
 | x::l,h=>by
  simp only [b1f] at h;cases hx:c8M id x with
  |true=>
   rw [hx] at h;rcases f6M.1 h with rfl|h
   ·simp
   ·simp [a96 h]
  |false=>rw [hx] at h;simp [a96 (by simpa using h)]
section
variable {P:Program}
theorem d9a {f:FuncId} {id:Nat} {b:Code} (h1:c8N P f id=true) (hb:b∈c4f P f) (hi:c8M id b=true):b=a1p P f id:=by
 have hm:=a95 hb hi;unfold c8N at h1;unfold a1p;split at h1
 ·rename_i x hx
  rw [hx] at hm⊢;simpa using hm
 ·cases h1
theorem d2t {f:FuncId} {id:Nat} (h1:c8N P f id=true):a1p P f id∈c4f P f:=by
 unfold c8N at h1;split at h1
 ·rename_i x hx
  unfold a1p;rw [hx];exact a96 (id:=id) (by rw [hx];simp)
 ·cases h1
def a08 (P:Program) (los:AL (St→Option (List (Bool×(Ex×St))))) (kb:Nat) (f:FuncId) (X:Ctx:=e8k) (Fs:a1f:=a6e):Prop:=∀id g,get los id=some g→c8N P f id=true∧a30 P kb (a1p P f id) g X Fs
theorem a08.nil {X:Ctx} {Fs:a1f} {kb:Nat} {f:FuncId}:a08 P [] kb f X Fs:=fun _ _ h=>by cases h
theorem a08.cons {X:Ctx} {Fs:a1f} {los:AL (St→Option (List (Bool×(Ex×St))))} {kb:Nat} {f:FuncId} {id:Nat} {g:St→Option (List (Bool×(Ex×St)))} (h:a08 P los kb f X Fs) (h1:c8N P f id=true) (hl:a30 P kb (a1p P f id) g X Fs):a08 P ((id,g)::los) kb f X Fs:=by
 intro i g' hg;simp only [get,a0o] at hg;by_cases hi:id=i
 ·subst hi
  simp only [decide_true,cond_true,f6x] at hg;subst hg;exact ⟨h1,hl⟩
 ·rw [cond_false (by simpa using hi)] at hg
  exact h i g' hg
theorem a08.ok {X:Ctx} {Fs:a1f} {hs:a53} {kb:Nat} {f:FuncId} (h:a08 P hs.los kb f X Fs):∀b∈c4f P f,c8F P hs kb b X Fs:=by
 intro b hb id g hl;unfold b7S at hl;split at hl
 ·cases hl
 ·rename_i id' hid
  split at hl
  ·rename_i g' hg
   simp only [f6x,f6S] at hl;obtain ⟨rfl,rfl⟩:=hl;obtain ⟨h1,h2⟩:=h _ _ hg;have:b=a1p P f id':=d9a h1 hb (by unfold c8M;rw [hid];simp)
   rw [this];exact h2
  ·cases hl
theorem a08.loops {X:Ctx} {hs:a53} {kb:Nat} {f:FuncId} (h:a08 P hs.los kb f X):c38 P hs kb f X:=by
 intro fn c hfn hc b hb;refine h.ok b ?_;unfold c4f;rw [hfn];simp only [hc];exact hb
theorem a08.inner {X:Ctx} {Fs:a1f} {hs:a53} {kb:Nat} {f:FuncId} {id:Nat} (h:a08 P hs.los kb f X Fs) (h1:c8N P f id=true):∀b'∈a0V (a1p P f id),c8F P hs kb b' X Fs:=by
 intro b' hb';refine h.ok b' ?_;have hmem:=d2t h1;unfold c4f at hmem⊢;split at hmem
 ·split at hmem
  ·exact c8L hmem hb'
  ·simp at hmem
 ·simp at hmem
theorem e8N {X:Ctx} {Fs:a1f} {cl:a0e} {hs':a53} {kb:Nat} {f0:FuncId} {id:Nat} {f:St→Option (List (Bool×(Ex×St)))} (hP:a4m P) (hcl:a0c P cl) (hc:a08 P hs'.los kb f0 X Fs) (h1:c8N P f0 id=true) (hfs:a6Z Fs (a1p P f0 id)) (ts ks:List Nat)
  (h:∀st alts,f st=some alts→ ∀x,a6S alts some=some x→ ∃n,a4z P cl hs' kb n (a1p P f0 id) st (fun e st=>some (e,a5h ts ks st))=some x):a30 P kb (a1p P f0 id) f X Fs:=
 d2l hcl (a8f hP.mixed hcl) hfs (hc.inner h1) ts ks h
theorem a5J {cl:a0e} {hs:a53} {kb n:Nat} {f:FuncId} {args:List V} {mem:AL Obj} {r:Res} (hP:a4m P) (hcl:a0c P cl) (hlo:a08 P hs.los kb f) (hk:mem.length=kb)
  (h:body P cl hs n f args mem=some r):a13 P f args mem r:=by
 subst hk;exact (b6u hP hcl (a8f hP.mixed hcl) hlo.loops h).1
def c4g (P:Program) (f:FuncId):Bool:=
 match P.funcs[f]? with
 |some fn=> !fn.body.isNone&& !(fn.name== "runtime.NumGoroutine")
 |none=>false
theorem d2u {f:FuncId} (h:c4g P f=true):a72 P f:=by
 unfold c4g at h;split at h
 ·rename_i fn hfn
  simp only [f6z,Bool.not_eq_true'] at h;exact ⟨fn,hfn,h.1,h.2⟩
 ·cases h
def e8O (P:Program):Bool:=P.follows .mixedOrders&&P.funcs.toList.all fun fn=>match fn.body with
 |some c=>okC fn.ntmps c&& !(fn.name== "runtime.NumGoroutine")
 |none=>true
theorem d2v (h:e8O P=true):a4m P:=by
 unfold e8O at h;simp only [f6z,List.all_eq_true] at h;refine ⟨h.1,fun f fn c hfn hc=> ?_,fun f fn hfn hb=> ?_⟩
 ·have:=h.2 fn (by simpa using Array.mem_of_getElem? hfn)
  rw [hc] at this;simp only [f6z] at this;exact this.1
 ·have:=h.2 fn (by simpa using Array.mem_of_getElem? hfn)
  cases hc:fn.body with
  |none=>rw [hc] at hb;cases hb
  |some c=>
   rw [hc] at this;simp only [f6z,Bool.not_eq_true'] at this;exact this.2
end
inductive Lf where
 |i (n:Int)
 |b (x:Bool)
 |s (x:List UInt8)
 |l (xs:List D)
 |d (x:D)
 |m (es:List (D×D))
 |n (k:Nat)
def d8A:List Lf→Nat→Option Lf
 | [],_=>none
 |x::_,0=>some x
 |_::r,k+1=>d8A r k
def li (L:List Lf) (k:Nat):Int:=match d8A L k with|some (.i x)=>x|_=>0
def lb (L:List Lf) (k:Nat):Bool:=match d8A L k with|some (.b x)=>x|_=>false
def ls (L:List Lf) (k:Nat):List UInt8:=match d8A L k with|some (.s x)=>x|_=>[]
def ll (L:List Lf) (k:Nat):List D:=match d8A L k with|some (.l x)=>x|_=>[]
def ld (L:List Lf) (k:Nat):D:=match d8A L k with|some (.d x)=>x|_=> .i 0
def lm (L:List Lf) (k:Nat):List (D×D):=match d8A L k with|some (.m x)=>x|_=>[]
def ln (L:List Lf) (k:Nat):Nat:=match d8A L k with|some (.n x)=>x|_=>0
inductive HC where
 |u
 |i (k:IntKind)
 |b
 |k (x:Bool)
 |s
 |ks (x:List UInt8)
 |sl (e:TypeId)
 |nsl (e:TypeId)
 |ksl (e:TypeId) (es:List D)
 |nils
 |nilf
 |nov
 |p (key off:Nat)
 |el (e:TypeId) (off:Nat)
 |re (key:Nat) (e:TypeId) (off:Nat)
 |pi (key base len esz off:Nat)
 |o (key:Nat)
 |m (key:Nat)
 |bs (key n:Nat)
 |y (key:Nat)
 |ba (key:Nat) (T:TypeId)
 |ifc
 |f (fn:FuncId) (caps:List (Nat×Nat))
def rI:Nat→List HC→List HC
 |0,l=>l
 |n+1,l=> .i .i64::rI n l
def rL (L:List Lf):Nat→Nat→List C→List C
 |_,0,r=>r
 |i,n+1,r=> .i .i64 (li L i)::rL L (i+1) n r
inductive HV where
 |c (x:HC)
 |g (xs:List HC)
inductive HO where
 |box (cs:List HC)
 |row (e:TypeId) (excl:Bool)
 |map (kt vt:TypeId)
 |kmap (kt vt:TypeId) (es:List (Int×Int))
 |dat (T:TypeId)
 |krow (e q key:Nat)
structure Sh where
 tmps:AL HV
 mem:AL HO
def c6u:List (Nat×Nat)→List (Nat×Nat)→Bool
 | [],[]=>true
 |(a,b)::r,(c,d)::s=>Nat.beq a c&&Nat.beq b d&&c6u r s
 |_,_=>false
mutual
def e4y:D→D→Bool
 | .i a,.i b=>a==b
 | .b a,.b b=>a==b
 | .s a,.s b=>a==b
 | .l a xs,.l b ys=>a==b&&e4z xs ys
 | .a xs,.a ys=>e4z xs ys
 |_,_=>false
def e4z:List D→List D→Bool
 | [],[]=>true
 |x::xs,y::ys=>e4y x y&&e4z xs ys
 |_,_=>false
end
mutual
theorem e4A:∀{x y:D},e4y x y=true→x=y
 | .i a,y,h=>by cases y<;>simp only [e4y] at h<;>first|(rw [eq_of_beq h])|cases h
 | .b a,y,h=>by cases y<;>simp only [e4y] at h<;>first|(rw [eq_of_beq h])|cases h
 | .s a,y,h=>by cases y<;>simp only [e4y] at h<;>first|(rw [eq_of_beq h])|cases h
 | .l a xs,y,h=>by
  cases y<;>simp only [e4y,f6z] at h<;>first|(rw [eq_of_beq h.1,b8h h.2])|cases h
 | .a xs,y,h=>by
  cases y<;>simp only [e4y] at h<;>first|(rw [b8h h])|cases h
theorem b8h:∀{xs ys:List D},e4z xs ys=true→xs=ys
 | [],ys,h=>by cases ys<;>simp only [e4z] at h<;>first|rfl|cases h
 |x::xs,ys,h=>by
  cases ys<;>simp only [e4z,f6z] at h<;>first|(rw [e4A h.1,b8h h.2])|cases h
end
def e8P:HC→C→Bool
 | .u,.u=>true
 | .i k,.i k' _=>k==k'
 | .b,.b _=>true
 | .k x,.k y=>x==y
 | .s,.s _=>true
 | .ks x,.s y=>x==y
 | .sl e,.sl e' _ _=>Nat.beq e e'
 | .nsl e,.sl e' true []=>Nat.beq e e'
 | .nils,.v (.slice none 0 0)=>true
 | .nov,.v v=>d1D v
 | .p k o,.p k' o'=>Nat.beq k k'&&Nat.beq o o'
 | .el e o,.el e' _ o'=>Nat.beq e e'&&Nat.beq o o'
 | .re k e o,.re k' e' _ o'=>Nat.beq k k'&&Nat.beq e e'&&Nat.beq o o'
 | .pi k b l e o,.pi k' b' l' e' _ o'=>Nat.beq k k'&&Nat.beq b b'&&Nat.beq l l'&&Nat.beq e e'&&Nat.beq o o'
 | .o k,.o k'=>Nat.beq k k'
 | .m k,.m k'=>Nat.beq k k'
 | .bs k n,.bs k' n'=>Nat.beq k k'&&Nat.beq n n'
 | .y k,.y k'=>Nat.beq k k'
 | .ba k T,.ba k' T'=>Nat.beq k k'&&Nat.beq T T'
 | .ifc,.ifc _=>true
 | .f fn caps,.f fn' caps'=>Nat.beq fn fn'&&c6u caps caps'
 | .ksl e es,.sl e' nl xs=>Nat.beq e e'&&(!nl)&&e4z es xs
 | .nilf,.v .nilFunc=>true
 |_,_=>false
def c4h:List HC→List C→Bool
 | [],[]=>true
 |x::xs,y::ys=>e8P x y&&c4h xs ys
 |_,_=>false
def f37:HV→V→Bool
 | .c x,.c y=>e8P x y
 | .g xs,.g ys=>c4h xs ys
 |_,_=>false
def f3E:List (Int×Int)→List (D×D)
 | []=>[]
 |(a,b)::r=>(.i a,.i b)::f3E r
def a5g:List (Int×Int)→List (D×D)→Bool
 | [],[]=>true
 |(a,b)::r,(.i c,.i d)::s=>(a==c)&&(b==d)&&a5g r s
 |_,_=>false
theorem c1p:∀{es:List (Int×Int)} {l:List (D×D)},a5g es l=true→f3E es=l
 | [],[],_=>rfl
 |(a,b)::r,(.i c,.i d)::s,h=>by
  simp only [a5g,f6z] at h;rw [f3E,eq_of_beq h.1.1,eq_of_beq h.1.2,c1p h.2]
 | [],_::_,h=>by cases h
 |_::_,[],h=>by cases h
 |_::_,(.b _,_)::_,h=>by simp [a5g] at h
 |_::_,(.s _,_)::_,h=>by simp [a5g] at h
 |_::_,(.l _ _,_)::_,h=>by simp [a5g] at h
 |_::_,(.a _,_)::_,h=>by simp [a5g] at h
 |_::_,(.i _,.b _)::_,h=>by simp [a5g] at h
 |_::_,(.i _,.s _)::_,h=>by simp [a5g] at h
 |_::_,(.i _,.l _ _)::_,h=>by simp [a5g] at h
 |_::_,(.i _,.a _)::_,h=>by simp [a5g] at h
def e26:HO→Obj→Bool
 | .box xs,.box ys=>c4h xs ys
 | .row e ex,.row e' ex' _ _=>Nat.beq e e'&&(ex==ex')
 | .map kt vt,.map kt' vt' _=>Nat.beq kt kt'&&Nat.beq vt vt'
 | .kmap kt vt es,.map kt' vt' es'=>Nat.beq kt kt'&&Nat.beq vt vt'&&a5g es es'
 | .dat T,.dat T' _=>Nat.beq T T'
 | .krow e q key,.krow e' _ q' (.kp key') _=>Nat.beq e e'&&Nat.beq q q'&&Nat.beq key key'
 |_,_=>false
def d2w {α β:Type} (f:α→β→Bool):AL α→AL β→Bool
 | [],[]=>true
 |(k,x)::r,(k',y)::s=>Nat.beq k k'&&f x y&&d2w f r s
 |_,_=>false
def d9b (sh:Sh) (st:St):Bool:=d2w f37 sh.tmps st.tmps&&d2w e26 sh.mem st.mem
def lvC:C→List Lf
 | .i _ n=>[.i n]
 | .b x=>[.b x]
 | .ifc x=>[.b x]
 | .s x=>[.s x]
 | .sl _ n xs=>[.b n,.l xs]
 | .el _ d _=>[.d d]
 | .re _ _ ix _=>[.n ix]
 | .pi _ _ _ _ ix _=>[.n ix]
 |_=>[]
def e4B:List C→List Lf
 | []=>[]
 |c::r=>lvC c++e4B r
def lvV:V→List Lf
 | .c x=>lvC x
 | .g xs=>e4B xs
 |_=>[]
def lvO:Obj→List Lf
 | .box cs=>e4B cs
 | .row _ _ n xs=>[.b n,.l xs]
 | .map _ _ es=>[.m es]
 | .tab _ _ _=>[]
 | .dat _ d=>[.d d]
 | .krow _ k _ _ xs=>[.n k,.l xs]
def d9c {α:Type} (f:α→List Lf):AL α→List Lf
 | []=>[]
 |(_,x)::r=>f x++d9c f r
def f38 (st:St):List Lf:=d9c lvV st.tmps++d9c lvO st.mem
def c6v (L:List Lf) (n:Nat):HC→C×Nat
 | .u=>(.u,n)
 | .i k=>(.i k (li L n),n+1)
 | .b=>(.b (lb L n),n+1)
 | .k x=>(.k x,n)
 | .s=>(.s (ls L n),n+1)
 | .ks x=>(.s x,n+1)
 | .sl e=>(.sl e (lb L n) (ll L (n+1)),n+2)
 | .nsl e=>(.sl e true [],n+2)
 | .ksl e es=>(.sl e false es,n+2)
 | .nils=>(.v (.slice none 0 0),n)
 | .nilf=>(.v .nilFunc,n)
 | .nov=>(.v (.tuple #[]),n)
 | .p k o=>(.p k o,n)
 | .el e o=>(.el e (ld L n) o,n+1)
 | .re k e o=>(.re k e (ln L n) o,n+1)
 | .pi k b l e o=>(.pi k b l e (ln L n) o,n+1)
 | .o k=>(.o k,n)
 | .m k=>(.m k,n)
 | .bs k j=>(.bs k j,n)
 | .y k=>(.y k,n)
 | .ba k T=>(.ba k T,n)
 | .ifc=>(.ifc (lb L n),n+1)
 | .f fn caps=>(.f fn caps,n)
def c1q (L:List Lf):Nat→List HC→List C×Nat
 |n,[]=>([],n)
 |n,x::r=>((c6v L n x).1::(c1q L (c6v L n x).2 r).1,(c1q L (c6v L n x).2 r).2)
def e8l (L:List Lf) (n:Nat):HV→V×Nat
 | .c x=>(.c (c6v L n x).1,(c6v L n x).2)
 | .g xs=>(.g (c1q L n xs).1,(c1q L n xs).2)
def d9d (L:List Lf) (n:Nat):HO→Obj×Nat
 | .box xs=>(.box (c1q L n xs).1,(c1q L n xs).2)
 | .row e ex=>(.row e ex (lb L n) (ll L (n+1)),n+2)
 | .map kt vt=>(.map kt vt (lm L n),n+1)
 | .kmap kt vt es=>(.map kt vt (f3E es),n+1)
 | .dat T=>(.dat T (ld L n),n+1)
 | .krow e q key=>(.krow e (ln L n) q (.kp key) (ll L (n+1)),n+2)
def c4i {α β:Type} (f:Nat→α→β×Nat):Nat→AL α→AL β×Nat
 |n,[]=>([],n)
 |n,(k,x)::r=>((k,(f n x).1)::(c4i f (f n x).2 r).1,(c4i f (f n x).2 r).2)
def a0v (sh:Sh) (L:List Lf):St:=
 {tmps:=(c4i (e8l L) 0 sh.tmps).1,mem:=(c4i (d9d L) (c4i (e8l L) 0 sh.tmps).2 sh.mem).1}
theorem a2v:∀(pre:List Lf) (x:Lf) (post:List Lf),d8A (pre++x::post) pre.length=some x
 | [],_,_=>rfl
 |_::r,x,post=>a2v r x post
theorem b8i (pre:List Lf) (x y:Lf) (post:List Lf):d8A (pre++x::y::post) (pre.length+1)=some y:=by
 have:=a2v (pre++[x]) y post;simpa using this
theorem c1r:∀{a b:List (Nat×Nat)},c6u a b=true→a=b
 | [],[],_=>rfl
 |(a,b)::r,(c,d)::s,h=>by
  simp only [c6u,f6z] at h;rw [f6y h.1.1,f6y h.1.2,c1r h.2]
 | [],_::_,h=>by cases h
 |_::_,[],h=>by cases h
theorem e4C {v:Value} (h:d1D v=true):v= .tuple #[]:=by
 unfold d1D at h;split at h
 ·rename_i vs
  have:vs= #[]:=Array.eq_empty_of_size_eq_zero (f6y h);rw [this]
 ·cases h
theorem d2x {sh:HC} {c:C} (h:e8P sh c=true) (pre post:List Lf):c6v (pre++(lvC c++post)) pre.length sh=(c,pre.length+(lvC c).length):=by
 unfold e8P at h;split at h<;>(try simp only [f6z] at h)
 ·rfl
 ·have:=eq_of_beq h;subst this;simp [c6v,lvC,li,a2v]
 ·simp [c6v,lvC,lb,a2v]
 ·have:=eq_of_beq h;subst this;rfl
 ·simp [c6v,lvC,ls,a2v]
 ·have:=eq_of_beq h;subst this;rfl
 ·have:=f6y h;subst this;simp [c6v,lvC,lb,ll,a2v,b8i]
 ·have:=f6y h;subst this;rfl
 ·rfl
 ·have:=e4C h;subst this;rfl
 ·have e1:=f6y h.1;have e2:=f6y h.2;subst e1 e2;rfl
 ·have e1:=f6y h.1;have e2:=f6y h.2;subst e1 e2;simp [c6v,lvC,ld,a2v]
 ·have e1:=f6y h.1.1;have e2:=f6y h.1.2;have e3:=f6y h.2;subst e1 e2 e3;simp [c6v,lvC,ln,a2v]
 ·obtain ⟨⟨⟨⟨h1,h2⟩,h3⟩,h4⟩,h5⟩:=h
  have e1:=f6y h1;have e2:=f6y h2;have e3:=f6y h3;have e4:=f6y h4;have e5:=f6y h5;subst e1 e2 e3 e4 e5;simp [c6v,lvC,ln,a2v]
 ·have:=f6y h;subst this;rfl
 ·have:=f6y h;subst this;rfl
 ·have e1:=f6y h.1;have e2:=f6y h.2;subst e1 e2;rfl
 ·have:=f6y h;subst this;rfl
 ·have e1:=f6y h.1;have e2:=f6y h.2;subst e1 e2;rfl
 ·simp [c6v,lvC,lb,a2v]
 ·have e1:=f6y h.1;have e2:=c1r h.2;subst e1 e2;rfl
 ·have e1:=f6y h.1.1;have e2:=b8h h.2;have e3:=h.1.2
  simp only [Bool.not_eq_true'] at e3;subst e1 e2 e3;rfl
 ·rfl
 ·cases h
theorem b8j:∀{sh:List HC} {cs:List C},c4h sh cs=true→ ∀(pre post:List Lf),c1q (pre++(e4B cs++post)) pre.length sh=(cs,pre.length+(e4B cs).length)
 | [],[],_,pre,post=>rfl
 |x::xs,y::ys,h,pre,post=>by
  simp only [c4h,f6z] at h;have h1:=d2x h.1 pre (e4B ys++post);have h2:=b8j h.2 (pre++lvC y) post;simp only [f6N,f6P] at h2;simp only [c1q,e4B,f6P,h1,h2,f6N,Nat.add_assoc]
 | [],_::_,h,_,_=>by cases h
 |_::_,[],h,_,_=>by cases h
theorem e4D {sh:HV} {v:V} (h:f37 sh v=true) (pre post:List Lf):e8l (pre++(lvV v++post)) pre.length sh=(v,pre.length+(lvV v).length):=by
 cases sh<;>cases v<;>first|(simp [f37] at h;done)|skip
 ·simp only [e8l,lvV,d2x (show e8P _ _=true from h)]
 ·simp only [e8l,lvV,b8j (show c4h _ _=true from h)]
theorem e4E {sh:HO} {o:Obj} (h:e26 sh o=true) (pre post:List Lf):d9d (pre++(lvO o++post)) pre.length sh=(o,pre.length+(lvO o).length):=by
 cases sh<;>cases o<;>first|(simp [e26] at h;done)|skip
 ·simp only [d9d,lvO,b8j (show c4h _ _=true from h)]
 ·simp only [e26,f6z] at h
  have e1:=f6y h.1;have e2:=eq_of_beq h.2;subst e1 e2;simp [d9d,lvO,lb,ll,a2v,b8i]
 ·simp only [e26,f6z] at h
  have e1:=f6y h.1;have e2:=f6y h.2;subst e1 e2;simp [d9d,lvO,lm,a2v]
 ·simp only [e26,f6z] at h
  have e1:=f6y h.1.1;have e2:=f6y h.1.2;have e3:=c1p h.2;subst e1 e2 e3;simp [d9d,lvO]
 ·have e1:=f6y (show Nat.beq _ _=true from h)
  subst e1;simp [d9d,lvO,ld,a2v]
 ·rename_i e q key e' k q' c xs
  cases c<;>first|(simp [e26] at h;done)|skip
  simp only [e26,f6z] at h;have e1:=f6y h.1.1;have e2:=f6y h.1.2;have e3:=f6y h.2;subst e1 e2 e3;simp [d9d,lvO,ln,ll,a2v,b8i]
theorem b8k {α β:Type} {fit:α→β→Bool} {lv:β→List Lf} {mk:List Lf→Nat→α→β×Nat} (hf:∀sh x,fit sh x=true→ ∀pre post,mk (pre++(lv x++post)) pre.length sh=(x,pre.length+(lv x).length)):
  ∀{sh:AL α} {l:AL β},d2w fit sh l=true→ ∀(pre post:List Lf),c4i (mk (pre++(d9c lv l++post))) pre.length sh=(l,pre.length+(d9c lv l).length)
 | [],[],_,pre,post=>rfl
 |(k,x)::xs,(k',y)::ys,h,pre,post=>by
  simp only [d2w,f6z] at h;have e:=f6y h.1.1;subst e;have h1:=hf x y h.1.2 pre (d9c lv ys++post);have h2:=b8k hf h.2 (pre++lv y) post;simp only [f6N,f6P] at h2;simp only [c4i,d9c,f6P,h1,h2,f6N,Nat.add_assoc]
 | [],_::_,h,_,_=>by cases h
 |_::_,[],h,_,_=>by cases h
theorem e4F {sh:Sh} {st:St} (h:d9b sh st=true):a0v sh (f38 st)=st:=by
 unfold d9b at h;simp only [f6z] at h;have h1:=b8k (lv:=lvV) (mk:=e8l) (fun _ _ h pre post=>e4D h pre post) h.1 [] (d9c lvO st.mem)
 have h2:=b8k (lv:=lvO) (mk:=d9d) (fun _ _ h pre post=>e4E h pre post) h.2 (d9c lvV st.tmps) []
 simp only [List.nil_append,List.length_nil,Nat.zero_add,List.append_nil] at h1 h2;unfold a0v f38;rw [h1];simp only;rw [h2]
def d8B {α:Type} (sh:Sh) (A:List Lf→List (Bool×α)) (st:St):Option (List (Bool×α)):=bif d9b sh st then some (A (f38 st)) else none
theorem b1T {α:Type} {sh:Sh} {A:List Lf→List (Bool×α)} {Q:St→α→Prop} (h:∀L x,a6S (A L) some=some x→Q (a0v sh L) x):∀st alts,d8B sh A st=some alts→ ∀x,a6S alts some=some x→Q st x:=by
 intro st alts ha x hx;unfold d8B at ha;cases hf:d9b sh st with
 |false=>rw [hf] at ha;cases ha
 |true=>
  rw [hf] at ha;simp only [cond_true,f6x] at ha;subst ha;rw [←e4F hf];exact h _ x hx
def b1g:AL V→List V
 | []=>[]
 |(_,x)::r=>x::b1g r
theorem a8g:∀(i:Nat) (args:List V),b1g (params i args)=args
 |_,[]=>rfl
 |i,x::r=>by simp only [params,b1g,a8g]
def a1E (sh:Sh) (A:List Lf→List (Bool×Res)) (args:List V) (mem:AL Obj):Option (List (Bool×Res)):=d8B sh A ⟨params 0 args,mem⟩
theorem a8h {sh:Sh} {A:List Lf→List (Bool×Res)} {P:Program} {f:FuncId} (h:∀L x,a6S (A L) some=some x→a13 P f (b1g (a0v sh L).tmps) (a0v sh L).mem x):∀args mem alts,a1E sh A args mem=some alts→ ∀res,a6S alts some=some res→a13 P f args mem res:=by
 intro args mem alts ha res hr;have:=b1T (Q:=fun st x=>a13 P f (b1g st.tmps) st.mem x) h ⟨params 0 args,mem⟩ alts ha res hr
 simpa only [a8g] using this
def a1a {A B R:Type} (k:A→R) (g:B→R):Sum A B→R
 | .inl a=>k a
 | .inr b=>g b
def a0O {A B:Type}:Option (Sum A B)→Bool
 |some (.inl _)=>true
 |_=>false
def a01 {A B:Type} [Inhabited A]:Option (Sum A B)→A
 |some (.inl a)=>a
 |_=>default
def a0l {A B:Type}:Option (Sum A B)→Option B
 |some (.inr b)=>some b
 |_=>none
theorem a5j {R:Type} (x y:R) (h:a6S [(true,y)] some=some x):some y=some x:=h
theorem a0N {A R:Type} [Inhabited A] {q:Option A} {f:A→R} (x:R) (h:a6S [(q.isSome,f (q.getD default))] some=some x):q.bind (fun p=>some (f p))=some x:=by
 cases q with
 |none=>cases h
 |some a=>exact h
theorem a27 {A B R:Type} [Inhabited A] {q:Option (Sum A B)} {f:A→R} {rest:List (Bool×R)} {g:B→Option R} (h:∀x,a6S rest some=some x→(a0l q).bind g=some x) (x:R)
  (hx:a6S ((a0O q,f (a01 q))::rest) some=some x):q.bind (a1a (fun a=>some (f a)) g)=some x:=by
 match q,hx with
 |none,hx=>exact h x hx
 |some (.inl a),hx=>exact hx
 |some (.inr b),hx=>exact h x hx
def a97:Code→Code
 | .loop b=>b
 |c=>c
def reK {R:Type} (kn:St→Option R) (k:Ex→St→Option R):Ex→St→Option R:=fun e st=>match e with
 | .normal=>kn st
 |e=>k e st
theorem d2y {R:Type} {P:Program} {cl:a0e} {hs:a53} {kb n id:Nat} {b:Code} {st:St} {k:Ex→St→Option R} (hl:b7S hs (.loop b)=none) (hid:3*a10 b=id):
  a4z P cl hs kb (n+1) (.loop b) st k=a4z P cl hs kb n b (a29 P kb hs.loops id st) (reK (fun st=>a4z P cl hs kb n (.loop b) (a29 P kb hs.loops id st) k) k):=by
 subst hid;have hl':a4D P kb hs (.loop b) st=none:=by unfold a4D;rw [hl]
 simp only [a4z,hl',hl];congr 1
theorem e27 {X:Ctx} {Fs:a1f} {P:Program} {cl:a0e} {hs:a53} {kb f id n:Nat} {a b:List Nat} {sh:Sh} {A:List Lf→List (Bool×(Ex×St))} (hP:a4m P) (hcl:a0c P cl) (hal:a08 P hs.los kb f X Fs) (h1:c8N P f id=true) (hfs:a6Z Fs (a1p P f id))
  (h:∀L x,a6S (A L) some=some x→a4z P cl hs kb n (a1p P f id) (a0v sh L) (fun e st=>some (e,a5h a b st))=some x):a30 P kb (a1p P f id) (d8B sh A) X Fs:=
 e8N hP hcl hal h1 hfs a b (b1T (Q:=fun st x=>∃n,a4z P cl hs kb n (a1p P f id) st (fun e st=>some (e,a5h a b st))=some x) fun L x hx=>⟨n,h L x hx⟩)
inductive LT where
 |i|b|s|l|d|m|n
def acL:LT→List Lf→Nat→Lf
 | .i,L,k=> .i (li L k)
 | .b,L,k=> .b (lb L k)
 | .s,L,k=> .s (ls L k)
 | .l,L,k=> .l (ll L k)
 | .d,L,k=> .d (ld L k)
 | .m,L,k=> .m (lm L k)
 | .n,L,k=> .n (ln L k)
def tyC:HC→List LT
 | .i _=>[.i]
 | .b=>[.b]
 | .ifc=>[.b]
 | .s=>[.s]
 | .ks _=>[.s]
 | .sl _=>[.b,.l]
 | .nsl _=>[.b,.l]
 | .ksl _ _=>[.b,.l]
 | .el .. =>[.d]
 | .re .. =>[.n]
 | .pi .. =>[.n]
 |_=>[]
def f39:List HC→List LT
 | []=>[]
 |c::r=>tyC c++f39 r
def tyV:HV→List LT
 | .c x=>tyC x
 | .g xs=>f39 xs
def tyO:HO→List LT
 | .box xs=>f39 xs
 | .row .. =>[.b,.l]
 | .map .. =>[.m]
 | .kmap .. =>[.m]
 | .dat _=>[.d]
 | .krow .. =>[.n,.l]
def f4a {α:Type} (f:α→List LT):AL α→List LT
 | []=>[]
 |(_,x)::r=>f x++f4a f r
def f5q (sh:Sh):List LT:=f4a tyV sh.tmps++f4a tyO sh.mem
def mxL (L x:List Lf):List LT→Nat→List Nat→Nat→List Lf
 | [],_,_,_=>[]
 |t::ts,i,[],j=>acL t L i::mxL L x ts (i+1) [] j
 |t::ts,i,v::vs,j=>bif Nat.beq v i then acL t x j::mxL L x ts (i+1) vs (j+1) else acL t L i::mxL L x ts (i+1) (v::vs) j
def mx (sh:Sh) (vs:List Nat) (L x:List Lf):List Lf:=mxL L x (f5q sh) 0 vs 0
def pkL (L:List Lf):List LT→Nat→List Nat→List Lf
 | [],_,_=>[]
 |_::_,_,[]=>[]
 |t::ts,i,v::vs=>bif Nat.beq v i then acL t L i::pkL L ts (i+1) vs else pkL L ts (i+1) (v::vs)
def pk (sh:Sh) (vs:List Nat) (L:List Lf):List Lf:=pkL L (f5q sh) 0 vs
def lpB (P:Program) (cl:a0e) (h:a53) (kb f id:Nat) (sh:Sh) (vs a b:List Nat) (m:Nat) (kn:St→Option (Ex×St)) (L x:List Lf):Option (Ex×St):=
 a4z P cl h kb m (a97 (a1p P f id)) (a0v sh (mx sh vs L x)) (reK (fun st=>kn (a29 P kb h.loops id st)) (fun e st=>some (e,a5h a b st)))
theorem d9e {P:Program} {cl:a0e} {kb f id:Nat} {h:a53} {a b:List Nat} {sh:Sh} {vs:List Nat} {T:Type} {B:List Lf→List Lf→Option (Sum (List Lf) T)} {Q:List Lf→Nat→List Lf→Option T} {ko:List Lf→T→Option (Ex×St)} {ki:T→Option T}
  (hnl:b7S h (.loop (a97 (a1p P f id)))=none) (hid:3*a10 (a97 (a1p P f id))=id) (hc:∀L,a29 P kb h.loops id (a0v sh L)=a0v sh L)
  (step:∀m kn L x,lpB P cl h kb f id sh vs a b (m+100) kn L x=(B L x).bind (a1a (fun y=>kn (a0v sh (mx sh vs L y))) (ko L)))
  (q0:∀L x,Q L 0 x=none) (qs:∀L m x,Q L (m+1) x=(B L x).bind (a1a (Q L m) ki)) (hki:∀p,ki p=some p):
  ∀(m:Nat) (L x:List Lf) (r:Ex×St),(Q L m x).bind (ko L)=some r→a4z P cl h kb (m+101) (.loop (a97 (a1p P f id))) (a0v sh (mx sh vs L x)) (fun e st=>some (e,a5h a b st))=some r:=by
 intro m;induction m with
 |zero=>intro L x r hr;rw [q0] at hr;cases hr
 | succ m ih=>
  intro L x r hr;rw [d2y hnl hid,hc];have e:=step (m+1) (fun s=>a4z P cl h kb (m+101) (.loop (a97 (a1p P f id))) s (fun e st=>some (e,a5h a b st))) L x
  refine Eq.trans e ?_;rw [qs] at hr;cases hb:B L x with
  |none=>rw [hb] at hr;cases hr
  | some q=>
   rw [hb] at hr;cases q with
   |inl y=>exact ih L y r hr
   |inr p=>
    have hr:(ki p).bind (ko L)=some r:=hr;rw [hki] at hr;exact hr
def mgA {α:Type} (old new:AL α):List Nat→AL α
 | []=>[]
 | k::r=>match get new k with
  |some v=>(k,v)::mgA old new r
  |none=>match get old k with
   |some v=>(k,v)::mgA old new r
   |none=>mgA old new r
def mg (s:St) (ts:List Nat) (nt:AL V) (ks:List Nat) (nm:AL Obj):St:=⟨mgA s.tmps nt ts,mgA s.mem nm ks⟩
def bd (P:Program) (cl:a0e) (h:a53) (f:FuncId) (sh:Sh) (L:List Lf):Option Res:=body P cl h 200 f (b1g (a0v sh L).tmps) (a0v sh L).mem
def a0G (P:Program) (f:FuncId) (sh:Sh) (A:List Lf→List (Bool×Res)):Prop:=∀args mem alts,a1E sh A args mem=some alts→ ∀res,a6S alts some=some res→a13 P f args mem res
structure Sg (P:Program) (kb:Nat) (f:FuncId) (X:Ctx:=e8k) (Fs:a1f:=a6e) where
 h:a53
 ok:a08 P h.los kb f X Fs
def Sg.start {X:Ctx} {Fs:a1f} {P:Program} {kb:Nat} {f:FuncId} (hd:a0E) (rg:List (Nat×List Nat)) (rows:Bool:=false):Sg P kb f X Fs:=⟨{loops:=hd,regs:=rg,los:=[],rows:=rows},a08.nil⟩
def pc (P:Program) (cl:a0e) (h:a53) (kb n f id:Nat) (sh:Sh) (L:List Lf) (a b:List Nat):Option (Ex×St):=a4z P cl h kb n (a1p P f id) (a0v sh L) (fun e st=>some (e,a5h a b st))
def Sg.cut {X:Ctx} {Fs:a1f} {P:Program} {cl:a0e} {kb f n:Nat} (s:Sg P kb f X Fs) {id:Nat} {a b:List Nat} {sh:Sh} (A:List Lf→List (Bool×(Ex×St))) (hP:a4m P) (hcl:a0c P cl) (h:∀L x,a6S (A L) some=some x→pc P cl s.h kb n f id sh L a b=some x) (h1:c8N P f id=true:=by kernel_rfl) (hfs:a6Z Fs (a1p P f id):=by first|exact fsW _|exact fsA (by kernel_rfl)):Sg P kb f X Fs:=
 ⟨{s.h with los:=(id,d8B sh A)::s.h.los},a08.cons s.ok h1 (e27 hP hcl s.ok h1 hfs h)⟩
def Sg.hand {X:Ctx} {Fs:a1f} {P:Program} {kb f:Nat} (s:Sg P kb f X Fs) {id:Nat} {sh:Sh} {A:List Lf→List (Bool×(Ex×St))} (h:a30 P kb (a1p P f id) (d8B sh A) X Fs) (h1:c8N P f id=true:=by kernel_rfl):Sg P kb f X Fs:=
 ⟨{s.h with los:=(id,d8B sh A)::s.h.los},a08.cons s.ok h1 h⟩
def orS {α:Type} (g:St→Option α) (o:Option (St→Option α)):St→Option α:=fun st=>match g st with
 |some x=>some x
 |none=>match o with
  |some f=>f st
  |none=>none
theorem a30.orS {X:Ctx} {Fs:a1f} {P:Program} {kb:Nat} {b:Code} {g:St→Option (List (Bool×(Ex×St)))} {o:Option (St→Option (List (Bool×(Ex×St))))} (hg:a30 P kb b g X Fs) (ho:∀f,o=some f→a30 P kb b f X Fs):a30 P kb b (AM.orS g o) X Fs:=by
 intro st alts ha;unfold AM.orS at ha;split at ha
 ·rename_i x hx
  simp only [f6x] at ha;subst ha;exact hg st _ hx
 ·cases o with
  |none=>cases ha
  |some f=>exact ho f rfl st _ ha
def Sg.no {X:Ctx} {Fs:a1f} {P:Program} {kb f:Nat} (s:Sg P kb f X Fs) (id:Nat):Sg P kb f X Fs:=⟨{s.h with los:=del s.h.los id},fun i g hg=>by
 simp only [a4E] at hg;by_cases hi:i=id
 ·rw [if_pos hi] at hg;cases hg
 ·rw [if_neg hi] at hg;exact s.ok i g hg⟩
def Sg.add {X:Ctx} {Fs:a1f} {P:Program} {kb f:Nat} (s t:Sg P kb f X Fs) (id:Nat):Sg P kb f X Fs:=⟨{s.h with los:=match get t.h.los id with|some g=>(id,orS g (get s.h.los id))::s.h.los|none=>s.h.los},by
 cases ht:get t.h.los id with
 |none=>exact s.ok
 |some g=>exact a08.cons s.ok (t.ok id g ht).1 ((t.ok id g ht).2.orS fun f hf=>(s.ok id f hf).2)⟩
def Sg.lp {X:Ctx} {Fs:a1f} {P:Program} {cl:a0e} {kb f:Nat} (s:Sg P kb f X Fs) {id:Nat} {a b:List Nat} {sh:Sh} {vs:List Nat} {T:Type} (A:List Lf→List (Bool×(Ex×St))) {B:List Lf→List Lf→Option (Sum (List Lf) T)} {Q:List Lf→Nat→List Lf→Option T} {ko:List Lf→T→Option (Ex×St)} {ki:T→Option T} (N:Nat) (hP:a4m P) (hcl:a0c P cl)
  (step:∀m kn L x,lpB P cl s.h kb f id sh vs a b (m+100) kn L x=(B L x).bind (a1a (fun y=>kn (a0v sh (mx sh vs L y))) (ko L)))
  (qs:∀L m x,Q L (m+1) x=(B L x).bind (a1a (Q L m) ki)) (hA:∀L r,a6S (A L) some=some r→(Q L N (pk sh vs L)).bind (ko L)=some r)
  (h1:c8N P f id=true:=by kernel_rfl) (hlp:a1p P f id= .loop (a97 (a1p P f id)):=by kernel_rfl) (hnl:b7S s.h (.loop (a97 (a1p P f id)))=none:=by kernel_rfl) (hid:3*a10 (a97 (a1p P f id))=id:=by kernel_rfl)
  (hc:∀L,a29 P kb s.h.loops id (a0v sh L)=a0v sh L:=by intro L;kernel_rfl) (h0:∀L,a0v sh L=a0v sh (mx sh vs L (pk sh vs L)):=by intro L;kernel_rfl)
  (q0:∀L x,Q L 0 x=none:=by intro L x;rfl) (hki:∀p,ki p=some p:=by intro p;first|rfl|(rcases p with p|p<;>rfl)|(rcases p with p|p|p<;>rfl)|(rcases p with p|p|p|p<;>rfl))
  (hfs:a6Z Fs (a1p P f id):=by first|exact fsW _|exact fsA (by kernel_rfl)):Sg P kb f X Fs:=
 ⟨{s.h with los:=(id,d8B sh A)::s.h.los},a08.cons s.ok h1 (e27 (n:=N+101) hP hcl s.ok h1 hfs fun L r hr=>by rw [hlp,h0 L];exact d9e hnl hid hc step q0 qs hki N L _ r (hA L r hr))⟩
theorem Sg.fn {P:Program} {cl:a0e} {kb f:Nat} (s:Sg P kb f) {sh:Sh} {A:List Lf→List (Bool×Res)} (hP:a4m P) (hcl:a0c P cl) (h:∀L x,a6S (A L) some=some x→bd P cl s.h f sh L=some x) (hk:∀L,(a0v sh L).mem.length=kb:=by intro L;rfl):a0G P f sh A:=
 a8h fun L x hx=>a5J (n:=200) hP hcl s.ok (hk L) (h L x hx)
theorem a0G.to {P:Program} {cl:a0e} {f:FuncId} {sh:Sh} {A:List Lf→List (Bool×Res)} (h:a0G P f sh A) (hcl:a0c P cl) (he:c4g P f=true:=by kernel_rfl):a0c P (ext f (a1E sh A) cl):=e8M hcl (d2u he) h
def c1s (P:Program) (T:CK→D→Prop) (e:TypeId) (x:D):Prop:=
 if a0g P e=true then∃cs,x= .a cs∧All2 T (kinds P e) cs else∃k,kinds P e=[k]∧T k x
def TyK (P:Program):Nat→CK→D→Prop
 |0,_,_=>False
 |n+1,k,d=>match k with
  | .int k=>∃i,d= .i i∧(Lit.int k i).wf=true
  | .bool=>∃b,d= .b b
  | .str=>∃s,d= .s s∧s.length≤maxLen
  | .sl e=>∃nl xs,d= .l nl xs∧(nl=true→xs=[])∧xs.length≤maxLen∧ ∀x∈xs,c1s P (TyK P n) e x
  | .oth=>False
def c6w (P:Program):Nat→List Field→Nat→Bool
 |o,[],n=>Nat.beq o n
 |o,f::r,n=>Nat.beq f.offset o&&c6w P (o+a0a P f.type) r n
def b1E (P:Program):Nat→TypeId→Bool
 |0,_=>false
 |n+1,T=>match P.underlying T with
  |some (.int _)|some .bool|some .string|some (.slice _)=>true
  |some (.struct fs)=>c6w P 0 fs.toList (a0a P T)&&fs.toList.all fun f=>b1E P n f.type&&Nat.beq (a0a P f.type) (a03 P n f.type).length
  |some (.array len e)=>Nat.beq (a0a P T) (len*a0a P e)&&b1E P n e&&Nat.beq (a0a P e) (a03 P n e).length
  |_=>false
section
variable {H:Type} {enc:TypeId×Value→H} {P:Program} {w:World} {spare:Nat→Bool} {held:Bool}
def Sw (w:World):a0D:=fun b _=>b<w.heap.size
def RT (P:Program) (w:World) (m:Nat) (kd:CK×D) (v:Value):Prop:=TyK P m kd.1 kd.2∧a1o P w (Sw w) kd.1 kd.2 v
theorem a8i {α β:Type} {f:α→Option β}:∀{l:List α} {r:List β},l.mapM f=some r→All2 (fun x y=>f x=some y) l r
 | [],r,h=>by simp at h;subst h;trivial
 |x::l,r,h=>by
  simp only [List.mapM_cons,Option.bind_eq_bind,Option.bind_eq_some_iff,Option.pure_def,f6x] at h;obtain ⟨y,h1,ys,h2,rfl⟩:=h;exact ⟨h1,a8i h2⟩
theorem b1h {n:Nat}:∀{fs:List Field} {o:Nat} {cs:List Value} {kds:Field→List (CK×D)→Prop} {R:CK×D→Value→Prop},c6w P o fs n=true→cs.length=n→
  (∀f∈fs,∃l,kds f l∧All2 R l ((cs.drop f.offset).take (a0a P f.type))∧l.length=a0a P f.type)→ ∃ls:List (List (CK×D)),All2 kds fs ls∧All2 R ls.flatten (cs.drop o)
 | [],o,cs,kds,R,hc,hl,_=>by
  have:=f6y hc;refine ⟨[],trivial,?_⟩;rw [List.drop_eq_nil_of_le (by omega)]
  trivial
 | f::r,o,cs,kds,R,hc,hl,h=>by
  simp only [c6w,f6z] at hc;have ho:=f6y hc.1;obtain ⟨l,h1,h2,h3⟩:=h f (by simp)
  obtain ⟨ls,h4,h5⟩:=b1h hc.2 hl fun g hg=>h g (by simp [hg])
  refine ⟨l::ls,⟨h1,h4⟩,?_⟩;rw [List.flatten_cons];have:cs.drop o=(cs.drop f.offset).take (a0a P f.type)++cs.drop (o+a0a P f.type):=by
   rw [ho,←List.drop_drop,List.take_append_drop]
  rw [this];exact h2.append h5
theorem c1t {g:Field→List CK}:∀{fs:List Field} {ls:List (List (CK×D))},All2 (fun f l=>l.map Prod.fst=g f) fs ls→(ls.map (List.map Prod.fst)).flatten=fs.flatMap g
 | [],[],_=>rfl
 |f::fs,l::ls,h=>by simp only [List.map_cons,List.flatten_cons,List.flatMap_cons,c1t h.2,h.1]
 | [],_::_,h=>h.elim
 |_::_,[],h=>h.elim
theorem c6x {n:Nat} {T:TypeId} (hf:b1E P (n+1) T=true) (ha:a0g P T=false):∃k,a03 P (n+1) T=[k]:=by
 unfold b1E at hf;unfold a0g at ha;unfold a03;split at hf<;>rename_i hu<;>simp only [hu] at ha⊢<;>first|exact ⟨_,rfl⟩|(cases ha;done)|(cases hf;done)
theorem d9f {m':Nat} {e:TypeId} {cs:List Value} {kds:List (CK×D)} (q1:b1E P 12 e=true) (hk:kds.map Prod.fst=kinds P e) (h:All2 (RT P w m') kds cs):
  ∃x:D,c1s P (TyK P m') e x∧(∀(j:Nat) (k:CK),(kinds P e)[j]?=some k→ ∃v,cs[j]?=some v∧a1o P w (Sw w) k (elD P e x j) v)∧((a0g P e=true∧x= .a (kds.map Prod.snd))∨(a0g P e=false∧kds.map Prod.snd=[x])):=by
 have hty:All2 (TyK P m') (kinds P e) (kds.map Prod.snd):=by
  rw [←hk];refine .of_get (by simp) fun j x y hx hy=> ?_
  rw [List.getElem?_map] at hx hy;obtain ⟨kd,h1,rfl⟩:=Option.map_eq_some_iff.1 hx;rw [h1] at hy;cases hy;obtain ⟨v,_,hv⟩:=h.get h1;exact hv.1
 have hre:∀(j:Nat) (k:CK),(kinds P e)[j]?=some k→ ∃v,cs[j]?=some v∧a1o P w (Sw w) k ((kds.map Prod.snd).getD j (.i 0)) v:=by
  intro j k hj;rw [←hk,List.getElem?_map] at hj;obtain ⟨kd,h1,rfl⟩:=Option.map_eq_some_iff.1 hj;obtain ⟨v,h2,hv⟩:=h.get h1;refine ⟨v,h2,?_⟩;rw [f6F,List.getElem?_map,h1];exact hv.2
 by_cases ha:a0g P e=true
 ·refine ⟨.a (kds.map Prod.snd),?_,fun j k hj=> ?_,.inl ⟨ha,rfl⟩⟩
  ·unfold c1s;rw [if_pos ha];exact ⟨_,rfl,hty⟩
  ·unfold elD;rw [ha];exact hre j k hj
 ·have ha:=eq_false_of_ne_true ha
  obtain ⟨k0,hk0⟩:=c6x q1 ha;have hk0:kinds P e=[k0]:=hk0;have hl:=hty.length;rw [hk0] at hl hty hre;match hq:kds.map Prod.snd,hl with
  | [x],_=>
   rw [hq] at hty hre;refine ⟨x,?_,fun j k hj=> ?_,.inr ⟨ha,rfl⟩⟩
   ·unfold c1s;rw [ha];exact ⟨k0,hk0,hty.1⟩
   ·unfold elD;rw [ha]
    rw [hk0] at hj;obtain ⟨v,h1,h2⟩:=hre j k hj;refine ⟨v,h1,?_⟩;cases j with
    |zero=>exact h2
    |succ j=>simp at hj
end
def mkZ:List CK→List D→List C
 |k::ks,d::ds=>mkC k d::mkZ ks ds
 |_,_=>[]
def e8m (P:Program) (T:TypeId) (ds:List D):V:=
 bif a0g P T then .g (mkZ (kinds P T) ds) else match mkZ (kinds P T) ds with
  |x::_=> .c x
  | []=> .c .u
def d9g (P:Program):List TypeId→List (List D)→List V
 |T::Ts,ds::dss=>e8m P T ds::d9g P Ts dss
 |_,_=>[]
def a7p (P:Program) (m:Nat) (T:TypeId) (ds:List D):Prop:=All2 (TyK P m) (kinds P T) ds
theorem a0H {α β:Type} {R:α→β→Prop} {x:α} {xs:List α} {ys:List β} (h:All2 R (x::xs) ys):∃y r,ys=y::r∧R x y∧All2 R xs r:=by
 cases ys with
 |nil=>exact h.elim
 |cons y r=>exact ⟨y,r,rfl,h.1,h.2⟩
theorem a4P {α β:Type} {R:α→β→Prop} {ys:List β} (h:All2 R [] ys):ys=[]:=by
 cases ys with
 |nil=>rfl
 |cons=>exact h.elim
def stB (P:Program) (T:TypeId):Bool:=P.readableRec T&&decide (T<P.types.size)
theorem e4G {P:Program} {env:Env} {S:a0D} {w:World} {k:CK} {d:D} {v:Value} (h:a1o P w S k d v):a0p P env S w (mkC k d) v:=by
 cases h with
 |int k d=>rfl
 |bool d=>rfl
 |str d=>rfl
 |oth d=>exact a7T (.oth d)
 |nil e d h1 h2=>exact .nil e _ h1 h2
 |emp e d a cap h1 h2 hm=>exact .emp e _ a cap h1 h2 hm
 |sl e d b off cap cv h1 h2 hl hm h3 h4=>exact .sl e (.l d.isNil d.items) b off cap cv h1 h2 hl hm h3 h4
theorem d2z {P:Program} {env:Env} {S:a0D} {w:World} {m:Nat}:∀{kds:List (CK×D)} {cs:List Value},All2 (RT P w m) kds cs→a0F w (Sw w) w S→All2 (a0p P env S w) (mkZ (kds.map Prod.fst) (kds.map Prod.snd)) cs
 | [],[],_,_=>trivial
 |x::r,y::s,h,hk=>⟨e4G (h.1.2.mono hk),d2z h.2 hk⟩
 | [],_::_,h,_=>h.elim
 |_::_,[],h,_=>h.elim
section
variable {H:Type} {enc:TypeId×Value→H} {P:Program} {W:World}
theorem d9h {env:Env} {S:a0D} {base:Nat} {T:TypeId} {v:Value} {kds:List D} (p1:b1E P 12 T=true) (ho:Value.okWide P W .any base T v) (hz:All2 (a0p P env S W) (mkZ (kinds P T) kds) v.cells.toList):a0x P env S W (e8m P T kds) v:=by
 unfold e8m;by_cases ha:a0g P T=true
 ·rw [cond_true ha]
  have:∃cs,v= .agg cs:=by
   unfold a0g at ha;unfold Value.okWide at ho;split at ho
   ·obtain ⟨cs,h1,_⟩:=ho;exact ⟨cs,h1⟩
   ·obtain ⟨cs,h1,_⟩:=ho;exact ⟨cs,h1⟩
   ·rename_i q1 q2
    split at ha
    ·rename_i hu;exact absurd hu (q1 _)
    ·rename_i hu;exact absurd hu (q2 _ _)
    ·cases ha
  obtain ⟨cs,rfl⟩:=this;exact ⟨cs,rfl,hz⟩
 ·have ha:=eq_false_of_ne_true ha
  rw [cond_false ha];obtain ⟨k0,hk0⟩:=c6x p1 ha;have hk0:kinds P T=[k0]:=hk0;have hv:v.cells.toList=[v]:=by
   cases v with
   | agg cs=>
    exfalso;unfold a0g at ha;unfold Value.okWide at ho;split at ho
    ·rename_i hu;simp [hu] at ha
    ·rename_i hu;simp [hu] at ha
    ·unfold Cell.okWide at ho
     split at ho<;>(try rename_i hq)<;>(try cases hq)
     unfold Cell.ok at ho;split at ho<;>(try rename_i hq)<;>(try cases hq)<;>exact ho
   |_=>rfl
  rw [hv] at hz;generalize hzz:mkZ (kinds P T) kds=z at hz;match z,hz with
  | [x],hz=>exact hz.1
theorem b3N {W':World} {sp:Nat→Bool} (hl:laidOutB P=true) (hb:RowKit.Below W.heap.size W W'):∀{Ts:List TypeId} {vs:List Value} {ds:List (DataW H)} {ps:List MemPlace},(∀T∈Ts,stB P T=true)→DataW.TrodAll enc P W 0 (fun _=>true) true Ts vs ds ps→
  (∀p∈ps,p.block<W.heap.size)→(∀p∈ps,sp p.block=true)→DataW.TrodAll enc P W' 0 sp true Ts vs ds ps
 | [],vs,ds,ps,_,h,_,_=>by
  obtain ⟨rfl,rfl,rfl⟩:=ChangeShapes.trodAll_nil h;rfl
 | T::Ts,vs,ds,ps,hp,h,hlt,hs=>by
  obtain ⟨v,vs1,d,ds1,a,b,rfl,rfl,rfl,h1,h2⟩:=ChangeShapes.trodAll_cons h;have hT:=hp T (by simp)
  unfold stB at hT;simp only [f6z,decide_eq_true_eq] at hT;exact ⟨a,b,WideElems.Trod_stays hl hT.1 hT.2 h1 (fun x hx=>hb.same (hlt x (List.mem_append_left _ hx))) (fun x hx=>hs x (List.mem_append_left _ hx)),
   b3N hl hb (fun T hT=>hp T (by simp [hT])) h2 (fun x hx=>hlt x (List.mem_append_right _ hx)) (fun x hx=>hs x (List.mem_append_right _ hx)),rfl⟩
theorem d9i {W':World} {f:Func} {s:ChangeSpec} {apart a0r handsOn again:Bool} {args:Array Value} {ds gs:List (DataW H)} {before:List MemPlace} {tb:TypeId} (hl:laidOutB P=true) (hvars:s.vars=[])
  (hres:f.resultTypes= #[tb]) (htb:P.underlying tb=some .bool) (hpar:∀T∈f.params.toList,stB P T=true) (hs:∀l,l.length=f.params.size→s.fn H l={results:=[.lit (.bool true)],args:=l})
  (hW:DataW.Whole enc P f.params.toList s.vars apart W args.toList ds gs before) (hb:RowKit.Below W.heap.size W W'):s.post enc P f apart a0r handsOn again W args (.bool true) W':=by
 have hlt:=hW.lt;obtain ⟨p,q,h1,h2,h3,h4,h5⟩:=hW;rw [hvars] at h2;have e2:gs=[]∧q=[]:=by
  cases gs with
  |nil=>exact ⟨rfl,h2⟩
  |cons=>exact h2.elim
 obtain ⟨rfl,rfl⟩:=e2;rw [List.append_nil] at h3;subst h3;have len:∀{Ts:List TypeId} {vs:List Value} {ds:List (DataW H)} {ps:List MemPlace},DataW.TrodAll enc P W 0 (fun _=>true) true Ts vs ds ps→ds.length=Ts.length:=by
  intro Ts;induction Ts with
  |nil=>intro vs ds ps h;obtain ⟨rfl,rfl,rfl⟩:=ChangeShapes.trodAll_nil h;rfl
  |cons T Ts ih=>
   intro vs ds ps h;obtain ⟨v,vs1,d,ds1,a,b,rfl,rfl,rfl,_,h⟩:=ChangeShapes.trodAll_cons h;simp [ih h]
 have hs:=hs (ds++[]) (by rw [List.append_nil,len h1];simp)
 rw [List.append_nil] at hs;have hone:∀(b:Nat) (sp:Nat→Bool) (hd:Bool),DataW.Trod enc P W' b sp hd tb (.bool true) (.lit (.bool true)) []:=fun b sp hd=>⟨1,by simp [DataW.trod,htb,Value.cells]⟩
 have hresl:((Value.bool true).resultList f.resultTypes.size)=[.bool true]:=by rw [hres];rfl
 refine ⟨ds,[],before,[],before,[],⟨before,[],h1,by rw [hvars];rfl,by simp,h4,h5⟩,?_,?_,?_,hb.frame _,fun _=>⟨?_,ds|>.cons (.lit (.bool true)),[],before,?_,fun x hx _=>hx⟩⟩
 ·rw [List.append_nil,hs,hresl,hres]
  exact ⟨[],[],hone _ _ _,rfl,rfl⟩
 ·rw [List.append_nil,hs]
  exact b3N hl hb hpar h1 hlt fun x hx=>decide_eq_true (hlt x hx)
 ·rw [List.append_nil,hs,hvars];rfl
 ·intro j t r hj hv'
  rw [hresl] at hv';rw [hres] at hj;cases j with
  |zero=>
   simp at hj hv';subst hj hv';simp [Value.okWide,htb,Cell.okWide,Cell.ok]
  |succ j=>simp at hj
 ·refine ⟨before,[],?_,by rw [hvars];rfl,by simp,?_,h5⟩
  ·rw [hresl,hres]
   exact ⟨[],before,hone _ _ _,b3N hl hb hpar h1 hlt fun x hx=>rfl,rfl⟩
  ·intro b off hx
   rw [hb.frozen (p:=⟨b,off,none⟩) (hlt _ hx)];exact h4 b off hx
theorem e4H {f:FuncId} {fn:Func} {s:ChangeSpec} {apart a0r handsOn again:Bool} {tb:TypeId} (hl:laidOutB P=true) (hvars:s.vars=[])
  (hres:fn.resultTypes= #[tb]) (htb:P.underlying tb=some .bool) (hst:∀T∈fn.params.toList,stB P T=true) (hs:∀l,l.length=fn.params.size→s.fn H l={results:=[.lit (.bool true)],args:=l})
  {avs:List V} (hc:a13 P f avs [] ([.c (.b true)],[])) (hgi:∀{M:a0D},(∀b o,¬M b o)→GI P M W) {args:Array Value}
  (d2:All2 (a0x P (fun _=>⟨0,0,none⟩) (Sof P (Sw W) (a7F P (fun _=>⟨0,0,none⟩) []) W.heap.size (fun _=>⟨0,0,none⟩) [] W) W) avs args.toList) {ds gs:List (DataW H)} {before:List MemPlace}
  (hW:DataW.Whole enc P fn.params.toList s.vars apart W args.toList ds gs before):Calls P f args W fun e W'=>∃v,e= .returned v∧s.post enc P fn apart a0r handsOn again W args v W':=by
 let env:Env:=fun _=>⟨0,0,none⟩
 have hpre:b78 P (Sw W) env [] W:=⟨⟨rfl,fun k o h=>(by cases h),fun k k' o o' h=>(by cases h),fun k o b x h=>(by cases h),fun k e ex xs h=>(by cases h),Chg.refl _ W,fun b o h=>h,fun _ _=>rfl,hgi fun b o ⟨k,ob,hg,_⟩=>(by cases hg)⟩,fun k o h=>(by cases h)⟩
 refine (hc (Sw W) env W args hpre d2).mono fun e W' ⟨v,he,env',hm,hv'⟩=>⟨v,he,?_⟩
 have hno:∀b o,¬a7F P env [] b o:=fun b o ⟨k,ob,hg,_⟩=>by cases hg
 have hb:RowKit.Below W.heap.size W W':=⟨hm.ch.os,hm.ch.tape,hm.ch.output,hm.ch.size,fun k hk=>by
  have hs:=Array.getElem?_eq_getElem hk;rw [hs];exact hm.ch.other k _ hs (hno k)⟩
 have:v= .bool true:=hv';subst this;exact d9i hl hvars hres htb hst hs hW hb
end
theorem a0i {A R:Type} (e:A) (f:A→R):bnd e f=f e:=rfl
theorem a0s {x:Int} (h1: -9223372036854775808≤x) (h2:x≤9223372036854775807):IntKind.wrap .i64 x=x:=by rw [IntKind.wrap_i64];omega
theorem a0K {i:Int} {n:Nat} (h1:0≤i) (h2:i<n):inB i n=true:=by unfold inB;rw [decide_eq_true h1,decide_eq_true h2];rfl
theorem a2w {A X:Type} {S:A→(A→X)→X} {L:Nat→A→X} (hL:∀m a,L (m+1) a=S a (L m)) (spec:A→X) (Inv:A→Prop) (μ:A→Nat)
  (h:∀a kr,Inv a→(∀a',Inv a'→μ a'<μ a→kr a'=spec a')→S a kr=spec a):∀(m:Nat) (a:A),Inv a→μ a<m→L m a=spec a:=by
 intro m;induction m with
 |zero=>intro a _ h;omega
 |succ m ih=>intro a ha hm;rw [hL];exact h a (L m) ha fun a' h1 h2=>ih a' h1 (by omega)
theorem a05 {α:Type} (d:α) {xs:List α} {w:Int} (h0:0≤w) (h1:w<xs.length):xs.drop w.toNat=xs.getD w.toNat d::xs.drop (w+1).toNat:=by
 have e:(w+1).toNat=w.toNat+1:=by omega
 have hl:w.toNat<xs.length:=by omega
 rw [e,List.drop_eq_getElem_cons hl,f6F,f6L hl];rfl
theorem a0U {α:Type} {xs:List α} {w:Int} (h1:¬w<xs.length):xs.drop w.toNat=[]:=List.drop_eq_nil_of_le (by omega)
theorem a2S {α X:Type} {xs:List α} (d:α) {S:Int→(Int→X)→X} {L:Nat→Int→X} (hL:∀m a,L (m+1) a=S a (L m)) (spec:Int→List α→X) (hlen:xs.length≤maxLen)
  (hend:∀kr,S xs.length kr=spec xs.length [])
  (hstep:∀(w:Int) (kr:Int→X),0≤w→w<xs.length→IntKind.wrap .i64 (w+1)=w+1→inB w xs.length=true→kr (w+1)=spec (w+1) (xs.drop (w+1).toNat)→S w kr=spec w (xs.getD w.toNat d::xs.drop (w+1).toNat))
  {N:Nat} (hN:maxLen<N):L N 0=spec 0 xs:=by
 have hm:maxLen=9223372036854775807:=rfl;have:=a2w hL (fun w=>spec w (xs.drop w.toNat)) (fun w=>0≤w∧w≤xs.length) (fun w=>(xs.length-w).toNat) (fun w kr ⟨h0,h1⟩ ih=>by
  by_cases hw:w<xs.length
  ·rw [a05 d h0 hw]
   exact hstep w kr h0 hw (a0s (by omega) (by omega)) (a0K h0 hw) (ih (w+1) ⟨by omega,by omega⟩ (by omega))
  ·have:w=xs.length:=by omega
   subst this;rw [a0U (by omega)]
   exact hend kr) N 0 ⟨Int.le_refl _,by omega⟩ (by omega)
 simpa using this
theorem c8O {R:Type} {c c':Bool} {x y:R} (h:c=c'):(bif c then x else y)=(bif c' then x else y):=by rw [h]
theorem a2x {A B:Type} (a:A):a0O (some (Sum.inl a:Sum A B))=true:=rfl
theorem a1V {A B:Type} (b:B):a0O (some (Sum.inr b:Sum A B))=false:=rfl
theorem a2y {A B:Type} [Inhabited A] (a:A):a01 (some (Sum.inl a:Sum A B))=a:=rfl
theorem a1W {A B:Type} (b:B):a0l (some (Sum.inr b:Sum A B))=some b:=rfl
theorem getD_some {A:Type} (a d:A):(some a).getD d=a:=rfl
section
variable {P:Program} {N n0 kb:Nat} {F:Nat→Prop} {B M0:a0D} {w0:World} {e0:a5i} {env:Env} {st:St} {a:Act} {w:World}
theorem d2A {ops:Array Oper} {Q:Exit→Act→World→Prop} {o:Oper} {rest:List Oper} {v:Value} {w':World} (hg:o.guard=none) (h:(execOp a.eval o).run P w= .ok (.value v) w') (hk:wpList P ops Q rest (a.put o.dst v) w'):wpList P ops Q (o::rest) a w:=by
 unfold wpList;rw [if_pos (by simp [Region.wanted,hg])]
 exact .inl (a0A h hk)
end
section
variable {P:Program} {N n0 kb n:Nat} {F:Nat→Prop} {B M0:a0D} {w0:World} {e0:a5i} {env:Env} {st:St} {a:Act} {w:World} {Fe:Fence}
end
structure e4I where
 ps:List Nat
 ca:Code
 cb:Code
 tm:List (Nat×V)
 ky:Nat
 d:Nat
 hs:a53:={}
def tmB (n:Nat):V→Bool
 | .c (.p i _)=>Nat.blt i n
 | .c (.i _ _)=>true
 | .c (.b _)=>true
 | .c (.k _)=>true
 | .c (.s _)=>true
 |_=>false
section
variable {P:Program} {N n0 kb n:Nat} {F:Nat→Prop} {B M0:a0D} {w0:World} {e0:a5i} {env:Env} {st:St} {a:Act} {w:World} {Fe:Fence}
end
def e4I.at_ (Y:e4I) (ts:List Nat) (xs:List V):e4I:={Y with tm:=ts.zip xs}
section
variable {P:Program} {N n0 kb n:Nat} {F:Nat→Prop} {B M0:a0D} {w0:World} {e0:a5i} {env:Env} {st:St} {a:Act} {w:World}
end
end Go.AM
end
