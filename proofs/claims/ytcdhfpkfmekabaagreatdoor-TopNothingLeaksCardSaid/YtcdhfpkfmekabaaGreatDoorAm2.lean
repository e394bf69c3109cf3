/- The abstract machine: a call as an operation. -/
import Derived.Test.YtcdhfpkfmekabaaGreatDoorAm1
import Derived.IntWalk
import Derived.Laws.MakeOwn
import Derived.Lib.AppendZeros
import Derived.Lib.AppendZerosOnto
import Derived.Lib.AppendStr
import Derived.Laws.StandIn
set_option linter.all false
set_option maxRecDepth 100000
set_option maxHeartbeats 4000000
noncomputable section
namespace Go.AM
open Go
def upd (env:Env) (key:Nat) (s:a1J):Env:=fun k=>if k=key then s else env k
section
variable {P:Program} {N n0 kb:Nat} {F:Nat→Prop} {B M0:a0A} {w0:World} {e0:a6l} {env:Env} {st:St} {a:Act} {w:World}
theorem c6P (k:CK) (d:D):a2X (mkC k d)=[]:=by
 cases k<;>first
  |rfl
  |(rcases a28 d with o1|⟨_,o1⟩<;>rw [o1]<;>rfl)
theorem b09 (e:TypeId) (d:D):∀c∈a0E P e d,a2X c=[]:=by
 intro c hc;obtain ⟨j,hj⟩:=List.getElem?_of_mem hc;rw [getElem?_elCells] at hj;cases hk:(kinds P e)[j]? with
 |none=>rw [hk] at hj;cases hj
 |some k=>rw [hk] at hj;simp only [e6r,e55] at hj;subst hj;exact c6P _ _
theorem a0R {S S':a0A} {w':World} {env':Env} (h:a0y w S w' S') {T:TypeId} {d:D} {v:Value} (hr:a0s P env S w (a1L P T d) v):a0s P env' S' w' (a1L P T d) v:=by
 unfold a1L at hr⊢;cases ha:a0d P T with
 |true=>
  rw [ha] at hr;obtain ⟨vs,h1,h2⟩:=hr;exact ⟨vs,h1,h2.mono fun c u hc hcu=>a0j.mono h (fun k hk=>by rw [b09 T d c hc] at hk;cases hk) hcu⟩
 | false=>
  rw [ha] at hr;simp only [cond_false] at hr⊢;split at hr
  ·rename_i c he
   exact a0j.mono h (fun k hk=>by rw [b09 T d c (by rw [he];simp)] at hk;cases hk) hr
  ·trivial
theorem a3P {S S':a0A} {w':World} {env':Env} (h:a0y w S w' S') {s:a1J} {e:TypeId} {ex nl:Bool} {xs:List D} (hh:nl=false→w'.heap[s.blk]? =w.heap[s.blk]?) (hr:a0x P env S w s (.row e ex nl xs)) (ex':Bool):a0x P env' S' w' s (.row e ex' nl xs):=by
 obtain ⟨h0,h1|⟨h1,h2,cap,cur,h3,h4,h5,h6,h7,h8⟩⟩:=hr
 ·exact ⟨h0,.inl h1⟩
 ·exact ⟨h0,.inr ⟨h1,h2,cap,cur,h3,h4.same (hh h1),h5,h6,h7,fun i j k hi hk=>let ⟨u,a,b⟩:=h8 i j k hi hk;⟨u,a,b.mono h⟩⟩⟩
theorem a62 {S S':a0A} {w':World} {env':Env} (h:a0y w S w' S') {s:a1J} {kt vt:TypeId} {es:List (D×D)} (hh:w'.heap[s.blk]? =w.heap[s.blk]?) (hr:a0x P env S w s (.map kt vt es)):a0x P env' S' w' s (.map kt vt es):=by
 obtain ⟨ents,clock,h1,h2⟩:=hr;exact ⟨ents,clock,by rw [hh];exact h1,h2.mono fun x y _ hxy=>let ⟨kd,q1,q2⟩:=hxy.1;⟨⟨kd,a0R h q1,q2⟩,a0R h hxy.2⟩⟩
theorem c0R {S S':a0A} {w':World} {env':Env} (h:a0y w S w' S') {s s':a1J} {kt vt:TypeId} {es:List (D×C)} {f:C→C} (hf:∀x v,x∈es.map (·.2)→a0j P env S w x v→a0j P env' S' w' (f x) v) (hh:w'.heap[s'.blk]? =w.heap[s.blk]?) (hr:a0x P env S w s (.tab kt vt es)):a0x P env' S' w' s' (.tab kt vt (es.map fun x=>(x.1,f x.2))):=by
 obtain ⟨ents,clock,h1,h2⟩:=hr;exact ⟨ents,clock,by rw [hh];exact h1,h2.mapl fun x y hx hxy=>let ⟨kd,q1,q2⟩:=hxy.1;⟨⟨kd,a0R h q1,q2⟩,hf _ _ (List.mem_map_of_mem hx) hxy.2⟩⟩
theorem c2z {S S':a0A} {w':World} {env':Env} (h:a0y w S w' S') {s s':a1J} {kt vt:TypeId} {es:List (D×C)} (hf:∀x v,x∈es.map (·.2)→a0j P env S w x v→a0j P env' S' w' x v) (hh:w'.heap[s'.blk]? =w.heap[s.blk]?) (hr:a0x P env S w s (.tab kt vt es)):a0x P env' S' w' s' (.tab kt vt es):=by
 obtain ⟨ents,clock,h1,h2⟩:=hr;exact ⟨ents,clock,by rw [hh];exact h1,h2.mono fun x y hx hxy=>let ⟨kd,q1,q2⟩:=hxy.1;⟨⟨kd,a0R h q1,q2⟩,hf _ _ (List.mem_map_of_mem hx) hxy.2⟩⟩
theorem a63 {S S':a0A} {w':World} {env':Env} (h:a0y w S w' S') {s:a1J} {T:TypeId} {d:D} (hh:w'.heap[s.blk]? =w.heap[s.blk]?) (hr:a0x P env S w s (.dat T d)):a0x P env' S' w' s (.dat T d):=by
 obtain ⟨h0,cur,E,h1,h2,h3⟩:=hr;exact ⟨h0,cur,E,by rw [hh];exact h1,h2,fun j k hk=>let ⟨u,a,b⟩:=h3 j k hk;⟨u,a,b.mono h⟩⟩
theorem a8R {S S':a0A} {w':World} {env':Env} (h:a0y w S w' S') {s s':a1J} {e:TypeId} {k q:Nat} {c c':C} {xs:List D} (hb:s'.blk=s.blk) (h0:s'.base=s.base) (hd:s'.head=s.head) (hf:∀v,a0j P env S w c v→a0j P env' S' w' c' v) (hh:w'.heap[s.blk]? =w.heap[s.blk]?) (hr:a0x P env S w s (.krow e k q c xs)):a0x P env' S' w' s' (.krow e k q c' xs):=by
 obtain ⟨a1,a2,a3,a4,cap,cur,a5,a6,a7,a8,a9,⟨u,b1,b2⟩,b3⟩:=hr;refine ⟨a1,h0.trans a2,a3,a4,cap,cur,?_,by rw [hb];exact a6.same hh,a7,a8,a9,⟨u,b1,hf u b2⟩,fun i j t hi ht hn=>let ⟨v,c1,c2⟩:=b3 i j t hi ht hn;⟨v,c1,c2.mono h⟩⟩
 unfold a1J.hdr at a5⊢;rw [hb,hd];exact a5
theorem b8D {S S':a0A} {w':World} {env':Env} (h:a0y w S w' S') {key:Nat} (he:∀k,k≠key→env' k=env k) {s:a1J} {o:Obj} (hh:a0N o→w'.heap[s.blk]? =w.heap[s.blk]?) (hr:a0x P env S w s o):a0x P env' S' w' s (a4s key o):=by
 cases o with
 |box cs=>
  obtain ⟨cur,T,h1,h2,h3,h4⟩:=hr;refine ⟨cur,T,by rw [hh trivial];exact h1,by simpa using h2,?_,a3O (fun _=>a4X) h4⟩
  simp only [List.length_map];exact h3.mapl fun x y _ hxy=>a0j.inval h key he hxy
 |row e ex nl xs=>exact a3P h hh hr ex
 |map kt vt es=>exact a62 h (hh trivial) hr
 |tab kt vt es=>exact c0R h (fun x v _ hx=>a0j.inval h key he hx) (hh trivial) hr
 |dat T d=>exact a63 h (hh trivial) hr
 |krow e k q c xs=>exact a8R h rfl rfl rfl (fun v hx=>a0j.inval h key he hx) (hh trivial) hr
theorem a1d {S S':a0A} {w':World} (h:a0y w S w' S') {s:a1J} {o:Obj} (hh:a0N o→w'.heap[s.blk]? =w.heap[s.blk]?) (hr:a0x P env S w s o):a0x P env S' w' s o:=by
 cases o with
 |box cs=>
  obtain ⟨cur,T,h1,h2,h3,h4⟩:=hr;exact ⟨cur,T,by rw [hh trivial];exact h1,h2,h3.mono fun x y _ hxy=>a0j.mono h (fun _ _=>rfl) hxy,h4⟩
 |row e ex nl xs=>exact a3P h hh hr ex
 |map kt vt es=>exact a62 h (hh trivial) hr
 |tab kt vt es=>exact c2z h (fun x v _ hx=>a0j.mono h (fun _ _=>rfl) hx) (hh trivial) hr
 |dat T d=>exact a63 h (hh trivial) hr
 |krow e k q c xs=>exact a8R h rfl rfl rfl (fun v hx=>a0j.mono h (fun _ _=>rfl) hx) (hh trivial) hr
theorem b5l {s:a1J} {key:Nat} {o:Obj} {b x:Nat}:a3B P s (a4s key o) b x↔a3B P s o b x:=by
 cases o<;>simp [a4s,a3B]
theorem a29 {key:Nat} {o:Obj}:a0N (a4s key o)↔a0N o:=by cases o<;>simp [a4s,a0N]
theorem a1H {s:a1J} {o:Obj} {b x:Nat} (h:a3B P s o b x):a0N o∧b=s.blk:=by
 cases o with
 |box cs=>exact ⟨trivial,h.1⟩
 |row e ex nl xs=>exact ⟨h.1,h.2.1⟩
 |map kt vt es=>exact ⟨trivial,h⟩
 |tab kt vt es=>exact ⟨trivial,h⟩
 |dat T d=>exact ⟨trivial,h⟩
 |krow e k q c xs=>exact ⟨trivial,h⟩
theorem Rel.new (h:Rel P N n0 B M0 w0 F e0 env st a w) {mem0:AL Obj} (hsub:∀k ob,get mem0 k=some ob→get st.mem k=some ob) (key:Nat) (hkey:¬F key) (o:Obj) (s:a1J) {w':World} (Mt:a0A)
  (hch:Chg Mt w w') (hMt:∀b x,Mt b x→ ∃k ob,get st.mem k=some ob∧a3B P (env k) ob b x)
  (hother:∀k ob,k≠key→get mem0 k=some ob→a0N ob→w'.heap[(env k).blk]? =w.heap[(env k).blk]?)
  (hnew:a0y w (Sof P B M0 n0 env st.mem w) w' (Sof P B M0 n0 (upd env key s) (a0o key o {st with mem:=mem0}).mem w')→a0x P (upd env key s) (Sof P B M0 n0 (upd env key s) (a0o key o {st with mem:=mem0}).mem w') w' s o)
  (hmutnew:∀b x,a3B P s o b x→w.heap.size≤b∨ ∃k' ob',get st.mem k'=some ob'∧a3B P (env k') ob' b x)
  (hdsnew:a0N o→ ∀k ob,k≠key→get mem0 k=some ob→a0N ob→(env k).blk≠s.blk)
  (hprnew:∀e ex xs,o= .row e ex false xs→ ∀x,x<xs.length*a0a P e→B s.blk x∨n0≤s.blk∨M0 s.blk x):
  Rel P N n0 B M0 w0 F e0 (upd env key s) (a0o key o {st with mem:=mem0}) a w':=by
 have hek:upd env key s key=s:=by simp [upd]
 have hen:∀k,k≠key→upd env key s k=env k:=fun k hk=>by simp [upd,hk]
 have hget:∀k ob,get (a0o key o {st with mem:=mem0}).mem k=some ob→(k=key∧ob=o)∨(k≠key∧ ∃ob0,get mem0 k=some ob0∧ob=a4s key ob0):=by
  intro k ob hg;simp only [a0o,a1Q] at hg;by_cases hk:k=key
  ·rw [if_pos hk] at hg;simp only [e55] at hg;exact .inl ⟨hk,hg.symm⟩
  ·rw [if_neg hk,a1c] at hg
   cases hg0:get mem0 k with
   |none=>rw [hg0] at hg;cases hg
   |some ob0=>rw [hg0] at hg;simp only [e6r,e55] at hg;exact .inr ⟨hk,ob0,rfl,hg.symm⟩
 refine Rel.step h Mt hch hMt ?_ ?_ ?_ ?_ ?_ (fun k hk=>hen k fun e=>hkey (e▸hk))
 ·intro k ob b x hg hm
  rcases hget k ob hg with ⟨rfl,rfl⟩|⟨hk,ob0,hg0,rfl⟩
  ·rw [hek] at hm;exact hmutnew b x hm
  ·rw [hen k hk,b5l] at hm
   exact .inr ⟨k,ob0,hsub k ob0 hg0,hm⟩
 ·intro hkeep t x hx
  simp only [a1c] at hx;cases hg:get st.tmps t with
  |none=>rw [hg] at hx;cases hx
  |some y=>
   rw [hg] at hx;simp only [e6r,e55] at hx;subst hx;exact a0l.inval hkeep key hen (h.tm t y hg)
 ·intro hkeep k ob hg
  rcases hget k ob hg with ⟨rfl,rfl⟩|⟨hk,ob0,hg0,rfl⟩
  ·rw [hek];exact hnew hkeep
  ·rw [hen k hk]
   exact b8D hkeep hen (hother k ob0 hk hg0) (h.ob k ob0 (hsub k ob0 hg0))
 ·intro k k' o1 o2 hg hg' hr hr' hne
  rcases hget k o1 hg with ⟨rfl,rfl⟩|⟨hk,ob0,hg0,rfl⟩
  ·rcases hget k' o2 hg' with ⟨rfl,rfl⟩|⟨hk',ob0',hg0',rfl⟩
   ·exact absurd rfl hne
   ·rw [hek,hen k' hk']
    exact (hdsnew hr k' ob0' hk' hg0' (a29.1 hr')).symm
  ·rcases hget k' o2 hg' with ⟨rfl,rfl⟩|⟨hk',ob0',hg0',rfl⟩
   ·rw [hek,hen k hk]
    exact hdsnew hr' k ob0 hk hg0 (a29.1 hr)
   ·rw [hen k hk,hen k' hk']
    exact h.ds k k' ob0 ob0' (hsub k ob0 hg0) (hsub k' ob0' hg0') (a29.1 hr) (a29.1 hr') hne
 ·intro k e ex xs hg x hx
  rcases hget k _ hg with ⟨rfl,rfl⟩|⟨hk,ob0,hg0,hrow⟩
  ·rw [hek];exact hprnew e ex xs rfl x hx
  ·rw [hen k hk]
   cases ob0 with
   |row e' ex' nl' xs'=>
    simp only [a4s,Obj.row.injEq] at hrow;obtain ⟨rfl,rfl,rfl,rfl⟩:=hrow;exact h.pr k e ex xs (hsub k _ hg0) x hx
   |box cs=>cases hrow
   |map kt vt es=>cases hrow
   |tab kt vt es=>cases hrow
   |dat T d=>cases hrow
   |krow e k q c xs=>cases hrow
def push (w:World) (o:Go.Obj):World:={w with heap:=w.heap.push o}
theorem c2A {w:World} {o:Go.Obj} {b:Nat} (h:b<w.heap.size):(push w o).heap[b]? =w.heap[b]? :=by
 show (w.heap.push o)[b]? =_;rw [Array.getElem?_push,if_neg (by omega)]
theorem a5F {w:World} {o:Go.Obj}:(push w o).heap[w.heap.size]? =some o:=by
 show (w.heap.push o)[w.heap.size]? =_;rw [Array.getElem?_push,if_pos rfl]
theorem a3Q (M:a0A) (w:World) (o:Go.Obj):Chg M w (push w o):=
 ⟨rfl,rfl,rfl,by simp [push],fun b cur T fr h=>⟨cur,fr,by rw [c2A (e6f.1 h).1];exact h,rfl,fun _ _=>rfl,.inl rfl⟩,
  fun b ob h _=>by rw [c2A (e6f.1 h).1];exact h⟩
theorem Rel.lt (h:Rel P N n0 B M0 w0 F e0 env st a w) {k:Nat} {ob:Obj} (hg:get st.mem k=some ob) (hr:a0N ob):(env k).blk<w.heap.size:=by
 have:=h.ob k ob hg;cases ob with
 |box cs=>obtain ⟨cur,T,h1,_⟩:=this;exact (e6f.1 h1).1
 |row e ex nl xs=>
  obtain ⟨_,⟨hn,_⟩|⟨_,_,cap,cur,_,h1,_⟩⟩:=this
  ·rw [show nl=false from hr] at hn;cases hn
  ·exact h1.lt
 |map kt vt es=>obtain ⟨ents,clock,h1,_⟩:=this;exact (e6f.1 h1).1
 |tab kt vt es=>obtain ⟨ents,clock,h1,_⟩:=this;exact (e6f.1 h1).1
 |dat T d=>obtain ⟨_,cur,E,h1,_⟩:=this;exact (e6f.1 h1).1
 |krow e k q c xs=>obtain ⟨_,_,_,_,cap,cur,_,h1,_⟩:=this;exact h1.lt
theorem Rel.newBlock (h:Rel P N n0 B M0 w0 F e0 env st a w) {mem0:AL Obj} (hsub:∀k ob,get mem0 k=some ob→get st.mem k=some ob) (key:Nat) (hkey:¬F key) (o:Obj) (hd:Option (Nat×Nat)) (go:Go.Obj) {w':World} (hch:Chg (fun _ _=>False) w w') (hheap:w'.heap=w.heap.push go)
  (hnew:∀S',a0y w (Sof P B M0 n0 env st.mem w) w' S'→a0x P (upd env key ⟨w.heap.size,0,hd⟩) S' w' ⟨w.heap.size,0,hd⟩ o):
  Rel P N n0 B M0 w0 F e0 (upd env key ⟨w.heap.size,0,hd⟩) (a0o key o {st with mem:=mem0}) a w':=by
 refine Rel.new h hsub key hkey o _ (fun _ _=>False) hch (fun _ _ hf=>hf.elim) ?_ (fun hk=>hnew _ hk) ?_ ?_ ?_
 ·intro k ob _ hg hr
  have:=h.lt (hsub k ob hg) hr;rw [hheap,Array.getElem?_push,if_neg (by omega)]
 ·intro b x hm
  have:=(a1H hm).2;exact .inl (by rw [this];exact Nat.le_refl _)
 ·intro _ k ob _ hg hr
  have:=h.lt (hsub k ob hg) hr;show (env k).blk≠w.heap.size;omega
 ·intro e ex xs _ x _
  exact .inr (.inl h.n0le)
theorem Rel.upd (h:Rel P N n0 B M0 w0 F e0 env st a w) {key:Nat} {o o':Obj} (hg:get st.mem key=some o) {w':World} (Mt:a0A) (hch:Chg Mt w w') (hMt:∀b x,Mt b x→a3B P (env key) o b x)
  (hmut:∀b x,a3B P (env key) o' b x→a3B P (env key) o b x) (hreal:a0N o'→a0N o) (hsame:∀b,b≠(env key).blk→w'.heap[b]? =w.heap[b]?) (hro:a0N o)
  (hnew:∀S',a0y w (Sof P B M0 n0 env st.mem w) w' S'→a0x P env S' w' (env key) o')
  (hpr:∀e ex xs,o'= .row e ex false xs→ ∀x,x<xs.length*a0a P e→B (env key).blk x∨n0≤(env key).blk∨M0 (env key).blk x):
  Rel P N n0 B M0 w0 F e0 env {st with mem:=set st.mem key o'} a w':=by
 have hget:∀k ob,get (set st.mem key o') k=some ob→(k=key∧ob=o')∨(k≠key∧get st.mem k=some ob):=by
  intro k ob hgk;rw [a1Q] at hgk;by_cases hk:k=key
  ·rw [if_pos hk] at hgk;simp only [e55] at hgk;exact .inl ⟨hk,hgk.symm⟩
  ·rw [if_neg hk] at hgk;exact .inr ⟨hk,hgk⟩
 refine Rel.step h Mt hch (fun b x hm=>⟨key,o,hg,hMt b x hm⟩) ?_ ?_ ?_ ?_ ?_ (fun _ _=>rfl)
 ·intro k ob b x hgk hm
  rcases hget k ob hgk with ⟨rfl,rfl⟩|⟨_,hgk⟩
  ·exact .inr ⟨_,_,hg,hmut b x hm⟩
  ·exact .inr ⟨k,ob,hgk,hm⟩
 ·intro hkeep t x hx
  exact a0l.mono hkeep (fun _=>rfl) (h.tm t x hx)
 ·intro hkeep k ob hgk
  rcases hget k ob hgk with ⟨rfl,rfl⟩|⟨hk,hgk⟩
  ·exact hnew _ hkeep
  ·exact a1d hkeep (fun hr=>hsame _ (h.ds k key ob o hgk hg hr hro hk)) (h.ob k ob hgk)
 ·intro k k' o1 o2 hg1 hg2 hr1 hr2 hne
  rcases hget k o1 hg1 with ⟨rfl,rfl⟩|⟨hk,q1⟩<;>rcases hget k' o2 hg2 with ⟨rfl,rfl⟩|⟨hk',q2⟩
  ·exact absurd rfl hne
  ·exact h.ds _ k' o o2 hg q2 (hreal hr1) hr2 hne
  ·exact h.ds k _ o1 o q1 hg hr1 (hreal hr2) hne
  ·exact h.ds k k' o1 o2 q1 q2 hr1 hr2 hne
 ·intro k e ex xs hgk x hx
  rcases hget k _ hgk with ⟨rfl,rfl⟩|⟨hk,hgk⟩
  ·exact hpr e ex xs rfl x hx
  ·exact h.pr k e ex xs hgk x hx
end
section
variable {P:Program} {N n0 kb:Nat} {F:Nat→Prop} {B M0:a0A} {w0:World} {e0:a6l} {env:Env} {st:St} {a:Act} {w:World}
def a0P {R:Type} (P:Program) (N n0:Nat) (B M0:a0A) (w0:World) (F:Nat→Prop) (e0:a6l) (k:St→Option R) (r:R) (a:Act) (w:World):Prop:=
 ∃env st,Rel P N n0 B M0 w0 F e0 env st a w∧k st=some r
theorem a0z {o:Oper} {K:Act→World→Prop} {Q:Exit→Act→World→Prop} {v:Value} {w':World} (h:(execOp a.eval o).run P w= .ok (.value v) w') (hk:K (a.put o.dst v) w'):o.wp P a w K Q:=by
 unfold Oper.wp;rw [h];exact hk
theorem b10 {o:Oper} {K:Act→World→Prop} {Q:Exit→Act→World→Prop} {w':World} (h:(execOp a.eval o).run P w= .ok .skip w') (hk:K (a.put o.dst undef) w'):o.wp P a w K Q:=by
 unfold Oper.wp;rw [h];exact hk
theorem a64 {T:TypeId} {v:Value}:(newVar T v).run P w= .ok ⟨w.heap.size,0,none⟩ (push w (.cells v.cells T)):=by
 simp [newVar,newRow,push]
theorem All2.self_take {α β:Type} {R:α→β→Prop} {xs:List α} {ys:List β} (h:All2 R xs ys):All2 R xs ((ys.drop 0).take xs.length):=by
 rw [List.drop_zero,h.length,List.take_length];exact h
theorem b4Y {key:Nat} {T:TypeId} {z:List C}:(a5x P key T z).length=z.length:=by
 unfold a5x;cases c92 P T&&Nat.beq z.length (a0a P T) with
 |false=>rfl
 |true=>
  simp only [cond_true];split<;>rfl
theorem c0S {S:a0A} {key:Nat} {T:TypeId} {z:List C} {us:List Value} (h:All2 (a0j P env S w) z us):All2 (a0j P env S w) (a5x P key T z) us:=by
 unfold a5x;cases c92 P T&&Nat.beq z.length (a0a P T) with
 |false=>exact h
 | true=>
  simp only [cond_true];split
  ·cases us with
   |nil=>exact h.elim
   |cons u us=>exact ⟨.inl h.1,h.2⟩
  ·exact h
theorem c4Y {key n:Nat} {T:TypeId} {z:List C} (hn:z.length=n) (hz:∀c∈z,a4w P T n c):∀c∈a5x P key T z,a4w P T n c:=by
 unfold a5x;cases hs:c92 P T&&Nat.beq z.length (a0a P T) with
 |false=>exact hz
 | true=>
  simp only [cond_true];split
  ·rename_i r
   rw [e57] at hs;intro c hc;rcases e6k.1 hc with rfl|hc
   ·exact ⟨rfl,hn▸e56 hs.2⟩
   ·exact hz c (by simp [hc])
  ·exact hz
theorem c2B {T:TypeId} {z:List C} (h:b4V P T=some z) {T':TypeId} {n:Nat}:∀c∈z,a4w P T' n c:=by
 unfold b4V at h;split at h
 ·cases ha:a0d P T with
  |false=>rw [ha] at h;cases h
  | true=>
   rw [ha] at h;simp only [cond_true,e55] at h;subst h;exact b0i fun c hc=>by
    obtain ⟨x,_,rfl⟩:=List.mem_map.1 hc;exact c2r
 ·cases ha:a0d P T with
  |true=>rw [ha] at h;cases h
  | false=>
   rw [ha] at h;simp only [cond_false,e55] at h;subst h;exact b0i fun c hc=>by
    simp only [List.mem_singleton] at hc;subst hc;exact c2r
 ·cases h
theorem c0T {R:Type} {d:Nat} {T:TypeId} {z:List C} {k:St→Option R} {r:R} {o:Oper} {Q:Exit→Act→World→Prop} (h:Rel P N n0 B M0 w0 F e0 env st a w) (hd:d<N) (hF:¬F (kb+d)) (ho:o.op= .alloc T) (hdst:o.dst=some d)
  (hz:b4V P T=some z) (hk:k ((a0o (kb+d) (.box (a5x P (kb+d) T z)) st).put (some d) (.c (.p (kb+d) 0)))=some r):o.wp P a w (a0P P N n0 B M0 w0 F e0 k r) Q:=by
 obtain ⟨i,v,_,_,_,hrun,_⟩:=a2p (env:=env) (S:=Sof P B M0 n0 env st.mem w) (w:=w) hz;refine a0z (v:= .pointer (some ⟨w.heap.size,0,none⟩)) (w':=push w (.cells v.cells T)) ?_ ?_
 ·simp only [execOp,ho,e6b,Instr.alloc,hrun,e58,a64,e6c]
 ·have hnb:=Rel.newBlock h (mem0:=st.mem) (fun _ _ hg=>hg) (kb+d) hF (.box (a5x P (kb+d) T z)) none (.cells v.cells T) (a3Q _ w _) rfl fun S' hkeep=>by
   obtain ⟨i',v',hi',hz',hr',_,_⟩:=a2p (env:=upd env (kb+d) ⟨w.heap.size,0,none⟩) (S:=S') (w:=push w (.cells v.cells T)) hz;obtain ⟨i2,v2,hi2,hz2,_,hrun2,_⟩:=a2p (env:=env) (S:=S') (w:=w) hz;have hvv:v'=v:=by
    rw [hrun] at hrun2;have:v=v2:=by simpa using hrun2
    rw [hi'] at hi2;simp only [e55] at hi2;subst hi2;rw [hz'] at hz2;simp only [e55] at hz2;rw [hz2,←this]
   subst hvv;have hl:=hr'.length;exact ⟨v'.cells,T,a5F,by rw [b4Y];simp at hl⊢;omega,(c0S hr').self_take,c4Y (by simpa using hl) (c2B hz)⟩
  rw [hdst];refine ⟨_,_,hnb.put (v:= .pointer (some ⟨w.heap.size,0,none⟩)) (fun _ hdd=>by cases hdd;exact hd) ?_,hk⟩
  simp [a0l,a0s,a0j,upd]
theorem c6Q {R:Type} {d:Nat} {T:TypeId} {x:Operand} {cs:List C} {k:St→Option R} {r:R} {o:Oper} {Q:Exit→Act→World→Prop} (h:Rel P N n0 B M0 w0 F e0 env st a w) (hd:d<N) (hF:¬F (kb+d)) (ho:o.op= .box T x) (hdst:o.dst=some d)
  (hz:a1O P T (evu st x)=some cs) (hk:k ((a0o (kb+d) (.box (cs.map (inval (kb+d)))) st).put (some d) (.c (.p (kb+d) 0)))=some r):o.wp P a w (a0P P N n0 B M0 w0 F e0 k r) Q:=by
 obtain ⟨h1,h2,h3,_⟩:=a2Z (h.evu x) hz;refine a0z (v:= .pointer (some ⟨w.heap.size,0,none⟩)) (w':=push w (.cells (a.eval x).cells T)) ?_ ?_
 ·simp only [execOp,ho,e6b,Instr.box,e58,a64,e6c]
 ·have hnb:=Rel.newBlock h (mem0:=st.mem) (fun _ _ hg=>hg) (kb+d) hF (.box (cs.map (inval (kb+d)))) none (.cells (a.eval x).cells T) (a3Q _ w _) rfl fun S' hkeep=>by
   have hl:=h1.length;refine ⟨(a.eval x).cells,T,a5F,by simp at hl⊢;omega,?_,a3O (fun _=>a4X) (a4N hz)⟩
   have h1':All2 (a0j P (upd env (kb+d) ⟨w.heap.size,0,none⟩) S' (push w (.cells (a.eval x).cells T))) (cs.map (inval (kb+d))) (a.eval x).cells.toList:=
    h1.mapl fun c u _ hcu=>a0j.inval hkeep (kb+d) (fun k hk=>by simp [upd,hk]) hcu
   exact h1'.self_take
  rw [hdst];refine ⟨_,_,hnb.put (v:= .pointer (some ⟨w.heap.size,0,none⟩)) (fun _ hdd=>by cases hdd;exact hd) ?_,hk⟩
  simp [a0l,a0s,a0j,upd]
theorem Rel.share1 (h:Rel P N n0 B M0 w0 F e0 env st a w) (key:Nat) {o:Obj} (hg:get st.mem key=some o):Rel P N n0 B M0 w0 F e0 env {st with mem:=set st.mem key (b5d o)} a w:=by
 cases o with
 | row e ex nl xs=>
  by_cases hn:nl=false
  ·subst hn
   refine Rel.upd h hg (fun _ _=>False) (Chg.refl _ w) (fun _ _ hf=>hf.elim) ?_ (fun _=>rfl) (fun _ _=>rfl) rfl ?_ ?_
   ·intro b x hm
    obtain ⟨_,h1,h2⟩:=hm;rcases h2 with h2|h2
    ·cases h2
    ·exact ⟨rfl,h1,.inr h2⟩
   ·intro S' hk
    exact a3P hk (fun _=>rfl) (h.ob _ _ hg) false
   ·intro e' ex' xs' he x hx
    simp only [b5d,Obj.row.injEq] at he;obtain ⟨rfl,_,_,rfl⟩:=he;exact h.pr key _ ex _ hg x hx
  ·have hnt:nl=true:=by cases nl<;>simp at hn⊢
   subst hnt
   -- a nil row owns nothing
   have hget:∀k ob,get (set st.mem key (b5d (.row e ex true xs))) k=some ob→(k=key∧ob= .row e false true xs)∨(k≠key∧get st.mem k=some ob):=by
    intro k ob hgk;rw [a1Q] at hgk;by_cases hk:k=key
    ·rw [if_pos hk] at hgk;simp only [e55,b5d] at hgk;exact .inl ⟨hk,hgk.symm⟩
    ·rw [if_neg hk] at hgk;exact .inr ⟨hk,hgk⟩
   refine Rel.step h (fun _ _=>False) (Chg.refl _ w) (fun _ _ hf=>hf.elim) ?_ ?_ ?_ ?_ ?_ (fun _ _=>rfl)
   ·intro k ob b x hgk hm
    rcases hget k ob hgk with ⟨rfl,rfl⟩|⟨_,hgk⟩
    ·cases hm.1
    ·exact .inr ⟨k,ob,hgk,hm⟩
   ·intro hk t x hx;exact a0l.mono hk (fun _=>rfl) (h.tm t x hx)
   ·intro hk k ob hgk
    rcases hget k ob hgk with ⟨rfl,rfl⟩|⟨_,hgk⟩
    ·exact a3P hk (fun hf=>by cases hf) (h.ob _ _ hg) false
    ·exact a1d hk (fun _=>rfl) (h.ob k ob hgk)
   ·intro k k' o1 o2 hg1 hg2 hr1 hr2 hne
    rcases hget k o1 hg1 with ⟨rfl,rfl⟩|⟨_,q1⟩
    ·cases hr1
    ·rcases hget k' o2 hg2 with ⟨rfl,rfl⟩|⟨_,q2⟩
     ·cases hr2
     ·exact h.ds k k' o1 o2 q1 q2 hr1 hr2 hne
   ·intro k e' ex' xs' hgk x hx
    rcases hget k _ hgk with ⟨rfl,he⟩|⟨_,q⟩
    ·cases he
    ·exact h.pr k e' ex' xs' q x hx
 |box cs=>
  refine Rel.upd h hg (fun _ _=>False) (Chg.refl _ w) (fun _ _ hf=>hf.elim) (fun _ _ hm=>hm) (fun hr=>hr) (fun _ _=>rfl) trivial ?_ ?_
  ·intro S' hk;exact a1d hk (fun _=>rfl) (h.ob _ _ hg)
  ·intro e ex xs he;cases he
 |map kt vt es=>
  refine Rel.upd h hg (fun _ _=>False) (Chg.refl _ w) (fun _ _ hf=>hf.elim) (fun _ _ hm=>hm) (fun hr=>hr) (fun _ _=>rfl) trivial ?_ ?_
  ·intro S' hk;exact a1d hk (fun _=>rfl) (h.ob _ _ hg)
  ·intro e ex xs he;cases he
 |tab kt vt es=>
  refine Rel.upd h hg (fun _ _=>False) (Chg.refl _ w) (fun _ _ hf=>hf.elim) (fun _ _ hm=>hm) (fun hr=>hr) (fun _ _=>rfl) trivial ?_ ?_
  ·intro S' hk;exact a1d hk (fun _=>rfl) (h.ob _ _ hg)
  ·intro e ex xs he;cases he
 |dat T d=>
  refine Rel.upd h hg (fun _ _=>False) (Chg.refl _ w) (fun _ _ hf=>hf.elim) (fun _ _ hm=>hm) (fun hr=>hr) (fun _ _=>rfl) trivial ?_ ?_
  ·intro S' hk;exact a1d hk (fun _=>rfl) (h.ob _ _ hg)
  ·intro e ex xs he;cases he
 |krow e k q c xs=>
  refine Rel.upd h hg (fun _ _=>False) (Chg.refl _ w) (fun _ _ hf=>hf.elim) (fun _ _ hm=>hm) (fun hr=>hr) (fun _ _=>rfl) trivial ?_ ?_
  ·intro S' hk;exact a1d hk (fun _=>rfl) (h.ob _ _ hg)
  ·intro e ex xs he;cases he
theorem Rel.share:∀(ks:List Nat) {mem:AL Obj},Rel P N n0 B M0 w0 F e0 env {st with mem:=mem} a w→Rel P N n0 B M0 w0 F e0 env {st with mem:=a0w mem ks} a w
 | [],_,h=>h
 |k::ks,mem,h=>by
  simp only [a0w];cases hg:get mem k with
  |none=>exact Rel.share ks h
  |some o=>exact Rel.share ks (Rel.share1 h k hg)
theorem e0P (m:AL Obj) (x:Operand):AM.ev {st with mem:=m} x=AM.ev st x:=by cases x<;>rfl
theorem a5G (m:AL Obj) (x:Operand):AM.evu {st with mem:=m} x=AM.evu st x:=by unfold AM.evu;rw [e0P]
end
theorem b0p {α:Type} (l vs:List α) (o j:Nat) (h:o+vs.length≤l.length):(l.take o++vs++l.drop (o+vs.length))[j]? =if o≤j∧j<o+vs.length then vs[j-o]? else l[j]? :=by
 have hl:(l.take o).length=o:=by rw [List.length_take];omega
 by_cases h1:j<o
 ·rw [if_neg (by omega),e6n,e6p (by omega),List.getElem?_take,if_pos h1]
 ·by_cases h2:j<o+vs.length
  ·rw [if_pos (by omega),e6n,e6o (by omega),hl,e6p (by omega)]
  ·rw [if_neg (by omega),e6o (by simp;omega),List.getElem?_drop]
   congr 1
   simp only [e6l,hl];omega
theorem d5h {α:Type} (l vs:List α) (base off n:Nat) (h:off+vs.length≤n) (hn:base+n≤l.length):
  ((l.take (base+off)++vs++l.drop (base+off+vs.length)).drop base).take n=((l.drop base).take n).take off++vs++((l.drop base).take n).drop (off+vs.length):=by
 apply List.ext_getElem?;intro j;rw [b0p _ _ _ _ (by rw [List.length_take,List.length_drop];omega),List.getElem?_take]
 by_cases hj:j<n
 ·rw [if_pos hj,List.getElem?_drop,b0p _ _ _ _ (by omega)]
  by_cases h1:off≤j∧j<off+vs.length
  ·rw [if_pos h1,if_pos (by omega)];congr 1;omega
  ·rw [if_neg h1,if_neg (by omega),List.getElem?_take,if_pos hj,List.getElem?_drop]
 ·rw [if_neg hj,if_neg (by omega),List.getElem?_take,if_neg hj]
theorem b5m {α:Type} (l vs:List α) (o:Nat) (h:o+vs.length≤l.length):(l.take o++vs++l.drop (o+vs.length)).length=l.length:=by simp;omega
theorem All2.set {α β:Type} {R:α→β→Prop} {xs:List α} {ys:List β} (h:All2 R xs ys) (i:Nat) {x:α} {y:β} (hxy:R x y):All2 R (xs.set i x) (ys.set i y):=
 .of_get (by simp [h.length]) fun j a b ha hb=>by
  rw [List.getElem?_set] at ha hb;split at ha
  ·rename_i hij
   rw [if_pos hij] at hb;split at ha
   ·rw [if_pos (by rw [←h.length];assumption)] at hb
    simp only [e55] at ha hb;subst ha hb;exact hxy
   ·cases ha
  ·rename_i hij
   rw [if_neg hij] at hb;exact h.get2 ha hb
theorem All2.setl {α β:Type} {R:α→β→Prop} {xs:List α} {ys:List β} (h:All2 R xs ys) (i:Nat) {x:α} (hx:∀y,ys[i]? =some y→R x y):All2 R (xs.set i x) ys:=
 .of_get (by simp [h.length]) fun j a b ha hb=>by
  rw [List.getElem?_set] at ha;split at ha
  ·rename_i hij
   split at ha
   ·simp only [e55] at ha
    subst ha hij;exact hx b hb
   ·cases ha
  ·exact h.get2 ha hb
section
variable {P:Program} {N n0 kb:Nat} {F:Nat→Prop} {B M0:a0A} {w0:World} {e0:a6l} {env:Env} {st:St} {a:Act} {w:World}
theorem a8S {S:a0A} {x:C} {u:Value} (hx:a0j P env S w x u) {base esz ix:Nat} (hesz:0<esz):∀{n j:Nat} {cs cs':List C} {us:List Value},All2 (a0j P env S w) cs us→storeAt cs base esz ix x n j=some cs'→
  All2 (a0j P env S w) cs' (if j≤ix∧ix<j+n then us.set (base+ix*esz) u else us)∧cs'.length=cs.length∧ ∀i,j≤i→i<j+n→base+i*esz<cs.length
 |0,j,cs,cs',us,hr,h=>by
  simp only [storeAt,e55] at h;subst h;rw [if_neg (by omega)]
  exact ⟨hr,rfl,fun i h1 h2=>by omega⟩
 | n + 1,j,cs,cs',us,hr,h=>by
  simp only [storeAt] at h;split at h
  ·rename_i cs1 hcs1
   obtain ⟨h1,h2,h3⟩:=a8S hx hesz hr hcs1;split at h
   ·rename_i y hy
    simp only [e55] at h;have hlt:base+j*esz<cs1.length:=(e6h.1 hy).1;subst h;refine ⟨?_,by simp [h2],fun i hi1 hi2=> ?_⟩
    ·by_cases hij:ix=j
     ·subst hij
      rw [if_pos (by omega)]
      rw [if_neg (by omega)] at h1
      have hb:Nat.beq ix ix=true:=by simp
      rw [hb];refine h1.set _ ?_;unfold d46;cases hk:a4u x y with
      |false=>exact hx
      |true=>
       simp only;cases x<;>cases y<;>simp only [a4u] at hk<;>try (cases hk;done)
       all_goals simpa [d45,a0j] using hx
     ·have hb:Nat.beq ix j=false:=by rw [a0k];simpa using hij
      rw [hb];have hcond:(j≤ix∧ix<j+(n+1))↔(j+1≤ix∧ix<j+1+n):=by omega
      simp only [hcond];refine h1.setl _ fun v hv=> ?_
      have hyv:=h1.get2 hy hv;unfold d46;cases hk:a4u x y with
      |false=>exact hyv
      | true=>
       simp only;cases x<;>cases y<;>simp only [a4u] at hk<;>try (cases hk;done)
       all_goals first
        |(have hkk:=eq_of_beq hk;subst hkk;simpa [d45,a0j] using hyv)
        |simpa [d45,a0j] using hyv
    ·by_cases hij:i=j
     ·subst hij;rw [←h2];exact hlt
     ·exact h3 i (by omega) (by omega)
   ·cases h
  ·cases h
theorem a3a {blk:Nat} {cur cur':Array Value} {T:TypeId} {fr:Nat×Nat} {Mt:a0A} (hg:w.heap[blk]? =some (.cells cur T fr)) (hs:cur'.size=cur.size) (hM:∀o,¬Mt blk o→cur'[o]? =cur[o]?):Chg Mt w (w.setRow blk cur'):=by
 refine ⟨rfl,rfl,rfl,by simp,?_,?_⟩
 ·intro b c T' fr' hb
  by_cases hbb:b=blk
  ·subst hbb
   rw [hg] at hb;simp only [e55,Go.Obj.cells.injEq] at hb;obtain ⟨rfl,rfl,rfl⟩:=hb;exact ⟨cur',fr,setRow_heap w b cur cur' T fr hg,hs,hM,.inl rfl⟩
  ·exact ⟨c,fr',by rw [setRow_other w blk b cur' hbb];exact hb,rfl,fun _ _=>rfl,.inl rfl⟩
 ·intro b ob hb hno
  by_cases hbb:b=blk
  ·subst hbb
   rw [hg] at hb;simp only [e55] at hb;subst hb;rw [setRow_heap w b cur cur' T fr hg];have:cur'=cur:=Array.ext_getElem? fun o=>hM o (hno o)
   rw [this]
  ·rw [setRow_other w blk b cur' hbb];exact hb
theorem a2G {cur:Array Value} {vs:List Value} {o:Nat} (h:o+vs.length≤cur.size) (j:Nat):((cur.toList.take o++vs++cur.toList.drop (o+vs.length)).toArray)[j]? =if o≤j∧j<o+vs.length then vs[j-o]? else cur[j]? :=by
 rw [List.getElem?_toArray,b0p _ _ _ _ (by simpa using h)]
 simp
theorem a05 (P:Program) (g o:Nat) (t:TypeId) (fz:Nat×Nat):∀(vs:List Value) (i:Nat) (cur:Array Value) (w:World),w.heap[g]? =some (.cells cur t fz)→d4a fz cur.size→o+i+vs.length≤cur.size→(∀v∈vs,v.oneCell'=true)→
  (storeCells ⟨g,o,none⟩ vs i).run P w= .ok () (w.setRow g (cur.toList.take (o+i)++vs++cur.toList.drop (o+i+vs.length)).toArray)
 | [],i,cur,w,hg,_,_,_=>by
  simp only [storeCells,List.append_nil,List.length_nil,Nat.add_zero,List.take_append_drop,Array.toArray_toList];rw [setRow_self w g cur t fz hg];rfl
 | v::rest,i,cur,w,hg,hfz,hl,h1=>by
  have hi:o+i<cur.size:=by simp at hl;omega
  have hadd:(⟨g,o,none⟩:Addr).add i=⟨g,o+i,none⟩:=by unfold Addr.add;split<;>simp_all
  have hcell:w.cell? ⟨g,o+i,none⟩=some cur[o+i]:=by simp [World.cell?,hg,hi]
  have hfro:w.frozen? ⟨g,o+i,none⟩=false:=by
   rcases hfz with rfl|hfz
   ·simp [World.frozen?,hg]
   ·obtain ⟨lo,hi'⟩:=fz
    simp only [World.frozen?,hg,Bool.and_eq_false_iff,decide_eq_false_iff_not];left;simp only at hfz;omega
  have hst:(store ((⟨g,o,none⟩:Addr).add i) v).run P w= .ok () (w.setRow g (cur.setIfInBounds (o+i) v)):=by
   rw [hadd,run_store P w _ v _ (h1 v (by simp)),hcell]
   simp [hfro,setCell_eq_setRow w g (o+i) cur t fz v hg]
  have ih:=a05 P g o t fz rest (i+1) (cur.setIfInBounds (o+i) v) (w.setRow g (cur.setIfInBounds (o+i) v)) (setRow_heap w g cur _ t _ hg) (by simpa using hfz) (by simp at hl⊢;omega) (fun x hx=>h1 x (by simp [hx]))
  simp only [storeCells,e6b,hst,e58,ih,setRow_setRow];congr 3
  have e:=list_seg_step cur.toList (o+i) v rest (by simp at hl⊢;omega)
  simpa [Array.toList_setIfInBounds,Nat.add_assoc] using e
theorem a57 (w:World) (t ty e:TypeId) (i:TypeInfo) (ht:P.underlying t=some (.slice e)) (hi:P.info? e=some i)
  (g sLen sCap:Nat) (cur:Array Value) (fz:Nat×Nat) (hg:w.heap[g]? =some (.cells cur e fz)) (hfz:d4a fz cur.size)
  (a:Addr) (m c:Nat) (news:List Value) (hl:news.length=m*i.size) (hnews:∀j u,news[j]? =some u→w.cell? (a.add j)=some u) (h1:∀u∈news,u.oneCell'=true)
  (hroom:sLen+m≤sCap) (hfit:sLen*i.size+news.length≤cur.size):
  (Builtin.append_ #[t,t] ty #[.slice (some ⟨g,0,none⟩) sLen sCap,.slice (some a) m c]).run P w=
   .ok (.slice (some ⟨g,0,none⟩) (sLen+m) sCap) (w.setRow g (cur.toList.take (sLen*i.size)++news++cur.toList.drop (sLen*i.size+news.length)).toArray):=by
 have hf:=run_firstCells_some (P:=P) w i.size m a m c news hl hnews;have hst:=a05 P g (sLen*i.size) e fz news 0 cur w hg hfz (by simpa using hfit) h1
 simp only [Nat.add_zero] at hst;simp [Builtin.append_,run_underlying ht,sizeOf,typeInfo,hi,Builtin.lenOf,hroom,hf,Addr.add_lit,hst]
theorem a6u {b:Nat} {cur cur':Array Value} {e:TypeId} {fr:Nat×Nat} (hfr:d4a fr cur.size) (h2:w.heap[b]? =some (.cells cur e fr)) (hs:cur'.size=cur.size):a72 (w.setRow b cur') b cur' e:=
 ⟨fr,by rw [hs];exact hfr,setRow_heap w b cur cur' e fr h2⟩
theorem a4e {T:TypeId} {vx:Value} {blk o:Nat} {cur:Array Value} {E:TypeId} {fz:Nat×Nat} (hg:w.heap[blk]? =some (.cells cur E fz)) (hfz:d4a fz cur.size) (hs:vx.cells.size=a0a P T) (hne:a0a P T≠0) (h1:∀u∈vx.cells.toList,u.oneCell'=true) (hl:o+vx.cells.toList.length≤cur.size):
  (Instr.storeAt T (.pointer (some ⟨blk,o,none⟩)) vx).run P w= .ok () (w.setRow blk (cur.toList.take o++vx.cells.toList++cur.toList.drop (o+vx.cells.toList.length)).toArray):=by
 have:=a05 P blk o E fz vx.cells.toList 0 cur w hg hfz (by simpa using hl) h1
 simp only [Nat.add_zero] at this;simp only [Instr.storeAt,Instr.sureAddr,e6b,e6c,e58,storeVar,a5B (a6m hne),hs,ne_eq,not_true_eq_false,if_false,this]
theorem b8E {key:Nat} {cs cs':List C} {o:Nat} {vs:List Value} (h:Rel P N n0 B M0 w0 F e0 env st a w) (hg:get st.mem key=some (.box cs)) {cur:Array Value} {E:TypeId} (hh:w.heap[(env key).blk]? =some (.cells cur E (0,0))) (hsz:(env key).base+cs.length≤cur.size)
  (hlen:cs'.length=cs.length) (hin:o+vs.length≤cs.length) (hnb:∀c∈cs',a4w P E cur.size c)
  (hr:∀S' w',a0y w (Sof P B M0 n0 env st.mem w) w' S'→All2 (a0j P env S' w') cs' (((cur.toList.drop (env key).base).take cs.length).take o++vs++((cur.toList.drop (env key).base).take cs.length).drop (o+vs.length))):
  Rel P N n0 B M0 w0 F e0 env {st with mem:=set st.mem key (.box cs')} a (w.setRow (env key).blk (cur.toList.take ((env key).base+o)++vs++cur.toList.drop ((env key).base+o+vs.length)).toArray):=by
 have hfit:(env key).base+o+vs.length≤cur.size:=by omega
 refine Rel.upd h hg (fun b x=>b=(env key).blk∧(env key).base+o≤x∧x<(env key).base+o+vs.length) ?_ ?_ ?_ (fun _=>trivial) ?_ trivial ?_ ?_
 ·refine a3a hh (by simp;omega) fun x hx=> ?_
  rw [a2G hfit,if_neg (fun hc=>hx ⟨rfl,hc⟩)]
 ·rintro b x ⟨rfl,h1,h2⟩;exact ⟨rfl,by omega,by omega⟩
 ·rintro b x ⟨rfl,h1,h2⟩;exact ⟨rfl,h1,by omega⟩
 ·intro b hb;exact setRow_other _ _ _ _ hb
 ·intro S' hk
  have hsame:(cur.toList.take ((env key).base+o)++vs++cur.toList.drop ((env key).base+o+vs.length)).toArray.size=cur.size:=by simp;omega
  refine ⟨_,E,setRow_heap w _ cur _ E _ hh,by simp;omega,?_,by rw [hsame];exact hnb⟩
  have:=hr S' _ hk;rw [hlen];show All2 _ cs' (((cur.toList.take ((env key).base+o)++vs++cur.toList.drop ((env key).base+o+vs.length)).drop (env key).base).take cs.length);rw [d5h _ _ _ _ _ hin (by simpa using hsz)]
  exact this
 ·intro e ex xs he;cases he
end
section
variable {P:Program} {N n0 kb:Nat} {F:Nat→Prop} {B M0:a0A} {w0:World} {e0:a6l} {env:Env} {st:St} {a:Act} {w:World}
theorem c6R {key ix:Nat} {e:TypeId} {nl:Bool} {xs:List D} {off:Nat} {new:List C} {d:D} {vs:List Value} (h:Rel P N n0 B M0 w0 F e0 env st a w) (hg:get st.mem key=some (.row e true nl xs)) (hix:ix<xs.length)
  (hoff:off+new.length≤(kinds P e).length) (hnew:All2 (a0j P env (Sof P B M0 n0 env st.mem w) w) new vs) (hd:c6f P st.mem e (a3k (a0E P e (xs.getD ix (.i 0))) off new)=some d):
  ∃cur E fr,w.heap[(env key).blk]? =some (.cells cur E fr)∧d4a fr cur.size∧ix*a0a P e+off+vs.length≤cur.size∧
   Rel P N n0 B M0 w0 F e0 env {st with mem:=set st.mem key (.row e true nl (xs.set ix d))} a (w.setRow (env key).blk (cur.toList.take (ix*a0a P e+off)++vs++cur.toList.drop (ix*a0a P e+off+vs.length)).toArray):=by
 have hrow:=h.ob _ _ hg;obtain ⟨us,hus1,hus2⟩:=d4c hrow hix;obtain ⟨h0,⟨_,rfl,_⟩|⟨hn,hb,cap,cur,h1,h2,h3,h4,h5,h6⟩⟩:=hrow
 ·simp at hix
 ·subst hn
  obtain ⟨fr,hfr,h2⟩:=h2;have hvl:=hnew.length;have hcell:ix*a0a P e+(kinds P e).length≤cur.size:=by
   rw [h5,←h0];have:(ix+1)*a0a P e≤cap*a0a P e:=Nat.mul_le_mul_right _ (by omega)
   rw [Nat.add_mul,Nat.one_mul] at this;omega
  have hfit:ix*a0a P e+off+vs.length≤cur.size:=by omega
  refine ⟨cur,e,fr,h2,hfr,hfit,?_⟩;refine Rel.upd h hg (fun b x=>b=(env key).blk∧ix*a0a P e+off≤x∧x<ix*a0a P e+off+vs.length) ?_ ?_ ?_ (fun hr=>hr) ?_ rfl ?_ ?_
  ·refine a3a h2 (by simp;omega) fun x hx=> ?_
   rw [a2G hfit,if_neg (fun hc=>hx ⟨rfl,hc⟩)]
  ·rintro b x ⟨rfl,_,_⟩;exact ⟨rfl,rfl,.inl rfl⟩
  ·rintro b x ⟨_,h7,_⟩;exact ⟨rfl,h7,.inl rfl⟩
  ·intro b hb;exact setRow_other _ _ _ _ hb
  ·intro S' hk
   refine ⟨h0,.inr ⟨rfl,hb,cap,_,by rw [List.length_set];exact h1,a6u hfr h2 (by simp;omega),by rw [List.length_set];exact h3,h4,by rw [←h5];simp;omega,?_⟩⟩
   intro i j kk hi hkk;rw [List.length_set] at hi;have hj:j<(kinds P e).length:=(e6h.1 hkk).1;obtain ⟨u0,hu0,hr0⟩:=h6 i j kk hi hkk;by_cases hii:i=ix
   ·subst hii
    have hgd:(xs.set i d).getD i (.i 0)=d:=by
     rw [e6d,List.getElem?_set_self hix];rfl
    rw [hgd]
    -- the cells of the element, the new ones laid over the old
    have hul:us.length=(kinds P e).length:=by rw [←hus2.length,a4M]
    have hall:All2 (a0j P env (Sof P B M0 n0 env st.mem w) w) (a3k (a0E P e (xs.getD i (.i 0))) off new) (us.take off++vs++us.drop (off+vs.length)):=b0n hus2 hnew;have hcells:(kinds P e).length=(us.take off++vs++us.drop (off+vs.length)).length∧ ∀(j:Nat) (k:CK),(kinds P e)[j]? =some k→ ∃u,(us.take off++vs++us.drop (off+vs.length))[j]? =some u∧a1D P w (Sof P B M0 n0 env st.mem w) k (elD P e d j) u:=by
     unfold c6f at hd;cases ha:a0d P e with
     |true=>
      rw [ha] at hd;simp only [cond_true] at hd;have:=a4Z (x:= .g (a3k (a0E P e (xs.getD i (.i 0))) off new)) (v:= .agg (us.take off++vs++us.drop (off+vs.length)).toArray) h.ob h.rows ⟨_,rfl,by simpa using hall⟩ hd
      simpa [Value.cells] using this
     | false=>
      rw [ha] at hd;simp only [cond_false] at hd;have hone:=b8q ha;have hone':(us.take off++vs++us.drop (off+vs.length)).length=us.length:=b5m _ _ _ (by omega)
      split at hd
      ·rename_i c hc
       rw [hc] at hall;match hz:(us.take off++vs++us.drop (off+vs.length)),hall with
       | [u],hall'=>
        have:=a4Z (v:=u) h.ob h.rows (show a0s P env _ w (.c c) u from hall'.1) hd;have hcu:u.cells= #[u]:=by
         unfold asD at hd;rw [ha] at hd;simp only [cond_false] at hd;split at hd
         ·rename_i c' k' e1 e2
          cases e1;have:=a8P h.ob h.rows hall'.1 hd;cases this<;>first|rfl|exact b3g _
         ·cases hd
        rw [hcu] at this;simpa using this
      ·simp [asD,ha] at hd
    obtain ⟨u,hu,hru⟩:=hcells.2 j kk hkk;refine ⟨u,?_,hru.mono hk⟩;rw [a2G hfit];rw [b0p _ _ _ _ (by omega)] at hu
    by_cases hin:off≤j∧j<off+vs.length
    ·rw [if_pos hin] at hu
     rw [if_pos (by omega),←hu];congr 1;omega
    ·rw [if_neg hin] at hu
     rw [if_neg (by omega)]
     have:=hus1 j u hu;obtain ⟨c2,_,_,g1,g2⟩:=a4Y this;rw [h2] at g1;simp only [e55,Go.Obj.cells.injEq] at g1;rw [g1.1];exact g2
   ·have hgd:(xs.set ix d).getD i (.i 0)=xs.getD i (.i 0):=by
     rw [e6d,List.getElem?_set_ne (Ne.symm hii),e6d]
    rw [hgd];refine ⟨u0,?_,hr0.mono hk⟩;rw [a2G hfit,if_neg ?_]
    ·exact hu0
    ·intro hc
     rcases Nat.lt_or_gt_of_ne hii with hlt|hgt
     ·have:=a54 (s:=a0a P e) (j:=j) hlt (by rw [h0];exact hj)
      omega
     ·have h7:(ix+1)*a0a P e≤i*a0a P e:=Nat.mul_le_mul_right _ hgt
      rw [Nat.add_mul,Nat.one_mul] at h7;omega
  ·intro e' ex xs' he x hx
   simp only [Obj.row.injEq] at he;obtain ⟨rfl,rfl,_,rfl⟩:=he;exact h.pr key _ _ xs hg x (by simpa using hx)
theorem a8T:∀(cs:List D) (j:Nat) (x:D) (i:Nat),(c53 cs j x).getD i (.i 0)=if i=j then x else cs.getD i (.i 0)
 | [],0,x,i=>by cases i<;>simp [c53]
 | [],j+1,x,i=>by
  cases i with
  |zero=>simp [c53]
  |succ i=>simpa [c53] using a8T [] j x i
 |c::r,0,x,i=>by cases i<;>simp [c53]
 |c::r,j+1,x,i=>by
  cases i with
  |zero=>simp [c53]
  |succ i=>simpa [c53] using a8T r j x i
theorem a3R (d:D) (j:Nat) (x:D) (i:Nat):(d.put j x).cell i=if i=j then x else d.cell i:=by
 cases d with
 |a cs=>exact a8T cs j x i
 |_=>
  show (c53 [] j x).getD i (.i 0)=_;rw [a8T];by_cases h:i=j<;>simp [h,D.cell]
theorem b8F:∀(ds:List D) (d:D) (c s i:Nat),(e0o d c s ds).cell i=if c+s≤i∧i<c+s+ds.length then ds.getD (i-(c+s)) (.i 0) else d.cell i
 | [],d,c,s,i=>by rw [if_neg (by simp)];rfl
 | x::r,d,c,s,i=>by
  simp only [e0o,b8F r,a3R,e6m];by_cases h0:i=c+s
  ·subst h0
   rw [if_neg (by omega),if_pos rfl,if_pos (by omega)]
   simp
  ·by_cases h1:c+1+s≤i∧i<c+1+s+r.length
   ·rw [if_pos h1,if_pos (by omega),show i-(c+s)=(i-(c+1+s))+1 by omega]
    simp
   ·rw [if_neg h1,if_neg h0,if_neg (by omega)]
theorem b3y {mem:AL Obj}:∀{ks:List CK} {cs:List C} {ds:List D},c0G mem ks cs=some ds→ds.length=cs.length
 | [],[],ds,h=>by simp only [c0G,e55] at h;subst h;rfl
 | [],_::_,ds,h=>by simp [c0G] at h
 |_::_,[],ds,h=>by simp [c0G] at h
 | k::ks,c::cs,ds,h=>by
  simp only [c0G] at h;split at h
  ·split at h
   ·rename_i ds' hds
    simp only [e55] at h;subst h;simp [b3y hds]
   ·cases h
  ·cases h
theorem b8G {key:Nat} {T':TypeId} {d:D} {c s o:Nat} {ds:List D} {new:List C} {vs:List Value} (h:Rel P N n0 B M0 w0 F e0 env st a w) (hg:get st.mem key=some (.dat T' d)) (hcs:c+s=o) (hpos:0<vs.length) (hnew:All2 (a0j P env (Sof P B M0 n0 env st.mem w) w) new vs)
  (hf:c0G st.mem (c0F P T' o new.length) new=some ds):
  ∃cur E,w.heap[(env key).blk]? =some (.cells cur E (0,0))∧(env key).base=0∧o+vs.length≤cur.size∧
   Rel P N n0 B M0 w0 F e0 env {st with mem:=set st.mem key (.dat T' (e0o d c s ds))} a (w.setRow (env key).blk (cur.toList.take o++vs++cur.toList.drop (o+vs.length)).toArray):=by
 obtain ⟨hb,cur,E,h1,h2,h3⟩:=h.ob _ _ hg;obtain ⟨f1,f2⟩:=a6Z h.ob h.rows hnew hf;have hvl:=hnew.length;have hseg:∀j,j<vs.length→ ∃k,(c0F P T' o new.length)[j]? =some k:=fun j hj=>⟨_,e6j (by omega)⟩
 have hdl:ds.length=vs.length:=(b3y hf).trans hvl;have hfit:o+vs.length≤cur.size:=by
  obtain ⟨k,hk⟩:=hseg (vs.length-1) (by omega)
  have:=(e6h.1 (b6b hk).1).1;omega
 refine ⟨cur,E,h1,hb,hfit,?_⟩;refine Rel.upd h hg (fun b x=>b=(env key).blk∧o≤x∧x<o+vs.length) ?_ ?_ ?_ (fun hr=>hr) ?_ trivial ?_ ?_
 ·refine a3a h1 (by simp;omega) fun x hx=> ?_
  rw [a2G hfit,if_neg (fun hc=>hx ⟨rfl,hc⟩)]
 ·rintro b x ⟨rfl,_,_⟩;exact rfl
 ·rintro b x hm;exact hm
 ·intro b hb';exact setRow_other _ _ _ _ hb'
 ·intro S' hk
  refine ⟨hb,_,E,setRow_heap w _ cur _ E _ h1,by simp;omega,?_⟩
  intro j k hkk;rw [a2G hfit,b8F,hcs,hdl];by_cases hin:o≤j∧j<o+vs.length
  ·rw [if_pos hin,if_pos hin]
   obtain ⟨k',hk'⟩:=hseg (j-o) (by omega)
   have hkk':=(b6b hk').1;rw [show o+(j-o)=j by omega,hkk] at hkk'
   cases hkk';obtain ⟨u,hu,hr⟩:=f2 (j-o) k hk';exact ⟨u,hu,hr.mono hk⟩
  ·rw [if_neg hin,if_neg hin]
   obtain ⟨u,hu,hr⟩:=h3 j k hkk;exact ⟨u,hu,hr.mono hk⟩
 ·intro e ex xs he;cases he
theorem c0U {R:Type} {T:TypeId} {ad x:Operand} {mem':AL Obj} {k:St→Option R} {r:R} {o:Oper} {Q:Exit→Act→World→Prop} (h:Rel P N n0 B M0 w0 F e0 env st a w) (hd:∀d,o.dst=some d→d<N) (ho:o.op= .store T ad x)
  (hs:c6g P st.mem T (evu st ad) (evu st x)=some (true,mem')) (hk:k (St.put {st with mem:=mem'} o.dst (.c .u))=some r):o.wp P a w (a0P P N n0 B M0 w0 F e0 k r) Q:=by
 unfold c6g at hs;split at hs
 ·cases hs
 ·rename_i new hnew
  obtain ⟨h1,h2,h3,h4⟩:=a2Z (h.evu x) hnew;have hne:a0a P T≠0:=by
   unfold a1O at hnew;simp only at hnew;cases hb:Nat.beq (a3C (kinds P T) (a36 (evu st x))).length (a0a P T)&&a2l (a3C (kinds P T) (a36 (evu st x)))&& !(a3C (kinds P T) (a36 (evu st x))).isEmpty with
   |false=>rw [hb] at hnew;cases hnew
   |true=>
    simp only [e57] at hb;have hl:=e56 hb.1.1;intro hz;rw [hz] at hl;have:(a3C (kinds P T) (a36 (evu st x)))=[]:=List.eq_nil_of_length_eq_zero hl;rw [this] at hb;cases hb.2
  have hvl:=h1.length;have had:=h.evu ad;have fin:∀{w':World},(Instr.storeAt T (a.eval ad) (a.eval x)).run P w= .ok () w'→Rel P N n0 B M0 w0 F e0 env {st with mem:=mem'} a w'→o.wp P a w (a0P P N n0 B M0 w0 F e0 k r) Q:=by
   intro w' hrun hrel;refine b10 (w':=w') ?_ ⟨env,_,hrel.put_u hd undef,hk⟩;simp only [execOp,ho,e6b,hrun,e58,e6c]
  split at hs
  ·rename_i key off hea
   rw [hea] at had;have hadv:a.eval ad= .pointer (some ⟨(env key).blk,(env key).base+off,none⟩):=had;split at hs
   ·rename_i cs hg
    cases hl:Nat.ble (off+new.length) cs.length with
    |false=>rw [hl] at hs;cases hs
    |true=>
     rw [hl] at hs;simp only [cond_true,e55,e6q,true_and] at hs;subst hs;have hle:=e6g hl;obtain ⟨cur,E,g1,g2,g3,g4⟩:=h.ob _ _ hg;have hst:=a4e (P:=P) (T:=T) g1 (.inl rfl) h2 hne h4 (o:=(env key).base+off) (by omega)
     rw [←hadv] at hst;refine fin hst (b8E h hg g1 g2 (by unfold a3k;simp;omega) (by omega) (b3h g4 (a4N hnew)) fun S' w' hkeep=> ?_)
     exact b0n (g3.mono fun c u _ hcu=>a0j.mono hkeep (fun _ _=>rfl) hcu) (h1.mono fun c u _ hcu=>a0j.mono hkeep (fun _ _=>rfl) hcu)
   ·rename_i T' d hg
    split at hs
    ·rename_i ds hds
     simp only [e55,e6q,true_and] at hs;subst hs;obtain ⟨cur,E,q1,q2,q3,q4⟩:=b8G (c:=off) (s:=0) h hg (by omega) (by simp;omega) h1 hds
     have hst:=a4e (P:=P) (T:=T) q1 (.inl rfl) h2 hne h4 (o:=off) q3;rw [q2,Nat.zero_add] at hadv;rw [←hadv] at hst;exact fin hst q4
    ·cases hs
   ·cases hs
  ·rename_i key base len esz ix off hea
   rw [hea] at had;obtain ⟨hlt,hesz,hadv⟩:=had;split at hs
   ·rename_i cs hg
    split at hs
    ·rename_i c
     split at hs
     ·rename_i cs' hcs'
      simp only [e55,e6q,true_and] at hs;subst hs;obtain ⟨cur,E,g1,g2,g3,g4⟩:=h.ob _ _ hg;match hv:(a.eval x).cells.toList,h1 with
      | [u],h1'=>
       obtain ⟨s1,s2,s3⟩:=a8S h1'.1 hesz g3 hcs';rw [if_pos (by omega)] at s1
       have hin:=s3 ix (Nat.zero_le _) (by omega)
       have hst:=a4e (P:=P) (T:=T) (vx:=a.eval x) g1 (.inl rfl) h2 hne h4 (o:=(env key).base+(base+ix*esz)+off) (by rw [hv];simp;omega)
       rw [hv] at hst;have hpos:(env key).base+(base+ix*esz)+off=(env key).base+(base+off+ix*esz):=by omega
       rw [hpos] at hst;rw [hpos] at hadv;rw [←hadv] at hst;refine fin hst (b8E (vs:=[u]) h hg g1 g2 s2 (by simp;omega) (b05 (a4N hnew c (by simp)) g4 hcs') fun S' w' hkeep=> ?_)
       have e1:((cur.toList.drop (env key).base).take cs.length).take (base+off+ix*esz)++[u]++((cur.toList.drop (env key).base).take cs.length).drop (base+off+ix*esz+[u].length)=((cur.toList.drop (env key).base).take cs.length).set (base+off+ix*esz) u:=by
        rw [List.set_eq_take_append_cons_drop,if_pos (by rw [←g3.length];exact hin)]
        simp
       rw [e1];exact s1.mono fun c u _ hcu=>a0j.mono hkeep (fun _ _=>rfl) hcu
      | [],h1'=>exact h1'.elim
      |_::_::_,h1'=>exact h1'.2.elim
     ·cases hs
    ·cases hs
   ·rename_i T' d hg
    cases hu:d44 P T' (base+off) esz new.length (c0F P T' (base+off) new.length) len with
    |false=>rw [hu] at hs;cases hs
    | true=>
     rw [hu] at hs;simp only [cond_true] at hs;split at hs
     ·rename_i ds hds
      simp only [e55,e6q,true_and] at hs;subst hs;rw [←b6a hu hlt] at hds;obtain ⟨cur,E,q1,q2,q3,q4⟩:=b8G (c:=base+off) (s:=ix*esz) h hg rfl (by simp;omega) h1 hds
      have hst:=a4e (P:=P) (T:=T) q1 (.inl rfl) h2 hne h4 (o:=base+off+ix*esz) q3;rw [q2,show 0+(base+ix*esz)+off=base+off+ix*esz by omega] at hadv
      rw [←hadv] at hst;exact fin hst q4
     ·cases hs
   ·cases hs
  ·rename_i key e ix off hea
   rw [hea] at had;have hadv:a.eval ad= .pointer (some ⟨(env key).blk,ix*a0a P e+off,none⟩):=had;split at hs
   ·rename_i e' nl xs hg
    cases hl:Nat.beq e e'&&Nat.ble (off+new.length) (kinds P e).length with
    |false=>rw [hl] at hs;cases hs
    | true=>
     rw [hl] at hs;simp only [e57] at hl;have:=e56 hl.1;subst this;have hle:=e6g hl.2;simp only [cond_true] at hs;split at hs
     ·rename_i d hd'
      simp only [e55,e6q,decide_eq_true_eq] at hs;obtain ⟨hix,rfl⟩:=hs;obtain ⟨cur,E,fr,q1,q0,q2,q3⟩:=c6R h hg hix hle h1 hd';have hst:=a4e (P:=P) (T:=T) q1 q0 h2 hne h4 (o:=ix*a0a P e+off) q2;rw [←hadv] at hst;exact fin hst q3
     ·cases hs
   ·cases hs
  ·cases hs
end
section
variable {P:Program} {N n0 kb:Nat} {F:Nat→Prop} {B M0:a0A} {w0:World} {e0:a6l} {env:Env} {st:St} {a:Act} {w:World}
def a2m (P:Program) (w:World) (S:a0A) (e:TypeId) (xs:List D) (cur:Array Value):Prop:=
 ∀(i j:Nat) (k:CK),i<xs.length→(kinds P e)[j]? =some k→ ∃u,cur[i*a0a P e+j]? =some u∧a1D P w S k (elD P e (xs.getD i (.i 0)) j) u
theorem a0e {T e:TypeId} (h:a0h P T=some e):P.underlying T=some (.slice e)∧a0a P e=(kinds P e).length∧tyB P e=true∧0<a0a P e:=by
 unfold a0h at h;split at h
 ·rename_i e' hu
  cases hb:Nat.beq (a0a P e') (kinds P e').length&&tyB P e'&& !Nat.beq (a0a P e') 0 with
  |false=>rw [hb] at h;cases h
  |true=>
   rw [hb] at h;simp only [cond_true,e55] at h;subst h;simp only [e57,Bool.not_eq_true'] at hb;refine ⟨hu,e56 hb.1.1,hb.1.2,?_⟩;have:=hb.2;rw [a0k] at this;simp at this;omega
 ·cases h
theorem a08 {e:TypeId} {z:D} (h:a2U P e=some z):∃v,(∀w:World,(zeroValue e).run P w= .ok v w)∧(∃i,P.info? e=some i∧i.zero=some v)∧v.cells.size=(kinds P e).length∧
  ∀(w:World) (S:a0A) (j:Nat) (k:CK),(kinds P e)[j]? =some k→ ∃u,v.cells[j]? =some u∧a1D P w S k (elD P e z j) u:=by
 unfold a2U at h;split at h
 ·rename_i x hx
  have hz:∃v,(∀w:World,(zeroValue e).run P w= .ok v w)∧(∃i,P.info? e=some i∧i.zero=some v)∧ ∀(w:World) (S:a0A),a0s P (fun _=>⟨0,0,none⟩) S w x v:=by
   obtain ⟨v,h1,_⟩:=a2F (env:=fun _=>⟨0,0,none⟩) (S:=fun _ _=>False) (w:=default) hx
   have hi:∃i,P.info? e=some i∧i.zero=some v:=by
    unfold zeroValue typeInfo at h1;simp only [e6b,run_program,e58] at h1;cases hi:P.info? e with
    |none=>rw [hi] at h1;simp at h1
    |some i=>
     rw [hi] at h1;simp only [e6c,e58] at h1;cases hz:i.zero with
     |none=>rw [hz] at h1;simp at h1
     |some v'=>rw [hz] at h1;simp only [e6c,Result.ok.injEq,and_true] at h1;exact ⟨i,rfl,by rw [hz,h1]⟩
   obtain ⟨i,hi1,hi2⟩:=hi;refine ⟨v,fun w=>by simp [zeroValue,typeInfo,hi1,hi2],⟨i,hi1,hi2⟩,fun w S=> ?_⟩
   obtain ⟨v2,h3,h4⟩:=a2F (env:=fun _=>⟨0,0,none⟩) (S:=S) (w:=w) hx
   have:v2=v:=by
    have h5:(zeroValue e).run P w= .ok v w:=by simp [zeroValue,typeInfo,hi1,hi2]
    rw [h5] at h3;simp only [Result.ok.injEq,and_true] at h3;exact h3.symm
   rw [←this];exact h4
  obtain ⟨v,h1,h2,h3⟩:=hz;have hc:=fun (w:World) (S:a0A)=>a4Z (mem:=[]) (fun key o hg=>by cases hg) (fun key e xs hg=>by cases hg) (h3 w S) h
  exact ⟨v,h1,h2,(hc default (fun _ _=>False)).1.symm,fun w S j k hk=>(hc w S).2 j k hk⟩
 ·cases h
theorem b11 {e:TypeId} {z:D} {v:Value} (hs:a0a P e=(kinds P e).length) (hv:v.cells.size=(kinds P e).length) {S:a0A} (hc:∀(j:Nat) (k:CK),(kinds P e)[j]? =some k→ ∃u,v.cells[j]? =some u∧a1D P w S k (elD P e z j) u) (n m:Nat) (hnm:n≤m):
  a2m P w S e (List.replicate n z) ((Array.range (m*a0a P e)).map (v.cells[· %v.cells.size]!)):=by
 intro i j k hi hk;rw [List.length_replicate] at hi;have hj:j<(kinds P e).length:=(e6h.1 hk).1;obtain ⟨u,hu,hr⟩:=hc j k hk;refine ⟨u,?_,?_⟩
 ·have hlt:i*a0a P e+j<m*a0a P e:=a54 (by omega) (by omega)
  rw [Array.getElem?_map,Array.getElem?_range,if_pos hlt];simp only [e6r];have hmod:(i*a0a P e+j)%v.cells.size=j:=by
   rw [hv,hs,Nat.mul_comm,Nat.mul_add_mod,Nat.mod_eq_of_lt hj]
  rw [hmod];have hjs:j<v.cells.size:=by omega
  rw [getElem!_pos v.cells j hjs];rw [Array.getElem?_eq_getElem hjs] at hu;exact hu
 ·rw [e6d,List.getElem?_replicate,if_pos hi]
  exact hr
theorem b5n {S:a0A} {e:TypeId} {x:V} {v:Value} (h:a0s P env S w x v):a0s P env S w (e0H P e x) v:=by
 cases x with
 |c c=>simp only [e0H];split<;>first|exact b0k h|exact h
 |g cs=>obtain ⟨vs,h1,h2⟩:=h;exact ⟨vs,h1,a5C h2⟩
 |_=>exact h
theorem b1a {S:a0A} {mem:AL Obj} (hob:∀key o,get mem key=some o→a0x P env S w (env key) o) (hst:a0Y P env S mem) {e:TypeId} (hs:a0a P e=(kinds P e).length):∀{parts:List (Nat×V)} {vps:List (Nat×Value)} {ds out:List D} {cur:Array Value},
  All2 (fun x y=>x.1=y.1∧a0s P env S w x.2 y.2) parts vps→cur.size=ds.length*a0a P e→a2m P w S e ds cur→b5f P mem e ds parts=some out→
  ∃cur',Instr.fill (fun i=>some (i*a0a P e,a0a P e)) cur vps=some cur'∧cur'.size=out.length*a0a P e∧out.length=ds.length∧a2m P w S e out cur'
 | [],vps,ds,out,cur,hps,hsz,hc,h=>by
  cases vps with
  |nil=>simp only [b5f,e55] at h;subst h;exact ⟨cur,rfl,hsz,rfl,hc⟩
  |cons=>exact hps.elim
 | (i, x) ::parts,vps,ds,out,cur,hps,hsz,hc,h=>by
  cases vps with
  |nil=>exact hps.elim
  | cons y vps=>
   obtain ⟨i',v⟩:=y;obtain ⟨⟨hi,hv⟩,hps⟩:=hps;simp only at hi hv;subst hi;simp only [b5f] at h;split at h
   ·rename_i d hd
    cases hl:Nat.blt i ds.length with
    |false=>rw [hl] at h;cases h
    | true=>
     rw [hl] at h;simp only [cond_true] at h;have hlt:i<ds.length:=e6g hl;obtain ⟨q1,q2⟩:=a4Z hob hst (b5n (e:=e) hv) hd;have hfit:i*a0a P e+v.cells.size≤cur.size:=by
      rw [hsz,←q1,←hs];have:(i+1)*a0a P e≤ds.length*a0a P e:=Nat.mul_le_mul_right _ hlt;rw [Nat.add_mul,Nat.one_mul] at this;exact this
     have hf:(v.cells.zipIdx.foldl (fun cs (c,j)=>cs.setIfInBounds (i*a0a P e+j) c) cur).toList=cur.toList.take (i*a0a P e)++v.cells.toList++cur.toList.drop (i*a0a P e+v.cells.toList.length):=by
      have:=a8O (i*a0a P e) v.cells.toList 0 cur (by simpa using hfit)
      rw [←Array.foldl_toList,Array.toList_zipIdx];simpa using this
     have hget:∀j,(v.cells.zipIdx.foldl (fun cs (c,j)=>cs.setIfInBounds (i*a0a P e+j) c) cur)[j]? =if i*a0a P e≤j∧j<i*a0a P e+v.cells.size then v.cells[j-i*a0a P e]? else cur[j]? :=by
      intro j;rw [←Array.getElem?_toList,hf,b0p _ _ _ _ (by simpa using hfit)]
      simp
     have hsz2:(v.cells.zipIdx.foldl (fun cs (c,j)=>cs.setIfInBounds (i*a0a P e+j) c) cur).size=(ds.set i d).length*a0a P e:=by
      rw [←Array.length_toList,hf,b5m _ _ _ (by simpa using hfit)]
      simpa using hsz
     have hrow:a2m P w S e (ds.set i d) (v.cells.zipIdx.foldl (fun cs (c,j)=>cs.setIfInBounds (i*a0a P e+j) c) cur):=by
      intro i2 j k hi2 hk;rw [List.length_set] at hi2;have hj:j<(kinds P e).length:=(e6h.1 hk).1;by_cases hii:i2=i
      ·subst hii
       obtain ⟨u,hu,hr⟩:=q2 j k hk;refine ⟨u,?_,?_⟩
       ·rw [hget,if_pos (by omega),←hu];congr 1;omega
       ·rw [e6d,List.getElem?_set_self hlt];exact hr
      ·obtain ⟨u,hu,hr⟩:=hc i2 j k hi2 hk
       refine ⟨u,?_,?_⟩
       ·rw [hget,if_neg ?_]
        ·exact hu
        ·intro hcc
         rcases Nat.lt_or_gt_of_ne hii with hlt2|hgt
         ·have:=a54 (s:=a0a P e) (j:=j) hlt2 (by omega);omega
         ·have h7:(i+1)*a0a P e≤i2*a0a P e:=Nat.mul_le_mul_right _ hgt
          rw [Nat.add_mul,Nat.one_mul] at h7;omega
       ·rw [e6d,List.getElem?_set_ne (Ne.symm hii),←e6d];exact hr
     obtain ⟨cur',r1,r2,r3,r4⟩:=b1a hob hst hs hps hsz2 hrow h;refine ⟨cur',?_,r2,by simpa using r3,r4⟩
     simp only [Instr.fill];rw [if_neg (by
      intro hh;rw [Bool.or_eq_true,decide_eq_true_eq,decide_eq_true_eq] at hh;rcases hh with hh|hh
      ·exact hh (by omega)
      ·omega)]
     exact r1
   ·cases h
theorem a2m.mono {S S':a0A} {w':World} (h:a0y w S w' S') {e:TypeId} {xs:List D} {cur:Array Value} (hr:a2m P w S e xs cur):a2m P w' S' e xs cur:=
 fun i j k hi hk=>let ⟨u,a,b⟩:=hr i j k hi hk;⟨u,a,b.mono h⟩
theorem c0V (h:Rel P N n0 B M0 w0 F e0 env st a w) {mem0:AL Obj} (hsub:∀k ob,get mem0 k=some ob→get st.mem k=some ob) (key:Nat) (hkey:¬F key) {e:TypeId} {ex:Bool} {xs:List D} {cap:Nat} {cur:Array Value} {fr:Nat×Nat} {w':World} (hch:Chg (fun _ _=>False) w w') (hheap:w'.heap=w.heap.push (.cells cur e fr)) (hfr:d4a fr cur.size)
  (hs:a0a P e=(kinds P e).length) (hle:xs.length≤cap) (hcap:cap≤maxLen) (hsz:cur.size=cap*a0a P e) (hr:a2m P w (Sof P B M0 n0 env st.mem w) e xs cur):
  Rel P N n0 B M0 w0 F e0 (upd env key ⟨w.heap.size,0,some (xs.length,cap)⟩) (a0o key (.row e ex false xs) {st with mem:=mem0}) a w':=
 Rel.newBlock h hsub key hkey _ _ (.cells cur e fr) hch hheap fun S' hk=>by
  refine ⟨hs,.inr ⟨rfl,rfl,cap,cur,rfl,?_,hle,hcap,hsz,hr.mono hk⟩⟩;exact ⟨fr,hfr,by rw [hheap,Array.getElem?_push,if_pos rfl]⟩
theorem a2y (h:Rel P N n0 B M0 w0 F e0 env st a w) {mem0:AL Obj} (hsub:∀k ob,get mem0 k=some ob→get st.mem k=some ob) (key:Nat) (hkey:¬F key) {e:TypeId} {ex:Bool} {xs:List D} {cap:Nat} {cur:Array Value} {w':World} (hch:Chg (fun _ _=>False) w w') (hheap:w'.heap=w.heap.push (.cells cur e))
  (hs:a0a P e=(kinds P e).length) (hle:xs.length≤cap) (hcap:cap≤maxLen) (hsz:cur.size=cap*a0a P e) (hr:a2m P w (Sof P B M0 n0 env st.mem w) e xs cur):
  Rel P N n0 B M0 w0 F e0 (upd env key ⟨w.heap.size,0,some (xs.length,cap)⟩) (a0o key (.row e ex false xs) {st with mem:=mem0}) a w':=
 Rel.newBlock h hsub key hkey _ _ (.cells cur e) hch hheap fun S' hk=>by
  refine ⟨hs,.inr ⟨rfl,rfl,cap,cur,rfl,?_,hle,hcap,hsz,hr.mono hk⟩⟩;exact .of (by rw [hheap,Array.getElem?_push,if_pos rfl])
theorem b1G {R:Type} {d n:Nat} {T el:TypeId} {parts:Array (Nat×Operand)} {z:D} {ds:List D} {k:St→Option R} {r:R} {o:Oper} {Q:Exit→Act→World→Prop} (h:Rel P N n0 B M0 w0 F e0 env st a w) (hd:d<N) (hF:¬F (kb+d)) (ho:o.op= .buildSlice T n parts) (hdst:o.dst=some d)
  (hel:a0h P T=some el) (hz:a2U P el=some z) (hds:b5f P st.mem el (List.replicate n z) (parts.toList.map fun (i,x)=>(i,evu st x))=some ds) (hn:n*a0a P el≤16777216)
  (hk:k ((a0o (kb+d) (.row el true false ds) st).put (some d) (.c (.o (kb+d))))=some r):o.wp P a w (a0P P N n0 B M0 w0 F e0 k r) Q:=by
 obtain ⟨hu,hs,hty,hpos⟩:=a0e hel;obtain ⟨v,hrun,_,hvs,hvc⟩:=a08 hz;have hzr:=b11 (w:=w) hs hvs (hvc w (Sof P B M0 n0 env st.mem w)) n n (Nat.le_refl _);obtain ⟨cur,h1,h2,h3,h4⟩:=b1a (vps:=(parts.map fun (i,x)=>(i,a.eval x)).toList) h.ob h.rows hs (by rw [Array.toList_map];exact c2w h.evu parts.toList) (by simp) hzr hds
 rw [List.length_replicate] at h3;refine a0z (v:= .slice (some ⟨w.heap.size,0,none⟩) n n) (w':=push w (.cells cur el)) ?_ ?_
 ·simp only [execOp,ho,e6b]
  have hrow:(newRow el cur).run P w= .ok ⟨w.heap.size,0,none⟩ (push w (.cells cur el)):=by simp [Go.newRow,push]
  simp only [Instr.buildSlice,e6b,run_underlying hu,e58,a0J hty,if_neg (show¬n*a0a P el>2^24 by omega),e6c]
  by_cases h0:n*a0a P el=0
  ·rw [if_pos h0]
   rw [h0] at h1⊢;rw [show Array.range 0= #[] from rfl] at h1⊢;rw [Array.map_empty] at h1;simp only [e6b,e6c,e58,Array.map_empty,h1,hrow]
  ·rw [if_neg h0]
   simp only [e6b,hrun w,e6c,e58,h1,hrow]
 ·have hrel:=a2y h (mem0:=st.mem) (fun _ _ hg=>hg) (kb+d) hF (ex:=true) (xs:=ds) (cap:=n) (cur:=cur) (w':=push w (.cells cur el)) (a3Q _ w _) rfl hs (by omega) (by
   unfold maxLen;have:n*1≤n*a0a P el:=Nat.mul_le_mul_left _ hpos;omega) (by rw [h2,h3]) h4
  rw [hdst];refine ⟨_,_,hrel.put (fun _ hdd=>by cases hdd;exact hd) ?_,hk⟩
  simp [a0l,a0s,a0j,upd,a1J.hdr,h3]
theorem b6i {α β:Type} {R:α→β→Prop}:∀{xs:List α} {ys:List β},All2 R xs ys→ ∀(i:Nat) {x:α} {y:β},R x y→All2 R (xs.set i x) (ys.set i y)
 | [],[],_,_,_,_,_=>trivial
 |_::_,_::_,h,0,_,_,hr=>⟨hr,h.2⟩
 |_::_,_::_,h,i+1,_,_,hr=>⟨h.1,b6i h.2 i hr⟩
 | [],_::_,h,_,_,_,_=>h.elim
 |_::_,[],h,_,_,_,_=>h.elim
theorem b1b {S:a0A}:∀{parts:List (Nat×V)} {vps:List (Nat×Value)} {cs out:List C} {cur:Array Value},
  All2 (fun x y=>x.1=y.1∧a0s P env S w x.2 y.2) parts vps→All2 (a0j P env S w) cs cur.toList→a8J cs parts=some out→
  ∃cur',Instr.fill (fun i=>some (i*1,1)) cur vps=some cur'∧cur'.size=cur.size∧All2 (a0j P env S w) out cur'.toList
 | [],vps,cs,out,cur,hps,hc,h=>by
  cases vps with
  |nil=>simp only [a8J,e55] at h;subst h;exact ⟨cur,rfl,rfl,hc⟩
  |cons=>exact hps.elim
 | (i,x)::r,vps,cs,out,cur,hps,hc,h=>by
  cases vps with
  |nil=>exact hps.elim
  | cons q vps=>
   obtain ⟨j,v⟩:=q;obtain ⟨⟨he,hv⟩,hps⟩:=hps;simp only at he hv;subst he;simp only [a8J] at h;split at h
   ·rename_i c
    cases hb:Nat.blt i cs.length&&a1F c with
    |false=>rw [hb] at h;cases h
    | true=>
     rw [hb] at h;simp only [cond_true] at h;simp only [e57] at hb;obtain ⟨hb,hp⟩:=hb;have hlt:i<cs.length:=e6g hb;have hl:cs.length=cur.size:=by rw [hc.length];simp
     have hcell:v.cells= #[v]:=(a6p hp hv).2;have hset:All2 (a0j P env S w) (cs.set i c) (cur.setIfInBounds i v).toList:=by
      rw [Array.toList_setIfInBounds];exact b6i hc i hv
     obtain ⟨cur',r1,r2,r3⟩:=b1b hps hset h;refine ⟨cur',?_,by simpa using r2,r3⟩
     simp only [Instr.fill,hcell];rw [if_neg (by
      intro hh;rw [Bool.or_eq_true,decide_eq_true_eq,decide_eq_true_eq] at hh;rcases hh with hh|hh
      ·exact hh rfl
      ·simp at hh;omega)]
     simpa using r1
   ·cases h
theorem b8H {T:TypeId} {n:Nat}:∀{parts:List (Nat×V)} {cs out:List C},a8J cs parts=some out→(∀c∈cs,a4w P T n c)→ ∀c∈out,a4w P T n c
 | [],cs,out,h,hc=>by simp only [a8J,e55] at h;subst h;exact hc
 | (i,x)::r,cs,out,h,hc=>by
  simp only [a8J] at h;split at h
  ·rename_i c
   cases hb:Nat.blt i cs.length&&a1F c with
   |false=>rw [hb] at h;cases h
   |true=>
    rw [hb] at h;simp only [AM.cond_true] at h;simp only [e57] at hb;exact b8H h (b59 hc (b0j hb.2))
  ·cases h
theorem c2C {α β:Type} {R:α→β→Prop} {x:α} {y:β} (h:R x y):∀n:Nat,All2 R (List.replicate n x) (List.replicate n y)
 |0=>trivial
 |n+1=>⟨h,c2C h n⟩
theorem b0q {R:Type} {d n:Nat} {T el:TypeId} {parts:Array (Nat×Operand)} {z:C} {cs:List C} {k:St→Option R} {r:R} {o:Oper} {Q:Exit→Act→World→Prop} (h:Rel P N n0 B M0 w0 F e0 env st a w) (hd:d<N) (hF:¬F (kb+d)) (ho:o.op= .buildSlice T n parts) (hdst:o.dst=some d)
  (hel:a0h P T=some el) (hz:b4V P el=some [z]) (hcs:a8J (List.replicate n z) (parts.toList.map fun (i,x)=>(i,evu st x))=some cs) (hs1:a0a P el=1) (hn0:0<n) (hn:n≤16777216)
  (hk:k ((a0o (kb+d) (.box (cs.map (inval (kb+d)))) st).put (some d) (.c (.bs (kb+d) n)))=some r):o.wp P a w (a0P P N n0 B M0 w0 F e0 k r) Q:=by
 obtain ⟨hu,hs,hty,hpos⟩:=a0e hel;obtain ⟨i,v,_,_,hzr,hrun,_⟩:=a2p (env:=env) (S:=Sof P B M0 n0 env st.mem w) (w:=w) hz;have hone:∃u,v.cells= #[u]∧a0j P env (Sof P B M0 n0 env st.mem w) w z u:=by
  have hl:=hzr.length;match hv:v.cells.toList,hzr with
  | [u],hzr=>exact ⟨u,by rw [←Array.toList_inj,hv],hzr.1⟩
  | [],hzr=>exact hzr.elim
  |_::_::_,hzr=>exact hzr.2.elim
 obtain ⟨u,hu1,hu2⟩:=hone;have hcur:(Array.range (n*1)).map (fun x=>(#[u]:Array Value)[x%(#[u]:Array Value).size]!)=Array.replicate n u:=by
  apply Array.ext
  ·simp
  ·intro j h1 h2
   simp [Nat.mod_one]
 obtain ⟨cur,h1,h2,h3⟩:=b1b (vps:=(parts.map fun (i,x)=>(i,a.eval x)).toList) (cur:=Array.replicate n u) (by rw [Array.toList_map];exact c2w h.evu parts.toList) (by rw [Array.toList_replicate];exact c2C hu2 n) hcs
 refine a0z (v:= .slice (some ⟨w.heap.size,0,none⟩) n n) (w':=push w (.cells cur el)) ?_ ?_
 ·simp only [execOp,ho,e6b]
  have hrow:(newRow el cur).run P w= .ok ⟨w.heap.size,0,none⟩ (push w (.cells cur el)):=by simp [Go.newRow,push]
  simp only [Instr.buildSlice,e6b,run_underlying hu,e58,a0J hty,hs1,if_neg (show¬n*1>2^24 by omega),e6c]
  rw [if_neg (show¬n*1=0 by omega)]
  simp only [e6b,hrun,e6c,e58,hu1,hcur,h1,hrow]
 ·have hl:cs.length=cur.size:=by rw [h3.length];simp
  have hn2:cur.size=n:=by rw [h2];simp
  have hnb:=Rel.newBlock h (mem0:=st.mem) (fun _ _ hg=>hg) (kb+d) hF (.box (cs.map (inval (kb+d)))) none (.cells cur el) (a3Q _ w _) rfl fun S' hkeep=>by
   refine ⟨cur,el,a5F,by simp;omega,?_,a3O (fun _=>a4X) (b8H hcs fun c hc=>c2B hz c (by rw [(List.mem_replicate.1 hc).2];simp))⟩
   have h1':All2 (a0j P (upd env (kb+d) ⟨w.heap.size,0,none⟩) S' (push w (.cells cur el))) (cs.map (inval (kb+d))) cur.toList:=
    h3.mapl fun c u _ hcu=>a0j.inval hkeep (kb+d) (fun k hk=>by simp [upd,hk]) hcu
   exact h1'.self_take
  rw [hdst];refine ⟨_,_,hnb.put (v:= .slice (some ⟨w.heap.size,0,none⟩) n n) (fun _ hdd=>by cases hdd;exact hd) ?_,hk⟩
  simp [a0l,a0s,a0j,upd]
end
section
variable {P:Program} {N n0 kb:Nat} {F:Nat→Prop} {B M0:a0A} {w0:World} {e0:a6l} {env:Env} {st:St} {a:Act} {w:World}
theorem b6j {S:a0A} {k:CK} {d:D} {u:Value} (h:a1D P w S k d u):u.oneCell'=true:=by cases h<;>first|rfl|(unfold fnV;cases d.toB<;>rfl)
structure Src (P:Program) (w:World) (S:a0A) (e:TypeId) (ys:List D) (vx:Value):Prop where
 src:(∃(ao:Option Addr) (c:Nat),vx= .slice ao 0 c∧ys=[])∨ ∃b o c,vx= .slice (some ⟨b,o,none⟩) ys.length c∧
  ∀(i j:Nat) (k:CK),i<ys.length→(kinds P e)[j]? =some k→ ∃u,w.cell? ⟨b,o+(i*a0a P e+j),none⟩=some u∧a1D P w S k (elD P e (ys.getD i (.i 0)) j) u
theorem b5o (h:Rel P N n0 B M0 w0 F e0 env st a w) {e:TypeId} {x:V} {vx:Value} {ys:List D} (hx:a0s P env (Sof P B M0 n0 env st.mem w) w x vx) (hs:e0G st.mem e x=some ys):Src P w (Sof P B M0 n0 env st.mem w) e ys vx:=by
 unfold e0G at hs;split at hs
 ·rename_i key
  split at hs
  ·rename_i e' ex nl xs hg
   cases he:Nat.beq e e' with
   |false=>rw [he] at hs;cases hs
   | true=>
    have:=e56 he;subst this;rw [he] at hs;simp only [cond_true,e55] at hs;subst hs;have hv:vx=(env key).hdr:=hx;obtain ⟨h0,⟨_,rfl,h1⟩|⟨_,_,cap,cur,h1,h2,h3,h4,h5,h6⟩⟩:=h.ob _ _ hg
    ·exact ⟨.inl ⟨none,0,by rw [hv,h1],rfl⟩⟩
    ·refine ⟨.inr ⟨(env key).blk,0,cap,by rw [hv,h1],fun i j k hi hk=> ?_⟩⟩
     obtain ⟨u,hu,hr⟩:=h6 i j k hi hk;exact ⟨u,by rw [Nat.zero_add];exact h2.cell hu,hr⟩
  ·cases hs
 ·rename_i e' nl xs
  cases he:Nat.beq e e' with
  |false=>rw [he] at hs;cases hs
  | true=>
   have:=e56 he;subst this;rw [he] at hs;simp only [cond_true,e55] at hs;subst hs;have hr:a1D P w (Sof P B M0 n0 env st.mem w) (.sl e) (.l nl xs) vx:=hx;cases hr with
   |nil e d a1 a2=>exact ⟨.inl ⟨none,0,rfl,a2⟩⟩
   |emp e d ad cap a1 a2 am=>exact ⟨.inl ⟨some ad,cap,rfl,a2⟩⟩
   |sl e d b off cap cv a1 a2 a3 am a4 a5=>
    refine ⟨.inr ⟨b,off,cap,rfl,fun i j k hi hk=> ?_⟩⟩
    have hj:j<(kinds P e).length:=(e6h.1 hk).1;refine ⟨cv i j,?_,a5 i hi j k hk⟩;rw [←Nat.add_assoc];exact (a4 i hi j hj).2
 ·simp only [e55] at hs
  subst hs;have hv:vx= .slice none 0 0:=hx;exact ⟨.inl ⟨none,0,hv,rfl⟩⟩
 ·cases hs
theorem a8U {S:a0A} {e:TypeId} {ys:List D} {b o:Nat} (hs:a0a P e=(kinds P e).length) (hpos:0<a0a P e)
  (h:∀(i j:Nat) (k:CK),i<ys.length→(kinds P e)[j]? =some k→ ∃u,w.cell? ⟨b,o+(i*a0a P e+j),none⟩=some u∧a1D P w S k (elD P e (ys.getD i (.i 0)) j) u):
  ∃news:List Value,news.length=ys.length*a0a P e∧(∀j u,news[j]? =some u→w.cell? ((⟨b,o,none⟩:Addr).add j)=some u)∧(∀u∈news,u.oneCell'=true)∧
   ∀(i j:Nat) (k:CK),i<ys.length→(kinds P e)[j]? =some k→ ∃u,news[i*a0a P e+j]? =some u∧a1D P w S k (elD P e (ys.getD i (.i 0)) j) u:=by
 have hq:∀q,q<ys.length*a0a P e→ ∃u k i j,w.cell? ⟨b,o+q,none⟩=some u∧a1D P w S k (elD P e (ys.getD i (.i 0)) j) u:=by
  intro q hq;have hi:q/a0a P e<ys.length:=Nat.div_lt_of_lt_mul (by rw [Nat.mul_comm];exact hq)
  have hj:q%a0a P e<(kinds P e).length:=by rw [←hs];exact Nat.mod_lt _ hpos
  obtain ⟨u,hu,hr⟩:=h (q/a0a P e) (q%a0a P e) _ hi (e6j hj);refine ⟨u,_,_,_,?_,hr⟩;have:q/a0a P e*a0a P e+q%a0a P e=q:=by rw [Nat.mul_comm];exact Nat.div_add_mod q _
  rw [this] at hu;exact hu
 have hget:∀q,((List.range (ys.length*a0a P e)).map fun q=>(w.cell? ⟨b,o+q,none⟩).getD undef)[q]? =if q<ys.length*a0a P e then some ((w.cell? ⟨b,o+q,none⟩).getD undef) else none:=by
  intro q;rw [List.getElem?_map];by_cases hlt:q<ys.length*a0a P e
  ·rw [List.getElem?_range hlt,if_pos hlt];rfl
  ·rw [List.getElem?_eq_none (by simpa using hlt),if_neg hlt];rfl
 refine ⟨(List.range (ys.length*a0a P e)).map fun q=>(w.cell? ⟨b,o+q,none⟩).getD undef,by simp,?_,?_,?_⟩
 ·intro j u hu
  rw [hget] at hu;split at hu
  ·rename_i hlt
   obtain ⟨u',k,i,j',hc,_⟩:=hq j hlt;rw [Addr.add_lit,hc];rw [hc] at hu;exact hu
  ·cases hu
 ·intro u hu
  obtain ⟨j,hj⟩:=List.getElem?_of_mem hu;rw [hget] at hj;split at hj
  ·rename_i hlt
   obtain ⟨u',k,i,j',hc,hr⟩:=hq j hlt;rw [hc] at hj;simp only [Option.getD_some,e55] at hj;subst hj;exact b6j hr
  ·cases hj
 ·intro i j k hi hk
  obtain ⟨u,hu,hr⟩:=h i j k hi hk;have hj:j<(kinds P e).length:=(e6h.1 hk).1;refine ⟨u,?_,hr⟩;rw [hget,if_pos (a54 hi (by omega)),hu]
  rfl
theorem a09 {S:a0A} {e:TypeId} {xs ys:List D} {cur:Array Value} {olds news:List Value}
  (ho:∀(i j:Nat) (k:CK),i<xs.length→(kinds P e)[j]? =some k→ ∃u,olds[i*a0a P e+j]? =some u∧a1D P w S k (elD P e (xs.getD i (.i 0)) j) u) (hol:olds.length=xs.length*a0a P e)
  (hn:∀(i j:Nat) (k:CK),i<ys.length→(kinds P e)[j]? =some k→ ∃u,news[i*a0a P e+j]? =some u∧a1D P w S k (elD P e (ys.getD i (.i 0)) j) u) (hnl:news.length=ys.length*a0a P e)
  (hcur:∀q,q<olds.length+news.length→cur[q]? =(olds++news)[q]?):a2m P w S e (xs++ys) cur:=by
 intro i j k hi hk;rw [e6l] at hi;have hj:j<(kinds P e).length:=(e6h.1 hk).1;by_cases hix:i<xs.length
 ·obtain ⟨u,hu,hr⟩:=ho i j k hix hk
  have hlt:i*a0a P e+j<olds.length:=(e6h.1 hu).1;refine ⟨u,?_,?_⟩
  ·rw [hcur _ (by omega),e6p hlt];exact hu
  ·rw [e6d,e6p hix,←e6d];exact hr
 ·obtain ⟨u,hu,hr⟩:=hn (i-xs.length) j k (by omega) hk
  have hlt:(i-xs.length)*a0a P e+j<news.length:=(e6h.1 hu).1;have he:i*a0a P e=xs.length*a0a P e+(i-xs.length)*a0a P e:=by rw [←Nat.add_mul];congr 1;omega
  refine ⟨u,?_,?_⟩
  ·rw [hcur _ (by omega),e6o (by omega),←hu];congr 1;omega
  ·rw [e6d,e6o (by omega),←e6d];exact hr
theorem a33 (h:Rel P N n0 B M0 w0 F e0 env st a w) {mem0:AL Obj} (hsub:∀k ob,get mem0 k=some ob→get st.mem k=some ob) (key:Nat) (hkey:¬F key) {e:TypeId} {ex:Bool} (hs:a0a P e=(kinds P e).length):
  Rel P N n0 B M0 w0 F e0 (upd env key ⟨0,0,none⟩) (a0o key (.row e ex true []) {st with mem:=mem0}) a w:=
 Rel.new h hsub key hkey _ _ (fun _ _=>False) (Chg.refl _ w) (fun _ _ hf=>hf.elim) (fun _ _ _ _ _=>rfl) (fun _=>⟨hs,.inl ⟨rfl,rfl,rfl⟩⟩) (fun b x hm=>by cases hm.1) (fun hr=>by cases hr) (fun e ex xs he=>by cases he)
theorem b1c {w:World} {o:Go.Obj} {b:Nat} (h:b<w.heap.size):(w.drew.alloc o).heap[b]? =w.heap[b]? :=by
 show (w.heap.push o)[b]? =_;rw [Array.getElem?_push,if_neg (by omega)]
theorem a04 (w:World) (o:Go.Obj):Chg (fun _ _=>False) w (w.drew.alloc o):=
 ⟨rfl,rfl,rfl,by simp,fun b cur T fr h=>⟨cur,fr,by rw [b1c (e6f.1 h).1];exact h,rfl,fun _ _=>rfl,.inl rfl⟩,
  fun b ob h _=>by rw [b1c (e6f.1 h).1];exact h⟩
theorem a58 (h:Rel P N n0 B M0 w0 F e0 env st a w) {mem0:AL Obj} (hsub:∀k ob,get mem0 k=some ob→get st.mem k=some ob) {T ty el:TypeId} (hel:a0h P T=some el) {z:Value} {i:TypeInfo} (hi:P.info? el=some i) (hz:i.zero=some z) (hzs:z.cells.size=(kinds P el).length)
  {ys:List D} {vx:Value} (hsrc:Src P w (Sof P B M0 n0 env st.mem w) el ys vx) (hroom:ys.length*a07 P el≤a0X) (hmax:ys.length≤a0c) (key:Nat) (hkey:¬F key) (ex:Bool):
  ∃v w' env',(Builtin.append_ #[T,T] ty #[.slice none 0 0,vx]).run P w= .ok v w'∧Rel P N n0 B M0 w0 F e0 env' (a0o key (.row el ex ys.isEmpty ys) {st with mem:=mem0}) a w'∧v=(env' key).hdr:=by
 obtain ⟨hu,hs,hty,hpos⟩:=a0e hel;have hsz:i.size=a0a P el:=by simp [a0a,hi]
 have hby:i.bytes=a07 P el:=by simp [a07,hi]
 have hn0:∃v w' env',v= .slice none 0 0∧w'=w∧Rel P N n0 B M0 w0 F e0 env' (a0o key (.row el ex true []) {st with mem:=mem0}) a w'∧v=(env' key).hdr:=
  ⟨_,_,_,rfl,rfl,a33 h hsub key hkey hs,by simp [upd,a1J.hdr]⟩
 rcases hsrc.src with ⟨ao,c,rfl,rfl⟩|⟨b,o,c,rfl,hc⟩
 ·obtain ⟨v,w',env',rfl,rfl,h1,h2⟩:=hn0
  refine ⟨_,_,env',?_,h1,h2⟩;cases ao<;>simp [Builtin.append_,run_underlying hu,sizeOf,typeInfo,hi,Builtin.lenOf,Builtin.firstCells,loadCells,loadCellsFrom]
 ·cases hys:ys with
  |nil=>
   subst hys;obtain ⟨v,w',env',rfl,rfl,h1,h2⟩:=hn0;refine ⟨_,_,env',?_,h1,h2⟩;simp [Builtin.append_,run_underlying hu,sizeOf,typeInfo,hi,Builtin.lenOf,Builtin.firstCells,loadCells,loadCellsFrom]
  | cons y ys'=>
   rw [←hys];have hne:0<ys.length:=by rw [hys];simp
   obtain ⟨news,q1,q2,q3,q4⟩:=a8U hs hpos hc;have hrun:=run_append_nil (P:=P) w T ty el i z hu hi hz ⟨b,o,none⟩ ys.length c news (by rw [q1,hsz]) q2 hne (by unfold a0c at hmax;omega) (by rw [hby];unfold a0X at hroom;omega)
   have hcap:=grownCap_ge w ys.length 0 el;have hcm:=grownCap_le_maxLen w ys.length 0 el (by unfold a0c at hmax;unfold maxLen;omega)
   refine ⟨_,_,upd env key ⟨w.heap.size,0,some (ys.length,grownCap w ys.length 0 el)⟩,hrun,?_,by simp [upd,a1J.hdr]⟩
   have hemp:ys.isEmpty=false:=by rw [hys];rfl
   rw [hemp];refine a2y h hsub key hkey (a04 w _) rfl hs hcap hcm ?_ ?_
   ·simp only [Array.size_append,List.size_toArray,size_zeroCells,hzs,←hs,q1,←Nat.add_mul];congr 1;omega
   ·have:=a09 (xs:=[]) (olds:=[]) (cur:=news.toArray++Builtin.zeroCells z.cells (grownCap w ys.length 0 el-ys.length)) (fun i j k hi=>by simp at hi) (by simp) q4 q1 (by
     intro q hq;simp only [List.nil_append,List.length_nil,Nat.zero_add] at hq⊢;rw [Array.getElem?_append_left (by simpa using hq)]
     simp)
    simpa using this
theorem b1H (h:Rel P N n0 B M0 w0 F e0 env st a w) {mem0:AL Obj} (hsub:∀k ob,get mem0 k=some ob→get st.mem k=some ob) {T ty el:TypeId} {ad:Addr} (hel:a0h P T=some el) {z:Value} {i:TypeInfo} (hi:P.info? el=some i) (hz:i.zero=some z) (hzs:z.cells.size=(kinds P el).length)
  {ys:List D} {vx:Value} (hsrc:Src P w (Sof P B M0 n0 env st.mem w) el ys vx) (hne:ys.isEmpty=false) (hroom:ys.length*a07 P el≤a0X) (hmax:ys.length≤a0c) (key:Nat) (hkey:¬F key) (ex:Bool):
  ∃v w' env',(Builtin.append_ #[T,T] ty #[.slice (some ad) 0 0,vx]).run P w= .ok v w'∧Rel P N n0 B M0 w0 F e0 env' (a0o key (.row el ex false ys) {st with mem:=mem0}) a w'∧v=(env' key).hdr:=by
 obtain ⟨hu,hs,hty,hpos⟩:=a0e hel;have hsz:i.size=a0a P el:=by simp [a0a,hi]
 have hby:i.bytes=a07 P el:=by simp [a07,hi]
 have hl:0<ys.length:=by cases ys with
  |nil=>cases hne
  |cons=>simp
 rcases hsrc.src with ⟨ao,c,rfl,rfl⟩|⟨b,o,c,rfl,hc⟩
 ·cases hne
 ·obtain ⟨news,q1,q2,q3,q4⟩:=a8U hs hpos hc
  have hrun:=run_append_grow (P:=P) w T ty el i z hu hi hz ad 0 0 [] (by simp) (fun j v hv=>by simp at hv) ⟨b,o,none⟩ ys.length c news (by rw [q1,hsz]) q2 (by omega) (by unfold a0c at hmax;omega) (growslice_fits (by omega) (by rw [hby,Nat.zero_add];exact hroom))
  rw [Nat.zero_add] at hrun;have hcap:=grownCap_ge w ys.length 0 el;have hcm:=grownCap_le_maxLen w ys.length 0 el (by unfold a0c at hmax;unfold maxLen;omega)
  refine ⟨_,_,upd env key ⟨w.heap.size,0,some (ys.length,grownCap w ys.length 0 el)⟩,hrun,?_,by simp [upd,a1J.hdr]⟩
  refine a2y h hsub key hkey (a04 w _) rfl hs hcap hcm ?_ ?_
  ·simp only [Array.size_append,List.size_toArray,e6l,List.length_nil,Nat.zero_add,size_zeroCells,hzs,←hs,q1,←Nat.add_mul];congr 1;omega
  ·have:=a09 (xs:=[]) (olds:=[]) (cur:=(([]:List Value)++news).toArray++Builtin.zeroCells z.cells (grownCap w ys.length 0 el-ys.length)) (fun i j k hi=>by simp at hi) (by simp) q4 q1 (by
    intro q hq;simp only [List.nil_append,List.length_nil,Nat.zero_add] at hq⊢;rw [Array.getElem?_append_left (by simpa using hq)]
    simp)
   simpa using this
theorem a0p {mem:AL Obj} {key:Nat}:∀k ob,get (del mem key) k=some ob→k≠key∧get mem k=some ob:=by
 intro k ob hg;rw [a71] at hg;by_cases hk:k=key
 ·rw [if_pos hk] at hg;cases hg
 ·rw [if_neg hk] at hg;exact ⟨hk,hg⟩
theorem b1I (h:Rel P N n0 B M0 w0 F e0 env st a w) {key0:Nat} {T ty el:TypeId} (hel:a0h P T=some el) {ex:Bool} {xs:List D} (hg:get st.mem key0=some (.row el ex false xs)) {z:Value} {i:TypeInfo} (hi:P.info? el=some i) (hz:i.zero=some z) (hzs:z.cells.size=(kinds P el).length)
  {ys:List D} {vx:Value} (hsrc:Src P w (Sof P B M0 n0 env st.mem w) el ys vx) (hroom:(xs.length+ys.length)*a07 P el≤a0X) (hmax:xs.length+ys.length≤a0c) (key:Nat) (hkey:¬F key):
  ∃v w' env',(Builtin.append_ #[T,T] ty #[(env key0).hdr,vx]).run P w= .ok v w'∧Rel P N n0 B M0 w0 F e0 env' (a0o key (.row el ex false (xs++ys)) {st with mem:=del st.mem key0}) a w'∧v=(env' key).hdr:=by
 obtain ⟨hu,hs,hty,hpos⟩:=a0e hel;have hsz:i.size=a0a P el:=by simp [a0a,hi]
 have hby:i.bytes=a07 P el:=by simp [a07,hi]
 obtain ⟨_,⟨hn,_⟩|⟨_,hb0,cap,cur,h1,h2,h3,h4,h5,h6⟩⟩:=h.ob _ _ hg
 ·cases hn
 ·obtain ⟨fr,hfr,h2⟩:=h2
  have hsub:∀k ob,get (del st.mem key0) k=some ob→get st.mem k=some ob:=fun k ob hk=>(a0p k ob hk).2
  have holdl:(cur.toList.take (xs.length*a0a P el)).length=xs.length*a0a P el:=by
   have:=Nat.mul_le_mul_right (a0a P el) h3;have hcl:cur.toList.length=cap*a0a P el:=by simpa using h5
   rw [List.length_take];omega
  have holds:∀(i j:Nat) (k:CK),i<xs.length→(kinds P el)[j]? =some k→ ∃u,(cur.toList.take (xs.length*a0a P el))[i*a0a P el+j]? =some u∧a1D P w (Sof P B M0 n0 env st.mem w) k (elD P el (xs.getD i (.i 0)) j) u:=by
   intro i j k hi hk;obtain ⟨u,hu,hr⟩:=h6 i j k hi hk;have hj:j<(kinds P el).length:=(e6h.1 hk).1;refine ⟨u,?_,hr⟩;rw [List.getElem?_take,if_pos (a54 hi (by omega))]
   simpa using hu
  -- the row stays where it is
  have stay:∀(news:List Value),news.length=ys.length*a0a P el→(∀(i j:Nat) (k:CK),i<ys.length→(kinds P el)[j]? =some k→ ∃u,news[i*a0a P el+j]? =some u∧a1D P w (Sof P B M0 n0 env st.mem w) k (elD P el (ys.getD i (.i 0)) j) u)→xs.length+ys.length≤cap→
    Rel P N n0 B M0 w0 F e0 (upd env key ⟨(env key0).blk,0,some (xs.length+ys.length,cap)⟩) (a0o key (.row el ex false (xs++ys)) {st with mem:=del st.mem key0}) a
     (w.setRow (env key0).blk (cur.toList.take (xs.length*a0a P el)++news++cur.toList.drop (xs.length*a0a P el+news.length)).toArray):=by
   intro news hnl hnews hcap;have hfit:xs.length*a0a P el+news.length≤cur.size:=by rw [hnl,←Nat.add_mul,h5];exact Nat.mul_le_mul_right _ hcap
   have hmut0:∀x,xs.length*a0a P el≤x→a3B P (env key0) (.row el ex false xs) (env key0).blk x:=fun x hx=>⟨rfl,rfl,.inr hx⟩
   refine Rel.new h hsub key hkey _ _ (fun b x=>b=(env key0).blk∧xs.length*a0a P el≤x∧x<xs.length*a0a P el+news.length) ?_ ?_ ?_ ?_ ?_ ?_ ?_
   ·refine a3a h2 (by simp;omega) fun x hx=> ?_
    rw [a2G hfit,if_neg (fun hc=>hx ⟨rfl,hc⟩)]
   ·rintro b x ⟨rfl,hx,_⟩;exact ⟨key0,_,hg,hmut0 x hx⟩
   ·intro k ob _ hk hr
    obtain ⟨hk1,hk2⟩:=a0p k ob hk;exact setRow_other _ _ _ _ (h.ds k key0 ob _ hk2 hg hr rfl hk1)
   ·intro hk
    refine ⟨hs,.inr ⟨rfl,rfl,cap,_,by simp [a1J.hdr],a6u hfr h2 (by simp;omega),by simpa using hcap,h4,by rw [←h5];simp;omega,?_⟩⟩
    have hrc:a2m P w (Sof P B M0 n0 env st.mem w) el (xs++ys) (cur.toList.take (xs.length*a0a P el)++news++cur.toList.drop (xs.length*a0a P el+news.length)).toArray:=
     a09 holds holdl hnews hnl fun q hq=>by
      rw [List.getElem?_toArray,e6p (by simpa using hq)]
    exact hrc.mono hk
   ·intro b x hm
    obtain ⟨_,rfl,hm⟩:=hm;refine .inr ⟨key0,_,hg,rfl,rfl,?_⟩;rcases hm with hm|hm
    ·exact .inl hm
    ·refine .inr ?_
     rw [e6l,Nat.add_mul] at hm;omega
   ·intro _ k ob _ hk hr
    obtain ⟨hk1,hk2⟩:=a0p k ob hk;exact h.ds k key0 ob _ hk2 hg hr rfl hk1
   ·intro e' ex' xs' he x hx
    simp only [Obj.row.injEq] at he;obtain ⟨rfl,_,_,rfl⟩:=he;by_cases hlt:x<xs.length*a0a P el
    ·exact h.pr key0 el ex xs hg x hlt
    ·rcases h.mu key0 _ _ x hg (hmut0 x (by omega)) with h7|h7
     ·exact .inr (.inr h7)
     ·exact .inr (.inl h7)
  rcases hsrc.src with ⟨ao,c,rfl,rfl⟩|⟨b,o,c,rfl,hc⟩
  ·have hst:=stay [] (by simp) (fun i j k hi=>by simp at hi) (by simpa using h3)
   have hself:w.setRow (env key0).blk (cur.toList.take (xs.length*a0a P el)++[]++cur.toList.drop (xs.length*a0a P el+([]:List Value).length)).toArray=w:=by
    have:(cur.toList.take (xs.length*a0a P el)++[]++cur.toList.drop (xs.length*a0a P el+([]:List Value).length)).toArray=cur:=by simp
    rw [this];exact setRow_self w _ cur el fr h2
   rw [hself] at hst;refine ⟨(env key0).hdr,w,_,?_,hst,by rw [h1];simp [upd,a1J.hdr]⟩
   rw [h1];cases ao<;>simp [Builtin.append_,run_underlying hu,sizeOf,typeInfo,hi,Builtin.lenOf,Builtin.firstCells,h3,storeCells,loadCells,loadCellsFrom]
  ·obtain ⟨news,q1,q2,q3,q4⟩:=a8U hs hpos hc
   by_cases hfitc:xs.length+ys.length≤cap
   ·have hrun:=a57 (P:=P) w T ty el i hu hi (env key0).blk xs.length cap cur fr h2 hfr ⟨b,o,none⟩ ys.length c news (by rw [q1,hsz]) q2 q3 hfitc (by rw [hsz,q1,←Nat.add_mul,h5];exact Nat.mul_le_mul_right _ hfitc)
    rw [hsz] at hrun;refine ⟨_,_,_,by rw [h1];exact hrun,stay news q1 q4 hfitc,by simp [upd,a1J.hdr]⟩
   ·have hrun:=run_append_grow (P:=P) w T ty el i z hu hi hz ⟨(env key0).blk,0,none⟩ xs.length cap (cur.toList.take (xs.length*a0a P el)) (by rw [holdl,hsz]) (fun j v hv=>by
      rw [Addr.add_lit,Nat.zero_add];rw [List.getElem?_take] at hv;split at hv
      ·exact a2Y h2 (by simpa using hv)
      ·cases hv) ⟨b,o,none⟩ ys.length c news (by rw [q1,hsz]) q2 (by omega) (by unfold a0c at hmax;omega) (growslice_fits (by omega) (by rw [hby];exact hroom))
    have hcap:=grownCap_ge w (xs.length+ys.length) cap el;have hcm:=grownCap_le_maxLen w (xs.length+ys.length) cap el (by unfold a0c at hmax;unfold maxLen;omega)
    refine ⟨_,_,upd env key ⟨w.heap.size,0,some ((xs++ys).length,grownCap w (xs.length+ys.length) cap el)⟩,by rw [h1];exact hrun,?_,by simp [upd,a1J.hdr]⟩
    refine a2y h hsub key hkey (a04 w _) rfl hs (by simpa using hcap) hcm ?_ ?_
    ·simp only [Array.size_append,List.size_toArray,size_zeroCells,hzs,←hs,q1,holdl,←Nat.add_mul];congr 1;omega
    ·refine a09 holds holdl q4 q1 fun q hq=> ?_
     rw [Array.getElem?_append_left (by simpa using hq)]
     simp [Array.getElem?_append,List.getElem?_append]
theorem b5p (h:Rel P N n0 B M0 w0 F e0 env st a w) {key0:Nat} {ob0:Obj} (hg:get st.mem key0=some ob0) {mem0:AL Obj} (hsub:∀k ob,get mem0 k=some ob→get st.mem k=some ob∧k≠key0) {T ty el:TypeId} (hel:a0h P T=some el) {z:Value} {i:TypeInfo} (hi:P.info? el=some i) (hz:i.zero=some z) (hzs:z.cells.size=(kinds P el).length)
  {n cap:Nat} {cur:Array Value} (h1:(env key0).hdr= .slice (some ⟨(env key0).blk,0,none⟩) n cap) (h2:a72 w (env key0).blk cur el) (h3:n≤cap) (h4:cap≤maxLen) (h5:cur.size=cap*a0a P el)
  (hmut0:∀x,a3B P (env key0) ob0 (env key0).blk x) (hr0:a0N ob0) {b o c m:Nat} {news:List Value} (q1:news.length=m*a0a P el) (q2:∀j u,news[j]? =some u→w.cell? ((⟨b,o,none⟩:Addr).add j)=some u) (q3:∀u∈news,u.oneCell'=true) (hm:0<m)
  (hroom:(n+m)*a07 P el≤a0X) (hmax:n+m≤a0c) (key:Nat) (hkey:¬F key) (onew:Obj) (hnm:∀s b x,a3B P s onew b x→b=s.blk) (hnr:∀e ex xs,onew≠ .row e ex false xs)
  (hnew:∀(S':a0A) (w':World) (s:a1J) (cur':Array Value) (cap':Nat),a0y w (Sof P B M0 n0 env st.mem w) w' S'→s.base=0→s.hdr= .slice (some ⟨s.blk,0,none⟩) (n+m) cap'→a72 w' s.blk cur' el→n+m≤cap'→cap'≤maxLen→cur'.size=cap'*a0a P el→(∀j,j<(n+m)*a0a P el→cur'[j]? =(cur.toList.take (n*a0a P el)++news)[j]?)→a0x P (upd env key s) S' w' s onew):
  ∃v w' env',(Builtin.append_ #[T,T] ty #[(env key0).hdr,.slice (some ⟨b,o,none⟩) m c]).run P w= .ok v w'∧Rel P N n0 B M0 w0 F e0 env' (a0o key onew {st with mem:=mem0}) a w'∧v=(env' key).hdr∧ ∀k,k≠key→env' k=env k:=by
 obtain ⟨hu,hs,hty,hpos⟩:=a0e hel;have hsz:i.size=a0a P el:=by simp [a0a,hi]
 have hby:i.bytes=a07 P el:=by simp [a07,hi]
 obtain ⟨fr,hfr,h2⟩:=h2;have holdl:(cur.toList.take (n*a0a P el)).length=n*a0a P el:=by
  have:=Nat.mul_le_mul_right (a0a P el) h3;have hcl:cur.toList.length=cap*a0a P el:=by simpa using h5
  rw [List.length_take];omega
 by_cases hfitc:n+m≤cap
 ·have hrun:=a57 (P:=P) w T ty el i hu hi (env key0).blk n cap cur fr h2 hfr ⟨b,o,none⟩ m c news (by rw [q1,hsz]) q2 q3 hfitc (by rw [hsz,q1,←Nat.add_mul,h5];exact Nat.mul_le_mul_right _ hfitc)
  rw [hsz] at hrun;have hfit:n*a0a P el+news.length≤cur.size:=by rw [q1,←Nat.add_mul,h5];exact Nat.mul_le_mul_right _ hfitc
  refine ⟨_,_,upd env key ⟨(env key0).blk,0,some (n+m,cap)⟩,by rw [h1];exact hrun,?_,by simp [upd,a1J.hdr],fun k hk=>by simp [upd,hk]⟩
  refine Rel.new h (fun k ob hk=>(hsub k ob hk).1) key hkey onew _ (fun b x=>b=(env key0).blk∧n*a0a P el≤x∧x<n*a0a P el+news.length) ?_ ?_ ?_ ?_ ?_ ?_ ?_
  ·refine a3a h2 (by simp;omega) fun x hx=> ?_
   rw [a2G hfit,if_neg (fun hc=>hx ⟨rfl,hc⟩)]
  ·rintro b x ⟨rfl,hx,_⟩;exact ⟨key0,_,hg,hmut0 x⟩
  ·intro k ob _ hk hr
   obtain ⟨hk2,hk1⟩:=hsub k ob hk;exact setRow_other _ _ _ _ (h.ds k key0 ob _ hk2 hg hr hr0 hk1)
  ·intro hk
   refine hnew _ _ _ (cur.toList.take (n*a0a P el)++news++cur.toList.drop (n*a0a P el+news.length)).toArray cap hk rfl (by simp [a1J.hdr]) (a6u hfr h2 (by simp;omega)) hfitc h4 (by rw [←h5];simp;omega) fun j hj=> ?_
   rw [Nat.add_mul] at hj;rw [List.getElem?_toArray,e6p (by rw [e6l,holdl,q1];omega)]
  ·intro b x hmm
   obtain rfl:=hnm _ _ _ hmm;exact .inr ⟨key0,_,hg,hmut0 x⟩
  ·intro _ k ob _ hk hr
   obtain ⟨hk2,hk1⟩:=hsub k ob hk;exact h.ds k key0 ob _ hk2 hg hr hr0 hk1
  ·intro e' ex' xs' he;exact absurd he (hnr _ _ _)
 ·have hrun:=run_append_grow (P:=P) w T ty el i z hu hi hz ⟨(env key0).blk,0,none⟩ n cap (cur.toList.take (n*a0a P el)) (by rw [holdl,hsz]) (fun j v hv=>by
    rw [Addr.add_lit,Nat.zero_add];rw [List.getElem?_take] at hv;split at hv
    ·exact a2Y h2 (by simpa using hv)
    ·cases hv) ⟨b,o,none⟩ m c news (by rw [q1,hsz]) q2 (by omega) (by unfold a0c at hmax;omega) (growslice_fits (by omega) (by rw [hby];exact hroom))
  have hcap:=grownCap_ge w (n+m) cap el;have hcm:=grownCap_le_maxLen w (n+m) cap el (by unfold a0c at hmax;unfold maxLen;omega)
  refine ⟨_,_,upd env key ⟨w.heap.size,0,some (n+m,grownCap w (n+m) cap el)⟩,by rw [h1];exact hrun,?_,by simp [upd,a1J.hdr],fun k hk=>by simp [upd,hk]⟩
  refine Rel.newBlock h (fun k ob hk=>(hsub k ob hk).1) key hkey onew _ (.cells ((cur.toList.take (n*a0a P el)).toArray++news.toArray++Builtin.zeroCells z.cells (grownCap w (n+m) cap el-(n+m))) el) (a04 w _) rfl fun S' hk=> ?_
  refine hnew _ _ _ _ (grownCap w (n+m) cap el) hk rfl (by simp [a1J.hdr]) (.of (by
   show (w.heap.push _)[w.heap.size]? =_;rw [Array.getElem?_push,if_pos rfl])) hcap hcm ?_ fun j hj=> ?_
  ·simp only [Array.size_append,List.size_toArray,size_zeroCells,hzs,←hs,q1,holdl,←Nat.add_mul];congr 1;omega
  ·rw [Nat.add_mul] at hj
   rw [Array.getElem?_append_left (by simp only [Array.size_append,List.size_toArray,holdl,q1];omega)]
   simp [Array.getElem?_append,List.getElem?_append]
theorem b8I (h:Rel P N n0 B M0 w0 F e0 env st a w) {key2 q:Nat} {el:TypeId} {c:C} {dd:D} (hg:get st.mem key2=some (.krow el 0 q c [dd])) (hp:a1F c=true) (hpos:0<a0a P el):
  ∃(cap:Nat) (news:List Value),(env key2).hdr= .slice (some ⟨(env key2).blk,0,none⟩) 1 cap∧news.length=1*a0a P el∧(∀j u,news[j]? =some u→w.cell? ((⟨(env key2).blk,0,none⟩:Addr).add j)=some u)∧(∀u∈news,u.oneCell'=true)∧q<(kinds P el).length∧
   (∃u,news[q]? =some u∧a0j P env (Sof P B M0 n0 env st.mem w) w c u)∧ ∀(j:Nat) (t:CK),(kinds P el)[j]? =some t→j≠q→ ∃u,news[j]? =some u∧a1D P w (Sof P B M0 n0 env st.mem w) t (elD P el dd j) u:=by
 obtain ⟨a1,a2,a3,a4,cap,cur,a5,a6,a7,a8,a9,⟨u,b1,b2⟩,b3⟩:=h.ob _ _ hg;have hc0:0<cap:=by
  have:1≤cap:=by simpa using a7
  omega
 have hcap:a0a P el≤cap*a0a P el:=Nat.le_mul_of_pos_left _ hc0;have hget:∀j,j<a0a P el→(cur.toList.take (a0a P el))[j]? =cur[j]? :=fun j hj=>by
  rw [List.getElem?_take,if_pos hj];simp
 have hlt:∀{j:Nat} {u:Value},(cur.toList.take (a0a P el))[j]? =some u→j<a0a P el:=fun hu=>by
  have:=(e6h.1 hu).1;rw [List.length_take] at this;omega
 refine ⟨cap,cur.toList.take (a0a P el),a5,?_,fun j u hu=> ?_,fun u hu=> ?_,a4,⟨u,?_,b2⟩,fun j t ht hj=> ?_⟩
 ·rw [List.length_take,Array.length_toList];omega
 ·rw [Addr.add_lit,Nat.zero_add]
  rw [hget j (hlt hu)] at hu;exact a6.cell hu
 ·obtain ⟨j,hj⟩:=List.getElem?_of_mem hu
  have hjl:=hlt hj;rw [hget j hjl] at hj;by_cases hq:j=q
  ·subst hq
   rw [Nat.zero_mul,Nat.zero_add] at b1;rw [b1] at hj;cases hj;exact (a6p hp b2).1
  ·obtain ⟨u',c1,c2⟩:=b3 0 j _ (by simp) (e6j (show j<(kinds P el).length by omega)) (fun hh=>hq hh.2)
   rw [Nat.zero_mul,Nat.zero_add] at c1;rw [c1] at hj;cases hj;exact b6j c2
 ·rw [Nat.zero_mul,Nat.zero_add] at b1
  rw [hget q (by omega)];exact b1
 ·have hjl:j<(kinds P el).length:=(e6h.1 ht).1
  obtain ⟨u',c1,c2⟩:=b3 0 j t (by simp) ht (fun hh=>hj hh.2)
  rw [Nat.zero_mul,Nat.zero_add] at c1;exact ⟨u',by rw [hget j (by omega)];exact c1,c2⟩
theorem a59 {xs ys:List D} {i:Nat} (h:i<xs.length):(xs++ys).getD i (.i 0)=xs.getD i (.i 0):=by
 rw [e6d,e6p h,←e6d]
theorem a40 {xs ys:List D} {i:Nat} (h:xs.length≤i):(xs++ys).getD i (.i 0)=ys.getD (i-xs.length) (.i 0):=by
 rw [e6d,e6o h,←e6d]
theorem b8J (h:Rel P N n0 B M0 w0 F e0 env st a w) {key1 key2 q:Nat} {T ty el:TypeId} (hel:a0h P T=some el) {z:Value} {i:TypeInfo} (hi:P.info? el=some i) (hz:i.zero=some z) (hzs:z.cells.size=(kinds P el).length)
  {xs:List D} {c:C} {dd:D} (hg1:get st.mem key1=some (.row el true false xs)) (hg2:get st.mem key2=some (.krow el 0 q c [dd])) (hp:a1F c=true) (hroom:(xs.length+1)*a07 P el≤a0X) (hmax:xs.length+1≤a0c) (key:Nat) (hkey:¬F key):
  ∃v w' env',(Builtin.append_ #[T,T] ty #[(env key1).hdr,(env key2).hdr]).run P w= .ok v w'∧Rel P N n0 B M0 w0 F e0 env' (a0o key (.krow el xs.length q (inval key c) (xs++[dd])) {st with mem:=del (del st.mem key2) key1}) a w'∧v=(env' key).hdr:=by
 obtain ⟨hu,hs,hty,hpos⟩:=a0e hel;obtain ⟨_,⟨hn,_⟩|⟨_,hb0,cap,cur,h1,h2,h3,h4,h5,h6⟩⟩:=h.ob _ _ hg1
 ·cases hn
 obtain ⟨cap2,news,k1,k2,k3,k4,k5,⟨u,k6,k7⟩,k8⟩:=b8I h hg2 hp hpos;rw [k1];have hk:∀k ob,get (del (del st.mem key2) key1) k=some ob→get st.mem k=some ob∧k≠key1:=fun k ob hg=>by
  obtain ⟨p1,p2⟩:=a0p k ob hg;exact ⟨(a0p k ob p2).2,p1⟩
 have holdl:(cur.toList.take (xs.length*a0a P el)).length=xs.length*a0a P el:=by
  have:=Nat.mul_le_mul_right (a0a P el) h3;have hcl:cur.toList.length=cap*a0a P el:=by simpa using h5
  rw [List.length_take];omega
 obtain ⟨v,w',env',r1,r2,r3,_⟩:=b5p h hg1 (mem0:=del (del st.mem key2) key1) hk (ty:=ty) hel hi hz hzs h1 h2 h3 h4 h5 (fun x=>⟨rfl,rfl,.inl rfl⟩) rfl k2 k3 k4 (by omega) hroom hmax key hkey (.krow el xs.length q (inval key c) (xs++[dd])) (fun s b x hm=>hm) (fun e ex ys he=>by cases he)
  fun S' w' s cur' cap' hkp s0 sh s1 s2 s3 s4 s5=>by
   have hlen:(xs++[dd]).length=xs.length+1:=by simp
   refine ⟨hs,s0,by rw [hlen];omega,k5,cap',cur',by rw [hlen];exact sh,s1,by rw [hlen];exact s2,s3,s4,⟨u,?_,a0j.inval hkp key (fun k hk=>by simp [upd,hk]) k7⟩,fun i j t hi' ht hn=> ?_⟩
   ·rw [s5 (xs.length*a0a P el+q) (by rw [Nat.add_mul];omega),e6o (by rw [holdl];omega),holdl,Nat.add_sub_cancel_left];exact k6
   ·have hj:j<(kinds P el).length:=(e6h.1 ht).1
    rw [hlen] at hi';by_cases hix:i<xs.length
    ·obtain ⟨u',c1,c2⟩:=h6 i j t hix ht
     have hlt:=a54 (s:=a0a P el) (j:=j) hix (by omega)
     refine ⟨u',?_,by rw [a59 hix];exact c2.mono hkp⟩
     rw [s5 (i*a0a P el+j) (by rw [Nat.add_mul];omega),e6p (by rw [holdl];exact hlt),List.getElem?_take,if_pos hlt]
     simpa using c1
    ·have hie:i=xs.length:=by omega
     subst hie;obtain ⟨u',c1,c2⟩:=k8 j t ht (fun hq=>hn ⟨rfl,hq⟩)
     refine ⟨u',?_,by rw [a40 (Nat.le_refl _),Nat.sub_self];exact c2.mono hkp⟩
     rw [s5 (xs.length*a0a P el+j) (by rw [Nat.add_mul];omega),e6o (by rw [holdl];omega),holdl,Nat.add_sub_cancel_left];exact c1
 exact ⟨v,w',env',r1,r2,r3⟩
theorem b8K (h:Rel P N n0 B M0 w0 F e0 env st a w) {key2 q:Nat} {T ty el:TypeId} (hel:a0h P T=some el) {z:Value} {i:TypeInfo} (hi:P.info? el=some i) (hz:i.zero=some z) (hzs:z.cells.size=(kinds P el).length)
  {c:C} {dd:D} {mem0:AL Obj} (hsub:∀k ob,get mem0 k=some ob→get st.mem k=some ob) (hg2:get st.mem key2=some (.krow el 0 q c [dd])) (hp:a1F c=true) (hroom:1*a07 P el≤a0X) (key:Nat) (hkey:¬F key):
  ∃v w' env',(Builtin.append_ #[T,T] ty #[.slice none 0 0,(env key2).hdr]).run P w= .ok v w'∧Rel P N n0 B M0 w0 F e0 env' (a0o key (.krow el 0 q (inval key c) [dd]) {st with mem:=mem0}) a w'∧v=(env' key).hdr:=by
 obtain ⟨hu,hs,hty,hpos⟩:=a0e hel;have hsz:i.size=a0a P el:=by simp [a0a,hi]
 have hby:i.bytes=a07 P el:=by simp [a07,hi]
 obtain ⟨cap2,news,k1,k2,k3,k4,k5,⟨u,k6,k7⟩,k8⟩:=b8I h hg2 hp hpos;rw [k1];have hrun:=run_append_nil (P:=P) w T ty el i z hu hi hz ⟨(env key2).blk,0,none⟩ 1 cap2 news (by rw [k2,hsz]) k3 (by omega) (by omega) (by rw [hby];unfold a0X at hroom;omega)
 have hcap:=grownCap_ge w 1 0 el;have hcm:=grownCap_le_maxLen w 1 0 el (by unfold maxLen;omega)
 refine ⟨_,_,upd env key ⟨w.heap.size,0,some (1,grownCap w 1 0 el)⟩,hrun,?_,by simp [upd,a1J.hdr]⟩
 refine Rel.newBlock h hsub key hkey _ _ (.cells (news.toArray++Builtin.zeroCells z.cells (grownCap w 1 0 el-1)) el) (a04 w _) rfl fun S' hkp=> ?_
 have hg:∀j,j<a0a P el→(news.toArray++Builtin.zeroCells z.cells (grownCap w 1 0 el-1))[j]? =news[j]? :=fun j hj=>by
  rw [Array.getElem?_append_left (by simp only [List.size_toArray,k2];omega)];simp
 refine ⟨hs,rfl,by simp,k5,grownCap w 1 0 el,_,by simp [a1J.hdr],.of (by
   show (w.heap.push _)[w.heap.size]? =_;rw [Array.getElem?_push,if_pos rfl]),by simpa using hcap,hcm,?_,⟨u,?_,a0j.inval hkp key (fun k hk=>by simp [upd,hk]) k7⟩,fun i j t hi' ht hn=> ?_⟩
 ·simp only [Array.size_append,List.size_toArray,size_zeroCells,hzs,←hs,k2,←Nat.add_mul];congr 1;omega
 ·rw [Nat.zero_mul,Nat.zero_add,hg q (by omega)];exact k6
 ·have hj:j<(kinds P el).length:=(e6h.1 ht).1
  have hi0:i=0:=by simpa using hi'
  subst hi0;obtain ⟨u',c1,c2⟩:=k8 j t ht (fun hq=>hn ⟨rfl,hq⟩)
  exact ⟨u',by rw [Nat.zero_mul,Nat.zero_add,hg j (by omega)];exact c1,c2.mono hkp⟩
theorem b8L (h:Rel P N n0 B M0 w0 F e0 env st a w) {key1 k0 q:Nat} {T ty el:TypeId} (hel:a0h P T=some el) {z:Value} {i:TypeInfo} (hi:P.info? el=some i) (hz:i.zero=some z) (hzs:z.cells.size=(kinds P el).length)
  {xs ys:List D} {c:C} {vx:Value} (hg1:get st.mem key1=some (.krow el k0 q c xs)) (hsrc:Src P w (Sof P B M0 n0 env st.mem w) el ys vx) (hne:ys.isEmpty=false) (hroom:(xs.length+ys.length)*a07 P el≤a0X) (hmax:xs.length+ys.length≤a0c) (key:Nat) (hkey:¬F key):
  ∃v w' env',(Builtin.append_ #[T,T] ty #[(env key1).hdr,vx]).run P w= .ok v w'∧Rel P N n0 B M0 w0 F e0 env' (a0o key (.krow el k0 q (inval key c) (xs++ys)) {st with mem:=del st.mem key1}) a w'∧v=(env' key).hdr:=by
 obtain ⟨hu,hs,hty,hpos⟩:=a0e hel;obtain ⟨a1,a2,a3,a4,cap,cur,a5,a6,a7,a8,a9,⟨u,b1,b2⟩,b3⟩:=h.ob _ _ hg1;rcases hsrc.src with ⟨ao,c',rfl,rfl⟩|⟨b,o,c',rfl,hc⟩
 ·cases hne
 have hm:0<ys.length:=by cases ys with
  |nil=>cases hne
  |cons=>simp
 obtain ⟨news,q1,q2,q3,q4⟩:=a8U hs hpos hc;have holdl:(cur.toList.take (xs.length*a0a P el)).length=xs.length*a0a P el:=by
  have:=Nat.mul_le_mul_right (a0a P el) a7;have hcl:cur.toList.length=cap*a0a P el:=by simpa using a9
  rw [List.length_take];omega
 have hold:∀{i j:Nat} {u:Value},i<xs.length→j<a0a P el→cur[i*a0a P el+j]? =some u→ ∀{l:List Value},(cur.toList.take (xs.length*a0a P el)++l)[i*a0a P el+j]? =some u:=fun {i j u} hi hj hu l=>by
  have hlt:=a54 (s:=a0a P el) (j:=j) hi hj;rw [e6p (by rw [holdl];exact hlt),List.getElem?_take,if_pos hlt]
  simpa using hu
 obtain ⟨v,w',env',r1,r2,r3,_⟩:=b5p h hg1 (mem0:=del st.mem key1) (fun k ob hg=>⟨(a0p k ob hg).2,(a0p k ob hg).1⟩) (ty:=ty) hel hi hz hzs a5 a6 a7 a8 a9 (fun x=>rfl) trivial q1 q2 q3 hm hroom hmax key hkey (.krow el k0 q (inval key c) (xs++ys)) (fun s b x hm=>hm) (fun e ex ys he=>by cases he)
  fun S' w' s cur' cap' hkp s0 sh s1 s2 s3 s4 s5=>by
   have hlen:(xs++ys).length=xs.length+ys.length:=by simp
   refine ⟨hs,s0,by rw [hlen];omega,a4,cap',cur',by rw [hlen];exact sh,s1,by rw [hlen];exact s2,s3,s4,⟨u,?_,a0j.inval hkp key (fun k hk=>by simp [upd,hk]) b2⟩,fun i j t hi' ht hn=> ?_⟩
   ·have:=a54 (s:=a0a P el) (j:=q) a3 (by omega)
    rw [s5 (k0*a0a P el+q) (by rw [Nat.add_mul];omega)]
    exact hold a3 (by omega) b1
   ·have hj:j<(kinds P el).length:=(e6h.1 ht).1
    rw [hlen] at hi';by_cases hix:i<xs.length
    ·obtain ⟨u',c1,c2⟩:=b3 i j t hix ht hn
     have hlt:=a54 (s:=a0a P el) (j:=j) hix (by omega)
     refine ⟨u',?_,by rw [a59 hix];exact c2.mono hkp⟩
     rw [s5 (i*a0a P el+j) (by rw [Nat.add_mul];omega)]
     exact hold hix (by omega) c1
    ·obtain ⟨u',c1,c2⟩:=q4 (i-xs.length) j t (by omega) ht
     have he:i*a0a P el=xs.length*a0a P el+(i-xs.length)*a0a P el:=by rw [←Nat.add_mul];congr 1;omega
     have hlt:=a54 (s:=a0a P el) (i:=i-xs.length) (n:=ys.length) (j:=j) (by omega) (by omega)
     refine ⟨u',?_,by rw [a40 (by omega)];exact c2.mono hkp⟩
     rw [s5 (i*a0a P el+j) (by rw [Nat.add_mul];omega),e6o (by rw [holdl];omega),holdl,←c1]
     congr 1;omega
 exact ⟨v,w',env',r1,r2,r3⟩
theorem b8M:∀{cs:List C} {j q k:Nat},e0I cs j=some (q,k)→j≤q∧cs[q-j]? =some (.kp k)
 | [],_,_,_,h=>by cases h
 | c::r,j,q,k,h=>by
  have rest:e0I r (j+1)=some (q,k)→j≤q∧(c::r)[q-j]? =some (.kp k):=fun h=>by
   obtain ⟨h1,h2⟩:=b8M h;refine ⟨by omega,?_⟩
   rw [show q-j=(q-(j+1))+1 by omega,List.getElem?_cons_succ]
   exact h2
  cases c with
  |kp k'=>
   simp only [e0I,e55,e6q] at h;obtain ⟨rfl,rfl⟩:=h;exact ⟨Nat.le_refl _,by simp⟩
  |_=>exact rest h
theorem c0W {mem:AL Obj} {S:a0A} (hob:∀key o,get mem key=some o→a0x P env S w (env key) o) (hst:a0Y P env S mem) {el:TypeId} {cs:List C} {us:List Value} {q key:Nat} {dd:D} (hcs:All2 (a0j P env S w) cs us) (h:c90 P mem el cs=some (q,key,dd)) (hag:a0d P el=true):
  (kinds P el).length=us.length∧q<(kinds P el).length∧(∃u,us[q]? =some u∧a0j P env S w (.kp key) u)∧ ∀(j:Nat) (t:CK),(kinds P el)[j]? =some t→j≠q→ ∃u,us[j]? =some u∧a1D P w S t (elD P el dd j) u:=by
 unfold c90 at h;split at h
 ·rename_i q' key' hq
  split at h
  ·rename_i e' he
   split at h
   ·rename_i ds hds
    simp only [e55,e6q] at h;obtain ⟨rfl,rfl,rfl⟩:=h;obtain ⟨_,hq2⟩:=b8M hq;rw [Nat.sub_zero] at hq2;obtain ⟨u,hu,hc⟩:=hcs.get hq2;have hall:All2 (a0j P env S w) (cs.set q' (.sl e' true [])) (us.set q' (.slice none 0 0)):=b6i hcs q' (a1D.nil e' _ rfl rfl);obtain ⟨h1,h2⟩:=a6Z hob hst hall hds;rw [List.length_set] at h1;refine ⟨h1,(e6h.1 he).1,⟨u,hu,hc⟩,fun j t ht hj=> ?_⟩
    obtain ⟨v,v1,v2⟩:=h2 j t ht;rw [List.getElem?_set_ne (Ne.symm hj)] at v1;refine ⟨v,v1,?_⟩;unfold elD;rw [hag];exact v2
   ·cases h
  ·cases h
 ·cases h
theorem b0r {R:Type} {d:Nat} {T el:TypeId} {parts:Array (Nat×Operand)} {z:D} {cs:List C} {q key:Nat} {dd:D} {k:St→Option R} {r:R} {o:Oper} {Q:Exit→Act→World→Prop} (h:Rel P N n0 B M0 w0 F e0 env st a w) (hd:d<N) (hF:¬F (kb+d)) (ho:o.op= .buildSlice T 1 parts) (hdst:o.dst=some d)
  (hel:a0h P T=some el) (hz:a2U P el=some z) (hps:(parts.toList.map fun (i,x)=>(i,evu st x))=[(0,.g cs)]) (hkd:c90 P st.mem el cs=some (q,key,dd)) (hag:a0d P el=true) (hlen:cs.length=a0a P el) (hn:a0a P el≤16777216)
  (hk:k ((a0o (kb+d) (.krow el 0 q (inval (kb+d) (.kp key)) [dd]) st).put (some d) (.c (.o (kb+d))))=some r):o.wp P a w (a0P P N n0 B M0 w0 F e0 k r) Q:=by
 obtain ⟨hu,hs,hty,hpos⟩:=a0e hel;obtain ⟨v,hrun,_,hvs,hvc⟩:=a08 hz;have hpe:=c2w h.evu parts.toList;rw [hps] at hpe;have hpl:∃y,parts.toList.map (fun (i,x)=>(i,a.eval x))=[(0,y)]∧a0s P env (Sof P B M0 n0 env st.mem w) w (.g cs) y:=by
  generalize parts.toList.map (fun (i,x)=>(i,a.eval x))=l at hpe
  match l,hpe with
  | [],hpe=>exact False.elim hpe
  | [(j,y)],hpe=>
   have e1:0=j:=hpe.1.1;subst e1;exact ⟨y,rfl,hpe.1.2⟩
  |_::_::_,hpe=>exact False.elim hpe.2
 obtain ⟨y,hl1,hv⟩:=hpl;obtain ⟨vs,rfl,hall⟩:=hv;obtain ⟨k1,k2,⟨u,k3,k4⟩,k5⟩:=c0W h.ob h.rows hall hkd hag;have hvl:vs.size=a0a P el:=by rw [←Array.length_toList,←k1,hs]
 have hcur0:((Array.range (1*a0a P el)).map (v.cells[· %v.cells.size]!)).size=a0a P el:=by simp
 generalize hc0:(Array.range (1*a0a P el)).map (v.cells[· %v.cells.size]!)=cur0 at hcur0
 have hfill:Instr.fill (fun i=>some (i*a0a P el,a0a P el)) cur0 (parts.toList.map (fun (i,x)=>(i,a.eval x)))=some vs:=by
  rw [hl1];simp only [Instr.fill];have hcells:(Value.agg vs).cells=vs:=rfl;rw [hcells,if_neg (by
   intro hh;rw [Bool.or_eq_true,decide_eq_true_eq,decide_eq_true_eq] at hh;rcases hh with hh|hh
   ·exact hh (by omega)
   ·omega)]
  congr 1
  rw [←Array.toList_inj];have:=a8O (0*a0a P el) vs.toList 0 cur0 (by simp;omega)
  rw [←Array.foldl_toList,Array.toList_zipIdx];have h2:(List.foldl (fun cs x=>cs.setIfInBounds (0*a0a P el+x.snd) x.fst) cur0 vs.toList.zipIdx).toList=cur0.toList.take (0*a0a P el)++vs.toList++cur0.toList.drop (0*a0a P el+vs.toList.length):=by simpa using this
  rw [h2];have h3:cur0.toList.drop (0*a0a P el+vs.toList.length)=[]:=List.drop_eq_nil_of_le (by simp;omega)
  rw [h3];simp
 refine a0z (v:= .slice (some ⟨w.heap.size,0,none⟩) 1 1) (w':=push w (.cells vs el)) ?_ ?_
 ·simp only [execOp,ho,e6b]
  have hrow:(newRow el vs).run P w= .ok ⟨w.heap.size,0,none⟩ (push w (.cells vs el)):=by simp [Go.newRow,push]
  simp only [Instr.buildSlice,e6b,run_underlying hu,e58,a0J hty,if_neg (show¬1*a0a P el>2^24 by omega),e6c]
  rw [if_neg (show¬1*a0a P el=0 by omega)]
  simp only [e6b,hrun w,e6c,e58];rw [hc0,Array.toList_map,hfill];simp only [e6b,e6c,e58,hrow]
 ·have hnb:=Rel.newBlock h (mem0:=st.mem) (fun _ _ hg=>hg) (kb+d) hF (.krow el 0 q (inval (kb+d) (.kp key)) [dd]) (some (1,1)) (.cells vs el) (a3Q _ w _) rfl fun S' hkp=>by
   refine ⟨hs,rfl,by simp,k2,1,vs,by simp [a1J.hdr],.of a5F,by simp,by unfold maxLen;omega,by omega,⟨u,?_,a0j.inval hkp (kb+d) (fun k hk=>by simp [upd,hk]) k4⟩,fun i j t hi ht hn=> ?_⟩
   ·rw [Nat.zero_mul,Nat.zero_add];simpa using k3
   ·have hi0:i=0:=by simpa using hi
    subst hi0;obtain ⟨u',c1,c2⟩:=k5 j t ht (fun hq=>hn ⟨rfl,hq⟩)
    exact ⟨u',by rw [Nat.zero_mul,Nat.zero_add];simpa using c1,c2.mono hkp⟩
  rw [hdst];refine ⟨_,_,hnb.put (fun _ hdd=>by cases hdd;exact hd) ?_,hk⟩
  simp [a0l,a0s,a0j,upd,a1J.hdr]
end
section
variable {P:Program} {N n0 kb:Nat} {F:Nat→Prop} {B M0:a0A} {w0:World} {e0:a6l} {env:Env} {st:St} {a:Act} {w:World}
theorem b3z {R:Type} {d:Nat} {T el:TypeId} {l c:Operand} {n m:Int} {z:D} {k:St→Option R} {r:R} {o:Oper} {Q:Exit→Act→World→Prop} (h:Rel P N n0 B M0 w0 F e0 env st a w) (hd:d<N) (hF:¬F (kb+d)) (ho:o.op= .makeSlice T l c) (hdst:o.dst=some d)
  (hel:a0h P T=some el) (hl:evu st l= .c (.i .i64 n)) (hc:evu st c= .c (.i .i64 m)) (hz:a2U P el=some z) (h0:0≤n) (h1:n≤m) (h2:a0V P el m.toNat=true)
  (hk:k ((a0o (kb+d) (.row el true false (List.replicate n.toNat z)) st).put (some d) (.c (.o (kb+d))))=some r):o.wp P a w (a0P P N n0 B M0 w0 F e0 k r) Q:=by
 obtain ⟨hu,hs,hty,hpos⟩:=a0e hel;obtain ⟨v,hrun,⟨i,hi,hiz⟩,hvs,hvc⟩:=a08 hz;have hlv:a.eval l= .int .i64 n:=by have:=h.evu l;rw [hl] at this;exact this
 have hcv:a.eval c= .int .i64 m:=by have:=h.evu c;rw [hc] at this;exact this
 have hsz:i.size=a0a P el:=by simp [a0a,hi]
 have hby:i.bytes=a07 P el:=by simp [a07,hi]
 unfold a0V at h2;simp only [e57,decide_eq_true_eq] at h2;obtain ⟨h3,h4⟩:=h2;unfold a0c at h4;unfold a0X at h3;have em:(m.toNat:Int)=m:=Int.toNat_of_nonneg (by omega)
 have hbm:(i.bytes:Int)*m≤140737488355328:=by
  have h5:((m.toNat*a07 P el:Nat):Int)≤((140737488355328:Nat):Int):=Int.ofNat_le.2 h3;rw [Int.natCast_mul,em] at h5;rw [hby,Int.mul_comm];exact h5
 have hmk:=run_make (P:=P) w T el i v hu hi hiz .i64 .i64 n m h0 h1 (by omega) (by omega)
 rw [hsz] at hmk;refine a0z (v:= .slice (some ⟨w.heap.size,0,none⟩) n.toNat m.toNat) (w':=push w (.cells ((Array.range (m.toNat*a0a P el)).map (v.cells[· %v.cells.size]!)) el)) ?_ ?_
 ·have hex:execOp a.eval o=(do pure (.value (←Instr.makeSlice T (a.eval l) (a.eval c))):Sem Next):=by unfold execOp;rw [ho]
  rw [hex,hlv,hcv,e6b,hmk];rfl
 ·have hr:=b11 (w:=w) hs hvs (hvc w (Sof P B M0 n0 env st.mem w)) n.toNat m.toNat (by omega)
  have hrel:=a2y h (mem0:=st.mem) (fun _ _ hg=>hg) (kb+d) hF (ex:=true) (xs:=List.replicate n.toNat z) (cap:=m.toNat) (w':=push w (.cells ((Array.range (m.toNat*a0a P el)).map (v.cells[· %v.cells.size]!)) el)) (a3Q _ w _) rfl hs (by simp;omega) (by unfold maxLen;omega) (by simp) hr
  rw [hdst];refine ⟨_,_,hrel.put (fun _ hdd=>by cases hdd;exact hd) ?_,hk⟩
  simp [a0l,a0s,a0j,upd,a1J.hdr]
theorem b0s {R:Type} {d:Nat} {c:Call} {s x:Operand} {T T' el:TypeId} {kk ik:IntKind} {n:Int} {z:D} {k:St→Option R} {r:R} {o:Oper} {Q:Exit→Act→World→Prop}
  (h:Rel P N n0 B M0 w0 F e0 env st a w) (hd:d<N) (hF:¬F (kb+d)) (ho:o.op= .call c) (hdst:o.dst=some d) (hc:c.callee= .builtin .append) (ha:c.args.toList=[s,x]) (ht:c.argTypes.toList=[T,T'])
  (hel:a0h P T=some el) (hu':P.underlying T'=some (.int ik)) (hs:a.eval s= .slice none 0 0) (hx:evu st x= .c (.i kk n)) (hz:a2U P el=some z) (h0:0≤n) (h2:a0V P el n.toNat=true)
  (hk:k ((a0o (kb+d) (.row el true (Nat.beq n.toNat 0) (List.replicate n.toNat z)) st).put (some d) (.c (.o (kb+d))))=some r):o.wp P a w (a0P P N n0 B M0 w0 F e0 k r) Q:=by
 obtain ⟨hu,hsl,hty,hpos⟩:=a0e hel;obtain ⟨v,hrun,⟨i,hi,hiz⟩,hvs,hvc⟩:=a08 hz;have hxv:a.eval x= .int kk n:=by have:=h.evu x;rw [hx] at this;exact this
 have hsz:i.size=a0a P el:=by simp [a0a,hi]
 have hby:i.bytes=a07 P el:=by simp [a07,hi]
 have ha':c.args= #[s,x]:=by rw [←Array.toList_inj];exact ha
 have ht':c.argTypes= #[T,T']:=by rw [←Array.toList_inj];exact ht
 have hexec:∀{v:Value} {w':World},(Builtin.append_ #[T,T'] o.type #[a.eval s,a.eval x]).run P w= .ok v w'→(execOp a.eval o).run P w= .ok (.value v) w':=by
  intro v w' hr;simp only [execOp,ho,resolve,hc,ha',ht',e6b,e6c,e58,invoke,builtin,List.map_toArray,List.map_cons,List.map_nil,hr]
 unfold a0V at h2;simp only [e57,decide_eq_true_eq] at h2;obtain ⟨h3,h4⟩:=h2;unfold a0c at h4;unfold a0X at h3;obtain ⟨m,rfl⟩:=Int.eq_ofNat_of_zero_le h0;rw [Int.toNat_natCast] at h3 h4 hk;have fin:∀{v:Value} {w':World} {env':Env},(Builtin.append_ #[T,T'] o.type #[a.eval s,a.eval x]).run P w= .ok v w'→Rel P N n0 B M0 w0 F e0 env' (a0o (kb+d) (.row el true (Nat.beq m 0) (List.replicate m z)) st) a w'→v=(env' (kb+d)).hdr→o.wp P a w (a0P P N n0 B M0 w0 F e0 k r) Q:=by
  intro v w' env' h1 h2 h3;refine a0z (hexec h1) ?_;rw [hdst];exact ⟨env',_,h2.put (fun _ hdd=>by cases hdd;exact hd) (a0l.of (x:= .c (.o (kb+d))) h3),hk⟩
 cases m with
 |zero=>
  refine fin (v:= .slice none 0 0) (w':=w) (env':=upd env (kb+d) ⟨0,0,none⟩) ?_ (a33 h (mem0:=st.mem) (fun _ _ hg=>hg) (kb+d) hF hsl) (by simp [upd,a1J.hdr])
  rw [hs,hxv];have h48:¬((i.bytes:Int)*0>281474976710656):=by omega
  simp [Builtin.append_,run_underlying hu,run_underlying hu',sizeOf,typeInfo,hi,asInt,asIntOf,IntKind.wrap_i64]
 | succ m=>
  have hap:=Lib.run_append_nil_zeros (P:=P) w T T' o.type el i v kk ik hu hu' hi hiz (m+1) (by omega) (by rw [hsz];exact hpos) (by omega) (by rw [hby];omega)
  have hcap:=grownCap_ge w (m+1) 0 el;have hcm:=grownCap_le_maxLen w (m+1) 0 el (by unfold maxLen;omega)
  have hr0:=b11 (w:=w) hsl hvs (hvc w (Sof P B M0 n0 env st.mem w)) (m+1) (m+1) (Nat.le_refl _);have hrel:=a2y h (mem0:=st.mem) (fun _ _ hg=>hg) (kb+d) hF (ex:=true) (xs:=List.replicate (m+1) z) (cap:=grownCap w (m+1) 0 el) (w':=w.drew.alloc (.cells (Builtin.zeroCells v.cells (m+1)++Builtin.zeroCells v.cells (grownCap w (m+1) 0 el-(m+1))) el)) (a04 w _) rfl hsl (by simp;omega) hcm (by
   simp only [Array.size_append,size_zeroCells,hvs,←hsl,←Nat.add_mul];congr 1;omega) (by
   intro i' j k' hi' hk';obtain ⟨u,hu1,hu2⟩:=hr0 i' j k' hi' hk';refine ⟨u,?_,hu2⟩;have hlt:=(e6f.1 hu1).1;have hzc:Builtin.zeroCells v.cells (m+1)=(Array.range ((m+1)*a0a P el)).map (v.cells[· %v.cells.size]!):=by
    unfold Builtin.zeroCells;rw [hvs,hsl]
   rw [hzc,Array.getElem?_append_left hlt];exact hu1)
  refine fin (v:= .slice (some ⟨w.heap.size,0,none⟩) (m+1) (grownCap w (m+1) 0 el)) ?_ (env':=upd env (kb+d) ⟨w.heap.size,0,some (m+1,grownCap w (m+1) 0 el)⟩) (by rw [List.length_replicate] at hrel;exact hrel) (by simp [upd,a1J.hdr])
  rw [hs,hxv];exact hap
theorem c6S (h:Rel P N n0 B M0 w0 F e0 env st a w) {key0:Nat} {T el:TypeId} (hel:a0h P T=some el) {ex:Bool} {xs:List D} (hg:get st.mem key0=some (.row el ex false xs)) {z:Value} (hzs:z.cells.size=(kinds P el).length)
  {ys:List D} {news:List Value} (hnl:news.length=ys.length*a0a P el) (hnews:∀(i j:Nat) (k:CK),i<ys.length→(kinds P el)[j]? =some k→ ∃u,news[i*a0a P el+j]? =some u∧a1D P w (Sof P B M0 n0 env st.mem w) k (elD P el (ys.getD i (.i 0)) j) u) (key:Nat) (hkey:¬F key):
  ∃cap cur fr,(env key0).hdr= .slice (some ⟨(env key0).blk,0,none⟩) xs.length cap∧w.heap[(env key0).blk]? =some (.cells cur el fr)∧d4a fr cur.size∧xs.length≤cap∧cap≤maxLen∧cur.size=cap*a0a P el∧(cur.toList.take (xs.length*a0a P el)).length=xs.length*a0a P el∧
   (xs.length+ys.length≤cap→Rel P N n0 B M0 w0 F e0 (upd env key ⟨(env key0).blk,0,some (xs.length+ys.length,cap)⟩) (a0o key (.row el ex false (xs++ys)) {st with mem:=del st.mem key0}) a
     (w.setRow (env key0).blk (cur.toList.take (xs.length*a0a P el)++news++cur.toList.drop (xs.length*a0a P el+news.length)).toArray))∧
   (∀c',xs.length+ys.length≤c'→c'≤maxLen→Rel P N n0 B M0 w0 F e0 (upd env key ⟨w.heap.size,0,some (xs.length+ys.length,c')⟩) (a0o key (.row el ex false (xs++ys)) {st with mem:=del st.mem key0}) a
     (w.drew.alloc (.cells ((cur.toList.take (xs.length*a0a P el)).toArray++news.toArray++Builtin.zeroCells z.cells (c'-(xs.length+ys.length))) el))):=by
 obtain ⟨hu,hs,hty,hpos⟩:=a0e hel;obtain ⟨_,⟨hn,_⟩|⟨_,hb0,cap,cur,h1,h2,h3,h4,h5,h6⟩⟩:=h.ob _ _ hg
 ·cases hn
 ·obtain ⟨fr,hfr,h2⟩:=h2
  have hsub:∀k ob,get (del st.mem key0) k=some ob→get st.mem k=some ob:=fun k ob hk=>(a0p k ob hk).2
  have holdl:(cur.toList.take (xs.length*a0a P el)).length=xs.length*a0a P el:=by
   have:=Nat.mul_le_mul_right (a0a P el) h3;have hcl:cur.toList.length=cap*a0a P el:=by simpa using h5
   rw [List.length_take];omega
  have holds:∀(i j:Nat) (k:CK),i<xs.length→(kinds P el)[j]? =some k→ ∃u,(cur.toList.take (xs.length*a0a P el))[i*a0a P el+j]? =some u∧a1D P w (Sof P B M0 n0 env st.mem w) k (elD P el (xs.getD i (.i 0)) j) u:=by
   intro i j k hi hk;obtain ⟨u,hu,hr⟩:=h6 i j k hi hk;have hj:j<(kinds P el).length:=(e6h.1 hk).1;refine ⟨u,?_,hr⟩;rw [List.getElem?_take,if_pos (a54 hi (by omega))]
   simpa using hu
  refine ⟨cap,cur,fr,h1,h2,hfr,h3,h4,h5,holdl,?_,?_⟩
  ·intro hcap
   have hfit:xs.length*a0a P el+news.length≤cur.size:=by rw [hnl,←Nat.add_mul,h5];exact Nat.mul_le_mul_right _ hcap
   have hmut0:∀x,xs.length*a0a P el≤x→a3B P (env key0) (.row el ex false xs) (env key0).blk x:=fun x hx=>⟨rfl,rfl,.inr hx⟩
   refine Rel.new h hsub key hkey _ _ (fun b x=>b=(env key0).blk∧xs.length*a0a P el≤x∧x<xs.length*a0a P el+news.length) ?_ ?_ ?_ ?_ ?_ ?_ ?_
   ·refine a3a h2 (by simp;omega) fun x hx=> ?_
    rw [a2G hfit,if_neg (fun hc=>hx ⟨rfl,hc⟩)]
   ·rintro b x ⟨rfl,hx,_⟩;exact ⟨key0,_,hg,hmut0 x hx⟩
   ·intro k ob _ hk hr
    obtain ⟨hk1,hk2⟩:=a0p k ob hk;exact setRow_other _ _ _ _ (h.ds k key0 ob _ hk2 hg hr rfl hk1)
   ·intro hk
    refine ⟨hs,.inr ⟨rfl,rfl,cap,_,by simp [a1J.hdr],a6u hfr h2 (by simp;omega),by simpa using hcap,h4,by rw [←h5];simp;omega,?_⟩⟩
    have hrc:a2m P w (Sof P B M0 n0 env st.mem w) el (xs++ys) (cur.toList.take (xs.length*a0a P el)++news++cur.toList.drop (xs.length*a0a P el+news.length)).toArray:=
     a09 holds holdl hnews hnl fun q hq=>by
      rw [List.getElem?_toArray,e6p (by simpa using hq)]
    exact hrc.mono hk
   ·intro b x hm
    obtain ⟨_,rfl,hm⟩:=hm;refine .inr ⟨key0,_,hg,rfl,rfl,?_⟩;rcases hm with hm|hm
    ·exact .inl hm
    ·refine .inr ?_
     rw [e6l,Nat.add_mul] at hm;omega
   ·intro _ k ob _ hk hr
    obtain ⟨hk1,hk2⟩:=a0p k ob hk;exact h.ds k key0 ob _ hk2 hg hr rfl hk1
   ·intro e' ex' xs' he x hx
    simp only [Obj.row.injEq] at he;obtain ⟨rfl,_,_,rfl⟩:=he;by_cases hlt:x<xs.length*a0a P el
    ·exact h.pr key0 el ex xs hg x hlt
    ·rcases h.mu key0 _ _ x hg (hmut0 x (by omega)) with h7|h7
     ·exact .inr (.inr h7)
     ·exact .inr (.inl h7)
  ·intro c' hc1 hc2
   have hrel:=a2y (w':=w.drew.alloc (.cells ((cur.toList.take (xs.length*a0a P el)).toArray++news.toArray++Builtin.zeroCells z.cells (c'-(xs.length+ys.length))) el)) (cap:=c') (ex:=ex) (xs:=xs++ys) h hsub key hkey (a04 w _) rfl hs (by simpa using hc1) hc2 (by
    simp only [Array.size_append,List.size_toArray,size_zeroCells,hzs,←hs,hnl,holdl,←Nat.add_mul];congr 1;omega) (by
    refine a09 holds holdl hnews hnl fun q hq=> ?_
    rw [Array.getElem?_append_left (by simpa using hq)]
    simp [Array.getElem?_append,List.getElem?_append])
   rw [e6l] at hrel;exact hrel
theorem b5q {el:TypeId} (h8:b4W P el=true) (hs1:a0a P el=1) (l:List UInt8) {S:a0A}:(Lib.strCells ⟨l.toArray⟩).length=(a0T l).length*a0a P el∧
  ∀(i j:Nat) (k:CK),i<(a0T l).length→(kinds P el)[j]? =some k→ ∃u,(Lib.strCells ⟨l.toArray⟩)[i*a0a P el+j]? =some u∧a1D P w S k (elD P el ((a0T l).getD i (.i 0)) j) u:=by
 obtain ⟨hkk,ha⟩:=a61 h8;refine ⟨by simp [Lib.strCells,a0T,hs1],fun i j k hi hk=> ?_⟩
 rw [hkk] at hk;have hj0:j=0∧k= .int .u8:=by
  cases j with
  |zero=>simp at hk;exact ⟨rfl,hk.symm⟩
  |succ j=>simp at hk
 obtain ⟨rfl,rfl⟩:=hj0;have hi':i<l.length:=by simpa [a0T] using hi
 refine ⟨.int .u8 ((l[i]).toNat:Int),by rw [hs1];simp [Lib.strCells,hi'],?_⟩
 have:(a0T l).getD i (.i 0)= .i ((l[i]).toNat:Int):=by
  rw [e6d];simp [a0T,c9W,hi']
 unfold elD;rw [ha,this];exact .int .u8 (.i ((l[i]).toNat:Int))
section
variable {R:Type} {d:Nat} {c:Call} {s x:Operand} {T T' el:TypeId} {k:St→Option R} {r:R} {o:Oper} {Q:Exit→Act→World→Prop}
theorem c0X (ho:o.op= .call c) (hc:c.callee= .builtin .append) (ha:c.args.toList=[s,x]) (ht:c.argTypes.toList=[T,T']) {v:Value} {w':World} (hr:(Builtin.append_ #[T,T'] o.type #[a.eval s,a.eval x]).run P w= .ok v w'):(execOp a.eval o).run P w= .ok (.value v) w':=by
 have ha':c.args= #[s,x]:=by rw [←Array.toList_inj];exact ha
 have ht':c.argTypes= #[T,T']:=by rw [←Array.toList_inj];exact ht
 simp only [execOp,ho,resolve,hc,ha',ht',e6b,e6c,e58,invoke,builtin,List.map_toArray,List.map_cons,List.map_nil,hr]
theorem a34 (hd:d<N) (hdst:o.dst=some d) (ho:o.op= .call c) (hc:c.callee= .builtin .append) (ha:c.args.toList=[s,x]) (ht:c.argTypes.toList=[T,T']) {v:Value} {w':World} {env':Env} {o':Obj} {mem0:AL Obj} (h1:(Builtin.append_ #[T,T'] o.type #[a.eval s,a.eval x]).run P w= .ok v w') (h2:Rel P N n0 B M0 w0 F e0 env' (a0o (kb+d) o' {st with mem:=mem0}) a w') (h3:v=(env' (kb+d)).hdr)
  (hk:k ((a0o (kb+d) o' {st with mem:=mem0}).put (some d) (.c (.o (kb+d))))=some r):o.wp P a w (a0P P N n0 B M0 w0 F e0 k r) Q:=by
 refine a0z (c0X ho hc ha ht h1) ?_;rw [hdst];exact ⟨env',_,h2.put (fun _ hdd=>by cases hdd;exact hd) (a0l.of (x:= .c (.o (kb+d))) h3),hk⟩
theorem a4z {l:List UInt8} (h:Rel P N n0 B M0 w0 F e0 env st a w) (hd:d<N) (hF:¬F (kb+d)) (ho:o.op= .call c) (hdst:o.dst=some d) (hc:c.callee= .builtin .append) (ha:c.args.toList=[s,x]) (ht:c.argTypes.toList=[T,T'])
  (hel:a0h P T=some el) (hu':P.underlying T'=some .string) (hs:a.eval s= .slice none 0 0) (hx:evu st x= .c (.s l)) {z:D} (hz:a2U P el=some z) (h8:b4W P el=true) (h2:a0V P el l.length=true) (ex:Bool) {mem0:AL Obj} (hsub:∀k ob,get mem0 k=some ob→get st.mem k=some ob)
  (hk:k ((a0o (kb+d) (.row el ex l.isEmpty (a0T l)) {st with mem:=mem0}).put (some d) (.c (.o (kb+d))))=some r):o.wp P a w (a0P P N n0 B M0 w0 F e0 k r) Q:=by
 obtain ⟨hu,hsl,hty,hpos⟩:=a0e hel;obtain ⟨v,hrun,⟨i,hi,hiz⟩,hvs,hvc⟩:=a08 hz;obtain ⟨hkk,hagg⟩:=a61 h8;have hs1:a0a P el=1:=by rw [hsl,hkk];rfl
 have hsz:i.size=a0a P el:=by simp [a0a,hi]
 have hby:i.bytes=a07 P el:=by simp [a07,hi]
 have hxv:a.eval x= .string ⟨l.toArray⟩:=by have:=h.evu x;rw [hx] at this;exact this
 have hsize:(⟨l.toArray⟩:ByteArray).size=l.length:=by simp [ByteArray.size]
 unfold a0V at h2;simp only [e57,decide_eq_true_eq] at h2;obtain ⟨h3,h4⟩:=h2;unfold a0c at h4;unfold a0X at h3;cases hl:l with
 |nil=>
  subst hl;refine a34 hd hdst ho hc ha ht (v:= .slice none 0 0) (w':=w) (env':=upd env (kb+d) ⟨0,0,none⟩) ?_ (a33 h hsub (kb+d) hF hsl) (by simp [upd,a1J.hdr]) hk
  rw [hs,hxv];simp [Builtin.append_,run_underlying hu,run_underlying hu',sizeOf,typeInfo,hi,Builtin.lenOf,Builtin.firstCells,ByteArray.size]
 | cons b r'=>
  have hne:0<l.length:=by rw [hl];simp
  have hrun:=run_append_nil_string (P:=P) w T T' o.type el i v hu hu' hi hiz ⟨l.toArray⟩ (by omega) (by omega) (by rw [hsize,hby];omega)
  rw [hsize] at hrun;have hcap:=grownCap_ge w l.length 0 el;have hcm:=grownCap_le_maxLen w l.length 0 el (by unfold maxLen;omega)
  obtain ⟨nl1,nl2⟩:=b5q (P:=P) (w:=w) h8 hs1 l (S:=Sof P B M0 n0 env st.mem w);have hbl:(a0T l).length=l.length:=by simp [a0T]
  have hemp:l.isEmpty=false:=by rw [hl];rfl
  rw [hemp] at hk;have hcells:(⟨l.toArray⟩:ByteArray).data.map (fun b=>Value.int .u8 b.toNat)=(Lib.strCells ⟨l.toArray⟩).toArray:=by simp [Lib.strCells]
  rw [hcells] at hrun;refine a34 hd hdst ho hc ha ht (env':=upd env (kb+d) ⟨w.heap.size,0,some (l.length,grownCap w l.length 0 el)⟩) (by rw [hs,hxv];exact hrun) ?_ (by simp [upd,a1J.hdr]) hk
  have hrel:=a2y (w':=w.drew.alloc (.cells ((Lib.strCells ⟨l.toArray⟩).toArray++Builtin.zeroCells v.cells (grownCap w l.length 0 el-l.length)) el)) (cap:=grownCap w l.length 0 el) (ex:=ex) (xs:=a0T l) h hsub (kb+d) hF (a04 w _) rfl hsl (by rw [hbl];exact hcap) hcm (by
   simp only [Array.size_append,List.size_toArray,size_zeroCells,hvs,←hsl,nl1,hbl,←Nat.add_mul];congr 1;omega) (by
   have:=a09 (xs:=[]) (olds:=[]) (cur:=(Lib.strCells ⟨l.toArray⟩).toArray++Builtin.zeroCells v.cells (grownCap w l.length 0 el-l.length)) (fun i j k hi=>by simp at hi) (by simp) nl2 nl1 (by
    intro q hq;simp only [List.nil_append,List.length_nil,Nat.zero_add] at hq⊢;rw [Array.getElem?_append_left (by simpa using hq)]
    simp)
   simpa using this)
  rw [hbl] at hrel;exact hrel
theorem b3A {key:Nat} {ex nl:Bool} {xs:List D} {l:List UInt8} (h:Rel P N n0 B M0 w0 F e0 env st a w) (hd:d<N) (hF:¬F (kb+d)) (ho:o.op= .call c) (hdst:o.dst=some d) (hc:c.callee= .builtin .append) (ha:c.args.toList=[s,x]) (ht:c.argTypes.toList=[T,T'])
  (hel:a0h P T=some el) (hu':P.underlying T'=some .string) (hes:evu st s= .c (.o key)) (hx:evu st x= .c (.s l)) (hg:get st.mem key=some (.row el ex nl xs)) {z:D} (hz:a2U P el=some z) (h8:b4W P el=true) (h2:a0V P el (xs.length+l.length)=true)
  (hk:k ((a0o (kb+d) (.row el ex (l.isEmpty&&nl) (xs++a0T l)) {st with mem:=del st.mem key}).put (some d) (.c (.o (kb+d))))=some r):o.wp P a w (a0P P N n0 B M0 w0 F e0 k r) Q:=by
 have hsv:a.eval s=(env key).hdr:=by have:=h.evu s;rw [hes] at this;exact this
 cases nl with
 | true=>
  obtain ⟨_,⟨_,rfl,hnil⟩|⟨hf,_⟩⟩:=h.ob _ _ hg
  ·rw [List.length_nil,Nat.zero_add] at h2
   refine a4z h hd hF ho hdst hc ha ht hel hu' (hsv.trans hnil) hx hz h8 h2 ex (mem0:=del st.mem key) (fun k ob hgk=>(a0p k ob hgk).2) ?_
   simpa using hk
  ·cases hf
 |false=>
 obtain ⟨hu,hsl,hty,hpos⟩:=a0e hel;obtain ⟨v,hrun,⟨i,hi,hiz⟩,hvs,hvc⟩:=a08 hz;obtain ⟨hkk,hagg⟩:=a61 h8;have hs1:a0a P el=1:=by rw [hsl,hkk];rfl
 have hsz:i.size=a0a P el:=by simp [a0a,hi]
 have hby:i.bytes=a07 P el:=by simp [a07,hi]
 have hxv:a.eval x= .string ⟨l.toArray⟩:=by have:=h.evu x;rw [hx] at this;exact this
 have hsize:(⟨l.toArray⟩:ByteArray).size=l.length:=by simp [ByteArray.size]
 unfold a0V at h2;simp only [e57,decide_eq_true_eq] at h2;obtain ⟨h3,h4⟩:=h2;obtain ⟨nl1,nl2⟩:=b5q (P:=P) (w:=w) h8 hs1 l (S:=Sof P B M0 n0 env st.mem w);have hbl:(a0T l).length=l.length:=by simp [a0T]
 obtain ⟨cap,cur,fr,q1,q2,q3,q4,q5,q6,q7,q8,q9⟩:=c6S h hel hg hvs nl1 nl2 (kb+d) hF;rw [hbl] at q8 q9;have hand:(l.isEmpty&&false)=false:=by simp
 rw [hand] at hk;have hsl':(Lib.strCells ⟨l.toArray⟩).length=l.length:=by rw [nl1,hbl,hs1,Nat.mul_one]
 by_cases hfitc:xs.length+l.length≤cap
 ·refine a34 (v:= .slice (some ⟨(env key).blk,0,none⟩) (xs.length+l.length) cap) hd hdst ho hc ha ht ?_ (q8 hfitc) (by simp [upd,a1J.hdr]) hk
  rw [hsv,hxv,q1];have hf:=Lib.run_firstCells_string (P:=P) w 1 ⟨l.toArray⟩;have hst:=a05 P (env key).blk xs.length el fr (Lib.strCells ⟨l.toArray⟩) 0 cur w q2 q3 (by rw [hsl',q6,hs1];omega) (Lib.strCells_oneCell _)
  simp only [Nat.add_zero] at hst;rw [hs1] at hsz;rw [hsize] at hf;simp [Builtin.append_,run_underlying hu,run_underlying hu',sizeOf,typeInfo,hi,hsz,Builtin.lenOf,hsize,hfitc,hf,Addr.add_lit,hst,hs1]
 ·refine a34 (v:= .slice (some ⟨w.heap.size,0,none⟩) (xs.length+l.length) (grownCap w (xs.length+l.length) cap el)) hd hdst ho hc ha ht ?_ (q9 (grownCap w (xs.length+l.length) cap el) (grownCap_ge w (xs.length+l.length) cap el) (grownCap_le_maxLen w (xs.length+l.length) cap el (by unfold a0c at h4;unfold maxLen;omega))) (by simp [upd,a1J.hdr]) hk
  rw [hsv,hxv,q1];have hrun:=Lib.run_append_grow_string (P:=P) w T T' o.type el i v hu hu' hi hiz ⟨(env key).blk,0,none⟩ xs.length cap (cur.toList.take (xs.length*a0a P el)) (by rw [q7,hsz]) (fun j v hv=>by
   rw [Addr.add_lit,Nat.zero_add];rw [List.getElem?_take] at hv;split at hv
   ·exact a2Y q2 (by simpa using hv)
   ·cases hv) ⟨l.toArray⟩ (by rw [hsize];omega) (by rw [hsize];unfold a0c at h4;omega) (by rw [hsize];exact growslice_fits (by omega) (by rw [hby];exact h3))
  rw [hsize] at hrun;exact hrun
theorem c6T {el:TypeId} {z:D} {v:Value} (hs:a0a P el=(kinds P el).length) (hv:v.cells.size=(kinds P el).length) {S:a0A} (hc:∀(j:Nat) (k:CK),(kinds P el)[j]? =some k→ ∃u,v.cells[j]? =some u∧a1D P w S k (elD P el z j) u) (n:Nat):
  (Builtin.zeroCells v.cells n).toList.length=(List.replicate n z).length*a0a P el∧(∀u∈(Builtin.zeroCells v.cells n).toList,u.oneCell'=true)∧
  ∀(i j:Nat) (k:CK),i<(List.replicate n z).length→(kinds P el)[j]? =some k→ ∃u,(Builtin.zeroCells v.cells n).toList[i*a0a P el+j]? =some u∧a1D P w S k (elD P el ((List.replicate n z).getD i (.i 0)) j) u:=by
 have hr0:=b11 (w:=w) hs hv hc n n (Nat.le_refl _);have hzc:Builtin.zeroCells v.cells n=(Array.range (n*a0a P el)).map (v.cells[· %v.cells.size]!):=by
  unfold Builtin.zeroCells;rw [hv,hs]
 refine ⟨by rw [Array.length_toList,size_zeroCells,hv,hs,List.length_replicate],?_,?_⟩
 ·intro u hu
  obtain ⟨q,hq⟩:=List.getElem?_of_mem hu;have hql:q<n*a0a P el:=by
   have:=(e6h.1 hq).1;rw [Array.length_toList,size_zeroCells,hv,←hs] at this;exact this
  have hpos:0<a0a P el:=by
   rcases Nat.eq_zero_or_pos (a0a P el) with e|e
   ·rw [e] at hql;omega
   ·exact e
  have hi:q/a0a P el<n:=Nat.div_lt_of_lt_mul (by rw [Nat.mul_comm];exact hql)
  have hj:q%a0a P el<(kinds P el).length:=by rw [←hs];exact Nat.mod_lt _ hpos
  obtain ⟨u',hu',hr⟩:=hr0 (q/a0a P el) (q%a0a P el) _ (by rw [List.length_replicate];exact hi) (e6j hj)
  have e:q/a0a P el*a0a P el+q%a0a P el=q:=by rw [Nat.mul_comm];exact Nat.div_add_mod q _
  rw [e,←hzc,←Array.getElem?_toList,hq] at hu';simp only [e55] at hu';subst hu';exact b6j hr
 ·intro i j k hi hk
  obtain ⟨u,hu,hr⟩:=hr0 i j k hi hk;refine ⟨u,?_,hr⟩;rw [Array.getElem?_toList,hzc];exact hu
theorem a7N {kk ik:IntKind} {n:Int} {key:Nat} {ex:Bool} {xs:List D} (h:Rel P N n0 B M0 w0 F e0 env st a w) (hd:d<N) (hF:¬F (kb+d)) (ho:o.op= .call c) (hdst:o.dst=some d) (hc:c.callee= .builtin .append) (ha:c.args.toList=[s,x]) (ht:c.argTypes.toList=[T,T'])
  (hel:a0h P T=some el) (hu':P.underlying T'=some (.int ik)) (hes:evu st s= .c (.o key)) (hx:evu st x= .c (.i kk n)) (hg:get st.mem key=some (.row el ex false xs)) {z:D} (hz:a2U P el=some z) (h0:0≤n) (h2:a0V P el (xs.length+n.toNat)=true)
  (hk:k ((a0o (kb+d) (.row el ex false (xs++List.replicate n.toNat z)) {st with mem:=del st.mem key}).put (some d) (.c (.o (kb+d))))=some r):o.wp P a w (a0P P N n0 B M0 w0 F e0 k r) Q:=by
 have hsv:a.eval s=(env key).hdr:=by have:=h.evu s;rw [hes] at this;exact this
 obtain ⟨hu,hsl,hty,hpos⟩:=a0e hel;obtain ⟨v,hrun,⟨i,hi,hiz⟩,hvs,hvc⟩:=a08 hz;have hxv:a.eval x= .int kk n:=by have:=h.evu x;rw [hx] at this;exact this
 have hsz:i.size=a0a P el:=by simp [a0a,hi]
 have hby:i.bytes=a07 P el:=by simp [a07,hi]
 obtain ⟨m,rfl⟩:=Int.eq_ofNat_of_zero_le h0;rw [Int.toNat_natCast] at h2 hk;unfold a0V at h2;simp only [e57,decide_eq_true_eq] at h2;obtain ⟨h3,h4⟩:=h2;unfold a0c at h4;obtain ⟨nl1,nl3,nl2⟩:=c6T (P:=P) (w:=w) hsl hvs (hvc w (Sof P B M0 n0 env st.mem w)) m;obtain ⟨cap,cur,fr,q1,q2,q3,q4,q5,q6,q7,q8,q9⟩:=c6S h hel hg hvs nl1 nl2 (kb+d) hF;rw [List.length_replicate] at q8 q9;have nl1':(Builtin.zeroCells v.cells m).toList.length=m*a0a P el:=by rw [nl1,List.length_replicate]
 have hroom:=h3;unfold a0X at h3;have hmb:m*i.bytes≤140737488355328:=by rw [hby];exact Nat.le_trans (Nat.mul_le_mul_right _ (by omega)) h3
 have hw:IntKind.i64.wrap (m:Int)=m:=by rw [IntKind.wrap_i64];omega
 have h48i:¬(281474976710656<(m:Int)*(i.bytes:Int)):=by
  rw [←Int.natCast_mul];omega
 have hneg:¬((m:Int)<0):=by omega
 by_cases hfitc:xs.length+m≤cap
 ·refine a34 (v:= .slice (some ⟨(env key).blk,0,none⟩) (xs.length+m) cap) hd hdst ho hc ha ht ?_ (q8 hfitc) (by simp [upd,a1J.hdr]) hk
  rw [hsv,hxv,q1];have hst:=a05 P (env key).blk (xs.length*a0a P el) el fr (Builtin.zeroCells v.cells m).toList 0 cur w q2 q3 (by rw [nl1',q6];have:=Nat.mul_le_mul_right (a0a P el) hfitc;rw [Nat.add_mul] at this;omega) nl3
  simp only [Nat.add_zero] at hst;by_cases hm0:m=0
  ·subst hm0
   have hz0:Builtin.zeroCells v.cells 0= #[]:=by simp [Builtin.zeroCells]
   rw [hz0] at hst⊢;simp only [List.length_nil] at hst;have e0:¬((281474976710656:Int)<0):=by omega
   have hw0:IntKind.i64.wrap 0=0:=by decide
   simp [Builtin.append_,run_underlying hu,run_underlying hu',sizeOf,typeInfo,hi,asInt,asIntOf,hw0,q4,Addr.add_lit,hsz] at hst⊢;simp [hst]
  ·have hns:¬(m*i.size=0):=Nat.mul_ne_zero hm0 (by omega)
   rw [hsz] at hns;simp [Builtin.append_,run_underlying hu,run_underlying hu',sizeOf,typeInfo,zeroValue,hi,hiz,asInt,asIntOf,hw,hneg,h48i,hns,hfitc,Addr.add_lit,hsz,hst]
 ·have hmp:0<m:=by omega
  refine a34 (v:= .slice (some ⟨w.heap.size,0,none⟩) (xs.length+m) (grownCap w (xs.length+m) cap el)) hd hdst ho hc ha ht ?_ (q9 (grownCap w (xs.length+m) cap el) (grownCap_ge w (xs.length+m) cap el) (grownCap_le_maxLen w (xs.length+m) cap el (by unfold maxLen;omega))) (by simp [upd,a1J.hdr]) hk
  rw [hsv,hxv,q1];have hfc:=run_firstCells_some (P:=P) w.drew i.size xs.length ⟨(env key).blk,0,none⟩ xs.length cap (cur.toList.take (xs.length*a0a P el)) (by rw [q7,hsz]) (fun j v hv=>by
   rw [Addr.add_lit,Nat.zero_add];rw [List.getElem?_take] at hv;split at hv
   ·have:=a2Y (o:=j) q2 (by simpa using hv)
    simpa using this
   ·cases hv)
  have hrun:=Lib.run_append_grow_zeros (P:=P) w T T' o.type el i v kk ik hu hu' hi hiz (some ⟨(env key).blk,0,none⟩) xs.length cap (cur.toList.take (xs.length*a0a P el)) hfc m hmp (by rw [hsz];exact hpos) (by omega) (by omega) (by omega) (growslice_fits (by omega) (by rw [hby];exact hroom))
  rw [hrun]
end
theorem b4Z {R:Type} {d:Nat} {T el:TypeId} {x hi:Operand} {key:Nat} {nl:Bool} {xs:List D} {kk:IntKind} {n:Int} {k:St→Option R} {r:R} {o:Oper} {Q:Exit→Act→World→Prop}
  (h:Rel P N n0 B M0 w0 F e0 env st a w) (hd:d<N) (hF:¬F (kb+d)) (ho:o.op= .slice T x none (some hi) none) (hdst:o.dst=some d)
  (hx:evu st x= .c (.o key)) (hg:get st.mem key=some (.row el true nl xs)) (hhi:evu st hi= .c (.i kk n)) (hel:a0h P T=some el) (h0:0≤n) (h1:n≤xs.length)
  (hk:k ((a0o (kb+d) (.row el true nl (xs.take n.toNat)) {st with mem:=del st.mem key}).put (some d) (.c (.o (kb+d))))=some r):o.wp P a w (a0P P N n0 B M0 w0 F e0 k r) Q:=by
 obtain ⟨hu,hsl,hty,hpos⟩:=a0e hel;have hxv:a.eval x=(env key).hdr:=by have:=h.evu x;rw [hx] at this;exact this
 have hhv:a.eval hi= .int kk n:=by have:=h.evu hi;rw [hhi] at this;exact this
 have hsub:∀k ob,get (del st.mem key) k=some ob→get st.mem k=some ob:=fun k ob hk=>(a0p k ob hk).2
 have hrun:∀(ad:Option Addr) (cap:Nat),xs.length≤cap→(Instr.sliceAt T (.slice ad xs.length cap) none (some (.int kk n)) none).run P w= .ok (.slice (if cap=0 then ad else ad.map (·.add 0)) n.toNat cap) w:=by
  intro ad cap hcap;have hr:=a60 (P:=P) (w:=w) (isS:=true) (len:=xs.length) (cap:=cap) (vlo:=none) (vhi:=some (.int kk n)) (a:=0) (b:=n) (.inl ⟨rfl,rfl⟩) (.inr ⟨kk,rfl⟩) (Int.le_refl _) h0 h1 hcap;simp only [Instr.sliceAt,e6b,run_underlying hu,e58,Instr.slice,hr,a0J hty,e6c];simp
 have hexec:∀{v:Value} {w':World},(Instr.sliceAt T (a.eval x) none (some (a.eval hi)) none).run P w= .ok v w'→(execOp a.eval o).run P w= .ok (.value v) w':=by
  intro v w' hr;simp only [execOp,ho,Option.map_none,e6r,e6b,hr,e58,e6c]
 have fin:∀{v:Value} {env':Env},(Instr.sliceAt T (a.eval x) none (some (a.eval hi)) none).run P w= .ok v w→Rel P N n0 B M0 w0 F e0 env' (a0o (kb+d) (.row el true nl (xs.take n.toNat)) {st with mem:=del st.mem key}) a w→v=(env' (kb+d)).hdr→o.wp P a w (a0P P N n0 B M0 w0 F e0 k r) Q:=by
  intro v env' h1 h2 h3;refine a0z (hexec h1) ?_;rw [hdst];exact ⟨env',_,h2.put (fun _ hdd=>by cases hdd;exact hd) (a0l.of (x:= .c (.o (kb+d))) h3),hk⟩
 obtain ⟨_,⟨rfl,rfl,hnil⟩|⟨rfl,hb0,cap,cur,q1,q2,q3,q4,q5,q6⟩⟩:=h.ob _ _ hg
 ·have hn:n=0:=by simp at h1;omega
  subst hn;have hr:=hrun none 0 (by simp)
  refine fin (v:= .slice none 0 0) (env':=upd env (kb+d) ⟨0,0,none⟩) ?_ (by simpa using a33 h hsub (kb+d) hF hsl) (by simp [upd,a1J.hdr])
  rw [hxv,hnil,hhv];simpa using hr
 ·have hr:=hrun (some ⟨(env key).blk,0,none⟩) cap q3
  have hsame:(if cap=0 then some (⟨(env key).blk,0,none⟩:Addr) else (some (⟨(env key).blk,0,none⟩:Addr)).map (·.add 0))=some ⟨(env key).blk,0,none⟩:=by
   split
   ·rfl
   ·simp [Addr.add_lit]
  rw [hsame] at hr;have hnx:n.toNat≤xs.length:=by omega
  have htl:(xs.take n.toNat).length=n.toNat:=by rw [List.length_take];omega
  refine fin (v:= .slice (some ⟨(env key).blk,0,none⟩) n.toNat cap) (env':=upd env (kb+d) ⟨(env key).blk,0,some (n.toNat,cap)⟩) (by rw [hxv,q1,hhv];exact hr) ?_ (by simp [upd,a1J.hdr])
  refine Rel.new h hsub (kb+d) hF _ _ (fun _ _=>False) (Chg.refl _ w) (fun _ _ hf=>hf.elim) (fun _ _ _ _ _=>rfl) ?_ ?_ ?_ ?_
  ·intro hk'
   refine ⟨hsl,.inr ⟨rfl,rfl,cap,cur,by simp [a1J.hdr,htl],q2,by rw [htl];omega,q4,q5,?_⟩⟩
   intro i j k' hi' hk2;rw [htl] at hi';obtain ⟨u,hu1,hu2⟩:=q6 i j k' (by omega) hk2
   refine ⟨u,hu1,?_⟩;rw [e6d,List.getElem?_take,if_pos hi',←e6d];exact hu2.mono hk'
  ·intro b x' hm
   obtain ⟨_,rfl,_⟩:=hm;exact .inr ⟨key,_,hg,rfl,rfl,.inl rfl⟩
  ·intro _ k' ob hne hk' hr'
   obtain ⟨hk1,hk2⟩:=a0p k' ob hk';exact h.ds k' key ob _ hk2 hg hr' rfl hk1
  ·intro e' ex' xs' he x' hx'
   simp only [Obj.row.injEq] at he;obtain ⟨rfl,_,_,rfl⟩:=he;rw [htl] at hx';exact h.pr key el true xs hg x' (Nat.lt_of_lt_of_le hx' (Nat.mul_le_mul_right _ hnx))
theorem b6k {R:Type} {d:Nat} {T kt vt:TypeId} {k:St→Option R} {r:R} {o:Oper} {Q:Exit→Act→World→Prop} (h:Rel P N n0 B M0 w0 F e0 env st a w) (hd:d<N) (hF:¬F (kb+d)) (ho:o.op= .makeMap T none) (hdst:o.dst=some d)
  (hk:k ((a0o (kb+d) (.map kt vt []) st).put (some d) (.c (.m (kb+d))))=some r):o.wp P a w (a0P P N n0 B M0 w0 F e0 k r) Q:=by
 refine a0z (v:= .map (some w.heap.size)) (w':=push w (.map #[] 0)) ?_ ?_
 ·simp [execOp,ho,Instr.makeMap,push]
 ·have hrel:=Rel.newBlock h (mem0:=st.mem) (fun _ _ hg=>hg) (kb+d) hF (.map kt vt []) none (.map #[] 0) (w':=push w (.map #[] 0)) (a3Q _ w _) rfl fun S' _=>⟨#[],0,a5F,trivial⟩
  rw [hdst];refine ⟨_,_,hrel.put (fun _ hdd=>by cases hdd;exact hd) ?_,hk⟩
  simp [a0l,a0s,a0j,upd]
theorem b0t {blk:Nat} {ob ob':Go.Obj} (hg:w.heap[blk]? =some ob) (hne:∀c T f,ob≠ .cells c T f):(setObj blk ob').run P w= .ok () {w with heap:=w.heap.setIfInBounds blk ob'}:=by
 unfold setObj;cases ob<;>first|exact absurd rfl (hne _ _ _)|simp only [Sem.run,hg]
theorem b1J (old new:Value) (w:World):∃key w',(Instr.keyThatStays old new).run P w= .ok key w'∧(key=new∨key=old)∧w'.heap=w.heap∧w'.os=w.os∧w'.tape=w.tape∧w'.output=w.output:=by
 unfold Instr.keyThatStays;cases Instr.sameBits 10000 old new with
 |true=>exact ⟨new,w,by simp,.inl rfl,rfl,rfl,rfl,rfl⟩
 |false=>
  simp only [Bool.false_eq_true,if_false,e6b,run_choose];simp only [Question.forced,Bool.false_eq_true,if_false,e58,e6c];refine ⟨_,{w with drawn:=w.drawn+1},rfl,?_,rfl,rfl,rfl,rfl⟩
  split
  ·exact .inl rfl
  ·exact .inr rfl
theorem b5r {blk:Nat} {ob ob':Go.Obj} {w':World} (hg:w.heap[blk]? =some ob) (hne:∀c T f,ob≠ .cells c T f) (hh:w'.heap=w.heap.setIfInBounds blk ob') (h1:w'.os=w.os) (h2:w'.tape=w.tape) (h3:w'.output=w.output):Chg (fun b _=>b=blk) w w':=by
 refine ⟨h1,h2,h3,by rw [hh];simp,?_,?_⟩
 ·intro b cur T fr hb
  have hbb:b≠blk:=by rintro rfl;rw [hg] at hb;simp only [e55] at hb;exact hne _ _ _ hb
  refine ⟨cur,fr,?_,rfl,fun _ _=>rfl,.inl rfl⟩
  rw [hh,Array.getElem?_setIfInBounds,if_neg (Ne.symm hbb)];exact hb
 ·intro b o hb hno
  have hbb:blk≠b:=fun e=>hno 0 e.symm
  rw [hh,Array.getElem?_setIfInBounds,if_neg hbb];exact hb
theorem a6v {R:Type} {T kt vt vt':TypeId} {mo ko xo:Operand} {mk:Nat} {es es':List (D×D)} {kd vd:D} {b:Bool} {k:St→Option R} {r:R} {o:Oper} {Q:Exit→Act→World→Prop} (h:Rel P N n0 B M0 w0 F e0 env st a w) (hd:∀d,o.dst=some d→d<N)
  (hexec:execOp a.eval o=(do Instr.mapUpdate T (a.eval mo) (a.eval ko) (a.eval xo);pure .skip))
  (hm:evu st mo= .c (.m mk)) (hu:P.underlying T=some (.map kt vt')) (hg:get st.mem mk=some (.map kt vt es)) (hkd:asD P st.mem kt (evu st ko)=some kd) (hvd:asD P st.mem vt (evu st xo)=some vd) (hself:eqD P kt kd kd=some b) (hput:d48 P kt kd vd es=some es')
  (hk:k (St.put {st with mem:=set st.mem mk (.map kt vt es')} o.dst (.c .u))=some r):o.wp P a w (a0P P N n0 B M0 w0 F e0 k r) Q:=by
 have hmv:a.eval mo= .map (some (env mk).blk):=by have:=h.evu mo;rw [hm] at this;exact this
 obtain ⟨ents,clock,hh,hents⟩:=h.ob _ _ hg;obtain ⟨p,hp,hpl,hpr⟩:=c2u hput;have hkv:=a1R h.ob h.rows (h.evu ko) hkd;have hvv:=a1R h.ob h.rows (h.evu xo) hvd;have hf:=run_findKey hkv ⟨b,hself⟩ (hents.mono fun _ _ _ h=>h.1) hp
 have hck:=a1v (w:=w) false 12 kt _ _ _ (a.eval ko) hself (a27 hkv hself) 10000 (by decide)
 have hget:(getObj (env mk).blk).run P w= .ok (.map ents clock) w:=by unfold getObj;simp only [Sem.run,hh]
 have hnc:∀c T f,(Go.Obj.map ents clock)≠ .cells c T f:=fun _ _ _ e=>by cases e
 have fin:∀(ents':Array MapEntry) (clock':Nat) (w':World),(Instr.mapUpdate T (a.eval mo) (a.eval ko) (a.eval xo)).run P w= .ok () w'→w'.heap=w.heap.setIfInBounds (env mk).blk (.map ents' clock')→w'.os=w.os→w'.tape=w.tape→w'.output=w.output→
   (∀S',a0y w (Sof P B M0 n0 env st.mem w) w' S'→All2 (c6x P env S' w' kt vt) es' ents'.toList)→o.wp P a w (a0P P N n0 B M0 w0 F e0 k r) Q:=by
  intro ents' clock' w' hrun h1 h2 h3 h4 h5;refine b10 (w':=w') ?_ ⟨env,_,Rel.put_u (Rel.upd h hg (o':= .map kt vt es') (fun b _=>b=(env mk).blk) (b5r hh hnc h1 h2 h3 h4) (fun _ _ e=>e) (fun _ _ e=>e) (fun hr=>hr) ?_ trivial ?_ ?_) hd undef,hk⟩
  ·rw [hexec]
   simp only [e6b,hrun,e58,e6c]
  ·intro b hb
   rw [h1,Array.getElem?_setIfInBounds,if_neg (Ne.symm hb)]
  ·intro S' hk'
   refine ⟨ents',clock',?_,h5 S' hk'⟩;rw [h1,Array.getElem?_setIfInBounds,if_pos rfl,if_pos (e6f.1 hh).1]
  ·intro e ex xs he;cases he
 have keepE:∀{w':World} {S':a0A},a0y w (Sof P B M0 n0 env st.mem w) w' S'→All2 (c6x P env S' w' kt vt) es ents.toList:=fun hk'=>
  hents.mono fun x y _ hxy=>let ⟨kd,q1,q2⟩:=hxy.1;⟨⟨kd,a0R hk' q1,q2⟩,a0R hk' hxy.2⟩
 cases p with
 | none=>
  simp only at hpr;subst hpr;refine fin (ents.push {key:=a.eval ko,val:=a.eval xo,born:=clock}) (clock+1) {w with heap:=w.heap.setIfInBounds (env mk).blk (.map (ents.push {key:=a.eval ko,val:=a.eval xo,born:=clock}) (clock+1))} ?_ rfl rfl rfl rfl ?_
  ·simp only [Instr.mapUpdate,e6b,run_underlying hu,e58,hmv,hget,hck,hf,a1w,Option.map_none]
   exact b0t hh hnc
  ·intro S' hk'
   rw [Array.toList_push];exact (keepE hk').append ⟨⟨⟨kd,a0R hk' hkv,fun _=>rfl⟩,a0R hk' hvv⟩,trivial⟩
 | some i=>
  simp only at hpr;subst hpr;have hi:=hpl i rfl;obtain ⟨en,hen,hk1,hv1⟩:=hents.get (e6j hi);obtain ⟨kd',hkd',hke⟩:=hk1;have hil:i<ents.size:=by have:=hents.length;simp at this;omega
  obtain ⟨key,w1,hr1,hkey,e1,e2,e3,e4⟩:=b1J (P:=P) (((ents[i]?).map (·.key)).getD (a.eval ko)) (a.eval ko) w
  have hen':ents[i]? =some en:=by simpa using hen
  refine fin (ents.modify i fun e=>{e with key,val:=a.eval xo}) clock {w1 with heap:=w1.heap.setIfInBounds (env mk).blk (.map (ents.modify i fun e=>{e with key,val:=a.eval xo}) clock)} ?_ (by rw [e1]) e2 e3 e4 ?_
  ·simp only [Instr.mapUpdate,e6b,run_underlying hu,e58,hmv,hget,hck,hf,a1w,e6r,Nat.zero_add,hr1]
   exact b0t (by rw [e1];exact hh) hnc
  ·intro S' hk'
   have hmod:(ents.modify i fun e=>{e with key,val:=a.eval xo}).toList=ents.toList.set i {en with key,val:=a.eval xo}:=by
    apply List.ext_getElem?;intro j;rw [Array.getElem?_toList,Array.getElem?_modify,List.getElem?_set];by_cases hij:i=j
    ·subst hij
     rw [if_pos rfl,if_pos rfl,if_pos (by simpa using hil),hen']
     rfl
    ·rw [if_neg hij,if_neg hij];simp
   rw [hmod];refine (keepE hk').set i ⟨?_,a0R hk' hvv⟩;rcases hkey with rfl|rfl
   ·exact ⟨kd,a0R hk' hkv,fun _=>rfl⟩
   ·refine ⟨kd',?_,fun q=> ?_⟩
    ·have:((ents[i]?).map (·.key)).getD (a.eval ko)=en.key:=by rw [hen'];rfl
     exact (fun (v:Value) (hv:v=en.key)=>by subst hv;exact a0R hk' hkd':∀v,v=en.key→a0s P env S' _ (a1L P kt kd') v) _ this
    have h7:=c6M hp (e6j hi);have h8:=b6c 12 kt _ _ (a0E P kt q) h7;exact h8.trans (hke q)
theorem c2D {T:TypeId} (h:d33 P T=true):a0d P T=true:=by
 unfold d33 at h;simp only [e57] at h;exact h.1.1
theorem b8N {R:Type} {d:Nat} {T:TypeId} {z:D} {k:St→Option R} {r:R} {o:Oper} {Q:Exit→Act→World→Prop} (h:Rel P N n0 B M0 w0 F e0 env st a w) (hd:d<N) (hF:¬F (kb+d)) (ho:o.op= .alloc T) (hdst:o.dst=some d)
  (hb:d33 P T=true) (hz:a2U P T=some z) (hk:k ((a0o (kb+d) (.dat T z) st).put (some d) (.c (.p (kb+d) 0)))=some r):o.wp P a w (a0P P N n0 B M0 w0 F e0 k r) Q:=by
 obtain ⟨v,h1,_,h2,h3⟩:=a08 hz;refine a0z (v:= .pointer (some ⟨w.heap.size,0,none⟩)) (w':=push w (.cells v.cells T)) ?_ ?_
 ·simp only [execOp,ho,e6b,Instr.alloc,h1,e58,a64,e6c]
 ·have hnb:=Rel.newBlock h (mem0:=st.mem) (fun _ _ hg=>hg) (kb+d) hF (.dat T z) none (.cells v.cells T) (a3Q _ w _) rfl fun S' hkeep=>by
   refine ⟨rfl,v.cells,T,a5F,by omega,fun j k hk=> ?_⟩
   obtain ⟨u,q1,q2⟩:=h3 (push w (.cells v.cells T)) S' j k hk;unfold elD at q2;rw [c2D hb] at q2;exact ⟨u,q1,q2⟩
  rw [hdst];refine ⟨_,_,hnb.put (v:= .pointer (some ⟨w.heap.size,0,none⟩)) (fun _ hdd=>by cases hdd;exact hd) ?_,hk⟩
  simp [a0l,a0s,a0j,upd]
theorem c4Z {R:Type} {d:Nat} {T:TypeId} {x:Operand} {z:D} {k:St→Option R} {r:R} {o:Oper} {Q:Exit→Act→World→Prop} (h:Rel P N n0 B M0 w0 F e0 env st a w) (hd:d<N) (hF:¬F (kb+d)) (ho:o.op= .box T x) (hdst:o.dst=some d)
  (hb:d33 P T=true) (hz:asD P st.mem T (e0H P T (evu st x))=some z) (hk:k ((a0o (kb+d) (.dat T z) st).put (some d) (.c (.p (kb+d) 0)))=some r):o.wp P a w (a0P P N n0 B M0 w0 F e0 k r) Q:=by
 obtain ⟨h1,h2⟩:=a4Z h.ob h.rows (b5n (h.evu x)) hz;refine a0z (v:= .pointer (some ⟨w.heap.size,0,none⟩)) (w':=push w (.cells (a.eval x).cells T)) ?_ ?_
 ·simp only [execOp,ho,e6b,Instr.box,e58,a64,e6c]
 ·have hnb:=Rel.newBlock h (mem0:=st.mem) (fun _ _ hg=>hg) (kb+d) hF (.dat T z) none (.cells (a.eval x).cells T) (a3Q _ w _) rfl fun S' hkeep=>by
   refine ⟨rfl,(a.eval x).cells,T,a5F,by omega,fun j k hk=> ?_⟩
   obtain ⟨u,q1,q2⟩:=h2 j k hk;unfold elD at q2;rw [c2D hb] at q2;exact ⟨u,by simpa using q1,q2.mono hkeep⟩
  rw [hdst];refine ⟨_,_,hnb.put (v:= .pointer (some ⟨w.heap.size,0,none⟩)) (fun _ hdd=>by cases hdd;exact hd) ?_,hk⟩
  simp [a0l,a0s,a0j,upd]
theorem b6l {R:Type} {d:Nat} {s t el:TypeId} {x:Operand} {l:List UInt8} {k:St→Option R} {r:R} {o:Oper} {Q:Exit→Act→World→Prop} (h:Rel P N n0 B M0 w0 F e0 env st a w) (hd:d<N) (hF:¬F (kb+d)) (ho:o.op= .convert s t x) (hdst:o.dst=some d)
  (hs:P.underlying s=some .string) (hel:a0h P t=some el) (hx:evu st x= .c (.s l)) (h8:b4W P el=true) (hl:l.length≤a0c)
  (hk:k ((a0o (kb+d) (.row el true false (a0T l)) st).put (some d) (.c (.o (kb+d))))=some r):o.wp P a w (a0P P N n0 B M0 w0 F e0 k r) Q:=by
 obtain ⟨hu,hsz,hty,hpos⟩:=a0e hel;obtain ⟨hkk,ha⟩:=a61 h8;have hxv:a.eval x= .string ⟨l.toArray⟩:=by have:=h.evu x;rw [hx] at this;exact this
 have hrun:=run_bytes_of_string (P:=P) w s t el ⟨l.toArray⟩ hs hu (b3u h8);have hsize:(⟨l.toArray⟩:ByteArray).size=l.length:=by simp [ByteArray.size]
 rw [hsize] at hrun;have hcap:=grownCap_ge w l.length 0 el;have hcm:=grownCap_le_maxLen w l.length 0 el (by unfold a0c at hl;unfold maxLen;omega)
 refine a0z (v:= .slice (some ⟨w.heap.size,0,none⟩) l.length (grownCap w l.length 0 el)) (w':=w.drew.alloc (.cells (bytesRow ⟨l.toArray⟩ (grownCap w l.length 0 el)) el ((bytesRow ⟨l.toArray⟩ (grownCap w l.length 0 el)).size,(bytesRow ⟨l.toArray⟩ (grownCap w l.length 0 el)).size+1))) ?_ ?_
 ·have hex:execOp a.eval o=(do pure (.value (←convert s t (a.eval x))):Sem Next):=by unfold execOp;rw [ho]
  rw [hex,hxv,e6b,hrun];rfl
 ·have hbl:(a0T l).length=l.length:=by simp [a0T]
  have hrs:(bytesRow ⟨l.toArray⟩ (grownCap w l.length 0 el)).size=grownCap w l.length 0 el*a0a P el:=by
   rw [hsz,hkk];simp [bytesRow,hsize];omega
  have hrel:=c0V h (mem0:=st.mem) (fun _ _ hg=>hg) (kb+d) hF (ex:=true) (e:=el) (xs:=a0T l) (cap:=grownCap w l.length 0 el) (cur:=bytesRow ⟨l.toArray⟩ (grownCap w l.length 0 el)) (fr:=((bytesRow ⟨l.toArray⟩ (grownCap w l.length 0 el)).size,(bytesRow ⟨l.toArray⟩ (grownCap w l.length 0 el)).size+1)) (a04 w _) rfl (.inr (Nat.le_refl _)) hsz (by rw [hbl];exact hcap) hcm hrs (by
   intro i j kk hi hj;rw [hkk] at hj;have hj0:j=0∧kk= .int .u8:=by
    cases j with
    |zero=>simp at hj;exact ⟨rfl,hj.symm⟩
    |succ j=>simp at hj
   obtain ⟨rfl,rfl⟩:=hj0;rw [hbl] at hi;have hs1:a0a P el=1:=by rw [hsz,hkk];rfl
   refine ⟨.int .u8 ((l[i]).toNat:Int),?_,?_⟩
   ·rw [hs1,Nat.mul_one,Nat.add_zero]
    unfold bytesRow;rw [Array.getElem?_append_left (by simpa using hi)]
    simp [hi]
   ·unfold elD
    rw [ha];have:(a0T l).getD i (.i 0)= .i ((l[i]).toNat:Int):=by
     rw [e6d];simp [a0T,c9W,hi]
    rw [this];exact .int .u8 (.i ((l[i]).toNat:Int)))
  rw [hdst];refine ⟨_,_,hrel.put (fun _ hdd=>by cases hdd;exact hd) ?_,hk⟩
  simp [a0l,a0s,a0j,upd,a1J.hdr,hbl]
theorem d0b {t el:TypeId} {blk n c:Nat} {cur:Array Value} {fr:Nat×Nat} (hg:w.heap[blk]? =some (.cells cur el fr)) (ht:P.underlying t=some (.slice el)) (he:P.underlying el=some (.int .u8)):
  (convert t t (.slice (some ⟨blk,0,none⟩) n c)).run P w= .ok (.slice (some ⟨blk,0,none⟩) n c) (w.freeze ⟨blk,cur.size,none⟩ 1):=by
 have hsh:w.shape? blk=some (el,cur.size):=by unfold World.shape?;rw [hg]
 simp [convert,run_underlying ht,run_underlying he,markStringish,hsh]
theorem b8O {blk n:Nat} {cur:Array Value} {T:TypeId} {fr:Nat×Nat} (hg:w.heap[blk]? =some (.cells cur T fr)):(w.freeze ⟨blk,n,none⟩ 1).heap[blk]? =some (.cells cur T (if fr.1==fr.2 then (n,n+1) else (min fr.1 n,max fr.2 (n+1)))):=by
 unfold World.freeze;rw [if_neg (by decide)]
 simp only [Array.getElem?_modify,if_true,hg,e6r]
theorem a6w {blk n b:Nat} (hb:b≠blk):(w.freeze ⟨blk,n,none⟩ 1).heap[b]? =w.heap[b]? :=by
 unfold World.freeze;rw [if_neg (by decide)]
 simp only [Array.getElem?_modify];rw [if_neg (Ne.symm hb)]
theorem c40 {blk n:Nat} {cur:Array Value} {T:TypeId} {fr:Nat×Nat} (hg:w.heap[blk]? =some (.cells cur T fr)):Chg (fun b _=>b=blk) w (w.freeze ⟨blk,n,none⟩ 1):=by
 refine ⟨by unfold World.freeze;rw [if_neg (by decide)],by unfold World.freeze;rw [if_neg (by decide)],by unfold World.freeze;rw [if_neg (by decide)],by unfold World.freeze;rw [if_neg (by decide)];simp,?_,?_⟩
 ·intro b c T' fr' hb
  by_cases hbb:b=blk
  ·subst hbb
   rw [hg] at hb;simp only [e55,Go.Obj.cells.injEq] at hb;obtain ⟨rfl,rfl,rfl⟩:=hb;exact ⟨cur,_,b8O hg,rfl,fun _ _=>rfl,.inr fun _=>rfl⟩
  ·exact ⟨c,fr',by rw [a6w hbb];exact hb,rfl,fun _ _=>rfl,.inl rfl⟩
 ·intro b ob hb hno
  rw [a6w (hno 0)];exact hb
theorem Rel.same_mem {mem':AL Obj} (h:Rel P N n0 B M0 w0 F e0 env st a w) (hg:∀k,get st.mem k=get mem' k):Rel P N n0 B M0 w0 F e0 env {st with mem:=mem'} a w:=by
 have e:get st.mem=get mem':=funext hg;have hS:Sof P B M0 n0 env st.mem w=Sof P B M0 n0 env mem' w:=by unfold Sof;rw [e]
 exact ⟨h.size,h.dfr,h.hn0,fun t x hx=>by rw [←hS];exact h.tm t x hx,fun k o ho=>by rw [←hS];exact h.ob k o (by rw [e];exact ho),
  fun k k' o o' h1 h2=>h.ds k k' o o' (by rw [e];exact h1) (by rw [e];exact h2),fun k o b x h1=>h.mu k o b x (by rw [e];exact h1),fun k e' ex xs h1=>h.pr k e' ex xs (by rw [e];exact h1),h.ch,h.bb,h.fx,h.gi⟩
theorem c41 {R:Type} {d:Nat} {s t el key:Nat} {x:Operand} {xs:List D} {k:St→Option R} {r:R} {o:Oper} {Q:Exit→Act→World→Prop} (h:Rel P N n0 B M0 w0 F e0 env st a w) (hd:d<N) (ho:o.op= .convert s t x) (hdst:o.dst=some d)
  (hst:s=t) (hel:a0h P t=some el) (hx:evu st x= .c (.o key)) (hg:get st.mem key=some (.row el true false xs)) (h8:b4W P el=true)
  (hk:k (st.put (some d) (.c (.o key)))=some r):o.wp P a w (a0P P N n0 B M0 w0 F e0 k r) Q:=by
 subst hst;obtain ⟨hu,hsz,hty,hpos⟩:=a0e hel;have hxv:a.eval x=(env key).hdr:=by have:=h.evu x;rw [hx] at this;exact this
 obtain ⟨hsl,⟨hn,_⟩|⟨_,hbase,cap,cur,q1,⟨fr,hfr,q2⟩,q3,q4,q5,q6⟩⟩:=h.ob _ _ hg
 ·cases hn
 have hrun:=d0b (P:=P) (w:=w) (n:=xs.length) (c:=cap) q2 hu (b3u h8);have hup:Rel P N n0 B M0 w0 F e0 env {st with mem:=set st.mem key (.row el true false xs)} a (w.freeze ⟨(env key).blk,cur.size,none⟩ 1):=by
  refine Rel.upd h hg (fun b _=>b=(env key).blk) (c40 q2) (fun b x e=>⟨rfl,e,.inl rfl⟩) (fun _ _ hm=>hm) (fun hr=>hr) (fun b hb=>a6w hb) rfl ?_ ?_
  ·intro S' hk'
   refine ⟨hsl,.inr ⟨rfl,hbase,cap,cur,q1,⟨_,?_,b8O q2⟩,q3,q4,q5,?_⟩⟩
   ·rcases hfr with rfl|hle
    ·simp only [BEq.rfl,if_true];exact .inr (Nat.le_refl _)
    ·split
     ·exact .inr (Nat.le_refl _)
     ·right;simp only;omega
   ·intro i j k' hi' hk2
    obtain ⟨u,hu1,hu2⟩:=q6 i j k' hi' hk2;exact ⟨u,hu1,hu2.mono hk'⟩
  ·intro e' ex' xs' he x' hx'
   simp only [Obj.row.injEq] at he;obtain ⟨rfl,rfl,_,rfl⟩:=he;exact h.pr key _ _ _ hg x' hx'
 have hsame:Rel P N n0 B M0 w0 F e0 env st a (w.freeze ⟨(env key).blk,cur.size,none⟩ 1):=by
  refine Rel.same_mem (st:={st with mem:=set st.mem key (.row el true false xs)}) (mem':=st.mem) hup fun k0=> ?_
  show get (set st.mem key (.row el true false xs)) k0=get st.mem k0;rw [a1Q];by_cases hkk:k0=key
  ·subst hkk;rw [if_pos rfl,hg]
  ·rw [if_neg hkk]
 refine a0z (v:=(env key).hdr) (w':=w.freeze ⟨(env key).blk,cur.size,none⟩ 1) ?_ ?_
 ·have hex:execOp a.eval o=(do pure (.value (←convert s s (a.eval x))):Sem Next):=by unfold execOp;rw [ho]
  rw [hex,hxv,q1,e6b,hrun];rfl
 ·rw [hdst]
  refine ⟨env,_,hsame.put (fun _ hdd=>by cases hdd;exact hd) (a0l.of (x:= .c (.o key)) rfl),hk⟩
theorem b6m (h:Rel P N n0 B M0 w0 F e0 env st a w) {el T:TypeId} {x:V} {vx:Value} {ys:List D} (hx:a0s P env (Sof P B M0 n0 env st.mem w) w x vx) (hs:b55 P st.mem el T x=some ys) (h1:a0a P el=1) (hk1:a0a P el=(kinds P el).length):
  ∃news:List Value,news.length=ys.length∧(Builtin.lenOf vx).run P w= .ok ys.length w∧(∀u∈news,u.oneCell'=true)∧(∀n,n≤ys.length→(Builtin.firstCells 1 n vx).run P w= .ok (news.take n).toArray w)∧
   ∀(i:Nat) (k:CK),i<ys.length→(kinds P el)[0]? =some k→ ∃u,news[i]? =some u∧a1D P w (Sof P B M0 n0 env st.mem w) k (elD P el (ys.getD i (.i 0)) 0) u:=by
 unfold b55 at hs;split at hs
 ·rename_i l hu
  cases h8:b4W P el with
  |false=>rw [h8] at hs;cases hs
  | true=>
   rw [h8] at hs;simp only [cond_true,e55] at hs;subst hs;have hv:vx= .string ⟨l.toArray⟩:=hx;subst hv;obtain ⟨hkk,ha⟩:=a61 h8;refine ⟨l.map fun b=> .int .u8 (b.toNat:Int),by simp [a0T],by simp [Builtin.lenOf,a0T,ByteArray.size],?_,?_,?_⟩
   ·intro u hu
    simp only [List.mem_map] at hu;obtain ⟨b,_,rfl⟩:=hu;rfl
   ·intro n hn
    have:((⟨l.toArray⟩:ByteArray).extract 0 n).data=(l.take n).toArray:=by
     simp
    simp [Builtin.firstCells,this,List.map_take]
   ·intro i k hi hk
    rw [hkk] at hk;simp only [List.getElem?_cons_zero,e55] at hk;subst hk;have hi':i<l.length:=by simpa [a0T] using hi
    refine ⟨.int .u8 ((l[i]).toNat:Int),by simp [hi'],?_⟩
    unfold elD;rw [ha];have:(a0T l).getD i (.i 0)= .i ((l[i]).toNat:Int):=by
     rw [e6d];simp [a0T,c9W,hi']
    rw [this];exact .int .u8 (.i ((l[i]).toNat:Int))
 ·rename_i el' hu
  cases he:Nat.beq el el' with
  |false=>rw [he] at hs;cases hs
  | true=>
   rw [he] at hs;simp only [cond_true] at hs;obtain ⟨ao,c,rfl,rfl⟩|⟨b,o,c,rfl,hc⟩:=(b5o h hx hs).src
   ·refine ⟨[],rfl,by simp [Builtin.lenOf],fun _ hu=>by simp at hu,fun n hn=> ?_,fun i k hi=>by simp at hi⟩
    have:n=0:=by simpa using hn
    subst this;cases ao<;>simp [Builtin.firstCells,loadCells,loadCellsFrom]
   ·obtain ⟨news,q1,q2,q3,q4⟩:=a8U hk1 (by omega) hc
    rw [h1,Nat.mul_one] at q1;refine ⟨news,q1,by simp [Builtin.lenOf],q3,fun n hn=> ?_,fun i k hi hk=> ?_⟩
    ·exact run_firstCells_some (P:=P) w 1 n ⟨b,o,none⟩ ys.length c (news.take n) (by simp;omega) fun j v hv=>q2 j v (by
      rw [List.getElem?_take] at hv;split at hv
      ·exact hv
      ·cases hv)
    ·obtain ⟨u,q5,q6⟩:=q4 i 0 k hi hk
     rw [h1,Nat.mul_one,Nat.add_zero] at q5;exact ⟨u,q5,q6⟩
 ·cases hs
theorem c42 {R:Type} {c:Call} {x y:Operand} {T T' el:TypeId} {key:Nat} {xs ys:List D} {k:St→Option R} {r:R} {o:Oper} {Q:Exit→Act→World→Prop}
  (h:Rel P N n0 B M0 w0 F e0 env st a w) (hd:∀d,o.dst=some d→d<N) (ho:o.op= .call c) (hc:c.callee= .builtin .copy) (ha:c.args.toList=[x,y]) (ht:c.argTypes.toList=[T,T'])
  (hel:a0h P T=some el) (hx:evu st x= .c (.o key)) (hg:get st.mem key=some (.row el true false xs)) (hy:b55 P st.mem el T' (evu st y)=some ys) (h1:a0a P el=1)
  (hk:k (St.put {st with mem:=set st.mem key (.row el true false (ys.take xs.length++xs.drop ys.length))} o.dst (.c (.i .i64 (min2 ys.length xs.length))))=some r):o.wp P a w (a0P P N n0 B M0 w0 F e0 k r) Q:=by
 obtain ⟨hu,hsl,hty,hpos⟩:=a0e hel;have ha':c.args= #[x,y]:=by rw [←Array.toList_inj];exact ha
 have ht':c.argTypes= #[T,T']:=by rw [←Array.toList_inj];exact ht
 obtain ⟨news,n1,n2,n3,n4,n5⟩:=b6m h (h.evu y) hy h1 hsl;have hxv:a.eval x=(env key).hdr:=by have:=h.evu x;rw [hx] at this;exact this
 obtain ⟨_,⟨hn,_⟩|⟨_,hb,cap,cur,q1,⟨fr,hfr,q2⟩,q3,q4,q5,q6⟩⟩:=h.ob _ _ hg
 ·cases hn
 rw [h1,Nat.mul_one] at q5;have hfit:(news.take (min ys.length xs.length)).length≤cur.size:=by rw [List.length_take];omega
 have hst:=a05 P (env key).blk 0 el fr (news.take (min ys.length xs.length)) 0 cur w q2 hfr (by simpa using hfit) fun u hu=>n3 u (List.mem_of_mem_take hu)
 simp only [Nat.add_zero,Nat.zero_add,List.take_zero,List.nil_append] at hst;have hty1:(sizeOf el).run P w= .ok 1 w:=by rw [a0J hty,h1]
 have hrun:(Builtin.copy_ #[T,T'] o.type #[a.eval x,a.eval y]).run P w= .ok (goInt ((min ys.length xs.length:Nat):Int)) (w.setRow (env key).blk (news.take (min ys.length xs.length)++cur.toList.drop (news.take (min ys.length xs.length)).length).toArray):=by
  rw [hxv,q1];have n4':=n4 (min ys.length xs.length) (by omega)
  simp only [Builtin.copy_,List.getElem?_toArray,List.getElem?_cons_zero,List.getElem?_cons_succ,e6b,run_underlying hu,e58,n2,hty1];rw [show Nat.min ys.length xs.length=min ys.length xs.length from rfl,n4'];simp only [e58,e6b,hst,e6c]
 have hmin:goInt ((min ys.length xs.length:Nat):Int)= .int .i64 (min2 (ys.length:Int) (xs.length:Int)):=by
  unfold goInt min2;congr 1
  split<;>omega
 rw [hmin] at hrun;refine a0z (v:= .int .i64 (min2 (ys.length:Int) (xs.length:Int))) (w':=w.setRow (env key).blk (news.take (min ys.length xs.length)++cur.toList.drop (news.take (min ys.length xs.length)).length).toArray) ?_ ?_
 ·simp only [execOp,ho,resolve,hc,ha',ht',e6b,e6c,e58,invoke,builtin,List.map_toArray,List.map_cons,List.map_nil,hrun]
 ·have hlen:(ys.take xs.length++xs.drop ys.length).length=xs.length:=by simp;omega
  have hseg:∀j:Nat,((news.take (min ys.length xs.length)++cur.toList.drop (news.take (min ys.length xs.length)).length).toArray)[j]? =if j<min ys.length xs.length then news[j]? else cur[j]? :=by
   intro j;have hl:(news.take (min ys.length xs.length)).length=min ys.length xs.length:=by rw [List.length_take];omega
   rw [List.getElem?_toArray];by_cases hj:j<min ys.length xs.length
   ·rw [if_pos hj,e6p (by omega),List.getElem?_take,if_pos hj]
   ·rw [if_neg hj,e6o (by omega),List.getElem?_drop,hl]
    simp only [Array.getElem?_toList];congr 1
    omega
  have hupd:=Rel.upd h hg (o':= .row el true false (ys.take xs.length++xs.drop ys.length)) (w':=w.setRow (env key).blk (news.take (min ys.length xs.length)++cur.toList.drop (news.take (min ys.length xs.length)).length).toArray) (fun b i=>b=(env key).blk∧i<min ys.length xs.length) ?_ ?_ ?_ (fun hr=>hr) ?_ rfl ?_ ?_
  ·refine ⟨env,_,hupd.put hd (a0l.of (x:= .c (.i .i64 (min2 (ys.length:Int) (xs.length:Int)))) rfl),hk⟩
  ·refine a3a q2 (by simp at hfit⊢;omega) fun i hi=> ?_
   rw [hseg,if_neg (fun hc=>hi ⟨rfl,hc⟩)]
  ·rintro b i ⟨rfl,_⟩;exact ⟨rfl,rfl,.inl rfl⟩
  ·rintro b i ⟨_,h7,_⟩;exact ⟨rfl,h7,.inl rfl⟩
  ·intro b hb';exact setRow_other _ _ _ _ hb'
  ·intro S' hkp
   refine ⟨hsl,.inr ⟨rfl,hb,cap,_,by rw [hlen];exact q1,a6u hfr q2 (by simp at hfit⊢;omega),by rw [hlen];exact q3,q4,by rw [h1,Nat.mul_one,←q5];simp at hfit⊢;omega,?_⟩⟩
   ·intro i j kk hi hkk
    rw [hlen] at hi;have hj:j=0:=by have:=(e6h.1 hkk).1;omega
    subst hj;rw [h1,Nat.mul_one,Nat.add_zero,hseg];by_cases hlt:i<min ys.length xs.length
    ·rw [if_pos hlt]
     obtain ⟨u,r1,r2⟩:=n5 i kk (by omega) hkk
     have hgd:(ys.take xs.length++xs.drop ys.length).getD i (.i 0)=ys.getD i (.i 0):=by
      rw [e6d,e6p (by simp;omega),List.getElem?_take,if_pos (by omega),e6d]
     exact ⟨u,r1,by rw [hgd];exact r2.mono hkp⟩
    ·rw [if_neg hlt]
     obtain ⟨u,r1,r2⟩:=q6 i 0 kk hi hkk;rw [h1,Nat.mul_one,Nat.add_zero] at r1;have hgd:(ys.take xs.length++xs.drop ys.length).getD i (.i 0)=xs.getD i (.i 0):=by
      rw [e6d,e6o (by simp;omega),List.getElem?_drop,e6d]
      congr 2
      simp;omega
     exact ⟨u,r1,by rw [hgd];exact r2.mono hkp⟩
  ·intro e' ex xs' he i hi
   simp only [Obj.row.injEq] at he;obtain ⟨rfl,rfl,_,rfl⟩:=he;exact h.pr key _ _ xs hg i (by rw [hlen] at hi;exact hi)
theorem b8P {S:a0A} {kt:TypeId} {es:List (D×C)} {L:List MapEntry} (h:All2 (e3I P env S w kt) es L):All2 (c2v P env S w kt) (es.map fun x=>(x.1,D.i 0)) L:=
 h.mapl fun _ _ _ hx=>hx.1
theorem b6n {kt:TypeId} {kd:D}:∀{es:List (D×C)} {p:Option C},d38 P kt kd es=some p→ ∃q,b8h P kt kd (es.map fun x=>(x.1,D.i 0))=some q∧
  (match q with|none=>p=none|some i=>∃k' c,es[i]? =some (k',c)∧p=some c)
 | [],p,h=>by simp only [d38,e55] at h;subst h;exact ⟨none,rfl,rfl⟩
 | (k',c)::r,p,h=>by
  simp only [d38] at h;split at h
  ·rename_i e p' he hr
   simp only [e55] at h;subst h;obtain ⟨q,h1,h2⟩:=b6n hr;refine ⟨bif e then some 0 else q.map (· +1),by simp only [List.map_cons,b8h,he,h1],?_⟩
   cases e with
   |true=>exact ⟨k',c,rfl,rfl⟩
   |false=>
    cases q with
    |none=>exact h2
    |some i=>obtain ⟨k2,c2,h3,h4⟩:=h2;exact ⟨k2,c2,by simpa using h3,h4⟩
  ·cases h
theorem b1d {R:Type} {T kt vt vt':TypeId} {mo ko xo:Operand} {mk:Nat} {ob:Obj} {es:List (D×C)} {kd:D} {c:C} {b:Bool} {k:St→Option R} {r:R} {o:Oper} {Q:Exit→Act→World→Prop} (h:Rel P N n0 B M0 w0 F e0 env st a w) (hd:∀d,o.dst=some d→d<N)
  (hexec:execOp a.eval o=(do Instr.mapUpdate T (a.eval mo) (a.eval ko) (a.eval xo);pure .skip))
  (hm:evu st mo= .c (.m mk)) (hu:P.underlying T=some (.map kt vt')) (hg:get st.mem mk=some ob) (hob:(∃vt1,ob= .tab kt vt1 es)∨(es=[]∧ ∃vt1,ob= .map kt vt1 []))
  (hkd:asD P st.mem kt (evu st ko)=some kd) (hc:a0s P env (Sof P B M0 n0 env st.mem w) w (.c c) (a.eval xo)) (hself:eqD P kt kd kd=some b) (hput:d38 P kt kd es=some none)
  (hk:k (St.put {st with mem:=set st.mem mk (.tab kt vt (es++[(kd,c)]))} o.dst (.c .u))=some r):o.wp P a w (a0P P N n0 B M0 w0 F e0 k r) Q:=by
 have hmv:a.eval mo= .map (some (env mk).blk):=by have:=h.evu mo;rw [hm] at this;exact this
 have hmut:∀b' x,a3B P (env mk) (.tab kt vt (es++[(kd,c)])) b' x→a3B P (env mk) ob b' x:=by
  intro b' x hx;rcases hob with ⟨vt1,rfl⟩|⟨_,vt1,rfl⟩<;>exact hx
 have hreal:a0N ob:=by rcases hob with ⟨vt1,rfl⟩|⟨_,vt1,rfl⟩<;>trivial
 have hents:∃ents clock,w.heap[(env mk).blk]? =some (.map ents clock)∧All2 (e3I P env (Sof P B M0 n0 env st.mem w) w kt) es ents.toList:=by
  have:=h.ob _ _ hg;rcases hob with ⟨vt1,rfl⟩|⟨rfl,vt1,rfl⟩
  ·exact this
  ·obtain ⟨ents,clock,h1,h2⟩:=this
   refine ⟨ents,clock,h1,?_⟩;have:ents.toList=[]:=by have:=h2.length;simpa using this.symm
   rw [this];trivial
 obtain ⟨ents,clock,hh,hents⟩:=hents;obtain ⟨q,hq,hq2⟩:=b6n hput;have hqn:q=none:=by
  cases q with
  |none=>rfl
  |some i=>obtain ⟨_,_,_,h4⟩:=hq2;cases h4
 subst hqn;have hkv:=a1R h.ob h.rows (h.evu ko) hkd;have hf:=run_findKey hkv ⟨b,hself⟩ (b8P hents) hq;have hck:=a1v (w:=w) false 12 kt _ _ _ (a.eval ko) hself (a27 hkv hself) 10000 (by decide)
 have hget:(getObj (env mk).blk).run P w= .ok (.map ents clock) w:=by unfold getObj;simp only [Sem.run,hh]
 have hnc:∀c T f,(Go.Obj.map ents clock)≠ .cells c T f:=fun _ _ _ e=>by cases e
 let w':World:={w with heap:=w.heap.setIfInBounds (env mk).blk (.map (ents.push {key:=a.eval ko,val:=a.eval xo,born:=clock}) (clock+1))}
 have hrun:(Instr.mapUpdate T (a.eval mo) (a.eval ko) (a.eval xo)).run P w= .ok () w':=by
  simp only [Instr.mapUpdate,e6b,run_underlying hu,e58,hmv,hget,hck,hf,a1w,Option.map_none];exact b0t hh hnc
 refine b10 (w':=w') ?_ ⟨env,_,Rel.put_u (Rel.upd h hg (o':= .tab kt vt (es++[(kd,c)])) (fun b _=>b=(env mk).blk) (b5r (w':=w') hh hnc rfl rfl rfl rfl) (fun b' x e=> ?_) hmut (fun _=>hreal) ?_ hreal ?_ ?_) hd undef,hk⟩
 ·rw [hexec]
  simp only [e6b,hrun,e58,e6c]
 ·rcases hob with ⟨vt1,rfl⟩|⟨_,vt1,rfl⟩<;>exact e
 ·intro b hb
  show (w.heap.setIfInBounds _ _)[b]? =_;rw [Array.getElem?_setIfInBounds,if_neg (Ne.symm hb)]
 ·intro S' hk'
  refine ⟨ents.push {key:=a.eval ko,val:=a.eval xo,born:=clock},clock+1,?_,?_⟩
  ·show (w.heap.setIfInBounds _ _)[_]? =_
   rw [Array.getElem?_setIfInBounds,if_pos rfl,if_pos (e6f.1 hh).1]
  ·rw [Array.toList_push]
   refine (hents.mono fun x y _ hxy=> ?_).append ⟨⟨⟨kd,a0R hk' hkv,fun _=>rfl⟩,?_⟩,trivial⟩
   ·obtain ⟨kd,q1,q2⟩:=hxy.1
    exact ⟨⟨kd,a0R hk' q1,q2⟩,a0j.mono hk' (fun _ _=>rfl) hxy.2⟩
   ·exact a0j.mono hk' (fun _ _=>rfl) (show a0j P env _ w c (a.eval xo) from hc)
 ·intro e ex xs he;cases he
theorem a8V {S:a0A} {mem:AL Obj} (hob:∀key o,get mem key=some o→a0x P env S w (env key) o) (hst:a0Y P env S mem) {T kt vt:TypeId} {key:Nat} {es:List (D×C)} {x k z:V} {vx vk:Value} {kd:D} {b:Bool} {p:Option C} (hx:a0s P env S w x vx) (hk:a0s P env S w k vk)
  (hm:x= .c (.m key)) (hu:P.underlying T=some (.map kt vt)) (hg:get mem key=some (.tab kt vt es)) (hkd:asD P mem kt k=some kd) (hz:a4K P vt=some z) (hb':eqD P kt kd kd=some b) (hp:d38 P kt kd es=some p):
  ∃v,(Instr.lookup T vx vk true).run P w= .ok v w∧a0s P env S w (.t [match p with|some c=> .c c|none=>z,.c (.k p.isSome)]) v:=by
 obtain ⟨ents,clock,hh,hents⟩:=hob _ _ hg;obtain ⟨q,hq,hq2⟩:=b6n hp;have hkv:=a1R hob hst hk hkd;have hself:∃b,eqD P kt kd kd=some b:=⟨b,hb'⟩;have hf:=run_findKey hkv hself (b8P hents) hq;have hck:=a1v (w:=w) ents.isEmpty 12 kt _ _ _ vk hb' (a27 hkv hb') 10000 (by decide)
 obtain ⟨zv,hzr,hzrel⟩:=a2F (env:=env) (S:=S) (w:=w) hz;subst hm;have hvx:vx= .map (some (env key).blk):=hx;subst hvx;have hget:(getObj (env key).blk).run P w= .ok (.map ents clock) w:=by
  unfold getObj;simp only [Sem.run,hh]
 simp only [Instr.lookup,e6b,run_underlying hu,e58,hget,e6c,hck,hf];cases q with
 |none=>
  subst hq2;simp only [a1w,Option.map_none,e6b,hzr,e58,e6c];exact ⟨_,rfl, #[zv,.bool false],rfl,b8y hz hzrel,rfl,trivial⟩
 |some i=>
  obtain ⟨k',c,h3,rfl⟩:=hq2;obtain ⟨en,hen,henr⟩:=hents.get h3;have hval:((ents.toList.getD i default).val)=en.val:=by rw [e6d,hen];rfl
  simp only [a1w,e6r,hval];exact ⟨_,rfl, #[en.val,.bool true],rfl,henr.2,rfl,trivial⟩
theorem b40 {R:Type} {d:Nat} {T:TypeId} {x hi:Operand} {key n:Nat} {kk:IntKind} {j:Int} {k:St→Option R} {r:R} {o:Oper} {Q:Exit→Act→World→Prop}
  (h:Rel P N n0 B M0 w0 F e0 env st a w) (hd:d<N) (ho:o.op= .slice T x none (some hi) none) (hdst:o.dst=some d)
  (hx:evu st x= .c (.bs key n)∨evu st x= .c (.bx key n)) (hhi:evu st hi= .c (.i kk j)) (hT:(a0h P T).isSome=true) (h0:0≤j) (h1:j≤n) (hml:n≤maxLen)
  (hk:k (st.put (some d) (.c (.bx key j.toNat)))=some r):o.wp P a w (a0P P N n0 B M0 w0 F e0 k r) Q:=by
 have hhv:a.eval hi= .int kk j:=by have:=h.evu hi;rw [hhi] at this;exact this
 obtain ⟨cap,hc1,hc2,hxv⟩:∃cap,n≤cap∧cap≤maxLen∧a.eval x= .slice (some ⟨(env key).blk,(env key).base,none⟩) n cap:=by
  have:=h.evu x;rcases hx with hx|hx
  ·rw [hx] at this;exact ⟨n,Nat.le_refl _,hml,this⟩
  ·rw [hx] at this;exact this
 obtain ⟨el,hel⟩:=Option.isSome_iff_exists.1 hT;obtain ⟨hu,hsl,hty,hpos⟩:=a0e hel;have hrun:(Instr.sliceAt T (a.eval x) none (some (a.eval hi)) none).run P w= .ok (.slice (some ⟨(env key).blk,(env key).base,none⟩) j.toNat cap) w:=by
  rw [hxv,hhv];have hr:=a60 (P:=P) (w:=w) (isS:=true) (len:=n) (cap:=cap) (vlo:=none) (vhi:=some (.int kk j)) (a:=0) (b:=j) (.inl ⟨rfl,rfl⟩) (.inr ⟨kk,rfl⟩) (Int.le_refl _) h0 h1 hc1;simp only [Instr.sliceAt,e6b,run_underlying hu,e58,Instr.slice,hr,a0J hty,e6c];simp [Addr.add_lit]
 refine a0z (v:= .slice (some ⟨(env key).blk,(env key).base,none⟩) j.toNat cap) (w':=w) ?_ ?_
 ·simp only [execOp,ho,Option.map_none,e6r,e6b,hrun,e58,e6c]
 ·rw [hdst]
  exact ⟨_,_,h.put (fun _ hdd=>by cases hdd;exact hd) (a0l.of (x:= .c (.bx key j.toNat)) ⟨cap,by omega,hc2,rfl⟩),hk⟩
theorem c6U {S:a0A} {key n:Nat} {cs:List C} (h:a0x P env S w (env key) (.box cs)) (hn:n≤cs.length):∃olds:List Value,olds.length=n∧(∀j v,olds[j]? =some v→w.cell? ⟨(env key).blk,(env key).base+j,none⟩=some v)∧All2 (a0j P env S w) (cs.take n) olds:=by
 obtain ⟨cur,T,h1,h2,h3,_⟩:=h;refine ⟨(cur.toList.drop (env key).base).take n,?_,?_,?_⟩
 ·simp;omega
 ·intro j v hv
  rw [List.getElem?_take] at hv;split at hv
  ·rw [List.getElem?_drop] at hv
   exact a2Y h1 (by simpa using hv)
  ·cases hv
 ·have:=h3.take n
  rwa [List.take_take,Nat.min_eq_left hn] at this
theorem b3B {R:Type} {d:Nat} {c:Call} {s x:Operand} {T T':TypeId} {k1 k2 n m:Nat} {c1 c2:List C} {k:St→Option R} {r:R} {o:Oper} {Q:Exit→Act→World→Prop} {el:TypeId}
  (h:Rel P N n0 B M0 w0 F e0 env st a w) (hd:d<N) (hF:¬F (kb+d)) (ho:o.op= .call c) (hdst:o.dst=some d) (hc:c.callee= .builtin .append) (ha:c.args.toList=[s,x]) (ht:c.argTypes.toList=[T,T']) (hT:T=T')
  (hel:a0h P T=some el) (hz:(a2U P el).isSome=true) (h1:evu st s= .c (.bs k1 n)) (h2:evu st x= .c (.bs k2 m)) (g1:get st.mem k1=some (.box c1)) (g2:get st.mem k2=some (.box c2)) (hs1:a0a P el=1) (hn:0<n) (hm:0<m)
  (l1:n≤c1.length) (l2:m≤c2.length) (hroom:a0V P el (n+m)=true) (hpl:a2l (c1.take n++c2.take m)=true)
  (hk:k ((a0o (kb+d) (.box ((c1.take n++c2.take m).map (inval (kb+d)))) st).put (some d) (.c (.bx (kb+d) (n+m))))=some r):o.wp P a w (a0P P N n0 B M0 w0 F e0 k r) Q:=by
 subst hT;have ha':c.args= #[s,x]:=by rw [←Array.toList_inj];exact ha
 have ht':c.argTypes= #[T,T]:=by rw [←Array.toList_inj];exact ht
 have hexec:∀{v:Value} {w':World},(Builtin.append_ #[T,T] o.type #[a.eval s,a.eval x]).run P w= .ok v w'→(execOp a.eval o).run P w= .ok (.value v) w':=by
  intro v w' hr;simp only [execOp,ho,resolve,hc,ha',ht',e6b,e6c,e58,invoke,builtin,List.map_toArray,List.map_cons,List.map_nil,hr]
 obtain ⟨z,hz'⟩:=Option.isSome_iff_exists.1 hz;obtain ⟨zv,_,⟨i,hi,hiz⟩,hzs,_⟩:=a08 hz';obtain ⟨hu,hsl,hty,hpos⟩:=a0e hel;have hsz:i.size=1:=by rw [←hs1];simp [a0a,hi]
 have hby:i.bytes=a07 P el:=by simp [a07,hi]
 have hsv:a.eval s= .slice (some ⟨(env k1).blk,(env k1).base,none⟩) n n:=by have:=h.evu s;rw [h1] at this;exact this
 have hxv:a.eval x= .slice (some ⟨(env k2).blk,(env k2).base,none⟩) m m:=by have:=h.evu x;rw [h2] at this;exact this
 obtain ⟨olds,q1,q2,q3⟩:=c6U (h.ob _ _ g1) l1;obtain ⟨news,p1,p2,p3⟩:=c6U (h.ob _ _ g2) l2;simp only [a0V,e57,decide_eq_true_eq] at hroom;obtain ⟨hr1,hr2⟩:=hroom;have hrun:=run_append_grow (P:=P) w T o.type el i zv hu hi hiz ⟨(env k1).blk,(env k1).base,none⟩ n n olds (by rw [q1,hsz,Nat.mul_one]) (fun j v hv=>by rw [Addr.add_lit];exact q2 j v hv)
  ⟨(env k2).blk,(env k2).base,none⟩ m m news (by rw [p1,hsz,Nat.mul_one]) (fun j v hv=>by rw [Addr.add_lit];exact p2 j v hv) (by omega) (by unfold a0c at hr2;omega) (growslice_fits (by omega) (by rw [hby];exact hr1))
 have hcap:=grownCap_ge w (n+m) n el;have hcm:=grownCap_le_maxLen w (n+m) n el (by unfold a0c at hr2;unfold maxLen;omega)
 rw [hsv,hxv] at hexec;refine a0z (hexec hrun) ?_;have hall:=q3.append p3;have hnb:=Rel.newBlock h (mem0:=st.mem) (fun _ _ hg=>hg) (kb+d) hF (.box ((c1.take n++c2.take m).map (inval (kb+d)))) none (.cells (olds.toArray++news.toArray++Builtin.zeroCells zv.cells (grownCap w (n+m) n el-(n+m))) el) (a04 w _) rfl fun S' hkeep=>by
  have hlen:(c1.take n++c2.take m).length=(olds++news).length:=hall.length;have hll:(olds++news).length=n+m:=by simp [q1,p1]
  refine ⟨_,el,by show (w.heap.push _)[w.heap.size]? =_;rw [Array.getElem?_push,if_pos rfl],?_,?_,a3O (fun _=>a4X) fun c hc=>b0j (a6q hpl c hc)⟩
  ·have e2:((c1.take n++c2.take m).map (inval (kb+d))).length=n+m:=by rw [List.length_map,hlen,hll]
   rw [e2];simp only [Nat.zero_add,Array.size_append,List.size_toArray,q1,p1];omega
  have h1':=hall.mapl (f:=inval (kb+d)) (R2:=a0j P (upd env (kb+d) ⟨w.heap.size,0,none⟩) S' (w.drew.alloc (.cells (olds.toArray++news.toArray++Builtin.zeroCells zv.cells (grownCap w (n+m) n el-(n+m))) el))) fun c u _ hcu=>a0j.inval hkeep (kb+d) (fun k hk=>by simp [upd,hk]) hcu
  have e1:(((olds.toArray++news.toArray++Builtin.zeroCells zv.cells (grownCap w (n+m) n el-(n+m))).toList.drop 0).take ((c1.take n++c2.take m).map (inval (kb+d))).length)=olds++news:=by
   rw [List.length_map,hlen,List.drop_zero,Array.toList_append,Array.toList_append,List.toList_toArray,List.toList_toArray,List.take_append_of_le_length (Nat.le_refl _),List.take_length]
  rw [e1];exact h1'
 rw [hdst];refine ⟨_,_,hnb.put (fun _ hdd=>by cases hdd;exact hd) ?_,hk⟩
 refine a0l.of (x:= .c (.bx (kb+d) (n+m))) ⟨grownCap w (n+m) n el,hcap,hcm,?_⟩;simp [upd]
end
def Nodup:List Ref→Prop
 | []=>True
 |r::rs=>(∀x∈rs,x.key≠r.key)∧Nodup rs
theorem b1e {k:Nat}:∀{l:List Ref} {i:Nat},a2B k l i=none→ ∀r∈l,r.key≠k
 | [],_,_,r,hr=>by simp at hr
 | x::l,i,h,r,hr=>by
  simp only [a2B,a0k] at h;by_cases hx:x.key=k
  ·rw [cond_true (by simpa using hx)] at h;cases h
  ·rw [cond_false (by simpa using hx)] at h
   rcases e6k.1 hr with rfl|hr
   ·exact hx
   ·exact b1e h r hr
theorem a1M {k:Nat}:∀{l:List Ref} {i0 i:Nat} {r:Ref},a2B k l i0=some (i,r)→ ∃j,i=i0+j∧l[j]? =some r∧r.key=k
 | [],_,_,_,h=>by simp [a2B] at h
 | x::l,i0,i,r,h=>by
  simp only [a2B,a0k] at h;by_cases hx:x.key=k
  ·rw [cond_true (by simpa using hx)] at h
   simp only [e55,e6q] at h;exact ⟨0,by omega,by simp [h.2],h.2▸hx⟩
  ·rw [cond_false (by simpa using hx)] at h
   obtain ⟨j,h1,h2,h3⟩:=a1M h;exact ⟨j+1,by omega,by simpa using h2,h3⟩
theorem b5s:∀{l:List Ref} {r:Ref},Nodup l→(∀x∈l,x.key≠r.key)→Nodup (l++[r])
 | [],r,_,_=>⟨by simp,trivial⟩
 | y::l,r,h,hr=>by
  refine ⟨fun x hx=> ?_,b5s h.2 fun x hx=>hr x (by simp [hx])⟩
  rcases List.mem_append.1 hx with hx|hx
  ·exact h.1 x hx
  ·simp only [List.mem_singleton] at hx
   subst hx;exact (hr y (by simp)).symm
theorem b3C:∀{l:List Ref} {i j:Nat} {r s:Ref},Nodup l→l[i]? =some r→l[j]? =some s→r.key=s.key→i=j
 | [],i,_,_,_,_,hi,_,_=>by simp at hi
 |x::l,0,0,_,_,_,_,_,_=>rfl
 |x::l,0,j+1,r,s,h,hi,hj,e=>by
  simp only [List.getElem?_cons_zero,e55] at hi;subst hi;exact absurd e.symm (h.1 s (List.mem_of_getElem? (by simpa using hj)))
 |x::l,i+1,0,r,s,h,hi,hj,e=>by
  simp only [List.getElem?_cons_zero,e55] at hj;subst hj;exact absurd e (h.1 r (List.mem_of_getElem? (by simpa using hi)))
 |x::l,i+1,j+1,r,s,h,hi,hj,e=>by
  exact congrArg (· +1) (b3C h.2 (by simpa using hi) (by simpa using hj) e)
theorem c43 (mem:AL Obj) (r:Ref):(b03 mem r).key=r.key:=by
 unfold b03;split
 ·rfl
 ·rename_i cs _
  split
  ·rename_i n _
   cases Nat.beq r.off 0&&Nat.beq n cs.length<;>rfl
  ·rfl
 ·rfl
theorem a2e {mem:AL Obj}:∀{n:Nat} {todo acc out:List Ref},Nodup acc→a37 mem n todo acc=some out→Nodup out
 |0,_,_,_,_,h=>by simp [a37] at h
 |n+1,[],acc,out,hn,h=>by simp only [a37,e55] at h;subst h;exact hn
 | n+1,r::rest,acc,out,hn,h=>by
  simp only [a37] at h;split at h
  ·rename_i i r' _
   cases hb:Nat.beq r.off r'.off&&c2i (b03 mem r).size r'.size with
   |false=>rw [hb] at h;cases h
   |true=>rw [hb] at h;exact a2e hn h
  ·rename_i hf
   have hsn:=b5s (r:=b03 mem r) hn fun x hx=>by rw [c43];exact b1e hf x hx
   split at h
   ·cases h
   ·split at h
    ·exact a2e hsn h
    ·cases h
   ·exact a2e hsn h
   ·exact a2e hsn h
def e0Q:Obj→Prop
 | .map _ _ _=>True
 | .dat _ _=>True
 |_=>False
theorem a41 {mem:AL Obj} {acc:List Ref}:∀{l:List Ref} {i0:Nat} {mem':AL Obj},a7P mem acc l i0=some mem'→
  (∀i ob,get mem' i=some ob→ ∃j r,i=i0+j∧l[j]? =some r∧ ∃o,get mem r.key=some o∧
   ((∃cs sub sub',o= .box cs∧a8H cs r=some sub∧a7M acc sub=some sub'∧ob= .box sub')∨(∃e ex nl xs,o= .row e ex nl xs∧r.off=0∧ob=o)∨(e0Q o∧r.off=0∧ob=o)))∧
  mem'.length=l.length∧(∀j,j<l.length→(get mem' (i0+j)).isSome)
 | [],i0,mem',h=>by
  simp only [a7P,e55] at h;subst h;exact ⟨fun i ob hg=>(by cases hg),rfl,fun j hj=>(by simp at hj)⟩
 | r ::rs,i0,mem',h=>by
  have step:∀(ob:Obj) (rest:AL Obj) (o:Obj),get mem r.key=some o→a7P mem acc rs (i0+1)=some rest→mem'=(i0,ob)::rest→
    ((∃cs sub sub',o= .box cs∧a8H cs r=some sub∧a7M acc sub=some sub'∧ob= .box sub')∨(∃e ex nl xs,o= .row e ex nl xs∧r.off=0∧ob=o)∨(e0Q o∧r.off=0∧ob=o))→
    (∀i ob,get mem' i=some ob→ ∃j r',i=i0+j∧(r::rs)[j]? =some r'∧ ∃o,get mem r'.key=some o∧
     ((∃cs sub sub',o= .box cs∧a8H cs r'=some sub∧a7M acc sub=some sub'∧ob= .box sub')∨(∃e ex nl xs,o= .row e ex nl xs∧r'.off=0∧ob=o)∨(e0Q o∧r'.off=0∧ob=o)))∧
    mem'.length=(r::rs).length∧(∀j,j<(r::rs).length→(get mem' (i0+j)).isSome):=by
   intro ob rest o hg hrest he hob;subst he;obtain ⟨h1,h2,h3⟩:=a41 hrest;refine ⟨fun i ob' hi=> ?_,by simp [h2],fun j hj=> ?_⟩
   ·simp only [get,a0k] at hi
    by_cases hii:i0=i
    ·rw [cond_true (by simpa using hii)] at hi
     simp only [e55] at hi;subst hi;exact ⟨0,r,by omega,by simp,o,hg,hob⟩
    ·rw [cond_false (by simpa using hii)] at hi
     obtain ⟨j,r',e1,e2,e3⟩:=h1 i ob' hi;exact ⟨j+1,r',by omega,by simpa using e2,e3⟩
   ·simp only [get,a0k]
    cases j with
    |zero=>simp
    |succ j=>
     rw [cond_false (by simp)]
     have:=h3 j (by simp at hj;omega)
     rwa [show i0+(j+1)=i0+1+j by omega]
  simp only [a7P] at h;split at h
  ·rename_i cs rest hg hrest
   split at h
   ·rename_i sub hsub
    split at h
    ·rename_i sub' hsub'
     simp only [e55] at h;exact step _ rest _ hg hrest h.symm (.inl ⟨cs,sub,sub',rfl,hsub,hsub',rfl⟩)
    ·cases h
   ·cases h
  ·rename_i e ex nl xs rest hg hrest
   cases ho:Nat.beq r.off 0 with
   |false=>rw [ho] at h;cases h
   |true=>
    rw [ho] at h;simp only [cond_true,e55] at h;exact step _ rest _ hg hrest h.symm (.inr (.inl ⟨e,ex,nl,xs,rfl,e56 ho,rfl⟩))
  ·rename_i kt vt es rest hg hrest
   cases ho:Nat.beq r.off 0 with
   |false=>rw [ho] at h;cases h
   |true=>
    rw [ho] at h;simp only [cond_true,e55] at h;exact step _ rest _ hg hrest h.symm (.inr (.inr ⟨trivial,e56 ho,rfl⟩))
  ·rename_i T d rest hg hrest
   cases ho:Nat.beq r.off 0 with
   |false=>rw [ho] at h;cases h
   |true=>
    rw [ho] at h;simp only [cond_true,e55] at h;exact step _ rest _ hg hrest h.symm (.inr (.inr ⟨trivial,e56 ho,rfl⟩))
  ·cases h
section
variable {P:Program} {env:Env} {S:a0A} {w:World}
def b1f (acc:List Ref) (env:Env):Env:=fun i=>match acc[i]? with
 |some r=>⟨(env r.key).blk,(env r.key).base+r.off,(env r.key).head⟩
 |none=>⟨0,0,none⟩
theorem a1S {acc:List Ref} {i:Nat} {r:Ref} (h:acc[i]? =some r):b1f acc env i=⟨(env r.key).blk,(env r.key).base+r.off,(env r.key).head⟩:=by simp [b1f,h]
theorem b5t {acc:List Ref} {S':a0A} (hk:a0y w S w S') {c c':C} {v:Value} (h:b8g acc c=some c') (hc:a0j P env S w c v):a0j P (b1f acc env) S' w c' v:=by
 cases c with
 | p k o=>
  simp only [b8g] at h;split at h
  ·rename_i i r hf
   obtain ⟨j,e1,e2,e3⟩:=a1M hf;cases hb:Nat.ble r.off o with
   |false=>rw [hb] at h;cases h
   |true=>
    rw [hb] at h;simp only [cond_true,e55] at h;subst h e1 e3;have hle:=e6g hb;simp only [a0j,Nat.zero_add,a1S e2] at hc⊢;rw [hc];congr 3
    omega
  ·cases h
 | o k=>
  simp only [b8g] at h;split at h
  ·rename_i i r hf
   obtain ⟨j,e1,e2,e3⟩:=a1M hf;simp only [e55] at h;subst h e1 e3;simp only [a0j,Nat.zero_add,a1S e2] at hc⊢;rw [hc];rfl
  ·cases h
 | m k=>
  simp only [b8g] at h;split at h
  ·rename_i i r hf
   obtain ⟨j,e1,e2,e3⟩:=a1M hf;simp only [e55] at h;subst h e1 e3;simp only [a0j,Nat.zero_add,a1S e2] at hc⊢;exact hc
  ·cases h
 | f fn caps=>
  simp only [b8g] at h;split at h
  ·rename_i cs hcs
   simp only [e55] at h;subst h;simp only [a0j] at hc⊢;have hbd:a1K fn cs=a1K fn caps:=by
    cases caps with
    |nil=>simp only [b0f,e55] at hcs;subst hcs;rfl
    |cons x r=>
     simp only [b0f] at hcs;split at hcs
     ·simp only [e55] at hcs;subst hcs;rfl
     ·cases hcs
   rw [hc,hbd];congr 1
   clear hc hbd;induction caps generalizing cs with
   |nil=>simp only [b0f,e55] at hcs;subst hcs;rfl
   | cons x caps ih=>
    simp only [b0f] at hcs;split at hcs
    ·rename_i y ys hy hys
     simp only [e55] at hcs;subst hcs;simp only [List.map_cons];rw [ih ys hys];congr 1
     unfold d35 at hy;split at hy
     ·rename_i i r hx
      obtain ⟨j,e1,e2,e3⟩:=a1M hx;cases hb:Nat.ble r.off x.2 with
      |false=>rw [hb] at hy;cases hy
      |true=>
       have hle:=e6g hb;rw [hb] at hy;simp only [cond_true,e55] at hy;subst hy e1;simp only [b1D,Nat.zero_add,a1S e2,e3];congr 3
       omega
     ·cases hy
    ·cases hcs
  ·cases h
 | bs k n=>
  simp only [b8g] at h;split at h
  ·rename_i i r hf
   obtain ⟨j,e1,e2,e3⟩:=a1M hf;cases hb:Nat.beq r.off 0 with
   |false=>rw [hb] at h;cases h
   |true=>
    rw [hb] at h;simp only [cond_true,e55] at h;subst h e1 e3;have h0:=e56 hb;simp only [a0j,Nat.zero_add,a1S e2] at hc⊢;rw [hc,h0];rfl
  ·cases h
 | bx k n=>
  simp only [b8g] at h;split at h
  ·rename_i i r hf
   obtain ⟨j,e1,e2,e3⟩:=a1M hf;cases hb:Nat.beq r.off 0 with
   |false=>rw [hb] at h;cases h
   |true=>
    rw [hb] at h;simp only [cond_true,e55] at h;subst h e1 e3;have h0:=e56 hb;simp only [a0j,Nat.zero_add,a1S e2] at hc⊢;rw [h0,Nat.add_zero];exact hc
  ·cases h
 | ba k T=>
  simp only [b8g] at h;split at h
  ·rename_i i r hf
   obtain ⟨j,e1,e2,e3⟩:=a1M hf;cases hb:Nat.beq r.off 0 with
   |false=>rw [hb] at h;cases h
   |true=>
    rw [hb] at h;simp only [cond_true,e55] at h;subst h e1 e3;have h0:=e56 hb;simp only [a0j,Nat.zero_add,a1S e2] at hc⊢;rw [h0,Nat.add_zero];exact hc
  ·cases h
 |y=>cases h
 |kp=>cases h
 |re=>simp [b8g] at h
 |pi=>simp [b8g] at h
 |el=>simp [b8g] at h
 |sl e n xs=>simp only [b8g,e55] at h;subst h;exact a1D.mono hk hc
 |_=>simp only [b8g,e55] at h;subst h;exact hc
theorem a8c {acc:List Ref} {S':a0A} (hk:a0y w S w S'):∀{cs cs':List C} {us:List Value},a7M acc cs=some cs'→All2 (a0j P env S w) cs us→All2 (a0j P (b1f acc env) S' w) cs' us
 | [],cs',us,h,hr=>by cases us with
  |nil=>simp only [a7M,e55] at h;subst h;trivial
  |cons=>exact hr.elim
 | c::cs,cs',us,h,hr=>by
  cases us with
  |nil=>exact hr.elim
  | cons u us=>
   simp only [a7M] at h;split at h
   ·rename_i x xs hx hxs
    simp only [e55] at h;subst h;exact ⟨b5t hk hx hr.1,a8c hk hxs hr.2⟩
   ·cases h
theorem c44 {acc:List Ref} {S':a0A} (hk:a0y w S w S') {x x':V} {v:Value} (h:e0F acc x=some x') (hx:a0s P env S w x v):a0s P (b1f acc env) S' w x' v:=by
 cases x with
 | c c=>
  simp only [e0F] at h;split at h
  ·rename_i y hy
   simp only [e55] at h;subst h;exact b5t hk hy hx
  ·cases h
 | g xs=>
  simp only [e0F] at h;split at h
  ·rename_i ys hys
   simp only [e55] at h;subst h;obtain ⟨vs,h1,h2⟩:=hx;exact ⟨vs,h1,a8c hk hys h2⟩
  ·cases h
 |_=>simp [e0F] at h
theorem a8d {acc:List Ref} {S':a0A} (hk:a0y w S w S'):∀{xs xs':List V} {vs:List Value},c4H acc xs=some xs'→All2 (a0s P env S w) xs vs→All2 (a0s P (b1f acc env) S' w) xs' vs
 | [],xs',vs,h,hr=>by cases vs with
  |nil=>simp only [c4H,e55] at h;subst h;trivial
  |cons=>exact hr.elim
 | c::cs,cs',us,h,hr=>by
  cases us with
  |nil=>exact hr.elim
  | cons u us=>
   simp only [c4H] at h;split at h
   ·rename_i x xs hx hxs
    simp only [e55] at h;subst h;exact ⟨c44 hk hx hr.1,a8d hk hxs hr.2⟩
   ·cases h
theorem a4A {acc:List Ref}:∀{cs cs':List C},a7M acc cs=some cs'→cs'.length=cs.length
 | [],cs',h=>by simp only [a7M,e55] at h;subst h;rfl
 | c::cs,cs',h=>by
  simp only [a7M] at h;split at h
  ·rename_i x xs hx hxs
   simp only [e55] at h;subst h;simp [a4A hxs]
  ·cases h
end
def a3g (P:Program) (env:Env) (mem:AL Obj):a0A:=fun b o=>∃k ob,get mem k=some ob∧a3B P (env k) ob b o
structure e0R (P:Program) (n0:Nat) (B M0:a0A) (w0:World) (F:Nat→Prop) (e0 env:Env) (mem:AL Obj) (w:World):Prop where
 hn0:n0=w0.heap.size
 ob:∀key o,get mem key=some o→a0x P env (Sof P B M0 n0 env mem w) w (env key) o
 ds:∀k k' o o',get mem k=some o→get mem k'=some o'→a0N o→a0N o'→k≠k'→(env k).blk≠(env k').blk
 mu:∀key o b x,get mem key=some o→a3B P (env key) o b x→M0 b x∨n0≤b
 pr:∀key e ex xs,get mem key=some (.row e ex false xs)→ ∀o,o<xs.length*a0a P e→B (env key).blk o∨n0≤(env key).blk∨M0 (env key).blk o
 ch:Chg M0 w0 w
 bb:∀b o,B b o→b<n0
 fx:∀k,F k→env k=e0 k
 gi:GI P M0 w0
theorem Rel.toM {P:Program} {N n0:Nat} {F:Nat→Prop} {B M0:a0A} {w0 w:World} {e0:a6l} {env:Env} {st:St} {a:Act} (h:Rel P N n0 B M0 w0 F e0 env st a w):e0R P n0 B M0 w0 F e0.f env st.mem w:=
 ⟨h.hn0,h.ob,h.ds,h.mu,h.pr,h.ch,h.bb,h.fx,h.gi⟩
structure b0u (P:Program) (B:a0A) (env:Env) (mem:AL Obj) (w:World):Prop where
 rel:e0R P w.heap.size B (a3g P env mem) w (· <mem.length) env env mem w
 key:∀k o,get mem k=some o→k<mem.length
def a65 (P:Program) (B:a0A) (env:Env) (mem:AL Obj) (w:World) (res:Res) (v:Value) (w':World):Prop:=
 ∃env',e0R P w.heap.size B (a3g P env mem) w (· <mem.length) env env' res.2 w'∧a0s P env' (Sof P B (a3g P env mem) w.heap.size env' res.2 w') w' (a3L res.1) v
def a2z (P:Program) (f:FuncId) (args:List V) (mem:AL Obj) (res:Res):Prop:=
 ∀(B:a0A) (env:Env) (w:World) (vs:Array Value),b0u P B env mem w→All2 (a0s P env (Sof P B (a3g P env mem) w.heap.size env mem w) w) args vs.toList→
  Calls P f vs w fun e w'=>∃v,e= .returned v∧a65 P B env mem w res v w'
def a6x (P:Program) (f:FuncId):Prop:=∃fn,P.funcs[f]? =some fn∧fn.body.isNone=false∧(fn.name== "runtime.NumGoroutine")=false
def a0m (P:Program) (cl:a0i):Prop:=∀f args mem alts,cl f args mem=some alts→a6x P f∧ ∀res,a4v alts some=some res→a2z P f args mem res
theorem a42 {α R:Type} {k:α→Option R}:∀{alts:List (Bool×α)},a4v alts k=(a4v alts some).bind k
 | []=>rfl
 |(c,x)::r=>by
  simp only [a4v];cases c with
  |true=>rfl
  |false=>exact a42
theorem a4f {cs sub:List C} {r:Ref} (h:a8H cs r=some sub):r.off+sub.length≤cs.length∧sub=(cs.drop r.off).take sub.length∧(∀n,r.size=some n→sub.length=n)∧(r.size=none→r.off=0∧sub=cs):=by
 unfold a8H at h;split at h
 ·rename_i hs
  cases hb:Nat.beq r.off 0 with
  |false=>rw [hb] at h;cases h
  |true=>
   rw [hb] at h;simp only [cond_true,e55] at h;subst h;have:=e56 hb;exact ⟨by omega,by rw [this];simp,fun n hn=>(by rw [hs] at hn;cases hn),fun _=>⟨this,rfl⟩⟩
 ·rename_i n hs
  cases hb:Nat.ble (r.off+n) cs.length with
  |false=>rw [hb] at h;cases h
  |true=>
   rw [hb] at h;simp only [cond_true,e55] at h;subst h;have hle:=e6g hb;have hl:((cs.drop r.off).take n).length=n:=by simp;omega
   exact ⟨by omega,by rw [hl],fun m hm=>(by rw [hs] at hm;cases hm;exact hl),fun hn=>(by rw [hs] at hn;cases hn)⟩
theorem b41 {α:Type} (l:List α) (base n off m:Nat) (h:off+m≤n):(((l.drop base).take n).drop off).take m=(l.drop (base+off)).take m:=by
 rw [List.drop_take,List.take_take,List.drop_drop,Nat.min_eq_left (by omega)]
theorem c6V {P:Program} {T:TypeId} {n:Nat} {acc:List Ref} {c c':C} (hr:b8g acc c=some c') (h:a4w P T n c):a4w P T n c':=by
 cases c with
 | ba k T'=>
  simp only [b8g] at hr;split at hr
  ·rename_i i r _
   cases hb:Nat.beq r.off 0 with
   |false=>rw [hb] at hr;cases hr
   |true=>rw [hb] at hr;cases hr;exact h
  ·cases hr
 |_=>
  simp only [b8g] at hr;all_goals (try repeat' split at hr)
  all_goals first|(cases hr;trivial)|(cases hr;done)|(rename_i r _;cases hb:Nat.ble r.off _ with|false=>(rw [hb] at hr;cases hr)|true=>(rw [hb] at hr;cases hr;trivial))|(rename_i r _;cases hb:Nat.beq r.off 0 with|false=>(rw [hb] at hr;cases hr)|true=>(rw [hb] at hr;cases hr;trivial))
theorem b5u {P:Program} {T:TypeId} {n:Nat} {acc:List Ref}:∀{cs cs':List C},a7M acc cs=some cs'→(∀c∈cs,a4w P T n c)→ ∀c∈cs',a4w P T n c
 | [],cs',hr,_,c,hc=>by cases hr;cases hc
 | x::xs,cs',hr,h,c,hc=>by
  unfold a7M at hr;split at hr
  ·rename_i y ys h1 h2
   cases hr;rcases e6k.1 hc with rfl|hc
   ·exact c6V h1 (h x (by simp))
   ·exact b5u h2 (fun c hc=>h c (by simp [hc])) c hc
  ·cases hr
section
variable {P:Program} {N n0 kb:Nat} {F:Nat→Prop} {B M0:a0A} {w0:World} {e0:a6l} {env:Env} {st:St} {a:Act} {w:World}
theorem c9J {acc:List Ref} {mem mem':AL Obj} (hh:a7P mem acc acc 0=some mem') {i:Nat} {ob:Obj} {b x:Nat} (hg:get mem' i=some ob) (hm:a3B P (b1f acc env i) ob b x):
  ∃r o,acc[i]? =some r∧get mem r.key=some o∧a3B P (env r.key) o b x:=by
 obtain ⟨j,r,e1,e2,o,h1,h2⟩:=(a41 hh).1 i ob hg;rw [Nat.zero_add] at e1;subst e1;refine ⟨r,o,e2,h1,?_⟩;rw [a1S e2] at hm;rcases h2 with ⟨cs,sub,sub',rfl,hs,hs',rfl⟩|⟨e,ex,nl,xs,rfl,ho,rfl⟩|⟨hmd,ho,rfl⟩
 ·obtain ⟨q1,_⟩:=a4f hs
  have q2:=a4A hs';obtain ⟨m1,m2,m3⟩:=hm;exact ⟨m1,by simp only at m2;omega,by simp only at m3;omega⟩
 ·exact hm
 ·cases ob<;>first|exact hm|exact hmd.elim
theorem c2E (h:Rel P N n0 B M0 w0 F e0 env st a w) {acc:List Ref} (hnd:Nodup acc) {mem':AL Obj} (hh:a7P st.mem acc acc 0=some mem'):
  b0u P (Sof P B M0 n0 env st.mem w) (b1f acc env) mem' w∧
  a0y w (Sof P B M0 n0 env st.mem w) w (Sof P (Sof P B M0 n0 env st.mem w) (a3g P (b1f acc env) mem') w.heap.size (b1f acc env) mem' w):=by
 obtain ⟨g1,g2,g3⟩:=a41 hh;have hkeep:a0y w (Sof P B M0 n0 env st.mem w) w (Sof P (Sof P B M0 n0 env st.mem w) (a3g P (b1f acc env) mem') w.heap.size (b1f acc env) mem' w):=by
  intro b o v hS hv;refine ⟨⟨.inl hS,hS.2.1,fun k ob hg hm=> ?_⟩,hv⟩
  obtain ⟨r,o',_,h1,h2⟩:=c9J hh hg hm;exact hS.2.2 r.key o' h1 h2
 have hkey:∀k o,get mem' k=some o→k<mem'.length:=by
  intro k o hg;obtain ⟨j,r,e1,e2,_⟩:=g1 k o hg;have:=(e6h.1 e2).1;omega
 refine ⟨⟨⟨rfl,?_,?_,?_,?_,Chg.refl _ w,fun b o hS=>hS.2.1,fun _ _=>rfl,h.gi.step h.ch fun b o ⟨k,ob,hg,hm⟩=> ?_⟩,hkey⟩,hkeep⟩
 ·intro i ob hg
  obtain ⟨j,r,e1,e2,o,h1,h2⟩:=g1 i ob hg;rw [Nat.zero_add] at e1;subst e1;have hob:=h.ob _ _ h1;rw [a1S e2];rcases h2 with ⟨cs,sub,sub',rfl,hs,hs',rfl⟩|⟨e,ex,nl,xs,rfl,ho,rfl⟩|⟨hmd,ho,rfl⟩
  ·obtain ⟨q1,q2,_,_⟩:=a4f hs
   have q3:=a4A hs';obtain ⟨cur,T,c1,c2,c3,c4⟩:=hob;refine ⟨cur,T,c1,by simp only;omega,?_,b5u hs' fun c hc=>c4 c (by rw [q2] at hc;exact List.mem_of_mem_drop (List.mem_of_mem_take hc))⟩
   have hr:All2 (a0j P env (Sof P B M0 n0 env st.mem w) w) sub ((cur.toList.drop ((env r.key).base+r.off)).take sub.length):=by
    have:=(c3.drop r.off).take sub.length;rw [b41 _ _ _ _ _ q1] at this;rw [q2];have hl:((cs.drop r.off).take sub.length).length=sub.length:=by simp;omega
    rw [hl];exact this
   rw [q3];exact a8c hkeep hs' hr
  ·rw [ho]
   exact a3P (s:=⟨(env r.key).blk,(env r.key).base+0,(env r.key).head⟩) hkeep (fun _=>rfl) hob ex
  ·cases ob with
   |box=>exact hmd.elim
   |row=>exact hmd.elim
   |tab=>exact hmd.elim
   |krow=>exact hmd.elim
   |map kt vt es=>exact a62 (s:=⟨(env r.key).blk,(env r.key).base+r.off,(env r.key).head⟩) hkeep rfl hob
   |dat T d=>
    rw [ho];exact a63 (s:=⟨(env r.key).blk,(env r.key).base+0,(env r.key).head⟩) hkeep rfl hob
 ·intro k k' o o' hg hg' hr hr' hne
  obtain ⟨j,r,e1,e2,ob,h1,h2⟩:=g1 k o hg;obtain ⟨j',r',e1',e2',ob',h1',h2'⟩:=g1 k' o' hg';rw [Nat.zero_add] at e1 e1';subst e1 e1';rw [a1S e2,a1S e2'];have real:∀{o ob:Obj} {r:Ref},((∃cs sub sub',ob= .box cs∧a8H cs r=some sub∧a7M acc sub=some sub'∧o= .box sub')∨(∃e ex nl xs,ob= .row e ex nl xs∧r.off=0∧o=ob)∨(e0Q ob∧r.off=0∧o=ob))→a0N o→a0N ob:=by
   rintro o ob r (⟨cs,sub,sub',rfl,_,_,rfl⟩|⟨e,ex,nl,xs,rfl,_,rfl⟩|⟨hmd,_,rfl⟩) hr
   ·trivial
   ·exact hr
   ·cases o<;>first|trivial|exact hmd.elim
  refine h.ds r.key r'.key ob ob' h1 h1' (real h2 hr) (real h2' hr') fun hk=>hne (b3C hnd e2 e2' hk)
 ·intro key o b x hg hm;exact .inl ⟨key,o,hg,hm⟩
 ·intro key e ex xs hg o ho
  obtain ⟨j,r,e1,e2,ob,h1,h2⟩:=g1 key _ hg;rw [Nat.zero_add] at e1;subst e1;rcases h2 with ⟨cs,sub,sub',rfl,hs,hs',hrow⟩|⟨e',ex',nl',xs',rfl,hoff,hrow⟩|⟨hmd,_,hrow⟩
  ·cases hrow
  ·simp only [Obj.row.injEq] at hrow
   obtain ⟨rfl,rfl,rfl,rfl⟩:=hrow;rw [a1S e2];cases ex with
   |false=>exact .inl (h.rows r.key e xs h1 o ho)
   |true=>exact .inr (.inr ⟨_,_,hg,rfl,by rw [a1S e2],.inl rfl⟩)
  ·rw [←hrow] at hmd;exact hmd.elim
 ·obtain ⟨r,o',_,h1,h2⟩:=c9J hh hg hm
  rw [←h.hn0];exact h.mu _ _ _ _ h1 h2
theorem b8Q {M:a0A} {w w':World} (h:Chg M w w') {b:Nat} (hb:b<w.heap.size) (hno:∀o,¬M b o):w'.heap[b]? =w.heap[b]? :=by
 have hs:=Array.getElem?_eq_getElem hb;rw [hs];exact h.other b _ hs hno
end
def a5H (ks:List Nat) (c:C):C:=ks.foldl (fun c k=>inval k c) c
def c0Y (ks:List Nat) (c:V):V:=ks.foldl (fun c k=>c2f k c) c
def a1Z (ks:List Nat) (c:Obj):Obj:=ks.foldl (fun c k=>a4s k c) c
theorem a1j {k:Nat}:∀{l:List Nat},b0d k l=true↔k∈l
  | []=>by simp [b0d]
  | m ::r=>by
    simp only [b0d,a0k,e6k];by_cases h:m=k
    ·simp [h]
    · rw [cond_false (by simpa using h),a1j]
      exact ⟨.inr,fun h'=>h'.resolve_left (Ne.symm h)⟩
theorem a2q {n base key:Nat}:∀{l:AL Obj},key∈a1G n base l↔ ∃k o,(k,o)∈l∧n≤k∧key=base+k
  | []=>by simp [a1G]
  | (k, o)::r=>by
    have ih:=a2q (n:=n) (base:=base) (key:=key) (l:=r);simp only [a1G];cases hb:Nat.ble n k with
    | true=>
      have hle:=e6g hb;simp only [cond_true,e6k,ih];constructor
      · rintro (h|⟨k',o',h1,h2,h3⟩)
        ·exact ⟨k,o,.inl rfl,hle,h⟩
        ·exact ⟨k',o',.inr h1,h2,h3⟩
      · rintro ⟨k',o',h1|h1,h2,h3⟩
        ·simp only [e6q] at h1;exact .inl (by rw [h3,h1.1])
        ·exact .inr ⟨k',o',h1,h2,h3⟩
    | false=>
      have hlt:¬n≤k:=fun hc=>by rw [Nat.ble_eq_true_of_le hc] at hb;cases hb
      simp only [cond_false,ih];constructor
      ·rintro ⟨k',o',h1,h2,h3⟩;exact ⟨k',o',by simp [h1],h2,h3⟩
      · rintro ⟨k',o',h1,h2,h3⟩
        rcases e6k.1 h1 with h1|h1
        ·simp only [e6q] at h1;omega
        ·exact ⟨k',o',h1,h2,h3⟩
theorem a4g {α:Type} {k:Nat} {x:α}:∀{l:AL α},get l k=some x→(k,x)∈l
  | [],h=>by cases h
  | (m,y)::r,h=>by
    simp only [get,a0k] at h;by_cases hk:m=k
    ·rw [cond_true (by simpa using hk)] at h;simp only [e55] at h;simp [hk,h]
    ·rw [cond_false (by simpa using hk)] at h;exact List.mem_cons_of_mem _ (a4g h)
theorem a8W:∀(ks:List Nat) (st:St) (t:Nat),get (a12 ks st).tmps t=(get st.tmps t).map (c0Y ks)
  | [],st,t=>by
    have:c0Y []=id:=rfl;simp [a12,this]
  | k::ks,st,t=>by
    simp only [a12,a8W ks,a1c,Option.map_map];rfl
theorem a6y:∀(ks:List Nat) (st:St) (t:Nat),get (a12 ks st).mem t=if t∈ks then none else (get st.mem t).map (a1Z ks)
  | [],st,t=>by
    have:a1Z []=id:=rfl;simp [a12,this]
  | k ::ks,st,t=>by
    simp only [a12,a6y ks,a71,a1c];by_cases h:t∈ks
    ·simp [h]
    · by_cases hk:t=k
      ·subst hk;simp
      ·simp only [h,hk,if_false,e6k,or_self,Option.map_map];rfl
theorem b5v {acc:List Ref} {base:Nat} {mem:AL Obj} {key:Nat}:∀{memR:AL Obj},get (a6g acc base memR mem) key=
    if key∈a1G acc.length base memR then (get memR (key-base)).map (b28 acc base) else get mem key
  | []=>by simp [a6g,a1G]
  | (k, o)::r=>by
    have ih:=b5v (acc:=acc) (base:=base) (mem:=mem) (key:=key) (memR:=r);by_cases hle:acc.length≤k
    · have hb:=Nat.ble_eq_true_of_le hle
      simp only [a6g,a1G,hb,cond_true,a1Q];by_cases hk:key=base+k
      · subst hk
        simp [get]
      · rw [if_neg hk,ih]
        by_cases hm:key∈a1G acc.length base r
        · rw [if_pos hm,if_pos (by simp [hm])]
          obtain ⟨k',o',_,h2,h3⟩:=a2q.1 hm;simp only [get,a0k];rw [cond_false (by simp;omega)]
        ·rw [if_neg hm,if_neg (by simp [hk,hm])]
    · have hb:Nat.ble acc.length k=false:=by
        cases hb:Nat.ble acc.length k with
        |false=>rfl
        |true=>exact absurd (e6g hb) hle
      simp only [a6g,a1G,hb,cond_false,ih];by_cases hm:key∈a1G acc.length base r
      · rw [if_pos hm,if_pos hm]
        obtain ⟨k',o',_,h2,h3⟩:=a2q.1 hm;simp only [get,a0k];rw [cond_false (by simp;omega)]
      ·rw [if_neg hm,if_neg hm]
def b8R (acc:List Ref) (base:Nat) (mem:AL Obj) (r:Ref) (o ob:Obj):Prop:=
  (r.size=none∧ob=b28 acc base o)∨ ∃n sub cs,r.size=some n∧o= .box sub∧sub.length=n∧get mem r.key=some (.box cs)∧ob= .box (a3k cs r.off (sub.map (a38 acc base)))
theorem b3D {acc : List Ref} {base : Nat} {memR:AL Obj}:∀{l:List Ref} {i0:Nat} {mem mem2:AL Obj},Nodup l→a4a acc base memR l i0 mem=some mem2→ ∀key ob,get mem2 key=some ob→
    (∃j r o,l[j]? =some r∧key=r.key∧get memR (i0+j)=some o∧b8R acc base mem r o ob)∨((∀r∈l,r.key≠key)∧get mem key=some ob)
  | [],i0,mem,mem2,_,h,key,ob,hg=>by
    simp only [a4a,e55] at h;subst h;exact .inr ⟨by simp,hg⟩
  | r :: rs, i0, mem, mem2, hn, h, key, ob,hg=>by
    have later:∀(mem1:AL Obj),(∀k,k≠r.key→get mem1 k=get mem k)→a4a acc base memR rs (i0+1) mem1=some mem2→
        (∃j r' o,(r::rs)[j]? =some r'∧key=r'.key∧get memR (i0+j)=some o∧b8R acc base mem r' o ob)∨((∀r'∈rs,r'.key≠key)∧get mem1 key=some ob):=by
      intro mem1 h1 h2;rcases b3D hn.2 h2 key ob hg with ⟨j,r',o,e1,e2,e3,e4⟩|h3
      · refine .inl ⟨j+1,r',o,by simpa using e1,e2,by rw [show i0+(j+1)=i0+1+j by omega];exact e3,?_⟩
        rcases e4 with e4|⟨n,sub,cs,f1,f2,f3,f4,f5⟩
        ·exact .inl e4
        ·exact .inr ⟨n,sub,cs,f1,f2,f3,by rw [←h1 r'.key (hn.1 r' (List.mem_of_getElem? e1))];exact f4,f5⟩
      ·exact .inr h3
    simp only [a4a] at h;split at h
    · rcases later _ (fun k hk => by rw [a71,if_neg hk]) h with h1|⟨h1,h2⟩
      ·exact .inl h1
      · rw [a71] at h2
        by_cases hk:key=r.key
        ·rw [if_pos hk] at h2;cases h2
        · rw [if_neg hk] at h2
          exact .inr ⟨fun r' hr' => (by rcases e6k.1 hr' with rfl|hr'
                                        ·exact Ne.symm hk
                                        ·exact h1 r' hr'),h2⟩
    · rename_i o ho
      have put:∀(X:Obj),b8R acc base mem r o X→a4a acc base memR rs (i0+1) (set mem r.key X)=some mem2→
          (∃j r' o,(r::rs)[j]? =some r'∧key=r'.key∧get memR (i0+j)=some o∧b8R acc base mem r' o ob)∨((∀r'∈r::rs,r'.key≠key)∧get mem key=some ob):=by
        intro X hX hb;rcases later _ (fun k hk=>by rw [a1Q,if_neg hk]) hb with h1|⟨h1,h2⟩
        ·exact .inl h1
        · rw [a1Q] at h2
          by_cases hk:key=r.key
          · rw [if_pos hk] at h2
            simp only [e55] at h2;subst h2;exact .inl ⟨0,r,o,by simp,hk,by simpa using ho,hX⟩
          · rw [if_neg hk] at h2
            exact .inr ⟨fun r' hr' => (by rcases e6k.1 hr' with rfl|hr'
                                          ·exact Ne.symm hk
                                          ·exact h1 r' hr'),h2⟩
      split at h
      · rename_i hs
        exact put _ (.inl ⟨hs,rfl⟩) h
      · rename_i n hs
        split at h
        · rename_i sub cs hcs
          cases hb:Nat.beq sub.length n with
          |false=>rw [hb] at h;cases h
          | true=>
            rw [hb] at h;exact put _ (.inr ⟨n,sub,cs,hs,rfl,e56 hb,hcs,rfl⟩) h
        ·cases h
theorem b3E {memR:AL Obj} {news:List Nat}:∀{l:List Ref} {i0:Nat},a6i memR news l i0=true→ ∀j r o,l[j]? =some r→get memR (i0+j)=some o→r.key∉news
  | [],_,_,j,_,_,hj,_=>by simp at hj
  | x ::l,i0,h,j,r,o,hj,ho=>by
    simp only [a6i,e57] at h;cases j with
    | zero=>
      simp only [List.getElem?_cons_zero,e55] at hj;subst hj;intro hm;rw [cond_true (a1j.2 hm)] at h;have:=h.1;rw [show i0+0=i0 from rfl] at ho;rw [ho] at this;cases this
    |succ j=>exact b3E h.2 j r o (by simpa using hj) (by rw [show i0+1+j=i0+(j+1) by omega];exact ho)
theorem a8e {mem:AL Obj}:∀{ks:List Nat},b29 mem ks=true→ ∀k∈ks,∃o,get mem k=some o
  | [],_,k,hk=>by simp at hk
  | m::ks,h,k,hk=>by
    simp only [b29,e57] at h;rcases e6k.1 hk with rfl|hk
    ·exact Option.isSome_iff_exists.1 h.1
    ·exact a8e h.2 k hk
theorem a8X {mem:AL Obj}:∀{l:AL Obj},a8I mem l=true→ ∀k o,(k,o)∈l→(∀x∈a1g o,∃o',get mem x=some o')∧b54 o=true
  | [],_,k,o,h=>by simp at h
  | (m,y)::r,h,k,o,hm=>by
    simp only [a8I,e57] at h;rcases e6k.1 hm with hm|hm
    · simp only [e6q] at hm
      obtain ⟨rfl,rfl⟩:=hm;exact ⟨a8e h.1.1,h.1.2⟩
    ·exact a8X h.2 k o hm
theorem a8f {P:Program} {s:a1J} {b x:Nat}:∀{ks:List Nat} {o:Obj},a3B P s (a1Z ks o) b x↔a3B P s o b x
  | [],_=>Iff.rfl
  |k::ks,o=>(a8f (ks:=ks) (o:=a4s k o)).trans b5l
theorem a1N:∀{ks:List Nat} {o:Obj},a0N (a1Z ks o)↔a0N o
  | [],_=>Iff.rfl
  |k::ks,o=>(a1N (ks:=ks) (o:=a4s k o)).trans a29
theorem b1g {P:Program} {T:TypeId} {n:Nat}:∀{ks:List Nat} {c:C},a4w P T n c→a4w P T n (a5H ks c)
  | [],_,h=>h
  |k::r,c,h=>b1g (ks:=r) (a4X h)
theorem a8g:∀{ks:List Nat} {cs:List C},a1Z ks (.box cs)= .box (cs.map (a5H ks))
  | [],cs=>by
    have:a5H []=id:=rfl;simp [a1Z,this]
  | k::ks,cs=>by
    show a1Z ks (.box (cs.map (inval k)))=_;rw [a8g,List.map_map];rfl
theorem a8h {e:TypeId} {ex nl:Bool} {xs:List D}:∀{ks:List Nat},a1Z ks (.row e ex nl xs)= .row e ex nl xs
  | []=>rfl
  |_::ks=>a8h (ks:=ks)
theorem a8i {kt vt:TypeId} {es:List (D×D)}:∀{ks:List Nat},a1Z ks (.map kt vt es)= .map kt vt es
  | []=>rfl
  |_::ks=>a8i (ks:=ks)
theorem a8j {kt vt:TypeId}:∀{ks:List Nat} {es:List (D×C)},a1Z ks (.tab kt vt es)= .tab kt vt (es.map fun x=>(x.1,a5H ks x.2))
  | [],es=>by
    have:a5H []=id:=rfl;simp [a1Z,this]
  | k::ks,es=>by
    show a1Z ks (.tab kt vt (es.map fun x=>(x.1,inval k x.2)))=_
    rw [a8j,List.map_map];rfl
theorem a8k {T:TypeId} {d:D}:∀{ks:List Nat},a1Z ks (.dat T d)= .dat T d
  | []=>rfl
  |_::ks=>a8k (ks:=ks)
theorem a6z {e:TypeId} {i q:Nat} {xs:List D}:∀{ks:List Nat} {c:C},a1Z ks (.krow e i q c xs)= .krow e i q (a5H ks c) xs
  | [],c=>rfl
  | k::ks,c=>by
    show a1Z ks (.krow e i q (inval k c) xs)=_;rw [a6z];rfl
theorem b42 {ks:List Nat} {o:Obj} {cs:List C} (h:a1Z ks o= .box cs):∃cs0,o= .box cs0∧cs=cs0.map (a5H ks):=by
  cases o with
  |box cs0=>rw [a8g] at h;simp only [Obj.box.injEq] at h;exact ⟨cs0,rfl,h.symm⟩
  |row=>rw [a8h] at h;cases h
  |map=>rw [a8i] at h;cases h
  |tab=>rw [a8j] at h;cases h
  |dat=>rw [a8k] at h;cases h
  |krow=>rw [a6z] at h;cases h
theorem a0y.refl (w:World) (S:a0A):a0y w S w S:=fun _ _ _ a b=>⟨a,b⟩
section
variable {P:Program} {S S':a0A} {w w':World}
theorem a0j.invals {env':Env} (hk:a0y w S w' S'):∀(ks:List Nat) {env:Env},(∀k,k∉ks→env' k=env k)→ ∀{c:C} {v:Value},a0j P env S w c v→a0j P env' S' w' (a5H ks c) v
  | [],env,he,c,v,h=>a0j.mono hk (fun k _=>he k (by simp)) h
  | k ::ks,env,he,c,v,h=>a0j.invals hk ks (env:=fun x=>if x=k then env' k else env x) (fun x hx=>by
      by_cases hxk:x=k
      ·simp [hxk]
      ·simp only [hxk,if_false];exact he x (by simp [hxk,hx])) (a0j.inval (a0y.refl w S) k (fun x hx=>if_neg hx) h)
theorem a0l.invals {a:Act} {env':Env} (hk:a0y w S w' S'):∀(ks:List Nat) {env:Env},(∀k,k∉ks→env' k=env k)→ ∀{c:V} {v:Value},a0l P env S w a c v→a0l P env' S' w' a (c0Y ks c) v
  | [],env,he,c,v,h=>a0l.mono hk (fun k=>he k (by simp)) h
  | k ::ks,env,he,c,v,h=>a0l.invals hk ks (env:=fun x=>if x=k then env' k else env x) (fun x hx=>by
      by_cases hxk:x=k
      ·simp [hxk]
      ·simp only [hxk,if_false];exact he x (by simp [hxk,hx])) (a0l.inval (a0y.refl w S) k (fun x hx=>if_neg hx) h)
theorem b5w {env':Env} {s:a1J} (hk:a0y w S w' S'):∀(ks:List Nat) {env:Env},(∀k,k∉ks→env' k=env k)→ ∀{o:Obj},(a0N o→w'.heap[s.blk]? =w.heap[s.blk]?)→a0x P env S w s o→a0x P env' S' w' s (a1Z ks o)
  | [],env,he,o,hh,h=>by
    have:env'=env:=funext fun k=>he k (by simp)
    subst this;exact a1d hk hh h
  | k ::ks,env,he,o,hh,h=>b5w hk ks (env:=fun x=>if x=k then env' k else env x) (fun x hx=>by
      by_cases hxk:x=k
      ·simp [hxk]
      ·simp only [hxk,if_false];exact he x (by simp [hxk,hx])) (fun hr=>hh (a29.1 hr)) (b8D (a0y.refl w S) (fun x hx=>if_neg hx) (fun _=>rfl) h)
variable {env1 env2:Env} {acc:List Ref} {base:Nat}
def a8Y (env1 env2:Env) (acc:List Ref) (base k:Nat):Prop:=
  (env2 (a06 acc base k).1).blk=(env1 k).blk∧(env2 (a06 acc base k).1).base+(a06 acc base k).2=(env1 k).base∧(env2 (a06 acc base k).1).head=(env1 k).head
theorem a2r (hk:a0y w S w' S') {c:C} {v:Value} (hb:∀k∈a1C c,a8Y env1 env2 acc base k) (h:a0j P env1 S w c v):a0j P env2 S' w' (a38 acc base c) v:=by
  cases c with
  | p k o=>
    obtain ⟨h1,h2,h3⟩:=hb k (by simp [a1C])
    simp only [a38,a0j] at h⊢;rw [h,h1,←Nat.add_assoc,h2]
  | re k e ix o=>
    obtain ⟨h1,h2,h3⟩:=hb k (by simp [a1C])
    simp only [a38,a0j] at h⊢;rw [h,h1]
  | pi k b l e ix o=>
    obtain ⟨h1,h2,h3⟩:=hb k (by simp [a1C])
    simp only [a38,a0j] at h⊢;refine ⟨h.1,h.2.1,?_⟩;rw [h.2.2,h1,←h2];congr 3
    omega
  | o k=>
    obtain ⟨h1,h2,h3⟩:=hb k (by simp [a1C])
    simp only [a38,a0j,a1J.hdr] at h⊢;rw [h,h1,h3]
  | m k=>
    obtain ⟨h1,h2,h3⟩:=hb k (by simp [a1C])
    simp only [a38,a0j] at h⊢;rw [h,h1]
  | bs k n=>
    obtain ⟨h1,h2,h3⟩:=hb k (by simp [a1C])
    simp only [a38];cases h0:Nat.beq (a06 acc base k).2 0 with
    |false=>trivial
    | true=>
      simp only [cond_true,a0j] at h⊢;have:=e56 h0;rw [h,h1,←h2,this,Nat.add_zero]
  | bx k n=>
    obtain ⟨h1,h2,h3⟩:=hb k (by simp [a1C])
    simp only [a38];cases h0:Nat.beq (a06 acc base k).2 0 with
    |false=>trivial
    | true=>
      simp only [cond_true,a0j] at h⊢;have:=e56 h0;rw [h1,←Nat.add_zero (env2 (a06 acc base k).1).base,←this,h2];exact h
  | ba k T=>
    obtain ⟨h1,h2,h3⟩:=hb k (by simp [a1C])
    simp only [a38];cases h0:Nat.beq (a06 acc base k).2 0 with
    |false=>trivial
    | true=>
      simp only [cond_true,a0j] at h⊢;have:=e56 h0;rw [h1,←Nat.add_zero (env2 (a06 acc base k).1).base,←this,h2];exact h
  |y k=>trivial
  | kp k=>
    obtain ⟨h1,h2,h3⟩:=hb k (by simp [a1C])
    simp only [a38,a0j,a1J.hdr] at h⊢;rw [h,h1,h3]
  | f fn caps=>
    simp only [a38,a0j] at h⊢;have hbd:∀g:Nat×Nat→Nat×Nat,a1K fn (caps.map g)=a1K fn caps:=fun g=>by cases caps<;>rfl
    rw [h,List.map_map,hbd];congr 1
    refine List.map_congr_left fun x hx=> ?_
    obtain ⟨h1,h2,h3⟩:=hb x.1 (by simp only [a1C];exact List.mem_map_of_mem hx)
    simp only [Function.comp,b1D];rw [h1,←Nat.add_assoc,h2]
  |_=>exact a0j.mono hk (by intro k hk';simp [a38,a2X] at hk') h
theorem b3F (hk:a0y w S w' S') {x:V} {v:Value} (hp:b04 x=true) (hb:∀k∈a6h x,a8Y env1 env2 acc base k) (h:a0s P env1 S w x v):a0s P env2 S' w' (c4I acc base x) v:=by
  cases x with
  |c c=>exact a2r hk hb h
  | g xs=>
    obtain ⟨vs,h1,h2⟩:=h;exact ⟨vs,h1,h2.mapl fun c u hc hcu=>a2r hk (fun k hkk=>hb k (by simp only [a6h,List.mem_flatMap];exact ⟨c,hc,hkk⟩)) hcu⟩
  |t=>cases hp
  |w=>cases hp
theorem b8S (hk:a0y w S w' S') {x:V} {v:Value} (hp:b04 x=true) (hb:∀k∈a6h x,a8Y env1 env2 acc base k) (h:a4q P env1 S w x v):a4q P env2 S' w' (c4I acc base x) v:=by
  cases x with
  |c c=>exact a2r hk hb h
  |g xs=>exact b3F (x:= .g xs) hk hp hb h
  |t=>cases hp
  |w=>cases hp
theorem c0Z (hk:a0y w S w' S') {xs:List V} {v:Value} (hp:xs.all b04=true) (hb:∀k∈xs.flatMap a6h,a8Y env1 env2 acc base k) (h:a0s P env1 S w (a3L xs) v):a0s P env2 S' w' (a3L (xs.map (c4I acc base))) v:=by
  rw [List.all_eq_true] at hp;have many:a0s P env1 S w (.t xs) v→a0s P env2 S' w' (.t (xs.map (c4I acc base))) v:=by
    rintro ⟨vs,h1,h2⟩;exact ⟨vs,h1,h2.mapl fun x u hx hxu=>b8S hk (hp x hx) (fun k hkk=>hb k (by simp only [List.mem_flatMap];exact ⟨x,hx,hkk⟩)) hxu⟩
  match xs,h,hp,hb,many with
  | [],h,_,_,many=>exact many h
  | [x],h,hp,hb,_=>exact b3F hk (hp x (by simp)) (fun k hkk=>hb k (by simpa using hkk)) h
  |x::y::r,h,_,_,many=>exact many h
theorem b5x {T:TypeId} {n:Nat} {c:C} (h:a4w P T n c):a4w P T n (a38 acc base c):=by
  cases c with
  | ba k T'=>
    simp only [a38];cases Nat.beq (a06 acc base k).2 0 with
    |false=>trivial
    |true=>exact h
  | bs k m=>
    simp only [a38];cases Nat.beq (a06 acc base k).2 0<;>trivial
  | bx k m=>
    simp only [a38];cases Nat.beq (a06 acc base k).2 0<;>trivial
  |_=>trivial
theorem b3G (hk:a0y w S w' S') {s:a1J} {o:Obj} (hh:a0N o→w'.heap[s.blk]? =w.heap[s.blk]?) (hb:∀k∈a1g o,a8Y env1 env2 acc base k) (h:a0x P env1 S w s o):a0x P env2 S' w' s (b28 acc base o):=by
  cases o with
  | box cs=>
    obtain ⟨cur,T,h1,h2,h3,h4⟩:=h;refine ⟨cur,T,by rw [hh trivial];exact h1,by simpa using h2,?_,a3O (fun _=>b5x) h4⟩
    simp only [List.length_map];exact h3.mapl fun c u hc hcu=>a2r hk (fun k hkk=>hb k (by simp only [a1g,List.mem_flatMap];exact ⟨c,hc,hkk⟩)) hcu
  |row e ex nl xs=>exact a3P hk hh h ex
  |map kt vt es=>exact a62 hk (hh trivial) h
  |tab kt vt es=>exact c0R hk (fun x v hx hxv=>a2r hk (fun k hkk=>hb k (by obtain ⟨y,hy,rfl⟩:=List.mem_map.1 hx;simp only [a1g,List.mem_flatMap];exact ⟨y,hy,hkk⟩)) hxv) (hh trivial) h
  |dat T d=>exact a63 hk (hh trivial) h
  |krow e k q c xs=>exact a8R hk rfl rfl rfl (fun v hx=>a2r hk (fun k hkk=>hb k hkk) hx) (hh trivial) h
theorem a8Z {s:a1J} {b x:Nat} {o:Obj}:a3B P s (b28 acc base o) b x↔a3B P s o b x:=by cases o<;>simp [b28,a3B]
theorem a67 {o:Obj}:a0N (b28 acc base o)↔a0N o:=by cases o<;>simp [b28,a0N]
theorem c00 {s:a1J} {o:Obj} (hr:a0N o) (hf:b54 o=true):∃x,a3B P s o s.blk x:=by
  cases o with
  | box cs=>cases cs with
    |nil=>cases hf
    |cons c cs=>exact ⟨s.base,rfl,Nat.le_refl _,by simp⟩
  |row e ex nl xs=>exact ⟨_,hr,rfl,.inr (Nat.le_refl _)⟩
  |map kt vt es=>exact ⟨0,rfl⟩
  |tab kt vt es=>exact ⟨0,rfl⟩
  |dat T d=>exact ⟨0,rfl⟩
  |krow e k q c xs=>exact ⟨0,rfl⟩
theorem b1h {env:Env} {s:a1J} {o:Obj} (h:a0x P env S w s o) (hr:a0N o):s.blk<w.heap.size:=by
  cases o with
  |box cs=>obtain ⟨_,_,h1,_⟩:=h;exact (e6f.1 h1).1
  | row e ex nl xs=>
    obtain ⟨_,⟨h1,_⟩|⟨_,_,_,_,_,h1,_⟩⟩:=h
    ·simp only [a0N] at hr;rw [hr] at h1;cases h1
    ·exact h1.lt
  |map kt vt es=>obtain ⟨_,_,h1,_⟩:=h;exact (e6f.1 h1).1
  |tab kt vt es=>obtain ⟨_,_,h1,_⟩:=h;exact (e6f.1 h1).1
  |dat T d=>obtain ⟨_,_,_,h1,_⟩:=h;exact (e6f.1 h1).1
  |krow e k q c xs=>obtain ⟨_,_,_,_,cap,cur,_,h1,_⟩:=h;exact h1.lt
end
section
variable {P:Program} {N n0 kb:Nat} {F:Nat→Prop} {B M0:a0A} {w0:World} {e0:a6l} {env:Env} {st:St} {a:Act} {w:World}
theorem b8T (h:Rel P N n0 B M0 w0 F e0 env st a w) {acc:List Ref} (hnd:Nodup acc) {mem':AL Obj} (hh:a7P st.mem acc acc 0=some mem') {res:Res} {v:Value} {w':World}
  (hp:a65 P (Sof P B M0 n0 env st.mem w) (b1f acc env) mem' w res v w') {base:Nat} {news:List Nat} (hfresh:∀k∈news,¬F k) (hnews:news=a1G acc.length base res.2) (hc:a4b res=true)
  (hnc:a6i res.2 news acc 0=true) {mem2:AL Obj} (hm:a4a acc base res.2 acc 0 (a12 news st).mem=some mem2):
  ∃env2,Rel P N n0 B M0 w0 F e0 env2 {tmps:=(a12 news st).tmps,mem:=a6g acc base res.2 mem2} a w'∧
   a0s P env2 (Sof P B M0 n0 env2 (a6g acc base res.2 mem2) w') w' (a3L (res.1.map (c4I acc base))) v:=by
 obtain ⟨env1,M1,hv⟩:=hp;simp only [a4b,e57] at hc;obtain ⟨⟨hc1,hc2⟩,hc3⟩:=hc;obtain ⟨g1,g2,g3⟩:=a41 hh;generalize hmF:a6g acc base res.2 mem2=memF
 -- the new names
 have henv1:∀(i:Nat) (r:Ref),acc[i]? =some r→env1 i=⟨(env r.key).blk,(env r.key).base+r.off,(env r.key).head⟩:=by
  intro i r hi;rw [M1.fx i (by rw [g2];exact (e6h.1 hi).1),a1S hi]
 have hhand:∀(i:Nat) (r:Ref),acc[i]? =some r→ ∃ob o,get mem' i=some ob∧get st.mem r.key=some o∧
   ((∃cs sub sub',o= .box cs∧a8H cs r=some sub∧a7M acc sub=some sub'∧ob= .box sub')∨(∃e ex nl xs,o= .row e ex nl xs∧r.off=0∧ob=o)∨(e0Q o∧r.off=0∧ob=o)):=by
  intro i r hi;have hlt:=(e6h.1 hi).1;have:=g3 i hlt;rw [Nat.zero_add] at this;obtain ⟨ob,hob⟩:=Option.isSome_iff_exists.1 this;obtain ⟨j,r',e1,e2,o,h1,h2⟩:=g1 i ob hob;rw [Nat.zero_add] at e1;subst e1;rw [hi] at e2;simp only [e55] at e2;subst e2;exact ⟨ob,o,hob,h1,h2⟩
 have hoff:∀(i:Nat) (r:Ref),acc[i]? =some r→r.size=none→env1 i=env r.key:=by
  intro i r hi hs;rw [henv1 i r hi];have:r.off=0:=by
   obtain ⟨ob,o,_,_,h2⟩:=hhand i r hi;rcases h2 with ⟨cs,sub,sub',_,hsub,_⟩|⟨_,_,_,_,_,ho,_⟩|⟨_,ho,_⟩
   ·exact ((a4f hsub).2.2.2 hs).1
   ·exact ho
   ·exact ho
  rw [this];rfl
 have hnewbase:∀key∈news,base≤key:=by
  intro key hk;rw [hnews] at hk;obtain ⟨k,o,_,_,h3⟩:=a2q.1 hk;omega
 have hF:∀key ob,get memF key=some ob→
   (∃k o,acc.length≤k∧key=base+k∧key∈news∧get res.2 k=some o∧ob=b28 acc base o)∨
   (∃i r o,acc[i]? =some r∧key=r.key∧key∉news∧get res.2 i=some o∧b8R acc base (a12 news st).mem r o ob)∨
   (key∉news∧(∀r∈acc,r.key≠key)∧ ∃ob0,get st.mem key=some ob0∧ob=a1Z news ob0):=by
  intro key ob hg;rw [←hmF,b5v,←hnews] at hg;by_cases hk:key∈news
  ·rw [if_pos hk] at hg
   have hk':=hk;rw [hnews] at hk';obtain ⟨k,o,h1,h2,h3⟩:=a2q.1 hk';cases hgk:get res.2 (key-base) with
   |none=>rw [hgk] at hg;cases hg
   |some o'=>
    rw [hgk] at hg;simp only [e6r,e55] at hg;have:key-base=k:=by omega
    rw [this] at hgk;exact .inl ⟨k,o',h2,h3,hk,hgk,hg.symm⟩
  ·rw [if_neg hk] at hg
   rcases b3D hnd hm key ob hg with ⟨j,r,o,e1,e2,e3,e4⟩|⟨h1,h2⟩
   ·rw [Nat.zero_add] at e3
    exact .inr (.inl ⟨j,r,o,e1,e2,hk,e3,e4⟩)
   ·rw [a6y,if_neg hk] at h2
    cases hg0:get st.mem key with
    |none=>rw [hg0] at h2;cases h2
    |some ob0=>
     rw [hg0] at h2;simp only [e6r,e55] at h2;exact .inr (.inr ⟨hk,h1,ob0,rfl,h2.symm⟩)
 obtain ⟨env2,henv2⟩:∃env2:Env,env2=fun k=>if k∈news then env1 (k-base) else env k:=⟨_,rfl⟩
 have e_old:∀key,key∉news→env2 key=env key:=fun key hk=>by rw [henv2];simp [hk]
 have e_new:∀k,base+k∈news→env2 (base+k)=env1 k:=fun k hk=>by rw [henv2];simp [hk]
 have hslot:∀k o,get res.2 k=some o→a8Y env1 env2 acc base k:=by
  intro k o hg;unfold a8Y a06;cases hk:acc[k]? with
  |some r=>
   have hno:=b3E hnc k r o hk (by rw [Nat.zero_add];exact hg)
   simp only;rw [e_old _ hno,henv1 k r hk];exact ⟨rfl,rfl,rfl⟩
  |none=>
   have hle:acc.length≤k:=by simpa using hk
   have hin:base+k∈news:=by rw [hnews];exact a2q.2 ⟨k,o,a4g hg,hle,rfl⟩
   simp only;rw [e_new k hin];exact ⟨rfl,rfl,rfl⟩
 have hslots:∀ks:List Nat,(∀k∈ks,∃o,get res.2 k=some o)→ ∀k∈ks,a8Y env1 env2 acc base k:=fun ks hks k hk=>let ⟨o,ho⟩:=hks k hk;hslot k o ho
 have hclosed:∀k o,get res.2 k=some o→(∀x∈a1g o,a8Y env1 env2 acc base x)∧b54 o=true:=by
  intro k o hg;obtain ⟨q1,q2⟩:=a8X hc2 k o (a4g hg);exact ⟨hslots _ q1,q2⟩
 -- what the call may have written
 have hreal:∀k o,get res.2 k=some o→a0N o→w.heap.size≤(env1 k).blk∨ ∃r o',r∈acc∧get st.mem r.key=some o'∧a0N o'∧(env r.key).blk=(env1 k).blk:=by
  intro k o hg hr;obtain ⟨x,hx⟩:=c00 (P:=P) (s:=env1 k) hr (hclosed k o hg).2;rcases M1.mu k o _ x hg hx with ⟨k',ob,q1,q2⟩|h1
  ·obtain ⟨r,o',e1,e2,e3⟩:=c9J hh q1 q2
   obtain ⟨e4,e5⟩:=a1H e3;exact .inr ⟨r,o',List.mem_of_getElem? e1,e2,e4,e5.symm⟩
  ·exact .inl h1
 have hno:∀key ob0,get st.mem key=some ob0→a0N ob0→(∀r∈acc,r.key≠key)→ ∀x,¬a3g P (b1f acc env) mem' (env key).blk x:=by
  rintro key ob0 hg hr hne x ⟨k,ob,q1,q2⟩;obtain ⟨r,o',e1,e2,e3⟩:=c9J hh q1 q2;obtain ⟨e4,e5⟩:=a1H e3;have hra:=List.mem_of_getElem? e1;exact h.ds r.key key o' ob0 e2 hg e4 hr (hne r hra) e5.symm
 have hMutOut:∀(i:Nat) (r:Ref) (n:Nat) (cs0:List C),acc[i]? =some r→r.size=some n→get st.mem r.key=some (.box cs0)→ ∀x,a3g P (b1f acc env) mem' (env r.key).blk x→(env r.key).base+r.off≤x∧x<(env r.key).base+r.off+n:=by
  rintro i r n cs0 hi hs hg x ⟨k,ob,q1,q2⟩;obtain ⟨r',o',e1,e2,e3⟩:=c9J hh q1 q2;obtain ⟨e4,e5⟩:=a1H e3;have hkey:r'.key=r.key:=by
   by_cases hkk:r'.key=r.key
   ·exact hkk
   ·exact absurd e5.symm (h.ds r'.key r.key o' _ e2 hg e4 trivial hkk)
  have hik:k=i:=b3C hnd e1 hi hkey;subst hik;obtain ⟨ob2,o2,f1,f2,f3⟩:=hhand k r hi;rw [q1] at f1;simp only [e55] at f1;subst f1;rw [hg] at f2;simp only [e55] at f2;subst f2;rcases f3 with ⟨cs,sub,sub',hcs,hsub,hren,rfl⟩|⟨_,_,_,_,hcs,_⟩|⟨hmd,_⟩
  ·have hl:=(a4f hsub).2.2.1 n hs
   have hl':=a4A hren;rw [a1S hi] at q2;obtain ⟨_,m2,m3⟩:=q2;simp only at m2 m3;exact ⟨m2,by omega⟩
  ·cases hcs
  ·exact hmd.elim
 have hbox:∀(i:Nat) (r:Ref) (n:Nat) (cs:List C),acc[i]? =some r→r.size=some n→r.key∉news→get (a12 news st).mem r.key=some (.box cs)→ ∃cs0,get st.mem r.key=some (.box cs0)∧cs=cs0.map (a5H news)∧r.off+n≤cs0.length:=by
  intro i r n cs hi hs hk hg;rw [a6y,if_neg hk] at hg;cases hg0:get st.mem r.key with
  |none=>rw [hg0] at hg;cases hg
  | some ob0=>
   rw [hg0] at hg;simp only [e6r,e55] at hg;obtain ⟨cs0,rfl,rfl⟩:=b42 hg;refine ⟨cs0,rfl,rfl,?_⟩;obtain ⟨ob2,o2,f1,f2,f3⟩:=hhand i r hi;rw [hg0] at f2;simp only [e55] at f2;subst f2;rcases f3 with ⟨cs,sub,sub',hcs,hsub,hren,rfl⟩|⟨_,_,_,_,hcs,_⟩|⟨hmd,_⟩
   ·simp only [Obj.box.injEq] at hcs
    subst hcs;have q:=a4f hsub;have hl:=q.2.2.1 n hs;omega
   ·cases hcs
   ·exact hmd.elim
 have hspl:∀(cs:List C) (off:Nat) (sub:List C),off+sub.length≤cs.length→(a3k cs off sub).length=cs.length:=by
  intro cs off sub hle;unfold a3k;simp;omega
 have hS1:a0y w' (Sof P (Sof P B M0 n0 env st.mem w) (a3g P (b1f acc env) mem') w.heap.size env1 res.2 w') w' (Sof P B M0 n0 env2 memF w'):=by
  intro b x u hS hcell;refine ⟨⟨?_,hS.2.1,?_⟩,hcell⟩
  ·rcases hS.1 with h1|h1|⟨k,ob,q1,q2⟩
   ·exact h1.1
   ·exact .inr (.inl (Nat.le_trans h.n0le h1))
   ·obtain ⟨r,o',e1,e2,e3⟩:=c9J hh q1 q2
    rcases h.mu _ _ _ _ e2 e3 with h2|h2
    ·exact .inr (.inr h2)
    ·exact .inr (.inl h2)
  ·intro key ob hg hmut
   rcases hF key ob hg with ⟨k,o,q1,rfl,q3,q4,rfl⟩|⟨i,r,o,q1,rfl,q3,q4,q5⟩|⟨q1,q2,ob0,q3,rfl⟩
   ·rw [e_new k q3,a8Z] at hmut
    exact hS.2.2 k o q4 hmut
   ·rw [e_old _ q3] at hmut
    rcases q5 with ⟨hs,rfl⟩|⟨n,sub,cs,hs,rfl,hn,hcs,rfl⟩
    ·rw [a8Z,←hoff i r q1 hs] at hmut
     exact hS.2.2 i o q4 hmut
    ·obtain ⟨cs0,c1,rfl,c3⟩:=hbox i r n cs q1 hs q3 hcs
     obtain ⟨m1,m2,m3⟩:=hmut;rw [hspl _ _ _ (by simp;omega)] at m3
     simp only [List.length_map] at m3;by_cases hin:(env r.key).base+r.off≤x∧x<(env r.key).base+r.off+n
     ·refine hS.2.2 i _ q4 ?_
      rw [henv1 i r q1];exact ⟨m1,hin.1,by simp only;omega⟩
     ·rcases hS.1 with h1|h1|h1
      ·exact h1.2.2 r.key _ c1 ⟨m1,m2,m3⟩
      ·have:=b1h (h.ob _ _ c1) trivial
       omega
      ·rw [m1] at h1
       exact hin (hMutOut i r n cs0 q1 hs c1 x h1)
   ·rw [e_old _ q1,a8f] at hmut
    obtain ⟨r1,r2⟩:=a1H hmut;rcases hS.1 with h1|h1|h1
    ·exact h1.2.2 key ob0 q3 hmut
    ·have:=b1h (h.ob _ _ q3) r1
     omega
    ·rw [r2] at h1
     exact hno key ob0 q3 r1 q2 x h1
 have hall:∀key ob,get memF key=some ob→a0N ob→w.heap.size≤(env2 key).blk∨ ∃r o',(r=key∨((∃q∈acc,q.key=r)∧ ¬((∀q∈acc,q.key≠key)∧key∉news)))∧get st.mem r=some o'∧a0N o'∧(env r).blk=(env2 key).blk:=by
  intro key ob hg hr;have go:∀k o,get res.2 k=some o→a0N o→(env1 k).blk=(env2 key).blk→ ¬((∀q∈acc,q.key≠key)∧key∉news)→w.heap.size≤(env2 key).blk∨ ∃r o',(r=key∨((∃q∈acc,q.key=r)∧ ¬((∀q∈acc,q.key≠key)∧key∉news)))∧get st.mem r=some o'∧a0N o'∧(env r).blk=(env2 key).blk:=by
   intro k o q1 q2 q3 q4;rcases hreal k o q1 q2 with h1|⟨r,o',h1,h2,h3,h4⟩
   ·exact .inl (by omega)
   ·exact .inr ⟨r.key,o',.inr ⟨⟨r,h1,rfl⟩,q4⟩,h2,h3,h4.trans q3⟩
  rcases hF key ob hg with ⟨k,o,q1,rfl,q3,q4,rfl⟩|⟨i,r,o,q1,rfl,q3,q4,q5⟩|⟨q1,q2,ob0,q3,rfl⟩
  ·exact go k o q4 (a67.1 hr) (by rw [e_new k q3]) fun hf=>hf.2 q3
  ·refine go i o q4 ?_ (by rw [e_old _ q3,henv1 i r q1]) fun hf=>hf.1 r (List.mem_of_getElem? q1) rfl
   rcases q5 with ⟨_,rfl⟩|⟨n,sub,cs,_,rfl,_⟩
   ·exact a67.1 hr
   ·trivial
  ·exact .inr ⟨key,ob0,.inl rfl,q3,a1N.1 hr,by rw [e_old _ q1]⟩
 have hreal1:∀key ob,get memF key=some ob→a0N ob→ ¬((∀q∈acc,q.key≠key)∧key∉news)→ ∃k o,get res.2 k=some o∧a0N o∧(env1 k).blk=(env2 key).blk∧((acc.length≤k∧key=base+k)∨ ∃r,acc[k]? =some r∧key=r.key∧key∉news):=by
  intro key ob hg hr hn;rcases hF key ob hg with ⟨k,o,q1,rfl,q3,q4,rfl⟩|⟨i,r,o,q1,rfl,q3,q4,q5⟩|⟨q1,q2,ob0,q3,rfl⟩
  ·exact ⟨k,o,q4,a67.1 hr,by rw [e_new k q3],.inl ⟨q1,rfl⟩⟩
  ·refine ⟨i,o,q4,?_,by rw [e_old _ q3,henv1 i r q1],.inr ⟨r,q1,rfl,q3⟩⟩
   rcases q5 with ⟨_,rfl⟩|⟨n,sub,cs,_,rfl,_⟩
   ·exact a67.1 hr
   ·trivial
  ·exact absurd ⟨q2,q1⟩ hn
 have hsame:∀key ob0,get st.mem key=some ob0→(∀r∈acc,r.key≠key)→a0N ob0→w'.heap[(env key).blk]? =w.heap[(env key).blk]? :=fun key ob0 hg hne hr=>b8Q M1.ch (b1h (h.ob _ _ hg) hr) (hno key ob0 hg hr hne)
 have hobF:a0y w (Sof P B M0 n0 env st.mem w) w' (Sof P B M0 n0 env2 memF w')→ ∀k ob,get memF k=some ob→a0x P env2 (Sof P B M0 n0 env2 memF w') w' (env2 k) ob:=by
  intro hkeep key ob hg;rcases hF key ob hg with ⟨k,o,q1,rfl,q3,q4,rfl⟩|⟨i,r,o,q1,rfl,q3,q4,q5⟩|⟨q1,q2,ob0,q3,rfl⟩
  ·rw [e_new k q3]
   exact b3G hS1 (fun _=>rfl) (hclosed k o q4).1 (M1.ob k o q4)
  ·rw [e_old _ q3]
   rcases q5 with ⟨hs,rfl⟩|⟨n,sub,cs,hs,rfl,hn,hcs,rfl⟩
   ·rw [←hoff i r q1 hs]
    exact b3G hS1 (fun _=>rfl) (hclosed i o q4).1 (M1.ob i o q4)
   ·obtain ⟨cs0,c1,rfl,c3⟩:=hbox i r n cs q1 hs q3 hcs
    obtain ⟨cur0,T,d1,d2,d3,d4⟩:=h.ob _ _ c1;obtain ⟨cur1,T1,f1,f2,f3,f4⟩:=M1.ob i _ q4;obtain ⟨cur',fr',k1,k2,k3,_⟩:=M1.ch.cells _ _ _ _ d1;rw [henv1 i r q1] at f1 f2 f3;simp only at f1 f2 f3;rw [k1] at f1;have hcc:cur'=cur1∧fr'=(0,0)∧T1=T:=by cases f1;exact ⟨rfl,rfl,rfl⟩
    obtain ⟨hcc,hfr,hT⟩:=hcc;subst hcc hfr;refine ⟨cur',T,k1,by rw [hspl _ _ _ (by simp;omega)];simp only [List.length_map];omega,?_,b3h (a3O (fun _=>b1g) (by rw [k2];exact d4)) (a3O (fun _=>b5x) (hT▸f4))⟩
    rw [hspl _ _ _ (by simp;omega)]
    simp only [List.length_map];refine All2.of_get ?_ ?_
    ·rw [hspl _ _ _ (by simp;omega)]
     simp only [List.length_map,List.length_take,List.length_drop,Array.length_toList];omega
    ·intro j c u hj hu
     unfold a3k at hj;rw [b0p _ _ _ _ (by simp;omega)] at hj
     rw [List.getElem?_take] at hu;split at hu
     ·rename_i hjl
      rw [List.getElem?_drop] at hu;split at hj
      ·rename_i hin
       simp only [List.length_map] at hin;rw [List.getElem?_map] at hj;cases hsj:sub[j-r.off]? with
       |none=>rw [hsj] at hj;cases hj
       | some c0=>
        rw [hsj] at hj;simp only [e6r,e55] at hj;subst hj;refine a2r hS1 (fun k hk=>(hclosed i _ q4).1 k ?_) (f3.get2 hsj ?_)
        ·simp only [a1g,List.mem_flatMap]
         exact ⟨c0,List.mem_of_getElem? hsj,hk⟩
        ·rw [List.getElem?_take,if_pos (by omega),List.getElem?_drop,←hu]
         congr 1
         omega
      ·rename_i hout
       simp only [List.length_map] at hout;rw [List.getElem?_map] at hj;cases hsj:cs0[j]? with
       |none=>rw [hsj] at hj;cases hj
       | some c0=>
        rw [hsj] at hj;simp only [e6r,e55] at hj;subst hj;refine a0j.invals hkeep news e_old (d3.get2 hsj ?_);rw [List.getElem?_take,if_pos hjl,List.getElem?_drop,←hu];have:=k3 ((env r.key).base+j) fun hm0=>by
         have hmo:=hMutOut i r n cs0 q1 hs c1 _ hm0;exact hout ⟨by omega,by omega⟩
        simpa using this.symm
     ·cases hu
  ·rw [e_old _ q1]
   exact b5w hkeep news e_old (hsame key ob0 q3 q2) (h.ob key ob0 q3)
 refine ⟨env2,Rel.step h (a3g P (b1f acc env) mem') M1.ch ?_ ?_ ?_ hobF ?_ ?_ ?_,?_⟩
 ·rintro b x ⟨k,ob,q1,q2⟩
  obtain ⟨r,o',e1,e2,e3⟩:=c9J hh q1 q2;exact ⟨r.key,o',e2,e3⟩
 ·intro key ob b x hg hmut
  have viaM:∀k o,get res.2 k=some o→a3B P (env1 k) o b x→w.heap.size≤b∨ ∃k' ob',get st.mem k'=some ob'∧a3B P (env k') ob' b x:=by
   intro k o q1 q2;rcases M1.mu k o b x q1 q2 with ⟨k',ob',m1,m2⟩|h1
   ·obtain ⟨r,o',e1,e2,e3⟩:=c9J hh m1 m2
    exact .inr ⟨r.key,o',e2,e3⟩
   ·exact .inl h1
  rcases hF key ob hg with ⟨k,o,q1,rfl,q3,q4,rfl⟩|⟨i,r,o,q1,rfl,q3,q4,q5⟩|⟨q1,q2,ob0,q3,rfl⟩
  ·rw [e_new k q3,a8Z] at hmut
   exact viaM k o q4 hmut
  ·rw [e_old _ q3] at hmut
   rcases q5 with ⟨hs,rfl⟩|⟨n,sub,cs,hs,rfl,hn,hcs,rfl⟩
   ·rw [a8Z,←hoff i r q1 hs] at hmut
    exact viaM i o q4 hmut
   ·obtain ⟨cs0,c1,rfl,c3⟩:=hbox i r n cs q1 hs q3 hcs
    obtain ⟨m1,m2,m3⟩:=hmut;rw [hspl _ _ _ (by simp;omega)] at m3
    simp only [List.length_map] at m3;exact .inr ⟨r.key,_,c1,m1,m2,m3⟩
  ·rw [e_old _ q1,a8f] at hmut
   exact .inr ⟨key,ob0,q3,hmut⟩
 ·intro hkeep t x hx
  rw [a8W] at hx;cases hg:get st.tmps t with
  |none=>rw [hg] at hx;cases hx
  |some y=>
   rw [hg] at hx;simp only [e6r,e55] at hx;subst hx;exact a0l.invals hkeep news e_old (h.tm t y hg)
 ·intro k1 k2 o1 o2 hg1 hg2 hr1 hr2 hne heq
  -- the two objects share a block
  by_cases hn1:(∀q∈acc,q.key≠k1)∧k1∉news
  ·by_cases hn2:(∀q∈acc,q.key≠k2)∧k2∉news
   ·rcases hF k1 o1 hg1 with ⟨k,o,q1,rfl,q3,q4,rfl⟩|⟨i,r,o,q1,rfl,q3,q4,q5⟩|⟨q1,q2,ob0,q3,rfl⟩
    ·exact hn1.2 q3
    ·exact hn1.1 r (List.mem_of_getElem? q1) rfl
    ·rcases hF k2 o2 hg2 with ⟨k,o,p1,rfl,p3,p4,rfl⟩|⟨i,r,o,p1,rfl,p3,p4,p5⟩|⟨p1,p2,ob1,p3,rfl⟩
     ·exact hn2.2 p3
     ·exact hn2.1 r (List.mem_of_getElem? p1) rfl
     ·rw [e_old _ q1,e_old _ p1] at heq
      exact h.ds k1 k2 ob0 ob1 q3 p3 (a1N.1 hr1) (a1N.1 hr2) hne heq
   ·rcases hF k1 o1 hg1 with ⟨k,o,q1,rfl,q3,q4,rfl⟩|⟨i,r,o,q1,rfl,q3,q4,q5⟩|⟨q1,q2,ob0,q3,rfl⟩
    ·exact hn1.2 q3
    ·exact hn1.1 r (List.mem_of_getElem? q1) rfl
    ·obtain ⟨k,o,p1,p2,p3,_⟩:=hreal1 k2 o2 hg2 hr2 hn2
     rw [e_old _ q1] at heq;have hlt:=b1h (h.ob _ _ q3) (a1N.1 hr1);rcases hreal k o p1 p2 with h1|⟨r,o',h1,h2,h3,h4⟩
     ·omega
     ·exact h.ds r.key k1 o' ob0 h2 q3 h3 (a1N.1 hr1) (q2 r h1) (by rw [h4,p3,←heq])
  ·obtain ⟨ka,oa,p1,p2,p3,p4⟩:=hreal1 k1 o1 hg1 hr1 hn1
   by_cases hn2:(∀q∈acc,q.key≠k2)∧k2∉news
   ·rcases hF k2 o2 hg2 with ⟨k,o,q1,rfl,q3,q4,rfl⟩|⟨i,r,o,q1,rfl,q3,q4,q5⟩|⟨q1,q2,ob0,q3,rfl⟩
    ·exact hn2.2 q3
    ·exact hn2.1 r (List.mem_of_getElem? q1) rfl
    ·rw [e_old _ q1] at heq
     have hlt:=b1h (h.ob _ _ q3) (a1N.1 hr2);rcases hreal ka oa p1 p2 with h1|⟨r,o',h1,h2,h3,h4⟩
     ·omega
     ·exact h.ds r.key k2 o' ob0 h2 q3 h3 (a1N.1 hr2) (q2 r h1) (by rw [h4,p3,heq])
   ·obtain ⟨kb',ob',s1,s2,s3,s4⟩:=hreal1 k2 o2 hg2 hr2 hn2
    by_cases hkk:ka=kb'
    ·subst hkk
     rcases p4 with ⟨u1,u2⟩|⟨r,u1,u2,u3⟩
     ·rcases s4 with ⟨v1,v2⟩|⟨r',v1,v2,v3⟩
      ·exact hne (by omega)
      ·have:=(e6h.1 v1).1
       omega
     ·rcases s4 with ⟨v1,v2⟩|⟨r',v1,v2,v3⟩
      ·have:=(e6h.1 u1).1
       omega
      ·rw [u1] at v1
       simp only [e55] at v1;exact hne (by rw [u2,v2,v1])
    ·exact M1.ds ka kb' oa ob' p1 s1 p2 s2 hkk (by rw [p3,s3,heq])
 ·intro key e ex xs hg x hx
  have viaM:∀k,get res.2 k=some (.row e ex false xs)→B (env1 k).blk x∨n0≤(env1 k).blk∨M0 (env1 k).blk x:=by
   intro k q1;rcases M1.pr k e ex xs q1 x hx with h1|h1|⟨k',ob',m1,m2⟩
   ·exact h1.1
   ·exact .inr (.inl (Nat.le_trans h.n0le h1))
   ·obtain ⟨r,o',e1,e2,e3⟩:=c9J hh m1 m2
    rcases h.mu _ _ _ _ e2 e3 with h2|h2
    ·exact .inr (.inr h2)
    ·exact .inr (.inl h2)
  have backRow:∀{o:Obj},b28 acc base o= .row e ex false xs→o= .row e ex false xs:=by
   intro o ho;cases o with
   |box=>cases ho
   |row=>exact ho
   |map=>cases ho
   |tab=>cases ho
   |dat=>cases ho
   |krow=>cases ho
  rcases hF key _ hg with ⟨k,o,q1,rfl,q3,q4,q5⟩|⟨i,r,o,q1,rfl,q3,q4,q5⟩|⟨q1,q2,ob0,q3,q4⟩
  ·rw [e_new k q3]
   rw [backRow q5.symm] at q4;exact viaM k q4
  ·rw [e_old _ q3]
   rcases q5 with ⟨hs,q5⟩|⟨n,sub,cs,hs,rfl,hn,hcs,q5⟩
   ·rw [backRow q5.symm] at q4
    rw [←hoff i r q1 hs];exact viaM i q4
   ·cases q5
  ·rw [e_old _ q1]
   refine h.pr key e ex xs ?_ x hx;rw [q3];cases ob0 with
   |box cs=>rw [a8g] at q4;cases q4
   |row=>rw [a8h] at q4;rw [q4]
   |map=>rw [a8i] at q4;cases q4
   |tab=>rw [a8j] at q4;cases q4
   |dat=>rw [a8k] at q4;cases q4
   |krow=>rw [a6z] at q4;cases q4
 ·intro k hk
  exact e_old k fun hf=>hfresh k hf hk
 ·exact c0Z hS1 hc3 (hslots _ (a8e hc1)) hv
end
section
variable {P:Program} {N n0 kb:Nat} {F:Nat→Prop} {B M0:a0A} {w0:World} {e0:a6l} {env:Env} {st:St} {a:Act} {w:World}
theorem a6A {f:FuncId} {args:Array Value} (he:a6x P f):(callFunc f args).run P w= .ok (.enter f args) w:=by
 obtain ⟨fn,h1,h2,h3⟩:=he;unfold callFunc;simp only [e6b,run_program,e58,h1,h2,h3,Bool.false_eq_true,if_false,e6c]
theorem b43 {fn:Func} (h:fn.name= "internal/bytealg.IndexByteString") (ho:fn.origin= ""):Extern.find fn=some Extern.BytealgIndexByte.indexByte∧Extern.findNext fn=none:=by
 constructor
 ·unfold Extern.find;rw [h];rfl
 ·unfold Extern.findNext;rw [h,ho];rfl
theorem b1K {fn:Func} (h:fn.name= "internal/bytealg.CountString") (ho:fn.origin= ""):Extern.find fn=some Extern.BytealgCount.count∧Extern.findNext fn=none:=by
 constructor
 ·unfold Extern.find;rw [h];rfl
 ·unfold Extern.findNext;rw [h,ho];rfl
theorem c6W {S:a0A} {f:FuncId} {caps:List (Nat×Nat)} {args:List V} {vs:Array Value} {v:C} (h:e3F P f caps args=some v) (hall:All2 (a0s P env S w) args vs.toList):
  caps=[]∧ ∃u,(callFunc f vs).run P w= .ok (.value u) w∧a0j P env S w v u:=by
 unfold e3F at h;split at h
 ·rename_i g hg
  cases hb:g.body.isNone&&caps.isEmpty&&(g.origin== "") with
  |false=>rw [hb] at h;cases h
  | true=>
   rw [hb] at h;simp only [e57,cond_true,beq_iff_eq] at hb h;obtain ⟨⟨hbn,hcaps⟩,ho⟩:=hb;refine ⟨by simpa using hcaps,?_⟩
   split at h
   ·rename_i l b
    have hvs:vs= #[.string ⟨l.toArray⟩,.int .u8 b]:=by
     rw [←Array.toList_inj];generalize vs.toList=L at hall;match L,hall with
     | [x,y],⟨h1,h2,_⟩=>
      have h1:x= .string ⟨l.toArray⟩:=h1;have h2:y= .int .u8 b:=h2;rw [h1,h2]
    subst hvs;cases h1:g.name== "internal/bytealg.IndexByteString" with
    |true=>
     rw [h1] at h;simp only [cond_true,e55] at h;subst h;obtain ⟨q1,q2⟩:=b43 (by simpa using h1) ho
     refine ⟨_,?_,rfl⟩;rw [run_callFunc_standIn hg (by rw [show g.name=_ from by simpa using h1];rfl) hbn q2 q1,Lib.run_indexByteString]
     simp
    | false=>
     rw [h1] at h;simp only [cond_false] at h;cases h2:g.name== "internal/bytealg.CountString" with
     |true=>
      rw [h2] at h;simp only [cond_true,e55] at h;subst h;obtain ⟨q1,q2⟩:=b1K (by simpa using h2) ho
      refine ⟨_,?_,rfl⟩;rw [run_callFunc_standIn hg (by rw [show g.name=_ from by simpa using h2];rfl) hbn q2 q1,Lib.run_countString]
      simp
     |false=>rw [h2] at h;cases h
   ·cases h
 ·cases h
theorem b3H {S:a0A} {mem:AL Obj} (hob:∀key o,get mem key=some o→a0x P env S w (env key) o) (hst:a0Y P env S mem) {c:C} {v:Value} (h:a0j P env S w c v):a0j P env S w (c9Y mem c) v:=by
 cases c with
 | o key=>
  simp only [c9Y];split
  ·rename_i e n xs hg
   have hv:v=(env key).hdr:=h;rw [hv];exact c2t hob hst hg
  ·exact h
 |_=>exact h
theorem a5I {S:a0A} {mem:AL Obj} (hob:∀key o,get mem key=some o→a0x P env S w (env key) o) (hst:a0Y P env S mem) {x:V} {v:Value} (h:a0s P env S w x v):a0s P env S w (b52 mem x) v:=by
 cases x with
 |c c=>exact b3H hob hst h
 |g xs=>
  obtain ⟨vs,h1,h2⟩:=h;exact ⟨vs,h1,h2.mapl fun c u _ hcu=>b3H hob hst hcu⟩
 |_=>exact h
theorem b5y {n base key:Nat} {l:AL Obj} (h:key∈a1G n base l):base≤key:=by
 obtain ⟨k,o,_,_,h3⟩:=a2q.1 h;omega
theorem b5z {base:Nat}:∀{l:List Nat},b3a base l=true→ ∀k∈l,k<base+1000000000
 | [],_,k,hk=>by simp at hk
 |x::l,h,k,hk=>by
  simp only [b3a,e57] at h;rcases e6k.1 hk with rfl|hk
  ·exact e6g h.1
  ·exact b5z h.2 k hk
theorem b6o (kb:Nat) (dst:Option Nat):kb≤a0O kb dst:=Nat.le_add_right _ _
theorem a80 {R:Type} {cl:a0i} (hcl:a0m P cl) {f:FuncId} {fn:Func} {args:List V} {vs:Array Value} {mem:AL Obj} {x:List Ref×List (Bool×Res)} {o:Oper} {k:St→Option R} {r:R} {Q:Exit→Act→World→Prop} (hF:∀k,a0O kb o.dst≤k→k<a0O kb o.dst+1000000000→ ¬F k) (hsh:Rel P N n0 B M0 w0 F e0 env {st with mem} a w) (hd:∀d,o.dst=some d→d<N)
  (hrun:a6x P f→(execOp a.eval o).run P w= .ok (.enter f vs) w)
  (hall:All2 (a0s P env (Sof P B M0 n0 env mem w) w) args vs.toList) (hx:b1V P cl f fn mem args=some x)
  (hk:a7Z kb mem x o st k=some r):o.wp P a w (a0P P N n0 B M0 w0 F e0 k r) Q:=by
 unfold b1V at hx;split at hx
 ·cases hx
 ·rename_i acc hacc
  have hnd:=a2e (acc:=[]) trivial hacc;split at hx
  ·rename_i args' mem' hren hh
   split at hx
   ·cases hx
   ·rename_i alts hcall
    simp only [e55] at hx;subst hx;unfold a7Z at hk;simp only at hk;rw [a42] at hk;cases hres:a4v alts some with
    |none=>rw [hres] at hk;cases hk
    |some res=>
    rw [hres] at hk;simp only [Option.bind_some] at hk;obtain ⟨hent,hoks⟩:=hcl f args' mem' alts hcall;have hok:=hoks res hres;obtain ⟨hpre,hkeep⟩:=c2E hsh hnd hh;have hC:=hok _ _ w vs hpre (a8d hkeep hren hall);unfold Oper.wp;rw [hrun hent,Oper.upon_enter];refine hC.mono fun e w' he=> ?_
    obtain ⟨v,rfl,hp⟩:=he;cases hcc:a4b res&&a6i res.2 (a1G acc.length (a0O kb o.dst) res.2) acc 0&&b3a (a0O kb o.dst) (a1G acc.length (a0O kb o.dst) res.2) with
    |false=>rw [hcc] at hk;cases hk
    | true=>
     rw [hcc] at hk;simp only [cond_true] at hk;simp only [e57] at hcc;split at hk
     ·cases hk
     ·rename_i mem2 hm2
      obtain ⟨env2,q1,q2⟩:=b8T hsh hnd hh hp (fun k hk=>hF k (b5y hk) (b5z hcc.2 k hk)) rfl hcc.1.1 hcc.1.2 hm2
      exact ⟨env2,_,q1.put hd (a0l.of q2),hk⟩
  ·cases hx
theorem b1i {R:Type} {cl:a0i} (hcl:a0m P cl) {f:FuncId} {args:List V} {vs:Array Value} {o:Oper} {k:St→Option R} {r:R} {Q:Exit→Act→World→Prop} (hF:∀k,a0O kb o.dst≤k→k<a0O kb o.dst+1000000000→ ¬F k) (h:Rel P N n0 B M0 w0 F e0 env st a w) (hd:∀d,o.dst=some d→d<N)
  (hrun:a6x P f→(execOp a.eval o).run P w= .ok (.enter f vs) w)
  (hargs:∀mem,Rel P N n0 B M0 w0 F e0 env {st with mem} a w→All2 (a0s P env (Sof P B M0 n0 env mem w) w) args vs.toList)
  (hk:b5e P cl kb f args o st k=some r):o.wp P a w (a0P P N n0 B M0 w0 F e0 k r) Q:=by
 unfold b5e at hk;split at hk
 ·cases hk
 ·rename_i fn hfn
  split at hk
  ·rename_i x hx
   cases hb:(args.flatMap a3l).isEmpty with
   |true=>rw [hb] at hx;cases hx
   |false=>
    rw [hb] at hx;exact a80 hcl (mem:=st.mem) hF h hd hrun (hargs st.mem h) hx hk
  ·simp only at hk
   have hsh:=Rel.share (args.flatMap a3l) (mem:=st.mem) h;generalize hmem:a0w st.mem (args.flatMap a3l)=mem at hk hsh;split at hk
   ·rename_i x hx
    exact a80 hcl hF hsh hd hrun ((hargs mem hsh).mapl (R2:=a0s P env (Sof P B M0 n0 env mem w) w) fun x v _ hxv=>a5I hsh.ob hsh.rows hxv) hx hk
   ·cases hk
end
end Go.AM
end
