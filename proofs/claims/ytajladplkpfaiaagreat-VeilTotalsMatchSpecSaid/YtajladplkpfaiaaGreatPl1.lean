/- A part of a proof of a law: lemmas. Conditions: those of each lemma. -/
import Derived.Test.YtajladplkpfaiaaGreatJPp2
import Derived.KernelRfl
set_option linter.all false
set_option maxRecDepth 100000
set_option maxHeartbeats 4000000
noncomputable section
namespace Go.Proofs.YtajladplkpfaiaaGreat
open Go Go.AM
variable {N:Nat}
def ltr (n:Int):Bool:=decide (97≤n∧n≤122∨65≤n∧n≤90∨48≤n∧n≤57∨n=45∨n=95∨n=46)
def a8k (s:List UInt8):Bool:=s.all (fun c=>ltr (c.toNat:Int))&&decide (1≤s.length∧s.length≤60)
def a6k (s:List UInt8):Bool:=s.all (fun c=>decide (32≤(c.toNat:Int)∧(c.toNat:Int)≤126))&&decide (s.length≤60)
def inI (n a b:Int):Bool:=decide (a≤n∧n≤b)
theorem c6q (hN:maxLen<N) {s:List UInt8} (hs:s.length≤maxLen):c14 N s 0=some (bif s.all (fun c=>ltr (c.toNat:Int)) then .inr () else .inl ()):=by
 unfold c14;refine (a0E (0:UInt8) (S:=fun w kr=>b0O N s w kr _ _) (L:=fun m w=>b7K N s m w _ _) (fun m w=>rfl) (fun _ l=>some (bif l.all (fun c=>ltr (c.toNat:Int)) then .inr () else .inl ())) hs ?_ ?_ hN).trans rfl
 ·intro kr;simp [b0O]
 ·intro w kr h0 h1 hw hi hk
  simp only [b0O,decide_eq_true h1,e4H,hi,a0b,hw,hk,List.all_cons];generalize ((s.getD w.toNat 0).toNat:Int)=n;refine (a7h (c':= !ltr n) ?_).trans ?_
  ·rw [Bool.eq_iff_iff];simp [ltr];omega
  ·cases ltr n<;>rfl
theorem b8C (hN:maxLen<N) {s:List UInt8} (hs:s.length≤maxLen):c8w N s=some (a8k s):=by
 unfold c8w d1m;rw [c6q hN hs];unfold a8k;cases s.all (fun c=>ltr (c.toNat:Int)) with
 |false=>rfl
 |true=>
  simp only [a0b,a0J,a0K,e4H,e4I,e4M,Bool.true_and];congr 1
  rw [Bool.eq_iff_iff];simp;omega
theorem c6r (hN:maxLen<N) {s:List UInt8} (hs:s.length≤maxLen):c1X N s s.length 0=some (bif s.all (fun c=>ltr (c.toNat:Int)) then .inr () else .inl ()):=by
 unfold c1X;refine (a0E (0:UInt8) (S:=fun w kr=>b0J N s s.length w kr _ _) (L:=fun m w=>b7m N s s.length m w _ _) (fun m w=>rfl) (fun _ l=>some (bif l.all (fun c=>ltr (c.toNat:Int)) then .inr () else .inl ())) hs ?_ ?_ hN).trans rfl
 ·intro kr;simp [b0J]
 ·intro w kr h0 h1 hw hi hk
  simp only [b0J,decide_eq_true h1,e4H,hi,a0b,hw,hk,List.all_cons,c3P,b2q,d4k,c3O];generalize ((s.getD w.toNat 0).toNat:Int)=n;refine (a7h (c':= !ltr n) ?_).trans ?_
  ·rw [Bool.eq_iff_iff];simp [ltr];omega
  ·cases ltr n<;>rfl
theorem b8D (hN:maxLen<N) {s:List UInt8} (hs:s.length≤maxLen):c8c N s=some (a8k s):=by
 unfold c8c d0G;rw [c6r hN hs];unfold a8k;cases s.all (fun c=>ltr (c.toNat:Int)) with
 |false=>rfl
 |true=>
  simp only [a0b,a0J,a0K,e4H,e4I,e4M,Bool.true_and];congr 1
  rw [Bool.eq_iff_iff];simp;omega
theorem b8E (n a b:Int):b4M N n a b=inI n a b:=by
 unfold b4M d0J inI;rw [Bool.eq_iff_iff];simp
theorem b8F (n a b:Int):b4V N n a b= !inI n a b:=by
 unfold b4V d1w inI;rw [Bool.eq_iff_iff];simp<;>omega
theorem c4T (c:UInt8):IntKind.wrap .i64 (c.toNat:Int)=c.toNat:=a0H (by omega) (by have:=c.toNat_lt;omega)
theorem d28 (hN:maxLen<N) {s:List UInt8} (hs:s.length≤maxLen):d51 N s=some (a6k s):=by
 have h:c1Y N s s.length 0=some (bif s.all (fun c=>decide (32≤(c.toNat:Int)∧(c.toNat:Int)≤126)) then .inr () else .inl ()):=by
  unfold c1Y;refine (a0E (0:UInt8) (S:=fun w kr=>b0K N s s.length w kr _ _) (L:=fun m w=>b7q N s s.length m w _ _) (fun m w=>rfl) (fun _ l=>some (bif l.all (fun c=>decide (32≤(c.toNat:Int)∧(c.toNat:Int)≤126)) then .inr () else .inl ())) hs ?_ ?_ hN).trans rfl
  ·intro kr;simp [b0K]
  ·intro w kr h0 h1 hw hi hk
   simp only [b0K,decide_eq_true h1,e4H,hi,a0b,hw,hk,List.all_cons,c4T,b8E,inI];cases decide (32≤((s.getD w.toNat 0).toNat:Int)∧((s.getD w.toNat 0).toNat:Int)≤126)<;>rfl
 unfold d51 d0M;rw [h];unfold a6k;cases s.all (fun c=>decide (32≤(c.toNat:Int)∧(c.toNat:Int)≤126)) with
 |false=>rfl
 |true=>
  simp only [a0b,a0J,a0K,e4H,e4I,e4M,Bool.true_and];congr 1
  rw [Bool.eq_iff_iff];simp;omega
theorem c2g (hN:maxLen<N) {s:List UInt8} (hs:s.length≤maxLen):b7P N s 0=some (bif s.all (fun c=>decide (32≤(c.toNat:Int)∧(c.toNat:Int)≤126)) then .inr () else .inl ()):=by
 unfold b7P;refine (a0E (0:UInt8) (S:=fun w kr=>a7B N s w kr _ _) (L:=fun m w=>b21 N s m w _ _) (fun m w=>rfl) (fun _ l=>some (bif l.all (fun c=>decide (32≤(c.toNat:Int)∧(c.toNat:Int)≤126)) then .inr () else .inl ())) hs ?_ ?_ hN).trans rfl
 ·intro kr;simp [a7B]
 ·intro w kr h0 h1 hw hi hk
  simp only [a7B,decide_eq_true h1,e4H,hi,a0b,hw,hk,List.all_cons,c4T,b8F,inI];cases decide (32≤((s.getD w.toNat 0).toNat:Int)∧((s.getD w.toNat 0).toNat:Int)≤126)<;>rfl
def a0i (e:Int→Int):Int→List D→Int
 |_,[]=>0
 |w,_::r=>bif e w !=0 then e w else a0i e (w+1) r
def a29 (n:Int):Sum Int Unit:=bif n !=0 then .inl n else .inr ()
theorem a1v {e:Int→Int} {w:Int} {x:D} {l:List D}:a29 (a0i e w (x::l))=bif e w !=0 then .inl (e w) else a29 (a0i e (w+1) l):=by
 simp only [a0i];cases h:e w !=0 with
 |true=>simp only [e4H,a29,h]
 |false=>rfl
def b8G (xs:List D) (w:Int):Bool:=bif w==0 then ((xs.getD w.toNat (.i 0)).cell 0).toI !=0 else decide (((xs.getD w.toNat (.i 0)).cell 0).toI≤((xs.getD (w-1).toNat (.i 0)).cell 0).toI)
def c6s (s:D):Bool:=inI (s.cell 1).toI (-100000000) 100000000&&inI (s.cell 2).toI (-100000000) 100000000&&inI (s.cell 3).toI (-100000) 100000&&inI (s.cell 4).toI (-1) 300&&inI (s.cell 5).toI (-1) 3000&&inI (s.cell 6).toI (-1) 300
def c4U (start:Int) (s:D):Bool:=decide ((s.cell 0).toI>1000000)||decide (IntKind.wrap .i64 (start+(s.cell 0).toI)>86399999999)
def b1T (start:Int) (xs:List D) (w:Int):Int:=bif b8G xs w then 10 else bif c4U start (xs.getD w.toNat (.i 0))|| !c6s (xs.getD w.toNat (.i 0)) then 9 else 0
section
variable {xs:List D} {w:Int}
theorem b5h (h0:0≤w) (h1:w<xs.length) (hl:xs.length≤maxLen) (hp:w≠0):IntKind.wrap .i64 (w-1)=w-1∧inB (w-1) xs.length=true:=by
 have hm:maxLen=9223372036854775807:=rfl;exact ⟨a0H (by omega) (by omega),a0M (by omega) (by omega)⟩
theorem e37 (h0:0≤w) (h1:w<xs.length) (hl:xs.length≤maxLen):a8W N w (bif (w==0) then (((xs.getD w.toNat (.i 0)).cell 0).toI !=0) else false) xs ((xs.getD w.toNat (.i 0)).cell 0).toI=some (b8G xs w):=by
 unfold a8W a5V c3R b2u b8G;by_cases hw:w=0
 ·subst hw
  rw [decide_eq_false (by omega:¬((0:Int)>0))]
  simp only [beq_self_eq_true,e4H];cases (((xs.getD (0:Int).toNat (.i 0)).cell 0).toI !=0)<;>rfl
 ·obtain ⟨e1,e2⟩:=b5h h0 h1 hl hw
  have:(w==0)=false:=by simpa using hw
  rw [this,decide_eq_true (by omega:w>0),e1,e2]
  rfl
theorem e38 (h0:0≤w) (h1:w<xs.length) (hl:xs.length≤maxLen):c16 N w xs ((xs.getD w.toNat (.i 0)).cell 0).toI=some (b8G xs w):=by
 unfold c16 b7M b8G;by_cases hw:w=0
 ·subst hw
  rw [decide_eq_false (by omega:¬((0:Int)>0))]
  simp only [beq_self_eq_true,e4H];cases (((xs.getD (0:Int).toNat (.i 0)).cell 0).toI !=0)<;>rfl
 ·obtain ⟨e1,e2⟩:=b5h h0 h1 hl hw
  have:(w==0)=false:=by simpa using hw
  rw [this,decide_eq_true (by omega:w>0),e1,e2]
  rfl
theorem e39 (start:Int) (s:D):b7r N start (s.cell 0).toI (s.cell 1).toI (s.cell 2).toI (s.cell 3).toI (s.cell 4).toI (s.cell 5).toI (s.cell 6).toI=(c4U start s|| !c6s s):=by
 unfold b7r b2v e1d d0K c8d b7o c8e b7p c4U c6s;simp only [a0b,b8E];cases decide ((s.cell 0).toI>1000000)<;>cases decide (IntKind.wrap .i64 (start+(s.cell 0).toI)>86399999999)<;>cases inI (s.cell 1).toI (-100000000) 100000000<;>cases inI (s.cell 2).toI (-100000000) 100000000<;>cases inI (s.cell 3).toI (-100000) 100000<;>cases inI (s.cell 4).toI (-1) 300<;>cases inI (s.cell 5).toI (-1) 3000<;>cases inI (s.cell 6).toI (-1) 300<;>rfl
theorem c2h (hN:maxLen<N) (start:Int) (hl:xs.length≤maxLen):b7s N xs xs.length start xs 0=some (a29 (a0i (b1T start xs) 0 xs)):=by
 unfold b7s;refine (a0E (.i 0:D) (S:=fun w kr=>a7m N xs xs.length start xs w kr _ _) (L:=fun m w=>b2w N xs xs.length start xs m w _ _) (fun m w=>rfl) (fun w l=>some (a29 (a0i (b1T start xs) w l))) hl ?_ ?_ hN).trans rfl
 ·intro kr;simp [a7m,a0i,a29]
 ·intro w kr h0 h1 hw hi hk
  simp only [a7m,decide_eq_true h1,e4H,hi,a0b,hw,hk,e37 h0 h1 hl,e4M,getD_some,e39,a1v];unfold b1T;cases b8G xs w with
  |true=>rfl
  |false=>cases (c4U start (xs.getD w.toNat (.i 0))|| !c6s (xs.getD w.toNat (.i 0)))<;>rfl
theorem d29 (start:Int) (h0:0≤w) (h1:w<xs.length) (hl:xs.length≤maxLen):d7k N start xs w=some (b1T start xs w):=by
 unfold d7k d1y;rw [a0M h0 h1,e38 h0 h1 hl];unfold b1T c4h b2Z c4i b20 c4U c6s;simp only [a0b,e4H,e4M,getD_some,b8F];generalize xs.getD w.toNat (.i 0)=s;cases b8G xs w<;>cases decide ((s.cell 0).toI>1000000)<;>cases decide (IntKind.wrap .i64 (start+(s.cell 0).toI)>86399999999)<;>cases inI (s.cell 1).toI (-100000000) 100000000<;>cases inI (s.cell 2).toI (-100000000) 100000000<;>cases inI (s.cell 3).toI (-100000) 100000<;>cases inI (s.cell 4).toI (-1) 300<;>cases inI (s.cell 5).toI (-1) 3000<;>cases inI (s.cell 6).toI (-1) 300<;>rfl
theorem c2i (hN:maxLen<N) (start:Int) (hl:xs.length≤maxLen):b7Q N xs.length start xs 0=some (a29 (a0i (b1T start xs) 0 xs)):=by
 unfold b7Q;refine (a0E (.i 0:D) (S:=fun w kr=>a7C N xs.length start xs w kr _ _) (L:=fun m w=>b22 N xs.length start xs m w _ _) (fun m w=>rfl) (fun w l=>some (a29 (a0i (b1T start xs) w l))) hl ?_ ?_ hN).trans rfl
 ·intro kr;simp [a7C,a0i,a29]
 ·intro w kr h0 h1 hw hi hk
  simp only [a7C,decide_eq_true h1,e4H,a0b,hw,hk,d29 start h0 h1 hl,e4M,getD_some,a1v];cases b1T start xs w !=0<;>rfl
def a1w (xs:List D):Int:=bif decide ((xs.length:Int)>0) then ((xs.getD ((xs.length:Int)-1).toNat (.i 0)).cell 0).toI else 0
theorem b3M (hl:xs.length≤maxLen):b5Q N xs=some (a1w xs):=by
 have hm:maxLen=9223372036854775807:=rfl;unfold b5Q d0L a1w;by_cases h:(xs.length:Int)>0
 ·rw [decide_eq_true h,a0H (by omega) (by omega),a0M (by omega) (by omega)];rfl
 ·rw [decide_eq_false h];rfl
theorem b8H (hl:xs.length≤maxLen):c0s N xs=some (a1w xs):=by
 have hm:maxLen=9223372036854775807:=rfl;unfold c0s d1z a1w;by_cases h:(xs.length:Int)>0
 ·have:((xs.length:Int)==0)=false:=by simp;intro h';subst h';simp at h
  rw [decide_eq_true h,this,a0H (by omega) (by omega),a0M (by omega) (by omega)];rfl
 ·have:((xs.length:Int)==0)=true:=by simp;exact List.eq_nil_of_length_eq_zero (by omega)
  rw [decide_eq_false h,this];rfl
def c9N (xs:List D) (w:Int):Bool:=bif decide (w>0) then decide (((xs.getD w.toNat (.i 0)).cell 0).toI<((xs.getD (w-1).toNat (.i 0)).cell 1).toI) else false
def d91 (span:Int) (s:D):Bool:=decide ((s.cell 0).toI<0)||decide ((s.cell 0).toI≥(s.cell 1).toI)||decide ((s.cell 1).toI>span)
def c0E (span:Int) (xs:List D) (w:Int):Int:=bif d91 span (xs.getD w.toNat (.i 0)) then 9 else bif c9N xs w then 10 else bif a6k ((xs.getD w.toNat (.i 0)).cell 2).toS then 0 else 8
theorem e2o (h0:0≤w) (h1:w<xs.length) (hl:xs.length≤maxLen):b7t N w xs ((xs.getD w.toNat (.i 0)).cell 0).toI=some (c9N xs w):=by
 unfold b7t b2x c9N;by_cases hw:w=0
 ·subst hw;rfl
 ·obtain ⟨e1,e2⟩:=b5h h0 h1 hl hw
  rw [decide_eq_true (by omega:w>0),e1,e2];rfl
theorem e4a (h0:0≤w) (h1:w<xs.length) (hl:xs.length≤maxLen):c4j N w xs ((xs.getD w.toNat (.i 0)).cell 0).toI=some (c9N xs w):=e2o (N:=N) h0 h1 hl
theorem c2j (hN:maxLen<N) (span:Int) (hl:xs.length≤maxLen) (hn:∀x∈xs,(x.cell 2).toS.length≤maxLen):b7u N span xs xs.length xs 0=some (a29 (a0i (c0E span xs) 0 xs)):=by
 unfold b7u;refine (a0E (.i 0:D) (S:=fun w kr=>a7n N span xs xs.length xs w kr _ _) (L:=fun m w=>b2y N span xs xs.length xs m w _ _) (fun m w=>rfl) (fun w l=>some (a29 (a0i (c0E span xs) w l))) hl ?_ ?_ hN).trans rfl
 ·intro kr;simp [a7n,a0i,a29]
 ·intro w kr h0 h1 hw hi hk
  have hmem:xs.getD w.toNat (.i 0)∈xs:=by rw [e4L,e4R (by omega)];exact List.getElem_mem _
  simp only [a7n,decide_eq_true h1,e4H,hi,a0b,hw,hk,e2o h0 h1 hl,d28 hN (hn _ hmem),e4M,getD_some,a1v];unfold c0E d91;generalize xs.getD w.toNat (.i 0)=s;cases decide ((s.cell 0).toI<0)<;>cases decide ((s.cell 0).toI≥(s.cell 1).toI)<;>cases decide ((s.cell 1).toI>span)<;>cases c9N xs w<;>cases a6k (s.cell 2).toS<;>rfl
theorem d3a (hN:maxLen<N) {smps:List D} (h0:0≤w) (h1:w<xs.length) (hl:xs.length≤maxLen) (hs:smps.length≤maxLen) (hn:∀x∈xs,(x.cell 2).toS.length≤maxLen):d7q N smps xs w=some (c0E (a1w smps) xs w):=by
 have hmem:xs.getD w.toNat (.i 0)∈xs:=by rw [e4L,e4R (by omega)];exact List.getElem_mem _
 unfold d7q d1B c8x b7N;simp only [a0M h0 h1,e4H,a0b,b8H hs,e4M,getD_some,e4a h0 h1 hl,c2g hN (hn _ hmem)];unfold c0E d91 a6k;generalize xs.getD w.toNat (.i 0)=s;have e3:decide (((s.cell 2).toS.length:Int)>60)= !decide ((s.cell 2).toS.length≤60):=by rw [Bool.eq_iff_iff];simp;omega
 rw [e3];cases decide ((s.cell 0).toI<0)<;>cases decide ((s.cell 0).toI≥(s.cell 1).toI)<;>cases decide ((s.cell 1).toI>a1w smps)<;>cases c9N xs w<;>cases (s.cell 2).toS.all (fun c=>decide (32≤(c.toNat:Int)∧(c.toNat:Int)≤126))<;>cases decide ((s.cell 2).toS.length≤60)<;>rfl
theorem c2k (hN:maxLen<N) {smps:List D} (hl:xs.length≤maxLen) (hs:smps.length≤maxLen) (hn:∀x∈xs,(x.cell 2).toS.length≤maxLen):b7R N xs.length smps xs 0=some (a29 (a0i (c0E (a1w smps) xs) 0 xs)):=by
 unfold b7R;refine (a0E (.i 0:D) (S:=fun w kr=>a7D N xs.length smps xs w kr _ _) (L:=fun m w=>b23 N xs.length smps xs m w _ _) (fun m w=>rfl) (fun w l=>some (a29 (a0i (c0E (a1w smps) xs) w l))) hl ?_ ?_ hN).trans rfl
 ·intro kr;simp [a7D,a0i,a29]
 ·intro w kr h0 h1 hw hi hk
  simp only [a7D,decide_eq_true h1,e4H,a0b,hw,hk,d3a hN h0 h1 hl hs hn,e4M,getD_some,a1v];cases c0E (a1w smps) xs w !=0<;>rfl
def leS (a b:List UInt8):Bool:=Op.bytesLess a b||a==b
def e2p (xs:List D) (w:Int):Bool:=bif decide (w>0) then leS (xs.getD w.toNat (.i 0)).toS (xs.getD (w-1).toNat (.i 0)).toS else false
def c9b (xs:List D) (w:Int):Int:=bif a8k (xs.getD w.toNat (.i 0)).toS then (bif e2p xs w then 10 else 0) else 8
theorem d4B (h0:0≤w) (h1:w<xs.length) (hl:xs.length≤maxLen):(bif (inB (IntKind.wrap .i64 (w-1)) xs.length) then true else (!((decide (w>0))==true)))=true∧(bif (decide (w>0)) then ((Op.bytesLess (xs.getD w.toNat (.i 0)).toS (xs.getD (IntKind.wrap .i64 (w-1)).toNat (.i 0)).toS)||((xs.getD w.toNat (.i 0)).toS==(xs.getD (IntKind.wrap .i64 (w-1)).toNat (.i 0)).toS)) else false)=e2p xs w:=by
 unfold e2p leS;by_cases hw:w=0
 ·subst hw
  rw [decide_eq_false (by omega:¬((0:Int)>0))]
  refine ⟨?_,rfl⟩;cases inB (IntKind.wrap .i64 (0-1)) xs.length<;>rfl
 ·obtain ⟨e1,e2⟩:=b5h h0 h1 hl hw
  rw [decide_eq_true (by omega:w>0),e1,e2]
  exact ⟨rfl,rfl⟩
theorem c2l (hN:maxLen<N) (hl:xs.length≤maxLen) (hn:∀x∈xs,x.toS.length≤maxLen):b7v N xs xs.length xs 0=some (a29 (a0i (c9b xs) 0 xs)):=by
 unfold b7v;refine (a0E (.i 0:D) (S:=fun w kr=>a7o N xs xs.length xs w kr _ _) (L:=fun m w=>b2z N xs xs.length xs m w _ _) (fun m w=>rfl) (fun w l=>some (a29 (a0i (c9b xs) w l))) hl ?_ ?_ hN).trans rfl
 ·intro kr;simp [a7o,a0i,a29]
 ·intro w kr h0 h1 hw hi hk
  have hmem:xs.getD w.toNat (.i 0)∈xs:=by rw [e4L,e4R (by omega)];exact List.getElem_mem _
  obtain ⟨t1,t2⟩:=d4B h0 h1 hl;simp only [a7o,decide_eq_true h1,e4H,hi,a0b,hw,hk,b8D hN (hn _ hmem),e4M,getD_some,a1v,t2];unfold c9b;rw [t1];cases a8k (xs.getD w.toNat (.i 0)).toS<;>cases e2p xs w<;>rfl
theorem c2m (hN:maxLen<N) (hl:xs.length≤maxLen) (hn:∀x∈xs,x.toS.length≤maxLen):b7S N xs xs.length xs 0=some (a29 (a0i (c9b xs) 0 xs)):=by
 unfold b7S;refine (a0E (.i 0:D) (S:=fun w kr=>a7E N xs xs.length xs w kr _ _) (L:=fun m w=>b24 N xs xs.length xs m w _ _) (fun m w=>rfl) (fun w l=>some (a29 (a0i (c9b xs) w l))) hl ?_ ?_ hN).trans rfl
 ·intro kr;simp [a7E,a0i,a29]
 ·intro w kr h0 h1 hw hi hk
  have hmem:xs.getD w.toNat (.i 0)∈xs:=by rw [e4L,e4R (by omega)];exact List.getElem_mem _
  obtain ⟨t1,t2⟩:=d4B h0 h1 hl;simp only [a7E,decide_eq_true h1,e4H,hi,a0b,hw,hk,b8C hN (hn _ hmem),e4M,getD_some,a1v,t2];unfold c9b;rw [t1];cases a8k (xs.getD w.toNat (.i 0)).toS<;>cases e2p xs w<;>rfl
end
def c1d (name:List UInt8) (sport start:Int) (smps laps tags:List D):Int:=
 bif !a8k name then 8 else bif !inI sport 1 5 then 7 else bif !inI start 0 86399999999 then 9 else
 bif decide ((smps.length:Int)>20000)||decide ((laps.length:Int)>200)||decide ((tags.length:Int)>20) then 3 else
 bif a0i (b1T start smps) 0 smps !=0 then a0i (b1T start smps) 0 smps else
 bif a0i (c0E (a1w smps) laps) 0 laps !=0 then a0i (c0E (a1w smps) laps) 0 laps else a0i (c9b tags) 0 tags
structure c2n (name:List UInt8) (smps laps tags:List D):Prop where
 n:name.length≤maxLen
 s:smps.length≤maxLen
 l:laps.length≤maxLen
 t:tags.length≤maxLen
 ln:∀x∈laps,(x.cell 2).toS.length≤maxLen
 tn:∀x∈tags,x.toS.length≤maxLen
theorem d4C {α:Type} (n:Int) (k0:Int→α) (k1:α) (z:α):(bif a1x (some (a29 n)) then k0 (a2t (some (a29 n))) else bif (a0w (some (a29 n))).isSome then k1 else z)=bif n !=0 then k0 n else k1:=by
 unfold a29;cases n !=0<;>rfl
section
variable {name:List UInt8} {sport start:Int} {smps laps tags:List D}
theorem b8I (hN:maxLen<N) (h:c2n name smps laps tags):c1Z N name sport start smps laps tags=some (c1d name sport start smps laps tags):=by
 unfold c1Z d0N;simp only [a0b,b8D hN h.n,e4M,e4H,getD_some,b8E,c2h hN start h.s,b3M h.s,c2j hN _ h.l h.ln,c2l hN h.t h.tn,d4C];unfold c1d;cases a8k name<;>cases inI sport 1 5<;>cases inI start 0 86399999999<;>cases decide ((smps.length:Int)>20000)<;>cases decide ((laps.length:Int)>200)<;>cases decide ((tags.length:Int)>20)<;>try rfl
 cases a0i (b1T start smps) 0 smps !=0<;>cases a0i (c0E (a1w smps) laps) 0 laps !=0<;>cases h3:a0i (c9b tags) 0 tags !=0<;>first|rfl|(simp only [bne_eq_false_iff_eq] at h3;simp [h3])
theorem b8J (hN:maxLen<N) (h:c2n name smps laps tags):b7T N name sport start smps laps tags=some (c1d name sport start smps laps tags):=by
 unfold b7T d1D;simp only [a0b,b8C hN h.n,e4M,e4H,getD_some,b8F,c2i hN start h.s,c2k hN h.l h.s h.ln,c2m hN h.t h.tn,d4C];unfold c1d;cases a8k name<;>cases inI sport 1 5<;>cases inI start 0 86399999999<;>cases decide ((smps.length:Int)>20000)<;>cases decide ((laps.length:Int)>200)<;>cases decide ((tags.length:Int)>20)<;>try rfl
 cases a0i (b1T start smps) 0 smps !=0<;>cases a0i (c0E (a1w smps) laps) 0 laps !=0<;>cases h3:a0i (c9b tags) 0 tags !=0<;>first|rfl|(simp only [bne_eq_false_iff_eq] at h3;simp [h3])
end
end Go.Proofs.YtajladplkpfaiaaGreat
namespace Go.Proofs.YtajladplkpfaiaaGreat
open Go Go.AM
variable {N:Nat}
def a2x (f:D→D→Bool):List D→List D→Bool
 |x::r,y::s=>f x y&&a2x f r s
 |_,_=>true
def eqL (f:D→D→Bool) (xs ys:List D):Bool:=(xs.length==ys.length)&&a2x f xs ys
theorem b8K {xs ys:List D} (f:D→D→Bool) {S:Int→(Int→Option (Sum Unit Unit))→Option (Sum Unit Unit)} {L:Nat→Int→Option (Sum Unit Unit)} (hL:∀m a,L (m+1) a=S a (L m)) (hlen:xs.length≤maxLen) (hxy:xs.length=ys.length)
  (hend:∀kr,S xs.length kr=some (.inr ()))
  (hstep:∀(w:Int) (kr:Int→Option (Sum Unit Unit)),decide (w<xs.length)=true→inB w xs.length=true→inB w ys.length=true→S w kr=bif f (xs.getD w.toNat (.i 0)) (ys.getD w.toNat (.i 0)) then kr (IntKind.wrap .i64 (w+1)) else some (.inl ()))
  (hN:maxLen<N):L N 0=some (bif a2x f xs ys then .inr () else .inl ()):=by
 refine (a0E (.i 0:D) hL (fun w l=>some (bif a2x f l (ys.drop w.toNat) then .inr () else .inl ())) hlen ?_ ?_ hN).trans (by simp)
 ·intro kr;rw [hend];simp [a2x]
 ·intro w kr h0 h1 hw hi hk
  have h2:w<ys.length:=by omega
  rw [hstep w kr (decide_eq_true h1) hi (a0M h0 (by omega)),hw,hk,c1P (.i 0) (xs:=ys) h0 h2]
  simp only [a2x];cases f (xs.getD w.toNat (.i 0)) (ys.getD w.toNat (.i 0))<;>rfl
def d3b (x y:D):Bool:=((x.cell 0).toI==(y.cell 0).toI)&&(((x.cell 1).toI==(y.cell 1).toI)&&(((x.cell 2).toI==(y.cell 2).toI)&&(((x.cell 3).toI==(y.cell 3).toI)&&(((x.cell 4).toI==(y.cell 4).toI)&&(((x.cell 5).toI==(y.cell 5).toI)&&(((x.cell 6).toI==(y.cell 6).toI)&&true))))))
def d4D (x y:D):Bool:=((x.cell 0).toI==(y.cell 0).toI)&&(((x.cell 1).toI==(y.cell 1).toI)&&(((x.cell 2).toS==(y.cell 2).toS)&&true))
def d92 (x y:D):Bool:=x.toS==y.toS
section
variable {xs ys:List D}
theorem c9c:((xs.length:Int) !=(ys.length:Int))= !(xs.length==ys.length):=by
 rw [Bool.eq_iff_iff];simp;omega
theorem c2o (hN:maxLen<N) (hl:xs.length≤maxLen) (h:xs.length=ys.length):b8w N xs.length xs ys 0=some (bif a2x d3b xs ys then .inr () else .inl ()):=by
 unfold b8w;refine b8K d3b (S:=fun w kr=>a78 N xs.length xs ys w kr _ _) (L:=fun m w=>b3H N xs.length xs ys m w _ _) (fun m w=>rfl) hl h (fun kr=>by simp [a78]) (fun w kr h1 h2 h3=> ?_) hN
 unfold a78;rw [h1,h2,h3];show (bif !(d3b _ _) then _ else _)=_
 cases d3b (xs.getD w.toNat (.i 0)) (ys.getD w.toNat (.i 0))<;>rfl
theorem c2p (hN:maxLen<N) (hl:xs.length≤maxLen) (h:xs.length=ys.length):b8x N xs.length xs ys 0=some (bif a2x d4D xs ys then .inr () else .inl ()):=by
 unfold b8x;refine b8K d4D (S:=fun w kr=>a79 N xs.length xs ys w kr _ _) (L:=fun m w=>b3I N xs.length xs ys m w _ _) (fun m w=>rfl) hl h (fun kr=>by simp [a79]) (fun w kr h1 h2 h3=> ?_) hN
 unfold a79;rw [h1,h2,h3];show (bif !(d4D _ _) then _ else _)=_
 cases d4D (xs.getD w.toNat (.i 0)) (ys.getD w.toNat (.i 0))<;>rfl
theorem c2q (hN:maxLen<N) (hl:xs.length≤maxLen) (h:xs.length=ys.length):b8y N xs.length xs ys 0=some (bif a2x d92 xs ys then .inr () else .inl ()):=by
 unfold b8y;refine b8K d92 (S:=fun w kr=>a8a N xs.length xs ys w kr _ _) (L:=fun m w=>b3J N xs.length xs ys m w _ _) (fun m w=>rfl) hl h (fun kr=>by simp [a8a]) (fun w kr h1 h2 h3=> ?_) hN
 unfold a8a;rw [h1,h2,h3];show (bif !(d92 _ _) then _ else _)=_
 cases d92 (xs.getD w.toNat (.i 0)) (ys.getD w.toNat (.i 0))<;>rfl
end
def c9d (n:List UInt8) (sp st:Int) (s l t:List D) (n':List UInt8) (sp' st':Int) (s' l' t':List D):Bool:=
 (n==n')&&(sp==sp')&&(st==st')&&eqL d3b s s'&&eqL d4D l l'&&eqL d92 t t'
section
variable {n n':List UInt8} {sp st sp' st':Int} {s l t s' l' t':List D}
theorem d3c (hN:maxLen<N) (hs:s.length≤maxLen) (hl:l.length≤maxLen) (ht:t.length≤maxLen):d23 N n sp st s l t n' sp' st' s' l' t'=some (c9d n sp st s l t n' sp' st' s' l' t'):=by
 unfold d23 d22;have e1:(sp !=sp')= !(sp==sp'):=rfl;have e2:(st !=st')= !(st==st'):=rfl;simp only [a0b,c9c,e1,e2];unfold c9d eqL;cases h1:(s.length==s'.length) with
 |false=>cases n==n'<;>cases sp==sp'<;>cases st==st'<;>rfl
 |true=>
 cases h2:(l.length==l'.length) with
 |false=>cases n==n'<;>cases sp==sp'<;>cases st==st'<;>cases a2x d3b s s'<;>rfl
 |true=>
 cases h3:(t.length==t'.length) with
 |false=>cases n==n'<;>cases sp==sp'<;>cases st==st'<;>cases a2x d3b s s'<;>cases a2x d4D l l'<;>rfl
 |true=>
 rw [c2o hN hs (by simpa using h1),c2p hN hl (by simpa using h2),c2q hN ht (by simpa using h3)]
 cases n==n'<;>cases sp==sp'<;>cases st==st'<;>cases a2x d3b s s'<;>cases a2x d4D l l'<;>cases a2x d92 t t'<;>rfl
theorem b5i {f:D→D→Bool} (hf:∀x,f x x=true):∀l,a2x f l l=true
 | []=>rfl
 |x::r=>by simp only [a2x,hf,b5i hf r,Bool.and_self]
theorem b8L {f:D→D→Bool} (hf:∀x,f x x=true) (l:List D):eqL f l l=true:=by
 unfold eqL;rw [b5i hf];simp
theorem c6t:c9d n sp st s l t n sp st s l t=true:=by
 unfold c9d;rw [b8L (fun x=>by simp [d3b]),b8L (fun x=>by simp [d4D]),b8L (fun x=>by simp [d92])]
 simp
end
end Go.Proofs.YtajladplkpfaiaaGreat
namespace Go.Proofs.YtajladplkpfaiaaGreat
open Go Go.AM
variable {N:Nat}
theorem a3t (n a b:Int):b2b N n a b=inI n a b:=by
 unfold b2b d0E inI;rw [Bool.eq_iff_iff];simp
theorem a38 (n a b:Int):b2d N n a b= !inI n a b:=by
 unfold b2d d1l inI;rw [Bool.eq_iff_iff];simp<;>omega
def c9e (kd x y r hf ht n:Int) (s:List UInt8):Bool:=
 (kd==1||(x==0&&y==0&&r==0))&&(kd==2||(hf==0&&ht==0))&&(kd==3||kd==5||kd==8||n==0)&&(kd==4||s==[])
def c2r (kd x y r hf ht n:Int) (s:List UInt8):Int:=
 bif kd==1 then (bif inI x (-100000000) 100000000&&inI y (-100000000) 100000000&&inI r 0 1000000 then 0 else 9)
 else bif kd==2 then (bif decide (hf<0)||decide (hf>ht)||decide (ht≥86400) then 9 else 0)
 else bif kd==3 then (bif inI n 1 4 then 0 else 9)
 else bif kd==8 then (bif inI n 1 1000000 then 0 else 9)
 else bif kd==5 then (bif inI n 1 5 then 0 else 7)
 else bif kd==4 then (bif a8k s then 0 else 8) else 0
def b8M (fr kd x y r hf ht n:Int) (s:List UInt8):Int:=
 bif !inI kd 1 8 then 7 else bif !inI fr 1 3 then 9 else bif c2r kd x y r hf ht n s !=0 then c2r kd x y r hf ht n s else bif c9e kd x y r hf ht n s then 0 else 2
theorem c4V {kd:Int} (h:inI kd 1 8=true):kd=1∨kd=2∨kd=3∨kd=4∨kd=5∨kd=6∨kd=7∨kd=8:=by
 have:=of_decide_eq_true h;omega
section
variable {fr kd x y r hf ht n:Int} {s:List UInt8}
theorem d3d (hN:maxLen<N) (hs:s.length≤maxLen):d5P N fr kd x y r hf ht n s=some (b8M fr kd x y r hf ht n s):=by
 unfold d5P d0H;simp only [a0b,a3t];unfold b8M;cases hk:inI kd 1 8 with
 |false=>rfl
 |true=>
 cases hfr:inI fr 1 3 with
 |false=>rfl
 |true=>
 unfold c2r c9e;rcases c4V hk with rfl|rfl|rfl|rfl|rfl|rfl|rfl|rfl
 ·unfold a11 a09 c3Q b2r
  simp only [a0b,a3t,beq_self_eq_true,Int.reduceBEq,e4H,e4I];cases inI x (-100000000) 100000000<;>cases inI y (-100000000) 100000000<;>cases inI r 0 1000000<;>(try rfl)<;>simp only [a0W,a0J,a0X,a0K,e4M,getD_some,e4H,e4I,Bool.not_true,Bool.not_false]<;>cases hf==0<;>cases ht==0<;>cases n==0<;>cases s==[]<;>rfl
 ·unfold a11 a09 a2j a1D
  simp only [a0b,beq_self_eq_true,Int.reduceBEq,e4H,e4I];cases decide (hf<0)<;>cases decide (hf>ht)<;>cases decide (ht≥86400)<;>(try rfl)<;>simp only [a0W,a0J,a0X,a0K,e4M,getD_some,e4H,e4I,Bool.not_true,Bool.not_false]<;>cases x==0<;>cases y==0<;>cases r==0<;>cases n==0<;>cases s==[]<;>rfl
 ·unfold a11 a09 a2j a1D a2J a10
  simp only [a0b,a3t,beq_self_eq_true,Int.reduceBEq,e4H,e4I];cases inI n 1 4<;>(try rfl)<;>simp only [a0W,a0J,a0X,a0K,e4M,getD_some,e4H,e4I,Bool.not_true,Bool.not_false]<;>cases hf==0<;>cases ht==0<;>cases x==0<;>cases y==0<;>cases r==0<;>cases s==[]<;>rfl
 ·unfold a11 a09 a2j a1D a2J a10 a3r a2i a4u a2I b2s a7k
  simp only [a0b,a3t,b8D hN hs,beq_self_eq_true,Int.reduceBEq,e4H,e4I];cases a8k s<;>(try rfl)<;>simp only [a0W,a0J,a0X,a0K,e4M,getD_some,e4H,e4I,Bool.not_true,Bool.not_false]<;>cases hf==0<;>cases ht==0<;>cases x==0<;>cases y==0<;>cases r==0<;>cases n==0<;>rfl
 ·unfold a11 a09 a2j a1D a2J a10 a3r a2i a4u a2I
  simp only [a0b,a3t,beq_self_eq_true,Int.reduceBEq,e4H,e4I];cases inI n 1 5<;>(try rfl)<;>simp only [a0W,a0J,a0X,a0K,e4M,getD_some,e4H,e4I,Bool.not_true,Bool.not_false]<;>cases hf==0<;>cases ht==0<;>cases x==0<;>cases y==0<;>cases r==0<;>cases s==[]<;>rfl
 ·unfold a11 a09 a2j a1D a2J a10 a3r a2i a4u a2I b2s a7k
  simp only [a0b,a3t,beq_self_eq_true,Int.reduceBEq,e4H,e4I];simp only [a0W,a0J,a0X,a0K,e4M,getD_some,e4H,e4I,Bool.not_true,Bool.not_false];cases hf==0<;>cases ht==0<;>cases x==0<;>cases y==0<;>cases r==0<;>cases n==0<;>cases s==[]<;>rfl
 ·unfold a11 a09 a2j a1D a2J a10 a3r a2i a4u a2I b2s a7k
  simp only [a0b,a3t,beq_self_eq_true,Int.reduceBEq,e4H,e4I];simp only [a0W,a0J,a0X,a0K,e4M,getD_some,e4H,e4I,Bool.not_true,Bool.not_false];cases hf==0<;>cases ht==0<;>cases x==0<;>cases y==0<;>cases r==0<;>cases n==0<;>cases s==[]<;>rfl
 ·unfold a11 a09 a2j a1D a2J a10 a3r a2i
  simp only [a0b,a3t,beq_self_eq_true,Int.reduceBEq,e4H,e4I];cases inI n 1 1000000<;>(try rfl)<;>simp only [a0W,a0J,a0X,a0K,e4M,getD_some,e4H,e4I,Bool.not_true,Bool.not_false]<;>cases hf==0<;>cases ht==0<;>cases x==0<;>cases y==0<;>cases r==0<;>cases s==[]<;>rfl
theorem b8N (a b:Int):(a==b)=(b==a):=by rw [Bool.eq_iff_iff];simp;exact eq_comm
theorem b0f (a b:List UInt8):(a==b)=(b==a):=by rw [Bool.eq_iff_iff];simp;exact eq_comm
theorem d3e (hN:maxLen<N) (hs:s.length≤maxLen):d7b N fr kd x y r hf ht n s=some (b8M fr kd x y r hf ht n s):=by
 unfold d7b d1u;simp only [a0b,a38];unfold b8M;cases hk:inI kd 1 8 with
 |false=>rfl
 |true=>
 cases hfr:inI fr 1 3 with
 |false=>rfl
 |true=>
 unfold c2r c9e b4U a51 d4t c4d b1O a4L c4f b2W c4g b2X;rcases c4V hk with rfl|rfl|rfl|rfl|rfl|rfl|rfl|rfl
 ·unfold c4e b2V
  simp only [a0b,a38,beq_self_eq_true,Int.reduceBEq,e4H,e4I,b8N 0,b0f []];cases inI x (-100000000) 100000000<;>cases inI y (-100000000) 100000000<;>cases inI r 0 1000000<;>(try rfl)<;>simp only [a0W,a0J,a0X,a0K,e4M,getD_some,e4H,e4I,Bool.not_true,Bool.not_false]<;>cases hf==0<;>cases ht==0<;>cases n==0<;>cases s==[]<;>rfl
 ·unfold a2n a1E a1T a03
  simp only [a0b,beq_self_eq_true,Int.reduceBEq,e4H,e4I,b8N 0,b0f []];cases decide (hf<0)<;>cases decide (hf>ht)<;>cases decide (ht≥86400)<;>(try rfl)<;>simp only [a0W,a0J,a0X,a0K,e4M,getD_some,e4H,e4I,Bool.not_true,Bool.not_false]<;>cases x==0<;>cases y==0<;>cases r==0<;>cases n==0<;>cases s==[]<;>rfl
 ·unfold a2n a1E a2K a12 a1T a03 a2l a1k a2m a1l
  simp only [a0b,a38,beq_self_eq_true,Int.reduceBEq,e4H,e4I,b8N 0,b0f []];cases inI n 1 4<;>(try rfl)<;>simp only [a0W,a0J,a0X,a0K,e4M,getD_some,e4H,e4I,Bool.not_true,Bool.not_false]<;>cases hf==0<;>cases ht==0<;>cases x==0<;>cases y==0<;>cases r==0<;>cases s==[]<;>rfl
 ·unfold a2n a1E a2K a12 a7z a4M a1T a03 a2l a1k a2m a1l a2O a1S a9R a5o
  simp only [a0b,a38,beq_self_eq_true,Int.reduceBEq,e4H,e4I,b8N 0,b0f [],b8C hN hs];cases a8k s<;>(try rfl)<;>simp only [a0W,a0J,a0X,a0K,e4M,getD_some,e4H,e4I,Bool.not_true,Bool.not_false]<;>cases hf==0<;>cases ht==0<;>cases x==0<;>cases y==0<;>cases r==0<;>cases n==0<;>rfl
 ·unfold a2n a1E a2K a12 a7z a4M a1T a03 a2l a1k a2m a1l a2O a1S
  simp only [a0b,a38,beq_self_eq_true,Int.reduceBEq,e4H,e4I,b8N 0,b0f []];cases inI n 1 5<;>(try rfl)<;>simp only [a0W,a0J,a0X,a0K,e4M,getD_some,e4H,e4I,Bool.not_true,Bool.not_false]<;>cases hf==0<;>cases ht==0<;>cases x==0<;>cases y==0<;>cases r==0<;>cases s==[]<;>rfl
 ·unfold a2n a1E a2K a12 a7z a4M a1T a03 a2l a1k a2m a1l a2O a1S a9R a5o
  simp only [a0b,beq_self_eq_true,Int.reduceBEq,e4H,e4I,b8N 0,b0f []];simp only [a0W,a0J,a0X,a0K,e4M,getD_some,e4H,e4I,Bool.not_true,Bool.not_false];cases hf==0<;>cases ht==0<;>cases x==0<;>cases y==0<;>cases r==0<;>cases n==0<;>cases s==[]<;>rfl
 ·unfold a2n a1E a2K a12 a7z a4M a1T a03 a2l a1k a2m a1l a2O a1S a9R a5o
  simp only [a0b,beq_self_eq_true,Int.reduceBEq,e4H,e4I,b8N 0,b0f []];simp only [a0W,a0J,a0X,a0K,e4M,getD_some,e4H,e4I,Bool.not_true,Bool.not_false];cases hf==0<;>cases ht==0<;>cases x==0<;>cases y==0<;>cases r==0<;>cases n==0<;>cases s==[]<;>rfl
 ·unfold a2n a1E a2K a12 a7z a4M a1T a03 a2l a1k a2m a1l a2O a1S
  simp only [a0b,a38,beq_self_eq_true,Int.reduceBEq,e4H,e4I,b8N 0,b0f []];cases inI n 1 1000000<;>(try rfl)<;>simp only [a0W,a0J,a0X,a0K,e4M,getD_some,e4H,e4I,Bool.not_true,Bool.not_false]<;>cases hf==0<;>cases ht==0<;>cases x==0<;>cases y==0<;>cases r==0<;>cases s==[]<;>rfl
end
theorem d93:e2i 18446744073709551616=some true:=by kernel_rfl
end Go.Proofs.YtajladplkpfaiaaGreat
namespace Go.Proofs.YtajladplkpfaiaaGreat
open Go Go.AM
variable {N:Nat}
theorem a01 {α A X:Type} {xs:List α} (d:α) {S:Int→A→(Int→A→X)→X} {L:Nat→Int→A→X} (hL:∀m w a,L (m+1) w a=S w a (L m)) (spec:Int→List α→A→X) (Inv:Int→A→Prop) (hlen:xs.length≤maxLen)
  (hend:∀a kr,Inv xs.length a→S xs.length a kr=spec xs.length [] a)
  (hstep:∀(w:Int) (a:A) (kr:Int→A→X),0≤w→w<xs.length→IntKind.wrap .i64 (w+1)=w+1→inB w xs.length=true→Inv w a→(∀a',Inv (w+1) a'→kr (w+1) a'=spec (w+1) (xs.drop (w+1).toNat) a')→S w a kr=spec w (xs.getD w.toNat d::xs.drop (w+1).toNat) a)
  (hN:maxLen<N) {a:A} (h0:Inv 0 a):L N 0 a=spec 0 xs a:=by
 have hm:maxLen=9223372036854775807:=rfl;have:=c3C (A:=Int×A) (X:=X) (S:=fun p kr=>S p.1 p.2 (fun w a=>kr (w,a))) (L:=fun m p=>L m p.1 p.2) (fun m p=>hL m p.1 p.2) (fun p=>spec p.1 (xs.drop p.1.toNat) p.2) (fun p=>0≤p.1∧p.1≤xs.length∧Inv p.1 p.2) (fun p=>(xs.length-p.1).toNat) (fun ⟨w,a⟩ kr ⟨h0,h1,hi⟩ ih=>by
  simp only at h0 h1 hi ih⊢;by_cases hw:w<xs.length
  ·rw [c1P d h0 hw]
   exact hstep w a _ h0 hw (a0H (by omega) (by omega)) (a0M h0 hw) hi fun a' ha'=>ih (w+1,a') ⟨by simp only;omega,by simp only;omega,ha'⟩ (by simp only;omega)
  ·have:w=xs.length:=by omega
   subst this;rw [c3D (by omega)]
   exact hend a _ hi) N (0,a) ⟨Int.le_refl _,by simp only;omega,h0⟩ (by simp only;omega)
 simpa using this
abbrev a85 (x:D):Int:=(x.cell 0).toI
abbrev a0P (x:D):Int:=(x.cell 1).toI
abbrev rX (x:D):Int:=(x.cell 2).toI
abbrev rY (x:D):Int:=(x.cell 3).toI
abbrev rR (x:D):Int:=(x.cell 4).toI
abbrev rHf (x:D):Int:=(x.cell 5).toI
abbrev rHt (x:D):Int:=(x.cell 6).toI
abbrev rN (x:D):Int:=(x.cell 7).toI
abbrev rT (x:D):List UInt8:=(x.cell 8).toS
def b5S (x:D):Int:=b8M (a85 x) (a0P x) (rX x) (rY x) (rR x) (rHf x) (rHt x) (rN x) (rT x)
def c2s (xs:List D):Int:=bif decide ((xs.length:Int)>50) then 3 else a0i (fun w=>b5S (xs.getD w.toNat (.i 0))) 0 xs
structure a4R (xs:List D):Prop where
 l:xs.length≤maxLen
 t:∀x∈xs,(rT x).length≤maxLen
theorem a2B {xs:List D} {w:Int} (h0:0≤w) (h1:w<xs.length):xs.getD w.toNat (.i 0)∈xs:=by
 rw [e4L,e4R (by omega)];exact List.getElem_mem _
section
variable {xs:List D}
theorem c2t (hN:maxLen<N) (h:a4R xs):b7n N xs xs.length 0=some (a29 (a0i (fun w=>b5S (xs.getD w.toNat (.i 0))) 0 xs)):=by
 unfold b7n;refine (a0E (.i 0:D) (S:=fun w kr=>a7l N xs xs.length w kr _ _) (L:=fun m w=>b2t N xs xs.length m w _ _) (fun m w=>rfl) (fun w l=>some (a29 (a0i (fun w=>b5S (xs.getD w.toNat (.i 0))) w l))) h.l ?_ ?_ hN).trans rfl
 ·intro kr;simp [a7l,a0i,a29]
 ·intro w kr h0 h1 hw hi hk
  simp only [a7l,decide_eq_true h1,e4H,hi,a0b,hw,hk,d3d hN (h.t _ (a2B h0 h1)),e4M,getD_some,a1v];unfold b5S;generalize b8M _ _ _ _ _ _ _ _ _=e;cases e !=0<;>rfl
theorem c2u (hN:maxLen<N) (h:a4R xs):b7L N xs xs.length 0=some (a29 (a0i (fun w=>b5S (xs.getD w.toNat (.i 0))) 0 xs)):=by
 unfold b7L;refine (a0E (.i 0:D) (S:=fun w kr=>a7A N xs xs.length w kr _ _) (L:=fun m w=>b2Y N xs xs.length m w _ _) (fun m w=>rfl) (fun w l=>some (a29 (a0i (fun w=>b5S (xs.getD w.toNat (.i 0))) w l))) h.l ?_ ?_ hN).trans rfl
 ·intro kr;simp [a7A,a0i,a29]
 ·intro w kr h0 h1 hw hi hk
  simp only [a7A,decide_eq_true h1,e4H,hi,a0b,hw,hk,d3e hN (h.t _ (a2B h0 h1)),e4M,getD_some,a1v];unfold b5S;generalize b8M _ _ _ _ _ _ _ _ _=e;cases e !=0<;>rfl
theorem c2v (b:Bool) (e:Int):(bif b then some (3:Int) else bif a1x (some (a29 e)) then some (a2t (some (a29 e))) else bif (a0w (some (a29 e))).isSome then some 0 else none)=some (bif b then 3 else e):=by
 unfold a29;cases b with
 |true=>rfl
 |false=>
  cases h:e !=0 with
  |true=>rfl
  |false=>simp only [bne_eq_false_iff_eq] at h;subst h;rfl
theorem d3f (hN:maxLen<N) (h:a4R xs):d5S N xs=some (c2s xs):=by
 unfold d5S d0I c2s;simp only [a0b,c2t hN h];exact c2v _ _
theorem c4W (hN:maxLen<N) (h:a4R xs):d7e N xs=some (c2s xs):=by
 unfold d7e d1v c2s;simp only [a0b,c2u hN h];exact c2v _ _
theorem a2p {e:Int→Int}:∀{l:List D} {w:Int},a0i e w l=0→ ∀i:Nat,i<l.length→e (w+i)=0
 | [],_,_,i,hi=>by simp at hi
 | _::r,w,h,i,hi=>by
  simp only [a0i] at h;cases he:e w !=0 with
  |true=>rw [he] at h;simp only [e4H] at h;rw [h] at he;cases he
  | false=>
   rw [he] at h;simp only [e4I] at h;simp only [bne_eq_false_iff_eq] at he;cases i with
   |zero=>simpa using he
   |succ i=>
    have:=a2p h i (by simpa using hi)
    rw [show w+((i+1:Nat):Int)=w+1+(i:Int) by omega]
    exact this
structure a2q (xs:List D):Prop where
 l:xs.length≤50
 r:∀w:Int,0≤w→w<xs.length→b5S (xs.getD w.toNat (.i 0))=0
theorem d3g (h:c2s xs=0):a2q xs:=by
 unfold c2s at h;by_cases hl:(xs.length:Int)>50
 ·rw [decide_eq_true hl] at h;cases h
 ·rw [decide_eq_false hl] at h
  simp only [e4I] at h;refine ⟨by omega,fun w h0 h1=> ?_⟩
  have:=a2p h w.toNat (by omega)
  rw [show (0:Int)+(w.toNat:Int)=w by omega] at this
  exact this
theorem a2q.mem (h:a2q xs) {x:D} (hx:x∈xs):b5S x=0:=by
 obtain ⟨i,hi,rfl⟩:=List.getElem_of_mem hx;have:=h.r i (by omega) (by omega)
 rw [e4L] at this;simpa [e4R hi] using this
end
theorem c6u {fr kd x y r hf ht n:Int} {s:List UInt8} (h:b8M fr kd x y r hf ht n s=0):inI kd 1 8=true∧inI fr 1 3=true∧c2r kd x y r hf ht n s=0∧c9e kd x y r hf ht n s=true:=by
 unfold b8M at h;cases h1:inI kd 1 8 with
 |false=>rw [h1] at h;cases h
 |true=>
 cases h2:inI fr 1 3 with
 |false=>rw [h1,h2] at h;cases h
 |true=>
 rw [h1,h2] at h;cases h3:c2r kd x y r hf ht n s !=0 with
 |true=>rw [h3] at h;simp only [Bool.not_true,e4I,e4H] at h;rw [h] at h3;cases h3
 |false=>
  rw [h3] at h;cases h4:c9e kd x y r hf ht n s with
  |false=>rw [h4] at h;cases h
  |true=>exact ⟨rfl,rfl,by simpa using h3,rfl⟩
def c4X (b:Bool):Sum Unit Unit:=bif b then .inl () else .inr ()
section
variable {xs:List D} {k:Int}
theorem c9f {n sz:Nat} (hn:n≤50) (hs:sz≤1000):(decide ((n+1)*sz≤a1K)&&decide ((n+1)≤a0g))=true:=by
 have h1:(n+1)*sz≤51*1000:=Nat.mul_le_mul (by omega) hs
 have h2:a1K=140737488355328:=rfl;have h3:a0g=9223372036854775807:=rfl;rw [decide_eq_true (by omega),decide_eq_true (by omega)];rfl
def reR (x:D):D:= .a [.i (a85 x),.i (a0P x),.i (rX x),.i (rY x),.i (rR x),.i (rHf x),.i (rHt x),.i (rN x),.s (rT x)]
end
section
variable {xs ys:List D}
end
end Go.Proofs.YtajladplkpfaiaaGreat
namespace Go.Proofs.YtajladplkpfaiaaGreat
open Go Go.AM
variable {N:Nat}
section
variable {xs:List D}
end
section
variable {a b:Bool} {v u:List D}
end
end Go.Proofs.YtajladplkpfaiaaGreat
namespace Go.Proofs.YtajladplkpfaiaaGreat
open Go Go.AM
variable {N:Nat}
def a1a (p:D→Bool) (f:D→D):List D→Bool×List D→Bool×List D
 | [],a=>a
 |x::r,a=>a1a p f r (bif p x then (false,a.2++[f x]) else a)
theorem a4v (p:D→Bool) (f:D→D):∀(l:List D) (a:Bool×List D),(a1a p f l a).2=a.2++(l.filter p).map f
 | [],a=>by simp [a1a]
 |x::r,a=>by
  simp only [a1a];rw [a4v p f r];cases h:p x<;>simp [List.filter_cons,h]
def c6N (lv:Int) (r:D):Bool:=decide (a85 r≤lv)
def c6v (lv k:Int) (r:D):Bool:=bif decide (a85 r≤lv) then a0P r==k else false
def a13 (xs:List D) (lv:Int):List D:=(xs.filter (c6N lv)).map reR
def a2g (xs:List D) (lv k:Int):List D:=(xs.filter (c6v lv k)).map reR
theorem b8O {a:Bool×List D} {l:List D} (h:a.2=l):a=(a.1,l):=by rw [←h]
section
variable {xs:List D} {lv:Int}
theorem c9g (h:xs.length≤50):xs.length≤maxLen:=by have hm:maxLen=9223372036854775807:=rfl;omega
theorem d3h (hN:maxLen<N) (h:xs.length≤50):∃b,d6i N xs lv=some (b,a13 xs lv):=by
 have e:c10 N lv xs xs.length 0 true []=some (a1a (c6N lv) reR xs (true,[])):=by
  unfold c10;refine a01 (.i 0:D) (A:=Bool×List D) (S:=fun w a kr=>b0L N lv xs xs.length w a.1 a.2 (fun w b l=>kr w (b,l)) _) (L:=fun m w a=>b7x N lv xs xs.length m w a.1 a.2 _) (fun m w a=>rfl) (fun w l a=>some (a1a (c6N lv) reR l a)) (fun w a=>(a.2.length:Int)≤w) (c9g h) ?_ ?_ hN (a:=(true,[])) (by simp)
  ·intro a kr _;simp [b0L,a1a]
  ·intro w a kr h0 h1 hw hi ha hk
   simp only [b0L,decide_eq_true h1,e4H,hi,a0b,hw,c3S,b2B,a1a];show _=some (a1a _ _ _ (bif decide (a85 (xs.getD w.toNat (.i 0))≤lv) then _ else _))
   cases hb:decide (a85 (xs.getD w.toNat (.i 0))≤lv) with
   |true=>
    rw [c9f (by omega) (by omega)]
    exact hk (false,a.2++[reR (xs.getD w.toNat (.i 0))]) (by simp;omega)
   |false=>exact hk a (by omega)
 refine ⟨(a1a (c6N lv) reR xs (true,[])).1,?_⟩;unfold d6i d0Q;rw [e];have:=a4v (c6N lv) reR xs (true,[]);rw [List.nil_append] at this;exact congrArg some (b8O this)
theorem a3I (hN:maxLen<N) (h:xs.length≤50) (k:Int):∃b,a6U N xs lv k=some (b,a2g xs lv k):=by
 have e:b7V N lv k xs xs.length 0 true []=some (a1a (c6v lv k) reR xs (true,[])):=by
  unfold b7V;refine a01 (.i 0:D) (A:=Bool×List D) (S:=fun w a kr=>a7G N lv k xs xs.length w a.1 a.2 (fun w b l=>kr w (b,l)) _) (L:=fun m w a=>b26 N lv k xs xs.length m w a.1 a.2 _) (fun m w a=>rfl) (fun w l a=>some (a1a (c6v lv k) reR l a)) (fun w a=>(a.2.length:Int)≤w) (c9g h) ?_ ?_ hN (a:=(true,[])) (by simp)
  ·intro a kr _;simp [a7G,a1a]
  ·intro w a kr h0 h1 hw hi ha hk
   simp only [a7G,decide_eq_true h1,e4H,hi,a0b,hw,c0t,a9S,a1a];show _=some (a1a _ _ _ (bif (bif decide (a85 (xs.getD w.toNat (.i 0))≤lv) then a0P (xs.getD w.toNat (.i 0))==k else false) then _ else _))
   cases hb:(bif decide (a85 (xs.getD w.toNat (.i 0))≤lv) then a0P (xs.getD w.toNat (.i 0))==k else false) with
   |true=>
    rw [c9f (by omega) (by omega)]
    exact hk (false,a.2++[reR (xs.getD w.toNat (.i 0))]) (by simp;omega)
   |false=>exact hk a (by omega)
 refine ⟨(a1a (c6v lv k) reR xs (true,[])).1,?_⟩;unfold a6U c4k;rw [e];have:=a4v (c6v lv k) reR xs (true,[]);rw [List.nil_append] at this;exact congrArg some (b8O this)
theorem c4Y:(a13 xs lv).length≤xs.length:=by unfold a13;rw [List.length_map];exact List.length_filter_le _ _
theorem a8d {k:Int}:(a2g xs lv k).length≤xs.length:=by unfold a2g;rw [List.length_map];exact List.length_filter_le _ _
end
def b2e (P:D→Bool):Int→List D→Int
 |_,[]=> -1
 |w,x::r=>bif P x then w else b2e P (w+1) r
theorem a6Z (P:D→Bool):∀(l:List D) (w:Int),0≤w→decide (b2e P w l≥0)=l.any P
 | [],w,_=>by simp [b2e]
 | x::r,w,h=>by
  by_cases hp:P x=true
  ·simp [b2e,hp,h]
  ·have hp:=eq_false_of_ne_true hp
   have:=a6Z P r (w+1) (by omega)
   simp only [b2e,List.any_cons,hp,e4I,Bool.false_or];exact this
def c1e (P:D→Bool) (w:Int) (l:List D):Sum Int Unit:=bif l.any P then .inl (b2e P w l) else .inr ()
theorem b5j {P:D→Bool} {w:Int} {x:D} {l:List D}:c1e P w (x::l)=bif P x then .inl w else c1e P (w+1) l:=by
 simp only [c1e,List.any_cons,b2e];cases P x<;>rfl
theorem b8P (P:D→Bool) (l:List D):(bif a1x (some (c1e P 0 l)) then some (a2t (some (c1e P 0 l))) else bif (a0w (some (c1e P 0 l))).isSome then some (-1:Int) else none)=some (b2e P 0 l):=by
 unfold c1e;have:=a6Z P l 0 (by omega)
 cases h:l.any P with
 |true=>rfl
 | false=>
  rw [h] at this;have hn:b2e P 0 l= -1:=by
   clear this;have:∀(l:List D) (w:Int),l.any P=false→b2e P w l= -1:=by
    intro l;induction l with
    |nil=>intro w _;rfl
    |cons x r ih=>
     intro w hx;simp only [List.any_cons,Bool.or_eq_false_iff] at hx;simp only [b2e,hx.1,e4I];exact ih _ hx.2
   exact this l 0 h
  rw [hn];rfl
def c6w (P:D→Bool) (l:List D):Sum Unit Unit:=c4X (l.any P)
theorem a60 {P:D→Bool} {x:D} {l:List D}:c6w P (x::l)=bif P x then .inl () else c6w P l:=by
 simp only [c6w,c4X,List.any_cons];cases P x<;>rfl
section
variable {xs:List D}
theorem c9h (hN:maxLen<N) (hl:xs.length≤maxLen) (s:List UInt8):c8g N xs s=some (b2e (fun t=>s==t.toS) 0 xs):=by
 have e:b7y N xs s xs.length 0=some (c1e (fun t=>s==t.toS) 0 xs):=by
  unfold b7y;refine (a0E (.i 0:D) (S:=fun w kr=>a7q N xs s xs.length w kr _ _) (L:=fun m w=>b2C N xs s xs.length m w _ _) (fun m w=>rfl) (fun w l=>some (c1e (fun t=>s==t.toS) w l)) hl ?_ ?_ hN).trans rfl
  ·intro kr;simp [a7q,c1e]
  ·intro w kr h0 h1 hw hi hk
   simp only [a7q,decide_eq_true h1,e4H,hi,hw,hk,b5j];cases s==(xs.getD w.toNat (.i 0)).toS<;>rfl
 unfold c8g c3T;rw [e];exact b8P _ _
theorem c9i (hN:maxLen<N) (hl:xs.length≤maxLen) (s:List UInt8):c8h N xs s=some (xs.any fun t=>s==t.toS):=by
 unfold c8h c3U;rw [c9h hN hl];simp only [a0b,e4M,getD_some,e4H,a6Z _ _ 0 (by omega)]
def a2d (sport:Int) (tags:List D) (r:D):Bool:=bif a0P r==5 then sport==rN r else bif a0P r==4 then tags.any (fun t=>rT r==t.toS) else false
theorem d3i (hN:maxLen<N) {tags:List D} (ht:tags.length≤maxLen) (sport:Int) (r:D):d6p N (a0P r) (rN r) (rT r) sport tags=some (a2d sport tags r):=by
 unfold d6p d0V c8i b7z a2d e1k d0U;simp only [a0b,c9i hN ht];cases a0P r==5 with
 |true=>rfl
 |false=>cases a0P r==4<;>rfl
theorem d3j (hN:maxLen<N) (hl:xs.length≤maxLen) {tags:List D} (ht:tags.length≤maxLen) (sport:Int):d6r N xs sport tags=some (xs.any (a2d sport tags)):=by
 have e:b7A N xs xs.length sport tags 0=some (c1e (a2d sport tags) 0 xs):=by
  unfold b7A;refine (a0E (.i 0:D) (S:=fun w kr=>a7r N xs xs.length sport tags w kr _ _) (L:=fun m w=>b2D N xs xs.length sport tags m w _ _) (fun m w=>rfl) (fun w l=>some (c1e (a2d sport tags) w l)) hl ?_ ?_ hN).trans rfl
  ·intro kr;simp [a7r,c1e]
  ·intro w kr h0 h1 hw hi hk
   simp only [a7r,decide_eq_true h1,e4H,hi,hw,hk,a0b,d3i hN ht,e4M,getD_some,b5j];cases a2d sport tags (xs.getD w.toNat (.i 0))<;>rfl
 unfold d6r d0Y d4m c3V;rw [e];simp only [a0b];rw [b8P];simp only [e4M,getD_some,e4H,a6Z _ _ 0 (by omega)]
def wr (n:Int):Int:=IntKind.wrap .i64 n
def b5k (r:D) (x y:Int):Bool:=decide (wr (wr (wr (x-rX r)*wr (x-rX r))+wr (wr (y-rY r)*wr (y-rY r)))≤wr (rR r*rR r))
def b1U (r:D) (sec:Int):Bool:=bif decide (rHf r≤sec) then decide (sec≤rHt r) else false
def b5T (sec x y:Int) (r:D):Bool:=bif a0P r==1 then b5k r x y else bif a0P r==2 then b1U r sec else false
theorem c9j (r:D) (start t x y:Int):c8k N (a0P r) (rX r) (rY r) (rR r) (rHf r) (rHt r) start t x y=some (b5T ((wr (start+t)).tmod 86400) x y r):=by
 unfold c8k c3X c3W b2E b5T;cases a0P r==1 with
 |true=>rfl
 |false=>cases a0P r==2<;>rfl
theorem d3k (hN:maxLen<N) (hl:xs.length≤maxLen) (start t x y:Int):d6x N xs start t x y=some (xs.any (b5T ((wr (start+t)).tmod 86400) x y)):=by
 have e:b7B N xs xs.length start t x y 0=some (c1e (b5T ((wr (start+t)).tmod 86400) x y) 0 xs):=by
  unfold b7B;refine (a0E (.i 0:D) (S:=fun w kr=>a7s N xs xs.length start t x y w kr _ _) (L:=fun m w=>b2F N xs xs.length start t x y m w _ _) (fun m w=>rfl) (fun w l=>some (c1e (b5T ((wr (start+t)).tmod 86400) x y) w l)) hl ?_ ?_ hN).trans rfl
  ·intro kr;simp [a7s,c1e]
  ·intro w kr h0 h1 hw hi hk
   simp only [a7s,decide_eq_true h1,e4H,hi,hw,hk,a0b,c9j,e4M,getD_some,b5j];cases b5T ((wr (start+t)).tmod 86400) x y (xs.getD w.toNat (.i 0))<;>rfl
 unfold d6x d03 d4p c3Y;rw [e];simp only [a0b];rw [b8P];simp only [e4M,getD_some,e4H,a6Z _ _ 0 (by omega)]
end
def b1b (rs:List D) (all:Bool) (start:Int) (s:D):Bool:=all||rs.any (b5T ((wr (start+(s.cell 0).toI)).tmod 86400) (s.cell 1).toI (s.cell 2).toI)
def b5U (rs:List D) (all:Bool) (start:Int) (l:List D):List D:=l.map fun s=> .b (b1b rs all start s)
section
variable {rs smps tags:List D} {sport start:Int}
theorem c2w (hN:maxLen<N) (hr:rs.length≤maxLen) (hs:smps.length≤maxLen) (all:Bool):b7C N rs all smps smps.length start 0 (List.replicate smps.length (.b false))=some (b5U rs all start smps):=by
 unfold b7C;refine (a01 (.i 0:D) (A:=List D) (S:=fun w a kr=>a7t N rs all smps smps.length start w a kr _) (L:=fun m w a=>b2H N rs all smps smps.length start m w a _) (fun m w a=>rfl) (fun w l a=>some (a.take w.toNat++b5U rs all start l))
  (fun w a=>a.length=smps.length∧a.drop w.toNat=List.replicate (smps.length-w.toNat) (.b false)) hs ?_ ?_ hN (a:=List.replicate smps.length (.b false)) (by simp)).trans (by simp)
 ·intro a kr h
  have:a.take smps.length=a:=by rw [←h.1,List.take_length]
  simp [a7t,b5U,this]
 ·intro w a kr h0 h1 hw hi ⟨ha,hd⟩ hk
  have hlt:w.toNat<a.length:=by omega
  have hib:inB w a.length=true:=a0M h0 (by omega)
  have hset:∀y:D,(a.set w.toNat y).length=smps.length∧(a.set w.toNat y).drop (w+1).toNat=List.replicate (smps.length-(w+1).toNat) (.b false)∧(a.set w.toNat y).take (w+1).toNat=a.take w.toNat++[y]:=by
   intro y;have e1:(w+1).toNat=w.toNat+1:=by omega
   refine ⟨by simpa using ha,?_,?_⟩
   ·rw [e1,List.drop_set_of_lt (by omega)]
    have:a.drop (w.toNat+1)=(a.drop w.toNat).drop 1:=by rw [List.drop_drop]
    rw [this,hd,List.drop_replicate];congr 1
   ·rw [e1,List.take_succ_eq_append_getElem (by simpa using hlt),List.take_set_of_le (Nat.le_refl _)]
    simp
  simp only [a7t,decide_eq_true h1,e4H,hi,hw,a0b,c3Z,b2G,hib,decide_eq_true hlt,d3k hN hr];have go:∀b:Bool,kr (w+1) (a.set w.toNat (.b b))=some ((a.take w.toNat++[.b b])++b5U rs all start (smps.drop (w+1).toNat)):=fun b=>by
   obtain ⟨q1,q2,q3⟩:=hset (.b b);rw [hk _ ⟨q1,q2⟩,q3]
  cases all with
  |true=>
   refine (go true).trans ?_;simp [b5U,b1b]
  |false=>
   refine (go _).trans ?_;simp [b5U,b1b]
theorem d3l (hN:maxLen<N) (hr:rs.length≤maxLen) (hs:smps.length≤20000) (ht:tags.length≤maxLen):d6C N rs sport start smps tags=some (b5U rs (rs.any (a2d sport tags)) start smps,rs.any (a2d sport tags)):=by
 have hm:maxLen=9223372036854775807:=rfl;have h2:a1K=140737488355328:=rfl;have h3:a0g=9223372036854775807:=rfl;unfold d6C d04;simp only [a0b,d3j hN hr ht,e4M,getD_some,e4H,Int.toNat_natCast,c2w hN hr (show smps.length≤maxLen by omega)]
 rw [decide_eq_true (show (0:Int)≤(smps.length:Int) by omega),decide_eq_true (show (smps.length:Int)≤(smps.length:Int) by omega),decide_eq_true (show smps.length*1≤a1K by omega),decide_eq_true (show smps.length≤a0g by omega)]
 rfl
end
section
variable {xs tags:List D} {lv sport:Int}
theorem b8Q (P:D→Bool) (hP:∀r,P (reR r)=P r):(a13 xs lv).any P=xs.any fun r=>c6N lv r&&P r:=by
 unfold a13;rw [List.any_map,List.any_filter];congr 1
 funext r
 show (c6N lv r&&P (reR r))=_;rw [hP]
theorem a8e (P:D→Bool) (hP:∀r,P (reR r)=P r) (k:Int):(a2g xs lv k).any P=xs.any fun r=>c6v lv k r&&P r:=by
 unfold a2g;rw [List.any_map,List.any_filter];congr 1
 funext r
 show (c6v lv k r&&P (reR r))=_;rw [hP]
theorem d4E (P Q:D→Bool) (l:List D):(l.any fun r=>P r||Q r)=(l.any P||l.any Q):=by
 induction l with
 |nil=>rfl
 |cons x r ih=>simp only [List.any_cons,ih];cases P x<;>cases Q x<;>simp
theorem c2x:(a13 xs lv).any (a2d sport tags)=((a2g xs lv 5).any (fun r=>rN r==sport)||(a2g xs lv 4).any fun r=>tags.any fun t=>t.toS==rT r):=by
 rw [b8Q _ (fun _=>rfl),a8e _ (fun _=>rfl),a8e _ (fun _=>rfl),←d4E]
 congr 1
 funext r
 unfold c6N a2d c6v;cases decide (a85 r≤lv) with
 |false=>rfl
 | true=>
  by_cases h5:a0P r=5
  ·rw [h5];simp;exact b8N _ _
  ·have:(a0P r==5)=false:=by simpa using h5
   rw [this];by_cases h4:a0P r=4
   ·rw [h4];simp
    congr 1
    funext t
    exact b0f _ _
   ·have:(a0P r==4)=false:=by simpa using h4
    rw [this];rfl
theorem c6x (sec x y:Int):(a13 xs lv).any (b5T sec x y)=((a2g xs lv 1).any (fun r=>b5k r x y)||(a2g xs lv 2).any fun r=>b1U r sec):=by
 rw [b8Q _ (fun _=>rfl),a8e _ (fun _=>rfl),a8e _ (fun _=>rfl),←d4E]
 congr 1
 funext r
 unfold c6N b5T c6v;cases decide (a85 r≤lv) with
 |false=>rfl
 | true=>
  by_cases h5:a0P r=1
  ·rw [h5];simp
  ·have:(a0P r==1)=false:=by simpa using h5
   rw [this];by_cases h4:a0P r=2
   ·rw [h4];simp
   ·have:(a0P r==2)=false:=by simpa using h4
    rw [this];rfl
theorem c2y (b:Bool) {R:Type} (x y z:R):(bif a1x (some (c4X b)) then x else bif (a0w (some (c4X b))).isSome then y else z)=bif b then x else y:=by cases b<;>rfl
theorem c9k (hN:maxLen<N) (h:xs.length≤50) (ht:tags.length≤maxLen):c8z N xs lv sport tags=some ((a13 xs lv).any (a2d sport tags)):=by
 obtain ⟨b5,e5⟩:=a3I (lv:=lv) hN h 5;obtain ⟨b4,e4⟩:=a3I (lv:=lv) hN h 4;have l5:=a8d (xs:=xs) (lv:=lv) (k:=5);have l4:=a8d (xs:=xs) (lv:=lv) (k:=4);have f5:b7W N (a2g xs lv 5) (a2g xs lv 5).length sport 0=some (c4X ((a2g xs lv 5).any fun r=>rN r==sport)):=by
  unfold b7W;refine (a0E (.i 0:D) (S:=fun w kr=>a7H N (a2g xs lv 5) (a2g xs lv 5).length sport w kr _ _) (L:=fun m w=>b27 N (a2g xs lv 5) (a2g xs lv 5).length sport m w _ _) (fun m w=>rfl) (fun w l=>some (c6w (fun r=>rN r==sport) l)) (c9g (by omega)) ?_ ?_ hN).trans rfl
  ·intro kr;simp [a7H,c6w,c4X]
  ·intro w kr h0 h1 hw hi hk
   simp only [a7H,decide_eq_true h1,e4H,hi,hw,hk,a60];cases rN ((a2g xs lv 5).getD w.toNat (.i 0))==sport<;>rfl
 have ft:∀s:List UInt8,b4W N tags tags.length s 0=some (c4X (tags.any fun t=>t.toS==s)):=by
  intro s;unfold b4W;refine (a0E (.i 0:D) (S:=fun w kr=>a5p N tags tags.length s w kr _ _) (L:=fun m w=>a9T N tags tags.length s m w _ _) (fun m w=>rfl) (fun w l=>some (c6w (fun t=>t.toS==s) l)) ht ?_ ?_ hN).trans rfl
  ·intro kr;simp [a5p,c6w,c4X]
  ·intro w kr h0 h1 hw hi hk
   simp only [a5p,decide_eq_true h1,e4H,hi,hw,hk,a60];cases (tags.getD w.toNat (.i 0)).toS==s<;>rfl
 have f4:b4X N (a2g xs lv 4) (a2g xs lv 4).length tags 0=some (c4X ((a2g xs lv 4).any fun r=>tags.any fun t=>t.toS==rT r)):=by
  unfold b4X;refine (a0E (.i 0:D) (S:=fun w kr=>a5q N (a2g xs lv 4) (a2g xs lv 4).length tags w kr _ _) (L:=fun m w=>a9U N (a2g xs lv 4) (a2g xs lv 4).length tags m w _ _) (fun m w=>rfl) (fun w l=>some (c6w (fun r=>tags.any fun t=>t.toS==rT r) l)) (c9g (by omega)) ?_ ?_ hN).trans rfl
  ·intro kr;simp [a5q,c6w,c4X]
  ·intro w kr h0 h1 hw hi hk
   simp only [a5q,decide_eq_true h1,e4H,hi,hw,hk,a60,a0b,ft,c2y];cases tags.any fun t=>t.toS==rT ((a2g xs lv 4).getD w.toNat (.i 0))<;>rfl
 unfold c8z c4m;simp only [a0b,e5,e4,e4M,getD_some,e4H,f5,f4,c2y,c2x];cases (a2g xs lv 5).any fun r=>rN r==sport with
 |true=>rfl
 |false=>cases (a2g xs lv 4).any fun r=>tags.any fun t=>t.toS==rT r<;>rfl
theorem c9l (hN:maxLen<N) (h:xs.length≤50) (start t x y:Int):c8B N xs lv start t x y=some ((a13 xs lv).any (b5T ((wr (start+t)).tmod 86400) x y)):=by
 obtain ⟨b1,e1⟩:=a3I (lv:=lv) hN h 1;obtain ⟨b2,e2⟩:=a3I (lv:=lv) hN h 2;have l1:=a8d (xs:=xs) (lv:=lv) (k:=1);have l2:=a8d (xs:=xs) (lv:=lv) (k:=2);have f1:b7X N (a2g xs lv 1) (a2g xs lv 1).length x y 0=some (c4X ((a2g xs lv 1).any fun r=>b5k r x y)):=by
  unfold b7X;refine (a0E (.i 0:D) (S:=fun w kr=>a7I N (a2g xs lv 1) (a2g xs lv 1).length x y w kr _ _) (L:=fun m w=>b28 N (a2g xs lv 1) (a2g xs lv 1).length x y m w _ _) (fun m w=>rfl) (fun w l=>some (c6w (fun r=>b5k r x y) l)) (c9g (by omega)) ?_ ?_ hN).trans rfl
  ·intro kr;simp [a7I,c6w,c4X]
  ·intro w kr h0 h1 hw hi hk
   simp only [a7I,decide_eq_true h1,e4H,hi,hw,hk,a60,a0b];show (bif b5k ((a2g xs lv 1).getD w.toNat (.i 0)) x y then _ else _)=_
   cases b5k ((a2g xs lv 1).getD w.toNat (.i 0)) x y<;>rfl
 have f2:∀sec:Int,b4Y N sec (a2g xs lv 2) (a2g xs lv 2).length 0=some (c4X ((a2g xs lv 2).any fun r=>b1U r sec)):=by
  intro sec;unfold b4Y;refine (a0E (.i 0:D) (S:=fun w kr=>a5r N sec (a2g xs lv 2) (a2g xs lv 2).length w kr _ _) (L:=fun m w=>a9V N sec (a2g xs lv 2) (a2g xs lv 2).length m w _ _) (fun m w=>rfl) (fun w l=>some (c6w (fun r=>b1U r sec) l)) (c9g (by omega)) ?_ ?_ hN).trans rfl
  ·intro kr;simp [a5r,c6w,c4X]
  ·intro w kr h0 h1 hw hi hk
   simp only [a5r,decide_eq_true h1,e4H,hi,hw,hk,a60,a0b];show (bif b1U ((a2g xs lv 2).getD w.toNat (.i 0)) sec then _ else _)=_
   cases b1U ((a2g xs lv 2).getD w.toNat (.i 0)) sec<;>rfl
 unfold c8B c4n;simp only [a0b,e1,e2,e4M,getD_some,e4H,f1,f2,c2y,c6x];show (bif _ then some true else bif (List.any _ fun r=>b1U r ((wr (start+t)).tmod 86400)) then _ else _)=_
 cases (a2g xs lv 1).any fun r=>b5k r x y with
 |true=>rfl
 |false=>cases (a2g xs lv 2).any fun r=>b1U r ((wr (start+t)).tmod 86400)<;>rfl
variable {smps:List D} {start:Int}
theorem c2z (hN:maxLen<N) (h:xs.length≤50) (hs:smps.length≤20000) (all:Bool):∃b,b3b N lv all smps smps.length xs start 0 true []=some (b,b5U (a13 xs lv) all start smps):=by
 have hm:maxLen=9223372036854775807:=rfl;have h2:a1K=140737488355328:=rfl;have h3:a0g=9223372036854775807:=rfl;have e:b3b N lv all smps smps.length xs start 0 true []=some (a1a (fun _=>true) (fun s=> .b (b1b (a13 xs lv) all start s)) smps (true,[])):=by
  unfold b3b;refine a01 (.i 0:D) (A:=Bool×List D) (S:=fun w a kr=>a7J N lv all smps smps.length xs start w a.1 a.2 (fun w b l=>kr w (b,l)) _) (L:=fun m w a=>b3a N lv all smps smps.length xs start m w a.1 a.2 _) (fun m w a=>rfl) (fun w l a=>some (a1a (fun _=>true) (fun s=> .b (b1b (a13 xs lv) all start s)) l a)) (fun w a=>(a.2.length:Int)≤w) (by omega) ?_ ?_ hN (a:=(true,[])) (by simp)
  ·intro a kr _;simp [a7J,a1a]
  ·intro w a kr h0 h1 hw hi ha hk
   simp only [a7J,decide_eq_true h1,e4H,hi,a0b,hw,c4o,b29,a1a,c9l hN h,e4M,getD_some];rw [decide_eq_true (show (a.2.length+1)*1≤a1K by omega),decide_eq_true (show a.2.length+1≤a0g by omega)]
   cases all with
   |true=>exact hk (false,a.2++[.b true]) (by simp;omega)
   |false=>exact hk (false,a.2++[.b _]) (by simp;omega)
 refine ⟨(a1a (fun _=>true) (fun s=> .b (b1b (a13 xs lv) all start s)) smps (true,[])).1,?_⟩
 rw [e];have:=a4v (fun _=>true) (fun s=>D.b (b1b (a13 xs lv) all start s)) smps (true,[])
 rw [List.nil_append,List.filter_eq_self.2 (fun _ _=>rfl)] at this
 exact congrArg some (b8O this)
theorem d3m (hN:maxLen<N) (h:xs.length≤50) (hs:smps.length≤20000) (ht:tags.length≤maxLen):∃b,d7B N xs lv sport start smps tags=some (b,b5U (a13 xs lv) ((a13 xs lv).any (a2d sport tags)) start smps,(a13 xs lv).any (a2d sport tags)):=by
 obtain ⟨b,e⟩:=c2z (lv:=lv) (start:=start) hN h hs ((a13 xs lv).any (a2d sport tags));refine ⟨b,?_⟩;unfold d7B d1O;simp only [a0b,c9k hN h ht,e4M,getD_some,e4H,e]
end
end Go.Proofs.YtajladplkpfaiaaGreat
namespace Go.Proofs.YtajladplkpfaiaaGreat
open Go Go.AM
variable {N:Nat}
def a2e (rs:List D) (i:Int):Bool:=rs.any fun r=>a0P r==3&&rN r==i
def a8f (rs:List D):List D:=(rs.filter fun r=>a0P r==8).map fun r=> .i (rN r)
def kdB (rs:List D) (k:Int):Bool:=rs.any fun r=>a0P r==k
def b5V (r:D) (a:Ty2):Ty2:=
 bif a0P r==3 then ((bif Nat.beq (rN r).toNat 0 then true else a.1),(bif Nat.beq (rN r).toNat 1 then true else a.2.1),(bif Nat.beq (rN r).toNat 2 then true else a.2.2.1),(bif Nat.beq (rN r).toNat 3 then true else a.2.2.2.1),(bif Nat.beq (rN r).toNat 4 then true else a.2.2.2.2.1),a.2.2.2.2.2.1,a.2.2.2.2.2.2.1,a.2.2.2.2.2.2.2.1,a.2.2.2.2.2.2.2.2)
 else bif a0P r==8 then (a.1,a.2.1,a.2.2.1,a.2.2.2.1,a.2.2.2.2.1,a.2.2.2.2.2.1,a.2.2.2.2.2.2.1,false,a.2.2.2.2.2.2.2.2++[.i (rN r)])
 else bif a0P r==6 then (a.1,a.2.1,a.2.2.1,a.2.2.2.1,a.2.2.2.2.1,true,a.2.2.2.2.2.2.1,a.2.2.2.2.2.2.2.1,a.2.2.2.2.2.2.2.2)
 else bif a0P r==7 then (a.1,a.2.1,a.2.2.1,a.2.2.2.1,a.2.2.2.2.1,a.2.2.2.2.2.1,true,a.2.2.2.2.2.2.2.1,a.2.2.2.2.2.2.2.2) else a
def c0F:List D→Ty2→Ty2
 | [],a=>a
 |r::l,a=>c0F l (b5V r a)
def a3a (r:D):Prop:=(a0P r=3→1≤rN r∧rN r≤4)∧(a0P r=8→1≤rN r∧rN r≤1000000)
theorem b3N {r:D} (h:b5S r=0):a3a r:=by
 obtain ⟨_,_,h3,_⟩:=c6u h;unfold c2r at h3;refine ⟨fun hk=> ?_,fun hk=> ?_⟩
 ·rw [hk] at h3
  cases hb:inI (rN r) 1 4 with
  |true=>exact of_decide_eq_true hb
  |false=>rw [hb] at h3;cases h3
 ·rw [hk] at h3
  cases hb:inI (rN r) 1 1000000 with
  |true=>exact of_decide_eq_true hb
  |false=>rw [hb] at h3;cases h3
theorem b8R {n j:Int} {i:Nat} (h0:0≤n) (hj:(i:Int)=j):Nat.beq n.toNat i=(n==j):=by
 rw [a0l,Bool.eq_iff_iff];simp;omega
theorem c4Z:∀(l:List D) (a:Ty2),(∀r∈l,a3a r)→ ∃x y,c0F l a=(x,a.2.1||a2e l 1,a.2.2.1||a2e l 2,a.2.2.2.1||a2e l 3,a.2.2.2.2.1||a2e l 4,a.2.2.2.2.2.1||kdB l 6,a.2.2.2.2.2.2.1||kdB l 7,y,a.2.2.2.2.2.2.2.2++a8f l)
 | [],a,_=>⟨a.1,a.2.2.2.2.2.2.2.1,by simp [c0F,a2e,kdB,a8f]⟩
 | r ::l,a,h=>by
  obtain ⟨x,y,e⟩:=c4Z l (b5V r a) fun r' hr'=>h r' (by simp [hr'])
  have hr:=h r (by simp)
  refine ⟨x,y,?_⟩;rw [c0F,e];by_cases h3:a0P r=3
  ·have hn:=hr.1 h3
   simp only [b5V,a2e,kdB,a8f,List.any_cons,List.filter_cons,h3,beq_self_eq_true,Int.reduceBEq,e4H,Bool.true_and,Bool.false_or,b8R (i:=1) (j:=1) (show 0≤rN r by omega) rfl,b8R (i:=2) (j:=2) (show 0≤rN r by omega) rfl,b8R (i:=3) (j:=3) (show 0≤rN r by omega) rfl,b8R (i:=4) (j:=4) (show 0≤rN r by omega) rfl,Bool.false_eq_true,if_false]
   have hc:∀(c x y:Bool),((bif c then true else x)||y)=(x||(c||y)):=by intro c x y;cases c<;>cases x<;>cases y<;>rfl
   simp only [hc]
  ·have e3:(a0P r==3)=false:=by simpa using h3
   by_cases h8:a0P r=8
   ·simp [b5V,a2e,kdB,a8f,List.filter_cons,h8]
   ·have e8:(a0P r==8)=false:=by simpa using h8
    by_cases h6:a0P r=6
    ·simp [b5V,a2e,kdB,a8f,List.filter_cons,h6]
    ·have e6:(a0P r==6)=false:=by simpa using h6
     by_cases h7:a0P r=7
     ·simp [b5V,a2e,kdB,a8f,List.filter_cons,h7]
     ·have e7:(a0P r==7)=false:=by simpa using h7
      simp [b5V,a2e,kdB,a8f,List.filter_cons,e3,e8,e6,e7,h3,h8,h6,h7]
section
variable {rs:List D}
theorem b5W {r:D} (hr:a3a r) {a:Ty2} (hl:a.2.2.2.2.2.2.2.2.length≤50):
  (∃p,a5Z N (a0P r) (a0P r==3) a.1 a.2.1 a.2.2.1 a.2.2.2.1 a.2.2.2.2.1 a.2.2.2.2.2.1 a.2.2.2.2.2.2.1 (rN r) a.2.2.2.2.2.2.2.2=some (.inl p)∧b5V r a=(p.1,p.2.1,p.2.2.1,p.2.2.2.1,p.2.2.2.2.1,p.2.2.2.2.2.1,p.2.2.2.2.2.2,a.2.2.2.2.2.2.2.1,a.2.2.2.2.2.2.2.2))∨
  (∃g,a5Z N (a0P r) (a0P r==3) a.1 a.2.1 a.2.2.1 a.2.2.2.1 a.2.2.2.2.1 a.2.2.2.2.2.1 a.2.2.2.2.2.2.1 (rN r) a.2.2.2.2.2.2.2.2=some (.inr g)∧b5V r a=(a.1,a.2.1,a.2.2.1,a.2.2.2.1,a.2.2.2.2.1,a.2.2.2.2.2.1,a.2.2.2.2.2.2.1,false,g)∧g.length=a.2.2.2.2.2.2.2.2.length+1):=by
 unfold a5Z a5Y b4O a5X b4N a5W c30 b2I b5V;by_cases h3:a0P r=3
 ·have hn:=hr.1 h3
  have e3:(a0P r==3)=true:=by simpa using h3
  rw [e3,a0M (show 0≤rN r by omega) (show rN r<(5:Nat) by omega)]
  exact .inl ⟨_,rfl,rfl⟩
 ·have e3:(a0P r==3)=false:=by simpa using h3
  rw [e3];by_cases h8:a0P r=8
  ·have e8:(a0P r==8)=true:=by simpa using h8
   rw [e8,c9f hl (by omega)]
   exact .inr ⟨a.2.2.2.2.2.2.2.2++[.i (rN r)],rfl,rfl,by simp⟩
  ·have e8:(a0P r==8)=false:=by simpa using h8
   rw [e8];by_cases h6:a0P r=6
   ·have e6:(a0P r==6)=true:=by simpa using h6
    rw [e6];exact .inl ⟨_,rfl,rfl⟩
   ·have e6:(a0P r==6)=false:=by simpa using h6
    rw [e6];cases a0P r==7 with
    |true=>exact .inl ⟨_,rfl,rfl⟩
    |false=>exact .inl ⟨_,rfl,rfl⟩
theorem c6y (hN:maxLen<N) (hl:rs.length≤50) (hr:∀r∈rs,a3a r):c11 N rs rs.length 0 false false false false false false false true []=some (c0F rs (false,false,false,false,false,false,false,true,[])):=by
 unfold c11;refine a01 (.i 0:D) (A:=Ty2) (S:=fun w a kr=>b0M N rs rs.length w a.1 a.2.1 a.2.2.1 a.2.2.2.1 a.2.2.2.2.1 a.2.2.2.2.2.1 a.2.2.2.2.2.2.1 a.2.2.2.2.2.2.2.1 a.2.2.2.2.2.2.2.2 (fun w a b c d e f g h i=>kr w (a,b,c,d,e,f,g,h,i)) _)
  (L:=fun m w a=>b7D N rs rs.length m w a.1 a.2.1 a.2.2.1 a.2.2.2.1 a.2.2.2.2.1 a.2.2.2.2.2.1 a.2.2.2.2.2.2.1 a.2.2.2.2.2.2.2.1 a.2.2.2.2.2.2.2.2 _) (fun m w a=>rfl) (fun w l a=>some (c0F l a)) (fun w a=>(a.2.2.2.2.2.2.2.2.length:Int)≤w) (c9g hl) ?_ ?_ hN (a:=(false,false,false,false,false,false,false,true,[])) (by simp)
 ·intro a kr _;simp [b0M,c0F]
 ·intro w a kr h0 h1 hw hi ha hk
  have hrg:=hr _ (a2B h0 h1);simp only [b0M,decide_eq_true h1,e4H,hi,a0b,hw,c0F];rcases b5W (N:=N) hrg (a:=a) (by omega) with ⟨p,e,q⟩|⟨g,e,q,ql⟩
  ·rw [e,q]
   exact hk (p.1,p.2.1,p.2.2.1,p.2.2.2.1,p.2.2.2.2.1,p.2.2.2.2.2.1,p.2.2.2.2.2.2,a.2.2.2.2.2.2.2.1,a.2.2.2.2.2.2.2.2) (by simp only;omega)
  ·rw [e,q]
   exact hk (a.1,a.2.1,a.2.2.1,a.2.2.2.1,a.2.2.2.2.1,a.2.2.2.2.2.1,a.2.2.2.2.2.2.1,false,g) (by simp only [ql];omega)
theorem d3n (hN:maxLen<N) (hl:rs.length≤50) (hr:∀r∈rs,a3a r):∃x y,d6J N rs=some (x,a2e rs 1,a2e rs 2,a2e rs 3,a2e rs 4,y,a8f rs,kdB rs 6,kdB rs 7):=by
 obtain ⟨x,y,e⟩:=c4Z rs (false,false,false,false,false,false,false,true,[]) hr;refine ⟨x,y,?_⟩;unfold d6J d05;rw [c6y hN hl hr,e];simp [a0b]
end
def c6O (x n:Int):Int:=wr (x-(bif decide (x.tmod n<0) then wr (x.tmod n+n) else x.tmod n))
theorem c0G {n:Int} (hn:1≤n) (x:Int):b4P N x n=some (c6O x n):=by
 unfold b4P c32 c0k a9E c6O;have:(n==0)=false:=by simp;omega
 rw [this];cases decide (x.tmod n<0)<;>rfl
theorem c9m {n:Int} (hn:1≤n) (x:Int):c4q N x n=some (max2 (c6O x n) (-100000000)):=by
 unfold c4q c4p c0u a9W c6O;have:(n==0)=false:=by simp;omega
 rw [this];cases decide (x.tmod n<0)<;>rfl
def a6b:List D→Int×Int→Int×Int
 | [],a=>a
 |g::r,a=>a6b r (max2 (c6O a.1 g.toI) (-100000000),max2 (c6O a.2 g.toI) (-100000000))
section
variable {gs:List D}
theorem c0H (hN:maxLen<N) (hl:gs.length≤maxLen) (hg:∀g∈gs,1≤g.toI) (x y:Int):b4Q N gs gs.length 0 x y=some (a6b gs (x,y)):=by
 unfold b4Q;refine a01 (.i 0:D) (A:=Int×Int) (S:=fun w a kr=>a5i N gs gs.length w a.1 a.2 (fun w a b=>kr w (a,b)) _) (L:=fun m w a=>a9G N gs gs.length m w a.1 a.2 _) (fun m w a=>rfl) (fun w l a=>some (a6b l a)) (fun w a=>True) hl ?_ ?_ hN (a:=(x,y)) trivial
 ·intro a kr _;simp [a5i,a6b]
 ·intro w a kr h0 h1 hw hi _ hk
  have:=hg _ (a2B h0 h1);simp only [a5i,decide_eq_true h1,e4H,hi,a0b,hw,a6b,c0G this,e4M,getD_some];exact hk (_,_) trivial
end
def c9O (rs:List D) (x y z p w s:Int):Int×Int×Int×Int×Int×Int:=((a6b (a8f rs) (x,y)).1,(a6b (a8f rs) (x,y)).2,(bif a2e rs 4 then 0 else z),(bif a2e rs 1 then-1 else p),(bif a2e rs 2 then-1 else w),(bif a2e rs 3 then-1 else s))
section
variable {rs:List D}
theorem d3o (hl:rs.length≤50):(a8f rs).length≤50:=by
 unfold a8f;rw [List.length_map];exact Nat.le_trans (List.length_filter_le _ _) hl
theorem d3p (hr:∀r∈rs,a3a r):∀g∈a8f rs,1≤g.toI:=by
 intro g hg;unfold a8f at hg;obtain ⟨r,h1,rfl⟩:=List.mem_map.1 hg;obtain ⟨h2,h3⟩:=List.mem_filter.1 h1;exact ((hr r h2).2 (by simpa using h3)).1
theorem c0I (hN:maxLen<N) (hl:rs.length≤50) (hr:∀r∈rs,a3a r) (x y z p w s:Int):c34 N (a2e rs 1) (a2e rs 2) (a2e rs 3) (a2e rs 4) (a8f rs) x y z p w s=some (c9O rs x y z p w s):=by
 unfold c34 c33 c0l a9F;simp only [a0b,c0H hN (c9g (d3o hl)) (d3p hr),e4M,getD_some,e4H];unfold c9O;cases a2e rs 4<;>rfl
end
section
variable {xs:List D} {lv:Int}
theorem d3q (i:Int):a2e (a13 xs lv) i=(a2g xs lv 3).any fun r=>rN r==i:=by
 unfold a2e;rw [b8Q _ (fun _=>rfl),a8e _ (fun _=>rfl)]
 congr 1
 funext r
 unfold c6N c6v;cases decide (a85 r≤lv)<;>rfl
theorem c9n (k:Int):kdB (a13 xs lv) k=decide (((a2g xs lv k).length:Int)>0):=by
 unfold kdB;have h1:(a13 xs lv).any (fun r=>a0P r==k)=(a2g xs lv k).any fun _=>true:=by
  rw [b8Q _ (fun _=>rfl),a8e _ (fun _=>rfl)]
  congr 1
  funext r
  unfold c6N c6v;cases decide (a85 r≤lv)<;>simp
 rw [h1];cases a2g xs lv k with
 |nil=>rfl
 |cons x r=>simp
theorem d3r:a8f (a13 xs lv)=(a2g xs lv 8).map fun r=> .i (rN r):=by
 unfold a8f a13 a2g;rw [List.filter_map,List.filter_filter,List.map_map,List.map_map];congr 1
 congr 1
 funext r
 unfold c6N c6v;show (a0P r==8&&decide (a85 r≤lv))=_;cases decide (a85 r≤lv)<;>simp
def b1V:List D→Int×Int×Int×Int→Int×Int×Int×Int
 | [],a=>a
 |r::l,a=>b1V l (bif rN r==1 then (a.1,-1,a.2.2.1,a.2.2.2) else bif rN r==2 then (a.1,a.2.1,-1,a.2.2.2) else bif rN r==3 then (a.1,a.2.1,a.2.2.1,-1) else (0,a.2.1,a.2.2.1,a.2.2.2))
theorem c0J:∀(l:List D) (a:Int×Int×Int×Int),(∀r∈l,1≤rN r∧rN r≤4)→b1V l a=((bif l.any (fun r=>rN r==4) then 0 else a.1),(bif l.any (fun r=>rN r==1) then-1 else a.2.1),(bif l.any (fun r=>rN r==2) then-1 else a.2.2.1),(bif l.any (fun r=>rN r==3) then-1 else a.2.2.2))
 | [],a,_=>rfl
 |r::l,a,h=>by
  have hr:=h r (by simp)
  rw [b1V,c0J l _ fun r' hr'=>h r' (by simp [hr'])]
  simp only [List.any_cons];rcases (by omega:rN r=1∨rN r=2∨rN r=3∨rN r=4) with e|e|e|e<;>rw [e]<;>simp<;>cases l.any (fun r=>rN r==1)<;>cases l.any (fun r=>rN r==2)<;>cases l.any (fun r=>rN r==3)<;>cases l.any (fun r=>rN r==4)<;>rfl
theorem c40 {k:Int} {r:D} (h:r∈a2g xs lv k):∃r0∈xs,r=reR r0∧a0P r0=k:=by
 unfold a2g at h;obtain ⟨r0,h1,rfl⟩:=List.mem_map.1 h;obtain ⟨h2,h3⟩:=List.mem_filter.1 h1;refine ⟨r0,h2,rfl,?_⟩;unfold c6v at h3;cases hd:decide (a85 r0≤lv) with
 |false=>rw [hd] at h3;cases h3
 |true=>rw [hd] at h3;simpa using h3
theorem b5l (hx:∀r∈xs,a3a r):∀r∈a13 xs lv,a3a r:=by
 intro r h;unfold a13 at h;obtain ⟨r0,h1,rfl⟩:=List.mem_map.1 h;exact hx r0 (List.mem_filter.1 h1).1
theorem c2A (hN:maxLen<N) (h:xs.length≤50) (z p w s:Int):b7Y N (a2g xs lv 3) (a2g xs lv 3).length 0 z p w s=some (b1V (a2g xs lv 3) (z,p,w,s)):=by
 have l3:=a8d (xs:=xs) (lv:=lv) (k:=3);unfold b7Y;refine a01 (.i 0:D) (A:=Int×Int×Int×Int) (S:=fun w a kr=>a7K N (a2g xs lv 3) (a2g xs lv 3).length w a.1 a.2.1 a.2.2.1 a.2.2.2 (fun w a b c d=>kr w (a,b,c,d)) _) (L:=fun m w a=>b3c N (a2g xs lv 3) (a2g xs lv 3).length m w a.1 a.2.1 a.2.2.1 a.2.2.2 _) (fun m w a=>rfl) (fun w l a=>some (b1V l a)) (fun w a=>True) (c9g (by omega)) ?_ ?_ hN (a:=(z,p,w,s)) trivial
 ·intro a kr _;simp [a7K,b1V]
 ·intro w a kr h0 h1 hw hi _ hk
  simp only [a7K,decide_eq_true h1,e4H,hi,a0b,hw,b1V,b1S,a4P,b1R,a4O,b1Q,a4N];generalize ((a2g xs lv 3).getD w.toNat (.i 0))=r;show kr _ _=some (b1V _ (bif rN r==1 then _ else bif rN r==2 then _ else bif rN r==3 then _ else _))
  cases hn1:rN r==1 with
  |true=>exact hk (_,_,_,_) trivial
  | false=>
   cases hn2:rN r==2 with
   |true=>exact hk (_,_,_,_) trivial
   |false=>
    cases hn3:rN r==3 with
    |true=>exact hk (_,_,_,_) trivial
    |false=>exact hk (_,_,_,_) trivial
theorem c0K (hN:maxLen<N) (h:xs.length≤50) (hx:∀r∈xs,a3a r) (x y:Int):b4Z N (a2g xs lv 8) (a2g xs lv 8).length 0 x y=some (a6b ((a2g xs lv 8).map fun r=> .i (rN r)) (x,y)):=by
 have l3:=a8d (xs:=xs) (lv:=lv) (k:=8);unfold b4Z;refine a01 (.i 0:D) (A:=Int×Int) (S:=fun w a kr=>a5s N (a2g xs lv 8) (a2g xs lv 8).length w a.1 a.2 (fun w a b=>kr w (a,b)) _) (L:=fun m w a=>a9X N (a2g xs lv 8) (a2g xs lv 8).length m w a.1 a.2 _) (fun m w a=>rfl) (fun w l a=>some (a6b (l.map fun r=> .i (rN r)) a)) (fun w a=>True) (c9g (by omega)) ?_ ?_ hN (a:=(x,y)) trivial
 ·intro a kr _;simp [a5s,a6b]
 ·intro w a kr h0 h1 hw hi _ hk
  have hpos:1≤rN ((a2g xs lv 8).getD w.toNat (.i 0)):=by
   obtain ⟨r0,q1,q2,q3⟩:=c40 (a2B h0 h1);rw [q2];exact ((hx r0 q1).2 q3).1
  simp only [a5s,decide_eq_true h1,e4H,hi,a0b,hw,List.map_cons,a6b,c9m hpos,e4M,getD_some];exact hk (_,_) trivial
theorem c0L (hN:maxLen<N) (h:xs.length≤50) (hx:∀r∈xs,a3a r) (t x y z p w s from_:Int):c4s N xs lv t x y z p w s from_=some (wr (t-from_),c9O (a13 xs lv) x y z p w s):=by
 obtain ⟨b3,e3⟩:=a3I (lv:=lv) hN h 3;obtain ⟨b8,e8⟩:=a3I (lv:=lv) hN h 8;have hf:=c0J (a2g xs lv 3) (z,p,w,s) fun r hr=>by
  obtain ⟨r0,q1,q2,q3⟩:=c40 hr;rw [q2];exact (hx r0 q1).1 q3
 unfold c4s c4r;simp only [a0b,e3,e8,e4M,getD_some,e4H,c2A hN h,c0K hN h hx,hf,c9O,d3q,d3r];rfl
end
end Go.Proofs.YtajladplkpfaiaaGreat
namespace Go.Proofs.YtajladplkpfaiaaGreat
open Go Go.AM
variable {N:Nat}
def b5m:List UInt8:=[97,99,116,105,118,105,116,121]
def c9P (rs:List D) (from_:Int) (s:D):D:=
 .a [.i (wr ((s.cell 0).toI-from_)),.i (c9O rs (s.cell 1).toI (s.cell 2).toI (s.cell 3).toI (s.cell 4).toI (s.cell 5).toI (s.cell 6).toI).1,.i (c9O rs (s.cell 1).toI (s.cell 2).toI (s.cell 3).toI (s.cell 4).toI (s.cell 5).toI (s.cell 6).toI).2.1,.i (c9O rs (s.cell 1).toI (s.cell 2).toI (s.cell 3).toI (s.cell 4).toI (s.cell 5).toI (s.cell 6).toI).2.2.1,
  .i (c9O rs (s.cell 1).toI (s.cell 2).toI (s.cell 3).toI (s.cell 4).toI (s.cell 5).toI (s.cell 6).toI).2.2.2.1,.i (c9O rs (s.cell 1).toI (s.cell 2).toI (s.cell 3).toI (s.cell 4).toI (s.cell 5).toI (s.cell 6).toI).2.2.2.2.1,.i (c9O rs (s.cell 1).toI (s.cell 2).toI (s.cell 3).toI (s.cell 4).toI (s.cell 5).toI (s.cell 6).toI).2.2.2.2.2]
def e4b (m:List (D×D)) (s:D):List (D×D):=c5y Tryz.prog 3 (.i (s.cell 0).toI) (.b true) m
def b5B (rs:List D) (from_:Int):List D→Ty9→Ty9
 | [],a=>a
 |s::l,a=>b5B rs from_ l (e4b a.1 s,false,a.2.2++[c9P rs from_ s])
def b6A:List D→List (D×D)→List (D×D)
 | [],m=>m
 |s::l,m=>b6A l (e4b m s)
theorem c2B (rs:List D) (from_:Int):∀(l:List D) (a:Ty9),b5B rs from_ l a=(b6A l a.1,(bif l.isEmpty then a.2.1 else false),a.2.2++l.map (c9P rs from_))
 | [],a=>by simp [b5B,b6A]
 |s::l,a=>by
  rw [b5B,c2B rs from_ l];cases l<;>simp [b6A]
def inM (m:List (D×D)) (t:Int):Bool:=((a2u Tryz.prog 3 (.i t) m).getD (.b false)).toB
def b3O (m:List (D×D)) (x:D):Bool:= !(bif !inM m (x.cell 0).toI then true else !inM m (x.cell 1).toI)
def b5n (un:Bool) (from_:Int) (x:D):D:= .a [.i (wr ((x.cell 0).toI-from_)),.i (wr ((x.cell 1).toI-from_)),.s (bif un then [] else (x.cell 2).toS)]
theorem b0g {n sz b:Nat} (hn:n≤b) (h:(b+1)*sz≤140737488355328) (hs:1≤sz):(decide ((n+1)*sz≤a1K)&&decide ((n+1)≤a0g))=true:=by
 have h1:(n+1)*sz≤(b+1)*sz:=Nat.mul_le_mul_right _ (by omega)
 have h4:n+1≤(n+1)*sz:=Nat.le_mul_of_pos_right _ hs;have h2:a1K=140737488355328:=rfl;have h3:a0g=9223372036854775807:=rfl;rw [decide_eq_true (by omega),decide_eq_true (by omega)];rfl
section
variable {rs l laps:List D} {from_:Int}
theorem b5o (hN:maxLen<N) (hl:rs.length≤50) (hr:∀r∈rs,a3a r) (hn:l.length≤20000):b2L N from_ l l.length (a2e rs 1) (a2e rs 2) (a2e rs 3) (a2e rs 4) (a8f rs) 0 [] true []=some (b5B rs from_ l ([],true,[])):=by
 have hm:maxLen=9223372036854775807:=rfl;unfold b2L;refine a01 (.i 0:D) (A:=Ty9) (S:=fun w a kr=>a7u N from_ l l.length (a2e rs 1) (a2e rs 2) (a2e rs 3) (a2e rs 4) (a8f rs) w a.1 a.2.1 a.2.2 (fun w a b c=>kr w (a,b,c)) _) (L:=fun m w a=>b2K N from_ l l.length (a2e rs 1) (a2e rs 2) (a2e rs 3) (a2e rs 4) (a8f rs) m w a.1 a.2.1 a.2.2 _) (fun m w a=>rfl) (fun w l a=>some (b5B rs from_ l a)) (fun w a=>(a.2.2.length:Int)≤w) (by omega) ?_ ?_ hN (a:=([],true,[])) (by simp)
 ·intro a kr _;simp [a7u,b5B]
 ·intro w a kr h0 h1 hw hi ha hk
  simp only [a7u,decide_eq_true h1,e4H,hi,a0b,hw,b5B,c0I hN hl hr,e4M,getD_some,b0g (n:=a.2.2.length) (sz:=56) (b:=20000) (by omega) (by omega) (by omega)]
  exact hk (_,false,_) (by simp;omega)
theorem c0M (hN:maxLen<N) (hl:rs.length≤50) (hr:∀r∈rs,a3a r) (hn:l.length≤20000):b4R N from_ l l.length (a2e rs 1) (a2e rs 2) (a2e rs 3) (a2e rs 4) (a8f rs) 0 [] true []=some (b5B rs from_ l ([],true,[])):=by
 have hm:maxLen=9223372036854775807:=rfl;unfold b4R;refine a01 (.i 0:D) (A:=Ty9) (S:=fun w a kr=>a5k N from_ l l.length (a2e rs 1) (a2e rs 2) (a2e rs 3) (a2e rs 4) (a8f rs) w a.1 a.2.1 a.2.2 (fun w a b c=>kr w (a,b,c)) _) (L:=fun m w a=>a9K N from_ l l.length (a2e rs 1) (a2e rs 2) (a2e rs 3) (a2e rs 4) (a8f rs) m w a.1 a.2.1 a.2.2 _) (fun m w a=>rfl) (fun w l a=>some (b5B rs from_ l a)) (fun w a=>(a.2.2.length:Int)≤w) (by omega) ?_ ?_ hN (a:=([],true,[])) (by simp)
 ·intro a kr _;simp [a5k,b5B]
 ·intro w a kr h0 h1 hw hi ha hk
  simp only [a5k,decide_eq_true h1,e4H,hi,a0b,hw,b5B,c0I hN hl hr,e4M,getD_some,b0g (n:=a.2.2.length) (sz:=56) (b:=20000) (by omega) (by omega) (by omega)]
  exact hk (_,false,_) (by simp;omega)
theorem b5p (hN:maxLen<N) (hn:laps.length≤200) (un:Bool) (m:List (D×D)):b2O N from_ laps laps.length un m 0 true []=some (a1a (b3O m) (b5n un from_) laps (true,[])):=by
 unfold b2O;have hm:maxLen=9223372036854775807:=rfl;refine a01 (.i 0:D) (A:=Bool×List D) (S:=fun w a kr=>a7v N from_ laps laps.length un m w a.1 a.2 (fun w b l=>kr w (b,l)) _) (L:=fun k w a=>b2N N from_ laps laps.length un m k w a.1 a.2 _) (fun m w a=>rfl) (fun w l a=>some (a1a (b3O m) (b5n un from_) l a)) (fun w a=>(a.2.length:Int)≤w) (by omega) ?_ ?_ hN (a:=(true,[])) (by simp)
 ·intro a kr _;simp [a7v,a1a]
 ·intro w a kr h0 h1 hw hi ha hk
  simp only [a7v,decide_eq_true h1,e4H,hi,a0b,hw,a1a,b0g (n:=a.2.length) (sz:=32) (b:=200) (by omega) (by omega) (by omega),c37,b2M]
  show (bif (bif !inM m ((laps.getD w.toNat (.i 0)).cell 0).toI then true else !inM m ((laps.getD w.toNat (.i 0)).cell 1).toI) then _ else _)=some (a1a _ _ _ (bif b3O m (laps.getD w.toNat (.i 0)) then _ else _))
  unfold b3O;cases (bif !inM m ((laps.getD w.toNat (.i 0)).cell 0).toI then true else !inM m ((laps.getD w.toNat (.i 0)).cell 1).toI) with
  |true=>exact hk a (by omega)
  |false=>
   have:=hk (false,a.2++[b5n un from_ (laps.getD w.toNat (.i 0))]) (by simp;omega)
   unfold b5n at this⊢;cases un<;>exact this
theorem c0N (hN:maxLen<N) (hn:laps.length≤200) (un:Bool) (m:List (D×D)):b4S N from_ laps laps.length un m 0 true []=some (a1a (b3O m) (b5n un from_) laps (true,[])):=by
 unfold b4S;have hm:maxLen=9223372036854775807:=rfl;refine a01 (.i 0:D) (A:=Bool×List D) (S:=fun w a kr=>a5l N from_ laps laps.length un m w a.1 a.2 (fun w b l=>kr w (b,l)) _) (L:=fun k w a=>a9M N from_ laps laps.length un m k w a.1 a.2 _) (fun m w a=>rfl) (fun w l a=>some (a1a (b3O m) (b5n un from_) l a)) (fun w a=>(a.2.length:Int)≤w) (by omega) ?_ ?_ hN (a:=(true,[])) (by simp)
 ·intro a kr _;simp [a5l,a1a]
 ·intro w a kr h0 h1 hw hi ha hk
  simp only [a5l,decide_eq_true h1,e4H,hi,a0b,hw,a1a,b0g (n:=a.2.length) (sz:=32) (b:=200) (by omega) (by omega) (by omega),c0o,a9L]
  show (bif (bif !inM m ((laps.getD w.toNat (.i 0)).cell 0).toI then true else !inM m ((laps.getD w.toNat (.i 0)).cell 1).toI) then _ else _)=some (a1a _ _ _ (bif b3O m (laps.getD w.toNat (.i 0)) then _ else _))
  unfold b3O;cases (bif !inM m ((laps.getD w.toNat (.i 0)).cell 0).toI then true else !inM m ((laps.getD w.toNat (.i 0)).cell 1).toI) with
  |true=>exact hk a (by omega)
  |false=>
   have:=hk (false,a.2++[b5n un from_ (laps.getD w.toNat (.i 0))]) (by simp;omega)
   unfold b5n at this⊢;cases un<;>exact this
end
def c0O (rs:List D) (name:List UInt8) (start:Int) (laps:List D) (tn:Bool) (tags l:List D):Ty1:=
 let from_:=((l.getD 0 (.i 0)).cell 0).toI
 let un:=kdB rs 7
 let st:=wr (start+from_)
 let lp:=a1a (b3O (b6A l [])) (b5n un from_) laps (true,[])
 ((bif un then b5m else name),(bif kdB rs 6 then wr (st-st.tmod 86400) else st),(bif l.isEmpty then true else false),l.map (c9P rs from_),lp.1,lp.2,(bif un then true else tn),(bif un then [] else tags))
section
variable {rs l laps tags:List D} {name:List UInt8} {start:Int} {tn:Bool}
theorem c2C {n:Int} (h:0≤n):c6O n 86400=wr (n-n.tmod 86400):=by
 have:0≤n.tmod 86400:=Int.tmod_nonneg _ h;unfold c6O;rw [decide_eq_false (by omega)];rfl
theorem c41 (hN:maxLen<N) (hl:rs.length≤50) (hr:∀r∈rs,a3a r) (hn:l.length≤20000) (h0:0<l.length) (hlp:laps.length≤200) (htg:tags.length≤20) (hnil:tn=true→tags=[])
  (hst:0≤wr (start+((l.getD 0 (.i 0)).cell 0).toI)):d1f N (a2e rs 1) (a2e rs 2) (a2e rs 3) (a2e rs 4) (a8f rs) (kdB rs 6) (kdB rs 7) name start laps tn tags l=some (c0O rs name start laps tn tags l):=by
 have h2:a1K=140737488355328:=rfl;have h3:a0g=9223372036854775807:=rfl;have hin:inB 0 l.length=true:=a0M (by omega) (by omega)
 have hday:∀b:Bool,a9H N b (wr (start+((l.getD 0 (.i 0)).cell 0).toI)) (fun p=>some p)=some (bif b then wr (wr (start+((l.getD 0 (.i 0)).cell 0).toI)-(wr (start+((l.getD 0 (.i 0)).cell 0).toI)).tmod 86400) else wr (start+((l.getD 0 (.i 0)).cell 0).toI)):=by
  intro b;unfold a9H;rw [c0G (by omega),c2C hst]
  cases b<;>rfl
 have hday2:∀b:Bool,a9J N b (wr (start+((l.getD 0 (.i 0)).cell 0).toI)) (fun p=>some p)=some (bif b then wr (wr (start+((l.getD 0 (.i 0)).cell 0).toI)-(wr (start+((l.getD 0 (.i 0)).cell 0).toI)).tmod 86400) else wr (start+((l.getD 0 (.i 0)).cell 0).toI)):=hday
 have hday3:∀b:Bool,a7w N b (wr (start+((l.getD 0 (.i 0)).cell 0).toI)) (fun p=>some p)=some (bif b then wr (wr (start+((l.getD 0 (.i 0)).cell 0).toI)-(wr (start+((l.getD 0 (.i 0)).cell 0).toI)).tmod 86400) else wr (start+((l.getD 0 (.i 0)).cell 0).toI)):=hday
 have hrun:∀l:List D,(b5B rs ((l.getD 0 (.i 0)).cell 0).toI l ([],true,[]))=(b6A l [],(bif l.isEmpty then true else false),l.map (c9P rs ((l.getD 0 (.i 0)).cell 0).toI)):=fun l=>by rw [c2B];simp
 unfold d1f d1e c0O;rw [hin];cases tn with
 |true=>
  have:=hnil rfl;subst this;have e7:b7F N ((l.getD 0 (.i 0)).cell 0).toI start true []=some (.inl (wr (start+((l.getD 0 (.i 0)).cell 0).toI))):=rfl;simp only [a0b,e4H,e7,a0W,a0X,c36,hday,e4M,getD_some,b5o hN hl hr hn,b5p hN hlp,hrun,c35,b2J];cases kdB rs 7<;>rfl
 | false=>
  have e7:b7F N ((l.getD 0 (.i 0)).cell 0).toI start false tags=some (.inr (wr (start+((l.getD 0 (.i 0)).cell 0).toI),false)):=by
   unfold b7F b7E d4r c31;rw [decide_eq_true (show (0+tags.length)*16≤a1K by omega),decide_eq_true (show 0+tags.length≤a0g by omega)]
   cases tags.isEmpty<;>rfl
  simp only [a0b,e4H,e4I,e7,a0J,a0K,c0n,hday2,b6v,hday3,e4M,getD_some,b5o hN hl hr hn,b5p hN hlp,c0M hN hl hr hn,c0N hN hlp,hrun,c0m,a9I];cases kdB rs 7<;>rfl
end
section
variable {xs l laps tags:List D} {lv from_ start:Int} {name:List UInt8}
theorem c2D (hN:maxLen<N) (hx:xs.length≤50) (hr:∀r∈xs,a3a r) (hn:l.length≤20000):b7Z N lv from_ l l.length xs 0 [] true []=some (b5B (a13 xs lv) from_ l ([],true,[])):=by
 have hm:maxLen=9223372036854775807:=rfl;unfold b7Z;refine a01 (.i 0:D) (A:=Ty9) (S:=fun w a kr=>a7L N lv from_ l l.length xs w a.1 a.2.1 a.2.2 (fun w a b c=>kr w (a,b,c)) _) (L:=fun m w a=>b3f N lv from_ l l.length xs m w a.1 a.2.1 a.2.2 _) (fun m w a=>rfl) (fun w l a=>some (b5B (a13 xs lv) from_ l a)) (fun w a=>(a.2.2.length:Int)≤w) (by omega) ?_ ?_ hN (a:=([],true,[])) (by simp)
 ·intro a kr _;simp [a7L,b5B]
 ·intro w a kr h0 h1 hw hi ha hk
  simp only [a7L,decide_eq_true h1,e4H,hi,a0b,hw,b5B,c0L hN hx hr,e4M,getD_some,b0g (n:=a.2.2.length) (sz:=56) (b:=20000) (by omega) (by omega) (by omega)]
  exact hk (_,false,_) (by simp;omega)
theorem c0P (hN:maxLen<N) (hx:xs.length≤50) (hr:∀r∈xs,a3a r) (hn:l.length≤20000):b40 N lv from_ l l.length xs 0 [] true []=some (b5B (a13 xs lv) from_ l ([],true,[])):=by
 have hm:maxLen=9223372036854775807:=rfl;unfold b40;refine a01 (.i 0:D) (A:=Ty9) (S:=fun w a kr=>a5t N lv from_ l l.length xs w a.1 a.2.1 a.2.2 (fun w a b c=>kr w (a,b,c)) _) (L:=fun m w a=>a9Z N lv from_ l l.length xs m w a.1 a.2.1 a.2.2 _) (fun m w a=>rfl) (fun w l a=>some (b5B (a13 xs lv) from_ l a)) (fun w a=>(a.2.2.length:Int)≤w) (by omega) ?_ ?_ hN (a:=([],true,[])) (by simp)
 ·intro a kr _;simp [a5t,b5B]
 ·intro w a kr h0 h1 hw hi ha hk
  simp only [a5t,decide_eq_true h1,e4H,hi,a0b,hw,b5B,c0L hN hx hr,e4M,getD_some,b0g (n:=a.2.2.length) (sz:=56) (b:=20000) (by omega) (by omega) (by omega)]
  exact hk (_,false,_) (by simp;omega)
theorem c2E (hN:maxLen<N) (hn:laps.length≤200) (un:Bool) (m:List (D×D)):b70 N from_ un laps laps.length m 0 true []=some (a1a (b3O m) (b5n un from_) laps (true,[])):=by
 unfold b70;have hm:maxLen=9223372036854775807:=rfl;refine a01 (.i 0:D) (A:=Bool×List D) (S:=fun w a kr=>a7M N from_ un laps laps.length m w a.1 a.2 (fun w b l=>kr w (b,l)) _) (L:=fun k w a=>b3h N from_ un laps laps.length m k w a.1 a.2 _) (fun m w a=>rfl) (fun w l a=>some (a1a (b3O m) (b5n un from_) l a)) (fun w a=>(a.2.length:Int)≤w) (by omega) ?_ ?_ hN (a:=(true,[])) (by simp)
 ·intro a kr _;simp [a7M,a1a]
 ·intro w a kr h0 h1 hw hi ha hk
  simp only [a7M,decide_eq_true h1,e4H,hi,a0b,hw,a1a,b0g (n:=a.2.length) (sz:=32) (b:=200) (by omega) (by omega) (by omega),c4v,b3g]
  show (bif (bif !inM m ((laps.getD w.toNat (.i 0)).cell 0).toI then true else !inM m ((laps.getD w.toNat (.i 0)).cell 1).toI) then _ else _)=some (a1a _ _ _ (bif b3O m (laps.getD w.toNat (.i 0)) then _ else _))
  unfold b3O;cases (bif !inM m ((laps.getD w.toNat (.i 0)).cell 0).toI then true else !inM m ((laps.getD w.toNat (.i 0)).cell 1).toI) with
  |true=>exact hk a (by omega)
  |false=>
   have:=hk (false,a.2++[b5n un from_ (laps.getD w.toNat (.i 0))]) (by simp;omega)
   unfold b5n at this⊢;cases un<;>exact this
theorem c0Q (hN:maxLen<N) (hn:laps.length≤200) (un:Bool) (m:List (D×D)):b41 N from_ un laps laps.length m 0 true []=some (a1a (b3O m) (b5n un from_) laps (true,[])):=by
 unfold b41;have hm:maxLen=9223372036854775807:=rfl;refine a01 (.i 0:D) (A:=Bool×List D) (S:=fun w a kr=>a5u N from_ un laps laps.length m w a.1 a.2 (fun w b l=>kr w (b,l)) _) (L:=fun k w a=>a91 N from_ un laps laps.length m k w a.1 a.2 _) (fun m w a=>rfl) (fun w l a=>some (a1a (b3O m) (b5n un from_) l a)) (fun w a=>(a.2.length:Int)≤w) (by omega) ?_ ?_ hN (a:=(true,[])) (by simp)
 ·intro a kr _;simp [a5u,a1a]
 ·intro w a kr h0 h1 hw hi ha hk
  simp only [a5u,decide_eq_true h1,e4H,hi,a0b,hw,a1a,b0g (n:=a.2.length) (sz:=32) (b:=200) (by omega) (by omega) (by omega),c0w,a90]
  show (bif (bif !inM m ((laps.getD w.toNat (.i 0)).cell 0).toI then true else !inM m ((laps.getD w.toNat (.i 0)).cell 1).toI) then _ else _)=some (a1a _ _ _ (bif b3O m (laps.getD w.toNat (.i 0)) then _ else _))
  unfold b3O;cases (bif !inM m ((laps.getD w.toNat (.i 0)).cell 0).toI then true else !inM m ((laps.getD w.toNat (.i 0)).cell 1).toI) with
  |true=>exact hk a (by omega)
  |false=>
   have:=hk (false,a.2++[b5n un from_ (laps.getD w.toNat (.i 0))]) (by simp;omega)
   unfold b5n at this⊢;cases un<;>exact this
theorem c42 (hN:maxLen<N) (hx:xs.length≤50) (hr:∀r∈xs,a3a r) (hn:l.length≤20000) (h0:0<l.length) (hlp:laps.length≤200) (htg:tags.length≤20):d1Y N xs lv name start laps tags l=some (c0O (a13 xs lv) name start laps false tags l):=by
 have h2:a1K=140737488355328:=rfl;have h3:a0g=9223372036854775807:=rfl;have hin:inB 0 l.length=true:=a0M (by omega) (by omega)
 obtain ⟨b7,e7⟩:=a3I (lv:=lv) hN hx 7;obtain ⟨b6,e6⟩:=a3I (lv:=lv) hN hx 6;have k7:=c9n (xs:=xs) (lv:=lv) 7;have k6:=c9n (xs:=xs) (lv:=lv) 6;have hrun:∀l:List D,(b5B (a13 xs lv) ((l.getD 0 (.i 0)).cell 0).toI l ([],true,[]))=(b6A l [],(bif l.isEmpty then true else false),l.map (c9P (a13 xs lv) ((l.getD 0 (.i 0)).cell 0).toI)):=fun l=>by rw [c2B];simp
 unfold d1Y d1X c0O;rw [hin,decide_eq_true (show (0+tags.length)*16≤a1K by omega),decide_eq_true (show 0+tags.length≤a0g by omega)]
 simp only [a0b,e4H,Bool.and_self,e7,e6,e4M,getD_some,←k7,←k6,c2D hN hx hr hn,c2E hN hlp,c0P hN hx hr hn,c0Q hN hlp,hrun,c4t,b3d,c4u,b3e,c0v,a9Y];cases kdB (a13 xs lv) 7 with
 |true=>cases kdB (a13 xs lv) 6<;>rfl
 |false=>cases kdB (a13 xs lv) 6<;>cases tags.isEmpty<;>rfl
end
end Go.Proofs.YtajladplkpfaiaaGreat
namespace Go.Proofs.YtajladplkpfaiaaGreat
open Go Go.AM
variable {N:Nat}
def a6m (a:D):List UInt8:=(a.cell 0).toS
def a3V (a:D):Int:=(a.cell 1).toI
def a3W (a:D):Int:=(a.cell 2).toI
def a2f (a:D):List D:=(a.cell 3).items
def a6c (a:D):List D:=(a.cell 4).items
def aTn (a:D):Bool:=(a.cell 5).isNil
def a27 (a:D):List D:=(a.cell 5).items
def c6z (start:Int) (s:D):Prop:=0≤start+(s.cell 0).toI∧start+(s.cell 0).toI≤86399999999
structure e0I (start:Int) (smps laps tags:List D):Prop where
 s:smps.length≤20000
 l:laps.length≤200
 t:tags.length≤20
 g:∀x∈smps,c6z start x
theorem b1W {b:Bool} {n z:Int} (h:(bif b then n else z)=0) (hn:n≠0):b=false∧z=0:=by
 cases b with
 |true=>exact absurd h hn
 |false=>exact ⟨rfl,h⟩
theorem c2F {n z:Int} (h:(bif n !=0 then n else z)=0):n=0∧z=0:=by
 cases hb:n !=0 with
 |true=>rw [hb] at h;simp only [e4H] at h;rw [h] at hb;cases hb
 |false=>rw [hb] at h;exact ⟨by simpa using hb,h⟩
theorem c0R {name:List UInt8} {sport start:Int} {smps laps tags:List D} (h:c1d name sport start smps laps tags=0):e0I start smps laps tags:=by
 unfold c1d at h;obtain ⟨_,h⟩:=b1W h (by decide)
 obtain ⟨_,h⟩:=b1W h (by decide)
 obtain ⟨h3,h⟩:=b1W h (by decide)
 obtain ⟨h4,h⟩:=b1W h (by decide)
 obtain ⟨h5,h⟩:=c2F h;simp only [Bool.or_eq_false_iff,decide_eq_false_iff_not] at h4;have hst:=of_decide_eq_true (show inI start 0 86399999999=true by simpa using h3)
 have hz:=a2p h5;have hw:∀i:Nat,i<smps.length→b8G smps i=false∧c4U start (smps.getD i (.i 0))=false:=by
  intro i hi;have:=hz i hi;rw [Int.zero_add] at this;unfold b1T at this;obtain ⟨q1,q2⟩:=b1W this (by decide)
  obtain ⟨q3,_⟩:=b1W q2 (by decide)
  simp only [Bool.or_eq_false_iff] at q3;exact ⟨q1,by simpa using q3.1⟩
 have hpos:∀i:Nat,i<smps.length→0≤((smps.getD i (.i 0)).cell 0).toI:=by
  intro i;induction i with
  |zero=>
   intro hi;have:=(hw 0 hi).1;unfold b8G at this;simp at this;simp [this]
  |succ i ih=>
   intro hi;have:=(hw (i+1) hi).1;unfold b8G at this;have e0:(((i+1:Nat):Int)==0)=false:=by simp;omega
   rw [e0] at this;simp only [e4I,decide_eq_false_iff_not] at this;have e1:(((i+1:Nat):Int)-1).toNat=i:=by omega
   rw [e1,Int.toNat_natCast] at this;have:=ih (by omega)
   omega
 refine ⟨by omega,by omega,by omega,fun x hx=> ?_⟩
 obtain ⟨i,hi,rfl⟩:=List.getElem_of_mem hx;have h1:=hpos i hi;have h2:=(hw i hi).2;have e:smps.getD i (.i 0)=smps[i]:=by rw [e4L,e4R hi];rfl
 rw [e] at h1 h2;unfold c4U at h2;simp only [Bool.or_eq_false_iff,decide_eq_false_iff_not] at h2;obtain ⟨h2,h3⟩:=h2;rw [a0H (by omega) (by omega)] at h3
 exact ⟨by omega,by omega⟩
def reS (s:D):D:= .a [.i (s.cell 0).toI,.i (s.cell 1).toI,.i (s.cell 2).toI,.i (s.cell 3).toI,.i (s.cell 4).toI,.i (s.cell 5).toI,.i (s.cell 6).toI]
def c0S (now:List D) (s:D):Bool:=bif decide ((now.length:Int)>0) then decide (wr ((s.cell 0).toI-((now.getD (now.length-1) (.i 0)).cell 0).toI)>60) else false
section
variable {now:List D} {s:D}
theorem c2G (hl:now.length≤maxLen):b7G N now.length now (s.cell 0).toI=some (c0S now s):=by
 have hm:maxLen=9223372036854775807:=rfl;unfold b7G b2P c0S;cases hd:decide ((now.length:Int)>0) with
 |false=>rfl
 |true=>
  have:=of_decide_eq_true hd;rw [a0H (by omega) (by omega),a0M (by omega) (by omega)]
  have e:((now.length:Int)-1).toNat=now.length-1:=by omega
  rw [e,decide_eq_true (show now.length-1<now.length by omega)]
  rfl
theorem c2H (hl:now.length≤maxLen):b71 N now (s.cell 0).toI=some (c0S now s):=by
 have hm:maxLen=9223372036854775807:=rfl;unfold b71 b3i c0S;cases hd:decide ((now.length:Int)>0) with
 |false=>rfl
 |true=>
  have:=of_decide_eq_true hd;rw [a0H (by omega) (by omega),a0M (by omega) (by omega)]
  have e:((now.length:Int)-1).toNat=now.length-1:=by omega
  rw [e,decide_eq_true (show now.length-1<now.length by omega)]
  rfl
end
def a5A (hid:D→Bool):List D→List D×List (List D)→List D×List (List D)
 | [],a=>a
 |s::r,a=>a5A hid r (bif hid s then a else bif c0S a.1 s then ([reS s],a.2++[a.1]) else (a.1++[reS s],a.2))
def c9o (a:List D×List (List D)):List (List D):=bif decide ((a.1.length:Int)>0) then a.2++[a.1] else a.2
def a28 (hid:D→Bool) (l:List D):List (List D):=c9o (a5A hid l ([],[]))
def b3P (pc:List D→D) (hid:D→Bool):List D→Ty8→Ty8
 | [],a=>a
 |s::r,a=>b3P pc hid r (bif hid s then a else bif c0S a.2.1 s then (false,[reS s],false,a.2.2.2++[pc a.2.1]) else (false,a.2.1++[reS s],a.2.2.1,a.2.2.2))
def e2q (pc:List D→D) (a:Ty8):Bool×List D:=bif decide ((a.2.1.length:Int)>0) then (false,a.2.2.2++[pc a.2.1]) else (a.2.2.1,a.2.2.2)
theorem c0T (pc:List D→D) (hid:D→Bool):∀(l:List D) (a:Ty8) (b:List D×List (List D)) (out:List D),a.2.1=b.1→a.2.2.2=out++b.2.map pc→(b3P pc hid l a).2.1=(a5A hid l b).1∧(b3P pc hid l a).2.2.2=out++(a5A hid l b).2.map pc
 | [],a,b,out,h1,h2=>⟨h1,h2⟩
 |s::r,a,b,out,h1,h2=>by
  rw [b3P,a5A];refine c0T pc hid r _ _ out ?_ ?_
  ·rw [h1];cases hid s<;>cases c0S b.1 s<;>simp [h1]
  ·rw [h1];cases hid s<;>cases c0S b.1 s<;>simp [h2]
theorem c0U (pc:List D→D) (hid:D→Bool) (l:List D) (f:Bool) (out:List D):(e2q pc (b3P pc hid l (true,[],f,out))).2=out++(a28 hid l).map pc:=by
 obtain ⟨h1,h2⟩:=c0T pc hid l (true,[],f,out) ([],[]) out rfl (by simp)
 unfold e2q a28 c9o;rw [h1];cases decide (((a5A hid l ([],[])).1.length:Int)>0) with
 |true=>simp only [e4H,h2];simp
 |false=>simp only [e4I,h2]
def e4A (sport:Int) (t:Ty1):D:= .a [.s t.1,.i sport,.i t.2.1,.l t.2.2.1 t.2.2.2.1,.l t.2.2.2.2.1 t.2.2.2.2.2.1,.l t.2.2.2.2.2.2.1 t.2.2.2.2.2.2.2]
def a2y (rs:List D) (name:List UInt8) (sport start:Int) (laps:List D) (tn:Bool) (tags l:List D):D:=e4A sport (c0O rs name start laps tn tags l)
theorem c43 {rs l:List D} {all:Bool} {start w:Int} (h0:0≤w) (h1:w<l.length):((b5U rs all start l).getD w.toNat (.i 0)).toB=b1b rs all start (l.getD w.toNat (.i 0)):=by
 unfold b5U;rw [e4L,List.getElem?_map,e4L,e4R (by omega)]
 rfl
theorem c44 {rs l:List D} {all:Bool} {start:Int}:(b5U rs all start l).length=l.length:=by unfold b5U;simp
theorem a8g {start:Int} {s:D} (h:c6z start s):c6z start (reS s):=h
section
variable {rs smps laps tags out:List D} {name:List UInt8} {sport start:Int} {tn f:Bool}
def c6A (start:Int) (now:List D) (w:Int):Prop:=(now.length:Int)≤w∧ ∀s∈now,c6z start s
theorem c0V {now:List D} {w:Int} (h:c6A start now w) (h0:0<now.length):0≤wr (start+((now.getD 0 (.i 0)).cell 0).toI):=by
 have hm:now.getD 0 (.i 0)∈now:=a2B (w:=0) (by omega) (by omega)
 obtain ⟨q1,q2⟩:=h.2 _ hm;unfold wr;rw [a0H (by omega) (by omega)]
 exact q1
theorem b5q {now:List D} {s:D} (h:c0S now s=true):0<now.length:=by
 unfold c0S at h;cases hd:decide ((now.length:Int)>0) with
 |false=>rw [hd] at h;cases h
 |true=>have:=of_decide_eq_true hd;omega
theorem b5r (hN:maxLen<N) (hl:rs.length≤50) (hr:∀r∈rs,a3a r) (ha:e0I start smps laps tags) (hnil:tn=true→tags=[]) (hout:out.length≤40000000) (all:Bool):
  b7I N (b5U rs all start smps) smps smps.length name sport start laps tn tags (a2e rs 1) (a2e rs 2) (a2e rs 3) (a2e rs 4) (a8f rs) (kdB rs 6) (kdB rs 7) 0 true [] f out=some (b3P (a2y rs name sport start laps tn tags) (b1b rs all start) smps (true,[],f,out))∧
  c6A start (b3P (a2y rs name sport start laps tn tags) (b1b rs all start) smps (true,[],f,out)).2.1 smps.length∧(b3P (a2y rs name sport start laps tn tags) (b1b rs all start) smps (true,[],f,out)).2.2.2.length≤out.length+smps.length:=by
 have hm:maxLen=9223372036854775807:=rfl;have hs:=ha.s;constructor
 ·unfold b7I
  refine a01 (.i 0:D) (A:=Ty8) (S:=fun w a kr=>a7x N (b5U rs all start smps) smps smps.length name sport start laps tn tags (a2e rs 1) (a2e rs 2) (a2e rs 3) (a2e rs 4) (a8f rs) (kdB rs 6) (kdB rs 7) w a.1 a.2.1 a.2.2.1 a.2.2.2 (fun w a b c d=>kr w (a,b,c,d)) _)
   (L:=fun m w a=>b2R N (b5U rs all start smps) smps smps.length name sport start laps tn tags (a2e rs 1) (a2e rs 2) (a2e rs 3) (a2e rs 4) (a8f rs) (kdB rs 6) (kdB rs 7) m w a.1 a.2.1 a.2.2.1 a.2.2.2 _) (fun m w a=>rfl) (fun w l a=>some (b3P (a2y rs name sport start laps tn tags) (b1b rs all start) l a))
   (fun w a=>c6A start a.2.1 w∧(a.2.2.2.length:Int)≤out.length+w) (by omega) ?_ ?_ hN (a:=(true,[],f,out)) ⟨⟨by simp,fun s hs=>by simp at hs⟩,by simp⟩
  ·intro a kr _;simp [a7x,b3P]
  ·intro w a kr h0 h1 hw hi ⟨hno,hol⟩ hk
   have hi2:inB w (b5U rs all start smps).length=true:=by rw [c44];exact hi
   have hno1:=hno.1;have htg:=ha.g _ (a2B h0 h1);simp only [a7x,decide_eq_true h1,e4H,hi,hi2,a0b,hw,b3P,c43 h0 h1,c2G (show a.2.1.length≤maxLen by omega),e4M,getD_some]
   cases b1b rs all start (smps.getD w.toNat (.i 0)) with
   |true=>exact hk a ⟨⟨by omega,hno.2⟩,by omega⟩
   | false=>
    cases hg:c0S a.2.1 (smps.getD w.toNat (.i 0)) with
    |true=>
     have hp:=b5q hg;simp only [b7H,a9O,b2Q,a9N,e4H,e4I,a0b,c41 hN hl hr (show a.2.1.length≤20000 by omega) hp ha.l ha.t hnil (c0V hno hp),e4M,getD_some,a0W,a0X,b0g (n:=a.2.2.2.length) (sz:=104) (b:=40020000) (by omega) (by omega) (by omega)]
     exact hk (false,[reS (smps.getD w.toNat (.i 0))],false,a.2.2.2++[a2y rs name sport start laps tn tags a.2.1]) ⟨⟨by simp;omega,fun s hs=>by rw [List.mem_singleton] at hs;rw [hs];exact a8g htg⟩,by simp;omega⟩
    | false=>
     simp only [b7H,a9O,e4I,a0J,a0K,e4M,e4H,b0g (n:=a.2.1.length) (sz:=56) (b:=20000) (by omega) (by omega) (by omega),a0b]
     exact hk (false,a.2.1++[reS (smps.getD w.toNat (.i 0))],a.2.2.1,a.2.2.2) ⟨⟨by simp;omega,fun s hs=>by
      rcases List.mem_append.1 hs with hs|hs
      ·exact hno.2 s hs
      ·rw [List.mem_singleton] at hs;rw [hs];exact a8g htg⟩,by simp only;omega⟩
 ·have :∀(l:List D) (a:Ty8) (w:Int),(∀s∈l,c6z start s)→c6A start a.2.1 w→c6A start (b3P (a2y rs name sport start laps tn tags) (b1b rs all start) l a).2.1 (w+l.length)∧(b3P (a2y rs name sport start laps tn tags) (b1b rs all start) l a).2.2.2.length≤a.2.2.2.length+l.length:=by
   intro l;induction l with
   |nil=>intro a w _ h;exact ⟨by simpa [b3P] using h,by simp [b3P]⟩
   | cons s r ih=>
    intro a w hg hn;have hgs:=hg s (by simp)
    have hgr:∀s∈r,c6z start s:=fun x hx=>hg x (by simp [hx])
    rw [b3P];have hn1:=hn.1;cases b1b rs all start s with
    |true=>
     obtain ⟨q1,q2⟩:=ih a (w+1) hgr ⟨by omega,hn.2⟩
     refine ⟨?_,?_⟩
     ·rw [e4U,show w+((r.length+1:Nat):Int)=w+1+r.length by omega];exact q1
     ·simp only [e4H,e4U] at q2⊢;omega
    | false=>
     cases hgp:c0S a.2.1 s with
     |true=>
      obtain ⟨q1,q2⟩:=ih (false,[reS s],false,a.2.2.2++[a2y rs name sport start laps tn tags a.2.1]) (w+1) hgr ⟨by have:=b5q hgp;simp;omega,fun x hx=>by rw [List.mem_singleton] at hx;rw [hx];exact a8g hgs⟩
      refine ⟨?_,?_⟩
      ·rw [e4U,show w+((r.length+1:Nat):Int)=w+1+r.length by omega];exact q1
      ·simp only [e4H,e4I,e4U,e4T] at q2⊢;simp at q2;omega
     | false=>
      obtain ⟨q1,q2⟩:=ih (false,a.2.1++[reS s],a.2.2.1,a.2.2.2) (w+1) hgr ⟨by simp;omega,fun x hx=>by
       rcases List.mem_append.1 hx with hx|hx
       ·exact hn.2 x hx
       ·rw [List.mem_singleton] at hx;rw [hx];exact a8g hgs⟩
      refine ⟨?_,?_⟩
      ·rw [e4U,show w+((r.length+1:Nat):Int)=w+1+r.length by omega];exact q1
      ·simp only [e4I,e4U] at q2⊢;omega
  obtain ⟨q1,q2⟩:=this smps (true,[],f,out) 0 ha.g ⟨by simp,fun s hs=>by simp at hs⟩
  exact ⟨by simpa using q1,q2⟩
def e0J (rs:List D) (name:List UInt8) (sport start:Int) (smps laps:List D) (tn:Bool) (tags:List D) (f:Bool) (out:List D):Bool×List D:=
 e2q (a2y rs name sport start laps tn tags) (b3P (a2y rs name sport start laps tn tags) (b1b rs (rs.any (a2d sport tags)) start) smps (true,[],f,out))
theorem d3s (hN:maxLen<N) (hl:rs.length≤50) (hr:∀r∈rs,a3a r) (ha:e0I start smps laps tags) (hnil:tn=true→tags=[]) (hout:out.length≤40000000):
  ∃x,c6i N rs name sport start smps laps tn tags f out=some x∧((x= .inl (e0J rs name sport start smps laps tn tags f out).2∧(e0J rs name sport start smps laps tn tags f out).1=false)∨x= .inr (e0J rs name sport start smps laps tn tags f out)):=by
 have hm:maxLen=9223372036854775807:=rfl;obtain ⟨y0,y1,e93⟩:=d3n hN hl hr;obtain ⟨e12,hno,hol⟩:=b5r (name:=name) (sport:=sport) (tn:=tn) (f:=f) (out:=out) hN hl hr ha hnil hout (rs.any (a2d sport tags));have hs:=ha.s;have ht:=ha.t;unfold c6i c8t e0J;simp only [a0b,d3l hN (c9g hl) ha.s (show tags.length≤maxLen by omega),e4M,getD_some,e4H,e93,e12]
 generalize b3P (a2y rs name sport start laps tn tags) (b1b rs (rs.any (a2d sport tags)) start) smps (true,[],f,out)=a at hno hol;unfold e2q c4c b2T;cases hd:decide ((a.2.1.length:Int)>0) with
 |false=>exact ⟨_,rfl,.inr rfl⟩
 |true=>
  have hp:=of_decide_eq_true hd;have hno1:=hno.1;simp only [b2S,a9P,a0b,c41 hN hl hr (show a.2.1.length≤20000 by omega) (by omega) ha.l ha.t hnil (c0V hno (by omega)),e4M,getD_some,e4H,b0g (n:=a.2.2.2.length) (sz:=104) (b:=40020000) (by omega) (by omega) (by omega)]
  exact ⟨_,rfl,.inl ⟨rfl,trivial⟩⟩
theorem d3t:(e0J rs name sport start smps laps tn tags f out).2=out++(a28 (b1b rs (rs.any (a2d sport tags)) start) smps).map (a2y rs name sport start laps tn tags):=c0U _ _ _ _ _
end
theorem c0W (hid:D→Bool):∀(l:List D) (a:List D×List (List D)),(a5A hid l a).2.length+(bif decide (((a5A hid l a).1.length:Int)>0) then 1 else 0)≤a.2.length+(bif decide ((a.1.length:Int)>0) then 1 else 0)+l.length
 | [],a=>by simp [a5A]
 | s::r,a=>by
  rw [a5A];refine Nat.le_trans (c0W hid r _) ?_;rw [e4U];cases hid s with
  |true=>simp only [e4H];omega
  | false=>
   cases hg:c0S a.1 s with
   |true=>
    have hp:=b5q hg;have e:decide ((a.1.length:Int)>0)=true:=decide_eq_true (by omega)
    rw [e];simp;omega
   |false=>
    simp;cases decide (0<a.1.length)<;>simp<;>omega
theorem c0X (hid:D→Bool) (l:List D):(a28 hid l).length≤l.length:=by
 have:=c0W hid l ([],[]);unfold a28 c9o;cases hd:decide (((a5A hid l ([],[])).1.length:Int)>0) with
 |true=>rw [hd] at this;simp at this⊢;omega
 |false=>rw [hd] at this;simp at this⊢;omega
structure d4F (a:D):Prop where
 r:e0I (a3W a) (a2f a) (a6c a) (a27 a)
 n:aTn a=true→a27 a=[]
def e2W (rs:List D) (a:D) (f:Bool) (out:List D):Bool×List D:=e0J rs (a6m a) (a3V a) (a3W a) (a2f a) (a6c a) (aTn a) (a27 a) f out
def d3u (rs:List D):List D→Bool×List D→Bool×List D
 | [],a=>a
 |x::l,a=>d3u rs l (e2W rs x a.1 a.2)
def a4Z (rs:List D) (tn:Bool) (a:D):List D:=(a28 (b1b rs (rs.any (a2d (a3V a) (a27 a))) (a3W a)) (a2f a)).map (a2y rs (a6m a) (a3V a) (a3W a) (a6c a) tn (a27 a))
theorem b5s {rs:List D} {tn:Bool} {a:D} (h:d4F a):(a4Z rs tn a).length≤20000:=by
 unfold a4Z;rw [List.length_map];exact Nat.le_trans (c0X _ _) h.r.s
theorem c45 {rs:List D} {a:D} {f:Bool} {out:List D}:(e2W rs a f out).2=out++a4Z rs (aTn a) a:=d3t
theorem c46 (rs:List D):∀(l:List D) (a:Bool×List D),(d3u rs l a).2=a.2++l.flatMap fun x=>a4Z rs (aTn x) x
 | [],a=>by simp [d3u]
 |x::l,a=>by rw [d3u,c46 rs l,c45];simp
section
variable {rs xs l:List D} {lv:Int}
theorem c2I (hN:maxLen<N) (hl:rs.length≤50) (hr:∀r∈rs,a3a r) (hn:l.length≤2000) (ha:∀a∈l,d4F a):b7J N rs l l.length 0 true []=some (d3u rs l (true,[])):=by
 have hm:maxLen=9223372036854775807:=rfl;unfold b7J;refine a01 (.i 0:D) (A:=Bool×List D) (S:=fun w a kr=>a7y N rs l l.length w a.1 a.2 (fun w b l=>kr w (b,l)) _) (L:=fun m w a=>b2U N rs l l.length m w a.1 a.2 _) (fun m w a=>rfl) (fun w l a=>some (d3u rs l a)) (fun w a=>(a.2.length:Int)≤20000*w) (by omega) ?_ ?_ hN (a:=(true,[])) (by simp)
 ·intro a kr _;simp [a7y,d3u]
 ·intro w a kr h0 h1 hw hi hol hk
  have hg:=ha _ (a2B h0 h1);have hlen:=b5s (rs:=rs) (tn:=aTn (l.getD w.toNat (.i 0))) hg;obtain ⟨x,e,hx⟩:=d3s (name:=a6m (l.getD w.toNat (.i 0))) (sport:=a3V (l.getD w.toNat (.i 0))) (f:=a.1) (out:=a.2) hN hl hr hg.r hg.n (by omega)
  have e:c6i N rs ((l.getD w.toNat (.i 0)).cell 0).toS ((l.getD w.toNat (.i 0)).cell 1).toI ((l.getD w.toNat (.i 0)).cell 2).toI ((l.getD w.toNat (.i 0)).cell 3).items ((l.getD w.toNat (.i 0)).cell 4).items ((l.getD w.toNat (.i 0)).cell 5).isNil ((l.getD w.toNat (.i 0)).cell 5).items a.1 a.2=some x:=e;have hsn:(e2W rs (l.getD w.toNat (.i 0)) a.1 a.2).2.length≤a.2.length+20000:=by rw [c45,e4T];omega
  have hk2:=hk (e2W rs (l.getD w.toNat (.i 0)) a.1 a.2) (by omega)
  simp only [a7y,decide_eq_true h1,e4H,hi,a0b,hw,d3u,a2X,a2k,e,e4M,getD_some];rcases hx with ⟨rfl,hf⟩|rfl
  ·simp only [a0W,a0X,e4H]
   rw [←hk2];show kr (w+1) (false,_)=_;congr 1
   exact Prod.ext hf.symm rfl
  ·exact hk2
theorem d3v (hN:maxLen<N) (hv:a2q xs) (hn:l.length≤2000) (ha:∀a∈l,d4F a):∃b,d1k N xs lv l=some (b,l.flatMap fun x=>a4Z (a13 xs lv) (aTn x) x):=by
 have hm:maxLen=9223372036854775807:=rfl;obtain ⟨b,e⟩:=d3h (lv:=lv) hN hv.l;have h50:(a13 xs lv).length≤50:=Nat.le_trans c4Y hv.l;have hg:∀r∈a13 xs lv,a3a r:=b5l fun r hr=>b3N (hv.mem hr)
 refine ⟨(d3u (a13 xs lv) l (true,[])).1,?_⟩;unfold d1k d1j;simp only [a0b,e,e4M,getD_some,e4H,c2I hN h50 hg hn ha];have:=c46 (a13 xs lv) l (true,[]);rw [List.nil_append] at this;exact congrArg some (b8O this)
end
section
variable {xs smps laps tags:List D} {lv sport start:Int} {name:List UInt8}
def rot (q:Ty8):Ty8:=(q.2.2.1,q.2.2.2,q.1,q.2.1)
theorem c2J (hN:maxLen<N) (hv:a2q xs) (ha:e0I start smps laps tags) (all:Bool):
  b73 N lv (b5U (a13 xs lv) all start smps) smps smps.length xs name sport start laps tags 0 true [] true []=some (rot (b3P (a2y (a13 xs lv) name sport start laps false tags) (b1b (a13 xs lv) all start) smps (true,[],true,[]))):=by
 have hm:maxLen=9223372036854775807:=rfl;have hs:=ha.s;have hg:∀r∈xs,a3a r:=fun r hr=>b3N (hv.mem hr)
 unfold b73;refine a01 (.i 0:D) (A:=Ty8) (S:=fun w a kr=>a7N N lv (b5U (a13 xs lv) all start smps) smps smps.length xs name sport start laps tags w a.1 a.2.1 a.2.2.1 a.2.2.2 (fun w a b c d=>kr w (a,b,c,d)) _)
  (L:=fun m w a=>b3j N lv (b5U (a13 xs lv) all start smps) smps smps.length xs name sport start laps tags m w a.1 a.2.1 a.2.2.1 a.2.2.2 _) (fun m w a=>rfl) (fun w l a=>some (rot (b3P (a2y (a13 xs lv) name sport start laps false tags) (b1b (a13 xs lv) all start) l (rot a))))
  (fun w a=>c6A start a.2.2.2 w∧(a.2.1.length:Int)≤w) (by omega) ?_ ?_ hN (a:=(true,[],true,[])) ⟨⟨by simp,fun s hs=>by simp at hs⟩,by simp⟩
 ·intro a kr _;simp [a7N,b3P,rot]
 ·intro w a kr h0 h1 hw hi ⟨hno,hol⟩ hk
  have hi2:inB w (b5U (a13 xs lv) all start smps).length=true:=by rw [c44];exact hi
  have hno1:=hno.1;have htg:=ha.g _ (a2B h0 h1);simp only [a7N,decide_eq_true h1,e4H,hi,hi2,a0b,hw,b3P,c43 h0 h1,c2H (show a.2.2.2.length≤maxLen by omega),e4M,getD_some]
  show _=some (rot (b3P _ _ _ (bif b1b (a13 xs lv) all start (smps.getD w.toNat (.i 0)) then rot a else bif c0S a.2.2.2 (smps.getD w.toNat (.i 0)) then _ else _)))
  cases b1b (a13 xs lv) all start (smps.getD w.toNat (.i 0)) with
  |true=>exact hk a ⟨⟨by omega,hno.2⟩,by omega⟩
  | false=>
   cases hgp:c0S a.2.2.2 (smps.getD w.toNat (.i 0)) with
   |true=>
    have hp:=b5q hgp;simp only [b72,a92,e4H,e4I,a0b,c42 hN hv.l hg (show a.2.2.2.length≤20000 by omega) hp ha.l ha.t,e4M,getD_some,a0W,a0X,b0g (n:=a.2.1.length) (sz:=104) (b:=40020000) (by omega) (by omega) (by omega)]
    exact hk (false,a.2.1++[a2y (a13 xs lv) name sport start laps false tags a.2.2.2],false,[reS (smps.getD w.toNat (.i 0))]) ⟨⟨by simp;omega,fun s hs=>by rw [List.mem_singleton] at hs;rw [hs];exact a8g htg⟩,by simp;omega⟩
   | false=>
    simp only [b72,a92,e4I,a0J,a0K,e4M,e4H,b0g (n:=a.2.2.2.length) (sz:=56) (b:=20000) (by omega) (by omega) (by omega),a0b]
    exact hk (a.1,a.2.1,false,a.2.2.2++[reS (smps.getD w.toNat (.i 0))]) ⟨⟨by simp;omega,fun s hs=>by
     rcases List.mem_append.1 hs with hs|hs
     ·exact hno.2 s hs
     ·rw [List.mem_singleton] at hs;rw [hs];exact a8g htg⟩,by simp only;omega⟩
theorem d3w (hN:maxLen<N) (hv:a2q xs) (ha:e0I start smps laps tags):∃b,d10 N xs lv name sport start smps laps tags=some (b,(a28 (b1b (a13 xs lv) ((a13 xs lv).any (a2d sport tags)) start) smps).map (a2y (a13 xs lv) name sport start laps false tags)):=by
 have hm:maxLen=9223372036854775807:=rfl;have hs:=ha.s;have ht:=ha.t;have hg:∀r∈xs,a3a r:=fun r hr=>b3N (hv.mem hr)
 have h50:(a13 xs lv).length≤50:=Nat.le_trans c4Y hv.l;have hga:∀r∈a13 xs lv,a3a r:=b5l hg;obtain ⟨b,e43⟩:=d3m (lv:=lv) (sport:=sport) (start:=start) hN hv.l ha.s (show tags.length≤maxLen by omega)
 have e15:=c2J (lv:=lv) (name:=name) (sport:=sport) hN hv ha ((a13 xs lv).any (a2d sport tags));obtain ⟨_,hno,hol⟩:=b5r (name:=name) (sport:=sport) (tn:=false) (f:=true) (out:=[]) hN h50 hga ha (fun h=>by cases h) (by simp) ((a13 xs lv).any (a2d sport tags))
 have hsnd:=c0U (a2y (a13 xs lv) name sport start laps false tags) (b1b (a13 xs lv) ((a13 xs lv).any (a2d sport tags)) start) smps true [];rw [List.nil_append] at hsnd;unfold d10 d1Z;simp only [a0b,e43,e4M,getD_some,e4H,e15];rw [←hsnd];generalize b3P (a2y (a13 xs lv) name sport start laps false tags) (b1b (a13 xs lv) ((a13 xs lv).any (a2d sport tags)) start) smps (true,[],true,[])=a at hno hol;unfold e2q c4w b3k rot;simp only [List.length_nil] at hol;cases hd:decide ((a.2.1.length:Int)>0) with
 |false=>exact ⟨_,rfl⟩
 |true=>
  have hp:=of_decide_eq_true hd;have hno1:=hno.1;simp only [a0b,c42 hN hv.l hg (show a.2.1.length≤20000 by omega) (by omega) ha.l ha.t,e4M,getD_some,e4H,b0g (n:=a.2.2.2.length) (sz:=104) (b:=40020000) (by omega) (by omega) (by omega)]
  exact ⟨_,rfl⟩
end
section
variable {xs l:List D} {lv:Int}
def c2K (a:D):Int:=c1d (a6m a) (a3V a) (a3W a) (a2f a) (a6c a) (a27 a)
def a4w (a:D):Prop:=c2n (a6m a) (a2f a) (a6c a) (a27 a)
def a61 (xs:List D) (lv:Int) (l:List D):Int:=bif c2s xs !=0 then c2s xs else bif !inI lv 0 3 then 9 else a0i (fun w=>c2K (l.getD w.toNat (.i 0))) 0 l
theorem b8S (e:Int):(bif a1x (some (a29 e)) then some (a2t (some (a29 e))) else bif (a0w (some (a29 e))).isSome then some 0 else none)=some e:=by
 have:=c2v false e;simpa using this
theorem c47 (hN:maxLen<N) (hv:a4R xs) (hn:l.length≤maxLen) (ha:∀a∈l,a4w a):c8f N xs lv l=some (a61 xs lv l):=by
 have e:b7w N l l.length 0=some (a29 (a0i (fun w=>c2K (l.getD w.toNat (.i 0))) 0 l)):=by
  unfold b7w;refine (a0E (.i 0:D) (S:=fun w kr=>a7p N l l.length w kr _ _) (L:=fun m w=>b2A N l l.length m w _ _) (fun m w=>rfl) (fun w l'=>some (a29 (a0i (fun w=>c2K (l.getD w.toNat (.i 0))) w l'))) hn ?_ ?_ hN).trans rfl
  ·intro kr;simp [a7p,a0i,a29]
  ·intro w kr h0 h1 hw hi hk
   have hx:c1Z N ((l.getD w.toNat (.i 0)).cell 0).toS ((l.getD w.toNat (.i 0)).cell 1).toI ((l.getD w.toNat (.i 0)).cell 2).toI ((l.getD w.toNat (.i 0)).cell 3).items ((l.getD w.toNat (.i 0)).cell 4).items ((l.getD w.toNat (.i 0)).cell 5).items=some (c2K (l.getD w.toNat (.i 0))):=b8I hN (ha _ (a2B h0 h1));simp only [a7p,decide_eq_true h1,e4H,hi,a0b,hw,hk,hx,e4M,getD_some,a1v];cases c2K (l.getD w.toNat (.i 0)) !=0<;>rfl
 unfold c8f d0O a61;simp only [a0b,d3f hN hv,e4M,getD_some,e4H,a3t,e,b8S];cases c2s xs !=0<;>cases inI lv 0 3<;>rfl
theorem d3x (hN:maxLen<N) (hv:a4R xs) (hn:l.length≤2000) (ha:∀a∈l,a4w a) (log:Bool):c17 N xs lv log l=some (a61 xs lv l):=by
 have hm:maxLen=9223372036854775807:=rfl;have e:b7U N l l.length 0=some (a29 (a0i (fun w=>c2K (l.getD w.toNat (.i 0))) 0 l)):=by
  unfold b7U;refine (a0E (.i 0:D) (S:=fun w kr=>a7F N l l.length w kr _ _) (L:=fun m w=>b25 N l l.length m w _ _) (fun m w=>rfl) (fun w l'=>some (a29 (a0i (fun w=>c2K (l.getD w.toNat (.i 0))) w l'))) (by omega) ?_ ?_ hN).trans rfl
  ·intro kr;simp [a7F,a0i,a29]
  ·intro w kr h0 h1 hw hi hk
   have hx:b7T N ((l.getD w.toNat (.i 0)).cell 0).toS ((l.getD w.toNat (.i 0)).cell 1).toI ((l.getD w.toNat (.i 0)).cell 2).toI ((l.getD w.toNat (.i 0)).cell 3).items ((l.getD w.toNat (.i 0)).cell 4).items ((l.getD w.toNat (.i 0)).cell 5).items=some (c2K (l.getD w.toNat (.i 0))):=b8J hN (ha _ (a2B h0 h1));simp only [a7F,decide_eq_true h1,e4H,hi,a0b,hw,hk,hx,e4M,getD_some,a1v];cases c2K (l.getD w.toNat (.i 0)) !=0<;>rfl
 unfold c17 c8y a61;rw [decide_eq_false (show¬((l.length:Int)>2000) by omega)]
 simp only [a0b,c4W hN hv,e4M,getD_some,e4H,a38,e,b8S];cases c2s xs !=0<;>cases inI lv 0 3<;>cases log<;>rfl
theorem a4x (h:a61 xs lv l=0):a2q xs∧inI lv 0 3=true∧ ∀a∈l,c2K a=0:=by
 unfold a61 at h;obtain ⟨h1,h⟩:=c2F h;obtain ⟨h2,h⟩:=b1W h (by decide)
 refine ⟨d3g h1,by simpa using h2,fun a ha=> ?_⟩
 obtain ⟨i,hi,rfl⟩:=List.getElem_of_mem ha;have:=a2p h i hi;rw [Int.zero_add,Int.toNat_natCast,e4L,e4R hi] at this;exact this
end
end Go.Proofs.YtajladplkpfaiaaGreat
namespace Go.Proofs.YtajladplkpfaiaaGreat
open Go Go.AM
variable {N:Nat}
def b5X (x y:D):Bool:=c9d (a6m x) (a3V x) (a3W x) (a2f x) (a6c x) (a27 x) (a6m y) (a3V y) (a3W y) (a2f y) (a6c y) (a27 y)
structure e2r (x:D):Prop where
 s:(a2f x).length≤maxLen
 l:(a6c x).length≤maxLen
 t:(a27 x).length≤maxLen
theorem e2s {w:Int} {n:Nat} (h:inB w n=true):0≤w∧w<n:=by
 unfold inB at h;simpa using h
section
variable {xs ys:List D}
theorem c48 (hN:maxLen<N) (hl:xs.length≤maxLen) (ho:∀x∈xs,e2r x):d25 N xs ys=some (eqL b5X xs ys):=by
 unfold d25 d24 eqL;rw [c9c];cases h:(xs.length==ys.length) with
 |false=>rfl
 | true=>
  have e:b8z N xs ys xs.length 0=some (bif a2x b5X xs ys then .inr () else .inl ()):=by
   unfold b8z;refine b8K b5X (S:=fun w kr=>a8b N xs ys xs.length w kr _ _) (L:=fun m w=>b3K N xs ys xs.length m w _ _) (fun m w=>rfl) hl (by simpa using h) (fun kr=>by simp [a8b]) (fun w kr h1 h2 h3=> ?_) hN
   obtain ⟨q1,q2⟩:=e2s h2;have ho':=ho _ (a2B q1 q2);have hx:∀y:D,d23 N ((xs.getD w.toNat (.i 0)).cell 0).toS ((xs.getD w.toNat (.i 0)).cell 1).toI ((xs.getD w.toNat (.i 0)).cell 2).toI ((xs.getD w.toNat (.i 0)).cell 3).items ((xs.getD w.toNat (.i 0)).cell 4).items ((xs.getD w.toNat (.i 0)).cell 5).items (y.cell 0).toS (y.cell 1).toI (y.cell 2).toI (y.cell 3).items (y.cell 4).items (y.cell 5).items=some (b5X (xs.getD w.toNat (.i 0)) y):=fun y=>d3c hN ho'.s ho'.l ho'.t
   unfold a8b;rw [h1,h2,h3];simp only [e4H,a0b,hx,e4M,getD_some];cases b5X (xs.getD w.toNat (.i 0)) (ys.getD w.toNat (.i 0))<;>rfl
  rw [e];cases a2x b5X xs ys<;>rfl
end
section
variable {rs:List D} {tn:Bool} {a:D}
theorem b3Q (hid:D→Bool):∀(l:List D) (b:List D×List (List D)) (n:Nat),b.1.length≤n→(∀r∈b.2,r.length≤n)→(a5A hid l b).1.length≤n+l.length∧ ∀r∈(a5A hid l b).2,r.length≤n+l.length
 | [],b,n,h1,h2=>⟨h1,h2⟩
 | s::l,b,n,h1,h2=>by
  rw [a5A,e4U,show n+(l.length+1)=(n+1)+l.length by omega]
  cases hid s with
  |true=>exact b3Q hid l b (n+1) (by omega) fun r hr=>Nat.le_succ_of_le (h2 r hr)
  | false=>
   cases c0S b.1 s with
   |true=>
    refine b3Q hid l _ (n+1) (by simp) fun r hr=> ?_
    simp only [e4H,e4I,List.mem_append,List.mem_singleton] at hr;rcases hr with hr|rfl
    ·exact Nat.le_succ_of_le (h2 r hr)
    ·omega
   |false=>exact b3Q hid l _ (n+1) (by simp;omega) fun r hr=>Nat.le_succ_of_le (h2 r hr)
theorem b5t (hid:D→Bool) (l:List D):∀r∈a28 hid l,r.length≤l.length:=by
 obtain ⟨h1,h2⟩:=b3Q hid l ([],[]) 0 (by simp) (fun r hr=>by simp at hr)
 intro r hr;unfold a28 c9o at hr;rw [Nat.zero_add] at h1 h2;cases hd:decide (((a5A hid l ([],[])).1.length:Int)>0) with
 |true=>
  rw [hd] at hr;simp only [e4H,List.mem_append,List.mem_singleton] at hr;rcases hr with hr|rfl
  ·exact h2 r hr
  ·exact h1
 |false=>rw [hd] at hr;exact h2 r hr
theorem c9p (p:D→Bool) (f:D→D) (l:List D) (a:Bool×List D):(a1a p f l a).2.length≤a.2.length+l.length:=by
 rw [a4v,e4T,List.length_map];have:=List.length_filter_le p l;omega
theorem d3y (h:d4F a):∀x∈a4Z rs tn a,e2r x:=by
 have hm:maxLen=9223372036854775807:=rfl;intro x hx;unfold a4Z at hx;obtain ⟨r,h1,rfl⟩:=List.mem_map.1 hx;have hr:=b5t _ _ r h1;have h3:=h.r.s;have h4:=h.r.l;have h5:=h.r.t;refine ⟨?_,?_,?_⟩
 ·show (List.map _ r).length≤_
  rw [List.length_map];omega
 ·show (a1a _ _ (a6c a) (true,[])).2.length≤_
  refine Nat.le_trans (c9p _ _ _ _) ?_;simp;omega
 ·show (bif kdB rs 7 then [] else a27 a).length≤_
  cases kdB rs 7<;>simp;omega
end
section
variable {xs:List D} {lv sp st:Int} {nm:List UInt8} {sn ln tn:Bool} {s l t:List D}
end
end Go.Proofs.YtajladplkpfaiaaGreat
namespace Go.Proofs.YtajladplkpfaiaaGreat
open Go Go.AM
variable {N:Nat}
def d94 (n r:Int):Prop:=0≤r∧r*r≤n∧n<(r+1)*(r+1)
theorem d94.uniq {n r s:Int} (h:d94 n r) (g:d94 n s):r=s:=by
 obtain ⟨h0,h1,h2⟩:=h;obtain ⟨g0,g1,g2⟩:=g;by_cases a:r<s
 ·have:(r+1)*(r+1)≤s*s:=Int.mul_le_mul (by omega) (by omega) (by omega) (by omega)
  omega
 ·by_cases b:s<r
  ·have:(s+1)*(s+1)≤r*r:=Int.mul_le_mul (by omega) (by omega) (by omega) (by omega)
   omega
  ·omega
def d95:Nat→Int
 |0=>0
 |k+1=>2^k
theorem c9q (k:Nat):((2:Int)^k).fdiv (2^1)=d95 k:=by
 cases k with
 |zero=>rfl
 |succ k=>
  show ((2:Int)^(k+1)).fdiv (2^1)=2^k;rw [Int.pow_succ];exact Int.mul_fdiv_cancel _ (by decide)
theorem b1c {n:Int} (h0:0≤n) (h1:n<9223372036854775808):∀(k m:Nat) (r:Int),k<m→0≤r→r*r≤n→n<(r+2^k)*(r+2^k)→r+2^k≤4294967296→
  ∃s,a3B N (R:=Int) n m r (d95 k) (fun p=>some p)=some s∧d94 n s
 |k,0,r,hm,_,_,_,_=>by omega
 |0,m+1,r,hm,r0,r1,r2,r3=>by
  refine ⟨r,?_,r0,r1,by simpa using r2⟩
  simp [a3B,a5v,d95]
 | k+1,m+1,r,hm,r0,r1,r2,r3=>by
  have hk:(0:Int)<2^k:=Int.pow_pos (by decide)
  have hp:(2:Int)^(k+1)=2^k+2^k:=by rw [Int.pow_succ];omega
  rw [hp] at r2 r3;obtain ⟨b,hb⟩:∃b:Int,b=2^k:=⟨_,rfl⟩;rw [←hb] at hk r2 r3;have ht:IntKind.wrap .i64 (r+b)=r+b:=a0H (by omega) (by omega)
  obtain ⟨t,htt⟩:∃t:Int,t=r+b:=⟨_,rfl⟩;have hsq:t*t≤4294967295*4294967295:=Int.mul_le_mul (by omega) (by omega) (by omega) (by omega)
  have hsq0:0<t*t:=Int.mul_pos (by omega) (by omega)
  have hy:(bif decide (IntKind.wrap .i64 (t*t)>0) then decide (t≤IntKind.wrap .i64 (n.tdiv t)) else false)=decide (t*t≤n):=by
   by_cases hbig:t*t<9223372036854775808
   ·rw [a0H (by omega) (by omega),decide_eq_true (by omega),e4H,Int.tdiv_eq_ediv_of_nonneg h0]
    have hq0:0≤n/t:=Int.ediv_nonneg h0 (by omega)
    have hq1:n/t≤n:=Int.ediv_le_self _ h0;rw [a0H (by omega) (by omega),Bool.eq_iff_iff]
    simp only [decide_eq_true_eq];rw [Int.le_ediv_iff_mul_le (by omega)]
   ·have hw:¬IntKind.wrap .i64 (t*t)>0:=by rw [IntKind.wrap_i64];omega
    rw [decide_eq_false hw,e4I,decide_eq_false (by omega)]
  have hz:(!(t==0))=true:=by simp;omega
  have hstep:a3B N (R:=Int) n (m+1) r (d95 (k+1)) (fun p=>some p)=a3B N (R:=Int) n m (bif decide (t*t≤n) then t else r) (d95 k) (fun p=>some p):=by
   show a5v N n r (d95 (k+1)) _ _=_;unfold a5v;rw [show d95 (k+1)=b by rw [hb];rfl,decide_eq_true (by omega:b>0),e4H,ht,←htt,hz]
   simp only [a0b,e4H,hy,c0x,a93];rw [hb,c9q]
  rw [hstep];by_cases hle:t*t≤n
  ·rw [decide_eq_true hle,e4H]
   refine b1c h0 h1 k m t (by omega) (by omega) hle ?_ (by omega)
   rw [←hb,htt,Int.add_assoc];exact r2
  ·rw [decide_eq_false hle,e4I]
   exact b1c h0 h1 k m r (by omega) r0 r1 (by rw [←hb,←htt];omega) (by omega)
theorem e2t (hN:maxLen<N) {n:Int} (h0:0≤n) (h1:n<9223372036854775808):∃s,c0z N n=some (s,0)∧d94 n s:=by
 have hm:maxLen=9223372036854775807:=rfl;obtain ⟨s,hs,hr⟩:=b1c (N:=N) h0 h1 32 N 0 (by omega) (by omega) (by simpa using h0) (by simp;omega) (by decide)
 refine ⟨s,?_,hr⟩;unfold c0z c4A c0y;have hs:a3B N (R:=Int) n N 0 2147483648 (fun p=>some p)=some s:=hs
 rw [decide_eq_false (by omega),hs]
 rfl
theorem b1d {n:Int} (h0:0≤n) (h1:n<9223372036854775808):∀(m d:Nat) (lo hi:Int),d<m→0≤lo→lo≤hi→hi≤3037000499→hi-lo≤d→lo*lo≤n→n<(hi+1)*(hi+1)→
  ∃s,a8Z N (R:=Int) n m lo hi (fun p=>some p)=some s∧d94 n s
 |0,d,lo,hi,hm,_,_,_,_,_,_=>by omega
 | m+1,d,lo,hi,hm,l0,l1,l2,l3,l4,l5=>by
  by_cases hlt:lo<hi
  ·obtain ⟨t,ht⟩:∃t:Int,t=(lo+hi+1)/2:=⟨_,rfl⟩
   have ht1:lo<t:=by omega
   have ht2:t≤hi:=by omega
   have hsq:t*t≤3037000499*3037000499:=Int.mul_le_mul (by omega) (by omega) (by omega) (by omega)
   have hsq0:0≤t*t:=Int.mul_nonneg (by omega) (by omega)
   have hstep:a8Z N (R:=Int) n (m+1) lo hi (fun p=>some p)=a8Z N (R:=Int) n m (bif decide (t*t≤n) then t else lo) (bif decide (t*t≤n) then hi else t-1) (fun p=>some p):=by
    show b0Z N n lo hi _ _=_;unfold b0Z;rw [decide_eq_true hlt,e4H,a0H (x:=lo+hi) (by omega) (by omega),a0H (x:=lo+hi+1) (by omega) (by omega),Int.tdiv_eq_ediv_of_nonneg (by omega),←ht,a0H (x:=t) (by omega) (by omega)]
    simp only [a0b,b48,a54];rw [a0H (x:=t*t) (by omega) (by omega),a0H (x:=t-1) (by omega) (by omega)]
    cases decide (t*t≤n)<;>rfl
   rw [hstep];by_cases hle:t*t≤n
   ·rw [decide_eq_true hle]
    exact b1d h0 h1 m (d-1) t hi (by omega) (by omega) ht2 l2 (by omega) hle l5
   ·rw [decide_eq_false hle]
    exact b1d h0 h1 m (d-1) lo (t-1) (by omega) l0 (by omega) (by omega) (by omega) l4 (by rw [show t-1+1=t by omega];omega)
  ·have:lo=hi:=by omega
   subst this;refine ⟨lo,?_,l0,l4,l5⟩;simp [a8Z,b0Z]
theorem d96 (hN:maxLen<N) {n:Int} (h0:0≤n) (h1:n<9223372036854775808):∃s,c6j N n=some s∧d94 n s:=by
 have hm:maxLen=9223372036854775807:=rfl;obtain ⟨s,hs,hr⟩:=b1d (N:=N) h0 h1 N 3037000499 0 3037000499 (by omega) (by omega) (by omega) (by omega) (by omega) (by simpa using h0) (by omega)
 refine ⟨s,?_,hr⟩;unfold c6j d2h c8R;rw [hs];rfl
theorem roots (hN:maxLen<N) {n:Int} (h0:0≤n) (h1:n<9223372036854775808):∃s,c0z N n=some (s,0)∧c6j N n=some s∧0≤s∧s≤3037000499:=by
 obtain ⟨s,hs,hr⟩:=e2t hN h0 h1;obtain ⟨t,ht,hr'⟩:=d96 hN h0 h1;have:=hr.uniq hr';subst this;refine ⟨s,hs,ht,hr.1,?_⟩;by_cases hb:s≤3037000499
 ·exact hb
 ·have:(3037000500:Int)*3037000500≤s*s:=Int.mul_le_mul (by omega) (by omega) (by omega) (by omega)
  have:=hr.2.1;omega
end Go.Proofs.YtajladplkpfaiaaGreat
namespace Go.Proofs.YtajladplkpfaiaaGreat
open Go Go.AM
variable {N:Nat}
abbrev sec (s:D):Int:=(s.cell 0).toI
abbrev sv (s:D) (j:Nat):Int:=(s.cell j).toI
structure c0Y (s:D):Prop where
 lo:0≤sec s
 hi:sec s≤1000000
 x: -100000000≤sv s 1∧sv s 1≤100000000
 y: -100000000≤sv s 2∧sv s 2≤100000000
def Asc (l:List D):Prop:=l.Pairwise fun a b=>sec a<sec b
def sqI (p q:D):Int:=(sv q 1-sv p 1)*(sv q 1-sv p 1)+(sv q 2-sv p 2)*(sv q 2-sv p 2)
theorem e2u {a:Int} (h1: -200000000≤a) (h2:a≤200000000):0≤a*a∧a*a≤40000000000000000:=by
 by_cases h:0≤a
 ·exact ⟨Int.mul_nonneg h h,Int.mul_le_mul (c:=200000000) (d:=200000000) h2 h2 h (by decide)⟩
 ·have e:a*a=(-a)*(-a):=by rw [Int.neg_mul_neg]
  rw [e];exact ⟨Int.mul_nonneg (by omega) (by omega),Int.mul_le_mul (a:= -a) (b:= -a) (c:=200000000) (d:=200000000) (by omega) (by omega) (by omega) (by decide)⟩
theorem d97 {p q:D} (hp:c0Y p) (hq:c0Y q):0≤sqI p q∧sqI p q≤80000000000000000∧IntKind.wrap .i64 ((IntKind.wrap .i64 (sv q 1-sv p 1))*(IntKind.wrap .i64 (sv q 1-sv p 1)))=(sv q 1-sv p 1)*(sv q 1-sv p 1)∧
  IntKind.wrap .i64 ((IntKind.wrap .i64 (sv q 2-sv p 2))*(IntKind.wrap .i64 (sv q 2-sv p 2)))=(sv q 2-sv p 2)*(sv q 2-sv p 2):=by
 have h1:=hp.x;have h2:=hp.y;have h3:=hq.x;have h4:=hq.y;have e1:=e2u (a:=sv q 1-sv p 1) (by omega) (by omega)
 have e2:=e2u (a:=sv q 2-sv p 2) (by omega) (by omega)
 have w1:IntKind.wrap .i64 (sv q 1-sv p 1)=sv q 1-sv p 1:=a0H (by omega) (by omega)
 have w2:IntKind.wrap .i64 (sv q 2-sv p 2)=sv q 2-sv p 2:=a0H (by omega) (by omega)
 rw [w1,w2];exact ⟨by unfold sqI;omega,by unfold sqI;omega,a0H (by omega) (by omega),a0H (by omega) (by omega)⟩
theorem d98 {p q:D} (hp:c0Y p) (hq:c0Y q):c8K N (sv p 1) (sv p 2) (sv q 1) (sv q 2)=sqI p q:=by
 obtain ⟨h1,h2,h3,h4⟩:=d97 hp hq;unfold c8K c4z;simp only [a0b];rw [h3,h4];exact a0H (by unfold sqI at*;omega) (by unfold sqI at*;omega)
def e0K (p q:D):Int:=((c6j (9223372036854775808:Nat) (sqI p q))).getD 0
theorem d4G (hN:maxLen<N) {p q:D} (hp:c0Y p) (hq:c0Y q):c0z N (sqI p q)=some (e0K p q,0)∧c6j N (sqI p q)=some (e0K p q):=by
 have hm:maxLen=9223372036854775807:=rfl;obtain ⟨h1,h2,_,_⟩:=d97 hp hq;obtain ⟨s,e1,r1⟩:=e2t hN (n:=sqI p q) h1 (by omega)
 obtain ⟨t,e2,r2⟩:=d96 hN (n:=sqI p q) h1 (by omega)
 obtain ⟨u,e3,r3⟩:=d96 (N:=9223372036854775808) (by omega) (n:=sqI p q) h1 (by omega)
 have hu:e0K p q=u:=by unfold e0K;rw [e3];rfl
 rw [e1,e2,hu,r1.uniq r3,r2.uniq r3];exact ⟨rfl,rfl⟩
theorem d3z {n:Int} (h: -100000000≤n∧n≤100000000):c4y N n (-100000000) 100000000=true:=by
 unfold c4y c4x;rw [decide_eq_true h.1,decide_eq_true h.2];rfl
theorem c6B (hN:maxLen<N) {a b c d:Int} (ha: -100000000≤a∧a≤100000000) (hb: -100000000≤b∧b≤100000000) (hc: -100000000≤c∧c≤100000000) (hd: -100000000≤d∧d≤100000000):
  c18 N 4 [(.i a),(.i b),(.i c),(.i d)] 0=some (.inr ()):=by
 unfold c18;refine (a0E (.i 0:D) (xs:=[(.i a),(.i b),(.i c),(.i d)]) (S:=fun w kr=>b43 N 4 [(.i a),(.i b),(.i c),(.i d)] w kr _ _) (L:=fun m w=>b74 N 4 [(.i a),(.i b),(.i c),(.i d)] m w _ _) (fun m w=>rfl) (fun _ _=>some (.inr ())) (by show (4:Nat)≤9223372036854775807;decide) ?_ ?_ hN).trans rfl
 ·intro kr;rfl
 ·intro w kr h0 h1 hw hi hk
  have h1':w<4:=h1;have hin:c4y N (([(.i a),(.i b),(.i c),(.i d)]:List D).getD w.toNat (.i 0)).toI (-100000000) 100000000=true:=by
   have:w=0∨w=1∨w=2∨w=3:=by omega
   rcases this with rfl|rfl|rfl|rfl
   ·exact d3z ha
   ·exact d3z hb
   ·exact d3z hc
   ·exact d3z hd
  unfold b43;rw [decide_eq_true h1',hi,hin,hw,hk,decide_eq_true (show w.toNat<([(.i a),(.i b),(.i c),(.i d)]:List D).length by simp;omega)]
  rfl
theorem d3A (hN:maxLen<N) {p q:D} (hp:c0Y p) (hq:c0Y q):d7S N (sv p 1) (sv p 2) (sv q 1) (sv q 2)=some (e0K p q,0):=by
 unfold d7S d18 d4u c4B;rw [c6B hN hp.x hp.y hq.x hq.y,d98 hp hq];simp only [a0b,a0J,a0K,e4H,e4I,e4M,(d4G hN hp hq).1,getD_some]
theorem c9r (a:Int):max2 a 0=max2 0 a:=by unfold max2;split<;>split<;>omega
def d99 (kind:Int) (p q:D):Int:=bif kind==1 then sv p 4 else bif kind==2 then sv p 5 else bif kind==3 then sv p 6 else bif kind==4 then e0K p q else max2 0 (IntKind.wrap .i64 (sv q 3-sv p 3))
theorem d3B (hN:maxLen<N) {kind:Int} (h1:1≤kind) (h2:kind≤5) {p q:D} (hp:c0Y p) (hq:c0Y q):
  a1q N false kind (kind==1) (sv p 1) (sv p 2) (sv p 3) (sv p 4) (sv p 5) (sv p 6) (sv q 1) (sv q 2) (sv q 3)=some (d99 kind p q,decide (4≤kind)):=by
 have:kind=1∨kind=2∨kind=3∨kind=4∨kind=5:=by omega
 unfold a1q a1p a3E a1o a3D a1n a3C a1m;rcases this with rfl|rfl|rfl|rfl|rfl
 ·rfl
 ·rfl
 ·rfl
 ·rw [d3A hN hp hq];rfl
 ·rw [c9r];rfl
theorem e0a (hN:maxLen<N) {kind:Int} (h1:1≤kind) (h2:kind≤5) {p q:D} (hp:c0Y p) (hq:c0Y q):
  a80 N 0 kind (kind==4) (sv p 1) (sv p 2) (sv p 3) (sv q 1) (sv q 2) (sv q 3)=some (bif decide (4≤kind) then d99 kind p q else 0):=by
 have:kind=1∨kind=2∨kind=3∨kind=4∨kind=5:=by omega
 obtain ⟨e1,e2,e3,e4⟩:=d97 hp hq;unfold a80 a56 c4F b3m;rcases this with rfl|rfl|rfl|rfl|rfl
 ·rfl
 ·rfl
 ·rfl
 ·simp only [a0b]
  rw [e3,e4,show IntKind.wrap .i64 ((sv q 1-sv p 1)*(sv q 1-sv p 1)+(sv q 2-sv p 2)*(sv q 2-sv p 2))=sqI p q from a0H (by unfold sqI at*;omega) (by unfold sqI at*;omega),(d4G hN hp hq).2]
  rfl
 ·rfl
theorem e0b {kind:Int} (h1:1≤kind) (h2:¬4≤kind) (p q:D):d8b N (sv p 4) (sv p 5) (sv p 6) kind=d99 kind p q:=by
 have:kind=1∨kind=2∨kind=3:=by omega
 rcases this with rfl|rfl|rfl<;>rfl
def e4c (val n j:Int):Int:=IntKind.wrap .i64 (IntKind.wrap .i64 ((IntKind.wrap .i64 (val*(IntKind.wrap .i64 (j+1)))).tdiv n)-IntKind.wrap .i64 ((IntKind.wrap .i64 (val*j)).tdiv n))
def e0L (spread:Bool) (val n j:Int):Int:=bif decide (n>60) then (bif spread then 0 else-1) else bif spread then e4c val n j else val
def c0Z (spread:Bool) (val n:Int):Nat→Int→List D
 |0,_=>[]
 |d+1,j=> .i (e0L spread val n j)::c0Z spread val n d (j+1)
theorem b0h {spread:Bool} {val n:Int}:∀{d:Nat} {j:Int},(c0Z spread val n d j).length=d
 |0,_=>rfl
 |d+1,j=>by simp [c0Z,b0h]
theorem b5u {n:Nat} (h:n≤8000000):(decide (n*8≤a1K)&&decide (n≤a0g))=true:=by
 have e1:a1K=140737488355328:=rfl;have e2:a0g=9223372036854775807:=rfl;rw [decide_eq_true (by omega),decide_eq_true (by omega)];rfl
theorem c00 {spread:Bool} {val n:Int} (hn0:0<n) (hn:n≤1000000):∀(d m:Nat) (j:Int) (acc:List D),d<m→0≤j→j+d=n→acc.length+d≤4000000→
  a0Y N (R:=Bool×LD) n val spread n m j false acc (fun p=>some p)=some (false,acc++c0Z spread val n d j)
 |d,0,j,acc,hm,_,_,_=>by omega
 |0,m+1,j,acc,hm,h0,h1,h2=>by
  have:¬j<n:=by omega
  simp only [a0Y,a1u,decide_eq_false this,e4I,c0Z,List.append_nil]
 |d+1,m+1,j,acc,hm,h0,h1,h2=>by
  have hlt:j<n:=by omega
  have hz:(!(n==0))=true:=by simp;omega
  have hr:=b5u (n:=acc.length+1) (by omega)
  have hw:IntKind.wrap .i64 (j+1)=j+1:=a0H (by omega) (by omega)
  have ih:=c00 (spread:=spread) (val:=val) hn0 hn d m (j+1) (acc++[.i (e0L spread val n j)]) (by omega) (by omega) (by omega) (by simp;omega)
  rw [e4V] at ih;refine Eq.trans ?_ ih;simp only [a0Y,a1u,decide_eq_true hlt,e4H,a1t,a0U,a3G,a1s,a3F,a1r,a0b,hz,hr];unfold e0L e4c;rw [hw];cases decide (n>60)<;>cases spread<;>rfl
theorem c49 {kind:Int} (h1k:1≤kind) {p:D} {val n:Int} (hv:¬4≤kind→d8b N (sv p 4) (sv p 5) (sv p 6) kind=val) {ln:Int} (hl:4≤kind→ln=val) (hn0:0<n) (hn:n≤1000000):∀(d m:Nat) (j:Int) (nl:Bool) (acc:List D),d<m→0≤j→j+d=n→acc.length+d≤4000000→
  a7P N (R:=Bool×LD) kind n (decide (n>60)) ln n (sv p 4) (sv p 5) (sv p 6) m j nl acc (fun p=>some p)=some (bif decide (0<d) then false else nl,acc++c0Z (decide (4≤kind)) val n d j)
 |d,0,j,nl,acc,hm,_,_,_=>by omega
 |0,m+1,j,nl,acc,hm,h0,h1,h2=>by
  have:¬j<n:=by omega
  simp only [a7P,a96,decide_eq_false this,e4I,c0Z,List.append_nil];rfl
 | d+1,m+1,j,nl,acc,hm,h0,h1,h2=>by
  have hlt:j<n:=by omega
  have hz:(!(n==0))=true:=by simp;omega
  have hr:=b5u (n:=acc.length+1) (by omega)
  have hw:IntKind.wrap .i64 (j+1)=j+1:=a0H (by omega) (by omega)
  have ih:=c49 h1k hv hl hn0 hn d m (j+1) false (acc++[.i (e0L (decide (4≤kind)) val n j)]) (by omega) (by omega) (by omega) (by simp;omega)
  rw [e4V] at ih;have hfl:(bif decide (0<d) then false else false)=(bif decide (0<d+1) then false else nl):=by rw [decide_eq_true (by omega:0<d+1)];cases decide (0<d)<;>rfl
  rw [hfl] at ih;refine Eq.trans ?_ ih;have hge:decide (kind≥4)=decide (4≤kind):=rfl;simp only [a7P,a96,decide_eq_true hlt,e4H,c4G,b3n,c4I,b3p,c4H,b3o,a0b,hz,hr,hge];by_cases h4:4≤kind
  ·rw [decide_eq_true h4,hl h4]
   unfold e0L e4c;rw [hw];cases decide (n>60)<;>rfl
  ·rw [decide_eq_false h4,hv h4]
   unfold e0L;rw [hw];cases decide (n>60)<;>rfl
end Go.Proofs.YtajladplkpfaiaaGreat
namespace Go.Proofs.YtajladplkpfaiaaGreat
open Go Go.AM
variable {N:Nat}
def a8l (kind:Int) (p q:D):List D:=c0Z (decide (4≤kind)) (d99 kind p q) (sec q-sec p) (sec q-sec p).toNat 0
def a14 (kind:Int):List D→List D
 |p::q::r=>a8l kind p q++a14 kind (q::r)
 |_=>[]
theorem c5a {kind:Int}:∀(l:List D) (p:D),Asc (p::l)→((a14 kind (p::l)).length:Int)=sec ((p::l).getLast (by simp))-sec p
 | [],p,_=>by simp [a14]
 |q::r,p,h=>by
  have h1:=(List.pairwise_cons.1 h).1 q (by simp)
  have ih:=c5a (kind:=kind) r q (List.pairwise_cons.1 h).2;rw [List.getLast_cons (by simp)]
  simp only [a14,e4T,a8l,b0h];omega
structure b2f (l:List D):Prop where
 asc:Asc l
 ok:∀s∈l,c0Y s
theorem b2f.tail {p:D} {l:List D} (h:b2f (p::l)):b2f l:=⟨(List.pairwise_cons.1 h.asc).2,fun s hs=>h.ok s (by simp [hs])⟩
theorem wr3 {p q:D} (hp:c0Y p) (hq:c0Y q):IntKind.wrap .i64 (sec q-sec p)=sec q-sec p:=a0H (by have:=hp.lo;have:=hp.hi;have:=hq.lo;omega) (by have:=hp.lo;have:=hq.hi;omega)
theorem d3C (hN:maxLen<N) {kind:Int} (h1:1≤kind) (h2:kind≤5) {p q:D} (hp:c0Y p) (hq:c0Y q) (hlt:sec p<sec q):
  d2j N (sv p 0) (sv p 1) (sv p 2) (sv p 3) (sv p 4) (sv p 5) (sv p 6) (sv q 0) (sv q 1) (sv q 2) (sv q 3) kind=some (false,a8l kind p q):=by
 have hm:maxLen=9223372036854775807:=rfl;have a1:=hp.lo;have a2:=hq.hi;unfold d2j d2i;rw [e0a hN h1 h2 hp hq,show IntKind.wrap .i64 (sv q 0-sv p 0)=sec q-sec p from wr3 hp hq];simp only [a0b,e4M,e4H,getD_some,c4J];rw [c49 (N:=N) h1 (p:=p) (val:=d99 kind p q) (n:=sec q-sec p) (fun h4=>e0b h1 h4 p q) (ln:=bif decide (4≤kind) then d99 kind p q else 0) (fun h4=>by rw [decide_eq_true h4];rfl) (by omega) (by omega) (sec q-sec p).toNat N 0 true [] (by omega) (by omega) (by omega) (by simp;omega)]
 rw [decide_eq_true (by omega:0<(sec q-sec p).toNat)]
 rfl
theorem a4y {xs r:List D} {p:D} {i:Nat} (h:xs.drop i=p::r):i<xs.length∧xs.getD i (.i 0)=p∧xs.drop (i+1)=r∧xs.length=i+1+r.length:=by
 have hl:=congrArg List.length h;rw [List.length_drop,e4U] at hl;have hi:i<xs.length:=by omega
 rw [List.drop_eq_getElem_cons hi] at h;injection h with h1 h2;exact ⟨hi,by rw [e4L,e4R hi];exact h1,h2,by omega⟩
theorem b6B (hN:maxLen<N) {kind:Int} (h1:1≤kind) (h2:kind≤5) {xs:List D} (hlen:xs.length≤20000):∀(r:List D) (p:D) (i m:Nat) (acc:List D),xs.drop i=p::r→b2f (p::r)→r.length<m→acc.length+(a14 kind (p::r)).length≤4000000→
  a7O N (R:=Bool×LD) xs kind m ((i:Int)+1) false acc (fun p=>some p)=some (false,acc++a14 kind (p::r))
 |_,_,_,0,_,_,_,hm,_=>by omega
 | [],p,i,m+1,acc,hd,_,_,_=>by
  obtain ⟨_,_,_,hl⟩:=a4y hd;have:¬((i:Int)+1<(xs.length:Int)):=by simp at hl;omega
  simp only [a7O,a94,decide_eq_false this,e4I,a14,List.append_nil]
 | q::r,p,i,m+1,acc,hd,hc,hm,hb=>by
  obtain ⟨b1,b2,b3,b4⟩:=a4y hd;obtain ⟨c1,c2,_,_⟩:=a4y b3;have hM:maxLen=9223372036854775807:=rfl;have hp:=hc.ok p (by simp)
  have hq:=hc.ok q (by simp)
  have hlt:sec p<sec q:=(List.pairwise_cons.1 hc.asc).1 q (by simp)
  have a1:=hp.lo;have a2:=hq.hi;have hw1:IntKind.wrap .i64 ((i:Int)+1-1)=i:=a0H (by omega) (by omega)|>.trans (by omega)
  have hw2:IntKind.wrap .i64 ((i:Int)+1+1)=((i+1:Nat):Int)+1:=a0H (by omega) (by omega)|>.trans (by omega)
  have hi1:inB (i:Int) xs.length=true:=a0M (by omega) (by omega)
  have hi2:inB ((i:Int)+1) xs.length=true:=a0M (by omega) (by omega)
  have e1:xs.getD ((i:Int)).toNat (.i 0)=p:=by rw [Int.toNat_natCast];exact b2
  have e2:xs.getD ((i:Int)+1).toNat (.i 0)=q:=by rw [show ((i:Int)+1).toNat=i+1 by omega];exact c2
  have hcnd:(i:Int)+1<(xs.length:Int):=by simp at b4;omega
  have hrl:(a14 kind (p::q::r)).length=(a8l kind p q).length+(a14 kind (q::r)).length:=by simp only [a14,e4T]
  have hsl:(a8l kind p q).length=(sec q-sec p).toNat:=by unfold a8l;exact b0h
  have ih:=b6B hN h1 h2 hlen r q (i+1) m (acc++a8l kind p q) b3 hc.tail (by simp at hm;omega) (by rw [e4T];omega)
  have hx:a6X N ((i:Int)+1) xs kind false acc=some (false,acc++a8l kind p q):=by
   unfold a6X a6W;rw [hw1,hi1,hi2,e1,e2];simp only [a0b,e4H];rw [show IntKind.wrap .i64 ((q.cell 0).toI-(p.cell 0).toI)=sec q-sec p from wr3 hp hq];rw [show a1q N false kind (kind==1) (p.cell 1).toI (p.cell 2).toI (p.cell 3).toI (p.cell 4).toI (p.cell 5).toI (p.cell 6).toI (q.cell 1).toI (q.cell 2).toI (q.cell 3).toI=some (d99 kind p q,decide (4≤kind)) from d3B hN h1 h2 hp hq];simp only [e4M,e4H,getD_some,a4Q];rw [c00 (N:=N) (by omega) (by omega) (sec q-sec p).toNat N 0 acc (by omega) (by omega) (by omega) (by omega)]
   rfl
  simp only [a7O,a94,decide_eq_true hcnd,e4H,a0b,hx,e4M,getD_some,hw2];rw [ih,a14,e4V]
theorem c01 (hN:maxLen<N) {kind:Int} (h1:1≤kind) (h2:kind≤5) {xs:List D} (hlen:xs.length≤20000):∀(r:List D) (p:D) (i m:Nat) (nl:Bool) (acc:List D),xs.drop i=p::r→b2f (p::r)→r.length<m→acc.length+(a14 kind (p::r)).length≤4000000→
  a7Q N (R:=Bool×LD) kind xs m ((i:Int)+1) nl acc (fun p=>some p)=some (bif r.isEmpty then nl else false,acc++a14 kind (p::r))
 |_,_,_,0,_,_,_,_,hm,_=>by omega
 | [],p,i,m+1,nl,acc,hd,_,_,_=>by
  obtain ⟨_,_,_,hl⟩:=a4y hd;have:¬((i:Int)+1<(xs.length:Int)):=by simp at hl;omega
  simp only [a7Q,a97,decide_eq_false this,e4I,a14,List.append_nil];rfl
 | q::r,p,i,m+1,nl,acc,hd,hc,hm,hb=>by
  obtain ⟨b1,b2,b3,b4⟩:=a4y hd;obtain ⟨c1,c2,_,_⟩:=a4y b3;have hM:maxLen=9223372036854775807:=rfl;have hp:=hc.ok p (by simp)
  have hq:=hc.ok q (by simp)
  have hlt:sec p<sec q:=(List.pairwise_cons.1 hc.asc).1 q (by simp)
  have a1:=hp.lo;have a2:=hq.hi;have hw1:IntKind.wrap .i64 ((i:Int)+1-1)=i:=a0H (by omega) (by omega)|>.trans (by omega)
  have hw2:IntKind.wrap .i64 ((i:Int)+1+1)=((i+1:Nat):Int)+1:=a0H (by omega) (by omega)|>.trans (by omega)
  have hi1:inB (i:Int) xs.length=true:=a0M (by omega) (by omega)
  have hi2:inB ((i:Int)+1) xs.length=true:=a0M (by omega) (by omega)
  have e1:xs.getD ((i:Int)).toNat (.i 0)=p:=by rw [Int.toNat_natCast];exact b2
  have e2:xs.getD ((i:Int)+1).toNat (.i 0)=q:=by rw [show ((i:Int)+1).toNat=i+1 by omega];exact c2
  have hcnd:(i:Int)+1<(xs.length:Int):=by simp at b4;omega
  have hrl:(a14 kind (p::q::r)).length=(a8l kind p q).length+(a14 kind (q::r)).length:=by simp only [a14,e4T]
  have hsl:(a8l kind p q).length=(sec q-sec p).toNat:=by unfold a8l;exact b0h
  have hne:(a8l kind p q).isEmpty=false:=by
   cases hs:a8l kind p q with
   |nil=>rw [hs] at hsl;simp at hsl;omega
   |cons=>rfl
  have ih:=c01 hN h1 h2 hlen r q (i+1) m false (acc++a8l kind p q) b3 hc.tail (by simp at hm;omega) (by rw [e4T];omega)
  have hg:d2j N (p.cell 0).toI (p.cell 1).toI (p.cell 2).toI (p.cell 3).toI (p.cell 4).toI (p.cell 5).toI (p.cell 6).toI (q.cell 0).toI (q.cell 1).toI (q.cell 2).toI (q.cell 3).toI kind=some (false,a8l kind p q):=d3C hN h1 h2 hp hq hlt;have hr:=b5u (n:=acc.length+(a8l kind p q).length) (by omega)
  simp only [a7Q,a97,decide_eq_true hcnd,e4H,a0b,hw1,hi1,hi2,e1,e2,hg,e4M,getD_some,hw2,hr,hne,Bool.false_and];rw [ih,a14,e4V];cases r.isEmpty<;>rfl
theorem a00 (hN:maxLen<N) {kind:Int} (h1:1≤kind) (h2:kind≤5) {xs:List D} (hlen:xs.length≤20000) (hc:b2f xs) (h0:xs≠[]→sec (xs.getD 0 (.i 0))=0):
  c0D N xs kind=some (false,a14 kind xs)∧((a14 kind xs).length:Int)=a1w xs∧0≤a1w xs∧a1w xs≤1000000:=by
 have hM:maxLen=9223372036854775807:=rfl;have hspan:((a14 kind xs).length:Int)=a1w xs∧0≤a1w xs∧a1w xs≤1000000:=by
  cases xs with
  |nil=>exact ⟨rfl,by decide,by decide⟩
  | cons p r=>
   have e0:sec p=0:=h0 (by simp)
   have e1:a1w (p::r)=sec ((p::r).getLast (by simp)):=by
    unfold a1w;rw [decide_eq_true (by simp),e4H,List.getLast_eq_getElem]
    rw [e4L,e4R (by simp),Option.getD_some]
    simp only [e4U];congr 3
    omega
   have hl:=c5a (kind:=kind) r p hc.asc;have hx:=hc.ok ((p::r).getLast (by simp)) (List.getLast_mem _)
   refine ⟨by rw [hl,e1,e0];omega,by rw [e1];exact hx.lo,by rw [e1];exact hx.hi⟩
 refine ⟨?_,hspan⟩;obtain ⟨s1,s2,s3⟩:=hspan;have hsp:b5Q N xs=some (a1w xs):=b3M (by omega)
 have hr:=b5u (n:=(a1w xs).toNat) (by omega)
 have hloop:b75 N xs kind 1 false []=some (false,a14 kind xs):=by
  unfold b75;cases xs with
  |nil=>
   obtain ⟨M,rfl⟩:∃M,N=M+1:=⟨N-1,by omega⟩
   rfl
  |cons p r=>exact b6B hN h1 h2 hlen r p 0 N [] rfl hc (by simp at hlen;omega) (by simp at s1⊢;omega)
 unfold c0D d2c a26 a2o c4D c0C;rw [hsp];simp only [a0b,e4M,e4H,getD_some,decide_eq_true s2,hr,Bool.true_and,hloop]
theorem a4f (hN:maxLen<N) {kind:Int} (h1:1≤kind) (h2:kind≤5) {xs:List D} (hlen:xs.length≤20000) (hc:b2f xs) (h0:xs≠[]→sec (xs.getD 0 (.i 0))=0) {name:List UInt8} {sport start:Int} {laps tags:List D} (hchk:b7T N name sport start xs laps tags=some 0):
  ∃nl,b5R N name sport start xs laps tags kind=some (nl,a14 kind xs,0):=by
 have hM:maxLen=9223372036854775807:=rfl;obtain ⟨s0,s1,s2,s3⟩:=a00 hN h1 h2 hlen hc h0;have hloop:∃nl,b8a N kind xs 1 true []=some (nl,a14 kind xs):=by
  unfold b8a;cases xs with
  |nil=>
   obtain ⟨M,rfl⟩:∃M,N=M+1:=⟨N-1,by omega⟩
   exact ⟨true,rfl⟩
  |cons p r=>exact ⟨_,c01 hN h1 h2 hlen r p 0 N true [] rfl hc (by simp at hlen;omega) (by simp at s1⊢;omega)⟩
 obtain ⟨nl,hl⟩:=hloop;refine ⟨nl,?_⟩;unfold b5R d2k;rw [hchk];simp only [a0b,e4M,e4H,getD_some,decide_eq_false (by omega:¬kind<1),decide_eq_false (by omega:¬kind>5),e4I,hl]
 rfl
end Go.Proofs.YtajladplkpfaiaaGreat
namespace Go.Proofs.YtajladplkpfaiaaGreat
open Go Go.AM
variable {N:Nat}
theorem b6C {xs:List D} (hl:xs.length≤8000000):∀(d m:Nat) (w a b:Int),d<m→0≤w→w+d=xs.length→
  ∃r,b0X N (R:=Int×Int) xs xs.length m a b w (fun p=>some p)=some r∧b00 N (R:=Int×Int) xs xs.length m a b w (fun p=>some p)=some r
 |d,0,w,a,b,hm,_,_=>by omega
 |0,m+1,w,a,b,hm,h0,h1=>by
  have:¬w<(xs.length:Int):=by omega
  refine ⟨(a,b),?_,?_⟩
  ·simp only [b0X,b46,decide_eq_false this,e4I]
  ·simp only [b00,b49,decide_eq_false this,e4I]
 | d+1,m+1,w,a,b,hm,h0,h1=>by
  have hlt:w<(xs.length:Int):=by omega
  have hi:inB w xs.length=true:=a0M h0 (by omega)
  have hw:IntKind.wrap .i64 (w+1)=w+1:=a0H (by omega) (by omega)
  obtain ⟨r,e1,e2⟩:=b6C hl d m (w+1) (b78 N a b (xs.getD w.toNat (.i 0)).toI (decide ((xs.getD w.toNat (.i 0)).toI≥0))).1 (b78 N a b (xs.getD w.toNat (.i 0)).toI (decide ((xs.getD w.toNat (.i 0)).toI≥0))).2 (by omega) (by omega) (by omega)
  refine ⟨r,?_,?_⟩
  ·simp only [b0X,b46,decide_eq_true hlt,e4H,hi,a0b,hw]
   exact e1
  ·simp only [b00,b49,decide_eq_true hlt,e4H,hi,a0b,hw]
   exact e2
theorem b0i (hN:maxLen<N) {xs:List D} (hl:xs.length≤8000000):∃r,c2a N xs=some r∧c2c N xs=some r:=by
 have hM:maxLen=9223372036854775807:=rfl;obtain ⟨r,e1,e2⟩:=b6C (N:=N) hl xs.length N 0 0 0 (by omega) (by omega) (by omega)
 refine ⟨r,?_,?_⟩
 ·unfold c2a d2e c8O;rw [e1];rfl
 ·unfold c2c d2n c8S;rw [e2];rfl
theorem e0c (hN:maxLen<N) {a b c d e:List D} {n:Int} (h0:0≤n) (hn:n≤1000000) (ha:(a.length:Int)=n) (hb:(b.length:Int)=n) (hc:(c.length:Int)=n) (hd:(d.length:Int)=n) (he:(e.length:Int)=n):
  ∃r,d73 N a b c d e 0 n=some r∧d8s N a b c d e 0 n=some r:=by
 have hk:∀l:List D,(l.length:Int)=n→((l.take n.toNat).drop (0:Int).toNat).length≤8000000:=by intro l hl;simp;omega
 obtain ⟨ra,a1,a2⟩:=b0i hN (hk a ha);obtain ⟨rb,b1,b2⟩:=b0i hN (hk b hb);obtain ⟨rc,c1,c2⟩:=b0i hN (hk c hc);obtain ⟨rd,d1,d2⟩:=b0i hN (hk d hd);obtain ⟨re,e1,e2⟩:=b0i hN (hk e he);have cd:∀l:List D,(l.length:Int)=n→(((decide ((0:Int)≤0))&&(decide (0≤n)))&&(decide (n≤(l.length:Int))))=true:=by
  intro l hl;rw [decide_eq_true h0,decide_eq_true (by omega:n≤(l.length:Int))];rfl
 refine ⟨(rd.1,re.1,ra.1,rb.1,rc.1,ra.2,rb.2,rc.2),?_,?_⟩
 ·unfold d73 d2f
  simp only [cd a ha,cd b hb,cd c hc,cd d hd,cd e he,e4H,a1,b1,c1,d1,e1,a0b,e4M,getD_some]
 ·unfold d8s d2o
  simp only [cd a ha,cd b hb,cd c hc,cd d hd,cd e he,e4H,a2,b2,c2,d2,e2,a0b,e4M,getD_some]
section
variable {name:List UInt8} {sport start:Int} {smps laps tags:List D}
theorem e0d (hst0:0≤start) (hst:start≤86399999999) (h:a0i (b1T start smps) 0 smps=0):b2f smps∧(smps≠[]→sec (smps.getD 0 (.i 0))=0):=by
 have hz:∀(l:List D) (w:Int),a0i (b1T start smps) w l=0→ ∀i:Nat,i<l.length→b1T start smps (w+i)=0:=by
  intro l;induction l with
  |nil=>intro w _ i hi;simp at hi
  | cons x r ih=>
   intro w h i hi;simp only [a0i] at h;have hw:b1T start smps w=0:=by
    by_cases hx:b1T start smps w=0
    ·exact hx
    ·have:(b1T start smps w !=0)=true:=by simpa using hx
     rw [this,e4H] at h;exact h
   rw [hw] at h;have h:a0i (b1T start smps) (w+1) r=0:=h;cases i with
   |zero=>simpa using hw
   |succ i=>
    have:=ih (w+1) h i (by simpa using hi)
    rwa [show w+1+(i:Int)=w+((i+1:Nat):Int) by omega] at this
 have hw:∀i:Nat,i<smps.length→b8G smps i=false∧c4U start (smps.getD i (.i 0))=false∧c6s (smps.getD i (.i 0))=true:=by
  intro i hi;have:=hz smps 0 h i hi;rw [Int.zero_add] at this;unfold b1T at this;rw [Int.toNat_natCast] at this;cases h1:b8G smps (i:Int) with
  |true=>rw [h1] at this;cases this
  | false=>
   rw [h1] at this;simp only [e4I] at this;cases h2:c4U start (smps.getD i (.i 0)) with
   |true=>rw [h2] at this;cases this
   |false=>
    rw [h2] at this;cases h3:c6s (smps.getD i (.i 0)) with
    |true=>exact ⟨rfl,rfl,rfl⟩
    |false=>rw [h3] at this;cases this
 have gd:∀{i:Nat} (hi:i<smps.length),smps.getD i (.i 0)=smps[i]:=fun hi=>by rw [e4L,e4R hi];rfl
 have hfirst:smps≠[]→sec (smps.getD 0 (.i 0))=0:=by
  intro hne;have:=(hw 0 (by cases smps with|nil=>exact absurd rfl hne|cons=>simp)).1
  unfold b8G at this;simpa using this
 have hord:∀i:Nat,i+1<smps.length→sec (smps.getD i (.i 0))<sec (smps.getD (i+1) (.i 0)):=by
  intro i hi;have:=(hw (i+1) hi).1;unfold b8G at this;have e0:(((i+1:Nat):Int)==0)=false:=by simp;omega
  rw [e0] at this;simp only [e4I,decide_eq_false_iff_not] at this;have e1:(((i+1:Nat):Int)-1).toNat=i:=by omega
  rw [e1,Int.toNat_natCast] at this;unfold sec;omega
 have hlt:∀k i:Nat,i+1+k<smps.length→sec (smps.getD i (.i 0))<sec (smps.getD (i+1+k) (.i 0)):=by
  intro k;induction k with
  |zero=>intro i hi;exact hord i hi
  |succ k ih=>
   intro i hi;have h1:=ih i (by omega)
   have h2:=hord (i+1+k) (by omega)
   rw [show i+1+(k+1)=i+1+k+1 by omega]
   omega
 have hasc:Asc smps:=by
  unfold Asc;rw [List.pairwise_iff_getElem];intro i j hi hj hij;obtain ⟨k,rfl⟩:∃k,j=i+1+k:=⟨j-i-1,by omega⟩
  have:=hlt k i hj
  rwa [gd hi,gd hj] at this
 refine ⟨⟨hasc,fun x hx=> ?_⟩,hfirst⟩
 obtain ⟨i,hi,rfl⟩:=List.getElem_of_mem hx;have hlo:0≤sec (smps.getD i (.i 0)):=by
  have hf:=hfirst (by intro e;rw [e] at hi;simp at hi)
  rcases Nat.eq_zero_or_pos i with rfl|hp
  ·omega
  ·have:=hlt (i-1) 0 (by omega)
   rw [show 0+1+(i-1)=i by omega] at this
   omega
 obtain ⟨_,h2,h3⟩:=hw i hi;rw [←gd hi];unfold c4U at h2;simp only [Bool.or_eq_false_iff,decide_eq_false_iff_not] at h2;unfold c6s at h3;simp only [e4F,inI,decide_eq_true_eq] at h3;exact ⟨hlo,by unfold sec;omega,h3.1.1.1.1.1,h3.1.1.1.1.2⟩
theorem d3D (hN:maxLen<N) (hlen:smps.length≤20000) (hc:b2f smps) (h0:smps≠[]→sec (smps.getD 0 (.i 0))=0):d7X N smps=some (false,a14 1 smps,false,a14 2 smps,false,a14 3 smps,false,a14 4 smps,false,a14 5 smps):=by
 unfold d7X d2d;simp only [(a00 hN (by decide:(1:Int)≤1) (by decide) hlen hc h0).1,(a00 hN (by decide:(1:Int)≤2) (by decide) hlen hc h0).1,(a00 hN (by decide:(1:Int)≤3) (by decide) hlen hc h0).1,(a00 hN (by decide:(1:Int)≤4) (by decide) hlen hc h0).1,(a00 hN (by decide:(1:Int)≤5) (by decide) hlen hc h0).1,a0b,e4M,e4H,getD_some]
theorem d3E (hN:maxLen<N) (hlen:smps.length≤20000) (hc:b2f smps) (h0:smps≠[]→sec (smps.getD 0 (.i 0))=0) (hchk:b7T N name sport start smps laps tags=some 0):
  ∃a b c d e,d8m N name sport start smps laps tags=some (a,a14 1 smps,b,a14 2 smps,c,a14 3 smps,d,a14 4 smps,e,a14 5 smps):=by
 obtain ⟨a,ha⟩:=a4f hN (by decide:(1:Int)≤1) (by decide) hlen hc h0 hchk
 obtain ⟨b,hb⟩:=a4f hN (by decide:(1:Int)≤2) (by decide) hlen hc h0 hchk
 obtain ⟨c,hc'⟩:=a4f hN (by decide:(1:Int)≤3) (by decide) hlen hc h0 hchk
 obtain ⟨d,hd⟩:=a4f hN (by decide:(1:Int)≤4) (by decide) hlen hc h0 hchk
 obtain ⟨e,he⟩:=a4f hN (by decide:(1:Int)≤5) (by decide) hlen hc h0 hchk
 refine ⟨a,b,c,d,e,?_⟩;unfold d8m d2l;simp only [ha,hb,hc',hd,he,a0b,e4M,e4H,getD_some]
theorem c9s (hN:maxLen<N) (hlen:smps.length≤20000) (hc:b2f smps) (h0:smps≠[]→sec (smps.getD 0 (.i 0))=0) (hchk1:c1Z N name sport start smps laps tags=some 0) (hchk:b7T N name sport start smps laps tags=some 0):
  ∃r:Ty4,c8P N name sport start smps laps tags 0 (a1w smps)=some r∧c8T N name sport start smps laps tags 0 (a1w smps)=some r:=by
 have hM:maxLen=9223372036854775807:=rfl;obtain ⟨_,l1,s0,s1⟩:=a00 hN (by decide:(1:Int)≤1) (by decide) hlen hc h0
 obtain ⟨_,l2,_,_⟩:=a00 hN (by decide:(1:Int)≤2) (by decide) hlen hc h0
 obtain ⟨_,l3,_,_⟩:=a00 hN (by decide:(1:Int)≤3) (by decide) hlen hc h0
 obtain ⟨_,l4,_,_⟩:=a00 hN (by decide:(1:Int)≤4) (by decide) hlen hc h0
 obtain ⟨_,l5,_,_⟩:=a00 hN (by decide:(1:Int)≤5) (by decide) hlen hc h0
 obtain ⟨r,r1,r2⟩:=e0c hN s0 s1 l1 l2 l3 l4 l5;obtain ⟨a,b,c,d,e,hst⟩:=d3E hN hlen hc h0 hchk;have hsp:b5Q N smps=some (a1w smps):=b3M (by omega)
 have hsp':c0s N smps=some (a1w smps):=b8H (by omega)
 have c1:decide ((0:Int)>a1w smps)=false:=decide_eq_false (by omega)
 have c2:decide (a1w smps>a1w smps)=false:=decide_eq_false (by omega)
 have g1:b79 N 0 (a1w smps) smps=some false:=by
  unfold b79 b3l;rw [hsp,c1];simp only [a0b,e4M,e4H,getD_some,c2];rfl
 have g2:b8c N 0 (a1w smps) smps=some false:=by
  unfold b8c b3q;rw [hsp',c1];simp only [a0b,e4M,e4H,getD_some,c2];rfl
 refine ⟨(0,a1w smps,r.1,r.2.1,r.2.2.1,r.2.2.2.1,r.2.2.2.2.1,r.2.2.2.2.2.1,r.2.2.2.2.2.2.1,r.2.2.2.2.2.2.2,0),?_,?_⟩
 ·unfold c8P d2g
  rw [hchk1];simp only [a0b,e4M,e4H,getD_some,g1,e4I,d3D hN hlen hc h0,r1];rfl
 ·unfold c8T d2p
  rw [hchk];simp only [a0b,e4M,e4H,getD_some,g2,e4I,hst,r2];rfl
end
end Go.Proofs.YtajladplkpfaiaaGreat
namespace Go.Proofs.YtajladplkpfaiaaGreat
open Go Go.AM
variable {N:Nat} {xs l:List D} {lv:Int}
def a15 (xs:List D) (lv:Int) (l:List D):Int:=bif c2s xs !=0 then c2s xs else bif !inI lv 0 3 then 9 else bif decide ((l.length:Int)>2000) then 3 else a0i (fun w=>c2K (l.getD w.toNat (.i 0))) 0 l
theorem d3F (hN:maxLen<N) (hv:a4R xs) (hl:l.length≤maxLen) (ha:∀a∈l,a4w a):d6d N xs lv l=some (a15 xs lv l):=by
 unfold d6d d0P;rw [c47 hN hv (Nat.zero_le _) (by simp),c47 hN hv hl ha]
 simp only [a0b,e4M,e4H,getD_some];unfold a15 a61;cases h1:c2s xs !=0 with
 |true=>simp only [e4H,h1]
 | false=>
  simp only [e4I];cases h2: !inI lv 0 3 with
  |true=>rfl
  |false=>
   simp only [e4I,a0i];cases h3:decide ((l.length:Int)>2000)<;>rfl
theorem c2L (hN:maxLen<N) (hv:a4R xs) (ha:∀a∈l,a4w a):c17 N xs lv true l=some (a15 xs lv l):=by
 by_cases h:l.length≤2000
 ·rw [d3x hN hv h ha]
  unfold a15 a61;rw [decide_eq_false (by omega:¬(l.length:Int)>2000)]
  rfl
 ·unfold c17 c8y
  rw [c4W hN hv];simp only [a0b,e4M,e4H,getD_some,a38,decide_eq_true (by omega:(l.length:Int)>2000)]
  unfold a15;rw [decide_eq_true (by omega:(l.length:Int)>2000)]
  cases h1:c2s xs !=0 with
  |true=>simp only [e4H]
  |false=>
   simp only [e4I];cases h2: !inI lv 0 3<;>rfl
theorem a3J (h:a15 xs lv l=0):l.length≤2000∧a61 xs lv l=0:=by
 unfold a15 at h;unfold a61;cases h1:c2s xs !=0 with
 |true=>
  rw [h1] at h;simp only [e4H] at h;rw [h] at h1;cases h1
 | false=>
  rw [h1] at h;simp only [e4I] at h⊢;cases h2: !inI lv 0 3 with
  |true=>rw [h2] at h;cases h
  | false=>
   rw [h2] at h;simp only [e4I] at h⊢;by_cases h3:(l.length:Int)>2000
   ·rw [decide_eq_true h3] at h;cases h
   ·rw [decide_eq_false h3] at h
    exact ⟨by omega,h⟩
theorem a4z (h:a61 xs lv l=0) (hn:∀a∈l,aTn a=true→a27 a=[]):∀a∈l,d4F a:=fun a ha=>⟨c0R ((a4x h).2.2 a ha),hn a ha⟩
def a8m (xs:List D) (lv:Int) (l:List D):List D:=l.flatMap fun x=>a4Z (a13 xs lv) (aTn x) x
def b1e (xs:List D) (lv:Int) (l:List D):List D:=l.flatMap fun x=>a4Z (a13 xs lv) false x
theorem b1X (hN:maxLen<N) (hv:a2q xs) (hll:l.length≤2000) (ha:∀a∈l,d4F a):∀(r:List D) (w m:Nat) (nl:Bool) (acc:List D),l.drop w=r→r.length<m→acc.length+20000*r.length≤40000000→
  ∃b,a8X N (R:=Bool×LD) lv l l.length xs m w nl acc (fun p=>some p)=some (b,acc++r.flatMap fun x=>a4Z (a13 xs lv) false x)
 |_,_,0,_,_,_,hm,_=>by omega
 | [],w,m+1,nl,acc,hd,_,_=>by
  have hl:=congrArg List.length hd;rw [List.length_drop] at hl;have:¬((w:Int)<(l.length:Int)):=by simp at hl;omega
  refine ⟨nl,?_⟩;simp only [a8X,b42,decide_eq_false this,e4I,List.flatMap_nil,List.append_nil]
 | a::r,w,m+1,nl,acc,hd,hm,hb=>by
  obtain ⟨b1,b2,b3,b4⟩:=a4y hd;have hM:maxLen=9223372036854775807:=rfl;have hg:=ha a (by rw [←b2,e4L,e4R b1];exact List.getElem_mem b1)
  have hcnd:(w:Int)<(l.length:Int):=by omega
  have hi:inB (w:Int) l.length=true:=a0M (by omega) (by omega)
  have e1:l.getD ((w:Int)).toNat (.i 0)=a:=by rw [Int.toNat_natCast];exact b2
  have hw:IntKind.wrap .i64 ((w:Int)+1)=((w+1:Nat):Int):=(a0H (by omega) (by omega)).trans (by omega)
  have hsl:=b5s (rs:=a13 xs lv) (tn:=false) hg;simp only [e4U] at hb hm;obtain ⟨z,hz⟩:=d3w (N:=N) (lv:=lv) (name:=a6m a) (sport:=a3V a) hN hv hg.r;have hz:d10 N xs lv (a.cell 0).toS (a.cell 1).toI (a.cell 2).toI (a.cell 3).items (a.cell 4).items (a.cell 5).items=some (z,a4Z (a13 xs lv) false a):=hz;obtain ⟨b,ih⟩:=b1X hN hv hll ha r (w+1) m ((a4Z (a13 xs lv) false a).isEmpty&&nl) (acc++a4Z (a13 xs lv) false a) b3 (by omega) (by rw [e4T];omega)
  have hr:(decide ((acc.length+(a4Z (a13 xs lv) false a).length)*104≤a1K)&&decide (acc.length+(a4Z (a13 xs lv) false a).length≤a0g))=true:=by
   have e1:a1K=140737488355328:=rfl;have e2:a0g=9223372036854775807:=rfl;rw [decide_eq_true (by omega),decide_eq_true (by omega)];rfl
  refine ⟨b,?_⟩;simp only [a8X,b42,decide_eq_true hcnd,e4H,a0b,hi,e1,hz,e4M,getD_some,hw,hr];rw [ih,List.flatMap_cons,e4V]
theorem c2M (hN:maxLen<N) (hv:a2q xs) (hll:l.length≤2000) (ha:∀a∈l,d4F a):∃b,c8J N xs lv l=some (b,b1e xs lv l):=by
 have hM:maxLen=9223372036854775807:=rfl;obtain ⟨b,e⟩:=b1X hN hv hll ha l 0 N true [] rfl (by omega) (by simp;omega)
 have e:a8X N (R:=Bool×LD) lv l l.length xs N 0 true [] (fun p=>some p)=some (b,[]++b1e xs lv l):=e
 refine ⟨b,?_⟩;unfold c8J d11 c8I;rw [e];rfl
theorem a86 (hN:maxLen<N) (hv:a4R xs) (hl:l.length≤maxLen) (ha:∀a∈l,a4w a) (hn:∀a∈l,aTn a=true→a27 a=[]):
  ∃b,e1u N xs lv l=some (b,(bif a15 xs lv l !=0 then [] else a8m xs lv l),a15 xs lv l):=by
 unfold e1u e2P;rw [d3F hN hv hl ha];simp only [a0b,e4M,e4H,getD_some];cases h:a15 xs lv l !=0 with
 |true=>exact ⟨true,rfl⟩
 |false=>
  have h0:a15 xs lv l=0:=by simpa using h
  obtain ⟨q1,q2⟩:=a3J h0;obtain ⟨b,e⟩:=d3v (N:=N) (lv:=lv) hN (a4x q2).1 q1 (a4z q2 hn);rw [e,h0];exact ⟨b,rfl⟩
theorem c6C (hN:maxLen<N) (hv:a4R xs) (ha:∀a∈l,a4w a) (hn:∀a∈l,aTn a=true→a27 a=[]):
  ∃b,e3z N xs lv l=some (b,(bif a15 xs lv l !=0 then [] else b1e xs lv l),a15 xs lv l):=by
 unfold e3z e2Q;rw [c2L hN hv ha];simp only [a0b,e4M,e4H,getD_some];cases h:a15 xs lv l !=0 with
 |true=>exact ⟨true,rfl⟩
 |false=>
  have h0:a15 xs lv l=0:=by simpa using h
  obtain ⟨q1,q2⟩:=a3J h0;obtain ⟨b,e⟩:=c2M (N:=N) (lv:=lv) hN (a4x q2).1 q1 (a4z q2 hn);rw [e,h0];exact ⟨b,rfl⟩
end Go.Proofs.YtajladplkpfaiaaGreat
namespace Go.Proofs.YtajladplkpfaiaaGreat
open Go Go.AM
variable {N:Nat}
abbrev a5B (s:D):Int:=(s.cell 0).toI
structure d3G (start:Int) (s:D):Prop where
 lo:0≤a5B s
 hi:a5B s≤1000000
 far:start+a5B s≤86399999999
 rng:c6s s=true
def e0M (l:List D):Prop:=l.Pairwise fun a b=>a5B a<a5B b
def e0e (a b:D):Prop:=(a.cell 0).toI<(a.cell 1).toI∧(a.cell 1).toI≤(b.cell 0).toI∧(b.cell 0).toI<(b.cell 1).toI
theorem a19 {l:List D} {i:Nat} (h:i<l.length):l.getD i (.i 0)=l[i]:=by
 rw [e4L,e4R h];rfl
theorem b5v {R:D→D→Prop} (tr:∀a b c,R a b→R b c→R a c) {l:List D} (h:∀i,i+1<l.length→R (l.getD i (.i 0)) (l.getD (i+1) (.i 0))):l.Pairwise R:=by
 rw [List.pairwise_iff_getElem];have hk:∀k i,i+1+k<l.length→R (l.getD i (.i 0)) (l.getD (i+1+k) (.i 0)):=by
  intro k;induction k with
  |zero=>intro i hi;exact h i hi
  |succ k ih=>
   intro i hi;exact tr _ _ _ (ih i (by omega)) (h (i+1+k) (by omega))
 intro i j hi hj hij;obtain ⟨k,rfl⟩:∃k,j=i+1+k:=⟨j-i-1,by omega⟩
 have:=hk k i hj
 rwa [a19 hi,a19 hj] at this
theorem a3K {R:D→D→Prop} {l:List D} (h:l.Pairwise R) {i j:Nat} (hij:i<j) (hj:j<l.length):R (l.getD i (.i 0)) (l.getD j (.i 0)):=by
 rw [a19 hj,a19 (by omega:i<l.length)]
 exact List.pairwise_iff_getElem.1 h i j _ hj hij
theorem b5w {e:Int→Int}:∀{l:List D} {w:Int},(∀i:Nat,i<l.length→e (w+i)=0)→a0i e w l=0
 | [],_,_=>rfl
 |_::r,w,h=>by
  have h0:=h 0 (by simp)
  simp only [Int.natCast_zero,Int.add_zero] at h0;simp only [a0i,h0];refine b5w (l:=r) fun i hi=> ?_
  have:=h (i+1) (by simp;omega)
  rwa [show w+((i+1:Nat):Int)=w+1+i by omega] at this
theorem b8T {n:Int} (h0: -9000000000000000000≤n) (h1:n≤9000000000000000000):wr n=n:=a0H (by omega) (by omega)
theorem c9t {n:Int} (h0: -9000000000000000000≤n) (h1:n≤9000000000000000000):IntKind.wrap .i64 n=n:=a0H (by omega) (by omega)
section
variable {name:List UInt8} {sport start:Int} {smps laps tags l:List D}
structure e4l (name:List UInt8) (sport start:Int) (smps laps tags:List D):Prop where
 n:a8k name=true
 sp:inI sport 1 5=true
 st0:0≤start
 st1:start≤86399999999
 s:smps.length≤20000
 l:laps.length≤200
 t:tags.length≤20
 asc:e0M smps
 ok:∀s∈smps,d3G start s
 lo:∀x∈laps,(x.cell 0).toI<(x.cell 1).toI∧a6k (x.cell 2).toS=true
 lp:laps.Pairwise e0e
 tg:a0i (c9b tags) 0 tags=0
theorem d3H (h0:0≤start) (h:a0i (b1T start smps) 0 smps=0) (hst:start≤86399999999):e0M smps∧ ∀s∈smps,d3G start s:=by
 have hz:=a2p h;have hw:∀i:Nat,i<smps.length→b8G smps i=false∧c4U start (smps.getD i (.i 0))=false∧c6s (smps.getD i (.i 0))=true:=by
  intro i hi;have:=hz i hi;rw [Int.zero_add] at this;unfold b1T at this;obtain ⟨q1,q2⟩:=b1W this (by decide)
  obtain ⟨q3,_⟩:=b1W q2 (by decide)
  simp only [Bool.or_eq_false_iff] at q3;exact ⟨q1,by simpa using q3⟩
 have hord:∀i:Nat,i+1<smps.length→a5B (smps.getD i (.i 0))<a5B (smps.getD (i+1) (.i 0)):=by
  intro i hi;have:=(hw (i+1) hi).1;unfold b8G at this;have e0:(((i+1:Nat):Int)==0)=false:=by simp;omega
  rw [e0] at this;simp only [e4I,decide_eq_false_iff_not] at this;have e1:(((i+1:Nat):Int)-1).toNat=i:=by omega
  rw [e1,Int.toNat_natCast] at this;unfold a5B;omega
 have hasc:e0M smps:=b5v (fun a b c h1 h2=>by omega) hord
 refine ⟨hasc,fun x hx=> ?_⟩
 obtain ⟨i,hi,rfl⟩:=List.getElem_of_mem hx;have hlo:0≤a5B (smps.getD i (.i 0)):=by
  have hf:a5B (smps.getD 0 (.i 0))=0:=by
   have:=(hw 0 (by omega)).1
   unfold b8G at this;simp at this;simp [a5B,this]
  rcases Nat.eq_zero_or_pos i with rfl|hp
  ·omega
  ·have:=a3K hasc hp hi
   omega
 obtain ⟨_,h2,h3⟩:=hw i hi;rw [←a19 hi];unfold c4U at h2;simp only [Bool.or_eq_false_iff,decide_eq_false_iff_not] at h2;obtain ⟨h2,h4⟩:=h2;have hlo2:0≤((smps.getD i (.i 0)).cell 0).toI:=hlo;rw [c9t (by omega) (by omega)] at h4
 exact ⟨hlo,by unfold a5B;omega,by unfold a5B;omega,h3⟩
theorem e0f (h0:0≤start) (hst:start≤86399999999) (ha:e0M l) (hf:l≠[]→a5B (l.getD 0 (.i 0))=0) (h:∀s∈l,d3G start s):a0i (b1T start l) 0 l=0:=by
 refine b5w fun i hi=> ?_
 rw [Int.zero_add];have hm:l.getD i (.i 0)∈l:=by rw [a19 hi];exact List.getElem_mem _
 have hx:=h _ hm;have q1:=hx.lo;have q2:=hx.hi;have q3:=hx.far;have e1:b8G l i=false:=by
  unfold b8G;rcases Nat.eq_zero_or_pos i with rfl|hp
  ·have:=hf (fun e=>by rw [e] at hi;simp at hi)
   unfold a5B at this;simp only [Int.natCast_zero,Int.toNat_zero,beq_self_eq_true,e4H,this];rfl
  ·have e0:((i:Int)==0)=false:=by simp;omega
   have:=a3K ha (show i-1<i by omega) hi
   have e1:((i:Int)-1).toNat=i-1:=by omega
   rw [e0,e1,Int.toNat_natCast];unfold a5B at this;simp only [e4I,decide_eq_false_iff_not];omega
 have e2:c4U start (l.getD i (.i 0))=false:=by
  unfold c4U;unfold a5B at q1 q2 q3;rw [c9t (by omega) (by omega)]
  simp only [Bool.or_eq_false_iff,decide_eq_false_iff_not];omega
 unfold b1T;rw [e1,Int.toNat_natCast,e2,hx.rng];rfl
theorem e0g {span:Int} (h:a0i (c0E span laps) 0 laps=0):(∀x∈laps,(x.cell 0).toI<(x.cell 1).toI∧a6k (x.cell 2).toS=true)∧laps.Pairwise e0e:=by
 have hz:=a2p h;have hw:∀i:Nat,i<laps.length→d91 span (laps.getD i (.i 0))=false∧c9N laps i=false∧a6k ((laps.getD i (.i 0)).cell 2).toS=true:=by
  intro i hi;have:=hz i hi;rw [Int.zero_add] at this;unfold c0E at this;obtain ⟨q1,q2⟩:=b1W this (by decide)
  obtain ⟨q3,q4⟩:=b1W q2 (by decide)
  rw [Int.toNat_natCast] at q1 q4;refine ⟨q1,q3,?_⟩;cases hb:a6k ((laps.getD i (.i 0)).cell 2).toS with
  |true=>rfl
  |false=>rw [hb] at q4;cases q4
 have hlt:∀i:Nat,i<laps.length→((laps.getD i (.i 0)).cell 0).toI<((laps.getD i (.i 0)).cell 1).toI:=by
  intro i hi;have:=(hw i hi).1;unfold d91 at this;simp only [Bool.or_eq_false_iff,decide_eq_false_iff_not] at this;omega
 refine ⟨fun x hx=> ?_,b5v (fun a b c h1 h2=> ?_) fun i hi=> ?_⟩
 ·obtain ⟨i,hi,rfl⟩:=List.getElem_of_mem hx
  rw [←a19 hi];exact ⟨hlt i hi,(hw i hi).2.2⟩
 ·unfold e0e at h1 h2⊢;omega
 ·have:=(hw (i+1) hi).2.1
  unfold c9N at this;rw [decide_eq_true (by omega:((i+1:Nat):Int)>0)] at this
  have e1:(((i+1:Nat):Int)-1).toNat=i:=by omega
  rw [e1,Int.toNat_natCast] at this;simp only [e4H,decide_eq_false_iff_not] at this;have h1:=hlt i (by omega)
  have h2:=hlt (i+1) hi;unfold e0e;omega
theorem e0h {span:Int} (ho:∀x∈l,0≤(x.cell 0).toI∧(x.cell 1).toI≤span∧(x.cell 0).toI<(x.cell 1).toI∧a6k (x.cell 2).toS=true) (hp:l.Pairwise e0e):a0i (c0E span l) 0 l=0:=by
 refine b5w fun i hi=> ?_
 rw [Int.zero_add];have hm:l.getD i (.i 0)∈l:=by rw [a19 hi];exact List.getElem_mem _
 obtain ⟨h1,h2,h3,h4⟩:=ho _ hm;have e1:d91 span (l.getD i (.i 0))=false:=by
  unfold d91;simp only [Bool.or_eq_false_iff,decide_eq_false_iff_not];omega
 have e2:c9N l i=false:=by
  unfold c9N;rcases Nat.eq_zero_or_pos i with rfl|hp0
  ·rfl
  ·have:=a3K hp (show i-1<i by omega) hi
   have e1:((i:Int)-1).toNat=i-1:=by omega
   rw [e1,Int.toNat_natCast,decide_eq_true (by omega:(i:Int)>0)]
   unfold e0e at this;simp only [e4H,decide_eq_false_iff_not];omega
 unfold c0E;rw [Int.toNat_natCast,e1,e2,h4];rfl
theorem e2v (h:c1d name sport start smps laps tags=0):e4l name sport start smps laps tags:=by
 unfold c1d at h;obtain ⟨h1,h⟩:=b1W h (by decide)
 obtain ⟨h2,h⟩:=b1W h (by decide)
 obtain ⟨h3,h⟩:=b1W h (by decide)
 obtain ⟨h4,h⟩:=b1W h (by decide)
 obtain ⟨h5,h⟩:=c2F h;obtain ⟨h6,h7⟩:=c2F h;simp only [Bool.or_eq_false_iff,decide_eq_false_iff_not] at h4;have hst:=of_decide_eq_true (show inI start 0 86399999999=true by simpa using h3)
 obtain ⟨a1,a2⟩:=d3H hst.1 h5 hst.2;obtain ⟨b1,b2⟩:=e0g h6;exact ⟨by simpa using h1,by simpa using h2,hst.1,hst.2,by omega,by omega,by omega,a1,a2,b1,b2,h7⟩
theorem e2w (hn:a8k name=true) (hsp:inI sport 1 5=true) (h0:0≤start) (h1:start≤86399999999) (hs:smps.length≤20000) (hl:laps.length≤200) (ht:tags.length≤20)
  (h5:a0i (b1T start smps) 0 smps=0) (h6:a0i (c0E (a1w smps) laps) 0 laps=0) (h7:a0i (c9b tags) 0 tags=0):c1d name sport start smps laps tags=0:=by
 unfold c1d;have e3:inI start 0 86399999999=true:=decide_eq_true ⟨h0,h1⟩;rw [hn,hsp,e3,decide_eq_false (by omega:¬(smps.length:Int)>20000),decide_eq_false (by omega:¬(laps.length:Int)>200),decide_eq_false (by omega:¬(tags.length:Int)>20),h5,h6,h7]
 rfl
end
theorem b0j (hid:D→Bool):∀(l p:List D) (b:List D×List (List D)),b.1.Sublist p→(∀r∈b.2,r.Sublist p∧r≠[])→(a5A hid l b).1.Sublist (p++l.map reS)∧ ∀r∈(a5A hid l b).2,r.Sublist (p++l.map reS)∧r≠[]
 | [],p,b,h1,h2=>by simpa [a5A] using ⟨h1,h2⟩
 | s::l,p,b,h1,h2=>by
  rw [a5A,List.map_cons,show p++reS s::l.map reS=(p++[reS s])++l.map reS by simp]
  have up:∀{r:List D},r.Sublist p→r.Sublist (p++[reS s]):=fun h=>h.trans (List.sublist_append_left _ _)
  cases hid s with
  |true=>exact b0j hid l _ b (up h1) fun r hr=>⟨up (h2 r hr).1,(h2 r hr).2⟩
  | false=>
   cases hg:c0S b.1 s with
   |true=>
    refine b0j hid l _ _ (List.sublist_append_right _ _) fun r hr=> ?_
    simp only [e4H,e4I,List.mem_append,List.mem_singleton] at hr;rcases hr with hr|rfl
    ·exact ⟨up (h2 r hr).1,(h2 r hr).2⟩
    ·exact ⟨up h1,fun e=>by have:=b5q hg;rw [e] at this;simp at this⟩
   |false=>exact b0j hid l _ _ (List.Sublist.append h1 (List.Sublist.refl _)) fun r hr=>⟨up (h2 r hr).1,(h2 r hr).2⟩
theorem d3I (hid:D→Bool) (l:List D):∀r∈a28 hid l,r.Sublist (l.map reS)∧r≠[]:=by
 obtain ⟨h1,h2⟩:=b0j hid l [] ([],[]) (List.Sublist.refl _) (fun r hr=>by simp at hr)
 rw [List.nil_append] at h1 h2;intro r hr;unfold a28 c9o at hr;cases hd:decide (((a5A hid l ([],[])).1.length:Int)>0) with
 |true=>
  rw [hd] at hr;simp only [e4H,List.mem_append,List.mem_singleton] at hr;rcases hr with hr|rfl
  ·exact h2 r hr
  ·exact ⟨h1,fun e=>by rw [e] at hd;simp at hd⟩
 |false=>rw [hd] at hr;exact h2 r hr
theorem e4B (a b:Int):eqB Tryz.prog 3 (.i a) (.i b)=(a==b):=by kernel_rfl
theorem c02 {t:Int}:∀{m:List (D×D)} {k v:D},(a2u Tryz.prog 3 (.i t) (c5y Tryz.prog 3 k v m)).isSome=true→eqB Tryz.prog 3 (.i t) k=true∨(a2u Tryz.prog 3 (.i t) m).isSome=true
 | [],k,v,h=>by
  simp only [c5y,a2u] at h;cases he:eqB Tryz.prog 3 (.i t) k with
  |true=>exact .inl rfl
  |false=>rw [he] at h;simp at h
 | (k',v')::r,k,v,h=>by
  simp only [c5y] at h;cases hk:eqB Tryz.prog 3 k k' with
  | true=>
   rw [hk] at h;simp only [e4H,a2u] at h;cases he:eqB Tryz.prog 3 (.i t) k with
   |true=>exact .inl rfl
   |false=>
    rw [he] at h;simp only [e4I] at h;refine .inr ?_;simp only [a2u];cases eqB Tryz.prog 3 (.i t) k' with
    |true=>rfl
    |false=>exact h
  | false=>
   rw [hk] at h;simp only [e4I,a2u] at h;simp only [a2u];cases he:eqB Tryz.prog 3 (.i t) k' with
   |true=>exact .inr rfl
   |false=>
    rw [he] at h;exact c02 h
theorem c5b {t:Int}:∀{l:List D} {m:List (D×D)},(a2u Tryz.prog 3 (.i t) (b6A l m)).isSome=true→(a2u Tryz.prog 3 (.i t) m).isSome=true∨ ∃s∈l,a5B s=t
 | [],m,h=> .inl h
 | s::l,m,h=>by
  rw [b6A] at h;rcases c5b h with h|⟨s',h1,h2⟩
  ·unfold e4b at h
   rcases c02 h with h|h
   ·rw [e4B] at h
    exact .inr ⟨s,by simp,by simpa using Eq.symm (by simpa using h)⟩
   ·exact .inl h
  ·exact .inr ⟨s',by simp [h1],h2⟩
theorem c9u {t:Int} {l:List D} (h:inM (b6A l []) t=true):∃s∈l,a5B s=t:=by
 have:(a2u Tryz.prog 3 (.i t) (b6A l [])).isSome=true:=by
  unfold inM at h;cases hf:a2u Tryz.prog 3 (.i t) (b6A l []) with
  |none=>rw [hf] at h;cases h
  |some v=>rfl
 rcases c5b this with h|h
 ·cases h
 ·exact h
end Go.Proofs.YtajladplkpfaiaaGreat
namespace Go.Proofs.YtajladplkpfaiaaGreat
open Go Go.AM
variable {N:Nat}
theorem d4H {x n:Int} (h1:1≤n) (h2:n≤1000000) (h3: -100000000≤x) (h4:x≤100000000): -100000000≤max2 (c6O x n) (-100000000)∧max2 (c6O x n) (-100000000)≤100000000:=by
 have a1:x.tmod n<n:=Int.tmod_lt_of_pos _ (by omega)
 have a2: -n<x.tmod n:=Int.lt_tmod_of_pos _ (by omega)
 have hl:c6O x n≤x:=by
  unfold c6O;cases hd:decide (x.tmod n<0) with
  |true=>
   have:=of_decide_eq_true hd;simp only [e4H];rw [b8T (n:=x.tmod n+n) (by omega) (by omega),b8T (by omega) (by omega)]
   omega
  |false=>
   have:=of_decide_eq_false hd;simp only [e4I];rw [b8T (by omega) (by omega)]
   omega
 unfold max2;split<;>omega
theorem c9v:∀(gs:List D) (a:Int×Int),(∀g∈gs,1≤g.toI∧g.toI≤1000000)→(-100000000≤a.1∧a.1≤100000000)→(-100000000≤a.2∧a.2≤100000000)→
  (-100000000≤(a6b gs a).1∧(a6b gs a).1≤100000000)∧(-100000000≤(a6b gs a).2∧(a6b gs a).2≤100000000)
 | [],a,_,h1,h2=>⟨h1,h2⟩
 |g::r,a,hg,h1,h2=>by
  obtain ⟨g1,g2⟩:=hg g (by simp)
  exact c9v r _ (fun g' h'=>hg g' (by simp [h'])) (d4H g1 g2 h1.1 h1.2) (d4H g1 g2 h2.1 h2.2)
theorem d3J {rs:List D} (hr:∀r∈rs,a3a r):∀g∈a8f rs,1≤g.toI∧g.toI≤1000000:=by
 intro g hg;unfold a8f at hg;obtain ⟨r,h1,rfl⟩:=List.mem_map.1 hg;obtain ⟨h2,h3⟩:=List.mem_filter.1 h1;exact (hr r h2).2 (by simpa using h3)
theorem d3K {rs:List D} (hr:∀r∈rs,a3a r) {f:Int} {s:D} (h:c6s s=true):c6s (c9P rs f s)=true:=by
 unfold c6s at h;simp only [e4F] at h;obtain ⟨⟨⟨⟨⟨h1,h2⟩,h3⟩,h4⟩,h5⟩,h6⟩:=h;have q1:=of_decide_eq_true h1;have q2:=of_decide_eq_true h2;obtain ⟨g1,g2⟩:=c9v (a8f rs) ((s.cell 1).toI,(s.cell 2).toI) (d3J hr) q1 q2
 show (inI (a6b (a8f rs) ((s.cell 1).toI,(s.cell 2).toI)).1 (-100000000) 100000000&&inI (a6b (a8f rs) ((s.cell 1).toI,(s.cell 2).toI)).2 (-100000000) 100000000&&inI (bif a2e rs 4 then 0 else (s.cell 3).toI) (-100000) 100000&&inI (bif a2e rs 1 then-1 else (s.cell 4).toI) (-1) 300&&inI (bif a2e rs 2 then-1 else (s.cell 5).toI) (-1) 3000&&inI (bif a2e rs 3 then-1 else (s.cell 6).toI) (-1) 300)=true
 rw [show inI (a6b (a8f rs) ((s.cell 1).toI,(s.cell 2).toI)).1 (-100000000) 100000000=true from decide_eq_true g1,show inI (a6b (a8f rs) ((s.cell 1).toI,(s.cell 2).toI)).2 (-100000000) 100000000=true from decide_eq_true g2];cases a2e rs 4<;>cases a2e rs 1<;>cases a2e rs 2<;>cases a2e rs 3<;>simp only [e4H,e4I,h3,h4,h5,h6]<;>rfl
section
variable {rs smps laps tags r:List D} {name:List UInt8} {sport start:Int} {tn:Bool}
theorem c2N (hr:∀r∈rs,a3a r) (hc:e4l name sport start smps laps tags) (hs:r.Sublist (smps.map reS)) (hne:r≠[]):c2K (a2y rs name sport start laps tn tags r)=0:=by
 have hst0:=hc.st0;have hst1:=hc.st1;have hasc:e0M r:=List.Pairwise.sublist hs (by rw [List.pairwise_map];exact hc.asc)
 have hok:∀s∈r,d3G start s:=fun s h=>by
  obtain ⟨s',h1,rfl⟩:=List.mem_map.1 (hs.subset h);exact ⟨(hc.ok s' h1).lo,(hc.ok s' h1).hi,(hc.ok s' h1).far,(hc.ok s' h1).rng⟩
 have hlen:0<r.length:=by cases r with
  |nil=>exact absurd rfl hne
  |cons x t=>simp
 have hm0:r.getD 0 (.i 0)∈r:=by rw [a19 hlen];exact List.getElem_mem _
 have h0:=hok _ hm0;have h0l:=h0.lo;have h0h:=h0.hi;have h0f:=h0.far;have hf:∀s∈r,a5B (r.getD 0 (.i 0))≤a5B s:=fun s h=>by
  obtain ⟨i,hi,rfl⟩:=List.getElem_of_mem h;rcases Nat.eq_zero_or_pos i with rfl|hp
  ·rw [a19 hi];exact Int.le_refl _
  ·have:=a3K hasc hp hi
   rw [a19 hi] at this;omega
 have hla:∀s∈r,a5B s≤a5B (r.getD (r.length-1) (.i 0)):=fun s h=>by
  obtain ⟨i,hi,rfl⟩:=List.getElem_of_mem h;rcases Nat.lt_or_ge i (r.length-1) with hp|hp
  ·have:=a3K hasc hp (by omega)
   rw [a19 hi] at this;omega
  ·have e:i=r.length-1:=by omega
   subst e;rw [a19 hi];exact Int.le_refl _
 have hml:r.getD (r.length-1) (.i 0)∈r:=by rw [a19 (by omega)];exact List.getElem_mem _
 generalize hF:a5B (r.getD 0 (.i 0))=f at*
 have e1:wr (start+f)=start+f:=b8T (by omega) (by omega)
 show c1d (bif kdB rs 7 then b5m else name) sport (bif kdB rs 6 then wr (wr (start+a5B (r.getD 0 (.i 0)))-(wr (start+a5B (r.getD 0 (.i 0)))).tmod 86400) else wr (start+a5B (r.getD 0 (.i 0)))) (r.map (c9P rs (a5B (r.getD 0 (.i 0))))) (a1a (b3O (b6A r [])) (b5n (kdB rs 7) (a5B (r.getD 0 (.i 0)))) laps (true,[])).2 (bif kdB rs 7 then [] else tags)=0
 rw [hF,e1,a4v,List.nil_append];have hst:∃st,(bif kdB rs 6 then wr (start+f-(start+f).tmod 86400) else start+f)=st∧0≤st∧st≤start+f:=by
  cases kdB rs 6 with
  |false=>exact ⟨start+f,rfl,by omega,Int.le_refl _⟩
  |true=>
   have b1:0≤(start+f).tmod 86400:=Int.tmod_nonneg _ (by omega)
   have b2:(start+f).tmod 86400≤start+f:=by rw [Int.tmod_eq_emod_of_nonneg (by omega)];omega
   have b3:=Int.tmod_lt_of_pos (start+f) (show (0:Int)<86400 by omega)
   exact ⟨_,rfl,by simp only [e4H];rw [b8T (by omega) (by omega)];omega,by simp only [e4H];rw [b8T (by omega) (by omega)];omega⟩
 obtain ⟨st,he,st0,st1⟩:=hst;rw [he];have hsec:∀s∈r,a5B (c9P rs f s)=a5B s-f:=fun s h=>by
  show wr (a5B s-f)=a5B s-f;have q1:=(hok s h).lo;have q2:=(hok s h).hi;exact b8T (by omega) (by omega)
 have hle:r.length≤20000:=by
  have:=hs.length_le;rw [List.length_map] at this;exact Nat.le_trans this hc.s
 have hspan:a1w (r.map (c9P rs f))=a5B (r.getD (r.length-1) (.i 0))-f:=by
  unfold a1w;rw [List.length_map,decide_eq_true (by omega:(r.length:Int)>0),show ((r.length:Int)-1).toNat=r.length-1 by omega]
  simp only [e4H];rw [a19 (by rw [List.length_map];omega),List.getElem_map,←a19 (by omega)]
  exact hsec _ hml
 have hin:∀x∈laps.filter (b3O (b6A r [])),(∃s∈r,a5B s=(x.cell 0).toI)∧ ∃s∈r,a5B s=(x.cell 1).toI:=fun x hx=>by
  obtain ⟨_,h2⟩:=List.mem_filter.1 hx;unfold b3O at h2;cases i1:inM (b6A r []) (x.cell 0).toI with
  |false=>rw [i1] at h2;cases h2
  |true=>
   cases i2:inM (b6A r []) (x.cell 1).toI with
   |false=>rw [i1,i2] at h2;cases h2
   |true=>exact ⟨c9u i1,c9u i2⟩
 have hcell:∀x∈laps.filter (b3O (b6A r [])),((b5n (kdB rs 7) f x).cell 0).toI=(x.cell 0).toI-f∧((b5n (kdB rs 7) f x).cell 1).toI=(x.cell 1).toI-f∧f≤(x.cell 0).toI∧(x.cell 1).toI≤a5B (r.getD (r.length-1) (.i 0)):=fun x hx=>by
  obtain ⟨⟨s,m1,q1⟩,⟨s',m2,q2⟩⟩:=hin x hx;have a1:=(hok s m1).lo;have a2:=(hok s m1).hi;have a3:=(hok s' m2).lo;have a4:=(hok s' m2).hi;have a5:=hf s m1;have a6:=hla s' m2;exact ⟨show wr ((x.cell 0).toI-f)=_ from b8T (by omega) (by omega),show wr ((x.cell 1).toI-f)=_ from b8T (by omega) (by omega),by omega,by omega⟩
 refine e2w ?_ hc.sp st0 (by omega) (by rw [List.length_map];exact hle) ?_ ?_ ?_ ?_ ?_
 ·cases kdB rs 7 with
  |true=>show a8k b5m=true;decide
  |false=>exact hc.n
 ·rw [List.length_map]
  exact Nat.le_trans (List.length_filter_le _ _) hc.l
 ·cases kdB rs 7 with
  |true=>simp
  |false=>exact hc.t
 ·refine e0f st0 (by omega) ?_ (fun _=> ?_) fun s h=> ?_
  ·unfold e0M
   rw [List.pairwise_map];refine List.Pairwise.imp_of_mem ?_ hasc;intro a b ha hb hab;rw [hsec a ha,hsec b hb];omega
  ·rw [a19 (by rw [List.length_map];exact hlen),List.getElem_map,←a19 hlen,hsec _ hm0,hF]
   omega
  ·obtain ⟨s',h1,rfl⟩:=List.mem_map.1 h
   have q:=hok s' h1;have q1:=q.lo;have q2:=q.hi;have q3:=q.far;have q4:=hf s' h1;exact ⟨by rw [hsec s' h1];omega,by rw [hsec s' h1];omega,by rw [hsec s' h1];omega,d3K hr q.rng⟩
 ·rw [hspan]
  refine e0h (fun x hx=> ?_) ?_
  ·obtain ⟨x',h1,rfl⟩:=List.mem_map.1 hx
   obtain ⟨c1,c2,c3,c4⟩:=hcell x' h1;obtain ⟨l1,l2⟩:=hc.lo x' (List.mem_filter.1 h1).1;refine ⟨by omega,by omega,by omega,?_⟩
   show a6k (bif kdB rs 7 then [] else (x'.cell 2).toS)=true
   cases kdB rs 7 with
   |true=>show a6k []=true;decide
   |false=>exact l2
  ·rw [List.pairwise_map]
   refine List.Pairwise.imp_of_mem ?_ (List.Pairwise.filter _ hc.lp);intro a b ha hb hab;obtain ⟨c1,c2,_,_⟩:=hcell a ha;obtain ⟨d1,d2,_,_⟩:=hcell b hb;unfold e0e at hab⊢;omega
 ·cases kdB rs 7 with
  |true=>rfl
  |false=>exact hc.tg
end
end Go.Proofs.YtajladplkpfaiaaGreat
namespace Go.Proofs.YtajladplkpfaiaaGreat
open Go Go.AM
variable {N:Nat}
section
variable {xs rs smps laps tags r ys:List D} {name:List UInt8} {sport start lv lv':Int} {tn:Bool}
theorem d3L (h:c2n name smps laps tags) (hl:r.length≤maxLen):a4w (a2y rs name sport start laps tn tags r):=by
 have e:(a1a (b3O (b6A r [])) (b5n (kdB rs 7) (a5B (r.getD 0 (.i 0)))) laps (true,[])).2=(laps.filter (b3O (b6A r []))).map (b5n (kdB rs 7) (a5B (r.getD 0 (.i 0)))):=by rw [a4v,List.nil_append]
 show c2n (bif kdB rs 7 then b5m else name) (r.map (c9P rs (a5B (r.getD 0 (.i 0))))) (a1a (b3O (b6A r [])) (b5n (kdB rs 7) (a5B (r.getD 0 (.i 0)))) laps (true,[])).2 (bif kdB rs 7 then [] else tags)
 rw [e];have hm:maxLen=9223372036854775807:=rfl;refine ⟨?_,by rw [List.length_map];exact hl,?_,?_,fun x hx=> ?_,?_⟩
 ·cases kdB rs 7 with
  |true=>show b5m.length≤maxLen;decide
  |false=>exact h.n
 ·rw [List.length_map];exact Nat.le_trans (List.length_filter_le _ _) h.l
 ·cases kdB rs 7 with
  |true=>exact Nat.zero_le _
  |false=>exact h.t
 ·obtain ⟨x',h1,rfl⟩:=List.mem_map.1 hx
  show (bif kdB rs 7 then [] else (x'.cell 2).toS).length≤maxLen
  cases kdB rs 7 with
  |true=>exact Nat.zero_le _
  |false=>exact h.ln x' (List.mem_filter.1 h1).1
 ·cases kdB rs 7 with
  |true=>intro x hx;simp at hx
  |false=>exact h.tn
end
section
variable {xs:List D} {lv sp st:Int} {nm:List UInt8} {sn ln tn:Bool} {s l t:List D}
end
end Go.Proofs.YtajladplkpfaiaaGreat
namespace Go.Proofs.YtajladplkpfaiaaGreat
open Go Go.AM
variable {N:Nat} {xs l:List D} {lv:Int}
def b8U (x:D):List UInt8×Int×Int×List D×List D×List D:=(a6m x,a3V x,a3W x,a2f x,a6c x,a27 x)
def b5x (x:D):Prop:=c2K x=0∧a4w x
theorem c03 {a:D} {tn:Bool} (hv:a2q xs) (hc:c2K a=0) (ha:a4w a):∀y∈a4Z (a13 xs lv) tn a,b5x y:=by
 have hg:∀r∈a13 xs lv,a3a r:=b5l fun r hr=>b3N (hv.mem hr)
 intro y hy;unfold a4Z at hy;obtain ⟨r,h1,rfl⟩:=List.mem_map.1 hy;obtain ⟨h2,h3⟩:=d3I _ _ r h1;exact ⟨c2N hg (e2v hc) h2 h3,d3L ha (Nat.le_trans (b5t _ _ r h1) ha.s)⟩
theorem c9w {rs:List D} {tn:Bool} {a:D}:(a4Z rs tn a).map b8U=(a4Z rs false a).map b8U:=by
 unfold a4Z;rw [List.map_map,List.map_map];exact List.map_congr_left fun r _=>rfl
theorem c5c {f g:D→List D} (h:∀x,(f x).map b8U=(g x).map b8U):∀l:List D,(l.flatMap f).map b8U=(l.flatMap g).map b8U
 | []=>rfl
 |a::l=>by rw [List.flatMap_cons,List.flatMap_cons,List.map_append,List.map_append,h,c5c h l]
theorem b8V:(a8m xs lv l).map b8U=(b1e xs lv l).map b8U:=c5c (fun x=>c9w) l
theorem b5y (hv:a2q xs) (hc:∀a∈l,c2K a=0) (ha:∀a∈l,a4w a):∀y∈a8m xs lv l,b5x y:=by
 intro y hy;unfold a8m at hy;obtain ⟨a,h1,h2⟩:=List.mem_flatMap.1 hy;exact c03 hv (hc a h1) (ha a h1) y h2
theorem c5d {f:D→List D} (h:∀l':List D,True) {n:Nat}:∀l:List D,(∀x∈l,(f x).length≤n)→(l.flatMap f).length≤n*l.length
 | [],_=>by simp
 |a::l,h'=>by
  rw [List.flatMap_cons,e4T,e4U,Nat.mul_add,Nat.mul_one];have:=h' a (by simp)
  have:=c5d h l fun x hx=>h' x (by simp [hx])
  omega
theorem b8W (hll:l.length≤2000) (ha:∀a∈l,d4F a):(a8m xs lv l).length≤40000000:=by
 have:=c5d (f:=fun x=>a4Z (a13 xs lv) (aTn x) x) (n:=20000) (fun _=>trivial) l fun x hx=>b5s (ha x hx)
 unfold a8m;omega
theorem b6D {x:D} (h:b5x x):(a2f x).length≤20000∧b2f (a2f x)∧(a2f x≠[]→sec ((a2f x).getD 0 (.i 0))=0):=by
 have hc:c1d (a6m x) (a3V x) (a3W x) (a2f x) (a6c x) (a27 x)=0:=h.1;have hr:=c0R h.1;unfold c1d at hc;obtain ⟨h1,hc⟩:=b1W hc (by decide)
 obtain ⟨h2,hc⟩:=b1W hc (by decide)
 obtain ⟨h3,hc⟩:=b1W hc (by decide)
 obtain ⟨h4,hc⟩:=b1W hc (by decide)
 obtain ⟨h5,hc⟩:=c2F hc;have hst:=of_decide_eq_true (show inI (a3W x) 0 86399999999=true by simpa using h3)
 obtain ⟨a1,a2⟩:=e0d hst.1 hst.2 h5;exact ⟨hr.s,a1,a2⟩
theorem c6D (hN:maxLen<N) {x:D} (h:b5x x):b5Q N (a2f x)=some (a1w (a2f x))∧c0s N (a2f x)=some (a1w (a2f x))∧
  ∃r:Ty4,c8P N (a6m x) (a3V x) (a3W x) (a2f x) (a6c x) (a27 x) 0 (a1w (a2f x))=some r∧c8T N (a6m x) (a3V x) (a3W x) (a2f x) (a6c x) (a27 x) 0 (a1w (a2f x))=some r:=by
 have hM:maxLen=9223372036854775807:=rfl;obtain ⟨h1,h2,h3⟩:=b6D h;have hok:c2n (a6m x) (a2f x) (a6c x) (a27 x):=h.2;have hc:c1d (a6m x) (a3V x) (a3W x) (a2f x) (a6c x) (a27 x)=0:=h.1;refine ⟨b3M (by omega),b8H (by omega),c9s hN h1 h2 h3 ?_ ?_⟩
 ·rw [b8I hN hok,hc]
 ·rw [b8J hN hok,hc]
theorem c5e (hN:maxLen<N) {A B:List D} (hA:A.length≤40000000) (hAB:B.length=A.length):∀(r s:List D) (w m:Nat) (a b c d:Int),A.drop w=r→B.drop w=s→r.map b8U=s.map b8U→(∀x∈r,b5x x)→r.length<m→
  ∃R,b0Y N (R:=Int×Int×Int×Int) A A.length m w a b c d (fun p=>some p)=some R∧b01 N (R:=Int×Int×Int×Int) B B.length m w a b c d (fun p=>some p)=some R
 |_,_,_,0,_,_,_,_,_,_,_,_,hm=>by omega
 | [],s,w,m+1,a,b,c,d,hd,_,_,_,_=>by
  have hl:=congrArg List.length hd;rw [List.length_drop] at hl;have h1:¬((w:Int)<(A.length:Int)):=by simp at hl;omega
  have h2:¬((w:Int)<(B.length:Int)):=by omega
  refine ⟨(a,b,c,d),?_,?_⟩
  ·simp only [b0Y,b47,decide_eq_false h1,e4I]
  ·simp only [b01,b5a,decide_eq_false h2,e4I]
 | x::r,s,w,m+1,a,b,c,d,hd,hs,hk,hr,hm=>by
  match s,hk with
  |y::s,hk=>
  simp only [List.map_cons,List.cons.injEq] at hk;obtain ⟨hxy,hk⟩:=hk;obtain ⟨b1,b2,b3,b4⟩:=a4y hd;obtain ⟨c1,c2,c3,c4⟩:=a4y hs;have hM:maxLen=9223372036854775807:=rfl;have hcA:(w:Int)<(A.length:Int):=by omega
  have hcB:(w:Int)<(B.length:Int):=by omega
  have hiA:inB (w:Int) A.length=true:=a0M (by omega) (by omega)
  have hiB:inB (w:Int) B.length=true:=a0M (by omega) (by omega)
  have eA:A.getD ((w:Int)).toNat (.i 0)=x:=by rw [Int.toNat_natCast];exact b2
  have eB:B.getD ((w:Int)).toNat (.i 0)=y:=by rw [Int.toNat_natCast];exact c2
  have hw:IntKind.wrap .i64 ((w:Int)+1)=((w+1:Nat):Int):=(a0H (by omega) (by omega)).trans (by omega)
  obtain ⟨g1,g2,z,g3,g4⟩:=c6D hN (hr x (by simp))
  simp only [b8U,e4Y] at hxy;obtain ⟨k0,k1,k2,k3,k4,k5⟩:=hxy;rw [k3] at g2;rw [k0,k1,k2,k3,k4,k5] at g4;have g1:b5Q N (x.cell 3).items=some (a1w (a2f x)):=g1;have g2:c0s N (y.cell 3).items=some (a1w (a2f y)):=g2;have g3:c8P N (x.cell 0).toS (x.cell 1).toI (x.cell 2).toI (x.cell 3).items (x.cell 4).items (x.cell 5).items 0 (a1w (a2f x))=some z:=g3;have g4:c8T N (y.cell 0).toS (y.cell 1).toI (y.cell 2).toI (y.cell 3).items (y.cell 4).items (y.cell 5).items 0 (a1w (a2f y))=some z:=g4
  obtain ⟨R,i1,i2⟩:=c5e hN hA hAB r s (w+1) m (IntKind.wrap .i64 (a+1)) (IntKind.wrap .i64 (b+z.2.2.1)) (IntKind.wrap .i64 (c+z.2.2.2.1)) (IntKind.wrap .i64 (d+z.2.1)) b3 c3 hk (fun x hx=>hr x (by simp [hx])) (by simp at hm;omega)
  refine ⟨R,?_,?_⟩
  ·simp only [b0Y,b47,decide_eq_true hcA,e4H,a0b,hiA,eA,g1,g3,e4M,getD_some,hw]
   exact i1
  ·simp only [b01,b5a,decide_eq_true hcB,e4H,a0b,hiB,eB,g2,g4,e4M,getD_some,hw]
   exact i2
theorem c9x (hN:maxLen<N) (hv:a4R xs) (hl:l.length≤maxLen) (ha:∀a∈l,a4w a) (hn:∀a∈l,aTn a=true→a27 a=[]):
  ∃R,e3D N xs lv l=some R∧e3I N xs lv l=some R:=by
 have hM:maxLen=9223372036854775807:=rfl;obtain ⟨b,e1⟩:=a86 (lv:=lv) hN hv hl ha hn;unfold e3D e2R e3I e2S;rw [e1,c2L hN hv ha];simp only [a0b,e4M,e4H,getD_some];cases h:a15 xs lv l !=0 with
 |true=>exact ⟨(0,0,0,0,a15 xs lv l),by simp only [e4H],by simp only [e4H]⟩
 |false=>
  have h0:a15 xs lv l=0:=by simpa using h
  obtain ⟨q1,q2⟩:=a3J h0;obtain ⟨r1,_,r3⟩:=a4x q2;obtain ⟨b',e2⟩:=c2M (N:=N) (lv:=lv) hN r1 q1 (a4z q2 hn);have hsl:=b8W (xs:=xs) (lv:=lv) q1 (a4z q2 hn);have hk:=b8V (xs:=xs) (lv:=lv) (l:=l);have hkl:(b1e xs lv l).length=(a8m xs lv l).length:=by have:=congrArg List.length hk;simpa using this.symm
  obtain ⟨R,i1,i2⟩:=c5e hN hsl hkl (a8m xs lv l) (b1e xs lv l) 0 N 0 0 0 0 rfl rfl hk (b5y r1 r3 ha) (by omega)
  have i1:c8Q N (a8m xs lv l) (a8m xs lv l).length 0 0 0 0 0=some R:=i1;have i2:c8U N (b1e xs lv l) (b1e xs lv l).length 0 0 0 0 0=some R:=i2;refine ⟨(R.1,R.2.1,R.2.2.1,R.2.2.2,0),?_,?_⟩
  ·simp only [e4I,i1,a0b,e4M,e4H,getD_some]
  ·simp only [e4I,e2,i2,a0b,e4M,e4H,getD_some]
end Go.Proofs.YtajladplkpfaiaaGreat
namespace Go.Proofs.YtajladplkpfaiaaGreat
open Go Go.AM
variable {N:Nat} {l:List D} {w:Int}
theorem b3R (n a b:Int):c2d N n a b=inI n a b:=by
 unfold c2d d2q inI;rw [Bool.eq_iff_iff];simp
def b3S (l:List D):Bool:=l.all fun x=>inI x.toI (-1) 1000000000
def c2O (l:List D):Int:=bif decide ((l.length:Int)>1000000) then 3 else bif b3S l then 0 else 9
theorem c2P (hN:maxLen<N) (hl:l.length≤maxLen):b8d N l l.length 0=some (bif b3S l then .inr () else .inl ()):=by
 unfold b8d;refine (a0E (.i 0:D) (S:=fun w kr=>a7R N l l.length w kr _ _) (L:=fun m w=>b3r N l l.length m w _ _) (fun m w=>rfl) (fun _ r=>some (bif b3S r then .inr () else .inl ())) hl ?_ ?_ hN).trans rfl
 ·intro kr;simp [a7R,b3S]
 ·intro w kr h0 h1 hw hi hk
  simp only [a7R,decide_eq_true h1,e4H,hi,a0b,hw,hk,b3S,List.all_cons,b3R];cases inI (l.getD w.toNat (.i 0)).toI (-1) 1000000000<;>rfl
theorem c2Q (hN:maxLen<N) (hl:l.length≤maxLen):b8q N l l.length 0=some (bif b3S l then .inr () else .inl ()):=by
 unfold b8q;refine (a0E (.i 0:D) (S:=fun w kr=>a7Y N l l.length w kr _ _) (L:=fun m w=>b3B N l l.length m w _ _) (fun m w=>rfl) (fun _ r=>some (bif b3S r then .inr () else .inl ())) hl ?_ ?_ hN).trans rfl
 ·intro kr;simp [a7Y,b3S]
 ·intro w kr h0 h1 hw hi hk
  simp only [a7Y,decide_eq_true h1,e4H,hi,a0b,hw,hk,b3S,List.all_cons];generalize (l.getD w.toNat (.i 0)).toI=n;refine (a7h (c':= !inI n (-1) 1000000000) ?_).trans ?_
  ·rw [Bool.eq_iff_iff];simp [inI]<;>omega
  ·cases inI n (-1) 1000000000<;>rfl
theorem d3M (hN:maxLen<N) (hl:l.length≤maxLen):d8y N l=some (c2O l):=by
 unfold d8y d2r c2O;rw [c2P hN hl];cases decide ((l.length:Int)>1000000) with
 |true=>rfl
 |false=>cases b3S l<;>rfl
theorem d3N (hN:maxLen<N) (hl:l.length≤maxLen):d9j N l=some (c2O l):=by
 unfold d9j d2R c2O;rw [c2Q hN hl];cases decide ((l.length:Int)>1000000) with
 |true=>rfl
 |false=>cases b3S l<;>rfl
def d4I (l:List D) (w:Int):Bool:=bif decide (w>0) then decide ((l.getD w.toNat (.i 0)).toI≤(l.getD (w-1).toNat (.i 0)).toI) else false
def c6E (l:List D) (w:Int):Int:=bif !inI (l.getD w.toNat (.i 0)).toI 1 1000000 then 9 else bif d4I l w then 10 else 0
def szE (l:List D):Int:=bif ((l.length:Int)==0) then 13 else bif decide ((l.length:Int)>100) then 3 else a0i (c6E l) 0 l
theorem d4J (h0:0≤w) (h1:w<l.length) (hl:l.length≤maxLen):(bif (inB (IntKind.wrap .i64 (w-1)) l.length) then true else (!((decide (w>0))==true)))=true∧(bif (decide (w>0)) then (decide ((l.getD w.toNat (.i 0)).toI≤(l.getD (IntKind.wrap .i64 (w-1)).toNat (.i 0)).toI)) else false)=d4I l w:=by
 unfold d4I;by_cases hw:w=0
 ·subst hw
  rw [decide_eq_false (by omega:¬((0:Int)>0))]
  refine ⟨?_,rfl⟩;cases inB (IntKind.wrap .i64 (0-1)) l.length<;>rfl
 ·obtain ⟨e1,e2⟩:=b5h h0 h1 hl hw
  rw [e1,e2];exact ⟨rfl,rfl⟩
theorem c6F (hN:maxLen<N) (hl:l.length≤maxLen):c2e N l 1 1000000 l l.length 0=some (a29 (a0i (c6E l) 0 l)):=by
 unfold c2e;refine (a0E (.i 0:D) (S:=fun w kr=>b02 N l 1 1000000 l l.length w kr _ _) (L:=fun m w=>b8e N l 1 1000000 l l.length m w _ _) (fun m w=>rfl) (fun w r=>some (a29 (a0i (c6E l) w r))) hl ?_ ?_ hN).trans rfl
 ·intro kr;simp [b02,a0i,a29]
 ·intro w kr h0 h1 hw hi hk
  obtain ⟨q1,q2⟩:=d4J h0 h1 hl;simp only [b02,decide_eq_true h1,e4H,hi,a0b,hw,hk,a1v,b3R,q1,q2];unfold c6E;cases inI (l.getD w.toNat (.i 0)).toI 1 1000000 with
  |false=>rfl
  |true=>cases d4I l w<;>rfl
theorem c2R (hN:maxLen<N) (hl:l.length≤maxLen):b8p N l l l.length 0=some (a29 (a0i (c6E l) 0 l)):=by
 unfold b8p;refine (a0E (.i 0:D) (S:=fun w kr=>a7X N l l l.length w kr _ _) (L:=fun m w=>b3A N l l l.length m w _ _) (fun m w=>rfl) (fun w r=>some (a29 (a0i (c6E l) w r))) hl ?_ ?_ hN).trans rfl
 ·intro kr;simp [a7X,a0i,a29]
 ·intro w kr h0 h1 hw hi hk
  obtain ⟨q1,q2⟩:=d4J h0 h1 hl;simp only [a7X,decide_eq_true h1,e4H,hi,a0b,hw,hk,a1v,q1,q2];unfold c6E;generalize (l.getD w.toNat (.i 0)).toI=n;refine (a7h (c':= !inI n 1 1000000) ?_).trans ?_
  ·rw [Bool.eq_iff_iff];simp [inI]<;>omega
  ·cases inI n 1 1000000 with
   |false=>rfl
   |true=>cases d4I l w<;>rfl
theorem c5f (hN:maxLen<N) (hl:l.length≤maxLen):d2u N l=some (szE l):=by
 unfold d2u d2t e1P d2s szE;rw [c6F hN hl];cases ((l.length:Int)==0) with
 |true=>rfl
 | false=>
  cases decide ((l.length:Int)>100) with
  |true=>rfl
  | false=>
   simp only [e4I,a0b];unfold a29;cases h:a0i (c6E l) 0 l !=0 with
   |true=>rfl
   |false=>
    have:a0i (c6E l) 0 l=0:=by simpa using h
    rw [this];rfl
theorem b8X (hN:maxLen<N) (hl:l.length≤maxLen):c85 N l=some (szE l):=by
 unfold c85 d2Q szE;rw [c2R hN hl];cases ((l.length:Int)==0) with
 |true=>rfl
 | false=>
  cases decide ((l.length:Int)>100) with
  |true=>rfl
  | false=>
   simp only [e4I,a0b];unfold a29;cases h:a0i (c6E l) 0 l !=0 with
   |true=>rfl
   |false=>
    have:a0i (c6E l) 0 l=0:=by simpa using h
    rw [this];rfl
end Go.Proofs.YtajladplkpfaiaaGreat
namespace Go.Proofs.YtajladplkpfaiaaGreat
open Go Go.AM
variable {N:Nat} {l:List D}
def mxD (d:D):Int:=max2 d.toI 0
def ngD (d:D):Int:=bif decide (d.toI<0) then 1 else 0
def PS (l:List D) (i:Nat):Int:=((l.take i).map mxD).sum
def PU (l:List D) (i:Nat):Int:=((l.take i).map ngD).sum
theorem c5g {i:Nat} (h:i<l.length):l.take (i+1)=l.take i++[l.getD i (.i 0)]:=by
 rw [List.take_add_one,e4R h,e4L,e4R h];rfl
theorem b8Y {i:Nat} (h:i<l.length):PS l (i+1)=PS l i+mxD (l.getD i (.i 0)):=by
 unfold PS;rw [c5g h];simp
theorem b8Z {i:Nat} (h:i<l.length):PU l (i+1)=PU l i+ngD (l.getD i (.i 0)):=by
 unfold PU;rw [c5g h];simp
theorem e2x (hB:b3S l=true) {i:Nat} (h:i<l.length):0≤mxD (l.getD i (.i 0))∧mxD (l.getD i (.i 0))≤1000000000:=by
 have h1:=(List.all_eq_true.1 hB) (l.getD i (.i 0)) (by rw [e4L,e4R h];exact List.getElem_mem h)
 have h1:=of_decide_eq_true h1;unfold mxD max2;split<;>omega
theorem b0k (hB:b3S l=true):∀i:Nat,i≤l.length→0≤PS l i∧PS l i≤1000000000*i
 |0,_=>by simp [PS]
 |i+1,h=>by
  obtain ⟨a,b⟩:=b0k hB i (by omega)
  obtain ⟨c,d⟩:=e2x hB (i:=i) (by omega)
  rw [b8Y (by omega)]
  omega
theorem b6E:∀i:Nat,i≤l.length→0≤PU l i∧PU l i≤i
 |0,_=>by simp [PU]
 |i+1,h=>by
  obtain ⟨a,b⟩:=b6E i (by omega)
  rw [b8Z (by omega)]
  unfold ngD;cases decide ((l.getD i (.i 0)).toI<0)<;>simp only [e4H,e4I]<;>omega
def d4K (l:List D) (s f:Nat):Int:=PS l (f+s)-PS l f
def e0N (l:List D) (s f:Nat):Int:=PU l (f+s)-PU l f
def e0i (l:List D) (s:Nat) (a:Int×Int×Bool) (f:Nat):Int×Int×Bool:=
 bif (e0N l s f==0)&&(!a.2.2||decide (d4K l s f>a.1)) then (d4K l s f,(f:Int),true) else a
def a2P (l:List D) (s:Nat):Nat→Int×Int×Bool
 |0=>(0,0,false)
 |k+1=>e0i l s (a2P l s k) k
theorem c5h {s:Nat} (hs1:1≤s) (hs2:s≤1000000) (hB:b3S l=true) (hlen:l.length≤1000000):∀(d m i:Nat),d<m→i+d=l.length→
  b03 N (R:=Int×Int×Bool) l s l l.length m (PS l i-PS l (i-s)) (PU l i-PU l (i-s)) i (a2P l s (i+1-s)).1 (a2P l s (i+1-s)).2.1 (a2P l s (i+1-s)).2.2 (fun p=>some p)=some (a2P l s (l.length+1-s))
 |d,0,i,hm,_=>by omega
 |0,m+1,i,hm,hi=>by
  have:¬((i:Int)<(l.length:Int)):=by omega
  simp only [b03,b5b,decide_eq_false this,e4I];rw [show i=l.length by omega]
 | d +1,m+1,i,hm,hi=>by
  have hlt:(i:Int)<(l.length:Int):=by omega
  have hin:inB (i:Int) l.length=true:=a0M (by omega) (by omega)
  have hg:l.getD ((i:Int)).toNat (.i 0)=l.getD i (.i 0):=by rw [Int.toNat_natCast]
  have hw:IntKind.wrap .i64 ((i:Int)+1)=((i+1:Nat):Int):=(a0H (by omega) (by omega)).trans (by omega)
  obtain ⟨p1,p2⟩:=b0k hB i (by omega)
  obtain ⟨p3,p4⟩:=b0k hB (i-s) (by omega)
  obtain ⟨u1,u2⟩:=b6E (l:=l) i (by omega)
  obtain ⟨u3,u4⟩:=b6E (l:=l) (i-s) (by omega)
  obtain ⟨p5,p6⟩:=b0k hB (i+1) (by omega)
  obtain ⟨u5,u6⟩:=b6E (l:=l) (i+1) (by omega)
  obtain ⟨p7,p8⟩:=b0k hB (i+1-s) (by omega)
  obtain ⟨u7,u8⟩:=b6E (l:=l) (i+1-s) (by omega)
  have ih:=c5h hs1 hs2 hB hlen d m (i+1) (by omega) (by omega)
  have hS:=b8Y (l:=l) (i:=i) (by omega)
  have hU:=b8Z (l:=l) (i:=i) (by omega)
  have y0:IntKind.wrap .i64 (PS l i-PS l (i-s)+max2 (l.getD i (.i 0)).toI 0)=PS l (i+1)-PS l (i-s):=by
   rw [show PS l i-PS l (i-s)+max2 (l.getD i (.i 0)).toI 0=PS l (i+1)-PS l (i-s) by rw [hS];unfold mxD;omega]
   exact a0H (by omega) (by omega)
  have y1:b8i N (PU l i-PU l (i-s)) (decide ((l.getD i (.i 0)).toI<0))=PU l (i+1)-PU l (i-s):=by
   rw [hU];unfold b8i b3s ngD;cases hd:decide ((l.getD i (.i 0)).toI<0)
   ·simp only [e4I];omega
   ·simp only [e4H];rw [a0H (by omega) (by omega)];omega
  have y2:b8k N l s (PS l (i+1)-PS l (i-s)) (PU l (i+1)-PU l (i-s)) i (decide ((i:Int)≥(s:Int)))=some (PS l (i+1)-PS l (i+1-s),PU l (i+1)-PU l (i+1-s)):=by
   unfold b8k b3u;by_cases hge:s≤i
   ·have hsub:IntKind.wrap .i64 ((i:Int)-(s:Int))=((i-s:Nat):Int):=(a0H (by omega) (by omega)).trans (by omega)
    have hi2:inB ((i-s:Nat):Int) l.length=true:=a0M (by omega) (by omega)
    have hS2:=b8Y (l:=l) (i:=i-s) (by omega)
    have hU2:=b8Z (l:=l) (i:=i-s) (by omega)
    rw [show i-s+1=i+1-s by omega] at hS2 hU2
    rw [decide_eq_true (by omega:(i:Int)≥(s:Int)),hsub,hi2]
    simp only [e4H,a0b,Int.toNat_natCast];have z0:IntKind.wrap .i64 (PS l (i+1)-PS l (i-s)-max2 (l.getD (i-s) (.i 0)).toI 0)=PS l (i+1)-PS l (i+1-s):=by
     rw [show PS l (i+1)-PS l (i-s)-max2 (l.getD (i-s) (.i 0)).toI 0=PS l (i+1)-PS l (i+1-s) by rw [hS2];unfold mxD;omega]
     exact a0H (by omega) (by omega)
    have z1:b8j N (PU l (i+1)-PU l (i-s)) (decide ((l.getD (i-s) (.i 0)).toI<0))=PU l (i+1)-PU l (i+1-s):=by
     rw [hU2];rw [hU2] at u7 u8;unfold b8j b3t ngD;cases hd:decide ((l.getD (i-s) (.i 0)).toI<0)
     ·simp only [e4I];omega
     ·simp only [e4H];rw [a0H (by omega) (by omega)];omega
    rw [z0,z1]
   ·rw [decide_eq_false (by omega:¬(i:Int)≥(s:Int))]
    simp only [e4I];rw [show i+1-s=i-s by omega]
  simp only [b03,b5b,decide_eq_true hlt,e4H,hin,a0b,hg,y0,y1,y2,e4M,getD_some,hw];refine Eq.trans ?_ ih;have hA:(a2P l s (i+1+1-s))=b8l N s (PS l (i+1)-PS l (i+1-s)) i (bif decide ((i:Int)≥IntKind.wrap .i64 ((s:Int)-1)) then (PU l (i+1)-PU l (i+1-s)==0) else false) (a2P l s (i+1-s)).1 (a2P l s (i+1-s)).2.1 (a2P l s (i+1-s)).2.2:=by
   rw [show IntKind.wrap .i64 ((s:Int)-1)=(s:Int)-1 from a0H (by omega) (by omega)]
   unfold b8l b3v e1S d2x c8W b8h;by_cases hge:s≤i+1
   ·rw [show i+1+1-s=(i+1-s)+1 by omega,decide_eq_true (by omega:(i:Int)≥(s:Int)-1),a2P]
    unfold e0i d4K e0N;rw [show i+1-s+s=i+1 by omega,show IntKind.wrap .i64 (IntKind.wrap .i64 ((i:Int)-(s:Int))+1)=((i+1-s:Nat):Int) by rw [show IntKind.wrap .i64 ((i:Int)-(s:Int))=(i:Int)-(s:Int) from a0H (by omega) (by omega)];exact (a0H (by omega) (by omega)).trans (by omega)]
    obtain ⟨A1,A2,A3⟩:=a2P l s (i+1-s);simp only [e4H,a0b];cases (PU l (i+1)-PU l (i+1-s)==0) with
    |false=>rfl
    |true=>
     cases A3 with
     |false=>rfl
     |true=>cases decide (PS l (i+1)-PS l (i+1-s)>A1)<;>rfl
   ·rw [show i+1+1-s=i+1-s by omega,decide_eq_false (by omega:¬(i:Int)≥(s:Int)-1)]
    rfl
  rw [hA]
theorem c9y (hN:maxLen<N) {s:Nat} (hs1:1≤s) (hs2:s≤1000000) (hB:b3S l=true) (hlen:l.length≤1000000):d8N N l s=some (a2P l s (l.length+1-s)):=by
 have hM:maxLen=9223372036854775807:=rfl;have h:=c5h (N:=N) hs1 hs2 hB hlen l.length N 0 (by omega) (by omega)
 rw [show 0+1-s=0 by omega,show 0-s=0 by omega,Int.sub_self,Int.sub_self] at h
 have h:c8X N l s l l.length 0 0 0 0 0 false=some (a2P l s (l.length+1-s)):=h;unfold d8N d2z e1T d2y;rw [h];rfl
end Go.Proofs.YtajladplkpfaiaaGreat
namespace Go.Proofs.YtajladplkpfaiaaGreat
open Go Go.AM
variable {N:Nat} {l:List D}
def b5Y (f:Nat→Int) (n:Nat):List D:=(List.range (n+1)).map fun j=> .i (f j)
theorem b80 {f:Nat→Int} {n:Nat}:(b5Y f n).length=n+1:=by simp [b5Y]
theorem b3T {f:Nat→Int} {n j:Nat} (h:j≤n):(b5Y f n).getD j (.i 0)= .i (f j):=by
 unfold b5Y;rw [e4L,List.getElem?_map,List.getElem?_range (by omega)]
 rfl
theorem c9z {f:Nat→Int} {n:Nat}:b5Y f n++[.i (f (n+1))]=b5Y f (n+1):=by
 unfold b5Y;rw [List.range_succ (n:=n+1),List.map_append];rfl
theorem c04 (hB:b3S l=true) (hlen:l.length≤1000000):∀(d m i:Nat),d<m→i+d=l.length→
  a7Z N (R:=Ty8) l l.length m (PS l i) (PU l i) i false (b5Y (PS l) i) false (b5Y (PU l) i) (fun p=>some p)=some (false,b5Y (PS l) l.length,false,b5Y (PU l) l.length)
 |d,0,i,hm,_=>by omega
 |0,m+1,i,hm,hi=>by
  have:¬((i:Int)<(l.length:Int)):=by omega
  simp only [a7Z,b0a,decide_eq_false this,e4I];rw [show i=l.length by omega]
 | d +1,m+1,i,hm,hi=>by
  have hlt:(i:Int)<(l.length:Int):=by omega
  have hin:inB (i:Int) l.length=true:=a0M (by omega) (by omega)
  have hg:l.getD ((i:Int)).toNat (.i 0)=l.getD i (.i 0):=by rw [Int.toNat_natCast]
  have hw:IntKind.wrap .i64 ((i:Int)+1)=((i+1:Nat):Int):=(a0H (by omega) (by omega)).trans (by omega)
  obtain ⟨p1,p2⟩:=b0k hB i (by omega)
  obtain ⟨p5,p6⟩:=b0k hB (i+1) (by omega)
  obtain ⟨u1,u2⟩:=b6E (l:=l) i (by omega)
  have hS:=b8Y (l:=l) (i:=i) (by omega)
  have hU:=b8Z (l:=l) (i:=i) (by omega)
  have ih:=c04 hB hlen d m (i+1) (by omega) (by omega)
  have y0:a82 N (PS l i) (PU l i) (l.getD i (.i 0)).toI (decide ((l.getD i (.i 0)).toI<0))=(PS l (i+1),PU l (i+1)):=by
   unfold a82 a58;by_cases h:(l.getD i (.i 0)).toI<0
   ·rw [decide_eq_true h,hS,hU]
    simp only [e4H];rw [a0H (by omega) (by omega)]
    unfold mxD ngD max2;rw [decide_eq_true h];simp only [e4H];congr 1
    split<;>omega
   ·rw [decide_eq_false h]
    simp only [e4I];have e:PS l i+(l.getD i (.i 0)).toI=PS l (i+1):=by
     rw [hS];unfold mxD max2;split<;>omega
    rw [e,a0H (by omega) (by omega),hU]
    unfold ngD;rw [decide_eq_false h];simp
  have hr:=b5u (n:=i+1+1) (by omega)
  simp only [a7Z,b0a,decide_eq_true hlt,e4H,hin,a0b,hg,y0,hw,b80,hr,c9z];exact ih
theorem e0j (hN:maxLen<N) (hB:b3S l=true) (hlen:l.length≤1000000):d9o N l=some (false,b5Y (PS l) l.length,false,b5Y (PU l) l.length):=by
 have hM:maxLen=9223372036854775807:=rfl;have h:=c04 (N:=N) hB hlen l.length N 0 (by omega) (by omega)
 have h:c4N N l l.length 0 0 0 false [(.i 0)] false [(.i 0)]=some (false,b5Y (PS l) l.length,false,b5Y (PU l) l.length):=h;unfold d9o d2S;rw [h];rfl
theorem e0k {s f:Nat} (hB:b3S l=true) (hlen:l.length≤1000000) (hf:f+s≤l.length):d9q N (b5Y (PS l) l.length) (b5Y (PU l) l.length) (f:Int) ((f+s:Nat):Int)=some (d4K l s f,e0N l s f==0):=by
 obtain ⟨p1,p2⟩:=b0k hB f (by omega)
 obtain ⟨p5,p6⟩:=b0k hB (f+s) (by omega)
 unfold d9q d2T;rw [b80,b80,a0M (by omega) (by omega),a0M (by omega) (by omega)]
 simp only [e4H,a0b,Int.toNat_natCast];rw [b3T (by omega),b3T (by omega),b3T (by omega),b3T (by omega)]
 show some (IntKind.wrap .i64 (PS l (f+s)-PS l f),(PU l (f+s)==PU l f))=_;rw [a0H (by omega) (by omega)]
 unfold d4K e0N;congr 2
 rw [Bool.eq_iff_iff];simp;omega
theorem b1Y {s:Nat} (hs1:1≤s) (hs2:s≤1000000) (hB:b3S l=true) (hlen:l.length≤1000000):∀(d m f:Nat),d<m→f+d=l.length+1-s→
  a71 N (R:=Int×Int×Int×Bool) l s (b5Y (PS l) l.length) (b5Y (PU l) l.length) m f s (a2P l s f).1 (a2P l s f).2.1 (a2P l s f).2.2 (fun p=>some p)=some ((s:Int),a2P l s (l.length+1-s))
 |d,0,f,hm,_=>by omega
 |0,m+1,f,hm,hf=>by
  have hw:IntKind.wrap .i64 ((f:Int)+(s:Int))=(f:Int)+(s:Int):=a0H (by omega) (by omega)
  have:¬((f:Int)+(s:Int)≤(l.length:Int)):=by omega
  simp only [a71,b0b,hw,decide_eq_false this,e4I];rw [show f=l.length+1-s by omega]
 | d+1,m+1,f,hm,hf=>by
  have hw:IntKind.wrap .i64 ((f:Int)+(s:Int))=((f+s:Nat):Int):=(a0H (by omega) (by omega)).trans (by omega)
  have hle:((f+s:Nat):Int)≤(l.length:Int):=by omega
  have hw1:IntKind.wrap .i64 ((f:Int)+1)=((f+1:Nat):Int):=(a0H (by omega) (by omega)).trans (by omega)
  have ih:=b1Y hs1 hs2 hB hlen d m (f+1) (by omega) (by omega)
  have hr:=e0k (N:=N) hB hlen (s:=s) (f:=f) (by omega)
  simp only [a71,b0b,hw,decide_eq_true hle,e4H,a0b,hr,e4M,getD_some,hw1];refine Eq.trans ?_ ih;have hA:b8r N s f (d4K l s f) (bif (e0N l s f==0) then (bif (!(a2P l s f).2.2) then true else (decide (d4K l s f>(a2P l s f).1))) else false) s (a2P l s f).1 (a2P l s f).2.1 (a2P l s f).2.2=((s:Int),a2P l s (f+1)):=by
   rw [a2P];unfold b8r b3C e0i;obtain ⟨A1,A2,A3⟩:=a2P l s f;cases (e0N l s f==0) with
   |false=>rfl
   |true=>
    cases A3 with
    |false=>rfl
    |true=>cases decide (d4K l s f>A1)<;>rfl
  rw [hA]
theorem d3O (hN:maxLen<N) {s:Nat} (hs1:1≤s) (hs2:s≤1000000) (hB:b3S l=true) (hlen:l.length≤1000000):d9v N l s=some ((s:Int),a2P l s (l.length+1-s)):=by
 have hM:maxLen=9223372036854775807:=rfl;have h:=b1Y (N:=N) hs1 hs2 hB hlen (l.length+1-s) N 0 (by omega) (by omega)
 have h:c4O N l s (b5Y (PS l) l.length) (b5Y (PU l) l.length) 0 s 0 0 false=some ((s:Int),a2P l s (l.length+1-s)):=h;unfold d9v d2U;rw [e0j hN hB hlen];simp only [a0b,e4M,e4H,getD_some,h]
end Go.Proofs.YtajladplkpfaiaaGreat
namespace Go.Proofs.YtajladplkpfaiaaGreat
open Go Go.AM
variable {N:Nat} {l zs:List D}
theorem c5i (hN:maxLen<N) (a b:Int):d2w N [(.i a),(.i b)]=some (bif a !=0 then a else b):=by
 have hM:maxLen=9223372036854775807:=rfl;obtain ⟨M,rfl⟩:∃M,N=M+3:=⟨N-3,by omega⟩
 unfold d2w d2v c8V;simp only [b8g,b8f];cases h:a !=0 with
 |true=>simp [h,D.toI,inB,bnd];rfl
 | false=>
  cases h':b !=0 with
  |true=>simp [h,h',D.toI,inB,bnd,IntKind.wrap_i64];rfl
  |false=>
   have:b=0:=by simpa using h'
   subst this;simp [h,D.toI,inB,bnd,IntKind.wrap_i64];rfl
def b81 (l:List D) (x:D):D:= .a [.i x.toI,.i (a2P l x.toI.toNat (l.length+1-x.toI.toNat)).1,.i (a2P l x.toI.toNat (l.length+1-x.toI.toNat)).2.1,.b (a2P l x.toI.toNat (l.length+1-x.toI.toNat)).2.2]
theorem b1Z (h:szE zs=0):zs≠[]∧zs.length≤100∧ ∀i:Nat,i<zs.length→1≤(zs.getD i (.i 0)).toI∧(zs.getD i (.i 0)).toI≤1000000:=by
 unfold szE at h;obtain ⟨h1,h⟩:=b1W h (by decide)
 obtain ⟨h2,h⟩:=b1W h (by decide)
 simp only [decide_eq_false_iff_not] at h2;refine ⟨fun e=>by subst e;simp at h1,by omega,fun i hi=> ?_⟩
 have:=a2p h i hi;unfold c6E at this;obtain ⟨h3,_⟩:=b1W this (by decide)
 rw [show (0+(i:Int)).toNat=i by omega] at h3
 have:=of_decide_eq_true (show inI (zs.getD i (.i 0)).toI 1 1000000=true by simpa using h3)
 exact this
theorem c05 (hN:maxLen<N) (hB:b3S l=true) (hlen:l.length≤1000000) (hz:szE zs=0):∀(d m i:Nat) (fl:Bool) (acc:List D),d<m→i+d=zs.length→acc.length=i→
  a7S N (R:=Bool×LD) l zs zs.length m i fl acc (fun p=>some p)=some (bif decide (0<d) then false else fl,acc++(zs.drop i).map (b81 l))
 |d,0,i,fl,acc,hm,_,_=>by omega
 |0,m+1,i,fl,acc,hm,hi,_=>by
  have:¬((i:Int)<(zs.length:Int)):=by omega
  simp only [a7S,a98,decide_eq_false this,e4I];rw [List.drop_eq_nil_of_le (by omega)]
  simp
 | d+1,m+1,i,fl,acc,hm,hi,ha=>by
  obtain ⟨_,z2,z3⟩:=b1Z hz;obtain ⟨s1,s2⟩:=z3 i (by omega)
  have hlt:(i:Int)<(zs.length:Int):=by omega
  have hin:inB (i:Int) zs.length=true:=a0M (by omega) (by omega)
  have hg:zs.getD ((i:Int)).toNat (.i 0)=zs.getD i (.i 0):=by rw [Int.toNat_natCast]
  have hw:IntKind.wrap .i64 ((i:Int)+1)=((i+1:Nat):Int):=(a0H (by omega) (by omega)).trans (by omega)
  have hb:=c9y hN (l:=l) (s:=(zs.getD i (.i 0)).toI.toNat) (by omega) (by omega) hB hlen
  rw [show (((zs.getD i (.i 0)).toI.toNat:Nat):Int)=(zs.getD i (.i 0)).toI by omega] at hb
  have hr:(decide ((acc.length+1)*32≤a1K)&&decide ((acc.length+1)≤a0g))=true:=by
   have e1:a1K=140737488355328:=rfl;have e2:a0g=9223372036854775807:=rfl;rw [decide_eq_true (by omega),decide_eq_true (by omega)];rfl
  have ih:=c05 hN hB hlen hz d m (i+1) false (acc++[b81 l (zs.getD i (.i 0))]) (by omega) (by omega) (by simp;omega)
  simp only [a7S,a98,decide_eq_true hlt,e4H,hin,a0b,hg,hb,e4M,getD_some,hw,hr];refine Eq.trans ih ?_;rw [decide_eq_true (by omega:0<d+1),e4V]
  have hd:zs.drop i=zs.getD i (.i 0)::zs.drop (i+1):=by
   rw [List.drop_eq_getElem_cons (by omega),e4L,e4R (by omega)];rfl
  rw [hd,List.map_cons];cases decide (0<d)<;>rfl
theorem c06 (hN:maxLen<N) (hB:b3S l=true) (hlen:l.length≤1000000) (hz:szE zs=0):∀(d m i:Nat) (fl:Bool) (acc:List D),d<m→i+d=zs.length→acc.length=i→
  a72 N (R:=Bool×LD) l zs zs.length m i fl acc (fun p=>some p)=some (bif decide (0<d) then false else fl,acc++(zs.drop i).map (b81 l))
 |d,0,i,fl,acc,hm,_,_=>by omega
 |0,m+1,i,fl,acc,hm,hi,_=>by
  have:¬((i:Int)<(zs.length:Int)):=by omega
  simp only [a72,b0c,decide_eq_false this,e4I];rw [List.drop_eq_nil_of_le (by omega)]
  simp
 | d+1,m+1,i,fl,acc,hm,hi,ha=>by
  obtain ⟨_,z2,z3⟩:=b1Z hz;obtain ⟨s1,s2⟩:=z3 i (by omega)
  have hlt:(i:Int)<(zs.length:Int):=by omega
  have hin:inB (i:Int) zs.length=true:=a0M (by omega) (by omega)
  have hg:zs.getD ((i:Int)).toNat (.i 0)=zs.getD i (.i 0):=by rw [Int.toNat_natCast]
  have hw:IntKind.wrap .i64 ((i:Int)+1)=((i+1:Nat):Int):=(a0H (by omega) (by omega)).trans (by omega)
  have hb:=d3O hN (l:=l) (s:=(zs.getD i (.i 0)).toI.toNat) (by omega) (by omega) hB hlen
  rw [show (((zs.getD i (.i 0)).toI.toNat:Nat):Int)=(zs.getD i (.i 0)).toI by omega] at hb
  have hr:(decide ((acc.length+1)*32≤a1K)&&decide ((acc.length+1)≤a0g))=true:=by
   have e1:a1K=140737488355328:=rfl;have e2:a0g=9223372036854775807:=rfl;rw [decide_eq_true (by omega),decide_eq_true (by omega)];rfl
  have ih:=c06 hN hB hlen hz d m (i+1) false (acc++[b81 l (zs.getD i (.i 0))]) (by omega) (by omega) (by simp;omega)
  simp only [a72,b0c,decide_eq_true hlt,e4H,hin,a0b,hg,hb,e4M,getD_some,hw,hr];refine Eq.trans ih ?_;rw [decide_eq_true (by omega:0<d+1),e4V]
  have hd:zs.drop i=zs.getD i (.i 0)::zs.drop (i+1):=by
   rw [List.drop_eq_getElem_cons (by omega),e4L,e4R (by omega)];rfl
  rw [hd,List.map_cons];cases decide (0<d)<;>rfl
theorem c9A (h:c2O l=0):l.length≤1000000∧b3S l=true:=by
 unfold c2O at h;obtain ⟨h1,h⟩:=b1W h (by decide)
 simp only [decide_eq_false_iff_not] at h1;refine ⟨by omega,?_⟩
 cases hb:b3S l with
 |true=>rfl
 |false=>rw [hb] at h;cases h
def c07 (l zs:List D):Int:=bif c2O l !=0 then c2O l else szE zs
def b82 (l zs:List D):List D:=bif c07 l zs !=0 then [] else zs.map (b81 l)
theorem e0l (h:c07 l zs=0):c2O l=0∧szE zs=0:=by
 unfold c07 at h;exact c2F h
theorem c5j (hN:maxLen<N) (hl:l.length≤maxLen) (hz:zs.length≤maxLen):d2B N l zs=some (c07 l zs !=0,b82 l zs,c07 l zs):=by
 have hM:maxLen=9223372036854775807:=rfl;unfold d2B d2A;rw [d3M hN hl,c5f hN hz];simp only [a0b,e4M,e4H,getD_some,c5i hN];unfold b82;rw [show (bif c2O l !=0 then c2O l else szE zs)=c07 l zs from rfl]
 cases h:c07 l zs !=0 with
 |true=>rfl
 |false=>
  have h0:c07 l zs=0:=by simpa using h
  obtain ⟨h1,h2⟩:=e0l h0;obtain ⟨h3,h4⟩:=c9A h1;have e:=c05 (N:=N) hN h4 h3 h2 zs.length N 0 true [] (by omega) (by omega) rfl
  have hp:0<zs.length:=List.length_pos_iff.2 (b1Z h2).1;rw [decide_eq_true hp] at e;have e:c4K N l zs zs.length 0 true []=some (false,zs.map (b81 l)):=e;rw [e,h0];rfl
theorem e0m (hN:maxLen<N) (hl:l.length≤maxLen) (hz:zs.length≤maxLen):d9y N l zs=some (c07 l zs !=0,b82 l zs,c07 l zs):=by
 have hM:maxLen=9223372036854775807:=rfl;unfold d9y d2V;rw [d3N hN hl,b8X hN hz];simp only [a0b,e4M,e4H,getD_some];unfold b82 c07;cases h:c2O l !=0 with
 |true=>simp only [e4H,h]
 | false=>
  simp only [e4I];cases h':szE zs !=0 with
  |true=>rfl
  |false=>
   have h1:c2O l=0:=by simpa using h
   have h2:szE zs=0:=by simpa using h'
   obtain ⟨h3,h4⟩:=c9A h1;have e:=c06 (N:=N) hN h4 h3 h2 zs.length N 0 true [] (by omega) (by omega) rfl
   have hp:0<zs.length:=List.length_pos_iff.2 (b1Z h2).1;rw [decide_eq_true hp] at e;have e:c4P N l zs zs.length 0 true []=some (false,zs.map (b81 l)):=e;rw [e,h2];rfl
end Go.Proofs.YtajladplkpfaiaaGreat
namespace Go.Proofs.YtajladplkpfaiaaGreat
open Go Go.AM
variable {N:Nat} {c:List D}
def a3L (x:D):D:= .i (x.cell 0).toI
theorem c08 (hc:c.length≤1000000):∀(d m i:Nat) (fl:Bool) (acc:List D),d<m→i+d=c.length→acc.length=i→
  b04 N (R:=Bool×LD) c c.length m i fl acc (fun p=>some p)=some (bif decide (0<d) then false else fl,acc++(c.drop i).map a3L)∧a73 N (R:=Bool×LD) c c.length m i fl acc (fun p=>some p)=some (bif decide (0<d) then false else fl,acc++(c.drop i).map a3L)
 |d,0,i,fl,acc,hm,_,_=>by omega
 |0,m+1,i,fl,acc,hm,hi,_=>by
  have:¬((i:Int)<(c.length:Int)):=by omega
  simp only [b04,b5c,a73,b0d,decide_eq_false this,e4I];rw [List.drop_eq_nil_of_le (by omega)]
  simp
 | d+1,m+1,i,fl,acc,hm,hi,ha=>by
  have hlt:(i:Int)<(c.length:Int):=by omega
  have hin:inB (i:Int) c.length=true:=a0M (by omega) (by omega)
  have hg:c.getD ((i:Int)).toNat (.i 0)=c.getD i (.i 0):=by rw [Int.toNat_natCast]
  have hw:IntKind.wrap .i64 ((i:Int)+1)=((i+1:Nat):Int):=(a0H (by omega) (by omega)).trans (by omega)
  have hr:=b5u (n:=acc.length+1) (by omega)
  obtain ⟨i1,i2⟩:=c08 hc d m (i+1) false (acc++[a3L (c.getD i (.i 0))]) (by omega) (by omega) (by simp;omega)
  have hd:c.drop i=c.getD i (.i 0)::c.drop (i+1):=by
   rw [List.drop_eq_getElem_cons (by omega),e4L,e4R (by omega)];rfl
  have e:(some ((bif decide (0<d) then false else false),(acc++[a3L (c.getD i (.i 0))])++(c.drop (i+1)).map a3L):Option (Bool×LD))=some (bif decide (0<d+1) then false else fl,acc++(c.drop i).map a3L):=by
   rw [decide_eq_true (by omega:0<d+1),e4V,hd,List.map_cons]
   cases decide (0<d)<;>rfl
  constructor
  ·simp only [b04,b5c,decide_eq_true hlt,e4H,hin,hg,hw,hr]
   exact i1.trans e
  ·simp only [a73,b0d,decide_eq_true hlt,e4H,hin,hg,hw,hr]
   exact i2.trans e
theorem c5k (hN:maxLen<N) (hc:c.length≤1000000):c8Z N c=some (c.isEmpty,c.map a3L)∧c86 N c=some (c.isEmpty,c.map a3L):=by
 have hM:maxLen=9223372036854775807:=rfl;obtain ⟨i1,i2⟩:=c08 (N:=N) hc c.length N 0 true [] (by omega) (by omega) rfl
 have e:(bif decide (0<c.length) then false else true)=c.isEmpty:=by cases c<;>rfl
 rw [e] at i1 i2;have i1:c8Y N c c.length 0 true []=some (c.isEmpty,c.map a3L):=i1;have i2:c4Q N c c.length 0 true []=some (c.isEmpty,c.map a3L):=i2;constructor
 ·unfold c8Z d2E;rw [i1];rfl
 ·unfold c86 c4R;rw [i2];rfl
def e0n (x:D):Int:=bif !(x.cell 3).toB then (bif (x.cell 1).toI !=0||(x.cell 2).toI !=0 then 2 else 0) else bif inI (x.cell 1).toI 0 (IntKind.wrap .i64 ((x.cell 0).toI*1000000000))&&inI (x.cell 2).toI 0 (IntKind.wrap .i64 (1000000-(x.cell 0).toI)) then 0 else 9
def a87 (c:List D):Int:=bif szE (c.map a3L) !=0 then szE (c.map a3L) else a0i (fun w=>e0n (c.getD w.toNat (.i 0))) 0 c
theorem c2S (hN:maxLen<N) (hl:c.length≤maxLen):b8m N c c.length 0=some (a29 (a0i (fun w=>e0n (c.getD w.toNat (.i 0))) 0 c)):=by
 unfold b8m;refine (a0E (.i 0:D) (S:=fun w kr=>a7T N c c.length w kr _ _) (L:=fun m w=>b3x N c c.length m w _ _) (fun m w=>rfl) (fun w r=>some (a29 (a0i (fun w=>e0n (c.getD w.toNat (.i 0))) w r))) hl ?_ ?_ hN).trans rfl
 ·intro kr;simp [a7T,a0i,a29]
 ·intro w kr h0 h1 hw hi hk
  simp only [a7T,decide_eq_true h1,e4H,hi,a0b,hw,hk,a1v,c4L,b3w,b3R];unfold e0n;generalize c.getD w.toNat (.i 0)=x;cases (x.cell 3).toB with
  |false=>
   cases (x.cell 1).toI !=0 with
   |true=>rfl
   |false=>cases (x.cell 2).toI !=0<;>rfl
  |true=>
   cases inI (x.cell 1).toI 0 (IntKind.wrap .i64 ((x.cell 0).toI*1000000000)) with
   |false=>rfl
   |true=>cases inI (x.cell 2).toI 0 (IntKind.wrap .i64 (1000000-(x.cell 0).toI))<;>rfl
theorem d4L (n a b:Int):(decide (n<a)||decide (n>b))= !inI n a b:=by
 unfold inI;rw [Bool.eq_iff_iff];simp<;>omega
theorem c2T (hN:maxLen<N) (hl:c.length≤maxLen):b8s N c c.length 0=some (a29 (a0i (fun w=>e0n (c.getD w.toNat (.i 0))) 0 c)):=by
 unfold b8s;refine (a0E (.i 0:D) (S:=fun w kr=>a74 N c c.length w kr _ _) (L:=fun m w=>b3D N c c.length m w _ _) (fun m w=>rfl) (fun w r=>some (a29 (a0i (fun w=>e0n (c.getD w.toNat (.i 0))) w r))) hl ?_ ?_ hN).trans rfl
 ·intro kr;simp [a74,a0i,a29]
 ·intro w kr h0 h1 hw hi hk
  simp only [a74,decide_eq_true h1,e4H,hi,a0b,hw,hk,a1v];unfold e0n;generalize c.getD w.toNat (.i 0)=x;cases (x.cell 3).toB with
  |false=>
   cases (x.cell 1).toI !=0 with
   |true=>rfl
   |false=>cases (x.cell 2).toI !=0<;>rfl
  |true=>
   have o1:=d4L (x.cell 1).toI 0 (IntKind.wrap .i64 ((x.cell 0).toI*1000000000));have o2:=d4L (x.cell 2).toI 0 (IntKind.wrap .i64 (1000000-(x.cell 0).toI));revert o1 o2
   cases decide ((x.cell 1).toI<0)<;>cases decide ((x.cell 1).toI>(IntKind.wrap .i64 ((x.cell 0).toI*1000000000)))<;>cases decide ((x.cell 2).toI<0)<;>cases decide ((x.cell 2).toI>(IntKind.wrap .i64 (1000000-(x.cell 0).toI)))<;>cases inI (x.cell 1).toI 0 (IntKind.wrap .i64 ((x.cell 0).toI*1000000000))<;>cases inI (x.cell 2).toI 0 (IntKind.wrap .i64 (1000000-(x.cell 0).toI))<;>intro o1 o2<;>first|rfl|exact absurd o1 (by decide)|exact absurd o2 (by decide)
theorem a8h (hN:maxLen<N) (hc:c.length≤1000000):d2G N c=some (a87 c):=by
 have hM:maxLen=9223372036854775807:=rfl;unfold d2G d2F a87;rw [(c5k hN hc).1];simp only [a0b,e4M,e4H,getD_some];rw [c5f hN (by simp;omega),c2S hN (by omega)]
 simp only [e4M,e4H,getD_some];cases h:szE (c.map a3L) !=0 with
 |true=>rfl
 |false=>exact b8S _
theorem b0l (hN:maxLen<N) (hc:c.length≤1000000):d2Z N c=some (a87 c):=by
 have hM:maxLen=9223372036854775807:=rfl;unfold d2Z d2Y a87;rw [(c5k hN hc).2];simp only [a0b,e4M,e4H,getD_some];rw [b8X hN (by simp;omega),c2T hN (by omega)]
 simp only [e4M,e4H,getD_some];cases h:szE (c.map a3L) !=0 with
 |true=>rfl
 |false=>exact b8S _
end Go.Proofs.YtajladplkpfaiaaGreat
namespace Go.Proofs.YtajladplkpfaiaaGreat
open Go Go.AM
theorem e4m (a b:Int):c57 Tryz.prog 3 [(0,false)] (.i a) (.i b)=Lib.compareInt a b:=by
 show lex (Lib.compareInt a b) 0=_;unfold lex;split<;>simp_all
theorem leI (a b:Int):(!Go.Proofs.ltOf (c57 Tryz.prog 3 [(0,false)]) (.i b) (.i a))=decide (a≤b):=by
 unfold Go.Proofs.ltOf;rw [e4m];unfold Lib.compareInt;rw [Bool.eq_iff_iff];simp only [Bool.not_eq_true',decide_eq_false_iff_not,decide_eq_true_eq];split
 ·constructor<;>intro h<;>omega
 ·split<;>constructor<;>intro h<;>omega
def dbl:List Int→List Int
 | []=>[]
 |a::l=>a::a::dbl l
theorem c5l:∀l:List Int,(l++l).Perm (dbl l)
 | []=> .refl _
 |a::l=>by
  show ((a::l)++(a::l)).Perm (a::a::dbl l);refine .cons a ?_;exact (List.perm_middle).trans (.cons a (c5l l))
theorem c2U:∀{l:List Int} {x:Int},x∈dbl l→x∈l
 |a::l,x,h=>by
  simp only [dbl,e4S] at h⊢;rcases h with h|h|h
  ·exact .inl h
  ·exact .inl h
  ·exact .inr (c2U h)
theorem b6F:∀{l:List Int},l.Pairwise (· < ·)→(dbl l).Pairwise (·≤·)
 | [],_=> .nil
 | a::l,h=>by
  obtain ⟨h1,h2⟩:=List.pairwise_cons.1 h;refine List.pairwise_cons.2 ⟨fun x hx=> ?_,List.pairwise_cons.2 ⟨fun x hx=> ?_,b6F h2⟩⟩
  ·rcases e4S.1 hx with rfl|hx
   ·exact Int.le_refl _
   ·exact Int.le_of_lt (h1 x (c2U hx))
  ·exact Int.le_of_lt (h1 x (c2U hx))
theorem d3P {l:List Int} (h:l.Pairwise (· < ·)):a7i ((l++l).map D.i)=(dbl l).map D.i:=by
 unfold a7i c1U;have hp:(((l++l).map D.i).mergeSort fun x y=> !Go.Proofs.ltOf (c57 Tryz.prog 3 [(0,false)]) y x).Perm ((dbl l).map D.i):=(List.mergeSort_perm _ _).trans ((c5l l).map _)
 refine hp.eq_of_pairwise (le:=fun x y=>∃a b,x= .i a∧y= .i b∧a≤b) ?_ ?_ ?_
 ·rintro x y _ _ ⟨a,b,rfl,rfl,h1⟩ ⟨c,d,h2,h3,h4⟩
  cases h2;cases h3;rw [show a=b by omega]
 ·have hs:(((l++l).map D.i).mergeSort fun x y=> !Go.Proofs.ltOf (c57 Tryz.prog 3 [(0,false)]) y x).Pairwise fun x y=>(!Go.Proofs.ltOf (c57 Tryz.prog 3 [(0,false)]) y x)=true:=by
   refine List.pairwise_mergeSort ?_ ?_ _
   ·intro a b c h1 h2
    have:=(a1h (P:=Tryz.prog) (e:=3) [(0,false)]).trans;unfold Go.Proofs.ltOf at*
    simp only [Bool.not_eq_true',decide_eq_false_iff_not] at*
    have s1:=(a1h (P:=Tryz.prog) (e:=3) [(0,false)]).sym a b;have s2:=(a1h (P:=Tryz.prog) (e:=3) [(0,false)]).sym b c;have s3:=(a1h (P:=Tryz.prog) (e:=3) [(0,false)]).sym a c;have s4:=(a1h (P:=Tryz.prog) (e:=3) [(0,false)]).sym b a;have s5:=(a1h (P:=Tryz.prog) (e:=3) [(0,false)]).sym c b;have s6:=(a1h (P:=Tryz.prog) (e:=3) [(0,false)]).sym c a;have t:=this a b c;omega
   ·intro a b
    unfold Go.Proofs.ltOf;have s1:=(a1h (P:=Tryz.prog) (e:=3) [(0,false)]).sym a b;have s2:=(a1h (P:=Tryz.prog) (e:=3) [(0,false)]).sym b a;simp only [Bool.or_eq_true,Bool.not_eq_true',decide_eq_false_iff_not];omega
  refine hs.imp_of_mem fun {x y} hx hy hxy=> ?_
  have mx:=(List.mergeSort_perm _ _).mem_iff.1 hx;have my:=(List.mergeSort_perm _ _).mem_iff.1 hy;obtain ⟨a,_,rfl⟩:=List.mem_map.1 mx;obtain ⟨b,_,rfl⟩:=List.mem_map.1 my;rw [leI] at hxy;exact ⟨a,b,rfl,rfl,of_decide_eq_true hxy⟩
 ·rw [List.pairwise_map]
  exact (b6F h).imp fun {a b} h=>⟨a,b,rfl,rfl,h⟩
theorem c2V:∀l:List Int,(dbl l).length=2*l.length
 | []=>rfl
 |a::l=>by simp only [dbl,e4U,c2V l];omega
theorem c9B:∀(l:List Int) (k:Nat),(dbl l)[2*k]? =l[k]?∧(dbl l)[2*k+1]? =l[k]?
 | [],k=>by simp [dbl]
 |a::l,0=>by simp [dbl]
 |a::l,k+1=>by
  obtain ⟨h1,h2⟩:=c9B l k;rw [show 2*(k+1)=2*k+1+1 by omega]
  simp only [dbl,List.getElem?_cons_succ];exact ⟨h1,h2⟩
theorem d4M {l:List Int} {k:Nat} (h:k<l.length):(dbl l).toArray[2*k]! =l[k]∧(dbl l).toArray[2*k+1]! =l[k]:=by
 obtain ⟨h1,h2⟩:=c9B l k;rw [e4R h] at h1 h2;have e:=c2V l;constructor
 ·rw [getElem!_pos _ _ (by simp;omega)]
  have:=(e4P.1 h1).2;simpa using this
 ·rw [getElem!_pos _ _ (by simp;omega)]
  have:=(e4P.1 h2).2;simpa using this
theorem b5z {l:List Int} (h:l.Pairwise (· < ·)):∀k:Nat,k≤l.length→Lib.compactUpTo (dbl l).toArray (2*k)=l.take k
 |0,_=>by simp [Lib.compactUpTo]
 | k+1,hk=>by
  obtain ⟨d1,d2⟩:=d4M (l:=l) (k:=k) (by omega)
  rw [show 2*(k+1)=2*k+1+1 by omega,Lib.compactUpTo_succ,Lib.compactUpTo_succ,b5z h k (by omega)]
  have k2:Lib.keeps (dbl l).toArray (2*k+1)=false:=Lib.keeps_neg (by omega) (by rw [show 2*k+1-1=2*k by omega,d1,d2])
  have k1:Lib.keeps (dbl l).toArray (2*k)=true:=by
   cases k with
   |zero=>exact Lib.keeps_lt_one _ _ (by omega)
   |succ j=>
    obtain ⟨_,d4⟩:=d4M (l:=l) (k:=j) (by omega)
    refine Lib.keeps_pos ?_;rw [show 2*(j+1)-1=2*j+1 by omega,d1,d4]
    have:=List.pairwise_iff_getElem.1 h j (j+1) (by omega) (by omega) (by omega)
    omega
  rw [k1,k2,d1,List.take_add_one,e4R (by omega)]
  simp
theorem c6G {l:List Int} (h:l.Pairwise (· < ·)):a2H (a7i ((l++l).map D.i))=l.map D.i:=by
 rw [d3P h];unfold a2H;rw [List.map_map,show (D.toI∘D.i)=id from rfl,List.map_id];unfold Lib.compact;rw [c2V,b5z h l.length (Nat.le_refl _),List.take_length];rfl
theorem d3Q {l:List Int} (hl:l.length≤1000):a7j ((l++l).map D.i)=true:=by
 unfold a7j;rw [b6u.2 ?_,Bool.true_and]
 ·simp;omega
 ·intro a ha b hb hab
  obtain ⟨x,_,rfl⟩:=List.mem_map.1 ha;obtain ⟨y,_,rfl⟩:=List.mem_map.1 hb;rw [e4m] at hab;unfold Lib.compareInt at hab;split at hab
  ·omega
  ·split at hab
   ·omega
   ·rw [show x=y by omega]
variable {N:Nat} {c:List D}
theorem c5m (a b:Int):d2K N a b=Lib.compareInt a b:=by
 have e:∀n:Int,d81 N n=false:=fun n=>by
  show (n !=n)=false;simp
 unfold d2K d2J e10 d2I;rw [e,e];simp only [a0b,e4I];unfold Lib.compareInt;by_cases h:a<b
 ·rw [decide_eq_true h,if_pos h];rfl
 ·rw [decide_eq_false h,if_neg h]
  by_cases h':a>b
  ·rw [decide_eq_true h',if_pos h'];rfl
  ·rw [decide_eq_false h',if_neg h'];rfl
def szA (c:List D) (i:Nat):Int:=((c.getD i (.i 0)).cell 0).toI
theorem b83 (hc:c.length≤1000000) (hr:∀i j:Nat,i<j→j<c.length→szA c i<szA c j) {k:Nat} (hk:k<c.length):∀(d m lo hi:Nat),d<m→hi≤lo+d→lo≤k→k≤hi→hi≤c.length→
  a81 N (R:=Int) c (szA c k) m lo hi (fun p=>some p)=some (k:Int)
 |d,0,lo,hi,hm,_,_,_,_=>by omega
 |0,m+1,lo,hi,hm,h1,h2,h3,_=>by
  have:¬((lo:Int)<(hi:Int)):=by omega
  simp only [a81,b05,decide_eq_false this,e4I];rw [show lo=k by omega]
 | d +1,m+1,lo,hi,hm,h1,h2,h3,h4=>by
  by_cases hlt:(lo:Int)<(hi:Int)
  ·obtain ⟨h,hh⟩:∃h:Nat,h=(lo+hi)/2:=⟨_,rfl⟩
   have e0:IntKind.wrap .i64 ((lo:Int)+(hi:Int))=((lo+hi:Nat):Int):=(a0H (by omega) (by omega)).trans (by omega)
   have e1:IntKind.wrap .u64 (((lo+hi:Nat)):Int)=((lo+hi:Nat):Int):=by simp [IntKind.wrap,IntKind.bits,IntKind.signed];omega
   have e2:(((lo+hi:Nat):Int)).fdiv (2^1)=(h:Int):=by
    rw [Int.fdiv_eq_ediv_of_nonneg _ (by decide),hh]
    omega
   have e3:IntKind.wrap .i64 (h:Int)=(h:Int):=a0H (by omega) (by omega)
   have hi':inB (h:Int) c.length=true:=a0M (by omega) (by omega)
   have e4:IntKind.wrap .i64 ((h:Int)+1)=((h+1:Nat):Int):=(a0H (by omega) (by omega)).trans (by omega)
   simp only [a81,b05,decide_eq_true hlt,e4H,a0b,e0,e1,e2,e3,hi',Int.toNat_natCast,c5m,b5d,a57,e4];by_cases hhk:h<k
   ·have hc1:szA c h<szA c k:=hr h k hhk hk
    have e5:decide (Lib.compareInt ((c.getD h (.i 0)).cell 0).toI (szA c k)<0)=true:=decide_eq_true (by
     show Lib.compareInt (szA c h) (szA c k)<0;unfold Lib.compareInt;rw [if_pos hc1];decide)
    rw [e5];exact b83 hc hr hk d m (h+1) hi (by omega) (by omega) (by omega) h3 h4
   ·have hc1:¬szA c h<szA c k:=by
     by_cases e:h=k
     ·rw [e];omega
     ·have:=hr k h (by omega) (by omega);omega
    have e5:decide (Lib.compareInt ((c.getD h (.i 0)).cell 0).toI (szA c k)<0)=false:=decide_eq_false (by
     show¬Lib.compareInt (szA c h) (szA c k)<0;unfold Lib.compareInt;rw [if_neg hc1];split<;>decide)
    rw [e5];exact b83 hc hr hk d m lo h (by omega) (by omega) h2 (by omega) (by omega)
  ·simp only [a81,b05,decide_eq_false hlt,e4I]
   rw [show lo=k by omega]
theorem c5n (hN:maxLen<N) (hc:c.length≤1000000) (hr:∀i j:Nat,i<j→j<c.length→szA c i<szA c j) {k:Nat} (hk:k<c.length):
  d2O N c (szA c k)=some (szA c k,((c.getD k (.i 0)).cell 1).toI,((c.getD k (.i 0)).cell 2).toI,((c.getD k (.i 0)).cell 3).toB,true):=by
 have hM:maxLen=9223372036854775807:=rfl;have h:=b83 (N:=N) hc hr hk c.length N 0 c.length (by omega) (by omega) (by omega) (by omega) (Nat.le_refl _)
 have h:c83 N c (szA c k) 0 (c.length:Int)=some (k:Int):=h;have hi:inB (k:Int) c.length=true:=a0M (by omega) (by omega)
 have h2:b8n N c (szA c k) (c.length:Int) (k:Int)=some true:=by
  unfold b8n b3y;rw [hi,decide_eq_true (by omega:(k:Int)<(c.length:Int))]
  simp only [e4H,a0b,c5m,Int.toNat_natCast];show some (Lib.compareInt (szA c k) (szA c k)==0)=_;unfold Lib.compareInt;rw [if_neg (by omega),if_neg (by omega)]
  rfl
 unfold d2O d2N e11 d2M;rw [h];simp only [a0b,e4M,e4H,getD_some,h2,hi,Int.toNat_natCast];rfl
end Go.Proofs.YtajladplkpfaiaaGreat
namespace Go.Proofs.YtajladplkpfaiaaGreat
open Go Go.AM
variable {N:Nat} {a b:List D}
def btr (x y:D):Bool:=bif (y.cell 3).toB then (bif !(x.cell 3).toB then true else decide ((y.cell 1).toI>(x.cell 1).toI)) else false
def e2y (x:D):D:= .a [.i (x.cell 0).toI,.i (x.cell 1).toI,.i (x.cell 2).toI,.b (x.cell 3).toB]
def c9Q (x y:D):D:=bif btr x y then e2y y else e2y x
def c09 (a b:List D):List D:=(List.range a.length).map fun i=>c9Q (a.getD i (.i 0)) (b.getD i (.i 0))
theorem c5o (hN:maxLen<N) (ha:a.length≤100) (hab:b.length=a.length) (hr:∀i j:Nat,i<j→j<a.length→szA a i<szA a j) (hs:∀i:Nat,i<a.length→szA b i=szA a i) (zs:List D) (hz:zs.length=a.length) (hg:∀i:Nat,i<a.length→(zs.getD i (.i 0)).toI=szA a i):
  ∀(d m i:Nat) (fl:Bool),d<m→i+d=a.length→
  a7W N (R:=Bool×LD) a b zs.length zs m i fl ((List.range i).map fun i=>c9Q (a.getD i (.i 0)) (b.getD i (.i 0))) (fun p=>some p)=some (bif decide (0<d) then false else fl,c09 a b)
 |d,0,i,fl,hm,_=>by omega
 |0,m+1,i,fl,hm,hi=>by
  have:¬((i:Int)<(zs.length:Int)):=by omega
  simp only [a7W,a99,decide_eq_false this,e4I];rw [show i=a.length by omega]
  rfl
 | d+1,m+1,i,fl,hm,hi=>by
  have hlt:(i:Int)<(zs.length:Int):=by omega
  have hin:inB (i:Int) zs.length=true:=a0M (by omega) (by omega)
  have hgz:(zs.getD ((i:Int)).toNat (.i 0)).toI=szA a i:=by rw [Int.toNat_natCast];exact hg i (by omega)
  have hw:IntKind.wrap .i64 ((i:Int)+1)=((i+1:Nat):Int):=(a0H (by omega) (by omega)).trans (by omega)
  have e1:=c5n (N:=N) (c:=a) hN (by omega) hr (k:=i) (by omega)
  have e2:=c5n (N:=N) (c:=b) hN (by omega) (fun i j h1 h2=>by rw [hs i (by omega),hs j (by omega)];exact hr i j h1 (by omega)) (k:=i) (by omega)
  rw [hs i (by omega)] at e2
  have hn:decide (((i:Int)).toNat<zs.length)=true:=decide_eq_true (by omega)
  have hrm:(decide ((i+1)*32≤a1K)&&decide ((i+1)≤a0g))=true:=by
   have e1:a1K=140737488355328:=rfl;have e2:a0g=9223372036854775807:=rfl;rw [decide_eq_true (by omega),decide_eq_true (by omega)];rfl
  have ih:=c5o hN ha hab hr hs zs hz hg d m (i+1) false (by omega) (by omega)
  simp only [a7W,a99,decide_eq_true hlt,e4H,hin,hn,a0b,hgz,e1,e2,e4M,getD_some,hw,List.length_map,List.length_range,hrm];refine Eq.trans (Eq.trans ?_ ih) (by rw [decide_eq_true (by omega:0<d+1)];cases decide (0<d)<;>rfl)
  rw [List.range_succ,List.map_append];have hb:=hs i (by omega)
  unfold szA at hb
  have hd:(.a [.i (a7V N (a7U N true true ((a.getD i (.i 0)).cell 1).toI ((a.getD i (.i 0)).cell 3).toB ((b.getD i (.i 0)).cell 1).toI ((b.getD i (.i 0)).cell 3).toB) (szA a i) ((a.getD i (.i 0)).cell 1).toI ((a.getD i (.i 0)).cell 2).toI ((a.getD i (.i 0)).cell 3).toB (szA a i) ((b.getD i (.i 0)).cell 1).toI ((b.getD i (.i 0)).cell 2).toI ((b.getD i (.i 0)).cell 3).toB).1,.i (a7V N (a7U N true true ((a.getD i (.i 0)).cell 1).toI ((a.getD i (.i 0)).cell 3).toB ((b.getD i (.i 0)).cell 1).toI ((b.getD i (.i 0)).cell 3).toB) (szA a i) ((a.getD i (.i 0)).cell 1).toI ((a.getD i (.i 0)).cell 2).toI ((a.getD i (.i 0)).cell 3).toB (szA a i) ((b.getD i (.i 0)).cell 1).toI ((b.getD i (.i 0)).cell 2).toI ((b.getD i (.i 0)).cell 3).toB).2.1,.i (a7V N (a7U N true true ((a.getD i (.i 0)).cell 1).toI ((a.getD i (.i 0)).cell 3).toB ((b.getD i (.i 0)).cell 1).toI ((b.getD i (.i 0)).cell 3).toB) (szA a i) ((a.getD i (.i 0)).cell 1).toI ((a.getD i (.i 0)).cell 2).toI ((a.getD i (.i 0)).cell 3).toB (szA a i) ((b.getD i (.i 0)).cell 1).toI ((b.getD i (.i 0)).cell 2).toI ((b.getD i (.i 0)).cell 3).toB).2.2.1,.b (a7V N (a7U N true true ((a.getD i (.i 0)).cell 1).toI ((a.getD i (.i 0)).cell 3).toB ((b.getD i (.i 0)).cell 1).toI ((b.getD i (.i 0)).cell 3).toB) (szA a i) ((a.getD i (.i 0)).cell 1).toI ((a.getD i (.i 0)).cell 2).toI ((a.getD i (.i 0)).cell 3).toB (szA a i) ((b.getD i (.i 0)).cell 1).toI ((b.getD i (.i 0)).cell 2).toI ((b.getD i (.i 0)).cell 3).toB).2.2.2]:D)=c9Q (a.getD i (.i 0)) (b.getD i (.i 0)):=by
   unfold c9Q e2y a7V b3z;rw [show a7U N true true ((a.getD i (.i 0)).cell 1).toI ((a.getD i (.i 0)).cell 3).toB ((b.getD i (.i 0)).cell 1).toI ((b.getD i (.i 0)).cell 3).toB=btr (a.getD i (.i 0)) (b.getD i (.i 0)) from rfl];cases btr (a.getD i (.i 0)) (b.getD i (.i 0)) with
   |false=>rfl
   |true=>simp only [e4H];unfold szA;rw [hb]
  rw [hd];rfl
end Go.Proofs.YtajladplkpfaiaaGreat
namespace Go.Proofs.YtajladplkpfaiaaGreat
open Go Go.AM
variable {N:Nat} {a b:List D}
theorem b5A {i:Nat} (h:i<a.length):((a.map a3L).getD i (.i 0)).toI=szA a i:=by
 rw [e4L,List.getElem?_map,e4R h];unfold szA;rw [e4L,e4R h];rfl
theorem c9C (h:szE (a.map a3L)=0):∀i:Nat,i+1<a.length→szA a i<szA a (i+1):=by
 intro i hi;unfold szE at h;obtain ⟨h1,h⟩:=b1W h (by decide)
 obtain ⟨h2,h⟩:=b1W h (by decide)
 have e:=a2p h (i+1) (by simp;omega)
 unfold c6E at e;obtain ⟨_,e⟩:=b1W e (by decide)
 have e:d4I (a.map a3L) (0+((i+1:Nat):Int))=false:=by
  cases hq:d4I (a.map a3L) (0+((i+1:Nat):Int)) with
  |false=>rfl
  |true=>rw [hq] at e;cases e
 unfold d4I at e;rw [decide_eq_true (by omega:(0+((i+1:Nat):Int))>0)] at e
 simp only [e4H,decide_eq_false_iff_not] at e;rw [show (0+((i+1:Nat):Int)).toNat=i+1 by omega,show (0+((i+1:Nat):Int)-1).toNat=i by omega,b5A (by omega),b5A (by omega)] at e
 omega
theorem d3R (h:szE (a.map a3L)=0):∀i j:Nat,i<j→j<a.length→szA a i<szA a j:=by
 intro i j hij hj;obtain ⟨k,rfl⟩:∃k,j=i+1+k:=⟨j-(i+1),by omega⟩
 induction k with
 |zero=>exact c9C h i hj
 |succ k ih=>exact Int.lt_trans (ih (by omega) (by omega)) (c9C h (i+1+k) (by omega))
theorem c9D (h:a87 a=0):szE (a.map a3L)=0:=(c2F h).1
theorem c5p:a.map a3L=(a.map fun x=>(x.cell 0).toI).map D.i:=by rw [List.map_map];rfl
theorem d3S (hN:maxLen<N) (ha:a87 a=0) (hb:a87 b=0) (hs:a.map a3L=b.map a3L):c6n N a b=some (false,c09 a b,0):=by
 have hM:maxLen=9223372036854775807:=rfl;have hza:=c9D ha;obtain ⟨n1,n2,_⟩:=b1Z hza;rw [List.length_map] at n2;have hab:b.length=a.length:=by have:=congrArg List.length hs;simpa using this.symm
 have hr:=d3R hza;have hsz:∀i:Nat,i<a.length→szA b i=szA a i:=fun i hi=>by rw [←b5A (by omega),←b5A hi,hs]
 have hpos:0<a.length:=by
  cases a with
  |nil=>exact absurd rfl n1
  |cons=>simp
 have hpw:(a.map fun x=>(x.cell 0).toI).Pairwise (· < ·):=by
  refine List.pairwise_iff_getElem.2 fun i j hi hj hij=> ?_
  simp only [List.length_map] at hi hj;have:=hr i j hij hj;unfold szA at this;rw [e4L,e4L,e4R hi,e4R hj] at this;simpa using this
 have hcat:a.map a3L++a.map a3L=((a.map fun x=>(x.cell 0).toI)++(a.map fun x=>(x.cell 0).toI)).map D.i:=by rw [List.map_append,←c5p]
 have hord:c81 N false (a.map a3L++a.map a3L)=some (a.map a3L):=by
  unfold c81 c6l;rw [hcat,d3Q (by simp;omega),c6G hpw,←c5p]
  rfl
 have hrm:(decide (((a.map a3L).length+(a.map a3L).length)*8≤a1K)&&decide (((a.map a3L).length+(a.map a3L).length)≤a0g))=true:=b5u (by simp;omega)
 have hloop:=c5o (N:=N) hN n2 hab hr hsz (a.map a3L) (by simp) (fun i hi=>b5A hi) a.length N 0 true (by omega) (by omega)
 rw [decide_eq_true hpos] at hloop;have hloop:c4M N a b (a.map a3L).length (a.map a3L) 0 true []=some (false,c09 a b):=hloop;have hml:(c09 a b).length=a.length:=by unfold c09;simp
 have hne:a.isEmpty=false:=by cases a with|nil=>exact absurd rfl n1|cons=>rfl
 have hmne:(a.map a3L).isEmpty=false:=by cases a with|nil=>exact absurd rfl n1|cons=>rfl
 unfold c6n c6m;rw [a8h hN (by omega),a8h hN (by omega),ha,hb,(c5k hN (by omega)).1,(c5k hN (by omega)).1,←hs]
 simp only [a0b,e4M,e4H,getD_some,c5i hN,hrm,hne,hmne,Bool.false_and,Bool.and_false,hord,hloop];rw [decide_eq_false (by omega:¬((c09 a b).length:Int)>100)]
 rfl
end Go.Proofs.YtajladplkpfaiaaGreat
namespace Go.Proofs.YtajladplkpfaiaaGreat
open Go Go.AM
variable {N:Nat} {a b:List D}
def e0o:List D→List D→List D
 |x::r,y::s=>c9Q x y::e0o r s
 |_,_=>[]
theorem c2W:∀(a b:List D),b.length=a.length→e0o a b=c09 a b
 | [],_,_=>rfl
 |x::r,[],h=>by simp at h
 |x::r,y::s,h=>by
  have ih:=c2W r s (by simpa using h)
  unfold c09 at ih⊢;rw [e0o,ih,e4U,List.range_succ_eq_map,List.map_cons,List.map_map];rfl
theorem c9E {x y:D} {r s acc:List D} (hxy:(x.cell 0).toI=(y.cell 0).toI) (hl:acc.length≤1000) (hr:r.length≤1000) (hs:s.length≤1000):
  b8t N (x::r) (y::s)=some false∧a84 N (x::r) (y::s) false acc=some (.inr (.inr (r,s,acc++[c9Q x y]))):=by
 have i1:inB 0 (x::r).length=true:=a0M (by omega) (by simp)
 have i2:inB 0 (y::s).length=true:=a0M (by omega) (by simp)
 have g1:((x::r).getD 0 (.i 0))=x:=rfl;have g2:((y::s).getD 0 (.i 0))=y:=rfl;have z1:(((x::r).length:Int)==0)=false:=by simp<;>omega
 have z2:(((y::s).length:Int)==0)=false:=by simp<;>omega
 have z3:decide (((x::r).length:Int)>0)=true:=decide_eq_true (by simp<;>omega)
 have t1:((decide (1≤((x::r).length:Int)))&&(decide (((x::r).length:Int)≤((x::r).length:Int))))=true:=by rw [decide_eq_true (by simp<;>omega),decide_eq_true (by omega)];rfl
 have t2:((decide (1≤((y::s).length:Int)))&&(decide (((y::s).length:Int)≤((y::s).length:Int))))=true:=by rw [decide_eq_true (by simp<;>omega),decide_eq_true (by omega)];rfl
 have d1:((x::r).take (((x::r).length:Int)).toNat).drop 1=r:=by rw [Int.toNat_natCast,List.take_length];rfl
 have d2:((y::s).take (((y::s).length:Int)).toNat).drop 1=s:=by rw [Int.toNat_natCast,List.take_length];rfl
 have hrm:(decide ((acc.length+1)*32≤a1K)&&decide ((acc.length+1)≤a0g))=true:=by
  have e1:a1K=140737488355328:=rfl;have e2:a0g=9223372036854775807:=rfl;rw [decide_eq_true (by omega),decide_eq_true (by omega)];rfl
 constructor
 ·unfold b8t b3E
  rw [z2,z3,i1,i2,g1,g2,decide_eq_false (by omega)]
  rfl
 ·have q1:b8u N (x::r) (y::s)=some false:=by
   unfold b8u b3F;rw [z1,i1,i2,g1,g2,decide_eq_false (by omega)]
   rfl
  have q2:b8v N (y::s) (d9E N (x.cell 1).toI (x.cell 3).toB (y.cell 1).toI (y.cell 3).toB) (x.cell 0).toI (x.cell 1).toI (x.cell 2).toI (x.cell 3).toB=some (bif btr x y then ((y.cell 0).toI,(y.cell 1).toI,(y.cell 2).toI,(y.cell 3).toB) else ((x.cell 0).toI,(x.cell 1).toI,(x.cell 2).toI,(x.cell 3).toB)):=by
   unfold b8v b3G;rw [i2,g2,show d9E N (x.cell 1).toI (x.cell 3).toB (y.cell 1).toI (y.cell 3).toB=btr x y from rfl];cases btr x y<;>rfl
  have q3:a83 N (x::r) (y::s) false acc=some (.inr (r,s,acc++[c9Q x y])):=by
   unfold a83 a59;simp only [e4I,i1,i2,e4H,g1,g2,a0b,q2,e4M,getD_some,hrm,t1,t2,d1,d2];unfold c9Q e2y;cases btr x y<;>rfl
  unfold a84 a6a;simp only [e4I,q1,a0b,e4M,e4H,getD_some,q3];rfl
theorem c1a:∀(r s:List D) (m:Nat) (fl:Bool) (acc:List D),r.map a3L=s.map a3L→r.length<m→acc.length+r.length≤1000→
  a75 N (R:=Bool×LD) m r s fl acc (fun p=>some p)=some (bif r.isEmpty then fl else false,acc++e0o r s)
 |_,_,0,_,_,_,hm,_=>by omega
 | [],s,m+1,fl,acc,h,_,_=>by
  have:s=[]:=by simpa using h.symm
  subst this;simp [a75,b0e,e0o,bnd]
 |x::r,[],m+1,fl,acc,h,_,_=>by simp at h
 |x::r,y::s,m+1,fl,acc,h,hm,hb=>by
  simp only [List.map_cons,List.cons.injEq] at h;obtain ⟨hxy,h⟩:=h;have hxy:(x.cell 0).toI=(y.cell 0).toI:=by unfold a3L at hxy;injection hxy
  have hsl:s.length=r.length:=by have:=congrArg List.length h;simpa using this.symm
  simp only [e4U] at hm hb;obtain ⟨q1,q2⟩:=c9E (N:=N) (x:=x) (y:=y) (r:=r) (s:=s) (acc:=acc) hxy (by omega) (by omega) (by omega)
  have z3:decide (((x::r).length:Int)>0)=true:=decide_eq_true (by simp<;>omega)
  have ih:=c1a r s m false (acc++[c9Q x y]) h (by omega) (by simp<;>omega)
  simp only [a75,b0e,z3,e4H,a0b,q1,e4M,getD_some,q2];refine Eq.trans ih ?_;rw [e0o,e4V];cases r<;>rfl
theorem e0p (hN:maxLen<N) (ha:a87 a=0) (hb:a87 b=0) (hs:a.map a3L=b.map a3L):c87 N a b=some (.inr (false,c09 a b)):=by
 have hM:maxLen=9223372036854775807:=rfl;obtain ⟨n1,n2,_⟩:=b1Z (c9D ha);rw [List.length_map] at n2;have hab:b.length=a.length:=by have:=congrArg List.length hs;simpa using this.symm
 have h:=c1a (N:=N) a b N true [] hs (by omega) (by simp<;>omega)
 have hne:a.isEmpty=false:=by cases a with|nil=>exact absurd rfl n1|cons=>rfl
 rw [hne,c2W a b hab] at h;have h:c4S N a b true []=some (false,c09 a b):=h;have hml:(c09 a b).length=a.length:=by unfold c09;simp
 unfold c87 c6p d20 c6o;rw [b0l hN (by omega),b0l hN (by omega),ha,hb]
 simp only [a0b,e4M,e4H,getD_some];rw [h];show (bif decide (((c09 a b).length:Int)>100) then _ else _)=_
 rw [decide_eq_false (by omega:¬((c09 a b).length:Int)>100)]
 rfl
end Go.Proofs.YtajladplkpfaiaaGreat
end
