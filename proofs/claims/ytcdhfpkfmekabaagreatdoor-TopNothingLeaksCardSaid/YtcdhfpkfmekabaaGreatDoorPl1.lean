/- A part of a proof of a law: lemmas. Conditions: those of each lemma. -/
import Derived.Test.YtcdhfpkfmekabaaGreatDoorLPp2
import Derived.KernelRfl
set_option linter.all false
set_option maxRecDepth 100000
set_option maxHeartbeats 4000000
noncomputable section
namespace Go.Proofs.YtcdhfpkfmekabaaGreatDoor
open Go Go.AM
variable {N:Nat}
def ltr (n:Int):Bool:=decide (97≤n∧n≤122∨65≤n∧n≤90∨48≤n∧n≤57∨n=45∨n=95∨n=46)
def a30 (s:List UInt8):Bool:=s.all (fun c=>ltr (c.toNat:Int))&&decide (1≤s.length∧s.length≤60)
def a2A (s:List UInt8):Bool:=s.all (fun c=>decide (32≤(c.toNat:Int)∧(c.toNat:Int)≤126))&&decide (s.length≤60)
def inI (n a b:Int):Bool:=decide (a≤n∧n≤b)
theorem b0V (hN:maxLen<N) {s:List UInt8} (hs:s.length≤maxLen):b3Z N s s.length 0=some (bif s.all (fun c=>ltr (c.toNat:Int)) then .inr () else .inl ()):=by
 unfold b3Z;refine (a03 (0:UInt8) (S:=fun w kr=>a5Q N s s.length w kr _ _) (L:=fun m w=>b3Y N s s.length m w _ _) (fun m w=>rfl) (fun _ l=>some (bif l.all (fun c=>ltr (c.toNat:Int)) then .inr () else .inl ())) hs ?_ ?_ hN).trans rfl
 ·intro kr;simp [a5Q]
 ·intro w kr h0 h1 hw hi hk
  simp only [a5Q,decide_eq_true h1,e59,hi,a0b,hw,hk,List.all_cons,b6L,a9c,c7A,b9u];generalize ((s.getD w.toNat 0).toNat:Int)=n;refine (b5F (c':= !ltr n) ?_).trans ?_
  ·rw [Bool.eq_iff_iff];simp [ltr];omega
  ·cases ltr n<;>rfl
theorem a7J (hN:maxLen<N) {s:List UInt8} (hs:s.length≤maxLen):c1m N s=some (a30 s):=by
 unfold c1m c7C;rw [b0V hN hs];unfold a30;cases s.all (fun c=>ltr (c.toNat:Int)) with
 |false=>rfl
 |true=>
  simp only [a0b,a0q,a0r,e59,e6a,e6e,Bool.true_and];congr 1
  rw [Bool.eq_iff_iff];simp;omega
theorem a3h (n a b:Int):a5c N n a b=inI n a b:=by
 unfold a5c c7D inI;rw [Bool.eq_iff_iff];simp
theorem b7Y (c:UInt8):IntKind.wrap .i64 (c.toNat:Int)=c.toNat:=a0u (by omega) (by have:=c.toNat_lt;omega)
theorem b7Z (hN:maxLen<N) {s:List UInt8} (hs:s.length≤maxLen):c7H N s=some (a2A s):=by
 have h:b33 N s s.length 0=some (bif s.all (fun c=>decide (32≤(c.toNat:Int)∧(c.toNat:Int)≤126)) then .inr () else .inl ()):=by
  unfold b33;refine (a03 (0:UInt8) (S:=fun w kr=>a5R N s s.length w kr _ _) (L:=fun m w=>b32 N s s.length m w _ _) (fun m w=>rfl) (fun _ l=>some (bif l.all (fun c=>decide (32≤(c.toNat:Int)∧(c.toNat:Int)≤126)) then .inr () else .inl ())) hs ?_ ?_ hN).trans rfl
  ·intro kr;simp [a5R]
  ·intro w kr h0 h1 hw hi hk
   simp only [a5R,decide_eq_true h1,e59,hi,a0b,hw,hk,List.all_cons,b7Y,a3h,inI];cases decide (32≤((s.getD w.toNat 0).toNat:Int)∧((s.getD w.toNat 0).toNat:Int)≤126)<;>rfl
 unfold c7H c7G;rw [h];unfold a2A;cases s.all (fun c=>decide (32≤(c.toNat:Int)∧(c.toNat:Int)≤126)) with
 |false=>rfl
 |true=>
  simp only [a0b,a0q,a0r,e59,e6a,e6e,Bool.true_and];congr 1
  rw [Bool.eq_iff_iff];simp;omega
def a0g (e:Int→Int):Int→List D→Int
 |_,[]=>0
 |w,_::r=>bif e w !=0 then e w else a0g e (w+1) r
def a2S (n:Int):Sum Int Unit:=bif n !=0 then .inl n else .inr ()
theorem a1W {e:Int→Int} {w:Int} {x:D} {l:List D}:a2S (a0g e w (x::l))=bif e w !=0 then .inl (e w) else a2S (a0g e (w+1) l):=by
 simp only [a0g];cases h:e w !=0 with
 |true=>simp only [e59,a2S,h]
 |false=>rfl
def b4t (xs:List D) (w:Int):Bool:=bif w==0 then ((xs.getD w.toNat (.i 0)).cell 0).toI !=0 else decide (((xs.getD w.toNat (.i 0)).cell 0).toI≤((xs.getD (w-1).toNat (.i 0)).cell 0).toI)
def b70 (s:D):Bool:=inI (s.cell 1).toI (-100000000) 100000000&&inI (s.cell 2).toI (-100000000) 100000000&&inI (s.cell 3).toI (-100000) 100000&&inI (s.cell 4).toI (-1) 300&&inI (s.cell 5).toI (-1) 3000&&inI (s.cell 6).toI (-1) 300
def b5P (start:Int) (s:D):Bool:=decide ((s.cell 0).toI>1000000)||decide (IntKind.wrap .i64 (start+(s.cell 0).toI)>86399999999)
def a7K (start:Int) (xs:List D) (w:Int):Int:=bif b4t xs w then 10 else bif b5P start (xs.getD w.toNat (.i 0))|| !b70 (xs.getD w.toNat (.i 0)) then 9 else 0
section
variable {xs:List D} {w:Int}
theorem a6P (h0:0≤w) (h1:w<xs.length) (hl:xs.length≤maxLen) (hp:w≠0):IntKind.wrap .i64 (w-1)=w-1∧inB (w-1) xs.length=true:=by
 have hm:maxLen=9223372036854775807:=rfl;exact ⟨a0u (by omega) (by omega),a0D (by omega) (by omega)⟩
theorem e4H (h0:0≤w) (h1:w<xs.length) (hl:xs.length≤maxLen):a4m N w (bif (w==0) then (((xs.getD w.toNat (.i 0)).cell 0).toI !=0) else false) xs ((xs.getD w.toNat (.i 0)).cell 0).toI=some (b4t xs w):=by
 unfold a4m a4l b6N a9d b4t;by_cases hw:w=0
 ·subst hw
  rw [decide_eq_false (by omega:¬((0:Int)>0))]
  simp only [beq_self_eq_true,e59];cases (((xs.getD (0:Int).toNat (.i 0)).cell 0).toI !=0)<;>rfl
 ·obtain ⟨e1,e2⟩:=a6P h0 h1 hl hw
  have:(w==0)=false:=by simpa using hw
  rw [this,decide_eq_true (by omega:w>0),e1,e2]
  rfl
theorem e4I (start:Int) (s:D):a9f N start (s.cell 0).toI (s.cell 1).toI (s.cell 2).toI (s.cell 3).toI (s.cell 4).toI (s.cell 5).toI (s.cell 6).toI=(b5P start s|| !b70 s):=by
 unfold a9f a9e d6f c7E c1n b30 c1o b31 b5P b70;simp only [a0b,a3h];cases decide ((s.cell 0).toI>1000000)<;>cases decide (IntKind.wrap .i64 (start+(s.cell 0).toI)>86399999999)<;>cases inI (s.cell 1).toI (-100000000) 100000000<;>cases inI (s.cell 2).toI (-100000000) 100000000<;>cases inI (s.cell 3).toI (-100000) 100000<;>cases inI (s.cell 4).toI (-1) 300<;>cases inI (s.cell 5).toI (-1) 3000<;>cases inI (s.cell 6).toI (-1) 300<;>rfl
theorem a8u (hN:maxLen<N) (start:Int) (hl:xs.length≤maxLen):a9h N xs xs.length start xs 0=some (a2S (a0g (a7K start xs) 0 xs)):=by
 unfold a9h;refine (a03 (.i 0:D) (S:=fun w kr=>a3X N xs xs.length start xs w kr _ _) (L:=fun m w=>a9g N xs xs.length start xs m w _ _) (fun m w=>rfl) (fun w l=>some (a2S (a0g (a7K start xs) w l))) hl ?_ ?_ hN).trans rfl
 ·intro kr;simp [a3X,a0g,a2S]
 ·intro w kr h0 h1 hw hi hk
  simp only [a3X,decide_eq_true h1,e59,hi,a0b,hw,hk,e4H h0 h1 hl,e6e,getD_some,e4I,a1W];unfold a7K;cases b4t xs w with
  |true=>rfl
  |false=>cases (b5P start (xs.getD w.toNat (.i 0))|| !b70 (xs.getD w.toNat (.i 0)))<;>rfl
def spanD (xs:List D):Int:=bif decide ((xs.length:Int)>0) then ((xs.getD ((xs.length:Int)-1).toNat (.i 0)).cell 0).toI else 0
theorem G29x0_eq (hl:xs.length≤maxLen):a8r N xs=some (spanD xs):=by
 have hm:maxLen=9223372036854775807:=rfl;unfold a8r c7F spanD;by_cases h:(xs.length:Int)>0
 ·rw [decide_eq_true h,a0u (by omega) (by omega),a0D (by omega) (by omega)];rfl
 ·rw [decide_eq_false h];rfl
def c3T (xs:List D) (w:Int):Bool:=bif decide (w>0) then decide (((xs.getD w.toNat (.i 0)).cell 0).toI<((xs.getD (w-1).toNat (.i 0)).cell 1).toI) else false
def c9M (span:Int) (s:D):Bool:=decide ((s.cell 0).toI<0)||decide ((s.cell 0).toI≥(s.cell 1).toI)||decide ((s.cell 1).toI>span)
def b48 (span:Int) (xs:List D) (w:Int):Int:=bif c9M span (xs.getD w.toNat (.i 0)) then 9 else bif c3T xs w then 10 else bif a2A ((xs.getD w.toNat (.i 0)).cell 2).toS then 0 else 8
theorem e4J (h0:0≤w) (h1:w<xs.length) (hl:xs.length≤maxLen):a9j N w xs ((xs.getD w.toNat (.i 0)).cell 0).toI=some (c3T xs w):=by
 unfold a9j a9i c3T;by_cases hw:w=0
 ·subst hw;rfl
 ·obtain ⟨e1,e2⟩:=a6P h0 h1 hl hw
  rw [decide_eq_true (by omega:w>0),e1,e2];rfl
theorem a8v (hN:maxLen<N) (span:Int) (hl:xs.length≤maxLen) (hn:∀x∈xs,(x.cell 2).toS.length≤maxLen):a9l N span xs xs.length xs 0=some (a2S (a0g (b48 span xs) 0 xs)):=by
 unfold a9l;refine (a03 (.i 0:D) (S:=fun w kr=>a3Y N span xs xs.length xs w kr _ _) (L:=fun m w=>a9k N span xs xs.length xs m w _ _) (fun m w=>rfl) (fun w l=>some (a2S (a0g (b48 span xs) w l))) hl ?_ ?_ hN).trans rfl
 ·intro kr;simp [a3Y,a0g,a2S]
 ·intro w kr h0 h1 hw hi hk
  have hmem:xs.getD w.toNat (.i 0)∈xs:=by rw [e6d,e6j (by omega)];exact List.getElem_mem _
  simp only [a3Y,decide_eq_true h1,e59,hi,a0b,hw,hk,e4J h0 h1 hl,b7Z hN (hn _ hmem),e6e,getD_some,a1W];unfold b48 c9M;generalize xs.getD w.toNat (.i 0)=s;cases decide ((s.cell 0).toI<0)<;>cases decide ((s.cell 0).toI≥(s.cell 1).toI)<;>cases decide ((s.cell 1).toI>span)<;>cases c3T xs w<;>cases a2A (s.cell 2).toS<;>rfl
def leS (a b:List UInt8):Bool:=Op.bytesLess a b||a==b
def c9N (xs:List D) (w:Int):Bool:=bif decide (w>0) then leS (xs.getD w.toNat (.i 0)).toS (xs.getD (w-1).toNat (.i 0)).toS else false
def c1I (xs:List D) (w:Int):Int:=bif a30 (xs.getD w.toNat (.i 0)).toS then (bif c9N xs w then 10 else 0) else 8
theorem c8N (h0:0≤w) (h1:w<xs.length) (hl:xs.length≤maxLen):(bif (inB (IntKind.wrap .i64 (w-1)) xs.length) then true else (!((decide (w>0))==true)))=true∧(bif (decide (w>0)) then ((Op.bytesLess (xs.getD w.toNat (.i 0)).toS (xs.getD (IntKind.wrap .i64 (w-1)).toNat (.i 0)).toS)||((xs.getD w.toNat (.i 0)).toS==(xs.getD (IntKind.wrap .i64 (w-1)).toNat (.i 0)).toS)) else false)=c9N xs w:=by
 unfold c9N leS;by_cases hw:w=0
 ·subst hw
  rw [decide_eq_false (by omega:¬((0:Int)>0))]
  refine ⟨?_,rfl⟩;cases inB (IntKind.wrap .i64 (0-1)) xs.length<;>rfl
 ·obtain ⟨e1,e2⟩:=a6P h0 h1 hl hw
  rw [decide_eq_true (by omega:w>0),e1,e2]
  exact ⟨rfl,rfl⟩
theorem a8w (hN:maxLen<N) (hl:xs.length≤maxLen) (hn:∀x∈xs,x.toS.length≤maxLen):a9n N xs xs.length xs 0=some (a2S (a0g (c1I xs) 0 xs)):=by
 unfold a9n;refine (a03 (.i 0:D) (S:=fun w kr=>a3Z N xs xs.length xs w kr _ _) (L:=fun m w=>a9m N xs xs.length xs m w _ _) (fun m w=>rfl) (fun w l=>some (a2S (a0g (c1I xs) w l))) hl ?_ ?_ hN).trans rfl
 ·intro kr;simp [a3Z,a0g,a2S]
 ·intro w kr h0 h1 hw hi hk
  have hmem:xs.getD w.toNat (.i 0)∈xs:=by rw [e6d,e6j (by omega)];exact List.getElem_mem _
  obtain ⟨t1,t2⟩:=c8N h0 h1 hl;simp only [a3Z,decide_eq_true h1,e59,hi,a0b,hw,hk,a7J hN (hn _ hmem),e6e,getD_some,a1W,t2];unfold c1I;rw [t1];cases a30 (xs.getD w.toNat (.i 0)).toS<;>cases c9N xs w<;>rfl
end
def chkA (name:List UInt8) (sport start:Int) (smps laps tags:List D):Int:=
 bif !a30 name then 8 else bif !inI sport 1 5 then 7 else bif !inI start 0 86399999999 then 9 else
 bif decide ((smps.length:Int)>20000)||decide ((laps.length:Int)>200)||decide ((tags.length:Int)>20) then 3 else
 bif a0g (a7K start smps) 0 smps !=0 then a0g (a7K start smps) 0 smps else
 bif a0g (b48 (spanD smps) laps) 0 laps !=0 then a0g (b48 (spanD smps) laps) 0 laps else a0g (c1I tags) 0 tags
structure ActOk (name:List UInt8) (smps laps tags:List D):Prop where
 n:name.length≤maxLen
 s:smps.length≤maxLen
 l:laps.length≤maxLen
 t:tags.length≤maxLen
 ln:∀x∈laps,(x.cell 2).toS.length≤maxLen
 tn:∀x∈tags,x.toS.length≤maxLen
theorem c3U {α:Type} (n:Int) (k0:Int→α) (k1:α) (z:α):(bif a0U (some (a2S n)) then k0 (a1E (some (a2S n))) else bif (a0n (some (a2S n))).isSome then k1 else z)=bif n !=0 then k0 n else k1:=by
 unfold a2S;cases n !=0<;>rfl
section
variable {name:List UInt8} {sport start:Int} {smps laps tags:List D}
theorem G37x0_eq (hN:maxLen<N) (h:ActOk name smps laps tags):b1Q N name sport start smps laps tags=some (chkA name sport start smps laps tags):=by
 unfold b1Q c7I;simp only [a0b,a7J hN h.n,e6e,e59,getD_some,a3h,a8u hN start h.s,G29x0_eq h.s,a8v hN _ h.l h.ln,a8w hN h.t h.tn,c3U];unfold chkA;cases a30 name<;>cases inI sport 1 5<;>cases inI start 0 86399999999<;>cases decide ((smps.length:Int)>20000)<;>cases decide ((laps.length:Int)>200)<;>cases decide ((tags.length:Int)>20)<;>try rfl
 cases a0g (a7K start smps) 0 smps !=0<;>cases a0g (b48 (spanD smps) laps) 0 laps !=0<;>cases h3:a0g (c1I tags) 0 tags !=0<;>first|rfl|(simp only [bne_eq_false_iff_eq] at h3;simp [h3])
end
end Go.Proofs.YtcdhfpkfmekabaaGreatDoor
namespace Go.Proofs.YtcdhfpkfmekabaaGreatDoor
open Go Go.AM
variable {N:Nat}
def a2i (f:D→D→Bool):List D→List D→Bool
 |x::r,y::s=>f x y&&a2i f r s
 |_,_=>true
def eqL (f:D→D→Bool) (xs ys:List D):Bool:=(xs.length==ys.length)&&a2i f xs ys
theorem b4u {xs ys:List D} (f:D→D→Bool) {S:Int→(Int→Option (Sum Unit Unit))→Option (Sum Unit Unit)} {L:Nat→Int→Option (Sum Unit Unit)} (hL:∀m a,L (m+1) a=S a (L m)) (hlen:xs.length≤maxLen) (hxy:xs.length=ys.length)
  (hend:∀kr,S xs.length kr=some (.inr ()))
  (hstep:∀(w:Int) (kr:Int→Option (Sum Unit Unit)),decide (w<xs.length)=true→inB w xs.length=true→inB w ys.length=true→S w kr=bif f (xs.getD w.toNat (.i 0)) (ys.getD w.toNat (.i 0)) then kr (IntKind.wrap .i64 (w+1)) else some (.inl ()))
  (hN:maxLen<N):L N 0=some (bif a2i f xs ys then .inr () else .inl ()):=by
 refine (a03 (.i 0:D) hL (fun w l=>some (bif a2i f l (ys.drop w.toNat) then .inr () else .inl ())) hlen ?_ ?_ hN).trans (by simp)
 ·intro kr;rw [hend];simp [a2i]
 ·intro w kr h0 h1 hw hi hk
  have h2:w<ys.length:=by omega
  rw [hstep w kr (decide_eq_true h1) hi (a0D h0 (by omega)),hw,hk,a2I (.i 0) (xs:=ys) h0 h2]
  simp only [a2i];cases f (xs.getD w.toNat (.i 0)) (ys.getD w.toNat (.i 0))<;>rfl
def d2S (x y:D):Bool:=((x.cell 0).toI==(y.cell 0).toI)&&(((x.cell 1).toI==(y.cell 1).toI)&&(((x.cell 2).toI==(y.cell 2).toI)&&(((x.cell 3).toI==(y.cell 3).toI)&&(((x.cell 4).toI==(y.cell 4).toI)&&(((x.cell 5).toI==(y.cell 5).toI)&&(((x.cell 6).toI==(y.cell 6).toI)&&true))))))
def d2T (x y:D):Bool:=((x.cell 0).toI==(y.cell 0).toI)&&(((x.cell 1).toI==(y.cell 1).toI)&&(((x.cell 2).toS==(y.cell 2).toS)&&true))
def d2U (x y:D):Bool:=x.toS==y.toS
section
variable {xs ys:List D}
theorem b4v:((xs.length:Int) !=(ys.length:Int))= !(xs.length==ys.length):=by
 rw [Bool.eq_iff_iff];simp;omega
end
def c8O (n:List UInt8) (sp st:Int) (s l t:List D) (n':List UInt8) (sp' st':Int) (s' l' t':List D):Bool:=
 (n==n')&&(sp==sp')&&(st==st')&&eqL d2S s s'&&eqL d2T l l'&&eqL d2U t t'
section
variable {n n':List UInt8} {sp st sp' st':Int} {s l t s' l' t':List D}
theorem b4w {f:D→D→Bool} (hf:∀x,f x x=true):∀l,a2i f l l=true
 | []=>rfl
 |x::r=>by simp only [a2i,hf,b4w hf r,Bool.and_self]
theorem b22 {f:D→D→Bool} (hf:∀x,f x x=true) (l:List D):eqL f l l=true:=by
 unfold eqL;rw [b4w hf];simp
theorem c5A:c8O n sp st s l t n sp st s l t=true:=by
 unfold c8O;rw [b22 (fun x=>by simp [d2S]),b22 (fun x=>by simp [d2T]),b22 (fun x=>by simp [d2U])]
 simp
end
end Go.Proofs.YtcdhfpkfmekabaaGreatDoor
namespace Go.Proofs.YtcdhfpkfmekabaaGreatDoor
open Go Go.AM
variable {N:Nat}
theorem a3i (n a b:Int):b1P N n a b=inI n a b:=by
 unfold b1P d0I inI;rw [Bool.eq_iff_iff];simp
def d2V (kd x y r hf ht n:Int) (s:List UInt8):Bool:=
 (kd==1||(x==0&&y==0&&r==0))&&(kd==2||(hf==0&&ht==0))&&(kd==3||kd==5||kd==8||n==0)&&(kd==4||s==[])
def c5B (kd x y r hf ht n:Int) (s:List UInt8):Int:=
 bif kd==1 then (bif inI x (-100000000) 100000000&&inI y (-100000000) 100000000&&inI r 0 1000000 then 0 else 9)
 else bif kd==2 then (bif decide (hf<0)||decide (hf>ht)||decide (ht≥86400) then 9 else 0)
 else bif kd==3 then (bif inI n 1 4 then 0 else 9)
 else bif kd==8 then (bif inI n 1 1000000 then 0 else 9)
 else bif kd==5 then (bif inI n 1 5 then 0 else 7)
 else bif kd==4 then (bif a30 s then 0 else 8) else 0
def c5C (fr kd x y r hf ht n:Int) (s:List UInt8):Int:=
 bif !inI kd 1 8 then 7 else bif !inI fr 1 3 then 9 else bif c5B kd x y r hf ht n s !=0 then c5B kd x y r hf ht n s else bif d2V kd x y r hf ht n s then 0 else 2
theorem d2W {kd:Int} (h:inI kd 1 8=true):kd=1∨kd=2∨kd=3∨kd=4∨kd=5∨kd=6∨kd=7∨kd=8:=by
 have:=of_decide_eq_true h;omega
section
variable {fr kd x y r hf ht n:Int} {s:List UInt8}
theorem d2X (hN:maxLen<N) (hs:s.length≤maxLen):d56 N fr kd x y r hf ht n s=some (c5C fr kd x y r hf ht n s):=by
 unfold d56 d0K;simp only [a0b,a3i];unfold c5C;cases hk:inI kd 1 8 with
 |false=>rfl
 |true=>
 cases hfr:inI fr 1 3 with
 |false=>rfl
 |true=>
 unfold c5B d2V;rcases d2W hk with rfl|rfl|rfl|rfl|rfl|rfl|rfl|rfl
 ·unfold a1V a1a c22 b15
  simp only [a0b,a3i,beq_self_eq_true,Int.reduceBEq,e59,e6a];cases inI x (-100000000) 100000000<;>cases inI y (-100000000) 100000000<;>cases inI r 0 1000000<;>(try rfl)<;>simp only [a0H,a0q,a0M,a0r,e6e,getD_some,e59,e6a,Bool.not_true,Bool.not_false]<;>cases hf==0<;>cases ht==0<;>cases n==0<;>cases s==[]<;>rfl
 ·unfold a1V a1a a18 a1z
  simp only [a0b,beq_self_eq_true,Int.reduceBEq,e59,e6a];cases decide (hf<0)<;>cases decide (hf>ht)<;>cases decide (ht≥86400)<;>(try rfl)<;>simp only [a0H,a0q,a0M,a0r,e6e,getD_some,e59,e6a,Bool.not_true,Bool.not_false]<;>cases x==0<;>cases y==0<;>cases r==0<;>cases n==0<;>cases s==[]<;>rfl
 ·unfold a1V a1a a18 a1z a2u a1U
  simp only [a0b,a3i,beq_self_eq_true,Int.reduceBEq,e59,e6a];cases inI n 1 4<;>(try rfl)<;>simp only [a0H,a0q,a0M,a0r,e6e,getD_some,e59,e6a,Bool.not_true,Bool.not_false]<;>cases hf==0<;>cases ht==0<;>cases x==0<;>cases y==0<;>cases r==0<;>cases s==[]<;>rfl
 ·unfold a1V a1a a18 a1z a2u a1U a3d a17 a4k a2t b16 a7d
  simp only [a0b,a3i,a7J hN hs,beq_self_eq_true,Int.reduceBEq,e59,e6a];cases a30 s<;>(try rfl)<;>simp only [a0H,a0q,a0M,a0r,e6e,getD_some,e59,e6a,Bool.not_true,Bool.not_false]<;>cases hf==0<;>cases ht==0<;>cases x==0<;>cases y==0<;>cases r==0<;>cases n==0<;>rfl
 ·unfold a1V a1a a18 a1z a2u a1U a3d a17 a4k a2t
  simp only [a0b,a3i,beq_self_eq_true,Int.reduceBEq,e59,e6a];cases inI n 1 5<;>(try rfl)<;>simp only [a0H,a0q,a0M,a0r,e6e,getD_some,e59,e6a,Bool.not_true,Bool.not_false]<;>cases hf==0<;>cases ht==0<;>cases x==0<;>cases y==0<;>cases r==0<;>cases s==[]<;>rfl
 ·unfold a1V a1a a18 a1z a2u a1U a3d a17 a4k a2t b16 a7d
  simp only [a0b,a3i,beq_self_eq_true,Int.reduceBEq,e59,e6a];simp only [a0H,a0q,a0M,a0r,e6e,getD_some,e59,e6a,Bool.not_true,Bool.not_false];cases hf==0<;>cases ht==0<;>cases x==0<;>cases y==0<;>cases r==0<;>cases n==0<;>cases s==[]<;>rfl
 ·unfold a1V a1a a18 a1z a2u a1U a3d a17 a4k a2t b16 a7d
  simp only [a0b,a3i,beq_self_eq_true,Int.reduceBEq,e59,e6a];simp only [a0H,a0q,a0M,a0r,e6e,getD_some,e59,e6a,Bool.not_true,Bool.not_false];cases hf==0<;>cases ht==0<;>cases x==0<;>cases y==0<;>cases r==0<;>cases n==0<;>cases s==[]<;>rfl
 ·unfold a1V a1a a18 a1z a2u a1U a3d a17
  simp only [a0b,a3i,beq_self_eq_true,Int.reduceBEq,e59,e6a];cases inI n 1 1000000<;>(try rfl)<;>simp only [a0H,a0q,a0M,a0r,e6e,getD_some,e59,e6a,Bool.not_true,Bool.not_false]<;>cases hf==0<;>cases ht==0<;>cases x==0<;>cases y==0<;>cases r==0<;>cases s==[]<;>rfl
end
end Go.Proofs.YtcdhfpkfmekabaaGreatDoor
namespace Go.Proofs.YtcdhfpkfmekabaaGreatDoor
open Go Go.AM
variable {N:Nat}
theorem a3j {α A X:Type} {xs:List α} (d:α) {S:Int→A→(Int→A→X)→X} {L:Nat→Int→A→X} (hL:∀m w a,L (m+1) w a=S w a (L m)) (spec:Int→List α→A→X) (Inv:Int→A→Prop) (hlen:xs.length≤maxLen)
  (hend:∀a kr,Inv xs.length a→S xs.length a kr=spec xs.length [] a)
  (hstep:∀(w:Int) (a:A) (kr:Int→A→X),0≤w→w<xs.length→IntKind.wrap .i64 (w+1)=w+1→inB w xs.length=true→Inv w a→(∀a',Inv (w+1) a'→kr (w+1) a'=spec (w+1) (xs.drop (w+1).toNat) a')→S w a kr=spec w (xs.getD w.toNat d::xs.drop (w+1).toNat) a)
  (hN:maxLen<N) {a:A} (h0:Inv 0 a):L N 0 a=spec 0 xs a:=by
 have hm:maxLen=9223372036854775807:=rfl;have:=a5P (A:=Int×A) (X:=X) (S:=fun p kr=>S p.1 p.2 (fun w a=>kr (w,a))) (L:=fun m p=>L m p.1 p.2) (fun m p=>hL m p.1 p.2) (fun p=>spec p.1 (xs.drop p.1.toNat) p.2) (fun p=>0≤p.1∧p.1≤xs.length∧Inv p.1 p.2) (fun p=>(xs.length-p.1).toNat) (fun ⟨w,a⟩ kr ⟨h0,h1,hi⟩ ih=>by
  simp only at h0 h1 hi ih⊢;by_cases hw:w<xs.length
  ·rw [a2I d h0 hw]
   exact hstep w a _ h0 hw (a0u (by omega) (by omega)) (a0D h0 hw) hi fun a' ha'=>ih (w+1,a') ⟨by simp only;omega,by simp only;omega,ha'⟩ (by simp only;omega)
  ·have:w=xs.length:=by omega
   subst this;rw [a2f (by omega)]
   exact hend a _ hi) N (0,a) ⟨Int.le_refl _,by simp only;omega,h0⟩ (by simp only;omega)
 simpa using this
abbrev c8P (x:D):Int:=(x.cell 0).toI
abbrev a1A (x:D):Int:=(x.cell 1).toI
abbrev rX (x:D):Int:=(x.cell 2).toI
abbrev rY (x:D):Int:=(x.cell 3).toI
abbrev rR (x:D):Int:=(x.cell 4).toI
abbrev rHf (x:D):Int:=(x.cell 5).toI
abbrev rHt (x:D):Int:=(x.cell 6).toI
abbrev rN (x:D):Int:=(x.cell 7).toI
abbrev rT (x:D):List UInt8:=(x.cell 8).toS
def c1J (x:D):Int:=c5C (c8P x) (a1A x) (rX x) (rY x) (rR x) (rHf x) (rHt x) (rN x) (rT x)
def c3V (xs:List D):Int:=bif decide ((xs.length:Int)>50) then 3 else a0g (fun w=>c1J (xs.getD w.toNat (.i 0))) 0 xs
structure a6Q (xs:List D):Prop where
 l:xs.length≤maxLen
 t:∀x∈xs,(rT x).length≤maxLen
theorem a1u {xs:List D} {w:Int} (h0:0≤w) (h1:w<xs.length):xs.getD w.toNat (.i 0)∈xs:=by
 rw [e6d,e6j (by omega)];exact List.getElem_mem _
section
variable {xs:List D}
theorem c1K (hN:maxLen<N) (h:a6Q xs):b6M N xs xs.length 0=some (a2S (a0g (fun w=>c1J (xs.getD w.toNat (.i 0))) 0 xs)):=by
 unfold b6M;refine (a03 (.i 0:D) (S:=fun w kr=>a7e N xs xs.length w kr _ _) (L:=fun m w=>b17 N xs xs.length m w _ _) (fun m w=>rfl) (fun w l=>some (a2S (a0g (fun w=>c1J (xs.getD w.toNat (.i 0))) w l))) h.l ?_ ?_ hN).trans rfl
 ·intro kr;simp [a7e,a0g,a2S]
 ·intro w kr h0 h1 hw hi hk
  simp only [a7e,decide_eq_true h1,e59,hi,a0b,hw,hk,d2X hN (h.t _ (a1u h0 h1)),e6e,getD_some,a1W];unfold c1J;generalize c5C _ _ _ _ _ _ _ _ _=e;cases e !=0<;>rfl
theorem c8Q (b:Bool) (e:Int):(bif b then some (3:Int) else bif a0U (some (a2S e)) then some (a1E (some (a2S e))) else bif (a0n (some (a2S e))).isSome then some 0 else none)=some (bif b then 3 else e):=by
 unfold a2S;cases b with
 |true=>rfl
 |false=>
  cases h:e !=0 with
  |true=>rfl
  |false=>simp only [bne_eq_false_iff_eq] at h;subst h;rfl
theorem d2Y (hN:maxLen<N) (h:a6Q xs):d59 N xs=some (c3V xs):=by
 unfold d59 d0L c3V;simp only [a0b,c1K hN h];exact c8Q _ _
theorem a0I {e:Int→Int}:∀{l:List D} {w:Int},a0g e w l=0→ ∀i:Nat,i<l.length→e (w+i)=0
 | [],_,_,i,hi=>by simp at hi
 | _::r,w,h,i,hi=>by
  simp only [a0g] at h;cases he:e w !=0 with
  |true=>rw [he] at h;simp only [e59] at h;rw [h] at he;cases he
  | false=>
   rw [he] at h;simp only [e6a] at h;simp only [bne_eq_false_iff_eq] at he;cases i with
   |zero=>simpa using he
   |succ i=>
    have:=a0I h i (by simpa using hi)
    rw [show w+((i+1:Nat):Int)=w+1+(i:Int) by omega]
    exact this
structure a4n (xs:List D):Prop where
 l:xs.length≤50
 r:∀w:Int,0≤w→w<xs.length→c1J (xs.getD w.toNat (.i 0))=0
theorem d2Z (h:c3V xs=0):a4n xs:=by
 unfold c3V at h;by_cases hl:(xs.length:Int)>50
 ·rw [decide_eq_true hl] at h;cases h
 ·rw [decide_eq_false hl] at h
  simp only [e6a] at h;refine ⟨by omega,fun w h0 h1=> ?_⟩
  have:=a0I h w.toNat (by omega)
  rw [show (0:Int)+(w.toNat:Int)=w by omega] at this
  exact this
theorem a4n.mem (h:a4n xs) {x:D} (hx:x∈xs):c1J x=0:=by
 obtain ⟨i,hi,rfl⟩:=List.getElem_of_mem hx;have:=h.r i (by omega) (by omega)
 rw [e6d] at this;simpa [e6j hi] using this
end
theorem c5D {fr kd x y r hf ht n:Int} {s:List UInt8} (h:c5C fr kd x y r hf ht n s=0):inI kd 1 8=true∧inI fr 1 3=true∧c5B kd x y r hf ht n s=0∧d2V kd x y r hf ht n s=true:=by
 unfold c5C at h;cases h1:inI kd 1 8 with
 |false=>rw [h1] at h;cases h
 |true=>
 cases h2:inI fr 1 3 with
 |false=>rw [h1,h2] at h;cases h
 |true=>
 rw [h1,h2] at h;cases h3:c5B kd x y r hf ht n s !=0 with
 |true=>rw [h3] at h;simp only [Bool.not_true,e6a,e59] at h;rw [h] at h3;cases h3
 |false=>
  rw [h3] at h;cases h4:d2V kd x y r hf ht n s with
  |false=>rw [h4] at h;cases h
  |true=>exact ⟨rfl,rfl,by simpa using h3,rfl⟩
section
variable {xs:List D} {k:Int}
theorem d4O {n sz:Nat} (hn:n≤50) (hs:sz≤1000):(decide ((n+1)*sz≤a0X)&&decide ((n+1)≤a0c))=true:=by
 have h1:(n+1)*sz≤51*1000:=Nat.mul_le_mul (by omega) hs
 have h2:a0X=140737488355328:=rfl;have h3:a0c=9223372036854775807:=rfl;rw [decide_eq_true (by omega),decide_eq_true (by omega)];rfl
def reR (x:D):D:= .a [.i (c8P x),.i (a1A x),.i (rX x),.i (rY x),.i (rR x),.i (rHf x),.i (rHt x),.i (rN x),.s (rT x)]
end
section
variable {xs ys:List D}
end
end Go.Proofs.YtcdhfpkfmekabaaGreatDoor
namespace Go.Proofs.YtcdhfpkfmekabaaGreatDoor
open Go Go.AM
variable {N:Nat}
section
variable {xs:List D}
end
section
variable {a b:Bool} {v u:List D}
end
end Go.Proofs.YtcdhfpkfmekabaaGreatDoor
namespace Go.Proofs.YtcdhfpkfmekabaaGreatDoor
open Go Go.AM
variable {N:Nat}
def a3e (p:D→Bool) (f:D→D):List D→Bool×List D→Bool×List D
 | [],a=>a
 |x::r,a=>a3e p f r (bif p x then (false,a.2++[f x]) else a)
theorem a5s (p:D→Bool) (f:D→D):∀(l:List D) (a:Bool×List D),(a3e p f l a).2=a.2++(l.filter p).map f
 | [],a=>by simp [a3e]
 |x::r,a=>by
  simp only [a3e];rw [a5s p f r];cases h:p x<;>simp [List.filter_cons,h]
def e2r (lv:Int) (r:D):Bool:=decide (c8P r≤lv)
def a5t (xs:List D) (lv:Int):List D:=(xs.filter (e2r lv)).map reR
theorem c8R {a:Bool×List D} {l:List D} (h:a.2=l):a=(a.1,l):=by rw [←h]
section
variable {xs:List D} {lv:Int}
theorem e2s (h:xs.length≤50):xs.length≤maxLen:=by have hm:maxLen=9223372036854775807:=rfl;omega
theorem c3W (hN:maxLen<N) (h:xs.length≤50):∃b,d0P N xs lv=some (b,a5t xs lv):=by
 have e:c1p N lv xs xs.length 0 true []=some (a3e (e2r lv) reR xs (true,[])):=by
  unfold c1p;refine a3j (.i 0:D) (A:=Bool×List D) (S:=fun w a kr=>b0B N lv xs xs.length w a.1 a.2 (fun w b l=>kr w (b,l)) _) (L:=fun m w a=>b6P N lv xs xs.length m w a.1 a.2 _) (fun m w a=>rfl) (fun w l a=>some (a3e (e2r lv) reR l a)) (fun w a=>(a.2.length:Int)≤w) (e2s h) ?_ ?_ hN (a:=(true,[])) (by simp)
  ·intro a kr _;simp [b0B,a3e]
  ·intro w a kr h0 h1 hw hi ha hk
   simp only [b0B,decide_eq_true h1,e59,hi,a0b,hw,c23,b19,a3e];show _=some (a3e _ _ _ (bif decide (c8P (xs.getD w.toNat (.i 0))≤lv) then _ else _))
   cases hb:decide (c8P (xs.getD w.toNat (.i 0))≤lv) with
   |true=>
    rw [d4O (by omega) (by omega)]
    exact hk (false,a.2++[reR (xs.getD w.toNat (.i 0))]) (by simp;omega)
   |false=>exact hk a (by omega)
 refine ⟨(a3e (e2r lv) reR xs (true,[])).1,?_⟩;unfold d0P d0O;rw [e];have:=a5s (e2r lv) reR xs (true,[]);rw [List.nil_append] at this;exact congrArg some (c8R this)
theorem c3X:(a5t xs lv).length≤xs.length:=by unfold a5t;rw [List.length_map];exact List.length_filter_le _ _
end
def b1S (P:D→Bool):Int→List D→Int
 |_,[]=> -1
 |w,x::r=>bif P x then w else b1S P (w+1) r
theorem a6R (P:D→Bool):∀(l:List D) (w:Int),0≤w→decide (b1S P w l≥0)=l.any P
 | [],w,_=>by simp [b1S]
 | x::r,w,h=>by
  by_cases hp:P x=true
  ·simp [b1S,hp,h]
  ·have hp:=eq_false_of_ne_true hp
   have:=a6R P r (w+1) (by omega)
   simp only [b1S,List.any_cons,hp,e6a,Bool.false_or];exact this
def c0C (P:D→Bool) (w:Int) (l:List D):Sum Int Unit:=bif l.any P then .inl (b1S P w l) else .inr ()
theorem b4x {P:D→Bool} {w:Int} {x:D} {l:List D}:c0C P w (x::l)=bif P x then .inl w else c0C P (w+1) l:=by
 simp only [c0C,List.any_cons,b1S];cases P x<;>rfl
theorem b71 (P:D→Bool) (l:List D):(bif a0U (some (c0C P 0 l)) then some (a1E (some (c0C P 0 l))) else bif (a0n (some (c0C P 0 l))).isSome then some (-1:Int) else none)=some (b1S P 0 l):=by
 unfold c0C;have:=a6R P l 0 (by omega)
 cases h:l.any P with
 |true=>rfl
 | false=>
  rw [h] at this;have hn:b1S P 0 l= -1:=by
   clear this;have:∀(l:List D) (w:Int),l.any P=false→b1S P w l= -1:=by
    intro l;induction l with
    |nil=>intro w _;rfl
    |cons x r ih=>
     intro w hx;simp only [List.any_cons,Bool.or_eq_false_iff] at hx;simp only [b1S,hx.1,e6a];exact ih _ hx.2
   exact this l 0 h
  rw [hn];rfl
section
variable {xs:List D}
theorem c8S (hN:maxLen<N) (hl:xs.length≤maxLen) (s:List UInt8):c7K N xs s=some (b1S (fun t=>s==t.toS) 0 xs):=by
 have e:b6Q N xs s xs.length 0=some (c0C (fun t=>s==t.toS) 0 xs):=by
  unfold b6Q;refine (a03 (.i 0:D) (S:=fun w kr=>a7g N xs s xs.length w kr _ _) (L:=fun m w=>b2a N xs s xs.length m w _ _) (fun m w=>rfl) (fun w l=>some (c0C (fun t=>s==t.toS) w l)) hl ?_ ?_ hN).trans rfl
  ·intro kr;simp [a7g,c0C]
  ·intro w kr h0 h1 hw hi hk
   simp only [a7g,decide_eq_true h1,e59,hi,hw,hk,b4x];cases s==(xs.getD w.toNat (.i 0)).toS<;>rfl
 unfold c7K c24;rw [e];exact b71 _ _
theorem d20 (hN:maxLen<N) (hl:xs.length≤maxLen) (s:List UInt8):d6D N xs s=some (xs.any fun t=>s==t.toS):=by
 unfold d6D d0S;rw [c8S hN hl];simp only [a0b,e6e,getD_some,e59,a6R _ _ 0 (by omega)]
def a1f (sport:Int) (tags:List D) (r:D):Bool:=bif a1A r==5 then sport==rN r else bif a1A r==4 then tags.any (fun t=>rT r==t.toS) else false
theorem d21 (hN:maxLen<N) {tags:List D} (ht:tags.length≤maxLen) (sport:Int) (r:D):d6H N (a1A r) (rN r) (rT r) sport tags=some (a1f sport tags r):=by
 unfold d6H d0U c7L b6R a1f e1b d0T;simp only [a0b,d20 hN ht];cases a1A r==5 with
 |true=>rfl
 |false=>cases a1A r==4<;>rfl
theorem d22 (hN:maxLen<N) (hl:xs.length≤maxLen) {tags:List D} (ht:tags.length≤maxLen) (sport:Int):d6L N xs sport tags=some (xs.any (a1f sport tags)):=by
 have e:c1q N xs xs.length sport tags 0=some (c0C (a1f sport tags) 0 xs):=by
  unfold c1q;refine (a03 (.i 0:D) (S:=fun w kr=>b0C N xs xs.length sport tags w kr _ _) (L:=fun m w=>b6S N xs xs.length sport tags m w _ _) (fun m w=>rfl) (fun w l=>some (c0C (a1f sport tags) w l)) hl ?_ ?_ hN).trans rfl
  ·intro kr;simp [b0C,c0C]
  ·intro w kr h0 h1 hw hi hk
   simp only [b0C,decide_eq_true h1,e59,hi,hw,hk,a0b,d21 hN ht,e6e,getD_some,b4x];cases a1f sport tags (xs.getD w.toNat (.i 0))<;>rfl
 unfold d6L d0W e1e d0V;rw [e];simp only [a0b];rw [b71];simp only [e6e,getD_some,e59,a6R _ _ 0 (by omega)]
def wr (n:Int):Int:=IntKind.wrap .i64 n
def e2t (r:D) (x y:Int):Bool:=decide (wr (wr (wr (x-rX r)*wr (x-rX r))+wr (wr (y-rY r)*wr (y-rY r)))≤wr (rR r*rR r))
def e2u (r:D) (sec:Int):Bool:=bif decide (rHf r≤sec) then decide (sec≤rHt r) else false
def c1L (sec x y:Int) (r:D):Bool:=bif a1A r==1 then e2t r x y else bif a1A r==2 then e2u r sec else false
theorem d23 (r:D) (start t x y:Int):d6S N (a1A r) (rX r) (rY r) (rR r) (rHf r) (rHt r) start t x y=some (c1L ((wr (start+t)).tmod 86400) x y r):=by
 unfold d6S d0X c7M b6T c1L;cases a1A r==1 with
 |true=>rfl
 |false=>cases a1A r==2<;>rfl
theorem d24 (hN:maxLen<N) (hl:xs.length≤maxLen) (start t x y:Int):d6W N xs start t x y=some (xs.any (c1L ((wr (start+t)).tmod 86400) x y)):=by
 have e:c1r N xs xs.length start t x y 0=some (c0C (c1L ((wr (start+t)).tmod 86400) x y) 0 xs):=by
  unfold c1r;refine (a03 (.i 0:D) (S:=fun w kr=>b0D N xs xs.length start t x y w kr _ _) (L:=fun m w=>b6U N xs xs.length start t x y m w _ _) (fun m w=>rfl) (fun w l=>some (c0C (c1L ((wr (start+t)).tmod 86400) x y) w l)) hl ?_ ?_ hN).trans rfl
  ·intro kr;simp [b0D,c0C]
  ·intro w kr h0 h1 hw hi hk
   simp only [b0D,decide_eq_true h1,e59,hi,hw,hk,a0b,d23,e6e,getD_some,b4x];cases c1L ((wr (start+t)).tmod 86400) x y (xs.getD w.toNat (.i 0))<;>rfl
 unfold d6W d0Z e1h d0Y;rw [e];simp only [a0b];rw [b71];simp only [e6e,getD_some,e59,a6R _ _ 0 (by omega)]
end
def b4y (rs:List D) (all:Bool) (start:Int) (s:D):Bool:=all||rs.any (c1L ((wr (start+(s.cell 0).toI)).tmod 86400) (s.cell 1).toI (s.cell 2).toI)
def b1T (rs:List D) (all:Bool) (start:Int) (l:List D):List D:=l.map fun s=> .b (b4y rs all start s)
section
variable {rs smps tags:List D} {sport start:Int}
theorem c1M (hN:maxLen<N) (hr:rs.length≤maxLen) (hs:smps.length≤maxLen) (all:Bool):b6V N rs all smps smps.length start 0 (List.replicate smps.length (.b false))=some (b1T rs all start smps):=by
 unfold b6V;refine (a3j (.i 0:D) (A:=List D) (S:=fun w a kr=>a7h N rs all smps smps.length start w a kr _) (L:=fun m w a=>b2c N rs all smps smps.length start m w a _) (fun m w a=>rfl) (fun w l a=>some (a.take w.toNat++b1T rs all start l))
  (fun w a=>a.length=smps.length∧a.drop w.toNat=List.replicate (smps.length-w.toNat) (.b false)) hs ?_ ?_ hN (a:=List.replicate smps.length (.b false)) (by simp)).trans (by simp)
 ·intro a kr h
  have:a.take smps.length=a:=by rw [←h.1,List.take_length]
  simp [a7h,b1T,this]
 ·intro w a kr h0 h1 hw hi ⟨ha,hd⟩ hk
  have hlt:w.toNat<a.length:=by omega
  have hib:inB w a.length=true:=a0D h0 (by omega)
  have hset:∀y:D,(a.set w.toNat y).length=smps.length∧(a.set w.toNat y).drop (w+1).toNat=List.replicate (smps.length-(w+1).toNat) (.b false)∧(a.set w.toNat y).take (w+1).toNat=a.take w.toNat++[y]:=by
   intro y;have e1:(w+1).toNat=w.toNat+1:=by omega
   refine ⟨by simpa using ha,?_,?_⟩
   ·rw [e1,List.drop_set_of_lt (by omega)]
    have:a.drop (w.toNat+1)=(a.drop w.toNat).drop 1:=by rw [List.drop_drop]
    rw [this,hd,List.drop_replicate];congr 1
   ·rw [e1,List.take_succ_eq_append_getElem (by simpa using hlt),List.take_set_of_le (Nat.le_refl _)]
    simp
  simp only [a7h,decide_eq_true h1,e59,hi,hw,a0b,c25,b2b,hib,decide_eq_true hlt,d24 hN hr];have go:∀b:Bool,kr (w+1) (a.set w.toNat (.b b))=some ((a.take w.toNat++[.b b])++b1T rs all start (smps.drop (w+1).toNat)):=fun b=>by
   obtain ⟨q1,q2,q3⟩:=hset (.b b);rw [hk _ ⟨q1,q2⟩,q3]
  cases all with
  |true=>
   refine (go true).trans ?_;simp [b1T,b4y]
  |false=>
   refine (go _).trans ?_;simp [b1T,b4y]
theorem c3Y (hN:maxLen<N) (hr:rs.length≤maxLen) (hs:smps.length≤20000) (ht:tags.length≤maxLen):d01 N rs sport start smps tags=some (b1T rs (rs.any (a1f sport tags)) start smps,rs.any (a1f sport tags)):=by
 have hm:maxLen=9223372036854775807:=rfl;have h2:a0X=140737488355328:=rfl;have h3:a0c=9223372036854775807:=rfl;unfold d01 d00;simp only [a0b,d22 hN hr ht,e6e,getD_some,e59,Int.toNat_natCast,c1M hN hr (show smps.length≤maxLen by omega)]
 rw [decide_eq_true (show (0:Int)≤(smps.length:Int) by omega),decide_eq_true (show (smps.length:Int)≤(smps.length:Int) by omega),decide_eq_true (show smps.length*1≤a0X by omega),decide_eq_true (show smps.length≤a0c by omega)]
 rfl
end
section
variable {xs tags:List D} {lv sport:Int}
variable {smps:List D} {start:Int}
end
end Go.Proofs.YtcdhfpkfmekabaaGreatDoor
namespace Go.Proofs.YtcdhfpkfmekabaaGreatDoor
open Go Go.AM
variable {N:Nat}
def a2b (rs:List D) (i:Int):Bool:=rs.any fun r=>a1A r==3&&rN r==i
def a7X (rs:List D):List D:=(rs.filter fun r=>a1A r==8).map fun r=> .i (rN r)
def kdB (rs:List D) (k:Int):Bool:=rs.any fun r=>a1A r==k
def b49 (r:D) (a:Ty3):Ty3:=
 bif a1A r==3 then ((bif Nat.beq (rN r).toNat 0 then true else a.1),(bif Nat.beq (rN r).toNat 1 then true else a.2.1),(bif Nat.beq (rN r).toNat 2 then true else a.2.2.1),(bif Nat.beq (rN r).toNat 3 then true else a.2.2.2.1),(bif Nat.beq (rN r).toNat 4 then true else a.2.2.2.2.1),a.2.2.2.2.2.1,a.2.2.2.2.2.2.1,a.2.2.2.2.2.2.2.1,a.2.2.2.2.2.2.2.2)
 else bif a1A r==8 then (a.1,a.2.1,a.2.2.1,a.2.2.2.1,a.2.2.2.2.1,a.2.2.2.2.2.1,a.2.2.2.2.2.2.1,false,a.2.2.2.2.2.2.2.2++[.i (rN r)])
 else bif a1A r==6 then (a.1,a.2.1,a.2.2.1,a.2.2.2.1,a.2.2.2.2.1,true,a.2.2.2.2.2.2.1,a.2.2.2.2.2.2.2.1,a.2.2.2.2.2.2.2.2)
 else bif a1A r==7 then (a.1,a.2.1,a.2.2.1,a.2.2.2.1,a.2.2.2.2.1,a.2.2.2.2.2.1,true,a.2.2.2.2.2.2.2.1,a.2.2.2.2.2.2.2.2) else a
def b90:List D→Ty3→Ty3
 | [],a=>a
 |r::l,a=>b90 l (b49 r a)
def a5u (r:D):Prop:=(a1A r=3→1≤rN r∧rN r≤4)∧(a1A r=8→1≤rN r∧rN r≤1000000)
theorem c3Z {r:D} (h:c1J r=0):a5u r:=by
 obtain ⟨_,_,h3,_⟩:=c5D h;unfold c5B at h3;refine ⟨fun hk=> ?_,fun hk=> ?_⟩
 ·rw [hk] at h3
  cases hb:inI (rN r) 1 4 with
  |true=>exact of_decide_eq_true hb
  |false=>rw [hb] at h3;cases h3
 ·rw [hk] at h3
  cases hb:inI (rN r) 1 1000000 with
  |true=>exact of_decide_eq_true hb
  |false=>rw [hb] at h3;cases h3
theorem b72 {n j:Int} {i:Nat} (h0:0≤n) (hj:(i:Int)=j):Nat.beq n.toNat i=(n==j):=by
 rw [a0k,Bool.eq_iff_iff];simp;omega
theorem c30:∀(l:List D) (a:Ty3),(∀r∈l,a5u r)→ ∃x y,b90 l a=(x,a.2.1||a2b l 1,a.2.2.1||a2b l 2,a.2.2.2.1||a2b l 3,a.2.2.2.2.1||a2b l 4,a.2.2.2.2.2.1||kdB l 6,a.2.2.2.2.2.2.1||kdB l 7,y,a.2.2.2.2.2.2.2.2++a7X l)
 | [],a,_=>⟨a.1,a.2.2.2.2.2.2.2.1,by simp [b90,a2b,kdB,a7X]⟩
 | r ::l,a,h=>by
  obtain ⟨x,y,e⟩:=c30 l (b49 r a) fun r' hr'=>h r' (by simp [hr'])
  have hr:=h r (by simp)
  refine ⟨x,y,?_⟩;rw [b90,e];by_cases h3:a1A r=3
  ·have hn:=hr.1 h3
   simp only [b49,a2b,kdB,a7X,List.any_cons,List.filter_cons,h3,beq_self_eq_true,Int.reduceBEq,e59,Bool.true_and,Bool.false_or,b72 (i:=1) (j:=1) (show 0≤rN r by omega) rfl,b72 (i:=2) (j:=2) (show 0≤rN r by omega) rfl,b72 (i:=3) (j:=3) (show 0≤rN r by omega) rfl,b72 (i:=4) (j:=4) (show 0≤rN r by omega) rfl,Bool.false_eq_true,if_false]
   have hc:∀(c x y:Bool),((bif c then true else x)||y)=(x||(c||y)):=by intro c x y;cases c<;>cases x<;>cases y<;>rfl
   simp only [hc]
  ·have e3:(a1A r==3)=false:=by simpa using h3
   by_cases h8:a1A r=8
   ·simp [b49,a2b,kdB,a7X,List.filter_cons,h8]
   ·have e8:(a1A r==8)=false:=by simpa using h8
    by_cases h6:a1A r=6
    ·simp [b49,a2b,kdB,a7X,List.filter_cons,h6]
    ·have e6:(a1A r==6)=false:=by simpa using h6
     by_cases h7:a1A r=7
     ·simp [b49,a2b,kdB,a7X,List.filter_cons,h7]
     ·have e7:(a1A r==7)=false:=by simpa using h7
      simp [b49,a2b,kdB,a7X,List.filter_cons,e3,e8,e6,e7,h3,h8,h6,h7]
section
variable {rs:List D}
theorem b5a {r:D} (hr:a5u r) {a:Ty3} (hl:a.2.2.2.2.2.2.2.2.length≤50):
  (∃p,a5V N (a1A r) (a1A r==3) a.1 a.2.1 a.2.2.1 a.2.2.2.1 a.2.2.2.2.1 a.2.2.2.2.2.1 a.2.2.2.2.2.2.1 (rN r) a.2.2.2.2.2.2.2.2=some (.inl p)∧b49 r a=(p.1,p.2.1,p.2.2.1,p.2.2.2.1,p.2.2.2.2.1,p.2.2.2.2.2.1,p.2.2.2.2.2.2,a.2.2.2.2.2.2.2.1,a.2.2.2.2.2.2.2.2))∨
  (∃g,a5V N (a1A r) (a1A r==3) a.1 a.2.1 a.2.2.1 a.2.2.2.1 a.2.2.2.2.1 a.2.2.2.2.2.1 a.2.2.2.2.2.2.1 (rN r) a.2.2.2.2.2.2.2.2=some (.inr g)∧b49 r a=(a.1,a.2.1,a.2.2.1,a.2.2.2.1,a.2.2.2.2.1,a.2.2.2.2.2.1,a.2.2.2.2.2.2.1,false,g)∧g.length=a.2.2.2.2.2.2.2.2.length+1):=by
 unfold a5V a5U b35 a5T b34 a5S c26 b2d b49;by_cases h3:a1A r=3
 ·have hn:=hr.1 h3
  have e3:(a1A r==3)=true:=by simpa using h3
  rw [e3,a0D (show 0≤rN r by omega) (show rN r<(5:Nat) by omega)]
  exact .inl ⟨_,rfl,rfl⟩
 ·have e3:(a1A r==3)=false:=by simpa using h3
  rw [e3];by_cases h8:a1A r=8
  ·have e8:(a1A r==8)=true:=by simpa using h8
   rw [e8,d4O hl (by omega)]
   exact .inr ⟨a.2.2.2.2.2.2.2.2++[.i (rN r)],rfl,rfl,by simp⟩
  ·have e8:(a1A r==8)=false:=by simpa using h8
   rw [e8];by_cases h6:a1A r=6
   ·have e6:(a1A r==6)=true:=by simpa using h6
    rw [e6];exact .inl ⟨_,rfl,rfl⟩
   ·have e6:(a1A r==6)=false:=by simpa using h6
    rw [e6];cases a1A r==7 with
    |true=>exact .inl ⟨_,rfl,rfl⟩
    |false=>exact .inl ⟨_,rfl,rfl⟩
theorem c5E (hN:maxLen<N) (hl:rs.length≤50) (hr:∀r∈rs,a5u r):c1s N rs rs.length 0 false false false false false false false true []=some (b90 rs (false,false,false,false,false,false,false,true,[])):=by
 unfold c1s;refine a3j (.i 0:D) (A:=Ty3) (S:=fun w a kr=>b0E N rs rs.length w a.1 a.2.1 a.2.2.1 a.2.2.2.1 a.2.2.2.2.1 a.2.2.2.2.2.1 a.2.2.2.2.2.2.1 a.2.2.2.2.2.2.2.1 a.2.2.2.2.2.2.2.2 (fun w a b c d e f g h i=>kr w (a,b,c,d,e,f,g,h,i)) _)
  (L:=fun m w a=>b6W N rs rs.length m w a.1 a.2.1 a.2.2.1 a.2.2.2.1 a.2.2.2.2.1 a.2.2.2.2.2.1 a.2.2.2.2.2.2.1 a.2.2.2.2.2.2.2.1 a.2.2.2.2.2.2.2.2 _) (fun m w a=>rfl) (fun w l a=>some (b90 l a)) (fun w a=>(a.2.2.2.2.2.2.2.2.length:Int)≤w) (e2s hl) ?_ ?_ hN (a:=(false,false,false,false,false,false,false,true,[])) (by simp)
 ·intro a kr _;simp [b0E,b90]
 ·intro w a kr h0 h1 hw hi ha hk
  have hrg:=hr _ (a1u h0 h1);simp only [b0E,decide_eq_true h1,e59,hi,a0b,hw,b90];rcases b5a (N:=N) hrg (a:=a) (by omega) with ⟨p,e,q⟩|⟨g,e,q,ql⟩
  ·rw [e,q]
   exact hk (p.1,p.2.1,p.2.2.1,p.2.2.2.1,p.2.2.2.2.1,p.2.2.2.2.2.1,p.2.2.2.2.2.2,a.2.2.2.2.2.2.2.1,a.2.2.2.2.2.2.2.2) (by simp only;omega)
  ·rw [e,q]
   exact hk (a.1,a.2.1,a.2.2.1,a.2.2.2.1,a.2.2.2.2.1,a.2.2.2.2.2.1,a.2.2.2.2.2.2.1,false,g) (by simp only [ql];omega)
theorem d25 (hN:maxLen<N) (hl:rs.length≤50) (hr:∀r∈rs,a5u r):∃x y,d67 N rs=some (x,a2b rs 1,a2b rs 2,a2b rs 3,a2b rs 4,y,a7X rs,kdB rs 6,kdB rs 7):=by
 obtain ⟨x,y,e⟩:=c30 rs (false,false,false,false,false,false,false,true,[]) hr;refine ⟨x,y,?_⟩;unfold d67 d02;rw [c5E hN hl hr,e];simp [a0b]
end
def c9O (x n:Int):Int:=wr (x-(bif decide (x.tmod n<0) then wr (x.tmod n+n) else x.tmod n))
theorem b91 {n:Int} (hn:1≤n) (x:Int):b36 N x n=some (c9O x n):=by
 unfold b36 c27 b9x a9o c9O;have:(n==0)=false:=by simp;omega
 rw [this];cases decide (x.tmod n<0)<;>rfl
def a8x:List D→Int×Int→Int×Int
 | [],a=>a
 |g::r,a=>a8x r (max2 (c9O a.1 g.toI) (-100000000),max2 (c9O a.2 g.toI) (-100000000))
section
variable {gs:List D}
theorem b92 (hN:maxLen<N) (hl:gs.length≤maxLen) (hg:∀g∈gs,1≤g.toI) (x y:Int):b37 N gs gs.length 0 x y=some (a8x gs (x,y)):=by
 unfold b37;refine a3j (.i 0:D) (A:=Int×Int) (S:=fun w a kr=>a5d N gs gs.length w a.1 a.2 (fun w a b=>kr w (a,b)) _) (L:=fun m w a=>a9q N gs gs.length m w a.1 a.2 _) (fun m w a=>rfl) (fun w l a=>some (a8x l a)) (fun w a=>True) hl ?_ ?_ hN (a:=(x,y)) trivial
 ·intro a kr _;simp [a5d,a8x]
 ·intro w a kr h0 h1 hw hi _ hk
  have:=hg _ (a1u h0 h1);simp only [a5d,decide_eq_true h1,e59,hi,a0b,hw,a8x,b91 this,e6e,getD_some];exact hk (_,_) trivial
end
def d4P (rs:List D) (x y z p w s:Int):Int×Int×Int×Int×Int×Int:=((a8x (a7X rs) (x,y)).1,(a8x (a7X rs) (x,y)).2,(bif a2b rs 4 then 0 else z),(bif a2b rs 1 then-1 else p),(bif a2b rs 2 then-1 else w),(bif a2b rs 3 then-1 else s))
section
variable {rs:List D}
theorem d26 (hl:rs.length≤50):(a7X rs).length≤50:=by
 unfold a7X;rw [List.length_map];exact Nat.le_trans (List.length_filter_le _ _) hl
theorem d27 (hr:∀r∈rs,a5u r):∀g∈a7X rs,1≤g.toI:=by
 intro g hg;unfold a7X at hg;obtain ⟨r,h1,rfl⟩:=List.mem_map.1 hg;obtain ⟨h2,h3⟩:=List.mem_filter.1 h1;exact ((hr r h2).2 (by simpa using h3)).1
theorem b93 (hN:maxLen<N) (hl:rs.length≤50) (hr:∀r∈rs,a5u r) (x y z p w s:Int):c29 N (a2b rs 1) (a2b rs 2) (a2b rs 3) (a2b rs 4) (a7X rs) x y z p w s=some (d4P rs x y z p w s):=by
 unfold c29 c28 b9y a9p;simp only [a0b,b92 hN (e2s (d26 hl)) (d27 hr),e6e,getD_some,e59];unfold d4P;cases a2b rs 4<;>rfl
end
section
variable {xs:List D} {lv:Int}
theorem b94 (hx:∀r∈xs,a5u r):∀r∈a5t xs lv,a5u r:=by
 intro r h;unfold a5t at h;obtain ⟨r0,h1,rfl⟩:=List.mem_map.1 h;exact hx r0 (List.mem_filter.1 h1).1
end
end Go.Proofs.YtcdhfpkfmekabaaGreatDoor
namespace Go.Proofs.YtcdhfpkfmekabaaGreatDoor
open Go Go.AM
variable {N:Nat}
def b4z:List UInt8:=[97,99,116,105,118,105,116,121]
def c59 (rs:List D) (from_:Int) (s:D):D:=
 .a [.i (wr ((s.cell 0).toI-from_)),.i (d4P rs (s.cell 1).toI (s.cell 2).toI (s.cell 3).toI (s.cell 4).toI (s.cell 5).toI (s.cell 6).toI).1,.i (d4P rs (s.cell 1).toI (s.cell 2).toI (s.cell 3).toI (s.cell 4).toI (s.cell 5).toI (s.cell 6).toI).2.1,.i (d4P rs (s.cell 1).toI (s.cell 2).toI (s.cell 3).toI (s.cell 4).toI (s.cell 5).toI (s.cell 6).toI).2.2.1,
  .i (d4P rs (s.cell 1).toI (s.cell 2).toI (s.cell 3).toI (s.cell 4).toI (s.cell 5).toI (s.cell 6).toI).2.2.2.1,.i (d4P rs (s.cell 1).toI (s.cell 2).toI (s.cell 3).toI (s.cell 4).toI (s.cell 5).toI (s.cell 6).toI).2.2.2.2.1,.i (d4P rs (s.cell 1).toI (s.cell 2).toI (s.cell 3).toI (s.cell 4).toI (s.cell 5).toI (s.cell 6).toI).2.2.2.2.2]
def e4K (m:List (D×D)) (s:D):List (D×D):=c6n Tryz.prog 3 (.i (s.cell 0).toI) (.b true) m
def c5F (rs:List D) (from_:Int):List D→c5n→c5n
 | [],a=>a
 |s::l,a=>c5F rs from_ l (e4K a.1 s,false,a.2.2++[c59 rs from_ s])
def b5Q:List D→List (D×D)→List (D×D)
 | [],m=>m
 |s::l,m=>b5Q l (e4K m s)
theorem c8T (rs:List D) (from_:Int):∀(l:List D) (a:c5n),c5F rs from_ l a=(b5Q l a.1,(bif l.isEmpty then a.2.1 else false),a.2.2++l.map (c59 rs from_))
 | [],a=>by simp [c5F,b5Q]
 |s::l,a=>by
  rw [c5F,c8T rs from_ l];cases l<;>simp [b5Q]
def inM (m:List (D×D)) (t:Int):Bool:=((a2R Tryz.prog 3 (.i t) m).getD (.b false)).toB
def b95 (m:List (D×D)) (x:D):Bool:= !(bif !inM m (x.cell 0).toI then true else !inM m (x.cell 1).toI)
def b8k (un:Bool) (from_:Int) (x:D):D:= .a [.i (wr ((x.cell 0).toI-from_)),.i (wr ((x.cell 1).toI-from_)),.s (bif un then [] else (x.cell 2).toS)]
theorem c1N {n sz b:Nat} (hn:n≤b) (h:(b+1)*sz≤140737488355328) (hs:1≤sz):(decide ((n+1)*sz≤a0X)&&decide ((n+1)≤a0c))=true:=by
 have h1:(n+1)*sz≤(b+1)*sz:=Nat.mul_le_mul_right _ (by omega)
 have h4:n+1≤(n+1)*sz:=Nat.le_mul_of_pos_right _ hs;have h2:a0X=140737488355328:=rfl;have h3:a0c=9223372036854775807:=rfl;rw [decide_eq_true (by omega),decide_eq_true (by omega)];rfl
section
variable {rs l laps:List D} {from_:Int}
theorem b4A (hN:maxLen<N) (hl:rs.length≤50) (hr:∀r∈rs,a5u r) (hn:l.length≤20000):b2g N from_ l l.length (a2b rs 1) (a2b rs 2) (a2b rs 3) (a2b rs 4) (a7X rs) 0 [] true []=some (c5F rs from_ l ([],true,[])):=by
 have hm:maxLen=9223372036854775807:=rfl;unfold b2g;refine a3j (.i 0:D) (A:=c5n) (S:=fun w a kr=>a7i N from_ l l.length (a2b rs 1) (a2b rs 2) (a2b rs 3) (a2b rs 4) (a7X rs) w a.1 a.2.1 a.2.2 (fun w a b c=>kr w (a,b,c)) _) (L:=fun m w a=>b2f N from_ l l.length (a2b rs 1) (a2b rs 2) (a2b rs 3) (a2b rs 4) (a7X rs) m w a.1 a.2.1 a.2.2 _) (fun m w a=>rfl) (fun w l a=>some (c5F rs from_ l a)) (fun w a=>(a.2.2.length:Int)≤w) (by omega) ?_ ?_ hN (a:=([],true,[])) (by simp)
 ·intro a kr _;simp [a7i,c5F]
 ·intro w a kr h0 h1 hw hi ha hk
  simp only [a7i,decide_eq_true h1,e59,hi,a0b,hw,c5F,b93 hN hl hr,e6e,getD_some,c1N (n:=a.2.2.length) (sz:=56) (b:=20000) (by omega) (by omega) (by omega)]
  exact hk (_,false,_) (by simp;omega)
theorem b96 (hN:maxLen<N) (hl:rs.length≤50) (hr:∀r∈rs,a5u r) (hn:l.length≤20000):b38 N from_ l l.length (a2b rs 1) (a2b rs 2) (a2b rs 3) (a2b rs 4) (a7X rs) 0 [] true []=some (c5F rs from_ l ([],true,[])):=by
 have hm:maxLen=9223372036854775807:=rfl;unfold b38;refine a3j (.i 0:D) (A:=c5n) (S:=fun w a kr=>a5f N from_ l l.length (a2b rs 1) (a2b rs 2) (a2b rs 3) (a2b rs 4) (a7X rs) w a.1 a.2.1 a.2.2 (fun w a b c=>kr w (a,b,c)) _) (L:=fun m w a=>a9u N from_ l l.length (a2b rs 1) (a2b rs 2) (a2b rs 3) (a2b rs 4) (a7X rs) m w a.1 a.2.1 a.2.2 _) (fun m w a=>rfl) (fun w l a=>some (c5F rs from_ l a)) (fun w a=>(a.2.2.length:Int)≤w) (by omega) ?_ ?_ hN (a:=([],true,[])) (by simp)
 ·intro a kr _;simp [a5f,c5F]
 ·intro w a kr h0 h1 hw hi ha hk
  simp only [a5f,decide_eq_true h1,e59,hi,a0b,hw,c5F,b93 hN hl hr,e6e,getD_some,c1N (n:=a.2.2.length) (sz:=56) (b:=20000) (by omega) (by omega) (by omega)]
  exact hk (_,false,_) (by simp;omega)
theorem b4B (hN:maxLen<N) (hn:laps.length≤200) (un:Bool) (m:List (D×D)):b2j N from_ laps laps.length un m 0 true []=some (a3e (b95 m) (b8k un from_) laps (true,[])):=by
 unfold b2j;have hm:maxLen=9223372036854775807:=rfl;refine a3j (.i 0:D) (A:=Bool×List D) (S:=fun w a kr=>a7j N from_ laps laps.length un m w a.1 a.2 (fun w b l=>kr w (b,l)) _) (L:=fun k w a=>b2i N from_ laps laps.length un m k w a.1 a.2 _) (fun m w a=>rfl) (fun w l a=>some (a3e (b95 m) (b8k un from_) l a)) (fun w a=>(a.2.length:Int)≤w) (by omega) ?_ ?_ hN (a:=(true,[])) (by simp)
 ·intro a kr _;simp [a7j,a3e]
 ·intro w a kr h0 h1 hw hi ha hk
  simp only [a7j,decide_eq_true h1,e59,hi,a0b,hw,a3e,c1N (n:=a.2.length) (sz:=32) (b:=200) (by omega) (by omega) (by omega),c3c,b2h]
  show (bif (bif !inM m ((laps.getD w.toNat (.i 0)).cell 0).toI then true else !inM m ((laps.getD w.toNat (.i 0)).cell 1).toI) then _ else _)=some (a3e _ _ _ (bif b95 m (laps.getD w.toNat (.i 0)) then _ else _))
  unfold b95;cases (bif !inM m ((laps.getD w.toNat (.i 0)).cell 0).toI then true else !inM m ((laps.getD w.toNat (.i 0)).cell 1).toI) with
  |true=>exact hk a (by omega)
  |false=>
   have:=hk (false,a.2++[b8k un from_ (laps.getD w.toNat (.i 0))]) (by simp;omega)
   unfold b8k at this⊢;cases un<;>exact this
theorem b97 (hN:maxLen<N) (hn:laps.length≤200) (un:Bool) (m:List (D×D)):b39 N from_ laps laps.length un m 0 true []=some (a3e (b95 m) (b8k un from_) laps (true,[])):=by
 unfold b39;have hm:maxLen=9223372036854775807:=rfl;refine a3j (.i 0:D) (A:=Bool×List D) (S:=fun w a kr=>a5g N from_ laps laps.length un m w a.1 a.2 (fun w b l=>kr w (b,l)) _) (L:=fun k w a=>a9w N from_ laps laps.length un m k w a.1 a.2 _) (fun m w a=>rfl) (fun w l a=>some (a3e (b95 m) (b8k un from_) l a)) (fun w a=>(a.2.length:Int)≤w) (by omega) ?_ ?_ hN (a:=(true,[])) (by simp)
 ·intro a kr _;simp [a5g,a3e]
 ·intro w a kr h0 h1 hw hi ha hk
  simp only [a5g,decide_eq_true h1,e59,hi,a0b,hw,a3e,c1N (n:=a.2.length) (sz:=32) (b:=200) (by omega) (by omega) (by omega),b9B,a9v]
  show (bif (bif !inM m ((laps.getD w.toNat (.i 0)).cell 0).toI then true else !inM m ((laps.getD w.toNat (.i 0)).cell 1).toI) then _ else _)=some (a3e _ _ _ (bif b95 m (laps.getD w.toNat (.i 0)) then _ else _))
  unfold b95;cases (bif !inM m ((laps.getD w.toNat (.i 0)).cell 0).toI then true else !inM m ((laps.getD w.toNat (.i 0)).cell 1).toI) with
  |true=>exact hk a (by omega)
  |false=>
   have:=hk (false,a.2++[b8k un from_ (laps.getD w.toNat (.i 0))]) (by simp;omega)
   unfold b8k at this⊢;cases un<;>exact this
end
def c8U (rs:List D) (name:List UInt8) (start:Int) (laps:List D) (tn:Bool) (tags l:List D):Ty1:=
 let from_:=((l.getD 0 (.i 0)).cell 0).toI
 let un:=kdB rs 7
 let st:=wr (start+from_)
 let lp:=a3e (b95 (b5Q l [])) (b8k un from_) laps (true,[])
 ((bif un then b4z else name),(bif kdB rs 6 then wr (st-st.tmod 86400) else st),(bif l.isEmpty then true else false),l.map (c59 rs from_),lp.1,lp.2,(bif un then true else tn),(bif un then [] else tags))
section
variable {rs l laps tags:List D} {name:List UInt8} {start:Int} {tn:Bool}
theorem c1O {n:Int} (h:0≤n):c9O n 86400=wr (n-n.tmod 86400):=by
 have:0≤n.tmod 86400:=Int.tmod_nonneg _ h;unfold c9O;rw [decide_eq_false (by omega)];rfl
theorem c31 (hN:maxLen<N) (hl:rs.length≤50) (hr:∀r∈rs,a5u r) (hn:l.length≤20000) (h0:0<l.length) (hlp:laps.length≤200) (htg:tags.length≤20) (hnil:tn=true→tags=[])
  (hst:0≤wr (start+((l.getD 0 (.i 0)).cell 0).toI)):d1c N (a2b rs 1) (a2b rs 2) (a2b rs 3) (a2b rs 4) (a7X rs) (kdB rs 6) (kdB rs 7) name start laps tn tags l=some (c8U rs name start laps tn tags l):=by
 have h2:a0X=140737488355328:=rfl;have h3:a0c=9223372036854775807:=rfl;have hin:inB 0 l.length=true:=a0D (by omega) (by omega)
 have hday:∀b:Bool,a9r N b (wr (start+((l.getD 0 (.i 0)).cell 0).toI)) (fun p=>some p)=some (bif b then wr (wr (start+((l.getD 0 (.i 0)).cell 0).toI)-(wr (start+((l.getD 0 (.i 0)).cell 0).toI)).tmod 86400) else wr (start+((l.getD 0 (.i 0)).cell 0).toI)):=by
  intro b;unfold a9r;rw [b91 (by omega),c1O hst]
  cases b<;>rfl
 have hday2:∀b:Bool,a9t N b (wr (start+((l.getD 0 (.i 0)).cell 0).toI)) (fun p=>some p)=some (bif b then wr (wr (start+((l.getD 0 (.i 0)).cell 0).toI)-(wr (start+((l.getD 0 (.i 0)).cell 0).toI)).tmod 86400) else wr (start+((l.getD 0 (.i 0)).cell 0).toI)):=hday
 have hday3:∀b:Bool,a7k N b (wr (start+((l.getD 0 (.i 0)).cell 0).toI)) (fun p=>some p)=some (bif b then wr (wr (start+((l.getD 0 (.i 0)).cell 0).toI)-(wr (start+((l.getD 0 (.i 0)).cell 0).toI)).tmod 86400) else wr (start+((l.getD 0 (.i 0)).cell 0).toI)):=hday
 have hrun:∀l:List D,(c5F rs ((l.getD 0 (.i 0)).cell 0).toI l ([],true,[]))=(b5Q l [],(bif l.isEmpty then true else false),l.map (c59 rs ((l.getD 0 (.i 0)).cell 0).toI)):=fun l=>by rw [c8T];simp
 unfold d1c d1b c8U;rw [hin];cases tn with
 |true=>
  have:=hnil rfl;subst this;have e7:b6Y N ((l.getD 0 (.i 0)).cell 0).toI start true []=some (.inl (wr (start+((l.getD 0 (.i 0)).cell 0).toI))):=rfl;simp only [a0b,e59,e7,a0H,a0M,c3b,hday,e6e,getD_some,b4A hN hl hr hn,b4B hN hlp,hrun,c3a,b2e];cases kdB rs 7<;>rfl
 | false=>
  have e7:b6Y N ((l.getD 0 (.i 0)).cell 0).toI start false tags=some (.inr (wr (start+((l.getD 0 (.i 0)).cell 0).toI),false)):=by
   unfold b6Y b6X d03 c7N;rw [decide_eq_true (show (0+tags.length)*16≤a0X by omega),decide_eq_true (show 0+tags.length≤a0c by omega)]
   cases tags.isEmpty<;>rfl
  simp only [a0b,e59,e6a,e7,a0q,a0r,b9A,hday2,b5K,hday3,e6e,getD_some,b4A hN hl hr hn,b4B hN hlp,b96 hN hl hr hn,b97 hN hlp,hrun,b9z,a9s];cases kdB rs 7<;>rfl
end
section
variable {xs l laps tags:List D} {lv from_ start:Int} {name:List UInt8}
end
end Go.Proofs.YtcdhfpkfmekabaaGreatDoor
namespace Go.Proofs.YtcdhfpkfmekabaaGreatDoor
open Go Go.AM
variable {N:Nat}
def a4R (a:D):List UInt8:=(a.cell 0).toS
def a2Q (a:D):Int:=(a.cell 1).toI
def a2j (a:D):Int:=(a.cell 2).toI
def a1B (a:D):List D:=(a.cell 3).items
def a3J (a:D):List D:=(a.cell 4).items
def aTn (a:D):Bool:=(a.cell 5).isNil
def a10 (a:D):List D:=(a.cell 5).items
def c5G (start:Int) (s:D):Prop:=0≤start+(s.cell 0).toI∧start+(s.cell 0).toI≤86399999999
structure e3m (start:Int) (smps laps tags:List D):Prop where
 s:smps.length≤20000
 l:laps.length≤200
 t:tags.length≤20
 g:∀x∈smps,c5G start x
theorem b0W {b:Bool} {n z:Int} (h:(bif b then n else z)=0) (hn:n≠0):b=false∧z=0:=by
 cases b with
 |true=>exact absurd h hn
 |false=>exact ⟨rfl,h⟩
theorem b98 {n z:Int} (h:(bif n !=0 then n else z)=0):n=0∧z=0:=by
 cases hb:n !=0 with
 |true=>rw [hb] at h;simp only [e59] at h;rw [h] at hb;cases hb
 |false=>rw [hb] at h;exact ⟨by simpa using hb,h⟩
theorem a6S {name:List UInt8} {sport start:Int} {smps laps tags:List D} (h:chkA name sport start smps laps tags=0):e3m start smps laps tags:=by
 unfold chkA at h;obtain ⟨_,h⟩:=b0W h (by decide)
 obtain ⟨_,h⟩:=b0W h (by decide)
 obtain ⟨h3,h⟩:=b0W h (by decide)
 obtain ⟨h4,h⟩:=b0W h (by decide)
 obtain ⟨h5,h⟩:=b98 h;simp only [Bool.or_eq_false_iff,decide_eq_false_iff_not] at h4;have hst:=of_decide_eq_true (show inI start 0 86399999999=true by simpa using h3)
 have hz:=a0I h5;have hw:∀i:Nat,i<smps.length→b4t smps i=false∧b5P start (smps.getD i (.i 0))=false:=by
  intro i hi;have:=hz i hi;rw [Int.zero_add] at this;unfold a7K at this;obtain ⟨q1,q2⟩:=b0W this (by decide)
  obtain ⟨q3,_⟩:=b0W q2 (by decide)
  simp only [Bool.or_eq_false_iff] at q3;exact ⟨q1,by simpa using q3.1⟩
 have hpos:∀i:Nat,i<smps.length→0≤((smps.getD i (.i 0)).cell 0).toI:=by
  intro i;induction i with
  |zero=>
   intro hi;have:=(hw 0 hi).1;unfold b4t at this;simp at this;simp [this]
  |succ i ih=>
   intro hi;have:=(hw (i+1) hi).1;unfold b4t at this;have e0:(((i+1:Nat):Int)==0)=false:=by simp;omega
   rw [e0] at this;simp only [e6a,decide_eq_false_iff_not] at this;have e1:(((i+1:Nat):Int)-1).toNat=i:=by omega
   rw [e1,Int.toNat_natCast] at this;have:=ih (by omega)
   omega
 refine ⟨by omega,by omega,by omega,fun x hx=> ?_⟩
 obtain ⟨i,hi,rfl⟩:=List.getElem_of_mem hx;have h1:=hpos i hi;have h2:=(hw i hi).2;have e:smps.getD i (.i 0)=smps[i]:=by rw [e6d,e6j hi];rfl
 rw [e] at h1 h2;unfold b5P at h2;simp only [Bool.or_eq_false_iff,decide_eq_false_iff_not] at h2;obtain ⟨h2,h3⟩:=h2;rw [a0u (by omega) (by omega)] at h3
 exact ⟨by omega,by omega⟩
def reS (s:D):D:= .a [.i (s.cell 0).toI,.i (s.cell 1).toI,.i (s.cell 2).toI,.i (s.cell 3).toI,.i (s.cell 4).toI,.i (s.cell 5).toI,.i (s.cell 6).toI]
def c32 (now:List D) (s:D):Bool:=bif decide ((now.length:Int)>0) then decide (wr ((s.cell 0).toI-((now.getD (now.length-1) (.i 0)).cell 0).toI)>60) else false
section
variable {now:List D} {s:D}
theorem c1P (hl:now.length≤maxLen):b6Z N now.length now (s.cell 0).toI=some (c32 now s):=by
 have hm:maxLen=9223372036854775807:=rfl;unfold b6Z b2k c32;cases hd:decide ((now.length:Int)>0) with
 |false=>rfl
 |true=>
  have:=of_decide_eq_true hd;rw [a0u (by omega) (by omega),a0D (by omega) (by omega)]
  have e:((now.length:Int)-1).toNat=now.length-1:=by omega
  rw [e,decide_eq_true (show now.length-1<now.length by omega)]
  rfl
end
def a4r (hid:D→Bool):List D→List D×List (List D)→List D×List (List D)
 | [],a=>a
 |s::r,a=>a4r hid r (bif hid s then a else bif c32 a.1 s then ([reS s],a.2++[a.1]) else (a.1++[reS s],a.2))
def c8V (a:List D×List (List D)):List (List D):=bif decide ((a.1.length:Int)>0) then a.2++[a.1] else a.2
def a2g (hid:D→Bool) (l:List D):List (List D):=c8V (a4r hid l ([],[]))
def b8l (pc:List D→D) (hid:D→Bool):List D→Ty9→Ty9
 | [],a=>a
 |s::r,a=>b8l pc hid r (bif hid s then a else bif c32 a.2.1 s then (false,[reS s],false,a.2.2.2++[pc a.2.1]) else (false,a.2.1++[reS s],a.2.2.1,a.2.2.2))
def e3n (pc:List D→D) (a:Ty9):Bool×List D:=bif decide ((a.2.1.length:Int)>0) then (false,a.2.2.2++[pc a.2.1]) else (a.2.2.1,a.2.2.2)
theorem b99 (pc:List D→D) (hid:D→Bool):∀(l:List D) (a:Ty9) (b:List D×List (List D)) (out:List D),a.2.1=b.1→a.2.2.2=out++b.2.map pc→(b8l pc hid l a).2.1=(a4r hid l b).1∧(b8l pc hid l a).2.2.2=out++(a4r hid l b).2.map pc
 | [],a,b,out,h1,h2=>⟨h1,h2⟩
 |s::r,a,b,out,h1,h2=>by
  rw [b8l,a4r];refine b99 pc hid r _ _ out ?_ ?_
  ·rw [h1];cases hid s<;>cases c32 b.1 s<;>simp [h1]
  ·rw [h1];cases hid s<;>cases c32 b.1 s<;>simp [h2]
theorem c8W (pc:List D→D) (hid:D→Bool) (l:List D) (f:Bool) (out:List D):(e3n pc (b8l pc hid l (true,[],f,out))).2=out++(a2g hid l).map pc:=by
 obtain ⟨h1,h2⟩:=b99 pc hid l (true,[],f,out) ([],[]) out rfl (by simp)
 unfold e3n a2g c8V;rw [h1];cases decide (((a4r hid l ([],[])).1.length:Int)>0) with
 |true=>simp only [e59,h2];simp
 |false=>simp only [e6a,h2]
def e5P (sport:Int) (t:Ty1):D:= .a [.s t.1,.i sport,.i t.2.1,.l t.2.2.1 t.2.2.2.1,.l t.2.2.2.2.1 t.2.2.2.2.2.1,.l t.2.2.2.2.2.2.1 t.2.2.2.2.2.2.2]
def a3y (rs:List D) (name:List UInt8) (sport start:Int) (laps:List D) (tn:Bool) (tags l:List D):D:=e5P sport (c8U rs name start laps tn tags l)
theorem c33 {rs l:List D} {all:Bool} {start w:Int} (h0:0≤w) (h1:w<l.length):((b1T rs all start l).getD w.toNat (.i 0)).toB=b4y rs all start (l.getD w.toNat (.i 0)):=by
 unfold b1T;rw [e6d,List.getElem?_map,e6d,e6j (by omega)]
 rfl
theorem c34 {rs l:List D} {all:Bool} {start:Int}:(b1T rs all start l).length=l.length:=by unfold b1T;simp
theorem b23 {start:Int} {s:D} (h:c5G start s):c5G start (reS s):=h
section
variable {rs smps laps tags out:List D} {name:List UInt8} {sport start:Int} {tn f:Bool}
def c8X (start:Int) (now:List D) (w:Int):Prop:=(now.length:Int)≤w∧ ∀s∈now,c5G start s
theorem c0a {now:List D} {w:Int} (h:c8X start now w) (h0:0<now.length):0≤wr (start+((now.getD 0 (.i 0)).cell 0).toI):=by
 have hm:now.getD 0 (.i 0)∈now:=a1u (w:=0) (by omega) (by omega)
 obtain ⟨q1,q2⟩:=h.2 _ hm;unfold wr;rw [a0u (by omega) (by omega)]
 exact q1
theorem b73 {now:List D} {s:D} (h:c32 now s=true):0<now.length:=by
 unfold c32 at h;cases hd:decide ((now.length:Int)>0) with
 |false=>rw [hd] at h;cases h
 |true=>have:=of_decide_eq_true hd;omega
theorem c1Q (hN:maxLen<N) (hl:rs.length≤50) (hr:∀r∈rs,a5u r) (ha:e3m start smps laps tags) (hnil:tn=true→tags=[]) (hout:out.length≤40000000) (all:Bool):
  b61 N (b1T rs all start smps) smps smps.length name sport start laps tn tags (a2b rs 1) (a2b rs 2) (a2b rs 3) (a2b rs 4) (a7X rs) (kdB rs 6) (kdB rs 7) 0 true [] f out=some (b8l (a3y rs name sport start laps tn tags) (b4y rs all start) smps (true,[],f,out))∧
  c8X start (b8l (a3y rs name sport start laps tn tags) (b4y rs all start) smps (true,[],f,out)).2.1 smps.length∧(b8l (a3y rs name sport start laps tn tags) (b4y rs all start) smps (true,[],f,out)).2.2.2.length≤out.length+smps.length:=by
 have hm:maxLen=9223372036854775807:=rfl;have hs:=ha.s;constructor
 ·unfold b61
  refine a3j (.i 0:D) (A:=Ty9) (S:=fun w a kr=>a7l N (b1T rs all start smps) smps smps.length name sport start laps tn tags (a2b rs 1) (a2b rs 2) (a2b rs 3) (a2b rs 4) (a7X rs) (kdB rs 6) (kdB rs 7) w a.1 a.2.1 a.2.2.1 a.2.2.2 (fun w a b c d=>kr w (a,b,c,d)) _)
   (L:=fun m w a=>b2m N (b1T rs all start smps) smps smps.length name sport start laps tn tags (a2b rs 1) (a2b rs 2) (a2b rs 3) (a2b rs 4) (a7X rs) (kdB rs 6) (kdB rs 7) m w a.1 a.2.1 a.2.2.1 a.2.2.2 _) (fun m w a=>rfl) (fun w l a=>some (b8l (a3y rs name sport start laps tn tags) (b4y rs all start) l a))
   (fun w a=>c8X start a.2.1 w∧(a.2.2.2.length:Int)≤out.length+w) (by omega) ?_ ?_ hN (a:=(true,[],f,out)) ⟨⟨by simp,fun s hs=>by simp at hs⟩,by simp⟩
  ·intro a kr _;simp [a7l,b8l]
  ·intro w a kr h0 h1 hw hi ⟨hno,hol⟩ hk
   have hi2:inB w (b1T rs all start smps).length=true:=by rw [c34];exact hi
   have hno1:=hno.1;have htg:=ha.g _ (a1u h0 h1);simp only [a7l,decide_eq_true h1,e59,hi,hi2,a0b,hw,b8l,c33 h0 h1,c1P (show a.2.1.length≤maxLen by omega),e6e,getD_some]
   cases b4y rs all start (smps.getD w.toNat (.i 0)) with
   |true=>exact hk a ⟨⟨by omega,hno.2⟩,by omega⟩
   | false=>
    cases hg:c32 a.2.1 (smps.getD w.toNat (.i 0)) with
    |true=>
     have hp:=b73 hg;simp only [b60,a9y,b2l,a9x,e59,e6a,a0b,c31 hN hl hr (show a.2.1.length≤20000 by omega) hp ha.l ha.t hnil (c0a hno hp),e6e,getD_some,a0H,a0M,c1N (n:=a.2.2.2.length) (sz:=104) (b:=40020000) (by omega) (by omega) (by omega)]
     exact hk (false,[reS (smps.getD w.toNat (.i 0))],false,a.2.2.2++[a3y rs name sport start laps tn tags a.2.1]) ⟨⟨by simp;omega,fun s hs=>by rw [List.mem_singleton] at hs;rw [hs];exact b23 htg⟩,by simp;omega⟩
    | false=>
     simp only [b60,a9y,e6a,a0q,a0r,e6e,e59,c1N (n:=a.2.1.length) (sz:=56) (b:=20000) (by omega) (by omega) (by omega),a0b]
     exact hk (false,a.2.1++[reS (smps.getD w.toNat (.i 0))],a.2.2.1,a.2.2.2) ⟨⟨by simp;omega,fun s hs=>by
      rcases List.mem_append.1 hs with hs|hs
      ·exact hno.2 s hs
      ·rw [List.mem_singleton] at hs;rw [hs];exact b23 htg⟩,by simp only;omega⟩
 ·have :∀(l:List D) (a:Ty9) (w:Int),(∀s∈l,c5G start s)→c8X start a.2.1 w→c8X start (b8l (a3y rs name sport start laps tn tags) (b4y rs all start) l a).2.1 (w+l.length)∧(b8l (a3y rs name sport start laps tn tags) (b4y rs all start) l a).2.2.2.length≤a.2.2.2.length+l.length:=by
   intro l;induction l with
   |nil=>intro a w _ h;exact ⟨by simpa [b8l] using h,by simp [b8l]⟩
   | cons s r ih=>
    intro a w hg hn;have hgs:=hg s (by simp)
    have hgr:∀s∈r,c5G start s:=fun x hx=>hg x (by simp [hx])
    rw [b8l];have hn1:=hn.1;cases b4y rs all start s with
    |true=>
     obtain ⟨q1,q2⟩:=ih a (w+1) hgr ⟨by omega,hn.2⟩
     refine ⟨?_,?_⟩
     ·rw [e6m,show w+((r.length+1:Nat):Int)=w+1+r.length by omega];exact q1
     ·simp only [e59,e6m] at q2⊢;omega
    | false=>
     cases hgp:c32 a.2.1 s with
     |true=>
      obtain ⟨q1,q2⟩:=ih (false,[reS s],false,a.2.2.2++[a3y rs name sport start laps tn tags a.2.1]) (w+1) hgr ⟨by have:=b73 hgp;simp;omega,fun x hx=>by rw [List.mem_singleton] at hx;rw [hx];exact b23 hgs⟩
      refine ⟨?_,?_⟩
      ·rw [e6m,show w+((r.length+1:Nat):Int)=w+1+r.length by omega];exact q1
      ·simp only [e59,e6a,e6m,e6l] at q2⊢;simp at q2;omega
     | false=>
      obtain ⟨q1,q2⟩:=ih (false,a.2.1++[reS s],a.2.2.1,a.2.2.2) (w+1) hgr ⟨by simp;omega,fun x hx=>by
       rcases List.mem_append.1 hx with hx|hx
       ·exact hn.2 x hx
       ·rw [List.mem_singleton] at hx;rw [hx];exact b23 hgs⟩
      refine ⟨?_,?_⟩
      ·rw [e6m,show w+((r.length+1:Nat):Int)=w+1+r.length by omega];exact q1
      ·simp only [e6a,e6m] at q2⊢;omega
  obtain ⟨q1,q2⟩:=this smps (true,[],f,out) 0 ha.g ⟨by simp,fun s hs=>by simp at hs⟩
  exact ⟨by simpa using q1,q2⟩
def e0y (rs:List D) (name:List UInt8) (sport start:Int) (smps laps:List D) (tn:Bool) (tags:List D) (f:Bool) (out:List D):Bool×List D:=
 e3n (a3y rs name sport start laps tn tags) (b8l (a3y rs name sport start laps tn tags) (b4y rs (rs.any (a1f sport tags)) start) smps (true,[],f,out))
theorem d28 (hN:maxLen<N) (hl:rs.length≤50) (hr:∀r∈rs,a5u r) (ha:e3m start smps laps tags) (hnil:tn=true→tags=[]) (hout:out.length≤40000000):
  ∃x,c5r N rs name sport start smps laps tn tags f out=some x∧((x= .inl (e0y rs name sport start smps laps tn tags f out).2∧(e0y rs name sport start smps laps tn tags f out).1=false)∨x= .inr (e0y rs name sport start smps laps tn tags f out)):=by
 have hm:maxLen=9223372036854775807:=rfl;obtain ⟨y0,y1,e93⟩:=d25 hN hl hr;obtain ⟨e12,hno,hol⟩:=c1Q (name:=name) (sport:=sport) (tn:=tn) (f:=f) (out:=out) hN hl hr ha hnil hout (rs.any (a1f sport tags));have hs:=ha.s;have ht:=ha.t;unfold c5r c7U e0y;simp only [a0b,c3Y hN (e2s hl) ha.s (show tags.length≤maxLen by omega),e6e,getD_some,e59,e93,e12]
 generalize b8l (a3y rs name sport start laps tn tags) (b4y rs (rs.any (a1f sport tags)) start) smps (true,[],f,out)=a at hno hol;unfold e3n c3h b2o;cases hd:decide ((a.2.1.length:Int)>0) with
 |false=>exact ⟨_,rfl,.inr rfl⟩
 |true=>
  have hp:=of_decide_eq_true hd;have hno1:=hno.1;simp only [b2n,a9z,a0b,c31 hN hl hr (show a.2.1.length≤20000 by omega) (by omega) ha.l ha.t hnil (c0a hno (by omega)),e6e,getD_some,e59,c1N (n:=a.2.2.2.length) (sz:=104) (b:=40020000) (by omega) (by omega) (by omega)]
  exact ⟨_,rfl,.inl ⟨rfl,trivial⟩⟩
theorem d29:(e0y rs name sport start smps laps tn tags f out).2=out++(a2g (b4y rs (rs.any (a1f sport tags)) start) smps).map (a3y rs name sport start laps tn tags):=c8W _ _ _ _ _
end
theorem c0b (hid:D→Bool):∀(l:List D) (a:List D×List (List D)),(a4r hid l a).2.length+(bif decide (((a4r hid l a).1.length:Int)>0) then 1 else 0)≤a.2.length+(bif decide ((a.1.length:Int)>0) then 1 else 0)+l.length
 | [],a=>by simp [a4r]
 | s::r,a=>by
  rw [a4r];refine Nat.le_trans (c0b hid r _) ?_;rw [e6m];cases hid s with
  |true=>simp only [e59];omega
  | false=>
   cases hg:c32 a.1 s with
   |true=>
    have hp:=b73 hg;have e:decide ((a.1.length:Int)>0)=true:=decide_eq_true (by omega)
    rw [e];simp;omega
   |false=>
    simp;cases decide (0<a.1.length)<;>simp<;>omega
theorem c0c (hid:D→Bool) (l:List D):(a2g hid l).length≤l.length:=by
 have:=c0b hid l ([],[]);unfold a2g c8V;cases hd:decide (((a4r hid l ([],[])).1.length:Int)>0) with
 |true=>rw [hd] at this;simp at this⊢;omega
 |false=>rw [hd] at this;simp at this⊢;omega
structure c8Y (a:D):Prop where
 r:e3m (a2j a) (a1B a) (a3J a) (a10 a)
 n:aTn a=true→a10 a=[]
def e3o (rs:List D) (a:D) (f:Bool) (out:List D):Bool×List D:=e0y rs (a4R a) (a2Q a) (a2j a) (a1B a) (a3J a) (aTn a) (a10 a) f out
def d3a (rs:List D):List D→Bool×List D→Bool×List D
 | [],a=>a
 |x::l,a=>d3a rs l (e3o rs x a.1 a.2)
def a8y (rs:List D) (tn:Bool) (a:D):List D:=(a2g (b4y rs (rs.any (a1f (a2Q a) (a10 a))) (a2j a)) (a1B a)).map (a3y rs (a4R a) (a2Q a) (a2j a) (a3J a) tn (a10 a))
theorem c0d {rs:List D} {tn:Bool} {a:D} (h:c8Y a):(a8y rs tn a).length≤20000:=by
 unfold a8y;rw [List.length_map];exact Nat.le_trans (c0c _ _) h.r.s
theorem c35 {rs:List D} {a:D} {f:Bool} {out:List D}:(e3o rs a f out).2=out++a8y rs (aTn a) a:=d29
theorem c36 (rs:List D):∀(l:List D) (a:Bool×List D),(d3a rs l a).2=a.2++l.flatMap fun x=>a8y rs (aTn x) x
 | [],a=>by simp [d3a]
 |x::l,a=>by rw [d3a,c36 rs l,c35];simp
section
variable {rs xs l:List D} {lv:Int}
theorem c1R (hN:maxLen<N) (hl:rs.length≤50) (hr:∀r∈rs,a5u r) (hn:l.length≤2000) (ha:∀a∈l,c8Y a):b62 N rs l l.length 0 true []=some (d3a rs l (true,[])):=by
 have hm:maxLen=9223372036854775807:=rfl;unfold b62;refine a3j (.i 0:D) (A:=Bool×List D) (S:=fun w a kr=>a7m N rs l l.length w a.1 a.2 (fun w b l=>kr w (b,l)) _) (L:=fun m w a=>b2p N rs l l.length m w a.1 a.2 _) (fun m w a=>rfl) (fun w l a=>some (d3a rs l a)) (fun w a=>(a.2.length:Int)≤20000*w) (by omega) ?_ ?_ hN (a:=(true,[])) (by simp)
 ·intro a kr _;simp [a7m,d3a]
 ·intro w a kr h0 h1 hw hi hol hk
  have hg:=ha _ (a1u h0 h1);have hlen:=c0d (rs:=rs) (tn:=aTn (l.getD w.toNat (.i 0))) hg;obtain ⟨x,e,hx⟩:=d28 (name:=a4R (l.getD w.toNat (.i 0))) (sport:=a2Q (l.getD w.toNat (.i 0))) (f:=a.1) (out:=a.2) hN hl hr hg.r hg.n (by omega)
  have e:c5r N rs ((l.getD w.toNat (.i 0)).cell 0).toS ((l.getD w.toNat (.i 0)).cell 1).toI ((l.getD w.toNat (.i 0)).cell 2).toI ((l.getD w.toNat (.i 0)).cell 3).items ((l.getD w.toNat (.i 0)).cell 4).items ((l.getD w.toNat (.i 0)).cell 5).isNil ((l.getD w.toNat (.i 0)).cell 5).items a.1 a.2=some x:=e;have hsn:(e3o rs (l.getD w.toNat (.i 0)) a.1 a.2).2.length≤a.2.length+20000:=by rw [c35,e6l];omega
  have hk2:=hk (e3o rs (l.getD w.toNat (.i 0)) a.1 a.2) (by omega)
  simp only [a7m,decide_eq_true h1,e59,hi,a0b,hw,d3a,a2J,a19,e,e6e,getD_some];rcases hx with ⟨rfl,hf⟩|rfl
  ·simp only [a0H,a0M,e59]
   rw [←hk2];show kr (w+1) (false,_)=_;congr 1
   exact Prod.ext hf.symm rfl
  ·exact hk2
theorem d3b (hN:maxLen<N) (hv:a4n xs) (hn:l.length≤2000) (ha:∀a∈l,c8Y a):∃b,d7p N xs lv l=some (b,l.flatMap fun x=>a8y (a5t xs lv) (aTn x) x):=by
 have hm:maxLen=9223372036854775807:=rfl;obtain ⟨b,e⟩:=c3W (lv:=lv) hN hv.l;have h50:(a5t xs lv).length≤50:=Nat.le_trans c3X hv.l;have hg:∀r∈a5t xs lv,a5u r:=b94 fun r hr=>c3Z (hv.mem hr)
 refine ⟨(d3a (a5t xs lv) l (true,[])).1,?_⟩;unfold d7p d1g;simp only [a0b,e,e6e,getD_some,e59,c1R hN h50 hg hn ha];have:=c36 (a5t xs lv) l (true,[]);rw [List.nil_append] at this;exact congrArg some (c8R this)
end
section
variable {xs smps laps tags:List D} {lv sport start:Int} {name:List UInt8}
end
section
variable {xs l:List D} {lv:Int}
def c5H (a:D):Int:=chkA (a4R a) (a2Q a) (a2j a) (a1B a) (a3J a) (a10 a)
def a7Y (a:D):Prop:=ActOk (a4R a) (a1B a) (a3J a) (a10 a)
def a2k (xs:List D) (lv:Int) (l:List D):Int:=bif c3V xs !=0 then c3V xs else bif !inI lv 0 3 then 9 else a0g (fun w=>c5H (l.getD w.toNat (.i 0))) 0 l
theorem c8Z (e:Int):(bif a0U (some (a2S e)) then some (a1E (some (a2S e))) else bif (a0n (some (a2S e))).isSome then some 0 else none)=some e:=by
 have:=c8Q false e;simpa using this
theorem b74 (hN:maxLen<N) (hv:a6Q xs) (hn:l.length≤maxLen) (ha:∀a∈l,a7Y a):c7J N xs lv l=some (a2k xs lv l):=by
 have e:b6O N l l.length 0=some (a2S (a0g (fun w=>c5H (l.getD w.toNat (.i 0))) 0 l)):=by
  unfold b6O;refine (a03 (.i 0:D) (S:=fun w kr=>a7f N l l.length w kr _ _) (L:=fun m w=>b18 N l l.length m w _ _) (fun m w=>rfl) (fun w l'=>some (a2S (a0g (fun w=>c5H (l.getD w.toNat (.i 0))) w l'))) hn ?_ ?_ hN).trans rfl
  ·intro kr;simp [a7f,a0g,a2S]
  ·intro w kr h0 h1 hw hi hk
   have hx:b1Q N ((l.getD w.toNat (.i 0)).cell 0).toS ((l.getD w.toNat (.i 0)).cell 1).toI ((l.getD w.toNat (.i 0)).cell 2).toI ((l.getD w.toNat (.i 0)).cell 3).items ((l.getD w.toNat (.i 0)).cell 4).items ((l.getD w.toNat (.i 0)).cell 5).items=some (c5H (l.getD w.toNat (.i 0))):=G37x0_eq hN (ha _ (a1u h0 h1));simp only [a7f,decide_eq_true h1,e59,hi,a0b,hw,hk,hx,e6e,getD_some,a1W];cases c5H (l.getD w.toNat (.i 0)) !=0<;>rfl
 unfold c7J d0M a2k;simp only [a0b,d2Y hN hv,e6e,getD_some,e59,a3i,e,c8Z];cases c3V xs !=0<;>cases inI lv 0 3<;>rfl
theorem a2c (h:a2k xs lv l=0):a4n xs∧inI lv 0 3=true∧ ∀a∈l,c5H a=0:=by
 unfold a2k at h;obtain ⟨h1,h⟩:=b98 h;obtain ⟨h2,h⟩:=b0W h (by decide)
 refine ⟨d2Z h1,by simpa using h2,fun a ha=> ?_⟩
 obtain ⟨i,hi,rfl⟩:=List.getElem_of_mem ha;have:=a0I h i hi;rw [Int.zero_add,Int.toNat_natCast,e6d,e6j hi] at this;exact this
end
end Go.Proofs.YtcdhfpkfmekabaaGreatDoor
namespace Go.Proofs.YtcdhfpkfmekabaaGreatDoor
open Go Go.AM
variable {N:Nat}
def c0e (x y:D):Bool:=c8O (a4R x) (a2Q x) (a2j x) (a1B x) (a3J x) (a10 x) (a4R y) (a2Q y) (a2j y) (a1B y) (a3J y) (a10 y)
theorem c5I (x:D):c0e x x=true:=c5A
structure c80 (x:D):Prop where
 s:(a1B x).length≤maxLen
 l:(a3J x).length≤maxLen
 t:(a10 x).length≤maxLen
theorem e2v {w:Int} {n:Nat} (h:inB w n=true):0≤w∧w<n:=by
 unfold inB at h;simpa using h
section
variable {xs ys:List D}
end
section
variable {rs:List D} {tn:Bool} {a:D}
theorem b24 (hid:D→Bool):∀(l:List D) (b:List D×List (List D)) (n:Nat),b.1.length≤n→(∀r∈b.2,r.length≤n)→(a4r hid l b).1.length≤n+l.length∧ ∀r∈(a4r hid l b).2,r.length≤n+l.length
 | [],b,n,h1,h2=>⟨h1,h2⟩
 | s::l,b,n,h1,h2=>by
  rw [a4r,e6m,show n+(l.length+1)=(n+1)+l.length by omega]
  cases hid s with
  |true=>exact b24 hid l b (n+1) (by omega) fun r hr=>Nat.le_succ_of_le (h2 r hr)
  | false=>
   cases c32 b.1 s with
   |true=>
    refine b24 hid l _ (n+1) (by simp) fun r hr=> ?_
    simp only [e59,e6a,List.mem_append,List.mem_singleton] at hr;rcases hr with hr|rfl
    ·exact Nat.le_succ_of_le (h2 r hr)
    ·omega
   |false=>exact b24 hid l _ (n+1) (by simp;omega) fun r hr=>Nat.le_succ_of_le (h2 r hr)
theorem b4C (hid:D→Bool) (l:List D):∀r∈a2g hid l,r.length≤l.length:=by
 obtain ⟨h1,h2⟩:=b24 hid l ([],[]) 0 (by simp) (fun r hr=>by simp at hr)
 intro r hr;unfold a2g c8V at hr;rw [Nat.zero_add] at h1 h2;cases hd:decide (((a4r hid l ([],[])).1.length:Int)>0) with
 |true=>
  rw [hd] at hr;simp only [e59,List.mem_append,List.mem_singleton] at hr;rcases hr with hr|rfl
  ·exact h2 r hr
  ·exact h1
 |false=>rw [hd] at hr;exact h2 r hr
theorem c81 (p:D→Bool) (f:D→D) (l:List D) (a:Bool×List D):(a3e p f l a).2.length≤a.2.length+l.length:=by
 rw [a5s,e6l,List.length_map];have:=List.length_filter_le p l;omega
theorem d3c (h:c8Y a):∀x∈a8y rs tn a,c80 x:=by
 have hm:maxLen=9223372036854775807:=rfl;intro x hx;unfold a8y at hx;obtain ⟨r,h1,rfl⟩:=List.mem_map.1 hx;have hr:=b4C _ _ r h1;have h3:=h.r.s;have h4:=h.r.l;have h5:=h.r.t;refine ⟨?_,?_,?_⟩
 ·show (List.map _ r).length≤_
  rw [List.length_map];omega
 ·show (a3e _ _ (a3J a) (true,[])).2.length≤_
  refine Nat.le_trans (c81 _ _ _ _) ?_;simp;omega
 ·show (bif kdB rs 7 then [] else a10 a).length≤_
  cases kdB rs 7<;>simp;omega
end
section
variable {xs:List D} {lv sp st:Int} {nm:List UInt8} {sn ln tn:Bool} {s l t:List D}
def mkA (nm:List UInt8) (sp st:Int) (sn:Bool) (s:List D) (ln:Bool) (l:List D) (tn:Bool) (t:List D):D:= .a [.s nm,.i sp,.i st,.l sn s,.l ln l,.l tn t]
theorem e2w {P:D→Prop} {x:D} (h:P x):∀a∈[x],P a:=fun a ha=>by rw [List.mem_singleton] at ha;rw [ha];exact h
def e3p (xs:List D) (lv:Int) (a:D):List D:=b1T (a5t xs lv) ((a5t xs lv).any (a1f (a2Q a) (a10 a))) (a2j a) (a1B a)
theorem c82 (l:List D):eqL c0e l l=true:=b22 c5I l
end
end Go.Proofs.YtcdhfpkfmekabaaGreatDoor
namespace Go.Proofs.YtcdhfpkfmekabaaGreatDoor
open Go Go.AM
variable {N:Nat}
def e2x (n r:Int):Prop:=0≤r∧r*r≤n∧n<(r+1)*(r+1)
theorem e2x.uniq {n r s:Int} (h:e2x n r) (g:e2x n s):r=s:=by
 obtain ⟨h0,h1,h2⟩:=h;obtain ⟨g0,g1,g2⟩:=g;by_cases a:r<s
 ·have:(r+1)*(r+1)≤s*s:=Int.mul_le_mul (by omega) (by omega) (by omega) (by omega)
  omega
 ·by_cases b:s<r
  ·have:(s+1)*(s+1)≤r*r:=Int.mul_le_mul (by omega) (by omega) (by omega) (by omega)
   omega
  ·omega
def d9C:Nat→Int
 |0=>0
 |k+1=>2^k
theorem c83 (k:Nat):((2:Int)^k).fdiv (2^1)=d9C k:=by
 cases k with
 |zero=>rfl
 |succ k=>
  show ((2:Int)^(k+1)).fdiv (2^1)=2^k;rw [Int.pow_succ];exact Int.mul_fdiv_cancel _ (by decide)
theorem b0X {n:Int} (h0:0≤n) (h1:n<9223372036854775808):∀(k m:Nat) (r:Int),k<m→0≤r→r*r≤n→n<(r+2^k)*(r+2^k)→r+2^k≤4294967296→
  ∃s,a3r N (R:=Int) n m r (d9C k) (fun p=>some p)=some s∧e2x n s
 |k,0,r,hm,_,_,_,_=>by omega
 |0,m+1,r,hm,r0,r1,r2,r3=>by
  refine ⟨r,?_,r0,r1,by simpa using r2⟩
  simp [a3r,a5j,d9C]
 | k+1,m+1,r,hm,r0,r1,r2,r3=>by
  have hk:(0:Int)<2^k:=Int.pow_pos (by decide)
  have hp:(2:Int)^(k+1)=2^k+2^k:=by rw [Int.pow_succ];omega
  rw [hp] at r2 r3;obtain ⟨b,hb⟩:∃b:Int,b=2^k:=⟨_,rfl⟩;rw [←hb] at hk r2 r3;have ht:IntKind.wrap .i64 (r+b)=r+b:=a0u (by omega) (by omega)
  obtain ⟨t,htt⟩:∃t:Int,t=r+b:=⟨_,rfl⟩;have hsq:t*t≤4294967295*4294967295:=Int.mul_le_mul (by omega) (by omega) (by omega) (by omega)
  have hsq0:0<t*t:=Int.mul_pos (by omega) (by omega)
  have hy:(bif decide (IntKind.wrap .i64 (t*t)>0) then decide (t≤IntKind.wrap .i64 (n.tdiv t)) else false)=decide (t*t≤n):=by
   by_cases hbig:t*t<9223372036854775808
   ·rw [a0u (by omega) (by omega),decide_eq_true (by omega),e59,Int.tdiv_eq_ediv_of_nonneg h0]
    have hq0:0≤n/t:=Int.ediv_nonneg h0 (by omega)
    have hq1:n/t≤n:=Int.ediv_le_self _ h0;rw [a0u (by omega) (by omega),Bool.eq_iff_iff]
    simp only [decide_eq_true_eq];rw [Int.le_ediv_iff_mul_le (by omega)]
   ·have hw:¬IntKind.wrap .i64 (t*t)>0:=by rw [IntKind.wrap_i64];omega
    rw [decide_eq_false hw,e6a,decide_eq_false (by omega)]
  have hz:(!(t==0))=true:=by simp;omega
  have hstep:a3r N (R:=Int) n (m+1) r (d9C (k+1)) (fun p=>some p)=a3r N (R:=Int) n m (bif decide (t*t≤n) then t else r) (d9C k) (fun p=>some p):=by
   show a5j N n r (d9C (k+1)) _ _=_;unfold a5j;rw [show d9C (k+1)=b by rw [hb];rfl,decide_eq_true (by omega:b>0),e59,ht,←htt,hz]
   simp only [a0b,e59,hy,b9F,a9B];rw [hb,c83]
  rw [hstep];by_cases hle:t*t≤n
  ·rw [decide_eq_true hle,e59]
   refine b0X h0 h1 k m t (by omega) (by omega) hle ?_ (by omega)
   rw [←hb,htt,Int.add_assoc];exact r2
  ·rw [decide_eq_false hle,e6a]
   exact b0X h0 h1 k m r (by omega) r0 r1 (by rw [←hb,←htt];omega) (by omega)
theorem e2y (hN:maxLen<N) {n:Int} (h0:0≤n) (h1:n<9223372036854775808):∃s,b9H N n=some (s,0)∧e2x n s:=by
 have hm:maxLen=9223372036854775807:=rfl;obtain ⟨s,hs,hr⟩:=b0X (N:=N) h0 h1 32 N 0 (by omega) (by omega) (by simpa using h0) (by simp;omega) (by decide)
 refine ⟨s,?_,hr⟩;unfold b9H c3l b9G;have hs:a3r N (R:=Int) n N 0 2147483648 (fun p=>some p)=some s:=hs
 rw [decide_eq_false (by omega),hs]
 rfl
end Go.Proofs.YtcdhfpkfmekabaaGreatDoor
namespace Go.Proofs.YtcdhfpkfmekabaaGreatDoor
open Go Go.AM
variable {N:Nat}
abbrev sec (s:D):Int:=(s.cell 0).toI
abbrev sv (s:D) (j:Nat):Int:=(s.cell j).toI
structure c5J (s:D):Prop where
 lo:0≤sec s
 hi:sec s≤1000000
 x: -100000000≤sv s 1∧sv s 1≤100000000
 y: -100000000≤sv s 2∧sv s 2≤100000000
def Asc (l:List D):Prop:=l.Pairwise fun a b=>sec a<sec b
def sqI (p q:D):Int:=(sv q 1-sv p 1)*(sv q 1-sv p 1)+(sv q 2-sv p 2)*(sv q 2-sv p 2)
theorem e2z {a:Int} (h1: -200000000≤a) (h2:a≤200000000):0≤a*a∧a*a≤40000000000000000:=by
 by_cases h:0≤a
 ·exact ⟨Int.mul_nonneg h h,Int.mul_le_mul (c:=200000000) (d:=200000000) h2 h2 h (by decide)⟩
 ·have e:a*a=(-a)*(-a):=by rw [Int.neg_mul_neg]
  rw [e];exact ⟨Int.mul_nonneg (by omega) (by omega),Int.mul_le_mul (a:= -a) (b:= -a) (c:=200000000) (d:=200000000) (by omega) (by omega) (by omega) (by decide)⟩
theorem e2A {p q:D} (hp:c5J p) (hq:c5J q):0≤sqI p q∧sqI p q≤80000000000000000∧IntKind.wrap .i64 ((IntKind.wrap .i64 (sv q 1-sv p 1))*(IntKind.wrap .i64 (sv q 1-sv p 1)))=(sv q 1-sv p 1)*(sv q 1-sv p 1)∧
  IntKind.wrap .i64 ((IntKind.wrap .i64 (sv q 2-sv p 2))*(IntKind.wrap .i64 (sv q 2-sv p 2)))=(sv q 2-sv p 2)*(sv q 2-sv p 2):=by
 have h1:=hp.x;have h2:=hp.y;have h3:=hq.x;have h4:=hq.y;have e1:=e2z (a:=sv q 1-sv p 1) (by omega) (by omega)
 have e2:=e2z (a:=sv q 2-sv p 2) (by omega) (by omega)
 have w1:IntKind.wrap .i64 (sv q 1-sv p 1)=sv q 1-sv p 1:=a0u (by omega) (by omega)
 have w2:IntKind.wrap .i64 (sv q 2-sv p 2)=sv q 2-sv p 2:=a0u (by omega) (by omega)
 rw [w1,w2];exact ⟨by unfold sqI;omega,by unfold sqI;omega,a0u (by omega) (by omega),a0u (by omega) (by omega)⟩
theorem d9D {p q:D} (hp:c5J p) (hq:c5J q):c7Z N (sv p 1) (sv p 2) (sv q 1) (sv q 2)=sqI p q:=by
 obtain ⟨h1,h2,h3,h4⟩:=e2A hp hq;unfold c7Z c3k;simp only [a0b];rw [h3,h4];exact a0u (by unfold sqI at*;omega) (by unfold sqI at*;omega)
def e2B (p q:D):Int:=((b9H (9223372036854775808:Nat) (sqI p q)).getD (0,0)).1
theorem e2C (hN:maxLen<N) {p q:D} (hp:c5J p) (hq:c5J q):b9H N (sqI p q)=some (e2B p q,0):=by
 have hm:maxLen=9223372036854775807:=rfl;obtain ⟨h1,h2,_,_⟩:=e2A hp hq;obtain ⟨s,e1,r1⟩:=e2y hN (n:=sqI p q) h1 (by omega)
 obtain ⟨u,e3,r3⟩:=e2y (N:=9223372036854775808) (by omega) (n:=sqI p q) h1 (by omega)
 have hu:e2B p q=u:=by unfold e2B;rw [e3];rfl
 rw [e1,hu,r1.uniq r3]
theorem d3d {n:Int} (h: -100000000≤n∧n≤100000000):c3j N n (-100000000) 100000000=true:=by
 unfold c3j c3i;rw [decide_eq_true h.1,decide_eq_true h.2];rfl
theorem c5K (hN:maxLen<N) {a b c d:Int} (ha: -100000000≤a∧a≤100000000) (hb: -100000000≤b∧b≤100000000) (hc: -100000000≤c∧c≤100000000) (hd: -100000000≤d∧d≤100000000):
  c1w N 4 [(.i a),(.i b),(.i c),(.i d)] 0=some (.inr ()):=by
 unfold c1w;refine (a03 (.i 0:D) (xs:=[(.i a),(.i b),(.i c),(.i d)]) (S:=fun w kr=>b4b N 4 [(.i a),(.i b),(.i c),(.i d)] w kr _ _) (L:=fun m w=>b7a N 4 [(.i a),(.i b),(.i c),(.i d)] m w _ _) (fun m w=>rfl) (fun _ _=>some (.inr ())) (by show (4:Nat)≤9223372036854775807;decide) ?_ ?_ hN).trans rfl
 ·intro kr;rfl
 ·intro w kr h0 h1 hw hi hk
  have h1':w<4:=h1;have hin:c3j N (([(.i a),(.i b),(.i c),(.i d)]:List D).getD w.toNat (.i 0)).toI (-100000000) 100000000=true:=by
   have:w=0∨w=1∨w=2∨w=3:=by omega
   rcases this with rfl|rfl|rfl|rfl
   ·exact d3d ha
   ·exact d3d hb
   ·exact d3d hc
   ·exact d3d hd
  unfold b4b;rw [decide_eq_true h1',hi,hin,hw,hk,decide_eq_true (show w.toNat<([(.i a),(.i b),(.i c),(.i d)]:List D).length by simp;omega)]
  rfl
theorem d3e (hN:maxLen<N) {p q:D} (hp:c5J p) (hq:c5J q):d7G N (sv p 1) (sv p 2) (sv q 1) (sv q 2)=some (e2B p q,0):=by
 unfold d7G d1t d4z c3m;rw [c5K hN hp.x hp.y hq.x hq.y,d9D hp hq];simp only [a0b,a0q,a0r,e59,e6a,e6e,e2C hN hp hq,getD_some]
theorem c84 (a:Int):max2 a 0=max2 0 a:=by unfold max2;split<;>split<;>omega
def e4L (kind:Int) (p q:D):Int:=bif kind==1 then sv p 4 else bif kind==2 then sv p 5 else bif kind==3 then sv p 6 else bif kind==4 then e2B p q else max2 0 (IntKind.wrap .i64 (sv q 3-sv p 3))
theorem d3f (hN:maxLen<N) {kind:Int} (h1:1≤kind) (h2:kind≤5) {p q:D} (hp:c5J p) (hq:c5J q):
  a1p N false kind (kind==1) (sv p 1) (sv p 2) (sv p 3) (sv p 4) (sv p 5) (sv p 6) (sv q 1) (sv q 2) (sv q 3)=some (e4L kind p q,decide (4≤kind)):=by
 have:kind=1∨kind=2∨kind=3∨kind=4∨kind=5:=by omega
 unfold a1p a1o a3u a1n a3t a1m a3s a1l;rcases this with rfl|rfl|rfl|rfl|rfl
 ·rfl
 ·rfl
 ·rfl
 ·rw [d3e hN hp hq];rfl
 ·rw [c84];rfl
def e5o (val n j:Int):Int:=IntKind.wrap .i64 (IntKind.wrap .i64 ((IntKind.wrap .i64 (val*(IntKind.wrap .i64 (j+1)))).tdiv n)-IntKind.wrap .i64 ((IntKind.wrap .i64 (val*j)).tdiv n))
def e4M (spread:Bool) (val n j:Int):Int:=bif decide (n>60) then (bif spread then 0 else-1) else bif spread then e5o val n j else val
def c5L (spread:Bool) (val n:Int):Nat→Int→List D
 |0,_=>[]
 |d+1,j=> .i (e4M spread val n j)::c5L spread val n d (j+1)
theorem b4D {spread:Bool} {val n:Int}:∀{d:Nat} {j:Int},(c5L spread val n d j).length=d
 |0,_=>rfl
 |d+1,j=>by simp [c5L,b4D]
theorem c37 {n:Nat} (h:n≤8000000):(decide (n*8≤a0X)&&decide (n≤a0c))=true:=by
 have e1:a0X=140737488355328:=rfl;have e2:a0c=9223372036854775807:=rfl;rw [decide_eq_true (by omega),decide_eq_true (by omega)];rfl
theorem c0f {spread:Bool} {val n:Int} (hn0:0<n) (hn:n≤1000000):∀(d m:Nat) (j:Int) (acc:List D),d<m→0≤j→j+d=n→acc.length+d≤4000000→
  a0Z N (R:=Bool×LD) n val spread n m j false acc (fun p=>some p)=some (false,acc++c5L spread val n d j)
 |d,0,j,acc,hm,_,_,_=>by omega
 |0,m+1,j,acc,hm,h0,h1,h2=>by
  have:¬j<n:=by omega
  simp only [a0Z,a1t,decide_eq_false this,e6a,c5L,List.append_nil]
 |d+1,m+1,j,acc,hm,h0,h1,h2=>by
  have hlt:j<n:=by omega
  have hz:(!(n==0))=true:=by simp;omega
  have hr:=c37 (n:=acc.length+1) (by omega)
  have hw:IntKind.wrap .i64 (j+1)=j+1:=a0u (by omega) (by omega)
  have ih:=c0f (spread:=spread) (val:=val) hn0 hn d m (j+1) (acc++[.i (e4M spread val n j)]) (by omega) (by omega) (by omega) (by simp;omega)
  rw [e6n] at ih;refine Eq.trans ?_ ih;simp only [a0Z,a1t,decide_eq_true hlt,e59,a1s,a0W,a3w,a1r,a3v,a1q,a0b,hz,hr];unfold e4M e5o;rw [hw];cases decide (n>60)<;>cases spread<;>rfl
end Go.Proofs.YtcdhfpkfmekabaaGreatDoor
namespace Go.Proofs.YtcdhfpkfmekabaaGreatDoor
open Go Go.AM
variable {N:Nat}
def c1S (kind:Int) (p q:D):List D:=c5L (decide (4≤kind)) (e4L kind p q) (sec q-sec p) (sec q-sec p).toNat 0
def a4o (kind:Int):List D→List D
 |p::q::r=>c1S kind p q++a4o kind (q::r)
 |_=>[]
theorem c38 {kind:Int}:∀(l:List D) (p:D),Asc (p::l)→((a4o kind (p::l)).length:Int)=sec ((p::l).getLast (by simp))-sec p
 | [],p,_=>by simp [a4o]
 |q::r,p,h=>by
  have h1:=(List.pairwise_cons.1 h).1 q (by simp)
  have ih:=c38 (kind:=kind) r q (List.pairwise_cons.1 h).2;rw [List.getLast_cons (by simp)]
  simp only [a4o,e6l,c1S,b4D];omega
structure b75 (l:List D):Prop where
 asc:Asc l
 ok:∀s∈l,c5J s
theorem b75.tail {p:D} {l:List D} (h:b75 (p::l)):b75 l:=⟨(List.pairwise_cons.1 h.asc).2,fun s hs=>h.ok s (by simp [hs])⟩
theorem wr3 {p q:D} (hp:c5J p) (hq:c5J q):IntKind.wrap .i64 (sec q-sec p)=sec q-sec p:=a0u (by have:=hp.lo;have:=hp.hi;have:=hq.lo;omega) (by have:=hp.lo;have:=hq.hi;omega)
theorem b0Y {xs r:List D} {p:D} {i:Nat} (h:xs.drop i=p::r):i<xs.length∧xs.getD i (.i 0)=p∧xs.drop (i+1)=r∧xs.length=i+1+r.length:=by
 have hl:=congrArg List.length h;rw [List.length_drop,e6m] at hl;have hi:i<xs.length:=by omega
 rw [List.drop_eq_getElem_cons hi] at h;injection h with h1 h2;exact ⟨hi,by rw [e6d,e6j hi];exact h1,h2,by omega⟩
theorem b5R (hN:maxLen<N) {kind:Int} (h1:1≤kind) (h2:kind≤5) {xs:List D} (hlen:xs.length≤20000):∀(r:List D) (p:D) (i m:Nat) (acc:List D),xs.drop i=p::r→b75 (p::r)→r.length<m→acc.length+(a4o kind (p::r)).length≤4000000→
  a7r N (R:=Bool×LD) xs kind m ((i:Int)+1) false acc (fun p=>some p)=some (false,acc++a4o kind (p::r))
 |_,_,_,0,_,_,_,hm,_=>by omega
 | [],p,i,m+1,acc,hd,_,_,_=>by
  obtain ⟨_,_,_,hl⟩:=b0Y hd;have:¬((i:Int)+1<(xs.length:Int)):=by simp at hl;omega
  simp only [a7r,a9C,decide_eq_false this,e6a,a4o,List.append_nil]
 | q::r,p,i,m+1,acc,hd,hc,hm,hb=>by
  obtain ⟨b1,b2,b3,b4⟩:=b0Y hd;obtain ⟨c1,c2,_,_⟩:=b0Y b3;have hM:maxLen=9223372036854775807:=rfl;have hp:=hc.ok p (by simp)
  have hq:=hc.ok q (by simp)
  have hlt:sec p<sec q:=(List.pairwise_cons.1 hc.asc).1 q (by simp)
  have a1:=hp.lo;have a2:=hq.hi;have hw1:IntKind.wrap .i64 ((i:Int)+1-1)=i:=a0u (by omega) (by omega)|>.trans (by omega)
  have hw2:IntKind.wrap .i64 ((i:Int)+1+1)=((i+1:Nat):Int)+1:=a0u (by omega) (by omega)|>.trans (by omega)
  have hi1:inB (i:Int) xs.length=true:=a0D (by omega) (by omega)
  have hi2:inB ((i:Int)+1) xs.length=true:=a0D (by omega) (by omega)
  have e1:xs.getD ((i:Int)).toNat (.i 0)=p:=by rw [Int.toNat_natCast];exact b2
  have e2:xs.getD ((i:Int)+1).toNat (.i 0)=q:=by rw [show ((i:Int)+1).toNat=i+1 by omega];exact c2
  have hcnd:(i:Int)+1<(xs.length:Int):=by simp at b4;omega
  have hrl:(a4o kind (p::q::r)).length=(c1S kind p q).length+(a4o kind (q::r)).length:=by simp only [a4o,e6l]
  have hsl:(c1S kind p q).length=(sec q-sec p).toNat:=by unfold c1S;exact b4D
  have ih:=b5R hN h1 h2 hlen r q (i+1) m (acc++c1S kind p q) b3 hc.tail (by simp at hm;omega) (by rw [e6l];omega)
  have hx:a6M N ((i:Int)+1) xs kind false acc=some (false,acc++c1S kind p q):=by
   unfold a6M a6L;rw [hw1,hi1,hi2,e1,e2];simp only [a0b,e59];rw [show IntKind.wrap .i64 ((q.cell 0).toI-(p.cell 0).toI)=sec q-sec p from wr3 hp hq];rw [show a1p N false kind (kind==1) (p.cell 1).toI (p.cell 2).toI (p.cell 3).toI (p.cell 4).toI (p.cell 5).toI (p.cell 6).toI (q.cell 1).toI (q.cell 2).toI (q.cell 3).toI=some (e4L kind p q,decide (4≤kind)) from d3f hN h1 h2 hp hq];simp only [e6e,e59,getD_some,a4E];rw [c0f (N:=N) (by omega) (by omega) (sec q-sec p).toNat N 0 acc (by omega) (by omega) (by omega) (by omega)]
   rfl
  simp only [a7r,a9C,decide_eq_true hcnd,e59,a0b,hx,e6e,getD_some,hw2];rw [ih,a4o,e6n]
theorem a1b (hN:maxLen<N) {kind:Int} (h1:1≤kind) (h2:kind≤5) {xs:List D} (hlen:xs.length≤20000) (hc:b75 xs) (h0:xs≠[]→sec (xs.getD 0 (.i 0))=0):
  b9L N xs kind=some (false,a4o kind xs)∧((a4o kind xs).length:Int)=spanD xs∧0≤spanD xs∧spanD xs≤1000000:=by
 have hM:maxLen=9223372036854775807:=rfl;have hspan:((a4o kind xs).length:Int)=spanD xs∧0≤spanD xs∧spanD xs≤1000000:=by
  cases xs with
  |nil=>exact ⟨rfl,by decide,by decide⟩
  | cons p r=>
   have e0:sec p=0:=h0 (by simp)
   have e1:spanD (p::r)=sec ((p::r).getLast (by simp)):=by
    unfold spanD;rw [decide_eq_true (by simp),e59,List.getLast_eq_getElem]
    rw [e6d,e6j (by simp),Option.getD_some]
    simp only [e6m];congr 3
    omega
   have hl:=c38 (kind:=kind) r p hc.asc;have hx:=hc.ok ((p::r).getLast (by simp)) (List.getLast_mem _)
   refine ⟨by rw [hl,e1,e0];omega,by rw [e1];exact hx.lo,by rw [e1];exact hx.hi⟩
 refine ⟨?_,hspan⟩;obtain ⟨s1,s2,s3⟩:=hspan;have hsp:a8r N xs=some (spanD xs):=G29x0_eq (by omega)
 have hr:=c37 (n:=(spanD xs).toNat) (by omega)
 have hloop:b7b N xs kind 1 false []=some (false,a4o kind xs):=by
  unfold b7b;cases xs with
  |nil=>
   obtain ⟨M,rfl⟩:∃M,N=M+1:=⟨N-1,by omega⟩
   rfl
  |cons p r=>exact b5R hN h1 h2 hlen r p 0 N [] rfl hc (by simp at hlen;omega) (by simp at s1⊢;omega)
 unfold b9L d1x a2P a2a c3o b9K;rw [hsp];simp only [a0b,e6e,e59,getD_some,decide_eq_true s2,hr,Bool.true_and,hloop]
end Go.Proofs.YtcdhfpkfmekabaaGreatDoor
namespace Go.Proofs.YtcdhfpkfmekabaaGreatDoor
open Go Go.AM
variable {N:Nat}
theorem b5S {xs:List D} (hl:xs.length≤8000000):∀(d m:Nat) (w a b:Int),d<m→0≤w→w+d=xs.length→
  ∃r,b0P N (R:=Int×Int) xs xs.length m a b w (fun p=>some p)=some r
 |d,0,w,a,b,hm,_,_=>by omega
 |0,m+1,w,a,b,hm,h0,h1=>by
  have:¬w<(xs.length:Int):=by omega
  exact ⟨(a,b),by simp only [b0P,b4e,decide_eq_false this,e6a]⟩
 |d+1,m+1,w,a,b,hm,h0,h1=>by
  have hlt:w<(xs.length:Int):=by omega
  have hi:inB w xs.length=true:=a0D h0 (by omega)
  have hw:IntKind.wrap .i64 (w+1)=w+1:=a0u (by omega) (by omega)
  obtain ⟨r,e1⟩:=b5S hl d m (w+1) (b7e N a b (xs.getD w.toNat (.i 0)).toI (decide ((xs.getD w.toNat (.i 0)).toI≥0))).1 (b7e N a b (xs.getD w.toNat (.i 0)).toI (decide ((xs.getD w.toNat (.i 0)).toI≥0))).2 (by omega) (by omega) (by omega)
  refine ⟨r,?_⟩;simp only [b0P,b4e,decide_eq_true hlt,e59,hi,a0b,hw];exact e1
theorem a98 (hN:maxLen<N) {xs:List D} (hl:xs.length≤8000000):∃r,c1y N xs=some r:=by
 have hM:maxLen=9223372036854775807:=rfl;obtain ⟨r,e1⟩:=b5S (N:=N) hl xs.length N 0 0 0 (by omega) (by omega) (by omega)
 refine ⟨r,?_⟩;unfold c1y d1z c73;rw [e1];rfl
theorem d9E (hN:maxLen<N) {a b c d e:List D} {n:Int} (h0:0≤n) (hn:n≤1000000) (ha:(a.length:Int)=n) (hb:(b.length:Int)=n) (hc:(c.length:Int)=n) (hd:(d.length:Int)=n) (he:(e.length:Int)=n):
  ∃r,d7R N a b c d e 0 n=some r:=by
 have hk:∀l:List D,(l.length:Int)=n→((l.take n.toNat).drop (0:Int).toNat).length≤8000000:=by intro l hl;simp;omega
 obtain ⟨ra,a1⟩:=a98 hN (hk a ha);obtain ⟨rb,b1⟩:=a98 hN (hk b hb);obtain ⟨rc,c1⟩:=a98 hN (hk c hc);obtain ⟨rd,d1⟩:=a98 hN (hk d hd);obtain ⟨re,e1⟩:=a98 hN (hk e he);have cd:∀l:List D,(l.length:Int)=n→(((decide ((0:Int)≤0))&&(decide (0≤n)))&&(decide (n≤(l.length:Int))))=true:=by
  intro l hl;rw [decide_eq_true h0,decide_eq_true (by omega:n≤(l.length:Int))];rfl
 refine ⟨(rd.1,re.1,ra.1,rb.1,rc.1,ra.2,rb.2,rc.2),?_⟩
 ·unfold d7R d1A
  simp only [cd a ha,cd b hb,cd c hc,cd d hd,cd e he,e59,a1,b1,c1,d1,e1,a0b,e6e,getD_some]
section
variable {name:List UInt8} {sport start:Int} {smps laps tags:List D}
theorem d9F (hst0:0≤start) (hst:start≤86399999999) (h:a0g (a7K start smps) 0 smps=0):b75 smps∧(smps≠[]→sec (smps.getD 0 (.i 0))=0):=by
 have hz:∀(l:List D) (w:Int),a0g (a7K start smps) w l=0→ ∀i:Nat,i<l.length→a7K start smps (w+i)=0:=by
  intro l;induction l with
  |nil=>intro w _ i hi;simp at hi
  | cons x r ih=>
   intro w h i hi;simp only [a0g] at h;have hw:a7K start smps w=0:=by
    by_cases hx:a7K start smps w=0
    ·exact hx
    ·have:(a7K start smps w !=0)=true:=by simpa using hx
     rw [this,e59] at h;exact h
   rw [hw] at h;have h:a0g (a7K start smps) (w+1) r=0:=h;cases i with
   |zero=>simpa using hw
   |succ i=>
    have:=ih (w+1) h i (by simpa using hi)
    rwa [show w+1+(i:Int)=w+((i+1:Nat):Int) by omega] at this
 have hw:∀i:Nat,i<smps.length→b4t smps i=false∧b5P start (smps.getD i (.i 0))=false∧b70 (smps.getD i (.i 0))=true:=by
  intro i hi;have:=hz smps 0 h i hi;rw [Int.zero_add] at this;unfold a7K at this;rw [Int.toNat_natCast] at this;cases h1:b4t smps (i:Int) with
  |true=>rw [h1] at this;cases this
  | false=>
   rw [h1] at this;simp only [e6a] at this;cases h2:b5P start (smps.getD i (.i 0)) with
   |true=>rw [h2] at this;cases this
   |false=>
    rw [h2] at this;cases h3:b70 (smps.getD i (.i 0)) with
    |true=>exact ⟨rfl,rfl,rfl⟩
    |false=>rw [h3] at this;cases this
 have gd:∀{i:Nat} (hi:i<smps.length),smps.getD i (.i 0)=smps[i]:=fun hi=>by rw [e6d,e6j hi];rfl
 have hfirst:smps≠[]→sec (smps.getD 0 (.i 0))=0:=by
  intro hne;have:=(hw 0 (by cases smps with|nil=>exact absurd rfl hne|cons=>simp)).1
  unfold b4t at this;simpa using this
 have hord:∀i:Nat,i+1<smps.length→sec (smps.getD i (.i 0))<sec (smps.getD (i+1) (.i 0)):=by
  intro i hi;have:=(hw (i+1) hi).1;unfold b4t at this;have e0:(((i+1:Nat):Int)==0)=false:=by simp;omega
  rw [e0] at this;simp only [e6a,decide_eq_false_iff_not] at this;have e1:(((i+1:Nat):Int)-1).toNat=i:=by omega
  rw [e1,Int.toNat_natCast] at this;unfold sec;omega
 have hlt:∀k i:Nat,i+1+k<smps.length→sec (smps.getD i (.i 0))<sec (smps.getD (i+1+k) (.i 0)):=by
  intro k;induction k with
  |zero=>intro i hi;exact hord i hi
  |succ k ih=>
   intro i hi;have h1:=ih i (by omega)
   have h2:=hord (i+1+k) (by omega)
   rw [show i+1+(k+1)=i+1+k+1 by omega]
   omega
 have hasc:Asc smps:=by
  unfold Asc;rw [List.pairwise_iff_getElem];intro i j hi hj hij;obtain ⟨k,rfl⟩:∃k,j=i+1+k:=⟨j-i-1,by omega⟩
  have:=hlt k i hj
  rwa [gd hi,gd hj] at this
 refine ⟨⟨hasc,fun x hx=> ?_⟩,hfirst⟩
 obtain ⟨i,hi,rfl⟩:=List.getElem_of_mem hx;have hlo:0≤sec (smps.getD i (.i 0)):=by
  have hf:=hfirst (by intro e;rw [e] at hi;simp at hi)
  rcases Nat.eq_zero_or_pos i with rfl|hp
  ·omega
  ·have:=hlt (i-1) 0 (by omega)
   rw [show 0+1+(i-1)=i by omega] at this
   omega
 obtain ⟨_,h2,h3⟩:=hw i hi;rw [←gd hi];unfold b5P at h2;simp only [Bool.or_eq_false_iff,decide_eq_false_iff_not] at h2;unfold b70 at h3;simp only [e57,inI,decide_eq_true_eq] at h3;exact ⟨hlo,by unfold sec;omega,h3.1.1.1.1.1,h3.1.1.1.1.2⟩
theorem d3g (hN:maxLen<N) (hlen:smps.length≤20000) (hc:b75 smps) (h0:smps≠[]→sec (smps.getD 0 (.i 0))=0):d7L N smps=some (false,a4o 1 smps,false,a4o 2 smps,false,a4o 3 smps,false,a4o 4 smps,false,a4o 5 smps):=by
 unfold d7L d1y;simp only [(a1b hN (by decide:(1:Int)≤1) (by decide) hlen hc h0).1,(a1b hN (by decide:(1:Int)≤2) (by decide) hlen hc h0).1,(a1b hN (by decide:(1:Int)≤3) (by decide) hlen hc h0).1,(a1b hN (by decide:(1:Int)≤4) (by decide) hlen hc h0).1,(a1b hN (by decide:(1:Int)≤5) (by decide) hlen hc h0).1,a0b,e6e,e59,getD_some]
theorem c85 (hN:maxLen<N) (hlen:smps.length≤20000) (hc:b75 smps) (h0:smps≠[]→sec (smps.getD 0 (.i 0))=0) (hchk1:b1Q N name sport start smps laps tags=some 0):
  ∃r:Ty5,c1z N name sport start smps laps tags 0 (spanD smps)=some r:=by
 have hM:maxLen=9223372036854775807:=rfl;obtain ⟨_,l1,s0,s1⟩:=a1b hN (by decide:(1:Int)≤1) (by decide) hlen hc h0
 obtain ⟨_,l2,_,_⟩:=a1b hN (by decide:(1:Int)≤2) (by decide) hlen hc h0
 obtain ⟨_,l3,_,_⟩:=a1b hN (by decide:(1:Int)≤3) (by decide) hlen hc h0
 obtain ⟨_,l4,_,_⟩:=a1b hN (by decide:(1:Int)≤4) (by decide) hlen hc h0
 obtain ⟨_,l5,_,_⟩:=a1b hN (by decide:(1:Int)≤5) (by decide) hlen hc h0
 obtain ⟨r,r1⟩:=d9E hN s0 s1 l1 l2 l3 l4 l5;have hsp:a8r N smps=some (spanD smps):=G29x0_eq (by omega)
 have c1:decide ((0:Int)>spanD smps)=false:=decide_eq_false (by omega)
 have c2:decide (spanD smps>spanD smps)=false:=decide_eq_false (by omega)
 have g1:b7f N 0 (spanD smps) smps=some false:=by
  unfold b7f b2u;rw [hsp,c1];simp only [a0b,e6e,e59,getD_some,c2];rfl
 refine ⟨(0,spanD smps,r.1,r.2.1,r.2.2.1,r.2.2.2.1,r.2.2.2.2.1,r.2.2.2.2.2.1,r.2.2.2.2.2.2.1,r.2.2.2.2.2.2.2,0),?_⟩;unfold c1z d1B;rw [hchk1];simp only [a0b,e6e,e59,getD_some,g1,e6a,d3g hN hlen hc h0,r1];rfl
end
end Go.Proofs.YtcdhfpkfmekabaaGreatDoor
namespace Go.Proofs.YtcdhfpkfmekabaaGreatDoor
open Go Go.AM
variable {N:Nat} {xs l:List D} {lv:Int}
def a2T (xs:List D) (lv:Int) (l:List D):Int:=bif c3V xs !=0 then c3V xs else bif !inI lv 0 3 then 9 else bif decide ((l.length:Int)>2000) then 3 else a0g (fun w=>c5H (l.getD w.toNat (.i 0))) 0 l
theorem d3h (hN:maxLen<N) (hv:a6Q xs) (hl:l.length≤maxLen) (ha:∀a∈l,a7Y a):d6u N xs lv l=some (a2T xs lv l):=by
 unfold d6u d0N;rw [b74 hN hv (Nat.zero_le _) (by simp),b74 hN hv hl ha]
 simp only [a0b,e6e,e59,getD_some];unfold a2T a2k;cases h1:c3V xs !=0 with
 |true=>simp only [e59,h1]
 | false=>
  simp only [e6a];cases h2: !inI lv 0 3 with
  |true=>rfl
  |false=>
   simp only [e6a,a0g];cases h3:decide ((l.length:Int)>2000)<;>rfl
theorem a3z (h:a2T xs lv l=0):l.length≤2000∧a2k xs lv l=0:=by
 unfold a2T at h;unfold a2k;cases h1:c3V xs !=0 with
 |true=>
  rw [h1] at h;simp only [e59] at h;rw [h] at h1;cases h1
 | false=>
  rw [h1] at h;simp only [e6a] at h⊢;cases h2: !inI lv 0 3 with
  |true=>rw [h2] at h;cases h
  | false=>
   rw [h2] at h;simp only [e6a] at h⊢;by_cases h3:(l.length:Int)>2000
   ·rw [decide_eq_true h3] at h;cases h
   ·rw [decide_eq_false h3] at h
    exact ⟨by omega,h⟩
theorem b4E (h:a2k xs lv l=0) (hn:∀a∈l,aTn a=true→a10 a=[]):∀a∈l,c8Y a:=fun a ha=>⟨a6S ((a2c h).2.2 a ha),hn a ha⟩
def a4S (xs:List D) (lv:Int) (l:List D):List D:=l.flatMap fun x=>a8y (a5t xs lv) (aTn x) x
theorem a8z (hN:maxLen<N) (hv:a6Q xs) (hl:l.length≤maxLen) (ha:∀a∈l,a7Y a) (hn:∀a∈l,aTn a=true→a10 a=[]):
  ∃b,b63 N xs lv l=some (b,(bif a2T xs lv l !=0 then [] else a4S xs lv l),a2T xs lv l):=by
 unfold b63 e3h;rw [d3h hN hv hl ha];simp only [a0b,e6e,e59,getD_some];cases h:a2T xs lv l !=0 with
 |true=>exact ⟨true,rfl⟩
 |false=>
  have h0:a2T xs lv l=0:=by simpa using h
  obtain ⟨q1,q2⟩:=a3z h0;obtain ⟨b,e⟩:=d3b (N:=N) (lv:=lv) hN (a2c q2).1 q1 (b4E q2 hn);rw [e,h0];exact ⟨b,rfl⟩
end Go.Proofs.YtcdhfpkfmekabaaGreatDoor
namespace Go.Proofs.YtcdhfpkfmekabaaGreatDoor
open Go Go.AM
variable {N:Nat}
abbrev a4T (s:D):Int:=(s.cell 0).toI
structure d3i (start:Int) (s:D):Prop where
 lo:0≤a4T s
 hi:a4T s≤1000000
 far:start+a4T s≤86399999999
 rng:b70 s=true
def e0z (l:List D):Prop:=l.Pairwise fun a b=>a4T a<a4T b
def d9G (a b:D):Prop:=(a.cell 0).toI<(a.cell 1).toI∧(a.cell 1).toI≤(b.cell 0).toI∧(b.cell 0).toI<(b.cell 1).toI
theorem a11 {l:List D} {i:Nat} (h:i<l.length):l.getD i (.i 0)=l[i]:=by
 rw [e6d,e6j h];rfl
theorem b4F {R:D→D→Prop} (tr:∀a b c,R a b→R b c→R a c) {l:List D} (h:∀i,i+1<l.length→R (l.getD i (.i 0)) (l.getD (i+1) (.i 0))):l.Pairwise R:=by
 rw [List.pairwise_iff_getElem];have hk:∀k i,i+1+k<l.length→R (l.getD i (.i 0)) (l.getD (i+1+k) (.i 0)):=by
  intro k;induction k with
  |zero=>intro i hi;exact h i hi
  |succ k ih=>
   intro i hi;exact tr _ _ _ (ih i (by omega)) (h (i+1+k) (by omega))
 intro i j hi hj hij;obtain ⟨k,rfl⟩:∃k,j=i+1+k:=⟨j-i-1,by omega⟩
 have:=hk k i hj
 rwa [a11 hi,a11 hj] at this
theorem a3A {R:D→D→Prop} {l:List D} (h:l.Pairwise R) {i j:Nat} (hij:i<j) (hj:j<l.length):R (l.getD i (.i 0)) (l.getD j (.i 0)):=by
 rw [a11 hj,a11 (by omega:i<l.length)]
 exact List.pairwise_iff_getElem.1 h i j _ hj hij
theorem b4G {e:Int→Int}:∀{l:List D} {w:Int},(∀i:Nat,i<l.length→e (w+i)=0)→a0g e w l=0
 | [],_,_=>rfl
 |_::r,w,h=>by
  have h0:=h 0 (by simp)
  simp only [Int.natCast_zero,Int.add_zero] at h0;simp only [a0g,h0];refine b4G (l:=r) fun i hi=> ?_
  have:=h (i+1) (by simp;omega)
  rwa [show w+((i+1:Nat):Int)=w+1+i by omega] at this
theorem b76 {n:Int} (h0: -9000000000000000000≤n) (h1:n≤9000000000000000000):wr n=n:=a0u (by omega) (by omega)
theorem c86 {n:Int} (h0: -9000000000000000000≤n) (h1:n≤9000000000000000000):IntKind.wrap .i64 n=n:=a0u (by omega) (by omega)
section
variable {name:List UInt8} {sport start:Int} {smps laps tags l:List D}
structure e5p (name:List UInt8) (sport start:Int) (smps laps tags:List D):Prop where
 n:a30 name=true
 sp:inI sport 1 5=true
 st0:0≤start
 st1:start≤86399999999
 s:smps.length≤20000
 l:laps.length≤200
 t:tags.length≤20
 asc:e0z smps
 ok:∀s∈smps,d3i start s
 lo:∀x∈laps,(x.cell 0).toI<(x.cell 1).toI∧a2A (x.cell 2).toS=true
 lp:laps.Pairwise d9G
 tg:a0g (c1I tags) 0 tags=0
theorem d3j (h0:0≤start) (h:a0g (a7K start smps) 0 smps=0) (hst:start≤86399999999):e0z smps∧ ∀s∈smps,d3i start s:=by
 have hz:=a0I h;have hw:∀i:Nat,i<smps.length→b4t smps i=false∧b5P start (smps.getD i (.i 0))=false∧b70 (smps.getD i (.i 0))=true:=by
  intro i hi;have:=hz i hi;rw [Int.zero_add] at this;unfold a7K at this;obtain ⟨q1,q2⟩:=b0W this (by decide)
  obtain ⟨q3,_⟩:=b0W q2 (by decide)
  simp only [Bool.or_eq_false_iff] at q3;exact ⟨q1,by simpa using q3⟩
 have hord:∀i:Nat,i+1<smps.length→a4T (smps.getD i (.i 0))<a4T (smps.getD (i+1) (.i 0)):=by
  intro i hi;have:=(hw (i+1) hi).1;unfold b4t at this;have e0:(((i+1:Nat):Int)==0)=false:=by simp;omega
  rw [e0] at this;simp only [e6a,decide_eq_false_iff_not] at this;have e1:(((i+1:Nat):Int)-1).toNat=i:=by omega
  rw [e1,Int.toNat_natCast] at this;unfold a4T;omega
 have hasc:e0z smps:=b4F (fun a b c h1 h2=>by omega) hord
 refine ⟨hasc,fun x hx=> ?_⟩
 obtain ⟨i,hi,rfl⟩:=List.getElem_of_mem hx;have hlo:0≤a4T (smps.getD i (.i 0)):=by
  have hf:a4T (smps.getD 0 (.i 0))=0:=by
   have:=(hw 0 (by omega)).1
   unfold b4t at this;simp at this;simp [a4T,this]
  rcases Nat.eq_zero_or_pos i with rfl|hp
  ·omega
  ·have:=a3A hasc hp hi
   omega
 obtain ⟨_,h2,h3⟩:=hw i hi;rw [←a11 hi];unfold b5P at h2;simp only [Bool.or_eq_false_iff,decide_eq_false_iff_not] at h2;obtain ⟨h2,h4⟩:=h2;have hlo2:0≤((smps.getD i (.i 0)).cell 0).toI:=hlo;rw [c86 (by omega) (by omega)] at h4
 exact ⟨hlo,by unfold a4T;omega,by unfold a4T;omega,h3⟩
theorem d9H (h0:0≤start) (hst:start≤86399999999) (ha:e0z l) (hf:l≠[]→a4T (l.getD 0 (.i 0))=0) (h:∀s∈l,d3i start s):a0g (a7K start l) 0 l=0:=by
 refine b4G fun i hi=> ?_
 rw [Int.zero_add];have hm:l.getD i (.i 0)∈l:=by rw [a11 hi];exact List.getElem_mem _
 have hx:=h _ hm;have q1:=hx.lo;have q2:=hx.hi;have q3:=hx.far;have e1:b4t l i=false:=by
  unfold b4t;rcases Nat.eq_zero_or_pos i with rfl|hp
  ·have:=hf (fun e=>by rw [e] at hi;simp at hi)
   unfold a4T at this;simp only [Int.natCast_zero,Int.toNat_zero,beq_self_eq_true,e59,this];rfl
  ·have e0:((i:Int)==0)=false:=by simp;omega
   have:=a3A ha (show i-1<i by omega) hi
   have e1:((i:Int)-1).toNat=i-1:=by omega
   rw [e0,e1,Int.toNat_natCast];unfold a4T at this;simp only [e6a,decide_eq_false_iff_not];omega
 have e2:b5P start (l.getD i (.i 0))=false:=by
  unfold b5P;unfold a4T at q1 q2 q3;rw [c86 (by omega) (by omega)]
  simp only [Bool.or_eq_false_iff,decide_eq_false_iff_not];omega
 unfold a7K;rw [e1,Int.toNat_natCast,e2,hx.rng];rfl
theorem d9I {span:Int} (h:a0g (b48 span laps) 0 laps=0):(∀x∈laps,(x.cell 0).toI<(x.cell 1).toI∧a2A (x.cell 2).toS=true)∧laps.Pairwise d9G:=by
 have hz:=a0I h;have hw:∀i:Nat,i<laps.length→c9M span (laps.getD i (.i 0))=false∧c3T laps i=false∧a2A ((laps.getD i (.i 0)).cell 2).toS=true:=by
  intro i hi;have:=hz i hi;rw [Int.zero_add] at this;unfold b48 at this;obtain ⟨q1,q2⟩:=b0W this (by decide)
  obtain ⟨q3,q4⟩:=b0W q2 (by decide)
  rw [Int.toNat_natCast] at q1 q4;refine ⟨q1,q3,?_⟩;cases hb:a2A ((laps.getD i (.i 0)).cell 2).toS with
  |true=>rfl
  |false=>rw [hb] at q4;cases q4
 have hlt:∀i:Nat,i<laps.length→((laps.getD i (.i 0)).cell 0).toI<((laps.getD i (.i 0)).cell 1).toI:=by
  intro i hi;have:=(hw i hi).1;unfold c9M at this;simp only [Bool.or_eq_false_iff,decide_eq_false_iff_not] at this;omega
 refine ⟨fun x hx=> ?_,b4F (fun a b c h1 h2=> ?_) fun i hi=> ?_⟩
 ·obtain ⟨i,hi,rfl⟩:=List.getElem_of_mem hx
  rw [←a11 hi];exact ⟨hlt i hi,(hw i hi).2.2⟩
 ·unfold d9G at h1 h2⊢;omega
 ·have:=(hw (i+1) hi).2.1
  unfold c3T at this;rw [decide_eq_true (by omega:((i+1:Nat):Int)>0)] at this
  have e1:(((i+1:Nat):Int)-1).toNat=i:=by omega
  rw [e1,Int.toNat_natCast] at this;simp only [e59,decide_eq_false_iff_not] at this;have h1:=hlt i (by omega)
  have h2:=hlt (i+1) hi;unfold d9G;omega
theorem d9J {span:Int} (ho:∀x∈l,0≤(x.cell 0).toI∧(x.cell 1).toI≤span∧(x.cell 0).toI<(x.cell 1).toI∧a2A (x.cell 2).toS=true) (hp:l.Pairwise d9G):a0g (b48 span l) 0 l=0:=by
 refine b4G fun i hi=> ?_
 rw [Int.zero_add];have hm:l.getD i (.i 0)∈l:=by rw [a11 hi];exact List.getElem_mem _
 obtain ⟨h1,h2,h3,h4⟩:=ho _ hm;have e1:c9M span (l.getD i (.i 0))=false:=by
  unfold c9M;simp only [Bool.or_eq_false_iff,decide_eq_false_iff_not];omega
 have e2:c3T l i=false:=by
  unfold c3T;rcases Nat.eq_zero_or_pos i with rfl|hp0
  ·rfl
  ·have:=a3A hp (show i-1<i by omega) hi
   have e1:((i:Int)-1).toNat=i-1:=by omega
   rw [e1,Int.toNat_natCast,decide_eq_true (by omega:(i:Int)>0)]
   unfold d9G at this;simp only [e59,decide_eq_false_iff_not];omega
 unfold b48;rw [Int.toNat_natCast,e1,e2,h4];rfl
theorem e2D (h:chkA name sport start smps laps tags=0):e5p name sport start smps laps tags:=by
 unfold chkA at h;obtain ⟨h1,h⟩:=b0W h (by decide)
 obtain ⟨h2,h⟩:=b0W h (by decide)
 obtain ⟨h3,h⟩:=b0W h (by decide)
 obtain ⟨h4,h⟩:=b0W h (by decide)
 obtain ⟨h5,h⟩:=b98 h;obtain ⟨h6,h7⟩:=b98 h;simp only [Bool.or_eq_false_iff,decide_eq_false_iff_not] at h4;have hst:=of_decide_eq_true (show inI start 0 86399999999=true by simpa using h3)
 obtain ⟨a1,a2⟩:=d3j hst.1 h5 hst.2;obtain ⟨b1,b2⟩:=d9I h6;exact ⟨by simpa using h1,by simpa using h2,hst.1,hst.2,by omega,by omega,by omega,a1,a2,b1,b2,h7⟩
theorem e2E (hn:a30 name=true) (hsp:inI sport 1 5=true) (h0:0≤start) (h1:start≤86399999999) (hs:smps.length≤20000) (hl:laps.length≤200) (ht:tags.length≤20)
  (h5:a0g (a7K start smps) 0 smps=0) (h6:a0g (b48 (spanD smps) laps) 0 laps=0) (h7:a0g (c1I tags) 0 tags=0):chkA name sport start smps laps tags=0:=by
 unfold chkA;have e3:inI start 0 86399999999=true:=decide_eq_true ⟨h0,h1⟩;rw [hn,hsp,e3,decide_eq_false (by omega:¬(smps.length:Int)>20000),decide_eq_false (by omega:¬(laps.length:Int)>200),decide_eq_false (by omega:¬(tags.length:Int)>20),h5,h6,h7]
 rfl
end
theorem a99 (hid:D→Bool):∀(l p:List D) (b:List D×List (List D)),b.1.Sublist p→(∀r∈b.2,r.Sublist p∧r≠[])→(a4r hid l b).1.Sublist (p++l.map reS)∧ ∀r∈(a4r hid l b).2,r.Sublist (p++l.map reS)∧r≠[]
 | [],p,b,h1,h2=>by simpa [a4r] using ⟨h1,h2⟩
 | s::l,p,b,h1,h2=>by
  rw [a4r,List.map_cons,show p++reS s::l.map reS=(p++[reS s])++l.map reS by simp]
  have up:∀{r:List D},r.Sublist p→r.Sublist (p++[reS s]):=fun h=>h.trans (List.sublist_append_left _ _)
  cases hid s with
  |true=>exact a99 hid l _ b (up h1) fun r hr=>⟨up (h2 r hr).1,(h2 r hr).2⟩
  | false=>
   cases hg:c32 b.1 s with
   |true=>
    refine a99 hid l _ _ (List.sublist_append_right _ _) fun r hr=> ?_
    simp only [e59,e6a,List.mem_append,List.mem_singleton] at hr;rcases hr with hr|rfl
    ·exact ⟨up (h2 r hr).1,(h2 r hr).2⟩
    ·exact ⟨up h1,fun e=>by have:=b73 hg;rw [e] at this;simp at this⟩
   |false=>exact a99 hid l _ _ (List.Sublist.append h1 (List.Sublist.refl _)) fun r hr=>⟨up (h2 r hr).1,(h2 r hr).2⟩
theorem d3k (hid:D→Bool) (l:List D):∀r∈a2g hid l,r.Sublist (l.map reS)∧r≠[]:=by
 obtain ⟨h1,h2⟩:=a99 hid l [] ([],[]) (List.Sublist.refl _) (fun r hr=>by simp at hr)
 rw [List.nil_append] at h1 h2;intro r hr;unfold a2g c8V at hr;cases hd:decide (((a4r hid l ([],[])).1.length:Int)>0) with
 |true=>
  rw [hd] at hr;simp only [e59,List.mem_append,List.mem_singleton] at hr;rcases hr with hr|rfl
  ·exact h2 r hr
  ·exact ⟨h1,fun e=>by rw [e] at hd;simp at hd⟩
 |false=>rw [hd] at hr;exact h2 r hr
theorem e5Q (a b:Int):eqB Tryz.prog 3 (.i a) (.i b)=(a==b):=by kernel_rfl
theorem c0g {t:Int}:∀{m:List (D×D)} {k v:D},(a2R Tryz.prog 3 (.i t) (c6n Tryz.prog 3 k v m)).isSome=true→eqB Tryz.prog 3 (.i t) k=true∨(a2R Tryz.prog 3 (.i t) m).isSome=true
 | [],k,v,h=>by
  simp only [c6n,a2R] at h;cases he:eqB Tryz.prog 3 (.i t) k with
  |true=>exact .inl rfl
  |false=>rw [he] at h;simp at h
 | (k',v')::r,k,v,h=>by
  simp only [c6n] at h;cases hk:eqB Tryz.prog 3 k k' with
  | true=>
   rw [hk] at h;simp only [e59,a2R] at h;cases he:eqB Tryz.prog 3 (.i t) k with
   |true=>exact .inl rfl
   |false=>
    rw [he] at h;simp only [e6a] at h;refine .inr ?_;simp only [a2R];cases eqB Tryz.prog 3 (.i t) k' with
    |true=>rfl
    |false=>exact h
  | false=>
   rw [hk] at h;simp only [e6a,a2R] at h;simp only [a2R];cases he:eqB Tryz.prog 3 (.i t) k' with
   |true=>exact .inr rfl
   |false=>
    rw [he] at h;exact c0g h
theorem c39 {t:Int}:∀{l:List D} {m:List (D×D)},(a2R Tryz.prog 3 (.i t) (b5Q l m)).isSome=true→(a2R Tryz.prog 3 (.i t) m).isSome=true∨ ∃s∈l,a4T s=t
 | [],m,h=> .inl h
 | s::l,m,h=>by
  rw [b5Q] at h;rcases c39 h with h|⟨s',h1,h2⟩
  ·unfold e4K at h
   rcases c0g h with h|h
   ·rw [e5Q] at h
    exact .inr ⟨s,by simp,by simpa using Eq.symm (by simpa using h)⟩
   ·exact .inl h
  ·exact .inr ⟨s',by simp [h1],h2⟩
theorem c87 {t:Int} {l:List D} (h:inM (b5Q l []) t=true):∃s∈l,a4T s=t:=by
 have:(a2R Tryz.prog 3 (.i t) (b5Q l [])).isSome=true:=by
  unfold inM at h;cases hf:a2R Tryz.prog 3 (.i t) (b5Q l []) with
  |none=>rw [hf] at h;cases h
  |some v=>rfl
 rcases c39 this with h|h
 ·cases h
 ·exact h
end Go.Proofs.YtcdhfpkfmekabaaGreatDoor
namespace Go.Proofs.YtcdhfpkfmekabaaGreatDoor
open Go Go.AM
variable {N:Nat}
theorem d4Q {x n:Int} (h1:1≤n) (h2:n≤1000000) (h3: -100000000≤x) (h4:x≤100000000): -100000000≤max2 (c9O x n) (-100000000)∧max2 (c9O x n) (-100000000)≤100000000:=by
 have a1:x.tmod n<n:=Int.tmod_lt_of_pos _ (by omega)
 have a2: -n<x.tmod n:=Int.lt_tmod_of_pos _ (by omega)
 have hl:c9O x n≤x:=by
  unfold c9O;cases hd:decide (x.tmod n<0) with
  |true=>
   have:=of_decide_eq_true hd;simp only [e59];rw [b76 (n:=x.tmod n+n) (by omega) (by omega),b76 (by omega) (by omega)]
   omega
  |false=>
   have:=of_decide_eq_false hd;simp only [e6a];rw [b76 (by omega) (by omega)]
   omega
 unfold max2;split<;>omega
theorem c88:∀(gs:List D) (a:Int×Int),(∀g∈gs,1≤g.toI∧g.toI≤1000000)→(-100000000≤a.1∧a.1≤100000000)→(-100000000≤a.2∧a.2≤100000000)→
  (-100000000≤(a8x gs a).1∧(a8x gs a).1≤100000000)∧(-100000000≤(a8x gs a).2∧(a8x gs a).2≤100000000)
 | [],a,_,h1,h2=>⟨h1,h2⟩
 |g::r,a,hg,h1,h2=>by
  obtain ⟨g1,g2⟩:=hg g (by simp)
  exact c88 r _ (fun g' h'=>hg g' (by simp [h'])) (d4Q g1 g2 h1.1 h1.2) (d4Q g1 g2 h2.1 h2.2)
theorem d3l {rs:List D} (hr:∀r∈rs,a5u r):∀g∈a7X rs,1≤g.toI∧g.toI≤1000000:=by
 intro g hg;unfold a7X at hg;obtain ⟨r,h1,rfl⟩:=List.mem_map.1 hg;obtain ⟨h2,h3⟩:=List.mem_filter.1 h1;exact (hr r h2).2 (by simpa using h3)
theorem d3m {rs:List D} (hr:∀r∈rs,a5u r) {f:Int} {s:D} (h:b70 s=true):b70 (c59 rs f s)=true:=by
 unfold b70 at h;simp only [e57] at h;obtain ⟨⟨⟨⟨⟨h1,h2⟩,h3⟩,h4⟩,h5⟩,h6⟩:=h;have q1:=of_decide_eq_true h1;have q2:=of_decide_eq_true h2;obtain ⟨g1,g2⟩:=c88 (a7X rs) ((s.cell 1).toI,(s.cell 2).toI) (d3l hr) q1 q2
 show (inI (a8x (a7X rs) ((s.cell 1).toI,(s.cell 2).toI)).1 (-100000000) 100000000&&inI (a8x (a7X rs) ((s.cell 1).toI,(s.cell 2).toI)).2 (-100000000) 100000000&&inI (bif a2b rs 4 then 0 else (s.cell 3).toI) (-100000) 100000&&inI (bif a2b rs 1 then-1 else (s.cell 4).toI) (-1) 300&&inI (bif a2b rs 2 then-1 else (s.cell 5).toI) (-1) 3000&&inI (bif a2b rs 3 then-1 else (s.cell 6).toI) (-1) 300)=true
 rw [show inI (a8x (a7X rs) ((s.cell 1).toI,(s.cell 2).toI)).1 (-100000000) 100000000=true from decide_eq_true g1,show inI (a8x (a7X rs) ((s.cell 1).toI,(s.cell 2).toI)).2 (-100000000) 100000000=true from decide_eq_true g2];cases a2b rs 4<;>cases a2b rs 1<;>cases a2b rs 2<;>cases a2b rs 3<;>simp only [e59,e6a,h3,h4,h5,h6]<;>rfl
section
variable {rs smps laps tags r:List D} {name:List UInt8} {sport start:Int} {tn:Bool}
theorem c1T (hr:∀r∈rs,a5u r) (hc:e5p name sport start smps laps tags) (hs:r.Sublist (smps.map reS)) (hne:r≠[]):c5H (a3y rs name sport start laps tn tags r)=0:=by
 have hst0:=hc.st0;have hst1:=hc.st1;have hasc:e0z r:=List.Pairwise.sublist hs (by rw [List.pairwise_map];exact hc.asc)
 have hok:∀s∈r,d3i start s:=fun s h=>by
  obtain ⟨s',h1,rfl⟩:=List.mem_map.1 (hs.subset h);exact ⟨(hc.ok s' h1).lo,(hc.ok s' h1).hi,(hc.ok s' h1).far,(hc.ok s' h1).rng⟩
 have hlen:0<r.length:=by cases r with
  |nil=>exact absurd rfl hne
  |cons x t=>simp
 have hm0:r.getD 0 (.i 0)∈r:=by rw [a11 hlen];exact List.getElem_mem _
 have h0:=hok _ hm0;have h0l:=h0.lo;have h0h:=h0.hi;have h0f:=h0.far;have hf:∀s∈r,a4T (r.getD 0 (.i 0))≤a4T s:=fun s h=>by
  obtain ⟨i,hi,rfl⟩:=List.getElem_of_mem h;rcases Nat.eq_zero_or_pos i with rfl|hp
  ·rw [a11 hi];exact Int.le_refl _
  ·have:=a3A hasc hp hi
   rw [a11 hi] at this;omega
 have hla:∀s∈r,a4T s≤a4T (r.getD (r.length-1) (.i 0)):=fun s h=>by
  obtain ⟨i,hi,rfl⟩:=List.getElem_of_mem h;rcases Nat.lt_or_ge i (r.length-1) with hp|hp
  ·have:=a3A hasc hp (by omega)
   rw [a11 hi] at this;omega
  ·have e:i=r.length-1:=by omega
   subst e;rw [a11 hi];exact Int.le_refl _
 have hml:r.getD (r.length-1) (.i 0)∈r:=by rw [a11 (by omega)];exact List.getElem_mem _
 generalize hF:a4T (r.getD 0 (.i 0))=f at*
 have e1:wr (start+f)=start+f:=b76 (by omega) (by omega)
 show chkA (bif kdB rs 7 then b4z else name) sport (bif kdB rs 6 then wr (wr (start+a4T (r.getD 0 (.i 0)))-(wr (start+a4T (r.getD 0 (.i 0)))).tmod 86400) else wr (start+a4T (r.getD 0 (.i 0)))) (r.map (c59 rs (a4T (r.getD 0 (.i 0))))) (a3e (b95 (b5Q r [])) (b8k (kdB rs 7) (a4T (r.getD 0 (.i 0)))) laps (true,[])).2 (bif kdB rs 7 then [] else tags)=0
 rw [hF,e1,a5s,List.nil_append];have hst:∃st,(bif kdB rs 6 then wr (start+f-(start+f).tmod 86400) else start+f)=st∧0≤st∧st≤start+f:=by
  cases kdB rs 6 with
  |false=>exact ⟨start+f,rfl,by omega,Int.le_refl _⟩
  |true=>
   have b1:0≤(start+f).tmod 86400:=Int.tmod_nonneg _ (by omega)
   have b2:(start+f).tmod 86400≤start+f:=by rw [Int.tmod_eq_emod_of_nonneg (by omega)];omega
   have b3:=Int.tmod_lt_of_pos (start+f) (show (0:Int)<86400 by omega)
   exact ⟨_,rfl,by simp only [e59];rw [b76 (by omega) (by omega)];omega,by simp only [e59];rw [b76 (by omega) (by omega)];omega⟩
 obtain ⟨st,he,st0,st1⟩:=hst;rw [he];have hsec:∀s∈r,a4T (c59 rs f s)=a4T s-f:=fun s h=>by
  show wr (a4T s-f)=a4T s-f;have q1:=(hok s h).lo;have q2:=(hok s h).hi;exact b76 (by omega) (by omega)
 have hle:r.length≤20000:=by
  have:=hs.length_le;rw [List.length_map] at this;exact Nat.le_trans this hc.s
 have hspan:spanD (r.map (c59 rs f))=a4T (r.getD (r.length-1) (.i 0))-f:=by
  unfold spanD;rw [List.length_map,decide_eq_true (by omega:(r.length:Int)>0),show ((r.length:Int)-1).toNat=r.length-1 by omega]
  simp only [e59];rw [a11 (by rw [List.length_map];omega),List.getElem_map,←a11 (by omega)]
  exact hsec _ hml
 have hin:∀x∈laps.filter (b95 (b5Q r [])),(∃s∈r,a4T s=(x.cell 0).toI)∧ ∃s∈r,a4T s=(x.cell 1).toI:=fun x hx=>by
  obtain ⟨_,h2⟩:=List.mem_filter.1 hx;unfold b95 at h2;cases i1:inM (b5Q r []) (x.cell 0).toI with
  |false=>rw [i1] at h2;cases h2
  |true=>
   cases i2:inM (b5Q r []) (x.cell 1).toI with
   |false=>rw [i1,i2] at h2;cases h2
   |true=>exact ⟨c87 i1,c87 i2⟩
 have hcell:∀x∈laps.filter (b95 (b5Q r [])),((b8k (kdB rs 7) f x).cell 0).toI=(x.cell 0).toI-f∧((b8k (kdB rs 7) f x).cell 1).toI=(x.cell 1).toI-f∧f≤(x.cell 0).toI∧(x.cell 1).toI≤a4T (r.getD (r.length-1) (.i 0)):=fun x hx=>by
  obtain ⟨⟨s,m1,q1⟩,⟨s',m2,q2⟩⟩:=hin x hx;have a1:=(hok s m1).lo;have a2:=(hok s m1).hi;have a3:=(hok s' m2).lo;have a4:=(hok s' m2).hi;have a5:=hf s m1;have a6:=hla s' m2;exact ⟨show wr ((x.cell 0).toI-f)=_ from b76 (by omega) (by omega),show wr ((x.cell 1).toI-f)=_ from b76 (by omega) (by omega),by omega,by omega⟩
 refine e2E ?_ hc.sp st0 (by omega) (by rw [List.length_map];exact hle) ?_ ?_ ?_ ?_ ?_
 ·cases kdB rs 7 with
  |true=>show a30 b4z=true;decide
  |false=>exact hc.n
 ·rw [List.length_map]
  exact Nat.le_trans (List.length_filter_le _ _) hc.l
 ·cases kdB rs 7 with
  |true=>simp
  |false=>exact hc.t
 ·refine d9H st0 (by omega) ?_ (fun _=> ?_) fun s h=> ?_
  ·unfold e0z
   rw [List.pairwise_map];refine List.Pairwise.imp_of_mem ?_ hasc;intro a b ha hb hab;rw [hsec a ha,hsec b hb];omega
  ·rw [a11 (by rw [List.length_map];exact hlen),List.getElem_map,←a11 hlen,hsec _ hm0,hF]
   omega
  ·obtain ⟨s',h1,rfl⟩:=List.mem_map.1 h
   have q:=hok s' h1;have q1:=q.lo;have q2:=q.hi;have q3:=q.far;have q4:=hf s' h1;exact ⟨by rw [hsec s' h1];omega,by rw [hsec s' h1];omega,by rw [hsec s' h1];omega,d3m hr q.rng⟩
 ·rw [hspan]
  refine d9J (fun x hx=> ?_) ?_
  ·obtain ⟨x',h1,rfl⟩:=List.mem_map.1 hx
   obtain ⟨c1,c2,c3,c4⟩:=hcell x' h1;obtain ⟨l1,l2⟩:=hc.lo x' (List.mem_filter.1 h1).1;refine ⟨by omega,by omega,by omega,?_⟩
   show a2A (bif kdB rs 7 then [] else (x'.cell 2).toS)=true
   cases kdB rs 7 with
   |true=>show a2A []=true;decide
   |false=>exact l2
  ·rw [List.pairwise_map]
   refine List.Pairwise.imp_of_mem ?_ (List.Pairwise.filter _ hc.lp);intro a b ha hb hab;obtain ⟨c1,c2,_,_⟩:=hcell a ha;obtain ⟨d1,d2,_,_⟩:=hcell b hb;unfold d9G at hab⊢;omega
 ·cases kdB rs 7 with
  |true=>rfl
  |false=>exact hc.tg
end
end Go.Proofs.YtcdhfpkfmekabaaGreatDoor
namespace Go.Proofs.YtcdhfpkfmekabaaGreatDoor
open Go Go.AM
variable {N:Nat}
section
variable {xs rs smps laps tags r ys:List D} {name:List UInt8} {sport start lv lv':Int} {tn:Bool}
theorem d3n (h:ActOk name smps laps tags) (hl:r.length≤maxLen):a7Y (a3y rs name sport start laps tn tags r):=by
 have e:(a3e (b95 (b5Q r [])) (b8k (kdB rs 7) (a4T (r.getD 0 (.i 0)))) laps (true,[])).2=(laps.filter (b95 (b5Q r []))).map (b8k (kdB rs 7) (a4T (r.getD 0 (.i 0)))):=by rw [a5s,List.nil_append]
 show ActOk (bif kdB rs 7 then b4z else name) (r.map (c59 rs (a4T (r.getD 0 (.i 0))))) (a3e (b95 (b5Q r [])) (b8k (kdB rs 7) (a4T (r.getD 0 (.i 0)))) laps (true,[])).2 (bif kdB rs 7 then [] else tags)
 rw [e];have hm:maxLen=9223372036854775807:=rfl;refine ⟨?_,by rw [List.length_map];exact hl,?_,?_,fun x hx=> ?_,?_⟩
 ·cases kdB rs 7 with
  |true=>show b4z.length≤maxLen;decide
  |false=>exact h.n
 ·rw [List.length_map];exact Nat.le_trans (List.length_filter_le _ _) h.l
 ·cases kdB rs 7 with
  |true=>exact Nat.zero_le _
  |false=>exact h.t
 ·obtain ⟨x',h1,rfl⟩:=List.mem_map.1 hx
  show (bif kdB rs 7 then [] else (x'.cell 2).toS).length≤maxLen
  cases kdB rs 7 with
  |true=>exact Nat.zero_le _
  |false=>exact h.ln x' (List.mem_filter.1 h1).1
 ·cases kdB rs 7 with
  |true=>intro x hx;simp at hx
  |false=>exact h.tn
end
section
variable {xs:List D} {lv sp st:Int} {nm:List UInt8} {sn ln tn:Bool} {s l t:List D}
end
end Go.Proofs.YtcdhfpkfmekabaaGreatDoor
namespace Go.Proofs.YtcdhfpkfmekabaaGreatDoor
open Go Go.AM
variable {N:Nat} {xs l:List D} {lv:Int}
def a5v (x:D):Prop:=c5H x=0∧a7Y x
theorem c0h {a:D} {tn:Bool} (hv:a4n xs) (hc:c5H a=0) (ha:a7Y a):∀y∈a8y (a5t xs lv) tn a,a5v y:=by
 have hg:∀r∈a5t xs lv,a5u r:=b94 fun r hr=>c3Z (hv.mem hr)
 intro y hy;unfold a8y at hy;obtain ⟨r,h1,rfl⟩:=List.mem_map.1 hy;obtain ⟨h2,h3⟩:=d3k _ _ r h1;exact ⟨c1T hg (e2D hc) h2 h3,d3n ha (Nat.le_trans (b4C _ _ r h1) ha.s)⟩
theorem b4H (hv:a4n xs) (hc:∀a∈l,c5H a=0) (ha:∀a∈l,a7Y a):∀y∈a4S xs lv l,a5v y:=by
 intro y hy;unfold a4S at hy;obtain ⟨a,h1,h2⟩:=List.mem_flatMap.1 hy;exact c0h hv (hc a h1) (ha a h1) y h2
theorem c4a {f:D→List D} (h:∀l':List D,True) {n:Nat}:∀l:List D,(∀x∈l,(f x).length≤n)→(l.flatMap f).length≤n*l.length
 | [],_=>by simp
 |a::l,h'=>by
  rw [List.flatMap_cons,e6l,e6m,Nat.mul_add,Nat.mul_one];have:=h' a (by simp)
  have:=c4a h l fun x hx=>h' x (by simp [hx])
  omega
theorem c4b (hll:l.length≤2000) (ha:∀a∈l,c8Y a):(a4S xs lv l).length≤40000000:=by
 have:=c4a (f:=fun x=>a8y (a5t xs lv) (aTn x) x) (n:=20000) (fun _=>trivial) l fun x hx=>c0d (ha x hx)
 unfold a4S;omega
theorem b5T {x:D} (h:a5v x):(a1B x).length≤20000∧b75 (a1B x)∧(a1B x≠[]→sec ((a1B x).getD 0 (.i 0))=0):=by
 have hc:chkA (a4R x) (a2Q x) (a2j x) (a1B x) (a3J x) (a10 x)=0:=h.1;have hr:=a6S h.1;unfold chkA at hc;obtain ⟨h1,hc⟩:=b0W hc (by decide)
 obtain ⟨h2,hc⟩:=b0W hc (by decide)
 obtain ⟨h3,hc⟩:=b0W hc (by decide)
 obtain ⟨h4,hc⟩:=b0W hc (by decide)
 obtain ⟨h5,hc⟩:=b98 hc;have hst:=of_decide_eq_true (show inI (a2j x) 0 86399999999=true by simpa using h3)
 obtain ⟨a1,a2⟩:=d9F hst.1 hst.2 h5;exact ⟨hr.s,a1,a2⟩
theorem c5M (hN:maxLen<N) {x:D} (h:a5v x):a8r N (a1B x)=some (spanD (a1B x))∧
  ∃r:Ty5,c1z N (a4R x) (a2Q x) (a2j x) (a1B x) (a3J x) (a10 x) 0 (spanD (a1B x))=some r:=by
 have hM:maxLen=9223372036854775807:=rfl;obtain ⟨h1,h2,h3⟩:=b5T h;have hok:ActOk (a4R x) (a1B x) (a3J x) (a10 x):=h.2;have hc:chkA (a4R x) (a2Q x) (a2j x) (a1B x) (a3J x) (a10 x)=0:=h.1;refine ⟨G29x0_eq (by omega),c85 hN h1 h2 h3 ?_⟩
 rw [G37x0_eq hN hok,hc]
end Go.Proofs.YtcdhfpkfmekabaaGreatDoor
namespace Go.Proofs.YtcdhfpkfmekabaaGreatDoor
open Go Go.AM
variable {N:Nat} {l:List D} {w:Int}
theorem b25 (n a b:Int):c1A N n a b=inI n a b:=by
 unfold c1A d1C inI;rw [Bool.eq_iff_iff];simp
def c5N (l:List D):Bool:=l.all fun x=>inI x.toI (-1) 1000000000
def c89 (l:List D):Int:=bif decide ((l.length:Int)>1000000) then 3 else bif c5N l then 0 else 9
theorem c1U (hN:maxLen<N) (hl:l.length≤maxLen):b7g N l l.length 0=some (bif c5N l then .inr () else .inl ()):=by
 unfold b7g;refine (a03 (.i 0:D) (S:=fun w kr=>a7t N l l.length w kr _ _) (L:=fun m w=>b2v N l l.length m w _ _) (fun m w=>rfl) (fun _ r=>some (bif c5N r then .inr () else .inl ())) hl ?_ ?_ hN).trans rfl
 ·intro kr;simp [a7t,c5N]
 ·intro w kr h0 h1 hw hi hk
  simp only [a7t,decide_eq_true h1,e59,hi,a0b,hw,hk,c5N,List.all_cons,b25];cases inI (l.getD w.toNat (.i 0)).toI (-1) 1000000000<;>rfl
theorem d3o (hN:maxLen<N) (hl:l.length≤maxLen):d7Z N l=some (c89 l):=by
 unfold d7Z d1D c89;rw [c1U hN hl];cases decide ((l.length:Int)>1000000) with
 |true=>rfl
 |false=>cases c5N l<;>rfl
def d9K (l:List D) (w:Int):Bool:=bif decide (w>0) then decide ((l.getD w.toNat (.i 0)).toI≤(l.getD (w-1).toNat (.i 0)).toI) else false
def d4R (l:List D) (w:Int):Int:=bif !inI (l.getD w.toNat (.i 0)).toI 1 1000000 then 9 else bif d9K l w then 10 else 0
def szE (l:List D):Int:=bif ((l.length:Int)==0) then 13 else bif decide ((l.length:Int)>100) then 3 else a0g (d4R l) 0 l
theorem e2F (h0:0≤w) (h1:w<l.length) (hl:l.length≤maxLen):(bif (inB (IntKind.wrap .i64 (w-1)) l.length) then true else (!((decide (w>0))==true)))=true∧(bif (decide (w>0)) then (decide ((l.getD w.toNat (.i 0)).toI≤(l.getD (IntKind.wrap .i64 (w-1)).toNat (.i 0)).toI)) else false)=d9K l w:=by
 unfold d9K;by_cases hw:w=0
 ·subst hw
  rw [decide_eq_false (by omega:¬((0:Int)>0))]
  refine ⟨?_,rfl⟩;cases inB (IntKind.wrap .i64 (0-1)) l.length<;>rfl
 ·obtain ⟨e1,e2⟩:=a6P h0 h1 hl hw
  rw [e1,e2];exact ⟨rfl,rfl⟩
theorem c5O (hN:maxLen<N) (hl:l.length≤maxLen):c1B N l 1 1000000 l l.length 0=some (a2S (a0g (d4R l) 0 l)):=by
 unfold c1B;refine (a03 (.i 0:D) (S:=fun w kr=>b0Q N l 1 1000000 l l.length w kr _ _) (L:=fun m w=>b7h N l 1 1000000 l l.length m w _ _) (fun m w=>rfl) (fun w r=>some (a2S (a0g (d4R l) w r))) hl ?_ ?_ hN).trans rfl
 ·intro kr;simp [b0Q,a0g,a2S]
 ·intro w kr h0 h1 hw hi hk
  obtain ⟨q1,q2⟩:=e2F h0 h1 hl;simp only [b0Q,decide_eq_true h1,e59,hi,a0b,hw,hk,a1W,b25,q1,q2];unfold d4R;cases inI (l.getD w.toNat (.i 0)).toI 1 1000000 with
  |false=>rfl
  |true=>cases d9K l w<;>rfl
theorem c4c (hN:maxLen<N) (hl:l.length≤maxLen):d1G N l=some (szE l):=by
 unfold d1G d1F e1D d1E szE;rw [c5O hN hl];cases ((l.length:Int)==0) with
 |true=>rfl
 | false=>
  cases decide ((l.length:Int)>100) with
  |true=>rfl
  | false=>
   simp only [e6a,a0b];unfold a2S;cases h:a0g (d4R l) 0 l !=0 with
   |true=>rfl
   |false=>
    have:a0g (d4R l) 0 l=0:=by simpa using h
    rw [this];rfl
end Go.Proofs.YtcdhfpkfmekabaaGreatDoor
namespace Go.Proofs.YtcdhfpkfmekabaaGreatDoor
open Go Go.AM
variable {N:Nat} {l:List D}
def mxD (d:D):Int:=max2 d.toI 0
def ngD (d:D):Int:=bif decide (d.toI<0) then 1 else 0
def PS (l:List D) (i:Nat):Int:=((l.take i).map mxD).sum
def PU (l:List D) (i:Nat):Int:=((l.take i).map ngD).sum
theorem c4d {i:Nat} (h:i<l.length):l.take (i+1)=l.take i++[l.getD i (.i 0)]:=by
 rw [List.take_add_one,e6j h,e6d,e6j h];rfl
theorem c1V {i:Nat} (h:i<l.length):PS l (i+1)=PS l i+mxD (l.getD i (.i 0)):=by
 unfold PS;rw [c4d h];simp
theorem c1W {i:Nat} (h:i<l.length):PU l (i+1)=PU l i+ngD (l.getD i (.i 0)):=by
 unfold PU;rw [c4d h];simp
theorem e2G (hB:c5N l=true) {i:Nat} (h:i<l.length):0≤mxD (l.getD i (.i 0))∧mxD (l.getD i (.i 0))≤1000000000:=by
 have h1:=(List.all_eq_true.1 hB) (l.getD i (.i 0)) (by rw [e6d,e6j h];exact List.getElem_mem h)
 have h1:=of_decide_eq_true h1;unfold mxD max2;split<;>omega
theorem c0i (hB:c5N l=true):∀i:Nat,i≤l.length→0≤PS l i∧PS l i≤1000000000*i
 |0,_=>by simp [PS]
 |i+1,h=>by
  obtain ⟨a,b⟩:=c0i hB i (by omega)
  obtain ⟨c,d⟩:=e2G hB (i:=i) (by omega)
  rw [c1V (by omega)]
  omega
theorem c0j:∀i:Nat,i≤l.length→0≤PU l i∧PU l i≤i
 |0,_=>by simp [PU]
 |i+1,h=>by
  obtain ⟨a,b⟩:=c0j i (by omega)
  rw [c1W (by omega)]
  unfold ngD;cases decide ((l.getD i (.i 0)).toI<0)<;>simp only [e59,e6a]<;>omega
def e4N (l:List D) (s f:Nat):Int:=PS l (f+s)-PS l f
def e5q (l:List D) (s f:Nat):Int:=PU l (f+s)-PU l f
def e2H (l:List D) (s:Nat) (a:Int×Int×Bool) (f:Nat):Int×Int×Bool:=
 bif (e5q l s f==0)&&(!a.2.2||decide (e4N l s f>a.1)) then (e4N l s f,(f:Int),true) else a
def a7O (l:List D) (s:Nat):Nat→Int×Int×Bool
 |0=>(0,0,false)
 |k+1=>e2H l s (a7O l s k) k
theorem c4e {s:Nat} (hs1:1≤s) (hs2:s≤1000000) (hB:c5N l=true) (hlen:l.length≤1000000):∀(d m i:Nat),d<m→i+d=l.length→
  b0R N (R:=Int×Int×Bool) l s l l.length m (PS l i-PS l (i-s)) (PU l i-PU l (i-s)) i (a7O l s (i+1-s)).1 (a7O l s (i+1-s)).2.1 (a7O l s (i+1-s)).2.2 (fun p=>some p)=some (a7O l s (l.length+1-s))
 |d,0,i,hm,_=>by omega
 |0,m+1,i,hm,hi=>by
  have:¬((i:Int)<(l.length:Int)):=by omega
  simp only [b0R,b4g,decide_eq_false this,e6a];rw [show i=l.length by omega]
 | d +1,m+1,i,hm,hi=>by
  have hlt:(i:Int)<(l.length:Int):=by omega
  have hin:inB (i:Int) l.length=true:=a0D (by omega) (by omega)
  have hg:l.getD ((i:Int)).toNat (.i 0)=l.getD i (.i 0):=by rw [Int.toNat_natCast]
  have hw:IntKind.wrap .i64 ((i:Int)+1)=((i+1:Nat):Int):=(a0u (by omega) (by omega)).trans (by omega)
  obtain ⟨p1,p2⟩:=c0i hB i (by omega)
  obtain ⟨p3,p4⟩:=c0i hB (i-s) (by omega)
  obtain ⟨u1,u2⟩:=c0j (l:=l) i (by omega)
  obtain ⟨u3,u4⟩:=c0j (l:=l) (i-s) (by omega)
  obtain ⟨p5,p6⟩:=c0i hB (i+1) (by omega)
  obtain ⟨u5,u6⟩:=c0j (l:=l) (i+1) (by omega)
  obtain ⟨p7,p8⟩:=c0i hB (i+1-s) (by omega)
  obtain ⟨u7,u8⟩:=c0j (l:=l) (i+1-s) (by omega)
  have ih:=c4e hs1 hs2 hB hlen d m (i+1) (by omega) (by omega)
  have hS:=c1V (l:=l) (i:=i) (by omega)
  have hU:=c1W (l:=l) (i:=i) (by omega)
  have y0:IntKind.wrap .i64 (PS l i-PS l (i-s)+max2 (l.getD i (.i 0)).toI 0)=PS l (i+1)-PS l (i-s):=by
   rw [show PS l i-PS l (i-s)+max2 (l.getD i (.i 0)).toI 0=PS l (i+1)-PS l (i-s) by rw [hS];unfold mxD;omega]
   exact a0u (by omega) (by omega)
  have y1:b7l N (PU l i-PU l (i-s)) (decide ((l.getD i (.i 0)).toI<0))=PU l (i+1)-PU l (i-s):=by
   rw [hU];unfold b7l b2w ngD;cases hd:decide ((l.getD i (.i 0)).toI<0)
   ·simp only [e6a];omega
   ·simp only [e59];rw [a0u (by omega) (by omega)];omega
  have y2:b7n N l s (PS l (i+1)-PS l (i-s)) (PU l (i+1)-PU l (i-s)) i (decide ((i:Int)≥(s:Int)))=some (PS l (i+1)-PS l (i+1-s),PU l (i+1)-PU l (i+1-s)):=by
   unfold b7n b2y;by_cases hge:s≤i
   ·have hsub:IntKind.wrap .i64 ((i:Int)-(s:Int))=((i-s:Nat):Int):=(a0u (by omega) (by omega)).trans (by omega)
    have hi2:inB ((i-s:Nat):Int) l.length=true:=a0D (by omega) (by omega)
    have hS2:=c1V (l:=l) (i:=i-s) (by omega)
    have hU2:=c1W (l:=l) (i:=i-s) (by omega)
    rw [show i-s+1=i+1-s by omega] at hS2 hU2
    rw [decide_eq_true (by omega:(i:Int)≥(s:Int)),hsub,hi2]
    simp only [e59,a0b,Int.toNat_natCast];have z0:IntKind.wrap .i64 (PS l (i+1)-PS l (i-s)-max2 (l.getD (i-s) (.i 0)).toI 0)=PS l (i+1)-PS l (i+1-s):=by
     rw [show PS l (i+1)-PS l (i-s)-max2 (l.getD (i-s) (.i 0)).toI 0=PS l (i+1)-PS l (i+1-s) by rw [hS2];unfold mxD;omega]
     exact a0u (by omega) (by omega)
    have z1:b7m N (PU l (i+1)-PU l (i-s)) (decide ((l.getD (i-s) (.i 0)).toI<0))=PU l (i+1)-PU l (i+1-s):=by
     rw [hU2];rw [hU2] at u7 u8;unfold b7m b2x ngD;cases hd:decide ((l.getD (i-s) (.i 0)).toI<0)
     ·simp only [e6a];omega
     ·simp only [e59];rw [a0u (by omega) (by omega)];omega
    rw [z0,z1]
   ·rw [decide_eq_false (by omega:¬(i:Int)≥(s:Int))]
    simp only [e6a];rw [show i+1-s=i-s by omega]
  simp only [b0R,b4g,decide_eq_true hlt,e59,hin,a0b,hg,y0,y1,y2,e6e,getD_some,hw];refine Eq.trans ?_ ih;have hA:(a7O l s (i+1+1-s))=b7o N s (PS l (i+1)-PS l (i+1-s)) i (bif decide ((i:Int)≥IntKind.wrap .i64 ((s:Int)-1)) then (PU l (i+1)-PU l (i+1-s)==0) else false) (a7O l s (i+1-s)).1 (a7O l s (i+1-s)).2.1 (a7O l s (i+1-s)).2.2:=by
   rw [show IntKind.wrap .i64 ((s:Int)-1)=(s:Int)-1 from a0u (by omega) (by omega)]
   unfold b7o b2z e1G d1J c76 b7k;by_cases hge:s≤i+1
   ·rw [show i+1+1-s=(i+1-s)+1 by omega,decide_eq_true (by omega:(i:Int)≥(s:Int)-1),a7O]
    unfold e2H e4N e5q;rw [show i+1-s+s=i+1 by omega,show IntKind.wrap .i64 (IntKind.wrap .i64 ((i:Int)-(s:Int))+1)=((i+1-s:Nat):Int) by rw [show IntKind.wrap .i64 ((i:Int)-(s:Int))=(i:Int)-(s:Int) from a0u (by omega) (by omega)];exact (a0u (by omega) (by omega)).trans (by omega)]
    obtain ⟨A1,A2,A3⟩:=a7O l s (i+1-s);simp only [e59,a0b];cases (PU l (i+1)-PU l (i+1-s)==0) with
    |false=>rfl
    |true=>
     cases A3 with
     |false=>rfl
     |true=>cases decide (PS l (i+1)-PS l (i+1-s)>A1)<;>rfl
   ·rw [show i+1+1-s=i+1-s by omega,decide_eq_false (by omega:¬(i:Int)≥(s:Int)-1)]
    rfl
  rw [hA]
theorem c9a (hN:maxLen<N) {s:Nat} (hs1:1≤s) (hs2:s≤1000000) (hB:c5N l=true) (hlen:l.length≤1000000):d8e N l s=some (a7O l s (l.length+1-s)):=by
 have hM:maxLen=9223372036854775807:=rfl;have h:=c4e (N:=N) hs1 hs2 hB hlen l.length N 0 (by omega) (by omega)
 rw [show 0+1-s=0 by omega,show 0-s=0 by omega,Int.sub_self,Int.sub_self] at h
 have h:c77 N l s l l.length 0 0 0 0 0 false=some (a7O l s (l.length+1-s)):=h;unfold d8e d1L e1H d1K;rw [h];rfl
end Go.Proofs.YtcdhfpkfmekabaaGreatDoor
namespace Go.Proofs.YtcdhfpkfmekabaaGreatDoor
open Go Go.AM
variable {N:Nat} {l:List D}
end Go.Proofs.YtcdhfpkfmekabaaGreatDoor
namespace Go.Proofs.YtcdhfpkfmekabaaGreatDoor
open Go Go.AM
variable {N:Nat} {l zs:List D}
theorem c4f (hN:maxLen<N) (a b:Int):d1I N [(.i a),(.i b)]=some (bif a !=0 then a else b):=by
 have hM:maxLen=9223372036854775807:=rfl;obtain ⟨M,rfl⟩:∃M,N=M+3:=⟨N-3,by omega⟩
 unfold d1I d1H c75;simp only [b7j,b7i];cases h:a !=0 with
 |true=>simp [h,D.toI,inB,bnd];rfl
 | false=>
  cases h':b !=0 with
  |true=>simp [h,h',D.toI,inB,bnd,IntKind.wrap_i64];rfl
  |false=>
   have:b=0:=by simpa using h'
   subst this;simp [h,D.toI,inB,bnd,IntKind.wrap_i64];rfl
def c5P (l:List D) (x:D):D:= .a [.i x.toI,.i (a7O l x.toI.toNat (l.length+1-x.toI.toNat)).1,.i (a7O l x.toI.toNat (l.length+1-x.toI.toNat)).2.1,.b (a7O l x.toI.toNat (l.length+1-x.toI.toNat)).2.2]
theorem c0k (h:szE zs=0):zs≠[]∧zs.length≤100∧ ∀i:Nat,i<zs.length→1≤(zs.getD i (.i 0)).toI∧(zs.getD i (.i 0)).toI≤1000000:=by
 unfold szE at h;obtain ⟨h1,h⟩:=b0W h (by decide)
 obtain ⟨h2,h⟩:=b0W h (by decide)
 simp only [decide_eq_false_iff_not] at h2;refine ⟨fun e=>by subst e;simp at h1,by omega,fun i hi=> ?_⟩
 have:=a0I h i hi;unfold d4R at this;obtain ⟨h3,_⟩:=b0W this (by decide)
 rw [show (0+(i:Int)).toNat=i by omega] at h3
 have:=of_decide_eq_true (show inI (zs.getD i (.i 0)).toI 1 1000000=true by simpa using h3)
 exact this
theorem c0l (hN:maxLen<N) (hB:c5N l=true) (hlen:l.length≤1000000) (hz:szE zs=0):∀(d m i:Nat) (fl:Bool) (acc:List D),d<m→i+d=zs.length→acc.length=i→
  a7u N (R:=Bool×LD) l zs zs.length m i fl acc (fun p=>some p)=some (bif decide (0<d) then false else fl,acc++(zs.drop i).map (c5P l))
 |d,0,i,fl,acc,hm,_,_=>by omega
 |0,m+1,i,fl,acc,hm,hi,_=>by
  have:¬((i:Int)<(zs.length:Int)):=by omega
  simp only [a7u,a9F,decide_eq_false this,e6a];rw [List.drop_eq_nil_of_le (by omega)]
  simp
 | d+1,m+1,i,fl,acc,hm,hi,ha=>by
  obtain ⟨_,z2,z3⟩:=c0k hz;obtain ⟨s1,s2⟩:=z3 i (by omega)
  have hlt:(i:Int)<(zs.length:Int):=by omega
  have hin:inB (i:Int) zs.length=true:=a0D (by omega) (by omega)
  have hg:zs.getD ((i:Int)).toNat (.i 0)=zs.getD i (.i 0):=by rw [Int.toNat_natCast]
  have hw:IntKind.wrap .i64 ((i:Int)+1)=((i+1:Nat):Int):=(a0u (by omega) (by omega)).trans (by omega)
  have hb:=c9a hN (l:=l) (s:=(zs.getD i (.i 0)).toI.toNat) (by omega) (by omega) hB hlen
  rw [show (((zs.getD i (.i 0)).toI.toNat:Nat):Int)=(zs.getD i (.i 0)).toI by omega] at hb
  have hr:(decide ((acc.length+1)*32≤a0X)&&decide ((acc.length+1)≤a0c))=true:=by
   have e1:a0X=140737488355328:=rfl;have e2:a0c=9223372036854775807:=rfl;rw [decide_eq_true (by omega),decide_eq_true (by omega)];rfl
  have ih:=c0l hN hB hlen hz d m (i+1) false (acc++[c5P l (zs.getD i (.i 0))]) (by omega) (by omega) (by simp;omega)
  simp only [a7u,a9F,decide_eq_true hlt,e59,hin,a0b,hg,hb,e6e,getD_some,hw,hr];refine Eq.trans ih ?_;rw [decide_eq_true (by omega:0<d+1),e6n]
  have hd:zs.drop i=zs.getD i (.i 0)::zs.drop (i+1):=by
   rw [List.drop_eq_getElem_cons (by omega),e6d,e6j (by omega)];rfl
  rw [hd,List.map_cons];cases decide (0<d)<;>rfl
theorem d9L (h:c89 l=0):l.length≤1000000∧c5N l=true:=by
 unfold c89 at h;obtain ⟨h1,h⟩:=b0W h (by decide)
 simp only [decide_eq_false_iff_not] at h1;refine ⟨by omega,?_⟩
 cases hb:c5N l with
 |true=>rfl
 |false=>rw [hb] at h;cases h
def c4g (l zs:List D):Int:=bif c89 l !=0 then c89 l else szE zs
def c0m (l zs:List D):List D:=bif c4g l zs !=0 then [] else zs.map (c5P l)
theorem d9M (h:c4g l zs=0):c89 l=0∧szE zs=0:=by
 unfold c4g at h;exact b98 h
theorem c4h (hN:maxLen<N) (hl:l.length≤maxLen) (hz:zs.length≤maxLen):d1N N l zs=some (c4g l zs !=0,c0m l zs,c4g l zs):=by
 have hM:maxLen=9223372036854775807:=rfl;unfold d1N d1M;rw [d3o hN hl,c4c hN hz];simp only [a0b,e6e,e59,getD_some,c4f hN];unfold c0m;rw [show (bif c89 l !=0 then c89 l else szE zs)=c4g l zs from rfl]
 cases h:c4g l zs !=0 with
 |true=>rfl
 |false=>
  have h0:c4g l zs=0:=by simpa using h
  obtain ⟨h1,h2⟩:=d9M h0;obtain ⟨h3,h4⟩:=d9L h1;have e:=c0l (N:=N) hN h4 h3 h2 zs.length N 0 true [] (by omega) (by omega) rfl
  have hp:0<zs.length:=List.length_pos_iff.2 (c0k h2).1;rw [decide_eq_true hp] at e;have e:c3r N l zs zs.length 0 true []=some (false,zs.map (c5P l)):=e;rw [e,h0];rfl
end Go.Proofs.YtcdhfpkfmekabaaGreatDoor
namespace Go.Proofs.YtcdhfpkfmekabaaGreatDoor
open Go Go.AM
variable {N:Nat} {c:List D}
def a4J (x:D):D:= .i (x.cell 0).toI
theorem c0n (hc:c.length≤1000000):∀(d m i:Nat) (fl:Bool) (acc:List D),d<m→i+d=c.length→acc.length=i→
  b0S N (R:=Bool×LD) c c.length m i fl acc (fun p=>some p)=some (bif decide (0<d) then false else fl,acc++(c.drop i).map a4J)
 |d,0,i,fl,acc,hm,_,_=>by omega
 |0,m+1,i,fl,acc,hm,hi,_=>by
  have:¬((i:Int)<(c.length:Int)):=by omega
  simp only [b0S,b4h,decide_eq_false this,e6a];rw [List.drop_eq_nil_of_le (by omega)]
  simp
 | d+1,m+1,i,fl,acc,hm,hi,ha=>by
  have hlt:(i:Int)<(c.length:Int):=by omega
  have hin:inB (i:Int) c.length=true:=a0D (by omega) (by omega)
  have hg:c.getD ((i:Int)).toNat (.i 0)=c.getD i (.i 0):=by rw [Int.toNat_natCast]
  have hw:IntKind.wrap .i64 ((i:Int)+1)=((i+1:Nat):Int):=(a0u (by omega) (by omega)).trans (by omega)
  have hr:=c37 (n:=acc.length+1) (by omega)
  have i1:=c0n hc d m (i+1) false (acc++[a4J (c.getD i (.i 0))]) (by omega) (by omega) (by simp;omega)
  have hd:c.drop i=c.getD i (.i 0)::c.drop (i+1):=by
   rw [List.drop_eq_getElem_cons (by omega),e6d,e6j (by omega)];rfl
  have e:(some ((bif decide (0<d) then false else false),(acc++[a4J (c.getD i (.i 0))])++(c.drop (i+1)).map a4J):Option (Bool×LD))=some (bif decide (0<d+1) then false else fl,acc++(c.drop i).map a4J):=by
   rw [decide_eq_true (by omega:0<d+1),e6n,hd,List.map_cons]
   cases decide (0<d)<;>rfl
  simp only [b0S,b4h,decide_eq_true hlt,e59,hin,hg,hw,hr];exact i1.trans e
theorem c9b (hN:maxLen<N) (hc:c.length≤1000000):c79 N c=some (c.isEmpty,c.map a4J):=by
 have hM:maxLen=9223372036854775807:=rfl;have i1:=c0n (N:=N) hc c.length N 0 true [] (by omega) (by omega) rfl
 have e:(bif decide (0<c.length) then false else true)=c.isEmpty:=by cases c<;>rfl
 rw [e] at i1;have i1:c78 N c c.length 0 true []=some (c.isEmpty,c.map a4J):=i1;unfold c79 d1Q;rw [i1];rfl
def e3q (x:D):Int:=bif !(x.cell 3).toB then (bif (x.cell 1).toI !=0||(x.cell 2).toI !=0 then 2 else 0) else bif inI (x.cell 1).toI 0 (IntKind.wrap .i64 ((x.cell 0).toI*1000000000))&&inI (x.cell 2).toI 0 (IntKind.wrap .i64 (1000000-(x.cell 0).toI)) then 0 else 9
def b1C (c:List D):Int:=bif szE (c.map a4J) !=0 then szE (c.map a4J) else a0g (fun w=>e3q (c.getD w.toNat (.i 0))) 0 c
theorem c1X (hN:maxLen<N) (hl:c.length≤maxLen):b7p N c c.length 0=some (a2S (a0g (fun w=>e3q (c.getD w.toNat (.i 0))) 0 c)):=by
 unfold b7p;refine (a03 (.i 0:D) (S:=fun w kr=>a7v N c c.length w kr _ _) (L:=fun m w=>b2B N c c.length m w _ _) (fun m w=>rfl) (fun w r=>some (a2S (a0g (fun w=>e3q (c.getD w.toNat (.i 0))) w r))) hl ?_ ?_ hN).trans rfl
 ·intro kr;simp [a7v,a0g,a2S]
 ·intro w kr h0 h1 hw hi hk
  simp only [a7v,decide_eq_true h1,e59,hi,a0b,hw,hk,a1W,c3s,b2A,b25];unfold e3q;generalize c.getD w.toNat (.i 0)=x;cases (x.cell 3).toB with
  |false=>
   cases (x.cell 1).toI !=0 with
   |true=>rfl
   |false=>cases (x.cell 2).toI !=0<;>rfl
  |true=>
   cases inI (x.cell 1).toI 0 (IntKind.wrap .i64 ((x.cell 0).toI*1000000000)) with
   |false=>rfl
   |true=>cases inI (x.cell 2).toI 0 (IntKind.wrap .i64 (1000000-(x.cell 0).toI))<;>rfl
theorem a7L (hN:maxLen<N) (hc:c.length≤1000000):d1S N c=some (b1C c):=by
 have hM:maxLen=9223372036854775807:=rfl;unfold d1S d1R b1C;rw [c9b hN hc];simp only [a0b,e6e,e59,getD_some];rw [c4c hN (by simp;omega),c1X hN (by omega)]
 simp only [e6e,e59,getD_some];cases h:szE (c.map a4J) !=0 with
 |true=>rfl
 |false=>exact c8Z _
end Go.Proofs.YtcdhfpkfmekabaaGreatDoor
namespace Go.Proofs.YtcdhfpkfmekabaaGreatDoor
open Go Go.AM
theorem e5r (a b:Int):c5f Tryz.prog 3 [(0,false)] (.i a) (.i b)=Lib.compareInt a b:=by
 show lex (Lib.compareInt a b) 0=_;unfold lex;split<;>simp_all
theorem leI (a b:Int):(!Go.Proofs.ltOf (c5f Tryz.prog 3 [(0,false)]) (.i b) (.i a))=decide (a≤b):=by
 unfold Go.Proofs.ltOf;rw [e5r];unfold Lib.compareInt;rw [Bool.eq_iff_iff];simp only [Bool.not_eq_true',decide_eq_false_iff_not,decide_eq_true_eq];split
 ·constructor<;>intro h<;>omega
 ·split<;>constructor<;>intro h<;>omega
def dbl:List Int→List Int
 | []=>[]
 |a::l=>a::a::dbl l
theorem c4i:∀l:List Int,(l++l).Perm (dbl l)
 | []=> .refl _
 |a::l=>by
  show ((a::l)++(a::l)).Perm (a::a::dbl l);refine .cons a ?_;exact (List.perm_middle).trans (.cons a (c4i l))
theorem c1Y:∀{l:List Int} {x:Int},x∈dbl l→x∈l
 |a::l,x,h=>by
  simp only [dbl,e6k] at h⊢;rcases h with h|h|h
  ·exact .inl h
  ·exact .inl h
  ·exact .inr (c1Y h)
theorem b5U:∀{l:List Int},l.Pairwise (· < ·)→(dbl l).Pairwise (·≤·)
 | [],_=> .nil
 | a::l,h=>by
  obtain ⟨h1,h2⟩:=List.pairwise_cons.1 h;refine List.pairwise_cons.2 ⟨fun x hx=> ?_,List.pairwise_cons.2 ⟨fun x hx=> ?_,b5U h2⟩⟩
  ·rcases e6k.1 hx with rfl|hx
   ·exact Int.le_refl _
   ·exact Int.le_of_lt (h1 x (c1Y hx))
  ·exact Int.le_of_lt (h1 x (c1Y hx))
theorem d3p {l:List Int} (h:l.Pairwise (· < ·)):a7b ((l++l).map D.i)=(dbl l).map D.i:=by
 unfold a7b c1i;have hp:(((l++l).map D.i).mergeSort fun x y=> !Go.Proofs.ltOf (c5f Tryz.prog 3 [(0,false)]) y x).Perm ((dbl l).map D.i):=(List.mergeSort_perm _ _).trans ((c4i l).map _)
 refine hp.eq_of_pairwise (le:=fun x y=>∃a b,x= .i a∧y= .i b∧a≤b) ?_ ?_ ?_
 ·rintro x y _ _ ⟨a,b,rfl,rfl,h1⟩ ⟨c,d,h2,h3,h4⟩
  cases h2;cases h3;rw [show a=b by omega]
 ·have hs:(((l++l).map D.i).mergeSort fun x y=> !Go.Proofs.ltOf (c5f Tryz.prog 3 [(0,false)]) y x).Pairwise fun x y=>(!Go.Proofs.ltOf (c5f Tryz.prog 3 [(0,false)]) y x)=true:=by
   refine List.pairwise_mergeSort ?_ ?_ _
   ·intro a b c h1 h2
    have:=(a1i (P:=Tryz.prog) (e:=3) [(0,false)]).trans;unfold Go.Proofs.ltOf at*
    simp only [Bool.not_eq_true',decide_eq_false_iff_not] at*
    have s1:=(a1i (P:=Tryz.prog) (e:=3) [(0,false)]).sym a b;have s2:=(a1i (P:=Tryz.prog) (e:=3) [(0,false)]).sym b c;have s3:=(a1i (P:=Tryz.prog) (e:=3) [(0,false)]).sym a c;have s4:=(a1i (P:=Tryz.prog) (e:=3) [(0,false)]).sym b a;have s5:=(a1i (P:=Tryz.prog) (e:=3) [(0,false)]).sym c b;have s6:=(a1i (P:=Tryz.prog) (e:=3) [(0,false)]).sym c a;have t:=this a b c;omega
   ·intro a b
    unfold Go.Proofs.ltOf;have s1:=(a1i (P:=Tryz.prog) (e:=3) [(0,false)]).sym a b;have s2:=(a1i (P:=Tryz.prog) (e:=3) [(0,false)]).sym b a;simp only [Bool.or_eq_true,Bool.not_eq_true',decide_eq_false_iff_not];omega
  refine hs.imp_of_mem fun {x y} hx hy hxy=> ?_
  have mx:=(List.mergeSort_perm _ _).mem_iff.1 hx;have my:=(List.mergeSort_perm _ _).mem_iff.1 hy;obtain ⟨a,_,rfl⟩:=List.mem_map.1 mx;obtain ⟨b,_,rfl⟩:=List.mem_map.1 my;rw [leI] at hxy;exact ⟨a,b,rfl,rfl,of_decide_eq_true hxy⟩
 ·rw [List.pairwise_map]
  exact (b5U h).imp fun {a b} h=>⟨a,b,rfl,rfl,h⟩
theorem c1Z:∀l:List Int,(dbl l).length=2*l.length
 | []=>rfl
 |a::l=>by simp only [dbl,e6m,c1Z l];omega
theorem c9c:∀(l:List Int) (k:Nat),(dbl l)[2*k]? =l[k]?∧(dbl l)[2*k+1]? =l[k]?
 | [],k=>by simp [dbl]
 |a::l,0=>by simp [dbl]
 |a::l,k+1=>by
  obtain ⟨h1,h2⟩:=c9c l k;rw [show 2*(k+1)=2*k+1+1 by omega]
  simp only [dbl,List.getElem?_cons_succ];exact ⟨h1,h2⟩
theorem d4S {l:List Int} {k:Nat} (h:k<l.length):(dbl l).toArray[2*k]! =l[k]∧(dbl l).toArray[2*k+1]! =l[k]:=by
 obtain ⟨h1,h2⟩:=c9c l k;rw [e6j h] at h1 h2;have e:=c1Z l;constructor
 ·rw [getElem!_pos _ _ (by simp;omega)]
  have:=(e6h.1 h1).2;simpa using this
 ·rw [getElem!_pos _ _ (by simp;omega)]
  have:=(e6h.1 h2).2;simpa using this
theorem b4I {l:List Int} (h:l.Pairwise (· < ·)):∀k:Nat,k≤l.length→Lib.compactUpTo (dbl l).toArray (2*k)=l.take k
 |0,_=>by simp [Lib.compactUpTo]
 | k+1,hk=>by
  obtain ⟨d1,d2⟩:=d4S (l:=l) (k:=k) (by omega)
  rw [show 2*(k+1)=2*k+1+1 by omega,Lib.compactUpTo_succ,Lib.compactUpTo_succ,b4I h k (by omega)]
  have k2:Lib.keeps (dbl l).toArray (2*k+1)=false:=Lib.keeps_neg (by omega) (by rw [show 2*k+1-1=2*k by omega,d1,d2])
  have k1:Lib.keeps (dbl l).toArray (2*k)=true:=by
   cases k with
   |zero=>exact Lib.keeps_lt_one _ _ (by omega)
   |succ j=>
    obtain ⟨_,d4⟩:=d4S (l:=l) (k:=j) (by omega)
    refine Lib.keeps_pos ?_;rw [show 2*(j+1)-1=2*j+1 by omega,d1,d4]
    have:=List.pairwise_iff_getElem.1 h j (j+1) (by omega) (by omega) (by omega)
    omega
  rw [k1,k2,d1,List.take_add_one,e6j (by omega)]
  simp
theorem c5Q {l:List Int} (h:l.Pairwise (· < ·)):a2s (a7b ((l++l).map D.i))=l.map D.i:=by
 rw [d3p h];unfold a2s;rw [List.map_map,show (D.toI∘D.i)=id from rfl,List.map_id];unfold Lib.compact;rw [c1Z,b4I h l.length (Nat.le_refl _),List.take_length];rfl
theorem d3q {l:List Int} (hl:l.length≤1000):a7c ((l++l).map D.i)=true:=by
 unfold a7c;rw [b5J.2 ?_,Bool.true_and]
 ·simp;omega
 ·intro a ha b hb hab
  obtain ⟨x,_,rfl⟩:=List.mem_map.1 ha;obtain ⟨y,_,rfl⟩:=List.mem_map.1 hb;rw [e5r] at hab;unfold Lib.compareInt at hab;split at hab
  ·omega
  ·split at hab
   ·omega
   ·rw [show x=y by omega]
variable {N:Nat} {c:List D}
theorem c0o (a b:Int):c3u N a b=Lib.compareInt a b:=by
 have e:∀n:Int,c8f N n=false:=fun n=>by
  show (n !=n)=false;simp
 unfold c3u c3t e1Q d1V;rw [e,e];simp only [a0b,e6a];unfold Lib.compareInt;by_cases h:a<b
 ·rw [decide_eq_true h,if_pos h];rfl
 ·rw [decide_eq_false h,if_neg h]
  by_cases h':a>b
  ·rw [decide_eq_true h',if_pos h'];rfl
  ·rw [decide_eq_false h',if_neg h'];rfl
def szA (c:List D) (i:Nat):Int:=((c.getD i (.i 0)).cell 0).toI
theorem b77 (hc:c.length≤1000000) (hr:∀i j:Nat,i<j→j<c.length→szA c i<szA c j) {k:Nat} (hk:k<c.length):∀(d m lo hi:Nat),d<m→hi≤lo+d→lo≤k→k≤hi→hi≤c.length→
  a5X N (R:=Int) c (szA c k) m lo hi (fun p=>some p)=some (k:Int)
 |d,0,lo,hi,hm,_,_,_,_=>by omega
 |0,m+1,lo,hi,hm,h1,h2,h3,_=>by
  have:¬((lo:Int)<(hi:Int)):=by omega
  simp only [a5X,a7w,decide_eq_false this,e6a];rw [show lo=k by omega]
 | d +1,m+1,lo,hi,hm,h1,h2,h3,h4=>by
  by_cases hlt:(lo:Int)<(hi:Int)
  ·obtain ⟨h,hh⟩:∃h:Nat,h=(lo+hi)/2:=⟨_,rfl⟩
   have e0:IntKind.wrap .i64 ((lo:Int)+(hi:Int))=((lo+hi:Nat):Int):=(a0u (by omega) (by omega)).trans (by omega)
   have e1:IntKind.wrap .u64 (((lo+hi:Nat)):Int)=((lo+hi:Nat):Int):=by simp [IntKind.wrap,IntKind.bits,IntKind.signed];omega
   have e2:(((lo+hi:Nat):Int)).fdiv (2^1)=(h:Int):=by
    rw [Int.fdiv_eq_ediv_of_nonneg _ (by decide),hh]
    omega
   have e3:IntKind.wrap .i64 (h:Int)=(h:Int):=a0u (by omega) (by omega)
   have hi':inB (h:Int) c.length=true:=a0D (by omega) (by omega)
   have e4:IntKind.wrap .i64 ((h:Int)+1)=((h+1:Nat):Int):=(a0u (by omega) (by omega)).trans (by omega)
   simp only [a5X,a7w,decide_eq_true hlt,e59,a0b,e0,e1,e2,e3,hi',Int.toNat_natCast,c0o,b1z,a4F,e4];by_cases hhk:h<k
   ·have hc1:szA c h<szA c k:=hr h k hhk hk
    have e5:decide (Lib.compareInt ((c.getD h (.i 0)).cell 0).toI (szA c k)<0)=true:=decide_eq_true (by
     show Lib.compareInt (szA c h) (szA c k)<0;unfold Lib.compareInt;rw [if_pos hc1];decide)
    rw [e5];exact b77 hc hr hk d m (h+1) hi (by omega) (by omega) (by omega) h3 h4
   ·have hc1:¬szA c h<szA c k:=by
     by_cases e:h=k
     ·rw [e];omega
     ·have:=hr k h (by omega) (by omega);omega
    have e5:decide (Lib.compareInt ((c.getD h (.i 0)).cell 0).toI (szA c k)<0)=false:=decide_eq_false (by
     show¬Lib.compareInt (szA c h) (szA c k)<0;unfold Lib.compareInt;rw [if_neg hc1];split<;>decide)
    rw [e5];exact b77 hc hr hk d m lo h (by omega) (by omega) h2 (by omega) (by omega)
  ·simp only [a5X,a7w,decide_eq_false hlt,e6a]
   rw [show lo=k by omega]
theorem c4j (hN:maxLen<N) (hc:c.length≤1000000) (hr:∀i j:Nat,i<j→j<c.length→szA c i<szA c j) {k:Nat} (hk:k<c.length):
  d12 N c (szA c k)=some (szA c k,((c.getD k (.i 0)).cell 1).toI,((c.getD k (.i 0)).cell 2).toI,((c.getD k (.i 0)).cell 3).toB,true):=by
 have hM:maxLen=9223372036854775807:=rfl;have h:=b77 (N:=N) hc hr hk c.length N 0 c.length (by omega) (by omega) (by omega) (by omega) (Nat.le_refl _)
 have h:c3w N c (szA c k) 0 (c.length:Int)=some (k:Int):=h;have hi:inB (k:Int) c.length=true:=a0D (by omega) (by omega)
 have h2:b4i N c (szA c k) (c.length:Int) (k:Int)=some true:=by
  unfold b4i a9G;rw [hi,decide_eq_true (by omega:(k:Int)<(c.length:Int))]
  simp only [e59,a0b,c0o,Int.toNat_natCast];show some (Lib.compareInt (szA c k) (szA c k)==0)=_;unfold Lib.compareInt;rw [if_neg (by omega),if_neg (by omega)]
  rfl
 unfold d12 d11 d4E c3x;rw [h];simp only [a0b,e6e,e59,getD_some,h2,hi,Int.toNat_natCast];rfl
end Go.Proofs.YtcdhfpkfmekabaaGreatDoor
namespace Go.Proofs.YtcdhfpkfmekabaaGreatDoor
open Go Go.AM
variable {N:Nat} {a b:List D}
def btr (x y:D):Bool:=bif (y.cell 3).toB then (bif !(x.cell 3).toB then true else decide ((y.cell 1).toI>(x.cell 1).toI)) else false
def e3r (x:D):D:= .a [.i (x.cell 0).toI,.i (x.cell 1).toI,.i (x.cell 2).toI,.b (x.cell 3).toB]
def e0A (x y:D):D:=bif btr x y then e3r y else e3r x
def c9d (a b:List D):List D:=(List.range a.length).map fun i=>e0A (a.getD i (.i 0)) (b.getD i (.i 0))
theorem c4k (hN:maxLen<N) (ha:a.length≤100) (hab:b.length=a.length) (hr:∀i j:Nat,i<j→j<a.length→szA a i<szA a j) (hs:∀i:Nat,i<a.length→szA b i=szA a i) (zs:List D) (hz:zs.length=a.length) (hg:∀i:Nat,i<a.length→(zs.getD i (.i 0)).toI=szA a i):
  ∀(d m i:Nat) (fl:Bool),d<m→i+d=a.length→
  a7z N (R:=Bool×LD) a b zs.length zs m i fl ((List.range i).map fun i=>e0A (a.getD i (.i 0)) (b.getD i (.i 0))) (fun p=>some p)=some (bif decide (0<d) then false else fl,c9d a b)
 |d,0,i,fl,hm,_=>by omega
 |0,m+1,i,fl,hm,hi=>by
  have:¬((i:Int)<(zs.length:Int)):=by omega
  simp only [a7z,a9H,decide_eq_false this,e6a];rw [show i=a.length by omega]
  rfl
 | d+1,m+1,i,fl,hm,hi=>by
  have hlt:(i:Int)<(zs.length:Int):=by omega
  have hin:inB (i:Int) zs.length=true:=a0D (by omega) (by omega)
  have hgz:(zs.getD ((i:Int)).toNat (.i 0)).toI=szA a i:=by rw [Int.toNat_natCast];exact hg i (by omega)
  have hw:IntKind.wrap .i64 ((i:Int)+1)=((i+1:Nat):Int):=(a0u (by omega) (by omega)).trans (by omega)
  have e1:=c4j (N:=N) (c:=a) hN (by omega) hr (k:=i) (by omega)
  have e2:=c4j (N:=N) (c:=b) hN (by omega) (fun i j h1 h2=>by rw [hs i (by omega),hs j (by omega)];exact hr i j h1 (by omega)) (k:=i) (by omega)
  rw [hs i (by omega)] at e2
  have hn:decide (((i:Int)).toNat<zs.length)=true:=decide_eq_true (by omega)
  have hrm:(decide ((i+1)*32≤a0X)&&decide ((i+1)≤a0c))=true:=by
   have e1:a0X=140737488355328:=rfl;have e2:a0c=9223372036854775807:=rfl;rw [decide_eq_true (by omega),decide_eq_true (by omega)];rfl
  have ih:=c4k hN ha hab hr hs zs hz hg d m (i+1) false (by omega) (by omega)
  simp only [a7z,a9H,decide_eq_true hlt,e59,hin,hn,a0b,hgz,e1,e2,e6e,getD_some,hw,List.length_map,List.length_range,hrm];refine Eq.trans (Eq.trans ?_ ih) (by rw [decide_eq_true (by omega:0<d+1)];cases decide (0<d)<;>rfl)
  rw [List.range_succ,List.map_append];have hb:=hs i (by omega)
  unfold szA at hb
  have hd:(.a [.i (a7y N (a7x N true true ((a.getD i (.i 0)).cell 1).toI ((a.getD i (.i 0)).cell 3).toB ((b.getD i (.i 0)).cell 1).toI ((b.getD i (.i 0)).cell 3).toB) (szA a i) ((a.getD i (.i 0)).cell 1).toI ((a.getD i (.i 0)).cell 2).toI ((a.getD i (.i 0)).cell 3).toB (szA a i) ((b.getD i (.i 0)).cell 1).toI ((b.getD i (.i 0)).cell 2).toI ((b.getD i (.i 0)).cell 3).toB).1,.i (a7y N (a7x N true true ((a.getD i (.i 0)).cell 1).toI ((a.getD i (.i 0)).cell 3).toB ((b.getD i (.i 0)).cell 1).toI ((b.getD i (.i 0)).cell 3).toB) (szA a i) ((a.getD i (.i 0)).cell 1).toI ((a.getD i (.i 0)).cell 2).toI ((a.getD i (.i 0)).cell 3).toB (szA a i) ((b.getD i (.i 0)).cell 1).toI ((b.getD i (.i 0)).cell 2).toI ((b.getD i (.i 0)).cell 3).toB).2.1,.i (a7y N (a7x N true true ((a.getD i (.i 0)).cell 1).toI ((a.getD i (.i 0)).cell 3).toB ((b.getD i (.i 0)).cell 1).toI ((b.getD i (.i 0)).cell 3).toB) (szA a i) ((a.getD i (.i 0)).cell 1).toI ((a.getD i (.i 0)).cell 2).toI ((a.getD i (.i 0)).cell 3).toB (szA a i) ((b.getD i (.i 0)).cell 1).toI ((b.getD i (.i 0)).cell 2).toI ((b.getD i (.i 0)).cell 3).toB).2.2.1,.b (a7y N (a7x N true true ((a.getD i (.i 0)).cell 1).toI ((a.getD i (.i 0)).cell 3).toB ((b.getD i (.i 0)).cell 1).toI ((b.getD i (.i 0)).cell 3).toB) (szA a i) ((a.getD i (.i 0)).cell 1).toI ((a.getD i (.i 0)).cell 2).toI ((a.getD i (.i 0)).cell 3).toB (szA a i) ((b.getD i (.i 0)).cell 1).toI ((b.getD i (.i 0)).cell 2).toI ((b.getD i (.i 0)).cell 3).toB).2.2.2]:D)=e0A (a.getD i (.i 0)) (b.getD i (.i 0)):=by
   unfold e0A e3r a7y b2C;rw [show a7x N true true ((a.getD i (.i 0)).cell 1).toI ((a.getD i (.i 0)).cell 3).toB ((b.getD i (.i 0)).cell 1).toI ((b.getD i (.i 0)).cell 3).toB=btr (a.getD i (.i 0)) (b.getD i (.i 0)) from rfl];cases btr (a.getD i (.i 0)) (b.getD i (.i 0)) with
   |false=>rfl
   |true=>simp only [e59];unfold szA;rw [hb]
  rw [hd];rfl
end Go.Proofs.YtcdhfpkfmekabaaGreatDoor
namespace Go.Proofs.YtcdhfpkfmekabaaGreatDoor
open Go Go.AM
variable {N:Nat} {a b:List D}
theorem b4J {i:Nat} (h:i<a.length):((a.map a4J).getD i (.i 0)).toI=szA a i:=by
 rw [e6d,List.getElem?_map,e6j h];unfold szA;rw [e6d,e6j h];rfl
theorem c9e (h:szE (a.map a4J)=0):∀i:Nat,i+1<a.length→szA a i<szA a (i+1):=by
 intro i hi;unfold szE at h;obtain ⟨h1,h⟩:=b0W h (by decide)
 obtain ⟨h2,h⟩:=b0W h (by decide)
 have e:=a0I h (i+1) (by simp;omega)
 unfold d4R at e;obtain ⟨_,e⟩:=b0W e (by decide)
 have e:d9K (a.map a4J) (0+((i+1:Nat):Int))=false:=by
  cases hq:d9K (a.map a4J) (0+((i+1:Nat):Int)) with
  |false=>rfl
  |true=>rw [hq] at e;cases e
 unfold d9K at e;rw [decide_eq_true (by omega:(0+((i+1:Nat):Int))>0)] at e
 simp only [e59,decide_eq_false_iff_not] at e;rw [show (0+((i+1:Nat):Int)).toNat=i+1 by omega,show (0+((i+1:Nat):Int)-1).toNat=i by omega,b4J (by omega),b4J (by omega)] at e
 omega
theorem d3r (h:szE (a.map a4J)=0):∀i j:Nat,i<j→j<a.length→szA a i<szA a j:=by
 intro i j hij hj;obtain ⟨k,rfl⟩:∃k,j=i+1+k:=⟨j-(i+1),by omega⟩
 induction k with
 |zero=>exact c9e h i hj
 |succ k ih=>exact Int.lt_trans (ih (by omega) (by omega)) (c9e h (i+1+k) (by omega))
theorem d9N (h:b1C a=0):szE (a.map a4J)=0:=(b98 h).1
theorem c4l:a.map a4J=(a.map fun x=>(x.cell 0).toI).map D.i:=by rw [List.map_map];rfl
theorem d3s (hN:maxLen<N) (ha:b1C a=0) (hb:b1C b=0) (hs:a.map a4J=b.map a4J):c5v N a b=some (false,c9d a b,0):=by
 have hM:maxLen=9223372036854775807:=rfl;have hza:=d9N ha;obtain ⟨n1,n2,_⟩:=c0k hza;rw [List.length_map] at n2;have hab:b.length=a.length:=by have:=congrArg List.length hs;simpa using this.symm
 have hr:=d3r hza;have hsz:∀i:Nat,i<a.length→szA b i=szA a i:=fun i hi=>by rw [←b4J (by omega),←b4J hi,hs]
 have hpos:0<a.length:=by
  cases a with
  |nil=>exact absurd rfl n1
  |cons=>simp
 have hpw:(a.map fun x=>(x.cell 0).toI).Pairwise (· < ·):=by
  refine List.pairwise_iff_getElem.2 fun i j hi hj hij=> ?_
  simp only [List.length_map] at hi hj;have:=hr i j hij hj;unfold szA at this;rw [e6d,e6d,e6j hi,e6j hj] at this;simpa using this
 have hcat:a.map a4J++a.map a4J=((a.map fun x=>(x.cell 0).toI)++(a.map fun x=>(x.cell 0).toI)).map D.i:=by rw [List.map_append,←c4l]
 have hord:c8c N false (a.map a4J++a.map a4J)=some (a.map a4J):=by
  unfold c8c c5t;rw [hcat,d3q (by simp;omega),c5Q hpw,←c4l]
  rfl
 have hrm:(decide (((a.map a4J).length+(a.map a4J).length)*8≤a0X)&&decide (((a.map a4J).length+(a.map a4J).length)≤a0c))=true:=c37 (by simp;omega)
 have hloop:=c4k (N:=N) hN n2 hab hr hsz (a.map a4J) (by simp) (fun i hi=>b4J hi) a.length N 0 true (by omega) (by omega)
 rw [decide_eq_true hpos] at hloop;have hloop:c3y N a b (a.map a4J).length (a.map a4J) 0 true []=some (false,c9d a b):=hloop;have hml:(c9d a b).length=a.length:=by unfold c9d;simp
 have hne:a.isEmpty=false:=by cases a with|nil=>exact absurd rfl n1|cons=>rfl
 have hmne:(a.map a4J).isEmpty=false:=by cases a with|nil=>exact absurd rfl n1|cons=>rfl
 unfold c5v c5u;rw [a7L hN (by omega),a7L hN (by omega),ha,hb,c9b hN (by omega),c9b hN (by omega),←hs]
 simp only [a0b,e6e,e59,getD_some,c4f hN,hrm,hne,hmne,Bool.false_and,Bool.and_false,hord,hloop];rw [decide_eq_false (by omega:¬((c9d a b).length:Int)>100)]
 rfl
end Go.Proofs.YtcdhfpkfmekabaaGreatDoor
namespace Go.Proofs.YtcdhfpkfmekabaaGreatDoor
open Go Go.AM
variable {N:Nat} {a b:List D}
def e3s:List D→List D→List D
 |x::r,y::s=>e0A x y::e3s r s
 |_,_=>[]
theorem c9f:∀(a b:List D),b.length=a.length→e3s a b=c9d a b
 | [],_,_=>rfl
 |x::r,[],h=>by simp at h
 |x::r,y::s,h=>by
  have ih:=c9f r s (by simpa using h)
  unfold c9d at ih⊢;rw [e3s,ih,e6m,List.range_succ_eq_map,List.map_cons,List.map_map];rfl
end Go.Proofs.YtcdhfpkfmekabaaGreatDoor
namespace Go.Proofs.YtcdhfpkfmekabaaGreatDoor
open Go Go.AM
variable {N:Nat} {a b zs:List D}
def c9g (a b:List D):List D:=bif (b1C a==0)&&(b1C b==0) then c9d a b else []
def d4T (a b:List D):Bool:= !((b1C a==0)&&(b1C b==0))
theorem d3t (hN:maxLen<N) (hla:a.length≤1000000) (hlb:b.length≤1000000) (hs:b1C a=0→b1C b=0→a.map a4J=b.map a4J):
  ∃e,c5v N a b=some (d4T a b,c9g a b,e):=by
 by_cases ha:b1C a=0
 ·by_cases hb:b1C b=0
  ·have h1:=d3s hN ha hb (hs ha hb)
   have e1:d4T a b=false:=by unfold d4T;rw [ha,hb];rfl
   have e2:c9g a b=c9d a b:=by unfold c9g;rw [ha,hb];rfl
   rw [e1,e2];exact ⟨0,h1⟩
  ·have n:(b1C b==0)=false:=by simpa using hb
   have n':(b1C b !=0)=true:=by simpa using hb
   have e1:d4T a b=true:=by unfold d4T;rw [n];simp
   have e2:c9g a b=[]:=by unfold c9g;rw [n];simp
   rw [e1,e2];refine ⟨b1C b,?_⟩;unfold c5v c5u;rw [a7L hN hla,a7L hN hlb,ha];simp only [a0b,e6e,e59,getD_some,c4f hN,show ((0:Int) !=0)=false from rfl,e6a,n']
 ·have n:(b1C a==0)=false:=by simpa using ha
  have n':(b1C a !=0)=true:=by simpa using ha
  have e1:d4T a b=true:=by unfold d4T;rw [n];rfl
  have e2:c9g a b=[]:=by unfold c9g;rw [n];rfl
  rw [e1,e2];refine ⟨b1C a,?_⟩;unfold c5v c5u;rw [a7L hN hla,a7L hN hlb];simp only [a0b,e6e,e59,getD_some,c4f hN,n']
def c9h (zs out:List D):Prop:=out=[]∨out.map a4J=zs.map fun x=> .i x.toI
theorem d9O (hab:b.length=a.length) (h:a.map a4J=b.map a4J):(c9d a b).map a4J=a.map a4J:=by
 rw [←c9f a b hab];clear hab;induction a generalizing b with
 |nil=>cases b<;>rfl
 |cons x r ih=>
  match b,h with
  |y::s,h=>
  simp only [List.map_cons,List.cons.injEq] at h;rw [e3s,List.map_cons,List.map_cons,ih h.2];congr 1
  unfold e0A e3r;cases btr x y
  ·rfl
  ·exact h.1.symm
end Go.Proofs.YtcdhfpkfmekabaaGreatDoor
namespace Go.Proofs.YtcdhfpkfmekabaaGreatDoor
open Go Go.AM
variable {N:Nat} {zs:List D} {kind:Int}
theorem c10 (hN:maxLen<N) (h1:1≤kind) (h2:kind≤5) {x:D} (h:a5v x):
  (a4o kind (a1B x)).length≤maxLen∧d1P N (a4R x) (a2Q x) (a2j x) (a1B x) (a3J x) (a10 x) kind=some (false,a4o kind (a1B x),0):=by
 have hM:maxLen=9223372036854775807:=rfl;obtain ⟨s1,s2,s3⟩:=b5T h;have hok:ActOk (a4R x) (a1B x) (a3J x) (a10 x):=h.2;have hc:chkA (a4R x) (a2Q x) (a2j x) (a1B x) (a3J x) (a10 x)=0:=h.1;obtain ⟨p1,p2,p3,p4⟩:=a1b hN h1 h2 s1 s2 s3;refine ⟨by omega,?_⟩
 unfold d1P d1O;rw [G37x0_eq hN hok,hc];simp only [a0b,e6e,e59,getD_some,show ((0:Int) !=0)=false from rfl,e6a,b25,show inI kind 1 5=true from decide_eq_true ⟨h1,h2⟩,Bool.not_true,p1]
theorem c4m (l:List D):c0m l zs=[]∨(c0m l zs).map a4J=zs.map fun x=> .i x.toI:=by
 unfold c0m;cases c4g l zs !=0 with
 |true=>exact .inl rfl
 |false=>refine .inr ?_;rw [e6a,List.map_map];rfl
theorem b78:b1C []≠0:=by decide
theorem c9i (hz:zs.length≤100) {out:List D} (h:c9h zs out):out.length≤100:=by
 rcases h with rfl|h
 ·simp
 ·have:=congrArg List.length h;simp at this;omega
theorem d9P (hz:zs.length≤100) {out:List D} (h:c9h zs out) (l:List D):(b1C out=0→b1C (c0m l zs)=0→out.map a4J=(c0m l zs).map a4J)∧c9h zs (c9g out (c0m l zs)):=by
 have hs:b1C out=0→b1C (c0m l zs)=0→out.map a4J=(c0m l zs).map a4J:=by
  intro h1 h2;rcases h with rfl|h
  ·exact absurd h1 b78
  ·rcases c4m (zs:=zs) l with e|e
   ·rw [e] at h2;exact absurd h2 b78
   ·rw [h,e]
 refine ⟨hs,?_⟩;by_cases hb:((b1C out==0)&&(b1C (c0m l zs)==0))=true
 ·have hb':=hb
  simp only [e57,beq_iff_eq] at hb';have e:=hs hb'.1 hb'.2;right;unfold c9g;rw [hb,e59,d9O (by have:=congrArg List.length e;simpa using this.symm) e]
  rcases h with rfl|h
  ·exact absurd hb'.1 b78
  ·exact h
 ·left
  unfold c9g;rw [Bool.not_eq_true] at hb;rw [hb];rfl
theorem c4n (hN:maxLen<N) (h1:1≤kind) (h2:kind≤5) (hz:zs.length≤100) {A:List D} (hA:A.length≤40000000):∀(r:List D) (w m:Nat) (fl:Bool) (out:List D),A.drop w=r→(∀x∈r,a5v x)→r.length<m→c9h zs out→
  ∃R,a7A N (R:=Bool×LD) kind zs A A.length m fl out w (fun p=>some p)=some R∧c9h zs R.2
 |_,_,0,_,_,_,_,hm,_=>by omega
 | [],w,m+1,fl,out,hd,_,_,ho=>by
  have hl:=congrArg List.length hd;rw [List.length_drop] at hl;have h1:¬((w:Int)<(A.length:Int)):=by simp at hl;omega
  refine ⟨(fl,out),?_,by assumption⟩
  simp only [a7A,a9I,decide_eq_false h1,e6a]
 | x::r,w,m+1,fl,out,hd,hr,hm,ho=>by
  obtain ⟨b1,b2,b3,b4⟩:=b0Y hd;have hM:maxLen=9223372036854775807:=rfl;have hcA:(w:Int)<(A.length:Int):=by omega
  have hiA:inB (w:Int) A.length=true:=a0D (by omega) (by omega)
  have eA:A.getD ((w:Int)).toNat (.i 0)=x:=by rw [Int.toNat_natCast];exact b2
  have hw:IntKind.wrap .i64 ((w:Int)+1)=((w+1:Nat):Int):=(a0u (by omega) (by omega)).trans (by omega)
  obtain ⟨q0,q1⟩:=c10 hN h1 h2 (hr x (by simp))
  generalize hl:a4o kind (a1B x)=l at q0 q1;have q1:d1P N (x.cell 0).toS (x.cell 1).toI (x.cell 2).toI (x.cell 3).items (x.cell 4).items (x.cell 5).items kind=some (false,l,0):=q1;have u1:=c4h (N:=N) (zs:=zs) hN q0 (by omega)
  obtain ⟨t1,t2⟩:=d9P hz ho l;have hcl:(c0m l zs).length≤1000000:=by
   rcases c4m (zs:=zs) l with e|e
   ·rw [e];simp
   ·have:=congrArg List.length e;simp at this;omega
  obtain ⟨e,v1⟩:=d3t (N:=N) (a:=out) (b:=c0m l zs) hN (by have:=c9i hz ho;omega) hcl t1
  obtain ⟨R,i1,i3⟩:=c4n hN h1 h2 hz hA r (w+1) m (d4T out (c0m l zs)) (c9g out (c0m l zs)) b3 (fun x hx=>hr x (by simp [hx])) (by simp at hm;omega) t2
  refine ⟨R,?_,i3⟩;simp only [a7A,a9I,decide_eq_true hcA,e59,a0b,hiA,eA,q1,u1,v1,e6e,getD_some,hw];exact i1
end Go.Proofs.YtcdhfpkfmekabaaGreatDoor
namespace Go.Proofs.YtcdhfpkfmekabaaGreatDoor
open Go Go.AM
variable {N:Nat} {xs l zs:List D} {lv kind:Int}
def e3t (x:D):D:= .a [.i x.toI,.i 0,.i 0,.b false]
theorem c9j (h:szE zs=0):c4g [] zs=0∧c0m [] zs=zs.map e3t:=by
 have e:c4g [] zs=0:=by
  unfold c4g;rw [show c89 []=0 from rfl,h];rfl
 refine ⟨e,?_⟩;obtain ⟨_,_,z3⟩:=c0k h;unfold c0m;rw [e];show zs.map (c5P [])=_;refine List.map_congr_left fun x hx=> ?_
 obtain ⟨i,hi,rfl⟩:=List.getElem_of_mem hx;have:=z3 i hi;rw [e6d,e6j hi] at this;simp only [Option.getD_some] at this;unfold c5P e3t;rw [show ([]:List D).length+1-(zs[i]).toI.toNat=0 by simp only [List.length_nil];omega]
 rfl
theorem d3u (hN:maxLen<N) (hv:a6Q xs) (hl:l.length≤maxLen) (ha:∀a∈l,a7Y a) (hn:∀a∈l,aTn a=true→a10 a=[]) (hz:zs.length≤maxLen) (kind:Int):
  ∃R,b0T N xs lv l kind zs=some R∧R.2.1.length≤100:=by
 have hM:maxLen=9223372036854775807:=rfl;obtain ⟨b,e1⟩:=a8z (lv:=lv) hN hv hl ha hn;unfold b0T c8g;rw [e1];simp only [a0b,e6e,e59,getD_some];cases h:a2T xs lv l !=0 with
 |true=>exact ⟨(true,[],a2T xs lv l),by simp only [e59],by simp⟩
 | false=>
  simp only [e6a,a3i];cases hk:inI kind 1 5 with
  |false=>exact ⟨(true,[],7),rfl,by simp⟩
  | true=>
   have hk':=of_decide_eq_true hk;simp only [Bool.not_true,e6a];rw [c4h hN (Nat.zero_le _) hz];simp only [e6e,e59,getD_some];have hcE:c4g [] zs=szE zs:=by unfold c4g;rw [show c89 []=0 from rfl];rfl
   rw [hcE];cases h3:szE zs !=0 with
   |true=>exact ⟨(true,[],szE zs),by simp only [e59],by simp⟩
   |false=>
    have h30:szE zs=0:=by simpa using h3
    obtain ⟨z1,z2,_⟩:=c0k h30;obtain ⟨_,f2⟩:=c9j h30;have h0:a2T xs lv l=0:=by simpa using h
    obtain ⟨q1,q2⟩:=a3z h0;obtain ⟨r1,_,r3⟩:=a2c q2;have hsl:=c4b (xs:=xs) (lv:=lv) q1 (b4E q2 hn);obtain ⟨R,i1,i3⟩:=c4n (N:=N) hN hk'.1 hk'.2 z2 hsl (a4S xs lv l) 0 N false (zs.map e3t) rfl (b4H r1 r3 ha) (by omega) (.inr (by rw [List.map_map];rfl))
    have i1:c3z N kind zs (a4S xs lv l) (a4S xs lv l).length false (zs.map e3t) 0=some R:=i1;refine ⟨(R.1,R.2,0),?_,c9i z2 i3⟩;simp only [e6a,f2,i1,e6e,e59,getD_some]
end Go.Proofs.YtcdhfpkfmekabaaGreatDoor
namespace Go.Proofs.YtcdhfpkfmekabaaGreatDoor.Z
open Go Go.AM
variable {N:Nat}
def ltr (n:Int):Bool:=decide (97≤n∧n≤122∨65≤n∧n≤90∨48≤n∧n≤57∨n=45∨n=95∨n=46)
def a30 (s:List UInt8):Bool:=s.all (fun c=>ltr (c.toNat:Int))&&decide (1≤s.length∧s.length≤60)
def a2A (s:List UInt8):Bool:=s.all (fun c=>decide (32≤(c.toNat:Int)∧(c.toNat:Int)≤126))&&decide (s.length≤60)
def inI (n a b:Int):Bool:=decide (a≤n∧n≤b)
theorem b0V (hN:maxLen<N) {s:List UInt8} (hs:s.length≤maxLen):b3Z N s s.length 0=some (bif s.all (fun c=>ltr (c.toNat:Int)) then .inr () else .inl ()):=by
 unfold b3Z;refine (a03 (0:UInt8) (S:=fun w kr=>a5Q N s s.length w kr _ _) (L:=fun m w=>b3Y N s s.length m w _ _) (fun m w=>rfl) (fun _ l=>some (bif l.all (fun c=>ltr (c.toNat:Int)) then .inr () else .inl ())) hs ?_ ?_ hN).trans rfl
 ·intro kr;simp [a5Q]
 ·intro w kr h0 h1 hw hi hk
  simp only [a5Q,decide_eq_true h1,e59,hi,a0b,hw,hk,List.all_cons,b6L,a9c,c7A,b9u];generalize ((s.getD w.toNat 0).toNat:Int)=n;refine (b5F (c':= !ltr n) ?_).trans ?_
  ·rw [Bool.eq_iff_iff];simp [ltr];omega
  ·cases ltr n<;>rfl
theorem a7J (hN:maxLen<N) {s:List UInt8} (hs:s.length≤maxLen):c1m N s=some (a30 s):=by
 unfold c1m c7C;rw [b0V hN hs];unfold a30;cases s.all (fun c=>ltr (c.toNat:Int)) with
 |false=>rfl
 |true=>
  simp only [a0b,a0q,a0r,e59,e6a,e6e,Bool.true_and];congr 1
  rw [Bool.eq_iff_iff];simp;omega
theorem a3h (n a b:Int):a5c N n a b=inI n a b:=by
 unfold a5c c7D inI;rw [Bool.eq_iff_iff];simp
theorem b7Y (c:UInt8):IntKind.wrap .i64 (c.toNat:Int)=c.toNat:=a0u (by omega) (by have:=c.toNat_lt;omega)
theorem b7Z (hN:maxLen<N) {s:List UInt8} (hs:s.length≤maxLen):c7H N s=some (a2A s):=by
 have h:b33 N s s.length 0=some (bif s.all (fun c=>decide (32≤(c.toNat:Int)∧(c.toNat:Int)≤126)) then .inr () else .inl ()):=by
  unfold b33;refine (a03 (0:UInt8) (S:=fun w kr=>a5R N s s.length w kr _ _) (L:=fun m w=>b32 N s s.length m w _ _) (fun m w=>rfl) (fun _ l=>some (bif l.all (fun c=>decide (32≤(c.toNat:Int)∧(c.toNat:Int)≤126)) then .inr () else .inl ())) hs ?_ ?_ hN).trans rfl
  ·intro kr;simp [a5R]
  ·intro w kr h0 h1 hw hi hk
   simp only [a5R,decide_eq_true h1,e59,hi,a0b,hw,hk,List.all_cons,b7Y,a3h,inI];cases decide (32≤((s.getD w.toNat 0).toNat:Int)∧((s.getD w.toNat 0).toNat:Int)≤126)<;>rfl
 unfold c7H c7G;rw [h];unfold a2A;cases s.all (fun c=>decide (32≤(c.toNat:Int)∧(c.toNat:Int)≤126)) with
 |false=>rfl
 |true=>
  simp only [a0b,a0q,a0r,e59,e6a,e6e,Bool.true_and];congr 1
  rw [Bool.eq_iff_iff];simp;omega
def a0g (e:Int→Int):Int→List D→Int
 |_,[]=>0
 |w,_::r=>bif e w !=0 then e w else a0g e (w+1) r
def a2S (n:Int):Sum Int Unit:=bif n !=0 then .inl n else .inr ()
theorem a1W {e:Int→Int} {w:Int} {x:D} {l:List D}:a2S (a0g e w (x::l))=bif e w !=0 then .inl (e w) else a2S (a0g e (w+1) l):=by
 simp only [a0g];cases h:e w !=0 with
 |true=>simp only [e59,a2S,h]
 |false=>rfl
def b4t (xs:List D) (w:Int):Bool:=bif w==0 then ((xs.getD w.toNat (.i 0)).cell 0).toI !=0 else decide (((xs.getD w.toNat (.i 0)).cell 0).toI≤((xs.getD (w-1).toNat (.i 0)).cell 0).toI)
def b70 (s:D):Bool:=inI (s.cell 1).toI (-100000000) 100000000&&inI (s.cell 2).toI (-100000000) 100000000&&inI (s.cell 3).toI (-100000) 100000&&inI (s.cell 4).toI (-1) 300&&inI (s.cell 5).toI (-1) 3000&&inI (s.cell 6).toI (-1) 300
def b5P (start:Int) (s:D):Bool:=decide ((s.cell 0).toI>1000000)||decide (IntKind.wrap .i64 (start+(s.cell 0).toI)>86399999999)
def a7K (start:Int) (xs:List D) (w:Int):Int:=bif b4t xs w then 10 else bif b5P start (xs.getD w.toNat (.i 0))|| !b70 (xs.getD w.toNat (.i 0)) then 9 else 0
section
variable {xs:List D} {w:Int}
theorem a6P (h0:0≤w) (h1:w<xs.length) (hl:xs.length≤maxLen) (hp:w≠0):IntKind.wrap .i64 (w-1)=w-1∧inB (w-1) xs.length=true:=by
 have hm:maxLen=9223372036854775807:=rfl;exact ⟨a0u (by omega) (by omega),a0D (by omega) (by omega)⟩
theorem e4O (h0:0≤w) (h1:w<xs.length) (hl:xs.length≤maxLen):a4m N w (bif (w==0) then (((xs.getD w.toNat (.i 0)).cell 0).toI !=0) else false) xs ((xs.getD w.toNat (.i 0)).cell 0).toI=some (b4t xs w):=by
 unfold a4m a4l b6N a9d b4t;by_cases hw:w=0
 ·subst hw
  rw [decide_eq_false (by omega:¬((0:Int)>0))]
  simp only [beq_self_eq_true,e59];cases (((xs.getD (0:Int).toNat (.i 0)).cell 0).toI !=0)<;>rfl
 ·obtain ⟨e1,e2⟩:=a6P h0 h1 hl hw
  have:(w==0)=false:=by simpa using hw
  rw [this,decide_eq_true (by omega:w>0),e1,e2]
  rfl
theorem e4P (start:Int) (s:D):a9f N start (s.cell 0).toI (s.cell 1).toI (s.cell 2).toI (s.cell 3).toI (s.cell 4).toI (s.cell 5).toI (s.cell 6).toI=(b5P start s|| !b70 s):=by
 unfold a9f a9e d6f c7E c1n b30 c1o b31 b5P b70;simp only [a0b,a3h];cases decide ((s.cell 0).toI>1000000)<;>cases decide (IntKind.wrap .i64 (start+(s.cell 0).toI)>86399999999)<;>cases inI (s.cell 1).toI (-100000000) 100000000<;>cases inI (s.cell 2).toI (-100000000) 100000000<;>cases inI (s.cell 3).toI (-100000) 100000<;>cases inI (s.cell 4).toI (-1) 300<;>cases inI (s.cell 5).toI (-1) 3000<;>cases inI (s.cell 6).toI (-1) 300<;>rfl
theorem a8u (hN:maxLen<N) (start:Int) (hl:xs.length≤maxLen):a9h N xs xs.length start xs 0=some (a2S (a0g (a7K start xs) 0 xs)):=by
 unfold a9h;refine (a03 (.i 0:D) (S:=fun w kr=>a3X N xs xs.length start xs w kr _ _) (L:=fun m w=>a9g N xs xs.length start xs m w _ _) (fun m w=>rfl) (fun w l=>some (a2S (a0g (a7K start xs) w l))) hl ?_ ?_ hN).trans rfl
 ·intro kr;simp [a3X,a0g,a2S]
 ·intro w kr h0 h1 hw hi hk
  simp only [a3X,decide_eq_true h1,e59,hi,a0b,hw,hk,e4O h0 h1 hl,e6e,getD_some,e4P,a1W];unfold a7K;cases b4t xs w with
  |true=>rfl
  |false=>cases (b5P start (xs.getD w.toNat (.i 0))|| !b70 (xs.getD w.toNat (.i 0)))<;>rfl
def spanD (xs:List D):Int:=bif decide ((xs.length:Int)>0) then ((xs.getD ((xs.length:Int)-1).toNat (.i 0)).cell 0).toI else 0
theorem G29x0_eq (hl:xs.length≤maxLen):a8r N xs=some (spanD xs):=by
 have hm:maxLen=9223372036854775807:=rfl;unfold a8r c7F spanD;by_cases h:(xs.length:Int)>0
 ·rw [decide_eq_true h,a0u (by omega) (by omega),a0D (by omega) (by omega)];rfl
 ·rw [decide_eq_false h];rfl
def c3T (xs:List D) (w:Int):Bool:=bif decide (w>0) then decide (((xs.getD w.toNat (.i 0)).cell 0).toI<((xs.getD (w-1).toNat (.i 0)).cell 1).toI) else false
def c9M (span:Int) (s:D):Bool:=decide ((s.cell 0).toI<0)||decide ((s.cell 0).toI≥(s.cell 1).toI)||decide ((s.cell 1).toI>span)
def b48 (span:Int) (xs:List D) (w:Int):Int:=bif c9M span (xs.getD w.toNat (.i 0)) then 9 else bif c3T xs w then 10 else bif a2A ((xs.getD w.toNat (.i 0)).cell 2).toS then 0 else 8
theorem e4Q (h0:0≤w) (h1:w<xs.length) (hl:xs.length≤maxLen):a9j N w xs ((xs.getD w.toNat (.i 0)).cell 0).toI=some (c3T xs w):=by
 unfold a9j a9i c3T;by_cases hw:w=0
 ·subst hw;rfl
 ·obtain ⟨e1,e2⟩:=a6P h0 h1 hl hw
  rw [decide_eq_true (by omega:w>0),e1,e2];rfl
theorem a8v (hN:maxLen<N) (span:Int) (hl:xs.length≤maxLen) (hn:∀x∈xs,(x.cell 2).toS.length≤maxLen):a9l N span xs xs.length xs 0=some (a2S (a0g (b48 span xs) 0 xs)):=by
 unfold a9l;refine (a03 (.i 0:D) (S:=fun w kr=>a3Y N span xs xs.length xs w kr _ _) (L:=fun m w=>a9k N span xs xs.length xs m w _ _) (fun m w=>rfl) (fun w l=>some (a2S (a0g (b48 span xs) w l))) hl ?_ ?_ hN).trans rfl
 ·intro kr;simp [a3Y,a0g,a2S]
 ·intro w kr h0 h1 hw hi hk
  have hmem:xs.getD w.toNat (.i 0)∈xs:=by rw [e6d,e6j (by omega)];exact List.getElem_mem _
  simp only [a3Y,decide_eq_true h1,e59,hi,a0b,hw,hk,e4Q h0 h1 hl,b7Z hN (hn _ hmem),e6e,getD_some,a1W];unfold b48 c9M;generalize xs.getD w.toNat (.i 0)=s;cases decide ((s.cell 0).toI<0)<;>cases decide ((s.cell 0).toI≥(s.cell 1).toI)<;>cases decide ((s.cell 1).toI>span)<;>cases c3T xs w<;>cases a2A (s.cell 2).toS<;>rfl
def leS (a b:List UInt8):Bool:=Op.bytesLess a b||a==b
def c9N (xs:List D) (w:Int):Bool:=bif decide (w>0) then leS (xs.getD w.toNat (.i 0)).toS (xs.getD (w-1).toNat (.i 0)).toS else false
def c1I (xs:List D) (w:Int):Int:=bif a30 (xs.getD w.toNat (.i 0)).toS then (bif c9N xs w then 10 else 0) else 8
theorem c8N (h0:0≤w) (h1:w<xs.length) (hl:xs.length≤maxLen):(bif (inB (IntKind.wrap .i64 (w-1)) xs.length) then true else (!((decide (w>0))==true)))=true∧(bif (decide (w>0)) then ((Op.bytesLess (xs.getD w.toNat (.i 0)).toS (xs.getD (IntKind.wrap .i64 (w-1)).toNat (.i 0)).toS)||((xs.getD w.toNat (.i 0)).toS==(xs.getD (IntKind.wrap .i64 (w-1)).toNat (.i 0)).toS)) else false)=c9N xs w:=by
 unfold c9N leS;by_cases hw:w=0
 ·subst hw
  rw [decide_eq_false (by omega:¬((0:Int)>0))]
  refine ⟨?_,rfl⟩;cases inB (IntKind.wrap .i64 (0-1)) xs.length<;>rfl
 ·obtain ⟨e1,e2⟩:=a6P h0 h1 hl hw
  rw [decide_eq_true (by omega:w>0),e1,e2]
  exact ⟨rfl,rfl⟩
theorem a8w (hN:maxLen<N) (hl:xs.length≤maxLen) (hn:∀x∈xs,x.toS.length≤maxLen):a9n N xs xs.length xs 0=some (a2S (a0g (c1I xs) 0 xs)):=by
 unfold a9n;refine (a03 (.i 0:D) (S:=fun w kr=>a3Z N xs xs.length xs w kr _ _) (L:=fun m w=>a9m N xs xs.length xs m w _ _) (fun m w=>rfl) (fun w l=>some (a2S (a0g (c1I xs) w l))) hl ?_ ?_ hN).trans rfl
 ·intro kr;simp [a3Z,a0g,a2S]
 ·intro w kr h0 h1 hw hi hk
  have hmem:xs.getD w.toNat (.i 0)∈xs:=by rw [e6d,e6j (by omega)];exact List.getElem_mem _
  obtain ⟨t1,t2⟩:=c8N h0 h1 hl;simp only [a3Z,decide_eq_true h1,e59,hi,a0b,hw,hk,a7J hN (hn _ hmem),e6e,getD_some,a1W,t2];unfold c1I;rw [t1];cases a30 (xs.getD w.toNat (.i 0)).toS<;>cases c9N xs w<;>rfl
end
def chkA (name:List UInt8) (sport start:Int) (smps laps tags:List D):Int:=
 bif !a30 name then 8 else bif !inI sport 1 5 then 7 else bif !inI start 0 86399999999 then 9 else
 bif decide ((smps.length:Int)>20000)||decide ((laps.length:Int)>200)||decide ((tags.length:Int)>20) then 3 else
 bif a0g (a7K start smps) 0 smps !=0 then a0g (a7K start smps) 0 smps else
 bif a0g (b48 (spanD smps) laps) 0 laps !=0 then a0g (b48 (spanD smps) laps) 0 laps else a0g (c1I tags) 0 tags
structure ActOk (name:List UInt8) (smps laps tags:List D):Prop where
 n:name.length≤maxLen
 s:smps.length≤maxLen
 l:laps.length≤maxLen
 t:tags.length≤maxLen
 ln:∀x∈laps,(x.cell 2).toS.length≤maxLen
 tn:∀x∈tags,x.toS.length≤maxLen
theorem c3U {α:Type} (n:Int) (k0:Int→α) (k1:α) (z:α):(bif a0U (some (a2S n)) then k0 (a1E (some (a2S n))) else bif (a0n (some (a2S n))).isSome then k1 else z)=bif n !=0 then k0 n else k1:=by
 unfold a2S;cases n !=0<;>rfl
section
variable {name:List UInt8} {sport start:Int} {smps laps tags:List D}
theorem G37x0_eq (hN:maxLen<N) (h:ActOk name smps laps tags):b1Q N name sport start smps laps tags=some (chkA name sport start smps laps tags):=by
 unfold b1Q c7I;simp only [a0b,a7J hN h.n,e6e,e59,getD_some,a3h,a8u hN start h.s,G29x0_eq h.s,a8v hN _ h.l h.ln,a8w hN h.t h.tn,c3U];unfold chkA;cases a30 name<;>cases inI sport 1 5<;>cases inI start 0 86399999999<;>cases decide ((smps.length:Int)>20000)<;>cases decide ((laps.length:Int)>200)<;>cases decide ((tags.length:Int)>20)<;>try rfl
 cases a0g (a7K start smps) 0 smps !=0<;>cases a0g (b48 (spanD smps) laps) 0 laps !=0<;>cases h3:a0g (c1I tags) 0 tags !=0<;>first|rfl|(simp only [bne_eq_false_iff_eq] at h3;simp [h3])
end
end Go.Proofs.YtcdhfpkfmekabaaGreatDoor.Z
namespace Go.Proofs.YtcdhfpkfmekabaaGreatDoor.Z
open Go Go.AM
variable {N:Nat}
section
variable {xs ys:List D}
end
section
variable {n n':List UInt8} {sp st sp' st':Int} {s l t s' l' t':List D}
end
end Go.Proofs.YtcdhfpkfmekabaaGreatDoor.Z
namespace Go.Proofs.YtcdhfpkfmekabaaGreatDoor.Z
open Go Go.AM
variable {N:Nat}
theorem c0p {A X:Type} {S:A→(A→X)→X} {L:Nat→A→X} (hL:∀m a,L (m+1) a=S a (L m)) (P:A→X→Prop) (Inv:A→Prop) (μ:A→Nat)
  (h:∀a kr,Inv a→(∀a',Inv a'→μ a'<μ a→P a' (kr a'))→P a (S a kr)):∀(m:Nat) (a:A),Inv a→μ a<m→P a (L m a):=by
 intro m;induction m with
 |zero=>intro a _ h;omega
 |succ m ih=>intro a ha hm;rw [hL];exact h a (L m) ha fun a' h1 h2=>ih a' h1 (by omega)
def fN (f:D):Int:=(f.cell 0).toI
def fS (f:D):Int:=(f.cell 1).toI
def fT (f:D):Int:=(f.cell 2).toI
def isT (f:D):Bool:=(fN f==253)&&(fT f==0)&&(fS f==4)
def e2I (n:Int) (l:List D):Bool:=l.any fun f=>fN f==n
def d9Q (fs:List D) (w:Int):Int:=
 bif !(inI (fN (fs.getD w.toNat (.i 0))) 0 255)|| !(inI (fS (fs.getD w.toNat (.i 0))) 1 255) then 9 else bif !inI (fT (fs.getD w.toNat (.i 0))) 0 3 then 7 else
 bif decide (fT (fs.getD w.toNat (.i 0))≤1)&&(fS (fs.getD w.toNat (.i 0)) !=1)&&(fS (fs.getD w.toNat (.i 0)) !=2)&&(fS (fs.getD w.toNat (.i 0)) !=4) then 2 else
 bif e2I (fN (fs.getD w.toNat (.i 0))) (fs.take w.toNat) then 5 else 0
def c9P (g:Int) (fs:List D):Int:=bif !inI g 0 65535 then 9 else bif decide ((fs.length:Int)>30) then 3 else a0g (d9Q fs) 0 fs
theorem c9k (hN:maxLen<N) {xs:List D} {n:Int} (hs:xs.length≤maxLen):∃i:Int,c8p N xs n=some i∧decide (i≥0)=e2I n xs:=by
 have h:b7y N xs xs.length n 0=some (match xs.findIdx? fun d=>fN d==n with|some j=> .inl (j:Int)|none=> .inr ()):=by
  unfold b7y;refine (a03 (.i 0:D) (S:=fun w kr=>a7C N xs xs.length n w kr _ _) (L:=fun m w=>b2M N xs xs.length n m w _ _) (fun m w=>rfl) (fun w l=>some (match l.findIdx? fun d=>fN d==n with|some j=> .inl (w+(j:Int))|none=> .inr ())) hs ?_ ?_ hN).trans (by simp)
  ·intro kr;simp [a7C]
  ·intro w kr h0 h1 hw hi hk
   simp only [a7C,d4J,c3C,decide_eq_true h1,e59,hi,a0b,hw,hk,List.findIdx?_cons];show (bif (fN (xs.getD w.toNat (.i 0))==n) then _ else _)=_
   cases fN (xs.getD w.toNat (.i 0))==n with
   |true=>simp
   |false=>
    simp only [e6a,Bool.false_eq_true,if_false];cases (xs.drop (w+1).toNat).findIdx? fun d=>fN d==n with
    |none=>rfl
    |some j=>simp;omega
 unfold c8p c3D;rw [h];have hl:e2I n xs=(xs.findIdx? fun d=>fN d==n).isSome:=by
  rw [List.findIdx?_isSome];rfl
 rw [hl];cases xs.findIdx? fun d=>fN d==n with
 |none=>exact ⟨-1,rfl,rfl⟩
 |some j=>exact ⟨j,rfl,by simp⟩
theorem c9l (hN:maxLen<N) {xs:List D} {n:Int} (hs:xs.length≤maxLen):c8r N xs n=some (e2I n xs):=by
 obtain ⟨i,h1,h2⟩:=c9k hN (n:=n) hs;unfold c8r c3E;rw [h1];simp only [a0b,e6e,e59,getD_some,h2]
section
variable {fs:List D} {w:Int}
theorem d9R (h0:0≤w) (h1:w<fs.length):(decide (0≤w)&&decide (w≤(fs.length:Int)))=true:=by
 rw [decide_eq_true h0,decide_eq_true (by omega)];rfl
theorem c0q (hN:maxLen<N) (hl:fs.length≤maxLen):b4m N fs fs.length fs 0=some (a2S (a0g (d9Q fs) 0 fs)):=by
 unfold b4m;refine (a03 (.i 0:D) (S:=fun w kr=>a5p N fs fs.length fs w kr _ _) (L:=fun m w=>a9N N fs fs.length fs m w _ _) (fun m w=>rfl) (fun w l=>some (a2S (a0g (d9Q fs) w l))) hl ?_ ?_ hN).trans rfl
 ·intro kr;simp [a5p,a0g,a2S]
 ·intro w kr h0 h1 hw hi hk
  have hm:=c9l hN (xs:=fs.take w.toNat) (n:=fN (fs.getD w.toNat (.i 0))) (by simp;omega)
  simp only [a5p,decide_eq_true h1,e59,hi,a0b,hw,hk,d9R h0 h1,List.drop_zero,b9Q,a9M,a3h,a1W];rw [show (((fs.getD w.toNat (.i 0)).cell 0).toI)=fN (fs.getD w.toNat (.i 0)) from rfl,hm];unfold d9Q;generalize e2I (fN (fs.getD w.toNat (.i 0))) (fs.take w.toNat)=hh;generalize fs.getD w.toNat (.i 0)=f;rw [show ((f.cell 1).toI)=fS f from rfl,show ((f.cell 2).toI)=fT f from rfl];simp only [e6e,getD_some,e59];cases inI (fN f) 0 255<;>try rfl
  cases inI (fS f) 1 255<;>try rfl
  cases h3:inI (fT f) 0 3<;>try rfl
  have e:(bif fT f==0 then true else fT f==1)=decide (fT f≤1):=by
   unfold inI at h3;rw [Bool.eq_iff_iff];simp at h3⊢;by_cases h:fT f=0<;>simp [h]<;>omega
  rw [e];cases decide (fT f≤1)<;>cases (fS f !=1)<;>cases (fS f !=2)<;>cases (fS f !=4)<;>cases hh<;>rfl
theorem c9m (hN:maxLen<N) (g:Int) (hl:fs.length≤maxLen):c8u N g fs=some (c9P g fs):=by
 unfold c8u c3F c9P;simp only [a0b,a3h,c0q hN hl,c3U];cases inI g 0 65535<;>cases decide ((fs.length:Int)>30)<;>try rfl
 cases h:a0g (d9Q fs) 0 fs !=0<;>first|rfl|(simp only [bne_eq_false_iff_eq] at h;simp [h])
end
structure b4K (fs:List D):Prop where
 len:fs.length≤255
 size:∀f∈fs,0≤fS f∧fS f≤255
theorem a0I {e:Int→Int}:∀{l:List D} {w:Int},a0g e w l=0→ ∀i:Nat,i<l.length→e (w+i)=0
 | [],w,_,i,hi=>by simp at hi
 | x::r,w,h,i,hi=>by
  simp only [a0g] at h;cases he:e w !=0 with
  |true=>
   rw [he] at h;simp only [e59] at h;rw [h] at he;simp at he
  | false=>
   rw [he] at h;cases i with
   |zero=>simpa using he
   |succ i=>
    have:=a0I (l:=r) (w:=w+1) h i (by simpa using hi)
    rw [show w+((i+1:Nat):Int)=w+1+(i:Int) by omega]
    exact this
theorem c11 {g:Int} {fs:List D} (h:c9P g fs=0):b4K fs:=by
 unfold c9P at h;cases h1:inI g 0 65535 with
 |false=>rw [h1] at h;exact absurd (show (9:Int)=0 from h) (by decide)
 | true=>
  rw [h1] at h;cases h2:decide ((fs.length:Int)>30) with
  |true=>rw [h2] at h;exact absurd (show (3:Int)=0 from h) (by decide)
  | false=>
   rw [h2] at h;simp only [Bool.not_true,e6a] at h;refine ⟨by simp at h2;omega,fun f hf=> ?_⟩
   obtain ⟨i,hi,rfl⟩:=List.getElem_of_mem hf;have:=a0I h i hi;rw [Int.zero_add] at this;unfold d9Q at this;have hg:fs.getD ((i:Int)).toNat (.i 0)=fs[i]:=by
    rw [e6d,Int.toNat_natCast,e6j hi];rfl
   rw [hg] at this;cases h3:inI (fS fs[i]) 1 255 with
   |false=>
    rw [h3] at this;cases inI (fN fs[i]) 0 255<;>exact absurd (show (9:Int)=0 from by simpa using this) (by decide)
   |true=>unfold inI at h3;simp at h3;omega
def szL:List D→Int
 | []=>0
 |f::r=>fS f+szL r
def tmL:Int→List D→Int
 |_,[]=> -1
 |a,f::r=>bif isT f then a else tmL (a+fS f) r
theorem b0a:∀{fs:List D},(∀f∈fs,0≤fS f∧fS f≤255)→0≤szL fs∧szL fs≤255*fs.length
 | [],_=>by simp [szL]
 |f::r,h=>by
  have h1:=h f (by simp)
  have h2:=b0a (fs:=r) fun x hx=>h x (by simp [hx])
  simp only [szL,e6m];omega
theorem c0r:∀{fs:List D} {a:Int},0≤a→(∀f∈fs,0≤fS f∧fS f≤255)→(tmL a fs= -1∨a≤tmL a fs∧tmL a fs+4≤a+szL fs)
 | [],_,_,_=> .inl rfl
 | f::r,a,ha,h=>by
  have h1:=h f (by simp)
  simp only [tmL,szL];cases ht:isT f with
  |true=>
   have h2:=b0a (fs:=r) fun x hx=>h x (by simp [hx])
   have h3:fS f=4:=by unfold isT at ht;simp at ht;exact ht.2
   right;simp only [e59];omega
  |false=>
   simp only [e6a];rcases c0r (fs:=r) (a:=a+fS f) (by omega) (fun x hx=>h x (by simp [hx])) with h2|h2
   ·exact .inl h2
   ·right;omega
section
variable {fs:List D}
theorem a1u {w:Int} (h0:0≤w) (h1:w<fs.length):fs.getD w.toNat (.i 0)∈fs:=by
 rw [e6d,e6j (by omega)];exact List.getElem_mem _
theorem e2J (f:D):(bif (bif ((f.cell 0).toI==253) then ((f.cell 2).toI==0) else false) then ((f.cell 1).toI==4) else false)=isT f:=by
 unfold isT fN fT fS;cases (f.cell 0).toI==253<;>cases (f.cell 2).toI==0<;>rfl
theorem c9n (hN:maxLen<N) (h:b4K fs):c8x N fs=some (szL fs,tmL 0 fs):=by
 have hm:maxLen=9223372036854775807:=rfl;have hl:=h.len;have key:=a5P (A:=Int×Int×Int) (X:=Option (Int×Int)) (S:=fun x kr=>a9T N fs fs.length x.1 x.2.1 x.2.2 (fun a b c=>kr (a,b,c)) (fun p=>some p)) (L:=fun m x=>b2N N fs fs.length m x.1 x.2.1 x.2.2 (fun p=>some p)) (fun m x=>rfl)
  (fun x=>some (x.2.1+szL (fs.drop x.1.toNat),bif decide (x.2.2<0) then tmL x.2.1 (fs.drop x.1.toNat) else x.2.2)) (fun x=>0≤x.1∧x.1≤fs.length∧0≤x.2.1∧x.2.1≤255*x.1∧-1≤x.2.2) (fun x=>(fs.length-x.1).toNat) ?_ N (0,0,-1) ⟨by decide,by show (0:Int)≤_;omega,by decide,by decide,by decide⟩ (by simp;omega)
 ·have k2:c3H N fs fs.length 0 0 (-1)=some (szL fs,tmL 0 fs):=by
   refine Eq.trans key ?_;simp
  unfold c8x c3I;rw [k2];rfl
 ·rintro ⟨w,sz,t⟩ kr ⟨h0,h1,h2,h3,h4⟩ ih
  simp only at h0 h1 h2 h3 h4 ih⊢;unfold a9T;by_cases hw:w<fs.length
  ·have hf:=h.size _ (a1u h0 hw)
   rw [decide_eq_true hw,a0D h0 hw,a2I (.i 0) h0 hw];simp only [e59,a0b,b9W,a9S];rw [e2J];have e1:((fs.getD w.toNat (.i 0)).cell 1).toI=fS (fs.getD w.toNat (.i 0)):=rfl;rw [e1,a0u (x:=sz+_) (by omega) (by omega),a0u (x:=w+1) (by omega) (by omega)]
   rw [ih (w+1,_,_) ⟨by omega,by omega,by simp only;omega,by simp only;omega,by simp only;cases isT (fs.getD w.toNat (.i 0))<;>cases decide (t<0)<;>simp<;>omega⟩ (by simp only;omega)]
   simp only [szL,tmL];cases ht:isT (fs.getD w.toNat (.i 0)) with
   |true=>
    by_cases hneg:t<0
    ·simp only [decide_eq_true hneg,e59,decide_eq_false (show¬sz<0 by omega),e6a,e55,e6q,and_true];omega
    ·simp only [decide_eq_false hneg,e59,e6a,e55,e6q,and_true];omega
   |false=>
    simp only [e6a,e55,e6q];refine ⟨by omega,?_⟩
    by_cases hneg:t<0<;>simp [hneg]
  ·have:w=fs.length:=by omega
   subst this;rw [decide_eq_false hw,a2f (by omega)]
   simp only [e6a,szL,tmL,Int.add_zero,e55,e6q,true_and];by_cases ht:t<0
   ·rw [decide_eq_true ht];simp only [e59];omega
   ·rw [decide_eq_false ht];rfl
end
end Go.Proofs.YtcdhfpkfmekabaaGreatDoor.Z
namespace Go.Proofs.YtcdhfpkfmekabaaGreatDoor.Z
open Go Go.AM
variable {N:Nat}
theorem d9S {n b:Nat} (hn:n<1099511627776) (hb:b<256):(c0H .or .i64 (IntKind.wrap .i64 ((n:Int)*2^8)) (IntKind.wrap .i64 (b:Int))).getD 0=256*(n:Int)+b:=by
 have e1:IntKind.wrap .i64 ((n:Int)*2^8)=((n*256:Nat):Int):=by rw [a0u (by omega) (by omega)];omega
 have e2:IntKind.wrap .i64 (b:Int)=(b:Int):=a0u (by omega) (by omega)
 rw [e1,e2];have h64:IntKind.bits .i64=64:=rfl;have o:(BitVec.ofInt 64 ((n*256:Nat):Int)|||BitVec.ofInt 64 (b:Int)).toNat=n*256+b:=by
  rw [BitVec.toNat_or,BitVec.ofInt_natCast,BitVec.ofInt_natCast,BitVec.toNat_ofNat,BitVec.toNat_ofNat,Nat.mod_eq_of_lt (by omega),Nat.mod_eq_of_lt (by omega)]
  have:=Nat.shiftLeft_add_eq_or_of_lt (b:=b) (i:=8) (by omega) n
  rw [Nat.shiftLeft_eq] at this;exact this.symm
 show IntKind.wrap .i64 (((BitVec.ofInt 64 ((n*256:Nat):Int)|||BitVec.ofInt 64 (b:Int)).toNat:Nat):Int)=_;rw [o,a0u (by omega) (by omega)]
 omega
def a0G (xs:List D):Prop:=∀x∈xs,0≤x.toI∧x.toI≤255
def pkB (len:Int) (big:Bool) (i:Int):Int:=bif big then i else len-1-i
def e0B (xs:List D) (big:Bool):Nat→Int→Int→Int
 |0,_,n=>n
 |k+1,i,n=>e0B xs big k (i+1) (256*n+(xs.getD (pkB xs.length big i).toNat (.i 0)).toI)
def c4o (xs:List D) (big:Bool):Int:=e0B xs big xs.length 0 0
theorem c4p {n b i:Int} (h0:0≤i) (h1:0≤n) (h2:n<256^i.toNat) (h3:0≤b) (h4:b≤255):0≤256*n+b∧256*n+b<256^(i+1).toNat:=by
 have e:(i+1).toNat=i.toNat+1:=by omega
 rw [e,Int.pow_succ];omega
theorem d4U {n i:Int} (h0:0≤i) (h1:i≤4) (h2:n<256^i.toNat):n<4294967296:=by
 have:i=0∨i=1∨i=2∨i=3∨i=4:=by omega
 rcases this with rfl|rfl|rfl|rfl|rfl<;>simp at h2<;>omega
theorem e4R {xs:List D} (h:a0G xs) {i:Int} (h0:0≤i) (h1:i<xs.length):0≤(xs.getD i.toNat (.i 0)).toI∧(xs.getD i.toNat (.i 0)).toI≤255:=h _ (a1u h0 h1)
section
variable {xs:List D}
theorem d4V {big:Bool} {i:Int} (h0:0≤i) (h1:i<xs.length):0≤pkB xs.length big i∧pkB xs.length big i<xs.length:=by
 unfold pkB;cases big<;>simp<;>omega
theorem b5V (hb:a0G xs) (big:Bool):∀(k:Nat) (i n:Int),0≤i→i+k=xs.length→0≤n→n<256^i.toNat→0≤e0B xs big k i n∧e0B xs big k i n<256^xs.length
 |0,i,n,h0,h1,h2,h3=>by
  have:i.toNat=xs.length:=by omega
  rw [this] at h3;exact ⟨h2,h3⟩
 |k+1,i,n,h0,h1,h2,h3=>by
  obtain ⟨p0,p1⟩:=d4V (xs:=xs) (big:=big) h0 (by omega)
  obtain ⟨b0,b1⟩:=e4R hb p0 p1;obtain ⟨q0,q1⟩:=c4p h0 h2 h3 b0 b1;exact b5V hb big k (i+1) _ (by omega) (by omega) q0 q1
theorem c5R (hb:a0G xs) (big:Bool) (hl:xs.length≤4):0≤c4o xs big∧c4o xs big<4294967296:=by
 obtain ⟨h1,h2⟩:=b5V hb big xs.length 0 0 (by omega) (by omega) (by omega) (by simp)
 refine ⟨h1,?_⟩;have:=d4U (i:=(xs.length:Int)) (by omega) (by omega) (n:=c4o xs big) (by unfold c4o;simpa using h2)
 exact this
theorem c9o (hN:maxLen<N) (hb:a0G xs) (big:Bool) (hl:xs.length≤4):c8z N xs big=some (c4o xs big):=by
 have hm:maxLen=9223372036854775807:=rfl;have key:=a5P (A:=Int×Int) (X:=Option Int) (S:=fun x kr=>a9V N xs big xs.length x.1 x.2 (fun a b=>kr (a,b)) (fun p=>some p)) (L:=fun m x=>b2O N xs big xs.length m x.1 x.2 (fun p=>some p)) (fun m x=>rfl)
  (fun x=>some (e0B xs big (xs.length-x.2).toNat x.2 x.1)) (fun x=>0≤x.2∧x.2≤xs.length∧0≤x.1∧x.1<256^x.2.toNat) (fun x=>(xs.length-x.2).toNat) ?_ N (0,0) ⟨by decide,by show (0:Int)≤_;omega,by decide,by decide⟩ (by simp;omega)
 ·have k2:c3J N xs big xs.length 0 0=some (c4o xs big):=by
   refine Eq.trans key ?_;simp [c4o]
  unfold c8z c3K;rw [k2];rfl
 ·rintro ⟨n,i⟩ kr ⟨h0,h1,h2,h3⟩ ih
  simp only at h0 h1 h2 h3 ih⊢;unfold a9V;by_cases hw:i<xs.length
  ·obtain ⟨p0,p1⟩:=d4V (xs:=xs) (big:=big) h0 hw
   obtain ⟨b0,b1⟩:=e4R hb p0 p1;obtain ⟨q0,q1⟩:=c4p h0 h2 h3 b0 b1;have hn:=d4U h0 (by omega) h3
   have hv:b4n N i (IntKind.wrap .i64 ((IntKind.wrap .i64 ((xs.length:Int)-1))-i)) big=pkB xs.length big i:=by
    rw [a0u (x:=(xs.length:Int)-1) (by omega) (by omega),a0u (x:=(xs.length:Int)-1-i) (by omega) (by omega)]
    unfold b4n a9U pkB;cases big<;>rfl
   have ho:=d9S (n:=n.toNat) (b:=(xs.getD (pkB xs.length big i).toNat (.i 0)).toI.toNat) (by omega) (by omega)
   rw [Int.toNat_of_nonneg h2,Int.toNat_of_nonneg b0] at ho;rw [decide_eq_true hw];simp only [e59,a0b,hv,a0D p0 p1,ho,a0u (x:=i+1) (by omega) (by omega)]
   rw [ih (_,i+1) ⟨by simp only;omega,by simp only;omega,q0,q1⟩ (by simp only;omega)]
   have e:(xs.length-i).toNat=(xs.length-(i+1)).toNat+1:=by omega
   rw [e];rfl
  ·have:i=xs.length:=by omega
   subst this;rw [decide_eq_false hw];simp [e0B]
end
theorem d3v:b9M N 4 false=some 4294967295:=by
 unfold b9M c3A;have e1:IntKind.wrap .i64 (8*4)=32:=by decide
 rw [e1];have e2:IntKind.wrap .i64 (1*2^(min (32:Int).toNat 64))=4294967296:=by decide
 have e3:IntKind.wrap .i64 ((4294967296:Int)-1)=4294967295:=by decide
 simp only [e6a,a0b,e2,e3];rfl
structure Slots (p s:D):Prop where
 known:∀j:Nat,j<16→(p.cell (0+j*6)).toB=(s.cell (0+j*1)).toB
 defs:∀j:Nat,j<16→(p.cell (0+j*6)).toB=true→b4K (p.cell (3+j*6)).items∧(p.cell (1+j*6)).toB=(s.cell (16+j*3)).toB∧(p.cell (2+j*6)).toI=(s.cell (17+j*3)).toI∧
  (p.cell (3+j*6)).items=(s.cell (18+j*3)).items∧(p.cell (4+j*6)).toI=szL (p.cell (3+j*6)).items∧(p.cell (5+j*6)).toI=tmL 0 (p.cell (3+j*6)).items
structure Sim (p s:D) (k:Int):Prop extends Slots p s where
 last:(p.cell 96).toI=(s.cell 64).toI
 lo: -1≤(p.cell 96).toI
 hi:(p.cell 96).toI≤4294967295+32*k
structure e4S (ds data:List D):Prop where
 d:ds.length≤maxLen
 b:data.length≤maxLen
 f:∀x∈ds,(x.cell 2).items.length≤maxLen
 y:a0G data
def c6a (kind slot off:Int) (ds data:List D) (known:Bool) (size time last:Int):Int:=
 bif !inI kind 1 3 then 7 else bif !inI slot 0 (bif kind==3 then 3 else 15)|| !inI off 0 (bif kind==3 then 31 else 0) then 9 else
 bif kind==1 then (bif ((ds.length:Int) !=1)||decide ((data.length:Int)>0) then 2 else c9P ((ds.getD 0 (.i 0)).cell 1).toI ((ds.getD 0 (.i 0)).cell 2).items) else
 bif (ds.length:Int) !=0 then 2 else bif !known||((kind==3)&&(decide (time<0)||decide (last<0))) then 11 else bif (data.length:Int) !=(bif kind==3 then size-4 else size) then 2 else 0
section
variable {kind slot off:Int} {ds data:List D} {p s:D} {k:Int}
theorem b79 (h:inI slot 0 (bif kind==3 then 3 else 15)=true):inB slot 16=true∧slot.toNat<16:=by
 unfold inI at h;cases hk:kind==3<;>rw [hk] at h<;>simp at h<;>exact ⟨a0D (by omega) (by omega),by omega⟩
theorem c9p (hN:maxLen<N) (hs:Sim p s k) (he:e4S ds data):c8v N kind slot off ds data p=some (c6a kind slot off ds data (p.cell (0+slot.toNat*6)).toB (p.cell (4+slot.toNat*6)).toI (p.cell (5+slot.toNat*6)).toI (p.cell 96).toI):=by
 have hm:maxLen=9223372036854775807:=rfl;unfold c8v c3G c6a b9S a9O b9T a9P b9U a9Q b9V a9R;simp only [a0b,a3h];cases h1:inI kind 1 3 with
 |false=>rfl
 |true=>
 have e14:(bif kind==3 then ((3:Int),(31:Int)) else (15,0))=((bif kind==3 then 3 else 15),(bif kind==3 then 31 else 0)):=by cases kind==3<;>rfl
 rw [e14];simp only [Bool.not_true,e6a];cases h2:inI slot 0 (bif kind==3 then 3 else 15) with
 |false=>rfl
 |true=>
 obtain ⟨i1,i2⟩:=b79 h2;cases h3:inI off 0 (bif kind==3 then 31 else 0) with
 |false=>rfl
 |true=>
 simp only [Bool.not_true,e6a,Bool.or_self];by_cases hk:kind=1
 ·subst hk
  simp only [beq_self_eq_true,e59];cases h4:((ds.length:Int) !=1) with
  |true=>rfl
  | false=>
   have hl:ds.length=1:=by simp at h4;omega
   cases decide ((data.length:Int)>0) with
   |true=>rfl
   |false=>
    have hmem:ds.getD 0 (.i 0)∈ds:=a1u (w:=0) (by omega) (by omega)
    simp only [e6a,Bool.or_self];rw [a0D (by omega) (by omega),c9m hN _ (he.f _ hmem)]
    rfl
 ·have hk1:(kind==1)=false:=by simpa using hk
  rw [hk1];simp only [e6a];cases h4:((ds.length:Int) !=0) with
  |true=>rfl
  | false=>
   simp only [e6a,i1,e59];cases hkn:(p.cell (0+slot.toNat*6)).toB with
   |false=>rfl
   | true=>
    obtain ⟨d1,_,_,_,d5,d6⟩:=hs.defs _ i2 hkn;have hb:=b0a d1.size;have hl:=d1.len;cases hk3:kind==3 with
    |false=>
     simp only [Bool.not_true,e6a,Bool.false_and,Bool.or_self];cases ((data.length:Int) !=(p.cell (4+slot.toNat*6)).toI)<;>rfl
    | true=>
     simp only [Bool.not_true,e6a,e59,Bool.true_and,Bool.false_or];cases decide ((p.cell (5+slot.toNat*6)).toI<0) with
     |true=>rfl
     | false=>
      cases decide ((p.cell 96).toI<0) with
      |true=>rfl
      |false=>
       simp only [e6a,Bool.or_self];rw [a0u (by omega) (by omega)]
       cases ((data.length:Int) !=(p.cell (4+slot.toNat*6)).toI-4)<;>rfl
end
end Go.Proofs.YtcdhfpkfmekabaaGreatDoor.Z
namespace Go.Proofs.YtcdhfpkfmekabaaGreatDoor.Z
open Go Go.AM
variable {N:Nat}
structure e4T (kind slot off:Int) (ds data:List D) (known:Bool) (size time last:Int):Prop where
 k:1≤kind∧kind≤3
 s:inB slot 16=true∧slot.toNat<16
 d:kind=1→ds.length=1∧c9P ((ds.getD 0 (.i 0)).cell 1).toI ((ds.getD 0 (.i 0)).cell 2).items=0
 n:kind≠1→known=true∧ds.length=0
 h:kind=3→0≤time∧0≤last∧0≤off∧off≤31∧(data.length:Int)=size-4
 t:kind=2→(data.length:Int)=size
section
variable {kind slot off:Int} {ds data:List D} {p s:D} {k:Int}
theorem b8a {known:Bool} {size time last:Int} (h:c6a kind slot off ds data known size time last=0):e4T kind slot off ds data known size time last:=by
 unfold c6a at h;cases h1:inI kind 1 3 with
 |false=>rw [h1] at h;exact absurd (show (7:Int)=0 from h) (by decide)
 |true=>
 cases h2:inI slot 0 (bif kind==3 then 3 else 15) with
 |false=>rw [h1,h2] at h;exact absurd (show (9:Int)=0 from h) (by decide)
 |true=>
 cases h3:inI off 0 (bif kind==3 then 31 else 0) with
 |false=>rw [h1,h2,h3] at h;exact absurd (show (9:Int)=0 from h) (by decide)
 |true=>
 rw [h1,h2,h3] at h;simp only [Bool.not_true,e6a,Bool.or_self] at h;have hkr:1≤kind∧kind≤3:=by unfold inI at h1;simpa using h1
 by_cases hk:kind=1
 ·subst hk
  simp only [beq_self_eq_true,e59] at h;cases h4:((ds.length:Int) !=1)||decide ((data.length:Int)>0) with
  |true=>rw [h4] at h;exact absurd (show (2:Int)=0 from h) (by decide)
  |false=>
   rw [h4] at h;simp only [Bool.or_eq_false_iff,bne_eq_false_iff_eq] at h4;exact ⟨hkr,b79 h2,fun _=>⟨by omega,h⟩,fun hn=>absurd rfl hn,fun h=>by omega,fun h=>by omega⟩
 ·have hk1:(kind==1)=false:=by simpa using hk
  rw [hk1] at h;simp only [e6a] at h;cases h4:((ds.length:Int) !=0) with
  |true=>rw [h4] at h;exact absurd (show (2:Int)=0 from h) (by decide)
  |false=>
  rw [h4] at h;simp only [e6a] at h;cases h5: !known||((kind==3)&&(decide (time<0)||decide (last<0))) with
  |true=>rw [h5] at h;exact absurd (show (11:Int)=0 from h) (by decide)
  |false=>
  rw [h5] at h;simp only [e6a] at h;cases h6:((data.length:Int) !=(bif kind==3 then size-4 else size)) with
  |true=>rw [h6] at h;exact absurd (show (2:Int)=0 from h) (by decide)
  |false=>
  simp only [bne_eq_false_iff_eq] at h4 h6;simp only [Bool.or_eq_false_iff,Bool.not_eq_false'] at h5;refine ⟨hkr,b79 h2,fun h=>absurd h hk,fun _=>⟨h5.1,by omega⟩,fun h3'=> ?_,fun h2'=> ?_⟩
  ·subst h3'
   simp at h3 h5 h6;unfold inI at h3;simp at h3;omega
  ·subst h2'
   simpa using h6
theorem e5s {a:Nat} {x0 x1 x2 x3 x4 x5:D} (j:Nat):let q:=(((((p.put (0+a*6) x0).put (1+a*6) x1).put (2+a*6) x2).put (3+a*6) x3).put (4+a*6) x4).put (5+a*6) x5
  q.cell (0+j*6)=(if j=a then x0 else p.cell (0+j*6))∧q.cell (1+j*6)=(if j=a then x1 else p.cell (1+j*6))∧q.cell (2+j*6)=(if j=a then x2 else p.cell (2+j*6))∧
  q.cell (3+j*6)=(if j=a then x3 else p.cell (3+j*6))∧q.cell (4+j*6)=(if j=a then x4 else p.cell (4+j*6))∧q.cell (5+j*6)=(if j=a then x5 else p.cell (5+j*6)):=by
 simp only [a3R];by_cases h:j=a
 ·subst h
  simp
 ·simp only [if_neg h]
  refine ⟨?_,?_,?_,?_,?_,?_⟩<;>rw [if_neg (by omega),if_neg (by omega),if_neg (by omega),if_neg (by omega),if_neg (by omega),if_neg (by omega)]
theorem c9q {a:Nat} {x0 x1 x2 x3 x4 x5:D} (ha:a<16):((((((p.put (0+a*6) x0).put (1+a*6) x1).put (2+a*6) x2).put (3+a*6) x3).put (4+a*6) x4).put (5+a*6) x5).cell 96=p.cell 96:=by
 simp only [a3R];rw [if_neg (by omega),if_neg (by omega),if_neg (by omega),if_neg (by omega),if_neg (by omega),if_neg (by omega)]
theorem e4U {a:Nat} {x0 x1 x2 x3:D} (ha:a<16) (j:Nat) (hj:j<16):let q:=(((s.put (0+a*1) x0).put (16+a*3) x1).put (17+a*3) x2).put (18+a*3) x3
  q.cell (0+j*1)=(if j=a then x0 else s.cell (0+j*1))∧q.cell (16+j*3)=(if j=a then x1 else s.cell (16+j*3))∧q.cell (17+j*3)=(if j=a then x2 else s.cell (17+j*3))∧
  q.cell (18+j*3)=(if j=a then x3 else s.cell (18+j*3))∧q.cell 64=s.cell 64:=by
 simp only [a3R];refine ⟨?_,?_,?_,?_,?_⟩
 ·rw [if_neg (by omega),if_neg (by omega),if_neg (by omega)]
  by_cases h:j=a
  ·rw [if_pos (by omega),if_pos h]
  ·rw [if_neg (by omega),if_neg h]
 ·rw [if_neg (by omega),if_neg (by omega)]
  by_cases h:j=a
  ·rw [if_pos (by omega),if_pos h]
  ·rw [if_neg (by omega),if_neg (by omega),if_neg h]
 ·rw [if_neg (by omega)]
  by_cases h:j=a
  ·rw [if_pos (by omega),if_pos h]
  ·rw [if_neg (by omega),if_neg (by omega),if_neg (by omega),if_neg h]
 ·by_cases h:j=a
  ·rw [if_pos (by omega),if_pos h]
  ·rw [if_neg (by omega),if_neg (by omega),if_neg (by omega),if_neg (by omega),if_neg h]
 ·rw [if_neg (by omega),if_neg (by omega),if_neg (by omega),if_neg (by omega)]
theorem Slots.last (h:Slots p s) {x:D}:Slots p (s.put 64 x):=by
 have c2:∀j:Nat,j<16→(s.put 64 x).cell (0+j*1)=s.cell (0+j*1)∧(s.put 64 x).cell (16+j*3)=s.cell (16+j*3)∧(s.put 64 x).cell (17+j*3)=s.cell (17+j*3)∧(s.put 64 x).cell (18+j*3)=s.cell (18+j*3):=fun j hj=>by
  refine ⟨?_,?_,?_,?_⟩<;>rw [a3R,if_neg (by omega)]
 refine ⟨fun j hj=> ?_,fun j hj hk=> ?_⟩
 ·rw [(c2 j hj).1];exact h.known j hj
 ·rw [(c2 j hj).2.1,(c2 j hj).2.2.1,(c2 j hj).2.2.2]
  exact h.defs j hj hk
theorem Sim.more (h:Sim p s k):Sim p s (k+1):=⟨h.toSlots,h.last,h.lo,by have:=h.hi;omega⟩
theorem d3w {t:Int} (h0:0≤t) (h1:t+4≤data.length) (hl:data.length≤maxLen) (hb:a0G data):IntKind.wrap .i64 (t+4)=t+4∧((data.take (t+4).toNat).drop t.toNat).length=4∧a0G ((data.take (t+4).toNat).drop t.toNat):=by
 have hm:maxLen=9223372036854775807:=rfl;exact ⟨a0u (by omega) (by omega),by simp;omega,fun x hx=>hb x (List.mem_of_mem_take (List.mem_of_mem_drop hx))⟩
end
end Go.Proofs.YtcdhfpkfmekabaaGreatDoor.Z
namespace Go.Proofs.YtcdhfpkfmekabaaGreatDoor.Z
open Go Go.AM
variable {N:Nat}
def EntD (x:D):Prop:=e4S (x.cell 3).items (x.cell 4).items
def c9r:D:= .a (List.replicate 16 (.b false)++(List.replicate 16 [D.b false,D.i 0,D.l true []]).flatten++[.i (-1)])
section
variable {es:List D}
end
end Go.Proofs.YtcdhfpkfmekabaaGreatDoor.Z
namespace Go.Proofs.YtcdhfpkfmekabaaGreatDoor.Z
open Go Go.AM
variable {N:Nat}
section
variable {es:List D}
end
end Go.Proofs.YtcdhfpkfmekabaaGreatDoor.Z
namespace Go.Proofs.YtcdhfpkfmekabaaGreatDoor.Z
open Go Go.AM
variable {N:Nat}
def c5S:Int→List D→Int
 |a,[]=>a
 |a,x::r=>c5S ((31*a+x.toI)%4294967296) r
section
variable {bs:List D}
theorem b5W:∀{bs:List D} {a:Int},0≤a→a<4294967296→0≤c5S a bs∧c5S a bs<4294967296
 | [],_,h0,h1=>⟨h0,h1⟩
 |x::r,a,h0,h1=>b5W (bs:=r) (by omega) (by omega)
theorem d3x (hN:maxLen<N) (hb:a0G bs) (hl:bs.length≤maxLen):d9e N bs=some (c5S 1 bs):=by
 have hm:maxLen=9223372036854775807:=rfl;have key:=a5P (A:=Int×Int) (X:=Option Int) (S:=fun x kr=>b4p N bs bs.length x.1 x.2 (fun a b=>kr (a,b)) (fun p=>some p)) (L:=fun m x=>b7E N bs bs.length m x.1 x.2 (fun p=>some p)) (fun m x=>rfl)
  (fun x=>some (c5S x.1 (bs.drop x.2.toNat))) (fun x=>0≤x.2∧x.2≤bs.length∧0≤x.1∧x.1<4294967296) (fun x=>(bs.length-x.2).toNat) ?_ N (1,0) ⟨by decide,by show (0:Int)≤_;omega,by decide,by decide⟩ (by simp;omega)
 ·have k2:c8E N bs bs.length 1 0=some (c5S 1 bs):=by
   refine Eq.trans key ?_;simp
  have hs:=b5W (bs:=bs) (a:=1) (by decide) (by decide)
  unfold d9e d2I;simp only [a0b];rw [k2];simp only [e6e,e59,getD_some,a0u (x:=c5S 1 bs) (by omega) (by omega)]
 ·rintro ⟨a,i⟩ kr ⟨h0,h1,h2,h3⟩ ih
  simp only at h0 h1 h2 h3 ih⊢;unfold b4p;by_cases hw:i<bs.length
  ·have hx:=e4R hb h0 hw
   rw [decide_eq_true hw,a0D h0 hw,a2I (.i 0) h0 hw];have e:IntKind.wrap .u32 ((IntKind.wrap .u32 (31*a))+(IntKind.wrap .u32 (bs.getD i.toNat (.i 0)).toI))=(31*a+(bs.getD i.toNat (.i 0)).toI)%4294967296:=by
    simp only [IntKind.wrap_u32];omega
   simp only [e59,a0b,e,a0u (x:=i+1) (by omega) (by omega),c5S]
   exact ih (_,i+1) ⟨by simp only;omega,by simp only;omega,by simp only;omega,by simp only;omega⟩ (by simp only;omega)
  ·have:i=bs.length:=by omega
   subst this;rw [decide_eq_false hw,a2f (by omega)]
   rfl
theorem a0G.drop (hb:a0G bs) (a:Nat):a0G (bs.drop a):=fun x hx=>hb x (List.mem_of_mem_drop hx)
def by_ (bs:List D) (i:Int):Int:=(bs.getD i.toNat (.i 0)).toI
end
end Go.Proofs.YtcdhfpkfmekabaaGreatDoor.Z
namespace Go.Proofs.YtcdhfpkfmekabaaGreatDoor.Z
open Go Go.AM
variable {N:Nat}
section
variable {bs:List D}
end
end Go.Proofs.YtcdhfpkfmekabaaGreatDoor.Z
namespace Go.Proofs.YtcdhfpkfmekabaaGreatDoor.Z
open Go Go.AM
variable {N:Nat}
section
variable {bs:List D} {p s:D}
end
end Go.Proofs.YtcdhfpkfmekabaaGreatDoor.Z
namespace Go.Proofs.YtcdhfpkfmekabaaGreatDoor.Z
open Go Go.AM
variable {N:Nat}
section
variable {bs:List D} {p s:D}
end
end Go.Proofs.YtcdhfpkfmekabaaGreatDoor.Z
namespace Go.Proofs.YtcdhfpkfmekabaaGreatDoor.Z
open Go Go.AM
variable {N:Nat}
section
variable {bs:List D} {p s:D}
end
end Go.Proofs.YtcdhfpkfmekabaaGreatDoor.Z
namespace Go.Proofs.YtcdhfpkfmekabaaGreatDoor.Z
open Go Go.AM
variable {N:Nat}
section
variable {b:List D}
structure Lst (l:List D):Prop where
 e:∀x∈l,EntD x
 n:l.length≤10000000
theorem Lst.nil:Lst []:=⟨by simp,by simp⟩
end
end Go.Proofs.YtcdhfpkfmekabaaGreatDoor.Z
namespace Go.Proofs.YtcdhfpkfmekabaaGreatDoor.Z
open Go Go.AM
variable {N:Nat}
section
variable {b:List D}
end
end Go.Proofs.YtcdhfpkfmekabaaGreatDoor.Z
namespace Go.Proofs.YtcdhfpkfmekabaaGreatDoor.Z
open Go Go.AM
variable {N:Nat}
section
variable {xs:List D}
end
end Go.Proofs.YtcdhfpkfmekabaaGreatDoor.Z
namespace Go.Proofs.YtcdhfpkfmekabaaGreatDoor.Z
open Go Go.AM
variable {N:Nat}
abbrev kX (x:D):Int:=(x.cell 0).toI
abbrev sX (x:D):Int:=(x.cell 1).toI
abbrev oX (x:D):Int:=(x.cell 2).toI
abbrev dX (x:D):List D:=(x.cell 3).items
abbrev bX (x:D):List D:=(x.cell 4).items
structure Ab where
 kn:Nat→Bool
 bg:Nat→Bool
 gl:Nat→Int
 fs:Nat→List D
 last:Int
def Ab.start:Ab:=⟨fun _=>false,fun _=>false,fun _=>0,fun _=>[],-1⟩
def upA {α:Type} (f:Nat→α) (j:Nat) (x:α):Nat→α:=fun i=>if i=j then x else f i
def c9s (a:Ab) (kind slot off:Int) (data:List D):Int:=
 bif kind==1 then-1 else bif kind==3 then a.last+(off-a.last%32+32)%32 else
 bif decide (tmL 0 (a.fs slot.toNat)<0) then-1 else
 bif c4o ((data.take (tmL 0 (a.fs slot.toNat)+4).toNat).drop (tmL 0 (a.fs slot.toNat)).toNat) (a.bg slot.toNat)==4294967295 then-1 else c4o ((data.take (tmL 0 (a.fs slot.toNat)+4).toNat).drop (tmL 0 (a.fs slot.toNat)).toNat) (a.bg slot.toNat)
def c5T (a:Ab) (kind slot off:Int) (ds data:List D):Ab:=
 bif kind==1 then {a with kn:=upA a.kn slot.toNat true,bg:=upA a.bg slot.toNat ((ds.getD 0 (.i 0)).cell 0).toB,gl:=upA a.gl slot.toNat ((ds.getD 0 (.i 0)).cell 1).toI,fs:=upA a.fs slot.toNat ((ds.getD 0 (.i 0)).cell 2).items} else
 {a with last:=bif decide (c9s a kind slot off data≥0) then c9s a kind slot off data else a.last}
abbrev c5U (a:Ab) (x:D):Int:=c9s a (kX x) (sX x) (oX x) (bX x)
abbrev a6T (a:Ab) (x:D):Ab:=c5T a (kX x) (sX x) (oX x) (dX x) (bX x)
def d9T (a:Ab) (kind slot off:Int) (ds data:List D):Int:=c6a kind slot off ds data (a.kn slot.toNat) (szL (a.fs slot.toNat)) (tmL 0 (a.fs slot.toNat)) a.last
abbrev c4q (a:Ab) (x:D):Int:=d9T a (kX x) (sX x) (oX x) (dX x) (bX x)
structure SlP (p:D) (a:Ab):Prop where
 kn:∀j:Nat,j<16→(p.cell (0+j*6)).toB=a.kn j
 df:∀j:Nat,j<16→a.kn j=true→b4K (a.fs j)∧(p.cell (1+j*6)).toB=a.bg j∧(p.cell (2+j*6)).toI=a.gl j∧(p.cell (3+j*6)).items=a.fs j∧(p.cell (4+j*6)).toI=szL (a.fs j)∧(p.cell (5+j*6)).toI=tmL 0 (a.fs j)
structure SlS (s:D) (a:Ab):Prop where
 kn:∀j:Nat,j<16→(s.cell (0+j*1)).toB=a.kn j
 df:∀j:Nat,j<16→a.kn j=true→(s.cell (16+j*3)).toB=a.bg j∧(s.cell (17+j*3)).toI=a.gl j∧(s.cell (18+j*3)).items=a.fs j
structure Wk (p s:D) (a:Ab) (k:Int):Prop where
 pp:SlP p a
 ss:SlS s a
 lp:(p.cell 96).toI=a.last
 ls:(s.cell 64).toI=a.last
 lo: -1≤a.last
 hi:a.last≤4294967295+32*k
theorem d3y {p s:D} {a:Ab} (hp:SlP p a) (hs:SlS s a):Slots p s:=
 ⟨fun j hj=>by rw [hp.kn j hj,hs.kn j hj],fun j hj hk=>by
  rw [hp.kn j hj] at hk;obtain ⟨p1,p2,p3,p4,p5,p6⟩:=hp.df j hj hk;obtain ⟨s1,s2,s3⟩:=hs.df j hj hk;rw [p2,p3,p4,p5,p6,s1,s2,s3];exact ⟨p1,rfl,rfl,rfl,rfl,rfl⟩⟩
theorem Wk.sim {p s:D} {a:Ab} {k:Int} (h:Wk p s a k):Sim p s k:=⟨d3y h.pp h.ss,by rw [h.lp,h.ls],by rw [h.lp];exact h.lo,by rw [h.lp];exact h.hi⟩
theorem c5V {kind slot off:Int} {ds data:List D} {size time size' time' last:Int}:c6a kind slot off ds data false size time last=c6a kind slot off ds data false size' time' last:=by
 unfold c6a;rfl
theorem e2K {p:D} {a:Ab} (hp:SlP p a) (lp:(p.cell 96).toI=a.last) {kind slot off:Int} {ds data:List D}:c6a kind slot off ds data (p.cell (0+slot.toNat*6)).toB (p.cell (4+slot.toNat*6)).toI (p.cell (5+slot.toNat*6)).toI (p.cell 96).toI=d9T a kind slot off ds data:=by
 unfold d9T;rw [lp];by_cases h1:inI slot 0 (bif kind==3 then 3 else 15)=true
 ·obtain ⟨_,h2⟩:=b79 h1
  rw [hp.kn _ h2];cases hk:a.kn slot.toNat with
  |false=>exact c5V
  |true=>
   obtain ⟨_,_,_,_,p5,p6⟩:=hp.df _ h2 hk;rw [p5,p6]
 ·have h1:inI slot 0 (bif kind==3 then 3 else 15)=false:=by simpa using h1
  unfold c6a;rw [h1];rfl
section
variable {kind slot off:Int} {ds data:List D} {p s:D} {a:Ab} {k:Int}
theorem d9U (hp:SlP p a) {j:Nat} (i2:j<16) {big:Bool} {g:Int} {nl:Bool} {fs:List D} (hf:b4K fs) {last:Int}:
  SlP ((((((p.put (0+j*6) (.b true)).put (1+j*6) (.b big)).put (2+j*6) (.i g)).put (3+j*6) (.l nl fs)).put (4+j*6) (.i (szL fs))).put (5+j*6) (.i (tmL 0 fs))) {kn:=upA a.kn j true,bg:=upA a.bg j big,gl:=upA a.gl j g,fs:=upA a.fs j fs,last:=last}:=by
 refine ⟨fun i hi=> ?_,fun i hi hkn=> ?_⟩
 ·rw [(e5s i).1]
  unfold upA;by_cases h:i=j
  ·simp only [if_pos h];rfl
  ·simp only [if_neg h];exact hp.kn i hi
 ·obtain ⟨a0,a1,a2,a3,a4,a5⟩:=e5s (p:=p) (a:=j) (x0:= .b true) (x1:= .b big) (x2:= .i g) (x3:= .l nl fs) (x4:= .i (szL fs)) (x5:= .i (tmL 0 fs)) i
  rw [a1,a2,a3,a4,a5];unfold upA at hkn⊢;by_cases h:i=j
  ·simp only [if_pos h]
   refine ⟨hf,?_,?_,?_,?_,?_⟩<;>first|trivial|rfl
  ·simp only [if_neg h] at hkn⊢
   exact hp.df i hi hkn
theorem d9V (hs:SlS s a) {j:Nat} (i2:j<16) {big:Bool} {g:Int} {nl:Bool} {fs:List D} {last:Int}:
  SlS ((((s.put (0+j*1) (.b true)).put (16+j*3) (.b big)).put (17+j*3) (.i g)).put (18+j*3) (.l nl fs)) {kn:=upA a.kn j true,bg:=upA a.bg j big,gl:=upA a.gl j g,fs:=upA a.fs j fs,last:=last}:=by
 refine ⟨fun i hi=> ?_,fun i hi hkn=> ?_⟩
 ·rw [(e4U i2 i hi).1]
  unfold upA;by_cases h:i=j
  ·simp only [if_pos h];rfl
  ·simp only [if_neg h];exact hs.kn i hi
 ·obtain ⟨b0,b1,b2,b3,_⟩:=e4U (s:=s) (x0:= .b true) (x1:= .b big) (x2:= .i g) (x3:= .l nl fs) i2 i hi
  rw [b1,b2,b3];unfold upA at hkn⊢;by_cases h:i=j
  ·simp only [if_pos h]
   refine ⟨?_,?_,?_⟩<;>first|trivial|rfl
  ·simp only [if_neg h] at hkn⊢
   exact hs.df i hi hkn
theorem d3z (hp:SlP p a) {x:D} {l:Int}:SlP (p.put 96 x) {a with last:=l}:=by
 have c1:∀c j:Nat,c<6→j<16→(p.put 96 x).cell (c+j*6)=p.cell (c+j*6):=fun c j hc hj=>by rw [a3R,if_neg (by omega)]
 refine ⟨fun j hj=> ?_,fun j hj hk=> ?_⟩
 ·rw [c1 0 j (by omega) hj];exact hp.kn j hj
 ·rw [c1 1 j (by omega) hj,c1 2 j (by omega) hj,c1 3 j (by omega) hj,c1 4 j (by omega) hj,c1 5 j (by omega) hj]
  exact hp.df j hj hk
theorem d3A (hs:SlS s a) {x:D} {l:Int}:SlS (s.put 64 x) {a with last:=l}:=by
 have c2:∀j:Nat,j<16→(s.put 64 x).cell (0+j*1)=s.cell (0+j*1)∧(s.put 64 x).cell (16+j*3)=s.cell (16+j*3)∧(s.put 64 x).cell (17+j*3)=s.cell (17+j*3)∧(s.put 64 x).cell (18+j*3)=s.cell (18+j*3):=fun j hj=>by
  refine ⟨?_,?_,?_,?_⟩<;>rw [a3R,if_neg (by omega)]
 refine ⟨fun j hj=> ?_,fun j hj hk=> ?_⟩
 ·rw [(c2 j hj).1];exact hs.kn j hj
 ·rw [(c2 j hj).2.1,(c2 j hj).2.2.1,(c2 j hj).2.2.2]
  exact hs.df j hj hk
theorem Wk.put (h:Wk p s a k) {t:Int} (h0:0≤t) (h1:t≤4294967295+32*(k+1)):Wk (p.put 96 (.i t)) (s.put 64 (.i t)) {a with last:=t} (k+1):=
 ⟨d3z h.pp,d3A h.ss,by simp [a3R,D.toI],by simp [a3R,D.toI],by simp only;omega,h1⟩
theorem Wk.more (h:Wk p s a k):Wk p s a (k+1):=⟨h.pp,h.ss,h.lp,h.ls,h.lo,by have:=h.hi;omega⟩
theorem d3B (hN:maxLen<N) (hs:Wk p s a k) (he:e4S ds data) (h0:0≤k) (h1:k≤100000) (hE:d9T a kind slot off ds data=0):
  ∃p' s',c8A N kind slot off ds data p=some (c9s a kind slot off data,p')∧Wk p' s' (c5T a kind slot off ds data) (k+1):=by
 have hm:maxLen=9223372036854775807:=rfl;have hE:=b8a hE;obtain ⟨i1,i2⟩:=hE.s;unfold c8A c3L b1B a4H c5T c9s;have e38:∀q,a9Y N (-1) false q=q:=fun q=>rfl
 rw [i1];by_cases hk1:kind=1
 ·subst hk1
  obtain ⟨d1,d2⟩:=hE.d rfl;have hf:=c11 d2;have q1:=c9n hN hf;simp only [beq_self_eq_true,e59,a0D (i:=0) (n:=ds.length) (by omega) (by omega),a0b,q1,e6e,getD_some]
  have e1:decide ((-1:Int)≥0)=false:=by decide
  rw [e1,e38];refine ⟨_,_,rfl,d9U hs.pp i2 hf,d9V (nl:=false) hs.ss i2,?_,?_,hs.lo,by have:=hs.hi;simp only;omega⟩
  ·rw [c9q i2];exact hs.lp
  ·rw [(e4U i2 0 (by omega)).2.2.2.2];exact hs.ls
 ·have hk1':(kind==1)=false:=by simpa using hk1
  obtain ⟨kn,_⟩:=hE.n hk1;obtain ⟨d1,d2,d3,d4,d5,d6⟩:=hs.pp.df _ i2 kn;obtain ⟨s2,s3,s4⟩:=hs.ss.df _ i2 kn;unfold b1A a4G;rw [hk1'];simp only [e6a,a0b,hs.lp,hs.ls,d2,d6,s2,s4];have hlo:=hs.lo;have hhi:=hs.hi;by_cases hk3:kind=3
  ·subst hk3
   obtain ⟨t0,l0,o0,o1,_⟩:=hE.h rfl;have m0:a.last.tmod 32=a.last%32:=Int.tmod_eq_emod_of_nonneg l0;have w1:IntKind.wrap .i64 (off-a.last%32)=off-a.last%32:=a0u (by omega) (by omega)
   have w2:IntKind.wrap .i64 (off-a.last%32+32)=off-a.last%32+32:=a0u (by omega) (by omega)
   have m1:(off-a.last%32+32).tmod 32=(off-a.last%32+32)%32:=Int.tmod_eq_emod_of_nonneg (by omega)
   have w3:IntKind.wrap .i64 (a.last+(off-a.last%32+32)%32)=a.last+(off-a.last%32+32)%32:=a0u (by omega) (by omega)
   simp only [beq_self_eq_true,e59,m0,w1,w2,m1,w3,e6e,getD_some,a9Y,a6O];rw [decide_eq_true (show a.last+(off-a.last%32+32)%32≥0 by omega)]
   simp only [e59];exact ⟨_,_,rfl,hs.put (t:=a.last+(off-a.last%32+32)%32) (by omega) (by omega)⟩
  ·have hk2:kind=2:=by have:=hE.k;omega
   subst hk2;have hlen:=hE.t rfl;have e3:((2:Int)==3)=false:=by decide
   rw [e3];unfold b9Y a9X;have tb:=c0r (a:=0) (by omega) d1.size
   by_cases ht:tmL 0 (a.fs slot.toNat)<0
   ·rw [decide_eq_true ht,decide_eq_false (by omega:¬tmL 0 (a.fs slot.toNat)≥0)]
    have e1:decide ((-1:Int)≥0)=false:=by decide
    exact ⟨p,s,rfl,hs.more⟩
   ·rw [decide_eq_false ht,decide_eq_true (by omega:tmL 0 (a.fs slot.toNat)≥0)]
    have h4:tmL 0 (a.fs slot.toNat)+4≤data.length:=by rw [hlen];omega
    generalize tmL 0 (a.fs slot.toNat)=tm at ht h4⊢;obtain ⟨s1,s2,s3⟩:=d3w (by omega) h4 he.b he.y
    have nb:=c5R s3 (a.bg slot.toNat) (by omega)
    have c0:decide ((0:Int)≤tm)=true:=decide_eq_true (by omega)
    have c1:decide (tm≤tm+4)=true:=decide_eq_true (by omega)
    have c2:decide (tm+4≤(data.length:Int))=true:=decide_eq_true (by omega)
    have q1:=c9o hN s3 (a.bg slot.toNat) (by omega)
    simp only [e59,e6a,a0b,Bool.and_self,s1,c0,c1,c2,q1,d3v,e6e,getD_some,b9X,a9W,Bool.not_true,a9Y,a6O];generalize c4o ((data.take (tm+4).toNat).drop tm.toNat) (a.bg slot.toNat)=n at nb⊢;by_cases hn:n=4294967295
    ·subst hn
     exact ⟨p,s,rfl,hs.more⟩
    ·have e4:(n !=4294967295)=true:=by simpa using hn
     have e5:(n==4294967295)=false:=by simpa using hn
     rw [e4,e5];simp only [e59,e6a];rw [decide_eq_true (show n≥0 by omega)]
     simp only [e59];exact ⟨_,_,rfl,hs.put (by omega) (by omega)⟩
end
def a4p:Ab→List D→Int
 |_,[]=>0
 |a,x::r=>bif c4q a x !=0 then c4q a x else a4p (a6T a x) r
theorem d3C {p:D} (hp:(List.range 16).all (fun j=> !(p.cell (0+j*6)).toB&& !(c9r.cell (0+j*1)).toB)=true) (hl:(p.cell 96).toI= -1):Wk p c9r Ab.start 0:=by
 have h:∀j:Nat,j<16→(p.cell (0+j*6)).toB=false∧(c9r.cell (0+j*1)).toB=false:=fun j hj=>by
  have:=List.all_eq_true.1 hp j (List.mem_range.2 hj);simpa using this
 exact ⟨⟨fun j hj=>(h j hj).1,fun j hj hk=>absurd hk (by simp [Ab.start])⟩,⟨fun j hj=>(h j hj).2,fun j hj hk=>absurd hk (by simp [Ab.start])⟩,hl,by kernel_rfl,by decide,by decide⟩
theorem d9W:Wk (b9P N) c9r Ab.start 0:=d3C (by kernel_rfl) (by kernel_rfl)
def fileE (es:List D):Int:=bif decide ((es.length:Int)>50000) then 3 else a4p Ab.start es
section
variable {es:List D}
theorem c12 (hN:maxLen<N) (hes:∀x∈es,EntD x) (hl:es.length≤50000):∀(m:Nat) (i:Int) (p s:D) (a:Ab),0≤i→i≤es.length→(es.length-i).toNat<m→Wk p s a i→
  a9Z N es es.length m i p (fun p=>some (Sum.inl p)) (fun p=>some (Sum.inr p))=some (bif a4p a (es.drop i.toNat) !=0 then .inl (a4p a (es.drop i.toNat)) else .inr ()):=by
 intro m;induction m with
 |zero=>intro i p s a _ _ h;omega
 | succ m ih=>
  intro i p s a h0 h1 hm hs;unfold a9Z b2P;by_cases hi:i<es.length
  ·have he:EntD _:=hes _ (a1u (fs:=es) h0 hi)
   rw [decide_eq_true hi,a0D h0 hi,c9p hN hs.sim he,e2K hs.pp hs.lp,a2I (.i 0) h0 hi];simp only [e59,a0b,e6e,getD_some,a4p];cases hz:(c4q a (es.getD i.toNat (.i 0)) !=0) with
   |false=>
    have hz':c4q a (es.getD i.toNat (.i 0))=0:=by simpa using hz
    obtain ⟨p',s',q1,hs'⟩:=d3B hN hs he h0 (by omega) hz'
    rw [q1];simp only [e6a,e6e,e59,getD_some,a0u (x:=i+1) (by omega) (by omega)]
    exact ih (i+1) p' s' _ (by omega) (by omega) (by omega) hs'
   |true=>
    simp only [e59,hz]
  ·have:i=es.length:=by omega
   subst this;rw [decide_eq_false hi,a2f (by omega)]
   rfl
theorem c13 (hN:maxLen<N) (hes:∀x∈es,EntD x):c8C N es=some (fileE es):=by
 unfold fileE;by_cases hl:(es.length:Int)>50000
 ·unfold c8C c8B
  rw [decide_eq_true hl];rfl
 ·have hm:maxLen=9223372036854775807:=rfl
  have k1:b7z N es es.length 0 (b9P N)=_:=c12 hN hes (by omega) N 0 (b9P N) c9r Ab.start (by omega) (by omega) (by omega) d9W
  have k3:c8C N es=bnd (b7z N es es.length 0 (b9P N)) (fun y1=>bif a0U y1 then some (a1E y1) else bif (a0n y1).isSome then some 0 else none):=by
   unfold c8C c8B;rw [decide_eq_false hl];rfl
  rw [k3,k1,decide_eq_false hl];simp only [show (0:Int).toNat=0 from rfl,List.drop_zero,e6a];cases h:a4p Ab.start es !=0 with
  |true=>rfl
  |false=>
   have:a4p Ab.start es=0:=by simpa using h
   rw [this];rfl
theorem b4L {a:Ab} {x:D} {r:List D} (h:a4p a (x::r)=0):c4q a x=0∧a4p (a6T a x) r=0:=by
 simp only [a4p] at h;cases hz:(c4q a x !=0) with
 |true=>
  rw [hz] at h;simp only [e59] at h;rw [h] at hz;simp at hz
 |false=>
  rw [hz] at h;exact ⟨by simpa using hz,h⟩
theorem d3D (h:fileE es=0):es.length≤50000∧a4p Ab.start es=0:=by
 unfold fileE at h;by_cases hl:(es.length:Int)>50000
 ·rw [decide_eq_true hl] at h;exact absurd (show (3:Int)=0 from h) (by decide)
 ·rw [decide_eq_false hl] at h;exact ⟨by omega,h⟩
end
end Go.Proofs.YtcdhfpkfmekabaaGreatDoor.Z
namespace Go.Proofs.YtcdhfpkfmekabaaGreatDoor.Z
open Go Go.AM
variable {N:Nat}
def bt (n i:Int):D:= .i (IntKind.wrap .u8 (n.fdiv (2^(min (IntKind.wrap .i64 (8*i)).toNat 64))))
def nb1 (n:Int):List D:=[bt n 0]
def nb2 (n:Int) (big:Bool):List D:=bif big then [bt n 1,bt n 0] else [bt n 0,bt n 1]
def nb4 (n:Int) (big:Bool):List D:=bif big then [bt n 3,bt n 2,bt n 1,bt n 0] else [bt n 0,bt n 1,bt n 2,bt n 3]
theorem fuel (hN:maxLen<N) (j:Nat) (hj:j≤1000):∃k,N=k+j:=by
 have hm:maxLen=9223372036854775807:=rfl;exact ⟨N-j,by omega⟩
theorem e4V (hN:maxLen<N) (n:Int) (big:Bool):b7u N n 1 big=some (nb1 n):=by
 obtain ⟨k,rfl⟩:=fuel hN 8 (by omega)
 cases big<;>kernel_rfl
theorem d9X (hN:maxLen<N) (n:Int) (big:Bool):b7u N n 2 big=some (nb2 n big):=by
 obtain ⟨k,rfl⟩:=fuel hN 8 (by omega)
 cases big<;>kernel_rfl
theorem d9Y (hN:maxLen<N) (n:Int) (big:Bool):b7u N n 4 big=some (nb4 n big):=by
 obtain ⟨k,rfl⟩:=fuel hN 8 (by omega)
 cases big<;>kernel_rfl
def u8 (n:Int):D:= .i (IntKind.wrap .u8 n)
def b8b:List D→List D
 | []=>[]
 |f::r=>u8 (fN f)::u8 (fS f)::u8 (fT f)::b8b r
def e2L (slot:Int) (d:D):List D:=
 [u8 (64+slot),.i (bif (d.cell 0).toB then 1 else 0)]++nb2 (d.cell 1).toI (d.cell 0).toB++[u8 ((d.cell 2).items.length:Int)]++b8b (d.cell 2).items
def e2M (kind slot off:Int) (ds data:List D):List D:=
 bif kind==2 then u8 slot::data else bif kind==3 then u8 (128+32*slot+off)::data else e2L slot (ds.getD 0 (.i 0))
theorem c0s:∀fs:List D,(b8b fs).length=3*fs.length
 | []=>rfl
 |f::r=>by simp only [b8b,e6m,c0s r];omega
theorem a8A (n:Int) (big:Bool):(nb2 n big).length=2:=by cases big<;>rfl
theorem a2v (n:Int) (big:Bool):(nb4 n big).length=4:=by cases big<;>rfl
theorem d3E (slot:Int) (d:D):(e2L slot d).length=5+3*(d.cell 2).items.length:=by
 unfold e2L;simp only [e6l,e6m,List.length_nil,a8A,c0s]
theorem d3F (hN:maxLen<N) {fs l:List D} (hf:fs.length≤255) (hl:l.length≤100):∃b,c3N N fs fs.length 0 false l=some (b,l++b8b fs):=by
 have hm:maxLen=9223372036854775807:=rfl;have key:=c0p (A:=Int×Bool×LD) (X:=Option (Bool×LD)) (S:=fun x kr=>a90 N fs fs.length x.1 x.2.1 x.2.2 (fun a b c=>kr (a,b,c)) (fun p=>some p)) (L:=fun m x=>b2Q N fs fs.length m x.1 x.2.1 x.2.2 (fun p=>some p)) (fun m x=>rfl)
  (fun x r=>∃b,r=some (b,x.2.2++b8b (fs.drop x.1.toNat)))
  (fun x=>0≤x.1∧x.1≤fs.length∧(x.2.2.length:Int)≤100+3*x.1) (fun x=>(fs.length-x.1).toNat) ?_ N (0,false,l) ⟨by show (0:Int)≤0;omega,by show (0:Int)≤_;omega,by simp;omega⟩ (by simp;omega)
 ·obtain ⟨b,q⟩:=key
  exact ⟨b,q⟩
 ·rintro ⟨w,b,acc⟩ kr ⟨h2,h3,h4⟩ ih
  simp only at h2 h3 h4 ih⊢;unfold a90;by_cases hw:w<fs.length
  ·have r1:decide ((acc.length+3)*1≤a0X)=true:=decide_eq_true (by unfold a0X;omega)
   have r2:decide (acc.length+3≤a0c)=true:=decide_eq_true (by unfold a0c;omega)
   rw [decide_eq_true hw,a0D h2 hw,a2I (.i 0) h2 hw];simp only [e59,a0b,r1,r2,Bool.and_self,a0u (x:=w+1) (by omega) (by omega)]
   obtain ⟨b',q⟩:=ih (w+1,false,acc++[(.i (IntKind.wrap .u8 ((fs.getD w.toNat (.i 0)).cell 0).toI)),(.i (IntKind.wrap .u8 ((fs.getD w.toNat (.i 0)).cell 1).toI)),(.i (IntKind.wrap .u8 ((fs.getD w.toNat (.i 0)).cell 2).toI))]) ⟨by simp only;omega,by simp only;omega,by simp;omega⟩ (by simp only;omega)
   refine ⟨b',q.trans ?_⟩;simp only [b8b,e6n];rfl
  ·have:w=fs.length:=by omega
   subst this;rw [decide_eq_false hw,a2f (by omega)]
   exact ⟨b,by simp [b8b]⟩
theorem P65 (hN:maxLen<N) {kind slot off:Int} {ds data:List D} (hs0:0≤slot) (hs1:slot≤15) (ho0:0≤off) (ho1:off≤31) (hk:1≤kind∧kind≤3) (hd:kind=1→ds.length=1∧((ds.getD 0 (.i 0)).cell 2).items.length≤255) (hl:data.length≤100000):
  ∃nl,d86 N kind slot off ds data=some (nl,e2M kind slot off ds data):=by
 have r1:decide ((1+data.length)*1≤a0X)=true:=decide_eq_true (by unfold a0X;omega)
 have r2:decide (1+data.length≤a0c)=true:=decide_eq_true (by unfold a0c;omega)
 unfold d86 d2E e2M;rw [r1,r2];by_cases h2:kind=2
 ·subst h2;exact ⟨_,rfl⟩
 ·by_cases h3:kind=3
  ·subst h3
   rw [a0u (x:=32*slot) (by omega) (by omega),a0u (x:=128+32*slot) (by omega) (by omega),a0u (x:=128+32*slot+off) (by omega) (by omega)]
   exact ⟨_,rfl⟩
  ·have h1:kind=1:=by omega
   subst h1;obtain ⟨d1,d2⟩:=hd rfl;have i0:inB 0 ds.length=true:=a0D (by omega) (by omega)
   generalize ds.getD 0 (.i 0)=d at d2⊢;have e29:c3M N (d.cell 0).toB [.i (IntKind.wrap .u8 (IntKind.wrap .i64 (64+slot))),.i 0]=some [u8 (64+slot),.i (bif (d.cell 0).toB then 1 else 0)]:=by
    rw [a0u (x:=64+slot) (by omega) (by omega)]
    cases (d.cell 0).toB<;>rfl
   have l2:=a8A (d.cell 1).toI (d.cell 0).toB;have r3:decide (([u8 (64+slot),.i (bif (d.cell 0).toB then 1 else 0)].length+(nb2 (d.cell 1).toI (d.cell 0).toB).length)*1≤a0X)=true:=decide_eq_true (by rw [l2];unfold a0X;simp)
   have r4:decide ([u8 (64+slot),.i (bif (d.cell 0).toB then 1 else 0)].length+(nb2 (d.cell 1).toI (d.cell 0).toB).length≤a0c)=true:=decide_eq_true (by rw [l2];unfold a0c;simp)
   have r5:decide ((([u8 (64+slot),.i (bif (d.cell 0).toB then 1 else 0)]++nb2 (d.cell 1).toI (d.cell 0).toB).length+1)*1≤a0X)=true:=decide_eq_true (by rw [e6l,l2];unfold a0X;simp)
   have r6:decide (([u8 (64+slot),.i (bif (d.cell 0).toB then 1 else 0)]++nb2 (d.cell 1).toI (d.cell 0).toB).length+1≤a0c)=true:=decide_eq_true (by rw [e6l,l2];unfold a0c;simp)
   obtain ⟨b,q⟩:=d3F hN (fs:=(d.cell 2).items) (l:=[u8 (64+slot),.i (bif (d.cell 0).toB then 1 else 0)]++nb2 (d.cell 1).toI (d.cell 0).toB++[.i (IntKind.wrap .u8 ((d.cell 2).items.length:Int))]) d2 (by simp only [e6l,l2];simp)
   have c2:((1:Int)==2)=false:=rfl;have c3:((1:Int)==3)=false:=rfl;refine ⟨b,?_⟩;simp only [c2,c3,i0,e29,d9X hN,e59,e6a,a0b,e6e,getD_some,r3,r4,r5,r6,Bool.and_self,q];rfl
theorem d4W {a:Ab} {kind slot off:Int} {ds data:List D} (hf:a.kn slot.toNat=true→b4K (a.fs slot.toNat)) (h:d9T a kind slot off ds data=0):
  (1≤kind∧kind≤3)∧(0≤slot∧slot≤15)∧(0≤off∧off≤31)∧(kind=1→ds.length=1∧((ds.getD 0 (.i 0)).cell 2).items.length≤255)∧data.length≤65025:=by
 have hE:=b8a h;have hin:inI slot 0 (bif kind==3 then 3 else 15)=true∧inI off 0 (bif kind==3 then 31 else 0)=true∧(kind=1→data.length=0):=by
  unfold d9T c6a at h;cases h1:inI kind 1 3 with
  |false=>rw [h1] at h;exact absurd (show (7:Int)=0 from h) (by decide)
  |true=>
  cases h2:inI slot 0 (bif kind==3 then 3 else 15) with
  |false=>rw [h1,h2] at h;exact absurd (show (9:Int)=0 from h) (by decide)
  |true=>
  cases h3:inI off 0 (bif kind==3 then 31 else 0) with
  |false=>rw [h1,h2,h3] at h;exact absurd (show (9:Int)=0 from h) (by decide)
  |true=>
   refine ⟨rfl,rfl,fun hk=> ?_⟩
   subst hk;rw [h1,h2,h3] at h;cases h4:((ds.length:Int) !=1)||decide ((data.length:Int)>0) with
   |true=>simp only [Bool.not_true,e6a,Bool.or_self,beq_self_eq_true,e59,h4] at h;exact absurd h (by decide)
   |false=>simp at h4;simp [h4.2]
 obtain ⟨n1,n2,n3⟩:=hin;have m1:0≤slot∧slot≤15:=by cases hk:kind==3<;>rw [hk] at n1<;>unfold inI at n1<;>simp at n1<;>omega
 have m2:0≤off∧off≤31:=by cases hk:kind==3<;>rw [hk] at n2<;>unfold inI at n2<;>simp at n2<;>omega
 refine ⟨hE.k,m1,m2,fun hk=>⟨(hE.d hk).1,(c11 (hE.d hk).2).len⟩,?_⟩
 by_cases hk:kind=1
 ·rw [n3 hk];omega
 ·have:=hf (hE.n hk).1
  have sb:=b0a this.size;have:=this.len;by_cases hk3:kind=3
  ·have:=(hE.h hk3).2.2.2.2;omega
  ·have:=hE.t (by have:=hE.k;omega);omega
def OkA (a:Ab):Prop:=∀j,a.kn j=true→b4K (a.fs j)
theorem OkA.step {a:Ab} (h:OkA a) {x:D} (hx:c4q a x=0):OkA (a6T a x):=by
 unfold a6T c5T;cases hk:kX x==1 with
 |true=>
  have hE:=b8a hx;have hf:=c11 (hE.d (by simpa using hk)).2
  intro j hj;simp only [e59,upA] at hj⊢;by_cases e:j=(sX x).toNat
  ·simp only [if_pos e];exact hf
  ·simp only [if_neg e] at hj⊢;exact h j hj
 |false=>exact h
theorem OkA.start:OkA Ab.start:=fun j hj=>by simp [Ab.start] at hj
abbrev c9Q (x:D):List D:=e2M (kX x) (sX x) (oX x) (dX x) (bX x)
def a3K:List D→List D
 | []=>[]
 |x::r=>c9Q x++a3K r
theorem c4r {a:Ab} (ha:OkA a) {x:D} (h:c4q a x=0):(c9Q x).length≤70000∧1≤(c9Q x).length:=by
 obtain ⟨h1,h2,h3,h4,h5⟩:=d4W (ha _) h;unfold c9Q e2M;have:kX x=1∨kX x=2∨kX x=3:=by omega
 rcases this with e|e|e
 ·have:=(h4 e).2
  rw [e,show ((1:Int)==2)=false from rfl,show ((1:Int)==3)=false from rfl];simp only [e6a,d3E];omega
 ·rw [e,show ((2:Int)==2)=true from rfl]
  simp only [e59,e6m];omega
 ·rw [e,show ((3:Int)==2)=false from rfl,show ((3:Int)==3)=true from rfl]
  simp only [e59,e6a,e6m];omega
section
variable {es:List D}
theorem c5W (hN:maxLen<N) (hes:∀x∈es,EntD x) (hl:es.length≤50000):∀(m:Nat) (i:Int) (a:Ab) (b:Bool) (acc:List D),OkA a→0≤i→i≤es.length→(es.length-i).toNat<m→a4p a (es.drop i.toNat)=0→(acc.length:Int)≤70000*i→
  ∃b',a93 N es es.length m i b acc (fun p=>some p)=some (b',acc++a3K (es.drop i.toNat)):=by
 intro m;induction m with
 |zero=>intro i a b acc _ _ _ h;omega
 | succ m ih=>
  intro i a b acc ha h0 h1 hm he hacc;unfold a93 b2T;by_cases hi:i<es.length
  ·rw [a2I (.i 0) h0 hi] at he⊢
   obtain ⟨e1,e2⟩:=b4L he;obtain ⟨h1',h2,h3,h4,h5⟩:=d4W (ha _) e1;obtain ⟨nl,q1⟩:=P65 (N:=N) (kind:=kX (es.getD i.toNat (.i 0))) (slot:=sX (es.getD i.toNat (.i 0))) (off:=oX (es.getD i.toNat (.i 0))) (ds:=dX (es.getD i.toNat (.i 0))) (data:=bX (es.getD i.toNat (.i 0))) hN h2.1 h2.2 h3.1 h3.2 h1' h4 (by omega)
   have hb:=c4r ha e1;have r1:decide ((acc.length+(c9Q (es.getD i.toNat (.i 0))).length)*1≤a0X)=true:=decide_eq_true (by unfold a0X;omega)
   have r2:decide (acc.length+(c9Q (es.getD i.toNat (.i 0))).length≤a0c)=true:=decide_eq_true (by unfold a0c;omega)
   rw [decide_eq_true hi,a0D h0 hi];simp only [e59,a0b,q1,e6e,getD_some,r1,r2,Bool.and_self,a0u (x:=i+1) (by omega) (by omega)]
   obtain ⟨b',z1⟩:=ih (i+1) _ ((c9Q (es.getD i.toNat (.i 0))).isEmpty&&b) (acc++c9Q (es.getD i.toNat (.i 0))) (ha.step e1) (by omega) (by omega) (by omega) e2 (by simp only [e6l];omega)
   refine ⟨b',z1.trans ?_⟩;rw [e6n];rfl
  ·have:i=es.length:=by omega
   subst this;rw [decide_eq_false hi,a2f (by omega)]
   exact ⟨b,by simp [a3K]⟩
theorem c4s:∀{es:List D} {a:Ab},OkA a→a4p a es=0→(a3K es).length≤70000*es.length
 | [],_,_,_=>by simp [a3K]
 |x::r,a,ha,h=>by
  obtain ⟨e1,e2⟩:=b4L h;have:=c4s (ha.step e1) e2;have:=c4r ha e1;simp only [a3K,e6l,e6m];omega
end
def a8B (es:List D):List D:=
 [.i 72,.i 65,.i 82,.i 49]++nb4 ((a3K es).length:Int) true++a3K es
def allB (es:List D):List D:=a8B es++nb4 (c5S 1 (a8B es)) true
def writeE (es:List D):Int:=bif fileE es !=0 then fileE es else bif decide (((allB es).length:Int)>4000000) then 3 else 0
end Go.Proofs.YtcdhfpkfmekabaaGreatDoor.Z
end
