/- Functions of the program as plain Lean definitions, each with the proof that the program computes it. No condition. Printed by a program of the prover, part 1. -/
import Derived.Test.YtiegikkpipdleaaGreatDoorHk1
import Derived.Test.YtiegikkpipdleaaGreatDoorChecked
import Derived.KernelRfl
set_option linter.all false
set_option maxRecDepth 100000
set_option maxHeartbeats 4000000
namespace Go.Proofs.YtiegikkpipdleaaGreatDoor
open Go Go.AM
noncomputable section
variable (N:Nat) {R:Type}
def f0A:List (Nat×List Nat):=[(0,[0]),(1,[0])]
def f0B:a0E:=[]
def d4H (N:Nat):Sg Tryz.prog 0 46:= .start f0B f0A
def c9F (N:Nat) (v0:Int) (k0:Bool→R):R:=
 k0 (bif (decide (v0≥48)) then (decide (v0≤57)) else false)
def e0j (v0:Int):Bool:=c9F N v0 (fun p=>p)
theorem e5M (v0:Int) (k0:Bool→R):c9F N v0 k0=k0 (e0j N v0):=by
 unfold e0j c9F
 repeat' (first|rfl|apply a0W|(apply a1D;intro _))
def d4I:Sh:={tmps:=[(0,.c (.i .u8))],mem:=[]}
def f0C (L:List Lf):List (Bool×Res):=bnd (c9F N (li L 0) (fun p=>p)) fun q=>[(true,([.c (.b q)],[]))]
theorem e5N (L:List Lf):bd Tryz.prog (e0i N) (d4H N).h 46 d4I L=c9F N (li L 0) (fun p=>some ([.c (.b p)],[])):=by kernel_rfl
theorem f0D:a0G Tryz.prog 46 d4I (f0C N):=
 (d4H N).fn a0b (b8P N) fun L x hx=>((e5N N L).trans ((e5M N ..).trans (a5j _ _ hx)))
def d4J:a0e:=ext 46 (a1E d4I (f0C N)) (e0i N)
theorem b2n:a0c Tryz.prog (d4J N):=a0G.to (f0D N) (b8P N)
def f0E:List (Nat×List Nat):=[(0,[0]),(1,[0]),(2,[8,7,0]),(3,[8,0,7]),(4,[0,3,8,7]),(5,[4,8,7,0]),(6,[5,4,8,7,0]),(7,[]),(8,[8,7,0]),(9,[0])]
def f0F:a0E:=[(6,[0,7,8],[],[]),(19,[0,4,5,7,8],[],[])]
def d4K (N:Nat):Sg Tryz.prog 0 19:= .start f0F f0E
def a6s (w1:Int) (w2:Bool) (k0:Bool→R):R:=
 bif (!w2) then
  bnd (e0j N w1) fun y0=>
  bnd (bif (bif (!y0) then (w1 !=45) else false) then (w1 !=95) else false) fun y1=>
  k0 (bif y1 then (w1 !=46) else false)
 else
  k0 false
def b2o (w1:Int) (w2:Bool):Bool:=a6s N w1 w2 (fun p=>p)
theorem c9G (w1:Int) (w2:Bool) (k0:Bool→R):a6s N w1 w2 k0=k0 (b2o N w1 w2):=by
 unfold b2o a6s
 repeat' (first|rfl|apply a0W|(apply a1D;intro _))
def c2d:Sh:={tmps:=[(0,.c (.s)),(4,.c (.i .u8)),(5,.c (.b)),(7,.c (.i .i64)),(8,.c (.i .i64))],mem:=[]}
def b6U (L:List Lf) (p:Bool):Ex×St:=(.normal,mg (a0v c2d L) [0,7,8,46] [(46,.c (.b p))] [] [])
def e0k (L:List Lf):List (Bool×(Ex×St)):=bnd (a6s N (li L 1) (lb L 2) (fun p=>p)) fun q=>[(true,b6U L q)]
theorem c9H (L:List Lf):pc Tryz.prog (d4J N) (d4K N).h 0 100 19 19 c2d L [0,7,8,46] []=a6s N (li L 1) (lb L 2) (fun p=>some (b6U L p)):=by kernel_rfl
def d4L:Sg Tryz.prog 0 19:=
 (d4K N).cut (e0k N) a0b (b2n N) fun L x hx=>(c9H N L).trans ((c9G N ..).trans (a5j _ _ hx))
def b0c (w0:LB) (w1:Int) (w2:Int) (kr:Int→Option R) (k0:Unit→Option R) (k1:Unit→Option R):Option R:=
 bif (decide (w2<w1)) then
  bif (inB w2 w0.length) then
   bnd (bif (decide (((w0.getD w2.toNat 0).toNat:Int)≥97)) then (decide (((w0.getD w2.toNat 0).toNat:Int)≤122)) else false) fun y0=>
   bnd (bif y0 then true else (bif (decide (((w0.getD w2.toNat 0).toNat:Int)≥65)) then (decide (((w0.getD w2.toNat 0).toNat:Int)≤90)) else false)) fun y1=>
   bnd (b2o N ((w0.getD w2.toNat 0).toNat:Int) y1) fun y2=>
   bif y2 then
    k0 ()
   else
    kr (IntKind.wrap .i64 (w2+1))
  else
   none
 else
  k1 ()
def b8Q (N:Nat) {R:Type} (w0:LB) (w1:Int):Nat→Int→(Unit→Option R)→(Unit→Option R)→Option R
 |0,_,_,_=>none
 |m+1,w2,k0,k1=>b0c N w0 w1 w2 (fun w2=>b8Q N w0 w1 m w2 k0 k1) k0 k1
def c4T (w0:LB) (w1:Int) (w2:Int):Option (Sum (Unit) (Unit)):=b8Q N (R:=(Sum (Unit) (Unit))) w0 w1 N w2 (fun p=>some (.inl p)) (fun p=>some (.inr p))
def b4l (L x:List Lf) (kr:List Lf→Option R) (k0:Unit→Option R) (k1:Unit→Option R):Option R:=b0c N (ls L 0) (li L 1) (li x 0) (fun w2=>kr [.i w2]) k0 k1
theorem c6W (L x:List Lf) (kr:List Lf→Option R) (k0:Unit→Option R) (k1:Unit→Option R):b4l N L x kr k0 k1=(b4l N L x (fun y=>some (.inl y)) (fun p=>some (.inr (.inl p))) (fun p=>some (.inr (.inr p)))).bind (a1a kr (a1a k0 k1)):=by
 unfold b4l b0c
 repeat' (first|with_reducible apply a0f|(with_reducible apply a0m;intro _)|rfl)
def b8R (L:List Lf) (m:Nat) (x:List Lf):Option (Sum (Unit) (Unit)):=b8Q N (R:=(Sum (Unit) (Unit))) (ls L 0) (li L 1) m (li x 0) (fun p=>some (.inl p)) (fun p=>some (.inr p))
def b2p:Sh:={tmps:=[(0,.c (.s)),(7,.c (.i .i64)),(8,.c (.i .i64))],mem:=[]}
def e5O (L:List Lf):List (Bool×(Ex×St)):=bnd (b8R N L N (pk b2p [2] L)) fun q=>[((a0O q),(.ret,⟨[(2,.c (.b false))],[]⟩)),((a0l q).isSome,((.exit 0),⟨[(0,.c (.s (ls L 0)))],[]⟩))]
theorem c9I (m:Nat) (kn:St→Option (Ex×St)) (L x:List Lf):lpB Tryz.prog (d4J N) (d4L N).h 0 19 6 b2p [2] [0,2] [] (m+100) kn L x=b4l N L x (fun y=>kn (a0v b2p (mx b2p [2] L y))) (fun _=>some (.ret,⟨[(2,.c (.b false))],[]⟩)) (fun _=>some ((.exit 0),⟨[(0,.c (.s (ls L 0)))],[]⟩)):=by kernel_rfl
theorem e0l (L:List Lf) (m:Nat) (x:List Lf):b8R N L (m+1) x=b4l N L x (b8R N L m) (fun p=>some (.inl p)) (fun p=>some (.inr p)):=by kernel_rfl
def d4M:Sg Tryz.prog 0 19:=
 (d4L N).lp (e5O N) N a0b (b2n N) (fun m kn L x=>(c9I N m kn L x).trans (c6W N L x _ _ _)) (fun L m x=>(e0l N L m x).trans (c6W N L x (b8R N L m) (fun p=>some (.inl p)) (fun p=>some (.inr p)))) fun L x hx=>(a27 a0N) x hx
def c9J (v0:LB) (k0:Bool→Option R):Option R:=
 bnd (c4T N v0 (v0.length:Int) 0) fun y0=>
 bif (a0O y0) then
  k0 false
 else
  bif (a0l y0).isSome then
   bnd (bif (decide ((v0.length:Int)≥1)) then (decide ((v0.length:Int)≤60)) else false) fun y1=>
   k0 y1
  else
   none
def c9K (v0:LB):Option (Bool):=c9J N v0 (fun p=>some p)
theorem e0m (v0:LB) (k0:Bool→Option R):c9J N v0 k0=(c9K N v0).bind k0:=by
 unfold c9K c9J
 repeat' (first|with_reducible apply a0f|(with_reducible apply a0m;intro _)|rfl)
def d4N:Sh:={tmps:=[(0,.c (.s))],mem:=[]}
def f0G (L:List Lf):List (Bool×Res):=bnd (c9J N (ls L 0) (fun p=>some p)) fun q=>[(q.isSome,([.c (.b (q.getD default))],[]))]
theorem e5P (L:List Lf):bd Tryz.prog (d4J N) (d4M N).h 19 d4N L=c9J N (ls L 0) (fun p=>some ([.c (.b p)],[])):=by kernel_rfl
theorem f0H:a0G Tryz.prog 19 d4N (f0G N):=
 (d4M N).fn a0b (b2n N) fun L x hx=>((e5P N L).trans ((e0m N ..).trans (a0N x hx)))
def d4O:a0e:=ext 19 (a1E d4N (f0G N)) (d4J N)
theorem b2q:a0c Tryz.prog (d4O N):=a0G.to (f0H N) (b2n N)
def f0I:List (Nat×List Nat):=[(0,[0]),(1,[1]),(2,[3,1])]
def f0J:a0E:=[(4,[1],[1],[]),(7,[1,3],[1],[])]
def d4P (N:Nat):Sg Tryz.prog 0 21:= .start f0J f0I
def b0d (w1 w2 w3:Int) (k0:Bool→R):R:=
 bnd (a26 N w1 (-100000000) 100000000) fun y0=>
 bif y0 then
  bnd (a26 N w2 (-100000000) 100000000) fun y1=>
  bif y1 then
   bnd (a26 N w3 (-100000) 100000) fun y2=>
   k0 y2
  else
   k0 false
 else
  k0 false
def b8S (w1 w2 w3:Int):Bool:=b0d N w1 w2 w3 (fun p=>p)
theorem d4Q (w1 w2 w3:Int) (k0:Bool→R):b0d N w1 w2 w3 k0=k0 (b8S N w1 w2 w3):=by
 unfold b8S b0d
 repeat' (first|rfl|apply a0W|(apply a1D;intro _))
def c6X:Sh:={tmps:=[(1,.c (.p 1 0))],mem:=[(1,.box (rI 7 ([])))]}
def c2e (L:List Lf) (p:Bool):Ex×St:=(.normal,mg (a0v c6X L) [1,3] [(3,.c (.b p))] [1] [])
def e5Q (L:List Lf):List (Bool×(Ex×St)):=bnd (b0d N (li L 1) (li L 2) (li L 3) (fun p=>p)) fun q=>[(true,c2e L q)]
theorem d4R (L:List Lf):pc Tryz.prog (d4O N) (d4P N).h 0 100 21 4 c6X L [1,3] [1]=b0d N (li L 1) (li L 2) (li L 3) (fun p=>some (c2e L p)):=by kernel_rfl
def d4S:Sg Tryz.prog 0 21:=
 (d4P N).cut (e5Q N) a0b (b2q N) fun L x hx=>(d4R N L).trans ((d4Q N ..).trans (a5j _ _ hx))
def b4m (w0:Bool) (w5 w6 w7:Int) (k0:Bool→R):R:=
 bif w0 then
  bnd (a26 N w5 (-1) 300) fun y0=>
  bif y0 then
   bnd (a26 N w6 (-1) 3000) fun y1=>
   bif y1 then
    bnd (a26 N w7 (-1) 300) fun y2=>
    k0 y2
   else
    k0 false
  else
   k0 false
 else
  k0 false
def b8T (w0:Bool) (w5 w6 w7:Int):Bool:=b4m N w0 w5 w6 w7 (fun p=>p)
theorem d4T (w0:Bool) (w5 w6 w7:Int) (k0:Bool→R):b4m N w0 w5 w6 w7 k0=k0 (b8T N w0 w5 w6 w7):=by
 unfold b8T b4m
 repeat' (first|rfl|apply a0W|(apply a1D;intro _))
def d4U (L:List Lf) (k0:Bool→R):R:=b4m N (lb L 0) (li L 5) (li L 6) (li L 7) k0
def e0n:Sh:={tmps:=[(1,.c (.p 1 0)),(3,.c (.b))],mem:=[(1,.box (rI 7 ([])))]}
def e5R (L:List Lf):List (Bool×(Ex×St)):=bnd (d4U N L (fun p=>p)) fun q=>[(true,(.normal,⟨[(2,.c (.b q))],[]⟩))]
theorem d4V (L:List Lf):pc Tryz.prog (d4O N) (d4S N).h 0 100 21 7 e0n L [2] []=d4U N L (fun p=>some (.normal,⟨[(2,.c (.b p))],[]⟩)):=by kernel_rfl
def d4W:Sg Tryz.prog 0 21:=
 (d4S N).cut (e5R N) a0b (b2q N) fun L x hx=>(d4V N L).trans ((d4T N ..).trans (a5j _ _ hx))
def d4X (v1 v2 v3 v4 v5 v6:Int) (k0:Bool→R):R:=
 bnd (b8S N v1 v2 v3) fun y0=>
 bnd (b8T N y0 v4 v5 v6) fun y1=>
 k0 y1
def e0o (v1 v2 v3 v4 v5 v6:Int):Bool:=d4X N v1 v2 v3 v4 v5 v6 (fun p=>p)
theorem e5S (v1 v2 v3 v4 v5 v6:Int) (k0:Bool→R):d4X N v1 v2 v3 v4 v5 v6 k0=k0 (e0o N v1 v2 v3 v4 v5 v6):=by
 unfold e0o d4X
 repeat' (first|rfl|apply a0W|(apply a1D;intro _))
def f0K (L:List Lf) (k0:Bool→R):R:=d4X N (li L 1) (li L 2) (li L 3) (li L 4) (li L 5) (li L 6) k0
def d4Y:Sh:={tmps:=[(0,.g (rI 7 ([])))],mem:=[]}
def f0L (L:List Lf):List (Bool×Res):=bnd (f0K N L (fun p=>p)) fun q=>[(true,([.c (.b q)],[]))]
theorem e5T (L:List Lf):bd Tryz.prog (d4O N) (d4W N).h 21 d4Y L=f0K N L (fun p=>some ([.c (.b p)],[])):=by kernel_rfl
theorem f0M:a0G Tryz.prog 21 d4Y (f0L N):=
 (d4W N).fn a0b (b2q N) fun L x hx=>((e5T N L).trans ((e5S N ..).trans (a5j _ _ hx)))
def e5U:a0e:=ext 21 (a1E d4Y (f0L N)) (d4O N)
theorem c6Y:a0c Tryz.prog (e5U N):=a0G.to (f0M N) (b2q N)
def f0N:List (Nat×List Nat):=[(0,[0]),(1,[1]),(2,[3,1]),(3,[1,3]),(4,[])]
def f0O:a0E:=[]
def d4Z (N:Nat):Sg Tryz.prog 0 12:= .start f0O f0N
def c9L (N:Nat) (v4:LD) (k0:Int→Option R):Option R:=
 bif (decide ((v4.length:Int)>0)) then
  bif (inB (IntKind.wrap .i64 ((v4.length:Int)-1)) v4.length) then
   bnd ((v4.getD (IntKind.wrap .i64 ((v4.length:Int)-1)).toNat (.i 0)):D) fun y0=>
   k0 (y0.cell 0).toI
  else
   none
 else
  k0 0
def c9M (v4:LD):Option (Int):=c9L N v4 (fun p=>some p)
theorem e0p (v4:LD) (k0:Int→Option R):c9L N v4 k0=(c9M N v4).bind k0:=by
 unfold c9M c9L
 repeat' (first|with_reducible apply a0f|(with_reducible apply a0m;intro _)|rfl)
def d40:Sh:={tmps:=[(0,.g (.s::[.i .i64,.i .i64,.sl 70,.sl 65,.sl 9]))],mem:=[]}
def f0P (L:List Lf):List (Bool×Res):=bnd (c9L N (ll L 4) (fun p=>some p)) fun q=>[(q.isSome,([.c (.i .i64 (q.getD default))],[]))]
theorem e5V (L:List Lf):bd Tryz.prog (e5U N) (d4Z N).h 12 d40 L=c9L N (ll L 4) (fun p=>some ([.c (.i .i64 p)],[])):=by kernel_rfl
theorem f0Q:a0G Tryz.prog 12 d40 (f0P N):=
 (d4Z N).fn a0b (c6Y N) fun L x hx=>((e5V N L).trans ((e0p N ..).trans (a0N x hx)))
def e0q:a0e:=ext 12 (a1E d40 (f0P N)) (e5U N)
theorem b8U:a0c Tryz.prog (e0q N):=a0G.to (f0Q N) (c6Y N)
def f0R:List (Nat×List Nat):=[(0,[0]),(1,[0]),(2,[6,5,0]),(3,[6,0,5]),(4,[0,3,6,5]),(5,[]),(6,[6,5,0]),(7,[0])]
def f0S:a0E:=[(6,[0,5,6],[],[])]
def d41 (N:Nat):Sg Tryz.prog 0 22:= .start f0S f0R
def b0e (w0:LB) (w1:Int) (w2:Int) (kr:Int→Option R) (k0:Unit→Option R) (k1:Unit→Option R):Option R:=
 bif (decide (w2<w1)) then
  bif (inB w2 w0.length) then
   bnd (a26 N (IntKind.wrap .i64 ((w0.getD w2.toNat 0).toNat:Int)) 32 126) fun y0=>
   bif (!y0) then
    k0 ()
   else
    kr (IntKind.wrap .i64 (w2+1))
  else
   none
 else
  k1 ()
def b8V (N:Nat) {R:Type} (w0:LB) (w1:Int):Nat→Int→(Unit→Option R)→(Unit→Option R)→Option R
 |0,_,_,_=>none
 |m+1,w2,k0,k1=>b0e N w0 w1 w2 (fun w2=>b8V N w0 w1 m w2 k0 k1) k0 k1
def c4U (w0:LB) (w1:Int) (w2:Int):Option (Sum (Unit) (Unit)):=b8V N (R:=(Sum (Unit) (Unit))) w0 w1 N w2 (fun p=>some (.inl p)) (fun p=>some (.inr p))
def b4n (L x:List Lf) (kr:List Lf→Option R) (k0:Unit→Option R) (k1:Unit→Option R):Option R:=b0e N (ls L 0) (li L 1) (li x 0) (fun w2=>kr [.i w2]) k0 k1
theorem c6Z (L x:List Lf) (kr:List Lf→Option R) (k0:Unit→Option R) (k1:Unit→Option R):b4n N L x kr k0 k1=(b4n N L x (fun y=>some (.inl y)) (fun p=>some (.inr (.inl p))) (fun p=>some (.inr (.inr p)))).bind (a1a kr (a1a k0 k1)):=by
 unfold b4n b0e
 repeat' (first|with_reducible apply a0f|(with_reducible apply a0m;intro _)|rfl)
def b8W (L:List Lf) (m:Nat) (x:List Lf):Option (Sum (Unit) (Unit)):=b8V N (R:=(Sum (Unit) (Unit))) (ls L 0) (li L 1) m (li x 0) (fun p=>some (.inl p)) (fun p=>some (.inr p))
def b2r:Sh:={tmps:=[(0,.c (.s)),(5,.c (.i .i64)),(6,.c (.i .i64))],mem:=[]}
def e5W (L:List Lf):List (Bool×(Ex×St)):=bnd (b8W N L N (pk b2r [2] L)) fun q=>[((a0O q),(.ret,⟨[(2,.c (.b false))],[]⟩)),((a0l q).isSome,((.exit 0),⟨[(0,.c (.s (ls L 0)))],[]⟩))]
theorem c9N (m:Nat) (kn:St→Option (Ex×St)) (L x:List Lf):lpB Tryz.prog (e0q N) (d41 N).h 0 22 6 b2r [2] [0,2] [] (m+100) kn L x=b4n N L x (fun y=>kn (a0v b2r (mx b2r [2] L y))) (fun _=>some (.ret,⟨[(2,.c (.b false))],[]⟩)) (fun _=>some ((.exit 0),⟨[(0,.c (.s (ls L 0)))],[]⟩)):=by kernel_rfl
theorem e0r (L:List Lf) (m:Nat) (x:List Lf):b8W N L (m+1) x=b4n N L x (b8W N L m) (fun p=>some (.inl p)) (fun p=>some (.inr p)):=by kernel_rfl
def d42:Sg Tryz.prog 0 22:=
 (d41 N).lp (e5W N) N a0b (b8U N) (fun m kn L x=>(c9N N m kn L x).trans (c6Z N L x _ _ _)) (fun L m x=>(e0r N L m x).trans (c6Z N L x (b8W N L m) (fun p=>some (.inl p)) (fun p=>some (.inr p)))) fun L x hx=>(a27 a0N) x hx
def c9O (v0:LB) (k0:Bool→Option R):Option R:=
 bnd (c4U N v0 (v0.length:Int) 0) fun y0=>
 bif (a0O y0) then
  k0 false
 else
  bif (a0l y0).isSome then
   k0 (decide ((v0.length:Int)≤60))
  else
   none
def d43 (v0:LB):Option (Bool):=c9O N v0 (fun p=>some p)
theorem e0s (v0:LB) (k0:Bool→Option R):c9O N v0 k0=(d43 N v0).bind k0:=by
 unfold d43 c9O
 repeat' (first|with_reducible apply a0f|(with_reducible apply a0m;intro _)|rfl)
def d44:Sh:={tmps:=[(0,.c (.s))],mem:=[]}
def f0T (L:List Lf):List (Bool×Res):=bnd (c9O N (ls L 0) (fun p=>some p)) fun q=>[(q.isSome,([.c (.b (q.getD default))],[]))]
theorem e5X (L:List Lf):bd Tryz.prog (e0q N) (d42 N).h 22 d44 L=c9O N (ls L 0) (fun p=>some ([.c (.b p)],[])):=by kernel_rfl
theorem f0U:a0G Tryz.prog 22 d44 (f0T N):=
 (d42 N).fn a0b (b8U N) fun L x hx=>((e5X N L).trans ((e0s N ..).trans (a0N x hx)))
def b5V:a0e:=ext 22 (a1E d44 (f0T N)) (e0q N)
theorem a3m:a0c Tryz.prog (b5V N):=a0G.to (f0U N) (b8U N)
def f4z:List (Nat×List Nat):=[(0,[0]),(1,[1]),(3,[1]),(5,[1]),(7,[1]),(8,[]),(6,[]),(4,[]),(2,[]),(9,[1]),(10,[45,44,43,1]),(11,[45,43,1,44]),(12,[3,4,1,45,44,43]),(13,[3,4,1,45,44,43]),(15,[4,1,45,44,43]),(16,[]),(14,[]),(17,[45,44,43,1]),(18,[1]),(19,[1,5]),(20,[95,94,93,5,1]),(21,[95,93,5,1,94]),(22,[7,5,6,1,95,94,93]),(24,[6,7,1,95,94,93,5]),(26,[7,95,94,93,5,1]),(27,[]),(25,[]),(23,[]),(28,[95,94,93,5,1]),(29,[1]),(30,[141,140,139,1]),(31,[141,139,1,140]),(32,[9,8,1,141,140,139]),(34,[8,9,1,141,140,139]),(35,[]),(33,[]),(36,[141,140,139,1]),(37,[])]
def f4A:a0E:=[(30,[1,43,44,45],[1],[]),(40,[1,3,4,43,44,45],[1,4],[]),(39002,[1,3,4,43,44,45,50],[1,4],[]),(46,[1,4,43,44,45],[1,4],[]),(60,[1,5,93,94,95],[1],[]),(73,[1,5,6,7,93,94,95],[1,7],[]),(90,[1,139,140,141],[1],[])]
def e3f (N:Nat):Sg Tryz.prog 0 5:= .start f4A f4z
def b0f (N:Nat) (w0:Int) (w9:LD) (w14:Int) (k0:Bool→Option R):Option R:=
 bif (decide (w0>0)) then
  bif (inB (IntKind.wrap .i64 (w0-1)) w9.length) then
   bnd ((w9.getD (IntKind.wrap .i64 (w0-1)).toNat (.i 0)).cell 0).toI fun y0=>
   k0 (decide (w14≤y0))
  else
   none
 else
  k0 false
def b8X (w0:Int) (w9:LD) (w14:Int):Option (Bool):=b0f N w0 w9 w14 (fun p=>some p)
theorem c9P (w0:Int) (w9:LD) (w14:Int) (k0:Bool→Option R):b0f N w0 w9 w14 k0=(b8X N w0 w9 w14).bind k0:=by
 unfold b8X b0f
 repeat' (first|with_reducible apply a0f|(with_reducible apply a0m;intro _)|rfl)
def c60:Sh:={tmps:=[(1,.c (.p 1 0)),(3,.c (.i .i64)),(4,.c (.p 4 0)),(43,.c (.sl 70)),(44,.c (.i .i64)),(45,.c (.i .i64))],mem:=[(1,.box (.s::[.i .i64,.i .i64,.sl 70,.sl 65,.sl 9])),(4,.box (rI 7 ([])))]}
def c2f (L:List Lf) (p:Bool):Ex×St:=(.normal,mg (a0v c60 L) [1,4,43,44,45,50] [(50,.c (.b p))] [1,4] [])
def e5Y (L:List Lf):List (Bool×(Ex×St)):=bnd (b0f N (li L 0) (ll L 9) (li L 14) (fun p=>some p)) fun q=>[(q.isSome,c2f L (q.getD default))]
theorem d45 (L:List Lf):pc Tryz.prog (b5V N) (e3f N).h 0 100 5 40 c60 L [1,4,43,44,45,50] [1,4]=b0f N (li L 0) (ll L 9) (li L 14) (fun p=>some (c2f L p)):=by kernel_rfl
def e3g:Sg Tryz.prog 0 5:=
 (e3f N).cut (e5Y N) a0b (a3m N) fun L x hx=>(d45 N L).trans ((c9P N ..).trans (a0N x hx))
def a4r (w0:Int) (w5:Bool) (w10:LD) (w15:Int) (k0:Bool→Option R):Option R:=
 bif w5 then
  k0 true
 else
  bnd (b8X N w0 w10 w15) fun y0=>
  bif y0.isSome then
   k0 (y0.getD default)
  else
   none
def a4s (w0:Int) (w5:Bool) (w10:LD) (w15:Int):Option (Bool):=a4r N w0 w5 w10 w15 (fun p=>some p)
theorem b8Y (w0:Int) (w5:Bool) (w10:LD) (w15:Int) (k0:Bool→Option R):a4r N w0 w5 w10 w15 k0=(a4s N w0 w5 w10 w15).bind k0:=by
 unfold a4s a4r
 repeat' (first|with_reducible apply a0f|(with_reducible apply a0m;intro _)|rfl)
def b6V (L:List Lf) (k0:Bool→Option R):Option R:=a4r N (li L 0) (lb L 5) (ll L 10) (li L 15) k0
def b4o:Sh:={tmps:=[(1,.c (.p 1 0)),(3,.c (.i .i64)),(4,.c (.p 4 0)),(43,.c (.sl 70)),(44,.c (.i .i64)),(45,.c (.i .i64)),(50,.c (.b))],mem:=[(1,.box (.s::[.i .i64,.i .i64,.sl 70,.sl 65,.sl 9])),(4,.box (rI 7 ([])))]}
def b1j (L:List Lf) (p:Bool):Ex×St:=(.normal,mg (a0v b4o L) [1,4,43,44,45,50] [(50,.c (.b p))] [1,4] [])
def c9Q (L:List Lf):List (Bool×(Ex×St)):=bnd (b6V N L (fun p=>some p)) fun q=>[(q.isSome,b1j L (q.getD default))]
theorem c2g (L:List Lf):pc Tryz.prog (b5V N) (e3g N).h 0 100 5 39002 b4o L [1,4,43,44,45,50] [1,4]=b6V N L (fun p=>some (b1j L p)):=by kernel_rfl
def e3h:Sg Tryz.prog 0 5:=
 (e3g N).cut (c9Q N) a0b (a3m N) fun L x hx=>(c2g N L).trans ((b8Y N ..).trans (a0N x hx))
def b4p (w6 w13 w14 w15 w16 w17 w18 w19:Int) (k0:Bool→R):R:=
 bnd (bif (decide (w13>1000000)) then true else (decide ((IntKind.wrap .i64 (w6+w13))>86399999999))) fun y0=>
 bif y0 then
  k0 true
 else
  bnd (e0o N w14 w15 w16 w17 w18 w19) fun y1=>
  k0 (!y1)
def b4q (w6 w13 w14 w15 w16 w17 w18 w19:Int):Bool:=b4p N w6 w13 w14 w15 w16 w17 w18 w19 (fun p=>p)
theorem d46 (w6 w13 w14 w15 w16 w17 w18 w19:Int) (k0:Bool→R):b4p N w6 w13 w14 w15 w16 w17 w18 w19 k0=k0 (b4q N w6 w13 w14 w15 w16 w17 w18 w19):=by
 unfold b4q b4p
 repeat' (first|rfl|apply a0W|(apply a1D;intro _))
def d47 (L:List Lf) (k0:Bool→R):R:=b4p N (li L 6) (li L 13) (li L 14) (li L 15) (li L 16) (li L 17) (li L 18) (li L 19) k0
def c61:Sh:={tmps:=[(1,.c (.p 1 0)),(4,.c (.p 4 0)),(43,.c (.sl 70)),(44,.c (.i .i64)),(45,.c (.i .i64))],mem:=[(1,.box (.s::[.i .i64,.i .i64,.sl 70,.sl 65,.sl 9])),(4,.box (rI 7 ([])))]}
def c2h (L:List Lf) (p:Bool):Ex×St:=(.normal,mg (a0v c61 L) [1,43,44,45,72] [(72,.c (.b p))] [1] [])
def e5Z (L:List Lf):List (Bool×(Ex×St)):=bnd (d47 N L (fun p=>p)) fun q=>[(true,c2h L q)]
theorem d48 (L:List Lf):pc Tryz.prog (b5V N) (e3h N).h 0 100 5 46 c61 L [1,43,44,45,72] [1]=d47 N L (fun p=>some (c2h L p)):=by kernel_rfl
def e3i:Sg Tryz.prog 0 5:=
 (e3h N).cut (e5Z N) a0b (a3m N) fun L x hx=>(d48 N L).trans ((d46 N ..).trans (a5j _ _ hx))
def b0g (w1:LD) (w2 w6:Int) (w8:LD) (w3:Int) (kr:Int→Option R) (k0:Int→Option R) (k1:Unit→Option R):Option R:=
 bif (decide (w3<w2)) then
  bif (inB w3 w1.length) then
   bnd (bif (w3==0) then (((w1.getD w3.toNat (.i 0)).cell 0).toI !=0) else false) fun y0=>
   bnd (a4s N w3 y0 w8 ((w1.getD w3.toNat (.i 0)).cell 0).toI) fun y1=>
   bif y1.isSome then
    bif (y1.getD default) then
     k0 10
    else
     bnd (b4q N w6 ((w1.getD w3.toNat (.i 0)).cell 0).toI ((w1.getD w3.toNat (.i 0)).cell 1).toI ((w1.getD w3.toNat (.i 0)).cell 2).toI ((w1.getD w3.toNat (.i 0)).cell 3).toI ((w1.getD w3.toNat (.i 0)).cell 4).toI ((w1.getD w3.toNat (.i 0)).cell 5).toI ((w1.getD w3.toNat (.i 0)).cell 6).toI) fun y2=>
     bif y2 then
      k0 9
     else
      kr (IntKind.wrap .i64 (w3+1))
   else
    none
  else
   none
 else
  k1 ()
def b8Z (N:Nat) {R:Type} (w1:LD) (w2 w6:Int) (w8:LD):Nat→Int→(Int→Option R)→(Unit→Option R)→Option R
 |0,_,_,_=>none
 |m+1,w3,k0,k1=>b0g N w1 w2 w6 w8 w3 (fun w3=>b8Z N w1 w2 w6 w8 m w3 k0 k1) k0 k1
def c4V (w1:LD) (w2 w6:Int) (w8:LD) (w3:Int):Option (Sum (Int) (Unit)):=b8Z N (R:=(Sum (Int) (Unit))) w1 w2 w6 w8 N w3 (fun p=>some (.inl p)) (fun p=>some (.inr p))
def b4r (L x:List Lf) (kr:List Lf→Option R) (k0:Int→Option R) (k1:Unit→Option R):Option R:=b0g N (ll L 1) (li L 2) (li L 6) (ll L 8) (li x 0) (fun w3=>kr [.i w3]) k0 k1
theorem c62 (L x:List Lf) (kr:List Lf→Option R) (k0:Int→Option R) (k1:Unit→Option R):b4r N L x kr k0 k1=(b4r N L x (fun y=>some (.inl y)) (fun p=>some (.inr (.inl p))) (fun p=>some (.inr (.inr p)))).bind (a1a kr (a1a k0 k1)):=by
 unfold b4r b0g
 repeat' (first|with_reducible apply a0f|(with_reducible apply a0m;intro _)|rfl)
def b80 (L:List Lf) (m:Nat) (x:List Lf):Option (Sum (Int) (Unit)):=b8Z N (R:=(Sum (Int) (Unit))) (ll L 1) (li L 2) (li L 6) (ll L 8) m (li x 0) (fun p=>some (.inl p)) (fun p=>some (.inr p))
def a4Y:Sh:={tmps:=[(1,.c (.p 1 0)),(43,.c (.sl 70)),(44,.c (.i .i64)),(45,.c (.i .i64))],mem:=[(1,.box (.s::[.i .i64,.i .i64,.sl 70,.sl 65,.sl 9]))]}
def c2i (L:List Lf) (p:Int):Ex×St:=(.ret,mg (a0v a4Y L) [2] [(2,.c (.i .i64 p))] [1] [])
def e50 (L:List Lf):List (Bool×(Ex×St)):=bnd (b80 N L N (pk a4Y [3] L)) fun q=>[((a0O q),c2i L (a01 q)),((a0l q).isSome,((.exit 1),mg (a0v a4Y L) [1] [] [1] []))]
theorem c9R (m:Nat) (kn:St→Option (Ex×St)) (L x:List Lf):lpB Tryz.prog (b5V N) (e3i N).h 0 5 30 a4Y [3] [1,2] [1] (m+100) kn L x=b4r N L x (fun y=>kn (a0v a4Y (mx a4Y [3] L y))) (fun p=>some (c2i L p)) (fun _=>some ((.exit 1),mg (a0v a4Y L) [1] [] [1] [])):=by kernel_rfl
theorem e0t (L:List Lf) (m:Nat) (x:List Lf):b80 N L (m+1) x=b4r N L x (b80 N L m) (fun p=>some (.inl p)) (fun p=>some (.inr p)):=by kernel_rfl
def e3j:Sg Tryz.prog 0 5:=
 (e3i N).lp (e50 N) N a0b (a3m N) (fun m kn L x=>(c9R N m kn L x).trans (c62 N L x _ _ _)) (fun L m x=>(e0t N L m x).trans (c62 N L x (b80 N L m) (fun p=>some (.inl p)) (fun p=>some (.inr p)))) fun L x hx=>(a27 a0N) x hx
def b0h (N:Nat) (w1:Int) (w12:LD) (w15:Int) (k0:Bool→Option R):Option R:=
 bif (decide (w1>0)) then
  bif (inB (IntKind.wrap .i64 (w1-1)) w12.length) then
   bnd ((w12.getD (IntKind.wrap .i64 (w1-1)).toNat (.i 0)).cell 1).toI fun y0=>
   k0 (decide (w15<y0))
  else
   none
 else
  k0 false
def b4s (w1:Int) (w12:LD) (w15:Int):Option (Bool):=b0h N w1 w12 w15 (fun p=>some p)
theorem c9S (w1:Int) (w12:LD) (w15:Int) (k0:Bool→Option R):b0h N w1 w12 w15 k0=(b4s N w1 w12 w15).bind k0:=by
 unfold b4s b0h
 repeat' (first|with_reducible apply a0f|(with_reducible apply a0m;intro _)|rfl)
def c63:Sh:={tmps:=[(1,.c (.p 1 0)),(5,.c (.i .i64)),(6,.c (.i .i64)),(7,.c (.p 7 0)),(93,.c (.sl 65)),(94,.c (.i .i64)),(95,.c (.i .i64))],mem:=[(1,.box (.s::[.i .i64,.i .i64,.sl 70,.sl 65,.sl 9])),(7,.box ([.i .i64,.i .i64,.s]))]}
def c2j (L:List Lf) (p:Bool):Ex×St:=(.normal,mg (a0v c63 L) [1,5,7,93,94,95,117] [(117,.c (.b p))] [1,7] [])
def e51 (L:List Lf):List (Bool×(Ex×St)):=bnd (b0h N (li L 1) (ll L 12) (li L 15) (fun p=>some p)) fun q=>[(q.isSome,c2j L (q.getD default))]
theorem d49 (L:List Lf):pc Tryz.prog (b5V N) (e3j N).h 0 100 5 73 c63 L [1,5,7,93,94,95,117] [1,7]=b0h N (li L 1) (ll L 12) (li L 15) (fun p=>some (c2j L p)):=by kernel_rfl
def e3k:Sg Tryz.prog 0 5:=
 (e3j N).cut (e51 N) a0b (a3m N) fun L x hx=>(d49 N L).trans ((c9S N ..).trans (a0N x hx))
def b0i (w0:Int) (w2:LD) (w3:Int) (w11:LD) (w4:Int) (kr:Int→Option R) (k0:Int→Option R) (k1:Unit→Option R):Option R:=
 bif (decide (w4<w3)) then
  bif (inB w4 w2.length) then
   bnd (bif (decide (((w2.getD w4.toNat (.i 0)).cell 0).toI<0)) then true else (decide (((w2.getD w4.toNat (.i 0)).cell 0).toI≥((w2.getD w4.toNat (.i 0)).cell 1).toI))) fun y0=>
   bnd (bif y0 then true else (decide (((w2.getD w4.toNat (.i 0)).cell 1).toI>w0))) fun y1=>
   bif y1 then
    k0 9
   else
    bnd (b4s N w4 w11 ((w2.getD w4.toNat (.i 0)).cell 0).toI) fun y2=>
    bif y2.isSome then
     bif (y2.getD default) then
      k0 10
     else
      bnd (d43 N ((w2.getD w4.toNat (.i 0)).cell 2).toS) fun y3=>
      bif y3.isSome then
       bif (!(y3.getD default)) then
        k0 8
       else
        kr (IntKind.wrap .i64 (w4+1))
      else
       none
    else
     none
  else
   none
 else
  k1 ()
def b81 (N:Nat) {R:Type} (w0:Int) (w2:LD) (w3:Int) (w11:LD):Nat→Int→(Int→Option R)→(Unit→Option R)→Option R
 |0,_,_,_=>none
 |m+1,w4,k0,k1=>b0i N w0 w2 w3 w11 w4 (fun w4=>b81 N w0 w2 w3 w11 m w4 k0 k1) k0 k1
def c4W (w0:Int) (w2:LD) (w3:Int) (w11:LD) (w4:Int):Option (Sum (Int) (Unit)):=b81 N (R:=(Sum (Int) (Unit))) w0 w2 w3 w11 N w4 (fun p=>some (.inl p)) (fun p=>some (.inr p))
def b4t (L x:List Lf) (kr:List Lf→Option R) (k0:Int→Option R) (k1:Unit→Option R):Option R:=b0i N (li L 0) (ll L 2) (li L 3) (ll L 11) (li x 0) (fun w4=>kr [.i w4]) k0 k1
theorem c64 (L x:List Lf) (kr:List Lf→Option R) (k0:Int→Option R) (k1:Unit→Option R):b4t N L x kr k0 k1=(b4t N L x (fun y=>some (.inl y)) (fun p=>some (.inr (.inl p))) (fun p=>some (.inr (.inr p)))).bind (a1a kr (a1a k0 k1)):=by
 unfold b4t b0i
 repeat' (first|with_reducible apply a0f|(with_reducible apply a0m;intro _)|rfl)
def b82 (L:List Lf) (m:Nat) (x:List Lf):Option (Sum (Int) (Unit)):=b81 N (R:=(Sum (Int) (Unit))) (li L 0) (ll L 2) (li L 3) (ll L 11) m (li x 0) (fun p=>some (.inl p)) (fun p=>some (.inr p))
def a4Z:Sh:={tmps:=[(1,.c (.p 1 0)),(5,.c (.i .i64)),(93,.c (.sl 65)),(94,.c (.i .i64)),(95,.c (.i .i64))],mem:=[(1,.box (.s::[.i .i64,.i .i64,.sl 70,.sl 65,.sl 9]))]}
def c2k (L:List Lf) (p:Int):Ex×St:=(.ret,mg (a0v a4Z L) [2] [(2,.c (.i .i64 p))] [1] [])
def e52 (L:List Lf):List (Bool×(Ex×St)):=bnd (b82 N L N (pk a4Z [4] L)) fun q=>[((a0O q),c2k L (a01 q)),((a0l q).isSome,((.exit 4),mg (a0v a4Z L) [1] [] [1] []))]
theorem c9T (m:Nat) (kn:St→Option (Ex×St)) (L x:List Lf):lpB Tryz.prog (b5V N) (e3k N).h 0 5 60 a4Z [4] [1,2] [1] (m+100) kn L x=b4t N L x (fun y=>kn (a0v a4Z (mx a4Z [4] L y))) (fun p=>some (c2k L p)) (fun _=>some ((.exit 4),mg (a0v a4Z L) [1] [] [1] [])):=by kernel_rfl
theorem e0u (L:List Lf) (m:Nat) (x:List Lf):b82 N L (m+1) x=b4t N L x (b82 N L m) (fun p=>some (.inl p)) (fun p=>some (.inr p)):=by kernel_rfl
def e3l:Sg Tryz.prog 0 5:=
 (e3k N).lp (e52 N) N a0b (a3m N) (fun m kn L x=>(c9T N m kn L x).trans (c64 N L x _ _ _)) (fun L m x=>(e0u N L m x).trans (c64 N L x (b82 N L m) (fun p=>some (.inl p)) (fun p=>some (.inr p)))) fun L x hx=>(a27 a0N) x hx
def b0j (w1:LD) (w2:Int) (w12:LD) (w3:Int) (kr:Int→Option R) (k0:Int→Option R) (k1:Unit→Option R):Option R:=
 bif (decide (w3<w2)) then
  bif (inB w3 w1.length) then
   bnd (c9K N (w1.getD w3.toNat (.i 0)).toS) fun y0=>
   bif y0.isSome then
    bif (!(y0.getD default)) then
     k0 8
    else
     bif (bif (inB (IntKind.wrap .i64 (w3-1)) w12.length) then true else (!((decide (w3>0))==true))) then
      bnd (bif (decide (w3>0)) then ((Op.bytesLess (w1.getD w3.toNat (.i 0)).toS (w12.getD (IntKind.wrap .i64 (w3-1)).toNat (.i 0)).toS)||((w1.getD w3.toNat (.i 0)).toS==(w12.getD (IntKind.wrap .i64 (w3-1)).toNat (.i 0)).toS)) else false) fun y1=>
      bif y1 then
       k0 10
      else
       kr (IntKind.wrap .i64 (w3+1))
     else
      none
   else
    none
  else
   none
 else
  k1 ()
def b83 (N:Nat) {R:Type} (w1:LD) (w2:Int) (w12:LD):Nat→Int→(Int→Option R)→(Unit→Option R)→Option R
 |0,_,_,_=>none
 |m+1,w3,k0,k1=>b0j N w1 w2 w12 w3 (fun w3=>b83 N w1 w2 w12 m w3 k0 k1) k0 k1
def c4X (w1:LD) (w2:Int) (w12:LD) (w3:Int):Option (Sum (Int) (Unit)):=b83 N (R:=(Sum (Int) (Unit))) w1 w2 w12 N w3 (fun p=>some (.inl p)) (fun p=>some (.inr p))
def b4u (L x:List Lf) (kr:List Lf→Option R) (k0:Int→Option R) (k1:Unit→Option R):Option R:=b0j N (ll L 1) (li L 2) (ll L 12) (li x 0) (fun w3=>kr [.i w3]) k0 k1
theorem c65 (L x:List Lf) (kr:List Lf→Option R) (k0:Int→Option R) (k1:Unit→Option R):b4u N L x kr k0 k1=(b4u N L x (fun y=>some (.inl y)) (fun p=>some (.inr (.inl p))) (fun p=>some (.inr (.inr p)))).bind (a1a kr (a1a k0 k1)):=by
 unfold b4u b0j
 repeat' (first|with_reducible apply a0f|(with_reducible apply a0m;intro _)|rfl)
def b84 (L:List Lf) (m:Nat) (x:List Lf):Option (Sum (Int) (Unit)):=b83 N (R:=(Sum (Int) (Unit))) (ll L 1) (li L 2) (ll L 12) m (li x 0) (fun p=>some (.inl p)) (fun p=>some (.inr p))
def b2s:Sh:={tmps:=[(1,.c (.p 1 0)),(139,.c (.sl 9)),(140,.c (.i .i64)),(141,.c (.i .i64))],mem:=[(1,.box (.s::[.i .i64,.i .i64,.sl 70,.sl 65,.sl 9]))]}
def e53 (L:List Lf):List (Bool×(Ex×St)):=bnd (b84 N L N (pk b2s [3] L)) fun q=>[((a0O q),(.ret,⟨[(2,.c (.i .i64 (a01 q)))],[]⟩)),((a0l q).isSome,((.exit 7),⟨[],[]⟩))]
theorem c9U (m:Nat) (kn:St→Option (Ex×St)) (L x:List Lf):lpB Tryz.prog (b5V N) (e3l N).h 0 5 90 b2s [3] [2] [] (m+100) kn L x=b4u N L x (fun y=>kn (a0v b2s (mx b2s [3] L y))) (fun p=>some (.ret,⟨[(2,.c (.i .i64 p))],[]⟩)) (fun _=>some ((.exit 7),⟨[],[]⟩)):=by kernel_rfl
theorem e0v (L:List Lf) (m:Nat) (x:List Lf):b84 N L (m+1) x=b4u N L x (b84 N L m) (fun p=>some (.inl p)) (fun p=>some (.inr p)):=by kernel_rfl
def e3m:Sg Tryz.prog 0 5:=
 (e3l N).lp (e53 N) N a0b (a3m N) (fun m kn L x=>(c9U N m kn L x).trans (c65 N L x _ _ _)) (fun L m x=>(e0v N L m x).trans (c65 N L x (b84 N L m) (fun p=>some (.inl p)) (fun p=>some (.inr p)))) fun L x hx=>(a27 a0N) x hx
def f0V (v0 :LB) (v1 v2:Int) (v4 v6 v8:LD) (k0:Int→Option R):Option R:=
 bnd (c9K N v0) fun y0=>
 bif y0.isSome then
  bif (!(y0.getD default)) then
   k0 8
  else
   bnd (a26 N v1 1 5) fun y1=>
   bif (!y1) then
    k0 7
   else
    bnd (a26 N v2 0 86399999999) fun y2=>
    bif (!y2) then
     k0 9
    else
     bnd (bif (decide ((v4.length:Int)>20000)) then true else (decide ((v6.length:Int)>200))) fun y3=>
     bnd (bif y3 then true else (decide ((v8.length:Int)>20))) fun y4=>
     bif y4 then
      k0 3
     else
      bnd (c4V N v4 (v4.length:Int) v2 v4 0) fun y5=>
      bif (a0O y5) then
       k0 (a01 y5)
      else
       bif (a0l y5).isSome then
        bnd (c9M N v4) fun y6=>
        bif y6.isSome then
         bnd (c4W N (y6.getD default) v6 (v6.length:Int) v6 0) fun y7=>
         bif (a0O y7) then
          k0 (a01 y7)
         else
          bif (a0l y7).isSome then
           bnd (c4X N v8 (v8.length:Int) v8 0) fun y8=>
           bif (a0O y8) then
            k0 (a01 y8)
           else
            bif (a0l y8).isSome then
             k0 0
            else
             none
          else
           none
        else
         none
       else
        none
 else
  none
def e0w (v0:LB) (v1 v2:Int) (v4 v6 v8:LD):Option (Int):=f0V N v0 v1 v2 v4 v6 v8 (fun p=>some p)
theorem e54 (v0:LB) (v1 v2:Int) (v4 v6 v8:LD) (k0:Int→Option R):f0V N v0 v1 v2 v4 v6 v8 k0=(e0w N v0 v1 v2 v4 v6 v8).bind k0:=by
 unfold e0w f0V
 repeat' (first|with_reducible apply a0f|(with_reducible apply a0m;intro _)|rfl)
def f5w (L:List Lf) (k0:Int→Option R):Option R:=f0V N (ls L 0) (li L 1) (li L 2) (ll L 4) (ll L 6) (ll L 8) k0
def e55:Sh:={tmps:=[(0,.g (.s::[.i .i64,.i .i64,.sl 70,.sl 65,.sl 9]))],mem:=[]}
def f5x (L:List Lf):List (Bool×Res):=bnd (f5w N L (fun p=>some p)) fun q=>[(q.isSome,([.c (.i .i64 (q.getD default))],[]))]
theorem f0W (L:List Lf):bd Tryz.prog (b5V N) (e3m N).h 5 e55 L=f5w N L (fun p=>some ([.c (.i .i64 p)],[])):=by kernel_rfl
theorem f4B:a0G Tryz.prog 5 e55 (f5x N):=
 (e3m N).fn a0b (a3m N) fun L x hx=>((f0W N L).trans ((e54 N ..).trans (a0N x hx)))
def f4C:a0e:=ext 5 (a1E e55 (f5x N)) (b5V N)
theorem d5a:a0c Tryz.prog (f4C N):=a0G.to (f4B N) (a3m N)
def f0X:List (Nat×List Nat):=[(0,[0]),(1,[0,2])]
def f0Y:a0E:=[]
def d5b (N:Nat):Sg Tryz.prog 0 13:= .start f0Y f0X true
def e0x (N:Nat) (k0:Unit→R):R:=
 k0 ()
def f0Z:Unit:=e0x N (fun p=>p)
theorem e56 (k0:Unit→R):e0x N k0=k0 (f0Z N):=by
 unfold f0Z e0x
 repeat' (first|rfl|apply a0W|(apply a1D;intro _))
def d5c:Sh:={tmps:=[(0,.c (.i .i64))],mem:=[]}
def f00 (N:Nat) (L:List Lf):List (Bool×Res):=[(true,([.g [.i .i64 (li L 0),.i .i64 60,.i .i64 2]],[]))]
theorem e57 (L:List Lf):bd Tryz.prog (f4C N) (d5b N).h 13 d5c L=e0x N (fun _=>some ([.g [.i .i64 (li L 0),.i .i64 60,.i .i64 2]],[])):=by kernel_rfl
theorem f01:a0G Tryz.prog 13 d5c (f00 N):=
 (d5b N).fn a0b (d5a N) fun L x hx=>((e57 N L).trans ((e56 N ..).trans (a5j _ _ hx)))
def e58:a0e:=ext 13 (a1E d5c (f00 N)) (f4C N)
theorem c66:a0c Tryz.prog (e58 N):=a0G.to (f01 N) (d5a N)
def f02:List (Nat×List Nat):=[(0,[0,1,2,3])]
def f03:a0E:=[]
def d5d (N:Nat):Sg Tryz.prog 1 14:= .start f03 f02
def e0y (N:Nat) (v0 v1:Int) (v2:Bool) (v3:LD) (v6:Bool) (k0:LD→R):R:=
 k0 [(.a [(.i 1),(.i v0),(.i 0),(.l false [(.a [(.b v6),(.i v1),(.l v2 v3)])]),(.l true [])])]
def e0z (v0 v1:Int) (v2:Bool) (v3:LD) (v6:Bool):LD:=e0y N v0 v1 v2 v3 v6 (fun p=>p)
theorem e59 (v0 v1:Int) (v2:Bool) (v3:LD) (v6:Bool) (k0:LD→R):e0y N v0 v1 v2 v3 v6 k0=k0 (e0z N v0 v1 v2 v3 v6):=by
 unfold e0z e0y
 repeat' (first|rfl|apply a0W|(apply a1D;intro _))
def f04 (L:List Lf) (k0:LD→R):R:=e0y N (li L 0) (li L 1) (lb L 2) (ll L 3) (lb L 6) k0
def d5e:Sh:={tmps:=[(0,.c (.p 0 0)),(1,.c (.i .i64)),(2,.c (.i .i64)),(3,.c (.sl 37))],mem:=[(0,.box ([.nsl 44,.b]))]}
def d5f (L:List Lf) (p:LD):Res:=([],[(0,.box [.o 26,.b (lb L 6)]),(26,.row 44 true false p)])
def f05 (L:List Lf):List (Bool×Res):=bnd (f04 N L (fun p=>p)) fun q=>[(true,d5f L q)]
theorem e6a (L:List Lf):bd Tryz.prog (e58 N) (d5d N).h 14 d5e L=f04 N L (fun p=>some (d5f L p)):=by kernel_rfl
theorem f06:a0G Tryz.prog 14 d5e (f05 N):=
 (d5d N).fn a0b (c66 N) fun L x hx=>((e6a N L).trans ((e59 N ..).trans (a5j _ _ hx)))
def e0A:a0e:=ext 14 (a1E d5e (f05 N)) (e58 N)
theorem b85:a0c Tryz.prog (e0A N):=a0G.to (f06 N) (c66 N)
def f07:List (Nat×List Nat):=[(0,[1,3,2,0]),(1,[1,3,2,0]),(2,[2,0]),(3,[1,2,0])]
def f08:a0E:=[(8,[0,1,2,14],[0,1],[])]
def d5g (N:Nat):Sg Tryz.prog 2 16:= .start f08 f07
def a40 (w0 w1:Int) (w2:Bool) (k0:Int→Option R):Option R:=
 bif w2 then
  bnd (a8u N w1 false) fun y0=>
  bif y0.isSome then
   k0 (y0.getD default)
  else
   none
 else
  k0 w0
def a7u (w0 w1:Int) (w2:Bool):Option (Int):=a40 N w0 w1 w2 (fun p=>some p)
theorem c9V (w0 w1:Int) (w2:Bool) (k0:Int→Option R):a40 N w0 w1 w2 k0=(a7u N w0 w1 w2).bind k0:=by
 unfold a7u a40
 repeat' (first|with_reducible apply a0f|(with_reducible apply a0m;intro _)|rfl)
def c67:Sh:={tmps:=[(0,.c (.p 0 0)),(1,.c (.i .i64)),(2,.c (.i .i64)),(14,.c (.b))],mem:=[(0,.box ([.o 1,.b])),(1,.row 44 true)]}
def c2l (L:List Lf) (p:Int):Ex×St:=(.normal,mg (a0v c67 L) [0,1,2] [(1,.c (.i .i64 p))] [0,1] [])
def e6b (L:List Lf):List (Bool×(Ex×St)):=bnd (a40 N (li L 0) (li L 1) (lb L 2) (fun p=>some p)) fun q=>[(q.isSome,c2l L (q.getD default))]
theorem d5h (L:List Lf):pc Tryz.prog (e0A N) (d5g N).h 2 100 16 8 c67 L [0,1,2] [0,1]=a40 N (li L 0) (li L 1) (lb L 2) (fun p=>some (c2l L p)):=by kernel_rfl
def d5i:Sg Tryz.prog 2 16:=
 (d5g N).cut (e6b N) a0b (b85 N) fun L x hx=>(d5h N L).trans ((c9V N ..).trans (a0N x hx))
def c2m (v0 v1:Int) (v2 v3:Bool) (k0:LD→Option R):Option R:=
 bnd (a7u N v0 v1 (bif (decide (v0<0)) then (!v2) else false)) fun y0=>
 bif y0.isSome then
  bnd (a8I N (y0.getD default) v1 v3) fun y1=>
  bif y1.isSome then
   k0 (y1.getD default)
  else
   none
 else
  none
def a3S (v0 v1:Int) (v2 v3:Bool):Option (LD):=c2m N v0 v1 v2 v3 (fun p=>some p)
theorem e0B (v0 v1:Int) (v2 v3:Bool) (k0:LD→Option R):c2m N v0 v1 v2 v3 k0=(a3S N v0 v1 v2 v3).bind k0:=by
 unfold a3S c2m
 repeat' (first|with_reducible apply a0f|(with_reducible apply a0m;intro _)|rfl)
def f09 (L:List Lf) (k0:LD→Option R):Option R:=c2m N (li L 0) (li L 1) (lb L 2) (lb L 3) k0
def c2n:Sh:={tmps:=[(0,.c (.p 0 0)),(1,.c (.i .i64)),(2,.c (.i .i64)),(3,.c (.b))],mem:=[(0,.box ([.o 1,.b])),(1,.row 44 true)]}
def f1a (L:List Lf):List (Bool×Res):=bnd (f09 N L (fun p=>some p)) fun q=>[(q.isSome,([.c (.sl 5 false (q.getD default))],mgA (a0v c2n L).mem [] [0,1]))]
theorem e6c (L:List Lf):bd Tryz.prog (e0A N) (d5i N).h 16 c2n L=f09 N L (fun p=>some ([.c (.sl 5 false p)],mgA (a0v c2n L).mem [] [0,1])):=by kernel_rfl
theorem f1b:a0G Tryz.prog 16 c2n (f1a N):=
 (d5i N).fn a0b (b85 N) fun L x hx=>((e6c N L).trans ((e0B N ..).trans (a0N x hx)))
def e6d:a0e:=ext 16 (a1E c2n (f1a N)) (e0A N)
theorem c68:a0c Tryz.prog (e6d N):=a0G.to (f1b N) (b85 N)
def f1c:List (Nat×List Nat):=[(0,[0]),(1,[0]),(2,[3,0]),(3,[3])]
def f1d:a0E:=[]
def d5j (N:Nat):Sg Tryz.prog 0 17:= .start f1d f1c
def d5k (N:Nat) (v0:LB) (k0:LD→R):R:=
 bnd (((a0u v0).take 60++[(.i 0),(.i 0),(.i 0),(.i 0),(.i 0),(.i 0),(.i 0),(.i 0),(.i 0),(.i 0),(.i 0),(.i 0),(.i 0),(.i 0),(.i 0),(.i 0),(.i 0),(.i 0),(.i 0),(.i 0),(.i 0),(.i 0),(.i 0),(.i 0),(.i 0),(.i 0),(.i 0),(.i 0),(.i 0),(.i 0),(.i 0),(.i 0),(.i 0),(.i 0),(.i 0),(.i 0),(.i 0),(.i 0),(.i 0),(.i 0),(.i 0),(.i 0),(.i 0),(.i 0),(.i 0),(.i 0),(.i 0),(.i 0),(.i 0),(.i 0),(.i 0),(.i 0),(.i 0),(.i 0),(.i 0),(.i 0),(.i 0),(.i 0),(.i 0),(.i 0)].drop (a0u v0).length):List D) fun y0=>
 k0 y0
def c9W (v0:LB):LD:=d5k N v0 (fun p=>p)
theorem e6e (v0:LB) (k0:LD→R):d5k N v0 k0=k0 (c9W N v0):=by
 unfold c9W d5k
 repeat' (first|rfl|apply a0W|(apply a1D;intro _))
def d5l:Sh:={tmps:=[(0,.c (.s))],mem:=[]}
def f1e (L:List Lf):List (Bool×Res):=bnd (d5k N (ls L 0) (fun p=>p)) fun q=>[(true,([.c (.sl 5 false q)],[]))]
theorem e6f (L:List Lf):bd Tryz.prog (e6d N) (d5j N).h 17 d5l L=d5k N (ls L 0) (fun p=>some ([.c (.sl 5 false p)],[])):=by kernel_rfl
theorem f1f:a0G Tryz.prog 17 d5l (f1e N):=
 (d5j N).fn a0b (c68 N) fun L x hx=>((e6f N L).trans ((e6e N ..).trans (a5j _ _ hx)))
def e0C:a0e:=ext 17 (a1E d5l (f1e N)) (e6d N)
theorem b86:a0c Tryz.prog (e0C N):=a0G.to (f1f N) (c68 N)
def f1g:List (Nat×List Nat):=[(0,[1,2,0]),(1,[2,6,0]),(2,[13,12,11,6,0]),(3,[11,13,6,12,0]),(4,[6,8,13,12,11,0]),(5,[13,12,11,6,0]),(6,[0,6])]
def f1h:a0E:=[(6,[0,6,11,12,13],[0,1,8,50008006],[50008004])]
def d5m (N:Nat):Sg Tryz.prog 2 15:= .start f1h f1g
def b4v (N:Nat) (w1:LD) (w2:Int) (w3:Int) (w12:Bool) (w13:LD) (kr:Int→Bool→LD→Option R) (k0:Bool×LD→Option R):Option R:=
 bif (decide (w3<w2)) then
  bif (inB w3 w1.length) then
   bif (decide ((w13.length+(w1.getD w3.toNat (.i 0)).items.length)*1≤a0L)&&decide ((w13.length+(w1.getD w3.toNat (.i 0)).items.length)≤a0d)) then
    kr (IntKind.wrap .i64 (w3+1)) ((w1.getD w3.toNat (.i 0)).items.isEmpty&&w12) (w13++(w1.getD w3.toNat (.i 0)).items)
   else
    none
  else
   none
 else
  k0 (w12,w13)
def b87 (N:Nat) {R:Type} (w1:LD) (w2:Int):Nat→Int→Bool→LD→(Bool×LD→Option R)→Option R
 |0,_,_,_,_=>none
 |m+1,w3,w12,w13,k0=>b4v N w1 w2 w3 w12 w13 (fun w3 w12 w13=>b87 N w1 w2 m w3 w12 w13 k0) k0
def d5n (w1:LD) (w2:Int) (w3:Int) (w12:Bool) (w13:LD):Option (Bool×LD):=b87 N (R:=(Bool×LD)) w1 w2 N w3 w12 w13 (fun p=>some p)
def b4w (L x:List Lf) (kr:List Lf→Option R) (k0:Bool×LD→Option R):Option R:=b4v N (ll L 1) (li L 2) (li x 0) (lb x 1) (ll x 2) (fun w3 w12 w13=>kr [.i w3,.b w12,.l w13]) k0
theorem c69 (L x:List Lf) (kr:List Lf→Option R) (k0:Bool×LD→Option R):b4w N L x kr k0=(b4w N L x (fun y=>some (.inl y)) (fun p=>some (.inr p))).bind (a1a kr k0):=by
 unfold b4w b4v
 repeat' (first|with_reducible apply a0f|(with_reducible apply a0m;intro _)|rfl)
def b88 (L:List Lf) (m:Nat) (x:List Lf):Option (Bool×LD):=b87 N (R:=(Bool×LD)) (ll L 1) (li L 2) m (li x 0) (lb x 1) (ll x 2) (fun p=>some p)
def a8M:Sh:={tmps:=[(0,.c (.p 0 0)),(6,.c (.p 8 0)),(11,.c (.sl 42)),(12,.c (.i .i64)),(13,.c (.i .i64))],mem:=[(0,.box ([.o 1,.b])),(1,.row 44 true),(8,.box ([.i .i64,.i .i64,.i .i64,.sl 40,.o 50008006])),(50008006,.row 5 true)]}
def c2o (L:List Lf) (p:Bool×LD):Ex×St:=((.exit 0),mg (a0v a8M L) [0,6] [] [0,1,8,50008006] [(50008006,.row 5 true p.1 p.2)])
def e6g (L:List Lf):List (Bool×(Ex×St)):=bnd (b88 N L N (pk a8M [3,12,13] L)) fun q=>[(q.isSome,c2o L (q.getD default))]
theorem c9X (m:Nat) (kn:St→Option (Ex×St)) (L x:List Lf):lpB Tryz.prog (e0C N) (d5m N).h 2 15 6 a8M [3,12,13] [0,6] [0,1,8,50008006] (m+100) kn L x=b4w N L x (fun y=>kn (a0v a8M (mx a8M [3,12,13] L y))) (fun p=>some (c2o L p)):=by kernel_rfl
theorem e0D (L:List Lf) (m:Nat) (x:List Lf):b88 N L (m+1) x=b4w N L x (b88 N L m) some:=by kernel_rfl
def d5o:Sg Tryz.prog 2 15:=
 (d5m N).lp (e6g N) N a0b (b86 N) (fun m kn L x=>(c9X N m kn L x).trans (c69 N L x _ _)) (fun L m x=>(e0D N L m x).trans (c69 N L x (b88 N L m) some)) fun L x hx=>a0N x hx
def c9Y (v0:Int) (v2 v5:LD) (k0:LD→Option R):Option R:=
 bnd (d5n N v2 (v2.length:Int) 0 true []) fun y0=>
 bif y0.isSome then
  bif (decide ((v5.length+1)*72≤a0L)&&decide ((v5.length+1)≤a0d)) then
   bnd ((v5++[(.a [(.i 2),(.i v0),(.i 0),(.l true []),(.l (y0.getD default).1 (y0.getD default).2)])]):List D) fun y1=>
   k0 y1
  else
   none
 else
  none
def b5W (v0:Int) (v2 v5:LD):Option (LD):=c9Y N v0 v2 v5 (fun p=>some p)
theorem e0E (v0:Int) (v2 v5:LD) (k0:LD→Option R):c9Y N v0 v2 v5 k0=(b5W N v0 v2 v5).bind k0:=by
 unfold b5W c9Y
 repeat' (first|with_reducible apply a0f|(with_reducible apply a0m;intro _)|rfl)
def d5p:Sh:={tmps:=[(0,.c (.p 0 0)),(1,.c (.i .i64)),(2,.c (.sl 42))],mem:=[(0,.box ([.o 1,.b])),(1,.row 44 true)]}
def d5q (L:List Lf) (p:LD):Res:=([],[(0,.box [.o 33,.b (lb L 3)]),(33,.row 44 true false p)])
def f1i (L:List Lf):List (Bool×Res):=bnd (c9Y N (li L 0) (ll L 2) (ll L 5) (fun p=>some p)) fun q=>[(q.isSome,d5q L (q.getD default))]
theorem e6h (L:List Lf):bd Tryz.prog (e0C N) (d5o N).h 15 d5p L=c9Y N (li L 0) (ll L 2) (ll L 5) (fun p=>some (d5q L p)):=by kernel_rfl
theorem f1j:a0G Tryz.prog 15 d5p (f1i N):=
 (d5o N).fn a0b (b86 N) fun L x hx=>((e6h N L).trans ((e0E N ..).trans (a0N x hx)))
def e6i:a0e:=ext 15 (a1E d5p (f1i N)) (e0C N)
theorem c7a:a0c Tryz.prog (e6i N):=a0G.to (f1j N) (b86 N)
def f1k:List (Nat×List Nat):=[(0,[0,1,2,3])]
def f1l:a0E:=[]
def d5r (N:Nat):Sg Tryz.prog 2 14:= .start f1l f1k
def d5s (N:Nat) (v0 v1:Int) (v2:Bool) (v3:LD) (v4:Bool) (v6:LD) (k0:LD→Option R):Option R:=
 bif (decide ((v6.length+1)*72≤a0L)&&decide ((v6.length+1)≤a0d)) then
  bnd ((v6++[(.a [(.i 1),(.i v0),(.i 0),(.l false [(.a [(.b v4),(.i v1),(.l v2 v3)])]),(.l true [])])]):List D) fun y0=>
  k0 y0
 else
  none
def c2p (v0 v1:Int) (v2:Bool) (v3:LD) (v4:Bool) (v6:LD):Option (LD):=d5s N v0 v1 v2 v3 v4 v6 (fun p=>some p)
theorem e0F (v0 v1:Int) (v2:Bool) (v3:LD) (v4:Bool) (v6:LD) (k0:LD→Option R):d5s N v0 v1 v2 v3 v4 v6 k0=(c2p N v0 v1 v2 v3 v4 v6).bind k0:=by
 unfold c2p d5s
 repeat' (first|with_reducible apply a0f|(with_reducible apply a0m;intro _)|rfl)
def f1m (L:List Lf) (k0:LD→Option R):Option R:=d5s N (li L 0) (li L 1) (lb L 2) (ll L 3) (lb L 4) (ll L 6) k0
def d5t:Sh:={tmps:=[(0,.c (.p 0 0)),(1,.c (.i .i64)),(2,.c (.i .i64)),(3,.c (.sl 37))],mem:=[(0,.box ([.o 1,.b])),(1,.row 44 true)]}
def d5u (L:List Lf) (p:LD):Res:=([],[(0,.box [.o 27,.b (lb L 4)]),(27,.row 44 true false p)])
def f1n (L:List Lf):List (Bool×Res):=bnd (f1m N L (fun p=>some p)) fun q=>[(q.isSome,d5u L (q.getD default))]
theorem e6j (L:List Lf):bd Tryz.prog (e6i N) (d5r N).h 14 d5t L=f1m N L (fun p=>some (d5u L p)):=by kernel_rfl
theorem f1o:a0G Tryz.prog 14 d5t (f1n N):=
 (d5r N).fn a0b (c7a N) fun L x hx=>((e6j N L).trans ((e0F N ..).trans (a0N x hx)))
def c9Z:a0e:=ext 14 (a1E d5t (f1n N)) (e6i N)
theorem a8N:a0c Tryz.prog (c9Z N):=a0G.to (f1o N) (c7a N)
def f1p:List (Nat×List Nat):=[(0,[1,2,0]),(1,[4,5,0]),(2,[5,0,4]),(3,[6,0,4]),(4,[20,6,0,4]),(5,[20,6,0,4]),(6,[6,7,20,0,4]),(7,[20,6,0,4]),(8,[6,0,4]),(9,[29,6,0,4]),(10,[29,6,0,4]),(11,[6,8,29,0,4]),(12,[29,6,0,4]),(13,[0,6,4]),(14,[4,0]),(15,[45,44,43,4,0]),(16,[45,43,4,0,44]),(17,[4,10,0,9,45,44,43]),(18,[0,11,10,9,4,45,44,43]),(19,[9,10,4,0,12,11,45,44,43]),(23,[0,12,45,44,43,4]),(20,[0,12,11,45,44,43,4]),(21,[0,11,45,44,43,4]),(22,[13,11,45,44,43,4,0]),(24,[45,44,43,4,0])]
def f1q:a0E:=[(45,[0,4,43,44,45],[0,6,50000002,42000000029],[50000000]),(58,[0,4,9,10,11,12,43,44,45],[0,6,12,84,50000002],[]),(69062,[0,4,11,12,43,44,45,97],[0,6,84,50000002],[])]
def d5v (N:Nat):Sg Tryz.prog 2 18:= .start f1q f1p
def a6t (N:Nat) (w0:Int) (w11:LD) (w16:Int) (k0:Bool→Option R):Option R:=
 bif (decide (w0>0)) then
  bif (inB (IntKind.wrap .i64 (w0-1)) w11.length) then
   bnd ((w11.getD (IntKind.wrap .i64 (w0-1)).toNat (.i 0)).cell 0).toI fun y0=>
   k0 (decide ((IntKind.wrap .i64 (w16-y0))<32))
  else
   none
 else
  k0 false
def a8O (w0:Int) (w11:LD) (w16:Int):Option (Bool):=a6t N w0 w11 w16 (fun p=>some p)
theorem c4Y (w0:Int) (w11:LD) (w16:Int) (k0:Bool→Option R):a6t N w0 w11 w16 k0=(a8O N w0 w11 w16).bind k0:=by
 unfold a8O a6t
 repeat' (first|with_reducible apply a0f|(with_reducible apply a0m;intro _)|rfl)
def c2q:Sh:={tmps:=[(0,.c (.p 0 0)),(4,.c (.p 6 0)),(9,.c (.i .i64)),(10,.c (.p 12 0)),(11,.c (.i .i64)),(12,.c (.o 84)),(43,.c (.sl 70)),(44,.c (.i .i64)),(45,.c (.i .i64))],mem:=[(0,.box ([.o 50000002,.b])),(6,.box (.s::[.i .i64,.i .i64,.sl 70,.sl 65,.sl 9])),(12,.box (rI 7 ([]))),(84,.row 42 true),(50000002,.row 44 true)]}
def b6W (L:List Lf) (p:Bool):Ex×St:=(.normal,mg (a0v c2q L) [0,4,11,12,43,44,45,97] [(97,.c (.b p))] [0,6,84,50000002] [])
def e0G (L:List Lf):List (Bool×(Ex×St)):=bnd (a6t N (li L 0) (ll L 11) (li L 16) (fun p=>some p)) fun q=>[(q.isSome,b6W L (q.getD default))]
theorem c90 (L:List Lf):pc Tryz.prog (c9Z N) (d5v N).h 2 100 18 58 c2q L [0,4,11,12,43,44,45,97] [0,6,84,50000002]=a6t N (li L 0) (ll L 11) (li L 16) (fun p=>some (b6W L p)):=by kernel_rfl
def d5w:Sg Tryz.prog 2 18:=
 (d5v N).cut (e0G N) a0b (a8N N) fun L x hx=>(c90 N L).trans ((c4Y N ..).trans (a0N x hx))
def a3H (w0:Int) (w5:Bool) (w17 w19:LD) (k0:LD→Option R) (k1:LD→Option R):Option R:=
 bif w5 then
  bif ((decide (1≤(w17.length:Int)))&&(decide ((w17.length:Int)≤(w17.length:Int)))) then
   bnd (b5W N 1 ((w17.take (w17.length:Int).toNat).drop 1) w19) fun y0=>
   bif y0.isSome then
    bnd (IntKind.wrap .i64 (((y0.getD default).length:Int)-1)) fun y1=>
    bif (inB y1 (y0.getD default).length) then
     bif (decide (y1.toNat<(y0.getD default).length)) then
      bnd (((y0.getD default).set y1.toNat (.a [(.i 3),(.i (((y0.getD default).getD y1.toNat (.i 0)).cell 1).toI),(.i (((y0.getD default).getD y1.toNat (.i 0)).cell 2).toI),(.l (((y0.getD default).getD y1.toNat (.i 0)).cell 3).isNil (((y0.getD default).getD y1.toNat (.i 0)).cell 3).items),(.l (((y0.getD default).getD y1.toNat (.i 0)).cell 4).isNil (((y0.getD default).getD y1.toNat (.i 0)).cell 4).items)])):List D) fun y2=>
      bif (decide (y1.toNat<y2.length)) then
       bnd ((y2.set y1.toNat (.a [(.i ((y2.getD y1.toNat (.i 0)).cell 0).toI),(.i ((y2.getD y1.toNat (.i 0)).cell 1).toI),(.i (w0.tmod 32)),(.l ((y2.getD y1.toNat (.i 0)).cell 3).isNil ((y2.getD y1.toNat (.i 0)).cell 3).items),(.l ((y2.getD y1.toNat (.i 0)).cell 4).isNil ((y2.getD y1.toNat (.i 0)).cell 4).items)])):List D) fun y3=>
       k0 y3
      else
       none
     else
      none
    else
     none
   else
    none
  else
   none
 else
  bnd (b5W N 1 w17 w19) fun y4=>
  bif y4.isSome then
   k1 (y4.getD default)
  else
   none
def a2T (w0:Int) (w5:Bool) (w17 w19:LD):Option (Sum (LD) (LD)):=a3H N w0 w5 w17 w19 (fun p=>some (.inl p)) (fun p=>some (.inr p))
theorem b5X (w0:Int) (w5:Bool) (w17 w19:LD) (k0:LD→Option R) (k1:LD→Option R):a3H N w0 w5 w17 w19 k0 k1=(a2T N w0 w5 w17 w19).bind (a1a k0 k1):=by
 unfold a2T a3H
 repeat' (first|with_reducible apply a0f|(with_reducible apply a0m;intro _)|rfl)
def b4x (L:List Lf) (k0:LD→Option R) (k1:LD→Option R):Option R:=a3H N (li L 0) (lb L 5) (ll L 17) (ll L 19) k0 k1
def a5T:Sh:={tmps:=[(0,.c (.p 0 0)),(4,.c (.p 6 0)),(11,.c (.i .i64)),(12,.c (.o 84)),(43,.c (.sl 70)),(44,.c (.i .i64)),(45,.c (.i .i64)),(97,.c (.b))],mem:=[(0,.box ([.o 50000002,.b])),(6,.box (.s::[.i .i64,.i .i64,.sl 70,.sl 65,.sl 9])),(84,.row 42 true),(50000002,.row 44 true)]}
def a8P (L:List Lf) (p:LD):Ex×St:=(.normal,mg (a0v a5T L) [0,4,43,44,45] [] [0,6,102000000035] [(0,.box [.o 102000000035,.b (lb L 6)]),(102000000035,.row 44 true false p)])
def a8Q (L:List Lf) (p:LD):Ex×St:=(.normal,mg (a0v a5T L) [0,4,43,44,45] [] [0,6,126000000035] [(0,.box [.o 126000000035,.b (lb L 6)]),(126000000035,.row 44 true false p)])
def c4Z (L:List Lf):List (Bool×(Ex×St)):=bnd (b4x N L (fun p=>some (.inl p)) (fun p=>some (.inr p))) fun q=>[((a0O q),a8P L (a01 q)),((a0l q).isSome,a8Q L ((a0l q).getD default))]
theorem b89 (L:List Lf):pc Tryz.prog (c9Z N) (d5w N).h 2 100 18 69062 a5T L [0,4,43,44,45] [0,6,102000000035,126000000035]=b4x N L (fun p=>some (a8P L p)) (fun p=>some (a8Q L p)):=by kernel_rfl
def d5x:Sg Tryz.prog 2 18:=
 (d5w N).cut (c4Z N) a0b (a8N N) fun L x hx=>(b89 N L).trans ((b5X N ..).trans ((a27 a0N) x hx))
def b2t (w1 :LD) (w2:Int) (w4:Bool) (w7:Int) (w9:LD) (w3:Int) (w14:Bool) (w15:LD) (kr:Int→Bool→LD→Option R) (k0:Bool×LD→Option R):Option R:=
 bif (decide (w3<w2)) then
  bif (inB w3 w1.length) then
   bnd (IntKind.wrap .i64 (w7+((w1.getD w3.toNat (.i 0)).cell 0).toI)) fun y0=>
   bnd (a3S N y0 4 false w4) fun y1=>
   bif y1.isSome then
    bnd (a3S N ((w1.getD w3.toNat (.i 0)).cell 1).toI 4 true w4) fun y2=>
    bif y2.isSome then
     bnd (a3S N ((w1.getD w3.toNat (.i 0)).cell 2).toI 4 true w4) fun y3=>
     bif y3.isSome then
      bnd (a3S N ((w1.getD w3.toNat (.i 0)).cell 3).toI 4 true w4) fun y4=>
      bif y4.isSome then
       bnd (a3S N ((w1.getD w3.toNat (.i 0)).cell 4).toI 2 false w4) fun y5=>
       bif y5.isSome then
        bnd (a3S N ((w1.getD w3.toNat (.i 0)).cell 5).toI 2 false w4) fun y6=>
        bif y6.isSome then
         bnd (a3S N ((w1.getD w3.toNat (.i 0)).cell 6).toI 2 false w4) fun y7=>
         bif y7.isSome then
          bnd (a8O N w3 w9 ((w1.getD w3.toNat (.i 0)).cell 0).toI) fun y8=>
          bif y8.isSome then
           bnd (a2T N y0 (y8.getD default) [(.l false (y1.getD default)),(.l false (y2.getD default)),(.l false (y3.getD default)),(.l false (y4.getD default)),(.l false (y5.getD default)),(.l false (y6.getD default)),(.l false (y7.getD default))] w15) fun x164=>
           bif (a0O x164) then
            kr (IntKind.wrap .i64 (w3+1)) false (a01 x164)
           else
            bif (a0l x164).isSome then
             kr (IntKind.wrap .i64 (w3+1)) false ((a0l x164).getD default)
            else
             none
          else
           none
         else
          none
        else
         none
       else
        none
      else
       none
     else
      none
    else
     none
   else
    none
  else
   none
 else
  k0 (w14,w15)
def a8R (N:Nat) {R:Type} (w1:LD) (w2:Int) (w4:Bool) (w7:Int) (w9:LD):Nat→Int→Bool→LD→(Bool×LD→Option R)→Option R
 |0,_,_,_,_=>none
 |m+1,w3,w14,w15,k0=>b2t N w1 w2 w4 w7 w9 w3 w14 w15 (fun w3 w14 w15=>a8R N w1 w2 w4 w7 w9 m w3 w14 w15 k0) k0
def c7b (w1:LD) (w2:Int) (w4:Bool) (w7:Int) (w9:LD) (w3:Int) (w14:Bool) (w15:LD):Option (Bool×LD):=a8R N (R:=(Bool×LD)) w1 w2 w4 w7 w9 N w3 w14 w15 (fun p=>some p)
def a8S (L x:List Lf) (kr:List Lf→Option R) (k0:Bool×LD→Option R):Option R:=b2t N (ll L 1) (li L 2) (lb L 4) (li L 7) (ll L 9) (li x 0) (lb x 1) (ll x 2) (fun w3 w14 w15=>kr [.i w3,.b w14,.l w15]) k0
theorem c2r (L x:List Lf) (kr:List Lf→Option R) (k0:Bool×LD→Option R):a8S N L x kr k0=(a8S N L x (fun y=>some (.inl y)) (fun p=>some (.inr p))).bind (a1a kr k0):=by
 unfold a8S b2t
 repeat' (first|with_reducible apply a0f|(with_reducible apply a0m;intro _)|rfl)
def b2u (L:List Lf) (m:Nat) (x:List Lf):Option (Bool×LD):=a8R N (R:=(Bool×LD)) (ll L 1) (li L 2) (lb L 4) (li L 7) (ll L 9) m (li x 0) (lb x 1) (ll x 2) (fun p=>some p)
def a5U:Sh:={tmps:=[(0,.c (.p 0 0)),(4,.c (.p 6 0)),(43,.c (.sl 70)),(44,.c (.i .i64)),(45,.c (.i .i64))],mem:=[(0,.box ([.o 50000002,.b])),(6,.box (.s::[.i .i64,.i .i64,.sl 70,.sl 65,.sl 9])),(50000002,.row 44 true)]}
def b6X (L:List Lf) (p:Bool×LD):Ex×St:=((.exit 4),mg (a0v a5U L) [] [] [0,50000002] [(50000002,.row 44 true p.1 p.2)])
def e0H (L:List Lf):List (Bool×(Ex×St)):=bnd (b2u N L N (pk a5U [3,14,15] L)) fun q=>[(q.isSome,b6X L (q.getD default))]
theorem c40 (m:Nat) (kn:St→Option (Ex×St)) (L x:List Lf):lpB Tryz.prog (c9Z N) (d5x N).h 2 18 45 a5U [3,14,15] [] [0,50000002] (m+100) kn L x=a8S N L x (fun y=>kn (a0v a5U (mx a5U [3,14,15] L y))) (fun p=>some (b6X L p)):=by kernel_rfl
theorem d5y (L:List Lf) (m:Nat) (x:List Lf):b2u N L (m+1) x=a8S N L x (b2u N L m) some:=by kernel_rfl
def d5z:Sg Tryz.prog 2 18:=
 (d5x N).lp (e0H N) N a0b (a8N N) (fun m kn L x=>(c40 N m kn L x).trans (c2r N L x _ _)) (fun L m x=>(d5y N L m x).trans (c2r N L x (b2u N L m) some)) fun L x hx=>a0N x hx
def d5A (v2:Int) (v4:LD) (v9 v10 v11:Int) (v12:Bool) (v14:LD) (k0:Unit→Option R) (k1:Bool×LD→Option R):Option R:=
 bif ((v4.length:Int)==0) then
  k0 ()
 else
  bnd ([(.a [(.i v9),(.i v10),(.i v11)]),(.a [(.i 0),(.i 4),(.i 1)])]:List D) fun y0=>
  bif (decide ((y0.length+1)*24≤a0L)&&decide ((y0.length+1)≤a0d)) then
   bif (decide ((((y0++[(.a [(.i 1),(.i 4),(.i 1)])]):List D).length+1)*24≤a0L)&&decide ((((y0++[(.a [(.i 1),(.i 4),(.i 1)])]):List D).length+1)≤a0d)) then
    bnd (((y0++[(.a [(.i 1),(.i 4),(.i 1)])])++[(.a [(.i 2),(.i 4),(.i 1)])]):List D) fun y1=>
    bif (decide ((y1.length+1)*24≤a0L)&&decide ((y1.length+1)≤a0d)) then
     bif (decide ((((y1++[(.a [(.i 3),(.i 2),(.i 0)])]):List D).length+1)*24≤a0L)&&decide ((((y1++[(.a [(.i 3),(.i 2),(.i 0)])]):List D).length+1)≤a0d)) then
      bnd (((y1++[(.a [(.i 3),(.i 2),(.i 0)])])++[(.a [(.i 4),(.i 2),(.i 0)])]):List D) fun y2=>
      bif (decide ((y2.length+1)*24≤a0L)&&decide ((y2.length+1)≤a0d)) then
       bnd (c2p N 1 20 false (y2++[(.a [(.i 5),(.i 2),(.i 0)])]) v12 v14) fun y3=>
       bif y3.isSome then
        bnd (c7b N v4 (v4.length:Int) v12 v2 v4 0 false (y3.getD default)) fun y4=>
        bif y4.isSome then
         k1 (y4.getD default)
        else
         none
       else
        none
      else
       none
     else
      none
    else
     none
   else
    none
  else
   none
def e0I (v2:Int) (v4:LD) (v9 v10 v11:Int) (v12:Bool) (v14:LD):Option (Sum (Unit) (Bool×LD)):=d5A N v2 v4 v9 v10 v11 v12 v14 (fun p=>some (.inl p)) (fun p=>some (.inr p))
theorem e0J (v2:Int) (v4:LD) (v9 v10 v11:Int) (v12:Bool) (v14:LD) (k0:Unit→Option R) (k1:Bool×LD→Option R):d5A N v2 v4 v9 v10 v11 v12 v14 k0 k1=(e0I N v2 v4 v9 v10 v11 v12 v14).bind (a1a k0 k1):=by
 unfold e0I d5A
 repeat' (first|with_reducible apply a0f|(with_reducible apply a0m;intro _)|rfl)
def f1r (L:List Lf) (k0:Unit→Option R) (k1:Bool×LD→Option R):Option R:=d5A N (li L 2) (ll L 4) (li L 9) (li L 10) (li L 11) (lb L 12) (ll L 14) k0 k1
def c2s:Sh:={tmps:=[(0,.c (.p 0 0)),(1,.g (.s::[.i .i64,.i .i64,.sl 70,.sl 65,.sl 9])),(2,.g ([.i .i64,.i .i64,.i .i64]))],mem:=[(0,.box ([.o 1,.b])),(1,.row 44 true)]}
def d5B (L:List Lf) (p:Bool×LD):Res:=([],[(0,.box [.o 50000002,.b (lb L 12)]),(50000002,.row 44 true p.1 p.2)])
def f1s (L:List Lf):List (Bool×Res):=bnd (f1r N L (fun p=>some (.inl p)) (fun p=>some (.inr p))) fun q=>[((a0O q),([],mgA (a0v c2s L).mem [] [0,1])),((a0l q).isSome,d5B L ((a0l q).getD default))]
theorem e6k (L:List Lf):bd Tryz.prog (c9Z N) (d5z N).h 18 c2s L=f1r N L (fun _=>some ([],mgA (a0v c2s L).mem [] [0,1])) (fun p=>some (d5B L p)):=by kernel_rfl
theorem f1t:a0G Tryz.prog 18 c2s (f1s N):=
 (d5z N).fn a0b (a8N N) fun L x hx=>((e6k N L).trans ((e0J N ..).trans ((a27 a0N) x hx)))
def c2t:a0e:=ext 18 (a1E c2s (f1s N)) (c9Z N)
theorem a41:a0c Tryz.prog (c2t N):=a0G.to (f1t N) (a8N N)
def f4D:List (Nat×List Nat):=[(0,[0,1]),(1,[2,4,1]),(2,[6,4,2,1]),(3,[6,4]),(4,[2,4,1]),(5,[4]),(6,[1,2,4]),(7,[7,2,4]),(8,[7,8,2,4]),(9,[7,8,9,2,4]),(10,[7,2,9,8,4]),(11,[2,7,9,8,4]),(12,[7,9,2,8,4]),(13,[2,7,8,9,4]),(14,[64,63,62,7,2,8,9,4]),(15,[62,64,7,63,2,8,9,4]),(16,[7,11,64,63,62,2,8,9,4]),(17,[64,63,62,7,2,8,9,4]),(18,[2,7,8,9,4]),(19,[7,8,9,2,4]),(20,[2,7,8,4]),(21,[88,87,86,7,2,8,4]),(22,[86,88,7,2,87,8,4]),(23,[7,2,13,88,87,86,8,4]),(24,[88,87,86,7,2,8,4]),(25,[7,2,8,4]),(26,[7,4])]
def f4E:a0E:=[(38,[2,4,7,8,9,55],[2,4,8,29,52000000033],[]),(42,[2,4,7,8,9,62,63,64],[2,4,8,29,50029000,61000000027],[50029000]),(59,[2,4,7,8,9,77],[2,4,8,29,50029000],[]),(63,[2,4,7,8,86,87,88],[2,4,8,29,50029000,85000000027],[50029000]),(76,[2,4,7,8],[2,4,8,29,50029000],[])]
def e3n (N:Nat):Sg Tryz.prog 0 4:= .start f4E f4D true
def b0k (w0 w15:Bool) (w17:LD) (k0:LD→Option R) (k1:Unit→Option R):Option R:=
 bif w0 then
  bnd (c2p N 3 30 false [(.a [(.i 1),(.i 60),(.i 2)])] w15 w17) fun y0=>
  bif y0.isSome then
   k0 (y0.getD default)
  else
   none
 else
  k1 ()
def b4y (w0 w15:Bool) (w17:LD):Option (Sum (LD) (Unit)):=b0k N w0 w15 w17 (fun p=>some (.inl p)) (fun p=>some (.inr p))
theorem c91 (w0 w15:Bool) (w17:LD) (k0:LD→Option R) (k1:Unit→Option R):b0k N w0 w15 w17 k0 k1=(b4y N w0 w15 w17).bind (a1a k0 k1):=by
 unfold b4y b0k
 repeat' (first|with_reducible apply a0f|(with_reducible apply a0m;intro _)|rfl)
def b9a:Sh:={tmps:=[(2,.c (.p 2 0)),(4,.c (.p 4 0)),(7,.c (.p 29 0)),(8,.c (.p 8 0)),(9,.c (.f 13 [])),(55,.c (.b))],mem:=[(2,.box (.s::[.i .i64,.i .i64,.sl 70,.sl 65,.sl 9])),(4,.box ([.sl 44])),(8,.box ([.i .i64,.i .i64,.i .i64])),(29,.box ([.o 52000000033,.b])),(52000000033,.row 44 true)]}
def c2u (L:List Lf) (p:LD):Ex×St:=(.normal,mg (a0v b9a L) [2,4,7,8,9] [] [2,4,8,29,61000000027] [(29,.box [.o 61000000027,.b (lb L 15)]),(61000000027,.row 44 true false p)])
def c2v (L:List Lf) (_:Unit):Ex×St:=(.normal,mg (a0v b9a L) [2,4,7,8,9] [] [2,4,8,29,52000000033] [])
def e6l (L:List Lf):List (Bool×(Ex×St)):=bnd (b0k N (lb L 0) (lb L 15) (ll L 17) (fun p=>some (.inl p)) (fun p=>some (.inr p))) fun q=>[((a0O q),c2u L (a01 q)),((a0l q).isSome,c2v L ())]
theorem d5C (L:List Lf):pc Tryz.prog (c2t N) (e3n N).h 0 100 4 38 b9a L [2,4,7,8,9] [2,4,8,29,52000000033,61000000027]=b0k N (lb L 0) (lb L 15) (ll L 17) (fun p=>some (c2u L p)) (fun _=>some (c2v L ())):=by kernel_rfl
def e3o:Sg Tryz.prog 0 4:=
 (e3n N).cut (e6l N) a0b (a41 N) fun L x hx=>(d5C N L).trans ((c91 N ..).trans ((a27 a0N) x hx))
def b9b (w1:LD) (w2:Int) (w3:Int) (w19:Bool) (w20:LD) (kr:Int→Bool→LD→Option R) (k0:Bool×LD→Option R):Option R:=
 bif (decide (w3<w2)) then
  bif (inB w3 w1.length) then
   bnd (c9W N (w1.getD w3.toNat (.i 0)).toS) fun y0=>
   bnd (b5W N 3 [(.l false y0)] w20) fun y1=>
   bif y1.isSome then
    kr (IntKind.wrap .i64 (w3+1)) false (y1.getD default)
   else
    none
  else
   none
 else
  k0 (w19,w20)
def b4z (N:Nat) {R:Type} (w1:LD) (w2:Int):Nat→Int→Bool→LD→(Bool×LD→Option R)→Option R
 |0,_,_,_,_=>none
 |m+1,w3,w19,w20,k0=>b9b N w1 w2 w3 w19 w20 (fun w3 w19 w20=>b4z N w1 w2 m w3 w19 w20 k0) k0
def b9c (w1:LD) (w2:Int) (w3:Int) (w19:Bool) (w20:LD):Option (Bool×LD):=b4z N (R:=(Bool×LD)) w1 w2 N w3 w19 w20 (fun p=>some p)
def b4A (L x:List Lf) (kr:List Lf→Option R) (k0:Bool×LD→Option R):Option R:=b9b N (ll L 1) (li L 2) (li x 0) (lb x 1) (ll x 2) (fun w3 w19 w20=>kr [.i w3,.b w19,.l w20]) k0
theorem c7c (L x:List Lf) (kr:List Lf→Option R) (k0:Bool×LD→Option R):b4A N L x kr k0=(b4A N L x (fun y=>some (.inl y)) (fun p=>some (.inr p))).bind (a1a kr k0):=by
 unfold b4A b9b
 repeat' (first|with_reducible apply a0f|(with_reducible apply a0m;intro _)|rfl)
def b9d (L:List Lf) (m:Nat) (x:List Lf):Option (Bool×LD):=b4z N (R:=(Bool×LD)) (ll L 1) (li L 2) m (li x 0) (lb x 1) (ll x 2) (fun p=>some p)
def a8T:Sh:={tmps:=[(2,.c (.p 2 0)),(4,.c (.p 4 0)),(7,.c (.p 29 0)),(8,.c (.p 8 0)),(9,.c (.f 13 [])),(62,.c (.sl 9)),(63,.c (.i .i64)),(64,.c (.i .i64))],mem:=[(2,.box (.s::[.i .i64,.i .i64,.sl 70,.sl 65,.sl 9])),(4,.box ([.sl 44])),(8,.box ([.i .i64,.i .i64,.i .i64])),(29,.box ([.o 50029000,.b])),(50029000,.row 44 true)]}
def c2w (L:List Lf) (p:Bool×LD):Ex×St:=((.exit 0),mg (a0v a8T L) [2,4,7,8,9] [] [2,4,8,29,50029000] [(50029000,.row 44 true p.1 p.2)])
def e6m (L:List Lf):List (Bool×(Ex×St)):=bnd (b9d N L N (pk a8T [3,19,20] L)) fun q=>[(q.isSome,c2w L (q.getD default))]
theorem c92 (m:Nat) (kn:St→Option (Ex×St)) (L x:List Lf):lpB Tryz.prog (c2t N) (e3o N).h 0 4 42 a8T [3,19,20] [2,4,5,7,8,9] [2,4,8,29,50029000] (m+100) kn L x=b4A N L x (fun y=>kn (a0v a8T (mx a8T [3,19,20] L y))) (fun p=>some (c2w L p)):=by kernel_rfl
theorem e0K (L:List Lf) (m:Nat) (x:List Lf):b9d N L (m+1) x=b4A N L x (b9d N L m) some:=by kernel_rfl
def e3p:Sg Tryz.prog 0 4:=
 (e3o N).lp (e6m N) N a0b (a41 N) (fun m kn L x=>(c92 N m kn L x).trans (c7c N L x _ _)) (fun L m x=>(e0K N L m x).trans (c7c N L x (b9d N L m) some)) fun L x hx=>a0N x hx
def b4B (w0:Bool) (w12 w13 w14:Int) (w15:Bool) (w17:LD) (k0:LD→Option R) (k1:Unit→Option R):Option R:=
 bif w0 then
  bnd (c2p N 2 19 false [(.a [(.i w12),(.i w13),(.i w14)]),(.a [(.i 1),(.i 4),(.i 0)]),(.a [(.i 2),(.i 60),(.i 2)])] w15 w17) fun y0=>
  bif y0.isSome then
   k0 (y0.getD default)
  else
   none
 else
  k1 ()
def b0l (w0:Bool) (w12 w13 w14:Int) (w15:Bool) (w17:LD):Option (Sum (LD) (Unit)):=b4B N w0 w12 w13 w14 w15 w17 (fun p=>some (.inl p)) (fun p=>some (.inr p))
theorem c93 (w0:Bool) (w12 w13 w14:Int) (w15:Bool) (w17:LD) (k0:LD→Option R) (k1:Unit→Option R):b4B N w0 w12 w13 w14 w15 w17 k0 k1=(b0l N w0 w12 w13 w14 w15 w17).bind (a1a k0 k1):=by
 unfold b0l b4B
 repeat' (first|with_reducible apply a0f|(with_reducible apply a0m;intro _)|rfl)
def d5D (L:List Lf) (k0:LD→Option R) (k1:Unit→Option R):Option R:=b4B N (lb L 0) (li L 12) (li L 13) (li L 14) (lb L 15) (ll L 17) k0 k1
def b9e:Sh:={tmps:=[(2,.c (.p 2 0)),(4,.c (.p 4 0)),(7,.c (.p 29 0)),(8,.c (.p 8 0)),(9,.c (.f 13 [])),(77,.c (.b))],mem:=[(2,.box (.s::[.i .i64,.i .i64,.sl 70,.sl 65,.sl 9])),(4,.box ([.sl 44])),(8,.box ([.i .i64,.i .i64,.i .i64])),(29,.box ([.o 50029000,.b])),(50029000,.row 44 true)]}
def c2x (L:List Lf) (p:LD):Ex×St:=(.normal,mg (a0v b9e L) [2,4,7,8] [] [2,4,8,29,85000000027] [(29,.box [.o 85000000027,.b (lb L 15)]),(85000000027,.row 44 true false p)])
def c2y (L:List Lf) (_:Unit):Ex×St:=(.normal,mg (a0v b9e L) [2,4,7,8] [] [2,4,8,29,50029000] [])
def e6n (L:List Lf):List (Bool×(Ex×St)):=bnd (d5D N L (fun p=>some (.inl p)) (fun p=>some (.inr p))) fun q=>[((a0O q),c2x L (a01 q)),((a0l q).isSome,c2y L ())]
theorem d5E (L:List Lf):pc Tryz.prog (c2t N) (e3p N).h 0 100 4 59 b9e L [2,4,7,8] [2,4,8,29,50029000,85000000027]=d5D N L (fun p=>some (c2x L p)) (fun _=>some (c2y L ())):=by kernel_rfl
def e3q:Sg Tryz.prog 0 4:=
 (e3p N).cut (e6n N) a0b (a41 N) fun L x hx=>(d5E N L).trans ((c93 N ..).trans ((a27 a0N) x hx))
def b9f (w1:LD) (w2 w6:Int) (w18:Bool) (w3:Int) (w19:Bool) (w20:LD) (kr:Int→Bool→LD→Option R) (k0:Bool×LD→Option R):Option R:=
 bif (decide (w3<w2)) then
  bif (inB w3 w1.length) then
   bnd (IntKind.wrap .i64 (w6+((w1.getD w3.toNat (.i 0)).cell 0).toI)) fun y0=>
   bnd (a3S N y0 4 false w18) fun y1=>
   bif y1.isSome then
    bnd (IntKind.wrap .i64 (w6+((w1.getD w3.toNat (.i 0)).cell 1).toI)) fun y2=>
    bnd (a3S N y2 4 false w18) fun y3=>
    bif y3.isSome then
     bnd (c9W N ((w1.getD w3.toNat (.i 0)).cell 2).toS) fun y4=>
     bnd (b5W N 2 [(.l false (y1.getD default)),(.l false (y3.getD default)),(.l false y4)] w20) fun y5=>
     bif y5.isSome then
      kr (IntKind.wrap .i64 (w3+1)) false (y5.getD default)
     else
      none
    else
     none
   else
    none
  else
   none
 else
  k0 (w19,w20)
def b4C (N:Nat) {R:Type} (w1:LD) (w2 w6:Int) (w18:Bool):Nat→Int→Bool→LD→(Bool×LD→Option R)→Option R
 |0,_,_,_,_=>none
 |m+1,w3,w19,w20,k0=>b9f N w1 w2 w6 w18 w3 w19 w20 (fun w3 w19 w20=>b4C N w1 w2 w6 w18 m w3 w19 w20 k0) k0
def b0m (w1:LD) (w2 w6:Int) (w18:Bool) (w3:Int) (w19:Bool) (w20:LD):Option (Bool×LD):=b4C N (R:=(Bool×LD)) w1 w2 w6 w18 N w3 w19 w20 (fun p=>some p)
def b4D (L x:List Lf) (kr:List Lf→Option R) (k0:Bool×LD→Option R):Option R:=b9f N (ll L 1) (li L 2) (li L 6) (lb L 18) (li x 0) (lb x 1) (ll x 2) (fun w3 w19 w20=>kr [.i w3,.b w19,.l w20]) k0
theorem c7d (L x:List Lf) (kr:List Lf→Option R) (k0:Bool×LD→Option R):b4D N L x kr k0=(b4D N L x (fun y=>some (.inl y)) (fun p=>some (.inr p))).bind (a1a kr k0):=by
 unfold b4D b9f
 repeat' (first|with_reducible apply a0f|(with_reducible apply a0m;intro _)|rfl)
def b9g (L:List Lf) (m:Nat) (x:List Lf):Option (Bool×LD):=b4C N (R:=(Bool×LD)) (ll L 1) (li L 2) (li L 6) (lb L 18) m (li x 0) (lb x 1) (ll x 2) (fun p=>some p)
def a8U:Sh:={tmps:=[(2,.c (.p 2 0)),(4,.c (.p 4 0)),(7,.c (.p 29 0)),(8,.c (.p 8 0)),(86,.c (.sl 65)),(87,.c (.i .i64)),(88,.c (.i .i64))],mem:=[(2,.box (.s::[.i .i64,.i .i64,.sl 70,.sl 65,.sl 9])),(4,.box ([.sl 44])),(8,.box ([.i .i64,.i .i64,.i .i64])),(29,.box ([.o 50029000,.b])),(50029000,.row 44 true)]}
def c2z (L:List Lf) (p:Bool×LD):Ex×St:=((.exit 2),mg (a0v a8U L) [2,4,7,8] [] [2,4,8,29,50029000] [(50029000,.row 44 true p.1 p.2)])
def e6o (L:List Lf):List (Bool×(Ex×St)):=bnd (b9g N L N (pk a8U [3,19,20] L)) fun q=>[(q.isSome,c2z L (q.getD default))]
theorem c94 (m:Nat) (kn:St→Option (Ex×St)) (L x:List Lf):lpB Tryz.prog (c2t N) (e3q N).h 0 4 63 a8U [3,19,20] [2,4,5,7,8] [2,4,8,29,50029000] (m+100) kn L x=b4D N L x (fun y=>kn (a0v a8U (mx a8U [3,19,20] L y))) (fun p=>some (c2z L p)):=by kernel_rfl
theorem e0L (L:List Lf) (m:Nat) (x:List Lf):b9g N L (m+1) x=b4D N L x (b9g N L m) some:=by kernel_rfl
def e3r:Sg Tryz.prog 0 4:=
 (e3q N).lp (e6o N) N a0b (a41 N) (fun m kn L x=>(c94 N m kn L x).trans (c7d N L x _ _)) (fun L m x=>(e0L N L m x).trans (c7d N L x (b9g N L m) some)) fun L x hx=>a0N x hx
def b4E (w2:Int) (w4:LD) (w11 w12 w13:Int) (w14:Bool) (w16:LD) (k0:Unit→Option R) (k1:Bool×LD→Option R):Option R:=
 bnd (e0I N w2 w4 w11 w12 w13 w14 w16) fun y0=>
 bif (a0O y0) then
  k0 ()
 else
  bif (a0l y0).isSome then
   k1 ((a0l y0).getD default)
  else
   none
def a42 (w2:Int) (w4:LD) (w11 w12 w13:Int) (w14:Bool) (w16:LD):Option (Sum (Unit) (Bool×LD)):=b4E N w2 w4 w11 w12 w13 w14 w16 (fun p=>some (.inl p)) (fun p=>some (.inr p))
theorem c95 (w2:Int) (w4:LD) (w11 w12 w13:Int) (w14:Bool) (w16:LD) (k0:Unit→Option R) (k1:Bool×LD→Option R):b4E N w2 w4 w11 w12 w13 w14 w16 k0 k1=(a42 N w2 w4 w11 w12 w13 w14 w16).bind (a1a k0 k1):=by
 unfold a42 b4E
 repeat' (first|with_reducible apply a0f|(with_reducible apply a0m;intro _)|rfl)
def d5F (L:List Lf) (k0:Unit→Option R) (k1:Bool×LD→Option R):Option R:=b4E N (li L 2) (ll L 4) (li L 11) (li L 12) (li L 13) (lb L 14) (ll L 16) k0 k1
def b9h:Sh:={tmps:=[(2,.c (.p 2 0)),(4,.c (.p 4 0)),(7,.c (.p 29 0)),(8,.c (.p 8 0))],mem:=[(2,.box (.s::[.i .i64,.i .i64,.sl 70,.sl 65,.sl 9])),(4,.box ([.sl 44])),(8,.box ([.i .i64,.i .i64,.i .i64])),(29,.box ([.o 50029000,.b])),(50029000,.row 44 true)]}
def c2A (L:List Lf) (_:Unit):Ex×St:=(.normal,mg (a0v b9h L) [4,7] [] [4,29,50029000] [])
def c2B (L:List Lf) (p:Bool×LD):Ex×St:=(.normal,mg (a0v b9h L) [4,7] [] [4,29,117050000002] [(29,.box [.o 117050000002,.b (lb L 14)]),(117050000002,.row 44 true p.1 p.2)])
def e6p (L:List Lf):List (Bool×(Ex×St)):=bnd (d5F N L (fun p=>some (.inl p)) (fun p=>some (.inr p))) fun q=>[((a0O q),c2A L ()),((a0l q).isSome,c2B L ((a0l q).getD default))]
theorem d5G (L:List Lf):pc Tryz.prog (c2t N) (e3r N).h 0 100 4 76 b9h L [4,7] [4,29,50029000,117050000002]=d5F N L (fun _=>some (c2A L ())) (fun p=>some (c2B L p)):=by kernel_rfl
def e3s:Sg Tryz.prog 0 4:=
 (e3r N).cut (e6p N) a0b (a41 N) fun L x hx=>(d5G N L).trans ((c95 N ..).trans ((a27 a0N) x hx))
def e6q (v0 : LB) (v1 v2:Int) (v4 v6 v8:LD) (v9:Bool) (k0:Int→Option R) (k1:Bool×LD→Option R) (k2:Bool×LD→Option R):Option R:=
 bnd (e0w N v0 v1 v2 v4 v6 v8) fun y0=>
 bif y0.isSome then
  bif ((y0.getD default) !=0) then
   k0 (y0.getD default)
  else
   bnd (c9M N v4) fun y1=>
   bif y1.isSome then
    bnd (decide ((IntKind.wrap .i64 (v2+(y1.getD default)))>4294967294)) fun y2=>
    bif y2 then
     k0 9
    else
     bnd (e0z N 0 0 false [(.a [(.i 253),(.i 4),(.i 0)]),(.a [(.i 1),(.i 60),(.i 2)]),(.a [(.i 2),(.i 1),(.i 0)])] v9) fun y3=>
     bnd (a3S N v2 4 false v9) fun y4=>
     bif y4.isSome then
      bnd (c9W N v0) fun y5=>
      bnd (a3S N v1 1 false v9) fun y6=>
      bif y6.isSome then
       bnd (b5W N 0 [(.l false (y4.getD default)),(.l false y5),(.l false (y6.getD default))] y3) fun y7=>
       bif y7.isSome then
        bnd (b4y N (decide ((v8.length:Int)>0)) v9 (y7.getD default)) fun y8=>
        bif (a0O y8) then
         bnd (b9c N v8 (v8.length:Int) 0 false (a01 y8)) fun y9=>
         bif y9.isSome then
          bnd (b0l N (decide ((v6.length:Int)>0)) 253 4 0 v9 (y9.getD default).2) fun y10=>
          bif (a0O y10) then
           bnd (b0m N v6 (v6.length:Int) v2 v9 0 false (a01 y10)) fun y11=>
           bif y11.isSome then
            bnd (a42 N v2 v4 253 4 0 v9 (y11.getD default).2) fun y12=>
            bif (a0O y12) then
             k1 (y11.getD default)
            else
             bif (a0l y12).isSome then
              k2 ((a0l y12).getD default)
             else
              none
           else
            none
          else
           bif (a0l y10).isSome then
            bnd (b0m N v6 (v6.length:Int) v2 v9 0 (y9.getD default).1 (y9.getD default).2) fun y13=>
            bif y13.isSome then
             bnd (a42 N v2 v4 253 4 0 v9 (y13.getD default).2) fun y14=>
             bif (a0O y14) then
              k1 (y13.getD default)
             else
              bif (a0l y14).isSome then
               k2 ((a0l y14).getD default)
              else
               none
            else
             none
           else
            none
         else
          none
        else
         bif (a0l y8).isSome then
          bnd (b9c N v8 (v8.length:Int) 0 false (y7.getD default)) fun y15=>
          bif y15.isSome then
           bnd (b0l N (decide ((v6.length:Int)>0)) 253 4 0 v9 (y15.getD default).2) fun y16=>
           bif (a0O y16) then
            bnd (b0m N v6 (v6.length:Int) v2 v9 0 false (a01 y16)) fun y17=>
            bif y17.isSome then
             bnd (a42 N v2 v4 253 4 0 v9 (y17.getD default).2) fun y18=>
             bif (a0O y18) then
              k1 (y17.getD default)
             else
              bif (a0l y18).isSome then
               k2 ((a0l y18).getD default)
              else
               none
            else
             none
           else
            bif (a0l y16).isSome then
             bnd (b0m N v6 (v6.length:Int) v2 v9 0 (y15.getD default).1 (y15.getD default).2) fun y19=>
             bif y19.isSome then
              bnd (a42 N v2 v4 253 4 0 v9 (y19.getD default).2) fun y20=>
              bif (a0O y20) then
               k1 (y19.getD default)
              else
               bif (a0l y20).isSome then
                k2 ((a0l y20).getD default)
               else
                none
             else
              none
            else
             none
          else
           none
         else
          none
       else
        none
      else
       none
     else
      none
   else
    none
 else
  none
def e0M (v0:LB) (v1 v2:Int) (v4 v6 v8:LD) (v9:Bool):Option (Sum (Int) (Sum (Bool×LD) (Bool×LD))):=e6q N v0 v1 v2 v4 v6 v8 v9 (fun p=>some (.inl p)) (fun p=>some (.inr (.inl p))) (fun p=>some (.inr (.inr p)))
theorem e6r (v0:LB) (v1 v2:Int) (v4 v6 v8:LD) (v9:Bool) (k0:Int→Option R) (k1:Bool×LD→Option R) (k2:Bool×LD→Option R):e6q N v0 v1 v2 v4 v6 v8 v9 k0 k1 k2=(e0M N v0 v1 v2 v4 v6 v8 v9).bind (a1a k0 (a1a k1 k2)):=by
 unfold e0M e6q
 repeat' (first|with_reducible apply a0f|(with_reducible apply a0m;intro _)|rfl)
def f5y (L:List Lf) (k0:Int→Option R) (k1:Bool×LD→Option R) (k2:Bool×LD→Option R):Option R:=e6q N (ls L 0) (li L 1) (li L 2) (ll L 4) (ll L 6) (ll L 8) (lb L 9) k0 k1 k2
def e6s:Sh:={tmps:=[(0,.g (.s::[.i .i64,.i .i64,.sl 70,.sl 65,.sl 9])),(1,.c (.b))],mem:=[]}
def e3t (L:List Lf) (p:Bool×LD):Res:=([.g [.o 50029000],.c (.i .i64 0)],[(50029000,.row 44 true p.1 p.2)])
def e3u (L:List Lf) (p:Bool×LD):Res:=([.g [.o 117050000002],.c (.i .i64 0)],[(117050000002,.row 44 true p.1 p.2)])
def f58 (L:List Lf):List (Bool×Res):=bnd (f5y N L (fun p=>some (.inl p)) (fun p=>some (.inr (.inl p))) (fun p=>some (.inr (.inr p)))) fun q=>[((a0O q),([.g [.sl 44 true []],.c (.i .i64 (a01 q))],[])),((a0O (a0l q)),e3t L (a01 (a0l q))),((a0l (a0l q)).isSome,e3u L ((a0l (a0l q)).getD default))]
theorem f1u (L:List Lf):bd Tryz.prog (c2t N) (e3s N).h 4 e6s L=f5y N L (fun p=>some ([.g [.sl 44 true []],.c (.i .i64 p)],[])) (fun p=>some (e3t L p)) (fun p=>some (e3u L p)):=(f4d 0 rfl).trans (by kernel_rfl)
def f1v (L:List Lf):List (Bool×Res):=d9q 117050000002 998 ((f58 N) L)
theorem f4F:a0G Tryz.prog 4 e6s (f1v N):=
 (e3s N).fnR2 117050000002 998 rfl rfl a0b (a41 N) fun L x hx=>((f1u N L).trans ((e6r N ..).trans ((a27 (a27 a0N)) x hx)))
def f1w:a0e:=ext 4 (a1E e6s (f1v N)) (c2t N)
theorem b9i:a0c Tryz.prog (f1w N):=a0G.to (f4F N) (a41 N)
def f1x:List (Nat×List Nat):=[(0,[0]),(1,[1]),(2,[8,1]),(4,[8,1]),(5,[1]),(3,[1]),(6,[1]),(7,[1,3]),(8,[3,4]),(9,[4,3]),(10,[4,3]),(11,[4,3]),(12,[3,4]),(13,[62,61,60,4]),(14,[60,62,4,61]),(15,[4,6,62,61,60]),(16,[62,61,60,4]),(17,[4])]
def f1y:a0E:=[(29,[3,4,42],[3,40],[]),(39,[4,60,61,62],[4,58],[4])]
def d5H (N:Nat):Sg Tryz.prog 0 24:= .start f1y f1x
def a8V (N:Nat) (w0:Bool) (w6:LD) (k0:LD→Option R):Option R:=
 bif w0 then
  bif (inB 1 w6.length) then
   bif (decide (1<w6.length)) then
    k0 (w6.set 1 (.i 1))
   else
    none
  else
   none
 else
  k0 w6
def b2v (w0:Bool) (w6:LD):Option (LD):=a8V N w0 w6 (fun p=>some p)
theorem c41 (w0:Bool) (w6:LD) (k0:LD→Option R):a8V N w0 w6 k0=(b2v N w0 w6).bind k0:=by
 unfold b2v a8V
 repeat' (first|with_reducible apply a0f|(with_reducible apply a0m;intro _)|rfl)
def c2C:Sh:={tmps:=[(3,.c (.p 3 0)),(4,.c (.o 40)),(42,.c (.b))],mem:=[(3,.box ([.b,.i .i64,.sl 37])),(40,.row 5 true)]}
def b6Y (L:List Lf) (p:LD):Ex×St:=(.normal,mg (a0v c2C L) [3,4] [] [3,40] [(40,.row 5 true (lb L 5) p)])
def e0N (L:List Lf):List (Bool×(Ex×St)):=bnd (a8V N (lb L 0) (ll L 6) (fun p=>some p)) fun q=>[(q.isSome,b6Y L (q.getD default))]
theorem c96 (L:List Lf):pc Tryz.prog (f1w N) (d5H N).h 0 100 24 29 c2C L [3,4] [3,40]=a8V N (lb L 0) (ll L 6) (fun p=>some (b6Y L p)):=by kernel_rfl
def d5I:Sg Tryz.prog 0 24:=
 (d5H N).cut (e0N N) a0b (b9i N) fun L x hx=>(c96 N L).trans ((c41 N ..).trans (a0N x hx))
def a8W (N:Nat) (w1:LD) (w2:Int) (w3:Int) (w4:Bool) (w5:LD) (kr:Int→Bool→LD→Option R) (k0:Bool×LD→Option R):Option R:=
 bif (decide (w3<w2)) then
  bif (inB w3 w1.length) then
   bif (decide ((w5.length+3)*1≤a0L)&&decide ((w5.length+3)≤a0d)) then
    bnd ((w5++[(.i (IntKind.wrap .u8 ((w1.getD w3.toNat (.i 0)).cell 0).toI)),(.i (IntKind.wrap .u8 ((w1.getD w3.toNat (.i 0)).cell 1).toI)),(.i (IntKind.wrap .u8 ((w1.getD w3.toNat (.i 0)).cell 2).toI))]):List D) fun y0=>
    kr (IntKind.wrap .i64 (w3+1)) false y0
   else
    none
  else
   none
 else
  k0 (w4,w5)
def a8X (N:Nat) {R:Type} (w1:LD) (w2:Int):Nat→Int→Bool→LD→(Bool×LD→Option R)→Option R
 |0,_,_,_,_=>none
 |m+1,w3,w4,w5,k0=>a8W N w1 w2 w3 w4 w5 (fun w3 w4 w5=>a8X N w1 w2 m w3 w4 w5 k0) k0
def c7e (w1:LD) (w2:Int) (w3:Int) (w4:Bool) (w5:LD):Option (Bool×LD):=a8X N (R:=(Bool×LD)) w1 w2 N w3 w4 w5 (fun p=>some p)
def a8Y (L x:List Lf) (kr:List Lf→Option R) (k0:Bool×LD→Option R):Option R:=a8W N (ll L 1) (li L 2) (li x 0) (lb x 1) (ll x 2) (fun w3 w4 w5=>kr [.i w3,.b w4,.l w5]) k0
theorem c2D (L x:List Lf) (kr:List Lf→Option R) (k0:Bool×LD→Option R):a8Y N L x kr k0=(a8Y N L x (fun y=>some (.inl y)) (fun p=>some (.inr p))).bind (a1a kr k0):=by
 unfold a8Y a8W
 repeat' (first|with_reducible apply a0f|(with_reducible apply a0m;intro _)|rfl)
def b2w (L:List Lf) (m:Nat) (x:List Lf):Option (Bool×LD):=a8X N (R:=(Bool×LD)) (ll L 1) (li L 2) m (li x 0) (lb x 1) (ll x 2) (fun p=>some p)
def a8Z:Sh:={tmps:=[(4,.c (.o 4)),(60,.c (.sl 37)),(61,.c (.i .i64)),(62,.c (.i .i64))],mem:=[(4,.row 5 true)]}
def e0O (L:List Lf):List (Bool×(Ex×St)):=bnd (b2w N L N (pk a8Z [3,4,5] L)) fun q=>[(q.isSome,((.exit 1),⟨[(4,.c (.o 4))],[(4,.row 5 true (q.getD default).1 (q.getD default).2)]⟩))]
theorem c42 (m:Nat) (kn:St→Option (Ex×St)) (L x:List Lf):lpB Tryz.prog (f1w N) (d5I N).h 0 24 39 a8Z [3,4,5] [2,4] [4] (m+100) kn L x=a8Y N L x (fun y=>kn (a0v a8Z (mx a8Z [3,4,5] L y))) (fun p=>some ((.exit 1),⟨[(4,.c (.o 4))],[(4,.row 5 true p.1 p.2)]⟩)):=by kernel_rfl
theorem d5J (L:List Lf) (m:Nat) (x:List Lf):b2w N L (m+1) x=a8Y N L x (b2w N L m) some:=by kernel_rfl
def d5K:Sg Tryz.prog 0 24:=
 (d5I N).lp (e0O N) N a0b (b9i N) (fun m kn L x=>(c42 N m kn L x).trans (c2D N L x _ _)) (fun L m x=>(d5J N L m x).trans (c2D N L x (b2w N L m) some)) fun L x hx=>a0N x hx
def d5L (v0 v1 v2:Int) (v4 v6:LD) (k0:Bool×LD→Option R):Option R:=
 bif (v0==2) then
  bif (decide ((1+v6.length)*1≤a0L)&&decide ((1+v6.length)≤a0d)) then
   k0 ((v6.isEmpty&&false),([(.i (IntKind.wrap .u8 v1))]++v6))
  else
   none
 else
  bif (v0==3) then
   bnd (IntKind.wrap .i64 ((IntKind.wrap .i64 (128+(IntKind.wrap .i64 (32*v1))))+v2)) fun y0=>
   bif (decide ((1+v6.length)*1≤a0L)&&decide ((1+v6.length)≤a0d)) then
    k0 ((v6.isEmpty&&false),([(.i (IntKind.wrap .u8 y0))]++v6))
   else
    none
  else
   bif (inB 0 v4.length) then
    bnd (b2v N ((v4.getD 0 (.i 0)).cell 0).toB [(.i (IntKind.wrap .u8 (IntKind.wrap .i64 (64+v1)))),(.i 0)]) fun y1=>
    bif y1.isSome then
     bnd (a8I N ((v4.getD 0 (.i 0)).cell 1).toI 2 ((v4.getD 0 (.i 0)).cell 0).toB) fun y2=>
     bif y2.isSome then
      bif (decide (((y1.getD default).length+(y2.getD default).length)*1≤a0L)&&decide (((y1.getD default).length+(y2.getD default).length)≤a0d)) then
       bnd (IntKind.wrap .u8 (((v4.getD 0 (.i 0)).cell 2).items.length:Int)) fun y3=>
       bif (decide ((((y1.getD default)++(y2.getD default)).length+1)*1≤a0L)&&decide ((((y1.getD default)++(y2.getD default)).length+1)≤a0d)) then
        bnd ((((y1.getD default)++(y2.getD default))++[(.i y3)]):List D) fun y4=>
        bnd (c7e N ((v4.getD 0 (.i 0)).cell 2).items (((v4.getD 0 (.i 0)).cell 2).items.length:Int) 0 false y4) fun y5=>
        bif y5.isSome then
         k0 (y5.getD default)
        else
         none
       else
        none
      else
       none
     else
      none
    else
     none
   else
    none
def c44 (v0 v1 v2:Int) (v4 v6:LD):Option (Bool×LD):=d5L N v0 v1 v2 v4 v6 (fun p=>some p)
theorem e0P (v0 v1 v2:Int) (v4 v6:LD) (k0:Bool×LD→Option R):d5L N v0 v1 v2 v4 v6 k0=(c44 N v0 v1 v2 v4 v6).bind k0:=by
 unfold c44 d5L
 repeat' (first|with_reducible apply a0f|(with_reducible apply a0m;intro _)|rfl)
def f1z (L:List Lf) (k0:Bool×LD→Option R):Option R:=d5L N (li L 0) (li L 1) (li L 2) (ll L 4) (ll L 6) k0
def d5M:Sh:={tmps:=[(0,.g ([.i .i64,.i .i64,.i .i64,.sl 40,.sl 5]))],mem:=[]}
def f1A (L:List Lf):List (Bool×Res):=bnd (f1z N L (fun p=>some p)) fun q=>[(q.isSome,([.c (.sl 5 (q.getD default).1 (q.getD default).2)],[]))]
theorem e6t (L:List Lf):bd Tryz.prog (f1w N) (d5K N).h 24 d5M L=f1z N L (fun p=>some ([.c (.sl 5 p.1 p.2)],[])):=by kernel_rfl
theorem f1B:a0G Tryz.prog 24 d5M (f1A N):=
 (d5K N).fn a0b (b9i N) fun L x hx=>((e6t N L).trans ((e0P N ..).trans (a0N x hx)))
def e0Q:a0e:=ext 24 (a1E d5M (f1A N)) (f1w N)
theorem b9j:a0c Tryz.prog (e0Q N):=a0G.to (f1B N) (b9i N)
def f1C:List (Nat×List Nat):=[(0,[1,0]),(1,[1,0]),(2,[1,0]),(3,[1,0]),(4,[1,0]),(5,[0,1]),(6,[0])]
def f1D:a0E:=[(17,[0,1,16],[],[])]
def d5N (N:Nat):Sg Tryz.prog 0 50:= .start f1D f1C true
def a6u (N:Nat) (w2:Int) (w3:Bool) (k0:Bool→Option R) (k1:Unit→Option R):Option R:=
 bif w3 then
  bif ((decide (0≤w2))&&(decide (w2.toNat*1≤a0L)&&decide (w2.toNat≤a0d))) then
   bif (decide (0≤((List.replicate w2.toNat ((.i 0):D)).length:Int))) then
    k0 (Nat.beq w2.toNat 0)
   else
    none
  else
   none
 else
  k1 ()
def b2x (w2:Int) (w3:Bool):Option (Sum (Bool) (Unit)):=a6u N w2 w3 (fun p=>some (.inl p)) (fun p=>some (.inr p))
theorem c45 (w2:Int) (w3:Bool) (k0:Bool→Option R) (k1:Unit→Option R):a6u N w2 w3 k0 k1=(b2x N w2 w3).bind (a1a k0 k1):=by
 unfold b2x a6u
 repeat' (first|with_reducible apply a0f|(with_reducible apply a0m;intro _)|rfl)
def d5O:Sh:={tmps:=[(0,.c (.nsl 5)),(1,.c (.i .i64)),(16,.c (.b))],mem:=[]}
def e0R (L:List Lf):List (Bool×(Ex×St)):=bnd (a6u N (li L 2) (lb L 3) (fun p=>some (.inl p)) (fun p=>some (.inr p))) fun q=>[((a0O q),(.normal,⟨[(0,.c (.o 25))],[(25,.row 5 true (a01 q) [])]⟩)),((a0l q).isSome,(.normal,⟨[(0,.c (.sl 5 true []))],[]⟩))]
theorem c97 (L:List Lf):pc Tryz.prog (e0Q N) (d5N N).h 0 100 50 17 d5O L [0] [25]=a6u N (li L 2) (lb L 3) (fun p=>some (.normal,⟨[(0,.c (.o 25))],[(25,.row 5 true p [])]⟩)) (fun _=>some (.normal,⟨[(0,.c (.sl 5 true []))],[]⟩)):=by kernel_rfl
def d5P:Sg Tryz.prog 0 50:=
 (d5N N).cut (e0R N) a0b (b9j N) fun L x hx=>(c97 N L).trans ((c45 N ..).trans ((a27 a0N) x hx))
def c98 (v2:Int) (k0:Bool→Option R) (k1:Unit→Option R):Option R:=
 bif (decide (v2<0)) then
  none
 else
  bnd (b2x N (IntKind.wrap .i64 (v2-0)) (decide ((IntKind.wrap .i64 (v2-0))>0))) fun y0=>
  bif (a0O y0) then
   k0 (a01 y0)
  else
   bif (a0l y0).isSome then
    k1 ()
   else
    none
def e0S (v2:Int):Option (Sum (Bool) (Unit)):=c98 N v2 (fun p=>some (.inl p)) (fun p=>some (.inr p))
theorem e0T (v2:Int) (k0:Bool→Option R) (k1:Unit→Option R):c98 N v2 k0 k1=(e0S N v2).bind (a1a k0 k1):=by
 unfold e0S c98
 repeat' (first|with_reducible apply a0f|(with_reducible apply a0m;intro _)|rfl)
def d5Q:Sh:={tmps:=[(0,.c (.nsl 5)),(1,.c (.i .i64))],mem:=[]}
def f1E (L:List Lf):List (Bool×Res):=bnd (c98 N (li L 2) (fun p=>some (.inl p)) (fun p=>some (.inr p))) fun q=>[((a0O q),([.c (.o 25)],[(25,.row 5 true (a01 q) [])])),((a0l q).isSome,([.c (.sl 5 true [])],[]))]
theorem e6u (L:List Lf):bd Tryz.prog (e0Q N) (d5P N).h 50 d5Q L=c98 N (li L 2) (fun p=>some ([.c (.o 25)],[(25,.row 5 true p [])])) (fun _=>some ([.c (.sl 5 true [])],[])):=by kernel_rfl
theorem f1F:a0G Tryz.prog 50 d5Q (f1E N):=
 (d5P N).fn a0b (b9j N) fun L x hx=>((e6u N L).trans ((e0T N ..).trans ((a27 a0N) x hx)))
def c99:a0e:=ext 50 (a1E d5Q (f1E N)) (e0Q N)
theorem a80:a0c Tryz.prog (c99 N):=a0G.to (f1F N) (b9j N)
def f1G:List (Nat×List Nat):=[(0,[0]),(1,[0]),(2,[0,3]),(3,[11,10,9,3,0]),(4,[9,11,3,10,0]),(5,[3,5,11,10,9,0]),(6,[3,11,10,9,0]),(7,[11,10,9,3,0]),(8,[11,10,9,3,0]),(9,[3,0]),(10,[0,6]),(11,[27,26,25,6]),(12,[25,27,6,26]),(13,[6,8,27,26,25]),(14,[27,26,25,6]),(15,[6])]
def f1H:a0E:=[(9,[0,3,9,10,11],[],[]),(28,[0,3],[],[]),(33,[6,25,26,27],[6,25000000025],[6])]
def d5R (N:Nat):Sg Tryz.prog 0 25:= .start f1H f1G true
def b4F (N:Nat) (w4:LD) (w5:Int) (w2 w6:Int) (kr:Int→Int→Option R) (k0:Int→Option R):Option R:=
 bif (decide (w6<w5)) then
  bif (inB w6 w4.length) then
   bnd (IntKind.wrap .i64 (w2+((w4.getD w6.toNat (.i 0)).items.length:Int))) fun y0=>
   bif (decide (y0<0)) then
    none
   else
    kr y0 (IntKind.wrap .i64 (w6+1))
  else
   none
 else
  k0 w2
def b9k (N:Nat) {R:Type} (w4:LD) (w5:Int):Nat→Int→Int→(Int→Option R)→Option R
 |0,_,_,_=>none
 |m+1,w2,w6,k0=>b4F N w4 w5 w2 w6 (fun w2 w6=>b9k N w4 w5 m w2 w6 k0) k0
def d5S (w4:LD) (w5:Int) (w2 w6:Int):Option (Int):=b9k N (R:=(Int)) w4 w5 N w2 w6 (fun p=>some p)
def b4G (L x:List Lf) (kr:List Lf→Option R) (k0:Int→Option R):Option R:=b4F N (ll L 4) (li L 5) (li x 0) (li x 1) (fun w2 w6=>kr [.i w2,.i w6]) k0
theorem c7f (L x:List Lf) (kr:List Lf→Option R) (k0:Int→Option R):b4G N L x kr k0=(b4G N L x (fun y=>some (.inl y)) (fun p=>some (.inr p))).bind (a1a kr k0):=by
 unfold b4G b4F
 repeat' (first|with_reducible apply a0f|(with_reducible apply a0m;intro _)|rfl)
def b9l (L:List Lf) (m:Nat) (x:List Lf):Option (Int):=b9k N (R:=(Int)) (ll L 4) (li L 5) m (li x 0) (li x 1) (fun p=>some p)
def a81:Sh:={tmps:=[(0,.c (.sl 42)),(3,.c (.i .i64)),(9,.c (.sl 42)),(10,.c (.i .i64)),(11,.c (.i .i64))],mem:=[]}
def c2E (L:List Lf) (p:Int):Ex×St:=((.exit 0),mg (a0v a81 L) [0,3] [(3,.c (.i .i64 p))] [] [])
def e6v (L:List Lf):List (Bool×(Ex×St)):=bnd (b9l N L N (pk a81 [2,6] L)) fun q=>[(q.isSome,c2E L (q.getD default))]
theorem d0a (m:Nat) (kn:St→Option (Ex×St)) (L x:List Lf):lpB Tryz.prog (c99 N) (d5R N).h 0 25 9 a81 [2,6] [0,2,3] [] (m+100) kn L x=b4G N L x (fun y=>kn (a0v a81 (mx a81 [2,6] L y))) (fun p=>some (c2E L p)):=by kernel_rfl
theorem e0U (L:List Lf) (m:Nat) (x:List Lf):b9l N L (m+1) x=b4G N L x (b9l N L m) some:=by kernel_rfl
def d5T:Sg Tryz.prog 0 25:=
 (d5R N).lp (e6v N) N a0b (a80 N) (fun m kn L x=>(d0a N m kn L x).trans (c7f N L x _ _)) (fun L m x=>(e0U N L m x).trans (c7f N L x (b9l N L m) some)) fun L x hx=>a0N x hx
def a6v (w2:Int) (k0:Bool→Option R) (k1:Unit→Option R):Option R:=
 bnd (e0S N w2) fun y0=>
 bif (a0O y0) then
  k0 (a01 y0)
 else
  bif (a0l y0).isSome then
   k1 ()
  else
   none
def a82 (w2:Int):Option (Sum (Bool) (Unit)):=a6v N w2 (fun p=>some (.inl p)) (fun p=>some (.inr p))
theorem c46 (w2:Int) (k0:Bool→Option R) (k1:Unit→Option R):a6v N w2 k0 k1=(a82 N w2).bind (a1a k0 k1):=by
 unfold a82 a6v
 repeat' (first|with_reducible apply a0f|(with_reducible apply a0m;intro _)|rfl)
def c2F:Sh:={tmps:=[(0,.c (.sl 42)),(3,.c (.i .i64))],mem:=[]}
def b6Z (L:List Lf) (p:Bool):Ex×St:=(.normal,⟨[(0,.c (.sl 42 (lb L 0) (ll L 1))),(6,.c (.o 25000000025))],[(25000000025,.row 5 true p [])]⟩)
def b60 (L:List Lf) (_:Unit):Ex×St:=(.normal,mg (a0v c2F L) [0,6] [(6,.c (.sl 5 true []))] [] [])
def e0V (L:List Lf):List (Bool×(Ex×St)):=bnd (a6v N (li L 2) (fun p=>some (.inl p)) (fun p=>some (.inr p))) fun q=>[((a0O q),b6Z L (a01 q)),((a0l q).isSome,b60 L ())]
theorem d0b (L:List Lf):pc Tryz.prog (c99 N) (d5T N).h 0 100 25 28 c2F L [0,6] [25000000025]=a6v N (li L 2) (fun p=>some (b6Z L p)) (fun _=>some (b60 L ())):=by kernel_rfl
def d5U:Sg Tryz.prog 0 25:=
 (d5T N).cut (e0V N) a0b (a80 N) fun L x hx=>(d0b N L).trans ((c46 N ..).trans ((a27 a0N) x hx))
def a83 (N:Nat) (w1:LD) (w2:Int) (w3:Int) (w4:Bool) (w5:LD) (kr:Int→Bool→LD→Option R) (k0:Bool×LD→Option R):Option R:=
 bif (decide (w3<w2)) then
  bif (inB w3 w1.length) then
   bif (decide ((w5.length+(w1.getD w3.toNat (.i 0)).items.length)*1≤a0L)&&decide ((w5.length+(w1.getD w3.toNat (.i 0)).items.length)≤a0d)) then
    kr (IntKind.wrap .i64 (w3+1)) ((w1.getD w3.toNat (.i 0)).items.isEmpty&&w4) (w5++(w1.getD w3.toNat (.i 0)).items)
   else
    none
  else
   none
 else
  k0 (w4,w5)
def b2y (N:Nat) {R:Type} (w1:LD) (w2:Int):Nat→Int→Bool→LD→(Bool×LD→Option R)→Option R
 |0,_,_,_,_=>none
 |m+1,w3,w4,w5,k0=>a83 N w1 w2 w3 w4 w5 (fun w3 w4 w5=>b2y N w1 w2 m w3 w4 w5 k0) k0
def b9m (w1:LD) (w2:Int) (w3:Int) (w4:Bool) (w5:LD):Option (Bool×LD):=b2y N (R:=(Bool×LD)) w1 w2 N w3 w4 w5 (fun p=>some p)
def a84 (L x:List Lf) (kr:List Lf→Option R) (k0:Bool×LD→Option R):Option R:=a83 N (ll L 1) (li L 2) (li x 0) (lb x 1) (ll x 2) (fun w3 w4 w5=>kr [.i w3,.b w4,.l w5]) k0
theorem c2G (L x:List Lf) (kr:List Lf→Option R) (k0:Bool×LD→Option R):a84 N L x kr k0=(a84 N L x (fun y=>some (.inl y)) (fun p=>some (.inr p))).bind (a1a kr k0):=by
 unfold a84 a83
 repeat' (first|with_reducible apply a0f|(with_reducible apply a0m;intro _)|rfl)
def b2z (L:List Lf) (m:Nat) (x:List Lf):Option (Bool×LD):=b2y N (R:=(Bool×LD)) (ll L 1) (li L 2) m (li x 0) (lb x 1) (ll x 2) (fun p=>some p)
def a85:Sh:={tmps:=[(6,.c (.o 6)),(25,.c (.sl 42)),(26,.c (.i .i64)),(27,.c (.i .i64))],mem:=[(6,.row 5 true)]}
def e0W (L:List Lf):List (Bool×(Ex×St)):=bnd (b2z N L N (pk a85 [3,4,5] L)) fun q=>[(q.isSome,((.exit 2),⟨[(6,.c (.o 6))],[(6,.row 5 true (q.getD default).1 (q.getD default).2)]⟩))]
theorem c47 (m:Nat) (kn:St→Option (Ex×St)) (L x:List Lf):lpB Tryz.prog (c99 N) (d5U N).h 0 25 33 a85 [3,4,5] [2,6] [6] (m+100) kn L x=a84 N L x (fun y=>kn (a0v a85 (mx a85 [3,4,5] L y))) (fun p=>some ((.exit 2),⟨[(6,.c (.o 6))],[(6,.row 5 true p.1 p.2)]⟩)):=by kernel_rfl
theorem d5V (L:List Lf) (m:Nat) (x:List Lf):b2z N L (m+1) x=a84 N L x (b2z N L m) some:=by kernel_rfl
def d5W:Sg Tryz.prog 0 25:=
 (d5U N).lp (e0W N) N a0b (a80 N) (fun m kn L x=>(c47 N m kn L x).trans (c2G N L x _ _)) (fun L m x=>(d5V N L m x).trans (c2G N L x (b2z N L m) some)) fun L x hx=>a0N x hx
def d0c (v1:LD) (k0:Bool×LD→Option R):Option R:=
 bnd (d5S N v1 (v1.length:Int) 0 0) fun y0=>
 bif y0.isSome then
  bnd (a82 N (y0.getD default)) fun y1=>
  bif (a0O y1) then
   bnd (b9m N v1 (v1.length:Int) 0 (a01 y1) []) fun y2=>
   bif y2.isSome then
    k0 (y2.getD default)
   else
    none
  else
   bif (a0l y1).isSome then
    bnd (b9m N v1 (v1.length:Int) 0 true []) fun y3=>
    bif y3.isSome then
     k0 (y3.getD default)
    else
     none
   else
    none
 else
  none
def d5X (v1:LD):Option (Bool×LD):=d0c N v1 (fun p=>some p)
theorem e0X (v1:LD) (k0:Bool×LD→Option R):d0c N v1 k0=(d5X N v1).bind k0:=by
 unfold d5X d0c
 repeat' (first|with_reducible apply a0f|(with_reducible apply a0m;intro _)|rfl)
def d5Y:Sh:={tmps:=[(0,.c (.sl 42))],mem:=[]}
def f1I (L:List Lf):List (Bool×Res):=bnd (d0c N (ll L 1) (fun p=>some p)) fun q=>[(q.isSome,([.c (.o 6)],[(6,.row 5 true (q.getD default).1 (q.getD default).2)]))]
theorem e6w (L:List Lf):bd Tryz.prog (c99 N) (d5W N).h 25 d5Y L=d0c N (ll L 1) (fun p=>some ([.c (.o 6)],[(6,.row 5 true p.1 p.2)])):=by kernel_rfl
theorem f1J:a0G Tryz.prog 25 d5Y (f1I N):=
 (d5W N).fn a0b (a80 N) fun L x hx=>((e6w N L).trans ((e0X N ..).trans (a0N x hx)))
def e0Y:a0e:=ext 25 (a1E d5Y (f1I N)) (c99 N)
theorem b9n:a0c Tryz.prog (e0Y N):=a0G.to (f1J N) (a80 N)
def f1K:List (Nat×List Nat):=[(0,[0]),(1,[0]),(2,[0,3]),(3,[8,7,6,3]),(4,[6,8,3,7]),(5,[3,5,8,7,6]),(6,[8,7,6,3]),(7,[3])]
def f1L:a0E:=[(9,[3,6,7,8],[],[])]
def d5Z (N:Nat):Sg Tryz.prog 0 27:= .start f1L f1K
def b4H (N:Nat) (w2:LD) (w3:Int) (w0 w4:Int) (kr:Int→Int→Option R) (k0:Int→Option R):Option R:=
 bif (decide (w4<w3)) then
  bif (inB w4 w2.length) then
   bnd (IntKind.wrap .u32 ((IntKind.wrap .u32 (31*w0))+(IntKind.wrap .u32 (w2.getD w4.toNat (.i 0)).toI))) fun y0=>
   kr y0 (IntKind.wrap .i64 (w4+1))
  else
   none
 else
  k0 w0
def b9o (N:Nat) {R:Type} (w2:LD) (w3:Int):Nat→Int→Int→(Int→Option R)→Option R
 |0,_,_,_=>none
 |m+1,w0,w4,k0=>b4H N w2 w3 w0 w4 (fun w0 w4=>b9o N w2 w3 m w0 w4 k0) k0
def d50 (w2:LD) (w3:Int) (w0 w4:Int):Option (Int):=b9o N (R:=(Int)) w2 w3 N w0 w4 (fun p=>some p)
def b4I (L x:List Lf) (kr:List Lf→Option R) (k0:Int→Option R):Option R:=b4H N (ll L 2) (li L 3) (li x 0) (li x 1) (fun w0 w4=>kr [.i w0,.i w4]) k0
theorem c7g (L x:List Lf) (kr:List Lf→Option R) (k0:Int→Option R):b4I N L x kr k0=(b4I N L x (fun y=>some (.inl y)) (fun p=>some (.inr p))).bind (a1a kr k0):=by
 unfold b4I b4H
 repeat' (first|with_reducible apply a0f|(with_reducible apply a0m;intro _)|rfl)
def b9p (L:List Lf) (m:Nat) (x:List Lf):Option (Int):=b9o N (R:=(Int)) (ll L 2) (li L 3) m (li x 0) (li x 1) (fun p=>some p)
def b2A:Sh:={tmps:=[(3,.c (.i .u32)),(6,.c (.sl 5)),(7,.c (.i .i64)),(8,.c (.i .i64))],mem:=[]}
def e6x (L:List Lf):List (Bool×(Ex×St)):=bnd (b9p N L N (pk b2A [0,4] L)) fun q=>[(q.isSome,((.exit 0),⟨[(3,.c (.i .u32 (q.getD default)))],[]⟩))]
theorem d0d (m:Nat) (kn:St→Option (Ex×St)) (L x:List Lf):lpB Tryz.prog (e0Y N) (d5Z N).h 0 27 9 b2A [0,4] [2,3] [] (m+100) kn L x=b4I N L x (fun y=>kn (a0v b2A (mx b2A [0,4] L y))) (fun p=>some ((.exit 0),⟨[(3,.c (.i .u32 p))],[]⟩)):=by kernel_rfl
theorem e0Z (L:List Lf) (m:Nat) (x:List Lf):b9p N L (m+1) x=b4I N L x (b9p N L m) some:=by kernel_rfl
def d51:Sg Tryz.prog 0 27:=
 (d5Z N).lp (e6x N) N a0b (b9n N) (fun m kn L x=>(d0d N m kn L x).trans (c7g N L x _ _)) (fun L m x=>(e0Z N L m x).trans (c7g N L x (b9p N L m) some)) fun L x hx=>a0N x hx
def d0e (v1:LD) (k0:Int→Option R):Option R:=
 bnd (d50 N v1 (v1.length:Int) 1 0) fun y0=>
 bif y0.isSome then
  k0 (IntKind.wrap .i64 (y0.getD default))
 else
  none
def d0f (v1:LD):Option (Int):=d0e N v1 (fun p=>some p)
theorem e00 (v1:LD) (k0:Int→Option R):d0e N v1 k0=(d0f N v1).bind k0:=by
 unfold d0f d0e
 repeat' (first|with_reducible apply a0f|(with_reducible apply a0m;intro _)|rfl)
def d52:Sh:={tmps:=[(0,.c (.sl 5))],mem:=[]}
def f1M (L:List Lf):List (Bool×Res):=bnd (d0e N (ll L 1) (fun p=>some p)) fun q=>[(q.isSome,([.c (.i .i64 (q.getD default))],[]))]
theorem e6y (L:List Lf):bd Tryz.prog (e0Y N) (d51 N).h 27 d52 L=d0e N (ll L 1) (fun p=>some ([.c (.i .i64 p)],[])):=by kernel_rfl
theorem f1N:a0G Tryz.prog 27 d52 (f1M N):=
 (d51 N).fn a0b (b9n N) fun L x hx=>((e6y N L).trans ((e00 N ..).trans (a0N x hx)))
def e01:a0e:=ext 27 (a1E d52 (f1M N)) (e0Y N)
theorem b9q:a0c Tryz.prog (e01 N):=a0G.to (f1N N) (b9n N)
def f4G:List (Nat×List Nat):=[(0,[0]),(1,[1]),(2,[4,1]),(3,[4]),(4,[1]),(5,[1,5]),(6,[17,16,15,5]),(7,[15,17,5,16]),(8,[5,7,17,16,15]),(9,[17,16,15,5]),(10,[5]),(11,[8]),(12,[8]),(13,[]),(14,[8])]
def f4H:a0E:=[(18,[5,15,16,17],[5],[5])]
def e3v (N:Nat):Sg Tryz.prog 0 6:= .start f4H f4G
def b9r (w1:LD) (w2:Int) (w3:Int) (w4:Bool) (w5:LD) (kr:Int→Bool→LD→Option R) (k0:Bool×LD→Option R):Option R:=
 bif (decide (w3<w2)) then
  bif (inB w3 w1.length) then
   bnd (c44 N ((w1.getD w3.toNat (.i 0)).cell 0).toI ((w1.getD w3.toNat (.i 0)).cell 1).toI ((w1.getD w3.toNat (.i 0)).cell 2).toI ((w1.getD w3.toNat (.i 0)).cell 3).items ((w1.getD w3.toNat (.i 0)).cell 4).items) fun y0=>
   bif y0.isSome then
    bif (decide ((w5.length+(y0.getD default).2.length)*1≤a0L)&&decide ((w5.length+(y0.getD default).2.length)≤a0d)) then
     kr (IntKind.wrap .i64 (w3+1)) ((y0.getD default).2.isEmpty&&w4) (w5++(y0.getD default).2)
    else
     none
   else
    none
  else
   none
 else
  k0 (w4,w5)
def b4J (N:Nat) {R:Type} (w1:LD) (w2:Int):Nat→Int→Bool→LD→(Bool×LD→Option R)→Option R
 |0,_,_,_,_=>none
 |m+1,w3,w4,w5,k0=>b9r N w1 w2 w3 w4 w5 (fun w3 w4 w5=>b4J N w1 w2 m w3 w4 w5 k0) k0
def b4K (w1:LD) (w2:Int) (w3:Int) (w4:Bool) (w5:LD):Option (Bool×LD):=b4J N (R:=(Bool×LD)) w1 w2 N w3 w4 w5 (fun p=>some p)
def b4L (L x:List Lf) (kr:List Lf→Option R) (k0:Bool×LD→Option R):Option R:=b9r N (ll L 1) (li L 2) (li x 0) (lb x 1) (ll x 2) (fun w3 w4 w5=>kr [.i w3,.b w4,.l w5]) k0
theorem c7h (L x:List Lf) (kr:List Lf→Option R) (k0:Bool×LD→Option R):b4L N L x kr k0=(b4L N L x (fun y=>some (.inl y)) (fun p=>some (.inr p))).bind (a1a kr k0):=by
 unfold b4L b9r
 repeat' (first|with_reducible apply a0f|(with_reducible apply a0m;intro _)|rfl)
def b9s (L:List Lf) (m:Nat) (x:List Lf):Option (Bool×LD):=b4J N (R:=(Bool×LD)) (ll L 1) (li L 2) m (li x 0) (lb x 1) (ll x 2) (fun p=>some p)
def b2B:Sh:={tmps:=[(5,.c (.o 5)),(15,.c (.sl 44)),(16,.c (.i .i64)),(17,.c (.i .i64))],mem:=[(5,.row 5 true)]}
def e6z (L:List Lf):List (Bool×(Ex×St)):=bnd (b9s N L N (pk b2B [3,4,5] L)) fun q=>[(q.isSome,((.exit 0),⟨[(5,.c (.o 5))],[(5,.row 5 true (q.getD default).1 (q.getD default).2)]⟩))]
theorem d0g (m:Nat) (kn:St→Option (Ex×St)) (L x:List Lf):lpB Tryz.prog (e01 N) (e3v N).h 0 6 18 b2B [3,4,5] [2,3,5] [5] (m+100) kn L x=b4L N L x (fun y=>kn (a0v b2B (mx b2B [3,4,5] L y))) (fun p=>some ((.exit 0),⟨[(5,.c (.o 5))],[(5,.row 5 true p.1 p.2)]⟩)):=by kernel_rfl
theorem e02 (L:List Lf) (m:Nat) (x:List Lf):b9s N L (m+1) x=b4L N L x (b9s N L m) some:=by kernel_rfl
def e3w:Sg Tryz.prog 0 6:=
 (e3v N).lp (e6z N) N a0b (b9q N) (fun m kn L x=>(d0g N m kn L x).trans (c7h N L x _ _)) (fun L m x=>(e02 N L m x).trans (c7h N L x (b9s N L m) some)) fun L x hx=>a0N x hx
def e6A (v1:LD) (k0:Bool×LD×Int→Option R):Option R:=
 bnd (b1F N v1) fun y0=>
 bif y0.isSome then
  bif ((y0.getD default) !=0) then
   k0 (true,[],(y0.getD default))
  else
   bnd (b4K N v1 (v1.length:Int) 0 true []) fun y1=>
   bif y1.isSome then
    bnd (a8I N ((y1.getD default).2.length:Int) 4 true) fun y2=>
    bif y2.isSome then
     bnd (d5X N [(.l false [(.i 72),(.i 65),(.i 82),(.i 49)]),(.l false (y2.getD default)),(.l (y1.getD default).1 (y1.getD default).2)]) fun y3=>
     bif y3.isSome then
      bnd (d0f N (y3.getD default).2) fun y4=>
      bif y4.isSome then
       bnd (a8I N (y4.getD default) 4 true) fun y5=>
       bif y5.isSome then
        bif (decide (((y3.getD default).2.length+(y5.getD default).length)*1≤a0L)&&decide (((y3.getD default).2.length+(y5.getD default).length)≤a0d)) then
         bnd ((y5.getD default).isEmpty&&(y3.getD default).1) fun y6=>
         bnd (((y3.getD default).2++(y5.getD default)).length:Int) fun y7=>
         bif (decide (y7>4000000)) then
          k0 (true,[],3)
         else
          k0 (y6,((y3.getD default).2++(y5.getD default)),0)
        else
         none
       else
        none
      else
       none
     else
      none
    else
     none
   else
    none
 else
  none
def b61 (v1:LD):Option (Bool×LD×Int):=e6A N v1 (fun p=>some p)
theorem e6B (v1:LD) (k0:Bool×LD×Int→Option R):e6A N v1 k0=(b61 N v1).bind k0:=by
 unfold b61 e6A
 repeat' (first|with_reducible apply a0f|(with_reducible apply a0m;intro _)|rfl)
def e6C:Sh:={tmps:=[(0,.g ([.sl 44]))],mem:=[]}
def f5z (L:List Lf):List (Bool×Res):=bnd (e6A N (ll L 1) (fun p=>some p)) fun q=>[(q.isSome,([.c (.sl 5 (q.getD default).1 (q.getD default).2.1),.c (.i .i64 (q.getD default).2.2)],[]))]
theorem f1O (L:List Lf):bd Tryz.prog (e01 N) (e3w N).h 6 e6C L=e6A N (ll L 1) (fun p=>some ([.c (.sl 5 p.1 p.2.1),.c (.i .i64 p.2.2)],[])):=by kernel_rfl
theorem f4I:a0G Tryz.prog 6 e6C (f5z N):=
 (e3w N).fn a0b (b9q N) fun L x hx=>((f1O N L).trans ((e6B N ..).trans (a0N x hx)))
def f4J:a0e:=ext 6 (a1E e6C (f5z N)) (e01 N)
theorem d53:a0c Tryz.prog (f4J N):=a0G.to (f4I N) (b9q N)
def f1P:List (Nat×List Nat):=[(0,[0]),(1,[1]),(2,[3,1]),(3,[3,1,4])]
def f1Q:a0E:=[]
def d54 (N:Nat):Sg Tryz.prog 0 29:= .start f1Q f1P
def d55 (N:Nat) (k0:D→R):R:=
 k0 (.a [(.b false),(.b false),(.i 0),(.l true []),(.i 0),(.i 0),(.b false),(.b false),(.i 0),(.l true []),(.i 0),(.i 0),(.b false),(.b false),(.i 0),(.l true []),(.i 0),(.i 0),(.b false),(.b false),(.i 0),(.l true []),(.i 0),(.i 0),(.b false),(.b false),(.i 0),(.l true []),(.i 0),(.i 0),(.b false),(.b false),(.i 0),(.l true []),(.i 0),(.i 0),(.b false),(.b false),(.i 0),(.l true []),(.i 0),(.i 0),(.b false),(.b false),(.i 0),(.l true []),(.i 0),(.i 0),(.b false),(.b false),(.i 0),(.l true []),(.i 0),(.i 0),(.b false),(.b false),(.i 0),(.l true []),(.i 0),(.i 0),(.b false),(.b false),(.i 0),(.l true []),(.i 0),(.i 0),(.b false),(.b false),(.i 0),(.l true []),(.i 0),(.i 0),(.b false),(.b false),(.i 0),(.l true []),(.i 0),(.i 0),(.b false),(.b false),(.i 0),(.l true []),(.i 0),(.i 0),(.b false),(.b false),(.i 0),(.l true []),(.i 0),(.i 0),(.b false),(.b false),(.i 0),(.l true []),(.i 0),(.i 0)])
def c48:D:=d55 N (fun p=>p)
theorem e6D (k0:D→R):d55 N k0=k0 (c48 N):=by
 unfold c48 d55
 repeat' (first|rfl|apply a0W|(apply a1D;intro _))
def d56:Sh:={tmps:=[(0,.c (.sl 5))],mem:=[]}
def d57 (L:List Lf) (p:D):Res:=([.c (.f 52 [(3,0),(1,0),(4,0)])],[(1,.box [.sl 5 (lb L 0) (ll L 1)]),(3,.box [.i .i64 0]),(4,.dat 127 p)])
def f1R (L:List Lf):List (Bool×Res):=bnd (d55 N (fun p=>p)) fun q=>[(true,d57 L q)]
theorem e6E (L:List Lf):bd Tryz.prog (f4J N) (d54 N).h 29 d56 L=d55 N (fun p=>some (d57 L p)):=by kernel_rfl
theorem f1S:a0G Tryz.prog 29 d56 (f1R N):=
 (d54 N).fn a0b (d53 N) fun L x hx=>((e6E N L).trans ((e6D N ..).trans (a5j _ _ hx)))
def e6F:a0e:=ext 29 (a1E d56 (f1R N)) (f4J N)
theorem c7i:a0c Tryz.prog (e6F N):=a0G.to (f1S N) (d53 N)
def f1T:List (Nat×List Nat):=[(0,[1,0,2]),(1,[1,0,2]),(2,[1,0]),(3,[0]),(4,[1,0,2]),(5,[2,1,0])]
def f1U:a0E:=[]
def d58 (N:Nat):Sg Tryz.prog 2 53:= .start f1U f1T
def d0h (N:Nat) (v0 v1:Int) (v2:Bool) (v3:LD) (k0:Bool×LD×Int→Option R):Option R:=
 bnd (bif (decide (v1<0)) then true else (decide (v0>(IntKind.wrap .i64 ((v3.length:Int)-v1))))) fun y0=>
 bif y0 then
  bif (((decide (0≤v0))&&(decide (v0≤v0)))&&(decide (v0.toNat*1≤a0L)&&decide (v0.toNat≤a0d))) then
   k0 (false,(List.replicate v0.toNat ((.i 0):D)),(-1))
  else
   none
 else
  bif ((((decide (0≤(IntKind.wrap .i64 ((IntKind.wrap .i64 (v1+v0))-v0))))&&(decide ((IntKind.wrap .i64 ((IntKind.wrap .i64 (v1+v0))-v0))≤(IntKind.wrap .i64 (v1+v0)))))&&(decide ((IntKind.wrap .i64 (v1+v0))≤(IntKind.wrap .i64 (v1+v0)))))&&(decide ((IntKind.wrap .i64 (v1+v0))≤(v3.length:Int)))) then
   bnd (((v3.take (IntKind.wrap .i64 (v1+v0)).toNat).drop (IntKind.wrap .i64 ((IntKind.wrap .i64 (v1+v0))-v0)).toNat):List D) fun y1=>
   k0 (v2,y1,(IntKind.wrap .i64 (v1+v0)))
  else
   none
def a7v (v0 v1:Int) (v2:Bool) (v3:LD):Option (Bool×LD×Int):=d0h N v0 v1 v2 v3 (fun p=>some p)
theorem e03 (v0 v1:Int) (v2:Bool) (v3:LD) (k0:Bool×LD×Int→Option R):d0h N v0 v1 v2 v3 k0=(a7v N v0 v1 v2 v3).bind k0:=by
 unfold a7v d0h
 repeat' (first|with_reducible apply a0f|(with_reducible apply a0m;intro _)|rfl)
def f1V (L:List Lf) (k0:Bool×LD×Int→Option R):Option R:=d0h N (li L 0) (li L 1) (lb L 2) (ll L 3) k0
def c7j:Sh:={tmps:=[(0,.c (.i .i64)),(1,.c (.p 0 0)),(2,.c (.p 1 0))],mem:=[(0,.box ([.i .i64])),(1,.box ([.sl 5]))]}
def d59 (L:List Lf) (p:Bool×LD×Int):Res:=([.c (.sl 5 p.1 p.2.1)],mgA (a0v c7j L).mem [(0,.box [.i .i64 p.2.2])] [0,1])
def f1W (L:List Lf):List (Bool×Res):=bnd (f1V N L (fun p=>some p)) fun q=>[(q.isSome,d59 L (q.getD default))]
theorem e6G (L:List Lf):bd Tryz.prog (e6F N) (d58 N).h 53 c7j L=f1V N L (fun p=>some (d59 L p)):=by kernel_rfl
theorem f1X:a0G Tryz.prog 53 c7j (f1W N):=
 (d58 N).fn a0b (c7i N) fun L x hx=>((e6G N L).trans ((e03 N ..).trans (a0N x hx)))
def e6H:a0e:=ext 53 (a1E c7j (f1W N)) (e6F N)
theorem c7k:a0c Tryz.prog (e6H N):=a0G.to (f1X N) (c7i N)
def c1A:List (Nat×List Nat):=[(0,[0]),(1,[0]),(2,[]),(3,[0])]
def c1B:a0E:=[]
def a5K (N:Nat):Sg Tryz.prog 0 55:= .start c1B c1A
def F55x0 (N:Nat) (v0:Bool) (v1:LD) (k0:Bool×LD→Option R):Option R:=
 bif v0 then
  k0 (true,[])
 else
  bif (decide ((0+v1.length)*1≤a0L)&&decide ((0+v1.length)≤a0d)) then
   k0 ((v1.isEmpty&&false),v1)
  else
   none
def G55x0 (v0:Bool) (v1:LD):Option (Bool×LD):=F55x0 N v0 v1 (fun p=>some p)
theorem a8j (v0:Bool) (v1:LD) (k0:Bool×LD→Option R):F55x0 N v0 v1 k0=(G55x0 N v0 v1).bind k0:=by
 unfold G55x0 F55x0
 repeat' (first|with_reducible apply a0f|(with_reducible apply a0m;intro _)|rfl)
def a5L:Sh:={tmps:=[(0,.c (.sl 5))],mem:=[]}
def c1C (L:List Lf):List (Bool×Res):=bnd (F55x0 N (lb L 0) (ll L 1) (fun p=>some p)) fun q=>[(q.isSome,([.c (.sl 5 (q.getD default).1 (q.getD default).2)],[]))]
theorem b3Q (L:List Lf):bd Tryz.prog (e6H N) (a5K N).h 55 a5L L=F55x0 N (lb L 0) (ll L 1) (fun p=>some ([.c (.sl 5 p.1 p.2)],[])):=by kernel_rfl
theorem c1D:a0G Tryz.prog 55 a5L (c1C N):=
 (a5K N).fn a0b (c7k N) fun L x hx=>((b3Q N L).trans ((a8j N ..).trans (a0N x hx)))
def a8k:a0e:=ext 55 (a1E a5L (c1C N)) (e6H N)
theorem a2B:a0c Tryz.prog (a8k N):=a0G.to (c1D N) (c7k N)
def f1Y:List (Nat×List Nat):=[(0,[0,1,2]),(1,[0,1,2,3]),(2,[0,1,2,6,3]),(3,[7,2,0,6,3]),(4,[7,8,2,0,6,3]),(6,[9,8,2,0,6,3,7]),(8,[9,8,2,0,6,3,7]),(10,[9,8,7,2,6,0,3]),(5,[8,6,3]),(11,[9,8,7,2,6,0,3]),(12,[7,8,2,6,0,3]),(13,[10,7,8,2,6,0,3]),(14,[7,11,8,2,6,0,10,3]),(15,[7,11,8,2,6,0,10,3]),(16,[62,61,7,11,8,2,6,0,10,3]),(17,[7,11,62,61,8,2,6,0,10,3]),(18,[11,12,62,61,7,8,2,6,0,10,3]),(19,[62,61,7,11,8,2,6,0,10,3]),(20,[11,8,2,6,0,10,3]),(21,[8,11,2,6,0,10,3]),(22,[8,6,0,10,3]),(9,[9,8,2,0,6,3,7]),(7,[9,8,2,0,6,3,7]),(23,[8,2,0,6,3,7]),(24,[8,0,13,6,3,7]),(25,[0,13,14,8,6,3,7]),(26,[8,6,3]),(27,[13,14,7,8,6,0,3]),(28,[14,15,7,8,6,0,3]),(29,[15,7,8,6,0,3]),(30,[7,15,8,6,0,3]),(31,[8,6,0,3])]
def f1Z:a0E:=[(48,[0,2,3,6,7,8,10,11,61,62],[0,1,2,6,11,14,50014005],[50014002]),(24023,[0,2,3,6,7,8,9,25],[0,1,2,6,11],[]),(89,[0,3,6,7,8,15,127],[0,1,2,6,11],[])]
def d6a (N:Nat):Sg Tryz.prog 3 52:= .start f1Z f1Y
def a86 (w2:Int) (w5:Bool) (w6:LD) (w3 w4:Int) (w24:Bool) (w25:LD) (kr:Int→Int→Bool→LD→Option R) (k0:Int×Bool×LD→Option R):Option R:=
 bif (decide (w3<w2)) then
  bnd (a7v N 3 w4 w5 w6) fun y0=>
  bif y0.isSome then
   bif (inB 0 (y0.getD default).2.1.length) then
    bnd (IntKind.wrap .i64 ((y0.getD default).2.1.getD 0 (.i 0)).toI) fun y1=>
    bif (inB 1 (y0.getD default).2.1.length) then
     bnd (IntKind.wrap .i64 ((y0.getD default).2.1.getD 1 (.i 0)).toI) fun y2=>
     bif (inB 2 (y0.getD default).2.1.length) then
      bnd (IntKind.wrap .i64 ((y0.getD default).2.1.getD 2 (.i 0)).toI) fun y3=>
      bif (decide ((w25.length+1)*24≤a0L)&&decide ((w25.length+1)≤a0d)) then
       bnd ((w25++[(.a [(.i y1),(.i y2),(.i y3)])]):List D) fun y4=>
       kr (IntKind.wrap .u8 (w3+1)) (y0.getD default).2.2 false y4
      else
       none
     else
      none
    else
     none
   else
    none
  else
   none
 else
  k0 (w4,w24,w25)
def b2C (N:Nat) {R:Type} (w2:Int) (w5:Bool) (w6:LD):Nat→Int→Int→Bool→LD→(Int×Bool×LD→Option R)→Option R
 |0,_,_,_,_,_=>none
 |m+1,w3,w4,w24,w25,k0=>a86 N w2 w5 w6 w3 w4 w24 w25 (fun w3 w4 w24 w25=>b2C N w2 w5 w6 m w3 w4 w24 w25 k0) k0
def c7l (w2:Int) (w5:Bool) (w6:LD) (w3 w4:Int) (w24:Bool) (w25:LD):Option (Int×Bool×LD):=b2C N (R:=(Int×Bool×LD)) w2 w5 w6 N w3 w4 w24 w25 (fun p=>some p)
def a87 (L x:List Lf) (kr:List Lf→Option R) (k0:Int×Bool×LD→Option R):Option R:=a86 N (li L 2) (lb L 5) (ll L 6) (li x 0) (li x 1) (lb x 2) (ll x 3) (fun w3 w4 w24 w25=>kr [.i w3,.i w4,.b w24,.l w25]) k0
theorem c2H (L x:List Lf) (kr:List Lf→Option R) (k0:Int×Bool×LD→Option R):a87 N L x kr k0=(a87 N L x (fun y=>some (.inl y)) (fun p=>some (.inr p))).bind (a1a kr k0):=by
 unfold a87 a86
 repeat' (first|with_reducible apply a0f|(with_reducible apply a0m;intro _)|rfl)
def b2D (L:List Lf) (m:Nat) (x:List Lf):Option (Int×Bool×LD):=b2C N (R:=(Int×Bool×LD)) (li L 2) (lb L 5) (ll L 6) m (li x 0) (li x 1) (lb x 2) (ll x 3) (fun p=>some p)
def a5V:Sh:={tmps:=[(0,.c (.p 0 0)),(2,.c (.p 2 0)),(3,.c (.p 6 0)),(6,.c (.i .i64)),(7,.c (.f 53 [(0,0),(1,0)])),(8,.c (.p 11 0)),(10,.c (.i .u8)),(11,.c (.p 14 0)),(61,.c (.i .u8)),(62,.c (.i .u8))],mem:=[(0,.box ([.i .i64])),(1,.box ([.sl 5])),(2,.dat 127),(6,.box ([.i .i64,.i .i64,.i .i64,.sl 40,.sl 5])),(11,.box ([.i .i64,.i .i64,.i .i64,.sl 40,.sl 5])),(14,.box ([.b,.i .i64,.o 50014005])),(50014005,.row 37 true)]}
def b62 (L:List Lf) (p:Int×Bool×LD):Ex×St:=((.exit 1),mg (a0v a5V L) [0,2,3,6,7,8,10,11] [] [0,1,2,6,11,14,50014005] [(0,.box [.i .i64 p.1]),(50014005,.row 37 true p.2.1 p.2.2)])
def e04 (L:List Lf):List (Bool×(Ex×St)):=bnd (b2D N L N (pk a5V [3,4,24,25] L)) fun q=>[(q.isSome,b62 L (q.getD default))]
theorem c49 (m:Nat) (kn:St→Option (Ex×St)) (L x:List Lf):lpB Tryz.prog (a8k N) (d6a N).h 3 52 48 a5V [3,4,24,25] [0,2,3,4,5,6,7,8,10,11] [0,1,2,6,11,14,50014005] (m+100) kn L x=a87 N L x (fun y=>kn (a0v a5V (mx a5V [3,4,24,25] L y))) (fun p=>some (b62 L p)):=by kernel_rfl
theorem d6b (L:List Lf) (m:Nat) (x:List Lf):b2D N L (m+1) x=a87 N L x (b2D N L m) some:=by kernel_rfl
def d6c:Sg Tryz.prog 3 52:=
 (d6a N).lp (e04 N) N a0b (a2B N) (fun m kn L x=>(c49 N m kn L x).trans (c2H N L x _ _)) (fun L m x=>(d6b N L m x).trans (c2H N L x (b2D N L m) some)) fun L x hx=>a0N x hx
def a2c (w1 :Int) (w2:Bool) (w3:Int) (w4:Bool) (w5:LD) (w6:D) (k0:Int×Int×Int→Option R) (k1:Bool×Int×D×Int×Int×LD→Option R) (k2:Unit→Option R):Option R:=
 bif w2 then
  k0 (3,(IntKind.wrap .i64 ((IntKind.wrap .i64 (w1-128)).tdiv 32)),(w1.tmod 32))
 else
  bif (decide (w1<16)) then
   k0 (2,w1,0)
  else
   bnd (a26 N w1 64 79) fun y0=>
   bif y0 then
    bnd (a7v N 1 w3 w4 w5) fun y1=>
    bif y1.isSome then
     bif (inB 0 (y1.getD default).2.1.length) then
      bnd (a7v N 2 (y1.getD default).2.2 w4 w5) fun y2=>
      bif y2.isSome then
       bnd (b8B N (y2.getD default).2.1 (((y1.getD default).2.1.getD 0 (.i 0)).toI==1)) fun y3=>
       bif y3.isSome then
        bnd (a7v N 1 (y2.getD default).2.2 w4 w5) fun y4=>
        bif y4.isSome then
         bif (inB 0 (y4.getD default).2.1.length) then
          bnd (c7l N ((y4.getD default).2.1.getD 0 (.i 0)).toI w4 w5 0 (y4.getD default).2.2 true []) fun y5=>
          bif y5.isSome then
           bnd (c9d N (y5.getD default).2.2) fun y6=>
           bif y6.isSome then
            bif (inB (IntKind.wrap .i64 (w1-64)) 16) then
             bnd (((((((w6.put (0+((IntKind.wrap .i64 (w1-64)).toNat*6)) (.b true)).put (1+((IntKind.wrap .i64 (w1-64)).toNat*6)) (.b (((y1.getD default).2.1.getD 0 (.i 0)).toI==1))).put (2+((IntKind.wrap .i64 (w1-64)).toNat*6)) (.i (y3.getD default))).put (3+((IntKind.wrap .i64 (w1-64)).toNat*6)) (.l (y5.getD default).2.1 (y5.getD default).2.2)).put (4+((IntKind.wrap .i64 (w1-64)).toNat*6)) (.i (y6.getD default).1)).put (5+((IntKind.wrap .i64 (w1-64)).toNat*6)) (.i (y6.getD default).2)):D) fun y7=>
             bnd (bif (decide ((y5.getD default).1≥0)) then (decide (((y1.getD default).2.1.getD 0 (.i 0)).toI≤1)) else false) fun y8=>
             k1 (y8,(y5.getD default).1,y7,(IntKind.wrap .i64 (w1-64)),(IntKind.wrap .i64 (w1-64)),[(.a [(.b (((y1.getD default).2.1.getD 0 (.i 0)).toI==1)),(.i (y3.getD default)),(.l (y5.getD default).2.1 (y5.getD default).2.2)])])
            else
             none
           else
            none
          else
           none
         else
          none
        else
         none
       else
        none
      else
       none
     else
      none
    else
     none
   else
    k2 ()
def a1m (w1:Int) (w2:Bool) (w3:Int) (w4:Bool) (w5:LD) (w6:D):Option (Sum (Int×Int×Int) (Sum (Bool×Int×D×Int×Int×LD) (Unit))):=a2c N w1 w2 w3 w4 w5 w6 (fun p=>some (.inl p)) (fun p=>some (.inr (.inl p))) (fun p=>some (.inr (.inr p)))
theorem b5Y (w1:Int) (w2:Bool) (w3:Int) (w4:Bool) (w5:LD) (w6:D) (k0:Int×Int×Int→Option R) (k1:Bool×Int×D×Int×Int×LD→Option R) (k2:Unit→Option R):a2c N w1 w2 w3 w4 w5 w6 k0 k1 k2=(a1m N w1 w2 w3 w4 w5 w6).bind (a1a k0 (a1a k1 k2)):=by
 unfold a1m a2c
 repeat' (first|with_reducible apply a0f|(with_reducible apply a0m;intro _)|rfl)
def b4M (L:List Lf) (k0:Int×Int×Int→Option R) (k1:Bool×Int×D×Int×Int×LD→Option R) (k2:Unit→Option R):Option R:=a2c N (li L 1) (lb L 2) (li L 3) (lb L 4) (ll L 5) (ld L 6) k0 k1 k2
def a31:Sh:={tmps:=[(0,.c (.p 0 0)),(2,.c (.p 2 0)),(3,.c (.p 6 0)),(6,.c (.i .i64)),(7,.c (.f 53 [(0,0),(1,0)])),(8,.c (.p 11 0)),(9,.c (.i .i64)),(25,.c (.b))],mem:=[(0,.box ([.i .i64])),(1,.box ([.sl 5])),(2,.dat 127),(6,.box ([.i .i64,.i .i64,.i .i64,.sl 40,.sl 5])),(11,.box ([.i .i64,.i .i64,.i .i64,.sl 40,.sl 5]))]}
def a88 (L:List Lf) (p:Int×Int×Int):Ex×St:=(.normal,mg (a0v a31 L) [0,2,3,6,7,8] [] [0,1,2,6,11] [(11,.box [.i .i64 p.1,.i .i64 p.2.1,.i .i64 p.2.2,.sl 40 true [],.sl 5 true []])])
def a89 (L:List Lf) (p:Bool×Int×D×Int×Int×LD):Ex×St:=let p1:=p.2;let p2:=p1.2;let p3:=p2.2;let p4:=p3.2;let p5:=p4.2;(.ret,mg (a0v a31 L) [0,3,4,5,6,8] [(4,.c (.i .i64 (li L 0))),(5,.c (.b p.1))] [0,1,2,6,11,89] [(0,.box [.i .i64 p1.1]),(2,.dat 127 p2.1),(6,.box [.i .i64 1,.i .i64 p3.1,.i .i64 0,.o 89,.sl 5 true []]),(11,.box [.i .i64 1,.i .i64 p4.1,.i .i64 0,.o 89,.sl 5 true []]),(89,.row 40 true false p5)])
def a9a (L:List Lf) (_:Unit):Ex×St:=(.ret,mg (a0v a31 L) [3,4,5,6,8] [(4,.c (.i .i64 (li L 0))),(5,.c (.b false))] [0,1,2,6,11] [(6,.box [.i .i64 (li L 14),.i .i64 (li L 15),.i .i64 (li L 16),.sl 40 (lb L 17) (ll L 18),.sl 5 (lb L 19) (ll L 20)])])
def c5a (L:List Lf):List (Bool×(Ex×St)):=bnd (b4M N L (fun p=>some (.inl p)) (fun p=>some (.inr (.inl p))) (fun p=>some (.inr (.inr p)))) fun q=>[((a0O q),a88 L (a01 q)),((a0O (a0l q)),a89 L (a01 (a0l q))),((a0l (a0l q)).isSome,a9a L ())]
theorem b9t (L:List Lf):pc Tryz.prog (a8k N) (d6c N).h 3 100 52 24023 a31 L [0,2,3,4,5,6,7,8] [0,1,2,6,11,89]=b4M N L (fun p=>some (a88 L p)) (fun p=>some (a89 L p)) (fun _=>some (a9a L ())):=by kernel_rfl
def d6d:Sg Tryz.prog 3 52:=
 (d6c N).cut (c5a N) a0b (a2B N) fun L x hx=>(b9t N L).trans ((b5Y N ..).trans ((a27 (a27 a0N)) x hx))
def a6w (N:Nat) (w1:Int) (w2:Bool) (k0:Int→R):R:=
 bif w2 then
  k0 (IntKind.wrap .i64 (w1-4))
 else
  k0 w1
def a6x (w1:Int) (w2:Bool):Int:=a6w N w1 w2 (fun p=>p)
theorem d0i (w1:Int) (w2:Bool) (k0:Int→R):a6w N w1 w2 k0=k0 (a6x N w1 w2):=by
 unfold a6x a6w
 repeat' (first|rfl|apply a0W|(apply a1D;intro _))
def c2I:Sh:={tmps:=[(0,.c (.p 0 0)),(3,.c (.p 6 0)),(6,.c (.i .i64)),(7,.c (.f 53 [(0,0),(1,0)])),(8,.c (.p 11 0)),(15,.c (.i .i64)),(127,.c (.b))],mem:=[(0,.box ([.i .i64])),(1,.box ([.sl 5])),(2,.dat 127),(6,.box ([.i .i64,.i .i64,.i .i64,.sl 40,.sl 5])),(11,.box ([.i .i64,.i .i64,.i .i64,.sl 40,.sl 5]))]}
def b63 (L:List Lf) (p:Int):Ex×St:=(.normal,mg (a0v c2I L) [0,3,6,7,8,15] [(15,.c (.i .i64 p))] [0,1,2,6,11] [])
def e05 (L:List Lf):List (Bool×(Ex×St)):=bnd (a6w N (li L 1) (lb L 2) (fun p=>p)) fun q=>[(true,b63 L q)]
theorem d0j (L:List Lf):pc Tryz.prog (a8k N) (d6d N).h 3 100 52 89 c2I L [0,3,6,7,8,15] [0,1,2,6,11]=a6w N (li L 1) (lb L 2) (fun p=>some (b63 L p)):=by kernel_rfl
def d6e:Sg Tryz.prog 3 52:=
 (d6d N).cut (e05 N) a0b (a2B N) fun L x hx=>(d0j N L).trans ((d0i N ..).trans (a5j _ _ hx))
def d0k (v0:Int) (v1:Bool) (v2:LD) (v3:D) (k0:Ty1→Option R):Option R:=
 bnd (a7v N 1 v0 v1 v2) fun y0=>
 bif y0.isSome then
  bif (inB 0 (y0.getD default).2.1.length) then
   bnd (IntKind.wrap .i64 ((y0.getD default).2.1.getD 0 (.i 0)).toI) fun y1=>
   bnd (a1m N y1 (decide (y1≥128)) (y0.getD default).2.2 v1 v2 v3) fun y2=>
   bif (a0O y2) then
    bif (inB (a01 y2).2.1 16) then
     bnd (bif (decide ((y0.getD default).2.2<0)) then true else (!(v3.cell (0+((a01 y2).2.1.toNat*6))).toB)) fun y3=>
     bnd (bif y3 then true else (bif ((a01 y2).1==3) then (decide ((v3.cell (5+((a01 y2).2.1.toNat*6))).toI<0)) else false)) fun y4=>
     bif y4 then
      k0 ((a01 y2).1,(a01 y2).2.1,(a01 y2).2.2,true,[],true,[],false,(y0.getD default).2.2,v3)
     else
      bnd (a6x N (v3.cell (4+((a01 y2).2.1.toNat*6))).toI ((a01 y2).1==3)) fun y5=>
      bnd (a7v N y5 (y0.getD default).2.2 v1 v2) fun y6=>
      bif y6.isSome then
       bnd (G55x0 N (y6.getD default).1 (y6.getD default).2.1) fun y7=>
       bif y7.isSome then
        k0 ((a01 y2).1,(a01 y2).2.1,(a01 y2).2.2,true,[],(y7.getD default).1,(y7.getD default).2,(decide ((y6.getD default).2.2≥0)),(y6.getD default).2.2,v3)
       else
        none
      else
       none
    else
     none
   else
    bif (a0O (a0l y2)) then
     k0 (1,(a01 (a0l y2)).2.2.2.1,0,false,(a01 (a0l y2)).2.2.2.2.2,true,[],(a01 (a0l y2)).1,(a01 (a0l y2)).2.1,(a01 (a0l y2)).2.2.1)
    else
     bif (a0l (a0l y2)).isSome then
      k0 (0,0,0,true,[],true,[],false,(y0.getD default).2.2,v3)
     else
      none
  else
   none
 else
  none
def c2J (v0:Int) (v1:Bool) (v2:LD) (v3:D):Option (Ty1):=d0k N v0 v1 v2 v3 (fun p=>some p)
theorem e06 (v0:Int) (v1:Bool) (v2:LD) (v3:D) (k0:Ty1→Option R):d0k N v0 v1 v2 v3 k0=(c2J N v0 v1 v2 v3).bind k0:=by
 unfold c2J d0k
 repeat' (first|with_reducible apply a0f|(with_reducible apply a0m;intro _)|rfl)
def f10 (L:List Lf) (k0:Ty1→Option R):Option R:=d0k N (li L 0) (lb L 1) (ll L 2) (ld L 3) k0
def c7m:Sh:={tmps:=[(0,.c (.p 0 0)),(1,.c (.p 1 0)),(2,.c (.p 2 0))],mem:=[(0,.box ([.i .i64])),(1,.box ([.sl 5])),(2,.dat 127)]}
def d6f (L:List Lf) (p:Ty1):Res:=let p1:=p.2;let p2:=p1.2;let p3:=p2.2;let p4:=p3.2;let p5:=p4.2;let p6:=p5.2;let p7:=p6.2;let p8:=p7.2;let p9:=p8.2;([.g [.i .i64 p.1,.i .i64 p1.1,.i .i64 p2.1,.sl 40 p3.1 p4.1,.sl 5 p5.1 p6.1],.c (.i .i64 (li L 0)),.c (.b p7.1)],mgA (a0v c7m L).mem [(0,.box [.i .i64 p8.1]),(2,.dat 127 p9)] [0,1,2])
def f11 (L:List Lf):List (Bool×Res):=bnd (f10 N L (fun p=>some p)) fun q=>[(q.isSome,d6f L (q.getD default))]
theorem e6I (L:List Lf):bd Tryz.prog (a8k N) (d6e N).h 52 c7m L=f10 N L (fun p=>some (d6f L p)):=by kernel_rfl
theorem f12:a0G Tryz.prog 52 c7m (f11 N):=
 (d6e N).fn a0b (a2B N) fun L x hx=>((e6I N L).trans ((e06 N ..).trans (a0N x hx)))
def d6g:a0e:=ext 52 (a1E c7m (f11 N)) (a8k N)
theorem b2E:a0c Tryz.prog (d6g N):=a0G.to (f12 N) (a2B N)
def f4K:List (Nat×List Nat):=[(0,[0]),(1,[0,2]),(3,[0,2]),(5,[0,2]),(6,[2]),(4,[2]),(2,[2]),(7,[0,2]),(8,[0,2,5]),(9,[6,2,5]),(10,[6,7,2,5]),(11,[8,6,7,2,5]),(12,[7,2,5,8,6]),(13,[11,10,2,5,9,8,6,7]),(14,[10,2]),(15,[5,9,8,6,7,2]),(16,[8,9,6,7,2,5]),(17,[5,2]),(18,[12,2,5]),(19,[12,2]),(20,[5,2])]
def f4L:a0E:=[(10,[0,2],[2],[]),(33,[2,5,6,7,8],[2,5,50005000,61000000001,61000000003,61000000004],[50005000])]
def e3x (N:Nat):Sg Tryz.prog 0 7:= .start f4L f4K
def b0n (w1:LD) (k0:Bool→Option R):Option R:=
 bif (decide ((w1.length:Int)<12)) then
  k0 true
 else
  bif (decide (4≤(w1.length:Int))) then
   bnd (!((a9H ((w1.take 4).drop 0))==([72,65,82,49]:List UInt8))) fun y0=>
   bif y0 then
    k0 true
   else
    bif (decide (8≤(w1.length:Int))) then
     bnd (b8B N ((w1.take 8).drop 4) true) fun y1=>
     bif y1.isSome then
      bnd (IntKind.wrap .i64 ((IntKind.wrap .i64 ((w1.length:Int)-8))-4)) fun y2=>
      k0 ((y1.getD default) !=y2)
     else
      none
    else
     none
  else
   none
def b4N (w1:LD):Option (Bool):=b0n N w1 (fun p=>some p)
theorem d0l (w1:LD) (k0:Bool→Option R):b0n N w1 k0=(b4N N w1).bind k0:=by
 unfold b4N b0n
 repeat' (first|with_reducible apply a0f|(with_reducible apply a0m;intro _)|rfl)
def c7n:Sh:={tmps:=[(0,.c (.sl 5)),(2,.c (.p 2 0))],mem:=[(2,.box ([.sl 44]))]}
def c2K (L:List Lf) (p:Bool):Ex×St:=(.normal,mg (a0v c7n L) [0,2,18] [(18,.c (.b p))] [2] [])
def e6J (L:List Lf):List (Bool×(Ex×St)):=bnd (b0n N (ll L 1) (fun p=>some p)) fun q=>[(q.isSome,c2K L (q.getD default))]
theorem d6h (L:List Lf):pc Tryz.prog (d6g N) (e3x N).h 0 100 7 10 c7n L [0,2,18] [2]=b0n N (ll L 1) (fun p=>some (c2K L p)):=by kernel_rfl
def e3y:Sg Tryz.prog 0 7:=
 (e3x N).cut (e6J N) a0b (b2E N) fun L x hx=>(d6h N L).trans ((d0l N ..).trans (a0N x hx))
def b4O (w1:LD) (w7:Bool) (w8:LD) (w2:Int) (w5:Bool) (w6:LD) (w9:Int) (w10:D) (kr:Int→Bool→LD→Int→D→Option R) (k0:Int×Bool×LD→Option R) (k1:Bool×LD→Option R):Option R:=
 bif (decide (w2<(w1.length:Int))) then
  bnd (c2J N w9 w7 w8 w10) fun y0=>
  bif y0.isSome then
   bif (!(y0.getD default).2.2.2.2.2.2.2.1) then
    k0 ((IntKind.wrap .i64 (8+w9)),w5,w6)
   else
    bif (decide ((w6.length+1)*72≤a0L)&&decide ((w6.length+1)≤a0d)) then
     bnd ((w6++[(.a [(.i (y0.getD default).1),(.i (y0.getD default).2.1),(.i (y0.getD default).2.2.1),(.l (y0.getD default).2.2.2.1 (y0.getD default).2.2.2.2.1),(.l (y0.getD default).2.2.2.2.2.1 (y0.getD default).2.2.2.2.2.2.1)])]):List D) fun y1=>
     bnd (c44 N (y0.getD default).1 (y0.getD default).2.1 (y0.getD default).2.2.1 (y0.getD default).2.2.2.2.1 (y0.getD default).2.2.2.2.2.2.1) fun y2=>
     bif y2.isSome then
      bnd (IntKind.wrap .i64 (w2+((y2.getD default).2.length:Int))) fun y3=>
      kr y3 false y1 (y0.getD default).2.2.2.2.2.2.2.2.1 (y0.getD default).2.2.2.2.2.2.2.2.2
     else
      none
    else
     none
  else
   none
 else
  k1 (w5,w6)
def b0o (N:Nat) {R:Type} (w1:LD) (w7:Bool) (w8:LD):Nat→Int→Bool→LD→Int→D→(Int×Bool×LD→Option R)→(Bool×LD→Option R)→Option R
 |0,_,_,_,_,_,_,_=>none
 |m+1,w2,w5,w6,w9,w10,k0,k1=>b4O N w1 w7 w8 w2 w5 w6 w9 w10 (fun w2 w5 w6 w9 w10=>b0o N w1 w7 w8 m w2 w5 w6 w9 w10 k0 k1) k0 k1
def d6i (w1:LD) (w7:Bool) (w8:LD) (w2:Int) (w5:Bool) (w6:LD) (w9:Int) (w10:D):Option (Sum (Int×Bool×LD) (Bool×LD)):=b0o N (R:=(Sum (Int×Bool×LD) (Bool×LD))) w1 w7 w8 N w2 w5 w6 w9 w10 (fun p=>some (.inl p)) (fun p=>some (.inr p))
def b4P (L x:List Lf) (kr:List Lf→Option R) (k0:Int×Bool×LD→Option R) (k1:Bool×LD→Option R):Option R:=b4O N (ll L 1) (lb L 7) (ll L 8) (li x 0) (lb x 1) (ll x 2) (li x 3) (ld x 4) (fun w2 w5 w6 w9 w10=>kr [.i w2,.b w5,.l w6,.i w9,.d w10]) k0 k1
theorem c7o (L x:List Lf) (kr:List Lf→Option R) (k0:Int×Bool×LD→Option R) (k1:Bool×LD→Option R):b4P N L x kr k0 k1=(b4P N L x (fun y=>some (.inl y)) (fun p=>some (.inr (.inl p))) (fun p=>some (.inr (.inr p)))).bind (a1a kr (a1a k0 k1)):=by
 unfold b4P b4O
 repeat' (first|with_reducible apply a0f|(with_reducible apply a0m;intro _)|rfl)
def b9u (L:List Lf) (m:Nat) (x:List Lf):Option (Sum (Int×Bool×LD) (Bool×LD)):=b0o N (R:=(Sum (Int×Bool×LD) (Bool×LD))) (ll L 1) (lb L 7) (ll L 8) m (li x 0) (lb x 1) (ll x 2) (li x 3) (ld x 4) (fun p=>some (.inl p)) (fun p=>some (.inr p))
def a9b:Sh:={tmps:=[(2,.c (.p 2 0)),(5,.c (.p 5 0)),(6,.c (.sl 5)),(7,.c (.f 52 [(61000000003,0),(61000000001,0),(61000000004,0)])),(8,.c (.i .i64))],mem:=[(2,.box ([.sl 44])),(5,.box ([.o 50005000])),(50005000,.row 44 true),(61000000001,.box ([.sl 5])),(61000000003,.box ([.i .i64])),(61000000004,.dat 127)]}
def c2L (L:List Lf) (p:Int×Bool×LD):Ex×St:=(.ret,⟨[(2,.c (.p 2 0)),(3,.c (.i .i64 p.1)),(4,.c (.i .i64 6))],[(2,.box [.sl 44 true []]),(5,.box [.o 50005000]),(50005000,.row 44 true p.2.1 p.2.2)]⟩)
def c2M (L:List Lf) (p:Bool×LD):Ex×St:=((.exit 1),mg (a0v a9b L) [2,5] [] [2,5,50005000] [(50005000,.row 44 true p.1 p.2)])
def e6K (L:List Lf):List (Bool×(Ex×St)):=bnd (b9u N L N (pk a9b [2,5,6,9,10] L)) fun q=>[((a0O q),c2L L (a01 q)),((a0l q).isSome,c2M L ((a0l q).getD default))]
theorem d0m (m:Nat) (kn:St→Option (Ex×St)) (L x:List Lf):lpB Tryz.prog (d6g N) (e3y N).h 0 7 33 a9b [2,5,6,9,10] [2,3,4,5] [2,5,50005000] (m+100) kn L x=b4P N L x (fun y=>kn (a0v a9b (mx a9b [2,5,6,9,10] L y))) (fun p=>some (c2L L p)) (fun p=>some (c2M L p)):=by kernel_rfl
theorem e07 (L:List Lf) (m:Nat) (x:List Lf):b9u N L (m+1) x=b4P N L x (b9u N L m) (fun p=>some (.inl p)) (fun p=>some (.inr p)):=by kernel_rfl
def e3z:Sg Tryz.prog 0 7:=
 (e3y N).lp (e6K N) N a0b (b2E N) (fun m kn L x=>(d0m N m kn L x).trans (c7o N L x _ _ _)) (fun L m x=>(e07 N L m x).trans (c7o N L x (b9u N L m) (fun p=>some (.inl p)) (fun p=>some (.inr p)))) fun L x hx=>(a27 a0N) x hx
def e8o (v0 : Bool) (v1:LD) (k0:Bool×LD×Int×Int→Option R):Option R:=
 bif (decide ((v1.length:Int)>4000000)) then
  k0 (true,[],0,3)
 else
  bnd (b4N N v1) fun y0=>
  bif y0.isSome then
   bif (y0.getD default) then
    k0 (true,[],0,6)
   else
    bif ((decide (0≤(IntKind.wrap .i64 ((v1.length:Int)-4))))&&(decide ((IntKind.wrap .i64 ((v1.length:Int)-4))≤(v1.length:Int)))) then
     bnd (((v1.take (IntKind.wrap .i64 ((v1.length:Int)-4)).toNat).drop 0):List D) fun y1=>
     bnd (d0f N y1) fun y2=>
     bif y2.isSome then
      bif (((decide (0≤(IntKind.wrap .i64 ((v1.length:Int)-4))))&&(decide ((IntKind.wrap .i64 ((v1.length:Int)-4))≤(v1.length:Int))))&&(decide ((v1.length:Int)≤(v1.length:Int)))) then
       bnd (((v1.take (v1.length:Int).toNat).drop (IntKind.wrap .i64 ((v1.length:Int)-4)).toNat):List D) fun y3=>
       bnd (b8B N y3 true) fun y4=>
       bif y4.isSome then
        bif ((y2.getD default) !=(y4.getD default)) then
         k0 (true,[],0,1)
        else
         bif ((decide (8≤(IntKind.wrap .i64 ((v1.length:Int)-4))))&&(decide ((IntKind.wrap .i64 ((v1.length:Int)-4))≤(v1.length:Int)))) then
          bnd (((v1.take (IntKind.wrap .i64 ((v1.length:Int)-4)).toNat).drop 8):List D) fun y5=>
          bnd (c48 N) fun y6=>
          bnd (d6i N y5 v0 y5 0 true [] 0 y6) fun y7=>
          bif (a0O y7) then
           k0 (true,[],(a01 y7).1,6)
          else
           bif (a0l y7).isSome then
            bnd (b1F N ((a0l y7).getD default).2) fun y8=>
            bif y8.isSome then
             bif ((y8.getD default) !=0) then
              k0 (true,[],0,(y8.getD default))
             else
              k0 (((a0l y7).getD default).1,((a0l y7).getD default).2,0,0)
            else
             none
           else
            none
         else
          none
       else
        none
      else
       none
     else
      none
    else
     none
  else
   none
def d6j (v0:Bool) (v1:LD):Option (Bool×LD×Int×Int):=e8o N v0 v1 (fun p=>some p)
theorem e6L (v0:Bool) (v1:LD) (k0:Bool×LD×Int×Int→Option R):e8o N v0 v1 k0=(d6j N v0 v1).bind k0:=by
 unfold d6j e8o
 repeat' (first|with_reducible apply a0f|(with_reducible apply a0m;intro _)|rfl)
def e6M:Sh:={tmps:=[(0,.c (.sl 5))],mem:=[]}
def e3A (L:List Lf) (p:Bool×LD×Int×Int):Res:=([.g [.sl 44 p.1 p.2.1],.c (.i .i64 p.2.2.1),.c (.i .i64 p.2.2.2)],[])
def f5A (L:List Lf):List (Bool×Res):=bnd (e8o N (lb L 0) (ll L 1) (fun p=>some p)) fun q=>[(q.isSome,e3A L (q.getD default))]
theorem f13 (L:List Lf):bd Tryz.prog (d6g N) (e3z N).h 7 e6M L=e8o N (lb L 0) (ll L 1) (fun p=>some (e3A L p)):=by kernel_rfl
theorem f4M:a0G Tryz.prog 7 e6M (f5A N):=
 (e3z N).fn a0b (b2E N) fun L x hx=>((f13 N L).trans ((e6L N ..).trans (a0N x hx)))
def f4N:a0e:=ext 7 (a1E e6M (f5A N)) (d6g N)
theorem d6k:a0c Tryz.prog (f4N N):=a0G.to (f4M N) (b2E N)
def e6N:List (Nat×List Nat):=[(0,[0,1]),(1,[0,1]),(2,[7,0,1]),(3,[0,7,1]),(4,[0])]
def e6O:a0E:=[]
def c7p (N:Nat):Sg Tryz.prog 0 102:= .start e6O e6N
def b64 (v0:LB) (k0:Ty5→Option R):Option R:=
 bnd (c4S N v0) fun y0=>
 bif (decide (y0≥0)) then
  bif ((decide (0≤y0))&&(decide (y0≤(v0.length:Int)))) then
   bif (((decide (0≤(IntKind.wrap .i64 (y0+1))))&&(decide ((IntKind.wrap .i64 (y0+1))≤(v0.length:Int))))&&(decide ((v0.length:Int)≤(v0.length:Int)))) then
    bnd ((v0.take (v0.length:Int).toNat).drop (IntKind.wrap .i64 (y0+1)).toNat) fun y1=>
    k0 (((v0.take y0.toNat).drop 0),y1,true)
   else
    none
  else
   none
 else
  k0 (v0,([]:List UInt8),false)
def c7q (v0:LB):Option (Ty5):=b64 N v0 (fun p=>some p)
theorem d6l (v0:LB) (k0:Ty5→Option R):b64 N v0 k0=(c7q N v0).bind k0:=by
 unfold c7q b64
 repeat' (first|with_reducible apply a0f|(with_reducible apply a0m;intro _)|rfl)
def c5b:Sh:={tmps:=[(0,.c (.s)),(1,.c (.ks [0]))],mem:=[]}
def e3B (L:List Lf):List (Bool×Res):=bnd (b64 N (ls L 0) (fun p=>some p)) fun q=>[(q.isSome,([.c (.s (q.getD default).1),.c (.s (q.getD default).2.1),.c (.b (q.getD default).2.2)],[]))]
theorem e08 (L:List Lf):bd Tryz.prog (f4N N) (c7p N).h 102 c5b L=b64 N (ls L 0) (fun p=>some ([.c (.s p.1),.c (.s p.2.1),.c (.b p.2.2)],[])):=by kernel_rfl
theorem e6P:a0G Tryz.prog 102 c5b (e3B N):=
 (c7p N).fn a0b (d6k N) fun L x hx=>((e08 N L).trans ((d6l N ..).trans (a0N x hx)))
def d6m:a0e:=ext 102 (a1E c5b (e3B N)) (f4N N)
theorem c2N:a0c Tryz.prog (d6m N):=a0G.to (e6P N) (d6k N)
def f14:List (Nat×List Nat):=[(0,[0,1]),(1,[0,1])]
def f15:a0E:=[]
def d6n (N:Nat):Sg Tryz.prog 0 81:= .start f15 f14
def d0n (v0:LB) (k0:Ty5→Option R):Option R:=
 bnd (c7q N v0) fun y0=>
 bif y0.isSome then
  k0 (y0.getD default)
 else
  none
def d6o (v0:LB):Option (Ty5):=d0n N v0 (fun p=>some p)
theorem e09 (v0:LB) (k0:Ty5→Option R):d0n N v0 k0=(d6o N v0).bind k0:=by
 unfold d6o d0n
 repeat' (first|with_reducible apply a0f|(with_reducible apply a0m;intro _)|rfl)
def d6p:Sh:={tmps:=[(0,.c (.s)),(1,.c (.ks [0]))],mem:=[]}
def f16 (L:List Lf):List (Bool×Res):=bnd (d0n N (ls L 0) (fun p=>some p)) fun q=>[(q.isSome,([.c (.s (q.getD default).1),.c (.s (q.getD default).2.1),.c (.b (q.getD default).2.2)],[]))]
theorem e6Q (L:List Lf):bd Tryz.prog (d6m N) (d6n N).h 81 d6p L=d0n N (ls L 0) (fun p=>some ([.c (.s p.1),.c (.s p.2.1),.c (.b p.2.2)],[])):=by kernel_rfl
theorem f17:a0G Tryz.prog 81 d6p (f16 N):=
 (d6n N).fn a0b (c2N N) fun L x hx=>((e6Q N L).trans ((e09 N ..).trans (a0N x hx)))
def c2O:a0e:=ext 81 (a1E d6p (f16 N)) (d6m N)
theorem a43:a0c Tryz.prog (c2O N):=a0G.to (f17 N) (c2N N)
def f18:List (Nat×List Nat):=[(0,[0,1,2]),(1,[3,1,6,2]),(2,[1,3,7,6,2]),(3,[3,8,7,6,2]),(10,[28,8,7,6,2,3]),(12,[28,8,7,6,2,3]),(4,[8,2,7,3,6]),(5,[7,3,6]),(6,[7,6,3]),(8,[3,7,6]),(9,[7,3,6]),(7,[7,6]),(13,[8,7,6]),(14,[7,6]),(11,[8,7,6]),(15,[7,6])]
def f19:a0E:=[(25,[3,6,7],[3,6,7],[]),(29,[3,6,7,60],[3,6,7],[]),(24023,[3,6,7,46],[3,6,7],[]),(12041,[2,3,6,7,8,75],[3,6,7],[]),(36035,[2,3,6,7,8,28,70],[3,6,7],[])]
def d6q (N:Nat):Sg Tryz.prog 0 66:= .start f19 f18
def a6y (w1 w2 w11:Int) (k0:Bool→Option R):Option R:=
 bif (w2==1) then
  bnd (a8u N w1 true) fun y0=>
  bif y0.isSome then
   k0 (decide (w11>(y0.getD default)))
  else
   none
 else
  k0 false
def b2F (w1 w2 w11:Int):Option (Bool):=a6y N w1 w2 w11 (fun p=>some p)
theorem c5c (w1 w2 w11:Int) (k0:Bool→Option R):a6y N w1 w2 w11 k0=(b2F N w1 w2 w11).bind k0:=by
 unfold b2F a6y
 repeat' (first|with_reducible apply a0f|(with_reducible apply a0m;intro _)|rfl)
def c2P:Sh:={tmps:=[(3,.c (.p 3 0)),(6,.c (.p 6 0)),(7,.c (.p 7 0))],mem:=[(3,.box ([.i .i64,.i .i64,.i .i64,.i .i64])),(6,.box ([.i .i64,.i .i64,.i .i64,.s,.b])),(7,.box ([.i .i64,.i .i64,.i .i64,.s,.b]))]}
def b65 (L:List Lf) (p:Bool):Ex×St:=(.normal,mg (a0v c2P L) [3,6,7,60] [(60,.c (.b p))] [3,6,7] [])
def e1a (L:List Lf):List (Bool×(Ex×St)):=bnd (a6y N (li L 1) (li L 2) (li L 11) (fun p=>some p)) fun q=>[(q.isSome,b65 L (q.getD default))]
theorem d0o (L:List Lf):pc Tryz.prog (c2O N) (d6q N).h 0 100 66 25 c2P L [3,6,7,60] [3,6,7]=a6y N (li L 1) (li L 2) (li L 11) (fun p=>some (b65 L p)):=by kernel_rfl
def d6r:Sg Tryz.prog 0 66:=
 (d6q N).cut (e1a N) a0b (a43 N) fun L x hx=>(d0o N L).trans ((c5c N ..).trans (a0N x hx))
def a6z (N:Nat) (w0:Bool) (w2 w12:Int) (k0:Int→Option R):Option R:=
 bif w0 then
  bif (decide (0≤(IntKind.wrap .i64 (8*w2)))) then
   bnd (IntKind.wrap .i64 (1*2^(min (IntKind.wrap .i64 (8*w2)).toNat 64))) fun y0=>
   k0 (IntKind.wrap .i64 (w12-y0))
  else
   none
 else
  k0 w12
def b2G (w0:Bool) (w2 w12:Int):Option (Int):=a6z N w0 w2 w12 (fun p=>some p)
theorem c5d (w0:Bool) (w2 w12:Int) (k0:Int→Option R):a6z N w0 w2 w12 k0=(b2G N w0 w2 w12).bind k0:=by
 unfold b2G a6z
 repeat' (first|with_reducible apply a0f|(with_reducible apply a0m;intro _)|rfl)
def c2Q:Sh:={tmps:=[(3,.c (.p 3 0)),(6,.c (.p 6 0)),(7,.c (.p 7 0)),(60,.c (.b))],mem:=[(3,.box ([.i .i64,.i .i64,.i .i64,.i .i64])),(6,.box ([.i .i64,.i .i64,.i .i64,.s,.b])),(7,.box ([.i .i64,.i .i64,.i .i64,.s,.b]))]}
def b66 (L:List Lf) (p:Int):Ex×St:=(.normal,mg (a0v c2Q L) [6,7] [] [6,7] [(7,.box [.i .i64 (li L 10),.i .i64 (li L 11),.i .i64 p,.s (ls L 13),.b (lb L 14)])])
def e1b (L:List Lf):List (Bool×(Ex×St)):=bnd (a6z N (lb L 0) (li L 2) (li L 12) (fun p=>some p)) fun q=>[(q.isSome,b66 L (q.getD default))]
theorem d0p (L:List Lf):pc Tryz.prog (c2O N) (d6r N).h 0 100 66 29 c2Q L [6,7] [6,7]=a6z N (lb L 0) (li L 2) (li L 12) (fun p=>some (b66 L p)):=by kernel_rfl
def d6s:Sg Tryz.prog 0 66:=
 (d6r N).cut (e1b N) a0b (a43 N) fun L x hx=>(d0p N L).trans ((c5d N ..).trans (a0N x hx))
def a3I (w0:Bool) (w2 w3 w12:Int) (k0:Int→Option R):Option R:=
 bif w0 then
  k0 0
 else
  bnd (b2F N w2 w3 w12) fun y0=>
  bif y0.isSome then
   bnd (b2G N (y0.getD default) w2 w12) fun y1=>
   bif y1.isSome then
    k0 (y1.getD default)
   else
    none
  else
   none
def a44 (w0:Bool) (w2 w3 w12:Int):Option (Int):=a3I N w0 w2 w3 w12 (fun p=>some p)
theorem b5Z (w0:Bool) (w2 w3 w12:Int) (k0:Int→Option R):a3I N w0 w2 w3 w12 k0=(a44 N w0 w2 w3 w12).bind k0:=by
 unfold a44 a3I
 repeat' (first|with_reducible apply a0f|(with_reducible apply a0m;intro _)|rfl)
def b4Q (L:List Lf) (k0:Int→Option R):Option R:=a3I N (lb L 0) (li L 2) (li L 3) (li L 12) k0
def b1k:Sh:={tmps:=[(3,.c (.p 3 0)),(6,.c (.p 6 0)),(7,.c (.p 7 0)),(46,.c (.b))],mem:=[(3,.box ([.i .i64,.i .i64,.i .i64,.i .i64])),(6,.box ([.i .i64,.i .i64,.i .i64,.s,.b])),(7,.box ([.i .i64,.i .i64,.i .i64,.s,.b]))]}
def a9c (L:List Lf) (p:Int):Ex×St:=(.normal,mg (a0v b1k L) [6,7] [] [6,7] [(7,.box [.i .i64 (li L 10),.i .i64 (li L 11),.i .i64 p,.s (ls L 13),.b (lb L 14)])])
def c5e (L:List Lf):List (Bool×(Ex×St)):=bnd (b4Q N L (fun p=>some p)) fun q=>[(q.isSome,a9c L (q.getD default))]
theorem b9v (L:List Lf):pc Tryz.prog (c2O N) (d6s N).h 0 100 66 24023 b1k L [6,7] [6,7]=b4Q N L (fun p=>some (a9c L p)):=by kernel_rfl
def d6t:Sg Tryz.prog 0 66:=
 (d6s N).cut (c5e N) a0b (a43 N) fun L x hx=>(b9v N L).trans ((b5Z N ..).trans (a0N x hx))
def a3J (w0:Bool) (w2:LD) (w3:Bool) (w5 w6 w15:Int) (w16:LB) (k0:Ty7→Option R):Option R:=
 bif w3 then
  bnd (d6o N (a9H w2)) fun y0=>
  bif y0.isSome then
   k0 (w15,(y0.getD default).1,((y0.getD default).1==([]:List UInt8)))
  else
   none
 else
  bnd (b8B N w2 w0) fun y1=>
  bif y1.isSome then
   bnd (a8u N w5 (w6==1)) fun y2=>
   bif y2.isSome then
    bnd (a44 N ((y1.getD default)==(y2.getD default)) w5 w6 (y1.getD default)) fun y3=>
    bif y3.isSome then
     k0 ((y3.getD default),w16,((y1.getD default)==(y2.getD default)))
    else
     none
   else
    none
  else
   none
def a45 (w0:Bool) (w2:LD) (w3:Bool) (w5 w6 w15:Int) (w16:LB):Option (Ty7):=a3J N w0 w2 w3 w5 w6 w15 w16 (fun p=>some p)
theorem b50 (w0:Bool) (w2:LD) (w3:Bool) (w5 w6 w15:Int) (w16:LB) (k0:Ty7→Option R):a3J N w0 w2 w3 w5 w6 w15 w16 k0=(a45 N w0 w2 w3 w5 w6 w15 w16).bind k0:=by
 unfold a45 a3J
 repeat' (first|with_reducible apply a0f|(with_reducible apply a0m;intro _)|rfl)
def b4R (L:List Lf) (k0:Ty7→Option R):Option R:=a3J N (lb L 0) (ll L 2) (lb L 3) (li L 5) (li L 6) (li L 15) (ls L 16) k0
def b1l:Sh:={tmps:=[(2,.c (.b)),(3,.c (.p 3 0)),(6,.c (.p 6 0)),(7,.c (.p 7 0)),(8,.c (.sl 5)),(75,.c (.b))],mem:=[(3,.box ([.i .i64,.i .i64,.i .i64,.i .i64])),(6,.box ([.i .i64,.i .i64,.i .i64,.s,.b])),(7,.box ([.i .i64,.i .i64,.i .i64,.s,.b]))]}
def a9d (L:List Lf) (p:Ty7):Ex×St:=(.normal,mg (a0v b1l L) [6,7] [] [6,7] [(7,.box [.i .i64 (li L 13),.i .i64 (li L 14),.i .i64 p.1,.s p.2.1,.b p.2.2])])
def c5f (L:List Lf):List (Bool×(Ex×St)):=bnd (b4R N L (fun p=>some p)) fun q=>[(q.isSome,a9d L (q.getD default))]
theorem b9w (L:List Lf):pc Tryz.prog (c2O N) (d6t N).h 0 100 66 12041 b1l L [6,7] [6,7]=b4R N L (fun p=>some (a9d L p)):=by kernel_rfl
def d6u:Sg Tryz.prog 0 66:=
 (d6t N).cut (c5f N) a0b (a43 N) fun L x hx=>(b9w N L).trans ((b50 N ..).trans (a0N x hx))
def a3K (w0:Bool) (w2:LD) (w3:Int) (w4:Bool) (w6 w7 w16:Int) (w17:LB) (w18:Bool) (k0:Ty7→Option R):Option R:=
 bif w4 then
  k0 (w16,(a9H w2),w18)
 else
  bnd (a45 N w0 w2 (w3==2) w6 w7 w16 w17) fun y0=>
  bif y0.isSome then
   k0 (y0.getD default)
  else
   none
def a46 (w0:Bool) (w2:LD) (w3:Int) (w4:Bool) (w6 w7 w16:Int) (w17:LB) (w18:Bool):Option (Ty7):=a3K N w0 w2 w3 w4 w6 w7 w16 w17 w18 (fun p=>some p)
theorem b51 (w0:Bool) (w2:LD) (w3:Int) (w4:Bool) (w6 w7 w16:Int) (w17:LB) (w18:Bool) (k0:Ty7→Option R):a3K N w0 w2 w3 w4 w6 w7 w16 w17 w18 k0=(a46 N w0 w2 w3 w4 w6 w7 w16 w17 w18).bind k0:=by
 unfold a46 a3K
 repeat' (first|with_reducible apply a0f|(with_reducible apply a0m;intro _)|rfl)
def b4S (L:List Lf) (k0:Ty7→Option R):Option R:=a3K N (lb L 0) (ll L 2) (li L 3) (lb L 4) (li L 6) (li L 7) (li L 16) (ls L 17) (lb L 18) k0
def b1m:Sh:={tmps:=[(2,.c (.b)),(3,.c (.p 3 0)),(6,.c (.p 6 0)),(7,.c (.p 7 0)),(8,.c (.sl 5)),(28,.c (.i .i64)),(70,.c (.b))],mem:=[(3,.box ([.i .i64,.i .i64,.i .i64,.i .i64])),(6,.box ([.i .i64,.i .i64,.i .i64,.s,.b])),(7,.box ([.i .i64,.i .i64,.i .i64,.s,.b]))]}
def a9e (L:List Lf) (p:Ty7):Ex×St:=(.normal,mg (a0v b1m L) [6,7] [] [6,7] [(7,.box [.i .i64 (li L 14),.i .i64 (li L 15),.i .i64 p.1,.s p.2.1,.b p.2.2])])
def c5g (L:List Lf):List (Bool×(Ex×St)):=bnd (b4S N L (fun p=>some p)) fun q=>[(q.isSome,a9e L (q.getD default))]
theorem b9x (L:List Lf):pc Tryz.prog (c2O N) (d6u N).h 0 100 66 36035 b1m L [6,7] [6,7]=b4S N L (fun p=>some (a9e L p)):=by kernel_rfl
def d6v:Sg Tryz.prog 0 66:=
 (d6u N).cut (c5g N) a0b (a43 N) fun L x hx=>(b9x N L).trans ((b51 N ..).trans (a0N x hx))
def d6w (v1 v2 v3:Int) (v5:LD) (v6:Bool) (k0:Ty7→Option R):Option R:=
 bif (((decide (0≤v3))&&(decide (v3≤(IntKind.wrap .i64 (v3+v1)))))&&(decide ((IntKind.wrap .i64 (v3+v1))≤(v5.length:Int)))) then
  bnd (((v5.take (IntKind.wrap .i64 (v3+v1)).toNat).drop v3.toNat):List D) fun y0=>
  bnd (a46 N v6 y0 v2 (v2==3) v1 v2 0 ([]:List UInt8) false) fun y1=>
  bif y1.isSome then
   k0 (y1.getD default)
  else
   none
 else
  none
def d0q (v1 v2 v3:Int) (v5:LD) (v6:Bool):Option (Ty7):=d6w N v1 v2 v3 v5 v6 (fun p=>some p)
theorem e1c (v1 v2 v3:Int) (v5:LD) (v6:Bool) (k0:Ty7→Option R):d6w N v1 v2 v3 v5 v6 k0=(d0q N v1 v2 v3 v5 v6).bind k0:=by
 unfold d0q d6w
 repeat' (first|with_reducible apply a0f|(with_reducible apply a0m;intro _)|rfl)
def f2a (L:List Lf) (k0:Ty7→Option R):Option R:=d6w N (li L 1) (li L 2) (li L 3) (ll L 5) (lb L 6) k0
def d6x:Sh:={tmps:=[(0,.g ([.i .i64,.i .i64,.i .i64,.i .i64])),(1,.c (.sl 5)),(2,.c (.b))],mem:=[]}
def d6y (L:List Lf) (p:Ty7):Res:=([.g [.i .i64 (li L 0),.i .i64 (li L 2),.i .i64 p.1,.s p.2.1,.b p.2.2]],[])
def f2b (L:List Lf):List (Bool×Res):=bnd (f2a N L (fun p=>some p)) fun q=>[(q.isSome,d6y L (q.getD default))]
theorem e6R (L:List Lf):bd Tryz.prog (c2O N) (d6v N).h 66 d6x L=f2a N L (fun p=>some (d6y L p)):=by kernel_rfl
theorem f2c:a0G Tryz.prog 66 d6x (f2b N):=
 (d6v N).fn a0b (a43 N) fun L x hx=>((e6R N L).trans ((e1c N ..).trans (a0N x hx)))
def e1d:a0e:=ext 66 (a1E d6x (f2b N)) (c2O N)
theorem b9y:a0c Tryz.prog (e1d N):=a0G.to (f2c N) (a43 N)
def f2d:List (Nat×List Nat):=[(0,[0,1]),(1,[2,3]),(2,[2,3,5]),(3,[14,13,12,5,3,2]),(4,[12,14,5,3,2,13]),(5,[5,7,3,2,14,13,12]),(6,[14,13,12,5,3,2]),(7,[5])]
def f2e:a0E:=[(9,[2,3,5,12,13,14],[2,3,5],[5])]
def d6z (N:Nat):Sg Tryz.prog 0 56:= .start f2e f2d
def b4T (w1:LD) (w2:Int) (w5:Bool) (w17:LD) (w3:Int) (w18:Bool) (w19:LD) (kr:Int→Bool→LD→Option R) (k0:Bool×LD→Option R):Option R:=
 bif (decide (w3<w2)) then
  bif (inB w3 w1.length) then
   bnd (d0q N ((w1.getD w3.toNat (.i 0)).cell 1).toI ((w1.getD w3.toNat (.i 0)).cell 2).toI ((w1.getD w3.toNat (.i 0)).cell 3).toI w17 w5) fun y0=>
   bif y0.isSome then
    bif (decide ((w19.length+1)*48≤a0L)&&decide ((w19.length+1)≤a0d)) then
     bnd ((w19++[(.a [(.i ((w1.getD w3.toNat (.i 0)).cell 0).toI),(.i ((w1.getD w3.toNat (.i 0)).cell 2).toI),(.i (y0.getD default).1),(.s (y0.getD default).2.1),(.b (y0.getD default).2.2)])]):List D) fun y1=>
     kr (IntKind.wrap .i64 (w3+1)) false y1
    else
     none
   else
    none
  else
   none
 else
  k0 (w18,w19)
def b9z (N:Nat) {R:Type} (w1:LD) (w2:Int) (w5:Bool) (w17:LD):Nat→Int→Bool→LD→(Bool×LD→Option R)→Option R
 |0,_,_,_,_=>none
 |m+1,w3,w18,w19,k0=>b4T N w1 w2 w5 w17 w3 w18 w19 (fun w3 w18 w19=>b9z N w1 w2 w5 w17 m w3 w18 w19 k0) k0
def d6A (w1:LD) (w2:Int) (w5:Bool) (w17:LD) (w3:Int) (w18:Bool) (w19:LD):Option (Bool×LD):=b9z N (R:=(Bool×LD)) w1 w2 w5 w17 N w3 w18 w19 (fun p=>some p)
def b4U (L x:List Lf) (kr:List Lf→Option R) (k0:Bool×LD→Option R):Option R:=b4T N (ll L 1) (li L 2) (lb L 5) (ll L 17) (li x 0) (lb x 1) (ll x 2) (fun w3 w18 w19=>kr [.i w3,.b w18,.l w19]) k0
theorem c7r (L x:List Lf) (kr:List Lf→Option R) (k0:Bool×LD→Option R):b4U N L x kr k0=(b4U N L x (fun y=>some (.inl y)) (fun p=>some (.inr p))).bind (a1a kr k0):=by
 unfold b4U b4T
 repeat' (first|with_reducible apply a0f|(with_reducible apply a0m;intro _)|rfl)
def b9A (L:List Lf) (m:Nat) (x:List Lf):Option (Bool×LD):=b9z N (R:=(Bool×LD)) (ll L 1) (li L 2) (lb L 5) (ll L 17) m (li x 0) (lb x 1) (ll x 2) (fun p=>some p)
def b2H:Sh:={tmps:=[(2,.c (.p 2 0)),(3,.c (.p 3 0)),(5,.c (.o 5)),(12,.c (.sl 101)),(13,.c (.i .i64)),(14,.c (.i .i64))],mem:=[(2,.box (.b::[.b,.i .i64,.sl 37,.i .i64,.i .i64])),(3,.box ([.i .i64,.i .i64,.i .i64,.sl 40,.sl 5])),(5,.row 28 true)]}
def e6S (L:List Lf):List (Bool×(Ex×St)):=bnd (b9A N L N (pk b2H [3,18,19] L)) fun q=>[(q.isSome,((.exit 0),⟨[(5,.c (.o 5))],[(5,.row 28 true (q.getD default).1 (q.getD default).2)]⟩))]
theorem d0r (m:Nat) (kn:St→Option (Ex×St)) (L x:List Lf):lpB Tryz.prog (e1d N) (d6z N).h 0 56 9 b2H [3,18,19] [4,5] [5] (m+100) kn L x=b4U N L x (fun y=>kn (a0v b2H (mx b2H [3,18,19] L y))) (fun p=>some ((.exit 0),⟨[(5,.c (.o 5))],[(5,.row 28 true p.1 p.2)]⟩)):=by kernel_rfl
theorem e1e (L:List Lf) (m:Nat) (x:List Lf):b9A N L (m+1) x=b4U N L x (b9A N L m) some:=by kernel_rfl
def d6B:Sg Tryz.prog 0 56:=
 (d6z N).lp (e6S N) N a0b (b9y N) (fun m kn L x=>(d0r N m kn L x).trans (c7r N L x _ _)) (fun L m x=>(e1e N L m x).trans (c7r N L x (b9A N L m) some)) fun L x hx=>a0N x hx
def d6C (v1:Bool) (v4:LD) (v6 v7:Int) (v13:LD) (k0:Bool×LD→Option R):Option R:=
 bnd (c4K N v4 v6 (v7==3)) fun y0=>
 bif y0.isSome then
  bnd (d6A N (y0.getD default).2 ((y0.getD default).2.length:Int) v1 v13 0 true []) fun y1=>
  bif y1.isSome then
   k0 (y1.getD default)
  else
   none
 else
  none
def d0s (v1:Bool) (v4:LD) (v6 v7:Int) (v13:LD):Option (Bool×LD):=d6C N v1 v4 v6 v7 v13 (fun p=>some p)
theorem e1f (v1:Bool) (v4:LD) (v6 v7:Int) (v13:LD) (k0:Bool×LD→Option R):d6C N v1 v4 v6 v7 v13 k0=(d0s N v1 v4 v6 v7 v13).bind k0:=by
 unfold d0s d6C
 repeat' (first|with_reducible apply a0f|(with_reducible apply a0m;intro _)|rfl)
def f2f (L:List Lf) (k0:Bool×LD→Option R):Option R:=d6C N (lb L 1) (ll L 4) (li L 6) (li L 7) (ll L 13) k0
def d6D:Sh:={tmps:=[(0,.g (.b::[.b,.i .i64,.sl 37,.i .i64,.i .i64])),(1,.g ([.i .i64,.i .i64,.i .i64,.sl 40,.sl 5]))],mem:=[]}
def f2g (L:List Lf):List (Bool×Res):=bnd (f2f N L (fun p=>some p)) fun q=>[(q.isSome,([.c (.sl 28 (q.getD default).1 (q.getD default).2)],[]))]
theorem e6T (L:List Lf):bd Tryz.prog (e1d N) (d6B N).h 56 d6D L=f2f N L (fun p=>some ([.c (.sl 28 p.1 p.2)],[])):=by kernel_rfl
theorem f2h:a0G Tryz.prog 56 d6D (f2g N):=
 (d6B N).fn a0b (b9y N) fun L x hx=>((e6T N L).trans ((e1f N ..).trans (a0N x hx)))
def d6E:a0e:=ext 56 (a1E d6D (f2g N)) (e1d N)
theorem b2I:a0c Tryz.prog (d6E N):=a0G.to (f2h N) (b9y N)
def f2i:List (Nat×List Nat):=[(0,[0]),(1,[1]),(2,[1,3]),(3,[1,4,3]),(4,[13,12,11,4,3]),(5,[11,13,4,3,12]),(6,[4,6,3,13,12,11]),(7,[4,6,3,7,13,12,11]),(8,[6,3,8,7,13,12,11,4]),(9,[3,8,7,6,13,12,11,4]),(10,[13,12,11,4,3]),(11,[3])]
def f2j:a0E:=[(12,[3,4,11,12,13],[3,10000000002],[3]),(29,[3,4,6,7,8,11,12,13,29],[3,6,8,10000000002],[])]
def d6F (N:Nat):Sg Tryz.prog 0 30:= .start f2j f2i
def a9f (w0:Int) (w5:Bool) (w7:LD) (w8:Int) (w14:LD) (w16:Bool) (w17:Int) (w19:LD) (w21:Int) (k0:LD→Option R) (k1:Unit→Option R):Option R:=
 bif w5 then
  bnd (d0s N w16 w19 w21 w8 w14) fun y0=>
  bif y0.isSome then
   bif (decide ((w7.length+1)*40≤a0L)&&decide ((w7.length+1)≤a0d)) then
    bnd ((w7++[(.a [(.i w17),(.i w0),(.l (y0.getD default).1 (y0.getD default).2)])]):List D) fun y1=>
    k0 y1
   else
    none
  else
   none
 else
  k1 ()
def b2J (w0:Int) (w5:Bool) (w7:LD) (w8:Int) (w14:LD) (w16:Bool) (w17:Int) (w19:LD) (w21:Int):Option (Sum (LD) (Unit)):=a9f N w0 w5 w7 w8 w14 w16 w17 w19 w21 (fun p=>some (.inl p)) (fun p=>some (.inr p))
theorem c5h (w0:Int) (w5:Bool) (w7:LD) (w8:Int) (w14:LD) (w16:Bool) (w17:Int) (w19:LD) (w21:Int) (k0:LD→Option R) (k1:Unit→Option R):a9f N w0 w5 w7 w8 w14 w16 w17 w19 w21 k0 k1=(b2J N w0 w5 w7 w8 w14 w16 w17 w19 w21).bind (a1a k0 k1):=by
 unfold b2J a9f
 repeat' (first|with_reducible apply a0f|(with_reducible apply a0m;intro _)|rfl)
def c7s (L:List Lf) (k0:LD→Option R) (k1:Unit→Option R):Option R:=a9f N (li L 0) (lb L 5) (ll L 7) (li L 8) (ll L 14) (lb L 16) (li L 17) (ll L 19) (li L 21) k0 k1
def b4V:Sh:={tmps:=[(3,.c (.o 3)),(4,.c (.p 10000000002 0)),(6,.c (.p 6 0)),(7,.c (.i .i64)),(8,.c (.p 8 0)),(11,.c (.sl 44)),(12,.c (.i .i64)),(13,.c (.i .i64)),(29,.c (.b))],mem:=[(3,.row 84 true),(6,.box ([.i .i64,.i .i64,.i .i64,.sl 40,.sl 5])),(8,.box (.b::[.b,.i .i64,.sl 37,.i .i64,.i .i64])),(10000000002,.dat 132)]}
def b67 (L:List Lf) (p:LD):Ex×St:=(.normal,mg (a0v b4V L) [3,4,11,12,13] [(3,.c (.o 40))] [40,10000000002] [(40,.row 84 true false p)])
def b68 (L:List Lf) (_:Unit):Ex×St:=(.normal,mg (a0v b4V L) [3,4,11,12,13] [] [3,10000000002] [])
def e1g (L:List Lf):List (Bool×(Ex×St)):=bnd (c7s N L (fun p=>some (.inl p)) (fun p=>some (.inr p))) fun q=>[((a0O q),b67 L (a01 q)),((a0l q).isSome,b68 L ())]
theorem d0t (L:List Lf):pc Tryz.prog (d6E N) (d6F N).h 0 100 30 29 b4V L [3,4,11,12,13] [3,40,10000000002]=c7s N L (fun p=>some (b67 L p)) (fun _=>some (b68 L ())):=by kernel_rfl
def d6G:Sg Tryz.prog 0 30:=
 (d6F N).cut (e1g N) a0b (b2I N) fun L x hx=>(d0t N L).trans ((c5h N ..).trans ((a27 a0N) x hx))
def b2K (w1:LD) (w2:Int) (w3:Int) (w4:Bool) (w5:LD) (w6:D) (kr:Int→Bool→LD→D→Option R) (k0:Bool×LD→Option R):Option R:=
 bif (decide (w3<w2)) then
  bif (inB w3 w1.length) then
   bnd (c4F N ((w1.getD w3.toNat (.i 0)).cell 0).toI ((w1.getD w3.toNat (.i 0)).cell 1).toI ((w1.getD w3.toNat (.i 0)).cell 2).toI ((w1.getD w3.toNat (.i 0)).cell 3).items ((w1.getD w3.toNat (.i 0)).cell 4).items w6) fun y0=>
   bif y0.isSome then
    bif (inB ((w1.getD w3.toNat (.i 0)).cell 1).toI 16) then
     bnd ((y0.getD default).2.cell (0+(((w1.getD w3.toNat (.i 0)).cell 1).toI.toNat*6))).toB fun y1=>
     bnd ((y0.getD default).2.cell (1+(((w1.getD w3.toNat (.i 0)).cell 1).toI.toNat*6))).toB fun y2=>
     bnd ((y0.getD default).2.cell (2+(((w1.getD w3.toNat (.i 0)).cell 1).toI.toNat*6))).toI fun y3=>
     bnd ((y0.getD default).2.cell (3+(((w1.getD w3.toNat (.i 0)).cell 1).toI.toNat*6))).isNil fun y4=>
     bnd (((y0.getD default).2.cell (3+(((w1.getD w3.toNat (.i 0)).cell 1).toI.toNat*6))).items:List D) fun y5=>
     bnd ((y0.getD default).2.cell (4+(((w1.getD w3.toNat (.i 0)).cell 1).toI.toNat*6))).toI fun y6=>
     bnd ((y0.getD default).2.cell (5+(((w1.getD w3.toNat (.i 0)).cell 1).toI.toNat*6))).toI fun y7=>
     bnd (b2J N (y0.getD default).1 (((w1.getD w3.toNat (.i 0)).cell 0).toI !=1) w5 ((w1.getD w3.toNat (.i 0)).cell 0).toI ((w1.getD w3.toNat (.i 0)).cell 4).items y2 y3 y5 y7) fun y8=>
     bif (a0O y8) then
      kr (IntKind.wrap .i64 (w3+1)) false (a01 y8) (y0.getD default).2
     else
      bif (a0l y8).isSome then
       kr (IntKind.wrap .i64 (w3+1)) w4 w5 (y0.getD default).2
      else
       none
    else
     none
   else
    none
  else
   none
 else
  k0 (w4,w5)
def a9g (N:Nat) {R:Type} (w1:LD) (w2:Int):Nat→Int→Bool→LD→D→(Bool×LD→Option R)→Option R
 |0,_,_,_,_,_=>none
 |m+1,w3,w4,w5,w6,k0=>b2K N w1 w2 w3 w4 w5 w6 (fun w3 w4 w5 w6=>a9g N w1 w2 m w3 w4 w5 w6 k0) k0
def b9B (w1:LD) (w2:Int) (w3:Int) (w4:Bool) (w5:LD) (w6:D):Option (Bool×LD):=a9g N (R:=(Bool×LD)) w1 w2 N w3 w4 w5 w6 (fun p=>some p)
def a9h (L x:List Lf) (kr:List Lf→Option R) (k0:Bool×LD→Option R):Option R:=b2K N (ll L 1) (li L 2) (li x 0) (lb x 1) (ll x 2) (ld x 3) (fun w3 w4 w5 w6=>kr [.i w3,.b w4,.l w5,.d w6]) k0
theorem c2R (L x:List Lf) (kr:List Lf→Option R) (k0:Bool×LD→Option R):a9h N L x kr k0=(a9h N L x (fun y=>some (.inl y)) (fun p=>some (.inr p))).bind (a1a kr k0):=by
 unfold a9h b2K
 repeat' (first|with_reducible apply a0f|(with_reducible apply a0m;intro _)|rfl)
def b2L (L:List Lf) (m:Nat) (x:List Lf):Option (Bool×LD):=a9g N (R:=(Bool×LD)) (ll L 1) (li L 2) m (li x 0) (lb x 1) (ll x 2) (ld x 3) (fun p=>some p)
def a9i:Sh:={tmps:=[(3,.c (.o 3)),(4,.c (.p 10000000002 0)),(11,.c (.sl 44)),(12,.c (.i .i64)),(13,.c (.i .i64))],mem:=[(3,.row 84 true),(10000000002,.dat 132)]}
def e1h (L:List Lf):List (Bool×(Ex×St)):=bnd (b2L N L N (pk a9i [3,4,5,6] L)) fun q=>[(q.isSome,((.exit 0),⟨[(3,.c (.o 3))],[(3,.row 84 true (q.getD default).1 (q.getD default).2)]⟩))]
theorem c5i (m:Nat) (kn:St→Option (Ex×St)) (L x:List Lf):lpB Tryz.prog (d6E N) (d6G N).h 0 30 12 a9i [3,4,5,6] [2,3] [3] (m+100) kn L x=a9h N L x (fun y=>kn (a0v a9i (mx a9i [3,4,5,6] L y))) (fun p=>some ((.exit 0),⟨[(3,.c (.o 3))],[(3,.row 84 true p.1 p.2)]⟩)):=by kernel_rfl
theorem d6H (L:List Lf) (m:Nat) (x:List Lf):b2L N L (m+1) x=a9h N L x (b2L N L m) some:=by kernel_rfl
def d6I:Sg Tryz.prog 0 30:=
 (d6G N).lp (e1h N) N a0b (b2I N) (fun m kn L x=>(c5i N m kn L x).trans (c2R N L x _ _)) (fun L m x=>(d6H N L m x).trans (c2R N L x (b2L N L m) some)) fun L x hx=>a0N x hx
def d0u (v1:LD) (k0:Bool×LD→Option R):Option R:=
 bnd (b0b N) fun y0=>
 bnd (b9B N v1 (v1.length:Int) 0 true [] y0) fun y1=>
 bif y1.isSome then
  k0 (y1.getD default)
 else
  none
def d0v (v1:LD):Option (Bool×LD):=d0u N v1 (fun p=>some p)
theorem e1i (v1:LD) (k0:Bool×LD→Option R):d0u N v1 k0=(d0v N v1).bind k0:=by
 unfold d0v d0u
 repeat' (first|with_reducible apply a0f|(with_reducible apply a0m;intro _)|rfl)
def d6J:Sh:={tmps:=[(0,.g ([.sl 44]))],mem:=[]}
def f2k (L:List Lf):List (Bool×Res):=bnd (d0u N (ll L 1) (fun p=>some p)) fun q=>[(q.isSome,([.c (.sl 84 (q.getD default).1 (q.getD default).2)],[]))]
theorem e6U (L:List Lf):bd Tryz.prog (d6E N) (d6I N).h 30 d6J L=d0u N (ll L 1) (fun p=>some ([.c (.sl 84 p.1 p.2)],[])):=by kernel_rfl
theorem f2l:a0G Tryz.prog 30 d6J (f2k N):=
 (d6I N).fn a0b (b2I N) fun L x hx=>((e6U N L).trans ((e1i N ..).trans (a0N x hx)))
def e1j:a0e:=ext 30 (a1E d6J (f2k N)) (d6E N)
theorem b9C:a0c Tryz.prog (e1j N):=a0G.to (f2l N) (b2I N)
def f2m:List (Nat×List Nat):=[(0,[0,1]),(1,[2,1]),(2,[10,9,8,1]),(3,[8,10,1,9]),(4,[6,1,10,9,8]),(5,[6]),(6,[10,9,8,1]),(7,[])]
def f2n:a0E:=[(6,[1,8,9,10],[],[])]
def d6K (N:Nat):Sg Tryz.prog 0 31:= .start f2n f2m
def b0p (N:Nat) (w0:Int) (w2:LD) (w3:Int) (w4:Int) (kr:Int→Option R) (k0:LB→Option R) (k1:Unit→Option R):Option R:=
 bif (decide (w4<w3)) then
  bif (inB w4 w2.length) then
   bnd (bif (((w2.getD w4.toNat (.i 0)).cell 0).toI==w0) then (((w2.getD w4.toNat (.i 0)).cell 1).toI==2) else false) fun y0=>
   bif y0 then
    k0 ((w2.getD w4.toNat (.i 0)).cell 3).toS
   else
    kr (IntKind.wrap .i64 (w4+1))
  else
   none
 else
  k1 ()
def b9D (N:Nat) {R:Type} (w0:Int) (w2:LD) (w3:Int):Nat→Int→(LB→Option R)→(Unit→Option R)→Option R
 |0,_,_,_=>none
 |m+1,w4,k0,k1=>b0p N w0 w2 w3 w4 (fun w4=>b9D N w0 w2 w3 m w4 k0 k1) k0 k1
def c5j (w0:Int) (w2:LD) (w3:Int) (w4:Int):Option (Sum (LB) (Unit)):=b9D N (R:=(Sum (LB) (Unit))) w0 w2 w3 N w4 (fun p=>some (.inl p)) (fun p=>some (.inr p))
def b4W (L x:List Lf) (kr:List Lf→Option R) (k0:LB→Option R) (k1:Unit→Option R):Option R:=b0p N (li L 0) (ll L 2) (li L 3) (li x 0) (fun w4=>kr [.i w4]) k0 k1
theorem c7t (L x:List Lf) (kr:List Lf→Option R) (k0:LB→Option R) (k1:Unit→Option R):b4W N L x kr k0 k1=(b4W N L x (fun y=>some (.inl y)) (fun p=>some (.inr (.inl p))) (fun p=>some (.inr (.inr p)))).bind (a1a kr (a1a k0 k1)):=by
 unfold b4W b0p
 repeat' (first|with_reducible apply a0f|(with_reducible apply a0m;intro _)|rfl)
def b9E (L:List Lf) (m:Nat) (x:List Lf):Option (Sum (LB) (Unit)):=b9D N (R:=(Sum (LB) (Unit))) (li L 0) (ll L 2) (li L 3) m (li x 0) (fun p=>some (.inl p)) (fun p=>some (.inr p))
def b2M:Sh:={tmps:=[(1,.c (.i .i64)),(8,.c (.sl 28)),(9,.c (.i .i64)),(10,.c (.i .i64))],mem:=[]}
def e6V (L:List Lf):List (Bool×(Ex×St)):=bnd (b9E N L N (pk b2M [4] L)) fun q=>[((a0O q),(.ret,⟨[(4,.c (.s (a01 q)))],[]⟩)),((a0l q).isSome,((.exit 0),⟨[],[]⟩))]
theorem d0w (m:Nat) (kn:St→Option (Ex×St)) (L x:List Lf):lpB Tryz.prog (e1j N) (d6K N).h 0 31 6 b2M [4] [4] [] (m+100) kn L x=b4W N L x (fun y=>kn (a0v b2M (mx b2M [4] L y))) (fun p=>some (.ret,⟨[(4,.c (.s p))],[]⟩)) (fun _=>some ((.exit 0),⟨[],[]⟩)):=by kernel_rfl
theorem e1k (L:List Lf) (m:Nat) (x:List Lf):b9E N L (m+1) x=b4W N L x (b9E N L m) (fun p=>some (.inl p)) (fun p=>some (.inr p)):=by kernel_rfl
def d6L:Sg Tryz.prog 0 31:=
 (d6K N).lp (e6V N) N a0b (b9C N) (fun m kn L x=>(d0w N m kn L x).trans (c7t N L x _ _ _)) (fun L m x=>(e1k N L m x).trans (c7t N L x (b9E N L m) (fun p=>some (.inl p)) (fun p=>some (.inr p)))) fun L x hx=>(a27 a0N) x hx
def d0x (v3:LD) (v4:Int) (k0:LB→Option R):Option R:=
 bnd (c5j N v4 v3 (v3.length:Int) 0) fun y0=>
 bif (a0O y0) then
  k0 (a01 y0)
 else
  bif (a0l y0).isSome then
   k0 ([]:List UInt8)
  else
   none
def c5k (v3:LD) (v4:Int):Option (LB):=d0x N v3 v4 (fun p=>some p)
theorem e1l (v3:LD) (v4:Int) (k0:LB→Option R):d0x N v3 v4 k0=(c5k N v3 v4).bind k0:=by
 unfold c5k d0x
 repeat' (first|with_reducible apply a0f|(with_reducible apply a0m;intro _)|rfl)
def d6M:Sh:={tmps:=[(0,.g ([.i .i64,.i .i64,.sl 28])),(1,.c (.i .i64))],mem:=[]}
def f2o (L:List Lf):List (Bool×Res):=bnd (d0x N (ll L 3) (li L 4) (fun p=>some p)) fun q=>[(q.isSome,([.c (.s (q.getD default))],[]))]
theorem e6W (L:List Lf):bd Tryz.prog (e1j N) (d6L N).h 31 d6M L=d0x N (ll L 3) (li L 4) (fun p=>some ([.c (.s p)],[])):=by kernel_rfl
theorem f2p:a0G Tryz.prog 31 d6M (f2o N):=
 (d6L N).fn a0b (b9C N) fun L x hx=>((e6W N L).trans ((e1l N ..).trans (a0N x hx)))
def e1m:a0e:=ext 31 (a1E d6M (f2o N)) (e1j N)
theorem b9F:a0c Tryz.prog (e1m N):=a0G.to (f2p N) (b9C N)
def f2q:List (Nat×List Nat):=[(0,[0,1,2]),(1,[3,1,2]),(2,[13,12,11,1,2]),(3,[11,13,1,2,12]),(4,[9,1,2,13,12,11]),(5,[9]),(6,[13,12,11,1,2]),(7,[])]
def f2r:a0E:=[(6,[1,2,11,12,13],[],[])]
def d6N (N:Nat):Sg Tryz.prog 0 32:= .start f2r f2q
def b0q (N:Nat) (w0 w1:Int) (w3:LD) (w4:Int) (w5:Int) (kr:Int→Option R) (k0:Int→Option R) (k1:Unit→Option R):Option R:=
 bif (decide (w5<w4)) then
  bif (inB w5 w3.length) then
   bnd (bif (((w3.getD w5.toNat (.i 0)).cell 0).toI==w0) then (((w3.getD w5.toNat (.i 0)).cell 1).toI==w1) else false) fun y0=>
   bnd (bif y0 then (!((w3.getD w5.toNat (.i 0)).cell 4).toB) else false) fun y1=>
   bif y1 then
    k0 ((w3.getD w5.toNat (.i 0)).cell 2).toI
   else
    kr (IntKind.wrap .i64 (w5+1))
  else
   none
 else
  k1 ()
def b9G (N:Nat) {R:Type} (w0 w1:Int) (w3:LD) (w4:Int):Nat→Int→(Int→Option R)→(Unit→Option R)→Option R
 |0,_,_,_=>none
 |m+1,w5,k0,k1=>b0q N w0 w1 w3 w4 w5 (fun w5=>b9G N w0 w1 w3 w4 m w5 k0 k1) k0 k1
def c5l (w0 w1:Int) (w3:LD) (w4:Int) (w5:Int):Option (Sum (Int) (Unit)):=b9G N (R:=(Sum (Int) (Unit))) w0 w1 w3 w4 N w5 (fun p=>some (.inl p)) (fun p=>some (.inr p))
def b4X (L x:List Lf) (kr:List Lf→Option R) (k0:Int→Option R) (k1:Unit→Option R):Option R:=b0q N (li L 0) (li L 1) (ll L 3) (li L 4) (li x 0) (fun w5=>kr [.i w5]) k0 k1
theorem c7u (L x:List Lf) (kr:List Lf→Option R) (k0:Int→Option R) (k1:Unit→Option R):b4X N L x kr k0 k1=(b4X N L x (fun y=>some (.inl y)) (fun p=>some (.inr (.inl p))) (fun p=>some (.inr (.inr p)))).bind (a1a kr (a1a k0 k1)):=by
 unfold b4X b0q
 repeat' (first|with_reducible apply a0f|(with_reducible apply a0m;intro _)|rfl)
def b9H (L:List Lf) (m:Nat) (x:List Lf):Option (Sum (Int) (Unit)):=b9G N (R:=(Sum (Int) (Unit))) (li L 0) (li L 1) (ll L 3) (li L 4) m (li x 0) (fun p=>some (.inl p)) (fun p=>some (.inr p))
def b2N:Sh:={tmps:=[(1,.c (.i .i64)),(2,.c (.i .i64)),(11,.c (.sl 28)),(12,.c (.i .i64)),(13,.c (.i .i64))],mem:=[]}
def e6X (L:List Lf):List (Bool×(Ex×St)):=bnd (b9H N L N (pk b2N [5] L)) fun q=>[((a0O q),(.ret,⟨[(6,.c (.i .i64 (a01 q))),(7,.c (.b true))],[]⟩)),((a0l q).isSome,((.exit 0),⟨[],[]⟩))]
theorem d0y (m:Nat) (kn:St→Option (Ex×St)) (L x:List Lf):lpB Tryz.prog (e1m N) (d6N N).h 0 32 6 b2N [5] [6,7] [] (m+100) kn L x=b4X N L x (fun y=>kn (a0v b2N (mx b2N [5] L y))) (fun p=>some (.ret,⟨[(6,.c (.i .i64 p)),(7,.c (.b true))],[]⟩)) (fun _=>some ((.exit 0),⟨[],[]⟩)):=by kernel_rfl
theorem e1n (L:List Lf) (m:Nat) (x:List Lf):b9H N L (m+1) x=b4X N L x (b9H N L m) (fun p=>some (.inl p)) (fun p=>some (.inr p)):=by kernel_rfl
def d6O:Sg Tryz.prog 0 32:=
 (d6N N).lp (e6X N) N a0b (b9F N) (fun m kn L x=>(d0y N m kn L x).trans (c7u N L x _ _ _)) (fun L m x=>(e1n N L m x).trans (c7u N L x (b9H N L m) (fun p=>some (.inl p)) (fun p=>some (.inr p)))) fun L x hx=>(a27 a0N) x hx
def d0z (v3:LD) (v4 v5:Int) (k0:Int×Bool→Option R):Option R:=
 bnd (c5l N v4 v5 v3 (v3.length:Int) 0) fun y0=>
 bif (a0O y0) then
  k0 ((a01 y0),true)
 else
  bif (a0l y0).isSome then
   k0 (0,false)
  else
   none
def b1G (v3:LD) (v4 v5:Int):Option (Int×Bool):=d0z N v3 v4 v5 (fun p=>some p)
theorem e1o (v3:LD) (v4 v5:Int) (k0:Int×Bool→Option R):d0z N v3 v4 v5 k0=(b1G N v3 v4 v5).bind k0:=by
 unfold b1G d0z
 repeat' (first|with_reducible apply a0f|(with_reducible apply a0m;intro _)|rfl)
def d6P:Sh:={tmps:=[(0,.g ([.i .i64,.i .i64,.sl 28])),(1,.c (.i .i64)),(2,.c (.i .i64))],mem:=[]}
def f2s (L:List Lf):List (Bool×Res):=bnd (d0z N (ll L 3) (li L 4) (li L 5) (fun p=>some p)) fun q=>[(q.isSome,([.c (.i .i64 (q.getD default).1),.c (.b (q.getD default).2)],[]))]
theorem e6Y (L:List Lf):bd Tryz.prog (e1m N) (d6O N).h 32 d6P L=d0z N (ll L 3) (li L 4) (li L 5) (fun p=>some ([.c (.i .i64 p.1),.c (.b p.2)],[])):=by kernel_rfl
theorem f2t:a0G Tryz.prog 32 d6P (f2s N):=
 (d6O N).fn a0b (b9F N) fun L x hx=>((e6Y N L).trans ((e1o N ..).trans (a0N x hx)))
def d0A:a0e:=ext 32 (a1E d6P (f2s N)) (e1m N)
theorem a9j:a0c Tryz.prog (d0A N):=a0G.to (f2t N) (b9F N)
def f2u:List (Nat×List Nat):=[(0,[1,0]),(1,[3,0]),(2,[19,3,0]),(21,[19,3,0]),(25,[19,3,0]),(26,[3,0]),(27,[0,17]),(28,[17]),(22,[3,0]),(23,[0,3,15,16]),(24,[16,3]),(3,[3,0]),(4,[3,5,0]),(5,[5,3,6,0]),(6,[38,37,36,3,6,5,0]),(7,[38,36,3,6,37,5,0]),(8,[3,7,8,6,38,37,36,5,0]),(9,[8,9,6,10,38,37,36,3,5,0]),(10,[38,37,36,3,6,5,0]),(11,[5,3,0,6]),(12,[62,61,60,3,0,5,6]),(13,[62,60,3,61,0,5,6]),(14,[3,11,12,62,61,60,0,5,6]),(15,[14,12,13,62,61,60,3,0,5,6]),(17,[12,62,61,60,3,0,5,6]),(16,[12,13,62,61,60,3,0,5,6]),(18,[62,61,60,3,0,5,6]),(19,[0,5,6]),(20,[6]),(29,[])]
def f2v:a0E:=[(51050,[0,3,5,6,12,13,60,61,62,74],[0,1,2,3,7,9,64],[])]
def d6Q (N:Nat):Sg Tryz.prog 4 33:= .start f2v f2u
def a2U (N:Nat) (w1:Int) (w4:Bool) (k0:Int→R):R:=
 bif w4 then
  k0 w1
 else
  k0 (-1)
def a47 (w1:Int) (w4:Bool):Int:=a2U N w1 w4 (fun p=>p)
theorem b9I (w1:Int) (w4:Bool) (k0:Int→R):a2U N w1 w4 k0=k0 (a47 N w1 w4):=by
 unfold a47 a2U
 repeat' (first|rfl|apply a0W|(apply a1D;intro _))
def b1n:Sh:={tmps:=[(0,.c (.p 0 0)),(3,.c (.p 7 0)),(5,.c (.p 9 0)),(6,.c (.b)),(12,.c (.p 9 4)),(13,.c (.i .i64)),(60,.c (.bs 64 3)),(61,.c (.i .i64)),(62,.c (.i .i64)),(74,.c (.b))],mem:=[(0,.box (.s::[.i .i64,.i .i64,.o 1,.o 2,.o 3])),(1,.row 70 true),(2,.row 65 true),(3,.row 9 true),(7,.box ([.i .i64,.i .i64,.sl 28])),(9,.box (rI 7 ([]))),(64,.box ([.p 9 4,.p 9 5,.p 9 6]))]}
def a9k (L:List Lf) (p:Int):Ex×St:=(.normal,mg (a0v b1n L) [0,3,5,6,60,61,62] [] [0,1,2,3,7,9,64] [(9,.box (rL L 18 4 ([.i .i64 p,.i .i64 (li L 23),.i .i64 (li L 24)])))])
def c5m (L:List Lf):List (Bool×(Ex×St)):=bnd (a2U N (li L 1) (lb L 4) (fun p=>p)) fun q=>[(true,a9k L q)]
theorem b9J (L:List Lf):pc Tryz.prog (d0A N) (d6Q N).h 4 100 33 51050 b1n L [0,3,5,6,60,61,62] [0,1,2,3,7,9,64]=a2U N (li L 1) (lb L 4) (fun p=>some (a9k L p)):=by kernel_rfl
def c5n:Sg Tryz.prog 4 33:=
 (d6Q N).cut (c5m N) a0b (a9j N) fun L x hx=>(b9J N L).trans ((b9I N ..).trans (a5j _ _ hx))
def a2h (N:Nat) (w1:Int) (w4:Bool) (k0:Int→R):R:=
 bif w4 then
  k0 w1
 else
  k0 (-1)
def a32 (w1:Int) (w4:Bool):Int:=a2h N w1 w4 (fun p=>p)
theorem b52 (w1:Int) (w4:Bool) (k0:Int→R):a2h N w1 w4 k0=k0 (a32 N w1 w4):=by
 unfold a32 a2h
 repeat' (first|rfl|apply a0W|(apply a1D;intro _))
def a9l:Sh:={tmps:=[(0,.c (.p 0 0)),(3,.c (.p 7 0)),(5,.c (.p 9 0)),(6,.c (.b)),(12,.c (.p 9 5)),(13,.c (.i .i64)),(60,.c (.bs 64 3)),(61,.c (.i .i64)),(62,.c (.i .i64)),(74,.c (.b))],mem:=[(0,.box (.s::[.i .i64,.i .i64,.o 1,.o 2,.o 3])),(1,.row 70 true),(2,.row 65 true),(3,.row 9 true),(7,.box ([.i .i64,.i .i64,.sl 28])),(9,.box (rI 7 ([]))),(64,.box ([.p 9 4,.p 9 5,.p 9 6]))]}
def a62 (L:List Lf) (p:Int):Ex×St:=(.normal,mg (a0v a9l L) [0,3,5,6,60,61,62] [] [0,1,2,3,7,9,64] [(9,.box (rL L 18 5 ([.i .i64 p,.i .i64 (li L 24)])))])
def c2S (L:List Lf):List (Bool×(Ex×St)):=bnd (a2h N (li L 1) (lb L 4) (fun p=>p)) fun q=>[(true,a62 L q)]
theorem b53 (L:List Lf):pc Tryz.prog (d0A N) ((c5n N).no 51050).h 4 100 33 51050 a9l L [0,3,5,6,60,61,62] [0,1,2,3,7,9,64]=a2h N (li L 1) (lb L 4) (fun p=>some (a62 L p)):=by kernel_rfl
def c5o:Sg Tryz.prog 4 33:=
 (c5n N).add (((c5n N).no 51050).cut (c2S N) a0b (a9j N) fun L x hx=>(b53 N L).trans ((b52 N ..).trans (a5j _ _ hx))) 51050
def a1X (N:Nat) (w1:Int) (w4:Bool) (k0:Int→R):R:=
 bif w4 then
  k0 w1
 else
  k0 (-1)
def a3n (w1:Int) (w4:Bool):Int:=a1X N w1 w4 (fun p=>p)
theorem b4Y (w1:Int) (w4:Bool) (k0:Int→R):a1X N w1 w4 k0=k0 (a3n N w1 w4):=by
 unfold a3n a1X
 repeat' (first|rfl|apply a0W|(apply a1D;intro _))
def a63:Sh:={tmps:=[(0,.c (.p 0 0)),(3,.c (.p 7 0)),(5,.c (.p 9 0)),(6,.c (.b)),(12,.c (.p 9 6)),(13,.c (.i .i64)),(60,.c (.bs 64 3)),(61,.c (.i .i64)),(62,.c (.i .i64)),(74,.c (.b))],mem:=[(0,.box (.s::[.i .i64,.i .i64,.o 1,.o 2,.o 3])),(1,.row 70 true),(2,.row 65 true),(3,.row 9 true),(7,.box ([.i .i64,.i .i64,.sl 28])),(9,.box (rI 7 ([]))),(64,.box ([.p 9 4,.p 9 5,.p 9 6]))]}
def a5W (L:List Lf) (p:Int):Ex×St:=(.normal,mg (a0v a63 L) [0,3,5,6,60,61,62] [] [0,1,2,3,7,9,64] [(9,.box (rL L 18 6 ([.i .i64 p])))])
def b9K (L:List Lf):List (Bool×(Ex×St)):=bnd (a1X N (li L 1) (lb L 4) (fun p=>p)) fun q=>[(true,a5W L q)]
theorem b4Z (L:List Lf):pc Tryz.prog (d0A N) ((c5o N).no 51050).h 4 100 33 51050 a63 L [0,3,5,6,60,61,62] [0,1,2,3,7,9,64]=a1X N (li L 1) (lb L 4) (fun p=>some (a5W L p)):=by kernel_rfl
def d6R:Sg Tryz.prog 4 33:=
 (c5o N).add (((c5o N).no 51050).cut (b9K N) a0b (a9j N) fun L x hx=>(b4Z N L).trans ((b4Y N ..).trans (a5j _ _ hx))) 51050
def d6S (v0 v1:Int) (v3:LD) (v6:Int) (v8 v10 v12:LD) (k0:Bool×LD→Option R) (k1:Bool×LD→Option R) (k2:Bool×LD→Option R) (k3:Unit→Option R):Option R:=
 bif (v0 ==20) then
  bnd (b1G N v3 0 1) fun y0=>
  bif y0.isSome then
   bnd (bif (decide (v1≥0)) then (y0.getD default).2 else false) fun y1=>
   bnd (b1G N v3 1 1) fun y2=>
   bif y2.isSome then
    bnd (b1G N v3 2 1) fun y3=>
    bif y3.isSome then
     bnd (bif (bif y1 then (y2.getD default).2 else false) then (y3.getD default).2 else false) fun y4=>
     bnd (b1G N v3 3 0) fun y5=>
     bif y5.isSome then
      bnd (a47 N (y5.getD default).1 (y5.getD default).2) fun y6=>
      bnd (b1G N v3 4 0) fun y7=>
      bif y7.isSome then
       bnd (a32 N (y7.getD default).1 (y7.getD default).2) fun y8=>
       bnd (b1G N v3 5 0) fun y9=>
       bif y9.isSome then
        bnd (a3n N (y9.getD default).1 (y9.getD default).2) fun y10=>
        bif (decide ((v8.length+1)*56≤a0L)&&decide ((v8.length+1)≤a0d)) then
         bnd ((v8++[(.a [(.i (IntKind.wrap .i64 (v1-v6))),(.i (y0.getD default).1),(.i (y2.getD default).1),(.i (y3.getD default).1),(.i y6),(.i y8),(.i y10)])]):List D) fun y11=>
         k0 (y4,y11)
        else
         none
       else
        none
      else
       none
     else
      none
    else
     none
   else
    none
  else
   none
 else
  bif (v0==19) then
   bnd (b1G N v3 1 0) fun y12=>
   bif y12.isSome then
    bnd (c5k N v3 2) fun y13=>
    bif y13.isSome then
     bif (decide ((v10.length+1)*32≤a0L)&&decide ((v10.length+1)≤a0d)) then
      bnd ((v10++[(.a [(.i (IntKind.wrap .i64 (v1-v6))),(.i (IntKind.wrap .i64 ((y12.getD default).1-v6))),(.s (y13.getD default))])]):List D) fun y14=>
      bnd (bif (y12.getD default).2 then (decide (v1≥0)) else false) fun y15=>
      k1 (y15,y14)
     else
      none
    else
     none
   else
    none
  else
   bif (v0==30) then
    bnd (c5k N v3 1) fun y16=>
    bif y16.isSome then
     bif (decide ((v12.length+1)*16≤a0L)&&decide ((v12.length+1)≤a0d)) then
      k2 ((!((y16.getD default)==([]:List UInt8))),(v12++[(.s (y16.getD default))]))
     else
      none
    else
     none
   else
    k3 ()
def d0B (v0 v1:Int) (v3:LD) (v6:Int) (v8 v10 v12:LD):Option (Sum (Bool×LD) (Sum (Bool×LD) (Sum (Bool×LD) (Unit)))):=d6S N v0 v1 v3 v6 v8 v10 v12 (fun p=>some (.inl p)) (fun p=>some (.inr (.inl p))) (fun p=>some (.inr (.inr (.inl p)))) (fun p=>some (.inr (.inr (.inr p))))
theorem e1p (v0 v1:Int) (v3:LD) (v6:Int) (v8 v10 v12:LD) (k0:Bool×LD→Option R) (k1:Bool×LD→Option R) (k2:Bool×LD→Option R) (k3:Unit→Option R):d6S N v0 v1 v3 v6 v8 v10 v12 k0 k1 k2 k3=(d0B N v0 v1 v3 v6 v8 v10 v12).bind (a1a k0 (a1a k1 (a1a k2 k3))):=by
 unfold d0B d6S
 repeat' (first|with_reducible apply a0f|(with_reducible apply a0m;intro _)|rfl)
def f2w (L:List Lf) (k0:Bool×LD→Option R) (k1:Bool×LD→Option R) (k2:Bool×LD→Option R) (k3:Unit→Option R):Option R:=d6S N (li L 0) (li L 1) (ll L 3) (li L 6) (ll L 8) (ll L 10) (ll L 12) k0 k1 k2 k3
def b1o:Sh:={tmps:=[(0,.c (.p 0 0)),(1,.g ([.i .i64,.i .i64,.sl 28]))],mem:=[(0,.box (.s::[.i .i64,.i .i64,.o 1,.o 2,.o 3])),(1,.row 70 true),(2,.row 65 true),(3,.row 9 true)]}
def d6T (L:List Lf) (p:Bool×LD):Res:=([.c (.b p.1)],mgA (a0v b1o L).mem [(0,.box [.s (ls L 4),.i .i64 (li L 5),.i .i64 (li L 6),.o 92,.o 2,.o 3]),(92,.row 70 true false p.2)] [0,2,3,92])
def d6U (L:List Lf) (p:Bool×LD):Res:=([.c (.b p.1)],mgA (a0v b1o L).mem [(0,.box [.s (ls L 4),.i .i64 (li L 5),.i .i64 (li L 6),.o 1,.o 125,.o 3]),(125,.row 65 true false p.2)] [0,1,3,125])
def d6V (L:List Lf) (p:Bool×LD):Res:=([.c (.b p.1)],mgA (a0v b1o L).mem [(0,.box [.s (ls L 4),.i .i64 (li L 5),.i .i64 (li L 6),.o 1,.o 2,.o 145]),(145,.row 9 true false p.2)] [0,1,2,145])
def f2x (L:List Lf):List (Bool×Res):=bnd (f2w N L (fun p=>some (.inl p)) (fun p=>some (.inr (.inl p))) (fun p=>some (.inr (.inr (.inl p)))) (fun p=>some (.inr (.inr (.inr p))))) fun q=>[((a0O q),d6T L (a01 q)),((a0O (a0l q)),d6U L (a01 (a0l q))),((a0O (a0l (a0l q))),d6V L (a01 (a0l (a0l q)))),((a0l (a0l (a0l q))).isSome,([.c (.b true)],mgA (a0v b1o L).mem [] [0,1,2,3]))]
theorem e6Z (L:List Lf):bd Tryz.prog (d0A N) (d6R N).h 33 b1o L=f2w N L (fun p=>some (d6T L p)) (fun p=>some (d6U L p)) (fun p=>some (d6V L p)) (fun _=>some ([.c (.b true)],mgA (a0v b1o L).mem [] [0,1,2,3])):=by kernel_rfl
theorem f2y:a0G Tryz.prog 33 b1o (f2x N):=
 (d6R N).fn a0b (a9j N) fun L x hx=>((e6Z N L).trans ((e1p N ..).trans ((a27 (a27 (a27 a0N))) x hx)))
def d0C:a0e:=ext 33 (a1E b1o (f2x N)) (d0A N)
theorem a9m:a0c Tryz.prog (d0C N):=a0G.to (f2y N) (a9j N)
def f4O:List (Nat×List Nat):=[(0,[0]),(1,[1,2]),(2,[4,2,1]),(3,[4,2]),(4,[1,2]),(5,[5,2]),(6,[5,6,2]),(7,[5,6,2,7]),(8,[23,22,21,6,2,5,7]),(9,[21,23,6,2,5,22,7]),(10,[9,6,2,5,23,22,21,7]),(11,[9,6,2,5]),(12,[9,6,2,5]),(13,[23,22,21,6,2,5,7]),(14,[7,6,2,5]),(15,[2]),(16,[5,6,2]),(17,[58,57,56,6,2]),(18,[56,58,6,2,57]),(19,[11,6,2,58,57,56]),(20,[2]),(21,[58,57,56,6,2]),(22,[6,2]),(23,[12,2,6]),(24,[12,2]),(25,[6,2])]
def f4P:a0E:=[(24,[2,5,6,7,21,22,23],[2,6,50006003,50006004,50006005],[50006005,50006004,50006003]),(51,[2,6,56,57,58],[2,6,50006003,50006004,50006005],[50006005,50006004,50006003]),(58,[2,6,11,56,57,58],[2,6,11,50006003,50006004,50006005],[])]
def e3C (N:Nat):Sg Tryz.prog 0 8:= .start f4P f4O
def b0r (w2:Bool) (w4:LD) (w5:Int) (w16:LB) (w17 w18:Int) (w6:Int) (kr:Int→Option R) (k0:Ty6→Option R):Option R:=
 bif (decide (w6<w5)) then
  bif (inB w6 w4.length) then
   bif (((w4.getD w6.toNat (.i 0)).cell 0).toI==0) then
    bnd (c5k N ((w4.getD w6.toNat (.i 0)).cell 2).items 1) fun y0=>
    bif y0.isSome then
     bnd (b1G N ((w4.getD w6.toNat (.i 0)).cell 2).items 2 0) fun y1=>
     bif y1.isSome then
      k0 ((y1.getD default).2,(y0.getD default),(y1.getD default).1,((w4.getD w6.toNat (.i 0)).cell 1).toI)
     else
      none
    else
     none
   else
    kr (IntKind.wrap .i64 (w6+1))
  else
   none
 else
  k0 (w2,w16,w17,w18)
def b9L (N:Nat) {R:Type} (w2:Bool) (w4:LD) (w5:Int) (w16:LB) (w17 w18:Int):Nat→Int→(Ty6→Option R)→Option R
 |0,_,_=>none
 |m+1,w6,k0=>b0r N w2 w4 w5 w16 w17 w18 w6 (fun w6=>b9L N w2 w4 w5 w16 w17 w18 m w6 k0) k0
def b9M (w2:Bool) (w4:LD) (w5:Int) (w16:LB) (w17 w18:Int) (w6:Int):Option (Ty6):=b9L N (R:=(Ty6)) w2 w4 w5 w16 w17 w18 N w6 (fun p=>some p)
def b40 (L x:List Lf) (kr:List Lf→Option R) (k0:Ty6→Option R):Option R:=b0r N (lb L 2) (ll L 4) (li L 5) (ls L 16) (li L 17) (li L 18) (li x 0) (fun w6=>kr [.i w6]) k0
theorem c7v (L x:List Lf) (kr:List Lf→Option R) (k0:Ty6→Option R):b40 N L x kr k0=(b40 N L x (fun y=>some (.inl y)) (fun p=>some (.inr p))).bind (a1a kr k0):=by
 unfold b40 b0r
 repeat' (first|with_reducible apply a0f|(with_reducible apply a0m;intro _)|rfl)
def b9N (L:List Lf) (m:Nat) (x:List Lf):Option (Ty6):=b9L N (R:=(Ty6)) (lb L 2) (ll L 4) (li L 5) (ls L 16) (li L 17) (li L 18) m (li x 0) (fun p=>some p)
def a9n:Sh:={tmps:=[(2,.c (.p 2 0)),(5,.c (.sl 84)),(6,.c (.p 6 0)),(7,.c (.b)),(21,.c (.sl 84)),(22,.c (.i .i64)),(23,.c (.i .i64))],mem:=[(2,.box (.s::[.i .i64,.i .i64,.sl 70,.sl 65,.sl 9])),(6,.box (.s::[.i .i64,.i .i64,.o 50006003,.o 50006004,.o 50006005])),(50006003,.row 70 true),(50006004,.row 65 true),(50006005,.row 9 true)]}
def c2T (L:List Lf) (p:Ty6):Ex×St:=((.exit 0),mg (a0v a9n L) [2,5,6,7] [(7,.c (.b p.1))] [2,6,50006003,50006004,50006005] [(6,.box [.s p.2.1,.i .i64 p.2.2.1,.i .i64 p.2.2.2,.o 50006003,.o 50006004,.o 50006005])])
def e60 (L:List Lf):List (Bool×(Ex×St)):=bnd (b9N N L N (pk a9n [6] L)) fun q=>[(q.isSome,c2T L (q.getD default))]
theorem d0D (m:Nat) (kn:St→Option (Ex×St)) (L x:List Lf):lpB Tryz.prog (d0C N) (e3C N).h 0 8 24 a9n [6] [2,3,5,6,7] [2,6,50006003,50006004,50006005] (m+100) kn L x=b40 N L x (fun y=>kn (a0v a9n (mx a9n [6] L y))) (fun p=>some (c2T L p)):=by kernel_rfl
theorem e1q (L:List Lf) (m:Nat) (x:List Lf):b9N N L (m+1) x=b40 N L x (b9N N L m) some:=by kernel_rfl
def e3D:Sg Tryz.prog 0 8:=
 (e3C N).lp (e60 N) N a0b (a9m N) (fun m kn L x=>(d0D N m kn L x).trans (c7v N L x _ _)) (fun L m x=>(e1q N L m x).trans (c7v N L x (b9N N L m) some)) fun L x hx=>a0N x hx
def b41 (w15 w16 w17:Int) (w19 w21 w23 w25:LD) (k0:Bool×LD→Option R) (k1:Bool×LD→Option R) (k2:Bool×LD→Option R) (k3:Unit→Option R):Option R:=
 bnd (d0B N w16 w17 w19 w15 w21 w23 w25) fun y0=>
 bif (a0O y0) then
  k0 ((!(a01 y0).1),(a01 y0).2)
 else
  bif (a0O (a0l y0)) then
   k1 ((!(a01 (a0l y0)).1),(a01 (a0l y0)).2)
  else
   bif (a0O (a0l (a0l y0))) then
    k2 ((!(a01 (a0l (a0l y0))).1),(a01 (a0l (a0l y0))).2)
   else
    bif (a0l (a0l (a0l y0))).isSome then
     k3 ()
    else
     none
def b42 (w15 w16 w17:Int) (w19 w21 w23 w25:LD):Option (Sum (Bool×LD) (Sum (Bool×LD) (Sum (Bool×LD) (Unit)))):=b41 N w15 w16 w17 w19 w21 w23 w25 (fun p=>some (.inl p)) (fun p=>some (.inr (.inl p))) (fun p=>some (.inr (.inr (.inl p)))) (fun p=>some (.inr (.inr (.inr p))))
theorem d0E (w15 w16 w17:Int) (w19 w21 w23 w25:LD) (k0:Bool×LD→Option R) (k1:Bool×LD→Option R) (k2:Bool×LD→Option R) (k3:Unit→Option R):b41 N w15 w16 w17 w19 w21 w23 w25 k0 k1 k2 k3=(b42 N w15 w16 w17 w19 w21 w23 w25).bind (a1a k0 (a1a k1 (a1a k2 k3))):=by
 unfold b42 b41
 repeat' (first|with_reducible apply a0f|(with_reducible apply a0m;intro _)|rfl)
def d6W (L:List Lf) (k0:Bool×LD→Option R) (k1:Bool×LD→Option R) (k2:Bool×LD→Option R) (k3:Unit→Option R):Option R:=b41 N (li L 15) (li L 16) (li L 17) (ll L 19) (ll L 21) (ll L 23) (ll L 25) k0 k1 k2 k3
def a9o:Sh:={tmps:=[(2,.c (.p 2 0)),(6,.c (.p 6 0)),(11,.c (.p 11 0)),(56,.c (.sl 84)),(57,.c (.i .i64)),(58,.c (.i .i64))],mem:=[(2,.box (.s::[.i .i64,.i .i64,.sl 70,.sl 65,.sl 9])),(6,.box (.s::[.i .i64,.i .i64,.o 50006003,.o 50006004,.o 50006005])),(11,.box ([.i .i64,.i .i64,.sl 28])),(50006003,.row 70 true),(50006004,.row 65 true),(50006005,.row 9 true)]}
def c2U (L:List Lf) (p:Bool×LD):Ex×St:=(.normal,mg (a0v a9o L) [2,6,56,57,58,64] [(64,.c (.b p.1))] [2,6,50006004,50006005,64000000092] [(6,.box [.s (ls L 13),.i .i64 (li L 14),.i .i64 (li L 15),.o 64000000092,.o 50006004,.o 50006005]),(64000000092,.row 70 true false p.2)])
def c2V (L:List Lf) (p:Bool×LD):Ex×St:=(.normal,mg (a0v a9o L) [2,6,56,57,58,64] [(64,.c (.b p.1))] [2,6,50006003,50006005,64000000125] [(6,.box [.s (ls L 13),.i .i64 (li L 14),.i .i64 (li L 15),.o 50006003,.o 64000000125,.o 50006005]),(64000000125,.row 65 true false p.2)])
def c2W (L:List Lf) (p:Bool×LD):Ex×St:=(.normal,mg (a0v a9o L) [2,6,56,57,58,64] [(64,.c (.b p.1))] [2,6,50006003,50006004,64000000145] [(6,.box [.s (ls L 13),.i .i64 (li L 14),.i .i64 (li L 15),.o 50006003,.o 50006004,.o 64000000145]),(64000000145,.row 9 true false p.2)])
def c2X (L:List Lf) (_:Unit):Ex×St:=(.normal,mg (a0v a9o L) [2,6,56,57,58,64] [(64,.c (.b false))] [2,6,50006003,50006004,50006005] [])
def e61 (L:List Lf):List (Bool×(Ex×St)):=bnd (d6W N L (fun p=>some (.inl p)) (fun p=>some (.inr (.inl p))) (fun p=>some (.inr (.inr (.inl p)))) (fun p=>some (.inr (.inr (.inr p))))) fun q=>[((a0O q),c2U L (a01 q)),((a0O (a0l q)),c2V L (a01 (a0l q))),((a0O (a0l (a0l q))),c2W L (a01 (a0l (a0l q)))),((a0l (a0l (a0l q))).isSome,c2X L ())]
theorem d6X (L:List Lf):pc Tryz.prog (d0C N) (e3D N).h 0 100 8 58 a9o L [2,6,56,57,58,64] [2,6,50006003,50006004,50006005,64000000092,64000000125,64000000145]=d6W N L (fun p=>some (c2U L p)) (fun p=>some (c2V L p)) (fun p=>some (c2W L p)) (fun _=>some (c2X L ())):=by kernel_rfl
def e3E:Sg Tryz.prog 0 8:=
 (e3D N).cut (e61 N) a0b (a9m N) fun L x hx=>(d6X N L).trans ((d0E N ..).trans ((a27 (a27 (a27 a0N))) x hx))
def b9O (w1:LD) (w2 w15:Int) (w3:Int) (w16:Bool) (w17:LD) (w18:Bool) (w19:LD) (w20:Bool) (w21:LD) (kr:Int→Bool→LD→Bool→LD→Bool→LD→Option R) (k0:Ty4→Option R) (k1:Ty4→Option R) (k2:Ty4→Option R) (k3:Ty3→Option R):Option R:=
 bif (decide (w3<w2)) then
  bif (inB w3 w1.length) then
   bnd (b42 N w15 ((w1.getD w3.toNat (.i 0)).cell 0).toI ((w1.getD w3.toNat (.i 0)).cell 1).toI ((w1.getD w3.toNat (.i 0)).cell 2).items w17 w19 w21) fun y0=>
   bif (a0O y0) then
    bif (a01 y0).1 then
     k0 (([]:List UInt8),w18,w19,w20,w21)
    else
     kr (IntKind.wrap .i64 (w3+1)) false (a01 y0).2 w18 w19 w20 w21
   else
    bif (a0O (a0l y0)) then
     bif (a01 (a0l y0)).1 then
      k1 (([]:List UInt8),w16,w17,w20,w21)
     else
      kr (IntKind.wrap .i64 (w3+1)) w16 w17 false (a01 (a0l y0)).2 w20 w21
    else
     bif (a0O (a0l (a0l y0))) then
      bif (a01 (a0l (a0l y0))).1 then
       k2 (([]:List UInt8),w16,w17,w18,w19)
      else
       kr (IntKind.wrap .i64 (w3+1)) w16 w17 w18 w19 false (a01 (a0l (a0l y0))).2
     else
      bif (a0l (a0l (a0l y0))).isSome then
       kr (IntKind.wrap .i64 (w3+1)) w16 w17 w18 w19 w20 w21
      else
       none
  else
   none
 else
  k3 (w16,w17,w18,w19,w20,w21)
def b43 (N:Nat) {R:Type} (w1:LD) (w2 w15:Int):Nat→Int→Bool→LD→Bool→LD→Bool→LD→(Ty4→Option R)→(Ty4→Option R)→(Ty4→Option R)→(Ty3→Option R)→Option R
 |0,_,_,_,_,_,_,_,_,_,_,_=>none
 |m+1,w3,w16,w17,w18,w19,w20,w21,k0,k1,k2,k3=>b9O N w1 w2 w15 w3 w16 w17 w18 w19 w20 w21 (fun w3 w16 w17 w18 w19 w20 w21=>b43 N w1 w2 w15 m w3 w16 w17 w18 w19 w20 w21 k0 k1 k2 k3) k0 k1 k2 k3
def c5p (w1:LD) (w2 w15:Int) (w3:Int) (w16:Bool) (w17:LD) (w18:Bool) (w19:LD) (w20:Bool) (w21:LD):Option (Sum (Ty4) (Sum (Ty4) (Sum (Ty4) (Ty3)))):=b43 N (R:=(Sum (Ty4) (Sum (Ty4) (Sum (Ty4) (Ty3))))) w1 w2 w15 N w3 w16 w17 w18 w19 w20 w21 (fun p=>some (.inl p)) (fun p=>some (.inr (.inl p))) (fun p=>some (.inr (.inr (.inl p)))) (fun p=>some (.inr (.inr (.inr p))))
def b44 (L x:List Lf) (kr:List Lf→Option R) (k0:Ty4→Option R) (k1:Ty4→Option R) (k2:Ty4→Option R) (k3:Ty3→Option R):Option R:=b9O N (ll L 1) (li L 2) (li L 15) (li x 0) (lb x 1) (ll x 2) (lb x 3) (ll x 4) (lb x 5) (ll x 6) (fun w3 w16 w17 w18 w19 w20 w21=>kr [.i w3,.b w16,.l w17,.b w18,.l w19,.b w20,.l w21]) k0 k1 k2 k3
theorem c7w (L x:List Lf) (kr:List Lf→Option R) (k0:Ty4→Option R) (k1:Ty4→Option R) (k2:Ty4→Option R) (k3:Ty3→Option R):b44 N L x kr k0 k1 k2 k3=(b44 N L x (fun y=>some (.inl y)) (fun p=>some (.inr (.inl p))) (fun p=>some (.inr (.inr (.inl p)))) (fun p=>some (.inr (.inr (.inr (.inl p))))) (fun p=>some (.inr (.inr (.inr (.inr p)))))).bind (a1a kr (a1a k0 (a1a k1 (a1a k2 k3)))):=by
 unfold b44 b9O
 repeat' (first|with_reducible apply a0f|(with_reducible apply a0m;intro _)|rfl)
def b9P (L:List Lf) (m:Nat) (x:List Lf):Option (Sum (Ty4) (Sum (Ty4) (Sum (Ty4) (Ty3)))):=b43 N (R:=(Sum (Ty4) (Sum (Ty4) (Sum (Ty4) (Ty3))))) (ll L 1) (li L 2) (li L 15) m (li x 0) (lb x 1) (ll x 2) (lb x 3) (ll x 4) (lb x 5) (ll x 6) (fun p=>some (.inl p)) (fun p=>some (.inr (.inl p))) (fun p=>some (.inr (.inr (.inl p)))) (fun p=>some (.inr (.inr (.inr p))))
def a9p:Sh:={tmps:=[(2,.c (.p 2 0)),(6,.c (.p 6 0)),(56,.c (.sl 84)),(57,.c (.i .i64)),(58,.c (.i .i64))],mem:=[(2,.box (.s::[.i .i64,.i .i64,.sl 70,.sl 65,.sl 9])),(6,.box (.s::[.i .i64,.i .i64,.o 50006003,.o 50006004,.o 50006005])),(50006003,.row 70 true),(50006004,.row 65 true),(50006005,.row 9 true)]}
def c2Y (L:List Lf) (p:Ty4):Ex×St:=(.ret,⟨[(2,.c (.p 2 0)),(3,.c (.i .i64 2))],[(2,.box [.s p.1,.i .i64 0,.i .i64 0,.sl 70 true [],.sl 65 true [],.sl 9 true []]),(6,.box [.s (ls L 13),.i .i64 (li L 14),.i .i64 (li L 15),.o 64000000092,.o 50006004,.o 50006005]),(50006004,.row 65 true p.2.1 p.2.2.1),(50006005,.row 9 true p.2.2.2.1 p.2.2.2.2)]⟩)
def c2Z (L:List Lf) (p:Ty4):Ex×St:=(.ret,⟨[(2,.c (.p 2 0)),(3,.c (.i .i64 2))],[(2,.box [.s p.1,.i .i64 0,.i .i64 0,.sl 70 true [],.sl 65 true [],.sl 9 true []]),(6,.box [.s (ls L 13),.i .i64 (li L 14),.i .i64 (li L 15),.o 50006003,.o 64000000125,.o 50006005]),(50006003,.row 70 true p.2.1 p.2.2.1),(50006005,.row 9 true p.2.2.2.1 p.2.2.2.2)]⟩)
def c20 (L:List Lf) (p:Ty4):Ex×St:=(.ret,⟨[(2,.c (.p 2 0)),(3,.c (.i .i64 2))],[(2,.box [.s p.1,.i .i64 0,.i .i64 0,.sl 70 true [],.sl 65 true [],.sl 9 true []]),(6,.box [.s (ls L 13),.i .i64 (li L 14),.i .i64 (li L 15),.o 50006003,.o 50006004,.o 64000000145]),(50006003,.row 70 true p.2.1 p.2.2.1),(50006004,.row 65 true p.2.2.2.1 p.2.2.2.2)]⟩)
def c21 (L:List Lf) (p:Ty3):Ex×St:=let p1:=p.2;let p2:=p1.2;let p3:=p2.2;let p4:=p3.2;let p5:=p4.2;((.exit 2),mg (a0v a9p L) [2,6] [] [2,6,50006003,50006004,50006005] [(50006003,.row 70 true p.1 p1.1),(50006004,.row 65 true p2.1 p3.1),(50006005,.row 9 true p4.1 p5)])
def e62 (L:List Lf):List (Bool×(Ex×St)):=bnd (b9P N L N (pk a9p [3,16,17,18,19,20,21] L)) fun q=>[((a0O q),c2Y L (a01 q)),((a0O (a0l q)),c2Z L (a01 (a0l q))),((a0O (a0l (a0l q))),c20 L (a01 (a0l (a0l q)))),((a0l (a0l (a0l q))).isSome,c21 L ((a0l (a0l (a0l q))).getD default))]
theorem d0F (m:Nat) (kn:St→Option (Ex×St)) (L x:List Lf):lpB Tryz.prog (d0C N) (e3E N).h 0 8 51 a9p [3,16,17,18,19,20,21] [2,3,6] [2,6,50006003,50006004,50006005] (m+100) kn L x=b44 N L x (fun y=>kn (a0v a9p (mx a9p [3,16,17,18,19,20,21] L y))) (fun p=>some (c2Y L p)) (fun p=>some (c2Z L p)) (fun p=>some (c20 L p)) (fun p=>some (c21 L p)):=by kernel_rfl
theorem e1r (L:List Lf) (m:Nat) (x:List Lf):b9P N L (m+1) x=b44 N L x (b9P N L m) (fun p=>some (.inl p)) (fun p=>some (.inr (.inl p))) (fun p=>some (.inr (.inr (.inl p)))) (fun p=>some (.inr (.inr (.inr p)))):=by kernel_rfl
def e3F:Sg Tryz.prog 0 8:=
 (e3E N).lp (e62 N) N a0b (a9m N) (fun m kn L x=>(d0F N m kn L x).trans (c7w N L x _ _ _ _ _)) (fun L m x=>(e1r N L m x).trans (c7w N L x (b9P N L m) (fun p=>some (.inl p)) (fun p=>some (.inr (.inl p))) (fun p=>some (.inr (.inr (.inl p)))) (fun p=>some (.inr (.inr (.inr p)))))) fun L x hx=>(a27 (a27 (a27 a0N))) x hx
def e63 (v1 :LD) (k0:Ty0→Option R):Option R:=
 bnd (b1F N v1) fun y0=>
 bif y0.isSome then
  bif ((y0.getD default) !=0) then
   k0 (([]:List UInt8),0,0,true,[],true,[],true,[],(y0.getD default))
  else
   bnd (d0v N v1) fun y1=>
   bif y1.isSome then
    bnd (b9M N false (y1.getD default).2 ((y1.getD default).2.length:Int) ([]:List UInt8) 0 0 0) fun y2=>
    bif y2.isSome then
     bnd (bif (!(y2.getD default).1) then true else ((y2.getD default).2.1==([]:List UInt8))) fun y3=>
     bnd (bif y3 then true else (decide ((y2.getD default).2.2.2<0))) fun y4=>
     bif y4 then
      k0 (([]:List UInt8),0,0,true,[],true,[],true,[],4)
     else
      bnd (c5p N (y1.getD default).2 ((y1.getD default).2.length:Int) (y2.getD default).2.2.2 0 true [] true [] true []) fun y5=>
      bif (a0O y5) then
       k0 ((a01 y5).1,0,0,true,[],true,[],true,[],2)
      else
       bif (a0O (a0l y5)) then
        k0 ((a01 (a0l y5)).1,0,0,true,[],true,[],true,[],2)
       else
        bif (a0O (a0l (a0l y5))) then
         k0 ((a01 (a0l (a0l y5))).1,0,0,true,[],true,[],true,[],2)
        else
         bif (a0l (a0l (a0l y5))).isSome then
          bnd (e0w N (y2.getD default).2.1 (y2.getD default).2.2.1 (y2.getD default).2.2.2 ((a0l (a0l (a0l y5))).getD default).2.1 ((a0l (a0l (a0l y5))).getD default).2.2.2.1 ((a0l (a0l (a0l y5))).getD default).2.2.2.2.2) fun y6=>
          bif y6.isSome then
           bif ((y6.getD default) !=0) then
            k0 (([]:List UInt8),0,0,true,[],true,[],true,[],(y6.getD default))
           else
            k0 ((y2.getD default).2.1,(y2.getD default).2.2.1,(y2.getD default).2.2.2,((a0l (a0l (a0l y5))).getD default).1,((a0l (a0l (a0l y5))).getD default).2.1,((a0l (a0l (a0l y5))).getD default).2.2.1,((a0l (a0l (a0l y5))).getD default).2.2.2.1,((a0l (a0l (a0l y5))).getD default).2.2.2.2.1,((a0l (a0l (a0l y5))).getD default).2.2.2.2.2,0)
          else
           none
         else
          none
    else
     none
   else
    none
 else
  none
def d0G (v1:LD):Option (Ty0):=e63 N v1 (fun p=>some p)
theorem e64 (v1:LD) (k0:Ty0→Option R):e63 N v1 k0=(d0G N v1).bind k0:=by
 unfold d0G e63
 repeat' (first|with_reducible apply a0f|(with_reducible apply a0m;intro _)|rfl)
def e65:Sh:={tmps:=[(0,.g ([.sl 44]))],mem:=[]}
def e3G (L:List Lf) (p:Ty0):Res:=let p1:=p.2;let p2:=p1.2;let p3:=p2.2;let p4:=p3.2;let p5:=p4.2;let p6:=p5.2;let p7:=p6.2;let p8:=p7.2;let p9:=p8.2;([.g [.s p.1,.i .i64 p1.1,.i .i64 p2.1,.sl 70 p3.1 p4.1,.sl 65 p5.1 p6.1,.sl 9 p7.1 p8.1],.c (.i .i64 p9)],[])
def f5B (L:List Lf):List (Bool×Res):=bnd (e63 N (ll L 1) (fun p=>some p)) fun q=>[(q.isSome,e3G L (q.getD default))]
theorem f2z (L:List Lf):bd Tryz.prog (d0C N) (e3F N).h 8 e65 L=e63 N (ll L 1) (fun p=>some (e3G L p)):=by kernel_rfl
theorem f4Q:a0G Tryz.prog 8 e65 (f5B N):=
 (e3F N).fn a0b (a9m N) fun L x hx=>((f2z N L).trans ((e64 N ..).trans (a0N x hx)))
def f3H:a0e:=ext 8 (a1E e65 (f5B N)) (d0C N)
theorem c5q:a0c Tryz.prog (f3H N):=a0G.to (f4Q N) (a9m N)
def f2A:List (Nat×List Nat):=[(0,[0,1]),(1,[0,1]),(2,[]),(3,[0,1]),(4,[13,12,0,1]),(5,[13,0,1,12]),(6,[0,5,1,13,12]),(7,[]),(8,[13,12,0,1]),(9,[])]
def f2B:a0E:=[(12,[0,1,12,13],[],[])]
def d6Y (N:Nat):Sg Tryz.prog 0 34:= .start f2B f2A
def a6A (N:Nat) (w1 w3:LD) (w4:Int) (w5:Int) (kr:Int→Option R) (k0:Unit→Option R) (k1:Unit→Option R):Option R:=
 bif (decide (w5<w4)) then
  bif (inB w5 w1.length) then
   bif (inB w5 w3.length) then
    bnd (!((((w1.getD w5.toNat (.i 0)).cell 0).toI==((w3.getD w5.toNat (.i 0)).cell 0).toI)&&((((w1.getD w5.toNat (.i 0)).cell 1).toI==((w3.getD w5.toNat (.i 0)).cell 1).toI)&&((((w1.getD w5.toNat (.i 0)).cell 2).toI==((w3.getD w5.toNat (.i 0)).cell 2).toI)&&((((w1.getD w5.toNat (.i 0)).cell 3).toI==((w3.getD w5.toNat (.i 0)).cell 3).toI)&&((((w1.getD w5.toNat (.i 0)).cell 4).toI==((w3.getD w5.toNat (.i 0)).cell 4).toI)&&((((w1.getD w5.toNat (.i 0)).cell 5).toI==((w3.getD w5.toNat (.i 0)).cell 5).toI)&&((((w1.getD w5.toNat (.i 0)).cell 6).toI==((w3.getD w5.toNat (.i 0)).cell 6).toI)&&true)))))))) fun y0=>
    bif y0 then
     k0 ()
    else
     kr (IntKind.wrap .i64 (w5+1))
   else
    none
  else
   none
 else
  k1 ()
def b2O (N:Nat) {R:Type} (w1 w3:LD) (w4:Int):Nat→Int→(Unit→Option R)→(Unit→Option R)→Option R
 |0,_,_,_=>none
 |m+1,w5,k0,k1=>a6A N w1 w3 w4 w5 (fun w5=>b2O N w1 w3 w4 m w5 k0 k1) k0 k1
def b9Q (w1 w3:LD) (w4:Int) (w5:Int):Option (Sum (Unit) (Unit)):=b2O N (R:=(Sum (Unit) (Unit))) w1 w3 w4 N w5 (fun p=>some (.inl p)) (fun p=>some (.inr p))
def a9q (L x:List Lf) (kr:List Lf→Option R) (k0:Unit→Option R) (k1:Unit→Option R):Option R:=a6A N (ll L 1) (ll L 3) (li L 4) (li x 0) (fun w5=>kr [.i w5]) k0 k1
theorem c22 (L x:List Lf) (kr:List Lf→Option R) (k0:Unit→Option R) (k1:Unit→Option R):a9q N L x kr k0 k1=(a9q N L x (fun y=>some (.inl y)) (fun p=>some (.inr (.inl p))) (fun p=>some (.inr (.inr p)))).bind (a1a kr (a1a k0 k1)):=by
 unfold a9q a6A
 repeat' (first|with_reducible apply a0f|(with_reducible apply a0m;intro _)|rfl)
def b2P (L:List Lf) (m:Nat) (x:List Lf):Option (Sum (Unit) (Unit)):=b2O N (R:=(Sum (Unit) (Unit))) (ll L 1) (ll L 3) (li L 4) m (li x 0) (fun p=>some (.inl p)) (fun p=>some (.inr p))
def a9r:Sh:={tmps:=[(0,.c (.sl 70)),(1,.c (.sl 70)),(12,.c (.i .i64)),(13,.c (.i .i64))],mem:=[]}
def e1s (L:List Lf):List (Bool×(Ex×St)):=bnd (b2P N L N (pk a9r [5] L)) fun q=>[((a0O q),(.ret,⟨[(4,.c (.b false))],[]⟩)),((a0l q).isSome,((.exit 0),⟨[],[]⟩))]
theorem c5r (m:Nat) (kn:St→Option (Ex×St)) (L x:List Lf):lpB Tryz.prog (f3H N) (d6Y N).h 0 34 12 a9r [5] [4] [] (m+100) kn L x=a9q N L x (fun y=>kn (a0v a9r (mx a9r [5] L y))) (fun _=>some (.ret,⟨[(4,.c (.b false))],[]⟩)) (fun _=>some ((.exit 0),⟨[],[]⟩)):=by kernel_rfl
theorem d6Z (L:List Lf) (m:Nat) (x:List Lf):b2P N L (m+1) x=a9q N L x (b2P N L m) (fun p=>some (.inl p)) (fun p=>some (.inr p)):=by kernel_rfl
def d60:Sg Tryz.prog 0 34:=
 (d6Y N).lp (e1s N) N a0b (c5q N) (fun m kn L x=>(c5r N m kn L x).trans (c22 N L x _ _ _)) (fun L m x=>(d6Z N L m x).trans (c22 N L x (b2P N L m) (fun p=>some (.inl p)) (fun p=>some (.inr p)))) fun L x hx=>(a27 a0N) x hx
def d0H (v1 v3:LD) (k0:Bool→Option R):Option R:=
 bif ((v1.length:Int) !=(v3.length:Int)) then
  k0 false
 else
  bnd (b9Q N v1 v3 (v1.length:Int) 0) fun y0=>
  bif (a0O y0) then
   k0 false
  else
   bif (a0l y0).isSome then
    k0 true
   else
    none
def d61 (v1 v3:LD):Option (Bool):=d0H N v1 v3 (fun p=>some p)
theorem e1t (v1 v3:LD) (k0:Bool→Option R):d0H N v1 v3 k0=(d61 N v1 v3).bind k0:=by
 unfold d61 d0H
 repeat' (first|with_reducible apply a0f|(with_reducible apply a0m;intro _)|rfl)
def d62:Sh:={tmps:=[(0,.c (.sl 70)),(1,.c (.sl 70))],mem:=[]}
def f2C (L:List Lf):List (Bool×Res):=bnd (d0H N (ll L 1) (ll L 3) (fun p=>some p)) fun q=>[(q.isSome,([.c (.b (q.getD default))],[]))]
theorem e66 (L:List Lf):bd Tryz.prog (f3H N) (d60 N).h 34 d62 L=d0H N (ll L 1) (ll L 3) (fun p=>some ([.c (.b p)],[])):=by kernel_rfl
theorem f2D:a0G Tryz.prog 34 d62 (f2C N):=
 (d60 N).fn a0b (c5q N) fun L x hx=>((e66 N L).trans ((e1t N ..).trans (a0N x hx)))
def e1u:a0e:=ext 34 (a1E d62 (f2C N)) (f3H N)
theorem b9R:a0c Tryz.prog (e1u N):=a0G.to (f2D N) (c5q N)
def f2E:List (Nat×List Nat):=[(0,[0,1]),(1,[0,1]),(2,[]),(3,[0,1]),(4,[13,12,0,1]),(5,[13,0,1,12]),(6,[0,5,1,13,12]),(7,[]),(8,[13,12,0,1]),(9,[])]
def f2F:a0E:=[(12,[0,1,12,13],[],[])]
def d63 (N:Nat):Sg Tryz.prog 0 35:= .start f2F f2E
def a6B (N:Nat) (w1 w3:LD) (w4:Int) (w5:Int) (kr:Int→Option R) (k0:Unit→Option R) (k1:Unit→Option R):Option R:=
 bif (decide (w5<w4)) then
  bif (inB w5 w1.length) then
   bif (inB w5 w3.length) then
    bnd (!((((w1.getD w5.toNat (.i 0)).cell 0).toI==((w3.getD w5.toNat (.i 0)).cell 0).toI)&&((((w1.getD w5.toNat (.i 0)).cell 1).toI==((w3.getD w5.toNat (.i 0)).cell 1).toI)&&((((w1.getD w5.toNat (.i 0)).cell 2).toS==((w3.getD w5.toNat (.i 0)).cell 2).toS)&&true)))) fun y0=>
    bif y0 then
     k0 ()
    else
     kr (IntKind.wrap .i64 (w5+1))
   else
    none
  else
   none
 else
  k1 ()
def b2Q (N:Nat) {R:Type} (w1 w3:LD) (w4:Int):Nat→Int→(Unit→Option R)→(Unit→Option R)→Option R
 |0,_,_,_=>none
 |m+1,w5,k0,k1=>a6B N w1 w3 w4 w5 (fun w5=>b2Q N w1 w3 w4 m w5 k0 k1) k0 k1
def b9S (w1 w3:LD) (w4:Int) (w5:Int):Option (Sum (Unit) (Unit)):=b2Q N (R:=(Sum (Unit) (Unit))) w1 w3 w4 N w5 (fun p=>some (.inl p)) (fun p=>some (.inr p))
def a9s (L x:List Lf) (kr:List Lf→Option R) (k0:Unit→Option R) (k1:Unit→Option R):Option R:=a6B N (ll L 1) (ll L 3) (li L 4) (li x 0) (fun w5=>kr [.i w5]) k0 k1
theorem c23 (L x:List Lf) (kr:List Lf→Option R) (k0:Unit→Option R) (k1:Unit→Option R):a9s N L x kr k0 k1=(a9s N L x (fun y=>some (.inl y)) (fun p=>some (.inr (.inl p))) (fun p=>some (.inr (.inr p)))).bind (a1a kr (a1a k0 k1)):=by
 unfold a9s a6B
 repeat' (first|with_reducible apply a0f|(with_reducible apply a0m;intro _)|rfl)
def b2R (L:List Lf) (m:Nat) (x:List Lf):Option (Sum (Unit) (Unit)):=b2Q N (R:=(Sum (Unit) (Unit))) (ll L 1) (ll L 3) (li L 4) m (li x 0) (fun p=>some (.inl p)) (fun p=>some (.inr p))
def a9t:Sh:={tmps:=[(0,.c (.sl 65)),(1,.c (.sl 65)),(12,.c (.i .i64)),(13,.c (.i .i64))],mem:=[]}
def e1v (L:List Lf):List (Bool×(Ex×St)):=bnd (b2R N L N (pk a9t [5] L)) fun q=>[((a0O q),(.ret,⟨[(4,.c (.b false))],[]⟩)),((a0l q).isSome,((.exit 0),⟨[],[]⟩))]
theorem c5s (m:Nat) (kn:St→Option (Ex×St)) (L x:List Lf):lpB Tryz.prog (e1u N) (d63 N).h 0 35 12 a9t [5] [4] [] (m+100) kn L x=a9s N L x (fun y=>kn (a0v a9t (mx a9t [5] L y))) (fun _=>some (.ret,⟨[(4,.c (.b false))],[]⟩)) (fun _=>some ((.exit 0),⟨[],[]⟩)):=by kernel_rfl
theorem d64 (L:List Lf) (m:Nat) (x:List Lf):b2R N L (m+1) x=a9s N L x (b2R N L m) (fun p=>some (.inl p)) (fun p=>some (.inr p)):=by kernel_rfl
def d65:Sg Tryz.prog 0 35:=
 (d63 N).lp (e1v N) N a0b (b9R N) (fun m kn L x=>(c5s N m kn L x).trans (c23 N L x _ _ _)) (fun L m x=>(d64 N L m x).trans (c23 N L x (b2R N L m) (fun p=>some (.inl p)) (fun p=>some (.inr p)))) fun L x hx=>(a27 a0N) x hx
def d0I (v1 v3:LD) (k0:Bool→Option R):Option R:=
 bif ((v1.length:Int) !=(v3.length:Int)) then
  k0 false
 else
  bnd (b9S N v1 v3 (v1.length:Int) 0) fun y0=>
  bif (a0O y0) then
   k0 false
  else
   bif (a0l y0).isSome then
    k0 true
   else
    none
def d66 (v1 v3:LD):Option (Bool):=d0I N v1 v3 (fun p=>some p)
theorem e1w (v1 v3:LD) (k0:Bool→Option R):d0I N v1 v3 k0=(d66 N v1 v3).bind k0:=by
 unfold d66 d0I
 repeat' (first|with_reducible apply a0f|(with_reducible apply a0m;intro _)|rfl)
def d67:Sh:={tmps:=[(0,.c (.sl 65)),(1,.c (.sl 65))],mem:=[]}
def f2G (L:List Lf):List (Bool×Res):=bnd (d0I N (ll L 1) (ll L 3) (fun p=>some p)) fun q=>[(q.isSome,([.c (.b (q.getD default))],[]))]
theorem e67 (L:List Lf):bd Tryz.prog (e1u N) (d65 N).h 35 d67 L=d0I N (ll L 1) (ll L 3) (fun p=>some ([.c (.b p)],[])):=by kernel_rfl
theorem f2H:a0G Tryz.prog 35 d67 (f2G N):=
 (d65 N).fn a0b (b9R N) fun L x hx=>((e67 N L).trans ((e1w N ..).trans (a0N x hx)))
def e1x:a0e:=ext 35 (a1E d67 (f2G N)) (e1u N)
theorem b9T:a0c Tryz.prog (e1x N):=a0G.to (f2H N) (b9R N)
def f2I:List (Nat×List Nat):=[(0,[0,1]),(1,[0,1]),(2,[]),(3,[0,1]),(4,[13,12,0,1]),(5,[13,0,1,12]),(6,[0,5,1,13,12]),(7,[]),(8,[13,12,0,1]),(9,[])]
def f2J:a0E:=[(12,[0,1,12,13],[],[])]
def d68 (N:Nat):Sg Tryz.prog 0 36:= .start f2J f2I
def a6C (N:Nat) (w1 w3:LD) (w4:Int) (w5:Int) (kr:Int→Option R) (k0:Unit→Option R) (k1:Unit→Option R):Option R:=
 bif (decide (w5<w4)) then
  bif (inB w5 w1.length) then
   bif (inB w5 w3.length) then
    bnd (!((w1.getD w5.toNat (.i 0)).toS==(w3.getD w5.toNat (.i 0)).toS)) fun y0=>
    bif y0 then
     k0 ()
    else
     kr (IntKind.wrap .i64 (w5+1))
   else
    none
  else
   none
 else
  k1 ()
def b2S (N:Nat) {R:Type} (w1 w3:LD) (w4:Int):Nat→Int→(Unit→Option R)→(Unit→Option R)→Option R
 |0,_,_,_=>none
 |m+1,w5,k0,k1=>a6C N w1 w3 w4 w5 (fun w5=>b2S N w1 w3 w4 m w5 k0 k1) k0 k1
def b9U (w1 w3:LD) (w4:Int) (w5:Int):Option (Sum (Unit) (Unit)):=b2S N (R:=(Sum (Unit) (Unit))) w1 w3 w4 N w5 (fun p=>some (.inl p)) (fun p=>some (.inr p))
def a9u (L x:List Lf) (kr:List Lf→Option R) (k0:Unit→Option R) (k1:Unit→Option R):Option R:=a6C N (ll L 1) (ll L 3) (li L 4) (li x 0) (fun w5=>kr [.i w5]) k0 k1
theorem c24 (L x:List Lf) (kr:List Lf→Option R) (k0:Unit→Option R) (k1:Unit→Option R):a9u N L x kr k0 k1=(a9u N L x (fun y=>some (.inl y)) (fun p=>some (.inr (.inl p))) (fun p=>some (.inr (.inr p)))).bind (a1a kr (a1a k0 k1)):=by
 unfold a9u a6C
 repeat' (first|with_reducible apply a0f|(with_reducible apply a0m;intro _)|rfl)
def b2T (L:List Lf) (m:Nat) (x:List Lf):Option (Sum (Unit) (Unit)):=b2S N (R:=(Sum (Unit) (Unit))) (ll L 1) (ll L 3) (li L 4) m (li x 0) (fun p=>some (.inl p)) (fun p=>some (.inr p))
def a9v:Sh:={tmps:=[(0,.c (.sl 9)),(1,.c (.sl 9)),(12,.c (.i .i64)),(13,.c (.i .i64))],mem:=[]}
def e1y (L:List Lf):List (Bool×(Ex×St)):=bnd (b2T N L N (pk a9v [5] L)) fun q=>[((a0O q),(.ret,⟨[(4,.c (.b false))],[]⟩)),((a0l q).isSome,((.exit 0),⟨[],[]⟩))]
theorem c5t (m:Nat) (kn:St→Option (Ex×St)) (L x:List Lf):lpB Tryz.prog (e1x N) (d68 N).h 0 36 12 a9v [5] [4] [] (m+100) kn L x=a9u N L x (fun y=>kn (a0v a9v (mx a9v [5] L y))) (fun _=>some (.ret,⟨[(4,.c (.b false))],[]⟩)) (fun _=>some ((.exit 0),⟨[],[]⟩)):=by kernel_rfl
theorem d69 (L:List Lf) (m:Nat) (x:List Lf):b2T N L (m+1) x=a9u N L x (b2T N L m) (fun p=>some (.inl p)) (fun p=>some (.inr p)):=by kernel_rfl
def d7a:Sg Tryz.prog 0 36:=
 (d68 N).lp (e1y N) N a0b (b9T N) (fun m kn L x=>(c5t N m kn L x).trans (c24 N L x _ _ _)) (fun L m x=>(d69 N L m x).trans (c24 N L x (b2T N L m) (fun p=>some (.inl p)) (fun p=>some (.inr p)))) fun L x hx=>(a27 a0N) x hx
def d0J (v1 v3:LD) (k0:Bool→Option R):Option R:=
 bif ((v1.length:Int) !=(v3.length:Int)) then
  k0 false
 else
  bnd (b9U N v1 v3 (v1.length:Int) 0) fun y0=>
  bif (a0O y0) then
   k0 false
  else
   bif (a0l y0).isSome then
    k0 true
   else
    none
def d7b (v1 v3:LD):Option (Bool):=d0J N v1 v3 (fun p=>some p)
theorem e1z (v1 v3:LD) (k0:Bool→Option R):d0J N v1 v3 k0=(d7b N v1 v3).bind k0:=by
 unfold d7b d0J
 repeat' (first|with_reducible apply a0f|(with_reducible apply a0m;intro _)|rfl)
def d7c:Sh:={tmps:=[(0,.c (.sl 9)),(1,.c (.sl 9))],mem:=[]}
def f2K (L:List Lf):List (Bool×Res):=bnd (d0J N (ll L 1) (ll L 3) (fun p=>some p)) fun q=>[(q.isSome,([.c (.b (q.getD default))],[]))]
theorem e69 (L:List Lf):bd Tryz.prog (e1x N) (d7a N).h 36 d7c L=d0J N (ll L 1) (ll L 3) (fun p=>some ([.c (.b p)],[])):=by kernel_rfl
theorem f2L:a0G Tryz.prog 36 d7c (f2K N):=
 (d7a N).fn a0b (b9T N) fun L x hx=>((e69 N L).trans ((e1z N ..).trans (a0N x hx)))
def e1A:a0e:=ext 36 (a1E d7c (f2K N)) (e1x N)
theorem b9V:a0c Tryz.prog (e1A N):=a0G.to (f2L N) (b9T N)
def f4R:List (Nat×List Nat):=[(0,[0,1]),(1,[2,3])]
def f4S:a0E:=[(4,[2,3],[2,3],[])]
def e3H (N:Nat):Sg Tryz.prog 0 9:= .start f4S f4R
def c25 (w0:LB) (w1 w2:Int) (w4 w6 w8:LD) (w9:LB) (w10 w11:Int) (w13 w15 w17:LD) (k0:Bool→Option R):Option R:=
 bnd (bif (bif (w0==w9) then (w1==w10) else false) then (w2==w11) else false) fun y0=>
 bif y0 then
  bnd (d61 N w4 w13) fun y1=>
  bif y1.isSome then
   bif (y1.getD default) then
    bnd (d66 N w6 w15) fun y2=>
    bif y2.isSome then
     bif (y2.getD default) then
      bnd (d7b N w8 w17) fun y3=>
      bif y3.isSome then
       k0 (y3.getD default)
      else
       none
     else
      k0 false
    else
     none
   else
    k0 false
  else
   none
 else
  k0 false
def c7x (w0:LB) (w1 w2:Int) (w4 w6 w8:LD) (w9:LB) (w10 w11:Int) (w13 w15 w17:LD):Option (Bool):=c25 N w0 w1 w2 w4 w6 w8 w9 w10 w11 w13 w15 w17 (fun p=>some p)
theorem d7d (w0:LB) (w1 w2:Int) (w4 w6 w8:LD) (w9:LB) (w10 w11:Int) (w13 w15 w17:LD) (k0:Bool→Option R):c25 N w0 w1 w2 w4 w6 w8 w9 w10 w11 w13 w15 w17 k0=(c7x N w0 w1 w2 w4 w6 w8 w9 w10 w11 w13 w15 w17).bind k0:=by
 unfold c7x c25
 repeat' (first|with_reducible apply a0f|(with_reducible apply a0m;intro _)|rfl)
def e3I (L:List Lf) (k0:Bool→Option R):Option R:=c25 N (ls L 0) (li L 1) (li L 2) (ll L 4) (ll L 6) (ll L 8) (ls L 9) (li L 10) (li L 11) (ll L 13) (ll L 15) (ll L 17) k0
def e7a:Sh:={tmps:=[(2,.c (.p 2 0)),(3,.c (.p 3 0))],mem:=[(2,.box (.s::[.i .i64,.i .i64,.sl 70,.sl 65,.sl 9])),(3,.box (.s::[.i .i64,.i .i64,.sl 70,.sl 65,.sl 9]))]}
def f2M (L:List Lf):List (Bool×(Ex×St)):=bnd (e3I N L (fun p=>some p)) fun q=>[(q.isSome,(.normal,⟨[(4,.c (.b (q.getD default)))],[]⟩))]
theorem e1B (L:List Lf):pc Tryz.prog (e1A N) (e3H N).h 0 100 9 4 e7a L [4] []=e3I N L (fun p=>some (.normal,⟨[(4,.c (.b p))],[]⟩)):=by kernel_rfl
def e3J:Sg Tryz.prog 0 9:=
 (e3H N).cut (f2M N) a0b (b9V N) fun L x hx=>(e1B N L).trans ((d7d N ..).trans (a0N x hx))
def f2N (v0:LB) (v1 v2:Int) (v4 v6 v8:LD) (v9:LB) (v10 v11:Int) (v13 v15 v17:LD) (k0:Bool→Option R):Option R:=
 bnd (c7x N v0 v1 v2 v4 v6 v8 v9 v10 v11 v13 v15 v17) fun y0=>
 bif y0.isSome then
  k0 (y0.getD default)
 else
  none
def f2O (v0:LB) (v1 v2:Int) (v4 v6 v8:LD) (v9:LB) (v10 v11:Int) (v13 v15 v17:LD):Option (Bool):=f2N N v0 v1 v2 v4 v6 v8 v9 v10 v11 v13 v15 v17 (fun p=>some p)
theorem e7b (v0:LB) (v1 v2:Int) (v4 v6 v8:LD) (v9:LB) (v10 v11:Int) (v13 v15 v17:LD) (k0:Bool→Option R):f2N N v0 v1 v2 v4 v6 v8 v9 v10 v11 v13 v15 v17 k0=(f2O N v0 v1 v2 v4 v6 v8 v9 v10 v11 v13 v15 v17).bind k0:=by
 unfold f2O f2N
 repeat' (first|with_reducible apply a0f|(with_reducible apply a0m;intro _)|rfl)
def f5C (L:List Lf) (k0:Bool→Option R):Option R:=f2N N (ls L 0) (li L 1) (li L 2) (ll L 4) (ll L 6) (ll L 8) (ls L 9) (li L 10) (li L 11) (ll L 13) (ll L 15) (ll L 17) k0
def e7c:Sh:={tmps:=[(0,.g (.s::[.i .i64,.i .i64,.sl 70,.sl 65,.sl 9])),(1,.g (.s::[.i .i64,.i .i64,.sl 70,.sl 65,.sl 9]))],mem:=[]}
def f5D (L:List Lf):List (Bool×Res):=bnd (f5C N L (fun p=>some p)) fun q=>[(q.isSome,([.c (.b (q.getD default))],[]))]
theorem f2P (L:List Lf):bd Tryz.prog (e1A N) (e3J N).h 9 e7c L=f5C N L (fun p=>some ([.c (.b p)],[])):=by kernel_rfl
theorem f4T:a0G Tryz.prog 9 e7c (f5D N):=
 (e3J N).fn a0b (b9V N) fun L x hx=>((f2P N L).trans ((e7b N ..).trans (a0N x hx)))
def f5E:a0e:=ext 9 (a1E e7c (f5D N)) (e1A N)
theorem e7d:a0c Tryz.prog (f5E N):=a0G.to (f4T N) (b9V N)
def e3K:Sh:=e5L
def f2Q (L:List Lf):List (Bool×Res):=f5v N L
theorem f2R:a0G Tryz.prog 10 e3K (f2Q N):=f0z N
def f2S:a0e:=ext 10 (a1E e3K (f2Q N)) (f5E N)
theorem e1C:a0c Tryz.prog (f2S N):=a0G.to (f2R N) (e7d N)
def e3L:Sh:=e3c
def f2T (N:Nat) (L:List Lf):List (Bool×Res):=e89 L
theorem f2U:a0G Tryz.prog 11 e3L (f2T N):=e4W
def b9W:a0e:=ext 11 (a1E e3L (f2T N)) (f2S N)
theorem a33:a0c Tryz.prog (b9W N):=a0G.to (f2U N) (e1C N)
def f4U:List (Nat×List Nat):=[(0,[0,4,1,2,3]),(1,[5,1,2,3,9]),(2,[12,5,2,11,1,3,9]),(3,[5,12]),(4,[2,11,1,5,3,9]),(5,[11,1,2,5,3,9]),(6,[11,5,3,9]),(7,[12,13,11,5,3,9]),(8,[]),(9,[13,11,5,3,9]),(10,[12,11,5,3,9,13]),(11,[]),(12,[11,5,3,9,13]),(13,[12,5,14,11,3,9,13]),(14,[]),(15,[11,3,9,13]),(16,[12,15,13]),(17,[]),(18,[15,13]),(19,[12,16,13]),(20,[]),(21,[13,16]),(22,[13,16,17,18]),(23,[114,113,13,16,17,18]),(24,[114,13,16,17,113,18]),(25,[13,19,16,17,114,113,18]),(26,[17,19,114,113,13,16]),(27,[19,114,113,13,16]),(28,[19,114,113,13,16,17]),(29,[114,113,13,16,17,18]),(30,[17,18])]
def f4V:a0E:=[(4,[1,2,3,5,9],[5,9],[]),(17,[1,2,3,5,9,11,42],[5,9,11,50011000],[50011000]),(40,[3,5,9,11,12,13,14],[5,9,11,14],[]),(69,[13,16,17,18,113,114],[],[]),(83,[13,16,17,19,113,114,127],[],[]),(80,[13,16,17,18,19,113,114,125],[],[]),(91,[17,18],[],[])]
def e3M (N:Nat):Sg Tryz.prog 0 3:= .start f4V f4U
def b45 (w0:Bool) (w3:LB) (w4 w5:Int) (w7 w9 w11:LD) (k0:Int→Option R) (k1:Bool×LD→Option R) (k2:Bool×LD→Option R):Option R:=
 bnd (e0M N w3 w4 w5 w7 w9 w11 w0) fun y0=>
 bif (a0O y0) then
  k0 (a01 y0)
 else
  bif (a0O (a0l y0)) then
   k1 (a01 (a0l y0))
  else
   bif (a0l (a0l y0)).isSome then
    k2 ((a0l (a0l y0)).getD default)
   else
    none
def a9w (w0:Bool) (w3:LB) (w4 w5:Int) (w7 w9 w11:LD):Option (Sum (Int) (Sum (Bool×LD) (Bool×LD))):=b45 N w0 w3 w4 w5 w7 w9 w11 (fun p=>some (.inl p)) (fun p=>some (.inr (.inl p))) (fun p=>some (.inr (.inr p)))
theorem d7e (w0:Bool) (w3:LB) (w4 w5:Int) (w7 w9 w11:LD) (k0:Int→Option R) (k1:Bool×LD→Option R) (k2:Bool×LD→Option R):b45 N w0 w3 w4 w5 w7 w9 w11 k0 k1 k2=(a9w N w0 w3 w4 w5 w7 w9 w11).bind (a1a k0 (a1a k1 k2)):=by
 unfold a9w b45
 repeat' (first|with_reducible apply a0f|(with_reducible apply a0m;intro _)|rfl)
def e3N (L:List Lf) (k0:Int→Option R) (k1:Bool×LD→Option R) (k2:Bool×LD→Option R):Option R:=b45 N (lb L 0) (ls L 3) (li L 4) (li L 5) (ll L 7) (ll L 9) (ll L 11) k0 k1 k2
def b9X:Sh:={tmps:=[(1,.c (.b)),(2,.c (.s)),(3,.c (.i .i64)),(5,.c (.p 5 0)),(9,.c (.p 9 0))],mem:=[(5,.box (.s::[.i .i64,.i .i64,.sl 70,.sl 65,.sl 9])),(9,.box ([.i .i64,.i .i64,.i .i64,.s,.b]))]}
def c7y (L:List Lf) (p:Int):Ex×St:=(.normal,mg (a0v b9X L) [1,2,3,5,9,11,12] [(11,.c (.p 11 0)),(12,.c (.i .i64 p))] [5,9,11] [(11,.box [.sl 44 true []])])
def c7z (L:List Lf) (p:Bool×LD):Ex×St:=(.normal,mg (a0v b9X L) [1,2,3,5,9,11,12] [(11,.c (.p 11 0)),(12,.c (.i .i64 0))] [5,9,11,24050029000] [(11,.box [.o 24050029000]),(24050029000,.row 44 true p.1 p.2)])
def c7A (L:List Lf) (p:Bool×LD):Ex×St:=(.normal,mg (a0v b9X L) [1,2,3,5,9,11,12] [(11,.c (.p 11 0)),(12,.c (.i .i64 0))] [5,9,11,24000000998] [(11,.box [.o 24000000998]),(24000000998,.row 44 true p.1 p.2)])
def f2V (L:List Lf):List (Bool×(Ex×St)):=bnd (e3N N L (fun p=>some (.inl p)) (fun p=>some (.inr (.inl p))) (fun p=>some (.inr (.inr p)))) fun q=>[((a0O q),c7y L (a01 q)),((a0O (a0l q)),c7z L (a01 (a0l q))),((a0l (a0l q)).isSome,c7A L ((a0l (a0l q)).getD default))]
theorem e1D (L:List Lf):pc Tryz.prog (b9W N) (e3M N).h 0 100 3 4 b9X L [1,2,3,5,9,11,12] [5,9,11,24000000998,24050029000]=e3N N L (fun p=>some (c7y L p)) (fun p=>some (c7z L p)) (fun p=>some (c7A L p)):=by kernel_rfl
def e3O:Sg Tryz.prog 0 3:=
 (e3M N).cut (f2V N) a0b (a33 N) fun L x hx=>(e1D N L).trans ((d7e N ..).trans ((a27 (a27 a0N)) x hx))
def a7w (N:Nat) (w0:Bool) (w1:LB) (w3:Bool) (w19:LD) (k0:LD→Option R) (k1:Unit→Option R):Option R:=
 bif w3 then
  bif (Nat.ble w1.length a0d) then
   bif (decide ((w19.length+2)*72≤a0L)&&decide ((w19.length+2)≤a0d)) then
    bnd ((w19++[(.a [(.i 1),(.i 9),(.i 0),(.l false [(.a [(.b w0),(.i 60000),(.l false [(.a [(.i 1),(.i (w1.length:Int)),(.i 3)])])])]),(.l true [])]),(.a [(.i 2),(.i 9),(.i 0),(.l true []),(.l false (a0u w1))])]):List D) fun y0=>
    k0 y0
   else
    none
  else
   none
 else
  k1 ()
def a3L (w0:Bool) (w1:LB) (w3:Bool) (w19:LD):Option (Sum (LD) (Unit)):=a7w N w0 w1 w3 w19 (fun p=>some (.inl p)) (fun p=>some (.inr p))
theorem d0K (w0:Bool) (w1:LB) (w3:Bool) (w19:LD) (k0:LD→Option R) (k1:Unit→Option R):a7w N w0 w1 w3 w19 k0 k1=(a3L N w0 w1 w3 w19).bind (a1a k0 k1):=by
 unfold a3L a7w
 repeat' (first|with_reducible apply a0f|(with_reducible apply a0m;intro _)|rfl)
def d7f (L:List Lf) (k0:LD→Option R) (k1:Unit→Option R):Option R:=a7w N (lb L 0) (ls L 1) (lb L 3) (ll L 19) k0 k1
def b9Y:Sh:={tmps:=[(1,.c (.b)),(2,.c (.s)),(3,.c (.i .i64)),(5,.c (.p 5 0)),(9,.c (.p 9 0)),(11,.c (.p 11 0)),(42,.c (.b))],mem:=[(5,.box (.s::[.i .i64,.i .i64,.sl 70,.sl 65,.sl 9])),(9,.box ([.i .i64,.i .i64,.i .i64,.s,.b])),(11,.box ([.o 50011000])),(50011000,.row 44 true)]}
def c26 (L:List Lf) (p:LD):Ex×St:=(.normal,mg (a0v b9Y L) [3,5,9,11] [] [5,9,11,57] [(11,.box [.o 57]),(57,.row 44 true false p)])
def c27 (L:List Lf) (_:Unit):Ex×St:=(.normal,mg (a0v b9Y L) [3,5,9,11] [] [5,9,11,50011000] [])
def e7e (L:List Lf):List (Bool×(Ex×St)):=bnd (d7f N L (fun p=>some (.inl p)) (fun p=>some (.inr p))) fun q=>[((a0O q),c26 L (a01 q)),((a0l q).isSome,c27 L ())]
theorem d7g (L:List Lf):pc Tryz.prog (b9W N) (e3O N).h 0 100 3 17 b9Y L [3,5,9,11] [5,9,11,57,50011000]=d7f N L (fun p=>some (c26 L p)) (fun _=>some (c27 L ())):=by kernel_rfl
def e3P:Sg Tryz.prog 0 3:=
 (e3O N).cut (e7e N) a0b (a33 N) fun L x hx=>(d7g N L).trans ((d0K N ..).trans ((a27 a0N) x hx))
def b46 (w1:Int) (w4:LB) (w5 w6:Int) (w8 w10 w12:LD) (w20:LB) (w21 w22:Int) (w24 w26 w28:LD) (k0:Bool→Option R):Option R:=
 bif (w1 !=0) then
  k0 true
 else
  bnd (f2O N w4 w5 w6 w8 w10 w12 w20 w21 w22 w24 w26 w28) fun y0=>
  bif y0.isSome then
   k0 (!(y0.getD default))
  else
   none
def a3M (w1:Int) (w4:LB) (w5 w6:Int) (w8 w10 w12:LD) (w20:LB) (w21 w22:Int) (w24 w26 w28:LD):Option (Bool):=b46 N w1 w4 w5 w6 w8 w10 w12 w20 w21 w22 w24 w26 w28 (fun p=>some p)
theorem d0L (w1:Int) (w4:LB) (w5 w6:Int) (w8 w10 w12:LD) (w20:LB) (w21 w22:Int) (w24 w26 w28:LD) (k0:Bool→Option R):b46 N w1 w4 w5 w6 w8 w10 w12 w20 w21 w22 w24 w26 w28 k0=(a3M N w1 w4 w5 w6 w8 w10 w12 w20 w21 w22 w24 w26 w28).bind k0:=by
 unfold a3M b46
 repeat' (first|with_reducible apply a0f|(with_reducible apply a0m;intro _)|rfl)
def d7h (L:List Lf) (k0:Bool→Option R):Option R:=b46 N (li L 1) (ls L 4) (li L 5) (li L 6) (ll L 8) (ll L 10) (ll L 12) (ls L 20) (li L 21) (li L 22) (ll L 24) (ll L 26) (ll L 28) k0
def c7B:Sh:={tmps:=[(3,.c (.i .i64)),(5,.c (.p 5 0)),(9,.c (.p 9 0)),(11,.c (.p 11 0)),(12,.c (.i .i64)),(13,.c (.sl 5)),(14,.c (.p 14 0))],mem:=[(5,.box (.s::[.i .i64,.i .i64,.sl 70,.sl 65,.sl 9])),(9,.box ([.i .i64,.i .i64,.i .i64,.s,.b])),(11,.box ([.sl 44])),(14,.box (.s::[.i .i64,.i .i64,.sl 70,.sl 65,.sl 9]))]}
def c28 (L:List Lf) (p:Bool):Ex×St:=(.normal,mg (a0v c7B L) [3,9,11,13,86] [(86,.c (.b p))] [9,11] [])
def e7f (L:List Lf):List (Bool×(Ex×St)):=bnd (d7h N L (fun p=>some p)) fun q=>[(q.isSome,c28 L (q.getD default))]
theorem d7i (L:List Lf):pc Tryz.prog (b9W N) (e3P N).h 0 100 3 40 c7B L [3,9,11,13,86] [9,11]=d7h N L (fun p=>some (c28 L p)):=by kernel_rfl
def e3Q:Sg Tryz.prog 0 3:=
 (e3P N).cut (e7f N) a0b (a33 N) fun L x hx=>(d7i N L).trans ((d0L N ..).trans (a0N x hx))
def b0s (N:Nat) (w4 w5:Int) (w8:Bool) (k0:Int→R):R:=
 bif w8 then
  k0 w5
 else
  k0 w4
def b9Z (w4 w5:Int) (w8:Bool):Int:=b0s N w4 w5 w8 (fun p=>p)
theorem d7j (w4 w5:Int) (w8:Bool) (k0:Int→R):b0s N w4 w5 w8 k0=k0 (b9Z N w4 w5 w8):=by
 unfold b9Z b0s
 repeat' (first|rfl|apply a0W|(apply a1D;intro _))
def c7C:Sh:={tmps:=[(13,.c (.sl 5)),(16,.c (.sl 5)),(17,.c (.i .i64)),(19,.c (.i .i64)),(113,.c (.i .i64)),(114,.c (.i .i64)),(127,.c (.b))],mem:=[]}
def c29 (L:List Lf) (p:Int):Ex×St:=(.normal,mg (a0v c7C L) [13,16,17,19,113,114] [(17,.c (.i .i64 p))] [] [])
def e7g (L:List Lf):List (Bool×(Ex×St)):=bnd (b0s N (li L 4) (li L 5) (lb L 8) (fun p=>p)) fun q=>[(true,c29 L q)]
theorem d7k (L:List Lf):pc Tryz.prog (b9W N) (e3Q N).h 0 100 3 83 c7C L [13,16,17,19,113,114] []=b0s N (li L 4) (li L 5) (lb L 8) (fun p=>some (c29 L p)):=by kernel_rfl
def e3R:Sg Tryz.prog 0 3:=
 (e3Q N).cut (e7g N) a0b (a33 N) fun L x hx=>(d7k N L).trans ((d7j N ..).trans (a5j _ _ hx))
def b47 (w4 w5 w6:Int) (w9:Bool) (k0:Int×Int→R):R:=
 bif w9 then
  bnd (b9Z N w4 w6 (decide (w4<0))) fun y0=>
  k0 (y0,w6)
 else
  k0 (w4,w5)
def b90 (w4 w5 w6:Int) (w9:Bool):Int×Int:=b47 N w4 w5 w6 w9 (fun p=>p)
theorem d7l (w4 w5 w6:Int) (w9:Bool) (k0:Int×Int→R):b47 N w4 w5 w6 w9 k0=k0 (b90 N w4 w5 w6 w9):=by
 unfold b90 b47
 repeat' (first|rfl|apply a0W|(apply a1D;intro _))
def d7m (L:List Lf) (k0:Int×Int→R):R:=b47 N (li L 4) (li L 5) (li L 6) (lb L 9) k0
def c7D:Sh:={tmps:=[(13,.c (.sl 5)),(16,.c (.sl 5)),(17,.c (.i .i64)),(18,.c (.i .i64)),(19,.c (.i .i64)),(113,.c (.i .i64)),(114,.c (.i .i64)),(125,.c (.b))],mem:=[]}
def c3a (L:List Lf) (p:Int×Int):Ex×St:=(.normal,mg (a0v c7D L) [13,16,17,18,113,114] [(17,.c (.i .i64 p.1)),(18,.c (.i .i64 p.2))] [] [])
def e7h (L:List Lf):List (Bool×(Ex×St)):=bnd (d7m N L (fun p=>p)) fun q=>[(true,c3a L q)]
theorem d7n (L:List Lf):pc Tryz.prog (b9W N) (e3R N).h 0 100 3 80 c7D L [13,16,17,18,113,114] []=d7m N L (fun p=>some (c3a L p)):=by kernel_rfl
def e3S:Sg Tryz.prog 0 3:=
 (e3R N).cut (e7h N) a0b (a33 N) fun L x hx=>(d7n N L).trans ((d7l N ..).trans (a5j _ _ hx))
def b91 (w1 w3:LD) (w6:Int) (w4 w5 w7:Int) (kr:Int→Int→Int→Option R) (k0:Int×Int→Option R):Option R:=
 bif (decide (w7<w6)) then
  bif (inB w7 w1.length) then
   bif (inB w7 w3.length) then
    bnd ((w1.getD w7.toNat (.i 0)).toI !=(w3.getD w7.toNat (.i 0)).toI) fun y0=>
    bnd (b90 N w4 w5 w7 y0) fun y1=>
    kr y1.1 y1.2 (IntKind.wrap .i64 (w7+1))
   else
    none
  else
   none
 else
  k0 (w4,w5)
def b48 (N:Nat) {R:Type} (w1 w3:LD) (w6:Int):Nat→Int→Int→Int→(Int×Int→Option R)→Option R
 |0,_,_,_,_=>none
 |m+1,w4,w5,w7,k0=>b91 N w1 w3 w6 w4 w5 w7 (fun w4 w5 w7=>b48 N w1 w3 w6 m w4 w5 w7 k0) k0
def a5X (w1 w3:LD) (w6:Int) (w4 w5 w7:Int):Option (Int×Int):=b48 N (R:=(Int×Int)) w1 w3 w6 N w4 w5 w7 (fun p=>some p)
def b49 (L x:List Lf) (kr:List Lf→Option R) (k0:Int×Int→Option R):Option R:=b91 N (ll L 1) (ll L 3) (li L 6) (li x 0) (li x 1) (li x 2) (fun w4 w5 w7=>kr [.i w4,.i w5,.i w7]) k0
theorem c7E (L x:List Lf) (kr:List Lf→Option R) (k0:Int×Int→Option R):b49 N L x kr k0=(b49 N L x (fun y=>some (.inl y)) (fun p=>some (.inr p))).bind (a1a kr k0):=by
 unfold b49 b91
 repeat' (first|with_reducible apply a0f|(with_reducible apply a0m;intro _)|rfl)
def b92 (L:List Lf) (m:Nat) (x:List Lf):Option (Int×Int):=b48 N (R:=(Int×Int)) (ll L 1) (ll L 3) (li L 6) m (li x 0) (li x 1) (li x 2) (fun p=>some p)
def b2U:Sh:={tmps:=[(13,.c (.sl 5)),(16,.c (.sl 5)),(17,.c (.i .i64)),(18,.c (.i .i64)),(113,.c (.i .i64)),(114,.c (.i .i64))],mem:=[]}
def c3b (L:List Lf) (p:Int×Int):Ex×St:=((.exit 0),⟨[(17,.c (.i .i64 p.1)),(18,.c (.i .i64 p.2))],[]⟩)
def e7i (L:List Lf):List (Bool×(Ex×St)):=bnd (b92 N L N (pk b2U [4,5,7] L)) fun q=>[(q.isSome,c3b L (q.getD default))]
theorem d0M (m:Nat) (kn:St→Option (Ex×St)) (L x:List Lf):lpB Tryz.prog (b9W N) (e3S N).h 0 3 69 b2U [4,5,7] [10,17,18] [] (m+100) kn L x=b49 N L x (fun y=>kn (a0v b2U (mx b2U [4,5,7] L y))) (fun p=>some (c3b L p)):=by kernel_rfl
theorem e1E (L:List Lf) (m:Nat) (x:List Lf):b92 N L (m+1) x=b49 N L x (b92 N L m) some:=by kernel_rfl
def e3T:Sg Tryz.prog 0 3:=
 (e3S N).lp (e7i N) N a0b (a33 N) (fun m kn L x=>(d0M N m kn L x).trans (c7E N L x _ _)) (fun L m x=>(e1E N L m x).trans (c7E N L x (b92 N L m) some)) fun L x hx=>a0N x hx
def b0t (N:Nat) (w0 w1:Int) (k0:Bool→R):R:=
 bnd (bif (decide (w0<0)) then true else (decide ((IntKind.wrap .i64 (w1-w0))<255))) fun y0=>
 bif y0 then
  k0 true
 else
  k0 false
def a3N (w0 w1:Int):Bool:=b0t N w0 w1 (fun p=>p)
theorem d7o (w0 w1:Int) (k0:Bool→R):b0t N w0 w1 k0=k0 (a3N N w0 w1):=by
 unfold a3N b0t
 repeat' (first|rfl|apply a0W|(apply a1D;intro _))
def e1F:Sh:={tmps:=[(17,.c (.i .i64)),(18,.c (.i .i64))],mem:=[]}
def e7j (L:List Lf):List (Bool×(Ex×St)):=bnd (b0t N (li L 0) (li L 1) (fun p=>p)) fun q=>[(true,(.normal,⟨[(10,.c (.b q))],[]⟩))]
theorem d7p (L:List Lf):pc Tryz.prog (b9W N) (e3T N).h 0 100 3 91 e1F L [10] []=b0t N (li L 0) (li L 1) (fun p=>some (.normal,⟨[(10,.c (.b p))],[]⟩)):=by kernel_rfl
def e3U:Sg Tryz.prog 0 3:=
 (e3T N).cut (e7j N) a0b (a33 N) fun L x hx=>(d7p N L).trans ((d7o N ..).trans (a5j _ _ hx))
def e8p (v0 : LB) (v1 v2:Int) (v4 v6 v8:LD) (v9:Bool) (v10:LB) (v11 v12 v13 v14:Int) (v15:LB) (v16:Bool) (k0:Bool→Option R):Option R:=
 bnd (a9w N v9 v0 v1 v2 v4 v6 v8) fun y0=>
 bif (a0O y0) then
  bif ((a01 y0) !=0) then
   bnd (e0w N v0 v1 v2 v4 v6 v8) fun y1=>
   bif y1.isSome then
    bnd (bif ((y1.getD default) !=0) then true else ((a01 y0)==9)) fun y2=>
    k0 y2
   else
    none
  else
   bnd (bif (decide ((v10.length:Int)>0)) then (decide ((v10.length:Int)≤255)) else false) fun y3=>
   bnd (a3L N v9 v10 y3 []) fun y4=>
   bif (a0O y4) then
    bnd (b61 N (a01 y4)) fun y5=>
    bif y5.isSome then
     bif ((y5.getD default).2.2 !=0) then
      k0 false
     else
      bnd (d6j N (y5.getD default).1 (y5.getD default).2.1) fun y6=>
      bif y6.isSome then
       bif ((y6.getD default).2.2.2 !=0) then
        k0 false
       else
        bnd (d0G N (y6.getD default).2.1) fun y7=>
        bif y7.isSome then
         bnd (a3M N (y7.getD default).2.2.2.2.2.2.2.2.2 v0 v1 v2 v4 v6 v8 (y7.getD default).1 (y7.getD default).2.1 (y7.getD default).2.2.1 (y7.getD default).2.2.2.2.1 (y7.getD default).2.2.2.2.2.2.1 (y7.getD default).2.2.2.2.2.2.2.2.1) fun y8=>
         bif y8.isSome then
          bif (y8.getD default) then
           k0 false
          else
           bif (a6P N (y6.getD default).2.1 v11 v12 v13 v14 v15 v16).isSome then
            bnd ((a6P N (y6.getD default).2.1 v11 v12 v13 v14 v15 v16).getD default).1 fun y9=>
            bnd (((a6P N (y6.getD default).2.1 v11 v12 v13 v14 v15 v16).getD default).2.1:List D) fun y10=>
            bnd ((a6P N (y6.getD default).2.1 v11 v12 v13 v14 v15 v16).getD default).2.2 fun y11=>
            bif (y11 !=0) then
             k0 true
            else
             bnd (b61 N y10) fun y12=>
             bif y12.isSome then
              bnd (bif ((y12.getD default).2.2 !=0) then true else (((y12.getD default).2.1.length:Int) !=((y5.getD default).2.1.length:Int))) fun y13=>
              bif y13 then
               k0 false
              else
               bnd (IntKind.wrap .i64 (((y5.getD default).2.1.length:Int)-4)) fun y14=>
               bnd (a5X N (y5.getD default).2.1 (y12.getD default).2.1 y14 (-1) (-1) 0) fun y15=>
               bif y15.isSome then
                bnd (a3N N (y15.getD default).1 (y15.getD default).2) fun y16=>
                k0 y16
               else
                none
             else
              none
           else
            none
         else
          none
        else
         none
      else
       none
    else
     none
   else
    bif (a0l y4).isSome then
     bnd (b61 N []) fun y17=>
     bif y17.isSome then
      bif ((y17.getD default).2.2 !=0) then
       k0 false
      else
       bnd (d6j N (y17.getD default).1 (y17.getD default).2.1) fun y18=>
       bif y18.isSome then
        bif ((y18.getD default).2.2.2 !=0) then
         k0 false
        else
         bnd (d0G N (y18.getD default).2.1) fun y19=>
         bif y19.isSome then
          bnd (a3M N (y19.getD default).2.2.2.2.2.2.2.2.2 v0 v1 v2 v4 v6 v8 (y19.getD default).1 (y19.getD default).2.1 (y19.getD default).2.2.1 (y19.getD default).2.2.2.2.1 (y19.getD default).2.2.2.2.2.2.1 (y19.getD default).2.2.2.2.2.2.2.2.1) fun y20=>
          bif y20.isSome then
           bif (y20.getD default) then
            k0 false
           else
            bif (a6P N (y18.getD default).2.1 v11 v12 v13 v14 v15 v16).isSome then
             bnd ((a6P N (y18.getD default).2.1 v11 v12 v13 v14 v15 v16).getD default).1 fun y21=>
             bnd (((a6P N (y18.getD default).2.1 v11 v12 v13 v14 v15 v16).getD default).2.1:List D) fun y22=>
             bnd ((a6P N (y18.getD default).2.1 v11 v12 v13 v14 v15 v16).getD default).2.2 fun y23=>
             bif (y23 !=0) then
              k0 true
             else
              bnd (b61 N y22) fun y24=>
              bif y24.isSome then
               bnd (bif ((y24.getD default).2.2 !=0) then true else (((y24.getD default).2.1.length:Int) !=((y17.getD default).2.1.length:Int))) fun y25=>
               bif y25 then
                k0 false
               else
                bnd (IntKind.wrap .i64 (((y17.getD default).2.1.length:Int)-4)) fun y26=>
                bnd (a5X N (y17.getD default).2.1 (y24.getD default).2.1 y26 (-1) (-1) 0) fun y27=>
                bif y27.isSome then
                 bnd (a3N N (y27.getD default).1 (y27.getD default).2) fun y28=>
                 k0 y28
                else
                 none
              else
               none
            else
             none
          else
           none
         else
          none
       else
        none
     else
      none
    else
     none
 else
  bif (a0O (a0l y0)) then
   bnd (bif (decide ((v10.length:Int)>0)) then (decide ((v10.length:Int)≤255)) else false) fun y3=>
   bnd (a3L N v9 v10 y3 (a01 (a0l y0)).2) fun y29=>
   bif (a0O y29) then
    bnd (b61 N (a01 y29)) fun y30=>
    bif y30.isSome then
     bif ((y30.getD default).2.2 !=0) then
      k0 false
     else
      bnd (d6j N (y30.getD default).1 (y30.getD default).2.1) fun y31=>
      bif y31.isSome then
       bif ((y31.getD default).2.2.2 !=0) then
        k0 false
       else
        bnd (d0G N (y31.getD default).2.1) fun y32=>
        bif y32.isSome then
         bnd (a3M N (y32.getD default).2.2.2.2.2.2.2.2.2 v0 v1 v2 v4 v6 v8 (y32.getD default).1 (y32.getD default).2.1 (y32.getD default).2.2.1 (y32.getD default).2.2.2.2.1 (y32.getD default).2.2.2.2.2.2.1 (y32.getD default).2.2.2.2.2.2.2.2.1) fun y33=>
         bif y33.isSome then
          bif (y33.getD default) then
           k0 false
          else
           bif (a6P N (y31.getD default).2.1 v11 v12 v13 v14 v15 v16).isSome then
            bnd ((a6P N (y31.getD default).2.1 v11 v12 v13 v14 v15 v16).getD default).1 fun y34=>
            bnd (((a6P N (y31.getD default).2.1 v11 v12 v13 v14 v15 v16).getD default).2.1:List D) fun y35=>
            bnd ((a6P N (y31.getD default).2.1 v11 v12 v13 v14 v15 v16).getD default).2.2 fun y36=>
            bif (y36 !=0) then
             k0 true
            else
             bnd (b61 N y35) fun y37=>
             bif y37.isSome then
              bnd (bif ((y37.getD default).2.2 !=0) then true else (((y37.getD default).2.1.length:Int) !=((y30.getD default).2.1.length:Int))) fun y38=>
              bif y38 then
               k0 false
              else
               bnd (IntKind.wrap .i64 (((y30.getD default).2.1.length:Int)-4)) fun y39=>
               bnd (a5X N (y30.getD default).2.1 (y37.getD default).2.1 y39 (-1) (-1) 0) fun y40=>
               bif y40.isSome then
                bnd (a3N N (y40.getD default).1 (y40.getD default).2) fun y41=>
                k0 y41
               else
                none
             else
              none
           else
            none
         else
          none
        else
         none
      else
       none
    else
     none
   else
    bif (a0l y29).isSome then
     bnd (b61 N (a01 (a0l y0)).2) fun y42=>
     bif y42.isSome then
      bif ((y42.getD default).2.2 !=0) then
       k0 false
      else
       bnd (d6j N (y42.getD default).1 (y42.getD default).2.1) fun y43=>
       bif y43.isSome then
        bif ((y43.getD default).2.2.2 !=0) then
         k0 false
        else
         bnd (d0G N (y43.getD default).2.1) fun y44=>
         bif y44.isSome then
          bnd (a3M N (y44.getD default).2.2.2.2.2.2.2.2.2 v0 v1 v2 v4 v6 v8 (y44.getD default).1 (y44.getD default).2.1 (y44.getD default).2.2.1 (y44.getD default).2.2.2.2.1 (y44.getD default).2.2.2.2.2.2.1 (y44.getD default).2.2.2.2.2.2.2.2.1) fun y45=>
          bif y45.isSome then
           bif (y45.getD default) then
            k0 false
           else
            bif (a6P N (y43.getD default).2.1 v11 v12 v13 v14 v15 v16).isSome then
             bnd ((a6P N (y43.getD default).2.1 v11 v12 v13 v14 v15 v16).getD default).1 fun y46=>
             bnd (((a6P N (y43.getD default).2.1 v11 v12 v13 v14 v15 v16).getD default).2.1:List D) fun y47=>
             bnd ((a6P N (y43.getD default).2.1 v11 v12 v13 v14 v15 v16).getD default).2.2 fun y48=>
             bif (y48 !=0) then
              k0 true
             else
              bnd (b61 N y47) fun y49=>
              bif y49.isSome then
               bnd (bif ((y49.getD default).2.2 !=0) then true else (((y49.getD default).2.1.length:Int) !=((y42.getD default).2.1.length:Int))) fun y50=>
               bif y50 then
                k0 false
               else
                bnd (IntKind.wrap .i64 (((y42.getD default).2.1.length:Int)-4)) fun y51=>
                bnd (a5X N (y42.getD default).2.1 (y49.getD default).2.1 y51 (-1) (-1) 0) fun y52=>
                bif y52.isSome then
                 bnd (a3N N (y52.getD default).1 (y52.getD default).2) fun y53=>
                 k0 y53
                else
                 none
              else
               none
            else
             none
          else
           none
         else
          none
       else
        none
     else
      none
    else
     none
  else
   bif (a0l (a0l y0)).isSome then
    bnd (bif (decide ((v10.length:Int)>0)) then (decide ((v10.length:Int)≤255)) else false) fun y3=>
    bnd (a3L N v9 v10 y3 ((a0l (a0l y0)).getD default).2) fun y54=>
    bif (a0O y54) then
     bnd (b61 N (a01 y54)) fun y55=>
     bif y55.isSome then
      bif ((y55.getD default).2.2 !=0) then
       k0 false
      else
       bnd (d6j N (y55.getD default).1 (y55.getD default).2.1) fun y56=>
       bif y56.isSome then
        bif ((y56.getD default).2.2.2 !=0) then
         k0 false
        else
         bnd (d0G N (y56.getD default).2.1) fun y57=>
         bif y57.isSome then
          bnd (a3M N (y57.getD default).2.2.2.2.2.2.2.2.2 v0 v1 v2 v4 v6 v8 (y57.getD default).1 (y57.getD default).2.1 (y57.getD default).2.2.1 (y57.getD default).2.2.2.2.1 (y57.getD default).2.2.2.2.2.2.1 (y57.getD default).2.2.2.2.2.2.2.2.1) fun y58=>
          bif y58.isSome then
           bif (y58.getD default) then
            k0 false
           else
            bif (a6P N (y56.getD default).2.1 v11 v12 v13 v14 v15 v16).isSome then
             bnd ((a6P N (y56.getD default).2.1 v11 v12 v13 v14 v15 v16).getD default).1 fun y59=>
             bnd (((a6P N (y56.getD default).2.1 v11 v12 v13 v14 v15 v16).getD default).2.1:List D) fun y60=>
             bnd ((a6P N (y56.getD default).2.1 v11 v12 v13 v14 v15 v16).getD default).2.2 fun y61=>
             bif (y61 !=0) then
              k0 true
             else
              bnd (b61 N y60) fun y62=>
              bif y62.isSome then
               bnd (bif ((y62.getD default).2.2 !=0) then true else (((y62.getD default).2.1.length:Int) !=((y55.getD default).2.1.length:Int))) fun y63=>
               bif y63 then
                k0 false
               else
                bnd (IntKind.wrap .i64 (((y55.getD default).2.1.length:Int)-4)) fun y64=>
                bnd (a5X N (y55.getD default).2.1 (y62.getD default).2.1 y64 (-1) (-1) 0) fun y65=>
                bif y65.isSome then
                 bnd (a3N N (y65.getD default).1 (y65.getD default).2) fun y66=>
                 k0 y66
                else
                 none
              else
               none
            else
             none
          else
           none
         else
          none
       else
        none
     else
      none
    else
     bif (a0l y54).isSome then
      bnd (b61 N ((a0l (a0l y0)).getD default).2) fun y67=>
      bif y67.isSome then
       bif ((y67.getD default).2.2 !=0) then
        k0 false
       else
        bnd (d6j N (y67.getD default).1 (y67.getD default).2.1) fun y68=>
        bif y68.isSome then
         bif ((y68.getD default).2.2.2 !=0) then
          k0 false
         else
          bnd (d0G N (y68.getD default).2.1) fun y69=>
          bif y69.isSome then
           bnd (a3M N (y69.getD default).2.2.2.2.2.2.2.2.2 v0 v1 v2 v4 v6 v8 (y69.getD default).1 (y69.getD default).2.1 (y69.getD default).2.2.1 (y69.getD default).2.2.2.2.1 (y69.getD default).2.2.2.2.2.2.1 (y69.getD default).2.2.2.2.2.2.2.2.1) fun y70=>
           bif y70.isSome then
            bif (y70.getD default) then
             k0 false
            else
             bif (a6P N (y68.getD default).2.1 v11 v12 v13 v14 v15 v16).isSome then
              bnd ((a6P N (y68.getD default).2.1 v11 v12 v13 v14 v15 v16).getD default).1 fun y71=>
              bnd (((a6P N (y68.getD default).2.1 v11 v12 v13 v14 v15 v16).getD default).2.1:List D) fun y72=>
              bnd ((a6P N (y68.getD default).2.1 v11 v12 v13 v14 v15 v16).getD default).2.2 fun y73=>
              bif (y73 !=0) then
               k0 true
              else
               bnd (b61 N y72) fun y74=>
               bif y74.isSome then
                bnd (bif ((y74.getD default).2.2 !=0) then true else (((y74.getD default).2.1.length:Int) !=((y67.getD default).2.1.length:Int))) fun y75=>
                bif y75 then
                 k0 false
                else
                 bnd (IntKind.wrap .i64 (((y67.getD default).2.1.length:Int)-4)) fun y76=>
                 bnd (a5X N (y67.getD default).2.1 (y74.getD default).2.1 y76 (-1) (-1) 0) fun y77=>
                 bif y77.isSome then
                  bnd (a3N N (y77.getD default).1 (y77.getD default).2) fun y78=>
                  k0 y78
                 else
                  none
               else
                none
             else
              none
           else
            none
          else
           none
        else
         none
      else
       none
     else
      none
   else
    none
def e7k (v0:LB) (v1 v2:Int) (v4 v6 v8:LD) (v9:Bool) (v10:LB) (v11 v12 v13 v14:Int) (v15:LB) (v16:Bool):Option (Bool):=e8p N v0 v1 v2 v4 v6 v8 v9 v10 v11 v12 v13 v14 v15 v16 (fun p=>some p)
theorem e7l (v0:LB) (v1 v2:Int) (v4 v6 v8:LD) (v9:Bool) (v10:LB) (v11 v12 v13 v14:Int) (v15:LB) (v16:Bool) (k0:Bool→Option R):e8p N v0 v1 v2 v4 v6 v8 v9 v10 v11 v12 v13 v14 v15 v16 k0=(e7k N v0 v1 v2 v4 v6 v8 v9 v10 v11 v12 v13 v14 v15 v16).bind k0:=by
 unfold e7k e8p
 repeat' (first|with_reducible apply a0f|(with_reducible apply a0m;intro _)|rfl)
def f5F (L:List Lf) (k0:Bool→Option R):Option R:=e8p N (ls L 0) (li L 1) (li L 2) (ll L 4) (ll L 6) (ll L 8) (lb L 9) (ls L 10) (li L 11) (li L 12) (li L 13) (li L 14) (ls L 15) (lb L 16) k0
def f2W:Sh:={tmps:=[(0,.g (.s::[.i .i64,.i .i64,.sl 70,.sl 65,.sl 9])),(1,.c (.b)),(2,.c (.s)),(3,.c (.i .i64)),(4,.g ([.i .i64,.i .i64,.i .i64,.s,.b]))],mem:=[]}
def f4W (L:List Lf):List (Bool×Res):=bnd (f5F N L (fun p=>some p)) fun q=>[(q.isSome,([.c (.b (q.getD default))],[]))]
theorem f2X (L:List Lf):bd Tryz.prog (b9W N) (e3U N).h 3 f2W L=f5F N L (fun p=>some ([.c (.b p)],[])):=by kernel_rfl
theorem f4X:a0G Tryz.prog 3 f2W (f4W N):=
 (e3U N).fn a0b (a33 N) fun L x hx=>((f2X N L).trans ((e7l N ..).trans (a0N x hx)))
end
end Go.Proofs.YtiegikkpipdleaaGreatDoor
