/- Functions of the program as plain Lean definitions, each with the proof that the program computes it. No condition. Printed by a program of the prover, part 2. -/
import Derived.Test.YtajladplkpfaiaaGreatJPp1
import Derived.KernelRfl
set_option linter.all false
set_option maxRecDepth 100000
set_option maxHeartbeats 4000000
namespace Go.Proofs.YtajladplkpfaiaaGreat
open Go Go.AM
noncomputable section
variable (N:Nat) {R:Type}
def d2n (v1:LD) (k0:Int×Int→Option R):Option R:=
 bnd (c8S N v1 (v1.length:Int) 0 0 0) fun y0=>
 bif y0.isSome then
  k0 (y0.getD default)
 else
  none
def c2c (v1:LD):Option (Int×Int):=d2n N v1 some
def e3H:=(d8q N).f1 (d8n N) ⟨[(0,.c (.sl 3))],[]⟩ (fun L _=>d2n N (ll L 1)) (fun L p=>([.c (.i .i64 p.1),.c (.i .i64 p.2)],[])) fun _ _=>by unfold d2n;exact bb
def d8r (N:Nat):Sg Tryz.prog 0 41:= .start [] [(0,[0,1,2]),(1,[1,2,3,6]),(2,[3,1,2,7,6]),(3,[3,1,2,7,6]),(4,[3,1,2,7,6]),(5,[3,1,2,7,6]),(6,[3,1,2,7,6]),(7,[7,6])]
def d2o (v3 v5 v7 v9 v11:LD) (v12 v13:Int) (k0:Ty7→Option R):Option R:=
 bif (((decide (0≤v12))&&(decide (v12≤v13)))&&(decide (v13≤(v9.length:Int)))) then
  bnd (c2c N ((v9.take v13.toNat).drop v12.toNat)) fun y0=>
  bif y0.isSome then
   bif (((decide (0≤v12))&&(decide (v12≤v13)))&&(decide (v13≤(v11.length:Int)))) then
    bnd (c2c N ((v11.take v13.toNat).drop v12.toNat)) fun y1=>
    bif y1.isSome then
     bif (((decide (0≤v12))&&(decide (v12≤v13)))&&(decide (v13≤(v3.length:Int)))) then
      bnd (c2c N ((v3.take v13.toNat).drop v12.toNat)) fun y2=>
      bif y2.isSome then
       bif (((decide (0≤v12))&&(decide (v12≤v13)))&&(decide (v13≤(v5.length:Int)))) then
        bnd (c2c N ((v5.take v13.toNat).drop v12.toNat)) fun y3=>
        bif y3.isSome then
         bif (((decide (0≤v12))&&(decide (v12≤v13)))&&(decide (v13≤(v7.length:Int)))) then
          bnd (c2c N ((v7.take v13.toNat).drop v12.toNat)) fun y4=>
          bif y4.isSome then
           k0 ((y0.getD default).1,(y1.getD default).1,(y2.getD default).1,(y3.getD default).1,(y4.getD default).1,(y2.getD default).2,(y3.getD default).2,(y4.getD default).2)
          else
           none
         else
          none
        else
         none
       else
        none
      else
       none
     else
      none
    else
     none
   else
    none
  else
   none
 else
  none
def d8s (v3 v5 v7 v9 v11:LD) (v12 v13:Int):Option (Ty7):=d2o N v3 v5 v7 v9 v11 v12 v13 some
def e1J:=(d8r N).f1 (e3H N) ⟨[(0,.g ([.sl 3,.sl 3,.sl 3,.sl 3,.sl 3,.sl 3])),(1,.c (.i .i64)),(2,.c (.i .i64))],[]⟩ (fun L _=>d2o N (ll L 3) (ll L 5) (ll L 7) (ll L 9) (ll L 11) (li L 12) (li L 13)) (fun L p=>let p1:=p.2;let p2:=p1.2;let p3:=p2.2;let p4:=p3.2;let p5:=p4.2;let p6:=p5.2;let p7:=p6.2;([.g [.i .i64 (li L 12),.i .i64 (li L 13),.i .i64 p.1,.i .i64 p1.1,.i .i64 p2.1,.i .i64 p3.1,.i .i64 p4.1,.i .i64 p5.1,.i .i64 p6.1,.i .i64 p7]],[])) fun _ _=>by unfold d2o;exact bb
def d8t (N:Nat):Sg Tryz.prog 0 19:= .start [(13,[1,2,3,6],[3,6],[])] [(0,[0,1,2]),(1,[3,6,1,2]),(2,[8,6,1,2,3]),(3,[8,6]),(4,[1,2,3,6]),(5,[6]),(6,[3,1,2,6])]
def b3q (w0 w1:Int) (w6:LD) (k0:Bool→Option R):Option R:=
 bif (bif (decide (w0<0)) then true else (decide (w0>w1))) then
  k0 true
 else
  bnd (c0s N w6) fun y0=>
  bif y0.isSome then
   k0 (decide (w1>(y0.getD default)))
  else
   none
def b8c (w0 w1:Int) (w6:LD):Option (Bool):=b3q N w0 w1 w6 some
def d8u:=(d8t N).c1 (e1J N) 13 100 [1,2,3,6,27] [3,6] ⟨[(1,.c (.i .i64)),(2,.c (.i .i64)),(3,.c (.p 3 0)),(6,.c (.p 6 0))],[(3,.box (.s::[.i .i64,.i .i64,.sl 69,.sl 95,.sl 9])),(6,.box (rI 10 ([])))]⟩ (fun L _=>b3q N (li L 0) (li L 1) (ll L 6)) (fun s m L p=>(.normal,m [(27,.c (.b p))] [])) fun _ _=>by unfold b3q;exact bb
def d2p (v0:LB) (v1 v2:Int) (v4 v6 v8:LD) (v9 v10:Int) (k0:Ty4→Option R):Option R:=
 bnd (b7T N v0 v1 v2 v4 v6 v8) fun y0=>
 bif y0.isSome then
  bif ((y0.getD default) !=0) then
   k0 (0,0,0,0,0,0,0,0,0,0,(y0.getD default))
  else
   bnd (b8c N v9 v10 v4) fun y1=>
   bif y1.isSome then
    bif (y1.getD default) then
     k0 (0,0,0,0,0,0,0,0,0,0,9)
    else
     bnd (d8m N v0 v1 v2 v4 v6 v8) fun y2=>
     bif y2.isSome then
      bnd (d8s N (y2.getD default).2.1 (y2.getD default).2.2.2.1 (y2.getD default).2.2.2.2.2.1 (y2.getD default).2.2.2.2.2.2.2.1 (y2.getD default).2.2.2.2.2.2.2.2.2 v9 v10) fun y3=>
      bif y3.isSome then
       k0 (v9,v10,(y3.getD default).1,(y3.getD default).2.1,(y3.getD default).2.2.1,(y3.getD default).2.2.2.1,(y3.getD default).2.2.2.2.1,(y3.getD default).2.2.2.2.2.1,(y3.getD default).2.2.2.2.2.2.1,(y3.getD default).2.2.2.2.2.2.2,0)
      else
       none
     else
      none
   else
    none
 else
  none
def c8T (v0:LB) (v1 v2:Int) (v4 v6 v8:LD) (v9 v10:Int):Option (Ty4):=d2p N v0 v1 v2 v4 v6 v8 v9 v10 some
def e1K:=(d8u N).f1 (e1J N) ⟨[(0,.g (.s::[.i .i64,.i .i64,.sl 69,.sl 95,.sl 9])),(1,.c (.i .i64)),(2,.c (.i .i64))],[]⟩ (fun L _=>d2p N (ls L 0) (li L 1) (li L 2) (ll L 4) (ll L 6) (ll L 8) (li L 9) (li L 10)) (fun L p=>let p1:=p.2;let p2:=p1.2;let p3:=p2.2;let p4:=p3.2;let p5:=p4.2;let p6:=p5.2;let p7:=p6.2;let p8:=p7.2;let p9:=p8.2;let p10:=p9.2;([.g [.i .i64 p.1,.i .i64 p1.1,.i .i64 p2.1,.i .i64 p3.1,.i .i64 p4.1,.i .i64 p5.1,.i .i64 p6.1,.i .i64 p7.1,.i .i64 p8.1,.i .i64 p9.1],.c (.i .i64 p10)],[])) fun _ _=>by unfold d2p;exact bb
def e1L (N:Nat):Sg Tryz.prog 0 7:= .start [(18,[6,9,26,27,28],[6,9],[])] [(0,[0,1,2]),(1,[3,1,2,6]),(2,[8,6,3,1,2]),(3,[8,6]),(4,[3,1,2,6]),(5,[3,1,2,9,6]),(6,[28,27,26,9,6]),(7,[26,28,9,27,6]),(8,[11,9,28,27,26,6]),(9,[9,12,28,27,26,6]),(10,[28,27,26,9,6]),(11,[9,6])]
def b5a (w1:LD) (w2:Int) (w3 w8 w9 w10 w11:Int) (kr:Int→Int→Int→Int→Int→Option R) (k0:Int×Int×Int×Int→Option R):Option R:=
 bif (decide (w3<w2)) then
  bif (inB w3 w1.length) then
   bnd (c0s N ((w1.getD w3.toNat (.i 0)).cell 3).items) fun y0=>
   bif y0.isSome then
    bnd (c8T N ((w1.getD w3.toNat (.i 0)).cell 0).toS ((w1.getD w3.toNat (.i 0)).cell 1).toI ((w1.getD w3.toNat (.i 0)).cell 2).toI ((w1.getD w3.toNat (.i 0)).cell 3).items ((w1.getD w3.toNat (.i 0)).cell 4).items ((w1.getD w3.toNat (.i 0)).cell 5).items 0 (y0.getD default)) fun y1=>
    bif y1.isSome then
     kr (IntKind.wrap .i64 (w3+1)) (IntKind.wrap .i64 (w8+1)) (IntKind.wrap .i64 (w9+(y1.getD default).2.2.1)) (IntKind.wrap .i64 (w10+(y1.getD default).2.2.2.1)) (IntKind.wrap .i64 (w11+(y1.getD default).2.1))
    else
     none
   else
    none
  else
   none
 else
  k0 (w8,w9,w10,w11)
def b01 (N:Nat) {R:Type} (w1:LD) (w2:Int):Nat→Int→Int→Int→Int→Int→(Int×Int×Int×Int→Option R)→Option R
 |0,_,_,_,_,_,_=>none
 |m+1,w3,w8,w9,w10,w11,k0=>b5a N w1 w2 w3 w8 w9 w10 w11 (fun w3 w8 w9 w10 w11=>b01 N w1 w2 m w3 w8 w9 w10 w11 k0) k0
def c8U (w1:LD) (w2:Int) (w3 w8 w9 w10 w11:Int):Option (Int×Int×Int×Int):=b01 N (R:=(Int×Int×Int×Int)) w1 w2 N w3 w8 w9 w10 w11 some
def e1M:=(e1L N).l1 (e1K N) 18 [3,8,9,10,11] [6,7,9] [6,9] ⟨[(6,.c (.p 6 0)),(9,.c (.p 9 0)),(26,.c (.sl 51)),(27,.c (.i .i64)),(28,.c (.i .i64))],[(6,.box ([.i .i64,.i .i64,.i .i64,.i .i64])),(9,.box ([.i .i64,.i .i64,.i .i64,.i .i64]))]⟩ N (fun L x _ kr=>b5a N (ll L 1) (li L 2) (li x 0) (li x 1) (li x 2) (li x 3) (li x 4) (fun w3 w8 w9 w10 w11=>kr [.i w3,.i w8,.i w9,.i w10,.i w11])) (fun L m x=>b01 N (ll L 1) (li L 2) m (li x 0) (li x 1) (li x 2) (li x 3) (li x 4) some) (fun s m L p=>((.exit 0),mg s [6,9] [] [6,9] [(9,.box [.i .i64 p.1,.i .i64 p.2.1,.i .i64 p.2.2.1,.i .i64 p.2.2.2])])) fun _ _ _ _ _=>by unfold b5a;exact bb
def e2S (v1:LD) (v2:Int) (v4:LD) (k0:e2O→Option R):Option R:=
 bnd (c17 N v1 v2 true v4) fun y0=>
 bif y0.isSome then
  bif ((y0.getD default) !=0) then
   k0 (0,0,0,0,(y0.getD default))
  else
   bnd (c8J N v1 v2 v4) fun y1=>
   bif y1.isSome then
    bnd (c8U N (y1.getD default).2 ((y1.getD default).2.length:Int) 0 0 0 0 0) fun y2=>
    bif y2.isSome then
     k0 ((y2.getD default).1,(y2.getD default).2.1,(y2.getD default).2.2.1,(y2.getD default).2.2.2,0)
    else
     none
   else
    none
 else
  none
def e3I (v1:LD) (v2:Int) (v4:LD):Option (e2O):=e2S N v1 v2 v4 some
def e4z:=(e1M N).f1 (e1K N) ⟨[(0,.g ([.sl 67])),(1,.c (.i .i64)),(2,.c (.sl 51))],[]⟩ (fun L _=>e2S N (ll L 1) (li L 2) (ll L 4)) (fun L p=>([.g [.i .i64 p.1,.i .i64 p.2.1,.i .i64 p.2.2.1,.i .i64 p.2.2.2.1],.c (.i .i64 p.2.2.2.2)],[])) fun _ _=>by unfold e2S;exact bb
def d8v (N:Nat):Sg Tryz.prog 0 47:= .start [] [(0,[0,1,2]),(1,[0,1,2])]
def d2q (N:Nat) (v0 v1 v2:Int) (k0:Bool→R):R:=
 k0 (bif (decide (v0≥v1)) then (decide (v0≤v2)) else false)
def c2d (v0 v1 v2:Int):Bool:=d2q N v0 v1 v2 (fun p=>p)
def e1N:=(d8v N).f0 (e4z N) ⟨[(0,.c (.i .i64)),(1,.c (.i .i64)),(2,.c (.i .i64))],[]⟩ (fun L _=>d2q N (li L 0) (li L 1) (li L 2)) (fun L p=>([.c (.b p)],[])) fun _ _=>by unfold d2q;exact kk
def d8w (N:Nat):Sg Tryz.prog 0 44:= .start [(12,[8,9,10],[],[])] [(0,[0]),(1,[0]),(2,[]),(3,[0]),(4,[10,9,8]),(5,[8,10,9]),(6,[4,10,9,8]),(7,[]),(8,[10,9,8]),(9,[])]
def a7R (w1:LD) (w2:Int) (w3:Int) (kr:Int→Option R) (k0:Unit→Option R) (k1:Unit→Option R):Option R:=
 bif (decide (w3<w2)) then
  bif (inB w3 w1.length) then
   bnd (c2d N (w1.getD w3.toNat (.i 0)).toI (-1) 1000000000) fun y0=>
   bif (!y0) then
    k0 ()
   else
    kr (IntKind.wrap .i64 (w3+1))
  else
   none
 else
  k1 ()
def b3r (N:Nat) {R:Type} (w1:LD) (w2:Int):Nat→Int→(Unit→Option R)→(Unit→Option R)→Option R
 |0,_,_,_=>none
 |m+1,w3,k0,k1=>a7R N w1 w2 w3 (fun w3=>b3r N w1 w2 m w3 k0 k1) k0 k1
def b8d (w1:LD) (w2:Int) (w3:Int):Option (Sum (Unit) (Unit)):=b3r N (R:=(Sum (Unit) (Unit))) w1 w2 N w3 (fun p=>some (.inl p)) (fun p=>some (.inr p))
def d8x:=(d8w N).l2 (e1N N) 12 [3] [2] [] ⟨[(8,.c (.sl 3)),(9,.c (.i .i64)),(10,.c (.i .i64))],[]⟩ N (fun L x _ kr=>a7R N (ll L 1) (li L 2) (li x 0) (fun w3=>kr [.i w3])) (fun L m x=>b3r N (ll L 1) (li L 2) m (li x 0) (fun p=>some (.inl p)) (fun p=>some (.inr p))) (fun s m L _=>(.ret,⟨[(2,.c (.i .i64 9))],[]⟩)) (fun s m L _=>((.exit 0),⟨[],[]⟩)) fun _ _ _ _ _ _=>by unfold a7R;exact bb
def d2r (v1:LD) (k0:Int→Option R):Option R:=
 bif (decide ((v1.length:Int)>1000000)) then
  k0 3
 else
  bnd (b8d N v1 (v1.length:Int) 0) fun y0=>
  bif (a1x y0) then
   k0 9
  else
   bif (a0w y0).isSome then
    k0 0
   else
    none
def d8y (v1:LD):Option (Int):=d2r N v1 some
def e1O:=(d8x N).f1 (e1N N) ⟨[(0,.c (.sl 3))],[]⟩ (fun L _=>d2r N (ll L 1)) (fun L p=>([.c (.i .i64 p)],[])) fun _ _=>by unfold d2r;exact bb
def d8z (N:Nat):Sg Tryz.prog 0 78:= .start [(6,[0,1,2,9,10,11],[],[])] [(0,[0,1,2]),(1,[0,1,2]),(2,[11,10,9,1,2,0]),(3,[11,9,1,2,0,10]),(4,[8,1,2,7,0,11,10,9]),(5,[]),(6,[7,8,0,11,10,9,1,2]),(7,[]),(8,[11,10,9,1,2,0]),(9,[])]
def b02 (w1:LD) (w2 w3:Int) (w5:LD) (w6:Int) (w7:Int) (kr:Int→Option R) (k0:Int→Option R) (k1:Unit→Option R):Option R:=
 bif (decide (w7<w6)) then
  bif (inB w7 w5.length) then
   bnd (c2d N (w5.getD w7.toNat (.i 0)).toI w2 w3) fun y0=>
   bif (!y0) then
    k0 9
   else
    bif (bif (inB (IntKind.wrap .i64 (w7-1)) w1.length) then true else (!((decide (w7>0))==true))) then
     bnd (bif (decide (w7>0)) then (decide ((w5.getD w7.toNat (.i 0)).toI≤(w1.getD (IntKind.wrap .i64 (w7-1)).toNat (.i 0)).toI)) else false) fun y1=>
     bif y1 then
      k0 10
     else
      kr (IntKind.wrap .i64 (w7+1))
    else
     none
  else
   none
 else
  k1 ()
def b8e (N:Nat) {R:Type} (w1:LD) (w2 w3:Int) (w5:LD) (w6:Int):Nat→Int→(Int→Option R)→(Unit→Option R)→Option R
 |0,_,_,_=>none
 |m+1,w7,k0,k1=>b02 N w1 w2 w3 w5 w6 w7 (fun w7=>b8e N w1 w2 w3 w5 w6 m w7 k0 k1) k0 k1
def c2e (w1:LD) (w2 w3:Int) (w5:LD) (w6:Int) (w7:Int):Option (Sum (Int) (Unit)):=b8e N (R:=(Sum (Int) (Unit))) w1 w2 w3 w5 w6 N w7 (fun p=>some (.inl p)) (fun p=>some (.inr p))
def d8A:=(d8z N).l2 (e1O N) 6 [7] [6] [] ⟨[(0,.c (.sl 3)),(1,.c (.i .i64)),(2,.c (.i .i64)),(9,.c (.sl 3)),(10,.c (.i .i64)),(11,.c (.i .i64))],[]⟩ N (fun L x _ kr=>b02 N (ll L 1) (li L 2) (li L 3) (ll L 5) (li L 6) (li x 0) (fun w7=>kr [.i w7])) (fun L m x=>b8e N (ll L 1) (li L 2) (li L 3) (ll L 5) (li L 6) m (li x 0) (fun p=>some (.inl p)) (fun p=>some (.inr p))) (fun s m L p=>(.ret,⟨[(6,.c (.i .i64 p))],[]⟩)) (fun s m L _=>((.exit 0),⟨[],[]⟩)) fun _ _ _ _ _ _=>by unfold b02;exact bb
def d2s (v1:LD) (v2 v3:Int) (k0:Int→Option R):Option R:=
 bnd (c2e N v1 v2 v3 v1 (v1.length:Int) 0) fun y0=>
 bif (a1x y0) then
  k0 (a2t y0)
 else
  bif (a0w y0).isSome then
   k0 0
  else
   none
def e1P (v1:LD) (v2 v3:Int):Option (Int):=d2s N v1 v2 v3 some
def e3J:=(d8A N).f1 (e1O N) ⟨[(0,.c (.sl 3)),(1,.c (.i .i64)),(2,.c (.i .i64))],[]⟩ (fun L _=>d2s N (ll L 1) (li L 2) (li L 3)) (fun L p=>([.c (.i .i64 p)],[])) fun _ _=>by unfold d2s;exact bb
def d8B (N:Nat):Sg Tryz.prog 0 45:= .start [] [(0,[0]),(1,[0]),(3,[0]),(4,[]),(2,[]),(5,[0])]
def d2t (v1:LD) (k0:Int→Option R):Option R:=
 bif ((v1.length:Int)==0) then
  k0 13
 else
  bif (decide ((v1.length:Int)>100)) then
   k0 3
  else
   bnd (e1P N v1 1 1000000) fun y0=>
   bif y0.isSome then
    k0 (y0.getD default)
   else
    none
def d2u (v1:LD):Option (Int):=d2t N v1 some
def e1Q:=(d8B N).f1 (e3J N) ⟨[(0,.c (.sl 3))],[]⟩ (fun L _=>d2t N (ll L 1)) (fun L p=>([.c (.i .i64 p)],[])) fun _ _=>by unfold d2t;exact bb
def d8C (N:Nat):Sg Tryz.prog 0 43:= .start [(9,[3,6,7,8],[],[])] [(0,[0]),(1,[0]),(2,[0,3]),(3,[8,7,6,3]),(4,[6,8,3,7]),(5,[5,3,8,7,6]),(6,[5]),(7,[8,7,6,3]),(8,[3])]
def b8f (N:Nat) (w0:Int) (w2:LD) (w3:Int) (w4:Int) (kr:Int→Option R) (k0:Int→Option R) (k1:Unit→Option R):Option R:=
 bif (decide (w4<w3)) then
  bif (inB w4 w2.length) then
   bif ((w2.getD w4.toNat (.i 0)).toI !=w0) then
    k0 (w2.getD w4.toNat (.i 0)).toI
   else
    kr (IntKind.wrap .i64 (w4+1))
  else
   none
 else
  k1 ()
def b8g (N:Nat) {R:Type} (w0:Int) (w2:LD) (w3:Int):Nat→Int→(Int→Option R)→(Unit→Option R)→Option R
 |0,_,_,_=>none
 |m+1,w4,k0,k1=>b8f N w0 w2 w3 w4 (fun w4=>b8g N w0 w2 w3 m w4 k0 k1) k0 k1
def c8V (w0:Int) (w2:LD) (w3:Int) (w4:Int):Option (Sum (Int) (Unit)):=b8g N (R:=(Sum (Int) (Unit))) w0 w2 w3 N w4 (fun p=>some (.inl p)) (fun p=>some (.inr p))
def d8D:=(d8C N).l2 (e1Q N) 9 [4] [2,3] [] ⟨[(3,.c (.i .i64)),(6,.c (.sl 27)),(7,.c (.i .i64)),(8,.c (.i .i64))],[]⟩ N (fun L x _ kr=>b8f N (li L 0) (ll L 2) (li L 3) (li x 0) (fun w4=>kr [.i w4])) (fun L m x=>b8g N (li L 0) (ll L 2) (li L 3) m (li x 0) (fun p=>some (.inl p)) (fun p=>some (.inr p))) (fun s m L p=>(.ret,⟨[(2,.c (.i .i64 p))],[]⟩)) (fun s m L _=>((.exit 0),mg s [3] [] [] [])) fun _ _ _ _ _ _=>by unfold b8f;exact bb
def d2v (v1:LD) (k0:Int→Option R):Option R:=
 bnd (c8V N 0 v1 (v1.length:Int) 0) fun y0=>
 bif (a1x y0) then
  k0 (a2t y0)
 else
  bif (a0w y0).isSome then
   k0 0
  else
   none
def d2w (v1:LD):Option (Int):=d2v N v1 some
def e1R:=(d8D N).f1 (e1Q N) ⟨[(0,.c (.sl 27))],[]⟩ (fun L _=>d2v N (ll L 1)) (fun L p=>([.c (.i .i64 p)],[])) fun _ _=>by unfold d2v;exact bb
def d8E (N:Nat):Sg Tryz.prog 1 80:= .start [(5,[0,1,2,13],[0],[])] [(0,[2,1,0]),(1,[1,0,2])]
def b8h (N:Nat) (w0 w1:Int) (w2:Bool) (w4 w5:Int) (w6:Bool) (k0:Int×Int×Bool→R):R:=
 bif w2 then
  k0 (w1,w0,true)
 else
  k0 (w4,w5,w6)
def c8W (w0 w1:Int) (w2:Bool) (w4 w5:Int) (w6:Bool):Int×Int×Bool:=b8h N w0 w1 w2 w4 w5 w6 (fun p=>p)
def d8F:=(d8E N).c0 (e1R N) 5 100 [] [0] ⟨[(0,.c (.i .i64)),(1,.c (.i .i64)),(2,.c (.p 0 0)),(13,.c (.b))],[(0,.box ([.i .i64,.i .i64,.i .i64,.b]))]⟩ (fun L _=>b8h N (li L 0) (li L 1) (lb L 2) (li L 4) (li L 5) (lb L 6)) (fun s m L p=>(.normal,⟨[],[(0,.box [.i .i64 (li L 3),.i .i64 p.1,.i .i64 p.2.1,.b p.2.2])]⟩)) fun _ _=>by unfold b8h;exact kk
def d2x (v0 v1 v3 v4:Int) (v5:Bool) (k0:Int×Int×Bool→R):R:=
 bnd (c8W N v0 v1 (bif (!v5) then true else (decide (v1>v3))) v3 v4 v5) fun y0=>
 k0 y0
def e1S (v0 v1 v3 v4:Int) (v5:Bool):Int×Int×Bool:=d2x N v0 v1 v3 v4 v5 (fun p=>p)
def c6k:=(d8F N).f0 (e1R N) ⟨[(0,.c (.i .i64)),(1,.c (.i .i64)),(2,.c (.p 0 0))],[(0,.box ([.i .i64,.i .i64,.i .i64,.b]))]⟩ (fun L _=>d2x N (li L 0) (li L 1) (li L 3) (li L 4) (lb L 5)) (fun L p=>([],[(0,.box [.i .i64 (li L 2),.i .i64 p.1,.i .i64 p.2.1,.b p.2.2])])) fun _ _=>by unfold d2x;exact kk
def d8G (N:Nat):Sg Tryz.prog 1 79:= .start [(6,[0,1,2,6,7,10,11,12],[0],[]),(20,[0,1,2,6,7,8,10,11,12,22],[0],[]),(32,[0,1,2,6,7,8,10,11,12,43],[0],[]),(26,[0,1,2,6,7,8,10,11,12,27],[0],[]),(38,[0,1,2,6,7,8,10,11,12,53],[0],[])] [(0,[0,1,2]),(1,[0,6,7,1,2]),(2,[12,11,10,6,7,1,0,2]),(3,[12,10,6,7,1,0,2,11]),(4,[6,9,7,8,1,0,2,12,11,10]),(5,[9,7,8,1,6,0,2,12,11,10]),(6,[7,8,1,6,0,2,12,11,10]),(7,[8,1,6,0,7,2,12,11,10]),(8,[6,0,8,1,7,2,12,11,10]),(9,[0,8,1,7,2,6,12,11,10]),(10,[7,8,1,2,6,12,11,10,0]),(11,[8,1,7,2,6,12,11,10,0]),(12,[2,8,1,6,12,11,10,7,0]),(13,[12,11,10,6,7,1,0,2])]
def b3s (N:Nat) (w4:Int) (w10:Bool) (k0:Int→R):R:=
 bif w10 then
  k0 (IntKind.wrap .i64 (w4+1))
 else
  k0 w4
def b8i (w4:Int) (w10:Bool):Int:=b3s N w4 w10 (fun p=>p)
def d8H:=(d8G N).c0 (c6k N) 20 100 [0,1,2,6,7,8,10,11,12] [0] ⟨[(0,.c (.sl 3)),(1,.c (.i .i64)),(2,.c (.f 80 [(0,0)])),(6,.c (.i .i64)),(7,.c (.i .i64)),(8,.c (.i .i64)),(10,.c (.sl 3)),(11,.c (.i .i64)),(12,.c (.i .i64)),(22,.c (.b))],[(0,.box ([.i .i64,.i .i64,.i .i64,.b]))]⟩ (fun L _=>b3s N (li L 4) (lb L 10)) (fun s m L p=>(.normal,m [(7,.c (.i .i64 p))] [])) fun _ _=>by unfold b3s;exact kk
def b3t (N:Nat) (w4:Int) (w10:Bool) (k0:Int→R):R:=
 bif w10 then
  k0 (IntKind.wrap .i64 (w4-1))
 else
  k0 w4
def b8j (w4:Int) (w10:Bool):Int:=b3t N w4 w10 (fun p=>p)
def d8I:=(d8H N).c0 (c6k N) 32 100 [0,1,2,6,7,8,10,11,12] [0] ⟨[(0,.c (.sl 3)),(1,.c (.i .i64)),(2,.c (.f 80 [(0,0)])),(6,.c (.i .i64)),(7,.c (.i .i64)),(8,.c (.i .i64)),(10,.c (.sl 3)),(11,.c (.i .i64)),(12,.c (.i .i64)),(43,.c (.b))],[(0,.box ([.i .i64,.i .i64,.i .i64,.b]))]⟩ (fun L _=>b3t N (li L 4) (lb L 10)) (fun s m L p=>(.normal,m [(7,.c (.i .i64 p))] [])) fun _ _=>by unfold b3t;exact kk
def b3u (w1:LD) (w2 w3 w4 w5:Int) (w10:Bool) (k0:Int×Int→Option R):Option R:=
 bif w10 then
  bif (inB (IntKind.wrap .i64 (w5-w2)) w1.length) then
   bnd (max2 (w1.getD (IntKind.wrap .i64 (w5-w2)).toNat (.i 0)).toI 0) fun y0=>
   bif (inB (IntKind.wrap .i64 (w5-w2)) w1.length) then
    bnd (decide ((w1.getD (IntKind.wrap .i64 (w5-w2)).toNat (.i 0)).toI<0)) fun y1=>
    bnd (b8j N w4 y1) fun y2=>
    k0 ((IntKind.wrap .i64 (w3-y0)),y2)
   else
    none
  else
   none
 else
  k0 (w3,w4)
def b8k (w1:LD) (w2 w3 w4 w5:Int) (w10:Bool):Option (Int×Int):=b3u N w1 w2 w3 w4 w5 w10 some
def d8J:=(d8I N).c1 (c6k N) 26 100 [0,1,2,6,7,8,10,11,12] [0] ⟨[(0,.c (.sl 3)),(1,.c (.i .i64)),(2,.c (.f 80 [(0,0)])),(6,.c (.i .i64)),(7,.c (.i .i64)),(8,.c (.i .i64)),(10,.c (.sl 3)),(11,.c (.i .i64)),(12,.c (.i .i64)),(27,.c (.b))],[(0,.box ([.i .i64,.i .i64,.i .i64,.b]))]⟩ (fun L _=>b3u N (ll L 1) (li L 2) (li L 3) (li L 4) (li L 5) (lb L 10)) (fun s m L p=>(.normal,m [(6,.c (.i .i64 p.1)),(7,.c (.i .i64 p.2))] [])) fun _ _=>by unfold b3u;exact bb
def b3v (w2 w3 w5:Int) (w10:Bool) (w12 w13:Int) (w14:Bool) (k0:Int×Int×Bool→R):R:=
 bif w10 then
  bnd (e1S N (IntKind.wrap .i64 ((IntKind.wrap .i64 (w5-w2))+1)) w3 w12 w13 w14) fun y0=>
  k0 y0
 else
  k0 (w12,w13,w14)
def b8l (w2 w3 w5:Int) (w10:Bool) (w12 w13:Int) (w14:Bool):Int×Int×Bool:=b3v N w2 w3 w5 w10 w12 w13 w14 (fun p=>p)
def d8K:=(d8J N).c0 (c6k N) 38 100 [0,1,2,6,7,10,11,12] [0] ⟨[(0,.c (.sl 3)),(1,.c (.i .i64)),(2,.c (.f 80 [(0,0)])),(6,.c (.i .i64)),(7,.c (.i .i64)),(8,.c (.i .i64)),(10,.c (.sl 3)),(11,.c (.i .i64)),(12,.c (.i .i64)),(53,.c (.b))],[(0,.box ([.i .i64,.i .i64,.i .i64,.b]))]⟩ (fun L _=>b3v N (li L 2) (li L 3) (li L 5) (lb L 10) (li L 12) (li L 13) (lb L 14)) (fun s m L p=>(.normal,m [] [(0,.box [.i .i64 (li L 11),.i .i64 p.1,.i .i64 p.2.1,.b p.2.2])])) fun _ _=>by unfold b3v;exact kk
def b5b (w1:LD) (w2:Int) (w6:LD) (w7:Int) (w3 w4 w8 w10 w11:Int) (w12:Bool) (kr:Int→Int→Int→Int→Int→Bool→Option R) (k0:Int×Int×Bool→Option R):Option R:=
 bif (decide (w8<w7)) then
  bif (inB w8 w6.length) then
   bnd (IntKind.wrap .i64 (w3+(max2 (w6.getD w8.toNat (.i 0)).toI 0))) fun y0=>
   bnd (b8i N w4 (decide ((w6.getD w8.toNat (.i 0)).toI<0))) fun y1=>
   bnd (b8k N w1 w2 y0 y1 w8 (decide (w8≥w2))) fun y2=>
   bif y2.isSome then
    bnd (bif (decide (w8≥(IntKind.wrap .i64 (w2-1)))) then ((y2.getD default).2==0) else false) fun y3=>
    bnd (b8l N w2 (y2.getD default).1 w8 y3 w10 w11 w12) fun y4=>
    kr (y2.getD default).1 (y2.getD default).2 (IntKind.wrap .i64 (w8+1)) y4.1 y4.2.1 y4.2.2
   else
    none
  else
   none
 else
  k0 (w10,w11,w12)
def b03 (N:Nat) {R:Type} (w1:LD) (w2:Int) (w6:LD) (w7:Int):Nat→Int→Int→Int→Int→Int→Bool→(Int×Int×Bool→Option R)→Option R
 |0,_,_,_,_,_,_,_=>none
 |m+1,w3,w4,w8,w10,w11,w12,k0=>b5b N w1 w2 w6 w7 w3 w4 w8 w10 w11 w12 (fun w3 w4 w8 w10 w11 w12=>b03 N w1 w2 w6 w7 m w3 w4 w8 w10 w11 w12 k0) k0
def c8X (w1:LD) (w2:Int) (w6:LD) (w7:Int) (w3 w4 w8 w10 w11:Int) (w12:Bool):Option (Int×Int×Bool):=b03 N (R:=(Int×Int×Bool)) w1 w2 w6 w7 N w3 w4 w8 w10 w11 w12 some
def d8L:=(d8K N).l1 (c6k N) 6 [3,4,8,10,11,12] [] [0] ⟨[(0,.c (.sl 3)),(1,.c (.i .i64)),(2,.c (.f 80 [(0,0)])),(6,.c (.i .i64)),(7,.c (.i .i64)),(10,.c (.sl 3)),(11,.c (.i .i64)),(12,.c (.i .i64))],[(0,.box ([.i .i64,.i .i64,.i .i64,.b]))]⟩ N (fun L x _ kr=>b5b N (ll L 1) (li L 2) (ll L 6) (li L 7) (li x 0) (li x 1) (li x 2) (li x 3) (li x 4) (lb x 5) (fun w3 w4 w8 w10 w11 w12=>kr [.i w3,.i w4,.i w8,.i w10,.i w11,.b w12])) (fun L m x=>b03 N (ll L 1) (li L 2) (ll L 6) (li L 7) m (li x 0) (li x 1) (li x 2) (li x 3) (li x 4) (lb x 5) some) (fun s m L p=>((.exit 0),⟨[],[(0,.box [.i .i64 (li L 9),.i .i64 p.1,.i .i64 p.2.1,.b p.2.2])]⟩)) fun _ _ _ _ _=>by unfold b5b;exact bb
def d2y (v1:LD) (v2 v4 v5:Int) (k0:Int×Int×Bool→Option R):Option R:=
 bnd (c8X N v1 v2 v1 (v1.length:Int) 0 0 0 v4 v5 false) fun y0=>
 bif y0.isSome then
  k0 (y0.getD default)
 else
  none
def e1T (v1:LD) (v2 v4 v5:Int):Option (Int×Int×Bool):=d2y N v1 v2 v4 v5 some
def e3K:=(d8L N).f1 (c6k N) ⟨[(0,.c (.sl 3)),(1,.c (.i .i64)),(2,.c (.f 80 [(0,0)]))],[(0,.box ([.i .i64,.i .i64,.i .i64,.k false]))]⟩ (fun L _=>d2y N (ll L 1) (li L 2) (li L 4) (li L 5)) (fun L p=>([],[(0,.box [.i .i64 (li L 3),.i .i64 p.1,.i .i64 p.2.1,.b p.2.2])])) fun _ _=>by unfold d2y;exact bb
def d8M (N:Nat):Sg Tryz.prog 0 46:= .start [] [(0,[1,0]),(1,[1,0,4]),(2,[0,1,5,4]),(3,[5,4])]
def d2z (v1:LD) (v2:Int) (k0:Int×Int×Bool→Option R):Option R:=
 bnd (e1T N v1 v2 0 0) fun y0=>
 bif y0.isSome then
  k0 (y0.getD default)
 else
  none
def d8N (v1:LD) (v2:Int):Option (Int×Int×Bool):=d2z N v1 v2 some
def e1U:=(d8M N).f1 (e3K N) ⟨[(0,.c (.sl 3)),(1,.c (.i .i64))],[]⟩ (fun L _=>d2z N (ll L 1) (li L 2)) (fun L p=>([.g [.i .i64 (li L 2),.i .i64 p.1,.i .i64 p.2.1,.b p.2.2]],[])) fun _ _=>by unfold d2z;exact bb
def d8O (N:Nat):Sg Tryz.prog 0 22:= .start [(18,[0,7,19,20,21],[7],[7])] [(0,[0,1]),(1,[0,1]),(2,[6,1,0]),(3,[6]),(4,[1,0]),(5,[1,7,0]),(6,[21,20,19,7,0]),(7,[19,21,7,0,20]),(8,[7,0,9,21,20,19]),(9,[21,20,19,7,0]),(10,[7])]
def a98 (w1 w3:LD) (w4:Int) (w5:Int) (w6:Bool) (w7:LD) (kr:Int→Bool→LD→Option R) (k0:Bool×LD→Option R):Option R:=
 bif (decide (w5<w4)) then
  bif (inB w5 w3.length) then
   bnd (d8N N w1 (w3.getD w5.toNat (.i 0)).toI) fun y0=>
   bif y0.isSome then
    bif (decide ((w7.length+1)*32≤a1K)&&decide ((w7.length+1)≤a0g)) then
     bnd ((w7++[(.a [(.i (w3.getD w5.toNat (.i 0)).toI),(.i (y0.getD default).1),(.i (y0.getD default).2.1),(.b (y0.getD default).2.2)])]):List D) fun y1=>
     kr (IntKind.wrap .i64 (w5+1)) false y1
    else
     none
   else
    none
  else
   none
 else
  k0 (w6,w7)
def a7S (N:Nat) {R:Type} (w1 w3:LD) (w4:Int):Nat→Int→Bool→LD→(Bool×LD→Option R)→Option R
 |0,_,_,_,_=>none
 |m+1,w5,w6,w7,k0=>a98 N w1 w3 w4 w5 w6 w7 (fun w5 w6 w7=>a7S N w1 w3 w4 m w5 w6 w7 k0) k0
def c4K (w1 w3:LD) (w4:Int) (w5:Int) (w6:Bool) (w7:LD):Option (Bool×LD):=a7S N (R:=(Bool×LD)) w1 w3 w4 N w5 w6 w7 some
def d8P:=(d8O N).l1 (e1U N) 18 [5,6,7] [4,5,7] [7] ⟨[(0,.c (.sl 3)),(7,.c (.o 7)),(19,.c (.sl 3)),(20,.c (.i .i64)),(21,.c (.i .i64))],[(7,.row 40 true)]⟩ N (fun L x _ kr=>a98 N (ll L 1) (ll L 3) (li L 4) (li x 0) (lb x 1) (ll x 2) (fun w5 w6 w7=>kr [.i w5,.b w6,.l w7])) (fun L m x=>a7S N (ll L 1) (ll L 3) (li L 4) m (li x 0) (lb x 1) (ll x 2) some) (fun s m L p=>((.exit 0),⟨[(7,.c (.o 7))],[(7,.row 40 true p.1 p.2)]⟩)) fun _ _ _ _ _=>by unfold a98;exact bb
def d2A (v1 v3:LD) (k0:Bool×LD×Int→Option R):Option R:=
 bnd (d8y N v1) fun y0=>
 bif y0.isSome then
  bnd (d2u N v3) fun y1=>
  bif y1.isSome then
   bnd (d2w N [(.i (y0.getD default)),(.i (y1.getD default))]) fun y2=>
   bif y2.isSome then
    bif ((y2.getD default) !=0) then
     k0 (true,[],(y2.getD default))
    else
     bnd (c4K N v1 v3 (v3.length:Int) 0 true []) fun y3=>
     bif y3.isSome then
      k0 ((y3.getD default).1,(y3.getD default).2,0)
     else
      none
   else
    none
  else
   none
 else
  none
def d2B (v1 v3:LD):Option (Bool×LD×Int):=d2A N v1 v3 some
def e3L:=(d8P N).f1 (e1U N) ⟨[(0,.c (.sl 3)),(1,.c (.sl 3))],[]⟩ (fun L _=>d2A N (ll L 1) (ll L 3)) (fun L p=>([.c (.sl 40 p.1 p.2.1),.c (.i .i64 p.2.2)],[])) fun _ _=>by unfold d2A;exact bb
def d8Q (N:Nat):Sg Tryz.prog 0 23:= .start [] [(0,[0,1]),(1,[2,1]),(2,[6,1,2]),(3,[6]),(4,[1,2]),(5,[]),(6,[2,1])]
def d2C (v0:LB) (v1 v2:Int) (v4 v6 v8:LD) (v9:Int) (k0:Bool×LD×Int→Option R):Option R:=
 bnd (c1Z N v0 v1 v2 v4 v6 v8) fun y0=>
 bif y0.isSome then
  bif ((y0.getD default) !=0) then
   k0 (true,[],(y0.getD default))
  else
   bnd (c2d N v9 1 5) fun y1=>
   bif (!y1) then
    k0 (true,[],7)
   else
    bnd (c0D N v4 v9) fun y2=>
    bif y2.isSome then
     k0 ((y2.getD default).1,(y2.getD default).2,0)
    else
     none
 else
  none
def d2D (v0:LB) (v1 v2:Int) (v4 v6 v8:LD) (v9:Int):Option (Bool×LD×Int):=d2C N v0 v1 v2 v4 v6 v8 v9 some
def e1V:=(d8Q N).f1 (e3L N) ⟨[(0,.g (.s::[.i .i64,.i .i64,.sl 69,.sl 95,.sl 9])),(1,.c (.i .i64))],[]⟩ (fun L _=>d2C N (ls L 0) (li L 1) (li L 2) (ll L 4) (ll L 6) (ll L 8) (li L 9)) (fun L p=>([.c (.sl 3 p.1 p.2.1),.c (.i .i64 p.2.2)],[])) fun _ _=>by unfold d2C;exact bb
def d8R (N:Nat):Sg Tryz.prog 0 51:= .start [(9,[3,6,7,8],[3],[3])] [(0,[0]),(1,[0]),(2,[0,3]),(3,[8,7,6,3]),(4,[6,8,3,7]),(5,[3,5,8,7,6]),(6,[8,7,6,3]),(7,[3])] true
def b5c (N:Nat) (w1:LD) (w2:Int) (w3:Int) (w4:Bool) (w5:LD) (kr:Int→Bool→LD→Option R) (k0:Bool×LD→Option R):Option R:=
 bif (decide (w3<w2)) then
  bif (inB w3 w1.length) then
   bif (decide ((w5.length+1)*8≤a1K)&&decide ((w5.length+1)≤a0g)) then
    kr (IntKind.wrap .i64 (w3+1)) false (w5++[(.i ((w1.getD w3.toNat (.i 0)).cell 0).toI)])
   else
    none
  else
   none
 else
  k0 (w4,w5)
def b04 (N:Nat) {R:Type} (w1:LD) (w2:Int):Nat→Int→Bool→LD→(Bool×LD→Option R)→Option R
 |0,_,_,_,_=>none
 |m+1,w3,w4,w5,k0=>b5c N w1 w2 w3 w4 w5 (fun w3 w4 w5=>b04 N w1 w2 m w3 w4 w5 k0) k0
def c8Y (w1:LD) (w2:Int) (w3:Int) (w4:Bool) (w5:LD):Option (Bool×LD):=b04 N (R:=(Bool×LD)) w1 w2 N w3 w4 w5 some
def d8S:=(d8R N).l1 (e1V N) 9 [3,4,5] [2,3] [3] ⟨[(3,.c (.o 3)),(6,.c (.sl 40)),(7,.c (.i .i64)),(8,.c (.i .i64))],[(3,.row 3 true)]⟩ N (fun L x _ kr=>b5c N (ll L 1) (li L 2) (li x 0) (lb x 1) (ll x 2) (fun w3 w4 w5=>kr [.i w3,.b w4,.l w5])) (fun L m x=>b04 N (ll L 1) (li L 2) m (li x 0) (lb x 1) (ll x 2) some) (fun s m L p=>((.exit 0),⟨[(3,.c (.o 3))],[(3,.row 3 true p.1 p.2)]⟩)) fun _ _ _ _ _=>by unfold b5c;exact bb
def d2E (v1:LD) (k0:Bool×LD→Option R):Option R:=
 bnd (c8Y N v1 (v1.length:Int) 0 true []) fun y0=>
 bif y0.isSome then
  k0 (y0.getD default)
 else
  none
def c8Z (v1:LD):Option (Bool×LD):=d2E N v1 some
def d8T:=(d8S N).f1 (e1V N) ⟨[(0,.c (.sl 40))],[]⟩ (fun L _=>d2E N (ll L 1)) (fun L p=>([.c (.o 3)],[(3,.row 3 true p.1 p.2)])) fun _ _=>by unfold d2E;exact bb
def d8U (N:Nat):Sg Tryz.prog 0 49:= .start [(15,[12,13,14],[],[]),(28,[5,12,13,14],[5],[])] [(0,[0]),(1,[0]),(2,[3,0]),(3,[3]),(4,[0]),(5,[14,13,12]),(6,[12,14,13]),(7,[5,14,13,12]),(9,[5,14,13,12]),(10,[]),(8,[]),(11,[14,13,12]),(12,[])]
def b3w (w4 w5 w6:Int) (w7:Bool) (k0:Bool→R):R:=
 bif w7 then
  bnd (c2d N w5 0 (IntKind.wrap .i64 (w4*1000000000))) fun y0=>
  bif (!y0) then
   k0 true
  else
   bnd (c2d N w6 0 (IntKind.wrap .i64 (1000000-w4))) fun y1=>
   k0 (!y1)
 else
  k0 false
def c4L (w4 w5 w6:Int) (w7:Bool):Bool:=b3w N w4 w5 w6 w7 (fun p=>p)
def d8V:=(d8U N).c0 (d8T N) 28 100 [12,13,14,32] [] ⟨[(5,.c (.p 5 0)),(12,.c (.sl 40)),(13,.c (.i .i64)),(14,.c (.i .i64))],[(5,.box ([.i .i64,.i .i64,.i .i64,.b]))]⟩ (fun L _=>b3w N (li L 4) (li L 5) (li L 6) (lb L 7)) (fun s m L p=>(.normal,m [(32,.c (.b p))] [])) fun _ _=>by unfold b3w;exact kk
def a7T (w1:LD) (w2:Int) (w3:Int) (kr:Int→Option R) (k0:Int→Option R) (k1:Unit→Option R):Option R:=
 bif (decide (w3<w2)) then
  bif (inB w3 w1.length) then
   bnd (bif (!((w1.getD w3.toNat (.i 0)).cell 3).toB) then (bif (((w1.getD w3.toNat (.i 0)).cell 1).toI !=0) then true else (((w1.getD w3.toNat (.i 0)).cell 2).toI !=0)) else false) fun y0=>
   bif y0 then
    k0 2
   else
    bnd (c4L N ((w1.getD w3.toNat (.i 0)).cell 0).toI ((w1.getD w3.toNat (.i 0)).cell 1).toI ((w1.getD w3.toNat (.i 0)).cell 2).toI ((w1.getD w3.toNat (.i 0)).cell 3).toB) fun y1=>
    bif y1 then
     k0 9
    else
     kr (IntKind.wrap .i64 (w3+1))
  else
   none
 else
  k1 ()
def b3x (N:Nat) {R:Type} (w1:LD) (w2:Int):Nat→Int→(Int→Option R)→(Unit→Option R)→Option R
 |0,_,_,_=>none
 |m+1,w3,k0,k1=>a7T N w1 w2 w3 (fun w3=>b3x N w1 w2 m w3 k0 k1) k0 k1
def b8m (w1:LD) (w2:Int) (w3:Int):Option (Sum (Int) (Unit)):=b3x N (R:=(Sum (Int) (Unit))) w1 w2 N w3 (fun p=>some (.inl p)) (fun p=>some (.inr p))
def d8W:=(d8V N).l2 (d8T N) 15 [3] [2] [] ⟨[(12,.c (.sl 40)),(13,.c (.i .i64)),(14,.c (.i .i64))],[]⟩ N (fun L x _ kr=>a7T N (ll L 1) (li L 2) (li x 0) (fun w3=>kr [.i w3])) (fun L m x=>b3x N (ll L 1) (li L 2) m (li x 0) (fun p=>some (.inl p)) (fun p=>some (.inr p))) (fun s m L p=>(.ret,⟨[(2,.c (.i .i64 p))],[]⟩)) (fun s m L _=>((.exit 0),⟨[],[]⟩)) fun _ _ _ _ _ _=>by unfold a7T;exact bb
def d2F (v1:LD) (k0:Int→Option R):Option R:=
 bnd (c8Z N v1) fun y0=>
 bif y0.isSome then
  bnd (d2u N (y0.getD default).2) fun y1=>
  bif y1.isSome then
   bif ((y1.getD default) !=0) then
    k0 (y1.getD default)
   else
    bnd (b8m N v1 (v1.length:Int) 0) fun y2=>
    bif (a1x y2) then
     k0 (a2t y2)
    else
     bif (a0w y2).isSome then
      k0 0
     else
      none
  else
   none
 else
  none
def d2G (v1:LD):Option (Int):=d2F N v1 some
def e3M:=(d8W N).f1 (d8T N) ⟨[(0,.c (.sl 40))],[]⟩ (fun L _=>d2F N (ll L 1)) (fun L p=>([.c (.i .i64 p)],[])) fun _ _=>by unfold d2F;exact bb
def e3N (N:Nat) (L:List Lf):List (Bool×Res):=b7k L
theorem e1W:c7N Tryz.prog 83 c0h (e3N N):=c6e
def e3O:Oc Tryz.prog:=(e3M N).x (e1W N)
def e3P (N:Nat) (L:List Lf):List (Bool×Res):=a8V L
theorem e1X:c7N Tryz.prog 84 b1N (e3P N):=b7l
def d8X:Oc Tryz.prog:=(e3O N).x (e1X N)
def c80 (N:Nat):Sg Tryz.prog 1 50:= .start [] [(0,[0,1]),(1,[0,1]),(2,[0])] true
def c6l (N:Nat) (v0:Bool) (v1:LD) (k0:LD→Option R):Option R:=
 bif (a7j v1) then
  bif (!v0) then
   k0 (a2H (a7i v1))
  else
   none
 else
  none
def c81 (v0:Bool) (v1:LD):Option (LD):=c6l N v0 v1 some
theorem d2H (v0:Bool) (v1:LD) (k0:LD→Option R):c6l N v0 v1 k0=(c81 N v0 v1).bind k0:=by
 unfold c81 c6l
 repeat' (first|with_reducible apply a6P|(with_reducible apply b4G;intro _)|rfl)
def d4y:Sh:={tmps:=[(0,.c (.o 0)),(1,.c (.f 52 []))],mem:=[(0,.row 3 true)]}
def c82 (L:List Lf) (p:LD):Res:=([.c (.o 10000000002)],[(10000000002,.row 3 true false p)])
def e3Q (L:List Lf):List (Bool×Res):=bnd (c6l N (lb L 0) (ll L 1) some) fun q=>[(q.isSome,c82 L (q.getD default))]
theorem d8Y (L:List Lf):bd Tryz.prog (d8X N).o (c80 N).h 50 d4y L=c6l N (lb L 0) (ll L 1) (fun p=>some (c82 L p)):=(e3f 1 rfl).trans (by kernel_rfl)
def e1Y (L:List Lf):List (Bool×Res):=e2L 10000000002 999 ((e3Q N) L)
theorem e1Z:c7N Tryz.prog 50 d4y (e1Y N):=
 (c80 N).fnR 10000000002 999 rfl rfl a8w (d8X N).ok fun L x hx=>((d8Y N L).trans ((d2H N ..).trans (b95 x hx)))
def e3R:Oc Tryz.prog:=(d8X N).x (e1Z N)
def d8Z (N:Nat):Sg Tryz.prog 0 85:= .start [] [(0,[0]),(1,[0])]
def d80 (N:Nat) (v0:Int) (k0:Bool→R):R:=
 k0 (v0 !=v0)
def d81 (v0:Int):Bool:=d80 N v0 (fun p=>p)
def e3S:=(d8Z N).f0 (e3R N) ⟨[(0,.c (.i .i64))],[]⟩ (fun L _=>d80 N (li L 0)) (fun L p=>([.c (.b p)],[])) fun _ _=>by unfold d80;exact kk
def d82 (N:Nat):Sg Tryz.prog 0 52:= .start [] [(0,[0,1]),(1,[0,1]),(2,[1,5,0]),(3,[5,6,0,1]),(4,[6]),(5,[]),(6,[]),(7,[6,0,1]),(8,[]),(9,[0,1]),(10,[]),(11,[0,1]),(12,[]),(13,[])]
def d2I (v0 v1:Int) (k0:Int→R):R:=
 bnd (d81 N v0) fun y0=>
 bnd (d81 N v1) fun y1=>
 bif y0 then
  bif y1 then
   k0 0
  else
   k0 (-1)
 else
  bif y1 then
   k0 1
  else
   bif (decide (v0<v1)) then
    k0 (-1)
   else
    bif (decide (v0>v1)) then
     k0 1
    else
     k0 0
def e10 (v0 v1:Int):Int:=d2I N v0 v1 (fun p=>p)
def e3T:=(d82 N).f0 (e3S N) ⟨[(0,.c (.i .i64)),(1,.c (.i .i64))],[]⟩ (fun L _=>d2I N (li L 0) (li L 1)) (fun L p=>([.c (.i .i64 p)],[])) fun _ _=>by unfold d2I;exact kk
def d83 (N:Nat):Sg Tryz.prog 0 87:= .start [] [(0,[0,1]),(1,[2,1])]
def d2J (v0 v4:Int) (k0:Int→R):R:=
 bnd (e10 N v0 v4) fun y0=>
 k0 y0
def d2K (v0 v4:Int):Int:=d2J N v0 v4 (fun p=>p)
def d2L:=(d83 N).f0 (e3T N) ⟨[(0,.g ([.i .i64,.i .i64,.i .i64,.b])),(1,.c (.i .i64))],[]⟩ (fun L _=>d2J N (li L 0) (li L 4)) (fun L p=>([.c (.i .i64 p)],[])) fun _ _=>by unfold d2J;exact kk
def d84 (N:Nat):Sg Tryz.prog 0 86:= .start [(9,[0,1,2,8,9,10],[],[]),(21020,[0,1,2,8,9,10,11,31],[],[]),(25,[0,1,2,8,9],[],[])] [(0,[0,2,1]),(1,[0,2,1]),(2,[8,2,0,1]),(3,[9,10,2,0,1,8]),(4,[9,10,2,0,1,8]),(5,[2,0,11,1,10,8,9]),(7,[11,9,2,0,1,8]),(6,[11,10,2,0,1,8]),(8,[9,8,2,0,1])]
def a57 (N:Nat) (w4 w5 w6:Int) (w7:Bool) (k0:Int×Int→R):R:=
 bif w7 then
  k0 ((IntKind.wrap .i64 (w6+1)),w5)
 else
  k0 (w4,w6)
def b5d (w4 w5 w6:Int) (w7:Bool):Int×Int:=a57 N w4 w5 w6 w7 (fun p=>p)
def d85:=(d84 N).c0 (d2L N) 21020 100 [0,1,2,8,9,10] [] ⟨[(0,.c (.sl 40)),(1,.c (.i .i64)),(2,.c (.f 87 [])),(8,.c (.i .i64)),(9,.c (.i .i64)),(10,.c (.i .i64)),(11,.c (.i .i64)),(31,.c (.b))],[]⟩ (fun L _=>a57 N (li L 4) (li L 5) (li L 6) (lb L 7)) (fun s m L p=>(.normal,m [(9,.c (.i .i64 p.1)),(10,.c (.i .i64 p.2))] [])) fun _ _=>by unfold a57;exact kk
def b05 (w1:LD) (w2:Int) (w4 w5:Int) (kr:Int→Int→Option R) (k0:Int→Option R):Option R:=
 bif (decide (w4<w5)) then
  bnd ((IntKind.wrap .u64 (IntKind.wrap .i64 (w4+w5))).fdiv (2^1)) fun y0=>
  bif (inB (IntKind.wrap .i64 y0) w1.length) then
   bnd ((w1.getD (IntKind.wrap .i64 y0).toNat (.i 0)).cell 0).toI fun y1=>
   bnd ((w1.getD (IntKind.wrap .i64 y0).toNat (.i 0)).cell 1).toI fun y2=>
   bnd ((w1.getD (IntKind.wrap .i64 y0).toNat (.i 0)).cell 2).toI fun y3=>
   bnd ((w1.getD (IntKind.wrap .i64 y0).toNat (.i 0)).cell 3).toB fun y4=>
   bnd (d2K N y1 w2) fun y5=>
   bnd (b5d N w4 w5 (IntKind.wrap .i64 y0) (decide (y5<0))) fun y6=>
   kr y6.1 y6.2
  else
   none
 else
  k0 w4
def a81 (N:Nat) {R:Type} (w1:LD) (w2:Int):Nat→Int→Int→(Int→Option R)→Option R
 |0,_,_,_=>none
 |m+1,w4,w5,k0=>b05 N w1 w2 w4 w5 (fun w4 w5=>a81 N w1 w2 m w4 w5 k0) k0
def c83 (w1:LD) (w2:Int) (w4 w5:Int):Option (Int):=a81 N (R:=(Int)) w1 w2 N w4 w5 some
def d86:=(d85 N).l1 (d2L N) 9 [4,5] [0,1,2,6,7,8,9] [] ⟨[(0,.c (.sl 40)),(1,.c (.i .i64)),(2,.c (.f 87 [])),(8,.c (.i .i64)),(9,.c (.i .i64)),(10,.c (.i .i64))],[]⟩ N (fun L x _ kr=>b05 N (ll L 1) (li L 2) (li x 0) (li x 1) (fun w4 w5=>kr [.i w4,.i w5])) (fun L m x=>a81 N (ll L 1) (li L 2) m (li x 0) (li x 1) some) (fun s m L p=>((.exit 0),mg s [0,1,2,8,9] [(9,.c (.i .i64 p))] [] [])) fun _ _ _ _ _=>by unfold b05;exact bb
def b3y (w1:LD) (w2 w3 w4:Int) (k0:Bool→Option R):Option R:=
 bif (bif (inB w4 w1.length) then true else (!((decide (w4<w3))==true))) then
  bif (decide (w4<w3)) then
   bnd (d2K N ((w1.getD w4.toNat (.i 0)).cell 0).toI w2) fun y0=>
   k0 (y0==0)
  else
   k0 false
 else
  none
def b8n (w1:LD) (w2 w3 w4:Int):Option (Bool):=b3y N w1 w2 w3 w4 some
def d87:=(d86 N).c1 (d2L N) 25 100 [6,7] [] ⟨[(0,.c (.sl 40)),(1,.c (.i .i64)),(2,.c (.f 87 [])),(8,.c (.i .i64)),(9,.c (.i .i64))],[]⟩ (fun L _=>b3y N (ll L 1) (li L 2) (li L 3) (li L 4)) (fun s m L p=>(.normal,⟨[(6,.c (.i .i64 (li L 4))),(7,.c (.b p))],[]⟩)) fun _ _=>by unfold b3y;exact bb
def d2M (v1:LD) (v2:Int) (k0:Int×Bool→Option R):Option R:=
 bnd (c83 N v1 v2 0 (v1.length:Int)) fun y0=>
 bif y0.isSome then
  bnd (b8n N v1 v2 (v1.length:Int) (y0.getD default)) fun y1=>
  bif y1.isSome then
   k0 ((y0.getD default),(y1.getD default))
  else
   none
 else
  none
def e11 (v1:LD) (v2:Int):Option (Int×Bool):=d2M N v1 v2 some
def e3U:=(d87 N).f1 (d2L N) ⟨[(0,.c (.sl 40)),(1,.c (.i .i64)),(2,.c (.f 87 []))],[]⟩ (fun L _=>d2M N (ll L 1) (li L 2)) (fun L p=>([.c (.i .i64 p.1),.c (.b p.2)],[])) fun _ _=>by unfold d2M;exact bb
def d88 (N:Nat):Sg Tryz.prog 0 53:= .start [] [(0,[0,1]),(1,[0,1,4]),(2,[7,4,0,6]),(3,[4]),(4,[0,6,4])]
def d2N (v1:LD) (v2:Int) (k0:Int×Int×Int×Bool×Bool→Option R):Option R:=
 bnd (e11 N v1 v2) fun y0=>
 bif y0.isSome then
  bif (!(y0.getD default).2) then
   k0 (0,0,0,false,false)
  else
   bif (inB (y0.getD default).1 v1.length) then
    bnd ((v1.getD (y0.getD default).1.toNat (.i 0)).cell 0).toI fun y1=>
    bnd ((v1.getD (y0.getD default).1.toNat (.i 0)).cell 1).toI fun y2=>
    bnd ((v1.getD (y0.getD default).1.toNat (.i 0)).cell 2).toI fun y3=>
    bnd ((v1.getD (y0.getD default).1.toNat (.i 0)).cell 3).toB fun y4=>
    k0 (y1,y2,y3,y4,true)
   else
    none
 else
  none
def d2O (v1:LD) (v2:Int):Option (Int×Int×Int×Bool×Bool):=d2N N v1 v2 some
def e3V:=(d88 N).f1 (e3U N) ⟨[(0,.c (.sl 40)),(1,.c (.i .i64))],[]⟩ (fun L _=>d2N N (ll L 1) (li L 2)) (fun L p=>([.g [.i .i64 p.1,.i .i64 p.2.1,.i .i64 p.2.2.1,.b p.2.2.2.1],.c (.b p.2.2.2.2)],[])) fun _ _=>by unfold d2N;exact bb
def d89 (N:Nat):Sg Tryz.prog 0 54:= .start [] [(0,[0,1]),(1,[2,3])]
def d9a (N:Nat) (v1:Int) (v3:Bool) (v5:Int) (v7:Bool) (k0:Bool→R):R:=
 bnd (bif v3 then (bif (!v7) then true else (decide (v1>v5))) else false) fun y0=>
 k0 y0
def e3W (v1:Int) (v3:Bool) (v5:Int) (v7:Bool):Bool:=d9a N v1 v3 v5 v7 (fun p=>p)
def d2P:=(d89 N).f0 (e3V N) ⟨[(0,.g ([.i .i64,.i .i64,.i .i64,.b])),(1,.g ([.i .i64,.i .i64,.i .i64,.b]))],[]⟩ (fun L _=>d9a N (li L 1) (lb L 3) (li L 5) (lb L 7)) (fun L p=>([.c (.b p)],[])) fun _ _=>by unfold d9a;exact kk
def d9b (N:Nat):Sg Tryz.prog 0 24:= .start [(18,[0,1,7,28,29,30],[7,29000000999],[7]),(31,[0,1,7,10,11,12,13,28,29,30],[7,10,12,29000000999],[]),(35,[0,1,7,10,12,28,29,30,55],[7,10,12,29000000999],[])] [(0,[0,1]),(1,[0,1]),(2,[6,0,1]),(3,[6]),(4,[0,1]),(5,[0,1,7]),(6,[30,29,28,0,1,7]),(7,[28,30,0,1,7,29]),(8,[0,9,1,7,30,29,28]),(9,[1,9,11,10,7,30,29,28,0]),(10,[11,13,12,10,7,30,29,28,0,1]),(11,[12,10,7,30,29,28,0,1]),(12,[7,10,30,29,28,0,1]),(13,[30,29,28,0,1,7]),(14,[7]),(15,[]),(16,[7])]
def b8o (w4 w5:Bool) (w11:Int) (w13:Bool) (w15:Int) (w17:Bool) (k0:Bool→R):R:=
 bif (!w4) then
  k0 true
 else
  bif w5 then
   bnd (e3W N w15 w17 w11 w13) fun y0=>
   k0 y0
  else
   k0 false
def a7U (w4 w5:Bool) (w11:Int) (w13:Bool) (w15:Int) (w17:Bool):Bool:=b8o N w4 w5 w11 w13 w15 w17 (fun p=>p)
def d9c:=(d9b N).c0 (d2P N) 31 100 [0,1,7,10,12,28,29,30,55] [7,10,12,29000000999] ⟨[(0,.c (.sl 40)),(1,.c (.sl 40)),(7,.c (.o 7)),(10,.c (.p 10 0)),(11,.c (.b)),(12,.c (.p 12 0)),(13,.c (.b)),(28,.c (.o 29000000999)),(29,.c (.i .i64)),(30,.c (.i .i64))],[(7,.row 40 true),(10,.box ([.i .i64,.i .i64,.i .i64,.b])),(12,.box ([.i .i64,.i .i64,.i .i64,.b])),(29000000999,.row 3 true)]⟩ (fun L _=>b8o N (lb L 4) (lb L 5) (li L 11) (lb L 13) (li L 15) (lb L 17)) (fun s m L p=>(.normal,m [(55,.c (.b p))] [])) fun _ _=>by unfold b8o;exact kk
def b3z (N:Nat) (w6:Bool) (w9 w10 w11:Int) (w12:Bool) (w13 w14 w15:Int) (w16:Bool) (k0:Int×Int×Int×Bool→R):R:=
 bif w6 then
  k0 (w13,w14,w15,w16)
 else
  k0 (w9,w10,w11,w12)
def a7V (w6:Bool) (w9 w10 w11:Int) (w12:Bool) (w13 w14 w15:Int) (w16:Bool):Int×Int×Int×Bool:=b3z N w6 w9 w10 w11 w12 w13 w14 w15 w16 (fun p=>p)
def d9d:=(d9c N).c0 (d2P N) 35 100 [0,1,7,10,28,29,30] [7,10,29000000999] ⟨[(0,.c (.sl 40)),(1,.c (.sl 40)),(7,.c (.o 7)),(10,.c (.p 10 0)),(12,.c (.p 12 0)),(28,.c (.o 29000000999)),(29,.c (.i .i64)),(30,.c (.i .i64)),(55,.c (.b))],[(7,.row 40 true),(10,.box ([.i .i64,.i .i64,.i .i64,.b])),(12,.box ([.i .i64,.i .i64,.i .i64,.b])),(29000000999,.row 3 true)]⟩ (fun L _=>b3z N (lb L 6) (li L 9) (li L 10) (li L 11) (lb L 12) (li L 13) (li L 14) (li L 15) (lb L 16)) (fun s m L p=>(.normal,m [] [(10,.box [.i .i64 p.1,.i .i64 p.2.1,.i .i64 p.2.2.1,.b p.2.2.2])])) fun _ _=>by unfold b3z;exact kk
def a99 (w1 w3:LD) (w4:Int) (w9:LD) (w5:Int) (w6:Bool) (w7:LD) (kr:Int→Bool→LD→Option R) (k0:Bool×LD→Option R):Option R:=
 bif (decide (w5<w4)) then
  bif (inB w5 w9.length) then
   bif (decide (w5.toNat<w9.length)) then
    bnd (d2O N w1 (w9.getD w5.toNat (.i 0)).toI) fun y0=>
    bif y0.isSome then
     bnd (d2O N w3 (w9.getD w5.toNat (.i 0)).toI) fun y1=>
     bif y1.isSome then
      bnd (a7U N (y0.getD default).2.2.2.2 (y1.getD default).2.2.2.2 (y0.getD default).2.1 (y0.getD default).2.2.2.1 (y1.getD default).2.1 (y1.getD default).2.2.2.1) fun y2=>
      bnd (a7V N y2 (y0.getD default).1 (y0.getD default).2.1 (y0.getD default).2.2.1 (y0.getD default).2.2.2.1 (y1.getD default).1 (y1.getD default).2.1 (y1.getD default).2.2.1 (y1.getD default).2.2.2.1) fun y3=>
      bif (decide ((w7.length+1)*32≤a1K)&&decide ((w7.length+1)≤a0g)) then
       bnd ((w7++[(.a [(.i y3.1),(.i y3.2.1),(.i y3.2.2.1),(.b y3.2.2.2)])]):List D) fun y4=>
       kr (IntKind.wrap .i64 (w5+1)) false y4
      else
       none
     else
      none
    else
     none
   else
    none
  else
   none
 else
  k0 (w6,w7)
def a7W (N:Nat) {R:Type} (w1 w3:LD) (w4:Int) (w9:LD):Nat→Int→Bool→LD→(Bool×LD→Option R)→Option R
 |0,_,_,_,_=>none
 |m+1,w5,w6,w7,k0=>a99 N w1 w3 w4 w9 w5 w6 w7 (fun w5 w6 w7=>a7W N w1 w3 w4 w9 m w5 w6 w7 k0) k0
def c4M (w1 w3:LD) (w4:Int) (w9:LD) (w5:Int) (w6:Bool) (w7:LD):Option (Bool×LD):=a7W N (R:=(Bool×LD)) w1 w3 w4 w9 N w5 w6 w7 some
def d9e:=(d9d N).l1 (d2P N) 18 [5,6,7] [4,5,7] [7] ⟨[(0,.c (.sl 40)),(1,.c (.sl 40)),(7,.c (.o 7)),(28,.c (.o 29000000999)),(29,.c (.i .i64)),(30,.c (.i .i64))],[(7,.row 40 true),(29000000999,.row 3 true)]⟩ N (fun L x _ kr=>a99 N (ll L 1) (ll L 3) (li L 4) (ll L 9) (li x 0) (lb x 1) (ll x 2) (fun w5 w6 w7=>kr [.i w5,.b w6,.l w7])) (fun L m x=>a7W N (ll L 1) (ll L 3) (li L 4) (ll L 9) m (li x 0) (lb x 1) (ll x 2) some) (fun s m L p=>((.exit 0),⟨[(7,.c (.o 7))],[(7,.row 40 true p.1 p.2)]⟩)) fun _ _ _ _ _=>by unfold a99;exact bb
def c6m (v1 v3:LD) (k0:Bool×LD×Int→Option R):Option R:=
 bnd (d2G N v1) fun y0=>
 bif y0.isSome then
  bnd (d2G N v3) fun y1=>
  bif y1.isSome then
   bnd (d2w N [(.i (y0.getD default)),(.i (y1.getD default))]) fun y2=>
   bif y2.isSome then
    bif ((y2.getD default) !=0) then
     k0 (true,[],(y2.getD default))
    else
     bnd (c8Z N v1) fun y3=>
     bif y3.isSome then
      bnd (c8Z N v3) fun y4=>
      bif y4.isSome then
       bif (decide (((y3.getD default).2.length+(y4.getD default).2.length)*8≤a1K)&&decide (((y3.getD default).2.length+(y4.getD default).2.length)≤a0g)) then
        bnd ((y4.getD default).2.isEmpty&&(y3.getD default).1) fun y5=>
        bnd (c81 N y5 ((y3.getD default).2++(y4.getD default).2)) fun y6=>
        bif y6.isSome then
         bnd (c4M N v1 v3 ((y6.getD default).length:Int) (y6.getD default) 0 true []) fun y7=>
         bif y7.isSome then
          bif (decide (((y7.getD default).2.length:Int)>100)) then
           k0 (true,[],3)
          else
           k0 ((y7.getD default).1,(y7.getD default).2,0)
         else
          none
        else
         none
       else
        none
      else
       none
     else
      none
   else
    none
  else
   none
 else
  none
def c6n (v1 v3:LD):Option (Bool×LD×Int):=c6m N v1 v3 some
def e16:=(d9e N).f1 (d2P N) ⟨[(0,.c (.sl 40)),(1,.c (.sl 40))],[]⟩ (fun L _=>c6m N (ll L 1) (ll L 3)) (fun L p=>([.c (.sl 40 p.1 p.2.1),.c (.i .i64 p.2.2)],[])) fun _ _=>by unfold c6m;exact bb
def e17 (N:Nat):Sg Tryz.prog 0 8:= .start [(30,[3,4,14,44,45,46],[],[])] [(0,[0,1,2,3,4]),(1,[5,1,2,3,4]),(2,[13,3,4,12]),(4,[3,4,12]),(5,[]),(3,[13]),(6,[4,12,3]),(7,[13,12,3,4,14]),(8,[13]),(9,[12,3,4,14]),(10,[46,45,44,3,4,14]),(11,[44,46,3,4,14,45]),(12,[16,3,4,14,46,45,44]),(13,[17,4,14,46,45,44,3]),(14,[14,19,46,45,44,3,4]),(15,[46,45,44,3,4,14]),(16,[14])]
def b5e (w0:Int) (w2 w6:LD) (w7:Int) (w3:Bool) (w4:LD) (w8:Int) (kr:Bool→LD→Int→Option R) (k0:Bool×LD→Option R):Option R:=
 bif (decide (w8<w7)) then
  bif (inB w8 w6.length) then
   bnd (d2D N ((w6.getD w8.toNat (.i 0)).cell 0).toS ((w6.getD w8.toNat (.i 0)).cell 1).toI ((w6.getD w8.toNat (.i 0)).cell 2).toI ((w6.getD w8.toNat (.i 0)).cell 3).items ((w6.getD w8.toNat (.i 0)).cell 4).items ((w6.getD w8.toNat (.i 0)).cell 5).items w0) fun y0=>
   bif y0.isSome then
    bnd (d2B N (y0.getD default).2.1 w2) fun y1=>
    bif y1.isSome then
     bnd (c6n N w4 (y1.getD default).2.1) fun y2=>
     bif y2.isSome then
      kr (y2.getD default).1 (y2.getD default).2.1 (IntKind.wrap .i64 (w8+1))
     else
      none
    else
     none
   else
    none
  else
   none
 else
  k0 (w3,w4)
def b06 (N:Nat) {R:Type} (w0:Int) (w2 w6:LD) (w7:Int):Nat→Bool→LD→Int→(Bool×LD→Option R)→Option R
 |0,_,_,_,_=>none
 |m+1,w3,w4,w8,k0=>b5e N w0 w2 w6 w7 w3 w4 w8 (fun w3 w4 w8=>b06 N w0 w2 w6 w7 m w3 w4 w8 k0) k0
def c84 (w0:Int) (w2 w6:LD) (w7:Int) (w3:Bool) (w4:LD) (w8:Int):Option (Bool×LD):=b06 N (R:=(Bool×LD)) w0 w2 w6 w7 N w3 w4 w8 some
def e18:=(e17 N).l1 (e16 N) 30 [3,4,8] [10,11,14] [] ⟨[(3,.c (.i .i64)),(4,.c (.sl 3)),(14,.c (.sl 40)),(44,.c (.sl 51)),(45,.c (.i .i64)),(46,.c (.i .i64))],[]⟩ N (fun L x _ kr=>b5e N (li L 0) (ll L 2) (ll L 6) (li L 7) (lb x 0) (ll x 1) (li x 2) (fun w3 w4 w8=>kr [.b w3,.l w4,.i w8])) (fun L m x=>b06 N (li L 0) (ll L 2) (ll L 6) (li L 7) m (lb x 0) (ll x 1) (li x 2) some) (fun s m L p=>((.exit 1),⟨[(14,.c (.sl 40 p.1 p.2))],[]⟩)) fun _ _ _ _ _=>by unfold b5e;exact bb
def e2T (v1:LD) (v2:Int) (v4:LD) (v5:Int) (v7:LD) (k0:Bool×LD×Int→Option R):Option R:=
 bnd (e1u N v1 v2 v4) fun y0=>
 bif y0.isSome then
  bif ((y0.getD default).2.2 !=0) then
   k0 (true,[],(y0.getD default).2.2)
  else
   bnd (b2b N v5 1 5) fun y1=>
   bif (!y1) then
    k0 (true,[],7)
   else
    bnd (d2B N [] v7) fun y2=>
    bif y2.isSome then
     bif ((y2.getD default).2.2 !=0) then
      k0 (true,[],(y2.getD default).2.2)
     else
      bnd (c84 N v5 v7 (y0.getD default).2.1 ((y0.getD default).2.1.length:Int) (y2.getD default).1 (y2.getD default).2.1 0) fun y3=>
      bif y3.isSome then
       k0 ((y3.getD default).1,(y3.getD default).2,0)
      else
       none
    else
     none
 else
  none
def e3X (v1:LD) (v2:Int) (v4:LD) (v5:Int) (v7:LD):Option (Bool×LD×Int):=e2T N v1 v2 v4 v5 v7 some
def e4j:=(e18 N).f1 (e16 N) ⟨[(0,.g ([.sl 67])),(1,.c (.i .i64)),(2,.c (.sl 51)),(3,.c (.i .i64)),(4,.c (.sl 3))],[]⟩ (fun L _=>e2T N (ll L 1) (li L 2) (ll L 4) (li L 5) (ll L 7)) (fun L p=>([.c (.sl 40 p.1 p.2.1),.c (.i .i64 p.2.2)],[])) fun _ _=>by unfold e2T;exact bb
def d9f (N:Nat):Sg Tryz.prog 0 26:= .start [(18,[0,11,12,13],[],[])] [(0,[0]),(1,[0]),(2,[]),(3,[0]),(4,[]),(5,[0]),(6,[13,12,11,0]),(7,[13,11,0,12]),(8,[4,3,0,13,12,11]),(9,[]),(10,[3,4,0,13,12,11]),(11,[]),(12,[13,12,11,0]),(13,[])]
def a7X (N:Nat) (w1 w3:LD) (w4:Int) (w5:Int) (kr:Int→Option R) (k0:Int→Option R) (k1:Unit→Option R):Option R:=
 bif (decide (w5<w4)) then
  bif (inB w5 w3.length) then
   bnd (bif (decide ((w3.getD w5.toNat (.i 0)).toI<1)) then true else (decide ((w3.getD w5.toNat (.i 0)).toI>1000000))) fun y0=>
   bif y0 then
    k0 9
   else
    bif (bif (inB (IntKind.wrap .i64 (w5-1)) w1.length) then true else (!((decide (w5>0))==true))) then
     bnd (bif (decide (w5>0)) then (decide ((w3.getD w5.toNat (.i 0)).toI≤(w1.getD (IntKind.wrap .i64 (w5-1)).toNat (.i 0)).toI)) else false) fun y1=>
     bif y1 then
      k0 10
     else
      kr (IntKind.wrap .i64 (w5+1))
    else
     none
  else
   none
 else
  k1 ()
def b3A (N:Nat) {R:Type} (w1 w3:LD) (w4:Int):Nat→Int→(Int→Option R)→(Unit→Option R)→Option R
 |0,_,_,_=>none
 |m+1,w5,k0,k1=>a7X N w1 w3 w4 w5 (fun w5=>b3A N w1 w3 w4 m w5 k0 k1) k0 k1
def b8p (w1 w3:LD) (w4:Int) (w5:Int):Option (Sum (Int) (Unit)):=b3A N (R:=(Sum (Int) (Unit))) w1 w3 w4 N w5 (fun p=>some (.inl p)) (fun p=>some (.inr p))
def d9g:=(d9f N).l2 (e4j N) 18 [5] [2] [] ⟨[(0,.c (.sl 3)),(11,.c (.sl 3)),(12,.c (.i .i64)),(13,.c (.i .i64))],[]⟩ N (fun L x _ kr=>a7X N (ll L 1) (ll L 3) (li L 4) (li x 0) (fun w5=>kr [.i w5])) (fun L m x=>b3A N (ll L 1) (ll L 3) (li L 4) m (li x 0) (fun p=>some (.inl p)) (fun p=>some (.inr p))) (fun s m L p=>(.ret,⟨[(2,.c (.i .i64 p))],[]⟩)) (fun s m L _=>((.exit 0),⟨[],[]⟩)) fun _ _ _ _ _ _=>by unfold a7X;exact bb
def d2Q (v1:LD) (k0:Int→Option R):Option R:=
 bif ((v1.length:Int)==0) then
  k0 13
 else
  bif (decide ((v1.length:Int)>100)) then
   k0 3
  else
   bnd (b8p N v1 v1 (v1.length:Int) 0) fun y0=>
   bif (a1x y0) then
    k0 (a2t y0)
   else
    bif (a0w y0).isSome then
     k0 0
    else
     none
def c85 (v1:LD):Option (Int):=d2Q N v1 some
def e19:=(d9g N).f1 (e4j N) ⟨[(0,.c (.sl 3))],[]⟩ (fun L _=>d2Q N (ll L 1)) (fun L p=>([.c (.i .i64 p)],[])) fun _ _=>by unfold d2Q;exact bb
def d9h (N:Nat):Sg Tryz.prog 0 56:= .start [(12,[8,9,10],[],[])] [(0,[0]),(1,[0]),(2,[]),(3,[0]),(4,[10,9,8]),(5,[8,10,9]),(6,[4,10,9,8]),(7,[]),(8,[10,9,8]),(9,[])]
def a7Y (N:Nat) (w1:LD) (w2:Int) (w3:Int) (kr:Int→Option R) (k0:Unit→Option R) (k1:Unit→Option R):Option R:=
 bif (decide (w3<w2)) then
  bif (inB w3 w1.length) then
   bnd (bif (decide ((w1.getD w3.toNat (.i 0)).toI<(-1))) then true else (decide ((w1.getD w3.toNat (.i 0)).toI>1000000000))) fun y0=>
   bif y0 then
    k0 ()
   else
    kr (IntKind.wrap .i64 (w3+1))
  else
   none
 else
  k1 ()
def b3B (N:Nat) {R:Type} (w1:LD) (w2:Int):Nat→Int→(Unit→Option R)→(Unit→Option R)→Option R
 |0,_,_,_=>none
 |m+1,w3,k0,k1=>a7Y N w1 w2 w3 (fun w3=>b3B N w1 w2 m w3 k0 k1) k0 k1
def b8q (w1:LD) (w2:Int) (w3:Int):Option (Sum (Unit) (Unit)):=b3B N (R:=(Sum (Unit) (Unit))) w1 w2 N w3 (fun p=>some (.inl p)) (fun p=>some (.inr p))
def d9i:=(d9h N).l2 (e19 N) 12 [3] [2] [] ⟨[(8,.c (.sl 3)),(9,.c (.i .i64)),(10,.c (.i .i64))],[]⟩ N (fun L x _ kr=>a7Y N (ll L 1) (li L 2) (li x 0) (fun w3=>kr [.i w3])) (fun L m x=>b3B N (ll L 1) (li L 2) m (li x 0) (fun p=>some (.inl p)) (fun p=>some (.inr p))) (fun s m L _=>(.ret,⟨[(2,.c (.i .i64 9))],[]⟩)) (fun s m L _=>((.exit 0),⟨[],[]⟩)) fun _ _ _ _ _ _=>by unfold a7Y;exact bb
def d2R (v1:LD) (k0:Int→Option R):Option R:=
 bif (decide ((v1.length:Int)>1000000)) then
  k0 3
 else
  bnd (b8q N v1 (v1.length:Int) 0) fun y0=>
  bif (a1x y0) then
   k0 9
  else
   bif (a0w y0).isSome then
    k0 0
   else
    none
def d9j (v1:LD):Option (Int):=d2R N v1 some
def d9k:=(d9i N).f1 (e19 N) ⟨[(0,.c (.sl 3))],[]⟩ (fun L _=>d2R N (ll L 1)) (fun L p=>([.c (.i .i64 p)],[])) fun _ _=>by unfold d2R;exact bb
def d9l (N:Nat):Sg Tryz.prog 0 90:= .start [(12,[2,3,4,5,11,12,13],[2,3,8,9,50003000,50003001],[50003000,50003001]),(24023,[2,3,4,5,7,11,12,13,18],[2,3,50003000,50003001],[])] [(0,[0]),(1,[0,2]),(2,[0,3,2]),(3,[0,5,3,4,2]),(4,[13,12,11,5,3,4,2]),(5,[11,13,5,3,4,12,2]),(6,[7,5,3,4,13,12,11,2]),(8,[4,7,3,5,13,12,11,2]),(7,[5,3,4,13,12,11,2]),(9,[3,4,5,13,12,11,2]),(10,[13,12,11,5,3,4,2]),(11,[3,2])]
def a58 (N:Nat) (w0 w1 w2:Int) (w7:Bool) (k0:Int×Int→R):R:=
 bif w7 then
  k0 (w0,(IntKind.wrap .i64 (w1+1)))
 else
  k0 ((IntKind.wrap .i64 (w0+w2)),w1)
def a82 (w0 w1 w2:Int) (w7:Bool):Int×Int:=a58 N w0 w1 w2 w7 (fun p=>p)
def d9m:=(d9l N).c0 (d9k N) 24023 100 [2,3,4,5,11,12,13] [2,3,50003000,50003001] ⟨[(2,.c (.p 2 0)),(3,.c (.p 3 0)),(4,.c (.i .i64)),(5,.c (.i .i64)),(7,.c (.i .i64)),(11,.c (.sl 3)),(12,.c (.i .i64)),(13,.c (.i .i64)),(18,.c (.b))],[(2,.box ([.sl 3,.sl 3])),(3,.box ([.o 50003000,.o 50003001])),(50003000,.row 3 true),(50003001,.row 3 true)]⟩ (fun L _=>a58 N (li L 0) (li L 1) (li L 2) (lb L 7)) (fun s m L p=>(.normal,m [(4,.c (.i .i64 p.1)),(5,.c (.i .i64 p.2))] [])) fun _ _=>by unfold a58;exact kk
def b0a (w3:LD) (w4:Int) (w0 w1 w5:Int) (w10:Bool) (w11:LD) (w12:Bool) (w13:LD) (kr:Int→Int→Int→Bool→LD→Bool→LD→Option R) (k0:Ty8→Option R):Option R:=
 bif (decide (w5<w4)) then
  bif (inB w5 w3.length) then
   bnd (a82 N w0 w1 (w3.getD w5.toNat (.i 0)).toI (decide ((w3.getD w5.toNat (.i 0)).toI<0))) fun y0=>
   bif (decide ((w11.length+1)*8≤a1K)&&decide ((w11.length+1)≤a0g)) then
    bif (decide ((w13.length+1)*8≤a1K)&&decide ((w13.length+1)≤a0g)) then
     kr y0.1 y0.2 (IntKind.wrap .i64 (w5+1)) false (w11++[(.i y0.1)]) false (w13++[(.i y0.2)])
    else
     none
   else
    none
  else
   none
 else
  k0 (w10,w11,w12,w13)
def a7Z (N:Nat) {R:Type} (w3:LD) (w4:Int):Nat→Int→Int→Int→Bool→LD→Bool→LD→(Ty8→Option R)→Option R
 |0,_,_,_,_,_,_,_,_=>none
 |m+1,w0,w1,w5,w10,w11,w12,w13,k0=>b0a N w3 w4 w0 w1 w5 w10 w11 w12 w13 (fun w0 w1 w5 w10 w11 w12 w13=>a7Z N w3 w4 m w0 w1 w5 w10 w11 w12 w13 k0) k0
def c4N (w3:LD) (w4:Int) (w0 w1 w5:Int) (w10:Bool) (w11:LD) (w12:Bool) (w13:LD):Option (Ty8):=a7Z N (R:=(Ty8)) w3 w4 N w0 w1 w5 w10 w11 w12 w13 some
def d9n:=(d9m N).l1 (d9k N) 12 [0,1,5,10,11,12,13] [2,3] [2,3,50003000,50003001] ⟨[(2,.c (.p 2 0)),(3,.c (.p 3 0)),(4,.c (.i .i64)),(5,.c (.i .i64)),(11,.c (.sl 3)),(12,.c (.i .i64)),(13,.c (.i .i64))],[(2,.box ([.sl 3,.sl 3])),(3,.box ([.o 50003000,.o 50003001])),(50003000,.row 3 true),(50003001,.row 3 true)]⟩ N (fun L x _ kr=>b0a N (ll L 3) (li L 4) (li x 0) (li x 1) (li x 2) (lb x 3) (ll x 4) (lb x 5) (ll x 6) (fun w0 w1 w5 w10 w11 w12 w13=>kr [.i w0,.i w1,.i w5,.b w10,.l w11,.b w12,.l w13])) (fun L m x=>a7Z N (ll L 3) (li L 4) m (li x 0) (li x 1) (li x 2) (lb x 3) (ll x 4) (lb x 5) (ll x 6) some) (fun s m L p=>((.exit 0),m [] [(50003000,.row 3 true p.1 p.2.1),(50003001,.row 3 true p.2.2.1 p.2.2.2)])) fun _ _ _ _ _=>by unfold b0a;exact bb
def d2S (v1:LD) (k0:Ty8→Option R):Option R:=
 bnd (c4N N v1 (v1.length:Int) 0 0 0 false [(.i 0)] false [(.i 0)]) fun y0=>
 bif y0.isSome then
  k0 (y0.getD default)
 else
  none
def d9o (v1:LD):Option (Ty8):=d2S N v1 some
def e3Y:=(d9n N).f1 (d9k N) ⟨[(0,.c (.sl 3))],[]⟩ (fun L _=>d2S N (ll L 1)) (fun L p=>([.g [.sl 3 p.1 p.2.1,.sl 3 p.2.2.1 p.2.2.2]],[])) fun _ _=>by unfold d2S;exact bb
def d9p (N:Nat):Sg Tryz.prog 0 91:= .start [] [(0,[0,2,1]),(1,[3,2,1])]
def d2T (N:Nat) (v1 v3:LD) (v4 v5:Int) (k0:Int×Bool→Option R):Option R:=
 bif (inB v5 v1.length) then
  bif (inB v4 v1.length) then
   bnd (IntKind.wrap .i64 ((v1.getD v5.toNat (.i 0)).toI-(v1.getD v4.toNat (.i 0)).toI)) fun y0=>
   bif (inB v5 v3.length) then
    bif (inB v4 v3.length) then
     bnd ((v3.getD v5.toNat (.i 0)).toI==(v3.getD v4.toNat (.i 0)).toI) fun y1=>
     k0 (y0,y1)
    else
     none
   else
    none
  else
   none
 else
  none
def d9q (v1 v3:LD) (v4 v5:Int):Option (Int×Bool):=d2T N v1 v3 v4 v5 some
def d9r:=(d9p N).f1 (e3Y N) ⟨[(0,.g ([.sl 3,.sl 3])),(1,.c (.i .i64)),(2,.c (.i .i64))],[]⟩ (fun L _=>d2T N (ll L 1) (ll L 3) (li L 4) (li L 5)) (fun L p=>([.c (.i .i64 p.1),.c (.b p.2)],[])) fun _ _=>by unfold d2T;exact bb
def d9s (N:Nat):Sg Tryz.prog 0 57:= .start [(12,[0,1,4,5,6,7],[4,5,6],[]),(26,[0,1,4,5,6,7,8,42],[4,5,6],[])] [(0,[1,0]),(1,[1,0,4]),(2,[0,1,5,4]),(3,[1,0,6,5,4]),(4,[7,1,0,6,5,4]),(6,[6,7,1,5,0,4]),(7,[9,5,8,1,7,0,6,4]),(8,[1,8,7,5,0,6,4]),(5,[7,1,0,6,5,4]),(9,[5,4])]
def b3C (N:Nat) (w2 w3 w4:Int) (w5:Bool) (w10 w11 w12:Int) (w13:Bool) (k0:Int×Int×Int×Bool→R):R:=
 bif w5 then
  k0 (w2,w4,w3,true)
 else
  k0 (w10,w11,w12,w13)
def b8r (w2 w3 w4:Int) (w5:Bool) (w10 w11 w12:Int) (w13:Bool):Int×Int×Int×Bool:=b3C N w2 w3 w4 w5 w10 w11 w12 w13 (fun p=>p)
def d9t:=(d9s N).c0 (d9r N) 26 100 [0,1,4,5,6,7] [4,5,6] ⟨[(0,.c (.sl 3)),(1,.c (.i .i64)),(4,.c (.p 4 0)),(5,.c (.p 5 0)),(6,.c (.p 6 0)),(7,.c (.i .i64)),(8,.c (.i .i64)),(42,.c (.b))],[(4,.box ([.i .i64,.i .i64,.i .i64,.b])),(5,.box ([.i .i64,.i .i64,.i .i64,.b])),(6,.box ([.sl 3,.sl 3]))]⟩ (fun L _=>b3C N (li L 2) (li L 3) (li L 4) (lb L 5) (li L 10) (li L 11) (li L 12) (lb L 13)) (fun s m L p=>(.normal,m [] [(5,.box [.i .i64 p.1,.i .i64 p.2.1,.i .i64 p.2.2.1,.b p.2.2.2])])) fun _ _=>by unfold b3C;exact kk
def b0b (w1:LD) (w2:Int) (w13 w15:LD) (w3 w8 w9 w10:Int) (w11:Bool) (kr:Int→Int→Int→Int→Bool→Option R) (k0:Int×Int×Int×Bool→Option R):Option R:=
 bif (decide ((IntKind.wrap .i64 (w3+w2))≤(w1.length:Int))) then
  bnd (d9q N w13 w15 w3 (IntKind.wrap .i64 (w3+w2))) fun y0=>
  bif y0.isSome then
   bnd (bif (y0.getD default).2 then (bif (!w11) then true else (decide ((y0.getD default).1>w9))) else false) fun y1=>
   bnd (b8r N w2 w3 (y0.getD default).1 y1 w8 w9 w10 w11) fun y2=>
   kr (IntKind.wrap .i64 (w3+1)) y2.1 y2.2.1 y2.2.2.1 y2.2.2.2
  else
   none
 else
  k0 (w8,w9,w10,w11)
def a71 (N:Nat) {R:Type} (w1:LD) (w2:Int) (w13 w15:LD):Nat→Int→Int→Int→Int→Bool→(Int×Int×Int×Bool→Option R)→Option R
 |0,_,_,_,_,_,_=>none
 |m+1,w3,w8,w9,w10,w11,k0=>b0b N w1 w2 w13 w15 w3 w8 w9 w10 w11 (fun w3 w8 w9 w10 w11=>a71 N w1 w2 w13 w15 m w3 w8 w9 w10 w11 k0) k0
def c4O (w1:LD) (w2:Int) (w13 w15:LD) (w3 w8 w9 w10:Int) (w11:Bool):Option (Int×Int×Int×Bool):=a71 N (R:=(Int×Int×Int×Bool)) w1 w2 w13 w15 N w3 w8 w9 w10 w11 some
def d9u:=(d9t N).l1 (d9r N) 12 [3,8,9,10,11] [4,5] [4,5] ⟨[(0,.c (.sl 3)),(1,.c (.i .i64)),(4,.c (.p 4 0)),(5,.c (.p 5 0)),(6,.c (.p 6 0)),(7,.c (.i .i64))],[(4,.box ([.i .i64,.i .i64,.i .i64,.b])),(5,.box ([.i .i64,.i .i64,.i .i64,.b])),(6,.box ([.sl 3,.sl 3]))]⟩ N (fun L x _ kr=>b0b N (ll L 1) (li L 2) (ll L 13) (ll L 15) (li x 0) (li x 1) (li x 2) (li x 3) (lb x 4) (fun w3 w8 w9 w10 w11=>kr [.i w3,.i w8,.i w9,.i w10,.b w11])) (fun L m x=>a71 N (ll L 1) (li L 2) (ll L 13) (ll L 15) m (li x 0) (li x 1) (li x 2) (li x 3) (lb x 4) some) (fun s m L p=>((.exit 0),m [] [(5,.box [.i .i64 p.1,.i .i64 p.2.1,.i .i64 p.2.2.1,.b p.2.2.2])])) fun _ _ _ _ _=>by unfold b0b;exact bb
def d2U (v1:LD) (v2:Int) (k0:Int×Int×Int×Bool→Option R):Option R:=
 bnd (d9o N v1) fun y0=>
 bif y0.isSome then
  bnd (c4O N v1 v2 (y0.getD default).2.1 (y0.getD default).2.2.2 0 v2 0 0 false) fun y1=>
  bif y1.isSome then
   k0 (y1.getD default)
  else
   none
 else
  none
def d9v (v1:LD) (v2:Int):Option (Int×Int×Int×Bool):=d2U N v1 v2 some
def e2a:=(d9u N).f1 (d9r N) ⟨[(0,.c (.sl 3)),(1,.c (.i .i64))],[]⟩ (fun L _=>d2U N (ll L 1) (li L 2)) (fun L p=>([.g [.i .i64 p.1,.i .i64 p.2.1,.i .i64 p.2.2.1,.b p.2.2.2]],[])) fun _ _=>by unfold d2U;exact bb
def d9w (N:Nat):Sg Tryz.prog 0 28:= .start [(27,[0,8,21,22,23],[8],[8])] [(0,[0,1]),(1,[0,1]),(2,[6,1,0]),(3,[6]),(4,[1,0]),(5,[7,1,0]),(6,[7]),(7,[1,0]),(8,[1,8,0]),(9,[23,22,21,8,0]),(10,[21,23,8,0,22]),(11,[8,0,10,23,22,21]),(12,[23,22,21,8,0]),(13,[8])]
def b0c (w1 w3:LD) (w4:Int) (w5:Int) (w6:Bool) (w7:LD) (kr:Int→Bool→LD→Option R) (k0:Bool×LD→Option R):Option R:=
 bif (decide (w5<w4)) then
  bif (inB w5 w3.length) then
   bnd (d9v N w1 (w3.getD w5.toNat (.i 0)).toI) fun y0=>
   bif y0.isSome then
    bif (decide ((w7.length+1)*32≤a1K)&&decide ((w7.length+1)≤a0g)) then
     bnd ((w7++[(.a [(.i (y0.getD default).1),(.i (y0.getD default).2.1),(.i (y0.getD default).2.2.1),(.b (y0.getD default).2.2.2)])]):List D) fun y1=>
     kr (IntKind.wrap .i64 (w5+1)) false y1
    else
     none
   else
    none
  else
   none
 else
  k0 (w6,w7)
def a72 (N:Nat) {R:Type} (w1 w3:LD) (w4:Int):Nat→Int→Bool→LD→(Bool×LD→Option R)→Option R
 |0,_,_,_,_=>none
 |m+1,w5,w6,w7,k0=>b0c N w1 w3 w4 w5 w6 w7 (fun w5 w6 w7=>a72 N w1 w3 w4 m w5 w6 w7 k0) k0
def c4P (w1 w3:LD) (w4:Int) (w5:Int) (w6:Bool) (w7:LD):Option (Bool×LD):=a72 N (R:=(Bool×LD)) w1 w3 w4 N w5 w6 w7 some
def d9x:=(d9w N).l1 (e2a N) 27 [5,6,7] [4,5,8] [8] ⟨[(0,.c (.sl 3)),(8,.c (.o 8)),(21,.c (.sl 3)),(22,.c (.i .i64)),(23,.c (.i .i64))],[(8,.row 40 true)]⟩ N (fun L x _ kr=>b0c N (ll L 1) (ll L 3) (li L 4) (li x 0) (lb x 1) (ll x 2) (fun w5 w6 w7=>kr [.i w5,.b w6,.l w7])) (fun L m x=>a72 N (ll L 1) (ll L 3) (li L 4) m (li x 0) (lb x 1) (ll x 2) some) (fun s m L p=>((.exit 0),⟨[(8,.c (.o 8))],[(8,.row 40 true p.1 p.2)]⟩)) fun _ _ _ _ _=>by unfold b0c;exact bb
def d2V (v1 v3:LD) (k0:Bool×LD×Int→Option R):Option R:=
 bnd (d9j N v1) fun y0=>
 bif y0.isSome then
  bif ((y0.getD default) !=0) then
   k0 (true,[],(y0.getD default))
  else
   bnd (c85 N v3) fun y1=>
   bif y1.isSome then
    bif ((y1.getD default) !=0) then
     k0 (true,[],(y1.getD default))
    else
     bnd (c4P N v1 v3 (v3.length:Int) 0 true []) fun y2=>
     bif y2.isSome then
      k0 ((y2.getD default).1,(y2.getD default).2,0)
     else
      none
   else
    none
 else
  none
def d9y (v1 v3:LD):Option (Bool×LD×Int):=d2V N v1 v3 some
def e2b:=(d9x N).f1 (e2a N) ⟨[(0,.c (.sl 3)),(1,.c (.sl 3))],[]⟩ (fun L _=>d2V N (ll L 1) (ll L 3)) (fun L p=>([.c (.sl 40 p.1 p.2.1),.c (.i .i64 p.2.2)],[])) fun _ _=>by unfold d2V;exact bb
def d2W (N:Nat):Sg Tryz.prog 0 115:= .start [(9,[3,6,7,8],[3],[3])] [(0,[0]),(1,[0]),(2,[0,3]),(3,[8,7,6,3]),(4,[6,8,3,7]),(5,[3,5,8,7,6]),(6,[8,7,6,3]),(7,[3])]
def b0d (N:Nat) (w1:LD) (w2:Int) (w3:Int) (w4:Bool) (w5:LD) (kr:Int→Bool→LD→Option R) (k0:Bool×LD→Option R):Option R:=
 bif (decide (w3<w2)) then
  bif (inB w3 w1.length) then
   bif (decide ((w5.length+1)*8≤a1K)&&decide ((w5.length+1)≤a0g)) then
    kr (IntKind.wrap .i64 (w3+1)) false (w5++[(.i ((w1.getD w3.toNat (.i 0)).cell 0).toI)])
   else
    none
  else
   none
 else
  k0 (w4,w5)
def a73 (N:Nat) {R:Type} (w1:LD) (w2:Int):Nat→Int→Bool→LD→(Bool×LD→Option R)→Option R
 |0,_,_,_,_=>none
 |m+1,w3,w4,w5,k0=>b0d N w1 w2 w3 w4 w5 (fun w3 w4 w5=>a73 N w1 w2 m w3 w4 w5 k0) k0
def c4Q (w1:LD) (w2:Int) (w3:Int) (w4:Bool) (w5:LD):Option (Bool×LD):=a73 N (R:=(Bool×LD)) w1 w2 N w3 w4 w5 some
def d2X:=(d2W N).l1 (e2b N) 9 [3,4,5] [2,3] [3] ⟨[(3,.c (.o 3)),(6,.c (.sl 40)),(7,.c (.i .i64)),(8,.c (.i .i64))],[(3,.row 3 true)]⟩ N (fun L x _ kr=>b0d N (ll L 1) (li L 2) (li x 0) (lb x 1) (ll x 2) (fun w3 w4 w5=>kr [.i w3,.b w4,.l w5])) (fun L m x=>a73 N (ll L 1) (li L 2) m (li x 0) (lb x 1) (ll x 2) some) (fun s m L p=>((.exit 0),⟨[(3,.c (.o 3))],[(3,.row 3 true p.1 p.2)]⟩)) fun _ _ _ _ _=>by unfold b0d;exact bb
def c4R (v1:LD) (k0:Bool×LD→Option R):Option R:=
 bnd (c4Q N v1 (v1.length:Int) 0 true []) fun y0=>
 bif y0.isSome then
  k0 (y0.getD default)
 else
  none
def c86 (v1:LD):Option (Bool×LD):=c4R N v1 some
def d4z:=(d2X N).f1 (e2b N) ⟨[(0,.c (.sl 40))],[]⟩ (fun L _=>c4R N (ll L 1)) (fun L p=>([.c (.sl 3 p.1 p.2)],[])) fun _ _=>by unfold c4R;exact bb
def d9z (N:Nat):Sg Tryz.prog 0 92:= .start [(15,[12,13,14],[],[])] [(0,[0]),(1,[0]),(2,[3,0]),(3,[3]),(4,[0]),(5,[14,13,12]),(6,[12,14,13]),(7,[5,14,13,12]),(8,[5,14,13,12]),(9,[]),(10,[5,14,13,12]),(11,[]),(12,[14,13,12]),(13,[])]
def a74 (N:Nat) (w1:LD) (w2:Int) (w3:Int) (kr:Int→Option R) (k0:Int→Option R) (k1:Unit→Option R):Option R:=
 bif (decide (w3<w2)) then
  bif (inB w3 w1.length) then
   bif (!((w1.getD w3.toNat (.i 0)).cell 3).toB) then
    bnd (bif (((w1.getD w3.toNat (.i 0)).cell 1).toI !=0) then true else (((w1.getD w3.toNat (.i 0)).cell 2).toI !=0)) fun y0=>
    bif y0 then
     k0 2
    else
     kr (IntKind.wrap .i64 (w3+1))
   else
    bnd (bif (decide (((w1.getD w3.toNat (.i 0)).cell 1).toI<0)) then true else (decide (((w1.getD w3.toNat (.i 0)).cell 1).toI>(IntKind.wrap .i64 (((w1.getD w3.toNat (.i 0)).cell 0).toI*1000000000))))) fun y1=>
    bnd (bif y1 then true else (decide (((w1.getD w3.toNat (.i 0)).cell 2).toI<0))) fun y2=>
    bnd (bif y2 then true else (decide (((w1.getD w3.toNat (.i 0)).cell 2).toI>(IntKind.wrap .i64 (1000000-((w1.getD w3.toNat (.i 0)).cell 0).toI))))) fun y3=>
    bif y3 then
     k0 9
    else
     kr (IntKind.wrap .i64 (w3+1))
  else
   none
 else
  k1 ()
def b3D (N:Nat) {R:Type} (w1:LD) (w2:Int):Nat→Int→(Int→Option R)→(Unit→Option R)→Option R
 |0,_,_,_=>none
 |m+1,w3,k0,k1=>a74 N w1 w2 w3 (fun w3=>b3D N w1 w2 m w3 k0 k1) k0 k1
def b8s (w1:LD) (w2:Int) (w3:Int):Option (Sum (Int) (Unit)):=b3D N (R:=(Sum (Int) (Unit))) w1 w2 N w3 (fun p=>some (.inl p)) (fun p=>some (.inr p))
def d9A:=(d9z N).l2 (d4z N) 15 [3] [2] [] ⟨[(12,.c (.sl 40)),(13,.c (.i .i64)),(14,.c (.i .i64))],[]⟩ N (fun L x _ kr=>a74 N (ll L 1) (li L 2) (li x 0) (fun w3=>kr [.i w3])) (fun L m x=>b3D N (ll L 1) (li L 2) m (li x 0) (fun p=>some (.inl p)) (fun p=>some (.inr p))) (fun s m L p=>(.ret,⟨[(2,.c (.i .i64 p))],[]⟩)) (fun s m L _=>((.exit 0),⟨[],[]⟩)) fun _ _ _ _ _ _=>by unfold a74;exact bb
def d2Y (v1:LD) (k0:Int→Option R):Option R:=
 bnd (c86 N v1) fun y0=>
 bif y0.isSome then
  bnd (c85 N (y0.getD default).2) fun y1=>
  bif y1.isSome then
   bif ((y1.getD default) !=0) then
    k0 (y1.getD default)
   else
    bnd (b8s N v1 (v1.length:Int) 0) fun y2=>
    bif (a1x y2) then
     k0 (a2t y2)
    else
     bif (a0w y2).isSome then
      k0 0
     else
      none
  else
   none
 else
  none
def d2Z (v1:LD):Option (Int):=d2Y N v1 some
def e3Z:=(d9A N).f1 (d4z N) ⟨[(0,.c (.sl 40))],[]⟩ (fun L _=>d2Y N (ll L 1)) (fun L p=>([.c (.i .i64 p)],[])) fun _ _=>by unfold d2Y;exact bb
def d9B (N:Nat):Sg Tryz.prog 0 58:= .start [] [(0,[0,1]),(1,[0,1]),(2,[5,1]),(3,[5]),(4,[1])]
def c6o (v1 v3:LD) (k0:Int→Option R):Option R:=
 bnd (d2Z N v1) fun y0=>
 bif y0.isSome then
  bif ((y0.getD default) !=0) then
   k0 (y0.getD default)
  else
   bnd (d2Z N v3) fun y1=>
   bif y1.isSome then
    k0 (y1.getD default)
   else
    none
 else
  none
def d20 (v1 v3:LD):Option (Int):=c6o N v1 v3 some
def e30:=(d9B N).f1 (e3Z N) ⟨[(0,.c (.sl 40)),(1,.c (.sl 40))],[]⟩ (fun L _=>c6o N (ll L 1) (ll L 3)) (fun L p=>([.c (.i .i64 p)],[])) fun _ _=>by unfold c6o;exact bb
def d9C (N:Nat):Sg Tryz.prog 0 59:= .start [] [(0,[0,1]),(1,[3,2])]
def d9D (N:Nat) (v1:Int) (v3:Bool) (v5:Int) (v7:Bool) (k0:Bool→R):R:=
 bnd (bif v7 then (bif (!v3) then true else (decide (v1<v5))) else false) fun y0=>
 k0 y0
def d9E (v1:Int) (v3:Bool) (v5:Int) (v7:Bool):Bool:=d9D N v1 v3 v5 v7 (fun p=>p)
def c2f:=(d9C N).f0 (e30 N) ⟨[(0,.g ([.i .i64,.i .i64,.i .i64,.b])),(1,.g ([.i .i64,.i .i64,.i .i64,.b]))],[]⟩ (fun L _=>d9D N (li L 1) (lb L 3) (li L 5) (lb L 7)) (fun L p=>([.c (.b p)],[])) fun _ _=>by unfold d9D;exact kk
def d9F (N:Nat):Sg Tryz.prog 0 29:= .start [(15,[0,1,7],[7],[7]),(31,[0,1,7],[7],[]),(37,[0,1,7],[7],[]),(26,[0,1,7,8,30],[7,8],[]),(18041,[0,1,7,70],[7],[]),(36035,[0,1,7,42],[7],[])] [(0,[0,1]),(1,[0,1]),(2,[6,0,1]),(3,[6]),(4,[0,1]),(5,[0,1,7]),(10,[1,0,7]),(12,[0,1,7]),(6,[0,1,7]),(7,[8,1,7,0]),(8,[1,8,7,0]),(9,[7,8,0,1]),(13,[7,1,0]),(11,[7,0,1]),(14,[7]),(15,[]),(16,[7])] true
def b3E (N:Nat) (w1 w3:LD) (k0:Bool→Option R):Option R:=
 bif ((w3.length:Int)==0) then
  k0 true
 else
  bif (decide ((w1.length:Int)>0)) then
   bif (inB 0 w1.length) then
    bif (inB 0 w3.length) then
     bnd (decide (((w1.getD 0 (.i 0)).cell 0).toI<((w3.getD 0 (.i 0)).cell 0).toI)) fun y0=>
     k0 y0
    else
     none
   else
    none
  else
   k0 false
def b8t (w1 w3:LD):Option (Bool):=b3E N w1 w3 some
def d9G:=(d9F N).c1 (c2f N) 31 100 [0,1,7,42] [7] ⟨[(0,.c (.sl 40)),(1,.c (.sl 40)),(7,.c (.o 7))],[(7,.row 40 true)]⟩ (fun L _=>b3E N (ll L 1) (ll L 3)) (fun s m L p=>(.normal,m [(42,.c (.b p))] [])) fun _ _=>by unfold b3E;exact bb
def b3F (N:Nat) (w1 w3:LD) (k0:Bool→Option R):Option R:=
 bif ((w1.length:Int)==0) then
  k0 true
 else
  bif (inB 0 w3.length) then
   bif (inB 0 w1.length) then
    bnd (decide (((w3.getD 0 (.i 0)).cell 0).toI<((w1.getD 0 (.i 0)).cell 0).toI)) fun y0=>
    k0 y0
   else
    none
  else
   none
def b8u (w1 w3:LD):Option (Bool):=b3F N w1 w3 some
def d9H:=(d9G N).c1 (c2f N) 37 100 [0,1,7,70] [7] ⟨[(0,.c (.sl 40)),(1,.c (.sl 40)),(7,.c (.o 7))],[(7,.row 40 true)]⟩ (fun L _=>b3F N (ll L 1) (ll L 3)) (fun s m L p=>(.normal,m [(70,.c (.b p))] [])) fun _ _=>by unfold b3F;exact bb
def b3G (N:Nat) (w3:LD) (w4:Bool) (w7 w8 w9:Int) (w10:Bool) (k0:Int×Int×Int×Bool→Option R):Option R:=
 bif w4 then
  bif (inB 0 w3.length) then
   k0 (((w3.getD 0 (.i 0)).cell 0).toI,((w3.getD 0 (.i 0)).cell 1).toI,((w3.getD 0 (.i 0)).cell 2).toI,((w3.getD 0 (.i 0)).cell 3).toB)
  else
   none
 else
  k0 (w7,w8,w9,w10)
def b8v (w3:LD) (w4:Bool) (w7 w8 w9:Int) (w10:Bool):Option (Int×Int×Int×Bool):=b3G N w3 w4 w7 w8 w9 w10 some
def d9I:=(d9H N).c1 (c2f N) 26 100 [0,1,7,8] [7,8] ⟨[(0,.c (.sl 40)),(1,.c (.sl 40)),(7,.c (.o 7)),(8,.c (.p 8 0)),(30,.c (.b))],[(7,.row 40 true),(8,.box ([.i .i64,.i .i64,.i .i64,.b]))]⟩ (fun L _=>b3G N (ll L 3) (lb L 4) (li L 7) (li L 8) (li L 9) (lb L 10)) (fun s m L p=>(.normal,m [] [(8,.box [.i .i64 p.1,.i .i64 p.2.1,.i .i64 p.2.2.1,.b p.2.2.2])])) fun _ _=>by unfold b3G;exact bb
def a59 (w1 w3:LD) (w4:Bool) (w6:LD) (k0:LD×LD→Option R) (k1:e2N→Option R):Option R:=
 bif w4 then
  bif (inB 0 w3.length) then
   bif (decide ((w6.length+1)*32≤a1K)&&decide ((w6.length+1)≤a0g)) then
    bnd ((w6++[(.a [(.i ((w3.getD 0 (.i 0)).cell 0).toI),(.i ((w3.getD 0 (.i 0)).cell 1).toI),(.i ((w3.getD 0 (.i 0)).cell 2).toI),(.b ((w3.getD 0 (.i 0)).cell 3).toB)])]):List D) fun y0=>
    bif ((decide (1≤(w3.length:Int)))&&(decide ((w3.length:Int)≤(w3.length:Int)))) then
     k0 (((w3.take (w3.length:Int).toNat).drop 1),y0)
    else
     none
   else
    none
  else
   none
 else
  bif (inB 0 w1.length) then
   bif (inB 0 w3.length) then
    bnd (d9E N ((w1.getD 0 (.i 0)).cell 1).toI ((w1.getD 0 (.i 0)).cell 3).toB ((w3.getD 0 (.i 0)).cell 1).toI ((w3.getD 0 (.i 0)).cell 3).toB) fun y1=>
    bnd (b8v N w3 y1 ((w1.getD 0 (.i 0)).cell 0).toI ((w1.getD 0 (.i 0)).cell 1).toI ((w1.getD 0 (.i 0)).cell 2).toI ((w1.getD 0 (.i 0)).cell 3).toB) fun y2=>
    bif y2.isSome then
     bif (decide ((w6.length+1)*32≤a1K)&&decide ((w6.length+1)≤a0g)) then
      bnd ((w6++[(.a [(.i (y2.getD default).1),(.i (y2.getD default).2.1),(.i (y2.getD default).2.2.1),(.b (y2.getD default).2.2.2)])]):List D) fun y3=>
      bif ((decide (1≤(w1.length:Int)))&&(decide ((w1.length:Int)≤(w1.length:Int)))) then
       bif ((decide (1≤(w3.length:Int)))&&(decide ((w3.length:Int)≤(w3.length:Int)))) then
        k1 (((w1.take (w1.length:Int).toNat).drop 1),((w3.take (w3.length:Int).toNat).drop 1),y3)
       else
        none
      else
       none
     else
      none
    else
     none
   else
    none
  else
   none
def a83 (w1 w3:LD) (w4:Bool) (w6:LD):Option (Sum (LD×LD) (e2N)):=a59 N w1 w3 w4 w6 (fun p=>some (.inl p)) (fun p=>some (.inr p))
def d9J:=(d9I N).c2 (c2f N) 18041 100 [0,1,7] [37,90] ⟨[(0,.c (.sl 40)),(1,.c (.sl 40)),(7,.c (.o 7)),(70,.c (.b))],[(7,.row 40 true)]⟩ (fun L _=>a59 N (ll L 1) (ll L 3) (lb L 4) (ll L 6)) (fun s m L p=>(.normal,⟨[(0,.c (.sl 40 (lb L 0) (ll L 1))),(1,.c (.sl 40 (lb L 2) p.1)),(7,.c (.o 90))],[(90,.row 40 true false p.2)]⟩)) (fun s m L p=>(.normal,⟨[(0,.c (.sl 40 (lb L 0) p.1)),(1,.c (.sl 40 (lb L 2) p.2.1)),(7,.c (.o 37))],[(37,.row 40 true false p.2.2)]⟩)) fun _ _ _=>by unfold a59;exact bb
def a6a (w1 w3:LD) (w4:Bool) (w6:LD) (k0:LD×LD→Option R) (k1:LD×LD→Option R) (k2:e2N→Option R):Option R:=
 bif w4 then
  bif (inB 0 w1.length) then
   bif (decide ((w6.length+1)*32≤a1K)&&decide ((w6.length+1)≤a0g)) then
    bnd ((w6++[(.a [(.i ((w1.getD 0 (.i 0)).cell 0).toI),(.i ((w1.getD 0 (.i 0)).cell 1).toI),(.i ((w1.getD 0 (.i 0)).cell 2).toI),(.b ((w1.getD 0 (.i 0)).cell 3).toB)])]):List D) fun y0=>
    bif ((decide (1≤(w1.length:Int)))&&(decide ((w1.length:Int)≤(w1.length:Int)))) then
     k0 (((w1.take (w1.length:Int).toNat).drop 1),y0)
    else
     none
   else
    none
  else
   none
 else
  bnd (b8u N w1 w3) fun y1=>
  bif y1.isSome then
   bnd (a83 N w1 w3 (y1.getD default) w6) fun y2=>
   bif (a1x y2) then
    k1 (a2t y2)
   else
    bif (a0w y2).isSome then
     k2 ((a0w y2).getD default)
    else
     none
  else
   none
def a84 (w1 w3:LD) (w4:Bool) (w6:LD):Option (Sum (LD×LD) (Sum (LD×LD) (e2N))):=a6a N w1 w3 w4 w6 (fun p=>some (.inl p)) (fun p=>some (.inr (.inl p))) (fun p=>some (.inr (.inr p)))
def d9K:=(d9J N).c3 (c2f N) 36035 100 [0,1,7] [37,67,90] ⟨[(0,.c (.sl 40)),(1,.c (.sl 40)),(7,.c (.o 7)),(42,.c (.b))],[(7,.row 40 true)]⟩ (fun L _=>a6a N (ll L 1) (ll L 3) (lb L 4) (ll L 6)) (fun s m L p=>(.normal,⟨[(0,.c (.sl 40 (lb L 0) p.1)),(1,.c (.sl 40 (lb L 2) (ll L 3))),(7,.c (.o 67))],[(67,.row 40 true false p.2)]⟩)) (fun s m L p=>(.normal,⟨[(0,.c (.sl 40 (lb L 0) (ll L 1))),(1,.c (.sl 40 (lb L 2) p.1)),(7,.c (.o 90))],[(90,.row 40 true false p.2)]⟩)) (fun s m L p=>(.normal,⟨[(0,.c (.sl 40 (lb L 0) p.1)),(1,.c (.sl 40 (lb L 2) p.2.1)),(7,.c (.o 37))],[(37,.row 40 true false p.2.2)]⟩)) fun _ _ _ _=>by unfold a6a;exact bb
def b0e (w1 w3:LD) (w4:Bool) (w5:LD) (kr:LD→LD→Bool→LD→Option R) (k0:Bool×LD→Option R):Option R:=
 bnd (bif (decide ((w1.length:Int)>0)) then true else (decide ((w3.length:Int)>0))) fun y0=>
 bif y0 then
  bnd (b8t N w1 w3) fun y1=>
  bif y1.isSome then
   bnd (a84 N w1 w3 (y1.getD default) w5) fun y2=>
   bif (a1x y2) then
    kr (a2t y2).1 w3 false (a2t y2).2
   else
    bif (a1x (a0w y2)) then
     kr w1 (a2t (a0w y2)).1 false (a2t (a0w y2)).2
    else
     bif (a0w (a0w y2)).isSome then
      kr ((a0w (a0w y2)).getD default).1 ((a0w (a0w y2)).getD default).2.1 false ((a0w (a0w y2)).getD default).2.2
     else
      none
  else
   none
 else
  k0 (w4,w5)
def a75 (N:Nat) {R:Type}:Nat→LD→LD→Bool→LD→(Bool×LD→Option R)→Option R
 |0,_,_,_,_,_=>none
 |m+1,w1,w3,w4,w5,k0=>b0e N w1 w3 w4 w5 (fun w1 w3 w4 w5=>a75 N m w1 w3 w4 w5 k0) k0
def c4S (w1 w3:LD) (w4:Bool) (w5:LD):Option (Bool×LD):=a75 N (R:=(Bool×LD)) N w1 w3 w4 w5 some
def d9L:=(d9K N).l1 (c2f N) 15 [1,3,4,5] [4,5,7] [7] ⟨[(0,.c (.sl 40)),(1,.c (.sl 40)),(7,.c (.o 7))],[(7,.row 40 true)]⟩ N (fun L x _ kr=>b0e N (ll x 0) (ll x 1) (lb x 2) (ll x 3) (fun w1 w3 w4 w5=>kr [.l w1,.l w3,.b w4,.l w5])) (fun L m x=>a75 N m (ll x 0) (ll x 1) (lb x 2) (ll x 3) some) (fun s m L p=>((.exit 0),⟨[(7,.c (.o 7))],[(7,.row 40 true p.1 p.2)]⟩)) fun _ _ _ _ _=>by unfold b0e;exact bb
def c6p (v1 v3:LD) (k0:Int→Option R) (k1:Bool×LD→Option R):Option R:=
 bnd (d20 N v1 v3) fun y0=>
 bif y0.isSome then
  bif ((y0.getD default) !=0) then
   k0 (y0.getD default)
  else
   bnd (c4S N v1 v3 true []) fun y1=>
   bif y1.isSome then
    bif (decide (((y1.getD default).2.length:Int)>100)) then
     k0 3
    else
     k1 (y1.getD default)
   else
    none
 else
  none
def c87 (v1 v3:LD):Option (Sum (Int) (Bool×LD)):=c6p N v1 v3 (fun p=>some (.inl p)) (fun p=>some (.inr p))
def d21:=(d9L N).f2 (c2f N) ⟨[(0,.c (.sl 40)),(1,.c (.sl 40))],[]⟩ (fun L _=>c6p N (ll L 1) (ll L 3)) (fun L p=>([.c (.sl 40 true []),.c (.i .i64 p)],[])) (fun L p=>([.c (.o 7),.c (.i .i64 0)],[(7,.row 40 true p.1 p.2)])) fun _ _ _=>by unfold c6p;exact bb
def e2c (N:Nat):Sg Tryz.prog 0 9:= .start [(33,[1,2,3,4,5,14,37,38,39],[5,14],[14]),(48,[3,4,14,52,53,54],[14],[14]),(61,[3,4,14,21,52,53,54],[14],[])] [(0,[0,1,2,3,4]),(1,[5,1,2,3,4]),(2,[12,3,4,5,1,2]),(3,[12]),(4,[3,4,5,1,2]),(5,[]),(6,[4,5,1,2,3]),(7,[13,4,5,1,2,3]),(8,[13]),(9,[4,5,1,2,3]),(10,[4,14,5,1,2,3]),(11,[39,38,37,14,5,1,2,3,4]),(12,[37,39,14,38,5,1,2,3,4]),(13,[14,16,39,38,37,5,1,2,3,4]),(14,[39,38,37,14,5,1,2,3,4]),(15,[5,1,2,3,4,14]),(16,[54,53,52,3,4,14]),(17,[52,54,3,4,14,53]),(18,[18,3,4,14,54,53,52]),(19,[19,4,14,54,53,52,3]),(20,[14,21,54,53,52,3,4]),(21,[54,53,52,3,4,14]),(22,[14])]
def b5f (N:Nat) (w7:LD) (w8:Int) (w9:Int) (w12:Bool) (w13:LD) (kr:Int→Bool→LD→Option R) (k0:Bool×LD→Option R):Option R:=
 bif (decide (w9<w8)) then
  bif (inB w9 w7.length) then
   bif (decide ((w13.length+1)*32≤a1K)&&decide ((w13.length+1)≤a0g)) then
    bnd ((w13++[(.a [(.i (w7.getD w9.toNat (.i 0)).toI),(.i 0),(.i 0),(.b false)])]):List D) fun y0=>
    kr (IntKind.wrap .i64 (w9+1)) false y0
   else
    none
  else
   none
 else
  k0 (w12,w13)
def b07 (N:Nat) {R:Type} (w7:LD) (w8:Int):Nat→Int→Bool→LD→(Bool×LD→Option R)→Option R
 |0,_,_,_,_=>none
 |m+1,w9,w12,w13,k0=>b5f N w7 w8 w9 w12 w13 (fun w9 w12 w13=>b07 N w7 w8 m w9 w12 w13 k0) k0
def c88 (w7:LD) (w8:Int) (w9:Int) (w12:Bool) (w13:LD):Option (Bool×LD):=b07 N (R:=(Bool×LD)) w7 w8 N w9 w12 w13 some
def e2d:=(e2c N).l1 (d21 N) 33 [9,12,13] [1,2,3,4,5,10,11,14] [5,14] ⟨[(1,.c (.i .i64)),(2,.c (.sl 51)),(3,.c (.i .i64)),(4,.c (.sl 3)),(5,.c (.p 5 0)),(14,.c (.o 14)),(37,.c (.sl 3)),(38,.c (.i .i64)),(39,.c (.i .i64))],[(5,.box ([.sl 67])),(14,.row 40 true)]⟩ N (fun L x _ kr=>b5f N (ll L 7) (li L 8) (li x 0) (lb x 1) (ll x 2) (fun w9 w12 w13=>kr [.i w9,.b w12,.l w13])) (fun L m x=>b07 N (ll L 7) (li L 8) m (li x 0) (lb x 1) (ll x 2) some) (fun s m L p=>((.exit 0),mg s [1,2,3,4,5,14] [] [5,14] [(14,.row 40 true p.1 p.2)])) fun _ _ _ _ _=>by unfold b5f;exact bb
def b08 (w4 w10:LD) (k0:Unit→Option R) (k1:Bool×LD→Option R):Option R:=
 bnd (c87 N w10 w4) fun y0=>
 bif (a1x y0) then
  k0 ()
 else
  bif (a0w y0).isSome then
   k1 ((a0w y0).getD default)
  else
   none
def b09 (w4 w10:LD):Option (Sum (Unit) (Bool×LD)):=b08 N w4 w10 (fun p=>some (.inl p)) (fun p=>some (.inr p))
def e2e:=(e2d N).c2 (d21 N) 61 100 [3,4,14,52,53,54] [74000000007] ⟨[(3,.c (.i .i64)),(4,.c (.sl 3)),(14,.c (.o 14)),(21,.c (.sl 40)),(52,.c (.sl 51)),(53,.c (.i .i64)),(54,.c (.i .i64))],[(14,.row 40 true)]⟩ (fun L _=>b08 N (ll L 4) (ll L 10)) (fun s m L _=>(.normal,mg s [3,4,14,52,53,54] [(14,.c (.sl 40 true []))] [] [])) (fun s m L p=>(.normal,m [(14,.c (.o 74000000007))] [(74000000007,.row 40 true p.1 p.2)])) fun _ _ _=>by unfold b08;exact bb
def b5g (w0:Int) (w2 w4:LD) (w5:Int) (w6:Int) (w7:Bool) (w8:LD) (kr:Int→Bool→LD→Option R) (k0:Bool×LD→Option R):Option R:=
 bif (decide (w6<w5)) then
  bif (inB w6 w4.length) then
   bnd (b5R N ((w4.getD w6.toNat (.i 0)).cell 0).toS ((w4.getD w6.toNat (.i 0)).cell 1).toI ((w4.getD w6.toNat (.i 0)).cell 2).toI ((w4.getD w6.toNat (.i 0)).cell 3).items ((w4.getD w6.toNat (.i 0)).cell 4).items ((w4.getD w6.toNat (.i 0)).cell 5).items w0) fun y0=>
   bif y0.isSome then
    bnd (d9y N (y0.getD default).2.1 w2) fun y1=>
    bif y1.isSome then
     bnd (b09 N (y1.getD default).2.1 w8) fun y2=>
     bif (a1x y2) then
      kr (IntKind.wrap .i64 (w6+1)) true []
     else
      bif (a0w y2).isSome then
       kr (IntKind.wrap .i64 (w6+1)) ((a0w y2).getD default).1 ((a0w y2).getD default).2
      else
       none
    else
     none
   else
    none
  else
   none
 else
  k0 (w7,w8)
def b1a (N:Nat) {R:Type} (w0:Int) (w2 w4:LD) (w5:Int):Nat→Int→Bool→LD→(Bool×LD→Option R)→Option R
 |0,_,_,_,_=>none
 |m+1,w6,w7,w8,k0=>b5g N w0 w2 w4 w5 w6 w7 w8 (fun w6 w7 w8=>b1a N w0 w2 w4 w5 m w6 w7 w8 k0) k0
def c89 (w0:Int) (w2 w4:LD) (w5:Int) (w6:Int) (w7:Bool) (w8:LD):Option (Bool×LD):=b1a N (R:=(Bool×LD)) w0 w2 w4 w5 N w6 w7 w8 some
def e2f:=(e2e N).l1 (d21 N) 48 [6,7,8] [10,11,14] [14] ⟨[(3,.c (.i .i64)),(4,.c (.sl 3)),(14,.c (.o 14)),(52,.c (.sl 51)),(53,.c (.i .i64)),(54,.c (.i .i64))],[(14,.row 40 true)]⟩ N (fun L x _ kr=>b5g N (li L 0) (ll L 2) (ll L 4) (li L 5) (li x 0) (lb x 1) (ll x 2) (fun w6 w7 w8=>kr [.i w6,.b w7,.l w8])) (fun L m x=>b1a N (li L 0) (ll L 2) (ll L 4) (li L 5) m (li x 0) (lb x 1) (ll x 2) some) (fun s m L p=>((.exit 2),⟨[(14,.c (.o 14))],[(14,.row 40 true p.1 p.2)]⟩)) fun _ _ _ _ _=>by unfold b5g;exact bb
def e2U (v1:LD) (v2:Int) (v4:LD) (v5:Int) (v7:LD) (k0:Bool×LD×Int→Option R):Option R:=
 bnd (c17 N v1 v2 true v4) fun y0=>
 bif y0.isSome then
  bif ((y0.getD default) !=0) then
   k0 (true,[],(y0.getD default))
  else
   bnd (b2d N v5 1 5) fun y1=>
   bif y1 then
    k0 (true,[],7)
   else
    bnd (c85 N v7) fun y2=>
    bif y2.isSome then
     bif ((y2.getD default) !=0) then
      k0 (true,[],(y2.getD default))
     else
      bnd (c88 N v7 (v7.length:Int) 0 true []) fun y3=>
      bif y3.isSome then
       bnd (c8J N v1 v2 v4) fun y4=>
       bif y4.isSome then
        bnd (c89 N v5 v7 (y4.getD default).2 ((y4.getD default).2.length:Int) 0 (y3.getD default).1 (y3.getD default).2) fun y5=>
        bif y5.isSome then
         k0 ((y5.getD default).1,(y5.getD default).2,0)
        else
         none
       else
        none
      else
       none
    else
     none
 else
  none
def e31 (v1:LD) (v2:Int) (v4:LD) (v5:Int) (v7:LD):Option (Bool×LD×Int):=e2U N v1 v2 v4 v5 v7 some
def e2V:=(e2f N).f1 (d21 N) ⟨[(0,.g ([.sl 67])),(1,.c (.i .i64)),(2,.c (.sl 51)),(3,.c (.i .i64)),(4,.c (.sl 3))],[]⟩ (fun L _=>e2U N (ll L 1) (li L 2) (ll L 4) (li L 5) (ll L 7)) (fun L p=>([.c (.sl 40 p.1 p.2.1),.c (.i .i64 p.2.2)],[])) fun _ _=>by unfold e2U;exact bb
def d9M (N:Nat):Sg Tryz.prog 0 30:= .start [(12,[2,3,56,57],[2,3],[]),(30,[2,3,74,75],[2,3],[]),(48,[2,3,92,93],[2,3],[])] [(0,[0,1]),(1,[2,3]),(2,[]),(3,[2,3]),(4,[57,56,2,3]),(5,[57,2,3,56]),(6,[2,5,3,57,56]),(7,[]),(8,[57,56,2,3]),(9,[2,3]),(10,[75,74,2,3]),(11,[75,2,3,74]),(12,[2,6,3,75,74]),(13,[]),(14,[75,74,2,3]),(15,[2,3]),(16,[93,92,2,3]),(17,[93,2,3,92]),(18,[2,7,3,93,92]),(19,[]),(20,[93,92,2,3]),(21,[])]
def a78 (N:Nat) (w0:Int) (w6 w15:LD) (w1:Int) (kr:Int→Option R) (k0:Unit→Option R) (k1:Unit→Option R):Option R:=
 bif (decide (w1<w0)) then
  bif (inB w1 w6.length) then
   bif (inB w1 w15.length) then
    bnd (!((((w6.getD w1.toNat (.i 0)).cell 0).toI==((w15.getD w1.toNat (.i 0)).cell 0).toI)&&((((w6.getD w1.toNat (.i 0)).cell 1).toI==((w15.getD w1.toNat (.i 0)).cell 1).toI)&&((((w6.getD w1.toNat (.i 0)).cell 2).toI==((w15.getD w1.toNat (.i 0)).cell 2).toI)&&((((w6.getD w1.toNat (.i 0)).cell 3).toI==((w15.getD w1.toNat (.i 0)).cell 3).toI)&&((((w6.getD w1.toNat (.i 0)).cell 4).toI==((w15.getD w1.toNat (.i 0)).cell 4).toI)&&((((w6.getD w1.toNat (.i 0)).cell 5).toI==((w15.getD w1.toNat (.i 0)).cell 5).toI)&&((((w6.getD w1.toNat (.i 0)).cell 6).toI==((w15.getD w1.toNat (.i 0)).cell 6).toI)&&true)))))))) fun y0=>
    bif y0 then
     k0 ()
    else
     kr (IntKind.wrap .i64 (w1+1))
   else
    none
  else
   none
 else
  k1 ()
def b3H (N:Nat) {R:Type} (w0:Int) (w6 w15:LD):Nat→Int→(Unit→Option R)→(Unit→Option R)→Option R
 |0,_,_,_=>none
 |m+1,w1,k0,k1=>a78 N w0 w6 w15 w1 (fun w1=>b3H N w0 w6 w15 m w1 k0 k1) k0 k1
def b8w (w0:Int) (w6 w15:LD) (w1:Int):Option (Sum (Unit) (Unit)):=b3H N (R:=(Sum (Unit) (Unit))) w0 w6 w15 N w1 (fun p=>some (.inl p)) (fun p=>some (.inr p))
def d9N:=(d9M N).l2 (e2V N) 12 [1] [2,3,4] [2,3] ⟨[(2,.c (.p 2 0)),(3,.c (.p 3 0)),(56,.c (.i .i64)),(57,.c (.i .i64))],[(2,.box (.s::[.i .i64,.i .i64,.sl 69,.sl 95,.sl 9])),(3,.box (.s::[.i .i64,.i .i64,.sl 69,.sl 95,.sl 9]))]⟩ N (fun L x _ kr=>a78 N (li L 0) (ll L 6) (ll L 15) (li x 0) (fun w1=>kr [.i w1])) (fun L m x=>b3H N (li L 0) (ll L 6) (ll L 15) m (li x 0) (fun p=>some (.inl p)) (fun p=>some (.inr p))) (fun s m L _=>(.ret,mg s [4] [(4,.c (.b false))] [2,3] [])) (fun s m L _=>((.exit 0),mg s [2,3] [] [2,3] [])) fun _ _ _ _ _ _=>by unfold a78;exact bb
def a79 (N:Nat) (w0:Int) (w8 w17:LD) (w1:Int) (kr:Int→Option R) (k0:Unit→Option R) (k1:Unit→Option R):Option R:=
 bif (decide (w1<w0)) then
  bif (inB w1 w8.length) then
   bif (inB w1 w17.length) then
    bnd (!((((w8.getD w1.toNat (.i 0)).cell 0).toI==((w17.getD w1.toNat (.i 0)).cell 0).toI)&&((((w8.getD w1.toNat (.i 0)).cell 1).toI==((w17.getD w1.toNat (.i 0)).cell 1).toI)&&((((w8.getD w1.toNat (.i 0)).cell 2).toS==((w17.getD w1.toNat (.i 0)).cell 2).toS)&&true)))) fun y0=>
    bif y0 then
     k0 ()
    else
     kr (IntKind.wrap .i64 (w1+1))
   else
    none
  else
   none
 else
  k1 ()
def b3I (N:Nat) {R:Type} (w0:Int) (w8 w17:LD):Nat→Int→(Unit→Option R)→(Unit→Option R)→Option R
 |0,_,_,_=>none
 |m+1,w1,k0,k1=>a79 N w0 w8 w17 w1 (fun w1=>b3I N w0 w8 w17 m w1 k0 k1) k0 k1
def b8x (w0:Int) (w8 w17:LD) (w1:Int):Option (Sum (Unit) (Unit)):=b3I N (R:=(Sum (Unit) (Unit))) w0 w8 w17 N w1 (fun p=>some (.inl p)) (fun p=>some (.inr p))
def d9O:=(d9N N).l2 (e2V N) 30 [1] [2,3,4] [2,3] ⟨[(2,.c (.p 2 0)),(3,.c (.p 3 0)),(74,.c (.i .i64)),(75,.c (.i .i64))],[(2,.box (.s::[.i .i64,.i .i64,.sl 69,.sl 95,.sl 9])),(3,.box (.s::[.i .i64,.i .i64,.sl 69,.sl 95,.sl 9]))]⟩ N (fun L x _ kr=>a79 N (li L 0) (ll L 8) (ll L 17) (li x 0) (fun w1=>kr [.i w1])) (fun L m x=>b3I N (li L 0) (ll L 8) (ll L 17) m (li x 0) (fun p=>some (.inl p)) (fun p=>some (.inr p))) (fun s m L _=>(.ret,mg s [4] [(4,.c (.b false))] [2,3] [])) (fun s m L _=>((.exit 2),mg s [2,3] [] [2,3] [])) fun _ _ _ _ _ _=>by unfold a79;exact bb
def a8a (N:Nat) (w0:Int) (w10 w19:LD) (w1:Int) (kr:Int→Option R) (k0:Unit→Option R) (k1:Unit→Option R):Option R:=
 bif (decide (w1<w0)) then
  bif (inB w1 w10.length) then
   bif (inB w1 w19.length) then
    bnd (!((w10.getD w1.toNat (.i 0)).toS==(w19.getD w1.toNat (.i 0)).toS)) fun y0=>
    bif y0 then
     k0 ()
    else
     kr (IntKind.wrap .i64 (w1+1))
   else
    none
  else
   none
 else
  k1 ()
def b3J (N:Nat) {R:Type} (w0:Int) (w10 w19:LD):Nat→Int→(Unit→Option R)→(Unit→Option R)→Option R
 |0,_,_,_=>none
 |m+1,w1,k0,k1=>a8a N w0 w10 w19 w1 (fun w1=>b3J N w0 w10 w19 m w1 k0 k1) k0 k1
def b8y (w0:Int) (w10 w19:LD) (w1:Int):Option (Sum (Unit) (Unit)):=b3J N (R:=(Sum (Unit) (Unit))) w0 w10 w19 N w1 (fun p=>some (.inl p)) (fun p=>some (.inr p))
def d9P:=(d9O N).l2 (e2V N) 48 [1] [4] [] ⟨[(2,.c (.p 2 0)),(3,.c (.p 3 0)),(92,.c (.i .i64)),(93,.c (.i .i64))],[(2,.box (.s::[.i .i64,.i .i64,.sl 69,.sl 95,.sl 9])),(3,.box (.s::[.i .i64,.i .i64,.sl 69,.sl 95,.sl 9]))]⟩ N (fun L x _ kr=>a8a N (li L 0) (ll L 10) (ll L 19) (li x 0) (fun w1=>kr [.i w1])) (fun L m x=>b3J N (li L 0) (ll L 10) (ll L 19) m (li x 0) (fun p=>some (.inl p)) (fun p=>some (.inr p))) (fun s m L _=>(.ret,⟨[(4,.c (.b false))],[]⟩)) (fun s m L _=>((.exit 4),⟨[],[]⟩)) fun _ _ _ _ _ _=>by unfold a8a;exact bb
def d22 (v0:LB) (v1 v2:Int) (v4 v6 v8:LD) (v9:LB) (v10 v11:Int) (v13 v15 v17:LD) (k0:Bool→Option R):Option R:=
 bnd (bif (bif (!(v0==v9)) then true else (v1 !=v10)) then true else (v2 !=v11)) fun y0=>
 bnd (bif y0 then true else ((v4.length:Int) !=(v13.length:Int))) fun y1=>
 bnd (bif y1 then true else ((v6.length:Int) !=(v15.length:Int))) fun y2=>
 bnd (bif y2 then true else ((v8.length:Int) !=(v17.length:Int))) fun y3=>
 bif y3 then
  k0 false
 else
  bnd (b8w N (v4.length:Int) v4 v13 0) fun y4=>
  bif (a1x y4) then
   k0 false
  else
   bif (a0w y4).isSome then
    bnd (b8x N (v6.length:Int) v6 v15 0) fun y5=>
    bif (a1x y5) then
     k0 false
    else
     bif (a0w y5).isSome then
      bnd (b8y N (v8.length:Int) v8 v17 0) fun y6=>
      bif (a1x y6) then
       k0 false
      else
       bif (a0w y6).isSome then
        k0 true
       else
        none
     else
      none
   else
    none
def d23 (v0:LB) (v1 v2:Int) (v4 v6 v8:LD) (v9:LB) (v10 v11:Int) (v13 v15 v17:LD):Option (Bool):=d22 N v0 v1 v2 v4 v6 v8 v9 v10 v11 v13 v15 v17 some
def e2g:=(d9P N).f1 (e2V N) ⟨[(0,.g (.s::[.i .i64,.i .i64,.sl 69,.sl 95,.sl 9])),(1,.g (.s::[.i .i64,.i .i64,.sl 69,.sl 95,.sl 9]))],[]⟩ (fun L _=>d22 N (ls L 0) (li L 1) (li L 2) (ll L 4) (ll L 6) (ll L 8) (ls L 9) (li L 10) (li L 11) (ll L 13) (ll L 15) (ll L 17)) (fun L p=>([.c (.b p)],[])) fun _ _=>by unfold d22;exact bb
def d9Q (N:Nat):Sg Tryz.prog 0 10:= .start [(12,[0,1,12,13],[],[])] [(0,[0,1]),(1,[0,1]),(2,[]),(3,[0,1]),(4,[13,12,0,1]),(5,[13,0,1,12]),(6,[0,5,1,13,12]),(7,[]),(8,[13,12,0,1]),(9,[])]
def a8b (w1 w3:LD) (w4:Int) (w5:Int) (kr:Int→Option R) (k0:Unit→Option R) (k1:Unit→Option R):Option R:=
 bif (decide (w5<w4)) then
  bif (inB w5 w1.length) then
   bif (inB w5 w3.length) then
    bnd (d23 N ((w1.getD w5.toNat (.i 0)).cell 0).toS ((w1.getD w5.toNat (.i 0)).cell 1).toI ((w1.getD w5.toNat (.i 0)).cell 2).toI ((w1.getD w5.toNat (.i 0)).cell 3).items ((w1.getD w5.toNat (.i 0)).cell 4).items ((w1.getD w5.toNat (.i 0)).cell 5).items ((w3.getD w5.toNat (.i 0)).cell 0).toS ((w3.getD w5.toNat (.i 0)).cell 1).toI ((w3.getD w5.toNat (.i 0)).cell 2).toI ((w3.getD w5.toNat (.i 0)).cell 3).items ((w3.getD w5.toNat (.i 0)).cell 4).items ((w3.getD w5.toNat (.i 0)).cell 5).items) fun y0=>
    bif y0.isSome then
     bif (!(y0.getD default)) then
      k0 ()
     else
      kr (IntKind.wrap .i64 (w5+1))
    else
     none
   else
    none
  else
   none
 else
  k1 ()
def b3K (N:Nat) {R:Type} (w1 w3:LD) (w4:Int):Nat→Int→(Unit→Option R)→(Unit→Option R)→Option R
 |0,_,_,_=>none
 |m+1,w5,k0,k1=>a8b N w1 w3 w4 w5 (fun w5=>b3K N w1 w3 w4 m w5 k0 k1) k0 k1
def b8z (w1 w3:LD) (w4:Int) (w5:Int):Option (Sum (Unit) (Unit)):=b3K N (R:=(Sum (Unit) (Unit))) w1 w3 w4 N w5 (fun p=>some (.inl p)) (fun p=>some (.inr p))
def d9R:=(d9Q N).l2 (e2g N) 12 [5] [4] [] ⟨[(0,.c (.sl 51)),(1,.c (.sl 51)),(12,.c (.i .i64)),(13,.c (.i .i64))],[]⟩ N (fun L x _ kr=>a8b N (ll L 1) (ll L 3) (li L 4) (li x 0) (fun w5=>kr [.i w5])) (fun L m x=>b3K N (ll L 1) (ll L 3) (li L 4) m (li x 0) (fun p=>some (.inl p)) (fun p=>some (.inr p))) (fun s m L _=>(.ret,⟨[(4,.c (.b false))],[]⟩)) (fun s m L _=>((.exit 0),⟨[],[]⟩)) fun _ _ _ _ _ _=>by unfold a8b;exact bb
def d24 (v1 v3:LD) (k0:Bool→Option R):Option R:=
 bif ((v1.length:Int) !=(v3.length:Int)) then
  k0 false
 else
  bnd (b8z N v1 v3 (v1.length:Int) 0) fun y0=>
  bif (a1x y0) then
   k0 false
  else
   bif (a0w y0).isSome then
    k0 true
   else
    none
def d25 (v1 v3:LD):Option (Bool):=d24 N v1 v3 some
def e2h:=(d9R N).f1 (e2g N) ⟨[(0,.c (.sl 51)),(1,.c (.sl 51))],[]⟩ (fun L _=>d24 N (ll L 1) (ll L 3)) (fun L p=>([.c (.b p)],[])) fun _ _=>by unfold d24;exact bb
def d9S (N:Nat):Sg Tryz.prog 0 11:= .start [(12,[0,1,12,13],[],[])] [(0,[0,1]),(1,[0,1]),(2,[]),(3,[0,1]),(4,[13,12,0,1]),(5,[13,0,1,12]),(6,[0,5,1,13,12]),(7,[]),(8,[13,12,0,1]),(9,[])]
def a8c (N:Nat) (w1 w3:LD) (w4:Int) (w5:Int) (kr:Int→Option R) (k0:Unit→Option R) (k1:Unit→Option R):Option R:=
 bif (decide (w5<w4)) then
  bif (inB w5 w1.length) then
   bif (inB w5 w3.length) then
    bnd (!((((w1.getD w5.toNat (.i 0)).cell 0).toI==((w3.getD w5.toNat (.i 0)).cell 0).toI)&&((((w1.getD w5.toNat (.i 0)).cell 1).toI==((w3.getD w5.toNat (.i 0)).cell 1).toI)&&((((w1.getD w5.toNat (.i 0)).cell 2).toI==((w3.getD w5.toNat (.i 0)).cell 2).toI)&&((((w1.getD w5.toNat (.i 0)).cell 3).toB==((w3.getD w5.toNat (.i 0)).cell 3).toB)&&true))))) fun y0=>
    bif y0 then
     k0 ()
    else
     kr (IntKind.wrap .i64 (w5+1))
   else
    none
  else
   none
 else
  k1 ()
def b3L (N:Nat) {R:Type} (w1 w3:LD) (w4:Int):Nat→Int→(Unit→Option R)→(Unit→Option R)→Option R
 |0,_,_,_=>none
 |m+1,w5,k0,k1=>a8c N w1 w3 w4 w5 (fun w5=>b3L N w1 w3 w4 m w5 k0 k1) k0 k1
def b8A (w1 w3:LD) (w4:Int) (w5:Int):Option (Sum (Unit) (Unit)):=b3L N (R:=(Sum (Unit) (Unit))) w1 w3 w4 N w5 (fun p=>some (.inl p)) (fun p=>some (.inr p))
def d9T:=(d9S N).l2 (e2h N) 12 [5] [4] [] ⟨[(0,.c (.sl 40)),(1,.c (.sl 40)),(12,.c (.i .i64)),(13,.c (.i .i64))],[]⟩ N (fun L x _ kr=>a8c N (ll L 1) (ll L 3) (li L 4) (li x 0) (fun w5=>kr [.i w5])) (fun L m x=>b3L N (ll L 1) (ll L 3) (li L 4) m (li x 0) (fun p=>some (.inl p)) (fun p=>some (.inr p))) (fun s m L _=>(.ret,⟨[(4,.c (.b false))],[]⟩)) (fun s m L _=>((.exit 0),⟨[],[]⟩)) fun _ _ _ _ _ _=>by unfold a8c;exact bb
def d26 (v1 v3:LD) (k0:Bool→Option R):Option R:=
 bif ((v1.length:Int) !=(v3.length:Int)) then
  k0 false
 else
  bnd (b8A N v1 v3 (v1.length:Int) 0) fun y0=>
  bif (a1x y0) then
   k0 false
  else
   bif (a0w y0).isSome then
    k0 true
   else
    none
def d9U (v1 v3:LD):Option (Bool):=d26 N v1 v3 some
def e32:=(d9T N).f1 (e2h N) ⟨[(0,.c (.sl 40)),(1,.c (.sl 40))],[]⟩ (fun L _=>d26 N (ll L 1) (ll L 3)) (fun L p=>([.c (.b p)],[])) fun _ _=>by unfold d26;exact bb
def d9V (N:Nat):Sg Tryz.prog 0 31:= .start [] [(0,[0,2,1]),(1,[3,1,5]),(2,[8,3,1,5]),(3,[8]),(4,[3,1,5])]
def d9W (v1:LD) (v2:Int) (v3:LB) (v4 v5:Int) (v6:Bool) (v7:LD) (v8:Bool) (v9:LD) (v10:Bool) (v11:LD) (k0:Bool×LD×Int→Option R):Option R:=
 bnd (c8f N v1 v2 [(.a [(.s v3),(.i v4),(.i v5),(.l v6 v7),(.l v8 v9),(.l v10 v11)])]) fun y0=>
 bif y0.isSome then
  bif ((y0.getD default) !=0) then
   k0 (true,[],(y0.getD default))
  else
   bnd (d1k N v1 v2 [(.a [(.s v3),(.i v4),(.i v5),(.l v6 v7),(.l v8 v9),(.l v10 v11)])]) fun y1=>
   bif y1.isSome then
    k0 ((y1.getD default).1,(y1.getD default).2,0)
   else
    none
 else
  none
def e33 (v1:LD) (v2:Int) (v3:LB) (v4 v5:Int) (v6:Bool) (v7:LD) (v8:Bool) (v9:LD) (v10:Bool) (v11:LD):Option (Bool×LD×Int):=d9W N v1 v2 v3 v4 v5 v6 v7 v8 v9 v10 v11 some
def e34:=(d9V N).f1 (e32 N) ⟨[(0,.g ([.sl 67])),(1,.c (.i .i64)),(2,.g (.s::[.i .i64,.i .i64,.sl 69,.sl 95,.sl 9]))],[]⟩ (fun L _=>d9W N (ll L 1) (li L 2) (ls L 3) (li L 4) (li L 5) (lb L 6) (ll L 7) (lb L 8) (ll L 9) (lb L 10) (ll L 11)) (fun L p=>([.c (.sl 51 p.1 p.2.1),.c (.i .i64 p.2.2)],[])) fun _ _=>by unfold d9W;exact bb
def d9X (N:Nat):Sg Tryz.prog 0 12:= .start [] [(0,[]),(1,[]),(2,[1]),(3,[1,2]),(4,[4,3])]
def d9Y (k0:Bool→Option R):Option R:=
 bnd (e33 N [(.a [(.i 2),(.i 1),(.i 0),(.i 0),(.i 10),(.i 0),(.i 0),(.i 0),(.s ([]:List UInt8))])] 2 ([109]:List UInt8) 1 0 false [(.a [(.i 0),(.i 0),(.i 0),(.i 0),(.i (-1)),(.i (-1)),(.i (-1))]),(.a [(.i 10),(.i 100),(.i 0),(.i 0),(.i (-1)),(.i (-1)),(.i (-1))])] true [] true []) fun y0=>
 bif y0.isSome then
  bnd (bif ((y0.getD default).2.2==0) then (((y0.getD default).2.1.length:Int)==1) else false) fun y1=>
  bif (bif (inB 0 (y0.getD default).2.1.length) then true else (!(y1==true))) then
   bnd (bif y1 then ((((y0.getD default).2.1.getD 0 (.i 0)).cell 2).toI==10) else false) fun y2=>
   bif (bif (inB 0 (y0.getD default).2.1.length) then true else (!(y2==true))) then
    bnd (bif y2 then (((((y0.getD default).2.1.getD 0 (.i 0)).cell 3).items.length:Int)==1) else false) fun y3=>
    bif (bif (inB 0 (y0.getD default).2.1.length) then true else (!(y3==true))) then
     bif (bif (inB 0 (((y0.getD default).2.1.getD 0 (.i 0)).cell 3).items.length) then true else (!(y3==true))) then
      bnd (bif y3 then ((((((y0.getD default).2.1.getD 0 (.i 0)).cell 3).items.getD 0 (.i 0)).cell 1).toI==100) else false) fun y4=>
      k0 y4
     else
      none
    else
     none
   else
    none
  else
   none
 else
  none
def e2i:Option (Bool):=d9Y N some
def d9Z:=(d9X N).f1 (e34 N) ⟨[],[]⟩ (fun L _=>d9Y N) (fun L p=>([.c (.b p)],[])) fun _ _=>by unfold d9Y;exact bb
def e2j (N:Nat):Sg Tryz.prog 0 3:= .start [(22,[11,12,13,14,15,16,17,18,19,20,21,22],[15,17],[])] [(0,[0,1,2,3,4]),(1,[5,1,2,3,4]),(2,[5,1,2,3,4,11,12]),(3,[5,1,2,3,4,11,13,12,14]),(4,[5,1,2,3,4,11,13,12,14,15,16]),(5,[5,1,2,3,4,11,13,12,14,15,17,16,18]),(6,[5,1,2,3,4,11,13,12,14,15,17,16,18,19,20]),(7,[11,13,12,14,15,17,16,18,19,21,20,22])]
def b8B (w1:LD) (w2:Int) (w4:LD) (w5 w6 w7:Int) (w9:LD) (w10:Int) (w12:LD) (w13 w14 w15 w16 w17 w18 w19 w20 w21:Int) (k0:Bool→Option R):Option R:=
 bnd (d25 N w1 w4) fun y0=>
 bif y0.isSome then
  bnd (bif (bif (y0.getD default) then (w2==w5) else false) then ((w14==w18)&&((w15==w19)&&((w16==w20)&&((w17==w21)&&true)))) else false) fun y1=>
  bif (bif y1 then (w6==w7) else false) then
   bnd (d9U N w9 w12) fun y2=>
   bif y2.isSome then
    bif (bif (y2.getD default) then (w10==w13) else false) then
     bnd (e2i N) fun y3=>
     bif y3.isSome then
      k0 (y3.getD default)
     else
      none
    else
     k0 false
   else
    none
  else
   k0 false
 else
  none
def c9a (w1:LD) (w2:Int) (w4:LD) (w5 w6 w7:Int) (w9:LD) (w10:Int) (w12:LD) (w13 w14 w15 w16 w17 w18 w19 w20 w21:Int):Option (Bool):=b8B N w1 w2 w4 w5 w6 w7 w9 w10 w12 w13 w14 w15 w16 w17 w18 w19 w20 w21 some
def d27:Sh:={tmps:=[(11,.c (.sl 51)),(12,.c (.i .i64)),(13,.c (.sl 51)),(14,.c (.i .i64)),(15,.c (.p 15 0)),(16,.c (.i .i64)),(17,.c (.p 17 0)),(18,.c (.i .i64)),(19,.c (.sl 40)),(20,.c (.i .i64)),(21,.c (.sl 40)),(22,.c (.i .i64))],mem:=[(15,.box ([.i .i64,.i .i64,.i .i64,.i .i64])),(17,.box ([.i .i64,.i .i64,.i .i64,.i .i64]))]}
def d4A:=(e2j N).c1 (d9Z N) 22 100 [10] [] d27 (fun L _=>b8B N (ll L 1) (li L 2) (ll L 4) (li L 5) (li L 6) (li L 7) (ll L 9) (li L 10) (ll L 12) (li L 13) (li L 14) (li L 15) (li L 16) (li L 17) (li L 18) (li L 19) (li L 20) (li L 21)) (fun s m L p=>(.normal,⟨[(10,.c (.b p))],[]⟩)) fun _ _=>by unfold b8B;exact bb
def e2k (v1:LD) (v2:Int) (v4:LD) (v5:Int) (v7:LD) (k0:Bool→Option R):Option R:=
 bnd (e1u N v1 v2 v4) fun y0=>
 bif y0.isSome then
  bnd (e3z N v1 v2 v4) fun y1=>
  bif y1.isSome then
   bnd (e3D N v1 v2 v4) fun y2=>
   bif y2.isSome then
    bnd (e3I N v1 v2 v4) fun y3=>
    bif y3.isSome then
     bnd (e3X N v1 v2 v4 v5 v7) fun y4=>
     bif y4.isSome then
      bnd (e31 N v1 v2 v4 v5 v7) fun y5=>
      bif y5.isSome then
       bnd (c9a N (y0.getD default).2.1 (y0.getD default).2.2 (y1.getD default).2.1 (y1.getD default).2.2 (y2.getD default).2.2.2.2 (y3.getD default).2.2.2.2 (y4.getD default).2.1 (y4.getD default).2.2 (y5.getD default).2.1 (y5.getD default).2.2 (y2.getD default).1 (y2.getD default).2.1 (y2.getD default).2.2.1 (y2.getD default).2.2.2.1 (y3.getD default).1 (y3.getD default).2.1 (y3.getD default).2.2.1 (y3.getD default).2.2.2.1) fun y6=>
       bif y6.isSome then
        k0 (y6.getD default)
       else
        none
      else
       none
     else
      none
    else
     none
   else
    none
  else
   none
 else
  none
def e2l (v1:LD) (v2:Int) (v4:LD) (v5:Int) (v7:LD):Option (Bool):=e2k N v1 v2 v4 v5 v7 some
theorem d90 (v1:LD) (v2:Int) (v4:LD) (v5:Int) (v7:LD) (k0:Bool→Option R):e2k N v1 v2 v4 v5 v7 k0=(e2l N v1 v2 v4 v5 v7).bind k0:=by
 unfold e2l e2k
 repeat' (first|with_reducible apply a6P|(with_reducible apply b4G;intro _)|rfl)
def e4k (L:List Lf) (k0:Bool→Option R):Option R:=e2k N (ll L 1) (li L 2) (ll L 4) (li L 5) (ll L 7) k0
def e2m:Sh:={tmps:=[(0,.g ([.sl 67])),(1,.c (.i .i64)),(2,.c (.sl 51)),(3,.c (.i .i64)),(4,.c (.sl 3))],mem:=[]}
def e35 (L:List Lf):List (Bool×Res):=bnd (e4k N L some) fun q=>[(q.isSome,([.c (.b (q.getD default))],[]))]
theorem e2n (L:List Lf):bd Tryz.prog (d9Z N).o (d4A N).h 3 e2m L=e4k N L (fun p=>some ([.c (.b p)],[])):=by kernel_rfl
theorem e36:c7N Tryz.prog 3 e2m (e35 N):=
 (d4A N).fn a8w (d9Z N).ok fun L x hx=>((e2n N L).trans ((d90 N ..).trans (b95 x hx)))
end
end Go.Proofs.YtajladplkpfaiaaGreat
