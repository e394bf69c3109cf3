/- Functions of the program as plain Lean definitions, each with the proof that the program computes it. No condition. Printed by a program of the prover, part 1. -/
import Derived.Test.YtcdhfpkfmekabaaGreatDoorHk1
import Derived.Test.YtcdhfpkfmekabaaGreatDoorChecked
import Derived.KernelRfl
set_option linter.all false
set_option maxRecDepth 100000
set_option maxHeartbeats 4000000
namespace Go.Proofs.YtcdhfpkfmekabaaGreatDoor
open Go Go.AM
noncomputable section
variable (N:Nat) {R:Type}
abbrev LD:Type:=List D
abbrev LB:Type:=List UInt8
abbrev Ty0:Type:=Bool×LD×Bool×LD×Bool×LD×Bool×LD×Bool×LD
abbrev Ty1:Type:=LB×Int×Bool×LD×Bool×LD×Bool×LD
abbrev Ty2:Type:=LB×Int×Int×Int×Int×Int×Int×Bool×LD×Int
abbrev Ty3:Type:=Bool×Bool×Bool×Bool×Bool×Bool×Bool×Bool×LD
abbrev Ty4:Type:=Bool×Bool×Bool×Bool×Bool×Bool×LD×Bool×Bool
abbrev Ty5:Type:=Int×Int×Int×Int×Int×Int×Int×Int×Int×Int×Int
abbrev Ty6:Type:=Int×Int×Int×Int×Int×Int×LB
abbrev Ty7:Type:=Bool×Bool×Bool×Bool×Bool×Bool×Bool
abbrev Ty8:Type:=Int×Int×Int×Int×Int×Int×Int×Int
abbrev Ty9:Type:=Bool×LD×Bool×LD
abbrev c5n:Type:=(List (D×D))×Bool×LD
def bX0:HO:= .box (.s::[.i .i64,.i .i64,.sl 42,.sl 81,.sl 9])
def bX1:HO:= .box (rI 7 ([]))
def bX2:HO:= .box (rB 5 ([.sl 3,.b,.b]))
def bX3:HO:= .box ([.sl 124])
def gX4:HV:= .g (.s::[.i .i64,.i .i64,.sl 42,.sl 81,.sl 9])
def bX5:HO:= .box (rI 8 ([.s]))
def bX6:HO:= .box ([.o 50002005])
def bX7:HO:= .box ([.i .i64])
def bX8:HO:= .box ([.i .i64,.i .i64,.i .i64,.b])
def gX9:HV:= .g ([.sl 124])
def c7z:HO:= .box ([.i .i64,.i .i64,.i .i64])
def c9L:HV:= .g (rI 7 ([]))
def d5R:HV:= .g (rI 8 ([.s]))
def d5S:HO:= .box ([.i .i64,.i .i64,.i .i64,.sl 192,.sl 5])
def d5T:HO:= .box (.b::[.b,.i .i64,.sl 144,.i .i64,.i .i64])
def e0u:HO:= .box ([.i .i64,.i .i64,.i .i64,.i .i64])
def e0v:HO:= .box ([.o 1,.b])
def e0w:HO:= .box (.s::[.i .i64,.i .i64,.o 95000000007,.sl 81,.sl 9])
def e03:HO:= .box (rB 5 ([.o 50003005,.b,.b]))
def e04:HO:= .box ([.sl 154])
def e3f:HO:= .box ([.o 24050002005])
def e3g:HO:= .box ([.o 50029000,.b])
def e3U:HO:= .box (.s::[.i .i64,.i .i64,.o 50008003,.o 50008004,.sl 9])
def e3V:HO:= .box (.s::[.i .i64,.i .i64,.o 50008003,.o 50008004,.o 29000000007])
def e3W:HV:= .g ([.i .i64,.i .i64,.i .i64,.sl 192,.sl 5])
def d5U (N:Nat):Sg Tryz.prog 0 30:= .start [] [(0,[0,1,2]),(1,[0,1,2])]
def d0I (N:Nat) (v0 v1 v2:Int) (k0:Bool→R):R:=
 k0 (bif (decide (v0≥v1)) then (decide (v0≤v2)) else false)
def b1P (v0 v1 v2:Int):Bool:=d0I N v0 v1 v2 (fun p=>p)
def e3X:=(d5U N).f0 (Oc.no a6d) ⟨[(0,cI),(1,cI),(2,cI)],[]⟩ (fun L _=>d0I N (li L 0) (li L 1) (li L 2)) (fun L p=>([.c (.b p)],[])) fun _ _=>by unfold d0I;exact kk
def d0J (N:Nat):Sg Tryz.prog 0 111:= .start [] [(0,[0]),(1,[0])]
def b9u (N:Nat) (v0:Int) (k0:Bool→R):R:=
 k0 (bif (decide (v0≥48)) then (decide (v0≤57)) else false)
def c7A (v0:Int):Bool:=b9u N v0 (fun p=>p)
def c7B:=(d0J N).f0 (e3X N) ⟨[(0,.c (.i .u8))],[]⟩ (fun L _=>b9u N (li L 0)) (fun L p=>([.c (.b p)],[])) fun _ _=>by unfold b9u;exact kk
def d5V (N:Nat):Sg Tryz.prog 0 77:= .start [(6,[0,7,8],[],[]),(19,[0,4,5,7,8],[],[])] [(0,[0]),(1,[0]),(2,[8,7,0]),(3,[8,0,7]),(4,[0,3,8,7]),(5,[4,8,7,0]),(6,[5,4,8,7,0]),(7,[]),(8,[8,7,0]),(9,[0])]
def a9c (w1:Int) (w2:Bool) (k0:Bool→R):R:=
 bif (!w2) then
  bnd (c7A N w1) fun y0=>
  bnd (bif (bif (!y0) then (w1 !=45) else false) then (w1 !=95) else false) fun y1=>
  k0 (bif y1 then (w1 !=46) else false)
 else
  k0 false
def b6L (w1:Int) (w2:Bool):Bool:=a9c N w1 w2 (fun p=>p)
def d5W:=(d5V N).c0 (c7B N) 19 100 [0,7,8,46] [] ⟨[(0,cS),(4,.c (.i .u8)),(5,cB),(7,cI),(8,cI)],[]⟩ (fun L _=>a9c N (li L 1) (lb L 2)) (fun s m L p=>(.normal,m [(46,.c (.b p))] [])) fun _ _=>by unfold a9c;exact kk
def a5Q (w0:LB) (w1:Int) (w2:Int) (kr:Int→Option R) (k0:Unit→Option R) (k1:Unit→Option R):Option R:=
 bif (decide (w2<w1)) then
  bif (inB w2 w0.length) then
   bnd (bif (decide (((w0.getD w2.toNat 0).toNat:Int)≥97)) then (decide (((w0.getD w2.toNat 0).toNat:Int)≤122)) else false) fun y0=>
   bnd (bif y0 then true else (bif (decide (((w0.getD w2.toNat 0).toNat:Int)≥65)) then (decide (((w0.getD w2.toNat 0).toNat:Int)≤90)) else false)) fun y1=>
   bnd (b6L N ((w0.getD w2.toNat 0).toNat:Int) y1) fun y2=>
   bif y2 then
    k0 ()
   else
    kr (IntKind.wrap .i64 (w2+1))
  else
   none
 else
  k1 ()
def b3Y (N:Nat) {R:Type} (w0:LB) (w1:Int):Nat→Int→(Unit→Option R)→(Unit→Option R)→Option R
 |0,_,_,_=>none
 |m+1,w2,k0,k1=>a5Q N w0 w1 w2 (fun w2=>b3Y N w0 w1 m w2 k0 k1) k0 k1
def b3Z (w0:LB) (w1:Int) (w2:Int):Option (Sum (Unit) (Unit)):=b3Y N (R:=(Sum (Unit) (Unit))) w0 w1 N w2 (fun p=>some (.inl p)) (fun p=>some (.inr p))
def d5X:=(d5W N).l2 (c7B N) 6 [2] [0,2] [] ⟨[(0,cS),(7,cI),(8,cI)],[]⟩ N (fun L x _ kr=>a5Q N (ls L 0) (li L 1) (li x 0) (fun w2=>kr [.i w2])) (fun L m x=>b3Y N (ls L 0) (li L 1) m (li x 0) (fun p=>some (.inl p)) (fun p=>some (.inr p))) (fun s m L _=>(.ret,⟨[(2,.c (.b false))],[]⟩)) (fun s m L _=>((.exit 0),⟨[(0,.c (.s (ls L 0)))],[]⟩)) fun _ _ _ _ _ _=>by unfold a5Q;exact bb
def c7C (v0:LB) (k0:Bool→Option R):Option R:=
 bnd (b3Z N v0 (v0.length:Int) 0) fun y0=>
 bif (a0U y0) then
  k0 false
 else
  bif (a0n y0).isSome then
   bnd (bif (decide ((v0.length:Int)≥1)) then (decide ((v0.length:Int)≤60)) else false) fun y1=>
   k0 y1
  else
   none
def c1m (v0:LB):Option (Bool):=c7C N v0 some
def b9v:=(d5X N).f1 (c7B N) ⟨[(0,cS)],[]⟩ (fun L _=>c7C N (ls L 0)) (fun L p=>([.c (.b p)],[])) fun _ _=>by unfold c7C;exact bb
def d5Y (N:Nat):Sg Tryz.prog 0 93:= .start [(28,[1,3],[1,3],[]),(89,[1,3,84],[1,3],[]),(84077,[1,3,18,77],[1,3],[]),(72065,[1,3,18,70],[1,3],[]),(60053,[1,3,18,63],[1,3],[]),(48041,[1,3,18,40],[1,3],[]),(36029,[1,3,18,19],[1,3],[])] [(0,[0]),(1,[1]),(3,[1]),(4,[]),(2,[]),(5,[1]),(6,[3,1]),(7,[1,3]),(8,[18,1,3]),(12,[18,1,3]),(16,[18,1,3]),(20,[18,1,3]),(24,[18,1,3]),(28,[18,1,3]),(29,[1,3]),(30,[]),(31,[3]),(25,[1,3]),(26,[]),(27,[3]),(21,[1,3]),(22,[]),(23,[3]),(17,[1,3]),(18,[]),(19,[3]),(13,[1,3]),(14,[]),(15,[3]),(9,[1,3]),(10,[]),(11,[3]),(32,[3]),(33,[]),(34,[])]
def b15 (w2 w3 w4:Int) (k0:Bool→R):R:=
 bnd (b1P N w2 (-100000000) 100000000) fun y0=>
 bif (!y0) then
  k0 true
 else
  bnd (b1P N w3 (-100000000) 100000000) fun y1=>
  bif (!y1) then
   k0 true
  else
   bnd (b1P N w4 0 1000000) fun y2=>
   k0 (!y2)
def c22 (w2 w3 w4:Int):Bool:=b15 N w2 w3 w4 (fun p=>p)
def d5Z:=(d5Y N).c0 (b9v N) 28 100 [3,36] [3] ⟨[(1,cP 1),(3,cP 3)],[(1,bX5),(3,bX5)]⟩ (fun L _=>b15 N (li L 2) (li L 3) (li L 4)) (fun s m L p=>(.normal,m [(36,.c (.b p))] [])) fun _ _=>by unfold b15;exact kk
def a7d (w0:Bool) (w9 w18:LB) (k0:Unit→Option R) (k1:LB→Option R):Option R:=
 bif w0 then
  bnd (c1m N w9) fun y0=>
  bif y0.isSome then
   bif (!(y0.getD default)) then
    k0 ()
   else
    k1 ([]:List UInt8)
  else
   none
 else
  k1 w18
def b16 (w0:Bool) (w9 w18:LB):Option (Sum (Unit) (LB)):=a7d N w0 w9 w18 (fun p=>some (.inl p)) (fun p=>some (.inr p))
def d50:=(d5Z N).c2 (b9v N) 89 100 [2,3] [3] ⟨[(1,cP 1),(3,cP 3),(84,cB)],[(1,bX5),(3,bX5)]⟩ (fun L _=>a7d N (lb L 0) (ls L 9) (ls L 18)) (fun s m L _=>(.ret,mg s [2] [(2,.c (.i .i64 8))] [3] [])) (fun s m L p=>(.normal,⟨[(3,.c (.p 3 0))],[(3,.box (rL L 10 8 ([.s p])))]⟩)) fun _ _ _=>by unfold a7d;exact bb
def a2t (w0:Int) (w1:Bool) (w9:Int) (w10:LB) (w18:Int) (w19:LB) (k0:Int→Option R) (k1:Int×LB→Option R):Option R:=
 bif w1 then
  bnd (b1P N w9 1 5) fun y0=>
  bif (!y0) then
   k0 7
  else
   k1 (0,w19)
 else
  bnd (b16 N (w0==4) w10 w19) fun y1=>
  bif (a0U y1) then
   k0 8
  else
   bif (a0n y1).isSome then
    k1 (w18,((a0n y1).getD default))
   else
    none
def a4k (w0:Int) (w1:Bool) (w9:Int) (w10:LB) (w18:Int) (w19:LB):Option (Sum (Int) (Int×LB)):=a2t N w0 w1 w9 w10 w18 w19 (fun p=>some (.inl p)) (fun p=>some (.inr p))
def d51:=(d50 N).c2 (b9v N) 84077 100 [2,3] [3] ⟨[(1,cP 1),(3,cP 3),(18,cI),(77,cB)],[(1,bX5),(3,bX5)]⟩ (fun L _=>a2t N (li L 0) (lb L 1) (li L 9) (ls L 10) (li L 18) (ls L 19)) (fun s m L p=>(.ret,mg s [2] [(2,.c (.i .i64 p))] [3] [])) (fun s m L p=>(.normal,⟨[(3,.c (.p 3 0))],[(3,.box (rL L 11 7 ([.i .i64 p.1,.s p.2])))]⟩)) fun _ _ _=>by unfold a2t;exact bb
def a17 (w0:Int) (w1:Bool) (w9:Int) (w10:LB) (w18:Int) (w19:LB) (k0:Int→Option R) (k1:Int×LB→Option R):Option R:=
 bif w1 then
  bnd (b1P N w9 1 1000000) fun y0=>
  bif (!y0) then
   k0 9
  else
   k1 (0,w19)
 else
  bnd (a4k N w0 (w0==5) w9 w10 w18 w19) fun y1=>
  bif (a0U y1) then
   k0 (a1E y1)
  else
   bif (a0n y1).isSome then
    k1 ((a0n y1).getD default)
   else
    none
def a3d (w0:Int) (w1:Bool) (w9:Int) (w10:LB) (w18:Int) (w19:LB):Option (Sum (Int) (Int×LB)):=a17 N w0 w1 w9 w10 w18 w19 (fun p=>some (.inl p)) (fun p=>some (.inr p))
def d52:=(d51 N).c2 (b9v N) 72065 100 [2,3] [3] ⟨[(1,cP 1),(3,cP 3),(18,cI),(70,cB)],[(1,bX5),(3,bX5)]⟩ (fun L _=>a17 N (li L 0) (lb L 1) (li L 9) (ls L 10) (li L 18) (ls L 19)) (fun s m L p=>(.ret,mg s [2] [(2,.c (.i .i64 p))] [3] [])) (fun s m L p=>(.normal,⟨[(3,.c (.p 3 0))],[(3,.box (rL L 11 7 ([.i .i64 p.1,.s p.2])))]⟩)) fun _ _ _=>by unfold a17;exact bb
def a1U (w0:Int) (w1:Bool) (w9:Int) (w10:LB) (w18:Int) (w19:LB) (k0:Int→Option R) (k1:Int×LB→Option R):Option R:=
 bif w1 then
  bnd (b1P N w9 1 4) fun y0=>
  bif (!y0) then
   k0 9
  else
   k1 (0,w19)
 else
  bnd (a3d N w0 (w0==8) w9 w10 w18 w19) fun y1=>
  bif (a0U y1) then
   k0 (a1E y1)
  else
   bif (a0n y1).isSome then
    k1 ((a0n y1).getD default)
   else
    none
def a2u (w0:Int) (w1:Bool) (w9:Int) (w10:LB) (w18:Int) (w19:LB):Option (Sum (Int) (Int×LB)):=a1U N w0 w1 w9 w10 w18 w19 (fun p=>some (.inl p)) (fun p=>some (.inr p))
def d53:=(d52 N).c2 (b9v N) 60053 100 [2,3] [3] ⟨[(1,cP 1),(3,cP 3),(18,cI),(63,cB)],[(1,bX5),(3,bX5)]⟩ (fun L _=>a1U N (li L 0) (lb L 1) (li L 9) (ls L 10) (li L 18) (ls L 19)) (fun s m L p=>(.ret,mg s [2] [(2,.c (.i .i64 p))] [3] [])) (fun s m L p=>(.normal,⟨[(3,.c (.p 3 0))],[(3,.box (rL L 11 7 ([.i .i64 p.1,.s p.2])))]⟩)) fun _ _ _=>by unfold a1U;exact bb
def a1z (w0:Int) (w1:Bool) (w7 w8 w9:Int) (w10:LB) (w16 w17 w18:Int) (w19:LB) (k0:Int→Option R) (k1:Int×Int×Int×LB→Option R):Option R:=
 bif w1 then
  bnd (bif (bif (decide (w7<0)) then true else (decide (w7>w8))) then true else (decide (w8≥86400))) fun y0=>
  bif y0 then
   k0 9
  else
   k1 (0,0,w18,w19)
 else
  bnd (a2u N w0 (w0==3) w9 w10 w18 w19) fun y1=>
  bif (a0U y1) then
   k0 (a1E y1)
  else
   bif (a0n y1).isSome then
    k1 (w16,w17,((a0n y1).getD default).1,((a0n y1).getD default).2)
   else
    none
def a18 (w0:Int) (w1:Bool) (w7 w8 w9:Int) (w10:LB) (w16 w17 w18:Int) (w19:LB):Option (Sum (Int) (Int×Int×Int×LB)):=a1z N w0 w1 w7 w8 w9 w10 w16 w17 w18 w19 (fun p=>some (.inl p)) (fun p=>some (.inr p))
def d54:=(d53 N).c2 (b9v N) 48041 100 [2,3] [3] ⟨[(1,cP 1),(3,cP 3),(18,cI),(40,cB)],[(1,bX5),(3,bX5)]⟩ (fun L _=>a1z N (li L 0) (lb L 1) (li L 7) (li L 8) (li L 9) (ls L 10) (li L 16) (li L 17) (li L 18) (ls L 19)) (fun s m L p=>(.ret,mg s [2] [(2,.c (.i .i64 p))] [3] [])) (fun s m L p=>(.normal,⟨[(3,.c (.p 3 0))],[(3,.box (rL L 11 5 ([.i .i64 p.1,.i .i64 p.2.1,.i .i64 p.2.2.1,.s p.2.2.2])))]⟩)) fun _ _ _=>by unfold a1z;exact bb
def a1a (w0:Int) (w1:Bool) (w4 w5 w6 w7 w8 w9:Int) (w10:LB) (w13 w14 w15 w16 w17 w18:Int) (w19:LB) (k0:Int→Option R) (k1:Ty6→Option R):Option R:=
 bif w1 then
  bnd (c22 N w4 w5 w6) fun y0=>
  bif y0 then
   k0 9
  else
   k1 (0,0,0,w16,w17,w18,w19)
 else
  bnd (a18 N w0 (w0==2) w7 w8 w9 w10 w16 w17 w18 w19) fun y1=>
  bif (a0U y1) then
   k0 (a1E y1)
  else
   bif (a0n y1).isSome then
    k1 (w13,w14,w15,((a0n y1).getD default).1,((a0n y1).getD default).2.1,((a0n y1).getD default).2.2.1,((a0n y1).getD default).2.2.2)
   else
    none
def a1V (w0:Int) (w1:Bool) (w4 w5 w6 w7 w8 w9:Int) (w10:LB) (w13 w14 w15 w16 w17 w18:Int) (w19:LB):Option (Sum (Int) (Ty6)):=a1a N w0 w1 w4 w5 w6 w7 w8 w9 w10 w13 w14 w15 w16 w17 w18 w19 (fun p=>some (.inl p)) (fun p=>some (.inr p))
def d55:=(d54 N).c2 (b9v N) 36029 100 [2,3] [3] ⟨[(1,cP 1),(3,cP 3),(18,cI),(19,cB)],[(1,bX5),(3,bX5)]⟩ (fun L _=>a1a N (li L 0) (lb L 1) (li L 4) (li L 5) (li L 6) (li L 7) (li L 8) (li L 9) (ls L 10) (li L 13) (li L 14) (li L 15) (li L 16) (li L 17) (li L 18) (ls L 19)) (fun s m L p=>(.ret,mg s [2] [(2,.c (.i .i64 p))] [3] [])) (fun s m L p=>let p1:=p.2;let p2:=p1.2;let p3:=p2.2;let p4:=p3.2;let p5:=p4.2;let p6:=p5.2;(.normal,⟨[(3,.c (.p 3 0))],[(3,.box [.i .i64 (li L 11),.i .i64 (li L 12),.i .i64 p.1,.i .i64 p1.1,.i .i64 p2.1,.i .i64 p3.1,.i .i64 p4.1,.i .i64 p5.1,.s p6])]⟩)) fun _ _ _=>by unfold a1a;exact bb
def d0K (v0 v1 v2 v3 v4 v5 v6 v7:Int) (v8:LB) (k0:Int→Option R):Option R:=
 bnd (b1P N v1 1 8) fun y0=>
 bif (!y0) then
  k0 7
 else
  bnd (b1P N v0 1 3) fun y1=>
  bif (!y1) then
   k0 9
  else
   bnd (a1V N v1 (v1==1) v2 v3 v4 v5 v6 v7 v8 v2 v3 v4 v5 v6 v7 v8) fun y2=>
   bif (a0U y2) then
    k0 (a1E y2)
   else
    bif (a0n y2).isSome then
     bnd (!((((a0n y2).getD default).1==0)&&((((a0n y2).getD default).2.1==0)&&((((a0n y2).getD default).2.2.1==0)&&(((((a0n y2).getD default).2.2.2.1==0)&&((((a0n y2).getD default).2.2.2.2.1==0)&&true))&&((((a0n y2).getD default).2.2.2.2.2.1==0)&&((((a0n y2).getD default).2.2.2.2.2.2==([]:List UInt8))&&true))))))) fun y3=>
     bif y3 then
      k0 2
     else
      k0 0
    else
     none
def d56 (v0 v1 v2 v3 v4 v5 v6 v7:Int) (v8:LB):Option (Int):=d0K N v0 v1 v2 v3 v4 v5 v6 v7 v8 some
def e05:=(d55 N).f1 (b9v N) ⟨[(0,d5R)],[]⟩ (fun L _=>d0K N (li L 0) (li L 1) (li L 2) (li L 3) (li L 4) (li L 5) (li L 6) (li L 7) (ls L 8)) (fun L p=>([.c (.i .i64 p)],[])) fun _ _=>by unfold d0K;exact bb
def d57 (N:Nat):Sg Tryz.prog 0 47:= .start [(12,[11,12,13],[],[])] [(0,[0]),(1,[1]),(2,[]),(3,[1]),(4,[13,12,11]),(5,[11,13,12]),(6,[4,13,12,11]),(7,[5,13,12,11]),(8,[5]),(9,[13,12,11]),(10,[])]
def a7e (w1:LD) (w2:Int) (w3:Int) (kr:Int→Option R) (k0:Int→Option R) (k1:Unit→Option R):Option R:=
 bif (decide (w3<w2)) then
  bif (inB w3 w1.length) then
   bnd (d56 N ((w1.getD w3.toNat (.i 0)).cell 0).toI ((w1.getD w3.toNat (.i 0)).cell 1).toI ((w1.getD w3.toNat (.i 0)).cell 2).toI ((w1.getD w3.toNat (.i 0)).cell 3).toI ((w1.getD w3.toNat (.i 0)).cell 4).toI ((w1.getD w3.toNat (.i 0)).cell 5).toI ((w1.getD w3.toNat (.i 0)).cell 6).toI ((w1.getD w3.toNat (.i 0)).cell 7).toI ((w1.getD w3.toNat (.i 0)).cell 8).toS) fun y0=>
   bif y0.isSome then
    bif ((y0.getD default) !=0) then
     k0 (y0.getD default)
    else
     kr (IntKind.wrap .i64 (w3+1))
   else
    none
  else
   none
 else
  k1 ()
def b17 (N:Nat) {R:Type} (w1:LD) (w2:Int):Nat→Int→(Int→Option R)→(Unit→Option R)→Option R
 |0,_,_,_=>none
 |m+1,w3,k0,k1=>a7e N w1 w2 w3 (fun w3=>b17 N w1 w2 m w3 k0 k1) k0 k1
def b6M (w1:LD) (w2:Int) (w3:Int):Option (Sum (Int) (Unit)):=b17 N (R:=(Sum (Int) (Unit))) w1 w2 N w3 (fun p=>some (.inl p)) (fun p=>some (.inr p))
def d58:=(d57 N).l2 (e05 N) 12 [3] [2] [] ⟨[(11,cL 124),(12,cI),(13,cI)],[]⟩ N (fun L x _ kr=>a7e N (ll L 1) (li L 2) (li x 0) (fun w3=>kr [.i w3])) (fun L m x=>b17 N (ll L 1) (li L 2) m (li x 0) (fun p=>some (.inl p)) (fun p=>some (.inr p))) (fun s m L p=>(.ret,⟨[(2,.c (.i .i64 p))],[]⟩)) (fun s m L _=>((.exit 0),⟨[],[]⟩)) fun _ _ _ _ _ _=>by unfold a7e;exact bb
def d0L (v1:LD) (k0:Int→Option R):Option R:=
 bif (decide ((v1.length:Int)>50)) then
  k0 3
 else
  bnd (b6M N v1 (v1.length:Int) 0) fun y0=>
  bif (a0U y0) then
   k0 (a1E y0)
  else
   bif (a0n y0).isSome then
    k0 0
   else
    none
def d59 (v1:LD):Option (Int):=d0L N v1 some
def e3Y:=(d58 N).f1 (e05 N) ⟨[(0,gX9)],[]⟩ (fun L _=>d0L N (ll L 1)) (fun L p=>([.c (.i .i64 p)],[])) fun _ _=>by unfold d0L;exact bb
def d6a (N:Nat):Sg Tryz.prog 0 78:= .start [] [(0,[0,1,2]),(1,[0,1,2])]
def c7D (N:Nat) (v0 v1 v2:Int) (k0:Bool→R):R:=
 k0 (bif (decide (v0≥v1)) then (decide (v0≤v2)) else false)
def a5c (v0 v1 v2:Int):Bool:=c7D N v0 v1 v2 (fun p=>p)
def d6b:=(d6a N).f0 (e3Y N) ⟨[(0,cI),(1,cI),(2,cI)],[]⟩ (fun L _=>c7D N (li L 0) (li L 1) (li L 2)) (fun L p=>([.c (.b p)],[])) fun _ _=>by unfold c7D;exact kk
def d6c (N:Nat):Sg Tryz.prog 0 79:= .start [(4,[1],[1],[]),(7,[1,3],[1],[])] [(0,[0]),(1,[1]),(2,[3,1])]
def b30 (w1 w2 w3:Int) (k0:Bool→R):R:=
 bnd (a5c N w1 (-100000000) 100000000) fun y0=>
 bif y0 then
  bnd (a5c N w2 (-100000000) 100000000) fun y1=>
  bif y1 then
   bnd (a5c N w3 (-100000) 100000) fun y2=>
   k0 y2
  else
   k0 false
 else
  k0 false
def c1n (w1 w2 w3:Int):Bool:=b30 N w1 w2 w3 (fun p=>p)
def d6d:=(d6c N).c0 (d6b N) 4 100 [1,3] [1] ⟨[(1,cP 1)],[(1,bX1)]⟩ (fun L _=>b30 N (li L 1) (li L 2) (li L 3)) (fun s m L p=>(.normal,m [(3,.c (.b p))] [])) fun _ _=>by unfold b30;exact kk
def b31 (w0:Bool) (w5 w6 w7:Int) (k0:Bool→R):R:=
 bif w0 then
  bnd (a5c N w5 (-1) 300) fun y0=>
  bif y0 then
   bnd (a5c N w6 (-1) 3000) fun y1=>
   bif y1 then
    bnd (a5c N w7 (-1) 300) fun y2=>
    k0 y2
   else
    k0 false
  else
   k0 false
 else
  k0 false
def c1o (w0:Bool) (w5 w6 w7:Int):Bool:=b31 N w0 w5 w6 w7 (fun p=>p)
def d6e:=(d6d N).c0 (d6b N) 7 100 [2] [] ⟨[(1,cP 1),(3,cB)],[(1,bX1)]⟩ (fun L _=>b31 N (lb L 0) (li L 5) (li L 6) (li L 7)) (fun s m L p=>(.normal,⟨[(2,.c (.b p))],[]⟩)) fun _ _=>by unfold b31;exact kk
def c7E (v1 v2 v3 v4 v5 v6:Int) (k0:Bool→R):R:=
 bnd (c1n N v1 v2 v3) fun y0=>
 bnd (c1o N y0 v4 v5 v6) fun y1=>
 k0 y1
def d6f (v1 v2 v3 v4 v5 v6:Int):Bool:=c7E N v1 v2 v3 v4 v5 v6 (fun p=>p)
def e3Z:=(d6e N).f0 (d6b N) ⟨[(0,c9L)],[]⟩ (fun L _=>c7E N (li L 1) (li L 2) (li L 3) (li L 4) (li L 5) (li L 6)) (fun L p=>([.c (.b p)],[])) fun _ _=>by unfold c7E;exact kk
def d6g (N:Nat):Sg Tryz.prog 0 29:= .start [] [(0,[0]),(1,[1]),(2,[3,1]),(3,[1,3]),(4,[])]
def c7F (N:Nat) (v4:LD) (k0:Int→Option R):Option R:=
 bif (decide ((v4.length:Int)>0)) then
  bif (inB (IntKind.wrap .i64 ((v4.length:Int)-1)) v4.length) then
   bnd ((v4.getD (IntKind.wrap .i64 ((v4.length:Int)-1)).toNat (.i 0)):D) fun y0=>
   k0 (y0.cell 0).toI
  else
   none
 else
  k0 0
def a8r (v4:LD):Option (Int):=c7F N v4 some
def e06:=(d6g N).f1 (e3Z N) ⟨[(0,gX4)],[]⟩ (fun L _=>c7F N (ll L 4)) (fun L p=>([.c (.i .i64 p)],[])) fun _ _=>by unfold c7F;exact bb
def d6h (N:Nat):Sg Tryz.prog 0 80:= .start [(6,[0,5,6],[],[])] [(0,[0]),(1,[0]),(2,[6,5,0]),(3,[6,0,5]),(4,[0,3,6,5]),(5,[]),(6,[6,5,0]),(7,[0])]
def a5R (w0:LB) (w1:Int) (w2:Int) (kr:Int→Option R) (k0:Unit→Option R) (k1:Unit→Option R):Option R:=
 bif (decide (w2<w1)) then
  bif (inB w2 w0.length) then
   bnd (a5c N (IntKind.wrap .i64 ((w0.getD w2.toNat 0).toNat:Int)) 32 126) fun y0=>
   bif (!y0) then
    k0 ()
   else
    kr (IntKind.wrap .i64 (w2+1))
  else
   none
 else
  k1 ()
def b32 (N:Nat) {R:Type} (w0:LB) (w1:Int):Nat→Int→(Unit→Option R)→(Unit→Option R)→Option R
 |0,_,_,_=>none
 |m+1,w2,k0,k1=>a5R N w0 w1 w2 (fun w2=>b32 N w0 w1 m w2 k0 k1) k0 k1
def b33 (w0:LB) (w1:Int) (w2:Int):Option (Sum (Unit) (Unit)):=b32 N (R:=(Sum (Unit) (Unit))) w0 w1 N w2 (fun p=>some (.inl p)) (fun p=>some (.inr p))
def d6i:=(d6h N).l2 (e06 N) 6 [2] [0,2] [] ⟨[(0,cS),(5,cI),(6,cI)],[]⟩ N (fun L x _ kr=>a5R N (ls L 0) (li L 1) (li x 0) (fun w2=>kr [.i w2])) (fun L m x=>b32 N (ls L 0) (li L 1) m (li x 0) (fun p=>some (.inl p)) (fun p=>some (.inr p))) (fun s m L _=>(.ret,⟨[(2,.c (.b false))],[]⟩)) (fun s m L _=>((.exit 0),⟨[(0,.c (.s (ls L 0)))],[]⟩)) fun _ _ _ _ _ _=>by unfold a5R;exact bb
def c7G (v0:LB) (k0:Bool→Option R):Option R:=
 bnd (b33 N v0 (v0.length:Int) 0) fun y0=>
 bif (a0U y0) then
  k0 false
 else
  bif (a0n y0).isSome then
   k0 (decide ((v0.length:Int)≤60))
  else
   none
def c7H (v0:LB):Option (Bool):=c7G N v0 some
def b9w:=(d6i N).f1 (e06 N) ⟨[(0,cS)],[]⟩ (fun L _=>c7G N (ls L 0)) (fun L p=>([.c (.b p)],[])) fun _ _=>by unfold c7G;exact bb
def d6j (N:Nat):Sg Tryz.prog 0 37:= .start [(30,[1,43,44,45],[1],[]),(40,[1,3,4,43,44,45],[1,4],[]),(39002,[1,3,4,43,44,45,50],[1,4],[]),(46,[1,4,43,44,45],[1,4],[]),(60,[1,5,93,94,95],[1],[]),(73,[1,5,6,7,93,94,95],[1,7],[]),(90,[1,139,140,141],[1],[])] [(0,[0]),(1,[1]),(3,[1]),(5,[1]),(7,[1]),(8,[]),(6,[]),(4,[]),(2,[]),(9,[1]),(10,[45,44,43,1]),(11,[45,43,1,44]),(12,[3,4,1,45,44,43]),(13,[3,4,1,45,44,43]),(15,[4,1,45,44,43]),(16,[]),(14,[]),(17,[45,44,43,1]),(18,[1]),(19,[1,5]),(20,[95,94,93,5,1]),(21,[95,93,5,1,94]),(22,[7,5,6,1,95,94,93]),(24,[6,7,1,95,94,93,5]),(26,[7,95,94,93,5,1]),(27,[]),(25,[]),(23,[]),(28,[95,94,93,5,1]),(29,[1]),(30,[141,140,139,1]),(31,[141,139,1,140]),(32,[9,8,1,141,140,139]),(34,[8,9,1,141,140,139]),(35,[]),(33,[]),(36,[141,140,139,1]),(37,[])]
def a9d (N:Nat) (w0:Int) (w9:LD) (w14:Int) (k0:Bool→Option R):Option R:=
 bif (decide (w0>0)) then
  bif (inB (IntKind.wrap .i64 (w0-1)) w9.length) then
   bnd ((w9.getD (IntKind.wrap .i64 (w0-1)).toNat (.i 0)).cell 0).toI fun y0=>
   k0 (decide (w14≤y0))
  else
   none
 else
  k0 false
def b6N (w0:Int) (w9:LD) (w14:Int):Option (Bool):=a9d N w0 w9 w14 some
def d6k:=(d6j N).c1 (b9w N) 40 100 [1,4,43,44,45,50] [1,4] ⟨[(1,cP 1),(3,cI),(4,cP 4),(43,cL 42),(44,cI),(45,cI)],[(1,bX0),(4,bX1)]⟩ (fun L _=>a9d N (li L 0) (ll L 9) (li L 14)) (fun s m L p=>(.normal,m [(50,.c (.b p))] [])) fun _ _=>by unfold a9d;exact bb
def a4l (w0:Int) (w5:Bool) (w10:LD) (w15:Int) (k0:Bool→Option R):Option R:=
 bif w5 then
  k0 true
 else
  bnd (b6N N w0 w10 w15) fun y0=>
  bif y0.isSome then
   k0 (y0.getD default)
  else
   none
def a4m (w0:Int) (w5:Bool) (w10:LD) (w15:Int):Option (Bool):=a4l N w0 w5 w10 w15 some
def d6l:=(d6k N).c1 (b9w N) 39002 100 [1,4,43,44,45,50] [1,4] ⟨[(1,cP 1),(3,cI),(4,cP 4),(43,cL 42),(44,cI),(45,cI),(50,cB)],[(1,bX0),(4,bX1)]⟩ (fun L _=>a4l N (li L 0) (lb L 5) (ll L 10) (li L 15)) (fun s m L p=>(.normal,m [(50,.c (.b p))] [])) fun _ _=>by unfold a4l;exact bb
def a9e (w6 w13 w14 w15 w16 w17 w18 w19:Int) (k0:Bool→R):R:=
 bnd (bif (decide (w13>1000000)) then true else (decide ((IntKind.wrap .i64 (w6+w13))>86399999999))) fun y0=>
 bif y0 then
  k0 true
 else
  bnd (d6f N w14 w15 w16 w17 w18 w19) fun y1=>
  k0 (!y1)
def a9f (w6 w13 w14 w15 w16 w17 w18 w19:Int):Bool:=a9e N w6 w13 w14 w15 w16 w17 w18 w19 (fun p=>p)
def d6m:=(d6l N).c0 (b9w N) 46 100 [1,43,44,45,72] [1] ⟨[(1,cP 1),(4,cP 4),(43,cL 42),(44,cI),(45,cI)],[(1,bX0),(4,bX1)]⟩ (fun L _=>a9e N (li L 6) (li L 13) (li L 14) (li L 15) (li L 16) (li L 17) (li L 18) (li L 19)) (fun s m L p=>(.normal,m [(72,.c (.b p))] [])) fun _ _=>by unfold a9e;exact kk
def a3X (w1:LD) (w2 w6:Int) (w8:LD) (w3:Int) (kr:Int→Option R) (k0:Int→Option R) (k1:Unit→Option R):Option R:=
 bif (decide (w3<w2)) then
  bif (inB w3 w1.length) then
   bnd (bif (w3==0) then (((w1.getD w3.toNat (.i 0)).cell 0).toI !=0) else false) fun y0=>
   bnd (a4m N w3 y0 w8 ((w1.getD w3.toNat (.i 0)).cell 0).toI) fun y1=>
   bif y1.isSome then
    bif (y1.getD default) then
     k0 10
    else
     bnd (a9f N w6 ((w1.getD w3.toNat (.i 0)).cell 0).toI ((w1.getD w3.toNat (.i 0)).cell 1).toI ((w1.getD w3.toNat (.i 0)).cell 2).toI ((w1.getD w3.toNat (.i 0)).cell 3).toI ((w1.getD w3.toNat (.i 0)).cell 4).toI ((w1.getD w3.toNat (.i 0)).cell 5).toI ((w1.getD w3.toNat (.i 0)).cell 6).toI) fun y2=>
     bif y2 then
      k0 9
     else
      kr (IntKind.wrap .i64 (w3+1))
   else
    none
  else
   none
 else
  k1 ()
def a9g (N:Nat) {R:Type} (w1:LD) (w2 w6:Int) (w8:LD):Nat→Int→(Int→Option R)→(Unit→Option R)→Option R
 |0,_,_,_=>none
 |m+1,w3,k0,k1=>a3X N w1 w2 w6 w8 w3 (fun w3=>a9g N w1 w2 w6 w8 m w3 k0 k1) k0 k1
def a9h (w1:LD) (w2 w6:Int) (w8:LD) (w3:Int):Option (Sum (Int) (Unit)):=a9g N (R:=(Sum (Int) (Unit))) w1 w2 w6 w8 N w3 (fun p=>some (.inl p)) (fun p=>some (.inr p))
def d6n:=(d6m N).l2 (b9w N) 30 [3] [1,2] [1] ⟨[(1,cP 1),(43,cL 42),(44,cI),(45,cI)],[(1,bX0)]⟩ N (fun L x _ kr=>a3X N (ll L 1) (li L 2) (li L 6) (ll L 8) (li x 0) (fun w3=>kr [.i w3])) (fun L m x=>a9g N (ll L 1) (li L 2) (li L 6) (ll L 8) m (li x 0) (fun p=>some (.inl p)) (fun p=>some (.inr p))) (fun s m L p=>(.ret,mg s [2] [(2,.c (.i .i64 p))] [1] [])) (fun s m L _=>((.exit 1),mg s [1] [] [1] [])) fun _ _ _ _ _ _=>by unfold a3X;exact bb
def a9i (N:Nat) (w1:Int) (w12:LD) (w15:Int) (k0:Bool→Option R):Option R:=
 bif (decide (w1>0)) then
  bif (inB (IntKind.wrap .i64 (w1-1)) w12.length) then
   bnd ((w12.getD (IntKind.wrap .i64 (w1-1)).toNat (.i 0)).cell 1).toI fun y0=>
   k0 (decide (w15<y0))
  else
   none
 else
  k0 false
def a9j (w1:Int) (w12:LD) (w15:Int):Option (Bool):=a9i N w1 w12 w15 some
def d6o:=(d6n N).c1 (b9w N) 73 100 [1,5,7,93,94,95,117] [1,7] ⟨[(1,cP 1),(5,cI),(6,cI),(7,cP 7),(93,cL 81),(94,cI),(95,cI)],[(1,bX0),(7,.box ([.i .i64,.i .i64,.s]))]⟩ (fun L _=>a9i N (li L 1) (ll L 12) (li L 15)) (fun s m L p=>(.normal,m [(117,.c (.b p))] [])) fun _ _=>by unfold a9i;exact bb
def a3Y (w0:Int) (w2:LD) (w3:Int) (w11:LD) (w4:Int) (kr:Int→Option R) (k0:Int→Option R) (k1:Unit→Option R):Option R:=
 bif (decide (w4<w3)) then
  bif (inB w4 w2.length) then
   bnd (bif (decide (((w2.getD w4.toNat (.i 0)).cell 0).toI<0)) then true else (decide (((w2.getD w4.toNat (.i 0)).cell 0).toI≥((w2.getD w4.toNat (.i 0)).cell 1).toI))) fun y0=>
   bnd (bif y0 then true else (decide (((w2.getD w4.toNat (.i 0)).cell 1).toI>w0))) fun y1=>
   bif y1 then
    k0 9
   else
    bnd (a9j N w4 w11 ((w2.getD w4.toNat (.i 0)).cell 0).toI) fun y2=>
    bif y2.isSome then
     bif (y2.getD default) then
      k0 10
     else
      bnd (c7H N ((w2.getD w4.toNat (.i 0)).cell 2).toS) fun y3=>
      bif y3.isSome then
       bif (!(y3.getD default)) then
        k0 8
       else
        kr (IntKind.wrap .i64 (w4+1))
      else
       none
    else
     none
  else
   none
 else
  k1 ()
def a9k (N:Nat) {R:Type} (w0:Int) (w2:LD) (w3:Int) (w11:LD):Nat→Int→(Int→Option R)→(Unit→Option R)→Option R
 |0,_,_,_=>none
 |m+1,w4,k0,k1=>a3Y N w0 w2 w3 w11 w4 (fun w4=>a9k N w0 w2 w3 w11 m w4 k0 k1) k0 k1
def a9l (w0:Int) (w2:LD) (w3:Int) (w11:LD) (w4:Int):Option (Sum (Int) (Unit)):=a9k N (R:=(Sum (Int) (Unit))) w0 w2 w3 w11 N w4 (fun p=>some (.inl p)) (fun p=>some (.inr p))
def d6p:=(d6o N).l2 (b9w N) 60 [4] [1,2] [1] ⟨[(1,cP 1),(5,cI),(93,cL 81),(94,cI),(95,cI)],[(1,bX0)]⟩ N (fun L x _ kr=>a3Y N (li L 0) (ll L 2) (li L 3) (ll L 11) (li x 0) (fun w4=>kr [.i w4])) (fun L m x=>a9k N (li L 0) (ll L 2) (li L 3) (ll L 11) m (li x 0) (fun p=>some (.inl p)) (fun p=>some (.inr p))) (fun s m L p=>(.ret,mg s [2] [(2,.c (.i .i64 p))] [1] [])) (fun s m L _=>((.exit 4),mg s [1] [] [1] [])) fun _ _ _ _ _ _=>by unfold a3Y;exact bb
def a3Z (w1:LD) (w2:Int) (w12:LD) (w3:Int) (kr:Int→Option R) (k0:Int→Option R) (k1:Unit→Option R):Option R:=
 bif (decide (w3<w2)) then
  bif (inB w3 w1.length) then
   bnd (c1m N (w1.getD w3.toNat (.i 0)).toS) fun y0=>
   bif y0.isSome then
    bif (!(y0.getD default)) then
     k0 8
    else
     bif (bif (inB (IntKind.wrap .i64 (w3-1)) w12.length) then true else (!((decide (w3>0))==true))) then
      bnd (bif (decide (w3>0)) then ((Op.bytesLess (w1.getD w3.toNat (.i 0)).toS (w12.getD (IntKind.wrap .i64 (w3-1)).toNat (.i 0)).toS)||((w1.getD w3.toNat (.i 0)).toS==(w12.getD (IntKind.wrap .i64 (w3-1)).toNat (.i 0)).toS)) else false) fun y1=>
      bif y1 then
       k0 10
      else
       kr (IntKind.wrap .i64 (w3+1))
     else
      none
   else
    none
  else
   none
 else
  k1 ()
def a9m (N:Nat) {R:Type} (w1:LD) (w2:Int) (w12:LD):Nat→Int→(Int→Option R)→(Unit→Option R)→Option R
 |0,_,_,_=>none
 |m+1,w3,k0,k1=>a3Z N w1 w2 w12 w3 (fun w3=>a9m N w1 w2 w12 m w3 k0 k1) k0 k1
def a9n (w1:LD) (w2:Int) (w12:LD) (w3:Int):Option (Sum (Int) (Unit)):=a9m N (R:=(Sum (Int) (Unit))) w1 w2 w12 N w3 (fun p=>some (.inl p)) (fun p=>some (.inr p))
def d6q:=(d6p N).l2 (b9w N) 90 [3] [2] [] ⟨[(1,cP 1),(139,cL 9),(140,cI),(141,cI)],[(1,bX0)]⟩ N (fun L x _ kr=>a3Z N (ll L 1) (li L 2) (ll L 12) (li x 0) (fun w3=>kr [.i w3])) (fun L m x=>a9m N (ll L 1) (li L 2) (ll L 12) m (li x 0) (fun p=>some (.inl p)) (fun p=>some (.inr p))) (fun s m L p=>(.ret,⟨[(2,.c (.i .i64 p))],[]⟩)) (fun s m L _=>((.exit 7),⟨[],[]⟩)) fun _ _ _ _ _ _=>by unfold a3Z;exact bb
def c7I (v0 :LB) (v1 v2:Int) (v4 v6 v8:LD) (k0:Int→Option R):Option R:=
 bnd (c1m N v0) fun y0=>
 bif y0.isSome then
  bif (!(y0.getD default)) then
   k0 8
  else
   bnd (a5c N v1 1 5) fun y1=>
   bif (!y1) then
    k0 7
   else
    bnd (a5c N v2 0 86399999999) fun y2=>
    bif (!y2) then
     k0 9
    else
     bnd (bif (decide ((v4.length:Int)>20000)) then true else (decide ((v6.length:Int)>200))) fun y3=>
     bnd (bif y3 then true else (decide ((v8.length:Int)>20))) fun y4=>
     bif y4 then
      k0 3
     else
      bnd (a9h N v4 (v4.length:Int) v2 v4 0) fun y5=>
      bif (a0U y5) then
       k0 (a1E y5)
      else
       bif (a0n y5).isSome then
        bnd (a8r N v4) fun y6=>
        bif y6.isSome then
         bnd (a9l N (y6.getD default) v6 (v6.length:Int) v6 0) fun y7=>
         bif (a0U y7) then
          k0 (a1E y7)
         else
          bif (a0n y7).isSome then
           bnd (a9n N v8 (v8.length:Int) v8 0) fun y8=>
           bif (a0U y8) then
            k0 (a1E y8)
           else
            bif (a0n y8).isSome then
             k0 0
            else
             none
          else
           none
        else
         none
       else
        none
 else
  none
def b1Q (v0:LB) (v1 v2:Int) (v4 v6 v8:LD):Option (Int):=c7I N v0 v1 v2 v4 v6 v8 some
def e07:=(d6q N).f1 (b9w N) ⟨[(0,gX4)],[]⟩ (fun L _=>c7I N (ls L 0) (li L 1) (li L 2) (ll L 4) (ll L 6) (ll L 8)) (fun L p=>([.c (.i .i64 p)],[])) fun _ _=>by unfold c7I;exact bb
def d6r (N:Nat):Sg Tryz.prog 0 22:= .start [(21,[19,20,21],[],[])] [(0,[0,1,2]),(1,[3,1,2]),(2,[7,1,2]),(3,[7]),(4,[1,2]),(5,[]),(6,[2]),(7,[21,20,19]),(8,[19,21,20]),(9,[9,21,20,19]),(10,[10,21,20,19]),(11,[10]),(12,[21,20,19]),(13,[])]
def a7f (w1:LD) (w2:Int) (w3:Int) (kr:Int→Option R) (k0:Int→Option R) (k1:Unit→Option R):Option R:=
 bif (decide (w3<w2)) then
  bif (inB w3 w1.length) then
   bnd (b1Q N ((w1.getD w3.toNat (.i 0)).cell 0).toS ((w1.getD w3.toNat (.i 0)).cell 1).toI ((w1.getD w3.toNat (.i 0)).cell 2).toI ((w1.getD w3.toNat (.i 0)).cell 3).items ((w1.getD w3.toNat (.i 0)).cell 4).items ((w1.getD w3.toNat (.i 0)).cell 5).items) fun y0=>
   bif y0.isSome then
    bif ((y0.getD default) !=0) then
     k0 (y0.getD default)
    else
     kr (IntKind.wrap .i64 (w3+1))
   else
    none
  else
   none
 else
  k1 ()
def b18 (N:Nat) {R:Type} (w1:LD) (w2:Int):Nat→Int→(Int→Option R)→(Unit→Option R)→Option R
 |0,_,_,_=>none
 |m+1,w3,k0,k1=>a7f N w1 w2 w3 (fun w3=>b18 N w1 w2 m w3 k0 k1) k0 k1
def b6O (w1:LD) (w2:Int) (w3:Int):Option (Sum (Int) (Unit)):=b18 N (R:=(Sum (Int) (Unit))) w1 w2 N w3 (fun p=>some (.inl p)) (fun p=>some (.inr p))
def d6s:=(d6r N).l2 (e07 N) 21 [3] [6] [] ⟨[(19,cL 36),(20,cI),(21,cI)],[]⟩ N (fun L x _ kr=>a7f N (ll L 1) (li L 2) (li x 0) (fun w3=>kr [.i w3])) (fun L m x=>b18 N (ll L 1) (li L 2) m (li x 0) (fun p=>some (.inl p)) (fun p=>some (.inr p))) (fun s m L p=>(.ret,⟨[(6,.c (.i .i64 p))],[]⟩)) (fun s m L _=>((.exit 0),⟨[],[]⟩)) fun _ _ _ _ _ _=>by unfold a7f;exact bb
def d0M (v1:LD) (v2:Int) (v4:LD) (k0:Int→Option R):Option R:=
 bnd (d59 N v1) fun y0=>
 bif y0.isSome then
  bif ((y0.getD default) !=0) then
   k0 (y0.getD default)
  else
   bnd (b1P N v2 0 3) fun y1=>
   bif (!y1) then
    k0 9
   else
    bnd (b6O N v4 (v4.length:Int) 0) fun y2=>
    bif (a0U y2) then
     k0 (a1E y2)
    else
     bif (a0n y2).isSome then
      k0 0
     else
      none
 else
  none
def c7J (v1:LD) (v2:Int) (v4:LD):Option (Int):=d0M N v1 v2 v4 some
def e30:=(d6s N).f1 (e07 N) ⟨[(0,gX9),(1,cI),(2,cL 36)],[]⟩ (fun L _=>d0M N (ll L 1) (li L 2) (ll L 4)) (fun L p=>([.c (.i .i64 p)],[])) fun _ _=>by unfold d0M;exact bb
def d6t (N:Nat):Sg Tryz.prog 0 18:= .start [] [(0,[0,1,2]),(1,[3,1,2]),(2,[7,2,3,1]),(3,[7]),(4,[2,3,1]),(5,[]),(6,[3,1,2])]
def d0N (v1:LD) (v2:Int) (v4:LD) (k0:Int→Option R):Option R:=
 bnd (c7J N v1 v2 []) fun y0=>
 bif y0.isSome then
  bif ((y0.getD default) !=0) then
   k0 (y0.getD default)
  else
   bif (decide ((v4.length:Int)>2000)) then
    k0 3
   else
    bnd (c7J N v1 v2 v4) fun y1=>
    bif y1.isSome then
     k0 (y1.getD default)
    else
     none
 else
  none
def d6u (v1:LD) (v2:Int) (v4:LD):Option (Int):=d0N N v1 v2 v4 some
def d6v:=(d6t N).f1 (e30 N) ⟨[(0,gX9),(1,cI),(2,cL 36)],[]⟩ (fun L _=>d0N N (ll L 1) (li L 2) (ll L 4)) (fun L p=>([.c (.i .i64 p)],[])) fun _ _=>by unfold d0N;exact bb
def d6w (N:Nat):Sg Tryz.prog 0 24:= .start [(9,[1,5,9,10,11],[5],[5]),(20,[1,5,7,9,10,11,18],[5,7],[])] [(0,[0,1]),(1,[2,1]),(2,[2,1,5]),(3,[11,10,9,1,5]),(4,[9,11,1,5,10]),(5,[7,1,5,11,10,9]),(6,[5,7,11,10,9,1]),(7,[11,10,9,1,5]),(8,[5])]
def b19 (N:Nat) (w5:Bool) (w7:LD) (w8 w9 w10 w11 w12 w13 w14 w15:Int) (w16:LB) (k0:LD→Option R) (k1:Unit→Option R):Option R:=
 bif w5 then
  bif (decide ((w7.length+1)*80≤a0X)&&decide ((w7.length+1)≤a0c)) then
   bnd ((w7++[(.a [(.i w8),(.i w9),(.i w10),(.i w11),(.i w12),(.i w13),(.i w14),(.i w15),(.s w16)])]):List D) fun y0=>
   k0 y0
  else
   none
 else
  k1 ()
def c23 (w5:Bool) (w7:LD) (w8 w9 w10 w11 w12 w13 w14 w15:Int) (w16:LB):Option (Sum (LD) (Unit)):=b19 N w5 w7 w8 w9 w10 w11 w12 w13 w14 w15 w16 (fun p=>some (.inl p)) (fun p=>some (.inr p))
def d6x:=(d6w N).c2 (d6v N) 20 100 [1,5,9,10,11] [5,22] ⟨[(1,cI),(5,cO 5),(7,cP 7),(9,cL 124),(10,cI),(11,cI),(18,cB)],[(5,.row 124 true),(7,bX5)]⟩ (fun L _=>b19 N (lb L 5) (ll L 7) (li L 8) (li L 9) (li L 10) (li L 11) (li L 12) (li L 13) (li L 14) (li L 15) (ls L 16)) (fun s m L p=>(.normal,mg s [1,5,9,10,11] [(5,.c (.o 22))] [22] [(22,.row 124 true false p)])) (fun s m L _=>(.normal,mg s [1,5,9,10,11] [] [5] [])) fun _ _ _=>by unfold b19;exact bb
def b0B (w0:Int) (w2:LD) (w3:Int) (w4:Int) (w5:Bool) (w6:LD) (kr:Int→Bool→LD→Option R) (k0:Bool×LD→Option R):Option R:=
 bif (decide (w4<w3)) then
  bif (inB w4 w2.length) then
   bnd (c23 N (decide (((w2.getD w4.toNat (.i 0)).cell 0).toI≤w0)) w6 ((w2.getD w4.toNat (.i 0)).cell 0).toI ((w2.getD w4.toNat (.i 0)).cell 1).toI ((w2.getD w4.toNat (.i 0)).cell 2).toI ((w2.getD w4.toNat (.i 0)).cell 3).toI ((w2.getD w4.toNat (.i 0)).cell 4).toI ((w2.getD w4.toNat (.i 0)).cell 5).toI ((w2.getD w4.toNat (.i 0)).cell 6).toI ((w2.getD w4.toNat (.i 0)).cell 7).toI ((w2.getD w4.toNat (.i 0)).cell 8).toS) fun y0=>
   bif (a0U y0) then
    kr (IntKind.wrap .i64 (w4+1)) false (a1E y0)
   else
    bif (a0n y0).isSome then
     kr (IntKind.wrap .i64 (w4+1)) w5 w6
    else
     none
  else
   none
 else
  k0 (w5,w6)
def b6P (N:Nat) {R:Type} (w0:Int) (w2:LD) (w3:Int):Nat→Int→Bool→LD→(Bool×LD→Option R)→Option R
 |0,_,_,_,_=>none
 |m+1,w4,w5,w6,k0=>b0B N w0 w2 w3 w4 w5 w6 (fun w4 w5 w6=>b6P N w0 w2 w3 m w4 w5 w6 k0) k0
def c1p (w0:Int) (w2:LD) (w3:Int) (w4:Int) (w5:Bool) (w6:LD):Option (Bool×LD):=b6P N (R:=(Bool×LD)) w0 w2 w3 N w4 w5 w6 some
def d6y:=(d6x N).l1 (d6v N) 9 [4,5,6] [4,5] [5] ⟨[(1,cI),(5,cO 5),(9,cL 124),(10,cI),(11,cI)],[(5,.row 124 true)]⟩ N (fun L x _ kr=>b0B N (li L 0) (ll L 2) (li L 3) (li x 0) (lb x 1) (ll x 2) (fun w4 w5 w6=>kr [.i w4,.b w5,.l w6])) (fun L m x=>b6P N (li L 0) (ll L 2) (li L 3) m (li x 0) (lb x 1) (ll x 2) some) (fun s m L p=>((.exit 0),⟨[(5,.c (.o 5))],[(5,.row 124 true p.1 p.2)]⟩)) fun _ _ _ _ _=>by unfold b0B;exact bb
def d0O (v1:LD) (v2:Int) (k0:Bool×LD→Option R):Option R:=
 bnd (c1p N v2 v1 (v1.length:Int) 0 true []) fun y0=>
 bif y0.isSome then
  k0 (y0.getD default)
 else
  none
def d0P (v1:LD) (v2:Int):Option (Bool×LD):=d0O N v1 v2 some
def e32:=(d6y N).f1 (d6v N) ⟨[(0,gX9),(1,cI)],[]⟩ (fun L _=>d0O N (ll L 1) (li L 2)) (fun L p=>([.c (.sl 124 p.1 p.2)],[])) fun _ _=>by unfold d0O;exact bb
def d6z (N:Nat):Sg Tryz.prog 0 40:= .start [] [(0,[0,1]),(1,[2,3])]
def e08 (N:Nat) (k0:Unit→R):R:=
 k0 ()
def e33:=(d6z N).f0 (e32 N) ⟨[(0,cL 124),(1,gX4)],[]⟩ (fun L _=>e08 N) (fun L _=>([.c (.f 81 [(2,0),(3,0)])],[(2,.box [.sl 124 (lb L 0) (ll L 1)]),(3,.box [.s (ls L 2),.i .i64 (li L 3),.i .i64 (li L 4),.sl 42 (lb L 5) (ll L 6),.sl 81 (lb L 7) (ll L 8),.sl 9 (lb L 9) (ll L 10)])])) fun _ _=>by unfold e08;exact kk
def d6A (N:Nat):Sg Tryz.prog 0 48:= .start [] [(0,[0,1]),(1,[3,2])]
def d6B (N:Nat) (v7 v10:Int) (k0:Bool→R):R:=
 k0 (v10==v7)
def e34 (v7 v10:Int):Bool:=d6B N v7 v10 (fun p=>p)
def e09:=(d6A N).f0 (e33 N) ⟨[(0,d5R),(1,gX4)],[]⟩ (fun L _=>d6B N (li L 7) (li L 10)) (fun L p=>([.c (.b p)],[])) fun _ _=>by unfold d6B;exact kk
def d0Q (N:Nat):Sg Tryz.prog 0 130:= .start [(6,[0,1,7,8],[],[])] [(0,[0,1]),(1,[0,1]),(2,[8,7,1,0]),(3,[8,1,0,7]),(4,[1,0,5,8,7]),(5,[5]),(6,[8,7,1,0]),(7,[])]
def a7g (N:Nat) (w1:LD) (w2:LB) (w3:Int) (w4:Int) (kr:Int→Option R) (k0:Int→Option R) (k1:Unit→Option R):Option R:=
 bif (decide (w4<w3)) then
  bif (inB w4 w1.length) then
   bif (w2==(w1.getD w4.toNat (.i 0)).toS) then
    k0 w4
   else
    kr (IntKind.wrap .i64 (w4+1))
  else
   none
 else
  k1 ()
def b2a (N:Nat) {R:Type} (w1:LD) (w2:LB) (w3:Int):Nat→Int→(Int→Option R)→(Unit→Option R)→Option R
 |0,_,_,_=>none
 |m+1,w4,k0,k1=>a7g N w1 w2 w3 w4 (fun w4=>b2a N w1 w2 w3 m w4 k0 k1) k0 k1
def b6Q (w1:LD) (w2:LB) (w3:Int) (w4:Int):Option (Sum (Int) (Unit)):=b2a N (R:=(Sum (Int) (Unit))) w1 w2 w3 N w4 (fun p=>some (.inl p)) (fun p=>some (.inr p))
def d0R:=(d0Q N).l2 (e09 N) 6 [4] [4] [] ⟨[(0,cL 9),(1,cS),(7,cI),(8,cI)],[]⟩ N (fun L x _ kr=>a7g N (ll L 1) (ls L 2) (li L 3) (li x 0) (fun w4=>kr [.i w4])) (fun L m x=>b2a N (ll L 1) (ls L 2) (li L 3) m (li x 0) (fun p=>some (.inl p)) (fun p=>some (.inr p))) (fun s m L p=>(.ret,⟨[(4,.c (.i .i64 p))],[]⟩)) (fun s m L _=>((.exit 0),⟨[],[]⟩)) fun _ _ _ _ _ _=>by unfold a7g;exact bb
def c24 (v1:LD) (v2:LB) (k0:Int→Option R):Option R:=
 bnd (b6Q N v1 v2 (v1.length:Int) 0) fun y0=>
 bif (a0U y0) then
  k0 (a1E y0)
 else
  bif (a0n y0).isSome then
   k0 (-1)
  else
   none
def c7K (v1:LD) (v2:LB):Option (Int):=c24 N v1 v2 some
def e1a:=(d0R N).f1 (e09 N) ⟨[(0,cL 9),(1,cS)],[]⟩ (fun L _=>c24 N (ll L 1) (ls L 2)) (fun L p=>([.c (.i .i64 p)],[])) fun _ _=>by unfold c24;exact bb
def d6C (N:Nat):Sg Tryz.prog 0 94:= .start [] [(0,[0,1]),(1,[0,1])]
def d0S (v1:LD) (v2:LB) (k0:Bool→Option R):Option R:=
 bnd (c7K N v1 v2) fun y0=>
 bif y0.isSome then
  k0 (decide ((y0.getD default)≥0))
 else
  none
def d6D (v1:LD) (v2:LB):Option (Bool):=d0S N v1 v2 some
def e35:=(d6C N).f1 (e1a N) ⟨[(0,cL 9),(1,cS)],[]⟩ (fun L _=>d0S N (ll L 1) (ls L 2)) (fun L p=>([.c (.b p)],[])) fun _ _=>by unfold d0S;exact bb
def d6E (N:Nat):Sg Tryz.prog 0 49:= .start [] [(0,[0,1]),(1,[3,2])]
def d0T (v8:LB) (v17:LD) (k0:Bool→Option R):Option R:=
 bnd (d6D N v17 v8) fun y0=>
 bif y0.isSome then
  k0 (y0.getD default)
 else
  none
def e1b (v8:LB) (v17:LD):Option (Bool):=d0T N v8 v17 some
def e1c:=(d6E N).f1 (e35 N) ⟨[(0,d5R),(1,gX4)],[]⟩ (fun L _=>d0T N (ls L 8) (ll L 17)) (fun L p=>([.c (.b p)],[])) fun _ _=>by unfold d0T;exact bb
def d6F (N:Nat):Sg Tryz.prog 3 53:= .start [(4,[1,2,3],[0,1,2,6],[])] [(0,[0,1,2]),(1,[1,3,2]),(2,[6,5,3,2])]
def b6R (N:Nat) (w11:Int) (k0:Unit→Option R) (k1:Unit→Option R) (k2:Unit→Option R):Option R:=
 bif (w11==5) then
  k0 ()
 else
  bif (w11==4) then
   k1 ()
  else
   k2 ()
def c7L (w11:Int):Option (Sum (Unit) (Sum (Unit) (Unit))):=b6R N w11 (fun p=>some (.inl p)) (fun p=>some (.inr (.inl p))) (fun p=>some (.inr (.inr p)))
def d6G:=(d6F N).c3 (e1c N) 4 100 [2,3,5,6] [0,1,2,6] ⟨[(1,cP 0),(2,cP 1),(3,cP 6)],[(0,.box ([.m 2])),(1,bX0),(2,.kmap 3 113 [(5,48),(4,49)]),(6,bX5)]⟩ (fun L _=>b6R N (li L 11)) (fun s m L _=>(.normal,m [(5,.c (.f 48 [])),(6,.c (.b true))] [])) (fun s m L _=>(.normal,m [(5,.c (.f 49 [])),(6,.c (.b true))] [])) (fun s m L _=>(.normal,m [(5,.c (.v .nilFunc)),(6,.c (.b false))] [])) fun _ _ _ _=>by unfold b6R;exact bb
def d0U (v1 v7:Int) (v8:LB) (v10:Int) (v17:LD) (k0:Bool→Option R):Option R:=
 bnd (c7L N v1) fun y0=>
 bif (a0U y0) then
  bnd (e34 N v7 v10) fun y1=>
  k0 y1
 else
  bif (a0U (a0n y0)) then
   bnd (e1b N v8 v17) fun y2=>
   bif y2.isSome then
    k0 (y2.getD default)
   else
    none
  else
   bif (a0n (a0n y0)).isSome then
    k0 false
   else
    none
def d6H (v1 v7:Int) (v8:LB) (v10:Int) (v17:LD):Option (Bool):=d0U N v1 v7 v8 v10 v17 some
def d4s:Sh:={tmps:=[(0,d5R),(1,cP 0),(2,cP 1)],mem:=[(0,.box ([.m 2])),(1,bX0),(2,.kmap 3 113 [(5,48),(4,49)])]}
def e1d:=(d6G N).f1 (e1c N) d4s (fun L _=>d0U N (li L 1) (li L 7) (ls L 8) (li L 10) (ll L 17)) (fun L p=>([.c (.b p)],mgA (a16 d4s L).mem [] [0,1,2])) fun _ _=>by unfold d0U;exact bb
def d6I (N:Nat):Sg Tryz.prog 3 95:= .start [(6,[0,1,7,8],[0,1,2],[])] [(0,[0,1]),(1,[0,1]),(2,[8,7,1,0]),(3,[8,1,0,7]),(4,[1,0,5,8,7]),(5,[5]),(6,[8,7,1,0]),(7,[])]
def b0C (w1:LD) (w2 w5:Int) (w12:LD) (w3:Int) (kr:Int→Option R) (k0:Int→Option R) (k1:Unit→Option R):Option R:=
 bif (decide (w3<w2)) then
  bif (inB w3 w1.length) then
   bnd (d6H N ((w1.getD w3.toNat (.i 0)).cell 1).toI ((w1.getD w3.toNat (.i 0)).cell 7).toI ((w1.getD w3.toNat (.i 0)).cell 8).toS w5 w12) fun y0=>
   bif y0.isSome then
    bif (y0.getD default) then
     k0 w3
    else
     kr (IntKind.wrap .i64 (w3+1))
   else
    none
  else
   none
 else
  k1 ()
def b6S (N:Nat) {R:Type} (w1:LD) (w2 w5:Int) (w12:LD):Nat→Int→(Int→Option R)→(Unit→Option R)→Option R
 |0,_,_,_=>none
 |m+1,w3,k0,k1=>b0C N w1 w2 w5 w12 w3 (fun w3=>b6S N w1 w2 w5 w12 m w3 k0 k1) k0 k1
def c1q (w1:LD) (w2 w5:Int) (w12:LD) (w3:Int):Option (Sum (Int) (Unit)):=b6S N (R:=(Sum (Int) (Unit))) w1 w2 w5 w12 N w3 (fun p=>some (.inl p)) (fun p=>some (.inr p))
def d6J:=(d6I N).l2 (e1d N) 6 [3] [4] [0,1,2] ⟨[(0,cL 124),(1,.c (.f 53 [(0,0),(1,0)])),(7,cI),(8,cI)],[(0,.box ([.m 2])),(1,bX0),(2,.kmap 3 113 [(5,48),(4,49)])]⟩ N (fun L x _ kr=>b0C N (ll L 1) (li L 2) (li L 5) (ll L 12) (li x 0) (fun w3=>kr [.i w3])) (fun L m x=>b6S N (ll L 1) (li L 2) (li L 5) (ll L 12) m (li x 0) (fun p=>some (.inl p)) (fun p=>some (.inr p))) (fun s m L p=>(.ret,m [(4,.c (.i .i64 p))] [])) (fun s m L _=>((.exit 0),mg s [] [] [0,1,2] [])) fun _ _ _ _ _ _=>by unfold b0C;exact bb
def d0V (v1:LD) (v3:Int) (v10:LD) (k0:Int→Option R):Option R:=
 bnd (c1q N v1 (v1.length:Int) v3 v10 0) fun y0=>
 bif (a0U y0) then
  k0 (a1E y0)
 else
  bif (a0n y0).isSome then
   k0 (-1)
  else
   none
def e1e (v1:LD) (v3:Int) (v10:LD):Option (Int):=d0V N v1 v3 v10 some
def d4t:Sh:={tmps:=[(0,cL 124),(1,.c (.f 53 [(0,0),(1,0)]))],mem:=[(0,.box ([.m 2])),(1,bX0),(2,.kmap 3 113 [(5,48),(4,49)])]}
def e36:=(d6J N).f1 (e1d N) d4t (fun L _=>d0V N (ll L 1) (li L 3) (ll L 10)) (fun L p=>([.c (.i .i64 p)],mgA (a16 d4t L).mem [] [0,1,2])) fun _ _=>by unfold d0V;exact bb
def d6K (N:Nat):Sg Tryz.prog 3 52:= .start [] [(0,[0,1]),(1,[0,1])]
def d0W (v1:LD) (v3:Int) (v10:LD) (k0:Bool→Option R):Option R:=
 bnd (e1e N v1 v3 v10) fun y0=>
 bif y0.isSome then
  k0 (decide ((y0.getD default)≥0))
 else
  none
def d6L (v1:LD) (v3:Int) (v10:LD):Option (Bool):=d0W N v1 v3 v10 some
def d4u:Sh:={tmps:=[(0,cL 124),(1,.c (.f 53 [(0,0),(1,0)]))],mem:=[(0,.box ([.m 2])),(1,bX0),(2,.kmap 3 113 [(5,48),(4,49)])]}
def e39:=(d6K N).f1 (e36 N) d4u (fun L _=>d0W N (ll L 1) (li L 3) (ll L 10)) (fun L p=>([.c (.b p)],mgA (a16 d4u L).mem [] [0,1,2])) fun _ _=>by unfold d0W;exact bb
def d6M (N:Nat):Sg Tryz.prog 0 50:= .start [] [(0,[0,1,2]),(1,[5,3])]
def d6N (N:Nat) (v2 v3 v4 v19 v20:Int) (k0:Bool→R):R:=
 bnd (IntKind.wrap .i64 ((IntKind.wrap .i64 (v19-v2))*(IntKind.wrap .i64 (v19-v2)))) fun y0=>
 bnd (IntKind.wrap .i64 ((IntKind.wrap .i64 (v20-v3))*(IntKind.wrap .i64 (v20-v3)))) fun y1=>
 bnd (decide ((IntKind.wrap .i64 (y0+y1))≤(IntKind.wrap .i64 (v4*v4)))) fun y2=>
 k0 y2
def e4a (v2 v3 v4 v19 v20:Int):Bool:=d6N N v2 v3 v4 v19 v20 (fun p=>p)
def e4b:=(d6M N).f0 (e39 N) ⟨[(0,d5R),(1,gX4),(2,c9L)],[]⟩ (fun L _=>d6N N (li L 2) (li L 3) (li L 4) (li L 19) (li L 20)) (fun L p=>([.c (.b p)],[])) fun _ _=>by unfold d6N;exact kk
def d6O (N:Nat):Sg Tryz.prog 0 51:= .start [] [(0,[0,1,2]),(1,[4,5,3]),(2,[3,7])]
def d6P (N:Nat) (v5 v6 v11 v18:Int) (k0:Bool→R):R:=
 bnd (bif (decide (v5≤((IntKind.wrap .i64 (v11+v18)).tmod 86400))) then (decide (((IntKind.wrap .i64 (v11+v18)).tmod 86400)≤v6)) else false) fun y0=>
 k0 y0
def e4c (v5 v6 v11 v18:Int):Bool:=d6P N v5 v6 v11 v18 (fun p=>p)
def e1f:=(d6O N).f0 (e4b N) ⟨[(0,d5R),(1,gX4),(2,c9L)],[]⟩ (fun L _=>d6P N (li L 5) (li L 6) (li L 11) (li L 18)) (fun L p=>([.c (.b p)],[])) fun _ _=>by unfold d6P;exact kk
def d6Q (N:Nat):Sg Tryz.prog 4 54:= .start [(4,[1,2,3,4],[0,1,2,3,8],[])] [(0,[0,1,2,3]),(1,[1,4,2,3]),(2,[7,6,4,2,3])]
def b6T (N:Nat) (w18:Int) (k0:Unit→Option R) (k1:Unit→Option R) (k2:Unit→Option R):Option R:=
 bif (w18==1) then
  k0 ()
 else
  bif (w18==2) then
   k1 ()
  else
   k2 ()
def c7M (w18:Int):Option (Sum (Unit) (Sum (Unit) (Unit))):=b6T N w18 (fun p=>some (.inl p)) (fun p=>some (.inr (.inl p))) (fun p=>some (.inr (.inr p)))
def d6R:=(d6Q N).c3 (e1f N) 4 100 [2,3,4,6,7] [0,1,2,3,8] ⟨[(1,cP 0),(2,cP 1),(3,cP 2),(4,cP 8)],[(0,.box ([.m 3])),(1,bX0),(2,bX1),(3,.kmap 3 120 [(1,50),(2,51)]),(8,bX5)]⟩ (fun L _=>b6T N (li L 18)) (fun s m L _=>(.normal,m [(6,.c (.f 50 [])),(7,.c (.b true))] [])) (fun s m L _=>(.normal,m [(6,.c (.f 51 [])),(7,.c (.b true))] [])) (fun s m L _=>(.normal,m [(6,.c (.v .nilFunc)),(7,.c (.b false))] [])) fun _ _ _ _=>by unfold b6T;exact bb
def d0X (v1 v2 v3 v4 v5 v6 v11 v18 v19 v20:Int) (k0:Bool→Option R):Option R:=
 bnd (c7M N v1) fun y0=>
 bif (a0U y0) then
  bnd (e4a N v2 v3 v4 v19 v20) fun y1=>
  k0 y1
 else
  bif (a0U (a0n y0)) then
   bnd (e4c N v5 v6 v11 v18) fun y2=>
   k0 y2
  else
   bif (a0n (a0n y0)).isSome then
    k0 false
   else
    none
def d6S (v1 v2 v3 v4 v5 v6 v11 v18 v19 v20:Int):Option (Bool):=d0X N v1 v2 v3 v4 v5 v6 v11 v18 v19 v20 some
def d4v:Sh:={tmps:=[(0,d5R),(1,cP 0),(2,cP 1),(3,cP 2)],mem:=[(0,.box ([.m 3])),(1,bX0),(2,bX1),(3,.kmap 3 120 [(1,50),(2,51)])]}
def e1g:=(d6R N).f1 (e1f N) d4v (fun L _=>d0X N (li L 1) (li L 2) (li L 3) (li L 4) (li L 5) (li L 6) (li L 11) (li L 18) (li L 19) (li L 20)) (fun L p=>([.c (.b p)],mgA (a16 d4v L).mem [] [0,1,2,3])) fun _ _=>by unfold d0X;exact bb
def d6T (N:Nat):Sg Tryz.prog 4 95:= .start [(6,[0,1,7,8],[0,1,2,3],[])] [(0,[0,1]),(1,[0,1]),(2,[8,7,1,0]),(3,[8,1,0,7]),(4,[1,0,5,8,7]),(5,[5]),(6,[8,7,1,0]),(7,[])]
def b0D (w1:LD) (w2 w6 w13 w14 w15:Int) (w3:Int) (kr:Int→Option R) (k0:Int→Option R) (k1:Unit→Option R):Option R:=
 bif (decide (w3<w2)) then
  bif (inB w3 w1.length) then
   bnd (d6S N ((w1.getD w3.toNat (.i 0)).cell 1).toI ((w1.getD w3.toNat (.i 0)).cell 2).toI ((w1.getD w3.toNat (.i 0)).cell 3).toI ((w1.getD w3.toNat (.i 0)).cell 4).toI ((w1.getD w3.toNat (.i 0)).cell 5).toI ((w1.getD w3.toNat (.i 0)).cell 6).toI w6 w13 w14 w15) fun y0=>
   bif y0.isSome then
    bif (y0.getD default) then
     k0 w3
    else
     kr (IntKind.wrap .i64 (w3+1))
   else
    none
  else
   none
 else
  k1 ()
def b6U (N:Nat) {R:Type} (w1:LD) (w2 w6 w13 w14 w15:Int):Nat→Int→(Int→Option R)→(Unit→Option R)→Option R
 |0,_,_,_=>none
 |m+1,w3,k0,k1=>b0D N w1 w2 w6 w13 w14 w15 w3 (fun w3=>b6U N w1 w2 w6 w13 w14 w15 m w3 k0 k1) k0 k1
def c1r (w1:LD) (w2 w6 w13 w14 w15:Int) (w3:Int):Option (Sum (Int) (Unit)):=b6U N (R:=(Sum (Int) (Unit))) w1 w2 w6 w13 w14 w15 N w3 (fun p=>some (.inl p)) (fun p=>some (.inr p))
def d6U:=(d6T N).l2 (e1g N) 6 [3] [4] [0,1,2,3] ⟨[(0,cL 124),(1,.c (.f 54 [(0,0),(1,0),(2,0)])),(7,cI),(8,cI)],[(0,.box ([.m 3])),(1,bX0),(2,bX1),(3,.kmap 3 120 [(1,50),(2,51)])]⟩ N (fun L x _ kr=>b0D N (ll L 1) (li L 2) (li L 6) (li L 13) (li L 14) (li L 15) (li x 0) (fun w3=>kr [.i w3])) (fun L m x=>b6U N (ll L 1) (li L 2) (li L 6) (li L 13) (li L 14) (li L 15) m (li x 0) (fun p=>some (.inl p)) (fun p=>some (.inr p))) (fun s m L p=>(.ret,m [(4,.c (.i .i64 p))] [])) (fun s m L _=>((.exit 0),mg s [] [] [0,1,2,3] [])) fun _ _ _ _ _ _=>by unfold b0D;exact bb
def d0Y (v1:LD) (v4 v11 v12 v13:Int) (k0:Int→Option R):Option R:=
 bnd (c1r N v1 (v1.length:Int) v4 v11 v12 v13 0) fun y0=>
 bif (a0U y0) then
  k0 (a1E y0)
 else
  bif (a0n y0).isSome then
   k0 (-1)
  else
   none
def e1h (v1:LD) (v4 v11 v12 v13:Int):Option (Int):=d0Y N v1 v4 v11 v12 v13 some
def d4w:Sh:={tmps:=[(0,cL 124),(1,.c (.f 54 [(0,0),(1,0),(2,0)]))],mem:=[(0,.box ([.m 3])),(1,bX0),(2,bX1),(3,.kmap 3 120 [(1,50),(2,51)])]}
def e4d:=(d6U N).f1 (e1g N) d4w (fun L _=>d0Y N (ll L 1) (li L 4) (li L 11) (li L 12) (li L 13)) (fun L p=>([.c (.i .i64 p)],mgA (a16 d4w L).mem [] [0,1,2,3])) fun _ _=>by unfold d0Y;exact bb
def d6V (N:Nat):Sg Tryz.prog 4 52:= .start [] [(0,[0,1]),(1,[0,1])]
def d0Z (v1:LD) (v4 v11 v12 v13:Int) (k0:Bool→Option R):Option R:=
 bnd (e1h N v1 v4 v11 v12 v13) fun y0=>
 bif y0.isSome then
  k0 (decide ((y0.getD default)≥0))
 else
  none
def d6W (v1:LD) (v4 v11 v12 v13:Int):Option (Bool):=d0Z N v1 v4 v11 v12 v13 some
def d4x:Sh:={tmps:=[(0,cL 124),(1,.c (.f 54 [(0,0),(1,0),(2,0)]))],mem:=[(0,.box ([.m 3])),(1,bX0),(2,bX1),(3,.kmap 3 120 [(1,50),(2,51)])]}
def d6X:=(d6V N).f1 (e4d N) d4x (fun L _=>d0Z N (ll L 1) (li L 4) (li L 11) (li L 12) (li L 13)) (fun L p=>([.c (.b p)],mgA (a16 d4x L).mem [] [0,1,2,3])) fun _ _=>by unfold d0Z;exact bb
def d6Y (N:Nat):Sg Tryz.prog 0 23:= .start [(18,[0,3,7,8,9,24,25,26],[3,7,14,22],[]),(25,[0,3,7,8,9,10,11,24,25,26],[3,7,11,14,22],[])] [(0,[1,0]),(1,[0,3]),(2,[0,6,3]),(3,[0,6,3,7]),(4,[3,8,0,7]),(5,[3,9,8,0,7]),(6,[26,25,24,9,8,0,7,3]),(7,[26,24,9,8,0,7,3,25]),(8,[9,10,8,0,7,3,11,26,25,24]),(9,[26,25,24,9,8,0,7,3]),(10,[9,8])]
def b2b (w1:LD) (w2:Bool) (w3 w10 w17 w18 w19:Int) (w26:LD) (k0:LD→Option R):Option R:=
 bif w2 then
  bif (inB w3 w26.length) then
   bif (decide (w3.toNat<w26.length)) then
    k0 (w26.set w3.toNat (.b true))
   else
    none
  else
   none
 else
  bnd (d6W N w1 w10 w17 w18 w19) fun y0=>
  bif y0.isSome then
   bif (inB w3 w26.length) then
    bif (decide (w3.toNat<w26.length)) then
     k0 (w26.set w3.toNat (.b (y0.getD default)))
    else
     none
   else
    none
  else
   none
def c25 (w1:LD) (w2:Bool) (w3 w10 w17 w18 w19:Int) (w26:LD):Option (LD):=b2b N w1 w2 w3 w10 w17 w18 w19 w26 some
def d6Z:=(d6Y N).c1 (d6X N) 25 100 [0,3,7,8,9,24,25,26] [3,7,14,22] ⟨[(0,cL 124),(3,cP 3),(7,cP 7),(8,cB),(9,cO 22),(10,cI),(11,cP 11),(24,cL 42),(25,cI),(26,cI)],[(3,bX0),(7,.box ([.m 14])),(11,bX1),(14,.kmap 3 120 [(1,50),(2,51)]),(22,.row 4 true)]⟩ (fun L _=>b2b N (ll L 1) (lb L 2) (li L 3) (li L 10) (li L 17) (li L 18) (li L 19) (ll L 26)) (fun s m L p=>(.normal,m [] [(22,.row 4 true (lb L 25) p)])) fun _ _=>by unfold b2b;exact bb
def a7h (w1:LD) (w2:Bool) (w4:LD) (w5 w9:Int) (w6:Int) (w18:LD) (kr:Int→LD→Option R) (k0:LD→Option R):Option R:=
 bif (decide (w6<w5)) then
  bif (inB w6 w4.length) then
   bnd (c25 N w1 w2 w6 w9 ((w4.getD w6.toNat (.i 0)).cell 0).toI ((w4.getD w6.toNat (.i 0)).cell 1).toI ((w4.getD w6.toNat (.i 0)).cell 2).toI w18) fun y0=>
   bif y0.isSome then
    kr (IntKind.wrap .i64 (w6+1)) (y0.getD default)
   else
    none
  else
   none
 else
  k0 w18
def b2c (N:Nat) {R:Type} (w1:LD) (w2:Bool) (w4:LD) (w5 w9:Int):Nat→Int→LD→(LD→Option R)→Option R
 |0,_,_,_=>none
 |m+1,w6,w18,k0=>a7h N w1 w2 w4 w5 w9 w6 w18 (fun w6 w18=>b2c N w1 w2 w4 w5 w9 m w6 w18 k0) k0
def b6V (w1:LD) (w2:Bool) (w4:LD) (w5 w9:Int) (w6:Int) (w18:LD):Option (LD):=b2c N (R:=(LD)) w1 w2 w4 w5 w9 N w6 w18 some
def d60:=(d6Z N).l1 (d6X N) 18 [6,18] [4,5,8,9] [22] ⟨[(0,cL 124),(3,cP 3),(7,cP 7),(8,cB),(9,cO 22),(24,cL 42),(25,cI),(26,cI)],[(3,bX0),(7,.box ([.m 14])),(14,.kmap 3 120 [(1,50),(2,51)]),(22,.row 4 true)]⟩ N (fun L x _ kr=>a7h N (ll L 1) (lb L 2) (ll L 4) (li L 5) (li L 9) (li x 0) (ll x 1) (fun w6 w18=>kr [.i w6,.l w18])) (fun L m x=>b2c N (ll L 1) (lb L 2) (ll L 4) (li L 5) (li L 9) m (li x 0) (ll x 1) some) (fun s m L p=>((.exit 0),mg s [8,9] [] [22] [(22,.row 4 true (lb L 17) p)])) fun _ _ _ _ _=>by unfold a7h;exact bb
def d00 (v1:LD) (v3 v4:Int) (v6 v10:LD) (k0:LD×Bool→Option R):Option R:=
 bnd (d6L N v1 v3 v10) fun y0=>
 bif y0.isSome then
  bif (((decide (0≤(v6.length:Int)))&&(decide ((v6.length:Int)≤(v6.length:Int))))&&(decide ((v6.length:Int).toNat*1≤a0X)&&decide ((v6.length:Int).toNat≤a0c))) then
   bnd (b6V N v1 (y0.getD default) v6 (v6.length:Int) v4 0 (List.replicate (v6.length:Int).toNat ((.b false):D))) fun y1=>
   bif y1.isSome then
    k0 ((y1.getD default),(y0.getD default))
   else
    none
  else
   none
 else
  none
def d01 (v1:LD) (v3 v4:Int) (v6 v10:LD):Option (LD×Bool):=d00 N v1 v3 v4 v6 v10 some
def c5o:=(d60 N).f1 (d6X N) ⟨[(0,cL 124),(1,gX4)],[]⟩ (fun L _=>d00 N (ll L 1) (li L 3) (li L 4) (ll L 6) (ll L 10)) (fun L p=>([.c (.sl 4 false p.1),.c (.b p.2)],[])) fun _ _=>by unfold d00;exact bb
def d61 (N:Nat):Sg Tryz.prog 0 82:= .start [(9,[2,3,6,7,8],[2,3,50003005],[50003005]),(41,[2,3,6,7,8,32],[2,3,50003005],[]),(36035,[2,3,6,7,8,13,29],[2,3,50003005],[]),(30029,[2,3,5,6,7,8,13,20],[2,3,5,50003005],[]),(24023,[2,3,5,6,7,8,13,14],[2,3,5,50003005],[])] [(0,[0]),(1,[0,2]),(2,[0,3,2]),(3,[8,7,6,3,2]),(4,[6,8,3,7,2]),(5,[5,3,8,7,6,2]),(6,[13,5,3,8,7,6,2]),(8,[13,3,5,8,7,6,2]),(10,[13,3,8,7,6,2]),(12,[13,3,8,7,6,2]),(13,[3,8,7,6,2]),(11,[3,8,7,6,2]),(9,[3,5,8,7,6,2]),(7,[5,3,8,7,6,2]),(14,[8,7,6,3,2]),(15,[3,2])]
def b2d (N:Nat) (w4 w20:Bool) (k0:Bool→R):R:=
 bif w4 then
  k0 true
 else
  k0 w20
def c26 (w4 w20:Bool):Bool:=b2d N w4 w20 (fun p=>p)
def d62:=(d61 N).c0 (c5o N) 41 100 [2,3,6,7,8] [2,3,50003005] ⟨[(2,cP 2),(3,cP 3),(6,cL 124),(7,cI),(8,cI),(32,cB)],[(2,bX2),(3,e03),(50003005,.row 3 true)]⟩ (fun L _=>b2d N (lb L 4) (lb L 20)) (fun s m L p=>(.normal,m [] [(3,.box (rM L 14 5 ([.o 50003005,.b (lb L 19),.b p])))])) fun _ _=>by unfold b2d;exact kk
def a5S (w4:Int) (w5 w20 w21:Bool) (k0:Bool×Bool→R):R:=
 bif w5 then
  k0 (true,w21)
 else
  bnd (c26 N (w4==7) w21) fun y0=>
  k0 (w20,y0)
def b34 (w4:Int) (w5 w20 w21:Bool):Bool×Bool:=a5S N w4 w5 w20 w21 (fun p=>p)
def d63:=(d62 N).c0 (c5o N) 36035 100 [2,3,6,7,8] [2,3,50003005] ⟨[(2,cP 2),(3,cP 3),(6,cL 124),(7,cI),(8,cI),(13,cI),(29,cB)],[(2,bX2),(3,e03),(50003005,.row 3 true)]⟩ (fun L _=>a5S N (li L 4) (lb L 5) (lb L 20) (lb L 21)) (fun s m L p=>(.normal,m [] [(3,.box (rM L 15 5 ([.o 50003005,.b p.1,.b p.2])))])) fun _ _=>by unfold a5S;exact kk
def a5T (w4:Int) (w5 w20 w21:Bool) (w29:Int) (w32:LD) (k0:LD→Option R) (k1:Bool×Bool→Option R):Option R:=
 bif w5 then
  bif (decide ((w32.length+1)*8≤a0X)&&decide ((w32.length+1)≤a0c)) then
   k0 (w32++[(.i w29)])
  else
   none
 else
  bnd (b34 N w4 (w4==6) w20 w21) fun y0=>
  k1 y0
def b35 (w4:Int) (w5 w20 w21:Bool) (w29:Int) (w32:LD):Option (Sum (LD) (Bool×Bool)):=a5T N w4 w5 w20 w21 w29 w32 (fun p=>some (.inl p)) (fun p=>some (.inr p))
def d64:=(d63 N).c2 (c5o N) 30029 100 [2,3,6,7,8] [2,3,27,50003005] ⟨[(2,cP 2),(3,cP 3),(5,cP 5),(6,cL 124),(7,cI),(8,cI),(13,cI),(20,cB)],[(2,bX2),(3,e03),(5,bX5),(50003005,.row 3 true)]⟩ (fun L _=>a5T N (li L 4) (lb L 5) (lb L 20) (lb L 21) (li L 29) (ll L 32)) (fun s m L p=>(.normal,mg s [2,3,6,7,8] [] [2,3,27] [(3,.box (rM L 15 5 ([.o 27,.b (lb L 20),.b (lb L 21)]))),(27,.row 3 true false p)])) (fun s m L p=>(.normal,mg s [2,3,6,7,8] [] [2,3,50003005] [(3,.box (rM L 15 5 ([.o 50003005,.b p.1,.b p.2])))])) fun _ _ _=>by unfold a5T;exact bb
def a5U (w4:Int) (w5 w15 w16 w17 w18 w19 w20 w21:Bool) (w29:Int) (w32:LD) (k0:Ty7→Option R) (k1:LD→Option R):Option R:=
 bif w5 then
  bif (inB w29 5) then
   k0 ((bif (Nat.beq w29.toNat 0) then true else w15),(bif (Nat.beq w29.toNat 1) then true else w16),(bif (Nat.beq w29.toNat 2) then true else w17),(bif (Nat.beq w29.toNat 3) then true else w18),(bif (Nat.beq w29.toNat 4) then true else w19),w20,w21)
  else
   none
 else
  bnd (b35 N w4 (w4==8) w20 w21 w29 w32) fun y0=>
  bif (a0U y0) then
   k1 (a1E y0)
  else
   bif (a0n y0).isSome then
    k0 (w15,w16,w17,w18,w19,((a0n y0).getD default).1,((a0n y0).getD default).2)
   else
    none
def a5V (w4:Int) (w5 w15 w16 w17 w18 w19 w20 w21:Bool) (w29:Int) (w32:LD):Option (Sum (Ty7) (LD)):=a5U N w4 w5 w15 w16 w17 w18 w19 w20 w21 w29 w32 (fun p=>some (.inl p)) (fun p=>some (.inr p))
def d65:=(d64 N).c2 (c5o N) 24023 100 [2,3,6,7,8] [2,3,27,50003005] ⟨[(2,cP 2),(3,cP 3),(5,cP 5),(6,cL 124),(7,cI),(8,cI),(13,cI),(14,cB)],[(2,bX2),(3,e03),(5,bX5),(50003005,.row 3 true)]⟩ (fun L _=>a5U N (li L 4) (lb L 5) (lb L 15) (lb L 16) (lb L 17) (lb L 18) (lb L 19) (lb L 20) (lb L 21) (li L 29) (ll L 32)) (fun s m L p=>let p1:=p.2;let p2:=p1.2;let p3:=p2.2;let p4:=p3.2;let p5:=p4.2;let p6:=p5.2;(.normal,mg s [2,3,6,7,8] [] [2,3,50003005] [(3,.box [.b p.1,.b p1.1,.b p2.1,.b p3.1,.b p4.1,.o 50003005,.b p5.1,.b p6])])) (fun s m L p=>(.normal,mg s [2,3,6,7,8] [] [2,3,27] [(3,.box (rM L 15 5 ([.o 27,.b (lb L 20),.b (lb L 21)]))),(27,.row 3 true false p)])) fun _ _ _=>by unfold a5U;exact bb
def b0E (w1:LD) (w2:Int) (w3:Int) (w13 w14 w15 w16 w17 w18 w19 w20:Bool) (w21:LD) (kr:Int→Bool→Bool→Bool→Bool→Bool→Bool→Bool→Bool→LD→Option R) (k0:Ty3→Option R):Option R:=
 bif (decide (w3<w2)) then
  bif (inB w3 w1.length) then
   bnd (a5V N ((w1.getD w3.toNat (.i 0)).cell 1).toI (((w1.getD w3.toNat (.i 0)).cell 1).toI==3) w13 w14 w15 w16 w17 w18 w19 ((w1.getD w3.toNat (.i 0)).cell 7).toI w21) fun y0=>
   bif (a0U y0) then
    kr (IntKind.wrap .i64 (w3+1)) (a1E y0).1 (a1E y0).2.1 (a1E y0).2.2.1 (a1E y0).2.2.2.1 (a1E y0).2.2.2.2.1 (a1E y0).2.2.2.2.2.1 (a1E y0).2.2.2.2.2.2 w20 w21
   else
    bif (a0n y0).isSome then
     kr (IntKind.wrap .i64 (w3+1)) w13 w14 w15 w16 w17 w18 w19 false ((a0n y0).getD default)
    else
     none
  else
   none
 else
  k0 (w13,w14,w15,w16,w17,w18,w19,w20,w21)
def b6W (N:Nat) {R:Type} (w1:LD) (w2:Int):Nat→Int→Bool→Bool→Bool→Bool→Bool→Bool→Bool→Bool→LD→(Ty3→Option R)→Option R
 |0,_,_,_,_,_,_,_,_,_,_,_=>none
 |m+1,w3,w13,w14,w15,w16,w17,w18,w19,w20,w21,k0=>b0E N w1 w2 w3 w13 w14 w15 w16 w17 w18 w19 w20 w21 (fun w3 w13 w14 w15 w16 w17 w18 w19 w20 w21=>b6W N w1 w2 m w3 w13 w14 w15 w16 w17 w18 w19 w20 w21 k0) k0
def c1s (w1:LD) (w2:Int) (w3:Int) (w13 w14 w15 w16 w17 w18 w19 w20:Bool) (w21:LD):Option (Ty3):=b6W N (R:=(Ty3)) w1 w2 N w3 w13 w14 w15 w16 w17 w18 w19 w20 w21 some
def d66:=(d65 N).l1 (c5o N) 9 [3,13,14,15,16,17,18,19,20,21] [2,3] [2,3,50003005] ⟨[(2,cP 2),(3,cP 3),(6,cL 124),(7,cI),(8,cI)],[(2,bX2),(3,e03),(50003005,.row 3 true)]⟩ N (fun L x _ kr=>b0E N (ll L 1) (li L 2) (li x 0) (lb x 1) (lb x 2) (lb x 3) (lb x 4) (lb x 5) (lb x 6) (lb x 7) (lb x 8) (ll x 9) (fun w3 w13 w14 w15 w16 w17 w18 w19 w20 w21=>kr [.i w3,.b w13,.b w14,.b w15,.b w16,.b w17,.b w18,.b w19,.b w20,.l w21])) (fun L m x=>b6W N (ll L 1) (li L 2) m (li x 0) (lb x 1) (lb x 2) (lb x 3) (lb x 4) (lb x 5) (lb x 6) (lb x 7) (lb x 8) (ll x 9) some) (fun s m L p=>let p1:=p.2;let p2:=p1.2;let p3:=p2.2;let p4:=p3.2;let p5:=p4.2;let p6:=p5.2;let p7:=p6.2;let p8:=p7.2;((.exit 0),mg s [2,3] [] [2,3,50003005] [(3,.box [.b p.1,.b p1.1,.b p2.1,.b p3.1,.b p4.1,.o 50003005,.b p5.1,.b p6.1]),(50003005,.row 3 true p7.1 p8)])) fun _ _ _ _ _=>by unfold b0E;exact bb
def d02 (v1:LD) (k0:Ty4→Option R):Option R:=
 bnd (c1s N v1 (v1.length:Int) 0 false false false false false false false true []) fun y0=>
 bif y0.isSome then
  k0 ((y0.getD default).1,(y0.getD default).2.1,(y0.getD default).2.2.1,(y0.getD default).2.2.2.1,(y0.getD default).2.2.2.2.1,(y0.getD default).2.2.2.2.2.2.2.1,(y0.getD default).2.2.2.2.2.2.2.2,(y0.getD default).2.2.2.2.2.1,(y0.getD default).2.2.2.2.2.2.1)
 else
  none
def d67 (v1:LD):Option (Ty4):=d02 N v1 some
def e4e:=(d66 N).f1 (c5o N) ⟨[(0,cL 124)],[]⟩ (fun L _=>d02 N (ll L 1)) (fun L p=>let p1:=p.2;let p2:=p1.2;let p3:=p2.2;let p4:=p3.2;let p5:=p4.2;let p6:=p5.2;let p7:=p6.2;let p8:=p7.2;([.g [.b p.1,.b p1.1,.b p2.1,.b p3.1,.b p4.1,.sl 3 p5.1 p6.1,.b p7.1,.b p8]],[])) fun _ _=>by unfold d02;exact bb
def d68 (N:Nat):Sg Tryz.prog 0 39:= .start [] [(0,[0]),(1,[0]),(2,[]),(3,[0])] true
def c7N (N:Nat) (v0:Bool) (v1:LD) (k0:Unit→Option R) (k1:Bool→Option R):Option R:=
 bif v0 then
  k0 ()
 else
  bif (decide ((0+v1.length)*16≤a0X)&&decide ((0+v1.length)≤a0c)) then
   k1 (v1.isEmpty&&false)
  else
   none
def d03 (v0:Bool) (v1:LD):Option (Sum (Unit) (Bool)):=c7N N v0 v1 (fun p=>some (.inl p)) (fun p=>some (.inr p))
def e1i:=(d68 N).f2 (e4e N) ⟨[(0,cL 9)],[]⟩ (fun L _=>c7N N (lb L 0) (ll L 1)) (fun L _=>([.c (.sl 9 true [])],[])) (fun L p=>([.c (.o 7)],[(7,.row 9 true p (ll L 1))])) fun _ _ _=>by unfold c7N;exact bb
def d04 (N:Nat):Sg Tryz.prog 0 112:= .start [(11,[0,1,5,10],[],[])] [(0,[0,1]),(1,[0,1]),(2,[5,1,0]),(3,[5,1,0]),(4,[0,5])]
def a9o (N:Nat) (w1 w2:Int) (w3:Bool) (k0:Int→R):R:=
 bif w3 then
  k0 (IntKind.wrap .i64 (w2+w1))
 else
  k0 w2
def b9x (w1 w2:Int) (w3:Bool):Int:=a9o N w1 w2 w3 (fun p=>p)
def d05:=(d04 N).c0 (e1i N) 11 100 [0,5] [] ⟨[(0,cI),(1,cI),(5,cI),(10,cB)],[]⟩ (fun L _=>a9o N (li L 1) (li L 2) (lb L 3)) (fun s m L p=>(.normal,⟨[(0,.c (.i .i64 (li L 0))),(5,.c (.i .i64 p))],[]⟩)) fun _ _=>by unfold a9o;exact kk
def c27 (v0 v1:Int) (k0:Int→Option R):Option R:=
 bif (!(v1==0)) then
  bnd (b9x N v1 (v0.tmod v1) (decide ((v0.tmod v1)<0))) fun y0=>
  k0 (IntKind.wrap .i64 (v0-y0))
 else
  none
def b36 (v0 v1:Int):Option (Int):=c27 N v0 v1 some
def c7O:=(d05 N).f1 (e1i N) ⟨[(0,cI),(1,cI)],[]⟩ (fun L _=>c27 N (li L 0) (li L 1)) (fun L p=>([.c (.i .i64 p)],[])) fun _ _=>by unfold c27;exact bb
def d06 (N:Nat):Sg Tryz.prog 0 113:= .start [(300000004,[2,3,4],[2,3,4],[]),(23,[2,3,4,28],[2,3,4],[]),(27,[3,4,31,32,33],[3,4],[])] [(0,[0,1]),(1,[3,2,4]),(2,[14,2,3,4]),(3,[14,2,3,4]),(4,[5,2,6,14,3,4]),(5,[6,14,2,3,4]),(6,[2,3,4]),(7,[3,2,4]),(8,[2,3,4]),(9,[33,32,31,3,4]),(10,[31,33,3,32,4]),(11,[3,8,33,32,31,4]),(12,[33,32,31,3,4]),(13,[3,4])]
def d07:Sg Tryz.prog 0 113:=(d06 N).hand d5P
def a9p (N:Nat) (w0:Bool) (w13:Int) (k0:Int→R):R:=
 bif w0 then
  k0 0
 else
  k0 w13
def b9y (w0:Bool) (w13:Int):Int:=a9p N w0 w13 (fun p=>p)
def d08:=(d07 N).c0 (c7O N) 23 100 [2,3,4] [2,3,4] ⟨[(2,cP 2),(3,cP 3),(4,cP 4),(28,cB)],[(2,bX2),(3,bX1),(4,bX1)]⟩ (fun L _=>a9p N (lb L 0) (li L 13)) (fun s m L p=>(.normal,m [] [(3,.box [.i .i64 (li L 10),.i .i64 (li L 11),.i .i64 (li L 12),.i .i64 p,.i .i64 (li L 14),.i .i64 (li L 15),.i .i64 (li L 16)])])) fun _ _=>by unfold a9p;exact kk
def a5d (w1:LD) (w2:Int) (w3 w5 w6:Int) (kr:Int→Int→Int→Option R) (k0:Int×Int→Option R):Option R:=
 bif (decide (w3<w2)) then
  bif (inB w3 w1.length) then
   bnd (b36 N w5 (w1.getD w3.toNat (.i 0)).toI) fun y0=>
   bif y0.isSome then
    bnd (b36 N w6 (w1.getD w3.toNat (.i 0)).toI) fun y1=>
    bif y1.isSome then
     kr (IntKind.wrap .i64 (w3+1)) (max2 (y0.getD default) (-100000000)) (max2 (y1.getD default) (-100000000))
    else
     none
   else
    none
  else
   none
 else
  k0 (w5,w6)
def a9q (N:Nat) {R:Type} (w1:LD) (w2:Int):Nat→Int→Int→Int→(Int×Int→Option R)→Option R
 |0,_,_,_,_=>none
 |m+1,w3,w5,w6,k0=>a5d N w1 w2 w3 w5 w6 (fun w3 w5 w6=>a9q N w1 w2 m w3 w5 w6 k0) k0
def b37 (w1:LD) (w2:Int) (w3 w5 w6:Int):Option (Int×Int):=a9q N (R:=(Int×Int)) w1 w2 N w3 w5 w6 some
def d09:=(d08 N).l1 (c7O N) 27 [3,5,6] [3,4] [3,4] ⟨[(3,cP 3),(4,cP 4),(31,cL 3),(32,cI),(33,cI)],[(3,bX1),(4,bX1)]⟩ N (fun L x _ kr=>a5d N (ll L 1) (li L 2) (li x 0) (li x 1) (li x 2) (fun w3 w5 w6=>kr [.i w3,.i w5,.i w6])) (fun L m x=>a9q N (ll L 1) (li L 2) m (li x 0) (li x 1) (li x 2) some) (fun s m L p=>((.exit 2),m [] [(3,.box (.i .i64 (li L 4):: .i .i64 p.1:: .i .i64 p.2::rL L 7 4 ([])))])) fun _ _ _ _ _=>by unfold a5d;exact bb
def c28 (v1 v2 v3 v4:Bool) (v6:LD) (v10 v11 v12 v13 v14 v15:Int) (k0:Int×Int×Int×Int×Int×Int→Option R):Option R:=
 bnd (b9y N v4 v12) fun y0=>
 bnd (b37 N v6 (v6.length:Int) 0 v10 v11) fun y1=>
 bif y1.isSome then
  k0 ((y1.getD default).1,(y1.getD default).2,y0,(bif v1 then (-1) else v13),(bif v2 then (-1) else v14),(bif v3 then (-1) else v15))
 else
  none
def c29 (v1 v2 v3 v4:Bool) (v6:LD) (v10 v11 v12 v13 v14 v15:Int):Option (Int×Int×Int×Int×Int×Int):=c28 N v1 v2 v3 v4 v6 v10 v11 v12 v13 v14 v15 some
def a5e:=(d09 N).f1 (c7O N) ⟨[(0,.g (rB 5 ([.sl 3,.b,.b]))),(1,c9L)],[]⟩ (fun L _=>c28 N (lb L 1) (lb L 2) (lb L 3) (lb L 4) (ll L 6) (li L 10) (li L 11) (li L 12) (li L 13) (li L 14) (li L 15)) (fun L p=>let p1:=p.2;let p2:=p1.2;let p3:=p2.2;let p4:=p3.2;let p5:=p4.2;([.g [.i .i64 (li L 9),.i .i64 p.1,.i .i64 p1.1,.i .i64 p2.1,.i .i64 p3.1,.i .i64 p4.1,.i .i64 p5]],[])) fun _ _=>by unfold c28;exact bb
def d69 (N:Nat):Sg Tryz.prog 0 83:= .start [(7,[2,3,4,6,7],[3,4,6],[]),(14,[2,3,4,6,7,8,31],[3,4,6,8,29000000007],[]),(20,[2,3,4,6,7,8,35],[3,4,6,8,29000000007],[]),(27,[3,4,6,7,8,9,41,42,43],[3,4,6,8,40,50008003,50008004,29000000007],[50008004,50008003]),(51,[3,6,7,8,9,66,67,68],[3,6,8,40,50008003,50008004,29000000007],[50008004,50008003]),(68,[3,6,7,8,9,13,66,67,68,95],[3,6,8,13,40,50008003,50008004,29000000007],[])] [(0,[0,1,2]),(1,[2,4,3,6]),(2,[4,7,3,2,6]),(3,[3,8,2,7,4,6]),(4,[8,3,2,7,4,6]),(5,[3,8,2,7,4,6]),(6,[8,2,3,7,4,6]),(7,[2,3,7,8,4,6]),(8,[2,9,3,7,8,4,6]),(9,[43,42,41,9,3,7,8,4,6]),(10,[41,43,9,3,7,8,42,4,6]),(11,[9,11,3,7,8,43,42,41,4,6]),(12,[3,11,7,8,43,42,41,9,4,6]),(13,[11,7,8,43,42,41,9,3,4,6]),(14,[8,11,43,42,41,9,3,7,4,6]),(15,[43,42,41,9,3,7,8,4,6]),(16,[4,9,7,3,8,6]),(17,[68,67,66,9,7,3,8,6]),(18,[66,68,9,67,7,3,8,6]),(19,[9,13,68,67,66,7,3,8,6]),(20,[13,7,3,8,68,67,66,9,6]),(21,[3,13,8,68,67,66,9,7,6]),(22,[13,8,68,67,66,9,7,3,6]),(23,[8,13,68,67,66,9,7,3,6]),(24,[68,67,66,9,7,3,8,6]),(25,[8,6])]
def b6X (w2 w14:Int) (w19:Bool) (w20:LD) (k0:Int→Option R) (k1:Int×Bool→Option R):Option R:=
 bnd (d03 N w19 w20) fun y0=>
 bif (a0U y0) then
  k0 (IntKind.wrap .i64 (w14+w2))
 else
  bif (a0n y0).isSome then
   k1 ((IntKind.wrap .i64 (w14+w2)),((a0n y0).getD default))
  else
   none
def b6Y (w2 w14:Int) (w19:Bool) (w20:LD):Option (Sum (Int) (Int×Bool)):=b6X N w2 w14 w19 w20 (fun p=>some (.inl p)) (fun p=>some (.inr p))
def d7a:=(d69 N).c2 (a5e N) 7 100 [2,3,4,6,7,8] [3,4,6,8,29000000007] ⟨[(2,cL 42),(3,cP 3),(4,cP 4),(6,cP 6),(7,cI)],[(3,bX2),(4,bX0),(6,bX0)]⟩ (fun L _=>b6X N (li L 2) (li L 14) (lb L 19) (ll L 20)) (fun s m L p=>(.normal,mg s [2,3,4,6,7,8] [(8,.c (.p 8 0))] [3,4,6,8] [(8,.box [.s (ls L 12),.i .i64 (li L 13),.i .i64 p,.sl 42 true [],.sl 81 true [],.sl 9 true []])])) (fun s m L p=>(.normal,m [(8,.c (.p 8 0))] [(8,.box [.s (ls L 12),.i .i64 (li L 13),.i .i64 p.1,.sl 42 true [],.sl 81 true [],.o 29000000007]),(29000000007,.row 9 true p.2 (ll L 20))])) fun _ _ _=>by unfold b6X;exact bb
def b2e (N:Nat) (w3:Bool) (w31:LB) (w38:Bool) (w39:LD) (k0:LB×Bool×LD→R):R:=
 bif w3 then
  k0 (([97,99,116,105,118,105,116,121]:List UInt8),true,[])
 else
  k0 (w31,w38,w39)
def c3a (w3:Bool) (w31:LB) (w38:Bool) (w39:LD):LB×Bool×LD:=b2e N w3 w31 w38 w39 (fun p=>p)
def d7b:=(d7a N).c0 (a5e N) 14 100 [2,3,4,6,7,8] [3,4,6,8] ⟨[(2,cL 42),(3,cP 3),(4,cP 4),(6,cP 6),(7,cI),(8,cP 8),(31,cB)],[(3,bX2),(4,bX0),(6,bX0),(8,bX0)]⟩ (fun L _=>b2e N (lb L 3) (ls L 31) (lb L 38) (ll L 39)) (fun s m L p=>(.normal,m [] [(8,.box [.s p.1,.i .i64 (li L 32),.i .i64 (li L 33),.sl 42 (lb L 34) (ll L 35),.sl 81 (lb L 36) (ll L 37),.sl 9 p.2.1 p.2.2])])) fun _ _=>by unfold b2e;exact kk
def a9r (w3:Bool) (w33:Int) (k0:Int→Option R):Option R:=
 bif w3 then
  bnd (b36 N w33 86400) fun y0=>
  bif y0.isSome then
   k0 (y0.getD default)
  else
   none
 else
  k0 w33
def c3b (w3:Bool) (w33:Int):Option (Int):=a9r N w3 w33 some
def d7c:=(d7b N).c1 (a5e N) 20 100 [2,3,4,6,7,8] [3,4,6,8] ⟨[(2,cL 42),(3,cP 3),(4,cP 4),(6,cP 6),(7,cI),(8,cP 8),(35,cB)],[(3,bX2),(4,bX0),(6,bX0),(8,bX0)]⟩ (fun L _=>a9r N (lb L 3) (li L 33)) (fun s m L p=>(.normal,m [] [(8,.box [.s (ls L 31),.i .i64 (li L 32),.i .i64 p,.sl 42 (lb L 34) (ll L 35),.sl 81 (lb L 36) (ll L 37),.sl 9 (lb L 38) (ll L 39)])])) fun _ _=>by unfold a9r;exact bb
def a7i (w0:Int) (w2:LD) (w3:Int) (w6 w7 w8 w9:Bool) (w11:LD) (w4:Int) (w37:(List (D×D))) (w38:Bool) (w39:LD) (kr:Int→(List (D×D))→Bool→LD→Option R) (k0:c5n→Option R):Option R:=
 bif (decide (w4<w3)) then
  bif (inB w4 w2.length) then
   bnd (c6n Tryz.prog 3 (.i ((w2.getD w4.toNat (.i 0)).cell 0).toI) (.b true) w37) fun y0=>
   bnd (c29 N w6 w7 w8 w9 w11 ((w2.getD w4.toNat (.i 0)).cell 1).toI ((w2.getD w4.toNat (.i 0)).cell 2).toI ((w2.getD w4.toNat (.i 0)).cell 3).toI ((w2.getD w4.toNat (.i 0)).cell 4).toI ((w2.getD w4.toNat (.i 0)).cell 5).toI ((w2.getD w4.toNat (.i 0)).cell 6).toI) fun y1=>
   bif y1.isSome then
    bnd (IntKind.wrap .i64 (((w2.getD w4.toNat (.i 0)).cell 0).toI-w0)) fun y2=>
    bif (decide ((w39.length+1)*56≤a0X)&&decide ((w39.length+1)≤a0c)) then
     bnd ((w39++[(.a [(.i y2),(.i (y1.getD default).1),(.i (y1.getD default).2.1),(.i (y1.getD default).2.2.1),(.i (y1.getD default).2.2.2.1),(.i (y1.getD default).2.2.2.2.1),(.i (y1.getD default).2.2.2.2.2)])]):List D) fun y3=>
     kr (IntKind.wrap .i64 (w4+1)) y0 false y3
    else
     none
   else
    none
  else
   none
 else
  k0 (w37,w38,w39)
def b2f (N:Nat) {R:Type} (w0:Int) (w2:LD) (w3:Int) (w6 w7 w8 w9:Bool) (w11:LD):Nat→Int→(List (D×D))→Bool→LD→(c5n→Option R)→Option R
 |0,_,_,_,_,_=>none
 |m+1,w4,w37,w38,w39,k0=>a7i N w0 w2 w3 w6 w7 w8 w9 w11 w4 w37 w38 w39 (fun w4 w37 w38 w39=>b2f N w0 w2 w3 w6 w7 w8 w9 w11 m w4 w37 w38 w39 k0) k0
def b2g (w0:Int) (w2:LD) (w3:Int) (w6 w7 w8 w9:Bool) (w11:LD) (w4:Int) (w37:(List (D×D))) (w38:Bool) (w39:LD):Option (c5n):=b2f N (R:=(c5n)) w0 w2 w3 w6 w7 w8 w9 w11 N w4 w37 w38 w39 some
def d7d:=(d7c N).l1 (a5e N) 27 [4,37,38,39] [3,4,6,7,8,9] [3,4,6,8,40,50008003,50008004] ⟨[(3,cP 3),(4,cP 4),(6,cP 6),(7,cI),(8,cP 8),(9,.c (.m 40)),(41,cL 42),(42,cI),(43,cI)],[(3,bX2),(4,bX0),(6,bX0),(8,e3U),(40,.map 3 4),(50008003,.row 42 true),(50008004,.row 81 true)]⟩ N (fun L x _ kr=>a7i N (li L 0) (ll L 2) (li L 3) (lb L 6) (lb L 7) (lb L 8) (lb L 9) (ll L 11) (li x 0) (lm x 1) (lb x 2) (ll x 3) (fun w4 w37 w38 w39=>kr [.i w4,.m w37,.b w38,.l w39])) (fun L m x=>b2f N (li L 0) (ll L 2) (li L 3) (lb L 6) (lb L 7) (lb L 8) (lb L 9) (ll L 11) m (li x 0) (lm x 1) (lb x 2) (ll x 3) some) (fun s m L p=>((.exit 0),m [] [(40,.map 3 4 p.1),(50008003,.row 42 true p.2.1 p.2.2)])) fun _ _ _ _ _=>by unfold a7i;exact bb
def b2h (N:Nat) (w5:Bool) (w31:LB) (k0:LB→R):R:=
 bif w5 then
  k0 ([]:List UInt8)
 else
  k0 w31
def c3c (w5:Bool) (w31:LB):LB:=b2h N w5 w31 (fun p=>p)
def d7e:=(d7d N).c0 (a5e N) 68 100 [3,6,7,8,9,13,66,67,68] [3,6,8,13,40,50008003,50008004] ⟨[(3,cP 3),(6,cP 6),(7,cI),(8,cP 8),(9,.c (.m 40)),(13,cP 13),(66,cL 81),(67,cI),(68,cI),(95,cB)],[(3,bX2),(6,bX0),(8,e3U),(13,.box ([.i .i64,.i .i64,.s])),(40,.map 3 4),(50008003,.row 42 true),(50008004,.row 81 true)]⟩ (fun L _=>b2h N (lb L 5) (ls L 31)) (fun s m L p=>(.normal,m [] [(13,.box [.i .i64 (li L 29),.i .i64 (li L 30),.s p])])) fun _ _=>by unfold b2h;exact kk
def a7j (w0:Int) (w2:LD) (w3:Int) (w13:Bool) (w28:(List (D×D))) (w4:Int) (w31:Bool) (w32:LD) (kr:Int→Bool→LD→Option R) (k0:Bool×LD→Option R):Option R:=
 bif (decide (w4<w3)) then
  bif (inB w4 w2.length) then
   bnd ((a2R Tryz.prog 3 (.i ((w2.getD w4.toNat (.i 0)).cell 0).toI) w28).getD (.b false)).toB fun y0=>
   bnd (bif (!y0) then true else (!((a2R Tryz.prog 3 (.i ((w2.getD w4.toNat (.i 0)).cell 1).toI) w28).getD (.b false)).toB)) fun y1=>
   bif y1 then
    kr (IntKind.wrap .i64 (w4+1)) w31 w32
   else
    bnd (IntKind.wrap .i64 (((w2.getD w4.toNat (.i 0)).cell 0).toI-w0)) fun y2=>
    bnd (IntKind.wrap .i64 (((w2.getD w4.toNat (.i 0)).cell 1).toI-w0)) fun y3=>
    bnd (c3c N w13 ((w2.getD w4.toNat (.i 0)).cell 2).toS) fun y4=>
    bif (decide ((w32.length+1)*32≤a0X)&&decide ((w32.length+1)≤a0c)) then
     bnd ((w32++[(.a [(.i y2),(.i y3),(.s y4)])]):List D) fun y5=>
     kr (IntKind.wrap .i64 (w4+1)) false y5
    else
     none
  else
   none
 else
  k0 (w31,w32)
def b2i (N:Nat) {R:Type} (w0:Int) (w2:LD) (w3:Int) (w13:Bool) (w28:(List (D×D))):Nat→Int→Bool→LD→(Bool×LD→Option R)→Option R
 |0,_,_,_,_=>none
 |m+1,w4,w31,w32,k0=>a7j N w0 w2 w3 w13 w28 w4 w31 w32 (fun w4 w31 w32=>b2i N w0 w2 w3 w13 w28 m w4 w31 w32 k0) k0
def b2j (w0:Int) (w2:LD) (w3:Int) (w13:Bool) (w28:(List (D×D))) (w4:Int) (w31:Bool) (w32:LD):Option (Bool×LD):=b2i N (R:=(Bool×LD)) w0 w2 w3 w13 w28 N w4 w31 w32 some
def c7P:=(d7e N).l1 (a5e N) 51 [4,31,32] [6,8] [6,8,50008003,50008004] ⟨[(3,cP 3),(6,cP 6),(7,cI),(8,cP 8),(9,.c (.m 40)),(66,cL 81),(67,cI),(68,cI)],[(3,bX2),(6,bX0),(8,e3U),(40,.map 3 4),(50008003,.row 42 true),(50008004,.row 81 true)]⟩ N (fun L x _ kr=>a7j N (li L 0) (ll L 2) (li L 3) (lb L 13) (lm L 28) (li x 0) (lb x 1) (ll x 2) (fun w4 w31 w32=>kr [.i w4,.b w31,.l w32])) (fun L m x=>b2i N (li L 0) (ll L 2) (li L 3) (lb L 13) (lm L 28) m (li x 0) (lb x 1) (ll x 2) some) (fun s m L p=>((.exit 2),m [] [(50008004,.row 81 true p.1 p.2)])) fun _ _ _ _ _=>by unfold a7j;exact bb
def a9s (N:Nat) (w3:Bool) (k0:LB→Option R) (k1:Unit→Option R):Option R:=
 bif w3 then
  k0 ([97,99,116,105,118,105,116,121]:List UInt8)
 else
  k1 ()
def b9z (w3:Bool):Option (Sum (LB) (Unit)):=a9s N w3 (fun p=>some (.inl p)) (fun p=>some (.inr p))
def c7Q:=(c7P N).add (((c7P N).no 14).c2 (a5e N) 14 100 [2,3,4,6,7,8] [3,4,6,8,29000000007] ⟨[(2,cL 42),(3,cP 3),(4,cP 4),(6,cP 6),(7,cI),(8,cP 8),(31,cB)],[(3,bX2),(4,bX0),(6,bX0),(8,.box (.s::[.i .i64,.i .i64,.sl 42,.sl 81,.o 29000000007])),(29000000007,.row 9 true)]⟩ (fun L _=>a9s N (lb L 3)) (fun s m L p=>(.normal,m [] [(8,.box [.s p,.i .i64 (li L 32),.i .i64 (li L 33),.sl 42 (lb L 34) (ll L 35),.sl 81 (lb L 36) (ll L 37),.sl 9 true []])])) (fun s m L _=>(.normal,m [] [])) fun _ _ _=>by unfold a9s;exact bb) 14
def a9t (w3:Bool) (w33:Int) (k0:Int→Option R):Option R:=
 bif w3 then
  bnd (b36 N w33 86400) fun y0=>
  bif y0.isSome then
   k0 (y0.getD default)
  else
   none
 else
  k0 w33
def b9A (w3:Bool) (w33:Int):Option (Int):=a9t N w3 w33 some
def c7R:=(c7Q N).add (((c7Q N).no 20).c1 (a5e N) 20 100 [2,3,4,6,7,8] [3,4,6,8] ⟨[(2,cL 42),(3,cP 3),(4,cP 4),(6,cP 6),(7,cI),(8,cP 8),(35,cB)],[(3,bX2),(4,bX0),(6,bX0),(8,bX0),(29000000007,.row 9 true)]⟩ (fun L _=>a9t N (lb L 3) (li L 33)) (fun s m L p=>(.normal,m [] [(8,.box [.s (ls L 31),.i .i64 (li L 32),.i .i64 p,.sl 42 (lb L 34) (ll L 35),.sl 81 (lb L 36) (ll L 37),.sl 9 (lb L 38) (ll L 39)])])) fun _ _=>by unfold a9t;exact bb) 20
def a7k (w3:Bool) (w33:Int) (k0:Int→Option R):Option R:=
 bif w3 then
  bnd (b36 N w33 86400) fun y0=>
  bif y0.isSome then
   k0 (y0.getD default)
  else
   none
 else
  k0 w33
def b5K (w3:Bool) (w33:Int):Option (Int):=a7k N w3 w33 some
def c7S:=(c7R N).add (((c7R N).no 20).c1 (a5e N) 20 100 [2,3,4,6,7,8] [3,4,6,8,29000000007] ⟨[(2,cL 42),(3,cP 3),(4,cP 4),(6,cP 6),(7,cI),(8,cP 8),(35,cB)],[(3,bX2),(4,bX0),(6,bX0),(8,.box (.s::[.i .i64,.i .i64,.sl 42,.sl 81,.o 29000000007])),(29000000007,.row 9 true)]⟩ (fun L _=>a7k N (lb L 3) (li L 33)) (fun s m L p=>(.normal,m [] [(8,.box [.s (ls L 31),.i .i64 (li L 32),.i .i64 p,.sl 42 (lb L 34) (ll L 35),.sl 81 (lb L 36) (ll L 37),.o 29000000007])])) fun _ _=>by unfold a7k;exact bb) 20
def a5f (w0:Int) (w2:LD) (w3:Int) (w6 w7 w8 w9:Bool) (w11:LD) (w4:Int) (w35:(List (D×D))) (w36:Bool) (w37:LD) (kr:Int→(List (D×D))→Bool→LD→Option R) (k0:c5n→Option R):Option R:=
 bif (decide (w4<w3)) then
  bif (inB w4 w2.length) then
   bnd (c6n Tryz.prog 3 (.i ((w2.getD w4.toNat (.i 0)).cell 0).toI) (.b true) w35) fun y0=>
   bnd (c29 N w6 w7 w8 w9 w11 ((w2.getD w4.toNat (.i 0)).cell 1).toI ((w2.getD w4.toNat (.i 0)).cell 2).toI ((w2.getD w4.toNat (.i 0)).cell 3).toI ((w2.getD w4.toNat (.i 0)).cell 4).toI ((w2.getD w4.toNat (.i 0)).cell 5).toI ((w2.getD w4.toNat (.i 0)).cell 6).toI) fun y1=>
   bif y1.isSome then
    bnd (IntKind.wrap .i64 (((w2.getD w4.toNat (.i 0)).cell 0).toI-w0)) fun y2=>
    bif (decide ((w37.length+1)*56≤a0X)&&decide ((w37.length+1)≤a0c)) then
     bnd ((w37++[(.a [(.i y2),(.i (y1.getD default).1),(.i (y1.getD default).2.1),(.i (y1.getD default).2.2.1),(.i (y1.getD default).2.2.2.1),(.i (y1.getD default).2.2.2.2.1),(.i (y1.getD default).2.2.2.2.2)])]):List D) fun y3=>
     kr (IntKind.wrap .i64 (w4+1)) y0 false y3
    else
     none
   else
    none
  else
   none
 else
  k0 (w35,w36,w37)
def a9u (N:Nat) {R:Type} (w0:Int) (w2:LD) (w3:Int) (w6 w7 w8 w9:Bool) (w11:LD):Nat→Int→(List (D×D))→Bool→LD→(c5n→Option R)→Option R
 |0,_,_,_,_,_=>none
 |m+1,w4,w35,w36,w37,k0=>a5f N w0 w2 w3 w6 w7 w8 w9 w11 w4 w35 w36 w37 (fun w4 w35 w36 w37=>a9u N w0 w2 w3 w6 w7 w8 w9 w11 m w4 w35 w36 w37 k0) k0
def b38 (w0:Int) (w2:LD) (w3:Int) (w6 w7 w8 w9:Bool) (w11:LD) (w4:Int) (w35:(List (D×D))) (w36:Bool) (w37:LD):Option (c5n):=a9u N (R:=(c5n)) w0 w2 w3 w6 w7 w8 w9 w11 N w4 w35 w36 w37 some
def c3d:=(c7S N).add (((c7S N).no 27).l1 (a5e N) 27 [4,35,36,37] [3,4,6,7,8,9] [3,4,6,8,40,50008003,50008004,29000000007] ⟨[(3,cP 3),(4,cP 4),(6,cP 6),(7,cI),(8,cP 8),(9,.c (.m 40)),(41,cL 42),(42,cI),(43,cI)],[(3,bX2),(4,bX0),(6,bX0),(8,e3V),(40,.map 3 4),(50008003,.row 42 true),(50008004,.row 81 true),(29000000007,.row 9 true)]⟩ N (fun L x _ kr=>a5f N (li L 0) (ll L 2) (li L 3) (lb L 6) (lb L 7) (lb L 8) (lb L 9) (ll L 11) (li x 0) (lm x 1) (lb x 2) (ll x 3) (fun w4 w35 w36 w37=>kr [.i w4,.m w35,.b w36,.l w37])) (fun L m x=>a9u N (li L 0) (ll L 2) (li L 3) (lb L 6) (lb L 7) (lb L 8) (lb L 9) (ll L 11) m (li x 0) (lm x 1) (lb x 2) (ll x 3) some) (fun s m L p=>((.exit 0),m [] [(40,.map 3 4 p.1),(50008003,.row 42 true p.2.1 p.2.2)])) fun _ _ _ _ _=>by unfold a5f;exact bb) 27
def a9v (N:Nat) (w5:Bool) (w29:LB) (k0:LB→R):R:=
 bif w5 then
  k0 ([]:List UInt8)
 else
  k0 w29
def b9B (w5:Bool) (w29:LB):LB:=a9v N w5 w29 (fun p=>p)
def c3e:=(c3d N).add (((c3d N).no 68).c0 (a5e N) 68 100 [3,6,7,8,9,13,66,67,68] [3,6,8,13,40,50008003,50008004,29000000007] ⟨[(3,cP 3),(6,cP 6),(7,cI),(8,cP 8),(9,.c (.m 40)),(13,cP 13),(66,cL 81),(67,cI),(68,cI),(95,cB)],[(3,bX2),(6,bX0),(8,e3V),(13,.box ([.i .i64,.i .i64,.s])),(40,.map 3 4),(50008003,.row 42 true),(50008004,.row 81 true),(29000000007,.row 9 true)]⟩ (fun L _=>a9v N (lb L 5) (ls L 29)) (fun s m L p=>(.normal,m [] [(13,.box [.i .i64 (li L 27),.i .i64 (li L 28),.s p])])) fun _ _=>by unfold a9v;exact kk) 68
def a5g (w0:Int) (w2:LD) (w3:Int) (w13:Bool) (w26:(List (D×D))) (w4:Int) (w29:Bool) (w30:LD) (kr:Int→Bool→LD→Option R) (k0:Bool×LD→Option R):Option R:=
 bif (decide (w4<w3)) then
  bif (inB w4 w2.length) then
   bnd ((a2R Tryz.prog 3 (.i ((w2.getD w4.toNat (.i 0)).cell 0).toI) w26).getD (.b false)).toB fun y0=>
   bnd (bif (!y0) then true else (!((a2R Tryz.prog 3 (.i ((w2.getD w4.toNat (.i 0)).cell 1).toI) w26).getD (.b false)).toB)) fun y1=>
   bif y1 then
    kr (IntKind.wrap .i64 (w4+1)) w29 w30
   else
    bnd (IntKind.wrap .i64 (((w2.getD w4.toNat (.i 0)).cell 0).toI-w0)) fun y2=>
    bnd (IntKind.wrap .i64 (((w2.getD w4.toNat (.i 0)).cell 1).toI-w0)) fun y3=>
    bnd (b9B N w13 ((w2.getD w4.toNat (.i 0)).cell 2).toS) fun y4=>
    bif (decide ((w30.length+1)*32≤a0X)&&decide ((w30.length+1)≤a0c)) then
     bnd ((w30++[(.a [(.i y2),(.i y3),(.s y4)])]):List D) fun y5=>
     kr (IntKind.wrap .i64 (w4+1)) false y5
    else
     none
  else
   none
 else
  k0 (w29,w30)
def a9w (N:Nat) {R:Type} (w0:Int) (w2:LD) (w3:Int) (w13:Bool) (w26:(List (D×D))):Nat→Int→Bool→LD→(Bool×LD→Option R)→Option R
 |0,_,_,_,_=>none
 |m+1,w4,w29,w30,k0=>a5g N w0 w2 w3 w13 w26 w4 w29 w30 (fun w4 w29 w30=>a9w N w0 w2 w3 w13 w26 m w4 w29 w30 k0) k0
def b39 (w0:Int) (w2:LD) (w3:Int) (w13:Bool) (w26:(List (D×D))) (w4:Int) (w29:Bool) (w30:LD):Option (Bool×LD):=a9w N (R:=(Bool×LD)) w0 w2 w3 w13 w26 N w4 w29 w30 some
def d1a:=(c3e N).add (((c3e N).no 51).l1 (a5e N) 51 [4,29,30] [6,8] [6,8,50008003,50008004,29000000007] ⟨[(3,cP 3),(6,cP 6),(7,cI),(8,cP 8),(9,.c (.m 40)),(66,cL 81),(67,cI),(68,cI)],[(3,bX2),(6,bX0),(8,e3V),(40,.map 3 4),(50008003,.row 42 true),(50008004,.row 81 true),(29000000007,.row 9 true)]⟩ N (fun L x _ kr=>a5g N (li L 0) (ll L 2) (li L 3) (lb L 13) (lm L 26) (li x 0) (lb x 1) (ll x 2) (fun w4 w29 w30=>kr [.i w4,.b w29,.l w30])) (fun L m x=>a9w N (li L 0) (ll L 2) (li L 3) (lb L 13) (lm L 26) m (li x 0) (lb x 1) (ll x 2) some) (fun s m L p=>((.exit 2),m [] [(50008004,.row 81 true p.1 p.2)])) fun _ _ _ _ _=>by unfold a5g;exact bb) 51
def d1b (v1 v2 v3 v4:Bool) (v6:LD) (v7 v8:Bool) (v9:LB) (v11:Int) (v15:LD) (v16:Bool) (v17 v19:LD) (k0:Ty1→Option R):Option R:=
 bif (inB 0 v19.length) then
  bnd (b6Y N ((v19.getD 0 (.i 0)).cell 0).toI v11 v16 v17) fun y0=>
  bif (a0U y0) then
   bnd (c3a N v8 v9 true []) fun y1=>
   bnd (c3b N v7 (a1E y0)) fun y2=>
   bif y2.isSome then
    bnd (b2g N ((v19.getD 0 (.i 0)).cell 0).toI v19 (v19.length:Int) v1 v2 v3 v4 v6 0 [] true []) fun y3=>
    bif y3.isSome then
     bnd (b2j N ((v19.getD 0 (.i 0)).cell 0).toI v15 (v15.length:Int) v8 (y3.getD default).1 0 true []) fun y4=>
     bif y4.isSome then
      k0 (y1.1,(y2.getD default),(y3.getD default).2.1,(y3.getD default).2.2,(y4.getD default).1,(y4.getD default).2,y1.2.1,y1.2.2)
     else
      none
    else
     none
   else
    none
  else
   bif (a0n y0).isSome then
    bnd (b9z N v8) fun y5=>
    bif (a0U y5) then
     bnd (b9A N v7 ((a0n y0).getD default).1) fun y6=>
     bif y6.isSome then
      bnd (b2g N ((v19.getD 0 (.i 0)).cell 0).toI v19 (v19.length:Int) v1 v2 v3 v4 v6 0 [] true []) fun y3=>
      bif y3.isSome then
       bnd (b2j N ((v19.getD 0 (.i 0)).cell 0).toI v15 (v15.length:Int) v8 (y3.getD default).1 0 true []) fun y4=>
       bif y4.isSome then
        k0 ((a1E y5),(y6.getD default),(y3.getD default).2.1,(y3.getD default).2.2,(y4.getD default).1,(y4.getD default).2,true,[])
       else
        none
      else
       none
     else
      none
    else
     bif (a0n y5).isSome then
      bnd (b5K N v7 ((a0n y0).getD default).1) fun y7=>
      bif y7.isSome then
       bnd (b38 N ((v19.getD 0 (.i 0)).cell 0).toI v19 (v19.length:Int) v1 v2 v3 v4 v6 0 [] true []) fun y8=>
       bif y8.isSome then
        bnd (b39 N ((v19.getD 0 (.i 0)).cell 0).toI v15 (v15.length:Int) v8 (y8.getD default).1 0 true []) fun y9=>
        bif y9.isSome then
         k0 (v9,(y7.getD default),(y8.getD default).2.1,(y8.getD default).2.2,(y9.getD default).1,(y9.getD default).2,((a0n y0).getD default).2,v17)
        else
         none
       else
        none
      else
       none
     else
      none
   else
    none
 else
  none
def d1c (v1 v2 v3 v4:Bool) (v6:LD) (v7 v8:Bool) (v9:LB) (v11:Int) (v15:LD) (v16:Bool) (v17 v19:LD):Option (Ty1):=d1b N v1 v2 v3 v4 v6 v7 v8 v9 v11 v15 v16 v17 v19 some
def b1R:=(d1a N).f1 (a5e N) ⟨[(0,.g (rB 5 ([.sl 3,.b,.b]))),(1,gX4),(2,cL 42)],[]⟩ (fun L _=>d1b N (lb L 1) (lb L 2) (lb L 3) (lb L 4) (ll L 6) (lb L 7) (lb L 8) (ls L 9) (li L 11) (ll L 15) (lb L 16) (ll L 17) (ll L 19)) (fun L p=>let p1:=p.2;let p2:=p1.2;let p3:=p2.2;let p4:=p3.2;let p5:=p4.2;let p6:=p5.2;let p7:=p6.2;([.g [.s p.1,.i .i64 (li L 10),.i .i64 p1.1,.sl 42 p2.1 p3.1,.sl 81 p4.1 p5.1,.sl 9 p6.1 p7]],[])) fun _ _=>by unfold d1b;exact bb
def a3G (N:Nat):a1y:=rfY (a0S Tryz.prog 19 600000022) [] 4 52
def a1I:a1y:={(a3G N) with tm:=[(8,.c (.p 2 0))]}
def d7f:Sg Tryz.prog 5 81 (b8j ((a1I N))):= .start [(12,[0,2,4,6,7,20,21,22],[0,1,2,3,4,11,12,50002005],[7,50002000]),(25,[0,2,4,6,7,9,10,20,21,22],[0,1,2,4,11,12,14,50002005],[]),(28,[0,2,4,6,7,9,20,21,22],[0,1,2,4,11,12,14,50002005],[]),(29,[0,2,4,6,7,9,20,21,22,46],[0,1,2,4,11,12,14,50002005],[]),(43,[0,2,6,7],[0,1,2,4,11,12,50002005],[]),(44,[0,2,6,7,61],[0,1,2,4,11,12,50002005],[])] [(0,[1,2,0]),(1,[1,2,4,0]),(2,[2,4,0,6]),(3,[2,4,7,0,6]),(4,[22,21,20,4,7,0,6,2]),(5,[22,20,4,21,7,0,6,2]),(6,[4,8,22,21,20,7,0,6,2,9]),(7,[7,9,0,6,2,22,21,20,4]),(8,[10,9,7,0,6,2,22,21,20,4]),(9,[0,6,2,7,9,22,21,20,4]),(10,[9,22,21,20,4,0,6,2]),(11,[7,9,22,21,20,4,0,6,2]),(12,[22,21,20,4,7,0,6,2]),(13,[7,0,6,2]),(14,[0,6,2,7])]
def b2k (N:Nat) (w2:Int) (w30:LD) (w31:Int) (k0:Bool→Option R):Option R:=
 bif (decide (w2>0)) then
  bif (inB (IntKind.wrap .i64 (w2-1)) w30.length) then
   bif (decide ((IntKind.wrap .i64 (w2-1)).toNat<w30.length)) then
    bnd ((w30.getD (IntKind.wrap .i64 (w2-1)).toNat (.i 0)).cell 0).toI fun y0=>
    k0 (decide ((IntKind.wrap .i64 (w31-y0))>60))
   else
    none
  else
   none
 else
  k0 false
def b6Z (w2:Int) (w30:LD) (w31:Int):Option (Bool):=b2k N w2 w30 w31 some
def d7g:=(d7f N).c1 (b1R N) 25 100 [0,2,4,6,7,9,20,21,22,46] [0,1,2,4,11,12,14,50002005] ⟨[(0,.c (.y 4)),(2,cP 1),(4,cL 4),(6,cP 11),(7,cO 12),(9,cP 14),(10,cI),(20,cL 42),(21,cI),(22,cI)],[(0,bX3),(1,bX0),(2,bX6),(4,.row 3 true),(11,bX2),(12,.row 42 true),(14,bX1),(50002005,.row 36 true)]⟩ (fun L _=>b2k N (li L 2) (ll L 30) (li L 31)) (fun s m L p=>(.normal,m [(46,.c (.b p))] [])) fun _ _=>by unfold b2k;exact bb
def a9x (w8:LB) (w9 w10:Int) (w14:LD) (w15:Bool) (w16:LD) (w20 w21 w22 w23:Bool) (w25:LD) (w26 w27:Bool) (w29 w38:LD) (k0:LD→Option R):Option R:=
 bnd (d1c N w20 w21 w22 w23 w25 w26 w27 w8 w10 w14 w15 w16 w29) fun y0=>
 bif y0.isSome then
  bif (decide ((w38.length+1)*104≤a0X)&&decide ((w38.length+1)≤a0c)) then
   bnd ((w38++[(.a [(.s (y0.getD default).1),(.i w9),(.i (y0.getD default).2.1),(.l (y0.getD default).2.2.1 (y0.getD default).2.2.2.1),(.l (y0.getD default).2.2.2.2.1 (y0.getD default).2.2.2.2.2.1),(.l (y0.getD default).2.2.2.2.2.2.1 (y0.getD default).2.2.2.2.2.2.2)])]):List D) fun y1=>
   k0 y1
  else
   none
 else
  none
def b2l (w8:LB) (w9 w10:Int) (w14:LD) (w15:Bool) (w16:LD) (w20 w21 w22 w23:Bool) (w25:LD) (w26 w27:Bool) (w29 w38:LD):Option (LD):=a9x N w8 w9 w10 w14 w15 w16 w20 w21 w22 w23 w25 w26 w27 w29 w38 some
theorem c1t (w8:LB) (w9 w10:Int) (w14:LD) (w15:Bool) (w16:LD) (w20 w21 w22 w23:Bool) (w25:LD) (w26 w27:Bool) (w29 w38:LD) (k0:LD→Option R):a9x N w8 w9 w10 w14 w15 w16 w20 w21 w22 w23 w25 w26 w27 w29 w38 k0=(b2l N w8 w9 w10 w14 w15 w16 w20 w21 w22 w23 w25 w26 w27 w29 w38).bind k0:=by
 unfold b2l a9x
 repeat' (first|with_reducible apply a6a|(with_reducible apply b1M;intro _)|rfl)
def c3f (L:List Lf) (k0:LD→Option R):Option R:=a9x N (ls L 8) (li L 9) (li L 10) (ll L 14) (lb L 15) (ll L 16) (lb L 20) (lb L 21) (lb L 22) (lb L 23) (ll L 25) (lb L 26) (lb L 27) (ll L 29) (ll L 38) k0
def b9C:Sh:={tmps:=[(0,.c (.y 4)),(2,cP 1),(4,cL 4),(6,cP 11),(7,cO 12),(9,cP 14),(20,cL 42),(21,cI),(22,cI)],mem:=[(0,bX3),(1,bX0),(2,bX6),(4,.row 3 true),(11,bX2),(12,.row 42 true),(14,bX1),(50002005,.row 36 true)]}
def b5L (L:List Lf) (p:LD):Ex×St:=(.normal,mg (a16 b9C L) [0,2,4,6,9,20,21,22,53] [(53,.c (.b false))] [0,1,2,4,11,14,53000000033] [(2,.box [.o 53000000033]),(53000000033,.row 36 true false p)])
def d1d (L:List Lf):List (Bool×(Ex×St)):=bnd (c3f N L some) fun q=>[(q.isSome,b5L L (q.getD default))]
theorem c5p (L:List Lf):pcY Tryz.prog (b1R N).o 5 ((a1I N)) 81 28 b9C L [0,2,4,6,9,20,21,22,53] [0,1,2,4,11,14,53000000033]=c3f N L (fun p=>some (b5L L p)):=by kernel_rfl
def d7h:Sg Tryz.prog 5 81 (b8j ((a1I N))):=
 (d7g N).cutY (d1d N) a6d (b1R N).ok (d4j (by kernel_rfl)) fun L x hx=>(c5p N L).trans ((c1t N ..).trans (b8i x hx))
def a9y (w6:Bool) (w9:LB) (w10 w11:Int) (w15:LD) (w16:Bool) (w17:LD) (w21 w22 w23 w24:Bool) (w26:LD) (w27 w28:Bool) (w30 w39:LD) (k0:LD→Option R) (k1:Unit→Option R):Option R:=
 bif w6 then
  bnd (b2l N w9 w10 w11 w15 w16 w17 w21 w22 w23 w24 w26 w27 w28 w30 w39) fun y0=>
  bif y0.isSome then
   k0 (y0.getD default)
  else
   none
 else
  k1 ()
def b60 (w6:Bool) (w9:LB) (w10 w11:Int) (w15:LD) (w16:Bool) (w17:LD) (w21 w22 w23 w24:Bool) (w26:LD) (w27 w28:Bool) (w30 w39:LD):Option (Sum (LD) (Unit)):=a9y N w6 w9 w10 w11 w15 w16 w17 w21 w22 w23 w24 w26 w27 w28 w30 w39 (fun p=>some (.inl p)) (fun p=>some (.inr p))
def d7i:=(d7h N).c2 (b1R N) 29 100 [0,2,4,6,7,9,20,21,22] [0,1,2,4,11,12,14,50002005,53000000033] ⟨[(0,.c (.y 4)),(2,cP 1),(4,cL 4),(6,cP 11),(7,cO 12),(9,cP 14),(20,cL 42),(21,cI),(22,cI),(46,cB)],[(0,bX3),(1,bX0),(2,bX6),(4,.row 3 true),(11,bX2),(12,.row 42 true),(14,bX1),(50002005,.row 36 true)]⟩ (fun L _=>a9y N (lb L 6) (ls L 9) (li L 10) (li L 11) (ll L 15) (lb L 16) (ll L 17) (lb L 21) (lb L 22) (lb L 23) (lb L 24) (ll L 26) (lb L 27) (lb L 28) (ll L 30) (ll L 39)) (fun s m L p=>(.normal,mg s [0,2,4,6,7,9,20,21,22] [(7,.c (.sl 42 true []))] [0,1,2,4,11,14,53000000033] [(2,.box [.o 53000000033]),(53000000033,.row 36 true false p)])) (fun s m L _=>(.normal,mg s [0,2,4,6,7,9,20,21,22] [] [0,1,2,4,11,12,14,50002005] [])) fun _ _ _=>by unfold a9y;exact bb
def a7l (w1 w3:LD) (w4:Int) (w8:LB) (w9 w10:Int) (w14:LD) (w15:Bool) (w16:LD) (w20 w21 w22 w23:Bool) (w25:LD) (w26 w27:Bool) (w5:Int) (w28:Bool) (w29:LD) (w30:Bool) (w31:LD) (kr:Int→Bool→LD→Bool→LD→Option R) (k0:Ty9→Option R):Option R:=
 bif (decide (w5<w4)) then
  bif (inB w5 w3.length) then
   bif (inB w5 w1.length) then
    bif (w1.getD w5.toNat (.i 0)).toB then
     kr (IntKind.wrap .i64 (w5+1)) w28 w29 w30 w31
    else
     bnd (b6Z N (w29.length:Int) w29 ((w3.getD w5.toNat (.i 0)).cell 0).toI) fun y0=>
     bif y0.isSome then
      bnd (b60 N (y0.getD default) w8 w9 w10 w14 w15 w16 w20 w21 w22 w23 w25 w26 w27 w29 w31) fun y1=>
      bif (a0U y1) then
       kr (IntKind.wrap .i64 (w5+1)) false [(.a [(.i ((w3.getD w5.toNat (.i 0)).cell 0).toI),(.i ((w3.getD w5.toNat (.i 0)).cell 1).toI),(.i ((w3.getD w5.toNat (.i 0)).cell 2).toI),(.i ((w3.getD w5.toNat (.i 0)).cell 3).toI),(.i ((w3.getD w5.toNat (.i 0)).cell 4).toI),(.i ((w3.getD w5.toNat (.i 0)).cell 5).toI),(.i ((w3.getD w5.toNat (.i 0)).cell 6).toI)])] false (a1E y1)
      else
       bif (a0n y1).isSome then
        bif (decide ((w29.length+1)*56≤a0X)&&decide ((w29.length+1)≤a0c)) then
         bnd ((w29++[(.a [(.i ((w3.getD w5.toNat (.i 0)).cell 0).toI),(.i ((w3.getD w5.toNat (.i 0)).cell 1).toI),(.i ((w3.getD w5.toNat (.i 0)).cell 2).toI),(.i ((w3.getD w5.toNat (.i 0)).cell 3).toI),(.i ((w3.getD w5.toNat (.i 0)).cell 4).toI),(.i ((w3.getD w5.toNat (.i 0)).cell 5).toI),(.i ((w3.getD w5.toNat (.i 0)).cell 6).toI)])]):List D) fun y2=>
         kr (IntKind.wrap .i64 (w5+1)) false y2 w30 w31
        else
         none
       else
        none
     else
      none
   else
    none
  else
   none
 else
  k0 (w28,w29,w30,w31)
def b2m (N:Nat) {R:Type} (w1 w3:LD) (w4:Int) (w8:LB) (w9 w10:Int) (w14:LD) (w15:Bool) (w16:LD) (w20 w21 w22 w23:Bool) (w25:LD) (w26 w27:Bool):Nat→Int→Bool→LD→Bool→LD→(Ty9→Option R)→Option R
 |0,_,_,_,_,_,_=>none
 |m+1,w5,w28,w29,w30,w31,k0=>a7l N w1 w3 w4 w8 w9 w10 w14 w15 w16 w20 w21 w22 w23 w25 w26 w27 w5 w28 w29 w30 w31 (fun w5 w28 w29 w30 w31=>b2m N w1 w3 w4 w8 w9 w10 w14 w15 w16 w20 w21 w22 w23 w25 w26 w27 m w5 w28 w29 w30 w31 k0) k0
def b61 (w1 w3:LD) (w4:Int) (w8:LB) (w9 w10:Int) (w14:LD) (w15:Bool) (w16:LD) (w20 w21 w22 w23:Bool) (w25:LD) (w26 w27:Bool) (w5:Int) (w28:Bool) (w29:LD) (w30:Bool) (w31:LD):Option (Ty9):=b2m N (R:=(Ty9)) w1 w3 w4 w8 w9 w10 w14 w15 w16 w20 w21 w22 w23 w25 w26 w27 N w5 w28 w29 w30 w31 some
def d7j:=(d7i N).l1 (b1R N) 12 [5,28,29,30,31] [0,2,6,7] [0,1,2,4,11,12,50002005] ⟨[(0,.c (.y 4)),(2,cP 1),(4,cL 4),(6,cP 11),(7,cO 12),(20,cL 42),(21,cI),(22,cI)],[(0,bX3),(1,bX0),(2,bX6),(4,.row 3 true),(11,bX2),(12,.row 42 true),(50002005,.row 36 true)]⟩ N (fun L x _ kr=>a7l N (ll L 1) (ll L 3) (li L 4) (ls L 8) (li L 9) (li L 10) (ll L 14) (lb L 15) (ll L 16) (lb L 20) (lb L 21) (lb L 22) (lb L 23) (ll L 25) (lb L 26) (lb L 27) (li x 0) (lb x 1) (ll x 2) (lb x 3) (ll x 4) (fun w5 w28 w29 w30 w31=>kr [.i w5,.b w28,.l w29,.b w30,.l w31])) (fun L m x=>b2m N (ll L 1) (ll L 3) (li L 4) (ls L 8) (li L 9) (li L 10) (ll L 14) (lb L 15) (ll L 16) (lb L 20) (lb L 21) (lb L 22) (lb L 23) (ll L 25) (lb L 26) (lb L 27) m (li x 0) (lb x 1) (ll x 2) (lb x 3) (ll x 4) some) (fun s m L p=>((.exit 0),m [] [(12,.row 42 true p.1 p.2.1),(50002005,.row 36 true p.2.2.1 p.2.2.2)])) fun _ _ _ _ _=>by unfold a7l;exact bb
def a9z (w2:LB) (w3 w4:Int) (w8:LD) (w9:Bool) (w10:LD) (w14 w15 w16 w17:Bool) (w19:LD) (w20 w21:Bool) (w23 w25:LD) (k0:LD→Option R):Option R:=
 bnd (d1c N w14 w15 w16 w17 w19 w20 w21 w2 w4 w8 w9 w10 w23) fun y0=>
 bif y0.isSome then
  bif (decide ((w25.length+1)*104≤a0X)&&decide ((w25.length+1)≤a0c)) then
   bnd ((w25++[(.a [(.s (y0.getD default).1),(.i w3),(.i (y0.getD default).2.1),(.l (y0.getD default).2.2.1 (y0.getD default).2.2.2.1),(.l (y0.getD default).2.2.2.2.1 (y0.getD default).2.2.2.2.2.1),(.l (y0.getD default).2.2.2.2.2.2.1 (y0.getD default).2.2.2.2.2.2.2)])]):List D) fun y1=>
   k0 y1
  else
   none
 else
  none
def b2n (w2:LB) (w3 w4:Int) (w8:LD) (w9:Bool) (w10:LD) (w14 w15 w16 w17:Bool) (w19:LD) (w20 w21:Bool) (w23 w25:LD):Option (LD):=a9z N w2 w3 w4 w8 w9 w10 w14 w15 w16 w17 w19 w20 w21 w23 w25 some
theorem c1u (w2:LB) (w3 w4:Int) (w8:LD) (w9:Bool) (w10:LD) (w14 w15 w16 w17:Bool) (w19:LD) (w20 w21:Bool) (w23 w25:LD) (k0:LD→Option R):a9z N w2 w3 w4 w8 w9 w10 w14 w15 w16 w17 w19 w20 w21 w23 w25 k0=(b2n N w2 w3 w4 w8 w9 w10 w14 w15 w16 w17 w19 w20 w21 w23 w25).bind k0:=by
 unfold b2n a9z
 repeat' (first|with_reducible apply a6a|(with_reducible apply b1M;intro _)|rfl)
def c3g (L:List Lf) (k0:LD→Option R):Option R:=a9z N (ls L 2) (li L 3) (li L 4) (ll L 8) (lb L 9) (ll L 10) (lb L 14) (lb L 15) (lb L 16) (lb L 17) (ll L 19) (lb L 20) (lb L 21) (ll L 23) (ll L 25) k0
def b9D:Sh:={tmps:=[(0,.c (.y 4)),(2,cP 1),(6,cP 11),(7,cO 12)],mem:=[(0,bX3),(1,bX0),(2,bX6),(4,.row 3 true),(11,bX2),(12,.row 42 true),(50002005,.row 36 true)]}
def b5M (L:List Lf) (p:LD):Ex×St:=(.normal,mg (a16 b9D L) [] [] [0,1,2,4,68000000033] [(2,.box [.o 68000000033]),(68000000033,.row 36 true false p)])
def d1e (L:List Lf):List (Bool×(Ex×St)):=bnd (c3g N L some) fun q=>[(q.isSome,b5M L (q.getD default))]
theorem c5q (L:List Lf):pcY Tryz.prog (b1R N).o 5 ((a1I N)) 81 43 b9D L [] [0,1,2,4,68000000033]=c3g N L (fun p=>some (b5M L p)):=by kernel_rfl
def d7k:Sg Tryz.prog 5 81 (b8j ((a1I N))):=
 (d7j N).cutY (d1e N) a6d (b1R N).ok (d4j (by kernel_rfl)) fun L x hx=>(c5q N L).trans ((c1u N ..).trans (b8i x hx))
def b2o (w0:Bool) (w3:LB) (w4 w5:Int) (w9:LD) (w10:Bool) (w11:LD) (w15 w16 w17 w18:Bool) (w20:LD) (w21 w22:Bool) (w24 w26:LD) (k0:LD→Option R) (k1:Unit→Option R):Option R:=
 bif w0 then
  bnd (b2n N w3 w4 w5 w9 w10 w11 w15 w16 w17 w18 w20 w21 w22 w24 w26) fun y0=>
  bif y0.isSome then
   k0 (y0.getD default)
  else
   none
 else
  k1 ()
def c3h (w0:Bool) (w3:LB) (w4 w5:Int) (w9:LD) (w10:Bool) (w11:LD) (w15 w16 w17 w18:Bool) (w20:LD) (w21 w22:Bool) (w24 w26:LD):Option (Sum (LD) (Unit)):=b2o N w0 w3 w4 w5 w9 w10 w11 w15 w16 w17 w18 w20 w21 w22 w24 w26 (fun p=>some (.inl p)) (fun p=>some (.inr p))
def c7T:=(d7k N).c2 (b1R N) 44 100 [] [0,1,2,4,50002005,68000000033] ⟨[(0,.c (.y 4)),(2,cP 1),(6,cP 11),(7,cO 12),(61,cB)],[(0,bX3),(1,bX0),(2,bX6),(4,.row 3 true),(11,bX2),(12,.row 42 true),(50002005,.row 36 true)]⟩ (fun L _=>b2o N (lb L 0) (ls L 3) (li L 4) (li L 5) (ll L 9) (lb L 10) (ll L 11) (lb L 15) (lb L 16) (lb L 17) (lb L 18) (ll L 20) (lb L 21) (lb L 22) (ll L 24) (ll L 26)) (fun s m L p=>(.normal,mg s [] [] [0,1,2,4,68000000033] [(2,.box [.o 68000000033]),(68000000033,.row 36 true false p)])) (fun s m L _=>(.normal,mg s [] [] [0,1,2,4,50002005] [])) fun _ _ _=>by unfold b2o;exact bb
def c7U (v1:LD) (v2:LB) (v3 v4:Int) (v6 v8:LD) (v9:Bool) (v10:LD) (v11:Bool) (v12:LD) (k0:LD→Option R) (k1:Bool×LD→Option R):Option R:=
 bnd (d01 N v1 v3 v4 v6 v10) fun y0=>
 bif y0.isSome then
  bnd (d67 N v1) fun y1=>
  bif y1.isSome then
   bnd (b61 N (y0.getD default).1 v6 (v6.length:Int) v2 v3 v4 v8 v9 v10 (y1.getD default).2.1 (y1.getD default).2.2.1 (y1.getD default).2.2.2.1 (y1.getD default).2.2.2.2.1 (y1.getD default).2.2.2.2.2.2.1 (y1.getD default).2.2.2.2.2.2.2.1 (y1.getD default).2.2.2.2.2.2.2.2 0 true [] v11 v12) fun y2=>
   bif y2.isSome then
    bnd (c3h N (decide (((y2.getD default).2.1.length:Int)>0)) v2 v3 v4 v8 v9 v10 (y1.getD default).2.1 (y1.getD default).2.2.1 (y1.getD default).2.2.2.1 (y1.getD default).2.2.2.2.1 (y1.getD default).2.2.2.2.2.2.1 (y1.getD default).2.2.2.2.2.2.2.1 (y1.getD default).2.2.2.2.2.2.2.2 (y2.getD default).2.1 (y2.getD default).2.2.2) fun y3=>
    bif (a0U y3) then
     k0 (a1E y3)
    else
     bif (a0n y3).isSome then
      k1 ((y2.getD default).2.2.1,(y2.getD default).2.2.2)
     else
      none
   else
    none
  else
   none
 else
  none
def c5r (v1:LD) (v2:LB) (v3 v4:Int) (v6 v8:LD) (v9:Bool) (v10:LD) (v11:Bool) (v12:LD):Option (Sum (LD) (Bool×LD)):=c7U N v1 v2 v3 v4 v6 v8 v9 v10 v11 v12 (fun p=>some (.inl p)) (fun p=>some (.inr p))
theorem d1f (v1:LD) (v2:LB) (v3 v4:Int) (v6 v8:LD) (v9:Bool) (v10:LD) (v11:Bool) (v12:LD) (k0:LD→Option R) (k1:Bool×LD→Option R):c7U N v1 v2 v3 v4 v6 v8 v9 v10 v11 v12 k0 k1=(c5r N v1 v2 v3 v4 v6 v8 v9 v10 v11 v12).bind (b6B k0 k1):=by
 unfold c5r c7U
 repeat' (first|with_reducible apply a6a|(with_reducible apply b1M;intro _)|rfl)
def e1j (L:List Lf) (k0:LD→Option R) (k1:Bool×LD→Option R):Option R:=c7U N (ll L 1) (ls L 2) (li L 3) (li L 4) (ll L 6) (ll L 8) (lb L 9) (ll L 10) (lb L 11) (ll L 12) k0 k1
def b9E:Sh:={tmps:=[(0,.c (.y 4)),(1,cP 0),(2,cP 1),(8,cP 2)],mem:=[(0,bX3),(1,bX0),(2,.box ([.o 3])),(3,.row 36 true),(4,.row 3 true)]}
def c7V (L:List Lf) (p:LD):Res:=([],mgA (a16 b9E L).mem [(2,.box [.o 68000000033]),(68000000033,.row 36 true false p)] [0,1,2,4,68000000033])
def c7W (L:List Lf) (p:Bool×LD):Res:=([],mgA (a16 b9E L).mem [(2,.box [.o 50002005]),(50002005,.row 36 true p.1 p.2)] [0,1,2,4,50002005])
def e1k (L:List Lf):List (Bool×Res):=bnd (e1j N L (fun p=>some (.inl p)) (fun p=>some (.inr p))) fun q=>[((a0U q),c7V L (a1E q)),((a0n q).isSome,c7W L ((a0n q).getD default))]
theorem d7l (L:List Lf):bdY Tryz.prog (b1R N).o ((c7T N)).h 81 3 b9E L=e1j N L (fun p=>some (c7V L p)) (fun p=>some (c7W L p)):=by kernel_rfl
theorem e1l:d0y (a3G N) Tryz.prog 81 3 b9E (e1k N):=
 Sg.fnY (fun L=>(a1I N)) (fun L=>(c7T N)) (fun L=>by kernel_rfl) a6d (b1R N).ok fun L x hx=>((d7l N L).trans ((d1f N ..).trans ((c57 b8i) x hx)))
def d7m (N:Nat):Sg Tryz.prog 0 19:= .start [(12,[7,8,15,16,17],[8,50008000],[50008000]),(600000022,[7,8,15,16,17,23],[8,50008000,24000000002,24000000003],[])] [(0,[0,1,2]),(1,[3,1,2]),(2,[2,7]),(3,[2,7,8]),(4,[17,16,15,7,8]),(5,[15,17,7,16,8]),(6,[7,10,17,16,15,8]),(9,[17,16,15,7,8]),(10,[8])]
def a19 (w6:Bool) (w7 w9:LD) (w10:LB) (w11 w12:Int) (w14 w16:LD) (w17:Bool) (w18:LD) (k0:LD→Option R) (k1:Bool×LD→Option R):Option R:=
 bnd (c5r N w9 w10 w11 w12 w14 w16 w17 w18 w6 w7) fun y0=>
 bif (a0U y0) then
  k0 (a1E y0)
 else
  bif (a0n y0).isSome then
   k1 ((a0n y0).getD default)
  else
   none
def a2J (w6:Bool) (w7 w9:LD) (w10:LB) (w11 w12:Int) (w14 w16:LD) (w17:Bool) (w18:LD):Option (Sum (LD) (Bool×LD)):=a19 N w6 w7 w9 w10 w11 w12 w14 w16 w17 w18 (fun p=>some (.inl p)) (fun p=>some (.inr p))
theorem a9A (w6:Bool) (w7 w9:LD) (w10:LB) (w11 w12:Int) (w14 w16:LD) (w17:Bool) (w18:LD) (k0:LD→Option R) (k1:Bool×LD→Option R):a19 N w6 w7 w9 w10 w11 w12 w14 w16 w17 w18 k0 k1=(a2J N w6 w7 w9 w10 w11 w12 w14 w16 w17 w18).bind (b6B k0 k1):=by
 unfold a2J a19
 repeat' (first|with_reducible apply a6a|(with_reducible apply b1M;intro _)|rfl)
def a6J (L:List Lf) (k0:LD→Option R) (k1:Bool×LD→Option R):Option R:=a19 N (lb L 6) (ll L 7) (ll L 9) (ls L 10) (li L 11) (li L 12) (ll L 14) (ll L 16) (lb L 17) (ll L 18) k0 k1
def a3H:Sh:={tmps:=[(7,cL 124),(8,cP 8),(15,cL 36),(16,cI),(17,cI),(23,.c (.f 81 [(24000000002,0),(24000000003,0)]))],mem:=[(8,.box ([.o 50008000])),(50008000,.row 36 true),(24000000002,bX3),(24000000003,bX0)]}
def a5h (L:List Lf) (p:LD):Ex×St:=(.normal,mg (a16 a3H L) [7,8,15,16,17] [] [8,1000068000000033] [(8,.box [.o 1000068000000033]),(1000068000000033,.row 36 true false p)])
def a5i (L:List Lf) (p:Bool×LD):Ex×St:=(.normal,mg (a16 a3H L) [7,8,15,16,17] [] [8,1000000050002005] [(8,.box [.o 1000000050002005]),(1000000050002005,.row 36 true p.1 p.2)])
def b4a (L:List Lf):List (Bool×(Ex×St)):=bnd (a6J N L (fun p=>some (.inl p)) (fun p=>some (.inr p))) fun q=>[((a0U q),a5h L (a1E q)),((a0n q).isSome,a5i L ((a0n q).getD default))]
theorem b0F (L:List Lf):pcR Tryz.prog (a3G N) [8] (spY 3 b9E (e1k N)) 81 3 0 19 600000022 a3H L [7,8,15,16,17] [8,1000000050002005,1000068000000033]=a6J N L (fun p=>some (a5h L p)) (fun p=>some (a5i L p)):=by kernel_rfl
def d7n:Sg Tryz.prog 0 19:=
 (d7m N).rf (g:= .tmp 23) (b4a N) (e1l N) (fun L x hx=>(b0F N L).trans ((a9A N ..).trans ((c57 b8i) x hx))) (by kernel_rfl)
def a7m (w1 w3:LD) (w4:Int) (w5:Int) (w6:Bool) (w7:LD) (kr:Int→Bool→LD→Option R) (k0:Bool×LD→Option R):Option R:=
 bif (decide (w5<w4)) then
  bif (inB w5 w3.length) then
   bnd (a2J N w6 w7 w1 ((w3.getD w5.toNat (.i 0)).cell 0).toS ((w3.getD w5.toNat (.i 0)).cell 1).toI ((w3.getD w5.toNat (.i 0)).cell 2).toI ((w3.getD w5.toNat (.i 0)).cell 3).items ((w3.getD w5.toNat (.i 0)).cell 4).items ((w3.getD w5.toNat (.i 0)).cell 5).isNil ((w3.getD w5.toNat (.i 0)).cell 5).items) fun y0=>
   bif (a0U y0) then
    kr (IntKind.wrap .i64 (w5+1)) false (a1E y0)
   else
    bif (a0n y0).isSome then
     kr (IntKind.wrap .i64 (w5+1)) ((a0n y0).getD default).1 ((a0n y0).getD default).2
    else
     none
  else
   none
 else
  k0 (w6,w7)
def b2p (N:Nat) {R:Type} (w1 w3:LD) (w4:Int):Nat→Int→Bool→LD→(Bool×LD→Option R)→Option R
 |0,_,_,_,_=>none
 |m+1,w5,w6,w7,k0=>a7m N w1 w3 w4 w5 w6 w7 (fun w5 w6 w7=>b2p N w1 w3 w4 m w5 w6 w7 k0) k0
def b62 (w1 w3:LD) (w4:Int) (w5:Int) (w6:Bool) (w7:LD):Option (Bool×LD):=b2p N (R:=(Bool×LD)) w1 w3 w4 N w5 w6 w7 some
def d7o:=(d7n N).l1 (b1R N) 12 [5,6,7] [6,8] [8,50008000] ⟨[(7,cL 124),(8,cP 8),(15,cL 36),(16,cI),(17,cI)],[(8,.box ([.o 50008000])),(50008000,.row 36 true)]⟩ N (fun L x _ kr=>a7m N (ll L 1) (ll L 3) (li L 4) (li x 0) (lb x 1) (ll x 2) (fun w5 w6 w7=>kr [.i w5,.b w6,.l w7])) (fun L m x=>b2p N (ll L 1) (ll L 3) (li L 4) m (li x 0) (lb x 1) (ll x 2) some) (fun s m L p=>((.exit 0),mg s [8] [] [8,50008000] [(50008000,.row 36 true p.1 p.2)])) fun _ _ _ _ _=>by unfold a7m;exact bb
def d1g (v1:LD) (v2:Int) (v4:LD) (k0:Bool×LD→Option R):Option R:=
 bnd (d0P N v1 v2) fun y0=>
 bif y0.isSome then
  bnd (b62 N (y0.getD default).2 v4 (v4.length:Int) 0 true []) fun y1=>
  bif y1.isSome then
   k0 (y1.getD default)
  else
   none
 else
  none
def d7p (v1:LD) (v2:Int) (v4:LD):Option (Bool×LD):=d1g N v1 v2 v4 some
def e4f:=(d7o N).f1 (b1R N) ⟨[(0,gX9),(1,cI),(2,cL 36)],[]⟩ (fun L _=>d1g N (ll L 1) (li L 2) (ll L 4)) (fun L p=>([.c (.sl 36 p.1 p.2)],[])) fun _ _=>by unfold d1g;exact bb
def e1m (N:Nat):Sg Tryz.prog 0 4:= .start [] [(0,[0,1,2]),(1,[3,1,2]),(2,[8,3,1,2]),(3,[8]),(4,[3,1,2])]
def e3h (v1:LD) (v2:Int) (v4:LD) (k0:Bool×LD×Int→Option R):Option R:=
 bnd (d6u N v1 v2 v4) fun y0=>
 bif y0.isSome then
  bif ((y0.getD default) !=0) then
   k0 (true,[],(y0.getD default))
  else
   bnd (d7p N v1 v2 v4) fun y1=>
   bif y1.isSome then
    k0 ((y1.getD default).1,(y1.getD default).2,0)
   else
    none
 else
  none
def b63 (v1:LD) (v2:Int) (v4:LD):Option (Bool×LD×Int):=e3h N v1 v2 v4 some
def e5K:=(e1m N).f1 (e4f N) ⟨[(0,gX9),(1,cI),(2,cL 36)],[]⟩ (fun L _=>e3h N (ll L 1) (li L 2) (ll L 4)) (fun L p=>([.c (.sl 36 p.1 p.2.1),.c (.i .i64 p.2.2)],[])) fun _ _=>by unfold e3h;exact bb
def e5L (N:Nat) (L:List Lf):List (Bool×Res):=e02 L
theorem e4g:c1d Tryz.prog 5 d4r (e5L N):=d5Q
def e5M:Oc Tryz.prog:=(e5K N).x (e4g N)
def e1n (N:Nat):Sg Tryz.prog 0 6:= .start [] [(0,[0]),(1,[0]),(2,[]),(3,[0])] true
def e3i (N:Nat) (v0:Bool) (v1:LD) (k0:Unit→Option R) (k1:Bool→Option R):Option R:=
 bif v0 then
  k0 ()
 else
  bif (decide ((0+v1.length)*104≤a0X)&&decide ((0+v1.length)≤a0c)) then
   k1 (v1.isEmpty&&false)
  else
   none
def e5k (v0:Bool) (v1:LD):Option (Sum (Unit) (Bool)):=e3i N v0 v1 (fun p=>some (.inl p)) (fun p=>some (.inr p))
def e5N:=(e1n N).f2 (e5M N) ⟨[(0,cL 36)],[]⟩ (fun L _=>e3i N (lb L 0) (ll L 1)) (fun L _=>([.c (.sl 36 true [])],[])) (fun L p=>([.c (.o 7)],[(7,.row 36 true p (ll L 1))])) fun _ _ _=>by unfold e3i;exact bb
def e1o (N:Nat):Sg Tryz.prog 0 7:= .start [] [(0,[0,2,1]),(1,[3,1,5]),(2,[9,3,1,5]),(3,[9]),(4,[3,1,5]),(5,[10,11])]
def e3j (v1:LD) (v2:Int) (v3:LB) (v4 v5:Int) (v6:Bool) (v7:LD) (v8:Bool) (v9:LD) (v10:Bool) (v11:LD) (k0:Bool×LD×Bool×Int→Option R):Option R:=
 bnd (c7J N v1 v2 [(.a [(.s v3),(.i v4),(.i v5),(.l v6 v7),(.l v8 v9),(.l v10 v11)])]) fun y0=>
 bif y0.isSome then
  bif ((y0.getD default) !=0) then
   k0 (true,[],false,(y0.getD default))
  else
   bnd (d0P N v1 v2) fun y1=>
   bif y1.isSome then
    bnd (d01 N (y1.getD default).2 v4 v5 v7 v11) fun y2=>
    bif y2.isSome then
     k0 (false,(y2.getD default).1,(y2.getD default).2,0)
    else
     none
   else
    none
 else
  none
def d4y (v1:LD) (v2:Int) (v3:LB) (v4 v5:Int) (v6:Bool) (v7:LD) (v8:Bool) (v9:LD) (v10:Bool) (v11:LD):Option (Bool×LD×Bool×Int):=e3j N v1 v2 v3 v4 v5 v6 v7 v8 v9 v10 v11 some
def e5O:=(e1o N).f1 (e5N N) ⟨[(0,gX9),(1,cI),(2,gX4)],[]⟩ (fun L _=>e3j N (ll L 1) (li L 2) (ls L 3) (li L 4) (li L 5) (lb L 6) (ll L 7) (lb L 8) (ll L 9) (lb L 10) (ll L 11)) (fun L p=>([.c (.sl 4 p.1 p.2.1),.c (.b p.2.2.1),.c (.i .i64 p.2.2.2)],[])) fun _ _=>by unfold e3j;exact bb
def e1p (N:Nat):Sg Tryz.prog 0 8:= .start [] [(0,[0]),(1,[0]),(2,[]),(3,[0])] true
def e3k (N:Nat) (v0:Bool) (v1:LD) (k0:Unit→Option R) (k1:Bool→Option R):Option R:=
 bif v0 then
  k0 ()
 else
  bif (decide ((0+v1.length)*56≤a0X)&&decide ((0+v1.length)≤a0c)) then
   k1 (v1.isEmpty&&false)
  else
   none
def e4h (v0:Bool) (v1:LD):Option (Sum (Unit) (Bool)):=e3k N v0 v1 (fun p=>some (.inl p)) (fun p=>some (.inr p))
def e5l:=(e1p N).f2 (e5O N) ⟨[(0,cL 42)],[]⟩ (fun L _=>e3k N (lb L 0) (ll L 1)) (fun L _=>([.c (.sl 42 true [])],[])) (fun L p=>([.c (.o 7)],[(7,.row 42 true p (ll L 1))])) fun _ _ _=>by unfold e3k;exact bb
def e1q (N:Nat):Sg Tryz.prog 0 9:= .start [(12,[0,1,12,13],[],[])] [(0,[0,1]),(1,[0,1]),(2,[]),(3,[0,1]),(4,[13,12,0,1]),(5,[13,0,1,12]),(6,[0,5,1,13,12]),(7,[]),(8,[13,12,0,1]),(9,[])]
def b0G (N:Nat) (w1 w3:LD) (w4:Int) (w5:Int) (kr:Int→Option R) (k0:Unit→Option R) (k1:Unit→Option R):Option R:=
 bif (decide (w5<w4)) then
  bif (inB w5 w1.length) then
   bif (inB w5 w3.length) then
    bnd (!((w1.getD w5.toNat (.i 0)).toB==(w3.getD w5.toNat (.i 0)).toB)) fun y0=>
    bif y0 then
     k0 ()
    else
     kr (IntKind.wrap .i64 (w5+1))
   else
    none
  else
   none
 else
  k1 ()
def b64 (N:Nat) {R:Type} (w1 w3:LD) (w4:Int):Nat→Int→(Unit→Option R)→(Unit→Option R)→Option R
 |0,_,_,_=>none
 |m+1,w5,k0,k1=>b0G N w1 w3 w4 w5 (fun w5=>b64 N w1 w3 w4 m w5 k0 k1) k0 k1
def c1v (w1 w3:LD) (w4:Int) (w5:Int):Option (Sum (Unit) (Unit)):=b64 N (R:=(Sum (Unit) (Unit))) w1 w3 w4 N w5 (fun p=>some (.inl p)) (fun p=>some (.inr p))
def e1r:=(e1q N).l2 (e5l N) 12 [5] [4] [] ⟨[(0,cL 4),(1,cL 4),(12,cI),(13,cI)],[]⟩ N (fun L x _ kr=>b0G N (ll L 1) (ll L 3) (li L 4) (li x 0) (fun w5=>kr [.i w5])) (fun L m x=>b64 N (ll L 1) (ll L 3) (li L 4) m (li x 0) (fun p=>some (.inl p)) (fun p=>some (.inr p))) (fun s m L _=>(.ret,⟨[(4,.c (.b false))],[]⟩)) (fun s m L _=>((.exit 0),⟨[],[]⟩)) fun _ _ _ _ _ _=>by unfold b0G;exact bb
def e3l (v1 v3:LD) (k0:Bool→Option R):Option R:=
 bif ((v1.length:Int) !=(v3.length:Int)) then
  k0 false
 else
  bnd (c1v N v1 v3 (v1.length:Int) 0) fun y0=>
  bif (a0U y0) then
   k0 false
  else
   bif (a0n y0).isSome then
    k0 true
   else
    none
def e0x (v1 v3:LD):Option (Bool):=e3l N v1 v3 some
def e5m:=(e1r N).f1 (e5l N) ⟨[(0,cL 4),(1,cL 4)],[]⟩ (fun L _=>e3l N (ll L 1) (ll L 3)) (fun L p=>([.c (.b p)],[])) fun _ _=>by unfold e3l;exact bb
def d7q (N:Nat):Sg Tryz.prog 0 25:= .start [(12,[0,1,12,13],[],[])] [(0,[0,1]),(1,[0,1]),(2,[]),(3,[0,1]),(4,[13,12,0,1]),(5,[13,0,1,12]),(6,[0,5,1,13,12]),(7,[]),(8,[13,12,0,1]),(9,[])]
def a7n (N:Nat) (w1 w3:LD) (w4:Int) (w5:Int) (kr:Int→Option R) (k0:Unit→Option R) (k1:Unit→Option R):Option R:=
 bif (decide (w5<w4)) then
  bif (inB w5 w1.length) then
   bif (inB w5 w3.length) then
    bnd (!((((w1.getD w5.toNat (.i 0)).cell 0).toI==((w3.getD w5.toNat (.i 0)).cell 0).toI)&&((((w1.getD w5.toNat (.i 0)).cell 1).toI==((w3.getD w5.toNat (.i 0)).cell 1).toI)&&((((w1.getD w5.toNat (.i 0)).cell 2).toI==((w3.getD w5.toNat (.i 0)).cell 2).toI)&&((((w1.getD w5.toNat (.i 0)).cell 3).toI==((w3.getD w5.toNat (.i 0)).cell 3).toI)&&((((w1.getD w5.toNat (.i 0)).cell 4).toI==((w3.getD w5.toNat (.i 0)).cell 4).toI)&&((((w1.getD w5.toNat (.i 0)).cell 5).toI==((w3.getD w5.toNat (.i 0)).cell 5).toI)&&((((w1.getD w5.toNat (.i 0)).cell 6).toI==((w3.getD w5.toNat (.i 0)).cell 6).toI)&&true)))))))) fun y0=>
    bif y0 then
     k0 ()
    else
     kr (IntKind.wrap .i64 (w5+1))
   else
    none
  else
   none
 else
  k1 ()
def b2q (N:Nat) {R:Type} (w1 w3:LD) (w4:Int):Nat→Int→(Unit→Option R)→(Unit→Option R)→Option R
 |0,_,_,_=>none
 |m+1,w5,k0,k1=>a7n N w1 w3 w4 w5 (fun w5=>b2q N w1 w3 w4 m w5 k0 k1) k0 k1
def b65 (w1 w3:LD) (w4:Int) (w5:Int):Option (Sum (Unit) (Unit)):=b2q N (R:=(Sum (Unit) (Unit))) w1 w3 w4 N w5 (fun p=>some (.inl p)) (fun p=>some (.inr p))
def d7r:=(d7q N).l2 (e5m N) 12 [5] [4] [] ⟨[(0,cL 42),(1,cL 42),(12,cI),(13,cI)],[]⟩ N (fun L x _ kr=>a7n N (ll L 1) (ll L 3) (li L 4) (li x 0) (fun w5=>kr [.i w5])) (fun L m x=>b2q N (ll L 1) (ll L 3) (li L 4) m (li x 0) (fun p=>some (.inl p)) (fun p=>some (.inr p))) (fun s m L _=>(.ret,⟨[(4,.c (.b false))],[]⟩)) (fun s m L _=>((.exit 0),⟨[],[]⟩)) fun _ _ _ _ _ _=>by unfold a7n;exact bb
def d1h (v1 v3:LD) (k0:Bool→Option R):Option R:=
 bif ((v1.length:Int) !=(v3.length:Int)) then
  k0 false
 else
  bnd (b65 N v1 v3 (v1.length:Int) 0) fun y0=>
  bif (a0U y0) then
   k0 false
  else
   bif (a0n y0).isSome then
    k0 true
   else
    none
def d7s (v1 v3:LD):Option (Bool):=d1h N v1 v3 some
def e1s:=(d7r N).f1 (e5m N) ⟨[(0,cL 42),(1,cL 42)],[]⟩ (fun L _=>d1h N (ll L 1) (ll L 3)) (fun L p=>([.c (.b p)],[])) fun _ _=>by unfold d1h;exact bb
def d7t (N:Nat):Sg Tryz.prog 0 26:= .start [(12,[0,1,12,13],[],[])] [(0,[0,1]),(1,[0,1]),(2,[]),(3,[0,1]),(4,[13,12,0,1]),(5,[13,0,1,12]),(6,[0,5,1,13,12]),(7,[]),(8,[13,12,0,1]),(9,[])]
def a7o (N:Nat) (w1 w3:LD) (w4:Int) (w5:Int) (kr:Int→Option R) (k0:Unit→Option R) (k1:Unit→Option R):Option R:=
 bif (decide (w5<w4)) then
  bif (inB w5 w1.length) then
   bif (inB w5 w3.length) then
    bnd (!((((w1.getD w5.toNat (.i 0)).cell 0).toI==((w3.getD w5.toNat (.i 0)).cell 0).toI)&&((((w1.getD w5.toNat (.i 0)).cell 1).toI==((w3.getD w5.toNat (.i 0)).cell 1).toI)&&((((w1.getD w5.toNat (.i 0)).cell 2).toS==((w3.getD w5.toNat (.i 0)).cell 2).toS)&&true)))) fun y0=>
    bif y0 then
     k0 ()
    else
     kr (IntKind.wrap .i64 (w5+1))
   else
    none
  else
   none
 else
  k1 ()
def b2r (N:Nat) {R:Type} (w1 w3:LD) (w4:Int):Nat→Int→(Unit→Option R)→(Unit→Option R)→Option R
 |0,_,_,_=>none
 |m+1,w5,k0,k1=>a7o N w1 w3 w4 w5 (fun w5=>b2r N w1 w3 w4 m w5 k0 k1) k0 k1
def b66 (w1 w3:LD) (w4:Int) (w5:Int):Option (Sum (Unit) (Unit)):=b2r N (R:=(Sum (Unit) (Unit))) w1 w3 w4 N w5 (fun p=>some (.inl p)) (fun p=>some (.inr p))
def d7u:=(d7t N).l2 (e1s N) 12 [5] [4] [] ⟨[(0,cL 81),(1,cL 81),(12,cI),(13,cI)],[]⟩ N (fun L x _ kr=>a7o N (ll L 1) (ll L 3) (li L 4) (li x 0) (fun w5=>kr [.i w5])) (fun L m x=>b2r N (ll L 1) (ll L 3) (li L 4) m (li x 0) (fun p=>some (.inl p)) (fun p=>some (.inr p))) (fun s m L _=>(.ret,⟨[(4,.c (.b false))],[]⟩)) (fun s m L _=>((.exit 0),⟨[],[]⟩)) fun _ _ _ _ _ _=>by unfold a7o;exact bb
def d1i (v1 v3:LD) (k0:Bool→Option R):Option R:=
 bif ((v1.length:Int) !=(v3.length:Int)) then
  k0 false
 else
  bnd (b66 N v1 v3 (v1.length:Int) 0) fun y0=>
  bif (a0U y0) then
   k0 false
  else
   bif (a0n y0).isSome then
    k0 true
   else
    none
def d7v (v1 v3:LD):Option (Bool):=d1i N v1 v3 some
def e1t:=(d7u N).f1 (e1s N) ⟨[(0,cL 81),(1,cL 81)],[]⟩ (fun L _=>d1i N (ll L 1) (ll L 3)) (fun L p=>([.c (.b p)],[])) fun _ _=>by unfold d1i;exact bb
def d7w (N:Nat):Sg Tryz.prog 0 27:= .start [(12,[0,1,12,13],[],[])] [(0,[0,1]),(1,[0,1]),(2,[]),(3,[0,1]),(4,[13,12,0,1]),(5,[13,0,1,12]),(6,[0,5,1,13,12]),(7,[]),(8,[13,12,0,1]),(9,[])]
def a7p (N:Nat) (w1 w3:LD) (w4:Int) (w5:Int) (kr:Int→Option R) (k0:Unit→Option R) (k1:Unit→Option R):Option R:=
 bif (decide (w5<w4)) then
  bif (inB w5 w1.length) then
   bif (inB w5 w3.length) then
    bnd (!((w1.getD w5.toNat (.i 0)).toS==(w3.getD w5.toNat (.i 0)).toS)) fun y0=>
    bif y0 then
     k0 ()
    else
     kr (IntKind.wrap .i64 (w5+1))
   else
    none
  else
   none
 else
  k1 ()
def b2s (N:Nat) {R:Type} (w1 w3:LD) (w4:Int):Nat→Int→(Unit→Option R)→(Unit→Option R)→Option R
 |0,_,_,_=>none
 |m+1,w5,k0,k1=>a7p N w1 w3 w4 w5 (fun w5=>b2s N w1 w3 w4 m w5 k0 k1) k0 k1
def b67 (w1 w3:LD) (w4:Int) (w5:Int):Option (Sum (Unit) (Unit)):=b2s N (R:=(Sum (Unit) (Unit))) w1 w3 w4 N w5 (fun p=>some (.inl p)) (fun p=>some (.inr p))
def d7x:=(d7w N).l2 (e1t N) 12 [5] [4] [] ⟨[(0,cL 9),(1,cL 9),(12,cI),(13,cI)],[]⟩ N (fun L x _ kr=>a7p N (ll L 1) (ll L 3) (li L 4) (li x 0) (fun w5=>kr [.i w5])) (fun L m x=>b2s N (ll L 1) (ll L 3) (li L 4) m (li x 0) (fun p=>some (.inl p)) (fun p=>some (.inr p))) (fun s m L _=>(.ret,⟨[(4,.c (.b false))],[]⟩)) (fun s m L _=>((.exit 0),⟨[],[]⟩)) fun _ _ _ _ _ _=>by unfold a7p;exact bb
def d1j (v1 v3:LD) (k0:Bool→Option R):Option R:=
 bif ((v1.length:Int) !=(v3.length:Int)) then
  k0 false
 else
  bnd (b67 N v1 v3 (v1.length:Int) 0) fun y0=>
  bif (a0U y0) then
   k0 false
  else
   bif (a0n y0).isSome then
    k0 true
   else
    none
def d7y (v1 v3:LD):Option (Bool):=d1j N v1 v3 some
def e1u:=(d7x N).f1 (e1t N) ⟨[(0,cL 9),(1,cL 9)],[]⟩ (fun L _=>d1j N (ll L 1) (ll L 3)) (fun L p=>([.c (.b p)],[])) fun _ _=>by unfold d1j;exact bb
def d7z (N:Nat):Sg Tryz.prog 0 11:= .start [(4,[2,3],[2,3],[])] [(0,[0,1]),(1,[2,3])]
def b68 (w0:LB) (w1 w2:Int) (w4 w6 w8:LD) (w9:LB) (w10 w11:Int) (w13 w15 w17:LD) (k0:Bool→Option R):Option R:=
 bnd (bif (bif (w0==w9) then (w1==w10) else false) then (w2==w11) else false) fun y0=>
 bif y0 then
  bnd (d7s N w4 w13) fun y1=>
  bif y1.isSome then
   bif (y1.getD default) then
    bnd (d7v N w6 w15) fun y2=>
    bif y2.isSome then
     bif (y2.getD default) then
      bnd (d7y N w8 w17) fun y3=>
      bif y3.isSome then
       k0 (y3.getD default)
      else
       none
     else
      k0 false
    else
     none
   else
    k0 false
  else
   none
 else
  k0 false
def c7X (w0:LB) (w1 w2:Int) (w4 w6 w8:LD) (w9:LB) (w10 w11:Int) (w13 w15 w17:LD):Option (Bool):=b68 N w0 w1 w2 w4 w6 w8 w9 w10 w11 w13 w15 w17 some
def d7A:=(d7z N).c1 (e1u N) 4 100 [4] [] ⟨[(2,cP 2),(3,cP 3)],[(2,bX0),(3,bX0)]⟩ (fun L _=>b68 N (ls L 0) (li L 1) (li L 2) (ll L 4) (ll L 6) (ll L 8) (ls L 9) (li L 10) (li L 11) (ll L 13) (ll L 15) (ll L 17)) (fun s m L p=>(.normal,⟨[(4,.c (.b p))],[]⟩)) fun _ _=>by unfold b68;exact bb
def d1k (v0:LB) (v1 v2:Int) (v4 v6 v8:LD) (v9:LB) (v10 v11:Int) (v13 v15 v17:LD) (k0:Bool→Option R):Option R:=
 bnd (c7X N v0 v1 v2 v4 v6 v8 v9 v10 v11 v13 v15 v17) fun y0=>
 bif y0.isSome then
  k0 (y0.getD default)
 else
  none
def d1l (v0:LB) (v1 v2:Int) (v4 v6 v8:LD) (v9:LB) (v10 v11:Int) (v13 v15 v17:LD):Option (Bool):=d1k N v0 v1 v2 v4 v6 v8 v9 v10 v11 v13 v15 v17 some
def e1v:=(d7A N).f1 (e1u N) ⟨[(0,gX4),(1,gX4)],[]⟩ (fun L _=>d1k N (ls L 0) (li L 1) (li L 2) (ll L 4) (ll L 6) (ll L 8) (ls L 9) (li L 10) (li L 11) (ll L 13) (ll L 15) (ll L 17)) (fun L p=>([.c (.b p)],[])) fun _ _=>by unfold d1k;exact bb
def d7B (N:Nat):Sg Tryz.prog 0 10:= .start [(12,[1,2,15,16,17],[],[])] [(0,[0,1,2]),(1,[0,1,2]),(2,[]),(3,[0,1,2]),(4,[17,16,15,1,2]),(5,[17,15,1,2,16]),(6,[1,7,2,8,17,16,15]),(7,[2,8,9,17,16,15,1]),(8,[]),(9,[17,16,15,1,2]),(10,[])]
def a7q (w1 w3:LD) (w4:Int) (w5:Int) (kr:Int→Option R) (k0:Unit→Option R) (k1:Unit→Option R):Option R:=
 bif (decide (w5<w4)) then
  bif (inB w5 w3.length) then
   bif (inB w5 w1.length) then
    bnd (d1l N ((w3.getD w5.toNat (.i 0)).cell 0).toS ((w3.getD w5.toNat (.i 0)).cell 1).toI ((w3.getD w5.toNat (.i 0)).cell 2).toI ((w3.getD w5.toNat (.i 0)).cell 3).items ((w3.getD w5.toNat (.i 0)).cell 4).items ((w3.getD w5.toNat (.i 0)).cell 5).items ((w1.getD w5.toNat (.i 0)).cell 0).toS ((w1.getD w5.toNat (.i 0)).cell 1).toI ((w1.getD w5.toNat (.i 0)).cell 2).toI ((w1.getD w5.toNat (.i 0)).cell 3).items ((w1.getD w5.toNat (.i 0)).cell 4).items ((w1.getD w5.toNat (.i 0)).cell 5).items) fun y0=>
    bif y0.isSome then
     bif (!(y0.getD default)) then
      k0 ()
     else
      kr (IntKind.wrap .i64 (w5+1))
    else
     none
   else
    none
  else
   none
 else
  k1 ()
def b2t (N:Nat) {R:Type} (w1 w3:LD) (w4:Int):Nat→Int→(Unit→Option R)→(Unit→Option R)→Option R
 |0,_,_,_=>none
 |m+1,w5,k0,k1=>a7q N w1 w3 w4 w5 (fun w5=>b2t N w1 w3 w4 m w5 k0 k1) k0 k1
def b69 (w1 w3:LD) (w4:Int) (w5:Int):Option (Sum (Unit) (Unit)):=b2t N (R:=(Sum (Unit) (Unit))) w1 w3 w4 N w5 (fun p=>some (.inl p)) (fun p=>some (.inr p))
def d7C:=(d7B N).l2 (e1v N) 12 [5] [6] [] ⟨[(1,cL 36),(2,.c (.f 11 [])),(15,cL 36),(16,cI),(17,cI)],[]⟩ N (fun L x _ kr=>a7q N (ll L 1) (ll L 3) (li L 4) (li x 0) (fun w5=>kr [.i w5])) (fun L m x=>b2t N (ll L 1) (ll L 3) (li L 4) m (li x 0) (fun p=>some (.inl p)) (fun p=>some (.inr p))) (fun s m L _=>(.ret,⟨[(6,.c (.b false))],[]⟩)) (fun s m L _=>((.exit 0),⟨[],[]⟩)) fun _ _ _ _ _ _=>by unfold a7q;exact bb
def d1m (v1 v3:LD) (k0:Bool→Option R):Option R:=
 bif ((v1.length:Int) !=(v3.length:Int)) then
  k0 false
 else
  bnd (b69 N v3 v1 (v1.length:Int) 0) fun y0=>
  bif (a0U y0) then
   k0 false
  else
   bif (a0n y0).isSome then
    k0 true
   else
    none
def c7Y (v1 v3:LD):Option (Bool):=d1m N v1 v3 some
def e4i:=(d7C N).f1 (e1v N) ⟨[(0,cL 36),(1,cL 36),(2,.c (.f 11 []))],[]⟩ (fun L _=>d1m N (ll L 1) (ll L 3)) (fun L p=>([.c (.b p)],[])) fun _ _=>by unfold d1m;exact bb
def d7D (N:Nat):Sg Tryz.prog 0 98:= .start [] [(0,[0]),(1,[1])]
def e1w (N:Nat) (k0:Unit→R):R:=
 k0 ()
def e4j:=(d7D N).f0 (e4i N) ⟨[(0,gX4)],[]⟩ (fun L _=>e1w N) (fun L _=>([.c (.f 131 [(1,0)])],[(1,.box [.s (ls L 0),.i .i64 (li L 1),.i .i64 (li L 2),.sl 42 (lb L 3) (ll L 4),.sl 81 (lb L 5) (ll L 6),.sl 9 (lb L 7) (ll L 8)])])) fun _ _=>by unfold e1w;exact kk
def d1n (N:Nat):Sg Tryz.prog 0 132:= .start [] [(0,[0,1,2]),(1,[0,1,2])]
def c3i (N:Nat) (v0 v1 v2:Int) (k0:Bool→R):R:=
 k0 (bif (decide (v0≥v1)) then (decide (v0≤v2)) else false)
def c3j (v0 v1 v2:Int):Bool:=c3i N v0 v1 v2 (fun p=>p)
def e1x:=(d1n N).f0 (e4j N) ⟨[(0,cI),(1,cI),(2,cI)],[]⟩ (fun L _=>c3i N (li L 0) (li L 1) (li L 2)) (fun L p=>([.c (.b p)],[])) fun _ _=>by unfold c3i;exact kk
def d1o (N:Nat):Sg Tryz.prog 0 147:= .start [] [(0,[0,1]),(1,[3,2])]
def c3k (N:Nat) (v1 v2 v8 v9:Int) (k0:Int→R):R:=
 bnd (IntKind.wrap .i64 ((IntKind.wrap .i64 (v8-v1))*(IntKind.wrap .i64 (v8-v1)))) fun y0=>
 bnd (IntKind.wrap .i64 ((IntKind.wrap .i64 (v9-v2))*(IntKind.wrap .i64 (v9-v2)))) fun y1=>
 k0 (IntKind.wrap .i64 (y0+y1))
def c7Z (v1 v2 v8 v9:Int):Int:=c3k N v1 v2 v8 v9 (fun p=>p)
def c70:=(d1o N).f0 (e1x N) ⟨[(0,c9L),(1,c9L)],[]⟩ (fun L _=>c3k N (li L 1) (li L 2) (li L 8) (li L 9)) (fun L p=>([.c (.i .i64 p)],[])) fun _ _=>by unfold c3k;exact kk
def d1p (N:Nat):Sg Tryz.prog 0 146:= .start [(15,[0,4,5],[],[]),(29,[0,4,5,6,26],[],[])] [(0,[0]),(1,[0]),(2,[]),(3,[0]),(4,[4,0]),(5,[5,4,0]),(7,[4,5,0]),(8,[6,0,5,4]),(9,[6,5,0]),(6,[5,4,0]),(10,[4])]
def a9B (N:Nat) (w1 w3:Int) (w4:Bool) (k0:Int→R):R:=
 bif w4 then
  k0 w3
 else
  k0 w1
def b9F (w1 w3:Int) (w4:Bool):Int:=a9B N w1 w3 w4 (fun p=>p)
def d1q:=(d1p N).c0 (c70 N) 29 100 [0,4,5] [] ⟨[(0,cI),(4,cI),(5,cI),(6,cI),(26,cB)],[]⟩ (fun L _=>a9B N (li L 1) (li L 3) (lb L 4)) (fun s m L p=>(.normal,m [(4,.c (.i .i64 p))] [])) fun _ _=>by unfold a9B;exact kk
def a5j (w0:Int) (w1 w2:Int) (kr:Int→Int→Option R) (k0:Int→Option R):Option R:=
 bif (decide (w2>0)) then
  bnd (IntKind.wrap .i64 ((IntKind.wrap .i64 (w1+w2))*(IntKind.wrap .i64 (w1+w2)))) fun y0=>
  bif (bif (!((IntKind.wrap .i64 (w1+w2))==0)) then true else (!((decide (y0>0))==true))) then
   bnd (bif (decide (y0>0)) then (decide ((IntKind.wrap .i64 (w1+w2))≤(IntKind.wrap .i64 (w0.tdiv (IntKind.wrap .i64 (w1+w2)))))) else false) fun y1=>
   bnd (b9F N w1 (IntKind.wrap .i64 (w1+w2)) y1) fun y2=>
   kr y2 (w2.fdiv (2^1))
  else
   none
 else
  k0 w1
def a3r (N:Nat) {R:Type} (w0:Int):Nat→Int→Int→(Int→Option R)→Option R
 |0,_,_,_=>none
 |m+1,w1,w2,k0=>a5j N w0 w1 w2 (fun w1 w2=>a3r N w0 m w1 w2 k0) k0
def b9G (w0:Int) (w1 w2:Int):Option (Int):=a3r N (R:=(Int)) w0 N w1 w2 some
def d1r:=(d1q N).l1 (c70 N) 15 [1,2] [2,3,4] [] ⟨[(0,cI),(4,cI),(5,cI)],[]⟩ N (fun L x _ kr=>a5j N (li L 0) (li x 0) (li x 1) (fun w1 w2=>kr [.i w1,.i w2])) (fun L m x=>a3r N (li L 0) m (li x 0) (li x 1) some) (fun s m L p=>((.exit 0),⟨[(4,.c (.i .i64 p))],[]⟩)) fun _ _ _ _ _=>by unfold a5j;exact bb
def c3l (v0:Int) (k0:Int×Int→Option R):Option R:=
 bif (decide (v0<0)) then
  k0 (0,1)
 else
  bnd (b9G N v0 0 2147483648) fun y0=>
  bif y0.isSome then
   k0 ((y0.getD default),0)
  else
   none
def b9H (v0:Int):Option (Int×Int):=c3l N v0 some
def e1y:=(d1r N).f1 (c70 N) ⟨[(0,cI)],[]⟩ (fun L _=>c3l N (li L 0)) (fun L p=>([.c (.i .i64 p.1),.c (.i .i64 p.2)],[])) fun _ _=>by unfold c3l;exact bb
def d1s (N:Nat):Sg Tryz.prog 0 133:= .start [] [(0,[0,1]),(1,[2,3]),(2,[5])]
def c3m (v1 v2 v8 v9:Int) (k0:Int→Option R):Option R:=
 bnd (c7Z N v1 v2 v8 v9) fun y0=>
 bnd (b9H N y0) fun y1=>
 bif y1.isSome then
  k0 (y1.getD default).1
 else
  none
def d4z (v1 v2 v8 v9:Int):Option (Int):=c3m N v1 v2 v8 v9 some
def d4A:=(d1s N).f1 (e1y N) ⟨[(0,c9L),(1,c9L)],[]⟩ (fun L _=>c3m N (li L 1) (li L 2) (li L 8) (li L 9)) (fun L p=>([.c (.i .i64 p)],[])) fun _ _=>by unfold c3m;exact bb
def d7E (N:Nat):Sg Tryz.prog 0 99:= .start [(6,[2,3,16,17,18],[2,3,16],[])] [(0,[0,1]),(1,[2,3]),(2,[18,17,16,2,3]),(3,[16,18,17,2,3]),(4,[7,18,17,16,2,3]),(5,[]),(6,[18,17,16,2,3]),(7,[2,3])]
def b4b (w0:Int) (w17:LD) (w1:Int) (kr:Int→Option R) (k0:Unit→Option R) (k1:Unit→Option R):Option R:=
 bif (decide (w1<w0)) then
  bif (inB w1 w17.length) then
   bif (decide (w1.toNat<w17.length)) then
    bnd (c3j N (w17.getD w1.toNat (.i 0)).toI (-100000000) 100000000) fun y0=>
    bif (!y0) then
     k0 ()
    else
     kr (IntKind.wrap .i64 (w1+1))
   else
    none
  else
   none
 else
  k1 ()
def b7a (N:Nat) {R:Type} (w0:Int) (w17:LD):Nat→Int→(Unit→Option R)→(Unit→Option R)→Option R
 |0,_,_,_=>none
 |m+1,w1,k0,k1=>b4b N w0 w17 w1 (fun w1=>b7a N w0 w17 m w1 k0 k1) k0 k1
def c1w (w0:Int) (w17:LD) (w1:Int):Option (Sum (Unit) (Unit)):=b7a N (R:=(Sum (Unit) (Unit))) w0 w17 N w1 (fun p=>some (.inl p)) (fun p=>some (.inr p))
def d7F:=(d7E N).l2 (d4A N) 6 [1] [2,3,4,5] [2,3] ⟨[(2,cP 2),(3,cP 3),(16,cO 16),(17,cI),(18,cI)],[(2,bX1),(3,bX1),(16,.row 3 true)]⟩ N (fun L x _ kr=>b4b N (li L 0) (ll L 17) (li x 0) (fun w1=>kr [.i w1])) (fun L m x=>b7a N (li L 0) (ll L 17) m (li x 0) (fun p=>some (.inl p)) (fun p=>some (.inr p))) (fun s m L _=>(.ret,mg s [4,5] [(4,.c (.i .i64 0)),(5,.c (.i .i64 9))] [2,3] [])) (fun s m L _=>((.exit 0),mg s [2,3] [] [2,3] [])) fun _ _ _ _ _ _=>by unfold b4b;exact bb
def d1t (v1 v2 v8 v9:Int) (k0:Int×Int→Option R):Option R:=
 bnd (c1w N 4 [(.i v1),(.i v2),(.i v8),(.i v9)] 0) fun y0=>
 bif (a0U y0) then
  k0 (0,9)
 else
  bif (a0n y0).isSome then
   bnd (d4z N v1 v2 v8 v9) fun y1=>
   bif y1.isSome then
    k0 ((y1.getD default),0)
   else
    none
  else
   none
def d7G (v1 v2 v8 v9:Int):Option (Int×Int):=d1t N v1 v2 v8 v9 some
def a8s:=(d7F N).f1 (d4A N) ⟨[(0,c9L),(1,c9L)],[]⟩ (fun L _=>d1t N (li L 1) (li L 2) (li L 8) (li L 9)) (fun L p=>([.c (.i .i64 p.1),.c (.i .i64 p.2)],[])) fun _ _=>by unfold d1t;exact bb
def b0H (N:Nat):Sg Tryz.prog 24000000005 59 c2J a4O:= .start [(24050,[5,6,7,8,43],[1,2,50002005,24000000011,24000000012],[]),(45044,[5,6,7,8,10,24,39],[1,2,50002005,24000000011,24000000012],[]),(39038,[5,6,7,8,10,24,35],[1,2,50002005,24000000011,24000000012],[]),(33032,[5,6,7,8,10,24,31],[1,2,50002005,24000000011,24000000012],[]),(57,[5,8,9,10,51,52],[1,2,50002005,24050002005],[50002000]),(63083,[5,8,9,10,11,51,52,74],[1,2,24050002005],[]),(78077,[5,8,9,10,11,51,52,68],[1,2,24050002005],[]),(72071,[5,8,9,10,11,51,52,59],[1,2,24050002005],[])] [(3,[17,18,3,5]),(4,[18,6,3,5]),(5,[7,6,3,5]),(6,[3,6,8,5,7]),(7,[3,6,8,10,5,7]),(9,[24,6,8,10,5,7]),(11,[24,6,8,10,5,7]),(13,[24,6,8,10,5,7]),(15,[24,6,7,8,5]),(8,[7,6,8,5]),(16,[6,7,8,5]),(17,[8,5,9]),(14,[6,8,10,5]),(12,[6,8,10,5]),(10,[6,8,10,5]),(18,[8,10,5,9]),(19,[52,51,8,10,5,9]),(20,[52,8,10,5,51,9]),(22,[8,10,5,52,51,9,11]),(24,[8,5,52,51,10,9,11]),(26,[10,5,9,11,8,52,51]),(21,[5,9,52,51,8,10]),(27,[5,9,11,8,52,51,10]),(25,[5,52,51,8,10,9]),(23,[5,52,51,8,10,9]),(28,[52,51,8,10,5,9])]
def a1l (w1:Bool) (w6 w7 w8 w13 w14 w15:Int) (k0:Int→Option R):Option R:=
 bif w1 then
  bnd (d7G N w6 w7 w13 w14) fun y0=>
  bif y0.isSome then
   k0 (y0.getD default).1
  else
   none
 else
  k0 (max2 (IntKind.wrap .i64 (w15-w8)) 0)
def a3s (w1:Bool) (w6 w7 w8 w13 w14 w15:Int):Option (Int):=a1l N w1 w6 w7 w8 w13 w14 w15 some
def b0I:=(b0H N).c1 (a8s N) 24050 100 [5,8,9,10] [1,2,50002005] ⟨[(5,cP 2),(6,cP 24000000011),(7,cP 24000000012),(8,cI),(43,cB)],[(1,bX7),(2,bX6),(50002005,.row 3 true),(24000000011,bX1),(24000000012,bX1)]⟩ (fun L _=>a1l N (lb L 1) (li L 6) (li L 7) (li L 8) (li L 13) (li L 14) (li L 15)) (fun s m L p=>(.normal,m [(9,.c (.i .i64 p)),(10,.c (.b true))] [])) fun _ _=>by unfold a1l;exact bb
def a1m (w1:Bool) (w2:Int) (w3:Bool) (w8 w9 w10 w13 w15 w16 w17:Int) (k0:Int×Bool→Option R):Option R:=
 bif w3 then
  k0 (w13,w1)
 else
  bnd (a3s N (w2==4) w8 w9 w10 w15 w16 w17) fun y0=>
  bif y0.isSome then
   k0 ((y0.getD default),true)
  else
   none
def a3t (w1:Bool) (w2:Int) (w3:Bool) (w8 w9 w10 w13 w15 w16 w17:Int):Option (Int×Bool):=a1m N w1 w2 w3 w8 w9 w10 w13 w15 w16 w17 some
def b0J:=(b0I N).c1 (a8s N) 45044 100 [5,8,9,10] [1,2,50002005] ⟨[(5,cP 2),(6,cP 24000000011),(7,cP 24000000012),(8,cI),(10,cB),(24,cI),(39,cB)],[(1,bX7),(2,bX6),(50002005,.row 3 true),(24000000011,bX1),(24000000012,bX1)]⟩ (fun L _=>a1m N (lb L 1) (li L 2) (lb L 3) (li L 8) (li L 9) (li L 10) (li L 13) (li L 15) (li L 16) (li L 17)) (fun s m L p=>(.normal,m [(9,.c (.i .i64 p.1)),(10,.c (.b p.2))] [])) fun _ _=>by unfold a1m;exact bb
def a1n (w1:Bool) (w2:Int) (w3:Bool) (w8 w9 w10 w12 w13 w15 w16 w17:Int) (k0:Int×Bool→Option R):Option R:=
 bif w3 then
  k0 (w12,w1)
 else
  bnd (a3t N w1 w2 (w2==3) w8 w9 w10 w13 w15 w16 w17) fun y0=>
  bif y0.isSome then
   k0 (y0.getD default)
  else
   none
def a3u (w1:Bool) (w2:Int) (w3:Bool) (w8 w9 w10 w12 w13 w15 w16 w17:Int):Option (Int×Bool):=a1n N w1 w2 w3 w8 w9 w10 w12 w13 w15 w16 w17 some
def b0K:=(b0J N).c1 (a8s N) 39038 100 [5,8,9,10] [1,2,50002005] ⟨[(5,cP 2),(6,cP 24000000011),(7,cP 24000000012),(8,cI),(10,cB),(24,cI),(35,cB)],[(1,bX7),(2,bX6),(50002005,.row 3 true),(24000000011,bX1),(24000000012,bX1)]⟩ (fun L _=>a1n N (lb L 1) (li L 2) (lb L 3) (li L 8) (li L 9) (li L 10) (li L 12) (li L 13) (li L 15) (li L 16) (li L 17)) (fun s m L p=>(.normal,m [(9,.c (.i .i64 p.1)),(10,.c (.b p.2))] [])) fun _ _=>by unfold a1n;exact bb
def a1o (w1:Bool) (w2:Int) (w3:Bool) (w8 w9 w10 w11 w12 w13 w15 w16 w17:Int) (k0:Int×Bool→Option R):Option R:=
 bif w3 then
  k0 (w11,w1)
 else
  bnd (a3u N w1 w2 (w2==2) w8 w9 w10 w12 w13 w15 w16 w17) fun y0=>
  bif y0.isSome then
   k0 (y0.getD default)
  else
   none
def a1p (w1:Bool) (w2:Int) (w3:Bool) (w8 w9 w10 w11 w12 w13 w15 w16 w17:Int):Option (Int×Bool):=a1o N w1 w2 w3 w8 w9 w10 w11 w12 w13 w15 w16 w17 some
def b0L:=(b0K N).c1 (a8s N) 33032 100 [5,8,9,10] [1,2,50002005] ⟨[(5,cP 2),(6,cP 24000000011),(7,cP 24000000012),(8,cI),(10,cB),(24,cI),(31,cB)],[(1,bX7),(2,bX6),(50002005,.row 3 true),(24000000011,bX1),(24000000012,bX1)]⟩ (fun L _=>a1o N (lb L 1) (li L 2) (lb L 3) (li L 8) (li L 9) (li L 10) (li L 11) (li L 12) (li L 13) (li L 15) (li L 16) (li L 17)) (fun s m L p=>(.normal,m [(9,.c (.i .i64 p.1)),(10,.c (.b p.2))] [])) fun _ _=>by unfold a1o;exact bb
def a1q (N:Nat) (w0 w1 w3:Int) (w6:Bool) (w9:LD) (k0:LD→Option R) (k1:LD→Option R):Option R:=
 bif w6 then
  bif (!(w0==0)) then
   bnd (IntKind.wrap .i64 ((IntKind.wrap .i64 (w1*(IntKind.wrap .i64 (w3+1)))).tdiv w0)) fun y0=>
   bif (!(w0==0)) then
    bnd (IntKind.wrap .i64 (y0-(IntKind.wrap .i64 ((IntKind.wrap .i64 (w1*w3)).tdiv w0)))) fun y1=>
    bif (decide ((w9.length+1)*8≤a0X)&&decide ((w9.length+1)≤a0c)) then
     k0 (w9++[(.i y1)])
    else
     none
   else
    none
  else
   none
 else
  bif (decide ((w9.length+1)*8≤a0X)&&decide ((w9.length+1)≤a0c)) then
   k1 (w9++[(.i w1)])
  else
   none
def a3v (w0 w1 w3:Int) (w6:Bool) (w9:LD):Option (Sum (LD) (LD)):=a1q N w0 w1 w3 w6 w9 (fun p=>some (.inl p)) (fun p=>some (.inr p))
def b0M:=(b0L N).c2 (a8s N) 63083 100 [5,8,9,10,51,52] [1,2,24000000063,24000000095] ⟨[(5,cP 2),(8,cI),(9,cI),(10,cB),(11,cI),(51,cI),(52,cI),(74,cB)],[(1,bX7),(2,e3f),(24050002005,.row 3 true)]⟩ (fun L _=>a1q N (li L 0) (li L 1) (li L 3) (lb L 6) (ll L 9)) (fun s m L p=>(.normal,mg s [5,8,9,10,51,52] [] [1,2,24000000095] [(2,.box [.o 24000000095]),(24000000095,.row 3 true false p)])) (fun s m L p=>(.normal,mg s [5,8,9,10,51,52] [] [1,2,24000000063] [(2,.box [.o 24000000063]),(24000000063,.row 3 true false p)])) fun _ _ _=>by unfold a1q;exact bb
def a1r (w0 w1:Int) (w2:Bool) (w3:Int) (w6:Bool) (w9:LD) (k0:LD→Option R) (k1:LD→Option R) (k2:LD→Option R):Option R:=
 bif w6 then
  bif (decide ((w9.length+1)*8≤a0X)&&decide ((w9.length+1)≤a0c)) then
   k0 (w9++[(.i (-1))])
  else
   none
 else
  bnd (a3v N w0 w1 w3 w2 w9) fun y0=>
  bif (a0U y0) then
   k1 (a1E y0)
  else
   bif (a0n y0).isSome then
    k2 ((a0n y0).getD default)
   else
    none
def a3w (w0 w1:Int) (w2:Bool) (w3:Int) (w6:Bool) (w9:LD):Option (Sum (LD) (Sum (LD) (LD))):=a1r N w0 w1 w2 w3 w6 w9 (fun p=>some (.inl p)) (fun p=>some (.inr (.inl p))) (fun p=>some (.inr (.inr p)))
def a5k:=(b0M N).c3 (a8s N) 78077 100 [5,8,9,10,51,52] [1,2,24000000063,24000000078,24000000095] ⟨[(5,cP 2),(8,cI),(9,cI),(10,cB),(11,cI),(51,cI),(52,cI),(68,cB)],[(1,bX7),(2,e3f),(24050002005,.row 3 true)]⟩ (fun L _=>a1r N (li L 0) (li L 1) (lb L 2) (li L 3) (lb L 6) (ll L 9)) (fun s m L p=>(.normal,mg s [5,8,9,10,51,52] [] [1,2,24000000078] [(2,.box [.o 24000000078]),(24000000078,.row 3 true false p)])) (fun s m L p=>(.normal,mg s [5,8,9,10,51,52] [] [1,2,24000000095] [(2,.box [.o 24000000095]),(24000000095,.row 3 true false p)])) (fun s m L p=>(.normal,mg s [5,8,9,10,51,52] [] [1,2,24000000063] [(2,.box [.o 24000000063]),(24000000063,.row 3 true false p)])) fun _ _ _ _=>by unfold a1r;exact bb
def a0W (w0 w1:Int) (w2:Bool) (w3:Int) (w6:Bool) (w9:LD) (k0:LD→Option R) (k1:LD→Option R) (k2:LD→Option R) (k3:LD→Option R):Option R:=
 bif w6 then
  bif (decide ((w9.length+1)*8≤a0X)&&decide ((w9.length+1)≤a0c)) then
   k0 (w9++[(.i 0)])
  else
   none
 else
  bnd (a3w N w0 w1 w2 w3 (decide (w0>60)) w9) fun y0=>
  bif (a0U y0) then
   k1 (a1E y0)
  else
   bif (a0U (a0n y0)) then
    k2 (a1E (a0n y0))
   else
    bif (a0n (a0n y0)).isSome then
     k3 ((a0n (a0n y0)).getD default)
    else
     none
def a1s (w0 w1:Int) (w2:Bool) (w3:Int) (w6:Bool) (w9:LD):Option (Sum (LD) (Sum (LD) (Sum (LD) (LD)))):=a0W N w0 w1 w2 w3 w6 w9 (fun p=>some (.inl p)) (fun p=>some (.inr (.inl p))) (fun p=>some (.inr (.inr (.inl p)))) (fun p=>some (.inr (.inr (.inr p))))
theorem a5l (w0 w1:Int) (w2:Bool) (w3:Int) (w6:Bool) (w9:LD) (k0:LD→Option R) (k1:LD→Option R) (k2:LD→Option R) (k3:LD→Option R):a0W N w0 w1 w2 w3 w6 w9 k0 k1 k2 k3=(a1s N w0 w1 w2 w3 w6 w9).bind (b6B k0 (b6B k1 (b6B k2 k3))):=by
 unfold a1s a0W
 repeat' (first|with_reducible apply a6a|(with_reducible apply b1M;intro _)|rfl)
def a3x (L:List Lf) (k0:LD→Option R) (k1:LD→Option R) (k2:LD→Option R) (k3:LD→Option R):Option R:=a0W N (li L 0) (li L 1) (lb L 2) (li L 3) (lb L 6) (ll L 9) k0 k1 k2 k3
def a0Q:Sh:={tmps:=[(5,cP 2),(8,cI),(9,cI),(10,cB),(11,cI),(51,cI),(52,cI),(59,cB)],mem:=[(1,bX7),(2,e3f),(24050002005,.row 3 true)]}
def a2K (L:List Lf) (p:LD):Ex×St:=(.normal,mg (a16 a0Q L) [5,8,9,10,51,52] [] [1,2,24000000072] [(2,.box [.o 24000000072]),(24000000072,.row 3 true false p)])
def a2L (L:List Lf) (p:LD):Ex×St:=(.normal,mg (a16 a0Q L) [5,8,9,10,51,52] [] [1,2,24000000078] [(2,.box [.o 24000000078]),(24000000078,.row 3 true false p)])
def a2M (L:List Lf) (p:LD):Ex×St:=(.normal,mg (a16 a0Q L) [5,8,9,10,51,52] [] [1,2,24000000095] [(2,.box [.o 24000000095]),(24000000095,.row 3 true false p)])
def a2N (L:List Lf) (p:LD):Ex×St:=(.normal,mg (a16 a0Q L) [5,8,9,10,51,52] [] [1,2,24000000063] [(2,.box [.o 24000000063]),(24000000063,.row 3 true false p)])
def a6K (L:List Lf):List (Bool×(Ex×St)):=bnd (a3x N L (fun p=>some (.inl p)) (fun p=>some (.inr (.inl p))) (fun p=>some (.inr (.inr (.inl p)))) (fun p=>some (.inr (.inr (.inr p))))) fun q=>[((a0U q),a2K L (a1E q)),((a0U (a0n q)),a2L L (a1E (a0n q))),((a0U (a0n (a0n q))),a2M L (a1E (a0n (a0n q)))),((a0n (a0n (a0n q))).isSome,a2N L ((a0n (a0n (a0n q))).getD default))]
theorem a5W (L:List Lf):pc Tryz.prog (a8s N).o (a5k N).h 24000000005 100 59 72071 a0Q L [5,8,9,10,51,52] [1,2,24000000063,24000000072,24000000078,24000000095]=a3x N L (fun p=>some (a2K L p)) (fun p=>some (a2L L p)) (fun p=>some (a2M L p)) (fun p=>some (a2N L p)):=by kernel_rfl
def b0N:Sg Tryz.prog 24000000005 59 c2J a4O:=
 (a5k N).cut (a6K N) a6d (a8s N).ok fun L x hx=>(a5W N L).trans ((a5l N ..).trans ((c57 (c57 (c57 b8i))) x hx))
def a1t (w0 w1:Int) (w2:Bool) (w3:Int) (w4:Int) (w6:Bool) (w7:LD) (kr:Int→Bool→LD→Option R) (k0:Bool×LD→Option R):Option R:=
 bif (decide (w4<w3)) then
  bnd (a1s N w0 w1 w2 w4 (bif (decide (w0>60)) then w2 else false) w7) fun y0=>
  bif (a0U y0) then
   kr (IntKind.wrap .i64 (w4+1)) false (a1E y0)
  else
   bif (a0U (a0n y0)) then
    kr (IntKind.wrap .i64 (w4+1)) false (a1E (a0n y0))
   else
    bif (a0U (a0n (a0n y0))) then
     kr (IntKind.wrap .i64 (w4+1)) false (a1E (a0n (a0n y0)))
    else
     bif (a0n (a0n (a0n y0))).isSome then
      kr (IntKind.wrap .i64 (w4+1)) false ((a0n (a0n (a0n y0))).getD default)
     else
      none
 else
  k0 (w6,w7)
def a0Z (N:Nat) {R:Type} (w0 w1:Int) (w2:Bool) (w3:Int):Nat→Int→Bool→LD→(Bool×LD→Option R)→Option R
 |0,_,_,_,_=>none
 |m+1,w4,w6,w7,k0=>a1t N w0 w1 w2 w3 w4 w6 w7 (fun w4 w6 w7=>a0Z N w0 w1 w2 w3 m w4 w6 w7 k0) k0
def a4E (w0 w1:Int) (w2:Bool) (w3:Int) (w4:Int) (w6:Bool) (w7:LD):Option (Bool×LD):=a0Z N (R:=(Bool×LD)) w0 w1 w2 w3 N w4 w6 w7 some
def a5m:=(b0N N).l1 (a8s N) 57 [4,6,7] [] [1,2,24050002005] ⟨[(5,cP 2),(8,cI),(9,cI),(10,cB),(51,cI),(52,cI)],[(1,bX7),(2,e3f),(24050002005,.row 3 true)]⟩ N (fun L x _ kr=>a1t N (li L 0) (li L 1) (lb L 2) (li L 3) (li x 0) (lb x 1) (ll x 2) (fun w4 w6 w7=>kr [.i w4,.b w6,.l w7])) (fun L m x=>a0Z N (li L 0) (li L 1) (lb L 2) (li L 3) m (li x 0) (lb x 1) (ll x 2) some) (fun s m L p=>((.exit 3),m [] [(24050002005,.row 3 true p.1 p.2)])) fun _ _ _ _ _=>by unfold a1t;exact bb
def a3I:a1y:=rfY (a0S Tryz.prog 59 600000010) [] 4 23 (a5m N).h
def a2O:a1y:={(a3I N) with tm:=[(3,.c (.p 1 0)),(5,.c (.p 2 0))]}
def d1u:Sg Tryz.prog 5 131 (b8j ((a2O N))):= .start [(3,[0,1,3],[0,1,2,3,4,50002005],[50002000]),(10,[0,1,3],[0,1,2,4,50002005],[])] [(0,[1,0]),(1,[3,1,0]),(3,[0,1,3]),(2,[3,1,0])]
def a6L (w0:Int) (w5:LD) (w10:Int) (w13:Bool) (w14:LD) (k0:Bool×LD→Option R):Option R:=
 bif (inB (IntKind.wrap .i64 (w0-1)) w5.length) then
  bnd ((w5.getD (IntKind.wrap .i64 (w0-1)).toNat (.i 0)).cell 0).toI fun y0=>
  bnd ((w5.getD (IntKind.wrap .i64 (w0-1)).toNat (.i 0)).cell 1).toI fun y1=>
  bnd ((w5.getD (IntKind.wrap .i64 (w0-1)).toNat (.i 0)).cell 2).toI fun y2=>
  bnd ((w5.getD (IntKind.wrap .i64 (w0-1)).toNat (.i 0)).cell 3).toI fun y3=>
  bnd ((w5.getD (IntKind.wrap .i64 (w0-1)).toNat (.i 0)).cell 4).toI fun y4=>
  bnd ((w5.getD (IntKind.wrap .i64 (w0-1)).toNat (.i 0)).cell 5).toI fun y5=>
  bnd ((w5.getD (IntKind.wrap .i64 (w0-1)).toNat (.i 0)).cell 6).toI fun y6=>
  bif (inB w0 w5.length) then
   bnd (IntKind.wrap .i64 (((w5.getD w0.toNat (.i 0)).cell 0).toI-y0)) fun y7=>
   bnd (a1p N false w10 (w10==1) y1 y2 y3 y4 y5 y6 ((w5.getD w0.toNat (.i 0)).cell 1).toI ((w5.getD w0.toNat (.i 0)).cell 2).toI ((w5.getD w0.toNat (.i 0)).cell 3).toI) fun y8=>
   bif y8.isSome then
    bnd (a4E N y7 (y8.getD default).1 (y8.getD default).2 y7 0 w13 w14) fun y9=>
    bif y9.isSome then
     k0 (y9.getD default)
    else
     none
   else
    none
  else
   none
 else
  none
def a6M (w0:Int) (w5:LD) (w10:Int) (w13:Bool) (w14:LD):Option (Bool×LD):=a6L N w0 w5 w10 w13 w14 some
theorem b9I (w0:Int) (w5:LD) (w10:Int) (w13:Bool) (w14:LD) (k0:Bool×LD→Option R):a6L N w0 w5 w10 w13 w14 k0=(a6M N w0 w5 w10 w13 w14).bind k0:=by
 unfold a6M a6L
 repeat' (first|with_reducible apply a6a|(with_reducible apply b1M;intro _)|rfl)
def b9J (L:List Lf) (k0:Bool×LD→Option R):Option R:=a6L N (li L 0) (ll L 5) (li L 10) (lb L 13) (ll L 14) k0
def b5N:Sh:={tmps:=[(0,.c (.y 4)),(1,cP 0),(3,cI)],mem:=[(0,bX0),(1,bX7),(2,bX6),(4,.row 3 true),(50002005,.row 3 true)]}
def b4c (L:List Lf) (p:Bool×LD):Ex×St:=(.normal,mg (a16 b5N L) [0,1,3,24] [(24,.c (.b false))] [0,1,2,4,24050002005] [(2,.box [.o 24050002005]),(24050002005,.row 3 true p.1 p.2)])
def c71 (L:List Lf):List (Bool×(Ex×St)):=bnd (b9J N L some) fun q=>[(q.isSome,b4c L (q.getD default))]
theorem c1x (L:List Lf):pcY Tryz.prog (a8s N).o 5 ((a2O N)) 131 10 b5N L [0,1,3,24] [0,1,2,4,24050002005]=b9J N L (fun p=>some (b4c L p)):=by kernel_rfl
def d1v:Sg Tryz.prog 5 131 (b8j ((a2O N))):=
 (d1u N).cutY (c71 N) a6d (a8s N).ok (e3O 600000010 23 (a5m N) (by kernel_rfl) (by kernel_rfl)) fun L x hx=>(c1x N L).trans ((b9I N ..).trans (b8i x hx))
def a9C (w5:LD) (w10:Int) (w0:Int) (w13:Bool) (w14:LD) (kr:Int→Bool→LD→Option R) (k0:Bool×LD→Option R):Option R:=
 bif (decide (w0<(w5.length:Int))) then
  bnd (a6M N w0 w5 w10 w13 w14) fun y0=>
  bif y0.isSome then
   kr (IntKind.wrap .i64 (w0+1)) (y0.getD default).1 (y0.getD default).2
  else
   none
 else
  k0 (w13,w14)
def a7r (N:Nat) {R:Type} (w5:LD) (w10:Int):Nat→Int→Bool→LD→(Bool×LD→Option R)→Option R
 |0,_,_,_,_=>none
 |m+1,w0,w13,w14,k0=>a9C N w5 w10 w0 w13 w14 (fun w0 w13 w14=>a7r N w5 w10 m w0 w13 w14 k0) k0
def b7b (w5:LD) (w10:Int) (w0:Int) (w13:Bool) (w14:LD):Option (Bool×LD):=a7r N (R:=(Bool×LD)) w5 w10 N w0 w13 w14 some
def c3n:=(d1v N).l1 (a8s N) 3 [0,13,14] [] [0,1,2,4,50002005] ⟨[(0,.c (.y 4)),(1,cP 0),(3,cI)],[(0,bX0),(1,bX7),(2,bX6),(4,.row 3 true),(50002005,.row 3 true)]⟩ N (fun L x _ kr=>a9C N (ll L 5) (li L 10) (li x 0) (lb x 1) (ll x 2) (fun w0 w13 w14=>kr [.i w0,.b w13,.l w14])) (fun L m x=>a7r N (ll L 5) (li L 10) m (li x 0) (lb x 1) (ll x 2) some) (fun s m L p=>((.exit 0),m [] [(50002005,.row 3 true p.1 p.2)])) fun _ _ _ _ _=>by unfold a9C;exact bb
def b9K (v4:LD) (v9:Int) (v10:Bool) (v11:LD) (k0:Bool×LD→Option R):Option R:=
 bnd (b7b N v4 v9 1 v10 v11) fun y0=>
 bif y0.isSome then
  k0 (y0.getD default)
 else
  none
def c3o (v4:LD) (v9:Int) (v10:Bool) (v11:LD):Option (Bool×LD):=b9K N v4 v9 v10 v11 some
theorem c72 (v4:LD) (v9:Int) (v10:Bool) (v11:LD) (k0:Bool×LD→Option R):b9K N v4 v9 v10 v11 k0=(c3o N v4 v9 v10 v11).bind k0:=by
 unfold c3o b9K
 repeat' (first|with_reducible apply a6a|(with_reducible apply b1M;intro _)|rfl)
def d4B (L:List Lf) (k0:Bool×LD→Option R):Option R:=b9K N (ll L 4) (li L 9) (lb L 10) (ll L 11) k0
def b7c:Sh:={tmps:=[(0,.c (.y 4)),(1,cP 0),(3,cP 1),(5,cP 2)],mem:=[(0,bX0),(1,bX7),(2,.box ([.o 3])),(3,.row 3 true),(4,.row 3 true)]}
def c3p (L:List Lf) (p:Bool×LD):Res:=([],mgA (a16 b7c L).mem [(2,.box [.o 50002005]),(50002005,.row 3 true p.1 p.2)] [0,1,2,4,50002005])
def d4C (L:List Lf):List (Bool×Res):=bnd (d4B N L some) fun q=>[(q.isSome,c3p L (q.getD default))]
theorem d1w (L:List Lf):bdY Tryz.prog (a8s N).o ((c3n N)).h 131 2 b7c L=d4B N L (fun p=>some (c3p L p)):=by kernel_rfl
theorem d7H:d0y (a3I N) Tryz.prog 131 2 b7c (d4C N):=
 Sg.fnY (fun L=>(a2O N)) (fun L=>(c3n N)) (fun L=>by kernel_rfl) a6d (a8s N).ok fun L x hx=>((d1w N L).trans ((c72 N ..).trans (b8i x hx)))
def d7I (N:Nat):Sg Tryz.prog 0 59:= .start [(600000010,[3,5,16],[3,5,14,17000000001],[])] [(0,[0,1]),(1,[2,3]),(2,[2,5,3]),(29,[5])]
def a2a (w0:Int) (w1:Bool) (w2 w7:LD) (k0:Bool×LD→Option R):Option R:=
 bnd (c3o N w7 w0 w1 w2) fun y0=>
 bif y0.isSome then
  k0 (y0.getD default)
 else
  none
def a2P (w0:Int) (w1:Bool) (w2 w7:LD):Option (Bool×LD):=a2a N w0 w1 w2 w7 some
theorem a9D (w0:Int) (w1:Bool) (w2 w7:LD) (k0:Bool×LD→Option R):a2a N w0 w1 w2 w7 k0=(a2P N w0 w1 w2 w7).bind k0:=by
 unfold a2P a2a
 repeat' (first|with_reducible apply a6a|(with_reducible apply b1M;intro _)|rfl)
def a6N (L:List Lf) (k0:Bool×LD→Option R):Option R:=a2a N (li L 0) (lb L 1) (ll L 2) (ll L 7) k0
def a5n (L:List Lf) (p:Bool×LD):Ex×St:=(.normal,⟨[(5,.c (.p 5 0))],[(5,.box [.o 1000000050002005]),(1000000050002005,.row 3 true p.1 p.2)]⟩)
def b4d (L:List Lf):List (Bool×(Ex×St)):=bnd (a6N N L some) fun q=>[(q.isSome,a5n L (q.getD default))]
theorem b0O (L:List Lf):pcR Tryz.prog (a3I N) [3,5] (spY 2 b7c (d4C N)) 131 3 0 59 600000010 ⟨[(3,cP 3),(5,cP 5),(16,.c (.f 131 [(17000000001,0)]))],[(3,bX7),(5,.box ([.o 14])),(14,.row 3 true),(17000000001,bX0)]⟩ L [5] [5,1000000050002005]=a6N N L (fun p=>some (a5n L p)):=by kernel_rfl
def d7J:Sg Tryz.prog 0 59:=
 (d7I N).rf (g:= .tmp 16) (b4d N) (d7H N) (fun L x hx=>(b0O N L).trans ((a9D N ..).trans (b8i x hx))) (by kernel_rfl)
def d1x (v4:LD) (v9:Int) (k0:Bool×LD→Option R):Option R:=
 bnd (a8r N v4) fun y0=>
 bif y0.isSome then
  bif ((decide (0≤(y0.getD default)))&&(decide ((y0.getD default).toNat*8≤a0X)&&decide ((y0.getD default).toNat≤a0c))) then
   bnd (a2P N v9 false [] v4) fun y1=>
   bif y1.isSome then
    k0 (y1.getD default)
   else
    none
  else
   none
 else
  none
def b9L (v4:LD) (v9:Int):Option (Bool×LD):=d1x N v4 v9 some
def e4k:=(d7J N).f1 (a8s N) ⟨[(0,gX4),(1,cI)],[]⟩ (fun L _=>d1x N (ll L 4) (li L 9)) (fun L p=>([.c (.sl 3 p.1 p.2)],[])) fun _ _=>by unfold d1x;exact bb
def d7K (N:Nat):Sg Tryz.prog 0 56:= .start [] [(0,[0]),(1,[1,2]),(2,[1,3,2]),(3,[4,1,3,2]),(5,[4,1,3,2]),(4,[4,1,3,2]),(6,[3,2])]
def d1y (v4:LD) (k0:Ty0→Option R):Option R:=
 bnd (b9L N v4 1) fun y0=>
 bif y0.isSome then
  bnd (b9L N v4 2) fun y1=>
  bif y1.isSome then
   bnd (b9L N v4 3) fun y2=>
   bif y2.isSome then
    bnd (b9L N v4 4) fun y3=>
    bif y3.isSome then
     bnd (b9L N v4 5) fun y4=>
     bif y4.isSome then
      k0 ((y0.getD default).1,(y0.getD default).2,(y1.getD default).1,(y1.getD default).2,(y2.getD default).1,(y2.getD default).2,(y3.getD default).1,(y3.getD default).2,(y4.getD default).1,(y4.getD default).2)
     else
      none
    else
     none
   else
    none
  else
   none
 else
  none
def d7L (v4:LD):Option (Ty0):=d1y N v4 some
def d7M:=(d7K N).f1 (e4k N) ⟨[(0,gX4)],[]⟩ (fun L _=>d1y N (ll L 4)) (fun L p=>let p1:=p.2;let p2:=p1.2;let p3:=p2.2;let p4:=p3.2;let p5:=p4.2;let p6:=p5.2;let p7:=p6.2;let p8:=p7.2;let p9:=p8.2;([.g [.sl 3 true [],.sl 3 p.1 p1.1,.sl 3 p2.1 p3.1,.sl 3 p4.1 p5.1,.sl 3 p6.1 p7.1,.sl 3 p8.1 p9]],[])) fun _ _=>by unfold d1y;exact bb
def d7N (N:Nat):Sg Tryz.prog 0 96:= .start [(6,[2,3,6,7,8],[],[]),(17,[2,3,5,6,7,8,13],[],[])] [(0,[0]),(1,[0,2,3]),(2,[8,7,6,2,3]),(3,[6,8,2,3,7]),(4,[5,2,3,8,7,6]),(5,[2,5,3,8,7,6]),(6,[8,7,6,2,3]),(7,[2,3])]
def b7d (N:Nat) (w0 w1 w2:Int) (w7:Bool) (k0:Int×Int→R):R:=
 bif w7 then
  k0 ((IntKind.wrap .i64 (w0+w2)),(IntKind.wrap .i64 (w1+1)))
 else
  k0 (w0,w1)
def b7e (w0 w1 w2:Int) (w7:Bool):Int×Int:=b7d N w0 w1 w2 w7 (fun p=>p)
def d7O:=(d7N N).c0 (d7M N) 17 100 [2,3,6,7,8] [] ⟨[(2,cI),(3,cI),(5,cI),(6,cL 3),(7,cI),(8,cI),(13,cB)],[]⟩ (fun L _=>b7d N (li L 0) (li L 1) (li L 2) (lb L 7)) (fun s m L p=>(.normal,m [(2,.c (.i .i64 p.1)),(3,.c (.i .i64 p.2))] [])) fun _ _=>by unfold b7d;exact kk
def b4e (w3:LD) (w4:Int) (w0 w1 w5:Int) (kr:Int→Int→Int→Option R) (k0:Int×Int→Option R):Option R:=
 bif (decide (w5<w4)) then
  bif (inB w5 w3.length) then
   bnd (b7e N w0 w1 (w3.getD w5.toNat (.i 0)).toI (decide ((w3.getD w5.toNat (.i 0)).toI≥0))) fun y0=>
   kr y0.1 y0.2 (IntKind.wrap .i64 (w5+1))
  else
   none
 else
  k0 (w0,w1)
def b0P (N:Nat) {R:Type} (w3:LD) (w4:Int):Nat→Int→Int→Int→(Int×Int→Option R)→Option R
 |0,_,_,_,_=>none
 |m+1,w0,w1,w5,k0=>b4e N w3 w4 w0 w1 w5 (fun w0 w1 w5=>b0P N w3 w4 m w0 w1 w5 k0) k0
def c73 (w3:LD) (w4:Int) (w0 w1 w5:Int):Option (Int×Int):=b0P N (R:=(Int×Int)) w3 w4 N w0 w1 w5 some
def d7P:=(d7O N).l1 (d7M N) 6 [0,1,5] [2,3] [] ⟨[(2,cI),(3,cI),(6,cL 3),(7,cI),(8,cI)],[]⟩ N (fun L x _ kr=>b4e N (ll L 3) (li L 4) (li x 0) (li x 1) (li x 2) (fun w0 w1 w5=>kr [.i w0,.i w1,.i w5])) (fun L m x=>b0P N (ll L 3) (li L 4) m (li x 0) (li x 1) (li x 2) some) (fun s m L p=>((.exit 0),⟨[(2,.c (.i .i64 p.1)),(3,.c (.i .i64 p.2))],[]⟩)) fun _ _ _ _ _=>by unfold b4e;exact bb
def d1z (v1:LD) (k0:Int×Int→Option R):Option R:=
 bnd (c73 N v1 (v1.length:Int) 0 0 0) fun y0=>
 bif y0.isSome then
  k0 (y0.getD default)
 else
  none
def c1y (v1:LD):Option (Int×Int):=d1z N v1 some
def e4l:=(d7P N).f1 (d7M N) ⟨[(0,cL 3)],[]⟩ (fun L _=>d1z N (ll L 1)) (fun L p=>([.c (.i .i64 p.1),.c (.i .i64 p.2)],[])) fun _ _=>by unfold d1z;exact bb
def d7Q (N:Nat):Sg Tryz.prog 0 55:= .start [] [(0,[0,1,2]),(1,[1,2,3,6]),(2,[3,1,2,7,6]),(3,[3,1,2,7,6]),(4,[3,1,2,7,6]),(5,[3,1,2,7,6]),(6,[3,1,2,7,6]),(7,[7,6])]
def d1A (v3 v5 v7 v9 v11:LD) (v12 v13:Int) (k0:Ty8→Option R):Option R:=
 bif (((decide (0≤v12))&&(decide (v12≤v13)))&&(decide (v13≤(v3.length:Int)))) then
  bnd (c1y N ((v3.take v13.toNat).drop v12.toNat)) fun y0=>
  bif y0.isSome then
   bif (((decide (0≤v12))&&(decide (v12≤v13)))&&(decide (v13≤(v5.length:Int)))) then
    bnd (c1y N ((v5.take v13.toNat).drop v12.toNat)) fun y1=>
    bif y1.isSome then
     bif (((decide (0≤v12))&&(decide (v12≤v13)))&&(decide (v13≤(v7.length:Int)))) then
      bnd (c1y N ((v7.take v13.toNat).drop v12.toNat)) fun y2=>
      bif y2.isSome then
       bif (((decide (0≤v12))&&(decide (v12≤v13)))&&(decide (v13≤(v9.length:Int)))) then
        bnd (c1y N ((v9.take v13.toNat).drop v12.toNat)) fun y3=>
        bif y3.isSome then
         bif (((decide (0≤v12))&&(decide (v12≤v13)))&&(decide (v13≤(v11.length:Int)))) then
          bnd (c1y N ((v11.take v13.toNat).drop v12.toNat)) fun y4=>
          bif y4.isSome then
           k0 ((y3.getD default).1,(y4.getD default).1,(y0.getD default).1,(y1.getD default).1,(y2.getD default).1,(y0.getD default).2,(y1.getD default).2,(y2.getD default).2)
          else
           none
         else
          none
        else
         none
       else
        none
      else
       none
     else
      none
    else
     none
   else
    none
  else
   none
 else
  none
def d7R (v3 v5 v7 v9 v11:LD) (v12 v13:Int):Option (Ty8):=d1A N v3 v5 v7 v9 v11 v12 v13 some
def e1z:=(d7Q N).f1 (e4l N) ⟨[(0,.g ([.sl 3,.sl 3,.sl 3,.sl 3,.sl 3,.sl 3])),(1,cI),(2,cI)],[]⟩ (fun L _=>d1A N (ll L 3) (ll L 5) (ll L 7) (ll L 9) (ll L 11) (li L 12) (li L 13)) (fun L p=>let p1:=p.2;let p2:=p1.2;let p3:=p2.2;let p4:=p3.2;let p5:=p4.2;let p6:=p5.2;let p7:=p6.2;([.g [.i .i64 (li L 12),.i .i64 (li L 13),.i .i64 p.1,.i .i64 p1.1,.i .i64 p2.1,.i .i64 p3.1,.i .i64 p4.1,.i .i64 p5.1,.i .i64 p6.1,.i .i64 p7]],[])) fun _ _=>by unfold d1A;exact bb
def d7S (N:Nat):Sg Tryz.prog 0 28:= .start [(13,[1,2,3,6],[3,6],[])] [(0,[0,1,2]),(1,[3,6,1,2]),(2,[8,6,1,2,3]),(3,[8,6]),(4,[1,2,3,6]),(5,[6]),(6,[3,1,2,6])]
def b2u (w0 w1:Int) (w6:LD) (k0:Bool→Option R):Option R:=
 bif (bif (decide (w0<0)) then true else (decide (w0>w1))) then
  k0 true
 else
  bnd (a8r N w6) fun y0=>
  bif y0.isSome then
   k0 (decide (w1>(y0.getD default)))
  else
   none
def b7f (w0 w1:Int) (w6:LD):Option (Bool):=b2u N w0 w1 w6 some
def d7T:=(d7S N).c1 (e1z N) 13 100 [1,2,3,6,27] [3,6] ⟨[(1,cI),(2,cI),(3,cP 3),(6,cP 6)],[(3,bX0),(6,.box (rI 10 ([])))]⟩ (fun L _=>b2u N (li L 0) (li L 1) (ll L 6)) (fun s m L p=>(.normal,m [(27,.c (.b p))] [])) fun _ _=>by unfold b2u;exact bb
def d1B (v0:LB) (v1 v2:Int) (v4 v6 v8:LD) (v9 v10:Int) (k0:Ty5→Option R):Option R:=
 bnd (b1Q N v0 v1 v2 v4 v6 v8) fun y0=>
 bif y0.isSome then
  bif ((y0.getD default) !=0) then
   k0 (0,0,0,0,0,0,0,0,0,0,(y0.getD default))
  else
   bnd (b7f N v9 v10 v4) fun y1=>
   bif y1.isSome then
    bif (y1.getD default) then
     k0 (0,0,0,0,0,0,0,0,0,0,9)
    else
     bnd (d7L N v4) fun y2=>
     bif y2.isSome then
      bnd (d7R N (y2.getD default).2.1 (y2.getD default).2.2.2.1 (y2.getD default).2.2.2.2.2.1 (y2.getD default).2.2.2.2.2.2.2.1 (y2.getD default).2.2.2.2.2.2.2.2.2 v9 v10) fun y3=>
      bif y3.isSome then
       k0 (v9,v10,(y3.getD default).1,(y3.getD default).2.1,(y3.getD default).2.2.1,(y3.getD default).2.2.2.1,(y3.getD default).2.2.2.2.1,(y3.getD default).2.2.2.2.2.1,(y3.getD default).2.2.2.2.2.2.1,(y3.getD default).2.2.2.2.2.2.2,0)
      else
       none
     else
      none
   else
    none
 else
  none
def c1z (v0:LB) (v1 v2:Int) (v4 v6 v8:LD) (v9 v10:Int):Option (Ty5):=d1B N v0 v1 v2 v4 v6 v8 v9 v10 some
def e1A:=(d7T N).f1 (e1z N) ⟨[(0,gX4),(1,cI),(2,cI)],[]⟩ (fun L _=>d1B N (ls L 0) (li L 1) (li L 2) (ll L 4) (ll L 6) (ll L 8) (li L 9) (li L 10)) (fun L p=>let p1:=p.2;let p2:=p1.2;let p3:=p2.2;let p4:=p3.2;let p5:=p4.2;let p6:=p5.2;let p7:=p6.2;let p8:=p7.2;let p9:=p8.2;let p10:=p9.2;([.g [.i .i64 p.1,.i .i64 p1.1,.i .i64 p2.1,.i .i64 p3.1,.i .i64 p4.1,.i .i64 p5.1,.i .i64 p6.1,.i .i64 p7.1,.i .i64 p8.1,.i .i64 p9.1],.c (.i .i64 p10)],[])) fun _ _=>by unfold d1B;exact bb
def d7U (N:Nat):Sg Tryz.prog 0 12:= .start [(18,[6,10,26,27,28],[6,10],[])] [(0,[0,1,2]),(1,[3,1,2,6]),(2,[9,6,8]),(3,[9,6]),(4,[8,6]),(5,[8,10,6]),(6,[28,27,26,10,6]),(7,[26,28,10,27,6]),(8,[12,10,28,27,26,6]),(9,[10,13,28,27,26,6]),(10,[28,27,26,10,6]),(11,[10,6])]
def a9E (w1:LD) (w2:Int) (w3 w8 w9 w10 w11:Int) (kr:Int→Int→Int→Int→Int→Option R) (k0:Int×Int×Int×Int→Option R):Option R:=
 bif (decide (w3<w2)) then
  bif (inB w3 w1.length) then
   bnd (a8r N ((w1.getD w3.toNat (.i 0)).cell 3).items) fun y0=>
   bif y0.isSome then
    bnd (c1z N ((w1.getD w3.toNat (.i 0)).cell 0).toS ((w1.getD w3.toNat (.i 0)).cell 1).toI ((w1.getD w3.toNat (.i 0)).cell 2).toI ((w1.getD w3.toNat (.i 0)).cell 3).items ((w1.getD w3.toNat (.i 0)).cell 4).items ((w1.getD w3.toNat (.i 0)).cell 5).items 0 (y0.getD default)) fun y1=>
    bif y1.isSome then
     kr (IntKind.wrap .i64 (w3+1)) (IntKind.wrap .i64 (w8+1)) (IntKind.wrap .i64 (w9+(y1.getD default).2.2.1)) (IntKind.wrap .i64 (w10+(y1.getD default).2.2.2.1)) (IntKind.wrap .i64 (w11+(y1.getD default).2.1))
    else
     none
   else
    none
  else
   none
 else
  k0 (w8,w9,w10,w11)
def a7s (N:Nat) {R:Type} (w1:LD) (w2:Int):Nat→Int→Int→Int→Int→Int→(Int×Int×Int×Int→Option R)→Option R
 |0,_,_,_,_,_,_=>none
 |m+1,w3,w8,w9,w10,w11,k0=>a9E N w1 w2 w3 w8 w9 w10 w11 (fun w3 w8 w9 w10 w11=>a7s N w1 w2 m w3 w8 w9 w10 w11 k0) k0
def c3q (w1:LD) (w2:Int) (w3 w8 w9 w10 w11:Int):Option (Int×Int×Int×Int):=a7s N (R:=(Int×Int×Int×Int)) w1 w2 N w3 w8 w9 w10 w11 some
def d7V:=(d7U N).l1 (e1A N) 18 [3,8,9,10,11] [6,7,10] [6,10] ⟨[(6,cP 6),(10,cP 10),(26,cL 36),(27,cI),(28,cI)],[(6,e0u),(10,e0u)]⟩ N (fun L x _ kr=>a9E N (ll L 1) (li L 2) (li x 0) (li x 1) (li x 2) (li x 3) (li x 4) (fun w3 w8 w9 w10 w11=>kr [.i w3,.i w8,.i w9,.i w10,.i w11])) (fun L m x=>a7s N (ll L 1) (li L 2) m (li x 0) (li x 1) (li x 2) (li x 3) (li x 4) some) (fun s m L p=>((.exit 0),mg s [6,10] [] [6,10] [(10,.box [.i .i64 p.1,.i .i64 p.2.1,.i .i64 p.2.2.1,.i .i64 p.2.2.2])])) fun _ _ _ _ _=>by unfold a9E;exact bb
def c74 (v1:LD) (v2:Int) (v4:LD) (k0:Int×Int×Int×Int×Int→Option R):Option R:=
 bnd (b63 N v1 v2 v4) fun y0=>
 bif y0.isSome then
  bif ((y0.getD default).2.2 !=0) then
   k0 (0,0,0,0,(y0.getD default).2.2)
  else
   bnd (c3q N (y0.getD default).2.1 ((y0.getD default).2.1.length:Int) 0 0 0 0 0) fun y1=>
   bif y1.isSome then
    k0 ((y1.getD default).1,(y1.getD default).2.1,(y1.getD default).2.2.1,(y1.getD default).2.2.2,0)
   else
    none
 else
  none
def b4f (v1:LD) (v2:Int) (v4:LD):Option (Int×Int×Int×Int×Int):=c74 N v1 v2 v4 some
def e4m:=(d7V N).f1 (e1A N) ⟨[(0,gX9),(1,cI),(2,cL 36)],[]⟩ (fun L _=>c74 N (ll L 1) (li L 2) (ll L 4)) (fun L p=>([.g [.i .i64 p.1,.i .i64 p.2.1,.i .i64 p.2.2.1,.i .i64 p.2.2.2.1],.c (.i .i64 p.2.2.2.2)],[])) fun _ _=>by unfold c74;exact bb
def d7W (N:Nat):Sg Tryz.prog 0 42:= .start [] [(0,[0,1,2]),(1,[0,1,2])]
def d1C (N:Nat) (v0 v1 v2:Int) (k0:Bool→R):R:=
 k0 (bif (decide (v0≥v1)) then (decide (v0≤v2)) else false)
def c1A (v0 v1 v2:Int):Bool:=d1C N v0 v1 v2 (fun p=>p)
def e1B:=(d7W N).f0 (e4m N) ⟨[(0,cI),(1,cI),(2,cI)],[]⟩ (fun L _=>d1C N (li L 0) (li L 1) (li L 2)) (fun L p=>([.c (.b p)],[])) fun _ _=>by unfold d1C;exact kk
def d7X (N:Nat):Sg Tryz.prog 0 41:= .start [(12,[8,9,10],[],[])] [(0,[0]),(1,[0]),(2,[]),(3,[0]),(4,[10,9,8]),(5,[8,10,9]),(6,[4,10,9,8]),(7,[]),(8,[10,9,8]),(9,[])]
def a7t (w1:LD) (w2:Int) (w3:Int) (kr:Int→Option R) (k0:Unit→Option R) (k1:Unit→Option R):Option R:=
 bif (decide (w3<w2)) then
  bif (inB w3 w1.length) then
   bnd (c1A N (w1.getD w3.toNat (.i 0)).toI (-1) 1000000000) fun y0=>
   bif (!y0) then
    k0 ()
   else
    kr (IntKind.wrap .i64 (w3+1))
  else
   none
 else
  k1 ()
def b2v (N:Nat) {R:Type} (w1:LD) (w2:Int):Nat→Int→(Unit→Option R)→(Unit→Option R)→Option R
 |0,_,_,_=>none
 |m+1,w3,k0,k1=>a7t N w1 w2 w3 (fun w3=>b2v N w1 w2 m w3 k0 k1) k0 k1
def b7g (w1:LD) (w2:Int) (w3:Int):Option (Sum (Unit) (Unit)):=b2v N (R:=(Sum (Unit) (Unit))) w1 w2 N w3 (fun p=>some (.inl p)) (fun p=>some (.inr p))
def d7Y:=(d7X N).l2 (e1B N) 12 [3] [2] [] ⟨[(8,cL 3),(9,cI),(10,cI)],[]⟩ N (fun L x _ kr=>a7t N (ll L 1) (li L 2) (li x 0) (fun w3=>kr [.i w3])) (fun L m x=>b2v N (ll L 1) (li L 2) m (li x 0) (fun p=>some (.inl p)) (fun p=>some (.inr p))) (fun s m L _=>(.ret,⟨[(2,.c (.i .i64 9))],[]⟩)) (fun s m L _=>((.exit 0),⟨[],[]⟩)) fun _ _ _ _ _ _=>by unfold a7t;exact bb
def d1D (v1:LD) (k0:Int→Option R):Option R:=
 bif (decide ((v1.length:Int)>1000000)) then
  k0 3
 else
  bnd (b7g N v1 (v1.length:Int) 0) fun y0=>
  bif (a0U y0) then
   k0 9
  else
   bif (a0n y0).isSome then
    k0 0
   else
    none
def d7Z (v1:LD):Option (Int):=d1D N v1 some
def e1C:=(d7Y N).f1 (e1B N) ⟨[(0,cL 3)],[]⟩ (fun L _=>d1D N (ll L 1)) (fun L p=>([.c (.i .i64 p)],[])) fun _ _=>by unfold d1D;exact bb
def d70 (N:Nat):Sg Tryz.prog 0 97:= .start [(6,[0,1,2,9,10,11],[],[])] [(0,[0,1,2]),(1,[0,1,2]),(2,[11,10,9,1,2,0]),(3,[11,9,1,2,0,10]),(4,[8,1,2,7,0,11,10,9]),(5,[]),(6,[7,8,0,11,10,9,1,2]),(7,[]),(8,[11,10,9,1,2,0]),(9,[])]
def b0Q (w1:LD) (w2 w3:Int) (w5:LD) (w6:Int) (w7:Int) (kr:Int→Option R) (k0:Int→Option R) (k1:Unit→Option R):Option R:=
 bif (decide (w7<w6)) then
  bif (inB w7 w5.length) then
   bnd (c1A N (w5.getD w7.toNat (.i 0)).toI w2 w3) fun y0=>
   bif (!y0) then
    k0 9
   else
    bif (bif (inB (IntKind.wrap .i64 (w7-1)) w1.length) then true else (!((decide (w7>0))==true))) then
     bnd (bif (decide (w7>0)) then (decide ((w5.getD w7.toNat (.i 0)).toI≤(w1.getD (IntKind.wrap .i64 (w7-1)).toNat (.i 0)).toI)) else false) fun y1=>
     bif y1 then
      k0 10
     else
      kr (IntKind.wrap .i64 (w7+1))
    else
     none
  else
   none
 else
  k1 ()
def b7h (N:Nat) {R:Type} (w1:LD) (w2 w3:Int) (w5:LD) (w6:Int):Nat→Int→(Int→Option R)→(Unit→Option R)→Option R
 |0,_,_,_=>none
 |m+1,w7,k0,k1=>b0Q N w1 w2 w3 w5 w6 w7 (fun w7=>b7h N w1 w2 w3 w5 w6 m w7 k0 k1) k0 k1
def c1B (w1:LD) (w2 w3:Int) (w5:LD) (w6:Int) (w7:Int):Option (Sum (Int) (Unit)):=b7h N (R:=(Sum (Int) (Unit))) w1 w2 w3 w5 w6 N w7 (fun p=>some (.inl p)) (fun p=>some (.inr p))
def d71:=(d70 N).l2 (e1C N) 6 [7] [6] [] ⟨[(0,cL 3),(1,cI),(2,cI),(9,cL 3),(10,cI),(11,cI)],[]⟩ N (fun L x _ kr=>b0Q N (ll L 1) (li L 2) (li L 3) (ll L 5) (li L 6) (li x 0) (fun w7=>kr [.i w7])) (fun L m x=>b7h N (ll L 1) (li L 2) (li L 3) (ll L 5) (li L 6) m (li x 0) (fun p=>some (.inl p)) (fun p=>some (.inr p))) (fun s m L p=>(.ret,⟨[(6,.c (.i .i64 p))],[]⟩)) (fun s m L _=>((.exit 0),⟨[],[]⟩)) fun _ _ _ _ _ _=>by unfold b0Q;exact bb
def d1E (v1:LD) (v2 v3:Int) (k0:Int→Option R):Option R:=
 bnd (c1B N v1 v2 v3 v1 (v1.length:Int) 0) fun y0=>
 bif (a0U y0) then
  k0 (a1E y0)
 else
  bif (a0n y0).isSome then
   k0 0
  else
   none
def e1D (v1:LD) (v2 v3:Int):Option (Int):=d1E N v1 v2 v3 some
def e4n:=(d71 N).f1 (e1C N) ⟨[(0,cL 3),(1,cI),(2,cI)],[]⟩ (fun L _=>d1E N (ll L 1) (li L 2) (li L 3)) (fun L p=>([.c (.i .i64 p)],[])) fun _ _=>by unfold d1E;exact bb
def d72 (N:Nat):Sg Tryz.prog 0 58:= .start [] [(0,[0]),(1,[0]),(3,[0]),(4,[]),(2,[]),(5,[0])]
def d1F (v1:LD) (k0:Int→Option R):Option R:=
 bif ((v1.length:Int)==0) then
  k0 13
 else
  bif (decide ((v1.length:Int)>100)) then
   k0 3
  else
   bnd (e1D N v1 1 1000000) fun y0=>
   bif y0.isSome then
    k0 (y0.getD default)
   else
    none
def d1G (v1:LD):Option (Int):=d1F N v1 some
def e1E:=(d72 N).f1 (e4n N) ⟨[(0,cL 3)],[]⟩ (fun L _=>d1F N (ll L 1)) (fun L p=>([.c (.i .i64 p)],[])) fun _ _=>by unfold d1F;exact bb
def d73 (N:Nat):Sg Tryz.prog 0 57:= .start [(9,[3,6,7,8],[],[])] [(0,[0]),(1,[0]),(2,[0,3]),(3,[8,7,6,3]),(4,[6,8,3,7]),(5,[5,3,8,7,6]),(6,[5]),(7,[8,7,6,3]),(8,[3])]
def b7i (N:Nat) (w0:Int) (w2:LD) (w3:Int) (w4:Int) (kr:Int→Option R) (k0:Int→Option R) (k1:Unit→Option R):Option R:=
 bif (decide (w4<w3)) then
  bif (inB w4 w2.length) then
   bif ((w2.getD w4.toNat (.i 0)).toI !=w0) then
    k0 (w2.getD w4.toNat (.i 0)).toI
   else
    kr (IntKind.wrap .i64 (w4+1))
  else
   none
 else
  k1 ()
def b7j (N:Nat) {R:Type} (w0:Int) (w2:LD) (w3:Int):Nat→Int→(Int→Option R)→(Unit→Option R)→Option R
 |0,_,_,_=>none
 |m+1,w4,k0,k1=>b7i N w0 w2 w3 w4 (fun w4=>b7j N w0 w2 w3 m w4 k0 k1) k0 k1
def c75 (w0:Int) (w2:LD) (w3:Int) (w4:Int):Option (Sum (Int) (Unit)):=b7j N (R:=(Sum (Int) (Unit))) w0 w2 w3 N w4 (fun p=>some (.inl p)) (fun p=>some (.inr p))
def d74:=(d73 N).l2 (e1E N) 9 [4] [2,3] [] ⟨[(3,cI),(6,cL 27),(7,cI),(8,cI)],[]⟩ N (fun L x _ kr=>b7i N (li L 0) (ll L 2) (li L 3) (li x 0) (fun w4=>kr [.i w4])) (fun L m x=>b7j N (li L 0) (ll L 2) (li L 3) m (li x 0) (fun p=>some (.inl p)) (fun p=>some (.inr p))) (fun s m L p=>(.ret,⟨[(2,.c (.i .i64 p))],[]⟩)) (fun s m L _=>((.exit 0),mg s [3] [] [] [])) fun _ _ _ _ _ _=>by unfold b7i;exact bb
def d1H (v1:LD) (k0:Int→Option R):Option R:=
 bnd (c75 N 0 v1 (v1.length:Int) 0) fun y0=>
 bif (a0U y0) then
  k0 (a1E y0)
 else
  bif (a0n y0).isSome then
   k0 0
  else
   none
def d1I (v1:LD):Option (Int):=d1H N v1 some
def e1F:=(d74 N).f1 (e1E N) ⟨[(0,cL 27)],[]⟩ (fun L _=>d1H N (ll L 1)) (fun L p=>([.c (.i .i64 p)],[])) fun _ _=>by unfold d1H;exact bb
def d75 (N:Nat):Sg Tryz.prog 1 85:= .start [(5,[0,1,2,13],[0],[])] [(0,[2,1,0]),(1,[1,0,2])]
def b7k (N:Nat) (w0 w1:Int) (w2:Bool) (w4 w5:Int) (w6:Bool) (k0:Int×Int×Bool→R):R:=
 bif w2 then
  k0 (w1,w0,true)
 else
  k0 (w4,w5,w6)
def c76 (w0 w1:Int) (w2:Bool) (w4 w5:Int) (w6:Bool):Int×Int×Bool:=b7k N w0 w1 w2 w4 w5 w6 (fun p=>p)
def d76:=(d75 N).c0 (e1F N) 5 100 [] [0] ⟨[(0,cI),(1,cI),(2,cP 0),(13,cB)],[(0,bX8)]⟩ (fun L _=>b7k N (li L 0) (li L 1) (lb L 2) (li L 4) (li L 5) (lb L 6)) (fun s m L p=>(.normal,⟨[],[(0,.box [.i .i64 (li L 3),.i .i64 p.1,.i .i64 p.2.1,.b p.2.2])]⟩)) fun _ _=>by unfold b7k;exact kk
def d1J (v0 v1 v3 v4:Int) (v5:Bool) (k0:Int×Int×Bool→R):R:=
 bnd (c76 N v0 v1 (bif (!v5) then true else (decide (v1>v3))) v3 v4 v5) fun y0=>
 k0 y0
def e1G (v0 v1 v3 v4:Int) (v5:Bool):Int×Int×Bool:=d1J N v0 v1 v3 v4 v5 (fun p=>p)
def c5s:=(d76 N).f0 (e1F N) ⟨[(0,cI),(1,cI),(2,cP 0)],[(0,bX8)]⟩ (fun L _=>d1J N (li L 0) (li L 1) (li L 3) (li L 4) (lb L 5)) (fun L p=>([],[(0,.box [.i .i64 (li L 2),.i .i64 p.1,.i .i64 p.2.1,.b p.2.2])])) fun _ _=>by unfold d1J;exact kk
def d77 (N:Nat):Sg Tryz.prog 1 84:= .start [(6,[0,1,2,6,7,10,11,12],[0],[]),(20,[0,1,2,6,7,8,10,11,12,22],[0],[]),(32,[0,1,2,6,7,8,10,11,12,43],[0],[]),(26,[0,1,2,6,7,8,10,11,12,27],[0],[]),(38,[0,1,2,6,7,8,10,11,12,53],[0],[])] [(0,[0,1,2]),(1,[0,6,7,1,2]),(2,[12,11,10,6,7,1,0,2]),(3,[12,10,6,7,1,0,2,11]),(4,[6,9,7,8,1,0,2,12,11,10]),(5,[9,7,8,1,6,0,2,12,11,10]),(6,[7,8,1,6,0,2,12,11,10]),(7,[8,1,6,0,7,2,12,11,10]),(8,[6,0,8,1,7,2,12,11,10]),(9,[0,8,1,7,2,6,12,11,10]),(10,[7,8,1,2,6,12,11,10,0]),(11,[8,1,7,2,6,12,11,10,0]),(12,[2,8,1,6,12,11,10,7,0]),(13,[12,11,10,6,7,1,0,2])]
def b2w (N:Nat) (w4:Int) (w10:Bool) (k0:Int→R):R:=
 bif w10 then
  k0 (IntKind.wrap .i64 (w4+1))
 else
  k0 w4
def b7l (w4:Int) (w10:Bool):Int:=b2w N w4 w10 (fun p=>p)
def d78:=(d77 N).c0 (c5s N) 20 100 [0,1,2,6,7,8,10,11,12] [0] ⟨[(0,cL 3),(1,cI),(2,.c (.f 85 [(0,0)])),(6,cI),(7,cI),(8,cI),(10,cL 3),(11,cI),(12,cI),(22,cB)],[(0,bX8)]⟩ (fun L _=>b2w N (li L 4) (lb L 10)) (fun s m L p=>(.normal,m [(7,.c (.i .i64 p))] [])) fun _ _=>by unfold b2w;exact kk
def b2x (N:Nat) (w4:Int) (w10:Bool) (k0:Int→R):R:=
 bif w10 then
  k0 (IntKind.wrap .i64 (w4-1))
 else
  k0 w4
def b7m (w4:Int) (w10:Bool):Int:=b2x N w4 w10 (fun p=>p)
def d79:=(d78 N).c0 (c5s N) 32 100 [0,1,2,6,7,8,10,11,12] [0] ⟨[(0,cL 3),(1,cI),(2,.c (.f 85 [(0,0)])),(6,cI),(7,cI),(8,cI),(10,cL 3),(11,cI),(12,cI),(43,cB)],[(0,bX8)]⟩ (fun L _=>b2x N (li L 4) (lb L 10)) (fun s m L p=>(.normal,m [(7,.c (.i .i64 p))] [])) fun _ _=>by unfold b2x;exact kk
def b2y (w1:LD) (w2 w3 w4 w5:Int) (w10:Bool) (k0:Int×Int→Option R):Option R:=
 bif w10 then
  bif (inB (IntKind.wrap .i64 (w5-w2)) w1.length) then
   bnd (max2 (w1.getD (IntKind.wrap .i64 (w5-w2)).toNat (.i 0)).toI 0) fun y0=>
   bif (inB (IntKind.wrap .i64 (w5-w2)) w1.length) then
    bnd (decide ((w1.getD (IntKind.wrap .i64 (w5-w2)).toNat (.i 0)).toI<0)) fun y1=>
    bnd (b7m N w4 y1) fun y2=>
    k0 ((IntKind.wrap .i64 (w3-y0)),y2)
   else
    none
  else
   none
 else
  k0 (w3,w4)
def b7n (w1:LD) (w2 w3 w4 w5:Int) (w10:Bool):Option (Int×Int):=b2y N w1 w2 w3 w4 w5 w10 some
def d8a:=(d79 N).c1 (c5s N) 26 100 [0,1,2,6,7,8,10,11,12] [0] ⟨[(0,cL 3),(1,cI),(2,.c (.f 85 [(0,0)])),(6,cI),(7,cI),(8,cI),(10,cL 3),(11,cI),(12,cI),(27,cB)],[(0,bX8)]⟩ (fun L _=>b2y N (ll L 1) (li L 2) (li L 3) (li L 4) (li L 5) (lb L 10)) (fun s m L p=>(.normal,m [(6,.c (.i .i64 p.1)),(7,.c (.i .i64 p.2))] [])) fun _ _=>by unfold b2y;exact bb
def b2z (w2 w3 w5:Int) (w10:Bool) (w12 w13:Int) (w14:Bool) (k0:Int×Int×Bool→R):R:=
 bif w10 then
  bnd (e1G N (IntKind.wrap .i64 ((IntKind.wrap .i64 (w5-w2))+1)) w3 w12 w13 w14) fun y0=>
  k0 y0
 else
  k0 (w12,w13,w14)
def b7o (w2 w3 w5:Int) (w10:Bool) (w12 w13:Int) (w14:Bool):Int×Int×Bool:=b2z N w2 w3 w5 w10 w12 w13 w14 (fun p=>p)
def d8b:=(d8a N).c0 (c5s N) 38 100 [0,1,2,6,7,10,11,12] [0] ⟨[(0,cL 3),(1,cI),(2,.c (.f 85 [(0,0)])),(6,cI),(7,cI),(8,cI),(10,cL 3),(11,cI),(12,cI),(53,cB)],[(0,bX8)]⟩ (fun L _=>b2z N (li L 2) (li L 3) (li L 5) (lb L 10) (li L 12) (li L 13) (lb L 14)) (fun s m L p=>(.normal,m [] [(0,.box [.i .i64 (li L 11),.i .i64 p.1,.i .i64 p.2.1,.b p.2.2])])) fun _ _=>by unfold b2z;exact kk
def b4g (w1:LD) (w2:Int) (w6:LD) (w7:Int) (w3 w4 w8 w10 w11:Int) (w12:Bool) (kr:Int→Int→Int→Int→Int→Bool→Option R) (k0:Int×Int×Bool→Option R):Option R:=
 bif (decide (w8<w7)) then
  bif (inB w8 w6.length) then
   bnd (IntKind.wrap .i64 (w3+(max2 (w6.getD w8.toNat (.i 0)).toI 0))) fun y0=>
   bnd (b7l N w4 (decide ((w6.getD w8.toNat (.i 0)).toI<0))) fun y1=>
   bnd (b7n N w1 w2 y0 y1 w8 (decide (w8≥w2))) fun y2=>
   bif y2.isSome then
    bnd (bif (decide (w8≥(IntKind.wrap .i64 (w2-1)))) then ((y2.getD default).2==0) else false) fun y3=>
    bnd (b7o N w2 (y2.getD default).1 w8 y3 w10 w11 w12) fun y4=>
    kr (y2.getD default).1 (y2.getD default).2 (IntKind.wrap .i64 (w8+1)) y4.1 y4.2.1 y4.2.2
   else
    none
  else
   none
 else
  k0 (w10,w11,w12)
def b0R (N:Nat) {R:Type} (w1:LD) (w2:Int) (w6:LD) (w7:Int):Nat→Int→Int→Int→Int→Int→Bool→(Int×Int×Bool→Option R)→Option R
 |0,_,_,_,_,_,_,_=>none
 |m+1,w3,w4,w8,w10,w11,w12,k0=>b4g N w1 w2 w6 w7 w3 w4 w8 w10 w11 w12 (fun w3 w4 w8 w10 w11 w12=>b0R N w1 w2 w6 w7 m w3 w4 w8 w10 w11 w12 k0) k0
def c77 (w1:LD) (w2:Int) (w6:LD) (w7:Int) (w3 w4 w8 w10 w11:Int) (w12:Bool):Option (Int×Int×Bool):=b0R N (R:=(Int×Int×Bool)) w1 w2 w6 w7 N w3 w4 w8 w10 w11 w12 some
def d8c:=(d8b N).l1 (c5s N) 6 [3,4,8,10,11,12] [] [0] ⟨[(0,cL 3),(1,cI),(2,.c (.f 85 [(0,0)])),(6,cI),(7,cI),(10,cL 3),(11,cI),(12,cI)],[(0,bX8)]⟩ N (fun L x _ kr=>b4g N (ll L 1) (li L 2) (ll L 6) (li L 7) (li x 0) (li x 1) (li x 2) (li x 3) (li x 4) (lb x 5) (fun w3 w4 w8 w10 w11 w12=>kr [.i w3,.i w4,.i w8,.i w10,.i w11,.b w12])) (fun L m x=>b0R N (ll L 1) (li L 2) (ll L 6) (li L 7) m (li x 0) (li x 1) (li x 2) (li x 3) (li x 4) (lb x 5) some) (fun s m L p=>((.exit 0),⟨[],[(0,.box [.i .i64 (li L 9),.i .i64 p.1,.i .i64 p.2.1,.b p.2.2])]⟩)) fun _ _ _ _ _=>by unfold b4g;exact bb
def d1K (v1:LD) (v2 v4 v5:Int) (k0:Int×Int×Bool→Option R):Option R:=
 bnd (c77 N v1 v2 v1 (v1.length:Int) 0 0 0 v4 v5 false) fun y0=>
 bif y0.isSome then
  k0 (y0.getD default)
 else
  none
def e1H (v1:LD) (v2 v4 v5:Int):Option (Int×Int×Bool):=d1K N v1 v2 v4 v5 some
def e4o:=(d8c N).f1 (c5s N) ⟨[(0,cL 3),(1,cI),(2,.c (.f 85 [(0,0)]))],[(0,.box ([.i .i64,.i .i64,.i .i64,.k false]))]⟩ (fun L _=>d1K N (ll L 1) (li L 2) (li L 4) (li L 5)) (fun L p=>([],[(0,.box [.i .i64 (li L 3),.i .i64 p.1,.i .i64 p.2.1,.b p.2.2])])) fun _ _=>by unfold d1K;exact bb
def d8d (N:Nat):Sg Tryz.prog 0 43:= .start [] [(0,[1,0]),(1,[1,0,4]),(2,[0,1,5,4]),(3,[5,4])]
def d1L (v1:LD) (v2:Int) (k0:Int×Int×Bool→Option R):Option R:=
 bnd (e1H N v1 v2 0 0) fun y0=>
 bif y0.isSome then
  k0 (y0.getD default)
 else
  none
def d8e (v1:LD) (v2:Int):Option (Int×Int×Bool):=d1L N v1 v2 some
def e1I:=(d8d N).f1 (e4o N) ⟨[(0,cL 3),(1,cI)],[]⟩ (fun L _=>d1L N (ll L 1) (li L 2)) (fun L p=>([.g [.i .i64 (li L 2),.i .i64 p.1,.i .i64 p.2.1,.b p.2.2]],[])) fun _ _=>by unfold d1L;exact bb
def d8f (N:Nat):Sg Tryz.prog 0 31:= .start [(18,[0,7,19,20,21],[7],[7])] [(0,[0,1]),(1,[0,1]),(2,[6,1,0]),(3,[6]),(4,[1,0]),(5,[1,7,0]),(6,[21,20,19,7,0]),(7,[19,21,7,0,20]),(8,[7,0,9,21,20,19]),(9,[21,20,19,7,0]),(10,[7])]
def a9F (w1 w3:LD) (w4:Int) (w5:Int) (w6:Bool) (w7:LD) (kr:Int→Bool→LD→Option R) (k0:Bool×LD→Option R):Option R:=
 bif (decide (w5<w4)) then
  bif (inB w5 w3.length) then
   bnd (d8e N w1 (w3.getD w5.toNat (.i 0)).toI) fun y0=>
   bif y0.isSome then
    bif (decide ((w7.length+1)*32≤a0X)&&decide ((w7.length+1)≤a0c)) then
     bnd ((w7++[(.a [(.i (w3.getD w5.toNat (.i 0)).toI),(.i (y0.getD default).1),(.i (y0.getD default).2.1),(.b (y0.getD default).2.2)])]):List D) fun y1=>
     kr (IntKind.wrap .i64 (w5+1)) false y1
    else
     none
   else
    none
  else
   none
 else
  k0 (w6,w7)
def a7u (N:Nat) {R:Type} (w1 w3:LD) (w4:Int):Nat→Int→Bool→LD→(Bool×LD→Option R)→Option R
 |0,_,_,_,_=>none
 |m+1,w5,w6,w7,k0=>a9F N w1 w3 w4 w5 w6 w7 (fun w5 w6 w7=>a7u N w1 w3 w4 m w5 w6 w7 k0) k0
def c3r (w1 w3:LD) (w4:Int) (w5:Int) (w6:Bool) (w7:LD):Option (Bool×LD):=a7u N (R:=(Bool×LD)) w1 w3 w4 N w5 w6 w7 some
def d8g:=(d8f N).l1 (e1I N) 18 [5,6,7] [4,5,7] [7] ⟨[(0,cL 3),(7,cO 7),(19,cL 3),(20,cI),(21,cI)],[(7,.row 58 true)]⟩ N (fun L x _ kr=>a9F N (ll L 1) (ll L 3) (li L 4) (li x 0) (lb x 1) (ll x 2) (fun w5 w6 w7=>kr [.i w5,.b w6,.l w7])) (fun L m x=>a7u N (ll L 1) (ll L 3) (li L 4) m (li x 0) (lb x 1) (ll x 2) some) (fun s m L p=>((.exit 0),⟨[(7,.c (.o 7))],[(7,.row 58 true p.1 p.2)]⟩)) fun _ _ _ _ _=>by unfold a9F;exact bb
def d1M (v1 v3:LD) (k0:Bool×LD×Int→Option R):Option R:=
 bnd (d7Z N v1) fun y0=>
 bif y0.isSome then
  bnd (d1G N v3) fun y1=>
  bif y1.isSome then
   bnd (d1I N [(.i (y0.getD default)),(.i (y1.getD default))]) fun y2=>
   bif y2.isSome then
    bif ((y2.getD default) !=0) then
     k0 (true,[],(y2.getD default))
    else
     bnd (c3r N v1 v3 (v3.length:Int) 0 true []) fun y3=>
     bif y3.isSome then
      k0 ((y3.getD default).1,(y3.getD default).2,0)
     else
      none
   else
    none
  else
   none
 else
  none
def d1N (v1 v3:LD):Option (Bool×LD×Int):=d1M N v1 v3 some
def e4p:=(d8g N).f1 (e1I N) ⟨[(0,cL 3),(1,cL 3)],[]⟩ (fun L _=>d1M N (ll L 1) (ll L 3)) (fun L p=>([.c (.sl 58 p.1 p.2.1),.c (.i .i64 p.2.2)],[])) fun _ _=>by unfold d1M;exact bb
def d8h (N:Nat):Sg Tryz.prog 0 32:= .start [] [(0,[0,1]),(1,[2,1]),(2,[6,1,2]),(3,[6]),(4,[1,2]),(5,[]),(6,[2,1])]
def d1O (v0:LB) (v1 v2:Int) (v4 v6 v8:LD) (v9:Int) (k0:Bool×LD×Int→Option R):Option R:=
 bnd (b1Q N v0 v1 v2 v4 v6 v8) fun y0=>
 bif y0.isSome then
  bif ((y0.getD default) !=0) then
   k0 (true,[],(y0.getD default))
  else
   bnd (c1A N v9 1 5) fun y1=>
   bif (!y1) then
    k0 (true,[],7)
   else
    bnd (b9L N v4 v9) fun y2=>
    bif y2.isSome then
     k0 ((y2.getD default).1,(y2.getD default).2,0)
    else
     none
 else
  none
def d1P (v0:LB) (v1 v2:Int) (v4 v6 v8:LD) (v9:Int):Option (Bool×LD×Int):=d1O N v0 v1 v2 v4 v6 v8 v9 some
def e1J:=(d8h N).f1 (e4p N) ⟨[(0,gX4),(1,cI)],[]⟩ (fun L _=>d1O N (ls L 0) (li L 1) (li L 2) (ll L 4) (ll L 6) (ll L 8) (li L 9)) (fun L p=>([.c (.sl 3 p.1 p.2.1),.c (.i .i64 p.2.2)],[])) fun _ _=>by unfold d1O;exact bb
def d8i (N:Nat):Sg Tryz.prog 0 62:= .start [(9,[3,6,7,8],[3],[3])] [(0,[0]),(1,[0]),(2,[0,3]),(3,[8,7,6,3]),(4,[6,8,3,7]),(5,[3,5,8,7,6]),(6,[8,7,6,3]),(7,[3])] true
def b4h (N:Nat) (w1:LD) (w2:Int) (w3:Int) (w4:Bool) (w5:LD) (kr:Int→Bool→LD→Option R) (k0:Bool×LD→Option R):Option R:=
 bif (decide (w3<w2)) then
  bif (inB w3 w1.length) then
   bif (decide ((w5.length+1)*8≤a0X)&&decide ((w5.length+1)≤a0c)) then
    kr (IntKind.wrap .i64 (w3+1)) false (w5++[(.i ((w1.getD w3.toNat (.i 0)).cell 0).toI)])
   else
    none
  else
   none
 else
  k0 (w4,w5)
def b0S (N:Nat) {R:Type} (w1:LD) (w2:Int):Nat→Int→Bool→LD→(Bool×LD→Option R)→Option R
 |0,_,_,_,_=>none
 |m+1,w3,w4,w5,k0=>b4h N w1 w2 w3 w4 w5 (fun w3 w4 w5=>b0S N w1 w2 m w3 w4 w5 k0) k0
def c78 (w1:LD) (w2:Int) (w3:Int) (w4:Bool) (w5:LD):Option (Bool×LD):=b0S N (R:=(Bool×LD)) w1 w2 N w3 w4 w5 some
def d8j:=(d8i N).l1 (e1J N) 9 [3,4,5] [2,3] [3] ⟨[(3,cO 3),(6,cL 58),(7,cI),(8,cI)],[(3,.row 3 true)]⟩ N (fun L x _ kr=>b4h N (ll L 1) (li L 2) (li x 0) (lb x 1) (ll x 2) (fun w3 w4 w5=>kr [.i w3,.b w4,.l w5])) (fun L m x=>b0S N (ll L 1) (li L 2) m (li x 0) (lb x 1) (ll x 2) some) (fun s m L p=>((.exit 0),⟨[(3,.c (.o 3))],[(3,.row 3 true p.1 p.2)]⟩)) fun _ _ _ _ _=>by unfold b4h;exact bb
def d1Q (v1:LD) (k0:Bool×LD→Option R):Option R:=
 bnd (c78 N v1 (v1.length:Int) 0 true []) fun y0=>
 bif y0.isSome then
  k0 (y0.getD default)
 else
  none
def c79 (v1:LD):Option (Bool×LD):=d1Q N v1 some
def d8k:=(d8j N).f1 (e1J N) ⟨[(0,cL 58)],[]⟩ (fun L _=>d1Q N (ll L 1)) (fun L p=>([.c (.o 3)],[(3,.row 3 true p.1 p.2)])) fun _ _=>by unfold d1Q;exact bb
def d8l (N:Nat):Sg Tryz.prog 0 60:= .start [(15,[12,13,14],[],[]),(28,[5,12,13,14],[5],[])] [(0,[0]),(1,[0]),(2,[3,0]),(3,[3]),(4,[0]),(5,[14,13,12]),(6,[12,14,13]),(7,[5,14,13,12]),(9,[5,14,13,12]),(10,[]),(8,[]),(11,[14,13,12]),(12,[])]
def b2A (w4 w5 w6:Int) (w7:Bool) (k0:Bool→R):R:=
 bif w7 then
  bnd (c1A N w5 0 (IntKind.wrap .i64 (w4*1000000000))) fun y0=>
  bif (!y0) then
   k0 true
  else
   bnd (c1A N w6 0 (IntKind.wrap .i64 (1000000-w4))) fun y1=>
   k0 (!y1)
 else
  k0 false
def c3s (w4 w5 w6:Int) (w7:Bool):Bool:=b2A N w4 w5 w6 w7 (fun p=>p)
def d8m:=(d8l N).c0 (d8k N) 28 100 [12,13,14,32] [] ⟨[(5,cP 5),(12,cL 58),(13,cI),(14,cI)],[(5,bX8)]⟩ (fun L _=>b2A N (li L 4) (li L 5) (li L 6) (lb L 7)) (fun s m L p=>(.normal,m [(32,.c (.b p))] [])) fun _ _=>by unfold b2A;exact kk
def a7v (w1:LD) (w2:Int) (w3:Int) (kr:Int→Option R) (k0:Int→Option R) (k1:Unit→Option R):Option R:=
 bif (decide (w3<w2)) then
  bif (inB w3 w1.length) then
   bnd (bif (!((w1.getD w3.toNat (.i 0)).cell 3).toB) then (bif (((w1.getD w3.toNat (.i 0)).cell 1).toI !=0) then true else (((w1.getD w3.toNat (.i 0)).cell 2).toI !=0)) else false) fun y0=>
   bif y0 then
    k0 2
   else
    bnd (c3s N ((w1.getD w3.toNat (.i 0)).cell 0).toI ((w1.getD w3.toNat (.i 0)).cell 1).toI ((w1.getD w3.toNat (.i 0)).cell 2).toI ((w1.getD w3.toNat (.i 0)).cell 3).toB) fun y1=>
    bif y1 then
     k0 9
    else
     kr (IntKind.wrap .i64 (w3+1))
  else
   none
 else
  k1 ()
def b2B (N:Nat) {R:Type} (w1:LD) (w2:Int):Nat→Int→(Int→Option R)→(Unit→Option R)→Option R
 |0,_,_,_=>none
 |m+1,w3,k0,k1=>a7v N w1 w2 w3 (fun w3=>b2B N w1 w2 m w3 k0 k1) k0 k1
def b7p (w1:LD) (w2:Int) (w3:Int):Option (Sum (Int) (Unit)):=b2B N (R:=(Sum (Int) (Unit))) w1 w2 N w3 (fun p=>some (.inl p)) (fun p=>some (.inr p))
def d8n:=(d8m N).l2 (d8k N) 15 [3] [2] [] ⟨[(12,cL 58),(13,cI),(14,cI)],[]⟩ N (fun L x _ kr=>a7v N (ll L 1) (li L 2) (li x 0) (fun w3=>kr [.i w3])) (fun L m x=>b2B N (ll L 1) (li L 2) m (li x 0) (fun p=>some (.inl p)) (fun p=>some (.inr p))) (fun s m L p=>(.ret,⟨[(2,.c (.i .i64 p))],[]⟩)) (fun s m L _=>((.exit 0),⟨[],[]⟩)) fun _ _ _ _ _ _=>by unfold a7v;exact bb
def d1R (v1:LD) (k0:Int→Option R):Option R:=
 bnd (c79 N v1) fun y0=>
 bif y0.isSome then
  bnd (d1G N (y0.getD default).2) fun y1=>
  bif y1.isSome then
   bif ((y1.getD default) !=0) then
    k0 (y1.getD default)
   else
    bnd (b7p N v1 (v1.length:Int) 0) fun y2=>
    bif (a0U y2) then
     k0 (a1E y2)
    else
     bif (a0n y2).isSome then
      k0 0
     else
      none
  else
   none
 else
  none
def d1S (v1:LD):Option (Int):=d1R N v1 some
def e4q:=(d8n N).f1 (d8k N) ⟨[(0,cL 58)],[]⟩ (fun L _=>d1R N (ll L 1)) (fun L p=>([.c (.i .i64 p)],[])) fun _ _=>by unfold d1R;exact bb
def e1K (N:Nat) (L:List Lf):List (Bool×Res):=b6J L
theorem d8o:c1d Tryz.prog 100 b9t (e1K N):=c5m
def e1L:Oc Tryz.prog:=(e4q N).x (d8o N)
def e1M (N:Nat) (L:List Lf):List (Bool×Res):=a8q L
theorem d8p:c1d Tryz.prog 101 b1y (e1M N):=b6K
def c8a:Oc Tryz.prog:=(e1L N).x (d8p N)
def c8b (N:Nat):Sg Tryz.prog 1 61:= .start [] [(0,[0,1]),(1,[0,1]),(2,[0])] true
def c5t (N:Nat) (v0:Bool) (v1:LD) (k0:LD→Option R):Option R:=
 bif (a7c v1) then
  bif (!v0) then
   k0 (a2s (a7b v1))
  else
   none
 else
  none
def c8c (v0:Bool) (v1:LD):Option (LD):=c5t N v0 v1 some
theorem d1T (v0:Bool) (v1:LD) (k0:LD→Option R):c5t N v0 v1 k0=(c8c N v0 v1).bind k0:=by
 unfold c8c c5t
 repeat' (first|with_reducible apply a6a|(with_reducible apply b1M;intro _)|rfl)
def d4D:Sh:={tmps:=[(0,cO 0),(1,.c (.f 63 []))],mem:=[(0,.row 3 true)]}
def c8d (L:List Lf) (p:LD):Res:=([.c (.o 10000000002)],[(10000000002,.row 3 true false p)])
def e4r (L:List Lf):List (Bool×Res):=bnd (c5t N (lb L 0) (ll L 1) some) fun q=>[(q.isSome,c8d L (q.getD default))]
theorem d8q (L:List Lf):bd Tryz.prog (c8a N).o (c8b N).h 61 d4D L=c5t N (lb L 0) (ll L 1) (fun p=>some (c8d L p)):=(e0Y 1 rfl).trans (by kernel_rfl)
def e1N (L:List Lf):List (Bool×Res):=e3e 10000000002 999 ((e4r N) L)
theorem e1O:c1d Tryz.prog 61 d4D (e1N N):=
 (c8b N).fnR 10000000002 999 rfl rfl a6d (c8a N).ok fun L x hx=>((d8q N L).trans ((d1T N ..).trans (b8i x hx)))
def e4s:Oc Tryz.prog:=(c8a N).x (e1O N)
def d1U (N:Nat):Sg Tryz.prog 0 102:= .start [] [(0,[0]),(1,[0])]
def c8e (N:Nat) (v0:Int) (k0:Bool→R):R:=
 k0 (v0 !=v0)
def c8f (v0:Int):Bool:=c8e N v0 (fun p=>p)
def e1P:=(d1U N).f0 (e4s N) ⟨[(0,cI)],[]⟩ (fun L _=>c8e N (li L 0)) (fun L p=>([.c (.b p)],[])) fun _ _=>by unfold c8e;exact kk
def d8r (N:Nat):Sg Tryz.prog 0 63:= .start [] [(0,[0,1]),(1,[0,1]),(2,[1,5,0]),(3,[5,6,0,1]),(4,[6]),(5,[]),(6,[]),(7,[6,0,1]),(8,[]),(9,[0,1]),(10,[]),(11,[0,1]),(12,[]),(13,[])]
def d1V (v0 v1:Int) (k0:Int→R):R:=
 bnd (c8f N v0) fun y0=>
 bnd (c8f N v1) fun y1=>
 bif y0 then
  bif y1 then
   k0 0
  else
   k0 (-1)
 else
  bif y1 then
   k0 1
  else
   bif (decide (v0<v1)) then
    k0 (-1)
   else
    bif (decide (v0>v1)) then
     k0 1
    else
     k0 0
def e1Q (v0 v1:Int):Int:=d1V N v0 v1 (fun p=>p)
def e4t:=(d8r N).f0 (e1P N) ⟨[(0,cI),(1,cI)],[]⟩ (fun L _=>d1V N (li L 0) (li L 1)) (fun L p=>([.c (.i .i64 p)],[])) fun _ _=>by unfold d1V;exact kk
def d1W (N:Nat):Sg Tryz.prog 0 104:= .start [] [(0,[0,1]),(1,[2,1])]
def c3t (v0 v4:Int) (k0:Int→R):R:=
 bnd (e1Q N v0 v4) fun y0=>
 k0 y0
def c3u (v0 v4:Int):Int:=c3t N v0 v4 (fun p=>p)
def c3v:=(d1W N).f0 (e4t N) ⟨[(0,.g ([.i .i64,.i .i64,.i .i64,.b])),(1,cI)],[]⟩ (fun L _=>c3t N (li L 0) (li L 4)) (fun L p=>([.c (.i .i64 p)],[])) fun _ _=>by unfold c3t;exact kk
def d1X (N:Nat):Sg Tryz.prog 0 103:= .start [(9,[0,1,2,8,9,10],[],[]),(21020,[0,1,2,8,9,10,11,31],[],[]),(25,[0,1,2,8,9],[],[])] [(0,[0,2,1]),(1,[0,2,1]),(2,[8,2,0,1]),(3,[9,10,2,0,1,8]),(4,[9,10,2,0,1,8]),(5,[2,0,11,1,10,8,9]),(7,[11,9,2,0,1,8]),(6,[11,10,2,0,1,8]),(8,[9,8,2,0,1])]
def a4F (N:Nat) (w4 w5 w6:Int) (w7:Bool) (k0:Int×Int→R):R:=
 bif w7 then
  k0 ((IntKind.wrap .i64 (w6+1)),w5)
 else
  k0 (w4,w6)
def b1z (w4 w5 w6:Int) (w7:Bool):Int×Int:=a4F N w4 w5 w6 w7 (fun p=>p)
def d1Y:=(d1X N).c0 (c3v N) 21020 100 [0,1,2,8,9,10] [] ⟨[(0,cL 58),(1,cI),(2,.c (.f 104 [])),(8,cI),(9,cI),(10,cI),(11,cI),(31,cB)],[]⟩ (fun L _=>a4F N (li L 4) (li L 5) (li L 6) (lb L 7)) (fun s m L p=>(.normal,m [(9,.c (.i .i64 p.1)),(10,.c (.i .i64 p.2))] [])) fun _ _=>by unfold a4F;exact kk
def a7w (w1:LD) (w2:Int) (w4 w5:Int) (kr:Int→Int→Option R) (k0:Int→Option R):Option R:=
 bif (decide (w4<w5)) then
  bnd ((IntKind.wrap .u64 (IntKind.wrap .i64 (w4+w5))).fdiv (2^1)) fun y0=>
  bif (inB (IntKind.wrap .i64 y0) w1.length) then
   bnd ((w1.getD (IntKind.wrap .i64 y0).toNat (.i 0)).cell 0).toI fun y1=>
   bnd ((w1.getD (IntKind.wrap .i64 y0).toNat (.i 0)).cell 1).toI fun y2=>
   bnd ((w1.getD (IntKind.wrap .i64 y0).toNat (.i 0)).cell 2).toI fun y3=>
   bnd ((w1.getD (IntKind.wrap .i64 y0).toNat (.i 0)).cell 3).toB fun y4=>
   bnd (c3u N y1 w2) fun y5=>
   bnd (b1z N w4 w5 (IntKind.wrap .i64 y0) (decide (y5<0))) fun y6=>
   kr y6.1 y6.2
  else
   none
 else
  k0 w4
def a5X (N:Nat) {R:Type} (w1:LD) (w2:Int):Nat→Int→Int→(Int→Option R)→Option R
 |0,_,_,_=>none
 |m+1,w4,w5,k0=>a7w N w1 w2 w4 w5 (fun w4 w5=>a5X N w1 w2 m w4 w5 k0) k0
def c3w (w1:LD) (w2:Int) (w4 w5:Int):Option (Int):=a5X N (R:=(Int)) w1 w2 N w4 w5 some
def d1Z:=(d1Y N).l1 (c3v N) 9 [4,5] [0,1,2,6,7,8,9] [] ⟨[(0,cL 58),(1,cI),(2,.c (.f 104 [])),(8,cI),(9,cI),(10,cI)],[]⟩ N (fun L x _ kr=>a7w N (ll L 1) (li L 2) (li x 0) (li x 1) (fun w4 w5=>kr [.i w4,.i w5])) (fun L m x=>a5X N (ll L 1) (li L 2) m (li x 0) (li x 1) some) (fun s m L p=>((.exit 0),mg s [0,1,2,8,9] [(9,.c (.i .i64 p))] [] [])) fun _ _ _ _ _=>by unfold a7w;exact bb
def a9G (w1:LD) (w2 w3 w4:Int) (k0:Bool→Option R):Option R:=
 bif (bif (inB w4 w1.length) then true else (!((decide (w4<w3))==true))) then
  bif (decide (w4<w3)) then
   bnd (c3u N ((w1.getD w4.toNat (.i 0)).cell 0).toI w2) fun y0=>
   k0 (y0==0)
  else
   k0 false
 else
  none
def b4i (w1:LD) (w2 w3 w4:Int):Option (Bool):=a9G N w1 w2 w3 w4 some
def d10:=(d1Z N).c1 (c3v N) 25 100 [6,7] [] ⟨[(0,cL 58),(1,cI),(2,.c (.f 104 [])),(8,cI),(9,cI)],[]⟩ (fun L _=>a9G N (ll L 1) (li L 2) (li L 3) (li L 4)) (fun s m L p=>(.normal,⟨[(6,.c (.i .i64 (li L 4))),(7,.c (.b p))],[]⟩)) fun _ _=>by unfold a9G;exact bb
def c3x (v1:LD) (v2:Int) (k0:Int×Bool→Option R):Option R:=
 bnd (c3w N v1 v2 0 (v1.length:Int)) fun y0=>
 bif y0.isSome then
  bnd (b4i N v1 v2 (v1.length:Int) (y0.getD default)) fun y1=>
  bif y1.isSome then
   k0 ((y0.getD default),(y1.getD default))
  else
   none
 else
  none
def d4E (v1:LD) (v2:Int):Option (Int×Bool):=c3x N v1 v2 some
def e1R:=(d10 N).f1 (c3v N) ⟨[(0,cL 58),(1,cI),(2,.c (.f 104 []))],[]⟩ (fun L _=>c3x N (ll L 1) (li L 2)) (fun L p=>([.c (.i .i64 p.1),.c (.b p.2)],[])) fun _ _=>by unfold c3x;exact bb
def d8s (N:Nat):Sg Tryz.prog 0 64:= .start [] [(0,[0,1]),(1,[0,1,4]),(2,[7,4,0,6]),(3,[4]),(4,[0,6,4])]
def d11 (v1:LD) (v2:Int) (k0:Int×Int×Int×Bool×Bool→Option R):Option R:=
 bnd (d4E N v1 v2) fun y0=>
 bif y0.isSome then
  bif (!(y0.getD default).2) then
   k0 (0,0,0,false,false)
  else
   bif (inB (y0.getD default).1 v1.length) then
    bnd ((v1.getD (y0.getD default).1.toNat (.i 0)).cell 0).toI fun y1=>
    bnd ((v1.getD (y0.getD default).1.toNat (.i 0)).cell 1).toI fun y2=>
    bnd ((v1.getD (y0.getD default).1.toNat (.i 0)).cell 2).toI fun y3=>
    bnd ((v1.getD (y0.getD default).1.toNat (.i 0)).cell 3).toB fun y4=>
    k0 (y1,y2,y3,y4,true)
   else
    none
 else
  none
def d12 (v1:LD) (v2:Int):Option (Int×Int×Int×Bool×Bool):=d11 N v1 v2 some
def e4u:=(d8s N).f1 (e1R N) ⟨[(0,cL 58),(1,cI)],[]⟩ (fun L _=>d11 N (ll L 1) (li L 2)) (fun L p=>([.g [.i .i64 p.1,.i .i64 p.2.1,.i .i64 p.2.2.1,.b p.2.2.2.1],.c (.b p.2.2.2.2)],[])) fun _ _=>by unfold d11;exact bb
def d8t (N:Nat):Sg Tryz.prog 0 65:= .start [] [(0,[0,1]),(1,[2,3])]
def d8u (N:Nat) (v1:Int) (v3:Bool) (v5:Int) (v7:Bool) (k0:Bool→R):R:=
 bnd (bif v3 then (bif (!v7) then true else (decide (v1>v5))) else false) fun y0=>
 k0 y0
def e4v (v1:Int) (v3:Bool) (v5:Int) (v7:Bool):Bool:=d8u N v1 v3 v5 v7 (fun p=>p)
def d13:=(d8t N).f0 (e4u N) ⟨[(0,.g ([.i .i64,.i .i64,.i .i64,.b])),(1,.g ([.i .i64,.i .i64,.i .i64,.b]))],[]⟩ (fun L _=>d8u N (li L 1) (lb L 3) (li L 5) (lb L 7)) (fun L p=>([.c (.b p)],[])) fun _ _=>by unfold d8u;exact kk
def d8v (N:Nat):Sg Tryz.prog 0 33:= .start [(18,[0,1,7,28,29,30],[7,29000000999],[7]),(31,[0,1,7,10,11,12,13,28,29,30],[7,10,12,29000000999],[]),(35,[0,1,7,10,12,28,29,30,55],[7,10,12,29000000999],[])] [(0,[0,1]),(1,[0,1]),(2,[6,0,1]),(3,[6]),(4,[0,1]),(5,[0,1,7]),(6,[30,29,28,0,1,7]),(7,[28,30,0,1,7,29]),(8,[0,9,1,7,30,29,28]),(9,[1,9,11,10,7,30,29,28,0]),(10,[11,13,12,10,7,30,29,28,0,1]),(11,[12,10,7,30,29,28,0,1]),(12,[7,10,30,29,28,0,1]),(13,[30,29,28,0,1,7]),(14,[7]),(15,[]),(16,[7])]
def b7q (w4 w5:Bool) (w11:Int) (w13:Bool) (w15:Int) (w17:Bool) (k0:Bool→R):R:=
 bif (!w4) then
  k0 true
 else
  bif w5 then
   bnd (e4v N w15 w17 w11 w13) fun y0=>
   k0 y0
  else
   k0 false
def a7x (w4 w5:Bool) (w11:Int) (w13:Bool) (w15:Int) (w17:Bool):Bool:=b7q N w4 w5 w11 w13 w15 w17 (fun p=>p)
def d8w:=(d8v N).c0 (d13 N) 31 100 [0,1,7,10,12,28,29,30,55] [7,10,12,29000000999] ⟨[(0,cL 58),(1,cL 58),(7,cO 7),(10,cP 10),(11,cB),(12,cP 12),(13,cB),(28,cO 29000000999),(29,cI),(30,cI)],[(7,.row 58 true),(10,bX8),(12,bX8),(29000000999,.row 3 true)]⟩ (fun L _=>b7q N (lb L 4) (lb L 5) (li L 11) (lb L 13) (li L 15) (lb L 17)) (fun s m L p=>(.normal,m [(55,.c (.b p))] [])) fun _ _=>by unfold b7q;exact kk
def b2C (N:Nat) (w6:Bool) (w9 w10 w11:Int) (w12:Bool) (w13 w14 w15:Int) (w16:Bool) (k0:Int×Int×Int×Bool→R):R:=
 bif w6 then
  k0 (w13,w14,w15,w16)
 else
  k0 (w9,w10,w11,w12)
def a7y (w6:Bool) (w9 w10 w11:Int) (w12:Bool) (w13 w14 w15:Int) (w16:Bool):Int×Int×Int×Bool:=b2C N w6 w9 w10 w11 w12 w13 w14 w15 w16 (fun p=>p)
def d8x:=(d8w N).c0 (d13 N) 35 100 [0,1,7,10,28,29,30] [7,10,29000000999] ⟨[(0,cL 58),(1,cL 58),(7,cO 7),(10,cP 10),(12,cP 12),(28,cO 29000000999),(29,cI),(30,cI),(55,cB)],[(7,.row 58 true),(10,bX8),(12,bX8),(29000000999,.row 3 true)]⟩ (fun L _=>b2C N (lb L 6) (li L 9) (li L 10) (li L 11) (lb L 12) (li L 13) (li L 14) (li L 15) (lb L 16)) (fun s m L p=>(.normal,m [] [(10,.box [.i .i64 p.1,.i .i64 p.2.1,.i .i64 p.2.2.1,.b p.2.2.2])])) fun _ _=>by unfold b2C;exact kk
def a9H (w1 w3:LD) (w4:Int) (w9:LD) (w5:Int) (w6:Bool) (w7:LD) (kr:Int→Bool→LD→Option R) (k0:Bool×LD→Option R):Option R:=
 bif (decide (w5<w4)) then
  bif (inB w5 w9.length) then
   bif (decide (w5.toNat<w9.length)) then
    bnd (d12 N w1 (w9.getD w5.toNat (.i 0)).toI) fun y0=>
    bif y0.isSome then
     bnd (d12 N w3 (w9.getD w5.toNat (.i 0)).toI) fun y1=>
     bif y1.isSome then
      bnd (a7x N (y0.getD default).2.2.2.2 (y1.getD default).2.2.2.2 (y0.getD default).2.1 (y0.getD default).2.2.2.1 (y1.getD default).2.1 (y1.getD default).2.2.2.1) fun y2=>
      bnd (a7y N y2 (y0.getD default).1 (y0.getD default).2.1 (y0.getD default).2.2.1 (y0.getD default).2.2.2.1 (y1.getD default).1 (y1.getD default).2.1 (y1.getD default).2.2.1 (y1.getD default).2.2.2.1) fun y3=>
      bif (decide ((w7.length+1)*32≤a0X)&&decide ((w7.length+1)≤a0c)) then
       bnd ((w7++[(.a [(.i y3.1),(.i y3.2.1),(.i y3.2.2.1),(.b y3.2.2.2)])]):List D) fun y4=>
       kr (IntKind.wrap .i64 (w5+1)) false y4
      else
       none
     else
      none
    else
     none
   else
    none
  else
   none
 else
  k0 (w6,w7)
def a7z (N:Nat) {R:Type} (w1 w3:LD) (w4:Int) (w9:LD):Nat→Int→Bool→LD→(Bool×LD→Option R)→Option R
 |0,_,_,_,_=>none
 |m+1,w5,w6,w7,k0=>a9H N w1 w3 w4 w9 w5 w6 w7 (fun w5 w6 w7=>a7z N w1 w3 w4 w9 m w5 w6 w7 k0) k0
def c3y (w1 w3:LD) (w4:Int) (w9:LD) (w5:Int) (w6:Bool) (w7:LD):Option (Bool×LD):=a7z N (R:=(Bool×LD)) w1 w3 w4 w9 N w5 w6 w7 some
def d8y:=(d8x N).l1 (d13 N) 18 [5,6,7] [4,5,7] [7] ⟨[(0,cL 58),(1,cL 58),(7,cO 7),(28,cO 29000000999),(29,cI),(30,cI)],[(7,.row 58 true),(29000000999,.row 3 true)]⟩ N (fun L x _ kr=>a9H N (ll L 1) (ll L 3) (li L 4) (ll L 9) (li x 0) (lb x 1) (ll x 2) (fun w5 w6 w7=>kr [.i w5,.b w6,.l w7])) (fun L m x=>a7z N (ll L 1) (ll L 3) (li L 4) (ll L 9) m (li x 0) (lb x 1) (ll x 2) some) (fun s m L p=>((.exit 0),⟨[(7,.c (.o 7))],[(7,.row 58 true p.1 p.2)]⟩)) fun _ _ _ _ _=>by unfold a9H;exact bb
def c5u (v1 v3:LD) (k0:Bool×LD×Int→Option R):Option R:=
 bnd (d1S N v1) fun y0=>
 bif y0.isSome then
  bnd (d1S N v3) fun y1=>
  bif y1.isSome then
   bnd (d1I N [(.i (y0.getD default)),(.i (y1.getD default))]) fun y2=>
   bif y2.isSome then
    bif ((y2.getD default) !=0) then
     k0 (true,[],(y2.getD default))
    else
     bnd (c79 N v1) fun y3=>
     bif y3.isSome then
      bnd (c79 N v3) fun y4=>
      bif y4.isSome then
       bif (decide (((y3.getD default).2.length+(y4.getD default).2.length)*8≤a0X)&&decide (((y3.getD default).2.length+(y4.getD default).2.length)≤a0c)) then
        bnd ((y4.getD default).2.isEmpty&&(y3.getD default).1) fun y5=>
        bnd (c8c N y5 ((y3.getD default).2++(y4.getD default).2)) fun y6=>
        bif y6.isSome then
         bnd (c3y N v1 v3 ((y6.getD default).length:Int) (y6.getD default) 0 true []) fun y7=>
         bif y7.isSome then
          bif (decide (((y7.getD default).2.length:Int)>100)) then
           k0 (true,[],3)
          else
           k0 ((y7.getD default).1,(y7.getD default).2,0)
         else
          none
        else
         none
       else
        none
      else
       none
     else
      none
   else
    none
  else
   none
 else
  none
def c5v (v1 v3:LD):Option (Bool×LD×Int):=c5u N v1 v3 some
def e1S:=(d8y N).f1 (d13 N) ⟨[(0,cL 58),(1,cL 58)],[]⟩ (fun L _=>c5u N (ll L 1) (ll L 3)) (fun L p=>([.c (.sl 58 p.1 p.2.1),.c (.i .i64 p.2.2)],[])) fun _ _=>by unfold c5u;exact bb
def d8z (N:Nat):Sg Tryz.prog 0 13:= .start [(30,[3,4,14,44,45,46],[],[])] [(0,[0,1,2,3,4]),(1,[5,1,2,3,4]),(2,[13,3,4,12]),(4,[3,4,12]),(5,[]),(3,[13]),(6,[4,12,3]),(7,[13,12,3,4,14]),(8,[13]),(9,[12,3,4,14]),(10,[46,45,44,3,4,14]),(11,[44,46,3,4,14,45]),(12,[16,3,4,14,46,45,44]),(13,[17,4,14,46,45,44,3]),(14,[14,19,46,45,44,3,4]),(15,[46,45,44,3,4,14]),(16,[14])]
def a9I (w0:Int) (w2 w6:LD) (w7:Int) (w3:Bool) (w4:LD) (w8:Int) (kr:Bool→LD→Int→Option R) (k0:Bool×LD→Option R):Option R:=
 bif (decide (w8<w7)) then
  bif (inB w8 w6.length) then
   bnd (d1P N ((w6.getD w8.toNat (.i 0)).cell 0).toS ((w6.getD w8.toNat (.i 0)).cell 1).toI ((w6.getD w8.toNat (.i 0)).cell 2).toI ((w6.getD w8.toNat (.i 0)).cell 3).items ((w6.getD w8.toNat (.i 0)).cell 4).items ((w6.getD w8.toNat (.i 0)).cell 5).items w0) fun y0=>
   bif y0.isSome then
    bnd (d1N N (y0.getD default).2.1 w2) fun y1=>
    bif y1.isSome then
     bnd (c5v N w4 (y1.getD default).2.1) fun y2=>
     bif y2.isSome then
      kr (y2.getD default).1 (y2.getD default).2.1 (IntKind.wrap .i64 (w8+1))
     else
      none
    else
     none
   else
    none
  else
   none
 else
  k0 (w3,w4)
def a7A (N:Nat) {R:Type} (w0:Int) (w2 w6:LD) (w7:Int):Nat→Bool→LD→Int→(Bool×LD→Option R)→Option R
 |0,_,_,_,_=>none
 |m+1,w3,w4,w8,k0=>a9I N w0 w2 w6 w7 w3 w4 w8 (fun w3 w4 w8=>a7A N w0 w2 w6 w7 m w3 w4 w8 k0) k0
def c3z (w0:Int) (w2 w6:LD) (w7:Int) (w3:Bool) (w4:LD) (w8:Int):Option (Bool×LD):=a7A N (R:=(Bool×LD)) w0 w2 w6 w7 N w3 w4 w8 some
def d8A:=(d8z N).l1 (e1S N) 30 [3,4,8] [10,11,14] [] ⟨[(3,cI),(4,cL 3),(14,cL 58),(44,cL 36),(45,cI),(46,cI)],[]⟩ N (fun L x _ kr=>a9I N (li L 0) (ll L 2) (ll L 6) (li L 7) (lb x 0) (ll x 1) (li x 2) (fun w3 w4 w8=>kr [.b w3,.l w4,.i w8])) (fun L m x=>a7A N (li L 0) (ll L 2) (ll L 6) (li L 7) m (lb x 0) (ll x 1) (li x 2) some) (fun s m L p=>((.exit 1),⟨[(14,.c (.sl 58 p.1 p.2))],[]⟩)) fun _ _ _ _ _=>by unfold a9I;exact bb
def c8g (v1:LD) (v2:Int) (v4:LD) (v5:Int) (v7:LD) (k0:Bool×LD×Int→Option R):Option R:=
 bnd (b63 N v1 v2 v4) fun y0=>
 bif y0.isSome then
  bif ((y0.getD default).2.2 !=0) then
   k0 (true,[],(y0.getD default).2.2)
  else
   bnd (b1P N v5 1 5) fun y1=>
   bif (!y1) then
    k0 (true,[],7)
   else
    bnd (d1N N [] v7) fun y2=>
    bif y2.isSome then
     bif ((y2.getD default).2.2 !=0) then
      k0 (true,[],(y2.getD default).2.2)
     else
      bnd (c3z N v5 v7 (y0.getD default).2.1 ((y0.getD default).2.1.length:Int) (y2.getD default).1 (y2.getD default).2.1 0) fun y3=>
      bif y3.isSome then
       k0 ((y3.getD default).1,(y3.getD default).2,0)
      else
       none
    else
     none
 else
  none
def b0T (v1:LD) (v2:Int) (v4:LD) (v5:Int) (v7:LD):Option (Bool×LD×Int):=c8g N v1 v2 v4 v5 v7 some
def e4w:=(d8A N).f1 (e1S N) ⟨[(0,gX9),(1,cI),(2,cL 36),(3,cI),(4,cL 3)],[]⟩ (fun L _=>c8g N (ll L 1) (li L 2) (ll L 4) (li L 5) (ll L 7)) (fun L p=>([.c (.sl 58 p.1 p.2.1),.c (.i .i64 p.2.2)],[])) fun _ _=>by unfold c8g;exact bb
def d8B (N:Nat):Sg Tryz.prog 0 66:= .start [] [(0,[0]),(1,[0,2])] true
def e1T (N:Nat) (k0:Unit→R):R:=
 k0 ()
def e4x:=(d8B N).f0 (e4w N) ⟨[(0,cI)],[]⟩ (fun L _=>e1T N) (fun L _=>([.g [.i .i64 (li L 0),.i .i64 60,.i .i64 2]],[])) fun _ _=>by unfold e1T;exact kk
def d8C (N:Nat):Sg Tryz.prog 1 67:= .start [] [(0,[0,1,2,3])]
def d8D (N:Nat) (v0 v1:Int) (v2:Bool) (v3:LD) (v6:Bool) (k0:LD→R):R:=
 k0 [(.a [(.i 1),(.i v0),(.i 0),(.l false [(.a [(.b v6),(.i v1),(.l v2 v3)])]),(.l true [])])]
def e1U (v0 v1:Int) (v2:Bool) (v3:LD) (v6:Bool):LD:=d8D N v0 v1 v2 v3 v6 (fun p=>p)
def e4y:=(d8C N).f0 (e4x N) ⟨[(0,cP 0),(1,cI),(2,cI),(3,cL 144)],[(0,.box ([.nsl 154,.b]))]⟩ (fun L _=>d8D N (li L 0) (li L 1) (lb L 2) (ll L 3) (lb L 6)) (fun L p=>([],[(0,.box [.o 26,.b (lb L 6)]),(26,.row 154 true false p)])) fun _ _=>by unfold d8D;exact kk
def d14 (N:Nat):Sg Tryz.prog 0 105:= .start [] [(0,[1,0]),(1,[1,0]),(2,[0]),(3,[0])]
def c3A (N:Nat) (v0:Int) (v1:Bool) (k0:Int→Option R):Option R:=
 bif v1 then
  bif (decide (0≤(IntKind.wrap .i64 ((IntKind.wrap .i64 (8*v0))-1)))) then
   bnd (IntKind.wrap .i64 (1*2^(min (IntKind.wrap .i64 ((IntKind.wrap .i64 (8*v0))-1)).toNat 64))) fun y0=>
   k0 (IntKind.wrap .i64 (y0-1))
  else
   none
 else
  bif (decide (0≤(IntKind.wrap .i64 (8*v0)))) then
   bnd (IntKind.wrap .i64 (1*2^(min (IntKind.wrap .i64 (8*v0)).toNat 64))) fun y1=>
   k0 (IntKind.wrap .i64 (y1-1))
  else
   none
def b9M (v0:Int) (v1:Bool):Option (Int):=c3A N v0 v1 some
def d4F:=(d14 N).f1 (e4y N) ⟨[(0,cI),(1,cB)],[]⟩ (fun L _=>c3A N (li L 0) (lb L 1)) (fun L p=>([.c (.i .i64 p)],[])) fun _ _=>by unfold c3A;exact bb
def d15 (N:Nat):Sg Tryz.prog 1 110:= .start [(3,[0,2,3],[0],[])] [(0,[0]),(1,[2,3,0]),(3,[0,2,3]),(2,[2,3,0])]
def b7r (N:Nat) (w0 w1:Int) (w3:LD) (kr:Int→Int→LD→Option R) (k0:LD→Option R):Option R:=
 bif (decide (w0<w1)) then
  bif (inB w1 w3.length) then
   bif (decide (w1.toNat<w3.length)) then
    bif (inB w0 w3.length) then
     bif (decide (w0.toNat<w3.length)) then
      bif (inB w0 w3.length) then
       bif (decide (w0.toNat<w3.length)) then
        bif (inB w1 (w3.set w0.toNat (.i (w3.getD w1.toNat (.i 0)).toI)).length) then
         bif (decide (w1.toNat<(w3.set w0.toNat (.i (w3.getD w1.toNat (.i 0)).toI)).length)) then
          bnd (((w3.set w0.toNat (.i (w3.getD w1.toNat (.i 0)).toI)).set w1.toNat (.i (w3.getD w0.toNat (.i 0)).toI)):List D) fun y0=>
          kr (IntKind.wrap .i64 (w0+1)) (IntKind.wrap .i64 (w1-1)) y0
         else
          none
        else
         none
       else
        none
      else
       none
     else
      none
    else
     none
   else
    none
  else
   none
 else
  k0 w3
def b7s (N:Nat) {R:Type}:Nat→Int→Int→LD→(LD→Option R)→Option R
 |0,_,_,_,_=>none
 |m+1,w0,w1,w3,k0=>b7r N w0 w1 w3 (fun w0 w1 w3=>b7s N m w0 w1 w3 k0) k0
def d16 (w0 w1:Int) (w3:LD):Option (LD):=b7s N (R:=(LD)) N w0 w1 w3 some
def d17:=(d15 N).l1 (d4F N) 3 [0,1,3] [] [0] ⟨[(0,cO 0),(2,cI),(3,cI)],[(0,.row 5 true)]⟩ N (fun L x _ kr=>b7r N (li x 0) (li x 1) (ll x 2) (fun w0 w1 w3=>kr [.i w0,.i w1,.l w3])) (fun L m x=>b7s N m (li x 0) (li x 1) (ll x 2) some) (fun s m L p=>((.exit 0),⟨[],[(0,.row 5 true (lb L 2) p)]⟩)) fun _ _ _ _ _=>by unfold b7r;exact bb
def c8h (v1:LD) (k0:LD→Option R):Option R:=
 bnd (d16 N 0 (IntKind.wrap .i64 ((v1.length:Int)-1)) v1) fun y0=>
 bif y0.isSome then
  k0 (y0.getD default)
 else
  none
def e1V (v1:LD):Option (LD):=c8h N v1 some
def c8i:=(d17 N).f1 (d4F N) ⟨[(0,cO 0)],[(0,.row 5 true)]⟩ (fun L _=>c8h N (ll L 1)) (fun L p=>([],[(0,.row 5 true (lb L 0) p)])) fun _ _=>by unfold c8h;exact bb
def d8E (N:Nat):Sg Tryz.prog 0 75:= .start [(9,[0,2,7,12,13],[10],[]),(26,[7,25],[10],[])] [(0,[1,0,2]),(1,[1,0,2]),(2,[7,0,2]),(3,[13,12,7,0,2]),(4,[13,7,0,12,2]),(5,[7,8,0,13,12,2]),(6,[13,12,7,0,2]),(7,[2,7]),(8,[7]),(9,[7])]
def c1C (N:Nat) (w0 w2:Int) (w3:Int) (w5:LD) (kr:Int→LD→Option R) (k0:LD→Option R):Option R:=
 bif (decide (w3<w2)) then
  bif (decide (0≤(IntKind.wrap .i64 (8*w3)))) then
   bnd (IntKind.wrap .u8 (w0.fdiv (2^(min (IntKind.wrap .i64 (8*w3)).toNat 64)))) fun y0=>
   bif (inB w3 w5.length) then
    bif (decide (w3.toNat<w5.length)) then
     kr (IntKind.wrap .i64 (w3+1)) (w5.set w3.toNat (.i y0))
    else
     none
   else
    none
  else
   none
 else
  k0 w5
def c1D (N:Nat) {R:Type} (w0 w2:Int):Nat→Int→LD→(LD→Option R)→Option R
 |0,_,_,_=>none
 |m+1,w3,w5,k0=>c1C N w0 w2 w3 w5 (fun w3 w5=>c1D N w0 w2 m w3 w5 k0) k0
def d8F (w0 w2:Int) (w3:Int) (w5:LD):Option (LD):=c1D N (R:=(LD)) w0 w2 N w3 w5 some
def d8G:=(d8E N).l1 (c8i N) 9 [3,5] [2,6,7] [10] ⟨[(0,cI),(2,cB),(7,cO 10),(12,cI),(13,cI)],[(10,.row 5 true)]⟩ N (fun L x _ kr=>c1C N (li L 0) (li L 2) (li x 0) (ll x 1) (fun w3 w5=>kr [.i w3,.l w5])) (fun L m x=>c1D N (li L 0) (li L 2) m (li x 0) (ll x 1) some) (fun s m L p=>((.exit 0),mg s [2,7] [] [10] [(10,.row 5 true (lb L 4) p)])) fun _ _ _ _ _=>by unfold c1C;exact bb
def b7t (w0:Bool) (w2:LD) (k0:LD→Option R):Option R:=
 bif w0 then
  bnd (e1V N w2) fun y0=>
  bif y0.isSome then
   k0 (y0.getD default)
  else
   none
 else
  k0 w2
def d18 (w0:Bool) (w2:LD):Option (LD):=b7t N w0 w2 some
def d8H:=(d8G N).c1 (c8i N) 26 100 [7] [10] ⟨[(7,cO 10),(25,cB)],[(10,.row 5 true)]⟩ (fun L _=>b7t N (lb L 0) (ll L 2)) (fun s m L p=>(.normal,⟨[(7,.c (.o 10))],[(10,.row 5 true (lb L 1) p)]⟩)) fun _ _=>by unfold b7t;exact bb
def d8I (v0 v1:Int) (v2:Bool) (k0:LD→Option R):Option R:=
 bif (((decide (0≤v1))&&(decide (v1≤v1)))&&(decide (v1.toNat*1≤a0X)&&decide (v1.toNat≤a0c))) then
  bnd (d8F N v0 ((List.replicate v1.toNat ((.i 0):D)).length:Int) 0 (List.replicate v1.toNat ((.i 0):D))) fun y0=>
  bif y0.isSome then
   bnd (d18 N v2 (y0.getD default)) fun y1=>
   bif y1.isSome then
    k0 (y1.getD default)
   else
    none
  else
   none
 else
  none
def b7u (v0 v1:Int) (v2:Bool):Option (LD):=d8I N v0 v1 v2 some
def e1W:=(d8H N).f1 (c8i N) ⟨[(0,cI),(1,cI),(2,cB)],[]⟩ (fun L _=>d8I N (li L 0) (li L 1) (lb L 2)) (fun L p=>([.c (.sl 5 false p)],[])) fun _ _=>by unfold d8I;exact bb
def d8J (N:Nat):Sg Tryz.prog 2 69:= .start [(8,[0,1,2,14],[0,1],[])] [(0,[1,3,2,0]),(1,[1,3,2,0]),(2,[2,0]),(3,[1,2,0])]
def a8t (w0 w1:Int) (w2:Bool) (k0:Int→Option R):Option R:=
 bif w2 then
  bnd (b9M N w1 false) fun y0=>
  bif y0.isSome then
   k0 (y0.getD default)
  else
   none
 else
  k0 w0
def b4j (w0 w1:Int) (w2:Bool):Option (Int):=a8t N w0 w1 w2 some
def d8K:=(d8J N).c1 (e1W N) 8 100 [0,1,2] [0,1] ⟨[(0,cP 0),(1,cI),(2,cI),(14,cB)],[(0,e0v),(1,.row 154 true)]⟩ (fun L _=>a8t N (li L 0) (li L 1) (lb L 2)) (fun s m L p=>(.normal,m [(1,.c (.i .i64 p))] [])) fun _ _=>by unfold a8t;exact bb
def c1E (v0 v1:Int) (v2 v3:Bool) (k0:LD→Option R):Option R:=
 bnd (b4j N v0 v1 (bif (decide (v0<0)) then (!v2) else false)) fun y0=>
 bif y0.isSome then
  bnd (b7u N (y0.getD default) v1 v3) fun y1=>
  bif y1.isSome then
   k0 (y1.getD default)
  else
   none
 else
  none
def a5o (v0 v1:Int) (v2 v3:Bool):Option (LD):=c1E N v0 v1 v2 v3 some
def d4G:Sh:={tmps:=[(0,cP 0),(1,cI),(2,cI),(3,cB)],mem:=[(0,e0v),(1,.row 154 true)]}
def e4z:=(d8K N).f1 (e1W N) d4G (fun L _=>c1E N (li L 0) (li L 1) (lb L 2) (lb L 3)) (fun L p=>([.c (.sl 5 false p)],mgA (a16 d4G L).mem [] [0,1])) fun _ _=>by unfold c1E;exact bb
def d8L (N:Nat):Sg Tryz.prog 0 70:= .start [] [(0,[0]),(1,[0]),(2,[3,0]),(3,[3])]
def d8M (N:Nat) (v0:LB) (k0:LD→R):R:=
 bnd (((a0T v0).take 60++[(.i 0),(.i 0),(.i 0),(.i 0),(.i 0),(.i 0),(.i 0),(.i 0),(.i 0),(.i 0),(.i 0),(.i 0),(.i 0),(.i 0),(.i 0),(.i 0),(.i 0),(.i 0),(.i 0),(.i 0),(.i 0),(.i 0),(.i 0),(.i 0),(.i 0),(.i 0),(.i 0),(.i 0),(.i 0),(.i 0),(.i 0),(.i 0),(.i 0),(.i 0),(.i 0),(.i 0),(.i 0),(.i 0),(.i 0),(.i 0),(.i 0),(.i 0),(.i 0),(.i 0),(.i 0),(.i 0),(.i 0),(.i 0),(.i 0),(.i 0),(.i 0),(.i 0),(.i 0),(.i 0),(.i 0),(.i 0),(.i 0),(.i 0),(.i 0),(.i 0)].drop (a0T v0).length):List D) fun y0=>
 k0 y0
def d19 (v0:LB):LD:=d8M N v0 (fun p=>p)
def e1X:=(d8L N).f0 (e4z N) ⟨[(0,cS)],[]⟩ (fun L _=>d8M N (ls L 0)) (fun L p=>([.c (.sl 5 false p)],[])) fun _ _=>by unfold d8M;exact kk
def d8N (N:Nat):Sg Tryz.prog 2 68:= .start [(6,[0,6,11,12,13],[0,1,8,50008006],[50008004])] [(0,[1,2,0]),(1,[2,6,0]),(2,[13,12,11,6,0]),(3,[11,13,6,12,0]),(4,[6,8,13,12,11,0]),(5,[13,12,11,6,0]),(6,[0,6])]
def b4k (N:Nat) (w1:LD) (w2:Int) (w3:Int) (w12:Bool) (w13:LD) (kr:Int→Bool→LD→Option R) (k0:Bool×LD→Option R):Option R:=
 bif (decide (w3<w2)) then
  bif (inB w3 w1.length) then
   bif (decide ((w13.length+(w1.getD w3.toNat (.i 0)).items.length)*1≤a0X)&&decide ((w13.length+(w1.getD w3.toNat (.i 0)).items.length)≤a0c)) then
    kr (IntKind.wrap .i64 (w3+1)) ((w1.getD w3.toNat (.i 0)).items.isEmpty&&w12) (w13++(w1.getD w3.toNat (.i 0)).items)
   else
    none
  else
   none
 else
  k0 (w12,w13)
def b7v (N:Nat) {R:Type} (w1:LD) (w2:Int):Nat→Int→Bool→LD→(Bool×LD→Option R)→Option R
 |0,_,_,_,_=>none
 |m+1,w3,w12,w13,k0=>b4k N w1 w2 w3 w12 w13 (fun w3 w12 w13=>b7v N w1 w2 m w3 w12 w13 k0) k0
def c8j (w1:LD) (w2:Int) (w3:Int) (w12:Bool) (w13:LD):Option (Bool×LD):=b7v N (R:=(Bool×LD)) w1 w2 N w3 w12 w13 some
def d8O:=(d8N N).l1 (e1X N) 6 [3,12,13] [0,6] [0,1,8,50008006] ⟨[(0,cP 0),(6,cP 8),(11,cL 53),(12,cI),(13,cI)],[(0,e0v),(1,.row 154 true),(8,.box ([.i .i64,.i .i64,.i .i64,.sl 192,.o 50008006])),(50008006,.row 5 true)]⟩ N (fun L x _ kr=>b4k N (ll L 1) (li L 2) (li x 0) (lb x 1) (ll x 2) (fun w3 w12 w13=>kr [.i w3,.b w12,.l w13])) (fun L m x=>b7v N (ll L 1) (li L 2) m (li x 0) (lb x 1) (ll x 2) some) (fun s m L p=>((.exit 0),m [] [(50008006,.row 5 true p.1 p.2)])) fun _ _ _ _ _=>by unfold b4k;exact bb
def d2a (v0:Int) (v2 v5:LD) (k0:LD→Option R):Option R:=
 bnd (c8j N v2 (v2.length:Int) 0 true []) fun y0=>
 bif y0.isSome then
  bif (decide ((v5.length+1)*72≤a0X)&&decide ((v5.length+1)≤a0c)) then
   bnd ((v5++[(.a [(.i 2),(.i v0),(.i 0),(.l true []),(.l (y0.getD default).1 (y0.getD default).2)])]):List D) fun y1=>
   k0 y1
  else
   none
 else
  none
def b9N (v0:Int) (v2 v5:LD):Option (LD):=d2a N v0 v2 v5 some
def e4A:=(d8O N).f1 (e1X N) ⟨[(0,cP 0),(1,cI),(2,cL 53)],[(0,e0v),(1,.row 154 true)]⟩ (fun L _=>d2a N (li L 0) (ll L 2) (ll L 5)) (fun L p=>([],[(0,.box [.o 33,.b (lb L 3)]),(33,.row 154 true false p)])) fun _ _=>by unfold d2a;exact bb
def d8P (N:Nat):Sg Tryz.prog 2 67:= .start [] [(0,[0,1,2,3])]
def d2b (N:Nat) (v0 v1:Int) (v2:Bool) (v3:LD) (v4:Bool) (v6:LD) (k0:LD→Option R):Option R:=
 bif (decide ((v6.length+1)*72≤a0X)&&decide ((v6.length+1)≤a0c)) then
  bnd ((v6++[(.a [(.i 1),(.i v0),(.i 0),(.l false [(.a [(.b v4),(.i v1),(.l v2 v3)])]),(.l true [])])]):List D) fun y0=>
  k0 y0
 else
  none
def c5w (v0 v1:Int) (v2:Bool) (v3:LD) (v4:Bool) (v6:LD):Option (LD):=d2b N v0 v1 v2 v3 v4 v6 some
def d2c:=(d8P N).f1 (e4A N) ⟨[(0,cP 0),(1,cI),(2,cI),(3,cL 144)],[(0,e0v),(1,.row 154 true)]⟩ (fun L _=>d2b N (li L 0) (li L 1) (lb L 2) (ll L 3) (lb L 4) (ll L 6)) (fun L p=>([],[(0,.box [.o 27,.b (lb L 4)]),(27,.row 154 true false p)])) fun _ _=>by unfold d2b;exact bb
def d8Q (N:Nat):Sg Tryz.prog 2 71:= .start [(45,[0,4,43,44,45],[0,6,50000002,42000000029],[50000000]),(58,[0,4,9,10,11,12,43,44,45],[0,6,12,84,50000002],[]),(69062,[0,4,11,12,43,44,45,97],[0,6,84,50000002],[])] [(0,[1,2,0]),(1,[4,5,0]),(2,[5,0,4]),(3,[6,0,4]),(4,[20,6,0,4]),(5,[20,6,0,4]),(6,[6,7,20,0,4]),(7,[20,6,0,4]),(8,[6,0,4]),(9,[29,6,0,4]),(10,[29,6,0,4]),(11,[6,8,29,0,4]),(12,[29,6,0,4]),(13,[0,6,4]),(14,[4,0]),(15,[45,44,43,4,0]),(16,[45,43,4,0,44]),(17,[4,10,0,9,45,44,43]),(18,[0,11,10,9,4,45,44,43]),(19,[9,10,4,0,12,11,45,44,43]),(23,[0,12,45,44,43,4]),(20,[0,12,11,45,44,43,4]),(21,[0,11,45,44,43,4]),(22,[13,11,45,44,43,4,0]),(24,[45,44,43,4,0])]
def b2D (N:Nat) (w0:Int) (w11:LD) (w16:Int) (k0:Bool→Option R):Option R:=
 bif (decide (w0>0)) then
  bif (inB (IntKind.wrap .i64 (w0-1)) w11.length) then
   bnd ((w11.getD (IntKind.wrap .i64 (w0-1)).toNat (.i 0)).cell 0).toI fun y0=>
   k0 (decide ((IntKind.wrap .i64 (w16-y0))<32))
  else
   none
 else
  k0 false
def b7w (w0:Int) (w11:LD) (w16:Int):Option (Bool):=b2D N w0 w11 w16 some
def d8R:=(d8Q N).c1 (d2c N) 58 100 [0,4,11,12,43,44,45,97] [0,6,84,50000002] ⟨[(0,cP 0),(4,cP 6),(9,cI),(10,cP 12),(11,cI),(12,cO 84),(43,cL 42),(44,cI),(45,cI)],[(0,.box ([.o 50000002,.b])),(6,bX0),(12,bX1),(84,.row 53 true),(50000002,.row 154 true)]⟩ (fun L _=>b2D N (li L 0) (ll L 11) (li L 16)) (fun s m L p=>(.normal,m [(97,.c (.b p))] [])) fun _ _=>by unfold b2D;exact bb
def a5Y (w0:Int) (w5:Bool) (w17 w19:LD) (k0:LD→Option R) (k1:LD→Option R):Option R:=
 bif w5 then
  bif ((decide (1≤(w17.length:Int)))&&(decide ((w17.length:Int)≤(w17.length:Int)))) then
   bnd (b9N N 1 ((w17.take (w17.length:Int).toNat).drop 1) w19) fun y0=>
   bif y0.isSome then
    bnd (IntKind.wrap .i64 (((y0.getD default).length:Int)-1)) fun y1=>
    bif (inB y1 (y0.getD default).length) then
     bif (decide (y1.toNat<(y0.getD default).length)) then
      bnd (((y0.getD default).set y1.toNat (.a [(.i 3),(.i (((y0.getD default).getD y1.toNat (.i 0)).cell 1).toI),(.i (((y0.getD default).getD y1.toNat (.i 0)).cell 2).toI),(.l (((y0.getD default).getD y1.toNat (.i 0)).cell 3).isNil (((y0.getD default).getD y1.toNat (.i 0)).cell 3).items),(.l (((y0.getD default).getD y1.toNat (.i 0)).cell 4).isNil (((y0.getD default).getD y1.toNat (.i 0)).cell 4).items)])):List D) fun y2=>
      bif (decide (y1.toNat<y2.length)) then
       bnd ((y2.set y1.toNat (.a [(.i ((y2.getD y1.toNat (.i 0)).cell 0).toI),(.i ((y2.getD y1.toNat (.i 0)).cell 1).toI),(.i (w0.tmod 32)),(.l ((y2.getD y1.toNat (.i 0)).cell 3).isNil ((y2.getD y1.toNat (.i 0)).cell 3).items),(.l ((y2.getD y1.toNat (.i 0)).cell 4).isNil ((y2.getD y1.toNat (.i 0)).cell 4).items)])):List D) fun y3=>
       k0 y3
      else
       none
     else
      none
    else
     none
   else
    none
  else
   none
 else
  bnd (b9N N 1 w17 w19) fun y4=>
  bif y4.isSome then
   k1 (y4.getD default)
  else
   none
def a5Z (w0:Int) (w5:Bool) (w17 w19:LD):Option (Sum (LD) (LD)):=a5Y N w0 w5 w17 w19 (fun p=>some (.inl p)) (fun p=>some (.inr p))
def d8S:=(d8R N).c2 (d2c N) 69062 100 [0,4,43,44,45] [0,6,102000000035,126000000035] ⟨[(0,cP 0),(4,cP 6),(11,cI),(12,cO 84),(43,cL 42),(44,cI),(45,cI),(97,cB)],[(0,.box ([.o 50000002,.b])),(6,bX0),(84,.row 53 true),(50000002,.row 154 true)]⟩ (fun L _=>a5Y N (li L 0) (lb L 5) (ll L 17) (ll L 19)) (fun s m L p=>(.normal,mg s [0,4,43,44,45] [] [0,6,102000000035] [(0,.box [.o 102000000035,.b (lb L 6)]),(102000000035,.row 154 true false p)])) (fun s m L p=>(.normal,mg s [0,4,43,44,45] [] [0,6,126000000035] [(0,.box [.o 126000000035,.b (lb L 6)]),(126000000035,.row 154 true false p)])) fun _ _ _=>by unfold a5Y;exact bb
def b2E (w1 :LD) (w2:Int) (w4:Bool) (w7:Int) (w9:LD) (w3:Int) (w14:Bool) (w15:LD) (kr:Int→Bool→LD→Option R) (k0:Bool×LD→Option R):Option R:=
 bif (decide (w3<w2)) then
  bif (inB w3 w1.length) then
   bnd (IntKind.wrap .i64 (w7+((w1.getD w3.toNat (.i 0)).cell 0).toI)) fun y0=>
   bnd (a5o N y0 4 false w4) fun y1=>
   bif y1.isSome then
    bnd (a5o N ((w1.getD w3.toNat (.i 0)).cell 1).toI 4 true w4) fun y2=>
    bif y2.isSome then
     bnd (a5o N ((w1.getD w3.toNat (.i 0)).cell 2).toI 4 true w4) fun y3=>
     bif y3.isSome then
      bnd (a5o N ((w1.getD w3.toNat (.i 0)).cell 3).toI 4 true w4) fun y4=>
      bif y4.isSome then
       bnd (a5o N ((w1.getD w3.toNat (.i 0)).cell 4).toI 2 false w4) fun y5=>
       bif y5.isSome then
        bnd (a5o N ((w1.getD w3.toNat (.i 0)).cell 5).toI 2 false w4) fun y6=>
        bif y6.isSome then
         bnd (a5o N ((w1.getD w3.toNat (.i 0)).cell 6).toI 2 false w4) fun y7=>
         bif y7.isSome then
          bnd (b7w N w3 w9 ((w1.getD w3.toNat (.i 0)).cell 0).toI) fun y8=>
          bif y8.isSome then
           bnd (a5Z N y0 (y8.getD default) [(.l false (y1.getD default)),(.l false (y2.getD default)),(.l false (y3.getD default)),(.l false (y4.getD default)),(.l false (y5.getD default)),(.l false (y6.getD default)),(.l false (y7.getD default))] w15) fun y9=>
           bif (a0U y9) then
            kr (IntKind.wrap .i64 (w3+1)) false (a1E y9)
           else
            bif (a0n y9).isSome then
             kr (IntKind.wrap .i64 (w3+1)) false ((a0n y9).getD default)
            else
             none
          else
           none
         else
          none
        else
         none
       else
        none
      else
       none
     else
      none
    else
     none
   else
    none
  else
   none
 else
  k0 (w14,w15)
def a9J (N:Nat) {R:Type} (w1:LD) (w2:Int) (w4:Bool) (w7:Int) (w9:LD):Nat→Int→Bool→LD→(Bool×LD→Option R)→Option R
 |0,_,_,_,_=>none
 |m+1,w3,w14,w15,k0=>b2E N w1 w2 w4 w7 w9 w3 w14 w15 (fun w3 w14 w15=>a9J N w1 w2 w4 w7 w9 m w3 w14 w15 k0) k0
def c3B (w1:LD) (w2:Int) (w4:Bool) (w7:Int) (w9:LD) (w3:Int) (w14:Bool) (w15:LD):Option (Bool×LD):=a9J N (R:=(Bool×LD)) w1 w2 w4 w7 w9 N w3 w14 w15 some
def d8T:=(d8S N).l1 (d2c N) 45 [3,14,15] [] [0,50000002] ⟨[(0,cP 0),(4,cP 6),(43,cL 42),(44,cI),(45,cI)],[(0,.box ([.o 50000002,.b])),(6,bX0),(50000002,.row 154 true)]⟩ N (fun L x _ kr=>b2E N (ll L 1) (li L 2) (lb L 4) (li L 7) (ll L 9) (li x 0) (lb x 1) (ll x 2) (fun w3 w14 w15=>kr [.i w3,.b w14,.l w15])) (fun L m x=>a9J N (ll L 1) (li L 2) (lb L 4) (li L 7) (ll L 9) m (li x 0) (lb x 1) (ll x 2) some) (fun s m L p=>((.exit 4),m [] [(50000002,.row 154 true p.1 p.2)])) fun _ _ _ _ _=>by unfold b2E;exact bb
def d2d (v2:Int) (v4:LD) (v9 v10 v11:Int) (v12:Bool) (v14:LD) (k0:Unit→Option R) (k1:Bool×LD→Option R):Option R:=
 bif ((v4.length:Int)==0) then
  k0 ()
 else
  bnd ([(.a [(.i v9),(.i v10),(.i v11)]),(.a [(.i 0),(.i 4),(.i 1)])]:List D) fun y0=>
  bif (decide ((y0.length+1)*24≤a0X)&&decide ((y0.length+1)≤a0c)) then
   bif (decide ((((y0++[(.a [(.i 1),(.i 4),(.i 1)])]):List D).length+1)*24≤a0X)&&decide ((((y0++[(.a [(.i 1),(.i 4),(.i 1)])]):List D).length+1)≤a0c)) then
    bnd (((y0++[(.a [(.i 1),(.i 4),(.i 1)])])++[(.a [(.i 2),(.i 4),(.i 1)])]):List D) fun y1=>
    bif (decide ((y1.length+1)*24≤a0X)&&decide ((y1.length+1)≤a0c)) then
     bif (decide ((((y1++[(.a [(.i 3),(.i 2),(.i 0)])]):List D).length+1)*24≤a0X)&&decide ((((y1++[(.a [(.i 3),(.i 2),(.i 0)])]):List D).length+1)≤a0c)) then
      bnd (((y1++[(.a [(.i 3),(.i 2),(.i 0)])])++[(.a [(.i 4),(.i 2),(.i 0)])]):List D) fun y2=>
      bif (decide ((y2.length+1)*24≤a0X)&&decide ((y2.length+1)≤a0c)) then
       bnd (c5w N 1 20 false (y2++[(.a [(.i 5),(.i 2),(.i 0)])]) v12 v14) fun y3=>
       bif y3.isSome then
        bnd (c3B N v4 (v4.length:Int) v12 v2 v4 0 false (y3.getD default)) fun y4=>
        bif y4.isSome then
         k1 (y4.getD default)
        else
         none
       else
        none
      else
       none
     else
      none
    else
     none
   else
    none
  else
   none
def e1Y (v2:Int) (v4:LD) (v9 v10 v11:Int) (v12:Bool) (v14:LD):Option (Sum (Unit) (Bool×LD)):=d2d N v2 v4 v9 v10 v11 v12 v14 (fun p=>some (.inl p)) (fun p=>some (.inr p))
def d4H:Sh:={tmps:=[(0,cP 0),(1,gX4),(2,.g ([.i .i64,.i .i64,.i .i64]))],mem:=[(0,e0v),(1,.row 154 true)]}
def b9O:=(d8T N).f2 (d2c N) d4H (fun L _=>d2d N (li L 2) (ll L 4) (li L 9) (li L 10) (li L 11) (lb L 12) (ll L 14)) (fun L _=>([],mgA (a16 d4H L).mem [] [0,1])) (fun L p=>([],[(0,.box [.o 50000002,.b (lb L 12)]),(50000002,.row 154 true p.1 p.2)])) fun _ _ _=>by unfold d2d;exact bb
def d8U (N:Nat):Sg Tryz.prog 0 34:= .start [(38,[2,4,7,8,9,55],[2,4,8,29,52000000033],[]),(42,[2,4,7,8,9,62,63,64],[2,4,8,29,50029000,61000000027],[50029000]),(59,[2,4,7,8,9,77],[2,4,8,29,50029000],[]),(63,[2,4,7,8,86,87,88],[2,4,8,29,50029000,85000000027],[50029000]),(76,[2,4,7,8],[2,4,8,29,50029000],[])] [(0,[0,1]),(1,[2,4,1]),(2,[6,4,2,1]),(3,[6,4]),(4,[2,4,1]),(5,[4]),(6,[1,2,4]),(7,[7,2,4]),(8,[7,8,2,4]),(9,[7,8,9,2,4]),(10,[7,2,9,8,4]),(11,[2,7,9,8,4]),(12,[7,9,2,8,4]),(13,[2,7,8,9,4]),(14,[64,63,62,7,2,8,9,4]),(15,[62,64,7,63,2,8,9,4]),(16,[7,11,64,63,62,2,8,9,4]),(17,[64,63,62,7,2,8,9,4]),(18,[2,7,8,9,4]),(19,[7,8,9,2,4]),(20,[2,7,8,4]),(21,[88,87,86,7,2,8,4]),(22,[86,88,7,2,87,8,4]),(23,[7,2,13,88,87,86,8,4]),(24,[88,87,86,7,2,8,4]),(25,[7,2,8,4]),(26,[7,4])] true
def b2F (w0 w15:Bool) (w17:LD) (k0:LD→Option R) (k1:Unit→Option R):Option R:=
 bif w0 then
  bnd (c5w N 3 30 false [(.a [(.i 1),(.i 60),(.i 2)])] w15 w17) fun y0=>
  bif y0.isSome then
   k0 (y0.getD default)
  else
   none
 else
  k1 ()
def b7x (w0 w15:Bool) (w17:LD):Option (Sum (LD) (Unit)):=b2F N w0 w15 w17 (fun p=>some (.inl p)) (fun p=>some (.inr p))
def d8V:=(d8U N).c2 (b9O N) 38 100 [2,4,7,8,9] [2,4,8,29,52000000033,61000000027] ⟨[(2,cP 2),(4,cP 4),(7,cP 29),(8,cP 8),(9,.c (.f 66 [])),(55,cB)],[(2,bX0),(4,e04),(8,c7z),(29,.box ([.o 52000000033,.b])),(52000000033,.row 154 true)]⟩ (fun L _=>b2F N (lb L 0) (lb L 15) (ll L 17)) (fun s m L p=>(.normal,mg s [2,4,7,8,9] [] [2,4,8,29,61000000027] [(29,.box [.o 61000000027,.b (lb L 15)]),(61000000027,.row 154 true false p)])) (fun s m L _=>(.normal,mg s [2,4,7,8,9] [] [2,4,8,29,52000000033] [])) fun _ _ _=>by unfold b2F;exact bb
def b2G (w1:LD) (w2:Int) (w3:Int) (w19:Bool) (w20:LD) (kr:Int→Bool→LD→Option R) (k0:Bool×LD→Option R):Option R:=
 bif (decide (w3<w2)) then
  bif (inB w3 w1.length) then
   bnd (d19 N (w1.getD w3.toNat (.i 0)).toS) fun y0=>
   bnd (b9N N 3 [(.l false y0)] w20) fun y1=>
   bif y1.isSome then
    kr (IntKind.wrap .i64 (w3+1)) false (y1.getD default)
   else
    none
  else
   none
 else
  k0 (w19,w20)
def a9K (N:Nat) {R:Type} (w1:LD) (w2:Int):Nat→Int→Bool→LD→(Bool×LD→Option R)→Option R
 |0,_,_,_,_=>none
 |m+1,w3,w19,w20,k0=>b2G N w1 w2 w3 w19 w20 (fun w3 w19 w20=>a9K N w1 w2 m w3 w19 w20 k0) k0
def b2H (w1:LD) (w2:Int) (w3:Int) (w19:Bool) (w20:LD):Option (Bool×LD):=a9K N (R:=(Bool×LD)) w1 w2 N w3 w19 w20 some
def d8W:=(d8V N).l1 (b9O N) 42 [3,19,20] [2,4,5,7,8,9] [2,4,8,29,50029000] ⟨[(2,cP 2),(4,cP 4),(7,cP 29),(8,cP 8),(9,.c (.f 66 [])),(62,cL 9),(63,cI),(64,cI)],[(2,bX0),(4,e04),(8,c7z),(29,e3g),(50029000,.row 154 true)]⟩ N (fun L x _ kr=>b2G N (ll L 1) (li L 2) (li x 0) (lb x 1) (ll x 2) (fun w3 w19 w20=>kr [.i w3,.b w19,.l w20])) (fun L m x=>a9K N (ll L 1) (li L 2) m (li x 0) (lb x 1) (ll x 2) some) (fun s m L p=>((.exit 0),mg s [2,4,7,8,9] [] [2,4,8,29,50029000] [(50029000,.row 154 true p.1 p.2)])) fun _ _ _ _ _=>by unfold b2G;exact bb
def b2I (w0:Bool) (w12 w13 w14:Int) (w15:Bool) (w17:LD) (k0:LD→Option R) (k1:Unit→Option R):Option R:=
 bif w0 then
  bnd (c5w N 2 19 false [(.a [(.i w12),(.i w13),(.i w14)]),(.a [(.i 1),(.i 4),(.i 0)]),(.a [(.i 2),(.i 60),(.i 2)])] w15 w17) fun y0=>
  bif y0.isSome then
   k0 (y0.getD default)
  else
   none
 else
  k1 ()
def b2J (w0:Bool) (w12 w13 w14:Int) (w15:Bool) (w17:LD):Option (Sum (LD) (Unit)):=b2I N w0 w12 w13 w14 w15 w17 (fun p=>some (.inl p)) (fun p=>some (.inr p))
def d8X:=(d8W N).c2 (b9O N) 59 100 [2,4,7,8] [2,4,8,29,50029000,85000000027] ⟨[(2,cP 2),(4,cP 4),(7,cP 29),(8,cP 8),(9,.c (.f 66 [])),(77,cB)],[(2,bX0),(4,e04),(8,c7z),(29,e3g),(50029000,.row 154 true)]⟩ (fun L _=>b2I N (lb L 0) (li L 12) (li L 13) (li L 14) (lb L 15) (ll L 17)) (fun s m L p=>(.normal,mg s [2,4,7,8] [] [2,4,8,29,85000000027] [(29,.box [.o 85000000027,.b (lb L 15)]),(85000000027,.row 154 true false p)])) (fun s m L _=>(.normal,mg s [2,4,7,8] [] [2,4,8,29,50029000] [])) fun _ _ _=>by unfold b2I;exact bb
def b2K (w1:LD) (w2 w6:Int) (w18:Bool) (w3:Int) (w19:Bool) (w20:LD) (kr:Int→Bool→LD→Option R) (k0:Bool×LD→Option R):Option R:=
 bif (decide (w3<w2)) then
  bif (inB w3 w1.length) then
   bnd (IntKind.wrap .i64 (w6+((w1.getD w3.toNat (.i 0)).cell 0).toI)) fun y0=>
   bnd (a5o N y0 4 false w18) fun y1=>
   bif y1.isSome then
    bnd (IntKind.wrap .i64 (w6+((w1.getD w3.toNat (.i 0)).cell 1).toI)) fun y2=>
    bnd (a5o N y2 4 false w18) fun y3=>
    bif y3.isSome then
     bnd (d19 N ((w1.getD w3.toNat (.i 0)).cell 2).toS) fun y4=>
     bnd (b9N N 2 [(.l false (y1.getD default)),(.l false (y3.getD default)),(.l false y4)] w20) fun y5=>
     bif y5.isSome then
      kr (IntKind.wrap .i64 (w3+1)) false (y5.getD default)
     else
      none
    else
     none
   else
    none
  else
   none
 else
  k0 (w19,w20)
def a9L (N:Nat) {R:Type} (w1:LD) (w2 w6:Int) (w18:Bool):Nat→Int→Bool→LD→(Bool×LD→Option R)→Option R
 |0,_,_,_,_=>none
 |m+1,w3,w19,w20,k0=>b2K N w1 w2 w6 w18 w3 w19 w20 (fun w3 w19 w20=>a9L N w1 w2 w6 w18 m w3 w19 w20 k0) k0
def a7B (w1:LD) (w2 w6:Int) (w18:Bool) (w3:Int) (w19:Bool) (w20:LD):Option (Bool×LD):=a9L N (R:=(Bool×LD)) w1 w2 w6 w18 N w3 w19 w20 some
def d8Y:=(d8X N).l1 (b9O N) 63 [3,19,20] [2,4,5,7,8] [2,4,8,29,50029000] ⟨[(2,cP 2),(4,cP 4),(7,cP 29),(8,cP 8),(86,cL 81),(87,cI),(88,cI)],[(2,bX0),(4,e04),(8,c7z),(29,e3g),(50029000,.row 154 true)]⟩ N (fun L x _ kr=>b2K N (ll L 1) (li L 2) (li L 6) (lb L 18) (li x 0) (lb x 1) (ll x 2) (fun w3 w19 w20=>kr [.i w3,.b w19,.l w20])) (fun L m x=>a9L N (ll L 1) (li L 2) (li L 6) (lb L 18) m (li x 0) (lb x 1) (ll x 2) some) (fun s m L p=>((.exit 2),mg s [2,4,7,8] [] [2,4,8,29,50029000] [(50029000,.row 154 true p.1 p.2)])) fun _ _ _ _ _=>by unfold b2K;exact bb
def b2L (w2:Int) (w4:LD) (w11 w12 w13:Int) (w14:Bool) (w16:LD) (k0:Unit→Option R) (k1:Bool×LD→Option R):Option R:=
 bnd (e1Y N w2 w4 w11 w12 w13 w14 w16) fun y0=>
 bif (a0U y0) then
  k0 ()
 else
  bif (a0n y0).isSome then
   k1 ((a0n y0).getD default)
  else
   none
def a51 (w2:Int) (w4:LD) (w11 w12 w13:Int) (w14:Bool) (w16:LD):Option (Sum (Unit) (Bool×LD)):=b2L N w2 w4 w11 w12 w13 w14 w16 (fun p=>some (.inl p)) (fun p=>some (.inr p))
def c8k:=(d8Y N).c2 (b9O N) 76 100 [4,7] [4,29,50029000,117050000002] ⟨[(2,cP 2),(4,cP 4),(7,cP 29),(8,cP 8)],[(2,bX0),(4,e04),(8,c7z),(29,e3g),(50029000,.row 154 true)]⟩ (fun L _=>b2L N (li L 2) (ll L 4) (li L 11) (li L 12) (li L 13) (lb L 14) (ll L 16)) (fun s m L _=>(.normal,mg s [4,7] [] [4,29,50029000] [])) (fun s m L p=>(.normal,mg s [4,7] [] [4,29,117050000002] [(29,.box [.o 117050000002,.b (lb L 14)]),(117050000002,.row 154 true p.1 p.2)])) fun _ _ _=>by unfold b2L;exact bb
def c5x (v0 : LB) (v1 v2:Int) (v4 v6 v8:LD) (v9:Bool) (k0:Int→Option R) (k1:Bool×LD→Option R) (k2:Bool×LD→Option R):Option R:=
 bnd (b1Q N v0 v1 v2 v4 v6 v8) fun y0=>
 bif y0.isSome then
  bif ((y0.getD default) !=0) then
   k0 (y0.getD default)
  else
   bnd (a8r N v4) fun y1=>
   bif y1.isSome then
    bnd (decide ((IntKind.wrap .i64 (v2+(y1.getD default)))>4294967294)) fun y2=>
    bif y2 then
     k0 9
    else
     bnd (e1U N 0 0 false [(.a [(.i 253),(.i 4),(.i 0)]),(.a [(.i 1),(.i 60),(.i 2)]),(.a [(.i 2),(.i 1),(.i 0)])] v9) fun y3=>
     bnd (a5o N v2 4 false v9) fun y4=>
     bif y4.isSome then
      bnd (d19 N v0) fun y5=>
      bnd (a5o N v1 1 false v9) fun y6=>
      bif y6.isSome then
       bnd (b9N N 0 [(.l false (y4.getD default)),(.l false y5),(.l false (y6.getD default))] y3) fun y7=>
       bif y7.isSome then
        bnd (b7x N (decide ((v8.length:Int)>0)) v9 (y7.getD default)) fun y8=>
        bif (a0U y8) then
         bnd (b2H N v8 (v8.length:Int) 0 false (a1E y8)) fun y9=>
         bif y9.isSome then
          bnd (b2J N (decide ((v6.length:Int)>0)) 253 4 0 v9 (y9.getD default).2) fun y10=>
          bif (a0U y10) then
           bnd (a7B N v6 (v6.length:Int) v2 v9 0 false (a1E y10)) fun y11=>
           bif y11.isSome then
            bnd (a51 N v2 v4 253 4 0 v9 (y11.getD default).2) fun y12=>
            bif (a0U y12) then
             k1 (y11.getD default)
            else
             bif (a0n y12).isSome then
              k2 ((a0n y12).getD default)
             else
              none
           else
            none
          else
           bif (a0n y10).isSome then
            bnd (a7B N v6 (v6.length:Int) v2 v9 0 (y9.getD default).1 (y9.getD default).2) fun y13=>
            bif y13.isSome then
             bnd (a51 N v2 v4 253 4 0 v9 (y13.getD default).2) fun y14=>
             bif (a0U y14) then
              k1 (y13.getD default)
             else
              bif (a0n y14).isSome then
               k2 ((a0n y14).getD default)
              else
               none
            else
             none
           else
            none
         else
          none
        else
         bif (a0n y8).isSome then
          bnd (b2H N v8 (v8.length:Int) 0 false (y7.getD default)) fun y15=>
          bif y15.isSome then
           bnd (b2J N (decide ((v6.length:Int)>0)) 253 4 0 v9 (y15.getD default).2) fun y16=>
           bif (a0U y16) then
            bnd (a7B N v6 (v6.length:Int) v2 v9 0 false (a1E y16)) fun y17=>
            bif y17.isSome then
             bnd (a51 N v2 v4 253 4 0 v9 (y17.getD default).2) fun y18=>
             bif (a0U y18) then
              k1 (y17.getD default)
             else
              bif (a0n y18).isSome then
               k2 ((a0n y18).getD default)
              else
               none
            else
             none
           else
            bif (a0n y16).isSome then
             bnd (a7B N v6 (v6.length:Int) v2 v9 0 (y15.getD default).1 (y15.getD default).2) fun y19=>
             bif y19.isSome then
              bnd (a51 N v2 v4 253 4 0 v9 (y19.getD default).2) fun y20=>
              bif (a0U y20) then
               k1 (y19.getD default)
              else
               bif (a0n y20).isSome then
                k2 ((a0n y20).getD default)
               else
                none
             else
              none
            else
             none
          else
           none
         else
          none
       else
        none
      else
       none
     else
      none
   else
    none
 else
  none
def b4l (v0:LB) (v1 v2:Int) (v4 v6 v8:LD) (v9:Bool):Option (Sum (Int) (Sum (Bool×LD) (Bool×LD))):=c5x N v0 v1 v2 v4 v6 v8 v9 (fun p=>some (.inl p)) (fun p=>some (.inr (.inl p))) (fun p=>some (.inr (.inr p)))
theorem d2e (v0:LB) (v1 v2:Int) (v4 v6 v8:LD) (v9:Bool) (k0:Int→Option R) (k1:Bool×LD→Option R) (k2:Bool×LD→Option R):c5x N v0 v1 v2 v4 v6 v8 v9 k0 k1 k2=(b4l N v0 v1 v2 v4 v6 v8 v9).bind (b6B k0 (b6B k1 k2)):=by
 unfold b4l c5x
 repeat' (first|with_reducible apply a6a|(with_reducible apply b1M;intro _)|rfl)
def e1Z (L:List Lf) (k0:Int→Option R) (k1:Bool×LD→Option R) (k2:Bool×LD→Option R):Option R:=c5x N (ls L 0) (li L 1) (li L 2) (ll L 4) (ll L 6) (ll L 8) (lb L 9) k0 k1 k2
def d4I:Sh:={tmps:=[(0,gX4),(1,cB)],mem:=[]}
def c8l (L:List Lf) (p:Bool×LD):Res:=([.g [.o 50029000],.c (.i .i64 0)],[(50029000,.row 154 true p.1 p.2)])
def c8m (L:List Lf) (p:Bool×LD):Res:=([.g [.o 117050000002],.c (.i .i64 0)],[(117050000002,.row 154 true p.1 p.2)])
def e4B (L:List Lf):List (Bool×Res):=bnd (e1Z N L (fun p=>some (.inl p)) (fun p=>some (.inr (.inl p))) (fun p=>some (.inr (.inr p)))) fun q=>[((a0U q),([.g [.sl 154 true []],.c (.i .i64 (a1E q))],[])),((a0U (a0n q)),c8l L (a1E (a0n q))),((a0n (a0n q)).isSome,c8m L ((a0n (a0n q)).getD default))]
theorem d8Z (L:List Lf):bd Tryz.prog (b9O N).o (c8k N).h 34 d4I L=e1Z N L (fun p=>some ([.g [.sl 154 true []],.c (.i .i64 p)],[])) (fun p=>some (c8l L p)) (fun p=>some (c8m L p)):=(e0Y 0 rfl).trans (by kernel_rfl)
def e10 (L:List Lf):List (Bool×Res):=d0D 117050000002 998 ((e4B N) L)
theorem e11:c1d Tryz.prog 34 d4I (e10 N):=
 (c8k N).fnR2 117050000002 998 rfl rfl a6d (b9O N).ok fun L x hx=>((d8Z N L).trans ((d2e N ..).trans ((c57 (c57 b8i)) x hx)))
def e4C:Oc Tryz.prog:=(b9O N).x (e11 N)
def d2f (N:Nat):Sg Tryz.prog 0 106:= .start [] [(0,[]),(1,[])]
def c8n (N:Nat) (k0:D→R):R:=
 k0 (.a [(.b false),(.b false),(.i 0),(.l true []),(.i 0),(.i 0),(.b false),(.b false),(.i 0),(.l true []),(.i 0),(.i 0),(.b false),(.b false),(.i 0),(.l true []),(.i 0),(.i 0),(.b false),(.b false),(.i 0),(.l true []),(.i 0),(.i 0),(.b false),(.b false),(.i 0),(.l true []),(.i 0),(.i 0),(.b false),(.b false),(.i 0),(.l true []),(.i 0),(.i 0),(.b false),(.b false),(.i 0),(.l true []),(.i 0),(.i 0),(.b false),(.b false),(.i 0),(.l true []),(.i 0),(.i 0),(.b false),(.b false),(.i 0),(.l true []),(.i 0),(.i 0),(.b false),(.b false),(.i 0),(.l true []),(.i 0),(.i 0),(.b false),(.b false),(.i 0),(.l true []),(.i 0),(.i 0),(.b false),(.b false),(.i 0),(.l true []),(.i 0),(.i 0),(.b false),(.b false),(.i 0),(.l true []),(.i 0),(.i 0),(.b false),(.b false),(.i 0),(.l true []),(.i 0),(.i 0),(.b false),(.b false),(.i 0),(.l true []),(.i 0),(.i 0),(.b false),(.b false),(.i 0),(.l true []),(.i 0),(.i 0),(.i (-1))])
def b9P:D:=c8n N (fun p=>p)
def e15:=(d2f N).f0 (e4C N) ⟨[],[]⟩ (fun L _=>c8n N) (fun L p=>([.c (.p 2 0)],[(2,.dat 223 p)])) fun _ _=>by unfold c8n;exact kk
def d2g (N:Nat):Sg Tryz.prog 1 159:= .start [] [(0,[0,1]),(1,[2,1])]
def c3C (N:Nat) (v0 v3:Int) (k0:Bool→R):R:=
 k0 (v0==v3)
def d4J (v0 v3:Int):Bool:=c3C N v0 v3 (fun p=>p)
def c8o:Sh:={tmps:=[(0,.g ([.i .i64,.i .i64,.i .i64])),(1,cP 0)],mem:=[(0,c7z)]}
def d4K:=(d2g N).f0 (e15 N) c8o (fun L _=>c3C N (li L 0) (li L 3)) (fun L p=>([.c (.b p)],mgA (a16 c8o L).mem [] [0])) fun _ _=>by unfold c3C;exact kk
def d2h (N:Nat):Sg Tryz.prog 1 177:= .start [(6,[0,1,7,8],[0],[])] [(0,[0,1]),(1,[0,1]),(2,[8,7,1,0]),(3,[8,1,0,7]),(4,[1,0,5,8,7]),(5,[5]),(6,[8,7,1,0]),(7,[])]
def a7C (w1:LD) (w2 w4:Int) (w3:Int) (kr:Int→Option R) (k0:Int→Option R) (k1:Unit→Option R):Option R:=
 bif (decide (w3<w2)) then
  bif (inB w3 w1.length) then
   bnd (d4J N ((w1.getD w3.toNat (.i 0)).cell 0).toI w4) fun y0=>
   bif y0 then
    k0 w3
   else
    kr (IntKind.wrap .i64 (w3+1))
  else
   none
 else
  k1 ()
def b2M (N:Nat) {R:Type} (w1:LD) (w2 w4:Int):Nat→Int→(Int→Option R)→(Unit→Option R)→Option R
 |0,_,_,_=>none
 |m+1,w3,k0,k1=>a7C N w1 w2 w4 w3 (fun w3=>b2M N w1 w2 w4 m w3 k0 k1) k0 k1
def b7y (w1:LD) (w2 w4:Int) (w3:Int):Option (Sum (Int) (Unit)):=b2M N (R:=(Sum (Int) (Unit))) w1 w2 w4 N w3 (fun p=>some (.inl p)) (fun p=>some (.inr p))
def d2i:=(d2h N).l2 (d4K N) 6 [3] [4] [0] ⟨[(0,cL 144),(1,.c (.f 159 [(0,0)])),(7,cI),(8,cI)],[(0,c7z)]⟩ N (fun L x _ kr=>a7C N (ll L 1) (li L 2) (li L 4) (li x 0) (fun w3=>kr [.i w3])) (fun L m x=>b2M N (ll L 1) (li L 2) (li L 4) m (li x 0) (fun p=>some (.inl p)) (fun p=>some (.inr p))) (fun s m L p=>(.ret,m [(4,.c (.i .i64 p))] [])) (fun s m L _=>((.exit 0),mg s [] [] [0] [])) fun _ _ _ _ _ _=>by unfold a7C;exact bb
def c3D (v1:LD) (v2:Int) (k0:Int→Option R):Option R:=
 bnd (b7y N v1 (v1.length:Int) v2 0) fun y0=>
 bif (a0U y0) then
  k0 (a1E y0)
 else
  bif (a0n y0).isSome then
   k0 (-1)
  else
   none
def c8p (v1:LD) (v2:Int):Option (Int):=c3D N v1 v2 some
def c8q:Sh:={tmps:=[(0,cL 144),(1,.c (.f 159 [(0,0)]))],mem:=[(0,c7z)]}
def e16:=(d2i N).f1 (d4K N) c8q (fun L _=>c3D N (ll L 1) (li L 2)) (fun L p=>([.c (.i .i64 p)],mgA (a16 c8q L).mem [] [0])) fun _ _=>by unfold c3D;exact bb
def d2j (N:Nat):Sg Tryz.prog 1 158:= .start [] [(0,[0,1]),(1,[0,1])]
def c3E (v1:LD) (v2:Int) (k0:Bool→Option R):Option R:=
 bnd (c8p N v1 v2) fun y0=>
 bif y0.isSome then
  k0 (decide ((y0.getD default)≥0))
 else
  none
def c8r (v1:LD) (v2:Int):Option (Bool):=c3E N v1 v2 some
def c8s:Sh:={tmps:=[(0,cL 144),(1,.c (.f 159 [(0,0)]))],mem:=[(0,c7z)]}
def c8t:=(d2j N).f1 (e16 N) c8s (fun L _=>c3E N (ll L 1) (li L 2)) (fun L p=>([.c (.b p)],mgA (a16 c8s L).mem [] [0])) fun _ _=>by unfold c3E;exact bb
def d2k (N:Nat):Sg Tryz.prog 0 136:= .start [(18,[1,17,18,19],[1],[]),(28,[1,3,4,5,17,18,19],[1,4],[])] [(0,[0]),(1,[1]),(3,[1]),(4,[]),(2,[]),(5,[1]),(6,[19,18,17,1]),(7,[19,17,1,18]),(8,[4,1,3,19,18,17]),(9,[4,5,1,3,19,18,17]),(11,[4,5,1,3,19,18,17]),(13,[5,4,1,3,19,18,17]),(15,[1,3,4,19,18,17]),(16,[]),(14,[]),(12,[]),(10,[]),(17,[19,18,17,1]),(18,[])]
def a9M (w10 w11:Int) (k0:Bool→R):R:=
 bnd (a5c N w10 0 255) fun y0=>
 bif (!y0) then
  k0 true
 else
  bnd (a5c N w11 1 255) fun y1=>
  k0 (!y1)
def b9Q (w10 w11:Int):Bool:=a9M N w10 w11 (fun p=>p)
def d2l:=(d2k N).c0 (c8t N) 28 100 [1,3,4,5,17,18,19,32] [1,4] ⟨[(1,cP 1),(3,cI),(4,cP 4),(5,cB),(17,cL 144),(18,cI),(19,cI)],[(1,.box ([.b,.i .i64,.sl 144])),(4,c7z)]⟩ (fun L _=>a9M N (li L 10) (li L 11)) (fun s m L p=>(.normal,m [(32,.c (.b p))] [])) fun _ _=>by unfold a9M;exact kk
def a5p (w1:LD) (w2:Int) (w7:LD) (w3:Int) (kr:Int→Option R) (k0:Int→Option R) (k1:Unit→Option R):Option R:=
 bif (decide (w3<w2)) then
  bif (inB w3 w1.length) then
   bnd (bif (((w1.getD w3.toNat (.i 0)).cell 2).toI==0) then true else (((w1.getD w3.toNat (.i 0)).cell 2).toI==1)) fun y0=>
   bnd (b9Q N ((w1.getD w3.toNat (.i 0)).cell 0).toI ((w1.getD w3.toNat (.i 0)).cell 1).toI) fun y1=>
   bif y1 then
    k0 9
   else
    bnd (a5c N ((w1.getD w3.toNat (.i 0)).cell 2).toI 0 3) fun y2=>
    bif (!y2) then
     k0 7
    else
     bnd (bif y0 then (((w1.getD w3.toNat (.i 0)).cell 1).toI !=1) else false) fun y3=>
     bnd (bif y3 then (((w1.getD w3.toNat (.i 0)).cell 1).toI !=2) else false) fun y4=>
     bnd (bif y4 then (((w1.getD w3.toNat (.i 0)).cell 1).toI !=4) else false) fun y5=>
     bif y5 then
      k0 2
     else
      bif ((decide (0≤w3))&&(decide (w3≤(w7.length:Int)))) then
       bnd (c8r N ((w7.take w3.toNat).drop 0) ((w1.getD w3.toNat (.i 0)).cell 0).toI) fun y6=>
       bif y6.isSome then
        bif (y6.getD default) then
         k0 5
        else
         kr (IntKind.wrap .i64 (w3+1))
       else
        none
      else
       none
  else
   none
 else
  k1 ()
def a9N (N:Nat) {R:Type} (w1:LD) (w2:Int) (w7:LD):Nat→Int→(Int→Option R)→(Unit→Option R)→Option R
 |0,_,_,_=>none
 |m+1,w3,k0,k1=>a5p N w1 w2 w7 w3 (fun w3=>a9N N w1 w2 w7 m w3 k0 k1) k0 k1
def b4m (w1:LD) (w2:Int) (w7:LD) (w3:Int):Option (Sum (Int) (Unit)):=a9N N (R:=(Sum (Int) (Unit))) w1 w2 w7 N w3 (fun p=>some (.inl p)) (fun p=>some (.inr p))
def d2m:=(d2l N).l2 (c8t N) 18 [3] [2] [] ⟨[(1,cP 1),(17,cL 144),(18,cI),(19,cI)],[(1,.box ([.b,.i .i64,.sl 144]))]⟩ N (fun L x _ kr=>a5p N (ll L 1) (li L 2) (ll L 7) (li x 0) (fun w3=>kr [.i w3])) (fun L m x=>a9N N (ll L 1) (li L 2) (ll L 7) m (li x 0) (fun p=>some (.inl p)) (fun p=>some (.inr p))) (fun s m L p=>(.ret,⟨[(2,.c (.i .i64 p))],[]⟩)) (fun s m L _=>((.exit 1),⟨[],[]⟩)) fun _ _ _ _ _ _=>by unfold a5p;exact bb
def c3F (v1:Int) (v3:LD) (k0:Int→Option R):Option R:=
 bnd (a5c N v1 0 65535) fun y0=>
 bif (!y0) then
  k0 9
 else
  bif (decide ((v3.length:Int)>30)) then
   k0 3
  else
   bnd (b4m N v3 (v3.length:Int) v3 0) fun y1=>
   bif (a0U y1) then
    k0 (a1E y1)
   else
    bif (a0n y1).isSome then
     k0 0
    else
     none
def c8u (v1:Int) (v3:LD):Option (Int):=c3F N v1 v3 some
def b9R:=(d2m N).f1 (c8t N) ⟨[(0,.g ([.b,.i .i64,.sl 144]))],[]⟩ (fun L _=>c3F N (li L 1) (ll L 3)) (fun L p=>([.c (.i .i64 p)],[])) fun _ _=>by unfold c3F;exact bb
def d2n (N:Nat):Sg Tryz.prog 1 107:= .start [(14,[0,3,5,6,7,8,9,18],[0,4],[]),(20,[0,3,5,6,7,8,9,19],[0,4],[]),(28,[0,3,5,6,7,8,9],[0,4],[]),(62,[3,11,87],[0,4],[])] [(0,[1,0]),(1,[3,0]),(2,[6,5,3,0]),(3,[6,5,3,0,9,7,8]),(4,[5,3,0,6,9]),(5,[5,3,7,8,0,6,9]),(6,[3,7,8,5,0,6]),(7,[3,7,8,9,5,0,6]),(9,[3,7,8,9,5,0,6]),(11,[3,9,5,0,6]),(13,[5,3,0,6]),(14,[3]),(12,[]),(10,[]),(8,[]),(15,[0,3,6]),(16,[10,6,0,3]),(17,[]),(18,[10,6,3]),(19,[6,11,3]),(20,[11,3]),(21,[3,11]),(22,[]),(23,[])]
def a9O (N:Nat) (w2 w3:Int) (w5:Bool) (k0:Int×Int→R):R:=
 bif w5 then
  k0 (3,31)
 else
  k0 (w2,w3)
def b9S (w2 w3:Int) (w5:Bool):Int×Int:=a9O N w2 w3 w5 (fun p=>p)
def d2o:=(d2n N).c0 (b9R N) 14 100 [0,3,5,6,7,8,9] [0,4] ⟨[(0,cP 0),(3,cP 4),(5,cB),(6,cB),(7,cI),(8,cI),(9,cI),(18,cB)],[(0,.dat 223),(4,d5S)]⟩ (fun L _=>a9O N (li L 2) (li L 3) (lb L 5)) (fun s m L p=>(.normal,m [(7,.c (.i .i64 p.1)),(8,.c (.i .i64 p.2))] [])) fun _ _=>by unfold a9O;exact kk
def a9P (N:Nat) (w4:Int) (w5:Bool) (k0:Int→R):R:=
 bif w5 then
  k0 1
 else
  k0 w4
def b9T (w4:Int) (w5:Bool):Int:=a9P N w4 w5 (fun p=>p)
def d2p:=(d2o N).c0 (b9R N) 20 100 [0,3,5,6,7,8,9] [0,4] ⟨[(0,cP 0),(3,cP 4),(5,cB),(6,cB),(7,cI),(8,cI),(9,cI),(19,cB)],[(0,.dat 223),(4,d5S)]⟩ (fun L _=>a9P N (li L 4) (lb L 5)) (fun s m L p=>(.normal,m [(9,.c (.i .i64 p))] [])) fun _ _=>by unfold a9P;exact kk
def a9Q (w2 w3 w7 w8:Int) (k0:Bool→R):R:=
 bnd (a5c N w7 0 w2) fun y0=>
 bif (!y0) then
  k0 true
 else
  bnd (a5c N w8 0 w3) fun y1=>
  k0 (!y1)
def b9U (w2 w3 w7 w8:Int):Bool:=a9Q N w2 w3 w7 w8 (fun p=>p)
def d2q:=(d2p N).c0 (b9R N) 28 100 [0,3,5,6,9,25] [0,4] ⟨[(0,cP 0),(3,cP 4),(5,cB),(6,cB),(7,cI),(8,cI),(9,cI)],[(0,.dat 223),(4,d5S)]⟩ (fun L _=>a9Q N (li L 2) (li L 3) (li L 7) (li L 8)) (fun s m L p=>(.normal,m [(25,.c (.b p))] [])) fun _ _=>by unfold a9Q;exact kk
def a9R (N:Nat) (w0:Int) (w1:Bool) (k0:Int→R):R:=
 bif w1 then
  k0 (IntKind.wrap .i64 (w0-4))
 else
  k0 w0
def b9V (w0:Int) (w1:Bool):Int:=a9R N w0 w1 (fun p=>p)
def d2r:=(d2q N).c0 (b9R N) 62 100 [3,11] [0,4] ⟨[(3,cP 4),(11,cI),(87,cB)],[(0,.dat 223),(4,d5S)]⟩ (fun L _=>a9R N (li L 0) (lb L 1)) (fun s m L p=>(.normal,m [(11,.c (.i .i64 p))] [])) fun _ _=>by unfold a9R;exact kk
def c3G (v0 v1 v2:Int) (v4 v6:LD) (v7:D) (k0:Int→Option R):Option R:=
 bnd (b9S N 15 0 (v0==3)) fun y0=>
 bnd (b9T N 0 (v0==1)) fun y1=>
 bnd (a5c N v0 1 3) fun y2=>
 bif (!y2) then
  k0 7
 else
  bnd (b9U N y0.1 y0.2 v1 v2) fun y3=>
  bif y3 then
   k0 9
  else
   bnd (bif ((v4.length:Int) !=y1) then true else (bif (v0==1) then (decide ((v6.length:Int)>0)) else false)) fun y4=>
   bif y4 then
    k0 2
   else
    bif (v0==1) then
     bif (inB 0 v4.length) then
      bnd (c8u N ((v4.getD 0 (.i 0)).cell 1).toI ((v4.getD 0 (.i 0)).cell 2).items) fun y5=>
      bif y5.isSome then
       k0 (y5.getD default)
      else
       none
     else
      none
    else
     bif (inB v1 16) then
      bnd (bif (!(v7.cell (0+(v1.toNat*6))).toB) then true else (bif (v0==3) then (bif (decide ((v7.cell (5+(v1.toNat*6))).toI<0)) then true else (decide ((v7.cell 96).toI<0))) else false)) fun y6=>
      bif y6 then
       k0 11
      else
       bnd (b9V N (v7.cell (4+(v1.toNat*6))).toI (v0==3)) fun y7=>
       bif ((v6.length:Int) !=y7) then
        k0 2
       else
        k0 0
     else
      none
def c8v (v0 v1 v2:Int) (v4 v6:LD) (v7:D):Option (Int):=c3G N v0 v1 v2 v4 v6 v7 some
def c8w:=(d2r N).f1 (b9R N) ⟨[(0,cP 0),(1,e3W)],[(0,.dat 223)]⟩ (fun L _=>c3G N (li L 0) (li L 1) (li L 2) (ll L 4) (ll L 6) (ld L 7)) (fun L p=>([.c (.i .i64 p)],[(0,.dat 223 (ld L 7))])) fun _ _=>by unfold c3G;exact bb
def d2s (N:Nat):Sg Tryz.prog 0 137:= .start [(9,[2,3,9,10,11],[2,3],[]),(20,[2,3,5,9,10,11,32],[2,3,5],[])] [(0,[0]),(1,[1,2]),(2,[1,3,2]),(3,[11,10,9,3,2]),(4,[9,11,3,10,2]),(5,[5,3,11,10,9,2]),(6,[3,5,11,10,9,2]),(7,[3,5,11,10,9,2]),(8,[11,10,9,3,2]),(9,[3,2])]
def a9S (N:Nat) (w4:Bool) (w17 w18:Int) (k0:Int→R):R:=
 bif w4 then
  k0 w17
 else
  k0 w18
def b9W (w4:Bool) (w17 w18:Int):Int:=a9S N w4 w17 w18 (fun p=>p)
def d2t:=(d2s N).c0 (c8w N) 20 100 [2,3,5,9,10,11] [2,3,5] ⟨[(2,cP 2),(3,cP 3),(5,cP 5),(9,cL 144),(10,cI),(11,cI),(32,cB)],[(2,d5T),(3,d5T),(5,c7z)]⟩ (fun L _=>a9S N (lb L 4) (li L 17) (li L 18)) (fun s m L p=>(.normal,m [] [(3,.box [.b (lb L 12),.b (lb L 13),.i .i64 (li L 14),.sl 144 (lb L 15) (ll L 16),.i .i64 (li L 17),.i .i64 p])])) fun _ _=>by unfold a9S;exact kk
def a9T (w1:LD) (w2:Int) (w3 w16 w17:Int) (kr:Int→Int→Int→Option R) (k0:Int×Int→Option R):Option R:=
 bif (decide (w3<w2)) then
  bif (inB w3 w1.length) then
   bnd (bif (((w1.getD w3.toNat (.i 0)).cell 0).toI==253) then (((w1.getD w3.toNat (.i 0)).cell 2).toI==0) else false) fun y0=>
   bnd (bif y0 then (((w1.getD w3.toNat (.i 0)).cell 1).toI==4) else false) fun y1=>
   bnd (b9W N (bif y1 then (decide (w17<0)) else false) w16 w17) fun y2=>
   bnd (IntKind.wrap .i64 (w16+((w1.getD w3.toNat (.i 0)).cell 1).toI)) fun y3=>
   kr (IntKind.wrap .i64 (w3+1)) y3 y2
  else
   none
 else
  k0 (w16,w17)
def b2N (N:Nat) {R:Type} (w1:LD) (w2:Int):Nat→Int→Int→Int→(Int×Int→Option R)→Option R
 |0,_,_,_,_=>none
 |m+1,w3,w16,w17,k0=>a9T N w1 w2 w3 w16 w17 (fun w3 w16 w17=>b2N N w1 w2 m w3 w16 w17 k0) k0
def c3H (w1:LD) (w2:Int) (w3 w16 w17:Int):Option (Int×Int):=b2N N (R:=(Int×Int)) w1 w2 N w3 w16 w17 some
def d2u:=(d2t N).l1 (c8w N) 9 [3,16,17] [2,3] [2,3] ⟨[(2,cP 2),(3,cP 3),(9,cL 144),(10,cI),(11,cI)],[(2,d5T),(3,d5T)]⟩ N (fun L x _ kr=>a9T N (ll L 1) (li L 2) (li x 0) (li x 1) (li x 2) (fun w3 w16 w17=>kr [.i w3,.i w16,.i w17])) (fun L m x=>b2N N (ll L 1) (li L 2) m (li x 0) (li x 1) (li x 2) some) (fun s m L p=>((.exit 0),m [] [(3,.box [.b (lb L 11),.b (lb L 12),.i .i64 (li L 13),.sl 144 (lb L 14) (ll L 15),.i .i64 p.1,.i .i64 p.2])])) fun _ _ _ _ _=>by unfold a9T;exact bb
def c3I (v3:LD) (k0:Int×Int→Option R):Option R:=
 bnd (c3H N v3 (v3.length:Int) 0 0 (-1)) fun y0=>
 bif y0.isSome then
  k0 (y0.getD default)
 else
  none
def c8x (v3:LD):Option (Int×Int):=c3I N v3 some
def c8y:=(d2u N).f1 (c8w N) ⟨[(0,.g ([.b,.i .i64,.sl 144]))],[]⟩ (fun L _=>c3I N (ll L 3)) (fun L p=>([.g [.b true,.b (lb L 0),.i .i64 (li L 1),.sl 144 (lb L 2) (ll L 3),.i .i64 p.1,.i .i64 p.2]],[])) fun _ _=>by unfold c3I;exact bb
def d2v (N:Nat):Sg Tryz.prog 0 138:= .start [(9,[0,1,5,9,10],[],[]),(23,[0,1,5,6,7,9,10,18],[],[])] [(0,[0,1]),(1,[0,1]),(2,[0,1,5]),(3,[10,9,0,1,5]),(4,[10,0,1,5,9]),(5,[0,6,1,5,10,9]),(6,[1,6,5,0,10,9,7]),(7,[6,5,0,10,9,1]),(8,[5,0,7,10,9,1]),(9,[10,9,0,1,5]),(10,[5])]
def a9U (N:Nat) (w4 w5:Int) (w8:Bool) (k0:Int→R):R:=
 bif w8 then
  k0 w4
 else
  k0 w5
def b4n (w4 w5:Int) (w8:Bool):Int:=a9U N w4 w5 w8 (fun p=>p)
def d2w:=(d2v N).c0 (c8y N) 23 100 [0,1,5,7,9,10] [] ⟨[(0,cL 5),(1,cB),(5,cI),(6,cI),(7,cI),(9,cI),(10,cI),(18,cB)],[]⟩ (fun L _=>a9U N (li L 4) (li L 5) (lb L 8)) (fun s m L p=>(.normal,m [(7,.c (.i .i64 p))] [])) fun _ _=>by unfold a9U;exact kk
def a9V (w1:LD) (w2:Bool) (w4:Int) (w3 w5:Int) (kr:Int→Int→Option R) (k0:Int→Option R):Option R:=
 bif (decide (w5<w4)) then
  bnd (IntKind.wrap .i64 ((IntKind.wrap .i64 ((w1.length:Int)-1))-w5)) fun y0=>
  bnd (b4n N w5 y0 w2) fun y1=>
  bif (inB y1 w1.length) then
   bnd ((c0H .or .i64 (IntKind.wrap .i64 (w3*2^8)) (IntKind.wrap .i64 (w1.getD y1.toNat (.i 0)).toI)).getD 0) fun y2=>
   kr y2 (IntKind.wrap .i64 (w5+1))
  else
   none
 else
  k0 w3
def b2O (N:Nat) {R:Type} (w1:LD) (w2:Bool) (w4:Int):Nat→Int→Int→(Int→Option R)→Option R
 |0,_,_,_=>none
 |m+1,w3,w5,k0=>a9V N w1 w2 w4 w3 w5 (fun w3 w5=>b2O N w1 w2 w4 m w3 w5 k0) k0
def c3J (w1:LD) (w2:Bool) (w4:Int) (w3 w5:Int):Option (Int):=b2O N (R:=(Int)) w1 w2 w4 N w3 w5 some
def d2x:=(d2w N).l1 (c8y N) 9 [3,5] [4,5] [] ⟨[(0,cL 5),(1,cB),(5,cI),(9,cI),(10,cI)],[]⟩ N (fun L x _ kr=>a9V N (ll L 1) (lb L 2) (li L 4) (li x 0) (li x 1) (fun w3 w5=>kr [.i w3,.i w5])) (fun L m x=>b2O N (ll L 1) (lb L 2) (li L 4) m (li x 0) (li x 1) some) (fun s m L p=>((.exit 0),⟨[(5,.c (.i .i64 p))],[]⟩)) fun _ _ _ _ _=>by unfold a9V;exact bb
def c3K (v1:LD) (v2:Bool) (k0:Int→Option R):Option R:=
 bnd (c3J N v1 v2 (v1.length:Int) 0 0) fun y0=>
 bif y0.isSome then
  k0 (y0.getD default)
 else
  none
def c8z (v1:LD) (v2:Bool):Option (Int):=c3K N v1 v2 some
def b5O:=(d2x N).f1 (c8y N) ⟨[(0,cL 5),(1,cB)],[]⟩ (fun L _=>c3K N (ll L 1) (lb L 2)) (fun L p=>([.c (.i .i64 p)],[])) fun _ _=>by unfold c3K;exact bb
def d2y (N:Nat):Sg Tryz.prog 1 108:= .start [(32,[0,5,7,67],[0],[]),(26,[0,3,5,6,49],[0,4,7],[]),(21020,[0,3,5,6,30],[0,4,7],[]),(15014,[0,3,5,6,15],[0,4,7],[]),(38,[0,5,70],[0],[])] [(0,[1,0]),(1,[0,3]),(2,[0,3,5]),(3,[3,0,5,6]),(5,[3,0,6,5]),(7,[6,3,0,5]),(8,[3,6,0,5]),(9,[7,0,5]),(10,[7,0]),(6,[0,3]),(4,[0,3,5]),(11,[5,0]),(12,[0,5]),(13,[5])]
def a9W (N:Nat) (w0 w1:Int) (w2:Bool) (k0:Int→R):R:=
 bif w2 then
  k0 w1
 else
  k0 w0
def b9X (w0 w1:Int) (w2:Bool):Int:=a9W N w0 w1 w2 (fun p=>p)
def d2z:=(d2y N).c0 (b5O N) 32 100 [0,5] [0] ⟨[(0,cP 0),(5,cI),(7,cI),(67,cB)],[(0,.dat 223)]⟩ (fun L _=>a9W N (li L 0) (li L 1) (lb L 2)) (fun s m L p=>(.normal,m [(5,.c (.i .i64 p))] [])) fun _ _=>by unfold a9W;exact kk
def a9X (w0:Int) (w1:Bool) (w9:LD) (w11:Bool) (w16:Int) (k0:Int→Option R):Option R:=
 bif w1 then
  bif (((decide (0≤w16))&&(decide (w16≤(IntKind.wrap .i64 (w16+4)))))&&(decide ((IntKind.wrap .i64 (w16+4))≤(w9.length:Int)))) then
   bnd (((w9.take (IntKind.wrap .i64 (w16+4)).toNat).drop w16.toNat):List D) fun y0=>
   bnd (c8z N y0 w11) fun y1=>
   bif y1.isSome then
    bnd (b9M N 4 false) fun y2=>
    bif y2.isSome then
     bnd (b9X N w0 (y1.getD default) ((y1.getD default) !=(y2.getD default))) fun y3=>
     k0 y3
    else
     none
   else
    none
  else
   none
 else
  k0 w0
def b9Y (w0:Int) (w1:Bool) (w9:LD) (w11:Bool) (w16:Int):Option (Int):=a9X N w0 w1 w9 w11 w16 some
def d2A:=(d2z N).c1 (b5O N) 26 100 [0,5] [0] ⟨[(0,cP 0),(3,cP 4),(5,cI),(6,cP 7),(49,cB)],[(0,.dat 223),(4,d5S),(7,d5T)]⟩ (fun L _=>a9X N (li L 0) (lb L 1) (ll L 9) (lb L 11) (li L 16)) (fun s m L p=>(.normal,m [(5,.c (.i .i64 p))] [])) fun _ _=>by unfold a9X;exact bb
def a4G (w0:Int) (w1:Bool) (w2:D) (w5:Int) (w9:LD) (w11:Bool) (w16:Int) (k0:Int→Option R):Option R:=
 bif w1 then
  bnd (IntKind.wrap .i64 ((IntKind.wrap .i64 (w5-((w2.cell 96).toI.tmod 32)))+32)) fun y0=>
  k0 (IntKind.wrap .i64 ((w2.cell 96).toI+(y0.tmod 32)))
 else
  bnd (b9Y N w0 (decide (w16≥0)) w9 w11 w16) fun y1=>
  bif y1.isSome then
   k0 (y1.getD default)
  else
   none
def b1A (w0:Int) (w1:Bool) (w2:D) (w5:Int) (w9:LD) (w11:Bool) (w16:Int):Option (Int):=a4G N w0 w1 w2 w5 w9 w11 w16 some
def d2B:=(d2A N).c1 (b5O N) 21020 100 [0,5] [0] ⟨[(0,cP 0),(3,cP 4),(5,cI),(6,cP 7),(30,cB)],[(0,.dat 223),(4,d5S),(7,d5T)]⟩ (fun L _=>a4G N (li L 0) (lb L 1) (ld L 2) (li L 5) (ll L 9) (lb L 11) (li L 16)) (fun s m L p=>(.normal,m [(5,.c (.i .i64 p))] [])) fun _ _=>by unfold a4G;exact bb
def a4H (w0:Int) (w1:Bool) (w2:D) (w3 w4 w5:Int) (w7 w9:LD) (w11:Bool) (w16:Int) (k0:Int×D→Option R):Option R:=
 bif w1 then
  bif (inB 0 w7.length) then
   bnd (c8x N ((w7.getD 0 (.i 0)).cell 2).items) fun y0=>
   bif y0.isSome then
    bif (inB w4 16) then
     bnd (((((((w2.put (0+(w4.toNat*6)) (.b true)).put (1+(w4.toNat*6)) (.b ((w7.getD 0 (.i 0)).cell 0).toB)).put (2+(w4.toNat*6)) (.i ((w7.getD 0 (.i 0)).cell 1).toI)).put (3+(w4.toNat*6)) (.l ((w7.getD 0 (.i 0)).cell 2).isNil ((w7.getD 0 (.i 0)).cell 2).items)).put (4+(w4.toNat*6)) (.i (y0.getD default).1)).put (5+(w4.toNat*6)) (.i (y0.getD default).2)):D) fun y1=>
     k0 (w0,y1)
    else
     none
   else
    none
  else
   none
 else
  bnd (b1A N w0 (w3==3) w2 w5 w9 w11 w16) fun y2=>
  bif y2.isSome then
   k0 ((y2.getD default),w2)
  else
   none
def b1B (w0:Int) (w1:Bool) (w2:D) (w3 w4 w5:Int) (w7 w9:LD) (w11:Bool) (w16:Int):Option (Int×D):=a4H N w0 w1 w2 w3 w4 w5 w7 w9 w11 w16 some
def d2C:=(d2B N).c1 (b5O N) 15014 100 [0,5] [0] ⟨[(0,cP 0),(3,cP 4),(5,cI),(6,cP 7),(15,cB)],[(0,.dat 223),(4,d5S),(7,d5T)]⟩ (fun L _=>a4H N (li L 0) (lb L 1) (ld L 2) (li L 3) (li L 4) (li L 5) (ll L 7) (ll L 9) (lb L 11) (li L 16)) (fun s m L p=>(.normal,⟨[(0,.c (.p 0 0)),(5,.c (.i .i64 p.1))],[(0,.dat 223 p.2)]⟩)) fun _ _=>by unfold a4H;exact bb
def a6O (N:Nat) (w0:Int) (w1:Bool) (w2:D) (k0:D→R):R:=
 bif w1 then
  k0 (w2.put 96 (.i w0))
 else
  k0 w2
def a9Y (w0:Int) (w1:Bool) (w2:D):D:=a6O N w0 w1 w2 (fun p=>p)
def d2D:=(d2C N).c0 (b5O N) 38 100 [5] [0] ⟨[(0,cP 0),(5,cI),(70,cB)],[(0,.dat 223)]⟩ (fun L _=>a6O N (li L 0) (lb L 1) (ld L 2)) (fun s m L p=>(.normal,⟨[(5,.c (.i .i64 (li L 0)))],[(0,.dat 223 p)]⟩)) fun _ _=>by unfold a6O;exact kk
def c3L (v0 v1 v2:Int) (v4 v6:LD) (v7:D) (k0:Int×D→Option R):Option R:=
 bif (inB v1 16) then
  bnd (b1B N (-1) (v0==1) v7 v0 v1 v2 v4 v6 (v7.cell (1+(v1.toNat*6))).toB (v7.cell (5+(v1.toNat*6))).toI) fun y0=>
  bif y0.isSome then
   bnd (a9Y N (y0.getD default).1 (decide ((y0.getD default).1≥0)) (y0.getD default).2) fun y1=>
   k0 ((y0.getD default).1,y1)
  else
   none
 else
  none
def c8A (v0 v1 v2:Int) (v4 v6:LD) (v7:D):Option (Int×D):=c3L N v0 v1 v2 v4 v6 v7 some
def d4L:=(d2D N).f1 (b5O N) ⟨[(0,cP 0),(1,e3W)],[(0,.dat 223)]⟩ (fun L _=>c3L N (li L 0) (li L 1) (li L 2) (ll L 4) (ll L 6) (ld L 7)) (fun L p=>([.c (.i .i64 p.1)],[(0,.dat 223 p.2)])) fun _ _=>by unfold c3L;exact bb
def d80 (N:Nat):Sg Tryz.prog 0 72:= .start [(15,[3,13,14,15],[12000000002],[])] [(0,[0]),(1,[1]),(2,[]),(3,[1]),(4,[1,3]),(5,[15,14,13,3]),(6,[13,15,3,14]),(7,[3,5,15,14,13]),(8,[6,3,5,15,14,13]),(9,[6]),(10,[3,5,15,14,13]),(11,[15,14,13,3]),(12,[])]
def b2P (w1:LD) (w2:Int) (w3:Int) (w4:D) (kr:Int→D→Option R) (k0:Int→Option R) (k1:Unit→Option R):Option R:=
 bif (decide (w3<w2)) then
  bif (inB w3 w1.length) then
   bnd (c8v N ((w1.getD w3.toNat (.i 0)).cell 0).toI ((w1.getD w3.toNat (.i 0)).cell 1).toI ((w1.getD w3.toNat (.i 0)).cell 2).toI ((w1.getD w3.toNat (.i 0)).cell 3).items ((w1.getD w3.toNat (.i 0)).cell 4).items w4) fun y0=>
   bif y0.isSome then
    bif ((y0.getD default) !=0) then
     k0 (y0.getD default)
    else
     bnd (c8A N ((w1.getD w3.toNat (.i 0)).cell 0).toI ((w1.getD w3.toNat (.i 0)).cell 1).toI ((w1.getD w3.toNat (.i 0)).cell 2).toI ((w1.getD w3.toNat (.i 0)).cell 3).items ((w1.getD w3.toNat (.i 0)).cell 4).items w4) fun y1=>
     bif y1.isSome then
      kr (IntKind.wrap .i64 (w3+1)) (y1.getD default).2
     else
      none
   else
    none
  else
   none
 else
  k1 ()
def a9Z (N:Nat) {R:Type} (w1:LD) (w2:Int):Nat→Int→D→(Int→Option R)→(Unit→Option R)→Option R
 |0,_,_,_,_=>none
 |m+1,w3,w4,k0,k1=>b2P N w1 w2 w3 w4 (fun w3 w4=>a9Z N w1 w2 m w3 w4 k0 k1) k0 k1
def b7z (w1:LD) (w2:Int) (w3:Int) (w4:D):Option (Sum (Int) (Unit)):=a9Z N (R:=(Sum (Int) (Unit))) w1 w2 N w3 w4 (fun p=>some (.inl p)) (fun p=>some (.inr p))
def d81:=(d80 N).l2 (d4L N) 15 [3,4] [2] [] ⟨[(3,cP 12000000002),(13,cL 154),(14,cI),(15,cI)],[(12000000002,.dat 223)]⟩ N (fun L x _ kr=>b2P N (ll L 1) (li L 2) (li x 0) (ld x 1) (fun w3 w4=>kr [.i w3,.d w4])) (fun L m x=>a9Z N (ll L 1) (li L 2) m (li x 0) (ld x 1) (fun p=>some (.inl p)) (fun p=>some (.inr p))) (fun s m L p=>(.ret,⟨[(2,.c (.i .i64 p))],[]⟩)) (fun s m L _=>((.exit 0),⟨[],[]⟩)) fun _ _ _ _ _ _=>by unfold b2P;exact bb
def c8B (v1:LD) (k0:Int→Option R):Option R:=
 bif (decide ((v1.length:Int)>50000)) then
  k0 3
 else
  bnd (b9P N) fun y0=>
  bnd (b7z N v1 (v1.length:Int) 0 y0) fun y1=>
  bif (a0U y1) then
   k0 (a1E y1)
  else
   bif (a0n y1).isSome then
    k0 0
   else
    none
def c8C (v1:LD):Option (Int):=c8B N v1 some
def d82:=(d81 N).f1 (d4L N) ⟨[(0,.g ([.sl 154]))],[]⟩ (fun L _=>c8B N (ll L 1)) (fun L p=>([.c (.i .i64 p)],[])) fun _ _=>by unfold c8B;exact bb
def d83 (N:Nat):Sg Tryz.prog 0 73:= .start [(29,[3,4,42],[3,40],[]),(39,[4,60,61,62],[4,58],[4])] [(0,[0]),(1,[1]),(2,[8,1]),(4,[8,1]),(5,[1]),(3,[1]),(6,[1]),(7,[1,3]),(8,[3,4]),(9,[4,3]),(10,[4,3]),(11,[4,3]),(12,[3,4]),(13,[62,61,60,4]),(14,[60,62,4,61]),(15,[4,6,62,61,60]),(16,[62,61,60,4]),(17,[4])]
def b7A (N:Nat) (w0:Bool) (w6:LD) (k0:LD→Option R):Option R:=
 bif w0 then
  bif (inB 1 w6.length) then
   bif (decide (1<w6.length)) then
    k0 (w6.set 1 (.i 1))
   else
    none
  else
   none
 else
  k0 w6
def c3M (w0:Bool) (w6:LD):Option (LD):=b7A N w0 w6 some
def d84:=(d83 N).c1 (d82 N) 29 100 [3,4] [3,40] ⟨[(3,cP 3),(4,cO 40),(42,cB)],[(3,.box ([.b,.i .i64,.sl 144])),(40,.row 5 true)]⟩ (fun L _=>b7A N (lb L 0) (ll L 6)) (fun s m L p=>(.normal,m [] [(40,.row 5 true (lb L 5) p)])) fun _ _=>by unfold b7A;exact bb
def a90 (N:Nat) (w1:LD) (w2:Int) (w3:Int) (w4:Bool) (w5:LD) (kr:Int→Bool→LD→Option R) (k0:Bool×LD→Option R):Option R:=
 bif (decide (w3<w2)) then
  bif (inB w3 w1.length) then
   bif (decide ((w5.length+3)*1≤a0X)&&decide ((w5.length+3)≤a0c)) then
    bnd ((w5++[(.i (IntKind.wrap .u8 ((w1.getD w3.toNat (.i 0)).cell 0).toI)),(.i (IntKind.wrap .u8 ((w1.getD w3.toNat (.i 0)).cell 1).toI)),(.i (IntKind.wrap .u8 ((w1.getD w3.toNat (.i 0)).cell 2).toI))]):List D) fun y0=>
    kr (IntKind.wrap .i64 (w3+1)) false y0
   else
    none
  else
   none
 else
  k0 (w4,w5)
end
end Go.Proofs.YtcdhfpkfmekabaaGreatDoor
