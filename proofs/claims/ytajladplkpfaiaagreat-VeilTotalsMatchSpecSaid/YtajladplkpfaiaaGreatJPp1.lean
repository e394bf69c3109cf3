/- Functions of the program as plain Lean definitions, each with the proof that the program computes it. No condition. Printed by a program of the prover, part 1. -/
import Derived.Test.YtajladplkpfaiaaGreatHk1
import Derived.Test.YtajladplkpfaiaaGreatChecked
import Derived.KernelRfl
set_option linter.all false
set_option maxRecDepth 100000
set_option maxHeartbeats 4000000
namespace Go.Proofs.YtajladplkpfaiaaGreat
open Go Go.AM
noncomputable section
variable (N:Nat) {R:Type}
abbrev LD:Type:=List D
abbrev LB:Type:=List UInt8
abbrev Ty0:Type:=Bool×LD×Bool×LD×Bool×LD×Bool×LD×Bool×LD
abbrev Ty1:Type:=LB×Int×Bool×LD×Bool×LD×Bool×LD
abbrev Ty2:Type:=Bool×Bool×Bool×Bool×Bool×Bool×Bool×Bool×LD
abbrev Ty3:Type:=Bool×Bool×Bool×Bool×Bool×Bool×LD×Bool×Bool
abbrev Ty4:Type:=Int×Int×Int×Int×Int×Int×Int×Int×Int×Int×Int
abbrev Ty5:Type:=Int×Int×Int×Int×Int×Int×LB
abbrev Ty6:Type:=Bool×Bool×Bool×Bool×Bool×Bool×Bool
abbrev Ty7:Type:=Int×Int×Int×Int×Int×Int×Int×Int
abbrev Ty8:Type:=Bool×LD×Bool×LD
abbrev Ty9:Type:=(List (D×D))×Bool×LD
abbrev e2M:Type:=Int×Int×Int×LB
abbrev e2N:Type:=LD×LD×LD
abbrev e2O:Type:=Int×Int×Int×Int×Int
def d5D (N:Nat):Sg Tryz.prog 0 21:= .start [] [(0,[0,1,2]),(1,[0,1,2])]
def d0E (N:Nat) (v0 v1 v2:Int) (k0:Bool→R):R:=
 k0 (bif (decide (v0≥v1)) then (decide (v0≤v2)) else false)
def b2b (v0 v1 v2:Int):Bool:=d0E N v0 v1 v2 (fun p=>p)
def e3j:=(d5D N).f0 (Oc.no a8w) ⟨[(0,.c (.i .i64)),(1,.c (.i .i64)),(2,.c (.i .i64))],[]⟩ (fun L _=>d0E N (li L 0) (li L 1) (li L 2)) (fun L p=>([.c (.b p)],[])) fun _ _=>by unfold d0E;exact kk
def d0F (N:Nat):Sg Tryz.prog 0 109:= .start [] [(0,[0]),(1,[0])]
def c3O (N:Nat) (v0:Int) (k0:Bool→R):R:=
 k0 (bif (decide (v0≥48)) then (decide (v0≤57)) else false)
def d4k (v0:Int):Bool:=c3O N v0 (fun p=>p)
def c8b:=(d0F N).f0 (e3j N) ⟨[(0,.c (.i .u8))],[]⟩ (fun L _=>c3O N (li L 0)) (fun L p=>([.c (.b p)],[])) fun _ _=>by unfold c3O;exact kk
def d5E (N:Nat):Sg Tryz.prog 0 72:= .start [(6,[0,7,8],[],[]),(19,[0,4,5,7,8],[],[])] [(0,[0]),(1,[0]),(2,[8,7,0]),(3,[8,0,7]),(4,[0,3,8,7]),(5,[4,8,7,0]),(6,[5,4,8,7,0]),(7,[]),(8,[8,7,0]),(9,[0])]
def b2q (w1:Int) (w2:Bool) (k0:Bool→R):R:=
 bif (!w2) then
  bnd (d4k N w1) fun y0=>
  bnd (bif (bif (!y0) then (w1 !=45) else false) then (w1 !=95) else false) fun y1=>
  k0 (bif y1 then (w1 !=46) else false)
 else
  k0 false
def c3P (w1:Int) (w2:Bool):Bool:=b2q N w1 w2 (fun p=>p)
def d5F:=(d5E N).c0 (c8b N) 19 100 [0,7,8,46] [] ⟨[(0,.c (.s)),(4,.c (.i .u8)),(5,.c (.b)),(7,.c (.i .i64)),(8,.c (.i .i64))],[]⟩ (fun L _=>b2q N (li L 1) (lb L 2)) (fun s m L p=>(.normal,m [(46,.c (.b p))] [])) fun _ _=>by unfold b2q;exact kk
def b0J (w0:LB) (w1:Int) (w2:Int) (kr:Int→Option R) (k0:Unit→Option R) (k1:Unit→Option R):Option R:=
 bif (decide (w2<w1)) then
  bif (inB w2 w0.length) then
   bnd (bif (decide (((w0.getD w2.toNat 0).toNat:Int)≥97)) then (decide (((w0.getD w2.toNat 0).toNat:Int)≤122)) else false) fun y0=>
   bnd (bif y0 then true else (bif (decide (((w0.getD w2.toNat 0).toNat:Int)≥65)) then (decide (((w0.getD w2.toNat 0).toNat:Int)≤90)) else false)) fun y1=>
   bnd (c3P N ((w0.getD w2.toNat 0).toNat:Int) y1) fun y2=>
   bif y2 then
    k0 ()
   else
    kr (IntKind.wrap .i64 (w2+1))
  else
   none
 else
  k1 ()
def b7m (N:Nat) {R:Type} (w0:LB) (w1:Int):Nat→Int→(Unit→Option R)→(Unit→Option R)→Option R
 |0,_,_,_=>none
 |m+1,w2,k0,k1=>b0J N w0 w1 w2 (fun w2=>b7m N w0 w1 m w2 k0 k1) k0 k1
def c1X (w0:LB) (w1:Int) (w2:Int):Option (Sum (Unit) (Unit)):=b7m N (R:=(Sum (Unit) (Unit))) w0 w1 N w2 (fun p=>some (.inl p)) (fun p=>some (.inr p))
def d5G:=(d5F N).l2 (c8b N) 6 [2] [0,2] [] ⟨[(0,.c (.s)),(7,.c (.i .i64)),(8,.c (.i .i64))],[]⟩ N (fun L x _ kr=>b0J N (ls L 0) (li L 1) (li x 0) (fun w2=>kr [.i w2])) (fun L m x=>b7m N (ls L 0) (li L 1) m (li x 0) (fun p=>some (.inl p)) (fun p=>some (.inr p))) (fun s m L _=>(.ret,⟨[(2,.c (.b false))],[]⟩)) (fun s m L _=>((.exit 0),⟨[(0,.c (.s (ls L 0)))],[]⟩)) fun _ _ _ _ _ _=>by unfold b0J;exact bb
def d0G (v0:LB) (k0:Bool→Option R):Option R:=
 bnd (c1X N v0 (v0.length:Int) 0) fun y0=>
 bif (a1x y0) then
  k0 false
 else
  bif (a0w y0).isSome then
   bnd (bif (decide ((v0.length:Int)≥1)) then (decide ((v0.length:Int)≤60)) else false) fun y1=>
   k0 y1
  else
   none
def c8c (v0:LB):Option (Bool):=d0G N v0 some
def c0i:=(d5G N).f1 (c8b N) ⟨[(0,.c (.s))],[]⟩ (fun L _=>d0G N (ls L 0)) (fun L p=>([.c (.b p)],[])) fun _ _=>by unfold d0G;exact bb
def d5H (N:Nat):Sg Tryz.prog 0 93:= .start [(28,[1,3],[1,3],[]),(89,[1,3,84],[1,3],[]),(84077,[1,3,18,77],[1,3],[]),(72065,[1,3,18,70],[1,3],[]),(60053,[1,3,18,63],[1,3],[]),(48041,[1,3,18,40],[1,3],[]),(36029,[1,3,18,19],[1,3],[])] [(0,[0]),(1,[1]),(3,[1]),(4,[]),(2,[]),(5,[1]),(6,[3,1]),(7,[1,3]),(8,[18,1,3]),(12,[18,1,3]),(16,[18,1,3]),(20,[18,1,3]),(24,[18,1,3]),(28,[18,1,3]),(29,[1,3]),(30,[]),(31,[3]),(25,[1,3]),(26,[]),(27,[3]),(21,[1,3]),(22,[]),(23,[3]),(17,[1,3]),(18,[]),(19,[3]),(13,[1,3]),(14,[]),(15,[3]),(9,[1,3]),(10,[]),(11,[3]),(32,[3]),(33,[]),(34,[])]
def b2r (w2 w3 w4:Int) (k0:Bool→R):R:=
 bnd (b2b N w2 (-100000000) 100000000) fun y0=>
 bif (!y0) then
  k0 true
 else
  bnd (b2b N w3 (-100000000) 100000000) fun y1=>
  bif (!y1) then
   k0 true
  else
   bnd (b2b N w4 0 1000000) fun y2=>
   k0 (!y2)
def c3Q (w2 w3 w4:Int):Bool:=b2r N w2 w3 w4 (fun p=>p)
def d5I:=(d5H N).c0 (c0i N) 28 100 [3,36] [3] ⟨[(1,.c (.p 1 0)),(3,.c (.p 3 0))],[(1,.box (rI 8 ([.s]))),(3,.box (rI 8 ([.s])))]⟩ (fun L _=>b2r N (li L 2) (li L 3) (li L 4)) (fun s m L p=>(.normal,m [(36,.c (.b p))] [])) fun _ _=>by unfold b2r;exact kk
def a7k (w0:Bool) (w9 w18:LB) (k0:Unit→Option R) (k1:LB→Option R):Option R:=
 bif w0 then
  bnd (c8c N w9) fun y0=>
  bif y0.isSome then
   bif (!(y0.getD default)) then
    k0 ()
   else
    k1 ([]:List UInt8)
  else
   none
 else
  k1 w18
def b2s (w0:Bool) (w9 w18:LB):Option (Sum (Unit) (LB)):=a7k N w0 w9 w18 (fun p=>some (.inl p)) (fun p=>some (.inr p))
def d5J:=(d5I N).c2 (c0i N) 89 100 [2,3] [3] ⟨[(1,.c (.p 1 0)),(3,.c (.p 3 0)),(84,.c (.b))],[(1,.box (rI 8 ([.s]))),(3,.box (rI 8 ([.s])))]⟩ (fun L _=>a7k N (lb L 0) (ls L 9) (ls L 18)) (fun s m L _=>(.ret,mg s [2] [(2,.c (.i .i64 8))] [3] [])) (fun s m L p=>(.normal,⟨[(3,.c (.p 3 0))],[(3,.box (rL L 10 8 ([.s p])))]⟩)) fun _ _ _=>by unfold a7k;exact bb
def a2I (w0:Int) (w1:Bool) (w9:Int) (w10:LB) (w18:Int) (w19:LB) (k0:Int→Option R) (k1:Int×LB→Option R):Option R:=
 bif w1 then
  bnd (b2b N w9 1 5) fun y0=>
  bif (!y0) then
   k0 7
  else
   k1 (0,w19)
 else
  bnd (b2s N (w0==4) w10 w19) fun y1=>
  bif (a1x y1) then
   k0 8
  else
   bif (a0w y1).isSome then
    k1 (w18,((a0w y1).getD default))
   else
    none
def a4u (w0:Int) (w1:Bool) (w9:Int) (w10:LB) (w18:Int) (w19:LB):Option (Sum (Int) (Int×LB)):=a2I N w0 w1 w9 w10 w18 w19 (fun p=>some (.inl p)) (fun p=>some (.inr p))
def d5K:=(d5J N).c2 (c0i N) 84077 100 [2,3] [3] ⟨[(1,.c (.p 1 0)),(3,.c (.p 3 0)),(18,.c (.i .i64)),(77,.c (.b))],[(1,.box (rI 8 ([.s]))),(3,.box (rI 8 ([.s])))]⟩ (fun L _=>a2I N (li L 0) (lb L 1) (li L 9) (ls L 10) (li L 18) (ls L 19)) (fun s m L p=>(.ret,mg s [2] [(2,.c (.i .i64 p))] [3] [])) (fun s m L p=>(.normal,⟨[(3,.c (.p 3 0))],[(3,.box (rL L 11 7 ([.i .i64 p.1,.s p.2])))]⟩)) fun _ _ _=>by unfold a2I;exact bb
def a2i (w0:Int) (w1:Bool) (w9:Int) (w10:LB) (w18:Int) (w19:LB) (k0:Int→Option R) (k1:Int×LB→Option R):Option R:=
 bif w1 then
  bnd (b2b N w9 1 1000000) fun y0=>
  bif (!y0) then
   k0 9
  else
   k1 (0,w19)
 else
  bnd (a4u N w0 (w0==5) w9 w10 w18 w19) fun y1=>
  bif (a1x y1) then
   k0 (a2t y1)
  else
   bif (a0w y1).isSome then
    k1 ((a0w y1).getD default)
   else
    none
def a3r (w0:Int) (w1:Bool) (w9:Int) (w10:LB) (w18:Int) (w19:LB):Option (Sum (Int) (Int×LB)):=a2i N w0 w1 w9 w10 w18 w19 (fun p=>some (.inl p)) (fun p=>some (.inr p))
def d5L:=(d5K N).c2 (c0i N) 72065 100 [2,3] [3] ⟨[(1,.c (.p 1 0)),(3,.c (.p 3 0)),(18,.c (.i .i64)),(70,.c (.b))],[(1,.box (rI 8 ([.s]))),(3,.box (rI 8 ([.s])))]⟩ (fun L _=>a2i N (li L 0) (lb L 1) (li L 9) (ls L 10) (li L 18) (ls L 19)) (fun s m L p=>(.ret,mg s [2] [(2,.c (.i .i64 p))] [3] [])) (fun s m L p=>(.normal,⟨[(3,.c (.p 3 0))],[(3,.box (rL L 11 7 ([.i .i64 p.1,.s p.2])))]⟩)) fun _ _ _=>by unfold a2i;exact bb
def a10 (w0:Int) (w1:Bool) (w9:Int) (w10:LB) (w18:Int) (w19:LB) (k0:Int→Option R) (k1:Int×LB→Option R):Option R:=
 bif w1 then
  bnd (b2b N w9 1 4) fun y0=>
  bif (!y0) then
   k0 9
  else
   k1 (0,w19)
 else
  bnd (a3r N w0 (w0==8) w9 w10 w18 w19) fun y1=>
  bif (a1x y1) then
   k0 (a2t y1)
  else
   bif (a0w y1).isSome then
    k1 ((a0w y1).getD default)
   else
    none
def a2J (w0:Int) (w1:Bool) (w9:Int) (w10:LB) (w18:Int) (w19:LB):Option (Sum (Int) (Int×LB)):=a10 N w0 w1 w9 w10 w18 w19 (fun p=>some (.inl p)) (fun p=>some (.inr p))
def d5M:=(d5L N).c2 (c0i N) 60053 100 [2,3] [3] ⟨[(1,.c (.p 1 0)),(3,.c (.p 3 0)),(18,.c (.i .i64)),(63,.c (.b))],[(1,.box (rI 8 ([.s]))),(3,.box (rI 8 ([.s])))]⟩ (fun L _=>a10 N (li L 0) (lb L 1) (li L 9) (ls L 10) (li L 18) (ls L 19)) (fun s m L p=>(.ret,mg s [2] [(2,.c (.i .i64 p))] [3] [])) (fun s m L p=>(.normal,⟨[(3,.c (.p 3 0))],[(3,.box (rL L 11 7 ([.i .i64 p.1,.s p.2])))]⟩)) fun _ _ _=>by unfold a10;exact bb
def a1D (w0:Int) (w1:Bool) (w7 w8 w9:Int) (w10:LB) (w16 w17 w18:Int) (w19:LB) (k0:Int→Option R) (k1:e2M→Option R):Option R:=
 bif w1 then
  bnd (bif (bif (decide (w7<0)) then true else (decide (w7>w8))) then true else (decide (w8≥86400))) fun y0=>
  bif y0 then
   k0 9
  else
   k1 (0,0,w18,w19)
 else
  bnd (a2J N w0 (w0==3) w9 w10 w18 w19) fun y1=>
  bif (a1x y1) then
   k0 (a2t y1)
  else
   bif (a0w y1).isSome then
    k1 (w16,w17,((a0w y1).getD default).1,((a0w y1).getD default).2)
   else
    none
def a2j (w0:Int) (w1:Bool) (w7 w8 w9:Int) (w10:LB) (w16 w17 w18:Int) (w19:LB):Option (Sum (Int) (e2M)):=a1D N w0 w1 w7 w8 w9 w10 w16 w17 w18 w19 (fun p=>some (.inl p)) (fun p=>some (.inr p))
def d5N:=(d5M N).c2 (c0i N) 48041 100 [2,3] [3] ⟨[(1,.c (.p 1 0)),(3,.c (.p 3 0)),(18,.c (.i .i64)),(40,.c (.b))],[(1,.box (rI 8 ([.s]))),(3,.box (rI 8 ([.s])))]⟩ (fun L _=>a1D N (li L 0) (lb L 1) (li L 7) (li L 8) (li L 9) (ls L 10) (li L 16) (li L 17) (li L 18) (ls L 19)) (fun s m L p=>(.ret,mg s [2] [(2,.c (.i .i64 p))] [3] [])) (fun s m L p=>(.normal,⟨[(3,.c (.p 3 0))],[(3,.box (rL L 11 5 ([.i .i64 p.1,.i .i64 p.2.1,.i .i64 p.2.2.1,.s p.2.2.2])))]⟩)) fun _ _ _=>by unfold a1D;exact bb
def a09 (w0:Int) (w1:Bool) (w4 w5 w6 w7 w8 w9:Int) (w10:LB) (w13 w14 w15 w16 w17 w18:Int) (w19:LB) (k0:Int→Option R) (k1:Ty5→Option R):Option R:=
 bif w1 then
  bnd (c3Q N w4 w5 w6) fun y0=>
  bif y0 then
   k0 9
  else
   k1 (0,0,0,w16,w17,w18,w19)
 else
  bnd (a2j N w0 (w0==2) w7 w8 w9 w10 w16 w17 w18 w19) fun y1=>
  bif (a1x y1) then
   k0 (a2t y1)
  else
   bif (a0w y1).isSome then
    k1 (w13,w14,w15,((a0w y1).getD default).1,((a0w y1).getD default).2.1,((a0w y1).getD default).2.2.1,((a0w y1).getD default).2.2.2)
   else
    none
def a11 (w0:Int) (w1:Bool) (w4 w5 w6 w7 w8 w9:Int) (w10:LB) (w13 w14 w15 w16 w17 w18:Int) (w19:LB):Option (Sum (Int) (Ty5)):=a09 N w0 w1 w4 w5 w6 w7 w8 w9 w10 w13 w14 w15 w16 w17 w18 w19 (fun p=>some (.inl p)) (fun p=>some (.inr p))
def d5O:=(d5N N).c2 (c0i N) 36029 100 [2,3] [3] ⟨[(1,.c (.p 1 0)),(3,.c (.p 3 0)),(18,.c (.i .i64)),(19,.c (.b))],[(1,.box (rI 8 ([.s]))),(3,.box (rI 8 ([.s])))]⟩ (fun L _=>a09 N (li L 0) (lb L 1) (li L 4) (li L 5) (li L 6) (li L 7) (li L 8) (li L 9) (ls L 10) (li L 13) (li L 14) (li L 15) (li L 16) (li L 17) (li L 18) (ls L 19)) (fun s m L p=>(.ret,mg s [2] [(2,.c (.i .i64 p))] [3] [])) (fun s m L p=>let p1:=p.2;let p2:=p1.2;let p3:=p2.2;let p4:=p3.2;let p5:=p4.2;let p6:=p5.2;(.normal,⟨[(3,.c (.p 3 0))],[(3,.box [.i .i64 (li L 11),.i .i64 (li L 12),.i .i64 p.1,.i .i64 p1.1,.i .i64 p2.1,.i .i64 p3.1,.i .i64 p4.1,.i .i64 p5.1,.s p6])]⟩)) fun _ _ _=>by unfold a09;exact bb
def d0H (v0 v1 v2 v3 v4 v5 v6 v7:Int) (v8:LB) (k0:Int→Option R):Option R:=
 bnd (b2b N v1 1 8) fun y0=>
 bif (!y0) then
  k0 7
 else
  bnd (b2b N v0 1 3) fun y1=>
  bif (!y1) then
   k0 9
  else
   bnd (a11 N v1 (v1==1) v2 v3 v4 v5 v6 v7 v8 v2 v3 v4 v5 v6 v7 v8) fun y2=>
   bif (a1x y2) then
    k0 (a2t y2)
   else
    bif (a0w y2).isSome then
     bnd (!((((a0w y2).getD default).1==0)&&((((a0w y2).getD default).2.1==0)&&((((a0w y2).getD default).2.2.1==0)&&(((((a0w y2).getD default).2.2.2.1==0)&&((((a0w y2).getD default).2.2.2.2.1==0)&&true))&&((((a0w y2).getD default).2.2.2.2.2.1==0)&&((((a0w y2).getD default).2.2.2.2.2.2==([]:List UInt8))&&true))))))) fun y3=>
     bif y3 then
      k0 2
     else
      k0 0
    else
     none
def d5P (v0 v1 v2 v3 v4 v5 v6 v7:Int) (v8:LB):Option (Int):=d0H N v0 v1 v2 v3 v4 v5 v6 v7 v8 some
def e1c:=(d5O N).f1 (c0i N) ⟨[(0,.g (rI 8 ([.s])))],[]⟩ (fun L _=>d0H N (li L 0) (li L 1) (li L 2) (li L 3) (li L 4) (li L 5) (li L 6) (li L 7) (ls L 8)) (fun L p=>([.c (.i .i64 p)],[])) fun _ _=>by unfold d0H;exact bb
def d5Q (N:Nat):Sg Tryz.prog 0 60:= .start [(12,[11,12,13],[],[])] [(0,[0]),(1,[1]),(2,[]),(3,[1]),(4,[13,12,11]),(5,[11,13,12]),(6,[4,13,12,11]),(7,[5,13,12,11]),(8,[5]),(9,[13,12,11]),(10,[])]
def a7l (w1:LD) (w2:Int) (w3:Int) (kr:Int→Option R) (k0:Int→Option R) (k1:Unit→Option R):Option R:=
 bif (decide (w3<w2)) then
  bif (inB w3 w1.length) then
   bnd (d5P N ((w1.getD w3.toNat (.i 0)).cell 0).toI ((w1.getD w3.toNat (.i 0)).cell 1).toI ((w1.getD w3.toNat (.i 0)).cell 2).toI ((w1.getD w3.toNat (.i 0)).cell 3).toI ((w1.getD w3.toNat (.i 0)).cell 4).toI ((w1.getD w3.toNat (.i 0)).cell 5).toI ((w1.getD w3.toNat (.i 0)).cell 6).toI ((w1.getD w3.toNat (.i 0)).cell 7).toI ((w1.getD w3.toNat (.i 0)).cell 8).toS) fun y0=>
   bif y0.isSome then
    bif ((y0.getD default) !=0) then
     k0 (y0.getD default)
    else
     kr (IntKind.wrap .i64 (w3+1))
   else
    none
  else
   none
 else
  k1 ()
def b2t (N:Nat) {R:Type} (w1:LD) (w2:Int):Nat→Int→(Int→Option R)→(Unit→Option R)→Option R
 |0,_,_,_=>none
 |m+1,w3,k0,k1=>a7l N w1 w2 w3 (fun w3=>b2t N w1 w2 m w3 k0 k1) k0 k1
def b7n (w1:LD) (w2:Int) (w3:Int):Option (Sum (Int) (Unit)):=b2t N (R:=(Sum (Int) (Unit))) w1 w2 N w3 (fun p=>some (.inl p)) (fun p=>some (.inr p))
def d5R:=(d5Q N).l2 (e1c N) 12 [3] [2] [] ⟨[(11,.c (.sl 67)),(12,.c (.i .i64)),(13,.c (.i .i64))],[]⟩ N (fun L x _ kr=>a7l N (ll L 1) (li L 2) (li x 0) (fun w3=>kr [.i w3])) (fun L m x=>b2t N (ll L 1) (li L 2) m (li x 0) (fun p=>some (.inl p)) (fun p=>some (.inr p))) (fun s m L p=>(.ret,⟨[(2,.c (.i .i64 p))],[]⟩)) (fun s m L _=>((.exit 0),⟨[],[]⟩)) fun _ _ _ _ _ _=>by unfold a7l;exact bb
def d0I (v1:LD) (k0:Int→Option R):Option R:=
 bif (decide ((v1.length:Int)>50)) then
  k0 3
 else
  bnd (b7n N v1 (v1.length:Int) 0) fun y0=>
  bif (a1x y0) then
   k0 (a2t y0)
  else
   bif (a0w y0).isSome then
    k0 0
   else
    none
def d5S (v1:LD):Option (Int):=d0I N v1 some
def e3k:=(d5R N).f1 (e1c N) ⟨[(0,.g ([.sl 67]))],[]⟩ (fun L _=>d0I N (ll L 1)) (fun L p=>([.c (.i .i64 p)],[])) fun _ _=>by unfold d0I;exact bb
def d5T (N:Nat):Sg Tryz.prog 0 73:= .start [] [(0,[0,1,2]),(1,[0,1,2])]
def d0J (N:Nat) (v0 v1 v2:Int) (k0:Bool→R):R:=
 k0 (bif (decide (v0≥v1)) then (decide (v0≤v2)) else false)
def b4M (v0 v1 v2:Int):Bool:=d0J N v0 v1 v2 (fun p=>p)
def d5U:=(d5T N).f0 (e3k N) ⟨[(0,.c (.i .i64)),(1,.c (.i .i64)),(2,.c (.i .i64))],[]⟩ (fun L _=>d0J N (li L 0) (li L 1) (li L 2)) (fun L p=>([.c (.b p)],[])) fun _ _=>by unfold d0J;exact kk
def d5V (N:Nat):Sg Tryz.prog 0 74:= .start [(4,[1],[1],[]),(7,[1,3],[1],[])] [(0,[0]),(1,[1]),(2,[3,1])]
def b7o (w1 w2 w3:Int) (k0:Bool→R):R:=
 bnd (b4M N w1 (-100000000) 100000000) fun y0=>
 bif y0 then
  bnd (b4M N w2 (-100000000) 100000000) fun y1=>
  bif y1 then
   bnd (b4M N w3 (-100000) 100000) fun y2=>
   k0 y2
  else
   k0 false
 else
  k0 false
def c8d (w1 w2 w3:Int):Bool:=b7o N w1 w2 w3 (fun p=>p)
def d5W:=(d5V N).c0 (d5U N) 4 100 [1,3] [1] ⟨[(1,.c (.p 1 0))],[(1,.box (rI 7 ([])))]⟩ (fun L _=>b7o N (li L 1) (li L 2) (li L 3)) (fun s m L p=>(.normal,m [(3,.c (.b p))] [])) fun _ _=>by unfold b7o;exact kk
def b7p (w0:Bool) (w5 w6 w7:Int) (k0:Bool→R):R:=
 bif w0 then
  bnd (b4M N w5 (-1) 300) fun y0=>
  bif y0 then
   bnd (b4M N w6 (-1) 3000) fun y1=>
   bif y1 then
    bnd (b4M N w7 (-1) 300) fun y2=>
    k0 y2
   else
    k0 false
  else
   k0 false
 else
  k0 false
def c8e (w0:Bool) (w5 w6 w7:Int):Bool:=b7p N w0 w5 w6 w7 (fun p=>p)
def d5X:=(d5W N).c0 (d5U N) 7 100 [2] [] ⟨[(1,.c (.p 1 0)),(3,.c (.b))],[(1,.box (rI 7 ([])))]⟩ (fun L _=>b7p N (lb L 0) (li L 5) (li L 6) (li L 7)) (fun s m L p=>(.normal,⟨[(2,.c (.b p))],[]⟩)) fun _ _=>by unfold b7p;exact kk
def d0K (v1 v2 v3 v4 v5 v6:Int) (k0:Bool→R):R:=
 bnd (c8d N v1 v2 v3) fun y0=>
 bnd (c8e N y0 v4 v5 v6) fun y1=>
 k0 y1
def e1d (v1 v2 v3 v4 v5 v6:Int):Bool:=d0K N v1 v2 v3 v4 v5 v6 (fun p=>p)
def e3l:=(d5X N).f0 (d5U N) ⟨[(0,.g (rI 7 ([])))],[]⟩ (fun L _=>d0K N (li L 1) (li L 2) (li L 3) (li L 4) (li L 5) (li L 6)) (fun L p=>([.c (.b p)],[])) fun _ _=>by unfold d0K;exact kk
def d5Y (N:Nat):Sg Tryz.prog 0 18:= .start [] [(0,[0]),(1,[1]),(2,[3,1]),(3,[1,3]),(4,[])]
def d0L (N:Nat) (v4:LD) (k0:Int→Option R):Option R:=
 bif (decide ((v4.length:Int)>0)) then
  bif (inB (IntKind.wrap .i64 ((v4.length:Int)-1)) v4.length) then
   bnd ((v4.getD (IntKind.wrap .i64 ((v4.length:Int)-1)).toNat (.i 0)):D) fun y0=>
   k0 (y0.cell 0).toI
  else
   none
 else
  k0 0
def b5Q (v4:LD):Option (Int):=d0L N v4 some
def e1e:=(d5Y N).f1 (e3l N) ⟨[(0,.g (.s::[.i .i64,.i .i64,.sl 69,.sl 95,.sl 9]))],[]⟩ (fun L _=>d0L N (ll L 4)) (fun L p=>([.c (.i .i64 p)],[])) fun _ _=>by unfold d0L;exact bb
def d5Z (N:Nat):Sg Tryz.prog 0 75:= .start [(6,[0,5,6],[],[])] [(0,[0]),(1,[0]),(2,[6,5,0]),(3,[6,0,5]),(4,[0,3,6,5]),(5,[]),(6,[6,5,0]),(7,[0])]
def b0K (w0:LB) (w1:Int) (w2:Int) (kr:Int→Option R) (k0:Unit→Option R) (k1:Unit→Option R):Option R:=
 bif (decide (w2<w1)) then
  bif (inB w2 w0.length) then
   bnd (b4M N (IntKind.wrap .i64 ((w0.getD w2.toNat 0).toNat:Int)) 32 126) fun y0=>
   bif (!y0) then
    k0 ()
   else
    kr (IntKind.wrap .i64 (w2+1))
  else
   none
 else
  k1 ()
def b7q (N:Nat) {R:Type} (w0:LB) (w1:Int):Nat→Int→(Unit→Option R)→(Unit→Option R)→Option R
 |0,_,_,_=>none
 |m+1,w2,k0,k1=>b0K N w0 w1 w2 (fun w2=>b7q N w0 w1 m w2 k0 k1) k0 k1
def c1Y (w0:LB) (w1:Int) (w2:Int):Option (Sum (Unit) (Unit)):=b7q N (R:=(Sum (Unit) (Unit))) w0 w1 N w2 (fun p=>some (.inl p)) (fun p=>some (.inr p))
def d50:=(d5Z N).l2 (e1e N) 6 [2] [0,2] [] ⟨[(0,.c (.s)),(5,.c (.i .i64)),(6,.c (.i .i64))],[]⟩ N (fun L x _ kr=>b0K N (ls L 0) (li L 1) (li x 0) (fun w2=>kr [.i w2])) (fun L m x=>b7q N (ls L 0) (li L 1) m (li x 0) (fun p=>some (.inl p)) (fun p=>some (.inr p))) (fun s m L _=>(.ret,⟨[(2,.c (.b false))],[]⟩)) (fun s m L _=>((.exit 0),⟨[(0,.c (.s (ls L 0)))],[]⟩)) fun _ _ _ _ _ _=>by unfold b0K;exact bb
def d0M (v0:LB) (k0:Bool→Option R):Option R:=
 bnd (c1Y N v0 (v0.length:Int) 0) fun y0=>
 bif (a1x y0) then
  k0 false
 else
  bif (a0w y0).isSome then
   k0 (decide ((v0.length:Int)≤60))
  else
   none
def d51 (v0:LB):Option (Bool):=d0M N v0 some
def c0j:=(d50 N).f1 (e1e N) ⟨[(0,.c (.s))],[]⟩ (fun L _=>d0M N (ls L 0)) (fun L p=>([.c (.b p)],[])) fun _ _=>by unfold d0M;exact bb
def d52 (N:Nat):Sg Tryz.prog 0 38:= .start [(30,[1,43,44,45],[1],[]),(40,[1,3,4,43,44,45],[1,4],[]),(39002,[1,3,4,43,44,45,50],[1,4],[]),(46,[1,4,43,44,45],[1,4],[]),(60,[1,5,93,94,95],[1],[]),(73,[1,5,6,7,93,94,95],[1,7],[]),(90,[1,139,140,141],[1],[])] [(0,[0]),(1,[1]),(3,[1]),(5,[1]),(7,[1]),(8,[]),(6,[]),(4,[]),(2,[]),(9,[1]),(10,[45,44,43,1]),(11,[45,43,1,44]),(12,[3,4,1,45,44,43]),(13,[3,4,1,45,44,43]),(15,[4,1,45,44,43]),(16,[]),(14,[]),(17,[45,44,43,1]),(18,[1]),(19,[1,5]),(20,[95,94,93,5,1]),(21,[95,93,5,1,94]),(22,[7,5,6,1,95,94,93]),(24,[6,7,1,95,94,93,5]),(26,[7,95,94,93,5,1]),(27,[]),(25,[]),(23,[]),(28,[95,94,93,5,1]),(29,[1]),(30,[141,140,139,1]),(31,[141,139,1,140]),(32,[9,8,1,141,140,139]),(34,[8,9,1,141,140,139]),(35,[]),(33,[]),(36,[141,140,139,1]),(37,[])]
def b2u (N:Nat) (w0:Int) (w9:LD) (w14:Int) (k0:Bool→Option R):Option R:=
 bif (decide (w0>0)) then
  bif (inB (IntKind.wrap .i64 (w0-1)) w9.length) then
   bnd ((w9.getD (IntKind.wrap .i64 (w0-1)).toNat (.i 0)).cell 0).toI fun y0=>
   k0 (decide (w14≤y0))
  else
   none
 else
  k0 false
def c3R (w0:Int) (w9:LD) (w14:Int):Option (Bool):=b2u N w0 w9 w14 some
def d53:=(d52 N).c1 (c0j N) 40 100 [1,4,43,44,45,50] [1,4] ⟨[(1,.c (.p 1 0)),(3,.c (.i .i64)),(4,.c (.p 4 0)),(43,.c (.sl 69)),(44,.c (.i .i64)),(45,.c (.i .i64))],[(1,.box (.s::[.i .i64,.i .i64,.sl 69,.sl 95,.sl 9])),(4,.box (rI 7 ([])))]⟩ (fun L _=>b2u N (li L 0) (ll L 9) (li L 14)) (fun s m L p=>(.normal,m [(50,.c (.b p))] [])) fun _ _=>by unfold b2u;exact bb
def a5V (w0:Int) (w5:Bool) (w10:LD) (w15:Int) (k0:Bool→Option R):Option R:=
 bif w5 then
  k0 true
 else
  bnd (c3R N w0 w10 w15) fun y0=>
  bif y0.isSome then
   k0 (y0.getD default)
  else
   none
def a8W (w0:Int) (w5:Bool) (w10:LD) (w15:Int):Option (Bool):=a5V N w0 w5 w10 w15 some
def d54:=(d53 N).c1 (c0j N) 39002 100 [1,4,43,44,45,50] [1,4] ⟨[(1,.c (.p 1 0)),(3,.c (.i .i64)),(4,.c (.p 4 0)),(43,.c (.sl 69)),(44,.c (.i .i64)),(45,.c (.i .i64)),(50,.c (.b))],[(1,.box (.s::[.i .i64,.i .i64,.sl 69,.sl 95,.sl 9])),(4,.box (rI 7 ([])))]⟩ (fun L _=>a5V N (li L 0) (lb L 5) (ll L 10) (li L 15)) (fun s m L p=>(.normal,m [(50,.c (.b p))] [])) fun _ _=>by unfold a5V;exact bb
def b2v (w6 w13 w14 w15 w16 w17 w18 w19:Int) (k0:Bool→R):R:=
 bnd (bif (decide (w13>1000000)) then true else (decide ((IntKind.wrap .i64 (w6+w13))>86399999999))) fun y0=>
 bif y0 then
  k0 true
 else
  bnd (e1d N w14 w15 w16 w17 w18 w19) fun y1=>
  k0 (!y1)
def b7r (w6 w13 w14 w15 w16 w17 w18 w19:Int):Bool:=b2v N w6 w13 w14 w15 w16 w17 w18 w19 (fun p=>p)
def d55:=(d54 N).c0 (c0j N) 46 100 [1,43,44,45,72] [1] ⟨[(1,.c (.p 1 0)),(4,.c (.p 4 0)),(43,.c (.sl 69)),(44,.c (.i .i64)),(45,.c (.i .i64))],[(1,.box (.s::[.i .i64,.i .i64,.sl 69,.sl 95,.sl 9])),(4,.box (rI 7 ([])))]⟩ (fun L _=>b2v N (li L 6) (li L 13) (li L 14) (li L 15) (li L 16) (li L 17) (li L 18) (li L 19)) (fun s m L p=>(.normal,m [(72,.c (.b p))] [])) fun _ _=>by unfold b2v;exact kk
def a7m (w1:LD) (w2 w6:Int) (w8:LD) (w3:Int) (kr:Int→Option R) (k0:Int→Option R) (k1:Unit→Option R):Option R:=
 bif (decide (w3<w2)) then
  bif (inB w3 w1.length) then
   bnd (bif (w3==0) then (((w1.getD w3.toNat (.i 0)).cell 0).toI !=0) else false) fun y0=>
   bnd (a8W N w3 y0 w8 ((w1.getD w3.toNat (.i 0)).cell 0).toI) fun y1=>
   bif y1.isSome then
    bif (y1.getD default) then
     k0 10
    else
     bnd (b7r N w6 ((w1.getD w3.toNat (.i 0)).cell 0).toI ((w1.getD w3.toNat (.i 0)).cell 1).toI ((w1.getD w3.toNat (.i 0)).cell 2).toI ((w1.getD w3.toNat (.i 0)).cell 3).toI ((w1.getD w3.toNat (.i 0)).cell 4).toI ((w1.getD w3.toNat (.i 0)).cell 5).toI ((w1.getD w3.toNat (.i 0)).cell 6).toI) fun y2=>
     bif y2 then
      k0 9
     else
      kr (IntKind.wrap .i64 (w3+1))
   else
    none
  else
   none
 else
  k1 ()
def b2w (N:Nat) {R:Type} (w1:LD) (w2 w6:Int) (w8:LD):Nat→Int→(Int→Option R)→(Unit→Option R)→Option R
 |0,_,_,_=>none
 |m+1,w3,k0,k1=>a7m N w1 w2 w6 w8 w3 (fun w3=>b2w N w1 w2 w6 w8 m w3 k0 k1) k0 k1
def b7s (w1:LD) (w2 w6:Int) (w8:LD) (w3:Int):Option (Sum (Int) (Unit)):=b2w N (R:=(Sum (Int) (Unit))) w1 w2 w6 w8 N w3 (fun p=>some (.inl p)) (fun p=>some (.inr p))
def d56:=(d55 N).l2 (c0j N) 30 [3] [1,2] [1] ⟨[(1,.c (.p 1 0)),(43,.c (.sl 69)),(44,.c (.i .i64)),(45,.c (.i .i64))],[(1,.box (.s::[.i .i64,.i .i64,.sl 69,.sl 95,.sl 9]))]⟩ N (fun L x _ kr=>a7m N (ll L 1) (li L 2) (li L 6) (ll L 8) (li x 0) (fun w3=>kr [.i w3])) (fun L m x=>b2w N (ll L 1) (li L 2) (li L 6) (ll L 8) m (li x 0) (fun p=>some (.inl p)) (fun p=>some (.inr p))) (fun s m L p=>(.ret,mg s [2] [(2,.c (.i .i64 p))] [1] [])) (fun s m L _=>((.exit 1),mg s [1] [] [1] [])) fun _ _ _ _ _ _=>by unfold a7m;exact bb
def b2x (N:Nat) (w1:Int) (w12:LD) (w15:Int) (k0:Bool→Option R):Option R:=
 bif (decide (w1>0)) then
  bif (inB (IntKind.wrap .i64 (w1-1)) w12.length) then
   bnd ((w12.getD (IntKind.wrap .i64 (w1-1)).toNat (.i 0)).cell 1).toI fun y0=>
   k0 (decide (w15<y0))
  else
   none
 else
  k0 false
def b7t (w1:Int) (w12:LD) (w15:Int):Option (Bool):=b2x N w1 w12 w15 some
def d57:=(d56 N).c1 (c0j N) 73 100 [1,5,7,93,94,95,117] [1,7] ⟨[(1,.c (.p 1 0)),(5,.c (.i .i64)),(6,.c (.i .i64)),(7,.c (.p 7 0)),(93,.c (.sl 95)),(94,.c (.i .i64)),(95,.c (.i .i64))],[(1,.box (.s::[.i .i64,.i .i64,.sl 69,.sl 95,.sl 9])),(7,.box ([.i .i64,.i .i64,.s]))]⟩ (fun L _=>b2x N (li L 1) (ll L 12) (li L 15)) (fun s m L p=>(.normal,m [(117,.c (.b p))] [])) fun _ _=>by unfold b2x;exact bb
def a7n (w0:Int) (w2:LD) (w3:Int) (w11:LD) (w4:Int) (kr:Int→Option R) (k0:Int→Option R) (k1:Unit→Option R):Option R:=
 bif (decide (w4<w3)) then
  bif (inB w4 w2.length) then
   bnd (bif (decide (((w2.getD w4.toNat (.i 0)).cell 0).toI<0)) then true else (decide (((w2.getD w4.toNat (.i 0)).cell 0).toI≥((w2.getD w4.toNat (.i 0)).cell 1).toI))) fun y0=>
   bnd (bif y0 then true else (decide (((w2.getD w4.toNat (.i 0)).cell 1).toI>w0))) fun y1=>
   bif y1 then
    k0 9
   else
    bnd (b7t N w4 w11 ((w2.getD w4.toNat (.i 0)).cell 0).toI) fun y2=>
    bif y2.isSome then
     bif (y2.getD default) then
      k0 10
     else
      bnd (d51 N ((w2.getD w4.toNat (.i 0)).cell 2).toS) fun y3=>
      bif y3.isSome then
       bif (!(y3.getD default)) then
        k0 8
       else
        kr (IntKind.wrap .i64 (w4+1))
      else
       none
    else
     none
  else
   none
 else
  k1 ()
def b2y (N:Nat) {R:Type} (w0:Int) (w2:LD) (w3:Int) (w11:LD):Nat→Int→(Int→Option R)→(Unit→Option R)→Option R
 |0,_,_,_=>none
 |m+1,w4,k0,k1=>a7n N w0 w2 w3 w11 w4 (fun w4=>b2y N w0 w2 w3 w11 m w4 k0 k1) k0 k1
def b7u (w0:Int) (w2:LD) (w3:Int) (w11:LD) (w4:Int):Option (Sum (Int) (Unit)):=b2y N (R:=(Sum (Int) (Unit))) w0 w2 w3 w11 N w4 (fun p=>some (.inl p)) (fun p=>some (.inr p))
def d58:=(d57 N).l2 (c0j N) 60 [4] [1,2] [1] ⟨[(1,.c (.p 1 0)),(5,.c (.i .i64)),(93,.c (.sl 95)),(94,.c (.i .i64)),(95,.c (.i .i64))],[(1,.box (.s::[.i .i64,.i .i64,.sl 69,.sl 95,.sl 9]))]⟩ N (fun L x _ kr=>a7n N (li L 0) (ll L 2) (li L 3) (ll L 11) (li x 0) (fun w4=>kr [.i w4])) (fun L m x=>b2y N (li L 0) (ll L 2) (li L 3) (ll L 11) m (li x 0) (fun p=>some (.inl p)) (fun p=>some (.inr p))) (fun s m L p=>(.ret,mg s [2] [(2,.c (.i .i64 p))] [1] [])) (fun s m L _=>((.exit 4),mg s [1] [] [1] [])) fun _ _ _ _ _ _=>by unfold a7n;exact bb
def a7o (w1:LD) (w2:Int) (w12:LD) (w3:Int) (kr:Int→Option R) (k0:Int→Option R) (k1:Unit→Option R):Option R:=
 bif (decide (w3<w2)) then
  bif (inB w3 w1.length) then
   bnd (c8c N (w1.getD w3.toNat (.i 0)).toS) fun y0=>
   bif y0.isSome then
    bif (!(y0.getD default)) then
     k0 8
    else
     bif (bif (inB (IntKind.wrap .i64 (w3-1)) w12.length) then true else (!((decide (w3>0))==true))) then
      bnd (bif (decide (w3>0)) then ((Op.bytesLess (w1.getD w3.toNat (.i 0)).toS (w12.getD (IntKind.wrap .i64 (w3-1)).toNat (.i 0)).toS)||((w1.getD w3.toNat (.i 0)).toS==(w12.getD (IntKind.wrap .i64 (w3-1)).toNat (.i 0)).toS)) else false) fun y1=>
      bif y1 then
       k0 10
      else
       kr (IntKind.wrap .i64 (w3+1))
     else
      none
   else
    none
  else
   none
 else
  k1 ()
def b2z (N:Nat) {R:Type} (w1:LD) (w2:Int) (w12:LD):Nat→Int→(Int→Option R)→(Unit→Option R)→Option R
 |0,_,_,_=>none
 |m+1,w3,k0,k1=>a7o N w1 w2 w12 w3 (fun w3=>b2z N w1 w2 w12 m w3 k0 k1) k0 k1
def b7v (w1:LD) (w2:Int) (w12:LD) (w3:Int):Option (Sum (Int) (Unit)):=b2z N (R:=(Sum (Int) (Unit))) w1 w2 w12 N w3 (fun p=>some (.inl p)) (fun p=>some (.inr p))
def d59:=(d58 N).l2 (c0j N) 90 [3] [2] [] ⟨[(1,.c (.p 1 0)),(139,.c (.sl 9)),(140,.c (.i .i64)),(141,.c (.i .i64))],[(1,.box (.s::[.i .i64,.i .i64,.sl 69,.sl 95,.sl 9]))]⟩ N (fun L x _ kr=>a7o N (ll L 1) (li L 2) (ll L 12) (li x 0) (fun w3=>kr [.i w3])) (fun L m x=>b2z N (ll L 1) (li L 2) (ll L 12) m (li x 0) (fun p=>some (.inl p)) (fun p=>some (.inr p))) (fun s m L p=>(.ret,⟨[(2,.c (.i .i64 p))],[]⟩)) (fun s m L _=>((.exit 7),⟨[],[]⟩)) fun _ _ _ _ _ _=>by unfold a7o;exact bb
def d0N (v0 :LB) (v1 v2:Int) (v4 v6 v8:LD) (k0:Int→Option R):Option R:=
 bnd (c8c N v0) fun y0=>
 bif y0.isSome then
  bif (!(y0.getD default)) then
   k0 8
  else
   bnd (b4M N v1 1 5) fun y1=>
   bif (!y1) then
    k0 7
   else
    bnd (b4M N v2 0 86399999999) fun y2=>
    bif (!y2) then
     k0 9
    else
     bnd (bif (decide ((v4.length:Int)>20000)) then true else (decide ((v6.length:Int)>200))) fun y3=>
     bnd (bif y3 then true else (decide ((v8.length:Int)>20))) fun y4=>
     bif y4 then
      k0 3
     else
      bnd (b7s N v4 (v4.length:Int) v2 v4 0) fun y5=>
      bif (a1x y5) then
       k0 (a2t y5)
      else
       bif (a0w y5).isSome then
        bnd (b5Q N v4) fun y6=>
        bif y6.isSome then
         bnd (b7u N (y6.getD default) v6 (v6.length:Int) v6 0) fun y7=>
         bif (a1x y7) then
          k0 (a2t y7)
         else
          bif (a0w y7).isSome then
           bnd (b7v N v8 (v8.length:Int) v8 0) fun y8=>
           bif (a1x y8) then
            k0 (a2t y8)
           else
            bif (a0w y8).isSome then
             k0 0
            else
             none
          else
           none
        else
         none
       else
        none
 else
  none
def c1Z (v0:LB) (v1 v2:Int) (v4 v6 v8:LD):Option (Int):=d0N N v0 v1 v2 v4 v6 v8 some
def e1f:=(d59 N).f1 (c0j N) ⟨[(0,.g (.s::[.i .i64,.i .i64,.sl 69,.sl 95,.sl 9]))],[]⟩ (fun L _=>d0N N (ls L 0) (li L 1) (li L 2) (ll L 4) (ll L 6) (ll L 8)) (fun L p=>([.c (.i .i64 p)],[])) fun _ _=>by unfold d0N;exact bb
def d6a (N:Nat):Sg Tryz.prog 0 32:= .start [(21,[19,20,21],[],[])] [(0,[0,1,2]),(1,[3,1,2]),(2,[7,1,2]),(3,[7]),(4,[1,2]),(5,[]),(6,[2]),(7,[21,20,19]),(8,[19,21,20]),(9,[9,21,20,19]),(10,[10,21,20,19]),(11,[10]),(12,[21,20,19]),(13,[])]
def a7p (w1:LD) (w2:Int) (w3:Int) (kr:Int→Option R) (k0:Int→Option R) (k1:Unit→Option R):Option R:=
 bif (decide (w3<w2)) then
  bif (inB w3 w1.length) then
   bnd (c1Z N ((w1.getD w3.toNat (.i 0)).cell 0).toS ((w1.getD w3.toNat (.i 0)).cell 1).toI ((w1.getD w3.toNat (.i 0)).cell 2).toI ((w1.getD w3.toNat (.i 0)).cell 3).items ((w1.getD w3.toNat (.i 0)).cell 4).items ((w1.getD w3.toNat (.i 0)).cell 5).items) fun y0=>
   bif y0.isSome then
    bif ((y0.getD default) !=0) then
     k0 (y0.getD default)
    else
     kr (IntKind.wrap .i64 (w3+1))
   else
    none
  else
   none
 else
  k1 ()
def b2A (N:Nat) {R:Type} (w1:LD) (w2:Int):Nat→Int→(Int→Option R)→(Unit→Option R)→Option R
 |0,_,_,_=>none
 |m+1,w3,k0,k1=>a7p N w1 w2 w3 (fun w3=>b2A N w1 w2 m w3 k0 k1) k0 k1
def b7w (w1:LD) (w2:Int) (w3:Int):Option (Sum (Int) (Unit)):=b2A N (R:=(Sum (Int) (Unit))) w1 w2 N w3 (fun p=>some (.inl p)) (fun p=>some (.inr p))
def d6b:=(d6a N).l2 (e1f N) 21 [3] [6] [] ⟨[(19,.c (.sl 51)),(20,.c (.i .i64)),(21,.c (.i .i64))],[]⟩ N (fun L x _ kr=>a7p N (ll L 1) (li L 2) (li x 0) (fun w3=>kr [.i w3])) (fun L m x=>b2A N (ll L 1) (li L 2) m (li x 0) (fun p=>some (.inl p)) (fun p=>some (.inr p))) (fun s m L p=>(.ret,⟨[(6,.c (.i .i64 p))],[]⟩)) (fun s m L _=>((.exit 0),⟨[],[]⟩)) fun _ _ _ _ _ _=>by unfold a7p;exact bb
def d0O (v1:LD) (v2:Int) (v4:LD) (k0:Int→Option R):Option R:=
 bnd (d5S N v1) fun y0=>
 bif y0.isSome then
  bif ((y0.getD default) !=0) then
   k0 (y0.getD default)
  else
   bnd (b2b N v2 0 3) fun y1=>
   bif (!y1) then
    k0 9
   else
    bnd (b7w N v4 (v4.length:Int) 0) fun y2=>
    bif (a1x y2) then
     k0 (a2t y2)
    else
     bif (a0w y2).isSome then
      k0 0
     else
      none
 else
  none
def c8f (v1:LD) (v2:Int) (v4:LD):Option (Int):=d0O N v1 v2 v4 some
def e3m:=(d6b N).f1 (e1f N) ⟨[(0,.g ([.sl 67])),(1,.c (.i .i64)),(2,.c (.sl 51))],[]⟩ (fun L _=>d0O N (ll L 1) (li L 2) (ll L 4)) (fun L p=>([.c (.i .i64 p)],[])) fun _ _=>by unfold d0O;exact bb
def d6c (N:Nat):Sg Tryz.prog 0 13:= .start [] [(0,[0,1,2]),(1,[3,1,2]),(2,[7,2,3,1]),(3,[7]),(4,[2,3,1]),(5,[]),(6,[3,1,2])]
def d0P (v1:LD) (v2:Int) (v4:LD) (k0:Int→Option R):Option R:=
 bnd (c8f N v1 v2 []) fun y0=>
 bif y0.isSome then
  bif ((y0.getD default) !=0) then
   k0 (y0.getD default)
  else
   bif (decide ((v4.length:Int)>2000)) then
    k0 3
   else
    bnd (c8f N v1 v2 v4) fun y1=>
    bif y1.isSome then
     k0 (y1.getD default)
    else
     none
 else
  none
def d6d (v1:LD) (v2:Int) (v4:LD):Option (Int):=d0P N v1 v2 v4 some
def d6e:=(d6c N).f1 (e3m N) ⟨[(0,.g ([.sl 67])),(1,.c (.i .i64)),(2,.c (.sl 51))],[]⟩ (fun L _=>d0P N (ll L 1) (li L 2) (ll L 4)) (fun L p=>([.c (.i .i64 p)],[])) fun _ _=>by unfold d0P;exact bb
def d6f (N:Nat):Sg Tryz.prog 0 33:= .start [(9,[1,5,9,10,11],[5],[5]),(20,[1,5,7,9,10,11,18],[5,7],[])] [(0,[0,1]),(1,[2,1]),(2,[2,1,5]),(3,[11,10,9,1,5]),(4,[9,11,1,5,10]),(5,[7,1,5,11,10,9]),(6,[5,7,11,10,9,1]),(7,[11,10,9,1,5]),(8,[5])]
def b2B (N:Nat) (w5:Bool) (w7:LD) (w8 w9 w10 w11 w12 w13 w14 w15:Int) (w16:LB) (k0:LD→Option R) (k1:Unit→Option R):Option R:=
 bif w5 then
  bif (decide ((w7.length+1)*80≤a1K)&&decide ((w7.length+1)≤a0g)) then
   bnd ((w7++[(.a [(.i w8),(.i w9),(.i w10),(.i w11),(.i w12),(.i w13),(.i w14),(.i w15),(.s w16)])]):List D) fun y0=>
   k0 y0
  else
   none
 else
  k1 ()
def c3S (w5:Bool) (w7:LD) (w8 w9 w10 w11 w12 w13 w14 w15:Int) (w16:LB):Option (Sum (LD) (Unit)):=b2B N w5 w7 w8 w9 w10 w11 w12 w13 w14 w15 w16 (fun p=>some (.inl p)) (fun p=>some (.inr p))
def d6g:=(d6f N).c2 (d6e N) 20 100 [1,5,9,10,11] [5,22] ⟨[(1,.c (.i .i64)),(5,.c (.o 5)),(7,.c (.p 7 0)),(9,.c (.sl 67)),(10,.c (.i .i64)),(11,.c (.i .i64)),(18,.c (.b))],[(5,.row 67 true),(7,.box (rI 8 ([.s])))]⟩ (fun L _=>b2B N (lb L 5) (ll L 7) (li L 8) (li L 9) (li L 10) (li L 11) (li L 12) (li L 13) (li L 14) (li L 15) (ls L 16)) (fun s m L p=>(.normal,mg s [1,5,9,10,11] [(5,.c (.o 22))] [22] [(22,.row 67 true false p)])) (fun s m L _=>(.normal,mg s [1,5,9,10,11] [] [5] [])) fun _ _ _=>by unfold b2B;exact bb
def b0L (w0:Int) (w2:LD) (w3:Int) (w4:Int) (w5:Bool) (w6:LD) (kr:Int→Bool→LD→Option R) (k0:Bool×LD→Option R):Option R:=
 bif (decide (w4<w3)) then
  bif (inB w4 w2.length) then
   bnd (c3S N (decide (((w2.getD w4.toNat (.i 0)).cell 0).toI≤w0)) w6 ((w2.getD w4.toNat (.i 0)).cell 0).toI ((w2.getD w4.toNat (.i 0)).cell 1).toI ((w2.getD w4.toNat (.i 0)).cell 2).toI ((w2.getD w4.toNat (.i 0)).cell 3).toI ((w2.getD w4.toNat (.i 0)).cell 4).toI ((w2.getD w4.toNat (.i 0)).cell 5).toI ((w2.getD w4.toNat (.i 0)).cell 6).toI ((w2.getD w4.toNat (.i 0)).cell 7).toI ((w2.getD w4.toNat (.i 0)).cell 8).toS) fun y0=>
   bif (a1x y0) then
    kr (IntKind.wrap .i64 (w4+1)) false (a2t y0)
   else
    bif (a0w y0).isSome then
     kr (IntKind.wrap .i64 (w4+1)) w5 w6
    else
     none
  else
   none
 else
  k0 (w5,w6)
def b7x (N:Nat) {R:Type} (w0:Int) (w2:LD) (w3:Int):Nat→Int→Bool→LD→(Bool×LD→Option R)→Option R
 |0,_,_,_,_=>none
 |m+1,w4,w5,w6,k0=>b0L N w0 w2 w3 w4 w5 w6 (fun w4 w5 w6=>b7x N w0 w2 w3 m w4 w5 w6 k0) k0
def c10 (w0:Int) (w2:LD) (w3:Int) (w4:Int) (w5:Bool) (w6:LD):Option (Bool×LD):=b7x N (R:=(Bool×LD)) w0 w2 w3 N w4 w5 w6 some
def d6h:=(d6g N).l1 (d6e N) 9 [4,5,6] [4,5] [5] ⟨[(1,.c (.i .i64)),(5,.c (.o 5)),(9,.c (.sl 67)),(10,.c (.i .i64)),(11,.c (.i .i64))],[(5,.row 67 true)]⟩ N (fun L x _ kr=>b0L N (li L 0) (ll L 2) (li L 3) (li x 0) (lb x 1) (ll x 2) (fun w4 w5 w6=>kr [.i w4,.b w5,.l w6])) (fun L m x=>b7x N (li L 0) (ll L 2) (li L 3) m (li x 0) (lb x 1) (ll x 2) some) (fun s m L p=>((.exit 0),⟨[(5,.c (.o 5))],[(5,.row 67 true p.1 p.2)]⟩)) fun _ _ _ _ _=>by unfold b0L;exact bb
def d0Q (v1:LD) (v2:Int) (k0:Bool×LD→Option R):Option R:=
 bnd (c10 N v2 v1 (v1.length:Int) 0 true []) fun y0=>
 bif y0.isSome then
  k0 (y0.getD default)
 else
  none
def d6i (v1:LD) (v2:Int):Option (Bool×LD):=d0Q N v1 v2 some
def e3n:=(d6h N).f1 (d6e N) ⟨[(0,.g ([.sl 67])),(1,.c (.i .i64))],[]⟩ (fun L _=>d0Q N (ll L 1) (li L 2)) (fun L p=>([.c (.sl 67 p.1 p.2)],[])) fun _ _=>by unfold d0Q;exact bb
def d6j (N:Nat):Sg Tryz.prog 0 34:= .start [] [(0,[0,1]),(1,[2,3])]
def e1g (N:Nat) (k0:Unit→R):R:=
 k0 ()
def e3o:=(d6j N).f0 (e3n N) ⟨[(0,.c (.sl 67)),(1,.g (.s::[.i .i64,.i .i64,.sl 69,.sl 95,.sl 9]))],[]⟩ (fun L _=>e1g N) (fun L _=>([.c (.f 61 [(2,0),(3,0)])],[(2,.box [.sl 67 (lb L 0) (ll L 1)]),(3,.box [.s (ls L 2),.i .i64 (li L 3),.i .i64 (li L 4),.sl 69 (lb L 5) (ll L 6),.sl 95 (lb L 7) (ll L 8),.sl 9 (lb L 9) (ll L 10)])])) fun _ _=>by unfold e1g;exact kk
def d6k (N:Nat):Sg Tryz.prog 0 94:= .start [] [(0,[0,1]),(1,[3,2])]
def d6l (N:Nat) (v7 v10:Int) (k0:Bool→R):R:=
 k0 (v10==v7)
def e3p (v7 v10:Int):Bool:=d6l N v7 v10 (fun p=>p)
def e1h:=(d6k N).f0 (e3o N) ⟨[(0,.g (rI 8 ([.s]))),(1,.g (.s::[.i .i64,.i .i64,.sl 69,.sl 95,.sl 9]))],[]⟩ (fun L _=>d6l N (li L 7) (li L 10)) (fun L p=>([.c (.b p)],[])) fun _ _=>by unfold d6l;exact kk
def d0R (N:Nat):Sg Tryz.prog 0 131:= .start [(6,[0,1,7,8],[],[])] [(0,[0,1]),(1,[0,1]),(2,[8,7,1,0]),(3,[8,1,0,7]),(4,[1,0,5,8,7]),(5,[5]),(6,[8,7,1,0]),(7,[])]
def a7q (N:Nat) (w1:LD) (w2:LB) (w3:Int) (w4:Int) (kr:Int→Option R) (k0:Int→Option R) (k1:Unit→Option R):Option R:=
 bif (decide (w4<w3)) then
  bif (inB w4 w1.length) then
   bif (w2==(w1.getD w4.toNat (.i 0)).toS) then
    k0 w4
   else
    kr (IntKind.wrap .i64 (w4+1))
  else
   none
 else
  k1 ()
def b2C (N:Nat) {R:Type} (w1:LD) (w2:LB) (w3:Int):Nat→Int→(Int→Option R)→(Unit→Option R)→Option R
 |0,_,_,_=>none
 |m+1,w4,k0,k1=>a7q N w1 w2 w3 w4 (fun w4=>b2C N w1 w2 w3 m w4 k0 k1) k0 k1
def b7y (w1:LD) (w2:LB) (w3:Int) (w4:Int):Option (Sum (Int) (Unit)):=b2C N (R:=(Sum (Int) (Unit))) w1 w2 w3 N w4 (fun p=>some (.inl p)) (fun p=>some (.inr p))
def d0S:=(d0R N).l2 (e1h N) 6 [4] [4] [] ⟨[(0,.c (.sl 9)),(1,.c (.s)),(7,.c (.i .i64)),(8,.c (.i .i64))],[]⟩ N (fun L x _ kr=>a7q N (ll L 1) (ls L 2) (li L 3) (li x 0) (fun w4=>kr [.i w4])) (fun L m x=>b2C N (ll L 1) (ls L 2) (li L 3) m (li x 0) (fun p=>some (.inl p)) (fun p=>some (.inr p))) (fun s m L p=>(.ret,⟨[(4,.c (.i .i64 p))],[]⟩)) (fun s m L _=>((.exit 0),⟨[],[]⟩)) fun _ _ _ _ _ _=>by unfold a7q;exact bb
def c3T (v1:LD) (v2:LB) (k0:Int→Option R):Option R:=
 bnd (b7y N v1 v2 (v1.length:Int) 0) fun y0=>
 bif (a1x y0) then
  k0 (a2t y0)
 else
  bif (a0w y0).isSome then
   k0 (-1)
  else
   none
def c8g (v1:LD) (v2:LB):Option (Int):=c3T N v1 v2 some
def e1i:=(d0S N).f1 (e1h N) ⟨[(0,.c (.sl 9)),(1,.c (.s))],[]⟩ (fun L _=>c3T N (ll L 1) (ls L 2)) (fun L p=>([.c (.i .i64 p)],[])) fun _ _=>by unfold c3T;exact bb
def d0T (N:Nat):Sg Tryz.prog 0 116:= .start [] [(0,[0,1]),(1,[0,1])]
def c3U (v1:LD) (v2:LB) (k0:Bool→Option R):Option R:=
 bnd (c8g N v1 v2) fun y0=>
 bif y0.isSome then
  k0 (decide ((y0.getD default)≥0))
 else
  none
def c8h (v1:LD) (v2:LB):Option (Bool):=c3U N v1 v2 some
def e1j:=(d0T N).f1 (e1i N) ⟨[(0,.c (.sl 9)),(1,.c (.s))],[]⟩ (fun L _=>c3U N (ll L 1) (ls L 2)) (fun L p=>([.c (.b p)],[])) fun _ _=>by unfold c3U;exact bb
def d6m (N:Nat):Sg Tryz.prog 0 95:= .start [] [(0,[0,1]),(1,[3,2])]
def d0U (v8:LB) (v17:LD) (k0:Bool→Option R):Option R:=
 bnd (c8h N v17 v8) fun y0=>
 bif y0.isSome then
  k0 (y0.getD default)
 else
  none
def e1k (v8:LB) (v17:LD):Option (Bool):=d0U N v8 v17 some
def e1l:=(d6m N).f1 (e1j N) ⟨[(0,.g (rI 8 ([.s]))),(1,.g (.s::[.i .i64,.i .i64,.sl 69,.sl 95,.sl 9]))],[]⟩ (fun L _=>d0U N (ls L 8) (ll L 17)) (fun L p=>([.c (.b p)],[])) fun _ _=>by unfold d0U;exact bb
def d6n (N:Nat):Sg Tryz.prog 3 99:= .start [(4,[1,2,3],[0,1,2,6],[])] [(0,[0,1,2]),(1,[1,3,2]),(2,[6,5,3,2])]
def b7z (N:Nat) (w11:Int) (k0:Unit→Option R) (k1:Unit→Option R) (k2:Unit→Option R):Option R:=
 bif (w11==5) then
  k0 ()
 else
  bif (w11==4) then
   k1 ()
  else
   k2 ()
def c8i (w11:Int):Option (Sum (Unit) (Sum (Unit) (Unit))):=b7z N w11 (fun p=>some (.inl p)) (fun p=>some (.inr (.inl p))) (fun p=>some (.inr (.inr p)))
def d6o:=(d6n N).c3 (e1l N) 4 100 [2,3,5,6] [0,1,2,6] ⟨[(1,.c (.p 0 0)),(2,.c (.p 1 0)),(3,.c (.p 6 0))],[(0,.box ([.m 2])),(1,.box (.s::[.i .i64,.i .i64,.sl 69,.sl 95,.sl 9])),(2,.kmap 3 134 [(5,94),(4,95)]),(6,.box (rI 8 ([.s])))]⟩ (fun L _=>b7z N (li L 11)) (fun s m L _=>(.normal,m [(5,.c (.f 94 [])),(6,.c (.b true))] [])) (fun s m L _=>(.normal,m [(5,.c (.f 95 [])),(6,.c (.b true))] [])) (fun s m L _=>(.normal,m [(5,.c (.v .nilFunc)),(6,.c (.b false))] [])) fun _ _ _ _=>by unfold b7z;exact bb
def d0V (v1 v7:Int) (v8:LB) (v10:Int) (v17:LD) (k0:Bool→Option R):Option R:=
 bnd (c8i N v1) fun y0=>
 bif (a1x y0) then
  bnd (e3p N v7 v10) fun y1=>
  k0 y1
 else
  bif (a1x (a0w y0)) then
   bnd (e1k N v8 v17) fun y2=>
   bif y2.isSome then
    k0 (y2.getD default)
   else
    none
  else
   bif (a0w (a0w y0)).isSome then
    k0 false
   else
    none
def d6p (v1 v7:Int) (v8:LB) (v10:Int) (v17:LD):Option (Bool):=d0V N v1 v7 v8 v10 v17 some
def d4l:Sh:={tmps:=[(0,.g (rI 8 ([.s]))),(1,.c (.p 0 0)),(2,.c (.p 1 0))],mem:=[(0,.box ([.m 2])),(1,.box (.s::[.i .i64,.i .i64,.sl 69,.sl 95,.sl 9])),(2,.kmap 3 134 [(5,94),(4,95)])]}
def e1m:=(d6o N).f1 (e1l N) d4l (fun L _=>d0V N (li L 1) (li L 7) (ls L 8) (li L 10) (ll L 17)) (fun L p=>([.c (.b p)],mgA (a2w d4l L).mem [] [0,1,2])) fun _ _=>by unfold d0V;exact bb
def d0W (N:Nat):Sg Tryz.prog 3 117:= .start [(6,[0,1,7,8],[0,1,2],[])] [(0,[0,1]),(1,[0,1]),(2,[8,7,1,0]),(3,[8,1,0,7]),(4,[1,0,5,8,7]),(5,[5]),(6,[8,7,1,0]),(7,[])]
def a7r (w1:LD) (w2 w5:Int) (w12:LD) (w3:Int) (kr:Int→Option R) (k0:Int→Option R) (k1:Unit→Option R):Option R:=
 bif (decide (w3<w2)) then
  bif (inB w3 w1.length) then
   bnd (d6p N ((w1.getD w3.toNat (.i 0)).cell 1).toI ((w1.getD w3.toNat (.i 0)).cell 7).toI ((w1.getD w3.toNat (.i 0)).cell 8).toS w5 w12) fun y0=>
   bif y0.isSome then
    bif (y0.getD default) then
     k0 w3
    else
     kr (IntKind.wrap .i64 (w3+1))
   else
    none
  else
   none
 else
  k1 ()
def b2D (N:Nat) {R:Type} (w1:LD) (w2 w5:Int) (w12:LD):Nat→Int→(Int→Option R)→(Unit→Option R)→Option R
 |0,_,_,_=>none
 |m+1,w3,k0,k1=>a7r N w1 w2 w5 w12 w3 (fun w3=>b2D N w1 w2 w5 w12 m w3 k0 k1) k0 k1
def b7A (w1:LD) (w2 w5:Int) (w12:LD) (w3:Int):Option (Sum (Int) (Unit)):=b2D N (R:=(Sum (Int) (Unit))) w1 w2 w5 w12 N w3 (fun p=>some (.inl p)) (fun p=>some (.inr p))
def d0X:=(d0W N).l2 (e1m N) 6 [3] [4] [0,1,2] ⟨[(0,.c (.sl 67)),(1,.c (.f 99 [(0,0),(1,0)])),(7,.c (.i .i64)),(8,.c (.i .i64))],[(0,.box ([.m 2])),(1,.box (.s::[.i .i64,.i .i64,.sl 69,.sl 95,.sl 9])),(2,.kmap 3 134 [(5,94),(4,95)])]⟩ N (fun L x _ kr=>a7r N (ll L 1) (li L 2) (li L 5) (ll L 12) (li x 0) (fun w3=>kr [.i w3])) (fun L m x=>b2D N (ll L 1) (li L 2) (li L 5) (ll L 12) m (li x 0) (fun p=>some (.inl p)) (fun p=>some (.inr p))) (fun s m L p=>(.ret,m [(4,.c (.i .i64 p))] [])) (fun s m L _=>((.exit 0),mg s [] [] [0,1,2] [])) fun _ _ _ _ _ _=>by unfold a7r;exact bb
def c3V (v1:LD) (v3:Int) (v10:LD) (k0:Int→Option R):Option R:=
 bnd (b7A N v1 (v1.length:Int) v3 v10 0) fun y0=>
 bif (a1x y0) then
  k0 (a2t y0)
 else
  bif (a0w y0).isSome then
   k0 (-1)
  else
   none
def d4m (v1:LD) (v3:Int) (v10:LD):Option (Int):=c3V N v1 v3 v10 some
def c8j:Sh:={tmps:=[(0,.c (.sl 67)),(1,.c (.f 99 [(0,0),(1,0)]))],mem:=[(0,.box ([.m 2])),(1,.box (.s::[.i .i64,.i .i64,.sl 69,.sl 95,.sl 9])),(2,.kmap 3 134 [(5,94),(4,95)])]}
def e1n:=(d0X N).f1 (e1m N) c8j (fun L _=>c3V N (ll L 1) (li L 3) (ll L 10)) (fun L p=>([.c (.i .i64 p)],mgA (a2w c8j L).mem [] [0,1,2])) fun _ _=>by unfold c3V;exact bb
def d6q (N:Nat):Sg Tryz.prog 3 98:= .start [] [(0,[0,1]),(1,[0,1])]
def d0Y (v1:LD) (v3:Int) (v10:LD) (k0:Bool→Option R):Option R:=
 bnd (d4m N v1 v3 v10) fun y0=>
 bif y0.isSome then
  k0 (decide ((y0.getD default)≥0))
 else
  none
def d6r (v1:LD) (v3:Int) (v10:LD):Option (Bool):=d0Y N v1 v3 v10 some
def d4n:Sh:={tmps:=[(0,.c (.sl 67)),(1,.c (.f 99 [(0,0),(1,0)]))],mem:=[(0,.box ([.m 2])),(1,.box (.s::[.i .i64,.i .i64,.sl 69,.sl 95,.sl 9])),(2,.kmap 3 134 [(5,94),(4,95)])]}
def e3q:=(d6q N).f1 (e1n N) d4n (fun L _=>d0Y N (ll L 1) (li L 3) (ll L 10)) (fun L p=>([.c (.b p)],mgA (a2w d4n L).mem [] [0,1,2])) fun _ _=>by unfold d0Y;exact bb
def d6s (N:Nat):Sg Tryz.prog 0 96:= .start [] [(0,[0,1,2]),(1,[5,3])]
def d6t (N:Nat) (v2 v3 v4 v19 v20:Int) (k0:Bool→R):R:=
 bnd (IntKind.wrap .i64 ((IntKind.wrap .i64 (v19-v2))*(IntKind.wrap .i64 (v19-v2)))) fun y0=>
 bnd (IntKind.wrap .i64 ((IntKind.wrap .i64 (v20-v3))*(IntKind.wrap .i64 (v20-v3)))) fun y1=>
 bnd (decide ((IntKind.wrap .i64 (y0+y1))≤(IntKind.wrap .i64 (v4*v4)))) fun y2=>
 k0 y2
def e3r (v2 v3 v4 v19 v20:Int):Bool:=d6t N v2 v3 v4 v19 v20 (fun p=>p)
def e3s:=(d6s N).f0 (e3q N) ⟨[(0,.g (rI 8 ([.s]))),(1,.g (.s::[.i .i64,.i .i64,.sl 69,.sl 95,.sl 9])),(2,.g (rI 7 ([])))],[]⟩ (fun L _=>d6t N (li L 2) (li L 3) (li L 4) (li L 19) (li L 20)) (fun L p=>([.c (.b p)],[])) fun _ _=>by unfold d6t;exact kk
def d6u (N:Nat):Sg Tryz.prog 0 97:= .start [] [(0,[0,1,2]),(1,[4,5,3]),(2,[3,7])]
def d6v (N:Nat) (v5 v6 v11 v18:Int) (k0:Bool→R):R:=
 bnd (bif (decide (v5≤((IntKind.wrap .i64 (v11+v18)).tmod 86400))) then (decide (((IntKind.wrap .i64 (v11+v18)).tmod 86400)≤v6)) else false) fun y0=>
 k0 y0
def e3t (v5 v6 v11 v18:Int):Bool:=d6v N v5 v6 v11 v18 (fun p=>p)
def e1o:=(d6u N).f0 (e3s N) ⟨[(0,.g (rI 8 ([.s]))),(1,.g (.s::[.i .i64,.i .i64,.sl 69,.sl 95,.sl 9])),(2,.g (rI 7 ([])))],[]⟩ (fun L _=>d6v N (li L 5) (li L 6) (li L 11) (li L 18)) (fun L p=>([.c (.b p)],[])) fun _ _=>by unfold d6v;exact kk
def d0Z (N:Nat):Sg Tryz.prog 4 100:= .start [(4,[1,2,3,4],[0,1,2,3,8],[])] [(0,[0,1,2,3]),(1,[1,4,2,3]),(2,[7,6,4,2,3])]
def b2E (N:Nat) (w18:Int) (k0:Unit→Option R) (k1:Unit→Option R) (k2:Unit→Option R):Option R:=
 bif (w18==1) then
  k0 ()
 else
  bif (w18==2) then
   k1 ()
  else
   k2 ()
def c3W (w18:Int):Option (Sum (Unit) (Sum (Unit) (Unit))):=b2E N w18 (fun p=>some (.inl p)) (fun p=>some (.inr (.inl p))) (fun p=>some (.inr (.inr p)))
def d00:=(d0Z N).c3 (e1o N) 4 100 [2,3,4,6,7] [0,1,2,3,8] ⟨[(1,.c (.p 0 0)),(2,.c (.p 1 0)),(3,.c (.p 2 0)),(4,.c (.p 8 0))],[(0,.box ([.m 3])),(1,.box (.s::[.i .i64,.i .i64,.sl 69,.sl 95,.sl 9])),(2,.box (rI 7 ([]))),(3,.kmap 3 137 [(1,96),(2,97)]),(8,.box (rI 8 ([.s])))]⟩ (fun L _=>b2E N (li L 18)) (fun s m L _=>(.normal,m [(6,.c (.f 96 [])),(7,.c (.b true))] [])) (fun s m L _=>(.normal,m [(6,.c (.f 97 [])),(7,.c (.b true))] [])) (fun s m L _=>(.normal,m [(6,.c (.v .nilFunc)),(7,.c (.b false))] [])) fun _ _ _ _=>by unfold b2E;exact bb
def c3X (v1 v2 v3 v4 v5 v6 v11 v18 v19 v20:Int) (k0:Bool→Option R):Option R:=
 bnd (c3W N v1) fun y0=>
 bif (a1x y0) then
  bnd (e3r N v2 v3 v4 v19 v20) fun y1=>
  k0 y1
 else
  bif (a1x (a0w y0)) then
   bnd (e3t N v5 v6 v11 v18) fun y2=>
   k0 y2
  else
   bif (a0w (a0w y0)).isSome then
    k0 false
   else
    none
def c8k (v1 v2 v3 v4 v5 v6 v11 v18 v19 v20:Int):Option (Bool):=c3X N v1 v2 v3 v4 v5 v6 v11 v18 v19 v20 some
def c8l:Sh:={tmps:=[(0,.g (rI 8 ([.s]))),(1,.c (.p 0 0)),(2,.c (.p 1 0)),(3,.c (.p 2 0))],mem:=[(0,.box ([.m 3])),(1,.box (.s::[.i .i64,.i .i64,.sl 69,.sl 95,.sl 9])),(2,.box (rI 7 ([]))),(3,.kmap 3 137 [(1,96),(2,97)])]}
def d4o:=(d00 N).f1 (e1o N) c8l (fun L _=>c3X N (li L 1) (li L 2) (li L 3) (li L 4) (li L 5) (li L 6) (li L 11) (li L 18) (li L 19) (li L 20)) (fun L p=>([.c (.b p)],mgA (a2w c8l L).mem [] [0,1,2,3])) fun _ _=>by unfold c3X;exact bb
def d01 (N:Nat):Sg Tryz.prog 4 117:= .start [(6,[0,1,7,8],[0,1,2,3],[])] [(0,[0,1]),(1,[0,1]),(2,[8,7,1,0]),(3,[8,1,0,7]),(4,[1,0,5,8,7]),(5,[5]),(6,[8,7,1,0]),(7,[])]
def a7s (w1:LD) (w2 w6 w13 w14 w15:Int) (w3:Int) (kr:Int→Option R) (k0:Int→Option R) (k1:Unit→Option R):Option R:=
 bif (decide (w3<w2)) then
  bif (inB w3 w1.length) then
   bnd (c8k N ((w1.getD w3.toNat (.i 0)).cell 1).toI ((w1.getD w3.toNat (.i 0)).cell 2).toI ((w1.getD w3.toNat (.i 0)).cell 3).toI ((w1.getD w3.toNat (.i 0)).cell 4).toI ((w1.getD w3.toNat (.i 0)).cell 5).toI ((w1.getD w3.toNat (.i 0)).cell 6).toI w6 w13 w14 w15) fun y0=>
   bif y0.isSome then
    bif (y0.getD default) then
     k0 w3
    else
     kr (IntKind.wrap .i64 (w3+1))
   else
    none
  else
   none
 else
  k1 ()
def b2F (N:Nat) {R:Type} (w1:LD) (w2 w6 w13 w14 w15:Int):Nat→Int→(Int→Option R)→(Unit→Option R)→Option R
 |0,_,_,_=>none
 |m+1,w3,k0,k1=>a7s N w1 w2 w6 w13 w14 w15 w3 (fun w3=>b2F N w1 w2 w6 w13 w14 w15 m w3 k0 k1) k0 k1
def b7B (w1:LD) (w2 w6 w13 w14 w15:Int) (w3:Int):Option (Sum (Int) (Unit)):=b2F N (R:=(Sum (Int) (Unit))) w1 w2 w6 w13 w14 w15 N w3 (fun p=>some (.inl p)) (fun p=>some (.inr p))
def d02:=(d01 N).l2 (d4o N) 6 [3] [4] [0,1,2,3] ⟨[(0,.c (.sl 67)),(1,.c (.f 100 [(0,0),(1,0),(2,0)])),(7,.c (.i .i64)),(8,.c (.i .i64))],[(0,.box ([.m 3])),(1,.box (.s::[.i .i64,.i .i64,.sl 69,.sl 95,.sl 9])),(2,.box (rI 7 ([]))),(3,.kmap 3 137 [(1,96),(2,97)])]⟩ N (fun L x _ kr=>a7s N (ll L 1) (li L 2) (li L 6) (li L 13) (li L 14) (li L 15) (li x 0) (fun w3=>kr [.i w3])) (fun L m x=>b2F N (ll L 1) (li L 2) (li L 6) (li L 13) (li L 14) (li L 15) m (li x 0) (fun p=>some (.inl p)) (fun p=>some (.inr p))) (fun s m L p=>(.ret,m [(4,.c (.i .i64 p))] [])) (fun s m L _=>((.exit 0),mg s [] [] [0,1,2,3] [])) fun _ _ _ _ _ _=>by unfold a7s;exact bb
def c3Y (v1:LD) (v4 v11 v12 v13:Int) (k0:Int→Option R):Option R:=
 bnd (b7B N v1 (v1.length:Int) v4 v11 v12 v13 0) fun y0=>
 bif (a1x y0) then
  k0 (a2t y0)
 else
  bif (a0w y0).isSome then
   k0 (-1)
  else
   none
def d4p (v1:LD) (v4 v11 v12 v13:Int):Option (Int):=c3Y N v1 v4 v11 v12 v13 some
def c8m:Sh:={tmps:=[(0,.c (.sl 67)),(1,.c (.f 100 [(0,0),(1,0),(2,0)]))],mem:=[(0,.box ([.m 3])),(1,.box (.s::[.i .i64,.i .i64,.sl 69,.sl 95,.sl 9])),(2,.box (rI 7 ([]))),(3,.kmap 3 137 [(1,96),(2,97)])]}
def e1p:=(d02 N).f1 (d4o N) c8m (fun L _=>c3Y N (ll L 1) (li L 4) (li L 11) (li L 12) (li L 13)) (fun L p=>([.c (.i .i64 p)],mgA (a2w c8m L).mem [] [0,1,2,3])) fun _ _=>by unfold c3Y;exact bb
def d6w (N:Nat):Sg Tryz.prog 4 98:= .start [] [(0,[0,1]),(1,[0,1])]
def d03 (v1:LD) (v4 v11 v12 v13:Int) (k0:Bool→Option R):Option R:=
 bnd (d4p N v1 v4 v11 v12 v13) fun y0=>
 bif y0.isSome then
  k0 (decide ((y0.getD default)≥0))
 else
  none
def d6x (v1:LD) (v4 v11 v12 v13:Int):Option (Bool):=d03 N v1 v4 v11 v12 v13 some
def d4q:Sh:={tmps:=[(0,.c (.sl 67)),(1,.c (.f 100 [(0,0),(1,0),(2,0)]))],mem:=[(0,.box ([.m 3])),(1,.box (.s::[.i .i64,.i .i64,.sl 69,.sl 95,.sl 9])),(2,.box (rI 7 ([]))),(3,.kmap 3 137 [(1,96),(2,97)])]}
def d6y:=(d6w N).f1 (e1p N) d4q (fun L _=>d03 N (ll L 1) (li L 4) (li L 11) (li L 12) (li L 13)) (fun L p=>([.c (.b p)],mgA (a2w d4q L).mem [] [0,1,2,3])) fun _ _=>by unfold d03;exact bb
def d6z (N:Nat):Sg Tryz.prog 0 62:= .start [(18,[0,3,7,8,9,24,25,26],[3,7,14,22],[]),(25,[0,3,7,8,9,10,11,24,25,26],[3,7,11,14,22],[])] [(0,[1,0]),(1,[0,3]),(2,[0,6,3]),(3,[0,6,3,7]),(4,[3,8,0,7]),(5,[3,9,8,0,7]),(6,[26,25,24,9,8,0,7,3]),(7,[26,24,9,8,0,7,3,25]),(8,[9,10,8,0,7,3,11,26,25,24]),(9,[26,25,24,9,8,0,7,3]),(10,[9,8])]
def b2G (w1:LD) (w2:Bool) (w3 w10 w17 w18 w19:Int) (w26:LD) (k0:LD→Option R):Option R:=
 bif w2 then
  bif (inB w3 w26.length) then
   bif (decide (w3.toNat<w26.length)) then
    k0 (w26.set w3.toNat (.b true))
   else
    none
  else
   none
 else
  bnd (d6x N w1 w10 w17 w18 w19) fun y0=>
  bif y0.isSome then
   bif (inB w3 w26.length) then
    bif (decide (w3.toNat<w26.length)) then
     k0 (w26.set w3.toNat (.b (y0.getD default)))
    else
     none
   else
    none
  else
   none
def c3Z (w1:LD) (w2:Bool) (w3 w10 w17 w18 w19:Int) (w26:LD):Option (LD):=b2G N w1 w2 w3 w10 w17 w18 w19 w26 some
def d6A:=(d6z N).c1 (d6y N) 25 100 [0,3,7,8,9,24,25,26] [3,7,14,22] ⟨[(0,.c (.sl 67)),(3,.c (.p 3 0)),(7,.c (.p 7 0)),(8,.c (.b)),(9,.c (.o 22)),(10,.c (.i .i64)),(11,.c (.p 11 0)),(24,.c (.sl 69)),(25,.c (.i .i64)),(26,.c (.i .i64))],[(3,.box (.s::[.i .i64,.i .i64,.sl 69,.sl 95,.sl 9])),(7,.box ([.m 14])),(11,.box (rI 7 ([]))),(14,.kmap 3 137 [(1,96),(2,97)]),(22,.row 4 true)]⟩ (fun L _=>b2G N (ll L 1) (lb L 2) (li L 3) (li L 10) (li L 17) (li L 18) (li L 19) (ll L 26)) (fun s m L p=>(.normal,m [] [(22,.row 4 true (lb L 25) p)])) fun _ _=>by unfold b2G;exact bb
def a7t (w1:LD) (w2:Bool) (w4:LD) (w5 w9:Int) (w6:Int) (w18:LD) (kr:Int→LD→Option R) (k0:LD→Option R):Option R:=
 bif (decide (w6<w5)) then
  bif (inB w6 w4.length) then
   bnd (c3Z N w1 w2 w6 w9 ((w4.getD w6.toNat (.i 0)).cell 0).toI ((w4.getD w6.toNat (.i 0)).cell 1).toI ((w4.getD w6.toNat (.i 0)).cell 2).toI w18) fun y0=>
   bif y0.isSome then
    kr (IntKind.wrap .i64 (w6+1)) (y0.getD default)
   else
    none
  else
   none
 else
  k0 w18
def b2H (N:Nat) {R:Type} (w1:LD) (w2:Bool) (w4:LD) (w5 w9:Int):Nat→Int→LD→(LD→Option R)→Option R
 |0,_,_,_=>none
 |m+1,w6,w18,k0=>a7t N w1 w2 w4 w5 w9 w6 w18 (fun w6 w18=>b2H N w1 w2 w4 w5 w9 m w6 w18 k0) k0
def b7C (w1:LD) (w2:Bool) (w4:LD) (w5 w9:Int) (w6:Int) (w18:LD):Option (LD):=b2H N (R:=(LD)) w1 w2 w4 w5 w9 N w6 w18 some
def d6B:=(d6A N).l1 (d6y N) 18 [6,18] [4,5,8,9] [22] ⟨[(0,.c (.sl 67)),(3,.c (.p 3 0)),(7,.c (.p 7 0)),(8,.c (.b)),(9,.c (.o 22)),(24,.c (.sl 69)),(25,.c (.i .i64)),(26,.c (.i .i64))],[(3,.box (.s::[.i .i64,.i .i64,.sl 69,.sl 95,.sl 9])),(7,.box ([.m 14])),(14,.kmap 3 137 [(1,96),(2,97)]),(22,.row 4 true)]⟩ N (fun L x _ kr=>a7t N (ll L 1) (lb L 2) (ll L 4) (li L 5) (li L 9) (li x 0) (ll x 1) (fun w6 w18=>kr [.i w6,.l w18])) (fun L m x=>b2H N (ll L 1) (lb L 2) (ll L 4) (li L 5) (li L 9) m (li x 0) (ll x 1) some) (fun s m L p=>((.exit 0),mg s [8,9] [] [22] [(22,.row 4 true (lb L 17) p)])) fun _ _ _ _ _=>by unfold a7t;exact bb
def d04 (v1:LD) (v3 v4:Int) (v6 v10:LD) (k0:LD×Bool→Option R):Option R:=
 bnd (d6r N v1 v3 v10) fun y0=>
 bif y0.isSome then
  bif (((decide (0≤(v6.length:Int)))&&(decide ((v6.length:Int)≤(v6.length:Int))))&&(decide ((v6.length:Int).toNat*1≤a1K)&&decide ((v6.length:Int).toNat≤a0g))) then
   bnd (b7C N v1 (y0.getD default) v6 (v6.length:Int) v4 0 (List.replicate (v6.length:Int).toNat ((.b false):D))) fun y1=>
   bif y1.isSome then
    k0 ((y1.getD default),(y0.getD default))
   else
    none
  else
   none
 else
  none
def d6C (v1:LD) (v3 v4:Int) (v6 v10:LD):Option (LD×Bool):=d04 N v1 v3 v4 v6 v10 some
def c6f:=(d6B N).f1 (d6y N) ⟨[(0,.c (.sl 67)),(1,.g (.s::[.i .i64,.i .i64,.sl 69,.sl 95,.sl 9]))],[]⟩ (fun L _=>d04 N (ll L 1) (li L 3) (li L 4) (ll L 6) (ll L 10)) (fun L p=>([.c (.sl 4 false p.1),.c (.b p.2)],[])) fun _ _=>by unfold d04;exact bb
def d6D (N:Nat):Sg Tryz.prog 0 63:= .start [(9,[2,3,6,7,8],[2,3,50003005],[50003005]),(41,[2,3,6,7,8,32],[2,3,50003005],[]),(36035,[2,3,6,7,8,13,29],[2,3,50003005],[]),(30029,[2,3,5,6,7,8,13,20],[2,3,5,50003005],[]),(24023,[2,3,5,6,7,8,13,14],[2,3,5,50003005],[])] [(0,[0]),(1,[0,2]),(2,[0,3,2]),(3,[8,7,6,3,2]),(4,[6,8,3,7,2]),(5,[5,3,8,7,6,2]),(6,[13,5,3,8,7,6,2]),(8,[13,3,5,8,7,6,2]),(10,[13,3,8,7,6,2]),(12,[13,3,8,7,6,2]),(13,[3,8,7,6,2]),(11,[3,8,7,6,2]),(9,[3,5,8,7,6,2]),(7,[5,3,8,7,6,2]),(14,[8,7,6,3,2]),(15,[3,2])]
def b2I (N:Nat) (w4 w20:Bool) (k0:Bool→R):R:=
 bif w4 then
  k0 true
 else
  k0 w20
def c30 (w4 w20:Bool):Bool:=b2I N w4 w20 (fun p=>p)
def d6E:=(d6D N).c0 (c6f N) 41 100 [2,3,6,7,8] [2,3,50003005] ⟨[(2,.c (.p 2 0)),(3,.c (.p 3 0)),(6,.c (.sl 67)),(7,.c (.i .i64)),(8,.c (.i .i64)),(32,.c (.b))],[(2,.box (rB 5 ([.sl 3,.b,.b]))),(3,.box (rB 5 ([.o 50003005,.b,.b]))),(50003005,.row 3 true)]⟩ (fun L _=>b2I N (lb L 4) (lb L 20)) (fun s m L p=>(.normal,m [] [(3,.box (rM L 14 5 ([.o 50003005,.b (lb L 19),.b p])))])) fun _ _=>by unfold b2I;exact kk
def a5W (w4:Int) (w5 w20 w21:Bool) (k0:Bool×Bool→R):R:=
 bif w5 then
  k0 (true,w21)
 else
  bnd (c30 N (w4==7) w21) fun y0=>
  k0 (w20,y0)
def b4N (w4:Int) (w5 w20 w21:Bool):Bool×Bool:=a5W N w4 w5 w20 w21 (fun p=>p)
def d6F:=(d6E N).c0 (c6f N) 36035 100 [2,3,6,7,8] [2,3,50003005] ⟨[(2,.c (.p 2 0)),(3,.c (.p 3 0)),(6,.c (.sl 67)),(7,.c (.i .i64)),(8,.c (.i .i64)),(13,.c (.i .i64)),(29,.c (.b))],[(2,.box (rB 5 ([.sl 3,.b,.b]))),(3,.box (rB 5 ([.o 50003005,.b,.b]))),(50003005,.row 3 true)]⟩ (fun L _=>a5W N (li L 4) (lb L 5) (lb L 20) (lb L 21)) (fun s m L p=>(.normal,m [] [(3,.box (rM L 15 5 ([.o 50003005,.b p.1,.b p.2])))])) fun _ _=>by unfold a5W;exact kk
def a5X (w4:Int) (w5 w20 w21:Bool) (w29:Int) (w32:LD) (k0:LD→Option R) (k1:Bool×Bool→Option R):Option R:=
 bif w5 then
  bif (decide ((w32.length+1)*8≤a1K)&&decide ((w32.length+1)≤a0g)) then
   k0 (w32++[(.i w29)])
  else
   none
 else
  bnd (b4N N w4 (w4==6) w20 w21) fun y0=>
  k1 y0
def b4O (w4:Int) (w5 w20 w21:Bool) (w29:Int) (w32:LD):Option (Sum (LD) (Bool×Bool)):=a5X N w4 w5 w20 w21 w29 w32 (fun p=>some (.inl p)) (fun p=>some (.inr p))
def d6G:=(d6F N).c2 (c6f N) 30029 100 [2,3,6,7,8] [2,3,27,50003005] ⟨[(2,.c (.p 2 0)),(3,.c (.p 3 0)),(5,.c (.p 5 0)),(6,.c (.sl 67)),(7,.c (.i .i64)),(8,.c (.i .i64)),(13,.c (.i .i64)),(20,.c (.b))],[(2,.box (rB 5 ([.sl 3,.b,.b]))),(3,.box (rB 5 ([.o 50003005,.b,.b]))),(5,.box (rI 8 ([.s]))),(50003005,.row 3 true)]⟩ (fun L _=>a5X N (li L 4) (lb L 5) (lb L 20) (lb L 21) (li L 29) (ll L 32)) (fun s m L p=>(.normal,mg s [2,3,6,7,8] [] [2,3,27] [(3,.box (rM L 15 5 ([.o 27,.b (lb L 20),.b (lb L 21)]))),(27,.row 3 true false p)])) (fun s m L p=>(.normal,mg s [2,3,6,7,8] [] [2,3,50003005] [(3,.box (rM L 15 5 ([.o 50003005,.b p.1,.b p.2])))])) fun _ _ _=>by unfold a5X;exact bb
def a5Y (w4:Int) (w5 w15 w16 w17 w18 w19 w20 w21:Bool) (w29:Int) (w32:LD) (k0:Ty6→Option R) (k1:LD→Option R):Option R:=
 bif w5 then
  bif (inB w29 5) then
   k0 ((bif (Nat.beq w29.toNat 0) then true else w15),(bif (Nat.beq w29.toNat 1) then true else w16),(bif (Nat.beq w29.toNat 2) then true else w17),(bif (Nat.beq w29.toNat 3) then true else w18),(bif (Nat.beq w29.toNat 4) then true else w19),w20,w21)
  else
   none
 else
  bnd (b4O N w4 (w4==8) w20 w21 w29 w32) fun y0=>
  bif (a1x y0) then
   k1 (a2t y0)
  else
   bif (a0w y0).isSome then
    k0 (w15,w16,w17,w18,w19,((a0w y0).getD default).1,((a0w y0).getD default).2)
   else
    none
def a5Z (w4:Int) (w5 w15 w16 w17 w18 w19 w20 w21:Bool) (w29:Int) (w32:LD):Option (Sum (Ty6) (LD)):=a5Y N w4 w5 w15 w16 w17 w18 w19 w20 w21 w29 w32 (fun p=>some (.inl p)) (fun p=>some (.inr p))
def d6H:=(d6G N).c2 (c6f N) 24023 100 [2,3,6,7,8] [2,3,27,50003005] ⟨[(2,.c (.p 2 0)),(3,.c (.p 3 0)),(5,.c (.p 5 0)),(6,.c (.sl 67)),(7,.c (.i .i64)),(8,.c (.i .i64)),(13,.c (.i .i64)),(14,.c (.b))],[(2,.box (rB 5 ([.sl 3,.b,.b]))),(3,.box (rB 5 ([.o 50003005,.b,.b]))),(5,.box (rI 8 ([.s]))),(50003005,.row 3 true)]⟩ (fun L _=>a5Y N (li L 4) (lb L 5) (lb L 15) (lb L 16) (lb L 17) (lb L 18) (lb L 19) (lb L 20) (lb L 21) (li L 29) (ll L 32)) (fun s m L p=>let p1:=p.2;let p2:=p1.2;let p3:=p2.2;let p4:=p3.2;let p5:=p4.2;let p6:=p5.2;(.normal,mg s [2,3,6,7,8] [] [2,3,50003005] [(3,.box [.b p.1,.b p1.1,.b p2.1,.b p3.1,.b p4.1,.o 50003005,.b p5.1,.b p6])])) (fun s m L p=>(.normal,mg s [2,3,6,7,8] [] [2,3,27] [(3,.box (rM L 15 5 ([.o 27,.b (lb L 20),.b (lb L 21)]))),(27,.row 3 true false p)])) fun _ _ _=>by unfold a5Y;exact bb
def b0M (w1:LD) (w2:Int) (w3:Int) (w13 w14 w15 w16 w17 w18 w19 w20:Bool) (w21:LD) (kr:Int→Bool→Bool→Bool→Bool→Bool→Bool→Bool→Bool→LD→Option R) (k0:Ty2→Option R):Option R:=
 bif (decide (w3<w2)) then
  bif (inB w3 w1.length) then
   bnd (a5Z N ((w1.getD w3.toNat (.i 0)).cell 1).toI (((w1.getD w3.toNat (.i 0)).cell 1).toI==3) w13 w14 w15 w16 w17 w18 w19 ((w1.getD w3.toNat (.i 0)).cell 7).toI w21) fun y0=>
   bif (a1x y0) then
    kr (IntKind.wrap .i64 (w3+1)) (a2t y0).1 (a2t y0).2.1 (a2t y0).2.2.1 (a2t y0).2.2.2.1 (a2t y0).2.2.2.2.1 (a2t y0).2.2.2.2.2.1 (a2t y0).2.2.2.2.2.2 w20 w21
   else
    bif (a0w y0).isSome then
     kr (IntKind.wrap .i64 (w3+1)) w13 w14 w15 w16 w17 w18 w19 false ((a0w y0).getD default)
    else
     none
  else
   none
 else
  k0 (w13,w14,w15,w16,w17,w18,w19,w20,w21)
def b7D (N:Nat) {R:Type} (w1:LD) (w2:Int):Nat→Int→Bool→Bool→Bool→Bool→Bool→Bool→Bool→Bool→LD→(Ty2→Option R)→Option R
 |0,_,_,_,_,_,_,_,_,_,_,_=>none
 |m+1,w3,w13,w14,w15,w16,w17,w18,w19,w20,w21,k0=>b0M N w1 w2 w3 w13 w14 w15 w16 w17 w18 w19 w20 w21 (fun w3 w13 w14 w15 w16 w17 w18 w19 w20 w21=>b7D N w1 w2 m w3 w13 w14 w15 w16 w17 w18 w19 w20 w21 k0) k0
def c11 (w1:LD) (w2:Int) (w3:Int) (w13 w14 w15 w16 w17 w18 w19 w20:Bool) (w21:LD):Option (Ty2):=b7D N (R:=(Ty2)) w1 w2 N w3 w13 w14 w15 w16 w17 w18 w19 w20 w21 some
def d6I:=(d6H N).l1 (c6f N) 9 [3,13,14,15,16,17,18,19,20,21] [2,3] [2,3,50003005] ⟨[(2,.c (.p 2 0)),(3,.c (.p 3 0)),(6,.c (.sl 67)),(7,.c (.i .i64)),(8,.c (.i .i64))],[(2,.box (rB 5 ([.sl 3,.b,.b]))),(3,.box (rB 5 ([.o 50003005,.b,.b]))),(50003005,.row 3 true)]⟩ N (fun L x _ kr=>b0M N (ll L 1) (li L 2) (li x 0) (lb x 1) (lb x 2) (lb x 3) (lb x 4) (lb x 5) (lb x 6) (lb x 7) (lb x 8) (ll x 9) (fun w3 w13 w14 w15 w16 w17 w18 w19 w20 w21=>kr [.i w3,.b w13,.b w14,.b w15,.b w16,.b w17,.b w18,.b w19,.b w20,.l w21])) (fun L m x=>b7D N (ll L 1) (li L 2) m (li x 0) (lb x 1) (lb x 2) (lb x 3) (lb x 4) (lb x 5) (lb x 6) (lb x 7) (lb x 8) (ll x 9) some) (fun s m L p=>let p1:=p.2;let p2:=p1.2;let p3:=p2.2;let p4:=p3.2;let p5:=p4.2;let p6:=p5.2;let p7:=p6.2;let p8:=p7.2;((.exit 0),mg s [2,3] [] [2,3,50003005] [(3,.box [.b p.1,.b p1.1,.b p2.1,.b p3.1,.b p4.1,.o 50003005,.b p5.1,.b p6.1]),(50003005,.row 3 true p7.1 p8)])) fun _ _ _ _ _=>by unfold b0M;exact bb
def d05 (v1:LD) (k0:Ty3→Option R):Option R:=
 bnd (c11 N v1 (v1.length:Int) 0 false false false false false false false true []) fun y0=>
 bif y0.isSome then
  k0 ((y0.getD default).1,(y0.getD default).2.1,(y0.getD default).2.2.1,(y0.getD default).2.2.2.1,(y0.getD default).2.2.2.2.1,(y0.getD default).2.2.2.2.2.2.2.1,(y0.getD default).2.2.2.2.2.2.2.2,(y0.getD default).2.2.2.2.2.1,(y0.getD default).2.2.2.2.2.2.1)
 else
  none
def d6J (v1:LD):Option (Ty3):=d05 N v1 some
def e3u:=(d6I N).f1 (c6f N) ⟨[(0,.c (.sl 67))],[]⟩ (fun L _=>d05 N (ll L 1)) (fun L p=>let p1:=p.2;let p2:=p1.2;let p3:=p2.2;let p4:=p3.2;let p5:=p4.2;let p6:=p5.2;let p7:=p6.2;let p8:=p7.2;([.g [.b p.1,.b p1.1,.b p2.1,.b p3.1,.b p4.1,.sl 3 p5.1 p6.1,.b p7.1,.b p8]],[])) fun _ _=>by unfold d05;exact bb
def d06 (N:Nat):Sg Tryz.prog 0 101:= .start [] [(0,[0]),(1,[0]),(2,[]),(3,[0])] true
def c31 (N:Nat) (v0:Bool) (v1:LD) (k0:Unit→Option R) (k1:Bool→Option R):Option R:=
 bif v0 then
  k0 ()
 else
  bif (decide ((0+v1.length)*16≤a1K)&&decide ((0+v1.length)≤a0g)) then
   k1 (v1.isEmpty&&false)
  else
   none
def d4r (v0:Bool) (v1:LD):Option (Sum (Unit) (Bool)):=c31 N v0 v1 (fun p=>some (.inl p)) (fun p=>some (.inr p))
def d4s:=(d06 N).f2 (e3u N) ⟨[(0,.c (.sl 9))],[]⟩ (fun L _=>c31 N (lb L 0) (ll L 1)) (fun L _=>([.c (.sl 9 true [])],[])) (fun L p=>([.c (.o 7)],[(7,.row 9 true p (ll L 1))])) fun _ _ _=>by unfold c31;exact bb
def d07 (N:Nat):Sg Tryz.prog 0 102:= .start [(11,[0,1,5,10],[],[])] [(0,[0,1]),(1,[0,1]),(2,[5,1,0]),(3,[5,1,0]),(4,[0,5])]
def a9E (N:Nat) (w1 w2:Int) (w3:Bool) (k0:Int→R):R:=
 bif w3 then
  k0 (IntKind.wrap .i64 (w2+w1))
 else
  k0 w2
def c0k (w1 w2:Int) (w3:Bool):Int:=a9E N w1 w2 w3 (fun p=>p)
def d08:=(d07 N).c0 (d4s N) 11 100 [0,5] [] ⟨[(0,.c (.i .i64)),(1,.c (.i .i64)),(5,.c (.i .i64)),(10,.c (.b))],[]⟩ (fun L _=>a9E N (li L 1) (li L 2) (lb L 3)) (fun s m L p=>(.normal,⟨[(0,.c (.i .i64 (li L 0))),(5,.c (.i .i64 p))],[]⟩)) fun _ _=>by unfold a9E;exact kk
def c32 (v0 v1:Int) (k0:Int→Option R):Option R:=
 bif (!(v1==0)) then
  bnd (c0k N v1 (v0.tmod v1) (decide ((v0.tmod v1)<0))) fun y0=>
  k0 (IntKind.wrap .i64 (v0-y0))
 else
  none
def b4P (v0 v1:Int):Option (Int):=c32 N v0 v1 some
def c8n:=(d08 N).f1 (d4s N) ⟨[(0,.c (.i .i64)),(1,.c (.i .i64))],[]⟩ (fun L _=>c32 N (li L 0) (li L 1)) (fun L p=>([.c (.i .i64 p)],[])) fun _ _=>by unfold c32;exact bb
def d09 (N:Nat):Sg Tryz.prog 0 103:= .start [(300000004,[2,3,4],[2,3,4],[]),(23,[2,3,4,28],[2,3,4],[]),(27,[3,4,31,32,33],[3,4],[])] [(0,[0,1]),(1,[3,2,4]),(2,[14,2,3,4]),(3,[14,2,3,4]),(4,[5,2,6,14,3,4]),(5,[6,14,2,3,4]),(6,[2,3,4]),(7,[3,2,4]),(8,[2,3,4]),(9,[33,32,31,3,4]),(10,[31,33,3,32,4]),(11,[3,8,33,32,31,4]),(12,[33,32,31,3,4]),(13,[3,4])]
def d1a:Sg Tryz.prog 0 103:=(d09 N).hand d5C
def a9F (N:Nat) (w0:Bool) (w13:Int) (k0:Int→R):R:=
 bif w0 then
  k0 0
 else
  k0 w13
def c0l (w0:Bool) (w13:Int):Int:=a9F N w0 w13 (fun p=>p)
def d1b:=(d1a N).c0 (c8n N) 23 100 [2,3,4] [2,3,4] ⟨[(2,.c (.p 2 0)),(3,.c (.p 3 0)),(4,.c (.p 4 0)),(28,.c (.b))],[(2,.box (rB 5 ([.sl 3,.b,.b]))),(3,.box (rI 7 ([]))),(4,.box (rI 7 ([])))]⟩ (fun L _=>a9F N (lb L 0) (li L 13)) (fun s m L p=>(.normal,m [] [(3,.box [.i .i64 (li L 10),.i .i64 (li L 11),.i .i64 (li L 12),.i .i64 p,.i .i64 (li L 14),.i .i64 (li L 15),.i .i64 (li L 16)])])) fun _ _=>by unfold a9F;exact kk
def a5i (w1:LD) (w2:Int) (w3 w5 w6:Int) (kr:Int→Int→Int→Option R) (k0:Int×Int→Option R):Option R:=
 bif (decide (w3<w2)) then
  bif (inB w3 w1.length) then
   bnd (b4P N w5 (w1.getD w3.toNat (.i 0)).toI) fun y0=>
   bif y0.isSome then
    bnd (b4P N w6 (w1.getD w3.toNat (.i 0)).toI) fun y1=>
    bif y1.isSome then
     kr (IntKind.wrap .i64 (w3+1)) (max2 (y0.getD default) (-100000000)) (max2 (y1.getD default) (-100000000))
    else
     none
   else
    none
  else
   none
 else
  k0 (w5,w6)
def a9G (N:Nat) {R:Type} (w1:LD) (w2:Int):Nat→Int→Int→Int→(Int×Int→Option R)→Option R
 |0,_,_,_,_=>none
 |m+1,w3,w5,w6,k0=>a5i N w1 w2 w3 w5 w6 (fun w3 w5 w6=>a9G N w1 w2 m w3 w5 w6 k0) k0
def b4Q (w1:LD) (w2:Int) (w3 w5 w6:Int):Option (Int×Int):=a9G N (R:=(Int×Int)) w1 w2 N w3 w5 w6 some
def d1c:=(d1b N).l1 (c8n N) 27 [3,5,6] [3,4] [3,4] ⟨[(3,.c (.p 3 0)),(4,.c (.p 4 0)),(31,.c (.sl 3)),(32,.c (.i .i64)),(33,.c (.i .i64))],[(3,.box (rI 7 ([]))),(4,.box (rI 7 ([])))]⟩ N (fun L x _ kr=>a5i N (ll L 1) (li L 2) (li x 0) (li x 1) (li x 2) (fun w3 w5 w6=>kr [.i w3,.i w5,.i w6])) (fun L m x=>a9G N (ll L 1) (li L 2) m (li x 0) (li x 1) (li x 2) some) (fun s m L p=>((.exit 2),m [] [(3,.box (.i .i64 (li L 4):: .i .i64 p.1:: .i .i64 p.2::rL L 7 4 ([])))])) fun _ _ _ _ _=>by unfold a5i;exact bb
def c33 (v1 v2 v3 v4:Bool) (v6:LD) (v10 v11 v12 v13 v14 v15:Int) (k0:Int×Int×Int×Int×Int×Int→Option R):Option R:=
 bnd (c0l N v4 v12) fun y0=>
 bnd (b4Q N v6 (v6.length:Int) 0 v10 v11) fun y1=>
 bif y1.isSome then
  k0 ((y1.getD default).1,(y1.getD default).2,y0,(bif v1 then (-1) else v13),(bif v2 then (-1) else v14),(bif v3 then (-1) else v15))
 else
  none
def c34 (v1 v2 v3 v4:Bool) (v6:LD) (v10 v11 v12 v13 v14 v15:Int):Option (Int×Int×Int×Int×Int×Int):=c33 N v1 v2 v3 v4 v6 v10 v11 v12 v13 v14 v15 some
def a5j:=(d1c N).f1 (c8n N) ⟨[(0,.g (rB 5 ([.sl 3,.b,.b]))),(1,.g (rI 7 ([])))],[]⟩ (fun L _=>c33 N (lb L 1) (lb L 2) (lb L 3) (lb L 4) (ll L 6) (li L 10) (li L 11) (li L 12) (li L 13) (li L 14) (li L 15)) (fun L p=>let p1:=p.2;let p2:=p1.2;let p3:=p2.2;let p4:=p3.2;let p5:=p4.2;([.g [.i .i64 (li L 9),.i .i64 p.1,.i .i64 p1.1,.i .i64 p2.1,.i .i64 p3.1,.i .i64 p4.1,.i .i64 p5]],[])) fun _ _=>by unfold c33;exact bb
def d6K (N:Nat):Sg Tryz.prog 0 64:= .start [(7,[2,3,4,6,7],[3,4,6],[]),(14,[2,3,4,6,7,8,31],[3,4,6,8,29000000007],[]),(20,[2,3,4,6,7,8,35],[3,4,6,8,29000000007],[]),(27,[3,4,6,7,8,9,41,42,43],[3,4,6,8,40,50008003,50008004,29000000007],[50008004,50008003]),(51,[3,6,7,8,9,66,67,68],[3,6,8,40,50008003,50008004,29000000007],[50008004,50008003]),(68,[3,6,7,8,9,13,66,67,68,95],[3,6,8,13,40,50008003,50008004,29000000007],[])] [(0,[0,1,2]),(1,[2,4,3,6]),(2,[4,7,3,2,6]),(3,[3,8,2,7,4,6]),(4,[8,3,2,7,4,6]),(5,[3,8,2,7,4,6]),(6,[8,2,3,7,4,6]),(7,[2,3,7,8,4,6]),(8,[2,9,3,7,8,4,6]),(9,[43,42,41,9,3,7,8,4,6]),(10,[41,43,9,3,7,8,42,4,6]),(11,[9,11,3,7,8,43,42,41,4,6]),(12,[3,11,7,8,43,42,41,9,4,6]),(13,[11,7,8,43,42,41,9,3,4,6]),(14,[8,11,43,42,41,9,3,7,4,6]),(15,[43,42,41,9,3,7,8,4,6]),(16,[4,9,7,3,8,6]),(17,[68,67,66,9,7,3,8,6]),(18,[66,68,9,67,7,3,8,6]),(19,[9,13,68,67,66,7,3,8,6]),(20,[13,7,3,8,68,67,66,9,6]),(21,[3,13,8,68,67,66,9,7,6]),(22,[13,8,68,67,66,9,7,3,6]),(23,[8,13,68,67,66,9,7,3,6]),(24,[68,67,66,9,7,3,8,6]),(25,[8,6])]
def b7E (w2 w14:Int) (w19:Bool) (w20:LD) (k0:Int→Option R) (k1:Int×Bool→Option R):Option R:=
 bnd (d4r N w19 w20) fun y0=>
 bif (a1x y0) then
  k0 (IntKind.wrap .i64 (w14+w2))
 else
  bif (a0w y0).isSome then
   k1 ((IntKind.wrap .i64 (w14+w2)),((a0w y0).getD default))
  else
   none
def b7F (w2 w14:Int) (w19:Bool) (w20:LD):Option (Sum (Int) (Int×Bool)):=b7E N w2 w14 w19 w20 (fun p=>some (.inl p)) (fun p=>some (.inr p))
def d6L:=(d6K N).c2 (a5j N) 7 100 [2,3,4,6,7,8] [3,4,6,8,29000000007] ⟨[(2,.c (.sl 69)),(3,.c (.p 3 0)),(4,.c (.p 4 0)),(6,.c (.p 6 0)),(7,.c (.i .i64))],[(3,.box (rB 5 ([.sl 3,.b,.b]))),(4,.box (.s::[.i .i64,.i .i64,.sl 69,.sl 95,.sl 9])),(6,.box (.s::[.i .i64,.i .i64,.sl 69,.sl 95,.sl 9]))]⟩ (fun L _=>b7E N (li L 2) (li L 14) (lb L 19) (ll L 20)) (fun s m L p=>(.normal,mg s [2,3,4,6,7,8] [(8,.c (.p 8 0))] [3,4,6,8] [(8,.box [.s (ls L 12),.i .i64 (li L 13),.i .i64 p,.sl 69 true [],.sl 95 true [],.sl 9 true []])])) (fun s m L p=>(.normal,m [(8,.c (.p 8 0))] [(8,.box [.s (ls L 12),.i .i64 (li L 13),.i .i64 p.1,.sl 69 true [],.sl 95 true [],.o 29000000007]),(29000000007,.row 9 true p.2 (ll L 20))])) fun _ _ _=>by unfold b7E;exact bb
def b2J (N:Nat) (w3:Bool) (w31:LB) (w38:Bool) (w39:LD) (k0:LB×Bool×LD→R):R:=
 bif w3 then
  k0 (([97,99,116,105,118,105,116,121]:List UInt8),true,[])
 else
  k0 (w31,w38,w39)
def c35 (w3:Bool) (w31:LB) (w38:Bool) (w39:LD):LB×Bool×LD:=b2J N w3 w31 w38 w39 (fun p=>p)
def d6M:=(d6L N).c0 (a5j N) 14 100 [2,3,4,6,7,8] [3,4,6,8] ⟨[(2,.c (.sl 69)),(3,.c (.p 3 0)),(4,.c (.p 4 0)),(6,.c (.p 6 0)),(7,.c (.i .i64)),(8,.c (.p 8 0)),(31,.c (.b))],[(3,.box (rB 5 ([.sl 3,.b,.b]))),(4,.box (.s::[.i .i64,.i .i64,.sl 69,.sl 95,.sl 9])),(6,.box (.s::[.i .i64,.i .i64,.sl 69,.sl 95,.sl 9])),(8,.box (.s::[.i .i64,.i .i64,.sl 69,.sl 95,.sl 9]))]⟩ (fun L _=>b2J N (lb L 3) (ls L 31) (lb L 38) (ll L 39)) (fun s m L p=>(.normal,m [] [(8,.box [.s p.1,.i .i64 (li L 32),.i .i64 (li L 33),.sl 69 (lb L 34) (ll L 35),.sl 95 (lb L 36) (ll L 37),.sl 9 p.2.1 p.2.2])])) fun _ _=>by unfold b2J;exact kk
def a9H (w3:Bool) (w33:Int) (k0:Int→Option R):Option R:=
 bif w3 then
  bnd (b4P N w33 86400) fun y0=>
  bif y0.isSome then
   k0 (y0.getD default)
  else
   none
 else
  k0 w33
def c36 (w3:Bool) (w33:Int):Option (Int):=a9H N w3 w33 some
def d6N:=(d6M N).c1 (a5j N) 20 100 [2,3,4,6,7,8] [3,4,6,8] ⟨[(2,.c (.sl 69)),(3,.c (.p 3 0)),(4,.c (.p 4 0)),(6,.c (.p 6 0)),(7,.c (.i .i64)),(8,.c (.p 8 0)),(35,.c (.b))],[(3,.box (rB 5 ([.sl 3,.b,.b]))),(4,.box (.s::[.i .i64,.i .i64,.sl 69,.sl 95,.sl 9])),(6,.box (.s::[.i .i64,.i .i64,.sl 69,.sl 95,.sl 9])),(8,.box (.s::[.i .i64,.i .i64,.sl 69,.sl 95,.sl 9]))]⟩ (fun L _=>a9H N (lb L 3) (li L 33)) (fun s m L p=>(.normal,m [] [(8,.box [.s (ls L 31),.i .i64 (li L 32),.i .i64 p,.sl 69 (lb L 34) (ll L 35),.sl 95 (lb L 36) (ll L 37),.sl 9 (lb L 38) (ll L 39)])])) fun _ _=>by unfold a9H;exact bb
def a7u (w0:Int) (w2:LD) (w3:Int) (w6 w7 w8 w9:Bool) (w11:LD) (w4:Int) (w37:(List (D×D))) (w38:Bool) (w39:LD) (kr:Int→(List (D×D))→Bool→LD→Option R) (k0:Ty9→Option R):Option R:=
 bif (decide (w4<w3)) then
  bif (inB w4 w2.length) then
   bnd (c5y Tryz.prog 3 (.i ((w2.getD w4.toNat (.i 0)).cell 0).toI) (.b true) w37) fun y0=>
   bnd (c34 N w6 w7 w8 w9 w11 ((w2.getD w4.toNat (.i 0)).cell 1).toI ((w2.getD w4.toNat (.i 0)).cell 2).toI ((w2.getD w4.toNat (.i 0)).cell 3).toI ((w2.getD w4.toNat (.i 0)).cell 4).toI ((w2.getD w4.toNat (.i 0)).cell 5).toI ((w2.getD w4.toNat (.i 0)).cell 6).toI) fun y1=>
   bif y1.isSome then
    bnd (IntKind.wrap .i64 (((w2.getD w4.toNat (.i 0)).cell 0).toI-w0)) fun y2=>
    bif (decide ((w39.length+1)*56≤a1K)&&decide ((w39.length+1)≤a0g)) then
     bnd ((w39++[(.a [(.i y2),(.i (y1.getD default).1),(.i (y1.getD default).2.1),(.i (y1.getD default).2.2.1),(.i (y1.getD default).2.2.2.1),(.i (y1.getD default).2.2.2.2.1),(.i (y1.getD default).2.2.2.2.2)])]):List D) fun y3=>
     kr (IntKind.wrap .i64 (w4+1)) y0 false y3
    else
     none
   else
    none
  else
   none
 else
  k0 (w37,w38,w39)
def b2K (N:Nat) {R:Type} (w0:Int) (w2:LD) (w3:Int) (w6 w7 w8 w9:Bool) (w11:LD):Nat→Int→(List (D×D))→Bool→LD→(Ty9→Option R)→Option R
 |0,_,_,_,_,_=>none
 |m+1,w4,w37,w38,w39,k0=>a7u N w0 w2 w3 w6 w7 w8 w9 w11 w4 w37 w38 w39 (fun w4 w37 w38 w39=>b2K N w0 w2 w3 w6 w7 w8 w9 w11 m w4 w37 w38 w39 k0) k0
def b2L (w0:Int) (w2:LD) (w3:Int) (w6 w7 w8 w9:Bool) (w11:LD) (w4:Int) (w37:(List (D×D))) (w38:Bool) (w39:LD):Option (Ty9):=b2K N (R:=(Ty9)) w0 w2 w3 w6 w7 w8 w9 w11 N w4 w37 w38 w39 some
def d6O:=(d6N N).l1 (a5j N) 27 [4,37,38,39] [3,4,6,7,8,9] [3,4,6,8,40,50008003,50008004] ⟨[(3,.c (.p 3 0)),(4,.c (.p 4 0)),(6,.c (.p 6 0)),(7,.c (.i .i64)),(8,.c (.p 8 0)),(9,.c (.m 40)),(41,.c (.sl 69)),(42,.c (.i .i64)),(43,.c (.i .i64))],[(3,.box (rB 5 ([.sl 3,.b,.b]))),(4,.box (.s::[.i .i64,.i .i64,.sl 69,.sl 95,.sl 9])),(6,.box (.s::[.i .i64,.i .i64,.sl 69,.sl 95,.sl 9])),(8,.box (.s::[.i .i64,.i .i64,.o 50008003,.o 50008004,.sl 9])),(40,.map 3 4),(50008003,.row 69 true),(50008004,.row 95 true)]⟩ N (fun L x _ kr=>a7u N (li L 0) (ll L 2) (li L 3) (lb L 6) (lb L 7) (lb L 8) (lb L 9) (ll L 11) (li x 0) (lm x 1) (lb x 2) (ll x 3) (fun w4 w37 w38 w39=>kr [.i w4,.m w37,.b w38,.l w39])) (fun L m x=>b2K N (li L 0) (ll L 2) (li L 3) (lb L 6) (lb L 7) (lb L 8) (lb L 9) (ll L 11) m (li x 0) (lm x 1) (lb x 2) (ll x 3) some) (fun s m L p=>((.exit 0),m [] [(40,.map 3 4 p.1),(50008003,.row 69 true p.2.1 p.2.2)])) fun _ _ _ _ _=>by unfold a7u;exact bb
def b2M (N:Nat) (w5:Bool) (w31:LB) (k0:LB→R):R:=
 bif w5 then
  k0 ([]:List UInt8)
 else
  k0 w31
def c37 (w5:Bool) (w31:LB):LB:=b2M N w5 w31 (fun p=>p)
def d6P:=(d6O N).c0 (a5j N) 68 100 [3,6,7,8,9,13,66,67,68] [3,6,8,13,40,50008003,50008004] ⟨[(3,.c (.p 3 0)),(6,.c (.p 6 0)),(7,.c (.i .i64)),(8,.c (.p 8 0)),(9,.c (.m 40)),(13,.c (.p 13 0)),(66,.c (.sl 95)),(67,.c (.i .i64)),(68,.c (.i .i64)),(95,.c (.b))],[(3,.box (rB 5 ([.sl 3,.b,.b]))),(6,.box (.s::[.i .i64,.i .i64,.sl 69,.sl 95,.sl 9])),(8,.box (.s::[.i .i64,.i .i64,.o 50008003,.o 50008004,.sl 9])),(13,.box ([.i .i64,.i .i64,.s])),(40,.map 3 4),(50008003,.row 69 true),(50008004,.row 95 true)]⟩ (fun L _=>b2M N (lb L 5) (ls L 31)) (fun s m L p=>(.normal,m [] [(13,.box [.i .i64 (li L 29),.i .i64 (li L 30),.s p])])) fun _ _=>by unfold b2M;exact kk
def a7v (w0:Int) (w2:LD) (w3:Int) (w13:Bool) (w28:(List (D×D))) (w4:Int) (w31:Bool) (w32:LD) (kr:Int→Bool→LD→Option R) (k0:Bool×LD→Option R):Option R:=
 bif (decide (w4<w3)) then
  bif (inB w4 w2.length) then
   bnd ((a2u Tryz.prog 3 (.i ((w2.getD w4.toNat (.i 0)).cell 0).toI) w28).getD (.b false)).toB fun y0=>
   bnd (bif (!y0) then true else (!((a2u Tryz.prog 3 (.i ((w2.getD w4.toNat (.i 0)).cell 1).toI) w28).getD (.b false)).toB)) fun y1=>
   bif y1 then
    kr (IntKind.wrap .i64 (w4+1)) w31 w32
   else
    bnd (IntKind.wrap .i64 (((w2.getD w4.toNat (.i 0)).cell 0).toI-w0)) fun y2=>
    bnd (IntKind.wrap .i64 (((w2.getD w4.toNat (.i 0)).cell 1).toI-w0)) fun y3=>
    bnd (c37 N w13 ((w2.getD w4.toNat (.i 0)).cell 2).toS) fun y4=>
    bif (decide ((w32.length+1)*32≤a1K)&&decide ((w32.length+1)≤a0g)) then
     bnd ((w32++[(.a [(.i y2),(.i y3),(.s y4)])]):List D) fun y5=>
     kr (IntKind.wrap .i64 (w4+1)) false y5
    else
     none
  else
   none
 else
  k0 (w31,w32)
def b2N (N:Nat) {R:Type} (w0:Int) (w2:LD) (w3:Int) (w13:Bool) (w28:(List (D×D))):Nat→Int→Bool→LD→(Bool×LD→Option R)→Option R
 |0,_,_,_,_=>none
 |m+1,w4,w31,w32,k0=>a7v N w0 w2 w3 w13 w28 w4 w31 w32 (fun w4 w31 w32=>b2N N w0 w2 w3 w13 w28 m w4 w31 w32 k0) k0
def b2O (w0:Int) (w2:LD) (w3:Int) (w13:Bool) (w28:(List (D×D))) (w4:Int) (w31:Bool) (w32:LD):Option (Bool×LD):=b2N N (R:=(Bool×LD)) w0 w2 w3 w13 w28 N w4 w31 w32 some
def c8o:=(d6P N).l1 (a5j N) 51 [4,31,32] [6,8] [6,8,50008003,50008004] ⟨[(3,.c (.p 3 0)),(6,.c (.p 6 0)),(7,.c (.i .i64)),(8,.c (.p 8 0)),(9,.c (.m 40)),(66,.c (.sl 95)),(67,.c (.i .i64)),(68,.c (.i .i64))],[(3,.box (rB 5 ([.sl 3,.b,.b]))),(6,.box (.s::[.i .i64,.i .i64,.sl 69,.sl 95,.sl 9])),(8,.box (.s::[.i .i64,.i .i64,.o 50008003,.o 50008004,.sl 9])),(40,.map 3 4),(50008003,.row 69 true),(50008004,.row 95 true)]⟩ N (fun L x _ kr=>a7v N (li L 0) (ll L 2) (li L 3) (lb L 13) (lm L 28) (li x 0) (lb x 1) (ll x 2) (fun w4 w31 w32=>kr [.i w4,.b w31,.l w32])) (fun L m x=>b2N N (li L 0) (ll L 2) (li L 3) (lb L 13) (lm L 28) m (li x 0) (lb x 1) (ll x 2) some) (fun s m L p=>((.exit 2),m [] [(50008004,.row 95 true p.1 p.2)])) fun _ _ _ _ _=>by unfold a7v;exact bb
def a9I (N:Nat) (w3:Bool) (k0:LB→Option R) (k1:Unit→Option R):Option R:=
 bif w3 then
  k0 ([97,99,116,105,118,105,116,121]:List UInt8)
 else
  k1 ()
def c0m (w3:Bool):Option (Sum (LB) (Unit)):=a9I N w3 (fun p=>some (.inl p)) (fun p=>some (.inr p))
def c8p:=(c8o N).add (((c8o N).no 14).c2 (a5j N) 14 100 [2,3,4,6,7,8] [3,4,6,8,29000000007] ⟨[(2,.c (.sl 69)),(3,.c (.p 3 0)),(4,.c (.p 4 0)),(6,.c (.p 6 0)),(7,.c (.i .i64)),(8,.c (.p 8 0)),(31,.c (.b))],[(3,.box (rB 5 ([.sl 3,.b,.b]))),(4,.box (.s::[.i .i64,.i .i64,.sl 69,.sl 95,.sl 9])),(6,.box (.s::[.i .i64,.i .i64,.sl 69,.sl 95,.sl 9])),(8,.box (.s::[.i .i64,.i .i64,.sl 69,.sl 95,.o 29000000007])),(29000000007,.row 9 true)]⟩ (fun L _=>a9I N (lb L 3)) (fun s m L p=>(.normal,m [] [(8,.box [.s p,.i .i64 (li L 32),.i .i64 (li L 33),.sl 69 (lb L 34) (ll L 35),.sl 95 (lb L 36) (ll L 37),.sl 9 true []])])) (fun s m L _=>(.normal,m [] [])) fun _ _ _=>by unfold a9I;exact bb) 14
def a9J (w3:Bool) (w33:Int) (k0:Int→Option R):Option R:=
 bif w3 then
  bnd (b4P N w33 86400) fun y0=>
  bif y0.isSome then
   k0 (y0.getD default)
  else
   none
 else
  k0 w33
def c0n (w3:Bool) (w33:Int):Option (Int):=a9J N w3 w33 some
def c8q:=(c8p N).add (((c8p N).no 20).c1 (a5j N) 20 100 [2,3,4,6,7,8] [3,4,6,8] ⟨[(2,.c (.sl 69)),(3,.c (.p 3 0)),(4,.c (.p 4 0)),(6,.c (.p 6 0)),(7,.c (.i .i64)),(8,.c (.p 8 0)),(35,.c (.b))],[(3,.box (rB 5 ([.sl 3,.b,.b]))),(4,.box (.s::[.i .i64,.i .i64,.sl 69,.sl 95,.sl 9])),(6,.box (.s::[.i .i64,.i .i64,.sl 69,.sl 95,.sl 9])),(8,.box (.s::[.i .i64,.i .i64,.sl 69,.sl 95,.sl 9])),(29000000007,.row 9 true)]⟩ (fun L _=>a9J N (lb L 3) (li L 33)) (fun s m L p=>(.normal,m [] [(8,.box [.s (ls L 31),.i .i64 (li L 32),.i .i64 p,.sl 69 (lb L 34) (ll L 35),.sl 95 (lb L 36) (ll L 37),.sl 9 (lb L 38) (ll L 39)])])) fun _ _=>by unfold a9J;exact bb) 20
def a7w (w3:Bool) (w33:Int) (k0:Int→Option R):Option R:=
 bif w3 then
  bnd (b4P N w33 86400) fun y0=>
  bif y0.isSome then
   k0 (y0.getD default)
  else
   none
 else
  k0 w33
def b6v (w3:Bool) (w33:Int):Option (Int):=a7w N w3 w33 some
def c8r:=(c8q N).add (((c8q N).no 20).c1 (a5j N) 20 100 [2,3,4,6,7,8] [3,4,6,8,29000000007] ⟨[(2,.c (.sl 69)),(3,.c (.p 3 0)),(4,.c (.p 4 0)),(6,.c (.p 6 0)),(7,.c (.i .i64)),(8,.c (.p 8 0)),(35,.c (.b))],[(3,.box (rB 5 ([.sl 3,.b,.b]))),(4,.box (.s::[.i .i64,.i .i64,.sl 69,.sl 95,.sl 9])),(6,.box (.s::[.i .i64,.i .i64,.sl 69,.sl 95,.sl 9])),(8,.box (.s::[.i .i64,.i .i64,.sl 69,.sl 95,.o 29000000007])),(29000000007,.row 9 true)]⟩ (fun L _=>a7w N (lb L 3) (li L 33)) (fun s m L p=>(.normal,m [] [(8,.box [.s (ls L 31),.i .i64 (li L 32),.i .i64 p,.sl 69 (lb L 34) (ll L 35),.sl 95 (lb L 36) (ll L 37),.o 29000000007])])) fun _ _=>by unfold a7w;exact bb) 20
def a5k (w0:Int) (w2:LD) (w3:Int) (w6 w7 w8 w9:Bool) (w11:LD) (w4:Int) (w35:(List (D×D))) (w36:Bool) (w37:LD) (kr:Int→(List (D×D))→Bool→LD→Option R) (k0:Ty9→Option R):Option R:=
 bif (decide (w4<w3)) then
  bif (inB w4 w2.length) then
   bnd (c5y Tryz.prog 3 (.i ((w2.getD w4.toNat (.i 0)).cell 0).toI) (.b true) w35) fun y0=>
   bnd (c34 N w6 w7 w8 w9 w11 ((w2.getD w4.toNat (.i 0)).cell 1).toI ((w2.getD w4.toNat (.i 0)).cell 2).toI ((w2.getD w4.toNat (.i 0)).cell 3).toI ((w2.getD w4.toNat (.i 0)).cell 4).toI ((w2.getD w4.toNat (.i 0)).cell 5).toI ((w2.getD w4.toNat (.i 0)).cell 6).toI) fun y1=>
   bif y1.isSome then
    bnd (IntKind.wrap .i64 (((w2.getD w4.toNat (.i 0)).cell 0).toI-w0)) fun y2=>
    bif (decide ((w37.length+1)*56≤a1K)&&decide ((w37.length+1)≤a0g)) then
     bnd ((w37++[(.a [(.i y2),(.i (y1.getD default).1),(.i (y1.getD default).2.1),(.i (y1.getD default).2.2.1),(.i (y1.getD default).2.2.2.1),(.i (y1.getD default).2.2.2.2.1),(.i (y1.getD default).2.2.2.2.2)])]):List D) fun y3=>
     kr (IntKind.wrap .i64 (w4+1)) y0 false y3
    else
     none
   else
    none
  else
   none
 else
  k0 (w35,w36,w37)
def a9K (N:Nat) {R:Type} (w0:Int) (w2:LD) (w3:Int) (w6 w7 w8 w9:Bool) (w11:LD):Nat→Int→(List (D×D))→Bool→LD→(Ty9→Option R)→Option R
 |0,_,_,_,_,_=>none
 |m+1,w4,w35,w36,w37,k0=>a5k N w0 w2 w3 w6 w7 w8 w9 w11 w4 w35 w36 w37 (fun w4 w35 w36 w37=>a9K N w0 w2 w3 w6 w7 w8 w9 w11 m w4 w35 w36 w37 k0) k0
def b4R (w0:Int) (w2:LD) (w3:Int) (w6 w7 w8 w9:Bool) (w11:LD) (w4:Int) (w35:(List (D×D))) (w36:Bool) (w37:LD):Option (Ty9):=a9K N (R:=(Ty9)) w0 w2 w3 w6 w7 w8 w9 w11 N w4 w35 w36 w37 some
def c38:=(c8r N).add (((c8r N).no 27).l1 (a5j N) 27 [4,35,36,37] [3,4,6,7,8,9] [3,4,6,8,40,50008003,50008004,29000000007] ⟨[(3,.c (.p 3 0)),(4,.c (.p 4 0)),(6,.c (.p 6 0)),(7,.c (.i .i64)),(8,.c (.p 8 0)),(9,.c (.m 40)),(41,.c (.sl 69)),(42,.c (.i .i64)),(43,.c (.i .i64))],[(3,.box (rB 5 ([.sl 3,.b,.b]))),(4,.box (.s::[.i .i64,.i .i64,.sl 69,.sl 95,.sl 9])),(6,.box (.s::[.i .i64,.i .i64,.sl 69,.sl 95,.sl 9])),(8,.box (.s::[.i .i64,.i .i64,.o 50008003,.o 50008004,.o 29000000007])),(40,.map 3 4),(50008003,.row 69 true),(50008004,.row 95 true),(29000000007,.row 9 true)]⟩ N (fun L x _ kr=>a5k N (li L 0) (ll L 2) (li L 3) (lb L 6) (lb L 7) (lb L 8) (lb L 9) (ll L 11) (li x 0) (lm x 1) (lb x 2) (ll x 3) (fun w4 w35 w36 w37=>kr [.i w4,.m w35,.b w36,.l w37])) (fun L m x=>a9K N (li L 0) (ll L 2) (li L 3) (lb L 6) (lb L 7) (lb L 8) (lb L 9) (ll L 11) m (li x 0) (lm x 1) (lb x 2) (ll x 3) some) (fun s m L p=>((.exit 0),m [] [(40,.map 3 4 p.1),(50008003,.row 69 true p.2.1 p.2.2)])) fun _ _ _ _ _=>by unfold a5k;exact bb) 27
def a9L (N:Nat) (w5:Bool) (w29:LB) (k0:LB→R):R:=
 bif w5 then
  k0 ([]:List UInt8)
 else
  k0 w29
def c0o (w5:Bool) (w29:LB):LB:=a9L N w5 w29 (fun p=>p)
def c39:=(c38 N).add (((c38 N).no 68).c0 (a5j N) 68 100 [3,6,7,8,9,13,66,67,68] [3,6,8,13,40,50008003,50008004,29000000007] ⟨[(3,.c (.p 3 0)),(6,.c (.p 6 0)),(7,.c (.i .i64)),(8,.c (.p 8 0)),(9,.c (.m 40)),(13,.c (.p 13 0)),(66,.c (.sl 95)),(67,.c (.i .i64)),(68,.c (.i .i64)),(95,.c (.b))],[(3,.box (rB 5 ([.sl 3,.b,.b]))),(6,.box (.s::[.i .i64,.i .i64,.sl 69,.sl 95,.sl 9])),(8,.box (.s::[.i .i64,.i .i64,.o 50008003,.o 50008004,.o 29000000007])),(13,.box ([.i .i64,.i .i64,.s])),(40,.map 3 4),(50008003,.row 69 true),(50008004,.row 95 true),(29000000007,.row 9 true)]⟩ (fun L _=>a9L N (lb L 5) (ls L 29)) (fun s m L p=>(.normal,m [] [(13,.box [.i .i64 (li L 27),.i .i64 (li L 28),.s p])])) fun _ _=>by unfold a9L;exact kk) 68
def a5l (w0:Int) (w2:LD) (w3:Int) (w13:Bool) (w26:(List (D×D))) (w4:Int) (w29:Bool) (w30:LD) (kr:Int→Bool→LD→Option R) (k0:Bool×LD→Option R):Option R:=
 bif (decide (w4<w3)) then
  bif (inB w4 w2.length) then
   bnd ((a2u Tryz.prog 3 (.i ((w2.getD w4.toNat (.i 0)).cell 0).toI) w26).getD (.b false)).toB fun y0=>
   bnd (bif (!y0) then true else (!((a2u Tryz.prog 3 (.i ((w2.getD w4.toNat (.i 0)).cell 1).toI) w26).getD (.b false)).toB)) fun y1=>
   bif y1 then
    kr (IntKind.wrap .i64 (w4+1)) w29 w30
   else
    bnd (IntKind.wrap .i64 (((w2.getD w4.toNat (.i 0)).cell 0).toI-w0)) fun y2=>
    bnd (IntKind.wrap .i64 (((w2.getD w4.toNat (.i 0)).cell 1).toI-w0)) fun y3=>
    bnd (c0o N w13 ((w2.getD w4.toNat (.i 0)).cell 2).toS) fun y4=>
    bif (decide ((w30.length+1)*32≤a1K)&&decide ((w30.length+1)≤a0g)) then
     bnd ((w30++[(.a [(.i y2),(.i y3),(.s y4)])]):List D) fun y5=>
     kr (IntKind.wrap .i64 (w4+1)) false y5
    else
     none
  else
   none
 else
  k0 (w29,w30)
def a9M (N:Nat) {R:Type} (w0:Int) (w2:LD) (w3:Int) (w13:Bool) (w26:(List (D×D))):Nat→Int→Bool→LD→(Bool×LD→Option R)→Option R
 |0,_,_,_,_=>none
 |m+1,w4,w29,w30,k0=>a5l N w0 w2 w3 w13 w26 w4 w29 w30 (fun w4 w29 w30=>a9M N w0 w2 w3 w13 w26 m w4 w29 w30 k0) k0
def b4S (w0:Int) (w2:LD) (w3:Int) (w13:Bool) (w26:(List (D×D))) (w4:Int) (w29:Bool) (w30:LD):Option (Bool×LD):=a9M N (R:=(Bool×LD)) w0 w2 w3 w13 w26 N w4 w29 w30 some
def d1d:=(c39 N).add (((c39 N).no 51).l1 (a5j N) 51 [4,29,30] [6,8] [6,8,50008003,50008004,29000000007] ⟨[(3,.c (.p 3 0)),(6,.c (.p 6 0)),(7,.c (.i .i64)),(8,.c (.p 8 0)),(9,.c (.m 40)),(66,.c (.sl 95)),(67,.c (.i .i64)),(68,.c (.i .i64))],[(3,.box (rB 5 ([.sl 3,.b,.b]))),(6,.box (.s::[.i .i64,.i .i64,.sl 69,.sl 95,.sl 9])),(8,.box (.s::[.i .i64,.i .i64,.o 50008003,.o 50008004,.o 29000000007])),(40,.map 3 4),(50008003,.row 69 true),(50008004,.row 95 true),(29000000007,.row 9 true)]⟩ N (fun L x _ kr=>a5l N (li L 0) (ll L 2) (li L 3) (lb L 13) (lm L 26) (li x 0) (lb x 1) (ll x 2) (fun w4 w29 w30=>kr [.i w4,.b w29,.l w30])) (fun L m x=>a9M N (li L 0) (ll L 2) (li L 3) (lb L 13) (lm L 26) m (li x 0) (lb x 1) (ll x 2) some) (fun s m L p=>((.exit 2),m [] [(50008004,.row 95 true p.1 p.2)])) fun _ _ _ _ _=>by unfold a5l;exact bb) 51
def d1e (v1 v2 v3 v4:Bool) (v6:LD) (v7 v8:Bool) (v9:LB) (v11:Int) (v15:LD) (v16:Bool) (v17 v19:LD) (k0:Ty1→Option R):Option R:=
 bif (inB 0 v19.length) then
  bnd (b7F N ((v19.getD 0 (.i 0)).cell 0).toI v11 v16 v17) fun y0=>
  bif (a1x y0) then
   bnd (c35 N v8 v9 true []) fun y1=>
   bnd (c36 N v7 (a2t y0)) fun y2=>
   bif y2.isSome then
    bnd (b2L N ((v19.getD 0 (.i 0)).cell 0).toI v19 (v19.length:Int) v1 v2 v3 v4 v6 0 [] true []) fun y3=>
    bif y3.isSome then
     bnd (b2O N ((v19.getD 0 (.i 0)).cell 0).toI v15 (v15.length:Int) v8 (y3.getD default).1 0 true []) fun y4=>
     bif y4.isSome then
      k0 (y1.1,(y2.getD default),(y3.getD default).2.1,(y3.getD default).2.2,(y4.getD default).1,(y4.getD default).2,y1.2.1,y1.2.2)
     else
      none
    else
     none
   else
    none
  else
   bif (a0w y0).isSome then
    bnd (c0m N v8) fun y5=>
    bif (a1x y5) then
     bnd (c0n N v7 ((a0w y0).getD default).1) fun y6=>
     bif y6.isSome then
      bnd (b2L N ((v19.getD 0 (.i 0)).cell 0).toI v19 (v19.length:Int) v1 v2 v3 v4 v6 0 [] true []) fun y3=>
      bif y3.isSome then
       bnd (b2O N ((v19.getD 0 (.i 0)).cell 0).toI v15 (v15.length:Int) v8 (y3.getD default).1 0 true []) fun y4=>
       bif y4.isSome then
        k0 ((a2t y5),(y6.getD default),(y3.getD default).2.1,(y3.getD default).2.2,(y4.getD default).1,(y4.getD default).2,true,[])
       else
        none
      else
       none
     else
      none
    else
     bif (a0w y5).isSome then
      bnd (b6v N v7 ((a0w y0).getD default).1) fun y7=>
      bif y7.isSome then
       bnd (b4R N ((v19.getD 0 (.i 0)).cell 0).toI v19 (v19.length:Int) v1 v2 v3 v4 v6 0 [] true []) fun y8=>
       bif y8.isSome then
        bnd (b4S N ((v19.getD 0 (.i 0)).cell 0).toI v15 (v15.length:Int) v8 (y8.getD default).1 0 true []) fun y9=>
        bif y9.isSome then
         k0 (v9,(y7.getD default),(y8.getD default).2.1,(y8.getD default).2.2,(y9.getD default).1,(y9.getD default).2,((a0w y0).getD default).2,v17)
        else
         none
       else
        none
      else
       none
     else
      none
   else
    none
 else
  none
def d1f (v1 v2 v3 v4:Bool) (v6:LD) (v7 v8:Bool) (v9:LB) (v11:Int) (v15:LD) (v16:Bool) (v17 v19:LD):Option (Ty1):=d1e N v1 v2 v3 v4 v6 v7 v8 v9 v11 v15 v16 v17 v19 some
def b2c:=(d1d N).f1 (a5j N) ⟨[(0,.g (rB 5 ([.sl 3,.b,.b]))),(1,.g (.s::[.i .i64,.i .i64,.sl 69,.sl 95,.sl 9])),(2,.c (.sl 69))],[]⟩ (fun L _=>d1e N (lb L 1) (lb L 2) (lb L 3) (lb L 4) (ll L 6) (lb L 7) (lb L 8) (ls L 9) (li L 11) (ll L 15) (lb L 16) (ll L 17) (ll L 19)) (fun L p=>let p1:=p.2;let p2:=p1.2;let p3:=p2.2;let p4:=p3.2;let p5:=p4.2;let p6:=p5.2;let p7:=p6.2;([.g [.s p.1,.i .i64 (li L 10),.i .i64 p1.1,.sl 69 p2.1 p3.1,.sl 95 p4.1 p5.1,.sl 9 p6.1 p7]],[])) fun _ _=>by unfold d1e;exact bb
def a3S (N:Nat):a1C:=rfY (a0S Tryz.prog 14 600000022) [] 4 52
def a1M:a1C:={(a3S N) with tm:=[(8,.c (.p 2 0))]}
def d6Q:Sg Tryz.prog 5 61 (b87 ((a1M N))):= .start [(12,[0,2,4,6,7,20,21,22],[0,1,2,3,4,11,12,50002005],[7,50002000]),(25,[0,2,4,6,7,9,10,20,21,22],[0,1,2,4,11,12,14,50002005],[]),(28,[0,2,4,6,7,9,20,21,22],[0,1,2,4,11,12,14,50002005],[]),(29,[0,2,4,6,7,9,20,21,22,46],[0,1,2,4,11,12,14,50002005],[]),(43,[0,2,6,7],[0,1,2,4,11,12,50002005],[]),(44,[0,2,6,7,61],[0,1,2,4,11,12,50002005],[])] [(0,[1,2,0]),(1,[1,2,4,0]),(2,[2,4,0,6]),(3,[2,4,7,0,6]),(4,[22,21,20,4,7,0,6,2]),(5,[22,20,4,21,7,0,6,2]),(6,[4,8,22,21,20,7,0,6,2,9]),(7,[7,9,0,6,2,22,21,20,4]),(8,[10,9,7,0,6,2,22,21,20,4]),(9,[0,6,2,7,9,22,21,20,4]),(10,[9,22,21,20,4,0,6,2]),(11,[7,9,22,21,20,4,0,6,2]),(12,[22,21,20,4,7,0,6,2]),(13,[7,0,6,2]),(14,[0,6,2,7])]
def b2P (N:Nat) (w2:Int) (w30:LD) (w31:Int) (k0:Bool→Option R):Option R:=
 bif (decide (w2>0)) then
  bif (inB (IntKind.wrap .i64 (w2-1)) w30.length) then
   bif (decide ((IntKind.wrap .i64 (w2-1)).toNat<w30.length)) then
    bnd ((w30.getD (IntKind.wrap .i64 (w2-1)).toNat (.i 0)).cell 0).toI fun y0=>
    k0 (decide ((IntKind.wrap .i64 (w31-y0))>60))
   else
    none
  else
   none
 else
  k0 false
def b7G (w2:Int) (w30:LD) (w31:Int):Option (Bool):=b2P N w2 w30 w31 some
def d6R:=(d6Q N).c1 (b2c N) 25 100 [0,2,4,6,7,9,20,21,22,46] [0,1,2,4,11,12,14,50002005] ⟨[(0,.c (.y 4)),(2,.c (.p 1 0)),(4,.c (.sl 4)),(6,.c (.p 11 0)),(7,.c (.o 12)),(9,.c (.p 14 0)),(10,.c (.i .i64)),(20,.c (.sl 69)),(21,.c (.i .i64)),(22,.c (.i .i64))],[(0,.box ([.sl 67])),(1,.box (.s::[.i .i64,.i .i64,.sl 69,.sl 95,.sl 9])),(2,.box ([.o 50002005])),(4,.row 3 true),(11,.box (rB 5 ([.sl 3,.b,.b]))),(12,.row 69 true),(14,.box (rI 7 ([]))),(50002005,.row 51 true)]⟩ (fun L _=>b2P N (li L 2) (ll L 30) (li L 31)) (fun s m L p=>(.normal,m [(46,.c (.b p))] [])) fun _ _=>by unfold b2P;exact bb
def a9N (w8:LB) (w9 w10:Int) (w14:LD) (w15:Bool) (w16:LD) (w20 w21 w22 w23:Bool) (w25:LD) (w26 w27:Bool) (w29 w38:LD) (k0:LD→Option R):Option R:=
 bnd (d1f N w20 w21 w22 w23 w25 w26 w27 w8 w10 w14 w15 w16 w29) fun y0=>
 bif y0.isSome then
  bif (decide ((w38.length+1)*104≤a1K)&&decide ((w38.length+1)≤a0g)) then
   bnd ((w38++[(.a [(.s (y0.getD default).1),(.i w9),(.i (y0.getD default).2.1),(.l (y0.getD default).2.2.1 (y0.getD default).2.2.2.1),(.l (y0.getD default).2.2.2.2.1 (y0.getD default).2.2.2.2.2.1),(.l (y0.getD default).2.2.2.2.2.2.1 (y0.getD default).2.2.2.2.2.2.2)])]):List D) fun y1=>
   k0 y1
  else
   none
 else
  none
def b2Q (w8:LB) (w9 w10:Int) (w14:LD) (w15:Bool) (w16:LD) (w20 w21 w22 w23:Bool) (w25:LD) (w26 w27:Bool) (w29 w38:LD):Option (LD):=a9N N w8 w9 w10 w14 w15 w16 w20 w21 w22 w23 w25 w26 w27 w29 w38 some
theorem c12 (w8:LB) (w9 w10:Int) (w14:LD) (w15:Bool) (w16:LD) (w20 w21 w22 w23:Bool) (w25:LD) (w26 w27:Bool) (w29 w38:LD) (k0:LD→Option R):a9N N w8 w9 w10 w14 w15 w16 w20 w21 w22 w23 w25 w26 w27 w29 w38 k0=(b2Q N w8 w9 w10 w14 w15 w16 w20 w21 w22 w23 w25 w26 w27 w29 w38).bind k0:=by
 unfold b2Q a9N
 repeat' (first|with_reducible apply a6P|(with_reducible apply b4G;intro _)|rfl)
def c4a (L:List Lf) (k0:LD→Option R):Option R:=a9N N (ls L 8) (li L 9) (li L 10) (ll L 14) (lb L 15) (ll L 16) (lb L 20) (lb L 21) (lb L 22) (lb L 23) (ll L 25) (lb L 26) (lb L 27) (ll L 29) (ll L 38) k0
def c0p:Sh:={tmps:=[(0,.c (.y 4)),(2,.c (.p 1 0)),(4,.c (.sl 4)),(6,.c (.p 11 0)),(7,.c (.o 12)),(9,.c (.p 14 0)),(20,.c (.sl 69)),(21,.c (.i .i64)),(22,.c (.i .i64))],mem:=[(0,.box ([.sl 67])),(1,.box (.s::[.i .i64,.i .i64,.sl 69,.sl 95,.sl 9])),(2,.box ([.o 50002005])),(4,.row 3 true),(11,.box (rB 5 ([.sl 3,.b,.b]))),(12,.row 69 true),(14,.box (rI 7 ([]))),(50002005,.row 51 true)]}
def b6w (L:List Lf) (p:LD):Ex×St:=(.normal,mg (a2w c0p L) [0,2,4,6,9,20,21,22,53] [(53,.c (.b false))] [0,1,2,4,11,14,53000000033] [(2,.box [.o 53000000033]),(53000000033,.row 51 true false p)])
def d1g (L:List Lf):List (Bool×(Ex×St)):=bnd (c4a N L some) fun q=>[(q.isSome,b6w L (q.getD default))]
theorem c6g (L:List Lf):pcY Tryz.prog (b2c N).o 5 ((a1M N)) 61 28 c0p L [0,2,4,6,9,20,21,22,53] [0,1,2,4,11,14,53000000033]=c4a N L (fun p=>some (b6w L p)):=by kernel_rfl
def d6S:Sg Tryz.prog 5 61 (b87 ((a1M N))):=
 (d6R N).cutY (d1g N) a8w (b2c N).ok (d4e (by kernel_rfl)) fun L x hx=>(c6g N L).trans ((c12 N ..).trans (b95 x hx))
def a9O (w6:Bool) (w9:LB) (w10 w11:Int) (w15:LD) (w16:Bool) (w17:LD) (w21 w22 w23 w24:Bool) (w26:LD) (w27 w28:Bool) (w30 w39:LD) (k0:LD→Option R) (k1:Unit→Option R):Option R:=
 bif w6 then
  bnd (b2Q N w9 w10 w11 w15 w16 w17 w21 w22 w23 w24 w26 w27 w28 w30 w39) fun y0=>
  bif y0.isSome then
   k0 (y0.getD default)
  else
   none
 else
  k1 ()
def b7H (w6:Bool) (w9:LB) (w10 w11:Int) (w15:LD) (w16:Bool) (w17:LD) (w21 w22 w23 w24:Bool) (w26:LD) (w27 w28:Bool) (w30 w39:LD):Option (Sum (LD) (Unit)):=a9O N w6 w9 w10 w11 w15 w16 w17 w21 w22 w23 w24 w26 w27 w28 w30 w39 (fun p=>some (.inl p)) (fun p=>some (.inr p))
def d6T:=(d6S N).c2 (b2c N) 29 100 [0,2,4,6,7,9,20,21,22] [0,1,2,4,11,12,14,50002005,53000000033] ⟨[(0,.c (.y 4)),(2,.c (.p 1 0)),(4,.c (.sl 4)),(6,.c (.p 11 0)),(7,.c (.o 12)),(9,.c (.p 14 0)),(20,.c (.sl 69)),(21,.c (.i .i64)),(22,.c (.i .i64)),(46,.c (.b))],[(0,.box ([.sl 67])),(1,.box (.s::[.i .i64,.i .i64,.sl 69,.sl 95,.sl 9])),(2,.box ([.o 50002005])),(4,.row 3 true),(11,.box (rB 5 ([.sl 3,.b,.b]))),(12,.row 69 true),(14,.box (rI 7 ([]))),(50002005,.row 51 true)]⟩ (fun L _=>a9O N (lb L 6) (ls L 9) (li L 10) (li L 11) (ll L 15) (lb L 16) (ll L 17) (lb L 21) (lb L 22) (lb L 23) (lb L 24) (ll L 26) (lb L 27) (lb L 28) (ll L 30) (ll L 39)) (fun s m L p=>(.normal,mg s [0,2,4,6,7,9,20,21,22] [(7,.c (.sl 69 true []))] [0,1,2,4,11,14,53000000033] [(2,.box [.o 53000000033]),(53000000033,.row 51 true false p)])) (fun s m L _=>(.normal,mg s [0,2,4,6,7,9,20,21,22] [] [0,1,2,4,11,12,14,50002005] [])) fun _ _ _=>by unfold a9O;exact bb
def a7x (w1 w3:LD) (w4:Int) (w8:LB) (w9 w10:Int) (w14:LD) (w15:Bool) (w16:LD) (w20 w21 w22 w23:Bool) (w25:LD) (w26 w27:Bool) (w5:Int) (w28:Bool) (w29:LD) (w30:Bool) (w31:LD) (kr:Int→Bool→LD→Bool→LD→Option R) (k0:Ty8→Option R):Option R:=
 bif (decide (w5<w4)) then
  bif (inB w5 w3.length) then
   bif (inB w5 w1.length) then
    bif (w1.getD w5.toNat (.i 0)).toB then
     kr (IntKind.wrap .i64 (w5+1)) w28 w29 w30 w31
    else
     bnd (b7G N (w29.length:Int) w29 ((w3.getD w5.toNat (.i 0)).cell 0).toI) fun y0=>
     bif y0.isSome then
      bnd (b7H N (y0.getD default) w8 w9 w10 w14 w15 w16 w20 w21 w22 w23 w25 w26 w27 w29 w31) fun y1=>
      bif (a1x y1) then
       kr (IntKind.wrap .i64 (w5+1)) false [(.a [(.i ((w3.getD w5.toNat (.i 0)).cell 0).toI),(.i ((w3.getD w5.toNat (.i 0)).cell 1).toI),(.i ((w3.getD w5.toNat (.i 0)).cell 2).toI),(.i ((w3.getD w5.toNat (.i 0)).cell 3).toI),(.i ((w3.getD w5.toNat (.i 0)).cell 4).toI),(.i ((w3.getD w5.toNat (.i 0)).cell 5).toI),(.i ((w3.getD w5.toNat (.i 0)).cell 6).toI)])] false (a2t y1)
      else
       bif (a0w y1).isSome then
        bif (decide ((w29.length+1)*56≤a1K)&&decide ((w29.length+1)≤a0g)) then
         bnd ((w29++[(.a [(.i ((w3.getD w5.toNat (.i 0)).cell 0).toI),(.i ((w3.getD w5.toNat (.i 0)).cell 1).toI),(.i ((w3.getD w5.toNat (.i 0)).cell 2).toI),(.i ((w3.getD w5.toNat (.i 0)).cell 3).toI),(.i ((w3.getD w5.toNat (.i 0)).cell 4).toI),(.i ((w3.getD w5.toNat (.i 0)).cell 5).toI),(.i ((w3.getD w5.toNat (.i 0)).cell 6).toI)])]):List D) fun y2=>
         kr (IntKind.wrap .i64 (w5+1)) false y2 w30 w31
        else
         none
       else
        none
     else
      none
   else
    none
  else
   none
 else
  k0 (w28,w29,w30,w31)
def b2R (N:Nat) {R:Type} (w1 w3:LD) (w4:Int) (w8:LB) (w9 w10:Int) (w14:LD) (w15:Bool) (w16:LD) (w20 w21 w22 w23:Bool) (w25:LD) (w26 w27:Bool):Nat→Int→Bool→LD→Bool→LD→(Ty8→Option R)→Option R
 |0,_,_,_,_,_,_=>none
 |m+1,w5,w28,w29,w30,w31,k0=>a7x N w1 w3 w4 w8 w9 w10 w14 w15 w16 w20 w21 w22 w23 w25 w26 w27 w5 w28 w29 w30 w31 (fun w5 w28 w29 w30 w31=>b2R N w1 w3 w4 w8 w9 w10 w14 w15 w16 w20 w21 w22 w23 w25 w26 w27 m w5 w28 w29 w30 w31 k0) k0
def b7I (w1 w3:LD) (w4:Int) (w8:LB) (w9 w10:Int) (w14:LD) (w15:Bool) (w16:LD) (w20 w21 w22 w23:Bool) (w25:LD) (w26 w27:Bool) (w5:Int) (w28:Bool) (w29:LD) (w30:Bool) (w31:LD):Option (Ty8):=b2R N (R:=(Ty8)) w1 w3 w4 w8 w9 w10 w14 w15 w16 w20 w21 w22 w23 w25 w26 w27 N w5 w28 w29 w30 w31 some
def d6U:=(d6T N).l1 (b2c N) 12 [5,28,29,30,31] [0,2,6,7] [0,1,2,4,11,12,50002005] ⟨[(0,.c (.y 4)),(2,.c (.p 1 0)),(4,.c (.sl 4)),(6,.c (.p 11 0)),(7,.c (.o 12)),(20,.c (.sl 69)),(21,.c (.i .i64)),(22,.c (.i .i64))],[(0,.box ([.sl 67])),(1,.box (.s::[.i .i64,.i .i64,.sl 69,.sl 95,.sl 9])),(2,.box ([.o 50002005])),(4,.row 3 true),(11,.box (rB 5 ([.sl 3,.b,.b]))),(12,.row 69 true),(50002005,.row 51 true)]⟩ N (fun L x _ kr=>a7x N (ll L 1) (ll L 3) (li L 4) (ls L 8) (li L 9) (li L 10) (ll L 14) (lb L 15) (ll L 16) (lb L 20) (lb L 21) (lb L 22) (lb L 23) (ll L 25) (lb L 26) (lb L 27) (li x 0) (lb x 1) (ll x 2) (lb x 3) (ll x 4) (fun w5 w28 w29 w30 w31=>kr [.i w5,.b w28,.l w29,.b w30,.l w31])) (fun L m x=>b2R N (ll L 1) (ll L 3) (li L 4) (ls L 8) (li L 9) (li L 10) (ll L 14) (lb L 15) (ll L 16) (lb L 20) (lb L 21) (lb L 22) (lb L 23) (ll L 25) (lb L 26) (lb L 27) m (li x 0) (lb x 1) (ll x 2) (lb x 3) (ll x 4) some) (fun s m L p=>((.exit 0),m [] [(12,.row 69 true p.1 p.2.1),(50002005,.row 51 true p.2.2.1 p.2.2.2)])) fun _ _ _ _ _=>by unfold a7x;exact bb
def a9P (w2:LB) (w3 w4:Int) (w8:LD) (w9:Bool) (w10:LD) (w14 w15 w16 w17:Bool) (w19:LD) (w20 w21:Bool) (w23 w25:LD) (k0:LD→Option R):Option R:=
 bnd (d1f N w14 w15 w16 w17 w19 w20 w21 w2 w4 w8 w9 w10 w23) fun y0=>
 bif y0.isSome then
  bif (decide ((w25.length+1)*104≤a1K)&&decide ((w25.length+1)≤a0g)) then
   bnd ((w25++[(.a [(.s (y0.getD default).1),(.i w3),(.i (y0.getD default).2.1),(.l (y0.getD default).2.2.1 (y0.getD default).2.2.2.1),(.l (y0.getD default).2.2.2.2.1 (y0.getD default).2.2.2.2.2.1),(.l (y0.getD default).2.2.2.2.2.2.1 (y0.getD default).2.2.2.2.2.2.2)])]):List D) fun y1=>
   k0 y1
  else
   none
 else
  none
def b2S (w2:LB) (w3 w4:Int) (w8:LD) (w9:Bool) (w10:LD) (w14 w15 w16 w17:Bool) (w19:LD) (w20 w21:Bool) (w23 w25:LD):Option (LD):=a9P N w2 w3 w4 w8 w9 w10 w14 w15 w16 w17 w19 w20 w21 w23 w25 some
theorem c13 (w2:LB) (w3 w4:Int) (w8:LD) (w9:Bool) (w10:LD) (w14 w15 w16 w17:Bool) (w19:LD) (w20 w21:Bool) (w23 w25:LD) (k0:LD→Option R):a9P N w2 w3 w4 w8 w9 w10 w14 w15 w16 w17 w19 w20 w21 w23 w25 k0=(b2S N w2 w3 w4 w8 w9 w10 w14 w15 w16 w17 w19 w20 w21 w23 w25).bind k0:=by
 unfold b2S a9P
 repeat' (first|with_reducible apply a6P|(with_reducible apply b4G;intro _)|rfl)
def c4b (L:List Lf) (k0:LD→Option R):Option R:=a9P N (ls L 2) (li L 3) (li L 4) (ll L 8) (lb L 9) (ll L 10) (lb L 14) (lb L 15) (lb L 16) (lb L 17) (ll L 19) (lb L 20) (lb L 21) (ll L 23) (ll L 25) k0
def c0q:Sh:={tmps:=[(0,.c (.y 4)),(2,.c (.p 1 0)),(6,.c (.p 11 0)),(7,.c (.o 12))],mem:=[(0,.box ([.sl 67])),(1,.box (.s::[.i .i64,.i .i64,.sl 69,.sl 95,.sl 9])),(2,.box ([.o 50002005])),(4,.row 3 true),(11,.box (rB 5 ([.sl 3,.b,.b]))),(12,.row 69 true),(50002005,.row 51 true)]}
def b6x (L:List Lf) (p:LD):Ex×St:=(.normal,mg (a2w c0q L) [] [] [0,1,2,4,68000000033] [(2,.box [.o 68000000033]),(68000000033,.row 51 true false p)])
def d1h (L:List Lf):List (Bool×(Ex×St)):=bnd (c4b N L some) fun q=>[(q.isSome,b6x L (q.getD default))]
theorem c6h (L:List Lf):pcY Tryz.prog (b2c N).o 5 ((a1M N)) 61 43 c0q L [] [0,1,2,4,68000000033]=c4b N L (fun p=>some (b6x L p)):=by kernel_rfl
def d6V:Sg Tryz.prog 5 61 (b87 ((a1M N))):=
 (d6U N).cutY (d1h N) a8w (b2c N).ok (d4e (by kernel_rfl)) fun L x hx=>(c6h N L).trans ((c13 N ..).trans (b95 x hx))
def b2T (w0:Bool) (w3:LB) (w4 w5:Int) (w9:LD) (w10:Bool) (w11:LD) (w15 w16 w17 w18:Bool) (w20:LD) (w21 w22:Bool) (w24 w26:LD) (k0:LD→Option R) (k1:Unit→Option R):Option R:=
 bif w0 then
  bnd (b2S N w3 w4 w5 w9 w10 w11 w15 w16 w17 w18 w20 w21 w22 w24 w26) fun y0=>
  bif y0.isSome then
   k0 (y0.getD default)
  else
   none
 else
  k1 ()
def c4c (w0:Bool) (w3:LB) (w4 w5:Int) (w9:LD) (w10:Bool) (w11:LD) (w15 w16 w17 w18:Bool) (w20:LD) (w21 w22:Bool) (w24 w26:LD):Option (Sum (LD) (Unit)):=b2T N w0 w3 w4 w5 w9 w10 w11 w15 w16 w17 w18 w20 w21 w22 w24 w26 (fun p=>some (.inl p)) (fun p=>some (.inr p))
def c8s:=(d6V N).c2 (b2c N) 44 100 [] [0,1,2,4,50002005,68000000033] ⟨[(0,.c (.y 4)),(2,.c (.p 1 0)),(6,.c (.p 11 0)),(7,.c (.o 12)),(61,.c (.b))],[(0,.box ([.sl 67])),(1,.box (.s::[.i .i64,.i .i64,.sl 69,.sl 95,.sl 9])),(2,.box ([.o 50002005])),(4,.row 3 true),(11,.box (rB 5 ([.sl 3,.b,.b]))),(12,.row 69 true),(50002005,.row 51 true)]⟩ (fun L _=>b2T N (lb L 0) (ls L 3) (li L 4) (li L 5) (ll L 9) (lb L 10) (ll L 11) (lb L 15) (lb L 16) (lb L 17) (lb L 18) (ll L 20) (lb L 21) (lb L 22) (ll L 24) (ll L 26)) (fun s m L p=>(.normal,mg s [] [] [0,1,2,4,68000000033] [(2,.box [.o 68000000033]),(68000000033,.row 51 true false p)])) (fun s m L _=>(.normal,mg s [] [] [0,1,2,4,50002005] [])) fun _ _ _=>by unfold b2T;exact bb
def c8t (v1:LD) (v2:LB) (v3 v4:Int) (v6 v8:LD) (v9:Bool) (v10:LD) (v11:Bool) (v12:LD) (k0:LD→Option R) (k1:Bool×LD→Option R):Option R:=
 bnd (d6C N v1 v3 v4 v6 v10) fun y0=>
 bif y0.isSome then
  bnd (d6J N v1) fun y1=>
  bif y1.isSome then
   bnd (b7I N (y0.getD default).1 v6 (v6.length:Int) v2 v3 v4 v8 v9 v10 (y1.getD default).2.1 (y1.getD default).2.2.1 (y1.getD default).2.2.2.1 (y1.getD default).2.2.2.2.1 (y1.getD default).2.2.2.2.2.2.1 (y1.getD default).2.2.2.2.2.2.2.1 (y1.getD default).2.2.2.2.2.2.2.2 0 true [] v11 v12) fun y2=>
   bif y2.isSome then
    bnd (c4c N (decide (((y2.getD default).2.1.length:Int)>0)) v2 v3 v4 v8 v9 v10 (y1.getD default).2.1 (y1.getD default).2.2.1 (y1.getD default).2.2.2.1 (y1.getD default).2.2.2.2.1 (y1.getD default).2.2.2.2.2.2.1 (y1.getD default).2.2.2.2.2.2.2.1 (y1.getD default).2.2.2.2.2.2.2.2 (y2.getD default).2.1 (y2.getD default).2.2.2) fun y3=>
    bif (a1x y3) then
     k0 (a2t y3)
    else
     bif (a0w y3).isSome then
      k1 ((y2.getD default).2.2.1,(y2.getD default).2.2.2)
     else
      none
   else
    none
  else
   none
 else
  none
def c6i (v1:LD) (v2:LB) (v3 v4:Int) (v6 v8:LD) (v9:Bool) (v10:LD) (v11:Bool) (v12:LD):Option (Sum (LD) (Bool×LD)):=c8t N v1 v2 v3 v4 v6 v8 v9 v10 v11 v12 (fun p=>some (.inl p)) (fun p=>some (.inr p))
theorem d1i (v1:LD) (v2:LB) (v3 v4:Int) (v6 v8:LD) (v9:Bool) (v10:LD) (v11:Bool) (v12:LD) (k0:LD→Option R) (k1:Bool×LD→Option R):c8t N v1 v2 v3 v4 v6 v8 v9 v10 v11 v12 k0 k1=(c6i N v1 v2 v3 v4 v6 v8 v9 v10 v11 v12).bind (b94 k0 k1):=by
 unfold c6i c8t
 repeat' (first|with_reducible apply a6P|(with_reducible apply b4G;intro _)|rfl)
def e1q (L:List Lf) (k0:LD→Option R) (k1:Bool×LD→Option R):Option R:=c8t N (ll L 1) (ls L 2) (li L 3) (li L 4) (ll L 6) (ll L 8) (lb L 9) (ll L 10) (lb L 11) (ll L 12) k0 k1
def c0r:Sh:={tmps:=[(0,.c (.y 4)),(1,.c (.p 0 0)),(2,.c (.p 1 0)),(8,.c (.p 2 0))],mem:=[(0,.box ([.sl 67])),(1,.box (.s::[.i .i64,.i .i64,.sl 69,.sl 95,.sl 9])),(2,.box ([.o 3])),(3,.row 51 true),(4,.row 3 true)]}
def c8u (L:List Lf) (p:LD):Res:=([],mgA (a2w c0r L).mem [(2,.box [.o 68000000033]),(68000000033,.row 51 true false p)] [0,1,2,4,68000000033])
def c8v (L:List Lf) (p:Bool×LD):Res:=([],mgA (a2w c0r L).mem [(2,.box [.o 50002005]),(50002005,.row 51 true p.1 p.2)] [0,1,2,4,50002005])
def e1r (L:List Lf):List (Bool×Res):=bnd (e1q N L (fun p=>some (.inl p)) (fun p=>some (.inr p))) fun q=>[((a1x q),c8u L (a2t q)),((a0w q).isSome,c8v L ((a0w q).getD default))]
theorem d6W (L:List Lf):bdY Tryz.prog (b2c N).o ((c8s N)).h 61 3 c0r L=e1q N L (fun p=>some (c8u L p)) (fun p=>some (c8v L p)):=by kernel_rfl
theorem e1s:d0z (a3S N) Tryz.prog 61 3 c0r (e1r N):=
 Sg.fnY (fun L=>(a1M N)) (fun L=>(c8s N)) (fun L=>by kernel_rfl) a8w (b2c N).ok fun L x hx=>((d6W N L).trans ((d1i N ..).trans ((c9M b95) x hx)))
def d6X (N:Nat):Sg Tryz.prog 0 14:= .start [(12,[7,8,15,16,17],[8,50008000],[50008000]),(600000022,[7,8,15,16,17,23],[8,50008000,24000000002,24000000003],[])] [(0,[0,1,2]),(1,[3,1,2]),(2,[2,7]),(3,[2,7,8]),(4,[17,16,15,7,8]),(5,[15,17,7,16,8]),(6,[7,10,17,16,15,8]),(9,[17,16,15,7,8]),(10,[8])]
def a2k (w6:Bool) (w7 w9:LD) (w10:LB) (w11 w12:Int) (w14 w16:LD) (w17:Bool) (w18:LD) (k0:LD→Option R) (k1:Bool×LD→Option R):Option R:=
 bnd (c6i N w9 w10 w11 w12 w14 w16 w17 w18 w6 w7) fun y0=>
 bif (a1x y0) then
  k0 (a2t y0)
 else
  bif (a0w y0).isSome then
   k1 ((a0w y0).getD default)
  else
   none
def a2X (w6:Bool) (w7 w9:LD) (w10:LB) (w11 w12:Int) (w14 w16:LD) (w17:Bool) (w18:LD):Option (Sum (LD) (Bool×LD)):=a2k N w6 w7 w9 w10 w11 w12 w14 w16 w17 w18 (fun p=>some (.inl p)) (fun p=>some (.inr p))
theorem a9Q (w6:Bool) (w7 w9:LD) (w10:LB) (w11 w12:Int) (w14 w16:LD) (w17:Bool) (w18:LD) (k0:LD→Option R) (k1:Bool×LD→Option R):a2k N w6 w7 w9 w10 w11 w12 w14 w16 w17 w18 k0 k1=(a2X N w6 w7 w9 w10 w11 w12 w14 w16 w17 w18).bind (b94 k0 k1):=by
 unfold a2X a2k
 repeat' (first|with_reducible apply a6P|(with_reducible apply b4G;intro _)|rfl)
def a6T (L:List Lf) (k0:LD→Option R) (k1:Bool×LD→Option R):Option R:=a2k N (lb L 6) (ll L 7) (ll L 9) (ls L 10) (li L 11) (li L 12) (ll L 14) (ll L 16) (lb L 17) (ll L 18) k0 k1
def a3T:Sh:={tmps:=[(7,.c (.sl 67)),(8,.c (.p 8 0)),(15,.c (.sl 51)),(16,.c (.i .i64)),(17,.c (.i .i64)),(23,.c (.f 61 [(24000000002,0),(24000000003,0)]))],mem:=[(8,.box ([.o 50008000])),(50008000,.row 51 true),(24000000002,.box ([.sl 67])),(24000000003,.box (.s::[.i .i64,.i .i64,.sl 69,.sl 95,.sl 9]))]}
def a5m (L:List Lf) (p:LD):Ex×St:=(.normal,mg (a2w a3T L) [7,8,15,16,17] [] [8,1000068000000033] [(8,.box [.o 1000068000000033]),(1000068000000033,.row 51 true false p)])
def a5n (L:List Lf) (p:Bool×LD):Ex×St:=(.normal,mg (a2w a3T L) [7,8,15,16,17] [] [8,1000000050002005] [(8,.box [.o 1000000050002005]),(1000000050002005,.row 51 true p.1 p.2)])
def b4T (L:List Lf):List (Bool×(Ex×St)):=bnd (a6T N L (fun p=>some (.inl p)) (fun p=>some (.inr p))) fun q=>[((a1x q),a5m L (a2t q)),((a0w q).isSome,a5n L ((a0w q).getD default))]
theorem b0N (L:List Lf):pcR Tryz.prog (a3S N) [8] (spY 3 c0r (e1r N)) 61 3 0 14 600000022 a3T L [7,8,15,16,17] [8,1000000050002005,1000068000000033]=a6T N L (fun p=>some (a5m L p)) (fun p=>some (a5n L p)):=by kernel_rfl
def d6Y:Sg Tryz.prog 0 14:=
 (d6X N).rf (g:= .tmp 23) (b4T N) (e1s N) (fun L x hx=>(b0N N L).trans ((a9Q N ..).trans ((c9M b95) x hx))) (by kernel_rfl)
def a7y (w1 w3:LD) (w4:Int) (w5:Int) (w6:Bool) (w7:LD) (kr:Int→Bool→LD→Option R) (k0:Bool×LD→Option R):Option R:=
 bif (decide (w5<w4)) then
  bif (inB w5 w3.length) then
   bnd (a2X N w6 w7 w1 ((w3.getD w5.toNat (.i 0)).cell 0).toS ((w3.getD w5.toNat (.i 0)).cell 1).toI ((w3.getD w5.toNat (.i 0)).cell 2).toI ((w3.getD w5.toNat (.i 0)).cell 3).items ((w3.getD w5.toNat (.i 0)).cell 4).items ((w3.getD w5.toNat (.i 0)).cell 5).isNil ((w3.getD w5.toNat (.i 0)).cell 5).items) fun y0=>
   bif (a1x y0) then
    kr (IntKind.wrap .i64 (w5+1)) false (a2t y0)
   else
    bif (a0w y0).isSome then
     kr (IntKind.wrap .i64 (w5+1)) ((a0w y0).getD default).1 ((a0w y0).getD default).2
    else
     none
  else
   none
 else
  k0 (w6,w7)
def b2U (N:Nat) {R:Type} (w1 w3:LD) (w4:Int):Nat→Int→Bool→LD→(Bool×LD→Option R)→Option R
 |0,_,_,_,_=>none
 |m+1,w5,w6,w7,k0=>a7y N w1 w3 w4 w5 w6 w7 (fun w5 w6 w7=>b2U N w1 w3 w4 m w5 w6 w7 k0) k0
def b7J (w1 w3:LD) (w4:Int) (w5:Int) (w6:Bool) (w7:LD):Option (Bool×LD):=b2U N (R:=(Bool×LD)) w1 w3 w4 N w5 w6 w7 some
def d6Z:=(d6Y N).l1 (b2c N) 12 [5,6,7] [6,8] [8,50008000] ⟨[(7,.c (.sl 67)),(8,.c (.p 8 0)),(15,.c (.sl 51)),(16,.c (.i .i64)),(17,.c (.i .i64))],[(8,.box ([.o 50008000])),(50008000,.row 51 true)]⟩ N (fun L x _ kr=>a7y N (ll L 1) (ll L 3) (li L 4) (li x 0) (lb x 1) (ll x 2) (fun w5 w6 w7=>kr [.i w5,.b w6,.l w7])) (fun L m x=>b2U N (ll L 1) (ll L 3) (li L 4) m (li x 0) (lb x 1) (ll x 2) some) (fun s m L p=>((.exit 0),mg s [8] [] [8,50008000] [(50008000,.row 51 true p.1 p.2)])) fun _ _ _ _ _=>by unfold a7y;exact bb
def d1j (v1:LD) (v2:Int) (v4:LD) (k0:Bool×LD→Option R):Option R:=
 bnd (d6i N v1 v2) fun y0=>
 bif y0.isSome then
  bnd (b7J N (y0.getD default).2 v4 (v4.length:Int) 0 true []) fun y1=>
  bif y1.isSome then
   k0 (y1.getD default)
  else
   none
 else
  none
def d1k (v1:LD) (v2:Int) (v4:LD):Option (Bool×LD):=d1j N v1 v2 v4 some
def e3v:=(d6Z N).f1 (b2c N) ⟨[(0,.g ([.sl 67])),(1,.c (.i .i64)),(2,.c (.sl 51))],[]⟩ (fun L _=>d1j N (ll L 1) (li L 2) (ll L 4)) (fun L p=>([.c (.sl 51 p.1 p.2)],[])) fun _ _=>by unfold d1j;exact bb
def e1t (N:Nat):Sg Tryz.prog 0 4:= .start [] [(0,[0,1,2]),(1,[3,1,2]),(2,[8,3,1,2]),(3,[8]),(4,[3,1,2])]
def e2P (v1:LD) (v2:Int) (v4:LD) (k0:Bool×LD×Int→Option R):Option R:=
 bnd (d6d N v1 v2 v4) fun y0=>
 bif y0.isSome then
  bif ((y0.getD default) !=0) then
   k0 (true,[],(y0.getD default))
  else
   bnd (d1k N v1 v2 v4) fun y1=>
   bif y1.isSome then
    k0 ((y1.getD default).1,(y1.getD default).2,0)
   else
    none
 else
  none
def e1u (v1:LD) (v2:Int) (v4:LD):Option (Bool×LD×Int):=e2P N v1 v2 v4 some
def e4x:=(e1t N).f1 (e3v N) ⟨[(0,.g ([.sl 67])),(1,.c (.i .i64)),(2,.c (.sl 51))],[]⟩ (fun L _=>e2P N (ll L 1) (li L 2) (ll L 4)) (fun L p=>([.c (.sl 51 p.1 p.2.1),.c (.i .i64 p.2.2)],[])) fun _ _=>by unfold e2P;exact bb
def d60 (N:Nat):Sg Tryz.prog 0 25:= .start [] [(0,[0,1,2]),(1,[0,1,2])]
def d1l (N:Nat) (v0 v1 v2:Int) (k0:Bool→R):R:=
 k0 (bif (decide (v0<v1)) then true else (decide (v0>v2)))
def b2d (v0 v1 v2:Int):Bool:=d1l N v0 v1 v2 (fun p=>p)
def e1v:=(d60 N).f0 (e4x N) ⟨[(0,.c (.i .i64)),(1,.c (.i .i64)),(2,.c (.i .i64))],[]⟩ (fun L _=>d1l N (li L 0) (li L 1) (li L 2)) (fun L p=>([.c (.b p)],[])) fun _ _=>by unfold d1l;exact kk
def d61 (N:Nat):Sg Tryz.prog 0 66:= .start [(6,[0,3],[],[])] [(0,[0]),(1,[0]),(2,[3,0]),(4,[0,3]),(5,[4,3,0]),(6,[]),(3,[3,0]),(7,[0])]
def b0O (N:Nat) (w0:LB) (w1:Int) (kr:Int→Option R) (k0:Unit→Option R) (k1:Unit→Option R):Option R:=
 bif (decide (w1<(w0.length:Int))) then
  bif (inB w1 w0.length) then
   bnd (bif (decide (((w0.getD w1.toNat 0).toNat:Int)≥97)) then (decide (((w0.getD w1.toNat 0).toNat:Int)≤122)) else false) fun y0=>
   bnd (bif y0 then true else (bif (decide (((w0.getD w1.toNat 0).toNat:Int)≥65)) then (decide (((w0.getD w1.toNat 0).toNat:Int)≤90)) else false)) fun y1=>
   bnd (bif y1 then true else (bif (decide (((w0.getD w1.toNat 0).toNat:Int)≥48)) then (decide (((w0.getD w1.toNat 0).toNat:Int)≤57)) else false)) fun y2=>
   bnd (bif y2 then true else (((w0.getD w1.toNat 0).toNat:Int)==45)) fun y3=>
   bnd (bif y3 then true else (((w0.getD w1.toNat 0).toNat:Int)==95)) fun y4=>
   bnd (bif y4 then true else (((w0.getD w1.toNat 0).toNat:Int)==46)) fun y5=>
   bif (!y5) then
    k0 ()
   else
    kr (IntKind.wrap .i64 (w1+1))
  else
   none
 else
  k1 ()
def b7K (N:Nat) {R:Type} (w0:LB):Nat→Int→(Unit→Option R)→(Unit→Option R)→Option R
 |0,_,_,_=>none
 |m+1,w1,k0,k1=>b0O N w0 w1 (fun w1=>b7K N w0 m w1 k0 k1) k0 k1
def c14 (w0:LB) (w1:Int):Option (Sum (Unit) (Unit)):=b7K N (R:=(Sum (Unit) (Unit))) w0 N w1 (fun p=>some (.inl p)) (fun p=>some (.inr p))
def d62:=(d61 N).l2 (e1v N) 6 [1] [0,2] [] ⟨[(0,.c (.s)),(3,.c (.i .i64))],[]⟩ N (fun L x _ kr=>b0O N (ls L 0) (li x 0) (fun w1=>kr [.i w1])) (fun L m x=>b7K N (ls L 0) m (li x 0) (fun p=>some (.inl p)) (fun p=>some (.inr p))) (fun s m L _=>(.ret,⟨[(2,.c (.b false))],[]⟩)) (fun s m L _=>((.exit 0),⟨[(0,.c (.s (ls L 0)))],[]⟩)) fun _ _ _ _ _ _=>by unfold b0O;exact bb
def d1m (v0:LB) (k0:Bool→Option R):Option R:=
 bnd (c14 N v0 0) fun y0=>
 bif (a1x y0) then
  k0 false
 else
  bif (a0w y0).isSome then
   bnd (bif (decide ((v0.length:Int)≥1)) then (decide ((v0.length:Int)≤60)) else false) fun y1=>
   k0 y1
  else
   none
def c8w (v0:LB):Option (Bool):=d1m N v0 some
def c15:=(d62 N).f1 (e1v N) ⟨[(0,.c (.s))],[]⟩ (fun L _=>d1m N (ls L 0)) (fun L p=>([.c (.b p)],[])) fun _ _=>by unfold d1m;exact bb
def d1n (N:Nat):Sg Tryz.prog 0 104:= .start [(27002,[1,2,3,10,27],[1,2,3],[]),(24002,[1,2,3,10,27],[1,2,3],[]),(38,[1,2,3,34],[1,2,3],[]),(33032,[1,2,3,10,27],[1,2,3],[]),(21020,[1,2,3,10,22],[1,2,3],[]),(15014,[1,2,3,10,11],[1,2,3],[])] [(0,[0]),(1,[1,2]),(2,[1,3,2]),(3,[10,1,3,2]),(5,[10,1,3,2]),(7,[10,1,3,2]),(8,[10,1,3,2]),(9,[10,1,3,2]),(11,[10,1,3,2]),(12,[1,3,2]),(10,[1,3,2]),(6,[1,3,2]),(4,[1,3,2]),(13,[3,2])]
def a1S (N:Nat) (w0:Int) (w1:Bool) (k0:Bool→R):R:=
 bif w1 then
  k0 true
 else
  k0 (w0==8)
def a2O (w0:Int) (w1:Bool):Bool:=a1S N w0 w1 (fun p=>p)
def d1o:=(d1n N).c0 (c15 N) 27002 100 [1,2,3,10,27] [1,2,3] ⟨[(1,.c (.p 1 0)),(2,.c (.p 2 0)),(3,.c (.p 3 0)),(10,.c (.i .i64)),(27,.c (.b))],[(1,.box (rI 8 ([.s]))),(2,.box (rI 8 ([.s]))),(3,.box (rI 8 ([.s])))]⟩ (fun L _=>a1S N (li L 0) (lb L 1)) (fun s m L p=>(.normal,m [(27,.c (.b p))] [])) fun _ _=>by unfold a1S;exact kk
def a1k (w0:Int) (w1:Bool) (k0:Bool→R):R:=
 bif w1 then
  k0 true
 else
  bnd (a2O N w0 (w0==5)) fun y0=>
  k0 y0
def a2l (w0:Int) (w1:Bool):Bool:=a1k N w0 w1 (fun p=>p)
def d1p:=(d1o N).c0 (c15 N) 24002 100 [1,2,3,10,27] [1,2,3] ⟨[(1,.c (.p 1 0)),(2,.c (.p 2 0)),(3,.c (.p 3 0)),(10,.c (.i .i64)),(27,.c (.b))],[(1,.box (rI 8 ([.s]))),(2,.box (rI 8 ([.s]))),(3,.box (rI 8 ([.s])))]⟩ (fun L _=>a1k N (li L 0) (lb L 1)) (fun s m L p=>(.normal,m [(27,.c (.b p))] [])) fun _ _=>by unfold a1k;exact kk
def a5o (N:Nat) (w0:Bool) (w9 w27:LB) (k0:LB→R):R:=
 bif w0 then
  k0 w9
 else
  k0 w27
def a9R (w0:Bool) (w9 w27:LB):LB:=a5o N w0 w9 w27 (fun p=>p)
def d1q:=(d1p N).c0 (c15 N) 38 100 [2,3] [2,3] ⟨[(1,.c (.p 1 0)),(2,.c (.p 2 0)),(3,.c (.p 3 0)),(34,.c (.b))],[(1,.box (rI 8 ([.s]))),(2,.box (rI 8 ([.s]))),(3,.box (rI 8 ([.s])))]⟩ (fun L _=>a5o N (lb L 0) (ls L 9) (ls L 27)) (fun s m L p=>(.normal,m [] [(3,.box (rL L 19 8 ([.s p])))])) fun _ _=>by unfold a5o;exact kk
def a1l (w0:Int) (w1:Bool) (w9:Int) (w10:LB) (w27:Int) (w28:LB) (k0:Int×LB→R):R:=
 bif w1 then
  k0 (w9,w28)
 else
  bnd (a9R N (w0==4) w10 w28) fun y0=>
  k0 (w27,y0)
def a2m (w0:Int) (w1:Bool) (w9:Int) (w10:LB) (w27:Int) (w28:LB):Int×LB:=a1l N w0 w1 w9 w10 w27 w28 (fun p=>p)
def d1r:=(d1q N).c0 (c15 N) 33032 100 [2,3] [2,3] ⟨[(1,.c (.p 1 0)),(2,.c (.p 2 0)),(3,.c (.p 3 0)),(10,.c (.i .i64)),(27,.c (.b))],[(1,.box (rI 8 ([.s]))),(2,.box (rI 8 ([.s]))),(3,.box (rI 8 ([.s])))]⟩ (fun L _=>a1l N (li L 0) (lb L 1) (li L 9) (ls L 10) (li L 27) (ls L 28)) (fun s m L p=>(.normal,m [] [(3,.box (rL L 20 7 ([.i .i64 p.1,.s p.2])))])) fun _ _=>by unfold a1l;exact kk
def a03 (w0:Int) (w1:Bool) (w7 w8 w9:Int) (w10:LB) (w25 w26 w27:Int) (w28:LB) (k0:e2M→R):R:=
 bif w1 then
  k0 (w7,w8,w27,w28)
 else
  bnd (a2l N w0 (w0==3)) fun y0=>
  bnd (a2m N w0 y0 w9 w10 w27 w28) fun y1=>
  k0 (w25,w26,y1.1,y1.2)
def a1T (w0:Int) (w1:Bool) (w7 w8 w9:Int) (w10:LB) (w25 w26 w27:Int) (w28:LB):e2M:=a03 N w0 w1 w7 w8 w9 w10 w25 w26 w27 w28 (fun p=>p)
def d1s:=(d1r N).c0 (c15 N) 21020 100 [2,3] [2,3] ⟨[(1,.c (.p 1 0)),(2,.c (.p 2 0)),(3,.c (.p 3 0)),(10,.c (.i .i64)),(22,.c (.b))],[(1,.box (rI 8 ([.s]))),(2,.box (rI 8 ([.s]))),(3,.box (rI 8 ([.s])))]⟩ (fun L _=>a03 N (li L 0) (lb L 1) (li L 7) (li L 8) (li L 9) (ls L 10) (li L 25) (li L 26) (li L 27) (ls L 28)) (fun s m L p=>(.normal,m [] [(3,.box (rL L 20 5 ([.i .i64 p.1,.i .i64 p.2.1,.i .i64 p.2.2.1,.s p.2.2.2])))])) fun _ _=>by unfold a03;exact kk
def a4L (w0:Int) (w1:Bool) (w4 w5 w6 w7 w8 w9:Int) (w10:LB) (w22 w23 w24 w25 w26 w27:Int) (w28:LB) (k0:Ty5→R):R:=
 bif w1 then
  k0 (w4,w5,w6,w25,w26,w27,w28)
 else
  bnd (a1T N w0 (w0==2) w7 w8 w9 w10 w25 w26 w27 w28) fun y0=>
  k0 (w22,w23,w24,y0.1,y0.2.1,y0.2.2.1,y0.2.2.2)
def b1O (w0:Int) (w1:Bool) (w4 w5 w6 w7 w8 w9:Int) (w10:LB) (w22 w23 w24 w25 w26 w27:Int) (w28:LB):Ty5:=a4L N w0 w1 w4 w5 w6 w7 w8 w9 w10 w22 w23 w24 w25 w26 w27 w28 (fun p=>p)
def d1t:=(d1s N).c0 (c15 N) 15014 100 [2,3] [2,3] ⟨[(1,.c (.p 1 0)),(2,.c (.p 2 0)),(3,.c (.p 3 0)),(10,.c (.i .i64)),(11,.c (.b))],[(1,.box (rI 8 ([.s]))),(2,.box (rI 8 ([.s]))),(3,.box (rI 8 ([.s])))]⟩ (fun L _=>a4L N (li L 0) (lb L 1) (li L 4) (li L 5) (li L 6) (li L 7) (li L 8) (li L 9) (ls L 10) (li L 22) (li L 23) (li L 24) (li L 25) (li L 26) (li L 27) (ls L 28)) (fun s m L p=>let p1:=p.2;let p2:=p1.2;let p3:=p2.2;let p4:=p3.2;let p5:=p4.2;let p6:=p5.2;(.normal,mg s [2,3] [] [2,3] [(3,.box [.i .i64 (li L 20),.i .i64 (li L 21),.i .i64 p.1,.i .i64 p1.1,.i .i64 p2.1,.i .i64 p3.1,.i .i64 p4.1,.i .i64 p5.1,.s p6])])) fun _ _=>by unfold a4L;exact kk
def c4d (v1 v2 v3 v4 v5 v6 v7:Int) (v8:LB) (k0:Ty5→R):R:=
 bnd (b1O N v1 (v1==1) v2 v3 v4 v5 v6 v7 v8 0 0 0 0 0 0 ([]:List UInt8)) fun y0=>
 k0 y0
def d4t (v1 v2 v3 v4 v5 v6 v7:Int) (v8:LB):Ty5:=c4d N v1 v2 v3 v4 v5 v6 v7 v8 (fun p=>p)
def b1P:=(d1t N).f0 (c15 N) ⟨[(0,.g (rI 8 ([.s])))],[]⟩ (fun L _=>c4d N (li L 1) (li L 2) (li L 3) (li L 4) (li L 5) (li L 6) (li L 7) (ls L 8)) (fun L p=>let p1:=p.2;let p2:=p1.2;let p3:=p2.2;let p4:=p3.2;let p5:=p4.2;let p6:=p5.2;([.g [.i .i64 (li L 0),.i .i64 (li L 1),.i .i64 p.1,.i .i64 p1.1,.i .i64 p2.1,.i .i64 p3.1,.i .i64 p4.1,.i .i64 p5.1,.s p6]],[])) fun _ _=>by unfold c4d;exact kk
def d63 (N:Nat):Sg Tryz.prog 0 65:= .start [(25,[1],[1],[]),(44,[1,3,53],[1],[]),(39038,[1,3,11,48],[1],[]),(33032,[1,3,11,27],[1],[]),(27026,[1,3,11,12],[1],[]),(52,[1],[1],[]),(58,[1],[1],[])] [(0,[0]),(1,[1]),(2,[]),(3,[1]),(4,[]),(5,[1]),(6,[1,3]),(7,[11,1,3]),(9,[11,1,3]),(11,[11,1,3]),(13,[11,1,3]),(14,[1]),(12,[1]),(10,[1]),(8,[1]),(15,[3,1]),(16,[]),(17,[1]),(18,[]),(19,[1]),(20,[]),(21,[1]),(22,[]),(23,[])]
def b2V (w2 w3 w4:Int) (k0:Bool→R):R:=
 bnd (b2d N w2 (-100000000) 100000000) fun y0=>
 bif y0 then
  k0 true
 else
  bnd (b2d N w3 (-100000000) 100000000) fun y1=>
  bif y1 then
   k0 true
  else
   bnd (b2d N w4 0 1000000) fun y2=>
   k0 y2
def c4e (w2 w3 w4:Int):Bool:=b2V N w2 w3 w4 (fun p=>p)
def d64:=(d63 N).c0 (b1P N) 25 100 [1,3] [1] ⟨[(1,.c (.p 1 0))],[(1,.box (rI 8 ([.s])))]⟩ (fun L _=>b2V N (li L 2) (li L 3) (li L 4)) (fun s m L p=>(.normal,m [(3,.c (.b p))] [])) fun _ _=>by unfold b2V;exact kk
def a4M (w0 w1:Bool) (w9:Int) (k0:Bool→R):R:=
 bif w1 then
  bnd (b2d N w9 1 1000000) fun y0=>
  k0 y0
 else
  k0 w0
def a7z (w0 w1:Bool) (w9:Int):Bool:=a4M N w0 w1 w9 (fun p=>p)
def d65:=(d64 N).c0 (b1P N) 44 100 [1,3] [1] ⟨[(1,.c (.p 1 0)),(3,.c (.b)),(53,.c (.b))],[(1,.box (rI 8 ([.s])))]⟩ (fun L _=>a4M N (lb L 0) (lb L 1) (li L 9)) (fun s m L p=>(.normal,m [(3,.c (.b p))] [])) fun _ _=>by unfold a4M;exact kk
def a12 (w0:Bool) (w1:Int) (w2:Bool) (w10:Int) (k0:Bool→R):R:=
 bif w2 then
  bnd (b2d N w10 1 4) fun y0=>
  k0 y0
 else
  bnd (a7z N w0 (w1==8) w10) fun y1=>
  k0 y1
def a2K (w0:Bool) (w1:Int) (w2:Bool) (w10:Int):Bool:=a12 N w0 w1 w2 w10 (fun p=>p)
def d66:=(d65 N).c0 (b1P N) 39038 100 [1,3] [1] ⟨[(1,.c (.p 1 0)),(3,.c (.b)),(11,.c (.i .i64)),(48,.c (.b))],[(1,.box (rI 8 ([.s])))]⟩ (fun L _=>a12 N (lb L 0) (li L 1) (lb L 2) (li L 10)) (fun s m L p=>(.normal,m [(3,.c (.b p))] [])) fun _ _=>by unfold a12;exact kk
def a1E (w0:Bool) (w1:Int) (w2:Bool) (w8 w9 w10:Int) (k0:Bool→R):R:=
 bif w2 then
  bnd (bif (bif (decide (w8<0)) then true else (decide (w8>w9))) then true else (decide (w9≥86400))) fun y0=>
  k0 y0
 else
  bnd (a2K N w0 w1 (w1==3) w10) fun y1=>
  k0 y1
def a2n (w0:Bool) (w1:Int) (w2:Bool) (w8 w9 w10:Int):Bool:=a1E N w0 w1 w2 w8 w9 w10 (fun p=>p)
def d67:=(d66 N).c0 (b1P N) 33032 100 [1,3] [1] ⟨[(1,.c (.p 1 0)),(3,.c (.b)),(11,.c (.i .i64)),(27,.c (.b))],[(1,.box (rI 8 ([.s])))]⟩ (fun L _=>a1E N (lb L 0) (li L 1) (lb L 2) (li L 8) (li L 9) (li L 10)) (fun s m L p=>(.normal,m [(3,.c (.b p))] [])) fun _ _=>by unfold a1E;exact kk
def a51 (w0:Bool) (w1:Int) (w2:Bool) (w5 w6 w7 w8 w9 w10:Int) (k0:Bool→R):R:=
 bif w2 then
  bnd (c4e N w5 w6 w7) fun y0=>
  k0 y0
 else
  bnd (a2n N w0 w1 (w1==2) w8 w9 w10) fun y1=>
  k0 y1
def b4U (w0:Bool) (w1:Int) (w2:Bool) (w5 w6 w7 w8 w9 w10:Int):Bool:=a51 N w0 w1 w2 w5 w6 w7 w8 w9 w10 (fun p=>p)
def d68:=(d67 N).c0 (b1P N) 27026 100 [1,3] [1] ⟨[(1,.c (.p 1 0)),(3,.c (.b)),(11,.c (.i .i64)),(12,.c (.b))],[(1,.box (rI 8 ([.s])))]⟩ (fun L _=>a51 N (lb L 0) (li L 1) (lb L 2) (li L 5) (li L 6) (li L 7) (li L 8) (li L 9) (li L 10)) (fun s m L p=>(.normal,m [(3,.c (.b p))] [])) fun _ _=>by unfold a51;exact kk
def b2W (w1 w7:Int) (k0:Bool→R):R:=
 bif (w1==5) then
  bnd (b2d N w7 1 5) fun y0=>
  k0 y0
 else
  k0 false
def c4f (w1 w7:Int):Bool:=b2W N w1 w7 (fun p=>p)
def d69:=(d68 N).c0 (b1P N) 52 100 [1,66] [1] ⟨[(1,.c (.p 1 0))],[(1,.box (rI 8 ([.s])))]⟩ (fun L _=>b2W N (li L 1) (li L 7)) (fun s m L p=>(.normal,m [(66,.c (.b p))] [])) fun _ _=>by unfold b2W;exact kk
def b2X (w1:Int) (w8:LB) (k0:Bool→Option R):Option R:=
 bif (w1==4) then
  bnd (c8w N w8) fun y0=>
  bif y0.isSome then
   k0 (!(y0.getD default))
  else
   none
 else
  k0 false
def c4g (w1:Int) (w8:LB):Option (Bool):=b2X N w1 w8 some
def d7a:=(d69 N).c1 (b1P N) 58 100 [1,75] [1] ⟨[(1,.c (.p 1 0))],[(1,.box (rI 8 ([.s])))]⟩ (fun L _=>b2X N (li L 1) (ls L 8)) (fun s m L p=>(.normal,m [(75,.c (.b p))] [])) fun _ _=>by unfold b2X;exact bb
def d1u (v0 v1 v2 v3 v4 v5 v6 v7:Int) (v8:LB) (k0:Int→Option R):Option R:=
 bnd (b2d N v1 1 8) fun y0=>
 bif y0 then
  k0 7
 else
  bnd (b2d N v0 1 3) fun y1=>
  bif y1 then
   k0 9
  else
   bnd (b4U N false v1 (v1==1) v2 v3 v4 v5 v6 v7) fun y2=>
   bif y2 then
    k0 9
   else
    bnd (c4f N v1 v7) fun y3=>
    bif y3 then
     k0 7
    else
     bnd (c4g N v1 v8) fun y4=>
     bif y4.isSome then
      bif (y4.getD default) then
       k0 8
      else
       bnd (d4t N v1 v2 v3 v4 v5 v6 v7 v8) fun y5=>
       bnd (!((v0==v0)&&((v1==v1)&&((y5.1==v2)&&((y5.2.1==v3)&&((y5.2.2.1==v4)&&(((y5.2.2.2.1==v5)&&((y5.2.2.2.2.1==v6)&&true))&&((y5.2.2.2.2.2.1==v7)&&((y5.2.2.2.2.2.2==v8)&&true))))))))) fun y6=>
       bif y6 then
        k0 2
       else
        k0 0
     else
      none
def d7b (v0 v1 v2 v3 v4 v5 v6 v7:Int) (v8:LB):Option (Int):=d1u N v0 v1 v2 v3 v4 v5 v6 v7 v8 some
def e1w:=(d7a N).f1 (b1P N) ⟨[(0,.g (rI 8 ([.s])))],[]⟩ (fun L _=>d1u N (li L 0) (li L 1) (li L 2) (li L 3) (li L 4) (li L 5) (li L 6) (li L 7) (ls L 8)) (fun L p=>([.c (.i .i64 p)],[])) fun _ _=>by unfold d1u;exact bb
def d7c (N:Nat):Sg Tryz.prog 0 35:= .start [(12,[11,12,13],[],[])] [(0,[0]),(1,[1]),(2,[]),(3,[1]),(4,[13,12,11]),(5,[11,13,12]),(6,[4,13,12,11]),(7,[5,13,12,11]),(8,[5]),(9,[13,12,11]),(10,[])]
def a7A (w1:LD) (w2:Int) (w3:Int) (kr:Int→Option R) (k0:Int→Option R) (k1:Unit→Option R):Option R:=
 bif (decide (w3<w2)) then
  bif (inB w3 w1.length) then
   bnd (d7b N ((w1.getD w3.toNat (.i 0)).cell 0).toI ((w1.getD w3.toNat (.i 0)).cell 1).toI ((w1.getD w3.toNat (.i 0)).cell 2).toI ((w1.getD w3.toNat (.i 0)).cell 3).toI ((w1.getD w3.toNat (.i 0)).cell 4).toI ((w1.getD w3.toNat (.i 0)).cell 5).toI ((w1.getD w3.toNat (.i 0)).cell 6).toI ((w1.getD w3.toNat (.i 0)).cell 7).toI ((w1.getD w3.toNat (.i 0)).cell 8).toS) fun y0=>
   bif y0.isSome then
    bif ((y0.getD default) !=0) then
     k0 (y0.getD default)
    else
     kr (IntKind.wrap .i64 (w3+1))
   else
    none
  else
   none
 else
  k1 ()
def b2Y (N:Nat) {R:Type} (w1:LD) (w2:Int):Nat→Int→(Int→Option R)→(Unit→Option R)→Option R
 |0,_,_,_=>none
 |m+1,w3,k0,k1=>a7A N w1 w2 w3 (fun w3=>b2Y N w1 w2 m w3 k0 k1) k0 k1
def b7L (w1:LD) (w2:Int) (w3:Int):Option (Sum (Int) (Unit)):=b2Y N (R:=(Sum (Int) (Unit))) w1 w2 N w3 (fun p=>some (.inl p)) (fun p=>some (.inr p))
def d7d:=(d7c N).l2 (e1w N) 12 [3] [2] [] ⟨[(11,.c (.sl 67)),(12,.c (.i .i64)),(13,.c (.i .i64))],[]⟩ N (fun L x _ kr=>a7A N (ll L 1) (li L 2) (li x 0) (fun w3=>kr [.i w3])) (fun L m x=>b2Y N (ll L 1) (li L 2) m (li x 0) (fun p=>some (.inl p)) (fun p=>some (.inr p))) (fun s m L p=>(.ret,⟨[(2,.c (.i .i64 p))],[]⟩)) (fun s m L _=>((.exit 0),⟨[],[]⟩)) fun _ _ _ _ _ _=>by unfold a7A;exact bb
def d1v (v1:LD) (k0:Int→Option R):Option R:=
 bif (decide ((v1.length:Int)>50)) then
  k0 3
 else
  bnd (b7L N v1 (v1.length:Int) 0) fun y0=>
  bif (a1x y0) then
   k0 (a2t y0)
  else
   bif (a0w y0).isSome then
    k0 0
   else
    none
def d7e (v1:LD):Option (Int):=d1v N v1 some
def e3w:=(d7d N).f1 (e1w N) ⟨[(0,.g ([.sl 67]))],[]⟩ (fun L _=>d1v N (ll L 1)) (fun L p=>([.c (.i .i64 p)],[])) fun _ _=>by unfold d1v;exact bb
def d7f (N:Nat):Sg Tryz.prog 0 67:= .start [] [(0,[0,1,2]),(1,[0,1,2])]
def d1w (N:Nat) (v0 v1 v2:Int) (k0:Bool→R):R:=
 k0 (bif (decide (v0<v1)) then true else (decide (v0>v2)))
def b4V (v0 v1 v2:Int):Bool:=d1w N v0 v1 v2 (fun p=>p)
def d1x:=(d7f N).f0 (e3w N) ⟨[(0,.c (.i .i64)),(1,.c (.i .i64)),(2,.c (.i .i64))],[]⟩ (fun L _=>d1w N (li L 0) (li L 1) (li L 2)) (fun L p=>([.c (.b p)],[])) fun _ _=>by unfold d1w;exact kk
def d7g (N:Nat):Sg Tryz.prog 0 68:= .start [(7,[1,2,5],[2,5],[]),(19,[5],[5],[]),(25,[5],[5],[])] [(0,[0,1]),(1,[2,1]),(2,[1,5,2]),(3,[]),(4,[5,2]),(5,[]),(6,[5]),(7,[]),(8,[5]),(9,[]),(10,[])]
def b7M (N:Nat) (w0:Int) (w5:LD) (w10:Int) (k0:Bool→Option R):Option R:=
 bif (w0==0) then
  bif (w10 !=0) then
   k0 true
  else
   bif (decide (w0>0)) then
    bif (inB (IntKind.wrap .i64 (w0-1)) w5.length) then
     bnd ((w5.getD (IntKind.wrap .i64 (w0-1)).toNat (.i 0)).cell 0).toI fun y0=>
     k0 (decide (w10≤y0))
    else
     none
   else
    k0 false
 else
  bif (decide (w0>0)) then
   bif (inB (IntKind.wrap .i64 (w0-1)) w5.length) then
    bnd ((w5.getD (IntKind.wrap .i64 (w0-1)).toNat (.i 0)).cell 0).toI fun y0=>
    k0 (decide (w10≤y0))
   else
    none
  else
   k0 false
def c16 (w0:Int) (w5:LD) (w10:Int):Option (Bool):=b7M N w0 w5 w10 some
def d7h:=(d7g N).c1 (d1x N) 7 100 [2,5,33] [2,5] ⟨[(1,.c (.i .i64)),(2,.c (.p 2 0)),(5,.c (.p 5 0))],[(2,.box (.s::[.i .i64,.i .i64,.sl 69,.sl 95,.sl 9])),(5,.box (rI 7 ([])))]⟩ (fun L _=>b7M N (li L 0) (ll L 5) (li L 10)) (fun s m L p=>(.normal,m [(33,.c (.b p))] [])) fun _ _=>by unfold b7M;exact bb
def b2Z (w1 w2 w3:Int) (k0:Bool→R):R:=
 bnd (b4V N w1 (-100000000) 100000000) fun y0=>
 bif y0 then
  k0 true
 else
  bnd (b4V N w2 (-100000000) 100000000) fun y1=>
  bif y1 then
   k0 true
  else
   bnd (b4V N w3 (-100000) 100000) fun y2=>
   k0 y2
def c4h (w1 w2 w3:Int):Bool:=b2Z N w1 w2 w3 (fun p=>p)
def d7i:=(d7h N).c0 (d1x N) 19 100 [5,57] [5] ⟨[(5,.c (.p 5 0))],[(5,.box (rI 7 ([])))]⟩ (fun L _=>b2Z N (li L 1) (li L 2) (li L 3)) (fun s m L p=>(.normal,m [(57,.c (.b p))] [])) fun _ _=>by unfold b2Z;exact kk
def b20 (w4 w5 w6:Int) (k0:Bool→R):R:=
 bnd (b4V N w4 (-1) 300) fun y0=>
 bif y0 then
  k0 true
 else
  bnd (b4V N w5 (-1) 3000) fun y1=>
  bif y1 then
   k0 true
  else
   bnd (b4V N w6 (-1) 300) fun y2=>
   k0 y2
def c4i (w4 w5 w6:Int):Bool:=b20 N w4 w5 w6 (fun p=>p)
def d7j:=(d7i N).c0 (d1x N) 25 100 [70] [] ⟨[(5,.c (.p 5 0))],[(5,.box (rI 7 ([])))]⟩ (fun L _=>b20 N (li L 4) (li L 5) (li L 6)) (fun s m L p=>(.normal,⟨[(70,.c (.b p))],[]⟩)) fun _ _=>by unfold b20;exact kk
def d1y (v2:Int) (v4:LD) (v9:Int) (k0:Int→Option R):Option R:=
 bif (inB v9 v4.length) then
  bnd (c16 N v9 v4 ((v4.getD v9.toNat (.i 0)).cell 0).toI) fun y0=>
  bif y0.isSome then
   bif (y0.getD default) then
    k0 10
   else
    bnd (bif (decide (((v4.getD v9.toNat (.i 0)).cell 0).toI>1000000)) then true else (decide ((IntKind.wrap .i64 (v2+((v4.getD v9.toNat (.i 0)).cell 0).toI))>86399999999))) fun y1=>
    bif y1 then
     k0 9
    else
     bnd (c4h N ((v4.getD v9.toNat (.i 0)).cell 1).toI ((v4.getD v9.toNat (.i 0)).cell 2).toI ((v4.getD v9.toNat (.i 0)).cell 3).toI) fun y2=>
     bif y2 then
      k0 9
     else
      bnd (c4i N ((v4.getD v9.toNat (.i 0)).cell 4).toI ((v4.getD v9.toNat (.i 0)).cell 5).toI ((v4.getD v9.toNat (.i 0)).cell 6).toI) fun y3=>
      bif y3 then
       k0 9
      else
       k0 0
  else
   none
 else
  none
def d7k (v2:Int) (v4:LD) (v9:Int):Option (Int):=d1y N v2 v4 v9 some
def e3x:=(d7j N).f1 (d1x N) ⟨[(0,.g (.s::[.i .i64,.i .i64,.sl 69,.sl 95,.sl 9])),(1,.c (.i .i64))],[]⟩ (fun L _=>d1y N (li L 2) (ll L 4) (li L 9)) (fun L p=>([.c (.i .i64 p)],[])) fun _ _=>by unfold d1y;exact bb
def d7l (N:Nat):Sg Tryz.prog 0 20:= .start [] [(0,[0]),(1,[1]),(2,[]),(3,[1])]
def d1z (N:Nat) (v4:LD) (k0:Int→Option R):Option R:=
 bif ((v4.length:Int)==0) then
  k0 0
 else
  bif (inB (IntKind.wrap .i64 ((v4.length:Int)-1)) v4.length) then
   bnd ((v4.getD (IntKind.wrap .i64 ((v4.length:Int)-1)).toNat (.i 0)):D) fun y0=>
   k0 (y0.cell 0).toI
  else
   none
def c0s (v4:LD):Option (Int):=d1z N v4 some
def d1A:=(d7l N).f1 (e3x N) ⟨[(0,.g (.s::[.i .i64,.i .i64,.sl 69,.sl 95,.sl 9]))],[]⟩ (fun L _=>d1z N (ll L 4)) (fun L p=>([.c (.i .i64 p)],[])) fun _ _=>by unfold d1z;exact bb
def d7m (N:Nat):Sg Tryz.prog 0 69:= .start [(7,[1,2,5],[2,5],[]),(13,[1,2,5],[2,5],[]),(21,[5,6],[5],[])] [(0,[0,1]),(1,[2,1]),(2,[5,2,1]),(3,[]),(4,[1,5,2]),(5,[]),(6,[5]),(7,[6,5]),(9,[5,6]),(10,[]),(8,[6,5]),(11,[5]),(12,[]),(13,[])]
def b7N (w5:LD) (w10 w11:Int) (k0:Bool→Option R):Option R:=
 bif (decide (w10<0)) then
  k0 true
 else
  bif (decide (w10≥w11)) then
   k0 true
  else
   bnd (c0s N w5) fun y0=>
   bif y0.isSome then
    k0 (decide (w11>(y0.getD default)))
   else
    none
def c8x (w5:LD) (w10 w11:Int):Option (Bool):=b7N N w5 w10 w11 some
def d7n:=(d7m N).c1 (d1A N) 7 100 [1,2,5,28] [2,5] ⟨[(1,.c (.i .i64)),(2,.c (.p 2 0)),(5,.c (.p 5 0))],[(2,.box (.s::[.i .i64,.i .i64,.sl 69,.sl 95,.sl 9])),(5,.box ([.i .i64,.i .i64,.s]))]⟩ (fun L _=>b7N N (ll L 5) (li L 10) (li L 11)) (fun s m L p=>(.normal,m [(28,.c (.b p))] [])) fun _ _=>by unfold b7N;exact bb
def b7O (N:Nat) (w0:Int) (w7:LD) (w10:Int) (k0:Bool→Option R):Option R:=
 bif (decide (w0>0)) then
  bif (inB (IntKind.wrap .i64 (w0-1)) w7.length) then
   bnd ((w7.getD (IntKind.wrap .i64 (w0-1)).toNat (.i 0)).cell 1).toI fun y0=>
   k0 (decide (w10<y0))
  else
   none
 else
  k0 false
def c4j (w0:Int) (w7:LD) (w10:Int):Option (Bool):=b7O N w0 w7 w10 some
def d7o:=(d7n N).c1 (d1A N) 13 100 [5,42] [5] ⟨[(1,.c (.i .i64)),(2,.c (.p 2 0)),(5,.c (.p 5 0))],[(2,.box (.s::[.i .i64,.i .i64,.sl 69,.sl 95,.sl 9])),(5,.box ([.i .i64,.i .i64,.s]))]⟩ (fun L _=>b7O N (li L 0) (ll L 7) (li L 10)) (fun s m L p=>(.normal,m [(42,.c (.b p))] [])) fun _ _=>by unfold b7O;exact bb
def a7B (w3:LB) (w0:Int) (kr:Int→Option R) (k0:Unit→Option R) (k1:Unit→Option R):Option R:=
 bif (decide (w0<(w3.length:Int))) then
  bif (inB w0 w3.length) then
   bnd (b4V N (IntKind.wrap .i64 ((w3.getD w0.toNat 0).toNat:Int)) 32 126) fun y0=>
   bif y0 then
    k0 ()
   else
    kr (IntKind.wrap .i64 (w0+1))
  else
   none
 else
  k1 ()
def b21 (N:Nat) {R:Type} (w3:LB):Nat→Int→(Unit→Option R)→(Unit→Option R)→Option R
 |0,_,_,_=>none
 |m+1,w0,k0,k1=>a7B N w3 w0 (fun w0=>b21 N w3 m w0 k0 k1) k0 k1
def b7P (w3:LB) (w0:Int):Option (Sum (Unit) (Unit)):=b21 N (R:=(Sum (Unit) (Unit))) w3 N w0 (fun p=>some (.inl p)) (fun p=>some (.inr p))
def d7p:=(d7o N).l2 (d1A N) 21 [0] [4,5] [5] ⟨[(5,.c (.p 5 0)),(6,.c (.i .i64))],[(5,.box ([.i .i64,.i .i64,.s]))]⟩ N (fun L x _ kr=>a7B N (ls L 3) (li x 0) (fun w0=>kr [.i w0])) (fun L m x=>b21 N (ls L 3) m (li x 0) (fun p=>some (.inl p)) (fun p=>some (.inr p))) (fun s m L _=>(.ret,mg s [4] [(4,.c (.i .i64 8))] [5] [])) (fun s m L _=>((.exit 0),mg s [5] [] [5] [])) fun _ _ _ _ _ _=>by unfold a7B;exact bb
def d1B (v4 v6:LD) (v9:Int) (k0:Int→Option R):Option R:=
 bif (inB v9 v6.length) then
  bnd (c8x N v4 ((v6.getD v9.toNat (.i 0)).cell 0).toI ((v6.getD v9.toNat (.i 0)).cell 1).toI) fun y0=>
  bif y0.isSome then
   bif (y0.getD default) then
    k0 9
   else
    bnd (c4j N v9 v6 ((v6.getD v9.toNat (.i 0)).cell 0).toI) fun y1=>
    bif y1.isSome then
     bif (y1.getD default) then
      k0 10
     else
      bnd (b7P N ((v6.getD v9.toNat (.i 0)).cell 2).toS 0) fun y2=>
      bif (a1x y2) then
       k0 8
      else
       bif (a0w y2).isSome then
        bnd (decide ((((v6.getD v9.toNat (.i 0)).cell 2).toS.length:Int)>60)) fun y3=>
        bif y3 then
         k0 8
        else
         k0 0
       else
        none
    else
     none
  else
   none
 else
  none
def d7q (v4 v6:LD) (v9:Int):Option (Int):=d1B N v4 v6 v9 some
def d1C:=(d7p N).f1 (d1A N) ⟨[(0,.g (.s::[.i .i64,.i .i64,.sl 69,.sl 95,.sl 9])),(1,.c (.i .i64))],[]⟩ (fun L _=>d1B N (ll L 4) (ll L 6) (li L 9)) (fun L p=>([.c (.i .i64 p)],[])) fun _ _=>by unfold d1B;exact bb
def d7r (N:Nat):Sg Tryz.prog 0 36:= .start [(30,[1,41,42],[1],[]),(51,[1,54,55],[1],[]),(72,[1,66,67,68],[1],[])] [(0,[0]),(1,[1]),(3,[1]),(5,[1]),(7,[1]),(8,[]),(6,[]),(4,[]),(2,[]),(9,[1]),(10,[42,41,1]),(11,[42,1,41]),(12,[1,3,42,41]),(13,[4,42,41,1]),(14,[4]),(15,[42,41,1]),(16,[1]),(17,[55,54,1]),(18,[55,1,54]),(19,[1,5,55,54]),(20,[6,55,54,1]),(21,[6]),(22,[55,54,1]),(23,[1]),(24,[68,67,66,1]),(25,[68,66,1,67]),(26,[8,7,1,68,67,66]),(27,[]),(28,[7,8,1,68,67,66]),(29,[]),(30,[68,67,66,1]),(31,[])]
def a7C (w0 w4:Int) (w6:LD) (w1:Int) (kr:Int→Option R) (k0:Int→Option R) (k1:Unit→Option R):Option R:=
 bif (decide (w1<w0)) then
  bnd (d7k N w4 w6 w1) fun y0=>
  bif y0.isSome then
   bif ((y0.getD default) !=0) then
    k0 (y0.getD default)
   else
    kr (IntKind.wrap .i64 (w1+1))
  else
   none
 else
  k1 ()
def b22 (N:Nat) {R:Type} (w0 w4:Int) (w6:LD):Nat→Int→(Int→Option R)→(Unit→Option R)→Option R
 |0,_,_,_=>none
 |m+1,w1,k0,k1=>a7C N w0 w4 w6 w1 (fun w1=>b22 N w0 w4 w6 m w1 k0 k1) k0 k1
def b7Q (w0 w4:Int) (w6:LD) (w1:Int):Option (Sum (Int) (Unit)):=b22 N (R:=(Sum (Int) (Unit))) w0 w4 w6 N w1 (fun p=>some (.inl p)) (fun p=>some (.inr p))
def d7s:=(d7r N).l2 (d1C N) 30 [1] [1,2] [1] ⟨[(1,.c (.p 1 0)),(41,.c (.i .i64)),(42,.c (.i .i64))],[(1,.box (.s::[.i .i64,.i .i64,.sl 69,.sl 95,.sl 9]))]⟩ N (fun L x _ kr=>a7C N (li L 0) (li L 4) (ll L 6) (li x 0) (fun w1=>kr [.i w1])) (fun L m x=>b22 N (li L 0) (li L 4) (ll L 6) m (li x 0) (fun p=>some (.inl p)) (fun p=>some (.inr p))) (fun s m L p=>(.ret,mg s [2] [(2,.c (.i .i64 p))] [1] [])) (fun s m L _=>((.exit 1),mg s [1] [] [1] [])) fun _ _ _ _ _ _=>by unfold a7C;exact bb
def a7D (w0:Int) (w6 w8:LD) (w1:Int) (kr:Int→Option R) (k0:Int→Option R) (k1:Unit→Option R):Option R:=
 bif (decide (w1<w0)) then
  bnd (d7q N w6 w8 w1) fun y0=>
  bif y0.isSome then
   bif ((y0.getD default) !=0) then
    k0 (y0.getD default)
   else
    kr (IntKind.wrap .i64 (w1+1))
  else
   none
 else
  k1 ()
def b23 (N:Nat) {R:Type} (w0:Int) (w6 w8:LD):Nat→Int→(Int→Option R)→(Unit→Option R)→Option R
 |0,_,_,_=>none
 |m+1,w1,k0,k1=>a7D N w0 w6 w8 w1 (fun w1=>b23 N w0 w6 w8 m w1 k0 k1) k0 k1
def b7R (w0:Int) (w6 w8:LD) (w1:Int):Option (Sum (Int) (Unit)):=b23 N (R:=(Sum (Int) (Unit))) w0 w6 w8 N w1 (fun p=>some (.inl p)) (fun p=>some (.inr p))
def d7t:=(d7s N).l2 (d1C N) 51 [1] [1,2] [1] ⟨[(1,.c (.p 1 0)),(54,.c (.i .i64)),(55,.c (.i .i64))],[(1,.box (.s::[.i .i64,.i .i64,.sl 69,.sl 95,.sl 9]))]⟩ N (fun L x _ kr=>a7D N (li L 0) (ll L 6) (ll L 8) (li x 0) (fun w1=>kr [.i w1])) (fun L m x=>b23 N (li L 0) (ll L 6) (ll L 8) m (li x 0) (fun p=>some (.inl p)) (fun p=>some (.inr p))) (fun s m L p=>(.ret,mg s [2] [(2,.c (.i .i64 p))] [1] [])) (fun s m L _=>((.exit 3),mg s [1] [] [1] [])) fun _ _ _ _ _ _=>by unfold a7D;exact bb
def a7E (w1:LD) (w2:Int) (w12:LD) (w3:Int) (kr:Int→Option R) (k0:Int→Option R) (k1:Unit→Option R):Option R:=
 bif (decide (w3<w2)) then
  bif (inB w3 w1.length) then
   bnd (c8w N (w1.getD w3.toNat (.i 0)).toS) fun y0=>
   bif y0.isSome then
    bif (!(y0.getD default)) then
     k0 8
    else
     bif (bif (inB (IntKind.wrap .i64 (w3-1)) w12.length) then true else (!((decide (w3>0))==true))) then
      bnd (bif (decide (w3>0)) then ((Op.bytesLess (w1.getD w3.toNat (.i 0)).toS (w12.getD (IntKind.wrap .i64 (w3-1)).toNat (.i 0)).toS)||((w1.getD w3.toNat (.i 0)).toS==(w12.getD (IntKind.wrap .i64 (w3-1)).toNat (.i 0)).toS)) else false) fun y1=>
      bif y1 then
       k0 10
      else
       kr (IntKind.wrap .i64 (w3+1))
     else
      none
   else
    none
  else
   none
 else
  k1 ()
def b24 (N:Nat) {R:Type} (w1:LD) (w2:Int) (w12:LD):Nat→Int→(Int→Option R)→(Unit→Option R)→Option R
 |0,_,_,_=>none
 |m+1,w3,k0,k1=>a7E N w1 w2 w12 w3 (fun w3=>b24 N w1 w2 w12 m w3 k0 k1) k0 k1
def b7S (w1:LD) (w2:Int) (w12:LD) (w3:Int):Option (Sum (Int) (Unit)):=b24 N (R:=(Sum (Int) (Unit))) w1 w2 w12 N w3 (fun p=>some (.inl p)) (fun p=>some (.inr p))
def d7u:=(d7t N).l2 (d1C N) 72 [3] [2] [] ⟨[(1,.c (.p 1 0)),(66,.c (.sl 9)),(67,.c (.i .i64)),(68,.c (.i .i64))],[(1,.box (.s::[.i .i64,.i .i64,.sl 69,.sl 95,.sl 9]))]⟩ N (fun L x _ kr=>a7E N (ll L 1) (li L 2) (ll L 12) (li x 0) (fun w3=>kr [.i w3])) (fun L m x=>b24 N (ll L 1) (li L 2) (ll L 12) m (li x 0) (fun p=>some (.inl p)) (fun p=>some (.inr p))) (fun s m L p=>(.ret,⟨[(2,.c (.i .i64 p))],[]⟩)) (fun s m L _=>((.exit 5),⟨[],[]⟩)) fun _ _ _ _ _ _=>by unfold a7E;exact bb
def d1D (v0 :LB) (v1 v2:Int) (v4 v6 v8:LD) (k0:Int→Option R):Option R:=
 bnd (c8w N v0) fun y0=>
 bif y0.isSome then
  bif (!(y0.getD default)) then
   k0 8
  else
   bnd (b4V N v1 1 5) fun y1=>
   bif y1 then
    k0 7
   else
    bnd (b4V N v2 0 86399999999) fun y2=>
    bif y2 then
     k0 9
    else
     bnd (bif (decide ((v4.length:Int)>20000)) then true else (decide ((v6.length:Int)>200))) fun y3=>
     bnd (bif y3 then true else (decide ((v8.length:Int)>20))) fun y4=>
     bif y4 then
      k0 3
     else
      bnd (b7Q N (v4.length:Int) v2 v4 0) fun y5=>
      bif (a1x y5) then
       k0 (a2t y5)
      else
       bif (a0w y5).isSome then
        bnd (b7R N (v6.length:Int) v4 v6 0) fun y6=>
        bif (a1x y6) then
         k0 (a2t y6)
        else
         bif (a0w y6).isSome then
          bnd (b7S N v8 (v8.length:Int) v8 0) fun y7=>
          bif (a1x y7) then
           k0 (a2t y7)
          else
           bif (a0w y7).isSome then
            k0 0
           else
            none
         else
          none
       else
        none
 else
  none
def b7T (v0:LB) (v1 v2:Int) (v4 v6 v8:LD):Option (Int):=d1D N v0 v1 v2 v4 v6 v8 some
def e1x:=(d7u N).f1 (d1C N) ⟨[(0,.g (.s::[.i .i64,.i .i64,.sl 69,.sl 95,.sl 9]))],[]⟩ (fun L _=>d1D N (ls L 0) (li L 1) (li L 2) (ll L 4) (ll L 6) (ll L 8)) (fun L p=>([.c (.i .i64 p)],[])) fun _ _=>by unfold d1D;exact bb
def d7v (N:Nat):Sg Tryz.prog 0 15:= .start [(27,[26,27,28],[],[])] [(0,[0,1,2,3]),(1,[4,1,2,3]),(2,[9,1,2,3]),(3,[9]),(4,[1,2,3]),(5,[]),(6,[2,3]),(7,[]),(8,[3]),(9,[28,27,26]),(10,[26,28,27]),(11,[11,28,27,26]),(12,[12,28,27,26]),(13,[12]),(14,[28,27,26]),(15,[])]
def a7F (w1:LD) (w2:Int) (w3:Int) (kr:Int→Option R) (k0:Int→Option R) (k1:Unit→Option R):Option R:=
 bif (decide (w3<w2)) then
  bif (inB w3 w1.length) then
   bnd (b7T N ((w1.getD w3.toNat (.i 0)).cell 0).toS ((w1.getD w3.toNat (.i 0)).cell 1).toI ((w1.getD w3.toNat (.i 0)).cell 2).toI ((w1.getD w3.toNat (.i 0)).cell 3).items ((w1.getD w3.toNat (.i 0)).cell 4).items ((w1.getD w3.toNat (.i 0)).cell 5).items) fun y0=>
   bif y0.isSome then
    bif ((y0.getD default) !=0) then
     k0 (y0.getD default)
    else
     kr (IntKind.wrap .i64 (w3+1))
   else
    none
  else
   none
 else
  k1 ()
def b25 (N:Nat) {R:Type} (w1:LD) (w2:Int):Nat→Int→(Int→Option R)→(Unit→Option R)→Option R
 |0,_,_,_=>none
 |m+1,w3,k0,k1=>a7F N w1 w2 w3 (fun w3=>b25 N w1 w2 m w3 k0 k1) k0 k1
def b7U (w1:LD) (w2:Int) (w3:Int):Option (Sum (Int) (Unit)):=b25 N (R:=(Sum (Int) (Unit))) w1 w2 N w3 (fun p=>some (.inl p)) (fun p=>some (.inr p))
def d7w:=(d7v N).l2 (e1x N) 27 [3] [8] [] ⟨[(26,.c (.sl 51)),(27,.c (.i .i64)),(28,.c (.i .i64))],[]⟩ N (fun L x _ kr=>a7F N (ll L 1) (li L 2) (li x 0) (fun w3=>kr [.i w3])) (fun L m x=>b25 N (ll L 1) (li L 2) m (li x 0) (fun p=>some (.inl p)) (fun p=>some (.inr p))) (fun s m L p=>(.ret,⟨[(8,.c (.i .i64 p))],[]⟩)) (fun s m L _=>((.exit 0),⟨[],[]⟩)) fun _ _ _ _ _ _=>by unfold a7F;exact bb
def c8y (v1:LD) (v2:Int) (v3:Bool) (v5:LD) (k0:Int→Option R):Option R:=
 bnd (d7e N v1) fun y0=>
 bif y0.isSome then
  bif ((y0.getD default) !=0) then
   k0 (y0.getD default)
  else
   bnd (b2d N v2 0 3) fun y1=>
   bif y1 then
    k0 9
   else
    bif (bif v3 then (decide ((v5.length:Int)>2000)) else false) then
     k0 3
    else
     bnd (b7U N v5 (v5.length:Int) 0) fun y2=>
     bif (a1x y2) then
      k0 (a2t y2)
     else
      bif (a0w y2).isSome then
       k0 0
      else
       none
 else
  none
def c17 (v1:LD) (v2:Int) (v3:Bool) (v5:LD):Option (Int):=c8y N v1 v2 v3 v5 some
def d7x:=(d7w N).f1 (e1x N) ⟨[(0,.g ([.sl 67])),(1,.c (.i .i64)),(2,.c (.b)),(3,.c (.sl 51))],[]⟩ (fun L _=>c8y N (ll L 1) (li L 2) (lb L 3) (ll L 5)) (fun L p=>([.c (.i .i64 p)],[])) fun _ _=>by unfold c8y;exact bb
def d1E (N:Nat):Sg Tryz.prog 0 107:= .start [(9,[1,2,7,11,12,13],[7],[7]),(20,[1,2,7,9,11,12,13,26],[7,9],[])] [(0,[0,1,2]),(1,[3,1,2]),(2,[3,1,2,7]),(3,[13,12,11,1,2,7]),(4,[11,13,1,2,7,12]),(5,[9,1,2,7,13,12,11]),(6,[7,9,13,12,11,1,2]),(7,[13,12,11,1,2,7]),(8,[7])]
def a9S (N:Nat) (w6:Bool) (w8:LD) (w9 w10 w11 w12 w13 w14 w15 w16:Int) (w17:LB) (k0:LD→Option R) (k1:Unit→Option R):Option R:=
 bif w6 then
  bif (decide ((w8.length+1)*80≤a1K)&&decide ((w8.length+1)≤a0g)) then
   bnd ((w8++[(.a [(.i w9),(.i w10),(.i w11),(.i w12),(.i w13),(.i w14),(.i w15),(.i w16),(.s w17)])]):List D) fun y0=>
   k0 y0
  else
   none
 else
  k1 ()
def c0t (w6:Bool) (w8:LD) (w9 w10 w11 w12 w13 w14 w15 w16:Int) (w17:LB):Option (Sum (LD) (Unit)):=a9S N w6 w8 w9 w10 w11 w12 w13 w14 w15 w16 w17 (fun p=>some (.inl p)) (fun p=>some (.inr p))
def d1F:=(d1E N).c2 (d7x N) 20 100 [1,2,7,11,12,13] [7,30] ⟨[(1,.c (.i .i64)),(2,.c (.i .i64)),(7,.c (.o 7)),(9,.c (.p 9 0)),(11,.c (.sl 67)),(12,.c (.i .i64)),(13,.c (.i .i64)),(26,.c (.b))],[(7,.row 67 true),(9,.box (rI 8 ([.s])))]⟩ (fun L _=>a9S N (lb L 6) (ll L 8) (li L 9) (li L 10) (li L 11) (li L 12) (li L 13) (li L 14) (li L 15) (li L 16) (ls L 17)) (fun s m L p=>(.normal,mg s [1,2,7,11,12,13] [(7,.c (.o 30))] [30] [(30,.row 67 true false p)])) (fun s m L _=>(.normal,mg s [1,2,7,11,12,13] [] [7] [])) fun _ _ _=>by unfold a9S;exact bb
def a7G (w0 w1:Int) (w3:LD) (w4:Int) (w5:Int) (w6:Bool) (w7:LD) (kr:Int→Bool→LD→Option R) (k0:Bool×LD→Option R):Option R:=
 bif (decide (w5<w4)) then
  bif (inB w5 w3.length) then
   bnd (bif (decide (((w3.getD w5.toNat (.i 0)).cell 0).toI≤w0)) then (((w3.getD w5.toNat (.i 0)).cell 1).toI==w1) else false) fun y0=>
   bnd (c0t N y0 w7 ((w3.getD w5.toNat (.i 0)).cell 0).toI ((w3.getD w5.toNat (.i 0)).cell 1).toI ((w3.getD w5.toNat (.i 0)).cell 2).toI ((w3.getD w5.toNat (.i 0)).cell 3).toI ((w3.getD w5.toNat (.i 0)).cell 4).toI ((w3.getD w5.toNat (.i 0)).cell 5).toI ((w3.getD w5.toNat (.i 0)).cell 6).toI ((w3.getD w5.toNat (.i 0)).cell 7).toI ((w3.getD w5.toNat (.i 0)).cell 8).toS) fun y1=>
   bif (a1x y1) then
    kr (IntKind.wrap .i64 (w5+1)) false (a2t y1)
   else
    bif (a0w y1).isSome then
     kr (IntKind.wrap .i64 (w5+1)) w6 w7
    else
     none
  else
   none
 else
  k0 (w6,w7)
def b26 (N:Nat) {R:Type} (w0 w1:Int) (w3:LD) (w4:Int):Nat→Int→Bool→LD→(Bool×LD→Option R)→Option R
 |0,_,_,_,_=>none
 |m+1,w5,w6,w7,k0=>a7G N w0 w1 w3 w4 w5 w6 w7 (fun w5 w6 w7=>b26 N w0 w1 w3 w4 m w5 w6 w7 k0) k0
def b7V (w0 w1:Int) (w3:LD) (w4:Int) (w5:Int) (w6:Bool) (w7:LD):Option (Bool×LD):=b26 N (R:=(Bool×LD)) w0 w1 w3 w4 N w5 w6 w7 some
def d1G:=(d1F N).l1 (d7x N) 9 [5,6,7] [6,7] [7] ⟨[(1,.c (.i .i64)),(2,.c (.i .i64)),(7,.c (.o 7)),(11,.c (.sl 67)),(12,.c (.i .i64)),(13,.c (.i .i64))],[(7,.row 67 true)]⟩ N (fun L x _ kr=>a7G N (li L 0) (li L 1) (ll L 3) (li L 4) (li x 0) (lb x 1) (ll x 2) (fun w5 w6 w7=>kr [.i w5,.b w6,.l w7])) (fun L m x=>b26 N (li L 0) (li L 1) (ll L 3) (li L 4) m (li x 0) (lb x 1) (ll x 2) some) (fun s m L p=>((.exit 0),⟨[(7,.c (.o 7))],[(7,.row 67 true p.1 p.2)]⟩)) fun _ _ _ _ _=>by unfold a7G;exact bb
def c4k (v1:LD) (v2 v3:Int) (k0:Bool×LD→Option R):Option R:=
 bnd (b7V N v2 v3 v1 (v1.length:Int) 0 true []) fun y0=>
 bif y0.isSome then
  k0 (y0.getD default)
 else
  none
def a6U (v1:LD) (v2 v3:Int):Option (Bool×LD):=c4k N v1 v2 v3 some
def c4l:=(d1G N).f1 (d7x N) ⟨[(0,.g ([.sl 67])),(1,.c (.i .i64)),(2,.c (.i .i64))],[]⟩ (fun L _=>c4k N (ll L 1) (li L 2) (li L 3)) (fun L p=>([.c (.sl 67 p.1 p.2)],[])) fun _ _=>by unfold c4k;exact bb
def d1H (N:Nat):Sg Tryz.prog 0 105:= .start [(6,[1,3,5,15,16,17],[3,5],[]),(24,[5,29,30,31],[5],[]),(33,[5,10,29,30,31,36,37,38],[5,10],[])] [(0,[0,2,1]),(1,[3,1,5]),(2,[17,16,15,5,3,1]),(3,[15,17,5,16,3,1]),(4,[8,5,17,16,15,3,1]),(5,[]),(6,[17,16,15,5,3,1]),(7,[3,1,5]),(8,[31,30,29,5]),(9,[29,31,5,30]),(10,[5,10,31,30,29]),(11,[38,37,36,10,31,30,29,5]),(12,[36,38,10,37,31,30,29,5]),(13,[12,10,38,37,36,31,30,29,5]),(14,[]),(15,[38,37,36,10,31,30,29,5]),(16,[31,30,29,5]),(17,[])]
def a7H (N:Nat) (w2:LD) (w3 w8:Int) (w4:Int) (kr:Int→Option R) (k0:Unit→Option R) (k1:Unit→Option R):Option R:=
 bif (decide (w4<w3)) then
  bif (inB w4 w2.length) then
   bif (((w2.getD w4.toNat (.i 0)).cell 7).toI==w8) then
    k0 ()
   else
    kr (IntKind.wrap .i64 (w4+1))
  else
   none
 else
  k1 ()
def b27 (N:Nat) {R:Type} (w2:LD) (w3 w8:Int):Nat→Int→(Unit→Option R)→(Unit→Option R)→Option R
 |0,_,_,_=>none
 |m+1,w4,k0,k1=>a7H N w2 w3 w8 w4 (fun w4=>b27 N w2 w3 w8 m w4 k0 k1) k0 k1
def b7W (w2:LD) (w3 w8:Int) (w4:Int):Option (Sum (Unit) (Unit)):=b27 N (R:=(Sum (Unit) (Unit))) w2 w3 w8 N w4 (fun p=>some (.inl p)) (fun p=>some (.inr p))
def d1I:=(d1H N).l2 (c4l N) 6 [4] [1,3,5,6] [3,5] ⟨[(1,.c (.i .i64)),(3,.c (.p 3 0)),(5,.c (.p 5 0)),(15,.c (.sl 67)),(16,.c (.i .i64)),(17,.c (.i .i64))],[(3,.box ([.sl 67])),(5,.box (.s::[.i .i64,.i .i64,.sl 69,.sl 95,.sl 9]))]⟩ N (fun L x _ kr=>a7H N (ll L 2) (li L 3) (li L 8) (li x 0) (fun w4=>kr [.i w4])) (fun L m x=>b27 N (ll L 2) (li L 3) (li L 8) m (li x 0) (fun p=>some (.inl p)) (fun p=>some (.inr p))) (fun s m L _=>(.ret,mg s [6] [(6,.c (.b true))] [3,5] [])) (fun s m L _=>((.exit 0),mg s [1,3,5] [] [3,5] [])) fun _ _ _ _ _ _=>by unfold a7H;exact bb
def a5p (N:Nat) (w5:LD) (w6:Int) (w25:LB) (w7:Int) (kr:Int→Option R) (k0:Unit→Option R) (k1:Unit→Option R):Option R:=
 bif (decide (w7<w6)) then
  bif (inB w7 w5.length) then
   bif ((w5.getD w7.toNat (.i 0)).toS==w25) then
    k0 ()
   else
    kr (IntKind.wrap .i64 (w7+1))
  else
   none
 else
  k1 ()
def a9T (N:Nat) {R:Type} (w5:LD) (w6:Int) (w25:LB):Nat→Int→(Unit→Option R)→(Unit→Option R)→Option R
 |0,_,_,_=>none
 |m+1,w7,k0,k1=>a5p N w5 w6 w25 w7 (fun w7=>a9T N w5 w6 w25 m w7 k0 k1) k0 k1
def b4W (w5:LD) (w6:Int) (w25:LB) (w7:Int):Option (Sum (Unit) (Unit)):=a9T N (R:=(Sum (Unit) (Unit))) w5 w6 w25 N w7 (fun p=>some (.inl p)) (fun p=>some (.inr p))
def d1J:=(d1I N).l2 (c4l N) 33 [7] [5,6,29,30,31] [5] ⟨[(5,.c (.p 5 0)),(10,.c (.p 10 0)),(29,.c (.sl 67)),(30,.c (.i .i64)),(31,.c (.i .i64)),(36,.c (.sl 9)),(37,.c (.i .i64)),(38,.c (.i .i64))],[(5,.box (.s::[.i .i64,.i .i64,.sl 69,.sl 95,.sl 9])),(10,.box (rI 8 ([.s])))]⟩ N (fun L x _ kr=>a5p N (ll L 5) (li L 6) (ls L 25) (li x 0) (fun w7=>kr [.i w7])) (fun L m x=>a9T N (ll L 5) (li L 6) (ls L 25) m (li x 0) (fun p=>some (.inl p)) (fun p=>some (.inr p))) (fun s m L _=>(.ret,mg s [6] [(6,.c (.b true))] [5] [])) (fun s m L _=>((.exit 4),mg s [5,29,30,31] [] [5] [])) fun _ _ _ _ _ _=>by unfold a5p;exact bb
def a5q (w1:LD) (w2:Int) (w12:LD) (w3:Int) (kr:Int→Option R) (k0:Unit→Option R) (k1:Unit→Option R):Option R:=
 bif (decide (w3<w2)) then
  bif (inB w3 w1.length) then
   bnd (b4W N w12 (w12.length:Int) ((w1.getD w3.toNat (.i 0)).cell 8).toS 0) fun y0=>
   bif (a1x y0) then
    k0 ()
   else
    bif (a0w y0).isSome then
     kr (IntKind.wrap .i64 (w3+1))
    else
     none
  else
   none
 else
  k1 ()
def a9U (N:Nat) {R:Type} (w1:LD) (w2:Int) (w12:LD):Nat→Int→(Unit→Option R)→(Unit→Option R)→Option R
 |0,_,_,_=>none
 |m+1,w3,k0,k1=>a5q N w1 w2 w12 w3 (fun w3=>a9U N w1 w2 w12 m w3 k0 k1) k0 k1
def b4X (w1:LD) (w2:Int) (w12:LD) (w3:Int):Option (Sum (Unit) (Unit)):=a9U N (R:=(Sum (Unit) (Unit))) w1 w2 w12 N w3 (fun p=>some (.inl p)) (fun p=>some (.inr p))
def d1K:=(d1J N).l2 (c4l N) 24 [3] [6] [] ⟨[(5,.c (.p 5 0)),(29,.c (.sl 67)),(30,.c (.i .i64)),(31,.c (.i .i64))],[(5,.box (.s::[.i .i64,.i .i64,.sl 69,.sl 95,.sl 9]))]⟩ N (fun L x _ kr=>a5q N (ll L 1) (li L 2) (ll L 12) (li x 0) (fun w3=>kr [.i w3])) (fun L m x=>a9U N (ll L 1) (li L 2) (ll L 12) m (li x 0) (fun p=>some (.inl p)) (fun p=>some (.inr p))) (fun s m L _=>(.ret,⟨[(6,.c (.b true))],[]⟩)) (fun s m L _=>((.exit 2),⟨[],[]⟩)) fun _ _ _ _ _ _=>by unfold a5q;exact bb
def c4m (v1:LD) (v2 v4:Int) (v11:LD) (k0:Bool→Option R):Option R:=
 bnd (a6U N v1 v2 5) fun y0=>
 bif y0.isSome then
  bnd (b7W N (y0.getD default).2 ((y0.getD default).2.length:Int) v4 0) fun y1=>
  bif (a1x y1) then
   k0 true
  else
   bif (a0w y1).isSome then
    bnd (a6U N v1 v2 4) fun y2=>
    bif y2.isSome then
     bnd (b4X N (y2.getD default).2 ((y2.getD default).2.length:Int) v11 0) fun y3=>
     bif (a1x y3) then
      k0 true
     else
      bif (a0w y3).isSome then
       k0 false
      else
       none
    else
     none
   else
    none
 else
  none
def c8z (v1:LD) (v2 v4:Int) (v11:LD):Option (Bool):=c4m N v1 v2 v4 v11 some
def c8A:=(d1K N).f1 (c4l N) ⟨[(0,.g ([.sl 67])),(1,.c (.i .i64)),(2,.g (.s::[.i .i64,.i .i64,.sl 69,.sl 95,.sl 9]))],[]⟩ (fun L _=>c4m N (ll L 1) (li L 2) (li L 4) (ll L 11)) (fun L p=>([.c (.b p)],[])) fun _ _=>by unfold c4m;exact bb
def d1L (N:Nat):Sg Tryz.prog 0 106:= .start [(6,[1,4,6,7,16,17,18],[4,6,7],[]),(27,[11,60,61,62],[],[])] [(0,[0,2,3,1]),(1,[4,1,7,6]),(2,[18,17,16,7,6,4,1]),(3,[16,18,7,17,6,4,1]),(4,[7,10,18,17,16,6,4,1]),(5,[]),(6,[18,17,16,7,6,4,1]),(7,[6,7,4,1]),(8,[4,1,11]),(9,[62,61,60,11]),(10,[60,62,11,61]),(11,[11,13,62,61,60]),(12,[]),(13,[62,61,60,11]),(14,[])]
def a7I (N:Nat) (w2:LD) (w3 w17 w18:Int) (w4:Int) (kr:Int→Option R) (k0:Unit→Option R) (k1:Unit→Option R):Option R:=
 bif (decide (w4<w3)) then
  bif (inB w4 w2.length) then
   bnd (IntKind.wrap .i64 (w17-((w2.getD w4.toNat (.i 0)).cell 2).toI)) fun y0=>
   bnd (IntKind.wrap .i64 (w17-((w2.getD w4.toNat (.i 0)).cell 2).toI)) fun y0=>
   bnd (IntKind.wrap .i64 (w18-((w2.getD w4.toNat (.i 0)).cell 3).toI)) fun y1=>
   bnd (IntKind.wrap .i64 (w18-((w2.getD w4.toNat (.i 0)).cell 3).toI)) fun y1=>
   bnd (IntKind.wrap .i64 ((IntKind.wrap .i64 (y0*y0))+(IntKind.wrap .i64 (y1*y1)))) fun y2=>
   bnd (IntKind.wrap .i64 (((w2.getD w4.toNat (.i 0)).cell 4).toI*((w2.getD w4.toNat (.i 0)).cell 4).toI)) fun y3=>
   bif (decide (y2≤y3)) then
    k0 ()
   else
    kr (IntKind.wrap .i64 (w4+1))
  else
   none
 else
  k1 ()
def b28 (N:Nat) {R:Type} (w2:LD) (w3 w17 w18:Int):Nat→Int→(Unit→Option R)→(Unit→Option R)→Option R
 |0,_,_,_=>none
 |m+1,w4,k0,k1=>a7I N w2 w3 w17 w18 w4 (fun w4=>b28 N w2 w3 w17 w18 m w4 k0 k1) k0 k1
def b7X (w2:LD) (w3 w17 w18:Int) (w4:Int):Option (Sum (Unit) (Unit)):=b28 N (R:=(Sum (Unit) (Unit))) w2 w3 w17 w18 N w4 (fun p=>some (.inl p)) (fun p=>some (.inr p))
def d1M:=(d1L N).l2 (c8A N) 6 [4] [1,4,6,7,8] [4,6,7] ⟨[(1,.c (.i .i64)),(4,.c (.p 4 0)),(6,.c (.p 6 0)),(7,.c (.p 7 0)),(16,.c (.sl 67)),(17,.c (.i .i64)),(18,.c (.i .i64))],[(4,.box ([.sl 67])),(6,.box (.s::[.i .i64,.i .i64,.sl 69,.sl 95,.sl 9])),(7,.box (rI 7 ([])))]⟩ N (fun L x _ kr=>a7I N (ll L 2) (li L 3) (li L 17) (li L 18) (li x 0) (fun w4=>kr [.i w4])) (fun L m x=>b28 N (ll L 2) (li L 3) (li L 17) (li L 18) m (li x 0) (fun p=>some (.inl p)) (fun p=>some (.inr p))) (fun s m L _=>(.ret,mg s [8] [(8,.c (.b true))] [4,6,7] [])) (fun s m L _=>((.exit 0),mg s [1,4,6,7] [] [4,6,7] [])) fun _ _ _ _ _ _=>by unfold a7I;exact bb
def a5r (N:Nat) (w0:Int) (w2:LD) (w3:Int) (w4:Int) (kr:Int→Option R) (k0:Unit→Option R) (k1:Unit→Option R):Option R:=
 bif (decide (w4<w3)) then
  bif (inB w4 w2.length) then
   bnd (bif (decide (w0≥((w2.getD w4.toNat (.i 0)).cell 5).toI)) then (decide (w0≤((w2.getD w4.toNat (.i 0)).cell 6).toI)) else false) fun y0=>
   bif y0 then
    k0 ()
   else
    kr (IntKind.wrap .i64 (w4+1))
  else
   none
 else
  k1 ()
def a9V (N:Nat) {R:Type} (w0:Int) (w2:LD) (w3:Int):Nat→Int→(Unit→Option R)→(Unit→Option R)→Option R
 |0,_,_,_=>none
 |m+1,w4,k0,k1=>a5r N w0 w2 w3 w4 (fun w4=>a9V N w0 w2 w3 m w4 k0 k1) k0 k1
def b4Y (w0:Int) (w2:LD) (w3:Int) (w4:Int):Option (Sum (Unit) (Unit)):=a9V N (R:=(Sum (Unit) (Unit))) w0 w2 w3 N w4 (fun p=>some (.inl p)) (fun p=>some (.inr p))
def d1N:=(d1M N).l2 (c8A N) 27 [4] [8] [] ⟨[(11,.c (.i .i64)),(60,.c (.sl 67)),(61,.c (.i .i64)),(62,.c (.i .i64))],[]⟩ N (fun L x _ kr=>a5r N (li L 0) (ll L 2) (li L 3) (li x 0) (fun w4=>kr [.i w4])) (fun L m x=>a9V N (li L 0) (ll L 2) (li L 3) m (li x 0) (fun p=>some (.inl p)) (fun p=>some (.inr p))) (fun s m L _=>(.ret,⟨[(8,.c (.b true))],[]⟩)) (fun s m L _=>((.exit 2),⟨[],[]⟩)) fun _ _ _ _ _ _=>by unfold a5r;exact bb
def c4n (v1:LD) (v2 v5 v12 v13 v14:Int) (k0:Bool→Option R):Option R:=
 bnd (a6U N v1 v2 1) fun y0=>
 bif y0.isSome then
  bnd (b7X N (y0.getD default).2 ((y0.getD default).2.length:Int) v13 v14 0) fun y1=>
  bif (a1x y1) then
   k0 true
  else
   bif (a0w y1).isSome then
    bnd (a6U N v1 v2 2) fun y2=>
    bif y2.isSome then
     bnd (b4Y N ((IntKind.wrap .i64 (v5+v12)).tmod 86400) (y2.getD default).2 ((y2.getD default).2.length:Int) 0) fun y3=>
     bif (a1x y3) then
      k0 true
     else
      bif (a0w y3).isSome then
       k0 false
      else
       none
    else
     none
   else
    none
 else
  none
def c8B (v1:LD) (v2 v5 v12 v13 v14:Int):Option (Bool):=c4n N v1 v2 v5 v12 v13 v14 some
def c8C:=(d1N N).f1 (c8A N) ⟨[(0,.g ([.sl 67])),(1,.c (.i .i64)),(2,.g (.s::[.i .i64,.i .i64,.sl 69,.sl 95,.sl 9])),(3,.g (rI 7 ([])))],[]⟩ (fun L _=>c4n N (ll L 1) (li L 2) (li L 5) (li L 12) (li L 13) (li L 14)) (fun L p=>([.c (.b p)],[])) fun _ _=>by unfold c4n;exact bb
def d7y (N:Nat):Sg Tryz.prog 0 70:= .start [(12,[1,3,5,8,9,17,18,19],[3,5,9],[9]),(19,[1,3,5,8,9,11,17,18,19],[3,5,9,11],[])] [(0,[0,2,1]),(1,[3,1,5]),(2,[5,8,3,1]),(3,[5,9,8,3,1]),(4,[19,18,17,9,8,3,1,5]),(5,[17,19,9,8,3,1,5,18]),(6,[9,8,3,1,5,11,19,18,17]),(7,[19,18,17,9,8,3,1,5]),(8,[9,8])]
def b29 (w0:Int) (w1:Bool) (w7:LD) (w10:Int) (w18:LD) (w19 w20 w21:Int) (k0:LD→Option R):Option R:=
 bif w1 then
  bif (decide ((w18.length+1)*1≤a1K)&&decide ((w18.length+1)≤a0g)) then
   k0 (w18++[(.b true)])
  else
   none
 else
  bnd (c8B N w7 w0 w10 w19 w20 w21) fun y0=>
  bif y0.isSome then
   bif (decide ((w18.length+1)*1≤a1K)&&decide ((w18.length+1)≤a0g)) then
    k0 (w18++[(.b (y0.getD default))])
   else
    none
  else
   none
def c4o (w0:Int) (w1:Bool) (w7:LD) (w10:Int) (w18:LD) (w19 w20 w21:Int):Option (LD):=b29 N w0 w1 w7 w10 w18 w19 w20 w21 some
def d7z:=(d7y N).c1 (c8C N) 19 100 [1,3,5,8,9,17,18,19] [3,5,33] ⟨[(1,.c (.i .i64)),(3,.c (.p 3 0)),(5,.c (.p 5 0)),(8,.c (.b)),(9,.c (.o 9)),(11,.c (.p 11 0)),(17,.c (.sl 69)),(18,.c (.i .i64)),(19,.c (.i .i64))],[(3,.box ([.sl 67])),(5,.box (.s::[.i .i64,.i .i64,.sl 69,.sl 95,.sl 9])),(9,.row 4 true),(11,.box (rI 7 ([])))]⟩ (fun L _=>b29 N (li L 0) (lb L 1) (ll L 7) (li L 10) (ll L 18) (li L 19) (li L 20) (li L 21)) (fun s m L p=>(.normal,m [(9,.c (.o 33))] [(33,.row 4 true false p)])) fun _ _=>by unfold b29;exact bb
def a7J (w0:Int) (w1:Bool) (w3:LD) (w4:Int) (w7:LD) (w10:Int) (w5:Int) (w17:Bool) (w18:LD) (kr:Int→Bool→LD→Option R) (k0:Bool×LD→Option R):Option R:=
 bif (decide (w5<w4)) then
  bif (inB w5 w3.length) then
   bnd (c4o N w0 w1 w7 w10 w18 ((w3.getD w5.toNat (.i 0)).cell 0).toI ((w3.getD w5.toNat (.i 0)).cell 1).toI ((w3.getD w5.toNat (.i 0)).cell 2).toI) fun y0=>
   bif y0.isSome then
    kr (IntKind.wrap .i64 (w5+1)) false (y0.getD default)
   else
    none
  else
   none
 else
  k0 (w17,w18)
def b3a (N:Nat) {R:Type} (w0:Int) (w1:Bool) (w3:LD) (w4:Int) (w7:LD) (w10:Int):Nat→Int→Bool→LD→(Bool×LD→Option R)→Option R
 |0,_,_,_,_=>none
 |m+1,w5,w17,w18,k0=>a7J N w0 w1 w3 w4 w7 w10 w5 w17 w18 (fun w5 w17 w18=>b3a N w0 w1 w3 w4 w7 w10 m w5 w17 w18 k0) k0
def b3b (w0:Int) (w1:Bool) (w3:LD) (w4:Int) (w7:LD) (w10:Int) (w5:Int) (w17:Bool) (w18:LD):Option (Bool×LD):=b3a N (R:=(Bool×LD)) w0 w1 w3 w4 w7 w10 N w5 w17 w18 some
def d7A:=(d7z N).l1 (c8C N) 12 [5,17,18] [6,7,8,9] [9] ⟨[(1,.c (.i .i64)),(3,.c (.p 3 0)),(5,.c (.p 5 0)),(8,.c (.b)),(9,.c (.o 9)),(17,.c (.sl 69)),(18,.c (.i .i64)),(19,.c (.i .i64))],[(3,.box ([.sl 67])),(5,.box (.s::[.i .i64,.i .i64,.sl 69,.sl 95,.sl 9])),(9,.row 4 true)]⟩ N (fun L x _ kr=>a7J N (li L 0) (lb L 1) (ll L 3) (li L 4) (ll L 7) (li L 10) (li x 0) (lb x 1) (ll x 2) (fun w5 w17 w18=>kr [.i w5,.b w17,.l w18])) (fun L m x=>b3a N (li L 0) (lb L 1) (ll L 3) (li L 4) (ll L 7) (li L 10) m (li x 0) (lb x 1) (ll x 2) some) (fun s m L p=>((.exit 0),mg s [8,9] [] [9] [(9,.row 4 true p.1 p.2)])) fun _ _ _ _ _=>by unfold a7J;exact bb
def d1O (v1:LD) (v2 v4 v5:Int) (v7 v11:LD) (k0:Bool×LD×Bool→Option R):Option R:=
 bnd (c8z N v1 v2 v4 v11) fun y0=>
 bif y0.isSome then
  bnd (b3b N v2 (y0.getD default) v7 (v7.length:Int) v1 v5 0 true []) fun y1=>
  bif y1.isSome then
   k0 ((y1.getD default).1,(y1.getD default).2,(y0.getD default))
  else
   none
 else
  none
def d7B (v1:LD) (v2 v4 v5:Int) (v7 v11:LD):Option (Bool×LD×Bool):=d1O N v1 v2 v4 v5 v7 v11 some
def e1y:=(d7A N).f1 (c8C N) ⟨[(0,.g ([.sl 67])),(1,.c (.i .i64)),(2,.g (.s::[.i .i64,.i .i64,.sl 69,.sl 95,.sl 9]))],[]⟩ (fun L _=>d1O N (ll L 1) (li L 2) (li L 4) (li L 5) (ll L 7) (ll L 11)) (fun L p=>([.c (.sl 4 p.1 p.2.1),.c (.b p.2.2)],[])) fun _ _=>by unfold d1O;exact bb
def d1P (N:Nat):Sg Tryz.prog 0 118:= .start [(11,[0,1,5,10],[],[])] [(0,[0,1]),(1,[0,1]),(2,[5,1,0]),(3,[5,1,0]),(4,[0,5])]
def a9W (N:Nat) (w1 w2:Int) (w3:Bool) (k0:Int→R):R:=
 bif w3 then
  k0 (IntKind.wrap .i64 (w2+w1))
 else
  k0 w2
def c0u (w1 w2:Int) (w3:Bool):Int:=a9W N w1 w2 w3 (fun p=>p)
def d1Q:=(d1P N).c0 (e1y N) 11 100 [0,5] [] ⟨[(0,.c (.i .i64)),(1,.c (.i .i64)),(5,.c (.i .i64)),(10,.c (.b))],[]⟩ (fun L _=>a9W N (li L 1) (li L 2) (lb L 3)) (fun s m L p=>(.normal,⟨[(0,.c (.i .i64 (li L 0))),(5,.c (.i .i64 p))],[]⟩)) fun _ _=>by unfold a9W;exact kk
def c4p (v0 v1:Int) (k0:Int→Option R):Option R:=
 bif (!(v1==0)) then
  bnd (c0u N v1 (v0.tmod v1) (decide ((v0.tmod v1)<0))) fun y0=>
  k0 (max2 (IntKind.wrap .i64 (v0-y0)) (-100000000))
 else
  none
def c4q (v0 v1:Int):Option (Int):=c4p N v0 v1 some
def b6y:=(d1Q N).f1 (e1y N) ⟨[(0,.c (.i .i64)),(1,.c (.i .i64))],[]⟩ (fun L _=>c4p N (li L 0) (li L 1)) (fun L p=>([.c (.i .i64 p)],[])) fun _ _=>by unfold c4p;exact bb
def d1R (N:Nat):Sg Tryz.prog 0 108:= .start [(9,[1,4,6,8,20,21,22],[4,6,8],[]),(18038,[1,4,6,8,20,21,22,35],[4,6,8],[]),(33032,[1,4,6,8,20,21,22,27,32],[4,6,8],[]),(27026,[1,4,6,8,20,21,22,27,29],[4,6,8],[]),(45,[6,8,41,42,43],[6,8],[])] [(0,[0,2,3,1]),(1,[6,3,4,1,8]),(2,[4,1,6,8]),(3,[22,21,20,6,4,1,8]),(4,[20,22,6,21,4,1,8]),(5,[10,6,22,21,20,4,1,8]),(7,[27,6,22,21,20,4,1,8]),(9,[27,6,22,21,20,4,1,8]),(11,[27,6,22,21,20,4,1,8]),(6,[6,22,21,20,4,1,8]),(12,[6,22,21,20,4,1,8]),(10,[6,22,21,20,4,1,8]),(8,[6,22,21,20,4,1,8]),(13,[22,21,20,6,4,1,8]),(14,[4,1,6,8]),(15,[43,42,41,6,8]),(16,[41,43,6,42,8]),(17,[6,12,43,42,41,8]),(18,[43,42,41,6,8]),(19,[6,8])]
def a4N (N:Nat) (w5:Bool) (w11 w14:Int) (k0:Int×Int→R):R:=
 bif w5 then
  k0 (w11,(-1))
 else
  k0 (0,w14)
def b1Q (w5:Bool) (w11 w14:Int):Int×Int:=a4N N w5 w11 w14 (fun p=>p)
def d1S:=(d1R N).c0 (b6y N) 18038 100 [1,4,6,8,20,21,22] [4,6,8] ⟨[(1,.c (.i .i64)),(4,.c (.p 4 0)),(6,.c (.p 6 0)),(8,.c (.p 8 0)),(20,.c (.sl 67)),(21,.c (.i .i64)),(22,.c (.i .i64)),(35,.c (.b))],[(4,.box ([.sl 67])),(6,.box (rI 7 ([]))),(8,.box (rI 7 ([])))]⟩ (fun L _=>a4N N (lb L 5) (li L 11) (li L 14)) (fun s m L p=>(.normal,m [] [(6,.box [.i .i64 (li L 8),.i .i64 (li L 9),.i .i64 (li L 10),.i .i64 p.1,.i .i64 (li L 12),.i .i64 (li L 13),.i .i64 p.2])])) fun _ _=>by unfold a4N;exact kk
def a4O (w5:Int) (w6:Bool) (w12 w14 w15:Int) (k0:Int×Int×Int→R):R:=
 bif w6 then
  k0 (w12,(-1),w15)
 else
  bnd (b1Q N (w5==3) w12 w15) fun y0=>
  k0 (y0.1,w14,y0.2)
def b1R (w5:Int) (w6:Bool) (w12 w14 w15:Int):Int×Int×Int:=a4O N w5 w6 w12 w14 w15 (fun p=>p)
def d1T:=(d1S N).c0 (b6y N) 33032 100 [1,4,6,8,20,21,22] [4,6,8] ⟨[(1,.c (.i .i64)),(4,.c (.p 4 0)),(6,.c (.p 6 0)),(8,.c (.p 8 0)),(20,.c (.sl 67)),(21,.c (.i .i64)),(22,.c (.i .i64)),(27,.c (.i .i64)),(32,.c (.b))],[(4,.box ([.sl 67])),(6,.box (rI 7 ([]))),(8,.box (rI 7 ([])))]⟩ (fun L _=>a4O N (li L 5) (lb L 6) (li L 12) (li L 14) (li L 15)) (fun s m L p=>(.normal,m [] [(6,.box [.i .i64 (li L 9),.i .i64 (li L 10),.i .i64 (li L 11),.i .i64 p.1,.i .i64 (li L 13),.i .i64 p.2.1,.i .i64 p.2.2])])) fun _ _=>by unfold a4O;exact kk
def a4P (w5:Int) (w6:Bool) (w12 w13 w14 w15:Int) (k0:Int×Int×Int×Int→R):R:=
 bif w6 then
  k0 (w12,(-1),w14,w15)
 else
  bnd (b1R N w5 (w5==2) w12 w14 w15) fun y0=>
  k0 (y0.1,w13,y0.2.1,y0.2.2)
def b1S (w5:Int) (w6:Bool) (w12 w13 w14 w15:Int):Int×Int×Int×Int:=a4P N w5 w6 w12 w13 w14 w15 (fun p=>p)
def d1U:=(d1T N).c0 (b6y N) 27026 100 [1,4,6,8,20,21,22] [4,6,8] ⟨[(1,.c (.i .i64)),(4,.c (.p 4 0)),(6,.c (.p 6 0)),(8,.c (.p 8 0)),(20,.c (.sl 67)),(21,.c (.i .i64)),(22,.c (.i .i64)),(27,.c (.i .i64)),(29,.c (.b))],[(4,.box ([.sl 67])),(6,.box (rI 7 ([]))),(8,.box (rI 7 ([])))]⟩ (fun L _=>a4P N (li L 5) (lb L 6) (li L 12) (li L 13) (li L 14) (li L 15)) (fun s m L p=>(.normal,m [] [(6,.box [.i .i64 (li L 9),.i .i64 (li L 10),.i .i64 (li L 11),.i .i64 p.1,.i .i64 p.2.1,.i .i64 p.2.2.1,.i .i64 p.2.2.2])])) fun _ _=>by unfold a4P;exact kk
def a7K (w2:LD) (w3:Int) (w4 w10 w11 w12 w13:Int) (kr:Int→Int→Int→Int→Int→Option R) (k0:Int×Int×Int×Int→Option R):Option R:=
 bif (decide (w4<w3)) then
  bif (inB w4 w2.length) then
   bnd (b1S N ((w2.getD w4.toNat (.i 0)).cell 7).toI (((w2.getD w4.toNat (.i 0)).cell 7).toI==1) w10 w11 w12 w13) fun y0=>
   kr (IntKind.wrap .i64 (w4+1)) y0.1 y0.2.1 y0.2.2.1 y0.2.2.2
  else
   none
 else
  k0 (w10,w11,w12,w13)
def b3c (N:Nat) {R:Type} (w2:LD) (w3:Int):Nat→Int→Int→Int→Int→Int→(Int×Int×Int×Int→Option R)→Option R
 |0,_,_,_,_,_,_=>none
 |m+1,w4,w10,w11,w12,w13,k0=>a7K N w2 w3 w4 w10 w11 w12 w13 (fun w4 w10 w11 w12 w13=>b3c N w2 w3 m w4 w10 w11 w12 w13 k0) k0
def b7Y (w2:LD) (w3:Int) (w4 w10 w11 w12 w13:Int):Option (Int×Int×Int×Int):=b3c N (R:=(Int×Int×Int×Int)) w2 w3 N w4 w10 w11 w12 w13 some
def d1V:=(d1U N).l1 (b6y N) 9 [4,10,11,12,13] [1,4,6,8] [4,6,8] ⟨[(1,.c (.i .i64)),(4,.c (.p 4 0)),(6,.c (.p 6 0)),(8,.c (.p 8 0)),(20,.c (.sl 67)),(21,.c (.i .i64)),(22,.c (.i .i64))],[(4,.box ([.sl 67])),(6,.box (rI 7 ([]))),(8,.box (rI 7 ([])))]⟩ N (fun L x _ kr=>a7K N (ll L 2) (li L 3) (li x 0) (li x 1) (li x 2) (li x 3) (li x 4) (fun w4 w10 w11 w12 w13=>kr [.i w4,.i w10,.i w11,.i w12,.i w13])) (fun L m x=>b3c N (ll L 2) (li L 3) m (li x 0) (li x 1) (li x 2) (li x 3) (li x 4) some) (fun s m L p=>((.exit 0),m [] [(6,.box [.i .i64 (li L 7),.i .i64 (li L 8),.i .i64 (li L 9),.i .i64 p.1,.i .i64 p.2.1,.i .i64 p.2.2.1,.i .i64 p.2.2.2])])) fun _ _ _ _ _=>by unfold a7K;exact bb
def a5s (w1:LD) (w2:Int) (w3 w5 w6:Int) (kr:Int→Int→Int→Option R) (k0:Int×Int→Option R):Option R:=
 bif (decide (w3<w2)) then
  bif (inB w3 w1.length) then
   bnd (c4q N w5 ((w1.getD w3.toNat (.i 0)).cell 7).toI) fun y0=>
   bif y0.isSome then
    bnd (c4q N w6 ((w1.getD w3.toNat (.i 0)).cell 7).toI) fun y1=>
    bif y1.isSome then
     kr (IntKind.wrap .i64 (w3+1)) (y0.getD default) (y1.getD default)
    else
     none
   else
    none
  else
   none
 else
  k0 (w5,w6)
def a9X (N:Nat) {R:Type} (w1:LD) (w2:Int):Nat→Int→Int→Int→(Int×Int→Option R)→Option R
 |0,_,_,_,_=>none
 |m+1,w3,w5,w6,k0=>a5s N w1 w2 w3 w5 w6 (fun w3 w5 w6=>a9X N w1 w2 m w3 w5 w6 k0) k0
def b4Z (w1:LD) (w2:Int) (w3 w5 w6:Int):Option (Int×Int):=a9X N (R:=(Int×Int)) w1 w2 N w3 w5 w6 some
def d1W:=(d1V N).l1 (b6y N) 45 [3,5,6] [6,8] [6,8] ⟨[(6,.c (.p 6 0)),(8,.c (.p 8 0)),(41,.c (.sl 67)),(42,.c (.i .i64)),(43,.c (.i .i64))],[(6,.box (rI 7 ([]))),(8,.box (rI 7 ([])))]⟩ N (fun L x _ kr=>a5s N (ll L 1) (li L 2) (li x 0) (li x 1) (li x 2) (fun w3 w5 w6=>kr [.i w3,.i w5,.i w6])) (fun L m x=>a9X N (ll L 1) (li L 2) m (li x 0) (li x 1) (li x 2) some) (fun s m L p=>((.exit 3),m [] [(6,.box (.i .i64 (li L 4):: .i .i64 p.1:: .i .i64 p.2::rL L 7 4 ([])))])) fun _ _ _ _ _=>by unfold a5s;exact bb
def c4r (v1:LD) (v2 v3 v4 v5 v6 v7 v8 v9 v10:Int) (k0:Int×Int×Int×Int×Int×Int×Int→Option R):Option R:=
 bnd (a6U N v1 v2 3) fun y0=>
 bif y0.isSome then
  bnd (b7Y N (y0.getD default).2 ((y0.getD default).2.length:Int) 0 v6 v7 v8 v9) fun y1=>
  bif y1.isSome then
   bnd (a6U N v1 v2 8) fun y2=>
   bif y2.isSome then
    bnd (b4Z N (y2.getD default).2 ((y2.getD default).2.length:Int) 0 v4 v5) fun y3=>
    bif y3.isSome then
     k0 ((IntKind.wrap .i64 (v3-v10)),(y3.getD default).1,(y3.getD default).2,(y1.getD default).1,(y1.getD default).2.1,(y1.getD default).2.2.1,(y1.getD default).2.2.2)
    else
     none
   else
    none
  else
   none
 else
  none
def c4s (v1:LD) (v2 v3 v4 v5 v6 v7 v8 v9 v10:Int):Option (Int×Int×Int×Int×Int×Int×Int):=c4r N v1 v2 v3 v4 v5 v6 v7 v8 v9 v10 some
def a8x:=(d1W N).f1 (b6y N) ⟨[(0,.g ([.sl 67])),(1,.c (.i .i64)),(2,.g (rI 7 ([]))),(3,.c (.i .i64))],[]⟩ (fun L _=>c4r N (ll L 1) (li L 2) (li L 3) (li L 4) (li L 5) (li L 6) (li L 7) (li L 8) (li L 9) (li L 10)) (fun L p=>let p1:=p.2;let p2:=p1.2;let p3:=p2.2;let p4:=p3.2;let p5:=p4.2;let p6:=p5.2;([.g [.i .i64 p.1,.i .i64 p1.1,.i .i64 p2.1,.i .i64 p3.1,.i .i64 p4.1,.i .i64 p5.1,.i .i64 p6]],[])) fun _ _=>by unfold c4r;exact bb
def d7C (N:Nat):Sg Tryz.prog 0 71:= .start [(17,[1,3,4,6,8,9,10,11,39],[4,6,8,10,32],[]),(23,[1,3,4,6,8,9,10,11,46],[4,6,8,10,32],[]),(30,[1,4,6,8,9,10,11,12,55,56,57],[4,6,8,10,32,54,50010003,50010004],[50010004,50010003]),(48,[8,9,10,11,12,76,77,78],[8,10,32,54,50010003,50010004],[50010004,50010003]),(65,[8,9,10,11,12,16,76,77,78,104],[8,10,16,32,54,50010003,50010004],[])] [(0,[0,2,3,1]),(1,[3,6,4,1,8]),(2,[6,9,4,1,3,8]),(3,[4,1,10,3,9,6,8]),(4,[11,10,4,1,3,9,6,8]),(5,[10,4,1,3,9,6,11,8]),(6,[4,1,10,3,9,6,11,8]),(7,[10,3,4,1,9,6,11,8]),(8,[3,10,4,1,9,6,11,8]),(9,[3,12,10,4,1,9,6,11,8]),(10,[57,56,55,12,10,4,1,9,6,11,8]),(11,[55,57,12,10,4,1,9,56,6,11,8]),(12,[12,14,10,4,1,9,57,56,55,6,11,8]),(13,[10,4,1,14,9,57,56,55,12,6,11,8]),(14,[57,56,55,12,10,4,1,9,6,11,8]),(15,[6,12,9,11,10,8]),(16,[78,77,76,12,9,11,10,8]),(17,[76,78,12,77,9,11,10,8]),(18,[12,16,78,77,76,9,11,10,8]),(19,[16,9,11,10,78,77,76,12,8]),(20,[11,16,10,78,77,76,12,9,8]),(21,[16,10,78,77,76,12,9,11,8]),(22,[10,16,78,77,76,12,9,11,8]),(23,[78,77,76,12,9,11,10,8]),(24,[10,8])]
def b3d (N:Nat) (w5:Bool) (k0:LB→Option R) (k1:Unit→Option R):Option R:=
 bif w5 then
  k0 ([97,99,116,105,118,105,116,121]:List UInt8)
 else
  k1 ()
def c4t (w5:Bool):Option (Sum (LB) (Unit)):=b3d N w5 (fun p=>some (.inl p)) (fun p=>some (.inr p))
def d7D:=(d7C N).c2 (a8x N) 17 100 [1,3,4,6,8,9,10,11] [4,6,8,10,32] ⟨[(1,.c (.i .i64)),(3,.c (.sl 69)),(4,.c (.p 4 0)),(6,.c (.p 6 0)),(8,.c (.p 8 0)),(9,.c (.i .i64)),(10,.c (.p 10 0)),(11,.c (.b)),(39,.c (.b))],[(4,.box ([.sl 67])),(6,.box (.s::[.i .i64,.i .i64,.sl 69,.sl 95,.sl 9])),(8,.box (.s::[.i .i64,.i .i64,.sl 69,.sl 95,.sl 9])),(10,.box (.s::[.i .i64,.i .i64,.sl 69,.sl 95,.o 32])),(32,.row 9 true)]⟩ (fun L _=>b3d N (lb L 5)) (fun s m L p=>(.normal,m [] [(10,.box [.s p,.i .i64 (li L 27),.i .i64 (li L 28),.sl 69 (lb L 29) (ll L 30),.sl 95 (lb L 31) (ll L 32),.sl 9 true []])])) (fun s m L _=>(.normal,m [] [])) fun _ _ _=>by unfold b3d;exact bb
def b3e (N:Nat) (w5:Bool) (w28:Int) (k0:Int→R):R:=
 bif w5 then
  k0 (IntKind.wrap .i64 (w28-(w28.tmod 86400)))
 else
  k0 w28
def c4u (w5:Bool) (w28:Int):Int:=b3e N w5 w28 (fun p=>p)
def d7E:=(d7D N).c0 (a8x N) 23 100 [1,3,4,6,8,9,10,11] [4,6,8,10] ⟨[(1,.c (.i .i64)),(3,.c (.sl 69)),(4,.c (.p 4 0)),(6,.c (.p 6 0)),(8,.c (.p 8 0)),(9,.c (.i .i64)),(10,.c (.p 10 0)),(11,.c (.b)),(46,.c (.b))],[(4,.box ([.sl 67])),(6,.box (.s::[.i .i64,.i .i64,.sl 69,.sl 95,.sl 9])),(8,.box (.s::[.i .i64,.i .i64,.sl 69,.sl 95,.sl 9])),(10,.box (.s::[.i .i64,.i .i64,.sl 69,.sl 95,.sl 9])),(32,.row 9 true)]⟩ (fun L _=>b3e N (lb L 5) (li L 28)) (fun s m L p=>(.normal,m [] [(10,.box [.s (ls L 26),.i .i64 (li L 27),.i .i64 p,.sl 69 (lb L 29) (ll L 30),.sl 95 (lb L 31) (ll L 32),.sl 9 (lb L 33) (ll L 34)])])) fun _ _=>by unfold b3e;exact kk
def a7L (w0 w1:Int) (w4:LD) (w5:Int) (w8:LD) (w6:Int) (w32:(List (D×D))) (w33:Bool) (w34:LD) (kr:Int→(List (D×D))→Bool→LD→Option R) (k0:Ty9→Option R):Option R:=
 bif (decide (w6<w5)) then
  bif (inB w6 w4.length) then
   bnd (c5y Tryz.prog 3 (.i ((w4.getD w6.toNat (.i 0)).cell 0).toI) (.b true) w32) fun y0=>
   bnd (c4s N w8 w0 ((w4.getD w6.toNat (.i 0)).cell 0).toI ((w4.getD w6.toNat (.i 0)).cell 1).toI ((w4.getD w6.toNat (.i 0)).cell 2).toI ((w4.getD w6.toNat (.i 0)).cell 3).toI ((w4.getD w6.toNat (.i 0)).cell 4).toI ((w4.getD w6.toNat (.i 0)).cell 5).toI ((w4.getD w6.toNat (.i 0)).cell 6).toI w1) fun y1=>
   bif y1.isSome then
    bif (decide ((w34.length+1)*56≤a1K)&&decide ((w34.length+1)≤a0g)) then
     bnd ((w34++[(.a [(.i (y1.getD default).1),(.i (y1.getD default).2.1),(.i (y1.getD default).2.2.1),(.i (y1.getD default).2.2.2.1),(.i (y1.getD default).2.2.2.2.1),(.i (y1.getD default).2.2.2.2.2.1),(.i (y1.getD default).2.2.2.2.2.2)])]):List D) fun y2=>
     kr (IntKind.wrap .i64 (w6+1)) y0 false y2
    else
     none
   else
    none
  else
   none
 else
  k0 (w32,w33,w34)
def b3f (N:Nat) {R:Type} (w0 w1:Int) (w4:LD) (w5:Int) (w8:LD):Nat→Int→(List (D×D))→Bool→LD→(Ty9→Option R)→Option R
 |0,_,_,_,_,_=>none
 |m+1,w6,w32,w33,w34,k0=>a7L N w0 w1 w4 w5 w8 w6 w32 w33 w34 (fun w6 w32 w33 w34=>b3f N w0 w1 w4 w5 w8 m w6 w32 w33 w34 k0) k0
def b7Z (w0 w1:Int) (w4:LD) (w5:Int) (w8:LD) (w6:Int) (w32:(List (D×D))) (w33:Bool) (w34:LD):Option (Ty9):=b3f N (R:=(Ty9)) w0 w1 w4 w5 w8 N w6 w32 w33 w34 some
def d7F:=(d7E N).l1 (a8x N) 30 [6,32,33,34] [6,8,9,10,11,12] [6,8,10,54,50010003,50010004] ⟨[(1,.c (.i .i64)),(4,.c (.p 4 0)),(6,.c (.p 6 0)),(8,.c (.p 8 0)),(9,.c (.i .i64)),(10,.c (.p 10 0)),(11,.c (.b)),(12,.c (.m 54)),(55,.c (.sl 69)),(56,.c (.i .i64)),(57,.c (.i .i64))],[(4,.box ([.sl 67])),(6,.box (.s::[.i .i64,.i .i64,.sl 69,.sl 95,.sl 9])),(8,.box (.s::[.i .i64,.i .i64,.sl 69,.sl 95,.sl 9])),(10,.box (.s::[.i .i64,.i .i64,.o 50010003,.o 50010004,.sl 9])),(54,.map 3 4),(50010003,.row 69 true),(50010004,.row 95 true)]⟩ N (fun L x _ kr=>a7L N (li L 0) (li L 1) (ll L 4) (li L 5) (ll L 8) (li x 0) (lm x 1) (lb x 2) (ll x 3) (fun w6 w32 w33 w34=>kr [.i w6,.m w32,.b w33,.l w34])) (fun L m x=>b3f N (li L 0) (li L 1) (ll L 4) (li L 5) (ll L 8) m (li x 0) (lm x 1) (lb x 2) (ll x 3) some) (fun s m L p=>((.exit 0),m [] [(54,.map 3 4 p.1),(50010003,.row 69 true p.2.1 p.2.2)])) fun _ _ _ _ _=>by unfold a7L;exact bb
def b3g (N:Nat) (w6:Bool) (w23:LB) (k0:LB→R):R:=
 bif w6 then
  k0 ([]:List UInt8)
 else
  k0 w23
def c4v (w6:Bool) (w23:LB):LB:=b3g N w6 w23 (fun p=>p)
def d7G:=(d7F N).c0 (a8x N) 65 100 [8,9,10,11,12,16,76,77,78] [8,10,16,54,50010003,50010004] ⟨[(8,.c (.p 8 0)),(9,.c (.i .i64)),(10,.c (.p 10 0)),(11,.c (.b)),(12,.c (.m 54)),(16,.c (.p 16 0)),(76,.c (.sl 95)),(77,.c (.i .i64)),(78,.c (.i .i64)),(104,.c (.b))],[(8,.box (.s::[.i .i64,.i .i64,.sl 69,.sl 95,.sl 9])),(10,.box (.s::[.i .i64,.i .i64,.o 50010003,.o 50010004,.sl 9])),(16,.box ([.i .i64,.i .i64,.s])),(54,.map 3 4),(50010003,.row 69 true),(50010004,.row 95 true)]⟩ (fun L _=>b3g N (lb L 6) (ls L 23)) (fun s m L p=>(.normal,m [] [(16,.box [.i .i64 (li L 21),.i .i64 (li L 22),.s p])])) fun _ _=>by unfold b3g;exact kk
def a7M (w0:Int) (w1:Bool) (w3:LD) (w4:Int) (w20:(List (D×D))) (w5:Int) (w23:Bool) (w24:LD) (kr:Int→Bool→LD→Option R) (k0:Bool×LD→Option R):Option R:=
 bif (decide (w5<w4)) then
  bif (inB w5 w3.length) then
   bnd ((a2u Tryz.prog 3 (.i ((w3.getD w5.toNat (.i 0)).cell 0).toI) w20).getD (.b false)).toB fun y0=>
   bnd (bif (!y0) then true else (!((a2u Tryz.prog 3 (.i ((w3.getD w5.toNat (.i 0)).cell 1).toI) w20).getD (.b false)).toB)) fun y1=>
   bif y1 then
    kr (IntKind.wrap .i64 (w5+1)) w23 w24
   else
    bnd (IntKind.wrap .i64 (((w3.getD w5.toNat (.i 0)).cell 0).toI-w0)) fun y2=>
    bnd (IntKind.wrap .i64 (((w3.getD w5.toNat (.i 0)).cell 1).toI-w0)) fun y3=>
    bnd (c4v N w1 ((w3.getD w5.toNat (.i 0)).cell 2).toS) fun y4=>
    bif (decide ((w24.length+1)*32≤a1K)&&decide ((w24.length+1)≤a0g)) then
     bnd ((w24++[(.a [(.i y2),(.i y3),(.s y4)])]):List D) fun y5=>
     kr (IntKind.wrap .i64 (w5+1)) false y5
    else
     none
  else
   none
 else
  k0 (w23,w24)
def b3h (N:Nat) {R:Type} (w0:Int) (w1:Bool) (w3:LD) (w4:Int) (w20:(List (D×D))):Nat→Int→Bool→LD→(Bool×LD→Option R)→Option R
 |0,_,_,_,_=>none
 |m+1,w5,w23,w24,k0=>a7M N w0 w1 w3 w4 w20 w5 w23 w24 (fun w5 w23 w24=>b3h N w0 w1 w3 w4 w20 m w5 w23 w24 k0) k0
def b70 (w0:Int) (w1:Bool) (w3:LD) (w4:Int) (w20:(List (D×D))) (w5:Int) (w23:Bool) (w24:LD):Option (Bool×LD):=b3h N (R:=(Bool×LD)) w0 w1 w3 w4 w20 N w5 w23 w24 some
def c8D:=(d7G N).l1 (a8x N) 48 [5,23,24] [8,10] [8,10,50010003,50010004] ⟨[(8,.c (.p 8 0)),(9,.c (.i .i64)),(10,.c (.p 10 0)),(11,.c (.b)),(12,.c (.m 54)),(76,.c (.sl 95)),(77,.c (.i .i64)),(78,.c (.i .i64))],[(8,.box (.s::[.i .i64,.i .i64,.sl 69,.sl 95,.sl 9])),(10,.box (.s::[.i .i64,.i .i64,.o 50010003,.o 50010004,.sl 9])),(54,.map 3 4),(50010003,.row 69 true),(50010004,.row 95 true)]⟩ N (fun L x _ kr=>a7M N (li L 0) (lb L 1) (ll L 3) (li L 4) (lm L 20) (li x 0) (lb x 1) (ll x 2) (fun w5 w23 w24=>kr [.i w5,.b w23,.l w24])) (fun L m x=>b3h N (li L 0) (lb L 1) (ll L 3) (li L 4) (lm L 20) m (li x 0) (lb x 1) (ll x 2) some) (fun s m L p=>((.exit 2),m [] [(50010004,.row 95 true p.1 p.2)])) fun _ _ _ _ _=>by unfold a7M;exact bb
def a9Y (N:Nat) (w5:Bool) (w28:Int) (k0:Int→R):R:=
 bif w5 then
  k0 (IntKind.wrap .i64 (w28-(w28.tmod 86400)))
 else
  k0 w28
def c0v (w5:Bool) (w28:Int):Int:=a9Y N w5 w28 (fun p=>p)
def c8E:=(c8D N).add (((c8D N).no 23).c0 (a8x N) 23 100 [1,3,4,6,8,9,10,11] [4,6,8,10,32] ⟨[(1,.c (.i .i64)),(3,.c (.sl 69)),(4,.c (.p 4 0)),(6,.c (.p 6 0)),(8,.c (.p 8 0)),(9,.c (.i .i64)),(10,.c (.p 10 0)),(11,.c (.b)),(46,.c (.b))],[(4,.box ([.sl 67])),(6,.box (.s::[.i .i64,.i .i64,.sl 69,.sl 95,.sl 9])),(8,.box (.s::[.i .i64,.i .i64,.sl 69,.sl 95,.sl 9])),(10,.box (.s::[.i .i64,.i .i64,.sl 69,.sl 95,.o 32])),(32,.row 9 true)]⟩ (fun L _=>a9Y N (lb L 5) (li L 28)) (fun s m L p=>(.normal,m [] [(10,.box [.s (ls L 26),.i .i64 (li L 27),.i .i64 p,.sl 69 (lb L 29) (ll L 30),.sl 95 (lb L 31) (ll L 32),.o 32])])) fun _ _=>by unfold a9Y;exact kk) 23
def a5t (w0 w1:Int) (w4:LD) (w5:Int) (w8:LD) (w6:Int) (w32:(List (D×D))) (w33:Bool) (w34:LD) (kr:Int→(List (D×D))→Bool→LD→Option R) (k0:Ty9→Option R):Option R:=
 bif (decide (w6<w5)) then
  bif (inB w6 w4.length) then
   bnd (c5y Tryz.prog 3 (.i ((w4.getD w6.toNat (.i 0)).cell 0).toI) (.b true) w32) fun y0=>
   bnd (c4s N w8 w0 ((w4.getD w6.toNat (.i 0)).cell 0).toI ((w4.getD w6.toNat (.i 0)).cell 1).toI ((w4.getD w6.toNat (.i 0)).cell 2).toI ((w4.getD w6.toNat (.i 0)).cell 3).toI ((w4.getD w6.toNat (.i 0)).cell 4).toI ((w4.getD w6.toNat (.i 0)).cell 5).toI ((w4.getD w6.toNat (.i 0)).cell 6).toI w1) fun y1=>
   bif y1.isSome then
    bif (decide ((w34.length+1)*56≤a1K)&&decide ((w34.length+1)≤a0g)) then
     bnd ((w34++[(.a [(.i (y1.getD default).1),(.i (y1.getD default).2.1),(.i (y1.getD default).2.2.1),(.i (y1.getD default).2.2.2.1),(.i (y1.getD default).2.2.2.2.1),(.i (y1.getD default).2.2.2.2.2.1),(.i (y1.getD default).2.2.2.2.2.2)])]):List D) fun y2=>
     kr (IntKind.wrap .i64 (w6+1)) y0 false y2
    else
     none
   else
    none
  else
   none
 else
  k0 (w32,w33,w34)
def a9Z (N:Nat) {R:Type} (w0 w1:Int) (w4:LD) (w5:Int) (w8:LD):Nat→Int→(List (D×D))→Bool→LD→(Ty9→Option R)→Option R
 |0,_,_,_,_,_=>none
 |m+1,w6,w32,w33,w34,k0=>a5t N w0 w1 w4 w5 w8 w6 w32 w33 w34 (fun w6 w32 w33 w34=>a9Z N w0 w1 w4 w5 w8 m w6 w32 w33 w34 k0) k0
def b40 (w0 w1:Int) (w4:LD) (w5:Int) (w8:LD) (w6:Int) (w32:(List (D×D))) (w33:Bool) (w34:LD):Option (Ty9):=a9Z N (R:=(Ty9)) w0 w1 w4 w5 w8 N w6 w32 w33 w34 some
def c8F:=(c8E N).add (((c8E N).no 30).l1 (a8x N) 30 [6,32,33,34] [6,8,9,10,11,12] [6,8,10,32,54,50010003,50010004] ⟨[(1,.c (.i .i64)),(4,.c (.p 4 0)),(6,.c (.p 6 0)),(8,.c (.p 8 0)),(9,.c (.i .i64)),(10,.c (.p 10 0)),(11,.c (.b)),(12,.c (.m 54)),(55,.c (.sl 69)),(56,.c (.i .i64)),(57,.c (.i .i64))],[(4,.box ([.sl 67])),(6,.box (.s::[.i .i64,.i .i64,.sl 69,.sl 95,.sl 9])),(8,.box (.s::[.i .i64,.i .i64,.sl 69,.sl 95,.sl 9])),(10,.box (.s::[.i .i64,.i .i64,.o 50010003,.o 50010004,.o 32])),(32,.row 9 true),(54,.map 3 4),(50010003,.row 69 true),(50010004,.row 95 true)]⟩ N (fun L x _ kr=>a5t N (li L 0) (li L 1) (ll L 4) (li L 5) (ll L 8) (li x 0) (lm x 1) (lb x 2) (ll x 3) (fun w6 w32 w33 w34=>kr [.i w6,.m w32,.b w33,.l w34])) (fun L m x=>a9Z N (li L 0) (li L 1) (ll L 4) (li L 5) (ll L 8) m (li x 0) (lm x 1) (lb x 2) (ll x 3) some) (fun s m L p=>((.exit 0),m [] [(54,.map 3 4 p.1),(50010003,.row 69 true p.2.1 p.2.2)])) fun _ _ _ _ _=>by unfold a5t;exact bb) 30
def a90 (N:Nat) (w6:Bool) (w21:LB) (k0:LB→R):R:=
 bif w6 then
  k0 ([]:List UInt8)
 else
  k0 w21
def c0w (w6:Bool) (w21:LB):LB:=a90 N w6 w21 (fun p=>p)
def c8G:=(c8F N).add (((c8F N).no 65).c0 (a8x N) 65 100 [8,9,10,11,12,16,76,77,78] [8,10,16,32,54,50010003,50010004] ⟨[(8,.c (.p 8 0)),(9,.c (.i .i64)),(10,.c (.p 10 0)),(11,.c (.b)),(12,.c (.m 54)),(16,.c (.p 16 0)),(76,.c (.sl 95)),(77,.c (.i .i64)),(78,.c (.i .i64)),(104,.c (.b))],[(8,.box (.s::[.i .i64,.i .i64,.sl 69,.sl 95,.sl 9])),(10,.box (.s::[.i .i64,.i .i64,.o 50010003,.o 50010004,.o 32])),(16,.box ([.i .i64,.i .i64,.s])),(32,.row 9 true),(54,.map 3 4),(50010003,.row 69 true),(50010004,.row 95 true)]⟩ (fun L _=>a90 N (lb L 6) (ls L 21)) (fun s m L p=>(.normal,m [] [(16,.box [.i .i64 (li L 19),.i .i64 (li L 20),.s p])])) fun _ _=>by unfold a90;exact kk) 65
def a5u (w0:Int) (w1:Bool) (w3:LD) (w4:Int) (w20:(List (D×D))) (w5:Int) (w23:Bool) (w24:LD) (kr:Int→Bool→LD→Option R) (k0:Bool×LD→Option R):Option R:=
 bif (decide (w5<w4)) then
  bif (inB w5 w3.length) then
   bnd ((a2u Tryz.prog 3 (.i ((w3.getD w5.toNat (.i 0)).cell 0).toI) w20).getD (.b false)).toB fun y0=>
   bnd (bif (!y0) then true else (!((a2u Tryz.prog 3 (.i ((w3.getD w5.toNat (.i 0)).cell 1).toI) w20).getD (.b false)).toB)) fun y1=>
   bif y1 then
    kr (IntKind.wrap .i64 (w5+1)) w23 w24
   else
    bnd (IntKind.wrap .i64 (((w3.getD w5.toNat (.i 0)).cell 0).toI-w0)) fun y2=>
    bnd (IntKind.wrap .i64 (((w3.getD w5.toNat (.i 0)).cell 1).toI-w0)) fun y3=>
    bnd (c0w N w1 ((w3.getD w5.toNat (.i 0)).cell 2).toS) fun y4=>
    bif (decide ((w24.length+1)*32≤a1K)&&decide ((w24.length+1)≤a0g)) then
     bnd ((w24++[(.a [(.i y2),(.i y3),(.s y4)])]):List D) fun y5=>
     kr (IntKind.wrap .i64 (w5+1)) false y5
    else
     none
  else
   none
 else
  k0 (w23,w24)
def a91 (N:Nat) {R:Type} (w0:Int) (w1:Bool) (w3:LD) (w4:Int) (w20:(List (D×D))):Nat→Int→Bool→LD→(Bool×LD→Option R)→Option R
 |0,_,_,_,_=>none
 |m+1,w5,w23,w24,k0=>a5u N w0 w1 w3 w4 w20 w5 w23 w24 (fun w5 w23 w24=>a91 N w0 w1 w3 w4 w20 m w5 w23 w24 k0) k0
def b41 (w0:Int) (w1:Bool) (w3:LD) (w4:Int) (w20:(List (D×D))) (w5:Int) (w23:Bool) (w24:LD):Option (Bool×LD):=a91 N (R:=(Bool×LD)) w0 w1 w3 w4 w20 N w5 w23 w24 some
def d7H:=(c8G N).add (((c8G N).no 48).l1 (a8x N) 48 [5,23,24] [8,10] [8,10,32,50010003,50010004] ⟨[(8,.c (.p 8 0)),(9,.c (.i .i64)),(10,.c (.p 10 0)),(11,.c (.b)),(12,.c (.m 54)),(76,.c (.sl 95)),(77,.c (.i .i64)),(78,.c (.i .i64))],[(8,.box (.s::[.i .i64,.i .i64,.sl 69,.sl 95,.sl 9])),(10,.box (.s::[.i .i64,.i .i64,.o 50010003,.o 50010004,.o 32])),(32,.row 9 true),(54,.map 3 4),(50010003,.row 69 true),(50010004,.row 95 true)]⟩ N (fun L x _ kr=>a5u N (li L 0) (lb L 1) (ll L 3) (li L 4) (lm L 20) (li x 0) (lb x 1) (ll x 2) (fun w5 w23 w24=>kr [.i w5,.b w23,.l w24])) (fun L m x=>a91 N (li L 0) (lb L 1) (ll L 3) (li L 4) (lm L 20) m (li x 0) (lb x 1) (ll x 2) some) (fun s m L p=>((.exit 2),m [] [(50010004,.row 95 true p.1 p.2)])) fun _ _ _ _ _=>by unfold a5u;exact bb) 48
def d1X (v1:LD) (v2:Int) (v3:LB) (v5:Int) (v9 v11 v13:LD) (k0:Ty1→Option R):Option R:=
 bif (inB 0 v13.length) then
  bif (decide ((0+v11.length)*16≤a1K)&&decide ((0+v11.length)≤a0g)) then
   bnd (a6U N v1 v2 7) fun y0=>
   bif y0.isSome then
    bnd (c4t N (decide (((y0.getD default).2.length:Int)>0))) fun y1=>
    bif (a1x y1) then
     bnd (a6U N v1 v2 6) fun y2=>
     bif y2.isSome then
      bnd (c4u N (decide (((y2.getD default).2.length:Int)>0)) (IntKind.wrap .i64 (v5+((v13.getD 0 (.i 0)).cell 0).toI))) fun y3=>
      bnd (b7Z N v2 ((v13.getD 0 (.i 0)).cell 0).toI v13 (v13.length:Int) v1 0 [] true []) fun y4=>
      bif y4.isSome then
       bnd (b70 N ((v13.getD 0 (.i 0)).cell 0).toI (decide (((y0.getD default).2.length:Int)>0)) v9 (v9.length:Int) (y4.getD default).1 0 true []) fun y5=>
       bif y5.isSome then
        k0 ((a2t y1),y3,(y4.getD default).2.1,(y4.getD default).2.2,(y5.getD default).1,(y5.getD default).2,true,[])
       else
        none
      else
       none
     else
      none
    else
     bif (a0w y1).isSome then
      bnd (a6U N v1 v2 6) fun y2=>
      bif y2.isSome then
       bnd (c0v N (decide (((y2.getD default).2.length:Int)>0)) (IntKind.wrap .i64 (v5+((v13.getD 0 (.i 0)).cell 0).toI))) fun y6=>
       bnd (b40 N v2 ((v13.getD 0 (.i 0)).cell 0).toI v13 (v13.length:Int) v1 0 [] true []) fun y7=>
       bif y7.isSome then
        bnd (b41 N ((v13.getD 0 (.i 0)).cell 0).toI (decide (((y0.getD default).2.length:Int)>0)) v9 (v9.length:Int) (y7.getD default).1 0 true []) fun y8=>
        bif y8.isSome then
         k0 (v3,y6,(y7.getD default).2.1,(y7.getD default).2.2,(y8.getD default).1,(y8.getD default).2,(v11.isEmpty&&false),v11)
        else
         none
       else
        none
      else
       none
     else
      none
   else
    none
  else
   none
 else
  none
def d1Y (v1:LD) (v2:Int) (v3:LB) (v5:Int) (v9 v11 v13:LD):Option (Ty1):=d1X N v1 v2 v3 v5 v9 v11 v13 some
def c8H:=(d7H N).f1 (a8x N) ⟨[(0,.g ([.sl 67])),(1,.c (.i .i64)),(2,.g (.s::[.i .i64,.i .i64,.sl 69,.sl 95,.sl 9])),(3,.c (.sl 69))],[]⟩ (fun L _=>d1X N (ll L 1) (li L 2) (ls L 3) (li L 5) (ll L 9) (ll L 11) (ll L 13)) (fun L p=>let p1:=p.2;let p2:=p1.2;let p3:=p2.2;let p4:=p3.2;let p5:=p4.2;let p6:=p5.2;let p7:=p6.2;([.g [.s p.1,.i .i64 (li L 4),.i .i64 p1.1,.sl 69 p2.1 p3.1,.sl 95 p4.1 p5.1,.sl 9 p6.1 p7]],[])) fun _ _=>by unfold d1X;exact bb
def d7I (N:Nat):Sg Tryz.prog 0 37:= .start [(15,[1,3,5,7,9,10,21,22,23],[3,5,9,10],[10,9]),(25,[1,3,5,7,9,10,12,21,22,23],[3,5,9,10,12],[]),(29,[1,3,5,7,9,10,12,21,22,23,47],[3,5,9,10,12],[]),(44,[1,3,5,9,10,63],[3,5,9,10],[])] [(0,[0,2,1]),(1,[3,1,5]),(2,[5,7,3,1]),(3,[5,7,9,3,1]),(4,[5,7,10,9,3,1]),(5,[23,22,21,7,10,9,3,1,5]),(6,[23,21,7,22,10,9,3,1,5]),(7,[7,11,23,22,21,10,9,3,1,5,12]),(8,[10,12,9,3,1,5,23,22,21,7]),(9,[9,3,1,5,10,12,23,22,21,7]),(10,[12,23,22,21,7,9,3,1,5]),(11,[10,12,23,22,21,7,9,3,1,5]),(12,[23,22,21,7,10,9,3,1,5]),(13,[10,9,3,1,5]),(14,[9,3,1,5,10]),(15,[9])]
def b3i (N:Nat) (w21:LD) (w22:Int) (k0:Bool→Option R):Option R:=
 bif (decide ((w21.length:Int)>0)) then
  bif (inB (IntKind.wrap .i64 ((w21.length:Int)-1)) w21.length) then
   bif (decide ((IntKind.wrap .i64 ((w21.length:Int)-1)).toNat<w21.length)) then
    bnd ((w21.getD (IntKind.wrap .i64 ((w21.length:Int)-1)).toNat (.i 0)).cell 0).toI fun y0=>
    k0 (decide ((IntKind.wrap .i64 (w22-y0))>60))
   else
    none
  else
   none
 else
  k0 false
def b71 (w21:LD) (w22:Int):Option (Bool):=b3i N w21 w22 some
def d7J:=(d7I N).c1 (c8H N) 25 100 [1,3,5,7,9,10,12,21,22,23,47] [3,5,9,10,12] ⟨[(1,.c (.i .i64)),(3,.c (.p 3 0)),(5,.c (.p 5 0)),(7,.c (.sl 4)),(9,.c (.o 9)),(10,.c (.o 10)),(12,.c (.p 12 0)),(21,.c (.sl 69)),(22,.c (.i .i64)),(23,.c (.i .i64))],[(3,.box ([.sl 67])),(5,.box (.s::[.i .i64,.i .i64,.sl 69,.sl 95,.sl 9])),(9,.row 51 true),(10,.row 69 true),(12,.box (rI 7 ([])))]⟩ (fun L _=>b3i N (ll L 21) (li L 22)) (fun s m L p=>(.normal,m [(47,.c (.b p))] [])) fun _ _=>by unfold b3i;exact bb
def a92 (w0:Int) (w7:Bool) (w9:LD) (w10:LB) (w11 w12:Int) (w16 w18 w20 w22:LD) (k0:LD→Option R) (k1:Unit→Option R):Option R:=
 bif w7 then
  bnd (d1Y N w9 w0 w10 w12 w16 w18 w22) fun y0=>
  bif y0.isSome then
   bif (decide ((w20.length+1)*104≤a1K)&&decide ((w20.length+1)≤a0g)) then
    bnd ((w20++[(.a [(.s (y0.getD default).1),(.i w11),(.i (y0.getD default).2.1),(.l (y0.getD default).2.2.1 (y0.getD default).2.2.2.1),(.l (y0.getD default).2.2.2.2.1 (y0.getD default).2.2.2.2.2.1),(.l (y0.getD default).2.2.2.2.2.2.1 (y0.getD default).2.2.2.2.2.2.2)])]):List D) fun y1=>
    k0 y1
   else
    none
  else
   none
 else
  k1 ()
def b72 (w0:Int) (w7:Bool) (w9:LD) (w10:LB) (w11 w12:Int) (w16 w18 w20 w22:LD):Option (Sum (LD) (Unit)):=a92 N w0 w7 w9 w10 w11 w12 w16 w18 w20 w22 (fun p=>some (.inl p)) (fun p=>some (.inr p))
def d7K:=(d7J N).c2 (c8H N) 29 100 [1,3,5,7,9,10,12,21,22,23] [3,5,9,10,12,55] ⟨[(1,.c (.i .i64)),(3,.c (.p 3 0)),(5,.c (.p 5 0)),(7,.c (.sl 4)),(9,.c (.o 9)),(10,.c (.o 10)),(12,.c (.p 12 0)),(21,.c (.sl 69)),(22,.c (.i .i64)),(23,.c (.i .i64)),(47,.c (.b))],[(3,.box ([.sl 67])),(5,.box (.s::[.i .i64,.i .i64,.sl 69,.sl 95,.sl 9])),(9,.row 51 true),(10,.row 69 true),(12,.box (rI 7 ([])))]⟩ (fun L _=>a92 N (li L 0) (lb L 7) (ll L 9) (ls L 10) (li L 11) (li L 12) (ll L 16) (ll L 18) (ll L 20) (ll L 22)) (fun s m L p=>(.normal,mg s [1,3,5,7,9,10,12,21,22,23] [(9,.c (.o 55)),(10,.c (.sl 69 true []))] [3,5,10,12,55] [(10,.row 69 false (lb L 21) (ll L 22)),(55,.row 51 true false p)])) (fun s m L _=>(.normal,mg s [1,3,5,7,9,10,12,21,22,23] [] [3,5,9,10,12] [])) fun _ _ _=>by unfold a92;exact bb
def a7N (w0:Int) (w2 w4:LD) (w5:Int) (w8:LD) (w9:LB) (w10 w11:Int) (w15 w17:LD) (w6:Int) (w18:Bool) (w19:LD) (w20:Bool) (w21:LD) (kr:Int→Bool→LD→Bool→LD→Option R) (k0:Ty8→Option R):Option R:=
 bif (decide (w6<w5)) then
  bif (inB w6 w4.length) then
   bif (inB w6 w2.length) then
    bif (w2.getD w6.toNat (.i 0)).toB then
     kr (IntKind.wrap .i64 (w6+1)) w18 w19 w20 w21
    else
     bnd (b71 N w21 ((w4.getD w6.toNat (.i 0)).cell 0).toI) fun y0=>
     bif y0.isSome then
      bnd (b72 N w0 (y0.getD default) w8 w9 w10 w11 w15 w17 w19 w21) fun y1=>
      bif (a1x y1) then
       kr (IntKind.wrap .i64 (w6+1)) false (a2t y1) false [(.a [(.i ((w4.getD w6.toNat (.i 0)).cell 0).toI),(.i ((w4.getD w6.toNat (.i 0)).cell 1).toI),(.i ((w4.getD w6.toNat (.i 0)).cell 2).toI),(.i ((w4.getD w6.toNat (.i 0)).cell 3).toI),(.i ((w4.getD w6.toNat (.i 0)).cell 4).toI),(.i ((w4.getD w6.toNat (.i 0)).cell 5).toI),(.i ((w4.getD w6.toNat (.i 0)).cell 6).toI)])]
      else
       bif (a0w y1).isSome then
        bif (decide ((w21.length+1)*56≤a1K)&&decide ((w21.length+1)≤a0g)) then
         bnd ((w21++[(.a [(.i ((w4.getD w6.toNat (.i 0)).cell 0).toI),(.i ((w4.getD w6.toNat (.i 0)).cell 1).toI),(.i ((w4.getD w6.toNat (.i 0)).cell 2).toI),(.i ((w4.getD w6.toNat (.i 0)).cell 3).toI),(.i ((w4.getD w6.toNat (.i 0)).cell 4).toI),(.i ((w4.getD w6.toNat (.i 0)).cell 5).toI),(.i ((w4.getD w6.toNat (.i 0)).cell 6).toI)])]):List D) fun y2=>
         kr (IntKind.wrap .i64 (w6+1)) w18 w19 false y2
        else
         none
       else
        none
     else
      none
   else
    none
  else
   none
 else
  k0 (w18,w19,w20,w21)
def b3j (N:Nat) {R:Type} (w0:Int) (w2 w4:LD) (w5:Int) (w8:LD) (w9:LB) (w10 w11:Int) (w15 w17:LD):Nat→Int→Bool→LD→Bool→LD→(Ty8→Option R)→Option R
 |0,_,_,_,_,_,_=>none
 |m+1,w6,w18,w19,w20,w21,k0=>a7N N w0 w2 w4 w5 w8 w9 w10 w11 w15 w17 w6 w18 w19 w20 w21 (fun w6 w18 w19 w20 w21=>b3j N w0 w2 w4 w5 w8 w9 w10 w11 w15 w17 m w6 w18 w19 w20 w21 k0) k0
def b73 (w0:Int) (w2 w4:LD) (w5:Int) (w8:LD) (w9:LB) (w10 w11:Int) (w15 w17:LD) (w6:Int) (w18:Bool) (w19:LD) (w20:Bool) (w21:LD):Option (Ty8):=b3j N (R:=(Ty8)) w0 w2 w4 w5 w8 w9 w10 w11 w15 w17 N w6 w18 w19 w20 w21 some
def d7L:=(d7K N).l1 (c8H N) 15 [6,18,19,20,21] [1,3,5,6,9,10] [3,5,9,10] ⟨[(1,.c (.i .i64)),(3,.c (.p 3 0)),(5,.c (.p 5 0)),(7,.c (.sl 4)),(9,.c (.o 9)),(10,.c (.o 10)),(21,.c (.sl 69)),(22,.c (.i .i64)),(23,.c (.i .i64))],[(3,.box ([.sl 67])),(5,.box (.s::[.i .i64,.i .i64,.sl 69,.sl 95,.sl 9])),(9,.row 51 true),(10,.row 69 true)]⟩ N (fun L x _ kr=>a7N N (li L 0) (ll L 2) (ll L 4) (li L 5) (ll L 8) (ls L 9) (li L 10) (li L 11) (ll L 15) (ll L 17) (li x 0) (lb x 1) (ll x 2) (lb x 3) (ll x 4) (fun w6 w18 w19 w20 w21=>kr [.i w6,.b w18,.l w19,.b w20,.l w21])) (fun L m x=>b3j N (li L 0) (ll L 2) (ll L 4) (li L 5) (ll L 8) (ls L 9) (li L 10) (li L 11) (ll L 15) (ll L 17) m (li x 0) (lb x 1) (ll x 2) (lb x 3) (ll x 4) some) (fun s m L p=>((.exit 0),mg s [1,3,5,9,10] [] [3,5,9,10] [(9,.row 51 true p.1 p.2.1),(10,.row 69 true p.2.2.1 p.2.2.2)])) fun _ _ _ _ _=>by unfold a7N;exact bb
def b3k (w0:Int) (w1:Bool) (w3:LD) (w4:LB) (w5 w6:Int) (w10 w12 w14 w16:LD) (k0:LD→Option R) (k1:Unit→Option R):Option R:=
 bif w1 then
  bnd (d1Y N w3 w0 w4 w6 w10 w12 w16) fun y0=>
  bif y0.isSome then
   bif (decide ((w14.length+1)*104≤a1K)&&decide ((w14.length+1)≤a0g)) then
    bnd ((w14++[(.a [(.s (y0.getD default).1),(.i w5),(.i (y0.getD default).2.1),(.l (y0.getD default).2.2.1 (y0.getD default).2.2.2.1),(.l (y0.getD default).2.2.2.2.1 (y0.getD default).2.2.2.2.2.1),(.l (y0.getD default).2.2.2.2.2.2.1 (y0.getD default).2.2.2.2.2.2.2)])]):List D) fun y1=>
    k0 y1
   else
    none
  else
   none
 else
  k1 ()
def c4w (w0:Int) (w1:Bool) (w3:LD) (w4:LB) (w5 w6:Int) (w10 w12 w14 w16:LD):Option (Sum (LD) (Unit)):=b3k N w0 w1 w3 w4 w5 w6 w10 w12 w14 w16 (fun p=>some (.inl p)) (fun p=>some (.inr p))
def d7M:=(d7L N).c2 (c8H N) 44 100 [9] [9,71] ⟨[(1,.c (.i .i64)),(3,.c (.p 3 0)),(5,.c (.p 5 0)),(9,.c (.o 9)),(10,.c (.o 10)),(63,.c (.b))],[(3,.box ([.sl 67])),(5,.box (.s::[.i .i64,.i .i64,.sl 69,.sl 95,.sl 9])),(9,.row 51 true),(10,.row 69 true)]⟩ (fun L _=>b3k N (li L 0) (lb L 1) (ll L 3) (ls L 4) (li L 5) (li L 6) (ll L 10) (ll L 12) (ll L 14) (ll L 16)) (fun s m L p=>(.normal,⟨[(9,.c (.o 71))],[(71,.row 51 true false p)]⟩)) (fun s m L _=>(.normal,mg s [9] [] [9] [])) fun _ _ _=>by unfold b3k;exact bb
def d1Z (v1:LD) (v2:Int) (v3:LB) (v4 v5:Int) (v7 v9 v11:LD) (k0:Bool×LD→Option R):Option R:=
 bnd (d7B N v1 v2 v4 v5 v7 v11) fun y0=>
 bif y0.isSome then
  bnd (b73 N v2 (y0.getD default).2.1 v7 (v7.length:Int) v1 v3 v4 v5 v9 v11 0 true [] true []) fun y1=>
  bif y1.isSome then
   bnd (c4w N v2 (decide (((y1.getD default).2.2.2.length:Int)>0)) v1 v3 v4 v5 v9 v11 (y1.getD default).2.1 (y1.getD default).2.2.2) fun y2=>
   bif (a1x y2) then
    k0 (false,(a2t y2))
   else
    bif (a0w y2).isSome then
     k0 ((y1.getD default).1,(y1.getD default).2.1)
    else
     none
  else
   none
 else
  none
def d10 (v1:LD) (v2:Int) (v3:LB) (v4 v5:Int) (v7 v9 v11:LD):Option (Bool×LD):=d1Z N v1 v2 v3 v4 v5 v7 v9 v11 some
def e1z:=(d7M N).f1 (c8H N) ⟨[(0,.g ([.sl 67])),(1,.c (.i .i64)),(2,.g (.s::[.i .i64,.i .i64,.sl 69,.sl 95,.sl 9]))],[]⟩ (fun L _=>d1Z N (ll L 1) (li L 2) (ls L 3) (li L 4) (li L 5) (ll L 7) (ll L 9) (ll L 11)) (fun L p=>([.c (.sl 51 p.1 p.2)],[])) fun _ _=>by unfold d1Z;exact bb
def d7N (N:Nat):Sg Tryz.prog 0 16:= .start [(9,[1,3,7,10,11,12],[3,7],[7])] [(0,[0,2,1]),(1,[2,3,1]),(2,[2,7,3,1]),(3,[12,11,10,7,3,1]),(4,[10,12,7,3,1,11]),(5,[7,3,1,9,12,11,10]),(6,[12,11,10,7,3,1]),(7,[7])]
def b42 (w0:Int) (w2:LD) (w3:Int) (w6:LD) (w4:Int) (w7:Bool) (w8:LD) (kr:Int→Bool→LD→Option R) (k0:Bool×LD→Option R):Option R:=
 bif (decide (w4<w3)) then
  bif (inB w4 w2.length) then
   bnd (d10 N w6 w0 ((w2.getD w4.toNat (.i 0)).cell 0).toS ((w2.getD w4.toNat (.i 0)).cell 1).toI ((w2.getD w4.toNat (.i 0)).cell 2).toI ((w2.getD w4.toNat (.i 0)).cell 3).items ((w2.getD w4.toNat (.i 0)).cell 4).items ((w2.getD w4.toNat (.i 0)).cell 5).items) fun y0=>
   bif y0.isSome then
    bif (decide ((w8.length+(y0.getD default).2.length)*104≤a1K)&&decide ((w8.length+(y0.getD default).2.length)≤a0g)) then
     kr (IntKind.wrap .i64 (w4+1)) ((y0.getD default).2.isEmpty&&w7) (w8++(y0.getD default).2)
    else
     none
   else
    none
  else
   none
 else
  k0 (w7,w8)
def a8X (N:Nat) {R:Type} (w0:Int) (w2:LD) (w3:Int) (w6:LD):Nat→Int→Bool→LD→(Bool×LD→Option R)→Option R
 |0,_,_,_,_=>none
 |m+1,w4,w7,w8,k0=>b42 N w0 w2 w3 w6 w4 w7 w8 (fun w4 w7 w8=>a8X N w0 w2 w3 w6 m w4 w7 w8 k0) k0
def c8I (w0:Int) (w2:LD) (w3:Int) (w6:LD) (w4:Int) (w7:Bool) (w8:LD):Option (Bool×LD):=a8X N (R:=(Bool×LD)) w0 w2 w3 w6 N w4 w7 w8 some
def d7O:=(d7N N).l1 (e1z N) 9 [4,7,8] [6,7] [7] ⟨[(1,.c (.i .i64)),(3,.c (.p 3 0)),(7,.c (.o 7)),(10,.c (.sl 51)),(11,.c (.i .i64)),(12,.c (.i .i64))],[(3,.box ([.sl 67])),(7,.row 51 true)]⟩ N (fun L x _ kr=>b42 N (li L 0) (ll L 2) (li L 3) (ll L 6) (li x 0) (lb x 1) (ll x 2) (fun w4 w7 w8=>kr [.i w4,.b w7,.l w8])) (fun L m x=>a8X N (li L 0) (ll L 2) (li L 3) (ll L 6) m (li x 0) (lb x 1) (ll x 2) some) (fun s m L p=>((.exit 0),⟨[(7,.c (.o 7))],[(7,.row 51 true p.1 p.2)]⟩)) fun _ _ _ _ _=>by unfold b42;exact bb
def d11 (v1:LD) (v2:Int) (v4:LD) (k0:Bool×LD→Option R):Option R:=
 bnd (c8I N v2 v4 (v4.length:Int) v1 0 true []) fun y0=>
 bif y0.isSome then
  k0 (y0.getD default)
 else
  none
def c8J (v1:LD) (v2:Int) (v4:LD):Option (Bool×LD):=d11 N v1 v2 v4 some
def e3y:=(d7O N).f1 (e1z N) ⟨[(0,.g ([.sl 67])),(1,.c (.i .i64)),(2,.c (.sl 51))],[]⟩ (fun L _=>d11 N (ll L 1) (li L 2) (ll L 4)) (fun L p=>([.c (.sl 51 p.1 p.2)],[])) fun _ _=>by unfold d11;exact bb
def e1A (N:Nat):Sg Tryz.prog 0 5:= .start [] [(0,[0,1,2]),(1,[3,1,2]),(2,[8,3,1,2]),(3,[8]),(4,[3,1,2])]
def e2Q (v1:LD) (v2:Int) (v4:LD) (k0:Bool×LD×Int→Option R):Option R:=
 bnd (c17 N v1 v2 true v4) fun y0=>
 bif y0.isSome then
  bif ((y0.getD default) !=0) then
   k0 (true,[],(y0.getD default))
  else
   bnd (c8J N v1 v2 v4) fun y1=>
   bif y1.isSome then
    k0 ((y1.getD default).1,(y1.getD default).2,0)
   else
    none
 else
  none
def e3z (v1:LD) (v2:Int) (v4:LD):Option (Bool×LD×Int):=e2Q N v1 v2 v4 some
def e4y:=(e1A N).f1 (e3y N) ⟨[(0,.g ([.sl 67])),(1,.c (.i .i64)),(2,.c (.sl 51))],[]⟩ (fun L _=>e2Q N (ll L 1) (li L 2) (ll L 4)) (fun L p=>([.c (.sl 51 p.1 p.2.1),.c (.i .i64 p.2.2)],[])) fun _ _=>by unfold e2Q;exact bb
def d7P (N:Nat):Sg Tryz.prog 0 81:= .start [] [(0,[0]),(1,[1])]
def e1B (N:Nat) (k0:Unit→R):R:=
 k0 ()
def e3A:=(d7P N).f0 (e4y N) ⟨[(0,.g (.s::[.i .i64,.i .i64,.sl 69,.sl 95,.sl 9]))],[]⟩ (fun L _=>e1B N) (fun L _=>([.c (.f 110 [(1,0)])],[(1,.box [.s (ls L 0),.i .i64 (li L 1),.i .i64 (li L 2),.sl 69 (lb L 3) (ll L 4),.sl 95 (lb L 5) (ll L 6),.sl 9 (lb L 7) (ll L 8)])])) fun _ _=>by unfold e1B;exact kk
def d12 (N:Nat):Sg Tryz.prog 0 111:= .start [] [(0,[0,1,2]),(1,[0,1,2])]
def c4x (N:Nat) (v0 v1 v2:Int) (k0:Bool→R):R:=
 k0 (bif (decide (v0≥v1)) then (decide (v0≤v2)) else false)
def c4y (v0 v1 v2:Int):Bool:=c4x N v0 v1 v2 (fun p=>p)
def e1C:=(d12 N).f0 (e3A N) ⟨[(0,.c (.i .i64)),(1,.c (.i .i64)),(2,.c (.i .i64))],[]⟩ (fun L _=>c4x N (li L 0) (li L 1) (li L 2)) (fun L p=>([.c (.b p)],[])) fun _ _=>by unfold c4x;exact kk
def d13 (N:Nat):Sg Tryz.prog 0 120:= .start [] [(0,[0,1]),(1,[3,2])]
def c4z (N:Nat) (v1 v2 v8 v9:Int) (k0:Int→R):R:=
 bnd (IntKind.wrap .i64 ((IntKind.wrap .i64 (v8-v1))*(IntKind.wrap .i64 (v8-v1)))) fun y0=>
 bnd (IntKind.wrap .i64 ((IntKind.wrap .i64 (v9-v2))*(IntKind.wrap .i64 (v9-v2)))) fun y1=>
 k0 (IntKind.wrap .i64 (y0+y1))
def c8K (v1 v2 v8 v9:Int):Int:=c4z N v1 v2 v8 v9 (fun p=>p)
def c8L:=(d13 N).f0 (e1C N) ⟨[(0,.g (rI 7 ([]))),(1,.g (rI 7 ([])))],[]⟩ (fun L _=>c4z N (li L 1) (li L 2) (li L 8) (li L 9)) (fun L p=>([.c (.i .i64 p)],[])) fun _ _=>by unfold c4z;exact kk
def d14 (N:Nat):Sg Tryz.prog 0 119:= .start [(15,[0,4,5],[],[]),(29,[0,4,5,6,26],[],[])] [(0,[0]),(1,[0]),(2,[]),(3,[0]),(4,[4,0]),(5,[5,4,0]),(7,[4,5,0]),(8,[6,0,5,4]),(9,[6,5,0]),(6,[5,4,0]),(10,[4])]
def a93 (N:Nat) (w1 w3:Int) (w4:Bool) (k0:Int→R):R:=
 bif w4 then
  k0 w3
 else
  k0 w1
def c0x (w1 w3:Int) (w4:Bool):Int:=a93 N w1 w3 w4 (fun p=>p)
def d15:=(d14 N).c0 (c8L N) 29 100 [0,4,5] [] ⟨[(0,.c (.i .i64)),(4,.c (.i .i64)),(5,.c (.i .i64)),(6,.c (.i .i64)),(26,.c (.b))],[]⟩ (fun L _=>a93 N (li L 1) (li L 3) (lb L 4)) (fun s m L p=>(.normal,m [(4,.c (.i .i64 p))] [])) fun _ _=>by unfold a93;exact kk
def a5v (w0:Int) (w1 w2:Int) (kr:Int→Int→Option R) (k0:Int→Option R):Option R:=
 bif (decide (w2>0)) then
  bnd (IntKind.wrap .i64 ((IntKind.wrap .i64 (w1+w2))*(IntKind.wrap .i64 (w1+w2)))) fun y0=>
  bif (bif (!((IntKind.wrap .i64 (w1+w2))==0)) then true else (!((decide (y0>0))==true))) then
   bnd (bif (decide (y0>0)) then (decide ((IntKind.wrap .i64 (w1+w2))≤(IntKind.wrap .i64 (w0.tdiv (IntKind.wrap .i64 (w1+w2)))))) else false) fun y1=>
   bnd (c0x N w1 (IntKind.wrap .i64 (w1+w2)) y1) fun y2=>
   kr y2 (w2.fdiv (2^1))
  else
   none
 else
  k0 w1
def a3B (N:Nat) {R:Type} (w0:Int):Nat→Int→Int→(Int→Option R)→Option R
 |0,_,_,_=>none
 |m+1,w1,w2,k0=>a5v N w0 w1 w2 (fun w1 w2=>a3B N w0 m w1 w2 k0) k0
def c0y (w0:Int) (w1 w2:Int):Option (Int):=a3B N (R:=(Int)) w0 N w1 w2 some
def d16:=(d15 N).l1 (c8L N) 15 [1,2] [2,3,4] [] ⟨[(0,.c (.i .i64)),(4,.c (.i .i64)),(5,.c (.i .i64))],[]⟩ N (fun L x _ kr=>a5v N (li L 0) (li x 0) (li x 1) (fun w1 w2=>kr [.i w1,.i w2])) (fun L m x=>a3B N (li L 0) m (li x 0) (li x 1) some) (fun s m L p=>((.exit 0),⟨[(4,.c (.i .i64 p))],[]⟩)) fun _ _ _ _ _=>by unfold a5v;exact bb
def c4A (v0:Int) (k0:Int×Int→Option R):Option R:=
 bif (decide (v0<0)) then
  k0 (0,1)
 else
  bnd (c0y N v0 0 2147483648) fun y0=>
  bif y0.isSome then
   k0 ((y0.getD default),0)
  else
   none
def c0z (v0:Int):Option (Int×Int):=c4A N v0 some
def e1D:=(d16 N).f1 (c8L N) ⟨[(0,.c (.i .i64))],[]⟩ (fun L _=>c4A N (li L 0)) (fun L p=>([.c (.i .i64 p.1),.c (.i .i64 p.2)],[])) fun _ _=>by unfold c4A;exact bb
def d17 (N:Nat):Sg Tryz.prog 0 112:= .start [] [(0,[0,1]),(1,[2,3]),(2,[5])]
def c4B (v1 v2 v8 v9:Int) (k0:Int→Option R):Option R:=
 bnd (c8K N v1 v2 v8 v9) fun y0=>
 bnd (c0z N y0) fun y1=>
 bif y1.isSome then
  k0 (y1.getD default).1
 else
  none
def d4u (v1 v2 v8 v9:Int):Option (Int):=c4B N v1 v2 v8 v9 some
def d4v:=(d17 N).f1 (e1D N) ⟨[(0,.g (rI 7 ([]))),(1,.g (rI 7 ([])))],[]⟩ (fun L _=>c4B N (li L 1) (li L 2) (li L 8) (li L 9)) (fun L p=>([.c (.i .i64 p)],[])) fun _ _=>by unfold c4B;exact bb
def d7Q (N:Nat):Sg Tryz.prog 0 82:= .start [(6,[2,3,16,17,18],[2,3,16],[])] [(0,[0,1]),(1,[2,3]),(2,[18,17,16,2,3]),(3,[16,18,17,2,3]),(4,[7,18,17,16,2,3]),(5,[]),(6,[18,17,16,2,3]),(7,[2,3])]
def b43 (w0:Int) (w17:LD) (w1:Int) (kr:Int→Option R) (k0:Unit→Option R) (k1:Unit→Option R):Option R:=
 bif (decide (w1<w0)) then
  bif (inB w1 w17.length) then
   bif (decide (w1.toNat<w17.length)) then
    bnd (c4y N (w17.getD w1.toNat (.i 0)).toI (-100000000) 100000000) fun y0=>
    bif (!y0) then
     k0 ()
    else
     kr (IntKind.wrap .i64 (w1+1))
   else
    none
  else
   none
 else
  k1 ()
def b74 (N:Nat) {R:Type} (w0:Int) (w17:LD):Nat→Int→(Unit→Option R)→(Unit→Option R)→Option R
 |0,_,_,_=>none
 |m+1,w1,k0,k1=>b43 N w0 w17 w1 (fun w1=>b74 N w0 w17 m w1 k0 k1) k0 k1
def c18 (w0:Int) (w17:LD) (w1:Int):Option (Sum (Unit) (Unit)):=b74 N (R:=(Sum (Unit) (Unit))) w0 w17 N w1 (fun p=>some (.inl p)) (fun p=>some (.inr p))
def d7R:=(d7Q N).l2 (d4v N) 6 [1] [2,3,4,5] [2,3] ⟨[(2,.c (.p 2 0)),(3,.c (.p 3 0)),(16,.c (.o 16)),(17,.c (.i .i64)),(18,.c (.i .i64))],[(2,.box (rI 7 ([]))),(3,.box (rI 7 ([]))),(16,.row 3 true)]⟩ N (fun L x _ kr=>b43 N (li L 0) (ll L 17) (li x 0) (fun w1=>kr [.i w1])) (fun L m x=>b74 N (li L 0) (ll L 17) m (li x 0) (fun p=>some (.inl p)) (fun p=>some (.inr p))) (fun s m L _=>(.ret,mg s [4,5] [(4,.c (.i .i64 0)),(5,.c (.i .i64 9))] [2,3] [])) (fun s m L _=>((.exit 0),mg s [2,3] [] [2,3] [])) fun _ _ _ _ _ _=>by unfold b43;exact bb
def d18 (v1 v2 v8 v9:Int) (k0:Int×Int→Option R):Option R:=
 bnd (c18 N 4 [(.i v1),(.i v2),(.i v8),(.i v9)] 0) fun y0=>
 bif (a1x y0) then
  k0 (0,9)
 else
  bif (a0w y0).isSome then
   bnd (d4u N v1 v2 v8 v9) fun y1=>
   bif y1.isSome then
    k0 ((y1.getD default),0)
   else
    none
  else
   none
def d7S (v1 v2 v8 v9:Int):Option (Int×Int):=d18 N v1 v2 v8 v9 some
def a8Y:=(d7R N).f1 (d4v N) ⟨[(0,.g (rI 7 ([]))),(1,.g (rI 7 ([])))],[]⟩ (fun L _=>d18 N (li L 1) (li L 2) (li L 8) (li L 9)) (fun L p=>([.c (.i .i64 p.1),.c (.i .i64 p.2)],[])) fun _ _=>by unfold d18;exact bb
def b0P (N:Nat):Sg Tryz.prog 24000000005 48 c3s a4W:= .start [(24050,[5,6,7,8,43],[1,2,50002005,24000000011,24000000012],[]),(45044,[5,6,7,8,10,24,39],[1,2,50002005,24000000011,24000000012],[]),(39038,[5,6,7,8,10,24,35],[1,2,50002005,24000000011,24000000012],[]),(33032,[5,6,7,8,10,24,31],[1,2,50002005,24000000011,24000000012],[]),(57,[5,8,9,10,51,52],[1,2,50002005,24050002005],[50002000]),(63083,[5,8,9,10,11,51,52,74],[1,2,24050002005],[]),(78077,[5,8,9,10,11,51,52,68],[1,2,24050002005],[]),(72071,[5,8,9,10,11,51,52,59],[1,2,24050002005],[])] [(3,[17,18,3,5]),(4,[18,6,3,5]),(5,[7,6,3,5]),(6,[3,6,8,5,7]),(7,[3,6,8,10,5,7]),(9,[24,6,8,10,5,7]),(11,[24,6,8,10,5,7]),(13,[24,6,8,10,5,7]),(15,[24,6,7,8,5]),(8,[7,6,8,5]),(16,[6,7,8,5]),(17,[8,5,9]),(14,[6,8,10,5]),(12,[6,8,10,5]),(10,[6,8,10,5]),(18,[8,10,5,9]),(19,[52,51,8,10,5,9]),(20,[52,8,10,5,51,9]),(22,[8,10,5,52,51,9,11]),(24,[8,5,52,51,10,9,11]),(26,[10,5,9,11,8,52,51]),(21,[5,9,52,51,8,10]),(27,[5,9,11,8,52,51,10]),(25,[5,52,51,8,10,9]),(23,[5,52,51,8,10,9]),(28,[52,51,8,10,5,9])]
def a1m (w1:Bool) (w6 w7 w8 w13 w14 w15:Int) (k0:Int→Option R):Option R:=
 bif w1 then
  bnd (d7S N w6 w7 w13 w14) fun y0=>
  bif y0.isSome then
   k0 (y0.getD default).1
  else
   none
 else
  k0 (max2 (IntKind.wrap .i64 (w15-w8)) 0)
def a3C (w1:Bool) (w6 w7 w8 w13 w14 w15:Int):Option (Int):=a1m N w1 w6 w7 w8 w13 w14 w15 some
def b0Q:=(b0P N).c1 (a8Y N) 24050 100 [5,8,9,10] [1,2,50002005] ⟨[(5,.c (.p 2 0)),(6,.c (.p 24000000011 0)),(7,.c (.p 24000000012 0)),(8,.c (.i .i64)),(43,.c (.b))],[(1,.box ([.i .i64])),(2,.box ([.o 50002005])),(50002005,.row 3 true),(24000000011,.box (rI 7 ([]))),(24000000012,.box (rI 7 ([])))]⟩ (fun L _=>a1m N (lb L 1) (li L 6) (li L 7) (li L 8) (li L 13) (li L 14) (li L 15)) (fun s m L p=>(.normal,m [(9,.c (.i .i64 p)),(10,.c (.b true))] [])) fun _ _=>by unfold a1m;exact bb
def a1n (w1:Bool) (w2:Int) (w3:Bool) (w8 w9 w10 w13 w15 w16 w17:Int) (k0:Int×Bool→Option R):Option R:=
 bif w3 then
  k0 (w13,w1)
 else
  bnd (a3C N (w2==4) w8 w9 w10 w15 w16 w17) fun y0=>
  bif y0.isSome then
   k0 ((y0.getD default),true)
  else
   none
def a3D (w1:Bool) (w2:Int) (w3:Bool) (w8 w9 w10 w13 w15 w16 w17:Int):Option (Int×Bool):=a1n N w1 w2 w3 w8 w9 w10 w13 w15 w16 w17 some
def b0R:=(b0Q N).c1 (a8Y N) 45044 100 [5,8,9,10] [1,2,50002005] ⟨[(5,.c (.p 2 0)),(6,.c (.p 24000000011 0)),(7,.c (.p 24000000012 0)),(8,.c (.i .i64)),(10,.c (.b)),(24,.c (.i .i64)),(39,.c (.b))],[(1,.box ([.i .i64])),(2,.box ([.o 50002005])),(50002005,.row 3 true),(24000000011,.box (rI 7 ([]))),(24000000012,.box (rI 7 ([])))]⟩ (fun L _=>a1n N (lb L 1) (li L 2) (lb L 3) (li L 8) (li L 9) (li L 10) (li L 13) (li L 15) (li L 16) (li L 17)) (fun s m L p=>(.normal,m [(9,.c (.i .i64 p.1)),(10,.c (.b p.2))] [])) fun _ _=>by unfold a1n;exact bb
def a1o (w1:Bool) (w2:Int) (w3:Bool) (w8 w9 w10 w12 w13 w15 w16 w17:Int) (k0:Int×Bool→Option R):Option R:=
 bif w3 then
  k0 (w12,w1)
 else
  bnd (a3D N w1 w2 (w2==3) w8 w9 w10 w13 w15 w16 w17) fun y0=>
  bif y0.isSome then
   k0 (y0.getD default)
  else
   none
def a3E (w1:Bool) (w2:Int) (w3:Bool) (w8 w9 w10 w12 w13 w15 w16 w17:Int):Option (Int×Bool):=a1o N w1 w2 w3 w8 w9 w10 w12 w13 w15 w16 w17 some
def b0S:=(b0R N).c1 (a8Y N) 39038 100 [5,8,9,10] [1,2,50002005] ⟨[(5,.c (.p 2 0)),(6,.c (.p 24000000011 0)),(7,.c (.p 24000000012 0)),(8,.c (.i .i64)),(10,.c (.b)),(24,.c (.i .i64)),(35,.c (.b))],[(1,.box ([.i .i64])),(2,.box ([.o 50002005])),(50002005,.row 3 true),(24000000011,.box (rI 7 ([]))),(24000000012,.box (rI 7 ([])))]⟩ (fun L _=>a1o N (lb L 1) (li L 2) (lb L 3) (li L 8) (li L 9) (li L 10) (li L 12) (li L 13) (li L 15) (li L 16) (li L 17)) (fun s m L p=>(.normal,m [(9,.c (.i .i64 p.1)),(10,.c (.b p.2))] [])) fun _ _=>by unfold a1o;exact bb
def a1p (w1:Bool) (w2:Int) (w3:Bool) (w8 w9 w10 w11 w12 w13 w15 w16 w17:Int) (k0:Int×Bool→Option R):Option R:=
 bif w3 then
  k0 (w11,w1)
 else
  bnd (a3E N w1 w2 (w2==2) w8 w9 w10 w12 w13 w15 w16 w17) fun y0=>
  bif y0.isSome then
   k0 (y0.getD default)
  else
   none
def a1q (w1:Bool) (w2:Int) (w3:Bool) (w8 w9 w10 w11 w12 w13 w15 w16 w17:Int):Option (Int×Bool):=a1p N w1 w2 w3 w8 w9 w10 w11 w12 w13 w15 w16 w17 some
def b0T:=(b0S N).c1 (a8Y N) 33032 100 [5,8,9,10] [1,2,50002005] ⟨[(5,.c (.p 2 0)),(6,.c (.p 24000000011 0)),(7,.c (.p 24000000012 0)),(8,.c (.i .i64)),(10,.c (.b)),(24,.c (.i .i64)),(31,.c (.b))],[(1,.box ([.i .i64])),(2,.box ([.o 50002005])),(50002005,.row 3 true),(24000000011,.box (rI 7 ([]))),(24000000012,.box (rI 7 ([])))]⟩ (fun L _=>a1p N (lb L 1) (li L 2) (lb L 3) (li L 8) (li L 9) (li L 10) (li L 11) (li L 12) (li L 13) (li L 15) (li L 16) (li L 17)) (fun s m L p=>(.normal,m [(9,.c (.i .i64 p.1)),(10,.c (.b p.2))] [])) fun _ _=>by unfold a1p;exact bb
def a1r (N:Nat) (w0 w1 w3:Int) (w6:Bool) (w9:LD) (k0:LD→Option R) (k1:LD→Option R):Option R:=
 bif w6 then
  bif (!(w0==0)) then
   bnd (IntKind.wrap .i64 ((IntKind.wrap .i64 (w1*(IntKind.wrap .i64 (w3+1)))).tdiv w0)) fun y0=>
   bif (!(w0==0)) then
    bnd (IntKind.wrap .i64 (y0-(IntKind.wrap .i64 ((IntKind.wrap .i64 (w1*w3)).tdiv w0)))) fun y1=>
    bif (decide ((w9.length+1)*8≤a1K)&&decide ((w9.length+1)≤a0g)) then
     k0 (w9++[(.i y1)])
    else
     none
   else
    none
  else
   none
 else
  bif (decide ((w9.length+1)*8≤a1K)&&decide ((w9.length+1)≤a0g)) then
   k1 (w9++[(.i w1)])
  else
   none
def a3F (w0 w1 w3:Int) (w6:Bool) (w9:LD):Option (Sum (LD) (LD)):=a1r N w0 w1 w3 w6 w9 (fun p=>some (.inl p)) (fun p=>some (.inr p))
def b0U:=(b0T N).c2 (a8Y N) 63083 100 [5,8,9,10,51,52] [1,2,24000000063,24000000095] ⟨[(5,.c (.p 2 0)),(8,.c (.i .i64)),(9,.c (.i .i64)),(10,.c (.b)),(11,.c (.i .i64)),(51,.c (.i .i64)),(52,.c (.i .i64)),(74,.c (.b))],[(1,.box ([.i .i64])),(2,.box ([.o 24050002005])),(24050002005,.row 3 true)]⟩ (fun L _=>a1r N (li L 0) (li L 1) (li L 3) (lb L 6) (ll L 9)) (fun s m L p=>(.normal,mg s [5,8,9,10,51,52] [] [1,2,24000000095] [(2,.box [.o 24000000095]),(24000000095,.row 3 true false p)])) (fun s m L p=>(.normal,mg s [5,8,9,10,51,52] [] [1,2,24000000063] [(2,.box [.o 24000000063]),(24000000063,.row 3 true false p)])) fun _ _ _=>by unfold a1r;exact bb
def a1s (w0 w1:Int) (w2:Bool) (w3:Int) (w6:Bool) (w9:LD) (k0:LD→Option R) (k1:LD→Option R) (k2:LD→Option R):Option R:=
 bif w6 then
  bif (decide ((w9.length+1)*8≤a1K)&&decide ((w9.length+1)≤a0g)) then
   k0 (w9++[(.i (-1))])
  else
   none
 else
  bnd (a3F N w0 w1 w3 w2 w9) fun y0=>
  bif (a1x y0) then
   k1 (a2t y0)
  else
   bif (a0w y0).isSome then
    k2 ((a0w y0).getD default)
   else
    none
def a3G (w0 w1:Int) (w2:Bool) (w3:Int) (w6:Bool) (w9:LD):Option (Sum (LD) (Sum (LD) (LD))):=a1s N w0 w1 w2 w3 w6 w9 (fun p=>some (.inl p)) (fun p=>some (.inr (.inl p))) (fun p=>some (.inr (.inr p)))
def a5w:=(b0U N).c3 (a8Y N) 78077 100 [5,8,9,10,51,52] [1,2,24000000063,24000000078,24000000095] ⟨[(5,.c (.p 2 0)),(8,.c (.i .i64)),(9,.c (.i .i64)),(10,.c (.b)),(11,.c (.i .i64)),(51,.c (.i .i64)),(52,.c (.i .i64)),(68,.c (.b))],[(1,.box ([.i .i64])),(2,.box ([.o 24050002005])),(24050002005,.row 3 true)]⟩ (fun L _=>a1s N (li L 0) (li L 1) (lb L 2) (li L 3) (lb L 6) (ll L 9)) (fun s m L p=>(.normal,mg s [5,8,9,10,51,52] [] [1,2,24000000078] [(2,.box [.o 24000000078]),(24000000078,.row 3 true false p)])) (fun s m L p=>(.normal,mg s [5,8,9,10,51,52] [] [1,2,24000000095] [(2,.box [.o 24000000095]),(24000000095,.row 3 true false p)])) (fun s m L p=>(.normal,mg s [5,8,9,10,51,52] [] [1,2,24000000063] [(2,.box [.o 24000000063]),(24000000063,.row 3 true false p)])) fun _ _ _ _=>by unfold a1s;exact bb
def a0U (w0 w1:Int) (w2:Bool) (w3:Int) (w6:Bool) (w9:LD) (k0:LD→Option R) (k1:LD→Option R) (k2:LD→Option R) (k3:LD→Option R):Option R:=
 bif w6 then
  bif (decide ((w9.length+1)*8≤a1K)&&decide ((w9.length+1)≤a0g)) then
   k0 (w9++[(.i 0)])
  else
   none
 else
  bnd (a3G N w0 w1 w2 w3 (decide (w0>60)) w9) fun y0=>
  bif (a1x y0) then
   k1 (a2t y0)
  else
   bif (a1x (a0w y0)) then
    k2 (a2t (a0w y0))
   else
    bif (a0w (a0w y0)).isSome then
     k3 ((a0w (a0w y0)).getD default)
    else
     none
def a1t (w0 w1:Int) (w2:Bool) (w3:Int) (w6:Bool) (w9:LD):Option (Sum (LD) (Sum (LD) (Sum (LD) (LD)))):=a0U N w0 w1 w2 w3 w6 w9 (fun p=>some (.inl p)) (fun p=>some (.inr (.inl p))) (fun p=>some (.inr (.inr (.inl p)))) (fun p=>some (.inr (.inr (.inr p))))
theorem a5x (w0 w1:Int) (w2:Bool) (w3:Int) (w6:Bool) (w9:LD) (k0:LD→Option R) (k1:LD→Option R) (k2:LD→Option R) (k3:LD→Option R):a0U N w0 w1 w2 w3 w6 w9 k0 k1 k2 k3=(a1t N w0 w1 w2 w3 w6 w9).bind (b94 k0 (b94 k1 (b94 k2 k3))):=by
 unfold a1t a0U
 repeat' (first|with_reducible apply a6P|(with_reducible apply b4G;intro _)|rfl)
def a3H (L:List Lf) (k0:LD→Option R) (k1:LD→Option R) (k2:LD→Option R) (k3:LD→Option R):Option R:=a0U N (li L 0) (li L 1) (lb L 2) (li L 3) (lb L 6) (ll L 9) k0 k1 k2 k3
def a0Q:Sh:={tmps:=[(5,.c (.p 2 0)),(8,.c (.i .i64)),(9,.c (.i .i64)),(10,.c (.b)),(11,.c (.i .i64)),(51,.c (.i .i64)),(52,.c (.i .i64)),(59,.c (.b))],mem:=[(1,.box ([.i .i64])),(2,.box ([.o 24050002005])),(24050002005,.row 3 true)]}
def a2Y (L:List Lf) (p:LD):Ex×St:=(.normal,mg (a2w a0Q L) [5,8,9,10,51,52] [] [1,2,24000000072] [(2,.box [.o 24000000072]),(24000000072,.row 3 true false p)])
def a2Z (L:List Lf) (p:LD):Ex×St:=(.normal,mg (a2w a0Q L) [5,8,9,10,51,52] [] [1,2,24000000078] [(2,.box [.o 24000000078]),(24000000078,.row 3 true false p)])
def a20 (L:List Lf) (p:LD):Ex×St:=(.normal,mg (a2w a0Q L) [5,8,9,10,51,52] [] [1,2,24000000095] [(2,.box [.o 24000000095]),(24000000095,.row 3 true false p)])
def a21 (L:List Lf) (p:LD):Ex×St:=(.normal,mg (a2w a0Q L) [5,8,9,10,51,52] [] [1,2,24000000063] [(2,.box [.o 24000000063]),(24000000063,.row 3 true false p)])
def a6V (L:List Lf):List (Bool×(Ex×St)):=bnd (a3H N L (fun p=>some (.inl p)) (fun p=>some (.inr (.inl p))) (fun p=>some (.inr (.inr (.inl p)))) (fun p=>some (.inr (.inr (.inr p))))) fun q=>[((a1x q),a2Y L (a2t q)),((a1x (a0w q)),a2Z L (a2t (a0w q))),((a1x (a0w (a0w q))),a20 L (a2t (a0w (a0w q)))),((a0w (a0w (a0w q))).isSome,a21 L ((a0w (a0w (a0w q))).getD default))]
theorem a52 (L:List Lf):pc Tryz.prog (a8Y N).o (a5w N).h 24000000005 100 48 72071 a0Q L [5,8,9,10,51,52] [1,2,24000000063,24000000072,24000000078,24000000095]=a3H N L (fun p=>some (a2Y L p)) (fun p=>some (a2Z L p)) (fun p=>some (a20 L p)) (fun p=>some (a21 L p)):=by kernel_rfl
def b0V:Sg Tryz.prog 24000000005 48 c3s a4W:=
 (a5w N).cut (a6V N) a8w (a8Y N).ok fun L x hx=>(a52 N L).trans ((a5x N ..).trans ((c9M (c9M (c9M b95))) x hx))
def a1u (w0 w1:Int) (w2:Bool) (w3:Int) (w4:Int) (w6:Bool) (w7:LD) (kr:Int→Bool→LD→Option R) (k0:Bool×LD→Option R):Option R:=
 bif (decide (w4<w3)) then
  bnd (a1t N w0 w1 w2 w4 (bif (decide (w0>60)) then w2 else false) w7) fun y0=>
  bif (a1x y0) then
   kr (IntKind.wrap .i64 (w4+1)) false (a2t y0)
  else
   bif (a1x (a0w y0)) then
    kr (IntKind.wrap .i64 (w4+1)) false (a2t (a0w y0))
   else
    bif (a1x (a0w (a0w y0))) then
     kr (IntKind.wrap .i64 (w4+1)) false (a2t (a0w (a0w y0)))
    else
     bif (a0w (a0w (a0w y0))).isSome then
      kr (IntKind.wrap .i64 (w4+1)) false ((a0w (a0w (a0w y0))).getD default)
     else
      none
 else
  k0 (w6,w7)
def a0Y (N:Nat) {R:Type} (w0 w1:Int) (w2:Bool) (w3:Int):Nat→Int→Bool→LD→(Bool×LD→Option R)→Option R
 |0,_,_,_,_=>none
 |m+1,w4,w6,w7,k0=>a1u N w0 w1 w2 w3 w4 w6 w7 (fun w4 w6 w7=>a0Y N w0 w1 w2 w3 m w4 w6 w7 k0) k0
def a4Q (w0 w1:Int) (w2:Bool) (w3:Int) (w4:Int) (w6:Bool) (w7:LD):Option (Bool×LD):=a0Y N (R:=(Bool×LD)) w0 w1 w2 w3 N w4 w6 w7 some
def a5y:=(b0V N).l1 (a8Y N) 57 [4,6,7] [] [1,2,24050002005] ⟨[(5,.c (.p 2 0)),(8,.c (.i .i64)),(9,.c (.i .i64)),(10,.c (.b)),(51,.c (.i .i64)),(52,.c (.i .i64))],[(1,.box ([.i .i64])),(2,.box ([.o 24050002005])),(24050002005,.row 3 true)]⟩ N (fun L x _ kr=>a1u N (li L 0) (li L 1) (lb L 2) (li L 3) (li x 0) (lb x 1) (ll x 2) (fun w4 w6 w7=>kr [.i w4,.b w6,.l w7])) (fun L m x=>a0Y N (li L 0) (li L 1) (lb L 2) (li L 3) m (li x 0) (lb x 1) (ll x 2) some) (fun s m L p=>((.exit 3),m [] [(24050002005,.row 3 true p.1 p.2)])) fun _ _ _ _ _=>by unfold a1u;exact bb
def a3U:a1C:=rfY (a0S Tryz.prog 48 600000010) [] 4 23 (a5y N).h
def a23:a1C:={(a3U N) with tm:=[(3,.c (.p 1 0)),(5,.c (.p 2 0))]}
def d19:Sg Tryz.prog 5 110 (b87 ((a23 N))):= .start [(3,[0,1,3],[0,1,2,3,4,50002005],[50002000]),(10,[0,1,3],[0,1,2,4,50002005],[])] [(0,[1,0]),(1,[3,1,0]),(3,[0,1,3]),(2,[3,1,0])]
def a6W (w0:Int) (w5:LD) (w10:Int) (w13:Bool) (w14:LD) (k0:Bool×LD→Option R):Option R:=
 bif (inB (IntKind.wrap .i64 (w0-1)) w5.length) then
  bnd ((w5.getD (IntKind.wrap .i64 (w0-1)).toNat (.i 0)).cell 0).toI fun y0=>
  bnd ((w5.getD (IntKind.wrap .i64 (w0-1)).toNat (.i 0)).cell 1).toI fun y1=>
  bnd ((w5.getD (IntKind.wrap .i64 (w0-1)).toNat (.i 0)).cell 2).toI fun y2=>
  bnd ((w5.getD (IntKind.wrap .i64 (w0-1)).toNat (.i 0)).cell 3).toI fun y3=>
  bnd ((w5.getD (IntKind.wrap .i64 (w0-1)).toNat (.i 0)).cell 4).toI fun y4=>
  bnd ((w5.getD (IntKind.wrap .i64 (w0-1)).toNat (.i 0)).cell 5).toI fun y5=>
  bnd ((w5.getD (IntKind.wrap .i64 (w0-1)).toNat (.i 0)).cell 6).toI fun y6=>
  bif (inB w0 w5.length) then
   bnd (IntKind.wrap .i64 (((w5.getD w0.toNat (.i 0)).cell 0).toI-y0)) fun y7=>
   bnd (a1q N false w10 (w10==1) y1 y2 y3 y4 y5 y6 ((w5.getD w0.toNat (.i 0)).cell 1).toI ((w5.getD w0.toNat (.i 0)).cell 2).toI ((w5.getD w0.toNat (.i 0)).cell 3).toI) fun y8=>
   bif y8.isSome then
    bnd (a4Q N y7 (y8.getD default).1 (y8.getD default).2 y7 0 w13 w14) fun y9=>
    bif y9.isSome then
     k0 (y9.getD default)
    else
     none
   else
    none
  else
   none
 else
  none
def a6X (w0:Int) (w5:LD) (w10:Int) (w13:Bool) (w14:LD):Option (Bool×LD):=a6W N w0 w5 w10 w13 w14 some
theorem c0A (w0:Int) (w5:LD) (w10:Int) (w13:Bool) (w14:LD) (k0:Bool×LD→Option R):a6W N w0 w5 w10 w13 w14 k0=(a6X N w0 w5 w10 w13 w14).bind k0:=by
 unfold a6X a6W
 repeat' (first|with_reducible apply a6P|(with_reducible apply b4G;intro _)|rfl)
def c0B (L:List Lf) (k0:Bool×LD→Option R):Option R:=a6W N (li L 0) (ll L 5) (li L 10) (lb L 13) (ll L 14) k0
def b6z:Sh:={tmps:=[(0,.c (.y 4)),(1,.c (.p 0 0)),(3,.c (.i .i64))],mem:=[(0,.box (.s::[.i .i64,.i .i64,.sl 69,.sl 95,.sl 9])),(1,.box ([.i .i64])),(2,.box ([.o 50002005])),(4,.row 3 true),(50002005,.row 3 true)]}
def b44 (L:List Lf) (p:Bool×LD):Ex×St:=(.normal,mg (a2w b6z L) [0,1,3,24] [(24,.c (.b false))] [0,1,2,4,24050002005] [(2,.box [.o 24050002005]),(24050002005,.row 3 true p.1 p.2)])
def c8M (L:List Lf):List (Bool×(Ex×St)):=bnd (c0B N L some) fun q=>[(q.isSome,b44 L (q.getD default))]
theorem c19 (L:List Lf):pcY Tryz.prog (a8Y N).o 5 ((a23 N)) 110 10 b6z L [0,1,3,24] [0,1,2,4,24050002005]=c0B N L (fun p=>some (b44 L p)):=by kernel_rfl
def d2a:Sg Tryz.prog 5 110 (b87 ((a23 N))):=
 (d19 N).cutY (c8M N) a8w (a8Y N).ok (e3d 600000010 23 (a5y N) (by kernel_rfl) (by kernel_rfl)) fun L x hx=>(c19 N L).trans ((c0A N ..).trans (b95 x hx))
def a94 (w5:LD) (w10:Int) (w0:Int) (w13:Bool) (w14:LD) (kr:Int→Bool→LD→Option R) (k0:Bool×LD→Option R):Option R:=
 bif (decide (w0<(w5.length:Int))) then
  bnd (a6X N w0 w5 w10 w13 w14) fun y0=>
  bif y0.isSome then
   kr (IntKind.wrap .i64 (w0+1)) (y0.getD default).1 (y0.getD default).2
  else
   none
 else
  k0 (w13,w14)
def a7O (N:Nat) {R:Type} (w5:LD) (w10:Int):Nat→Int→Bool→LD→(Bool×LD→Option R)→Option R
 |0,_,_,_,_=>none
 |m+1,w0,w13,w14,k0=>a94 N w5 w10 w0 w13 w14 (fun w0 w13 w14=>a7O N w5 w10 m w0 w13 w14 k0) k0
def b75 (w5:LD) (w10:Int) (w0:Int) (w13:Bool) (w14:LD):Option (Bool×LD):=a7O N (R:=(Bool×LD)) w5 w10 N w0 w13 w14 some
def c4C:=(d2a N).l1 (a8Y N) 3 [0,13,14] [] [0,1,2,4,50002005] ⟨[(0,.c (.y 4)),(1,.c (.p 0 0)),(3,.c (.i .i64))],[(0,.box (.s::[.i .i64,.i .i64,.sl 69,.sl 95,.sl 9])),(1,.box ([.i .i64])),(2,.box ([.o 50002005])),(4,.row 3 true),(50002005,.row 3 true)]⟩ N (fun L x _ kr=>a94 N (ll L 5) (li L 10) (li x 0) (lb x 1) (ll x 2) (fun w0 w13 w14=>kr [.i w0,.b w13,.l w14])) (fun L m x=>a7O N (ll L 5) (li L 10) m (li x 0) (lb x 1) (ll x 2) some) (fun s m L p=>((.exit 0),m [] [(50002005,.row 3 true p.1 p.2)])) fun _ _ _ _ _=>by unfold a94;exact bb
def c0C (v4:LD) (v9:Int) (v10:Bool) (v11:LD) (k0:Bool×LD→Option R):Option R:=
 bnd (b75 N v4 v9 1 v10 v11) fun y0=>
 bif y0.isSome then
  k0 (y0.getD default)
 else
  none
def c4D (v4:LD) (v9:Int) (v10:Bool) (v11:LD):Option (Bool×LD):=c0C N v4 v9 v10 v11 some
theorem c8N (v4:LD) (v9:Int) (v10:Bool) (v11:LD) (k0:Bool×LD→Option R):c0C N v4 v9 v10 v11 k0=(c4D N v4 v9 v10 v11).bind k0:=by
 unfold c4D c0C
 repeat' (first|with_reducible apply a6P|(with_reducible apply b4G;intro _)|rfl)
def d4w (L:List Lf) (k0:Bool×LD→Option R):Option R:=c0C N (ll L 4) (li L 9) (lb L 10) (ll L 11) k0
def b76:Sh:={tmps:=[(0,.c (.y 4)),(1,.c (.p 0 0)),(3,.c (.p 1 0)),(5,.c (.p 2 0))],mem:=[(0,.box (.s::[.i .i64,.i .i64,.sl 69,.sl 95,.sl 9])),(1,.box ([.i .i64])),(2,.box ([.o 3])),(3,.row 3 true),(4,.row 3 true)]}
def c4E (L:List Lf) (p:Bool×LD):Res:=([],mgA (a2w b76 L).mem [(2,.box [.o 50002005]),(50002005,.row 3 true p.1 p.2)] [0,1,2,4,50002005])
def d4x (L:List Lf):List (Bool×Res):=bnd (d4w N L some) fun q=>[(q.isSome,c4E L (q.getD default))]
theorem d2b (L:List Lf):bdY Tryz.prog (a8Y N).o ((c4C N)).h 110 2 b76 L=d4w N L (fun p=>some (c4E L p)):=by kernel_rfl
theorem d7T:d0z (a3U N) Tryz.prog 110 2 b76 (d4x N):=
 Sg.fnY (fun L=>(a23 N)) (fun L=>(c4C N)) (fun L=>by kernel_rfl) a8w (a8Y N).ok fun L x hx=>((d2b N L).trans ((c8N N ..).trans (b95 x hx)))
def d7U (N:Nat):Sg Tryz.prog 0 48:= .start [(600000010,[3,5,16],[3,5,14,17000000001],[])] [(0,[0,1]),(1,[2,3]),(2,[2,5,3]),(29,[5])]
def a2o (w0:Int) (w1:Bool) (w2 w7:LD) (k0:Bool×LD→Option R):Option R:=
 bnd (c4D N w7 w0 w1 w2) fun y0=>
 bif y0.isSome then
  k0 (y0.getD default)
 else
  none
def a26 (w0:Int) (w1:Bool) (w2 w7:LD):Option (Bool×LD):=a2o N w0 w1 w2 w7 some
theorem a95 (w0:Int) (w1:Bool) (w2 w7:LD) (k0:Bool×LD→Option R):a2o N w0 w1 w2 w7 k0=(a26 N w0 w1 w2 w7).bind k0:=by
 unfold a26 a2o
 repeat' (first|with_reducible apply a6P|(with_reducible apply b4G;intro _)|rfl)
def a6Y (L:List Lf) (k0:Bool×LD→Option R):Option R:=a2o N (li L 0) (lb L 1) (ll L 2) (ll L 7) k0
def a5z (L:List Lf) (p:Bool×LD):Ex×St:=(.normal,⟨[(5,.c (.p 5 0))],[(5,.box [.o 1000000050002005]),(1000000050002005,.row 3 true p.1 p.2)]⟩)
def b45 (L:List Lf):List (Bool×(Ex×St)):=bnd (a6Y N L some) fun q=>[(q.isSome,a5z L (q.getD default))]
theorem b0W (L:List Lf):pcR Tryz.prog (a3U N) [3,5] (spY 2 b76 (d4x N)) 110 3 0 48 600000010 ⟨[(3,.c (.p 3 0)),(5,.c (.p 5 0)),(16,.c (.f 110 [(17000000001,0)]))],[(3,.box ([.i .i64])),(5,.box ([.o 14])),(14,.row 3 true),(17000000001,.box (.s::[.i .i64,.i .i64,.sl 69,.sl 95,.sl 9]))]⟩ L [5] [5,1000000050002005]=a6Y N L (fun p=>some (a5z L p)):=by kernel_rfl
def d7V:Sg Tryz.prog 0 48:=
 (d7U N).rf (g:= .tmp 16) (b45 N) (d7T N) (fun L x hx=>(b0W N L).trans ((a95 N ..).trans (b95 x hx))) (by kernel_rfl)
def d2c (v4:LD) (v9:Int) (k0:Bool×LD→Option R):Option R:=
 bnd (b5Q N v4) fun y0=>
 bif y0.isSome then
  bif ((decide (0≤(y0.getD default)))&&(decide ((y0.getD default).toNat*8≤a1K)&&decide ((y0.getD default).toNat≤a0g))) then
   bnd (a26 N v9 false [] v4) fun y1=>
   bif y1.isSome then
    k0 (y1.getD default)
   else
    none
  else
   none
 else
  none
def c0D (v4:LD) (v9:Int):Option (Bool×LD):=d2c N v4 v9 some
def e3B:=(d7V N).f1 (a8Y N) ⟨[(0,.g (.s::[.i .i64,.i .i64,.sl 69,.sl 95,.sl 9])),(1,.c (.i .i64))],[]⟩ (fun L _=>d2c N (ll L 4) (li L 9)) (fun L p=>([.c (.sl 3 p.1 p.2)],[])) fun _ _=>by unfold d2c;exact bb
def d7W (N:Nat):Sg Tryz.prog 0 40:= .start [] [(0,[0]),(1,[1,2]),(2,[1,3,2]),(3,[4,1,3,2]),(5,[4,1,3,2]),(4,[4,1,3,2]),(6,[3,2])]
def d2d (v4:LD) (k0:Ty0→Option R):Option R:=
 bnd (c0D N v4 1) fun y0=>
 bif y0.isSome then
  bnd (c0D N v4 2) fun y1=>
  bif y1.isSome then
   bnd (c0D N v4 3) fun y2=>
   bif y2.isSome then
    bnd (c0D N v4 4) fun y3=>
    bif y3.isSome then
     bnd (c0D N v4 5) fun y4=>
     bif y4.isSome then
      k0 ((y0.getD default).1,(y0.getD default).2,(y1.getD default).1,(y1.getD default).2,(y2.getD default).1,(y2.getD default).2,(y3.getD default).1,(y3.getD default).2,(y4.getD default).1,(y4.getD default).2)
     else
      none
    else
     none
   else
    none
  else
   none
 else
  none
def d7X (v4:LD):Option (Ty0):=d2d N v4 some
def d7Y:=(d7W N).f1 (e3B N) ⟨[(0,.g (.s::[.i .i64,.i .i64,.sl 69,.sl 95,.sl 9]))],[]⟩ (fun L _=>d2d N (ll L 4)) (fun L p=>let p1:=p.2;let p2:=p1.2;let p3:=p2.2;let p4:=p3.2;let p5:=p4.2;let p6:=p5.2;let p7:=p6.2;let p8:=p7.2;let p9:=p8.2;([.g [.sl 3 true [],.sl 3 p.1 p1.1,.sl 3 p2.1 p3.1,.sl 3 p4.1 p5.1,.sl 3 p6.1 p7.1,.sl 3 p8.1 p9]],[])) fun _ _=>by unfold d2d;exact bb
def d7Z (N:Nat):Sg Tryz.prog 0 76:= .start [(6,[2,3,6,7,8],[],[]),(17,[2,3,5,6,7,8,13],[],[])] [(0,[0]),(1,[0,2,3]),(2,[8,7,6,2,3]),(3,[6,8,2,3,7]),(4,[5,2,3,8,7,6]),(5,[2,5,3,8,7,6]),(6,[8,7,6,2,3]),(7,[2,3])]
def b77 (N:Nat) (w0 w1 w2:Int) (w7:Bool) (k0:Int×Int→R):R:=
 bif w7 then
  k0 ((IntKind.wrap .i64 (w0+w2)),(IntKind.wrap .i64 (w1+1)))
 else
  k0 (w0,w1)
def b78 (w0 w1 w2:Int) (w7:Bool):Int×Int:=b77 N w0 w1 w2 w7 (fun p=>p)
def d70:=(d7Z N).c0 (d7Y N) 17 100 [2,3,6,7,8] [] ⟨[(2,.c (.i .i64)),(3,.c (.i .i64)),(5,.c (.i .i64)),(6,.c (.sl 3)),(7,.c (.i .i64)),(8,.c (.i .i64)),(13,.c (.b))],[]⟩ (fun L _=>b77 N (li L 0) (li L 1) (li L 2) (lb L 7)) (fun s m L p=>(.normal,m [(2,.c (.i .i64 p.1)),(3,.c (.i .i64 p.2))] [])) fun _ _=>by unfold b77;exact kk
def b46 (w3:LD) (w4:Int) (w0 w1 w5:Int) (kr:Int→Int→Int→Option R) (k0:Int×Int→Option R):Option R:=
 bif (decide (w5<w4)) then
  bif (inB w5 w3.length) then
   bnd (b78 N w0 w1 (w3.getD w5.toNat (.i 0)).toI (decide ((w3.getD w5.toNat (.i 0)).toI≥0))) fun y0=>
   kr y0.1 y0.2 (IntKind.wrap .i64 (w5+1))
  else
   none
 else
  k0 (w0,w1)
def b0X (N:Nat) {R:Type} (w3:LD) (w4:Int):Nat→Int→Int→Int→(Int×Int→Option R)→Option R
 |0,_,_,_,_=>none
 |m+1,w0,w1,w5,k0=>b46 N w3 w4 w0 w1 w5 (fun w0 w1 w5=>b0X N w3 w4 m w0 w1 w5 k0) k0
def c8O (w3:LD) (w4:Int) (w0 w1 w5:Int):Option (Int×Int):=b0X N (R:=(Int×Int)) w3 w4 N w0 w1 w5 some
def d71:=(d70 N).l1 (d7Y N) 6 [0,1,5] [2,3] [] ⟨[(2,.c (.i .i64)),(3,.c (.i .i64)),(6,.c (.sl 3)),(7,.c (.i .i64)),(8,.c (.i .i64))],[]⟩ N (fun L x _ kr=>b46 N (ll L 3) (li L 4) (li x 0) (li x 1) (li x 2) (fun w0 w1 w5=>kr [.i w0,.i w1,.i w5])) (fun L m x=>b0X N (ll L 3) (li L 4) m (li x 0) (li x 1) (li x 2) some) (fun s m L p=>((.exit 0),⟨[(2,.c (.i .i64 p.1)),(3,.c (.i .i64 p.2))],[]⟩)) fun _ _ _ _ _=>by unfold b46;exact bb
def d2e (v1:LD) (k0:Int×Int→Option R):Option R:=
 bnd (c8O N v1 (v1.length:Int) 0 0 0) fun y0=>
 bif y0.isSome then
  k0 (y0.getD default)
 else
  none
def c2a (v1:LD):Option (Int×Int):=d2e N v1 some
def e3C:=(d71 N).f1 (d7Y N) ⟨[(0,.c (.sl 3))],[]⟩ (fun L _=>d2e N (ll L 1)) (fun L p=>([.c (.i .i64 p.1),.c (.i .i64 p.2)],[])) fun _ _=>by unfold d2e;exact bb
def d72 (N:Nat):Sg Tryz.prog 0 39:= .start [] [(0,[0,1,2]),(1,[1,2,3,6]),(2,[3,1,2,7,6]),(3,[3,1,2,7,6]),(4,[3,1,2,7,6]),(5,[3,1,2,7,6]),(6,[3,1,2,7,6]),(7,[7,6])]
def d2f (v3 v5 v7 v9 v11:LD) (v12 v13:Int) (k0:Ty7→Option R):Option R:=
 bif (((decide (0≤v12))&&(decide (v12≤v13)))&&(decide (v13≤(v3.length:Int)))) then
  bnd (c2a N ((v3.take v13.toNat).drop v12.toNat)) fun y0=>
  bif y0.isSome then
   bif (((decide (0≤v12))&&(decide (v12≤v13)))&&(decide (v13≤(v5.length:Int)))) then
    bnd (c2a N ((v5.take v13.toNat).drop v12.toNat)) fun y1=>
    bif y1.isSome then
     bif (((decide (0≤v12))&&(decide (v12≤v13)))&&(decide (v13≤(v7.length:Int)))) then
      bnd (c2a N ((v7.take v13.toNat).drop v12.toNat)) fun y2=>
      bif y2.isSome then
       bif (((decide (0≤v12))&&(decide (v12≤v13)))&&(decide (v13≤(v9.length:Int)))) then
        bnd (c2a N ((v9.take v13.toNat).drop v12.toNat)) fun y3=>
        bif y3.isSome then
         bif (((decide (0≤v12))&&(decide (v12≤v13)))&&(decide (v13≤(v11.length:Int)))) then
          bnd (c2a N ((v11.take v13.toNat).drop v12.toNat)) fun y4=>
          bif y4.isSome then
           k0 ((y3.getD default).1,(y4.getD default).1,(y0.getD default).1,(y1.getD default).1,(y2.getD default).1,(y0.getD default).2,(y1.getD default).2,(y2.getD default).2)
          else
           none
         else
          none
        else
         none
       else
        none
      else
       none
     else
      none
    else
     none
   else
    none
  else
   none
 else
  none
def d73 (v3 v5 v7 v9 v11:LD) (v12 v13:Int):Option (Ty7):=d2f N v3 v5 v7 v9 v11 v12 v13 some
def e1E:=(d72 N).f1 (e3C N) ⟨[(0,.g ([.sl 3,.sl 3,.sl 3,.sl 3,.sl 3,.sl 3])),(1,.c (.i .i64)),(2,.c (.i .i64))],[]⟩ (fun L _=>d2f N (ll L 3) (ll L 5) (ll L 7) (ll L 9) (ll L 11) (li L 12) (li L 13)) (fun L p=>let p1:=p.2;let p2:=p1.2;let p3:=p2.2;let p4:=p3.2;let p5:=p4.2;let p6:=p5.2;let p7:=p6.2;([.g [.i .i64 (li L 12),.i .i64 (li L 13),.i .i64 p.1,.i .i64 p1.1,.i .i64 p2.1,.i .i64 p3.1,.i .i64 p4.1,.i .i64 p5.1,.i .i64 p6.1,.i .i64 p7]],[])) fun _ _=>by unfold d2f;exact bb
def d74 (N:Nat):Sg Tryz.prog 0 17:= .start [(13,[1,2,3,6],[3,6],[])] [(0,[0,1,2]),(1,[3,6,1,2]),(2,[8,6,1,2,3]),(3,[8,6]),(4,[1,2,3,6]),(5,[6]),(6,[3,1,2,6])]
def b3l (w0 w1:Int) (w6:LD) (k0:Bool→Option R):Option R:=
 bif (bif (decide (w0<0)) then true else (decide (w0>w1))) then
  k0 true
 else
  bnd (b5Q N w6) fun y0=>
  bif y0.isSome then
   k0 (decide (w1>(y0.getD default)))
  else
   none
def b79 (w0 w1:Int) (w6:LD):Option (Bool):=b3l N w0 w1 w6 some
def d75:=(d74 N).c1 (e1E N) 13 100 [1,2,3,6,27] [3,6] ⟨[(1,.c (.i .i64)),(2,.c (.i .i64)),(3,.c (.p 3 0)),(6,.c (.p 6 0))],[(3,.box (.s::[.i .i64,.i .i64,.sl 69,.sl 95,.sl 9])),(6,.box (rI 10 ([])))]⟩ (fun L _=>b3l N (li L 0) (li L 1) (ll L 6)) (fun s m L p=>(.normal,m [(27,.c (.b p))] [])) fun _ _=>by unfold b3l;exact bb
def d2g (v0:LB) (v1 v2:Int) (v4 v6 v8:LD) (v9 v10:Int) (k0:Ty4→Option R):Option R:=
 bnd (c1Z N v0 v1 v2 v4 v6 v8) fun y0=>
 bif y0.isSome then
  bif ((y0.getD default) !=0) then
   k0 (0,0,0,0,0,0,0,0,0,0,(y0.getD default))
  else
   bnd (b79 N v9 v10 v4) fun y1=>
   bif y1.isSome then
    bif (y1.getD default) then
     k0 (0,0,0,0,0,0,0,0,0,0,9)
    else
     bnd (d7X N v4) fun y2=>
     bif y2.isSome then
      bnd (d73 N (y2.getD default).2.1 (y2.getD default).2.2.2.1 (y2.getD default).2.2.2.2.2.1 (y2.getD default).2.2.2.2.2.2.2.1 (y2.getD default).2.2.2.2.2.2.2.2.2 v9 v10) fun y3=>
      bif y3.isSome then
       k0 (v9,v10,(y3.getD default).1,(y3.getD default).2.1,(y3.getD default).2.2.1,(y3.getD default).2.2.2.1,(y3.getD default).2.2.2.2.1,(y3.getD default).2.2.2.2.2.1,(y3.getD default).2.2.2.2.2.2.1,(y3.getD default).2.2.2.2.2.2.2,0)
      else
       none
     else
      none
   else
    none
 else
  none
def c8P (v0:LB) (v1 v2:Int) (v4 v6 v8:LD) (v9 v10:Int):Option (Ty4):=d2g N v0 v1 v2 v4 v6 v8 v9 v10 some
def e1F:=(d75 N).f1 (e1E N) ⟨[(0,.g (.s::[.i .i64,.i .i64,.sl 69,.sl 95,.sl 9])),(1,.c (.i .i64)),(2,.c (.i .i64))],[]⟩ (fun L _=>d2g N (ls L 0) (li L 1) (li L 2) (ll L 4) (ll L 6) (ll L 8) (li L 9) (li L 10)) (fun L p=>let p1:=p.2;let p2:=p1.2;let p3:=p2.2;let p4:=p3.2;let p5:=p4.2;let p6:=p5.2;let p7:=p6.2;let p8:=p7.2;let p9:=p8.2;let p10:=p9.2;([.g [.i .i64 p.1,.i .i64 p1.1,.i .i64 p2.1,.i .i64 p3.1,.i .i64 p4.1,.i .i64 p5.1,.i .i64 p6.1,.i .i64 p7.1,.i .i64 p8.1,.i .i64 p9.1],.c (.i .i64 p10)],[])) fun _ _=>by unfold d2g;exact bb
def e1G (N:Nat):Sg Tryz.prog 0 6:= .start [(18,[6,10,26,27,28],[6,10],[])] [(0,[0,1,2]),(1,[3,1,2,6]),(2,[9,6,8]),(3,[9,6]),(4,[8,6]),(5,[8,10,6]),(6,[28,27,26,10,6]),(7,[26,28,10,27,6]),(8,[12,10,28,27,26,6]),(9,[10,13,28,27,26,6]),(10,[28,27,26,10,6]),(11,[10,6])]
def b47 (w1:LD) (w2:Int) (w3 w8 w9 w10 w11:Int) (kr:Int→Int→Int→Int→Int→Option R) (k0:Int×Int×Int×Int→Option R):Option R:=
 bif (decide (w3<w2)) then
  bif (inB w3 w1.length) then
   bnd (b5Q N ((w1.getD w3.toNat (.i 0)).cell 3).items) fun y0=>
   bif y0.isSome then
    bnd (c8P N ((w1.getD w3.toNat (.i 0)).cell 0).toS ((w1.getD w3.toNat (.i 0)).cell 1).toI ((w1.getD w3.toNat (.i 0)).cell 2).toI ((w1.getD w3.toNat (.i 0)).cell 3).items ((w1.getD w3.toNat (.i 0)).cell 4).items ((w1.getD w3.toNat (.i 0)).cell 5).items 0 (y0.getD default)) fun y1=>
    bif y1.isSome then
     kr (IntKind.wrap .i64 (w3+1)) (IntKind.wrap .i64 (w8+1)) (IntKind.wrap .i64 (w9+(y1.getD default).2.2.1)) (IntKind.wrap .i64 (w10+(y1.getD default).2.2.2.1)) (IntKind.wrap .i64 (w11+(y1.getD default).2.1))
    else
     none
   else
    none
  else
   none
 else
  k0 (w8,w9,w10,w11)
def b0Y (N:Nat) {R:Type} (w1:LD) (w2:Int):Nat→Int→Int→Int→Int→Int→(Int×Int×Int×Int→Option R)→Option R
 |0,_,_,_,_,_,_=>none
 |m+1,w3,w8,w9,w10,w11,k0=>b47 N w1 w2 w3 w8 w9 w10 w11 (fun w3 w8 w9 w10 w11=>b0Y N w1 w2 m w3 w8 w9 w10 w11 k0) k0
def c8Q (w1:LD) (w2:Int) (w3 w8 w9 w10 w11:Int):Option (Int×Int×Int×Int):=b0Y N (R:=(Int×Int×Int×Int)) w1 w2 N w3 w8 w9 w10 w11 some
def e1H:=(e1G N).l1 (e1F N) 18 [3,8,9,10,11] [6,7,10] [6,10] ⟨[(6,.c (.p 6 0)),(10,.c (.p 10 0)),(26,.c (.sl 51)),(27,.c (.i .i64)),(28,.c (.i .i64))],[(6,.box ([.i .i64,.i .i64,.i .i64,.i .i64])),(10,.box ([.i .i64,.i .i64,.i .i64,.i .i64]))]⟩ N (fun L x _ kr=>b47 N (ll L 1) (li L 2) (li x 0) (li x 1) (li x 2) (li x 3) (li x 4) (fun w3 w8 w9 w10 w11=>kr [.i w3,.i w8,.i w9,.i w10,.i w11])) (fun L m x=>b0Y N (ll L 1) (li L 2) m (li x 0) (li x 1) (li x 2) (li x 3) (li x 4) some) (fun s m L p=>((.exit 0),mg s [6,10] [] [6,10] [(10,.box [.i .i64 p.1,.i .i64 p.2.1,.i .i64 p.2.2.1,.i .i64 p.2.2.2])])) fun _ _ _ _ _=>by unfold b47;exact bb
def e2R (v1:LD) (v2:Int) (v4:LD) (k0:e2O→Option R):Option R:=
 bnd (e1u N v1 v2 v4) fun y0=>
 bif y0.isSome then
  bif ((y0.getD default).2.2 !=0) then
   k0 (0,0,0,0,(y0.getD default).2.2)
  else
   bnd (c8Q N (y0.getD default).2.1 ((y0.getD default).2.1.length:Int) 0 0 0 0 0) fun y1=>
   bif y1.isSome then
    k0 ((y1.getD default).1,(y1.getD default).2.1,(y1.getD default).2.2.1,(y1.getD default).2.2.2,0)
   else
    none
 else
  none
def e3D (v1:LD) (v2:Int) (v4:LD):Option (e2O):=e2R N v1 v2 v4 some
def e3E:=(e1H N).f1 (e1F N) ⟨[(0,.g ([.sl 67])),(1,.c (.i .i64)),(2,.c (.sl 51))],[]⟩ (fun L _=>e2R N (ll L 1) (li L 2) (ll L 4)) (fun L p=>([.g [.i .i64 p.1,.i .i64 p.2.1,.i .i64 p.2.2.1,.i .i64 p.2.2.2.1],.c (.i .i64 p.2.2.2.2)],[])) fun _ _=>by unfold e2R;exact bb
def d76 (N:Nat):Sg Tryz.prog 0 88:= .start [(6,[0,3,4],[],[]),(18017,[0,3,4,5,18],[],[])] [(0,[0]),(1,[0]),(2,[3,4,0]),(3,[3,4,0]),(4,[5,0,4,3]),(6,[5,3,0]),(5,[5,4,0]),(7,[3])]
def a54 (N:Nat) (w1 w2 w3:Int) (w4:Bool) (k0:Int×Int→R):R:=
 bif w4 then
  k0 (w3,w2)
 else
  k0 (w1,(IntKind.wrap .i64 (w3-1)))
def b48 (w1 w2 w3:Int) (w4:Bool):Int×Int:=a54 N w1 w2 w3 w4 (fun p=>p)
def d77:=(d76 N).c0 (e3E N) 18017 100 [0,3,4] [] ⟨[(0,.c (.i .i64)),(3,.c (.i .i64)),(4,.c (.i .i64)),(5,.c (.i .i64)),(18,.c (.b))],[]⟩ (fun L _=>a54 N (li L 1) (li L 2) (li L 3) (lb L 4)) (fun s m L p=>(.normal,⟨[(0,.c (.i .i64 (li L 0))),(3,.c (.i .i64 p.1)),(4,.c (.i .i64 p.2))],[]⟩)) fun _ _=>by unfold a54;exact kk
def b0Z (w0:Int) (w1 w2:Int) (kr:Int→Int→Option R) (k0:Int→Option R):Option R:=
 bif (decide (w1<w2)) then
  bnd (IntKind.wrap .i64 ((IntKind.wrap .i64 ((IntKind.wrap .i64 (w1+w2))+1)).tdiv 2)) fun y0=>
  bnd (b48 N w1 w2 y0 (decide ((IntKind.wrap .i64 (y0*y0))≤w0))) fun y1=>
  kr y1.1 y1.2
 else
  k0 w1
def a8Z (N:Nat) {R:Type} (w0:Int):Nat→Int→Int→(Int→Option R)→Option R
 |0,_,_,_=>none
 |m+1,w1,w2,k0=>b0Z N w0 w1 w2 (fun w1 w2=>a8Z N w0 m w1 w2 k0) k0
def c8R (w0:Int) (w1 w2:Int):Option (Int):=a8Z N (R:=(Int)) w0 N w1 w2 some
def d78:=(d77 N).l1 (e3E N) 6 [1,2] [2,3] [] ⟨[(0,.c (.i .i64)),(3,.c (.i .i64)),(4,.c (.i .i64))],[]⟩ N (fun L x _ kr=>b0Z N (li L 0) (li x 0) (li x 1) (fun w1 w2=>kr [.i w1,.i w2])) (fun L m x=>a8Z N (li L 0) m (li x 0) (li x 1) some) (fun s m L p=>((.exit 0),⟨[(3,.c (.i .i64 p))],[]⟩)) fun _ _ _ _ _=>by unfold b0Z;exact bb
def d2h (v0:Int) (k0:Int→Option R):Option R:=
 bnd (c8R N v0 0 3037000499) fun y0=>
 bif y0.isSome then
  k0 (y0.getD default)
 else
  none
def c6j (v0:Int):Option (Int):=d2h N v0 some
def e3F:=(d78 N).f1 (e3E N) ⟨[(0,.c (.i .i64))],[]⟩ (fun L _=>d2h N (li L 0)) (fun L p=>([.c (.i .i64 p)],[])) fun _ _=>by unfold d2h;exact bb
def d79 (N:Nat):Sg Tryz.prog 0 89:= .start [] [(0,[0,1]),(1,[1,2]),(2,[5,2]),(4,[5,2]),(5,[2]),(3,[2]),(6,[2])]
def d8a (N:Nat) (v4 v5 v6 v7:Int) (k0:Int→R):R:=
 bif (v7==1) then
  k0 v4
 else
  bif (v7==2) then
   k0 v5
  else
   k0 v6
def d8b (v4 v5 v6 v7:Int):Int:=d8a N v4 v5 v6 v7 (fun p=>p)
def c2b:=(d79 N).f0 (e3F N) ⟨[(0,.g (rI 7 ([]))),(1,.c (.i .i64))],[]⟩ (fun L _=>d8a N (li L 4) (li L 5) (li L 6) (li L 7)) (fun L p=>([.c (.i .i64 p)],[])) fun _ _=>by unfold d8a;exact kk
def d8c (N:Nat):Sg Tryz.prog 0 55:= .start [(26,[2,3,4,7,8,9,47],[3,4],[]),(21020,[2,3,4,7,8,9,20,21],[3,4],[]),(33,[2,3,7,8,9,10,55,56],[3,10],[10]),(47,[2,3,7,8,9,10,11,12,55,56,63],[3,10],[]),(59,[2,3,7,8,9,10,12,55,56,78],[3,10],[]),(53,[2,3,7,8,9,10,12,55,56,76],[3,10],[])] [(0,[0,1,2]),(1,[4,3,2]),(2,[7,2,4,3]),(3,[2,4,3,7,8]),(4,[2,4,3,7,8,9]),(5,[20,4,3,7,2,8,9]),(7,[20,4,3,7,2,8,9]),(8,[4,3,7,2,8]),(6,[4,3,7,2,8]),(9,[7,3,2,9,8]),(10,[7,3,2,9,8,10]),(11,[56,55,3,2,9,7,8,10]),(12,[56,3,2,9,7,8,10,55]),(13,[3,2,9,11,7,8,10,56,55]),(14,[2,9,11,7,8,10,56,55,3,12]),(15,[9,11,7,8,2,10,56,55,3]),(16,[8,2,10,56,55,3,9,7,12]),(17,[2,10,56,55,3,9,7,8]),(18,[2,10,56,55,3,9,7,8,12]),(19,[10,56,55,3,2,9,7,8]),(20,[10,12,56,55,3,2,9,7,8]),(21,[56,55,3,2,9,7,8,10]),(22,[10])]
def b3m (N:Nat) (w3:Int) (w4:Bool) (w8 w15:Int) (k0:Int→R):R:=
 bif w4 then
  k0 (max2 0 (IntKind.wrap .i64 (w15-w8)))
 else
  k0 w3
def c4F (w3:Int) (w4:Bool) (w8 w15:Int):Int:=b3m N w3 w4 w8 w15 (fun p=>p)
def d8d:=(d8c N).c0 (c2b N) 26 100 [2,3,7,8,9] [3] ⟨[(2,.c (.i .i64)),(3,.c (.p 3 0)),(4,.c (.p 4 0)),(7,.c (.i .i64)),(8,.c (.b)),(9,.c (.i .i64)),(47,.c (.b))],[(3,.box (rI 7 ([]))),(4,.box (rI 7 ([])))]⟩ (fun L _=>b3m N (li L 3) (lb L 4) (li L 8) (li L 15)) (fun s m L p=>(.normal,m [(9,.c (.i .i64 p))] [])) fun _ _=>by unfold b3m;exact kk
def a56 (w3 w4:Int) (w5:Bool) (w7 w8 w9 w14 w15 w16:Int) (k0:Int→Option R):Option R:=
 bif w5 then
  bnd (IntKind.wrap .i64 ((IntKind.wrap .i64 (w14-w7))*(IntKind.wrap .i64 (w14-w7)))) fun y0=>
  bnd (IntKind.wrap .i64 ((IntKind.wrap .i64 (w15-w8))*(IntKind.wrap .i64 (w15-w8)))) fun y1=>
  bnd (c6j N (IntKind.wrap .i64 (y0+y1))) fun y2=>
  bif y2.isSome then
   k0 (y2.getD default)
  else
   none
 else
  bnd (c4F N w3 (w4==5) w9 w16) fun y3=>
  k0 y3
def a80 (w3 w4:Int) (w5:Bool) (w7 w8 w9 w14 w15 w16:Int):Option (Int):=a56 N w3 w4 w5 w7 w8 w9 w14 w15 w16 some
def d8e:=(d8d N).c1 (c2b N) 21020 100 [2,3,7,8,9] [3] ⟨[(2,.c (.i .i64)),(3,.c (.p 3 0)),(4,.c (.p 4 0)),(7,.c (.i .i64)),(8,.c (.b)),(9,.c (.i .i64)),(20,.c (.i .i64)),(21,.c (.b))],[(3,.box (rI 7 ([]))),(4,.box (rI 7 ([])))]⟩ (fun L _=>a56 N (li L 3) (li L 4) (lb L 5) (li L 7) (li L 8) (li L 9) (li L 14) (li L 15) (li L 16)) (fun s m L p=>(.normal,m [(9,.c (.i .i64 p))] [])) fun _ _=>by unfold a56;exact bb
def b3n (N:Nat) (w1 w3 w4 w5:Int) (w8:Bool) (k0:Int→Option R):Option R:=
 bif w8 then
  bif (!(w1==0)) then
   bnd (IntKind.wrap .i64 ((IntKind.wrap .i64 (w3*(IntKind.wrap .i64 (w4+1)))).tdiv w1)) fun y0=>
   bif (!(w1==0)) then
    bnd (IntKind.wrap .i64 (y0-(IntKind.wrap .i64 ((IntKind.wrap .i64 (w3*w4)).tdiv w1)))) fun y1=>
    k0 y1
   else
    none
  else
   none
 else
  k0 w5
def c4G (w1 w3 w4 w5:Int) (w8:Bool):Option (Int):=b3n N w1 w3 w4 w5 w8 some
def d8f:=(d8e N).c1 (c2b N) 47 100 [2,3,7,8,9,10,12,55,56] [3,10] ⟨[(2,.c (.i .i64)),(3,.c (.p 3 0)),(7,.c (.i .i64)),(8,.c (.b)),(9,.c (.i .i64)),(10,.c (.o 10)),(11,.c (.i .i64)),(12,.c (.i .i64)),(55,.c (.i .i64)),(56,.c (.i .i64)),(63,.c (.b))],[(3,.box (rI 7 ([]))),(10,.row 3 true)]⟩ (fun L _=>b3n N (li L 1) (li L 3) (li L 4) (li L 5) (lb L 8)) (fun s m L p=>(.normal,m [(12,.c (.i .i64 p))] [])) fun _ _=>by unfold b3n;exact bb
def b3o (N:Nat) (w4:Int) (w7:Bool) (k0:Int→R):R:=
 bif w7 then
  k0 0
 else
  k0 w4
def c4H (w4:Int) (w7:Bool):Int:=b3o N w4 w7 (fun p=>p)
def d8g:=(d8f N).c0 (c2b N) 59 100 [2,3,7,8,9,10,12,55,56] [3,10] ⟨[(2,.c (.i .i64)),(3,.c (.p 3 0)),(7,.c (.i .i64)),(8,.c (.b)),(9,.c (.i .i64)),(10,.c (.o 10)),(12,.c (.i .i64)),(55,.c (.i .i64)),(56,.c (.i .i64)),(78,.c (.b))],[(3,.box (rI 7 ([]))),(10,.row 3 true)]⟩ (fun L _=>b3o N (li L 4) (lb L 7)) (fun s m L p=>(.normal,m [(12,.c (.i .i64 p))] [])) fun _ _=>by unfold b3o;exact kk
def b3p (w0 w4:Int) (w7:Bool) (k0:Int→R):R:=
 bif w7 then
  bnd (c4H N (-1) (decide (w0≥4))) fun y0=>
  k0 y0
 else
  k0 w4
def c4I (w0 w4:Int) (w7:Bool):Int:=b3p N w0 w4 w7 (fun p=>p)
def d8h:=(d8g N).c0 (c2b N) 53 100 [2,3,7,8,9,10,12,55,56] [3,10] ⟨[(2,.c (.i .i64)),(3,.c (.p 3 0)),(7,.c (.i .i64)),(8,.c (.b)),(9,.c (.i .i64)),(10,.c (.o 10)),(12,.c (.i .i64)),(55,.c (.i .i64)),(56,.c (.i .i64)),(76,.c (.b))],[(3,.box (rI 7 ([]))),(10,.row 3 true)]⟩ (fun L _=>b3p N (li L 0) (li L 4) (lb L 7)) (fun s m L p=>(.normal,m [(12,.c (.i .i64 p))] [])) fun _ _=>by unfold b3p;exact kk
def a96 (w0 w1:Int) (w2:Bool) (w3 w4 w10 w11 w12:Int) (w5:Int) (w13:Bool) (w14:LD) (kr:Int→Bool→LD→Option R) (k0:Bool×LD→Option R):Option R:=
 bif (decide (w5<w4)) then
  bnd (d8b N w10 w11 w12 w0) fun y0=>
  bnd (c4G N w1 w3 w5 y0 (decide (w0≥4))) fun y1=>
  bif y1.isSome then
   bnd (c4I N w0 (y1.getD default) w2) fun y2=>
   bif (decide ((w14.length+1)*8≤a1K)&&decide ((w14.length+1)≤a0g)) then
    kr (IntKind.wrap .i64 (w5+1)) false (w14++[(.i y2)])
   else
    none
  else
   none
 else
  k0 (w13,w14)
def a7P (N:Nat) {R:Type} (w0 w1:Int) (w2:Bool) (w3 w4 w10 w11 w12:Int):Nat→Int→Bool→LD→(Bool×LD→Option R)→Option R
 |0,_,_,_,_=>none
 |m+1,w5,w13,w14,k0=>a96 N w0 w1 w2 w3 w4 w10 w11 w12 w5 w13 w14 (fun w5 w13 w14=>a7P N w0 w1 w2 w3 w4 w10 w11 w12 m w5 w13 w14 k0) k0
def c4J (w0 w1:Int) (w2:Bool) (w3 w4 w10 w11 w12:Int) (w5:Int) (w13:Bool) (w14:LD):Option (Bool×LD):=a7P N (R:=(Bool×LD)) w0 w1 w2 w3 w4 w10 w11 w12 N w5 w13 w14 some
def d8i:=(d8h N).l1 (c2b N) 33 [5,13,14] [6,10] [10] ⟨[(2,.c (.i .i64)),(3,.c (.p 3 0)),(7,.c (.i .i64)),(8,.c (.b)),(9,.c (.i .i64)),(10,.c (.o 10)),(55,.c (.i .i64)),(56,.c (.i .i64))],[(3,.box (rI 7 ([]))),(10,.row 3 true)]⟩ N (fun L x _ kr=>a96 N (li L 0) (li L 1) (lb L 2) (li L 3) (li L 4) (li L 10) (li L 11) (li L 12) (li x 0) (lb x 1) (ll x 2) (fun w5 w13 w14=>kr [.i w5,.b w13,.l w14])) (fun L m x=>a7P N (li L 0) (li L 1) (lb L 2) (li L 3) (li L 4) (li L 10) (li L 11) (li L 12) m (li x 0) (lb x 1) (ll x 2) some) (fun s m L p=>((.exit 1),⟨[(10,.c (.o 10))],[(10,.row 3 true p.1 p.2)]⟩)) fun _ _ _ _ _=>by unfold a96;exact bb
def d2i (v0 v1 v2 v3 v4 v5 v6 v7 v8 v9 v10 v14:Int) (k0:Bool×LD→Option R):Option R:=
 bnd (a80 N 0 v14 (v14==4) v1 v2 v3 v8 v9 v10) fun y0=>
 bif y0.isSome then
  bnd (c4J N v14 (IntKind.wrap .i64 (v7-v0)) (decide ((IntKind.wrap .i64 (v7-v0))>60)) (y0.getD default) (IntKind.wrap .i64 (v7-v0)) v4 v5 v6 0 true []) fun y1=>
  bif y1.isSome then
   k0 (y1.getD default)
  else
   none
 else
  none
def d2j (v0 v1 v2 v3 v4 v5 v6 v7 v8 v9 v10 v14:Int):Option (Bool×LD):=d2i N v0 v1 v2 v3 v4 v5 v6 v7 v8 v9 v10 v14 some
def e1I:=(d8i N).f1 (c2b N) ⟨[(0,.g (rI 7 ([]))),(1,.g (rI 7 ([]))),(2,.c (.i .i64))],[]⟩ (fun L _=>d2i N (li L 0) (li L 1) (li L 2) (li L 3) (li L 4) (li L 5) (li L 6) (li L 7) (li L 8) (li L 9) (li L 10) (li L 14)) (fun L p=>([.c (.sl 3 p.1 p.2)],[])) fun _ _=>by unfold d2i;exact bb
def d8j (N:Nat):Sg Tryz.prog 0 27:= .start [(24,[1,2,7,8],[2,7],[7])] [(0,[0,1]),(1,[2,1]),(2,[6,1,2]),(3,[6]),(4,[1,2]),(5,[]),(6,[2,1]),(7,[2,7,1]),(8,[8,2,7,1]),(10,[7,2,8,1]),(9,[8,2,7,1]),(11,[7])]
def a97 (w0:Int) (w6:LD) (w1:Int) (w11:Bool) (w12:LD) (kr:Int→Bool→LD→Option R) (k0:Bool×LD→Option R):Option R:=
 bif (decide (w1<(w6.length:Int))) then
  bif (inB (IntKind.wrap .i64 (w1-1)) w6.length) then
   bnd ((w6.getD (IntKind.wrap .i64 (w1-1)).toNat (.i 0)).cell 0).toI fun y0=>
   bnd ((w6.getD (IntKind.wrap .i64 (w1-1)).toNat (.i 0)).cell 1).toI fun y1=>
   bnd ((w6.getD (IntKind.wrap .i64 (w1-1)).toNat (.i 0)).cell 2).toI fun y2=>
   bnd ((w6.getD (IntKind.wrap .i64 (w1-1)).toNat (.i 0)).cell 3).toI fun y3=>
   bnd ((w6.getD (IntKind.wrap .i64 (w1-1)).toNat (.i 0)).cell 4).toI fun y4=>
   bnd ((w6.getD (IntKind.wrap .i64 (w1-1)).toNat (.i 0)).cell 5).toI fun y5=>
   bnd ((w6.getD (IntKind.wrap .i64 (w1-1)).toNat (.i 0)).cell 6).toI fun y6=>
   bif (inB w1 w6.length) then
    bnd (d2j N y0 y1 y2 y3 y4 y5 y6 ((w6.getD w1.toNat (.i 0)).cell 0).toI ((w6.getD w1.toNat (.i 0)).cell 1).toI ((w6.getD w1.toNat (.i 0)).cell 2).toI ((w6.getD w1.toNat (.i 0)).cell 3).toI w0) fun y7=>
    bif y7.isSome then
     bif (decide ((w12.length+(y7.getD default).2.length)*8≤a1K)&&decide ((w12.length+(y7.getD default).2.length)≤a0g)) then
      kr (IntKind.wrap .i64 (w1+1)) ((y7.getD default).2.isEmpty&&w11) (w12++(y7.getD default).2)
     else
      none
    else
     none
   else
    none
  else
   none
 else
  k0 (w11,w12)
def a7Q (N:Nat) {R:Type} (w0:Int) (w6:LD):Nat→Int→Bool→LD→(Bool×LD→Option R)→Option R
 |0,_,_,_,_=>none
 |m+1,w1,w11,w12,k0=>a97 N w0 w6 w1 w11 w12 (fun w1 w11 w12=>a7Q N w0 w6 m w1 w11 w12 k0) k0
def b8a (w0:Int) (w6:LD) (w1:Int) (w11:Bool) (w12:LD):Option (Bool×LD):=a7Q N (R:=(Bool×LD)) w0 w6 N w1 w11 w12 some
def d8k:=(d8j N).l1 (e1I N) 24 [1,11,12] [4,5,7] [7] ⟨[(1,.c (.i .i64)),(2,.c (.p 2 0)),(7,.c (.o 7)),(8,.c (.i .i64))],[(2,.box (.s::[.i .i64,.i .i64,.sl 69,.sl 95,.sl 9])),(7,.row 3 true)]⟩ N (fun L x _ kr=>a97 N (li L 0) (ll L 6) (li x 0) (lb x 1) (ll x 2) (fun w1 w11 w12=>kr [.i w1,.b w11,.l w12])) (fun L m x=>a7Q N (li L 0) (ll L 6) m (li x 0) (lb x 1) (ll x 2) some) (fun s m L p=>((.exit 0),⟨[(7,.c (.o 7))],[(7,.row 3 true p.1 p.2)]⟩)) fun _ _ _ _ _=>by unfold a97;exact bb
def d2k (v0:LB) (v1 v2:Int) (v4 v6 v8:LD) (v9:Int) (k0:Bool×LD×Int→Option R):Option R:=
 bnd (b7T N v0 v1 v2 v4 v6 v8) fun y0=>
 bif y0.isSome then
  bif ((y0.getD default) !=0) then
   k0 (true,[],(y0.getD default))
  else
   bif (bif (decide (v9<1)) then true else (decide (v9>5))) then
    k0 (true,[],7)
   else
    bnd (b8a N v9 v4 1 true []) fun y1=>
    bif y1.isSome then
     k0 ((y1.getD default).1,(y1.getD default).2,0)
    else
     none
 else
  none
def b5R (v0:LB) (v1 v2:Int) (v4 v6 v8:LD) (v9:Int):Option (Bool×LD×Int):=d2k N v0 v1 v2 v4 v6 v8 v9 some
def e3G:=(d8k N).f1 (e1I N) ⟨[(0,.g (.s::[.i .i64,.i .i64,.sl 69,.sl 95,.sl 9])),(1,.c (.i .i64))],[]⟩ (fun L _=>d2k N (ls L 0) (li L 1) (li L 2) (ll L 4) (ll L 6) (ll L 8) (li L 9)) (fun L p=>([.c (.sl 3 p.1 p.2.1),.c (.i .i64 p.2.2)],[])) fun _ _=>by unfold d2k;exact bb
def d8l (N:Nat):Sg Tryz.prog 0 42:= .start [] [(0,[0]),(1,[1,2]),(2,[1,3,2]),(3,[4,1,3,2]),(5,[4,1,3,2]),(4,[4,1,3,2]),(6,[3,2])]
def d2l (v0:LB) (v1 v2:Int) (v4 v6 v8:LD) (k0:Ty0→Option R):Option R:=
 bnd (b5R N v0 v1 v2 v4 v6 v8 1) fun y0=>
 bif y0.isSome then
  bnd (b5R N v0 v1 v2 v4 v6 v8 2) fun y1=>
  bif y1.isSome then
   bnd (b5R N v0 v1 v2 v4 v6 v8 3) fun y2=>
   bif y2.isSome then
    bnd (b5R N v0 v1 v2 v4 v6 v8 4) fun y3=>
    bif y3.isSome then
     bnd (b5R N v0 v1 v2 v4 v6 v8 5) fun y4=>
     bif y4.isSome then
      k0 ((y0.getD default).1,(y0.getD default).2.1,(y1.getD default).1,(y1.getD default).2.1,(y2.getD default).1,(y2.getD default).2.1,(y3.getD default).1,(y3.getD default).2.1,(y4.getD default).1,(y4.getD default).2.1)
     else
      none
    else
     none
   else
    none
  else
   none
 else
  none
def d8m (v0:LB) (v1 v2:Int) (v4 v6 v8:LD):Option (Ty0):=d2l N v0 v1 v2 v4 v6 v8 some
def d8n:=(d8l N).f1 (e3G N) ⟨[(0,.g (.s::[.i .i64,.i .i64,.sl 69,.sl 95,.sl 9]))],[]⟩ (fun L _=>d2l N (ls L 0) (li L 1) (li L 2) (ll L 4) (ll L 6) (ll L 8)) (fun L p=>let p1:=p.2;let p2:=p1.2;let p3:=p2.2;let p4:=p3.2;let p5:=p4.2;let p6:=p5.2;let p7:=p6.2;let p8:=p7.2;let p9:=p8.2;([.g [.sl 3 true [],.sl 3 p.1 p1.1,.sl 3 p2.1 p3.1,.sl 3 p4.1 p5.1,.sl 3 p6.1 p7.1,.sl 3 p8.1 p9]],[])) fun _ _=>by unfold d2l;exact bb
def d8o (N:Nat):Sg Tryz.prog 0 77:= .start [(6,[2,3,6,7,8],[],[]),(17,[2,3,5,6,7,8,13],[],[])] [(0,[0]),(1,[0,2,3]),(2,[8,7,6,2,3]),(3,[6,8,2,3,7]),(4,[5,2,3,8,7,6]),(5,[2,5,3,8,7,6]),(6,[8,7,6,2,3]),(7,[2,3])]
def b8b (N:Nat) (w0 w1 w2:Int) (w7:Bool) (k0:Int×Int→R):R:=
 bif w7 then
  k0 ((IntKind.wrap .i64 (w0+w2)),(IntKind.wrap .i64 (w1+1)))
 else
  k0 (w0,w1)
def d2m (w0 w1 w2:Int) (w7:Bool):Int×Int:=b8b N w0 w1 w2 w7 (fun p=>p)
def d8p:=(d8o N).c0 (d8n N) 17 100 [2,3,6,7,8] [] ⟨[(2,.c (.i .i64)),(3,.c (.i .i64)),(5,.c (.i .i64)),(6,.c (.sl 3)),(7,.c (.i .i64)),(8,.c (.i .i64)),(13,.c (.b))],[]⟩ (fun L _=>b8b N (li L 0) (li L 1) (li L 2) (lb L 7)) (fun s m L p=>(.normal,m [(2,.c (.i .i64 p.1)),(3,.c (.i .i64 p.2))] [])) fun _ _=>by unfold b8b;exact kk
def b49 (w3:LD) (w4:Int) (w0 w1 w5:Int) (kr:Int→Int→Int→Option R) (k0:Int×Int→Option R):Option R:=
 bif (decide (w5<w4)) then
  bif (inB w5 w3.length) then
   bnd (d2m N w0 w1 (w3.getD w5.toNat (.i 0)).toI (decide ((w3.getD w5.toNat (.i 0)).toI≥0))) fun y0=>
   kr y0.1 y0.2 (IntKind.wrap .i64 (w5+1))
  else
   none
 else
  k0 (w0,w1)
def b00 (N:Nat) {R:Type} (w3:LD) (w4:Int):Nat→Int→Int→Int→(Int×Int→Option R)→Option R
 |0,_,_,_,_=>none
 |m+1,w0,w1,w5,k0=>b49 N w3 w4 w0 w1 w5 (fun w0 w1 w5=>b00 N w3 w4 m w0 w1 w5 k0) k0
def c8S (w3:LD) (w4:Int) (w0 w1 w5:Int):Option (Int×Int):=b00 N (R:=(Int×Int)) w3 w4 N w0 w1 w5 some
def d8q:=(d8p N).l1 (d8n N) 6 [0,1,5] [2,3] [] ⟨[(2,.c (.i .i64)),(3,.c (.i .i64)),(6,.c (.sl 3)),(7,.c (.i .i64)),(8,.c (.i .i64))],[]⟩ N (fun L x _ kr=>b49 N (ll L 3) (li L 4) (li x 0) (li x 1) (li x 2) (fun w0 w1 w5=>kr [.i w0,.i w1,.i w5])) (fun L m x=>b00 N (ll L 3) (li L 4) m (li x 0) (li x 1) (li x 2) some) (fun s m L p=>((.exit 0),⟨[(2,.c (.i .i64 p.1)),(3,.c (.i .i64 p.2))],[]⟩)) fun _ _ _ _ _=>by unfold b49;exact bb
end
end Go.Proofs.YtajladplkpfaiaaGreat
