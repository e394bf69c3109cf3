/- Functions of the program as plain Lean definitions, each with the proof that the program computes it. No condition. Printed by a program of the prover, part 2. -/
import Derived.Test.YtcdhfpkfmekabaaGreatDoorLPp1
import Derived.KernelRfl
set_option linter.all false
set_option maxRecDepth 100000
set_option maxHeartbeats 4000000
namespace Go.Proofs.YtcdhfpkfmekabaaGreatDoor
open Go Go.AM
noncomputable section
variable (N:Nat) {R:Type}
def b2Q (N:Nat) {R:Type} (w1:LD) (w2:Int):Nat→Int→Bool→LD→(Bool×LD→Option R)→Option R
 |0,_,_,_,_=>none
 |m+1,w3,w4,w5,k0=>a90 N w1 w2 w3 w4 w5 (fun w3 w4 w5=>b2Q N w1 w2 m w3 w4 w5 k0) k0
def c3N (w1:LD) (w2:Int) (w3:Int) (w4:Bool) (w5:LD):Option (Bool×LD):=b2Q N (R:=(Bool×LD)) w1 w2 N w3 w4 w5 some
def d85:=(d84 N).l1 (d82 N) 39 [3,4,5] [2,4] [4] ⟨[(4,cO 4),(60,cL 144),(61,cI),(62,cI)],[(4,.row 5 true)]⟩ N (fun L x _ kr=>a90 N (ll L 1) (li L 2) (li x 0) (lb x 1) (ll x 2) (fun w3 w4 w5=>kr [.i w3,.b w4,.l w5])) (fun L m x=>b2Q N (ll L 1) (li L 2) m (li x 0) (lb x 1) (ll x 2) some) (fun s m L p=>((.exit 1),⟨[(4,.c (.o 4))],[(4,.row 5 true p.1 p.2)]⟩)) fun _ _ _ _ _=>by unfold a90;exact bb
def d2E (v0 v1 v2:Int) (v4 v6:LD) (k0:Bool×LD→Option R):Option R:=
 bif (v0==2) then
  bif (decide ((1+v6.length)*1≤a0X)&&decide ((1+v6.length)≤a0c)) then
   k0 ((v6.isEmpty&&false),([(.i (IntKind.wrap .u8 v1))]++v6))
  else
   none
 else
  bif (v0==3) then
   bnd (IntKind.wrap .i64 ((IntKind.wrap .i64 (128+(IntKind.wrap .i64 (32*v1))))+v2)) fun y0=>
   bif (decide ((1+v6.length)*1≤a0X)&&decide ((1+v6.length)≤a0c)) then
    k0 ((v6.isEmpty&&false),([(.i (IntKind.wrap .u8 y0))]++v6))
   else
    none
  else
   bif (inB 0 v4.length) then
    bnd (c3M N ((v4.getD 0 (.i 0)).cell 0).toB [(.i (IntKind.wrap .u8 (IntKind.wrap .i64 (64+v1)))),(.i 0)]) fun y1=>
    bif y1.isSome then
     bnd (b7u N ((v4.getD 0 (.i 0)).cell 1).toI 2 ((v4.getD 0 (.i 0)).cell 0).toB) fun y2=>
     bif y2.isSome then
      bif (decide (((y1.getD default).length+(y2.getD default).length)*1≤a0X)&&decide (((y1.getD default).length+(y2.getD default).length)≤a0c)) then
       bnd (IntKind.wrap .u8 (((v4.getD 0 (.i 0)).cell 2).items.length:Int)) fun y3=>
       bif (decide ((((y1.getD default)++(y2.getD default)).length+1)*1≤a0X)&&decide ((((y1.getD default)++(y2.getD default)).length+1)≤a0c)) then
        bnd ((((y1.getD default)++(y2.getD default))++[(.i y3)]):List D) fun y4=>
        bnd (c3N N ((v4.getD 0 (.i 0)).cell 2).items (((v4.getD 0 (.i 0)).cell 2).items.length:Int) 0 false y4) fun y5=>
        bif y5.isSome then
         k0 (y5.getD default)
        else
         none
       else
        none
      else
       none
     else
      none
    else
     none
   else
    none
def d86 (v0 v1 v2:Int) (v4 v6:LD):Option (Bool×LD):=d2E N v0 v1 v2 v4 v6 some
def e17:=(d85 N).f1 (d82 N) ⟨[(0,e3W)],[]⟩ (fun L _=>d2E N (li L 0) (li L 1) (li L 2) (ll L 4) (ll L 6)) (fun L p=>([.c (.sl 5 p.1 p.2)],[])) fun _ _=>by unfold d2E;exact bb
def d2F (N:Nat):Sg Tryz.prog 0 109:= .start [(17,[0,1,16],[],[])] [(0,[1,0]),(1,[1,0]),(2,[1,0]),(3,[1,0]),(4,[1,0]),(5,[0,1]),(6,[0])] true
def a91 (N:Nat) (w2:Int) (w3:Bool) (k0:Bool→Option R) (k1:Unit→Option R):Option R:=
 bif w3 then
  bif ((decide (0≤w2))&&(decide (w2.toNat*1≤a0X)&&decide (w2.toNat≤a0c))) then
   bif (decide (0≤((List.replicate w2.toNat ((.i 0):D)).length:Int))) then
    k0 (Nat.beq w2.toNat 0)
   else
    none
  else
   none
 else
  k1 ()
def b9Z (w2:Int) (w3:Bool):Option (Sum (Bool) (Unit)):=a91 N w2 w3 (fun p=>some (.inl p)) (fun p=>some (.inr p))
def d2G:=(d2F N).c2 (e17 N) 17 100 [0] [25] ⟨[(0,.c (.nsl 5)),(1,cI),(16,cB)],[]⟩ (fun L _=>a91 N (li L 2) (lb L 3)) (fun s m L p=>(.normal,⟨[(0,.c (.o 25))],[(25,.row 5 true p [])]⟩)) (fun s m L _=>(.normal,⟨[(0,.c (.sl 5 true []))],[]⟩)) fun _ _ _=>by unfold a91;exact bb
def c3O (v2:Int) (k0:Bool→Option R) (k1:Unit→Option R):Option R:=
 bif (decide (v2<0)) then
  none
 else
  bnd (b9Z N (IntKind.wrap .i64 (v2-0)) (decide ((IntKind.wrap .i64 (v2-0))>0))) fun y0=>
  bif (a0U y0) then
   k0 (a1E y0)
  else
   bif (a0n y0).isSome then
    k1 ()
   else
    none
def d4M (v2:Int):Option (Sum (Bool) (Unit)):=c3O N v2 (fun p=>some (.inl p)) (fun p=>some (.inr p))
def c3P:=(d2G N).f2 (e17 N) ⟨[(0,.c (.nsl 5)),(1,cI)],[]⟩ (fun L _=>c3O N (li L 2)) (fun L p=>([.c (.o 25)],[(25,.row 5 true p [])])) (fun L _=>([.c (.sl 5 true [])],[])) fun _ _ _=>by unfold c3O;exact bb
def d87 (N:Nat):Sg Tryz.prog 0 74:= .start [(9,[0,3,9,10,11],[],[]),(28,[0,3],[],[]),(33,[6,25,26,27],[6,25000000025],[6])] [(0,[0]),(1,[0]),(2,[0,3]),(3,[11,10,9,3,0]),(4,[9,11,3,10,0]),(5,[3,5,11,10,9,0]),(6,[3,11,10,9,0]),(7,[11,10,9,3,0]),(8,[11,10,9,3,0]),(9,[3,0]),(10,[0,6]),(11,[27,26,25,6]),(12,[25,27,6,26]),(13,[6,8,27,26,25]),(14,[27,26,25,6]),(15,[6])] true
def b4o (N:Nat) (w4:LD) (w5:Int) (w2 w6:Int) (kr:Int→Int→Option R) (k0:Int→Option R):Option R:=
 bif (decide (w6<w5)) then
  bif (inB w6 w4.length) then
   bnd (IntKind.wrap .i64 (w2+((w4.getD w6.toNat (.i 0)).items.length:Int))) fun y0=>
   bif (decide (y0<0)) then
    none
   else
    kr y0 (IntKind.wrap .i64 (w6+1))
  else
   none
 else
  k0 w2
def b7B (N:Nat) {R:Type} (w4:LD) (w5:Int):Nat→Int→Int→(Int→Option R)→Option R
 |0,_,_,_=>none
 |m+1,w2,w6,k0=>b4o N w4 w5 w2 w6 (fun w2 w6=>b7B N w4 w5 m w2 w6 k0) k0
def c8D (w4:LD) (w5:Int) (w2 w6:Int):Option (Int):=b7B N (R:=(Int)) w4 w5 N w2 w6 some
def d88:=(d87 N).l1 (c3P N) 9 [2,6] [0,2,3] [] ⟨[(0,cL 53),(3,cI),(9,cL 53),(10,cI),(11,cI)],[]⟩ N (fun L x _ kr=>b4o N (ll L 4) (li L 5) (li x 0) (li x 1) (fun w2 w6=>kr [.i w2,.i w6])) (fun L m x=>b7B N (ll L 4) (li L 5) m (li x 0) (li x 1) some) (fun s m L p=>((.exit 0),mg s [0,3] [(3,.c (.i .i64 p))] [] [])) fun _ _ _ _ _=>by unfold b4o;exact bb
def b2R (w2:Int) (k0:Bool→Option R) (k1:Unit→Option R):Option R:=
 bnd (d4M N w2) fun y0=>
 bif (a0U y0) then
  k0 (a1E y0)
 else
  bif (a0n y0).isSome then
   k1 ()
  else
   none
def b7C (w2:Int):Option (Sum (Bool) (Unit)):=b2R N w2 (fun p=>some (.inl p)) (fun p=>some (.inr p))
def d89:=(d88 N).c2 (c3P N) 28 100 [0,6] [25000000025] ⟨[(0,cL 53),(3,cI)],[]⟩ (fun L _=>b2R N (li L 2)) (fun s m L p=>(.normal,⟨[(0,.c (.sl 53 (lb L 0) (ll L 1))),(6,.c (.o 25000000025))],[(25000000025,.row 5 true p [])]⟩)) (fun s m L _=>(.normal,mg s [0,6] [(6,.c (.sl 5 true []))] [] [])) fun _ _ _=>by unfold b2R;exact bb
def a92 (N:Nat) (w1:LD) (w2:Int) (w3:Int) (w4:Bool) (w5:LD) (kr:Int→Bool→LD→Option R) (k0:Bool×LD→Option R):Option R:=
 bif (decide (w3<w2)) then
  bif (inB w3 w1.length) then
   bif (decide ((w5.length+(w1.getD w3.toNat (.i 0)).items.length)*1≤a0X)&&decide ((w5.length+(w1.getD w3.toNat (.i 0)).items.length)≤a0c)) then
    kr (IntKind.wrap .i64 (w3+1)) ((w1.getD w3.toNat (.i 0)).items.isEmpty&&w4) (w5++(w1.getD w3.toNat (.i 0)).items)
   else
    none
  else
   none
 else
  k0 (w4,w5)
def b2S (N:Nat) {R:Type} (w1:LD) (w2:Int):Nat→Int→Bool→LD→(Bool×LD→Option R)→Option R
 |0,_,_,_,_=>none
 |m+1,w3,w4,w5,k0=>a92 N w1 w2 w3 w4 w5 (fun w3 w4 w5=>b2S N w1 w2 m w3 w4 w5 k0) k0
def b7D (w1:LD) (w2:Int) (w3:Int) (w4:Bool) (w5:LD):Option (Bool×LD):=b2S N (R:=(Bool×LD)) w1 w2 N w3 w4 w5 some
def d9a:=(d89 N).l1 (c3P N) 33 [3,4,5] [2,6] [6] ⟨[(6,cO 6),(25,cL 53),(26,cI),(27,cI)],[(6,.row 5 true)]⟩ N (fun L x _ kr=>a92 N (ll L 1) (li L 2) (li x 0) (lb x 1) (ll x 2) (fun w3 w4 w5=>kr [.i w3,.b w4,.l w5])) (fun L m x=>b2S N (ll L 1) (li L 2) m (li x 0) (lb x 1) (ll x 2) some) (fun s m L p=>((.exit 2),⟨[(6,.c (.o 6))],[(6,.row 5 true p.1 p.2)]⟩)) fun _ _ _ _ _=>by unfold a92;exact bb
def d2H (v1:LD) (k0:Bool×LD→Option R):Option R:=
 bnd (c8D N v1 (v1.length:Int) 0 0) fun y0=>
 bif y0.isSome then
  bnd (b7C N (y0.getD default)) fun y1=>
  bif (a0U y1) then
   bnd (b7D N v1 (v1.length:Int) 0 (a1E y1) []) fun y2=>
   bif y2.isSome then
    k0 (y2.getD default)
   else
    none
  else
   bif (a0n y1).isSome then
    bnd (b7D N v1 (v1.length:Int) 0 true []) fun y3=>
    bif y3.isSome then
     k0 (y3.getD default)
    else
     none
   else
    none
 else
  none
def d9b (v1:LD):Option (Bool×LD):=d2H N v1 some
def e18:=(d9a N).f1 (c3P N) ⟨[(0,cL 53)],[]⟩ (fun L _=>d2H N (ll L 1)) (fun L p=>([.c (.o 6)],[(6,.row 5 true p.1 p.2)])) fun _ _=>by unfold d2H;exact bb
def d9c (N:Nat):Sg Tryz.prog 0 76:= .start [(9,[3,6,7,8],[],[])] [(0,[0]),(1,[0]),(2,[0,3]),(3,[8,7,6,3]),(4,[6,8,3,7]),(5,[3,5,8,7,6]),(6,[8,7,6,3]),(7,[3])]
def b4p (N:Nat) (w2:LD) (w3:Int) (w0 w4:Int) (kr:Int→Int→Option R) (k0:Int→Option R):Option R:=
 bif (decide (w4<w3)) then
  bif (inB w4 w2.length) then
   bnd (IntKind.wrap .u32 ((IntKind.wrap .u32 (31*w0))+(IntKind.wrap .u32 (w2.getD w4.toNat (.i 0)).toI))) fun y0=>
   kr y0 (IntKind.wrap .i64 (w4+1))
  else
   none
 else
  k0 w0
def b7E (N:Nat) {R:Type} (w2:LD) (w3:Int):Nat→Int→Int→(Int→Option R)→Option R
 |0,_,_,_=>none
 |m+1,w0,w4,k0=>b4p N w2 w3 w0 w4 (fun w0 w4=>b7E N w2 w3 m w0 w4 k0) k0
def c8E (w2:LD) (w3:Int) (w0 w4:Int):Option (Int):=b7E N (R:=(Int)) w2 w3 N w0 w4 some
def d9d:=(d9c N).l1 (e18 N) 9 [0,4] [2,3] [] ⟨[(3,.c (.i .u32)),(6,cL 5),(7,cI),(8,cI)],[]⟩ N (fun L x _ kr=>b4p N (ll L 2) (li L 3) (li x 0) (li x 1) (fun w0 w4=>kr [.i w0,.i w4])) (fun L m x=>b7E N (ll L 2) (li L 3) m (li x 0) (li x 1) some) (fun s m L p=>((.exit 0),⟨[(3,.c (.i .u32 p))],[]⟩)) fun _ _ _ _ _=>by unfold b4p;exact bb
def d2I (v1:LD) (k0:Int→Option R):Option R:=
 bnd (c8E N v1 (v1.length:Int) 1 0) fun y0=>
 bif y0.isSome then
  k0 (IntKind.wrap .i64 (y0.getD default))
 else
  none
def d9e (v1:LD):Option (Int):=d2I N v1 some
def e19:=(d9d N).f1 (e18 N) ⟨[(0,cL 5)],[]⟩ (fun L _=>d2I N (ll L 1)) (fun L p=>([.c (.i .i64 p)],[])) fun _ _=>by unfold d2I;exact bb
def d9f (N:Nat):Sg Tryz.prog 0 35:= .start [(18,[5,15,16,17],[5],[5])] [(0,[0]),(1,[1]),(2,[4,1]),(3,[4]),(4,[1]),(5,[1,5]),(6,[17,16,15,5]),(7,[15,17,5,16]),(8,[5,7,17,16,15]),(9,[17,16,15,5]),(10,[5]),(11,[8]),(12,[8]),(13,[]),(14,[8])]
def b2T (w1:LD) (w2:Int) (w3:Int) (w4:Bool) (w5:LD) (kr:Int→Bool→LD→Option R) (k0:Bool×LD→Option R):Option R:=
 bif (decide (w3<w2)) then
  bif (inB w3 w1.length) then
   bnd (d86 N ((w1.getD w3.toNat (.i 0)).cell 0).toI ((w1.getD w3.toNat (.i 0)).cell 1).toI ((w1.getD w3.toNat (.i 0)).cell 2).toI ((w1.getD w3.toNat (.i 0)).cell 3).items ((w1.getD w3.toNat (.i 0)).cell 4).items) fun y0=>
   bif y0.isSome then
    bif (decide ((w5.length+(y0.getD default).2.length)*1≤a0X)&&decide ((w5.length+(y0.getD default).2.length)≤a0c)) then
     kr (IntKind.wrap .i64 (w3+1)) ((y0.getD default).2.isEmpty&&w4) (w5++(y0.getD default).2)
    else
     none
   else
    none
  else
   none
 else
  k0 (w4,w5)
def a93 (N:Nat) {R:Type} (w1:LD) (w2:Int):Nat→Int→Bool→LD→(Bool×LD→Option R)→Option R
 |0,_,_,_,_=>none
 |m+1,w3,w4,w5,k0=>b2T N w1 w2 w3 w4 w5 (fun w3 w4 w5=>a93 N w1 w2 m w3 w4 w5 k0) k0
def b7F (w1:LD) (w2:Int) (w3:Int) (w4:Bool) (w5:LD):Option (Bool×LD):=a93 N (R:=(Bool×LD)) w1 w2 N w3 w4 w5 some
def d9g:=(d9f N).l1 (e19 N) 18 [3,4,5] [2,3,5] [5] ⟨[(5,cO 5),(15,cL 154),(16,cI),(17,cI)],[(5,.row 5 true)]⟩ N (fun L x _ kr=>b2T N (ll L 1) (li L 2) (li x 0) (lb x 1) (ll x 2) (fun w3 w4 w5=>kr [.i w3,.b w4,.l w5])) (fun L m x=>a93 N (ll L 1) (li L 2) m (li x 0) (lb x 1) (ll x 2) some) (fun s m L p=>((.exit 0),⟨[(5,.c (.o 5))],[(5,.row 5 true p.1 p.2)]⟩)) fun _ _ _ _ _=>by unfold b2T;exact bb
def d2J (v1:LD) (k0:Bool×LD×Int→Option R):Option R:=
 bnd (c8C N v1) fun y0=>
 bif y0.isSome then
  bif ((y0.getD default) !=0) then
   k0 (true,[],(y0.getD default))
  else
   bnd (b7F N v1 (v1.length:Int) 0 true []) fun y1=>
   bif y1.isSome then
    bnd (b7u N ((y1.getD default).2.length:Int) 4 true) fun y2=>
    bif y2.isSome then
     bnd (d9b N [(.l false [(.i 72),(.i 65),(.i 82),(.i 49)]),(.l false (y2.getD default)),(.l (y1.getD default).1 (y1.getD default).2)]) fun y3=>
     bif y3.isSome then
      bnd (d9e N (y3.getD default).2) fun y4=>
      bif y4.isSome then
       bnd (b7u N (y4.getD default) 4 true) fun y5=>
       bif y5.isSome then
        bif (decide (((y3.getD default).2.length+(y5.getD default).length)*1≤a0X)&&decide (((y3.getD default).2.length+(y5.getD default).length)≤a0c)) then
         bnd ((y5.getD default).isEmpty&&(y3.getD default).1) fun y6=>
         bnd (((y3.getD default).2++(y5.getD default)).length:Int) fun y7=>
         bif (decide (y7>4000000)) then
          k0 (true,[],3)
         else
          k0 (y6,((y3.getD default).2++(y5.getD default)),0)
        else
         none
       else
        none
      else
       none
     else
      none
    else
     none
   else
    none
 else
  none
def c5y (v1:LD):Option (Bool×LD×Int):=d2J N v1 some
def e4D:=(d9g N).f1 (e19 N) ⟨[(0,.g ([.sl 154]))],[]⟩ (fun L _=>d2J N (ll L 1)) (fun L p=>([.c (.sl 5 p.1 p.2.1),.c (.i .i64 p.2.2)],[])) fun _ _=>by unfold d2J;exact bb
def d9h (N:Nat):Sg Tryz.prog 0 36:= .start [] [(0,[0]),(1,[0])]
def d9i (N:Nat) (v0:Int) (k0:LD→R):R:=
 k0 [(.i (IntKind.wrap .u8 (v0.fdiv (2^24)))),(.i (IntKind.wrap .u8 (v0.fdiv (2^16)))),(.i (IntKind.wrap .u8 (v0.fdiv (2^8)))),(.i (IntKind.wrap .u8 v0))]
def d2K (v0:Int):LD:=d9i N v0 (fun p=>p)
def d2L:=(d9h N).f0 (e4D N) ⟨[(0,cI)],[]⟩ (fun L _=>d9i N (li L 0)) (fun L p=>([.c (.sl 5 false p)],[])) fun _ _=>by unfold d9i;exact kk
def d9j (N:Nat):Sg Tryz.prog 0 14:= .start [(21,[3,12,13,29,30,31],[12],[12]),(28,[3,12,13,15,29,30,31],[12,15],[]),(53,[3,12,13,18,29,30,31,63],[12],[])] [(0,[0,1,2,3]),(1,[4,1,2,3]),(2,[11,10,3]),(3,[11]),(4,[10,3]),(5,[10,3,12]),(6,[10,3,13,12]),(7,[31,30,29,3,13,12]),(8,[29,31,3,13,12,30]),(9,[15,3,13,12,31,30,29]),(10,[17,16,13,12,31,30,29,3]),(11,[17]),(12,[16,13,12,31,30,29,3]),(13,[17,13,12,18,31,30,29,3]),(14,[17]),(15,[13,12,18,31,30,29,3]),(16,[13,12,18,31,30,29,3]),(17,[12,18,31,30,29,3,13]),(18,[31,30,29,3,13,12]),(19,[13,12]),(20,[]),(21,[12])]
def a7D (w0:Bool) (w8:LB) (w9 w10:Int) (w12 w14 w16:LD) (k0:Int→Option R) (k1:Bool×LD→Option R) (k2:Bool×LD→Option R):Option R:=
 bnd (b4l N w8 w9 w10 w12 w14 w16 w0) fun y0=>
 bif (a0U y0) then
  k0 (a1E y0)
 else
  bif (a0U (a0n y0)) then
   k1 (a1E (a0n y0))
  else
   bif (a0n (a0n y0)).isSome then
    k2 ((a0n (a0n y0)).getD default)
   else
    none
def a52 (w0:Bool) (w8:LB) (w9 w10:Int) (w12 w14 w16:LD):Option (Sum (Int) (Sum (Bool×LD) (Bool×LD))):=a7D N w0 w8 w9 w10 w12 w14 w16 (fun p=>some (.inl p)) (fun p=>some (.inr (.inl p))) (fun p=>some (.inr (.inr p)))
def d9k:=(d9j N).c3 (d2L N) 28 100 [3,12,13,16,17,29,30,31] [12,16,39000000998,39050029000] ⟨[(3,cB),(12,cO 12),(13,cB),(15,cP 15),(29,cL 36),(30,cI),(31,cI)],[(12,.row 5 true),(15,bX0)]⟩ (fun L _=>a7D N (lb L 0) (ls L 8) (li L 9) (li L 10) (ll L 12) (ll L 14) (ll L 16)) (fun s m L p=>(.normal,mg s [3,12,13,16,17,29,30,31] [(16,.c (.p 16 0)),(17,.c (.i .i64 p))] [12,16] [(16,.box [.sl 154 true []])])) (fun s m L p=>(.normal,mg s [3,12,13,16,17,29,30,31] [(16,.c (.p 16 0)),(17,.c (.i .i64 0))] [12,16,39050029000] [(16,.box [.o 39050029000]),(39050029000,.row 154 true p.1 p.2)])) (fun s m L p=>(.normal,mg s [3,12,13,16,17,29,30,31] [(16,.c (.p 16 0)),(17,.c (.i .i64 0))] [12,16,39000000998] [(16,.box [.o 39000000998]),(39000000998,.row 154 true p.1 p.2)])) fun _ _ _ _=>by unfold a7D;exact bb
def b2U (w3:LD) (w8 w9:Bool) (w10:LD) (k0:Bool×LD→Option R) (k1:Unit→Option R):Option R:=
 bif w8 then
  bnd (d2K N (w3.length:Int)) fun y0=>
  bif (decide ((w10.length+y0.length)*1≤a0X)&&decide ((w10.length+y0.length)≤a0c)) then
   bif (decide (((w10++y0).length+w3.length)*1≤a0X)&&decide (((w10++y0).length+w3.length)≤a0c)) then
    k0 ((w3.isEmpty&&(y0.isEmpty&&w9)),((w10++y0)++w3))
   else
    none
  else
   none
 else
  k1 ()
def a7E (w3:LD) (w8 w9:Bool) (w10:LD):Option (Sum (Bool×LD) (Unit)):=b2U N w3 w8 w9 w10 (fun p=>some (.inl p)) (fun p=>some (.inr p))
def d9l:=(d9k N).c2 (d2L N) 53 100 [3,12,13,29,30,31] [12,70] ⟨[(3,cB),(12,cO 12),(13,cB),(18,cL 5),(29,cL 36),(30,cI),(31,cI),(63,cB)],[(12,.row 5 true)]⟩ (fun L _=>b2U N (ll L 3) (lb L 8) (lb L 9) (ll L 10)) (fun s m L p=>(.normal,mg s [3,12,13,29,30,31] [(12,.c (.o 70))] [70] [(70,.row 5 true p.1 p.2)])) (fun s m L _=>(.normal,mg s [3,12,13,29,30,31] [] [12] [])) fun _ _ _=>by unfold b2U;exact bb
def a94 (w0:Bool) (w3:LD) (w4:Int) (w1:Bool) (w5:Int) (w6:Bool) (w7:LD) (kr:Bool→Int→Bool→LD→Option R) (k0:Int×Bool×LD→Option R) (k1:Bool×Bool×LD→Option R):Option R:=
 bif (decide (w5<w4)) then
  bif (inB w5 w3.length) then
   bnd (a52 N w0 ((w3.getD w5.toNat (.i 0)).cell 0).toS ((w3.getD w5.toNat (.i 0)).cell 1).toI ((w3.getD w5.toNat (.i 0)).cell 2).toI ((w3.getD w5.toNat (.i 0)).cell 3).items ((w3.getD w5.toNat (.i 0)).cell 4).items ((w3.getD w5.toNat (.i 0)).cell 5).items) fun y0=>
   bif (a0U y0) then
    bif ((a1E y0) !=0) then
     k0 ((a1E y0),w6,w7)
    else
     bnd (c5y N []) fun y1=>
     bif y1.isSome then
      bif ((y1.getD default).2.2 !=0) then
       k0 ((y1.getD default).2.2,w6,w7)
      else
       bnd (bif w1 then true else (decide ((IntKind.wrap .i64 ((IntKind.wrap .i64 ((w7.length:Int)+4))+((y1.getD default).2.1.length:Int)))>100000000))) fun y2=>
       bnd (a7E N (y1.getD default).2.1 (!y2) w6 w7) fun y3=>
       bif (a0U y3) then
        kr y2 (IntKind.wrap .i64 (w5+1)) (a1E y3).1 (a1E y3).2
       else
        bif (a0n y3).isSome then
         kr y2 (IntKind.wrap .i64 (w5+1)) w6 w7
        else
         none
     else
      none
   else
    bif (a0U (a0n y0)) then
     bnd (c5y N (a1E (a0n y0)).2) fun y4=>
     bif y4.isSome then
      bif ((y4.getD default).2.2 !=0) then
       k0 ((y4.getD default).2.2,w6,w7)
      else
       bnd (bif w1 then true else (decide ((IntKind.wrap .i64 ((IntKind.wrap .i64 ((w7.length:Int)+4))+((y4.getD default).2.1.length:Int)))>100000000))) fun y5=>
       bnd (a7E N (y4.getD default).2.1 (!y5) w6 w7) fun y6=>
       bif (a0U y6) then
        kr y5 (IntKind.wrap .i64 (w5+1)) (a1E y6).1 (a1E y6).2
       else
        bif (a0n y6).isSome then
         kr y5 (IntKind.wrap .i64 (w5+1)) w6 w7
        else
         none
     else
      none
    else
     bif (a0n (a0n y0)).isSome then
      bnd (c5y N ((a0n (a0n y0)).getD default).2) fun y7=>
      bif y7.isSome then
       bif ((y7.getD default).2.2 !=0) then
        k0 ((y7.getD default).2.2,w6,w7)
       else
        bnd (bif w1 then true else (decide ((IntKind.wrap .i64 ((IntKind.wrap .i64 ((w7.length:Int)+4))+((y7.getD default).2.1.length:Int)))>100000000))) fun y8=>
        bnd (a7E N (y7.getD default).2.1 (!y8) w6 w7) fun y9=>
        bif (a0U y9) then
         kr y8 (IntKind.wrap .i64 (w5+1)) (a1E y9).1 (a1E y9).2
        else
         bif (a0n y9).isSome then
          kr y8 (IntKind.wrap .i64 (w5+1)) w6 w7
         else
          none
      else
       none
     else
      none
  else
   none
 else
  k1 (w1,w6,w7)
def a4I (N:Nat) {R:Type} (w0:Bool) (w3:LD) (w4:Int):Nat→Bool→Int→Bool→LD→(Int×Bool×LD→Option R)→(Bool×Bool×LD→Option R)→Option R
 |0,_,_,_,_,_,_=>none
 |m+1,w1,w5,w6,w7,k0,k1=>a94 N w0 w3 w4 w1 w5 w6 w7 (fun w1 w5 w6 w7=>a4I N w0 w3 w4 m w1 w5 w6 w7 k0 k1) k0 k1
def c3Q (w0:Bool) (w3:LD) (w4:Int) (w1:Bool) (w5:Int) (w6:Bool) (w7:LD):Option (Sum (Int×Bool×LD) (Bool×Bool×LD)):=a4I N (R:=(Sum (Int×Bool×LD) (Bool×Bool×LD))) w0 w3 w4 N w1 w5 w6 w7 (fun p=>some (.inl p)) (fun p=>some (.inr p))
def d9m:=(d9l N).l2 (d2L N) 21 [1,5,6,7] [8,9,12,13] [12] ⟨[(3,cB),(12,cO 12),(13,cB),(29,cL 36),(30,cI),(31,cI)],[(12,.row 5 true)]⟩ N (fun L x _ kr=>a94 N (lb L 0) (ll L 3) (li L 4) (lb x 0) (li x 1) (lb x 2) (ll x 3) (fun w1 w5 w6 w7=>kr [.b w1,.i w5,.b w6,.l w7])) (fun L m x=>a4I N (lb L 0) (ll L 3) (li L 4) m (lb x 0) (li x 1) (lb x 2) (ll x 3) (fun p=>some (.inl p)) (fun p=>some (.inr p))) (fun s m L p=>(.ret,⟨[(8,.c (.sl 5 true [])),(9,.c (.i .i64 p.1))],[(12,.row 5 true p.2.1 p.2.2)]⟩)) (fun s m L p=>((.exit 0),⟨[(12,.c (.o 12)),(13,.c (.b p.1))],[(12,.row 5 true p.2.1 p.2.2)]⟩)) fun _ _ _ _ _ _=>by unfold a94;exact bb
def c5z (v1:LD) (v2:Int) (v4:LD) (v5:Bool) (k0:Bool×LD×Int→Option R):Option R:=
 bnd (b63 N v1 v2 v4) fun y0=>
 bif y0.isSome then
  bif ((y0.getD default).2.2 !=0) then
   k0 (true,[],(y0.getD default).2.2)
  else
   bnd (c3Q N v5 (y0.getD default).2.1 ((y0.getD default).2.1.length:Int) false 0 true []) fun y1=>
   bif (a0U y1) then
    k0 (true,[],(a1E y1).1)
   else
    bif (a0n y1).isSome then
     bif ((a0n y1).getD default).1 then
      k0 (true,[],3)
     else
      k0 (((a0n y1).getD default).2.1,((a0n y1).getD default).2.2,0)
    else
     none
 else
  none
def b47 (v1:LD) (v2:Int) (v4:LD) (v5:Bool):Option (Bool×LD×Int):=c5z N v1 v2 v4 v5 some
def e2a:=(d9m N).f1 (d2L N) ⟨[(0,gX9),(1,cI),(2,cL 36),(3,cB)],[]⟩ (fun L _=>c5z N (ll L 1) (li L 2) (ll L 4) (lb L 5)) (fun L p=>([.c (.sl 5 p.1 p.2.1),.c (.i .i64 p.2.2)],[])) fun _ _=>by unfold c5z;exact bb
def d9n (N:Nat):Sg Tryz.prog 0 15:= .start [(12,[0,1,12,13],[],[])] [(0,[0,1]),(1,[0,1]),(2,[]),(3,[0,1]),(4,[13,12,0,1]),(5,[13,0,1,12]),(6,[0,5,1,13,12]),(7,[]),(8,[13,12,0,1]),(9,[])]
def a7F (N:Nat) (w1 w3:LD) (w4:Int) (w5:Int) (kr:Int→Option R) (k0:Unit→Option R) (k1:Unit→Option R):Option R:=
 bif (decide (w5<w4)) then
  bif (inB w5 w1.length) then
   bif (inB w5 w3.length) then
    bnd (!((((w1.getD w5.toNat (.i 0)).cell 0).toI==((w3.getD w5.toNat (.i 0)).cell 0).toI)&&((((w1.getD w5.toNat (.i 0)).cell 1).toI==((w3.getD w5.toNat (.i 0)).cell 1).toI)&&((((w1.getD w5.toNat (.i 0)).cell 2).toI==((w3.getD w5.toNat (.i 0)).cell 2).toI)&&((((w1.getD w5.toNat (.i 0)).cell 3).toB==((w3.getD w5.toNat (.i 0)).cell 3).toB)&&true))))) fun y0=>
    bif y0 then
     k0 ()
    else
     kr (IntKind.wrap .i64 (w5+1))
   else
    none
  else
   none
 else
  k1 ()
def b2V (N:Nat) {R:Type} (w1 w3:LD) (w4:Int):Nat→Int→(Unit→Option R)→(Unit→Option R)→Option R
 |0,_,_,_=>none
 |m+1,w5,k0,k1=>a7F N w1 w3 w4 w5 (fun w5=>b2V N w1 w3 w4 m w5 k0 k1) k0 k1
def b7G (w1 w3:LD) (w4:Int) (w5:Int):Option (Sum (Unit) (Unit)):=b2V N (R:=(Sum (Unit) (Unit))) w1 w3 w4 N w5 (fun p=>some (.inl p)) (fun p=>some (.inr p))
def d9o:=(d9n N).l2 (e2a N) 12 [5] [4] [] ⟨[(0,cL 58),(1,cL 58),(12,cI),(13,cI)],[]⟩ N (fun L x _ kr=>a7F N (ll L 1) (ll L 3) (li L 4) (li x 0) (fun w5=>kr [.i w5])) (fun L m x=>b2V N (ll L 1) (ll L 3) (li L 4) m (li x 0) (fun p=>some (.inl p)) (fun p=>some (.inr p))) (fun s m L _=>(.ret,⟨[(4,.c (.b false))],[]⟩)) (fun s m L _=>((.exit 0),⟨[],[]⟩)) fun _ _ _ _ _ _=>by unfold a7F;exact bb
def d2M (v1 v3:LD) (k0:Bool→Option R):Option R:=
 bif ((v1.length:Int) !=(v3.length:Int)) then
  k0 false
 else
  bnd (b7G N v1 v3 (v1.length:Int) 0) fun y0=>
  bif (a0U y0) then
   k0 false
  else
   bif (a0n y0).isSome then
    k0 true
   else
    none
def d9p (v1 v3:LD):Option (Bool):=d2M N v1 v3 some
def e2b:=(d9o N).f1 (e2a N) ⟨[(0,cL 58),(1,cL 58)],[]⟩ (fun L _=>d2M N (ll L 1) (ll L 3)) (fun L p=>([.c (.b p)],[])) fun _ _=>by unfold d2M;exact bb
def d9q (N:Nat):Sg Tryz.prog 0 16:= .start [(12,[0,1,12,13],[],[])] [(0,[0,1]),(1,[0,1]),(2,[]),(3,[0,1]),(4,[13,12,0,1]),(5,[13,0,1,12]),(6,[0,5,1,13,12]),(7,[]),(8,[13,12,0,1]),(9,[])]
def a7G (N:Nat) (w1 w3:LD) (w4:Int) (w5:Int) (kr:Int→Option R) (k0:Unit→Option R) (k1:Unit→Option R):Option R:=
 bif (decide (w5<w4)) then
  bif (inB w5 w1.length) then
   bif (inB w5 w3.length) then
    bnd ((w1.getD w5.toNat (.i 0)).toI !=(w3.getD w5.toNat (.i 0)).toI) fun y0=>
    bif y0 then
     k0 ()
    else
     kr (IntKind.wrap .i64 (w5+1))
   else
    none
  else
   none
 else
  k1 ()
def b2W (N:Nat) {R:Type} (w1 w3:LD) (w4:Int):Nat→Int→(Unit→Option R)→(Unit→Option R)→Option R
 |0,_,_,_=>none
 |m+1,w5,k0,k1=>a7G N w1 w3 w4 w5 (fun w5=>b2W N w1 w3 w4 m w5 k0 k1) k0 k1
def b7H (w1 w3:LD) (w4:Int) (w5:Int):Option (Sum (Unit) (Unit)):=b2W N (R:=(Sum (Unit) (Unit))) w1 w3 w4 N w5 (fun p=>some (.inl p)) (fun p=>some (.inr p))
def d9r:=(d9q N).l2 (e2b N) 12 [5] [4] [] ⟨[(0,cL 5),(1,cL 5),(12,cI),(13,cI)],[]⟩ N (fun L x _ kr=>a7G N (ll L 1) (ll L 3) (li L 4) (li x 0) (fun w5=>kr [.i w5])) (fun L m x=>b2W N (ll L 1) (ll L 3) (li L 4) m (li x 0) (fun p=>some (.inl p)) (fun p=>some (.inr p))) (fun s m L _=>(.ret,⟨[(4,.c (.b false))],[]⟩)) (fun s m L _=>((.exit 0),⟨[],[]⟩)) fun _ _ _ _ _ _=>by unfold a7G;exact bb
def d2N (v1 v3:LD) (k0:Bool→Option R):Option R:=
 bif ((v1.length:Int) !=(v3.length:Int)) then
  k0 false
 else
  bnd (b7H N v1 v3 (v1.length:Int) 0) fun y0=>
  bif (a0U y0) then
   k0 false
  else
   bif (a0n y0).isSome then
    k0 true
   else
    none
def d9s (v1 v3:LD):Option (Bool):=d2N N v1 v3 some
def e4E:=(d9r N).f1 (e2b N) ⟨[(0,cL 5),(1,cL 5)],[]⟩ (fun L _=>d2N N (ll L 1) (ll L 3)) (fun L p=>([.c (.b p)],[])) fun _ _=>by unfold d2N;exact bb
def d9t (N:Nat):Sg Tryz.prog 0 38:= .start [] [(0,[0,1,2]),(1,[0,1,2])]
def d9u (N:Nat) (v0 v1 v2:Int) (k0:Bool→R):R:=
 k0 (bif (decide (v0≥v1)) then (decide (v0≤v2)) else false)
def e2c (v0 v1 v2:Int):Bool:=d9u N v0 v1 v2 (fun p=>p)
def e2d:=(d9t N).f0 (e4E N) ⟨[(0,cI),(1,cI),(2,cI)],[]⟩ (fun L _=>d9u N (li L 0) (li L 1) (li L 2)) (fun L p=>([.c (.b p)],[])) fun _ _=>by unfold d9u;exact kk
def d9v (N:Nat):Sg Tryz.prog 0 17:= .start [(22,[1,2,4,7],[2,4,7],[])] [(0,[0,1]),(1,[2,4,1]),(2,[6,4,1,2]),(3,[6,4]),(4,[1,4,2]),(5,[4]),(6,[2,1,4]),(7,[2,7,1,4])]
def b2X (w8:Bool) (w9:LD) (k0:Unit→Option R) (k1:Bool→Option R):Option R:=
 bnd (d03 N w8 w9) fun y0=>
 bif (a0U y0) then
  k0 ()
 else
  bif (a0n y0).isSome then
   k1 ((a0n y0).getD default)
  else
   none
def b7I (w8:Bool) (w9:LD):Option (Sum (Unit) (Bool)):=b2X N w8 w9 (fun p=>some (.inl p)) (fun p=>some (.inr p))
def d9w:=(d9v N).c2 (e2d N) 22 100 [4,5] [4,42000000007] ⟨[(1,cI),(2,cP 2),(4,cP 4),(7,cP 7)],[(2,bX0),(4,.box (.s::rI 6 ([.sl 9]))),(7,.box (rI 10 ([])))]⟩ (fun L _=>b2X N (lb L 8) (ll L 9)) (fun s m L _=>(.normal,⟨[(4,.c (.p 4 0)),(5,.c (.i .i64 0))],[(4,.box [.s (ls L 1),.i .i64 (li L 2),.i .i64 (li L 3),.i .i64 (li L 21),.i .i64 (li L 22),.i .i64 (li L 20),.i .i64 (li L 0),.sl 9 true []])]⟩)) (fun s m L p=>(.normal,⟨[(4,.c (.p 4 0)),(5,.c (.i .i64 0))],[(4,.box [.s (ls L 1),.i .i64 (li L 2),.i .i64 (li L 3),.i .i64 (li L 21),.i .i64 (li L 22),.i .i64 (li L 20),.i .i64 (li L 0),.o 42000000007]),(42000000007,.row 9 true p (ll L 9))]⟩)) fun _ _ _=>by unfold b2X;exact bb
def d2O (v0:LB) (v1 v2:Int) (v4 v6:LD) (v7:Bool) (v8:LD) (v9:Int) (k0:Ty2→Option R):Option R:=
 bnd (b1Q N v0 v1 v2 v4 v6 v8) fun y0=>
 bif y0.isSome then
  bif ((y0.getD default) !=0) then
   k0 (([]:List UInt8),0,0,0,0,0,0,true,[],(y0.getD default))
  else
   bnd (e2c N v9 0 1000000) fun y1=>
   bif (!y1) then
    k0 (([]:List UInt8),0,0,0,0,0,0,true,[],9)
   else
    bnd (a8r N v4) fun y2=>
    bif y2.isSome then
     bnd (c1z N v0 v1 v2 v4 v6 v8 0 (y2.getD default)) fun y3=>
     bif y3.isSome then
      bnd (b7I N v7 v8) fun y4=>
      bif (a0U y4) then
       k0 (v0,v1,v2,(y3.getD default).2.2.1,(y3.getD default).2.2.2.1,(y3.getD default).2.1,v9,true,[],0)
      else
       bif (a0n y4).isSome then
        k0 (v0,v1,v2,(y3.getD default).2.2.1,(y3.getD default).2.2.2.1,(y3.getD default).2.1,v9,((a0n y4).getD default),v8,0)
       else
        none
     else
      none
    else
     none
 else
  none
def d9x (v0:LB) (v1 v2:Int) (v4 v6:LD) (v7:Bool) (v8:LD) (v9:Int):Option (Ty2):=d2O N v0 v1 v2 v4 v6 v7 v8 v9 some
def a5q:=(d9w N).f1 (e2d N) ⟨[(0,gX4),(1,cI)],[]⟩ (fun L _=>d2O N (ls L 0) (li L 1) (li L 2) (ll L 4) (ll L 6) (lb L 7) (ll L 8) (li L 9)) (fun L p=>let p1:=p.2;let p2:=p1.2;let p3:=p2.2;let p4:=p3.2;let p5:=p4.2;let p6:=p5.2;let p7:=p6.2;let p8:=p7.2;let p9:=p8.2;([.g [.s p.1,.i .i64 p1.1,.i .i64 p2.1,.i .i64 p3.1,.i .i64 p4.1,.i .i64 p5.1,.i .i64 p6.1,.sl 9 p7.1 p8.1],.c (.i .i64 p9)],[])) fun _ _=>by unfold d2O;exact bb
def e2e (N:Nat):Sg Tryz.prog 0 3:= .start [(13,[1,2,3,4,5,6,7,8,17],[8],[]),(31,[1,2,3,4,5,6,7,8,17,19,20,23],[8,23,56000000007],[]),(55,[1,2,3,6,7,8,17,19,20,22,23,25],[8,23,56000000007,95000000007],[]),(36,[1,2,3,4,5,6,7,8,17,19,20,23,98,99],[8,23,56000000007,95000000007],[]),(47,[1,2,3,4,5,6,7,8,17,19,20,23,24,98,99,105],[8,23,56000000007,95000000007],[]),(67,[1,2,6,7,8,17,18,19,27],[8,56000000007],[]),(91,[17,18,28,29,30,31,32,33,34,35,36,37,38],[28,29],[]),(108,[28,39,245,246,247],[28],[]),(130,[28,39],[28],[]),(20,[1,2,3,4,5,6,7,8,17,19,63],[8,56000000007],[])] [(0,[0,1,2,3,4,5,6,7]),(1,[8,1,2,3,4,5,6,7]),(2,[18,2,3,8,1,4,5,17,6,7]),(3,[]),(4,[2,3,8,1,4,5,17,6,7]),(5,[3,2,8,1,4,5,19,17,6,7]),(6,[8,1,2,3,4,5,19,17,6,7]),(7,[22,20,2,3,4,5,8,1,19,17,6,7]),(8,[]),(9,[2,3,20,4,5,8,1,19,17,6,7]),(10,[23,20,4,5,8,1,19,3,17,2,6,7]),(11,[23,20,4,5,8,1,19,3,17,2,6,7]),(12,[99,98,20,23,4,5,8,1,19,3,17,2,6,7]),(13,[99,20,23,4,5,98,8,1,19,3,17,2,6,7]),(14,[20,24,23,4,5,99,98,8,1,19,3,17,2,6,7]),(15,[23,24,4,5,99,98,20,8,1,19,3,17,2,6,7]),(16,[99,98,20,23,4,5,8,1,19,3,17,2,6,7]),(17,[8,1,23,20,19,3,17,2,6,7]),(18,[22,20,25,19,3,23,8,1,17,2,6,7]),(19,[]),(20,[19,3,23,8,1,17,2,6,7]),(21,[8,1,19,17,2,6,7]),(22,[18,17,27,8,1,2,19,6,7]),(23,[]),(24,[8,1,2,19,6,7,17]),(25,[8,1,19,2,6,7,28,18,17]),(26,[8,1,2,6,7,19,28,29,18,30,17]),(27,[8,1,19,6,7,2,28,29,18,30,31,32,17]),(28,[8,1,2,19,28,29,18,30,31,33,32,34,17]),(29,[8,1,19,28,29,18,30,31,33,32,34,35,36,17]),(30,[28,29,18,30,31,33,32,34,35,37,36,38,17]),(31,[]),(32,[18,28,17]),(33,[]),(34,[17,28]),(35,[17,39,28]),(36,[247,246,245,39,28]),(37,[245,247,39,246,28]),(38,[41,39,247,246,245,28]),(39,[43,39,42,247,246,245,28]),(40,[]),(41,[39,42,247,246,245,28]),(42,[247,246,245,39,28]),(43,[39,28])]
def b7J (w1:Bool) (w2:LD) (k0:Unit→Option R) (k1:Bool→Option R):Option R:=
 bnd (e5k N w1 w2) fun y0=>
 bif (a0U y0) then
  k0 ()
 else
  bif (a0n y0).isSome then
   k1 ((a0n y0).getD default)
  else
   none
def b7K (w1:Bool) (w2:LD):Option (Sum (Unit) (Bool)):=b7J N w1 w2 (fun p=>some (.inl p)) (fun p=>some (.inr p))
def e2f:=(e2e N).c2 (a5q N) 13 100 [1,2,3,4,5,6,7,8,17,19] [8,56000000007] ⟨[(1,cI),(2,cL 36),(3,cI),(4,cI),(5,cI),(6,cI),(7,cL 3),(8,cP 8),(17,cL 36)],[(8,bX3)]⟩ (fun L _=>b7J N (lb L 1) (ll L 2)) (fun s m L _=>(.normal,mg s [1,2,3,4,5,6,7,8,17,19] [(19,.c (.sl 36 true []))] [8] [])) (fun s m L p=>(.normal,m [(19,.c (.o 56000000007))] [(56000000007,.row 36 true p (ll L 2))])) fun _ _ _=>by unfold b7J;exact bb
def c1F (w20:Bool) (w21:LD) (k0:Unit→Option R) (k1:Bool→Option R):Option R:=
 bnd (e4h N w20 w21) fun y0=>
 bif (a0U y0) then
  k0 ()
 else
  bif (a0n y0).isSome then
   k1 ((a0n y0).getD default)
  else
   none
def d9y (w20:Bool) (w21:LD):Option (Sum (Unit) (Bool)):=c1F N w20 w21 (fun p=>some (.inl p)) (fun p=>some (.inr p))
def e2g:=(e2f N).c2 (a5q N) 31 100 [1,2,3,4,5,6,7,8,17,19,20,23] [8,23,95000000007] ⟨[(1,cI),(2,cL 36),(3,cI),(4,cI),(5,cI),(6,cI),(7,cL 3),(8,cP 8),(17,cL 36),(19,.c (.nsl 36)),(20,cL 4),(23,cP 23)],[(8,bX3),(23,bX0)]⟩ (fun L _=>c1F N (lb L 20) (ll L 21)) (fun s m L _=>(.normal,mg s [1,2,3,4,5,6,7,8,17,19,20,23] [] [8,23] [(23,.box [.s (ls L 17),.i .i64 (li L 18),.i .i64 (li L 19),.sl 42 true [],.sl 81 (lb L 22) (ll L 23),.sl 9 (lb L 24) (ll L 25)])])) (fun s m L p=>(.normal,m [] [(23,.box [.s (ls L 17),.i .i64 (li L 18),.i .i64 (li L 19),.o 95000000007,.sl 81 (lb L 22) (ll L 23),.sl 9 (lb L 24) (ll L 25)]),(95000000007,.row 42 true p (ll L 21))])) fun _ _ _=>by unfold c1F;exact bb
def c1G (w12:LD) (w13:Int) (w15:LD) (k0:Bool→Option R):Option R:=
 bif (w13 !=0) then
  k0 true
 else
  bnd (e0x N w12 w15) fun y0=>
  bif y0.isSome then
   k0 (!(y0.getD default))
  else
   none
def d9z (w12:LD) (w13:Int) (w15:LD):Option (Bool):=c1G N w12 w13 w15 some
def e2h:=(e2g N).c1 (a5q N) 55 100 [1,2,3,6,7,8,17,19,23,139] [8,23] ⟨[(1,cI),(2,cL 36),(3,cI),(6,cI),(7,cL 3),(8,cP 8),(17,cL 36),(19,.c (.nsl 36)),(20,cL 4),(22,cI),(23,cP 23),(25,cL 4)],[(8,bX3),(23,.box (.s::[.i .i64,.i .i64,.nsl 42,.sl 81,.sl 9]))]⟩ (fun L _=>c1G N (ll L 12) (li L 13) (ll L 15)) (fun s m L p=>(.normal,m [(139,.c (.b p))] [])) fun _ _=>by unfold c1G;exact bb
def b7L (N:Nat) (w4 w5 w15:Int) (w18:Bool) (w29:LD) (k0:LD→Option R):Option R:=
 bif w18 then
  bif (inB w15 w29.length) then
   bif (decide (w15.toNat<w29.length)) then
    bnd ((w29.set w15.toNat (.a [(.i ((w29.getD w15.toNat (.i 0)).cell 0).toI),(.i w4),(.i ((w29.getD w15.toNat (.i 0)).cell 2).toI),(.i ((w29.getD w15.toNat (.i 0)).cell 3).toI),(.i ((w29.getD w15.toNat (.i 0)).cell 4).toI),(.i ((w29.getD w15.toNat (.i 0)).cell 5).toI),(.i ((w29.getD w15.toNat (.i 0)).cell 6).toI)])):List D) fun y0=>
    bif (inB w15 y0.length) then
     bif (decide (w15.toNat<y0.length)) then
      bnd ((y0.set w15.toNat (.a [(.i ((y0.getD w15.toNat (.i 0)).cell 0).toI),(.i ((y0.getD w15.toNat (.i 0)).cell 1).toI),(.i w5),(.i ((y0.getD w15.toNat (.i 0)).cell 3).toI),(.i ((y0.getD w15.toNat (.i 0)).cell 4).toI),(.i ((y0.getD w15.toNat (.i 0)).cell 5).toI),(.i ((y0.getD w15.toNat (.i 0)).cell 6).toI)])):List D) fun y1=>
      bif (inB w15 y1.length) then
       bif (decide (w15.toNat<y1.length)) then
        bnd ((y1.set w15.toNat (.a [(.i ((y1.getD w15.toNat (.i 0)).cell 0).toI),(.i ((y1.getD w15.toNat (.i 0)).cell 1).toI),(.i ((y1.getD w15.toNat (.i 0)).cell 2).toI),(.i ((y1.getD w15.toNat (.i 0)).cell 3).toI),(.i (-1)),(.i ((y1.getD w15.toNat (.i 0)).cell 5).toI),(.i ((y1.getD w15.toNat (.i 0)).cell 6).toI)])):List D) fun y2=>
        k0 y2
       else
        none
      else
       none
     else
      none
    else
     none
   else
    none
  else
   none
 else
  k0 w29
def c1H (w4 w5 w15:Int) (w18:Bool) (w29:LD):Option (LD):=b7L N w4 w5 w15 w18 w29 some
def e2i:=(e2h N).c1 (a5q N) 47 100 [1,2,3,4,5,6,7,8,17,19,20,23,98,99] [8,23,95000000007] ⟨[(1,cI),(2,cL 36),(3,cI),(4,cI),(5,cI),(6,cI),(7,cL 3),(8,cP 8),(17,cL 36),(19,cL 36),(20,cL 4),(23,cP 23),(24,cI),(98,cI),(99,cI),(105,cB)],[(8,bX3),(23,e0w),(95000000007,.row 42 true)]⟩ (fun L _=>b7L N (li L 4) (li L 5) (li L 15) (lb L 18) (ll L 29)) (fun s m L p=>(.normal,m [] [(95000000007,.row 42 true (lb L 28) p)])) fun _ _=>by unfold b7L;exact bb
def b0U (w4 w5:Int) (w14:LD) (w15:Int) (w16:Int) (w27:LD) (kr:Int→LD→Option R) (k0:LD→Option R):Option R:=
 bif (decide (w16<w15)) then
  bif (inB w16 w14.length) then
   bnd (c1H N w4 w5 w16 (w14.getD w16.toNat (.i 0)).toB w27) fun y0=>
   bif y0.isSome then
    kr (IntKind.wrap .i64 (w16+1)) (y0.getD default)
   else
    none
  else
   none
 else
  k0 w27
def b7M (N:Nat) {R:Type} (w4 w5:Int) (w14:LD) (w15:Int):Nat→Int→LD→(LD→Option R)→Option R
 |0,_,_,_=>none
 |m+1,w16,w27,k0=>b0U N w4 w5 w14 w15 w16 w27 (fun w16 w27=>b7M N w4 w5 w14 w15 m w16 w27 k0) k0
def b7N (w4 w5:Int) (w14:LD) (w15:Int) (w16:Int) (w27:LD):Option (LD):=b7M N (R:=(LD)) w4 w5 w14 w15 N w16 w27 some
def d4N:=(e2i N).l1 (a5q N) 36 [16,27] [1,2,3,6,7,8,16,17,19,20,23] [8,23,95000000007] ⟨[(1,cI),(2,cL 36),(3,cI),(4,cI),(5,cI),(6,cI),(7,cL 3),(8,cP 8),(17,cL 36),(19,cL 36),(20,cL 4),(23,cP 23),(98,cI),(99,cI)],[(8,bX3),(23,e0w),(95000000007,.row 42 true)]⟩ N (fun L x _ kr=>b0U N (li L 4) (li L 5) (ll L 14) (li L 15) (li x 0) (ll x 1) (fun w16 w27=>kr [.i w16,.l w27])) (fun L m x=>b7M N (li L 4) (li L 5) (ll L 14) (li L 15) m (li x 0) (ll x 1) some) (fun s m L p=>((.exit 0),mg s [1,2,3,6,7,8,17,19,20,23] [] [8,23,95000000007] [(95000000007,.row 42 true (lb L 26) p)])) fun _ _ _ _ _=>by unfold b0U;exact bb
def b7O (w12:LD) (w13:Int) (w15:LD) (k0:Bool→Option R):Option R:=
 bif (w13 !=0) then
  k0 true
 else
  bnd (e0x N w12 w15) fun y0=>
  bif y0.isSome then
   k0 (!(y0.getD default))
  else
   none
def d2P (w12:LD) (w13:Int) (w15:LD):Option (Bool):=b7O N w12 w13 w15 some
def e2j:=(d4N N).add (((d4N N).no 55).c1 (a5q N) 55 100 [1,2,3,6,7,8,17,19,23,139] [8,23,95000000007] ⟨[(1,cI),(2,cL 36),(3,cI),(6,cI),(7,cL 3),(8,cP 8),(17,cL 36),(19,.c (.nsl 36)),(20,cL 4),(22,cI),(23,cP 23),(25,cL 4)],[(8,bX3),(23,e0w),(95000000007,.row 42 false)]⟩ (fun L _=>b7O N (ll L 12) (li L 13) (ll L 15)) (fun s m L p=>(.normal,m [(139,.c (.b p))] [])) fun _ _=>by unfold b7O;exact bb) 55
def b7P (w7:LD) (w8:Int) (w12:LD) (k0:Bool→Option R):Option R:=
 bif (w8 !=0) then
  k0 true
 else
  bnd (c7Y N w7 w12) fun y0=>
  bif y0.isSome then
   k0 (!(y0.getD default))
  else
   none
def b7Q (w7:LD) (w8:Int) (w12:LD):Option (Bool):=b7P N w7 w8 w12 some
def e2k:=(e2j N).c1 (a5q N) 67 100 [1,2,6,7,8,17,19,159] [8] ⟨[(1,cI),(2,cL 36),(6,cI),(7,cL 3),(8,cP 8),(17,cL 36),(18,cI),(19,.c (.nsl 36)),(27,cL 36)],[(8,bX3)]⟩ (fun L _=>b7P N (ll L 7) (li L 8) (ll L 12)) (fun s m L p=>(.normal,m [(159,.c (.b p))] [])) fun _ _=>by unfold b7P;exact bb
def b7R (w2 w3:Int) (w5:LD) (w6:Int) (w8:LD) (w9:Int) (w11:LD) (w12:Int) (w14:LD) (w15 w16 w17 w18 w19 w20 w21 w22 w23:Int) (k0:Bool→Option R):Option R:=
 bnd (!((w16==w20)&&((w17==w21)&&((w18==w22)&&((w19==w23)&&true))))) fun y0=>
 bif (bif y0 then true else (w2 !=w3)) then
  k0 true
 else
  bnd (d9p N w5 w8) fun y1=>
  bif y1.isSome then
   bif (bif (!(y1.getD default)) then true else (w6 !=w9)) then
    k0 true
   else
    bnd (d9s N w11 w14) fun y2=>
    bif y2.isSome then
     bnd (bif (!(y2.getD default)) then true else (w12 !=w15)) fun y3=>
     k0 y3
    else
     none
  else
   none
def b4q (w2 w3:Int) (w5:LD) (w6:Int) (w8:LD) (w9:Int) (w11:LD) (w12:Int) (w14:LD) (w15 w16 w17 w18 w19 w20 w21 w22 w23:Int):Option (Bool):=b7R N w2 w3 w5 w6 w8 w9 w11 w12 w14 w15 w16 w17 w18 w19 w20 w21 w22 w23 some
def e2l:=(e2k N).c1 (a5q N) 91 100 [17,18,28,235] [28] ⟨[(17,cL 36),(18,cI),(28,cP 28),(29,cP 29),(30,cI),(31,cL 58),(32,cI),(33,cL 58),(34,cI),(35,cL 5),(36,cI),(37,cL 5),(38,cI)],[(28,e0u),(29,e0u)]⟩ (fun L _=>b7R N (li L 2) (li L 3) (ll L 5) (li L 6) (ll L 8) (li L 9) (ll L 11) (li L 12) (ll L 14) (li L 15) (li L 16) (li L 17) (li L 18) (li L 19) (li L 20) (li L 21) (li L 22) (li L 23)) (fun s m L p=>(.normal,m [(235,.c (.b p))] [])) fun _ _=>by unfold b7R;exact bb
def a95 (w2:LD) (w3:Int) (w0 w4:Int) (kr:Int→Int→Option R) (k0:Unit→Option R) (k1:Int→Option R):Option R:=
 bif (decide (w4<w3)) then
  bif (inB w4 w2.length) then
   bnd (d9x N ((w2.getD w4.toNat (.i 0)).cell 0).toS ((w2.getD w4.toNat (.i 0)).cell 1).toI ((w2.getD w4.toNat (.i 0)).cell 2).toI ((w2.getD w4.toNat (.i 0)).cell 3).items ((w2.getD w4.toNat (.i 0)).cell 4).items ((w2.getD w4.toNat (.i 0)).cell 5).isNil ((w2.getD w4.toNat (.i 0)).cell 5).items 0) fun y0=>
   bif y0.isSome then
    bif ((y0.getD default).2.2.2.2.2.2.2.2.2 !=0) then
     k0 ()
    else
     kr (IntKind.wrap .i64 (w0+(y0.getD default).2.2.2.1)) (IntKind.wrap .i64 (w4+1))
   else
    none
  else
   none
 else
  k1 w0
def a7H (N:Nat) {R:Type} (w2:LD) (w3:Int):Nat→Int→Int→(Unit→Option R)→(Int→Option R)→Option R
 |0,_,_,_,_=>none
 |m+1,w0,w4,k0,k1=>a95 N w2 w3 w0 w4 (fun w0 w4=>a7H N w2 w3 m w0 w4 k0 k1) k0 k1
def b2Y (w2:LD) (w3:Int) (w0 w4:Int):Option (Sum (Unit) (Int)):=a7H N (R:=(Sum (Unit) (Int))) w2 w3 N w0 w4 (fun p=>some (.inl p)) (fun p=>some (.inr p))
def e2m:=(e2l N).l2 (a5q N) 108 [0,4] [16,28,39] [28] ⟨[(28,cP 28),(39,cI),(245,cL 36),(246,cI),(247,cI)],[(28,e0u)]⟩ N (fun L x _ kr=>a95 N (ll L 2) (li L 3) (li x 0) (li x 1) (fun w0 w4=>kr [.i w0,.i w4])) (fun L m x=>a7H N (ll L 2) (li L 3) m (li x 0) (li x 1) (fun p=>some (.inl p)) (fun p=>some (.inr p))) (fun s m L _=>(.ret,mg s [16] [(16,.c (.b false))] [28] [])) (fun s m L p=>((.exit 2),mg s [28,39] [(39,.c (.i .i64 p))] [28] [])) fun _ _ _ _ _ _=>by unfold a95;exact bb
def b2Z (N:Nat) (w0 w2:Int) (k0:Bool→R):R:=
 bif (w0==w2) then
  k0 true
 else
  k0 false
def a96 (w0 w2:Int):Bool:=b2Z N w0 w2 (fun p=>p)
def c8F:=(e2m N).c0 (a5q N) 130 100 [16] [] ⟨[(28,cP 28),(39,cI)],[(28,e0u)]⟩ (fun L _=>b2Z N (li L 0) (li L 2)) (fun s m L p=>(.normal,⟨[(16,.c (.b p))],[]⟩)) fun _ _=>by unfold b2Z;exact kk
def b20 (w18:Bool) (w19:LD) (k0:Unit→Option R) (k1:Bool→Option R):Option R:=
 bnd (e4h N w18 w19) fun y0=>
 bif (a0U y0) then
  k0 ()
 else
  bif (a0n y0).isSome then
   k1 ((a0n y0).getD default)
  else
   none
def b21 (w18:Bool) (w19:LD):Option (Sum (Unit) (Bool)):=b20 N w18 w19 (fun p=>some (.inl p)) (fun p=>some (.inr p))
def c8G:=(c8F N).add (((c8F N).no 31).c2 (a5q N) 31 100 [1,2,3,4,5,6,7,8,17,19,20,23] [8,23,56000000007,95000000007] ⟨[(1,cI),(2,cL 36),(3,cI),(4,cI),(5,cI),(6,cI),(7,cL 3),(8,cP 8),(17,cL 36),(19,cO 56000000007),(20,cL 4),(23,cP 23)],[(8,bX3),(23,bX0),(56000000007,.row 36 true)]⟩ (fun L _=>b20 N (lb L 18) (ll L 19)) (fun s m L _=>(.normal,mg s [1,2,3,4,5,6,7,8,17,19,20,23] [] [8,23,56000000007] [(23,.box [.s (ls L 15),.i .i64 (li L 16),.i .i64 (li L 17),.sl 42 true [],.sl 81 (lb L 20) (ll L 21),.sl 9 (lb L 22) (ll L 23)])])) (fun s m L p=>(.normal,m [] [(23,.box [.s (ls L 15),.i .i64 (li L 16),.i .i64 (li L 17),.o 95000000007,.sl 81 (lb L 20) (ll L 21),.sl 9 (lb L 22) (ll L 23)]),(95000000007,.row 42 true p (ll L 19))])) fun _ _ _=>by unfold b20;exact bb) 31
def a97 (w10:LD) (w11:Int) (w13:LD) (k0:Bool→Option R):Option R:=
 bif (w11 !=0) then
  k0 true
 else
  bnd (e0x N w10 w13) fun y0=>
  bif y0.isSome then
   k0 (!(y0.getD default))
  else
   none
def b4r (w10:LD) (w11:Int) (w13:LD):Option (Bool):=a97 N w10 w11 w13 some
def c8H:=(c8G N).add (((c8G N).no 55).c1 (a5q N) 55 100 [1,2,3,6,7,8,17,19,23,139] [8,23,56000000007] ⟨[(1,cI),(2,cL 36),(3,cI),(6,cI),(7,cL 3),(8,cP 8),(17,cL 36),(19,cO 56000000007),(20,cL 4),(22,cI),(23,cP 23),(25,cL 4)],[(8,bX3),(23,.box (.s::[.i .i64,.i .i64,.nsl 42,.sl 81,.sl 9])),(56000000007,.row 36 true)]⟩ (fun L _=>a97 N (ll L 10) (li L 11) (ll L 13)) (fun s m L p=>(.normal,m [(139,.c (.b p))] [])) fun _ _=>by unfold a97;exact bb) 55
def b7S (N:Nat) (w4 w5 w13:Int) (w16:Bool) (w29:LD) (k0:LD→Option R):Option R:=
 bif w16 then
  bif (inB w13 w29.length) then
   bif (decide (w13.toNat<w29.length)) then
    bnd ((w29.set w13.toNat (.a [(.i ((w29.getD w13.toNat (.i 0)).cell 0).toI),(.i w4),(.i ((w29.getD w13.toNat (.i 0)).cell 2).toI),(.i ((w29.getD w13.toNat (.i 0)).cell 3).toI),(.i ((w29.getD w13.toNat (.i 0)).cell 4).toI),(.i ((w29.getD w13.toNat (.i 0)).cell 5).toI),(.i ((w29.getD w13.toNat (.i 0)).cell 6).toI)])):List D) fun y0=>
    bif (inB w13 y0.length) then
     bif (decide (w13.toNat<y0.length)) then
      bnd ((y0.set w13.toNat (.a [(.i ((y0.getD w13.toNat (.i 0)).cell 0).toI),(.i ((y0.getD w13.toNat (.i 0)).cell 1).toI),(.i w5),(.i ((y0.getD w13.toNat (.i 0)).cell 3).toI),(.i ((y0.getD w13.toNat (.i 0)).cell 4).toI),(.i ((y0.getD w13.toNat (.i 0)).cell 5).toI),(.i ((y0.getD w13.toNat (.i 0)).cell 6).toI)])):List D) fun y1=>
      bif (inB w13 y1.length) then
       bif (decide (w13.toNat<y1.length)) then
        bnd ((y1.set w13.toNat (.a [(.i ((y1.getD w13.toNat (.i 0)).cell 0).toI),(.i ((y1.getD w13.toNat (.i 0)).cell 1).toI),(.i ((y1.getD w13.toNat (.i 0)).cell 2).toI),(.i ((y1.getD w13.toNat (.i 0)).cell 3).toI),(.i (-1)),(.i ((y1.getD w13.toNat (.i 0)).cell 5).toI),(.i ((y1.getD w13.toNat (.i 0)).cell 6).toI)])):List D) fun y2=>
        k0 y2
       else
        none
      else
       none
     else
      none
    else
     none
   else
    none
  else
   none
 else
  k0 w29
def d2Q (w4 w5 w13:Int) (w16:Bool) (w29:LD):Option (LD):=b7S N w4 w5 w13 w16 w29 some
def c8I:=(c8H N).add (((c8H N).no 47).c1 (a5q N) 47 100 [1,2,3,4,5,6,7,8,17,19,20,23,98,99] [8,23,56000000007,95000000007] ⟨[(1,cI),(2,cL 36),(3,cI),(4,cI),(5,cI),(6,cI),(7,cL 3),(8,cP 8),(17,cL 36),(19,cO 56000000007),(20,cL 4),(23,cP 23),(24,cI),(98,cI),(99,cI),(105,cB)],[(8,bX3),(23,e0w),(56000000007,.row 36 true),(95000000007,.row 42 true)]⟩ (fun L _=>b7S N (li L 4) (li L 5) (li L 13) (lb L 16) (ll L 29)) (fun s m L p=>(.normal,m [] [(95000000007,.row 42 true (lb L 28) p)])) fun _ _=>by unfold b7S;exact bb) 47
def b7T (w4 w5:Int) (w12:LD) (w13:Int) (w14:Int) (w27:LD) (kr:Int→LD→Option R) (k0:LD→Option R):Option R:=
 bif (decide (w14<w13)) then
  bif (inB w14 w12.length) then
   bnd (d2Q N w4 w5 w14 (w12.getD w14.toNat (.i 0)).toB w27) fun y0=>
   bif y0.isSome then
    kr (IntKind.wrap .i64 (w14+1)) (y0.getD default)
   else
    none
  else
   none
 else
  k0 w27
def b7U (N:Nat) {R:Type} (w4 w5:Int) (w12:LD) (w13:Int):Nat→Int→LD→(LD→Option R)→Option R
 |0,_,_,_=>none
 |m+1,w14,w27,k0=>b7T N w4 w5 w12 w13 w14 w27 (fun w14 w27=>b7U N w4 w5 w12 w13 m w14 w27 k0) k0
def c3R (w4 w5:Int) (w12:LD) (w13:Int) (w14:Int) (w27:LD):Option (LD):=b7U N (R:=(LD)) w4 w5 w12 w13 N w14 w27 some
def c8J:=(c8I N).add (((c8I N).no 36).l1 (a5q N) 36 [14,27] [1,2,3,6,7,8,16,17,19,20,23] [8,23,56000000007,95000000007] ⟨[(1,cI),(2,cL 36),(3,cI),(4,cI),(5,cI),(6,cI),(7,cL 3),(8,cP 8),(17,cL 36),(19,cO 56000000007),(20,cL 4),(23,cP 23),(98,cI),(99,cI)],[(8,bX3),(23,e0w),(56000000007,.row 36 true),(95000000007,.row 42 true)]⟩ N (fun L x _ kr=>b7T N (li L 4) (li L 5) (ll L 12) (li L 13) (li x 0) (ll x 1) (fun w14 w27=>kr [.i w14,.l w27])) (fun L m x=>b7U N (li L 4) (li L 5) (ll L 12) (li L 13) m (li x 0) (ll x 1) some) (fun s m L p=>((.exit 0),mg s [1,2,3,6,7,8,17,19,20,23] [] [8,23,56000000007,95000000007] [(95000000007,.row 42 true (lb L 26) p)])) fun _ _ _ _ _=>by unfold b7T;exact bb) 36
def a5r (w10:LD) (w11:Int) (w13:LD) (k0:Bool→Option R):Option R:=
 bif (w11 !=0) then
  k0 true
 else
  bnd (e0x N w10 w13) fun y0=>
  bif y0.isSome then
   k0 (!(y0.getD default))
  else
   none
def a7I (w10:LD) (w11:Int) (w13:LD):Option (Bool):=a5r N w10 w11 w13 some
def d9A:=(c8J N).add (((c8J N).no 55).c1 (a5q N) 55 100 [1,2,3,6,7,8,17,19,23,139] [8,23,56000000007,95000000007] ⟨[(1,cI),(2,cL 36),(3,cI),(6,cI),(7,cL 3),(8,cP 8),(17,cL 36),(19,cO 56000000007),(20,cL 4),(22,cI),(23,cP 23),(25,cL 4)],[(8,bX3),(23,e0w),(56000000007,.row 36 true),(95000000007,.row 42 false)]⟩ (fun L _=>a5r N (ll L 10) (li L 11) (ll L 13)) (fun s m L p=>(.normal,m [(139,.c (.b p))] [])) fun _ _=>by unfold a5r;exact bb) 55
def b7V (w0 : Int) (w2:LD) (w3 w4 w5:Int) (w11:Bool) (w13 w15:LD) (k0:Bool→Option R) (k1:LD→Option R):Option R:=
 bif w11 then
  bif (inB w3 w2.length) then
   bnd (d4y N w13 w0 ((w2.getD w3.toNat (.i 0)).cell 0).toS ((w2.getD w3.toNat (.i 0)).cell 1).toI ((w2.getD w3.toNat (.i 0)).cell 2).toI ((w2.getD w3.toNat (.i 0)).cell 3).isNil ((w2.getD w3.toNat (.i 0)).cell 3).items ((w2.getD w3.toNat (.i 0)).cell 4).isNil ((w2.getD w3.toNat (.i 0)).cell 4).items ((w2.getD w3.toNat (.i 0)).cell 5).isNil ((w2.getD w3.toNat (.i 0)).cell 5).items) fun y0=>
   bif y0.isSome then
    bif (bif (inB w3 w2.length) then true else (!(((y0.getD default).2.2.2 !=0)==false))) then
     bnd (bif ((y0.getD default).2.2.2 !=0) then true else (((y0.getD default).2.1.length:Int) !=(((w2.getD w3.toNat (.i 0)).cell 3).items.length:Int))) fun y1=>
     bif y1 then
      k0 false
     else
      bif (inB w3 w2.length) then
       bnd (b21 N ((w2.getD w3.toNat (.i 0)).cell 3).isNil ((w2.getD w3.toNat (.i 0)).cell 3).items) fun y2=>
       bif (a0U y2) then
        bnd (d4y N w13 w0 ((w2.getD w3.toNat (.i 0)).cell 0).toS ((w2.getD w3.toNat (.i 0)).cell 1).toI ((w2.getD w3.toNat (.i 0)).cell 2).toI true [] ((w2.getD w3.toNat (.i 0)).cell 4).isNil ((w2.getD w3.toNat (.i 0)).cell 4).items ((w2.getD w3.toNat (.i 0)).cell 5).isNil ((w2.getD w3.toNat (.i 0)).cell 5).items) fun y3=>
        bif y3.isSome then
         bnd (b4r N (y0.getD default).2.1 (y3.getD default).2.2.2 (y3.getD default).2.1) fun y4=>
         bif y4.isSome then
          bif (y4.getD default) then
           k0 true
          else
           bif (inB w3 w15.length) then
            bif (decide (w3.toNat<w15.length)) then
             bnd ((w15.set w3.toNat (.a [(.s ((w2.getD w3.toNat (.i 0)).cell 0).toS),(.i ((w2.getD w3.toNat (.i 0)).cell 1).toI),(.i ((w2.getD w3.toNat (.i 0)).cell 2).toI),(.l true []),(.l ((w2.getD w3.toNat (.i 0)).cell 4).isNil ((w2.getD w3.toNat (.i 0)).cell 4).items),(.l ((w2.getD w3.toNat (.i 0)).cell 5).isNil ((w2.getD w3.toNat (.i 0)).cell 5).items)])):List D) fun y5=>
             k1 y5
            else
             none
           else
            none
         else
          none
        else
         none
       else
        bif (a0n y2).isSome then
         bnd (c3R N w4 w5 (y0.getD default).2.1 (((w2.getD w3.toNat (.i 0)).cell 3).items.length:Int) 0 ((w2.getD w3.toNat (.i 0)).cell 3).items) fun y6=>
         bif y6.isSome then
          bnd (d4y N w13 w0 ((w2.getD w3.toNat (.i 0)).cell 0).toS ((w2.getD w3.toNat (.i 0)).cell 1).toI ((w2.getD w3.toNat (.i 0)).cell 2).toI ((a0n y2).getD default) (y6.getD default) ((w2.getD w3.toNat (.i 0)).cell 4).isNil ((w2.getD w3.toNat (.i 0)).cell 4).items ((w2.getD w3.toNat (.i 0)).cell 5).isNil ((w2.getD w3.toNat (.i 0)).cell 5).items) fun y7=>
          bif y7.isSome then
           bnd (a7I N (y0.getD default).2.1 (y7.getD default).2.2.2 (y7.getD default).2.1) fun y8=>
           bif y8.isSome then
            bif (y8.getD default) then
             k0 true
            else
             bif (inB w3 w15.length) then
              bif (decide (w3.toNat<w15.length)) then
               bnd ((w15.set w3.toNat (.a [(.s ((w2.getD w3.toNat (.i 0)).cell 0).toS),(.i ((w2.getD w3.toNat (.i 0)).cell 1).toI),(.i ((w2.getD w3.toNat (.i 0)).cell 2).toI),(.l ((a0n y2).getD default) (y6.getD default)),(.l ((w2.getD w3.toNat (.i 0)).cell 4).isNil ((w2.getD w3.toNat (.i 0)).cell 4).items),(.l ((w2.getD w3.toNat (.i 0)).cell 5).isNil ((w2.getD w3.toNat (.i 0)).cell 5).items)])):List D) fun y9=>
               k1 y9
              else
               none
             else
              none
           else
            none
          else
           none
         else
          none
        else
         none
      else
       none
    else
     none
   else
    none
  else
   none
 else
  k1 w15
def b4s (w0:Int) (w2:LD) (w3 w4 w5:Int) (w11:Bool) (w13 w15:LD):Option (Sum (Bool) (LD)):=b7V N w0 w2 w3 w4 w5 w11 w13 w15 (fun p=>some (.inl p)) (fun p=>some (.inr p))
def c8K:=(d9A N).c2 (a5q N) 20 100 [1,2,6,7,8,16,17,19] [8,56000000007] ⟨[(1,cI),(2,cL 36),(3,cI),(4,cI),(5,cI),(6,cI),(7,cL 3),(8,cP 8),(17,cL 36),(19,cO 56000000007),(63,cB)],[(8,bX3),(56000000007,.row 36 true)]⟩ (fun L _=>b7V N (li L 0) (ll L 2) (li L 3) (li L 4) (li L 5) (lb L 11) (ll L 13) (ll L 15)) (fun s m L p=>(.ret,mg s [16] [(16,.c (.b p))] [8,56000000007] [])) (fun s m L p=>(.normal,mg s [1,2,6,7,8,17,19] [] [8,56000000007] [(56000000007,.row 36 true (lb L 14) p)])) fun _ _ _=>by unfold b7V;exact bb
def b7W (w0 : Int) (w2:LD) (w3 w4 w5:Int) (w13:Bool) (w15:LD) (k0:Bool→Option R) (k1:Unit→Option R):Option R:=
 bif w13 then
  bif (inB w3 w2.length) then
   bnd (d4y N w15 w0 ((w2.getD w3.toNat (.i 0)).cell 0).toS ((w2.getD w3.toNat (.i 0)).cell 1).toI ((w2.getD w3.toNat (.i 0)).cell 2).toI ((w2.getD w3.toNat (.i 0)).cell 3).isNil ((w2.getD w3.toNat (.i 0)).cell 3).items ((w2.getD w3.toNat (.i 0)).cell 4).isNil ((w2.getD w3.toNat (.i 0)).cell 4).items ((w2.getD w3.toNat (.i 0)).cell 5).isNil ((w2.getD w3.toNat (.i 0)).cell 5).items) fun y0=>
   bif y0.isSome then
    bif (bif (inB w3 w2.length) then true else (!(((y0.getD default).2.2.2 !=0)==false))) then
     bnd (bif ((y0.getD default).2.2.2 !=0) then true else (((y0.getD default).2.1.length:Int) !=(((w2.getD w3.toNat (.i 0)).cell 3).items.length:Int))) fun y1=>
     bif y1 then
      k0 false
     else
      bif (inB w3 w2.length) then
       bnd (d9y N ((w2.getD w3.toNat (.i 0)).cell 3).isNil ((w2.getD w3.toNat (.i 0)).cell 3).items) fun y2=>
       bif (a0U y2) then
        bnd (d4y N w15 w0 ((w2.getD w3.toNat (.i 0)).cell 0).toS ((w2.getD w3.toNat (.i 0)).cell 1).toI ((w2.getD w3.toNat (.i 0)).cell 2).toI true [] ((w2.getD w3.toNat (.i 0)).cell 4).isNil ((w2.getD w3.toNat (.i 0)).cell 4).items ((w2.getD w3.toNat (.i 0)).cell 5).isNil ((w2.getD w3.toNat (.i 0)).cell 5).items) fun y3=>
        bif y3.isSome then
         bnd (d9z N (y0.getD default).2.1 (y3.getD default).2.2.2 (y3.getD default).2.1) fun y4=>
         bif y4.isSome then
          bif (y4.getD default) then
           k0 true
          else
           bif (inB w3 0) then
            none
           else
            none
         else
          none
        else
         none
       else
        bif (a0n y2).isSome then
         bnd (b7N N w4 w5 (y0.getD default).2.1 (((w2.getD w3.toNat (.i 0)).cell 3).items.length:Int) 0 ((w2.getD w3.toNat (.i 0)).cell 3).items) fun y5=>
         bif y5.isSome then
          bnd (d4y N w15 w0 ((w2.getD w3.toNat (.i 0)).cell 0).toS ((w2.getD w3.toNat (.i 0)).cell 1).toI ((w2.getD w3.toNat (.i 0)).cell 2).toI ((a0n y2).getD default) (y5.getD default) ((w2.getD w3.toNat (.i 0)).cell 4).isNil ((w2.getD w3.toNat (.i 0)).cell 4).items ((w2.getD w3.toNat (.i 0)).cell 5).isNil ((w2.getD w3.toNat (.i 0)).cell 5).items) fun y6=>
          bif y6.isSome then
           bnd (d2P N (y0.getD default).2.1 (y6.getD default).2.2.2 (y6.getD default).2.1) fun y7=>
           bif y7.isSome then
            bif (y7.getD default) then
             k0 true
            else
             bif (inB w3 0) then
              none
             else
              none
           else
            none
          else
           none
         else
          none
        else
         none
      else
       none
    else
     none
   else
    none
  else
   none
 else
  k1 ()
def c3S (w0:Int) (w2:LD) (w3 w4 w5:Int) (w13:Bool) (w15:LD):Option (Sum (Bool) (Unit)):=b7W N w0 w2 w3 w4 w5 w13 w15 (fun p=>some (.inl p)) (fun p=>some (.inr p))
def c8L:=(c8K N).add (((c8K N).no 20).c2 (a5q N) 20 100 [1,2,6,7,8,16,17,19] [8] ⟨[(1,cI),(2,cL 36),(3,cI),(4,cI),(5,cI),(6,cI),(7,cL 3),(8,cP 8),(17,cL 36),(19,.c (.nsl 36)),(63,cB)],[(8,bX3)]⟩ (fun L _=>b7W N (li L 0) (ll L 2) (li L 3) (li L 4) (li L 5) (lb L 13) (ll L 15)) (fun s m L p=>(.ret,mg s [16] [(16,.c (.b p))] [8] [])) (fun s m L _=>(.normal,mg s [1,2,6,7,8,17,19] [] [8] [])) fun _ _ _=>by unfold b7W;exact bb) 20
def b7X (w7:LD) (w8:Int) (w10:LD) (k0:Bool→Option R):Option R:=
 bif (w8 !=0) then
  k0 true
 else
  bnd (c7Y N w7 w10) fun y0=>
  bif y0.isSome then
   k0 (!(y0.getD default))
  else
   none
def d2R (w7:LD) (w8:Int) (w10:LD):Option (Bool):=b7X N w7 w8 w10 some
def c8M:=(c8L N).add (((c8L N).no 67).c1 (a5q N) 67 100 [1,2,6,7,8,17,19,159] [8,56000000007] ⟨[(1,cI),(2,cL 36),(6,cI),(7,cL 3),(8,cP 8),(17,cL 36),(18,cI),(19,cO 56000000007),(27,cL 36)],[(8,bX3),(56000000007,.row 36 false)]⟩ (fun L _=>b7X N (ll L 7) (li L 8) (ll L 10)) (fun s m L p=>(.normal,m [(159,.c (.b p))] [])) fun _ _=>by unfold b7X;exact bb) 67
def e2n (v1 : LD) (v2:Int) (v3:Bool) (v4:LD) (v5 v6 v7 v8:Int) (v10:LD) (k0:Bool→Option R):Option R:=
 bnd (b63 N v1 v2 v4) fun y0=>
 bif y0.isSome then
  bif ((y0.getD default).2.2 !=0) then
   k0 true
  else
   bnd (b7K N v3 v4) fun y1=>
   bif (a0U y1) then
    bnd (bif (decide (v5≥0)) then (decide (v5<(v4.length:Int))) else false) fun y2=>
    bnd (c3S N v2 v4 v5 v6 v7 y2 v1) fun y3=>
    bif (a0U y3) then
     k0 (a1E y3)
    else
     bif (a0n y3).isSome then
      bnd (b63 N v1 v2 []) fun y4=>
      bif y4.isSome then
       bnd (b7Q N (y0.getD default).2.1 (y4.getD default).2.2 (y4.getD default).2.1) fun y5=>
       bif y5.isSome then
        bif (y5.getD default) then
         k0 false
        else
         bnd (b4f N v1 v2 v4) fun y6=>
         bif y6.isSome then
          bnd (b4f N v1 v2 []) fun y7=>
          bif y7.isSome then
           bnd (b0T N v1 v2 v4 v8 v10) fun y8=>
           bif y8.isSome then
            bnd (b0T N v1 v2 [] v8 v10) fun y9=>
            bif y9.isSome then
             bnd (b47 N v1 v2 v4 true) fun y10=>
             bif y10.isSome then
              bnd (b47 N v1 v2 [] true) fun y11=>
              bif y11.isSome then
               bnd (b4q N (y6.getD default).2.2.2.2 (y7.getD default).2.2.2.2 (y8.getD default).2.1 (y8.getD default).2.2 (y9.getD default).2.1 (y9.getD default).2.2 (y10.getD default).2.1 (y10.getD default).2.2 (y11.getD default).2.1 (y11.getD default).2.2 (y6.getD default).1 (y6.getD default).2.1 (y6.getD default).2.2.1 (y6.getD default).2.2.2.1 (y7.getD default).1 (y7.getD default).2.1 (y7.getD default).2.2.1 (y7.getD default).2.2.2.1) fun y12=>
               bif y12.isSome then
                bif (y12.getD default) then
                 k0 false
                else
                 bnd (bif ((y6.getD default).2.2.2.2 !=0) then true else ((y6.getD default).1 !=((y0.getD default).2.1.length:Int))) fun y13=>
                 bif y13 then
                  k0 false
                 else
                  bnd (b2Y N (y0.getD default).2.1 ((y0.getD default).2.1.length:Int) 0 0) fun y14=>
                  bif (a0U y14) then
                   k0 false
                  else
                   bif (a0n y14).isSome then
                    bnd (a96 N ((a0n y14).getD default) (y6.getD default).2.1) fun y15=>
                    k0 y15
                   else
                    none
               else
                none
              else
               none
             else
              none
            else
             none
           else
            none
          else
           none
         else
          none
       else
        none
      else
       none
     else
      none
   else
    bif (a0n y1).isSome then
     bnd (bif (decide (v5≥0)) then (decide (v5<(v4.length:Int))) else false) fun y2=>
     bnd (b4s N v2 v4 v5 v6 v7 y2 v1 v4) fun y16=>
     bif (a0U y16) then
      k0 (a1E y16)
     else
      bif (a0n y16).isSome then
       bnd (b63 N v1 v2 ((a0n y16).getD default)) fun y17=>
       bif y17.isSome then
        bnd (d2R N (y0.getD default).2.1 (y17.getD default).2.2 (y17.getD default).2.1) fun y18=>
        bif y18.isSome then
         bif (y18.getD default) then
          k0 false
         else
          bnd (b4f N v1 v2 v4) fun y6=>
          bif y6.isSome then
           bnd (b4f N v1 v2 ((a0n y16).getD default)) fun y19=>
           bif y19.isSome then
            bnd (b0T N v1 v2 v4 v8 v10) fun y8=>
            bif y8.isSome then
             bnd (b0T N v1 v2 ((a0n y16).getD default) v8 v10) fun y20=>
             bif y20.isSome then
              bnd (b47 N v1 v2 v4 true) fun y10=>
              bif y10.isSome then
               bnd (b47 N v1 v2 ((a0n y16).getD default) true) fun y21=>
               bif y21.isSome then
                bnd (b4q N (y6.getD default).2.2.2.2 (y19.getD default).2.2.2.2 (y8.getD default).2.1 (y8.getD default).2.2 (y20.getD default).2.1 (y20.getD default).2.2 (y10.getD default).2.1 (y10.getD default).2.2 (y21.getD default).2.1 (y21.getD default).2.2 (y6.getD default).1 (y6.getD default).2.1 (y6.getD default).2.2.1 (y6.getD default).2.2.2.1 (y19.getD default).1 (y19.getD default).2.1 (y19.getD default).2.2.1 (y19.getD default).2.2.2.1) fun y22=>
                bif y22.isSome then
                 bif (y22.getD default) then
                  k0 false
                 else
                  bnd (bif ((y6.getD default).2.2.2.2 !=0) then true else ((y6.getD default).1 !=((y0.getD default).2.1.length:Int))) fun y13=>
                  bif y13 then
                   k0 false
                  else
                   bnd (b2Y N (y0.getD default).2.1 ((y0.getD default).2.1.length:Int) 0 0) fun y14=>
                   bif (a0U y14) then
                    k0 false
                   else
                    bif (a0n y14).isSome then
                     bnd (a96 N ((a0n y14).getD default) (y6.getD default).2.1) fun y15=>
                     k0 y15
                    else
                     none
                else
                 none
               else
                none
              else
               none
             else
              none
            else
             none
           else
            none
          else
           none
        else
         none
       else
        none
      else
       none
    else
     none
 else
  none
def e2o (v1:LD) (v2:Int) (v3:Bool) (v4:LD) (v5 v6 v7 v8:Int) (v10:LD):Option (Bool):=e2n N v1 v2 v3 v4 v5 v6 v7 v8 v10 some
theorem d9B (v1:LD) (v2:Int) (v3:Bool) (v4:LD) (v5 v6 v7 v8:Int) (v10:LD) (k0:Bool→Option R):e2n N v1 v2 v3 v4 v5 v6 v7 v8 v10 k0=(e2o N v1 v2 v3 v4 v5 v6 v7 v8 v10).bind k0:=by
 unfold e2o e2n
 repeat' (first|with_reducible apply a6a|(with_reducible apply b1M;intro _)|rfl)
def e5n (L:List Lf) (k0:Bool→Option R):Option R:=e2n N (ll L 1) (li L 2) (lb L 3) (ll L 4) (li L 5) (li L 6) (li L 7) (li L 8) (ll L 10) k0
def e2p:Sh:={tmps:=[(0,gX9),(1,cI),(2,cL 36),(3,cI),(4,cI),(5,cI),(6,cI),(7,cL 3)],mem:=[]}
def e4F (L:List Lf):List (Bool×Res):=bnd (e5n N L some) fun q=>[(q.isSome,([.c (.b (q.getD default))],[]))]
theorem e2q (L:List Lf):bd Tryz.prog (a5q N).o (c8M N).h 3 e2p L=e5n N L (fun p=>some ([.c (.b p)],[])):=by kernel_rfl
theorem e4G:c1d Tryz.prog 3 e2p (e4F N):=
 (c8M N).fn a6d (a5q N).ok fun L x hx=>((e2q N L).trans ((d9B N ..).trans (b8i x hx)))
end
end Go.Proofs.YtcdhfpkfmekabaaGreatDoor
