/- A part of a proof of a law: lemmas. Conditions: those of each lemma. -/
import Derived.Test.YtiegikkpipdleaaGreatDoorKQp1
import Derived.KernelRfl
set_option linter.all false
set_option maxRecDepth 100000
set_option maxHeartbeats 4000000
noncomputable section
namespace Go.Proofs.YtiegikkpipdleaaGreatDoor
open Go Go.AM
variable (N:Nat) {R:Type}
def d7q (N:Nat) (v0 v1 v2:Int) (k0:Bool→R):R:=
 k0 (bif (decide (v0<v1)) then true else (decide (v0>v2)))
def a48 (v0 v1 v2:Int):Bool:=d7q N v0 v1 v2 (fun p=>p)
def d0N (N:Nat) (w1 w3 w4:Int) (w7:Bool) (k0:Int→R):R:=
 bif w7 then
  k0 (IntKind.wrap .i64 ((IntKind.wrap .i64 (w1-1))-w3))
 else
  k0 w4
def d0O (w1 w3 w4:Int) (w7:Bool):Int:=d0N N w1 w3 w4 w7 (fun p=>p)
def d7r (w0 w1:Int) (w2:Bool) (w3:Int) (w4:Int) (w6:LD) (kr:Int→LD→Option R) (k0:LD→Option R):Option R:=
 bif (decide (w4<w3)) then
  bnd (d0O N w1 w4 w4 w2) fun y0=>
  bif (decide (0≤(IntKind.wrap .i64 (8*w4)))) then
   bnd (IntKind.wrap .u8 (w0.fdiv (2^(min (IntKind.wrap .i64 (8*w4)).toNat 64)))) fun y1=>
   bif (inB y0 w6.length) then
    bif (decide (y0.toNat<w6.length)) then
     kr (IntKind.wrap .i64 (w4+1)) (w6.set y0.toNat (.i y1))
    else
     none
   else
    none
  else
   none
 else
  k0 w6
def c3c (N:Nat) {R:Type} (w0 w1:Int) (w2:Bool) (w3:Int):Nat→Int→LD→(LD→Option R)→Option R
 |0,_,_,_=>none
 |m+1,w4,w6,k0=>d7r N w0 w1 w2 w3 w4 w6 (fun w4 w6=>c3c N w0 w1 w2 w3 m w4 w6 k0) k0
def d7s (w0 w1:Int) (w2:Bool) (w3:Int) (w4:Int) (w6:LD):Option (LD):=c3c N (R:=(LD)) w0 w1 w2 w3 N w4 w6 (fun p=>some p)
def e7m (v0 v1:Int) (v2:Bool) (k0:LD→Option R):Option R:=
 bif (((decide (0≤v1))&&(decide (v1≤v1)))&&(decide (v1.toNat*1≤a0L)&&decide (v1.toNat≤a0d))) then
  bnd (d7s N v0 v1 v2 v1 0 (List.replicate v1.toNat ((.i 0):D))) fun y0=>
  bif y0.isSome then
   k0 (y0.getD default)
  else
   none
 else
  none
def a3b (v0 v1:Int) (v2:Bool):Option (LD):=e7m N v0 v1 v2 (fun p=>some p)
def d0P (N:Nat) (w0:Bool) (w6:LD) (k0:LD→Option R):Option R:=
 bif w0 then
  bif (inB 1 w6.length) then
   bif (decide (1<w6.length)) then
    k0 (w6.set 1 (.i 1))
   else
    none
  else
   none
 else
  k0 w6
def b69 (w0:Bool) (w6:LD):Option (LD):=d0P N w0 w6 (fun p=>some p)
def d0Q (N:Nat) (w1:LD) (w2:Int) (w3:Int) (w4:Bool) (w5:LD) (kr:Int→Bool→LD→Option R) (k0:Bool×LD→Option R):Option R:=
 bif (decide (w3<w2)) then
  bif (inB w3 w1.length) then
   bif (decide ((w5.length+3)*1≤a0L)&&decide ((w5.length+3)≤a0d)) then
    bnd ((w5++[(.i (IntKind.wrap .u8 ((w1.getD w3.toNat (.i 0)).cell 0).toI)),(.i (IntKind.wrap .u8 ((w1.getD w3.toNat (.i 0)).cell 1).toI)),(.i (IntKind.wrap .u8 ((w1.getD w3.toNat (.i 0)).cell 2).toI))]):List D) fun y0=>
    kr (IntKind.wrap .i64 (w3+1)) false y0
   else
    none
  else
   none
 else
  k0 (w4,w5)
def b0u (N:Nat) {R:Type} (w1:LD) (w2:Int):Nat→Int→Bool→LD→(Bool×LD→Option R)→Option R
 |0,_,_,_,_=>none
 |m+1,w3,w4,w5,k0=>d0Q N w1 w2 w3 w4 w5 (fun w3 w4 w5=>b0u N w1 w2 m w3 w4 w5 k0) k0
def b0v (w1:LD) (w2:Int) (w3:Int) (w4:Bool) (w5:LD):Option (Bool×LD):=b0u N (R:=(Bool×LD)) w1 w2 N w3 w4 w5 (fun p=>some p)
def d7t (v0 v1 v2:Int) (v4 v6:LD) (k0:Bool×LD→Option R):Option R:=
 bif (v0==2) then
  bif (decide ((1+v6.length)*1≤a0L)&&decide ((1+v6.length)≤a0d)) then
   k0 ((v6.isEmpty&&false),([(.i (IntKind.wrap .u8 v1))]++v6))
  else
   none
 else
  bif (v0==3) then
   bnd (IntKind.wrap .i64 ((IntKind.wrap .i64 (128+(IntKind.wrap .i64 (32*v1))))+v2)) fun y0=>
   bif (decide ((1+v6.length)*1≤a0L)&&decide ((1+v6.length)≤a0d)) then
    k0 ((v6.isEmpty&&false),([(.i (IntKind.wrap .u8 y0))]++v6))
   else
    none
  else
   bif (inB 0 v4.length) then
    bnd (b69 N ((v4.getD 0 (.i 0)).cell 0).toB [(.i (IntKind.wrap .u8 (IntKind.wrap .i64 (64+v1)))),(.i 0)]) fun y1=>
    bif y1.isSome then
     bnd (a3b N ((v4.getD 0 (.i 0)).cell 1).toI 2 ((v4.getD 0 (.i 0)).cell 0).toB) fun y2=>
     bif y2.isSome then
      bif (decide (((y1.getD default).length+(y2.getD default).length)*1≤a0L)&&decide (((y1.getD default).length+(y2.getD default).length)≤a0d)) then
       bnd (IntKind.wrap .u8 (((v4.getD 0 (.i 0)).cell 2).items.length:Int)) fun y3=>
       bif (decide ((((y1.getD default)++(y2.getD default)).length+1)*1≤a0L)&&decide ((((y1.getD default)++(y2.getD default)).length+1)≤a0d)) then
        bnd ((((y1.getD default)++(y2.getD default))++[(.i y3)]):List D) fun y4=>
        bnd (b0v N ((v4.getD 0 (.i 0)).cell 2).items (((v4.getD 0 (.i 0)).cell 2).items.length:Int) 0 false y4) fun y5=>
        bif y5.isSome then
         k0 (y5.getD default)
        else
         none
       else
        none
      else
       none
     else
      none
    else
     none
   else
    none
def c5u (v0 v1 v2:Int) (v4 v6:LD):Option (Bool×LD):=d7t N v0 v1 v2 v4 v6 (fun p=>some p)
def b7a (w9 w10:Int) (k0:Bool→R):R:=
 bnd (a48 N w9 0 255) fun y0=>
 bif y0 then
  k0 true
 else
  bnd (a48 N w10 1 255) fun y1=>
  k0 y1
def b7b (w9 w10:Int):Bool:=b7a N w9 w10 (fun p=>p)
def a6D (N:Nat) (w5:LD) (w6 w12:Int) (w7:Int) (kr:Int→Option R) (k0:Unit→Option R) (k1:Unit→Option R):Option R:=
 bif (decide (w7<w6)) then
  bif (inB w7 w5.length) then
   bif (((w5.getD w7.toNat (.i 0)).cell 0).toI==w12) then
    k0 ()
   else
    kr (IntKind.wrap .i64 (w7+1))
  else
   none
 else
  k1 ()
def b0w (N:Nat) {R:Type} (w5:LD) (w6 w12:Int):Nat→Int→(Unit→Option R)→(Unit→Option R)→Option R
 |0,_,_,_=>none
 |m+1,w7,k0,k1=>a6D N w5 w6 w12 w7 (fun w7=>b0w N w5 w6 w12 m w7 k0 k1) k0 k1
def b0x (w5:LD) (w6 w12:Int) (w7:Int):Option (Sum (Unit) (Unit)):=b0w N (R:=(Sum (Unit) (Unit))) w5 w6 w12 N w7 (fun p=>some (.inl p)) (fun p=>some (.inr p))
def a6E (w1:LD) (w2:Int) (w7:LD) (w3:Int) (kr:Int→Option R) (k0:Int→Option R) (k1:Unit→Option R):Option R:=
 bif (decide (w3<w2)) then
  bif (inB w3 w1.length) then
   bnd (b7b N ((w1.getD w3.toNat (.i 0)).cell 0).toI ((w1.getD w3.toNat (.i 0)).cell 1).toI) fun y0=>
   bif y0 then
    k0 9
   else
    bnd (a48 N ((w1.getD w3.toNat (.i 0)).cell 2).toI 0 3) fun y1=>
    bif y1 then
     k0 7
    else
     bnd (bif (decide (((w1.getD w3.toNat (.i 0)).cell 2).toI≤1)) then (((w1.getD w3.toNat (.i 0)).cell 1).toI !=1) else false) fun y2=>
     bnd (bif y2 then (((w1.getD w3.toNat (.i 0)).cell 1).toI !=2) else false) fun y3=>
     bnd (bif y3 then (((w1.getD w3.toNat (.i 0)).cell 1).toI !=4) else false) fun y4=>
     bif y4 then
      k0 2
     else
      bif ((decide (0≤w3))&&(decide (w3≤(w7.length:Int)))) then
       bnd (b0x N ((w7.take w3.toNat).drop 0) (((w7.take w3.toNat).drop 0).length:Int) ((w1.getD w3.toNat (.i 0)).cell 0).toI 0) fun y5=>
       bif (a0O y5) then
        k0 5
       else
        bif (a0l y5).isSome then
         kr (IntKind.wrap .i64 (w3+1))
        else
         none
      else
       none
  else
   none
 else
  k1 ()
def b0y (N:Nat) {R:Type} (w1:LD) (w2:Int) (w7:LD):Nat→Int→(Int→Option R)→(Unit→Option R)→Option R
 |0,_,_,_=>none
 |m+1,w3,k0,k1=>a6E N w1 w2 w7 w3 (fun w3=>b0y N w1 w2 w7 m w3 k0 k1) k0 k1
def b0z (w1:LD) (w2:Int) (w7:LD) (w3:Int):Option (Sum (Int) (Unit)):=b0y N (R:=(Sum (Int) (Unit))) w1 w2 w7 N w3 (fun p=>some (.inl p)) (fun p=>some (.inr p))
def d7u (v1:Int) (v3:LD) (k0:Int→Option R):Option R:=
 bnd (a48 N v1 0 65535) fun y0=>
 bif y0 then
  k0 9
 else
  bif (decide ((v3.length:Int)>30)) then
   k0 3
  else
   bnd (b0z N v3 (v3.length:Int) v3 0) fun y1=>
   bif (a0O y1) then
    k0 (a01 y1)
   else
    bif (a0l y1).isSome then
     k0 0
    else
     none
def c5v (v1:Int) (v3:LD):Option (Int):=d7u N v1 v3 (fun p=>some p)
def e7n (N:Nat) (v0 v1 v2:Int) (k0:Bool→R):R:=
 bnd (bif (bif (v0==253) then (v2==0) else false) then (v1==4) else false) fun y0=>
 k0 y0
def c5w (v0 v1 v2:Int):Bool:=e7n N v0 v1 v2 (fun p=>p)
def b5a (w2:LD) (w3:Int) (w0 w4:Int) (kr:Int→Int→Option R) (k0:Int→Option R) (k1:Unit→Option R):Option R:=
 bif (decide (w4<w3)) then
  bif (inB w4 w2.length) then
   bnd (c5w N ((w2.getD w4.toNat (.i 0)).cell 0).toI ((w2.getD w4.toNat (.i 0)).cell 1).toI ((w2.getD w4.toNat (.i 0)).cell 2).toI) fun y0=>
   bif y0 then
    k0 w0
   else
    bnd (IntKind.wrap .i64 (w0+((w2.getD w4.toNat (.i 0)).cell 1).toI)) fun y1=>
    kr y1 (IntKind.wrap .i64 (w4+1))
  else
   none
 else
  k1 ()
def b5b (N:Nat) {R:Type} (w2:LD) (w3:Int):Nat→Int→Int→(Int→Option R)→(Unit→Option R)→Option R
 |0,_,_,_,_=>none
 |m+1,w0,w4,k0,k1=>b5a N w2 w3 w0 w4 (fun w0 w4=>b5b N w2 w3 m w0 w4 k0 k1) k0 k1
def c3d (w2:LD) (w3:Int) (w0 w4:Int):Option (Sum (Int) (Unit)):=b5b N (R:=(Sum (Int) (Unit))) w2 w3 N w0 w4 (fun p=>some (.inl p)) (fun p=>some (.inr p))
def d7v (v3:LD) (k0:Int×Bool→Option R):Option R:=
 bnd (c3d N v3 (v3.length:Int) 0 0) fun y0=>
 bif (a0O y0) then
  k0 ((a01 y0),true)
 else
  bif (a0l y0).isSome then
   k0 (0,false)
  else
   none
def b93 (v3:LD):Option (Int×Bool):=d7v N v3 (fun p=>some p)
def b7c (w0:Bool) (w7 w8 w9:Int) (k0:Bool→R):R:=
 bif w0 then
  bnd (c5w N w7 w8 w9) fun y0=>
  k0 y0
 else
  k0 false
def b0A (w0:Bool) (w7 w8 w9:Int):Bool:=b7c N w0 w7 w8 w9 (fun p=>p)
def b0B (w2:LD) (w3:Int) (w0:Bool) (w4:Int) (w5:Bool) (w6:LD) (kr:Bool→Int→Bool→LD→Option R) (k0:Bool×LD→Option R):Option R:=
 bif (decide (w4<w3)) then
  bif (inB w4 w2.length) then
   bnd (b0A N w0 ((w2.getD w4.toNat (.i 0)).cell 0).toI ((w2.getD w4.toNat (.i 0)).cell 1).toI ((w2.getD w4.toNat (.i 0)).cell 2).toI) fun y0=>
   bif y0 then
    kr false (IntKind.wrap .i64 (w4+1)) w5 w6
   else
    bif (decide ((w6.length+1)*24≤a0L)&&decide ((w6.length+1)≤a0d)) then
     bnd ((w6++[(.a [(.i ((w2.getD w4.toNat (.i 0)).cell 0).toI),(.i ((w2.getD w4.toNat (.i 0)).cell 1).toI),(.i ((w2.getD w4.toNat (.i 0)).cell 2).toI)])]):List D) fun y1=>
     kr w0 (IntKind.wrap .i64 (w4+1)) false y1
    else
     none
  else
   none
 else
  k0 (w5,w6)
def b0C (N:Nat) {R:Type} (w2:LD) (w3:Int):Nat→Bool→Int→Bool→LD→(Bool×LD→Option R)→Option R
 |0,_,_,_,_,_=>none
 |m+1,w0,w4,w5,w6,k0=>b0B N w2 w3 w0 w4 w5 w6 (fun w0 w4 w5 w6=>b0C N w2 w3 m w0 w4 w5 w6 k0) k0
def b7d (w2:LD) (w3:Int) (w0:Bool) (w4:Int) (w5:Bool) (w6:LD):Option (Bool×LD):=b0C N (R:=(Bool×LD)) w2 w3 N w0 w4 w5 w6 (fun p=>some p)
def d7w (v3:LD) (v4:Bool) (k0:Bool×LD→Option R):Option R:=
 bnd (b7d N v3 (v3.length:Int) v4 0 true []) fun y0=>
 bif y0.isSome then
  k0 (y0.getD default)
 else
  none
def c5x (v3:LD) (v4:Bool):Option (Bool×LD):=d7w N v3 v4 (fun p=>some p)
def b5c (N:Nat) (w2:LD) (w3:Int) (w0 w4:Int) (kr:Int→Int→Option R) (k0:Int→Option R):Option R:=
 bif (decide (w4<w3)) then
  bif (inB w4 w2.length) then
   bnd (IntKind.wrap .i64 (w0+((w2.getD w4.toNat (.i 0)).cell 1).toI)) fun y0=>
   kr y0 (IntKind.wrap .i64 (w4+1))
  else
   none
 else
  k0 w0
def b5d (N:Nat) {R:Type} (w2:LD) (w3:Int):Nat→Int→Int→(Int→Option R)→Option R
 |0,_,_,_=>none
 |m+1,w0,w4,k0=>b5c N w2 w3 w0 w4 (fun w0 w4=>b5d N w2 w3 m w0 w4 k0) k0
def c3e (w2:LD) (w3:Int) (w0 w4:Int):Option (Int):=b5d N (R:=(Int)) w2 w3 N w0 w4 (fun p=>some p)
def d7x (v1:LD) (k0:Int→Option R):Option R:=
 bnd (c3e N v1 (v1.length:Int) 0 0) fun y0=>
 bif y0.isSome then
  k0 (y0.getD default)
 else
  none
def c5y (v1:LD):Option (Int):=d7x N v1 (fun p=>some p)
def b7e (N:Nat) (w0 w1:Int) (w2:Bool) (k0:Int×Int→R):R:=
 bif w2 then
  k0 (3,31)
 else
  k0 (w0,w1)
def b7f (w0 w1:Int) (w2:Bool):Int×Int:=b7e N w0 w1 w2 (fun p=>p)
def b7g (w0 w1 w4 w5:Int) (k0:Bool→R):R:=
 bnd (a48 N w4 0 w0) fun y0=>
 bif y0 then
  k0 true
 else
  bnd (a48 N w5 0 w1) fun y1=>
  k0 y1
def b7h (w0 w1 w4 w5:Int):Bool:=b7g N w0 w1 w4 w5 (fun p=>p)
def d7y (v0 v1 v2:Int) (v4 v6:LD) (v7:D) (k0:Int→Option R):Option R:=
 bnd (a48 N v0 1 3) fun y0=>
 bif y0 then
  k0 7
 else
  bnd (b7f N 15 0 (v0==3)) fun y1=>
  bnd (b7h N y1.1 y1.2 v1 v2) fun y2=>
  bif y2 then
   k0 9
  else
   bif (v0==1) then
    bnd (bif ((v4.length:Int) !=1) then true else (decide ((v6.length:Int)>0))) fun y3=>
    bif y3 then
     k0 2
    else
     bif (inB 0 v4.length) then
      bnd (c5v N ((v4.getD 0 (.i 0)).cell 1).toI ((v4.getD 0 (.i 0)).cell 2).items) fun y4=>
      bif y4.isSome then
       k0 (y4.getD default)
      else
       none
     else
      none
   else
    bif (decide ((v4.length:Int)>0)) then
     k0 2
    else
     bif (inB v1 16) then
      bif (!(v7.cell (0+(v1.toNat*1))).toB) then
       k0 11
      else
       bif (inB v1 16) then
        bnd (b93 N (v7.cell (18+(v1.toNat*3))).items) fun y5=>
        bif y5.isSome then
         bnd (bif (v0==3) then (bif (!(y5.getD default).2) then true else (decide ((v7.cell 64).toI<0))) else false) fun y6=>
         bif y6 then
          k0 11
         else
          bnd (c5x N (v7.cell (18+(v1.toNat*3))).items (v0==3)) fun y7=>
          bif y7.isSome then
           bnd (c5y N (y7.getD default).2) fun y8=>
           bif y8.isSome then
            bif ((v6.length:Int) !=(y8.getD default)) then
             k0 2
            else
             k0 0
           else
            none
          else
           none
        else
         none
       else
        none
     else
      none
def c5z (v0 v1 v2:Int) (v4 v6:LD) (v7:D):Option (Int):=d7y N v0 v1 v2 v4 v6 v7 (fun p=>some p)
def b7i (N:Nat) (w1:LD) (w4 w5:Int) (w8:Bool) (k0:Int→R):R:=
 bif w8 then
  bnd (IntKind.wrap .i64 ((IntKind.wrap .i64 ((w1.length:Int)-1))-w4)) fun y0=>
  k0 y0
 else
  k0 w5
def b0D (w1:LD) (w4 w5:Int) (w8:Bool):Int:=b7i N w1 w4 w5 w8 (fun p=>p)
def b5e (w1:LD) (w2:Bool) (w4:Int) (w3 w5:Int) (kr:Int→Int→Option R) (k0:Int→Option R):Option R:=
 bif (decide (w5<w4)) then
  bnd (b0D N w1 w5 w5 (!w2)) fun y0=>
  bif (inB y0 w1.length) then
   bnd (IntKind.wrap .i64 ((IntKind.wrap .i64 (256*w3))+(IntKind.wrap .i64 (w1.getD y0.toNat (.i 0)).toI))) fun y1=>
   kr y1 (IntKind.wrap .i64 (w5+1))
  else
   none
 else
  k0 w3
def b5f (N:Nat) {R:Type} (w1:LD) (w2:Bool) (w4:Int):Nat→Int→Int→(Int→Option R)→Option R
 |0,_,_,_=>none
 |m+1,w3,w5,k0=>b5e N w1 w2 w4 w3 w5 (fun w3 w5=>b5f N w1 w2 w4 m w3 w5 k0) k0
def c3f (w1:LD) (w2:Bool) (w4:Int) (w3 w5:Int):Option (Int):=b5f N (R:=(Int)) w1 w2 w4 N w3 w5 (fun p=>some p)
def d7z (v1:LD) (v2:Bool) (k0:Int→Option R):Option R:=
 bnd (c3f N v1 v2 (v1.length:Int) 0 0) fun y0=>
 bif y0.isSome then
  k0 (y0.getD default)
 else
  none
def c5A (v1:LD) (v2:Bool):Option (Int):=d7z N v1 v2 (fun p=>some p)
def d7A (v0 v1 v2:Int) (v4 v6:LD) (v7:D) (k0:Int×D→Option R):Option R:=
 bif (v0==1) then
  bif (inB 0 v4.length) then
   bif (inB v1 16) then
    bif (inB v1 16) then
     bnd (((((v7.put (0+(v1.toNat*1)) (.b true)).put (16+(v1.toNat*3)) (.b ((v4.getD 0 (.i 0)).cell 0).toB)).put (17+(v1.toNat*3)) (.i ((v4.getD 0 (.i 0)).cell 1).toI)).put (18+(v1.toNat*3)) (.l ((v4.getD 0 (.i 0)).cell 2).isNil ((v4.getD 0 (.i 0)).cell 2).items)):D) fun y0=>
     k0 ((-1),y0)
    else
     none
   else
    none
  else
   none
 else
  bif (v0==3) then
   bnd (IntKind.wrap .i64 ((IntKind.wrap .i64 (v2-((v7.cell 64).toI.tmod 32)))+32)) fun y1=>
   bnd ((v7.put 64 (.i (IntKind.wrap .i64 ((v7.cell 64).toI+(y1.tmod 32))))):D) fun y2=>
   k0 ((y2.cell 64).toI,y2)
  else
   bif (inB v1 16) then
    bnd (b93 N (v7.cell (18+(v1.toNat*3))).items) fun y3=>
    bif y3.isSome then
     bif (!(y3.getD default).2) then
      k0 ((-1),v7)
     else
      bif (((decide (0≤(y3.getD default).1))&&(decide ((y3.getD default).1≤(IntKind.wrap .i64 ((y3.getD default).1+4)))))&&(decide ((IntKind.wrap .i64 ((y3.getD default).1+4))≤(v6.length:Int)))) then
       bnd (((v6.take (IntKind.wrap .i64 ((y3.getD default).1+4)).toNat).drop (y3.getD default).1.toNat):List D) fun y4=>
       bnd (c5A N y4 (v7.cell (16+(v1.toNat*3))).toB) fun y5=>
       bif y5.isSome then
        bif ((y5.getD default)==4294967295) then
         k0 ((-1),v7)
        else
         k0 ((y5.getD default),(v7.put 64 (.i (y5.getD default))))
       else
        none
      else
       none
    else
     none
   else
    none
def c5B (v0 v1 v2:Int) (v4 v6:LD) (v7:D):Option (Int×D):=d7A N v0 v1 v2 v4 v6 v7 (fun p=>some p)
def b7j (w1:LD) (w2:Int) (w3:Int) (w4:D) (kr:Int→D→Option R) (k0:Int→Option R) (k1:Unit→Option R):Option R:=
 bif (decide (w3<w2)) then
  bif (inB w3 w1.length) then
   bnd (c5z N ((w1.getD w3.toNat (.i 0)).cell 0).toI ((w1.getD w3.toNat (.i 0)).cell 1).toI ((w1.getD w3.toNat (.i 0)).cell 2).toI ((w1.getD w3.toNat (.i 0)).cell 3).items ((w1.getD w3.toNat (.i 0)).cell 4).items w4) fun y0=>
   bif y0.isSome then
    bif ((y0.getD default) !=0) then
     k0 (y0.getD default)
    else
     bnd (c5B N ((w1.getD w3.toNat (.i 0)).cell 0).toI ((w1.getD w3.toNat (.i 0)).cell 1).toI ((w1.getD w3.toNat (.i 0)).cell 2).toI ((w1.getD w3.toNat (.i 0)).cell 3).items ((w1.getD w3.toNat (.i 0)).cell 4).items w4) fun y1=>
     bif y1.isSome then
      kr (IntKind.wrap .i64 (w3+1)) (y1.getD default).2
     else
      none
   else
    none
  else
   none
 else
  k1 ()
def a6F (N:Nat) {R:Type} (w1:LD) (w2:Int):Nat→Int→D→(Int→Option R)→(Unit→Option R)→Option R
 |0,_,_,_,_=>none
 |m+1,w3,w4,k0,k1=>b7j N w1 w2 w3 w4 (fun w3 w4=>a6F N w1 w2 m w3 w4 k0 k1) k0 k1
def b0E (w1:LD) (w2:Int) (w3:Int) (w4:D):Option (Sum (Int) (Unit)):=a6F N (R:=(Sum (Int) (Unit))) w1 w2 N w3 w4 (fun p=>some (.inl p)) (fun p=>some (.inr p))
def c5C (v1:LD) (k0:Int→Option R):Option R:=
 bif (decide ((v1.length:Int)>50000)) then
  k0 3
 else
  bnd ((.a [(.b false),(.b false),(.b false),(.b false),(.b false),(.b false),(.b false),(.b false),(.b false),(.b false),(.b false),(.b false),(.b false),(.b false),(.b false),(.b false),(.b false),(.i 0),(.l true []),(.b false),(.i 0),(.l true []),(.b false),(.i 0),(.l true []),(.b false),(.i 0),(.l true []),(.b false),(.i 0),(.l true []),(.b false),(.i 0),(.l true []),(.b false),(.i 0),(.l true []),(.b false),(.i 0),(.l true []),(.b false),(.i 0),(.l true []),(.b false),(.i 0),(.l true []),(.b false),(.i 0),(.l true []),(.b false),(.i 0),(.l true []),(.b false),(.i 0),(.l true []),(.b false),(.i 0),(.l true []),(.b false),(.i 0),(.l true []),(.b false),(.i 0),(.l true []),(.i (-1))]):D) fun y0=>
  bnd (b0E N v1 (v1.length:Int) 0 y0) fun y1=>
  bif (a0O y1) then
   k0 (a01 y1)
  else
   bif (a0l y1).isSome then
    k0 0
   else
    none
def b5g (v1:LD):Option (Int):=c5C N v1 (fun p=>some p)
def b5h (N:Nat) (w2:LD) (w3:Int) (w0 w4:Int) (kr:Int→Int→Option R) (k0:Int→Option R):Option R:=
 bif (decide (w4<w3)) then
  bif (inB w4 w2.length) then
   bnd (IntKind.wrap .i64 ((IntKind.wrap .i64 (31*w0))+(IntKind.wrap .i64 (w2.getD w4.toNat (.i 0)).toI))) fun y0=>
   kr (y0.tmod 4294967296) (IntKind.wrap .i64 (w4+1))
  else
   none
 else
  k0 w0
def b5i (N:Nat) {R:Type} (w2:LD) (w3:Int):Nat→Int→Int→(Int→Option R)→Option R
 |0,_,_,_=>none
 |m+1,w0,w4,k0=>b5h N w2 w3 w0 w4 (fun w0 w4=>b5i N w2 w3 m w0 w4 k0) k0
def c3g (w2:LD) (w3:Int) (w0 w4:Int):Option (Int):=b5i N (R:=(Int)) w2 w3 N w0 w4 (fun p=>some p)
def d7B (v1:LD) (k0:Int→Option R):Option R:=
 bnd (c3g N v1 (v1.length:Int) 1 0) fun y0=>
 bif y0.isSome then
  k0 (y0.getD default)
 else
  none
def c5D (v1:LD):Option (Int):=d7B N v1 (fun p=>some p)
def b7k (w1:LD) (w2:Int) (w3:Int) (w4:Bool) (w5:LD) (kr:Int→Bool→LD→Option R) (k0:Bool×LD→Option R):Option R:=
 bif (decide (w3<w2)) then
  bif (inB w3 w1.length) then
   bnd (c5u N ((w1.getD w3.toNat (.i 0)).cell 0).toI ((w1.getD w3.toNat (.i 0)).cell 1).toI ((w1.getD w3.toNat (.i 0)).cell 2).toI ((w1.getD w3.toNat (.i 0)).cell 3).items ((w1.getD w3.toNat (.i 0)).cell 4).items) fun y0=>
   bif y0.isSome then
    bif (decide ((w5.length+(y0.getD default).2.length)*1≤a0L)&&decide ((w5.length+(y0.getD default).2.length)≤a0d)) then
     kr (IntKind.wrap .i64 (w3+1)) ((y0.getD default).2.isEmpty&&w4) (w5++(y0.getD default).2)
    else
     none
   else
    none
  else
   none
 else
  k0 (w4,w5)
def a6G (N:Nat) {R:Type} (w1:LD) (w2:Int):Nat→Int→Bool→LD→(Bool×LD→Option R)→Option R
 |0,_,_,_,_=>none
 |m+1,w3,w4,w5,k0=>b7k N w1 w2 w3 w4 w5 (fun w3 w4 w5=>a6G N w1 w2 m w3 w4 w5 k0) k0
def b0F (w1:LD) (w2:Int) (w3:Int) (w4:Bool) (w5:LD):Option (Bool×LD):=a6G N (R:=(Bool×LD)) w1 w2 N w3 w4 w5 (fun p=>some p)
def d7C (v1:LD) (k0:Bool×LD×Int→Option R):Option R:=
 bnd (b5g N v1) fun y0=>
 bif y0.isSome then
  bif ((y0.getD default) !=0) then
   k0 (true,[],(y0.getD default))
  else
   bnd (b0F N v1 (v1.length:Int) 0 true []) fun y1=>
   bif y1.isSome then
    bnd (a3b N ((y1.getD default).2.length:Int) 4 true) fun y2=>
    bif y2.isSome then
     bif (decide ((4+(y2.getD default).length)*1≤a0L)&&decide ((4+(y2.getD default).length)≤a0d)) then
      bnd (([(.i 72),(.i 65),(.i 82),(.i 49)]++(y2.getD default)):List D) fun y3=>
      bif (decide ((y3.length+(y1.getD default).2.length)*1≤a0L)&&decide ((y3.length+(y1.getD default).2.length)≤a0d)) then
       bnd ((y1.getD default).2.isEmpty&&((y2.getD default).isEmpty&&false)) fun y4=>
       bnd (c5D N (y3++(y1.getD default).2)) fun y5=>
       bif y5.isSome then
        bnd (a3b N (y5.getD default) 4 true) fun y6=>
        bif y6.isSome then
         bif (decide (((y3++(y1.getD default).2).length+(y6.getD default).length)*1≤a0L)&&decide (((y3++(y1.getD default).2).length+(y6.getD default).length)≤a0d)) then
          bnd (((y3++(y1.getD default).2)++(y6.getD default)):List D) fun y7=>
          bif (decide ((y7.length:Int)>4000000)) then
           k0 (true,[],3)
          else
           k0 (((y6.getD default).isEmpty&&y4),y7,0)
         else
          none
        else
         none
       else
        none
      else
       none
     else
      none
    else
     none
   else
    none
 else
  none
def d7D (v1:LD):Option (Bool×LD×Int):=d7C N v1 (fun p=>some p)
def d7E (N:Nat) (v0 v1:Int) (v2:Bool) (v3:LD) (v4:Bool) (v6:LD) (k0:LD→Option R):Option R:=
 bif (decide ((v6.length+1)*72≤a0L)&&decide ((v6.length+1)≤a0d)) then
  bnd ((v6++[(.a [(.i 1),(.i v0),(.i 0),(.l false [(.a [(.b v4),(.i v1),(.l v2 v3)])]),(.l true [])])]):List D) fun y0=>
  k0 y0
 else
  none
def b5j (v0 v1:Int) (v2:Bool) (v3:LD) (v4:Bool) (v6:LD):Option (LD):=d7E N v0 v1 v2 v3 v4 v6 (fun p=>some p)
def d7F (N:Nat) (v0:LB) (k0:LD→Option R):Option R:=
 bif (Nat.ble v0.length a0d) then
  bif ((decide (0≤(IntKind.wrap .i64 (60-(v0.length:Int)))))&&(decide (((a0u v0).length+(IntKind.wrap .i64 (60-(v0.length:Int))).toNat)*1≤a0L)&&decide (((a0u v0).length+(IntKind.wrap .i64 (60-(v0.length:Int))).toNat)≤a0d))) then
   bnd (((a0u v0)++(List.replicate (IntKind.wrap .i64 (60-(v0.length:Int))).toNat ((.i 0):D))):List D) fun y0=>
   k0 y0
  else
   none
 else
  none
def b94 (v0:LB):Option (LD):=d7F N v0 (fun p=>some p)
def b5k (N:Nat) (w2:LD) (w3:Int) (w4:Int) (w8:Bool) (w9:LD) (kr:Int→Bool→LD→Option R) (k0:Bool×LD→Option R):Option R:=
 bif (decide (w4<w3)) then
  bif (inB w4 w2.length) then
   bif (decide ((w9.length+(w2.getD w4.toNat (.i 0)).items.length)*1≤a0L)&&decide ((w9.length+(w2.getD w4.toNat (.i 0)).items.length)≤a0d)) then
    kr (IntKind.wrap .i64 (w4+1)) ((w2.getD w4.toNat (.i 0)).items.isEmpty&&w8) (w9++(w2.getD w4.toNat (.i 0)).items)
   else
    none
  else
   none
 else
  k0 (w8,w9)
def b5l (N:Nat) {R:Type} (w2:LD) (w3:Int):Nat→Int→Bool→LD→(Bool×LD→Option R)→Option R
 |0,_,_,_,_=>none
 |m+1,w4,w8,w9,k0=>b5k N w2 w3 w4 w8 w9 (fun w4 w8 w9=>b5l N w2 w3 m w4 w8 w9 k0) k0
def c3h (w2:LD) (w3:Int) (w4:Int) (w8:Bool) (w9:LD):Option (Bool×LD):=b5l N (R:=(Bool×LD)) w2 w3 N w4 w8 w9 (fun p=>some p)
def d7G (v0:Int) (v2 v5:LD) (k0:LD→Option R):Option R:=
 bnd (c3h N v2 (v2.length:Int) 0 true []) fun y0=>
 bif y0.isSome then
  bif (decide ((v5.length+1)*72≤a0L)&&decide ((v5.length+1)≤a0d)) then
   bnd ((v5++[(.a [(.i 2),(.i v0),(.i 0),(.l true []),(.l (y0.getD default).1 (y0.getD default).2)])]):List D) fun y1=>
   k0 y1
  else
   none
 else
  none
def b5m (v0:Int) (v2 v5:LD):Option (LD):=d7G N v0 v2 v5 (fun p=>some p)
def a9x (N:Nat) (w0:Int) (w2:Bool) (k0:Int→R):R:=
 bif w2 then
  k0 65535
 else
  k0 w0
def a9y (w0:Int) (w2:Bool):Int:=a9x N w0 w2 (fun p=>p)
def b95 (v0 v1:Int) (v2:Bool) (k0:LD→Option R):Option R:=
 bnd (a9y N v0 (bif (v0==(-1)) then (v1==2) else false)) fun y0=>
 bnd (a3b N y0 v1 v2) fun y1=>
 bif y1.isSome then
  k0 (y1.getD default)
 else
  none
def a2V (v0 v1:Int) (v2:Bool):Option (LD):=b95 N v0 v1 v2 (fun p=>some p)
def b7l (w1 w13:Bool) (w15:LD) (k0:LD→Option R) (k1:Unit→Option R):Option R:=
 bif w1 then
  bnd (b5j N 3 30 false [(.a [(.i 1),(.i 60),(.i 2)])] w13 w15) fun y0=>
  bif y0.isSome then
   k0 (y0.getD default)
  else
   none
 else
  k1 ()
def b7m (w1 w13:Bool) (w15:LD):Option (Sum (LD) (Unit)):=b7l N w1 w13 w15 (fun p=>some (.inl p)) (fun p=>some (.inr p))
def b7n (w2:LD) (w3:Int) (w4:Int) (w17:Bool) (w18:LD) (kr:Int→Bool→LD→Option R) (k0:Bool×LD→Option R):Option R:=
 bif (decide (w4<w3)) then
  bif (inB w4 w2.length) then
   bnd (b94 N (w2.getD w4.toNat (.i 0)).toS) fun y0=>
   bif y0.isSome then
    bnd (b5m N 3 [(.l false (y0.getD default))] w18) fun y1=>
    bif y1.isSome then
     kr (IntKind.wrap .i64 (w4+1)) false (y1.getD default)
    else
     none
   else
    none
  else
   none
 else
  k0 (w17,w18)
def a6H (N:Nat) {R:Type} (w2:LD) (w3:Int):Nat→Int→Bool→LD→(Bool×LD→Option R)→Option R
 |0,_,_,_,_=>none
 |m+1,w4,w17,w18,k0=>b7n N w2 w3 w4 w17 w18 (fun w4 w17 w18=>a6H N w2 w3 m w4 w17 w18 k0) k0
def b7o (w2:LD) (w3:Int) (w4:Int) (w17:Bool) (w18:LD):Option (Bool×LD):=a6H N (R:=(Bool×LD)) w2 w3 N w4 w17 w18 (fun p=>some p)
def b7p (w1 w13:Bool) (w15:LD) (k0:LD→Option R) (k1:Unit→Option R):Option R:=
 bif w1 then
  bnd (b5j N 2 19 false [(.a [(.i 253),(.i 4),(.i 0)]),(.a [(.i 1),(.i 4),(.i 0)]),(.a [(.i 2),(.i 60),(.i 2)])] w13 w15) fun y0=>
  bif y0.isSome then
   k0 (y0.getD default)
  else
   none
 else
  k1 ()
def b7q (w1 w13:Bool) (w15:LD):Option (Sum (LD) (Unit)):=b7p N w1 w13 w15 (fun p=>some (.inl p)) (fun p=>some (.inr p))
def b7r (w2:LD) (w3 w7:Int) (w16:Bool) (w4:Int) (w17:Bool) (w18:LD) (kr:Int→Bool→LD→Option R) (k0:Bool×LD→Option R):Option R:=
 bif (decide (w4<w3)) then
  bif (inB w4 w2.length) then
   bnd (IntKind.wrap .i64 (w7+((w2.getD w4.toNat (.i 0)).cell 0).toI)) fun y0=>
   bnd (a2V N y0 4 w16) fun y1=>
   bif y1.isSome then
    bnd (IntKind.wrap .i64 (w7+((w2.getD w4.toNat (.i 0)).cell 1).toI)) fun y2=>
    bnd (a2V N y2 4 w16) fun y3=>
    bif y3.isSome then
     bnd (b94 N ((w2.getD w4.toNat (.i 0)).cell 2).toS) fun y4=>
     bif y4.isSome then
      bnd (b5m N 2 [(.l false (y1.getD default)),(.l false (y3.getD default)),(.l false (y4.getD default))] w18) fun y5=>
      bif y5.isSome then
       kr (IntKind.wrap .i64 (w4+1)) false (y5.getD default)
      else
       none
     else
      none
    else
     none
   else
    none
  else
   none
 else
  k0 (w17,w18)
def a6I (N:Nat) {R:Type} (w2:LD) (w3 w7:Int) (w16:Bool):Nat→Int→Bool→LD→(Bool×LD→Option R)→Option R
 |0,_,_,_,_=>none
 |m+1,w4,w17,w18,k0=>b7r N w2 w3 w7 w16 w4 w17 w18 (fun w4 w17 w18=>a6I N w2 w3 w7 w16 m w4 w17 w18 k0) k0
def b7s (w2:LD) (w3 w7:Int) (w16:Bool) (w4:Int) (w17:Bool) (w18:LD):Option (Bool×LD):=a6I N (R:=(Bool×LD)) w2 w3 w7 w16 N w4 w17 w18 (fun p=>some p)
def b7t (w1 w13:Bool) (w15:LD) (k0:LD→Option R) (k1:Unit→Option R):Option R:=
 bif w1 then
  bnd (b5j N 1 20 false [(.a [(.i 253),(.i 4),(.i 0)]),(.a [(.i 0),(.i 4),(.i 1)]),(.a [(.i 1),(.i 4),(.i 1)]),(.a [(.i 2),(.i 4),(.i 1)]),(.a [(.i 3),(.i 2),(.i 0)]),(.a [(.i 4),(.i 2),(.i 0)]),(.a [(.i 5),(.i 2),(.i 0)])] w13 w15) fun y0=>
  bif y0.isSome then
   k0 (y0.getD default)
  else
   none
 else
  k1 ()
def b7u (w1 w13:Bool) (w15:LD):Option (Sum (LD) (Unit)):=b7t N w1 w13 w15 (fun p=>some (.inl p)) (fun p=>some (.inr p))
def b7v (N:Nat) (w1:Int) (w10:LD) (w17:Int) (k0:Bool→Option R):Option R:=
 bif (decide (w1>0)) then
  bif (inB (IntKind.wrap .i64 (w1-1)) w10.length) then
   bnd ((w10.getD (IntKind.wrap .i64 (w1-1)).toNat (.i 0)).cell 0).toI fun y0=>
   k0 (decide ((IntKind.wrap .i64 (w17-y0))<32))
  else
   none
 else
  k0 false
def b0G (w1:Int) (w10:LD) (w17:Int):Option (Bool):=b7v N w1 w10 w17 (fun p=>some p)
def b7w (N:Nat) (w5:Bool) (w8 w17:Int) (w26:LD) (k0:LD→Option R):Option R:=
 bif w5 then
  bif (inB (IntKind.wrap .i64 ((w26.length:Int)-1)) w26.length) then
   bif (decide ((IntKind.wrap .i64 ((w26.length:Int)-1)).toNat<w26.length)) then
    bnd ((w26.getD (IntKind.wrap .i64 ((w26.length:Int)-1)).toNat (.i 0)).cell 4).isNil fun y0=>
    bnd (((w26.getD (IntKind.wrap .i64 ((w26.length:Int)-1)).toNat (.i 0)).cell 4).items:List D) fun y1=>
    bif ((decide (4≤(y1.length:Int)))&&(decide ((y1.length:Int)≤(y1.length:Int)))) then
     bif (decide ((IntKind.wrap .i64 ((w26.length:Int)-1)).toNat<w26.length)) then
      bnd ((w26.set (IntKind.wrap .i64 ((w26.length:Int)-1)).toNat (.a [(.i 3),(.i ((w26.getD (IntKind.wrap .i64 ((w26.length:Int)-1)).toNat (.i 0)).cell 1).toI),(.i ((w26.getD (IntKind.wrap .i64 ((w26.length:Int)-1)).toNat (.i 0)).cell 2).toI),(.l ((w26.getD (IntKind.wrap .i64 ((w26.length:Int)-1)).toNat (.i 0)).cell 3).isNil ((w26.getD (IntKind.wrap .i64 ((w26.length:Int)-1)).toNat (.i 0)).cell 3).items),(.l ((w26.getD (IntKind.wrap .i64 ((w26.length:Int)-1)).toNat (.i 0)).cell 4).isNil ((w26.getD (IntKind.wrap .i64 ((w26.length:Int)-1)).toNat (.i 0)).cell 4).items)])):List D) fun y2=>
      bif (decide ((IntKind.wrap .i64 ((w26.length:Int)-1)).toNat<y2.length)) then
       bnd ((y2.set (IntKind.wrap .i64 ((w26.length:Int)-1)).toNat (.a [(.i ((y2.getD (IntKind.wrap .i64 ((w26.length:Int)-1)).toNat (.i 0)).cell 0).toI),(.i ((y2.getD (IntKind.wrap .i64 ((w26.length:Int)-1)).toNat (.i 0)).cell 1).toI),(.i ((IntKind.wrap .i64 (w8+w17)).tmod 32)),(.l ((y2.getD (IntKind.wrap .i64 ((w26.length:Int)-1)).toNat (.i 0)).cell 3).isNil ((y2.getD (IntKind.wrap .i64 ((w26.length:Int)-1)).toNat (.i 0)).cell 3).items),(.l ((y2.getD (IntKind.wrap .i64 ((w26.length:Int)-1)).toNat (.i 0)).cell 4).isNil ((y2.getD (IntKind.wrap .i64 ((w26.length:Int)-1)).toNat (.i 0)).cell 4).items)])):List D) fun y3=>
       bif (decide ((IntKind.wrap .i64 ((w26.length:Int)-1)).toNat<y3.length)) then
        bnd ((y3.set (IntKind.wrap .i64 ((w26.length:Int)-1)).toNat (.a [(.i ((y3.getD (IntKind.wrap .i64 ((w26.length:Int)-1)).toNat (.i 0)).cell 0).toI),(.i ((y3.getD (IntKind.wrap .i64 ((w26.length:Int)-1)).toNat (.i 0)).cell 1).toI),(.i ((y3.getD (IntKind.wrap .i64 ((w26.length:Int)-1)).toNat (.i 0)).cell 2).toI),(.l ((y3.getD (IntKind.wrap .i64 ((w26.length:Int)-1)).toNat (.i 0)).cell 3).isNil ((y3.getD (IntKind.wrap .i64 ((w26.length:Int)-1)).toNat (.i 0)).cell 3).items),(.l y0 ((y1.take (y1.length:Int).toNat).drop 4))])):List D) fun y4=>
        k0 y4
       else
        none
      else
       none
     else
      none
    else
     none
   else
    none
  else
   none
 else
  k0 w26
def b0H (w5:Bool) (w8 w17:Int) (w26:LD):Option (LD):=b7w N w5 w8 w17 w26 (fun p=>some p)
def b7x (w0 :Bool) (w2:LD) (w3 w7:Int) (w9:LD) (w16:Bool) (w4:Int) (w17:Bool) (w18:LD) (kr:Int→Bool→LD→Option R) (k0:Bool×LD→Option R):Option R:=
 bif (decide (w4<w3)) then
  bif (inB w4 w2.length) then
   bnd (IntKind.wrap .i64 (w7+((w2.getD w4.toNat (.i 0)).cell 0).toI)) fun y0=>
   bnd (a2V N y0 4 w16) fun y1=>
   bif y1.isSome then
    bnd (a3b N ((w2.getD w4.toNat (.i 0)).cell 1).toI 4 w0) fun y2=>
    bif y2.isSome then
     bnd (a3b N ((w2.getD w4.toNat (.i 0)).cell 2).toI 4 w0) fun y3=>
     bif y3.isSome then
      bnd (a3b N ((w2.getD w4.toNat (.i 0)).cell 3).toI 4 w0) fun y4=>
      bif y4.isSome then
       bnd (a2V N ((w2.getD w4.toNat (.i 0)).cell 4).toI 2 w16) fun y5=>
       bif y5.isSome then
        bnd (a2V N ((w2.getD w4.toNat (.i 0)).cell 5).toI 2 w16) fun y6=>
        bif y6.isSome then
         bnd (a2V N ((w2.getD w4.toNat (.i 0)).cell 6).toI 2 w16) fun y7=>
         bif y7.isSome then
          bnd (b5m N 1 [(.l false (y1.getD default)),(.l false (y2.getD default)),(.l false (y3.getD default)),(.l false (y4.getD default)),(.l false (y5.getD default)),(.l false (y6.getD default)),(.l false (y7.getD default))] w18) fun y8=>
          bif y8.isSome then
           bnd (b0G N w4 w9 ((w2.getD w4.toNat (.i 0)).cell 0).toI) fun y9=>
           bif y9.isSome then
            bnd (b0H N (y9.getD default) w7 ((w2.getD w4.toNat (.i 0)).cell 0).toI (y8.getD default)) fun y10=>
            bif y10.isSome then
             kr (IntKind.wrap .i64 (w4+1)) false (y10.getD default)
            else
             none
           else
            none
          else
           none
         else
          none
        else
         none
       else
        none
      else
       none
     else
      none
    else
     none
   else
    none
  else
   none
 else
  k0 (w17,w18)
def a6J (N:Nat) {R:Type} (w0:Bool) (w2:LD) (w3 w7:Int) (w9:LD) (w16:Bool):Nat→Int→Bool→LD→(Bool×LD→Option R)→Option R
 |0,_,_,_,_=>none
 |m+1,w4,w17,w18,k0=>b7x N w0 w2 w3 w7 w9 w16 w4 w17 w18 (fun w4 w17 w18=>a6J N w0 w2 w3 w7 w9 w16 m w4 w17 w18 k0) k0
def b7y (w0:Bool) (w2:LD) (w3 w7:Int) (w9:LD) (w16:Bool) (w4:Int) (w17:Bool) (w18:LD):Option (Bool×LD):=a6J N (R:=(Bool×LD)) w0 w2 w3 w7 w9 w16 N w4 w17 w18 (fun p=>some p)
end Go.Proofs.YtiegikkpipdleaaGreatDoor
namespace Go.Proofs.YtiegikkpipdleaaGreatDoor
open Go Go.AM
variable {N:Nat}
def ltr (n:Int):Bool:=decide (97≤n∧n≤122∨65≤n∧n≤90∨48≤n∧n≤57∨n=45∨n=95∨n=46)
def b1H (s:List UInt8):Bool:=s.all (fun c=>ltr (c.toNat:Int))&&decide (1≤s.length∧s.length≤60)
def b1p (s:List UInt8):Bool:=s.all (fun c=>decide (32≤(c.toNat:Int)∧(c.toNat:Int)≤126))&&decide (s.length≤60)
def inI (n a b:Int):Bool:=decide (a≤n∧n≤b)
theorem d0R (hN:maxLen<N) {s:List UInt8} (hs:s.length≤maxLen):c4T N s s.length 0=some (bif s.all (fun c=>ltr (c.toNat:Int)) then .inr () else .inl ()):=by
 unfold c4T;refine (a2S (0:UInt8) (S:=fun w kr=>b0c N s s.length w kr _ _) (L:=fun m w=>b8Q N s s.length m w _ _) (fun m w=>rfl) (fun _ l=>some (bif l.all (fun c=>ltr (c.toNat:Int)) then .inr () else .inl ())) hs ?_ ?_ hN).trans rfl
 ·intro kr;simp [b0c]
 ·intro w kr h0 h1 hw hi hk
  simp only [b0c,decide_eq_true h1,f6B,hi,a0i,hw,hk,List.all_cons,b2o,a6s,e0j,c9F];generalize ((s.getD w.toNat 0).toNat:Int)=n;refine (c8O (c':= !ltr n) ?_).trans ?_
  ·rw [Bool.eq_iff_iff];simp [ltr];omega
  ·cases ltr n<;>rfl
theorem c7F (hN:maxLen<N) {s:List UInt8} (hs:s.length≤maxLen):c9K N s=some (b1H s):=by
 unfold c9K c9J;rw [d0R hN hs];unfold b1H;cases s.all (fun c=>ltr (c.toNat:Int)) with
 |false=>rfl
 |true=>
  simp only [a0i,a1V,a1W,f6B,f6C,f6G,Bool.true_and];congr 1
  rw [Bool.eq_iff_iff];simp;omega
theorem a34 (n a b:Int):a26 N n a b=inI n a b:=by
 unfold a26 c4x inI;rw [Bool.eq_iff_iff];simp
theorem b0I (n a b:Int):a48 N n a b= !inI n a b:=by
 unfold a48 d7q inI;rw [Bool.eq_iff_iff];simp<;>omega
theorem e1G (c:UInt8):IntKind.wrap .i64 (c.toNat:Int)=c.toNat:=a0s (by omega) (by have:=c.toNat_lt;omega)
theorem e1H (hN:maxLen<N) {s:List UInt8} (hs:s.length≤maxLen):d43 N s=some (b1p s):=by
 have h:c4U N s s.length 0=some (bif s.all (fun c=>decide (32≤(c.toNat:Int)∧(c.toNat:Int)≤126)) then .inr () else .inl ()):=by
  unfold c4U;refine (a2S (0:UInt8) (S:=fun w kr=>b0e N s s.length w kr _ _) (L:=fun m w=>b8V N s s.length m w _ _) (fun m w=>rfl) (fun _ l=>some (bif l.all (fun c=>decide (32≤(c.toNat:Int)∧(c.toNat:Int)≤126)) then .inr () else .inl ())) hs ?_ ?_ hN).trans rfl
  ·intro kr;simp [b0e]
  ·intro w kr h0 h1 hw hi hk
   simp only [b0e,decide_eq_true h1,f6B,hi,a0i,hw,hk,List.all_cons,e1G,a34,inI];cases decide (32≤((s.getD w.toNat 0).toNat:Int)∧((s.getD w.toNat 0).toNat:Int)≤126)<;>rfl
 unfold d43 c9O;rw [h];unfold b1p;cases s.all (fun c=>decide (32≤(c.toNat:Int)∧(c.toNat:Int)≤126)) with
 |false=>rfl
 |true=>
  simp only [a0i,a1V,a1W,f6B,f6C,f6G,Bool.true_and];congr 1
  rw [Bool.eq_iff_iff];simp;omega
def a0Q (e:Int→Int):Int→List D→Int
 |_,[]=>0
 |w,_::r=>bif e w !=0 then e w else a0Q e (w+1) r
def b5G (n:Int):Sum Int Unit:=bif n !=0 then .inl n else .inr ()
theorem a5Y {e:Int→Int} {w:Int} {x:D} {l:List D}:b5G (a0Q e w (x::l))=bif e w !=0 then .inl (e w) else b5G (a0Q e (w+1) l):=by
 simp only [a0Q];cases h:e w !=0 with
 |true=>simp only [f6B,b5G,h]
 |false=>rfl
def e8q (xs:List D) (w:Int):Bool:=bif w==0 then ((xs.getD w.toNat (.i 0)).cell 0).toI !=0 else decide (((xs.getD w.toNat (.i 0)).cell 0).toI≤((xs.getD (w-1).toNat (.i 0)).cell 0).toI)
def e8r (s:D):Bool:=inI (s.cell 1).toI (-100000000) 100000000&&inI (s.cell 2).toI (-100000000) 100000000&&inI (s.cell 3).toI (-100000) 100000&&inI (s.cell 4).toI (-1) 300&&inI (s.cell 5).toI (-1) 3000&&inI (s.cell 6).toI (-1) 300
def e8s (start:Int) (s:D):Bool:=decide ((s.cell 0).toI>1000000)||decide (IntKind.wrap .i64 (start+(s.cell 0).toI)>86399999999)
def d0S (start:Int) (xs:List D) (w:Int):Int:=bif e8q xs w then 10 else bif e8s start (xs.getD w.toNat (.i 0))|| !e8r (xs.getD w.toNat (.i 0)) then 9 else 0
section
variable {xs:List D} {w:Int}
theorem c5E (h0:0≤w) (h1:w<xs.length) (hl:xs.length≤maxLen) (hp:w≠0):IntKind.wrap .i64 (w-1)=w-1∧inB (w-1) xs.length=true:=by
 have hm:maxLen=9223372036854775807:=rfl;exact ⟨a0s (by omega) (by omega),a0K (by omega) (by omega)⟩
theorem f4Y (h0:0≤w) (h1:w<xs.length) (hl:xs.length≤maxLen):a4s N w (bif (w==0) then (((xs.getD w.toNat (.i 0)).cell 0).toI !=0) else false) xs ((xs.getD w.toNat (.i 0)).cell 0).toI=some (e8q xs w):=by
 unfold a4s a4r b8X b0f e8q;by_cases hw:w=0
 ·subst hw
  rw [decide_eq_false (by omega:¬((0:Int)>0))]
  simp only [beq_self_eq_true,f6B];cases (((xs.getD (0:Int).toNat (.i 0)).cell 0).toI !=0)<;>rfl
 ·obtain ⟨e1,e2⟩:=c5E h0 h1 hl hw
  have:(w==0)=false:=by simpa using hw
  rw [this,decide_eq_true (by omega:w>0),e1,e2]
  rfl
theorem f4Z (start:Int) (s:D):b4q N start (s.cell 0).toI (s.cell 1).toI (s.cell 2).toI (s.cell 3).toI (s.cell 4).toI (s.cell 5).toI (s.cell 6).toI=(e8s start s|| !e8r s):=by
 unfold b4q b4p e0o d4X b8S b0d b8T b4m e8s e8r;simp only [a0i,a34];cases decide ((s.cell 0).toI>1000000)<;>cases decide (IntKind.wrap .i64 (start+(s.cell 0).toI)>86399999999)<;>cases inI (s.cell 1).toI (-100000000) 100000000<;>cases inI (s.cell 2).toI (-100000000) 100000000<;>cases inI (s.cell 3).toI (-100000) 100000<;>cases inI (s.cell 4).toI (-1) 300<;>cases inI (s.cell 5).toI (-1) 3000<;>cases inI (s.cell 6).toI (-1) 300<;>rfl
theorem d0T (hN:maxLen<N) (start:Int) (hl:xs.length≤maxLen):c4V N xs xs.length start xs 0=some (b5G (a0Q (d0S start xs) 0 xs)):=by
 unfold c4V;refine (a2S (.i 0:D) (S:=fun w kr=>b0g N xs xs.length start xs w kr _ _) (L:=fun m w=>b8Z N xs xs.length start xs m w _ _) (fun m w=>rfl) (fun w l=>some (b5G (a0Q (d0S start xs) w l))) hl ?_ ?_ hN).trans rfl
 ·intro kr;simp [b0g,a0Q,b5G]
 ·intro w kr h0 h1 hw hi hk
  simp only [b0g,decide_eq_true h1,f6B,hi,a0i,hw,hk,f4Y h0 h1 hl,f6G,getD_some,f4Z,a5Y];unfold d0S;cases e8q xs w with
  |true=>rfl
  |false=>cases (e8s start (xs.getD w.toNat (.i 0))|| !e8r (xs.getD w.toNat (.i 0)))<;>rfl
def a4d (xs:List D):Int:=bif decide ((xs.length:Int)>0) then ((xs.getD ((xs.length:Int)-1).toNat (.i 0)).cell 0).toI else 0
theorem b96 (hl:xs.length≤maxLen):c9M N xs=some (a4d xs):=by
 have hm:maxLen=9223372036854775807:=rfl;unfold c9M c9L a4d;by_cases h:(xs.length:Int)>0
 ·rw [decide_eq_true h,a0s (by omega) (by omega),a0K (by omega) (by omega)];rfl
 ·rw [decide_eq_false h];rfl
def f2Y (xs:List D) (w:Int):Bool:=bif decide (w>0) then decide (((xs.getD w.toNat (.i 0)).cell 0).toI<((xs.getD (w-1).toNat (.i 0)).cell 1).toI) else false
def f40 (span:Int) (s:D):Bool:=decide ((s.cell 0).toI<0)||decide ((s.cell 0).toI≥(s.cell 1).toI)||decide ((s.cell 1).toI>span)
def e1I (span:Int) (xs:List D) (w:Int):Int:=bif f40 span (xs.getD w.toNat (.i 0)) then 9 else bif f2Y xs w then 10 else bif b1p ((xs.getD w.toNat (.i 0)).cell 2).toS then 0 else 8
theorem f41 (h0:0≤w) (h1:w<xs.length) (hl:xs.length≤maxLen):b4s N w xs ((xs.getD w.toNat (.i 0)).cell 0).toI=some (f2Y xs w):=by
 unfold b4s b0h f2Y;by_cases hw:w=0
 ·subst hw;rfl
 ·obtain ⟨e1,e2⟩:=c5E h0 h1 hl hw
  rw [decide_eq_true (by omega:w>0),e1,e2];rfl
theorem d0U (hN:maxLen<N) (span:Int) (hl:xs.length≤maxLen) (hn:∀x∈xs,(x.cell 2).toS.length≤maxLen):c4W N span xs xs.length xs 0=some (b5G (a0Q (e1I span xs) 0 xs)):=by
 unfold c4W;refine (a2S (.i 0:D) (S:=fun w kr=>b0i N span xs xs.length xs w kr _ _) (L:=fun m w=>b81 N span xs xs.length xs m w _ _) (fun m w=>rfl) (fun w l=>some (b5G (a0Q (e1I span xs) w l))) hl ?_ ?_ hN).trans rfl
 ·intro kr;simp [b0i,a0Q,b5G]
 ·intro w kr h0 h1 hw hi hk
  have hmem:xs.getD w.toNat (.i 0)∈xs:=by rw [f6F,f6L (by omega)];exact List.getElem_mem _
  simp only [b0i,decide_eq_true h1,f6B,hi,a0i,hw,hk,f41 h0 h1 hl,e1H hN (hn _ hmem),f6G,getD_some,a5Y];unfold e1I f40;generalize xs.getD w.toNat (.i 0)=s;cases decide ((s.cell 0).toI<0)<;>cases decide ((s.cell 0).toI≥(s.cell 1).toI)<;>cases decide ((s.cell 1).toI>span)<;>cases f2Y xs w<;>cases b1p (s.cell 2).toS<;>rfl
def leS (a b:List UInt8):Bool:=Op.bytesLess a b||a==b
def f2Z (xs:List D) (w:Int):Bool:=bif decide (w>0) then leS (xs.getD w.toNat (.i 0)).toS (xs.getD (w-1).toNat (.i 0)).toS else false
def e7o (xs:List D) (w:Int):Int:=bif b1H (xs.getD w.toNat (.i 0)).toS then (bif f2Z xs w then 10 else 0) else 8
theorem f20 (h0:0≤w) (h1:w<xs.length) (hl:xs.length≤maxLen):(bif (inB (IntKind.wrap .i64 (w-1)) xs.length) then true else (!((decide (w>0))==true)))=true∧(bif (decide (w>0)) then ((Op.bytesLess (xs.getD w.toNat (.i 0)).toS (xs.getD (IntKind.wrap .i64 (w-1)).toNat (.i 0)).toS)||((xs.getD w.toNat (.i 0)).toS==(xs.getD (IntKind.wrap .i64 (w-1)).toNat (.i 0)).toS)) else false)=f2Z xs w:=by
 unfold f2Z leS;by_cases hw:w=0
 ·subst hw
  rw [decide_eq_false (by omega:¬((0:Int)>0))]
  refine ⟨?_,rfl⟩;cases inB (IntKind.wrap .i64 (0-1)) xs.length<;>rfl
 ·obtain ⟨e1,e2⟩:=c5E h0 h1 hl hw
  rw [decide_eq_true (by omega:w>0),e1,e2]
  exact ⟨rfl,rfl⟩
theorem d0V (hN:maxLen<N) (hl:xs.length≤maxLen) (hn:∀x∈xs,x.toS.length≤maxLen):c4X N xs xs.length xs 0=some (b5G (a0Q (e7o xs) 0 xs)):=by
 unfold c4X;refine (a2S (.i 0:D) (S:=fun w kr=>b0j N xs xs.length xs w kr _ _) (L:=fun m w=>b83 N xs xs.length xs m w _ _) (fun m w=>rfl) (fun w l=>some (b5G (a0Q (e7o xs) w l))) hl ?_ ?_ hN).trans rfl
 ·intro kr;simp [b0j,a0Q,b5G]
 ·intro w kr h0 h1 hw hi hk
  have hmem:xs.getD w.toNat (.i 0)∈xs:=by rw [f6F,f6L (by omega)];exact List.getElem_mem _
  obtain ⟨t1,t2⟩:=f20 h0 h1 hl;simp only [b0j,decide_eq_true h1,f6B,hi,a0i,hw,hk,c7F hN (hn _ hmem),f6G,getD_some,a5Y,t2];unfold e7o;rw [t1];cases b1H (xs.getD w.toNat (.i 0)).toS<;>cases f2Z xs w<;>rfl
end
def c5F (name:List UInt8) (sport start:Int) (smps laps tags:List D):Int:=
 bif !b1H name then 8 else bif !inI sport 1 5 then 7 else bif !inI start 0 86399999999 then 9 else
 bif decide ((smps.length:Int)>20000)||decide ((laps.length:Int)>200)||decide ((tags.length:Int)>20) then 3 else
 bif a0Q (d0S start smps) 0 smps !=0 then a0Q (d0S start smps) 0 smps else
 bif a0Q (e1I (a4d smps) laps) 0 laps !=0 then a0Q (e1I (a4d smps) laps) 0 laps else a0Q (e7o tags) 0 tags
structure d0W (name:List UInt8) (smps laps tags:List D):Prop where
 n:name.length≤maxLen
 s:smps.length≤maxLen
 l:laps.length≤maxLen
 t:tags.length≤maxLen
 ln:∀x∈laps,(x.cell 2).toS.length≤maxLen
 tn:∀x∈tags,x.toS.length≤maxLen
theorem d7H {α:Type} (n:Int) (k0:Int→α) (k1:α) (z:α):(bif a0O (some (b5G n)) then k0 (a01 (some (b5G n))) else bif (a0l (some (b5G n))).isSome then k1 else z)=bif n !=0 then k0 n else k1:=by
 unfold b5G;cases n !=0<;>rfl
section
variable {name:List UInt8} {sport start:Int} {smps laps tags:List D}
theorem b5n (hN:maxLen<N) (h:d0W name smps laps tags):e0w N name sport start smps laps tags=some (c5F name sport start smps laps tags):=by
 unfold e0w f0V;simp only [a0i,c7F hN h.n,f6G,f6B,getD_some,a34,d0T hN start h.s,b96 h.s,d0U hN _ h.l h.ln,d0V hN h.t h.tn,d7H];unfold c5F;cases b1H name<;>cases inI sport 1 5<;>cases inI start 0 86399999999<;>cases decide ((smps.length:Int)>20000)<;>cases decide ((laps.length:Int)>200)<;>cases decide ((tags.length:Int)>20)<;>try rfl
 cases a0Q (d0S start smps) 0 smps !=0<;>cases a0Q (e1I (a4d smps) laps) 0 laps !=0<;>cases h3:a0Q (e7o tags) 0 tags !=0<;>first|rfl|(simp only [bne_eq_false_iff_eq] at h3;simp [h3])
end
end Go.Proofs.YtiegikkpipdleaaGreatDoor
namespace Go.Proofs.YtiegikkpipdleaaGreatDoor
open Go Go.AM
variable {N:Nat}
def a35 (f:D→D→Bool):List D→List D→Bool
 |x::r,y::s=>f x y&&a35 f r s
 |_,_=>true
def eqL (f:D→D→Bool) (xs ys:List D):Bool:=(xs.length==ys.length)&&a35 f xs ys
theorem c5G {xs ys:List D} (f:D→D→Bool) {S:Int→(Int→Option (Sum Unit Unit))→Option (Sum Unit Unit)} {L:Nat→Int→Option (Sum Unit Unit)} (hL:∀m a,L (m+1) a=S a (L m)) (hlen:xs.length≤maxLen) (hxy:xs.length=ys.length)
  (hend:∀kr,S xs.length kr=some (.inr ()))
  (hstep:∀(w:Int) (kr:Int→Option (Sum Unit Unit)),decide (w<xs.length)=true→inB w xs.length=true→inB w ys.length=true→S w kr=bif f (xs.getD w.toNat (.i 0)) (ys.getD w.toNat (.i 0)) then kr (IntKind.wrap .i64 (w+1)) else some (.inl ()))
  (hN:maxLen<N):L N 0=some (bif a35 f xs ys then .inr () else .inl ()):=by
 refine (a2S (.i 0:D) hL (fun w l=>some (bif a35 f l (ys.drop w.toNat) then .inr () else .inl ())) hlen ?_ ?_ hN).trans (by simp)
 ·intro kr;rw [hend];simp [a35]
 ·intro w kr h0 h1 hw hi hk
  have h2:w<ys.length:=by omega
  rw [hstep w kr (decide_eq_true h1) hi (a0K h0 (by omega)),hw,hk,a05 (.i 0) (xs:=ys) h0 h2]
  simp only [a35];cases f (xs.getD w.toNat (.i 0)) (ys.getD w.toNat (.i 0))<;>rfl
def e1J (x y:D):Bool:=((x.cell 0).toI==(y.cell 0).toI)&&(((x.cell 1).toI==(y.cell 1).toI)&&(((x.cell 2).toI==(y.cell 2).toI)&&(((x.cell 3).toI==(y.cell 3).toI)&&(((x.cell 4).toI==(y.cell 4).toI)&&(((x.cell 5).toI==(y.cell 5).toI)&&(((x.cell 6).toI==(y.cell 6).toI)&&true))))))
def e1K (x y:D):Bool:=((x.cell 0).toI==(y.cell 0).toI)&&(((x.cell 1).toI==(y.cell 1).toI)&&(((x.cell 2).toS==(y.cell 2).toS)&&true))
def e1L (x y:D):Bool:=x.toS==y.toS
section
variable {xs ys:List D}
theorem c5H (hN:maxLen<N) (hl:xs.length≤maxLen) (h:xs.length=ys.length):b9Q N xs ys xs.length 0=some (bif a35 e1J xs ys then .inr () else .inl ()):=by
 unfold b9Q;refine c5G e1J (S:=fun w kr=>a6A N xs ys xs.length w kr _ _) (L:=fun m w=>b2O N xs ys xs.length m w _ _) (fun m w=>rfl) hl h (fun kr=>by simp [a6A]) (fun w kr h1 h2 h3=> ?_) hN
 unfold a6A;rw [h1,h2,h3];show (bif !(e1J _ _) then _ else _)=_
 cases e1J (xs.getD w.toNat (.i 0)) (ys.getD w.toNat (.i 0))<;>rfl
theorem c5I (hN:maxLen<N) (hl:xs.length≤maxLen) (h:xs.length=ys.length):b9S N xs ys xs.length 0=some (bif a35 e1K xs ys then .inr () else .inl ()):=by
 unfold b9S;refine c5G e1K (S:=fun w kr=>a6B N xs ys xs.length w kr _ _) (L:=fun m w=>b2Q N xs ys xs.length m w _ _) (fun m w=>rfl) hl h (fun kr=>by simp [a6B]) (fun w kr h1 h2 h3=> ?_) hN
 unfold a6B;rw [h1,h2,h3];show (bif !(e1K _ _) then _ else _)=_
 cases e1K (xs.getD w.toNat (.i 0)) (ys.getD w.toNat (.i 0))<;>rfl
theorem c5J (hN:maxLen<N) (hl:xs.length≤maxLen) (h:xs.length=ys.length):b9U N xs ys xs.length 0=some (bif a35 e1L xs ys then .inr () else .inl ()):=by
 unfold b9U;refine c5G e1L (S:=fun w kr=>a6C N xs ys xs.length w kr _ _) (L:=fun m w=>b2S N xs ys xs.length m w _ _) (fun m w=>rfl) hl h (fun kr=>by simp [a6C]) (fun w kr h1 h2 h3=> ?_) hN
 unfold a6C;rw [h1,h2,h3];show (bif !(e1L _ _) then _ else _)=_
 cases e1L (xs.getD w.toNat (.i 0)) (ys.getD w.toNat (.i 0))<;>rfl
theorem c5K:((xs.length:Int) !=(ys.length:Int))= !(xs.length==ys.length):=by
 rw [Bool.eq_iff_iff];simp;omega
theorem e1M (hN:maxLen<N) (hl:xs.length≤maxLen):d61 N xs ys=some (eqL e1J xs ys):=by
 unfold d61 d0H eqL;rw [c5K];cases h:(xs.length==ys.length) with
 |false=>rfl
 |true=>
  rw [c5H hN hl (by simpa using h)]
  cases a35 e1J xs ys<;>rfl
theorem e1N (hN:maxLen<N) (hl:xs.length≤maxLen):d66 N xs ys=some (eqL e1K xs ys):=by
 unfold d66 d0I eqL;rw [c5K];cases h:(xs.length==ys.length) with
 |false=>rfl
 |true=>
  rw [c5I hN hl (by simpa using h)]
  cases a35 e1K xs ys<;>rfl
theorem e1O (hN:maxLen<N) (hl:xs.length≤maxLen):d7b N xs ys=some (eqL e1L xs ys):=by
 unfold d7b d0J eqL;rw [c5K];cases h:(xs.length==ys.length) with
 |false=>rfl
 |true=>
  rw [c5J hN hl (by simpa using h)]
  cases a35 e1L xs ys<;>rfl
end
def e1P (n:List UInt8) (sp st:Int) (s l t:List D) (n':List UInt8) (sp' st':Int) (s' l' t':List D):Bool:=
 (n==n')&&(sp==sp')&&(st==st')&&eqL e1J s s'&&eqL e1K l l'&&eqL e1L t t'
section
variable {n n':List UInt8} {sp st sp' st':Int} {s l t s' l' t':List D}
theorem e7p (hN:maxLen<N) (hs:s.length≤maxLen) (hl:l.length≤maxLen) (ht:t.length≤maxLen):f2O N n sp st s l t n' sp' st' s' l' t'=some (e1P n sp st s l t n' sp' st' s' l' t'):=by
 unfold f2O f2N c7x c25;simp only [a0i,e1M hN hs,e1N hN hl,e1O hN ht,f6G,f6B,getD_some];unfold e1P;cases n==n'<;>cases sp==sp'<;>cases st==st'<;>cases eqL e1J s s'<;>cases eqL e1K l l'<;>cases eqL e1L t t'<;>rfl
theorem b5o {f:D→D→Bool} (hf:∀x,f x x=true):∀l,a35 f l l=true
 | []=>rfl
 |x::r=>by simp only [a35,hf,b5o hf r,Bool.and_self]
theorem b97 {f:D→D→Bool} (hf:∀x,f x x=true) (l:List D):eqL f l l=true:=by
 unfold eqL;rw [b5o hf];simp
theorem d0Y:e1P n sp st s l t n sp st s l t=true:=by
 unfold e1P;rw [b97 (fun x=>by simp [e1J]),b97 (fun x=>by simp [e1K]),b97 (fun x=>by simp [e1L])]
 simp
end
end Go.Proofs.YtiegikkpipdleaaGreatDoor
namespace Go.Proofs.YtiegikkpipdleaaGreatDoor
open Go Go.AM
variable {N:Nat}
theorem a4t {A X:Type} {S:A→(A→X)→X} {L:Nat→A→X} (hL:∀m a,L (m+1) a=S a (L m)) (P:A→X→Prop) (Inv:A→Prop) (μ:A→Nat)
  (h:∀a kr,Inv a→(∀a',Inv a'→μ a'<μ a→P a' (kr a'))→P a (S a kr)):∀(m:Nat) (a:A),Inv a→μ a<m→P a (L m a):=by
 intro m;induction m with
 |zero=>intro a _ h;omega
 |succ m ih=>intro a ha hm;rw [hL];exact h a (L m) ha fun a' h1 h2=>ih a' h1 (by omega)
def fN (f:D):Int:=(f.cell 0).toI
def fS (f:D):Int:=(f.cell 1).toI
def fT (f:D):Int:=(f.cell 2).toI
def isT (f:D):Bool:=(fN f==253)&&(fT f==0)&&(fS f==4)
def d0Z (n:Int) (l:List D):Bool:=l.any fun f=>fN f==n
def c3i (fs:List D) (w:Int):Int:=
 bif !(inI (fN (fs.getD w.toNat (.i 0))) 0 255)|| !(inI (fS (fs.getD w.toNat (.i 0))) 1 255) then 9 else bif !inI (fT (fs.getD w.toNat (.i 0))) 0 3 then 7 else
 bif decide (fT (fs.getD w.toNat (.i 0))≤1)&&(fS (fs.getD w.toNat (.i 0)) !=1)&&(fS (fs.getD w.toNat (.i 0)) !=2)&&(fS (fs.getD w.toNat (.i 0)) !=4) then 2 else
 bif d0Z (fN (fs.getD w.toNat (.i 0))) (fs.take w.toNat) then 5 else 0
def b7z (g:Int) (fs:List D):Int:=bif !inI g 0 65535 then 9 else bif decide ((fs.length:Int)>30) then 3 else a0Q (c3i fs) 0 fs
theorem d7I (hN:maxLen<N) {xs:List D} {n:Int} (hs:xs.length≤maxLen):∃i:Int,c1L N xs n=some i∧decide (i≥0)=d0Z n xs:=by
 have h:b8v N xs xs.length n 0=some (match xs.findIdx? fun d=>fN d==n with|some j=> .inl (j:Int)|none=> .inr ()):=by
  unfold b8v;refine (a2S (.i 0:D) (S:=fun w kr=>a6g N xs xs.length n w kr _ _) (L:=fun m w=>b1W N xs xs.length n m w _ _) (fun m w=>rfl) (fun w l=>some (match l.findIdx? fun d=>fN d==n with|some j=> .inl (w+(j:Int))|none=> .inr ())) hs ?_ ?_ hN).trans (by simp)
  ·intro kr;simp [a6g]
  ·intro w kr h0 h1 hw hi hk
   simp only [a6g,d9u,c8W,decide_eq_true h1,f6B,hi,a0i,hw,hk,List.findIdx?_cons];show (bif (fN (xs.getD w.toNat (.i 0))==n) then _ else _)=_
   cases fN (xs.getD w.toNat (.i 0))==n with
   |true=>simp
   |false=>
    simp only [f6C,Bool.false_eq_true,if_false];cases (xs.drop (w+1).toNat).findIdx? fun d=>fN d==n with
    |none=>rfl
    |some j=>simp;omega
 unfold c1L b6E;rw [h];have hl:d0Z n xs=(xs.findIdx? fun d=>fN d==n).isSome:=by
  rw [List.findIdx?_isSome];rfl
 rw [hl];cases xs.findIdx? fun d=>fN d==n with
 |none=>exact ⟨-1,rfl,rfl⟩
 |some j=>exact ⟨j,rfl,by simp⟩
theorem e1Q (hN:maxLen<N) {xs:List D} {n:Int} (hs:xs.length≤maxLen):d3l N xs n=some (d0Z n xs):=by
 obtain ⟨i,h1,h2⟩:=d7I hN (n:=n) hs;unfold d3l c8X;rw [h1];simp only [a0i,f6G,f6B,getD_some,h2]
theorem b98 (hN:maxLen<N) {xs:List D} {n:Int} (hs:xs.length≤maxLen):b0x N xs xs.length n 0=some (bif d0Z n xs then .inl () else .inr ()):=by
 unfold b0x;refine (a2S (.i 0:D) (S:=fun w kr=>a6D N xs xs.length n w kr _ _) (L:=fun m w=>b0w N xs xs.length n m w _ _) (fun m w=>rfl) (fun _ l=>some (bif d0Z n l then .inl () else .inr ())) hs ?_ ?_ hN).trans rfl
 ·intro kr;simp [a6D,d0Z]
 ·intro w kr h0 h1 hw hi hk
  simp only [a6D,decide_eq_true h1,f6B,hi,hw,hk,d0Z,List.any_cons];show (bif (fN (xs.getD w.toNat (.i 0))==n) then _ else _)=_
  cases fN (xs.getD w.toNat (.i 0))==n<;>rfl
section
variable {fs:List D} {w:Int}
theorem d7J (h0:0≤w) (h1:w<fs.length):(decide (0≤w)&&decide (w≤(fs.length:Int)))=true:=by
 rw [decide_eq_true h0,decide_eq_true (by omega)];rfl
theorem c5L (hN:maxLen<N) (hl:fs.length≤maxLen):b8w N fs fs.length fs 0=some (b5G (a0Q (c3i fs) 0 fs)):=by
 unfold b8w;refine (a2S (.i 0:D) (S:=fun w kr=>a6i N fs fs.length fs w kr _ _) (L:=fun m w=>b10 N fs fs.length fs m w _ _) (fun m w=>rfl) (fun w l=>some (b5G (a0Q (c3i fs) w l))) hl ?_ ?_ hN).trans rfl
 ·intro kr;simp [a6i,a0Q,b5G]
 ·intro w kr h0 h1 hw hi hk
  have hm:=e1Q hN (xs:=fs.take w.toNat) (n:=fN (fs.getD w.toNat (.i 0))) (by simp;omega)
  simp only [a6i,decide_eq_true h1,f6B,hi,a0i,hw,hk,d7J h0 h1,List.drop_zero,b1Z,a6h,a34,a5Y];rw [show (((fs.getD w.toNat (.i 0)).cell 0).toI)=fN (fs.getD w.toNat (.i 0)) from rfl,hm];unfold c3i;generalize d0Z (fN (fs.getD w.toNat (.i 0))) (fs.take w.toNat)=hh;generalize fs.getD w.toNat (.i 0)=f;rw [show ((f.cell 1).toI)=fS f from rfl,show ((f.cell 2).toI)=fT f from rfl];simp only [f6G,getD_some,f6B];cases inI (fN f) 0 255<;>try rfl
  cases inI (fS f) 1 255<;>try rfl
  cases h3:inI (fT f) 0 3<;>try rfl
  have e:(bif fT f==0 then true else fT f==1)=decide (fT f≤1):=by
   unfold inI at h3;rw [Bool.eq_iff_iff];simp at h3⊢;by_cases h:fT f=0<;>simp [h]<;>omega
  rw [e];cases decide (fT f≤1)<;>cases (fS f !=1)<;>cases (fS f !=2)<;>cases (fS f !=4)<;>cases hh<;>rfl
theorem b99 (hN:maxLen<N) (hl:fs.length≤maxLen):b0z N fs fs.length fs 0=some (b5G (a0Q (c3i fs) 0 fs)):=by
 unfold b0z;refine (a2S (.i 0:D) (S:=fun w kr=>a6E N fs fs.length fs w kr _ _) (L:=fun m w=>b0y N fs fs.length fs m w _ _) (fun m w=>rfl) (fun w l=>some (b5G (a0Q (c3i fs) w l))) hl ?_ ?_ hN).trans rfl
 ·intro kr;simp [a6E,a0Q,b5G]
 ·intro w kr h0 h1 hw hi hk
  have hm:=b98 hN (xs:=fs.take w.toNat) (n:=fN (fs.getD w.toNat (.i 0))) (by simp;omega)
  simp only [a6E,decide_eq_true h1,f6B,hi,a0i,hw,hk,d7J h0 h1,List.drop_zero,b7b,b7a,b0I,a5Y];rw [show (((fs.getD w.toNat (.i 0)).cell 0).toI)=fN (fs.getD w.toNat (.i 0)) from rfl,hm];unfold c3i;generalize d0Z (fN (fs.getD w.toNat (.i 0))) (fs.take w.toNat)=hh;generalize fs.getD w.toNat (.i 0)=f;rw [show ((f.cell 1).toI)=fS f from rfl,show ((f.cell 2).toI)=fT f from rfl];cases inI (fN f) 0 255<;>cases inI (fS f) 1 255<;>cases inI (fT f) 0 3<;>try rfl
  cases decide (fT f≤1)<;>cases (fS f !=1)<;>cases (fS f !=2)<;>cases (fS f !=4)<;>cases hh<;>rfl
theorem e1R (hN:maxLen<N) (g:Int) (hl:fs.length≤maxLen):d3r N g fs=some (b7z g fs):=by
 unfold d3r c80 b7z;simp only [a0i,a34,c5L hN hl,d7H];cases inI g 0 65535<;>cases decide ((fs.length:Int)>30)<;>try rfl
 cases h:a0Q (c3i fs) 0 fs !=0<;>first|rfl|(simp only [bne_eq_false_iff_eq] at h;simp [h])
theorem d00 (hN:maxLen<N) (g:Int) (hl:fs.length≤maxLen):c5v N g fs=some (b7z g fs):=by
 unfold c5v d7u b7z;simp only [a0i,b0I,b99 hN hl,d7H];cases inI g 0 65535<;>cases decide ((fs.length:Int)>30)<;>try rfl
 cases h:a0Q (c3i fs) 0 fs !=0<;>first|rfl|(simp only [bne_eq_false_iff_eq] at h;simp [h])
end
structure a1P (fs:List D):Prop where
 len:fs.length≤255
 size:∀f∈fs,0≤fS f∧fS f≤255
theorem a1Q {e:Int→Int}:∀{l:List D} {w:Int},a0Q e w l=0→ ∀i:Nat,i<l.length→e (w+i)=0
 | [],w,_,i,hi=>by simp at hi
 | x::r,w,h,i,hi=>by
  simp only [a0Q] at h;cases he:e w !=0 with
  |true=>
   rw [he] at h;simp only [f6B] at h;rw [h] at he;simp at he
  | false=>
   rw [he] at h;cases i with
   |zero=>simpa using he
   |succ i=>
    have:=a1Q (l:=r) (w:=w+1) h i (by simpa using hi)
    rw [show w+((i+1:Nat):Int)=w+1+(i:Int) by omega]
    exact this
theorem c5M {g:Int} {fs:List D} (h:b7z g fs=0):a1P fs:=by
 unfold b7z at h;cases h1:inI g 0 65535 with
 |false=>rw [h1] at h;exact absurd (show (9:Int)=0 from h) (by decide)
 | true=>
  rw [h1] at h;cases h2:decide ((fs.length:Int)>30) with
  |true=>rw [h2] at h;exact absurd (show (3:Int)=0 from h) (by decide)
  | false=>
   rw [h2] at h;simp only [Bool.not_true,f6C] at h;refine ⟨by simp at h2;omega,fun f hf=> ?_⟩
   obtain ⟨i,hi,rfl⟩:=List.getElem_of_mem hf;have:=a1Q h i hi;rw [Int.zero_add] at this;unfold c3i at this;have hg:fs.getD ((i:Int)).toNat (.i 0)=fs[i]:=by
    rw [f6F,Int.toNat_natCast,f6L hi];rfl
   rw [hg] at this;cases h3:inI (fS fs[i]) 1 255 with
   |false=>
    rw [h3] at this;cases inI (fN fs[i]) 0 255<;>exact absurd (show (9:Int)=0 from by simpa using this) (by decide)
   |true=>unfold inI at h3;simp at h3;omega
def szL:List D→Int
 | []=>0
 |f::r=>fS f+szL r
def tmL:Int→List D→Int
 |_,[]=> -1
 |a,f::r=>bif isT f then a else tmL (a+fS f) r
def flds:Bool→List D→List D
 |_,[]=>[]
 |t,f::r=>bif t&&isT f then flds false r else .a [.i (fN f),.i (fS f),.i (fT f)]::flds t r
theorem a3O:∀{fs:List D},(∀f∈fs,0≤fS f∧fS f≤255)→0≤szL fs∧szL fs≤255*fs.length
 | [],_=>by simp [szL]
 |f::r,h=>by
  have h1:=h f (by simp)
  have h2:=a3O (fs:=r) fun x hx=>h x (by simp [hx])
  simp only [szL,f6O];omega
theorem a5Z:∀{fs:List D} {a:Int},0≤a→(∀f∈fs,0≤fS f∧fS f≤255)→(tmL a fs= -1∨a≤tmL a fs∧tmL a fs+4≤a+szL fs)
 | [],_,_,_=> .inl rfl
 | f::r,a,ha,h=>by
  have h1:=h f (by simp)
  simp only [tmL,szL];cases ht:isT f with
  |true=>
   have h2:=a3O (fs:=r) fun x hx=>h x (by simp [hx])
   have h3:fS f=4:=by unfold isT at ht;simp at ht;exact ht.2
   right;simp only [f6B];omega
  |false=>
   simp only [f6C];rcases a5Z (fs:=r) (a:=a+fS f) (by omega) (fun x hx=>h x (by simp [hx])) with h2|h2
   ·exact .inl h2
   ·right;omega
theorem a20:∀fs:List D,szL (flds false fs)=szL fs
 | []=>rfl
 |f::r=>by simp only [flds,Bool.false_and,f6C,szL,a20 r];rfl
theorem c0a:∀{fs:List D} {a:Int},0≤a→(∀f∈fs,0≤fS f∧fS f≤255)→(tmL a fs<0→szL (flds true fs)=szL fs)∧(0≤tmL a fs→szL (flds true fs)=szL fs-4)
 | [],_,_,_=>⟨fun _=>rfl,fun h=>absurd (show (0:Int)≤-1 from h) (by decide)⟩
 | f::r,a,ha,h=>by
  have h1:=h f (by simp)
  have e:fS (.a [.i (fN f),.i (fS f),.i (fT f)])=fS f:=rfl;cases ht:isT f with
  |true=>
   have h3:fS f=4:=by unfold isT at ht;simp at ht;exact ht.2
   simp only [flds,tmL,szL,ht,Bool.and_self,f6B,a20];constructor<;>intro h4<;>omega
  |false=>
   have h5:=c0a (fs:=r) (a:=a+fS f) (by omega) fun x hx=>h x (by simp [hx])
   simp only [flds,tmL,szL,ht,Bool.and_false,f6C,e];exact ⟨fun h4=>by rw [h5.1 h4],fun h4=>by rw [h5.2 h4];omega⟩
section
variable {fs:List D}
theorem a0R {w:Int} (h0:0≤w) (h1:w<fs.length):fs.getD w.toNat (.i 0)∈fs:=by
 rw [f6F,f6L (by omega)];exact List.getElem_mem _
theorem e3V (f:D):(bif (bif ((f.cell 0).toI==253) then ((f.cell 2).toI==0) else false) then ((f.cell 1).toI==4) else false)=isT f:=by
 unfold isT fN fT fS;cases (f.cell 0).toI==253<;>cases (f.cell 2).toI==0<;>rfl
theorem b7A (f:D):c5w N (f.cell 0).toI (f.cell 1).toI (f.cell 2).toI=isT f:=e3V f
theorem c7G (hN:maxLen<N) (h:a1P fs):c9d N fs=some (szL fs,tmL 0 fs):=by
 have hm:maxLen=9223372036854775807:=rfl;have hl:=h.len;have key:=a2w (A:=Int×Int×Int) (X:=Option (Int×Int)) (S:=fun x kr=>b4a N fs fs.length x.1 x.2.1 x.2.2 (fun a b c=>kr (a,b,c)) (fun p=>some p)) (L:=fun m x=>b8x N fs fs.length m x.1 x.2.1 x.2.2 (fun p=>some p)) (fun m x=>rfl)
  (fun x=>some (x.2.1+szL (fs.drop x.1.toNat),bif decide (x.2.2<0) then tmL x.2.1 (fs.drop x.1.toNat) else x.2.2)) (fun x=>0≤x.1∧x.1≤fs.length∧0≤x.2.1∧x.2.1≤255*x.1∧-1≤x.2.2) (fun x=>(fs.length-x.1).toNat) ?_ N (0,0,-1) ⟨by decide,by show (0:Int)≤_;omega,by decide,by decide,by decide⟩ (by simp;omega)
 ·have k2:d3E N fs fs.length 0 0 (-1)=some (szL fs,tmL 0 fs):=by
   refine Eq.trans key ?_;simp
  unfold c9d c9c;rw [k2];rfl
 ·rintro ⟨w,sz,t⟩ kr ⟨h0,h1,h2,h3,h4⟩ ih
  simp only at h0 h1 h2 h3 h4 ih⊢;unfold b4a;by_cases hw:w<fs.length
  ·have hf:=h.size _ (a0R h0 hw)
   rw [decide_eq_true hw,a0K h0 hw,a05 (.i 0) h0 hw];simp only [f6B,a0i,b17,a6n];rw [e3V];have e1:((fs.getD w.toNat (.i 0)).cell 1).toI=fS (fs.getD w.toNat (.i 0)):=rfl;rw [e1,a0s (x:=sz+_) (by omega) (by omega),a0s (x:=w+1) (by omega) (by omega)]
   rw [ih (w+1,_,_) ⟨by omega,by omega,by simp only;omega,by simp only;omega,by simp only;cases isT (fs.getD w.toNat (.i 0))<;>cases decide (t<0)<;>simp<;>omega⟩ (by simp only;omega)]
   simp only [szL,tmL];cases ht:isT (fs.getD w.toNat (.i 0)) with
   |true=>
    by_cases hneg:t<0
    ·simp only [decide_eq_true hneg,f6B,decide_eq_false (show¬sz<0 by omega),f6C,f6x,f6S,and_true];omega
    ·simp only [decide_eq_false hneg,f6B,f6C,f6x,f6S,and_true];omega
   |false=>
    simp only [f6C,f6x,f6S];refine ⟨by omega,?_⟩
    by_cases hneg:t<0<;>simp [hneg]
  ·have:w=fs.length:=by omega
   subst this;rw [decide_eq_false hw,a0U (by omega)]
   simp only [f6C,szL,tmL,Int.add_zero,f6x,f6S,true_and];by_cases ht:t<0
   ·rw [decide_eq_true ht];simp only [f6B];omega
   ·rw [decide_eq_false ht];rfl
def tmW (n:Int):Sum Int Unit:=bif decide (n<0) then .inr () else .inl n
theorem b7B (hN:maxLen<N) (h:a1P fs):b93 N fs=some (bif decide (tmL 0 fs<0) then (0,false) else (tmL 0 fs,true)):=by
 have hm:maxLen=9223372036854775807:=rfl;have hl:=h.len;have key:=a2w (A:=Int×Int) (X:=Option (Sum Int Unit)) (S:=fun x kr=>b5a N fs fs.length x.1 x.2 (fun a b=>kr (a,b)) (fun p=>some (.inl p)) (fun p=>some (.inr p))) (L:=fun m x=>b5b N fs fs.length m x.1 x.2 (fun p=>some (.inl p)) (fun p=>some (.inr p))) (fun m x=>rfl)
  (fun x=>some (tmW (tmL x.1 (fs.drop x.2.toNat)))) (fun x=>0≤x.2∧x.2≤fs.length∧0≤x.1∧x.1≤255*x.2) (fun x=>(fs.length-x.2).toNat) ?_ N (0,0) ⟨by decide,by show (0:Int)≤_;omega,by decide,by decide⟩ (by simp;omega)
 ·have k2:c3d N fs fs.length 0 0=some (tmW (tmL 0 fs)):=by
   refine Eq.trans key ?_;simp
  unfold b93 d7v;rw [k2];unfold tmW;cases decide (tmL 0 fs<0)<;>rfl
 ·rintro ⟨sz,w⟩ kr ⟨h0,h1,h2,h3⟩ ih
  simp only at h0 h1 h2 h3 ih⊢;unfold b5a;by_cases hw:w<fs.length
  ·have hf:=h.size _ (a0R h0 hw)
   rw [decide_eq_true hw,a0K h0 hw,a05 (.i 0) h0 hw];simp only [f6B,a0i,b7A];have e1:((fs.getD w.toNat (.i 0)).cell 1).toI=fS (fs.getD w.toNat (.i 0)):=rfl;rw [e1,a0s (x:=sz+_) (by omega) (by omega),a0s (x:=w+1) (by omega) (by omega)]
   simp only [tmL];cases ht:isT (fs.getD w.toNat (.i 0)) with
   |true=>simp only [f6B];unfold tmW;rw [decide_eq_false (by omega)];rfl
   |false=>
    simp only [f6C];exact ih (sz+fS (fs.getD w.toNat (.i 0)),w+1) ⟨by omega,by omega,by simp only;omega,by simp only;omega⟩ (by simp only;omega)
  ·have:w=fs.length:=by omega
   subst this;rw [decide_eq_false hw,a0U (by omega)]
   rfl
theorem d01 (hN:maxLen<N) (h:a1P fs):c5y N fs=some (szL fs):=by
 have hm:maxLen=9223372036854775807:=rfl;have hl:=h.len;have key:=a2w (A:=Int×Int) (X:=Option Int) (S:=fun x kr=>b5c N fs fs.length x.1 x.2 (fun a b=>kr (a,b)) (fun p=>some p)) (L:=fun m x=>b5d N fs fs.length m x.1 x.2 (fun p=>some p)) (fun m x=>rfl)
  (fun x=>some (x.1+szL (fs.drop x.2.toNat))) (fun x=>0≤x.2∧x.2≤fs.length∧0≤x.1∧x.1≤255*x.2) (fun x=>(fs.length-x.2).toNat) ?_ N (0,0) ⟨by decide,by show (0:Int)≤_;omega,by decide,by decide⟩ (by simp;omega)
 ·have k2:c3e N fs fs.length 0 0=some (szL fs):=by
   refine Eq.trans key ?_;simp
  unfold c5y d7x;rw [k2];rfl
 ·rintro ⟨sz,w⟩ kr ⟨h0,h1,h2,h3⟩ ih
  simp only at h0 h1 h2 h3 ih⊢;unfold b5c;by_cases hw:w<fs.length
  ·have hf:=h.size _ (a0R h0 hw)
   rw [decide_eq_true hw,a0K h0 hw,a05 (.i 0) h0 hw];simp only [f6B,a0i];have e1:((fs.getD w.toNat (.i 0)).cell 1).toI=fS (fs.getD w.toNat (.i 0)):=rfl;rw [e1,a0s (x:=sz+_) (by omega) (by omega),a0s (x:=w+1) (by omega) (by omega)]
   rw [ih (sz+fS (fs.getD w.toNat (.i 0)),w+1) ⟨by omega,by omega,by simp only;omega,by simp only;omega⟩ (by simp only;omega)]
   simp only [szL,f6x];omega
  ·have:w=fs.length:=by omega
   subst this;rw [decide_eq_false hw,a0U (by omega)]
   simp only [f6C,szL,Int.add_zero]
theorem c0b:∀{fs:List D} {t:Bool},(∀f∈fs,0≤fS f∧fS f≤255)→(flds t fs).length≤fs.length∧ ∀f∈flds t fs,0≤fS f∧fS f≤255
 | [],_,_=>by simp [flds]
 | f::r,t,h=>by
  have h1:=h f (by simp)
  have h2:∀t,_:=fun t=>c0b (fs:=r) (t:=t) fun x hx=>h x (by simp [hx])
  simp only [flds];cases t&&isT f with
  |true=>simp only [f6B,f6O];exact ⟨by have:=(h2 false).1;omega,(h2 false).2⟩
  |false=>
   simp only [f6C,f6O];refine ⟨by have:=(h2 t).1;omega,fun x hx=> ?_⟩
   rcases f6M.1 hx with rfl|hx
   ·exact h1
   ·exact (h2 t).2 x hx
theorem a1P.flds (h:a1P fs) (t:Bool):a1P (flds t fs):=⟨Nat.le_trans (c0b h.size).1 h.len,(c0b h.size).2⟩
theorem d02 (hN:maxLen<N) (h:a1P fs) (t:Bool):∃nl,c5x N fs t=some (nl,flds t fs):=by
 have hm:maxLen=9223372036854775807:=rfl;have hl:=h.len;have key:=a4t (A:=Bool×Int×Bool×LD) (X:=Option (Bool×LD)) (S:=fun x kr=>b0B N fs fs.length x.1 x.2.1 x.2.2.1 x.2.2.2 (fun a b c d=>kr (a,b,c,d)) (fun p=>some p)) (L:=fun m x=>b0C N fs fs.length m x.1 x.2.1 x.2.2.1 x.2.2.2 (fun p=>some p)) (fun m x=>rfl)
  (fun x r=>∃nl,r=some (nl,x.2.2.2++Proofs.YtiegikkpipdleaaGreatDoor.flds x.1 (fs.drop x.2.1.toNat))) (fun x=>0≤x.2.1∧x.2.1≤fs.length∧(x.2.2.2.length:Int)≤x.2.1) (fun x=>(fs.length-x.2.1).toNat) ?_ N (t,0,true,[]) ⟨by show (0:Int)≤0;omega,by show (0:Int)≤_;omega,by simp⟩ (by simp;omega)
 ·obtain ⟨nl,k2⟩:=key
  have k3:b7d N fs fs.length t 0 true []=some (nl,Proofs.YtiegikkpipdleaaGreatDoor.flds t fs):=by
   refine Eq.trans k2 ?_;simp
  refine ⟨nl,?_⟩;unfold c5x d7w;rw [k3];rfl
 ·rintro ⟨t,w,b,l⟩ kr ⟨h0,h1,h2⟩ ih
  simp only at h0 h1 h2 ih⊢;unfold b0B;by_cases hw:w<fs.length
  ·rw [decide_eq_true hw,a0K h0 hw,a05 (.i 0) h0 hw]
   have r1:decide ((l.length+1)*24≤a0L)=true:=decide_eq_true (by unfold a0L;omega)
   have r2:decide (l.length+1≤a0d)=true:=decide_eq_true (by unfold a0d;omega)
   have hv:b0A N t ((fs.getD w.toNat (.i 0)).cell 0).toI ((fs.getD w.toNat (.i 0)).cell 1).toI ((fs.getD w.toNat (.i 0)).cell 2).toI=(t&&isT (fs.getD w.toNat (.i 0))):=by
    unfold b0A b7c;simp only [a0i,b7A];cases t<;>rfl
   simp only [f6B,a0i,hv,r1,r2,Bool.and_self,a0s (x:=w+1) (by omega) (by omega),Proofs.YtiegikkpipdleaaGreatDoor.flds]
   cases t&&isT (fs.getD w.toNat (.i 0)) with
   |true=>
    simp only [f6B];exact ih (false,w+1,b,l) ⟨by simp only;omega,by simp only;omega,by simp only;omega⟩ (by simp only;omega)
   |false=>
    simp only [f6C];obtain ⟨nl,e⟩:=ih (t,w+1,false,l++[.a [.i (fN (fs.getD w.toNat (.i 0))),.i (fS (fs.getD w.toNat (.i 0))),.i (fT (fs.getD w.toNat (.i 0)))]]) ⟨by simp only;omega,by simp only;omega,by simp;omega⟩ (by simp only;omega)
    exact ⟨nl,by rw [←List.append_cons] at e;exact e⟩
  ·have:w=fs.length:=by omega
   subst this;rw [decide_eq_false hw,a0U (by omega)]
   exact ⟨b,by simp [Proofs.YtiegikkpipdleaaGreatDoor.flds]⟩
end
end Go.Proofs.YtiegikkpipdleaaGreatDoor
namespace Go.Proofs.YtiegikkpipdleaaGreatDoor
open Go Go.AM
variable {N:Nat}
theorem e7q {n b:Nat} (hn:n<1099511627776) (hb:b<256):(c3H .or .i64 (IntKind.wrap .i64 ((n:Int)*2^8)) (IntKind.wrap .i64 (b:Int))).getD 0=256*(n:Int)+b:=by
 have e1:IntKind.wrap .i64 ((n:Int)*2^8)=((n*256:Nat):Int):=by rw [a0s (by omega) (by omega)];omega
 have e2:IntKind.wrap .i64 (b:Int)=(b:Int):=a0s (by omega) (by omega)
 rw [e1,e2];have h64:IntKind.bits .i64=64:=rfl;have o:(BitVec.ofInt 64 ((n*256:Nat):Int)|||BitVec.ofInt 64 (b:Int)).toNat=n*256+b:=by
  rw [BitVec.toNat_or,BitVec.ofInt_natCast,BitVec.ofInt_natCast,BitVec.toNat_ofNat,BitVec.toNat_ofNat,Nat.mod_eq_of_lt (by omega),Nat.mod_eq_of_lt (by omega)]
  have:=Nat.shiftLeft_add_eq_or_of_lt (b:=b) (i:=8) (by omega) n
  rw [Nat.shiftLeft_eq] at this;exact this.symm
 show IntKind.wrap .i64 (((BitVec.ofInt 64 ((n*256:Nat):Int)|||BitVec.ofInt 64 (b:Int)).toNat:Nat):Int)=_;rw [o,a0s (by omega) (by omega)]
 omega
def a0n (xs:List D):Prop:=∀x∈xs,0≤x.toI∧x.toI≤255
def pkB (len:Int) (big:Bool) (i:Int):Int:=bif big then i else len-1-i
def e3W (xs:List D) (big:Bool):Nat→Int→Int→Int
 |0,_,n=>n
 |k+1,i,n=>e3W xs big k (i+1) (256*n+(xs.getD (pkB xs.length big i).toNat (.i 0)).toI)
def a7x (xs:List D) (big:Bool):Int:=e3W xs big xs.length 0 0
theorem c0c {n b i:Int} (h0:0≤i) (h1:0≤n) (h2:n<256^i.toNat) (h3:0≤b) (h4:b≤255):0≤256*n+b∧256*n+b<256^(i+1).toNat:=by
 have e:(i+1).toNat=i.toNat+1:=by omega
 rw [e,Int.pow_succ];omega
theorem d7K {n i:Int} (h0:0≤i) (h1:i≤4) (h2:n<256^i.toNat):n<4294967296:=by
 have:i=0∨i=1∨i=2∨i=3∨i=4:=by omega
 rcases this with rfl|rfl|rfl|rfl|rfl<;>simp at h2<;>omega
theorem e7r {xs:List D} (h:a0n xs) {i:Int} (h0:0≤i) (h1:i<xs.length):0≤(xs.getD i.toNat (.i 0)).toI∧(xs.getD i.toNat (.i 0)).toI≤255:=h _ (a0R h0 h1)
section
variable {xs:List D}
theorem d7L {big:Bool} {i:Int} (h0:0≤i) (h1:i<xs.length):0≤pkB xs.length big i∧pkB xs.length big i<xs.length:=by
 unfold pkB;cases big<;>simp<;>omega
theorem b7C (hb:a0n xs) (big:Bool):∀(k:Nat) (i n:Int),0≤i→i+k=xs.length→0≤n→n<256^i.toNat→0≤e3W xs big k i n∧e3W xs big k i n<256^xs.length
 |0,i,n,h0,h1,h2,h3=>by
  have:i.toNat=xs.length:=by omega
  rw [this] at h3;exact ⟨h2,h3⟩
 |k+1,i,n,h0,h1,h2,h3=>by
  obtain ⟨p0,p1⟩:=d7L (xs:=xs) (big:=big) h0 (by omega)
  obtain ⟨b0,b1⟩:=e7r hb p0 p1;obtain ⟨q0,q1⟩:=c0c h0 h2 h3 b0 b1;exact b7C hb big k (i+1) _ (by omega) (by omega) q0 q1
theorem b7D (hb:a0n xs) (big:Bool) (hl:xs.length≤4):0≤a7x xs big∧a7x xs big<4294967296:=by
 obtain ⟨h1,h2⟩:=b7C hb big xs.length 0 0 (by omega) (by omega) (by omega) (by simp)
 refine ⟨h1,?_⟩;have:=d7K (i:=(xs.length:Int)) (by omega) (by omega) (n:=a7x xs big) (by unfold a7x;simpa using h2)
 exact this
theorem a9z (hN:maxLen<N) (hb:a0n xs) (big:Bool) (hl:xs.length≤4):b8B N xs big=some (a7x xs big):=by
 have hm:maxLen=9223372036854775807:=rfl;have key:=a2w (A:=Int×Int) (X:=Option Int) (S:=fun x kr=>b4c N xs big xs.length x.1 x.2 (fun a b=>kr (a,b)) (fun p=>some p)) (L:=fun m x=>b8z N xs big xs.length m x.1 x.2 (fun p=>some p)) (fun m x=>rfl)
  (fun x=>some (e3W xs big (xs.length-x.2).toNat x.2 x.1)) (fun x=>0≤x.2∧x.2≤xs.length∧0≤x.1∧x.1<256^x.2.toNat) (fun x=>(xs.length-x.2).toNat) ?_ N (0,0) ⟨by decide,by show (0:Int)≤_;omega,by decide,by decide⟩ (by simp;omega)
 ·have k2:d3L N xs big xs.length 0 0=some (a7x xs big):=by
   refine Eq.trans key ?_;simp [a7x]
  unfold b8B c9h;rw [k2];rfl
 ·rintro ⟨n,i⟩ kr ⟨h0,h1,h2,h3⟩ ih
  simp only at h0 h1 h2 h3 ih⊢;unfold b4c;by_cases hw:i<xs.length
  ·obtain ⟨p0,p1⟩:=d7L (xs:=xs) (big:=big) h0 hw
   obtain ⟨b0,b1⟩:=e7r hb p0 p1;obtain ⟨q0,q1⟩:=c0c h0 h2 h3 b0 b1;have hn:=d7K h0 (by omega) h3
   have hv:a8t N i (IntKind.wrap .i64 ((IntKind.wrap .i64 ((xs.length:Int)-1))-i)) big=pkB xs.length big i:=by
    rw [a0s (x:=(xs.length:Int)-1) (by omega) (by omega),a0s (x:=(xs.length:Int)-1-i) (by omega) (by omega)]
    unfold a8t a6o pkB;cases big<;>rfl
   have ho:=e7q (n:=n.toNat) (b:=(xs.getD (pkB xs.length big i).toNat (.i 0)).toI.toNat) (by omega) (by omega)
   rw [Int.toNat_of_nonneg h2,Int.toNat_of_nonneg b0] at ho;rw [decide_eq_true hw];simp only [f6B,a0i,hv,a0K p0 p1,ho,a0s (x:=i+1) (by omega) (by omega)]
   rw [ih (_,i+1) ⟨by simp only;omega,by simp only;omega,q0,q1⟩ (by simp only;omega)]
   have e:(xs.length-i).toNat=(xs.length-(i+1)).toNat+1:=by omega
   rw [e];rfl
  ·have:i=xs.length:=by omega
   subst this;rw [decide_eq_false hw];simp [e3W]
theorem d03 (hN:maxLen<N) (hb:a0n xs) (big:Bool) (hl:xs.length≤4):c5A N xs big=some (a7x xs big):=by
 have hm:maxLen=9223372036854775807:=rfl;have key:=a2w (A:=Int×Int) (X:=Option Int) (S:=fun x kr=>b5e N xs big xs.length x.1 x.2 (fun a b=>kr (a,b)) (fun p=>some p)) (L:=fun m x=>b5f N xs big xs.length m x.1 x.2 (fun p=>some p)) (fun m x=>rfl)
  (fun x=>some (e3W xs big (xs.length-x.2).toNat x.2 x.1)) (fun x=>0≤x.2∧x.2≤xs.length∧0≤x.1∧x.1<256^x.2.toNat) (fun x=>(xs.length-x.2).toNat) ?_ N (0,0) ⟨by decide,by show (0:Int)≤_;omega,by decide,by decide⟩ (by simp;omega)
 ·have k2:c3f N xs big xs.length 0 0=some (a7x xs big):=by
   refine Eq.trans key ?_;simp [a7x]
  unfold c5A d7z;rw [k2];rfl
 ·rintro ⟨n,i⟩ kr ⟨h0,h1,h2,h3⟩ ih
  simp only at h0 h1 h2 h3 ih⊢;unfold b5e;by_cases hw:i<xs.length
  ·obtain ⟨p0,p1⟩:=d7L (xs:=xs) (big:=big) h0 hw
   obtain ⟨b0,b1⟩:=e7r hb p0 p1;obtain ⟨q0,q1⟩:=c0c h0 h2 h3 b0 b1;have hn:=d7K h0 (by omega) h3
   have hv:b0D N xs i i (!big)=pkB xs.length big i:=by
    unfold b0D b7i pkB;rw [a0s (x:=(xs.length:Int)-1) (by omega) (by omega),a0s (x:=(xs.length:Int)-1-i) (by omega) (by omega)]
    cases big<;>rfl
   have ho:IntKind.wrap .i64 ((IntKind.wrap .i64 (256*n))+(IntKind.wrap .i64 (xs.getD (pkB xs.length big i).toNat (.i 0)).toI))=256*n+(xs.getD (pkB xs.length big i).toNat (.i 0)).toI:=by
    rw [a0s (x:=256*n) (by omega) (by omega),a0s (x:=(xs.getD (pkB xs.length big i).toNat (.i 0)).toI) (by omega) (by omega),a0s (by omega) (by omega)]
   rw [decide_eq_true hw];simp only [f6B,a0i,hv,a0K p0 p1,ho,a0s (x:=i+1) (by omega) (by omega)]
   rw [ih (_,i+1) ⟨by simp only;omega,by simp only;omega,q0,q1⟩ (by simp only;omega)]
   have e:(xs.length-i).toNat=(xs.length-(i+1)).toNat+1:=by omega
   rw [e];rfl
  ·have:i=xs.length:=by omega
   subst this;rw [decide_eq_false hw];simp [e3W]
end
theorem e1S:a8u N 4 false=some 4294967295:=by
 unfold a8u c4B;have e1:IntKind.wrap .i64 (8*4)=32:=by decide
 rw [e1];have e2:IntKind.wrap .i64 (1*2^(min (32:Int).toNat 64))=4294967296:=by decide
 have e3:IntKind.wrap .i64 ((4294967296:Int)-1)=4294967295:=by decide
 simp only [f6C,a0i,e2,e3];rfl
structure Slots (p s:D):Prop where
 known:∀j:Nat,j<16→(p.cell (0+j*6)).toB=(s.cell (0+j*1)).toB
 defs:∀j:Nat,j<16→(p.cell (0+j*6)).toB=true→a1P (p.cell (3+j*6)).items∧(p.cell (1+j*6)).toB=(s.cell (16+j*3)).toB∧(p.cell (2+j*6)).toI=(s.cell (17+j*3)).toI∧
  (p.cell (3+j*6)).items=(s.cell (18+j*3)).items∧(p.cell (4+j*6)).toI=szL (p.cell (3+j*6)).items∧(p.cell (5+j*6)).toI=tmL 0 (p.cell (3+j*6)).items
structure Sim (p s:D) (k:Int):Prop extends Slots p s where
 last:(p.cell 96).toI=(s.cell 64).toI
 lo: -1≤(p.cell 96).toI
 hi:(p.cell 96).toI≤4294967295+32*k
structure f3I (ds data:List D):Prop where
 d:ds.length≤maxLen
 b:data.length≤maxLen
 f:∀x∈ds,(x.cell 2).items.length≤maxLen
 y:a0n data
def b5H (kind slot off:Int) (ds data:List D) (known:Bool) (size time last:Int):Int:=
 bif !inI kind 1 3 then 7 else bif !inI slot 0 (bif kind==3 then 3 else 15)|| !inI off 0 (bif kind==3 then 31 else 0) then 9 else
 bif kind==1 then (bif ((ds.length:Int) !=1)||decide ((data.length:Int)>0) then 2 else b7z ((ds.getD 0 (.i 0)).cell 1).toI ((ds.getD 0 (.i 0)).cell 2).items) else
 bif (ds.length:Int) !=0 then 2 else bif !known||((kind==3)&&(decide (time<0)||decide (last<0))) then 11 else bif (data.length:Int) !=(bif kind==3 then size-4 else size) then 2 else 0
section
variable {kind slot off:Int} {ds data:List D} {p s:D} {k:Int}
theorem b5p (h:inI slot 0 (bif kind==3 then 3 else 15)=true):inB slot 16=true∧slot.toNat<16:=by
 unfold inI at h;cases hk:kind==3<;>rw [hk] at h<;>simp at h<;>exact ⟨a0K (by omega) (by omega),by omega⟩
theorem e1T (hN:maxLen<N) (hs:Sim p s k) (he:f3I ds data):d3z N kind slot off ds data p=some (b5H kind slot off ds data (p.cell (0+slot.toNat*6)).toB (p.cell (4+slot.toNat*6)).toI (p.cell (5+slot.toNat*6)).toI (p.cell 96).toI):=by
 have hm:maxLen=9223372036854775807:=rfl;unfold d3z d3y b5H b12 a6k b13 a6l b14 a8r b15 a6m;simp only [a0i,a34];cases h1:inI kind 1 3 with
 |false=>rfl
 |true=>
 have e14:(bif kind==3 then ((3:Int),(31:Int)) else (15,0))=((bif kind==3 then 3 else 15),(bif kind==3 then 31 else 0)):=by cases kind==3<;>rfl
 rw [e14];simp only [Bool.not_true,f6C];cases h2:inI slot 0 (bif kind==3 then 3 else 15) with
 |false=>rfl
 |true=>
 obtain ⟨i1,i2⟩:=b5p h2;cases h3:inI off 0 (bif kind==3 then 31 else 0) with
 |false=>rfl
 |true=>
 simp only [Bool.not_true,f6C,Bool.or_self];by_cases hk:kind=1
 ·subst hk
  simp only [beq_self_eq_true,f6B];cases h4:((ds.length:Int) !=1) with
  |true=>rfl
  | false=>
   have hl:ds.length=1:=by simp at h4;omega
   cases decide ((data.length:Int)>0) with
   |true=>rfl
   |false=>
    have hmem:ds.getD 0 (.i 0)∈ds:=a0R (w:=0) (by omega) (by omega)
    simp only [f6C,Bool.or_self];rw [a0K (by omega) (by omega),e1R hN _ (he.f _ hmem)]
    rfl
 ·have hk1:(kind==1)=false:=by simpa using hk
  rw [hk1];simp only [f6C];cases h4:((ds.length:Int) !=0) with
  |true=>rfl
  | false=>
   simp only [f6C,i1,f6B];cases hkn:(p.cell (0+slot.toNat*6)).toB with
   |false=>rfl
   | true=>
    obtain ⟨d1,_,_,_,d5,d6⟩:=hs.defs _ i2 hkn;have hb:=a3O d1.size;have hl:=d1.len;cases hk3:kind==3 with
    |false=>
     simp only [Bool.not_true,f6C,Bool.false_and,Bool.or_self];cases ((data.length:Int) !=(p.cell (4+slot.toNat*6)).toI)<;>rfl
    | true=>
     simp only [Bool.not_true,f6C,f6B,Bool.true_and,Bool.false_or];cases decide ((p.cell (5+slot.toNat*6)).toI<0) with
     |true=>rfl
     | false=>
      cases decide ((p.cell 96).toI<0) with
      |true=>rfl
      |false=>
       simp only [f6C,Bool.or_self];rw [a0s (by omega) (by omega)]
       cases ((data.length:Int) !=(p.cell (4+slot.toNat*6)).toI-4)<;>rfl
theorem d04 (hN:maxLen<N) (hs:Sim p s k) (he:f3I ds data):c5z N kind slot off ds data s=some (b5H kind slot off ds data (p.cell (0+slot.toNat*6)).toB (p.cell (4+slot.toNat*6)).toI (p.cell (5+slot.toNat*6)).toI (p.cell 96).toI):=by
 have hm:maxLen=9223372036854775807:=rfl;unfold c5z d7y b5H b7f b7e b7h b7g;simp only [a0i,b0I];cases h1:inI kind 1 3 with
 |false=>rfl
 |true=>
 have e14:(bif kind==3 then ((3:Int),(31:Int)) else (15,0))=((bif kind==3 then 3 else 15),(bif kind==3 then 31 else 0)):=by cases kind==3<;>rfl
 rw [e14];simp only [Bool.not_true,f6C];cases h2:inI slot 0 (bif kind==3 then 3 else 15) with
 |false=>rfl
 |true=>
 obtain ⟨i1,i2⟩:=b5p h2;cases h3:inI off 0 (bif kind==3 then 31 else 0) with
 |false=>rfl
 |true=>
 simp only [Bool.not_true,f6C,Bool.or_self];by_cases hk:kind=1
 ·subst hk
  simp only [beq_self_eq_true,f6B];cases h4:((ds.length:Int) !=1) with
  |true=>rfl
  | false=>
   have hl:ds.length=1:=by simp at h4;omega
   cases decide ((data.length:Int)>0) with
   |true=>rfl
   |false=>
    have hmem:ds.getD 0 (.i 0)∈ds:=a0R (w:=0) (by omega) (by omega)
    simp only [f6C,Bool.or_self];rw [a0K (by omega) (by omega),d00 hN _ (he.f _ hmem)]
    rfl
 ·have hk1:(kind==1)=false:=by simpa using hk
  have e0:decide ((ds.length:Int)>0)=((ds.length:Int) !=0):=by rw [Bool.eq_iff_iff];simp only [decide_eq_true_eq,bne_iff_ne];omega
  rw [hk1,e0];simp only [f6C];cases h4:((ds.length:Int) !=0) with
  |true=>rfl
  | false=>
   simp only [f6C,i1,f6B,←hs.known _ i2];cases hkn:(p.cell (0+slot.toNat*6)).toB with
   |false=>rfl
   | true=>
    obtain ⟨d1,_,_,d4,d5,d6⟩:=hs.defs _ i2 hkn;rw [←d4,←hs.last,d5,d6,b7B hN d1];obtain ⟨nl,hf⟩:=d02 hN d1 (kind==3);rw [hf];simp only [f6G,getD_some,f6B,d01 hN (d1.flds _)];have z:=c0a (a:=0) (by omega) d1.size
    cases hk3:kind==3 with
    |false=>
     simp only [Bool.not_true,f6C,Bool.false_and,Bool.or_self,a20];cases ((data.length:Int) !=szL (p.cell (3+slot.toNat*6)).items)<;>rfl
    | true=>
     by_cases ht:tmL 0 (p.cell (3+slot.toNat*6)).items<0
     ·simp only [decide_eq_true ht,f6B];rfl
     ·simp only [decide_eq_false ht,f6C,f6B,Bool.not_true,Bool.true_and,Bool.false_or,z.2 (by omega)]
      cases decide ((p.cell 96).toI<0) with
      |true=>rfl
      |false=>
       simp only [f6C];cases ((data.length:Int) !=szL (p.cell (3+slot.toNat*6)).items-4)<;>rfl
end
end Go.Proofs.YtiegikkpipdleaaGreatDoor
namespace Go.Proofs.YtiegikkpipdleaaGreatDoor
open Go Go.AM
variable {N:Nat}
structure f42 (kind slot off:Int) (ds data:List D) (known:Bool) (size time last:Int):Prop where
 k:1≤kind∧kind≤3
 s:inB slot 16=true∧slot.toNat<16
 d:kind=1→ds.length=1∧b7z ((ds.getD 0 (.i 0)).cell 1).toI ((ds.getD 0 (.i 0)).cell 2).items=0
 n:kind≠1→known=true∧ds.length=0
 h:kind=3→0≤time∧0≤last∧0≤off∧off≤31∧(data.length:Int)=size-4
 t:kind=2→(data.length:Int)=size
section
variable {kind slot off:Int} {ds data:List D} {p s:D} {k:Int}
theorem a11 {known:Bool} {size time last:Int} (h:b5H kind slot off ds data known size time last=0):f42 kind slot off ds data known size time last:=by
 unfold b5H at h;cases h1:inI kind 1 3 with
 |false=>rw [h1] at h;exact absurd (show (7:Int)=0 from h) (by decide)
 |true=>
 cases h2:inI slot 0 (bif kind==3 then 3 else 15) with
 |false=>rw [h1,h2] at h;exact absurd (show (9:Int)=0 from h) (by decide)
 |true=>
 cases h3:inI off 0 (bif kind==3 then 31 else 0) with
 |false=>rw [h1,h2,h3] at h;exact absurd (show (9:Int)=0 from h) (by decide)
 |true=>
 rw [h1,h2,h3] at h;simp only [Bool.not_true,f6C,Bool.or_self] at h;have hkr:1≤kind∧kind≤3:=by unfold inI at h1;simpa using h1
 by_cases hk:kind=1
 ·subst hk
  simp only [beq_self_eq_true,f6B] at h;cases h4:((ds.length:Int) !=1)||decide ((data.length:Int)>0) with
  |true=>rw [h4] at h;exact absurd (show (2:Int)=0 from h) (by decide)
  |false=>
   rw [h4] at h;simp only [Bool.or_eq_false_iff,bne_eq_false_iff_eq] at h4;exact ⟨hkr,b5p h2,fun _=>⟨by omega,h⟩,fun hn=>absurd rfl hn,fun h=>by omega,fun h=>by omega⟩
 ·have hk1:(kind==1)=false:=by simpa using hk
  rw [hk1] at h;simp only [f6C] at h;cases h4:((ds.length:Int) !=0) with
  |true=>rw [h4] at h;exact absurd (show (2:Int)=0 from h) (by decide)
  |false=>
  rw [h4] at h;simp only [f6C] at h;cases h5: !known||((kind==3)&&(decide (time<0)||decide (last<0))) with
  |true=>rw [h5] at h;exact absurd (show (11:Int)=0 from h) (by decide)
  |false=>
  rw [h5] at h;simp only [f6C] at h;cases h6:((data.length:Int) !=(bif kind==3 then size-4 else size)) with
  |true=>rw [h6] at h;exact absurd (show (2:Int)=0 from h) (by decide)
  |false=>
  simp only [bne_eq_false_iff_eq] at h4 h6;simp only [Bool.or_eq_false_iff,Bool.not_eq_false'] at h5;refine ⟨hkr,b5p h2,fun h=>absurd h hk,fun _=>⟨h5.1,by omega⟩,fun h3'=> ?_,fun h2'=> ?_⟩
  ·subst h3'
   simp at h3 h5 h6;unfold inI at h3;simp at h3;omega
  ·subst h2'
   simpa using h6
theorem f3J {a:Nat} {x0 x1 x2 x3 x4 x5:D} (j:Nat):let q:=(((((p.put (0+a*6) x0).put (1+a*6) x1).put (2+a*6) x2).put (3+a*6) x3).put (4+a*6) x4).put (5+a*6) x5
  q.cell (0+j*6)=(if j=a then x0 else p.cell (0+j*6))∧q.cell (1+j*6)=(if j=a then x1 else p.cell (1+j*6))∧q.cell (2+j*6)=(if j=a then x2 else p.cell (2+j*6))∧
  q.cell (3+j*6)=(if j=a then x3 else p.cell (3+j*6))∧q.cell (4+j*6)=(if j=a then x4 else p.cell (4+j*6))∧q.cell (5+j*6)=(if j=a then x5 else p.cell (5+j*6)):=by
 simp only [a16];by_cases h:j=a
 ·subst h
  simp
 ·simp only [if_neg h]
  refine ⟨?_,?_,?_,?_,?_,?_⟩<;>rw [if_neg (by omega),if_neg (by omega),if_neg (by omega),if_neg (by omega),if_neg (by omega),if_neg (by omega)]
theorem d7M {a:Nat} {x0 x1 x2 x3 x4 x5:D} (ha:a<16):((((((p.put (0+a*6) x0).put (1+a*6) x1).put (2+a*6) x2).put (3+a*6) x3).put (4+a*6) x4).put (5+a*6) x5).cell 96=p.cell 96:=by
 simp only [a16];rw [if_neg (by omega),if_neg (by omega),if_neg (by omega),if_neg (by omega),if_neg (by omega),if_neg (by omega)]
theorem f21 {a:Nat} {x0 x1 x2 x3:D} (ha:a<16) (j:Nat) (hj:j<16):let q:=(((s.put (0+a*1) x0).put (16+a*3) x1).put (17+a*3) x2).put (18+a*3) x3
  q.cell (0+j*1)=(if j=a then x0 else s.cell (0+j*1))∧q.cell (16+j*3)=(if j=a then x1 else s.cell (16+j*3))∧q.cell (17+j*3)=(if j=a then x2 else s.cell (17+j*3))∧
  q.cell (18+j*3)=(if j=a then x3 else s.cell (18+j*3))∧q.cell 64=s.cell 64:=by
 simp only [a16];refine ⟨?_,?_,?_,?_,?_⟩
 ·rw [if_neg (by omega),if_neg (by omega),if_neg (by omega)]
  by_cases h:j=a
  ·rw [if_pos (by omega),if_pos h]
  ·rw [if_neg (by omega),if_neg h]
 ·rw [if_neg (by omega),if_neg (by omega)]
  by_cases h:j=a
  ·rw [if_pos (by omega),if_pos h]
  ·rw [if_neg (by omega),if_neg (by omega),if_neg h]
 ·rw [if_neg (by omega)]
  by_cases h:j=a
  ·rw [if_pos (by omega),if_pos h]
  ·rw [if_neg (by omega),if_neg (by omega),if_neg (by omega),if_neg h]
 ·by_cases h:j=a
  ·rw [if_pos (by omega),if_pos h]
  ·rw [if_neg (by omega),if_neg (by omega),if_neg (by omega),if_neg (by omega),if_neg h]
 ·rw [if_neg (by omega),if_neg (by omega),if_neg (by omega),if_neg (by omega)]
theorem d7N (hs:Slots p s) {a:Nat} (i2:a<16) {arch:Bool} {g:Int} {nl nl2:Bool} {fs:List D} (hf:a1P fs):
  Slots ((((((p.put (0+a*6) (.b true)).put (1+a*6) (.b arch)).put (2+a*6) (.i g)).put (3+a*6) (.l nl fs)).put (4+a*6) (.i (szL fs))).put (5+a*6) (.i (tmL 0 fs)))
   ((((s.put (0+a*1) (.b true)).put (16+a*3) (.b arch)).put (17+a*3) (.i g)).put (18+a*3) (.l nl2 fs)):=by
 refine ⟨fun j hj=> ?_,fun j hj hkn=> ?_⟩
 ·rw [(f3J j).1,(f21 i2 j hj).1]
  by_cases h:j=a
  ·rw [if_pos h,if_pos h]
  ·rw [if_neg h,if_neg h];exact hs.known j hj
 ·obtain ⟨a0,a1,a2,a3,a4,a5⟩:=f3J (p:=p) (a:=a) (x0:= .b true) (x1:= .b arch) (x2:= .i g) (x3:= .l nl fs) (x4:= .i (szL fs)) (x5:= .i (tmL 0 fs)) j
  obtain ⟨b0,b1,b2,b3,_⟩:=f21 (s:=s) (x0:= .b true) (x1:= .b arch) (x2:= .i g) (x3:= .l nl2 fs) i2 j hj;rw [a0] at hkn;rw [a1,a2,a3,a4,a5,b1,b2,b3];by_cases h:j=a
  ·simp only [if_pos h]
   refine ⟨hf,?_,?_,?_,?_,?_⟩<;>first|trivial|rfl
  ·simp only [if_neg h] at hkn⊢
   exact hs.defs j hj hkn
theorem Slots.last (h:Slots p s) {x:D}:Slots p (s.put 64 x):=by
 have c2:∀j:Nat,j<16→(s.put 64 x).cell (0+j*1)=s.cell (0+j*1)∧(s.put 64 x).cell (16+j*3)=s.cell (16+j*3)∧(s.put 64 x).cell (17+j*3)=s.cell (17+j*3)∧(s.put 64 x).cell (18+j*3)=s.cell (18+j*3):=fun j hj=>by
  refine ⟨?_,?_,?_,?_⟩<;>rw [a16,if_neg (by omega)]
 refine ⟨fun j hj=> ?_,fun j hj hk=> ?_⟩
 ·rw [(c2 j hj).1];exact h.known j hj
 ·rw [(c2 j hj).2.1,(c2 j hj).2.2.1,(c2 j hj).2.2.2]
  exact h.defs j hj hk
theorem Sim.more (h:Sim p s k):Sim p s (k+1):=⟨h.toSlots,h.last,h.lo,by have:=h.hi;omega⟩
theorem e1U {t:Int} (h0:0≤t) (h1:t+4≤data.length) (hl:data.length≤maxLen) (hb:a0n data):IntKind.wrap .i64 (t+4)=t+4∧((data.take (t+4).toNat).drop t.toNat).length=4∧a0n ((data.take (t+4).toNat).drop t.toNat):=by
 have hm:maxLen=9223372036854775807:=rfl;exact ⟨a0s (by omega) (by omega),by simp;omega,fun x hx=>hb x (List.mem_of_mem_take (List.mem_of_mem_drop hx))⟩
end
end Go.Proofs.YtiegikkpipdleaaGreatDoor
namespace Go.Proofs.YtiegikkpipdleaaGreatDoor
open Go Go.AM
variable {N:Nat}
def a3c (x:D):Prop:=f3I (x.cell 3).items (x.cell 4).items
def a7y:D:= .a (List.replicate 16 (.b false)++(List.replicate 16 [D.b false,D.i 0,D.l true []]).flatten++[.i (-1)])
theorem d05 (p:D) (hp:(List.range 16).all (fun j=> !(p.cell (0+j*6)).toB&& !(a7y.cell (0+j*1)).toB)=true):Slots p a7y:=by
 have h:∀j:Nat,j<16→(p.cell (0+j*6)).toB=false∧(a7y.cell (0+j*1)).toB=false:=fun j hj=>by
  have:=List.all_eq_true.1 hp j (List.mem_range.2 hj);simpa using this
 exact ⟨fun j hj=>by rw [(h j hj).1,(h j hj).2],fun j hj hk=>by rw [(h j hj).1] at hk;exact absurd hk (by decide)⟩
section
variable {es:List D}
end
end Go.Proofs.YtiegikkpipdleaaGreatDoor
namespace Go.Proofs.YtiegikkpipdleaaGreatDoor
open Go Go.AM
variable {N:Nat}
section
variable {es:List D}
end
end Go.Proofs.YtiegikkpipdleaaGreatDoor
namespace Go.Proofs.YtiegikkpipdleaaGreatDoor
open Go Go.AM
abbrev TyA:Type:=Int×Int×Int×Bool×LD×Bool×LD×Bool×Int×D
variable {N:Nat}
def b1q:Int→List D→Int
 |a,[]=>a
 |a,x::r=>b1q ((31*a+x.toI)%4294967296) r
section
variable {bs:List D}
theorem b0J:∀{bs:List D} {a:Int},0≤a→a<4294967296→0≤b1q a bs∧b1q a bs<4294967296
 | [],_,h0,h1=>⟨h0,h1⟩
 |x::r,a,h0,h1=>b0J (bs:=r) (by omega) (by omega)
theorem c0d (hN:maxLen<N) (hb:a0n bs) (hl:bs.length≤maxLen):d0f N bs=some (b1q 1 bs):=by
 have hm:maxLen=9223372036854775807:=rfl;have key:=a2w (A:=Int×Int) (X:=Option Int) (S:=fun x kr=>b4H N bs bs.length x.1 x.2 (fun a b=>kr (a,b)) (fun p=>some p)) (L:=fun m x=>b9o N bs bs.length m x.1 x.2 (fun p=>some p)) (fun m x=>rfl)
  (fun x=>some (b1q x.1 (bs.drop x.2.toNat))) (fun x=>0≤x.2∧x.2≤bs.length∧0≤x.1∧x.1<4294967296) (fun x=>(bs.length-x.2).toNat) ?_ N (1,0) ⟨by decide,by show (0:Int)≤_;omega,by decide,by decide⟩ (by simp;omega)
 ·have k2:d50 N bs bs.length 1 0=some (b1q 1 bs):=by
   refine Eq.trans key ?_;simp
  have hs:=b0J (bs:=bs) (a:=1) (by decide) (by decide)
  unfold d0f d0e;simp only [a0i];rw [k2];simp only [f6G,f6B,getD_some,a0s (x:=b1q 1 bs) (by omega) (by omega)]
 ·rintro ⟨a,i⟩ kr ⟨h0,h1,h2,h3⟩ ih
  simp only at h0 h1 h2 h3 ih⊢;unfold b4H;by_cases hw:i<bs.length
  ·have hx:=e7r hb h0 hw
   rw [decide_eq_true hw,a0K h0 hw,a05 (.i 0) h0 hw];have e:IntKind.wrap .u32 ((IntKind.wrap .u32 (31*a))+(IntKind.wrap .u32 (bs.getD i.toNat (.i 0)).toI))=(31*a+(bs.getD i.toNat (.i 0)).toI)%4294967296:=by
    simp only [IntKind.wrap_u32];omega
   simp only [f6B,a0i,e,a0s (x:=i+1) (by omega) (by omega),b1q]
   exact ih (_,i+1) ⟨by simp only;omega,by simp only;omega,by simp only;omega,by simp only;omega⟩ (by simp only;omega)
  ·have:i=bs.length:=by omega
   subst this;rw [decide_eq_false hw,a0U (by omega)]
   rfl
theorem d06 (hN:maxLen<N) (hb:a0n bs) (hl:bs.length≤maxLen):c5D N bs=some (b1q 1 bs):=by
 have hm:maxLen=9223372036854775807:=rfl;have key:=a2w (A:=Int×Int) (X:=Option Int) (S:=fun x kr=>b5h N bs bs.length x.1 x.2 (fun a b=>kr (a,b)) (fun p=>some p)) (L:=fun m x=>b5i N bs bs.length m x.1 x.2 (fun p=>some p)) (fun m x=>rfl)
  (fun x=>some (b1q x.1 (bs.drop x.2.toNat))) (fun x=>0≤x.2∧x.2≤bs.length∧0≤x.1∧x.1<4294967296) (fun x=>(bs.length-x.2).toNat) ?_ N (1,0) ⟨by decide,by show (0:Int)≤_;omega,by decide,by decide⟩ (by simp;omega)
 ·have k2:c3g N bs bs.length 1 0=some (b1q 1 bs):=by
   refine Eq.trans key ?_;simp
  unfold c5D d7B;rw [k2];rfl
 ·rintro ⟨a,i⟩ kr ⟨h0,h1,h2,h3⟩ ih
  simp only at h0 h1 h2 h3 ih⊢;unfold b5h;by_cases hw:i<bs.length
  ·have hx:=e7r hb h0 hw
   rw [decide_eq_true hw,a0K h0 hw,a05 (.i 0) h0 hw];have e:(IntKind.wrap .i64 ((IntKind.wrap .i64 (31*a))+(IntKind.wrap .i64 (bs.getD i.toNat (.i 0)).toI))).tmod 4294967296=(31*a+(bs.getD i.toNat (.i 0)).toI)%4294967296:=by
    rw [a0s (x:=31*a) (by omega) (by omega),a0s (x:=(bs.getD i.toNat (.i 0)).toI) (by omega) (by omega),a0s (by omega) (by omega)]
    exact Int.tmod_eq_emod_of_nonneg (by omega)
   simp only [f6B,a0i,e,a0s (x:=i+1) (by omega) (by omega),b1q]
   exact ih (_,i+1) ⟨by simp only;omega,by simp only;omega,by simp only;omega,by simp only;omega⟩ (by simp only;omega)
  ·have:i=bs.length:=by omega
   subst this;rw [decide_eq_false hw,a0U (by omega)]
   rfl
theorem a0n.sub (hb:a0n bs) (a b:Nat):a0n ((bs.take b).drop a):=fun x hx=>hb x (List.mem_of_mem_take (List.mem_of_mem_drop hx))
theorem a0n.drop (hb:a0n bs) (a:Nat):a0n (bs.drop a):=fun x hx=>hb x (List.mem_of_mem_drop hx)
theorem c0e {n a:Int} {nl:Bool} (hn:0≤n) (hn2:n≤100000) (hl:bs.length≤maxLen) (ha: -1≤a) (ha2:a≤bs.length) (h:a<0∨n>bs.length-a):a7v N n a nl bs=some (false,List.replicate n.toNat (.i 0),-1):=by
 have hm:maxLen=9223372036854775807:=rfl;unfold a7v d0h;have e:(bif decide (a<0) then true else decide (n>IntKind.wrap .i64 ((bs.length:Int)-a)))=true:=by
  by_cases h0:a<0
  ·rw [decide_eq_true h0];rfl
  ·rw [decide_eq_false h0,a0s (by omega) (by omega)]
   exact decide_eq_true (by omega)
 have r1:decide (n.toNat*1≤a0L)=true:=decide_eq_true (by unfold a0L;omega)
 have r2:decide (n.toNat≤a0d)=true:=decide_eq_true (by unfold a0d;omega)
 rw [e,r1,r2,decide_eq_true hn,decide_eq_true (Int.le_refl n)];rfl
theorem a9A {n a:Int} {nl:Bool} (hn:0≤n) (hl:bs.length≤maxLen) (ha:0≤a) (h:a+n≤bs.length):a7v N n a nl bs=some (nl,(bs.take (a+n).toNat).drop a.toNat,a+n):=by
 have hm:maxLen=9223372036854775807:=rfl;unfold a7v d0h;have e:(bif decide (a<0) then true else decide (n>IntKind.wrap .i64 ((bs.length:Int)-a)))=false:=by
  rw [decide_eq_false (by omega),a0s (by omega) (by omega)]
  exact decide_eq_false (by omega)
 rw [e,a0s (x:=a+n) (by omega) (by omega),a0s (x:=a+n-n) (by omega) (by omega),show a+n-n=a by omega,decide_eq_true ha,decide_eq_true (show a≤a+n by omega),decide_eq_true (Int.le_refl (a+n)),decide_eq_true h]
 rfl
theorem b5q {a b:Nat} (h:b≤bs.length):((bs.take b).drop a).length=b-a:=by simp;omega
theorem e1V {a b k:Nat} (h:a+k<b):((bs.take b).drop a).getD k (.i 0)=bs.getD (a+k) (.i 0):=by
 simp only [f6F,List.getElem?_drop];rw [List.getElem?_take_of_lt h]
def by_ (bs:List D) (i:Int):Int:=(bs.getD i.toNat (.i 0)).toI
def d7O (bs:List D) (a:Int):D:= .a [.i (by_ bs a),.i (by_ bs (a+1)),.i (by_ bs (a+2))]
def d1n (bs:List D):Nat→Int→List D
 |0,_=>[]
 |c+1,a=>d7O bs a::d1n bs c (a+3)
theorem c7H {a n k:Int} (ha:0≤a) (hk:0≤k) (h:k<n):(((bs.take (a+n).toNat).drop a.toNat).getD k.toNat (.i 0)).toI=by_ bs (a+k):=by
 unfold by_;rw [e1V (by omega),show (a+k).toNat=a.toNat+k.toNat by omega]
theorem d7P (hb:a0n bs) {i:Int} (h0:0≤i) (h1:i<bs.length):0≤by_ bs i∧by_ bs i≤255:=e7r hb h0 h1
theorem c5N (hN:maxLen<N) (hb:a0n bs) (hl:bs.length≤maxLen) {c a:Int} {nl:Bool} (h0:0≤c) (h1:c≤255) (ha: -1≤a) (ha2:a≤bs.length):
  ∃a' fs,c7l N c nl bs 0 a true []=some (a',fs.isEmpty,fs)∧a1P fs∧(0≤a∧a+3*c≤bs.length→a'=a+3*c∧fs=d1n bs c.toNat a)∧(¬(0≤a∧a+3*c≤bs.length)→a'= -1):=by
 have hm:maxLen=9223372036854775807:=rfl;have key:=a4t (A:=Int×Int×Bool×LD) (X:=Option (Int×Bool×LD)) (S:=fun x kr=>a86 N c nl bs x.1 x.2.1 x.2.2.1 x.2.2.2 (fun a b c d=>kr (a,b,c,d)) (fun p=>some p)) (L:=fun m x=>b2C N c nl bs m x.1 x.2.1 x.2.2.1 x.2.2.2 (fun p=>some p)) (fun m x=>rfl)
  (fun x r=>∃a' fs,r=some (a',(x.2.2.1&&fs.isEmpty),x.2.2.2++fs)∧(fs.length:Int)=c-x.1∧(∀f∈fs,0≤fS f∧fS f≤255)∧(0≤x.2.1∧x.2.1+3*(c-x.1)≤bs.length→a'=x.2.1+3*(c-x.1)∧fs=d1n bs (c-x.1).toNat x.2.1)∧(¬(0≤x.2.1∧x.2.1+3*(c-x.1)≤bs.length)→a'= -1))
  (fun x=>0≤x.1∧x.1≤c∧-1≤x.2.1∧x.2.1≤bs.length∧(x.2.2.2.length:Int)=x.1) (fun x=>(c-x.1).toNat) ?_ N (0,a,true,[]) ⟨by show (0:Int)≤0;omega,by show (0:Int)≤_;omega,ha,ha2,rfl⟩ (by simp;omega)
 ·obtain ⟨a',fs,q,l,f,p1,p2⟩:=key
  simp only [Int.sub_zero,List.nil_append,Bool.true_and] at q l p1 p2;exact ⟨a',fs,q,⟨by omega,f⟩,p1,p2⟩
 ·rintro ⟨w,a,b,acc⟩ kr ⟨h2,h3,h4,h5,h6⟩ ih
  simp only at h2 h3 h4 h5 h6 ih⊢;unfold a86;by_cases hw:w<c
  ·have r1:decide ((acc.length+1)*24≤a0L)=true:=decide_eq_true (by unfold a0L;omega)
   have r2:decide (acc.length+1≤a0d)=true:=decide_eq_true (by unfold a0d;omega)
   have i0:inB 0 3=true:=rfl;have i1:inB 1 3=true:=rfl;have i2:inB 2 3=true:=rfl;have w8:IntKind.wrap .u8 (w+1)=w+1:=by simp only [IntKind.wrap_u8];omega
   rw [decide_eq_true hw];by_cases hp:0≤a∧a+3≤bs.length
   ·obtain ⟨hp1,hp2⟩:=hp
    have l3:((bs.take (a+3).toNat).drop a.toNat).length=3:=by rw [b5q (by omega)];omega
    have b0:=d7P hb (i:=a+0) (by omega) (by omega)
    have b1:=d7P hb (i:=a+1) (by omega) (by omega)
    have b2:=d7P hb (i:=a+2) (by omega) (by omega)
    have v0:=c7H (bs:=bs) (a:=a) (n:=3) (k:=0) hp1 (by omega) (by omega)
    have v1:=c7H (bs:=bs) (a:=a) (n:=3) (k:=1) hp1 (by omega) (by omega)
    have v2:=c7H (bs:=bs) (a:=a) (n:=3) (k:=2) hp1 (by omega) (by omega)
    simp only [f6B,a0i,a9A (n:=3) (nl:=nl) (N:=N) (by omega) hl hp1 hp2,f6G,getD_some,l3,i0,i1,i2,w8,r1,r2,Bool.and_self]
    have e0:((bs.take (a+3).toNat).drop a.toNat).getD 0 (.i 0)=((bs.take (a+3).toNat).drop a.toNat).getD (0:Int).toNat (.i 0):=rfl;have e1:((bs.take (a+3).toNat).drop a.toNat).getD 1 (.i 0)=((bs.take (a+3).toNat).drop a.toNat).getD (1:Int).toNat (.i 0):=rfl;have e2:((bs.take (a+3).toNat).drop a.toNat).getD 2 (.i 0)=((bs.take (a+3).toNat).drop a.toNat).getD (2:Int).toNat (.i 0):=rfl;rw [e0,e1,e2,v0,v1,v2,a0s (x:=by_ bs (a+0)) (by omega) (by omega),a0s (x:=by_ bs (a+1)) (by omega) (by omega),a0s (x:=by_ bs (a+2)) (by omega) (by omega)]
    obtain ⟨a',fs,q,l,f,p1,p2⟩:=ih (w+1,a+3,false,acc++[.a [.i (by_ bs (a+0)),.i (by_ bs (a+1)),.i (by_ bs (a+2))]]) ⟨by simp only;omega,by simp only;omega,by simp only;omega,by simp only;omega,by simp;omega⟩ (by simp only;omega)
    simp only at q l p1 p2;refine ⟨a',d7O bs a::fs,?_,by simp;omega,?_,fun h=> ?_,fun h=>p2 (by omega)⟩
    ·have ef:d7O bs a= .a [.i (by_ bs (a+0)),.i (by_ bs (a+1)),.i (by_ bs (a+2))]:=by unfold d7O;rw [Int.add_zero]
     rw [ef];rw [f6P,Bool.false_and] at q;rw [List.isEmpty_cons,Bool.and_false];exact q
    ·intro g hg
     rcases f6M.1 hg with rfl|hg
     ·exact b1
     ·exact f g hg
    ·obtain ⟨q1,q2⟩:=p1 (by omega)
     refine ⟨by omega,?_⟩
     rw [show (c-w).toNat=(c-(w+1)).toNat+1 by omega]
     simp only [d1n];rw [←q2]
   ·simp only [f6B,a0i,c0e (n:=3) (nl:=nl) (N:=N) (by omega) (by omega) hl h4 h5 (by omega),f6G,getD_some,List.length_replicate,show (3:Int).toNat=3 from rfl,i0,i1,i2,w8,r1,r2,Bool.and_self]
    obtain ⟨a',fs,q,l,f,p1,p2⟩:=ih (w+1,-1,false,acc++[.a [.i 0,.i 0,.i 0]]) ⟨by simp only;omega,by simp only;omega,by simp only;omega,by simp only;omega,by simp;omega⟩ (by simp only;omega)
    simp only at q l p1 p2;refine ⟨a',.a [.i 0,.i 0,.i 0]::fs,?_,by simp;omega,?_,fun h=>by omega,fun h=>p2 (by omega)⟩
    ·rw [f6P,Bool.false_and] at q
     rw [List.isEmpty_cons,Bool.and_false];exact q
    ·intro g hg
     rcases f6M.1 hg with rfl|hg
     ·exact ⟨by decide,by decide⟩
     ·exact f g hg
  ·have:w=c:=by omega
   subst this;rw [decide_eq_false hw];exact ⟨a,[],by simp,by simp,by simp,fun h=>by simp [d1n],fun h=>by omega⟩
end
end Go.Proofs.YtiegikkpipdleaaGreatDoor
namespace Go.Proofs.YtiegikkpipdleaaGreatDoor
open Go Go.AM
variable {N:Nat}
section
variable {bs:List D}
end
end Go.Proofs.YtiegikkpipdleaaGreatDoor
namespace Go.Proofs.YtiegikkpipdleaaGreatDoor
open Go Go.AM
variable {N:Nat}
def d7Q (N:Nat) (kind slot off a:Int) (nl:Bool) (bs:List D) (p:D):Option TyA:=
 bif (inB slot 16) then
  bnd (bif (decide (a<0)) then true else (!(p.cell (0+(slot.toNat*6))).toB)) fun y3=>
  bnd (bif y3 then true else (bif (kind==3) then (decide ((p.cell (5+(slot.toNat*6))).toI<0)) else false)) fun y4=>
  bif y4 then
   some (kind,slot,off,true,[],true,[],false,a,p)
  else
   bnd (a6x N (p.cell (4+(slot.toNat*6))).toI (kind==3)) fun y5=>
   bnd (a7v N y5 a nl bs) fun y6=>
   bif y6.isSome then
    bnd (G55x0 N (y6.getD default).1 (y6.getD default).2.1) fun y7=>
    bif y7.isSome then
     some (kind,slot,off,true,[],(y7.getD default).1,(y7.getD default).2,(decide ((y6.getD default).2.2≥0)),(y6.getD default).2.2,p)
    else
     none
   else
    none
 else
  none
section
variable {bs:List D} {p s:D}
theorem c7I {xs:List D} (h:xs.length≤100000):G55x0 N false xs=some (false,xs):=by
 have r1:decide ((0+xs.length)*1≤a0L)=true:=decide_eq_true (by unfold a0L;omega)
 have r2:decide (0+xs.length≤a0d)=true:=decide_eq_true (by unfold a0d;omega)
 unfold G55x0 F55x0;rw [r1,r2];simp
end
end Go.Proofs.YtiegikkpipdleaaGreatDoor
namespace Go.Proofs.YtiegikkpipdleaaGreatDoor
open Go Go.AM
variable {N:Nat}
def e1W (bs:List D) (a:Int):D:=
 .a [.b (by_ bs (a+1)==1),.i (a7x ((bs.take (a+4).toNat).drop (a+2).toNat) (by_ bs (a+1)==1)),.l (d1n bs (by_ bs (a+4)).toNat (a+5)).isEmpty (d1n bs (by_ bs (a+4)).toNat (a+5))]
def e7s (bs:List D) (a:Int):Prop:=a+5≤bs.length∧a+5+3*by_ bs (a+4)≤bs.length
section
variable {bs:List D} {p s:D}
theorem b5r (hb:a0n bs) (hl:bs.length≤maxLen) {n a:Int} {nl:Bool} (hn:0≤n) (hn2:n≤100000) (ha: -1≤a) (ha2:a≤bs.length):
  ∃nl' xs a',a7v N n a nl bs=some (nl',xs,a')∧xs.length=n.toNat∧a0n xs∧-1≤a'∧a'≤bs.length∧(0≤a∧a+n≤bs.length→a'=a+n∧xs=(bs.take (a+n).toNat).drop a.toNat)∧(¬(0≤a∧a+n≤bs.length)→a'= -1):=by
 by_cases h:0≤a∧a+n≤bs.length
 ·obtain ⟨h1,h2⟩:=h
  exact ⟨_,_,_,a9A hn hl h1 h2,by rw [b5q (by omega)];omega,hb.sub _ _,by omega,by omega,fun _=>⟨rfl,rfl⟩,fun h=>absurd ⟨h1,h2⟩ h⟩
 ·refine ⟨_,_,_,c0e hn hn2 hl ha ha2 (by omega),by simp,fun x hx=> ?_,by omega,by omega,fun h'=>absurd h' h,fun _=>rfl⟩
  rw [(List.mem_replicate.1 hx).2];exact ⟨by decide,by decide⟩
theorem b1r {n a:Int} {xs:List D} (ha:0≤a) (hn:n=1) (h:xs=(bs.take (a+n).toNat).drop a.toNat):(xs.getD 0 (.i 0)).toI=by_ bs a:=by
 subst h hn;have:=c7H (bs:=bs) (a:=a) (n:=1) (k:=0) ha (by omega) (by omega)
 rw [Int.add_zero] at this;exact this
theorem f22 {xs:List D} (hb:a0n xs) (h:xs.length=1):0≤(xs.getD 0 (.i 0)).toI∧(xs.getD 0 (.i 0)).toI≤255:=e7r (i:=0) hb (by omega) (by omega)
theorem e1X (hN:maxLen<N) (hb:a0n bs) (hl:bs.length≤maxLen) {a c:Int} {nl:Bool} (h0:0≤a) (h1:a<bs.length) (c0:64≤c) (c1:c≤79):
  ∃ok a' p' d,a1m N c false (a+1) nl bs p=some (.inr (.inl (ok,a',p',c-64,c-64,[d])))∧
   (ok=true↔(e7s bs a∧by_ bs (a+1)≤1))∧
   (e7s bs a→a'=a+5+3*by_ bs (a+4)∧d=e1W bs a∧ ∀s,Slots p s→Slots p' ((((s.put (0+(c-64).toNat*1) (.b true)).put (16+(c-64).toNat*3) (.b (by_ bs (a+1)==1))).put (17+(c-64).toNat*3) (.i (a7x ((bs.take (a+4).toNat).drop (a+2).toNat) (by_ bs (a+1)==1)))).put (18+(c-64).toNat*3) (.l (d1n bs (by_ bs (a+4)).toNat (a+5)).isEmpty (d1n bs (by_ bs (a+4)).toNat (a+5))))):=by
 have hm:maxLen=9223372036854775807:=rfl;obtain ⟨nl1,x1,a1,q1,l1,b1,m1,M1,y1,n1⟩:=b5r (N:=N) hb hl (n:=1) (a:=a+1) (nl:=nl) (by omega) (by omega) (by omega) (by omega)
 obtain ⟨nl2,x2,a2,q2,l2,b2,m2,M2,y2,n2⟩:=b5r (N:=N) hb hl (n:=2) (a:=a1) (nl:=nl) (by omega) (by omega) (by omega) (by omega)
 obtain ⟨nl3,x3,a3,q3,l3,b3,m3,M3,y3,n3⟩:=b5r (N:=N) hb hl (n:=1) (a:=a2) (nl:=nl) (by omega) (by omega) (by omega) (by omega)
 have l1':x1.length=1:=l1;have l2':x2.length=2:=l2;have l3':x3.length=1:=l3;have k1:=f22 b1 l1';have k3:=f22 b3 l3';obtain ⟨a4,fs,q4,fo,y4,n4⟩:=c5N (N:=N) hN hb hl (c:=(x3.getD 0 (.i 0)).toI) (a:=a3) (nl:=nl) k3.1 k3.2 m3 M3;have i1:inB (c-64) 16=true:=a0K (by omega) (by omega)
 have i0:inB 0 1=true:=rfl;have hv:a26 N c 64 79=true:=by
  rw [a34];unfold inI;simp;omega
 refine ⟨(bif decide (a4≥0) then decide ((x1.getD 0 (.i 0)).toI≤1) else false),a4,((((((p.put (0+((c-64).toNat*6)) (.b true)).put (1+((c-64).toNat*6)) (.b ((x1.getD 0 (.i 0)).toI==1))).put (2+((c-64).toNat*6)) (.i (a7x x2 ((x1.getD 0 (.i 0)).toI==1)))).put (3+((c-64).toNat*6)) (.l fs.isEmpty fs)).put (4+((c-64).toNat*6)) (.i (szL fs))).put (5+((c-64).toNat*6)) (.i (tmL 0 fs))),.a [.b ((x1.getD 0 (.i 0)).toI==1),.i (a7x x2 ((x1.getD 0 (.i 0)).toI==1)),.l fs.isEmpty fs],?_,?_,fun hd=> ?_⟩
 ·unfold a1m a2c
  simp only [f6C,decide_eq_false (show¬c<16 by omega),a0i,hv,f6B,q1,q2,q3,f6G,getD_some,l1',l3',i0,a9z (N:=N) hN b2 _ (show x2.length≤4 by omega),q4,c7G hN fo,a0s (x:=c-64) (by omega) (by omega),i1]
 ·have hc:by_ bs (a+4)=by_ bs (a+4):=rfl
  constructor
  ·intro h
   by_cases h4:a4≥0
   ·rw [decide_eq_true h4] at h
    simp only [f6B,decide_eq_true_eq] at h;have g4:0≤a3∧a3+3*(x3.getD 0 (.i 0)).toI≤bs.length:=by
     refine Classical.byContradiction fun hh=> ?_
     have:=n4 hh;omega
    have g3:0≤a2∧a2+1≤bs.length:=by
     refine Classical.byContradiction fun hh=> ?_
     have:=n3 hh;omega
    have g2:0≤a1∧a1+2≤bs.length:=by
     refine Classical.byContradiction fun hh=> ?_
     have:=n2 hh;omega
    have g1:0≤a+1∧a+1+1≤bs.length:=by
     refine Classical.byContradiction fun hh=> ?_
     have:=n1 hh;omega
    obtain ⟨e1,z1⟩:=y1 g1;obtain ⟨e2,z2⟩:=y2 g2;obtain ⟨e3,z3⟩:=y3 g3;have v1:=b1r (by omega) rfl z1
    have v3:=b1r (by omega) rfl z3
    have ea2:a2=a+4:=by omega
    rw [ea2] at v3;rw [v1] at h;rw [v3] at g4;exact ⟨⟨by omega,by omega⟩,h⟩
   ·rw [decide_eq_false h4] at h;exact absurd h (by simp)
  ·rintro ⟨⟨h5,h6⟩,h7⟩
   obtain ⟨e1,z1⟩:=y1 (by omega)
   obtain ⟨e2,z2⟩:=y2 (by omega)
   obtain ⟨e3,z3⟩:=y3 (by omega)
   have v1:=b1r (by omega) rfl z1
   have v3:=b1r (by omega) rfl z3
   have ea2:a2=a+4:=by omega
   rw [ea2] at v3;obtain ⟨e4,z4⟩:=y4 (by rw [v3];omega)
   rw [v1,decide_eq_true (show a4≥0 by omega),decide_eq_true h7];rfl
 ·obtain ⟨h5,h6⟩:=hd
  obtain ⟨e1,z1⟩:=y1 (by omega)
  obtain ⟨e2,z2⟩:=y2 (by omega)
  obtain ⟨e3,z3⟩:=y3 (by omega)
  have v1:=b1r (by omega) rfl z1
  have v3:=b1r (by omega) rfl z3
  have ea2:a2=a+4:=by omega
  rw [ea2] at v3;obtain ⟨e4,z4⟩:=y4 (by rw [v3];omega)
  have ea1:a1=a+2:=by omega
  have ea3:a3=a+5:=by omega
  rw [ea1,show a+2+2=a+4 by omega] at z2
  rw [ea3,v3] at z4 e4;refine ⟨e4,?_,fun s hs=> ?_⟩
  ·unfold e1W
   rw [v1,z2,←z4]
  ·rw [v1,←z2,←z4]
   exact d7N hs (by omega) fo
end
end Go.Proofs.YtiegikkpipdleaaGreatDoor
namespace Go.Proofs.YtiegikkpipdleaaGreatDoor
open Go Go.AM
variable {N:Nat}
section
variable {bs:List D} {p s:D}
end
end Go.Proofs.YtiegikkpipdleaaGreatDoor
namespace Go.Proofs.YtiegikkpipdleaaGreatDoor
open Go Go.AM
variable {N:Nat}
section
variable {b:List D}
structure Lst (l:List D):Prop where
 e:∀x∈l,a3c x
 n:l.length≤10000000
theorem Lst.nil:Lst []:=⟨by simp,by simp⟩
theorem f23:Slots (c48 N) a7y:=d05 _ (by kernel_rfl)
end
end Go.Proofs.YtiegikkpipdleaaGreatDoor
namespace Go.Proofs.YtiegikkpipdleaaGreatDoor
open Go Go.AM
variable {N:Nat}
section
variable {b:List D}
end
end Go.Proofs.YtiegikkpipdleaaGreatDoor
namespace Go.Proofs.YtiegikkpipdleaaGreatDoor
open Go Go.AM
variable {N:Nat}
section
variable {xs:List D}
end
end Go.Proofs.YtiegikkpipdleaaGreatDoor
namespace Go.Proofs.YtiegikkpipdleaaGreatDoor
open Go Go.AM
variable {N:Nat}
abbrev kX (x:D):Int:=(x.cell 0).toI
abbrev sX (x:D):Int:=(x.cell 1).toI
abbrev oX (x:D):Int:=(x.cell 2).toI
abbrev dX (x:D):List D:=(x.cell 3).items
abbrev bX (x:D):List D:=(x.cell 4).items
abbrev d0X (x:D):D:=(dX x).getD 0 (.i 0)
structure Ab where
 kn:Nat→Bool
 bg:Nat→Bool
 gl:Nat→Int
 fs:Nat→List D
 last:Int
def Ab.start:Ab:=⟨fun _=>false,fun _=>false,fun _=>0,fun _=>[],-1⟩
def upA {α:Type} (f:Nat→α) (j:Nat) (x:α):Nat→α:=fun i=>if i=j then x else f i
def a5k (a:Ab) (kind slot off:Int) (data:List D):Int:=
 bif kind==1 then-1 else bif kind==3 then a.last+(off-a.last%32+32)%32 else
 bif decide (tmL 0 (a.fs slot.toNat)<0) then-1 else
 bif a7x ((data.take (tmL 0 (a.fs slot.toNat)+4).toNat).drop (tmL 0 (a.fs slot.toNat)).toNat) (a.bg slot.toNat)==4294967295 then-1 else a7x ((data.take (tmL 0 (a.fs slot.toNat)+4).toNat).drop (tmL 0 (a.fs slot.toNat)).toNat) (a.bg slot.toNat)
def b5s (a:Ab) (kind slot off:Int) (ds data:List D):Ab:=
 bif kind==1 then {a with kn:=upA a.kn slot.toNat true,bg:=upA a.bg slot.toNat ((ds.getD 0 (.i 0)).cell 0).toB,gl:=upA a.gl slot.toNat ((ds.getD 0 (.i 0)).cell 1).toI,fs:=upA a.fs slot.toNat ((ds.getD 0 (.i 0)).cell 2).items} else
 {a with last:=bif decide (a5k a kind slot off data≥0) then a5k a kind slot off data else a.last}
abbrev a1I (a:Ab) (x:D):Int:=a5k a (kX x) (sX x) (oX x) (bX x)
abbrev a0T (a:Ab) (x:D):Ab:=b5s a (kX x) (sX x) (oX x) (dX x) (bX x)
def c7J (a:Ab) (kind slot off:Int) (ds data:List D):Int:=b5H kind slot off ds data (a.kn slot.toNat) (szL (a.fs slot.toNat)) (tmL 0 (a.fs slot.toNat)) a.last
abbrev a7H (a:Ab) (x:D):Int:=c7J a (kX x) (sX x) (oX x) (dX x) (bX x)
structure SlP (p:D) (a:Ab):Prop where
 kn:∀j:Nat,j<16→(p.cell (0+j*6)).toB=a.kn j
 df:∀j:Nat,j<16→a.kn j=true→a1P (a.fs j)∧(p.cell (1+j*6)).toB=a.bg j∧(p.cell (2+j*6)).toI=a.gl j∧(p.cell (3+j*6)).items=a.fs j∧(p.cell (4+j*6)).toI=szL (a.fs j)∧(p.cell (5+j*6)).toI=tmL 0 (a.fs j)
structure SlS (s:D) (a:Ab):Prop where
 kn:∀j:Nat,j<16→(s.cell (0+j*1)).toB=a.kn j
 df:∀j:Nat,j<16→a.kn j=true→(s.cell (16+j*3)).toB=a.bg j∧(s.cell (17+j*3)).toI=a.gl j∧(s.cell (18+j*3)).items=a.fs j
structure Wk (p s:D) (a:Ab) (k:Int):Prop where
 pp:SlP p a
 ss:SlS s a
 lp:(p.cell 96).toI=a.last
 ls:(s.cell 64).toI=a.last
 lo: -1≤a.last
 hi:a.last≤4294967295+32*k
theorem c7K {p s:D} {a:Ab} (hp:SlP p a) (hs:SlS s a):Slots p s:=
 ⟨fun j hj=>by rw [hp.kn j hj,hs.kn j hj],fun j hj hk=>by
  rw [hp.kn j hj] at hk;obtain ⟨p1,p2,p3,p4,p5,p6⟩:=hp.df j hj hk;obtain ⟨s1,s2,s3⟩:=hs.df j hj hk;rw [p2,p3,p4,p5,p6,s1,s2,s3];exact ⟨p1,rfl,rfl,rfl,rfl,rfl⟩⟩
theorem Wk.sim {p s:D} {a:Ab} {k:Int} (h:Wk p s a k):Sim p s k:=⟨c7K h.pp h.ss,by rw [h.lp,h.ls],by rw [h.lp];exact h.lo,by rw [h.lp];exact h.hi⟩
theorem d07 {kind slot off:Int} {ds data:List D} {size time size' time' last:Int}:b5H kind slot off ds data false size time last=b5H kind slot off ds data false size' time' last:=by
 unfold b5H;rfl
theorem f24 {p:D} {a:Ab} (hp:SlP p a) (lp:(p.cell 96).toI=a.last) {kind slot off:Int} {ds data:List D}:b5H kind slot off ds data (p.cell (0+slot.toNat*6)).toB (p.cell (4+slot.toNat*6)).toI (p.cell (5+slot.toNat*6)).toI (p.cell 96).toI=c7J a kind slot off ds data:=by
 unfold c7J;rw [lp];by_cases h1:inI slot 0 (bif kind==3 then 3 else 15)=true
 ·obtain ⟨_,h2⟩:=b5p h1
  rw [hp.kn _ h2];cases hk:a.kn slot.toNat with
  |false=>exact d07
  |true=>
   obtain ⟨_,_,_,_,p5,p6⟩:=hp.df _ h2 hk;rw [p5,p6]
 ·have h1:inI slot 0 (bif kind==3 then 3 else 15)=false:=by simpa using h1
  unfold b5H;rw [h1];rfl
section
variable {kind slot off:Int} {ds data:List D} {p s:D} {a:Ab} {k:Int}
theorem e7t (hp:SlP p a) {j:Nat} (i2:j<16) {big:Bool} {g:Int} {nl:Bool} {fs:List D} (hf:a1P fs) {last:Int}:
  SlP ((((((p.put (0+j*6) (.b true)).put (1+j*6) (.b big)).put (2+j*6) (.i g)).put (3+j*6) (.l nl fs)).put (4+j*6) (.i (szL fs))).put (5+j*6) (.i (tmL 0 fs))) {kn:=upA a.kn j true,bg:=upA a.bg j big,gl:=upA a.gl j g,fs:=upA a.fs j fs,last:=last}:=by
 refine ⟨fun i hi=> ?_,fun i hi hkn=> ?_⟩
 ·rw [(f3J i).1]
  unfold upA;by_cases h:i=j
  ·simp only [if_pos h];rfl
  ·simp only [if_neg h];exact hp.kn i hi
 ·obtain ⟨a0,a1,a2,a3,a4,a5⟩:=f3J (p:=p) (a:=j) (x0:= .b true) (x1:= .b big) (x2:= .i g) (x3:= .l nl fs) (x4:= .i (szL fs)) (x5:= .i (tmL 0 fs)) i
  rw [a1,a2,a3,a4,a5];unfold upA at hkn⊢;by_cases h:i=j
  ·simp only [if_pos h]
   refine ⟨hf,?_,?_,?_,?_,?_⟩<;>first|trivial|rfl
  ·simp only [if_neg h] at hkn⊢
   exact hp.df i hi hkn
theorem d7R (hs:SlS s a) {j:Nat} (i2:j<16) {big:Bool} {g:Int} {nl:Bool} {fs:List D} {last:Int}:
  SlS ((((s.put (0+j*1) (.b true)).put (16+j*3) (.b big)).put (17+j*3) (.i g)).put (18+j*3) (.l nl fs)) {kn:=upA a.kn j true,bg:=upA a.bg j big,gl:=upA a.gl j g,fs:=upA a.fs j fs,last:=last}:=by
 refine ⟨fun i hi=> ?_,fun i hi hkn=> ?_⟩
 ·rw [(f21 i2 i hi).1]
  unfold upA;by_cases h:i=j
  ·simp only [if_pos h];rfl
  ·simp only [if_neg h];exact hs.kn i hi
 ·obtain ⟨b0,b1,b2,b3,_⟩:=f21 (s:=s) (x0:= .b true) (x1:= .b big) (x2:= .i g) (x3:= .l nl fs) i2 i hi
  rw [b1,b2,b3];unfold upA at hkn⊢;by_cases h:i=j
  ·simp only [if_pos h]
   refine ⟨?_,?_,?_⟩<;>first|trivial|rfl
  ·simp only [if_neg h] at hkn⊢
   exact hs.df i hi hkn
theorem e1Y (hp:SlP p a) {x:D} {l:Int}:SlP (p.put 96 x) {a with last:=l}:=by
 have c1:∀c j:Nat,c<6→j<16→(p.put 96 x).cell (c+j*6)=p.cell (c+j*6):=fun c j hc hj=>by rw [a16,if_neg (by omega)]
 refine ⟨fun j hj=> ?_,fun j hj hk=> ?_⟩
 ·rw [c1 0 j (by omega) hj];exact hp.kn j hj
 ·rw [c1 1 j (by omega) hj,c1 2 j (by omega) hj,c1 3 j (by omega) hj,c1 4 j (by omega) hj,c1 5 j (by omega) hj]
  exact hp.df j hj hk
theorem e1Z (hs:SlS s a) {x:D} {l:Int}:SlS (s.put 64 x) {a with last:=l}:=by
 have c2:∀j:Nat,j<16→(s.put 64 x).cell (0+j*1)=s.cell (0+j*1)∧(s.put 64 x).cell (16+j*3)=s.cell (16+j*3)∧(s.put 64 x).cell (17+j*3)=s.cell (17+j*3)∧(s.put 64 x).cell (18+j*3)=s.cell (18+j*3):=fun j hj=>by
  refine ⟨?_,?_,?_,?_⟩<;>rw [a16,if_neg (by omega)]
 refine ⟨fun j hj=> ?_,fun j hj hk=> ?_⟩
 ·rw [(c2 j hj).1];exact hs.kn j hj
 ·rw [(c2 j hj).2.1,(c2 j hj).2.2.1,(c2 j hj).2.2.2]
  exact hs.df j hj hk
theorem e15 (hp:SlP p a) {l:Int}:SlP p {a with last:=l}:=⟨hp.kn,hp.df⟩
theorem e16 (hs:SlS s a) {l:Int}:SlS s {a with last:=l}:=⟨hs.kn,hs.df⟩
theorem Wk.put (h:Wk p s a k) {t:Int} (h0:0≤t) (h1:t≤4294967295+32*(k+1)):Wk (p.put 96 (.i t)) (s.put 64 (.i t)) {a with last:=t} (k+1):=
 ⟨e1Y h.pp,e1Z h.ss,by simp [a16,D.toI],by simp [a16,D.toI],by simp only;omega,h1⟩
theorem Wk.more (h:Wk p s a k):Wk p s a (k+1):=⟨h.pp,h.ss,h.lp,h.ls,h.lo,by have:=h.hi;omega⟩
theorem c0f (hN:maxLen<N) (hs:Wk p s a k) (he:f3I ds data) (h0:0≤k) (h1:k≤100000) (hE:c7J a kind slot off ds data=0):
  ∃p' s',c4F N kind slot off ds data p=some (a5k a kind slot off data,p')∧c5B N kind slot off ds data s=some (a5k a kind slot off data,s')∧Wk p' s' (b5s a kind slot off ds data) (k+1):=by
 have hm:maxLen=9223372036854775807:=rfl;have hE:=a11 hE;obtain ⟨i1,i2⟩:=hE.s;unfold c4F d3X a4V a3G c5B d7A b5s a5k;have e38:∀q,a6q N (-1) false q=q:=fun q=>rfl
 rw [i1];by_cases hk1:kind=1
 ·subst hk1
  obtain ⟨d1,d2⟩:=hE.d rfl;have hf:=c5M d2;have q1:=c7G hN hf;simp only [beq_self_eq_true,f6B,a0K (i:=0) (n:=ds.length) (by omega) (by omega),a0i,q1,f6G,getD_some]
  have e1:decide ((-1:Int)≥0)=false:=by decide
  rw [e1,e38];refine ⟨_,_,rfl,rfl,?_⟩;refine ⟨e7t hs.pp i2 hf,d7R hs.ss i2,?_,?_,hs.lo,by have:=hs.hi;simp only;omega⟩
  ·rw [d7M i2];exact hs.lp
  ·rw [(f21 i2 0 (by omega)).2.2.2.2];exact hs.ls
 ·have hk1':(kind==1)=false:=by simpa using hk1
  obtain ⟨kn,_⟩:=hE.n hk1;obtain ⟨d1,d2,d3,d4,d5,d6⟩:=hs.pp.df _ i2 kn;obtain ⟨s2,s3,s4⟩:=hs.ss.df _ i2 kn;unfold a4U a3F;rw [hk1'];simp only [f6C,a0i,hs.lp,hs.ls,d2,d6,s2,s4];have hlo:=hs.lo;have hhi:=hs.hi;by_cases hk3:kind=3
  ·subst hk3
   obtain ⟨t0,l0,o0,o1,_⟩:=hE.h rfl;have m0:a.last.tmod 32=a.last%32:=Int.tmod_eq_emod_of_nonneg l0;have w1:IntKind.wrap .i64 (off-a.last%32)=off-a.last%32:=a0s (by omega) (by omega)
   have w2:IntKind.wrap .i64 (off-a.last%32+32)=off-a.last%32+32:=a0s (by omega) (by omega)
   have m1:(off-a.last%32+32).tmod 32=(off-a.last%32+32)%32:=Int.tmod_eq_emod_of_nonneg (by omega)
   have w3:IntKind.wrap .i64 (a.last+(off-a.last%32+32)%32)=a.last+(off-a.last%32+32)%32:=a0s (by omega) (by omega)
   simp only [beq_self_eq_true,f6B,m0,w1,w2,m1,w3,f6G,getD_some,a6q,a4W];rw [decide_eq_true (show a.last+(off-a.last%32+32)%32≥0 by omega)]
   simp only [f6B];refine ⟨_,_,rfl,?_,hs.put (t:=a.last+(off-a.last%32+32)%32) (by omega) (by omega)⟩
   rw [a16,if_pos rfl];rfl
  ·have hk2:kind=2:=by have:=hE.k;omega
   subst hk2;have hlen:=hE.t rfl;have e3:((2:Int)==3)=false:=by decide
   rw [e3];unfold b2b a8v;rw [b7B hN d1];have tb:=a5Z (a:=0) (by omega) d1.size
   by_cases ht:tmL 0 (a.fs slot.toNat)<0
   ·rw [decide_eq_true ht,decide_eq_false (by omega:¬tmL 0 (a.fs slot.toNat)≥0)]
    have e1:decide ((-1:Int)≥0)=false:=by decide
    refine ⟨p,s,?_,?_,hs.more⟩
    ·rfl
    ·rfl
   ·rw [decide_eq_false ht,decide_eq_true (by omega:tmL 0 (a.fs slot.toNat)≥0)]
    have h4:tmL 0 (a.fs slot.toNat)+4≤data.length:=by rw [hlen];omega
    generalize tmL 0 (a.fs slot.toNat)=tm at ht h4⊢;obtain ⟨s1,s2,s3⟩:=e1U (by omega) h4 he.b he.y
    have nb:=b7D s3 (a.bg slot.toNat) (by omega)
    have c0:decide ((0:Int)≤tm)=true:=decide_eq_true (by omega)
    have c1:decide (tm≤tm+4)=true:=decide_eq_true (by omega)
    have c2:decide (tm+4≤(data.length:Int))=true:=decide_eq_true (by omega)
    have q1:=a9z hN s3 (a.bg slot.toNat) (by omega)
    have q2:=d03 hN s3 (a.bg slot.toNat) (by omega)
    simp only [f6B,f6C,a0i,Bool.and_self,s1,c0,c1,c2,q1,q2,e1S,f6G,getD_some,b2a,a6p,Bool.not_true,a6q,a4W];generalize a7x ((data.take (tm+4).toNat).drop tm.toNat) (a.bg slot.toNat)=n at nb⊢;by_cases hn:n=4294967295
    ·subst hn
     exact ⟨p,s,rfl,rfl,hs.more⟩
    ·have e4:(n !=4294967295)=true:=by simpa using hn
     have e5:(n==4294967295)=false:=by simpa using hn
     rw [e4,e5];simp only [f6B,f6C];rw [decide_eq_true (show n≥0 by omega)]
     simp only [f6B];exact ⟨_,_,rfl,rfl,hs.put (by omega) (by omega)⟩
end
def a1q:Ab→List D→Int
 |_,[]=>0
 |a,x::r=>bif a7H a x !=0 then a7H a x else a1q (a0T a x) r
def e3X:Ab→List D→List Int
 |_,[]=>[]
 |a,x::r=>a1I a x::e3X (a0T a x) r
theorem e17 {p:D} (hp:(List.range 16).all (fun j=> !(p.cell (0+j*6)).toB&& !(a7y.cell (0+j*1)).toB)=true) (hl:(p.cell 96).toI= -1):Wk p a7y Ab.start 0:=by
 have h:∀j:Nat,j<16→(p.cell (0+j*6)).toB=false∧(a7y.cell (0+j*1)).toB=false:=fun j hj=>by
  have:=List.all_eq_true.1 hp j (List.mem_range.2 hj);simpa using this
 exact ⟨⟨fun j hj=>(h j hj).1,fun j hj hk=>absurd hk (by simp [Ab.start])⟩,⟨fun j hj=>(h j hj).2,fun j hj hk=>absurd hk (by simp [Ab.start])⟩,hl,by kernel_rfl,by decide,by decide⟩
theorem b5t:Wk (b0b N) a7y Ab.start 0:=e17 (by kernel_rfl) (by kernel_rfl)
def fileE (es:List D):Int:=bif decide ((es.length:Int)>50000) then 3 else a1q Ab.start es
section
variable {es:List D}
theorem c5O (hN:maxLen<N) (hes:∀x∈es,a3c x) (hl:es.length≤50000):∀(m:Nat) (i:Int) (p s:D) (a:Ab),0≤i→i≤es.length→(es.length-i).toNat<m→Wk p s a i→
  a8y N es es.length m i p (fun p=>some (Sum.inl p)) (fun p=>some (Sum.inr p))=some (bif a1q a (es.drop i.toNat) !=0 then .inl (a1q a (es.drop i.toNat)) else .inr ())∧
  a6F N es es.length m i s (fun p=>some (Sum.inl p)) (fun p=>some (Sum.inr p))=some (bif a1q a (es.drop i.toNat) !=0 then .inl (a1q a (es.drop i.toNat)) else .inr ()):=by
 intro m;induction m with
 |zero=>intro i p s a _ _ h;omega
 | succ m ih=>
  intro i p s a h0 h1 hm hs;unfold a8y a6F b2c b7j;by_cases hi:i<es.length
  ·have he:a3c _:=hes _ (a0R (fs:=es) h0 hi)
   rw [decide_eq_true hi,a0K h0 hi,e1T hN hs.sim he,d04 hN hs.sim he,f24 hs.pp hs.lp,a05 (.i 0) h0 hi];simp only [f6B,a0i,f6G,getD_some,a1q];cases hz:(a7H a (es.getD i.toNat (.i 0)) !=0) with
   |false=>
    have hz':a7H a (es.getD i.toNat (.i 0))=0:=by simpa using hz
    obtain ⟨p',s',q1,q2,hs'⟩:=c0f hN hs he h0 (by omega) hz'
    rw [q1,q2];simp only [f6C,f6G,f6B,getD_some,a0s (x:=i+1) (by omega) (by omega)]
    exact ih (i+1) p' s' _ (by omega) (by omega) (by omega) hs'
   |true=>
    simp only [f6B,hz];exact ⟨trivial,trivial⟩
  ·have:i=es.length:=by omega
   subst this;rw [decide_eq_false hi,a0U (by omega)]
   exact ⟨rfl,rfl⟩
theorem a2W (hN:maxLen<N) (hes:∀x∈es,a3c x):b1F N es=some (fileE es)∧b5g N es=some (fileE es):=by
 unfold fileE;by_cases hl:(es.length:Int)>50000
 ·unfold b1F c4H b5g c5C
  rw [decide_eq_true hl];exact ⟨rfl,rfl⟩
 ·have hm:maxLen=9223372036854775807:=rfl
  obtain ⟨q1,q2⟩:=c5O hN hes (by omega) N 0 (b0b N) a7y Ab.start (by omega) (by omega) (by omega) b5t
  have k1:b8F N es es.length 0 (b0b N)=_:=q1;have k2:b0E N es es.length 0 a7y=_:=q2;have k3:b1F N es=bnd (b8F N es es.length 0 (b0b N)) (fun y1=>bif a0O y1 then some (a01 y1) else bif (a0l y1).isSome then some 0 else none):=by
   unfold b1F c4H;rw [decide_eq_false hl];rfl
  have k4:b5g N es=bnd (b0E N es es.length 0 a7y) (fun y1=>bif a0O y1 then some (a01 y1) else bif (a0l y1).isSome then some 0 else none):=by
   unfold b5g c5C;rw [decide_eq_false hl];rfl
  rw [k3,k4,k1,k2,decide_eq_false hl];simp only [show (0:Int).toNat=0 from rfl,List.drop_zero,f6C];cases h:a1q Ab.start es !=0 with
  |true=>exact ⟨rfl,rfl⟩
  |false=>
   have:a1q Ab.start es=0:=by simpa using h
   rw [this];exact ⟨rfl,rfl⟩
theorem a2D {a:Ab} {x:D} {r:List D} (h:a1q a (x::r)=0):a7H a x=0∧a1q (a0T a x) r=0:=by
 simp only [a1q] at h;cases hz:(a7H a x !=0) with
 |true=>
  rw [hz] at h;simp only [f6B] at h;rw [h] at hz;simp at hz
 |false=>
  rw [hz] at h;exact ⟨by simpa using hz,h⟩
theorem a36 (h:fileE es=0):es.length≤50000∧a1q Ab.start es=0:=by
 unfold fileE at h;by_cases hl:(es.length:Int)>50000
 ·rw [decide_eq_true hl] at h;exact absurd (show (3:Int)=0 from h) (by decide)
 ·rw [decide_eq_false hl] at h;exact ⟨by omega,h⟩
end
end Go.Proofs.YtiegikkpipdleaaGreatDoor
namespace Go.Proofs.YtiegikkpipdleaaGreatDoor
open Go Go.AM
variable {N:Nat}
def bt (n i:Int):D:= .i (IntKind.wrap .u8 (n.fdiv (2^(min (IntKind.wrap .i64 (8*i)).toNat 64))))
def nb1 (n:Int):List D:=[bt n 0]
def nb2 (n:Int) (big:Bool):List D:=bif big then [bt n 1,bt n 0] else [bt n 0,bt n 1]
def nb4 (n:Int) (big:Bool):List D:=bif big then [bt n 3,bt n 2,bt n 1,bt n 0] else [bt n 0,bt n 1,bt n 2,bt n 3]
theorem fuel (hN:maxLen<N) (j:Nat) (hj:j≤1000):∃k,N=k+j:=by
 have hm:maxLen=9223372036854775807:=rfl;exact ⟨N-j,by omega⟩
theorem f25 (hN:maxLen<N) (n:Int) (big:Bool):a8I N n 1 big=some (nb1 n):=by
 obtain ⟨k,rfl⟩:=fuel hN 8 (by omega)
 cases big<;>kernel_rfl
theorem e2a (hN:maxLen<N) (n:Int) (big:Bool):a8I N n 2 big=some (nb2 n big):=by
 obtain ⟨k,rfl⟩:=fuel hN 8 (by omega)
 cases big<;>kernel_rfl
theorem d7S (hN:maxLen<N) (n:Int) (big:Bool):a8I N n 4 big=some (nb4 n big):=by
 obtain ⟨k,rfl⟩:=fuel hN 8 (by omega)
 cases big<;>kernel_rfl
theorem f43 (hN:maxLen<N) (n:Int) (big:Bool):a3b N n 1 big=some (nb1 n):=by
 obtain ⟨k,rfl⟩:=fuel hN 8 (by omega)
 cases big<;>kernel_rfl
theorem e7u (hN:maxLen<N) (n:Int) (big:Bool):a3b N n 2 big=some (nb2 n big):=by
 obtain ⟨k,rfl⟩:=fuel hN 8 (by omega)
 cases big<;>kernel_rfl
theorem e7v (hN:maxLen<N) (n:Int) (big:Bool):a3b N n 4 big=some (nb4 n big):=by
 obtain ⟨k,rfl⟩:=fuel hN 8 (by omega)
 cases big<;>kernel_rfl
def u8 (n:Int):D:= .i (IntKind.wrap .u8 n)
def a7z:List D→List D
 | []=>[]
 |f::r=>u8 (fN f)::u8 (fS f)::u8 (fT f)::a7z r
def c3j (slot:Int) (d:D):List D:=
 [u8 (64+slot),.i (bif (d.cell 0).toB then 1 else 0)]++nb2 (d.cell 1).toI (d.cell 0).toB++[u8 ((d.cell 2).items.length:Int)]++a7z (d.cell 2).items
def d8C (kind slot off:Int) (ds data:List D):List D:=
 bif kind==2 then u8 slot::data else bif kind==3 then u8 (128+32*slot+off)::data else c3j slot (ds.getD 0 (.i 0))
theorem b5u:∀fs:List D,(a7z fs).length=3*fs.length
 | []=>rfl
 |f::r=>by simp only [a7z,f6O,b5u r];omega
theorem a3P (n:Int) (big:Bool):(nb2 n big).length=2:=by cases big<;>rfl
theorem a0t (n:Int) (big:Bool):(nb4 n big).length=4:=by cases big<;>rfl
theorem a9B (slot:Int) (d:D):(c3j slot d).length=5+3*(d.cell 2).items.length:=by
 unfold c3j;simp only [f6N,f6O,List.length_nil,a3P,b5u]
theorem e2b (hN:maxLen<N) {fs l:List D} (hf:fs.length≤255) (hl:l.length≤100):∃b,c7e N fs fs.length 0 false l=some (b,l++a7z fs):=by
 have hm:maxLen=9223372036854775807:=rfl;have key:=a4t (A:=Int×Bool×LD) (X:=Option (Bool×LD)) (S:=fun x kr=>a8W N fs fs.length x.1 x.2.1 x.2.2 (fun a b c=>kr (a,b,c)) (fun p=>some p)) (L:=fun m x=>a8X N fs fs.length m x.1 x.2.1 x.2.2 (fun p=>some p)) (fun m x=>rfl)
  (fun x r=>∃b,r=some (b,x.2.2++a7z (fs.drop x.1.toNat)))
  (fun x=>0≤x.1∧x.1≤fs.length∧(x.2.2.length:Int)≤100+3*x.1) (fun x=>(fs.length-x.1).toNat) ?_ N (0,false,l) ⟨by show (0:Int)≤0;omega,by show (0:Int)≤_;omega,by simp;omega⟩ (by simp;omega)
 ·obtain ⟨b,q⟩:=key
  exact ⟨b,q⟩
 ·rintro ⟨w,b,acc⟩ kr ⟨h2,h3,h4⟩ ih
  simp only at h2 h3 h4 ih⊢;unfold a8W;by_cases hw:w<fs.length
  ·have r1:decide ((acc.length+3)*1≤a0L)=true:=decide_eq_true (by unfold a0L;omega)
   have r2:decide (acc.length+3≤a0d)=true:=decide_eq_true (by unfold a0d;omega)
   rw [decide_eq_true hw,a0K h2 hw,a05 (.i 0) h2 hw];simp only [f6B,a0i,r1,r2,Bool.and_self,a0s (x:=w+1) (by omega) (by omega)]
   obtain ⟨b',q⟩:=ih (w+1,false,acc++[(.i (IntKind.wrap .u8 ((fs.getD w.toNat (.i 0)).cell 0).toI)),(.i (IntKind.wrap .u8 ((fs.getD w.toNat (.i 0)).cell 1).toI)),(.i (IntKind.wrap .u8 ((fs.getD w.toNat (.i 0)).cell 2).toI))]) ⟨by simp only;omega,by simp only;omega,by simp;omega⟩ (by simp only;omega)
   refine ⟨b',q.trans ?_⟩;simp only [a7z,f6P];rfl
  ·have:w=fs.length:=by omega
   subst this;rw [decide_eq_false hw,a0U (by omega)]
   exact ⟨b,by simp [a7z]⟩
theorem d08: @a8X N= @b0u N:=by kernel_rfl
theorem P65 (hN:maxLen<N) {kind slot off:Int} {ds data:List D} (hs0:0≤slot) (hs1:slot≤15) (ho0:0≤off) (ho1:off≤31) (hk:1≤kind∧kind≤3) (hd:kind=1→ds.length=1∧((ds.getD 0 (.i 0)).cell 2).items.length≤255) (hl:data.length≤100000):
  ∃nl,c44 N kind slot off ds data=some (nl,d8C kind slot off ds data)∧c5u N kind slot off ds data=some (nl,d8C kind slot off ds data):=by
 have r1:decide ((1+data.length)*1≤a0L)=true:=decide_eq_true (by unfold a0L;omega)
 have r2:decide (1+data.length≤a0d)=true:=decide_eq_true (by unfold a0d;omega)
 unfold c44 d5L c5u d7t d8C;rw [r1,r2];by_cases h2:kind=2
 ·subst h2;exact ⟨_,rfl,rfl⟩
 ·by_cases h3:kind=3
  ·subst h3
   rw [a0s (x:=32*slot) (by omega) (by omega),a0s (x:=128+32*slot) (by omega) (by omega),a0s (x:=128+32*slot+off) (by omega) (by omega)]
   exact ⟨_,rfl,rfl⟩
  ·have h1:kind=1:=by omega
   subst h1;obtain ⟨d1,d2⟩:=hd rfl;have i0:inB 0 ds.length=true:=a0K (by omega) (by omega)
   generalize ds.getD 0 (.i 0)=d at d2⊢;have e29:b2v N (d.cell 0).toB [.i (IntKind.wrap .u8 (IntKind.wrap .i64 (64+slot))),.i 0]=some [u8 (64+slot),.i (bif (d.cell 0).toB then 1 else 0)]:=by
    rw [a0s (x:=64+slot) (by omega) (by omega)]
    cases (d.cell 0).toB<;>rfl
   have e29':b69 N (d.cell 0).toB [.i (IntKind.wrap .u8 (IntKind.wrap .i64 (64+slot))),.i 0]=some [u8 (64+slot),.i (bif (d.cell 0).toB then 1 else 0)]:=by
    rw [a0s (x:=64+slot) (by omega) (by omega)]
    cases (d.cell 0).toB<;>rfl
   have l2:=a3P (d.cell 1).toI (d.cell 0).toB;have r3:decide (([u8 (64+slot),.i (bif (d.cell 0).toB then 1 else 0)].length+(nb2 (d.cell 1).toI (d.cell 0).toB).length)*1≤a0L)=true:=decide_eq_true (by rw [l2];unfold a0L;simp)
   have r4:decide ([u8 (64+slot),.i (bif (d.cell 0).toB then 1 else 0)].length+(nb2 (d.cell 1).toI (d.cell 0).toB).length≤a0d)=true:=decide_eq_true (by rw [l2];unfold a0d;simp)
   have r5:decide ((([u8 (64+slot),.i (bif (d.cell 0).toB then 1 else 0)]++nb2 (d.cell 1).toI (d.cell 0).toB).length+1)*1≤a0L)=true:=decide_eq_true (by rw [f6N,l2];unfold a0L;simp)
   have r6:decide (([u8 (64+slot),.i (bif (d.cell 0).toB then 1 else 0)]++nb2 (d.cell 1).toI (d.cell 0).toB).length+1≤a0d)=true:=decide_eq_true (by rw [f6N,l2];unfold a0d;simp)
   obtain ⟨b,q⟩:=e2b hN (fs:=(d.cell 2).items) (l:=[u8 (64+slot),.i (bif (d.cell 0).toB then 1 else 0)]++nb2 (d.cell 1).toI (d.cell 0).toB++[.i (IntKind.wrap .u8 ((d.cell 2).items.length:Int))]) d2 (by simp only [f6N,l2];simp)
   have q':b0v N (d.cell 2).items ((d.cell 2).items.length:Int) 0 false ([u8 (64+slot),.i (bif (d.cell 0).toB then 1 else 0)]++nb2 (d.cell 1).toI (d.cell 0).toB++[.i (IntKind.wrap .u8 ((d.cell 2).items.length:Int))])=some (b,[u8 (64+slot),.i (bif (d.cell 0).toB then 1 else 0)]++nb2 (d.cell 1).toI (d.cell 0).toB++[.i (IntKind.wrap .u8 ((d.cell 2).items.length:Int))]++a7z (d.cell 2).items):=by
    unfold b0v;rw [←d08];exact q
   have c2:((1:Int)==2)=false:=rfl;have c3:((1:Int)==3)=false:=rfl;refine ⟨b,?_,?_⟩
   ·simp only [c2,c3,i0,e29,e2a hN,f6B,f6C,a0i,f6G,getD_some,r3,r4,r5,r6,Bool.and_self,q]
    rfl
   ·simp only [c2,c3,i0,e29',e7u hN,f6B,f6C,a0i,f6G,getD_some,r3,r4,r5,r6,Bool.and_self,q']
    rfl
theorem b1s {a:Ab} {kind slot off:Int} {ds data:List D} (hf:a.kn slot.toNat=true→a1P (a.fs slot.toNat)) (h:c7J a kind slot off ds data=0):
  (1≤kind∧kind≤3)∧(0≤slot∧slot≤15)∧(0≤off∧off≤31)∧(kind=1→ds.length=1∧((ds.getD 0 (.i 0)).cell 2).items.length≤255)∧data.length≤65025:=by
 have hE:=a11 h;have hin:inI slot 0 (bif kind==3 then 3 else 15)=true∧inI off 0 (bif kind==3 then 31 else 0)=true∧(kind=1→data.length=0):=by
  unfold c7J b5H at h;cases h1:inI kind 1 3 with
  |false=>rw [h1] at h;exact absurd (show (7:Int)=0 from h) (by decide)
  |true=>
  cases h2:inI slot 0 (bif kind==3 then 3 else 15) with
  |false=>rw [h1,h2] at h;exact absurd (show (9:Int)=0 from h) (by decide)
  |true=>
  cases h3:inI off 0 (bif kind==3 then 31 else 0) with
  |false=>rw [h1,h2,h3] at h;exact absurd (show (9:Int)=0 from h) (by decide)
  |true=>
   refine ⟨rfl,rfl,fun hk=> ?_⟩
   subst hk;rw [h1,h2,h3] at h;cases h4:((ds.length:Int) !=1)||decide ((data.length:Int)>0) with
   |true=>simp only [Bool.not_true,f6C,Bool.or_self,beq_self_eq_true,f6B,h4] at h;exact absurd h (by decide)
   |false=>simp at h4;simp [h4.2]
 obtain ⟨n1,n2,n3⟩:=hin;have m1:0≤slot∧slot≤15:=by cases hk:kind==3<;>rw [hk] at n1<;>unfold inI at n1<;>simp at n1<;>omega
 have m2:0≤off∧off≤31:=by cases hk:kind==3<;>rw [hk] at n2<;>unfold inI at n2<;>simp at n2<;>omega
 refine ⟨hE.k,m1,m2,fun hk=>⟨(hE.d hk).1,(c5M (hE.d hk).2).len⟩,?_⟩
 by_cases hk:kind=1
 ·rw [n3 hk];omega
 ·have:=hf (hE.n hk).1
  have sb:=a3O this.size;have:=this.len;by_cases hk3:kind=3
  ·have:=(hE.h hk3).2.2.2.2;omega
  ·have:=hE.t (by have:=hE.k;omega);omega
def OkA (a:Ab):Prop:=∀j,a.kn j=true→a1P (a.fs j)
theorem OkA.step {a:Ab} (h:OkA a) {x:D} (hx:a7H a x=0):OkA (a0T a x):=by
 unfold a0T b5s;cases hk:kX x==1 with
 |true=>
  have hE:=a11 hx;have hf:=c5M (hE.d (by simpa using hk)).2
  intro j hj;simp only [f6B,upA] at hj⊢;by_cases e:j=(sX x).toNat
  ·simp only [if_pos e];exact hf
  ·simp only [if_neg e] at hj⊢;exact h j hj
 |false=>exact h
theorem OkA.start:OkA Ab.start:=fun j hj=>by simp [Ab.start] at hj
abbrev a5l (x:D):List D:=d8C (kX x) (sX x) (oX x) (dX x) (bX x)
def a0C:List D→List D
 | []=>[]
 |x::r=>a5l x++a0C r
theorem b2V {a:Ab} (ha:OkA a) {x:D} (h:a7H a x=0):(a5l x).length≤70000∧1≤(a5l x).length:=by
 obtain ⟨h1,h2,h3,h4,h5⟩:=b1s (ha _) h;unfold a5l d8C;have:kX x=1∨kX x=2∨kX x=3:=by omega
 rcases this with e|e|e
 ·have:=(h4 e).2
  rw [e,show ((1:Int)==2)=false from rfl,show ((1:Int)==3)=false from rfl];simp only [f6C,a9B];omega
 ·rw [e,show ((2:Int)==2)=true from rfl]
  simp only [f6B,f6O];omega
 ·rw [e,show ((3:Int)==2)=false from rfl,show ((3:Int)==3)=true from rfl]
  simp only [f6B,f6C,f6O];omega
section
variable {es:List D}
theorem b7E (hN:maxLen<N) (hes:∀x∈es,a3c x) (hl:es.length≤50000):∀(m:Nat) (i:Int) (a:Ab) (b:Bool) (acc:List D),OkA a→0≤i→i≤es.length→(es.length-i).toNat<m→a1q a (es.drop i.toNat)=0→(acc.length:Int)≤70000*i→
  ∃b',b4J N es es.length m i b acc (fun p=>some p)=some (b',acc++a0C (es.drop i.toNat))∧a6G N es es.length m i b acc (fun p=>some p)=some (b',acc++a0C (es.drop i.toNat)):=by
 intro m;induction m with
 |zero=>intro i a b acc _ _ _ h;omega
 | succ m ih=>
  intro i a b acc ha h0 h1 hm he hacc;unfold b4J a6G b9r b7k;by_cases hi:i<es.length
  ·rw [a05 (.i 0) h0 hi] at he⊢
   obtain ⟨e1,e2⟩:=a2D he;obtain ⟨h1',h2,h3,h4,h5⟩:=b1s (ha _) e1;obtain ⟨nl,q1,q2⟩:=P65 (N:=N) (kind:=kX (es.getD i.toNat (.i 0))) (slot:=sX (es.getD i.toNat (.i 0))) (off:=oX (es.getD i.toNat (.i 0))) (ds:=dX (es.getD i.toNat (.i 0))) (data:=bX (es.getD i.toNat (.i 0))) hN h2.1 h2.2 h3.1 h3.2 h1' h4 (by omega)
   have hb:=b2V ha e1;have r1:decide ((acc.length+(a5l (es.getD i.toNat (.i 0))).length)*1≤a0L)=true:=decide_eq_true (by unfold a0L;omega)
   have r2:decide (acc.length+(a5l (es.getD i.toNat (.i 0))).length≤a0d)=true:=decide_eq_true (by unfold a0d;omega)
   rw [decide_eq_true hi,a0K h0 hi];simp only [f6B,a0i,q1,q2,f6G,getD_some,r1,r2,Bool.and_self,a0s (x:=i+1) (by omega) (by omega)]
   obtain ⟨b',z1,z2⟩:=ih (i+1) _ ((a5l (es.getD i.toNat (.i 0))).isEmpty&&b) (acc++a5l (es.getD i.toNat (.i 0))) (ha.step e1) (by omega) (by omega) (by omega) e2 (by simp only [f6N];omega)
   refine ⟨b',?_,?_⟩
   ·refine z1.trans ?_
    rw [f6P];rfl
   ·refine z2.trans ?_
    rw [f6P];rfl
  ·have:i=es.length:=by omega
   subst this;rw [decide_eq_false hi,a0U (by omega)]
   exact ⟨b,by simp [a0C],by simp [a0C]⟩
theorem c0g:∀{es:List D} {a:Ab},OkA a→a1q a es=0→(a0C es).length≤70000*es.length
 | [],_,_,_=>by simp [a0C]
 |x::r,a,ha,h=>by
  obtain ⟨e1,e2⟩:=a2D h;have:=c0g (ha.step e1) e2;have:=b2V ha e1;simp only [a0C,f6N,f6O];omega
end
def a1i (es:List D):List D:=
 [.i 72,.i 65,.i 82,.i 49]++nb4 ((a0C es).length:Int) true++a0C es
def a2j (es:List D):List D:=a1i es++nb4 (b1q 1 (a1i es)) true
def a3e (es:List D):Int:=bif fileE es !=0 then fileE es else bif decide (((a2j es).length:Int)>4000000) then 3 else 0
end Go.Proofs.YtiegikkpipdleaaGreatDoor
namespace Go.Proofs.YtiegikkpipdleaaGreatDoor
open Go Go.AM
variable {N:Nat}
def a9I:List D→List D
 | []=>[]
 |x::r=>x.items++a9I r
section
variable {ps:List D}
theorem c3k {w:Int} (h0:0≤w) (h1:w<ps.length):(a9I (ps.drop w.toNat)).length=(ps.getD w.toNat (.i 0)).items.length+(a9I (ps.drop (w+1).toNat)).length:=by
 rw [a05 (.i 0) h0 h1];simp [a9I]
theorem c3l (hN:maxLen<N) (hp:ps.length≤1000) (hc:(a9I ps).length≤10000000000):∃b,d5X N ps=some (b,a9I ps):=by
 have hm:maxLen=9223372036854775807:=rfl;have k1:d5S N ps ps.length 0 0=some ((a9I ps).length:Int):=by
  have key:=a2w (A:=Int×Int) (X:=Option Int) (S:=fun x kr=>b4F N ps ps.length x.1 x.2 (fun a b=>kr (a,b)) (fun p=>some p)) (L:=fun m x=>b9k N ps ps.length m x.1 x.2 (fun p=>some p)) (fun m x=>rfl)
   (fun x=>some (x.1+((a9I (ps.drop x.2.toNat)).length:Int))) (fun x=>0≤x.2∧x.2≤ps.length∧0≤x.1∧x.1+((a9I (ps.drop x.2.toNat)).length:Int)≤10000000000) (fun x=>(ps.length-x.2).toNat) ?_ N (0,0) ⟨by decide,by show (0:Int)≤_;omega,by decide,by simp;omega⟩ (by simp;omega)
  ·refine Eq.trans key ?_;simp
  ·rintro ⟨a,w⟩ kr ⟨h0,h1,h2,h3⟩ ih
   simp only at h0 h1 h2 h3 ih⊢;unfold b4F;by_cases hw:w<ps.length
   ·have:=c3k h0 hw
    rw [decide_eq_true hw,a0K h0 hw,a0s (x:=a+_) (by omega) (by omega),a0s (x:=w+1) (by omega) (by omega)]
    simp only [f6B,a0i];rw [decide_eq_false (show¬a+((ps.getD w.toNat (.i 0)).items.length:Int)<0 by omega)]
    simp only [f6C];rw [ih (_,w+1) ⟨by simp only;omega,by simp only;omega,by simp only;omega,by simp only;omega⟩ (by simp only;omega)]
    simp only;congr 1;omega
   ·have:w=ps.length:=by omega
    subst this;rw [decide_eq_false hw,a0U (by omega)]
    simp [a9I]
 have k3:∀b0:Bool,∃b,b9m N ps ps.length 0 b0 []=some (b,a9I ps):=by
  intro b0;have key:=a4t (A:=Int×Bool×LD) (X:=Option (Bool×LD)) (S:=fun x kr=>a83 N ps ps.length x.1 x.2.1 x.2.2 (fun a b c=>kr (a,b,c)) (fun p=>some p)) (L:=fun m x=>b2y N ps ps.length m x.1 x.2.1 x.2.2 (fun p=>some p)) (fun m x=>rfl)
   (fun x r=>∃b,r=some (b,x.2.2++a9I (ps.drop x.1.toNat))) (fun x=>0≤x.1∧x.1≤ps.length∧(x.2.2.length:Int)+((a9I (ps.drop x.1.toNat)).length:Int)≤10000000000) (fun x=>(ps.length-x.1).toNat) ?_ N (0,b0,[]) ⟨by show (0:Int)≤0;omega,by show (0:Int)≤_;omega,by simp;omega⟩ (by simp;omega)
  ·obtain ⟨b,q⟩:=key;exact ⟨b,q⟩
  ·rintro ⟨w,b,acc⟩ kr ⟨h0,h1,h2⟩ ih
   simp only at h0 h1 h2 ih⊢;unfold a83;by_cases hw:w<ps.length
   ·have:=c3k h0 hw
    have r1:decide ((acc.length+(ps.getD w.toNat (.i 0)).items.length)*1≤a0L)=true:=decide_eq_true (by unfold a0L;omega)
    have r2:decide (acc.length+(ps.getD w.toNat (.i 0)).items.length≤a0d)=true:=decide_eq_true (by unfold a0d;omega)
    rw [decide_eq_true hw,a0K h0 hw,r1,r2,a0s (x:=w+1) (by omega) (by omega),a05 (.i 0) h0 hw]
    simp only [f6B,Bool.and_self];obtain ⟨b',q⟩:=ih (w+1,(ps.getD w.toNat (.i 0)).items.isEmpty&&b,acc++(ps.getD w.toNat (.i 0)).items) ⟨by simp only;omega,by simp only;omega,by simp only [f6N];omega⟩ (by simp only;omega)
    exact ⟨b',q.trans (by simp [a9I])⟩
   ·have:w=ps.length:=by omega
    subst this;rw [decide_eq_false hw,a0U (by omega)]
    exact ⟨b,by simp [a9I]⟩
 have k2:∃r,a82 N ((a9I ps).length:Int)=some r:=by
  unfold a82 a6v e0S c98 b2x a6u;rw [decide_eq_false (show¬((a9I ps).length:Int)<0 by omega),Int.sub_zero,a0s (by omega) (by omega)]
  by_cases h0:((a9I ps).length:Int)>0
  ·have r1:decide (((a9I ps).length:Int).toNat*1≤a0L)=true:=decide_eq_true (by unfold a0L;omega)
   have r2:decide (((a9I ps).length:Int).toNat≤a0d)=true:=decide_eq_true (by unfold a0d;omega)
   rw [decide_eq_true h0,r1,r2,decide_eq_true (show (0:Int)≤((a9I ps).length:Int) by omega),decide_eq_true (show (0:Int)≤((List.replicate ((a9I ps).length:Int).toNat (D.i 0)).length:Int) by omega)]
   exact ⟨_,rfl⟩
  ·rw [decide_eq_false h0]
   exact ⟨_,rfl⟩
 obtain ⟨r,k2⟩:=k2;unfold d5X d0c;rw [k1];simp only [a0i,f6G,f6B,getD_some,k2];cases r with
 |inl b0=>
  obtain ⟨b,q⟩:=k3 b0;exact ⟨b,by simp [a0O,a01,q]⟩
 |inr u=>
  obtain ⟨b,q⟩:=k3 true;exact ⟨b,by simp [a0O,a0l,q]⟩
end
theorem c5P (n i:Int):0≤(bt n i).toI∧(bt n i).toI≤255:=by
 unfold bt D.toI;simp only [IntKind.wrap_u8];omega
theorem c5Q (n:Int):0≤(u8 n).toI∧(u8 n).toI≤255:=by
 unfold u8 D.toI;simp only [IntKind.wrap_u8];omega
theorem a0n.append {a b:List D} (h1:a0n a) (h2:a0n b):a0n (a++b):=fun x hx=>by
 rcases List.mem_append.1 hx with h|h
 ·exact h1 x h
 ·exact h2 x h
theorem a0n.cons {x:D} {b:List D} (h1:0≤x.toI∧x.toI≤255) (h2:a0n b):a0n (x::b):=fun y hy=>by
 rcases f6M.1 hy with rfl|h
 ·exact h1
 ·exact h2 y h
theorem a0n.nil:a0n []:=fun x hx=>by simp at hx
theorem c3m (n:Int) (big:Bool):a0n (nb4 n big):=by
 cases big<;>exact .cons (c5P _ _) (.cons (c5P _ _) (.cons (c5P _ _) (.cons (c5P _ _) .nil)))
theorem e3Y (n:Int) (big:Bool):a0n (nb2 n big):=by
 cases big<;>exact .cons (c5P _ _) (.cons (c5P _ _) .nil)
theorem c7L:∀fs:List D,a0n (a7z fs)
 | []=> .nil
 |f::r=> .cons (c5Q _) (.cons (c5Q _) (.cons (c5Q _) (c7L r)))
theorem e7w (slot:Int) (d:D):a0n (c3j slot d):=by
 unfold c3j;refine a0n.append (a0n.append (a0n.append (.cons (c5Q _) (.cons ?_ .nil)) (e3Y _ _)) (.cons (c5Q _) .nil)) (c7L _);cases (d.cell 0).toB<;>exact ⟨by decide,by decide⟩
theorem e7x {x:D} (h:a3c x):a0n (a5l x):=by
 unfold a5l d8C;cases kX x==2 with
 |true=>exact .cons (c5Q _) h.y
 |false=>
  cases kX x==3 with
  |true=>exact .cons (c5Q _) h.y
  |false=>exact e7w _ _
theorem c0h:∀{es:List D},(∀x∈es,a3c x)→a0n (a0C es)
 | [],_=> .nil
 |x::r,h=>a0n.append (e7x (h x (by simp))) (c0h fun y hy=>h y (by simp [hy]))
section
variable {es:List D}
theorem a9C (h:∀x∈es,a3c x):a0n (a1i es):=
 a0n.append (a0n.append (.cons ⟨by decide,by decide⟩ (.cons ⟨by decide,by decide⟩ (.cons ⟨by decide,by decide⟩ (.cons ⟨by decide,by decide⟩ .nil)))) (c3m _ _)) (c0h h)
theorem a3Q:(a1i es).length=8+(a0C es).length:=by
 unfold a1i;simp only [f6N,a0t,f6O,List.length_nil]
theorem a49:(a2j es).length=12+(a0C es).length:=by
 unfold a2j;rw [f6N,a3Q,a0t];omega
def c3n (es:List D):List D:=bif a3e es !=0 then [] else a2j es
theorem e2c (hN:maxLen<N) (hes:∀x∈es,a3c x):∃nl nl',b61 N es=some (nl,c3n es,a3e es)∧d7D N es=some (nl',c3n es,a3e es):=by
 have hm:maxLen=9223372036854775807:=rfl;obtain ⟨c1,c2⟩:=a2W (N:=N) hN hes;unfold b61 e6A d7D d7C c3n a3e;rw [c1,c2];simp only [a0i,f6G,f6B,getD_some];cases hc:fileE es !=0 with
 |true=>simp only [f6B,hc];exact ⟨_,_,rfl,rfl⟩
 | false=>
  obtain ⟨hl,he⟩:=a36 (by simpa using hc)
  obtain ⟨b,z1,z2⟩:=b7E hN hes hl N 0 Ab.start true [] OkA.start (by omega) (by omega) (by omega) (by simpa using he) (by simp)
  have y1:b4K N es es.length 0 true []=some (b,a0C es):=by unfold b4K;simpa using z1
  have y2:b0F N es es.length 0 true []=some (b,a0C es):=by unfold b0F;simpa using z2
  have hbl:=c0g OkA.start he;have l4:=a0t ((a0C es).length:Int) true;obtain ⟨b3,k3⟩:=c3l (N:=N) (ps:=[.l false [.i 72,.i 65,.i 82,.i 49],.l false (nb4 ((a0C es).length:Int) true),.l b (a0C es)]) hN (by simp) (by simp only [a9I,D.items,f6N,List.length_nil,f6O,l4];omega)
  have ec:a9I [.l false [.i 72,.i 65,.i 82,.i 49],.l false (nb4 ((a0C es).length:Int) true),.l b (a0C es)]=a1i es:=by
   simp only [a9I,D.items,a1i,f6P,List.append_nil]
  rw [ec] at k3;have fl:=a3Q (es:=es);have hs:=c0d hN (a9C hes) (by omega)
  have hs':=d06 hN (a9C hes) (by omega)
  have al:=a49 (es:=es);have l5:=a0t (b1q 1 (a1i es)) true;have r1:decide (((a1i es).length+(nb4 (b1q 1 (a1i es)) true).length)*1≤a0L)=true:=decide_eq_true (by unfold a0L;omega)
  have r2:decide ((a1i es).length+(nb4 (b1q 1 (a1i es)) true).length≤a0d)=true:=decide_eq_true (by unfold a0d;omega)
  have r3:decide ((4+(nb4 ((a0C es).length:Int) true).length)*1≤a0L)=true:=decide_eq_true (by unfold a0L;omega)
  have r4:decide (4+(nb4 ((a0C es).length:Int) true).length≤a0d)=true:=decide_eq_true (by unfold a0d;omega)
  have r5:decide (((([.i 72,.i 65,.i 82,.i 49]:List D)++nb4 ((a0C es).length:Int) true).length+(a0C es).length)*1≤a0L)=true:=decide_eq_true (by simp only [f6N,l4,f6O,List.length_nil];unfold a0L;omega)
  have r6:decide ((([.i 72,.i 65,.i 82,.i 49]:List D)++nb4 ((a0C es).length:Int) true).length+(a0C es).length≤a0d)=true:=decide_eq_true (by simp only [f6N,l4,f6O,List.length_nil];unfold a0d;omega)
  have ef:[.i 72,.i 65,.i 82,.i 49]++nb4 ((a0C es).length:Int) true++a0C es=a1i es:=rfl;have ea:a1i es++nb4 (b1q 1 (a1i es)) true=a2j es:=rfl;simp only [f6C,y1,y2,f6G,f6B,getD_some,d7S hN,e7v hN,k3,r3,r4,r5,r6,ef,hs,hs',r1,r2,Bool.and_self,ea];cases h4:decide (((a2j es).length:Int)>4000000) with
  |true=>exact ⟨_,_,rfl,rfl⟩
  |false=>exact ⟨_,_,rfl,rfl⟩
end
end Go.Proofs.YtiegikkpipdleaaGreatDoor
namespace Go.Proofs.YtiegikkpipdleaaGreatDoor
open Go Go.AM
def a3o (i:Int):Prop:= -9223372036854775808≤i∧i≤9223372036854775807
def d8D (f:D):Prop:=∃a b c,f= .a [.i a,.i b,.i c]∧a3o a∧a3o b∧a3o c
def e7y (d:D):Prop:=∃big g nl fs,d= .a [.b big,.i g,.l nl fs]∧a3o g∧(nl=true→fs=[])∧fs.length≤maxLen∧ ∀f∈fs,d8D f
def e7z (x:D):Prop:=∃n,x= .i n∧0≤n∧n≤255
def c5R (x:D):Prop:=∃kind slot off dn ds bn data,x= .a [.i kind,.i slot,.i off,.l dn ds,.l bn data]∧a3o kind∧a3o slot∧a3o off∧(dn=true→ds=[])∧(bn=true→data=[])∧ds.length≤maxLen∧data.length≤maxLen∧(∀d∈ds,e7y d)∧ ∀y∈data,e7z y
theorem c5R.entD {x:D} (h:c5R x):a3c x:=by
 obtain ⟨a,b,c,dn,ds,bn,data,rfl,_,_,_,n1,m1,n2,m2,n3,m3⟩:=h;refine ⟨n2,m2,fun d hd=> ?_,fun y hy=> ?_⟩
 ·obtain ⟨big,g,nl,fs,rfl,_,_,hl,_⟩:=n3 d hd
  exact hl
 ·obtain ⟨n,rfl,h0,h1⟩:=m3 y hy
  exact ⟨h0,h1⟩
theorem e7A:kinds Tryz.prog 3=[.int .i64]:=by kernel_rfl
variable {N:Nat}
def timesD (a:Ab) (es:List D):List D:=(e3X a es).map .i
theorem a5a {a:Ab} {x:D} {r:List D}:timesD a (x::r)= .i (a1I a x)::timesD (a0T a x) r:=rfl
def f26 (a:Ab) (x d:D):Prop:=(kX x=1→d.items=[])∧(kX x≠1→ ∃nl,d.items=[.a [.b (a.bg (sX x).toNat),.i (a.gl (sX x).toNat),.l nl (a.fs (sX x).toNat)]])
def PlL:Ab→List D→List D→Prop
 |_,[],[]=>True
 |a,x::r,d::ds=>f26 a x d∧PlL (a0T a x) r ds
 |_,_,_=>False
theorem PlL.len:∀{es ds:List D} {a:Ab},PlL a es ds→ds.length=es.length
 | [],[],_,_=>rfl
 |x::r,d::ds,a,h=>by simp [PlL.len h.2]
 | [],_::_,_,h=>h.elim
 |_::_,[],_,h=>h.elim
section
variable {es:List D}
end
end Go.Proofs.YtiegikkpipdleaaGreatDoor
namespace Go.Proofs.YtiegikkpipdleaaGreatDoor
open Go Go.AM
variable {N:Nat}
def b1I (d:D):D:= .a [.b (d.cell 0).toB,.i (d.cell 1).toI,.l false (d.cell 2).items]
structure EqE (x y:D):Prop where
 k:kX x=kX y
 s:sX x=sX y
 o:oX x=oX y
 d:(dX x).map b1I=(dX y).map b1I
 b:bX x=bX y
theorem EqE.symm {x y:D} (h:EqE x y):EqE y x:=⟨h.k.symm,h.s.symm,h.o.symm,h.d.symm,h.b.symm⟩
theorem c0i {d d':D} (h:b1I d=b1I d'):(d.cell 0).toB=(d'.cell 0).toB∧(d.cell 1).toI=(d'.cell 1).toI∧(d.cell 2).items=(d'.cell 2).items:=by
 unfold b1I at h;simp only [D.a.injEq,List.cons.injEq,D.b.injEq,D.i.injEq,D.l.injEq,and_true,true_and] at h;exact h
theorem b5v {ds ds':List D} (h:ds.map b1I=ds'.map b1I):ds.length=ds'.length∧((ds.getD 0 (.i 0)).cell 0).toB=((ds'.getD 0 (.i 0)).cell 0).toB∧((ds.getD 0 (.i 0)).cell 1).toI=((ds'.getD 0 (.i 0)).cell 1).toI∧((ds.getD 0 (.i 0)).cell 2).items=((ds'.getD 0 (.i 0)).cell 2).items:=by
 have hl:ds.length=ds'.length:=by have:=congrArg List.length h;simpa using this
 refine ⟨hl,?_⟩;match ds,ds',h,hl with
 | [],[],_,_=>exact ⟨rfl,rfl,rfl⟩
 |d::_,d'::_,h,_=>
  simp only [List.map_cons,List.cons.injEq] at h;exact c0i h.1
 | [],_::_,_,hl=>simp at hl
 |_::_,[],_,hl=>simp at hl
theorem EqE.err {x y:D} (h:EqE x y) (a:Ab):a7H a x=a7H a y:=by
 obtain ⟨l,d0,d1,d2⟩:=b5v h.d;unfold a7H c7J b5H;rw [h.k,h.s,h.o,h.b,l,d1,d2]
theorem EqE.time {x y:D} (h:EqE x y) (a:Ab):a1I a x=a1I a y:=by
 unfold a1I;rw [h.k,h.s,h.o,h.b]
theorem EqE.step {x y:D} (h:EqE x y) (a:Ab):a0T a x=a0T a y:=by
 obtain ⟨l,d0,d1,d2⟩:=b5v h.d;unfold a0T b5s;rw [h.k,h.s,h.o,h.b,d0,d1,d2]
theorem All2.errs {xs ys:List D} (h:All2 EqE xs ys) (a:Ab):a1q a xs=a1q a ys:=by
 induction xs generalizing ys a with
 |nil=>cases ys with
  |nil=>rfl
  |cons=>exact h.elim
 |cons x xs ih=>cases ys with
  |nil=>exact h.elim
  |cons y ys=>simp only [a1q];rw [h.1.err,h.1.step,ih h.2]
theorem All2.timesD {xs ys:List D} (h:All2 EqE xs ys) (a:Ab):Proofs.YtiegikkpipdleaaGreatDoor.timesD a xs=Proofs.YtiegikkpipdleaaGreatDoor.timesD a ys:=by
 induction xs generalizing ys a with
 |nil=>cases ys with
  |nil=>rfl
  |cons=>exact h.elim
 |cons x xs ih=>cases ys with
  |nil=>exact h.elim
  |cons y ys=>rw [a5a,a5a,h.1.time,h.1.step,ih h.2]
theorem All2.fileE {xs ys:List D} (h:All2 EqE xs ys):Proofs.YtiegikkpipdleaaGreatDoor.fileE xs=Proofs.YtiegikkpipdleaaGreatDoor.fileE ys:=by
 unfold Proofs.YtiegikkpipdleaaGreatDoor.fileE;rw [AM.All2.length h,All2.errs h]
theorem e2d {xs ys:List D} (h:xs.map b1I=ys.map b1I):All2 (fun d d'=>b1I d=b1I d') xs ys:=by
 have hl:xs.length=ys.length:=by have:=congrArg List.length h;simpa using this
 refine .of_get hl fun j x y hx hy=> ?_
 have:=congrArg (fun l=>l[j]?) h
 simp only [List.getElem?_map,hx,hy,f6T,f6x] at this;exact this
section
variable {xs ys:List D}
end
end Go.Proofs.YtiegikkpipdleaaGreatDoor
namespace Go.Proofs.YtiegikkpipdleaaGreatDoor
open Go Go.AM
variable {N:Nat}
structure Asc (l:List D) (n:Int):Prop where
 lo:∀i:Int,0≤i→i<l.length→0≤by_ l i∧by_ l i≤n-1
 up:∀i j:Int,0≤i→i<j→j<l.length→by_ l i<by_ l j
theorem Asc.ge {l:List D} {n:Int} (h:Asc l n):∀i:Nat,i<l.length→(i:Int)≤by_ l i
 |0,hi=>(h.lo 0 (by omega) (by omega)).1
 |i+1,hi=>by
  have h1:=Asc.ge h i (by omega)
  have h2:=h.up i (i+1) (by omega) (by omega) (by omega)
  have:((i+1:Nat):Int)=(i:Int)+1:=by omega
  rw [this];omega
theorem Asc.len {l:List D} {n:Int} (h:Asc l n) (hn:0≤n):(l.length:Int)≤n:=by
 rcases Nat.eq_zero_or_pos l.length with h0|h0
 ·omega
 ·have h1:=h.ge (l.length-1) (by omega)
  have h2:=(h.lo ((l.length-1:Nat):Int) (by omega) (by omega)).2
  omega
end Go.Proofs.YtiegikkpipdleaaGreatDoor
namespace Go.Proofs.YtiegikkpipdleaaGreatDoor
open Go Go.AM
variable {N:Nat}
section
variable {l es:List D}
structure Two (xs ys:List D) (n:Int):Prop where
 eq:All2 EqE xs ys
 ok:∀x∈xs,a3c x
 ok':∀y∈ys,a3c y
 len:(xs.length:Int)≤n
end
end Go.Proofs.YtiegikkpipdleaaGreatDoor
namespace Go.Proofs.YtiegikkpipdleaaGreatDoor
open Go Go.AM
variable {N:Nat}
theorem f27 {k:Int} (h:k≠1):(k==1)=false∧(k !=1)=true:=by
 constructor<;>simpa using h
theorem d7T {a:Ab} {x:D} (h:kX x≠1):(a0T a x).kn=a.kn∧(a0T a x).bg=a.bg∧(a0T a x).gl=a.gl∧(a0T a x).fs=a.fs∧(a0T a x).last=bif decide (a1I a x≥0) then a1I a x else a.last:=by
 unfold a0T b5s;rw [(f27 h).1];exact ⟨rfl,rfl,rfl,rfl,rfl⟩
theorem PlL.at_ {a:Ab} {es ds:List D} {x:D} (h:PlL a (x::es) ds):∃d r,ds=d::r∧f26 a x d∧PlL (a0T a x) es r:=by
 cases ds with
 |nil=>exact h.elim
 |cons d r=>exact ⟨d,r,rfl,h.1,h.2⟩
section
variable {es:List D}
end
theorem f28 {n:Int} (h0:0≤n) (h1:n<4294967296):(bt n 0).toI=n%256∧(bt n 1).toI=n/256%256∧(bt n 2).toI=n/65536%256∧(bt n 3).toI=n/16777216%256:=by
 have e:∀k:Nat,(n.fdiv (2^k))=n/2^k:=fun k=>Int.fdiv_eq_ediv_of_nonneg _ (by exact Int.le_of_lt (Int.pow_pos (by decide)))
 have w0:(min (IntKind.wrap .i64 (8*0)).toNat 64)=0:=by decide
 have w1:(min (IntKind.wrap .i64 (8*1)).toNat 64)=8:=by decide
 have w2:(min (IntKind.wrap .i64 (8*2)).toNat 64)=16:=by decide
 have w3:(min (IntKind.wrap .i64 (8*3)).toNat 64)=24:=by decide
 unfold bt D.toI;simp only [w0,w1,w2,w3,e,IntKind.wrap_u8];refine ⟨?_,?_,?_,?_⟩<;>omega
theorem c0j {n:Int} (big:Bool) (h0:0≤n) (h1:n<4294967296):a7x (nb4 n big) big=n:=by
 obtain ⟨b0,b1,b2,b3⟩:=f28 h0 h1;cases big with
 |true=>
  show 256*(256*(256*(256*0+(bt n 3).toI)+(bt n 2).toI)+(bt n 1).toI)+(bt n 0).toI=n;rw [b0,b1,b2,b3];omega
 |false=>
  show 256*(256*(256*(256*0+(bt n 3).toI)+(bt n 2).toI)+(bt n 1).toI)+(bt n 0).toI=n;rw [b0,b1,b2,b3];omega
theorem e2e {n:Int} (big:Bool) (h0:0≤n) (h1:n<65536):a7x (nb2 n big) big=n:=by
 obtain ⟨b0,b1,_,_⟩:=f28 (n:=n) h0 (by omega)
 cases big with
 |true=>
  show 256*(256*0+(bt n 1).toI)+(bt n 0).toI=n;rw [b0,b1];omega
 |false=>
  show 256*(256*0+(bt n 1).toI)+(bt n 0).toI=n;rw [b0,b1];omega
end Go.Proofs.YtiegikkpipdleaaGreatDoor
namespace Go.Proofs.YtiegikkpipdleaaGreatDoor
open Go Go.AM
variable {N:Nat}
section
variable {bs l post:List D} {a:Int}
theorem c5S (h0:0≤a) (hd:bs.drop a.toNat=l++post) {k:Int} (k0:0≤k) (k1:k<l.length):by_ bs (a+k)=(l.getD k.toNat (.i 0)).toI:=by
 unfold by_;have:=congrArg (fun x=>x.getD k.toNat (D.i 0)) hd
 simp only [f6F,List.getElem?_drop] at this⊢;rw [show (a+k).toNat=a.toNat+k.toNat by omega,this,f6R (by omega)]
theorem e3Z (h0:0≤a) (hd:bs.drop a.toNat=l++post) {m n:Int} (m0:0≤m) (mn:m≤n) (n1:n≤l.length):(bs.take (a+n).toNat).drop (a+m).toNat=(l.take n.toNat).drop m.toNat:=by
 have h1:(bs.take (a+n).toNat).drop (a+m).toNat=(((bs.drop a.toNat).take n.toNat).drop m.toNat):=by
  rw [List.take_drop,List.drop_drop,show a.toNat+n.toNat=(a+n).toNat by omega,show a.toNat+m.toNat=(a+m).toNat by omega]
 rw [h1,hd,List.take_append_of_le_length (by omega)]
theorem e30 (h0:0≤a) (hd:bs.drop a.toNat=l++post) (hl:0<l.length):a+l.length≤bs.length:=by
 have:=congrArg List.length hd;simp only [List.length_drop,f6N] at this;omega
end
theorem b7F {n:Int} (h0:0≤n) (h1:n≤255):(u8 n).toI=n:=by
 unfold u8 D.toI;simp only [IntKind.wrap_u8];omega
theorem d7U {g:Int} {fs:List D} (h:b7z g fs=0):(0≤g∧g≤65535)∧fs.length≤30∧ ∀f∈fs,(0≤fN f∧fN f≤255)∧(1≤fS f∧fS f≤255)∧(0≤fT f∧fT f≤3):=by
 unfold b7z at h;cases h1:inI g 0 65535 with
 |false=>rw [h1] at h;exact absurd (show (9:Int)=0 from h) (by decide)
 | true=>
  rw [h1] at h;cases h2:decide ((fs.length:Int)>30) with
  |true=>rw [h2] at h;exact absurd (show (3:Int)=0 from h) (by decide)
  | false=>
   rw [h2] at h;simp only [Bool.not_true,f6C] at h;refine ⟨by unfold inI at h1;simpa using h1,by simp at h2;omega,fun f hf=> ?_⟩
   obtain ⟨i,hi,rfl⟩:=List.getElem_of_mem hf;have:=a1Q h i hi;rw [Int.zero_add] at this;unfold c3i at this;have hg:fs.getD ((i:Int)).toNat (.i 0)=fs[i]:=by
    rw [f6F,Int.toNat_natCast,f6L hi];rfl
   rw [hg] at this;cases h3:inI (fN fs[i]) 0 255 with
   |false=>rw [h3] at this;exact absurd (show (9:Int)=0 from this) (by decide)
   |true=>
   cases h4:inI (fS fs[i]) 1 255 with
   |false=>rw [h3,h4] at this;exact absurd (show (9:Int)=0 from this) (by decide)
   |true=>
   cases h5:inI (fT fs[i]) 0 3 with
   |false=>rw [h3,h4,h5] at this;exact absurd (show (7:Int)=0 from this) (by decide)
   |true=>
    unfold inI at h3 h4 h5;simp at h3 h4 h5;exact ⟨h3,h4,h5⟩
theorem c3o {bs:List D}:∀{fs:List D} {a:Int},0≤a→(∀f∈fs,d8D f)→(∀f∈fs,(0≤fN f∧fN f≤255)∧(1≤fS f∧fS f≤255)∧(0≤fT f∧fT f≤3))→(∃post,bs.drop a.toNat=a7z fs++post)→d1n bs fs.length a=fs
 | [],_,_,_,_,_=>rfl
 | f::r,a,h0,ht,hv,⟨post,hd⟩=>by
  have hl:(a7z (f::r)).length=3*(r.length+1):=by rw [b5u];rfl
  obtain ⟨v1,v2,v3⟩:=hv f (by simp)
  have b0:=c5S h0 hd (k:=0) (by omega) (by omega)
  have b1:=c5S h0 hd (k:=1) (by omega) (by omega)
  have b2:=c5S h0 hd (k:=2) (by omega) (by omega)
  have e0:((a7z (f::r)).getD (0:Int).toNat (.i 0)).toI=fN f:=b7F (by omega) (by omega)
  have e1:((a7z (f::r)).getD (1:Int).toNat (.i 0)).toI=fS f:=b7F (by omega) (by omega)
  have e2:((a7z (f::r)).getD (2:Int).toNat (.i 0)).toI=fT f:=b7F (by omega) (by omega)
  rw [e0,Int.add_zero] at b0;rw [e1] at b1;rw [e2] at b2;obtain ⟨x,y,z,rfl,_,_,_⟩:=ht f (by simp)
  have ih:=c3o (bs:=bs) (fs:=r) (a:=a+3) (by omega) (fun g hg=>ht g (by simp [hg])) (fun g hg=>hv g (by simp [hg])) ⟨post,by
   have:=congrArg (List.drop 3) hd;rw [List.drop_drop] at this;rw [show (a+3).toNat=a.toNat+3 by omega,this]
   rfl⟩
  simp only [f6O,d1n,d7O];rw [b0,b1,b2,ih];rfl
section
variable {bs:List D} {a slot:Int} {d:D} {post:List D}
theorem e2f (h0:0≤a) (hs0:0≤slot) (hs1:slot≤15) {big:Bool} {g:Int} {nl:Bool} {fs:List D} (hE:b7z g fs=0) (ht:∀f∈fs,d8D f) (hd:bs.drop a.toNat=c3j slot (.a [.b big,.i g,.l nl fs])++post):
  by_ bs a=64+slot∧by_ bs (a+1)=(bif big then 1 else 0)∧by_ bs (a+4)=fs.length∧a7x ((bs.take (a+4).toNat).drop (a+2).toNat) big=g∧d1n bs fs.length (a+5)=fs∧e7s bs a:=by
 obtain ⟨g0,f0,fv⟩:=d7U hE;have hl:=a9B slot (.a [.b big,.i g,.l nl fs]);have hl:(c3j slot (.a [.b big,.i g,.l nl fs])).length=5+3*fs.length:=hl;have lo:=e30 h0 hd (by omega)
 have b0:=c5S h0 hd (k:=0) (by omega) (by omega)
 have b1:=c5S h0 hd (k:=1) (by omega) (by omega)
 have b4:=c5S h0 hd (k:=4) (by omega) (by omega)
 have s2:=e3Z h0 hd (m:=2) (n:=4) (by omega) (by omega) (by omega)
 have e0:((c3j slot (.a [.b big,.i g,.l nl fs])).getD (0:Int).toNat (.i 0)).toI=64+slot:=b7F (by omega) (by omega)
 have e1:((c3j slot (.a [.b big,.i g,.l nl fs])).getD (1:Int).toNat (.i 0)).toI=(bif big then 1 else 0):=rfl
 have e4:((c3j slot (.a [.b big,.i g,.l nl fs])).getD (4:Int).toNat (.i 0)).toI=fs.length:=by
  have:((c3j slot (.a [.b big,.i g,.l nl fs])).getD (4:Int).toNat (.i 0))=u8 (fs.length:Int):=by
   cases big<;>rfl
  rw [this];exact b7F (by omega) (by omega)
 have es:((c3j slot (.a [.b big,.i g,.l nl fs])).take (4:Int).toNat).drop (2:Int).toNat=nb2 g big:=by cases big<;>rfl
 rw [e0,Int.add_zero] at b0;rw [e1] at b1;rw [e4] at b4;rw [es] at s2;refine ⟨b0,b1,b4,?_,?_,⟨by omega,by rw [b4];omega⟩⟩
 ·rw [s2];exact e2e big g0.1 (by omega)
 ·refine c3o (by omega) ht fv ⟨post,?_⟩
  have:=congrArg (List.drop 5) hd;rw [List.drop_drop] at this;rw [show (a+5).toNat=a.toNat+5 by omega,this]
  cases big<;>rfl
end
theorem e31 {p s:D} {a:Ab} (h:Slots p s) (hs:SlS s a):SlP p a:=
 ⟨fun j hj=>by rw [h.known j hj,hs.kn j hj],fun j hj hk=>by
  have hk':(p.cell (0+j*6)).toB=true:=by rw [h.known j hj,hs.kn j hj];exact hk
  obtain ⟨p1,p2,p3,p4,p5,p6⟩:=h.defs j hj hk';obtain ⟨s1,s2,s3⟩:=hs.df j hj hk;rw [p5,p6,p2,p3,p4,s1,s2,s3];rw [p4,s3] at p1;exact ⟨p1,rfl,rfl,rfl,rfl,rfl⟩⟩
structure Rd (p:D) (a:Ab):Prop where
 p:SlP p a
 s:∃s,SlS s a
theorem Rd.step_data' {p:D} {a:Ab} {x:D} (h:Rd p a) (hk:kX x≠1):Rd p (a0T a x):=by
 have e:a0T a x={a with last:=bif decide (a1I a x≥0) then a1I a x else a.last}:=by
  unfold a0T b5s;rw [(f27 hk).1];rfl
 obtain ⟨s,hs⟩:=h.s;rw [e];exact ⟨e15 h.p,s,e16 hs⟩
structure f59 (N:Nat) (bs:List D) (i:Int) (p:D) (x:D) (a:Ab):Prop where
 r:∃dn ds bn p',c2J N i false bs p=some (kX x,sX x,oX x,dn,ds,bn,bX x,true,i+(a5l x).length,p')∧ds.map b1I=(dX x).map b1I∧Rd p' (a0T a x)∧(dn=true→ds=[])∧(bn=true→bX x=[])∧ ∀d∈ds,e7y d
theorem e2g {a:Ab} {kind slot off:Int} {ds data:List D} (h:c7J a kind slot off ds data=0) (hk:kind=1):data=[]∧off=0:=by
 subst hk;unfold c7J b5H at h;cases h2:inI slot 0 (bif ((1:Int)==3) then 3 else 15) with
 |false=>rw [h2] at h;exact absurd (show (9:Int)=0 from h) (by decide)
 |true=>
 cases h3:inI off 0 (bif ((1:Int)==3) then 31 else 0) with
 |false=>rw [h2,h3] at h;exact absurd (show (9:Int)=0 from h) (by decide)
 | true=>
  rw [h2,h3] at h;have h1:inI 1 1 3=true:=rfl;rw [h1] at h;constructor
  ·cases h4:((ds.length:Int) !=1)||decide ((data.length:Int)>0) with
   |true=>simp only [Bool.not_true,f6C,Bool.or_self,beq_self_eq_true,f6B,h4] at h;exact absurd h (by decide)
   |false=>simp at h4;simpa using h4.2
  ·unfold inI at h3;simp at h3;omega
theorem e7B {a:Ab} {kind slot off:Int} {ds data:List D} (h:c7J a kind slot off ds data=0) (hk:kind=2):off=0:=by
 subst hk;unfold c7J b5H at h;cases h2:inI slot 0 (bif ((2:Int)==3) then 3 else 15) with
 |false=>rw [h2] at h;exact absurd (show (9:Int)=0 from h) (by decide)
 |true=>
 cases h3:inI off 0 (bif ((2:Int)==3) then 31 else 0) with
 |false=>rw [h2,h3] at h;exact absurd (show (9:Int)=0 from h) (by decide)
 |true=>unfold inI at h3;simp at h3;omega
theorem c7M {a:Ab} {kind slot off:Int} {ds data:List D} (h:c7J a kind slot off ds data=0) (hk:kind=3):slot≤3:=by
 subst hk;unfold c7J b5H at h;cases h2:inI slot 0 (bif ((3:Int)==3) then 3 else 15) with
 |false=>rw [h2] at h;exact absurd (show (9:Int)=0 from h) (by decide)
 |true=>unfold inI at h2;simp at h2;omega
end Go.Proofs.YtiegikkpipdleaaGreatDoor
namespace Go.Proofs.YtiegikkpipdleaaGreatDoor
open Go Go.AM
variable {N:Nat}
section
variable {bs:List D} {p:D} {a:Ab} {i n kind slot off:Int}
theorem e7C (hN:maxLen<N) (hl:bs.length≤maxLen) (h0:0≤i) (hp:SlP p a) (hs0:0≤slot) (hs1:slot<16) (hkn:a.kn slot.toNat=true) (hk:kind=2∨kind=3) (ht:kind=3→0≤tmL 0 (a.fs slot.toNat)) (hn:n=bif kind==3 then szL (a.fs slot.toNat)-4 else szL (a.fs slot.toNat)):
  (i+1+n≤bs.length→d7Q N kind slot off (i+1) false bs p=some (kind,slot,off,true,[],false,(bs.take (i+1+n).toNat).drop (i+1).toNat,true,i+1+n,p))∧
  (i+1≤bs.length→ ¬i+1+n≤bs.length→ ∃dn data a',d7Q N kind slot off (i+1) false bs p=some (kind,slot,off,true,[],dn,data,false,a',p)):=by
 have hm:maxLen=9223372036854775807:=rfl;have i1:inB slot 16=true:=a0K hs0 (by omega)
 have i2:slot.toNat<16:=by omega
 obtain ⟨d1,_,_,d4,d5,d6⟩:=hp.df _ i2 hkn;have tb:=a5Z (a:=0) (by omega) d1.size
 have sb:=a3O d1.size;have lb:=d1.len;have hn0:0≤n∧n≤100000:=by
  rcases hk with rfl|rfl
  ·rw [hn,show ((2:Int)==3)=false from rfl];simp only [f6C];omega
  ·have:=ht rfl
   rw [hn,show ((3:Int)==3)=true from rfl];simp only [f6B];omega
 have hz:a6x N (szL (a.fs slot.toNat)) (kind==3)=n:=by
  unfold a6x a6w;rcases hk with rfl|rfl
  ·rw [hn];rfl
  ·have:=ht rfl
   rw [hn,show ((3:Int)==3)=true from rfl];simp only [f6B];rw [a0s (by omega) (by omega)]
 have h3:(bif kind==3 then decide (tmL 0 (a.fs slot.toNat)<0) else false)=false:=by
  rcases hk with rfl|rfl
  ·rfl
  ·rw [show ((3:Int)==3)=true from rfl,decide_eq_false (by have:=ht rfl;omega)];rfl
 have hun:d7Q N kind slot off (i+1) false bs p=bnd (a7v N n (i+1) false bs) fun y6=>
   bif y6.isSome then
    bnd (G55x0 N (y6.getD default).1 (y6.getD default).2.1) fun y7=>
    bif y7.isSome then
     some (kind,slot,off,true,[],(y7.getD default).1,(y7.getD default).2,(decide ((y6.getD default).2.2≥0)),(y6.getD default).2.2,p)
    else none
   else none:=by
  unfold d7Q;rw [i1];simp only [f6B,a0i,decide_eq_false (show¬i+1<0 by omega),f6C,hp.kn _ i2,hkn,Bool.not_true,d6,h3,d5,hz]
 rw [hun];constructor
 ·intro fit
  rw [a9A hn0.1 hl (by omega) (by omega)]
  have lx:((bs.take (i+1+n).toNat).drop (i+1).toNat).length=n.toNat:=by rw [b5q (by omega)];omega
  simp only [a0i,getD_some,f6G,f6B,c7I (N:=N) (show ((bs.take (i+1+n).toNat).drop (i+1).toNat).length≤100000 by omega)]
  rw [decide_eq_true (show i+1+n≥0 by omega)]
 ·intro h1 cut
  rw [c0e hn0.1 hn0.2 hl (by omega) (by omega) (by omega)]
  simp only [a0i,getD_some,f6G,f6B,c7I (N:=N) (show (List.replicate n.toNat (D.i 0)).length≤100000 by simp;omega)]
  exact ⟨_,_,_,rfl⟩
theorem d7V (hN:maxLen<N) (hb:a0n bs) (hl:bs.length≤maxLen) (h0:0≤i) (h1:i<bs.length) (hk:kind=2∨kind=3) (hs0:0≤slot) (hs1:slot≤15) (hs3:kind=3→slot≤3) (ho0:0≤off) (ho1:off≤31) (ho2:kind=2→off=0)
  (hc:by_ bs i=bif kind==3 then 128+32*slot+off else slot):c2J N i false bs p=d7Q N kind slot off (i+1) false bs p:=by
 have hm:maxLen=9223372036854775807:=rfl;have q0:=a9A (N:=N) (n:=1) (nl:=false) (by omega) hl h0 (show i+1≤bs.length by omega)
 have l0:((bs.take (i+1).toNat).drop i.toNat).length=1:=by rw [b5q (by omega)];omega
 have v0:(((bs.take (i+1).toNat).drop i.toNat).getD 0 (.i 0)).toI=by_ bs i:=b1r h0 rfl rfl;have i0:inB 0 1=true:=rfl;obtain ⟨c0,c1⟩:=d7P hb h0 h1;unfold c2J d0k;rw [q0];simp only [a0i,f6G,getD_some,f6B,l0,i0,v0,a0s (x:=by_ bs i) (by omega) (by omega)]
 rcases hk with rfl|rfl
 ·have hv:by_ bs i=slot:=hc
  rw [hv,ho2 rfl,decide_eq_false (show¬slot≥128 by omega)]
  have g1:a1m N slot false (i+1) false bs p=some (.inl (2,slot,0)):=by
   unfold a1m a2c;rw [decide_eq_true (show slot<16 by omega)];rfl
  rw [g1];rfl
 ·have:=hs3 rfl
  have hv:by_ bs i=128+32*slot+off:=hc;rw [hv,decide_eq_true (show 128+32*slot+off≥128 by omega)]
  have w1:IntKind.wrap .i64 (128+32*slot+off-128)=32*slot+off:=by rw [a0s (by omega) (by omega)];omega
  have m1:(32*slot+off).tdiv 32=slot:=by rw [Int.tdiv_eq_ediv_of_nonneg (by omega)];omega
  have m2:(128+32*slot+off).tmod 32=off:=by rw [Int.tmod_eq_emod_of_nonneg (by omega)];omega
  have g1:a1m N (128+32*slot+off) true (i+1) false bs p=some (.inl (3,slot,off)):=by
   unfold a1m a2c;rw [w1,m1,m2,a0s (by omega) (by omega)];rfl
  rw [g1];rfl
theorem e2h (hN:maxLen<N) (hb:a0n bs) (hl:bs.length≤maxLen) (h0:0≤i) (h1:i<bs.length) (hs0:0≤slot) (hs1:slot≤15) (hc:by_ bs i=64+slot) {ok:Bool} {a':Int} {p' d:D} (g1:a1m N (64+slot) false (i+1) false bs p=some (.inr (.inl (ok,a',p',64+slot-64,64+slot-64,[d])))):
  c2J N i false bs p=some (1,slot,0,false,[d],true,[],ok,a',p'):=by
 have hm:maxLen=9223372036854775807:=rfl;have q0:=a9A (N:=N) (n:=1) (nl:=false) (by omega) hl h0 (show i+1≤bs.length by omega)
 have l0:((bs.take (i+1).toNat).drop i.toNat).length=1:=by rw [b5q (by omega)];omega
 have v0:(((bs.take (i+1).toNat).drop i.toNat).getD 0 (.i 0)).toI=by_ bs i:=b1r h0 rfl rfl;have i0:inB 0 1=true:=rfl;obtain ⟨c0,c1⟩:=d7P hb h0 h1;unfold c2J d0k;rw [q0];simp only [a0i,f6G,getD_some,f6B,l0,i0,v0,a0s (x:=by_ bs i) (by omega) (by omega)]
 rw [hc,decide_eq_false (show¬64+slot≥128 by omega),g1]
 rw [show 64+slot-64=slot by omega]
 rfl
end
section
variable {bs:List D} {p x:D} {a:Ab} {i:Int}
theorem b5w (hk:kX x=2∨kX x=3):a5l x=u8 (bif kX x==3 then 128+32*sX x+oX x else sX x)::bX x:=by
 unfold a5l d8C;rcases hk with h|h
 ·rw [h];rfl
 ·rw [h];rfl
theorem e2i (hk:kX x=1):a5l x=c3j (sX x) (d0X x):=by
 unfold a5l d8C;rw [hk];rfl
theorem e2j (ha:OkA a) (h:a7H a x=0) (hk:kX x=2∨kX x=3):a.kn (sX x).toNat=true∧dX x=[]∧(kX x=3→0≤tmL 0 (a.fs (sX x).toNat))∧((bX x).length:Int)=(bif kX x==3 then szL (a.fs (sX x).toNat)-4 else szL (a.fs (sX x).toNat)):=by
 have hE:=a11 h;have hn:=hE.n (by rcases hk with h|h<;>omega)
 refine ⟨hn.1,List.length_eq_zero_iff.1 hn.2,fun h3=>(hE.h h3).1,?_⟩
 rcases hk with h2|h3
 ·rw [h2];exact hE.t h2
 ·rw [h3];exact (hE.h h3).2.2.2.2
theorem f29 (ht:c5R x) (h:a7H a x=0) (hk:kX x=1):∃big g nl fs,dX x=[.a [.b big,.i g,.l nl fs]]∧b7z g fs=0∧(∀f∈fs,d8D f):=by
 have hE:=a11 h;obtain ⟨d1,d2⟩:=hE.d hk;obtain ⟨k',s',o',dn,ds,bn,data,rfl,_,_,_,n1,n2,_,_,n3,_⟩:=ht;match ds,d1 with
 | [d],_=>
  obtain ⟨big,g,nl,fs,rfl,_,_,_,hf⟩:=n3 d (by simp)
  exact ⟨big,g,nl,fs,rfl,d2,hf⟩
theorem e2k {x:D} (h:c5R x):∀d∈dX x,e7y d:=by
 obtain ⟨kind,slot,off,dn,ds,bn,data,rfl,_,_,_,_,_,_,_,h3,_⟩:=h;exact h3
theorem d7W (hN:maxLen<N) (hb:a0n bs) (hl:bs.length≤maxLen) (h0:0≤i) (ht:c5R x) (ha:OkA a) (hp:Rd p a) (h:a7H a x=0) {post:List D} (hd:bs.drop i.toNat=a5l x++post):f59 N bs i p x a:=by
 have hm:maxLen=9223372036854775807:=rfl;obtain ⟨k1,s1,o1,_,b1⟩:=b1s (ha _) h;have el:=b2V ha h;have lo:=e30 h0 hd (by omega)
 by_cases hk:kX x=1
 ·obtain ⟨big,g,nl,fs,hds,hE,hf⟩:=f29 ht h hk
  obtain ⟨e1,e2⟩:=e2g h hk;have hx:a5l x=c3j (sX x) (.a [.b big,.i g,.l nl fs]):=by rw [e2i hk];unfold d0X;rw [hds];rfl
  have hxl:(a5l x).length=5+3*fs.length:=by rw [hx];exact a9B _ _
  rw [hx] at hd;obtain ⟨v0,v1,v4,v2,v5,vin⟩:=e2f h0 s1.1 s1.2 hE hf hd;obtain ⟨ok,a',p',d,g1,ho,hdd⟩:=e1X (N:=N) (p:=p) hN hb hl (nl:=false) h0 (by omega) (show (64:Int)≤64+sX x by omega) (show 64+sX x≤79 by omega)
  have hok:ok=true:=ho.2 ⟨vin,by rw [v1];cases big<;>decide⟩
  obtain ⟨ea,ed,hs'⟩:=hdd vin;subst hok;have hbig:(by_ bs (i+1)==1)=big:=by rw [v1];cases big<;>rfl
  have hG:=e2h (N:=N) (p:=p) hN hb hl h0 (by omega) s1.1 s1.2 v0 g1
  obtain ⟨s,hs⟩:=hp.s;have hsl:=hs' s (c7K hp.p hs);rw [show 64+sX x-64=sX x by omega,hbig,v2,v4,Int.toNat_natCast,v5] at hsl
  have hst:a0T a x={a with kn:=upA a.kn (sX x).toNat true,bg:=upA a.bg (sX x).toNat big,gl:=upA a.gl (sX x).toNat g,fs:=upA a.fs (sX x).toNat fs}:=by
   unfold a0T b5s;rw [hk,hds];rfl
  have hss:=d7R (s:=s) hs (j:=(sX x).toNat) (by omega) (big:=big) (g:=g) (nl:=fs.isEmpty) (fs:=fs) (last:=a.last)
  have hdd':e7y (.a [.b big,.i g,.l nl fs]):=(e2k ht) _ (by rw [hds];simp)
  refine ⟨false,[d],true,p',?_,?_,?_,(fun h=>by cases h),(fun _=>e1),?_⟩
  ·rw [hG,hk,e1,e2,ea,v4,hxl]
   congr 1
   simp only [f6S,true_and,and_true];omega
  ·rw [hds,ed]
   simp only [List.map_cons,List.map_nil,List.cons.injEq,and_true];unfold e1W;rw [hbig,v2,v4,Int.toNat_natCast,v5];rfl
  ·rw [hst]
   exact ⟨e31 hsl hss,_,hss⟩
  ·intro y hy
   have hy:y=d:=by simpa using hy
   rw [hy,ed];unfold e1W;rw [hbig,v2,v4,Int.toNat_natCast,v5];obtain ⟨big',g',nl',fs',hq,c1,c2,c3,c4⟩:=hdd';simp only [D.a.injEq,List.cons.injEq,D.b.injEq,D.i.injEq,D.l.injEq,and_true] at hq;obtain ⟨rfl,rfl,_,rfl⟩:=hq;exact ⟨_,_,_,_,rfl,c1,fun h=>by simpa using h,c3,c4⟩
 ·have hk2:kX x=2∨kX x=3:=by omega
  obtain ⟨kn,dn,t3,ln⟩:=e2j ha h hk2;have hx:=b5w hk2;have hxl:(a5l x).length=1+(bX x).length:=by rw [hx];simp;omega
  have hc:by_ bs i=bif kX x==3 then 128+32*sX x+oX x else sX x:=by
   have b0:=c5S h0 hd (k:=0) (by omega) (by omega)
   rw [Int.add_zero] at b0;rw [b0,hx];refine b7F ?_ ?_
   ·rcases hk2 with e|e<;>rw [e]<;>simp<;>omega
   ·rcases hk2 with e|e
    ·rw [e];simp;omega
    ·have:=c7M h e
     rw [e];simp;omega
  have hG:=d7V (N:=N) (p:=p) hN hb hl h0 (by omega) hk2 s1.1 s1.2 (fun e=>c7M h e) o1.1 o1.2 (fun e=>e7B h e) hc
  have hT:=(e7C (N:=N) (off:=oX x) hN hl h0 hp.p s1.1 (by omega) kn hk2 t3 ln).1 (by omega)
  have hsub:=e3Z h0 hd (m:=1) (n:=1+(bX x).length) (by omega) (by omega) (by omega)
  have hsub2:(bs.take (i+1+((bX x).length:Int)).toNat).drop (i+1).toNat=bX x:=by
   rw [show i+1+((bX x).length:Int)=i+(1+((bX x).length:Int)) by omega,hsub,hx]
   rw [show (1+((bX x).length:Int)).toNat=(bX x).length+1 by omega]
   simp
  refine ⟨true,[],false,p,?_,by rw [dn],hp.step_data' hk,(fun _=>rfl),(fun h=>by cases h),(fun y hy=>by simp at hy)⟩
  rw [hG,hT,hsub2,hxl];congr 1
  simp only [f6S,true_and,and_true];omega
end
end Go.Proofs.YtiegikkpipdleaaGreatDoor
namespace Go.Proofs.YtiegikkpipdleaaGreatDoor
open Go Go.AM
variable {N:Nat}
theorem e7D {x y:D} (h:EqE x y) (he:a3c x):a3c y:=by
 obtain ⟨l,_⟩:=b5v h.d;refine ⟨by show (dX y).length≤maxLen;rw [←l];exact he.d,by show (bX y).length≤maxLen;rw [←h.b];exact he.b,fun d hd=> ?_,by show a0n (bX y);rw [←h.b];exact he.y⟩
 have hd:d∈dX y:=hd;obtain ⟨j,hj,rfl⟩:=List.getElem_of_mem hd;obtain ⟨d2,e1,e2⟩:=(e2d h.d.symm).get (f6L hj);rw [(c0i e2).2.2];exact he.f d2 (List.mem_of_getElem? e1)
def got (x:D) (dn:Bool) (ds:List D) (bn:Bool):D:= .a [.i (kX x),.i (sX x),.i (oX x),.l dn ds,.l bn (bX x)]
theorem f3a {x:D} {dn bn:Bool} {ds:List D} (h:ds.map b1I=(dX x).map b1I):EqE x (got x dn ds bn):=⟨rfl,rfl,rfl,h.symm,rfl⟩
theorem d7X {x:D} {a:Ab} {ds:List D} (hN:maxLen<N) (ha:OkA a) (h:a7H a x=0) (hd:ds.map b1I=(dX x).map b1I):∃nl l,c44 N (kX x) (sX x) (oX x) ds (bX x)=some (nl,l)∧l.length=(a5l x).length:=by
 obtain ⟨h1,h2,h3,h4,h5⟩:=b1s (ha _) h;obtain ⟨l1,d0,d1,d2⟩:=b5v hd;obtain ⟨nl,q,_⟩:=P65 (N:=N) (kind:=kX x) (slot:=sX x) (off:=oX x) (ds:=ds) (data:=bX x) hN h2.1 h2.2 h3.1 h3.2 h1 (fun hk=>by rw [l1,d2];exact h4 hk) (by omega)
 refine ⟨nl,_,q,?_⟩;unfold a5l d8C;cases kX x==2 with
 |true=>rfl
 | false=>
  cases kX x==3 with
  |true=>rfl
  |false=>
   simp only [f6C,a9B];rw [d2]
section
variable {bs:List D}
def f44 (y:D):Prop:=((y.cell 3).isNil=true→dX y=[])∧((y.cell 4).isNil=true→bX y=[])∧ ∀d∈dX y,e7y d
theorem e2l (hN:maxLen<N) (hb:a0n bs) (hl:bs.length≤10000000):∀(es:List D) (m:Nat) (i:Int) (p:D) (a:Ab) (f:Bool) (acc:List D),es.length<m→0≤i→i+(a0C es).length=bs.length→bs.drop i.toNat=a0C es→(∀x∈es,c5R x)→OkA a→a1q a es=0→Rd p a→acc.length+es.length≤50000→
  ∃f' ys,b0o N bs false bs m i f acc i p (fun p=>some (Sum.inl p)) (fun p=>some (Sum.inr p))=some (.inr (f',acc++ys))∧All2 EqE es ys∧ ∀y∈ys,f44 y:=by
 have hm:maxLen=9223372036854775807:=rfl;intro es;induction es with
 |nil=>
  intro m i p a f acc hmm h0 h1 hd ht ha he hp hc;obtain ⟨m,rfl⟩:∃k,m=k+1:=⟨m-1,by omega⟩
  unfold b0o b4O;simp only [a0C,List.length_nil] at h1;rw [decide_eq_false (show¬i<(bs.length:Int) by omega)]
  exact ⟨f,[],by simp,trivial,fun y hy=>by simp at hy⟩
 | cons x r ih=>
  intro m i p a f acc hmm h0 h1 hd ht ha he hp hc;obtain ⟨m,rfl⟩:∃k,m=k+1:=⟨m-1,by omega⟩
  obtain ⟨e1,e2⟩:=a2D he;have el:=b2V ha e1;simp only [a0C,f6N,f6O] at h1 hc hmm;have hd':bs.drop i.toNat=a5l x++a0C r:=hd;obtain ⟨dn,ds,bn,p',q,qd,hp',t1,t2,t3⟩:=(d7W (N:=N) hN hb (by omega) h0 (ht x (by simp)) ha hp e1 hd').r
  obtain ⟨nl,l,q65,l65⟩:=d7X (N:=N) hN ha e1 qd;have r1:decide ((acc.length+1)*72≤a0L)=true:=decide_eq_true (by unfold a0L;omega)
  have r2:decide (acc.length+1≤a0d)=true:=decide_eq_true (by unfold a0d;omega)
  unfold b0o b4O;rw [decide_eq_true (show i<(bs.length:Int) by omega),q]
  simp only [f6B,f6C,a0i,f6G,getD_some,Bool.not_true,r1,r2,Bool.and_self,q65,l65];rw [a0s (by omega) (by omega)]
  obtain ⟨f',ys,z1,z2,z3⟩:=ih m (i+(a5l x).length) p' _ false (acc++[got x dn ds bn]) (by omega) (by omega) (by omega) (by
   rw [show (i+((a5l x).length:Int)).toNat=i.toNat+(a5l x).length by omega,←List.drop_drop,hd']
   simp) (fun y hy=>ht y (by simp [hy])) (ha.step e1) e2 hp' (by simp;omega)
  refine ⟨f',got x dn ds bn::ys,?_,⟨f3a qd,z2⟩,fun y hy=> ?_⟩
  rotate_left
  ·rcases f6M.1 hy with rfl|hy
   ·exact ⟨t1,t2,t3⟩
   ·exact z3 y hy
  rw [f6P] at z1;exact z1
end
end Go.Proofs.YtiegikkpipdleaaGreatDoor
namespace Go.Proofs.YtiegikkpipdleaaGreatDoor
open Go Go.AM
variable {N:Nat}
section
variable {es:List D}
theorem c7N (hN:maxLen<N) (hes:∀x∈es,a3c x) (h:a3e es=0):b61 N es=some (false,a2j es,0):=by
 have hm:maxLen=9223372036854775807:=rfl;obtain ⟨nl,nl',w1,w2⟩:=e2c (N:=N) hN hes;have hwb:c3n es=a2j es:=by unfold c3n;rw [h];rfl
 rw [w1,hwb,h];have hf:fileE es=0:=by
  unfold a3e at h;cases hc:fileE es !=0 with
  |true=>rw [hc] at h;simp only [f6B] at h;exact h
  |false=>simpa using hc
 obtain ⟨hl,he⟩:=a36 hf;obtain ⟨c1,c2⟩:=a2W (N:=N) hN hes;obtain ⟨b,z1,z2⟩:=b7E hN hes hl N 0 Ab.start true [] OkA.start (by omega) (by omega) (by omega) (by simpa using he) (by simp)
 have y1:b4K N es es.length 0 true []=some (b,a0C es):=by unfold b4K;simpa using z1
 have hbl:=c0g OkA.start he;have l4:=a0t ((a0C es).length:Int) true;obtain ⟨b3,k3⟩:=c3l (N:=N) (ps:=[.l false [.i 72,.i 65,.i 82,.i 49],.l false (nb4 ((a0C es).length:Int) true),.l b (a0C es)]) hN (by simp) (by simp only [a9I,D.items,f6N,List.length_nil,f6O,l4];omega)
 have ec:a9I [.l false [.i 72,.i 65,.i 82,.i 49],.l false (nb4 ((a0C es).length:Int) true),.l b (a0C es)]=a1i es:=by
  simp only [a9I,D.items,a1i,f6P,List.append_nil]
 rw [ec] at k3;have fl:=a3Q (es:=es);have hs:=c0d hN (a9C hes) (by omega)
 have al:=a49 (es:=es);have l5:=a0t (b1q 1 (a1i es)) true;have r1:decide (((a1i es).length+(nb4 (b1q 1 (a1i es)) true).length)*1≤a0L)=true:=decide_eq_true (by unfold a0L;omega)
 have r2:decide ((a1i es).length+(nb4 (b1q 1 (a1i es)) true).length≤a0d)=true:=decide_eq_true (by unfold a0d;omega)
 have ea:a1i es++nb4 (b1q 1 (a1i es)) true=a2j es:=rfl;have h4:decide (((a2j es).length:Int)>4000000)=false:=by
  unfold a3e at h;rw [hf] at h;cases h4:decide (((a2j es).length:Int)>4000000) with
  |true=>rw [h4] at h;simp at h
  |false=>rfl
 unfold b61 e6A at w1;rw [c1,hf] at w1;have e0:((0:Int) !=0)=false:=rfl;simp only [a0i,f6G,f6B,getD_some,e0,f6C,y1,d7S hN,k3,hs,r1,r2,Bool.and_self,ea,h4] at w1;simp only [f6x,f6S] at w1;rw [←w1.1];rfl
theorem e7E (hes:∀x∈es,a3c x):a0n (a2j es):=a0n.append (a9C hes) (c3m _ _)
theorem d7Y:((a2j es).take (((a2j es).length:Int)-4).toNat).drop 8=a0C es:=by
 have fl:=a3Q (es:=es);have al:=a49 (es:=es);have e:(((a2j es).length:Int)-4).toNat=(a1i es).length:=by omega
 rw [e];unfold a2j;rw [List.take_left];have l8:([.i 72,.i 65,.i 82,.i 49]++nb4 ((a0C es).length:Int) true:List D).length=8:=by rw [f6N,a0t];rfl
 unfold a1i;rw [←l8,List.drop_left]
theorem e2m:(a2j es).drop (((a2j es).length:Int)-4).toNat=nb4 (b1q 1 (a1i es)) true:=by
 have fl:=a3Q (es:=es);have al:=a49 (es:=es);have e:(((a2j es).length:Int)-4).toNat=(a1i es).length:=by omega
 rw [e];unfold a2j;rw [List.drop_left]
theorem d09:((a2j es).take (((a2j es).length:Int)-4).toNat)=a1i es:=by
 have fl:=a3Q (es:=es);have al:=a49 (es:=es);have e:(((a2j es).length:Int)-4).toNat=(a1i es).length:=by omega
 rw [e];unfold a2j;rw [List.take_left]
theorem f6a:Rd (c48 N) Ab.start:=⟨e31 (s:=a7y) (f23 (N:=N)) (b5t (N:=N)).ss,a7y,(b5t (N:=N)).ss⟩
theorem d1a (hN:maxLen<N) (hes:∀x∈es,c5R x) (h:a3e es=0):∃b ys,d6j N false (a2j es)=some (b,ys,0,0)∧All2 EqE es ys∧ ∀y∈ys,f44 y:=by
 have hm:maxLen=9223372036854775807:=rfl;have hed:∀x∈es,a3c x:=fun x hx=>(hes x hx).entD
 have hf:fileE es=0:=by
  unfold a3e at h;cases hc:fileE es !=0 with
  |true=>rw [hc] at h;simp only [f6B] at h;exact h
  |false=>simpa using hc
 have h4:¬((a2j es).length:Int)>4000000:=by
  intro hh;unfold a3e at h;rw [hf,decide_eq_true hh] at h;simp at h
 obtain ⟨hl,he⟩:=a36 hf;have al:=a49 (es:=es);have hb:=e7E hed;have w4:IntKind.wrap .i64 (((a2j es).length:Int)-4)=((a2j es).length:Int)-4:=a0s (by omega) (by omega)
 have sb:=b0J (bs:=a1i es) (a:=1) (by decide) (by decide)
 -- the head
 have h10:b4N N (a2j es)=some false:=by
  unfold b4N b0n;rw [decide_eq_false (show¬((a2j es).length:Int)<12 by omega),decide_eq_true (show (4:Int)≤((a2j es).length:Int) by omega),decide_eq_true (show (8:Int)≤((a2j es).length:Int) by omega)]
  have m4:((a2j es).take 4).drop 0=[.i 72,.i 65,.i 82,.i 49]:=rfl;have m8:((a2j es).take 8).drop 4=nb4 ((a0C es).length:Int) true:=by rfl
  have ms:(!(a9H [.i 72,.i 65,.i 82,.i 49])==([72,65,82,49]:List UInt8))=false:=by decide
  simp only [f6C,f6B,a0i];rw [m4,ms,m8,a9z (N:=N) hN (c3m _ _) true (by rw [a0t];omega),c0j true (by omega) (by omega),a0s (x:=((a2j es).length:Int)-8) (by omega) (by omega),a0s (by omega) (by omega)]
  simp only [f6C,f6G,getD_some,f6B];congr 1
  simp;omega
 obtain ⟨f',ys,z1,z2,z3⟩:=e2l (N:=N) (bs:=a0C es) hN (c0h hed) (by omega) es N 0 (c48 N) Ab.start true [] (by omega) (by omega) (by omega) rfl hes OkA.start he f6a (by simp;omega)
 have y1:d6i N (a0C es) false (a0C es) 0 true [] 0 (c48 N)=some (.inr (f',ys)):=z1;have b1:((a2j es).take (((a2j es).length:Int)).toNat).drop (((a2j es).length:Int)-4).toNat=nb4 (b1q 1 (a1i es)) true:=by
  rw [show (((a2j es).length:Int)).toNat=(a2j es).length by omega,List.take_length]
  exact e2m
 have b2:((a2j es).take (((a2j es).length:Int)-4).toNat).drop 0=a1i es:=by rw [List.drop_zero];exact d09
 have hfl:=a3Q (es:=es);have yd:∀y∈ys,a3c y:=by
  intro y hy;obtain ⟨j,hj,rfl⟩:=List.getElem_of_mem hy;have hlen:=AM.All2.length z2;have hx:j<es.length:=by omega
  exact e7D (z2.get2 (f6L hx) (f6L hj)) (hed _ (List.getElem_mem hx))
 obtain ⟨k1,_⟩:=a2W (N:=N) hN yd;have hfe:=All2.fileE z2;rw [hf] at hfe;have hbody:=d7Y (es:=es);unfold d6j e8o;rw [decide_eq_false h4,h10,w4,b1,b2,hbody];have sn:(b1q 1 (a1i es) !=b1q 1 (a1i es))=false:=by simp
 simp only [f6C,a0i,f6G,getD_some,f6B,c0d (N:=N) hN (a9C hed) (by omega),a9z (N:=N) hN (c3m (b1q 1 (a1i es)) true) true (by rw [a0t];omega),c0j true sb.1 sb.2,sn]
 rw [decide_eq_true (show (0:Int)≤((a2j es).length:Int)-4 by omega),decide_eq_true (show ((a2j es).length:Int)-4≤((a2j es).length:Int) by omega),decide_eq_true (Int.le_refl ((a2j es).length:Int)),decide_eq_true (show (8:Int)≤((a2j es).length:Int)-4 by omega),y1]
 have e1:a0O (some (Sum.inr (f',ys):Sum (Int×Bool×LD) (Bool×LD)))=false:=rfl;have e2:a0l (some (Sum.inr (f',ys):Sum (Int×Bool×LD) (Bool×LD)))=some (f',ys):=rfl;simp only [Bool.and_self,f6B,e1,e2,f6C,f6G,getD_some,k1,←hfe];exact ⟨f',ys,rfl,z2,z3⟩
end
end Go.Proofs.YtiegikkpipdleaaGreatDoor
namespace Go.Proofs.YtiegikkpipdleaaGreatDoor
open Go Go.AM
variable {N:Nat}
def e7F (a:Ab) (x:D):List D:=(bX x).take (tmL 0 (a.fs (sX x).toNat)).toNat++nb4 (a1I a x) (a.bg (sX x).toNat)++(bX x).drop (tmL 0 (a.fs (sX x).toNat)).toNat
structure WdE (a:Ab) (x y:D):Prop where
 n:kX x≠3→EqE x y
 t:kX x=3→a1I a x≤4294967294∧kX y=2∧sX y=sX x∧oX y=0∧dX y=[]∧bX y=e7F a x
def WdL:Ab→List D→List D→Prop
 |_,[],[]=>True
 |a,x::r,y::s=>WdE a x y∧WdL (a0T a x) r s
 |_,_,_=>False
theorem WdE.eq {a:Ab} {x y z:D} (h:WdE a x y) (h':WdE a x z):EqE y z:=by
 by_cases hk:kX x=3
 ·obtain ⟨_,k1,s1,o1,d1,b1⟩:=h.t hk
  obtain ⟨_,k2,s2,o2,d2,b2⟩:=h'.t hk;exact ⟨by rw [k1,k2],by rw [s1,s2],by rw [o1,o2],by rw [d1,d2],by rw [b1,b2]⟩
 ·have h1:=h.n hk
  have h2:=h'.n hk;exact ⟨h1.k.symm.trans h2.k,h1.s.symm.trans h2.s,h1.o.symm.trans h2.o,h1.d.symm.trans h2.d,h1.b.symm.trans h2.b⟩
theorem WdL.eq:∀{es ys zs:List D} {a:Ab},WdL a es ys→WdL a es zs→All2 EqE ys zs
 | [],[],[],_,_,_=>trivial
 |x::r,y::s,z::t,a,h,h'=>⟨h.1.eq h'.1,WdL.eq h.2 h'.2⟩
 | [],_::_,_,_,h,_=>h.elim
 | [],[],_::_,_,_,h=>h.elim
 |_::_,[],_,_,h,_=>h.elim
 |_::_,_::_,[],_,_,h=>h.elim
theorem WdL.len:∀{es ys:List D} {a:Ab},WdL a es ys→ys.length=es.length
 | [],[],_,_=>rfl
 |x::r,y::s,a,h=>by simp [WdL.len h.2]
 | [],_::_,_,h=>h.elim
 |_::_,[],_,h=>h.elim
theorem e2n {a:Ab} {x:D} (ha:OkA a) (h:a7H a x=0) (hk:kX x=3):a1P (a.fs (sX x).toNat)∧0≤tmL 0 (a.fs (sX x).toNat)∧tmL 0 (a.fs (sX x).toNat)+4≤szL (a.fs (sX x).toNat)∧((bX x).length:Int)=szL (a.fs (sX x).toNat)-4∧(bX x).length≤65025∧0≤a1I a x∧a.kn (sX x).toNat=true:=by
 have hE:=a11 h;obtain ⟨h1,h2,h3,h4,h5⟩:=b1s (ha _) h;have hkn:=(hE.n (by omega)).1
 have hf:=ha _ hkn;obtain ⟨t0,l0,o0,o1,hl⟩:=hE.h hk;have tb:=a5Z (a:=0) (by omega) hf.size
 refine ⟨hf,t0,by omega,hl,h5,?_,hkn⟩
 unfold a1I a5k;rw [hk,show ((3:Int)==1)=false from rfl,show ((3:Int)==3)=true from rfl];simp only [f6B,f6C];omega
theorem e7G {a:Ab} {x y:D} (ha:OkA a) (h:a7H a x=0) (hw:WdE a x y):a7H a y=0∧a1I a y=a1I a x∧a0T a y=a0T a x∧kX y≠3:=by
 by_cases hk:kX x=3
 ·obtain ⟨hT,ky,sy,oy,dy,by'⟩:=hw.t hk
  obtain ⟨hf,t0,t1,t2,t3,t4,hkn⟩:=e2n ha h hk;obtain ⟨h1,h2,h3,h4,h5⟩:=b1s (ha _) h;have l4:=a0t (a1I a x) (a.bg (sX x).toNat);have hlen:((bX y).length:Int)=szL (a.fs (sX x).toNat):=by
   rw [by'];unfold e7F;simp only [f6N,List.length_take,List.length_drop,l4];omega
  have hsl:(((bX y).take (tmL 0 (a.fs (sX x).toNat)+4).toNat).drop (tmL 0 (a.fs (sX x).toNat)).toNat)=nb4 (a1I a x) (a.bg (sX x).toNat):=by
   rw [by'];unfold e7F;generalize nb4 (a1I a x) (a.bg (sX x).toNat)=q at l4⊢;have e1:((bX x).take (tmL 0 (a.fs (sX x).toNat)).toNat).length=(tmL 0 (a.fs (sX x).toNat)).toNat:=by rw [List.length_take];omega
   rw [List.take_append_of_le_length (by simp only [f6N,e1,l4];omega),List.take_of_length_le (by simp only [f6N,e1,l4];omega),List.drop_append_of_le_length (by omega),List.drop_eq_nil_of_le (by omega)]
   rfl
  have htime:a1I a y=a1I a x:=by
   have e:a1I a y=a5k a 2 (sX x) 0 (bX y):=by unfold a1I;rw [ky,sy,oy]
   rw [e];unfold a5k;rw [hsl,c0j _ t4 (by omega),decide_eq_false (show¬tmL 0 (a.fs (sX x).toNat)<0 by omega)]
   have:(a1I a x==4294967295)=false:=by simp;omega
   rw [this];rfl
  refine ⟨?_,htime,?_,by rw [ky];decide⟩
  ·unfold a7H c7J b5H
   rw [ky,sy,oy,dy,hlen,hkn];have i1:inI 2 1 3=true:=rfl;have i2:inI (sX x) 0 15=true:=decide_eq_true h2;have i3:inI 0 0 0=true:=rfl;rw [i1,show (bif ((2:Int)==3) then (3:Int) else 15)=15 from rfl,show (bif ((2:Int)==3) then (31:Int) else 0)=0 from rfl,i2,i3]
   have i4:(szL (a.fs (sX x).toNat) !=(bif ((2:Int)==3) then szL (a.fs (sX x).toNat)-4 else szL (a.fs (sX x).toNat)))=false:=by simp
   rw [i4];rfl
  ·have e1:(kX y==1)=false:=by rw [ky];rfl
   have e2:(kX x==1)=false:=by rw [hk];rfl
   unfold a0T b5s;rw [e1,e2];simp only [f6C];have:a5k a (kX y) (sX y) (oX y) (bX y)=a5k a (kX x) (sX x) (oX x) (bX x):=htime;rw [this]
 ·have he:=hw.n hk
  exact ⟨by rw [←he.err];exact h,(he.time a).symm,(he.step a).symm,by rw [←he.k];exact hk⟩
theorem WdL.ok:∀{es ys:List D} {a:Ab},OkA a→a1q a es=0→WdL a es ys→a1q a ys=0∧timesD a ys=timesD a es∧ ∀y∈ys,kX y≠3
 | [],[],_,_,_,_=>⟨rfl,rfl,by simp⟩
 | x::r,y::s,a,ha,he,h=>by
  obtain ⟨e1,e2⟩:=a2D he;obtain ⟨w1,w2,w3,w4⟩:=e7G ha e1 h.1;obtain ⟨i1,i2,i3⟩:=WdL.ok (ha.step e1) e2 h.2;refine ⟨?_,?_,?_⟩
  ·simp only [a1q]
   rw [w1,w3];exact i1
  ·rw [a5a,a5a,w2,w3,i2]
  ·intro z hz
   rcases f6M.1 hz with rfl|hz
   ·exact w4
   ·exact i3 z hz
 | [],_::_,_,_,_,h=>h.elim
 |_::_,[],_,_,_,h=>h.elim
section
variable {es:List D}
end
end Go.Proofs.YtiegikkpipdleaaGreatDoor
namespace Go.Proofs.YtiegikkpipdleaaGreatDoor
open Go Go.AM
variable {N:Nat}
def a6Q (fs:List D):Prop:=∀f∈fs,0≤fT f∧fT f≤3∧1≤fS f∧fS f≤255∧(fT f≤1→fS f=1∨fS f=2∨fS f=4)
theorem e2o {g:Int} {fs:List D} (h:b7z g fs=0):a6Q fs:=by
 unfold b7z at h;cases h1:inI g 0 65535 with
 |false=>rw [h1] at h;exact absurd (show (9:Int)=0 from h) (by decide)
 | true=>
  rw [h1] at h;cases h2:decide ((fs.length:Int)>30) with
  |true=>rw [h2] at h;exact absurd (show (3:Int)=0 from h) (by decide)
  | false=>
   rw [h2] at h;simp only [Bool.not_true,f6C] at h;intro f hf;obtain ⟨i,hi,rfl⟩:=List.getElem_of_mem hf;have:=a1Q h i hi;rw [Int.zero_add] at this;unfold c3i at this;have hg:fs.getD ((i:Int)).toNat (.i 0)=fs[i]:=by
    rw [f6F,Int.toNat_natCast,f6L hi];rfl
   rw [hg] at this;cases h0:inI (fN fs[i]) 0 255 with
   |false=>rw [h0] at this;exact absurd (show (9:Int)=0 from by simpa using this) (by decide)
   |true=>
   cases h3:inI (fS fs[i]) 1 255 with
   |false=>rw [h0,h3] at this;exact absurd (show (9:Int)=0 from by simpa using this) (by decide)
   |true=>
   cases h4:inI (fT fs[i]) 0 3 with
   |false=>rw [h0,h3,h4] at this;exact absurd (show (7:Int)=0 from by simpa using this) (by decide)
   |true=>
   rw [h0,h3,h4] at this;simp only [Bool.not_true,f6C,Bool.or_self] at this;cases h5:(decide (fT fs[i]≤1)&&(fS fs[i] !=1)&&(fS fs[i] !=2)&&(fS fs[i] !=4)) with
   |true=>rw [h5] at this;exact absurd (show (2:Int)=0 from by simpa using this) (by decide)
   |false=>
   unfold inI at h3 h4;simp only [f6z,decide_eq_true_eq] at h3 h4;refine ⟨h4.1,h4.2,h3.1,h3.2,fun ht=> ?_⟩
   rw [decide_eq_true ht] at h5;simp only [Bool.true_and] at h5;by_cases a1:fS fs[i]=1
   ·exact .inl a1
   by_cases a2:fS fs[i]=2
   ·exact .inr (.inl a2)
   by_cases a3:fS fs[i]=4
   ·exact .inr (.inr a3)
   have:∀k:Int,fS fs[i]≠k→(fS fs[i] !=k)=true:=fun k hk=>by simpa using hk
   rw [this 1 a1,this 2 a2,this 4 a3] at h5;cases h5
def a7A (s:Int) (sg:Bool):Int:=bif sg then (bif s==1 then 127 else bif s==2 then 32767 else 2147483647) else (bif s==1 then 255 else bif s==2 then 65535 else 4294967295)
def pwV (s:Int):Int:=bif s==1 then 256 else bif s==2 then 65536 else 4294967296
abbrev Sz (s:Int):Prop:=s=1∨s=2∨s=4
theorem b2W {s:Int} (h:Sz s) (sg:Bool):a8u N s sg=some (a7A s sg):=by
 rcases h with rfl|rfl|rfl<;>cases sg<;>kernel_rfl
def d8E (l:List UInt8):List UInt8:=bif decide (Lib.indexByte l 0≥0) then l.take (Lib.indexByte l 0).toNat else l
theorem f3b (l:List UInt8) (c:UInt8):Lib.indexByte l c<(l.length:Int)∨l=[]:=by
 induction l with
 |nil=>exact .inr rfl
 | cons b l ih=>
  left;have hg:=Lib.indexByte_ge l c;simp only [Lib.indexByte,f6O];by_cases h1:(b==c)=true
  ·rw [if_pos h1];omega
  ·rw [if_neg h1]
   by_cases h2:(Lib.indexByte l c== -1)=true
   ·rw [if_pos h2];omega
   ·rw [if_neg h2]
    rcases ih with ih|rfl
    ·omega
    ·exact absurd (show (Lib.indexByte [] c== -1)=true from rfl) h2
theorem e2p {l:List UInt8} (hl:l.length≤maxLen):∃r c,d6o N l=some (d8E l,r,c):=by
 have hm:maxLen=9223372036854775807:=rfl;have hv:c4S N l=Lib.indexByte l 0:=by
  unfold c4S c4R c18 b4k;cases h:(([0]:List UInt8)==l) with
  |true=>rw [←eq_of_beq h];rfl
  |false=>rfl
 have hg:=Lib.indexByte_ge l 0;unfold d6o d0n c7q b64 d8E;simp only [a0i,hv];rcases f3b l 0 with hlt|rfl
 ·generalize Lib.indexByte l 0=j at hg hlt⊢
  by_cases hj:j≥0
  ·rw [decide_eq_true hj,decide_eq_true (show j≤(l.length:Int) by omega),a0s (x:=j+1) (by omega) (by omega),decide_eq_true (show 0≤j+1 by omega),decide_eq_true (show j+1≤(l.length:Int) by omega),decide_eq_true (Int.le_refl (l.length:Int))]
   exact ⟨_,_,rfl⟩
  ·rw [decide_eq_false hj]
   exact ⟨_,_,rfl⟩
 ·exact ⟨_,_,rfl⟩
def c0u (s t:Int) (b:List D) (big:Bool):Int×List UInt8×Bool:=
 bif t==3 then (0,a9H b,false) else bif t==2 then (0,d8E (a9H b),d8E (a9H b)==[]) else
 bif a7x b big==a7A s (t==1) then (0,[],true) else (bif (t==1)&&decide (a7x b big>a7A s true) then a7x b big-pwV s else a7x b big,[],false)
structure f3c (s t:Int) (b:List D):Prop where
 t0:0≤t
 t3:t≤3
 sz:t≤1→Sz s
 len:(b.length:Int)=s
 by_:a0n b
 hl:b.length≤255
theorem f3d {s n:Int} (h:Sz s) (h0:0≤n) (h1:n<4294967296) (c:Bool):
  (bif c then (bif decide (0≤IntKind.wrap .i64 (8*s)) then bnd (IntKind.wrap .i64 (1*2^(min (IntKind.wrap .i64 (8*s)).toNat 64))) fun y0=>some (IntKind.wrap .i64 (n-y0)) else none) else some n)=some (bif c then n-pwV s else n):=by
 have e:∀k,some (IntKind.wrap .i64 (n-k))=some (n-k)∨ ¬(0≤k∧k≤4294967296):=fun k=>by
  by_cases hk:0≤k∧k≤4294967296
  ·left;rw [a0s (by omega) (by omega)]
  ·exact .inr hk
 cases c with
 |false=>rfl
 | true=>
  simp only [f6B,a0i];rcases h with rfl|rfl|rfl
  ·have e1:IntKind.wrap .i64 (8*1)=8:=by decide
   have e2:IntKind.wrap .i64 (1*2^(min (8:Int).toNat 64))=256:=by decide
   rw [e1,e2,a0s (x:=n-256) (by omega) (by omega)];rfl
  ·have e1:IntKind.wrap .i64 (8*2)=16:=by decide
   have e2:IntKind.wrap .i64 (1*2^(min (16:Int).toNat 64))=65536:=by decide
   rw [e1,e2,a0s (x:=n-65536) (by omega) (by omega)];rfl
  ·have e1:IntKind.wrap .i64 (8*4)=32:=by decide
   have e2:IntKind.wrap .i64 (1*2^(min (32:Int).toNat 64))=4294967296:=by decide
   rw [e1,e2,a0s (x:=n-4294967296) (by omega) (by omega)];rfl
theorem c7O (b:List D):(a9H b).length=b.length:=by unfold a9H;simp
theorem e32 {s:Int} {b:List D} (h:Sz s) (hl:(b.length:Int)=s):b.length≤4:=by rcases h with rfl|rfl|rfl<;>omega
theorem e2q (hN:maxLen<N) {s t at_:Int} {data:List D} (big:Bool) (h0:0≤at_) (h1:at_+s≤data.length) (hs0:0≤s) (hd:data.length≤maxLen) (h:f3c s t ((data.take (at_+s).toNat).drop at_.toNat)):
  d0q N s t at_ data big=some (c0u s t ((data.take (at_+s).toNat).drop at_.toNat) big):=by
 have hm:maxLen=9223372036854775807:=rfl;unfold d0q d6w;rw [a0s (x:=at_+s) (by omega) (by omega),decide_eq_true h0,decide_eq_true (show at_≤at_+s by omega),decide_eq_true h1]
 simp only [Bool.and_self,f6B,a0i];generalize (data.take (at_+s).toNat).drop at_.toNat=b at h⊢;have hb:=h.hl;have ht0:=h.t0;have ht3:=h.t3;unfold a46 a3K a45 a3J c0u;by_cases h3:t=3
 ·subst h3;rfl
 ·have e3:(t==3)=false:=by simpa using h3
  rw [e3];by_cases h2:t=2
  ·subst h2
   obtain ⟨r,c,q⟩:=e2p (N:=N) (l:=a9H b) (by rw [c7O];omega)
   rw [q];rfl
  ·have e2:(t==2)=false:=by simpa using h2
   have hsz:=h.sz (by omega)
   have hn:=b7D h.by_ big (e32 hsz h.len);rw [e2,a9z hN h.by_ big (e32 hsz h.len),b2W hsz];simp only [f6C,a0i,f6G,getD_some,f6B];generalize a7x b big=n at hn⊢;unfold a44 a3I b2F a6y b2G a6z;cases hmi:(n==a7A s (t==1)) with
   |true=>rfl
   | false=>
    have k:=f3d hsz hn.1 hn.2 ((t==1)&&decide (n>a7A s true));simp only [f6C,a0i];have hc:(bif t==1 then (bif (a8u N s true).isSome then some (decide (n>(a8u N s true).getD default)) else none) else some false)=some ((t==1)&&decide (n>a7A s true)):=by
     rw [b2W hsz];cases t==1<;>rfl
    rw [hc];simp only [f6G,getD_some,f6B];simp only [a0i] at k;rw [k];rfl
def b2X (f:D) (a:Int) (data:List D) (big:Bool):D:=
 .a [.i (fN f),.i (fT f),.i (c0u (fS f) (fT f) ((data.take (a+fS f).toNat).drop a.toNat) big).1,.s (c0u (fS f) (fT f) ((data.take (a+fS f).toNat).drop a.toNat) big).2.1,.b (c0u (fS f) (fT f) ((data.take (a+fS f).toNat).drop a.toNat) big).2.2]
def a4u (data:List D) (big:Bool):Bool→Int→List D→List D
 |_,_,[]=>[]
 |t,a,f::r=>bif t&&isT f then a4u data big false a r else b2X f a data big::a4u data big t (a+fS f) r
def a1H:Bool→Int→List D→List D
 |_,_,[]=>[]
 |t,a,f::r=>bif t&&isT f then a1H false a r else .a [.i (fN f),.i (fS f),.i (fT f),.i a]::a1H t (a+fS f) r
theorem a6K:∀{fs:List D} {t:Bool} {a:Int},(a1H t a fs).length≤fs.length
 | [],_,_=>Nat.le_refl _
 |f::r,t,a=>by
  simp only [a1H];cases t&&isT f with
  |true=>have:=a6K (fs:=r) (t:=false) (a:=a);simp only [f6B,f6O];omega
  |false=>have:=a6K (fs:=r) (t:=t) (a:=a+fS f);simp only [f6C,f6O];omega
section
variable {fs:List D}
def f45 (short t:Bool) (T all:Int) (r:List D):Prop:=bif short then (bif t then T=tmL all r else T<all) else t=false
theorem c7P (hN:maxLen<N) (h:a1P fs) (ht:a6Q fs) (short:Bool):∃nl,c4K N fs (tmL 0 fs) short=some (nl,a1H short 0 fs):=by
 have hm:maxLen=9223372036854775807:=rfl;have hl:=h.len;have key:=a4t (A:=Int×Int×Int×Bool×LD) (X:=Option (Bool×LD)) (S:=fun x kr=>a8D N short fs fs.length (tmL 0 fs) x.1 x.2.1 x.2.2.1 x.2.2.2.1 x.2.2.2.2 (fun a b c d e=>kr (a,b,c,d,e)) (fun p=>some p)) (L:=fun m x=>b2g N short fs fs.length (tmL 0 fs) m x.1 x.2.1 x.2.2.1 x.2.2.2.1 x.2.2.2.2 (fun p=>some p)) (fun m x=>rfl)
  (fun x r=>∀t,f45 short t (tmL 0 fs) x.2.1 (fs.drop x.2.2.1.toNat)→ ∃nl,r=some (nl,x.2.2.2.2++a1H t x.1 (fs.drop x.2.2.1.toNat)))
  (fun x=>0≤x.2.2.1∧x.2.2.1≤fs.length∧0≤x.1∧x.1≤255*x.2.2.1∧0≤x.2.1∧x.2.1≤255*x.2.2.1∧(x.2.2.2.2.length:Int)≤x.2.2.1) (fun x=>(fs.length-x.2.2.1).toNat) ?_ N (0,0,0,true,[]) ⟨by decide,by show (0:Int)≤_;omega,by decide,by decide,by decide,by decide,by decide⟩ (by simp;omega)
 ·obtain ⟨nl,k2⟩:=key short (by cases short<;>rfl)
  have k3:c6M N short fs fs.length (tmL 0 fs) 0 0 0 true []=some (nl,a1H short 0 fs):=by
   refine Eq.trans k2 ?_;simp
  refine ⟨nl,?_⟩;unfold c4K c9o;rw [k3];rfl
 ·rintro ⟨w1,all,w,b,l⟩ kr ⟨h0,h1,h2,h3,h4,h5,h6⟩ ih t hT
  simp only at h0 h1 h2 h3 h4 h5 h6 ih hT⊢;unfold a8D;by_cases hw:w<fs.length
  ·have hf:=ht _ (a0R h0 hw)
   rw [decide_eq_true hw,a0K h0 hw,a05 (.i 0) h0 hw];rw [a05 (.i 0) h0 hw] at hT;have r1:decide ((l.length+1)*32≤a0L)=true:=decide_eq_true (by unfold a0L;omega)
   have r2:decide (l.length+1≤a0d)=true:=decide_eq_true (by unfold a0d;omega)
   have e1:((fs.getD w.toNat (.i 0)).cell 1).toI=fS (fs.getD w.toNat (.i 0)):=rfl;have w1':=a0s (x:=w+1) (by omega) (by omega)
   simp only [f6B,a0i,r1,r2,Bool.and_self,e1,w1',a0s (x:=all+fS (fs.getD w.toNat (.i 0))) (by omega) (by omega),a0s (x:=w1+fS (fs.getD w.toNat (.i 0))) (by omega) (by omega),a1H]
   have hc:(bif short then all==tmL 0 fs else false)=(t&&isT (fs.getD w.toNat (.i 0)))∧f45 short (t&& !(isT (fs.getD w.toNat (.i 0)))) (tmL 0 fs) (all+fS (fs.getD w.toNat (.i 0))) (fs.drop (w+1).toNat):=by
    unfold f45 at hT⊢;cases short with
    |false=>simp only [f6C] at hT⊢;subst hT;exact ⟨rfl,rfl⟩
    | true=>
     simp only [f6B] at hT⊢;cases t with
     |false=>
      simp only [f6C,Bool.false_and] at hT⊢;refine ⟨?_,by omega⟩
      simp;omega
     | true=>
      simp only [f6B,Bool.true_and,tmL] at hT⊢;cases hi:isT (fs.getD w.toNat (.i 0)) with
      |true=>
       rw [hi] at hT;simp only [f6B,Bool.not_true,f6C] at hT⊢;exact ⟨by simp;omega,by omega⟩
      |false=>
       rw [hi] at hT;simp only [f6C,Bool.not_false,f6B] at hT⊢;refine ⟨?_,hT⟩;have:=a5Z (fs:=fs.drop (w+1).toNat) (a:=all+fS (fs.getD w.toNat (.i 0))) (by omega) (fun x hx=>h.size x (List.mem_of_mem_drop hx))
       simp;omega
   rw [hc.1];cases hti:(t&&isT (fs.getD w.toNat (.i 0))) with
   |true=>
    simp only [f6B];have ht2:(t&& !(isT (fs.getD w.toNat (.i 0))))=false:=(by decide:∀x y:Bool,(x&&y)=true→(x&& !y)=false) _ _ hti
    exact ih (w1,all+fS (fs.getD w.toNat (.i 0)),w+1,b,l) ⟨by simp only;omega,by simp only;omega,by simp only;omega,by simp only;omega,by simp only;omega,by simp only;omega,by simp only;omega⟩ (by simp only;omega) false (ht2▸hc.2)
   |false=>
    simp only [f6C];have ht2:(t&& !(isT (fs.getD w.toNat (.i 0))))=t:=(by decide:∀x y:Bool,(x&&y)=false→(x&& !y)=x) _ _ hti
    obtain ⟨nl,e⟩:=ih (w1+fS (fs.getD w.toNat (.i 0)),all+fS (fs.getD w.toNat (.i 0)),w+1,false,l++[.a [.i (fN (fs.getD w.toNat (.i 0))),.i (fS (fs.getD w.toNat (.i 0))),.i (fT (fs.getD w.toNat (.i 0))),.i w1]]) ⟨by simp only;omega,by simp only;omega,by simp only;omega,by simp only;omega,by simp only;omega,by simp only;omega,by simp;omega⟩ (by simp only;omega) t (ht2▸hc.2)
    exact ⟨nl,by rw [←List.append_cons] at e;exact e⟩
  ·have:w=fs.length:=by omega
   subst this;rw [decide_eq_false hw,a0U (by omega)]
   exact ⟨b,by simp [a1H]⟩
end
def f3K (n:Int):List D→Prop
 | []=>True
 |f::r=>(0≤(f.cell 3).toI∧(f.cell 3).toI+fS f≤n)∧f3K n r
theorem a9D:∀{fs:List D} {t:Bool} {a n:Int},a6Q fs→0≤a→a+szL (flds t fs)≤n→f3K n (a1H t a fs)∧a6Q (a1H t a fs)
 | [],_,_,_,_,_,_=>⟨trivial,fun f hf=>by simp [a1H] at hf⟩
 | f::r,t,a,n,ht,h0,h1=>by
  have h2:=ht f (by simp)
  have h3:a6Q r:=fun x hx=>ht x (by simp [hx])
  simp only [flds,a1H] at h1⊢;cases hh:t&&isT f with
  |true=>
   rw [hh] at h1;simp only [f6B] at h1⊢;exact a9D h3 h0 h1
  |false=>
   rw [hh] at h1;simp only [f6C,szL] at h1⊢;have e:fS (.a [.i (fN f),.i (fS f),.i (fT f)])=fS f:=rfl;rw [e] at h1;obtain ⟨q1,q2⟩:=a9D (t:=t) (a:=a+fS f) (n:=n) h3 (by omega) (by omega)
   have hb:=a3O (fs:=flds t r) (fun x hx=>(c0b (fun y hy=>by have:=h3 y hy;omega)).2 x hx)
   refine ⟨⟨⟨h0,by show a+fS f≤n;omega⟩,q1⟩,fun x hx=> ?_⟩
   rcases f6M.1 hx with rfl|hx
   ·exact h2
   ·exact q2 x hx
section
variable {fs data:List D} {big:Bool}
theorem d7Z {f:D} {a:Int} (hf:0≤fT f∧fT f≤3∧1≤fS f∧fS f≤255∧(fT f≤1→fS f=1∨fS f=2∨fS f=4)) (h0:0≤a) (h1:a+fS f≤data.length) (hb:a0n data):f3c (fS f) (fT f) ((data.take (a+fS f).toNat).drop a.toNat):=by
 have hl:((data.take (a+fS f).toNat).drop a.toNat).length=(fS f).toNat:=by simp;omega
 exact ⟨hf.1,hf.2.1,hf.2.2.2.2,by omega,fun x hx=>hb x (List.mem_of_mem_take (List.mem_of_mem_drop hx)),by omega⟩
theorem c0k:∀{l:List D} {n:Int} {i:Nat},f3K n l→i<l.length→0≤((l.getD i (.i 0)).cell 3).toI∧((l.getD i (.i 0)).cell 3).toI+fS (l.getD i (.i 0))≤n
 |f::r,n,0,h,_=>h.1
 |f::r,n,i+1,h,hi=>by
  have:=c0k (l:=r) (i:=i) h.2 (by simpa using hi)
  simpa using this
 | [],_,_,_,hi=>by simp at hi
def f3L (data:List D) (big:Bool) (f:D):D:=b2X f (f.cell 3).toI data big
theorem b5x:∀{fs:List D} {t:Bool} {a:Int},(a1H t a fs).map (f3L data big)=a4u data big t a fs
 | [],_,_=>rfl
 |f::r,t,a=>by
  simp only [a1H,a4u];cases t&&isT f with
  |true=>exact b5x
  |false=>simp only [f6C,List.map_cons,b5x];rfl
theorem d1b (hN:maxLen<N) {l:List D} (hl:l.length≤255) (hd:data.length≤maxLen) (hb:a0n data) (h1:f3K data.length l) (h2:a6Q l):∃nl,d6A N l l.length big data 0 true []=some (nl,l.map (f3L data big)):=by
 have hm:maxLen=9223372036854775807:=rfl;have key:=a4t (A:=Int×Bool×LD) (X:=Option (Bool×LD)) (S:=fun x kr=>b4T N l l.length big data x.1 x.2.1 x.2.2 (fun a b c=>kr (a,b,c)) (fun p=>some p)) (L:=fun m x=>b9z N l l.length big data m x.1 x.2.1 x.2.2 (fun p=>some p)) (fun m x=>rfl)
  (fun x r=>∃nl,r=some (nl,x.2.2++(l.drop x.1.toNat).map (f3L data big))) (fun x=>0≤x.1∧x.1≤l.length∧(x.2.2.length:Int)≤x.1) (fun x=>(l.length-x.1).toNat) ?_ N (0,true,[]) ⟨by show (0:Int)≤0;omega,by show (0:Int)≤_;omega,by simp⟩ (by simp;omega)
 ·obtain ⟨nl,k2⟩:=key
  exact ⟨nl,Eq.trans k2 (by simp)⟩
 ·rintro ⟨w,b,acc⟩ kr ⟨h0,h3,h4⟩ ih
  simp only at h0 h3 h4 ih⊢;unfold b4T;by_cases hw:w<l.length
  ·have hf:=h2 _ (a0R (fs:=l) h0 hw)
   have ha:=c0k (i:=w.toNat) h1 (by omega)
   have r1:decide ((acc.length+1)*48≤a0L)=true:=decide_eq_true (by unfold a0L;omega)
   have r2:decide (acc.length+1≤a0d)=true:=decide_eq_true (by unfold a0d;omega)
   have q:=e2q (N:=N) (s:=fS (l.getD w.toNat (.i 0))) (t:=fT (l.getD w.toNat (.i 0))) (at_:=((l.getD w.toNat (.i 0)).cell 3).toI) (data:=data) hN big ha.1 ha.2 (by omega) hd (d7Z hf ha.1 ha.2 hb)
   rw [decide_eq_true hw,a0K h0 hw,a05 (.i 0) h0 hw];have q':d0q N ((l.getD w.toNat (.i 0)).cell 1).toI ((l.getD w.toNat (.i 0)).cell 2).toI ((l.getD w.toNat (.i 0)).cell 3).toI data big=_:=q;simp only [f6B,a0i,q',f6G,getD_some,r1,r2,Bool.and_self,a0s (x:=w+1) (by omega) (by omega),List.map_cons]
   obtain ⟨nl,e⟩:=ih (w+1,false,acc++[f3L data big (l.getD w.toNat (.i 0))]) ⟨by simp only;omega,by simp only;omega,by simp;omega⟩ (by simp only;omega)
   exact ⟨nl,by rw [←List.append_cons] at e;exact e⟩
  ·have:w=l.length:=by omega
   subst this;rw [decide_eq_false hw,a0U (by omega)]
   exact ⟨b,by simp⟩
theorem e2r (hN:maxLen<N) (h:a1P fs) (ht:a6Q fs) (hd:data.length≤maxLen) (hb:a0n data) (kind:Int) (hlen:szL (flds (kind==3) fs)≤data.length):
  ∃nl,d0s N big fs (tmL 0 fs) kind data=some (nl,a4u data big (kind==3) 0 fs):=by
 obtain ⟨n1,q1⟩:=c7P (N:=N) hN h ht (kind==3);obtain ⟨a1,a2⟩:=a9D (t:=kind==3) (a:=0) (n:=data.length) ht (by omega) (by omega)
 obtain ⟨n2,q2⟩:=d1b (N:=N) (big:=big) hN (l:=a1H (kind==3) 0 fs) (by have:=a6K (fs:=fs) (t:=kind==3) (a:=0);have:=h.len;omega) hd hb a1 a2
 refine ⟨n2,?_⟩;unfold d0s d6C;simp only [a0i];rw [q1];simp only [f6G,getD_some,f6B];rw [q2,b5x];rfl
theorem a6Q.flds:∀{fs:List D} {t:Bool},a6Q fs→a6Q (flds t fs)
 | [],_,_,f,hf=>by simp [Proofs.YtiegikkpipdleaaGreatDoor.flds] at hf
 | f::r,t,h,x,hx=>by
  have h3:a6Q r:=fun x hx=>h x (by simp [hx])
  simp only [Proofs.YtiegikkpipdleaaGreatDoor.flds] at hx;cases hh:t&&isT f with
  |true=>rw [hh] at hx;exact a6Q.flds h3 x hx
  |false=>
   rw [hh] at hx;rcases f6M.1 hx with rfl|hx
   ·exact h f (by simp)
   ·exact a6Q.flds h3 x hx
end
end Go.Proofs.YtiegikkpipdleaaGreatDoor
namespace Go.Proofs.YtiegikkpipdleaaGreatDoor
open Go Go.AM
variable {N:Nat}
def isV (f t:Int) (v:D):Bool:=bif (bif (v.cell 0).toI==f then (v.cell 1).toI==t else false) then !(v.cell 4).toB else false
def isX (f:Int) (v:D):Bool:=bif (v.cell 0).toI==f then (v.cell 1).toI==2 else false
def c3p (f t:Int) (vs:List D):Int×Bool:=match vs.find? (isV f t) with|some v=>((v.cell 2).toI,true)|none=>(0,false)
def d70 (f:Int) (vs:List D):List UInt8:=match vs.find? (isX f) with|some v=>(v.cell 3).toS|none=>[]
def fV (p:D→Bool) (l:List D):Sum Int Unit:=match l.find? p with|some v=> .inl (v.cell 2).toI|none=> .inr ()
def fX (p:D→Bool) (l:List D):Sum (List UInt8) Unit:=match l.find? p with|some v=> .inl (v.cell 3).toS|none=> .inr ()
theorem e7H {p:D→Bool} {x:D} {l:List D}:fV p (x::l)=bif p x then .inl (x.cell 2).toI else fV p l:=by
 unfold fV;rw [List.find?_cons];cases p x<;>rfl
theorem e7I {p:D→Bool} {x:D} {l:List D}:fX p (x::l)=bif p x then .inl (x.cell 3).toS else fX p l:=by
 unfold fX;rw [List.find?_cons];cases p x<;>rfl
section
variable {vs:List D}
theorem c7Q (hN:maxLen<N) (hl:vs.length≤maxLen) (f t:Int):b1G N vs f t=some (c3p f t vs):=by
 have h:c5l N f t vs vs.length 0=some (fV (isV f t) vs):=by
  unfold c5l;refine a2S (.i 0:D) (S:=fun w kr=>b0q N f t vs vs.length w kr _ _) (L:=fun m w=>b9G N f t vs vs.length m w _ _) (fun m w=>rfl) (fun _ l=>some (fV (isV f t) l)) hl ?_ ?_ hN
  ·intro kr;simp [b0q];rfl
  ·intro w kr h0 h1 hw hi hk
   simp only [b0q,decide_eq_true h1,f6B,hi,a0i,hw,hk,e7H];show (bif isV f t (vs.getD w.toNat (.i 0)) then _ else _)=_
   cases isV f t (vs.getD w.toNat (.i 0))<;>rfl
 unfold b1G d0z c3p;rw [h];unfold fV;cases vs.find? (isV f t)<;>rfl
theorem c7R (hN:maxLen<N) (hl:vs.length≤maxLen) (f:Int):c5k N vs f=some (d70 f vs):=by
 have h:c5j N f vs vs.length 0=some (fX (isX f) vs):=by
  unfold c5j;refine a2S (.i 0:D) (S:=fun w kr=>b0p N f vs vs.length w kr _ _) (L:=fun m w=>b9D N f vs vs.length m w _ _) (fun m w=>rfl) (fun _ l=>some (fX (isX f) l)) hl ?_ ?_ hN
  ·intro kr;simp [b0p];rfl
  ·intro w kr h0 h1 hw hi hk
   simp only [b0p,decide_eq_true h1,f6B,hi,a0i,hw,hk,e7I];show (bif isX f (vs.getD w.toNat (.i 0)) then _ else _)=_
   cases isX f (vs.getD w.toNat (.i 0))<;>rfl
 unfold c5k d0x d70;rw [h];unfold fX;cases vs.find? (isX f)<;>rfl
def knV (f:Int) (vs:List D):Int:=bif (c3p f 0 vs).2 then (c3p f 0 vs).1 else-1
end
def OkT (a:Ab):Prop:=∀j,a.kn j=true→a6Q (a.fs j)
theorem OkT.step {a:Ab} (h:OkT a) {x:D} (hx:a7H a x=0):OkT (a0T a x):=by
 unfold a0T b5s;cases hk:kX x==1 with
 |true=>
  have hE:=a11 hx;have hf:=e2o (hE.d (by simpa using hk)).2
  intro j hj;simp only [f6B,upA] at hj⊢;by_cases e:j=(sX x).toNat
  ·simp only [if_pos e];exact hf
  ·simp only [if_neg e] at hj⊢;exact h j hj
 |false=>exact h
theorem OkT.start:OkT Ab.start:=fun j hj=>by simp [Ab.start] at hj
def a7B (a:Ab) (x:D):List D:=a4u (bX x) (a.bg (sX x).toNat) (kX x==3) 0 (a.fs (sX x).toNat)
abbrev Tri:Type:=Int×Int×List D
def a1F:Ab→List D→List Tri
 |_,[]=>[]
 |a,x::r=>bif kX x==1 then a1F (a0T a x) r else (a.gl (sX x).toNat,a1I a x,a7B a x)::a1F (a0T a x) r
def f46 (d:D) (t:Tri):Prop:=(d.cell 0).toI=t.1∧(d.cell 1).toI=t.2.1∧(d.cell 2).items=t.2.2
theorem b5y {data:List D} {big:Bool}:∀{fs:List D} {t:Bool} {a:Int},(a4u data big t a fs).length≤fs.length
 | [],_,_=>Nat.le_refl _
 |f::r,t,a=>by
  simp only [a4u];cases t&&isT f with
  |true=>have:=b5y (data:=data) (big:=big) (fs:=r) (t:=false) (a:=a);simp only [f6B,f6O];omega
  |false=>have:=b5y (data:=data) (big:=big) (fs:=r) (t:=t) (a:=a+fS f);simp only [f6C,f6O];omega
theorem e2s (l:List UInt8):(d8E l).length≤l.length:=by
 unfold d8E;cases decide (Lib.indexByte l 0≥0) with
 |true=>simp only [f6B,List.length_take];omega
 |false=>exact Nat.le_refl _
theorem b5z {data:List D} {big:Bool}:∀{fs:List D} {t:Bool} {a:Int},∀v∈a4u data big t a fs,(v.cell 3).toS.length≤data.length
 | [],_,_,v,hv=>by simp [a4u] at hv
 | f::r,t,a,v,hv=>by
  simp only [a4u] at hv;cases hh:t&&isT f with
  |true=>rw [hh] at hv;exact b5z v hv
  | false=>
   rw [hh] at hv;rcases f6M.1 hv with rfl|hv
   ·show (c0u (fS f) (fT f) ((data.take (a+fS f).toNat).drop a.toNat) big).2.1.length≤data.length
    have hb:((data.take (a+fS f).toNat).drop a.toNat).length≤data.length:=by simp;omega
    have hs:=c7O ((data.take (a+fS f).toNat).drop a.toNat);generalize (data.take (a+fS f).toNat).drop a.toNat=b at hb hs⊢;have hc:=e2s (a9H b);unfold c0u;cases fT f==3<;>cases fT f==2<;>cases a7x b big==a7A (fS f) (fT f==1)<;>simp<;>omega
   ·exact b5z v hv
def c0l (t:Tri):Prop:=t.2.2.length≤255∧ ∀v∈t.2.2,(v.cell 3).toS.length≤maxLen
theorem c0m {f:Int} {vs:List D} (h:∀v∈vs,(v.cell 3).toS.length≤maxLen):(d70 f vs).length≤maxLen:=by
 unfold d70;cases hv:vs.find? (isX f) with
 |none=>exact Nat.zero_le _
 |some v=>exact h v (List.mem_of_find?_eq_some hv)
theorem d71 {a:Ab} {x:D} (ha:OkA a) (ht:OkT a) (h:a7H a x=0) (hx:a3c x) (hk:kX x≠1):a1P (a.fs (sX x).toNat)∧a6Q (a.fs (sX x).toNat)∧szL (flds (kX x==3) (a.fs (sX x).toNat))≤(bX x).length∧(bX x).length≤maxLen∧a0n (bX x)∧a.kn (sX x).toNat=true:=by
 have hE:=a11 h;have hkn:=(hE.n hk).1;have hf:=ha _ hkn;refine ⟨hf,ht _ hkn,?_,hx.b,hx.y,hkn⟩;by_cases h3:kX x=3
 ·obtain ⟨t0,l0,o0,o1,hl⟩:=hE.h h3
  have:=(c0a (a:=0) (by omega) hf.size).2 t0
  rw [h3];show szL (flds true _)≤_;rw [this];omega
 ·have h2:kX x=2:=by have:=hE.k;omega
  have:=hE.t h2;rw [h2];show szL (flds false _)≤_;rw [a20];omega
theorem f3e {a:Ab} {x:D} (ha:OkA a) (h:a7H a x=0) (hx:a3c x) (hk:kX x≠1) (g t:Int):c0l (g,t,a7B a x):=by
 have hE:=a11 h;have hf:=ha _ (hE.n hk).1;exact ⟨Nat.le_trans b5y hf.len,fun v hv=>Nat.le_trans (b5z v hv) hx.b⟩
section
variable {es:List D}
theorem c0n:∀{es:List D} {a:Ab},OkA a→a1q a es=0→(∀x∈es,a3c x)→(a1F a es).length≤es.length∧ ∀t∈a1F a es,c0l t
 | [],_,_,_,_=>⟨Nat.le_refl _,fun t ht=>by simp [a1F] at ht⟩
 | x::r,a,ha,he,hes=>by
  obtain ⟨e1,e2⟩:=a2D he;have ih:=c0n (ha.step e1) e2 (fun y hy=>hes y (by simp [hy]))
  simp only [a1F];cases hk:kX x==1 with
  |true=>simp only [f6B,f6O];exact ⟨by omega,ih.2⟩
  |false=>
   simp only [f6C,f6O];refine ⟨by omega,fun t ht=> ?_⟩
   rcases f6M.1 ht with rfl|ht
   ·exact f3e ha e1 (hes x (by simp)) (by simpa using hk) _ _
   ·exact ih.2 t ht
theorem d72 (hN:maxLen<N) (hes:∀x∈es,a3c x) (hl:es.length≤50000):∀(m:Nat) (i:Int) (p s:D) (a:Ab) (b:Bool) (acc:List D),OkA a→OkT a→0≤i→i≤es.length→(es.length-i).toNat<m→Wk p s a i→a1q a (es.drop i.toNat)=0→(acc.length:Int)≤i→
  ∃b' dl,a9g N es es.length m i b acc p (fun p=>some p)=some (b',acc++dl)∧All2 f46 dl (a1F a (es.drop i.toNat)):=by
 have hm:maxLen=9223372036854775807:=rfl;intro m;induction m with
 |zero=>intro i p s a b acc _ _ _ _ h;omega
 | succ m ih=>
  intro i p s a b acc ha ht h0 h1 hmm hw he hacc;unfold a9g b2K;by_cases hi:i<es.length
  ·have hx:a3c _:=hes _ (a0R (fs:=es) h0 hi)
   rw [a05 (.i 0) h0 hi] at he⊢;obtain ⟨e1,e2⟩:=a2D he;obtain ⟨p',s',q1,q2,hw'⟩:=c0f (N:=N) hN hw hx h0 (by omega) e1
   have hE:=a11 e1;have r1:decide ((acc.length+1)*40≤a0L)=true:=decide_eq_true (by unfold a0L;omega)
   have r2:decide (acc.length+1≤a0d)=true:=decide_eq_true (by unfold a0d;omega)
   rw [decide_eq_true hi,a0K h0 hi,q1];simp only [f6B,a0i,f6G,getD_some,hE.s.1,a0s (x:=i+1) (by omega) (by omega)]
   unfold b2J a9f;by_cases hk:kX (es.getD i.toNat (.i 0))=1
   ·have b1:(((es.getD i.toNat (.i 0)).cell 0).toI !=1)=false:=by show (kX _ !=1)=false;rw [hk];rfl
    rw [b1];simp only [f6C];obtain ⟨b',dl,z1,z2⟩:=ih (i+1) p' s' _ b acc (ha.step e1) (ht.step e1) (by omega) (by omega) (by omega) hw' e2 (by omega)
    refine ⟨b',dl,z1,?_⟩;simp only [a1F];rw [hk];exact z2
   ·have b1:(((es.getD i.toNat (.i 0)).cell 0).toI !=1)=true:=(f27 hk).2
    obtain ⟨s1,s2,s3,s4,s5⟩:=d7T (a:=a) hk;obtain ⟨f1,f2,f3,f4,f5,f6⟩:=d71 ha ht e1 hx hk;have hkn:(a0T a (es.getD i.toNat (.i 0))).kn (sX (es.getD i.toNat (.i 0))).toNat=true:=by rw [s1];exact f6
    obtain ⟨_,g2,g3,g4,g5,g6⟩:=hw'.pp.df _ hE.s.2 hkn;unfold a0T at s2 s3 s4;rw [s2] at g2;rw [s3] at g3;rw [s4] at g4 g6;obtain ⟨nl,hv⟩:=e2r (N:=N) (big:=a.bg (sX (es.getD i.toNat (.i 0))).toNat) hN f1 f2 f4 f5 (kX (es.getD i.toNat (.i 0))) f3;rw [b1];have c1:(p'.cell (1+(((es.getD i.toNat (.i 0)).cell 1).toI.toNat*6))).toB=a.bg (sX (es.getD i.toNat (.i 0))).toNat:=g2;have c2:(p'.cell (2+(((es.getD i.toNat (.i 0)).cell 1).toI.toNat*6))).toI=a.gl (sX (es.getD i.toNat (.i 0))).toNat:=g3
    have c3:(p'.cell (3+(((es.getD i.toNat (.i 0)).cell 1).toI.toNat*6))).items=a.fs (sX (es.getD i.toNat (.i 0))).toNat:=g4;have c5:(p'.cell (5+(((es.getD i.toNat (.i 0)).cell 1).toI.toNat*6))).toI=tmL 0 (a.fs (sX (es.getD i.toNat (.i 0))).toNat):=g6;rw [c1,c2,c3,c5];have hv':d0s N (a.bg (sX (es.getD i.toNat (.i 0))).toNat) (a.fs (sX (es.getD i.toNat (.i 0))).toNat) (tmL 0 (a.fs (sX (es.getD i.toNat (.i 0))).toNat)) ((es.getD i.toNat (.i 0)).cell 0).toI ((es.getD i.toNat (.i 0)).cell 4).items=some (nl,a7B a (es.getD i.toNat (.i 0))):=hv
    simp only [f6B,a0i,hv',f6G,getD_some,r1,r2,Bool.and_self,a2x,a2y];obtain ⟨b',dl,z1,z2⟩:=ih (i+1) p' s' _ false (acc++[.a [.i (a.gl (sX (es.getD i.toNat (.i 0))).toNat),.i (a1I a (es.getD i.toNat (.i 0))),.l nl (a7B a (es.getD i.toNat (.i 0)))]]) (ha.step e1) (ht.step e1) (by omega) (by omega) (by omega) hw' e2 (by simp;omega)
    refine ⟨b',.a [.i (a.gl (sX (es.getD i.toNat (.i 0))).toNat),.i (a1I a (es.getD i.toNat (.i 0))),.l nl (a7B a (es.getD i.toNat (.i 0)))]::dl,by rw [←List.append_cons] at z1;exact z1,?_⟩
    simp only [a1F];rw [(f27 hk).1];exact ⟨⟨rfl,rfl,rfl⟩,z2⟩
  ·have:i=es.length:=by omega
   subst this;rw [decide_eq_false hi,a0U (by omega)]
   exact ⟨b,[],by simp,trivial⟩
theorem d73 (hN:maxLen<N) (hes:∀x∈es,a3c x) (h:fileE es=0):∃b dl,d0v N es=some (b,dl)∧All2 f46 dl (a1F Ab.start es):=by
 have hm:maxLen=9223372036854775807:=rfl;obtain ⟨hl,he⟩:=a36 h;obtain ⟨b,dl,z,zr⟩:=d72 (N:=N) hN hes hl N 0 (b0b N) a7y Ab.start true [] OkA.start OkT.start (by omega) (by omega) (by omega) b5t (by simpa using he) (by simp)
 have y1:b9B N es es.length 0 true [] (b0b N)=some (b,dl):=by unfold b9B;simpa using z
 refine ⟨b,dl,?_,by simpa using zr⟩
 unfold d0v d0u;simp only [a0i];rw [y1];rfl
end
end Go.Proofs.YtiegikkpipdleaaGreatDoor
namespace Go.Proofs.YtiegikkpipdleaaGreatDoor
open Go Go.AM
variable {N:Nat}
def a7I (d:D):Tri:=((d.cell 0).toI,(d.cell 1).toI,(d.cell 2).items)
theorem c7S:∀{dl:List D} {l:List Tri},All2 f46 dl l→dl.map a7I=l
 | [],[],_=>rfl
 |d::r,t::s,h=>by
  obtain ⟨⟨h1,h2,h3⟩,h4⟩:=h;simp only [List.map_cons,c7S h4,a7I,h1,h2,h3]
 | [],_::_,h=>h.elim
 |_::_,[],h=>h.elim
abbrev Hd:Type:=List UInt8×Int×Int×Bool
def hdT (t:Tri):Hd:=(d70 1 t.2.2,(c3p 2 0 t.2.2).1,t.2.1,(c3p 2 0 t.2.2).2)
def b0K (l:List Tri):Option Hd:=(l.find? (fun t=>t.1==0)).map hdT
theorem b7G {t:Tri} {l:List Tri}:b0K (t::l)=bif t.1==0 then some (hdT t) else b0K l:=by
 unfold b0K;simp only [List.find?_cons];cases t.1==0<;>rfl
def b5A:Option Hd→Bool×List UInt8×Int×Int
 |none=>(false,[],0,0)
 |some q=>(q.2.2.2,q.1,q.2.1,q.2.2.1)
def e8t (q:Hd):Bool:=bif (bif !q.2.2.2 then true else q.1==[]) then true else decide (q.2.2.1<0)
theorem d74 (hN:maxLen<N) {dl:List D} (hl:dl.length≤maxLen) (hok:∀d∈dl,c0l (a7I d)):b9M N false dl dl.length [] 0 0 0=some (b5A (b0K (dl.map a7I))):=by
 have hm:maxLen=9223372036854775807:=rfl;unfold b9M;refine a2S (.i 0:D) (S:=fun w kr=>b0r N false dl dl.length [] 0 0 w kr _) (L:=fun m w=>b9L N false dl dl.length [] 0 0 m w _) (fun m w=>rfl) (fun _ l=>some (b5A (b0K (l.map a7I)))) hl ?_ ?_ hN
 ·intro kr;simp [b0r,b0K,b5A]
 ·intro w kr h0 h1 hw hi hk
  obtain ⟨o1,o2⟩:=hok _ (a0R (fs:=dl) h0 h1);simp only [b0r,decide_eq_true h1,f6B,hi,a0i,hw,hk,List.map_cons,b7G];show (bif ((a7I (dl.getD w.toNat (.i 0))).1==0) then _ else _)=_
  cases hg:((a7I (dl.getD w.toNat (.i 0))).1==0) with
  |false=>rfl
  |true=>
   have q1:=c7R (N:=N) (vs:=((dl.getD w.toNat (.i 0)).cell 2).items) hN (by exact Nat.le_trans o1 (by omega)) 1
   have q2:=c7Q (N:=N) (vs:=((dl.getD w.toNat (.i 0)).cell 2).items) hN (by exact Nat.le_trans o1 (by omega)) 2 0
   rw [q1,q2];rfl
def e33 (t st:Int) (vs:List D):D:= .a [.i (IntKind.wrap .i64 (t-st)),.i (c3p 0 1 vs).1,.i (c3p 1 1 vs).1,.i (c3p 2 1 vs).1,.i (knV 3 vs),.i (knV 4 vs),.i (knV 5 vs)]
def b54 (t:Int) (vs:List D):Bool:=bif (bif (bif decide (t≥0) then (c3p 0 1 vs).2 else false) then (c3p 1 1 vs).2 else false) then (c3p 2 1 vs).2 else false
def f3f (t st:Int) (vs:List D):D:= .a [.i (IntKind.wrap .i64 (t-st)),.i (IntKind.wrap .i64 ((c3p 1 0 vs).1-st)),.s (d70 2 vs)]
def d1c (t:Int) (vs:List D):Bool:=bif (c3p 1 0 vs).2 then decide (t≥0) else false
def d1d (vs:List D):Bool:= !(d70 1 vs==[])
def b0L (st:Int):List Tri→List D→List D→List D→Option (List D×List D×List D)
 | [],ss,ls,ts=>some (ss,ls,ts)
 | d::r,ss,ls,ts=>bif d.1==20 then (bif b54 d.2.1 d.2.2 then b0L st r (ss++[e33 d.2.1 st d.2.2]) ls ts else none)
   else bif d.1==19 then (bif d1c d.2.1 d.2.2 then b0L st r ss (ls++[f3f d.2.1 st d.2.2]) ts else none)
   else bif d.1==30 then (bif d1d d.2.2 then b0L st r ss ls (ts++[.s (d70 1 d.2.2)]) else none)
   else b0L st r ss ls ts
theorem e2t (hN:maxLen<N) {g t st:Int} {vs ss ls ts:List D} (hv:c0l (g,t,vs)) (h1:ss.length≤50000) (h2:ls.length≤50000) (h3:ts.length≤50000):
  d0B N g t vs st ss ls ts=some (bif g==20 then .inl (b54 t vs,ss++[e33 t st vs]) else bif g==19 then .inr (.inl (d1c t vs,ls++[f3f t st vs])) else bif g==30 then .inr (.inr (.inl (d1d vs,ts++[.s (d70 1 vs)]))) else .inr (.inr (.inr ()))):=by
 have hm:maxLen=9223372036854775807:=rfl;have o1:vs.length≤maxLen:=Nat.le_trans hv.1 (by omega)
 have r1:decide ((ss.length+1)*56≤a0L)=true:=decide_eq_true (by unfold a0L;omega)
 have r2:decide (ss.length+1≤a0d)=true:=decide_eq_true (by unfold a0d;omega)
 have r3:decide ((ls.length+1)*32≤a0L)=true:=decide_eq_true (by unfold a0L;omega)
 have r4:decide (ls.length+1≤a0d)=true:=decide_eq_true (by unfold a0d;omega)
 have r5:decide ((ts.length+1)*16≤a0L)=true:=decide_eq_true (by unfold a0L;omega)
 have r6:decide (ts.length+1≤a0d)=true:=decide_eq_true (by unfold a0d;omega)
 have n1:=fun f t=>c7Q (N:=N) hN o1 f t
 have n2:=fun f=>c7R (N:=N) hN o1 f
 unfold d0B d6S a47 a2U a32 a2h a3n a1X;cases g==20 with
 |true=>
  simp only [f6B,a0i,n1,f6G,getD_some,r1,r2,Bool.and_self,e33,b54,knV]
 | false=>
  simp only [f6C];cases g==19 with
  |true=>simp only [f6B,a0i,n1,n2,f6G,getD_some,r3,r4,Bool.and_self,f3f,d1c]
  |false=>
   simp only [f6C];cases g==30 with
   |true=>simp only [f6B,a0i,n1,n2,f6G,getD_some,r5,r6,Bool.and_self,d1d]
   |false=>rfl
abbrev f47:Type:=List UInt8×Bool×List D×Bool×List D
abbrev f6b:Type:=Bool×List D×Bool×List D×Bool×List D
def e34 (q:Sum f47 (Sum f47 (Sum f47 f6b))):Option (List D×List D×List D)→Prop
 |none=>(∃z,q= .inl ([],z))∨(∃z,q= .inr (.inl ([],z)))∨(∃z,q= .inr (.inr (.inl ([],z))))
 |some r=>∃n1 n2 n3,q= .inr (.inr (.inr (n1,r.1,n2,r.2.1,n3,r.2.2)))
theorem d75 (hN:maxLen<N) {dl:List D} (hl:dl.length≤50000) (hok:∀d∈dl,c0l (a7I d)) (st:Int):∀(m:Nat) (i:Int) (b1 b2 b3:Bool) (ss ls ts:List D),0≤i→i≤dl.length→(dl.length-i).toNat<m→(ss.length:Int)≤i→(ls.length:Int)≤i→(ts.length:Int)≤i→
  ∃q,b43 N dl dl.length st m i b1 ss b2 ls b3 ts (fun p=>some (Sum.inl p)) (fun p=>some (Sum.inr (Sum.inl p))) (fun p=>some (Sum.inr (Sum.inr (Sum.inl p)))) (fun p=>some (Sum.inr (Sum.inr (Sum.inr p))))=some q∧e34 q (b0L st ((dl.drop i.toNat).map a7I) ss ls ts):=by
 have hm:maxLen=9223372036854775807:=rfl;intro m;induction m with
 |zero=>intro i b1 b2 b3 ss ls ts _ _ h;omega
 | succ m ih=>
  intro i b1 b2 b3 ss ls ts h0 h1 hmm hs hls hts;unfold b43 b9O;by_cases hi:i<dl.length
  ·have ho:=hok _ (a0R (fs:=dl) h0 hi)
   have q:=e2t (N:=N) (g:=(a7I (dl.getD i.toNat (.i 0))).1) (t:=(a7I (dl.getD i.toNat (.i 0))).2.1) (vs:=(a7I (dl.getD i.toNat (.i 0))).2.2) (st:=st) (ss:=ss) (ls:=ls) (ts:=ts) hN ho (by omega) (by omega) (by omega)
   have hq:b42 N st ((dl.getD i.toNat (.i 0)).cell 0).toI ((dl.getD i.toNat (.i 0)).cell 1).toI ((dl.getD i.toNat (.i 0)).cell 2).items ss ls ts=some (bif (a7I (dl.getD i.toNat (.i 0))).1==20 then .inl (!(b54 (a7I (dl.getD i.toNat (.i 0))).2.1 (a7I (dl.getD i.toNat (.i 0))).2.2),ss++[e33 (a7I (dl.getD i.toNat (.i 0))).2.1 st (a7I (dl.getD i.toNat (.i 0))).2.2]) else bif (a7I (dl.getD i.toNat (.i 0))).1==19 then .inr (.inl (!(d1c (a7I (dl.getD i.toNat (.i 0))).2.1 (a7I (dl.getD i.toNat (.i 0))).2.2),ls++[f3f (a7I (dl.getD i.toNat (.i 0))).2.1 st (a7I (dl.getD i.toNat (.i 0))).2.2])) else bif (a7I (dl.getD i.toNat (.i 0))).1==30 then .inr (.inr (.inl (!(d1d (a7I (dl.getD i.toNat (.i 0))).2.2),ts++[.s (d70 1 (a7I (dl.getD i.toNat (.i 0))).2.2)]))) else .inr (.inr (.inr ()))):=by
    unfold b42 b41;have q':d0B N ((dl.getD i.toNat (.i 0)).cell 0).toI ((dl.getD i.toNat (.i 0)).cell 1).toI ((dl.getD i.toNat (.i 0)).cell 2).items st ss ls ts=_:=q;rw [q'];cases (a7I (dl.getD i.toNat (.i 0))).1==20<;>cases (a7I (dl.getD i.toNat (.i 0))).1==19<;>cases (a7I (dl.getD i.toNat (.i 0))).1==30<;>rfl
   rw [decide_eq_true hi,a0K h0 hi,a05 (.i 0) h0 hi,hq];simp only [f6B,a0i,a0s (x:=i+1) (by omega) (by omega),List.map_cons,b0L]
   generalize a7I (dl.getD i.toNat (.i 0))=d;cases d.1==20 with
   |true=>
    simp only [f6B,a2x,a2y];cases b54 d.2.1 d.2.2 with
    |true=>exact ih (i+1) false b2 b3 _ ls ts (by omega) (by omega) (by omega) (by simp;omega) (by omega) (by omega)
    |false=>exact ⟨_,rfl,.inl ⟨_,rfl⟩⟩
   | false=>
    simp only [f6C];cases d.1==19 with
    |true=>
     simp only [f6B,a1V,a1W,a2x,a2y,f6C];cases d1c d.2.1 d.2.2 with
     |true=>exact ih (i+1) b1 false b3 ss _ ts (by omega) (by omega) (by omega) (by omega) (by simp;omega) (by omega)
     |false=>exact ⟨_,rfl,.inr (.inl ⟨_,rfl⟩)⟩
    | false=>
     simp only [f6C];cases d.1==30 with
     |true=>
      simp only [f6B,a1V,a1W,a2x,a2y,f6C];cases d1d d.2.2 with
      |true=>exact ih (i+1) b1 b2 false ss ls _ (by omega) (by omega) (by omega) (by omega) (by omega) (by simp;omega)
      |false=>exact ⟨_,rfl,.inr (.inr ⟨_,rfl⟩)⟩
     |false=>
      simp only [f6C,a1V,a1W,f6G,f6B];exact ih (i+1) b1 b2 b3 ss ls ts (by omega) (by omega) (by omega) (by omega) (by omega) (by omega)
  ·have:i=dl.length:=by omega
   subst this;rw [decide_eq_false hi,a0U (by omega)]
   exact ⟨_,rfl,b1,b2,b3,rfl⟩
theorem b5B {st:Int}:∀{l:List Tri} {ss ls ts:List D} {r:List D×List D×List D},(∀t∈l,c0l t)→(∀x∈ls,(x.cell 2).toS.length≤maxLen)→(∀x∈ts,x.toS.length≤maxLen)→b0L st l ss ls ts=some r→
  r.1.length≤ss.length+l.length∧r.2.1.length≤ls.length+l.length∧r.2.2.length≤ts.length+l.length∧(∀x∈r.2.1,(x.cell 2).toS.length≤maxLen)∧(∀x∈r.2.2,x.toS.length≤maxLen)
 | [],ss,ls,ts,r,_,h1,h2,h=>by
  simp only [b0L,f6x] at h;subst h;exact ⟨Nat.le_add_right _ _,Nat.le_add_right _ _,Nat.le_add_right _ _,h1,h2⟩
 | d :: l,ss,ls,ts,r,hl,h1,h2,h=>by
  have hl':∀t∈l,c0l t:=fun t ht=>hl t (by simp [ht])
  have hd:=hl d (by simp)
  simp only [b0L] at h;cases e1:d.1==20 with
  | true=>
   rw [e1] at h;cases e2:b54 d.2.1 d.2.2 with
   |false=>rw [e2] at h;cases h
   |true=>
    rw [e2] at h;obtain ⟨a1,a2,a3,a4,a5⟩:=b5B hl' h1 h2 h;simp only [f6N,f6O,List.length_nil] at a1⊢;exact ⟨by omega,by omega,by omega,a4,a5⟩
  | false=>
   rw [e1] at h;simp only [f6C] at h;cases e2:d.1==19 with
   | true=>
    rw [e2] at h;cases e3:d1c d.2.1 d.2.2 with
    |false=>rw [e3] at h;cases h
    | true=>
     rw [e3] at h;obtain ⟨a1,a2,a3,a4,a5⟩:=b5B hl' (fun x hx=>by
      rcases List.mem_append.1 hx with hx|hx
      ·exact h1 x hx
      ·have:x=f3f d.2.1 st d.2.2:=by simpa using hx
       subst this;exact c0m hd.2) h2 h
     simp only [f6N,f6O,List.length_nil] at a2⊢;exact ⟨by omega,by omega,by omega,a4,a5⟩
   | false=>
    rw [e2] at h;simp only [f6C] at h;cases e3:d.1==30 with
    | true=>
     rw [e3] at h;cases e4:d1d d.2.2 with
     |false=>rw [e4] at h;cases h
     | true=>
      rw [e4] at h;obtain ⟨a1,a2,a3,a4,a5⟩:=b5B hl' h1 (fun x hx=>by
       rcases List.mem_append.1 hx with hx|hx
       ·exact h2 x hx
       ·have:x= .s (d70 1 d.2.2):=by simpa using hx
        subst this;exact c0m hd.2) h
      simp only [f6N,f6O,List.length_nil] at a3⊢;exact ⟨by omega,by omega,by omega,a4,a5⟩
    |false=>
     rw [e3] at h;obtain ⟨a1,a2,a3,a4,a5⟩:=b5B hl' h1 h2 h;simp only [f6O];exact ⟨by omega,by omega,by omega,a4,a5⟩
abbrev f5G:Type:=List UInt8×Int×Int×List D×List D×List D×Int
def e7J (e:Int):f5G:=([],0,0,[],[],[],e)
def c7T (es:List D):f5G:=
 bif fileE es !=0 then e7J (fileE es) else match b0K (a1F Ab.start es) with
 |none=>e7J 4
 |some q=>bif e8t q then e7J 4 else match b0L q.2.2.1 (a1F Ab.start es) [] [] [] with
  |none=>e7J 2
  |some r=>bif c5F q.1 q.2.1 q.2.2.1 r.1 r.2.1 r.2.2 !=0 then e7J (c5F q.1 q.2.1 q.2.2.1 r.1 r.2.1 r.2.2) else (q.1,q.2.1,q.2.2.1,r.1,r.2.1,r.2.2,0)
theorem d76 {l:List Tri} {q:Hd} (h:∀t∈l,c0l t) (hq:b0K l=some q):q.1.length≤maxLen:=by
 unfold b0K at hq;cases hf:l.find? (fun t=>t.1==0) with
 |none=>rw [hf] at hq;cases hq
 |some t=>
  rw [hf] at hq;simp only [f6T,f6x] at hq;subst hq;exact c0m (h t (List.mem_of_find?_eq_some hf)).2
section
variable {es:List D}
theorem f3g (hes:∀x∈es,a3c x) (h:fileE es=0) {q:Hd} {r:List D×List D×List D} (hq:b0K (a1F Ab.start es)=some q) (hr:b0L q.2.2.1 (a1F Ab.start es) [] [] []=some r):d0W q.1 r.1 r.2.1 r.2.2:=by
 have hm:maxLen=9223372036854775807:=rfl;obtain ⟨hl,he⟩:=a36 h;obtain ⟨d1,d2⟩:=c0n OkA.start he hes;obtain ⟨a1,a2,a3,a4,a5⟩:=b5B d2 (by simp) (by simp) hr
 simp only [List.length_nil] at a1 a2 a3;exact ⟨d76 d2 hq,by omega,by omega,by omega,a4,a5⟩
def f5H (N :Nat) (d:List D) (y2:Option (Bool×List UInt8×Int×Int)):Option (List UInt8×Int×Int×Bool×List D×Bool×List D×Bool×List D×Int):=
    bif y2.isSome then
     bnd (bif (!(y2.getD default).1) then true else ((y2.getD default).2.1==([]:List UInt8))) fun y3=>
     bnd (bif y3 then true else (decide ((y2.getD default).2.2.2<0))) fun y4=>
     bif y4 then
      some (([]:List UInt8),0,0,true,[],true,[],true,[],4)
     else
      bnd (c5p N d (d.length:Int) (y2.getD default).2.2.2 0 true [] true [] true []) fun y5=>
      bif (a0O y5) then
       some ((a01 y5).1,0,0,true,[],true,[],true,[],2)
      else
       bif (a0O (a0l y5)) then
        some ((a01 (a0l y5)).1,0,0,true,[],true,[],true,[],2)
       else
        bif (a0O (a0l (a0l y5))) then
         some ((a01 (a0l (a0l y5))).1,0,0,true,[],true,[],true,[],2)
        else
         bif (a0l (a0l (a0l y5))).isSome then
          bnd (e0w N (y2.getD default).2.1 (y2.getD default).2.2.1 (y2.getD default).2.2.2 ((a0l (a0l (a0l y5))).getD default).2.1 ((a0l (a0l (a0l y5))).getD default).2.2.2.1 ((a0l (a0l (a0l y5))).getD default).2.2.2.2.2) fun y6=>
          bif y6.isSome then
           bif ((y6.getD default) !=0) then
            some (([]:List UInt8),0,0,true,[],true,[],true,[],(y6.getD default))
           else
            some ((y2.getD default).2.1,(y2.getD default).2.2.1,(y2.getD default).2.2.2,((a0l (a0l (a0l y5))).getD default).1,((a0l (a0l (a0l y5))).getD default).2.1,((a0l (a0l (a0l y5))).getD default).2.2.1,((a0l (a0l (a0l y5))).getD default).2.2.2.1,((a0l (a0l (a0l y5))).getD default).2.2.2.2.1,((a0l (a0l (a0l y5))).getD default).2.2.2.2.2,0)
          else
           none
         else
          none
    else
     none
theorem e7K {b:Bool} {dl:List D} (h1:b1F N es=some 0) (h2:d0v N es=some (b,dl)):d0G N es=f5H N dl (b9M N false dl dl.length [] 0 0 0):=by
 unfold d0G e63;rw [h1,h2];rfl
theorem e2u (hN:maxLen<N) (hes:∀x∈es,a3c x):∃n1 n2 n3,d0G N es=some ((c7T es).1,(c7T es).2.1,(c7T es).2.2.1,n1,(c7T es).2.2.2.1,n2,(c7T es).2.2.2.2.1,n3,(c7T es).2.2.2.2.2.1,(c7T es).2.2.2.2.2.2):=by
 have hm:maxLen=9223372036854775807:=rfl;obtain ⟨c1,_⟩:=a2W (N:=N) hN hes;unfold c7T;cases hc:fileE es !=0 with
 |true=>
  unfold d0G e63;rw [c1];dsimp only [a0i,Option.isSome_some,_root_.cond_true,getD_some]
  rw [hc];exact ⟨_,_,_,rfl⟩
 |false=>
 have hz:fileE es=0:=by simpa using hc
 obtain ⟨hl,he⟩:=a36 hz;obtain ⟨b,dl,q1,q2⟩:=d73 (N:=N) hN hes hz;obtain ⟨d1,d2⟩:=c0n OkA.start he hes;have q3:=c7S q2;have hdl:dl.length≤50000:=by have:=q2.length;omega
 have hok:∀d∈dl,c0l (a7I d):=fun d hd=>d2 _ (by rw [←q3];exact List.mem_map_of_mem hd)
 have k1:=d74 (N:=N) hN (dl:=dl) (by omega) hok
 rw [q3] at k1;rw [e7K (by rw [c1,hz]) q1,k1]
 unfold f5H;dsimp only [a0i,_root_.cond_false,Option.isSome_some,getD_some,_root_.cond_true]
 cases hh:b0K (a1F Ab.start es) with
 |none=>exact ⟨_,_,_,rfl⟩
 | some q=>
  have hb:(bif (bif (!(b5A (some q)).1) then true else ((b5A (some q)).2.1==([]:List UInt8))) then true else (decide ((b5A (some q)).2.2.2<0)))=e8t q:=rfl
  rw [hb];dsimp only
  cases e8t q with
  |true=>exact ⟨_,_,_,rfl⟩
  | false=>
   obtain ⟨z,w1,w2⟩:=d75 (N:=N) hN hdl hok (b5A (some q)).2.2.2 N 0 true true true [] [] [] (by omega) (by omega) (by omega) (by simp) (by simp) (by simp)
   have w1':c5p N dl dl.length (b5A (some q)).2.2.2 0 true [] true [] true []=some z:=w1;dsimp only [_root_.cond_false]
   rw [w1'];rw [show (0:Int).toNat=0 from rfl,List.drop_zero,q3] at w2;have w2:e34 z (b0L q.2.2.1 (a1F Ab.start es) [] [] []):=w2;cases hr:b0L q.2.2.1 (a1F Ab.start es) [] [] [] with
   |none=>
    rw [hr] at w2;rcases w2 with ⟨z',rfl⟩|⟨z',rfl⟩|⟨z',rfl⟩<;>exact ⟨_,_,_,rfl⟩
   |some r=>
    rw [hr] at w2;obtain ⟨n1,n2,n3,rfl⟩:=w2;have ck:=b5n (N:=N) (name:=q.1) (sport:=q.2.1) (start:=q.2.2.1) hN (f3g hes hz hh hr);have ck':e0w N (b5A (some q)).2.1 (b5A (some q)).2.2.1 (b5A (some q)).2.2.2 r.1 r.2.1 r.2.2=_:=ck;simp only [a1V,a1W,f6C,f6G,f6B,getD_some,ck'];cases c5F q.1 q.2.1 q.2.2.1 r.1 r.2.1 r.2.2 !=0<;>exact ⟨_,_,_,rfl⟩
end
end Go.Proofs.YtiegikkpipdleaaGreatDoor
namespace Go.Proofs.YtiegikkpipdleaaGreatDoor
open Go Go.AM
variable {N:Nat}
section
variable {es:List D}
end
end Go.Proofs.YtiegikkpipdleaaGreatDoor
end
