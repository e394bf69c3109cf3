/- Functions of the program as plain Lean definitions, each with the proof that the program computes it. No condition. Printed by a program of the prover, part 2. -/
import Derived.Test.YthifhnmfecjjcaaGreatDoorTRp1
import Derived.KernelRfl
set_option linter.all false
set_option maxRecDepth 100000
namespace Go.Proofs.YthifhnmfecjjcaaGreatDoor
open Go Go.AM
noncomputable section
variable (N : Nat) {R : Type}
def F52x0 (v2 : Int) (v4 : LD) (v9 v10 v11 : Int) (v12 : Bool) (v14 : LD) (k0 : Unit → Option R) (k1 : Bool × LD → Option R) : Option R :=
 bif ((v4.length : Int) == 0) then
  k0 ()
 else
  bnd ([(.a [(.i v9), (.i v10), (.i v11)]), (.a [(.i 0), (.i 4), (.i 1)])] : List D) fun y0 =>
  bif (decide ((y0.length + 1) * 24 ≤ room) && decide ((y0.length + 1) ≤ strMax)) then
   bif (decide ((((y0 ++ [(.a [(.i 1), (.i 4), (.i 1)])]) : List D).length + 1) * 24 ≤ room) && decide ((((y0 ++ [(.a [(.i 1), (.i 4), (.i 1)])]) : List D).length + 1) ≤ strMax)) then
    bnd (((y0 ++ [(.a [(.i 1), (.i 4), (.i 1)])]) ++ [(.a [(.i 2), (.i 4), (.i 1)])]) : List D) fun y1 =>
    bif (decide ((y1.length + 1) * 24 ≤ room) && decide ((y1.length + 1) ≤ strMax)) then
     bif (decide ((((y1 ++ [(.a [(.i 3), (.i 2), (.i 0)])]) : List D).length + 1) * 24 ≤ room) && decide ((((y1 ++ [(.a [(.i 3), (.i 2), (.i 0)])]) : List D).length + 1) ≤ strMax)) then
      bnd (((y1 ++ [(.a [(.i 3), (.i 2), (.i 0)])]) ++ [(.a [(.i 4), (.i 2), (.i 0)])]) : List D) fun y2 =>
      bif (decide ((y2.length + 1) * 24 ≤ room) && decide ((y2.length + 1) ≤ strMax)) then
       bnd (G48x1 N 1 20 false (y2 ++ [(.a [(.i 5), (.i 2), (.i 0)])]) v12 v14) fun y3 =>
       bif y3.isSome then
        bnd (G52x0x45 N v4 (v4.length : Int) v12 v2 v4 0 false (y3.getD default)) fun y4 =>
        bif y4.isSome then
         k1 (y4.getD default)
        else
         none
       else
        none
      else
       none
     else
      none
    else
     none
   else
    none
  else
   none
def G52x0 (v2 : Int) (v4 : LD) (v9 v10 v11 : Int) (v12 : Bool) (v14 : LD) : Option (Sum (Unit) (Bool × LD)) := F52x0 N v2 v4 v9 v10 v11 v12 v14 (fun p => some (.inl p)) (fun p => some (.inr p))
theorem bind52x0 (v2 : Int) (v4 : LD) (v9 v10 v11 : Int) (v12 : Bool) (v14 : LD) (k0 : Unit → Option R) (k1 : Bool × LD → Option R) : F52x0 N v2 v4 v9 v10 v11 v12 v14 k0 k1 = (G52x0 N v2 v4 v9 v10 v11 v12 v14).bind (sumE k0 k1) := by
 unfold G52x0 F52x0
 repeat' (first | with_reducible apply cond_b | (with_reducible apply bnd_b; intro _) | rfl)
def J52x0 (L : List Lf) (k0 : Unit → Option R) (k1 : Bool × LD → Option R) : Option R := F52x0 N (li L 2) (ll L 4) (li L 9) (li L 10) (li L 11) (lb L 12) (ll L 14) k0 k1
def sh52x0 : Sh := { tmps := [(0, .c (.p 0 0)), (1, .g (.s :: [.i .i64, .i .i64, .sl 46, .sl 110, .sl 9])), (2, .g ([.i .i64, .i .i64, .i .i64]))], mem := [(0, .box ([.o 1, .b])), (1, .row 39 true)] }
def K52x0w1 (L : List Lf) (p : Bool × LD) : Res := ([], [(50000002, .row 39 true p.1 p.2), (0, .box [.o 50000002, .b (lb L 12)])])
def A52x0 (L : List Lf) : List (Bool × Res) := bnd (J52x0 N L (fun p => some (.inl p)) (fun p => some (.inr p))) fun q => [((inlB q), ([], mgA (ofSh sh52x0 L).mem [] [0, 1])), ((inrQ q).isSome, K52x0w1 L ((inrQ q).getD default))]
theorem raw52x0 (L : List Lf) : bd Tryz.prog (T48x1 N) (h52x0s3 N).h 52 sh52x0 L = J52x0 N L (fun _ => some ([], mgA (ofSh sh52x0 L).mem [] [0, 1])) (fun p => some (K52x0w1 L p)) := by kernel_rfl
theorem ok52x0 : FnOk Tryz.prog 52 sh52x0 (A52x0 N) :=
 (h52x0s3 N).fn progOk (T48x1_ok N) fun L x hx => ((raw52x0 N L).trans ((bind52x0 N ..).trans ((altS alt1) x hx)))
def T52x0 : Oracle := ext 52 (spSh sh52x0 (A52x0 N)) (T48x1 N)
theorem T52x0_ok : OracleOk Tryz.prog (T52x0 N) := FnOk.to (ok52x0 N) (T48x1_ok N)
def rg18x0 : List (Nat × List Nat) := [(0, [0, 1]), (1, [2, 4, 1]), (2, [6, 4, 2, 1]), (3, [6, 4]), (4, [2, 4, 1]), (5, [4]), (6, [1, 2, 4]), (7, [7, 2, 4]), (8, [7, 8, 2, 4]), (9, [7, 8, 9, 2, 4]), (10, [7, 2, 9, 8, 4]), (11, [2, 7, 9, 8, 4]), (12, [7, 9, 2, 8, 4]), (13, [2, 7, 8, 9, 4]), (14, [64, 63, 62, 7, 2, 8, 9, 4]), (15, [62, 64, 7, 63, 2, 8, 9, 4]), (16, [7, 11, 64, 63, 62, 2, 8, 9, 4]), (17, [64, 63, 62, 7, 2, 8, 9, 4]), (18, [2, 7, 8, 9, 4]), (19, [7, 8, 9, 2, 4]), (20, [2, 7, 8, 4]), (21, [88, 87, 86, 7, 2, 8, 4]), (22, [86, 88, 7, 2, 87, 8, 4]), (23, [7, 2, 13, 88, 87, 86, 8, 4]), (24, [88, 87, 86, 7, 2, 8, 4]), (25, [7, 2, 8, 4]), (26, [7, 4])]
def hd18x0 : Hints := [(38, [2, 4, 7, 8, 9, 55], [2, 4, 8, 29, 52000000033], []), (42, [2, 4, 7, 8, 9, 62, 63, 64], [2, 4, 8, 29, 50029000, 61000000027], [50029000]), (59, [2, 4, 7, 8, 9, 77], [2, 4, 8, 29, 50029000], []), (63, [2, 4, 7, 8, 86, 87, 88], [2, 4, 8, 29, 50029000, 85000000027], [50029000]), (76, [2, 4, 7, 8], [2, 4, 8, 29, 50029000], [])]
def h18x0s0 (N : Nat) : Sg Tryz.prog 0 18 := .start hd18x0 rg18x0
def F18x0x38 (w0 w15 : Bool) (w17 : LD) (k0 : LD → Option R) (k1 : Unit → Option R) : Option R :=
 bif w0 then
  bnd (G48x1 N 3 30 false [(.a [(.i 1), (.i 60), (.i 2)])] w15 w17) fun y0 =>
  bif y0.isSome then
   k0 (y0.getD default)
  else
   none
 else
  k1 ()
def G18x0x38 (w0 w15 : Bool) (w17 : LD) : Option (Sum (LD) (Unit)) := F18x0x38 N w0 w15 w17 (fun p => some (.inl p)) (fun p => some (.inr p))
theorem bind18x0x38 (w0 w15 : Bool) (w17 : LD) (k0 : LD → Option R) (k1 : Unit → Option R) : F18x0x38 N w0 w15 w17 k0 k1 = (G18x0x38 N w0 w15 w17).bind (sumE k0 k1) := by
 unfold G18x0x38 F18x0x38
 repeat' (first | with_reducible apply cond_b | (with_reducible apply bnd_b; intro _) | rfl)
def sh18x0x38 : Sh := { tmps := [(2, .c (.p 2 0)), (4, .c (.p 4 0)), (7, .c (.p 29 0)), (8, .c (.p 8 0)), (9, .c (.f 47 [])), (55, .c (.b))], mem := [(2, .box (.s :: [.i .i64, .i .i64, .sl 46, .sl 110, .sl 9])), (4, .box ([.sl 39])), (8, .box ([.i .i64, .i .i64, .i .i64])), (29, .box ([.o 52000000033, .b])), (52000000033, .row 39 true)] }
def K18x0x38w0 (L : List Lf) (p : LD) : Ex × St := (.normal, mg (ofSh sh18x0x38 L) [2, 7, 8, 9, 4] [] [8, 61000000027, 29, 4, 2] [(61000000027, .row 39 true false p), (29, .box [.o 61000000027, .b (lb L 15)])])
def K18x0x38w1 (L : List Lf) (_ : Unit) : Ex × St := (.normal, mg (ofSh sh18x0x38 L) [2, 7, 8, 9, 4] [] [8, 29, 4, 2, 52000000033] [])
def A18x0x38 (L : List Lf) : List (Bool × (Ex × St)) := bnd (F18x0x38 N (lb L 0) (lb L 15) (ll L 17) (fun p => some (.inl p)) (fun p => some (.inr p))) fun q => [((inlB q), K18x0x38w0 L (inlV q)), ((inrQ q).isSome, K18x0x38w1 L ())]
theorem raw18x0x38 (L : List Lf) : pc Tryz.prog (T52x0 N) (h18x0s0 N).h 0 100 18 38 sh18x0x38 L [2, 7, 8, 9, 4] [8, 61000000027, 29, 4, 2, 52000000033] = F18x0x38 N (lb L 0) (lb L 15) (ll L 17) (fun p => some (K18x0x38w0 L p)) (fun _ => some (K18x0x38w1 L ())) := by kernel_rfl
def h18x0s1 : Sg Tryz.prog 0 18 :=
 (h18x0s0 N).cut (A18x0x38 N) progOk (T52x0_ok N) fun L x hx => (raw18x0x38 N L).trans ((bind18x0x38 N ..).trans ((altS alt1) x hx))
def S18x0x42 (w1 : LD) (w2 : Int) (w3 : Int) (w19 : Bool) (w20 : LD) (kr : Int → Bool → LD → Option R) (k0 : Bool × LD → Option R) : Option R :=
 bif (decide (w3 < w2)) then
  bif (inB w3 w1.length) then
   bnd (V51x0 N (w1.getD w3.toNat (.i 0)).toS) fun y0 =>
   bnd (G49x0 N 3 [(.l false y0)] w20) fun y1 =>
   bif y1.isSome then
    kr (IntKind.wrap .i64 (w3 + 1)) false (y1.getD default)
   else
    none
  else
   none
 else
  k0 (w19, w20)
def L18x0x42 (N : Nat) {R : Type} (w1 : LD) (w2 : Int) : Nat → Int → Bool → LD → (Bool × LD → Option R) → Option R
 | 0, _, _, _, _ => none
 | m + 1, w3, w19, w20, k0 => S18x0x42 N w1 w2 w3 w19 w20 (fun w3 w19 w20 => L18x0x42 N w1 w2 m w3 w19 w20 k0) k0
def G18x0x42 (w1 : LD) (w2 : Int) (w3 : Int) (w19 : Bool) (w20 : LD) : Option (Bool × LD) := L18x0x42 N (R := (Bool × LD)) w1 w2 N w3 w19 w20 (fun p => some p)
def J18x0x42 (L x : List Lf) (kr : List Lf → Option R) (k0 : Bool × LD → Option R) : Option R := S18x0x42 N (ll L 1) (li L 2) (li x 0) (lb x 1) (ll x 2) (fun w3 w19 w20 => kr [.i w3, .b w19, .l w20]) k0
theorem sb18x0x42 (L x : List Lf) (kr : List Lf → Option R) (k0 : Bool × LD → Option R) : J18x0x42 N L x kr k0 = (J18x0x42 N L x (fun y => some (.inl y)) (fun p => some (.inr p))).bind (sumE kr k0) := by
 unfold J18x0x42 S18x0x42
 repeat' (first | with_reducible apply cond_b | (with_reducible apply bnd_b; intro _) | rfl)
def Q18x0x42 (L : List Lf) (m : Nat) (x : List Lf) : Option (Bool × LD) := L18x0x42 N (R := (Bool × LD)) (ll L 1) (li L 2) m (li x 0) (lb x 1) (ll x 2) (fun p => some p)
def sh18x0x42 : Sh := { tmps := [(2, .c (.p 2 0)), (4, .c (.p 4 0)), (7, .c (.p 29 0)), (8, .c (.p 8 0)), (9, .c (.f 47 [])), (62, .c (.sl 9)), (63, .c (.i .i64)), (64, .c (.i .i64))], mem := [(2, .box (.s :: [.i .i64, .i .i64, .sl 46, .sl 110, .sl 9])), (4, .box ([.sl 39])), (8, .box ([.i .i64, .i .i64, .i .i64])), (29, .box ([.o 50029000, .b])), (50029000, .row 39 true)] }
def K18x0x42w0 (L : List Lf) (p : Bool × LD) : Ex × St := ((.exit 0), mg (ofSh sh18x0x42 L) [4, 2, 7, 8, 9] [] [8, 50029000, 29, 4, 2] [(50029000, .row 39 true p.1 p.2)])
def A18x0x42 (L : List Lf) : List (Bool × (Ex × St)) := bnd (Q18x0x42 N L N (pk sh18x0x42 [3, 19, 20] L)) fun q => [(q.isSome, K18x0x42w0 L (q.getD default))]
theorem step18x0x42 (m : Nat) (kn : St → Option (Ex × St)) (L x : List Lf) : lpB Tryz.prog (T52x0 N) (h18x0s1 N).h 0 18 42 sh18x0x42 [3, 19, 20] [4, 5, 2, 7, 8, 9] [8, 50029000, 29, 4, 2] (m + 100) kn L x = J18x0x42 N L x (fun y => kn (ofSh sh18x0x42 (mx sh18x0x42 [3, 19, 20] L y))) (fun p => some (K18x0x42w0 L p)) := by kernel_rfl
theorem ql18x0x42 (L : List Lf) (m : Nat) (x : List Lf) : Q18x0x42 N L (m + 1) x = J18x0x42 N L x (Q18x0x42 N L m) some := by kernel_rfl
def h18x0s2 : Sg Tryz.prog 0 18 :=
 (h18x0s1 N).lp (A18x0x42 N) N progOk (T52x0_ok N) (fun m kn L x => (step18x0x42 N m kn L x).trans (sb18x0x42 N L x _ _)) (fun L m x => (ql18x0x42 N L m x).trans (sb18x0x42 N L x (Q18x0x42 N L m) some)) fun L x hx => alt1 x hx
def F18x0x59 (w0 : Bool) (w12 w13 w14 : Int) (w15 : Bool) (w17 : LD) (k0 : LD → Option R) (k1 : Unit → Option R) : Option R :=
 bif w0 then
  bnd (G48x1 N 2 19 false [(.a [(.i w12), (.i w13), (.i w14)]), (.a [(.i 1), (.i 4), (.i 0)]), (.a [(.i 2), (.i 60), (.i 2)])] w15 w17) fun y0 =>
  bif y0.isSome then
   k0 (y0.getD default)
  else
   none
 else
  k1 ()
def G18x0x59 (w0 : Bool) (w12 w13 w14 : Int) (w15 : Bool) (w17 : LD) : Option (Sum (LD) (Unit)) := F18x0x59 N w0 w12 w13 w14 w15 w17 (fun p => some (.inl p)) (fun p => some (.inr p))
theorem bind18x0x59 (w0 : Bool) (w12 w13 w14 : Int) (w15 : Bool) (w17 : LD) (k0 : LD → Option R) (k1 : Unit → Option R) : F18x0x59 N w0 w12 w13 w14 w15 w17 k0 k1 = (G18x0x59 N w0 w12 w13 w14 w15 w17).bind (sumE k0 k1) := by
 unfold G18x0x59 F18x0x59
 repeat' (first | with_reducible apply cond_b | (with_reducible apply bnd_b; intro _) | rfl)
def J18x0x59 (L : List Lf) (k0 : LD → Option R) (k1 : Unit → Option R) : Option R := F18x0x59 N (lb L 0) (li L 12) (li L 13) (li L 14) (lb L 15) (ll L 17) k0 k1
def sh18x0x59 : Sh := { tmps := [(2, .c (.p 2 0)), (4, .c (.p 4 0)), (7, .c (.p 29 0)), (8, .c (.p 8 0)), (9, .c (.f 47 [])), (77, .c (.b))], mem := [(2, .box (.s :: [.i .i64, .i .i64, .sl 46, .sl 110, .sl 9])), (4, .box ([.sl 39])), (8, .box ([.i .i64, .i .i64, .i .i64])), (29, .box ([.o 50029000, .b])), (50029000, .row 39 true)] }
def K18x0x59w0 (L : List Lf) (p : LD) : Ex × St := (.normal, mg (ofSh sh18x0x59 L) [2, 7, 8, 4] [] [8, 85000000027, 29, 4, 2] [(85000000027, .row 39 true false p), (29, .box [.o 85000000027, .b (lb L 15)])])
def K18x0x59w1 (L : List Lf) (_ : Unit) : Ex × St := (.normal, mg (ofSh sh18x0x59 L) [2, 7, 8, 4] [] [8, 29, 4, 2, 50029000] [])
def A18x0x59 (L : List Lf) : List (Bool × (Ex × St)) := bnd (J18x0x59 N L (fun p => some (.inl p)) (fun p => some (.inr p))) fun q => [((inlB q), K18x0x59w0 L (inlV q)), ((inrQ q).isSome, K18x0x59w1 L ())]
theorem raw18x0x59 (L : List Lf) : pc Tryz.prog (T52x0 N) (h18x0s2 N).h 0 100 18 59 sh18x0x59 L [2, 7, 8, 4] [8, 85000000027, 29, 4, 2, 50029000] = J18x0x59 N L (fun p => some (K18x0x59w0 L p)) (fun _ => some (K18x0x59w1 L ())) := by kernel_rfl
def h18x0s3 : Sg Tryz.prog 0 18 :=
 (h18x0s2 N).cut (A18x0x59 N) progOk (T52x0_ok N) fun L x hx => (raw18x0x59 N L).trans ((bind18x0x59 N ..).trans ((altS alt1) x hx))
def S18x0x63 (w1 : LD) (w2 w6 : Int) (w18 : Bool) (w3 : Int) (w19 : Bool) (w20 : LD) (kr : Int → Bool → LD → Option R) (k0 : Bool × LD → Option R) : Option R :=
 bif (decide (w3 < w2)) then
  bif (inB w3 w1.length) then
   bnd (IntKind.wrap .i64 (w6 + ((w1.getD w3.toNat (.i 0)).cell 0).toI)) fun y0 =>
   bnd (G50x0 N y0 4 false w18) fun y1 =>
   bif y1.isSome then
    bnd (IntKind.wrap .i64 (w6 + ((w1.getD w3.toNat (.i 0)).cell 1).toI)) fun y2 =>
    bnd (G50x0 N y2 4 false w18) fun y3 =>
    bif y3.isSome then
     bnd (V51x0 N ((w1.getD w3.toNat (.i 0)).cell 2).toS) fun y4 =>
     bnd (G49x0 N 2 [(.l false (y1.getD default)), (.l false (y3.getD default)), (.l false y4)] w20) fun y5 =>
     bif y5.isSome then
      kr (IntKind.wrap .i64 (w3 + 1)) false (y5.getD default)
     else
      none
    else
     none
   else
    none
  else
   none
 else
  k0 (w19, w20)
def L18x0x63 (N : Nat) {R : Type} (w1 : LD) (w2 w6 : Int) (w18 : Bool) : Nat → Int → Bool → LD → (Bool × LD → Option R) → Option R
 | 0, _, _, _, _ => none
 | m + 1, w3, w19, w20, k0 => S18x0x63 N w1 w2 w6 w18 w3 w19 w20 (fun w3 w19 w20 => L18x0x63 N w1 w2 w6 w18 m w3 w19 w20 k0) k0
def G18x0x63 (w1 : LD) (w2 w6 : Int) (w18 : Bool) (w3 : Int) (w19 : Bool) (w20 : LD) : Option (Bool × LD) := L18x0x63 N (R := (Bool × LD)) w1 w2 w6 w18 N w3 w19 w20 (fun p => some p)
def J18x0x63 (L x : List Lf) (kr : List Lf → Option R) (k0 : Bool × LD → Option R) : Option R := S18x0x63 N (ll L 1) (li L 2) (li L 6) (lb L 18) (li x 0) (lb x 1) (ll x 2) (fun w3 w19 w20 => kr [.i w3, .b w19, .l w20]) k0
theorem sb18x0x63 (L x : List Lf) (kr : List Lf → Option R) (k0 : Bool × LD → Option R) : J18x0x63 N L x kr k0 = (J18x0x63 N L x (fun y => some (.inl y)) (fun p => some (.inr p))).bind (sumE kr k0) := by
 unfold J18x0x63 S18x0x63
 repeat' (first | with_reducible apply cond_b | (with_reducible apply bnd_b; intro _) | rfl)
def Q18x0x63 (L : List Lf) (m : Nat) (x : List Lf) : Option (Bool × LD) := L18x0x63 N (R := (Bool × LD)) (ll L 1) (li L 2) (li L 6) (lb L 18) m (li x 0) (lb x 1) (ll x 2) (fun p => some p)
def sh18x0x63 : Sh := { tmps := [(2, .c (.p 2 0)), (4, .c (.p 4 0)), (7, .c (.p 29 0)), (8, .c (.p 8 0)), (86, .c (.sl 110)), (87, .c (.i .i64)), (88, .c (.i .i64))], mem := [(2, .box (.s :: [.i .i64, .i .i64, .sl 46, .sl 110, .sl 9])), (4, .box ([.sl 39])), (8, .box ([.i .i64, .i .i64, .i .i64])), (29, .box ([.o 50029000, .b])), (50029000, .row 39 true)] }
def K18x0x63w0 (L : List Lf) (p : Bool × LD) : Ex × St := ((.exit 2), mg (ofSh sh18x0x63 L) [4, 7, 2, 8] [] [8, 50029000, 29, 4, 2] [(50029000, .row 39 true p.1 p.2)])
def A18x0x63 (L : List Lf) : List (Bool × (Ex × St)) := bnd (Q18x0x63 N L N (pk sh18x0x63 [3, 19, 20] L)) fun q => [(q.isSome, K18x0x63w0 L (q.getD default))]
theorem step18x0x63 (m : Nat) (kn : St → Option (Ex × St)) (L x : List Lf) : lpB Tryz.prog (T52x0 N) (h18x0s3 N).h 0 18 63 sh18x0x63 [3, 19, 20] [4, 5, 7, 2, 8] [8, 50029000, 29, 4, 2] (m + 100) kn L x = J18x0x63 N L x (fun y => kn (ofSh sh18x0x63 (mx sh18x0x63 [3, 19, 20] L y))) (fun p => some (K18x0x63w0 L p)) := by kernel_rfl
theorem ql18x0x63 (L : List Lf) (m : Nat) (x : List Lf) : Q18x0x63 N L (m + 1) x = J18x0x63 N L x (Q18x0x63 N L m) some := by kernel_rfl
def h18x0s4 : Sg Tryz.prog 0 18 :=
 (h18x0s3 N).lp (A18x0x63 N) N progOk (T52x0_ok N) (fun m kn L x => (step18x0x63 N m kn L x).trans (sb18x0x63 N L x _ _)) (fun L m x => (ql18x0x63 N L m x).trans (sb18x0x63 N L x (Q18x0x63 N L m) some)) fun L x hx => alt1 x hx
def F18x0x76 (w2 : Int) (w4 : LD) (w11 w12 w13 : Int) (w14 : Bool) (w16 : LD) (k0 : Unit → Option R) (k1 : Bool × LD → Option R) : Option R :=
 bnd (G52x0 N w2 w4 w11 w12 w13 w14 w16) fun y0 =>
 bif (inlB y0) then
  k0 ()
 else
  bif (inrQ y0).isSome then
   k1 ((inrQ y0).getD default)
  else
   none
def G18x0x76 (w2 : Int) (w4 : LD) (w11 w12 w13 : Int) (w14 : Bool) (w16 : LD) : Option (Sum (Unit) (Bool × LD)) := F18x0x76 N w2 w4 w11 w12 w13 w14 w16 (fun p => some (.inl p)) (fun p => some (.inr p))
theorem bind18x0x76 (w2 : Int) (w4 : LD) (w11 w12 w13 : Int) (w14 : Bool) (w16 : LD) (k0 : Unit → Option R) (k1 : Bool × LD → Option R) : F18x0x76 N w2 w4 w11 w12 w13 w14 w16 k0 k1 = (G18x0x76 N w2 w4 w11 w12 w13 w14 w16).bind (sumE k0 k1) := by
 unfold G18x0x76 F18x0x76
 repeat' (first | with_reducible apply cond_b | (with_reducible apply bnd_b; intro _) | rfl)
def J18x0x76 (L : List Lf) (k0 : Unit → Option R) (k1 : Bool × LD → Option R) : Option R := F18x0x76 N (li L 2) (ll L 4) (li L 11) (li L 12) (li L 13) (lb L 14) (ll L 16) k0 k1
def sh18x0x76 : Sh := { tmps := [(2, .c (.p 2 0)), (4, .c (.p 4 0)), (7, .c (.p 29 0)), (8, .c (.p 8 0))], mem := [(2, .box (.s :: [.i .i64, .i .i64, .sl 46, .sl 110, .sl 9])), (4, .box ([.sl 39])), (8, .box ([.i .i64, .i .i64, .i .i64])), (29, .box ([.o 50029000, .b])), (50029000, .row 39 true)] }
def K18x0x76w0 (L : List Lf) (_ : Unit) : Ex × St := (.normal, mg (ofSh sh18x0x76 L) [7, 4] [] [50029000, 29, 4] [])
def K18x0x76w1 (L : List Lf) (p : Bool × LD) : Ex × St := (.normal, mg (ofSh sh18x0x76 L) [7, 4] [] [29, 4, 117050000002] [(29, .box [.o 117050000002, .b (lb L 14)]), (117050000002, .row 39 true p.1 p.2)])
def A18x0x76 (L : List Lf) : List (Bool × (Ex × St)) := bnd (J18x0x76 N L (fun p => some (.inl p)) (fun p => some (.inr p))) fun q => [((inlB q), K18x0x76w0 L ()), ((inrQ q).isSome, K18x0x76w1 L ((inrQ q).getD default))]
theorem raw18x0x76 (L : List Lf) : pc Tryz.prog (T52x0 N) (h18x0s4 N).h 0 100 18 76 sh18x0x76 L [7, 4] [50029000, 29, 4, 117050000002] = J18x0x76 N L (fun _ => some (K18x0x76w0 L ())) (fun p => some (K18x0x76w1 L p)) := by kernel_rfl
def h18x0s5 : Sg Tryz.prog 0 18 :=
 (h18x0s4 N).cut (A18x0x76 N) progOk (T52x0_ok N) fun L x hx => (raw18x0x76 N L).trans ((bind18x0x76 N ..).trans ((altS alt1) x hx))
def F18x0 (v0 : LB) (v1 v2 : Int) (v4 v6 v8 : LD) (v9 : Bool) (k0 : Bool × LD × Int → Option R) : Option R :=
 bnd (G45x0 N v0 v1 v2 v4 v6 v8) fun y0 =>
 bif y0.isSome then
  bif ((y0.getD default) != 0) then
   k0 (true, [], (y0.getD default))
  else
   bnd (G46x0 N v4) fun y1 =>
   bif y1.isSome then
    bnd (decide ((IntKind.wrap .i64 (v2 + (y1.getD default))) > 4294967294)) fun y2 =>
    bif y2 then
     k0 (true, [], 9)
    else
     bnd (V48x0 N 0 0 false [(.a [(.i 253), (.i 4), (.i 0)]), (.a [(.i 1), (.i 60), (.i 2)]), (.a [(.i 2), (.i 1), (.i 0)])] v9) fun y3 =>
     bnd (G50x0 N v2 4 false v9) fun y4 =>
     bif y4.isSome then
      bnd (V51x0 N v0) fun y5 =>
      bnd (G50x0 N v1 1 false v9) fun y6 =>
      bif y6.isSome then
       bnd (G49x0 N 0 [(.l false (y4.getD default)), (.l false y5), (.l false (y6.getD default))] y3) fun y7 =>
       bif y7.isSome then
        bnd (G18x0x38 N (decide ((v8.length : Int) > 0)) v9 (y7.getD default)) fun y8 =>
        bif (inlB y8) then
         bnd (G18x0x42 N v8 (v8.length : Int) 0 false (inlV y8)) fun y9 =>
         bif y9.isSome then
          bnd (G18x0x59 N (decide ((v6.length : Int) > 0)) 253 4 0 v9 (y9.getD default).2) fun y10 =>
          bif (inlB y10) then
           bnd (G18x0x63 N v6 (v6.length : Int) v2 v9 0 false (inlV y10)) fun y11 =>
           bif y11.isSome then
            bnd (G18x0x76 N v2 v4 253 4 0 v9 (y11.getD default).2) fun y12 =>
            bif (inlB y12) then
             k0 ((y11.getD default).1, (y11.getD default).2, 0)
            else
             bif (inrQ y12).isSome then
              k0 (((inrQ y12).getD default).1, ((inrQ y12).getD default).2, 0)
             else
              none
           else
            none
          else
           bif (inrQ y10).isSome then
            bnd (G18x0x63 N v6 (v6.length : Int) v2 v9 0 (y9.getD default).1 (y9.getD default).2) fun y13 =>
            bif y13.isSome then
             bnd (G18x0x76 N v2 v4 253 4 0 v9 (y13.getD default).2) fun y14 =>
             bif (inlB y14) then
              k0 ((y13.getD default).1, (y13.getD default).2, 0)
             else
              bif (inrQ y14).isSome then
               k0 (((inrQ y14).getD default).1, ((inrQ y14).getD default).2, 0)
              else
               none
            else
             none
           else
            none
         else
          none
        else
         bif (inrQ y8).isSome then
          bnd (G18x0x42 N v8 (v8.length : Int) 0 false (y7.getD default)) fun y15 =>
          bif y15.isSome then
           bnd (G18x0x59 N (decide ((v6.length : Int) > 0)) 253 4 0 v9 (y15.getD default).2) fun y16 =>
           bif (inlB y16) then
            bnd (G18x0x63 N v6 (v6.length : Int) v2 v9 0 false (inlV y16)) fun y17 =>
            bif y17.isSome then
             bnd (G18x0x76 N v2 v4 253 4 0 v9 (y17.getD default).2) fun y18 =>
             bif (inlB y18) then
              k0 ((y17.getD default).1, (y17.getD default).2, 0)
             else
              bif (inrQ y18).isSome then
               k0 (((inrQ y18).getD default).1, ((inrQ y18).getD default).2, 0)
              else
               none
            else
             none
           else
            bif (inrQ y16).isSome then
             bnd (G18x0x63 N v6 (v6.length : Int) v2 v9 0 (y15.getD default).1 (y15.getD default).2) fun y19 =>
             bif y19.isSome then
              bnd (G18x0x76 N v2 v4 253 4 0 v9 (y19.getD default).2) fun y20 =>
              bif (inlB y20) then
               k0 ((y19.getD default).1, (y19.getD default).2, 0)
              else
               bif (inrQ y20).isSome then
                k0 (((inrQ y20).getD default).1, ((inrQ y20).getD default).2, 0)
               else
                none
             else
              none
            else
             none
          else
           none
         else
          none
       else
        none
      else
       none
     else
      none
   else
    none
 else
  none
def G18x0 (v0 : LB) (v1 v2 : Int) (v4 v6 v8 : LD) (v9 : Bool) : Option (Bool × LD × Int) := F18x0 N v0 v1 v2 v4 v6 v8 v9 (fun p => some p)
theorem bind18x0 (v0 : LB) (v1 v2 : Int) (v4 v6 v8 : LD) (v9 : Bool) (k0 : Bool × LD × Int → Option R) : F18x0 N v0 v1 v2 v4 v6 v8 v9 k0 = (G18x0 N v0 v1 v2 v4 v6 v8 v9).bind k0 := by
 unfold G18x0 F18x0
 repeat' (first | with_reducible apply cond_b | (with_reducible apply bnd_b; intro _) | rfl)
def J18x0 (L : List Lf) (k0 : Bool × LD × Int → Option R) : Option R := F18x0 N (ls L 0) (li L 1) (li L 2) (ll L 4) (ll L 6) (ll L 8) (lb L 9) k0
def sh18x0 : Sh := { tmps := [(0, .g (.s :: [.i .i64, .i .i64, .sl 46, .sl 110, .sl 9])), (1, .c (.b))], mem := [] }
def A18x0 (L : List Lf) : List (Bool × Res) := bnd (J18x0 N L (fun p => some p)) fun q => [(q.isSome, ([.g [.sl 39 (q.getD default).1 (q.getD default).2.1], .c (.i .i64 (q.getD default).2.2)], []))]
theorem raw18x0 (L : List Lf) : bd Tryz.prog (T52x0 N) (h18x0s5 N).h 18 sh18x0 L = J18x0 N L (fun p => some ([.g [.sl 39 p.1 p.2.1], .c (.i .i64 p.2.2)], [])) := by kernel_rfl
theorem ok18x0 : FnOk Tryz.prog 18 sh18x0 (A18x0 N) :=
 (h18x0s5 N).fn progOk (T52x0_ok N) fun L x hx => ((raw18x0 N L).trans ((bind18x0 N ..).trans (alt1 x hx)))
def T18x0 : Oracle := ext 18 (spSh sh18x0 (A18x0 N)) (T52x0 N)
theorem T18x0_ok : OracleOk Tryz.prog (T18x0 N) := FnOk.to (ok18x0 N) (T52x0_ok N)
def rg53x0 : List (Nat × List Nat) := [(0, [0]), (1, [1]), (2, [1, 3]), (3, [1, 3, 4]), (4, [11, 10, 9, 3, 4]), (5, [9, 11, 3, 4, 10]), (6, [3, 4, 6, 11, 10, 9]), (7, [11, 10, 9, 3, 4]), (8, [3])]
def hd53x0 : Hints := [(12, [3, 4, 9, 10, 11], [3, 8000000002], [3])]
def h53x0s0 (N : Nat) : Sg Tryz.prog 0 53 := .start hd53x0 rg53x0
def S53x0x12 (w1 : LD) (w2 : Int) (w3 : Int) (w4 : Bool) (w5 : LD) (w6 : D) (kr : Int → Bool → LD → D → Option R) (k0 : Bool × LD → Option R) : Option R :=
 bif (decide (w3 < w2)) then
  bif (inB w3 w1.length) then
   bnd (G36x0 N ((w1.getD w3.toNat (.i 0)).cell 0).toI ((w1.getD w3.toNat (.i 0)).cell 1).toI ((w1.getD w3.toNat (.i 0)).cell 2).toI ((w1.getD w3.toNat (.i 0)).cell 3).items ((w1.getD w3.toNat (.i 0)).cell 4).items w6) fun y0 =>
   bif y0.isSome then
    bif (decide ((w5.length + 1) * 8 ≤ room) && decide ((w5.length + 1) ≤ strMax)) then
     kr (IntKind.wrap .i64 (w3 + 1)) false (w5 ++ [(.i (y0.getD default).1)]) (y0.getD default).2
    else
     none
   else
    none
  else
   none
 else
  k0 (w4, w5)
def L53x0x12 (N : Nat) {R : Type} (w1 : LD) (w2 : Int) : Nat → Int → Bool → LD → D → (Bool × LD → Option R) → Option R
 | 0, _, _, _, _, _ => none
 | m + 1, w3, w4, w5, w6, k0 => S53x0x12 N w1 w2 w3 w4 w5 w6 (fun w3 w4 w5 w6 => L53x0x12 N w1 w2 m w3 w4 w5 w6 k0) k0
def G53x0x12 (w1 : LD) (w2 : Int) (w3 : Int) (w4 : Bool) (w5 : LD) (w6 : D) : Option (Bool × LD) := L53x0x12 N (R := (Bool × LD)) w1 w2 N w3 w4 w5 w6 (fun p => some p)
def J53x0x12 (L x : List Lf) (kr : List Lf → Option R) (k0 : Bool × LD → Option R) : Option R := S53x0x12 N (ll L 1) (li L 2) (li x 0) (lb x 1) (ll x 2) (ld x 3) (fun w3 w4 w5 w6 => kr [.i w3, .b w4, .l w5, .d w6]) k0
theorem sb53x0x12 (L x : List Lf) (kr : List Lf → Option R) (k0 : Bool × LD → Option R) : J53x0x12 N L x kr k0 = (J53x0x12 N L x (fun y => some (.inl y)) (fun p => some (.inr p))).bind (sumE kr k0) := by
 unfold J53x0x12 S53x0x12
 repeat' (first | with_reducible apply cond_b | (with_reducible apply bnd_b; intro _) | rfl)
def Q53x0x12 (L : List Lf) (m : Nat) (x : List Lf) : Option (Bool × LD) := L53x0x12 N (R := (Bool × LD)) (ll L 1) (li L 2) m (li x 0) (lb x 1) (ll x 2) (ld x 3) (fun p => some p)
def sh53x0x12 : Sh := { tmps := [(3, .c (.o 3)), (4, .c (.p 8000000002 0)), (9, .c (.sl 39)), (10, .c (.i .i64)), (11, .c (.i .i64))], mem := [(3, .row 3 true), (8000000002, .dat 121)] }
def A53x0x12 (L : List Lf) : List (Bool × (Ex × St)) := bnd (Q53x0x12 N L N (pk sh53x0x12 [3, 4, 5, 6] L)) fun q => [(q.isSome, ((.exit 0), ⟨[(3, .c (.o 3))], [(3, .row 3 true (q.getD default).1 (q.getD default).2)]⟩))]
theorem step53x0x12 (m : Nat) (kn : St → Option (Ex × St)) (L x : List Lf) : lpB Tryz.prog (T18x0 N) (h53x0s0 N).h 0 53 12 sh53x0x12 [3, 4, 5, 6] [2, 3] [3] (m + 100) kn L x = J53x0x12 N L x (fun y => kn (ofSh sh53x0x12 (mx sh53x0x12 [3, 4, 5, 6] L y))) (fun p => some ((.exit 0), ⟨[(3, .c (.o 3))], [(3, .row 3 true p.1 p.2)]⟩)) := by kernel_rfl
theorem ql53x0x12 (L : List Lf) (m : Nat) (x : List Lf) : Q53x0x12 N L (m + 1) x = J53x0x12 N L x (Q53x0x12 N L m) some := by kernel_rfl
def h53x0s1 : Sg Tryz.prog 0 53 :=
 (h53x0s0 N).lp (A53x0x12 N) N progOk (T18x0_ok N) (fun m kn L x => (step53x0x12 N m kn L x).trans (sb53x0x12 N L x _ _)) (fun L m x => (ql53x0x12 N L m x).trans (sb53x0x12 N L x (Q53x0x12 N L m) some)) fun L x hx => alt1 x hx
def F53x0 (v1 : LD) (k0 : Bool × LD → Option R) : Option R :=
 bnd (V34x0 N) fun y0 =>
 bnd (G53x0x12 N v1 (v1.length : Int) 0 true [] y0) fun y1 =>
 bif y1.isSome then
  k0 (y1.getD default)
 else
  none
def G53x0 (v1 : LD) : Option (Bool × LD) := F53x0 N v1 (fun p => some p)
theorem bind53x0 (v1 : LD) (k0 : Bool × LD → Option R) : F53x0 N v1 k0 = (G53x0 N v1).bind k0 := by
 unfold G53x0 F53x0
 repeat' (first | with_reducible apply cond_b | (with_reducible apply bnd_b; intro _) | rfl)
def sh53x0 : Sh := { tmps := [(0, .g ([.sl 39]))], mem := [] }
def A53x0 (L : List Lf) : List (Bool × Res) := bnd (F53x0 N (ll L 1) (fun p => some p)) fun q => [(q.isSome, ([.c (.sl 3 (q.getD default).1 (q.getD default).2)], []))]
theorem raw53x0 (L : List Lf) : bd Tryz.prog (T18x0 N) (h53x0s1 N).h 53 sh53x0 L = F53x0 N (ll L 1) (fun p => some ([.c (.sl 3 p.1 p.2)], [])) := by kernel_rfl
theorem ok53x0 : FnOk Tryz.prog 53 sh53x0 (A53x0 N) :=
 (h53x0s1 N).fn progOk (T18x0_ok N) fun L x hx => ((raw53x0 N L).trans ((bind53x0 N ..).trans (alt1 x hx)))
def T53x0 : Oracle := ext 53 (spSh sh53x0 (A53x0 N)) (T18x0 N)
theorem T53x0_ok : OracleOk Tryz.prog (T53x0 N) := FnOk.to (ok53x0 N) (T18x0_ok N)
def rg19x0 : List (Nat × List Nat) := [(0, [0]), (1, [1]), (2, [4, 1]), (3, [4]), (4, [1])]
def hd19x0 : Hints := []
def h19x0s0 (N : Nat) : Sg Tryz.prog 0 19 := .start hd19x0 rg19x0
def F19x0 (v1 : LD) (k0 : Bool × LD × Int → Option R) : Option R :=
 bnd (G13x0 N v1) fun y0 =>
 bif y0.isSome then
  bif ((y0.getD default) != 0) then
   k0 (true, [], (y0.getD default))
  else
   bnd (G53x0 N v1) fun y1 =>
   bif y1.isSome then
    k0 ((y1.getD default).1, (y1.getD default).2, 0)
   else
    none
 else
  none
def G19x0 (v1 : LD) : Option (Bool × LD × Int) := F19x0 N v1 (fun p => some p)
theorem bind19x0 (v1 : LD) (k0 : Bool × LD × Int → Option R) : F19x0 N v1 k0 = (G19x0 N v1).bind k0 := by
 unfold G19x0 F19x0
 repeat' (first | with_reducible apply cond_b | (with_reducible apply bnd_b; intro _) | rfl)
def sh19x0 : Sh := { tmps := [(0, .g ([.sl 39]))], mem := [] }
def A19x0 (L : List Lf) : List (Bool × Res) := bnd (F19x0 N (ll L 1) (fun p => some p)) fun q => [(q.isSome, ([.c (.sl 3 (q.getD default).1 (q.getD default).2.1), .c (.i .i64 (q.getD default).2.2)], []))]
theorem raw19x0 (L : List Lf) : bd Tryz.prog (T53x0 N) (h19x0s0 N).h 19 sh19x0 L = F19x0 N (ll L 1) (fun p => some ([.c (.sl 3 p.1 p.2.1), .c (.i .i64 p.2.2)], [])) := by kernel_rfl
theorem ok19x0 : FnOk Tryz.prog 19 sh19x0 (A19x0 N) :=
 (h19x0s0 N).fn progOk (T53x0_ok N) fun L x hx => ((raw19x0 N L).trans ((bind19x0 N ..).trans (alt1 x hx)))
def T19x0 : Oracle := ext 19 (spSh sh19x0 (A19x0 N)) (T53x0 N)
theorem T19x0_ok : OracleOk Tryz.prog (T19x0 N) := FnOk.to (ok19x0 N) (T53x0_ok N)
def rg20x0 : List (Nat × List Nat) := [(0, [0, 1]), (1, [0, 1]), (2, []), (3, [0, 1]), (4, [13, 12, 0, 1]), (5, [13, 0, 1, 12]), (6, [0, 5, 1, 13, 12]), (7, []), (8, [13, 12, 0, 1]), (9, [])]
def hd20x0 : Hints := [(12, [0, 1, 12, 13], [], [])]
def h20x0s0 (N : Nat) : Sg Tryz.prog 0 20 := .start hd20x0 rg20x0
def S20x0x12 (N : Nat) (w1 w3 : LD) (w4 : Int) (w5 : Int) (kr : Int → Option R) (k0 : Unit → Option R) (k1 : Unit → Option R) : Option R :=
 bif (decide (w5 < w4)) then
  bif (inB w5 w1.length) then
   bif (inB w5 w3.length) then
    bnd ((w1.getD w5.toNat (.i 0)).toI != (w3.getD w5.toNat (.i 0)).toI) fun y0 =>
    bif y0 then
     k0 ()
    else
     kr (IntKind.wrap .i64 (w5 + 1))
   else
    none
  else
   none
 else
  k1 ()
def L20x0x12 (N : Nat) {R : Type} (w1 w3 : LD) (w4 : Int) : Nat → Int → (Unit → Option R) → (Unit → Option R) → Option R
 | 0, _, _, _ => none
 | m + 1, w5, k0, k1 => S20x0x12 N w1 w3 w4 w5 (fun w5 => L20x0x12 N w1 w3 w4 m w5 k0 k1) k0 k1
def G20x0x12 (w1 w3 : LD) (w4 : Int) (w5 : Int) : Option (Sum (Unit) (Unit)) := L20x0x12 N (R := (Sum (Unit) (Unit))) w1 w3 w4 N w5 (fun p => some (.inl p)) (fun p => some (.inr p))
def J20x0x12 (L x : List Lf) (kr : List Lf → Option R) (k0 : Unit → Option R) (k1 : Unit → Option R) : Option R := S20x0x12 N (ll L 1) (ll L 3) (li L 4) (li x 0) (fun w5 => kr [.i w5]) k0 k1
theorem sb20x0x12 (L x : List Lf) (kr : List Lf → Option R) (k0 : Unit → Option R) (k1 : Unit → Option R) : J20x0x12 N L x kr k0 k1 = (J20x0x12 N L x (fun y => some (.inl y)) (fun p => some (.inr (.inl p))) (fun p => some (.inr (.inr p)))).bind (sumE kr (sumE k0 k1)) := by
 unfold J20x0x12 S20x0x12
 repeat' (first | with_reducible apply cond_b | (with_reducible apply bnd_b; intro _) | rfl)
def Q20x0x12 (L : List Lf) (m : Nat) (x : List Lf) : Option (Sum (Unit) (Unit)) := L20x0x12 N (R := (Sum (Unit) (Unit))) (ll L 1) (ll L 3) (li L 4) m (li x 0) (fun p => some (.inl p)) (fun p => some (.inr p))
def sh20x0x12 : Sh := { tmps := [(0, .c (.sl 3)), (1, .c (.sl 3)), (12, .c (.i .i64)), (13, .c (.i .i64))], mem := [] }
def A20x0x12 (L : List Lf) : List (Bool × (Ex × St)) := bnd (Q20x0x12 N L N (pk sh20x0x12 [5] L)) fun q => [((inlB q), (.ret, ⟨[(4, .c (.b false))], []⟩)), ((inrQ q).isSome, ((.exit 0), ⟨[], []⟩))]
theorem step20x0x12 (m : Nat) (kn : St → Option (Ex × St)) (L x : List Lf) : lpB Tryz.prog (T19x0 N) (h20x0s0 N).h 0 20 12 sh20x0x12 [5] [4] [] (m + 100) kn L x = J20x0x12 N L x (fun y => kn (ofSh sh20x0x12 (mx sh20x0x12 [5] L y))) (fun _ => some (.ret, ⟨[(4, .c (.b false))], []⟩)) (fun _ => some ((.exit 0), ⟨[], []⟩)) := by kernel_rfl
theorem ql20x0x12 (L : List Lf) (m : Nat) (x : List Lf) : Q20x0x12 N L (m + 1) x = J20x0x12 N L x (Q20x0x12 N L m) (fun p => some (.inl p)) (fun p => some (.inr p)) := by kernel_rfl
def h20x0s1 : Sg Tryz.prog 0 20 :=
 (h20x0s0 N).lp (A20x0x12 N) N progOk (T19x0_ok N) (fun m kn L x => (step20x0x12 N m kn L x).trans (sb20x0x12 N L x _ _ _)) (fun L m x => (ql20x0x12 N L m x).trans (sb20x0x12 N L x (Q20x0x12 N L m) (fun p => some (.inl p)) (fun p => some (.inr p)))) fun L x hx => (altS alt1) x hx
def F20x0 (v1 v3 : LD) (k0 : Bool → Option R) : Option R :=
 bif ((v1.length : Int) != (v3.length : Int)) then
  k0 false
 else
  bnd (G20x0x12 N v1 v3 (v1.length : Int) 0) fun y0 =>
  bif (inlB y0) then
   k0 false
  else
   bif (inrQ y0).isSome then
    k0 true
   else
    none
def G20x0 (v1 v3 : LD) : Option (Bool) := F20x0 N v1 v3 (fun p => some p)
theorem bind20x0 (v1 v3 : LD) (k0 : Bool → Option R) : F20x0 N v1 v3 k0 = (G20x0 N v1 v3).bind k0 := by
 unfold G20x0 F20x0
 repeat' (first | with_reducible apply cond_b | (with_reducible apply bnd_b; intro _) | rfl)
def sh20x0 : Sh := { tmps := [(0, .c (.sl 3)), (1, .c (.sl 3))], mem := [] }
def A20x0 (L : List Lf) : List (Bool × Res) := bnd (F20x0 N (ll L 1) (ll L 3) (fun p => some p)) fun q => [(q.isSome, ([.c (.b (q.getD default))], []))]
theorem raw20x0 (L : List Lf) : bd Tryz.prog (T19x0 N) (h20x0s1 N).h 20 sh20x0 L = F20x0 N (ll L 1) (ll L 3) (fun p => some ([.c (.b p)], [])) := by kernel_rfl
theorem ok20x0 : FnOk Tryz.prog 20 sh20x0 (A20x0 N) :=
 (h20x0s1 N).fn progOk (T19x0_ok N) fun L x hx => ((raw20x0 N L).trans ((bind20x0 N ..).trans (alt1 x hx)))
def T20x0 : Oracle := ext 20 (spSh sh20x0 (A20x0 N)) (T19x0 N)
theorem T20x0_ok : OracleOk Tryz.prog (T20x0 N) := FnOk.to (ok20x0 N) (T19x0_ok N)
def rg8x0 : List (Nat × List Nat) := [(0, []), (1, []), (2, [1]), (3, [2, 3]), (4, [3, 5, 4])]
def hd8x0 : Hints := [(13, [3, 4, 5], [], [])]
def h8x0s0 (N : Nat) : Sg Tryz.prog 0 8 := .start hd8x0 rg8x0
def F8x0x13 (w0 : Int) (w2 : LD) (w3 : Int) (k0 : Bool → Option R) : Option R :=
 bif (bif (w0 == 0) then (w3 == 0) else false) then
  bnd (G20x0 N w2 [(.i (-1)), (.i 100), (.i (-1)), (.i 100), (.i 105)]) fun y0 =>
  bif y0.isSome then
   k0 (y0.getD default)
  else
   none
 else
  k0 false
def G8x0x13 (w0 : Int) (w2 : LD) (w3 : Int) : Option (Bool) := F8x0x13 N w0 w2 w3 (fun p => some p)
theorem bind8x0x13 (w0 : Int) (w2 : LD) (w3 : Int) (k0 : Bool → Option R) : F8x0x13 N w0 w2 w3 k0 = (G8x0x13 N w0 w2 w3).bind k0 := by
 unfold G8x0x13 F8x0x13
 repeat' (first | with_reducible apply cond_b | (with_reducible apply bnd_b; intro _) | rfl)
def sh8x0x13 : Sh := { tmps := [(3, .c (.i .i64)), (4, .c (.sl 3)), (5, .c (.i .i64))], mem := [] }
def A8x0x13 (L : List Lf) : List (Bool × (Ex × St)) := bnd (F8x0x13 N (li L 0) (ll L 2) (li L 3) (fun p => some p)) fun q => [(q.isSome, (.normal, ⟨[(0, .c (.b (q.getD default)))], []⟩))]
theorem raw8x0x13 (L : List Lf) : pc Tryz.prog (T20x0 N) (h8x0s0 N).h 0 100 8 13 sh8x0x13 L [0] [] = F8x0x13 N (li L 0) (ll L 2) (li L 3) (fun p => some (.normal, ⟨[(0, .c (.b p))], []⟩)) := by kernel_rfl
def h8x0s1 : Sg Tryz.prog 0 8 :=
 (h8x0s0 N).cut (A8x0x13 N) progOk (T20x0_ok N) fun L x hx => (raw8x0x13 N L).trans ((bind8x0x13 N ..).trans (alt1 x hx))
def F8x0 (k0 : Bool → Option R) : Option R :=
 bnd (G18x0 N ([109] : List UInt8) 1 100 [(.a [(.i 0), (.i 0), (.i 0), (.i 0), (.i (-1)), (.i (-1)), (.i (-1))]), (.a [(.i 5), (.i 4), (.i 0), (.i 0), (.i 120), (.i (-1)), (.i (-1))])] [] [] false) fun y0 =>
 bif y0.isSome then
  bnd (G19x0 N (y0.getD default).2.1) fun y1 =>
  bif y1.isSome then
   bnd (G8x0x13 N (y0.getD default).2.2 (y1.getD default).2.1 (y1.getD default).2.2) fun y2 =>
   bif y2.isSome then
    k0 (y2.getD default)
   else
    none
  else
   none
 else
  none
def G8x0 : Option (Bool) := F8x0 N (fun p => some p)
theorem bind8x0 (k0 : Bool → Option R) : F8x0 N k0 = (G8x0 N).bind k0 := by
 unfold G8x0 F8x0
 repeat' (first | with_reducible apply cond_b | (with_reducible apply bnd_b; intro _) | rfl)
def sh8x0 : Sh := { tmps := [], mem := [] }
def A8x0 (L : List Lf) : List (Bool × Res) := bnd (F8x0 N (fun p => some p)) fun q => [(q.isSome, ([.c (.b (q.getD default))], []))]
theorem raw8x0 (L : List Lf) : bd Tryz.prog (T20x0 N) (h8x0s1 N).h 8 sh8x0 L = F8x0 N (fun p => some ([.c (.b p)], [])) := by kernel_rfl
theorem ok8x0 : FnOk Tryz.prog 8 sh8x0 (A8x0 N) :=
 (h8x0s1 N).fn progOk (T20x0_ok N) fun L x hx => ((raw8x0 N L).trans ((bind8x0 N ..).trans (alt1 x hx)))
def T8x0 : Oracle := ext 8 (spSh sh8x0 (A8x0 N)) (T20x0 N)
theorem T8x0_ok : OracleOk Tryz.prog (T8x0 N) := FnOk.to (ok8x0 N) (T20x0_ok N)
def rg3x0 : List (Nat × List Nat) := [(0, [0]), (1, [0]), (2, [0, 3, 4, 5]), (3, [3, 6, 4, 7, 5, 8])]
def hd3x0 : Hints := [(10, [3, 4, 5, 6, 7, 8], [3, 6], [])]
def h3x0s0 (N : Nat) : Sg Tryz.prog 0 3 := .start hd3x0 rg3x0
def F3x0x10 (w0 w1 w2 w3 : Int) (w5 w7 : LD) (k0 : Bool → Option R) : Option R :=
 bnd (G7x0 N w5 w7) fun y0 =>
 bif y0.isSome then
  bnd (bif (bif (y0.getD default) then (w0 == w2) else false) then (w1 == w3) else false) fun y1 =>
  bif y1 then
   bnd (G8x0 N) fun y2 =>
   bif y2.isSome then
    k0 (y2.getD default)
   else
    none
  else
   k0 false
 else
  none
def G3x0x10 (w0 w1 w2 w3 : Int) (w5 w7 : LD) : Option (Bool) := F3x0x10 N w0 w1 w2 w3 w5 w7 (fun p => some p)
theorem bind3x0x10 (w0 w1 w2 w3 : Int) (w5 w7 : LD) (k0 : Bool → Option R) : F3x0x10 N w0 w1 w2 w3 w5 w7 k0 = (G3x0x10 N w0 w1 w2 w3 w5 w7).bind k0 := by
 unfold G3x0x10 F3x0x10
 repeat' (first | with_reducible apply cond_b | (with_reducible apply bnd_b; intro _) | rfl)
def J3x0x10 (L : List Lf) (k0 : Bool → Option R) : Option R := F3x0x10 N (li L 0) (li L 1) (li L 2) (li L 3) (ll L 5) (ll L 7) k0
def sh3x0x10 : Sh := { tmps := [(3, .c (.p 3 0)), (4, .c (.i .i64)), (5, .c (.i .i64)), (6, .c (.p 6 0)), (7, .c (.i .i64)), (8, .c (.i .i64))], mem := [(3, .box ([.sl 39])), (6, .box ([.sl 39]))] }
def A3x0x10 (L : List Lf) : List (Bool × (Ex × St)) := bnd (J3x0x10 N L (fun p => some p)) fun q => [(q.isSome, (.normal, ⟨[(2, .c (.b (q.getD default)))], []⟩))]
theorem raw3x0x10 (L : List Lf) : pc Tryz.prog (T8x0 N) (h3x0s0 N).h 0 100 3 10 sh3x0x10 L [2] [] = J3x0x10 N L (fun p => some (.normal, ⟨[(2, .c (.b p))], []⟩)) := by kernel_rfl
def h3x0s1 : Sg Tryz.prog 0 3 :=
 (h3x0s0 N).cut (A3x0x10 N) progOk (T8x0_ok N) fun L x hx => (raw3x0x10 N L).trans ((bind3x0x10 N ..).trans (alt1 x hx))
def F3x0 (v0 : LB) (k0 : Bool → Option R) : Option R :=
 bnd (G5x0 N v0) fun y0 =>
 bif y0.isSome then
  bnd (G6x0 N v0) fun y1 =>
  bif y1.isSome then
   bnd (G3x0x10 N (y0.getD default).2.2.1 (y0.getD default).2.2.2 (y1.getD default).2.2.1 (y1.getD default).2.2.2 (y0.getD default).2.1 (y1.getD default).2.1) fun y2 =>
   bif y2.isSome then
    k0 (y2.getD default)
   else
    none
  else
   none
 else
  none
def G3x0 (v0 : LB) : Option (Bool) := F3x0 N v0 (fun p => some p)
theorem bind3x0 (v0 : LB) (k0 : Bool → Option R) : F3x0 N v0 k0 = (G3x0 N v0).bind k0 := by
 unfold G3x0 F3x0
 repeat' (first | with_reducible apply cond_b | (with_reducible apply bnd_b; intro _) | rfl)
def sh3x0 : Sh := { tmps := [(0, .c (.s))], mem := [] }
def A3x0 (L : List Lf) : List (Bool × Res) := bnd (F3x0 N (ls L 0) (fun p => some p)) fun q => [(q.isSome, ([.c (.b (q.getD default))], []))]
theorem raw3x0 (L : List Lf) : bd Tryz.prog (T8x0 N) (h3x0s1 N).h 3 sh3x0 L = F3x0 N (ls L 0) (fun p => some ([.c (.b p)], [])) := by kernel_rfl
theorem ok3x0 : FnOk Tryz.prog 3 sh3x0 (A3x0 N) :=
 (h3x0s1 N).fn progOk (T8x0_ok N) fun L x hx => ((raw3x0 N L).trans ((bind3x0 N ..).trans (alt1 x hx)))
def T3x0 : Oracle := ext 3 (spSh sh3x0 (A3x0 N)) (T8x0 N)
theorem T3x0_ok : OracleOk Tryz.prog (T3x0 N) := FnOk.to (ok3x0 N) (T8x0_ok N)
end
end Go.Proofs.YthifhnmfecjjcaaGreatDoor
