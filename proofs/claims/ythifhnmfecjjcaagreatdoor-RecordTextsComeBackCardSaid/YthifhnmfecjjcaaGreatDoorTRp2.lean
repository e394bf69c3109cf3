/- Functions of the program as plain Lean definitions, each with the proof that the program computes it. No condition. Printed by a program of the prover, part 2. -/
import Derived.Test.YthifhnmfecjjcaaGreatDoorTRp1
import Derived.KernelRfl
set_option linter.all false
set_option maxRecDepth 100000
namespace Go.Proofs.YthifhnmfecjjcaaGreatDoor
open Go Go.AM
noncomputable section
variable (N : Nat) {R : Type}
theorem sb33x0x15 (L x : List Lf) (kr : List Lf → Option R) (k0 : Bool × LD → Option R) (k1 : Bool × LD → Option R) : J33x0x15 N L x kr k0 k1 = (J33x0x15 N L x (fun y => some (.inl y)) (fun p => some (.inr (.inl p))) (fun p => some (.inr (.inr p)))).bind (sumE kr (sumE k0 k1)) := by
 unfold J33x0x15 S33x0x15
 repeat' (first | with_reducible apply cond_b | (with_reducible apply bnd_b; intro _) | rfl)
def Q33x0x15 (L : List Lf) (m : Nat) (x : List Lf) : Option (Sum (Bool × LD) (Bool × LD)) := L33x0x15 N (R := (Sum (Bool × LD) (Bool × LD))) (ls L 0) m (li x 0) (lb x 1) (ll x 2) (fun p => some (.inl p)) (fun p => some (.inr p))
def sh33x0x15 : Sh := { tmps := [(0, .c (.s)), (4, .c (.o 4)), (5, .c (.i .i64))], mem := [(4, .row 5 true)] }
def K33x0x15w0 (L : List Lf) (p : Bool × LD) : Ex × St := (.ret, ⟨[(2, .c (.sl 5 true [])), (3, .c (.b false))], [(4, .row 5 true p.1 p.2)]⟩)
def K33x0x15w1 (L : List Lf) (p : Bool × LD) : Ex × St := ((.exit 0), mg (ofSh sh33x0x15 L) [4, 0] [] [4] [(4, .row 5 true p.1 p.2)])
def A33x0x15 (L : List Lf) : List (Bool × (Ex × St)) := bnd (Q33x0x15 N L N (pk sh33x0x15 [1, 2, 3] L)) fun q => [((inlB q), K33x0x15w0 L (inlV q)), ((inrQ q).isSome, K33x0x15w1 L ((inrQ q).getD default))]
theorem step33x0x15 (m : Nat) (kn : St → Option (Ex × St)) (L x : List Lf) : lpB Tryz.prog (T60x0 N) (h33x0s0 N).h 0 33 15 sh33x0x15 [1, 2, 3] [2, 3, 4, 0] [4] (m + 100) kn L x = J33x0x15 N L x (fun y => kn (ofSh sh33x0x15 (mx sh33x0x15 [1, 2, 3] L y))) (fun p => some (K33x0x15w0 L p)) (fun p => some (K33x0x15w1 L p)) := by kernel_rfl
theorem ql33x0x15 (L : List Lf) (m : Nat) (x : List Lf) : Q33x0x15 N L (m + 1) x = J33x0x15 N L x (Q33x0x15 N L m) (fun p => some (.inl p)) (fun p => some (.inr p)) := by kernel_rfl
def h33x0s1 : Sg Tryz.prog 0 33 :=
 (h33x0s0 N).lp (A33x0x15 N) N progOk (T60x0_ok N) (fun m kn L x => (step33x0x15 N m kn L x).trans (sb33x0x15 N L x _ _ _)) (fun L m x => (ql33x0x15 N L m x).trans (sb33x0x15 N L x (Q33x0x15 N L m) (fun p => some (.inl p)) (fun p => some (.inr p)))) fun L x hx => (altS alt1) x hx
def F33x0 (v0 : LB) (k0 : Bool × LD × Bool → Option R) : Option R :=
 bif (v0 == ([45] : List UInt8)) then
  k0 (true, [], true)
 else
  bnd (G33x0x15 N v0 0 true []) fun y0 =>
  bif (inlB y0) then
   k0 (true, [], false)
  else
   bif (inrQ y0).isSome then
    bnd (bif (decide ((v0.length : Int) > 0)) then (((v0.length : Int).tmod 2) == 0) else false) fun y1 =>
    k0 (((inrQ y0).getD default).1, ((inrQ y0).getD default).2, y1)
   else
    none
def G33x0 (v0 : LB) : Option (Bool × LD × Bool) := F33x0 N v0 (fun p => some p)
theorem bind33x0 (v0 : LB) (k0 : Bool × LD × Bool → Option R) : F33x0 N v0 k0 = (G33x0 N v0).bind k0 := by
 unfold G33x0 F33x0
 repeat' (first | with_reducible apply cond_b | (with_reducible apply bnd_b; intro _) | rfl)
def sh33x0 : Sh := { tmps := [(0, .c (.s))], mem := [] }
def A33x0 (L : List Lf) : List (Bool × Res) := bnd (F33x0 N (ls L 0) (fun p => some p)) fun q => [(q.isSome, ([.c (.sl 5 (q.getD default).1 (q.getD default).2.1), .c (.b (q.getD default).2.2)], []))]
theorem raw33x0 (L : List Lf) : bd Tryz.prog (T60x0 N) (h33x0s1 N).h 33 sh33x0 L = F33x0 N (ls L 0) (fun p => some ([.c (.sl 5 p.1 p.2.1), .c (.b p.2.2)], [])) := by kernel_rfl
theorem ok33x0 : FnOk Tryz.prog 33 sh33x0 (A33x0 N) :=
 (h33x0s1 N).fn progOk (T60x0_ok N) fun L x hx => ((raw33x0 N L).trans ((bind33x0 N ..).trans (alt1 x hx)))
def T33x0 : Oracle := ext 33 (spSh sh33x0 (A33x0 N)) (T60x0 N)
theorem T33x0_ok : OracleOk Tryz.prog (T33x0 N) := FnOk.to (ok33x0 N) (T60x0_ok N)
def rg12x0 : List (Nat × List Nat) := [(0, [0]), (1, [0, 3, 2]), (2, [3, 4, 2]), (4, [4, 3, 2]), (6, [4, 3, 2]), (8, [4, 3, 2]), (3, [2, 3]), (9, [4, 3, 2]), (10, [4, 3, 5, 2]), (11, [4, 2, 3, 6, 5]), (12, [75, 74, 73, 2, 3, 6, 4, 5]), (13, [73, 75, 2, 3, 6, 74, 4, 5]), (14, [8, 2, 3, 6, 75, 74, 73, 4, 5]), (15, [9, 2, 3, 6, 75, 74, 73, 4, 5]), (16, [2, 3]), (17, [6, 9, 3, 75, 74, 73, 2, 4, 5]), (18, [75, 74, 73, 2, 3, 6, 4, 5]), (19, [4, 3, 6, 5, 2]), (20, [10, 6, 3, 5, 2]), (7, [4, 3, 2]), (5, [4, 3, 2]), (21, [4, 2, 3]), (22, [11, 2, 3, 12]), (23, [2, 3, 12])]
def hd12x0 : Hints := [(36, [2, 3, 4, 5, 6, 73, 74, 75], [2, 3, 6, 50006002, 15000000000], [50006002]), (18017, [2, 3, 4, 16], [2, 3, 15000000000], [])]
def h12x0s0 (N : Nat) : Sg Tryz.prog 0 12 := .start hd12x0 rg12x0
def S12x0x36 (w2 : LD) (w3 : Int) (w4 : Int) (w12 w15 : Bool) (w16 : LD) (kr : Int → Bool → Bool → LD → Option R) (k0 : Bool × LD → Option R) (k1 : Bool × Bool × LD → Option R) : Option R :=
 bif (decide (w4 < w3)) then
  bif (inB w4 w2.length) then
   bif ((Nat.blt (w2.getD w4.toNat (.i 0)).toS.length 4294967281) && (!([58] : List UInt8).isEmpty)) then
    bnd ((strsD (splitD (w2.getD w4.toNat (.i 0)).toS ([58] : List UInt8))).length : Int) fun y0 =>
    bif (y0 != 3) then
     k0 (w15, w16)
    else
     bif (inB 0 (strsD (splitD (w2.getD w4.toNat (.i 0)).toS ([58] : List UInt8))).length) then
      bif (decide (0 < (strsD (splitD (w2.getD w4.toNat (.i 0)).toS ([58] : List UInt8))).length)) then
       bnd ((strsD (splitD (w2.getD w4.toNat (.i 0)).toS ([58] : List UInt8))).getD 0 (.i 0)).toS fun y1 =>
       bnd (G31x1 N y1 w12) fun y2 =>
       bif y2.isSome then
        bif (inB 1 (strsD (splitD (w2.getD w4.toNat (.i 0)).toS ([58] : List UInt8))).length) then
         bif (decide (1 < (strsD (splitD (w2.getD w4.toNat (.i 0)).toS ([58] : List UInt8))).length)) then
          bnd ((strsD (splitD (w2.getD w4.toNat (.i 0)).toS ([58] : List UInt8))).getD 1 (.i 0)).toS fun y3 =>
          bnd (G31x1 N y3 (y2.getD default).2) fun y4 =>
          bif y4.isSome then
           bif (inB 2 (strsD (splitD (w2.getD w4.toNat (.i 0)).toS ([58] : List UInt8))).length) then
            bif (decide (2 < (strsD (splitD (w2.getD w4.toNat (.i 0)).toS ([58] : List UInt8))).length)) then
             bnd ((strsD (splitD (w2.getD w4.toNat (.i 0)).toS ([58] : List UInt8))).getD 2 (.i 0)).toS fun y5 =>
             bnd (G31x1 N y5 (y4.getD default).2) fun y6 =>
             bif y6.isSome then
              bif (decide ((w16.length + 1) * 24 ≤ room) && decide ((w16.length + 1) ≤ strMax)) then
               bnd ((w16 ++ [(.a [(.i (y2.getD default).1), (.i (y4.getD default).1), (.i (y6.getD default).1)])]) : List D) fun y7 =>
               kr (IntKind.wrap .i64 (w4 + 1)) (y6.getD default).2 false y7
              else
               none
             else
              none
            else
             none
           else
            none
          else
           none
         else
          none
        else
         none
       else
        none
      else
       none
     else
      none
   else
    none
  else
   none
 else
  k1 (w12, w15, w16)
def L12x0x36 (N : Nat) {R : Type} (w2 : LD) (w3 : Int) : Nat → Int → Bool → Bool → LD → (Bool × LD → Option R) → (Bool × Bool × LD → Option R) → Option R
 | 0, _, _, _, _, _, _ => none
 | m + 1, w4, w12, w15, w16, k0, k1 => S12x0x36 N w2 w3 w4 w12 w15 w16 (fun w4 w12 w15 w16 => L12x0x36 N w2 w3 m w4 w12 w15 w16 k0 k1) k0 k1
def G12x0x36 (w2 : LD) (w3 : Int) (w4 : Int) (w12 w15 : Bool) (w16 : LD) : Option (Sum (Bool × LD) (Bool × Bool × LD)) := L12x0x36 N (R := (Sum (Bool × LD) (Bool × Bool × LD))) w2 w3 N w4 w12 w15 w16 (fun p => some (.inl p)) (fun p => some (.inr p))
def J12x0x36 (L x : List Lf) (kr : List Lf → Option R) (k0 : Bool × LD → Option R) (k1 : Bool × Bool × LD → Option R) : Option R := S12x0x36 N (ll L 2) (li L 3) (li x 0) (lb x 1) (lb x 2) (ll x 3) (fun w4 w12 w15 w16 => kr [.i w4, .b w12, .b w15, .l w16]) k0 k1
theorem sb12x0x36 (L x : List Lf) (kr : List Lf → Option R) (k0 : Bool × LD → Option R) (k1 : Bool × Bool × LD → Option R) : J12x0x36 N L x kr k0 k1 = (J12x0x36 N L x (fun y => some (.inl y)) (fun p => some (.inr (.inl p))) (fun p => some (.inr (.inr p)))).bind (sumE kr (sumE k0 k1)) := by
 unfold J12x0x36 S12x0x36
 repeat' (first | with_reducible apply cond_b | (with_reducible apply bnd_b; intro _) | rfl)
def Q12x0x36 (L : List Lf) (m : Nat) (x : List Lf) : Option (Sum (Bool × LD) (Bool × Bool × LD)) := L12x0x36 N (R := (Sum (Bool × LD) (Bool × Bool × LD))) (ll L 2) (li L 3) m (li x 0) (lb x 1) (lb x 2) (ll x 3) (fun p => some (.inl p)) (fun p => some (.inr p))
def sh12x0x36 : Sh := { tmps := [(2, .c (.p 2 0)), (3, .c (.p 3 0)), (4, .c (.o 15000000000)), (5, .c (.i .i64)), (6, .c (.p 6 0)), (73, .c (.sl 9)), (74, .c (.i .i64)), (75, .c (.i .i64))], mem := [(2, .box ([.i .i64, .i .i64, .i .i64, .sl 64, .sl 5])), (3, .box ([.b])), (6, .box ([.b, .i .i64, .o 50006002])), (50006002, .row 71 true), (15000000000, .row 9 false)] }
def K12x0x36w0 (L : List Lf) (p : Bool × LD) : Ex × St := (.ret, mg (ofSh sh12x0x36 L) [2, 3] [] [3, 2, 50006002, 6, 15000000000] [(3, .box [.b false]), (50006002, .row 71 true p.1 p.2)])
def K12x0x36w1 (L : List Lf) (p : Bool × Bool × LD) : Ex × St := ((.exit 1), mg (ofSh sh12x0x36 L) [2, 3, 4, 6, 5] [] [3, 2, 50006002, 6, 15000000000] [(3, .box [.b p.1]), (50006002, .row 71 true p.2.1 p.2.2)])
def A12x0x36 (L : List Lf) : List (Bool × (Ex × St)) := bnd (Q12x0x36 N L N (pk sh12x0x36 [4, 12, 15, 16] L)) fun q => [((inlB q), K12x0x36w0 L (inlV q)), ((inrQ q).isSome, K12x0x36w1 L ((inrQ q).getD default))]
theorem step12x0x36 (m : Nat) (kn : St → Option (Ex × St)) (L x : List Lf) : lpB Tryz.prog (T33x0 N) (h12x0s0 N).h 0 12 36 sh12x0x36 [4, 12, 15, 16] [2, 3, 4, 6, 5] [3, 2, 50006002, 6, 15000000000] (m + 100) kn L x = J12x0x36 N L x (fun y => kn (ofSh sh12x0x36 (mx sh12x0x36 [4, 12, 15, 16] L y))) (fun p => some (K12x0x36w0 L p)) (fun p => some (K12x0x36w1 L p)) := by kernel_rfl
theorem ql12x0x36 (L : List Lf) (m : Nat) (x : List Lf) : Q12x0x36 N L (m + 1) x = J12x0x36 N L x (Q12x0x36 N L m) (fun p => some (.inl p)) (fun p => some (.inr p)) := by kernel_rfl
def h12x0s1 : Sg Tryz.prog 0 12 :=
 (h12x0s0 N).lp (A12x0x36 N) N progOk (T33x0_ok N) (fun m kn L x => (step12x0x36 N m kn L x).trans (sb12x0x36 N L x _ _ _)) (fun L m x => (ql12x0x36 N L m x).trans (sb12x0x36 N L x (Q12x0x36 N L m) (fun p => some (.inl p)) (fun p => some (.inr p)))) fun L x hx => (altS alt1) x hx
def F12x0x18017 (w0 w8 : Bool) (w10 : LD) (k0 : Bool × Int × Int × Int → Option R) (k1 : Unit → Option R) (k2 : Bool × Int × LD → Option R) (k3 : Unit → Option R) : Option R :=
 bif w0 then
  bif (inB 1 w10.length) then
   bif (decide (1 < w10.length)) then
    bnd (G31x1 N (w10.getD 1 (.i 0)).toS w8) fun y0 =>
    bif y0.isSome then
     k0 ((y0.getD default).2, 2, (y0.getD default).1, 0)
    else
     none
   else
    none
  else
   none
 else
  bif (inB 0 w10.length) then
   bif (decide (0 < w10.length)) then
    bnd ((w10.getD 0 (.i 0)).toS == ([115, 104, 111, 114, 116] : List UInt8)) fun y1 =>
    bif (bif y1 then ((w10.length : Int) == 4) else false) then
     bif (inB 1 w10.length) then
      bif (decide (1 < w10.length)) then
       bnd (G31x1 N (w10.getD 1 (.i 0)).toS w8) fun y0 =>
       bif y0.isSome then
        bif (inB 2 w10.length) then
         bif (decide (2 < w10.length)) then
          bnd (G31x1 N (w10.getD 2 (.i 0)).toS (y0.getD default).2) fun y2 =>
          bif y2.isSome then
           k0 ((y2.getD default).2, 3, (y0.getD default).1, (y2.getD default).1)
          else
           none
         else
          none
        else
         none
       else
        none
      else
       none
     else
      none
    else
     bif (inB 0 w10.length) then
      bif (decide (0 < w10.length)) then
       bnd ((w10.getD 0 (.i 0)).toS == ([100, 101, 102, 105, 110, 101] : List UInt8)) fun y3 =>
       bnd (bif y3 then (decide ((w10.length : Int) ≥ 4)) else false) fun y4 =>
       bif y4 then
        bnd (V22x0 N) fun y5 =>
        bif (inB 3 w10.length) then
         bif (decide (3 < w10.length)) then
          bnd (G32x0 N y5 (w10.getD 3 (.i 0)).toS) fun y6 =>
          bif y6.isSome then
           bif (inB 2 w10.length) then
            bif (decide (2 < w10.length)) then
             bnd (G31x1 N (w10.getD 2 (.i 0)).toS w8) fun y7 =>
             bif y7.isSome then
              bif ((decide (4 ≤ (w10.length : Int))) && (decide ((w10.length : Int) ≤ (w10.length : Int)))) then
               bnd (G12x0x36 N ((w10.take (w10.length : Int).toNat).drop 4) (((w10.take (w10.length : Int).toNat).drop 4).length : Int) 0 (y7.getD default).2 true []) fun y8 =>
               bif (inlB y8) then
                k1 ()
               else
                bif (inrQ y8).isSome then
                 bif (inB 1 w10.length) then
                  bif (decide (1 < w10.length)) then
                   bnd (G31x1 N (w10.getD 1 (.i 0)).toS ((inrQ y8).getD default).1) fun y9 =>
                   bif y9.isSome then
                    bnd (bif (y9.getD default).2 then (decide ((y6.getD default) ≥ 0)) else false) fun y10 =>
                    k2 (y10, (y9.getD default).1, [(.a [(.b ((y6.getD default) == 1)), (.i (y7.getD default).1), (.l ((inrQ y8).getD default).2.1 ((inrQ y8).getD default).2.2)])])
                   else
                    none
                  else
                   none
                 else
                  none
                else
                 none
              else
               none
             else
              none
            else
             none
           else
            none
          else
           none
         else
          none
        else
         none
       else
        k3 ()
      else
       none
     else
      none
   else
    none
  else
   none
def G12x0x18017 (w0 w8 : Bool) (w10 : LD) : Option (Sum (Bool × Int × Int × Int) (Sum (Unit) (Sum (Bool × Int × LD) (Unit)))) := F12x0x18017 N w0 w8 w10 (fun p => some (.inl p)) (fun p => some (.inr (.inl p))) (fun p => some (.inr (.inr (.inl p)))) (fun p => some (.inr (.inr (.inr p))))
theorem bind12x0x18017 (w0 w8 : Bool) (w10 : LD) (k0 : Bool × Int × Int × Int → Option R) (k1 : Unit → Option R) (k2 : Bool × Int × LD → Option R) (k3 : Unit → Option R) : F12x0x18017 N w0 w8 w10 k0 k1 k2 k3 = (G12x0x18017 N w0 w8 w10).bind (sumE k0 (sumE k1 (sumE k2 k3))) := by
 unfold G12x0x18017 F12x0x18017
 repeat' (first | with_reducible apply cond_b | (with_reducible apply bnd_b; intro _) | rfl)
def sh12x0x18017 : Sh := { tmps := [(2, .c (.p 2 0)), (3, .c (.p 3 0)), (4, .c (.o 15000000000)), (16, .c (.b))], mem := [(2, .box ([.i .i64, .i .i64, .i .i64, .sl 64, .sl 5])), (3, .box ([.b])), (15000000000, .row 9 true)] }
def K12x0x18017w0 (L : List Lf) (p : Bool × Int × Int × Int) : Ex × St := (.normal, mg (ofSh sh12x0x18017 L) [4, 2, 3] [] [15000000000, 3, 2] [(3, .box [.b p.1]), (2, .box [.i .i64 p.2.1, .i .i64 p.2.2.1, .i .i64 p.2.2.2, .sl 64 true [], .sl 5 true []])])
def K12x0x18017w1 (L : List Lf) (_ : Unit) : Ex × St := (.ret, mg (ofSh sh12x0x18017 L) [2, 3] [] [15000000000, 3, 2] [(15000000000, .row 9 false (lb L 9) (ll L 10)), (3, .box [.b false])])
def K12x0x18017w2 (L : List Lf) (p : Bool × Int × LD) : Ex × St := (.ret, ⟨[(2, .c (.p 2 0)), (3, .c (.p 3 0))], [(15000000000, .row 9 false (lb L 9) (ll L 10)), (3, .box [.b p.1]), (2, .box [.i .i64 1, .i .i64 p.2.1, .i .i64 0, .o 110, .sl 5 true []]), (110, .row 64 true false p.2.2)]⟩)
def K12x0x18017w3 (L : List Lf) (_ : Unit) : Ex × St := (.ret, mg (ofSh sh12x0x18017 L) [2, 3] [] [15000000000, 3, 2] [(3, .box [.b false])])
def A12x0x18017 (L : List Lf) : List (Bool × (Ex × St)) := bnd (F12x0x18017 N (lb L 0) (lb L 8) (ll L 10) (fun p => some (.inl p)) (fun p => some (.inr (.inl p))) (fun p => some (.inr (.inr (.inl p)))) (fun p => some (.inr (.inr (.inr p))))) fun q => [((inlB q), K12x0x18017w0 L (inlV q)), ((inlB (inrQ q)), K12x0x18017w1 L ()), ((inlB (inrQ (inrQ q))), K12x0x18017w2 L (inlV (inrQ (inrQ q)))), ((inrQ (inrQ (inrQ q))).isSome, K12x0x18017w3 L ())]
theorem raw12x0x18017 (L : List Lf) : pc Tryz.prog (T33x0 N) (h12x0s1 N).h 0 100 12 18017 sh12x0x18017 L [4, 2, 3] [15000000000, 3, 2, 110] = F12x0x18017 N (lb L 0) (lb L 8) (ll L 10) (fun p => some (K12x0x18017w0 L p)) (fun _ => some (K12x0x18017w1 L ())) (fun p => some (K12x0x18017w2 L p)) (fun _ => some (K12x0x18017w3 L ())) := by kernel_rfl
def h12x0s2 : Sg Tryz.prog 0 12 :=
 (h12x0s1 N).cut (A12x0x18017 N) progOk (T33x0_ok N) fun L x hx => (raw12x0x18017 N L).trans ((bind12x0x18017 N ..).trans ((altS (altS (altS alt1))) x hx))
def F12x0 (v0 : LB) (k0 : Ty0 → Option R) : Option R :=
 bif ((Nat.blt v0.length 4294967281) && (!([32] : List UInt8).isEmpty)) then
  bif (inB 0 (strsD (splitD v0 ([32] : List UInt8))).length) then
   bif (decide (0 < (strsD (splitD v0 ([32] : List UInt8))).length)) then
    bnd (((strsD (splitD v0 ([32] : List UInt8))).getD 0 (.i 0)).toS == ([100, 97, 116, 97] : List UInt8)) fun y0 =>
    bnd (bif y0 then (((strsD (splitD v0 ([32] : List UInt8))).length : Int) == 3) else false) fun y1 =>
    bnd (G12x0x18017 N y1 true (strsD (splitD v0 ([32] : List UInt8)))) fun y2 =>
    bif (inlB y2) then
     bnd (IntKind.wrap .i64 (((strsD (splitD v0 ([32] : List UInt8))).length : Int) - 1)) fun y3 =>
     bif (inB y3 (strsD (splitD v0 ([32] : List UInt8))).length) then
      bif (decide (y3.toNat < (strsD (splitD v0 ([32] : List UInt8))).length)) then
       bnd ((strsD (splitD v0 ([32] : List UInt8))).getD y3.toNat (.i 0)).toS fun y4 =>
       bnd (G33x0 N y4) fun y5 =>
       bif y5.isSome then
        bnd (bif (inlV y2).1 then (y5.getD default).2.2 else false) fun y6 =>
        k0 ((inlV y2).2.1, (inlV y2).2.2.1, (inlV y2).2.2.2, true, [], (y5.getD default).1, (y5.getD default).2.1, y6)
       else
        none
      else
       none
     else
      none
    else
     bif (inlB (inrQ y2)) then
      k0 (0, 0, 0, true, [], true, [], false)
     else
      bif (inlB (inrQ (inrQ y2))) then
       k0 (1, (inlV (inrQ (inrQ y2))).2.1, 0, false, (inlV (inrQ (inrQ y2))).2.2, true, [], (inlV (inrQ (inrQ y2))).1)
      else
       bif (inrQ (inrQ (inrQ y2))).isSome then
        k0 (0, 0, 0, true, [], true, [], false)
       else
        none
   else
    none
  else
   none
 else
  none
def G12x0 (v0 : LB) : Option (Ty0) := F12x0 N v0 (fun p => some p)
theorem bind12x0 (v0 : LB) (k0 : Ty0 → Option R) : F12x0 N v0 k0 = (G12x0 N v0).bind k0 := by
 unfold G12x0 F12x0
 repeat' (first | with_reducible apply cond_b | (with_reducible apply bnd_b; intro _) | rfl)
def sh12x0 : Sh := { tmps := [(0, .c (.s))], mem := [] }
def K12x0w0 (L : List Lf) (p : Ty0) : Res := let p1 := p.2; let p2 := p1.2; let p3 := p2.2; let p4 := p3.2; let p5 := p4.2; let p6 := p5.2; let p7 := p6.2; ([.g [.i .i64 p.1, .i .i64 p1.1, .i .i64 p2.1, .sl 64 p3.1 p4.1, .sl 5 p5.1 p6.1], .c (.b p7)], [])
def A12x0 (L : List Lf) : List (Bool × Res) := bnd (F12x0 N (ls L 0) (fun p => some p)) fun q => [(q.isSome, K12x0w0 L (q.getD default))]
theorem raw12x0 (L : List Lf) : bd Tryz.prog (T33x0 N) (h12x0s2 N).h 12 sh12x0 L = F12x0 N (ls L 0) (fun p => some (K12x0w0 L p)) := by kernel_rfl
theorem ok12x0 : FnOk Tryz.prog 12 sh12x0 (A12x0 N) :=
 (h12x0s2 N).fn progOk (T33x0_ok N) fun L x hx => ((raw12x0 N L).trans ((bind12x0 N ..).trans (alt1 x hx)))
def T12x0 : Oracle := ext 12 (spSh sh12x0 (A12x0 N)) (T33x0 N)
theorem T12x0_ok : OracleOk Tryz.prog (T12x0 N) := FnOk.to (ok12x0 N) (T33x0_ok N)
def rg5x0 : List (Nat × List Nat) := [(0, [0]), (1, [0, 2]), (2, [2]), (3, [0, 2]), (4, [0, 2, 5]), (5, [0, 6, 2, 5]), (7, [0, 6, 2, 5]), (8, [8, 7, 9, 6, 2, 5]), (9, [7, 9, 6, 2, 5, 0]), (10, [9, 11, 6, 2, 5, 10, 0]), (11, [6, 2]), (12, [5, 10, 6, 0, 2]), (6, [6, 0, 2, 5]), (13, [5, 2]), (14, [12, 2, 5]), (15, [12, 2]), (16, [5, 2])]
def hd5x0 : Hints := [(15, [0, 2, 5, 6], [2, 5, 50005000], [50005000])]
def h5x0s0 (N : Nat) : Sg Tryz.prog 0 5 := .start hd5x0 rg5x0
def S5x0x15 (w0 : LB) (w1 : Int) (w4 : Bool) (w5 : LD) (kr : LB → Int → Bool → LD → Option R) (k0 : Int × Bool × LD → Option R) (k1 : Bool × LD → Option R) : Option R :=
 bif (!(w0 == ([] : List UInt8))) then
  bnd (G11x0 N w0) fun y0 =>
  bif y0.isSome then
   bnd (G12x0 N (y0.getD default).1) fun y1 =>
   bif y1.isSome then
    bnd (bif (!(y0.getD default).2.2) then true else (!(y1.getD default).2.2.2.2.2.2.2)) fun y2 =>
    bif y2 then
     k0 (w1, w4, w5)
    else
     bif (decide ((w5.length + 1) * 72 ≤ room) && decide ((w5.length + 1) ≤ strMax)) then
      bnd ((w5 ++ [(.a [(.i (y1.getD default).1), (.i (y1.getD default).2.1), (.i (y1.getD default).2.2.1), (.l (y1.getD default).2.2.2.1 (y1.getD default).2.2.2.2.1), (.l (y1.getD default).2.2.2.2.2.1 (y1.getD default).2.2.2.2.2.2.1)])]) : List D) fun y3 =>
      kr (y0.getD default).2.1 (IntKind.wrap .i64 (w1 + 1)) false y3
     else
      none
   else
    none
  else
   none
 else
  k1 (w4, w5)
def L5x0x15 (N : Nat) {R : Type} : Nat → LB → Int → Bool → LD → (Int × Bool × LD → Option R) → (Bool × LD → Option R) → Option R
 | 0, _, _, _, _, _, _ => none
 | m + 1, w0, w1, w4, w5, k0, k1 => S5x0x15 N w0 w1 w4 w5 (fun w0 w1 w4 w5 => L5x0x15 N m w0 w1 w4 w5 k0 k1) k0 k1
def G5x0x15 (w0 : LB) (w1 : Int) (w4 : Bool) (w5 : LD) : Option (Sum (Int × Bool × LD) (Bool × LD)) := L5x0x15 N (R := (Sum (Int × Bool × LD) (Bool × LD))) N w0 w1 w4 w5 (fun p => some (.inl p)) (fun p => some (.inr p))
def J5x0x15 (L x : List Lf) (kr : List Lf → Option R) (k0 : Int × Bool × LD → Option R) (k1 : Bool × LD → Option R) : Option R := S5x0x15 N (ls x 0) (li x 1) (lb x 2) (ll x 3) (fun w0 w1 w4 w5 => kr [.s w0, .i w1, .b w4, .l w5]) k0 k1
theorem sb5x0x15 (L x : List Lf) (kr : List Lf → Option R) (k0 : Int × Bool × LD → Option R) (k1 : Bool × LD → Option R) : J5x0x15 N L x kr k0 k1 = (J5x0x15 N L x (fun y => some (.inl y)) (fun p => some (.inr (.inl p))) (fun p => some (.inr (.inr p)))).bind (sumE kr (sumE k0 k1)) := by
 unfold J5x0x15 S5x0x15
 repeat' (first | with_reducible apply cond_b | (with_reducible apply bnd_b; intro _) | rfl)
def Q5x0x15 (L : List Lf) (m : Nat) (x : List Lf) : Option (Sum (Int × Bool × LD) (Bool × LD)) := L5x0x15 N (R := (Sum (Int × Bool × LD) (Bool × LD))) m (ls x 0) (li x 1) (lb x 2) (ll x 3) (fun p => some (.inl p)) (fun p => some (.inr p))
def sh5x0x15 : Sh := { tmps := [(0, .c (.s)), (2, .c (.p 2 0)), (5, .c (.p 5 0)), (6, .c (.i .i64))], mem := [(2, .box ([.sl 39])), (5, .box ([.o 50005000])), (50005000, .row 39 true)] }
def K5x0x15w0 (L : List Lf) (p : Int × Bool × LD) : Ex × St := (.ret, ⟨[(2, .c (.p 2 0)), (3, .c (.i .i64 p.1)), (4, .c (.i .i64 6))], [(2, .box [.sl 39 true []]), (50005000, .row 39 true p.2.1 p.2.2), (5, .box [.o 50005000])]⟩)
def K5x0x15w1 (L : List Lf) (p : Bool × LD) : Ex × St := ((.exit 0), mg (ofSh sh5x0x15 L) [2, 5] [] [2, 50005000, 5] [(50005000, .row 39 true p.1 p.2)])
def A5x0x15 (L : List Lf) : List (Bool × (Ex × St)) := bnd (Q5x0x15 N L N (pk sh5x0x15 [0, 1, 4, 5] L)) fun q => [((inlB q), K5x0x15w0 L (inlV q)), ((inrQ q).isSome, K5x0x15w1 L ((inrQ q).getD default))]
theorem step5x0x15 (m : Nat) (kn : St → Option (Ex × St)) (L x : List Lf) : lpB Tryz.prog (T12x0 N) (h5x0s0 N).h 0 5 15 sh5x0x15 [0, 1, 4, 5] [2, 3, 4, 5] [2, 50005000, 5] (m + 100) kn L x = J5x0x15 N L x (fun y => kn (ofSh sh5x0x15 (mx sh5x0x15 [0, 1, 4, 5] L y))) (fun p => some (K5x0x15w0 L p)) (fun p => some (K5x0x15w1 L p)) := by kernel_rfl
theorem ql5x0x15 (L : List Lf) (m : Nat) (x : List Lf) : Q5x0x15 N L (m + 1) x = J5x0x15 N L x (Q5x0x15 N L m) (fun p => some (.inl p)) (fun p => some (.inr p)) := by kernel_rfl
def h5x0s1 : Sg Tryz.prog 0 5 :=
 (h5x0s0 N).lp (A5x0x15 N) N progOk (T12x0_ok N) (fun m kn L x => (step5x0x15 N m kn L x).trans (sb5x0x15 N L x _ _ _)) (fun L m x => (ql5x0x15 N L m x).trans (sb5x0x15 N L x (Q5x0x15 N L m) (fun p => some (.inl p)) (fun p => some (.inr p)))) fun L x hx => (altS alt1) x hx
def F5x0 (v0 : LB) (k0 : Bool × LD × Int × Int → Option R) : Option R :=
 bif (decide ((v0.length : Int) > 10000000)) then
  k0 (true, [], 0, 3)
 else
  bnd (G5x0x15 N v0 0 true []) fun y0 =>
  bif (inlB y0) then
   k0 (true, [], (inlV y0).1, 6)
  else
   bif (inrQ y0).isSome then
    bnd (G13x0 N ((inrQ y0).getD default).2) fun y1 =>
    bif y1.isSome then
     bif ((y1.getD default) != 0) then
      k0 (true, [], 0, (y1.getD default))
     else
      k0 (((inrQ y0).getD default).1, ((inrQ y0).getD default).2, 0, 0)
    else
     none
   else
    none
def G5x0 (v0 : LB) : Option (Bool × LD × Int × Int) := F5x0 N v0 (fun p => some p)
theorem bind5x0 (v0 : LB) (k0 : Bool × LD × Int × Int → Option R) : F5x0 N v0 k0 = (G5x0 N v0).bind k0 := by
 unfold G5x0 F5x0
 repeat' (first | with_reducible apply cond_b | (with_reducible apply bnd_b; intro _) | rfl)
def sh5x0 : Sh := { tmps := [(0, .c (.s))], mem := [] }
def K5x0w0 (L : List Lf) (p : Bool × LD × Int × Int) : Res := ([.g [.sl 39 p.1 p.2.1], .c (.i .i64 p.2.2.1), .c (.i .i64 p.2.2.2)], [])
def A5x0 (L : List Lf) : List (Bool × Res) := bnd (F5x0 N (ls L 0) (fun p => some p)) fun q => [(q.isSome, K5x0w0 L (q.getD default))]
theorem raw5x0 (L : List Lf) : bd Tryz.prog (T12x0 N) (h5x0s1 N).h 5 sh5x0 L = F5x0 N (ls L 0) (fun p => some (K5x0w0 L p)) := by kernel_rfl
theorem ok5x0 : FnOk Tryz.prog 5 sh5x0 (A5x0 N) :=
 (h5x0s1 N).fn progOk (T12x0_ok N) fun L x hx => ((raw5x0 N L).trans ((bind5x0 N ..).trans (alt1 x hx)))
def T5x0 : Oracle := ext 5 (spSh sh5x0 (A5x0 N)) (T12x0 N)
theorem T5x0_ok : OracleOk Tryz.prog (T5x0 N) := FnOk.to (ok5x0 N) (T12x0_ok N)
def rg72x0 : List (Nat × List Nat) := [(0, [0, 1]), (1, [0, 1]), (2, []), (3, [0, 1]), (4, [13, 12, 0, 1]), (5, [13, 0, 1, 12]), (6, [0, 5, 1, 13, 12]), (7, []), (8, [13, 12, 0, 1]), (9, [])]
def hd72x0 : Hints := [(12, [0, 1, 12, 13], [], [])]
def h72x0s0 (N : Nat) : Sg Tryz.prog 0 72 := .start hd72x0 rg72x0
def S72x0x12 (N : Nat) (w1 w3 : LD) (w4 : Int) (w5 : Int) (kr : Int → Option R) (k0 : Unit → Option R) (k1 : Unit → Option R) : Option R :=
 bif (decide (w5 < w4)) then
  bif (inB w5 w1.length) then
   bif (inB w5 w3.length) then
    bnd (!((((w1.getD w5.toNat (.i 0)).cell 0).toI == ((w3.getD w5.toNat (.i 0)).cell 0).toI) && ((((w1.getD w5.toNat (.i 0)).cell 1).toI == ((w3.getD w5.toNat (.i 0)).cell 1).toI) && ((((w1.getD w5.toNat (.i 0)).cell 2).toI == ((w3.getD w5.toNat (.i 0)).cell 2).toI) && true)))) fun y0 =>
    bif y0 then
     k0 ()
    else
     kr (IntKind.wrap .i64 (w5 + 1))
   else
    none
  else
   none
 else
  k1 ()
def L72x0x12 (N : Nat) {R : Type} (w1 w3 : LD) (w4 : Int) : Nat → Int → (Unit → Option R) → (Unit → Option R) → Option R
 | 0, _, _, _ => none
 | m + 1, w5, k0, k1 => S72x0x12 N w1 w3 w4 w5 (fun w5 => L72x0x12 N w1 w3 w4 m w5 k0 k1) k0 k1
def G72x0x12 (w1 w3 : LD) (w4 : Int) (w5 : Int) : Option (Sum (Unit) (Unit)) := L72x0x12 N (R := (Sum (Unit) (Unit))) w1 w3 w4 N w5 (fun p => some (.inl p)) (fun p => some (.inr p))
def J72x0x12 (L x : List Lf) (kr : List Lf → Option R) (k0 : Unit → Option R) (k1 : Unit → Option R) : Option R := S72x0x12 N (ll L 1) (ll L 3) (li L 4) (li x 0) (fun w5 => kr [.i w5]) k0 k1
theorem sb72x0x12 (L x : List Lf) (kr : List Lf → Option R) (k0 : Unit → Option R) (k1 : Unit → Option R) : J72x0x12 N L x kr k0 k1 = (J72x0x12 N L x (fun y => some (.inl y)) (fun p => some (.inr (.inl p))) (fun p => some (.inr (.inr p)))).bind (sumE kr (sumE k0 k1)) := by
 unfold J72x0x12 S72x0x12
 repeat' (first | with_reducible apply cond_b | (with_reducible apply bnd_b; intro _) | rfl)
def Q72x0x12 (L : List Lf) (m : Nat) (x : List Lf) : Option (Sum (Unit) (Unit)) := L72x0x12 N (R := (Sum (Unit) (Unit))) (ll L 1) (ll L 3) (li L 4) m (li x 0) (fun p => some (.inl p)) (fun p => some (.inr p))
def sh72x0x12 : Sh := { tmps := [(0, .c (.sl 71)), (1, .c (.sl 71)), (12, .c (.i .i64)), (13, .c (.i .i64))], mem := [] }
def A72x0x12 (L : List Lf) : List (Bool × (Ex × St)) := bnd (Q72x0x12 N L N (pk sh72x0x12 [5] L)) fun q => [((inlB q), (.ret, ⟨[(4, .c (.b false))], []⟩)), ((inrQ q).isSome, ((.exit 0), ⟨[], []⟩))]
theorem step72x0x12 (m : Nat) (kn : St → Option (Ex × St)) (L x : List Lf) : lpB Tryz.prog (T5x0 N) (h72x0s0 N).h 0 72 12 sh72x0x12 [5] [4] [] (m + 100) kn L x = J72x0x12 N L x (fun y => kn (ofSh sh72x0x12 (mx sh72x0x12 [5] L y))) (fun _ => some (.ret, ⟨[(4, .c (.b false))], []⟩)) (fun _ => some ((.exit 0), ⟨[], []⟩)) := by kernel_rfl
theorem ql72x0x12 (L : List Lf) (m : Nat) (x : List Lf) : Q72x0x12 N L (m + 1) x = J72x0x12 N L x (Q72x0x12 N L m) (fun p => some (.inl p)) (fun p => some (.inr p)) := by kernel_rfl
def h72x0s1 : Sg Tryz.prog 0 72 :=
 (h72x0s0 N).lp (A72x0x12 N) N progOk (T5x0_ok N) (fun m kn L x => (step72x0x12 N m kn L x).trans (sb72x0x12 N L x _ _ _)) (fun L m x => (ql72x0x12 N L m x).trans (sb72x0x12 N L x (Q72x0x12 N L m) (fun p => some (.inl p)) (fun p => some (.inr p)))) fun L x hx => (altS alt1) x hx
def F72x0 (v1 v3 : LD) (k0 : Bool → Option R) : Option R :=
 bif ((v1.length : Int) != (v3.length : Int)) then
  k0 false
 else
  bnd (G72x0x12 N v1 v3 (v1.length : Int) 0) fun y0 =>
  bif (inlB y0) then
   k0 false
  else
   bif (inrQ y0).isSome then
    k0 true
   else
    none
def G72x0 (v1 v3 : LD) : Option (Bool) := F72x0 N v1 v3 (fun p => some p)
theorem bind72x0 (v1 v3 : LD) (k0 : Bool → Option R) : F72x0 N v1 v3 k0 = (G72x0 N v1 v3).bind k0 := by
 unfold G72x0 F72x0
 repeat' (first | with_reducible apply cond_b | (with_reducible apply bnd_b; intro _) | rfl)
def sh72x0 : Sh := { tmps := [(0, .c (.sl 71)), (1, .c (.sl 71))], mem := [] }
def A72x0 (L : List Lf) : List (Bool × Res) := bnd (F72x0 N (ll L 1) (ll L 3) (fun p => some p)) fun q => [(q.isSome, ([.c (.b (q.getD default))], []))]
theorem raw72x0 (L : List Lf) : bd Tryz.prog (T5x0 N) (h72x0s1 N).h 72 sh72x0 L = F72x0 N (ll L 1) (ll L 3) (fun p => some ([.c (.b p)], [])) := by kernel_rfl
theorem ok72x0 : FnOk Tryz.prog 72 sh72x0 (A72x0 N) :=
 (h72x0s1 N).fn progOk (T5x0_ok N) fun L x hx => ((raw72x0 N L).trans ((bind72x0 N ..).trans (alt1 x hx)))
def T72x0 : Oracle := ext 72 (spSh sh72x0 (A72x0 N)) (T5x0 N)
theorem T72x0_ok : OracleOk Tryz.prog (T72x0 N) := FnOk.to (ok72x0 N) (T5x0_ok N)
def rg43x0 : List (Nat × List Nat) := [(0, [0, 1]), (1, [2, 3])]
def hd43x0 : Hints := [(4, [2, 3], [2, 3], [])]
def h43x0s0 (N : Nat) : Sg Tryz.prog 0 43 := .start hd43x0 rg43x0
def F43x0x4 (w0 : Bool) (w1 : Int) (w3 : LD) (w4 : Bool) (w5 : Int) (w7 : LD) (k0 : Bool → Option R) : Option R :=
 bif (bif (w0 == w4) then (w1 == w5) else false) then
  bnd (G72x0 N w3 w7) fun y0 =>
  bif y0.isSome then
   k0 (y0.getD default)
  else
   none
 else
  k0 false
def G43x0x4 (w0 : Bool) (w1 : Int) (w3 : LD) (w4 : Bool) (w5 : Int) (w7 : LD) : Option (Bool) := F43x0x4 N w0 w1 w3 w4 w5 w7 (fun p => some p)
theorem bind43x0x4 (w0 : Bool) (w1 : Int) (w3 : LD) (w4 : Bool) (w5 : Int) (w7 : LD) (k0 : Bool → Option R) : F43x0x4 N w0 w1 w3 w4 w5 w7 k0 = (G43x0x4 N w0 w1 w3 w4 w5 w7).bind k0 := by
 unfold G43x0x4 F43x0x4
 repeat' (first | with_reducible apply cond_b | (with_reducible apply bnd_b; intro _) | rfl)
def J43x0x4 (L : List Lf) (k0 : Bool → Option R) : Option R := F43x0x4 N (lb L 0) (li L 1) (ll L 3) (lb L 4) (li L 5) (ll L 7) k0
def sh43x0x4 : Sh := { tmps := [(2, .c (.p 2 0)), (3, .c (.p 3 0))], mem := [(2, .box ([.b, .i .i64, .sl 71])), (3, .box ([.b, .i .i64, .sl 71]))] }
def A43x0x4 (L : List Lf) : List (Bool × (Ex × St)) := bnd (J43x0x4 N L (fun p => some p)) fun q => [(q.isSome, (.normal, ⟨[(4, .c (.b (q.getD default)))], []⟩))]
theorem raw43x0x4 (L : List Lf) : pc Tryz.prog (T72x0 N) (h43x0s0 N).h 0 100 43 4 sh43x0x4 L [4] [] = J43x0x4 N L (fun p => some (.normal, ⟨[(4, .c (.b p))], []⟩)) := by kernel_rfl
def h43x0s1 : Sg Tryz.prog 0 43 :=
 (h43x0s0 N).cut (A43x0x4 N) progOk (T72x0_ok N) fun L x hx => (raw43x0x4 N L).trans ((bind43x0x4 N ..).trans (alt1 x hx))
def F43x0 (v0 : Bool) (v1 : Int) (v3 : LD) (v4 : Bool) (v5 : Int) (v7 : LD) (k0 : Bool → Option R) : Option R :=
 bnd (G43x0x4 N v0 v1 v3 v4 v5 v7) fun y0 =>
 bif y0.isSome then
  k0 (y0.getD default)
 else
  none
def G43x0 (v0 : Bool) (v1 : Int) (v3 : LD) (v4 : Bool) (v5 : Int) (v7 : LD) : Option (Bool) := F43x0 N v0 v1 v3 v4 v5 v7 (fun p => some p)
theorem bind43x0 (v0 : Bool) (v1 : Int) (v3 : LD) (v4 : Bool) (v5 : Int) (v7 : LD) (k0 : Bool → Option R) : F43x0 N v0 v1 v3 v4 v5 v7 k0 = (G43x0 N v0 v1 v3 v4 v5 v7).bind k0 := by
 unfold G43x0 F43x0
 repeat' (first | with_reducible apply cond_b | (with_reducible apply bnd_b; intro _) | rfl)
def J43x0 (L : List Lf) (k0 : Bool → Option R) : Option R := F43x0 N (lb L 0) (li L 1) (ll L 3) (lb L 4) (li L 5) (ll L 7) k0
def sh43x0 : Sh := { tmps := [(0, .g ([.b, .i .i64, .sl 71])), (1, .g ([.b, .i .i64, .sl 71]))], mem := [] }
def A43x0 (L : List Lf) : List (Bool × Res) := bnd (J43x0 N L (fun p => some p)) fun q => [(q.isSome, ([.c (.b (q.getD default))], []))]
theorem raw43x0 (L : List Lf) : bd Tryz.prog (T72x0 N) (h43x0s1 N).h 43 sh43x0 L = J43x0 N L (fun p => some ([.c (.b p)], [])) := by kernel_rfl
theorem ok43x0 : FnOk Tryz.prog 43 sh43x0 (A43x0 N) :=
 (h43x0s1 N).fn progOk (T72x0_ok N) fun L x hx => ((raw43x0 N L).trans ((bind43x0 N ..).trans (alt1 x hx)))
def T43x0 : Oracle := ext 43 (spSh sh43x0 (A43x0 N)) (T72x0 N)
theorem T43x0_ok : OracleOk Tryz.prog (T43x0 N) := FnOk.to (ok43x0 N) (T72x0_ok N)
def rg42x0 : List (Nat × List Nat) := [(0, [0, 1, 2]), (1, [0, 1, 2]), (2, []), (3, [0, 1, 2]), (4, [17, 16, 15, 1, 2]), (5, [17, 15, 1, 2, 16]), (6, [1, 7, 2, 8, 17, 16, 15]), (7, [2, 8, 9, 17, 16, 15, 1]), (8, []), (9, [17, 16, 15, 1, 2]), (10, [])]
def hd42x0 : Hints := [(12, [1, 2, 15, 16, 17], [], [])]
def h42x0s0 (N : Nat) : Sg Tryz.prog 0 42 := .start hd42x0 rg42x0
def S42x0x12 (w1 w3 : LD) (w4 : Int) (w5 : Int) (kr : Int → Option R) (k0 : Unit → Option R) (k1 : Unit → Option R) : Option R :=
 bif (decide (w5 < w4)) then
  bif (inB w5 w3.length) then
   bif (inB w5 w1.length) then
    bnd (G43x0 N ((w3.getD w5.toNat (.i 0)).cell 0).toB ((w3.getD w5.toNat (.i 0)).cell 1).toI ((w3.getD w5.toNat (.i 0)).cell 2).items ((w1.getD w5.toNat (.i 0)).cell 0).toB ((w1.getD w5.toNat (.i 0)).cell 1).toI ((w1.getD w5.toNat (.i 0)).cell 2).items) fun y0 =>
    bif y0.isSome then
     bif (!(y0.getD default)) then
      k0 ()
     else
      kr (IntKind.wrap .i64 (w5 + 1))
    else
     none
   else
    none
  else
   none
 else
  k1 ()
def L42x0x12 (N : Nat) {R : Type} (w1 w3 : LD) (w4 : Int) : Nat → Int → (Unit → Option R) → (Unit → Option R) → Option R
 | 0, _, _, _ => none
 | m + 1, w5, k0, k1 => S42x0x12 N w1 w3 w4 w5 (fun w5 => L42x0x12 N w1 w3 w4 m w5 k0 k1) k0 k1
def G42x0x12 (w1 w3 : LD) (w4 : Int) (w5 : Int) : Option (Sum (Unit) (Unit)) := L42x0x12 N (R := (Sum (Unit) (Unit))) w1 w3 w4 N w5 (fun p => some (.inl p)) (fun p => some (.inr p))
def J42x0x12 (L x : List Lf) (kr : List Lf → Option R) (k0 : Unit → Option R) (k1 : Unit → Option R) : Option R := S42x0x12 N (ll L 1) (ll L 3) (li L 4) (li x 0) (fun w5 => kr [.i w5]) k0 k1
theorem sb42x0x12 (L x : List Lf) (kr : List Lf → Option R) (k0 : Unit → Option R) (k1 : Unit → Option R) : J42x0x12 N L x kr k0 k1 = (J42x0x12 N L x (fun y => some (.inl y)) (fun p => some (.inr (.inl p))) (fun p => some (.inr (.inr p)))).bind (sumE kr (sumE k0 k1)) := by
 unfold J42x0x12 S42x0x12
 repeat' (first | with_reducible apply cond_b | (with_reducible apply bnd_b; intro _) | rfl)
def Q42x0x12 (L : List Lf) (m : Nat) (x : List Lf) : Option (Sum (Unit) (Unit)) := L42x0x12 N (R := (Sum (Unit) (Unit))) (ll L 1) (ll L 3) (li L 4) m (li x 0) (fun p => some (.inl p)) (fun p => some (.inr p))
def sh42x0x12 : Sh := { tmps := [(1, .c (.sl 64)), (2, .c (.f 43 [])), (15, .c (.sl 64)), (16, .c (.i .i64)), (17, .c (.i .i64))], mem := [] }
def A42x0x12 (L : List Lf) : List (Bool × (Ex × St)) := bnd (Q42x0x12 N L N (pk sh42x0x12 [5] L)) fun q => [((inlB q), (.ret, ⟨[(6, .c (.b false))], []⟩)), ((inrQ q).isSome, ((.exit 0), ⟨[], []⟩))]
theorem step42x0x12 (m : Nat) (kn : St → Option (Ex × St)) (L x : List Lf) : lpB Tryz.prog (T43x0 N) (h42x0s0 N).h 0 42 12 sh42x0x12 [5] [6] [] (m + 100) kn L x = J42x0x12 N L x (fun y => kn (ofSh sh42x0x12 (mx sh42x0x12 [5] L y))) (fun _ => some (.ret, ⟨[(6, .c (.b false))], []⟩)) (fun _ => some ((.exit 0), ⟨[], []⟩)) := by kernel_rfl
theorem ql42x0x12 (L : List Lf) (m : Nat) (x : List Lf) : Q42x0x12 N L (m + 1) x = J42x0x12 N L x (Q42x0x12 N L m) (fun p => some (.inl p)) (fun p => some (.inr p)) := by kernel_rfl
def h42x0s1 : Sg Tryz.prog 0 42 :=
 (h42x0s0 N).lp (A42x0x12 N) N progOk (T43x0_ok N) (fun m kn L x => (step42x0x12 N m kn L x).trans (sb42x0x12 N L x _ _ _)) (fun L m x => (ql42x0x12 N L m x).trans (sb42x0x12 N L x (Q42x0x12 N L m) (fun p => some (.inl p)) (fun p => some (.inr p)))) fun L x hx => (altS alt1) x hx
def F42x0 (v1 v3 : LD) (k0 : Bool → Option R) : Option R :=
 bif ((v1.length : Int) != (v3.length : Int)) then
  k0 false
 else
  bnd (G42x0x12 N v3 v1 (v1.length : Int) 0) fun y0 =>
  bif (inlB y0) then
   k0 false
  else
   bif (inrQ y0).isSome then
    k0 true
   else
    none
def G42x0 (v1 v3 : LD) : Option (Bool) := F42x0 N v1 v3 (fun p => some p)
theorem bind42x0 (v1 v3 : LD) (k0 : Bool → Option R) : F42x0 N v1 v3 k0 = (G42x0 N v1 v3).bind k0 := by
 unfold G42x0 F42x0
 repeat' (first | with_reducible apply cond_b | (with_reducible apply bnd_b; intro _) | rfl)
def sh42x0 : Sh := { tmps := [(0, .c (.sl 64)), (1, .c (.sl 64)), (2, .c (.f 43 []))], mem := [] }
def A42x0 (L : List Lf) : List (Bool × Res) := bnd (F42x0 N (ll L 1) (ll L 3) (fun p => some p)) fun q => [(q.isSome, ([.c (.b (q.getD default))], []))]
theorem raw42x0 (L : List Lf) : bd Tryz.prog (T43x0 N) (h42x0s1 N).h 42 sh42x0 L = F42x0 N (ll L 1) (ll L 3) (fun p => some ([.c (.b p)], [])) := by kernel_rfl
theorem ok42x0 : FnOk Tryz.prog 42 sh42x0 (A42x0 N) :=
 (h42x0s1 N).fn progOk (T43x0_ok N) fun L x hx => ((raw42x0 N L).trans ((bind42x0 N ..).trans (alt1 x hx)))
def T42x0 : Oracle := ext 42 (spSh sh42x0 (A42x0 N)) (T43x0 N)
theorem T42x0_ok : OracleOk Tryz.prog (T42x0 N) := FnOk.to (ok42x0 N) (T43x0_ok N)
def rg44x0 : List (Nat × List Nat) := [(0, [0, 1]), (1, [0, 1]), (2, []), (3, [0, 1]), (4, [13, 12, 0, 1]), (5, [13, 0, 1, 12]), (6, [0, 5, 1, 13, 12]), (7, []), (8, [13, 12, 0, 1]), (9, [])]
def hd44x0 : Hints := [(12, [0, 1, 12, 13], [], [])]
def h44x0s0 (N : Nat) : Sg Tryz.prog 0 44 := .start hd44x0 rg44x0
def S44x0x12 (N : Nat) (w1 w3 : LD) (w4 : Int) (w5 : Int) (kr : Int → Option R) (k0 : Unit → Option R) (k1 : Unit → Option R) : Option R :=
 bif (decide (w5 < w4)) then
  bif (inB w5 w1.length) then
   bif (inB w5 w3.length) then
    bnd ((w1.getD w5.toNat (.i 0)).toI != (w3.getD w5.toNat (.i 0)).toI) fun y0 =>
    bif y0 then
     k0 ()
    else
     kr (IntKind.wrap .i64 (w5 + 1))
   else
    none
  else
   none
 else
  k1 ()
def L44x0x12 (N : Nat) {R : Type} (w1 w3 : LD) (w4 : Int) : Nat → Int → (Unit → Option R) → (Unit → Option R) → Option R
 | 0, _, _, _ => none
 | m + 1, w5, k0, k1 => S44x0x12 N w1 w3 w4 w5 (fun w5 => L44x0x12 N w1 w3 w4 m w5 k0 k1) k0 k1
def G44x0x12 (w1 w3 : LD) (w4 : Int) (w5 : Int) : Option (Sum (Unit) (Unit)) := L44x0x12 N (R := (Sum (Unit) (Unit))) w1 w3 w4 N w5 (fun p => some (.inl p)) (fun p => some (.inr p))
def J44x0x12 (L x : List Lf) (kr : List Lf → Option R) (k0 : Unit → Option R) (k1 : Unit → Option R) : Option R := S44x0x12 N (ll L 1) (ll L 3) (li L 4) (li x 0) (fun w5 => kr [.i w5]) k0 k1
theorem sb44x0x12 (L x : List Lf) (kr : List Lf → Option R) (k0 : Unit → Option R) (k1 : Unit → Option R) : J44x0x12 N L x kr k0 k1 = (J44x0x12 N L x (fun y => some (.inl y)) (fun p => some (.inr (.inl p))) (fun p => some (.inr (.inr p)))).bind (sumE kr (sumE k0 k1)) := by
 unfold J44x0x12 S44x0x12
 repeat' (first | with_reducible apply cond_b | (with_reducible apply bnd_b; intro _) | rfl)
def Q44x0x12 (L : List Lf) (m : Nat) (x : List Lf) : Option (Sum (Unit) (Unit)) := L44x0x12 N (R := (Sum (Unit) (Unit))) (ll L 1) (ll L 3) (li L 4) m (li x 0) (fun p => some (.inl p)) (fun p => some (.inr p))
def sh44x0x12 : Sh := { tmps := [(0, .c (.sl 5)), (1, .c (.sl 5)), (12, .c (.i .i64)), (13, .c (.i .i64))], mem := [] }
def A44x0x12 (L : List Lf) : List (Bool × (Ex × St)) := bnd (Q44x0x12 N L N (pk sh44x0x12 [5] L)) fun q => [((inlB q), (.ret, ⟨[(4, .c (.b false))], []⟩)), ((inrQ q).isSome, ((.exit 0), ⟨[], []⟩))]
theorem step44x0x12 (m : Nat) (kn : St → Option (Ex × St)) (L x : List Lf) : lpB Tryz.prog (T42x0 N) (h44x0s0 N).h 0 44 12 sh44x0x12 [5] [4] [] (m + 100) kn L x = J44x0x12 N L x (fun y => kn (ofSh sh44x0x12 (mx sh44x0x12 [5] L y))) (fun _ => some (.ret, ⟨[(4, .c (.b false))], []⟩)) (fun _ => some ((.exit 0), ⟨[], []⟩)) := by kernel_rfl
theorem ql44x0x12 (L : List Lf) (m : Nat) (x : List Lf) : Q44x0x12 N L (m + 1) x = J44x0x12 N L x (Q44x0x12 N L m) (fun p => some (.inl p)) (fun p => some (.inr p)) := by kernel_rfl
def h44x0s1 : Sg Tryz.prog 0 44 :=
 (h44x0s0 N).lp (A44x0x12 N) N progOk (T42x0_ok N) (fun m kn L x => (step44x0x12 N m kn L x).trans (sb44x0x12 N L x _ _ _)) (fun L m x => (ql44x0x12 N L m x).trans (sb44x0x12 N L x (Q44x0x12 N L m) (fun p => some (.inl p)) (fun p => some (.inr p)))) fun L x hx => (altS alt1) x hx
def F44x0 (v1 v3 : LD) (k0 : Bool → Option R) : Option R :=
 bif ((v1.length : Int) != (v3.length : Int)) then
  k0 false
 else
  bnd (G44x0x12 N v1 v3 (v1.length : Int) 0) fun y0 =>
  bif (inlB y0) then
   k0 false
  else
   bif (inrQ y0).isSome then
    k0 true
   else
    none
def G44x0 (v1 v3 : LD) : Option (Bool) := F44x0 N v1 v3 (fun p => some p)
theorem bind44x0 (v1 v3 : LD) (k0 : Bool → Option R) : F44x0 N v1 v3 k0 = (G44x0 N v1 v3).bind k0 := by
 unfold G44x0 F44x0
 repeat' (first | with_reducible apply cond_b | (with_reducible apply bnd_b; intro _) | rfl)
def sh44x0 : Sh := { tmps := [(0, .c (.sl 5)), (1, .c (.sl 5))], mem := [] }
def A44x0 (L : List Lf) : List (Bool × Res) := bnd (F44x0 N (ll L 1) (ll L 3) (fun p => some p)) fun q => [(q.isSome, ([.c (.b (q.getD default))], []))]
theorem raw44x0 (L : List Lf) : bd Tryz.prog (T42x0 N) (h44x0s1 N).h 44 sh44x0 L = F44x0 N (ll L 1) (ll L 3) (fun p => some ([.c (.b p)], [])) := by kernel_rfl
theorem ok44x0 : FnOk Tryz.prog 44 sh44x0 (A44x0 N) :=
 (h44x0s1 N).fn progOk (T42x0_ok N) fun L x hx => ((raw44x0 N L).trans ((bind44x0 N ..).trans (alt1 x hx)))
def T44x0 : Oracle := ext 44 (spSh sh44x0 (A44x0 N)) (T42x0 N)
theorem T44x0_ok : OracleOk Tryz.prog (T44x0 N) := FnOk.to (ok44x0 N) (T42x0_ok N)
def rg17x0 : List (Nat × List Nat) := [(0, [0, 1]), (1, [2, 3])]
def hd17x0 : Hints := [(4, [2, 3], [2, 3], [])]
def h17x0s0 (N : Nat) : Sg Tryz.prog 0 17 := .start hd17x0 rg17x0
def F17x0x4 (w0 w1 w2 : Int) (w4 w6 : LD) (w7 w8 w9 : Int) (w11 w13 : LD) (k0 : Bool → Option R) : Option R :=
 bnd (bif (bif (w0 == w7) then (w1 == w8) else false) then (w2 == w9) else false) fun y0 =>
 bif y0 then
  bnd (G42x0 N w4 w11) fun y1 =>
  bif y1.isSome then
   bif (y1.getD default) then
    bnd (G44x0 N w6 w13) fun y2 =>
    bif y2.isSome then
     k0 (y2.getD default)
    else
     none
   else
    k0 false
  else
   none
 else
  k0 false
def G17x0x4 (w0 w1 w2 : Int) (w4 w6 : LD) (w7 w8 w9 : Int) (w11 w13 : LD) : Option (Bool) := F17x0x4 N w0 w1 w2 w4 w6 w7 w8 w9 w11 w13 (fun p => some p)
theorem bind17x0x4 (w0 w1 w2 : Int) (w4 w6 : LD) (w7 w8 w9 : Int) (w11 w13 : LD) (k0 : Bool → Option R) : F17x0x4 N w0 w1 w2 w4 w6 w7 w8 w9 w11 w13 k0 = (G17x0x4 N w0 w1 w2 w4 w6 w7 w8 w9 w11 w13).bind k0 := by
 unfold G17x0x4 F17x0x4
 repeat' (first | with_reducible apply cond_b | (with_reducible apply bnd_b; intro _) | rfl)
def J17x0x4 (L : List Lf) (k0 : Bool → Option R) : Option R := F17x0x4 N (li L 0) (li L 1) (li L 2) (ll L 4) (ll L 6) (li L 7) (li L 8) (li L 9) (ll L 11) (ll L 13) k0
def sh17x0x4 : Sh := { tmps := [(2, .c (.p 2 0)), (3, .c (.p 3 0))], mem := [(2, .box ([.i .i64, .i .i64, .i .i64, .sl 64, .sl 5])), (3, .box ([.i .i64, .i .i64, .i .i64, .sl 64, .sl 5]))] }
def A17x0x4 (L : List Lf) : List (Bool × (Ex × St)) := bnd (J17x0x4 N L (fun p => some p)) fun q => [(q.isSome, (.normal, ⟨[(4, .c (.b (q.getD default)))], []⟩))]
theorem raw17x0x4 (L : List Lf) : pc Tryz.prog (T44x0 N) (h17x0s0 N).h 0 100 17 4 sh17x0x4 L [4] [] = J17x0x4 N L (fun p => some (.normal, ⟨[(4, .c (.b p))], []⟩)) := by kernel_rfl
def h17x0s1 : Sg Tryz.prog 0 17 :=
 (h17x0s0 N).cut (A17x0x4 N) progOk (T44x0_ok N) fun L x hx => (raw17x0x4 N L).trans ((bind17x0x4 N ..).trans (alt1 x hx))
def F17x0 (v0 v1 v2 : Int) (v4 v6 : LD) (v7 v8 v9 : Int) (v11 v13 : LD) (k0 : Bool → Option R) : Option R :=
 bnd (G17x0x4 N v0 v1 v2 v4 v6 v7 v8 v9 v11 v13) fun y0 =>
 bif y0.isSome then
  k0 (y0.getD default)
 else
  none
def G17x0 (v0 v1 v2 : Int) (v4 v6 : LD) (v7 v8 v9 : Int) (v11 v13 : LD) : Option (Bool) := F17x0 N v0 v1 v2 v4 v6 v7 v8 v9 v11 v13 (fun p => some p)
theorem bind17x0 (v0 v1 v2 : Int) (v4 v6 : LD) (v7 v8 v9 : Int) (v11 v13 : LD) (k0 : Bool → Option R) : F17x0 N v0 v1 v2 v4 v6 v7 v8 v9 v11 v13 k0 = (G17x0 N v0 v1 v2 v4 v6 v7 v8 v9 v11 v13).bind k0 := by
 unfold G17x0 F17x0
 repeat' (first | with_reducible apply cond_b | (with_reducible apply bnd_b; intro _) | rfl)
def J17x0 (L : List Lf) (k0 : Bool → Option R) : Option R := F17x0 N (li L 0) (li L 1) (li L 2) (ll L 4) (ll L 6) (li L 7) (li L 8) (li L 9) (ll L 11) (ll L 13) k0
def sh17x0 : Sh := { tmps := [(0, .g ([.i .i64, .i .i64, .i .i64, .sl 64, .sl 5])), (1, .g ([.i .i64, .i .i64, .i .i64, .sl 64, .sl 5]))], mem := [] }
def A17x0 (L : List Lf) : List (Bool × Res) := bnd (J17x0 N L (fun p => some p)) fun q => [(q.isSome, ([.c (.b (q.getD default))], []))]
theorem raw17x0 (L : List Lf) : bd Tryz.prog (T44x0 N) (h17x0s1 N).h 17 sh17x0 L = J17x0 N L (fun p => some ([.c (.b p)], [])) := by kernel_rfl
theorem ok17x0 : FnOk Tryz.prog 17 sh17x0 (A17x0 N) :=
 (h17x0s1 N).fn progOk (T44x0_ok N) fun L x hx => ((raw17x0 N L).trans ((bind17x0 N ..).trans (alt1 x hx)))
def T17x0 : Oracle := ext 17 (spSh sh17x0 (A17x0 N)) (T44x0 N)
theorem T17x0_ok : OracleOk Tryz.prog (T17x0 N) := FnOk.to (ok17x0 N) (T44x0_ok N)
def rg16x0 : List (Nat × List Nat) := [(0, [0, 1, 2]), (1, [0, 1, 2]), (2, []), (3, [0, 1, 2]), (4, [17, 16, 15, 1, 2]), (5, [17, 15, 1, 2, 16]), (6, [1, 7, 2, 8, 17, 16, 15]), (7, [2, 8, 9, 17, 16, 15, 1]), (8, []), (9, [17, 16, 15, 1, 2]), (10, [])]
def hd16x0 : Hints := [(12, [1, 2, 15, 16, 17], [], [])]
def h16x0s0 (N : Nat) : Sg Tryz.prog 0 16 := .start hd16x0 rg16x0
def S16x0x12 (w1 w3 : LD) (w4 : Int) (w5 : Int) (kr : Int → Option R) (k0 : Unit → Option R) (k1 : Unit → Option R) : Option R :=
 bif (decide (w5 < w4)) then
  bif (inB w5 w3.length) then
   bif (inB w5 w1.length) then
    bnd (G17x0 N ((w3.getD w5.toNat (.i 0)).cell 0).toI ((w3.getD w5.toNat (.i 0)).cell 1).toI ((w3.getD w5.toNat (.i 0)).cell 2).toI ((w3.getD w5.toNat (.i 0)).cell 3).items ((w3.getD w5.toNat (.i 0)).cell 4).items ((w1.getD w5.toNat (.i 0)).cell 0).toI ((w1.getD w5.toNat (.i 0)).cell 1).toI ((w1.getD w5.toNat (.i 0)).cell 2).toI ((w1.getD w5.toNat (.i 0)).cell 3).items ((w1.getD w5.toNat (.i 0)).cell 4).items) fun y0 =>
    bif y0.isSome then
     bif (!(y0.getD default)) then
      k0 ()
     else
      kr (IntKind.wrap .i64 (w5 + 1))
    else
     none
   else
    none
  else
   none
 else
  k1 ()
def L16x0x12 (N : Nat) {R : Type} (w1 w3 : LD) (w4 : Int) : Nat → Int → (Unit → Option R) → (Unit → Option R) → Option R
 | 0, _, _, _ => none
 | m + 1, w5, k0, k1 => S16x0x12 N w1 w3 w4 w5 (fun w5 => L16x0x12 N w1 w3 w4 m w5 k0 k1) k0 k1
def G16x0x12 (w1 w3 : LD) (w4 : Int) (w5 : Int) : Option (Sum (Unit) (Unit)) := L16x0x12 N (R := (Sum (Unit) (Unit))) w1 w3 w4 N w5 (fun p => some (.inl p)) (fun p => some (.inr p))
def J16x0x12 (L x : List Lf) (kr : List Lf → Option R) (k0 : Unit → Option R) (k1 : Unit → Option R) : Option R := S16x0x12 N (ll L 1) (ll L 3) (li L 4) (li x 0) (fun w5 => kr [.i w5]) k0 k1
theorem sb16x0x12 (L x : List Lf) (kr : List Lf → Option R) (k0 : Unit → Option R) (k1 : Unit → Option R) : J16x0x12 N L x kr k0 k1 = (J16x0x12 N L x (fun y => some (.inl y)) (fun p => some (.inr (.inl p))) (fun p => some (.inr (.inr p)))).bind (sumE kr (sumE k0 k1)) := by
 unfold J16x0x12 S16x0x12
 repeat' (first | with_reducible apply cond_b | (with_reducible apply bnd_b; intro _) | rfl)
def Q16x0x12 (L : List Lf) (m : Nat) (x : List Lf) : Option (Sum (Unit) (Unit)) := L16x0x12 N (R := (Sum (Unit) (Unit))) (ll L 1) (ll L 3) (li L 4) m (li x 0) (fun p => some (.inl p)) (fun p => some (.inr p))
def sh16x0x12 : Sh := { tmps := [(1, .c (.sl 39)), (2, .c (.f 17 [])), (15, .c (.sl 39)), (16, .c (.i .i64)), (17, .c (.i .i64))], mem := [] }
def A16x0x12 (L : List Lf) : List (Bool × (Ex × St)) := bnd (Q16x0x12 N L N (pk sh16x0x12 [5] L)) fun q => [((inlB q), (.ret, ⟨[(6, .c (.b false))], []⟩)), ((inrQ q).isSome, ((.exit 0), ⟨[], []⟩))]
theorem step16x0x12 (m : Nat) (kn : St → Option (Ex × St)) (L x : List Lf) : lpB Tryz.prog (T17x0 N) (h16x0s0 N).h 0 16 12 sh16x0x12 [5] [6] [] (m + 100) kn L x = J16x0x12 N L x (fun y => kn (ofSh sh16x0x12 (mx sh16x0x12 [5] L y))) (fun _ => some (.ret, ⟨[(6, .c (.b false))], []⟩)) (fun _ => some ((.exit 0), ⟨[], []⟩)) := by kernel_rfl
theorem ql16x0x12 (L : List Lf) (m : Nat) (x : List Lf) : Q16x0x12 N L (m + 1) x = J16x0x12 N L x (Q16x0x12 N L m) (fun p => some (.inl p)) (fun p => some (.inr p)) := by kernel_rfl
def h16x0s1 : Sg Tryz.prog 0 16 :=
 (h16x0s0 N).lp (A16x0x12 N) N progOk (T17x0_ok N) (fun m kn L x => (step16x0x12 N m kn L x).trans (sb16x0x12 N L x _ _ _)) (fun L m x => (ql16x0x12 N L m x).trans (sb16x0x12 N L x (Q16x0x12 N L m) (fun p => some (.inl p)) (fun p => some (.inr p)))) fun L x hx => (altS alt1) x hx
def F16x0 (v1 v3 : LD) (k0 : Bool → Option R) : Option R :=
 bif ((v1.length : Int) != (v3.length : Int)) then
  k0 false
 else
  bnd (G16x0x12 N v3 v1 (v1.length : Int) 0) fun y0 =>
  bif (inlB y0) then
   k0 false
  else
   bif (inrQ y0).isSome then
    k0 true
   else
    none
def G16x0 (v1 v3 : LD) : Option (Bool) := F16x0 N v1 v3 (fun p => some p)
theorem bind16x0 (v1 v3 : LD) (k0 : Bool → Option R) : F16x0 N v1 v3 k0 = (G16x0 N v1 v3).bind k0 := by
 unfold G16x0 F16x0
 repeat' (first | with_reducible apply cond_b | (with_reducible apply bnd_b; intro _) | rfl)
def sh16x0 : Sh := { tmps := [(0, .c (.sl 39)), (1, .c (.sl 39)), (2, .c (.f 17 []))], mem := [] }
def A16x0 (L : List Lf) : List (Bool × Res) := bnd (F16x0 N (ll L 1) (ll L 3) (fun p => some p)) fun q => [(q.isSome, ([.c (.b (q.getD default))], []))]
theorem raw16x0 (L : List Lf) : bd Tryz.prog (T17x0 N) (h16x0s1 N).h 16 sh16x0 L = F16x0 N (ll L 1) (ll L 3) (fun p => some ([.c (.b p)], [])) := by kernel_rfl
theorem ok16x0 : FnOk Tryz.prog 16 sh16x0 (A16x0 N) :=
 (h16x0s1 N).fn progOk (T17x0_ok N) fun L x hx => ((raw16x0 N L).trans ((bind16x0 N ..).trans (alt1 x hx)))
def T16x0 : Oracle := ext 16 (spSh sh16x0 (A16x0 N)) (T17x0 N)
theorem T16x0_ok : OracleOk Tryz.prog (T16x0 N) := FnOk.to (ok16x0 N) (T17x0_ok N)
def rg7x0 : List (Nat × List Nat) := [(0, [0, 1]), (1, [2, 3])]
def hd7x0 : Hints := []
def h7x0s0 (N : Nat) : Sg Tryz.prog 0 7 := .start hd7x0 rg7x0
def F7x0 (v1 v3 : LD) (k0 : Bool → Option R) : Option R :=
 bnd (G16x0 N v1 v3) fun y0 =>
 bif y0.isSome then
  k0 (y0.getD default)
 else
  none
def G7x0 (v1 v3 : LD) : Option (Bool) := F7x0 N v1 v3 (fun p => some p)
theorem bind7x0 (v1 v3 : LD) (k0 : Bool → Option R) : F7x0 N v1 v3 k0 = (G7x0 N v1 v3).bind k0 := by
 unfold G7x0 F7x0
 repeat' (first | with_reducible apply cond_b | (with_reducible apply bnd_b; intro _) | rfl)
def sh7x0 : Sh := { tmps := [(0, .g ([.sl 39])), (1, .g ([.sl 39]))], mem := [] }
def A7x0 (L : List Lf) : List (Bool × Res) := bnd (F7x0 N (ll L 1) (ll L 3) (fun p => some p)) fun q => [(q.isSome, ([.c (.b (q.getD default))], []))]
theorem raw7x0 (L : List Lf) : bd Tryz.prog (T16x0 N) (h7x0s0 N).h 7 sh7x0 L = F7x0 N (ll L 1) (ll L 3) (fun p => some ([.c (.b p)], [])) := by kernel_rfl
theorem ok7x0 : FnOk Tryz.prog 7 sh7x0 (A7x0 N) :=
 (h7x0s0 N).fn progOk (T16x0_ok N) fun L x hx => ((raw7x0 N L).trans ((bind7x0 N ..).trans (alt1 x hx)))
def T7x0 : Oracle := ext 7 (spSh sh7x0 (A7x0 N)) (T16x0 N)
theorem T7x0_ok : OracleOk Tryz.prog (T7x0 N) := FnOk.to (ok7x0 N) (T16x0_ok N)
def rg4x0 : List (Nat × List Nat) := [(0, [0]), (1, [1]), (2, [1, 3, 4]), (3, [3, 5, 4, 6, 1]), (4, []), (5, [4, 3, 1]), (6, []), (7, [3, 1]), (8, [7, 1, 8, 9])]
def hd4x0 : Hints := [(25, [1, 7, 8, 9], [1, 7], [])]
def h4x0s0 (N : Nat) : Sg Tryz.prog 0 4 := .start hd4x0 rg4x0
def F4x0x25 (w0 w1 : Int) (w3 w5 : LD) (k0 : Bool → Option R) : Option R :=
 bnd (G7x0 N w5 w3) fun y0 =>
 bif y0.isSome then
  bnd (bif (bif (y0.getD default) then (w0 == 0) else false) then (w1 == 0) else false) fun y1 =>
  bif y1 then
   bnd (G8x0 N) fun y2 =>
   bif y2.isSome then
    k0 (y2.getD default)
   else
    none
  else
   k0 false
 else
  none
def G4x0x25 (w0 w1 : Int) (w3 w5 : LD) : Option (Bool) := F4x0x25 N w0 w1 w3 w5 (fun p => some p)
theorem bind4x0x25 (w0 w1 : Int) (w3 w5 : LD) (k0 : Bool → Option R) : F4x0x25 N w0 w1 w3 w5 k0 = (G4x0x25 N w0 w1 w3 w5).bind k0 := by
 unfold G4x0x25 F4x0x25
 repeat' (first | with_reducible apply cond_b | (with_reducible apply bnd_b; intro _) | rfl)
def J4x0x25 (L : List Lf) (k0 : Bool → Option R) : Option R := F4x0x25 N (li L 0) (li L 1) (ll L 3) (ll L 5) k0
def sh4x0x25 : Sh := { tmps := [(1, .c (.p 1 0)), (7, .c (.p 7 0)), (8, .c (.i .i64)), (9, .c (.i .i64))], mem := [(1, .box ([.sl 39])), (7, .box ([.sl 39]))] }
def A4x0x25 (L : List Lf) : List (Bool × (Ex × St)) := bnd (J4x0x25 N L (fun p => some p)) fun q => [(q.isSome, (.normal, ⟨[(2, .c (.b (q.getD default)))], []⟩))]
theorem raw4x0x25 (L : List Lf) : pc Tryz.prog (T7x0 N) (h4x0s0 N).h 0 100 4 25 sh4x0x25 L [2] [] = J4x0x25 N L (fun p => some (.normal, ⟨[(2, .c (.b p))], []⟩)) := by kernel_rfl
def h4x0s1 : Sg Tryz.prog 0 4 :=
 (h4x0s0 N).cut (A4x0x25 N) progOk (T7x0_ok N) fun L x hx => (raw4x0x25 N L).trans ((bind4x0x25 N ..).trans (alt1 x hx))
def F4x0 (v1 : LD) (k0 : Bool → Option R) : Option R :=
 bnd (G9x0 N v1) fun y0 =>
 bif y0.isSome then
  bnd (G10x0 N v1) fun y1 =>
  bif y1.isSome then
   bnd (bif (!((y0.getD default).1 == (y1.getD default).1)) then true else ((y0.getD default).2 != (y1.getD default).2)) fun y2 =>
   bif y2 then
    k0 false
   else
    bif ((y0.getD default).2 != 0) then
     bnd (G8x0 N) fun y3 =>
     bif y3.isSome then
      k0 (y3.getD default)
     else
      none
    else
     bnd (G5x0 N (y0.getD default).1) fun y4 =>
     bif y4.isSome then
      bnd (G4x0x25 N (y4.getD default).2.2.1 (y4.getD default).2.2.2 v1 (y4.getD default).2.1) fun y5 =>
      bif y5.isSome then
       k0 (y5.getD default)
      else
       none
     else
      none
  else
   none
 else
  none
def G4x0 (v1 : LD) : Option (Bool) := F4x0 N v1 (fun p => some p)
theorem bind4x0 (v1 : LD) (k0 : Bool → Option R) : F4x0 N v1 k0 = (G4x0 N v1).bind k0 := by
 unfold G4x0 F4x0
 repeat' (first | with_reducible apply cond_b | (with_reducible apply bnd_b; intro _) | rfl)
def sh4x0 : Sh := { tmps := [(0, .g ([.sl 39]))], mem := [] }
def A4x0 (L : List Lf) : List (Bool × Res) := bnd (F4x0 N (ll L 1) (fun p => some p)) fun q => [(q.isSome, ([.c (.b (q.getD default))], []))]
theorem raw4x0 (L : List Lf) : bd Tryz.prog (T7x0 N) (h4x0s1 N).h 4 sh4x0 L = F4x0 N (ll L 1) (fun p => some ([.c (.b p)], [])) := by kernel_rfl
theorem ok4x0 : FnOk Tryz.prog 4 sh4x0 (A4x0 N) :=
 (h4x0s1 N).fn progOk (T7x0_ok N) fun L x hx => ((raw4x0 N L).trans ((bind4x0 N ..).trans (alt1 x hx)))
def T4x0 : Oracle := ext 4 (spSh sh4x0 (A4x0 N)) (T7x0 N)
theorem T4x0_ok : OracleOk Tryz.prog (T4x0 N) := FnOk.to (ok4x0 N) (T7x0_ok N)
end
end Go.Proofs.YthifhnmfecjjcaaGreatDoor
