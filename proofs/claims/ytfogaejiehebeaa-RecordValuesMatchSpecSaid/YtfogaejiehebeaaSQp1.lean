/- Functions of the program as plain Lean definitions, each with the proof that the program computes it. No condition. Printed by a program of the prover, part 1. -/
import Derived.Test.YtfogaejiehebeaaHk2
import Derived.Test.YtfogaejiehebeaaChecked
import Derived.KernelRfl
set_option linter.all false
set_option maxRecDepth 100000
namespace Go.Proofs.Ytfogaejiehebeaa
open Go Go.AM
noncomputable section
variable (N : Nat) {R : Type}
def sh7x0 : Sh := setSh
def A7x0 (L : List Lf) : List (Bool × Res) := setA N L
theorem ok7x0 : FnOk Try.prog 7 sh7x0 (A7x0 N) := set_fn N
def T7x0 : Oracle := ext 7 (spSh sh7x0 (A7x0 N)) (T6x0 N)
theorem T7x0_ok : OracleOk Try.prog (T7x0 N) := FnOk.to (ok7x0 N) (T6x0_ok N)
def rg47x0 : List (Nat × List Nat) := [(0, [1, 2, 0]), (1, [1, 2, 0]), (2, [1, 2, 7, 0]), (3, [13, 12, 2, 1, 7, 0]), (4, [13, 2, 1, 7, 0, 12]), (5, [8, 2, 1, 7, 0, 13, 12]), (6, [2, 1, 8, 7, 0, 13, 12, 9]), (7, [1, 8, 7, 0, 13, 12, 2]), (8, [7, 9, 0, 8, 13, 12, 2, 1]), (9, [13, 12, 2, 1, 7, 0]), (10, [7])]
def hd47x0 : Hints := [(9, [0, 1, 2, 7, 12, 13], [11], []), (23, [0, 1, 2, 7, 8, 9, 12, 13, 17], [11], [])]
def h47x0s0 (N : Nat) : Sg Try.prog 0 47 := .start hd47x0 rg47x0
def F47x0x23 (N : Nat) (w1 w3 w4 : Int) (w7 : Bool) (k0 : Int → R) : R :=
 bif w7 then
  k0 (IntKind.wrap .i64 ((IntKind.wrap .i64 (w1 - 1)) - w3))
 else
  k0 w4
def V47x0x23 (w1 w3 w4 : Int) (w7 : Bool) : Int := F47x0x23 N w1 w3 w4 w7 (fun p => p)
theorem tot47x0x23 (w1 w3 w4 : Int) (w7 : Bool) (k0 : Int → R) : F47x0x23 N w1 w3 w4 w7 k0 = k0 (V47x0x23 N w1 w3 w4 w7) := by
 unfold V47x0x23 F47x0x23
 repeat' (first | rfl | apply cond_k | (apply bnd_k; intro _))
def J47x0x23 (L : List Lf) (k0 : Int → R) : R := F47x0x23 N (li L 1) (li L 3) (li L 4) (lb L 7) k0
def sh47x0x23 : Sh := { tmps := [(0, .c (.i .i64)), (1, .c (.i .i64)), (2, .c (.b)), (7, .c (.o 11)), (8, .c (.i .i64)), (9, .c (.i .i64)), (12, .c (.i .i64)), (13, .c (.i .i64)), (17, .c (.b))], mem := [(11, .row 5 true)] }
def K47x0x23w0 (L : List Lf) (p : Int) : Ex × St := (.normal, mg (ofSh sh47x0x23 L) [0, 1, 2, 7, 8, 9, 12, 13] [(9, .c (.i .i64 p))] [11] [])
def A47x0x23 (L : List Lf) : List (Bool × (Ex × St)) := bnd (J47x0x23 N L (fun p => p)) fun q => [(true, K47x0x23w0 L q)]
theorem raw47x0x23 (L : List Lf) : pc Try.prog (T7x0 N) (h47x0s0 N).h 0 100 47 23 sh47x0x23 L [0, 1, 2, 7, 8, 9, 12, 13] [11] = J47x0x23 N L (fun p => some (K47x0x23w0 L p)) := by kernel_rfl
def h47x0s1 : Sg Try.prog 0 47 :=
 (h47x0s0 N).cut (A47x0x23 N) progOk (T7x0_ok N) fun L x hx => (raw47x0x23 N L).trans ((tot47x0x23 N ..).trans (alt0 _ _ hx))
def S47x0x9 (w0 w1 : Int) (w2 : Bool) (w3 : Int) (w4 : Int) (w6 : LD) (kr : Int → LD → Option R) (k0 : LD → Option R) : Option R :=
 bif (decide (w4 < w3)) then
  bnd (V47x0x23 N w1 w4 w4 w2) fun y0 =>
  bif (decide (0 ≤ (IntKind.wrap .i64 (8 * w4)))) then
   bnd (IntKind.wrap .u8 (w0.fdiv (2 ^ (min (IntKind.wrap .i64 (8 * w4)).toNat 64)))) fun y1 =>
   bif (inB y0 w6.length) then
    bif (decide (y0.toNat < w6.length)) then
     kr (IntKind.wrap .i64 (w4 + 1)) (w6.set y0.toNat (.i y1))
    else
     none
   else
    none
  else
   none
 else
  k0 w6
def L47x0x9 (N : Nat) {R : Type} (w0 w1 : Int) (w2 : Bool) (w3 : Int) : Nat → Int → LD → (LD → Option R) → Option R
 | 0, _, _, _ => none
 | m + 1, w4, w6, k0 => S47x0x9 N w0 w1 w2 w3 w4 w6 (fun w4 w6 => L47x0x9 N w0 w1 w2 w3 m w4 w6 k0) k0
def G47x0x9 (w0 w1 : Int) (w2 : Bool) (w3 : Int) (w4 : Int) (w6 : LD) : Option (LD) := L47x0x9 N (R := (LD)) w0 w1 w2 w3 N w4 w6 (fun p => some p)
def J47x0x9 (L x : List Lf) (kr : List Lf → Option R) (k0 : LD → Option R) : Option R := S47x0x9 N (li L 0) (li L 1) (lb L 2) (li L 3) (li x 0) (ll x 1) (fun w4 w6 => kr [.i w4, .l w6]) k0
theorem sb47x0x9 (L x : List Lf) (kr : List Lf → Option R) (k0 : LD → Option R) : J47x0x9 N L x kr k0 = (J47x0x9 N L x (fun y => some (.inl y)) (fun p => some (.inr p))).bind (sumE kr k0) := by
 unfold J47x0x9 S47x0x9
 repeat' (first | with_reducible apply cond_b | (with_reducible apply bnd_b; intro _) | rfl)
def Q47x0x9 (L : List Lf) (m : Nat) (x : List Lf) : Option (LD) := L47x0x9 N (R := (LD)) (li L 0) (li L 1) (lb L 2) (li L 3) m (li x 0) (ll x 1) (fun p => some p)
def sh47x0x9 : Sh := { tmps := [(0, .c (.i .i64)), (1, .c (.i .i64)), (2, .c (.b)), (7, .c (.o 11)), (12, .c (.i .i64)), (13, .c (.i .i64))], mem := [(11, .row 5 true)] }
def K47x0x9w0 (L : List Lf) (p : LD) : Ex × St := ((.exit 0), ⟨[(7, .c (.o 11))], [(11, .row 5 true (lb L 5) p)]⟩)
def A47x0x9 (L : List Lf) : List (Bool × (Ex × St)) := bnd (Q47x0x9 N L N (pk sh47x0x9 [4, 6] L)) fun q => [(q.isSome, K47x0x9w0 L (q.getD default))]
theorem step47x0x9 (m : Nat) (kn : St → Option (Ex × St)) (L x : List Lf) : lpB Try.prog (T7x0 N) (h47x0s1 N).h 0 47 9 sh47x0x9 [4, 6] [6, 7] [11] (m + 100) kn L x = J47x0x9 N L x (fun y => kn (ofSh sh47x0x9 (mx sh47x0x9 [4, 6] L y))) (fun p => some (K47x0x9w0 L p)) := by kernel_rfl
theorem ql47x0x9 (L : List Lf) (m : Nat) (x : List Lf) : Q47x0x9 N L (m + 1) x = J47x0x9 N L x (Q47x0x9 N L m) some := by kernel_rfl
def h47x0s2 : Sg Try.prog 0 47 :=
 (h47x0s1 N).lp (A47x0x9 N) N progOk (T7x0_ok N) (fun m kn L x => (step47x0x9 N m kn L x).trans (sb47x0x9 N L x _ _)) (fun L m x => (ql47x0x9 N L m x).trans (sb47x0x9 N L x (Q47x0x9 N L m) some)) fun L x hx => alt1 x hx
def F47x0 (v0 v1 : Int) (v2 : Bool) (k0 : LD → Option R) : Option R :=
 bif (((decide (0 ≤ v1)) && (decide (v1 ≤ v1))) && (decide (v1.toNat * 1 ≤ room) && decide (v1.toNat ≤ strMax))) then
  bnd (G47x0x9 N v0 v1 v2 v1 0 (List.replicate v1.toNat ((.i 0) : D))) fun y0 =>
  bif y0.isSome then
   k0 (y0.getD default)
  else
   none
 else
  none
def G47x0 (v0 v1 : Int) (v2 : Bool) : Option (LD) := F47x0 N v0 v1 v2 (fun p => some p)
theorem bind47x0 (v0 v1 : Int) (v2 : Bool) (k0 : LD → Option R) : F47x0 N v0 v1 v2 k0 = (G47x0 N v0 v1 v2).bind k0 := by
 unfold G47x0 F47x0
 repeat' (first | with_reducible apply cond_b | (with_reducible apply bnd_b; intro _) | rfl)
def sh47x0 : Sh := { tmps := [(0, .c (.i .i64)), (1, .c (.i .i64)), (2, .c (.b))], mem := [] }
def A47x0 (L : List Lf) : List (Bool × Res) := bnd (F47x0 N (li L 0) (li L 1) (lb L 2) (fun p => some p)) fun q => [(q.isSome, ([.c (.sl 5 false (q.getD default))], []))]
theorem raw47x0 (L : List Lf) : bd Try.prog (T7x0 N) (h47x0s2 N).h 47 sh47x0 L = F47x0 N (li L 0) (li L 1) (lb L 2) (fun p => some ([.c (.sl 5 false p)], [])) := by kernel_rfl
theorem ok47x0 : FnOk Try.prog 47 sh47x0 (A47x0 N) :=
 (h47x0s2 N).fn progOk (T7x0_ok N) fun L x hx => ((raw47x0 N L).trans ((bind47x0 N ..).trans (alt1 x hx)))
def T47x0 : Oracle := ext 47 (spSh sh47x0 (A47x0 N)) (T7x0 N)
theorem T47x0_ok : OracleOk Try.prog (T47x0 N) := FnOk.to (ok47x0 N) (T7x0_ok N)
def rg25x0 : List (Nat × List Nat) := [(0, [0, 1, 2]), (1, [4, 3, 2]), (2, [4, 3, 2]), (3, []), (4, [3, 2]), (5, [3]), (6, [3, 2]), (7, [3, 4, 2]), (8, [38, 4, 3, 2]), (14, [38, 4, 3, 2]), (15, [4, 3]), (16, []), (17, [4]), (9, [4, 3]), (10, []), (11, [4, 3]), (12, []), (13, [4, 3]), (18, [4, 3, 2]), (19, []), (20, [3, 4, 2]), (21, [3, 4, 9, 2, 8]), (22, [3, 4, 9, 2]), (23, [4, 8, 9, 3, 2]), (24, []), (25, [4, 3, 2])]
def hd25x0 : Hints := [(28, [3, 4], [3, 4], []), (68, [2, 3, 4, 8, 9, 94], [3, 4], [])]
def h25x0s0 (N : Nat) : Sg Try.prog 0 25 := .start hd25x0 rg25x0
def F25x0x28 (w5 : Int) (w6 : LB) (k0 : Bool → R) : R :=
 bif (bif (w5 != 0) then true else (w6 == ([] : List UInt8))) then
  k0 true
 else
  bnd (V43x0 N w6) fun y0 =>
  k0 y0
def V25x0x28 (w5 : Int) (w6 : LB) : Bool := F25x0x28 N w5 w6 (fun p => p)
theorem tot25x0x28 (w5 : Int) (w6 : LB) (k0 : Bool → R) : F25x0x28 N w5 w6 k0 = k0 (V25x0x28 N w5 w6) := by
 unfold V25x0x28 F25x0x28
 repeat' (first | rfl | apply cond_k | (apply bnd_k; intro _))
def sh25x0x28 : Sh := { tmps := [(3, .c (.p 3 0)), (4, .c (.p 4 0))], mem := [(3, .box ([.i .i64, .i .i64, .i .i64])), (4, .box ([.i .i64, .i .i64, .i .i64, .s, .b]))] }
def K25x0x28w0 (L : List Lf) (p : Bool) : Ex × St := (.normal, mg (ofSh sh25x0x28 L) [3, 4, 53] [(53, .c (.b p))] [3, 4] [])
def A25x0x28 (L : List Lf) : List (Bool × (Ex × St)) := bnd (F25x0x28 N (li L 5) (ls L 6) (fun p => p)) fun q => [(true, K25x0x28w0 L q)]
theorem raw25x0x28 (L : List Lf) : pc Try.prog (T47x0 N) (h25x0s0 N).h 0 100 25 28 sh25x0x28 L [3, 4, 53] [3, 4] = F25x0x28 N (li L 5) (ls L 6) (fun p => some (K25x0x28w0 L p)) := by kernel_rfl
def h25x0s1 : Sg Try.prog 0 25 :=
 (h25x0s0 N).cut (A25x0x28 N) progOk (T47x0_ok N) fun L x hx => (raw25x0x28 N L).trans ((tot25x0x28 N ..).trans (alt0 _ _ hx))
def F25x0x68 (N : Nat) (w1 : Int) (w3 : Bool) (w5 : Int) (k0 : Int → Option R) : Option R :=
 bif w3 then
  bif (decide (0 ≤ (IntKind.wrap .i64 ((IntKind.wrap .i64 (8 * w5)) - 1)))) then
   bnd (IntKind.wrap .i64 (1 * 2 ^ (min (IntKind.wrap .i64 ((IntKind.wrap .i64 (8 * w5)) - 1)).toNat 64))) fun y0 =>
   k0 (IntKind.wrap .i64 (0 - y0))
  else
   none
 else
  k0 w1
def G25x0x68 (w1 : Int) (w3 : Bool) (w5 : Int) : Option (Int) := F25x0x68 N w1 w3 w5 (fun p => some p)
theorem bind25x0x68 (w1 : Int) (w3 : Bool) (w5 : Int) (k0 : Int → Option R) : F25x0x68 N w1 w3 w5 k0 = (G25x0x68 N w1 w3 w5).bind k0 := by
 unfold G25x0x68 F25x0x68
 repeat' (first | with_reducible apply cond_b | (with_reducible apply bnd_b; intro _) | rfl)
def sh25x0x68 : Sh := { tmps := [(2, .c (.b)), (3, .c (.p 3 0)), (4, .c (.p 4 0)), (8, .c (.i .i64)), (9, .c (.i .i64)), (94, .c (.b))], mem := [(3, .box ([.i .i64, .i .i64, .i .i64])), (4, .box ([.i .i64, .i .i64, .i .i64, .s, .b]))] }
def K25x0x68w0 (L : List Lf) (p : Int) : Ex × St := (.normal, mg (ofSh sh25x0x68 L) [2, 3, 4, 8, 9] [(8, .c (.i .i64 p))] [3, 4] [])
def A25x0x68 (L : List Lf) : List (Bool × (Ex × St)) := bnd (F25x0x68 N (li L 1) (lb L 3) (li L 5) (fun p => some p)) fun q => [(q.isSome, K25x0x68w0 L (q.getD default))]
theorem raw25x0x68 (L : List Lf) : pc Try.prog (T47x0 N) (h25x0s1 N).h 0 100 25 68 sh25x0x68 L [2, 3, 4, 8, 9] [3, 4] = F25x0x68 N (li L 1) (lb L 3) (li L 5) (fun p => some (K25x0x68w0 L p)) := by kernel_rfl
def h25x0s2 : Sg Try.prog 0 25 :=
 (h25x0s1 N).cut (A25x0x68 N) progOk (T47x0_ok N) fun L x hx => (raw25x0x68 N L).trans ((bind25x0x68 N ..).trans (alt1 x hx))
def F25x0 (v1 v2 v5 : Int) (v6 : LB) (v7 v8 : Bool) (k0 : Bool × LD × Int → Option R) : Option R :=
 bif v7 then
  bnd (bif (bif (v5 != 0) then true else (!(v6 == ([] : List UInt8)))) then true else (v2 == 3)) fun y0 =>
  bif y0 then
   k0 (true, [], 2)
  else
   bif (v2 == 2) then
    bif (((decide (0 ≤ v1)) && (decide (v1 ≤ v1))) && (decide (v1.toNat * 1 ≤ room) && decide (v1.toNat ≤ strMax))) then
     k0 (false, (List.replicate v1.toNat ((.i 0) : D)), 0)
    else
     none
   else
    bnd (G48x0 N v1 v2) fun y1 =>
    bif y1.isSome then
     bnd (G47x0 N (y1.getD default) v1 v8) fun y2 =>
     bif y2.isSome then
      k0 (false, (y2.getD default), 0)
     else
      none
    else
     none
 else
  bif (v2 == 2) then
   bnd (V25x0x28 N v5 v6) fun y3 =>
   bif y3 then
    k0 (true, [], 2)
   else
    bif (decide ((v6.length : Int) > v1)) then
     k0 (true, [], 3)
    else
     bif (Nat.ble v6.length strMax) then
      bif ((decide (0 ≤ (IntKind.wrap .i64 (v1 - (v6.length : Int))))) && (decide (((bytesD v6).length + (IntKind.wrap .i64 (v1 - (v6.length : Int))).toNat) * 1 ≤ room) && decide (((bytesD v6).length + (IntKind.wrap .i64 (v1 - (v6.length : Int))).toNat) ≤ strMax))) then
       bnd (((bytesD v6) ++ (List.replicate (IntKind.wrap .i64 (v1 - (v6.length : Int))).toNat ((.i 0) : D))) : List D) fun y4 =>
       k0 (false, y4, 0)
      else
       none
     else
      none
  else
   bif (v2 == 3) then
    bif (bif (v5 != 0) then true else ((v6.length : Int) != v1)) then
     k0 (true, [], 2)
    else
     bif (Nat.ble v6.length strMax) then
      k0 (false, (bytesD v6), 0)
     else
      none
   else
    bif (!(v6 == ([] : List UInt8))) then
     k0 (true, [], 2)
    else
     bnd (G48x0 N v1 v2) fun y1 =>
     bif y1.isSome then
      bnd (G25x0x68 N 0 (v2 == 1) v1) fun y5 =>
      bif y5.isSome then
       bnd (V49x0 N v5 (y5.getD default) (IntKind.wrap .i64 ((y1.getD default) - 1))) fun y6 =>
       bif y6 then
        k0 (true, [], 9)
       else
        bnd (G47x0 N v5 v1 v8) fun y7 =>
        bif y7.isSome then
         k0 (false, (y7.getD default), 0)
        else
         none
      else
       none
     else
      none
def G25x0 (v1 v2 v5 : Int) (v6 : LB) (v7 v8 : Bool) : Option (Bool × LD × Int) := F25x0 N v1 v2 v5 v6 v7 v8 (fun p => some p)
theorem bind25x0 (v1 v2 v5 : Int) (v6 : LB) (v7 v8 : Bool) (k0 : Bool × LD × Int → Option R) : F25x0 N v1 v2 v5 v6 v7 v8 k0 = (G25x0 N v1 v2 v5 v6 v7 v8).bind k0 := by
 unfold G25x0 F25x0
 repeat' (first | with_reducible apply cond_b | (with_reducible apply bnd_b; intro _) | rfl)
def J25x0 (L : List Lf) (k0 : Bool × LD × Int → Option R) : Option R := F25x0 N (li L 1) (li L 2) (li L 5) (ls L 6) (lb L 7) (lb L 8) k0
def sh25x0 : Sh := { tmps := [(0, .g ([.i .i64, .i .i64, .i .i64])), (1, .g ([.i .i64, .i .i64, .i .i64, .s, .b])), (2, .c (.b))], mem := [] }
def A25x0 (L : List Lf) : List (Bool × Res) := bnd (J25x0 N L (fun p => some p)) fun q => [(q.isSome, ([.c (.sl 5 (q.getD default).1 (q.getD default).2.1), .c (.i .i64 (q.getD default).2.2)], []))]
theorem raw25x0 (L : List Lf) : bd Try.prog (T47x0 N) (h25x0s2 N).h 25 sh25x0 L = J25x0 N L (fun p => some ([.c (.sl 5 p.1 p.2.1), .c (.i .i64 p.2.2)], [])) := by kernel_rfl
theorem ok25x0 : FnOk Try.prog 25 sh25x0 (A25x0 N) :=
 (h25x0s2 N).fn progOk (T47x0_ok N) fun L x hx => ((raw25x0 N L).trans ((bind25x0 N ..).trans (alt1 x hx)))
def T25x0 : Oracle := ext 25 (spSh sh25x0 (A25x0 N)) (T47x0 N)
theorem T25x0_ok : OracleOk Try.prog (T25x0 N) := FnOk.to (ok25x0 N) (T47x0_ok N)
def rg26x0 : List (Nat × List Nat) := [(0, [0, 2, 1]), (1, [3, 1, 5, 6]), (2, [7, 1, 5, 6]), (3, [7, 6])]
def hd26x0 : Hints := []
def h26x0s0 (N : Nat) : Sg Try.prog 0 26 := .start hd26x0 rg26x0
def F26x0 (N : Nat) (v1 : LD) (v2 v3 v4 v5 : Int) (v6 : Bool) (v7 : LD) (v8 : Bool) (v9 : LD) (k0 : Bool × LD → Option R) : Option R :=
 bif (decide ((0 + v1.length) * 72 ≤ room) && decide ((0 + v1.length) ≤ strMax)) then
  bif (inB v2 v1.length) then
   bif (decide (v2.toNat < v1.length)) then
    bnd ((v1.set v2.toNat (.a [(.i v3), (.i v4), (.i v5), (.l v6 v7), (.l v8 v9)])) : List D) fun y0 =>
    k0 ((v1.isEmpty && false), y0)
   else
    none
  else
   none
 else
  none
def G26x0 (v1 : LD) (v2 v3 v4 v5 : Int) (v6 : Bool) (v7 : LD) (v8 : Bool) (v9 : LD) : Option (Bool × LD) := F26x0 N v1 v2 v3 v4 v5 v6 v7 v8 v9 (fun p => some p)
theorem bind26x0 (v1 : LD) (v2 v3 v4 v5 : Int) (v6 : Bool) (v7 : LD) (v8 : Bool) (v9 : LD) (k0 : Bool × LD → Option R) : F26x0 N v1 v2 v3 v4 v5 v6 v7 v8 v9 k0 = (G26x0 N v1 v2 v3 v4 v5 v6 v7 v8 v9).bind k0 := by
 unfold G26x0 F26x0
 repeat' (first | with_reducible apply cond_b | (with_reducible apply bnd_b; intro _) | rfl)
def J26x0 (L : List Lf) (k0 : Bool × LD → Option R) : Option R := F26x0 N (ll L 1) (li L 2) (li L 3) (li L 4) (li L 5) (lb L 6) (ll L 7) (lb L 8) (ll L 9) k0
def sh26x0 : Sh := { tmps := [(0, .g ([.sl 41])), (1, .c (.i .i64)), (2, .g ([.i .i64, .i .i64, .i .i64, .sl 44, .sl 5]))], mem := [] }
def A26x0 (L : List Lf) : List (Bool × Res) := bnd (J26x0 N L (fun p => some p)) fun q => [(q.isSome, ([.g [.sl 41 (q.getD default).1 (q.getD default).2]], []))]
theorem raw26x0 (L : List Lf) : bd Try.prog (T25x0 N) (h26x0s0 N).h 26 sh26x0 L = J26x0 N L (fun p => some ([.g [.sl 41 p.1 p.2]], [])) := by kernel_rfl
theorem ok26x0 : FnOk Try.prog 26 sh26x0 (A26x0 N) :=
 (h26x0s0 N).fn progOk (T25x0_ok N) fun L x hx => ((raw26x0 N L).trans ((bind26x0 N ..).trans (alt1 x hx)))
def T26x0 : Oracle := ext 26 (spSh sh26x0 (A26x0 N)) (T25x0 N)
theorem T26x0_ok : OracleOk Try.prog (T26x0 N) := FnOk.to (ok26x0 N) (T25x0_ok N)
def rg8x0 : List (Nat × List Nat) := [(0, [0, 2, 1]), (1, [3, 1, 6, 5]), (2, [8, 6, 3, 1, 5]), (3, [8, 6]), (4, [3, 1, 5, 6]), (5, [3, 1, 9, 5, 6]), (6, [9, 10, 5, 6, 3, 1]), (7, [9, 10, 5, 11, 6, 3, 1]), (8, [44, 43, 42, 5, 11, 6, 9, 10, 3, 1]), (9, [42, 44, 5, 11, 43, 6, 9, 10, 3, 1]), (10, [13, 5, 11, 44, 43, 42, 6, 9, 10, 3, 1]), (11, [11, 13, 44, 43, 42, 5, 6, 9, 10, 3, 1]), (12, [13, 5, 6, 9, 10, 11, 3, 1]), (13, [6]), (14, [13, 5, 9, 6, 10, 11, 3, 1]), (15, [15, 6, 10, 11, 14, 13, 3, 1]), (16, [15, 6]), (17, [10, 11, 14, 13, 3, 1, 6]), (18, [3, 1, 10, 6]), (19, [16, 6]), (20, [17, 6, 16]), (21, [17, 6]), (22, [16, 6]), (23, [44, 43, 42, 5, 11, 6, 9, 10, 3, 1]), (24, [6])]
def hd8x0 : Hints := [(24, [1, 3, 5, 6, 9, 10, 11, 42, 43, 44], [3, 5, 6, 9, 10], [])]
def h8x0s0 (N : Nat) : Sg Try.prog 0 8 := .start hd8x0 rg8x0
def S8x0x24 (w0 : Int) (w3 : LD) (w4 : Int) (w7 : LD) (w8 w9 w10 : Int) (w11 : LB) (w12 w15 : Bool) (w19 w20 w21 : Int) (w22 : Bool) (w23 w25 : LD) (w1 w5 : Int) (kr : Int → Int → Option R) (k0 : Int × Bool × LD → Option R) (k1 : Unit → Option R) : Option R :=
 bif (decide (w5 < w4)) then
  bif (inB w5 w3.length) then
   bif (((w3.getD w5.toNat (.i 0)).cell 0).toI != w8) then
    bnd (IntKind.wrap .i64 (w1 + ((w3.getD w5.toNat (.i 0)).cell 1).toI)) fun y0 =>
    kr y0 (IntKind.wrap .i64 (w5 + 1))
   else
    bif (((w3.getD w5.toNat (.i 0)).cell 2).toI != w9) then
     k0 (7, true, [])
    else
     bnd (G25x0 N ((w3.getD w5.toNat (.i 0)).cell 1).toI ((w3.getD w5.toNat (.i 0)).cell 2).toI w10 w11 w12 w15) fun y1 =>
     bif y1.isSome then
      bif ((y1.getD default).2.2 != 0) then
       k0 ((y1.getD default).2.2, true, [])
      else
       bif ((decide (0 ≤ w1)) && (decide (w1 ≤ (w25.length : Int)))) then
        bif (decide ((0 + ((w25.take w1.toNat).drop 0).length) * 1 ≤ room) && decide ((0 + ((w25.take w1.toNat).drop 0).length) ≤ strMax)) then
         bif (decide ((((w25.take w1.toNat).drop 0).length + (y1.getD default).2.1.length) * 1 ≤ room) && decide ((((w25.take w1.toNat).drop 0).length + (y1.getD default).2.1.length) ≤ strMax)) then
          bnd ((y1.getD default).2.1.isEmpty && (((w25.take w1.toNat).drop 0).isEmpty && false)) fun y2 =>
          bnd ((((w25.take w1.toNat).drop 0) ++ (y1.getD default).2.1) : List D) fun y3 =>
          bnd (IntKind.wrap .i64 (w1 + ((w3.getD w5.toNat (.i 0)).cell 1).toI)) fun y0 =>
          bif (((decide (0 ≤ y0)) && (decide (y0 ≤ (w25.length : Int)))) && (decide ((w25.length : Int) ≤ (w25.length : Int)))) then
           bif (decide ((y3.length + ((w25.take (w25.length : Int).toNat).drop y0.toNat).length) * 1 ≤ room) && decide ((y3.length + ((w25.take (w25.length : Int).toNat).drop y0.toNat).length) ≤ strMax)) then
            bnd (((w25.take (w25.length : Int).toNat).drop y0.toNat).isEmpty && y2) fun y4 =>
            bnd ((y3 ++ ((w25.take (w25.length : Int).toNat).drop y0.toNat)) : List D) fun y5 =>
            bnd (G26x0 N w7 w0 w19 w20 w21 w22 w23 y4 y5) fun y6 =>
            bif y6.isSome then
             bnd (G27x0 N (y6.getD default).2) fun y7 =>
             bif y7.isSome then
              bif ((y7.getD default) != 0) then
               k0 ((y7.getD default), true, [])
              else
               k0 (0, (y6.getD default).1, (y6.getD default).2)
             else
              none
            else
             none
           else
            none
          else
           none
         else
          none
        else
         none
       else
        none
     else
      none
  else
   none
 else
  k1 ()
def L8x0x24 (N : Nat) {R : Type} (w0 : Int) (w3 : LD) (w4 : Int) (w7 : LD) (w8 w9 w10 : Int) (w11 : LB) (w12 w15 : Bool) (w19 w20 w21 : Int) (w22 : Bool) (w23 w25 : LD) : Nat → Int → Int → (Int × Bool × LD → Option R) → (Unit → Option R) → Option R
 | 0, _, _, _, _ => none
 | m + 1, w1, w5, k0, k1 => S8x0x24 N w0 w3 w4 w7 w8 w9 w10 w11 w12 w15 w19 w20 w21 w22 w23 w25 w1 w5 (fun w1 w5 => L8x0x24 N w0 w3 w4 w7 w8 w9 w10 w11 w12 w15 w19 w20 w21 w22 w23 w25 m w1 w5 k0 k1) k0 k1
def G8x0x24 (w0 : Int) (w3 : LD) (w4 : Int) (w7 : LD) (w8 w9 w10 : Int) (w11 : LB) (w12 w15 : Bool) (w19 w20 w21 : Int) (w22 : Bool) (w23 w25 : LD) (w1 w5 : Int) : Option (Sum (Int × Bool × LD) (Unit)) := L8x0x24 N (R := (Sum (Int × Bool × LD) (Unit))) w0 w3 w4 w7 w8 w9 w10 w11 w12 w15 w19 w20 w21 w22 w23 w25 N w1 w5 (fun p => some (.inl p)) (fun p => some (.inr p))
def J8x0x24 (L x : List Lf) (kr : List Lf → Option R) (k0 : Int × Bool × LD → Option R) (k1 : Unit → Option R) : Option R := S8x0x24 N (li L 0) (ll L 3) (li L 4) (ll L 7) (li L 8) (li L 9) (li L 10) (ls L 11) (lb L 12) (lb L 15) (li L 19) (li L 20) (li L 21) (lb L 22) (ll L 23) (ll L 25) (li x 0) (li x 1) (fun w1 w5 => kr [.i w1, .i w5]) k0 k1
theorem sb8x0x24 (L x : List Lf) (kr : List Lf → Option R) (k0 : Int × Bool × LD → Option R) (k1 : Unit → Option R) : J8x0x24 N L x kr k0 k1 = (J8x0x24 N L x (fun y => some (.inl y)) (fun p => some (.inr (.inl p))) (fun p => some (.inr (.inr p)))).bind (sumE kr (sumE k0 k1)) := by
 unfold J8x0x24 S8x0x24
 repeat' (first | with_reducible apply cond_b | (with_reducible apply bnd_b; intro _) | rfl)
def Q8x0x24 (L : List Lf) (m : Nat) (x : List Lf) : Option (Sum (Int × Bool × LD) (Unit)) := L8x0x24 N (R := (Sum (Int × Bool × LD) (Unit))) (li L 0) (ll L 3) (li L 4) (ll L 7) (li L 8) (li L 9) (li L 10) (ls L 11) (lb L 12) (lb L 15) (li L 19) (li L 20) (li L 21) (lb L 22) (ll L 23) (ll L 25) m (li x 0) (li x 1) (fun p => some (.inl p)) (fun p => some (.inr p))
def sh8x0x24 : Sh := { tmps := [(1, .c (.i .i64)), (3, .c (.p 3 0)), (5, .c (.p 5 0)), (6, .c (.p 6 0)), (9, .c (.p 9 0)), (10, .c (.p 10 0)), (11, .c (.i .i64)), (42, .c (.sl 61)), (43, .c (.i .i64)), (44, .c (.i .i64))], mem := [(3, .box ([.sl 41])), (5, .box ([.i .i64, .i .i64, .i .i64, .s, .b])), (6, .box ([.sl 41])), (9, .box ([.b, .i .i64, .sl 61])), (10, .box ([.i .i64, .i .i64, .i .i64, .sl 44, .sl 5]))] }
def K8x0x24w0 (L : List Lf) (p : Int × Bool × LD) : Ex × St := (.ret, ⟨[(6, .c (.p 6 0)), (7, .c (.i .i64 p.1))], [(6, .box [.sl 41 p.2.1 p.2.2])]⟩)
def A8x0x24 (L : List Lf) : List (Bool × (Ex × St)) := bnd (Q8x0x24 N L N (pk sh8x0x24 [1, 5] L)) fun q => [((inlB q), K8x0x24w0 L (inlV q)), ((inrQ q).isSome, ((.exit 0), mg (ofSh sh8x0x24 L) [6] [] [6] []))]
theorem step8x0x24 (m : Nat) (kn : St → Option (Ex × St)) (L x : List Lf) : lpB Try.prog (T26x0 N) (h8x0s0 N).h 0 8 24 sh8x0x24 [1, 5] [6, 7] [6] (m + 100) kn L x = J8x0x24 N L x (fun y => kn (ofSh sh8x0x24 (mx sh8x0x24 [1, 5] L y))) (fun p => some (K8x0x24w0 L p)) (fun _ => some ((.exit 0), mg (ofSh sh8x0x24 L) [6] [] [6] [])) := by kernel_rfl
theorem ql8x0x24 (L : List Lf) (m : Nat) (x : List Lf) : Q8x0x24 N L (m + 1) x = J8x0x24 N L x (Q8x0x24 N L m) (fun p => some (.inl p)) (fun p => some (.inr p)) := by kernel_rfl
def h8x0s1 : Sg Try.prog 0 8 :=
 (h8x0s0 N).lp (A8x0x24 N) N progOk (T26x0_ok N) (fun m kn L x => (step8x0x24 N m kn L x).trans (sb8x0x24 N L x _ _ _)) (fun L m x => (ql8x0x24 N L m x).trans (sb8x0x24 N L x (Q8x0x24 N L m) (fun p => some (.inl p)) (fun p => some (.inr p)))) fun L x hx => (altS alt1) x hx
def F8x0 (v1 : LD) (v2 v3 v4 v5 : Int) (v6 : LB) (v7 : Bool) (k0 : Bool × LD × Int → Option R) : Option R :=
 bnd (G15x0 N v1 v2) fun y0 =>
 bif y0.isSome then
  bif ((y0.getD default) != 0) then
   k0 (true, [], (y0.getD default))
  else
   bnd (G17x0 N v1) fun y1 =>
   bif y1.isSome then
    bif (inB v2 (y1.getD default).2.1.length) then
     bif (inB 0 ((y1.getD default).2.1.getD v2.toNat (.i 0)).items.length) then
      bnd ((((y1.getD default).2.1.getD v2.toNat (.i 0)).items.getD 0 (.i 0)) : D) fun y2 =>
      bif (inB v2 v1.length) then
       bnd (G24x0 N (y2.cell 2).items (((v1.getD v2.toNat (.i 0)).cell 0).toI == 3)) fun y3 =>
       bif y3.isSome then
        bnd (G8x0x24 N v2 (y3.getD default).2 ((y3.getD default).2.length : Int) v1 v3 v4 v5 v6 v7 (y2.cell 0).toB ((v1.getD v2.toNat (.i 0)).cell 0).toI ((v1.getD v2.toNat (.i 0)).cell 1).toI ((v1.getD v2.toNat (.i 0)).cell 2).toI ((v1.getD v2.toNat (.i 0)).cell 3).isNil ((v1.getD v2.toNat (.i 0)).cell 3).items ((v1.getD v2.toNat (.i 0)).cell 4).items 0 0) fun y4 =>
        bif (inlB y4) then
         k0 ((inlV y4).2.1, (inlV y4).2.2, (inlV y4).1)
        else
         bif (inrQ y4).isSome then
          k0 (true, [], 4)
         else
          none
       else
        none
      else
       none
     else
      none
    else
     none
   else
    none
 else
  none
def G8x0 (v1 : LD) (v2 v3 v4 v5 : Int) (v6 : LB) (v7 : Bool) : Option (Bool × LD × Int) := F8x0 N v1 v2 v3 v4 v5 v6 v7 (fun p => some p)
theorem bind8x0 (v1 : LD) (v2 v3 v4 v5 : Int) (v6 : LB) (v7 : Bool) (k0 : Bool × LD × Int → Option R) : F8x0 N v1 v2 v3 v4 v5 v6 v7 k0 = (G8x0 N v1 v2 v3 v4 v5 v6 v7).bind k0 := by
 unfold G8x0 F8x0
 repeat' (first | with_reducible apply cond_b | (with_reducible apply bnd_b; intro _) | rfl)
def J8x0 (L : List Lf) (k0 : Bool × LD × Int → Option R) : Option R := F8x0 N (ll L 1) (li L 2) (li L 3) (li L 4) (li L 5) (ls L 6) (lb L 7) k0
def sh8x0 : Sh := { tmps := [(0, .g ([.sl 41])), (1, .c (.i .i64)), (2, .g ([.i .i64, .i .i64, .i .i64, .s, .b]))], mem := [] }
def A8x0 (L : List Lf) : List (Bool × Res) := bnd (J8x0 N L (fun p => some p)) fun q => [(q.isSome, ([.g [.sl 41 (q.getD default).1 (q.getD default).2.1], .c (.i .i64 (q.getD default).2.2)], []))]
theorem raw8x0 (L : List Lf) : bd Try.prog (T26x0 N) (h8x0s1 N).h 8 sh8x0 L = J8x0 N L (fun p => some ([.g [.sl 41 p.1 p.2.1], .c (.i .i64 p.2.2)], [])) := by kernel_rfl
theorem ok8x0 : FnOk Try.prog 8 sh8x0 (A8x0 N) :=
 (h8x0s1 N).fn progOk (T26x0_ok N) fun L x hx => ((raw8x0 N L).trans ((bind8x0 N ..).trans (alt1 x hx)))
def T8x0 : Oracle := ext 8 (spSh sh8x0 (A8x0 N)) (T26x0 N)
theorem T8x0_ok : OracleOk Try.prog (T8x0 N) := FnOk.to (ok8x0 N) (T26x0_ok N)
def rg9x0 : List (Nat × List Nat) := [(0, [0, 1]), (1, [0, 1]), (2, []), (3, [0, 1]), (4, [13, 12, 0, 1]), (5, [13, 0, 1, 12]), (6, [0, 5, 1, 13, 12]), (7, []), (8, [13, 12, 0, 1]), (9, [])]
def hd9x0 : Hints := [(12, [0, 1, 12, 13], [], [])]
def h9x0s0 (N : Nat) : Sg Try.prog 0 9 := .start hd9x0 rg9x0
def S9x0x12 (N : Nat) (w1 w3 : LD) (w4 : Int) (w5 : Int) (kr : Int → Option R) (k0 : Unit → Option R) (k1 : Unit → Option R) : Option R :=
 bif (decide (w5 < w4)) then
  bif (inB w5 w1.length) then
   bif (inB w5 w3.length) then
    bnd (!((((w1.getD w5.toNat (.i 0)).cell 0).toI == ((w3.getD w5.toNat (.i 0)).cell 0).toI) && ((((w1.getD w5.toNat (.i 0)).cell 1).toI == ((w3.getD w5.toNat (.i 0)).cell 1).toI) && ((((w1.getD w5.toNat (.i 0)).cell 2).toI == ((w3.getD w5.toNat (.i 0)).cell 2).toI) && ((((w1.getD w5.toNat (.i 0)).cell 3).toS == ((w3.getD w5.toNat (.i 0)).cell 3).toS) && ((((w1.getD w5.toNat (.i 0)).cell 4).toB == ((w3.getD w5.toNat (.i 0)).cell 4).toB) && true)))))) fun y0 =>
    bif y0 then
     k0 ()
    else
     kr (IntKind.wrap .i64 (w5 + 1))
   else
    none
  else
   none
 else
  k1 ()
def L9x0x12 (N : Nat) {R : Type} (w1 w3 : LD) (w4 : Int) : Nat → Int → (Unit → Option R) → (Unit → Option R) → Option R
 | 0, _, _, _ => none
 | m + 1, w5, k0, k1 => S9x0x12 N w1 w3 w4 w5 (fun w5 => L9x0x12 N w1 w3 w4 m w5 k0 k1) k0 k1
def G9x0x12 (w1 w3 : LD) (w4 : Int) (w5 : Int) : Option (Sum (Unit) (Unit)) := L9x0x12 N (R := (Sum (Unit) (Unit))) w1 w3 w4 N w5 (fun p => some (.inl p)) (fun p => some (.inr p))
def J9x0x12 (L x : List Lf) (kr : List Lf → Option R) (k0 : Unit → Option R) (k1 : Unit → Option R) : Option R := S9x0x12 N (ll L 1) (ll L 3) (li L 4) (li x 0) (fun w5 => kr [.i w5]) k0 k1
theorem sb9x0x12 (L x : List Lf) (kr : List Lf → Option R) (k0 : Unit → Option R) (k1 : Unit → Option R) : J9x0x12 N L x kr k0 k1 = (J9x0x12 N L x (fun y => some (.inl y)) (fun p => some (.inr (.inl p))) (fun p => some (.inr (.inr p)))).bind (sumE kr (sumE k0 k1)) := by
 unfold J9x0x12 S9x0x12
 repeat' (first | with_reducible apply cond_b | (with_reducible apply bnd_b; intro _) | rfl)
def Q9x0x12 (L : List Lf) (m : Nat) (x : List Lf) : Option (Sum (Unit) (Unit)) := L9x0x12 N (R := (Sum (Unit) (Unit))) (ll L 1) (ll L 3) (li L 4) m (li x 0) (fun p => some (.inl p)) (fun p => some (.inr p))
def sh9x0x12 : Sh := { tmps := [(0, .c (.sl 26)), (1, .c (.sl 26)), (12, .c (.i .i64)), (13, .c (.i .i64))], mem := [] }
def A9x0x12 (L : List Lf) : List (Bool × (Ex × St)) := bnd (Q9x0x12 N L N (pk sh9x0x12 [5] L)) fun q => [((inlB q), (.ret, ⟨[(4, .c (.b false))], []⟩)), ((inrQ q).isSome, ((.exit 0), ⟨[], []⟩))]
theorem step9x0x12 (m : Nat) (kn : St → Option (Ex × St)) (L x : List Lf) : lpB Try.prog (T8x0 N) (h9x0s0 N).h 0 9 12 sh9x0x12 [5] [4] [] (m + 100) kn L x = J9x0x12 N L x (fun y => kn (ofSh sh9x0x12 (mx sh9x0x12 [5] L y))) (fun _ => some (.ret, ⟨[(4, .c (.b false))], []⟩)) (fun _ => some ((.exit 0), ⟨[], []⟩)) := by kernel_rfl
theorem ql9x0x12 (L : List Lf) (m : Nat) (x : List Lf) : Q9x0x12 N L (m + 1) x = J9x0x12 N L x (Q9x0x12 N L m) (fun p => some (.inl p)) (fun p => some (.inr p)) := by kernel_rfl
def h9x0s1 : Sg Try.prog 0 9 :=
 (h9x0s0 N).lp (A9x0x12 N) N progOk (T8x0_ok N) (fun m kn L x => (step9x0x12 N m kn L x).trans (sb9x0x12 N L x _ _ _)) (fun L m x => (ql9x0x12 N L m x).trans (sb9x0x12 N L x (Q9x0x12 N L m) (fun p => some (.inl p)) (fun p => some (.inr p)))) fun L x hx => (altS alt1) x hx
def F9x0 (v1 v3 : LD) (k0 : Bool → Option R) : Option R :=
 bif ((v1.length : Int) != (v3.length : Int)) then
  k0 false
 else
  bnd (G9x0x12 N v1 v3 (v1.length : Int) 0) fun y0 =>
  bif (inlB y0) then
   k0 false
  else
   bif (inrQ y0).isSome then
    k0 true
   else
    none
def G9x0 (v1 v3 : LD) : Option (Bool) := F9x0 N v1 v3 (fun p => some p)
theorem bind9x0 (v1 v3 : LD) (k0 : Bool → Option R) : F9x0 N v1 v3 k0 = (G9x0 N v1 v3).bind k0 := by
 unfold G9x0 F9x0
 repeat' (first | with_reducible apply cond_b | (with_reducible apply bnd_b; intro _) | rfl)
def sh9x0 : Sh := { tmps := [(0, .c (.sl 26)), (1, .c (.sl 26))], mem := [] }
def A9x0 (L : List Lf) : List (Bool × Res) := bnd (F9x0 N (ll L 1) (ll L 3) (fun p => some p)) fun q => [(q.isSome, ([.c (.b (q.getD default))], []))]
theorem raw9x0 (L : List Lf) : bd Try.prog (T8x0 N) (h9x0s1 N).h 9 sh9x0 L = F9x0 N (ll L 1) (ll L 3) (fun p => some ([.c (.b p)], [])) := by kernel_rfl
theorem ok9x0 : FnOk Try.prog 9 sh9x0 (A9x0 N) :=
 (h9x0s1 N).fn progOk (T8x0_ok N) fun L x hx => ((raw9x0 N L).trans ((bind9x0 N ..).trans (alt1 x hx)))
def T9x0 : Oracle := ext 9 (spSh sh9x0 (A9x0 N)) (T8x0 N)
theorem T9x0_ok : OracleOk Try.prog (T9x0 N) := FnOk.to (ok9x0 N) (T8x0_ok N)
def rg60x0 : List (Nat × List Nat) := [(0, [0, 1]), (1, [0, 1]), (2, []), (3, [0, 1]), (4, [13, 12, 0, 1]), (5, [13, 0, 1, 12]), (6, [0, 5, 1, 13, 12]), (7, []), (8, [13, 12, 0, 1]), (9, [])]
def hd60x0 : Hints := [(12, [0, 1, 12, 13], [], [])]
def h60x0s0 (N : Nat) : Sg Try.prog 0 60 := .start hd60x0 rg60x0
def S60x0x12 (N : Nat) (w1 w3 : LD) (w4 : Int) (w5 : Int) (kr : Int → Option R) (k0 : Unit → Option R) (k1 : Unit → Option R) : Option R :=
 bif (decide (w5 < w4)) then
  bif (inB w5 w1.length) then
   bif (inB w5 w3.length) then
    bnd (!((((w1.getD w5.toNat (.i 0)).cell 0).toI == ((w3.getD w5.toNat (.i 0)).cell 0).toI) && ((((w1.getD w5.toNat (.i 0)).cell 1).toI == ((w3.getD w5.toNat (.i 0)).cell 1).toI) && ((((w1.getD w5.toNat (.i 0)).cell 2).toI == ((w3.getD w5.toNat (.i 0)).cell 2).toI) && true)))) fun y0 =>
    bif y0 then
     k0 ()
    else
     kr (IntKind.wrap .i64 (w5 + 1))
   else
    none
  else
   none
 else
  k1 ()
def L60x0x12 (N : Nat) {R : Type} (w1 w3 : LD) (w4 : Int) : Nat → Int → (Unit → Option R) → (Unit → Option R) → Option R
 | 0, _, _, _ => none
 | m + 1, w5, k0, k1 => S60x0x12 N w1 w3 w4 w5 (fun w5 => L60x0x12 N w1 w3 w4 m w5 k0 k1) k0 k1
def G60x0x12 (w1 w3 : LD) (w4 : Int) (w5 : Int) : Option (Sum (Unit) (Unit)) := L60x0x12 N (R := (Sum (Unit) (Unit))) w1 w3 w4 N w5 (fun p => some (.inl p)) (fun p => some (.inr p))
def J60x0x12 (L x : List Lf) (kr : List Lf → Option R) (k0 : Unit → Option R) (k1 : Unit → Option R) : Option R := S60x0x12 N (ll L 1) (ll L 3) (li L 4) (li x 0) (fun w5 => kr [.i w5]) k0 k1
theorem sb60x0x12 (L x : List Lf) (kr : List Lf → Option R) (k0 : Unit → Option R) (k1 : Unit → Option R) : J60x0x12 N L x kr k0 k1 = (J60x0x12 N L x (fun y => some (.inl y)) (fun p => some (.inr (.inl p))) (fun p => some (.inr (.inr p)))).bind (sumE kr (sumE k0 k1)) := by
 unfold J60x0x12 S60x0x12
 repeat' (first | with_reducible apply cond_b | (with_reducible apply bnd_b; intro _) | rfl)
def Q60x0x12 (L : List Lf) (m : Nat) (x : List Lf) : Option (Sum (Unit) (Unit)) := L60x0x12 N (R := (Sum (Unit) (Unit))) (ll L 1) (ll L 3) (li L 4) m (li x 0) (fun p => some (.inl p)) (fun p => some (.inr p))
def sh60x0x12 : Sh := { tmps := [(0, .c (.sl 61)), (1, .c (.sl 61)), (12, .c (.i .i64)), (13, .c (.i .i64))], mem := [] }
def A60x0x12 (L : List Lf) : List (Bool × (Ex × St)) := bnd (Q60x0x12 N L N (pk sh60x0x12 [5] L)) fun q => [((inlB q), (.ret, ⟨[(4, .c (.b false))], []⟩)), ((inrQ q).isSome, ((.exit 0), ⟨[], []⟩))]
theorem step60x0x12 (m : Nat) (kn : St → Option (Ex × St)) (L x : List Lf) : lpB Try.prog (T9x0 N) (h60x0s0 N).h 0 60 12 sh60x0x12 [5] [4] [] (m + 100) kn L x = J60x0x12 N L x (fun y => kn (ofSh sh60x0x12 (mx sh60x0x12 [5] L y))) (fun _ => some (.ret, ⟨[(4, .c (.b false))], []⟩)) (fun _ => some ((.exit 0), ⟨[], []⟩)) := by kernel_rfl
theorem ql60x0x12 (L : List Lf) (m : Nat) (x : List Lf) : Q60x0x12 N L (m + 1) x = J60x0x12 N L x (Q60x0x12 N L m) (fun p => some (.inl p)) (fun p => some (.inr p)) := by kernel_rfl
def h60x0s1 : Sg Try.prog 0 60 :=
 (h60x0s0 N).lp (A60x0x12 N) N progOk (T9x0_ok N) (fun m kn L x => (step60x0x12 N m kn L x).trans (sb60x0x12 N L x _ _ _)) (fun L m x => (ql60x0x12 N L m x).trans (sb60x0x12 N L x (Q60x0x12 N L m) (fun p => some (.inl p)) (fun p => some (.inr p)))) fun L x hx => (altS alt1) x hx
def F60x0 (v1 v3 : LD) (k0 : Bool → Option R) : Option R :=
 bif ((v1.length : Int) != (v3.length : Int)) then
  k0 false
 else
  bnd (G60x0x12 N v1 v3 (v1.length : Int) 0) fun y0 =>
  bif (inlB y0) then
   k0 false
  else
   bif (inrQ y0).isSome then
    k0 true
   else
    none
def G60x0 (v1 v3 : LD) : Option (Bool) := F60x0 N v1 v3 (fun p => some p)
theorem bind60x0 (v1 v3 : LD) (k0 : Bool → Option R) : F60x0 N v1 v3 k0 = (G60x0 N v1 v3).bind k0 := by
 unfold G60x0 F60x0
 repeat' (first | with_reducible apply cond_b | (with_reducible apply bnd_b; intro _) | rfl)
def sh60x0 : Sh := { tmps := [(0, .c (.sl 61)), (1, .c (.sl 61))], mem := [] }
def A60x0 (L : List Lf) : List (Bool × Res) := bnd (F60x0 N (ll L 1) (ll L 3) (fun p => some p)) fun q => [(q.isSome, ([.c (.b (q.getD default))], []))]
theorem raw60x0 (L : List Lf) : bd Try.prog (T9x0 N) (h60x0s1 N).h 60 sh60x0 L = F60x0 N (ll L 1) (ll L 3) (fun p => some ([.c (.b p)], [])) := by kernel_rfl
theorem ok60x0 : FnOk Try.prog 60 sh60x0 (A60x0 N) :=
 (h60x0s1 N).fn progOk (T9x0_ok N) fun L x hx => ((raw60x0 N L).trans ((bind60x0 N ..).trans (alt1 x hx)))
def T60x0 : Oracle := ext 60 (spSh sh60x0 (A60x0 N)) (T9x0 N)
theorem T60x0_ok : OracleOk Try.prog (T60x0 N) := FnOk.to (ok60x0 N) (T9x0_ok N)
def rg33x0 : List (Nat × List Nat) := [(0, [0, 1]), (1, [2, 3])]
def hd33x0 : Hints := [(4, [2, 3], [2, 3], [])]
def h33x0s0 (N : Nat) : Sg Try.prog 0 33 := .start hd33x0 rg33x0
def F33x0x4 (w0 : Bool) (w1 : Int) (w3 : LD) (w4 : Bool) (w5 : Int) (w7 : LD) (k0 : Bool → Option R) : Option R :=
 bif (bif (w0 == w4) then (w1 == w5) else false) then
  bnd (G60x0 N w3 w7) fun y0 =>
  bif y0.isSome then
   k0 (y0.getD default)
  else
   none
 else
  k0 false
def G33x0x4 (w0 : Bool) (w1 : Int) (w3 : LD) (w4 : Bool) (w5 : Int) (w7 : LD) : Option (Bool) := F33x0x4 N w0 w1 w3 w4 w5 w7 (fun p => some p)
theorem bind33x0x4 (w0 : Bool) (w1 : Int) (w3 : LD) (w4 : Bool) (w5 : Int) (w7 : LD) (k0 : Bool → Option R) : F33x0x4 N w0 w1 w3 w4 w5 w7 k0 = (G33x0x4 N w0 w1 w3 w4 w5 w7).bind k0 := by
 unfold G33x0x4 F33x0x4
 repeat' (first | with_reducible apply cond_b | (with_reducible apply bnd_b; intro _) | rfl)
def J33x0x4 (L : List Lf) (k0 : Bool → Option R) : Option R := F33x0x4 N (lb L 0) (li L 1) (ll L 3) (lb L 4) (li L 5) (ll L 7) k0
def sh33x0x4 : Sh := { tmps := [(2, .c (.p 2 0)), (3, .c (.p 3 0))], mem := [(2, .box ([.b, .i .i64, .sl 61])), (3, .box ([.b, .i .i64, .sl 61]))] }
def A33x0x4 (L : List Lf) : List (Bool × (Ex × St)) := bnd (J33x0x4 N L (fun p => some p)) fun q => [(q.isSome, (.normal, ⟨[(4, .c (.b (q.getD default)))], []⟩))]
theorem raw33x0x4 (L : List Lf) : pc Try.prog (T60x0 N) (h33x0s0 N).h 0 100 33 4 sh33x0x4 L [4] [] = J33x0x4 N L (fun p => some (.normal, ⟨[(4, .c (.b p))], []⟩)) := by kernel_rfl
def h33x0s1 : Sg Try.prog 0 33 :=
 (h33x0s0 N).cut (A33x0x4 N) progOk (T60x0_ok N) fun L x hx => (raw33x0x4 N L).trans ((bind33x0x4 N ..).trans (alt1 x hx))
def F33x0 (v0 : Bool) (v1 : Int) (v3 : LD) (v4 : Bool) (v5 : Int) (v7 : LD) (k0 : Bool → Option R) : Option R :=
 bnd (G33x0x4 N v0 v1 v3 v4 v5 v7) fun y0 =>
 bif y0.isSome then
  k0 (y0.getD default)
 else
  none
def G33x0 (v0 : Bool) (v1 : Int) (v3 : LD) (v4 : Bool) (v5 : Int) (v7 : LD) : Option (Bool) := F33x0 N v0 v1 v3 v4 v5 v7 (fun p => some p)
theorem bind33x0 (v0 : Bool) (v1 : Int) (v3 : LD) (v4 : Bool) (v5 : Int) (v7 : LD) (k0 : Bool → Option R) : F33x0 N v0 v1 v3 v4 v5 v7 k0 = (G33x0 N v0 v1 v3 v4 v5 v7).bind k0 := by
 unfold G33x0 F33x0
 repeat' (first | with_reducible apply cond_b | (with_reducible apply bnd_b; intro _) | rfl)
def J33x0 (L : List Lf) (k0 : Bool → Option R) : Option R := F33x0 N (lb L 0) (li L 1) (ll L 3) (lb L 4) (li L 5) (ll L 7) k0
def sh33x0 : Sh := { tmps := [(0, .g ([.b, .i .i64, .sl 61])), (1, .g ([.b, .i .i64, .sl 61]))], mem := [] }
def A33x0 (L : List Lf) : List (Bool × Res) := bnd (J33x0 N L (fun p => some p)) fun q => [(q.isSome, ([.c (.b (q.getD default))], []))]
theorem raw33x0 (L : List Lf) : bd Try.prog (T60x0 N) (h33x0s1 N).h 33 sh33x0 L = J33x0 N L (fun p => some ([.c (.b p)], [])) := by kernel_rfl
theorem ok33x0 : FnOk Try.prog 33 sh33x0 (A33x0 N) :=
 (h33x0s1 N).fn progOk (T60x0_ok N) fun L x hx => ((raw33x0 N L).trans ((bind33x0 N ..).trans (alt1 x hx)))
def T33x0 : Oracle := ext 33 (spSh sh33x0 (A33x0 N)) (T60x0 N)
theorem T33x0_ok : OracleOk Try.prog (T33x0 N) := FnOk.to (ok33x0 N) (T60x0_ok N)
def rg32x0 : List (Nat × List Nat) := [(0, [0, 1, 2]), (1, [0, 1, 2]), (2, []), (3, [0, 1, 2]), (4, [17, 16, 15, 1, 2]), (5, [17, 15, 1, 2, 16]), (6, [1, 7, 2, 8, 17, 16, 15]), (7, [2, 8, 9, 17, 16, 15, 1]), (8, []), (9, [17, 16, 15, 1, 2]), (10, [])]
def hd32x0 : Hints := [(12, [1, 2, 15, 16, 17], [], [])]
def h32x0s0 (N : Nat) : Sg Try.prog 0 32 := .start hd32x0 rg32x0
def S32x0x12 (w1 w3 : LD) (w4 : Int) (w5 : Int) (kr : Int → Option R) (k0 : Unit → Option R) (k1 : Unit → Option R) : Option R :=
 bif (decide (w5 < w4)) then
  bif (inB w5 w3.length) then
   bif (inB w5 w1.length) then
    bnd (G33x0 N ((w3.getD w5.toNat (.i 0)).cell 0).toB ((w3.getD w5.toNat (.i 0)).cell 1).toI ((w3.getD w5.toNat (.i 0)).cell 2).items ((w1.getD w5.toNat (.i 0)).cell 0).toB ((w1.getD w5.toNat (.i 0)).cell 1).toI ((w1.getD w5.toNat (.i 0)).cell 2).items) fun y0 =>
    bif y0.isSome then
     bif (!(y0.getD default)) then
      k0 ()
     else
      kr (IntKind.wrap .i64 (w5 + 1))
    else
     none
   else
    none
  else
   none
 else
  k1 ()
def L32x0x12 (N : Nat) {R : Type} (w1 w3 : LD) (w4 : Int) : Nat → Int → (Unit → Option R) → (Unit → Option R) → Option R
 | 0, _, _, _ => none
 | m + 1, w5, k0, k1 => S32x0x12 N w1 w3 w4 w5 (fun w5 => L32x0x12 N w1 w3 w4 m w5 k0 k1) k0 k1
def G32x0x12 (w1 w3 : LD) (w4 : Int) (w5 : Int) : Option (Sum (Unit) (Unit)) := L32x0x12 N (R := (Sum (Unit) (Unit))) w1 w3 w4 N w5 (fun p => some (.inl p)) (fun p => some (.inr p))
def J32x0x12 (L x : List Lf) (kr : List Lf → Option R) (k0 : Unit → Option R) (k1 : Unit → Option R) : Option R := S32x0x12 N (ll L 1) (ll L 3) (li L 4) (li x 0) (fun w5 => kr [.i w5]) k0 k1
theorem sb32x0x12 (L x : List Lf) (kr : List Lf → Option R) (k0 : Unit → Option R) (k1 : Unit → Option R) : J32x0x12 N L x kr k0 k1 = (J32x0x12 N L x (fun y => some (.inl y)) (fun p => some (.inr (.inl p))) (fun p => some (.inr (.inr p)))).bind (sumE kr (sumE k0 k1)) := by
 unfold J32x0x12 S32x0x12
 repeat' (first | with_reducible apply cond_b | (with_reducible apply bnd_b; intro _) | rfl)
def Q32x0x12 (L : List Lf) (m : Nat) (x : List Lf) : Option (Sum (Unit) (Unit)) := L32x0x12 N (R := (Sum (Unit) (Unit))) (ll L 1) (ll L 3) (li L 4) m (li x 0) (fun p => some (.inl p)) (fun p => some (.inr p))
def sh32x0x12 : Sh := { tmps := [(1, .c (.sl 44)), (2, .c (.f 33 [])), (15, .c (.sl 44)), (16, .c (.i .i64)), (17, .c (.i .i64))], mem := [] }
def A32x0x12 (L : List Lf) : List (Bool × (Ex × St)) := bnd (Q32x0x12 N L N (pk sh32x0x12 [5] L)) fun q => [((inlB q), (.ret, ⟨[(6, .c (.b false))], []⟩)), ((inrQ q).isSome, ((.exit 0), ⟨[], []⟩))]
theorem step32x0x12 (m : Nat) (kn : St → Option (Ex × St)) (L x : List Lf) : lpB Try.prog (T33x0 N) (h32x0s0 N).h 0 32 12 sh32x0x12 [5] [6] [] (m + 100) kn L x = J32x0x12 N L x (fun y => kn (ofSh sh32x0x12 (mx sh32x0x12 [5] L y))) (fun _ => some (.ret, ⟨[(6, .c (.b false))], []⟩)) (fun _ => some ((.exit 0), ⟨[], []⟩)) := by kernel_rfl
theorem ql32x0x12 (L : List Lf) (m : Nat) (x : List Lf) : Q32x0x12 N L (m + 1) x = J32x0x12 N L x (Q32x0x12 N L m) (fun p => some (.inl p)) (fun p => some (.inr p)) := by kernel_rfl
def h32x0s1 : Sg Try.prog 0 32 :=
 (h32x0s0 N).lp (A32x0x12 N) N progOk (T33x0_ok N) (fun m kn L x => (step32x0x12 N m kn L x).trans (sb32x0x12 N L x _ _ _)) (fun L m x => (ql32x0x12 N L m x).trans (sb32x0x12 N L x (Q32x0x12 N L m) (fun p => some (.inl p)) (fun p => some (.inr p)))) fun L x hx => (altS alt1) x hx
def F32x0 (v1 v3 : LD) (k0 : Bool → Option R) : Option R :=
 bif ((v1.length : Int) != (v3.length : Int)) then
  k0 false
 else
  bnd (G32x0x12 N v3 v1 (v1.length : Int) 0) fun y0 =>
  bif (inlB y0) then
   k0 false
  else
   bif (inrQ y0).isSome then
    k0 true
   else
    none
def G32x0 (v1 v3 : LD) : Option (Bool) := F32x0 N v1 v3 (fun p => some p)
theorem bind32x0 (v1 v3 : LD) (k0 : Bool → Option R) : F32x0 N v1 v3 k0 = (G32x0 N v1 v3).bind k0 := by
 unfold G32x0 F32x0
 repeat' (first | with_reducible apply cond_b | (with_reducible apply bnd_b; intro _) | rfl)
def sh32x0 : Sh := { tmps := [(0, .c (.sl 44)), (1, .c (.sl 44)), (2, .c (.f 33 []))], mem := [] }
def A32x0 (L : List Lf) : List (Bool × Res) := bnd (F32x0 N (ll L 1) (ll L 3) (fun p => some p)) fun q => [(q.isSome, ([.c (.b (q.getD default))], []))]
theorem raw32x0 (L : List Lf) : bd Try.prog (T33x0 N) (h32x0s1 N).h 32 sh32x0 L = F32x0 N (ll L 1) (ll L 3) (fun p => some ([.c (.b p)], [])) := by kernel_rfl
theorem ok32x0 : FnOk Try.prog 32 sh32x0 (A32x0 N) :=
 (h32x0s1 N).fn progOk (T33x0_ok N) fun L x hx => ((raw32x0 N L).trans ((bind32x0 N ..).trans (alt1 x hx)))
def T32x0 : Oracle := ext 32 (spSh sh32x0 (A32x0 N)) (T33x0 N)
theorem T32x0_ok : OracleOk Try.prog (T32x0 N) := FnOk.to (ok32x0 N) (T33x0_ok N)
def rg34x0 : List (Nat × List Nat) := [(0, [0, 1]), (1, [0, 1]), (2, []), (3, [0, 1]), (4, [13, 12, 0, 1]), (5, [13, 0, 1, 12]), (6, [0, 5, 1, 13, 12]), (7, []), (8, [13, 12, 0, 1]), (9, [])]
def hd34x0 : Hints := [(12, [0, 1, 12, 13], [], [])]
def h34x0s0 (N : Nat) : Sg Try.prog 0 34 := .start hd34x0 rg34x0
def S34x0x12 (N : Nat) (w1 w3 : LD) (w4 : Int) (w5 : Int) (kr : Int → Option R) (k0 : Unit → Option R) (k1 : Unit → Option R) : Option R :=
 bif (decide (w5 < w4)) then
  bif (inB w5 w1.length) then
   bif (inB w5 w3.length) then
    bnd ((w1.getD w5.toNat (.i 0)).toI != (w3.getD w5.toNat (.i 0)).toI) fun y0 =>
    bif y0 then
     k0 ()
    else
     kr (IntKind.wrap .i64 (w5 + 1))
   else
    none
  else
   none
 else
  k1 ()
def L34x0x12 (N : Nat) {R : Type} (w1 w3 : LD) (w4 : Int) : Nat → Int → (Unit → Option R) → (Unit → Option R) → Option R
 | 0, _, _, _ => none
 | m + 1, w5, k0, k1 => S34x0x12 N w1 w3 w4 w5 (fun w5 => L34x0x12 N w1 w3 w4 m w5 k0 k1) k0 k1
def G34x0x12 (w1 w3 : LD) (w4 : Int) (w5 : Int) : Option (Sum (Unit) (Unit)) := L34x0x12 N (R := (Sum (Unit) (Unit))) w1 w3 w4 N w5 (fun p => some (.inl p)) (fun p => some (.inr p))
def J34x0x12 (L x : List Lf) (kr : List Lf → Option R) (k0 : Unit → Option R) (k1 : Unit → Option R) : Option R := S34x0x12 N (ll L 1) (ll L 3) (li L 4) (li x 0) (fun w5 => kr [.i w5]) k0 k1
theorem sb34x0x12 (L x : List Lf) (kr : List Lf → Option R) (k0 : Unit → Option R) (k1 : Unit → Option R) : J34x0x12 N L x kr k0 k1 = (J34x0x12 N L x (fun y => some (.inl y)) (fun p => some (.inr (.inl p))) (fun p => some (.inr (.inr p)))).bind (sumE kr (sumE k0 k1)) := by
 unfold J34x0x12 S34x0x12
 repeat' (first | with_reducible apply cond_b | (with_reducible apply bnd_b; intro _) | rfl)
def Q34x0x12 (L : List Lf) (m : Nat) (x : List Lf) : Option (Sum (Unit) (Unit)) := L34x0x12 N (R := (Sum (Unit) (Unit))) (ll L 1) (ll L 3) (li L 4) m (li x 0) (fun p => some (.inl p)) (fun p => some (.inr p))
def sh34x0x12 : Sh := { tmps := [(0, .c (.sl 5)), (1, .c (.sl 5)), (12, .c (.i .i64)), (13, .c (.i .i64))], mem := [] }
def A34x0x12 (L : List Lf) : List (Bool × (Ex × St)) := bnd (Q34x0x12 N L N (pk sh34x0x12 [5] L)) fun q => [((inlB q), (.ret, ⟨[(4, .c (.b false))], []⟩)), ((inrQ q).isSome, ((.exit 0), ⟨[], []⟩))]
theorem step34x0x12 (m : Nat) (kn : St → Option (Ex × St)) (L x : List Lf) : lpB Try.prog (T32x0 N) (h34x0s0 N).h 0 34 12 sh34x0x12 [5] [4] [] (m + 100) kn L x = J34x0x12 N L x (fun y => kn (ofSh sh34x0x12 (mx sh34x0x12 [5] L y))) (fun _ => some (.ret, ⟨[(4, .c (.b false))], []⟩)) (fun _ => some ((.exit 0), ⟨[], []⟩)) := by kernel_rfl
theorem ql34x0x12 (L : List Lf) (m : Nat) (x : List Lf) : Q34x0x12 N L (m + 1) x = J34x0x12 N L x (Q34x0x12 N L m) (fun p => some (.inl p)) (fun p => some (.inr p)) := by kernel_rfl
def h34x0s1 : Sg Try.prog 0 34 :=
 (h34x0s0 N).lp (A34x0x12 N) N progOk (T32x0_ok N) (fun m kn L x => (step34x0x12 N m kn L x).trans (sb34x0x12 N L x _ _ _)) (fun L m x => (ql34x0x12 N L m x).trans (sb34x0x12 N L x (Q34x0x12 N L m) (fun p => some (.inl p)) (fun p => some (.inr p)))) fun L x hx => (altS alt1) x hx
def F34x0 (v1 v3 : LD) (k0 : Bool → Option R) : Option R :=
 bif ((v1.length : Int) != (v3.length : Int)) then
  k0 false
 else
  bnd (G34x0x12 N v1 v3 (v1.length : Int) 0) fun y0 =>
  bif (inlB y0) then
   k0 false
  else
   bif (inrQ y0).isSome then
    k0 true
   else
    none
def G34x0 (v1 v3 : LD) : Option (Bool) := F34x0 N v1 v3 (fun p => some p)
theorem bind34x0 (v1 v3 : LD) (k0 : Bool → Option R) : F34x0 N v1 v3 k0 = (G34x0 N v1 v3).bind k0 := by
 unfold G34x0 F34x0
 repeat' (first | with_reducible apply cond_b | (with_reducible apply bnd_b; intro _) | rfl)
def sh34x0 : Sh := { tmps := [(0, .c (.sl 5)), (1, .c (.sl 5))], mem := [] }
def A34x0 (L : List Lf) : List (Bool × Res) := bnd (F34x0 N (ll L 1) (ll L 3) (fun p => some p)) fun q => [(q.isSome, ([.c (.b (q.getD default))], []))]
theorem raw34x0 (L : List Lf) : bd Try.prog (T32x0 N) (h34x0s1 N).h 34 sh34x0 L = F34x0 N (ll L 1) (ll L 3) (fun p => some ([.c (.b p)], [])) := by kernel_rfl
theorem ok34x0 : FnOk Try.prog 34 sh34x0 (A34x0 N) :=
 (h34x0s1 N).fn progOk (T32x0_ok N) fun L x hx => ((raw34x0 N L).trans ((bind34x0 N ..).trans (alt1 x hx)))
def T34x0 : Oracle := ext 34 (spSh sh34x0 (A34x0 N)) (T32x0 N)
theorem T34x0_ok : OracleOk Try.prog (T34x0 N) := FnOk.to (ok34x0 N) (T32x0_ok N)
def rg12x0 : List (Nat × List Nat) := [(0, [0, 1]), (1, [2, 3])]
def hd12x0 : Hints := [(4, [2, 3], [2, 3], [])]
def h12x0s0 (N : Nat) : Sg Try.prog 0 12 := .start hd12x0 rg12x0
def F12x0x4 (w0 w1 w2 : Int) (w4 w6 : LD) (w7 w8 w9 : Int) (w11 w13 : LD) (k0 : Bool → Option R) : Option R :=
 bnd (bif (bif (w0 == w7) then (w1 == w8) else false) then (w2 == w9) else false) fun y0 =>
 bif y0 then
  bnd (G32x0 N w4 w11) fun y1 =>
  bif y1.isSome then
   bif (y1.getD default) then
    bnd (G34x0 N w6 w13) fun y2 =>
    bif y2.isSome then
     k0 (y2.getD default)
    else
     none
   else
    k0 false
  else
   none
 else
  k0 false
def G12x0x4 (w0 w1 w2 : Int) (w4 w6 : LD) (w7 w8 w9 : Int) (w11 w13 : LD) : Option (Bool) := F12x0x4 N w0 w1 w2 w4 w6 w7 w8 w9 w11 w13 (fun p => some p)
theorem bind12x0x4 (w0 w1 w2 : Int) (w4 w6 : LD) (w7 w8 w9 : Int) (w11 w13 : LD) (k0 : Bool → Option R) : F12x0x4 N w0 w1 w2 w4 w6 w7 w8 w9 w11 w13 k0 = (G12x0x4 N w0 w1 w2 w4 w6 w7 w8 w9 w11 w13).bind k0 := by
 unfold G12x0x4 F12x0x4
 repeat' (first | with_reducible apply cond_b | (with_reducible apply bnd_b; intro _) | rfl)
def J12x0x4 (L : List Lf) (k0 : Bool → Option R) : Option R := F12x0x4 N (li L 0) (li L 1) (li L 2) (ll L 4) (ll L 6) (li L 7) (li L 8) (li L 9) (ll L 11) (ll L 13) k0
def sh12x0x4 : Sh := { tmps := [(2, .c (.p 2 0)), (3, .c (.p 3 0))], mem := [(2, .box ([.i .i64, .i .i64, .i .i64, .sl 44, .sl 5])), (3, .box ([.i .i64, .i .i64, .i .i64, .sl 44, .sl 5]))] }
def A12x0x4 (L : List Lf) : List (Bool × (Ex × St)) := bnd (J12x0x4 N L (fun p => some p)) fun q => [(q.isSome, (.normal, ⟨[(4, .c (.b (q.getD default)))], []⟩))]
theorem raw12x0x4 (L : List Lf) : pc Try.prog (T34x0 N) (h12x0s0 N).h 0 100 12 4 sh12x0x4 L [4] [] = J12x0x4 N L (fun p => some (.normal, ⟨[(4, .c (.b p))], []⟩)) := by kernel_rfl
def h12x0s1 : Sg Try.prog 0 12 :=
 (h12x0s0 N).cut (A12x0x4 N) progOk (T34x0_ok N) fun L x hx => (raw12x0x4 N L).trans ((bind12x0x4 N ..).trans (alt1 x hx))
def F12x0 (v0 v1 v2 : Int) (v4 v6 : LD) (v7 v8 v9 : Int) (v11 v13 : LD) (k0 : Bool → Option R) : Option R :=
 bnd (G12x0x4 N v0 v1 v2 v4 v6 v7 v8 v9 v11 v13) fun y0 =>
 bif y0.isSome then
  k0 (y0.getD default)
 else
  none
def G12x0 (v0 v1 v2 : Int) (v4 v6 : LD) (v7 v8 v9 : Int) (v11 v13 : LD) : Option (Bool) := F12x0 N v0 v1 v2 v4 v6 v7 v8 v9 v11 v13 (fun p => some p)
theorem bind12x0 (v0 v1 v2 : Int) (v4 v6 : LD) (v7 v8 v9 : Int) (v11 v13 : LD) (k0 : Bool → Option R) : F12x0 N v0 v1 v2 v4 v6 v7 v8 v9 v11 v13 k0 = (G12x0 N v0 v1 v2 v4 v6 v7 v8 v9 v11 v13).bind k0 := by
 unfold G12x0 F12x0
 repeat' (first | with_reducible apply cond_b | (with_reducible apply bnd_b; intro _) | rfl)
def J12x0 (L : List Lf) (k0 : Bool → Option R) : Option R := F12x0 N (li L 0) (li L 1) (li L 2) (ll L 4) (ll L 6) (li L 7) (li L 8) (li L 9) (ll L 11) (ll L 13) k0
def sh12x0 : Sh := { tmps := [(0, .g ([.i .i64, .i .i64, .i .i64, .sl 44, .sl 5])), (1, .g ([.i .i64, .i .i64, .i .i64, .sl 44, .sl 5]))], mem := [] }
def A12x0 (L : List Lf) : List (Bool × Res) := bnd (J12x0 N L (fun p => some p)) fun q => [(q.isSome, ([.c (.b (q.getD default))], []))]
theorem raw12x0 (L : List Lf) : bd Try.prog (T34x0 N) (h12x0s1 N).h 12 sh12x0 L = J12x0 N L (fun p => some ([.c (.b p)], [])) := by kernel_rfl
theorem ok12x0 : FnOk Try.prog 12 sh12x0 (A12x0 N) :=
 (h12x0s1 N).fn progOk (T34x0_ok N) fun L x hx => ((raw12x0 N L).trans ((bind12x0 N ..).trans (alt1 x hx)))
def T12x0 : Oracle := ext 12 (spSh sh12x0 (A12x0 N)) (T34x0 N)
theorem T12x0_ok : OracleOk Try.prog (T12x0 N) := FnOk.to (ok12x0 N) (T34x0_ok N)
def rg28x0 : List (Nat × List Nat) := [(0, [0, 1, 2]), (1, [0, 1, 2]), (2, []), (3, [0, 1, 2]), (4, [17, 16, 15, 1, 2]), (5, [17, 15, 1, 2, 16]), (6, [1, 7, 2, 8, 17, 16, 15]), (7, [2, 8, 9, 17, 16, 15, 1]), (8, []), (9, [17, 16, 15, 1, 2]), (10, [])]
def hd28x0 : Hints := [(12, [1, 2, 15, 16, 17], [], [])]
def h28x0s0 (N : Nat) : Sg Try.prog 0 28 := .start hd28x0 rg28x0
def S28x0x12 (w1 w3 : LD) (w4 : Int) (w5 : Int) (kr : Int → Option R) (k0 : Unit → Option R) (k1 : Unit → Option R) : Option R :=
 bif (decide (w5 < w4)) then
  bif (inB w5 w3.length) then
   bif (inB w5 w1.length) then
    bnd (G12x0 N ((w3.getD w5.toNat (.i 0)).cell 0).toI ((w3.getD w5.toNat (.i 0)).cell 1).toI ((w3.getD w5.toNat (.i 0)).cell 2).toI ((w3.getD w5.toNat (.i 0)).cell 3).items ((w3.getD w5.toNat (.i 0)).cell 4).items ((w1.getD w5.toNat (.i 0)).cell 0).toI ((w1.getD w5.toNat (.i 0)).cell 1).toI ((w1.getD w5.toNat (.i 0)).cell 2).toI ((w1.getD w5.toNat (.i 0)).cell 3).items ((w1.getD w5.toNat (.i 0)).cell 4).items) fun y0 =>
    bif y0.isSome then
     bif (!(y0.getD default)) then
      k0 ()
     else
      kr (IntKind.wrap .i64 (w5 + 1))
    else
     none
   else
    none
  else
   none
 else
  k1 ()
def L28x0x12 (N : Nat) {R : Type} (w1 w3 : LD) (w4 : Int) : Nat → Int → (Unit → Option R) → (Unit → Option R) → Option R
 | 0, _, _, _ => none
 | m + 1, w5, k0, k1 => S28x0x12 N w1 w3 w4 w5 (fun w5 => L28x0x12 N w1 w3 w4 m w5 k0 k1) k0 k1
def G28x0x12 (w1 w3 : LD) (w4 : Int) (w5 : Int) : Option (Sum (Unit) (Unit)) := L28x0x12 N (R := (Sum (Unit) (Unit))) w1 w3 w4 N w5 (fun p => some (.inl p)) (fun p => some (.inr p))
def J28x0x12 (L x : List Lf) (kr : List Lf → Option R) (k0 : Unit → Option R) (k1 : Unit → Option R) : Option R := S28x0x12 N (ll L 1) (ll L 3) (li L 4) (li x 0) (fun w5 => kr [.i w5]) k0 k1
theorem sb28x0x12 (L x : List Lf) (kr : List Lf → Option R) (k0 : Unit → Option R) (k1 : Unit → Option R) : J28x0x12 N L x kr k0 k1 = (J28x0x12 N L x (fun y => some (.inl y)) (fun p => some (.inr (.inl p))) (fun p => some (.inr (.inr p)))).bind (sumE kr (sumE k0 k1)) := by
 unfold J28x0x12 S28x0x12
 repeat' (first | with_reducible apply cond_b | (with_reducible apply bnd_b; intro _) | rfl)
def Q28x0x12 (L : List Lf) (m : Nat) (x : List Lf) : Option (Sum (Unit) (Unit)) := L28x0x12 N (R := (Sum (Unit) (Unit))) (ll L 1) (ll L 3) (li L 4) m (li x 0) (fun p => some (.inl p)) (fun p => some (.inr p))
def sh28x0x12 : Sh := { tmps := [(1, .c (.sl 41)), (2, .c (.f 12 [])), (15, .c (.sl 41)), (16, .c (.i .i64)), (17, .c (.i .i64))], mem := [] }
def A28x0x12 (L : List Lf) : List (Bool × (Ex × St)) := bnd (Q28x0x12 N L N (pk sh28x0x12 [5] L)) fun q => [((inlB q), (.ret, ⟨[(6, .c (.b false))], []⟩)), ((inrQ q).isSome, ((.exit 0), ⟨[], []⟩))]
theorem step28x0x12 (m : Nat) (kn : St → Option (Ex × St)) (L x : List Lf) : lpB Try.prog (T12x0 N) (h28x0s0 N).h 0 28 12 sh28x0x12 [5] [6] [] (m + 100) kn L x = J28x0x12 N L x (fun y => kn (ofSh sh28x0x12 (mx sh28x0x12 [5] L y))) (fun _ => some (.ret, ⟨[(6, .c (.b false))], []⟩)) (fun _ => some ((.exit 0), ⟨[], []⟩)) := by kernel_rfl
theorem ql28x0x12 (L : List Lf) (m : Nat) (x : List Lf) : Q28x0x12 N L (m + 1) x = J28x0x12 N L x (Q28x0x12 N L m) (fun p => some (.inl p)) (fun p => some (.inr p)) := by kernel_rfl
def h28x0s1 : Sg Try.prog 0 28 :=
 (h28x0s0 N).lp (A28x0x12 N) N progOk (T12x0_ok N) (fun m kn L x => (step28x0x12 N m kn L x).trans (sb28x0x12 N L x _ _ _)) (fun L m x => (ql28x0x12 N L m x).trans (sb28x0x12 N L x (Q28x0x12 N L m) (fun p => some (.inl p)) (fun p => some (.inr p)))) fun L x hx => (altS alt1) x hx
def F28x0 (v1 v3 : LD) (k0 : Bool → Option R) : Option R :=
 bif ((v1.length : Int) != (v3.length : Int)) then
  k0 false
 else
  bnd (G28x0x12 N v3 v1 (v1.length : Int) 0) fun y0 =>
  bif (inlB y0) then
   k0 false
  else
   bif (inrQ y0).isSome then
    k0 true
   else
    none
def G28x0 (v1 v3 : LD) : Option (Bool) := F28x0 N v1 v3 (fun p => some p)
theorem bind28x0 (v1 v3 : LD) (k0 : Bool → Option R) : F28x0 N v1 v3 k0 = (G28x0 N v1 v3).bind k0 := by
 unfold G28x0 F28x0
 repeat' (first | with_reducible apply cond_b | (with_reducible apply bnd_b; intro _) | rfl)
def sh28x0 : Sh := { tmps := [(0, .c (.sl 41)), (1, .c (.sl 41)), (2, .c (.f 12 []))], mem := [] }
def A28x0 (L : List Lf) : List (Bool × Res) := bnd (F28x0 N (ll L 1) (ll L 3) (fun p => some p)) fun q => [(q.isSome, ([.c (.b (q.getD default))], []))]
theorem raw28x0 (L : List Lf) : bd Try.prog (T12x0 N) (h28x0s1 N).h 28 sh28x0 L = F28x0 N (ll L 1) (ll L 3) (fun p => some ([.c (.b p)], [])) := by kernel_rfl
theorem ok28x0 : FnOk Try.prog 28 sh28x0 (A28x0 N) :=
 (h28x0s1 N).fn progOk (T12x0_ok N) fun L x hx => ((raw28x0 N L).trans ((bind28x0 N ..).trans (alt1 x hx)))
def T28x0 : Oracle := ext 28 (spSh sh28x0 (A28x0 N)) (T12x0 N)
theorem T28x0_ok : OracleOk Try.prog (T28x0 N) := FnOk.to (ok28x0 N) (T12x0_ok N)
def rg10x0 : List (Nat × List Nat) := [(0, [0, 1]), (1, [2, 3])]
def hd10x0 : Hints := []
def h10x0s0 (N : Nat) : Sg Try.prog 0 10 := .start hd10x0 rg10x0
def F10x0 (v1 v3 : LD) (k0 : Bool → Option R) : Option R :=
 bnd (G28x0 N v1 v3) fun y0 =>
 bif y0.isSome then
  k0 (y0.getD default)
 else
  none
def G10x0 (v1 v3 : LD) : Option (Bool) := F10x0 N v1 v3 (fun p => some p)
theorem bind10x0 (v1 v3 : LD) (k0 : Bool → Option R) : F10x0 N v1 v3 k0 = (G10x0 N v1 v3).bind k0 := by
 unfold G10x0 F10x0
 repeat' (first | with_reducible apply cond_b | (with_reducible apply bnd_b; intro _) | rfl)
def sh10x0 : Sh := { tmps := [(0, .g ([.sl 41])), (1, .g ([.sl 41]))], mem := [] }
def A10x0 (L : List Lf) : List (Bool × Res) := bnd (F10x0 N (ll L 1) (ll L 3) (fun p => some p)) fun q => [(q.isSome, ([.c (.b (q.getD default))], []))]
theorem raw10x0 (L : List Lf) : bd Try.prog (T28x0 N) (h10x0s0 N).h 10 sh10x0 L = F10x0 N (ll L 1) (ll L 3) (fun p => some ([.c (.b p)], [])) := by kernel_rfl
theorem ok10x0 : FnOk Try.prog 10 sh10x0 (A10x0 N) :=
 (h10x0s0 N).fn progOk (T28x0_ok N) fun L x hx => ((raw10x0 N L).trans ((bind10x0 N ..).trans (alt1 x hx)))
def T10x0 : Oracle := ext 10 (spSh sh10x0 (A10x0 N)) (T28x0 N)
theorem T10x0_ok : OracleOk Try.prog (T10x0 N) := FnOk.to (ok10x0 N) (T28x0_ok N)
def rg81x0 : List (Nat × List Nat) := [(0, [0]), (1, [0])]
def hd81x0 : Hints := []
def h81x0s0 (N : Nat) : Sg Try.prog 0 81 := .start hd81x0 rg81x0
def F81x0 (N : Nat) (v0 : Int) (k0 : Bool → R) : R :=
 k0 (bif (decide (v0 ≥ 48)) then (decide (v0 ≤ 57)) else false)
def V81x0 (v0 : Int) : Bool := F81x0 N v0 (fun p => p)
theorem tot81x0 (v0 : Int) (k0 : Bool → R) : F81x0 N v0 k0 = k0 (V81x0 N v0) := by
 unfold V81x0 F81x0
 repeat' (first | rfl | apply cond_k | (apply bnd_k; intro _))
def sh81x0 : Sh := { tmps := [(0, .c (.i .u8))], mem := [] }
def A81x0 (L : List Lf) : List (Bool × Res) := bnd (F81x0 N (li L 0) (fun p => p)) fun q => [(true, ([.c (.b q)], []))]
theorem raw81x0 (L : List Lf) : bd Try.prog (T10x0 N) (h81x0s0 N).h 81 sh81x0 L = F81x0 N (li L 0) (fun p => some ([.c (.b p)], [])) := by kernel_rfl
theorem ok81x0 : FnOk Try.prog 81 sh81x0 (A81x0 N) :=
 (h81x0s0 N).fn progOk (T10x0_ok N) fun L x hx => ((raw81x0 N L).trans ((tot81x0 N ..).trans (alt0 _ _ hx)))
def T81x0 : Oracle := ext 81 (spSh sh81x0 (A81x0 N)) (T10x0 N)
theorem T81x0_ok : OracleOk Try.prog (T81x0 N) := FnOk.to (ok81x0 N) (T10x0_ok N)
def rg74x0 : List (Nat × List Nat) := [(0, [0]), (1, [0]), (2, [8, 7, 0]), (3, [8, 0, 7]), (4, [0, 3, 8, 7]), (5, [4, 8, 7, 0]), (6, [5, 4, 8, 7, 0]), (7, []), (8, [8, 7, 0]), (9, [0])]
def hd74x0 : Hints := [(6, [0, 7, 8], [], []), (19, [0, 4, 5, 7, 8], [], [])]
def h74x0s0 (N : Nat) : Sg Try.prog 0 74 := .start hd74x0 rg74x0
def F74x0x19 (w1 : Int) (w2 : Bool) (k0 : Bool → R) : R :=
 bif (!w2) then
  bnd (V81x0 N w1) fun y0 =>
  bnd (bif (bif (!y0) then (w1 != 45) else false) then (w1 != 95) else false) fun y1 =>
  k0 (bif y1 then (w1 != 46) else false)
 else
  k0 false
def V74x0x19 (w1 : Int) (w2 : Bool) : Bool := F74x0x19 N w1 w2 (fun p => p)
theorem tot74x0x19 (w1 : Int) (w2 : Bool) (k0 : Bool → R) : F74x0x19 N w1 w2 k0 = k0 (V74x0x19 N w1 w2) := by
 unfold V74x0x19 F74x0x19
 repeat' (first | rfl | apply cond_k | (apply bnd_k; intro _))
def sh74x0x19 : Sh := { tmps := [(0, .c (.s)), (4, .c (.i .u8)), (5, .c (.b)), (7, .c (.i .i64)), (8, .c (.i .i64))], mem := [] }
def K74x0x19w0 (L : List Lf) (p : Bool) : Ex × St := (.normal, mg (ofSh sh74x0x19 L) [0, 7, 8, 46] [(46, .c (.b p))] [] [])
def A74x0x19 (L : List Lf) : List (Bool × (Ex × St)) := bnd (F74x0x19 N (li L 1) (lb L 2) (fun p => p)) fun q => [(true, K74x0x19w0 L q)]
theorem raw74x0x19 (L : List Lf) : pc Try.prog (T81x0 N) (h74x0s0 N).h 0 100 74 19 sh74x0x19 L [0, 7, 8, 46] [] = F74x0x19 N (li L 1) (lb L 2) (fun p => some (K74x0x19w0 L p)) := by kernel_rfl
def h74x0s1 : Sg Try.prog 0 74 :=
 (h74x0s0 N).cut (A74x0x19 N) progOk (T81x0_ok N) fun L x hx => (raw74x0x19 N L).trans ((tot74x0x19 N ..).trans (alt0 _ _ hx))
def S74x0x6 (w0 : LB) (w1 : Int) (w2 : Int) (kr : Int → Option R) (k0 : Unit → Option R) (k1 : Unit → Option R) : Option R :=
 bif (decide (w2 < w1)) then
  bif (inB w2 w0.length) then
   bnd (bif (decide (((w0.getD w2.toNat 0).toNat : Int) ≥ 97)) then (decide (((w0.getD w2.toNat 0).toNat : Int) ≤ 122)) else false) fun y0 =>
   bnd (bif y0 then true else (bif (decide (((w0.getD w2.toNat 0).toNat : Int) ≥ 65)) then (decide (((w0.getD w2.toNat 0).toNat : Int) ≤ 90)) else false)) fun y1 =>
   bnd (V74x0x19 N ((w0.getD w2.toNat 0).toNat : Int) y1) fun y2 =>
   bif y2 then
    k0 ()
   else
    kr (IntKind.wrap .i64 (w2 + 1))
  else
   none
 else
  k1 ()
def L74x0x6 (N : Nat) {R : Type} (w0 : LB) (w1 : Int) : Nat → Int → (Unit → Option R) → (Unit → Option R) → Option R
 | 0, _, _, _ => none
 | m + 1, w2, k0, k1 => S74x0x6 N w0 w1 w2 (fun w2 => L74x0x6 N w0 w1 m w2 k0 k1) k0 k1
def G74x0x6 (w0 : LB) (w1 : Int) (w2 : Int) : Option (Sum (Unit) (Unit)) := L74x0x6 N (R := (Sum (Unit) (Unit))) w0 w1 N w2 (fun p => some (.inl p)) (fun p => some (.inr p))
def J74x0x6 (L x : List Lf) (kr : List Lf → Option R) (k0 : Unit → Option R) (k1 : Unit → Option R) : Option R := S74x0x6 N (ls L 0) (li L 1) (li x 0) (fun w2 => kr [.i w2]) k0 k1
theorem sb74x0x6 (L x : List Lf) (kr : List Lf → Option R) (k0 : Unit → Option R) (k1 : Unit → Option R) : J74x0x6 N L x kr k0 k1 = (J74x0x6 N L x (fun y => some (.inl y)) (fun p => some (.inr (.inl p))) (fun p => some (.inr (.inr p)))).bind (sumE kr (sumE k0 k1)) := by
 unfold J74x0x6 S74x0x6
 repeat' (first | with_reducible apply cond_b | (with_reducible apply bnd_b; intro _) | rfl)
def Q74x0x6 (L : List Lf) (m : Nat) (x : List Lf) : Option (Sum (Unit) (Unit)) := L74x0x6 N (R := (Sum (Unit) (Unit))) (ls L 0) (li L 1) m (li x 0) (fun p => some (.inl p)) (fun p => some (.inr p))
def sh74x0x6 : Sh := { tmps := [(0, .c (.s)), (7, .c (.i .i64)), (8, .c (.i .i64))], mem := [] }
def A74x0x6 (L : List Lf) : List (Bool × (Ex × St)) := bnd (Q74x0x6 N L N (pk sh74x0x6 [2] L)) fun q => [((inlB q), (.ret, ⟨[(2, .c (.b false))], []⟩)), ((inrQ q).isSome, ((.exit 0), ⟨[(0, .c (.s (ls L 0)))], []⟩))]
theorem step74x0x6 (m : Nat) (kn : St → Option (Ex × St)) (L x : List Lf) : lpB Try.prog (T81x0 N) (h74x0s1 N).h 0 74 6 sh74x0x6 [2] [0, 2] [] (m + 100) kn L x = J74x0x6 N L x (fun y => kn (ofSh sh74x0x6 (mx sh74x0x6 [2] L y))) (fun _ => some (.ret, ⟨[(2, .c (.b false))], []⟩)) (fun _ => some ((.exit 0), ⟨[(0, .c (.s (ls L 0)))], []⟩)) := by kernel_rfl
theorem ql74x0x6 (L : List Lf) (m : Nat) (x : List Lf) : Q74x0x6 N L (m + 1) x = J74x0x6 N L x (Q74x0x6 N L m) (fun p => some (.inl p)) (fun p => some (.inr p)) := by kernel_rfl
def h74x0s2 : Sg Try.prog 0 74 :=
 (h74x0s1 N).lp (A74x0x6 N) N progOk (T81x0_ok N) (fun m kn L x => (step74x0x6 N m kn L x).trans (sb74x0x6 N L x _ _ _)) (fun L m x => (ql74x0x6 N L m x).trans (sb74x0x6 N L x (Q74x0x6 N L m) (fun p => some (.inl p)) (fun p => some (.inr p)))) fun L x hx => (altS alt1) x hx
def F74x0 (v0 : LB) (k0 : Bool → Option R) : Option R :=
 bnd (G74x0x6 N v0 (v0.length : Int) 0) fun y0 =>
 bif (inlB y0) then
  k0 false
 else
  bif (inrQ y0).isSome then
   bnd (bif (decide ((v0.length : Int) ≥ 1)) then (decide ((v0.length : Int) ≤ 60)) else false) fun y1 =>
   k0 y1
  else
   none
def G74x0 (v0 : LB) : Option (Bool) := F74x0 N v0 (fun p => some p)
theorem bind74x0 (v0 : LB) (k0 : Bool → Option R) : F74x0 N v0 k0 = (G74x0 N v0).bind k0 := by
 unfold G74x0 F74x0
 repeat' (first | with_reducible apply cond_b | (with_reducible apply bnd_b; intro _) | rfl)
def sh74x0 : Sh := { tmps := [(0, .c (.s))], mem := [] }
def A74x0 (L : List Lf) : List (Bool × Res) := bnd (F74x0 N (ls L 0) (fun p => some p)) fun q => [(q.isSome, ([.c (.b (q.getD default))], []))]
theorem raw74x0 (L : List Lf) : bd Try.prog (T81x0 N) (h74x0s2 N).h 74 sh74x0 L = F74x0 N (ls L 0) (fun p => some ([.c (.b p)], [])) := by kernel_rfl
theorem ok74x0 : FnOk Try.prog 74 sh74x0 (A74x0 N) :=
 (h74x0s2 N).fn progOk (T81x0_ok N) fun L x hx => ((raw74x0 N L).trans ((bind74x0 N ..).trans (alt1 x hx)))
def T74x0 : Oracle := ext 74 (spSh sh74x0 (A74x0 N)) (T81x0 N)
theorem T74x0_ok : OracleOk Try.prog (T74x0 N) := FnOk.to (ok74x0 N) (T81x0_ok N)
def rg75x0 : List (Nat × List Nat) := [(0, [0]), (1, [1]), (2, [3, 1])]
def hd75x0 : Hints := [(4, [1], [1], []), (7, [1, 3], [1], [])]
def h75x0s0 (N : Nat) : Sg Try.prog 0 75 := .start hd75x0 rg75x0
def F75x0x4 (w1 w2 w3 : Int) (k0 : Bool → R) : R :=
 bnd (V35x0 N w1 (-100000000) 100000000) fun y0 =>
 bif y0 then
  bnd (V35x0 N w2 (-100000000) 100000000) fun y1 =>
  bif y1 then
   bnd (V35x0 N w3 (-100000) 100000) fun y2 =>
   k0 y2
  else
   k0 false
 else
  k0 false
def V75x0x4 (w1 w2 w3 : Int) : Bool := F75x0x4 N w1 w2 w3 (fun p => p)
theorem tot75x0x4 (w1 w2 w3 : Int) (k0 : Bool → R) : F75x0x4 N w1 w2 w3 k0 = k0 (V75x0x4 N w1 w2 w3) := by
 unfold V75x0x4 F75x0x4
 repeat' (first | rfl | apply cond_k | (apply bnd_k; intro _))
def sh75x0x4 : Sh := { tmps := [(1, .c (.p 1 0))], mem := [(1, .box (rI 7 ([])))] }
def K75x0x4w0 (L : List Lf) (p : Bool) : Ex × St := (.normal, mg (ofSh sh75x0x4 L) [1, 3] [(3, .c (.b p))] [1] [])
def A75x0x4 (L : List Lf) : List (Bool × (Ex × St)) := bnd (F75x0x4 N (li L 1) (li L 2) (li L 3) (fun p => p)) fun q => [(true, K75x0x4w0 L q)]
theorem raw75x0x4 (L : List Lf) : pc Try.prog (T74x0 N) (h75x0s0 N).h 0 100 75 4 sh75x0x4 L [1, 3] [1] = F75x0x4 N (li L 1) (li L 2) (li L 3) (fun p => some (K75x0x4w0 L p)) := by kernel_rfl
def h75x0s1 : Sg Try.prog 0 75 :=
 (h75x0s0 N).cut (A75x0x4 N) progOk (T74x0_ok N) fun L x hx => (raw75x0x4 N L).trans ((tot75x0x4 N ..).trans (alt0 _ _ hx))
def F75x0x7 (w0 : Bool) (w5 w6 w7 : Int) (k0 : Bool → R) : R :=
 bif w0 then
  bnd (V35x0 N w5 (-1) 300) fun y0 =>
  bif y0 then
   bnd (V35x0 N w6 (-1) 3000) fun y1 =>
   bif y1 then
    bnd (V35x0 N w7 (-1) 300) fun y2 =>
    k0 y2
   else
    k0 false
  else
   k0 false
 else
  k0 false
def V75x0x7 (w0 : Bool) (w5 w6 w7 : Int) : Bool := F75x0x7 N w0 w5 w6 w7 (fun p => p)
theorem tot75x0x7 (w0 : Bool) (w5 w6 w7 : Int) (k0 : Bool → R) : F75x0x7 N w0 w5 w6 w7 k0 = k0 (V75x0x7 N w0 w5 w6 w7) := by
 unfold V75x0x7 F75x0x7
 repeat' (first | rfl | apply cond_k | (apply bnd_k; intro _))
def J75x0x7 (L : List Lf) (k0 : Bool → R) : R := F75x0x7 N (lb L 0) (li L 5) (li L 6) (li L 7) k0
def sh75x0x7 : Sh := { tmps := [(1, .c (.p 1 0)), (3, .c (.b))], mem := [(1, .box (rI 7 ([])))] }
def A75x0x7 (L : List Lf) : List (Bool × (Ex × St)) := bnd (J75x0x7 N L (fun p => p)) fun q => [(true, (.normal, ⟨[(2, .c (.b q))], []⟩))]
theorem raw75x0x7 (L : List Lf) : pc Try.prog (T74x0 N) (h75x0s1 N).h 0 100 75 7 sh75x0x7 L [2] [] = J75x0x7 N L (fun p => some (.normal, ⟨[(2, .c (.b p))], []⟩)) := by kernel_rfl
def h75x0s2 : Sg Try.prog 0 75 :=
 (h75x0s1 N).cut (A75x0x7 N) progOk (T74x0_ok N) fun L x hx => (raw75x0x7 N L).trans ((tot75x0x7 N ..).trans (alt0 _ _ hx))
def F75x0 (v1 v2 v3 v4 v5 v6 : Int) (k0 : Bool → R) : R :=
 bnd (V75x0x4 N v1 v2 v3) fun y0 =>
 bnd (V75x0x7 N y0 v4 v5 v6) fun y1 =>
 k0 y1
def V75x0 (v1 v2 v3 v4 v5 v6 : Int) : Bool := F75x0 N v1 v2 v3 v4 v5 v6 (fun p => p)
theorem tot75x0 (v1 v2 v3 v4 v5 v6 : Int) (k0 : Bool → R) : F75x0 N v1 v2 v3 v4 v5 v6 k0 = k0 (V75x0 N v1 v2 v3 v4 v5 v6) := by
 unfold V75x0 F75x0
 repeat' (first | rfl | apply cond_k | (apply bnd_k; intro _))
def J75x0 (L : List Lf) (k0 : Bool → R) : R := F75x0 N (li L 1) (li L 2) (li L 3) (li L 4) (li L 5) (li L 6) k0
def sh75x0 : Sh := { tmps := [(0, .g (rI 7 ([])))], mem := [] }
def A75x0 (L : List Lf) : List (Bool × Res) := bnd (J75x0 N L (fun p => p)) fun q => [(true, ([.c (.b q)], []))]
theorem raw75x0 (L : List Lf) : bd Try.prog (T74x0 N) (h75x0s2 N).h 75 sh75x0 L = J75x0 N L (fun p => some ([.c (.b p)], [])) := by kernel_rfl
theorem ok75x0 : FnOk Try.prog 75 sh75x0 (A75x0 N) :=
 (h75x0s2 N).fn progOk (T74x0_ok N) fun L x hx => ((raw75x0 N L).trans ((tot75x0 N ..).trans (alt0 _ _ hx)))
def T75x0 : Oracle := ext 75 (spSh sh75x0 (A75x0 N)) (T74x0 N)
theorem T75x0_ok : OracleOk Try.prog (T75x0 N) := FnOk.to (ok75x0 N) (T74x0_ok N)
def rg52x0 : List (Nat × List Nat) := [(0, [0]), (1, [1]), (2, [3, 1]), (3, [1, 3]), (4, [])]
def hd52x0 : Hints := []
def h52x0s0 (N : Nat) : Sg Try.prog 0 52 := .start hd52x0 rg52x0
def F52x0 (N : Nat) (v4 : LD) (k0 : Int → Option R) : Option R :=
 bif (decide ((v4.length : Int) > 0)) then
  bif (inB (IntKind.wrap .i64 ((v4.length : Int) - 1)) v4.length) then
   bnd ((v4.getD (IntKind.wrap .i64 ((v4.length : Int) - 1)).toNat (.i 0)) : D) fun y0 =>
   k0 (y0.cell 0).toI
  else
   none
 else
  k0 0
def G52x0 (v4 : LD) : Option (Int) := F52x0 N v4 (fun p => some p)
theorem bind52x0 (v4 : LD) (k0 : Int → Option R) : F52x0 N v4 k0 = (G52x0 N v4).bind k0 := by
 unfold G52x0 F52x0
 repeat' (first | with_reducible apply cond_b | (with_reducible apply bnd_b; intro _) | rfl)
def sh52x0 : Sh := { tmps := [(0, .g (.s :: [.i .i64, .i .i64, .sl 74, .sl 118, .sl 9]))], mem := [] }
def A52x0 (L : List Lf) : List (Bool × Res) := bnd (F52x0 N (ll L 4) (fun p => some p)) fun q => [(q.isSome, ([.c (.i .i64 (q.getD default))], []))]
theorem raw52x0 (L : List Lf) : bd Try.prog (T75x0 N) (h52x0s0 N).h 52 sh52x0 L = F52x0 N (ll L 4) (fun p => some ([.c (.i .i64 p)], [])) := by kernel_rfl
theorem ok52x0 : FnOk Try.prog 52 sh52x0 (A52x0 N) :=
 (h52x0s0 N).fn progOk (T75x0_ok N) fun L x hx => ((raw52x0 N L).trans ((bind52x0 N ..).trans (alt1 x hx)))
def T52x0 : Oracle := ext 52 (spSh sh52x0 (A52x0 N)) (T75x0 N)
theorem T52x0_ok : OracleOk Try.prog (T52x0 N) := FnOk.to (ok52x0 N) (T75x0_ok N)
def rg76x0 : List (Nat × List Nat) := [(0, [0]), (1, [0]), (2, [6, 5, 0]), (3, [6, 0, 5]), (4, [0, 3, 6, 5]), (5, []), (6, [6, 5, 0]), (7, [0])]
def hd76x0 : Hints := [(6, [0, 5, 6], [], [])]
def h76x0s0 (N : Nat) : Sg Try.prog 0 76 := .start hd76x0 rg76x0
def S76x0x6 (w0 : LB) (w1 : Int) (w2 : Int) (kr : Int → Option R) (k0 : Unit → Option R) (k1 : Unit → Option R) : Option R :=
 bif (decide (w2 < w1)) then
  bif (inB w2 w0.length) then
   bnd (V35x0 N (IntKind.wrap .i64 ((w0.getD w2.toNat 0).toNat : Int)) 32 126) fun y0 =>
   bif (!y0) then
    k0 ()
   else
    kr (IntKind.wrap .i64 (w2 + 1))
  else
   none
 else
  k1 ()
def L76x0x6 (N : Nat) {R : Type} (w0 : LB) (w1 : Int) : Nat → Int → (Unit → Option R) → (Unit → Option R) → Option R
 | 0, _, _, _ => none
 | m + 1, w2, k0, k1 => S76x0x6 N w0 w1 w2 (fun w2 => L76x0x6 N w0 w1 m w2 k0 k1) k0 k1
def G76x0x6 (w0 : LB) (w1 : Int) (w2 : Int) : Option (Sum (Unit) (Unit)) := L76x0x6 N (R := (Sum (Unit) (Unit))) w0 w1 N w2 (fun p => some (.inl p)) (fun p => some (.inr p))
def J76x0x6 (L x : List Lf) (kr : List Lf → Option R) (k0 : Unit → Option R) (k1 : Unit → Option R) : Option R := S76x0x6 N (ls L 0) (li L 1) (li x 0) (fun w2 => kr [.i w2]) k0 k1
theorem sb76x0x6 (L x : List Lf) (kr : List Lf → Option R) (k0 : Unit → Option R) (k1 : Unit → Option R) : J76x0x6 N L x kr k0 k1 = (J76x0x6 N L x (fun y => some (.inl y)) (fun p => some (.inr (.inl p))) (fun p => some (.inr (.inr p)))).bind (sumE kr (sumE k0 k1)) := by
 unfold J76x0x6 S76x0x6
 repeat' (first | with_reducible apply cond_b | (with_reducible apply bnd_b; intro _) | rfl)
def Q76x0x6 (L : List Lf) (m : Nat) (x : List Lf) : Option (Sum (Unit) (Unit)) := L76x0x6 N (R := (Sum (Unit) (Unit))) (ls L 0) (li L 1) m (li x 0) (fun p => some (.inl p)) (fun p => some (.inr p))
def sh76x0x6 : Sh := { tmps := [(0, .c (.s)), (5, .c (.i .i64)), (6, .c (.i .i64))], mem := [] }
def A76x0x6 (L : List Lf) : List (Bool × (Ex × St)) := bnd (Q76x0x6 N L N (pk sh76x0x6 [2] L)) fun q => [((inlB q), (.ret, ⟨[(2, .c (.b false))], []⟩)), ((inrQ q).isSome, ((.exit 0), ⟨[(0, .c (.s (ls L 0)))], []⟩))]
theorem step76x0x6 (m : Nat) (kn : St → Option (Ex × St)) (L x : List Lf) : lpB Try.prog (T52x0 N) (h76x0s0 N).h 0 76 6 sh76x0x6 [2] [0, 2] [] (m + 100) kn L x = J76x0x6 N L x (fun y => kn (ofSh sh76x0x6 (mx sh76x0x6 [2] L y))) (fun _ => some (.ret, ⟨[(2, .c (.b false))], []⟩)) (fun _ => some ((.exit 0), ⟨[(0, .c (.s (ls L 0)))], []⟩)) := by kernel_rfl
theorem ql76x0x6 (L : List Lf) (m : Nat) (x : List Lf) : Q76x0x6 N L (m + 1) x = J76x0x6 N L x (Q76x0x6 N L m) (fun p => some (.inl p)) (fun p => some (.inr p)) := by kernel_rfl
def h76x0s1 : Sg Try.prog 0 76 :=
 (h76x0s0 N).lp (A76x0x6 N) N progOk (T52x0_ok N) (fun m kn L x => (step76x0x6 N m kn L x).trans (sb76x0x6 N L x _ _ _)) (fun L m x => (ql76x0x6 N L m x).trans (sb76x0x6 N L x (Q76x0x6 N L m) (fun p => some (.inl p)) (fun p => some (.inr p)))) fun L x hx => (altS alt1) x hx
def F76x0 (v0 : LB) (k0 : Bool → Option R) : Option R :=
 bnd (G76x0x6 N v0 (v0.length : Int) 0) fun y0 =>
 bif (inlB y0) then
  k0 false
 else
  bif (inrQ y0).isSome then
   k0 (decide ((v0.length : Int) ≤ 60))
  else
   none
def G76x0 (v0 : LB) : Option (Bool) := F76x0 N v0 (fun p => some p)
theorem bind76x0 (v0 : LB) (k0 : Bool → Option R) : F76x0 N v0 k0 = (G76x0 N v0).bind k0 := by
 unfold G76x0 F76x0
 repeat' (first | with_reducible apply cond_b | (with_reducible apply bnd_b; intro _) | rfl)
def sh76x0 : Sh := { tmps := [(0, .c (.s))], mem := [] }
def A76x0 (L : List Lf) : List (Bool × Res) := bnd (F76x0 N (ls L 0) (fun p => some p)) fun q => [(q.isSome, ([.c (.b (q.getD default))], []))]
theorem raw76x0 (L : List Lf) : bd Try.prog (T52x0 N) (h76x0s1 N).h 76 sh76x0 L = F76x0 N (ls L 0) (fun p => some ([.c (.b p)], [])) := by kernel_rfl
theorem ok76x0 : FnOk Try.prog 76 sh76x0 (A76x0 N) :=
 (h76x0s1 N).fn progOk (T52x0_ok N) fun L x hx => ((raw76x0 N L).trans ((bind76x0 N ..).trans (alt1 x hx)))
def T76x0 : Oracle := ext 76 (spSh sh76x0 (A76x0 N)) (T52x0 N)
theorem T76x0_ok : OracleOk Try.prog (T76x0 N) := FnOk.to (ok76x0 N) (T52x0_ok N)
def rg51x0 : List (Nat × List Nat) := [(0, [0]), (1, [1]), (3, [1]), (5, [1]), (7, [1]), (8, []), (6, []), (4, []), (2, []), (9, [1]), (10, [45, 44, 43, 1]), (11, [45, 43, 1, 44]), (12, [3, 4, 1, 45, 44, 43]), (13, [3, 4, 1, 45, 44, 43]), (15, [4, 1, 45, 44, 43]), (16, []), (14, []), (17, [45, 44, 43, 1]), (18, [1]), (19, [1, 5]), (20, [95, 94, 93, 5, 1]), (21, [95, 93, 5, 1, 94]), (22, [7, 5, 6, 1, 95, 94, 93]), (24, [6, 7, 1, 95, 94, 93, 5]), (26, [7, 95, 94, 93, 5, 1]), (27, []), (25, []), (23, []), (28, [95, 94, 93, 5, 1]), (29, [1]), (30, [141, 140, 139, 1]), (31, [141, 139, 1, 140]), (32, [9, 8, 1, 141, 140, 139]), (34, [8, 9, 1, 141, 140, 139]), (35, []), (33, []), (36, [141, 140, 139, 1]), (37, [])]
def hd51x0 : Hints := [(30, [1, 43, 44, 45], [1], []), (40, [1, 3, 4, 43, 44, 45], [1, 4], []), (39002, [1, 3, 4, 43, 44, 45, 50], [1, 4], []), (46, [1, 4, 43, 44, 45], [1, 4], []), (60, [1, 5, 93, 94, 95], [1], []), (73, [1, 5, 6, 7, 93, 94, 95], [1, 7], []), (90, [1, 139, 140, 141], [1], [])]
def h51x0s0 (N : Nat) : Sg Try.prog 0 51 := .start hd51x0 rg51x0
def F51x0x40 (N : Nat) (w0 : Int) (w9 : LD) (w14 : Int) (k0 : Bool → Option R) : Option R :=
 bif (decide (w0 > 0)) then
  bif (inB (IntKind.wrap .i64 (w0 - 1)) w9.length) then
   bnd ((w9.getD (IntKind.wrap .i64 (w0 - 1)).toNat (.i 0)).cell 0).toI fun y0 =>
   k0 (decide (w14 ≤ y0))
  else
   none
 else
  k0 false
def G51x0x40 (w0 : Int) (w9 : LD) (w14 : Int) : Option (Bool) := F51x0x40 N w0 w9 w14 (fun p => some p)
theorem bind51x0x40 (w0 : Int) (w9 : LD) (w14 : Int) (k0 : Bool → Option R) : F51x0x40 N w0 w9 w14 k0 = (G51x0x40 N w0 w9 w14).bind k0 := by
 unfold G51x0x40 F51x0x40
 repeat' (first | with_reducible apply cond_b | (with_reducible apply bnd_b; intro _) | rfl)
def sh51x0x40 : Sh := { tmps := [(1, .c (.p 1 0)), (3, .c (.i .i64)), (4, .c (.p 4 0)), (43, .c (.sl 74)), (44, .c (.i .i64)), (45, .c (.i .i64))], mem := [(1, .box (.s :: [.i .i64, .i .i64, .sl 74, .sl 118, .sl 9])), (4, .box (rI 7 ([])))] }
def K51x0x40w0 (L : List Lf) (p : Bool) : Ex × St := (.normal, mg (ofSh sh51x0x40 L) [1, 4, 43, 44, 45, 50] [(50, .c (.b p))] [1, 4] [])
def A51x0x40 (L : List Lf) : List (Bool × (Ex × St)) := bnd (F51x0x40 N (li L 0) (ll L 9) (li L 14) (fun p => some p)) fun q => [(q.isSome, K51x0x40w0 L (q.getD default))]
theorem raw51x0x40 (L : List Lf) : pc Try.prog (T76x0 N) (h51x0s0 N).h 0 100 51 40 sh51x0x40 L [1, 4, 43, 44, 45, 50] [1, 4] = F51x0x40 N (li L 0) (ll L 9) (li L 14) (fun p => some (K51x0x40w0 L p)) := by kernel_rfl
def h51x0s1 : Sg Try.prog 0 51 :=
 (h51x0s0 N).cut (A51x0x40 N) progOk (T76x0_ok N) fun L x hx => (raw51x0x40 N L).trans ((bind51x0x40 N ..).trans (alt1 x hx))
def F51x0x39002 (w0 : Int) (w5 : Bool) (w10 : LD) (w15 : Int) (k0 : Bool → Option R) : Option R :=
 bif w5 then
  k0 true
 else
  bnd (G51x0x40 N w0 w10 w15) fun y0 =>
  bif y0.isSome then
   k0 (y0.getD default)
  else
   none
def G51x0x39002 (w0 : Int) (w5 : Bool) (w10 : LD) (w15 : Int) : Option (Bool) := F51x0x39002 N w0 w5 w10 w15 (fun p => some p)
theorem bind51x0x39002 (w0 : Int) (w5 : Bool) (w10 : LD) (w15 : Int) (k0 : Bool → Option R) : F51x0x39002 N w0 w5 w10 w15 k0 = (G51x0x39002 N w0 w5 w10 w15).bind k0 := by
 unfold G51x0x39002 F51x0x39002
 repeat' (first | with_reducible apply cond_b | (with_reducible apply bnd_b; intro _) | rfl)
def J51x0x39002 (L : List Lf) (k0 : Bool → Option R) : Option R := F51x0x39002 N (li L 0) (lb L 5) (ll L 10) (li L 15) k0
def sh51x0x39002 : Sh := { tmps := [(1, .c (.p 1 0)), (3, .c (.i .i64)), (4, .c (.p 4 0)), (43, .c (.sl 74)), (44, .c (.i .i64)), (45, .c (.i .i64)), (50, .c (.b))], mem := [(1, .box (.s :: [.i .i64, .i .i64, .sl 74, .sl 118, .sl 9])), (4, .box (rI 7 ([])))] }
def K51x0x39002w0 (L : List Lf) (p : Bool) : Ex × St := (.normal, mg (ofSh sh51x0x39002 L) [1, 4, 43, 44, 45, 50] [(50, .c (.b p))] [1, 4] [])
def A51x0x39002 (L : List Lf) : List (Bool × (Ex × St)) := bnd (J51x0x39002 N L (fun p => some p)) fun q => [(q.isSome, K51x0x39002w0 L (q.getD default))]
theorem raw51x0x39002 (L : List Lf) : pc Try.prog (T76x0 N) (h51x0s1 N).h 0 100 51 39002 sh51x0x39002 L [1, 4, 43, 44, 45, 50] [1, 4] = J51x0x39002 N L (fun p => some (K51x0x39002w0 L p)) := by kernel_rfl
def h51x0s2 : Sg Try.prog 0 51 :=
 (h51x0s1 N).cut (A51x0x39002 N) progOk (T76x0_ok N) fun L x hx => (raw51x0x39002 N L).trans ((bind51x0x39002 N ..).trans (alt1 x hx))
def F51x0x46 (w6 w13 w14 w15 w16 w17 w18 w19 : Int) (k0 : Bool → R) : R :=
 bnd (bif (decide (w13 > 1000000)) then true else (decide ((IntKind.wrap .i64 (w6 + w13)) > 86399999999))) fun y0 =>
 bif y0 then
  k0 true
 else
  bnd (V75x0 N w14 w15 w16 w17 w18 w19) fun y1 =>
  k0 (!y1)
def V51x0x46 (w6 w13 w14 w15 w16 w17 w18 w19 : Int) : Bool := F51x0x46 N w6 w13 w14 w15 w16 w17 w18 w19 (fun p => p)
theorem tot51x0x46 (w6 w13 w14 w15 w16 w17 w18 w19 : Int) (k0 : Bool → R) : F51x0x46 N w6 w13 w14 w15 w16 w17 w18 w19 k0 = k0 (V51x0x46 N w6 w13 w14 w15 w16 w17 w18 w19) := by
 unfold V51x0x46 F51x0x46
 repeat' (first | rfl | apply cond_k | (apply bnd_k; intro _))
def J51x0x46 (L : List Lf) (k0 : Bool → R) : R := F51x0x46 N (li L 6) (li L 13) (li L 14) (li L 15) (li L 16) (li L 17) (li L 18) (li L 19) k0
def sh51x0x46 : Sh := { tmps := [(1, .c (.p 1 0)), (4, .c (.p 4 0)), (43, .c (.sl 74)), (44, .c (.i .i64)), (45, .c (.i .i64))], mem := [(1, .box (.s :: [.i .i64, .i .i64, .sl 74, .sl 118, .sl 9])), (4, .box (rI 7 ([])))] }
def K51x0x46w0 (L : List Lf) (p : Bool) : Ex × St := (.normal, mg (ofSh sh51x0x46 L) [1, 43, 44, 45, 72] [(72, .c (.b p))] [1] [])
def A51x0x46 (L : List Lf) : List (Bool × (Ex × St)) := bnd (J51x0x46 N L (fun p => p)) fun q => [(true, K51x0x46w0 L q)]
theorem raw51x0x46 (L : List Lf) : pc Try.prog (T76x0 N) (h51x0s2 N).h 0 100 51 46 sh51x0x46 L [1, 43, 44, 45, 72] [1] = J51x0x46 N L (fun p => some (K51x0x46w0 L p)) := by kernel_rfl
def h51x0s3 : Sg Try.prog 0 51 :=
 (h51x0s2 N).cut (A51x0x46 N) progOk (T76x0_ok N) fun L x hx => (raw51x0x46 N L).trans ((tot51x0x46 N ..).trans (alt0 _ _ hx))
def S51x0x30 (w1 : LD) (w2 w6 : Int) (w8 : LD) (w3 : Int) (kr : Int → Option R) (k0 : Int → Option R) (k1 : Unit → Option R) : Option R :=
 bif (decide (w3 < w2)) then
  bif (inB w3 w1.length) then
   bnd (bif (w3 == 0) then (((w1.getD w3.toNat (.i 0)).cell 0).toI != 0) else false) fun y0 =>
   bnd (G51x0x39002 N w3 y0 w8 ((w1.getD w3.toNat (.i 0)).cell 0).toI) fun y1 =>
   bif y1.isSome then
    bif (y1.getD default) then
     k0 10
    else
     bnd (V51x0x46 N w6 ((w1.getD w3.toNat (.i 0)).cell 0).toI ((w1.getD w3.toNat (.i 0)).cell 1).toI ((w1.getD w3.toNat (.i 0)).cell 2).toI ((w1.getD w3.toNat (.i 0)).cell 3).toI ((w1.getD w3.toNat (.i 0)).cell 4).toI ((w1.getD w3.toNat (.i 0)).cell 5).toI ((w1.getD w3.toNat (.i 0)).cell 6).toI) fun y2 =>
     bif y2 then
      k0 9
     else
      kr (IntKind.wrap .i64 (w3 + 1))
   else
    none
  else
   none
 else
  k1 ()
def L51x0x30 (N : Nat) {R : Type} (w1 : LD) (w2 w6 : Int) (w8 : LD) : Nat → Int → (Int → Option R) → (Unit → Option R) → Option R
 | 0, _, _, _ => none
 | m + 1, w3, k0, k1 => S51x0x30 N w1 w2 w6 w8 w3 (fun w3 => L51x0x30 N w1 w2 w6 w8 m w3 k0 k1) k0 k1
def G51x0x30 (w1 : LD) (w2 w6 : Int) (w8 : LD) (w3 : Int) : Option (Sum (Int) (Unit)) := L51x0x30 N (R := (Sum (Int) (Unit))) w1 w2 w6 w8 N w3 (fun p => some (.inl p)) (fun p => some (.inr p))
def J51x0x30 (L x : List Lf) (kr : List Lf → Option R) (k0 : Int → Option R) (k1 : Unit → Option R) : Option R := S51x0x30 N (ll L 1) (li L 2) (li L 6) (ll L 8) (li x 0) (fun w3 => kr [.i w3]) k0 k1
theorem sb51x0x30 (L x : List Lf) (kr : List Lf → Option R) (k0 : Int → Option R) (k1 : Unit → Option R) : J51x0x30 N L x kr k0 k1 = (J51x0x30 N L x (fun y => some (.inl y)) (fun p => some (.inr (.inl p))) (fun p => some (.inr (.inr p)))).bind (sumE kr (sumE k0 k1)) := by
 unfold J51x0x30 S51x0x30
 repeat' (first | with_reducible apply cond_b | (with_reducible apply bnd_b; intro _) | rfl)
def Q51x0x30 (L : List Lf) (m : Nat) (x : List Lf) : Option (Sum (Int) (Unit)) := L51x0x30 N (R := (Sum (Int) (Unit))) (ll L 1) (li L 2) (li L 6) (ll L 8) m (li x 0) (fun p => some (.inl p)) (fun p => some (.inr p))
def sh51x0x30 : Sh := { tmps := [(1, .c (.p 1 0)), (43, .c (.sl 74)), (44, .c (.i .i64)), (45, .c (.i .i64))], mem := [(1, .box (.s :: [.i .i64, .i .i64, .sl 74, .sl 118, .sl 9]))] }
def K51x0x30w0 (L : List Lf) (p : Int) : Ex × St := (.ret, mg (ofSh sh51x0x30 L) [2] [(2, .c (.i .i64 p))] [1] [])
def A51x0x30 (L : List Lf) : List (Bool × (Ex × St)) := bnd (Q51x0x30 N L N (pk sh51x0x30 [3] L)) fun q => [((inlB q), K51x0x30w0 L (inlV q)), ((inrQ q).isSome, ((.exit 1), mg (ofSh sh51x0x30 L) [1] [] [1] []))]
theorem step51x0x30 (m : Nat) (kn : St → Option (Ex × St)) (L x : List Lf) : lpB Try.prog (T76x0 N) (h51x0s3 N).h 0 51 30 sh51x0x30 [3] [1, 2] [1] (m + 100) kn L x = J51x0x30 N L x (fun y => kn (ofSh sh51x0x30 (mx sh51x0x30 [3] L y))) (fun p => some (K51x0x30w0 L p)) (fun _ => some ((.exit 1), mg (ofSh sh51x0x30 L) [1] [] [1] [])) := by kernel_rfl
theorem ql51x0x30 (L : List Lf) (m : Nat) (x : List Lf) : Q51x0x30 N L (m + 1) x = J51x0x30 N L x (Q51x0x30 N L m) (fun p => some (.inl p)) (fun p => some (.inr p)) := by kernel_rfl
def h51x0s4 : Sg Try.prog 0 51 :=
 (h51x0s3 N).lp (A51x0x30 N) N progOk (T76x0_ok N) (fun m kn L x => (step51x0x30 N m kn L x).trans (sb51x0x30 N L x _ _ _)) (fun L m x => (ql51x0x30 N L m x).trans (sb51x0x30 N L x (Q51x0x30 N L m) (fun p => some (.inl p)) (fun p => some (.inr p)))) fun L x hx => (altS alt1) x hx
def F51x0x73 (N : Nat) (w1 : Int) (w12 : LD) (w15 : Int) (k0 : Bool → Option R) : Option R :=
 bif (decide (w1 > 0)) then
  bif (inB (IntKind.wrap .i64 (w1 - 1)) w12.length) then
   bnd ((w12.getD (IntKind.wrap .i64 (w1 - 1)).toNat (.i 0)).cell 1).toI fun y0 =>
   k0 (decide (w15 < y0))
  else
   none
 else
  k0 false
def G51x0x73 (w1 : Int) (w12 : LD) (w15 : Int) : Option (Bool) := F51x0x73 N w1 w12 w15 (fun p => some p)
theorem bind51x0x73 (w1 : Int) (w12 : LD) (w15 : Int) (k0 : Bool → Option R) : F51x0x73 N w1 w12 w15 k0 = (G51x0x73 N w1 w12 w15).bind k0 := by
 unfold G51x0x73 F51x0x73
 repeat' (first | with_reducible apply cond_b | (with_reducible apply bnd_b; intro _) | rfl)
def sh51x0x73 : Sh := { tmps := [(1, .c (.p 1 0)), (5, .c (.i .i64)), (6, .c (.i .i64)), (7, .c (.p 7 0)), (93, .c (.sl 118)), (94, .c (.i .i64)), (95, .c (.i .i64))], mem := [(1, .box (.s :: [.i .i64, .i .i64, .sl 74, .sl 118, .sl 9])), (7, .box ([.i .i64, .i .i64, .s]))] }
def K51x0x73w0 (L : List Lf) (p : Bool) : Ex × St := (.normal, mg (ofSh sh51x0x73 L) [1, 5, 7, 93, 94, 95, 117] [(117, .c (.b p))] [1, 7] [])
def A51x0x73 (L : List Lf) : List (Bool × (Ex × St)) := bnd (F51x0x73 N (li L 1) (ll L 12) (li L 15) (fun p => some p)) fun q => [(q.isSome, K51x0x73w0 L (q.getD default))]
theorem raw51x0x73 (L : List Lf) : pc Try.prog (T76x0 N) (h51x0s4 N).h 0 100 51 73 sh51x0x73 L [1, 5, 7, 93, 94, 95, 117] [1, 7] = F51x0x73 N (li L 1) (ll L 12) (li L 15) (fun p => some (K51x0x73w0 L p)) := by kernel_rfl
def h51x0s5 : Sg Try.prog 0 51 :=
 (h51x0s4 N).cut (A51x0x73 N) progOk (T76x0_ok N) fun L x hx => (raw51x0x73 N L).trans ((bind51x0x73 N ..).trans (alt1 x hx))
def S51x0x60 (w0 : Int) (w2 : LD) (w3 : Int) (w11 : LD) (w4 : Int) (kr : Int → Option R) (k0 : Int → Option R) (k1 : Unit → Option R) : Option R :=
 bif (decide (w4 < w3)) then
  bif (inB w4 w2.length) then
   bnd (bif (decide (((w2.getD w4.toNat (.i 0)).cell 0).toI < 0)) then true else (decide (((w2.getD w4.toNat (.i 0)).cell 0).toI ≥ ((w2.getD w4.toNat (.i 0)).cell 1).toI))) fun y0 =>
   bnd (bif y0 then true else (decide (((w2.getD w4.toNat (.i 0)).cell 1).toI > w0))) fun y1 =>
   bif y1 then
    k0 9
   else
    bnd (G51x0x73 N w4 w11 ((w2.getD w4.toNat (.i 0)).cell 0).toI) fun y2 =>
    bif y2.isSome then
     bif (y2.getD default) then
      k0 10
     else
      bnd (G76x0 N ((w2.getD w4.toNat (.i 0)).cell 2).toS) fun y3 =>
      bif y3.isSome then
       bif (!(y3.getD default)) then
        k0 8
       else
        kr (IntKind.wrap .i64 (w4 + 1))
      else
       none
    else
     none
  else
   none
 else
  k1 ()
def L51x0x60 (N : Nat) {R : Type} (w0 : Int) (w2 : LD) (w3 : Int) (w11 : LD) : Nat → Int → (Int → Option R) → (Unit → Option R) → Option R
 | 0, _, _, _ => none
 | m + 1, w4, k0, k1 => S51x0x60 N w0 w2 w3 w11 w4 (fun w4 => L51x0x60 N w0 w2 w3 w11 m w4 k0 k1) k0 k1
def G51x0x60 (w0 : Int) (w2 : LD) (w3 : Int) (w11 : LD) (w4 : Int) : Option (Sum (Int) (Unit)) := L51x0x60 N (R := (Sum (Int) (Unit))) w0 w2 w3 w11 N w4 (fun p => some (.inl p)) (fun p => some (.inr p))
def J51x0x60 (L x : List Lf) (kr : List Lf → Option R) (k0 : Int → Option R) (k1 : Unit → Option R) : Option R := S51x0x60 N (li L 0) (ll L 2) (li L 3) (ll L 11) (li x 0) (fun w4 => kr [.i w4]) k0 k1
theorem sb51x0x60 (L x : List Lf) (kr : List Lf → Option R) (k0 : Int → Option R) (k1 : Unit → Option R) : J51x0x60 N L x kr k0 k1 = (J51x0x60 N L x (fun y => some (.inl y)) (fun p => some (.inr (.inl p))) (fun p => some (.inr (.inr p)))).bind (sumE kr (sumE k0 k1)) := by
 unfold J51x0x60 S51x0x60
 repeat' (first | with_reducible apply cond_b | (with_reducible apply bnd_b; intro _) | rfl)
def Q51x0x60 (L : List Lf) (m : Nat) (x : List Lf) : Option (Sum (Int) (Unit)) := L51x0x60 N (R := (Sum (Int) (Unit))) (li L 0) (ll L 2) (li L 3) (ll L 11) m (li x 0) (fun p => some (.inl p)) (fun p => some (.inr p))
def sh51x0x60 : Sh := { tmps := [(1, .c (.p 1 0)), (5, .c (.i .i64)), (93, .c (.sl 118)), (94, .c (.i .i64)), (95, .c (.i .i64))], mem := [(1, .box (.s :: [.i .i64, .i .i64, .sl 74, .sl 118, .sl 9]))] }
def K51x0x60w0 (L : List Lf) (p : Int) : Ex × St := (.ret, mg (ofSh sh51x0x60 L) [2] [(2, .c (.i .i64 p))] [1] [])
def A51x0x60 (L : List Lf) : List (Bool × (Ex × St)) := bnd (Q51x0x60 N L N (pk sh51x0x60 [4] L)) fun q => [((inlB q), K51x0x60w0 L (inlV q)), ((inrQ q).isSome, ((.exit 4), mg (ofSh sh51x0x60 L) [1] [] [1] []))]
theorem step51x0x60 (m : Nat) (kn : St → Option (Ex × St)) (L x : List Lf) : lpB Try.prog (T76x0 N) (h51x0s5 N).h 0 51 60 sh51x0x60 [4] [1, 2] [1] (m + 100) kn L x = J51x0x60 N L x (fun y => kn (ofSh sh51x0x60 (mx sh51x0x60 [4] L y))) (fun p => some (K51x0x60w0 L p)) (fun _ => some ((.exit 4), mg (ofSh sh51x0x60 L) [1] [] [1] [])) := by kernel_rfl
theorem ql51x0x60 (L : List Lf) (m : Nat) (x : List Lf) : Q51x0x60 N L (m + 1) x = J51x0x60 N L x (Q51x0x60 N L m) (fun p => some (.inl p)) (fun p => some (.inr p)) := by kernel_rfl
def h51x0s6 : Sg Try.prog 0 51 :=
 (h51x0s5 N).lp (A51x0x60 N) N progOk (T76x0_ok N) (fun m kn L x => (step51x0x60 N m kn L x).trans (sb51x0x60 N L x _ _ _)) (fun L m x => (ql51x0x60 N L m x).trans (sb51x0x60 N L x (Q51x0x60 N L m) (fun p => some (.inl p)) (fun p => some (.inr p)))) fun L x hx => (altS alt1) x hx
def S51x0x90 (w1 : LD) (w2 : Int) (w12 : LD) (w3 : Int) (kr : Int → Option R) (k0 : Int → Option R) (k1 : Unit → Option R) : Option R :=
 bif (decide (w3 < w2)) then
  bif (inB w3 w1.length) then
   bnd (G74x0 N (w1.getD w3.toNat (.i 0)).toS) fun y0 =>
   bif y0.isSome then
    bif (!(y0.getD default)) then
     k0 8
    else
     bif (bif (inB (IntKind.wrap .i64 (w3 - 1)) w12.length) then true else (!((decide (w3 > 0)) == true))) then
      bnd (bif (decide (w3 > 0)) then ((Op.bytesLess (w1.getD w3.toNat (.i 0)).toS (w12.getD (IntKind.wrap .i64 (w3 - 1)).toNat (.i 0)).toS) || ((w1.getD w3.toNat (.i 0)).toS == (w12.getD (IntKind.wrap .i64 (w3 - 1)).toNat (.i 0)).toS)) else false) fun y1 =>
      bif y1 then
       k0 10
      else
       kr (IntKind.wrap .i64 (w3 + 1))
     else
      none
   else
    none
  else
   none
 else
  k1 ()
def L51x0x90 (N : Nat) {R : Type} (w1 : LD) (w2 : Int) (w12 : LD) : Nat → Int → (Int → Option R) → (Unit → Option R) → Option R
 | 0, _, _, _ => none
 | m + 1, w3, k0, k1 => S51x0x90 N w1 w2 w12 w3 (fun w3 => L51x0x90 N w1 w2 w12 m w3 k0 k1) k0 k1
def G51x0x90 (w1 : LD) (w2 : Int) (w12 : LD) (w3 : Int) : Option (Sum (Int) (Unit)) := L51x0x90 N (R := (Sum (Int) (Unit))) w1 w2 w12 N w3 (fun p => some (.inl p)) (fun p => some (.inr p))
def J51x0x90 (L x : List Lf) (kr : List Lf → Option R) (k0 : Int → Option R) (k1 : Unit → Option R) : Option R := S51x0x90 N (ll L 1) (li L 2) (ll L 12) (li x 0) (fun w3 => kr [.i w3]) k0 k1
theorem sb51x0x90 (L x : List Lf) (kr : List Lf → Option R) (k0 : Int → Option R) (k1 : Unit → Option R) : J51x0x90 N L x kr k0 k1 = (J51x0x90 N L x (fun y => some (.inl y)) (fun p => some (.inr (.inl p))) (fun p => some (.inr (.inr p)))).bind (sumE kr (sumE k0 k1)) := by
 unfold J51x0x90 S51x0x90
 repeat' (first | with_reducible apply cond_b | (with_reducible apply bnd_b; intro _) | rfl)
def Q51x0x90 (L : List Lf) (m : Nat) (x : List Lf) : Option (Sum (Int) (Unit)) := L51x0x90 N (R := (Sum (Int) (Unit))) (ll L 1) (li L 2) (ll L 12) m (li x 0) (fun p => some (.inl p)) (fun p => some (.inr p))
def sh51x0x90 : Sh := { tmps := [(1, .c (.p 1 0)), (139, .c (.sl 9)), (140, .c (.i .i64)), (141, .c (.i .i64))], mem := [(1, .box (.s :: [.i .i64, .i .i64, .sl 74, .sl 118, .sl 9]))] }
def A51x0x90 (L : List Lf) : List (Bool × (Ex × St)) := bnd (Q51x0x90 N L N (pk sh51x0x90 [3] L)) fun q => [((inlB q), (.ret, ⟨[(2, .c (.i .i64 (inlV q)))], []⟩)), ((inrQ q).isSome, ((.exit 7), ⟨[], []⟩))]
theorem step51x0x90 (m : Nat) (kn : St → Option (Ex × St)) (L x : List Lf) : lpB Try.prog (T76x0 N) (h51x0s6 N).h 0 51 90 sh51x0x90 [3] [2] [] (m + 100) kn L x = J51x0x90 N L x (fun y => kn (ofSh sh51x0x90 (mx sh51x0x90 [3] L y))) (fun p => some (.ret, ⟨[(2, .c (.i .i64 p))], []⟩)) (fun _ => some ((.exit 7), ⟨[], []⟩)) := by kernel_rfl
theorem ql51x0x90 (L : List Lf) (m : Nat) (x : List Lf) : Q51x0x90 N L (m + 1) x = J51x0x90 N L x (Q51x0x90 N L m) (fun p => some (.inl p)) (fun p => some (.inr p)) := by kernel_rfl
def h51x0s7 : Sg Try.prog 0 51 :=
 (h51x0s6 N).lp (A51x0x90 N) N progOk (T76x0_ok N) (fun m kn L x => (step51x0x90 N m kn L x).trans (sb51x0x90 N L x _ _ _)) (fun L m x => (ql51x0x90 N L m x).trans (sb51x0x90 N L x (Q51x0x90 N L m) (fun p => some (.inl p)) (fun p => some (.inr p)))) fun L x hx => (altS alt1) x hx
def F51x0 (v0 : LB) (v1 v2 : Int) (v4 v6 v8 : LD) (k0 : Int → Option R) : Option R :=
 bnd (G74x0 N v0) fun y0 =>
 bif y0.isSome then
  bif (!(y0.getD default)) then
   k0 8
  else
   bnd (V35x0 N v1 1 5) fun y1 =>
   bif (!y1) then
    k0 7
   else
    bnd (V35x0 N v2 0 86399999999) fun y2 =>
    bif (!y2) then
     k0 9
    else
     bnd (bif (decide ((v4.length : Int) > 20000)) then true else (decide ((v6.length : Int) > 200))) fun y3 =>
     bnd (bif y3 then true else (decide ((v8.length : Int) > 20))) fun y4 =>
     bif y4 then
      k0 3
     else
      bnd (G51x0x30 N v4 (v4.length : Int) v2 v4 0) fun y5 =>
      bif (inlB y5) then
       k0 (inlV y5)
      else
       bif (inrQ y5).isSome then
        bnd (G52x0 N v4) fun y6 =>
        bif y6.isSome then
         bnd (G51x0x60 N (y6.getD default) v6 (v6.length : Int) v6 0) fun y7 =>
         bif (inlB y7) then
          k0 (inlV y7)
         else
          bif (inrQ y7).isSome then
           bnd (G51x0x90 N v8 (v8.length : Int) v8 0) fun y8 =>
           bif (inlB y8) then
            k0 (inlV y8)
           else
            bif (inrQ y8).isSome then
             k0 0
            else
             none
          else
           none
        else
         none
       else
        none
 else
  none
def G51x0 (v0 : LB) (v1 v2 : Int) (v4 v6 v8 : LD) : Option (Int) := F51x0 N v0 v1 v2 v4 v6 v8 (fun p => some p)
theorem bind51x0 (v0 : LB) (v1 v2 : Int) (v4 v6 v8 : LD) (k0 : Int → Option R) : F51x0 N v0 v1 v2 v4 v6 v8 k0 = (G51x0 N v0 v1 v2 v4 v6 v8).bind k0 := by
 unfold G51x0 F51x0
 repeat' (first | with_reducible apply cond_b | (with_reducible apply bnd_b; intro _) | rfl)
def J51x0 (L : List Lf) (k0 : Int → Option R) : Option R := F51x0 N (ls L 0) (li L 1) (li L 2) (ll L 4) (ll L 6) (ll L 8) k0
def sh51x0 : Sh := { tmps := [(0, .g (.s :: [.i .i64, .i .i64, .sl 74, .sl 118, .sl 9]))], mem := [] }
def A51x0 (L : List Lf) : List (Bool × Res) := bnd (J51x0 N L (fun p => some p)) fun q => [(q.isSome, ([.c (.i .i64 (q.getD default))], []))]
theorem raw51x0 (L : List Lf) : bd Try.prog (T76x0 N) (h51x0s7 N).h 51 sh51x0 L = J51x0 N L (fun p => some ([.c (.i .i64 p)], [])) := by kernel_rfl
theorem ok51x0 : FnOk Try.prog 51 sh51x0 (A51x0 N) :=
 (h51x0s7 N).fn progOk (T76x0_ok N) fun L x hx => ((raw51x0 N L).trans ((bind51x0 N ..).trans (alt1 x hx)))
def T51x0 : Oracle := ext 51 (spSh sh51x0 (A51x0 N)) (T76x0 N)
theorem T51x0_ok : OracleOk Try.prog (T51x0 N) := FnOk.to (ok51x0 N) (T76x0_ok N)
def rg53x0 : List (Nat × List Nat) := [(0, [0]), (1, [0, 2])]
def hd53x0 : Hints := []
def h53x0s0 (N : Nat) : Sg Try.prog 0 53 := .start hd53x0 rg53x0
def F53x0 (N : Nat) (k0 : Unit → R) : R :=
 k0 ()
def V53x0 : Unit := F53x0 N (fun p => p)
theorem tot53x0 (k0 : Unit → R) : F53x0 N k0 = k0 (V53x0 N) := by
 unfold V53x0 F53x0
 repeat' (first | rfl | apply cond_k | (apply bnd_k; intro _))
def sh53x0 : Sh := { tmps := [(0, .c (.i .i64))], mem := [] }
def A53x0 (N : Nat) (L : List Lf) : List (Bool × Res) := [(true, ([.g [.i .i64 (li L 0), .i .i64 60, .i .i64 2]], []))]
theorem raw53x0 (L : List Lf) : bd Try.prog (T51x0 N) (h53x0s0 N).h 53 sh53x0 L = F53x0 N (fun _ => some ([.g [.i .i64 (li L 0), .i .i64 60, .i .i64 2]], [])) := by kernel_rfl
theorem ok53x0 : FnOk Try.prog 53 sh53x0 (A53x0 N) :=
 (h53x0s0 N).fn progOk (T51x0_ok N) fun L x hx => ((raw53x0 N L).trans ((tot53x0 N ..).trans (alt0 _ _ hx)))
def T53x0 : Oracle := ext 53 (spSh sh53x0 (A53x0 N)) (T51x0 N)
theorem T53x0_ok : OracleOk Try.prog (T53x0 N) := FnOk.to (ok53x0 N) (T51x0_ok N)
def rg54x0 : List (Nat × List Nat) := [(0, [0, 1, 2, 3])]
def hd54x0 : Hints := []
def h54x0s0 (N : Nat) : Sg Try.prog 1 54 := .start hd54x0 rg54x0
def F54x0 (N : Nat) (v0 v1 : Int) (v2 : Bool) (v3 : LD) (v6 : Bool) (k0 : LD → R) : R :=
 k0 [(.a [(.i 1), (.i v0), (.i 0), (.l false [(.a [(.b v6), (.i v1), (.l v2 v3)])]), (.l true [])])]
def V54x0 (v0 v1 : Int) (v2 : Bool) (v3 : LD) (v6 : Bool) : LD := F54x0 N v0 v1 v2 v3 v6 (fun p => p)
theorem tot54x0 (v0 v1 : Int) (v2 : Bool) (v3 : LD) (v6 : Bool) (k0 : LD → R) : F54x0 N v0 v1 v2 v3 v6 k0 = k0 (V54x0 N v0 v1 v2 v3 v6) := by
 unfold V54x0 F54x0
 repeat' (first | rfl | apply cond_k | (apply bnd_k; intro _))
def J54x0 (L : List Lf) (k0 : LD → R) : R := F54x0 N (li L 0) (li L 1) (lb L 2) (ll L 3) (lb L 6) k0
def sh54x0 : Sh := { tmps := [(0, .c (.p 0 0)), (1, .c (.i .i64)), (2, .c (.i .i64)), (3, .c (.sl 61))], mem := [(0, .box ([.nsl 41, .b]))] }
def K54x0w0 (L : List Lf) (p : LD) : Res := ([], [(0, .box [.o 26, .b (lb L 6)]), (26, .row 41 true false p)])
def A54x0 (L : List Lf) : List (Bool × Res) := bnd (J54x0 N L (fun p => p)) fun q => [(true, K54x0w0 L q)]
theorem raw54x0 (L : List Lf) : bd Try.prog (T53x0 N) (h54x0s0 N).h 54 sh54x0 L = J54x0 N L (fun p => some (K54x0w0 L p)) := by kernel_rfl
theorem ok54x0 : FnOk Try.prog 54 sh54x0 (A54x0 N) :=
 (h54x0s0 N).fn progOk (T53x0_ok N) fun L x hx => ((raw54x0 N L).trans ((tot54x0 N ..).trans (alt0 _ _ hx)))
def T54x0 : Oracle := ext 54 (spSh sh54x0 (A54x0 N)) (T53x0 N)
theorem T54x0_ok : OracleOk Try.prog (T54x0 N) := FnOk.to (ok54x0 N) (T53x0_ok N)
def rg56x0 : List (Nat × List Nat) := [(0, [1, 3, 2, 0]), (1, [1, 3, 2, 0]), (2, [2, 0]), (3, [1, 2, 0])]
def hd56x0 : Hints := [(8, [0, 1, 2, 14], [0, 1], [])]
def h56x0s0 (N : Nat) : Sg Try.prog 2 56 := .start hd56x0 rg56x0
def F56x0x8 (w0 w1 : Int) (w2 : Bool) (k0 : Int → Option R) : Option R :=
 bif w2 then
  bnd (G41x0 N w1 false) fun y0 =>
  bif y0.isSome then
   k0 (y0.getD default)
  else
   none
 else
  k0 w0
def G56x0x8 (w0 w1 : Int) (w2 : Bool) : Option (Int) := F56x0x8 N w0 w1 w2 (fun p => some p)
theorem bind56x0x8 (w0 w1 : Int) (w2 : Bool) (k0 : Int → Option R) : F56x0x8 N w0 w1 w2 k0 = (G56x0x8 N w0 w1 w2).bind k0 := by
 unfold G56x0x8 F56x0x8
 repeat' (first | with_reducible apply cond_b | (with_reducible apply bnd_b; intro _) | rfl)
def sh56x0x8 : Sh := { tmps := [(0, .c (.p 0 0)), (1, .c (.i .i64)), (2, .c (.i .i64)), (14, .c (.b))], mem := [(0, .box ([.o 1, .b])), (1, .row 41 true)] }
def K56x0x8w0 (L : List Lf) (p : Int) : Ex × St := (.normal, mg (ofSh sh56x0x8 L) [0, 1, 2] [(1, .c (.i .i64 p))] [0, 1] [])
def A56x0x8 (L : List Lf) : List (Bool × (Ex × St)) := bnd (F56x0x8 N (li L 0) (li L 1) (lb L 2) (fun p => some p)) fun q => [(q.isSome, K56x0x8w0 L (q.getD default))]
theorem raw56x0x8 (L : List Lf) : pc Try.prog (T54x0 N) (h56x0s0 N).h 2 100 56 8 sh56x0x8 L [0, 1, 2] [0, 1] = F56x0x8 N (li L 0) (li L 1) (lb L 2) (fun p => some (K56x0x8w0 L p)) := by kernel_rfl
def h56x0s1 : Sg Try.prog 2 56 :=
 (h56x0s0 N).cut (A56x0x8 N) progOk (T54x0_ok N) fun L x hx => (raw56x0x8 N L).trans ((bind56x0x8 N ..).trans (alt1 x hx))
def F56x0 (v0 v1 : Int) (v2 v3 : Bool) (k0 : LD → Option R) : Option R :=
 bnd (G56x0x8 N v0 v1 (bif (decide (v0 < 0)) then (!v2) else false)) fun y0 =>
 bif y0.isSome then
  bnd (G42x0 N (y0.getD default) v1 v3) fun y1 =>
  bif y1.isSome then
   k0 (y1.getD default)
  else
   none
 else
  none
def G56x0 (v0 v1 : Int) (v2 v3 : Bool) : Option (LD) := F56x0 N v0 v1 v2 v3 (fun p => some p)
theorem bind56x0 (v0 v1 : Int) (v2 v3 : Bool) (k0 : LD → Option R) : F56x0 N v0 v1 v2 v3 k0 = (G56x0 N v0 v1 v2 v3).bind k0 := by
 unfold G56x0 F56x0
 repeat' (first | with_reducible apply cond_b | (with_reducible apply bnd_b; intro _) | rfl)
def J56x0 (L : List Lf) (k0 : LD → Option R) : Option R := F56x0 N (li L 0) (li L 1) (lb L 2) (lb L 3) k0
def sh56x0 : Sh := { tmps := [(0, .c (.p 0 0)), (1, .c (.i .i64)), (2, .c (.i .i64)), (3, .c (.b))], mem := [(0, .box ([.o 1, .b])), (1, .row 41 true)] }
def A56x0 (L : List Lf) : List (Bool × Res) := bnd (J56x0 N L (fun p => some p)) fun q => [(q.isSome, ([.c (.sl 5 false (q.getD default))], mgA (ofSh sh56x0 L).mem [] [0, 1]))]
theorem raw56x0 (L : List Lf) : bd Try.prog (T54x0 N) (h56x0s1 N).h 56 sh56x0 L = J56x0 N L (fun p => some ([.c (.sl 5 false p)], mgA (ofSh sh56x0 L).mem [] [0, 1])) := by kernel_rfl
theorem ok56x0 : FnOk Try.prog 56 sh56x0 (A56x0 N) :=
 (h56x0s1 N).fn progOk (T54x0_ok N) fun L x hx => ((raw56x0 N L).trans ((bind56x0 N ..).trans (alt1 x hx)))
def T56x0 : Oracle := ext 56 (spSh sh56x0 (A56x0 N)) (T54x0 N)
theorem T56x0_ok : OracleOk Try.prog (T56x0 N) := FnOk.to (ok56x0 N) (T54x0_ok N)
def rg57x0 : List (Nat × List Nat) := [(0, [0]), (1, [0]), (2, [3, 0]), (3, [3])]
def hd57x0 : Hints := []
def h57x0s0 (N : Nat) : Sg Try.prog 0 57 := .start hd57x0 rg57x0
def F57x0 (N : Nat) (v0 : LB) (k0 : LD → R) : R :=
 bnd (((bytesD v0).take 60 ++ [(.i 0), (.i 0), (.i 0), (.i 0), (.i 0), (.i 0), (.i 0), (.i 0), (.i 0), (.i 0), (.i 0), (.i 0), (.i 0), (.i 0), (.i 0), (.i 0), (.i 0), (.i 0), (.i 0), (.i 0), (.i 0), (.i 0), (.i 0), (.i 0), (.i 0), (.i 0), (.i 0), (.i 0), (.i 0), (.i 0), (.i 0), (.i 0), (.i 0), (.i 0), (.i 0), (.i 0), (.i 0), (.i 0), (.i 0), (.i 0), (.i 0), (.i 0), (.i 0), (.i 0), (.i 0), (.i 0), (.i 0), (.i 0), (.i 0), (.i 0), (.i 0), (.i 0), (.i 0), (.i 0), (.i 0), (.i 0), (.i 0), (.i 0), (.i 0), (.i 0)].drop (bytesD v0).length) : List D) fun y0 =>
 k0 y0
def V57x0 (v0 : LB) : LD := F57x0 N v0 (fun p => p)
theorem tot57x0 (v0 : LB) (k0 : LD → R) : F57x0 N v0 k0 = k0 (V57x0 N v0) := by
 unfold V57x0 F57x0
 repeat' (first | rfl | apply cond_k | (apply bnd_k; intro _))
def sh57x0 : Sh := { tmps := [(0, .c (.s))], mem := [] }
def A57x0 (L : List Lf) : List (Bool × Res) := bnd (F57x0 N (ls L 0) (fun p => p)) fun q => [(true, ([.c (.sl 5 false q)], []))]
theorem raw57x0 (L : List Lf) : bd Try.prog (T56x0 N) (h57x0s0 N).h 57 sh57x0 L = F57x0 N (ls L 0) (fun p => some ([.c (.sl 5 false p)], [])) := by kernel_rfl
theorem ok57x0 : FnOk Try.prog 57 sh57x0 (A57x0 N) :=
 (h57x0s0 N).fn progOk (T56x0_ok N) fun L x hx => ((raw57x0 N L).trans ((tot57x0 N ..).trans (alt0 _ _ hx)))
def T57x0 : Oracle := ext 57 (spSh sh57x0 (A57x0 N)) (T56x0 N)
theorem T57x0_ok : OracleOk Try.prog (T57x0 N) := FnOk.to (ok57x0 N) (T56x0_ok N)
def rg55x0 : List (Nat × List Nat) := [(0, [1, 2, 0]), (1, [2, 6, 0]), (2, [13, 12, 11, 6, 0]), (3, [11, 13, 6, 12, 0]), (4, [6, 8, 13, 12, 11, 0]), (5, [13, 12, 11, 6, 0]), (6, [0, 6])]
def hd55x0 : Hints := [(6, [0, 6, 11, 12, 13], [0, 1, 8, 50008006], [50008004])]
def h55x0s0 (N : Nat) : Sg Try.prog 2 55 := .start hd55x0 rg55x0
def S55x0x6 (N : Nat) (w1 : LD) (w2 : Int) (w3 : Int) (w12 : Bool) (w13 : LD) (kr : Int → Bool → LD → Option R) (k0 : Bool × LD → Option R) : Option R :=
 bif (decide (w3 < w2)) then
  bif (inB w3 w1.length) then
   bif (decide ((w13.length + (w1.getD w3.toNat (.i 0)).items.length) * 1 ≤ room) && decide ((w13.length + (w1.getD w3.toNat (.i 0)).items.length) ≤ strMax)) then
    kr (IntKind.wrap .i64 (w3 + 1)) ((w1.getD w3.toNat (.i 0)).items.isEmpty && w12) (w13 ++ (w1.getD w3.toNat (.i 0)).items)
   else
    none
  else
   none
 else
  k0 (w12, w13)
def L55x0x6 (N : Nat) {R : Type} (w1 : LD) (w2 : Int) : Nat → Int → Bool → LD → (Bool × LD → Option R) → Option R
 | 0, _, _, _, _ => none
 | m + 1, w3, w12, w13, k0 => S55x0x6 N w1 w2 w3 w12 w13 (fun w3 w12 w13 => L55x0x6 N w1 w2 m w3 w12 w13 k0) k0
def G55x0x6 (w1 : LD) (w2 : Int) (w3 : Int) (w12 : Bool) (w13 : LD) : Option (Bool × LD) := L55x0x6 N (R := (Bool × LD)) w1 w2 N w3 w12 w13 (fun p => some p)
def J55x0x6 (L x : List Lf) (kr : List Lf → Option R) (k0 : Bool × LD → Option R) : Option R := S55x0x6 N (ll L 1) (li L 2) (li x 0) (lb x 1) (ll x 2) (fun w3 w12 w13 => kr [.i w3, .b w12, .l w13]) k0
theorem sb55x0x6 (L x : List Lf) (kr : List Lf → Option R) (k0 : Bool × LD → Option R) : J55x0x6 N L x kr k0 = (J55x0x6 N L x (fun y => some (.inl y)) (fun p => some (.inr p))).bind (sumE kr k0) := by
 unfold J55x0x6 S55x0x6
 repeat' (first | with_reducible apply cond_b | (with_reducible apply bnd_b; intro _) | rfl)
def Q55x0x6 (L : List Lf) (m : Nat) (x : List Lf) : Option (Bool × LD) := L55x0x6 N (R := (Bool × LD)) (ll L 1) (li L 2) m (li x 0) (lb x 1) (ll x 2) (fun p => some p)
def sh55x0x6 : Sh := { tmps := [(0, .c (.p 0 0)), (6, .c (.p 8 0)), (11, .c (.sl 39)), (12, .c (.i .i64)), (13, .c (.i .i64))], mem := [(0, .box ([.o 1, .b])), (1, .row 41 true), (8, .box ([.i .i64, .i .i64, .i .i64, .sl 44, .o 50008006])), (50008006, .row 5 true)] }
def K55x0x6w0 (L : List Lf) (p : Bool × LD) : Ex × St := ((.exit 0), mg (ofSh sh55x0x6 L) [0, 6] [] [0, 1, 8, 50008006] [(50008006, .row 5 true p.1 p.2)])
def A55x0x6 (L : List Lf) : List (Bool × (Ex × St)) := bnd (Q55x0x6 N L N (pk sh55x0x6 [3, 12, 13] L)) fun q => [(q.isSome, K55x0x6w0 L (q.getD default))]
theorem step55x0x6 (m : Nat) (kn : St → Option (Ex × St)) (L x : List Lf) : lpB Try.prog (T57x0 N) (h55x0s0 N).h 2 55 6 sh55x0x6 [3, 12, 13] [0, 6] [0, 1, 8, 50008006] (m + 100) kn L x = J55x0x6 N L x (fun y => kn (ofSh sh55x0x6 (mx sh55x0x6 [3, 12, 13] L y))) (fun p => some (K55x0x6w0 L p)) := by kernel_rfl
theorem ql55x0x6 (L : List Lf) (m : Nat) (x : List Lf) : Q55x0x6 N L (m + 1) x = J55x0x6 N L x (Q55x0x6 N L m) some := by kernel_rfl
def h55x0s1 : Sg Try.prog 2 55 :=
 (h55x0s0 N).lp (A55x0x6 N) N progOk (T57x0_ok N) (fun m kn L x => (step55x0x6 N m kn L x).trans (sb55x0x6 N L x _ _)) (fun L m x => (ql55x0x6 N L m x).trans (sb55x0x6 N L x (Q55x0x6 N L m) some)) fun L x hx => alt1 x hx
def F55x0 (v0 : Int) (v2 v5 : LD) (k0 : LD → Option R) : Option R :=
 bnd (G55x0x6 N v2 (v2.length : Int) 0 true []) fun y0 =>
 bif y0.isSome then
  bif (decide ((v5.length + 1) * 72 ≤ room) && decide ((v5.length + 1) ≤ strMax)) then
   bnd ((v5 ++ [(.a [(.i 2), (.i v0), (.i 0), (.l true []), (.l (y0.getD default).1 (y0.getD default).2)])]) : List D) fun y1 =>
   k0 y1
  else
   none
 else
  none
def G55x0 (v0 : Int) (v2 v5 : LD) : Option (LD) := F55x0 N v0 v2 v5 (fun p => some p)
theorem bind55x0 (v0 : Int) (v2 v5 : LD) (k0 : LD → Option R) : F55x0 N v0 v2 v5 k0 = (G55x0 N v0 v2 v5).bind k0 := by
 unfold G55x0 F55x0
 repeat' (first | with_reducible apply cond_b | (with_reducible apply bnd_b; intro _) | rfl)
def sh55x0 : Sh := { tmps := [(0, .c (.p 0 0)), (1, .c (.i .i64)), (2, .c (.sl 39))], mem := [(0, .box ([.o 1, .b])), (1, .row 41 true)] }
def K55x0w0 (L : List Lf) (p : LD) : Res := ([], [(0, .box [.o 33, .b (lb L 3)]), (33, .row 41 true false p)])
def A55x0 (L : List Lf) : List (Bool × Res) := bnd (F55x0 N (li L 0) (ll L 2) (ll L 5) (fun p => some p)) fun q => [(q.isSome, K55x0w0 L (q.getD default))]
theorem raw55x0 (L : List Lf) : bd Try.prog (T57x0 N) (h55x0s1 N).h 55 sh55x0 L = F55x0 N (li L 0) (ll L 2) (ll L 5) (fun p => some (K55x0w0 L p)) := by kernel_rfl
theorem ok55x0 : FnOk Try.prog 55 sh55x0 (A55x0 N) :=
 (h55x0s1 N).fn progOk (T57x0_ok N) fun L x hx => ((raw55x0 N L).trans ((bind55x0 N ..).trans (alt1 x hx)))
def T55x0 : Oracle := ext 55 (spSh sh55x0 (A55x0 N)) (T57x0 N)
theorem T55x0_ok : OracleOk Try.prog (T55x0 N) := FnOk.to (ok55x0 N) (T57x0_ok N)
def rg54x1 : List (Nat × List Nat) := [(0, [0, 1, 2, 3])]
def hd54x1 : Hints := []
def h54x1s0 (N : Nat) : Sg Try.prog 2 54 := .start hd54x1 rg54x1
def F54x1 (N : Nat) (v0 v1 : Int) (v2 : Bool) (v3 : LD) (v4 : Bool) (v6 : LD) (k0 : LD → Option R) : Option R :=
 bif (decide ((v6.length + 1) * 72 ≤ room) && decide ((v6.length + 1) ≤ strMax)) then
  bnd ((v6 ++ [(.a [(.i 1), (.i v0), (.i 0), (.l false [(.a [(.b v4), (.i v1), (.l v2 v3)])]), (.l true [])])]) : List D) fun y0 =>
  k0 y0
 else
  none
def G54x1 (v0 v1 : Int) (v2 : Bool) (v3 : LD) (v4 : Bool) (v6 : LD) : Option (LD) := F54x1 N v0 v1 v2 v3 v4 v6 (fun p => some p)
theorem bind54x1 (v0 v1 : Int) (v2 : Bool) (v3 : LD) (v4 : Bool) (v6 : LD) (k0 : LD → Option R) : F54x1 N v0 v1 v2 v3 v4 v6 k0 = (G54x1 N v0 v1 v2 v3 v4 v6).bind k0 := by
 unfold G54x1 F54x1
 repeat' (first | with_reducible apply cond_b | (with_reducible apply bnd_b; intro _) | rfl)
def J54x1 (L : List Lf) (k0 : LD → Option R) : Option R := F54x1 N (li L 0) (li L 1) (lb L 2) (ll L 3) (lb L 4) (ll L 6) k0
def sh54x1 : Sh := { tmps := [(0, .c (.p 0 0)), (1, .c (.i .i64)), (2, .c (.i .i64)), (3, .c (.sl 61))], mem := [(0, .box ([.o 1, .b])), (1, .row 41 true)] }
def K54x1w0 (L : List Lf) (p : LD) : Res := ([], [(0, .box [.o 27, .b (lb L 4)]), (27, .row 41 true false p)])
def A54x1 (L : List Lf) : List (Bool × Res) := bnd (J54x1 N L (fun p => some p)) fun q => [(q.isSome, K54x1w0 L (q.getD default))]
theorem raw54x1 (L : List Lf) : bd Try.prog (T55x0 N) (h54x1s0 N).h 54 sh54x1 L = J54x1 N L (fun p => some (K54x1w0 L p)) := by kernel_rfl
theorem ok54x1 : FnOk Try.prog 54 sh54x1 (A54x1 N) :=
 (h54x1s0 N).fn progOk (T55x0_ok N) fun L x hx => ((raw54x1 N L).trans ((bind54x1 N ..).trans (alt1 x hx)))
def T54x1 : Oracle := ext 54 (spSh sh54x1 (A54x1 N)) (T55x0 N)
theorem T54x1_ok : OracleOk Try.prog (T54x1 N) := FnOk.to (ok54x1 N) (T55x0_ok N)
def rg58x0 : List (Nat × List Nat) := [(0, [1, 2, 0]), (1, [4, 5, 0]), (2, [5, 0, 4]), (3, [6, 0, 4]), (4, [20, 6, 0, 4]), (5, [20, 6, 0, 4]), (6, [6, 7, 20, 0, 4]), (7, [20, 6, 0, 4]), (8, [6, 0, 4]), (9, [29, 6, 0, 4]), (10, [29, 6, 0, 4]), (11, [6, 8, 29, 0, 4]), (12, [29, 6, 0, 4]), (13, [0, 6, 4]), (14, [4, 0]), (15, [45, 44, 43, 4, 0]), (16, [45, 43, 4, 0, 44]), (17, [4, 10, 0, 9, 45, 44, 43]), (18, [0, 11, 10, 9, 4, 45, 44, 43]), (19, [9, 10, 4, 0, 12, 11, 45, 44, 43]), (23, [0, 12, 45, 44, 43, 4]), (20, [0, 12, 11, 45, 44, 43, 4]), (21, [0, 11, 45, 44, 43, 4]), (22, [13, 11, 45, 44, 43, 4, 0]), (24, [45, 44, 43, 4, 0])]
def hd58x0 : Hints := [(45, [0, 4, 43, 44, 45], [0, 6, 50000002, 42000000029], [50000000]), (58, [0, 4, 9, 10, 11, 12, 43, 44, 45], [0, 6, 12, 84, 50000002], []), (69062, [0, 4, 11, 12, 43, 44, 45, 97], [0, 6, 84, 50000002], [])]
def h58x0s0 (N : Nat) : Sg Try.prog 2 58 := .start hd58x0 rg58x0
def F58x0x58 (N : Nat) (w0 : Int) (w11 : LD) (w16 : Int) (k0 : Bool → Option R) : Option R :=
 bif (decide (w0 > 0)) then
  bif (inB (IntKind.wrap .i64 (w0 - 1)) w11.length) then
   bnd ((w11.getD (IntKind.wrap .i64 (w0 - 1)).toNat (.i 0)).cell 0).toI fun y0 =>
   k0 (decide ((IntKind.wrap .i64 (w16 - y0)) < 32))
  else
   none
 else
  k0 false
def G58x0x58 (w0 : Int) (w11 : LD) (w16 : Int) : Option (Bool) := F58x0x58 N w0 w11 w16 (fun p => some p)
theorem bind58x0x58 (w0 : Int) (w11 : LD) (w16 : Int) (k0 : Bool → Option R) : F58x0x58 N w0 w11 w16 k0 = (G58x0x58 N w0 w11 w16).bind k0 := by
 unfold G58x0x58 F58x0x58
 repeat' (first | with_reducible apply cond_b | (with_reducible apply bnd_b; intro _) | rfl)
def sh58x0x58 : Sh := { tmps := [(0, .c (.p 0 0)), (4, .c (.p 6 0)), (9, .c (.i .i64)), (10, .c (.p 12 0)), (11, .c (.i .i64)), (12, .c (.o 84)), (43, .c (.sl 74)), (44, .c (.i .i64)), (45, .c (.i .i64))], mem := [(0, .box ([.o 50000002, .b])), (6, .box (.s :: [.i .i64, .i .i64, .sl 74, .sl 118, .sl 9])), (12, .box (rI 7 ([]))), (84, .row 39 true), (50000002, .row 41 true)] }
def K58x0x58w0 (L : List Lf) (p : Bool) : Ex × St := (.normal, mg (ofSh sh58x0x58 L) [0, 4, 11, 12, 43, 44, 45, 97] [(97, .c (.b p))] [0, 6, 84, 50000002] [])
def A58x0x58 (L : List Lf) : List (Bool × (Ex × St)) := bnd (F58x0x58 N (li L 0) (ll L 11) (li L 16) (fun p => some p)) fun q => [(q.isSome, K58x0x58w0 L (q.getD default))]
theorem raw58x0x58 (L : List Lf) : pc Try.prog (T54x1 N) (h58x0s0 N).h 2 100 58 58 sh58x0x58 L [0, 4, 11, 12, 43, 44, 45, 97] [0, 6, 84, 50000002] = F58x0x58 N (li L 0) (ll L 11) (li L 16) (fun p => some (K58x0x58w0 L p)) := by kernel_rfl
def h58x0s1 : Sg Try.prog 2 58 :=
 (h58x0s0 N).cut (A58x0x58 N) progOk (T54x1_ok N) fun L x hx => (raw58x0x58 N L).trans ((bind58x0x58 N ..).trans (alt1 x hx))
def F58x0x69062 (w0 : Int) (w5 : Bool) (w17 w19 : LD) (k0 : LD → Option R) (k1 : LD → Option R) : Option R :=
 bif w5 then
  bif ((decide (1 ≤ (w17.length : Int))) && (decide ((w17.length : Int) ≤ (w17.length : Int)))) then
   bnd (G55x0 N 1 ((w17.take (w17.length : Int).toNat).drop 1) w19) fun y0 =>
   bif y0.isSome then
    bnd (IntKind.wrap .i64 (((y0.getD default).length : Int) - 1)) fun y1 =>
    bif (inB y1 (y0.getD default).length) then
     bif (decide (y1.toNat < (y0.getD default).length)) then
      bnd (((y0.getD default).set y1.toNat (.a [(.i 3), (.i (((y0.getD default).getD y1.toNat (.i 0)).cell 1).toI), (.i (((y0.getD default).getD y1.toNat (.i 0)).cell 2).toI), (.l (((y0.getD default).getD y1.toNat (.i 0)).cell 3).isNil (((y0.getD default).getD y1.toNat (.i 0)).cell 3).items), (.l (((y0.getD default).getD y1.toNat (.i 0)).cell 4).isNil (((y0.getD default).getD y1.toNat (.i 0)).cell 4).items)])) : List D) fun y2 =>
      bif (decide (y1.toNat < y2.length)) then
       bnd ((y2.set y1.toNat (.a [(.i ((y2.getD y1.toNat (.i 0)).cell 0).toI), (.i ((y2.getD y1.toNat (.i 0)).cell 1).toI), (.i (w0.tmod 32)), (.l ((y2.getD y1.toNat (.i 0)).cell 3).isNil ((y2.getD y1.toNat (.i 0)).cell 3).items), (.l ((y2.getD y1.toNat (.i 0)).cell 4).isNil ((y2.getD y1.toNat (.i 0)).cell 4).items)])) : List D) fun y3 =>
       k0 y3
      else
       none
     else
      none
    else
     none
   else
    none
  else
   none
 else
  bnd (G55x0 N 1 w17 w19) fun y4 =>
  bif y4.isSome then
   k1 (y4.getD default)
  else
   none
def G58x0x69062 (w0 : Int) (w5 : Bool) (w17 w19 : LD) : Option (Sum (LD) (LD)) := F58x0x69062 N w0 w5 w17 w19 (fun p => some (.inl p)) (fun p => some (.inr p))
theorem bind58x0x69062 (w0 : Int) (w5 : Bool) (w17 w19 : LD) (k0 : LD → Option R) (k1 : LD → Option R) : F58x0x69062 N w0 w5 w17 w19 k0 k1 = (G58x0x69062 N w0 w5 w17 w19).bind (sumE k0 k1) := by
 unfold G58x0x69062 F58x0x69062
 repeat' (first | with_reducible apply cond_b | (with_reducible apply bnd_b; intro _) | rfl)
def J58x0x69062 (L : List Lf) (k0 : LD → Option R) (k1 : LD → Option R) : Option R := F58x0x69062 N (li L 0) (lb L 5) (ll L 17) (ll L 19) k0 k1
def sh58x0x69062 : Sh := { tmps := [(0, .c (.p 0 0)), (4, .c (.p 6 0)), (11, .c (.i .i64)), (12, .c (.o 84)), (43, .c (.sl 74)), (44, .c (.i .i64)), (45, .c (.i .i64)), (97, .c (.b))], mem := [(0, .box ([.o 50000002, .b])), (6, .box (.s :: [.i .i64, .i .i64, .sl 74, .sl 118, .sl 9])), (84, .row 39 true), (50000002, .row 41 true)] }
def K58x0x69062w0 (L : List Lf) (p : LD) : Ex × St := (.normal, mg (ofSh sh58x0x69062 L) [0, 4, 43, 44, 45] [] [0, 6, 102000000035] [(0, .box [.o 102000000035, .b (lb L 6)]), (102000000035, .row 41 true false p)])
def K58x0x69062w1 (L : List Lf) (p : LD) : Ex × St := (.normal, mg (ofSh sh58x0x69062 L) [0, 4, 43, 44, 45] [] [0, 6, 126000000035] [(0, .box [.o 126000000035, .b (lb L 6)]), (126000000035, .row 41 true false p)])
def A58x0x69062 (L : List Lf) : List (Bool × (Ex × St)) := bnd (J58x0x69062 N L (fun p => some (.inl p)) (fun p => some (.inr p))) fun q => [((inlB q), K58x0x69062w0 L (inlV q)), ((inrQ q).isSome, K58x0x69062w1 L ((inrQ q).getD default))]
theorem raw58x0x69062 (L : List Lf) : pc Try.prog (T54x1 N) (h58x0s1 N).h 2 100 58 69062 sh58x0x69062 L [0, 4, 43, 44, 45] [0, 6, 102000000035, 126000000035] = J58x0x69062 N L (fun p => some (K58x0x69062w0 L p)) (fun p => some (K58x0x69062w1 L p)) := by kernel_rfl
def h58x0s2 : Sg Try.prog 2 58 :=
 (h58x0s1 N).cut (A58x0x69062 N) progOk (T54x1_ok N) fun L x hx => (raw58x0x69062 N L).trans ((bind58x0x69062 N ..).trans ((altS alt1) x hx))
def S58x0x45 (w1 : LD) (w2 : Int) (w4 : Bool) (w7 : Int) (w9 : LD) (w3 : Int) (w14 : Bool) (w15 : LD) (kr : Int → Bool → LD → Option R) (k0 : Bool × LD → Option R) : Option R :=
 bif (decide (w3 < w2)) then
  bif (inB w3 w1.length) then
   bnd (IntKind.wrap .i64 (w7 + ((w1.getD w3.toNat (.i 0)).cell 0).toI)) fun y0 =>
   bnd (G56x0 N y0 4 false w4) fun y1 =>
   bif y1.isSome then
    bnd (G56x0 N ((w1.getD w3.toNat (.i 0)).cell 1).toI 4 true w4) fun y2 =>
    bif y2.isSome then
     bnd (G56x0 N ((w1.getD w3.toNat (.i 0)).cell 2).toI 4 true w4) fun y3 =>
     bif y3.isSome then
      bnd (G56x0 N ((w1.getD w3.toNat (.i 0)).cell 3).toI 4 true w4) fun y4 =>
      bif y4.isSome then
       bnd (G56x0 N ((w1.getD w3.toNat (.i 0)).cell 4).toI 2 false w4) fun y5 =>
       bif y5.isSome then
        bnd (G56x0 N ((w1.getD w3.toNat (.i 0)).cell 5).toI 2 false w4) fun y6 =>
        bif y6.isSome then
         bnd (G56x0 N ((w1.getD w3.toNat (.i 0)).cell 6).toI 2 false w4) fun y7 =>
         bif y7.isSome then
          bnd (G58x0x58 N w3 w9 ((w1.getD w3.toNat (.i 0)).cell 0).toI) fun y8 =>
          bif y8.isSome then
           bnd (G58x0x69062 N y0 (y8.getD default) [(.l false (y1.getD default)), (.l false (y2.getD default)), (.l false (y3.getD default)), (.l false (y4.getD default)), (.l false (y5.getD default)), (.l false (y6.getD default)), (.l false (y7.getD default))] w15) fun y9 =>
           bif (inlB y9) then
            kr (IntKind.wrap .i64 (w3 + 1)) false (inlV y9)
           else
            bif (inrQ y9).isSome then
             kr (IntKind.wrap .i64 (w3 + 1)) false ((inrQ y9).getD default)
            else
             none
          else
           none
         else
          none
        else
         none
       else
        none
      else
       none
     else
      none
    else
     none
   else
    none
  else
   none
 else
  k0 (w14, w15)
def L58x0x45 (N : Nat) {R : Type} (w1 : LD) (w2 : Int) (w4 : Bool) (w7 : Int) (w9 : LD) : Nat → Int → Bool → LD → (Bool × LD → Option R) → Option R
 | 0, _, _, _, _ => none
 | m + 1, w3, w14, w15, k0 => S58x0x45 N w1 w2 w4 w7 w9 w3 w14 w15 (fun w3 w14 w15 => L58x0x45 N w1 w2 w4 w7 w9 m w3 w14 w15 k0) k0
def G58x0x45 (w1 : LD) (w2 : Int) (w4 : Bool) (w7 : Int) (w9 : LD) (w3 : Int) (w14 : Bool) (w15 : LD) : Option (Bool × LD) := L58x0x45 N (R := (Bool × LD)) w1 w2 w4 w7 w9 N w3 w14 w15 (fun p => some p)
def J58x0x45 (L x : List Lf) (kr : List Lf → Option R) (k0 : Bool × LD → Option R) : Option R := S58x0x45 N (ll L 1) (li L 2) (lb L 4) (li L 7) (ll L 9) (li x 0) (lb x 1) (ll x 2) (fun w3 w14 w15 => kr [.i w3, .b w14, .l w15]) k0
theorem sb58x0x45 (L x : List Lf) (kr : List Lf → Option R) (k0 : Bool × LD → Option R) : J58x0x45 N L x kr k0 = (J58x0x45 N L x (fun y => some (.inl y)) (fun p => some (.inr p))).bind (sumE kr k0) := by
 unfold J58x0x45 S58x0x45
 repeat' (first | with_reducible apply cond_b | (with_reducible apply bnd_b; intro _) | rfl)
def Q58x0x45 (L : List Lf) (m : Nat) (x : List Lf) : Option (Bool × LD) := L58x0x45 N (R := (Bool × LD)) (ll L 1) (li L 2) (lb L 4) (li L 7) (ll L 9) m (li x 0) (lb x 1) (ll x 2) (fun p => some p)
def sh58x0x45 : Sh := { tmps := [(0, .c (.p 0 0)), (4, .c (.p 6 0)), (43, .c (.sl 74)), (44, .c (.i .i64)), (45, .c (.i .i64))], mem := [(0, .box ([.o 50000002, .b])), (6, .box (.s :: [.i .i64, .i .i64, .sl 74, .sl 118, .sl 9])), (50000002, .row 41 true)] }
def K58x0x45w0 (L : List Lf) (p : Bool × LD) : Ex × St := ((.exit 4), mg (ofSh sh58x0x45 L) [] [] [0, 50000002] [(50000002, .row 41 true p.1 p.2)])
def A58x0x45 (L : List Lf) : List (Bool × (Ex × St)) := bnd (Q58x0x45 N L N (pk sh58x0x45 [3, 14, 15] L)) fun q => [(q.isSome, K58x0x45w0 L (q.getD default))]
theorem step58x0x45 (m : Nat) (kn : St → Option (Ex × St)) (L x : List Lf) : lpB Try.prog (T54x1 N) (h58x0s2 N).h 2 58 45 sh58x0x45 [3, 14, 15] [] [0, 50000002] (m + 100) kn L x = J58x0x45 N L x (fun y => kn (ofSh sh58x0x45 (mx sh58x0x45 [3, 14, 15] L y))) (fun p => some (K58x0x45w0 L p)) := by kernel_rfl
theorem ql58x0x45 (L : List Lf) (m : Nat) (x : List Lf) : Q58x0x45 N L (m + 1) x = J58x0x45 N L x (Q58x0x45 N L m) some := by kernel_rfl
def h58x0s3 : Sg Try.prog 2 58 :=
 (h58x0s2 N).lp (A58x0x45 N) N progOk (T54x1_ok N) (fun m kn L x => (step58x0x45 N m kn L x).trans (sb58x0x45 N L x _ _)) (fun L m x => (ql58x0x45 N L m x).trans (sb58x0x45 N L x (Q58x0x45 N L m) some)) fun L x hx => alt1 x hx
def F58x0 (v2 : Int) (v4 : LD) (v9 v10 v11 : Int) (v12 : Bool) (v14 : LD) (k0 : Unit → Option R) (k1 : Bool × LD → Option R) : Option R :=
 bif ((v4.length : Int) == 0) then
  k0 ()
 else
  bnd ([(.a [(.i v9), (.i v10), (.i v11)]), (.a [(.i 0), (.i 4), (.i 1)])] : List D) fun y0 =>
  bif (decide ((y0.length + 1) * 24 ≤ room) && decide ((y0.length + 1) ≤ strMax)) then
   bif (decide ((((y0 ++ [(.a [(.i 1), (.i 4), (.i 1)])]) : List D).length + 1) * 24 ≤ room) && decide ((((y0 ++ [(.a [(.i 1), (.i 4), (.i 1)])]) : List D).length + 1) ≤ strMax)) then
    bnd (((y0 ++ [(.a [(.i 1), (.i 4), (.i 1)])]) ++ [(.a [(.i 2), (.i 4), (.i 1)])]) : List D) fun y1 =>
    bif (decide ((y1.length + 1) * 24 ≤ room) && decide ((y1.length + 1) ≤ strMax)) then
     bif (decide ((((y1 ++ [(.a [(.i 3), (.i 2), (.i 0)])]) : List D).length + 1) * 24 ≤ room) && decide ((((y1 ++ [(.a [(.i 3), (.i 2), (.i 0)])]) : List D).length + 1) ≤ strMax)) then
      bnd (((y1 ++ [(.a [(.i 3), (.i 2), (.i 0)])]) ++ [(.a [(.i 4), (.i 2), (.i 0)])]) : List D) fun y2 =>
      bif (decide ((y2.length + 1) * 24 ≤ room) && decide ((y2.length + 1) ≤ strMax)) then
       bnd (G54x1 N 1 20 false (y2 ++ [(.a [(.i 5), (.i 2), (.i 0)])]) v12 v14) fun y3 =>
       bif y3.isSome then
        bnd (G58x0x45 N v4 (v4.length : Int) v12 v2 v4 0 false (y3.getD default)) fun y4 =>
        bif y4.isSome then
         k1 (y4.getD default)
        else
         none
       else
        none
      else
       none
     else
      none
    else
     none
   else
    none
  else
   none
def G58x0 (v2 : Int) (v4 : LD) (v9 v10 v11 : Int) (v12 : Bool) (v14 : LD) : Option (Sum (Unit) (Bool × LD)) := F58x0 N v2 v4 v9 v10 v11 v12 v14 (fun p => some (.inl p)) (fun p => some (.inr p))
theorem bind58x0 (v2 : Int) (v4 : LD) (v9 v10 v11 : Int) (v12 : Bool) (v14 : LD) (k0 : Unit → Option R) (k1 : Bool × LD → Option R) : F58x0 N v2 v4 v9 v10 v11 v12 v14 k0 k1 = (G58x0 N v2 v4 v9 v10 v11 v12 v14).bind (sumE k0 k1) := by
 unfold G58x0 F58x0
 repeat' (first | with_reducible apply cond_b | (with_reducible apply bnd_b; intro _) | rfl)
def J58x0 (L : List Lf) (k0 : Unit → Option R) (k1 : Bool × LD → Option R) : Option R := F58x0 N (li L 2) (ll L 4) (li L 9) (li L 10) (li L 11) (lb L 12) (ll L 14) k0 k1
def sh58x0 : Sh := { tmps := [(0, .c (.p 0 0)), (1, .g (.s :: [.i .i64, .i .i64, .sl 74, .sl 118, .sl 9])), (2, .g ([.i .i64, .i .i64, .i .i64]))], mem := [(0, .box ([.o 1, .b])), (1, .row 41 true)] }
def K58x0w1 (L : List Lf) (p : Bool × LD) : Res := ([], [(0, .box [.o 50000002, .b (lb L 12)]), (50000002, .row 41 true p.1 p.2)])
def A58x0 (L : List Lf) : List (Bool × Res) := bnd (J58x0 N L (fun p => some (.inl p)) (fun p => some (.inr p))) fun q => [((inlB q), ([], mgA (ofSh sh58x0 L).mem [] [0, 1])), ((inrQ q).isSome, K58x0w1 L ((inrQ q).getD default))]
theorem raw58x0 (L : List Lf) : bd Try.prog (T54x1 N) (h58x0s3 N).h 58 sh58x0 L = J58x0 N L (fun _ => some ([], mgA (ofSh sh58x0 L).mem [] [0, 1])) (fun p => some (K58x0w1 L p)) := by kernel_rfl
theorem ok58x0 : FnOk Try.prog 58 sh58x0 (A58x0 N) :=
 (h58x0s3 N).fn progOk (T54x1_ok N) fun L x hx => ((raw58x0 N L).trans ((bind58x0 N ..).trans ((altS alt1) x hx)))
def T58x0 : Oracle := ext 58 (spSh sh58x0 (A58x0 N)) (T54x1 N)
theorem T58x0_ok : OracleOk Try.prog (T58x0 N) := FnOk.to (ok58x0 N) (T54x1_ok N)
def rg29x0 : List (Nat × List Nat) := [(0, [0, 1]), (1, [2, 4, 1]), (2, [6, 4, 2, 1]), (3, [6, 4]), (4, [2, 4, 1]), (5, [4]), (6, [1, 2, 4]), (7, [7, 2, 4]), (8, [7, 8, 2, 4]), (9, [7, 8, 9, 2, 4]), (10, [7, 2, 9, 8, 4]), (11, [2, 7, 9, 8, 4]), (12, [7, 9, 2, 8, 4]), (13, [2, 7, 8, 9, 4]), (14, [64, 63, 62, 7, 2, 8, 9, 4]), (15, [62, 64, 7, 63, 2, 8, 9, 4]), (16, [7, 11, 64, 63, 62, 2, 8, 9, 4]), (17, [64, 63, 62, 7, 2, 8, 9, 4]), (18, [2, 7, 8, 9, 4]), (19, [7, 8, 9, 2, 4]), (20, [2, 7, 8, 4]), (21, [88, 87, 86, 7, 2, 8, 4]), (22, [86, 88, 7, 2, 87, 8, 4]), (23, [7, 2, 13, 88, 87, 86, 8, 4]), (24, [88, 87, 86, 7, 2, 8, 4]), (25, [7, 2, 8, 4]), (26, [7, 4])]
def hd29x0 : Hints := [(38, [2, 4, 7, 8, 9, 55], [2, 4, 8, 29, 52000000033], []), (42, [2, 4, 7, 8, 9, 62, 63, 64], [2, 4, 8, 29, 50029000, 61000000027], [50029000]), (59, [2, 4, 7, 8, 9, 77], [2, 4, 8, 29, 50029000], []), (63, [2, 4, 7, 8, 86, 87, 88], [2, 4, 8, 29, 50029000, 85000000027], [50029000]), (76, [2, 4, 7, 8], [2, 4, 8, 29, 50029000], [])]
def h29x0s0 (N : Nat) : Sg Try.prog 0 29 := .start hd29x0 rg29x0
def F29x0x38 (w0 w15 : Bool) (w17 : LD) (k0 : LD → Option R) (k1 : Unit → Option R) : Option R :=
 bif w0 then
  bnd (G54x1 N 3 30 false [(.a [(.i 1), (.i 60), (.i 2)])] w15 w17) fun y0 =>
  bif y0.isSome then
   k0 (y0.getD default)
  else
   none
 else
  k1 ()
def G29x0x38 (w0 w15 : Bool) (w17 : LD) : Option (Sum (LD) (Unit)) := F29x0x38 N w0 w15 w17 (fun p => some (.inl p)) (fun p => some (.inr p))
theorem bind29x0x38 (w0 w15 : Bool) (w17 : LD) (k0 : LD → Option R) (k1 : Unit → Option R) : F29x0x38 N w0 w15 w17 k0 k1 = (G29x0x38 N w0 w15 w17).bind (sumE k0 k1) := by
 unfold G29x0x38 F29x0x38
 repeat' (first | with_reducible apply cond_b | (with_reducible apply bnd_b; intro _) | rfl)
def sh29x0x38 : Sh := { tmps := [(2, .c (.p 2 0)), (4, .c (.p 4 0)), (7, .c (.p 29 0)), (8, .c (.p 8 0)), (9, .c (.f 53 [])), (55, .c (.b))], mem := [(2, .box (.s :: [.i .i64, .i .i64, .sl 74, .sl 118, .sl 9])), (4, .box ([.sl 41])), (8, .box ([.i .i64, .i .i64, .i .i64])), (29, .box ([.o 52000000033, .b])), (52000000033, .row 41 true)] }
def K29x0x38w0 (L : List Lf) (p : LD) : Ex × St := (.normal, mg (ofSh sh29x0x38 L) [2, 4, 7, 8, 9] [] [2, 4, 8, 29, 61000000027] [(29, .box [.o 61000000027, .b (lb L 15)]), (61000000027, .row 41 true false p)])
def K29x0x38w1 (L : List Lf) (_ : Unit) : Ex × St := (.normal, mg (ofSh sh29x0x38 L) [2, 4, 7, 8, 9] [] [2, 4, 8, 29, 52000000033] [])
def A29x0x38 (L : List Lf) : List (Bool × (Ex × St)) := bnd (F29x0x38 N (lb L 0) (lb L 15) (ll L 17) (fun p => some (.inl p)) (fun p => some (.inr p))) fun q => [((inlB q), K29x0x38w0 L (inlV q)), ((inrQ q).isSome, K29x0x38w1 L ())]
theorem raw29x0x38 (L : List Lf) : pc Try.prog (T58x0 N) (h29x0s0 N).h 0 100 29 38 sh29x0x38 L [2, 4, 7, 8, 9] [2, 4, 8, 29, 52000000033, 61000000027] = F29x0x38 N (lb L 0) (lb L 15) (ll L 17) (fun p => some (K29x0x38w0 L p)) (fun _ => some (K29x0x38w1 L ())) := by kernel_rfl
def h29x0s1 : Sg Try.prog 0 29 :=
 (h29x0s0 N).cut (A29x0x38 N) progOk (T58x0_ok N) fun L x hx => (raw29x0x38 N L).trans ((bind29x0x38 N ..).trans ((altS alt1) x hx))
def S29x0x42 (w1 : LD) (w2 : Int) (w3 : Int) (w19 : Bool) (w20 : LD) (kr : Int → Bool → LD → Option R) (k0 : Bool × LD → Option R) : Option R :=
 bif (decide (w3 < w2)) then
  bif (inB w3 w1.length) then
   bnd (V57x0 N (w1.getD w3.toNat (.i 0)).toS) fun y0 =>
   bnd (G55x0 N 3 [(.l false y0)] w20) fun y1 =>
   bif y1.isSome then
    kr (IntKind.wrap .i64 (w3 + 1)) false (y1.getD default)
   else
    none
  else
   none
 else
  k0 (w19, w20)
def L29x0x42 (N : Nat) {R : Type} (w1 : LD) (w2 : Int) : Nat → Int → Bool → LD → (Bool × LD → Option R) → Option R
 | 0, _, _, _, _ => none
 | m + 1, w3, w19, w20, k0 => S29x0x42 N w1 w2 w3 w19 w20 (fun w3 w19 w20 => L29x0x42 N w1 w2 m w3 w19 w20 k0) k0
def G29x0x42 (w1 : LD) (w2 : Int) (w3 : Int) (w19 : Bool) (w20 : LD) : Option (Bool × LD) := L29x0x42 N (R := (Bool × LD)) w1 w2 N w3 w19 w20 (fun p => some p)
def J29x0x42 (L x : List Lf) (kr : List Lf → Option R) (k0 : Bool × LD → Option R) : Option R := S29x0x42 N (ll L 1) (li L 2) (li x 0) (lb x 1) (ll x 2) (fun w3 w19 w20 => kr [.i w3, .b w19, .l w20]) k0
theorem sb29x0x42 (L x : List Lf) (kr : List Lf → Option R) (k0 : Bool × LD → Option R) : J29x0x42 N L x kr k0 = (J29x0x42 N L x (fun y => some (.inl y)) (fun p => some (.inr p))).bind (sumE kr k0) := by
 unfold J29x0x42 S29x0x42
 repeat' (first | with_reducible apply cond_b | (with_reducible apply bnd_b; intro _) | rfl)
def Q29x0x42 (L : List Lf) (m : Nat) (x : List Lf) : Option (Bool × LD) := L29x0x42 N (R := (Bool × LD)) (ll L 1) (li L 2) m (li x 0) (lb x 1) (ll x 2) (fun p => some p)
def sh29x0x42 : Sh := { tmps := [(2, .c (.p 2 0)), (4, .c (.p 4 0)), (7, .c (.p 29 0)), (8, .c (.p 8 0)), (9, .c (.f 53 [])), (62, .c (.sl 9)), (63, .c (.i .i64)), (64, .c (.i .i64))], mem := [(2, .box (.s :: [.i .i64, .i .i64, .sl 74, .sl 118, .sl 9])), (4, .box ([.sl 41])), (8, .box ([.i .i64, .i .i64, .i .i64])), (29, .box ([.o 50029000, .b])), (50029000, .row 41 true)] }
def K29x0x42w0 (L : List Lf) (p : Bool × LD) : Ex × St := ((.exit 0), mg (ofSh sh29x0x42 L) [2, 4, 7, 8, 9] [] [2, 4, 8, 29, 50029000] [(50029000, .row 41 true p.1 p.2)])
def A29x0x42 (L : List Lf) : List (Bool × (Ex × St)) := bnd (Q29x0x42 N L N (pk sh29x0x42 [3, 19, 20] L)) fun q => [(q.isSome, K29x0x42w0 L (q.getD default))]
theorem step29x0x42 (m : Nat) (kn : St → Option (Ex × St)) (L x : List Lf) : lpB Try.prog (T58x0 N) (h29x0s1 N).h 0 29 42 sh29x0x42 [3, 19, 20] [2, 4, 5, 7, 8, 9] [2, 4, 8, 29, 50029000] (m + 100) kn L x = J29x0x42 N L x (fun y => kn (ofSh sh29x0x42 (mx sh29x0x42 [3, 19, 20] L y))) (fun p => some (K29x0x42w0 L p)) := by kernel_rfl
theorem ql29x0x42 (L : List Lf) (m : Nat) (x : List Lf) : Q29x0x42 N L (m + 1) x = J29x0x42 N L x (Q29x0x42 N L m) some := by kernel_rfl
def h29x0s2 : Sg Try.prog 0 29 :=
 (h29x0s1 N).lp (A29x0x42 N) N progOk (T58x0_ok N) (fun m kn L x => (step29x0x42 N m kn L x).trans (sb29x0x42 N L x _ _)) (fun L m x => (ql29x0x42 N L m x).trans (sb29x0x42 N L x (Q29x0x42 N L m) some)) fun L x hx => alt1 x hx
def F29x0x59 (w0 : Bool) (w12 w13 w14 : Int) (w15 : Bool) (w17 : LD) (k0 : LD → Option R) (k1 : Unit → Option R) : Option R :=
 bif w0 then
  bnd (G54x1 N 2 19 false [(.a [(.i w12), (.i w13), (.i w14)]), (.a [(.i 1), (.i 4), (.i 0)]), (.a [(.i 2), (.i 60), (.i 2)])] w15 w17) fun y0 =>
  bif y0.isSome then
   k0 (y0.getD default)
  else
   none
 else
  k1 ()
def G29x0x59 (w0 : Bool) (w12 w13 w14 : Int) (w15 : Bool) (w17 : LD) : Option (Sum (LD) (Unit)) := F29x0x59 N w0 w12 w13 w14 w15 w17 (fun p => some (.inl p)) (fun p => some (.inr p))
theorem bind29x0x59 (w0 : Bool) (w12 w13 w14 : Int) (w15 : Bool) (w17 : LD) (k0 : LD → Option R) (k1 : Unit → Option R) : F29x0x59 N w0 w12 w13 w14 w15 w17 k0 k1 = (G29x0x59 N w0 w12 w13 w14 w15 w17).bind (sumE k0 k1) := by
 unfold G29x0x59 F29x0x59
 repeat' (first | with_reducible apply cond_b | (with_reducible apply bnd_b; intro _) | rfl)
def J29x0x59 (L : List Lf) (k0 : LD → Option R) (k1 : Unit → Option R) : Option R := F29x0x59 N (lb L 0) (li L 12) (li L 13) (li L 14) (lb L 15) (ll L 17) k0 k1
def sh29x0x59 : Sh := { tmps := [(2, .c (.p 2 0)), (4, .c (.p 4 0)), (7, .c (.p 29 0)), (8, .c (.p 8 0)), (9, .c (.f 53 [])), (77, .c (.b))], mem := [(2, .box (.s :: [.i .i64, .i .i64, .sl 74, .sl 118, .sl 9])), (4, .box ([.sl 41])), (8, .box ([.i .i64, .i .i64, .i .i64])), (29, .box ([.o 50029000, .b])), (50029000, .row 41 true)] }
def K29x0x59w0 (L : List Lf) (p : LD) : Ex × St := (.normal, mg (ofSh sh29x0x59 L) [2, 4, 7, 8] [] [2, 4, 8, 29, 85000000027] [(29, .box [.o 85000000027, .b (lb L 15)]), (85000000027, .row 41 true false p)])
def K29x0x59w1 (L : List Lf) (_ : Unit) : Ex × St := (.normal, mg (ofSh sh29x0x59 L) [2, 4, 7, 8] [] [2, 4, 8, 29, 50029000] [])
def A29x0x59 (L : List Lf) : List (Bool × (Ex × St)) := bnd (J29x0x59 N L (fun p => some (.inl p)) (fun p => some (.inr p))) fun q => [((inlB q), K29x0x59w0 L (inlV q)), ((inrQ q).isSome, K29x0x59w1 L ())]
theorem raw29x0x59 (L : List Lf) : pc Try.prog (T58x0 N) (h29x0s2 N).h 0 100 29 59 sh29x0x59 L [2, 4, 7, 8] [2, 4, 8, 29, 50029000, 85000000027] = J29x0x59 N L (fun p => some (K29x0x59w0 L p)) (fun _ => some (K29x0x59w1 L ())) := by kernel_rfl
def h29x0s3 : Sg Try.prog 0 29 :=
 (h29x0s2 N).cut (A29x0x59 N) progOk (T58x0_ok N) fun L x hx => (raw29x0x59 N L).trans ((bind29x0x59 N ..).trans ((altS alt1) x hx))
def S29x0x63 (w1 : LD) (w2 w6 : Int) (w18 : Bool) (w3 : Int) (w19 : Bool) (w20 : LD) (kr : Int → Bool → LD → Option R) (k0 : Bool × LD → Option R) : Option R :=
 bif (decide (w3 < w2)) then
  bif (inB w3 w1.length) then
   bnd (IntKind.wrap .i64 (w6 + ((w1.getD w3.toNat (.i 0)).cell 0).toI)) fun y0 =>
   bnd (G56x0 N y0 4 false w18) fun y1 =>
   bif y1.isSome then
    bnd (IntKind.wrap .i64 (w6 + ((w1.getD w3.toNat (.i 0)).cell 1).toI)) fun y2 =>
    bnd (G56x0 N y2 4 false w18) fun y3 =>
    bif y3.isSome then
     bnd (V57x0 N ((w1.getD w3.toNat (.i 0)).cell 2).toS) fun y4 =>
     bnd (G55x0 N 2 [(.l false (y1.getD default)), (.l false (y3.getD default)), (.l false y4)] w20) fun y5 =>
     bif y5.isSome then
      kr (IntKind.wrap .i64 (w3 + 1)) false (y5.getD default)
     else
      none
    else
     none
   else
    none
  else
   none
 else
  k0 (w19, w20)
def L29x0x63 (N : Nat) {R : Type} (w1 : LD) (w2 w6 : Int) (w18 : Bool) : Nat → Int → Bool → LD → (Bool × LD → Option R) → Option R
 | 0, _, _, _, _ => none
 | m + 1, w3, w19, w20, k0 => S29x0x63 N w1 w2 w6 w18 w3 w19 w20 (fun w3 w19 w20 => L29x0x63 N w1 w2 w6 w18 m w3 w19 w20 k0) k0
def G29x0x63 (w1 : LD) (w2 w6 : Int) (w18 : Bool) (w3 : Int) (w19 : Bool) (w20 : LD) : Option (Bool × LD) := L29x0x63 N (R := (Bool × LD)) w1 w2 w6 w18 N w3 w19 w20 (fun p => some p)
def J29x0x63 (L x : List Lf) (kr : List Lf → Option R) (k0 : Bool × LD → Option R) : Option R := S29x0x63 N (ll L 1) (li L 2) (li L 6) (lb L 18) (li x 0) (lb x 1) (ll x 2) (fun w3 w19 w20 => kr [.i w3, .b w19, .l w20]) k0
theorem sb29x0x63 (L x : List Lf) (kr : List Lf → Option R) (k0 : Bool × LD → Option R) : J29x0x63 N L x kr k0 = (J29x0x63 N L x (fun y => some (.inl y)) (fun p => some (.inr p))).bind (sumE kr k0) := by
 unfold J29x0x63 S29x0x63
 repeat' (first | with_reducible apply cond_b | (with_reducible apply bnd_b; intro _) | rfl)
def Q29x0x63 (L : List Lf) (m : Nat) (x : List Lf) : Option (Bool × LD) := L29x0x63 N (R := (Bool × LD)) (ll L 1) (li L 2) (li L 6) (lb L 18) m (li x 0) (lb x 1) (ll x 2) (fun p => some p)
def sh29x0x63 : Sh := { tmps := [(2, .c (.p 2 0)), (4, .c (.p 4 0)), (7, .c (.p 29 0)), (8, .c (.p 8 0)), (86, .c (.sl 118)), (87, .c (.i .i64)), (88, .c (.i .i64))], mem := [(2, .box (.s :: [.i .i64, .i .i64, .sl 74, .sl 118, .sl 9])), (4, .box ([.sl 41])), (8, .box ([.i .i64, .i .i64, .i .i64])), (29, .box ([.o 50029000, .b])), (50029000, .row 41 true)] }
def K29x0x63w0 (L : List Lf) (p : Bool × LD) : Ex × St := ((.exit 2), mg (ofSh sh29x0x63 L) [2, 4, 7, 8] [] [2, 4, 8, 29, 50029000] [(50029000, .row 41 true p.1 p.2)])
def A29x0x63 (L : List Lf) : List (Bool × (Ex × St)) := bnd (Q29x0x63 N L N (pk sh29x0x63 [3, 19, 20] L)) fun q => [(q.isSome, K29x0x63w0 L (q.getD default))]
theorem step29x0x63 (m : Nat) (kn : St → Option (Ex × St)) (L x : List Lf) : lpB Try.prog (T58x0 N) (h29x0s3 N).h 0 29 63 sh29x0x63 [3, 19, 20] [2, 4, 5, 7, 8] [2, 4, 8, 29, 50029000] (m + 100) kn L x = J29x0x63 N L x (fun y => kn (ofSh sh29x0x63 (mx sh29x0x63 [3, 19, 20] L y))) (fun p => some (K29x0x63w0 L p)) := by kernel_rfl
theorem ql29x0x63 (L : List Lf) (m : Nat) (x : List Lf) : Q29x0x63 N L (m + 1) x = J29x0x63 N L x (Q29x0x63 N L m) some := by kernel_rfl
def h29x0s4 : Sg Try.prog 0 29 :=
 (h29x0s3 N).lp (A29x0x63 N) N progOk (T58x0_ok N) (fun m kn L x => (step29x0x63 N m kn L x).trans (sb29x0x63 N L x _ _)) (fun L m x => (ql29x0x63 N L m x).trans (sb29x0x63 N L x (Q29x0x63 N L m) some)) fun L x hx => alt1 x hx
def F29x0x76 (w2 : Int) (w4 : LD) (w11 w12 w13 : Int) (w14 : Bool) (w16 : LD) (k0 : Unit → Option R) (k1 : Bool × LD → Option R) : Option R :=
 bnd (G58x0 N w2 w4 w11 w12 w13 w14 w16) fun y0 =>
 bif (inlB y0) then
  k0 ()
 else
  bif (inrQ y0).isSome then
   k1 ((inrQ y0).getD default)
  else
   none
def G29x0x76 (w2 : Int) (w4 : LD) (w11 w12 w13 : Int) (w14 : Bool) (w16 : LD) : Option (Sum (Unit) (Bool × LD)) := F29x0x76 N w2 w4 w11 w12 w13 w14 w16 (fun p => some (.inl p)) (fun p => some (.inr p))
theorem bind29x0x76 (w2 : Int) (w4 : LD) (w11 w12 w13 : Int) (w14 : Bool) (w16 : LD) (k0 : Unit → Option R) (k1 : Bool × LD → Option R) : F29x0x76 N w2 w4 w11 w12 w13 w14 w16 k0 k1 = (G29x0x76 N w2 w4 w11 w12 w13 w14 w16).bind (sumE k0 k1) := by
 unfold G29x0x76 F29x0x76
 repeat' (first | with_reducible apply cond_b | (with_reducible apply bnd_b; intro _) | rfl)
def J29x0x76 (L : List Lf) (k0 : Unit → Option R) (k1 : Bool × LD → Option R) : Option R := F29x0x76 N (li L 2) (ll L 4) (li L 11) (li L 12) (li L 13) (lb L 14) (ll L 16) k0 k1
def sh29x0x76 : Sh := { tmps := [(2, .c (.p 2 0)), (4, .c (.p 4 0)), (7, .c (.p 29 0)), (8, .c (.p 8 0))], mem := [(2, .box (.s :: [.i .i64, .i .i64, .sl 74, .sl 118, .sl 9])), (4, .box ([.sl 41])), (8, .box ([.i .i64, .i .i64, .i .i64])), (29, .box ([.o 50029000, .b])), (50029000, .row 41 true)] }
def K29x0x76w0 (L : List Lf) (_ : Unit) : Ex × St := (.normal, mg (ofSh sh29x0x76 L) [4, 7] [] [4, 29, 50029000] [])
def K29x0x76w1 (L : List Lf) (p : Bool × LD) : Ex × St := (.normal, mg (ofSh sh29x0x76 L) [4, 7] [] [4, 29, 117050000002] [(29, .box [.o 117050000002, .b (lb L 14)]), (117050000002, .row 41 true p.1 p.2)])
def A29x0x76 (L : List Lf) : List (Bool × (Ex × St)) := bnd (J29x0x76 N L (fun p => some (.inl p)) (fun p => some (.inr p))) fun q => [((inlB q), K29x0x76w0 L ()), ((inrQ q).isSome, K29x0x76w1 L ((inrQ q).getD default))]
theorem raw29x0x76 (L : List Lf) : pc Try.prog (T58x0 N) (h29x0s4 N).h 0 100 29 76 sh29x0x76 L [4, 7] [4, 29, 50029000, 117050000002] = J29x0x76 N L (fun _ => some (K29x0x76w0 L ())) (fun p => some (K29x0x76w1 L p)) := by kernel_rfl
def h29x0s5 : Sg Try.prog 0 29 :=
 (h29x0s4 N).cut (A29x0x76 N) progOk (T58x0_ok N) fun L x hx => (raw29x0x76 N L).trans ((bind29x0x76 N ..).trans ((altS alt1) x hx))
def F29x0 (v0 : LB) (v1 v2 : Int) (v4 v6 v8 : LD) (v9 : Bool) (k0 : Bool × LD × Int → Option R) : Option R :=
 bnd (G51x0 N v0 v1 v2 v4 v6 v8) fun y0 =>
 bif y0.isSome then
  bif ((y0.getD default) != 0) then
   k0 (true, [], (y0.getD default))
  else
   bnd (G52x0 N v4) fun y1 =>
   bif y1.isSome then
    bnd (decide ((IntKind.wrap .i64 (v2 + (y1.getD default))) > 4294967294)) fun y2 =>
    bif y2 then
     k0 (true, [], 9)
    else
     bnd (V54x0 N 0 0 false [(.a [(.i 253), (.i 4), (.i 0)]), (.a [(.i 1), (.i 60), (.i 2)]), (.a [(.i 2), (.i 1), (.i 0)])] v9) fun y3 =>
     bnd (G56x0 N v2 4 false v9) fun y4 =>
     bif y4.isSome then
      bnd (V57x0 N v0) fun y5 =>
      bnd (G56x0 N v1 1 false v9) fun y6 =>
      bif y6.isSome then
       bnd (G55x0 N 0 [(.l false (y4.getD default)), (.l false y5), (.l false (y6.getD default))] y3) fun y7 =>
       bif y7.isSome then
        bnd (G29x0x38 N (decide ((v8.length : Int) > 0)) v9 (y7.getD default)) fun y8 =>
        bif (inlB y8) then
         bnd (G29x0x42 N v8 (v8.length : Int) 0 false (inlV y8)) fun y9 =>
         bif y9.isSome then
          bnd (G29x0x59 N (decide ((v6.length : Int) > 0)) 253 4 0 v9 (y9.getD default).2) fun y10 =>
          bif (inlB y10) then
           bnd (G29x0x63 N v6 (v6.length : Int) v2 v9 0 false (inlV y10)) fun y11 =>
           bif y11.isSome then
            bnd (G29x0x76 N v2 v4 253 4 0 v9 (y11.getD default).2) fun y12 =>
            bif (inlB y12) then
             k0 ((y11.getD default).1, (y11.getD default).2, 0)
            else
             bif (inrQ y12).isSome then
              k0 (((inrQ y12).getD default).1, ((inrQ y12).getD default).2, 0)
             else
              none
           else
            none
          else
           bif (inrQ y10).isSome then
            bnd (G29x0x63 N v6 (v6.length : Int) v2 v9 0 (y9.getD default).1 (y9.getD default).2) fun y13 =>
            bif y13.isSome then
             bnd (G29x0x76 N v2 v4 253 4 0 v9 (y13.getD default).2) fun y14 =>
             bif (inlB y14) then
              k0 ((y13.getD default).1, (y13.getD default).2, 0)
             else
              bif (inrQ y14).isSome then
               k0 (((inrQ y14).getD default).1, ((inrQ y14).getD default).2, 0)
              else
               none
            else
             none
           else
            none
         else
          none
        else
         bif (inrQ y8).isSome then
          bnd (G29x0x42 N v8 (v8.length : Int) 0 false (y7.getD default)) fun y15 =>
          bif y15.isSome then
           bnd (G29x0x59 N (decide ((v6.length : Int) > 0)) 253 4 0 v9 (y15.getD default).2) fun y16 =>
           bif (inlB y16) then
            bnd (G29x0x63 N v6 (v6.length : Int) v2 v9 0 false (inlV y16)) fun y17 =>
            bif y17.isSome then
             bnd (G29x0x76 N v2 v4 253 4 0 v9 (y17.getD default).2) fun y18 =>
             bif (inlB y18) then
              k0 ((y17.getD default).1, (y17.getD default).2, 0)
             else
              bif (inrQ y18).isSome then
               k0 (((inrQ y18).getD default).1, ((inrQ y18).getD default).2, 0)
              else
               none
            else
             none
           else
            bif (inrQ y16).isSome then
             bnd (G29x0x63 N v6 (v6.length : Int) v2 v9 0 (y15.getD default).1 (y15.getD default).2) fun y19 =>
             bif y19.isSome then
              bnd (G29x0x76 N v2 v4 253 4 0 v9 (y19.getD default).2) fun y20 =>
              bif (inlB y20) then
               k0 ((y19.getD default).1, (y19.getD default).2, 0)
              else
               bif (inrQ y20).isSome then
                k0 (((inrQ y20).getD default).1, ((inrQ y20).getD default).2, 0)
               else
                none
             else
              none
            else
             none
          else
           none
         else
          none
       else
        none
      else
       none
     else
      none
   else
    none
 else
  none
def G29x0 (v0 : LB) (v1 v2 : Int) (v4 v6 v8 : LD) (v9 : Bool) : Option (Bool × LD × Int) := F29x0 N v0 v1 v2 v4 v6 v8 v9 (fun p => some p)
theorem bind29x0 (v0 : LB) (v1 v2 : Int) (v4 v6 v8 : LD) (v9 : Bool) (k0 : Bool × LD × Int → Option R) : F29x0 N v0 v1 v2 v4 v6 v8 v9 k0 = (G29x0 N v0 v1 v2 v4 v6 v8 v9).bind k0 := by
 unfold G29x0 F29x0
 repeat' (first | with_reducible apply cond_b | (with_reducible apply bnd_b; intro _) | rfl)
def J29x0 (L : List Lf) (k0 : Bool × LD × Int → Option R) : Option R := F29x0 N (ls L 0) (li L 1) (li L 2) (ll L 4) (ll L 6) (ll L 8) (lb L 9) k0
def sh29x0 : Sh := { tmps := [(0, .g (.s :: [.i .i64, .i .i64, .sl 74, .sl 118, .sl 9])), (1, .c (.b))], mem := [] }
def A29x0 (L : List Lf) : List (Bool × Res) := bnd (J29x0 N L (fun p => some p)) fun q => [(q.isSome, ([.g [.sl 41 (q.getD default).1 (q.getD default).2.1], .c (.i .i64 (q.getD default).2.2)], []))]
theorem raw29x0 (L : List Lf) : bd Try.prog (T58x0 N) (h29x0s5 N).h 29 sh29x0 L = J29x0 N L (fun p => some ([.g [.sl 41 p.1 p.2.1], .c (.i .i64 p.2.2)], [])) := by kernel_rfl
theorem ok29x0 : FnOk Try.prog 29 sh29x0 (A29x0 N) :=
 (h29x0s5 N).fn progOk (T58x0_ok N) fun L x hx => ((raw29x0 N L).trans ((bind29x0 N ..).trans (alt1 x hx)))
def T29x0 : Oracle := ext 29 (spSh sh29x0 (A29x0 N)) (T58x0 N)
theorem T29x0_ok : OracleOk Try.prog (T29x0 N) := FnOk.to (ok29x0 N) (T58x0_ok N)
def rg59x0 : List (Nat × List Nat) := [(0, [0]), (1, [1]), (2, [1, 3]), (3, [1, 3, 4]), (4, [11, 10, 9, 3, 4]), (5, [9, 11, 3, 4, 10]), (6, [3, 4, 6, 11, 10, 9]), (7, [11, 10, 9, 3, 4]), (8, [3])]
def hd59x0 : Hints := [(12, [3, 4, 9, 10, 11], [3, 8000000002], [3])]
def h59x0s0 (N : Nat) : Sg Try.prog 0 59 := .start hd59x0 rg59x0
def S59x0x12 (w1 : LD) (w2 : Int) (w3 : Int) (w4 : Bool) (w5 : LD) (w6 : D) (kr : Int → Bool → LD → D → Option R) (k0 : Bool × LD → Option R) : Option R :=
 bif (decide (w3 < w2)) then
  bif (inB w3 w1.length) then
   bnd (G37x0 N ((w1.getD w3.toNat (.i 0)).cell 0).toI ((w1.getD w3.toNat (.i 0)).cell 1).toI ((w1.getD w3.toNat (.i 0)).cell 2).toI ((w1.getD w3.toNat (.i 0)).cell 3).items ((w1.getD w3.toNat (.i 0)).cell 4).items w6) fun y0 =>
   bif y0.isSome then
    bif (decide ((w5.length + 1) * 8 ≤ room) && decide ((w5.length + 1) ≤ strMax)) then
     kr (IntKind.wrap .i64 (w3 + 1)) false (w5 ++ [(.i (y0.getD default).1)]) (y0.getD default).2
    else
     none
   else
    none
  else
   none
 else
  k0 (w4, w5)
def L59x0x12 (N : Nat) {R : Type} (w1 : LD) (w2 : Int) : Nat → Int → Bool → LD → D → (Bool × LD → Option R) → Option R
 | 0, _, _, _, _, _ => none
 | m + 1, w3, w4, w5, w6, k0 => S59x0x12 N w1 w2 w3 w4 w5 w6 (fun w3 w4 w5 w6 => L59x0x12 N w1 w2 m w3 w4 w5 w6 k0) k0
def G59x0x12 (w1 : LD) (w2 : Int) (w3 : Int) (w4 : Bool) (w5 : LD) (w6 : D) : Option (Bool × LD) := L59x0x12 N (R := (Bool × LD)) w1 w2 N w3 w4 w5 w6 (fun p => some p)
def J59x0x12 (L x : List Lf) (kr : List Lf → Option R) (k0 : Bool × LD → Option R) : Option R := S59x0x12 N (ll L 1) (li L 2) (li x 0) (lb x 1) (ll x 2) (ld x 3) (fun w3 w4 w5 w6 => kr [.i w3, .b w4, .l w5, .d w6]) k0
theorem sb59x0x12 (L x : List Lf) (kr : List Lf → Option R) (k0 : Bool × LD → Option R) : J59x0x12 N L x kr k0 = (J59x0x12 N L x (fun y => some (.inl y)) (fun p => some (.inr p))).bind (sumE kr k0) := by
 unfold J59x0x12 S59x0x12
 repeat' (first | with_reducible apply cond_b | (with_reducible apply bnd_b; intro _) | rfl)
def Q59x0x12 (L : List Lf) (m : Nat) (x : List Lf) : Option (Bool × LD) := L59x0x12 N (R := (Bool × LD)) (ll L 1) (li L 2) m (li x 0) (lb x 1) (ll x 2) (ld x 3) (fun p => some p)
def sh59x0x12 : Sh := { tmps := [(3, .c (.o 3)), (4, .c (.p 8000000002 0)), (9, .c (.sl 41)), (10, .c (.i .i64)), (11, .c (.i .i64))], mem := [(3, .row 3 true), (8000000002, .dat 93)] }
def A59x0x12 (L : List Lf) : List (Bool × (Ex × St)) := bnd (Q59x0x12 N L N (pk sh59x0x12 [3, 4, 5, 6] L)) fun q => [(q.isSome, ((.exit 0), ⟨[(3, .c (.o 3))], [(3, .row 3 true (q.getD default).1 (q.getD default).2)]⟩))]
theorem step59x0x12 (m : Nat) (kn : St → Option (Ex × St)) (L x : List Lf) : lpB Try.prog (T29x0 N) (h59x0s0 N).h 0 59 12 sh59x0x12 [3, 4, 5, 6] [2, 3] [3] (m + 100) kn L x = J59x0x12 N L x (fun y => kn (ofSh sh59x0x12 (mx sh59x0x12 [3, 4, 5, 6] L y))) (fun p => some ((.exit 0), ⟨[(3, .c (.o 3))], [(3, .row 3 true p.1 p.2)]⟩)) := by kernel_rfl
theorem ql59x0x12 (L : List Lf) (m : Nat) (x : List Lf) : Q59x0x12 N L (m + 1) x = J59x0x12 N L x (Q59x0x12 N L m) some := by kernel_rfl
def h59x0s1 : Sg Try.prog 0 59 :=
 (h59x0s0 N).lp (A59x0x12 N) N progOk (T29x0_ok N) (fun m kn L x => (step59x0x12 N m kn L x).trans (sb59x0x12 N L x _ _)) (fun L m x => (ql59x0x12 N L m x).trans (sb59x0x12 N L x (Q59x0x12 N L m) some)) fun L x hx => alt1 x hx
def F59x0 (v1 : LD) (k0 : Bool × LD → Option R) : Option R :=
 bnd (V36x0 N) fun y0 =>
 bnd (G59x0x12 N v1 (v1.length : Int) 0 true [] y0) fun y1 =>
 bif y1.isSome then
  k0 (y1.getD default)
 else
  none
def G59x0 (v1 : LD) : Option (Bool × LD) := F59x0 N v1 (fun p => some p)
theorem bind59x0 (v1 : LD) (k0 : Bool × LD → Option R) : F59x0 N v1 k0 = (G59x0 N v1).bind k0 := by
 unfold G59x0 F59x0
 repeat' (first | with_reducible apply cond_b | (with_reducible apply bnd_b; intro _) | rfl)
def sh59x0 : Sh := { tmps := [(0, .g ([.sl 41]))], mem := [] }
def A59x0 (L : List Lf) : List (Bool × Res) := bnd (F59x0 N (ll L 1) (fun p => some p)) fun q => [(q.isSome, ([.c (.sl 3 (q.getD default).1 (q.getD default).2)], []))]
theorem raw59x0 (L : List Lf) : bd Try.prog (T29x0 N) (h59x0s1 N).h 59 sh59x0 L = F59x0 N (ll L 1) (fun p => some ([.c (.sl 3 p.1 p.2)], [])) := by kernel_rfl
theorem ok59x0 : FnOk Try.prog 59 sh59x0 (A59x0 N) :=
 (h59x0s1 N).fn progOk (T29x0_ok N) fun L x hx => ((raw59x0 N L).trans ((bind59x0 N ..).trans (alt1 x hx)))
def T59x0 : Oracle := ext 59 (spSh sh59x0 (A59x0 N)) (T29x0 N)
theorem T59x0_ok : OracleOk Try.prog (T59x0 N) := FnOk.to (ok59x0 N) (T29x0_ok N)
def rg30x0 : List (Nat × List Nat) := [(0, [0]), (1, [1]), (2, [4, 1]), (3, [4]), (4, [1])]
def hd30x0 : Hints := []
def h30x0s0 (N : Nat) : Sg Try.prog 0 30 := .start hd30x0 rg30x0
def F30x0 (v1 : LD) (k0 : Bool × LD × Int → Option R) : Option R :=
 bnd (G23x0 N v1) fun y0 =>
 bif y0.isSome then
  bif ((y0.getD default) != 0) then
   k0 (true, [], (y0.getD default))
  else
   bnd (G59x0 N v1) fun y1 =>
   bif y1.isSome then
    k0 ((y1.getD default).1, (y1.getD default).2, 0)
   else
    none
 else
  none
def G30x0 (v1 : LD) : Option (Bool × LD × Int) := F30x0 N v1 (fun p => some p)
theorem bind30x0 (v1 : LD) (k0 : Bool × LD × Int → Option R) : F30x0 N v1 k0 = (G30x0 N v1).bind k0 := by
 unfold G30x0 F30x0
 repeat' (first | with_reducible apply cond_b | (with_reducible apply bnd_b; intro _) | rfl)
def sh30x0 : Sh := { tmps := [(0, .g ([.sl 41]))], mem := [] }
def A30x0 (L : List Lf) : List (Bool × Res) := bnd (F30x0 N (ll L 1) (fun p => some p)) fun q => [(q.isSome, ([.c (.sl 3 (q.getD default).1 (q.getD default).2.1), .c (.i .i64 (q.getD default).2.2)], []))]
theorem raw30x0 (L : List Lf) : bd Try.prog (T59x0 N) (h30x0s0 N).h 30 sh30x0 L = F30x0 N (ll L 1) (fun p => some ([.c (.sl 3 p.1 p.2.1), .c (.i .i64 p.2.2)], [])) := by kernel_rfl
theorem ok30x0 : FnOk Try.prog 30 sh30x0 (A30x0 N) :=
 (h30x0s0 N).fn progOk (T59x0_ok N) fun L x hx => ((raw30x0 N L).trans ((bind30x0 N ..).trans (alt1 x hx)))
def T30x0 : Oracle := ext 30 (spSh sh30x0 (A30x0 N)) (T59x0 N)
theorem T30x0_ok : OracleOk Try.prog (T30x0 N) := FnOk.to (ok30x0 N) (T59x0_ok N)
def rg31x0 : List (Nat × List Nat) := [(0, [0, 1]), (1, [0, 1]), (2, []), (3, [0, 1]), (4, [13, 12, 0, 1]), (5, [13, 0, 1, 12]), (6, [0, 5, 1, 13, 12]), (7, []), (8, [13, 12, 0, 1]), (9, [])]
def hd31x0 : Hints := [(12, [0, 1, 12, 13], [], [])]
def h31x0s0 (N : Nat) : Sg Try.prog 0 31 := .start hd31x0 rg31x0
def S31x0x12 (N : Nat) (w1 w3 : LD) (w4 : Int) (w5 : Int) (kr : Int → Option R) (k0 : Unit → Option R) (k1 : Unit → Option R) : Option R :=
 bif (decide (w5 < w4)) then
  bif (inB w5 w1.length) then
   bif (inB w5 w3.length) then
    bnd ((w1.getD w5.toNat (.i 0)).toI != (w3.getD w5.toNat (.i 0)).toI) fun y0 =>
    bif y0 then
     k0 ()
    else
     kr (IntKind.wrap .i64 (w5 + 1))
   else
    none
  else
   none
 else
  k1 ()
def L31x0x12 (N : Nat) {R : Type} (w1 w3 : LD) (w4 : Int) : Nat → Int → (Unit → Option R) → (Unit → Option R) → Option R
 | 0, _, _, _ => none
 | m + 1, w5, k0, k1 => S31x0x12 N w1 w3 w4 w5 (fun w5 => L31x0x12 N w1 w3 w4 m w5 k0 k1) k0 k1
def G31x0x12 (w1 w3 : LD) (w4 : Int) (w5 : Int) : Option (Sum (Unit) (Unit)) := L31x0x12 N (R := (Sum (Unit) (Unit))) w1 w3 w4 N w5 (fun p => some (.inl p)) (fun p => some (.inr p))
def J31x0x12 (L x : List Lf) (kr : List Lf → Option R) (k0 : Unit → Option R) (k1 : Unit → Option R) : Option R := S31x0x12 N (ll L 1) (ll L 3) (li L 4) (li x 0) (fun w5 => kr [.i w5]) k0 k1
theorem sb31x0x12 (L x : List Lf) (kr : List Lf → Option R) (k0 : Unit → Option R) (k1 : Unit → Option R) : J31x0x12 N L x kr k0 k1 = (J31x0x12 N L x (fun y => some (.inl y)) (fun p => some (.inr (.inl p))) (fun p => some (.inr (.inr p)))).bind (sumE kr (sumE k0 k1)) := by
 unfold J31x0x12 S31x0x12
 repeat' (first | with_reducible apply cond_b | (with_reducible apply bnd_b; intro _) | rfl)
def Q31x0x12 (L : List Lf) (m : Nat) (x : List Lf) : Option (Sum (Unit) (Unit)) := L31x0x12 N (R := (Sum (Unit) (Unit))) (ll L 1) (ll L 3) (li L 4) m (li x 0) (fun p => some (.inl p)) (fun p => some (.inr p))
def sh31x0x12 : Sh := { tmps := [(0, .c (.sl 3)), (1, .c (.sl 3)), (12, .c (.i .i64)), (13, .c (.i .i64))], mem := [] }
def A31x0x12 (L : List Lf) : List (Bool × (Ex × St)) := bnd (Q31x0x12 N L N (pk sh31x0x12 [5] L)) fun q => [((inlB q), (.ret, ⟨[(4, .c (.b false))], []⟩)), ((inrQ q).isSome, ((.exit 0), ⟨[], []⟩))]
theorem step31x0x12 (m : Nat) (kn : St → Option (Ex × St)) (L x : List Lf) : lpB Try.prog (T30x0 N) (h31x0s0 N).h 0 31 12 sh31x0x12 [5] [4] [] (m + 100) kn L x = J31x0x12 N L x (fun y => kn (ofSh sh31x0x12 (mx sh31x0x12 [5] L y))) (fun _ => some (.ret, ⟨[(4, .c (.b false))], []⟩)) (fun _ => some ((.exit 0), ⟨[], []⟩)) := by kernel_rfl
theorem ql31x0x12 (L : List Lf) (m : Nat) (x : List Lf) : Q31x0x12 N L (m + 1) x = J31x0x12 N L x (Q31x0x12 N L m) (fun p => some (.inl p)) (fun p => some (.inr p)) := by kernel_rfl
def h31x0s1 : Sg Try.prog 0 31 :=
 (h31x0s0 N).lp (A31x0x12 N) N progOk (T30x0_ok N) (fun m kn L x => (step31x0x12 N m kn L x).trans (sb31x0x12 N L x _ _ _)) (fun L m x => (ql31x0x12 N L m x).trans (sb31x0x12 N L x (Q31x0x12 N L m) (fun p => some (.inl p)) (fun p => some (.inr p)))) fun L x hx => (altS alt1) x hx
def F31x0 (v1 v3 : LD) (k0 : Bool → Option R) : Option R :=
 bif ((v1.length : Int) != (v3.length : Int)) then
  k0 false
 else
  bnd (G31x0x12 N v1 v3 (v1.length : Int) 0) fun y0 =>
  bif (inlB y0) then
   k0 false
  else
   bif (inrQ y0).isSome then
    k0 true
   else
    none
def G31x0 (v1 v3 : LD) : Option (Bool) := F31x0 N v1 v3 (fun p => some p)
theorem bind31x0 (v1 v3 : LD) (k0 : Bool → Option R) : F31x0 N v1 v3 k0 = (G31x0 N v1 v3).bind k0 := by
 unfold G31x0 F31x0
 repeat' (first | with_reducible apply cond_b | (with_reducible apply bnd_b; intro _) | rfl)
def sh31x0 : Sh := { tmps := [(0, .c (.sl 3)), (1, .c (.sl 3))], mem := [] }
def A31x0 (L : List Lf) : List (Bool × Res) := bnd (F31x0 N (ll L 1) (ll L 3) (fun p => some p)) fun q => [(q.isSome, ([.c (.b (q.getD default))], []))]
theorem raw31x0 (L : List Lf) : bd Try.prog (T30x0 N) (h31x0s1 N).h 31 sh31x0 L = F31x0 N (ll L 1) (ll L 3) (fun p => some ([.c (.b p)], [])) := by kernel_rfl
theorem ok31x0 : FnOk Try.prog 31 sh31x0 (A31x0 N) :=
 (h31x0s1 N).fn progOk (T30x0_ok N) fun L x hx => ((raw31x0 N L).trans ((bind31x0 N ..).trans (alt1 x hx)))
def T31x0 : Oracle := ext 31 (spSh sh31x0 (A31x0 N)) (T30x0 N)
theorem T31x0_ok : OracleOk Try.prog (T31x0 N) := FnOk.to (ok31x0 N) (T30x0_ok N)
def rg11x0 : List (Nat × List Nat) := [(0, []), (1, []), (2, [1]), (3, [2, 3]), (4, [3, 5, 4])]
def hd11x0 : Hints := [(13, [3, 4, 5], [], [])]
def h11x0s0 (N : Nat) : Sg Try.prog 0 11 := .start hd11x0 rg11x0
def F11x0x13 (w0 : Int) (w2 : LD) (w3 : Int) (k0 : Bool → Option R) : Option R :=
 bif (bif (w0 == 0) then (w3 == 0) else false) then
  bnd (G31x0 N w2 [(.i (-1)), (.i 100), (.i (-1)), (.i 100), (.i 105)]) fun y0 =>
  bif y0.isSome then
   k0 (y0.getD default)
  else
   none
 else
  k0 false
def G11x0x13 (w0 : Int) (w2 : LD) (w3 : Int) : Option (Bool) := F11x0x13 N w0 w2 w3 (fun p => some p)
theorem bind11x0x13 (w0 : Int) (w2 : LD) (w3 : Int) (k0 : Bool → Option R) : F11x0x13 N w0 w2 w3 k0 = (G11x0x13 N w0 w2 w3).bind k0 := by
 unfold G11x0x13 F11x0x13
 repeat' (first | with_reducible apply cond_b | (with_reducible apply bnd_b; intro _) | rfl)
def sh11x0x13 : Sh := { tmps := [(3, .c (.i .i64)), (4, .c (.sl 3)), (5, .c (.i .i64))], mem := [] }
def A11x0x13 (L : List Lf) : List (Bool × (Ex × St)) := bnd (F11x0x13 N (li L 0) (ll L 2) (li L 3) (fun p => some p)) fun q => [(q.isSome, (.normal, ⟨[(0, .c (.b (q.getD default)))], []⟩))]
theorem raw11x0x13 (L : List Lf) : pc Try.prog (T31x0 N) (h11x0s0 N).h 0 100 11 13 sh11x0x13 L [0] [] = F11x0x13 N (li L 0) (ll L 2) (li L 3) (fun p => some (.normal, ⟨[(0, .c (.b p))], []⟩)) := by kernel_rfl
def h11x0s1 : Sg Try.prog 0 11 :=
 (h11x0s0 N).cut (A11x0x13 N) progOk (T31x0_ok N) fun L x hx => (raw11x0x13 N L).trans ((bind11x0x13 N ..).trans (alt1 x hx))
def F11x0 (k0 : Bool → Option R) : Option R :=
 bnd (G29x0 N ([109] : List UInt8) 1 100 [(.a [(.i 0), (.i 0), (.i 0), (.i 0), (.i (-1)), (.i (-1)), (.i (-1))]), (.a [(.i 5), (.i 4), (.i 0), (.i 0), (.i 120), (.i (-1)), (.i (-1))])] [] [] false) fun y0 =>
 bif y0.isSome then
  bnd (G30x0 N (y0.getD default).2.1) fun y1 =>
  bif y1.isSome then
   bnd (G11x0x13 N (y0.getD default).2.2 (y1.getD default).2.1 (y1.getD default).2.2) fun y2 =>
   bif y2.isSome then
    k0 (y2.getD default)
   else
    none
  else
   none
 else
  none
def G11x0 : Option (Bool) := F11x0 N (fun p => some p)
theorem bind11x0 (k0 : Bool → Option R) : F11x0 N k0 = (G11x0 N).bind k0 := by
 unfold G11x0 F11x0
 repeat' (first | with_reducible apply cond_b | (with_reducible apply bnd_b; intro _) | rfl)
def sh11x0 : Sh := { tmps := [], mem := [] }
def A11x0 (L : List Lf) : List (Bool × Res) := bnd (F11x0 N (fun p => some p)) fun q => [(q.isSome, ([.c (.b (q.getD default))], []))]
theorem raw11x0 (L : List Lf) : bd Try.prog (T31x0 N) (h11x0s1 N).h 11 sh11x0 L = F11x0 N (fun p => some ([.c (.b p)], [])) := by kernel_rfl
theorem ok11x0 : FnOk Try.prog 11 sh11x0 (A11x0 N) :=
 (h11x0s1 N).fn progOk (T31x0_ok N) fun L x hx => ((raw11x0 N L).trans ((bind11x0 N ..).trans (alt1 x hx)))
def T11x0 : Oracle := ext 11 (spSh sh11x0 (A11x0 N)) (T31x0 N)
theorem T11x0_ok : OracleOk Try.prog (T11x0 N) := FnOk.to (ok11x0 N) (T31x0_ok N)
def rg3x0 : List (Nat × List Nat) := [(0, [0, 2, 1]), (1, [3, 1, 5]), (2, [3, 1, 5, 7, 8]), (3, [3, 1, 5, 7, 9, 8, 10]), (4, [3, 1, 5, 7, 9, 8, 10, 11, 12]), (5, [7, 9, 8, 10, 11, 13, 12, 14])]
def hd3x0 : Hints := [(16, [7, 8, 9, 10, 11, 12, 13, 14], [11, 13], [])]
def h3x0s0 (N : Nat) : Sg Try.prog 0 3 := .start hd3x0 rg3x0
def F3x0x16 (w1 : LD) (w2 : Int) (w4 : LD) (w5 w6 w7 : Int) (w9 w11 : LD) (k0 : Bool → Option R) : Option R :=
 bnd (G9x0 N w1 w4) fun y0 =>
 bif y0.isSome then
  bif (bif (y0.getD default) then (w2 == w5) else false) then
   bnd (G10x0 N w9 w11) fun y1 =>
   bif y1.isSome then
    bif (bif (y1.getD default) then (w6 == w7) else false) then
     bnd (G11x0 N) fun y2 =>
     bif y2.isSome then
      k0 (y2.getD default)
     else
      none
    else
     k0 false
   else
    none
  else
   k0 false
 else
  none
def G3x0x16 (w1 : LD) (w2 : Int) (w4 : LD) (w5 w6 w7 : Int) (w9 w11 : LD) : Option (Bool) := F3x0x16 N w1 w2 w4 w5 w6 w7 w9 w11 (fun p => some p)
theorem bind3x0x16 (w1 : LD) (w2 : Int) (w4 : LD) (w5 w6 w7 : Int) (w9 w11 : LD) (k0 : Bool → Option R) : F3x0x16 N w1 w2 w4 w5 w6 w7 w9 w11 k0 = (G3x0x16 N w1 w2 w4 w5 w6 w7 w9 w11).bind k0 := by
 unfold G3x0x16 F3x0x16
 repeat' (first | with_reducible apply cond_b | (with_reducible apply bnd_b; intro _) | rfl)
def J3x0x16 (L : List Lf) (k0 : Bool → Option R) : Option R := F3x0x16 N (ll L 1) (li L 2) (ll L 4) (li L 5) (li L 6) (li L 7) (ll L 9) (ll L 11) k0
def sh3x0x16 : Sh := { tmps := [(7, .c (.sl 26)), (8, .c (.i .i64)), (9, .c (.sl 26)), (10, .c (.i .i64)), (11, .c (.p 11 0)), (12, .c (.i .i64)), (13, .c (.p 13 0)), (14, .c (.i .i64))], mem := [(11, .box ([.sl 41])), (13, .box ([.sl 41]))] }
def A3x0x16 (L : List Lf) : List (Bool × (Ex × St)) := bnd (J3x0x16 N L (fun p => some p)) fun q => [(q.isSome, (.normal, ⟨[(6, .c (.b (q.getD default)))], []⟩))]
theorem raw3x0x16 (L : List Lf) : pc Try.prog (T11x0 N) (h3x0s0 N).h 0 100 3 16 sh3x0x16 L [6] [] = J3x0x16 N L (fun p => some (.normal, ⟨[(6, .c (.b p))], []⟩)) := by kernel_rfl
def h3x0s1 : Sg Try.prog 0 3 :=
 (h3x0s0 N).cut (A3x0x16 N) progOk (T11x0_ok N) fun L x hx => (raw3x0x16 N L).trans ((bind3x0x16 N ..).trans (alt1 x hx))
def F3x0 (v1 : LD) (v2 v3 v4 v5 : Int) (v6 : LB) (v7 : Bool) (k0 : Bool → Option R) : Option R :=
 bnd (G5x0 N v1 v2) fun y0 =>
 bif y0.isSome then
  bnd (G6x0 N v1 v2) fun y1 =>
  bif y1.isSome then
   bif (setG N v1 v2 v3 v4 v5 v6 v7).isSome then
    bnd (G8x0 N v1 v2 v3 v4 v5 v6 v7) fun y2 =>
    bif y2.isSome then
     bnd (G3x0x16 N (y0.getD default).2.1 (y0.getD default).2.2 (y1.getD default).2.1 (y1.getD default).2.2 ((setG N v1 v2 v3 v4 v5 v6 v7).getD default).2.2 (y2.getD default).2.2 ((setG N v1 v2 v3 v4 v5 v6 v7).getD default).2.1 (y2.getD default).2.1) fun y3 =>
     bif y3.isSome then
      k0 (y3.getD default)
     else
      none
    else
     none
   else
    none
  else
   none
 else
  none
def G3x0 (v1 : LD) (v2 v3 v4 v5 : Int) (v6 : LB) (v7 : Bool) : Option (Bool) := F3x0 N v1 v2 v3 v4 v5 v6 v7 (fun p => some p)
theorem bind3x0 (v1 : LD) (v2 v3 v4 v5 : Int) (v6 : LB) (v7 : Bool) (k0 : Bool → Option R) : F3x0 N v1 v2 v3 v4 v5 v6 v7 k0 = (G3x0 N v1 v2 v3 v4 v5 v6 v7).bind k0 := by
 unfold G3x0 F3x0
 repeat' (first | with_reducible apply cond_b | (with_reducible apply bnd_b; intro _) | rfl)
def J3x0 (L : List Lf) (k0 : Bool → Option R) : Option R := F3x0 N (ll L 1) (li L 2) (li L 3) (li L 4) (li L 5) (ls L 6) (lb L 7) k0
def sh3x0 : Sh := { tmps := [(0, .g ([.sl 41])), (1, .c (.i .i64)), (2, .g ([.i .i64, .i .i64, .i .i64, .s, .b]))], mem := [] }
def A3x0 (L : List Lf) : List (Bool × Res) := bnd (J3x0 N L (fun p => some p)) fun q => [(q.isSome, ([.c (.b (q.getD default))], []))]
theorem raw3x0 (L : List Lf) : bd Try.prog (T11x0 N) (h3x0s1 N).h 3 sh3x0 L = J3x0 N L (fun p => some ([.c (.b p)], [])) := by kernel_rfl
theorem ok3x0 : FnOk Try.prog 3 sh3x0 (A3x0 N) :=
 (h3x0s1 N).fn progOk (T11x0_ok N) fun L x hx => ((raw3x0 N L).trans ((bind3x0 N ..).trans (alt1 x hx)))
def T3x0 : Oracle := ext 3 (spSh sh3x0 (A3x0 N)) (T11x0 N)
theorem T3x0_ok : OracleOk Try.prog (T3x0 N) := FnOk.to (ok3x0 N) (T11x0_ok N)

end
end Go.Proofs.Ytfogaejiehebeaa
