/- Functions of the program as plain Lean definitions, each with the proof that the program computes it. No condition. Printed by a program of the prover, part 2. -/
import Derived.Test.YtpnacmnpahjpoaaGreatDoorWKp1
import Derived.KernelRfl
set_option linter.all false
set_option maxRecDepth 100000
namespace Go.Proofs.YtpnacmnpahjpoaaGreatDoor
open Go Go.AM
noncomputable section
variable (N : Nat) {R : Type}
def A43x0x14 (L : List Lf) : List (Bool × (Ex × St)) := bnd (J43x0x14 N L (fun p => p)) fun q => [(true, K43x0x14w0 L q)]
theorem raw43x0x14 (L : List Lf) : pc Tryz.prog (T68x0 N) (h43x0s0 N).h 0 100 43 14 sh43x0x14 L [3, 4, 9, 2, 6] [9, 6, 4, 3] = J43x0x14 N L (fun p => some (K43x0x14w0 L p)) := by kernel_rfl
def h43x0s1 : Sg Tryz.prog 0 43 :=
 (h43x0s0 N).cut (A43x0x14 N) progOk (T68x0_ok N) fun L x hx => (raw43x0x14 N L).trans ((tot43x0x14 N ..).trans (alt0 _ _ hx))
def F43x0x29 (N : Nat) (w1 : Int) (w2 : Bool) (w26 w27 : Int) (k0 : Int → R) : R :=
 bif w2 then
  k0 (IntKind.wrap .i64 ((IntKind.wrap .i64 (w26 + w27)).tdiv 2))
 else
  k0 w1
def V43x0x29 (w1 : Int) (w2 : Bool) (w26 w27 : Int) : Int := F43x0x29 N w1 w2 w26 w27 (fun p => p)
theorem tot43x0x29 (w1 : Int) (w2 : Bool) (w26 w27 : Int) (k0 : Int → R) : F43x0x29 N w1 w2 w26 w27 k0 = k0 (V43x0x29 N w1 w2 w26 w27) := by
 unfold V43x0x29 F43x0x29
 repeat' (first | rfl | apply cond_k | (apply bnd_k; intro _))
def J43x0x29 (L : List Lf) (k0 : Int → R) : R := F43x0x29 N (li L 1) (lb L 2) (li L 26) (li L 27) k0
def sh43x0x29 : Sh := { tmps := [(2, .c (.i .i64)), (3, .c (.p 3 0)), (6, .c (.p 6 0)), (9, .c (.p 9 0)), (11, .c (.i .i64)), (56, .c (.b))], mem := [(3, .box (.i .i64 :: .s :: .i .i64 :: .i .i64 :: .i .i64 :: [.b, .i .i64, .i .i64, .i .i64, .sl 64])), (6, .box (.i .i64 :: .i .i64 :: .s :: rI 5 ([]))), (9, .box (.i .i64 :: .i .i64 :: .s :: rI 5 ([])))] }
def K43x0x29w0 (L : List Lf) (p : Int) : Ex × St := (.normal, mg (ofSh sh43x0x29 L) [3, 11, 2, 9, 6] [(11, .c (.i .i64 p))] [9, 6, 3] [])
def A43x0x29 (L : List Lf) : List (Bool × (Ex × St)) := bnd (J43x0x29 N L (fun p => p)) fun q => [(true, K43x0x29w0 L q)]
theorem raw43x0x29 (L : List Lf) : pc Tryz.prog (T68x0 N) (h43x0s1 N).h 0 100 43 29 sh43x0x29 L [3, 11, 2, 9, 6] [9, 6, 3] = J43x0x29 N L (fun p => some (K43x0x29w0 L p)) := by kernel_rfl
def h43x0s2 : Sg Tryz.prog 0 43 :=
 (h43x0s1 N).cut (A43x0x29 N) progOk (T68x0_ok N) fun L x hx => (raw43x0x29 N L).trans ((tot43x0x29 N ..).trans (alt0 _ _ hx))
def F43x0x23 (w1 : Int) (w2 : Bool) (w6 w7 w16 w29 w30 : Int) (k0 : Int → Option R) : Option R :=
 bif w2 then
  bnd (V43x0x29 N w16 (w7 == 4) w29 w30) fun y0 =>
  bnd (G68x0 N w6 y0) fun y1 =>
  bif y1.isSome then
   k0 (y1.getD default).1
  else
   none
 else
  k0 w1
def G43x0x23 (w1 : Int) (w2 : Bool) (w6 w7 w16 w29 w30 : Int) : Option (Int) := F43x0x23 N w1 w2 w6 w7 w16 w29 w30 (fun p => some p)
theorem bind43x0x23 (w1 : Int) (w2 : Bool) (w6 w7 w16 w29 w30 : Int) (k0 : Int → Option R) : F43x0x23 N w1 w2 w6 w7 w16 w29 w30 k0 = (G43x0x23 N w1 w2 w6 w7 w16 w29 w30).bind k0 := by
 unfold G43x0x23 F43x0x23
 repeat' (first | with_reducible apply cond_b | (with_reducible apply bnd_b; intro _) | rfl)
def J43x0x23 (L : List Lf) (k0 : Int → Option R) : Option R := F43x0x23 N (li L 1) (lb L 2) (li L 6) (li L 7) (li L 16) (li L 29) (li L 30) k0
def sh43x0x23 : Sh := { tmps := [(2, .c (.i .i64)), (3, .c (.p 3 0)), (4, .c (.p 4 0)), (6, .c (.p 6 0)), (9, .c (.p 9 0)), (10, .c (.i .i64)), (50, .c (.b))], mem := [(3, .box (.i .i64 :: .s :: .i .i64 :: .i .i64 :: .i .i64 :: [.b, .i .i64, .i .i64, .i .i64, .sl 64])), (4, .box ([.i .i64, .i .i64, .i .i64])), (6, .box (.i .i64 :: .i .i64 :: .s :: rI 5 ([]))), (9, .box (.i .i64 :: .i .i64 :: .s :: rI 5 ([])))] }
def K43x0x23w0 (L : List Lf) (p : Int) : Ex × St := (.normal, mg (ofSh sh43x0x23 L) [2, 10, 9, 6] [(10, .c (.i .i64 p))] [6, 9] [])
def A43x0x23 (L : List Lf) : List (Bool × (Ex × St)) := bnd (J43x0x23 N L (fun p => some p)) fun q => [(q.isSome, K43x0x23w0 L (q.getD default))]
theorem raw43x0x23 (L : List Lf) : pc Tryz.prog (T68x0 N) (h43x0s2 N).h 0 100 43 23 sh43x0x23 L [2, 10, 9, 6] [6, 9] = J43x0x23 N L (fun p => some (K43x0x23w0 L p)) := by kernel_rfl
def h43x0s3 : Sg Tryz.prog 0 43 :=
 (h43x0s2 N).cut (A43x0x23 N) progOk (T68x0_ok N) fun L x hx => (raw43x0x23 N L).trans ((bind43x0x23 N ..).trans (alt1 x hx))
def F43x0 (v0 v2 v3 v4 : Int) (v5 : Bool) (v6 v7 v11 v12 v13 v14 : Int) (k0 : Ty1 → Option R) : Option R :=
 bnd (G67x0 N v4 v5 v6 v11 v12 v13) fun y0 =>
 bif y0.isSome then
  bnd (G67x0 N v4 v5 v7 v11 v12 v13) fun y1 =>
  bif y1.isSome then
   bnd (V43x0x14 N (y0.getD default) (y1.getD default) (v0 == 2) 0 0) fun y2 =>
   bnd (G43x0x23 N v2 (decide (v3 > 0)) v3 v4 v13 (min2 (y0.getD default) (y1.getD default)) (max2 (y0.getD default) (y1.getD default))) fun y3 =>
   bif y3.isSome then
    bnd (IntKind.wrap .i64 (v14 + (max2 (y3.getD default) 1))) fun y4 =>
    k0 (y4, (min2 (y0.getD default) (y1.getD default)), (max2 (y0.getD default) (y1.getD default)), y2.1, y2.2)
   else
    none
  else
   none
 else
  none
def G43x0 (v0 v2 v3 v4 : Int) (v5 : Bool) (v6 v7 v11 v12 v13 v14 : Int) : Option (Ty1) := F43x0 N v0 v2 v3 v4 v5 v6 v7 v11 v12 v13 v14 (fun p => some p)
theorem bind43x0 (v0 v2 v3 v4 : Int) (v5 : Bool) (v6 v7 v11 v12 v13 v14 : Int) (k0 : Ty1 → Option R) : F43x0 N v0 v2 v3 v4 v5 v6 v7 v11 v12 v13 v14 k0 = (G43x0 N v0 v2 v3 v4 v5 v6 v7 v11 v12 v13 v14).bind k0 := by
 unfold G43x0 F43x0
 repeat' (first | with_reducible apply cond_b | (with_reducible apply bnd_b; intro _) | rfl)
def J43x0 (L : List Lf) (k0 : Ty1 → Option R) : Option R := F43x0 N (li L 0) (li L 2) (li L 3) (li L 4) (lb L 5) (li L 6) (li L 7) (li L 11) (li L 12) (li L 13) (li L 14) k0
def sh43x0 : Sh := { tmps := [(0, .g (.i .i64 :: .s :: .i .i64 :: .i .i64 :: .i .i64 :: [.b, .i .i64, .i .i64, .i .i64, .sl 64])), (1, .g ([.i .i64, .i .i64, .i .i64])), (2, .c (.i .i64))], mem := [] }
def K43x0w0 (L : List Lf) (p : Ty1) : Res := ([.g [.i .i64 (li L 14), .i .i64 p.1, .s (ls L 1), .i .i64 (li L 4), .i .i64 p.2.1, .i .i64 p.2.2.1, .i .i64 p.2.2.2.1, .i .i64 p.2.2.2.2]], [])
def A43x0 (L : List Lf) : List (Bool × Res) := bnd (J43x0 N L (fun p => some p)) fun q => [(q.isSome, K43x0w0 L (q.getD default))]
theorem raw43x0 (L : List Lf) : bd Tryz.prog (T68x0 N) (h43x0s3 N).h 43 sh43x0 L = J43x0 N L (fun p => some (K43x0w0 L p)) := by kernel_rfl
theorem ok43x0 : FnOk Tryz.prog 43 sh43x0 (A43x0 N) :=
 (h43x0s3 N).fn progOk (T68x0_ok N) fun L x hx => ((raw43x0 N L).trans ((bind43x0 N ..).trans (alt1 x hx)))
def T43x0 : Oracle := ext 43 (spSh sh43x0 (A43x0 N)) (T68x0 N)
theorem T43x0_ok : OracleOk Tryz.prog (T43x0 N) := FnOk.to (ok43x0 N) (T68x0_ok N)
def rg16x0 : List (Nat × List Nat) := [(0, [0, 1]), (1, [2, 3]), (2, [6, 3, 2]), (3, [6]), (4, [3, 2]), (5, [7, 2, 3]), (6, [7]), (7, [2, 3]), (8, [2, 3, 8]), (9, [2, 3, 9, 8]), (10, [27, 26, 25, 3, 9, 8]), (11, [25, 27, 3, 9, 8, 26]), (12, [11, 3, 9, 8, 27, 26, 25]), (13, [8, 12, 27, 26, 25, 3]), (14, [12, 27, 26, 25, 3, 8]), (15, [27, 26, 25, 3, 9, 8]), (16, [9, 8]), (17, []), (18, [8])]
def hd16x0 : Hints := [(30, [3, 8, 9, 25, 26, 27], [3, 8], [8])]
def h16x0s0 (N : Nat) : Sg Tryz.prog 0 16 := .start hd16x0 rg16x0
def S16x0x30 (w2 : LD) (w3 w5 w6 w7 : Int) (w0 w4 : Int) (w8 : Bool) (w9 : LD) (kr : Int → Int → Bool → LD → Option R) (k0 : Int × Bool × LD → Option R) : Option R :=
 bif (decide (w4 < w3)) then
  bif (inB w4 w2.length) then
   bnd (G43x0 N ((w2.getD w4.toNat (.i 0)).cell 0).toI ((w2.getD w4.toNat (.i 0)).cell 2).toI ((w2.getD w4.toNat (.i 0)).cell 3).toI ((w2.getD w4.toNat (.i 0)).cell 4).toI ((w2.getD w4.toNat (.i 0)).cell 5).toB ((w2.getD w4.toNat (.i 0)).cell 6).toI ((w2.getD w4.toNat (.i 0)).cell 7).toI w5 w6 w7 w0) fun y0 =>
   bif y0.isSome then
    bif (decide ((w9.length + 1) * 72 ≤ room) && decide ((w9.length + 1) ≤ strMax)) then
     bnd ((w9 ++ [(.a [(.i w0), (.i (y0.getD default).1), (.s ((w2.getD w4.toNat (.i 0)).cell 1).toS), (.i ((w2.getD w4.toNat (.i 0)).cell 4).toI), (.i (y0.getD default).2.1), (.i (y0.getD default).2.2.1), (.i (y0.getD default).2.2.2.1), (.i (y0.getD default).2.2.2.2)])]) : List D) fun y1 =>
     kr (y0.getD default).1 (IntKind.wrap .i64 (w4 + 1)) false y1
    else
     none
   else
    none
  else
   none
 else
  k0 (w0, w8, w9)
def L16x0x30 (N : Nat) {R : Type} (w2 : LD) (w3 w5 w6 w7 : Int) : Nat → Int → Int → Bool → LD → (Int × Bool × LD → Option R) → Option R
 | 0, _, _, _, _, _ => none
 | m + 1, w0, w4, w8, w9, k0 => S16x0x30 N w2 w3 w5 w6 w7 w0 w4 w8 w9 (fun w0 w4 w8 w9 => L16x0x30 N w2 w3 w5 w6 w7 m w0 w4 w8 w9 k0) k0
def G16x0x30 (w2 : LD) (w3 w5 w6 w7 : Int) (w0 w4 : Int) (w8 : Bool) (w9 : LD) : Option (Int × Bool × LD) := L16x0x30 N (R := (Int × Bool × LD)) w2 w3 w5 w6 w7 N w0 w4 w8 w9 (fun p => some p)
def J16x0x30 (L x : List Lf) (kr : List Lf → Option R) (k0 : Int × Bool × LD → Option R) : Option R := S16x0x30 N (ll L 2) (li L 3) (li L 5) (li L 6) (li L 7) (li x 0) (li x 1) (lb x 2) (ll x 3) (fun w0 w4 w8 w9 => kr [.i w0, .i w4, .b w8, .l w9]) k0
theorem sb16x0x30 (L x : List Lf) (kr : List Lf → Option R) (k0 : Int × Bool × LD → Option R) : J16x0x30 N L x kr k0 = (J16x0x30 N L x (fun y => some (.inl y)) (fun p => some (.inr p))).bind (sumE kr k0) := by
 unfold J16x0x30 S16x0x30
 repeat' (first | with_reducible apply cond_b | (with_reducible apply bnd_b; intro _) | rfl)
def Q16x0x30 (L : List Lf) (m : Nat) (x : List Lf) : Option (Int × Bool × LD) := L16x0x30 N (R := (Int × Bool × LD)) (ll L 2) (li L 3) (li L 5) (li L 6) (li L 7) m (li x 0) (li x 1) (lb x 2) (ll x 3) (fun p => some p)
def sh16x0x30 : Sh := { tmps := [(3, .c (.p 3 0)), (8, .c (.o 8)), (9, .c (.i .i64)), (25, .c (.sl 64)), (26, .c (.i .i64)), (27, .c (.i .i64))], mem := [(3, .box ([.i .i64, .i .i64, .i .i64])), (8, .row 39 true)] }
def K16x0x30w0 (L : List Lf) (p : Int × Bool × LD) : Ex × St := ((.exit 0), ⟨[(9, .c (.i .i64 p.1)), (8, .c (.o 8))], [(8, .row 39 true p.2.1 p.2.2)]⟩)
def A16x0x30 (L : List Lf) : List (Bool × (Ex × St)) := bnd (Q16x0x30 N L N (pk sh16x0x30 [0, 4, 8, 9] L)) fun q => [(q.isSome, K16x0x30w0 L (q.getD default))]
theorem step16x0x30 (m : Nat) (kn : St → Option (Ex × St)) (L x : List Lf) : lpB Tryz.prog (T43x0 N) (h16x0s0 N).h 0 16 30 sh16x0x30 [0, 4, 8, 9] [4, 5, 9, 8] [8] (m + 100) kn L x = J16x0x30 N L x (fun y => kn (ofSh sh16x0x30 (mx sh16x0x30 [0, 4, 8, 9] L y))) (fun p => some (K16x0x30w0 L p)) := by kernel_rfl
theorem ql16x0x30 (L : List Lf) (m : Nat) (x : List Lf) : Q16x0x30 N L (m + 1) x = J16x0x30 N L x (Q16x0x30 N L m) some := by kernel_rfl
def h16x0s1 : Sg Tryz.prog 0 16 :=
 (h16x0s0 N).lp (A16x0x30 N) N progOk (T43x0_ok N) (fun m kn L x => (step16x0x30 N m kn L x).trans (sb16x0x30 N L x _ _)) (fun L m x => (ql16x0x30 N L m x).trans (sb16x0x30 N L x (Q16x0x30 N L m) some)) fun L x hx => alt1 x hx
def F16x0 (v0 : LB) (v1 : Bool) (v2 : LD) (v3 v4 v5 : Int) (k0 : Bool × LD × Int → Option R) : Option R :=
 bnd (G11x0 N v0 v1 v2) fun y0 =>
 bif y0.isSome then
  bif ((y0.getD default) != 0) then
   k0 (true, [], (y0.getD default))
  else
   bnd (V20x0 N v3 v4 v5) fun y1 =>
   bif (y1 != 0) then
    k0 (true, [], y1)
   else
    bnd (R42x1 N N v1 v2) fun y2 =>
    bif y2.isSome then
     bnd (G16x0x30 N (y2.getD default).2 ((y2.getD default).2.length : Int) v3 v4 v5 0 0 true []) fun y3 =>
     bif y3.isSome then
      bif (decide ((y3.getD default).1 > 1000000)) then
       k0 (true, [], 3)
      else
       k0 ((y3.getD default).2.1, (y3.getD default).2.2, 0)
     else
      none
    else
     none
 else
  none
def G16x0 (v0 : LB) (v1 : Bool) (v2 : LD) (v3 v4 v5 : Int) : Option (Bool × LD × Int) := F16x0 N v0 v1 v2 v3 v4 v5 (fun p => some p)
theorem bind16x0 (v0 : LB) (v1 : Bool) (v2 : LD) (v3 v4 v5 : Int) (k0 : Bool × LD × Int → Option R) : F16x0 N v0 v1 v2 v3 v4 v5 k0 = (G16x0 N v0 v1 v2 v3 v4 v5).bind k0 := by
 unfold G16x0 F16x0
 repeat' (first | with_reducible apply cond_b | (with_reducible apply bnd_b; intro _) | rfl)
def J16x0 (L : List Lf) (k0 : Bool × LD × Int → Option R) : Option R := F16x0 N (ls L 0) (lb L 1) (ll L 2) (li L 3) (li L 4) (li L 5) k0
def sh16x0 : Sh := { tmps := [(0, .g ([.s, .sl 64])), (1, .g ([.i .i64, .i .i64, .i .i64]))], mem := [] }
def A16x0 (L : List Lf) : List (Bool × Res) := bnd (J16x0 N L (fun p => some p)) fun q => [(q.isSome, ([.c (.sl 39 (q.getD default).1 (q.getD default).2.1), .c (.i .i64 (q.getD default).2.2)], []))]
theorem raw16x0 (L : List Lf) : bd Tryz.prog (T43x0 N) (h16x0s1 N).h 16 sh16x0 L = J16x0 N L (fun p => some ([.c (.sl 39 p.1 p.2.1), .c (.i .i64 p.2.2)], [])) := by kernel_rfl
theorem ok16x0 : FnOk Tryz.prog 16 sh16x0 (A16x0 N) :=
 (h16x0s1 N).fn progOk (T43x0_ok N) fun L x hx => ((raw16x0 N L).trans ((bind16x0 N ..).trans (alt1 x hx)))
def T16x0 : Oracle := ext 16 (spSh sh16x0 (A16x0 N)) (T43x0 N)
theorem T16x0_ok : OracleOk Tryz.prog (T16x0 N) := FnOk.to (ok16x0 N) (T43x0_ok N)
end
end Go.Proofs.YtpnacmnpahjpoaaGreatDoor
