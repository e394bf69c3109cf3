/- Functions of the program as plain Lean definitions, each with the proof that the program computes it. No condition. Printed by a program of the prover, part 2. -/
import Derived.Test.YtohplnjpncjhoaaGreatDoorVRp1
import Derived.KernelRfl
set_option linter.all false
set_option maxRecDepth 100000
namespace Go.Proofs.YtohplnjpncjhoaaGreatDoor
open Go Go.AM
noncomputable section
variable (N : Nat) {R : Type}
theorem bind81x0x14b (w3 : Bool) (k0 : LB → Option R) (k1 : Unit → Option R) : F81x0x14b N w3 k0 k1 = (G81x0x14b N w3).bind (sumE k0 k1) := by
 unfold G81x0x14b F81x0x14b
 repeat' (first | with_reducible apply cond_b | (with_reducible apply bnd_b; intro _) | rfl)
def sh81x0x14b : Sh := { tmps := [(2, .c (.sl 47)), (3, .c (.p 3 0)), (4, .c (.p 4 0)), (6, .c (.p 6 0)), (7, .c (.i .i64)), (8, .c (.p 8 0)), (31, .c (.b))], mem := [(3, .box (rB 5 ([.sl 3, .b, .b]))), (4, .box (.s :: [.i .i64, .i .i64, .sl 47, .sl 110, .sl 9])), (6, .box (.s :: [.i .i64, .i .i64, .sl 47, .sl 110, .sl 9])), (8, .box (.s :: [.i .i64, .i .i64, .sl 47, .sl 110, .o 29000000007])), (29000000007, .row 9 true)] }
def K81x0x14bw0 (L : List Lf) (p : LB) : Ex × St := (.normal, mg (ofSh sh81x0x14b L) [3, 8, 2, 7, 4, 6] [] [8, 6, 4, 3, 29000000007] [(8, .box [.s p, .i .i64 (li L 32), .i .i64 (li L 33), .sl 47 (lb L 34) (ll L 35), .sl 110 (lb L 36) (ll L 37), .sl 9 true []])])
def K81x0x14bw1 (L : List Lf) (_ : Unit) : Ex × St := (.normal, mg (ofSh sh81x0x14b L) [3, 8, 2, 7, 4, 6] [] [8, 6, 4, 3, 29000000007] [])
def A81x0x14b (L : List Lf) : List (Bool × (Ex × St)) := bnd (F81x0x14b N (lb L 3) (fun p => some (.inl p)) (fun p => some (.inr p))) fun q => [((inlB q), K81x0x14bw0 L (inlV q)), ((inrQ q).isSome, K81x0x14bw1 L ())]
theorem raw81x0x14b (L : List Lf) : pc Tryz.prog (T108x0 N) ((h81x0s6 N).no 14).h 0 100 81 14 sh81x0x14b L [3, 8, 2, 7, 4, 6] [8, 6, 4, 3, 29000000007] = F81x0x14b N (lb L 3) (fun p => some (K81x0x14bw0 L p)) (fun _ => some (K81x0x14bw1 L ())) := by kernel_rfl
def h81x0s7 : Sg Tryz.prog 0 81 :=
 (h81x0s6 N).add (((h81x0s6 N).no 14).cut (A81x0x14b N) progOk (T108x0_ok N) fun L x hx => (raw81x0x14b N L).trans ((bind81x0x14b N ..).trans ((altS alt1) x hx))) 14
def F81x0x20b (w3 : Bool) (w33 : Int) (k0 : Int → Option R) : Option R :=
 bif w3 then
  bnd (G107x0 N w33 86400) fun y0 =>
  bif y0.isSome then
   k0 (y0.getD default)
  else
   none
 else
  k0 w33
def G81x0x20b (w3 : Bool) (w33 : Int) : Option (Int) := F81x0x20b N w3 w33 (fun p => some p)
theorem bind81x0x20b (w3 : Bool) (w33 : Int) (k0 : Int → Option R) : F81x0x20b N w3 w33 k0 = (G81x0x20b N w3 w33).bind k0 := by
 unfold G81x0x20b F81x0x20b
 repeat' (first | with_reducible apply cond_b | (with_reducible apply bnd_b; intro _) | rfl)
def sh81x0x20b : Sh := { tmps := [(2, .c (.sl 47)), (3, .c (.p 3 0)), (4, .c (.p 4 0)), (6, .c (.p 6 0)), (7, .c (.i .i64)), (8, .c (.p 8 0)), (35, .c (.b))], mem := [(3, .box (rB 5 ([.sl 3, .b, .b]))), (4, .box (.s :: [.i .i64, .i .i64, .sl 47, .sl 110, .sl 9])), (6, .box (.s :: [.i .i64, .i .i64, .sl 47, .sl 110, .sl 9])), (8, .box (.s :: [.i .i64, .i .i64, .sl 47, .sl 110, .sl 9])), (29000000007, .row 9 true)] }
def K81x0x20bw0 (L : List Lf) (p : Int) : Ex × St := (.normal, mg (ofSh sh81x0x20b L) [2, 3, 7, 8, 4, 6] [] [8, 6, 4, 3] [(8, .box [.s (ls L 31), .i .i64 (li L 32), .i .i64 p, .sl 47 (lb L 34) (ll L 35), .sl 110 (lb L 36) (ll L 37), .sl 9 (lb L 38) (ll L 39)])])
def A81x0x20b (L : List Lf) : List (Bool × (Ex × St)) := bnd (F81x0x20b N (lb L 3) (li L 33) (fun p => some p)) fun q => [(q.isSome, K81x0x20bw0 L (q.getD default))]
theorem raw81x0x20b (L : List Lf) : pc Tryz.prog (T108x0 N) ((h81x0s7 N).no 20).h 0 100 81 20 sh81x0x20b L [2, 3, 7, 8, 4, 6] [8, 6, 4, 3] = F81x0x20b N (lb L 3) (li L 33) (fun p => some (K81x0x20bw0 L p)) := by kernel_rfl
def h81x0s8 : Sg Tryz.prog 0 81 :=
 (h81x0s7 N).add (((h81x0s7 N).no 20).cut (A81x0x20b N) progOk (T108x0_ok N) fun L x hx => (raw81x0x20b N L).trans ((bind81x0x20b N ..).trans (alt1 x hx))) 20
def F81x0x20bb (w3 : Bool) (w33 : Int) (k0 : Int → Option R) : Option R :=
 bif w3 then
  bnd (G107x0 N w33 86400) fun y0 =>
  bif y0.isSome then
   k0 (y0.getD default)
  else
   none
 else
  k0 w33
def G81x0x20bb (w3 : Bool) (w33 : Int) : Option (Int) := F81x0x20bb N w3 w33 (fun p => some p)
theorem bind81x0x20bb (w3 : Bool) (w33 : Int) (k0 : Int → Option R) : F81x0x20bb N w3 w33 k0 = (G81x0x20bb N w3 w33).bind k0 := by
 unfold G81x0x20bb F81x0x20bb
 repeat' (first | with_reducible apply cond_b | (with_reducible apply bnd_b; intro _) | rfl)
def sh81x0x20bb : Sh := { tmps := [(2, .c (.sl 47)), (3, .c (.p 3 0)), (4, .c (.p 4 0)), (6, .c (.p 6 0)), (7, .c (.i .i64)), (8, .c (.p 8 0)), (35, .c (.b))], mem := [(3, .box (rB 5 ([.sl 3, .b, .b]))), (4, .box (.s :: [.i .i64, .i .i64, .sl 47, .sl 110, .sl 9])), (6, .box (.s :: [.i .i64, .i .i64, .sl 47, .sl 110, .sl 9])), (8, .box (.s :: [.i .i64, .i .i64, .sl 47, .sl 110, .o 29000000007])), (29000000007, .row 9 true)] }
def K81x0x20bbw0 (L : List Lf) (p : Int) : Ex × St := (.normal, mg (ofSh sh81x0x20bb L) [2, 3, 7, 8, 4, 6] [] [29000000007, 8, 6, 4, 3] [(8, .box [.s (ls L 31), .i .i64 (li L 32), .i .i64 p, .sl 47 (lb L 34) (ll L 35), .sl 110 (lb L 36) (ll L 37), .o 29000000007])])
def A81x0x20bb (L : List Lf) : List (Bool × (Ex × St)) := bnd (F81x0x20bb N (lb L 3) (li L 33) (fun p => some p)) fun q => [(q.isSome, K81x0x20bbw0 L (q.getD default))]
theorem raw81x0x20bb (L : List Lf) : pc Tryz.prog (T108x0 N) ((h81x0s8 N).no 20).h 0 100 81 20 sh81x0x20bb L [2, 3, 7, 8, 4, 6] [29000000007, 8, 6, 4, 3] = F81x0x20bb N (lb L 3) (li L 33) (fun p => some (K81x0x20bbw0 L p)) := by kernel_rfl
def h81x0s9 : Sg Tryz.prog 0 81 :=
 (h81x0s8 N).add (((h81x0s8 N).no 20).cut (A81x0x20bb N) progOk (T108x0_ok N) fun L x hx => (raw81x0x20bb N L).trans ((bind81x0x20bb N ..).trans (alt1 x hx))) 20
def S81x0x27b (w0 : Int) (w2 : LD) (w3 : Int) (w6 w7 w8 w9 : Bool) (w11 : LD) (w4 : Int) (w35 : (List (D × D))) (w36 : Bool) (w37 : LD) (kr : Int → (List (D × D)) → Bool → LD → Option R) (k0 : Ty7 → Option R) : Option R :=
 bif (decide (w4 < w3)) then
  bif (inB w4 w2.length) then
   bnd (putB Tryz.prog 3 (.i ((w2.getD w4.toNat (.i 0)).cell 0).toI) (.b true) w35) fun y0 =>
   bnd (G108x0 N w6 w7 w8 w9 w11 ((w2.getD w4.toNat (.i 0)).cell 1).toI ((w2.getD w4.toNat (.i 0)).cell 2).toI ((w2.getD w4.toNat (.i 0)).cell 3).toI ((w2.getD w4.toNat (.i 0)).cell 4).toI ((w2.getD w4.toNat (.i 0)).cell 5).toI ((w2.getD w4.toNat (.i 0)).cell 6).toI) fun y1 =>
   bif y1.isSome then
    bnd (IntKind.wrap .i64 (((w2.getD w4.toNat (.i 0)).cell 0).toI - w0)) fun y2 =>
    bif (decide ((w37.length + 1) * 56 ≤ room) && decide ((w37.length + 1) ≤ strMax)) then
     bnd ((w37 ++ [(.a [(.i y2), (.i (y1.getD default).1), (.i (y1.getD default).2.1), (.i (y1.getD default).2.2.1), (.i (y1.getD default).2.2.2.1), (.i (y1.getD default).2.2.2.2.1), (.i (y1.getD default).2.2.2.2.2)])]) : List D) fun y3 =>
     kr (IntKind.wrap .i64 (w4 + 1)) y0 false y3
    else
     none
   else
    none
  else
   none
 else
  k0 (w35, w36, w37)
def L81x0x27b (N : Nat) {R : Type} (w0 : Int) (w2 : LD) (w3 : Int) (w6 w7 w8 w9 : Bool) (w11 : LD) : Nat → Int → (List (D × D)) → Bool → LD → (Ty7 → Option R) → Option R
 | 0, _, _, _, _, _ => none
 | m + 1, w4, w35, w36, w37, k0 => S81x0x27b N w0 w2 w3 w6 w7 w8 w9 w11 w4 w35 w36 w37 (fun w4 w35 w36 w37 => L81x0x27b N w0 w2 w3 w6 w7 w8 w9 w11 m w4 w35 w36 w37 k0) k0
def G81x0x27b (w0 : Int) (w2 : LD) (w3 : Int) (w6 w7 w8 w9 : Bool) (w11 : LD) (w4 : Int) (w35 : (List (D × D))) (w36 : Bool) (w37 : LD) : Option (Ty7) := L81x0x27b N (R := (Ty7)) w0 w2 w3 w6 w7 w8 w9 w11 N w4 w35 w36 w37 (fun p => some p)
def J81x0x27b (L x : List Lf) (kr : List Lf → Option R) (k0 : Ty7 → Option R) : Option R := S81x0x27b N (li L 0) (ll L 2) (li L 3) (lb L 6) (lb L 7) (lb L 8) (lb L 9) (ll L 11) (li x 0) (lm x 1) (lb x 2) (ll x 3) (fun w4 w35 w36 w37 => kr [.i w4, .m w35, .b w36, .l w37]) k0
theorem sb81x0x27b (L x : List Lf) (kr : List Lf → Option R) (k0 : Ty7 → Option R) : J81x0x27b N L x kr k0 = (J81x0x27b N L x (fun y => some (.inl y)) (fun p => some (.inr p))).bind (sumE kr k0) := by
 unfold J81x0x27b S81x0x27b
 repeat' (first | with_reducible apply cond_b | (with_reducible apply bnd_b; intro _) | rfl)
def Q81x0x27b (L : List Lf) (m : Nat) (x : List Lf) : Option (Ty7) := L81x0x27b N (R := (Ty7)) (li L 0) (ll L 2) (li L 3) (lb L 6) (lb L 7) (lb L 8) (lb L 9) (ll L 11) m (li x 0) (lm x 1) (lb x 2) (ll x 3) (fun p => some p)
def sh81x0x27b : Sh := { tmps := [(3, .c (.p 3 0)), (4, .c (.p 4 0)), (6, .c (.p 6 0)), (7, .c (.i .i64)), (8, .c (.p 8 0)), (9, .c (.m 40)), (41, .c (.sl 47)), (42, .c (.i .i64)), (43, .c (.i .i64))], mem := [(3, .box (rB 5 ([.sl 3, .b, .b]))), (4, .box (.s :: [.i .i64, .i .i64, .sl 47, .sl 110, .sl 9])), (6, .box (.s :: [.i .i64, .i .i64, .sl 47, .sl 110, .sl 9])), (8, .box (.s :: [.i .i64, .i .i64, .o 50008003, .o 50008004, .o 29000000007])), (40, .map 3 4), (50008003, .row 47 true), (50008004, .row 110 true), (29000000007, .row 9 true)] }
def K81x0x27bw0 (L : List Lf) (p : Ty7) : Ex × St := ((.exit 0), mg (ofSh sh81x0x27b L) [6, 4, 9, 7, 3, 8] [] [40, 29000000007, 50008004, 50008003, 8, 6, 4, 3] [(40, .map 3 4 p.1), (50008003, .row 47 true p.2.1 p.2.2)])
def A81x0x27b (L : List Lf) : List (Bool × (Ex × St)) := bnd (Q81x0x27b N L N (pk sh81x0x27b [4, 35, 36, 37] L)) fun q => [(q.isSome, K81x0x27bw0 L (q.getD default))]
theorem step81x0x27b (m : Nat) (kn : St → Option (Ex × St)) (L x : List Lf) : lpB Tryz.prog (T108x0 N) ((h81x0s9 N).no 27).h 0 81 27 sh81x0x27b [4, 35, 36, 37] [6, 4, 9, 7, 3, 8] [40, 29000000007, 50008004, 50008003, 8, 6, 4, 3] (m + 100) kn L x = J81x0x27b N L x (fun y => kn (ofSh sh81x0x27b (mx sh81x0x27b [4, 35, 36, 37] L y))) (fun p => some (K81x0x27bw0 L p)) := by kernel_rfl
theorem ql81x0x27b (L : List Lf) (m : Nat) (x : List Lf) : Q81x0x27b N L (m + 1) x = J81x0x27b N L x (Q81x0x27b N L m) some := by kernel_rfl
def h81x0s10 : Sg Tryz.prog 0 81 :=
 (h81x0s9 N).add (((h81x0s9 N).no 27).lp (A81x0x27b N) N progOk (T108x0_ok N) (fun m kn L x => (step81x0x27b N m kn L x).trans (sb81x0x27b N L x _ _)) (fun L m x => (ql81x0x27b N L m x).trans (sb81x0x27b N L x (Q81x0x27b N L m) some)) fun L x hx => alt1 x hx) 27
def F81x0x68b (N : Nat) (w5 : Bool) (w29 : LB) (k0 : LB → R) : R :=
 bif w5 then
  k0 ([] : List UInt8)
 else
  k0 w29
def V81x0x68b (w5 : Bool) (w29 : LB) : LB := F81x0x68b N w5 w29 (fun p => p)
theorem tot81x0x68b (w5 : Bool) (w29 : LB) (k0 : LB → R) : F81x0x68b N w5 w29 k0 = k0 (V81x0x68b N w5 w29) := by
 unfold V81x0x68b F81x0x68b
 repeat' (first | rfl | apply cond_k | (apply bnd_k; intro _))
def sh81x0x68b : Sh := { tmps := [(3, .c (.p 3 0)), (6, .c (.p 6 0)), (7, .c (.i .i64)), (8, .c (.p 8 0)), (9, .c (.m 40)), (13, .c (.p 13 0)), (66, .c (.sl 110)), (67, .c (.i .i64)), (68, .c (.i .i64)), (95, .c (.b))], mem := [(3, .box (rB 5 ([.sl 3, .b, .b]))), (6, .box (.s :: [.i .i64, .i .i64, .sl 47, .sl 110, .sl 9])), (8, .box (.s :: [.i .i64, .i .i64, .o 50008003, .o 50008004, .o 29000000007])), (13, .box ([.i .i64, .i .i64, .s])), (40, .map 3 4), (50008003, .row 47 true), (50008004, .row 110 true), (29000000007, .row 9 true)] }
def K81x0x68bw0 (L : List Lf) (p : LB) : Ex × St := (.normal, mg (ofSh sh81x0x68b L) [8, 13, 68, 67, 66, 9, 7, 3, 6] [] [13, 40, 29000000007, 50008004, 50008003, 8, 6, 3] [(13, .box [.i .i64 (li L 27), .i .i64 (li L 28), .s p])])
def A81x0x68b (L : List Lf) : List (Bool × (Ex × St)) := bnd (F81x0x68b N (lb L 5) (ls L 29) (fun p => p)) fun q => [(true, K81x0x68bw0 L q)]
theorem raw81x0x68b (L : List Lf) : pc Tryz.prog (T108x0 N) ((h81x0s10 N).no 68).h 0 100 81 68 sh81x0x68b L [8, 13, 68, 67, 66, 9, 7, 3, 6] [13, 40, 29000000007, 50008004, 50008003, 8, 6, 3] = F81x0x68b N (lb L 5) (ls L 29) (fun p => some (K81x0x68bw0 L p)) := by kernel_rfl
def h81x0s11 : Sg Tryz.prog 0 81 :=
 (h81x0s10 N).add (((h81x0s10 N).no 68).cut (A81x0x68b N) progOk (T108x0_ok N) fun L x hx => (raw81x0x68b N L).trans ((tot81x0x68b N ..).trans (alt0 _ _ hx))) 68
def S81x0x51b (w0 : Int) (w2 : LD) (w3 : Int) (w13 : Bool) (w26 : (List (D × D))) (w4 : Int) (w29 : Bool) (w30 : LD) (kr : Int → Bool → LD → Option R) (k0 : Bool × LD → Option R) : Option R :=
 bif (decide (w4 < w3)) then
  bif (inB w4 w2.length) then
   bnd ((findB Tryz.prog 3 (.i ((w2.getD w4.toNat (.i 0)).cell 0).toI) w26).getD (.b false)).toB fun y0 =>
   bnd (bif (!y0) then true else (!((findB Tryz.prog 3 (.i ((w2.getD w4.toNat (.i 0)).cell 1).toI) w26).getD (.b false)).toB)) fun y1 =>
   bif y1 then
    kr (IntKind.wrap .i64 (w4 + 1)) w29 w30
   else
    bnd (IntKind.wrap .i64 (((w2.getD w4.toNat (.i 0)).cell 0).toI - w0)) fun y2 =>
    bnd (IntKind.wrap .i64 (((w2.getD w4.toNat (.i 0)).cell 1).toI - w0)) fun y3 =>
    bnd (V81x0x68b N w13 ((w2.getD w4.toNat (.i 0)).cell 2).toS) fun y4 =>
    bif (decide ((w30.length + 1) * 32 ≤ room) && decide ((w30.length + 1) ≤ strMax)) then
     bnd ((w30 ++ [(.a [(.i y2), (.i y3), (.s y4)])]) : List D) fun y5 =>
     kr (IntKind.wrap .i64 (w4 + 1)) false y5
    else
     none
  else
   none
 else
  k0 (w29, w30)
def L81x0x51b (N : Nat) {R : Type} (w0 : Int) (w2 : LD) (w3 : Int) (w13 : Bool) (w26 : (List (D × D))) : Nat → Int → Bool → LD → (Bool × LD → Option R) → Option R
 | 0, _, _, _, _ => none
 | m + 1, w4, w29, w30, k0 => S81x0x51b N w0 w2 w3 w13 w26 w4 w29 w30 (fun w4 w29 w30 => L81x0x51b N w0 w2 w3 w13 w26 m w4 w29 w30 k0) k0
def G81x0x51b (w0 : Int) (w2 : LD) (w3 : Int) (w13 : Bool) (w26 : (List (D × D))) (w4 : Int) (w29 : Bool) (w30 : LD) : Option (Bool × LD) := L81x0x51b N (R := (Bool × LD)) w0 w2 w3 w13 w26 N w4 w29 w30 (fun p => some p)
def J81x0x51b (L x : List Lf) (kr : List Lf → Option R) (k0 : Bool × LD → Option R) : Option R := S81x0x51b N (li L 0) (ll L 2) (li L 3) (lb L 13) (lm L 26) (li x 0) (lb x 1) (ll x 2) (fun w4 w29 w30 => kr [.i w4, .b w29, .l w30]) k0
theorem sb81x0x51b (L x : List Lf) (kr : List Lf → Option R) (k0 : Bool × LD → Option R) : J81x0x51b N L x kr k0 = (J81x0x51b N L x (fun y => some (.inl y)) (fun p => some (.inr p))).bind (sumE kr k0) := by
 unfold J81x0x51b S81x0x51b
 repeat' (first | with_reducible apply cond_b | (with_reducible apply bnd_b; intro _) | rfl)
def Q81x0x51b (L : List Lf) (m : Nat) (x : List Lf) : Option (Bool × LD) := L81x0x51b N (R := (Bool × LD)) (li L 0) (ll L 2) (li L 3) (lb L 13) (lm L 26) m (li x 0) (lb x 1) (ll x 2) (fun p => some p)
def sh81x0x51b : Sh := { tmps := [(3, .c (.p 3 0)), (6, .c (.p 6 0)), (7, .c (.i .i64)), (8, .c (.p 8 0)), (9, .c (.m 40)), (66, .c (.sl 110)), (67, .c (.i .i64)), (68, .c (.i .i64))], mem := [(3, .box (rB 5 ([.sl 3, .b, .b]))), (6, .box (.s :: [.i .i64, .i .i64, .sl 47, .sl 110, .sl 9])), (8, .box (.s :: [.i .i64, .i .i64, .o 50008003, .o 50008004, .o 29000000007])), (40, .map 3 4), (50008003, .row 47 true), (50008004, .row 110 true), (29000000007, .row 9 true)] }
def K81x0x51bw0 (L : List Lf) (p : Bool × LD) : Ex × St := ((.exit 2), mg (ofSh sh81x0x51b L) [6, 8] [] [29000000007, 50008004, 50008003, 8, 6] [(50008004, .row 110 true p.1 p.2)])
def A81x0x51b (L : List Lf) : List (Bool × (Ex × St)) := bnd (Q81x0x51b N L N (pk sh81x0x51b [4, 29, 30] L)) fun q => [(q.isSome, K81x0x51bw0 L (q.getD default))]
theorem step81x0x51b (m : Nat) (kn : St → Option (Ex × St)) (L x : List Lf) : lpB Tryz.prog (T108x0 N) ((h81x0s11 N).no 51).h 0 81 51 sh81x0x51b [4, 29, 30] [6, 8] [29000000007, 50008004, 50008003, 8, 6] (m + 100) kn L x = J81x0x51b N L x (fun y => kn (ofSh sh81x0x51b (mx sh81x0x51b [4, 29, 30] L y))) (fun p => some (K81x0x51bw0 L p)) := by kernel_rfl
theorem ql81x0x51b (L : List Lf) (m : Nat) (x : List Lf) : Q81x0x51b N L (m + 1) x = J81x0x51b N L x (Q81x0x51b N L m) some := by kernel_rfl
def h81x0s12 : Sg Tryz.prog 0 81 :=
 (h81x0s11 N).add (((h81x0s11 N).no 51).lp (A81x0x51b N) N progOk (T108x0_ok N) (fun m kn L x => (step81x0x51b N m kn L x).trans (sb81x0x51b N L x _ _)) (fun L m x => (ql81x0x51b N L m x).trans (sb81x0x51b N L x (Q81x0x51b N L m) some)) fun L x hx => alt1 x hx) 51
def F81x0 (v1 v2 v3 v4 : Bool) (v6 : LD) (v7 v8 : Bool) (v9 : LB) (v11 : Int) (v15 : LD) (v16 : Bool) (v17 v19 : LD) (k0 : Ty0 → Option R) : Option R :=
 bif (inB 0 v19.length) then
  bnd (G81x0x7 N ((v19.getD 0 (.i 0)).cell 0).toI v11 v16 v17) fun y0 =>
  bif (inlB y0) then
   bnd (V81x0x14 N v8 v9 true []) fun y1 =>
   bnd (G81x0x20 N v7 (inlV y0)) fun y2 =>
   bif y2.isSome then
    bnd (G81x0x27 N ((v19.getD 0 (.i 0)).cell 0).toI v19 (v19.length : Int) v1 v2 v3 v4 v6 0 [] true []) fun y3 =>
    bif y3.isSome then
     bnd (G81x0x51 N ((v19.getD 0 (.i 0)).cell 0).toI v15 (v15.length : Int) v8 (y3.getD default).1 0 true []) fun y4 =>
     bif y4.isSome then
      k0 (y1.1, (y2.getD default), (y3.getD default).2.1, (y3.getD default).2.2, (y4.getD default).1, (y4.getD default).2, y1.2.1, y1.2.2)
     else
      none
    else
     none
   else
    none
  else
   bif (inrQ y0).isSome then
    bnd (G81x0x14b N v8) fun y5 =>
    bif (inlB y5) then
     bnd (G81x0x20b N v7 ((inrQ y0).getD default).1) fun y6 =>
     bif y6.isSome then
      bnd (G81x0x27 N ((v19.getD 0 (.i 0)).cell 0).toI v19 (v19.length : Int) v1 v2 v3 v4 v6 0 [] true []) fun y3 =>
      bif y3.isSome then
       bnd (G81x0x51 N ((v19.getD 0 (.i 0)).cell 0).toI v15 (v15.length : Int) v8 (y3.getD default).1 0 true []) fun y4 =>
       bif y4.isSome then
        k0 ((inlV y5), (y6.getD default), (y3.getD default).2.1, (y3.getD default).2.2, (y4.getD default).1, (y4.getD default).2, true, [])
       else
        none
      else
       none
     else
      none
    else
     bif (inrQ y5).isSome then
      bnd (G81x0x20bb N v7 ((inrQ y0).getD default).1) fun y7 =>
      bif y7.isSome then
       bnd (G81x0x27b N ((v19.getD 0 (.i 0)).cell 0).toI v19 (v19.length : Int) v1 v2 v3 v4 v6 0 [] true []) fun y8 =>
       bif y8.isSome then
        bnd (G81x0x51b N ((v19.getD 0 (.i 0)).cell 0).toI v15 (v15.length : Int) v8 (y8.getD default).1 0 true []) fun y9 =>
        bif y9.isSome then
         k0 (v9, (y7.getD default), (y8.getD default).2.1, (y8.getD default).2.2, (y9.getD default).1, (y9.getD default).2, ((inrQ y0).getD default).2, v17)
        else
         none
       else
        none
      else
       none
     else
      none
   else
    none
 else
  none
def G81x0 (v1 v2 v3 v4 : Bool) (v6 : LD) (v7 v8 : Bool) (v9 : LB) (v11 : Int) (v15 : LD) (v16 : Bool) (v17 v19 : LD) : Option (Ty0) := F81x0 N v1 v2 v3 v4 v6 v7 v8 v9 v11 v15 v16 v17 v19 (fun p => some p)
theorem bind81x0 (v1 v2 v3 v4 : Bool) (v6 : LD) (v7 v8 : Bool) (v9 : LB) (v11 : Int) (v15 : LD) (v16 : Bool) (v17 v19 : LD) (k0 : Ty0 → Option R) : F81x0 N v1 v2 v3 v4 v6 v7 v8 v9 v11 v15 v16 v17 v19 k0 = (G81x0 N v1 v2 v3 v4 v6 v7 v8 v9 v11 v15 v16 v17 v19).bind k0 := by
 unfold G81x0 F81x0
 repeat' (first | with_reducible apply cond_b | (with_reducible apply bnd_b; intro _) | rfl)
def J81x0 (L : List Lf) (k0 : Ty0 → Option R) : Option R := F81x0 N (lb L 1) (lb L 2) (lb L 3) (lb L 4) (ll L 6) (lb L 7) (lb L 8) (ls L 9) (li L 11) (ll L 15) (lb L 16) (ll L 17) (ll L 19) k0
def sh81x0 : Sh := { tmps := [(0, .g (rB 5 ([.sl 3, .b, .b]))), (1, .g (.s :: [.i .i64, .i .i64, .sl 47, .sl 110, .sl 9])), (2, .c (.sl 47))], mem := [] }
def K81x0w0 (L : List Lf) (p : Ty0) : Res := let p1 := p.2; let p2 := p1.2; let p3 := p2.2; let p4 := p3.2; let p5 := p4.2; let p6 := p5.2; let p7 := p6.2; ([.g [.s p.1, .i .i64 (li L 10), .i .i64 p1.1, .sl 47 p2.1 p3.1, .sl 110 p4.1 p5.1, .sl 9 p6.1 p7]], [])
def A81x0 (L : List Lf) : List (Bool × Res) := bnd (J81x0 N L (fun p => some p)) fun q => [(q.isSome, K81x0w0 L (q.getD default))]
theorem raw81x0 (L : List Lf) : bd Tryz.prog (T108x0 N) (h81x0s12 N).h 81 sh81x0 L = J81x0 N L (fun p => some (K81x0w0 L p)) := by kernel_rfl
theorem ok81x0 : FnOk Tryz.prog 81 sh81x0 (A81x0 N) :=
 (h81x0s12 N).fn progOk (T108x0_ok N) fun L x hx => ((raw81x0 N L).trans ((bind81x0 N ..).trans (alt1 x hx)))
def T81x0 : Oracle := ext 81 (spSh sh81x0 (A81x0 N)) (T108x0 N)
theorem T81x0_ok : OracleOk Tryz.prog (T81x0 N) := FnOk.to (ok81x0 N) (T108x0_ok N)
def y42x0z600000022o (N : Nat) : YInfo := rfY (piece Tryz.prog 42 600000022) [] 4 52
def y42x0z600000022 : YInfo := { (y42x0z600000022o N) with tm := [(8, .c (.p 2 0))] }
def rg78x0 : List (Nat × List Nat) := [(0, [1, 2, 0]), (1, [1, 2, 4, 0]), (2, [2, 4, 0, 6]), (3, [2, 4, 7, 0, 6]), (4, [22, 21, 20, 4, 7, 0, 6, 2]), (5, [22, 20, 4, 21, 7, 0, 6, 2]), (6, [4, 8, 22, 21, 20, 7, 0, 6, 2, 9]), (7, [7, 9, 0, 6, 2, 22, 21, 20, 4]), (8, [10, 9, 7, 0, 6, 2, 22, 21, 20, 4]), (9, [0, 6, 2, 7, 9, 22, 21, 20, 4]), (10, [9, 22, 21, 20, 4, 0, 6, 2]), (11, [7, 9, 22, 21, 20, 4, 0, 6, 2]), (12, [22, 21, 20, 4, 7, 0, 6, 2]), (13, [7, 0, 6, 2]), (14, [0, 6, 2, 7])]
def hd78x0 : Hints := [(12, [0, 2, 4, 6, 7, 20, 21, 22], [0, 1, 2, 3, 4, 11, 12, 50002005], [7, 50002000]), (25, [0, 2, 4, 6, 7, 9, 10, 20, 21, 22], [0, 1, 2, 4, 11, 12, 14, 50002005], []), (28, [0, 2, 4, 6, 7, 9, 20, 21, 22], [0, 1, 2, 4, 11, 12, 14, 50002005], []), (29, [0, 2, 4, 6, 7, 9, 20, 21, 22, 46], [0, 1, 2, 4, 11, 12, 14, 50002005], []), (43, [0, 2, 6, 7], [0, 1, 2, 4, 11, 12, 50002005], []), (44, [0, 2, 6, 7, 61], [0, 1, 2, 4, 11, 12, 50002005], [])]
def h78x0s0 : Sg Tryz.prog 5 78 (YCtx ((y42x0z600000022 N))) := .start hd78x0 rg78x0
def F78x0x25 (N : Nat) (w2 : Int) (w30 : LD) (w31 : Int) (k0 : Bool → Option R) : Option R :=
 bif (decide (w2 > 0)) then
  bif (inB (IntKind.wrap .i64 (w2 - 1)) w30.length) then
   bif (decide ((IntKind.wrap .i64 (w2 - 1)).toNat < w30.length)) then
    bnd ((w30.getD (IntKind.wrap .i64 (w2 - 1)).toNat (.i 0)).cell 0).toI fun y0 =>
    k0 (decide ((IntKind.wrap .i64 (w31 - y0)) > 60))
   else
    none
  else
   none
 else
  k0 false
def G78x0x25 (w2 : Int) (w30 : LD) (w31 : Int) : Option (Bool) := F78x0x25 N w2 w30 w31 (fun p => some p)
theorem bind78x0x25 (w2 : Int) (w30 : LD) (w31 : Int) (k0 : Bool → Option R) : F78x0x25 N w2 w30 w31 k0 = (G78x0x25 N w2 w30 w31).bind k0 := by
 unfold G78x0x25 F78x0x25
 repeat' (first | with_reducible apply cond_b | (with_reducible apply bnd_b; intro _) | rfl)
def sh78x0x25 : Sh := { tmps := [(0, .c (.y 4)), (2, .c (.p 1 0)), (4, .c (.sl 4)), (6, .c (.p 11 0)), (7, .c (.o 12)), (9, .c (.p 14 0)), (10, .c (.i .i64)), (20, .c (.sl 47)), (21, .c (.i .i64)), (22, .c (.i .i64))], mem := [(0, .box ([.sl 40])), (1, .box (.s :: [.i .i64, .i .i64, .sl 47, .sl 110, .sl 9])), (2, .box ([.o 50002005])), (4, .row 3 true), (11, .box (rB 5 ([.sl 3, .b, .b]))), (12, .row 47 true), (14, .box (rI 7 ([]))), (50002005, .row 51 true)] }
def K78x0x25w0 (L : List Lf) (p : Bool) : Ex × St := (.normal, mg (ofSh sh78x0x25 L) [0, 6, 2, 7, 9, 22, 21, 20, 4, 46] [(46, .c (.b p))] [50002005, 2, 0, 14, 12, 11, 1, 4] [])
def A78x0x25 (L : List Lf) : List (Bool × (Ex × St)) := bnd (F78x0x25 N (li L 2) (ll L 30) (li L 31) (fun p => some p)) fun q => [(q.isSome, K78x0x25w0 L (q.getD default))]
theorem raw78x0x25 (L : List Lf) : pc Tryz.prog (T81x0 N) (h78x0s0 N).h 5 100 78 25 sh78x0x25 L [0, 6, 2, 7, 9, 22, 21, 20, 4, 46] [50002005, 2, 0, 14, 12, 11, 1, 4] = F78x0x25 N (li L 2) (ll L 30) (li L 31) (fun p => some (K78x0x25w0 L p)) := by kernel_rfl
def h78x0s1 : Sg Tryz.prog 5 78 (YCtx ((y42x0z600000022 N))) :=
 (h78x0s0 N).cut (A78x0x25 N) progOk (T81x0_ok N) fun L x hx => (raw78x0x25 N L).trans ((bind78x0x25 N ..).trans (alt1 x hx))
def F78x0x28 (w8 : LB) (w9 w10 : Int) (w14 : LD) (w15 : Bool) (w16 : LD) (w20 w21 w22 w23 : Bool) (w25 : LD) (w26 w27 : Bool) (w29 w38 : LD) (k0 : LD → Option R) : Option R :=
 bnd (G81x0 N w20 w21 w22 w23 w25 w26 w27 w8 w10 w14 w15 w16 w29) fun y0 =>
 bif y0.isSome then
  bif (decide ((w38.length + 1) * 104 ≤ room) && decide ((w38.length + 1) ≤ strMax)) then
   bnd ((w38 ++ [(.a [(.s (y0.getD default).1), (.i w9), (.i (y0.getD default).2.1), (.l (y0.getD default).2.2.1 (y0.getD default).2.2.2.1), (.l (y0.getD default).2.2.2.2.1 (y0.getD default).2.2.2.2.2.1), (.l (y0.getD default).2.2.2.2.2.2.1 (y0.getD default).2.2.2.2.2.2.2)])]) : List D) fun y1 =>
   k0 y1
  else
   none
 else
  none
def G78x0x28 (w8 : LB) (w9 w10 : Int) (w14 : LD) (w15 : Bool) (w16 : LD) (w20 w21 w22 w23 : Bool) (w25 : LD) (w26 w27 : Bool) (w29 w38 : LD) : Option (LD) := F78x0x28 N w8 w9 w10 w14 w15 w16 w20 w21 w22 w23 w25 w26 w27 w29 w38 (fun p => some p)
theorem bind78x0x28 (w8 : LB) (w9 w10 : Int) (w14 : LD) (w15 : Bool) (w16 : LD) (w20 w21 w22 w23 : Bool) (w25 : LD) (w26 w27 : Bool) (w29 w38 : LD) (k0 : LD → Option R) : F78x0x28 N w8 w9 w10 w14 w15 w16 w20 w21 w22 w23 w25 w26 w27 w29 w38 k0 = (G78x0x28 N w8 w9 w10 w14 w15 w16 w20 w21 w22 w23 w25 w26 w27 w29 w38).bind k0 := by
 unfold G78x0x28 F78x0x28
 repeat' (first | with_reducible apply cond_b | (with_reducible apply bnd_b; intro _) | rfl)
def J78x0x28 (L : List Lf) (k0 : LD → Option R) : Option R := F78x0x28 N (ls L 8) (li L 9) (li L 10) (ll L 14) (lb L 15) (ll L 16) (lb L 20) (lb L 21) (lb L 22) (lb L 23) (ll L 25) (lb L 26) (lb L 27) (ll L 29) (ll L 38) k0
def sh78x0x28 : Sh := { tmps := [(0, .c (.y 4)), (2, .c (.p 1 0)), (4, .c (.sl 4)), (6, .c (.p 11 0)), (7, .c (.o 12)), (9, .c (.p 14 0)), (20, .c (.sl 47)), (21, .c (.i .i64)), (22, .c (.i .i64))], mem := [(0, .box ([.sl 40])), (1, .box (.s :: [.i .i64, .i .i64, .sl 47, .sl 110, .sl 9])), (2, .box ([.o 50002005])), (4, .row 3 true), (11, .box (rB 5 ([.sl 3, .b, .b]))), (12, .row 47 true), (14, .box (rI 7 ([]))), (50002005, .row 51 true)] }
def K78x0x28w0 (L : List Lf) (p : LD) : Ex × St := (.normal, mg (ofSh sh78x0x28 L) [9, 22, 21, 20, 4, 0, 6, 2, 53] [(53, .c (.b false))] [53000000033, 2, 0, 14, 11, 1, 4] [(53000000033, .row 51 true false p), (2, .box [.o 53000000033])])
def A78x0x28 (L : List Lf) : List (Bool × (Ex × St)) := bnd (J78x0x28 N L (fun p => some p)) fun q => [(q.isSome, K78x0x28w0 L (q.getD default))]
theorem raw78x0x28 (L : List Lf) : pcY Tryz.prog (T81x0 N) 5 ((y42x0z600000022 N)) 78 28 sh78x0x28 L [9, 22, 21, 20, 4, 0, 6, 2, 53] [53000000033, 2, 0, 14, 11, 1, 4] = J78x0x28 N L (fun p => some (K78x0x28w0 L p)) := by kernel_rfl
def h78x0s2 : Sg Tryz.prog 5 78 (YCtx ((y42x0z600000022 N))) :=
 (h78x0s1 N).cutY (A78x0x28 N) progOk (T81x0_ok N) (yLaws0 (by kernel_rfl)) fun L x hx => (raw78x0x28 N L).trans ((bind78x0x28 N ..).trans (alt1 x hx))
def F78x0x29 (w6 : Bool) (w9 : LB) (w10 w11 : Int) (w15 : LD) (w16 : Bool) (w17 : LD) (w21 w22 w23 w24 : Bool) (w26 : LD) (w27 w28 : Bool) (w30 w39 : LD) (k0 : LD → Option R) (k1 : Unit → Option R) : Option R :=
 bif w6 then
  bnd (G78x0x28 N w9 w10 w11 w15 w16 w17 w21 w22 w23 w24 w26 w27 w28 w30 w39) fun y0 =>
  bif y0.isSome then
   k0 (y0.getD default)
  else
   none
 else
  k1 ()
def G78x0x29 (w6 : Bool) (w9 : LB) (w10 w11 : Int) (w15 : LD) (w16 : Bool) (w17 : LD) (w21 w22 w23 w24 : Bool) (w26 : LD) (w27 w28 : Bool) (w30 w39 : LD) : Option (Sum (LD) (Unit)) := F78x0x29 N w6 w9 w10 w11 w15 w16 w17 w21 w22 w23 w24 w26 w27 w28 w30 w39 (fun p => some (.inl p)) (fun p => some (.inr p))
theorem bind78x0x29 (w6 : Bool) (w9 : LB) (w10 w11 : Int) (w15 : LD) (w16 : Bool) (w17 : LD) (w21 w22 w23 w24 : Bool) (w26 : LD) (w27 w28 : Bool) (w30 w39 : LD) (k0 : LD → Option R) (k1 : Unit → Option R) : F78x0x29 N w6 w9 w10 w11 w15 w16 w17 w21 w22 w23 w24 w26 w27 w28 w30 w39 k0 k1 = (G78x0x29 N w6 w9 w10 w11 w15 w16 w17 w21 w22 w23 w24 w26 w27 w28 w30 w39).bind (sumE k0 k1) := by
 unfold G78x0x29 F78x0x29
 repeat' (first | with_reducible apply cond_b | (with_reducible apply bnd_b; intro _) | rfl)
def J78x0x29 (L : List Lf) (k0 : LD → Option R) (k1 : Unit → Option R) : Option R := F78x0x29 N (lb L 6) (ls L 9) (li L 10) (li L 11) (ll L 15) (lb L 16) (ll L 17) (lb L 21) (lb L 22) (lb L 23) (lb L 24) (ll L 26) (lb L 27) (lb L 28) (ll L 30) (ll L 39) k0 k1
def sh78x0x29 : Sh := { tmps := [(0, .c (.y 4)), (2, .c (.p 1 0)), (4, .c (.sl 4)), (6, .c (.p 11 0)), (7, .c (.o 12)), (9, .c (.p 14 0)), (20, .c (.sl 47)), (21, .c (.i .i64)), (22, .c (.i .i64)), (46, .c (.b))], mem := [(0, .box ([.sl 40])), (1, .box (.s :: [.i .i64, .i .i64, .sl 47, .sl 110, .sl 9])), (2, .box ([.o 50002005])), (4, .row 3 true), (11, .box (rB 5 ([.sl 3, .b, .b]))), (12, .row 47 true), (14, .box (rI 7 ([]))), (50002005, .row 51 true)] }
def K78x0x29w0 (L : List Lf) (p : LD) : Ex × St := (.normal, mg (ofSh sh78x0x29 L) [7, 9, 22, 21, 20, 4, 0, 6, 2] [(7, .c (.sl 47 true []))] [0, 53000000033, 2, 1, 11, 4, 14] [(53000000033, .row 51 true false p), (2, .box [.o 53000000033])])
def K78x0x29w1 (L : List Lf) (_ : Unit) : Ex × St := (.normal, mg (ofSh sh78x0x29 L) [7, 9, 22, 21, 20, 4, 0, 6, 2] [] [0, 2, 1, 11, 4, 14, 50002005, 12] [])
def A78x0x29 (L : List Lf) : List (Bool × (Ex × St)) := bnd (J78x0x29 N L (fun p => some (.inl p)) (fun p => some (.inr p))) fun q => [((inlB q), K78x0x29w0 L (inlV q)), ((inrQ q).isSome, K78x0x29w1 L ())]
theorem raw78x0x29 (L : List Lf) : pc Tryz.prog (T81x0 N) (h78x0s2 N).h 5 100 78 29 sh78x0x29 L [7, 9, 22, 21, 20, 4, 0, 6, 2] [0, 53000000033, 2, 1, 11, 4, 14, 50002005, 12] = J78x0x29 N L (fun p => some (K78x0x29w0 L p)) (fun _ => some (K78x0x29w1 L ())) := by kernel_rfl
def h78x0s3 : Sg Tryz.prog 5 78 (YCtx ((y42x0z600000022 N))) :=
 (h78x0s2 N).cut (A78x0x29 N) progOk (T81x0_ok N) fun L x hx => (raw78x0x29 N L).trans ((bind78x0x29 N ..).trans ((altS alt1) x hx))
def S78x0x12 (w1 w3 : LD) (w4 : Int) (w8 : LB) (w9 w10 : Int) (w14 : LD) (w15 : Bool) (w16 : LD) (w20 w21 w22 w23 : Bool) (w25 : LD) (w26 w27 : Bool) (w5 : Int) (w28 : Bool) (w29 : LD) (w30 : Bool) (w31 : LD) (kr : Int → Bool → LD → Bool → LD → Option R) (k0 : Ty6 → Option R) : Option R :=
 bif (decide (w5 < w4)) then
  bif (inB w5 w3.length) then
   bif (inB w5 w1.length) then
    bif (w1.getD w5.toNat (.i 0)).toB then
     kr (IntKind.wrap .i64 (w5 + 1)) w28 w29 w30 w31
    else
     bnd (G78x0x25 N (w29.length : Int) w29 ((w3.getD w5.toNat (.i 0)).cell 0).toI) fun y0 =>
     bif y0.isSome then
      bnd (G78x0x29 N (y0.getD default) w8 w9 w10 w14 w15 w16 w20 w21 w22 w23 w25 w26 w27 w29 w31) fun y1 =>
      bif (inlB y1) then
       kr (IntKind.wrap .i64 (w5 + 1)) false [(.a [(.i ((w3.getD w5.toNat (.i 0)).cell 0).toI), (.i ((w3.getD w5.toNat (.i 0)).cell 1).toI), (.i ((w3.getD w5.toNat (.i 0)).cell 2).toI), (.i ((w3.getD w5.toNat (.i 0)).cell 3).toI), (.i ((w3.getD w5.toNat (.i 0)).cell 4).toI), (.i ((w3.getD w5.toNat (.i 0)).cell 5).toI), (.i ((w3.getD w5.toNat (.i 0)).cell 6).toI)])] false (inlV y1)
      else
       bif (inrQ y1).isSome then
        bif (decide ((w29.length + 1) * 56 ≤ room) && decide ((w29.length + 1) ≤ strMax)) then
         bnd ((w29 ++ [(.a [(.i ((w3.getD w5.toNat (.i 0)).cell 0).toI), (.i ((w3.getD w5.toNat (.i 0)).cell 1).toI), (.i ((w3.getD w5.toNat (.i 0)).cell 2).toI), (.i ((w3.getD w5.toNat (.i 0)).cell 3).toI), (.i ((w3.getD w5.toNat (.i 0)).cell 4).toI), (.i ((w3.getD w5.toNat (.i 0)).cell 5).toI), (.i ((w3.getD w5.toNat (.i 0)).cell 6).toI)])]) : List D) fun y2 =>
         kr (IntKind.wrap .i64 (w5 + 1)) false y2 w30 w31
        else
         none
       else
        none
     else
      none
   else
    none
  else
   none
 else
  k0 (w30, w31, w28, w29)
def L78x0x12 (N : Nat) {R : Type} (w1 w3 : LD) (w4 : Int) (w8 : LB) (w9 w10 : Int) (w14 : LD) (w15 : Bool) (w16 : LD) (w20 w21 w22 w23 : Bool) (w25 : LD) (w26 w27 : Bool) : Nat → Int → Bool → LD → Bool → LD → (Ty6 → Option R) → Option R
 | 0, _, _, _, _, _, _ => none
 | m + 1, w5, w28, w29, w30, w31, k0 => S78x0x12 N w1 w3 w4 w8 w9 w10 w14 w15 w16 w20 w21 w22 w23 w25 w26 w27 w5 w28 w29 w30 w31 (fun w5 w28 w29 w30 w31 => L78x0x12 N w1 w3 w4 w8 w9 w10 w14 w15 w16 w20 w21 w22 w23 w25 w26 w27 m w5 w28 w29 w30 w31 k0) k0
def G78x0x12 (w1 w3 : LD) (w4 : Int) (w8 : LB) (w9 w10 : Int) (w14 : LD) (w15 : Bool) (w16 : LD) (w20 w21 w22 w23 : Bool) (w25 : LD) (w26 w27 : Bool) (w5 : Int) (w28 : Bool) (w29 : LD) (w30 : Bool) (w31 : LD) : Option (Ty6) := L78x0x12 N (R := (Ty6)) w1 w3 w4 w8 w9 w10 w14 w15 w16 w20 w21 w22 w23 w25 w26 w27 N w5 w28 w29 w30 w31 (fun p => some p)
def J78x0x12 (L x : List Lf) (kr : List Lf → Option R) (k0 : Ty6 → Option R) : Option R := S78x0x12 N (ll L 1) (ll L 3) (li L 4) (ls L 8) (li L 9) (li L 10) (ll L 14) (lb L 15) (ll L 16) (lb L 20) (lb L 21) (lb L 22) (lb L 23) (ll L 25) (lb L 26) (lb L 27) (li x 0) (lb x 1) (ll x 2) (lb x 3) (ll x 4) (fun w5 w28 w29 w30 w31 => kr [.i w5, .b w28, .l w29, .b w30, .l w31]) k0
theorem sb78x0x12 (L x : List Lf) (kr : List Lf → Option R) (k0 : Ty6 → Option R) : J78x0x12 N L x kr k0 = (J78x0x12 N L x (fun y => some (.inl y)) (fun p => some (.inr p))).bind (sumE kr k0) := by
 unfold J78x0x12 S78x0x12
 repeat' (first | with_reducible apply cond_b | (with_reducible apply bnd_b; intro _) | rfl)
def Q78x0x12 (L : List Lf) (m : Nat) (x : List Lf) : Option (Ty6) := L78x0x12 N (R := (Ty6)) (ll L 1) (ll L 3) (li L 4) (ls L 8) (li L 9) (li L 10) (ll L 14) (lb L 15) (ll L 16) (lb L 20) (lb L 21) (lb L 22) (lb L 23) (ll L 25) (lb L 26) (lb L 27) m (li x 0) (lb x 1) (ll x 2) (lb x 3) (ll x 4) (fun p => some p)
def sh78x0x12 : Sh := { tmps := [(0, .c (.y 4)), (2, .c (.p 1 0)), (4, .c (.sl 4)), (6, .c (.p 11 0)), (7, .c (.o 12)), (20, .c (.sl 47)), (21, .c (.i .i64)), (22, .c (.i .i64))], mem := [(0, .box ([.sl 40])), (1, .box (.s :: [.i .i64, .i .i64, .sl 47, .sl 110, .sl 9])), (2, .box ([.o 50002005])), (4, .row 3 true), (11, .box (rB 5 ([.sl 3, .b, .b]))), (12, .row 47 true), (50002005, .row 51 true)] }
def K78x0x12w0 (L : List Lf) (p : Ty6) : Ex × St := ((.exit 0), mg (ofSh sh78x0x12 L) [7, 0, 6, 2] [] [50002005, 2, 0, 12, 11, 1, 4] [(50002005, .row 51 true p.1 p.2.1), (12, .row 47 true p.2.2.1 p.2.2.2)])
def A78x0x12 (L : List Lf) : List (Bool × (Ex × St)) := bnd (Q78x0x12 N L N (pk sh78x0x12 [5, 28, 29, 30, 31] L)) fun q => [(q.isSome, K78x0x12w0 L (q.getD default))]
theorem step78x0x12 (m : Nat) (kn : St → Option (Ex × St)) (L x : List Lf) : lpB Tryz.prog (T81x0 N) (h78x0s3 N).h 5 78 12 sh78x0x12 [5, 28, 29, 30, 31] [7, 0, 6, 2] [50002005, 2, 0, 12, 11, 1, 4] (m + 100) kn L x = J78x0x12 N L x (fun y => kn (ofSh sh78x0x12 (mx sh78x0x12 [5, 28, 29, 30, 31] L y))) (fun p => some (K78x0x12w0 L p)) := by kernel_rfl
theorem ql78x0x12 (L : List Lf) (m : Nat) (x : List Lf) : Q78x0x12 N L (m + 1) x = J78x0x12 N L x (Q78x0x12 N L m) some := by kernel_rfl
def h78x0s4 : Sg Tryz.prog 5 78 (YCtx ((y42x0z600000022 N))) :=
 (h78x0s3 N).lp (A78x0x12 N) N progOk (T81x0_ok N) (fun m kn L x => (step78x0x12 N m kn L x).trans (sb78x0x12 N L x _ _)) (fun L m x => (ql78x0x12 N L m x).trans (sb78x0x12 N L x (Q78x0x12 N L m) some)) fun L x hx => alt1 x hx
def F78x0x43 (w2 : LB) (w3 w4 : Int) (w8 : LD) (w9 : Bool) (w10 : LD) (w14 w15 w16 w17 : Bool) (w19 : LD) (w20 w21 : Bool) (w23 w25 : LD) (k0 : LD → Option R) : Option R :=
 bnd (G81x0 N w14 w15 w16 w17 w19 w20 w21 w2 w4 w8 w9 w10 w23) fun y0 =>
 bif y0.isSome then
  bif (decide ((w25.length + 1) * 104 ≤ room) && decide ((w25.length + 1) ≤ strMax)) then
   bnd ((w25 ++ [(.a [(.s (y0.getD default).1), (.i w3), (.i (y0.getD default).2.1), (.l (y0.getD default).2.2.1 (y0.getD default).2.2.2.1), (.l (y0.getD default).2.2.2.2.1 (y0.getD default).2.2.2.2.2.1), (.l (y0.getD default).2.2.2.2.2.2.1 (y0.getD default).2.2.2.2.2.2.2)])]) : List D) fun y1 =>
   k0 y1
  else
   none
 else
  none
def G78x0x43 (w2 : LB) (w3 w4 : Int) (w8 : LD) (w9 : Bool) (w10 : LD) (w14 w15 w16 w17 : Bool) (w19 : LD) (w20 w21 : Bool) (w23 w25 : LD) : Option (LD) := F78x0x43 N w2 w3 w4 w8 w9 w10 w14 w15 w16 w17 w19 w20 w21 w23 w25 (fun p => some p)
theorem bind78x0x43 (w2 : LB) (w3 w4 : Int) (w8 : LD) (w9 : Bool) (w10 : LD) (w14 w15 w16 w17 : Bool) (w19 : LD) (w20 w21 : Bool) (w23 w25 : LD) (k0 : LD → Option R) : F78x0x43 N w2 w3 w4 w8 w9 w10 w14 w15 w16 w17 w19 w20 w21 w23 w25 k0 = (G78x0x43 N w2 w3 w4 w8 w9 w10 w14 w15 w16 w17 w19 w20 w21 w23 w25).bind k0 := by
 unfold G78x0x43 F78x0x43
 repeat' (first | with_reducible apply cond_b | (with_reducible apply bnd_b; intro _) | rfl)
def J78x0x43 (L : List Lf) (k0 : LD → Option R) : Option R := F78x0x43 N (ls L 2) (li L 3) (li L 4) (ll L 8) (lb L 9) (ll L 10) (lb L 14) (lb L 15) (lb L 16) (lb L 17) (ll L 19) (lb L 20) (lb L 21) (ll L 23) (ll L 25) k0
def sh78x0x43 : Sh := { tmps := [(0, .c (.y 4)), (2, .c (.p 1 0)), (6, .c (.p 11 0)), (7, .c (.o 12))], mem := [(0, .box ([.sl 40])), (1, .box (.s :: [.i .i64, .i .i64, .sl 47, .sl 110, .sl 9])), (2, .box ([.o 50002005])), (4, .row 3 true), (11, .box (rB 5 ([.sl 3, .b, .b]))), (12, .row 47 true), (50002005, .row 51 true)] }
def K78x0x43w0 (L : List Lf) (p : LD) : Ex × St := (.normal, mg (ofSh sh78x0x43 L) [] [] [4, 68000000033, 2, 1, 0] [(68000000033, .row 51 true false p), (2, .box [.o 68000000033])])
def A78x0x43 (L : List Lf) : List (Bool × (Ex × St)) := bnd (J78x0x43 N L (fun p => some p)) fun q => [(q.isSome, K78x0x43w0 L (q.getD default))]
theorem raw78x0x43 (L : List Lf) : pcY Tryz.prog (T81x0 N) 5 ((y42x0z600000022 N)) 78 43 sh78x0x43 L [] [4, 68000000033, 2, 1, 0] = J78x0x43 N L (fun p => some (K78x0x43w0 L p)) := by kernel_rfl
def h78x0s5 : Sg Tryz.prog 5 78 (YCtx ((y42x0z600000022 N))) :=
 (h78x0s4 N).cutY (A78x0x43 N) progOk (T81x0_ok N) (yLaws0 (by kernel_rfl)) fun L x hx => (raw78x0x43 N L).trans ((bind78x0x43 N ..).trans (alt1 x hx))
def F78x0x44 (w0 : Bool) (w3 : LB) (w4 w5 : Int) (w9 : LD) (w10 : Bool) (w11 : LD) (w15 w16 w17 w18 : Bool) (w20 : LD) (w21 w22 : Bool) (w24 w26 : LD) (k0 : LD → Option R) (k1 : Unit → Option R) : Option R :=
 bif w0 then
  bnd (G78x0x43 N w3 w4 w5 w9 w10 w11 w15 w16 w17 w18 w20 w21 w22 w24 w26) fun y0 =>
  bif y0.isSome then
   k0 (y0.getD default)
  else
   none
 else
  k1 ()
def G78x0x44 (w0 : Bool) (w3 : LB) (w4 w5 : Int) (w9 : LD) (w10 : Bool) (w11 : LD) (w15 w16 w17 w18 : Bool) (w20 : LD) (w21 w22 : Bool) (w24 w26 : LD) : Option (Sum (LD) (Unit)) := F78x0x44 N w0 w3 w4 w5 w9 w10 w11 w15 w16 w17 w18 w20 w21 w22 w24 w26 (fun p => some (.inl p)) (fun p => some (.inr p))
theorem bind78x0x44 (w0 : Bool) (w3 : LB) (w4 w5 : Int) (w9 : LD) (w10 : Bool) (w11 : LD) (w15 w16 w17 w18 : Bool) (w20 : LD) (w21 w22 : Bool) (w24 w26 : LD) (k0 : LD → Option R) (k1 : Unit → Option R) : F78x0x44 N w0 w3 w4 w5 w9 w10 w11 w15 w16 w17 w18 w20 w21 w22 w24 w26 k0 k1 = (G78x0x44 N w0 w3 w4 w5 w9 w10 w11 w15 w16 w17 w18 w20 w21 w22 w24 w26).bind (sumE k0 k1) := by
 unfold G78x0x44 F78x0x44
 repeat' (first | with_reducible apply cond_b | (with_reducible apply bnd_b; intro _) | rfl)
def J78x0x44 (L : List Lf) (k0 : LD → Option R) (k1 : Unit → Option R) : Option R := F78x0x44 N (lb L 0) (ls L 3) (li L 4) (li L 5) (ll L 9) (lb L 10) (ll L 11) (lb L 15) (lb L 16) (lb L 17) (lb L 18) (ll L 20) (lb L 21) (lb L 22) (ll L 24) (ll L 26) k0 k1
def sh78x0x44 : Sh := { tmps := [(0, .c (.y 4)), (2, .c (.p 1 0)), (6, .c (.p 11 0)), (7, .c (.o 12)), (61, .c (.b))], mem := [(0, .box ([.sl 40])), (1, .box (.s :: [.i .i64, .i .i64, .sl 47, .sl 110, .sl 9])), (2, .box ([.o 50002005])), (4, .row 3 true), (11, .box (rB 5 ([.sl 3, .b, .b]))), (12, .row 47 true), (50002005, .row 51 true)] }
def K78x0x44w0 (L : List Lf) (p : LD) : Ex × St := (.normal, mg (ofSh sh78x0x44 L) [] [] [0, 1, 68000000033, 2, 4] [(68000000033, .row 51 true false p), (2, .box [.o 68000000033])])
def K78x0x44w1 (L : List Lf) (_ : Unit) : Ex × St := (.normal, mg (ofSh sh78x0x44 L) [] [] [0, 1, 2, 4, 50002005] [])
def A78x0x44 (L : List Lf) : List (Bool × (Ex × St)) := bnd (J78x0x44 N L (fun p => some (.inl p)) (fun p => some (.inr p))) fun q => [((inlB q), K78x0x44w0 L (inlV q)), ((inrQ q).isSome, K78x0x44w1 L ())]
theorem raw78x0x44 (L : List Lf) : pc Tryz.prog (T81x0 N) (h78x0s5 N).h 5 100 78 44 sh78x0x44 L [] [0, 1, 68000000033, 2, 4, 50002005] = J78x0x44 N L (fun p => some (K78x0x44w0 L p)) (fun _ => some (K78x0x44w1 L ())) := by kernel_rfl
def h78x0s6 : Sg Tryz.prog 5 78 (YCtx ((y42x0z600000022 N))) :=
 (h78x0s5 N).cut (A78x0x44 N) progOk (T81x0_ok N) fun L x hx => (raw78x0x44 N L).trans ((bind78x0x44 N ..).trans ((altS alt1) x hx))
def F78x0 (v1 : LD) (v2 : LB) (v3 v4 : Int) (v6 v8 : LD) (v9 : Bool) (v10 : LD) (v11 : Bool) (v12 : LD) (k0 : LD → Option R) (k1 : Bool × LD → Option R) : Option R :=
 bnd (G79x0 N v1 v3 v4 v6 v10) fun y0 =>
 bif y0.isSome then
  bnd (G80x0 N v1) fun y1 =>
  bif y1.isSome then
   bnd (G78x0x12 N (y0.getD default).1 v6 (v6.length : Int) v2 v3 v4 v8 v9 v10 (y1.getD default).2.1 (y1.getD default).2.2.1 (y1.getD default).2.2.2.1 (y1.getD default).2.2.2.2.1 (y1.getD default).2.2.2.2.2.2.1 (y1.getD default).2.2.2.2.2.2.2.1 (y1.getD default).2.2.2.2.2.2.2.2 0 true [] v11 v12) fun y2 =>
   bif y2.isSome then
    bnd (G78x0x44 N (decide (((y2.getD default).2.2.2.length : Int) > 0)) v2 v3 v4 v8 v9 v10 (y1.getD default).2.1 (y1.getD default).2.2.1 (y1.getD default).2.2.2.1 (y1.getD default).2.2.2.2.1 (y1.getD default).2.2.2.2.2.2.1 (y1.getD default).2.2.2.2.2.2.2.1 (y1.getD default).2.2.2.2.2.2.2.2 (y2.getD default).2.2.2 (y2.getD default).2.1) fun y3 =>
    bif (inlB y3) then
     k0 (inlV y3)
    else
     bif (inrQ y3).isSome then
      k1 ((y2.getD default).1, (y2.getD default).2.1)
     else
      none
   else
    none
  else
   none
 else
  none
def G78x0 (v1 : LD) (v2 : LB) (v3 v4 : Int) (v6 v8 : LD) (v9 : Bool) (v10 : LD) (v11 : Bool) (v12 : LD) : Option (Sum (LD) (Bool × LD)) := F78x0 N v1 v2 v3 v4 v6 v8 v9 v10 v11 v12 (fun p => some (.inl p)) (fun p => some (.inr p))
theorem bind78x0 (v1 : LD) (v2 : LB) (v3 v4 : Int) (v6 v8 : LD) (v9 : Bool) (v10 : LD) (v11 : Bool) (v12 : LD) (k0 : LD → Option R) (k1 : Bool × LD → Option R) : F78x0 N v1 v2 v3 v4 v6 v8 v9 v10 v11 v12 k0 k1 = (G78x0 N v1 v2 v3 v4 v6 v8 v9 v10 v11 v12).bind (sumE k0 k1) := by
 unfold G78x0 F78x0
 repeat' (first | with_reducible apply cond_b | (with_reducible apply bnd_b; intro _) | rfl)
def J78x0 (L : List Lf) (k0 : LD → Option R) (k1 : Bool × LD → Option R) : Option R := F78x0 N (ll L 1) (ls L 2) (li L 3) (li L 4) (ll L 6) (ll L 8) (lb L 9) (ll L 10) (lb L 11) (ll L 12) k0 k1
def sh78x0 : Sh := { tmps := [(0, .c (.y 4)), (1, .c (.p 0 0)), (2, .c (.p 1 0)), (8, .c (.p 2 0))], mem := [(0, .box ([.sl 40])), (1, .box (.s :: [.i .i64, .i .i64, .sl 47, .sl 110, .sl 9])), (2, .box ([.o 3])), (3, .row 51 true), (4, .row 3 true)] }
def K78x0w0 (L : List Lf) (p : LD) : Res := ([], mgA (ofSh sh78x0 L).mem [(68000000033, .row 51 true false p), (2, .box [.o 68000000033])] [0, 1, 68000000033, 2, 4])
def K78x0w1 (L : List Lf) (p : Bool × LD) : Res := ([], mgA (ofSh sh78x0 L).mem [(2, .box [.o 50002005]), (50002005, .row 51 true p.1 p.2)] [0, 1, 2, 4, 50002005])
def A78x0 (L : List Lf) : List (Bool × Res) := bnd (J78x0 N L (fun p => some (.inl p)) (fun p => some (.inr p))) fun q => [((inlB q), K78x0w0 L (inlV q)), ((inrQ q).isSome, K78x0w1 L ((inrQ q).getD default))]
theorem raw78x0 (L : List Lf) : bdY Tryz.prog (T81x0 N) ((h78x0s6 N)).h 78 3 sh78x0 L = J78x0 N L (fun p => some (K78x0w0 L p)) (fun p => some (K78x0w1 L p)) := by kernel_rfl
theorem ok78x0 : FnOkY (y42x0z600000022o N) Tryz.prog 78 3 sh78x0 (A78x0 N) :=
 Sg.fnY (fun L => (y42x0z600000022 N)) (fun L => (h78x0s6 N)) (fun L => by kernel_rfl) progOk (T81x0_ok N) fun L x hx => ((raw78x0 N L).trans ((bind78x0 N ..).trans ((altS alt1) x hx)))
def rg42x0 : List (Nat × List Nat) := [(0, [0, 1, 2]), (1, [3, 1, 2]), (2, [2, 7]), (3, [2, 7, 8]), (4, [17, 16, 15, 7, 8]), (5, [15, 17, 7, 16, 8]), (6, [7, 10, 17, 16, 15, 8]), (9, [17, 16, 15, 7, 8]), (10, [8])]
def hd42x0 : Hints := [(12, [7, 8, 15, 16, 17], [8, 50008000], [50008000]), (600000022, [7, 8, 15, 16, 17, 23], [8, 50008000, 24000000002, 24000000003], [])]
def h42x0s0 (N : Nat) : Sg Tryz.prog 0 42 := .start hd42x0 rg42x0
def F42x0x600000022 (w6 : Bool) (w7 w9 : LD) (w10 : LB) (w11 w12 : Int) (w14 w16 : LD) (w17 : Bool) (w18 : LD) (k0 : LD → Option R) (k1 : Bool × LD → Option R) : Option R :=
 bnd (G78x0 N w9 w10 w11 w12 w14 w16 w17 w18 w6 w7) fun y0 =>
 bif (inlB y0) then
  k0 (inlV y0)
 else
  bif (inrQ y0).isSome then
   k1 ((inrQ y0).getD default)
  else
   none
def G42x0x600000022 (w6 : Bool) (w7 w9 : LD) (w10 : LB) (w11 w12 : Int) (w14 w16 : LD) (w17 : Bool) (w18 : LD) : Option (Sum (LD) (Bool × LD)) := F42x0x600000022 N w6 w7 w9 w10 w11 w12 w14 w16 w17 w18 (fun p => some (.inl p)) (fun p => some (.inr p))
theorem bind42x0x600000022 (w6 : Bool) (w7 w9 : LD) (w10 : LB) (w11 w12 : Int) (w14 w16 : LD) (w17 : Bool) (w18 : LD) (k0 : LD → Option R) (k1 : Bool × LD → Option R) : F42x0x600000022 N w6 w7 w9 w10 w11 w12 w14 w16 w17 w18 k0 k1 = (G42x0x600000022 N w6 w7 w9 w10 w11 w12 w14 w16 w17 w18).bind (sumE k0 k1) := by
 unfold G42x0x600000022 F42x0x600000022
 repeat' (first | with_reducible apply cond_b | (with_reducible apply bnd_b; intro _) | rfl)
def J42x0x600000022 (L : List Lf) (k0 : LD → Option R) (k1 : Bool × LD → Option R) : Option R := F42x0x600000022 N (lb L 6) (ll L 7) (ll L 9) (ls L 10) (li L 11) (li L 12) (ll L 14) (ll L 16) (lb L 17) (ll L 18) k0 k1
def sh42x0x600000022 : Sh := { tmps := [(7, .c (.sl 40)), (8, .c (.p 8 0)), (15, .c (.sl 51)), (16, .c (.i .i64)), (17, .c (.i .i64)), (23, .c (.f 78 [(24000000002, 0), (24000000003, 0)]))], mem := [(8, .box ([.o 50008000])), (50008000, .row 51 true), (24000000002, .box ([.sl 40])), (24000000003, .box (.s :: [.i .i64, .i .i64, .sl 47, .sl 110, .sl 9]))] }
def K42x0x600000022w0 (L : List Lf) (p : LD) : Ex × St := (.normal, mg (ofSh sh42x0x600000022 L) [17, 16, 15, 7, 8] [] [1000068000000033, 8] [(1000068000000033, .row 51 true false p), (8, .box [.o 1000068000000033])])
def K42x0x600000022w1 (L : List Lf) (p : Bool × LD) : Ex × St := (.normal, mg (ofSh sh42x0x600000022 L) [17, 16, 15, 7, 8] [] [8, 1000000050002005] [(8, .box [.o 1000000050002005]), (1000000050002005, .row 51 true p.1 p.2)])
def A42x0x600000022 (L : List Lf) : List (Bool × (Ex × St)) := bnd (J42x0x600000022 N L (fun p => some (.inl p)) (fun p => some (.inr p))) fun q => [((inlB q), K42x0x600000022w0 L (inlV q)), ((inrQ q).isSome, K42x0x600000022w1 L ((inrQ q).getD default))]
theorem raw42x0x600000022 (L : List Lf) : pcR Tryz.prog (y42x0z600000022o N) [8] (spY 3 sh78x0 (A78x0 N)) 78 3 0 42 600000022 sh42x0x600000022 L [17, 16, 15, 7, 8] [1000068000000033, 8, 1000000050002005] = J42x0x600000022 N L (fun p => some (K42x0x600000022w0 L p)) (fun p => some (K42x0x600000022w1 L p)) := by kernel_rfl
def h42x0s1 : Sg Tryz.prog 0 42 :=
 (h42x0s0 N).rf (g := .tmp 23) (A42x0x600000022 N) (ok78x0 N) (fun L x hx => (raw42x0x600000022 N L).trans ((bind42x0x600000022 N ..).trans ((altS alt1) x hx))) (by kernel_rfl)
def S42x0x12 (w1 w3 : LD) (w4 : Int) (w5 : Int) (w6 : Bool) (w7 : LD) (kr : Int → Bool → LD → Option R) (k0 : Bool × LD → Option R) : Option R :=
 bif (decide (w5 < w4)) then
  bif (inB w5 w3.length) then
   bnd (G42x0x600000022 N w6 w7 w1 ((w3.getD w5.toNat (.i 0)).cell 0).toS ((w3.getD w5.toNat (.i 0)).cell 1).toI ((w3.getD w5.toNat (.i 0)).cell 2).toI ((w3.getD w5.toNat (.i 0)).cell 3).items ((w3.getD w5.toNat (.i 0)).cell 4).items ((w3.getD w5.toNat (.i 0)).cell 5).isNil ((w3.getD w5.toNat (.i 0)).cell 5).items) fun y0 =>
   bif (inlB y0) then
    kr (IntKind.wrap .i64 (w5 + 1)) false (inlV y0)
   else
    bif (inrQ y0).isSome then
     kr (IntKind.wrap .i64 (w5 + 1)) ((inrQ y0).getD default).1 ((inrQ y0).getD default).2
    else
     none
  else
   none
 else
  k0 (w6, w7)
def L42x0x12 (N : Nat) {R : Type} (w1 w3 : LD) (w4 : Int) : Nat → Int → Bool → LD → (Bool × LD → Option R) → Option R
 | 0, _, _, _, _ => none
 | m + 1, w5, w6, w7, k0 => S42x0x12 N w1 w3 w4 w5 w6 w7 (fun w5 w6 w7 => L42x0x12 N w1 w3 w4 m w5 w6 w7 k0) k0
def G42x0x12 (w1 w3 : LD) (w4 : Int) (w5 : Int) (w6 : Bool) (w7 : LD) : Option (Bool × LD) := L42x0x12 N (R := (Bool × LD)) w1 w3 w4 N w5 w6 w7 (fun p => some p)
def J42x0x12 (L x : List Lf) (kr : List Lf → Option R) (k0 : Bool × LD → Option R) : Option R := S42x0x12 N (ll L 1) (ll L 3) (li L 4) (li x 0) (lb x 1) (ll x 2) (fun w5 w6 w7 => kr [.i w5, .b w6, .l w7]) k0
theorem sb42x0x12 (L x : List Lf) (kr : List Lf → Option R) (k0 : Bool × LD → Option R) : J42x0x12 N L x kr k0 = (J42x0x12 N L x (fun y => some (.inl y)) (fun p => some (.inr p))).bind (sumE kr k0) := by
 unfold J42x0x12 S42x0x12
 repeat' (first | with_reducible apply cond_b | (with_reducible apply bnd_b; intro _) | rfl)
def Q42x0x12 (L : List Lf) (m : Nat) (x : List Lf) : Option (Bool × LD) := L42x0x12 N (R := (Bool × LD)) (ll L 1) (ll L 3) (li L 4) m (li x 0) (lb x 1) (ll x 2) (fun p => some p)
def sh42x0x12 : Sh := { tmps := [(7, .c (.sl 40)), (8, .c (.p 8 0)), (15, .c (.sl 51)), (16, .c (.i .i64)), (17, .c (.i .i64))], mem := [(8, .box ([.o 50008000])), (50008000, .row 51 true)] }
def K42x0x12w0 (L : List Lf) (p : Bool × LD) : Ex × St := ((.exit 0), mg (ofSh sh42x0x12 L) [8] [] [50008000, 8] [(50008000, .row 51 true p.1 p.2)])
def A42x0x12 (L : List Lf) : List (Bool × (Ex × St)) := bnd (Q42x0x12 N L N (pk sh42x0x12 [5, 6, 7] L)) fun q => [(q.isSome, K42x0x12w0 L (q.getD default))]
theorem step42x0x12 (m : Nat) (kn : St → Option (Ex × St)) (L x : List Lf) : lpB Tryz.prog (T81x0 N) (h42x0s1 N).h 0 42 12 sh42x0x12 [5, 6, 7] [6, 8] [50008000, 8] (m + 100) kn L x = J42x0x12 N L x (fun y => kn (ofSh sh42x0x12 (mx sh42x0x12 [5, 6, 7] L y))) (fun p => some (K42x0x12w0 L p)) := by kernel_rfl
theorem ql42x0x12 (L : List Lf) (m : Nat) (x : List Lf) : Q42x0x12 N L (m + 1) x = J42x0x12 N L x (Q42x0x12 N L m) some := by kernel_rfl
def h42x0s2 : Sg Tryz.prog 0 42 :=
 (h42x0s1 N).lp (A42x0x12 N) N progOk (T81x0_ok N) (fun m kn L x => (step42x0x12 N m kn L x).trans (sb42x0x12 N L x _ _)) (fun L m x => (ql42x0x12 N L m x).trans (sb42x0x12 N L x (Q42x0x12 N L m) some)) fun L x hx => alt1 x hx
def F42x0 (v1 : LD) (v2 : Int) (v4 : LD) (k0 : Bool × LD → Option R) : Option R :=
 bnd (G59x0 N v1 v2) fun y0 =>
 bif y0.isSome then
  bnd (G42x0x12 N (y0.getD default).2 v4 (v4.length : Int) 0 true []) fun y1 =>
  bif y1.isSome then
   k0 (y1.getD default)
  else
   none
 else
  none
def G42x0 (v1 : LD) (v2 : Int) (v4 : LD) : Option (Bool × LD) := F42x0 N v1 v2 v4 (fun p => some p)
theorem bind42x0 (v1 : LD) (v2 : Int) (v4 : LD) (k0 : Bool × LD → Option R) : F42x0 N v1 v2 v4 k0 = (G42x0 N v1 v2 v4).bind k0 := by
 unfold G42x0 F42x0
 repeat' (first | with_reducible apply cond_b | (with_reducible apply bnd_b; intro _) | rfl)
def sh42x0 : Sh := { tmps := [(0, .g ([.sl 40])), (1, .c (.i .i64)), (2, .c (.sl 51))], mem := [] }
def A42x0 (L : List Lf) : List (Bool × Res) := bnd (F42x0 N (ll L 1) (li L 2) (ll L 4) (fun p => some p)) fun q => [(q.isSome, ([.c (.sl 51 (q.getD default).1 (q.getD default).2)], []))]
theorem raw42x0 (L : List Lf) : bd Tryz.prog (T81x0 N) (h42x0s2 N).h 42 sh42x0 L = F42x0 N (ll L 1) (li L 2) (ll L 4) (fun p => some ([.c (.sl 51 p.1 p.2)], [])) := by kernel_rfl
theorem ok42x0 : FnOk Tryz.prog 42 sh42x0 (A42x0 N) :=
 (h42x0s2 N).fn progOk (T81x0_ok N) fun L x hx => ((raw42x0 N L).trans ((bind42x0 N ..).trans (alt1 x hx)))
def T42x0 : Oracle := ext 42 (spSh sh42x0 (A42x0 N)) (T81x0 N)
theorem T42x0_ok : OracleOk Tryz.prog (T42x0 N) := FnOk.to (ok42x0 N) (T81x0_ok N)
def rg21x0 : List (Nat × List Nat) := [(0, [0, 2, 1]), (1, [3, 1, 5]), (2, [8, 3, 1, 5]), (3, [8]), (4, [3, 1, 5])]
def hd21x0 : Hints := []
def h21x0s0 (N : Nat) : Sg Tryz.prog 0 21 := .start hd21x0 rg21x0
def F21x0 (v1 : LD) (v2 : Int) (v3 : LB) (v4 v5 : Int) (v6 : Bool) (v7 : LD) (v8 : Bool) (v9 : LD) (v10 : Bool) (v11 : LD) (k0 : Bool × LD × Int → Option R) : Option R :=
 bnd (G41x0 N v1 v2 [(.a [(.s v3), (.i v4), (.i v5), (.l v6 v7), (.l v8 v9), (.l v10 v11)])]) fun y0 =>
 bif y0.isSome then
  bif ((y0.getD default) != 0) then
   k0 (true, [], (y0.getD default))
  else
   bnd (G42x0 N v1 v2 [(.a [(.s v3), (.i v4), (.i v5), (.l v6 v7), (.l v8 v9), (.l v10 v11)])]) fun y1 =>
   bif y1.isSome then
    k0 ((y1.getD default).1, (y1.getD default).2, 0)
   else
    none
 else
  none
def G21x0 (v1 : LD) (v2 : Int) (v3 : LB) (v4 v5 : Int) (v6 : Bool) (v7 : LD) (v8 : Bool) (v9 : LD) (v10 : Bool) (v11 : LD) : Option (Bool × LD × Int) := F21x0 N v1 v2 v3 v4 v5 v6 v7 v8 v9 v10 v11 (fun p => some p)
theorem bind21x0 (v1 : LD) (v2 : Int) (v3 : LB) (v4 v5 : Int) (v6 : Bool) (v7 : LD) (v8 : Bool) (v9 : LD) (v10 : Bool) (v11 : LD) (k0 : Bool × LD × Int → Option R) : F21x0 N v1 v2 v3 v4 v5 v6 v7 v8 v9 v10 v11 k0 = (G21x0 N v1 v2 v3 v4 v5 v6 v7 v8 v9 v10 v11).bind k0 := by
 unfold G21x0 F21x0
 repeat' (first | with_reducible apply cond_b | (with_reducible apply bnd_b; intro _) | rfl)
def J21x0 (L : List Lf) (k0 : Bool × LD × Int → Option R) : Option R := F21x0 N (ll L 1) (li L 2) (ls L 3) (li L 4) (li L 5) (lb L 6) (ll L 7) (lb L 8) (ll L 9) (lb L 10) (ll L 11) k0
def sh21x0 : Sh := { tmps := [(0, .g ([.sl 40])), (1, .c (.i .i64)), (2, .g (.s :: [.i .i64, .i .i64, .sl 47, .sl 110, .sl 9]))], mem := [] }
def A21x0 (L : List Lf) : List (Bool × Res) := bnd (J21x0 N L (fun p => some p)) fun q => [(q.isSome, ([.c (.sl 51 (q.getD default).1 (q.getD default).2.1), .c (.i .i64 (q.getD default).2.2)], []))]
theorem raw21x0 (L : List Lf) : bd Tryz.prog (T42x0 N) (h21x0s0 N).h 21 sh21x0 L = J21x0 N L (fun p => some ([.c (.sl 51 p.1 p.2.1), .c (.i .i64 p.2.2)], [])) := by kernel_rfl
theorem ok21x0 : FnOk Tryz.prog 21 sh21x0 (A21x0 N) :=
 (h21x0s0 N).fn progOk (T42x0_ok N) fun L x hx => ((raw21x0 N L).trans ((bind21x0 N ..).trans (alt1 x hx)))
def T21x0 : Oracle := ext 21 (spSh sh21x0 (A21x0 N)) (T42x0 N)
theorem T21x0_ok : OracleOk Tryz.prog (T21x0 N) := FnOk.to (ok21x0 N) (T42x0_ok N)
def rg8x0 : List (Nat × List Nat) := [(0, []), (1, []), (2, [1]), (3, [1, 2]), (4, [4, 3])]
def hd8x0 : Hints := []
def h8x0s0 (N : Nat) : Sg Tryz.prog 0 8 := .start hd8x0 rg8x0
def F8x0 (k0 : Bool → Option R) : Option R :=
 bnd (G21x0 N [(.a [(.i 2), (.i 1), (.i 0), (.i 0), (.i 10), (.i 0), (.i 0), (.i 0), (.s ([] : List UInt8))])] 2 ([109] : List UInt8) 1 0 false [(.a [(.i 0), (.i 0), (.i 0), (.i 0), (.i (-1)), (.i (-1)), (.i (-1))]), (.a [(.i 10), (.i 100), (.i 0), (.i 0), (.i (-1)), (.i (-1)), (.i (-1))])] true [] true []) fun y0 =>
 bif y0.isSome then
  bnd (bif ((y0.getD default).2.2 == 0) then (((y0.getD default).2.1.length : Int) == 1) else false) fun y1 =>
  bif (bif (inB 0 (y0.getD default).2.1.length) then true else (!(y1 == true))) then
   bnd (bif y1 then ((((y0.getD default).2.1.getD 0 (.i 0)).cell 2).toI == 10) else false) fun y2 =>
   bif (bif (inB 0 (y0.getD default).2.1.length) then true else (!(y2 == true))) then
    bnd (bif y2 then (((((y0.getD default).2.1.getD 0 (.i 0)).cell 3).items.length : Int) == 1) else false) fun y3 =>
    bif (bif (inB 0 (y0.getD default).2.1.length) then true else (!(y3 == true))) then
     bif (bif (inB 0 (((y0.getD default).2.1.getD 0 (.i 0)).cell 3).items.length) then true else (!(y3 == true))) then
      bnd (bif y3 then ((((((y0.getD default).2.1.getD 0 (.i 0)).cell 3).items.getD 0 (.i 0)).cell 1).toI == 100) else false) fun y4 =>
      k0 y4
     else
      none
    else
     none
   else
    none
  else
   none
 else
  none
def G8x0 : Option (Bool) := F8x0 N (fun p => some p)
theorem bind8x0 (k0 : Bool → Option R) : F8x0 N k0 = (G8x0 N).bind k0 := by
 unfold G8x0 F8x0
 repeat' (first | with_reducible apply cond_b | (with_reducible apply bnd_b; intro _) | rfl)
def sh8x0 : Sh := { tmps := [], mem := [] }
def A8x0 (L : List Lf) : List (Bool × Res) := bnd (F8x0 N (fun p => some p)) fun q => [(q.isSome, ([.c (.b (q.getD default))], []))]
theorem raw8x0 (L : List Lf) : bd Tryz.prog (T21x0 N) (h8x0s0 N).h 8 sh8x0 L = F8x0 N (fun p => some ([.c (.b p)], [])) := by kernel_rfl
theorem ok8x0 : FnOk Tryz.prog 8 sh8x0 (A8x0 N) :=
 (h8x0s0 N).fn progOk (T21x0_ok N) fun L x hx => ((raw8x0 N L).trans ((bind8x0 N ..).trans (alt1 x hx)))
def T8x0 : Oracle := ext 8 (spSh sh8x0 (A8x0 N)) (T21x0 N)
theorem T8x0_ok : OracleOk Tryz.prog (T8x0 N) := FnOk.to (ok8x0 N) (T21x0_ok N)
def rg3x0 : List (Nat × List Nat) := [(0, [0]), (1, [0]), (2, [0, 3, 4, 5]), (3, [3, 6, 4, 7, 5, 8])]
def hd3x0 : Hints := [(10, [3, 4, 5, 6, 7, 8], [3, 6], [])]
def h3x0s0 (N : Nat) : Sg Tryz.prog 0 3 := .start hd3x0 rg3x0
def F3x0x10 (w0 w1 w2 w3 : Int) (w5 w7 : LD) (k0 : Bool → Option R) : Option R :=
 bnd (G7x0 N w5 w7) fun y0 =>
 bif y0.isSome then
  bnd (bif (bif (y0.getD default) then (w0 == w2) else false) then (w1 == w3) else false) fun y1 =>
  bif y1 then
   bnd (G8x0 N) fun y2 =>
   bif y2.isSome then
    k0 (y2.getD default)
   else
    none
  else
   k0 false
 else
  none
def G3x0x10 (w0 w1 w2 w3 : Int) (w5 w7 : LD) : Option (Bool) := F3x0x10 N w0 w1 w2 w3 w5 w7 (fun p => some p)
theorem bind3x0x10 (w0 w1 w2 w3 : Int) (w5 w7 : LD) (k0 : Bool → Option R) : F3x0x10 N w0 w1 w2 w3 w5 w7 k0 = (G3x0x10 N w0 w1 w2 w3 w5 w7).bind k0 := by
 unfold G3x0x10 F3x0x10
 repeat' (first | with_reducible apply cond_b | (with_reducible apply bnd_b; intro _) | rfl)
def J3x0x10 (L : List Lf) (k0 : Bool → Option R) : Option R := F3x0x10 N (li L 0) (li L 1) (li L 2) (li L 3) (ll L 5) (ll L 7) k0
def sh3x0x10 : Sh := { tmps := [(3, .c (.p 3 0)), (4, .c (.i .i64)), (5, .c (.i .i64)), (6, .c (.p 6 0)), (7, .c (.i .i64)), (8, .c (.i .i64))], mem := [(3, .box ([.sl 40])), (6, .box ([.sl 40]))] }
def A3x0x10 (L : List Lf) : List (Bool × (Ex × St)) := bnd (J3x0x10 N L (fun p => some p)) fun q => [(q.isSome, (.normal, ⟨[(2, .c (.b (q.getD default)))], []⟩))]
theorem raw3x0x10 (L : List Lf) : pc Tryz.prog (T8x0 N) (h3x0s0 N).h 0 100 3 10 sh3x0x10 L [2] [] = J3x0x10 N L (fun p => some (.normal, ⟨[(2, .c (.b p))], []⟩)) := by kernel_rfl
def h3x0s1 : Sg Tryz.prog 0 3 :=
 (h3x0s0 N).cut (A3x0x10 N) progOk (T8x0_ok N) fun L x hx => (raw3x0x10 N L).trans ((bind3x0x10 N ..).trans (alt1 x hx))
def F3x0 (v0 : LB) (k0 : Bool → Option R) : Option R :=
 bnd (G5x0 N v0) fun y0 =>
 bif y0.isSome then
  bnd (G6x0 N v0) fun y1 =>
  bif y1.isSome then
   bnd (G3x0x10 N (y0.getD default).2.2.1 (y0.getD default).2.2.2 (y1.getD default).2.2.1 (y1.getD default).2.2.2 (y0.getD default).2.1 (y1.getD default).2.1) fun y2 =>
   bif y2.isSome then
    k0 (y2.getD default)
   else
    none
  else
   none
 else
  none
def G3x0 (v0 : LB) : Option (Bool) := F3x0 N v0 (fun p => some p)
theorem bind3x0 (v0 : LB) (k0 : Bool → Option R) : F3x0 N v0 k0 = (G3x0 N v0).bind k0 := by
 unfold G3x0 F3x0
 repeat' (first | with_reducible apply cond_b | (with_reducible apply bnd_b; intro _) | rfl)
def sh3x0 : Sh := { tmps := [(0, .c (.s))], mem := [] }
def A3x0 (L : List Lf) : List (Bool × Res) := bnd (F3x0 N (ls L 0) (fun p => some p)) fun q => [(q.isSome, ([.c (.b (q.getD default))], []))]
theorem raw3x0 (L : List Lf) : bd Tryz.prog (T8x0 N) (h3x0s1 N).h 3 sh3x0 L = F3x0 N (ls L 0) (fun p => some ([.c (.b p)], [])) := by kernel_rfl
theorem ok3x0 : FnOk Tryz.prog 3 sh3x0 (A3x0 N) :=
 (h3x0s1 N).fn progOk (T8x0_ok N) fun L x hx => ((raw3x0 N L).trans ((bind3x0 N ..).trans (alt1 x hx)))
def T3x0 : Oracle := ext 3 (spSh sh3x0 (A3x0 N)) (T8x0 N)
theorem T3x0_ok : OracleOk Tryz.prog (T3x0 N) := FnOk.to (ok3x0 N) (T8x0_ok N)
end
end Go.Proofs.YtohplnjpncjhoaaGreatDoor
