/- Functions of the program as plain Lean definitions, each with the proof that the program computes it. No condition. Printed by a program of the prover, part 2. -/
import Derived.Test.YtngnemeafkmaoaaVPp1
import Derived.KernelRfl
set_option linter.all false
set_option maxRecDepth 100000
namespace Go.Proofs.Ytngnemeafkmaoaa
open Go Go.AM
variable (N : Nat) {R : Type}
noncomputable def S94x0x51 (w0 : Int) (w2 : LD) (w3 : Int) (w13 : Bool) (w28 : (List (D × D))) (w4 : Int) (w31 : Bool) (w32 : LD) (kr : Int → Bool → LD → Option R) (k0 : Bool × LD → Option R) : Option R :=
  bif (decide (w4 < w3)) then
    bif (inB w4 w2.length) then
      bnd ((findB Try.prog 3 (.i ((w2.getD w4.toNat (.i 0)).cell 0).toI) w28).getD (.b false)).toB fun y0 =>
      bnd (bif (!y0) then true else (!((findB Try.prog 3 (.i ((w2.getD w4.toNat (.i 0)).cell 1).toI) w28).getD (.b false)).toB)) fun y1 =>
      bif y1 then
        kr (IntKind.wrap .i64 (w4 + 1)) w31 w32
      else
        bnd (IntKind.wrap .i64 (((w2.getD w4.toNat (.i 0)).cell 0).toI - w0)) fun y2 =>
        bnd (IntKind.wrap .i64 (((w2.getD w4.toNat (.i 0)).cell 1).toI - w0)) fun y3 =>
        bnd (V94x0x68 N w13 ((w2.getD w4.toNat (.i 0)).cell 2).toS) fun y4 =>
        bif (decide ((w32.length + 1) * 32 ≤ room) && decide ((w32.length + 1) ≤ strMax)) then
          bnd ((w32 ++ [(.a [(.i y2), (.i y3), (.s y4)])]) : List D) fun y5 =>
          kr (IntKind.wrap .i64 (w4 + 1)) false y5
        else
          none
    else
      none
  else
    k0 (w31, w32)
noncomputable def L94x0x51 (N : Nat) {R : Type} (w0 : Int) (w2 : LD) (w3 : Int) (w13 : Bool) (w28 : (List (D × D))) : Nat → Int → Bool → LD → (Bool × LD → Option R) → Option R
  | 0, _, _, _, _ => none
  | m + 1, w4, w31, w32, k0 => S94x0x51 N w0 w2 w3 w13 w28 w4 w31 w32 (fun w4 w31 w32 => L94x0x51 N w0 w2 w3 w13 w28 m w4 w31 w32 k0) k0
noncomputable def G94x0x51 (w0 : Int) (w2 : LD) (w3 : Int) (w13 : Bool) (w28 : (List (D × D))) (w4 : Int) (w31 : Bool) (w32 : LD) : Option (Bool × LD) := L94x0x51 N (R := (Bool × LD)) w0 w2 w3 w13 w28 N w4 w31 w32 (fun p => some p)
noncomputable def J94x0x51 (L x : List Lf) (kr : List Lf → Option R) (k0 : Bool × LD → Option R) : Option R := S94x0x51 N (li L 0) (ll L 2) (li L 3) (lb L 13) (lm L 28) (li x 0) (lb x 1) (ll x 2) (fun w4 w31 w32 => kr [.i w4, .b w31, .l w32]) k0
theorem sb94x0x51 (L x : List Lf) (kr : List Lf → Option R) (k0 : Bool × LD → Option R) : J94x0x51 N L x kr k0 = (J94x0x51 N L x (fun y => some (.inl y)) (fun p => some (.inr p))).bind (sumE kr k0) := by
  unfold J94x0x51 S94x0x51
  repeat' (first | with_reducible apply cond_b | (with_reducible apply bnd_b; intro _) | rfl)
noncomputable def Q94x0x51 (L : List Lf) (m : Nat) (x : List Lf) : Option (Bool × LD) := L94x0x51 N (R := (Bool × LD)) (li L 0) (ll L 2) (li L 3) (lb L 13) (lm L 28) m (li x 0) (lb x 1) (ll x 2) (fun p => some p)
noncomputable def sh94x0x51 : Sh := { tmps := [(3, .c (.p 3 0)), (6, .c (.p 6 0)), (7, .c (.i .i64)), (8, .c (.p 8 0)), (9, .c (.m 40)), (66, .c (.sl 111)), (67, .c (.i .i64)), (68, .c (.i .i64))], mem := [(3, .box (rB 5 ([.sl 3, .b, .b]))), (6, .box (.s :: [.i .i64, .i .i64, .sl 48, .sl 111, .sl 9])), (8, .box (.s :: [.i .i64, .i .i64, .o 50008003, .o 50008004, .sl 9])), (40, .map 3 4), (50008003, .row 48 true), (50008004, .row 111 true)] }
noncomputable def K94x0x51w0 (L : List Lf) (p : Bool × LD) : Ex × St := ((.exit 2), mg (ofSh sh94x0x51 L) [6, 8] [] [6, 8, 50008003, 50008004] [(50008004, .row 111 true p.1 p.2)])
noncomputable def A94x0x51 (L : List Lf) : List (Bool × (Ex × St)) := bnd (Q94x0x51 N L N (pk sh94x0x51 [4, 31, 32] L)) fun q => [(q.isSome, K94x0x51w0 L (q.getD default))]
theorem step94x0x51 (m : Nat) (kn : St → Option (Ex × St)) (L x : List Lf) : lpB Try.prog (T100x0 N) (h94x0s5 N).h 0 94 51 sh94x0x51 [4, 31, 32] [6, 8] [50008004, 50008003, 8, 6] (m + 100) kn L x = J94x0x51 N L x (fun y => kn (ofSh sh94x0x51 (mx sh94x0x51 [4, 31, 32] L y))) (fun p => some (K94x0x51w0 L p)) := by kernel_rfl
theorem ql94x0x51 (L : List Lf) (m : Nat) (x : List Lf) : Q94x0x51 N L (m + 1) x = J94x0x51 N L x (Q94x0x51 N L m) some := by kernel_rfl
noncomputable def h94x0s6 : Sg Try.prog 0 94 :=
  (h94x0s5 N).lp (A94x0x51 N) N progOk (T100x0_ok N) (fun m kn L x => (step94x0x51 N m kn L x).trans (sb94x0x51 N L x _ _)) (fun L m x => (ql94x0x51 N L m x).trans (sb94x0x51 N L x (Q94x0x51 N L m) some)) fun L x hx => alt1 x hx
noncomputable def F94x0x14b (N : Nat) (w3 : Bool) (k0 : LB → Option R) (k1 : Unit → Option R) : Option R :=
  bif w3 then
    k0 ([97, 99, 116, 105, 118, 105, 116, 121] : List UInt8)
  else
    k1 ()
noncomputable def G94x0x14b (w3 : Bool) : Option (Sum (LB) (Unit)) := F94x0x14b N w3 (fun p => some (.inl p)) (fun p => some (.inr p))
theorem bind94x0x14b (w3 : Bool) (k0 : LB → Option R) (k1 : Unit → Option R) : F94x0x14b N w3 k0 k1 = (G94x0x14b N w3).bind (sumE k0 k1) := by
  unfold G94x0x14b F94x0x14b
  repeat' (first | with_reducible apply cond_b | (with_reducible apply bnd_b; intro _) | rfl)
noncomputable def sh94x0x14b : Sh := { tmps := [(2, .c (.sl 48)), (3, .c (.p 3 0)), (4, .c (.p 4 0)), (6, .c (.p 6 0)), (7, .c (.i .i64)), (8, .c (.p 8 0)), (31, .c (.b))], mem := [(3, .box (rB 5 ([.sl 3, .b, .b]))), (4, .box (.s :: [.i .i64, .i .i64, .sl 48, .sl 111, .sl 9])), (6, .box (.s :: [.i .i64, .i .i64, .sl 48, .sl 111, .sl 9])), (8, .box (.s :: [.i .i64, .i .i64, .sl 48, .sl 111, .o 29000000007])), (29000000007, .row 9 true)] }
noncomputable def K94x0x14bw0 (L : List Lf) (p : LB) : Ex × St := (.normal, mg (ofSh sh94x0x14b L) [2, 3, 4, 6, 7, 8] [] [3, 4, 6, 8, 29000000007] [(8, .box [.s p, .i .i64 (li L 32), .i .i64 (li L 33), .sl 48 (lb L 34) (ll L 35), .sl 111 (lb L 36) (ll L 37), .sl 9 true []])])
noncomputable def K94x0x14bw1 (L : List Lf) (_ : Unit) : Ex × St := (.normal, mg (ofSh sh94x0x14b L) [2, 3, 4, 6, 7, 8] [] [3, 4, 6, 8, 29000000007] [])
noncomputable def A94x0x14b (L : List Lf) : List (Bool × (Ex × St)) := bnd (F94x0x14b N (lb L 3) (fun p => some (.inl p)) (fun p => some (.inr p))) fun q => [((inlB q), K94x0x14bw0 L (inlV q)), ((inrQ q).isSome, K94x0x14bw1 L ())]
theorem raw94x0x14b (L : List Lf) : pc Try.prog (T100x0 N) ((h94x0s6 N).no 14).h 0 100 94 14 sh94x0x14b L [3, 8, 2, 7, 4, 6] [8, 6, 4, 3, 29000000007] = F94x0x14b N (lb L 3) (fun p => some (K94x0x14bw0 L p)) (fun _ => some (K94x0x14bw1 L ())) := by kernel_rfl
noncomputable def h94x0s7 : Sg Try.prog 0 94 :=
  (h94x0s6 N).add (((h94x0s6 N).no 14).cut (A94x0x14b N) progOk (T100x0_ok N) fun L x hx => (raw94x0x14b N L).trans ((bind94x0x14b N ..).trans ((altS alt1) x hx))) 14
noncomputable def F94x0x20b (w3 : Bool) (w33 : Int) (k0 : Int → Option R) : Option R :=
  bif w3 then
    bnd (G99x0 N w33 86400) fun y0 =>
    bif y0.isSome then
      k0 (y0.getD default)
    else
      none
  else
    k0 w33
noncomputable def G94x0x20b (w3 : Bool) (w33 : Int) : Option (Int) := F94x0x20b N w3 w33 (fun p => some p)
theorem bind94x0x20b (w3 : Bool) (w33 : Int) (k0 : Int → Option R) : F94x0x20b N w3 w33 k0 = (G94x0x20b N w3 w33).bind k0 := by
  unfold G94x0x20b F94x0x20b
  repeat' (first | with_reducible apply cond_b | (with_reducible apply bnd_b; intro _) | rfl)
noncomputable def sh94x0x20b : Sh := { tmps := [(2, .c (.sl 48)), (3, .c (.p 3 0)), (4, .c (.p 4 0)), (6, .c (.p 6 0)), (7, .c (.i .i64)), (8, .c (.p 8 0)), (35, .c (.b))], mem := [(3, .box (rB 5 ([.sl 3, .b, .b]))), (4, .box (.s :: [.i .i64, .i .i64, .sl 48, .sl 111, .sl 9])), (6, .box (.s :: [.i .i64, .i .i64, .sl 48, .sl 111, .sl 9])), (8, .box (.s :: [.i .i64, .i .i64, .sl 48, .sl 111, .sl 9])), (29000000007, .row 9 true)] }
noncomputable def K94x0x20bw0 (L : List Lf) (p : Int) : Ex × St := (.normal, mg (ofSh sh94x0x20b L) [2, 3, 4, 6, 7, 8] [] [3, 4, 6, 8] [(8, .box [.s (ls L 31), .i .i64 (li L 32), .i .i64 p, .sl 48 (lb L 34) (ll L 35), .sl 111 (lb L 36) (ll L 37), .sl 9 (lb L 38) (ll L 39)])])
noncomputable def A94x0x20b (L : List Lf) : List (Bool × (Ex × St)) := bnd (F94x0x20b N (lb L 3) (li L 33) (fun p => some p)) fun q => [(q.isSome, K94x0x20bw0 L (q.getD default))]
theorem raw94x0x20b (L : List Lf) : pc Try.prog (T100x0 N) ((h94x0s7 N).no 20).h 0 100 94 20 sh94x0x20b L [2, 3, 7, 8, 4, 6] [8, 6, 4, 3] = F94x0x20b N (lb L 3) (li L 33) (fun p => some (K94x0x20bw0 L p)) := by kernel_rfl
noncomputable def h94x0s8 : Sg Try.prog 0 94 :=
  (h94x0s7 N).add (((h94x0s7 N).no 20).cut (A94x0x20b N) progOk (T100x0_ok N) fun L x hx => (raw94x0x20b N L).trans ((bind94x0x20b N ..).trans (alt1 x hx))) 20
noncomputable def F94x0x20bb (w3 : Bool) (w33 : Int) (k0 : Int → Option R) : Option R :=
  bif w3 then
    bnd (G99x0 N w33 86400) fun y0 =>
    bif y0.isSome then
      k0 (y0.getD default)
    else
      none
  else
    k0 w33
noncomputable def G94x0x20bb (w3 : Bool) (w33 : Int) : Option (Int) := F94x0x20bb N w3 w33 (fun p => some p)
theorem bind94x0x20bb (w3 : Bool) (w33 : Int) (k0 : Int → Option R) : F94x0x20bb N w3 w33 k0 = (G94x0x20bb N w3 w33).bind k0 := by
  unfold G94x0x20bb F94x0x20bb
  repeat' (first | with_reducible apply cond_b | (with_reducible apply bnd_b; intro _) | rfl)
noncomputable def sh94x0x20bb : Sh := { tmps := [(2, .c (.sl 48)), (3, .c (.p 3 0)), (4, .c (.p 4 0)), (6, .c (.p 6 0)), (7, .c (.i .i64)), (8, .c (.p 8 0)), (35, .c (.b))], mem := [(3, .box (rB 5 ([.sl 3, .b, .b]))), (4, .box (.s :: [.i .i64, .i .i64, .sl 48, .sl 111, .sl 9])), (6, .box (.s :: [.i .i64, .i .i64, .sl 48, .sl 111, .sl 9])), (8, .box (.s :: [.i .i64, .i .i64, .sl 48, .sl 111, .o 29000000007])), (29000000007, .row 9 true)] }
noncomputable def K94x0x20bbw0 (L : List Lf) (p : Int) : Ex × St := (.normal, mg (ofSh sh94x0x20bb L) [2, 3, 4, 6, 7, 8] [] [3, 4, 6, 8, 29000000007] [(8, .box [.s (ls L 31), .i .i64 (li L 32), .i .i64 p, .sl 48 (lb L 34) (ll L 35), .sl 111 (lb L 36) (ll L 37), .o 29000000007])])
noncomputable def A94x0x20bb (L : List Lf) : List (Bool × (Ex × St)) := bnd (F94x0x20bb N (lb L 3) (li L 33) (fun p => some p)) fun q => [(q.isSome, K94x0x20bbw0 L (q.getD default))]
theorem raw94x0x20bb (L : List Lf) : pc Try.prog (T100x0 N) ((h94x0s8 N).no 20).h 0 100 94 20 sh94x0x20bb L [2, 3, 7, 8, 4, 6] [29000000007, 8, 6, 4, 3] = F94x0x20bb N (lb L 3) (li L 33) (fun p => some (K94x0x20bbw0 L p)) := by kernel_rfl
noncomputable def h94x0s9 : Sg Try.prog 0 94 :=
  (h94x0s8 N).add (((h94x0s8 N).no 20).cut (A94x0x20bb N) progOk (T100x0_ok N) fun L x hx => (raw94x0x20bb N L).trans ((bind94x0x20bb N ..).trans (alt1 x hx))) 20
noncomputable def S94x0x27b (w0 : Int) (w2 : LD) (w3 : Int) (w6 w7 w8 w9 : Bool) (w11 : LD) (w4 : Int) (w35 : (List (D × D))) (w36 : Bool) (w37 : LD) (kr : Int → (List (D × D)) → Bool → LD → Option R) (k0 : Ty6 → Option R) : Option R :=
  bif (decide (w4 < w3)) then
    bif (inB w4 w2.length) then
      bnd (putB Try.prog 3 (.i ((w2.getD w4.toNat (.i 0)).cell 0).toI) (.b true) w35) fun y0 =>
      bnd (G100x0 N w6 w7 w8 w9 w11 ((w2.getD w4.toNat (.i 0)).cell 1).toI ((w2.getD w4.toNat (.i 0)).cell 2).toI ((w2.getD w4.toNat (.i 0)).cell 3).toI ((w2.getD w4.toNat (.i 0)).cell 4).toI ((w2.getD w4.toNat (.i 0)).cell 5).toI ((w2.getD w4.toNat (.i 0)).cell 6).toI) fun y1 =>
      bif y1.isSome then
        bnd (IntKind.wrap .i64 (((w2.getD w4.toNat (.i 0)).cell 0).toI - w0)) fun y2 =>
        bif (decide ((w37.length + 1) * 56 ≤ room) && decide ((w37.length + 1) ≤ strMax)) then
          bnd ((w37 ++ [(.a [(.i y2), (.i (y1.getD default).1), (.i (y1.getD default).2.1), (.i (y1.getD default).2.2.1), (.i (y1.getD default).2.2.2.1), (.i (y1.getD default).2.2.2.2.1), (.i (y1.getD default).2.2.2.2.2)])]) : List D) fun y3 =>
          kr (IntKind.wrap .i64 (w4 + 1)) y0 false y3
        else
          none
      else
        none
    else
      none
  else
    k0 (w35, w36, w37)
noncomputable def L94x0x27b (N : Nat) {R : Type} (w0 : Int) (w2 : LD) (w3 : Int) (w6 w7 w8 w9 : Bool) (w11 : LD) : Nat → Int → (List (D × D)) → Bool → LD → (Ty6 → Option R) → Option R
  | 0, _, _, _, _, _ => none
  | m + 1, w4, w35, w36, w37, k0 => S94x0x27b N w0 w2 w3 w6 w7 w8 w9 w11 w4 w35 w36 w37 (fun w4 w35 w36 w37 => L94x0x27b N w0 w2 w3 w6 w7 w8 w9 w11 m w4 w35 w36 w37 k0) k0
noncomputable def G94x0x27b (w0 : Int) (w2 : LD) (w3 : Int) (w6 w7 w8 w9 : Bool) (w11 : LD) (w4 : Int) (w35 : (List (D × D))) (w36 : Bool) (w37 : LD) : Option (Ty6) := L94x0x27b N (R := (Ty6)) w0 w2 w3 w6 w7 w8 w9 w11 N w4 w35 w36 w37 (fun p => some p)
noncomputable def J94x0x27b (L x : List Lf) (kr : List Lf → Option R) (k0 : Ty6 → Option R) : Option R := S94x0x27b N (li L 0) (ll L 2) (li L 3) (lb L 6) (lb L 7) (lb L 8) (lb L 9) (ll L 11) (li x 0) (lm x 1) (lb x 2) (ll x 3) (fun w4 w35 w36 w37 => kr [.i w4, .m w35, .b w36, .l w37]) k0
theorem sb94x0x27b (L x : List Lf) (kr : List Lf → Option R) (k0 : Ty6 → Option R) : J94x0x27b N L x kr k0 = (J94x0x27b N L x (fun y => some (.inl y)) (fun p => some (.inr p))).bind (sumE kr k0) := by
  unfold J94x0x27b S94x0x27b
  repeat' (first | with_reducible apply cond_b | (with_reducible apply bnd_b; intro _) | rfl)
noncomputable def Q94x0x27b (L : List Lf) (m : Nat) (x : List Lf) : Option (Ty6) := L94x0x27b N (R := (Ty6)) (li L 0) (ll L 2) (li L 3) (lb L 6) (lb L 7) (lb L 8) (lb L 9) (ll L 11) m (li x 0) (lm x 1) (lb x 2) (ll x 3) (fun p => some p)
noncomputable def sh94x0x27b : Sh := { tmps := [(3, .c (.p 3 0)), (4, .c (.p 4 0)), (6, .c (.p 6 0)), (7, .c (.i .i64)), (8, .c (.p 8 0)), (9, .c (.m 40)), (41, .c (.sl 48)), (42, .c (.i .i64)), (43, .c (.i .i64))], mem := [(3, .box (rB 5 ([.sl 3, .b, .b]))), (4, .box (.s :: [.i .i64, .i .i64, .sl 48, .sl 111, .sl 9])), (6, .box (.s :: [.i .i64, .i .i64, .sl 48, .sl 111, .sl 9])), (8, .box (.s :: [.i .i64, .i .i64, .o 50008003, .o 50008004, .o 29000000007])), (40, .map 3 4), (50008003, .row 48 true), (50008004, .row 111 true), (29000000007, .row 9 true)] }
noncomputable def K94x0x27bw0 (L : List Lf) (p : Ty6) : Ex × St := ((.exit 0), mg (ofSh sh94x0x27b L) [3, 4, 6, 7, 8, 9] [] [3, 4, 6, 8, 40, 50008003, 50008004, 29000000007] [(40, .map 3 4 p.1), (50008003, .row 48 true p.2.1 p.2.2)])
noncomputable def A94x0x27b (L : List Lf) : List (Bool × (Ex × St)) := bnd (Q94x0x27b N L N (pk sh94x0x27b [4, 35, 36, 37] L)) fun q => [(q.isSome, K94x0x27bw0 L (q.getD default))]
theorem step94x0x27b (m : Nat) (kn : St → Option (Ex × St)) (L x : List Lf) : lpB Try.prog (T100x0 N) ((h94x0s9 N).no 27).h 0 94 27 sh94x0x27b [4, 35, 36, 37] [6, 4, 9, 7, 3, 8] [40, 29000000007, 50008004, 50008003, 8, 6, 4, 3] (m + 100) kn L x = J94x0x27b N L x (fun y => kn (ofSh sh94x0x27b (mx sh94x0x27b [4, 35, 36, 37] L y))) (fun p => some (K94x0x27bw0 L p)) := by kernel_rfl
theorem ql94x0x27b (L : List Lf) (m : Nat) (x : List Lf) : Q94x0x27b N L (m + 1) x = J94x0x27b N L x (Q94x0x27b N L m) some := by kernel_rfl
noncomputable def h94x0s10 : Sg Try.prog 0 94 :=
  (h94x0s9 N).add (((h94x0s9 N).no 27).lp (A94x0x27b N) N progOk (T100x0_ok N) (fun m kn L x => (step94x0x27b N m kn L x).trans (sb94x0x27b N L x _ _)) (fun L m x => (ql94x0x27b N L m x).trans (sb94x0x27b N L x (Q94x0x27b N L m) some)) fun L x hx => alt1 x hx) 27
noncomputable def F94x0x68b (N : Nat) (w5 : Bool) (w29 : LB) (k0 : LB → R) : R :=
  bif w5 then
    k0 ([] : List UInt8)
  else
    k0 w29
noncomputable def V94x0x68b (w5 : Bool) (w29 : LB) : LB := F94x0x68b N w5 w29 (fun p => p)
theorem tot94x0x68b (w5 : Bool) (w29 : LB) (k0 : LB → R) : F94x0x68b N w5 w29 k0 = k0 (V94x0x68b N w5 w29) := by
  unfold V94x0x68b F94x0x68b
  repeat' (first | rfl | apply cond_k | (apply bnd_k; intro _))
noncomputable def sh94x0x68b : Sh := { tmps := [(3, .c (.p 3 0)), (6, .c (.p 6 0)), (7, .c (.i .i64)), (8, .c (.p 8 0)), (9, .c (.m 40)), (13, .c (.p 13 0)), (66, .c (.sl 111)), (67, .c (.i .i64)), (68, .c (.i .i64)), (95, .c (.b))], mem := [(3, .box (rB 5 ([.sl 3, .b, .b]))), (6, .box (.s :: [.i .i64, .i .i64, .sl 48, .sl 111, .sl 9])), (8, .box (.s :: [.i .i64, .i .i64, .o 50008003, .o 50008004, .o 29000000007])), (13, .box ([.i .i64, .i .i64, .s])), (40, .map 3 4), (50008003, .row 48 true), (50008004, .row 111 true), (29000000007, .row 9 true)] }
noncomputable def K94x0x68bw0 (L : List Lf) (p : LB) : Ex × St := (.normal, mg (ofSh sh94x0x68b L) [3, 6, 7, 8, 9, 13, 66, 67, 68] [] [3, 6, 8, 13, 40, 50008003, 50008004, 29000000007] [(13, .box [.i .i64 (li L 27), .i .i64 (li L 28), .s p])])
noncomputable def A94x0x68b (L : List Lf) : List (Bool × (Ex × St)) := bnd (F94x0x68b N (lb L 5) (ls L 29) (fun p => p)) fun q => [(true, K94x0x68bw0 L q)]
theorem raw94x0x68b (L : List Lf) : pc Try.prog (T100x0 N) ((h94x0s10 N).no 68).h 0 100 94 68 sh94x0x68b L [8, 13, 68, 67, 66, 9, 7, 3, 6] [13, 40, 29000000007, 50008004, 50008003, 8, 6, 3] = F94x0x68b N (lb L 5) (ls L 29) (fun p => some (K94x0x68bw0 L p)) := by kernel_rfl
noncomputable def h94x0s11 : Sg Try.prog 0 94 :=
  (h94x0s10 N).add (((h94x0s10 N).no 68).cut (A94x0x68b N) progOk (T100x0_ok N) fun L x hx => (raw94x0x68b N L).trans ((tot94x0x68b N ..).trans (alt0 _ _ hx))) 68
noncomputable def S94x0x51b (w0 : Int) (w2 : LD) (w3 : Int) (w13 : Bool) (w26 : (List (D × D))) (w4 : Int) (w29 : Bool) (w30 : LD) (kr : Int → Bool → LD → Option R) (k0 : Bool × LD → Option R) : Option R :=
  bif (decide (w4 < w3)) then
    bif (inB w4 w2.length) then
      bnd ((findB Try.prog 3 (.i ((w2.getD w4.toNat (.i 0)).cell 0).toI) w26).getD (.b false)).toB fun y0 =>
      bnd (bif (!y0) then true else (!((findB Try.prog 3 (.i ((w2.getD w4.toNat (.i 0)).cell 1).toI) w26).getD (.b false)).toB)) fun y1 =>
      bif y1 then
        kr (IntKind.wrap .i64 (w4 + 1)) w29 w30
      else
        bnd (IntKind.wrap .i64 (((w2.getD w4.toNat (.i 0)).cell 0).toI - w0)) fun y2 =>
        bnd (IntKind.wrap .i64 (((w2.getD w4.toNat (.i 0)).cell 1).toI - w0)) fun y3 =>
        bnd (V94x0x68b N w13 ((w2.getD w4.toNat (.i 0)).cell 2).toS) fun y4 =>
        bif (decide ((w30.length + 1) * 32 ≤ room) && decide ((w30.length + 1) ≤ strMax)) then
          bnd ((w30 ++ [(.a [(.i y2), (.i y3), (.s y4)])]) : List D) fun y5 =>
          kr (IntKind.wrap .i64 (w4 + 1)) false y5
        else
          none
    else
      none
  else
    k0 (w29, w30)
noncomputable def L94x0x51b (N : Nat) {R : Type} (w0 : Int) (w2 : LD) (w3 : Int) (w13 : Bool) (w26 : (List (D × D))) : Nat → Int → Bool → LD → (Bool × LD → Option R) → Option R
  | 0, _, _, _, _ => none
  | m + 1, w4, w29, w30, k0 => S94x0x51b N w0 w2 w3 w13 w26 w4 w29 w30 (fun w4 w29 w30 => L94x0x51b N w0 w2 w3 w13 w26 m w4 w29 w30 k0) k0
noncomputable def G94x0x51b (w0 : Int) (w2 : LD) (w3 : Int) (w13 : Bool) (w26 : (List (D × D))) (w4 : Int) (w29 : Bool) (w30 : LD) : Option (Bool × LD) := L94x0x51b N (R := (Bool × LD)) w0 w2 w3 w13 w26 N w4 w29 w30 (fun p => some p)
noncomputable def J94x0x51b (L x : List Lf) (kr : List Lf → Option R) (k0 : Bool × LD → Option R) : Option R := S94x0x51b N (li L 0) (ll L 2) (li L 3) (lb L 13) (lm L 26) (li x 0) (lb x 1) (ll x 2) (fun w4 w29 w30 => kr [.i w4, .b w29, .l w30]) k0
theorem sb94x0x51b (L x : List Lf) (kr : List Lf → Option R) (k0 : Bool × LD → Option R) : J94x0x51b N L x kr k0 = (J94x0x51b N L x (fun y => some (.inl y)) (fun p => some (.inr p))).bind (sumE kr k0) := by
  unfold J94x0x51b S94x0x51b
  repeat' (first | with_reducible apply cond_b | (with_reducible apply bnd_b; intro _) | rfl)
noncomputable def Q94x0x51b (L : List Lf) (m : Nat) (x : List Lf) : Option (Bool × LD) := L94x0x51b N (R := (Bool × LD)) (li L 0) (ll L 2) (li L 3) (lb L 13) (lm L 26) m (li x 0) (lb x 1) (ll x 2) (fun p => some p)
noncomputable def sh94x0x51b : Sh := { tmps := [(3, .c (.p 3 0)), (6, .c (.p 6 0)), (7, .c (.i .i64)), (8, .c (.p 8 0)), (9, .c (.m 40)), (66, .c (.sl 111)), (67, .c (.i .i64)), (68, .c (.i .i64))], mem := [(3, .box (rB 5 ([.sl 3, .b, .b]))), (6, .box (.s :: [.i .i64, .i .i64, .sl 48, .sl 111, .sl 9])), (8, .box (.s :: [.i .i64, .i .i64, .o 50008003, .o 50008004, .o 29000000007])), (40, .map 3 4), (50008003, .row 48 true), (50008004, .row 111 true), (29000000007, .row 9 true)] }
noncomputable def K94x0x51bw0 (L : List Lf) (p : Bool × LD) : Ex × St := ((.exit 2), mg (ofSh sh94x0x51b L) [6, 8] [] [6, 8, 50008003, 50008004, 29000000007] [(50008004, .row 111 true p.1 p.2)])
noncomputable def A94x0x51b (L : List Lf) : List (Bool × (Ex × St)) := bnd (Q94x0x51b N L N (pk sh94x0x51b [4, 29, 30] L)) fun q => [(q.isSome, K94x0x51bw0 L (q.getD default))]
theorem step94x0x51b (m : Nat) (kn : St → Option (Ex × St)) (L x : List Lf) : lpB Try.prog (T100x0 N) ((h94x0s11 N).no 51).h 0 94 51 sh94x0x51b [4, 29, 30] [6, 8] [29000000007, 50008004, 50008003, 8, 6] (m + 100) kn L x = J94x0x51b N L x (fun y => kn (ofSh sh94x0x51b (mx sh94x0x51b [4, 29, 30] L y))) (fun p => some (K94x0x51bw0 L p)) := by kernel_rfl
theorem ql94x0x51b (L : List Lf) (m : Nat) (x : List Lf) : Q94x0x51b N L (m + 1) x = J94x0x51b N L x (Q94x0x51b N L m) some := by kernel_rfl
noncomputable def h94x0s12 : Sg Try.prog 0 94 :=
  (h94x0s11 N).add (((h94x0s11 N).no 51).lp (A94x0x51b N) N progOk (T100x0_ok N) (fun m kn L x => (step94x0x51b N m kn L x).trans (sb94x0x51b N L x _ _)) (fun L m x => (ql94x0x51b N L m x).trans (sb94x0x51b N L x (Q94x0x51b N L m) some)) fun L x hx => alt1 x hx) 51
noncomputable def F94x0 (v1 v2 v3 v4 : Bool) (v6 : LD) (v7 v8 : Bool) (v9 : LB) (v11 : Int) (v15 : LD) (v16 : Bool) (v17 v19 : LD) (k0 : Ty0 → Option R) : Option R :=
  bif (inB 0 v19.length) then
    bnd (G94x0x7 N ((v19.getD 0 (.i 0)).cell 0).toI v11 v16 v17) fun y0 =>
    bif (inlB y0) then
      bnd (V94x0x14 N v8 v9 true []) fun y1 =>
      bnd (G94x0x20 N v7 (inlV y0)) fun y2 =>
      bif y2.isSome then
        bnd (G94x0x27 N ((v19.getD 0 (.i 0)).cell 0).toI v19 (v19.length : Int) v1 v2 v3 v4 v6 0 [] true []) fun y3 =>
        bif y3.isSome then
          bnd (G94x0x51 N ((v19.getD 0 (.i 0)).cell 0).toI v15 (v15.length : Int) v8 (y3.getD default).1 0 true []) fun y4 =>
          bif y4.isSome then
            k0 (y1.1, (y2.getD default), (y3.getD default).2.1, (y3.getD default).2.2, (y4.getD default).1, (y4.getD default).2, y1.2.1, y1.2.2)
          else
            none
        else
          none
      else
        none
    else
      bif (inrQ y0).isSome then
        bnd (G94x0x14b N v8) fun y5 =>
        bif (inlB y5) then
          bnd (G94x0x20b N v7 ((inrQ y0).getD default).1) fun y6 =>
          bif y6.isSome then
            bnd (G94x0x27 N ((v19.getD 0 (.i 0)).cell 0).toI v19 (v19.length : Int) v1 v2 v3 v4 v6 0 [] true []) fun y3 =>
            bif y3.isSome then
              bnd (G94x0x51 N ((v19.getD 0 (.i 0)).cell 0).toI v15 (v15.length : Int) v8 (y3.getD default).1 0 true []) fun y4 =>
              bif y4.isSome then
                k0 ((inlV y5), (y6.getD default), (y3.getD default).2.1, (y3.getD default).2.2, (y4.getD default).1, (y4.getD default).2, true, [])
              else
                none
            else
              none
          else
            none
        else
          bif (inrQ y5).isSome then
            bnd (G94x0x20bb N v7 ((inrQ y0).getD default).1) fun y7 =>
            bif y7.isSome then
              bnd (G94x0x27b N ((v19.getD 0 (.i 0)).cell 0).toI v19 (v19.length : Int) v1 v2 v3 v4 v6 0 [] true []) fun y8 =>
              bif y8.isSome then
                bnd (G94x0x51b N ((v19.getD 0 (.i 0)).cell 0).toI v15 (v15.length : Int) v8 (y8.getD default).1 0 true []) fun y9 =>
                bif y9.isSome then
                  k0 (v9, (y7.getD default), (y8.getD default).2.1, (y8.getD default).2.2, (y9.getD default).1, (y9.getD default).2, ((inrQ y0).getD default).2, v17)
                else
                  none
              else
                none
            else
              none
          else
            none
      else
        none
  else
    none
noncomputable def G94x0 (v1 v2 v3 v4 : Bool) (v6 : LD) (v7 v8 : Bool) (v9 : LB) (v11 : Int) (v15 : LD) (v16 : Bool) (v17 v19 : LD) : Option (Ty0) := F94x0 N v1 v2 v3 v4 v6 v7 v8 v9 v11 v15 v16 v17 v19 (fun p => some p)
theorem bind94x0 (v1 v2 v3 v4 : Bool) (v6 : LD) (v7 v8 : Bool) (v9 : LB) (v11 : Int) (v15 : LD) (v16 : Bool) (v17 v19 : LD) (k0 : Ty0 → Option R) : F94x0 N v1 v2 v3 v4 v6 v7 v8 v9 v11 v15 v16 v17 v19 k0 = (G94x0 N v1 v2 v3 v4 v6 v7 v8 v9 v11 v15 v16 v17 v19).bind k0 := by
  unfold G94x0 F94x0
  repeat' (first | with_reducible apply cond_b | (with_reducible apply bnd_b; intro _) | rfl)
noncomputable def J94x0 (L : List Lf) (k0 : Ty0 → Option R) : Option R := F94x0 N (lb L 1) (lb L 2) (lb L 3) (lb L 4) (ll L 6) (lb L 7) (lb L 8) (ls L 9) (li L 11) (ll L 15) (lb L 16) (ll L 17) (ll L 19) k0
noncomputable def sh94x0 : Sh := { tmps := [(0, .g (rB 5 ([.sl 3, .b, .b]))), (1, .g (.s :: [.i .i64, .i .i64, .sl 48, .sl 111, .sl 9])), (2, .c (.sl 48))], mem := [] }
noncomputable def K94x0w0 (L : List Lf) (p : Ty0) : Res := let p1 := p.2; let p2 := p1.2; let p3 := p2.2; let p4 := p3.2; let p5 := p4.2; let p6 := p5.2; let p7 := p6.2; ([.g [.s p.1, .i .i64 (li L 10), .i .i64 p1.1, .sl 48 p2.1 p3.1, .sl 111 p4.1 p5.1, .sl 9 p6.1 p7]], [])
noncomputable def A94x0 (L : List Lf) : List (Bool × Res) := bnd (J94x0 N L (fun p => some p)) fun q => [(q.isSome, K94x0w0 L (q.getD default))]
theorem raw94x0 (L : List Lf) : bd Try.prog (T100x0 N) (h94x0s12 N).h 94 sh94x0 L = J94x0 N L (fun p => some (K94x0w0 L p)) := by kernel_rfl
theorem ok94x0 : FnOk Try.prog 94 sh94x0 (A94x0 N) :=
  (h94x0s12 N).fn progOk (T100x0_ok N) fun L x hx => ((raw94x0 N L).trans ((bind94x0 N ..).trans (alt1 x hx)))
noncomputable def T94x0 : Oracle := ext 94 (spSh sh94x0 (A94x0 N)) (T100x0 N)
theorem T94x0_ok : OracleOk Try.prog (T94x0 N) := FnOk.to (ok94x0 N) (T100x0_ok N)
noncomputable def rg92x0 : List (Nat × List Nat) := [(0, [1, 2, 0]), (1, [1, 2, 4, 0]), (2, [2, 4, 0, 6]), (3, [2, 4, 7, 0, 6]), (4, [22, 21, 20, 4, 7, 0, 6, 2]), (5, [22, 20, 4, 21, 7, 0, 6, 2]), (6, [4, 8, 22, 21, 20, 7, 0, 6, 2, 9]), (7, [7, 9, 0, 6, 2, 22, 21, 20, 4]), (8, [10, 9, 7, 0, 6, 2, 22, 21, 20, 4]), (9, [0, 6, 2, 7, 9, 22, 21, 20, 4]), (10, [9, 22, 21, 20, 4, 0, 6, 2]), (11, [7, 9, 22, 21, 20, 4, 0, 6, 2]), (12, [22, 21, 20, 4, 7, 0, 6, 2]), (13, [7, 0, 6, 2]), (14, [0, 6, 2, 7])]
noncomputable def hd92x0 : Hints := [(12, [22, 21, 20, 4, 7, 0, 6, 2], [3, 2, 0, 11, 1, 4, 12, 50002005], [7, 50002000]), (25, [10, 9, 7, 0, 6, 2, 22, 21, 20, 4], [50002005, 2, 0, 14, 12, 11, 1, 4], []), (28, [0, 6, 2, 7, 9, 22, 21, 20, 4], [50002005, 2, 0, 14, 12, 11, 1, 4], []), (29, [0, 6, 2, 7, 9, 22, 21, 20, 4, 46], [50002005, 2, 0, 14, 12, 11, 1, 4], []), (43, [0, 6, 2, 7], [50002005, 2, 0, 12, 11, 1, 4], []), (44, [0, 6, 2, 7, 61], [50002005, 2, 0, 12, 11, 1, 4], [])]
noncomputable def h92x0s0 (N : Nat) : Sg Try.prog 5 92 (YCtx y44x0z600000022) := .start hd92x0 rg92x0
noncomputable def F92x0x25 (N : Nat) (w2 : Int) (w30 : LD) (w31 : Int) (k0 : Bool → Option R) : Option R :=
  bif (decide (w2 > 0)) then
    bif (inB (IntKind.wrap .i64 (w2 - 1)) w30.length) then
      bif (decide ((IntKind.wrap .i64 (w2 - 1)).toNat < w30.length)) then
        bnd ((w30.getD (IntKind.wrap .i64 (w2 - 1)).toNat (.i 0)).cell 0).toI fun y0 =>
        k0 (decide ((IntKind.wrap .i64 (w31 - y0)) > 60))
      else
        none
    else
      none
  else
    k0 false
noncomputable def G92x0x25 (w2 : Int) (w30 : LD) (w31 : Int) : Option (Bool) := F92x0x25 N w2 w30 w31 (fun p => some p)
theorem bind92x0x25 (w2 : Int) (w30 : LD) (w31 : Int) (k0 : Bool → Option R) : F92x0x25 N w2 w30 w31 k0 = (G92x0x25 N w2 w30 w31).bind k0 := by
  unfold G92x0x25 F92x0x25
  repeat' (first | with_reducible apply cond_b | (with_reducible apply bnd_b; intro _) | rfl)
noncomputable def sh92x0x25 : Sh := { tmps := [(0, .c (.y 4)), (2, .c (.p 1 0)), (4, .c (.sl 4)), (6, .c (.p 11 0)), (7, .c (.o 12)), (9, .c (.p 14 0)), (10, .c (.i .i64)), (20, .c (.sl 48)), (21, .c (.i .i64)), (22, .c (.i .i64))], mem := [(0, .box ([.sl 70])), (1, .box (.s :: [.i .i64, .i .i64, .sl 48, .sl 111, .sl 9])), (2, .box ([.o 50002005])), (4, .row 3 true), (11, .box (rB 5 ([.sl 3, .b, .b]))), (12, .row 48 true), (14, .box (rI 7 ([]))), (50002005, .row 29 true)] }
noncomputable def K92x0x25w0 (L : List Lf) (p : Bool) : Ex × St := (.normal, mg (ofSh sh92x0x25 L) [0, 2, 4, 6, 7, 9, 20, 21, 22, 46] [(46, .c (.b p))] [0, 1, 2, 4, 11, 12, 14, 50002005] [])
noncomputable def A92x0x25 (L : List Lf) : List (Bool × (Ex × St)) := bnd (F92x0x25 N (li L 2) (ll L 30) (li L 31) (fun p => some p)) fun q => [(q.isSome, K92x0x25w0 L (q.getD default))]
theorem raw92x0x25 (L : List Lf) : pc Try.prog (T94x0 N) (h92x0s0 N).h 5 100 92 25 sh92x0x25 L [0, 6, 2, 7, 9, 22, 21, 20, 4, 46] [50002005, 2, 0, 14, 12, 11, 1, 4] = F92x0x25 N (li L 2) (ll L 30) (li L 31) (fun p => some (K92x0x25w0 L p)) := by kernel_rfl
noncomputable def h92x0s1 : Sg Try.prog 5 92 (YCtx y44x0z600000022) :=
  (h92x0s0 N).cut (A92x0x25 N) progOk (T94x0_ok N) fun L x hx => (raw92x0x25 N L).trans ((bind92x0x25 N ..).trans (alt1 x hx))
noncomputable def F92x0x28 (w8 : LB) (w9 w10 : Int) (w14 : LD) (w15 : Bool) (w16 : LD) (w20 w21 w22 w23 : Bool) (w25 : LD) (w26 w27 : Bool) (w29 w38 : LD) (k0 : LD → Option R) : Option R :=
  bnd (G94x0 N w20 w21 w22 w23 w25 w26 w27 w8 w10 w14 w15 w16 w29) fun y0 =>
  bif y0.isSome then
    bif (decide ((w38.length + 1) * 104 ≤ room) && decide ((w38.length + 1) ≤ strMax)) then
      bnd ((w38 ++ [(.a [(.s (y0.getD default).1), (.i w9), (.i (y0.getD default).2.1), (.l (y0.getD default).2.2.1 (y0.getD default).2.2.2.1), (.l (y0.getD default).2.2.2.2.1 (y0.getD default).2.2.2.2.2.1), (.l (y0.getD default).2.2.2.2.2.2.1 (y0.getD default).2.2.2.2.2.2.2)])]) : List D) fun y1 =>
      k0 y1
    else
      none
  else
    none
noncomputable def G92x0x28 (w8 : LB) (w9 w10 : Int) (w14 : LD) (w15 : Bool) (w16 : LD) (w20 w21 w22 w23 : Bool) (w25 : LD) (w26 w27 : Bool) (w29 w38 : LD) : Option (LD) := F92x0x28 N w8 w9 w10 w14 w15 w16 w20 w21 w22 w23 w25 w26 w27 w29 w38 (fun p => some p)
theorem bind92x0x28 (w8 : LB) (w9 w10 : Int) (w14 : LD) (w15 : Bool) (w16 : LD) (w20 w21 w22 w23 : Bool) (w25 : LD) (w26 w27 : Bool) (w29 w38 : LD) (k0 : LD → Option R) : F92x0x28 N w8 w9 w10 w14 w15 w16 w20 w21 w22 w23 w25 w26 w27 w29 w38 k0 = (G92x0x28 N w8 w9 w10 w14 w15 w16 w20 w21 w22 w23 w25 w26 w27 w29 w38).bind k0 := by
  unfold G92x0x28 F92x0x28
  repeat' (first | with_reducible apply cond_b | (with_reducible apply bnd_b; intro _) | rfl)
noncomputable def J92x0x28 (L : List Lf) (k0 : LD → Option R) : Option R := F92x0x28 N (ls L 8) (li L 9) (li L 10) (ll L 14) (lb L 15) (ll L 16) (lb L 20) (lb L 21) (lb L 22) (lb L 23) (ll L 25) (lb L 26) (lb L 27) (ll L 29) (ll L 38) k0
noncomputable def sh92x0x28 : Sh := { tmps := [(0, .c (.y 4)), (2, .c (.p 1 0)), (4, .c (.sl 4)), (6, .c (.p 11 0)), (7, .c (.o 12)), (9, .c (.p 14 0)), (20, .c (.sl 48)), (21, .c (.i .i64)), (22, .c (.i .i64))], mem := [(0, .box ([.sl 70])), (1, .box (.s :: [.i .i64, .i .i64, .sl 48, .sl 111, .sl 9])), (2, .box ([.o 50002005])), (4, .row 3 true), (11, .box (rB 5 ([.sl 3, .b, .b]))), (12, .row 48 true), (14, .box (rI 7 ([]))), (50002005, .row 29 true)] }
noncomputable def K92x0x28w0 (L : List Lf) (p : LD) : Ex × St := (.normal, mg (ofSh sh92x0x28 L) [0, 2, 4, 6, 9, 20, 21, 22, 53] [(53, .c (.b false))] [0, 1, 2, 4, 11, 14, 53000000033] [(2, .box [.o 53000000033]), (53000000033, .row 29 true false p)])
noncomputable def A92x0x28 (L : List Lf) : List (Bool × (Ex × St)) := bnd (J92x0x28 N L (fun p => some p)) fun q => [(q.isSome, K92x0x28w0 L (q.getD default))]
theorem raw92x0x28 (L : List Lf) : pcY Try.prog (T94x0 N) 5 y44x0z600000022 92 28 sh92x0x28 L [9, 22, 21, 20, 4, 0, 6, 2, 53] [53000000033, 2, 0, 14, 11, 1, 4] = J92x0x28 N L (fun p => some (K92x0x28w0 L p)) := by kernel_rfl
noncomputable def h92x0s2 : Sg Try.prog 5 92 (YCtx y44x0z600000022) :=
  (h92x0s1 N).cutY (A92x0x28 N) (T94x0_ok N) fun L x hx => (raw92x0x28 N L).trans ((bind92x0x28 N ..).trans (alt1 x hx))
noncomputable def F92x0x29 (w6 : Bool) (w9 : LB) (w10 w11 : Int) (w15 : LD) (w16 : Bool) (w17 : LD) (w21 w22 w23 w24 : Bool) (w26 : LD) (w27 w28 : Bool) (w30 w39 : LD) (k0 : LD → Option R) (k1 : Unit → Option R) : Option R :=
  bif w6 then
    bnd (G92x0x28 N w9 w10 w11 w15 w16 w17 w21 w22 w23 w24 w26 w27 w28 w30 w39) fun y0 =>
    bif y0.isSome then
      k0 (y0.getD default)
    else
      none
  else
    k1 ()
noncomputable def G92x0x29 (w6 : Bool) (w9 : LB) (w10 w11 : Int) (w15 : LD) (w16 : Bool) (w17 : LD) (w21 w22 w23 w24 : Bool) (w26 : LD) (w27 w28 : Bool) (w30 w39 : LD) : Option (Sum (LD) (Unit)) := F92x0x29 N w6 w9 w10 w11 w15 w16 w17 w21 w22 w23 w24 w26 w27 w28 w30 w39 (fun p => some (.inl p)) (fun p => some (.inr p))
theorem bind92x0x29 (w6 : Bool) (w9 : LB) (w10 w11 : Int) (w15 : LD) (w16 : Bool) (w17 : LD) (w21 w22 w23 w24 : Bool) (w26 : LD) (w27 w28 : Bool) (w30 w39 : LD) (k0 : LD → Option R) (k1 : Unit → Option R) : F92x0x29 N w6 w9 w10 w11 w15 w16 w17 w21 w22 w23 w24 w26 w27 w28 w30 w39 k0 k1 = (G92x0x29 N w6 w9 w10 w11 w15 w16 w17 w21 w22 w23 w24 w26 w27 w28 w30 w39).bind (sumE k0 k1) := by
  unfold G92x0x29 F92x0x29
  repeat' (first | with_reducible apply cond_b | (with_reducible apply bnd_b; intro _) | rfl)
noncomputable def J92x0x29 (L : List Lf) (k0 : LD → Option R) (k1 : Unit → Option R) : Option R := F92x0x29 N (lb L 6) (ls L 9) (li L 10) (li L 11) (ll L 15) (lb L 16) (ll L 17) (lb L 21) (lb L 22) (lb L 23) (lb L 24) (ll L 26) (lb L 27) (lb L 28) (ll L 30) (ll L 39) k0 k1
noncomputable def sh92x0x29 : Sh := { tmps := [(0, .c (.y 4)), (2, .c (.p 1 0)), (4, .c (.sl 4)), (6, .c (.p 11 0)), (7, .c (.o 12)), (9, .c (.p 14 0)), (20, .c (.sl 48)), (21, .c (.i .i64)), (22, .c (.i .i64)), (46, .c (.b))], mem := [(0, .box ([.sl 70])), (1, .box (.s :: [.i .i64, .i .i64, .sl 48, .sl 111, .sl 9])), (2, .box ([.o 50002005])), (4, .row 3 true), (11, .box (rB 5 ([.sl 3, .b, .b]))), (12, .row 48 true), (14, .box (rI 7 ([]))), (50002005, .row 29 true)] }
noncomputable def K92x0x29w0 (L : List Lf) (p : LD) : Ex × St := (.normal, mg (ofSh sh92x0x29 L) [0, 2, 4, 6, 7, 9, 20, 21, 22] [(7, .c (.sl 48 true []))] [0, 1, 2, 4, 11, 14, 53000000033] [(2, .box [.o 53000000033]), (53000000033, .row 29 true false p)])
noncomputable def K92x0x29w1 (L : List Lf) (_ : Unit) : Ex × St := (.normal, mg (ofSh sh92x0x29 L) [0, 2, 4, 6, 7, 9, 20, 21, 22] [] [0, 1, 2, 4, 11, 12, 14, 50002005] [])
noncomputable def A92x0x29 (L : List Lf) : List (Bool × (Ex × St)) := bnd (J92x0x29 N L (fun p => some (.inl p)) (fun p => some (.inr p))) fun q => [((inlB q), K92x0x29w0 L (inlV q)), ((inrQ q).isSome, K92x0x29w1 L ())]
theorem raw92x0x29 (L : List Lf) : pc Try.prog (T94x0 N) (h92x0s2 N).h 5 100 92 29 sh92x0x29 L [7, 9, 22, 21, 20, 4, 0, 6, 2] [53000000033, 2, 0, 14, 11, 1, 4, 50002005, 12] = J92x0x29 N L (fun p => some (K92x0x29w0 L p)) (fun _ => some (K92x0x29w1 L ())) := by kernel_rfl
noncomputable def h92x0s3 : Sg Try.prog 5 92 (YCtx y44x0z600000022) :=
  (h92x0s2 N).cut (A92x0x29 N) progOk (T94x0_ok N) fun L x hx => (raw92x0x29 N L).trans ((bind92x0x29 N ..).trans ((altS alt1) x hx))
noncomputable def S92x0x12 (w1 w3 : LD) (w4 : Int) (w8 : LB) (w9 w10 : Int) (w14 : LD) (w15 : Bool) (w16 : LD) (w20 w21 w22 w23 : Bool) (w25 : LD) (w26 w27 : Bool) (w5 : Int) (w28 : Bool) (w29 : LD) (w30 : Bool) (w31 : LD) (kr : Int → Bool → LD → Bool → LD → Option R) (k0 : Ty5 → Option R) : Option R :=
  bif (decide (w5 < w4)) then
    bif (inB w5 w3.length) then
      bif (inB w5 w1.length) then
        bif (w1.getD w5.toNat (.i 0)).toB then
          kr (IntKind.wrap .i64 (w5 + 1)) w28 w29 w30 w31
        else
          bnd (G92x0x25 N (w29.length : Int) w29 ((w3.getD w5.toNat (.i 0)).cell 0).toI) fun y0 =>
          bif y0.isSome then
            bnd (G92x0x29 N (y0.getD default) w8 w9 w10 w14 w15 w16 w20 w21 w22 w23 w25 w26 w27 w29 w31) fun y1 =>
            bif (inlB y1) then
              kr (IntKind.wrap .i64 (w5 + 1)) false [(.a [(.i ((w3.getD w5.toNat (.i 0)).cell 0).toI), (.i ((w3.getD w5.toNat (.i 0)).cell 1).toI), (.i ((w3.getD w5.toNat (.i 0)).cell 2).toI), (.i ((w3.getD w5.toNat (.i 0)).cell 3).toI), (.i ((w3.getD w5.toNat (.i 0)).cell 4).toI), (.i ((w3.getD w5.toNat (.i 0)).cell 5).toI), (.i ((w3.getD w5.toNat (.i 0)).cell 6).toI)])] false (inlV y1)
            else
              bif (inrQ y1).isSome then
                bif (decide ((w29.length + 1) * 56 ≤ room) && decide ((w29.length + 1) ≤ strMax)) then
                  bnd ((w29 ++ [(.a [(.i ((w3.getD w5.toNat (.i 0)).cell 0).toI), (.i ((w3.getD w5.toNat (.i 0)).cell 1).toI), (.i ((w3.getD w5.toNat (.i 0)).cell 2).toI), (.i ((w3.getD w5.toNat (.i 0)).cell 3).toI), (.i ((w3.getD w5.toNat (.i 0)).cell 4).toI), (.i ((w3.getD w5.toNat (.i 0)).cell 5).toI), (.i ((w3.getD w5.toNat (.i 0)).cell 6).toI)])]) : List D) fun y2 =>
                  kr (IntKind.wrap .i64 (w5 + 1)) false y2 w30 w31
                else
                  none
              else
                none
          else
            none
      else
        none
    else
      none
  else
    k0 (w28, w29, w30, w31)
noncomputable def L92x0x12 (N : Nat) {R : Type} (w1 w3 : LD) (w4 : Int) (w8 : LB) (w9 w10 : Int) (w14 : LD) (w15 : Bool) (w16 : LD) (w20 w21 w22 w23 : Bool) (w25 : LD) (w26 w27 : Bool) : Nat → Int → Bool → LD → Bool → LD → (Ty5 → Option R) → Option R
  | 0, _, _, _, _, _, _ => none
  | m + 1, w5, w28, w29, w30, w31, k0 => S92x0x12 N w1 w3 w4 w8 w9 w10 w14 w15 w16 w20 w21 w22 w23 w25 w26 w27 w5 w28 w29 w30 w31 (fun w5 w28 w29 w30 w31 => L92x0x12 N w1 w3 w4 w8 w9 w10 w14 w15 w16 w20 w21 w22 w23 w25 w26 w27 m w5 w28 w29 w30 w31 k0) k0
noncomputable def G92x0x12 (w1 w3 : LD) (w4 : Int) (w8 : LB) (w9 w10 : Int) (w14 : LD) (w15 : Bool) (w16 : LD) (w20 w21 w22 w23 : Bool) (w25 : LD) (w26 w27 : Bool) (w5 : Int) (w28 : Bool) (w29 : LD) (w30 : Bool) (w31 : LD) : Option (Ty5) := L92x0x12 N (R := (Ty5)) w1 w3 w4 w8 w9 w10 w14 w15 w16 w20 w21 w22 w23 w25 w26 w27 N w5 w28 w29 w30 w31 (fun p => some p)
noncomputable def J92x0x12 (L x : List Lf) (kr : List Lf → Option R) (k0 : Ty5 → Option R) : Option R := S92x0x12 N (ll L 1) (ll L 3) (li L 4) (ls L 8) (li L 9) (li L 10) (ll L 14) (lb L 15) (ll L 16) (lb L 20) (lb L 21) (lb L 22) (lb L 23) (ll L 25) (lb L 26) (lb L 27) (li x 0) (lb x 1) (ll x 2) (lb x 3) (ll x 4) (fun w5 w28 w29 w30 w31 => kr [.i w5, .b w28, .l w29, .b w30, .l w31]) k0
theorem sb92x0x12 (L x : List Lf) (kr : List Lf → Option R) (k0 : Ty5 → Option R) : J92x0x12 N L x kr k0 = (J92x0x12 N L x (fun y => some (.inl y)) (fun p => some (.inr p))).bind (sumE kr k0) := by
  unfold J92x0x12 S92x0x12
  repeat' (first | with_reducible apply cond_b | (with_reducible apply bnd_b; intro _) | rfl)
noncomputable def Q92x0x12 (L : List Lf) (m : Nat) (x : List Lf) : Option (Ty5) := L92x0x12 N (R := (Ty5)) (ll L 1) (ll L 3) (li L 4) (ls L 8) (li L 9) (li L 10) (ll L 14) (lb L 15) (ll L 16) (lb L 20) (lb L 21) (lb L 22) (lb L 23) (ll L 25) (lb L 26) (lb L 27) m (li x 0) (lb x 1) (ll x 2) (lb x 3) (ll x 4) (fun p => some p)
noncomputable def sh92x0x12 : Sh := { tmps := [(0, .c (.y 4)), (2, .c (.p 1 0)), (4, .c (.sl 4)), (6, .c (.p 11 0)), (7, .c (.o 12)), (20, .c (.sl 48)), (21, .c (.i .i64)), (22, .c (.i .i64))], mem := [(0, .box ([.sl 70])), (1, .box (.s :: [.i .i64, .i .i64, .sl 48, .sl 111, .sl 9])), (2, .box ([.o 50002005])), (4, .row 3 true), (11, .box (rB 5 ([.sl 3, .b, .b]))), (12, .row 48 true), (50002005, .row 29 true)] }
noncomputable def K92x0x12w0 (L : List Lf) (p : Ty5) : Ex × St := ((.exit 0), mg (ofSh sh92x0x12 L) [0, 2, 6, 7] [] [0, 1, 2, 4, 11, 12, 50002005] [(12, .row 48 true p.1 p.2.1), (50002005, .row 29 true p.2.2.1 p.2.2.2)])
noncomputable def A92x0x12 (L : List Lf) : List (Bool × (Ex × St)) := bnd (Q92x0x12 N L N (pk sh92x0x12 [5, 28, 29, 30, 31] L)) fun q => [(q.isSome, K92x0x12w0 L (q.getD default))]
theorem step92x0x12 (m : Nat) (kn : St → Option (Ex × St)) (L x : List Lf) : lpB Try.prog (T94x0 N) (h92x0s3 N).h 5 92 12 sh92x0x12 [5, 28, 29, 30, 31] [7, 0, 6, 2] [50002005, 2, 0, 12, 11, 1, 4] (m + 100) kn L x = J92x0x12 N L x (fun y => kn (ofSh sh92x0x12 (mx sh92x0x12 [5, 28, 29, 30, 31] L y))) (fun p => some (K92x0x12w0 L p)) := by kernel_rfl
theorem ql92x0x12 (L : List Lf) (m : Nat) (x : List Lf) : Q92x0x12 N L (m + 1) x = J92x0x12 N L x (Q92x0x12 N L m) some := by kernel_rfl
noncomputable def h92x0s4 : Sg Try.prog 5 92 (YCtx y44x0z600000022) :=
  (h92x0s3 N).lp (A92x0x12 N) N progOk (T94x0_ok N) (fun m kn L x => (step92x0x12 N m kn L x).trans (sb92x0x12 N L x _ _)) (fun L m x => (ql92x0x12 N L m x).trans (sb92x0x12 N L x (Q92x0x12 N L m) some)) fun L x hx => alt1 x hx
noncomputable def F92x0x43 (w2 : LB) (w3 w4 : Int) (w8 : LD) (w9 : Bool) (w10 : LD) (w14 w15 w16 w17 : Bool) (w19 : LD) (w20 w21 : Bool) (w23 w25 : LD) (k0 : LD → Option R) : Option R :=
  bnd (G94x0 N w14 w15 w16 w17 w19 w20 w21 w2 w4 w8 w9 w10 w23) fun y0 =>
  bif y0.isSome then
    bif (decide ((w25.length + 1) * 104 ≤ room) && decide ((w25.length + 1) ≤ strMax)) then
      bnd ((w25 ++ [(.a [(.s (y0.getD default).1), (.i w3), (.i (y0.getD default).2.1), (.l (y0.getD default).2.2.1 (y0.getD default).2.2.2.1), (.l (y0.getD default).2.2.2.2.1 (y0.getD default).2.2.2.2.2.1), (.l (y0.getD default).2.2.2.2.2.2.1 (y0.getD default).2.2.2.2.2.2.2)])]) : List D) fun y1 =>
      k0 y1
    else
      none
  else
    none
noncomputable def G92x0x43 (w2 : LB) (w3 w4 : Int) (w8 : LD) (w9 : Bool) (w10 : LD) (w14 w15 w16 w17 : Bool) (w19 : LD) (w20 w21 : Bool) (w23 w25 : LD) : Option (LD) := F92x0x43 N w2 w3 w4 w8 w9 w10 w14 w15 w16 w17 w19 w20 w21 w23 w25 (fun p => some p)
theorem bind92x0x43 (w2 : LB) (w3 w4 : Int) (w8 : LD) (w9 : Bool) (w10 : LD) (w14 w15 w16 w17 : Bool) (w19 : LD) (w20 w21 : Bool) (w23 w25 : LD) (k0 : LD → Option R) : F92x0x43 N w2 w3 w4 w8 w9 w10 w14 w15 w16 w17 w19 w20 w21 w23 w25 k0 = (G92x0x43 N w2 w3 w4 w8 w9 w10 w14 w15 w16 w17 w19 w20 w21 w23 w25).bind k0 := by
  unfold G92x0x43 F92x0x43
  repeat' (first | with_reducible apply cond_b | (with_reducible apply bnd_b; intro _) | rfl)
noncomputable def J92x0x43 (L : List Lf) (k0 : LD → Option R) : Option R := F92x0x43 N (ls L 2) (li L 3) (li L 4) (ll L 8) (lb L 9) (ll L 10) (lb L 14) (lb L 15) (lb L 16) (lb L 17) (ll L 19) (lb L 20) (lb L 21) (ll L 23) (ll L 25) k0
noncomputable def sh92x0x43 : Sh := { tmps := [(0, .c (.y 4)), (2, .c (.p 1 0)), (6, .c (.p 11 0)), (7, .c (.o 12))], mem := [(0, .box ([.sl 70])), (1, .box (.s :: [.i .i64, .i .i64, .sl 48, .sl 111, .sl 9])), (2, .box ([.o 50002005])), (4, .row 3 true), (11, .box (rB 5 ([.sl 3, .b, .b]))), (12, .row 48 true), (50002005, .row 29 true)] }
noncomputable def K92x0x43w0 (L : List Lf) (p : LD) : Ex × St := (.normal, mg (ofSh sh92x0x43 L) [] [] [0, 1, 2, 4, 68000000033] [(2, .box [.o 68000000033]), (68000000033, .row 29 true false p)])
noncomputable def A92x0x43 (L : List Lf) : List (Bool × (Ex × St)) := bnd (J92x0x43 N L (fun p => some p)) fun q => [(q.isSome, K92x0x43w0 L (q.getD default))]
theorem raw92x0x43 (L : List Lf) : pcY Try.prog (T94x0 N) 5 y44x0z600000022 92 43 sh92x0x43 L [] [4, 68000000033, 2, 1, 0] = J92x0x43 N L (fun p => some (K92x0x43w0 L p)) := by kernel_rfl
noncomputable def h92x0s5 : Sg Try.prog 5 92 (YCtx y44x0z600000022) :=
  (h92x0s4 N).cutY (A92x0x43 N) (T94x0_ok N) fun L x hx => (raw92x0x43 N L).trans ((bind92x0x43 N ..).trans (alt1 x hx))
noncomputable def F92x0x44 (w0 : Bool) (w3 : LB) (w4 w5 : Int) (w9 : LD) (w10 : Bool) (w11 : LD) (w15 w16 w17 w18 : Bool) (w20 : LD) (w21 w22 : Bool) (w24 w26 : LD) (k0 : LD → Option R) (k1 : Unit → Option R) : Option R :=
  bif w0 then
    bnd (G92x0x43 N w3 w4 w5 w9 w10 w11 w15 w16 w17 w18 w20 w21 w22 w24 w26) fun y0 =>
    bif y0.isSome then
      k0 (y0.getD default)
    else
      none
  else
    k1 ()
noncomputable def G92x0x44 (w0 : Bool) (w3 : LB) (w4 w5 : Int) (w9 : LD) (w10 : Bool) (w11 : LD) (w15 w16 w17 w18 : Bool) (w20 : LD) (w21 w22 : Bool) (w24 w26 : LD) : Option (Sum (LD) (Unit)) := F92x0x44 N w0 w3 w4 w5 w9 w10 w11 w15 w16 w17 w18 w20 w21 w22 w24 w26 (fun p => some (.inl p)) (fun p => some (.inr p))
theorem bind92x0x44 (w0 : Bool) (w3 : LB) (w4 w5 : Int) (w9 : LD) (w10 : Bool) (w11 : LD) (w15 w16 w17 w18 : Bool) (w20 : LD) (w21 w22 : Bool) (w24 w26 : LD) (k0 : LD → Option R) (k1 : Unit → Option R) : F92x0x44 N w0 w3 w4 w5 w9 w10 w11 w15 w16 w17 w18 w20 w21 w22 w24 w26 k0 k1 = (G92x0x44 N w0 w3 w4 w5 w9 w10 w11 w15 w16 w17 w18 w20 w21 w22 w24 w26).bind (sumE k0 k1) := by
  unfold G92x0x44 F92x0x44
  repeat' (first | with_reducible apply cond_b | (with_reducible apply bnd_b; intro _) | rfl)
noncomputable def J92x0x44 (L : List Lf) (k0 : LD → Option R) (k1 : Unit → Option R) : Option R := F92x0x44 N (lb L 0) (ls L 3) (li L 4) (li L 5) (ll L 9) (lb L 10) (ll L 11) (lb L 15) (lb L 16) (lb L 17) (lb L 18) (ll L 20) (lb L 21) (lb L 22) (ll L 24) (ll L 26) k0 k1
noncomputable def sh92x0x44 : Sh := { tmps := [(0, .c (.y 4)), (2, .c (.p 1 0)), (6, .c (.p 11 0)), (7, .c (.o 12)), (61, .c (.b))], mem := [(0, .box ([.sl 70])), (1, .box (.s :: [.i .i64, .i .i64, .sl 48, .sl 111, .sl 9])), (2, .box ([.o 50002005])), (4, .row 3 true), (11, .box (rB 5 ([.sl 3, .b, .b]))), (12, .row 48 true), (50002005, .row 29 true)] }
noncomputable def K92x0x44w0 (L : List Lf) (p : LD) : Ex × St := (.normal, mg (ofSh sh92x0x44 L) [] [] [0, 1, 2, 4, 68000000033] [(2, .box [.o 68000000033]), (68000000033, .row 29 true false p)])
noncomputable def K92x0x44w1 (L : List Lf) (_ : Unit) : Ex × St := (.normal, mg (ofSh sh92x0x44 L) [] [] [0, 1, 2, 4, 50002005] [])
noncomputable def A92x0x44 (L : List Lf) : List (Bool × (Ex × St)) := bnd (J92x0x44 N L (fun p => some (.inl p)) (fun p => some (.inr p))) fun q => [((inlB q), K92x0x44w0 L (inlV q)), ((inrQ q).isSome, K92x0x44w1 L ())]
theorem raw92x0x44 (L : List Lf) : pc Try.prog (T94x0 N) (h92x0s5 N).h 5 100 92 44 sh92x0x44 L [] [4, 68000000033, 2, 1, 0, 50002005] = J92x0x44 N L (fun p => some (K92x0x44w0 L p)) (fun _ => some (K92x0x44w1 L ())) := by kernel_rfl
noncomputable def h92x0s6 : Sg Try.prog 5 92 (YCtx y44x0z600000022) :=
  (h92x0s5 N).cut (A92x0x44 N) progOk (T94x0_ok N) fun L x hx => (raw92x0x44 N L).trans ((bind92x0x44 N ..).trans ((altS alt1) x hx))
noncomputable def F92x0 (v1 : LD) (v2 : LB) (v3 v4 : Int) (v6 v8 : LD) (v9 : Bool) (v10 : LD) (v11 : Bool) (v12 : LD) (k0 : LD → Option R) (k1 : Bool × LD → Option R) : Option R :=
  bnd (G40x0 N v1 v3 v4 v6 v10) fun y0 =>
  bif y0.isSome then
    bnd (G93x0 N v1) fun y1 =>
    bif y1.isSome then
      bnd (G92x0x12 N (y0.getD default).1 v6 (v6.length : Int) v2 v3 v4 v8 v9 v10 (y1.getD default).2.1 (y1.getD default).2.2.1 (y1.getD default).2.2.2.1 (y1.getD default).2.2.2.2.1 (y1.getD default).2.2.2.2.2.2.1 (y1.getD default).2.2.2.2.2.2.2.1 (y1.getD default).2.2.2.2.2.2.2.2 0 true [] v11 v12) fun y2 =>
      bif y2.isSome then
        bnd (G92x0x44 N (decide (((y2.getD default).2.1.length : Int) > 0)) v2 v3 v4 v8 v9 v10 (y1.getD default).2.1 (y1.getD default).2.2.1 (y1.getD default).2.2.2.1 (y1.getD default).2.2.2.2.1 (y1.getD default).2.2.2.2.2.2.1 (y1.getD default).2.2.2.2.2.2.2.1 (y1.getD default).2.2.2.2.2.2.2.2 (y2.getD default).2.1 (y2.getD default).2.2.2) fun y3 =>
        bif (inlB y3) then
          k0 (inlV y3)
        else
          bif (inrQ y3).isSome then
            k1 ((y2.getD default).2.2.1, (y2.getD default).2.2.2)
          else
            none
      else
        none
    else
      none
  else
    none
noncomputable def G92x0 (v1 : LD) (v2 : LB) (v3 v4 : Int) (v6 v8 : LD) (v9 : Bool) (v10 : LD) (v11 : Bool) (v12 : LD) : Option (Sum (LD) (Bool × LD)) := F92x0 N v1 v2 v3 v4 v6 v8 v9 v10 v11 v12 (fun p => some (.inl p)) (fun p => some (.inr p))
theorem bind92x0 (v1 : LD) (v2 : LB) (v3 v4 : Int) (v6 v8 : LD) (v9 : Bool) (v10 : LD) (v11 : Bool) (v12 : LD) (k0 : LD → Option R) (k1 : Bool × LD → Option R) : F92x0 N v1 v2 v3 v4 v6 v8 v9 v10 v11 v12 k0 k1 = (G92x0 N v1 v2 v3 v4 v6 v8 v9 v10 v11 v12).bind (sumE k0 k1) := by
  unfold G92x0 F92x0
  repeat' (first | with_reducible apply cond_b | (with_reducible apply bnd_b; intro _) | rfl)
noncomputable def J92x0 (L : List Lf) (k0 : LD → Option R) (k1 : Bool × LD → Option R) : Option R := F92x0 N (ll L 1) (ls L 2) (li L 3) (li L 4) (ll L 6) (ll L 8) (lb L 9) (ll L 10) (lb L 11) (ll L 12) k0 k1
noncomputable def sh92x0 : Sh := { tmps := [(0, .c (.y 4)), (1, .c (.p 0 0)), (2, .c (.p 1 0))], mem := [(0, .box ([.sl 70])), (1, .box (.s :: [.i .i64, .i .i64, .sl 48, .sl 111, .sl 9])), (2, .box ([.o 3])), (3, .row 29 true), (4, .row 3 true)] }
noncomputable def K92x0w0 (L : List Lf) (p : LD) : Res := ([], mgA (ofSh sh92x0 L).mem [(2, .box [.o 68000000033]), (68000000033, .row 29 true false p)] [0, 1, 2, 4, 68000000033])
noncomputable def K92x0w1 (L : List Lf) (p : Bool × LD) : Res := ([], mgA (ofSh sh92x0 L).mem [(2, .box [.o 50002005]), (50002005, .row 29 true p.1 p.2)] [0, 1, 2, 4, 50002005])
noncomputable def A92x0 (L : List Lf) : List (Bool × Res) := bnd (J92x0 N L (fun p => some (.inl p)) (fun p => some (.inr p))) fun q => [((inlB q), K92x0w0 L (inlV q)), ((inrQ q).isSome, K92x0w1 L ((inrQ q).getD default))]
theorem raw92x0 (L : List Lf) : bd Try.prog (T94x0 N) (h92x0s6 N).h 92 sh92x0 L = J92x0 N L (fun p => some (K92x0w0 L p)) (fun p => some (K92x0w1 L p)) := by kernel_rfl
theorem ok92x0 : FnOkX (YCtx y44x0z600000022) Try.prog 92 sh92x0 (A92x0 N) :=
  (h92x0s6 N).fnX progOk (T94x0_ok N) fun L x hx => ((raw92x0 N L).trans ((bind92x0 N ..).trans ((altS alt1) x hx)))
noncomputable def rg44x0 : List (Nat × List Nat) := [(0, [0, 1, 2]), (1, [3, 1, 2]), (2, [2, 7]), (3, [2, 7, 8]), (4, [17, 16, 15, 7, 8]), (5, [15, 17, 7, 16, 8]), (6, [7, 10, 17, 16, 15, 8]), (9, [17, 16, 15, 7, 8]), (10, [8])]
noncomputable def hd44x0 : Hints := [(12, [17, 16, 15, 7, 8], [8, 50008000], [50008000]), (600000022, [17, 16, 15, 7, 8, 23], [24000000003, 24000000002, 50008000, 8], [])]
noncomputable def h44x0s0 (N : Nat) : Sg Try.prog 0 44 := .start hd44x0 rg44x0
noncomputable def F44x0x600000022 (w6 : Bool) (w7 w9 : LD) (w10 : LB) (w11 w12 : Int) (w14 w16 : LD) (w17 : Bool) (w18 : LD) (k0 : LD → Option R) (k1 : Bool × LD → Option R) : Option R :=
  bnd (G92x0 N w9 w10 w11 w12 w14 w16 w17 w18 w6 w7) fun y0 =>
  bif (inlB y0) then
    k0 (inlV y0)
  else
    bif (inrQ y0).isSome then
      k1 ((inrQ y0).getD default)
    else
      none
noncomputable def G44x0x600000022 (w6 : Bool) (w7 w9 : LD) (w10 : LB) (w11 w12 : Int) (w14 w16 : LD) (w17 : Bool) (w18 : LD) : Option (Sum (LD) (Bool × LD)) := F44x0x600000022 N w6 w7 w9 w10 w11 w12 w14 w16 w17 w18 (fun p => some (.inl p)) (fun p => some (.inr p))
theorem bind44x0x600000022 (w6 : Bool) (w7 w9 : LD) (w10 : LB) (w11 w12 : Int) (w14 w16 : LD) (w17 : Bool) (w18 : LD) (k0 : LD → Option R) (k1 : Bool × LD → Option R) : F44x0x600000022 N w6 w7 w9 w10 w11 w12 w14 w16 w17 w18 k0 k1 = (G44x0x600000022 N w6 w7 w9 w10 w11 w12 w14 w16 w17 w18).bind (sumE k0 k1) := by
  unfold G44x0x600000022 F44x0x600000022
  repeat' (first | with_reducible apply cond_b | (with_reducible apply bnd_b; intro _) | rfl)
noncomputable def J44x0x600000022 (L : List Lf) (k0 : LD → Option R) (k1 : Bool × LD → Option R) : Option R := F44x0x600000022 N (lb L 6) (ll L 7) (ll L 9) (ls L 10) (li L 11) (li L 12) (ll L 14) (ll L 16) (lb L 17) (ll L 18) k0 k1
noncomputable def sh44x0x600000022 : Sh := { tmps := [(7, .c (.sl 70)), (8, .c (.p 8 0)), (15, .c (.sl 29)), (16, .c (.i .i64)), (17, .c (.i .i64)), (23, .c (.f 92 [(24000000002, 0), (24000000003, 0)]))], mem := [(8, .box ([.o 50008000])), (50008000, .row 29 true), (24000000002, .box ([.sl 70])), (24000000003, .box (.s :: [.i .i64, .i .i64, .sl 48, .sl 111, .sl 9]))] }
noncomputable def K44x0x600000022w0 (L : List Lf) (p : LD) : Ex × St := (.normal, mg (ofSh sh44x0x600000022 L) [7, 8, 15, 16, 17] [] [8, 1000068000000033] [(8, .box [.o 1000068000000033]), (1000068000000033, .row 29 true false p)])
noncomputable def K44x0x600000022w1 (L : List Lf) (p : Bool × LD) : Ex × St := (.normal, mg (ofSh sh44x0x600000022 L) [7, 8, 15, 16, 17] [] [8, 1000000050002005] [(8, .box [.o 1000000050002005]), (1000000050002005, .row 29 true p.1 p.2)])
noncomputable def A44x0x600000022 (L : List Lf) : List (Bool × (Ex × St)) := bnd (J44x0x600000022 N L (fun p => some (.inl p)) (fun p => some (.inr p))) fun q => [((inlB q), K44x0x600000022w0 L (inlV q)), ((inrQ q).isSome, K44x0x600000022w1 L ((inrQ q).getD default))]
theorem raw44x0x600000022 (L : List Lf) : pcR Try.prog y44x0z600000022 (spSh sh92x0 (A92x0 N)) 92 3 0 44 600000022 sh44x0x600000022 L [17, 16, 15, 7, 8] [1000068000000033, 8, 1000000050002005] = J44x0x600000022 N L (fun p => some (K44x0x600000022w0 L p)) (fun p => some (K44x0x600000022w1 L p)) := by kernel_rfl
noncomputable def h44x0s1 : Sg Try.prog 0 44 :=
  (h44x0s0 N).rf (g := .tmp 23) (A44x0x600000022 N) (ok92x0 N) (fun L x hx => (raw44x0x600000022 N L).trans ((bind44x0x600000022 N ..).trans ((altS alt1) x hx))) (by kernel_rfl)
noncomputable def S44x0x12 (w1 w3 : LD) (w4 : Int) (w5 : Int) (w6 : Bool) (w7 : LD) (kr : Int → Bool → LD → Option R) (k0 : Bool × LD → Option R) : Option R :=
  bif (decide (w5 < w4)) then
    bif (inB w5 w3.length) then
      bnd (G44x0x600000022 N w6 w7 w1 ((w3.getD w5.toNat (.i 0)).cell 0).toS ((w3.getD w5.toNat (.i 0)).cell 1).toI ((w3.getD w5.toNat (.i 0)).cell 2).toI ((w3.getD w5.toNat (.i 0)).cell 3).items ((w3.getD w5.toNat (.i 0)).cell 4).items ((w3.getD w5.toNat (.i 0)).cell 5).isNil ((w3.getD w5.toNat (.i 0)).cell 5).items) fun y0 =>
      bif (inlB y0) then
        kr (IntKind.wrap .i64 (w5 + 1)) false (inlV y0)
      else
        bif (inrQ y0).isSome then
          kr (IntKind.wrap .i64 (w5 + 1)) ((inrQ y0).getD default).1 ((inrQ y0).getD default).2
        else
          none
    else
      none
  else
    k0 (w6, w7)
noncomputable def L44x0x12 (N : Nat) {R : Type} (w1 w3 : LD) (w4 : Int) : Nat → Int → Bool → LD → (Bool × LD → Option R) → Option R
  | 0, _, _, _, _ => none
  | m + 1, w5, w6, w7, k0 => S44x0x12 N w1 w3 w4 w5 w6 w7 (fun w5 w6 w7 => L44x0x12 N w1 w3 w4 m w5 w6 w7 k0) k0
noncomputable def G44x0x12 (w1 w3 : LD) (w4 : Int) (w5 : Int) (w6 : Bool) (w7 : LD) : Option (Bool × LD) := L44x0x12 N (R := (Bool × LD)) w1 w3 w4 N w5 w6 w7 (fun p => some p)
noncomputable def J44x0x12 (L x : List Lf) (kr : List Lf → Option R) (k0 : Bool × LD → Option R) : Option R := S44x0x12 N (ll L 1) (ll L 3) (li L 4) (li x 0) (lb x 1) (ll x 2) (fun w5 w6 w7 => kr [.i w5, .b w6, .l w7]) k0
theorem sb44x0x12 (L x : List Lf) (kr : List Lf → Option R) (k0 : Bool × LD → Option R) : J44x0x12 N L x kr k0 = (J44x0x12 N L x (fun y => some (.inl y)) (fun p => some (.inr p))).bind (sumE kr k0) := by
  unfold J44x0x12 S44x0x12
  repeat' (first | with_reducible apply cond_b | (with_reducible apply bnd_b; intro _) | rfl)
noncomputable def Q44x0x12 (L : List Lf) (m : Nat) (x : List Lf) : Option (Bool × LD) := L44x0x12 N (R := (Bool × LD)) (ll L 1) (ll L 3) (li L 4) m (li x 0) (lb x 1) (ll x 2) (fun p => some p)
noncomputable def sh44x0x12 : Sh := { tmps := [(7, .c (.sl 70)), (8, .c (.p 8 0)), (15, .c (.sl 29)), (16, .c (.i .i64)), (17, .c (.i .i64))], mem := [(8, .box ([.o 50008000])), (50008000, .row 29 true)] }
noncomputable def K44x0x12w0 (L : List Lf) (p : Bool × LD) : Ex × St := ((.exit 0), mg (ofSh sh44x0x12 L) [8] [] [8, 50008000] [(50008000, .row 29 true p.1 p.2)])
noncomputable def A44x0x12 (L : List Lf) : List (Bool × (Ex × St)) := bnd (Q44x0x12 N L N (pk sh44x0x12 [5, 6, 7] L)) fun q => [(q.isSome, K44x0x12w0 L (q.getD default))]
theorem step44x0x12 (m : Nat) (kn : St → Option (Ex × St)) (L x : List Lf) : lpB Try.prog (T94x0 N) (h44x0s1 N).h 0 44 12 sh44x0x12 [5, 6, 7] [6, 8] [50008000, 8] (m + 100) kn L x = J44x0x12 N L x (fun y => kn (ofSh sh44x0x12 (mx sh44x0x12 [5, 6, 7] L y))) (fun p => some (K44x0x12w0 L p)) := by kernel_rfl
theorem ql44x0x12 (L : List Lf) (m : Nat) (x : List Lf) : Q44x0x12 N L (m + 1) x = J44x0x12 N L x (Q44x0x12 N L m) some := by kernel_rfl
noncomputable def h44x0s2 : Sg Try.prog 0 44 :=
  (h44x0s1 N).lp (A44x0x12 N) N progOk (T94x0_ok N) (fun m kn L x => (step44x0x12 N m kn L x).trans (sb44x0x12 N L x _ _)) (fun L m x => (ql44x0x12 N L m x).trans (sb44x0x12 N L x (Q44x0x12 N L m) some)) fun L x hx => alt1 x hx
noncomputable def F44x0 (v1 : LD) (v2 : Int) (v4 : LD) (k0 : Bool × LD → Option R) : Option R :=
  bnd (G41x0 N v1 v2) fun y0 =>
  bif y0.isSome then
    bnd (G44x0x12 N (y0.getD default).2 v4 (v4.length : Int) 0 true []) fun y1 =>
    bif y1.isSome then
      k0 (y1.getD default)
    else
      none
  else
    none
noncomputable def G44x0 (v1 : LD) (v2 : Int) (v4 : LD) : Option (Bool × LD) := F44x0 N v1 v2 v4 (fun p => some p)
theorem bind44x0 (v1 : LD) (v2 : Int) (v4 : LD) (k0 : Bool × LD → Option R) : F44x0 N v1 v2 v4 k0 = (G44x0 N v1 v2 v4).bind k0 := by
  unfold G44x0 F44x0
  repeat' (first | with_reducible apply cond_b | (with_reducible apply bnd_b; intro _) | rfl)
noncomputable def sh44x0 : Sh := { tmps := [(0, .g ([.sl 70])), (1, .c (.i .i64)), (2, .c (.sl 29))], mem := [] }
noncomputable def A44x0 (L : List Lf) : List (Bool × Res) := bnd (F44x0 N (ll L 1) (li L 2) (ll L 4) (fun p => some p)) fun q => [(q.isSome, ([.c (.sl 29 (q.getD default).1 (q.getD default).2)], []))]
theorem raw44x0 (L : List Lf) : bd Try.prog (T94x0 N) (h44x0s2 N).h 44 sh44x0 L = F44x0 N (ll L 1) (li L 2) (ll L 4) (fun p => some ([.c (.sl 29 p.1 p.2)], [])) := by kernel_rfl
theorem ok44x0 : FnOk Try.prog 44 sh44x0 (A44x0 N) :=
  (h44x0s2 N).fn progOk (T94x0_ok N) fun L x hx => ((raw44x0 N L).trans ((bind44x0 N ..).trans (alt1 x hx)))
noncomputable def T44x0 : Oracle := ext 44 (spSh sh44x0 (A44x0 N)) (T94x0 N)
theorem T44x0_ok : OracleOk Try.prog (T44x0 N) := FnOk.to (ok44x0 N) (T94x0_ok N)
noncomputable def rg13x0 : List (Nat × List Nat) := [(0, [0, 2, 1]), (1, [3, 1, 5]), (2, [8, 3, 1, 5]), (3, [8]), (4, [3, 1, 5])]
noncomputable def hd13x0 : Hints := []
noncomputable def h13x0s0 (N : Nat) : Sg Try.prog 0 13 := .start hd13x0 rg13x0
noncomputable def F13x0 (v1 : LD) (v2 : Int) (v3 : LB) (v4 v5 : Int) (v6 : Bool) (v7 : LD) (v8 : Bool) (v9 : LD) (v10 : Bool) (v11 : LD) (k0 : Bool × LD × Int → Option R) : Option R :=
  bnd (G39x0 N v1 v2 [(.a [(.s v3), (.i v4), (.i v5), (.l v6 v7), (.l v8 v9), (.l v10 v11)])]) fun y0 =>
  bif y0.isSome then
    bif ((y0.getD default) != 0) then
      k0 (true, [], (y0.getD default))
    else
      bnd (G44x0 N v1 v2 [(.a [(.s v3), (.i v4), (.i v5), (.l v6 v7), (.l v8 v9), (.l v10 v11)])]) fun y1 =>
      bif y1.isSome then
        k0 ((y1.getD default).1, (y1.getD default).2, 0)
      else
        none
  else
    none
noncomputable def G13x0 (v1 : LD) (v2 : Int) (v3 : LB) (v4 v5 : Int) (v6 : Bool) (v7 : LD) (v8 : Bool) (v9 : LD) (v10 : Bool) (v11 : LD) : Option (Bool × LD × Int) := F13x0 N v1 v2 v3 v4 v5 v6 v7 v8 v9 v10 v11 (fun p => some p)
theorem bind13x0 (v1 : LD) (v2 : Int) (v3 : LB) (v4 v5 : Int) (v6 : Bool) (v7 : LD) (v8 : Bool) (v9 : LD) (v10 : Bool) (v11 : LD) (k0 : Bool × LD × Int → Option R) : F13x0 N v1 v2 v3 v4 v5 v6 v7 v8 v9 v10 v11 k0 = (G13x0 N v1 v2 v3 v4 v5 v6 v7 v8 v9 v10 v11).bind k0 := by
  unfold G13x0 F13x0
  repeat' (first | with_reducible apply cond_b | (with_reducible apply bnd_b; intro _) | rfl)
noncomputable def J13x0 (L : List Lf) (k0 : Bool × LD × Int → Option R) : Option R := F13x0 N (ll L 1) (li L 2) (ls L 3) (li L 4) (li L 5) (lb L 6) (ll L 7) (lb L 8) (ll L 9) (lb L 10) (ll L 11) k0
noncomputable def sh13x0 : Sh := { tmps := [(0, .g ([.sl 70])), (1, .c (.i .i64)), (2, .g (.s :: [.i .i64, .i .i64, .sl 48, .sl 111, .sl 9]))], mem := [] }
noncomputable def A13x0 (L : List Lf) : List (Bool × Res) := bnd (J13x0 N L (fun p => some p)) fun q => [(q.isSome, ([.c (.sl 29 (q.getD default).1 (q.getD default).2.1), .c (.i .i64 (q.getD default).2.2)], []))]
theorem raw13x0 (L : List Lf) : bd Try.prog (T44x0 N) (h13x0s0 N).h 13 sh13x0 L = J13x0 N L (fun p => some ([.c (.sl 29 p.1 p.2.1), .c (.i .i64 p.2.2)], [])) := by kernel_rfl
theorem ok13x0 : FnOk Try.prog 13 sh13x0 (A13x0 N) :=
  (h13x0s0 N).fn progOk (T44x0_ok N) fun L x hx => ((raw13x0 N L).trans ((bind13x0 N ..).trans (alt1 x hx)))
noncomputable def T13x0 : Oracle := ext 13 (spSh sh13x0 (A13x0 N)) (T44x0 N)
theorem T13x0_ok : OracleOk Try.prog (T13x0 N) := FnOk.to (ok13x0 N) (T44x0_ok N)
noncomputable def rg101x0 : List (Nat × List Nat) := [(0, [0, 1]), (1, [0, 1]), (2, [5, 1, 0]), (3, [5, 1, 0]), (4, [0, 5])]
noncomputable def hd101x0 : Hints := [(11, [5, 1, 0, 10], [], [])]
noncomputable def h101x0s0 (N : Nat) : Sg Try.prog 0 101 := .start hd101x0 rg101x0
noncomputable def F101x0x11 (N : Nat) (w1 w2 : Int) (w3 : Bool) (k0 : Int → R) : R :=
  bif w3 then
    k0 (IntKind.wrap .i64 (w2 + w1))
  else
    k0 w2
noncomputable def V101x0x11 (w1 w2 : Int) (w3 : Bool) : Int := F101x0x11 N w1 w2 w3 (fun p => p)
theorem tot101x0x11 (w1 w2 : Int) (w3 : Bool) (k0 : Int → R) : F101x0x11 N w1 w2 w3 k0 = k0 (V101x0x11 N w1 w2 w3) := by
  unfold V101x0x11 F101x0x11
  repeat' (first | rfl | apply cond_k | (apply bnd_k; intro _))
noncomputable def sh101x0x11 : Sh := { tmps := [(0, .c (.i .i64)), (1, .c (.i .i64)), (5, .c (.i .i64)), (10, .c (.b))], mem := [] }
noncomputable def K101x0x11w0 (L : List Lf) (p : Int) : Ex × St := (.normal, ⟨[(0, .c (.i .i64 (li L 0))), (5, .c (.i .i64 p))], []⟩)
noncomputable def A101x0x11 (L : List Lf) : List (Bool × (Ex × St)) := bnd (F101x0x11 N (li L 1) (li L 2) (lb L 3) (fun p => p)) fun q => [(true, K101x0x11w0 L q)]
theorem raw101x0x11 (L : List Lf) : pc Try.prog (T13x0 N) (h101x0s0 N).h 0 100 101 11 sh101x0x11 L [0, 5] [] = F101x0x11 N (li L 1) (li L 2) (lb L 3) (fun p => some (K101x0x11w0 L p)) := by kernel_rfl
noncomputable def h101x0s1 : Sg Try.prog 0 101 :=
  (h101x0s0 N).cut (A101x0x11 N) progOk (T13x0_ok N) fun L x hx => (raw101x0x11 N L).trans ((tot101x0x11 N ..).trans (alt0 _ _ hx))
noncomputable def F101x0 (v0 v1 : Int) (k0 : Int → Option R) : Option R :=
  bif (!(v1 == 0)) then
    bnd (V101x0x11 N v1 (v0.tmod v1) (decide ((v0.tmod v1) < 0))) fun y0 =>
    k0 (max2 (IntKind.wrap .i64 (v0 - y0)) (-100000000))
  else
    none
noncomputable def G101x0 (v0 v1 : Int) : Option (Int) := F101x0 N v0 v1 (fun p => some p)
theorem bind101x0 (v0 v1 : Int) (k0 : Int → Option R) : F101x0 N v0 v1 k0 = (G101x0 N v0 v1).bind k0 := by
  unfold G101x0 F101x0
  repeat' (first | with_reducible apply cond_b | (with_reducible apply bnd_b; intro _) | rfl)
noncomputable def sh101x0 : Sh := { tmps := [(0, .c (.i .i64)), (1, .c (.i .i64))], mem := [] }
noncomputable def A101x0 (L : List Lf) : List (Bool × Res) := bnd (F101x0 N (li L 0) (li L 1) (fun p => some p)) fun q => [(q.isSome, ([.c (.i .i64 (q.getD default))], []))]
theorem raw101x0 (L : List Lf) : bd Try.prog (T13x0 N) (h101x0s1 N).h 101 sh101x0 L = F101x0 N (li L 0) (li L 1) (fun p => some ([.c (.i .i64 p)], [])) := by kernel_rfl
theorem ok101x0 : FnOk Try.prog 101 sh101x0 (A101x0 N) :=
  (h101x0s1 N).fn progOk (T13x0_ok N) fun L x hx => ((raw101x0 N L).trans ((bind101x0 N ..).trans (alt1 x hx)))
noncomputable def T101x0 : Oracle := ext 101 (spSh sh101x0 (A101x0 N)) (T13x0 N)
theorem T101x0_ok : OracleOk Try.prog (T101x0 N) := FnOk.to (ok101x0 N) (T13x0_ok N)
noncomputable def rg95x0 : List (Nat × List Nat) := [(0, [0, 2, 3, 1]), (1, [6, 3, 4, 1, 8]), (2, [4, 1, 6, 8]), (3, [22, 21, 20, 6, 4, 1, 8]), (4, [20, 22, 6, 21, 4, 1, 8]), (5, [10, 6, 22, 21, 20, 4, 1, 8]), (7, [27, 6, 22, 21, 20, 4, 1, 8]), (9, [27, 6, 22, 21, 20, 4, 1, 8]), (11, [27, 6, 22, 21, 20, 4, 1, 8]), (6, [6, 22, 21, 20, 4, 1, 8]), (12, [6, 22, 21, 20, 4, 1, 8]), (10, [6, 22, 21, 20, 4, 1, 8]), (8, [6, 22, 21, 20, 4, 1, 8]), (13, [22, 21, 20, 6, 4, 1, 8]), (14, [4, 1, 6, 8]), (15, [43, 42, 41, 6, 8]), (16, [41, 43, 6, 42, 8]), (17, [6, 12, 43, 42, 41, 8]), (18, [43, 42, 41, 6, 8]), (19, [6, 8])]
noncomputable def hd95x0 : Hints := [(9, [22, 21, 20, 6, 4, 1, 8], [8, 6, 4], []), (18038, [6, 22, 21, 20, 4, 1, 8, 35], [8, 6, 4], []), (33032, [6, 22, 21, 20, 4, 1, 8, 27, 32], [8, 6, 4], []), (27026, [6, 22, 21, 20, 4, 1, 8, 27, 29], [8, 6, 4], []), (45, [43, 42, 41, 6, 8], [8, 6], [])]
noncomputable def h95x0s0 (N : Nat) : Sg Try.prog 0 95 := .start hd95x0 rg95x0
noncomputable def F95x0x18038 (N : Nat) (w5 : Bool) (w11 w14 : Int) (k0 : Int × Int → R) : R :=
  bif w5 then
    k0 (w11, (-1))
  else
    k0 (0, w14)
noncomputable def V95x0x18038 (w5 : Bool) (w11 w14 : Int) : Int × Int := F95x0x18038 N w5 w11 w14 (fun p => p)
theorem tot95x0x18038 (w5 : Bool) (w11 w14 : Int) (k0 : Int × Int → R) : F95x0x18038 N w5 w11 w14 k0 = k0 (V95x0x18038 N w5 w11 w14) := by
  unfold V95x0x18038 F95x0x18038
  repeat' (first | rfl | apply cond_k | (apply bnd_k; intro _))
noncomputable def sh95x0x18038 : Sh := { tmps := [(1, .c (.i .i64)), (4, .c (.p 4 0)), (6, .c (.p 6 0)), (8, .c (.p 8 0)), (20, .c (.sl 70)), (21, .c (.i .i64)), (22, .c (.i .i64)), (35, .c (.b))], mem := [(4, .box ([.sl 70])), (6, .box (rI 7 ([]))), (8, .box (rI 7 ([])))] }
noncomputable def K95x0x18038w0 (L : List Lf) (p : Int × Int) : Ex × St := (.normal, mg (ofSh sh95x0x18038 L) [1, 4, 6, 8, 20, 21, 22] [] [4, 6, 8] [(6, .box [.i .i64 (li L 8), .i .i64 (li L 9), .i .i64 (li L 10), .i .i64 p.1, .i .i64 (li L 12), .i .i64 (li L 13), .i .i64 p.2])])
noncomputable def A95x0x18038 (L : List Lf) : List (Bool × (Ex × St)) := bnd (F95x0x18038 N (lb L 5) (li L 11) (li L 14) (fun p => p)) fun q => [(true, K95x0x18038w0 L q)]
theorem raw95x0x18038 (L : List Lf) : pc Try.prog (T101x0 N) (h95x0s0 N).h 0 100 95 18038 sh95x0x18038 L [22, 21, 20, 6, 4, 1, 8] [8, 6, 4] = F95x0x18038 N (lb L 5) (li L 11) (li L 14) (fun p => some (K95x0x18038w0 L p)) := by kernel_rfl
noncomputable def h95x0s1 : Sg Try.prog 0 95 :=
  (h95x0s0 N).cut (A95x0x18038 N) progOk (T101x0_ok N) fun L x hx => (raw95x0x18038 N L).trans ((tot95x0x18038 N ..).trans (alt0 _ _ hx))
noncomputable def F95x0x33032 (w5 : Int) (w6 : Bool) (w12 w14 w15 : Int) (k0 : Int × Int × Int → R) : R :=
  bif w6 then
    k0 (w12, (-1), w15)
  else
    bnd (V95x0x18038 N (w5 == 3) w12 w15) fun y0 =>
    k0 (y0.1, w14, y0.2)
noncomputable def V95x0x33032 (w5 : Int) (w6 : Bool) (w12 w14 w15 : Int) : Int × Int × Int := F95x0x33032 N w5 w6 w12 w14 w15 (fun p => p)
theorem tot95x0x33032 (w5 : Int) (w6 : Bool) (w12 w14 w15 : Int) (k0 : Int × Int × Int → R) : F95x0x33032 N w5 w6 w12 w14 w15 k0 = k0 (V95x0x33032 N w5 w6 w12 w14 w15) := by
  unfold V95x0x33032 F95x0x33032
  repeat' (first | rfl | apply cond_k | (apply bnd_k; intro _))
noncomputable def J95x0x33032 (L : List Lf) (k0 : Int × Int × Int → R) : R := F95x0x33032 N (li L 5) (lb L 6) (li L 12) (li L 14) (li L 15) k0
noncomputable def sh95x0x33032 : Sh := { tmps := [(1, .c (.i .i64)), (4, .c (.p 4 0)), (6, .c (.p 6 0)), (8, .c (.p 8 0)), (20, .c (.sl 70)), (21, .c (.i .i64)), (22, .c (.i .i64)), (27, .c (.i .i64)), (32, .c (.b))], mem := [(4, .box ([.sl 70])), (6, .box (rI 7 ([]))), (8, .box (rI 7 ([])))] }
noncomputable def K95x0x33032w0 (L : List Lf) (p : Int × Int × Int) : Ex × St := (.normal, mg (ofSh sh95x0x33032 L) [1, 4, 6, 8, 20, 21, 22] [] [4, 6, 8] [(6, .box [.i .i64 (li L 9), .i .i64 (li L 10), .i .i64 (li L 11), .i .i64 p.1, .i .i64 (li L 13), .i .i64 p.2.1, .i .i64 p.2.2])])
noncomputable def A95x0x33032 (L : List Lf) : List (Bool × (Ex × St)) := bnd (J95x0x33032 N L (fun p => p)) fun q => [(true, K95x0x33032w0 L q)]
theorem raw95x0x33032 (L : List Lf) : pc Try.prog (T101x0 N) (h95x0s1 N).h 0 100 95 33032 sh95x0x33032 L [22, 21, 20, 6, 4, 1, 8] [8, 6, 4] = J95x0x33032 N L (fun p => some (K95x0x33032w0 L p)) := by kernel_rfl
noncomputable def h95x0s2 : Sg Try.prog 0 95 :=
  (h95x0s1 N).cut (A95x0x33032 N) progOk (T101x0_ok N) fun L x hx => (raw95x0x33032 N L).trans ((tot95x0x33032 N ..).trans (alt0 _ _ hx))
noncomputable def F95x0x27026 (w5 : Int) (w6 : Bool) (w12 w13 w14 w15 : Int) (k0 : Int × Int × Int × Int → R) : R :=
  bif w6 then
    k0 (w12, (-1), w14, w15)
  else
    bnd (V95x0x33032 N w5 (w5 == 2) w12 w14 w15) fun y0 =>
    k0 (y0.1, w13, y0.2.1, y0.2.2)
noncomputable def V95x0x27026 (w5 : Int) (w6 : Bool) (w12 w13 w14 w15 : Int) : Int × Int × Int × Int := F95x0x27026 N w5 w6 w12 w13 w14 w15 (fun p => p)
theorem tot95x0x27026 (w5 : Int) (w6 : Bool) (w12 w13 w14 w15 : Int) (k0 : Int × Int × Int × Int → R) : F95x0x27026 N w5 w6 w12 w13 w14 w15 k0 = k0 (V95x0x27026 N w5 w6 w12 w13 w14 w15) := by
  unfold V95x0x27026 F95x0x27026
  repeat' (first | rfl | apply cond_k | (apply bnd_k; intro _))
noncomputable def J95x0x27026 (L : List Lf) (k0 : Int × Int × Int × Int → R) : R := F95x0x27026 N (li L 5) (lb L 6) (li L 12) (li L 13) (li L 14) (li L 15) k0
noncomputable def sh95x0x27026 : Sh := { tmps := [(1, .c (.i .i64)), (4, .c (.p 4 0)), (6, .c (.p 6 0)), (8, .c (.p 8 0)), (20, .c (.sl 70)), (21, .c (.i .i64)), (22, .c (.i .i64)), (27, .c (.i .i64)), (29, .c (.b))], mem := [(4, .box ([.sl 70])), (6, .box (rI 7 ([]))), (8, .box (rI 7 ([])))] }
noncomputable def K95x0x27026w0 (L : List Lf) (p : Int × Int × Int × Int) : Ex × St := (.normal, mg (ofSh sh95x0x27026 L) [1, 4, 6, 8, 20, 21, 22] [] [4, 6, 8] [(6, .box [.i .i64 (li L 9), .i .i64 (li L 10), .i .i64 (li L 11), .i .i64 p.1, .i .i64 p.2.1, .i .i64 p.2.2.1, .i .i64 p.2.2.2])])
noncomputable def A95x0x27026 (L : List Lf) : List (Bool × (Ex × St)) := bnd (J95x0x27026 N L (fun p => p)) fun q => [(true, K95x0x27026w0 L q)]
theorem raw95x0x27026 (L : List Lf) : pc Try.prog (T101x0 N) (h95x0s2 N).h 0 100 95 27026 sh95x0x27026 L [22, 21, 20, 6, 4, 1, 8] [8, 6, 4] = J95x0x27026 N L (fun p => some (K95x0x27026w0 L p)) := by kernel_rfl
noncomputable def h95x0s3 : Sg Try.prog 0 95 :=
  (h95x0s2 N).cut (A95x0x27026 N) progOk (T101x0_ok N) fun L x hx => (raw95x0x27026 N L).trans ((tot95x0x27026 N ..).trans (alt0 _ _ hx))
noncomputable def S95x0x9 (w2 : LD) (w3 : Int) (w4 w10 w11 w12 w13 : Int) (kr : Int → Int → Int → Int → Int → Option R) (k0 : Int × Int × Int × Int → Option R) : Option R :=
  bif (decide (w4 < w3)) then
    bif (inB w4 w2.length) then
      bnd (V95x0x27026 N ((w2.getD w4.toNat (.i 0)).cell 7).toI (((w2.getD w4.toNat (.i 0)).cell 7).toI == 1) w10 w11 w12 w13) fun y0 =>
      kr (IntKind.wrap .i64 (w4 + 1)) y0.1 y0.2.1 y0.2.2.1 y0.2.2.2
    else
      none
  else
    k0 (w10, w11, w12, w13)
noncomputable def L95x0x9 (N : Nat) {R : Type} (w2 : LD) (w3 : Int) : Nat → Int → Int → Int → Int → Int → (Int × Int × Int × Int → Option R) → Option R
  | 0, _, _, _, _, _, _ => none
  | m + 1, w4, w10, w11, w12, w13, k0 => S95x0x9 N w2 w3 w4 w10 w11 w12 w13 (fun w4 w10 w11 w12 w13 => L95x0x9 N w2 w3 m w4 w10 w11 w12 w13 k0) k0
noncomputable def G95x0x9 (w2 : LD) (w3 : Int) (w4 w10 w11 w12 w13 : Int) : Option (Int × Int × Int × Int) := L95x0x9 N (R := (Int × Int × Int × Int)) w2 w3 N w4 w10 w11 w12 w13 (fun p => some p)
noncomputable def J95x0x9 (L x : List Lf) (kr : List Lf → Option R) (k0 : Int × Int × Int × Int → Option R) : Option R := S95x0x9 N (ll L 2) (li L 3) (li x 0) (li x 1) (li x 2) (li x 3) (li x 4) (fun w4 w10 w11 w12 w13 => kr [.i w4, .i w10, .i w11, .i w12, .i w13]) k0
theorem sb95x0x9 (L x : List Lf) (kr : List Lf → Option R) (k0 : Int × Int × Int × Int → Option R) : J95x0x9 N L x kr k0 = (J95x0x9 N L x (fun y => some (.inl y)) (fun p => some (.inr p))).bind (sumE kr k0) := by
  unfold J95x0x9 S95x0x9
  repeat' (first | with_reducible apply cond_b | (with_reducible apply bnd_b; intro _) | rfl)
noncomputable def Q95x0x9 (L : List Lf) (m : Nat) (x : List Lf) : Option (Int × Int × Int × Int) := L95x0x9 N (R := (Int × Int × Int × Int)) (ll L 2) (li L 3) m (li x 0) (li x 1) (li x 2) (li x 3) (li x 4) (fun p => some p)
noncomputable def sh95x0x9 : Sh := { tmps := [(1, .c (.i .i64)), (4, .c (.p 4 0)), (6, .c (.p 6 0)), (8, .c (.p 8 0)), (20, .c (.sl 70)), (21, .c (.i .i64)), (22, .c (.i .i64))], mem := [(4, .box ([.sl 70])), (6, .box (rI 7 ([]))), (8, .box (rI 7 ([])))] }
noncomputable def K95x0x9w0 (L : List Lf) (p : Int × Int × Int × Int) : Ex × St := ((.exit 0), mg (ofSh sh95x0x9 L) [1, 4, 6, 8] [] [4, 6, 8] [(6, .box [.i .i64 (li L 7), .i .i64 (li L 8), .i .i64 (li L 9), .i .i64 p.1, .i .i64 p.2.1, .i .i64 p.2.2.1, .i .i64 p.2.2.2])])
noncomputable def A95x0x9 (L : List Lf) : List (Bool × (Ex × St)) := bnd (Q95x0x9 N L N (pk sh95x0x9 [4, 10, 11, 12, 13] L)) fun q => [(q.isSome, K95x0x9w0 L (q.getD default))]
theorem step95x0x9 (m : Nat) (kn : St → Option (Ex × St)) (L x : List Lf) : lpB Try.prog (T101x0 N) (h95x0s3 N).h 0 95 9 sh95x0x9 [4, 10, 11, 12, 13] [8, 4, 1, 6] [8, 6, 4] (m + 100) kn L x = J95x0x9 N L x (fun y => kn (ofSh sh95x0x9 (mx sh95x0x9 [4, 10, 11, 12, 13] L y))) (fun p => some (K95x0x9w0 L p)) := by kernel_rfl
theorem ql95x0x9 (L : List Lf) (m : Nat) (x : List Lf) : Q95x0x9 N L (m + 1) x = J95x0x9 N L x (Q95x0x9 N L m) some := by kernel_rfl
noncomputable def h95x0s4 : Sg Try.prog 0 95 :=
  (h95x0s3 N).lp (A95x0x9 N) N progOk (T101x0_ok N) (fun m kn L x => (step95x0x9 N m kn L x).trans (sb95x0x9 N L x _ _)) (fun L m x => (ql95x0x9 N L m x).trans (sb95x0x9 N L x (Q95x0x9 N L m) some)) fun L x hx => alt1 x hx
noncomputable def S95x0x45 (w1 : LD) (w2 : Int) (w3 w5 w6 : Int) (kr : Int → Int → Int → Option R) (k0 : Int × Int → Option R) : Option R :=
  bif (decide (w3 < w2)) then
    bif (inB w3 w1.length) then
      bnd (G101x0 N w5 ((w1.getD w3.toNat (.i 0)).cell 7).toI) fun y0 =>
      bif y0.isSome then
        bnd (G101x0 N w6 ((w1.getD w3.toNat (.i 0)).cell 7).toI) fun y1 =>
        bif y1.isSome then
          kr (IntKind.wrap .i64 (w3 + 1)) (y0.getD default) (y1.getD default)
        else
          none
      else
        none
    else
      none
  else
    k0 (w5, w6)
noncomputable def L95x0x45 (N : Nat) {R : Type} (w1 : LD) (w2 : Int) : Nat → Int → Int → Int → (Int × Int → Option R) → Option R
  | 0, _, _, _, _ => none
  | m + 1, w3, w5, w6, k0 => S95x0x45 N w1 w2 w3 w5 w6 (fun w3 w5 w6 => L95x0x45 N w1 w2 m w3 w5 w6 k0) k0
noncomputable def G95x0x45 (w1 : LD) (w2 : Int) (w3 w5 w6 : Int) : Option (Int × Int) := L95x0x45 N (R := (Int × Int)) w1 w2 N w3 w5 w6 (fun p => some p)
noncomputable def J95x0x45 (L x : List Lf) (kr : List Lf → Option R) (k0 : Int × Int → Option R) : Option R := S95x0x45 N (ll L 1) (li L 2) (li x 0) (li x 1) (li x 2) (fun w3 w5 w6 => kr [.i w3, .i w5, .i w6]) k0
theorem sb95x0x45 (L x : List Lf) (kr : List Lf → Option R) (k0 : Int × Int → Option R) : J95x0x45 N L x kr k0 = (J95x0x45 N L x (fun y => some (.inl y)) (fun p => some (.inr p))).bind (sumE kr k0) := by
  unfold J95x0x45 S95x0x45
  repeat' (first | with_reducible apply cond_b | (with_reducible apply bnd_b; intro _) | rfl)
noncomputable def Q95x0x45 (L : List Lf) (m : Nat) (x : List Lf) : Option (Int × Int) := L95x0x45 N (R := (Int × Int)) (ll L 1) (li L 2) m (li x 0) (li x 1) (li x 2) (fun p => some p)
noncomputable def sh95x0x45 : Sh := { tmps := [(6, .c (.p 6 0)), (8, .c (.p 8 0)), (41, .c (.sl 70)), (42, .c (.i .i64)), (43, .c (.i .i64))], mem := [(6, .box (rI 7 ([]))), (8, .box (rI 7 ([])))] }
noncomputable def K95x0x45w0 (L : List Lf) (p : Int × Int) : Ex × St := ((.exit 3), mg (ofSh sh95x0x45 L) [6, 8] [] [6, 8] [(6, .box (.i .i64 (li L 4) :: .i .i64 p.1 :: .i .i64 p.2 :: rL L 7 4 ([])))])
noncomputable def A95x0x45 (L : List Lf) : List (Bool × (Ex × St)) := bnd (Q95x0x45 N L N (pk sh95x0x45 [3, 5, 6] L)) fun q => [(q.isSome, K95x0x45w0 L (q.getD default))]
theorem step95x0x45 (m : Nat) (kn : St → Option (Ex × St)) (L x : List Lf) : lpB Try.prog (T101x0 N) (h95x0s4 N).h 0 95 45 sh95x0x45 [3, 5, 6] [8, 6] [8, 6] (m + 100) kn L x = J95x0x45 N L x (fun y => kn (ofSh sh95x0x45 (mx sh95x0x45 [3, 5, 6] L y))) (fun p => some (K95x0x45w0 L p)) := by kernel_rfl
theorem ql95x0x45 (L : List Lf) (m : Nat) (x : List Lf) : Q95x0x45 N L (m + 1) x = J95x0x45 N L x (Q95x0x45 N L m) some := by kernel_rfl
noncomputable def h95x0s5 : Sg Try.prog 0 95 :=
  (h95x0s4 N).lp (A95x0x45 N) N progOk (T101x0_ok N) (fun m kn L x => (step95x0x45 N m kn L x).trans (sb95x0x45 N L x _ _)) (fun L m x => (ql95x0x45 N L m x).trans (sb95x0x45 N L x (Q95x0x45 N L m) some)) fun L x hx => alt1 x hx
noncomputable def F95x0 (v1 : LD) (v2 v3 v4 v5 v6 v7 v8 v9 v10 : Int) (k0 : Int × Int × Int × Int × Int × Int × Int → Option R) : Option R :=
  bnd (G91x0 N v1 v2 3) fun y0 =>
  bif y0.isSome then
    bnd (G95x0x9 N (y0.getD default).2 ((y0.getD default).2.length : Int) 0 v6 v7 v8 v9) fun y1 =>
    bif y1.isSome then
      bnd (G91x0 N v1 v2 8) fun y2 =>
      bif y2.isSome then
        bnd (G95x0x45 N (y2.getD default).2 ((y2.getD default).2.length : Int) 0 v4 v5) fun y3 =>
        bif y3.isSome then
          k0 ((IntKind.wrap .i64 (v3 - v10)), (y3.getD default).1, (y3.getD default).2, (y1.getD default).1, (y1.getD default).2.1, (y1.getD default).2.2.1, (y1.getD default).2.2.2)
        else
          none
      else
        none
    else
      none
  else
    none
noncomputable def G95x0 (v1 : LD) (v2 v3 v4 v5 v6 v7 v8 v9 v10 : Int) : Option (Int × Int × Int × Int × Int × Int × Int) := F95x0 N v1 v2 v3 v4 v5 v6 v7 v8 v9 v10 (fun p => some p)
theorem bind95x0 (v1 : LD) (v2 v3 v4 v5 v6 v7 v8 v9 v10 : Int) (k0 : Int × Int × Int × Int × Int × Int × Int → Option R) : F95x0 N v1 v2 v3 v4 v5 v6 v7 v8 v9 v10 k0 = (G95x0 N v1 v2 v3 v4 v5 v6 v7 v8 v9 v10).bind k0 := by
  unfold G95x0 F95x0
  repeat' (first | with_reducible apply cond_b | (with_reducible apply bnd_b; intro _) | rfl)
noncomputable def J95x0 (L : List Lf) (k0 : Int × Int × Int × Int × Int × Int × Int → Option R) : Option R := F95x0 N (ll L 1) (li L 2) (li L 3) (li L 4) (li L 5) (li L 6) (li L 7) (li L 8) (li L 9) (li L 10) k0
noncomputable def sh95x0 : Sh := { tmps := [(0, .g ([.sl 70])), (1, .c (.i .i64)), (2, .g (rI 7 ([]))), (3, .c (.i .i64))], mem := [] }
noncomputable def K95x0w0 (L : List Lf) (p : Int × Int × Int × Int × Int × Int × Int) : Res := let p1 := p.2; let p2 := p1.2; let p3 := p2.2; let p4 := p3.2; let p5 := p4.2; let p6 := p5.2; ([.g [.i .i64 p.1, .i .i64 p1.1, .i .i64 p2.1, .i .i64 p3.1, .i .i64 p4.1, .i .i64 p5.1, .i .i64 p6]], [])
noncomputable def A95x0 (L : List Lf) : List (Bool × Res) := bnd (J95x0 N L (fun p => some p)) fun q => [(q.isSome, K95x0w0 L (q.getD default))]
theorem raw95x0 (L : List Lf) : bd Try.prog (T101x0 N) (h95x0s5 N).h 95 sh95x0 L = J95x0 N L (fun p => some (K95x0w0 L p)) := by kernel_rfl
theorem ok95x0 : FnOk Try.prog 95 sh95x0 (A95x0 N) :=
  (h95x0s5 N).fn progOk (T101x0_ok N) fun L x hx => ((raw95x0 N L).trans ((bind95x0 N ..).trans (alt1 x hx)))
noncomputable def T95x0 : Oracle := ext 95 (spSh sh95x0 (A95x0 N)) (T101x0 N)
theorem T95x0_ok : OracleOk Try.prog (T95x0 N) := FnOk.to (ok95x0 N) (T101x0_ok N)
noncomputable def rg78x0 : List (Nat × List Nat) := [(0, [0, 2, 3, 1]), (1, [3, 6, 4, 1, 8]), (2, [6, 9, 4, 1, 3, 8]), (3, [4, 1, 10, 3, 9, 6, 8]), (4, [11, 10, 4, 1, 3, 9, 6, 8]), (5, [10, 4, 1, 3, 9, 6, 11, 8]), (6, [4, 1, 10, 3, 9, 6, 11, 8]), (7, [10, 3, 4, 1, 9, 6, 11, 8]), (8, [3, 10, 4, 1, 9, 6, 11, 8]), (9, [3, 12, 10, 4, 1, 9, 6, 11, 8]), (10, [57, 56, 55, 12, 10, 4, 1, 9, 6, 11, 8]), (11, [55, 57, 12, 10, 4, 1, 9, 56, 6, 11, 8]), (12, [12, 14, 10, 4, 1, 9, 57, 56, 55, 6, 11, 8]), (13, [10, 4, 1, 14, 9, 57, 56, 55, 12, 6, 11, 8]), (14, [57, 56, 55, 12, 10, 4, 1, 9, 6, 11, 8]), (15, [6, 12, 9, 11, 10, 8]), (16, [78, 77, 76, 12, 9, 11, 10, 8]), (17, [76, 78, 12, 77, 9, 11, 10, 8]), (18, [12, 16, 78, 77, 76, 9, 11, 10, 8]), (19, [16, 9, 11, 10, 78, 77, 76, 12, 8]), (20, [11, 16, 10, 78, 77, 76, 12, 9, 8]), (21, [16, 10, 78, 77, 76, 12, 9, 11, 8]), (22, [10, 16, 78, 77, 76, 12, 9, 11, 8]), (23, [78, 77, 76, 12, 9, 11, 10, 8]), (24, [10, 8])]
noncomputable def hd78x0 : Hints := [(17, [10, 4, 1, 3, 9, 6, 11, 8, 39], [32, 10, 8, 6, 4], []), (23, [10, 3, 4, 1, 9, 6, 11, 8, 46], [10, 8, 6, 4, 32], []), (30, [57, 56, 55, 12, 10, 4, 1, 9, 6, 11, 8], [54, 10, 8, 6, 4, 32, 50010004, 50010003], [50010004, 50010003]), (48, [78, 77, 76, 12, 9, 11, 10, 8], [54, 50010004, 50010003, 10, 8, 32], [50010004, 50010003]), (65, [16, 10, 78, 77, 76, 12, 9, 11, 8, 104], [16, 54, 50010004, 50010003, 10, 8, 32], [])]
noncomputable def h78x0s0 (N : Nat) : Sg Try.prog 0 78 := .start hd78x0 rg78x0
noncomputable def F78x0x17 (N : Nat) (w5 : Bool) (k0 : LB → Option R) (k1 : Unit → Option R) : Option R :=
  bif w5 then
    k0 ([97, 99, 116, 105, 118, 105, 116, 121] : List UInt8)
  else
    k1 ()
noncomputable def G78x0x17 (w5 : Bool) : Option (Sum (LB) (Unit)) := F78x0x17 N w5 (fun p => some (.inl p)) (fun p => some (.inr p))
theorem bind78x0x17 (w5 : Bool) (k0 : LB → Option R) (k1 : Unit → Option R) : F78x0x17 N w5 k0 k1 = (G78x0x17 N w5).bind (sumE k0 k1) := by
  unfold G78x0x17 F78x0x17
  repeat' (first | with_reducible apply cond_b | (with_reducible apply bnd_b; intro _) | rfl)
noncomputable def sh78x0x17 : Sh := { tmps := [(1, .c (.i .i64)), (3, .c (.sl 48)), (4, .c (.p 4 0)), (6, .c (.p 6 0)), (8, .c (.p 8 0)), (9, .c (.i .i64)), (10, .c (.p 10 0)), (11, .c (.b)), (39, .c (.b))], mem := [(4, .box ([.sl 70])), (6, .box (.s :: [.i .i64, .i .i64, .sl 48, .sl 111, .sl 9])), (8, .box (.s :: [.i .i64, .i .i64, .sl 48, .sl 111, .sl 9])), (10, .box (.s :: [.i .i64, .i .i64, .sl 48, .sl 111, .o 32])), (32, .row 9 true)] }
noncomputable def K78x0x17w0 (L : List Lf) (p : LB) : Ex × St := (.normal, mg (ofSh sh78x0x17 L) [1, 3, 4, 6, 8, 9, 10, 11] [] [4, 6, 8, 10, 32] [(10, .box [.s p, .i .i64 (li L 27), .i .i64 (li L 28), .sl 48 (lb L 29) (ll L 30), .sl 111 (lb L 31) (ll L 32), .sl 9 true []])])
noncomputable def K78x0x17w1 (L : List Lf) (_ : Unit) : Ex × St := (.normal, mg (ofSh sh78x0x17 L) [1, 3, 4, 6, 8, 9, 10, 11] [] [4, 6, 8, 10, 32] [])
noncomputable def A78x0x17 (L : List Lf) : List (Bool × (Ex × St)) := bnd (F78x0x17 N (lb L 5) (fun p => some (.inl p)) (fun p => some (.inr p))) fun q => [((inlB q), K78x0x17w0 L (inlV q)), ((inrQ q).isSome, K78x0x17w1 L ())]
theorem raw78x0x17 (L : List Lf) : pc Try.prog (T95x0 N) (h78x0s0 N).h 0 100 78 17 sh78x0x17 L [4, 1, 10, 3, 9, 6, 11, 8] [10, 8, 6, 4, 32] = F78x0x17 N (lb L 5) (fun p => some (K78x0x17w0 L p)) (fun _ => some (K78x0x17w1 L ())) := by kernel_rfl
noncomputable def h78x0s1 : Sg Try.prog 0 78 :=
  (h78x0s0 N).cut (A78x0x17 N) progOk (T95x0_ok N) fun L x hx => (raw78x0x17 N L).trans ((bind78x0x17 N ..).trans ((altS alt1) x hx))
noncomputable def F78x0x23 (N : Nat) (w5 : Bool) (w28 : Int) (k0 : Int → R) : R :=
  bif w5 then
    k0 (IntKind.wrap .i64 (w28 - (w28.tmod 86400)))
  else
    k0 w28
noncomputable def V78x0x23 (w5 : Bool) (w28 : Int) : Int := F78x0x23 N w5 w28 (fun p => p)
theorem tot78x0x23 (w5 : Bool) (w28 : Int) (k0 : Int → R) : F78x0x23 N w5 w28 k0 = k0 (V78x0x23 N w5 w28) := by
  unfold V78x0x23 F78x0x23
  repeat' (first | rfl | apply cond_k | (apply bnd_k; intro _))
noncomputable def sh78x0x23 : Sh := { tmps := [(1, .c (.i .i64)), (3, .c (.sl 48)), (4, .c (.p 4 0)), (6, .c (.p 6 0)), (8, .c (.p 8 0)), (9, .c (.i .i64)), (10, .c (.p 10 0)), (11, .c (.b)), (46, .c (.b))], mem := [(4, .box ([.sl 70])), (6, .box (.s :: [.i .i64, .i .i64, .sl 48, .sl 111, .sl 9])), (8, .box (.s :: [.i .i64, .i .i64, .sl 48, .sl 111, .sl 9])), (10, .box (.s :: [.i .i64, .i .i64, .sl 48, .sl 111, .sl 9])), (32, .row 9 true)] }
noncomputable def K78x0x23w0 (L : List Lf) (p : Int) : Ex × St := (.normal, mg (ofSh sh78x0x23 L) [1, 3, 4, 6, 8, 9, 10, 11] [] [4, 6, 8, 10] [(10, .box [.s (ls L 26), .i .i64 (li L 27), .i .i64 p, .sl 48 (lb L 29) (ll L 30), .sl 111 (lb L 31) (ll L 32), .sl 9 (lb L 33) (ll L 34)])])
noncomputable def A78x0x23 (L : List Lf) : List (Bool × (Ex × St)) := bnd (F78x0x23 N (lb L 5) (li L 28) (fun p => p)) fun q => [(true, K78x0x23w0 L q)]
theorem raw78x0x23 (L : List Lf) : pc Try.prog (T95x0 N) (h78x0s1 N).h 0 100 78 23 sh78x0x23 L [3, 10, 4, 1, 9, 6, 11, 8] [10, 8, 6, 4] = F78x0x23 N (lb L 5) (li L 28) (fun p => some (K78x0x23w0 L p)) := by kernel_rfl
noncomputable def h78x0s2 : Sg Try.prog 0 78 :=
  (h78x0s1 N).cut (A78x0x23 N) progOk (T95x0_ok N) fun L x hx => (raw78x0x23 N L).trans ((tot78x0x23 N ..).trans (alt0 _ _ hx))
noncomputable def S78x0x30 (w0 w1 : Int) (w4 : LD) (w5 : Int) (w8 : LD) (w6 : Int) (w32 : (List (D × D))) (w33 : Bool) (w34 : LD) (kr : Int → (List (D × D)) → Bool → LD → Option R) (k0 : Ty6 → Option R) : Option R :=
  bif (decide (w6 < w5)) then
    bif (inB w6 w4.length) then
      bnd (putB Try.prog 3 (.i ((w4.getD w6.toNat (.i 0)).cell 0).toI) (.b true) w32) fun y0 =>
      bnd (G95x0 N w8 w0 ((w4.getD w6.toNat (.i 0)).cell 0).toI ((w4.getD w6.toNat (.i 0)).cell 1).toI ((w4.getD w6.toNat (.i 0)).cell 2).toI ((w4.getD w6.toNat (.i 0)).cell 3).toI ((w4.getD w6.toNat (.i 0)).cell 4).toI ((w4.getD w6.toNat (.i 0)).cell 5).toI ((w4.getD w6.toNat (.i 0)).cell 6).toI w1) fun y1 =>
      bif y1.isSome then
        bif (decide ((w34.length + 1) * 56 ≤ room) && decide ((w34.length + 1) ≤ strMax)) then
          bnd ((w34 ++ [(.a [(.i (y1.getD default).1), (.i (y1.getD default).2.1), (.i (y1.getD default).2.2.1), (.i (y1.getD default).2.2.2.1), (.i (y1.getD default).2.2.2.2.1), (.i (y1.getD default).2.2.2.2.2.1), (.i (y1.getD default).2.2.2.2.2.2)])]) : List D) fun y2 =>
          kr (IntKind.wrap .i64 (w6 + 1)) y0 false y2
        else
          none
      else
        none
    else
      none
  else
    k0 (w32, w33, w34)
noncomputable def L78x0x30 (N : Nat) {R : Type} (w0 w1 : Int) (w4 : LD) (w5 : Int) (w8 : LD) : Nat → Int → (List (D × D)) → Bool → LD → (Ty6 → Option R) → Option R
  | 0, _, _, _, _, _ => none
  | m + 1, w6, w32, w33, w34, k0 => S78x0x30 N w0 w1 w4 w5 w8 w6 w32 w33 w34 (fun w6 w32 w33 w34 => L78x0x30 N w0 w1 w4 w5 w8 m w6 w32 w33 w34 k0) k0
noncomputable def G78x0x30 (w0 w1 : Int) (w4 : LD) (w5 : Int) (w8 : LD) (w6 : Int) (w32 : (List (D × D))) (w33 : Bool) (w34 : LD) : Option (Ty6) := L78x0x30 N (R := (Ty6)) w0 w1 w4 w5 w8 N w6 w32 w33 w34 (fun p => some p)
noncomputable def J78x0x30 (L x : List Lf) (kr : List Lf → Option R) (k0 : Ty6 → Option R) : Option R := S78x0x30 N (li L 0) (li L 1) (ll L 4) (li L 5) (ll L 8) (li x 0) (lm x 1) (lb x 2) (ll x 3) (fun w6 w32 w33 w34 => kr [.i w6, .m w32, .b w33, .l w34]) k0
theorem sb78x0x30 (L x : List Lf) (kr : List Lf → Option R) (k0 : Ty6 → Option R) : J78x0x30 N L x kr k0 = (J78x0x30 N L x (fun y => some (.inl y)) (fun p => some (.inr p))).bind (sumE kr k0) := by
  unfold J78x0x30 S78x0x30
  repeat' (first | with_reducible apply cond_b | (with_reducible apply bnd_b; intro _) | rfl)
noncomputable def Q78x0x30 (L : List Lf) (m : Nat) (x : List Lf) : Option (Ty6) := L78x0x30 N (R := (Ty6)) (li L 0) (li L 1) (ll L 4) (li L 5) (ll L 8) m (li x 0) (lm x 1) (lb x 2) (ll x 3) (fun p => some p)
noncomputable def sh78x0x30 : Sh := { tmps := [(1, .c (.i .i64)), (4, .c (.p 4 0)), (6, .c (.p 6 0)), (8, .c (.p 8 0)), (9, .c (.i .i64)), (10, .c (.p 10 0)), (11, .c (.b)), (12, .c (.m 54)), (55, .c (.sl 48)), (56, .c (.i .i64)), (57, .c (.i .i64))], mem := [(4, .box ([.sl 70])), (6, .box (.s :: [.i .i64, .i .i64, .sl 48, .sl 111, .sl 9])), (8, .box (.s :: [.i .i64, .i .i64, .sl 48, .sl 111, .sl 9])), (10, .box (.s :: [.i .i64, .i .i64, .o 50010003, .o 50010004, .sl 9])), (54, .map 3 4), (50010003, .row 48 true), (50010004, .row 111 true)] }
noncomputable def K78x0x30w0 (L : List Lf) (p : Ty6) : Ex × St := ((.exit 0), mg (ofSh sh78x0x30 L) [6, 8, 9, 10, 11, 12] [] [6, 8, 10, 54, 50010003, 50010004] [(54, .map 3 4 p.1), (50010003, .row 48 true p.2.1 p.2.2)])
noncomputable def A78x0x30 (L : List Lf) : List (Bool × (Ex × St)) := bnd (Q78x0x30 N L N (pk sh78x0x30 [6, 32, 33, 34] L)) fun q => [(q.isSome, K78x0x30w0 L (q.getD default))]
theorem step78x0x30 (m : Nat) (kn : St → Option (Ex × St)) (L x : List Lf) : lpB Try.prog (T95x0 N) (h78x0s2 N).h 0 78 30 sh78x0x30 [6, 32, 33, 34] [8, 6, 12, 9, 11, 10] [54, 50010004, 50010003, 10, 8, 6] (m + 100) kn L x = J78x0x30 N L x (fun y => kn (ofSh sh78x0x30 (mx sh78x0x30 [6, 32, 33, 34] L y))) (fun p => some (K78x0x30w0 L p)) := by kernel_rfl
theorem ql78x0x30 (L : List Lf) (m : Nat) (x : List Lf) : Q78x0x30 N L (m + 1) x = J78x0x30 N L x (Q78x0x30 N L m) some := by kernel_rfl
noncomputable def h78x0s3 : Sg Try.prog 0 78 :=
  (h78x0s2 N).lp (A78x0x30 N) N progOk (T95x0_ok N) (fun m kn L x => (step78x0x30 N m kn L x).trans (sb78x0x30 N L x _ _)) (fun L m x => (ql78x0x30 N L m x).trans (sb78x0x30 N L x (Q78x0x30 N L m) some)) fun L x hx => alt1 x hx
noncomputable def F78x0x65 (N : Nat) (w6 : Bool) (w23 : LB) (k0 : LB → R) : R :=
  bif w6 then
    k0 ([] : List UInt8)
  else
    k0 w23
noncomputable def V78x0x65 (w6 : Bool) (w23 : LB) : LB := F78x0x65 N w6 w23 (fun p => p)
theorem tot78x0x65 (w6 : Bool) (w23 : LB) (k0 : LB → R) : F78x0x65 N w6 w23 k0 = k0 (V78x0x65 N w6 w23) := by
  unfold V78x0x65 F78x0x65
  repeat' (first | rfl | apply cond_k | (apply bnd_k; intro _))
noncomputable def sh78x0x65 : Sh := { tmps := [(8, .c (.p 8 0)), (9, .c (.i .i64)), (10, .c (.p 10 0)), (11, .c (.b)), (12, .c (.m 54)), (16, .c (.p 16 0)), (76, .c (.sl 111)), (77, .c (.i .i64)), (78, .c (.i .i64)), (104, .c (.b))], mem := [(8, .box (.s :: [.i .i64, .i .i64, .sl 48, .sl 111, .sl 9])), (10, .box (.s :: [.i .i64, .i .i64, .o 50010003, .o 50010004, .sl 9])), (16, .box ([.i .i64, .i .i64, .s])), (54, .map 3 4), (50010003, .row 48 true), (50010004, .row 111 true)] }
noncomputable def K78x0x65w0 (L : List Lf) (p : LB) : Ex × St := (.normal, mg (ofSh sh78x0x65 L) [8, 9, 10, 11, 12, 16, 76, 77, 78] [] [8, 10, 16, 54, 50010003, 50010004] [(16, .box [.i .i64 (li L 21), .i .i64 (li L 22), .s p])])
noncomputable def A78x0x65 (L : List Lf) : List (Bool × (Ex × St)) := bnd (F78x0x65 N (lb L 6) (ls L 23) (fun p => p)) fun q => [(true, K78x0x65w0 L q)]
theorem raw78x0x65 (L : List Lf) : pc Try.prog (T95x0 N) (h78x0s3 N).h 0 100 78 65 sh78x0x65 L [10, 16, 78, 77, 76, 12, 9, 11, 8] [16, 54, 50010004, 50010003, 10, 8] = F78x0x65 N (lb L 6) (ls L 23) (fun p => some (K78x0x65w0 L p)) := by kernel_rfl
noncomputable def h78x0s4 : Sg Try.prog 0 78 :=
  (h78x0s3 N).cut (A78x0x65 N) progOk (T95x0_ok N) fun L x hx => (raw78x0x65 N L).trans ((tot78x0x65 N ..).trans (alt0 _ _ hx))
noncomputable def S78x0x48 (w0 : Int) (w1 : Bool) (w3 : LD) (w4 : Int) (w20 : (List (D × D))) (w5 : Int) (w23 : Bool) (w24 : LD) (kr : Int → Bool → LD → Option R) (k0 : Bool × LD → Option R) : Option R :=
  bif (decide (w5 < w4)) then
    bif (inB w5 w3.length) then
      bnd ((findB Try.prog 3 (.i ((w3.getD w5.toNat (.i 0)).cell 0).toI) w20).getD (.b false)).toB fun y0 =>
      bnd (bif (!y0) then true else (!((findB Try.prog 3 (.i ((w3.getD w5.toNat (.i 0)).cell 1).toI) w20).getD (.b false)).toB)) fun y1 =>
      bif y1 then
        kr (IntKind.wrap .i64 (w5 + 1)) w23 w24
      else
        bnd (IntKind.wrap .i64 (((w3.getD w5.toNat (.i 0)).cell 0).toI - w0)) fun y2 =>
        bnd (IntKind.wrap .i64 (((w3.getD w5.toNat (.i 0)).cell 1).toI - w0)) fun y3 =>
        bnd (V78x0x65 N w1 ((w3.getD w5.toNat (.i 0)).cell 2).toS) fun y4 =>
        bif (decide ((w24.length + 1) * 32 ≤ room) && decide ((w24.length + 1) ≤ strMax)) then
          bnd ((w24 ++ [(.a [(.i y2), (.i y3), (.s y4)])]) : List D) fun y5 =>
          kr (IntKind.wrap .i64 (w5 + 1)) false y5
        else
          none
    else
      none
  else
    k0 (w23, w24)
noncomputable def L78x0x48 (N : Nat) {R : Type} (w0 : Int) (w1 : Bool) (w3 : LD) (w4 : Int) (w20 : (List (D × D))) : Nat → Int → Bool → LD → (Bool × LD → Option R) → Option R
  | 0, _, _, _, _ => none
  | m + 1, w5, w23, w24, k0 => S78x0x48 N w0 w1 w3 w4 w20 w5 w23 w24 (fun w5 w23 w24 => L78x0x48 N w0 w1 w3 w4 w20 m w5 w23 w24 k0) k0
noncomputable def G78x0x48 (w0 : Int) (w1 : Bool) (w3 : LD) (w4 : Int) (w20 : (List (D × D))) (w5 : Int) (w23 : Bool) (w24 : LD) : Option (Bool × LD) := L78x0x48 N (R := (Bool × LD)) w0 w1 w3 w4 w20 N w5 w23 w24 (fun p => some p)
noncomputable def J78x0x48 (L x : List Lf) (kr : List Lf → Option R) (k0 : Bool × LD → Option R) : Option R := S78x0x48 N (li L 0) (lb L 1) (ll L 3) (li L 4) (lm L 20) (li x 0) (lb x 1) (ll x 2) (fun w5 w23 w24 => kr [.i w5, .b w23, .l w24]) k0
theorem sb78x0x48 (L x : List Lf) (kr : List Lf → Option R) (k0 : Bool × LD → Option R) : J78x0x48 N L x kr k0 = (J78x0x48 N L x (fun y => some (.inl y)) (fun p => some (.inr p))).bind (sumE kr k0) := by
  unfold J78x0x48 S78x0x48
  repeat' (first | with_reducible apply cond_b | (with_reducible apply bnd_b; intro _) | rfl)
noncomputable def Q78x0x48 (L : List Lf) (m : Nat) (x : List Lf) : Option (Bool × LD) := L78x0x48 N (R := (Bool × LD)) (li L 0) (lb L 1) (ll L 3) (li L 4) (lm L 20) m (li x 0) (lb x 1) (ll x 2) (fun p => some p)
noncomputable def sh78x0x48 : Sh := { tmps := [(8, .c (.p 8 0)), (9, .c (.i .i64)), (10, .c (.p 10 0)), (11, .c (.b)), (12, .c (.m 54)), (76, .c (.sl 111)), (77, .c (.i .i64)), (78, .c (.i .i64))], mem := [(8, .box (.s :: [.i .i64, .i .i64, .sl 48, .sl 111, .sl 9])), (10, .box (.s :: [.i .i64, .i .i64, .o 50010003, .o 50010004, .sl 9])), (54, .map 3 4), (50010003, .row 48 true), (50010004, .row 111 true)] }
noncomputable def K78x0x48w0 (L : List Lf) (p : Bool × LD) : Ex × St := ((.exit 2), mg (ofSh sh78x0x48 L) [8, 10] [] [8, 10, 50010003, 50010004] [(50010004, .row 111 true p.1 p.2)])
noncomputable def A78x0x48 (L : List Lf) : List (Bool × (Ex × St)) := bnd (Q78x0x48 N L N (pk sh78x0x48 [5, 23, 24] L)) fun q => [(q.isSome, K78x0x48w0 L (q.getD default))]
theorem step78x0x48 (m : Nat) (kn : St → Option (Ex × St)) (L x : List Lf) : lpB Try.prog (T95x0 N) (h78x0s4 N).h 0 78 48 sh78x0x48 [5, 23, 24] [8, 10] [50010004, 50010003, 10, 8] (m + 100) kn L x = J78x0x48 N L x (fun y => kn (ofSh sh78x0x48 (mx sh78x0x48 [5, 23, 24] L y))) (fun p => some (K78x0x48w0 L p)) := by kernel_rfl
theorem ql78x0x48 (L : List Lf) (m : Nat) (x : List Lf) : Q78x0x48 N L (m + 1) x = J78x0x48 N L x (Q78x0x48 N L m) some := by kernel_rfl
noncomputable def h78x0s5 : Sg Try.prog 0 78 :=
  (h78x0s4 N).lp (A78x0x48 N) N progOk (T95x0_ok N) (fun m kn L x => (step78x0x48 N m kn L x).trans (sb78x0x48 N L x _ _)) (fun L m x => (ql78x0x48 N L m x).trans (sb78x0x48 N L x (Q78x0x48 N L m) some)) fun L x hx => alt1 x hx
noncomputable def F78x0x23b (N : Nat) (w5 : Bool) (w28 : Int) (k0 : Int → R) : R :=
  bif w5 then
    k0 (IntKind.wrap .i64 (w28 - (w28.tmod 86400)))
  else
    k0 w28
noncomputable def V78x0x23b (w5 : Bool) (w28 : Int) : Int := F78x0x23b N w5 w28 (fun p => p)
theorem tot78x0x23b (w5 : Bool) (w28 : Int) (k0 : Int → R) : F78x0x23b N w5 w28 k0 = k0 (V78x0x23b N w5 w28) := by
  unfold V78x0x23b F78x0x23b
  repeat' (first | rfl | apply cond_k | (apply bnd_k; intro _))
noncomputable def sh78x0x23b : Sh := { tmps := [(1, .c (.i .i64)), (3, .c (.sl 48)), (4, .c (.p 4 0)), (6, .c (.p 6 0)), (8, .c (.p 8 0)), (9, .c (.i .i64)), (10, .c (.p 10 0)), (11, .c (.b)), (46, .c (.b))], mem := [(4, .box ([.sl 70])), (6, .box (.s :: [.i .i64, .i .i64, .sl 48, .sl 111, .sl 9])), (8, .box (.s :: [.i .i64, .i .i64, .sl 48, .sl 111, .sl 9])), (10, .box (.s :: [.i .i64, .i .i64, .sl 48, .sl 111, .o 32])), (32, .row 9 true)] }
noncomputable def K78x0x23bw0 (L : List Lf) (p : Int) : Ex × St := (.normal, mg (ofSh sh78x0x23b L) [1, 3, 4, 6, 8, 9, 10, 11] [] [4, 6, 8, 10, 32] [(10, .box [.s (ls L 26), .i .i64 (li L 27), .i .i64 p, .sl 48 (lb L 29) (ll L 30), .sl 111 (lb L 31) (ll L 32), .o 32])])
noncomputable def A78x0x23b (L : List Lf) : List (Bool × (Ex × St)) := bnd (F78x0x23b N (lb L 5) (li L 28) (fun p => p)) fun q => [(true, K78x0x23bw0 L q)]
theorem raw78x0x23b (L : List Lf) : pc Try.prog (T95x0 N) ((h78x0s5 N).no 23).h 0 100 78 23 sh78x0x23b L [3, 10, 4, 1, 9, 6, 11, 8] [32, 10, 8, 6, 4] = F78x0x23b N (lb L 5) (li L 28) (fun p => some (K78x0x23bw0 L p)) := by kernel_rfl
noncomputable def h78x0s6 : Sg Try.prog 0 78 :=
  (h78x0s5 N).add (((h78x0s5 N).no 23).cut (A78x0x23b N) progOk (T95x0_ok N) fun L x hx => (raw78x0x23b N L).trans ((tot78x0x23b N ..).trans (alt0 _ _ hx))) 23
noncomputable def S78x0x30b (w0 w1 : Int) (w4 : LD) (w5 : Int) (w8 : LD) (w6 : Int) (w32 : (List (D × D))) (w33 : Bool) (w34 : LD) (kr : Int → (List (D × D)) → Bool → LD → Option R) (k0 : Ty6 → Option R) : Option R :=
  bif (decide (w6 < w5)) then
    bif (inB w6 w4.length) then
      bnd (putB Try.prog 3 (.i ((w4.getD w6.toNat (.i 0)).cell 0).toI) (.b true) w32) fun y0 =>
      bnd (G95x0 N w8 w0 ((w4.getD w6.toNat (.i 0)).cell 0).toI ((w4.getD w6.toNat (.i 0)).cell 1).toI ((w4.getD w6.toNat (.i 0)).cell 2).toI ((w4.getD w6.toNat (.i 0)).cell 3).toI ((w4.getD w6.toNat (.i 0)).cell 4).toI ((w4.getD w6.toNat (.i 0)).cell 5).toI ((w4.getD w6.toNat (.i 0)).cell 6).toI w1) fun y1 =>
      bif y1.isSome then
        bif (decide ((w34.length + 1) * 56 ≤ room) && decide ((w34.length + 1) ≤ strMax)) then
          bnd ((w34 ++ [(.a [(.i (y1.getD default).1), (.i (y1.getD default).2.1), (.i (y1.getD default).2.2.1), (.i (y1.getD default).2.2.2.1), (.i (y1.getD default).2.2.2.2.1), (.i (y1.getD default).2.2.2.2.2.1), (.i (y1.getD default).2.2.2.2.2.2)])]) : List D) fun y2 =>
          kr (IntKind.wrap .i64 (w6 + 1)) y0 false y2
        else
          none
      else
        none
    else
      none
  else
    k0 (w32, w33, w34)
noncomputable def L78x0x30b (N : Nat) {R : Type} (w0 w1 : Int) (w4 : LD) (w5 : Int) (w8 : LD) : Nat → Int → (List (D × D)) → Bool → LD → (Ty6 → Option R) → Option R
  | 0, _, _, _, _, _ => none
  | m + 1, w6, w32, w33, w34, k0 => S78x0x30b N w0 w1 w4 w5 w8 w6 w32 w33 w34 (fun w6 w32 w33 w34 => L78x0x30b N w0 w1 w4 w5 w8 m w6 w32 w33 w34 k0) k0
noncomputable def G78x0x30b (w0 w1 : Int) (w4 : LD) (w5 : Int) (w8 : LD) (w6 : Int) (w32 : (List (D × D))) (w33 : Bool) (w34 : LD) : Option (Ty6) := L78x0x30b N (R := (Ty6)) w0 w1 w4 w5 w8 N w6 w32 w33 w34 (fun p => some p)
noncomputable def J78x0x30b (L x : List Lf) (kr : List Lf → Option R) (k0 : Ty6 → Option R) : Option R := S78x0x30b N (li L 0) (li L 1) (ll L 4) (li L 5) (ll L 8) (li x 0) (lm x 1) (lb x 2) (ll x 3) (fun w6 w32 w33 w34 => kr [.i w6, .m w32, .b w33, .l w34]) k0
theorem sb78x0x30b (L x : List Lf) (kr : List Lf → Option R) (k0 : Ty6 → Option R) : J78x0x30b N L x kr k0 = (J78x0x30b N L x (fun y => some (.inl y)) (fun p => some (.inr p))).bind (sumE kr k0) := by
  unfold J78x0x30b S78x0x30b
  repeat' (first | with_reducible apply cond_b | (with_reducible apply bnd_b; intro _) | rfl)
noncomputable def Q78x0x30b (L : List Lf) (m : Nat) (x : List Lf) : Option (Ty6) := L78x0x30b N (R := (Ty6)) (li L 0) (li L 1) (ll L 4) (li L 5) (ll L 8) m (li x 0) (lm x 1) (lb x 2) (ll x 3) (fun p => some p)
noncomputable def sh78x0x30b : Sh := { tmps := [(1, .c (.i .i64)), (4, .c (.p 4 0)), (6, .c (.p 6 0)), (8, .c (.p 8 0)), (9, .c (.i .i64)), (10, .c (.p 10 0)), (11, .c (.b)), (12, .c (.m 54)), (55, .c (.sl 48)), (56, .c (.i .i64)), (57, .c (.i .i64))], mem := [(4, .box ([.sl 70])), (6, .box (.s :: [.i .i64, .i .i64, .sl 48, .sl 111, .sl 9])), (8, .box (.s :: [.i .i64, .i .i64, .sl 48, .sl 111, .sl 9])), (10, .box (.s :: [.i .i64, .i .i64, .o 50010003, .o 50010004, .o 32])), (32, .row 9 true), (54, .map 3 4), (50010003, .row 48 true), (50010004, .row 111 true)] }
noncomputable def K78x0x30bw0 (L : List Lf) (p : Ty6) : Ex × St := ((.exit 0), mg (ofSh sh78x0x30b L) [6, 8, 9, 10, 11, 12] [] [6, 8, 10, 32, 54, 50010003, 50010004] [(54, .map 3 4 p.1), (50010003, .row 48 true p.2.1 p.2.2)])
noncomputable def A78x0x30b (L : List Lf) : List (Bool × (Ex × St)) := bnd (Q78x0x30b N L N (pk sh78x0x30b [6, 32, 33, 34] L)) fun q => [(q.isSome, K78x0x30bw0 L (q.getD default))]
theorem step78x0x30b (m : Nat) (kn : St → Option (Ex × St)) (L x : List Lf) : lpB Try.prog (T95x0 N) ((h78x0s6 N).no 30).h 0 78 30 sh78x0x30b [6, 32, 33, 34] [8, 6, 12, 9, 11, 10] [54, 32, 50010004, 50010003, 10, 8, 6] (m + 100) kn L x = J78x0x30b N L x (fun y => kn (ofSh sh78x0x30b (mx sh78x0x30b [6, 32, 33, 34] L y))) (fun p => some (K78x0x30bw0 L p)) := by kernel_rfl
theorem ql78x0x30b (L : List Lf) (m : Nat) (x : List Lf) : Q78x0x30b N L (m + 1) x = J78x0x30b N L x (Q78x0x30b N L m) some := by kernel_rfl
noncomputable def h78x0s7 : Sg Try.prog 0 78 :=
  (h78x0s6 N).add (((h78x0s6 N).no 30).lp (A78x0x30b N) N progOk (T95x0_ok N) (fun m kn L x => (step78x0x30b N m kn L x).trans (sb78x0x30b N L x _ _)) (fun L m x => (ql78x0x30b N L m x).trans (sb78x0x30b N L x (Q78x0x30b N L m) some)) fun L x hx => alt1 x hx) 30
noncomputable def F78x0x65b (N : Nat) (w6 : Bool) (w21 : LB) (k0 : LB → R) : R :=
  bif w6 then
    k0 ([] : List UInt8)
  else
    k0 w21
noncomputable def V78x0x65b (w6 : Bool) (w21 : LB) : LB := F78x0x65b N w6 w21 (fun p => p)
theorem tot78x0x65b (w6 : Bool) (w21 : LB) (k0 : LB → R) : F78x0x65b N w6 w21 k0 = k0 (V78x0x65b N w6 w21) := by
  unfold V78x0x65b F78x0x65b
  repeat' (first | rfl | apply cond_k | (apply bnd_k; intro _))
noncomputable def sh78x0x65b : Sh := { tmps := [(8, .c (.p 8 0)), (9, .c (.i .i64)), (10, .c (.p 10 0)), (11, .c (.b)), (12, .c (.m 54)), (16, .c (.p 16 0)), (76, .c (.sl 111)), (77, .c (.i .i64)), (78, .c (.i .i64)), (104, .c (.b))], mem := [(8, .box (.s :: [.i .i64, .i .i64, .sl 48, .sl 111, .sl 9])), (10, .box (.s :: [.i .i64, .i .i64, .o 50010003, .o 50010004, .o 32])), (16, .box ([.i .i64, .i .i64, .s])), (32, .row 9 true), (54, .map 3 4), (50010003, .row 48 true), (50010004, .row 111 true)] }
noncomputable def K78x0x65bw0 (L : List Lf) (p : LB) : Ex × St := (.normal, mg (ofSh sh78x0x65b L) [8, 9, 10, 11, 12, 16, 76, 77, 78] [] [8, 10, 16, 32, 54, 50010003, 50010004] [(16, .box [.i .i64 (li L 19), .i .i64 (li L 20), .s p])])
noncomputable def A78x0x65b (L : List Lf) : List (Bool × (Ex × St)) := bnd (F78x0x65b N (lb L 6) (ls L 21) (fun p => p)) fun q => [(true, K78x0x65bw0 L q)]
theorem raw78x0x65b (L : List Lf) : pc Try.prog (T95x0 N) ((h78x0s7 N).no 65).h 0 100 78 65 sh78x0x65b L [10, 16, 78, 77, 76, 12, 9, 11, 8] [16, 54, 32, 50010004, 50010003, 10, 8] = F78x0x65b N (lb L 6) (ls L 21) (fun p => some (K78x0x65bw0 L p)) := by kernel_rfl
noncomputable def h78x0s8 : Sg Try.prog 0 78 :=
  (h78x0s7 N).add (((h78x0s7 N).no 65).cut (A78x0x65b N) progOk (T95x0_ok N) fun L x hx => (raw78x0x65b N L).trans ((tot78x0x65b N ..).trans (alt0 _ _ hx))) 65
noncomputable def S78x0x48b (w0 : Int) (w1 : Bool) (w3 : LD) (w4 : Int) (w20 : (List (D × D))) (w5 : Int) (w23 : Bool) (w24 : LD) (kr : Int → Bool → LD → Option R) (k0 : Bool × LD → Option R) : Option R :=
  bif (decide (w5 < w4)) then
    bif (inB w5 w3.length) then
      bnd ((findB Try.prog 3 (.i ((w3.getD w5.toNat (.i 0)).cell 0).toI) w20).getD (.b false)).toB fun y0 =>
      bnd (bif (!y0) then true else (!((findB Try.prog 3 (.i ((w3.getD w5.toNat (.i 0)).cell 1).toI) w20).getD (.b false)).toB)) fun y1 =>
      bif y1 then
        kr (IntKind.wrap .i64 (w5 + 1)) w23 w24
      else
        bnd (IntKind.wrap .i64 (((w3.getD w5.toNat (.i 0)).cell 0).toI - w0)) fun y2 =>
        bnd (IntKind.wrap .i64 (((w3.getD w5.toNat (.i 0)).cell 1).toI - w0)) fun y3 =>
        bnd (V78x0x65b N w1 ((w3.getD w5.toNat (.i 0)).cell 2).toS) fun y4 =>
        bif (decide ((w24.length + 1) * 32 ≤ room) && decide ((w24.length + 1) ≤ strMax)) then
          bnd ((w24 ++ [(.a [(.i y2), (.i y3), (.s y4)])]) : List D) fun y5 =>
          kr (IntKind.wrap .i64 (w5 + 1)) false y5
        else
          none
    else
      none
  else
    k0 (w23, w24)
noncomputable def L78x0x48b (N : Nat) {R : Type} (w0 : Int) (w1 : Bool) (w3 : LD) (w4 : Int) (w20 : (List (D × D))) : Nat → Int → Bool → LD → (Bool × LD → Option R) → Option R
  | 0, _, _, _, _ => none
  | m + 1, w5, w23, w24, k0 => S78x0x48b N w0 w1 w3 w4 w20 w5 w23 w24 (fun w5 w23 w24 => L78x0x48b N w0 w1 w3 w4 w20 m w5 w23 w24 k0) k0
noncomputable def G78x0x48b (w0 : Int) (w1 : Bool) (w3 : LD) (w4 : Int) (w20 : (List (D × D))) (w5 : Int) (w23 : Bool) (w24 : LD) : Option (Bool × LD) := L78x0x48b N (R := (Bool × LD)) w0 w1 w3 w4 w20 N w5 w23 w24 (fun p => some p)
noncomputable def J78x0x48b (L x : List Lf) (kr : List Lf → Option R) (k0 : Bool × LD → Option R) : Option R := S78x0x48b N (li L 0) (lb L 1) (ll L 3) (li L 4) (lm L 20) (li x 0) (lb x 1) (ll x 2) (fun w5 w23 w24 => kr [.i w5, .b w23, .l w24]) k0
theorem sb78x0x48b (L x : List Lf) (kr : List Lf → Option R) (k0 : Bool × LD → Option R) : J78x0x48b N L x kr k0 = (J78x0x48b N L x (fun y => some (.inl y)) (fun p => some (.inr p))).bind (sumE kr k0) := by
  unfold J78x0x48b S78x0x48b
  repeat' (first | with_reducible apply cond_b | (with_reducible apply bnd_b; intro _) | rfl)
noncomputable def Q78x0x48b (L : List Lf) (m : Nat) (x : List Lf) : Option (Bool × LD) := L78x0x48b N (R := (Bool × LD)) (li L 0) (lb L 1) (ll L 3) (li L 4) (lm L 20) m (li x 0) (lb x 1) (ll x 2) (fun p => some p)
noncomputable def sh78x0x48b : Sh := { tmps := [(8, .c (.p 8 0)), (9, .c (.i .i64)), (10, .c (.p 10 0)), (11, .c (.b)), (12, .c (.m 54)), (76, .c (.sl 111)), (77, .c (.i .i64)), (78, .c (.i .i64))], mem := [(8, .box (.s :: [.i .i64, .i .i64, .sl 48, .sl 111, .sl 9])), (10, .box (.s :: [.i .i64, .i .i64, .o 50010003, .o 50010004, .o 32])), (32, .row 9 true), (54, .map 3 4), (50010003, .row 48 true), (50010004, .row 111 true)] }
noncomputable def K78x0x48bw0 (L : List Lf) (p : Bool × LD) : Ex × St := ((.exit 2), mg (ofSh sh78x0x48b L) [8, 10] [] [8, 10, 32, 50010003, 50010004] [(50010004, .row 111 true p.1 p.2)])
noncomputable def A78x0x48b (L : List Lf) : List (Bool × (Ex × St)) := bnd (Q78x0x48b N L N (pk sh78x0x48b [5, 23, 24] L)) fun q => [(q.isSome, K78x0x48bw0 L (q.getD default))]
theorem step78x0x48b (m : Nat) (kn : St → Option (Ex × St)) (L x : List Lf) : lpB Try.prog (T95x0 N) ((h78x0s8 N).no 48).h 0 78 48 sh78x0x48b [5, 23, 24] [8, 10] [32, 50010004, 50010003, 10, 8] (m + 100) kn L x = J78x0x48b N L x (fun y => kn (ofSh sh78x0x48b (mx sh78x0x48b [5, 23, 24] L y))) (fun p => some (K78x0x48bw0 L p)) := by kernel_rfl
theorem ql78x0x48b (L : List Lf) (m : Nat) (x : List Lf) : Q78x0x48b N L (m + 1) x = J78x0x48b N L x (Q78x0x48b N L m) some := by kernel_rfl
noncomputable def h78x0s9 : Sg Try.prog 0 78 :=
  (h78x0s8 N).add (((h78x0s8 N).no 48).lp (A78x0x48b N) N progOk (T95x0_ok N) (fun m kn L x => (step78x0x48b N m kn L x).trans (sb78x0x48b N L x _ _)) (fun L m x => (ql78x0x48b N L m x).trans (sb78x0x48b N L x (Q78x0x48b N L m) some)) fun L x hx => alt1 x hx) 48
noncomputable def F78x0 (v1 : LD) (v2 : Int) (v3 : LB) (v5 : Int) (v9 v11 v13 : LD) (k0 : Ty0 → Option R) : Option R :=
  bif (inB 0 v13.length) then
    bif (decide ((0 + v11.length) * 16 ≤ room) && decide ((0 + v11.length) ≤ strMax)) then
      bnd (G91x0 N v1 v2 7) fun y0 =>
      bif y0.isSome then
        bnd (G78x0x17 N (decide (((y0.getD default).2.length : Int) > 0))) fun y1 =>
        bif (inlB y1) then
          bnd (G91x0 N v1 v2 6) fun y2 =>
          bif y2.isSome then
            bnd (V78x0x23 N (decide (((y2.getD default).2.length : Int) > 0)) (IntKind.wrap .i64 (v5 + ((v13.getD 0 (.i 0)).cell 0).toI))) fun y3 =>
            bnd (G78x0x30 N v2 ((v13.getD 0 (.i 0)).cell 0).toI v13 (v13.length : Int) v1 0 [] true []) fun y4 =>
            bif y4.isSome then
              bnd (G78x0x48 N ((v13.getD 0 (.i 0)).cell 0).toI (decide (((y0.getD default).2.length : Int) > 0)) v9 (v9.length : Int) (y4.getD default).1 0 true []) fun y5 =>
              bif y5.isSome then
                k0 ((inlV y1), y3, (y4.getD default).2.1, (y4.getD default).2.2, (y5.getD default).1, (y5.getD default).2, true, [])
              else
                none
            else
              none
          else
            none
        else
          bif (inrQ y1).isSome then
            bnd (G91x0 N v1 v2 6) fun y2 =>
            bif y2.isSome then
              bnd (V78x0x23b N (decide (((y2.getD default).2.length : Int) > 0)) (IntKind.wrap .i64 (v5 + ((v13.getD 0 (.i 0)).cell 0).toI))) fun y6 =>
              bnd (G78x0x30b N v2 ((v13.getD 0 (.i 0)).cell 0).toI v13 (v13.length : Int) v1 0 [] true []) fun y7 =>
              bif y7.isSome then
                bnd (G78x0x48b N ((v13.getD 0 (.i 0)).cell 0).toI (decide (((y0.getD default).2.length : Int) > 0)) v9 (v9.length : Int) (y7.getD default).1 0 true []) fun y8 =>
                bif y8.isSome then
                  k0 (v3, y6, (y7.getD default).2.1, (y7.getD default).2.2, (y8.getD default).1, (y8.getD default).2, (v11.isEmpty && false), v11)
                else
                  none
              else
                none
            else
              none
          else
            none
      else
        none
    else
      none
  else
    none
noncomputable def G78x0 (v1 : LD) (v2 : Int) (v3 : LB) (v5 : Int) (v9 v11 v13 : LD) : Option (Ty0) := F78x0 N v1 v2 v3 v5 v9 v11 v13 (fun p => some p)
theorem bind78x0 (v1 : LD) (v2 : Int) (v3 : LB) (v5 : Int) (v9 v11 v13 : LD) (k0 : Ty0 → Option R) : F78x0 N v1 v2 v3 v5 v9 v11 v13 k0 = (G78x0 N v1 v2 v3 v5 v9 v11 v13).bind k0 := by
  unfold G78x0 F78x0
  repeat' (first | with_reducible apply cond_b | (with_reducible apply bnd_b; intro _) | rfl)
noncomputable def J78x0 (L : List Lf) (k0 : Ty0 → Option R) : Option R := F78x0 N (ll L 1) (li L 2) (ls L 3) (li L 5) (ll L 9) (ll L 11) (ll L 13) k0
noncomputable def sh78x0 : Sh := { tmps := [(0, .g ([.sl 70])), (1, .c (.i .i64)), (2, .g (.s :: [.i .i64, .i .i64, .sl 48, .sl 111, .sl 9])), (3, .c (.sl 48))], mem := [] }
noncomputable def K78x0w0 (L : List Lf) (p : Ty0) : Res := let p1 := p.2; let p2 := p1.2; let p3 := p2.2; let p4 := p3.2; let p5 := p4.2; let p6 := p5.2; let p7 := p6.2; ([.g [.s p.1, .i .i64 (li L 4), .i .i64 p1.1, .sl 48 p2.1 p3.1, .sl 111 p4.1 p5.1, .sl 9 p6.1 p7]], [])
noncomputable def A78x0 (L : List Lf) : List (Bool × Res) := bnd (J78x0 N L (fun p => some p)) fun q => [(q.isSome, K78x0w0 L (q.getD default))]
theorem raw78x0 (L : List Lf) : bd Try.prog (T95x0 N) (h78x0s9 N).h 78 sh78x0 L = J78x0 N L (fun p => some (K78x0w0 L p)) := by kernel_rfl
theorem ok78x0 : FnOk Try.prog 78 sh78x0 (A78x0 N) :=
  (h78x0s9 N).fn progOk (T95x0_ok N) fun L x hx => ((raw78x0 N L).trans ((bind78x0 N ..).trans (alt1 x hx)))
noncomputable def T78x0 : Oracle := ext 78 (spSh sh78x0 (A78x0 N)) (T95x0 N)
theorem T78x0_ok : OracleOk Try.prog (T78x0 N) := FnOk.to (ok78x0 N) (T95x0_ok N)
noncomputable def rg50x0 : List (Nat × List Nat) := [(0, [0, 2, 1]), (1, [3, 1, 5]), (2, [5, 7, 3, 1]), (3, [5, 7, 9, 3, 1]), (4, [5, 7, 10, 9, 3, 1]), (5, [23, 22, 21, 7, 10, 9, 3, 1, 5]), (6, [23, 21, 7, 22, 10, 9, 3, 1, 5]), (7, [7, 11, 23, 22, 21, 10, 9, 3, 1, 5, 12]), (8, [10, 12, 9, 3, 1, 5, 23, 22, 21, 7]), (9, [9, 3, 1, 5, 10, 12, 23, 22, 21, 7]), (10, [12, 23, 22, 21, 7, 9, 3, 1, 5]), (11, [10, 12, 23, 22, 21, 7, 9, 3, 1, 5]), (12, [23, 22, 21, 7, 10, 9, 3, 1, 5]), (13, [10, 9, 3, 1, 5]), (14, [9, 3, 1, 5, 10]), (15, [9])]
noncomputable def hd50x0 : Hints := [(15, [23, 22, 21, 7, 10, 9, 3, 1, 5], [5, 3, 10, 9], [10, 9]), (25, [10, 12, 9, 3, 1, 5, 23, 22, 21, 7], [12, 10, 9, 5, 3], []), (29, [9, 3, 1, 5, 10, 12, 23, 22, 21, 7, 47], [12, 10, 9, 5, 3], []), (44, [9, 3, 1, 5, 10, 63], [10, 9, 5, 3], [])]
noncomputable def h50x0s0 (N : Nat) : Sg Try.prog 0 50 := .start hd50x0 rg50x0
noncomputable def F50x0x25 (N : Nat) (w21 : LD) (w22 : Int) (k0 : Bool → Option R) : Option R :=
  bif (decide ((w21.length : Int) > 0)) then
    bif (inB (IntKind.wrap .i64 ((w21.length : Int) - 1)) w21.length) then
      bif (decide ((IntKind.wrap .i64 ((w21.length : Int) - 1)).toNat < w21.length)) then
        bnd ((w21.getD (IntKind.wrap .i64 ((w21.length : Int) - 1)).toNat (.i 0)).cell 0).toI fun y0 =>
        k0 (decide ((IntKind.wrap .i64 (w22 - y0)) > 60))
      else
        none
    else
      none
  else
    k0 false
noncomputable def G50x0x25 (w21 : LD) (w22 : Int) : Option (Bool) := F50x0x25 N w21 w22 (fun p => some p)
theorem bind50x0x25 (w21 : LD) (w22 : Int) (k0 : Bool → Option R) : F50x0x25 N w21 w22 k0 = (G50x0x25 N w21 w22).bind k0 := by
  unfold G50x0x25 F50x0x25
  repeat' (first | with_reducible apply cond_b | (with_reducible apply bnd_b; intro _) | rfl)
noncomputable def sh50x0x25 : Sh := { tmps := [(1, .c (.i .i64)), (3, .c (.p 3 0)), (5, .c (.p 5 0)), (7, .c (.sl 4)), (9, .c (.o 9)), (10, .c (.o 10)), (12, .c (.p 12 0)), (21, .c (.sl 48)), (22, .c (.i .i64)), (23, .c (.i .i64))], mem := [(3, .box ([.sl 70])), (5, .box (.s :: [.i .i64, .i .i64, .sl 48, .sl 111, .sl 9])), (9, .row 29 true), (10, .row 48 true), (12, .box (rI 7 ([])))] }
noncomputable def K50x0x25w0 (L : List Lf) (p : Bool) : Ex × St := (.normal, mg (ofSh sh50x0x25 L) [1, 3, 5, 7, 9, 10, 12, 21, 22, 23, 47] [(47, .c (.b p))] [3, 5, 9, 10, 12] [])
noncomputable def A50x0x25 (L : List Lf) : List (Bool × (Ex × St)) := bnd (F50x0x25 N (ll L 21) (li L 22) (fun p => some p)) fun q => [(q.isSome, K50x0x25w0 L (q.getD default))]
theorem raw50x0x25 (L : List Lf) : pc Try.prog (T78x0 N) (h50x0s0 N).h 0 100 50 25 sh50x0x25 L [9, 3, 1, 5, 10, 12, 23, 22, 21, 7, 47] [12, 10, 9, 5, 3] = F50x0x25 N (ll L 21) (li L 22) (fun p => some (K50x0x25w0 L p)) := by kernel_rfl
noncomputable def h50x0s1 : Sg Try.prog 0 50 :=
  (h50x0s0 N).cut (A50x0x25 N) progOk (T78x0_ok N) fun L x hx => (raw50x0x25 N L).trans ((bind50x0x25 N ..).trans (alt1 x hx))
noncomputable def F50x0x29 (w0 : Int) (w7 : Bool) (w9 : LD) (w10 : LB) (w11 w12 : Int) (w16 w18 w20 w22 : LD) (k0 : LD → Option R) (k1 : Unit → Option R) : Option R :=
  bif w7 then
    bnd (G78x0 N w9 w0 w10 w12 w16 w18 w22) fun y0 =>
    bif y0.isSome then
      bif (decide ((w20.length + 1) * 104 ≤ room) && decide ((w20.length + 1) ≤ strMax)) then
        bnd ((w20 ++ [(.a [(.s (y0.getD default).1), (.i w11), (.i (y0.getD default).2.1), (.l (y0.getD default).2.2.1 (y0.getD default).2.2.2.1), (.l (y0.getD default).2.2.2.2.1 (y0.getD default).2.2.2.2.2.1), (.l (y0.getD default).2.2.2.2.2.2.1 (y0.getD default).2.2.2.2.2.2.2)])]) : List D) fun y1 =>
        k0 y1
      else
        none
    else
      none
  else
    k1 ()
noncomputable def G50x0x29 (w0 : Int) (w7 : Bool) (w9 : LD) (w10 : LB) (w11 w12 : Int) (w16 w18 w20 w22 : LD) : Option (Sum (LD) (Unit)) := F50x0x29 N w0 w7 w9 w10 w11 w12 w16 w18 w20 w22 (fun p => some (.inl p)) (fun p => some (.inr p))
theorem bind50x0x29 (w0 : Int) (w7 : Bool) (w9 : LD) (w10 : LB) (w11 w12 : Int) (w16 w18 w20 w22 : LD) (k0 : LD → Option R) (k1 : Unit → Option R) : F50x0x29 N w0 w7 w9 w10 w11 w12 w16 w18 w20 w22 k0 k1 = (G50x0x29 N w0 w7 w9 w10 w11 w12 w16 w18 w20 w22).bind (sumE k0 k1) := by
  unfold G50x0x29 F50x0x29
  repeat' (first | with_reducible apply cond_b | (with_reducible apply bnd_b; intro _) | rfl)
noncomputable def J50x0x29 (L : List Lf) (k0 : LD → Option R) (k1 : Unit → Option R) : Option R := F50x0x29 N (li L 0) (lb L 7) (ll L 9) (ls L 10) (li L 11) (li L 12) (ll L 16) (ll L 18) (ll L 20) (ll L 22) k0 k1
noncomputable def sh50x0x29 : Sh := { tmps := [(1, .c (.i .i64)), (3, .c (.p 3 0)), (5, .c (.p 5 0)), (7, .c (.sl 4)), (9, .c (.o 9)), (10, .c (.o 10)), (12, .c (.p 12 0)), (21, .c (.sl 48)), (22, .c (.i .i64)), (23, .c (.i .i64)), (47, .c (.b))], mem := [(3, .box ([.sl 70])), (5, .box (.s :: [.i .i64, .i .i64, .sl 48, .sl 111, .sl 9])), (9, .row 29 true), (10, .row 48 true), (12, .box (rI 7 ([])))] }
noncomputable def K50x0x29w0 (L : List Lf) (p : LD) : Ex × St := (.normal, mg (ofSh sh50x0x29 L) [1, 3, 5, 7, 9, 10, 12, 21, 22, 23] [(9, .c (.o 55)), (10, .c (.sl 48 true []))] [3, 5, 10, 12, 55] [(10, .row 48 false (lb L 21) (ll L 22)), (55, .row 29 true false p)])
noncomputable def K50x0x29w1 (L : List Lf) (_ : Unit) : Ex × St := (.normal, mg (ofSh sh50x0x29 L) [1, 3, 5, 7, 9, 10, 12, 21, 22, 23] [] [3, 5, 9, 10, 12] [])
noncomputable def A50x0x29 (L : List Lf) : List (Bool × (Ex × St)) := bnd (J50x0x29 N L (fun p => some (.inl p)) (fun p => some (.inr p))) fun q => [((inlB q), K50x0x29w0 L (inlV q)), ((inrQ q).isSome, K50x0x29w1 L ())]
theorem raw50x0x29 (L : List Lf) : pc Try.prog (T78x0 N) (h50x0s1 N).h 0 100 50 29 sh50x0x29 L [10, 12, 23, 22, 21, 7, 9, 3, 1, 5] [12, 55, 5, 3, 10, 9] = J50x0x29 N L (fun p => some (K50x0x29w0 L p)) (fun _ => some (K50x0x29w1 L ())) := by kernel_rfl
noncomputable def h50x0s2 : Sg Try.prog 0 50 :=
  (h50x0s1 N).cut (A50x0x29 N) progOk (T78x0_ok N) fun L x hx => (raw50x0x29 N L).trans ((bind50x0x29 N ..).trans ((altS alt1) x hx))
noncomputable def S50x0x15 (w0 : Int) (w2 w4 : LD) (w5 : Int) (w8 : LD) (w9 : LB) (w10 w11 : Int) (w15 w17 : LD) (w6 : Int) (w18 : Bool) (w19 : LD) (w20 : Bool) (w21 : LD) (kr : Int → Bool → LD → Bool → LD → Option R) (k0 : Ty5 → Option R) : Option R :=
  bif (decide (w6 < w5)) then
    bif (inB w6 w4.length) then
      bif (inB w6 w2.length) then
        bif (w2.getD w6.toNat (.i 0)).toB then
          kr (IntKind.wrap .i64 (w6 + 1)) w18 w19 w20 w21
        else
          bnd (G50x0x25 N w21 ((w4.getD w6.toNat (.i 0)).cell 0).toI) fun y0 =>
          bif y0.isSome then
            bnd (G50x0x29 N w0 (y0.getD default) w8 w9 w10 w11 w15 w17 w19 w21) fun y1 =>
            bif (inlB y1) then
              kr (IntKind.wrap .i64 (w6 + 1)) false (inlV y1) false [(.a [(.i ((w4.getD w6.toNat (.i 0)).cell 0).toI), (.i ((w4.getD w6.toNat (.i 0)).cell 1).toI), (.i ((w4.getD w6.toNat (.i 0)).cell 2).toI), (.i ((w4.getD w6.toNat (.i 0)).cell 3).toI), (.i ((w4.getD w6.toNat (.i 0)).cell 4).toI), (.i ((w4.getD w6.toNat (.i 0)).cell 5).toI), (.i ((w4.getD w6.toNat (.i 0)).cell 6).toI)])]
            else
              bif (inrQ y1).isSome then
                bif (decide ((w21.length + 1) * 56 ≤ room) && decide ((w21.length + 1) ≤ strMax)) then
                  bnd ((w21 ++ [(.a [(.i ((w4.getD w6.toNat (.i 0)).cell 0).toI), (.i ((w4.getD w6.toNat (.i 0)).cell 1).toI), (.i ((w4.getD w6.toNat (.i 0)).cell 2).toI), (.i ((w4.getD w6.toNat (.i 0)).cell 3).toI), (.i ((w4.getD w6.toNat (.i 0)).cell 4).toI), (.i ((w4.getD w6.toNat (.i 0)).cell 5).toI), (.i ((w4.getD w6.toNat (.i 0)).cell 6).toI)])]) : List D) fun y2 =>
                  kr (IntKind.wrap .i64 (w6 + 1)) w18 w19 false y2
                else
                  none
              else
                none
          else
            none
      else
        none
    else
      none
  else
    k0 (w18, w19, w20, w21)
noncomputable def L50x0x15 (N : Nat) {R : Type} (w0 : Int) (w2 w4 : LD) (w5 : Int) (w8 : LD) (w9 : LB) (w10 w11 : Int) (w15 w17 : LD) : Nat → Int → Bool → LD → Bool → LD → (Ty5 → Option R) → Option R
  | 0, _, _, _, _, _, _ => none
  | m + 1, w6, w18, w19, w20, w21, k0 => S50x0x15 N w0 w2 w4 w5 w8 w9 w10 w11 w15 w17 w6 w18 w19 w20 w21 (fun w6 w18 w19 w20 w21 => L50x0x15 N w0 w2 w4 w5 w8 w9 w10 w11 w15 w17 m w6 w18 w19 w20 w21 k0) k0
noncomputable def G50x0x15 (w0 : Int) (w2 w4 : LD) (w5 : Int) (w8 : LD) (w9 : LB) (w10 w11 : Int) (w15 w17 : LD) (w6 : Int) (w18 : Bool) (w19 : LD) (w20 : Bool) (w21 : LD) : Option (Ty5) := L50x0x15 N (R := (Ty5)) w0 w2 w4 w5 w8 w9 w10 w11 w15 w17 N w6 w18 w19 w20 w21 (fun p => some p)
noncomputable def J50x0x15 (L x : List Lf) (kr : List Lf → Option R) (k0 : Ty5 → Option R) : Option R := S50x0x15 N (li L 0) (ll L 2) (ll L 4) (li L 5) (ll L 8) (ls L 9) (li L 10) (li L 11) (ll L 15) (ll L 17) (li x 0) (lb x 1) (ll x 2) (lb x 3) (ll x 4) (fun w6 w18 w19 w20 w21 => kr [.i w6, .b w18, .l w19, .b w20, .l w21]) k0
theorem sb50x0x15 (L x : List Lf) (kr : List Lf → Option R) (k0 : Ty5 → Option R) : J50x0x15 N L x kr k0 = (J50x0x15 N L x (fun y => some (.inl y)) (fun p => some (.inr p))).bind (sumE kr k0) := by
  unfold J50x0x15 S50x0x15
  repeat' (first | with_reducible apply cond_b | (with_reducible apply bnd_b; intro _) | rfl)
noncomputable def Q50x0x15 (L : List Lf) (m : Nat) (x : List Lf) : Option (Ty5) := L50x0x15 N (R := (Ty5)) (li L 0) (ll L 2) (ll L 4) (li L 5) (ll L 8) (ls L 9) (li L 10) (li L 11) (ll L 15) (ll L 17) m (li x 0) (lb x 1) (ll x 2) (lb x 3) (ll x 4) (fun p => some p)
noncomputable def sh50x0x15 : Sh := { tmps := [(1, .c (.i .i64)), (3, .c (.p 3 0)), (5, .c (.p 5 0)), (7, .c (.sl 4)), (9, .c (.o 9)), (10, .c (.o 10)), (21, .c (.sl 48)), (22, .c (.i .i64)), (23, .c (.i .i64))], mem := [(3, .box ([.sl 70])), (5, .box (.s :: [.i .i64, .i .i64, .sl 48, .sl 111, .sl 9])), (9, .row 29 true), (10, .row 48 true)] }
noncomputable def K50x0x15w0 (L : List Lf) (p : Ty5) : Ex × St := ((.exit 0), mg (ofSh sh50x0x15 L) [1, 3, 5, 9, 10] [] [3, 5, 9, 10] [(9, .row 29 true p.1 p.2.1), (10, .row 48 true p.2.2.1 p.2.2.2)])
noncomputable def A50x0x15 (L : List Lf) : List (Bool × (Ex × St)) := bnd (Q50x0x15 N L N (pk sh50x0x15 [6, 18, 19, 20, 21] L)) fun q => [(q.isSome, K50x0x15w0 L (q.getD default))]
theorem step50x0x15 (m : Nat) (kn : St → Option (Ex × St)) (L x : List Lf) : lpB Try.prog (T78x0 N) (h50x0s2 N).h 0 50 15 sh50x0x15 [6, 18, 19, 20, 21] [6, 10, 9, 3, 1, 5] [10, 9, 5, 3] (m + 100) kn L x = J50x0x15 N L x (fun y => kn (ofSh sh50x0x15 (mx sh50x0x15 [6, 18, 19, 20, 21] L y))) (fun p => some (K50x0x15w0 L p)) := by kernel_rfl
theorem ql50x0x15 (L : List Lf) (m : Nat) (x : List Lf) : Q50x0x15 N L (m + 1) x = J50x0x15 N L x (Q50x0x15 N L m) some := by kernel_rfl
noncomputable def h50x0s3 : Sg Try.prog 0 50 :=
  (h50x0s2 N).lp (A50x0x15 N) N progOk (T78x0_ok N) (fun m kn L x => (step50x0x15 N m kn L x).trans (sb50x0x15 N L x _ _)) (fun L m x => (ql50x0x15 N L m x).trans (sb50x0x15 N L x (Q50x0x15 N L m) some)) fun L x hx => alt1 x hx
noncomputable def F50x0x44 (w0 : Int) (w1 : Bool) (w3 : LD) (w4 : LB) (w5 w6 : Int) (w10 w12 w14 w16 : LD) (k0 : LD → Option R) (k1 : Unit → Option R) : Option R :=
  bif w1 then
    bnd (G78x0 N w3 w0 w4 w6 w10 w12 w16) fun y0 =>
    bif y0.isSome then
      bif (decide ((w14.length + 1) * 104 ≤ room) && decide ((w14.length + 1) ≤ strMax)) then
        bnd ((w14 ++ [(.a [(.s (y0.getD default).1), (.i w5), (.i (y0.getD default).2.1), (.l (y0.getD default).2.2.1 (y0.getD default).2.2.2.1), (.l (y0.getD default).2.2.2.2.1 (y0.getD default).2.2.2.2.2.1), (.l (y0.getD default).2.2.2.2.2.2.1 (y0.getD default).2.2.2.2.2.2.2)])]) : List D) fun y1 =>
        k0 y1
      else
        none
    else
      none
  else
    k1 ()
noncomputable def G50x0x44 (w0 : Int) (w1 : Bool) (w3 : LD) (w4 : LB) (w5 w6 : Int) (w10 w12 w14 w16 : LD) : Option (Sum (LD) (Unit)) := F50x0x44 N w0 w1 w3 w4 w5 w6 w10 w12 w14 w16 (fun p => some (.inl p)) (fun p => some (.inr p))
theorem bind50x0x44 (w0 : Int) (w1 : Bool) (w3 : LD) (w4 : LB) (w5 w6 : Int) (w10 w12 w14 w16 : LD) (k0 : LD → Option R) (k1 : Unit → Option R) : F50x0x44 N w0 w1 w3 w4 w5 w6 w10 w12 w14 w16 k0 k1 = (G50x0x44 N w0 w1 w3 w4 w5 w6 w10 w12 w14 w16).bind (sumE k0 k1) := by
  unfold G50x0x44 F50x0x44
  repeat' (first | with_reducible apply cond_b | (with_reducible apply bnd_b; intro _) | rfl)
noncomputable def J50x0x44 (L : List Lf) (k0 : LD → Option R) (k1 : Unit → Option R) : Option R := F50x0x44 N (li L 0) (lb L 1) (ll L 3) (ls L 4) (li L 5) (li L 6) (ll L 10) (ll L 12) (ll L 14) (ll L 16) k0 k1
noncomputable def sh50x0x44 : Sh := { tmps := [(1, .c (.i .i64)), (3, .c (.p 3 0)), (5, .c (.p 5 0)), (9, .c (.o 9)), (10, .c (.o 10)), (63, .c (.b))], mem := [(3, .box ([.sl 70])), (5, .box (.s :: [.i .i64, .i .i64, .sl 48, .sl 111, .sl 9])), (9, .row 29 true), (10, .row 48 true)] }
noncomputable def A50x0x44 (L : List Lf) : List (Bool × (Ex × St)) := bnd (J50x0x44 N L (fun p => some (.inl p)) (fun p => some (.inr p))) fun q => [((inlB q), (.normal, ⟨[(9, .c (.o 71))], [(71, .row 29 true false (inlV q))]⟩)), ((inrQ q).isSome, (.normal, mg (ofSh sh50x0x44 L) [9] [] [9] []))]
theorem raw50x0x44 (L : List Lf) : pc Try.prog (T78x0 N) (h50x0s3 N).h 0 100 50 44 sh50x0x44 L [9] [71, 9] = J50x0x44 N L (fun p => some (.normal, ⟨[(9, .c (.o 71))], [(71, .row 29 true false p)]⟩)) (fun _ => some (.normal, mg (ofSh sh50x0x44 L) [9] [] [9] [])) := by kernel_rfl
noncomputable def h50x0s4 : Sg Try.prog 0 50 :=
  (h50x0s3 N).cut (A50x0x44 N) progOk (T78x0_ok N) fun L x hx => (raw50x0x44 N L).trans ((bind50x0x44 N ..).trans ((altS alt1) x hx))
noncomputable def F50x0 (v1 : LD) (v2 : Int) (v3 : LB) (v4 v5 : Int) (v7 v9 v11 : LD) (k0 : Bool × LD → Option R) : Option R :=
  bnd (G43x0 N v1 v2 v4 v5 v7 v11) fun y0 =>
  bif y0.isSome then
    bnd (G50x0x15 N v2 (y0.getD default).2.1 v7 (v7.length : Int) v1 v3 v4 v5 v9 v11 0 true [] true []) fun y1 =>
    bif y1.isSome then
      bnd (G50x0x44 N v2 (decide (((y1.getD default).2.2.2.length : Int) > 0)) v1 v3 v4 v5 v9 v11 (y1.getD default).2.1 (y1.getD default).2.2.2) fun y2 =>
      bif (inlB y2) then
        k0 (false, (inlV y2))
      else
        bif (inrQ y2).isSome then
          k0 ((y1.getD default).1, (y1.getD default).2.1)
        else
          none
    else
      none
  else
    none
noncomputable def G50x0 (v1 : LD) (v2 : Int) (v3 : LB) (v4 v5 : Int) (v7 v9 v11 : LD) : Option (Bool × LD) := F50x0 N v1 v2 v3 v4 v5 v7 v9 v11 (fun p => some p)
theorem bind50x0 (v1 : LD) (v2 : Int) (v3 : LB) (v4 v5 : Int) (v7 v9 v11 : LD) (k0 : Bool × LD → Option R) : F50x0 N v1 v2 v3 v4 v5 v7 v9 v11 k0 = (G50x0 N v1 v2 v3 v4 v5 v7 v9 v11).bind k0 := by
  unfold G50x0 F50x0
  repeat' (first | with_reducible apply cond_b | (with_reducible apply bnd_b; intro _) | rfl)
noncomputable def J50x0 (L : List Lf) (k0 : Bool × LD → Option R) : Option R := F50x0 N (ll L 1) (li L 2) (ls L 3) (li L 4) (li L 5) (ll L 7) (ll L 9) (ll L 11) k0
noncomputable def sh50x0 : Sh := { tmps := [(0, .g ([.sl 70])), (1, .c (.i .i64)), (2, .g (.s :: [.i .i64, .i .i64, .sl 48, .sl 111, .sl 9]))], mem := [] }
noncomputable def A50x0 (L : List Lf) : List (Bool × Res) := bnd (J50x0 N L (fun p => some p)) fun q => [(q.isSome, ([.c (.sl 29 (q.getD default).1 (q.getD default).2)], []))]
theorem raw50x0 (L : List Lf) : bd Try.prog (T78x0 N) (h50x0s4 N).h 50 sh50x0 L = J50x0 N L (fun p => some ([.c (.sl 29 p.1 p.2)], [])) := by kernel_rfl
theorem ok50x0 : FnOk Try.prog 50 sh50x0 (A50x0 N) :=
  (h50x0s4 N).fn progOk (T78x0_ok N) fun L x hx => ((raw50x0 N L).trans ((bind50x0 N ..).trans (alt1 x hx)))
noncomputable def T50x0 : Oracle := ext 50 (spSh sh50x0 (A50x0 N)) (T78x0 N)
theorem T50x0_ok : OracleOk Try.prog (T50x0 N) := FnOk.to (ok50x0 N) (T78x0_ok N)
noncomputable def rg17x0 : List (Nat × List Nat) := [(0, [0, 2, 1]), (1, [3, 1, 5]), (2, [8, 3, 1, 5]), (3, [8]), (4, [3, 1, 5])]
noncomputable def hd17x0 : Hints := []
noncomputable def h17x0s0 (N : Nat) : Sg Try.prog 0 17 := .start hd17x0 rg17x0
noncomputable def F17x0 (v1 : LD) (v2 : Int) (v3 : LB) (v4 v5 : Int) (v6 : Bool) (v7 : LD) (v8 : Bool) (v9 : LD) (v10 : Bool) (v11 : LD) (k0 : Bool × LD × Int → Option R) : Option R :=
  bnd (G42x0 N v1 v2 false [(.a [(.s v3), (.i v4), (.i v5), (.l v6 v7), (.l v8 v9), (.l v10 v11)])]) fun y0 =>
  bif y0.isSome then
    bif ((y0.getD default) != 0) then
      k0 (true, [], (y0.getD default))
    else
      bnd (G50x0 N v1 v2 v3 v4 v5 v7 v9 v11) fun y1 =>
      bif y1.isSome then
        k0 ((y1.getD default).1, (y1.getD default).2, 0)
      else
        none
  else
    none
noncomputable def G17x0 (v1 : LD) (v2 : Int) (v3 : LB) (v4 v5 : Int) (v6 : Bool) (v7 : LD) (v8 : Bool) (v9 : LD) (v10 : Bool) (v11 : LD) : Option (Bool × LD × Int) := F17x0 N v1 v2 v3 v4 v5 v6 v7 v8 v9 v10 v11 (fun p => some p)
theorem bind17x0 (v1 : LD) (v2 : Int) (v3 : LB) (v4 v5 : Int) (v6 : Bool) (v7 : LD) (v8 : Bool) (v9 : LD) (v10 : Bool) (v11 : LD) (k0 : Bool × LD × Int → Option R) : F17x0 N v1 v2 v3 v4 v5 v6 v7 v8 v9 v10 v11 k0 = (G17x0 N v1 v2 v3 v4 v5 v6 v7 v8 v9 v10 v11).bind k0 := by
  unfold G17x0 F17x0
  repeat' (first | with_reducible apply cond_b | (with_reducible apply bnd_b; intro _) | rfl)
noncomputable def J17x0 (L : List Lf) (k0 : Bool × LD × Int → Option R) : Option R := F17x0 N (ll L 1) (li L 2) (ls L 3) (li L 4) (li L 5) (lb L 6) (ll L 7) (lb L 8) (ll L 9) (lb L 10) (ll L 11) k0
noncomputable def sh17x0 : Sh := { tmps := [(0, .g ([.sl 70])), (1, .c (.i .i64)), (2, .g (.s :: [.i .i64, .i .i64, .sl 48, .sl 111, .sl 9]))], mem := [] }
noncomputable def A17x0 (L : List Lf) : List (Bool × Res) := bnd (J17x0 N L (fun p => some p)) fun q => [(q.isSome, ([.c (.sl 29 (q.getD default).1 (q.getD default).2.1), .c (.i .i64 (q.getD default).2.2)], []))]
theorem raw17x0 (L : List Lf) : bd Try.prog (T50x0 N) (h17x0s0 N).h 17 sh17x0 L = J17x0 N L (fun p => some ([.c (.sl 29 p.1 p.2.1), .c (.i .i64 p.2.2)], [])) := by kernel_rfl
theorem ok17x0 : FnOk Try.prog 17 sh17x0 (A17x0 N) :=
  (h17x0s0 N).fn progOk (T50x0_ok N) fun L x hx => ((raw17x0 N L).trans ((bind17x0 N ..).trans (alt1 x hx)))
noncomputable def T17x0 : Oracle := ext 17 (spSh sh17x0 (A17x0 N)) (T50x0 N)
theorem T17x0_ok : OracleOk Try.prog (T17x0 N) := FnOk.to (ok17x0 N) (T50x0_ok N)
noncomputable def rg18x0 : List (Nat × List Nat) := [(0, [0, 1]), (1, [0, 1]), (2, []), (3, [0, 1]), (4, [13, 12, 0, 1]), (5, [13, 0, 1, 12]), (6, [0, 5, 1, 13, 12]), (7, []), (8, [13, 12, 0, 1]), (9, [])]
noncomputable def hd18x0 : Hints := [(12, [13, 12, 0, 1], [], [])]
noncomputable def h18x0s0 (N : Nat) : Sg Try.prog 0 18 := .start hd18x0 rg18x0
noncomputable def S18x0x12 (N : Nat) (w1 w3 : LD) (w4 : Int) (w5 : Int) (kr : Int → Option R) (k0 : Unit → Option R) (k1 : Unit → Option R) : Option R :=
  bif (decide (w5 < w4)) then
    bif (inB w5 w1.length) then
      bif (inB w5 w3.length) then
        bnd (!((w1.getD w5.toNat (.i 0)).toB == (w3.getD w5.toNat (.i 0)).toB)) fun y0 =>
        bif y0 then
          k0 ()
        else
          kr (IntKind.wrap .i64 (w5 + 1))
      else
        none
    else
      none
  else
    k1 ()
noncomputable def L18x0x12 (N : Nat) {R : Type} (w1 w3 : LD) (w4 : Int) : Nat → Int → (Unit → Option R) → (Unit → Option R) → Option R
  | 0, _, _, _ => none
  | m + 1, w5, k0, k1 => S18x0x12 N w1 w3 w4 w5 (fun w5 => L18x0x12 N w1 w3 w4 m w5 k0 k1) k0 k1
noncomputable def G18x0x12 (w1 w3 : LD) (w4 : Int) (w5 : Int) : Option (Sum (Unit) (Unit)) := L18x0x12 N (R := (Sum (Unit) (Unit))) w1 w3 w4 N w5 (fun p => some (.inl p)) (fun p => some (.inr p))
noncomputable def J18x0x12 (L x : List Lf) (kr : List Lf → Option R) (k0 : Unit → Option R) (k1 : Unit → Option R) : Option R := S18x0x12 N (ll L 1) (ll L 3) (li L 4) (li x 0) (fun w5 => kr [.i w5]) k0 k1
theorem sb18x0x12 (L x : List Lf) (kr : List Lf → Option R) (k0 : Unit → Option R) (k1 : Unit → Option R) : J18x0x12 N L x kr k0 k1 = (J18x0x12 N L x (fun y => some (.inl y)) (fun p => some (.inr (.inl p))) (fun p => some (.inr (.inr p)))).bind (sumE kr (sumE k0 k1)) := by
  unfold J18x0x12 S18x0x12
  repeat' (first | with_reducible apply cond_b | (with_reducible apply bnd_b; intro _) | rfl)
noncomputable def Q18x0x12 (L : List Lf) (m : Nat) (x : List Lf) : Option (Sum (Unit) (Unit)) := L18x0x12 N (R := (Sum (Unit) (Unit))) (ll L 1) (ll L 3) (li L 4) m (li x 0) (fun p => some (.inl p)) (fun p => some (.inr p))
noncomputable def sh18x0x12 : Sh := { tmps := [(0, .c (.sl 4)), (1, .c (.sl 4)), (12, .c (.i .i64)), (13, .c (.i .i64))], mem := [] }
noncomputable def A18x0x12 (L : List Lf) : List (Bool × (Ex × St)) := bnd (Q18x0x12 N L N (pk sh18x0x12 [5] L)) fun q => [((inlB q), (.ret, ⟨[(4, .c (.b false))], []⟩)), ((inrQ q).isSome, ((.exit 0), ⟨[], []⟩))]
theorem step18x0x12 (m : Nat) (kn : St → Option (Ex × St)) (L x : List Lf) : lpB Try.prog (T17x0 N) (h18x0s0 N).h 0 18 12 sh18x0x12 [5] [4] [] (m + 100) kn L x = J18x0x12 N L x (fun y => kn (ofSh sh18x0x12 (mx sh18x0x12 [5] L y))) (fun _ => some (.ret, ⟨[(4, .c (.b false))], []⟩)) (fun _ => some ((.exit 0), ⟨[], []⟩)) := by kernel_rfl
theorem ql18x0x12 (L : List Lf) (m : Nat) (x : List Lf) : Q18x0x12 N L (m + 1) x = J18x0x12 N L x (Q18x0x12 N L m) (fun p => some (.inl p)) (fun p => some (.inr p)) := by kernel_rfl
noncomputable def h18x0s1 : Sg Try.prog 0 18 :=
  (h18x0s0 N).lp (A18x0x12 N) N progOk (T17x0_ok N) (fun m kn L x => (step18x0x12 N m kn L x).trans (sb18x0x12 N L x _ _ _)) (fun L m x => (ql18x0x12 N L m x).trans (sb18x0x12 N L x (Q18x0x12 N L m) (fun p => some (.inl p)) (fun p => some (.inr p)))) fun L x hx => (altS alt1) x hx
noncomputable def F18x0 (v1 v3 : LD) (k0 : Bool → Option R) : Option R :=
  bif ((v1.length : Int) != (v3.length : Int)) then
    k0 false
  else
    bnd (G18x0x12 N v1 v3 (v1.length : Int) 0) fun y0 =>
    bif (inlB y0) then
      k0 false
    else
      bif (inrQ y0).isSome then
        k0 true
      else
        none
noncomputable def G18x0 (v1 v3 : LD) : Option (Bool) := F18x0 N v1 v3 (fun p => some p)
theorem bind18x0 (v1 v3 : LD) (k0 : Bool → Option R) : F18x0 N v1 v3 k0 = (G18x0 N v1 v3).bind k0 := by
  unfold G18x0 F18x0
  repeat' (first | with_reducible apply cond_b | (with_reducible apply bnd_b; intro _) | rfl)
noncomputable def sh18x0 : Sh := { tmps := [(0, .c (.sl 4)), (1, .c (.sl 4))], mem := [] }
noncomputable def A18x0 (L : List Lf) : List (Bool × Res) := bnd (F18x0 N (ll L 1) (ll L 3) (fun p => some p)) fun q => [(q.isSome, ([.c (.b (q.getD default))], []))]
theorem raw18x0 (L : List Lf) : bd Try.prog (T17x0 N) (h18x0s1 N).h 18 sh18x0 L = F18x0 N (ll L 1) (ll L 3) (fun p => some ([.c (.b p)], [])) := by kernel_rfl
theorem ok18x0 : FnOk Try.prog 18 sh18x0 (A18x0 N) :=
  (h18x0s1 N).fn progOk (T17x0_ok N) fun L x hx => ((raw18x0 N L).trans ((bind18x0 N ..).trans (alt1 x hx)))
noncomputable def T18x0 : Oracle := ext 18 (spSh sh18x0 (A18x0 N)) (T17x0 N)
theorem T18x0_ok : OracleOk Try.prog (T18x0 N) := FnOk.to (ok18x0 N) (T17x0_ok N)
noncomputable def rg51x0 : List (Nat × List Nat) := [(0, [0, 1]), (1, [2, 3]), (2, []), (3, [2, 3]), (4, [57, 56, 2, 3]), (5, [57, 2, 3, 56]), (6, [2, 5, 3, 57, 56]), (7, []), (8, [57, 56, 2, 3]), (9, [2, 3]), (10, [75, 74, 2, 3]), (11, [75, 2, 3, 74]), (12, [2, 6, 3, 75, 74]), (13, []), (14, [75, 74, 2, 3]), (15, [2, 3]), (16, [93, 92, 2, 3]), (17, [93, 2, 3, 92]), (18, [2, 7, 3, 93, 92]), (19, []), (20, [93, 92, 2, 3]), (21, [])]
noncomputable def hd51x0 : Hints := [(12, [57, 56, 2, 3], [3, 2], []), (30, [75, 74, 2, 3], [3, 2], []), (48, [93, 92, 2, 3], [3, 2], [])]
noncomputable def h51x0s0 (N : Nat) : Sg Try.prog 0 51 := .start hd51x0 rg51x0
noncomputable def S51x0x12 (N : Nat) (w0 : Int) (w6 w15 : LD) (w1 : Int) (kr : Int → Option R) (k0 : Unit → Option R) (k1 : Unit → Option R) : Option R :=
  bif (decide (w1 < w0)) then
    bif (inB w1 w6.length) then
      bif (inB w1 w15.length) then
        bnd (!((((w6.getD w1.toNat (.i 0)).cell 0).toI == ((w15.getD w1.toNat (.i 0)).cell 0).toI) && ((((w6.getD w1.toNat (.i 0)).cell 1).toI == ((w15.getD w1.toNat (.i 0)).cell 1).toI) && ((((w6.getD w1.toNat (.i 0)).cell 2).toI == ((w15.getD w1.toNat (.i 0)).cell 2).toI) && ((((w6.getD w1.toNat (.i 0)).cell 3).toI == ((w15.getD w1.toNat (.i 0)).cell 3).toI) && ((((w6.getD w1.toNat (.i 0)).cell 4).toI == ((w15.getD w1.toNat (.i 0)).cell 4).toI) && ((((w6.getD w1.toNat (.i 0)).cell 5).toI == ((w15.getD w1.toNat (.i 0)).cell 5).toI) && ((((w6.getD w1.toNat (.i 0)).cell 6).toI == ((w15.getD w1.toNat (.i 0)).cell 6).toI) && true)))))))) fun y0 =>
        bif y0 then
          k0 ()
        else
          kr (IntKind.wrap .i64 (w1 + 1))
      else
        none
    else
      none
  else
    k1 ()
noncomputable def L51x0x12 (N : Nat) {R : Type} (w0 : Int) (w6 w15 : LD) : Nat → Int → (Unit → Option R) → (Unit → Option R) → Option R
  | 0, _, _, _ => none
  | m + 1, w1, k0, k1 => S51x0x12 N w0 w6 w15 w1 (fun w1 => L51x0x12 N w0 w6 w15 m w1 k0 k1) k0 k1
noncomputable def G51x0x12 (w0 : Int) (w6 w15 : LD) (w1 : Int) : Option (Sum (Unit) (Unit)) := L51x0x12 N (R := (Sum (Unit) (Unit))) w0 w6 w15 N w1 (fun p => some (.inl p)) (fun p => some (.inr p))
noncomputable def J51x0x12 (L x : List Lf) (kr : List Lf → Option R) (k0 : Unit → Option R) (k1 : Unit → Option R) : Option R := S51x0x12 N (li L 0) (ll L 6) (ll L 15) (li x 0) (fun w1 => kr [.i w1]) k0 k1
theorem sb51x0x12 (L x : List Lf) (kr : List Lf → Option R) (k0 : Unit → Option R) (k1 : Unit → Option R) : J51x0x12 N L x kr k0 k1 = (J51x0x12 N L x (fun y => some (.inl y)) (fun p => some (.inr (.inl p))) (fun p => some (.inr (.inr p)))).bind (sumE kr (sumE k0 k1)) := by
  unfold J51x0x12 S51x0x12
  repeat' (first | with_reducible apply cond_b | (with_reducible apply bnd_b; intro _) | rfl)
noncomputable def Q51x0x12 (L : List Lf) (m : Nat) (x : List Lf) : Option (Sum (Unit) (Unit)) := L51x0x12 N (R := (Sum (Unit) (Unit))) (li L 0) (ll L 6) (ll L 15) m (li x 0) (fun p => some (.inl p)) (fun p => some (.inr p))
noncomputable def sh51x0x12 : Sh := { tmps := [(2, .c (.p 2 0)), (3, .c (.p 3 0)), (56, .c (.i .i64)), (57, .c (.i .i64))], mem := [(2, .box (.s :: [.i .i64, .i .i64, .sl 48, .sl 111, .sl 9])), (3, .box (.s :: [.i .i64, .i .i64, .sl 48, .sl 111, .sl 9]))] }
noncomputable def K51x0x12w0 (L : List Lf) (_ : Unit) : Ex × St := (.ret, mg (ofSh sh51x0x12 L) [4] [(4, .c (.b false))] [2, 3] [])
noncomputable def A51x0x12 (L : List Lf) : List (Bool × (Ex × St)) := bnd (Q51x0x12 N L N (pk sh51x0x12 [1] L)) fun q => [((inlB q), K51x0x12w0 L ()), ((inrQ q).isSome, ((.exit 0), mg (ofSh sh51x0x12 L) [2, 3] [] [2, 3] []))]
theorem step51x0x12 (m : Nat) (kn : St → Option (Ex × St)) (L x : List Lf) : lpB Try.prog (T18x0 N) (h51x0s0 N).h 0 51 12 sh51x0x12 [1] [4, 2, 3] [3, 2] (m + 100) kn L x = J51x0x12 N L x (fun y => kn (ofSh sh51x0x12 (mx sh51x0x12 [1] L y))) (fun _ => some (K51x0x12w0 L ())) (fun _ => some ((.exit 0), mg (ofSh sh51x0x12 L) [2, 3] [] [2, 3] [])) := by kernel_rfl
theorem ql51x0x12 (L : List Lf) (m : Nat) (x : List Lf) : Q51x0x12 N L (m + 1) x = J51x0x12 N L x (Q51x0x12 N L m) (fun p => some (.inl p)) (fun p => some (.inr p)) := by kernel_rfl
noncomputable def h51x0s1 : Sg Try.prog 0 51 :=
  (h51x0s0 N).lp (A51x0x12 N) N progOk (T18x0_ok N) (fun m kn L x => (step51x0x12 N m kn L x).trans (sb51x0x12 N L x _ _ _)) (fun L m x => (ql51x0x12 N L m x).trans (sb51x0x12 N L x (Q51x0x12 N L m) (fun p => some (.inl p)) (fun p => some (.inr p)))) fun L x hx => (altS alt1) x hx
noncomputable def S51x0x30 (N : Nat) (w0 : Int) (w8 w17 : LD) (w1 : Int) (kr : Int → Option R) (k0 : Unit → Option R) (k1 : Unit → Option R) : Option R :=
  bif (decide (w1 < w0)) then
    bif (inB w1 w8.length) then
      bif (inB w1 w17.length) then
        bnd (!((((w8.getD w1.toNat (.i 0)).cell 0).toI == ((w17.getD w1.toNat (.i 0)).cell 0).toI) && ((((w8.getD w1.toNat (.i 0)).cell 1).toI == ((w17.getD w1.toNat (.i 0)).cell 1).toI) && ((((w8.getD w1.toNat (.i 0)).cell 2).toS == ((w17.getD w1.toNat (.i 0)).cell 2).toS) && true)))) fun y0 =>
        bif y0 then
          k0 ()
        else
          kr (IntKind.wrap .i64 (w1 + 1))
      else
        none
    else
      none
  else
    k1 ()
noncomputable def L51x0x30 (N : Nat) {R : Type} (w0 : Int) (w8 w17 : LD) : Nat → Int → (Unit → Option R) → (Unit → Option R) → Option R
  | 0, _, _, _ => none
  | m + 1, w1, k0, k1 => S51x0x30 N w0 w8 w17 w1 (fun w1 => L51x0x30 N w0 w8 w17 m w1 k0 k1) k0 k1
noncomputable def G51x0x30 (w0 : Int) (w8 w17 : LD) (w1 : Int) : Option (Sum (Unit) (Unit)) := L51x0x30 N (R := (Sum (Unit) (Unit))) w0 w8 w17 N w1 (fun p => some (.inl p)) (fun p => some (.inr p))
noncomputable def J51x0x30 (L x : List Lf) (kr : List Lf → Option R) (k0 : Unit → Option R) (k1 : Unit → Option R) : Option R := S51x0x30 N (li L 0) (ll L 8) (ll L 17) (li x 0) (fun w1 => kr [.i w1]) k0 k1
theorem sb51x0x30 (L x : List Lf) (kr : List Lf → Option R) (k0 : Unit → Option R) (k1 : Unit → Option R) : J51x0x30 N L x kr k0 k1 = (J51x0x30 N L x (fun y => some (.inl y)) (fun p => some (.inr (.inl p))) (fun p => some (.inr (.inr p)))).bind (sumE kr (sumE k0 k1)) := by
  unfold J51x0x30 S51x0x30
  repeat' (first | with_reducible apply cond_b | (with_reducible apply bnd_b; intro _) | rfl)
noncomputable def Q51x0x30 (L : List Lf) (m : Nat) (x : List Lf) : Option (Sum (Unit) (Unit)) := L51x0x30 N (R := (Sum (Unit) (Unit))) (li L 0) (ll L 8) (ll L 17) m (li x 0) (fun p => some (.inl p)) (fun p => some (.inr p))
noncomputable def sh51x0x30 : Sh := { tmps := [(2, .c (.p 2 0)), (3, .c (.p 3 0)), (74, .c (.i .i64)), (75, .c (.i .i64))], mem := [(2, .box (.s :: [.i .i64, .i .i64, .sl 48, .sl 111, .sl 9])), (3, .box (.s :: [.i .i64, .i .i64, .sl 48, .sl 111, .sl 9]))] }
noncomputable def K51x0x30w0 (L : List Lf) (_ : Unit) : Ex × St := (.ret, mg (ofSh sh51x0x30 L) [4] [(4, .c (.b false))] [2, 3] [])
noncomputable def A51x0x30 (L : List Lf) : List (Bool × (Ex × St)) := bnd (Q51x0x30 N L N (pk sh51x0x30 [1] L)) fun q => [((inlB q), K51x0x30w0 L ()), ((inrQ q).isSome, ((.exit 2), mg (ofSh sh51x0x30 L) [2, 3] [] [2, 3] []))]
theorem step51x0x30 (m : Nat) (kn : St → Option (Ex × St)) (L x : List Lf) : lpB Try.prog (T18x0 N) (h51x0s1 N).h 0 51 30 sh51x0x30 [1] [4, 2, 3] [3, 2] (m + 100) kn L x = J51x0x30 N L x (fun y => kn (ofSh sh51x0x30 (mx sh51x0x30 [1] L y))) (fun _ => some (K51x0x30w0 L ())) (fun _ => some ((.exit 2), mg (ofSh sh51x0x30 L) [2, 3] [] [2, 3] [])) := by kernel_rfl
theorem ql51x0x30 (L : List Lf) (m : Nat) (x : List Lf) : Q51x0x30 N L (m + 1) x = J51x0x30 N L x (Q51x0x30 N L m) (fun p => some (.inl p)) (fun p => some (.inr p)) := by kernel_rfl
noncomputable def h51x0s2 : Sg Try.prog 0 51 :=
  (h51x0s1 N).lp (A51x0x30 N) N progOk (T18x0_ok N) (fun m kn L x => (step51x0x30 N m kn L x).trans (sb51x0x30 N L x _ _ _)) (fun L m x => (ql51x0x30 N L m x).trans (sb51x0x30 N L x (Q51x0x30 N L m) (fun p => some (.inl p)) (fun p => some (.inr p)))) fun L x hx => (altS alt1) x hx
noncomputable def S51x0x48 (N : Nat) (w0 : Int) (w10 w19 : LD) (w1 : Int) (kr : Int → Option R) (k0 : Unit → Option R) (k1 : Unit → Option R) : Option R :=
  bif (decide (w1 < w0)) then
    bif (inB w1 w10.length) then
      bif (inB w1 w19.length) then
        bnd (!((w10.getD w1.toNat (.i 0)).toS == (w19.getD w1.toNat (.i 0)).toS)) fun y0 =>
        bif y0 then
          k0 ()
        else
          kr (IntKind.wrap .i64 (w1 + 1))
      else
        none
    else
      none
  else
    k1 ()
noncomputable def L51x0x48 (N : Nat) {R : Type} (w0 : Int) (w10 w19 : LD) : Nat → Int → (Unit → Option R) → (Unit → Option R) → Option R
  | 0, _, _, _ => none
  | m + 1, w1, k0, k1 => S51x0x48 N w0 w10 w19 w1 (fun w1 => L51x0x48 N w0 w10 w19 m w1 k0 k1) k0 k1
noncomputable def G51x0x48 (w0 : Int) (w10 w19 : LD) (w1 : Int) : Option (Sum (Unit) (Unit)) := L51x0x48 N (R := (Sum (Unit) (Unit))) w0 w10 w19 N w1 (fun p => some (.inl p)) (fun p => some (.inr p))
noncomputable def J51x0x48 (L x : List Lf) (kr : List Lf → Option R) (k0 : Unit → Option R) (k1 : Unit → Option R) : Option R := S51x0x48 N (li L 0) (ll L 10) (ll L 19) (li x 0) (fun w1 => kr [.i w1]) k0 k1
theorem sb51x0x48 (L x : List Lf) (kr : List Lf → Option R) (k0 : Unit → Option R) (k1 : Unit → Option R) : J51x0x48 N L x kr k0 k1 = (J51x0x48 N L x (fun y => some (.inl y)) (fun p => some (.inr (.inl p))) (fun p => some (.inr (.inr p)))).bind (sumE kr (sumE k0 k1)) := by
  unfold J51x0x48 S51x0x48
  repeat' (first | with_reducible apply cond_b | (with_reducible apply bnd_b; intro _) | rfl)
noncomputable def Q51x0x48 (L : List Lf) (m : Nat) (x : List Lf) : Option (Sum (Unit) (Unit)) := L51x0x48 N (R := (Sum (Unit) (Unit))) (li L 0) (ll L 10) (ll L 19) m (li x 0) (fun p => some (.inl p)) (fun p => some (.inr p))
noncomputable def sh51x0x48 : Sh := { tmps := [(2, .c (.p 2 0)), (3, .c (.p 3 0)), (92, .c (.i .i64)), (93, .c (.i .i64))], mem := [(2, .box (.s :: [.i .i64, .i .i64, .sl 48, .sl 111, .sl 9])), (3, .box (.s :: [.i .i64, .i .i64, .sl 48, .sl 111, .sl 9]))] }
noncomputable def A51x0x48 (L : List Lf) : List (Bool × (Ex × St)) := bnd (Q51x0x48 N L N (pk sh51x0x48 [1] L)) fun q => [((inlB q), (.ret, ⟨[(4, .c (.b false))], []⟩)), ((inrQ q).isSome, ((.exit 4), ⟨[], []⟩))]
theorem step51x0x48 (m : Nat) (kn : St → Option (Ex × St)) (L x : List Lf) : lpB Try.prog (T18x0 N) (h51x0s2 N).h 0 51 48 sh51x0x48 [1] [4] [] (m + 100) kn L x = J51x0x48 N L x (fun y => kn (ofSh sh51x0x48 (mx sh51x0x48 [1] L y))) (fun _ => some (.ret, ⟨[(4, .c (.b false))], []⟩)) (fun _ => some ((.exit 4), ⟨[], []⟩)) := by kernel_rfl
theorem ql51x0x48 (L : List Lf) (m : Nat) (x : List Lf) : Q51x0x48 N L (m + 1) x = J51x0x48 N L x (Q51x0x48 N L m) (fun p => some (.inl p)) (fun p => some (.inr p)) := by kernel_rfl
noncomputable def h51x0s3 : Sg Try.prog 0 51 :=
  (h51x0s2 N).lp (A51x0x48 N) N progOk (T18x0_ok N) (fun m kn L x => (step51x0x48 N m kn L x).trans (sb51x0x48 N L x _ _ _)) (fun L m x => (ql51x0x48 N L m x).trans (sb51x0x48 N L x (Q51x0x48 N L m) (fun p => some (.inl p)) (fun p => some (.inr p)))) fun L x hx => (altS alt1) x hx
noncomputable def F51x0 (v0 : LB) (v1 v2 : Int) (v4 v6 v8 : LD) (v9 : LB) (v10 v11 : Int) (v13 v15 v17 : LD) (k0 : Bool → Option R) : Option R :=
  bnd (bif (bif (!(v0 == v9)) then true else (v1 != v10)) then true else (v2 != v11)) fun y0 =>
  bnd (bif y0 then true else ((v4.length : Int) != (v13.length : Int))) fun y1 =>
  bnd (bif y1 then true else ((v6.length : Int) != (v15.length : Int))) fun y2 =>
  bnd (bif y2 then true else ((v8.length : Int) != (v17.length : Int))) fun y3 =>
  bif y3 then
    k0 false
  else
    bnd (G51x0x12 N (v4.length : Int) v4 v13 0) fun y4 =>
    bif (inlB y4) then
      k0 false
    else
      bif (inrQ y4).isSome then
        bnd (G51x0x30 N (v6.length : Int) v6 v15 0) fun y5 =>
        bif (inlB y5) then
          k0 false
        else
          bif (inrQ y5).isSome then
            bnd (G51x0x48 N (v8.length : Int) v8 v17 0) fun y6 =>
            bif (inlB y6) then
              k0 false
            else
              bif (inrQ y6).isSome then
                k0 true
              else
                none
          else
            none
      else
        none
noncomputable def G51x0 (v0 : LB) (v1 v2 : Int) (v4 v6 v8 : LD) (v9 : LB) (v10 v11 : Int) (v13 v15 v17 : LD) : Option (Bool) := F51x0 N v0 v1 v2 v4 v6 v8 v9 v10 v11 v13 v15 v17 (fun p => some p)
theorem bind51x0 (v0 : LB) (v1 v2 : Int) (v4 v6 v8 : LD) (v9 : LB) (v10 v11 : Int) (v13 v15 v17 : LD) (k0 : Bool → Option R) : F51x0 N v0 v1 v2 v4 v6 v8 v9 v10 v11 v13 v15 v17 k0 = (G51x0 N v0 v1 v2 v4 v6 v8 v9 v10 v11 v13 v15 v17).bind k0 := by
  unfold G51x0 F51x0
  repeat' (first | with_reducible apply cond_b | (with_reducible apply bnd_b; intro _) | rfl)
noncomputable def J51x0 (L : List Lf) (k0 : Bool → Option R) : Option R := F51x0 N (ls L 0) (li L 1) (li L 2) (ll L 4) (ll L 6) (ll L 8) (ls L 9) (li L 10) (li L 11) (ll L 13) (ll L 15) (ll L 17) k0
noncomputable def sh51x0 : Sh := { tmps := [(0, .g (.s :: [.i .i64, .i .i64, .sl 48, .sl 111, .sl 9])), (1, .g (.s :: [.i .i64, .i .i64, .sl 48, .sl 111, .sl 9]))], mem := [] }
noncomputable def A51x0 (L : List Lf) : List (Bool × Res) := bnd (J51x0 N L (fun p => some p)) fun q => [(q.isSome, ([.c (.b (q.getD default))], []))]
theorem raw51x0 (L : List Lf) : bd Try.prog (T18x0 N) (h51x0s3 N).h 51 sh51x0 L = J51x0 N L (fun p => some ([.c (.b p)], [])) := by kernel_rfl
theorem ok51x0 : FnOk Try.prog 51 sh51x0 (A51x0 N) :=
  (h51x0s3 N).fn progOk (T18x0_ok N) fun L x hx => ((raw51x0 N L).trans ((bind51x0 N ..).trans (alt1 x hx)))
noncomputable def T51x0 : Oracle := ext 51 (spSh sh51x0 (A51x0 N)) (T18x0 N)
theorem T51x0_ok : OracleOk Try.prog (T51x0 N) := FnOk.to (ok51x0 N) (T18x0_ok N)
noncomputable def rg19x0 : List (Nat × List Nat) := [(0, [0, 1]), (1, [0, 1]), (2, []), (3, [0, 1]), (4, [13, 12, 0, 1]), (5, [13, 0, 1, 12]), (6, [0, 5, 1, 13, 12]), (7, []), (8, [13, 12, 0, 1]), (9, [])]
noncomputable def hd19x0 : Hints := [(12, [13, 12, 0, 1], [], [])]
noncomputable def h19x0s0 (N : Nat) : Sg Try.prog 0 19 := .start hd19x0 rg19x0
noncomputable def S19x0x12 (w1 w3 : LD) (w4 : Int) (w5 : Int) (kr : Int → Option R) (k0 : Unit → Option R) (k1 : Unit → Option R) : Option R :=
  bif (decide (w5 < w4)) then
    bif (inB w5 w1.length) then
      bif (inB w5 w3.length) then
        bnd (G51x0 N ((w1.getD w5.toNat (.i 0)).cell 0).toS ((w1.getD w5.toNat (.i 0)).cell 1).toI ((w1.getD w5.toNat (.i 0)).cell 2).toI ((w1.getD w5.toNat (.i 0)).cell 3).items ((w1.getD w5.toNat (.i 0)).cell 4).items ((w1.getD w5.toNat (.i 0)).cell 5).items ((w3.getD w5.toNat (.i 0)).cell 0).toS ((w3.getD w5.toNat (.i 0)).cell 1).toI ((w3.getD w5.toNat (.i 0)).cell 2).toI ((w3.getD w5.toNat (.i 0)).cell 3).items ((w3.getD w5.toNat (.i 0)).cell 4).items ((w3.getD w5.toNat (.i 0)).cell 5).items) fun y0 =>
        bif y0.isSome then
          bif (!(y0.getD default)) then
            k0 ()
          else
            kr (IntKind.wrap .i64 (w5 + 1))
        else
          none
      else
        none
    else
      none
  else
    k1 ()
noncomputable def L19x0x12 (N : Nat) {R : Type} (w1 w3 : LD) (w4 : Int) : Nat → Int → (Unit → Option R) → (Unit → Option R) → Option R
  | 0, _, _, _ => none
  | m + 1, w5, k0, k1 => S19x0x12 N w1 w3 w4 w5 (fun w5 => L19x0x12 N w1 w3 w4 m w5 k0 k1) k0 k1
noncomputable def G19x0x12 (w1 w3 : LD) (w4 : Int) (w5 : Int) : Option (Sum (Unit) (Unit)) := L19x0x12 N (R := (Sum (Unit) (Unit))) w1 w3 w4 N w5 (fun p => some (.inl p)) (fun p => some (.inr p))
noncomputable def J19x0x12 (L x : List Lf) (kr : List Lf → Option R) (k0 : Unit → Option R) (k1 : Unit → Option R) : Option R := S19x0x12 N (ll L 1) (ll L 3) (li L 4) (li x 0) (fun w5 => kr [.i w5]) k0 k1
theorem sb19x0x12 (L x : List Lf) (kr : List Lf → Option R) (k0 : Unit → Option R) (k1 : Unit → Option R) : J19x0x12 N L x kr k0 k1 = (J19x0x12 N L x (fun y => some (.inl y)) (fun p => some (.inr (.inl p))) (fun p => some (.inr (.inr p)))).bind (sumE kr (sumE k0 k1)) := by
  unfold J19x0x12 S19x0x12
  repeat' (first | with_reducible apply cond_b | (with_reducible apply bnd_b; intro _) | rfl)
noncomputable def Q19x0x12 (L : List Lf) (m : Nat) (x : List Lf) : Option (Sum (Unit) (Unit)) := L19x0x12 N (R := (Sum (Unit) (Unit))) (ll L 1) (ll L 3) (li L 4) m (li x 0) (fun p => some (.inl p)) (fun p => some (.inr p))
noncomputable def sh19x0x12 : Sh := { tmps := [(0, .c (.sl 29)), (1, .c (.sl 29)), (12, .c (.i .i64)), (13, .c (.i .i64))], mem := [] }
noncomputable def A19x0x12 (L : List Lf) : List (Bool × (Ex × St)) := bnd (Q19x0x12 N L N (pk sh19x0x12 [5] L)) fun q => [((inlB q), (.ret, ⟨[(4, .c (.b false))], []⟩)), ((inrQ q).isSome, ((.exit 0), ⟨[], []⟩))]
theorem step19x0x12 (m : Nat) (kn : St → Option (Ex × St)) (L x : List Lf) : lpB Try.prog (T51x0 N) (h19x0s0 N).h 0 19 12 sh19x0x12 [5] [4] [] (m + 100) kn L x = J19x0x12 N L x (fun y => kn (ofSh sh19x0x12 (mx sh19x0x12 [5] L y))) (fun _ => some (.ret, ⟨[(4, .c (.b false))], []⟩)) (fun _ => some ((.exit 0), ⟨[], []⟩)) := by kernel_rfl
theorem ql19x0x12 (L : List Lf) (m : Nat) (x : List Lf) : Q19x0x12 N L (m + 1) x = J19x0x12 N L x (Q19x0x12 N L m) (fun p => some (.inl p)) (fun p => some (.inr p)) := by kernel_rfl
noncomputable def h19x0s1 : Sg Try.prog 0 19 :=
  (h19x0s0 N).lp (A19x0x12 N) N progOk (T51x0_ok N) (fun m kn L x => (step19x0x12 N m kn L x).trans (sb19x0x12 N L x _ _ _)) (fun L m x => (ql19x0x12 N L m x).trans (sb19x0x12 N L x (Q19x0x12 N L m) (fun p => some (.inl p)) (fun p => some (.inr p)))) fun L x hx => (altS alt1) x hx
noncomputable def F19x0 (v1 v3 : LD) (k0 : Bool → Option R) : Option R :=
  bif ((v1.length : Int) != (v3.length : Int)) then
    k0 false
  else
    bnd (G19x0x12 N v1 v3 (v1.length : Int) 0) fun y0 =>
    bif (inlB y0) then
      k0 false
    else
      bif (inrQ y0).isSome then
        k0 true
      else
        none
noncomputable def G19x0 (v1 v3 : LD) : Option (Bool) := F19x0 N v1 v3 (fun p => some p)
theorem bind19x0 (v1 v3 : LD) (k0 : Bool → Option R) : F19x0 N v1 v3 k0 = (G19x0 N v1 v3).bind k0 := by
  unfold G19x0 F19x0
  repeat' (first | with_reducible apply cond_b | (with_reducible apply bnd_b; intro _) | rfl)
noncomputable def sh19x0 : Sh := { tmps := [(0, .c (.sl 29)), (1, .c (.sl 29))], mem := [] }
noncomputable def A19x0 (L : List Lf) : List (Bool × Res) := bnd (F19x0 N (ll L 1) (ll L 3) (fun p => some p)) fun q => [(q.isSome, ([.c (.b (q.getD default))], []))]
theorem raw19x0 (L : List Lf) : bd Try.prog (T51x0 N) (h19x0s1 N).h 19 sh19x0 L = F19x0 N (ll L 1) (ll L 3) (fun p => some ([.c (.b p)], [])) := by kernel_rfl
theorem ok19x0 : FnOk Try.prog 19 sh19x0 (A19x0 N) :=
  (h19x0s1 N).fn progOk (T51x0_ok N) fun L x hx => ((raw19x0 N L).trans ((bind19x0 N ..).trans (alt1 x hx)))
noncomputable def T19x0 : Oracle := ext 19 (spSh sh19x0 (A19x0 N)) (T51x0 N)
theorem T19x0_ok : OracleOk Try.prog (T19x0 N) := FnOk.to (ok19x0 N) (T51x0_ok N)
noncomputable def rg12x0 : List (Nat × List Nat) := [(0, []), (1, []), (2, [1]), (3, [1, 2]), (4, [4, 3])]
noncomputable def hd12x0 : Hints := []
noncomputable def h12x0s0 (N : Nat) : Sg Try.prog 0 12 := .start hd12x0 rg12x0
noncomputable def F12x0 (k0 : Bool → Option R) : Option R :=
  bnd (G13x0 N [(.a [(.i 2), (.i 1), (.i 0), (.i 0), (.i 10), (.i 0), (.i 0), (.i 0), (.s ([] : List UInt8))])] 2 ([109] : List UInt8) 1 0 false [(.a [(.i 0), (.i 0), (.i 0), (.i 0), (.i (-1)), (.i (-1)), (.i (-1))]), (.a [(.i 10), (.i 100), (.i 0), (.i 0), (.i (-1)), (.i (-1)), (.i (-1))])] true [] true []) fun y0 =>
  bif y0.isSome then
    bnd (bif ((y0.getD default).2.2 == 0) then (((y0.getD default).2.1.length : Int) == 1) else false) fun y1 =>
    bif (bif (inB 0 (y0.getD default).2.1.length) then true else (!(y1 == true))) then
      bnd (bif y1 then ((((y0.getD default).2.1.getD 0 (.i 0)).cell 2).toI == 10) else false) fun y2 =>
      bif (bif (inB 0 (y0.getD default).2.1.length) then true else (!(y2 == true))) then
        bnd (bif y2 then (((((y0.getD default).2.1.getD 0 (.i 0)).cell 3).items.length : Int) == 1) else false) fun y3 =>
        bif (bif (inB 0 (y0.getD default).2.1.length) then true else (!(y3 == true))) then
          bif (bif (inB 0 (((y0.getD default).2.1.getD 0 (.i 0)).cell 3).items.length) then true else (!(y3 == true))) then
            bnd (bif y3 then ((((((y0.getD default).2.1.getD 0 (.i 0)).cell 3).items.getD 0 (.i 0)).cell 1).toI == 100) else false) fun y4 =>
            k0 y4
          else
            none
        else
          none
      else
        none
    else
      none
  else
    none
noncomputable def G12x0 : Option (Bool) := F12x0 N (fun p => some p)
theorem bind12x0 (k0 : Bool → Option R) : F12x0 N k0 = (G12x0 N).bind k0 := by
  unfold G12x0 F12x0
  repeat' (first | with_reducible apply cond_b | (with_reducible apply bnd_b; intro _) | rfl)
noncomputable def sh12x0 : Sh := { tmps := [], mem := [] }
noncomputable def A12x0 (L : List Lf) : List (Bool × Res) := bnd (F12x0 N (fun p => some p)) fun q => [(q.isSome, ([.c (.b (q.getD default))], []))]
theorem raw12x0 (L : List Lf) : bd Try.prog (T19x0 N) (h12x0s0 N).h 12 sh12x0 L = F12x0 N (fun p => some ([.c (.b p)], [])) := by kernel_rfl
theorem ok12x0 : FnOk Try.prog 12 sh12x0 (A12x0 N) :=
  (h12x0s0 N).fn progOk (T19x0_ok N) fun L x hx => ((raw12x0 N L).trans ((bind12x0 N ..).trans (alt1 x hx)))
noncomputable def T12x0 : Oracle := ext 12 (spSh sh12x0 (A12x0 N)) (T19x0 N)
theorem T12x0_ok : OracleOk Try.prog (T12x0 N) := FnOk.to (ok12x0 N) (T19x0_ok N)
noncomputable def rg4x0 : List (Nat × List Nat) := [(0, [0, 2, 1]), (1, [3, 1, 5]), (2, [3, 1, 5, 7, 8, 9]), (3, [3, 1, 5, 7, 10, 8, 11, 9, 12]), (4, [3, 1, 5, 7, 10, 8, 11, 9, 12, 13, 14]), (5, [7, 10, 8, 11, 9, 12, 13, 15, 14, 16])]
noncomputable def hd4x0 : Hints := [(16, [7, 10, 8, 11, 9, 12, 13, 15, 14, 16], [], [])]
noncomputable def h4x0s0 (N : Nat) : Sg Try.prog 0 4 := .start hd4x0 rg4x0
noncomputable def F4x0x16 (w1 : LD) (w2 : Bool) (w3 : Int) (w5 : LD) (w6 : Bool) (w7 : Int) (w9 : LD) (w10 : Int) (w12 : LD) (w13 : Int) (k0 : Bool → Option R) : Option R :=
  bnd (G18x0 N w1 w5) fun y0 =>
  bif y0.isSome then
    bnd (bif (bif (y0.getD default) then (w2 == w6) else false) then (w3 == w7) else false) fun y1 =>
    bif y1 then
      bnd (G19x0 N w9 w12) fun y2 =>
      bif y2.isSome then
        bif (bif (y2.getD default) then (w10 == w13) else false) then
          bnd (G12x0 N) fun y3 =>
          bif y3.isSome then
            k0 (y3.getD default)
          else
            none
        else
          k0 false
      else
        none
    else
      k0 false
  else
    none
noncomputable def G4x0x16 (w1 : LD) (w2 : Bool) (w3 : Int) (w5 : LD) (w6 : Bool) (w7 : Int) (w9 : LD) (w10 : Int) (w12 : LD) (w13 : Int) : Option (Bool) := F4x0x16 N w1 w2 w3 w5 w6 w7 w9 w10 w12 w13 (fun p => some p)
theorem bind4x0x16 (w1 : LD) (w2 : Bool) (w3 : Int) (w5 : LD) (w6 : Bool) (w7 : Int) (w9 : LD) (w10 : Int) (w12 : LD) (w13 : Int) (k0 : Bool → Option R) : F4x0x16 N w1 w2 w3 w5 w6 w7 w9 w10 w12 w13 k0 = (G4x0x16 N w1 w2 w3 w5 w6 w7 w9 w10 w12 w13).bind k0 := by
  unfold G4x0x16 F4x0x16
  repeat' (first | with_reducible apply cond_b | (with_reducible apply bnd_b; intro _) | rfl)
noncomputable def J4x0x16 (L : List Lf) (k0 : Bool → Option R) : Option R := F4x0x16 N (ll L 1) (lb L 2) (li L 3) (ll L 5) (lb L 6) (li L 7) (ll L 9) (li L 10) (ll L 12) (li L 13) k0
noncomputable def sh4x0x16 : Sh := { tmps := [(7, .c (.sl 4)), (8, .c (.b)), (9, .c (.i .i64)), (10, .c (.sl 4)), (11, .c (.b)), (12, .c (.i .i64)), (13, .c (.sl 29)), (14, .c (.i .i64)), (15, .c (.sl 29)), (16, .c (.i .i64))], mem := [] }
noncomputable def A4x0x16 (L : List Lf) : List (Bool × (Ex × St)) := bnd (J4x0x16 N L (fun p => some p)) fun q => [(q.isSome, (.normal, ⟨[(6, .c (.b (q.getD default)))], []⟩))]
theorem raw4x0x16 (L : List Lf) : pc Try.prog (T12x0 N) (h4x0s0 N).h 0 100 4 16 sh4x0x16 L [6] [] = J4x0x16 N L (fun p => some (.normal, ⟨[(6, .c (.b p))], []⟩)) := by kernel_rfl
noncomputable def h4x0s1 : Sg Try.prog 0 4 :=
  (h4x0s0 N).cut (A4x0x16 N) progOk (T12x0_ok N) fun L x hx => (raw4x0x16 N L).trans ((bind4x0x16 N ..).trans (alt1 x hx))
noncomputable def F4x0 (v1 : LD) (v2 : Int) (v3 : LB) (v4 v5 : Int) (v6 : Bool) (v7 : LD) (v8 : Bool) (v9 : LD) (v10 : Bool) (v11 : LD) (k0 : Bool → Option R) : Option R :=
  bnd (G10x0 N v1 v2 v3 v4 v5 v6 v7 v8 v9 v10 v11) fun y0 =>
  bif y0.isSome then
    bnd (G11x0 N v1 v2 v3 v4 v5 v6 v7 v8 v9 v10 v11) fun y1 =>
    bif y1.isSome then
      bnd (G13x0 N v1 v2 v3 v4 v5 v6 v7 v8 v9 v10 v11) fun y2 =>
      bif y2.isSome then
        bnd (G17x0 N v1 v2 v3 v4 v5 v6 v7 v8 v9 v10 v11) fun y3 =>
        bif y3.isSome then
          bnd (G4x0x16 N (y0.getD default).2.1 (y0.getD default).2.2.1 (y0.getD default).2.2.2 (y1.getD default).2.1 (y1.getD default).2.2.1 (y1.getD default).2.2.2 (y2.getD default).2.1 (y2.getD default).2.2 (y3.getD default).2.1 (y3.getD default).2.2) fun y4 =>
          bif y4.isSome then
            k0 (y4.getD default)
          else
            none
        else
          none
      else
        none
    else
      none
  else
    none
noncomputable def G4x0 (v1 : LD) (v2 : Int) (v3 : LB) (v4 v5 : Int) (v6 : Bool) (v7 : LD) (v8 : Bool) (v9 : LD) (v10 : Bool) (v11 : LD) : Option (Bool) := F4x0 N v1 v2 v3 v4 v5 v6 v7 v8 v9 v10 v11 (fun p => some p)
theorem bind4x0 (v1 : LD) (v2 : Int) (v3 : LB) (v4 v5 : Int) (v6 : Bool) (v7 : LD) (v8 : Bool) (v9 : LD) (v10 : Bool) (v11 : LD) (k0 : Bool → Option R) : F4x0 N v1 v2 v3 v4 v5 v6 v7 v8 v9 v10 v11 k0 = (G4x0 N v1 v2 v3 v4 v5 v6 v7 v8 v9 v10 v11).bind k0 := by
  unfold G4x0 F4x0
  repeat' (first | with_reducible apply cond_b | (with_reducible apply bnd_b; intro _) | rfl)
noncomputable def J4x0 (L : List Lf) (k0 : Bool → Option R) : Option R := F4x0 N (ll L 1) (li L 2) (ls L 3) (li L 4) (li L 5) (lb L 6) (ll L 7) (lb L 8) (ll L 9) (lb L 10) (ll L 11) k0
noncomputable def sh4x0 : Sh := { tmps := [(0, .g ([.sl 70])), (1, .c (.i .i64)), (2, .g (.s :: [.i .i64, .i .i64, .sl 48, .sl 111, .sl 9]))], mem := [] }
noncomputable def A4x0 (L : List Lf) : List (Bool × Res) := bnd (J4x0 N L (fun p => some p)) fun q => [(q.isSome, ([.c (.b (q.getD default))], []))]
theorem raw4x0 (L : List Lf) : bd Try.prog (T12x0 N) (h4x0s1 N).h 4 sh4x0 L = J4x0 N L (fun p => some ([.c (.b p)], [])) := by kernel_rfl
theorem ok4x0 : FnOk Try.prog 4 sh4x0 (A4x0 N) :=
  (h4x0s1 N).fn progOk (T12x0_ok N) fun L x hx => ((raw4x0 N L).trans ((bind4x0 N ..).trans (alt1 x hx)))
noncomputable def T4x0 : Oracle := ext 4 (spSh sh4x0 (A4x0 N)) (T12x0 N)
theorem T4x0_ok : OracleOk Try.prog (T4x0 N) := FnOk.to (ok4x0 N) (T12x0_ok N)
end Go.Proofs.Ytngnemeafkmaoaa
