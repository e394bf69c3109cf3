/- Functions of the program as plain Lean definitions, each with the proof that the program computes it. No condition. Printed by a program of the prover, part 2. -/
import Derived.Test.YtngnemeafkmaoaaVPp1
import Derived.KernelRfl
set_option linter.all false
set_option maxRecDepth 100000
namespace Go.Proofs.Ytngnemeafkmaoaa
open Go Go.AM
variable (N : Nat) {R : Type}
noncomputable def S94x0x51 (w0 : Int) (w2 : LD) (w3 : Int) (w13 : Bool) (w28 : (List (D × D))) (w4 : Int) (w31 : Bool) (w32 : LD) (kr : Int → Bool → LD → Option R) (k0 : Bool × LD → Option R) : Option R :=
  bif (decide (w4 < w3)) then
    bif (inB w4 w2.length) then
      bnd ((findB Try.prog 3 (.i ((w2.getD w4.toNat (.i 0)).cell 0).toI) w28).getD (.b false)).toB fun y0 =>
      bnd (bif (!y0) then true else (!((findB Try.prog 3 (.i ((w2.getD w4.toNat (.i 0)).cell 1).toI) w28).getD (.b false)).toB)) fun y1 =>
      bif y1 then
        kr (IntKind.wrap .i64 (w4 + 1)) w31 w32
      else
        bnd (IntKind.wrap .i64 (((w2.getD w4.toNat (.i 0)).cell 0).toI - w0)) fun y2 =>
        bnd (IntKind.wrap .i64 (((w2.getD w4.toNat (.i 0)).cell 1).toI - w0)) fun y3 =>
        bnd (V94x0x68 N w13 ((w2.getD w4.toNat (.i 0)).cell 2).toS) fun y4 =>
        bif (decide ((w32.length + 1) * 32 ≤ room) && decide ((w32.length + 1) ≤ strMax)) then
          bnd ((w32 ++ [(.a [(.i y2), (.i y3), (.s y4)])]) : List D) fun y5 =>
          kr (IntKind.wrap .i64 (w4 + 1)) false y5
        else
          none
    else
      none
  else
    k0 (w31, w32)
noncomputable def L94x0x51 (N : Nat) {R : Type} (w0 : Int) (w2 : LD) (w3 : Int) (w13 : Bool) (w28 : (List (D × D))) : Nat → Int → Bool → LD → (Bool × LD → Option R) → Option R
  | 0, _, _, _, _ => none
  | m + 1, w4, w31, w32, k0 => S94x0x51 N w0 w2 w3 w13 w28 w4 w31 w32 (fun w4 w31 w32 => L94x0x51 N w0 w2 w3 w13 w28 m w4 w31 w32 k0) k0
noncomputable def G94x0x51 (w0 : Int) (w2 : LD) (w3 : Int) (w13 : Bool) (w28 : (List (D × D))) (w4 : Int) (w31 : Bool) (w32 : LD) : Option (Bool × LD) := L94x0x51 N (R := (Bool × LD)) w0 w2 w3 w13 w28 N w4 w31 w32 (fun p => some p)
noncomputable def J94x0x51 (L x : List Lf) (kr : List Lf → Option R) (k0 : Bool × LD → Option R) : Option R := S94x0x51 N (li L 0) (ll L 2) (li L 3) (lb L 13) (lm L 28) (li x 0) (lb x 1) (ll x 2) (fun w4 w31 w32 => kr [.i w4, .b w31, .l w32]) k0
theorem sb94x0x51 (L x : List Lf) (kr : List Lf → Option R) (k0 : Bool × LD → Option R) : J94x0x51 N L x kr k0 = (J94x0x51 N L x (fun y => some (.inl y)) (fun p => some (.inr p))).bind (sumE kr k0) := by
  unfold J94x0x51 S94x0x51
  repeat' (first | with_reducible apply cond_b | (with_reducible apply bnd_b; intro _) | rfl)
noncomputable def Q94x0x51 (L : List Lf) (m : Nat) (x : List Lf) : Option (Bool × LD) := L94x0x51 N (R := (Bool × LD)) (li L 0) (ll L 2) (li L 3) (lb L 13) (lm L 28) m (li x 0) (lb x 1) (ll x 2) (fun p => some p)
noncomputable def sh94x0x51 : Sh := { tmps := [(3, .c (.p 3 0)), (6, .c (.p 6 0)), (7, .c (.i .i64)), (8, .c (.p 8 0)), (9, .c (.m 40)), (66, .c (.sl 111)), (67, .c (.i .i64)), (68, .c (.i .i64))], mem := [(3, .box (rB 5 ([.sl 3, .b, .b]))), (6, .box (.s :: [.i .i64, .i .i64, .sl 48, .sl 111, .sl 9])), (8, .box (.s :: [.i .i64, .i .i64, .o 50008003, .o 50008004, .sl 9])), (40, .map 3 4), (50008003, .row 48 true), (50008004, .row 111 true)] }
noncomputable def K94x0x51w0 (L : List Lf) (p : Bool × LD) : Ex × St := ((.exit 2), mg (ofSh sh94x0x51 L) [6, 8] [] [6, 8, 50008003, 50008004] [(50008004, .row 111 true p.1 p.2)])
noncomputable def A94x0x51 (L : List Lf) : List (Bool × (Ex × St)) := bnd (Q94x0x51 N L N (pk sh94x0x51 [4, 31, 32] L)) fun q => [(q.isSome, K94x0x51w0 L (q.getD default))]
theorem step94x0x51 (m : Nat) (kn : St → Option (Ex × St)) (L x : List Lf) : lpB Try.prog (T100x0 N) (h94x0s5 N).h 0 94 51 sh94x0x51 [4, 31, 32] [6, 8] [50008004, 50008003, 8, 6] (m + 100) kn L x = J94x0x51 N L x (fun y => kn (ofSh sh94x0x51 (mx sh94x0x51 [4, 31, 32] L y))) (fun p => some (K94x0x51w0 L p)) := by kernel_rfl
theorem ql94x0x51 (L : List Lf) (m : Nat) (x : List Lf) : Q94x0x51 N L (m + 1) x = J94x0x51 N L x (Q94x0x51 N L m) some := by kernel_rfl
noncomputable def h94x0s6 : Sg Try.prog 0 94 :=
  (h94x0s5 N).lp (A94x0x51 N) N progOk (T100x0_ok N) (fun m kn L x => (step94x0x51 N m kn L x).trans (sb94x0x51 N L x _ _)) (fun L m x => (ql94x0x51 N L m x).trans (sb94x0x51 N L x (Q94x0x51 N L m) some)) fun L x hx => alt1 x hx
noncomputable def F94x0x14b (N : Nat) (w3 : Bool) (k0 : LB → Option R) (k1 : Unit → Option R) : Option R :=
  bif w3 then
    k0 ([97, 99, 116, 105, 118, 105, 116, 121] : List UInt8)
  else
    k1 ()
noncomputable def G94x0x14b (w3 : Bool) : Option (Sum (LB) (Unit)) := F94x0x14b N w3 (fun p => some (.inl p)) (fun p => some (.inr p))
theorem bind94x0x14b (w3 : Bool) (k0 : LB → Option R) (k1 : Unit → Option R) : F94x0x14b N w3 k0 k1 = (G94x0x14b N w3).bind (sumE k0 k1) := by
  unfold G94x0x14b F94x0x14b
  repeat' (first | with_reducible apply cond_b | (with_reducible apply bnd_b; intro _) | rfl)
noncomputable def sh94x0x14b : Sh := { tmps := [(2, .c (.sl 48)), (3, .c (.p 3 0)), (4, .c (.p 4 0)), (6, .c (.p 6 0)), (7, .c (.i .i64)), (8, .c (.p 8 0)), (31, .c (.b))], mem := [(3, .box (rB 5 ([.sl 3, .b, .b]))), (4, .box (.s :: [.i .i64, .i .i64, .sl 48, .sl 111, .sl 9])), (6, .box (.s :: [.i .i64, .i .i64, .sl 48, .sl 111, .sl 9])), (8, .box (.s :: [.i .i64, .i .i64, .sl 48, .sl 111, .o 29000000007])), (29000000007, .row 9 true)] }
noncomputable def K94x0x14bw0 (L : List Lf) (p : LB) : Ex × St := (.normal, mg (ofSh sh94x0x14b L) [2, 3, 4, 6, 7, 8] [] [3, 4, 6, 8, 29000000007] [(8, .box [.s p, .i .i64 (li L 32), .i .i64 (li L 33), .sl 48 (lb L 34) (ll L 35), .sl 111 (lb L 36) (ll L 37), .sl 9 true []])])
noncomputable def K94x0x14bw1 (L : List Lf) (_ : Unit) : Ex × St := (.normal, mg (ofSh sh94x0x14b L) [2, 3, 4, 6, 7, 8] [] [3, 4, 6, 8, 29000000007] [])
noncomputable def A94x0x14b (L : List Lf) : List (Bool × (Ex × St)) := bnd (F94x0x14b N (lb L 3) (fun p => some (.inl p)) (fun p => some (.inr p))) fun q => [((inlB q), K94x0x14bw0 L (inlV q)), ((inrQ q).isSome, K94x0x14bw1 L ())]
theorem raw94x0x14b (L : List Lf) : pc Try.prog (T100x0 N) ((h94x0s6 N).no 14).h 0 100 94 14 sh94x0x14b L [3, 8, 2, 7, 4, 6] [8, 6, 4, 3, 29000000007] = F94x0x14b N (lb L 3) (fun p => some (K94x0x14bw0 L p)) (fun _ => some (K94x0x14bw1 L ())) := by kernel_rfl
noncomputable def h94x0s7 : Sg Try.prog 0 94 :=
  (h94x0s6 N).add (((h94x0s6 N).no 14).cut (A94x0x14b N) progOk (T100x0_ok N) fun L x hx => (raw94x0x14b N L).trans ((bind94x0x14b N ..).trans ((altS alt1) x hx))) 14
noncomputable def F94x0x20b (w3 : Bool) (w33 : Int) (k0 : Int → Option R) : Option R :=
  bif w3 then
    bnd (G99x0 N w33 86400) fun y0 =>
    bif y0.isSome then
      k0 (y0.getD default)
    else
      none
  else
    k0 w33
noncomputable def G94x0x20b (w3 : Bool) (w33 : Int) : Option (Int) := F94x0x20b N w3 w33 (fun p => some p)
theorem bind94x0x20b (w3 : Bool) (w33 : Int) (k0 : Int → Option R) : F94x0x20b N w3 w33 k0 = (G94x0x20b N w3 w33).bind k0 := by
  unfold G94x0x20b F94x0x20b
  repeat' (first | with_reducible apply cond_b | (with_reducible apply bnd_b; intro _) | rfl)
noncomputable def sh94x0x20b : Sh := { tmps := [(2, .c (.sl 48)), (3, .c (.p 3 0)), (4, .c (.p 4 0)), (6, .c (.p 6 0)), (7, .c (.i .i64)), (8, .c (.p 8 0)), (35, .c (.b))], mem := [(3, .box (rB 5 ([.sl 3, .b, .b]))), (4, .box (.s :: [.i .i64, .i .i64, .sl 48, .sl 111, .sl 9])), (6, .box (.s :: [.i .i64, .i .i64, .sl 48, .sl 111, .sl 9])), (8, .box (.s :: [.i .i64, .i .i64, .sl 48, .sl 111, .sl 9])), (29000000007, .row 9 true)] }
noncomputable def K94x0x20bw0 (L : List Lf) (p : Int) : Ex × St := (.normal, mg (ofSh sh94x0x20b L) [2, 3, 4, 6, 7, 8] [] [3, 4, 6, 8] [(8, .box [.s (ls L 31), .i .i64 (li L 32), .i .i64 p, .sl 48 (lb L 34) (ll L 35), .sl 111 (lb L 36) (ll L 37), .sl 9 (lb L 38) (ll L 39)])])
noncomputable def A94x0x20b (L : List Lf) : List (Bool × (Ex × St)) := bnd (F94x0x20b N (lb L 3) (li L 33) (fun p => some p)) fun q => [(q.isSome, K94x0x20bw0 L (q.getD default))]
theorem raw94x0x20b (L : List Lf) : pc Try.prog (T100x0 N) ((h94x0s7 N).no 20).h 0 100 94 20 sh94x0x20b L [2, 3, 7, 8, 4, 6] [8, 6, 4, 3] = F94x0x20b N (lb L 3) (li L 33) (fun p => some (K94x0x20bw0 L p)) := by kernel_rfl
noncomputable def h94x0s8 : Sg Try.prog 0 94 :=
  (h94x0s7 N).add (((h94x0s7 N).no 20).cut (A94x0x20b N) progOk (T100x0_ok N) fun L x hx => (raw94x0x20b N L).trans ((bind94x0x20b N ..).trans (alt1 x hx))) 20
noncomputable def F94x0x20bb (w3 : Bool) (w33 : Int) (k0 : Int → Option R) : Option R :=
  bif w3 then
    bnd (G99x0 N w33 86400) fun y0 =>
    bif y0.isSome then
      k0 (y0.getD default)
    else
      none
  else
    k0 w33
noncomputable def G94x0x20bb (w3 : Bool) (w33 : Int) : Option (Int) := F94x0x20bb N w3 w33 (fun p => some p)
theorem bind94x0x20bb (w3 : Bool) (w33 : Int) (k0 : Int → Option R) : F94x0x20bb N w3 w33 k0 = (G94x0x20bb N w3 w33).bind k0 := by
  unfold G94x0x20bb F94x0x20bb
  repeat' (first | with_reducible apply cond_b | (with_reducible apply bnd_b; intro _) | rfl)
noncomputable def sh94x0x20bb : Sh := { tmps := [(2, .c (.sl 48)), (3, .c (.p 3 0)), (4, .c (.p 4 0)), (6, .c (.p 6 0)), (7, .c (.i .i64)), (8, .c (.p 8 0)), (35, .c (.b))], mem := [(3, .box (rB 5 ([.sl 3, .b, .b]))), (4, .box (.s :: [.i .i64, .i .i64, .sl 48, .sl 111, .sl 9])), (6, .box (.s :: [.i .i64, .i .i64, .sl 48, .sl 111, .sl 9])), (8, .box (.s :: [.i .i64, .i .i64, .sl 48, .sl 111, .o 29000000007])), (29000000007, .row 9 true)] }
noncomputable def K94x0x20bbw0 (L : List Lf) (p : Int) : Ex × St := (.normal, mg (ofSh sh94x0x20bb L) [2, 3, 4, 6, 7, 8] [] [3, 4, 6, 8, 29000000007] [(8, .box [.s (ls L 31), .i .i64 (li L 32), .i .i64 p, .sl 48 (lb L 34) (ll L 35), .sl 111 (lb L 36) (ll L 37), .o 29000000007])])
noncomputable def A94x0x20bb (L : List Lf) : List (Bool × (Ex × St)) := bnd (F94x0x20bb N (lb L 3) (li L 33) (fun p => some p)) fun q => [(q.isSome, K94x0x20bbw0 L (q.getD default))]
theorem raw94x0x20bb (L : List Lf) : pc Try.prog (T100x0 N) ((h94x0s8 N).no 20).h 0 100 94 20 sh94x0x20bb L [2, 3, 7, 8, 4, 6] [29000000007, 8, 6, 4, 3] = F94x0x20bb N (lb L 3) (li L 33) (fun p => some (K94x0x20bbw0 L p)) := by kernel_rfl
noncomputable def h94x0s9 : Sg Try.prog 0 94 :=
  (h94x0s8 N).add (((h94x0s8 N).no 20).cut (A94x0x20bb N) progOk (T100x0_ok N) fun L x hx => (raw94x0x20bb N L).trans ((bind94x0x20bb N ..).trans (alt1 x hx))) 20
noncomputable def S94x0x27b (w0 : Int) (w2 : LD) (w3 : Int) (w6 w7 w8 w9 : Bool) (w11 : LD) (w4 : Int) (w35 : (List (D × D))) (w36 : Bool) (w37 : LD) (kr : Int → (List (D × D)) → Bool → LD → Option R) (k0 : Ty6 → Option R) : Option R :=
  bif (decide (w4 < w3)) then
    bif (inB w4 w2.length) then
      bnd (putB Try.prog 3 (.i ((w2.getD w4.toNat (.i 0)).cell 0).toI) (.b true) w35) fun y0 =>
      bnd (G100x0 N w6 w7 w8 w9 w11 ((w2.getD w4.toNat (.i 0)).cell 1).toI ((w2.getD w4.toNat (.i 0)).cell 2).toI ((w2.getD w4.toNat (.i 0)).cell 3).toI ((w2.getD w4.toNat (.i 0)).cell 4).toI ((w2.getD w4.toNat (.i 0)).cell 5).toI ((w2.getD w4.toNat (.i 0)).cell 6).toI) fun y1 =>
      bif y1.isSome then
        bnd (IntKind.wrap .i64 (((w2.getD w4.toNat (.i 0)).cell 0).toI - w0)) fun y2 =>
        bif (decide ((w37.length + 1) * 56 ≤ room) && decide ((w37.length + 1) ≤ strMax)) then
          bnd ((w37 ++ [(.a [(.i y2), (.i (y1.getD default).1), (.i (y1.getD default).2.1), (.i (y1.getD default).2.2.1), (.i (y1.getD default).2.2.2.1), (.i (y1.getD default).2.2.2.2.1), (.i (y1.getD default).2.2.2.2.2)])]) : List D) fun y3 =>
          kr (IntKind.wrap .i64 (w4 + 1)) y0 false y3
        else
          none
      else
        none
    else
      none
  else
    k0 (w35, w36, w37)
noncomputable def L94x0x27b (N : Nat) {R : Type} (w0 : Int) (w2 : LD) (w3 : Int) (w6 w7 w8 w9 : Bool) (w11 : LD) : Nat → Int → (List (D × D)) → Bool → LD → (Ty6 → Option R) → Option R
  | 0, _, _, _, _, _ => none
  | m + 1, w4, w35, w36, w37, k0 => S94x0x27b N w0 w2 w3 w6 w7 w8 w9 w11 w4 w35 w36 w37 (fun w4 w35 w36 w37 => L94x0x27b N w0 w2 w3 w6 w7 w8 w9 w11 m w4 w35 w36 w37 k0) k0
noncomputable def G94x0x27b (w0 : Int) (w2 : LD) (w3 : Int) (w6 w7 w8 w9 : Bool) (w11 : LD) (w4 : Int) (w35 : (List (D × D))) (w36 : Bool) (w37 : LD) : Option (Ty6) := L94x0x27b N (R := (Ty6)) w0 w2 w3 w6 w7 w8 w9 w11 N w4 w35 w36 w37 (fun p => some p)
noncomputable def J94x0x27b (L x : List Lf) (kr : List Lf → Option R) (k0 : Ty6 → Option R) : Option R := S94x0x27b N (li L 0) (ll L 2) (li L 3) (lb L 6) (lb L 7) (lb L 8) (lb L 9) (ll L 11) (li x 0) (lm x 1) (lb x 2) (ll x 3) (fun w4 w35 w36 w37 => kr [.i w4, .m w35, .b w36, .l w37]) k0
theorem sb94x0x27b (L x : List Lf) (kr : List Lf → Option R) (k0 : Ty6 → Option R) : J94x0x27b N L x kr k0 = (J94x0x27b N L x (fun y => some (.inl y)) (fun p => some (.inr p))).bind (sumE kr k0) := by
  unfold J94x0x27b S94x0x27b
  repeat' (first | with_reducible apply cond_b | (with_reducible apply bnd_b; intro _) | rfl)
noncomputable def Q94x0x27b (L : List Lf) (m : Nat) (x : List Lf) : Option (Ty6) := L94x0x27b N (R := (Ty6)) (li L 0) (ll L 2) (li L 3) (lb L 6) (lb L 7) (lb L 8) (lb L 9) (ll L 11) m (li x 0) (lm x 1) (lb x 2) (ll x 3) (fun p => some p)
noncomputable def sh94x0x27b : Sh := { tmps := [(3, .c (.p 3 0)), (4, .c (.p 4 0)), (6, .c (.p 6 0)), (7, .c (.i .i64)), (8, .c (.p 8 0)), (9, .c (.m 40)), (41, .c (.sl 48)), (42, .c (.i .i64)), (43, .c (.i .i64))], mem := [(3, .box (rB 5 ([.sl 3, .b, .b]))), (4, .box (.s :: [.i .i64, .i .i64, .sl 48, .sl 111, .sl 9])), (6, .box (.s :: [.i .i64, .i .i64, .sl 48, .sl 111, .sl 9])), (8, .box (.s :: [.i .i64, .i .i64, .o 50008003, .o 50008004, .o 29000000007])), (40, .map 3 4), (50008003, .row 48 true), (50008004, .row 111 true), (29000000007, .row 9 true)] }
noncomputable def K94x0x27bw0 (L : List Lf) (p : Ty6) : Ex × St := ((.exit 0), mg (ofSh sh94x0x27b L) [3, 4, 6, 7, 8, 9] [] [3, 4, 6, 8, 40, 50008003, 50008004, 29000000007] [(40, .map 3 4 p.1), (50008003, .row 48 true p.2.1 p.2.2)])
noncomputable def A94x0x27b (L : List Lf) : List (Bool × (Ex × St)) := bnd (Q94x0x27b N L N (pk sh94x0x27b [4, 35, 36, 37] L)) fun q => [(q.isSome, K94x0x27bw0 L (q.getD default))]
theorem step94x0x27b (m : Nat) (kn : St → Option (Ex × St)) (L x : List Lf) : lpB Try.prog (T100x0 N) ((h94x0s9 N).no 27).h 0 94 27 sh94x0x27b [4, 35, 36, 37] [6, 4, 9, 7, 3, 8] [40, 29000000007, 50008004, 50008003, 8, 6, 4, 3] (m + 100) kn L x = J94x0x27b N L x (fun y => kn (ofSh sh94x0x27b (mx sh94x0x27b [4, 35, 36, 37] L y))) (fun p => some (K94x0x27bw0 L p)) := by kernel_rfl
theorem ql94x0x27b (L : List Lf) (m : Nat) (x : List Lf) : Q94x0x27b N L (m + 1) x = J94x0x27b N L x (Q94x0x27b N L m) some := by kernel_rfl
noncomputable def h94x0s10 : Sg Try.prog 0 94 :=
  (h94x0s9 N).add (((h94x0s9 N).no 27).lp (A94x0x27b N) N progOk (T100x0_ok N) (fun m kn L x => (step94x0x27b N m kn L x).trans (sb94x0x27b N L x _ _)) (fun L m x => (ql94x0x27b N L m x).trans (sb94x0x27b N L x (Q94x0x27b N L m) some)) fun L x hx => alt1 x hx) 27
noncomputable def F94x0x68b (N : Nat) (w5 : Bool) (w29 : LB) (k0 : LB → R) : R :=
  bif w5 then
    k0 ([] : List UInt8)
  else
    k0 w29
noncomputable def V94x0x68b (w5 : Bool) (w29 : LB) : LB := F94x0x68b N w5 w29 (fun p => p)
theorem tot94x0x68b (w5 : Bool) (w29 : LB) (k0 : LB → R) : F94x0x68b N w5 w29 k0 = k0 (V94x0x68b N w5 w29) := by
  unfold V94x0x68b F94x0x68b
  repeat' (first | rfl | apply cond_k | (apply bnd_k; intro _))
noncomputable def sh94x0x68b : Sh := { tmps := [(3, .c (.p 3 0)), (6, .c (.p 6 0)), (7, .c (.i .i64)), (8, .c (.p 8 0)), (9, .c (.m 40)), (13, .c (.p 13 0)), (66, .c (.sl 111)), (67, .c (.i .i64)), (68, .c (.i .i64)), (95, .c (.b))], mem := [(3, .box (rB 5 ([.sl 3, .b, .b]))), (6, .box (.s :: [.i .i64, .i .i64, .sl 48, .sl 111, .sl 9])), (8, .box (.s :: [.i .i64, .i .i64, .o 50008003, .o 50008004, .o 29000000007])), (13, .box ([.i .i64, .i .i64, .s])), (40, .map 3 4), (50008003, .row 48 true), (50008004, .row 111 true), (29000000007, .row 9 true)] }
noncomputable def K94x0x68bw0 (L : List Lf) (p : LB) : Ex × St := (.normal, mg (ofSh sh94x0x68b L) [3, 6, 7, 8, 9, 13, 66, 67, 68] [] [3, 6, 8, 13, 40, 50008003, 50008004, 29000000007] [(13, .box [.i .i64 (li L 27), .i .i64 (li L 28), .s p])])
noncomputable def A94x0x68b (L : List Lf) : List (Bool × (Ex × St)) := bnd (F94x0x68b N (lb L 5) (ls L 29) (fun p => p)) fun q => [(true, K94x0x68bw0 L q)]
theorem raw94x0x68b (L : List Lf) : pc Try.prog (T100x0 N) ((h94x0s10 N).no 68).h 0 100 94 68 sh94x0x68b L [8, 13, 68, 67, 66, 9, 7, 3, 6] [13, 40, 29000000007, 50008004, 50008003, 8, 6, 3] = F94x0x68b N (lb L 5) (ls L 29) (fun p => some (K94x0x68bw0 L p)) := by kernel_rfl
noncomputable def h94x0s11 : Sg Try.prog 0 94 :=
  (h94x0s10 N).add (((h94x0s10 N).no 68).cut (A94x0x68b N) progOk (T100x0_ok N) fun L x hx => (raw94x0x68b N L).trans ((tot94x0x68b N ..).trans (alt0 _ _ hx))) 68
noncomputable def S94x0x51b (w0 : Int) (w2 : LD) (w3 : Int) (w13 : Bool) (w26 : (List (D × D))) (w4 : Int) (w29 : Bool) (w30 : LD) (kr : Int → Bool → LD → Option R) (k0 : Bool × LD → Option R) : Option R :=
  bif (decide (w4 < w3)) then
    bif (inB w4 w2.length) then
      bnd ((findB Try.prog 3 (.i ((w2.getD w4.toNat (.i 0)).cell 0).toI) w26).getD (.b false)).toB fun y0 =>
      bnd (bif (!y0) then true else (!((findB Try.prog 3 (.i ((w2.getD w4.toNat (.i 0)).cell 1).toI) w26).getD (.b false)).toB)) fun y1 =>
      bif y1 then
        kr (IntKind.wrap .i64 (w4 + 1)) w29 w30
      else
        bnd (IntKind.wrap .i64 (((w2.getD w4.toNat (.i 0)).cell 0).toI - w0)) fun y2 =>
        bnd (IntKind.wrap .i64 (((w2.getD w4.toNat (.i 0)).cell 1).toI - w0)) fun y3 =>
        bnd (V94x0x68b N w13 ((w2.getD w4.toNat (.i 0)).cell 2).toS) fun y4 =>
        bif (decide ((w30.length + 1) * 32 ≤ room) && decide ((w30.length + 1) ≤ strMax)) then
          bnd ((w30 ++ [(.a [(.i y2), (.i y3), (.s y4)])]) : List D) fun y5 =>
          kr (IntKind.wrap .i64 (w4 + 1)) false y5
        else
          none
    else
      none
  else
    k0 (w29, w30)
noncomputable def L94x0x51b (N : Nat) {R : Type} (w0 : Int) (w2 : LD) (w3 : Int) (w13 : Bool) (w26 : (List (D × D))) : Nat → Int → Bool → LD → (Bool × LD → Option R) → Option R
  | 0, _, _, _, _ => none
  | m + 1, w4, w29, w30, k0 => S94x0x51b N w0 w2 w3 w13 w26 w4 w29 w30 (fun w4 w29 w30 => L94x0x51b N w0 w2 w3 w13 w26 m w4 w29 w30 k0) k0
noncomputable def G94x0x51b (w0 : Int) (w2 : LD) (w3 : Int) (w13 : Bool) (w26 : (List (D × D))) (w4 : Int) (w29 : Bool) (w30 : LD) : Option (Bool × LD) := L94x0x51b N (R := (Bool × LD)) w0 w2 w3 w13 w26 N w4 w29 w30 (fun p => some p)
noncomputable def J94x0x51b (L x : List Lf) (kr : List Lf → Option R) (k0 : Bool × LD → Option R) : Option R := S94x0x51b N (li L 0) (ll L 2) (li L 3) (lb L 13) (lm L 26) (li x 0) (lb x 1) (ll x 2) (fun w4 w29 w30 => kr [.i w4, .b w29, .l w30]) k0
theorem sb94x0x51b (L x : List Lf) (kr : List Lf → Option R) (k0 : Bool × LD → Option R) : J94x0x51b N L x kr k0 = (J94x0x51b N L x (fun y => some (.inl y)) (fun p => some (.inr p))).bind (sumE kr k0) := by
  unfold J94x0x51b S94x0x51b
  repeat' (first | with_reducible apply cond_b | (with_reducible apply bnd_b; intro _) | rfl)
noncomputable def Q94x0x51b (L : List Lf) (m : Nat) (x : List Lf) : Option (Bool × LD) := L94x0x51b N (R := (Bool × LD)) (li L 0) (ll L 2) (li L 3) (lb L 13) (lm L 26) m (li x 0) (lb x 1) (ll x 2) (fun p => some p)
noncomputable def sh94x0x51b : Sh := { tmps := [(3, .c (.p 3 0)), (6, .c (.p 6 0)), (7, .c (.i .i64)), (8, .c (.p 8 0)), (9, .c (.m 40)), (66, .c (.sl 111)), (67, .c (.i .i64)), (68, .c (.i .i64))], mem := [(3, .box (rB 5 ([.sl 3, .b, .b]))), (6, .box (.s :: [.i .i64, .i .i64, .sl 48, .sl 111, .sl 9])), (8, .box (.s :: [.i .i64, .i .i64, .o 50008003, .o 50008004, .o 29000000007])), (40, .map 3 4), (50008003, .row 48 true), (50008004, .row 111 true), (29000000007, .row 9 true)] }
noncomputable def K94x0x51bw0 (L : List Lf) (p : Bool × LD) : Ex × St := ((.exit 2), mg (ofSh sh94x0x51b L) [6, 8] [] [6, 8, 50008003, 50008004, 29000000007] [(50008004, .row 111 true p.1 p.2)])
noncomputable def A94x0x51b (L : List Lf) : List (Bool × (Ex × St)) := bnd (Q94x0x51b N L N (pk sh94x0x51b [4, 29, 30] L)) fun q => [(q.isSome, K94x0x51bw0 L (q.getD default))]
theorem step94x0x51b (m : Nat) (kn : St → Option (Ex × St)) (L x : List Lf) : lpB Try.prog (T100x0 N) ((h94x0s11 N).no 51).h 0 94 51 sh94x0x51b [4, 29, 30] [6, 8] [29000000007, 50008004, 50008003, 8, 6] (m + 100) kn L x = J94x0x51b N L x (fun y => kn (ofSh sh94x0x51b (mx sh94x0x51b [4, 29, 30] L y))) (fun p => some (K94x0x51bw0 L p)) := by kernel_rfl
theorem ql94x0x51b (L : List Lf) (m : Nat) (x : List Lf) : Q94x0x51b N L (m + 1) x = J94x0x51b N L x (Q94x0x51b N L m) some := by kernel_rfl
noncomputable def h94x0s12 : Sg Try.prog 0 94 :=
  (h94x0s11 N).add (((h94x0s11 N).no 51).lp (A94x0x51b N) N progOk (T100x0_ok N) (fun m kn L x => (step94x0x51b N m kn L x).trans (sb94x0x51b N L x _ _)) (fun L m x => (ql94x0x51b N L m x).trans (sb94x0x51b N L x (Q94x0x51b N L m) some)) fun L x hx => alt1 x hx) 51
noncomputable def F94x0 (v1 v2 v3 v4 : Bool) (v6 : LD) (v7 v8 : Bool) (v9 : LB) (v11 : Int) (v15 : LD) (v16 : Bool) (v17 v19 : LD) (k0 : Ty0 → Option R) : Option R :=
  bif (inB 0 v19.length) then
    bnd (G94x0x7 N ((v19.getD 0 (.i 0)).cell 0).toI v11 v16 v17) fun y0 =>
    bif (inlB y0) then
      bnd (V94x0x14 N v8 v9 true []) fun y1 =>
      bnd (G94x0x20 N v7 (inlV y0)) fun y2 =>
      bif y2.isSome then
        bnd (G94x0x27 N ((v19.getD 0 (.i 0)).cell 0).toI v19 (v19.length : Int) v1 v2 v3 v4 v6 0 [] true []) fun y3 =>
        bif y3.isSome then
          bnd (G94x0x51 N ((v19.getD 0 (.i 0)).cell 0).toI v15 (v15.length : Int) v8 (y3.getD default).1 0 true []) fun y4 =>
          bif y4.isSome then
            k0 (y1.1, (y2.getD default), (y3.getD default).2.1, (y3.getD default).2.2, (y4.getD default).1, (y4.getD default).2, y1.2.1, y1.2.2)
          else
            none
        else
          none
      else
        none
    else
      bif (inrQ y0).isSome then
        bnd (G94x0x14b N v8) fun y5 =>
        bif (inlB y5) then
          bnd (G94x0x20b N v7 ((inrQ y0).getD default).1) fun y6 =>
          bif y6.isSome then
            bnd (G94x0x27 N ((v19.getD 0 (.i 0)).cell 0).toI v19 (v19.length : Int) v1 v2 v3 v4 v6 0 [] true []) fun y3 =>
            bif y3.isSome then
              bnd (G94x0x51 N ((v19.getD 0 (.i 0)).cell 0).toI v15 (v15.length : Int) v8 (y3.getD default).1 0 true []) fun y4 =>
              bif y4.isSome then
                k0 ((inlV y5), (y6.getD default), (y3.getD default).2.1, (y3.getD default).2.2, (y4.getD default).1, (y4.getD default).2, true, [])
              else
                none
            else
              none
          else
            none
        else
          bif (inrQ y5).isSome then
            bnd (G94x0x20bb N v7 ((inrQ y0).getD default).1) fun y7 =>
            bif y7.isSome then
              bnd (G94x0x27b N ((v19.getD 0 (.i 0)).cell 0).toI v19 (v19.length : Int) v1 v2 v3 v4 v6 0 [] true []) fun y8 =>
              bif y8.isSome then
                bnd (G94x0x51b N ((v19.getD 0 (.i 0)).cell 0).toI v15 (v15.length : Int) v8 (y8.getD default).1 0 true []) fun y9 =>
                bif y9.isSome then
                  k0 (v9, (y7.getD default), (y8.getD default).2.1, (y8.getD default).2.2, (y9.getD default).1, (y9.getD default).2, ((inrQ y0).getD default).2, v17)
                else
                  none
              else
                none
            else
              none
          else
            none
      else
        none
  else
    none
noncomputable def G94x0 (v1 v2 v3 v4 : Bool) (v6 : LD) (v7 v8 : Bool) (v9 : LB) (v11 : Int) (v15 : LD) (v16 : Bool) (v17 v19 : LD) : Option (Ty0) := F94x0 N v1 v2 v3 v4 v6 v7 v8 v9 v11 v15 v16 v17 v19 (fun p => some p)
theorem bind94x0 (v1 v2 v3 v4 : Bool) (v6 : LD) (v7 v8 : Bool) (v9 : LB) (v11 : Int) (v15 : LD) (v16 : Bool) (v17 v19 : LD) (k0 : Ty0 → Option R) : F94x0 N v1 v2 v3 v4 v6 v7 v8 v9 v11 v15 v16 v17 v19 k0 = (G94x0 N v1 v2 v3 v4 v6 v7 v8 v9 v11 v15 v16 v17 v19).bind k0 := by
  unfold G94x0 F94x0
  repeat' (first | with_reducible apply cond_b | (with_reducible apply bnd_b; intro _) | rfl)
noncomputable def J94x0 (L : List Lf) (k0 : Ty0 → Option R) : Option R := F94x0 N (lb L 1) (lb L 2) (lb L 3) (lb L 4) (ll L 6) (lb L 7) (lb L 8) (ls L 9) (li L 11) (ll L 15) (lb L 16) (ll L 17) (ll L 19) k0
noncomputable def sh94x0 : Sh := { tmps := [(0, .g (rB 5 ([.sl 3, .b, .b]))), (1, .g (.s :: [.i .i64, .i .i64, .sl 48, .sl 111, .sl 9])), (2, .c (.sl 48))], mem := [] }
noncomputable def K94x0w0 (L : List Lf) (p : Ty0) : Res := let p1 := p.2; let p2 := p1.2; let p3 := p2.2; let p4 := p3.2; let p5 := p4.2; let p6 := p5.2; let p7 := p6.2; ([.g [.s p.1, .i .i64 (li L 10), .i .i64 p1.1, .sl 48 p2.1 p3.1, .sl 111 p4.1 p5.1, .sl 9 p6.1 p7]], [])
noncomputable def A94x0 (L : List Lf) : List (Bool × Res) := bnd (J94x0 N L (fun p => some p)) fun q => [(q.isSome, K94x0w0 L (q.getD default))]
theorem raw94x0 (L : List Lf) : bd Try.prog (T100x0 N) (h94x0s12 N).h 94 sh94x0 L = J94x0 N L (fun p => some (K94x0w0 L p)) := by kernel_rfl
theorem ok94x0 : FnOk Try.prog 94 sh94x0 (A94x0 N) :=
  (h94x0s12 N).fn progOk (T100x0_ok N) fun L x hx => ((raw94x0 N L).trans ((bind94x0 N ..).trans (alt1 x hx)))
noncomputable def T94x0 : Oracle := ext 94 (spSh sh94x0 (A94x0 N)) (T100x0 N)
theorem T94x0_ok : OracleOk Try.prog (T94x0 N) := FnOk.to (ok94x0 N) (T100x0_ok N)
noncomputable def rg92x0 : List (Nat × List Nat) := [(0, [1, 2, 0]), (1, [1, 2, 4, 0]), (2, [2, 4, 0, 6]), (3, [2, 4, 7, 0, 6]), (4, [22, 21, 20, 4, 7, 0, 6, 2]), (5, [22, 20, 4, 21, 7, 0, 6, 2]), (6, [4, 8, 22, 21, 20, 7, 0, 6, 2, 9]), (7, [7, 9, 0, 6, 2, 22, 21, 20, 4]), (8, [10, 9, 7, 0, 6, 2, 22, 21, 20, 4]), (9, [0, 6, 2, 7, 9, 22, 21, 20, 4]), (10, [9, 22, 21, 20, 4, 0, 6, 2]), (11, [7, 9, 22, 21, 20, 4, 0, 6, 2]), (12, [22, 21, 20, 4, 7, 0, 6, 2]), (13, [7, 0, 6, 2]), (14, [0, 6, 2, 7])]
noncomputable def hd92x0 : Hints := [(12, [22, 21, 20, 4, 7, 0, 6, 2], [3, 2, 0, 11, 1, 4, 12, 50002005], [7, 50002000]), (25, [10, 9, 7, 0, 6, 2, 22, 21, 20, 4], [50002005, 2, 0, 14, 12, 11, 1, 4], []), (28, [0, 6, 2, 7, 9, 22, 21, 20, 4], [50002005, 2, 0, 14, 12, 11, 1, 4], []), (29, [0, 6, 2, 7, 9, 22, 21, 20, 4, 46], [50002005, 2, 0, 14, 12, 11, 1, 4], []), (43, [0, 6, 2, 7], [50002005, 2, 0, 12, 11, 1, 4], []), (44, [0, 6, 2, 7, 61], [50002005, 2, 0, 12, 11, 1, 4], [])]
noncomputable def h92x0s0 (N : Nat) : Sg Try.prog 5 92 (YCtx y44x0z600000022) := .start hd92x0 rg92x0
noncomputable def F92x0x25 (N : Nat) (w2 : Int) (w30 : LD) (w31 : Int) (k0 : Bool → Option R) : Option R :=
  bif (decide (w2 > 0)) then
    bif (inB (IntKind.wrap .i64 (w2 - 1)) w30.length) then
      bif (decide ((IntKind.wrap .i64 (w2 - 1)).toNat < w30.length)) then
        bnd ((w30.getD (IntKind.wrap .i64 (w2 - 1)).toNat (.i 0)).cell 0).toI fun y0 =>
        k0 (decide ((IntKind.wrap .i64 (w31 - y0)) > 60))
      else
        none
    else
      none
  else
    k0 false
noncomputable def G92x0x25 (w2 : Int) (w30 : LD) (w31 : Int) : Option (Bool) := F92x0x25 N w2 w30 w31 (fun p => some p)
theorem bind92x0x25 (w2 : Int) (w30 : LD) (w31 : Int) (k0 : Bool → Option R) : F92x0x25 N w2 w30 w31 k0 = (G92x0x25 N w2 w30 w31).bind k0 := by
  unfold G92x0x25 F92x0x25
  repeat' (first | with_reducible apply cond_b | (with_reducible apply bnd_b; intro _) | rfl)
noncomputable def sh92x0x25 : Sh := { tmps := [(0, .c (.y 4)), (2, .c (.p 1 0)), (4, .c (.sl 4)), (6, .c (.p 11 0)), (7, .c (.o 12)), (9, .c (.p 14 0)), (10, .c (.i .i64)), (20, .c (.sl 48)), (21, .c (.i .i64)), (22, .c (.i .i64))], mem := [(0, .box ([.sl 70])), (1, .box (.s :: [.i .i64, .i .i64, .sl 48, .sl 111, .sl 9])), (2, .box ([.o 50002005])), (4, .row 3 true), (11, .box (rB 5 ([.sl 3, .b, .b]))), (12, .row 48 true), (14, .box (rI 7 ([]))), (50002005, .row 29 true)] }
noncomputable def K92x0x25w0 (L : List Lf) (p : Bool) : Ex × St := (.normal, mg (ofSh sh92x0x25 L) [0, 2, 4, 6, 7, 9, 20, 21, 22, 46] [(46, .c (.b p))] [0, 1, 2, 4, 11, 12, 14, 50002005] [])
noncomputable def A92x0x25 (L : List Lf) : List (Bool × (Ex × St)) := bnd (F92x0x25 N (li L 2) (ll L 30) (li L 31) (fun p => some p)) fun q => [(q.isSome, K92x0x25w0 L (q.getD default))]
theorem raw92x0x25 (L : List Lf) : pc Try.prog (T94x0 N) (h92x0s0 N).h 5 100 92 25 sh92x0x25 L [0, 6, 2, 7, 9, 22, 21, 20, 4, 46] [50002005, 2, 0, 14, 12, 11, 1, 4] = F92x0x25 N (li L 2) (ll L 30) (li L 31) (fun p => some (K92x0x25w0 L p)) := by kernel_rfl
noncomputable def h92x0s1 : Sg Try.prog 5 92 (YCtx y44x0z600000022) :=
  (h92x0s0 N).cut (A92x0x25 N) progOk (T94x0_ok N) fun L x hx => (raw92x0x25 N L).trans ((bind92x0x25 N ..).trans (alt1 x hx))
noncomputable def F92x0x28 (w8 : LB) (w9 w10 : Int) (w14 : LD) (w15 : Bool) (w16 : LD) (w20 w21 w22 w23 : Bool) (w25 : LD) (w26 w27 : Bool) (w29 w38 : LD) (k0 : LD → Option R) : Option R :=
  bnd (G94x0 N w20 w21 w22 w23 w25 w26 w27 w8 w10 w14 w15 w16 w29) fun y0 =>
  bif y0.isSome then
    bif (decide ((w38.length + 1) * 104 ≤ room) && decide ((w38.length + 1) ≤ strMax)) then
      bnd ((w38 ++ [(.a [(.s (y0.getD default).1), (.i w9), (.i (y0.getD default).2.1), (.l (y0.getD default).2.2.1 (y0.getD default).2.2.2.1), (.l (y0.getD default).2.2.2.2.1 (y0.getD default).2.2.2.2.2.1), (.l (y0.getD default).2.2.2.2.2.2.1 (y0.getD default).2.2.2.2.2.2.2)])]) : List D) fun y1 =>
      k0 y1
    else
      none
  else
    none
noncomputable def G92x0x28 (w8 : LB) (w9 w10 : Int) (w14 : LD) (w15 : Bool) (w16 : LD) (w20 w21 w22 w23 : Bool) (w25 : LD) (w26 w27 : Bool) (w29 w38 : LD) : Option (LD) := F92x0x28 N w8 w9 w10 w14 w15 w16 w20 w21 w22 w23 w25 w26 w27 w29 w38 (fun p => some p)
theorem bind92x0x28 (w8 : LB) (w9 w10 : Int) (w14 : LD) (w15 : Bool) (w16 : LD) (w20 w21 w22 w23 : Bool) (w25 : LD) (w26 w27 : Bool) (w29 w38 : LD) (k0 : LD → Option R) : F92x0x28 N w8 w9 w10 w14 w15 w16 w20 w21 w22 w23 w25 w26 w27 w29 w38 k0 = (G92x0x28 N w8 w9 w10 w14 w15 w16 w20 w21 w22 w23 w25 w26 w27 w29 w38).bind k0 := by
  unfold G92x0x28 F92x0x28
  repeat' (first | with_reducible apply cond_b | (with_reducible apply bnd_b; intro _) | rfl)
noncomputable def J92x0x28 (L : List Lf) (k0 : LD → Option R) : Option R := F92x0x28 N (ls L 8) (li L 9) (li L 10) (ll L 14) (lb L 15) (ll L 16) (lb L 20) (lb L 21) (lb L 22) (lb L 23) (ll L 25) (lb L 26) (lb L 27) (ll L 29) (ll L 38) k0
noncomputable def sh92x0x28 : Sh := { tmps := [(0, .c (.y 4)), (2, .c (.p 1 0)), (4, .c (.sl 4)), (6, .c (.p 11 0)), (7, .c (.o 12)), (9, .c (.p 14 0)), (20, .c (.sl 48)), (21, .c (.i .i64)), (22, .c (.i .i64))], mem := [(0, .box ([.sl 70])), (1, .box (.s :: [.i .i64, .i .i64, .sl 48, .sl 111, .sl 9])), (2, .box ([.o 50002005])), (4, .row 3 true), (11, .box (rB 5 ([.sl 3, .b, .b]))), (12, .row 48 true), (14, .box (rI 7 ([]))), (50002005, .row 29 true)] }
noncomputable def K92x0x28w0 (L : List Lf) (p : LD) : Ex × St := (.normal, mg (ofSh sh92x0x28 L) [0, 2, 4, 6, 9, 20, 21, 22, 53] [(53, .c (.b false))] [0, 1, 2, 4, 11, 14, 53000000033] [(2, .box [.o 53000000033]), (53000000033, .row 29 true false p)])
noncomputable def A92x0x28 (L : List Lf) : List (Bool × (Ex × St)) := bnd (J92x0x28 N L (fun p => some p)) fun q => [(q.isSome, K92x0x28w0 L (q.getD default))]
theorem raw92x0x28 (L : List Lf) : pcY Try.prog (T94x0 N) 5 y44x0z600000022 92 28 sh92x0x28 L [9, 22, 21, 20, 4, 0, 6, 2, 53] [53000000033, 2, 0, 14, 11, 1, 4] = J92x0x28 N L (fun p => some (K92x0x28w0 L p)) := by kernel_rfl
noncomputable def h92x0s2 : Sg Try.prog 5 92 (YCtx y44x0z600000022) :=
  (h92x0s1 N).cutY (A92x0x28 N) (T94x0_ok N) fun L x hx => (raw92x0x28 N L).trans ((bind92x0x28 N ..).trans (alt1 x hx))
noncomputable def F92x0x29 (w6 : Bool) (w9 : LB) (w10 w11 : Int) (w15 : LD) (w16 : Bool) (w17 : LD) (w21 w22 w23 w24 : Bool) (w26 : LD) (w27 w28 : Bool) (w30 w39 : LD) (k0 : LD → Option R) (k1 : Unit → Option R) : Option R :=
  bif w6 then
    bnd (G92x0x28 N w9 w10 w11 w15 w16 w17 w21 w22 w23 w24 w26 w27 w28 w30 w39) fun y0 =>
    bif y0.isSome then
      k0 (y0.getD default)
    else
      none
  else
    k1 ()
noncomputable def G92x0x29 (w6 : Bool) (w9 : LB) (w10 w11 : Int) (w15 : LD) (w16 : Bool) (w17 : LD) (w21 w22 w23 w24 : Bool) (w26 : LD) (w27 w28 : Bool) (w30 w39 : LD) : Option (Sum (LD) (Unit)) := F92x0x29 N w6 w9 w10 w11 w15 w16 w17 w21 w22 w23 w24 w26 w27 w28 w30 w39 (fun p => some (.inl p)) (fun p => some (.inr p))
theorem bind92x0x29 (w6 : Bool) (w9 : LB) (w10 w11 : Int) (w15 : LD) (w16 : Bool) (w17 : LD) (w21 w22 w23 w24 : Bool) (w26 : LD) (w27 w28 : Bool) (w30 w39 : LD) (k0 : LD → Option R) (k1 : Unit → Option R) : F92x0x29 N w6 w9 w10 w11 w15 w16 w17 w21 w22 w23 w24 w26 w27 w28 w30 w39 k0 k1 = (G92x0x29 N w6 w9 w10 w11 w15 w16 w17 w21 w22 w23 w24 w26 w27 w28 w30 w39).bind (sumE k0 k1) := by
  unfold G92x0x29 F92x0x29
  repeat' (first | with_reducible apply cond_b | (with_reducible apply bnd_b; intro _) | rfl)
noncomputable def J92x0x29 (L : List Lf) (k0 : LD → Option R) (k1 : Unit → Option R) : Option R := F92x0x29 N (lb L 6) (ls L 9) (li L 10) (li L 11) (ll L 15) (lb L 16) (ll L 17) (lb L 21) (lb L 22) (lb L 23) (lb L 24) (ll L 26) (lb L 27) (lb L 28) (ll L 30) (ll L 39) k0 k1
noncomputable def sh92x0x29 : Sh := { tmps := [(0, .c (.y 4)), (2, .c (.p 1 0)), (4, .c (.sl 4)), (6, .c (.p 11 0)), (7, .c (.o 12)), (9, .c (.p 14 0)), (20, .c (.sl 48)), (21, .c (.i .i64)), (22, .c (.i .i64)), (46, .c (.b))], mem := [(0, .box ([.sl 70])), (1, .box (.s :: [.i .i64, .i .i64, .sl 48, .sl 111, .sl 9])), (2, .box ([.o 50002005])), (4, .row 3 true), (11, .box (rB 5 ([.sl 3, .b, .b]))), (12, .row 48 true), (14, .box (rI 7 ([]))), (50002005, .row 29 true)] }
noncomputable def K92x0x29w0 (L : List Lf) (p : LD) : Ex × St := (.normal, mg (ofSh sh92x0x29 L) [0, 2, 4, 6, 7, 9, 20, 21, 22] [(7, .c (.sl 48 true []))] [0, 1, 2, 4, 11, 14, 53000000033] [(2, .box [.o 53000000033]), (53000000033, .row 29 true false p)])
noncomputable def K92x0x29w1 (L : List Lf) (_ : Unit) : Ex × St := (.normal, mg (ofSh sh92x0x29 L) [0, 2, 4, 6, 7, 9, 20, 21, 22] [] [0, 1, 2, 4, 11, 12, 14, 50002005] [])
noncomputable def A92x0x29 (L : List Lf) : List (Bool × (Ex × St)) := bnd (J92x0x29 N L (fun p => some (.inl p)) (fun p => some (.inr p))) fun q => [((inlB q), K92x0x29w0 L (inlV q)), ((inrQ q).isSome, K92x0x29w1 L ())]
theorem raw92x0x29 (L : List Lf) : pc Try.prog (T94x0 N) (h92x0s2 N).h 5 100 92 29 sh92x0x29 L [7, 9, 22, 21, 20, 4, 0, 6, 2] [53000000033, 2, 0, 14, 11, 1, 4, 50002005, 12] = J92x0x29 N L (fun p => some (K92x0x29w0 L p)) (fun _ => some (K92x0x29w1 L ())) := by kernel_rfl
noncomputable def h92x0s3 : Sg Try.prog 5 92 (YCtx y44x0z600000022) :=
  (h92x0s2 N).cut (A92x0x29 N) progOk (T94x0_ok N) fun L x hx => (raw92x0x29 N L).trans ((bind92x0x29 N ..).trans ((altS alt1) x hx))
noncomputable def S92x0x12 (w1 w3 : LD) (w4 : Int) (w8 : LB) (w9 w10 : Int) (w14 : LD) (w15 : Bool) (w16 : LD) (w20 w21 w22 w23 : Bool) (w25 : LD) (w26 w27 : Bool) (w5 : Int) (w28 : Bool) (w29 : LD) (w30 : Bool) (w31 : LD) (kr : Int → Bool → LD → Bool → LD → Option R) (k0 : Ty5 → Option R) : Option R :=
  bif (decide (w5 < w4)) then
    bif (inB w5 w3.length) then
      bif (inB w5 w1.length) then
        bif (w1.getD w5.toNat (.i 0)).toB then
          kr (IntKind.wrap .i64 (w5 + 1)) w28 w29 w30 w31
        else
          bnd (G92x0x25 N (w29.length : Int) w29 ((w3.getD w5.toNat (.i 0)).cell 0).toI) fun y0 =>
          bif y0.isSome then
            bnd (G92x0x29 N (y0.getD default) w8 w9 w10 w14 w15 w16 w20 w21 w22 w23 w25 w26 w27 w29 w31) fun y1 =>
            bif (inlB y1) then
              kr (IntKind.wrap .i64 (w5 + 1)) false [(.a [(.i ((w3.getD w5.toNat (.i 0)).cell 0).toI), (.i ((w3.getD w5.toNat (.i 0)).cell 1).toI), (.i ((w3.getD w5.toNat (.i 0)).cell 2).toI), (.i ((w3.getD w5.toNat (.i 0)).cell 3).toI), (.i ((w3.getD w5.toNat (.i 0)).cell 4).toI), (.i ((w3.getD w5.toNat (.i 0)).cell 5).toI), (.i ((w3.getD w5.toNat (.i 0)).cell 6).toI)])] false (inlV y1)
            else
              bif (inrQ y1).isSome then
                bif (decide ((w29.length + 1) * 56 ≤ room) && decide ((w29.length + 1) ≤ strMax)) then
                  bnd ((w29 ++ [(.a [(.i ((w3.getD w5.toNat (.i 0)).cell 0).toI), (.i ((w3.getD w5.toNat (.i 0)).cell 1).toI), (.i ((w3.getD w5.toNat (.i 0)).cell 2).toI), (.i ((w3.getD w5.toNat (.i 0)).cell 3).toI), (.i ((w3.getD w5.toNat (.i 0)).cell 4).toI), (.i ((w3.getD w5.toNat (.i 0)).cell 5).toI), (.i ((w3.getD w5.toNat (.i 0)).cell 6).toI)])]) : List D) fun y2 =>
                  kr (IntKind.wrap .i64 (w5 + 1)) false y2 w30 w31
                else
                  none
              else
                none
          else
            none
      else
        none
    else
      none
  else
    k0 (w28, w29, w30, w31)
noncomputable def L92x0x12 (N : Nat) {R : Type} (w1 w3 : LD) (w4 : Int) (w8 : LB) (w9 w10 : Int) (w14 : LD) (w15 : Bool) (w16 : LD) (w20 w21 w22 w23 : Bool) (w25 : LD) (w26 w27 : Bool) : Nat → Int → Bool → LD → Bool → LD → (Ty5 → Option R) → Option R
  | 0, _, _, _, _, _, _ => none
  | m + 1, w5, w28, w29, w30, w31, k0 => S92x0x12 N w1 w3 w4 w8 w9 w10 w14 w15 w16 w20 w21 w22 w23 w25 w26 w27 w5 w28 w29 w30 w31 (fun w5 w28 w29 w30 w31 => L92x0x12 N w1 w3 w4 w8 w9 w10 w14 w15 w16 w20 w21 w22 w23 w25 w26 w27 m w5 w28 w29 w30 w31 k0) k0
noncomputable def G92x0x12 (w1 w3 : LD) (w4 : Int) (w8 : LB) (w9 w10 : Int) (w14 : LD) (w15 : Bool) (w16 : LD) (w20 w21 w22 w23 : Bool) (w25 : LD) (w26 w27 : Bool) (w5 : Int) (w28 : Bool) (w29 : LD) (w30 : Bool) (w31 : LD) : Option (Ty5) := L92x0x12 N (R := (Ty5)) w1 w3 w4 w8 w9 w10 w14 w15 w16 w20 w21 w22 w23 w25 w26 w27 N w5 w28 w29 w30 w31 (fun p => some p)
noncomputable def J92x0x12 (L x : List Lf) (kr : List Lf → Option R) (k0 : Ty5 → Option R) : Option R := S92x0x12 N (ll L 1) (ll L 3) (li L 4) (ls L 8) (li L 9) (li L 10) (ll L 14) (lb L 15) (ll L 16) (lb L 20) (lb L 21) (lb L 22) (lb L 23) (ll L 25) (lb L 26) (lb L 27) (li x 0) (lb x 1) (ll x 2) (lb x 3) (ll x 4) (fun w5 w28 w29 w30 w31 => kr [.i w5, .b w28, .l w29, .b w30, .l w31]) k0
theorem sb92x0x12 (L x : List Lf) (kr : List Lf → Option R) (k0 : Ty5 → Option R) : J92x0x12 N L x kr k0 = (J92x0x12 N L x (fun y => some (.inl y)) (fun p => some (.inr p))).bind (sumE kr k0) := by
  unfold J92x0x12 S92x0x12
  repeat' (first | with_reducible apply cond_b | (with_reducible apply bnd_b; intro _) | rfl)
noncomputable def Q92x0x12 (L : List Lf) (m : Nat) (x : List Lf) : Option (Ty5) := L92x0x12 N (R := (Ty5)) (ll L 1) (ll L 3) (li L 4) (ls L 8) (li L 9) (li L 10) (ll L 14) (lb L 15) (ll L 16) (lb L 20) (lb L 21) (lb L 22) (lb L 23) (ll L 25) (lb L 26) (lb L 27) m (li x 0) (lb x 1) (ll x 2) (lb x 3) (ll x 4) (fun p => some p)
noncomputable def sh92x0x12 : Sh := { tmps := [(0, .c (.y 4)), (2, .c (.p 1 0)), (4, .c (.sl 4)), (6, .c (.p 11 0)), (7, .c (.o 12)), (20, .c (.sl 48)), (21, .c (.i .i64)), (22, .c (.i .i64))], mem := [(0, .box ([.sl 70])), (1, .box (.s :: [.i .i64, .i .i64, .sl 48, .sl 111, .sl 9])), (2, .box ([.o 50002005])), (4, .row 3 true), (11, .box (rB 5 ([.sl 3, .b, .b]))), (12, .row 48 true), (50002005, .row 29 true)] }
noncomputable def K92x0x12w0 (L : List Lf) (p : Ty5) : Ex × St := ((.exit 0), mg (ofSh sh92x0x12 L) [0, 2, 6, 7] [] [0, 1, 2, 4, 11, 12, 50002005] [(12, .row 48 true p.1 p.2.1), (50002005, .row 29 true p.2.2.1 p.2.2.2)])
noncomputable def A92x0x12 (L : List Lf) : List (Bool × (Ex × St)) := bnd (Q92x0x12 N L N (pk sh92x0x12 [5, 28, 29, 30, 31] L)) fun q => [(q.isSome, K92x0x12w0 L (q.getD default))]
theorem step92x0x12 (m : Nat) (kn : St → Option (Ex × St)) (L x : List Lf) : lpB Try.prog (T94x0 N) (h92x0s3 N).h 5 92 12 sh92x0x12 [5, 28, 29, 30, 31] [7, 0, 6, 2] [50002005, 2, 0, 12, 11, 1, 4] (m + 100) kn L x = J92x0x12 N L x (fun y => kn (ofSh sh92x0x12 (mx sh92x0x12 [5, 28, 29, 30, 31] L y))) (fun p => some (K92x0x12w0 L p)) := by kernel_rfl
theorem ql92x0x12 (L : List Lf) (m : Nat) (x : List Lf) : Q92x0x12 N L (m + 1) x = J92x0x12 N L x (Q92x0x12 N L m) some := by kernel_rfl
noncomputable def h92x0s4 : Sg Try.prog 5 92 (YCtx y44x0z600000022) :=
  (h92x0s3 N).lp (A92x0x12 N) N progOk (T94x0_ok N) (fun m kn L x => (step92x0x12 N m kn L x).trans (sb92x0x12 N L x _ _)) (fun L m x => (ql92x0x12 N L m x).trans (sb92x0x12 N L x (Q92x0x12 N L m) some)) fun L x hx => alt1 x hx
noncomputable def F92x0x43 (w2 : LB) (w3 w4 : Int) (w8 : LD) (w9 : Bool) (w10 : LD) (w14 w15 w16 w17 : Bool) (w19 : LD) (w20 w21 : Bool) (w23 w25 : LD) (k0 : LD → Option R) : Option R :=
  bnd (G94x0 N w14 w15 w16 w17 w19 w20 w21 w2 w4 w8 w9 w10 w23) fun y0 =>
  bif y0.isSome then
    bif (decide ((w25.length + 1) * 104 ≤ room) && decide ((w25.length + 1) ≤ strMax)) then
      bnd ((w25 ++ [(.a [(.s (y0.getD default).1), (.i w3), (.i (y0.getD default).2.1), (.l (y0.getD default).2.2.1 (y0.getD default).2.2.2.1), (.l (y0.getD default).2.2.2.2.1 (y0.getD default).2.2.2.2.2.1), (.l (y0.getD default).2.2.2.2.2.2.1 (y0.getD default).2.2.2.2.2.2.2)])]) : List D) fun y1 =>
      k0 y1
    else
      none
  else
    none
noncomputable def G92x0x43 (w2 : LB) (w3 w4 : Int) (w8 : LD) (w9 : Bool) (w10 : LD) (w14 w15 w16 w17 : Bool) (w19 : LD) (w20 w21 : Bool) (w23 w25 : LD) : Option (LD) := F92x0x43 N w2 w3 w4 w8 w9 w10 w14 w15 w16 w17 w19 w20 w21 w23 w25 (fun p => some p)
theorem bind92x0x43 (w2 : LB) (w3 w4 : Int) (w8 : LD) (w9 : Bool) (w10 : LD) (w14 w15 w16 w17 : Bool) (w19 : LD) (w20 w21 : Bool) (w23 w25 : LD) (k0 : LD → Option R) : F92x0x43 N w2 w3 w4 w8 w9 w10 w14 w15 w16 w17 w19 w20 w21 w23 w25 k0 = (G92x0x43 N w2 w3 w4 w8 w9 w10 w14 w15 w16 w17 w19 w20 w21 w23 w25).bind k0 := by
  unfold G92x0x43 F92x0x43
  repeat' (first | with_reducible apply cond_b | (with_reducible apply bnd_b; intro _) | rfl)
noncomputable def J92x0x43 (L : List Lf) (k0 : LD → Option R) : Option R := F92x0x43 N (ls L 2) (li L 3) (li L 4) (ll L 8) (lb L 9) (ll L 10) (lb L 14) (lb L 15) (lb L 16) (lb L 17) (ll L 19) (lb L 20) (lb L 21) (ll L 23) (ll L 25) k0
noncomputable def sh92x0x43 : Sh := { tmps := [(0, .c (.y 4)), (2, .c (.p 1 0)), (6, .c (.p 11 0)), (7, .c (.o 12))], mem := [(0, .box ([.sl 70])), (1, .box (.s :: [.i .i64, .i .i64, .sl 48, .sl 111, .sl 9])), (2, .box ([.o 50002005])), (4, .row 3 true), (11, .box (rB 5 ([.sl 3, .b, .b]))), (12, .row 48 true), (50002005, .row 29 true)] }
noncomputable def K92x0x43w0 (L : List Lf) (p : LD) : Ex × St := (.normal, mg (ofSh sh92x0x43 L) [] [] [0, 1, 2, 4, 68000000033] [(2, .box [.o 68000000033]), (68000000033, .row 29 true false p)])
noncomputable def A92x0x43 (L : List Lf) : List (Bool × (Ex × St)) := bnd (J92x0x43 N L (fun p => some p)) fun q => [(q.isSome, K92x0x43w0 L (q.getD default))]
theorem raw92x0x43 (L : List Lf) : pcY Try.prog (T94x0 N) 5 y44x0z600000022 92 43 sh92x0x43 L [] [4, 68000000033, 2, 1, 0] = J92x0x43 N L (fun p => some (K92x0x43w0 L p)) := by kernel_rfl
noncomputable def h92x0s5 : Sg Try.prog 5 92 (YCtx y44x0z600000022) :=
  (h92x0s4 N).cutY (A92x0x43 N) (T94x0_ok N) fun L x hx => (raw92x0x43 N L).trans ((bind92x0x43 N ..).trans (alt1 x hx))
noncomputable def F92x0x44 (w0 : Bool) (w3 : LB) (w4 w5 : Int) (w9 : LD) (w10 : Bool) (w11 : LD) (w15 w16 w17 w18 : Bool) (w20 : LD) (w21 w22 : Bool) (w24 w26 : LD) (k0 : LD → Option R) (k1 : Unit → Option R) : Option R :=
  bif w0 then
    bnd (G92x0x43 N w3 w4 w5 w9 w10 w11 w15 w16 w17 w18 w20 w21 w22 w24 w26) fun y0 =>
    bif y0.isSome then
      k0 (y0.getD default)
    else
      none
  else
    k1 ()
noncomputable def G92x0x44 (w0 : Bool) (w3 : LB) (w4 w5 : Int) (w9 : LD) (w10 : Bool) (w11 : LD) (w15 w16 w17 w18 : Bool) (w20 : LD) (w21 w22 : Bool) (w24 w26 : LD) : Option (Sum (LD) (Unit)) := F92x0x44 N w0 w3 w4 w5 w9 w10 w11 w15 w16 w17 w18 w20 w21 w22 w24 w26 (fun p => some (.inl p)) (fun p => some (.inr p))
theorem bind92x0x44 (w0 : Bool) (w3 : LB) (w4 w5 : Int) (w9 : LD) (w10 : Bool) (w11 : LD) (w15 w16 w17 w18 : Bool) (w20 : LD) (w21 w22 : Bool) (w24 w26 : LD) (k0 : LD → Option R) (k1 : Unit → Option R) : F92x0x44 N w0 w3 w4 w5 w9 w10 w11 w15 w16 w17 w18 w20 w21 w22 w24 w26 k0 k1 = (G92x0x44 N w0 w3 w4 w5 w9 w10 w11 w15 w16 w17 w18 w20 w21 w22 w24 w26).bind (sumE k0 k1) := by
  unfold G92x0x44 F92x0x44
  repeat' (first | with_reducible apply cond_b | (with_reducible apply bnd_b; intro _) | rfl)
noncomputable def J92x0x44 (L : List Lf) (k0 : LD → Option R) (k1 : Unit → Option R) : Option R := F92x0x44 N (lb L 0) (ls L 3) (li L 4) (li L 5) (ll L 9) (lb L 10) (ll L 11) (lb L 15) (lb L 16) (lb L 17) (lb L 18) (ll L 20) (lb L 21) (lb L 22) (ll L 24) (ll L 26) k0 k1
noncomputable def sh92x0x44 : Sh := { tmps := [(0, .c (.y 4)), (2, .c (.p 1 0)), (6, .c (.p 11 0)), (7, .c (.o 12)), (61, .c (.b))], mem := [(0, .box ([.sl 70])), (1, .box (.s :: [.i .i64, .i .i64, .sl 48, .sl 111, .sl 9])), (2, .box ([.o 50002005])), (4, .row 3 true), (11, .box (rB 5 ([.sl 3, .b, .b]))), (12, .row 48 true), (50002005, .row 29 true)] }
noncomputable def K92x0x44w0 (L : List Lf) (p : LD) : Ex × St := (.normal, mg (ofSh sh92x0x44 L) [] [] [0, 1, 2, 4, 68000000033] [(2, .box [.o 68000000033]), (68000000033, .row 29 true false p)])
noncomputable def K92x0x44w1 (L : List Lf) (_ : Unit) : Ex × St := (.normal, mg (ofSh sh92x0x44 L) [] [] [0, 1, 2, 4, 50002005] [])
noncomputable def A92x0x44 (L : List Lf) : List (Bool × (Ex × St)) := bnd (J92x0x44 N L (fun p => some (.inl p)) (fun p => some (.inr p))) fun q => [((inlB q), K92x0x44w0 L (inlV q)), ((inrQ q).isSome, K92x0x44w1 L ())]
theorem raw92x0x44 (L : List Lf) : pc Try.prog (T94x0 N) (h92x0s5 N).h 5 100 92 44 sh92x0x44 L [] [4, 68000000033, 2, 1, 0, 50002005] = J92x0x44 N L (fun p => some (K92x0x44w0 L p)) (fun _ => some (K92x0x44w1 L ())) := by kernel_rfl
noncomputable def h92x0s6 : Sg Try.prog 5 92 (YCtx y44x0z600000022) :=
  (h92x0s5 N).cut (A92x0x44 N) progOk (T94x0_ok N) fun L x hx => (raw92x0x44 N L).trans ((bind92x0x44 N ..).trans ((altS alt1) x hx))
noncomputable def F92x0 (v1 : LD) (v2 : LB) (v3 v4 : Int) (v6 v8 : LD) (v9 : Bool) (v10 : LD) (v11 : Bool) (v12 : LD) (k0 : LD → Option R) (k1 : Bool × LD → Option R) : Option R :=
  bnd (G40x0 N v1 v3 v4 v6 v10) fun y0 =>
  bif y0.isSome then
    bnd (G93x0 N v1) fun y1 =>
    bif y1.isSome then
      bnd (G92x0x12 N (y0.getD default).1 v6 (v6.length : Int) v2 v3 v4 v8 v9 v10 (y1.getD default).2.1 (y1.getD default).2.2.1 (y1.getD default).2.2.2.1 (y1.getD default).2.2.2.2.1 (y1.getD default).2.2.2.2.2.2.1 (y1.getD default).2.2.2.2.2.2.2.1 (y1.getD default).2.2.2.2.2.2.2.2 0 true [] v11 v12) fun y2 =>
      bif y2.isSome then
        bnd (G92x0x44 N (decide (((y2.getD default).2.1.length : Int) > 0)) v2 v3 v4 v8 v9 v10 (y1.getD default).2.1 (y1.getD default).2.2.1 (y1.getD default).2.2.2.1 (y1.getD default).2.2.2.2.1 (y1.getD default).2.2.2.2.2.2.1 (y1.getD default).2.2.2.2.2.2.2.1 (y1.getD default).2.2.2.2.2.2.2.2 (y2.getD default).2.1 (y2.getD default).2.2.2) fun y3 =>
        bif (inlB y3) then
          k0 (inlV y3)
        else
          bif (inrQ y3).isSome then
            k1 ((y2.getD default).2.2.1, (y2.getD default).2.2.2)
          else
            none
      else
        none
    else
      none
  else
    none
noncomputable def G92x0 (v1 : LD) (v2 : LB) (v3 v4 : Int) (v6 v8 : LD) (v9 : Bool) (v10 : LD) (v11 : Bool) (v12 : LD) : Option (Sum (LD) (Bool × LD)) := F92x0 N v1 v2 v3 v4 v6 v8 v9 v10 v11 v12 (fun p => some (.inl p)) (fun p => some (.inr p))
theorem bind92x0 (v1 : LD) (v2 : LB) (v3 v4 : Int) (v6 v8 : LD) (v9 : Bool) (v10 : LD) (v11 : Bool) (v12 : LD) (k0 : LD → Option R) (k1 : Bool × LD → Option R) : F92x0 N v1 v2 v3 v4 v6 v8 v9 v10 v11 v12 k0 k1 = (G92x0 N v1 v2 v3 v4 v6 v8 v9 v10 v11 v12).bind (sumE k0 k1) := by
  unfold G92x0 F92x0
  repeat' (first | with_reducible apply cond_b | (with_reducible apply bnd_b; intro _) | rfl)
noncomputable def J92x0 (L : List Lf) (k0 : LD → Option R) (k1 : Bool × LD → Option R) : Option R := F92x0 N (ll L 1) (ls L 2) (li L 3) (li L 4) (ll L 6) (ll L 8) (lb L 9) (ll L 10) (lb L 11) (ll L 12) k0 k1
noncomputable def sh92x0 : Sh := { tmps := [(0, .c (.y 4)), (1, .c (.p 0 0)), (2, .c (.p 1 0))], mem := [(0, .box ([.sl 70])), (1, .box (.s :: [.i .i64, .i .i64, .sl 48, .sl 111, .sl 9])), (2, .box ([.o 3])), (3, .row 29 true), (4, .row 3 true)] }
noncomputable def K92x0w0 (L : List Lf) (p : LD) : Res := ([], mgA (ofSh sh92x0 L).mem [(2, .box [.o 68000000033]), (68000000033, .row 29 true false p)] [0, 1, 2, 4, 68000000033])
noncomputable def K92x0w1 (L : List Lf) (p : Bool × LD) : Res := ([], mgA (ofSh sh92x0 L).mem [(2, .box [.o 50002005]), (50002005, .row 29 true p.1 p.2)] [0, 1, 2, 4, 50002005])
noncomputable def A92x0 (L : List Lf) : List (Bool × Res) := bnd (J92x0 N L (fun p => some (.inl p)) (fun p => some (.inr p))) fun q => [((inlB q), K92x0w0 L (inlV q)), ((inrQ q).isSome, K92x0w1 L ((inrQ q).getD default))]
theorem raw92x0 (L : List Lf) : bd Try.prog (T94x0 N) (h92x0s6 N).h 92 sh92x0 L = J92x0 N L (fun p => some (K92x0w0 L p)) (fun p => some (K92x0w1 L p)) := by kernel_rfl
theorem ok92x0 : FnOkX (YCtx y44x0z600000022) Try.prog 92 sh92x0 (A92x0 N) :=
  (h92x0s6 N).fnX progOk (T94x0_ok N) fun L x hx => ((raw92x0 N L).trans ((bind92x0 N ..).trans ((altS alt1) x hx)))
noncomputable def rg44x0 : List (Nat × List Nat) := [(0, [0, 1, 2]), (1, [3, 1, 2]), (2, [2, 7]), (3, [2, 7, 8]), (4, [17, 16, 15, 7, 8]), (5, [15, 17, 7, 16, 8]), (6, [7, 10, 17, 16, 15, 8]), (9, [17, 16, 15, 7, 8]), (10, [8])]
noncomputable def hd44x0 : Hints := [(12, [17, 16, 15, 7, 8], [8, 50008000], [50008000]), (600000022, [17, 16, 15, 7, 8, 23], [24000000003, 24000000002, 50008000, 8], [])]
noncomputable def h44x0s0 (N : Nat) : Sg Try.prog 0 44 := .start hd44x0 rg44x0
noncomputable def F44x0x600000022 (w6 : Bool) (w7 w9 : LD) (w10 : LB) (w11 w12 : Int) (w14 w16 : LD) (w17 : Bool) (w18 : LD) (k0 : LD → Option R) (k1 : Bool × LD → Option R) : Option R :=
  bnd (G92x0 N w9 w10 w11 w12 w14 w16 w17 w18 w6 w7) fun y0 =>
  bif (inlB y0) then
    k0 (inlV y0)
  else
    bif (inrQ y0).isSome then
      k1 ((inrQ y0).getD default)
    else
      none
noncomputable def G44x0x600000022 (w6 : Bool) (w7 w9 : LD) (w10 : LB) (w11 w12 : Int) (w14 w16 : LD) (w17 : Bool) (w18 : LD) : Option (Sum (LD) (Bool × LD)) := F44x0x600000022 N w6 w7 w9 w10 w11 w12 w14 w16 w17 w18 (fun p => some (.inl p)) (fun p => some (.inr p))
theorem bind44x0x600000022 (w6 : Bool) (w7 w9 : LD) (w10 : LB) (w11 w12 : Int) (w14 w16 : LD) (w17 : Bool) (w18 : LD) (k0 : LD → Option R) (k1 : Bool × LD → Option R) : F44x0x600000022 N w6 w7 w9 w10 w11 w12 w14 w16 w17 w18 k0 k1 = (G44x0x600000022 N w6 w7 w9 w10 w11 w12 w14 w16 w17 w18).bind (sumE k0 k1) := by
  unfold G44x0x600000022 F44x0x600000022
  repeat' (first | with_reducible apply cond_b | (with_reducible apply bnd_b; intro _) | rfl)
noncomputable def J44x0x600000022 (L : List Lf) (k0 : LD → Option R) (k1 : Bool × LD → Option R) : Option R := F44x0x600000022 N (lb L 6) (ll L 7) (ll L 9) (ls L 10) (li L 11) (li L 12) (ll L 14) (ll L 16) (lb L 17) (ll L 18) k0 k1
noncomputable def sh44x0x600000022 : Sh := { tmps := [(7, .c (.sl 70)), (8, .c (.p 8 0)), (15, .c (.sl 29)), (16, .c (.i .i64)), (17, .c (.i .i64)), (23, .c (.f 92 [(24000000002, 0), (24000000003, 0)]))], mem := [(8, .box ([.o 50008000])), (50008000, .row 29 true), (24000000002, .box ([.sl 70])), (24000000003, .box (.s :: [.i .i64, .i .i64, .sl 48, .sl 111, .sl 9]))] }
noncomputable def K44x0x600000022w0 (L : List Lf) (p : LD) : Ex × St := (.normal, mg (ofSh sh44x0x600000022 L) [7, 8, 15, 16, 17] [] [8, 1000068000000033] [(8, .box [.o 1000068000000033]), (1000068000000033, .row 29 true false p)])
noncomputable def K44x0x600000022w1 (L : List Lf) (p : Bool × LD) : Ex × St := (.normal, mg (ofSh sh44x0x600000022 L) [7, 8, 15, 16, 17] [] [8, 1000000050002005] [(8, .box [.o 1000000050002005]), (1000000050002005, .row 29 true p.1 p.2)])
noncomputable def A44x0x600000022 (L : List Lf) : List (Bool × (Ex × St)) := bnd (J44x0x600000022 N L (fun p => some (.inl p)) (fun p => some (.inr p))) fun q => [((inlB q), K44x0x600000022w0 L (inlV q)), ((inrQ q).isSome, K44x0x600000022w1 L ((inrQ q).getD default))]
theorem raw44x0x600000022 (L : List Lf) : pcR Try.prog y44x0z600000022 (spSh sh92x0 (A92x0 N)) 92 3 0 44 600000022 sh44x0x600000022 L [17, 16, 15, 7, 8] [1000068000000033, 8, 1000000050002005] = J44x0x600000022 N L (fun p => some (K44x0x600000022w0 L p)) (fun p => some (K44x0x600000022w1 L p)) := by kernel_rfl
noncomputable def h44x0s1 : Sg Try.prog 0 44 :=
  (h44x0s0 N).rf (g := .tmp 23) (A44x0x600000022 N) (ok92x0 N) (fun L x hx => (raw44x0x600000022 N L).trans ((bind44x0x600000022 N ..).trans ((altS alt1) x hx))) (by kernel_rfl)
noncomputable def S44x0x12 (w1 w3 : LD) (w4 : Int) (w5 : Int) (w6 : Bool) (w7 : LD) (kr : Int → Bool → LD → Option R) (k0 : Bool × LD → Option R) : Option R :=
  bif (decide (w5 < w4)) then
    bif (inB w5 w3.length) then
      bnd (G44x0x600000022 N w6 w7 w1 ((w3.getD w5.toNat (.i 0)).cell 0).toS ((w3.getD w5.toNat (.i 0)).cell 1).toI ((w3.getD w5.toNat (.i 0)).cell 2).toI ((w3.getD w5.toNat (.i 0)).cell 3).items ((w3.getD w5.toNat (.i 0)).cell 4).items ((w3.getD w5.toNat (.i 0)).cell 5).isNil ((w3.getD w5.toNat (.i 0)).cell 5).items) fun y0 =>
      bif (inlB y0) then
        kr (IntKind.wrap .i64 (w5 + 1)) false (inlV y0)
      else
        bif (inrQ y0).isSome then
          kr (IntKind.wrap .i64 (w5 + 1)) ((inrQ y0).getD default).1 ((inrQ y0).getD default).2
        else
          none
    else
      none
  else
    k0 (w6, w7)
noncomputable def L44x0x12 (N : Nat) {R : Type} (w1 w3 : LD) (w4 : Int) : Nat → Int → Bool → LD → (Bool × LD → Option R) → Option R
  | 0, _, _, _, _ => none
  | m + 1, w5, w6, w7, k0 => S44x0x12 N w1 w3 w4 w5 w6 w7 (fun w5 w6 w7 => L44x0x12 N w1 w3 w4 m w5 w6 w7 k0) k0
noncomputable def G44x0x12 (w1 w3 : LD) (w4 : Int) (w5 : Int) (w6 : Bool) (w7 : LD) : Option (Bool × LD) := L44x0x12 N (R := (Bool × LD)) w1 w3 w4 N w5 w6 w7 (fun p => some p)
noncomputable def J44x0x12 (L x : List Lf) (kr : List Lf → Option R) (k0 : Bool × LD → Option R) : Option R := S44x0x12 N (ll L 1) (ll L 3) (li L 4) (li x 0) (lb x 1) (ll x 2) (fun w5 w6 w7 => kr [.i w5, .b w6, .l w7]) k0
theorem sb44x0x12 (L x : List Lf) (kr : List Lf → Option R) (k0 : Bool × LD → Option R) : J44x0x12 N L x kr k0 = (J44x0x12 N L x (fun y => some (.inl y)) (fun p => some (.inr p))).bind (sumE kr k0) := by
  unfold J44x0x12 S44x0x12
  repeat' (first | with_reducible apply cond_b | (with_reducible apply bnd_b; intro _) | rfl)
noncomputable def Q44x0x12 (L : List Lf) (m : Nat) (x : List Lf) : Option (Bool × LD) := L44x0x12 N (R := (Bool × LD)) (ll L 1) (ll L 3) (li L 4) m (li x 0) (lb x 1) (ll x 2) (fun p => some p)
noncomputable def sh44x0x12 : Sh := { tmps := [(7, .c (.sl 70)), (8, .c (.p 8 0)), (15, .c (.sl 29)), (16, .c (.i .i64)), (17, .c (.i .i64))], mem := [(8, .box ([.o 50008000])), (50008000, .row 29 true)] }
noncomputable def K44x0x12w0 (L : List Lf) (p : Bool × LD) : Ex × St := ((.exit 0), mg (ofSh sh44x0x12 L) [8] [] [8, 50008000] [(50008000, .row 29 true p.1 p.2)])
noncomputable def A44x0x12 (L : List Lf) : List (Bool × (Ex × St)) := bnd (Q44x0x12 N L N (pk sh44x0x12 [5, 6, 7] L)) fun q => [(q.isSome, K44x0x12w0 L (q.getD default))]
theorem step44x0x12 (m : Nat) (kn : St → Option (Ex × St)) (L x : List Lf) : lpB Try.prog (T94x0 N) (h44x0s1 N).h 0 44 12 sh44x0x12 [5, 6, 7] [6, 8] [50008000, 8] (m + 100) kn L x = J44x0x12 N L x (fun y => kn (ofSh sh44x0x12 (mx sh44x0x12 [5, 6, 7] L y))) (fun p => some (K44x0x12w0 L p)) := by kernel_rfl
theorem ql44x0x12 (L : List Lf) (m : Nat) (x : List Lf) : Q44x0x12 N L (m + 1) x = J44x0x12 N L x (Q44x0x12 N L m) some := by kernel_rfl
noncomputable def h44x0s2 : Sg Try.prog 0 44 :=
  (h44x0s1 N).lp (A44x0x12 N) N progOk (T94x0_ok N) (fun m kn L x => (step44x0x12 N m kn L x).trans (sb44x0x12 N L x _ _)) (fun L m x => (ql44x0x12 N L m x).trans (sb44x0x12 N L x (Q44x0x12 N L m) some)) fun L x hx => alt1 x hx
noncomputable def F44x0 (v1 : LD) (v2 : Int) (v4 : LD) (k0 : Bool × LD → Option R) : Option R :=
  bnd (G41x0 N v1 v2) fun y0 =>
  bif y0.isSome then
    bnd (G44x0x12 N (y0.getD default).2 v4 (v4.length : Int) 0 true []) fun y1 =>
    bif y1.isSome then
      k0 (y1.getD default)
    else
      none
  else
    none
noncomputable def G44x0 (v1 : LD) (v2 : Int) (v4 : LD) : Option (Bool × LD) := F44x0 N v1 v2 v4 (fun p => some p)
theorem bind44x0 (v1 : LD) (v2 : Int) (v4 : LD) (k0 : Bool × LD → Option R) : F44x0 N v1 v2 v4 k0 = (G44x0 N v1 v2 v4).bind k0 := by
  unfold G44x0 F44x0
  repeat' (first | with_reducible apply cond_b | (with_reducible apply bnd_b; intro _) | rfl)
noncomputable def sh44x0 : Sh := { tmps := [(0, .g ([.sl 70])), (1, .c (.i .i64)), (2, .c (.sl 29))], mem := [] }
noncomputable def A44x0 (L : List Lf) : List (Bool × Res) := bnd (F44x0 N (ll L 1) (li L 2) (ll L 4) (fun p => some p)) fun q => [(q.isSome, ([.c (.sl 29 (q.getD default).1 (q.getD default).2)], []))]
theorem raw44x0 (L : List Lf) : bd Try.prog (T94x0 N) (h44x0s2 N).h 44 sh44x0 L = F44x0 N (ll L 1) (li L 2) (ll L 4) (fun p => some ([.c (.sl 29 p.1 p.2)], [])) := by kernel_rfl
theorem ok44x0 : FnOk Try.prog 44 sh44x0 (A44x0 N) :=
  (h44x0s2 N).fn progOk (T94x0_ok N) fun L x hx => ((raw44x0 N L).trans ((bind44x0 N ..).trans (alt1 x hx)))
noncomputable def T44x0 : Oracle := ext 44 (spSh sh44x0 (A44x0 N)) (T94x0 N)
theorem T44x0_ok : OracleOk Try.prog (T44x0 N) := FnOk.to (ok44x0 N) (T94x0_ok N)
noncomputable def rg13x0 : List (Nat × List Nat) := [(0, [0, 2, 1]), (1, [3, 1, 5]), (2, [8, 3, 1, 5]), (3, [8]), (4, [3, 1, 5])]
noncomputable def hd13x0 : Hints := []
noncomputable def h13x0s0 (N : Nat) : Sg Try.prog 0 13 := .start hd13x0 rg13x0
noncomputable def F13x0 (v1 : LD) (v2 : Int) (v3 : LB) (v4 v5 : Int) (v6 : Bool) (v7 : LD) (v8 : Bool) (v9 : LD) (v10 : Bool) (v11 : LD) (k0 : Bool × LD × Int → Option R) : Option R :=
  bnd (G39x0 N v1 v2 [(.a [(.s v3), (.i v4), (.i v5), (.l v6 v7), (.l v8 v9), (.l v10 v11)])]) fun y0 =>
  bif y0.isSome then
    bif ((y0.getD default) != 0) then
      k0 (true, [], (y0.getD default))
    else
      bnd (G44x0 N v1 v2 [(.a [(.s v3), (.i v4), (.i v5), (.l v6 v7), (.l v8 v9), (.l v10 v11)])]) fun y1 =>
      bif y1.isSome then
        k0 ((y1.getD default).1, (y1.getD default).2, 0)
      else
        none
  else
    none
noncomputable def G13x0 (v1 : LD) (v2 : Int) (v3 : LB) (v4 v5 : Int) (v6 : Bool) (v7 : LD) (v8 : Bool) (v9 : LD) (v10 : Bool) (v11 : LD) : Option (Bool × LD × Int) := F13x0 N v1 v2 v3 v4 v5 v6 v7 v8 v9 v10 v11 (fun p => some p)
theorem bind13x0 (v1 : LD) (v2 : Int) (v3 : LB) (v4 v5 : Int) (v6 : Bool) (v7 : LD) (v8 : Bool) (v9 : LD) (v10 : Bool) (v11 : LD) (k0 : Bool × LD × Int → Option R) : F13x0 N v1 v2 v3 v4 v5 v6 v7 v8 v9 v10 v11 k0 = (G13x0 N v1 v2 v3 v4 v5 v6 v7 v8 v9 v10 v11).bind k0 := by
  unfold G13x0 F13x0
  repeat' (first | with_reducible apply cond_b | (with_reducible apply bnd_b; intro _) | rfl)
noncomputable def J13x0 (L : List Lf) (k0 : Bool × LD × Int → Option R) : Option R := F13x0 N (ll L 1) (li L 2) (ls L 3) (li L 4) (li L 5) (lb L 6) (ll L 7) (lb L 8) (ll L 9) (lb L 10) (ll L 11) k0
noncomputable def sh13x0 : Sh := { tmps := [(0, .g ([.sl 70])), (1, .c (.i .i64)), (2, .g (.s :: [.i .i64, .i .i64, .sl 48, .sl 111, .sl 9]))], mem := [] }
noncomputable def A13x0 (L : List Lf) : List (Bool × Res) := bnd (J13x0 N L (fun p => some p)) fun q => [(q.isSome, ([.c (.sl 29 (q.getD default).1 (q.getD default).2.1), .c (.i .i64 (q.getD default).2.2)], []))]
theorem raw13x0 (L : List Lf) : bd Try.prog (T44x0 N) (h13x0s0 N).h 13 sh13x0 L = J13x0 N L (fun p => some ([.c (.sl 29 p.1 p.2.1), .c (.i .i64 p.2.2)], [])) := by kernel_rfl
theorem ok13x0 : FnOk Try.prog 13 sh13x0 (A13x0 N) :=
  (h13x0s0 N).fn progOk (T44x0_ok N) fun L x hx => ((raw13x0 N L).trans ((bind13x0 N ..).trans (alt1 x hx)))
noncomputable def T13x0 : Oracle := ext 13 (spSh sh13x0 (A13x0 N)) (T44x0 N)
theorem T13x0_ok : OracleOk Try.prog (T13x0 N) := FnOk.to (ok13x0 N) (T44x0_ok N)
noncomputable def rg12x0 : List (Nat × List Nat) := [(0, []), (1, []), (2, [1]), (3, [1, 2]), (4, [4, 3])]
noncomputable def hd12x0 : Hints := []
noncomputable def h12x0s0 (N : Nat) : Sg Try.prog 0 12 := .start hd12x0 rg12x0
noncomputable def F12x0 (k0 : Bool → Option R) : Option R :=
  bnd (G13x0 N [(.a [(.i 2), (.i 1), (.i 0), (.i 0), (.i 10), (.i 0), (.i 0), (.i 0), (.s ([] : List UInt8))])] 2 ([109] : List UInt8) 1 0 false [(.a [(.i 0), (.i 0), (.i 0), (.i 0), (.i (-1)), (.i (-1)), (.i (-1))]), (.a [(.i 10), (.i 100), (.i 0), (.i 0), (.i (-1)), (.i (-1)), (.i (-1))])] true [] true []) fun y0 =>
  bif y0.isSome then
    bnd (bif ((y0.getD default).2.2 == 0) then (((y0.getD default).2.1.length : Int) == 1) else false) fun y1 =>
    bif (bif (inB 0 (y0.getD default).2.1.length) then true else (!(y1 == true))) then
      bnd (bif y1 then ((((y0.getD default).2.1.getD 0 (.i 0)).cell 2).toI == 10) else false) fun y2 =>
      bif (bif (inB 0 (y0.getD default).2.1.length) then true else (!(y2 == true))) then
        bnd (bif y2 then (((((y0.getD default).2.1.getD 0 (.i 0)).cell 3).items.length : Int) == 1) else false) fun y3 =>
        bif (bif (inB 0 (y0.getD default).2.1.length) then true else (!(y3 == true))) then
          bif (bif (inB 0 (((y0.getD default).2.1.getD 0 (.i 0)).cell 3).items.length) then true else (!(y3 == true))) then
            bnd (bif y3 then ((((((y0.getD default).2.1.getD 0 (.i 0)).cell 3).items.getD 0 (.i 0)).cell 1).toI == 100) else false) fun y4 =>
            k0 y4
          else
            none
        else
          none
      else
        none
    else
      none
  else
    none
noncomputable def G12x0 : Option (Bool) := F12x0 N (fun p => some p)
theorem bind12x0 (k0 : Bool → Option R) : F12x0 N k0 = (G12x0 N).bind k0 := by
  unfold G12x0 F12x0
  repeat' (first | with_reducible apply cond_b | (with_reducible apply bnd_b; intro _) | rfl)
noncomputable def sh12x0 : Sh := { tmps := [], mem := [] }
noncomputable def A12x0 (L : List Lf) : List (Bool × Res) := bnd (F12x0 N (fun p => some p)) fun q => [(q.isSome, ([.c (.b (q.getD default))], []))]
theorem raw12x0 (L : List Lf) : bd Try.prog (T13x0 N) (h12x0s0 N).h 12 sh12x0 L = F12x0 N (fun p => some ([.c (.b p)], [])) := by kernel_rfl
theorem ok12x0 : FnOk Try.prog 12 sh12x0 (A12x0 N) :=
  (h12x0s0 N).fn progOk (T13x0_ok N) fun L x hx => ((raw12x0 N L).trans ((bind12x0 N ..).trans (alt1 x hx)))
noncomputable def T12x0 : Oracle := ext 12 (spSh sh12x0 (A12x0 N)) (T13x0 N)
theorem T12x0_ok : OracleOk Try.prog (T12x0 N) := FnOk.to (ok12x0 N) (T13x0_ok N)
noncomputable def rg20x0 : List (Nat × List Nat) := [(0, [0]), (1, [0]), (2, []), (3, [0])]
noncomputable def hd20x0 : Hints := []
noncomputable def h20x0s0 (N : Nat) : Sg Try.prog 0 20 := .start hd20x0 rg20x0 true
noncomputable def F20x0 (N : Nat) (v0 : Bool) (v1 : LD) (k0 : Unit → Option R) (k1 : Bool → Option R) : Option R :=
  bif v0 then
    k0 ()
  else
    bif (decide ((0 + v1.length) * 56 ≤ room) && decide ((0 + v1.length) ≤ strMax)) then
      k1 (v1.isEmpty && false)
    else
      none
noncomputable def G20x0 (v0 : Bool) (v1 : LD) : Option (Sum (Unit) (Bool)) := F20x0 N v0 v1 (fun p => some (.inl p)) (fun p => some (.inr p))
theorem bind20x0 (v0 : Bool) (v1 : LD) (k0 : Unit → Option R) (k1 : Bool → Option R) : F20x0 N v0 v1 k0 k1 = (G20x0 N v0 v1).bind (sumE k0 k1) := by
  unfold G20x0 F20x0
  repeat' (first | with_reducible apply cond_b | (with_reducible apply bnd_b; intro _) | rfl)
noncomputable def sh20x0 : Sh := { tmps := [(0, .c (.sl 48))], mem := [] }
noncomputable def A20x0 (L : List Lf) : List (Bool × Res) := bnd (F20x0 N (lb L 0) (ll L 1) (fun p => some (.inl p)) (fun p => some (.inr p))) fun q => [((inlB q), ([.c (.sl 48 true [])], [])), ((inrQ q).isSome, ([.c (.o 7)], [(7, .row 48 true ((inrQ q).getD default) (ll L 1))]))]
theorem raw20x0 (L : List Lf) : bd Try.prog (T12x0 N) (h20x0s0 N).h 20 sh20x0 L = F20x0 N (lb L 0) (ll L 1) (fun _ => some ([.c (.sl 48 true [])], [])) (fun p => some ([.c (.o 7)], [(7, .row 48 true p (ll L 1))])) := by kernel_rfl
theorem ok20x0 : FnOk Try.prog 20 sh20x0 (A20x0 N) :=
  (h20x0s0 N).fn progOk (T12x0_ok N) fun L x hx => ((raw20x0 N L).trans ((bind20x0 N ..).trans ((altS alt1) x hx)))
noncomputable def T20x0 : Oracle := ext 20 (spSh sh20x0 (A20x0 N)) (T12x0 N)
theorem T20x0_ok : OracleOk Try.prog (T20x0 N) := FnOk.to (ok20x0 N) (T12x0_ok N)
noncomputable def rg52x0 : List (Nat × List Nat) := [(0, [0, 1]), (1, [0, 1]), (2, [8, 7, 1, 0]), (3, [8, 1, 0, 7]), (4, [1, 0, 5, 8, 7]), (5, [5]), (6, [8, 7, 1, 0]), (7, [])]
noncomputable def hd52x0 : Hints := [(6, [8, 7, 1, 0], [], [])]
noncomputable def h52x0s0 (N : Nat) : Sg Try.prog 0 52 := .start hd52x0 rg52x0
noncomputable def S52x0x6 (N : Nat) (w1 : LD) (w2 w3 : Int) (w4 : Int) (kr : Int → Option R) (k0 : Int → Option R) (k1 : Unit → Option R) : Option R :=
  bif (decide (w4 < w3)) then
    bif (inB w4 w1.length) then
      bif (w2 == (w1.getD w4.toNat (.i 0)).toI) then
        k0 w4
      else
        kr (IntKind.wrap .i64 (w4 + 1))
    else
      none
  else
    k1 ()
noncomputable def L52x0x6 (N : Nat) {R : Type} (w1 : LD) (w2 w3 : Int) : Nat → Int → (Int → Option R) → (Unit → Option R) → Option R
  | 0, _, _, _ => none
  | m + 1, w4, k0, k1 => S52x0x6 N w1 w2 w3 w4 (fun w4 => L52x0x6 N w1 w2 w3 m w4 k0 k1) k0 k1
noncomputable def G52x0x6 (w1 : LD) (w2 w3 : Int) (w4 : Int) : Option (Sum (Int) (Unit)) := L52x0x6 N (R := (Sum (Int) (Unit))) w1 w2 w3 N w4 (fun p => some (.inl p)) (fun p => some (.inr p))
noncomputable def J52x0x6 (L x : List Lf) (kr : List Lf → Option R) (k0 : Int → Option R) (k1 : Unit → Option R) : Option R := S52x0x6 N (ll L 1) (li L 2) (li L 3) (li x 0) (fun w4 => kr [.i w4]) k0 k1
theorem sb52x0x6 (L x : List Lf) (kr : List Lf → Option R) (k0 : Int → Option R) (k1 : Unit → Option R) : J52x0x6 N L x kr k0 k1 = (J52x0x6 N L x (fun y => some (.inl y)) (fun p => some (.inr (.inl p))) (fun p => some (.inr (.inr p)))).bind (sumE kr (sumE k0 k1)) := by
  unfold J52x0x6 S52x0x6
  repeat' (first | with_reducible apply cond_b | (with_reducible apply bnd_b; intro _) | rfl)
noncomputable def Q52x0x6 (L : List Lf) (m : Nat) (x : List Lf) : Option (Sum (Int) (Unit)) := L52x0x6 N (R := (Sum (Int) (Unit))) (ll L 1) (li L 2) (li L 3) m (li x 0) (fun p => some (.inl p)) (fun p => some (.inr p))
noncomputable def sh52x0x6 : Sh := { tmps := [(0, .c (.sl 3)), (1, .c (.i .i64)), (7, .c (.i .i64)), (8, .c (.i .i64))], mem := [] }
noncomputable def A52x0x6 (L : List Lf) : List (Bool × (Ex × St)) := bnd (Q52x0x6 N L N (pk sh52x0x6 [4] L)) fun q => [((inlB q), (.ret, ⟨[(4, .c (.i .i64 (inlV q)))], []⟩)), ((inrQ q).isSome, ((.exit 0), ⟨[], []⟩))]
theorem step52x0x6 (m : Nat) (kn : St → Option (Ex × St)) (L x : List Lf) : lpB Try.prog (T20x0 N) (h52x0s0 N).h 0 52 6 sh52x0x6 [4] [4] [] (m + 100) kn L x = J52x0x6 N L x (fun y => kn (ofSh sh52x0x6 (mx sh52x0x6 [4] L y))) (fun p => some (.ret, ⟨[(4, .c (.i .i64 p))], []⟩)) (fun _ => some ((.exit 0), ⟨[], []⟩)) := by kernel_rfl
theorem ql52x0x6 (L : List Lf) (m : Nat) (x : List Lf) : Q52x0x6 N L (m + 1) x = J52x0x6 N L x (Q52x0x6 N L m) (fun p => some (.inl p)) (fun p => some (.inr p)) := by kernel_rfl
noncomputable def h52x0s1 : Sg Try.prog 0 52 :=
  (h52x0s0 N).lp (A52x0x6 N) N progOk (T20x0_ok N) (fun m kn L x => (step52x0x6 N m kn L x).trans (sb52x0x6 N L x _ _ _)) (fun L m x => (ql52x0x6 N L m x).trans (sb52x0x6 N L x (Q52x0x6 N L m) (fun p => some (.inl p)) (fun p => some (.inr p)))) fun L x hx => (altS alt1) x hx
noncomputable def F52x0 (v1 : LD) (v2 : Int) (k0 : Int → Option R) : Option R :=
  bnd (G52x0x6 N v1 v2 (v1.length : Int) 0) fun y0 =>
  bif (inlB y0) then
    k0 (inlV y0)
  else
    bif (inrQ y0).isSome then
      k0 (-1)
    else
      none
noncomputable def G52x0 (v1 : LD) (v2 : Int) : Option (Int) := F52x0 N v1 v2 (fun p => some p)
theorem bind52x0 (v1 : LD) (v2 : Int) (k0 : Int → Option R) : F52x0 N v1 v2 k0 = (G52x0 N v1 v2).bind k0 := by
  unfold G52x0 F52x0
  repeat' (first | with_reducible apply cond_b | (with_reducible apply bnd_b; intro _) | rfl)
noncomputable def sh52x0 : Sh := { tmps := [(0, .c (.sl 3)), (1, .c (.i .i64))], mem := [] }
noncomputable def A52x0 (L : List Lf) : List (Bool × Res) := bnd (F52x0 N (ll L 1) (li L 2) (fun p => some p)) fun q => [(q.isSome, ([.c (.i .i64 (q.getD default))], []))]
theorem raw52x0 (L : List Lf) : bd Try.prog (T20x0 N) (h52x0s1 N).h 52 sh52x0 L = F52x0 N (ll L 1) (li L 2) (fun p => some ([.c (.i .i64 p)], [])) := by kernel_rfl
theorem ok52x0 : FnOk Try.prog 52 sh52x0 (A52x0 N) :=
  (h52x0s1 N).fn progOk (T20x0_ok N) fun L x hx => ((raw52x0 N L).trans ((bind52x0 N ..).trans (alt1 x hx)))
noncomputable def T52x0 : Oracle := ext 52 (spSh sh52x0 (A52x0 N)) (T20x0 N)
theorem T52x0_ok : OracleOk Try.prog (T52x0 N) := FnOk.to (ok52x0 N) (T20x0_ok N)
noncomputable def rg21x0 : List (Nat × List Nat) := [(0, [0, 1]), (1, [0, 1])]
noncomputable def hd21x0 : Hints := []
noncomputable def h21x0s0 (N : Nat) : Sg Try.prog 0 21 := .start hd21x0 rg21x0
noncomputable def F21x0 (v1 : LD) (v2 : Int) (k0 : Bool → Option R) : Option R :=
  bnd (G52x0 N v1 v2) fun y0 =>
  bif y0.isSome then
    k0 (decide ((y0.getD default) ≥ 0))
  else
    none
noncomputable def G21x0 (v1 : LD) (v2 : Int) : Option (Bool) := F21x0 N v1 v2 (fun p => some p)
theorem bind21x0 (v1 : LD) (v2 : Int) (k0 : Bool → Option R) : F21x0 N v1 v2 k0 = (G21x0 N v1 v2).bind k0 := by
  unfold G21x0 F21x0
  repeat' (first | with_reducible apply cond_b | (with_reducible apply bnd_b; intro _) | rfl)
noncomputable def sh21x0 : Sh := { tmps := [(0, .c (.sl 3)), (1, .c (.i .i64))], mem := [] }
noncomputable def A21x0 (L : List Lf) : List (Bool × Res) := bnd (F21x0 N (ll L 1) (li L 2) (fun p => some p)) fun q => [(q.isSome, ([.c (.b (q.getD default))], []))]
theorem raw21x0 (L : List Lf) : bd Try.prog (T52x0 N) (h21x0s0 N).h 21 sh21x0 L = F21x0 N (ll L 1) (li L 2) (fun p => some ([.c (.b p)], [])) := by kernel_rfl
theorem ok21x0 : FnOk Try.prog 21 sh21x0 (A21x0 N) :=
  (h21x0s0 N).fn progOk (T52x0_ok N) fun L x hx => ((raw21x0 N L).trans ((bind21x0 N ..).trans (alt1 x hx)))
noncomputable def T21x0 : Oracle := ext 21 (spSh sh21x0 (A21x0 N)) (T52x0 N)
theorem T21x0_ok : OracleOk Try.prog (T21x0 N) := FnOk.to (ok21x0 N) (T52x0_ok N)
noncomputable def rg22x0 : List (Nat × List Nat) := [(0, [0]), (1, [0]), (2, [0, 3]), (3, [8, 7, 6, 3]), (4, [6, 8, 3, 7]), (5, [5, 3, 8, 7, 6]), (6, [3, 8, 7, 6]), (7, [8, 7, 6, 3]), (8, [3])]
noncomputable def hd22x0 : Hints := [(9, [8, 7, 6, 3], [], []), (20, [3, 8, 7, 6, 13], [], [])]
noncomputable def h22x0s0 (N : Nat) : Sg Try.prog 0 22 := .start hd22x0 rg22x0
noncomputable def F22x0x20 (N : Nat) (w0 : Int) (w5 : Bool) (k0 : Int → R) : R :=
  bif w5 then
    k0 (IntKind.wrap .i64 (w0 + 1))
  else
    k0 w0
noncomputable def V22x0x20 (w0 : Int) (w5 : Bool) : Int := F22x0x20 N w0 w5 (fun p => p)
theorem tot22x0x20 (w0 : Int) (w5 : Bool) (k0 : Int → R) : F22x0x20 N w0 w5 k0 = k0 (V22x0x20 N w0 w5) := by
  unfold V22x0x20 F22x0x20
  repeat' (first | rfl | apply cond_k | (apply bnd_k; intro _))
noncomputable def sh22x0x20 : Sh := { tmps := [(3, .c (.i .i64)), (6, .c (.sl 4)), (7, .c (.i .i64)), (8, .c (.i .i64)), (13, .c (.b))], mem := [] }
noncomputable def K22x0x20w0 (L : List Lf) (p : Int) : Ex × St := (.normal, mg (ofSh sh22x0x20 L) [3, 6, 7, 8] [(3, .c (.i .i64 p))] [] [])
noncomputable def A22x0x20 (L : List Lf) : List (Bool × (Ex × St)) := bnd (F22x0x20 N (li L 0) (lb L 5) (fun p => p)) fun q => [(true, K22x0x20w0 L q)]
theorem raw22x0x20 (L : List Lf) : pc Try.prog (T21x0 N) (h22x0s0 N).h 0 100 22 20 sh22x0x20 L [8, 7, 6, 3] [] = F22x0x20 N (li L 0) (lb L 5) (fun p => some (K22x0x20w0 L p)) := by kernel_rfl
noncomputable def h22x0s1 : Sg Try.prog 0 22 :=
  (h22x0s0 N).cut (A22x0x20 N) progOk (T21x0_ok N) fun L x hx => (raw22x0x20 N L).trans ((tot22x0x20 N ..).trans (alt0 _ _ hx))
noncomputable def S22x0x9 (w2 : LD) (w3 : Int) (w0 w4 : Int) (kr : Int → Int → Option R) (k0 : Int → Option R) : Option R :=
  bif (decide (w4 < w3)) then
    bif (inB w4 w2.length) then
      bnd (V22x0x20 N w0 (!(w2.getD w4.toNat (.i 0)).toB)) fun y0 =>
      kr y0 (IntKind.wrap .i64 (w4 + 1))
    else
      none
  else
    k0 w0
noncomputable def L22x0x9 (N : Nat) {R : Type} (w2 : LD) (w3 : Int) : Nat → Int → Int → (Int → Option R) → Option R
  | 0, _, _, _ => none
  | m + 1, w0, w4, k0 => S22x0x9 N w2 w3 w0 w4 (fun w0 w4 => L22x0x9 N w2 w3 m w0 w4 k0) k0
noncomputable def G22x0x9 (w2 : LD) (w3 : Int) (w0 w4 : Int) : Option (Int) := L22x0x9 N (R := (Int)) w2 w3 N w0 w4 (fun p => some p)
noncomputable def J22x0x9 (L x : List Lf) (kr : List Lf → Option R) (k0 : Int → Option R) : Option R := S22x0x9 N (ll L 2) (li L 3) (li x 0) (li x 1) (fun w0 w4 => kr [.i w0, .i w4]) k0
theorem sb22x0x9 (L x : List Lf) (kr : List Lf → Option R) (k0 : Int → Option R) : J22x0x9 N L x kr k0 = (J22x0x9 N L x (fun y => some (.inl y)) (fun p => some (.inr p))).bind (sumE kr k0) := by
  unfold J22x0x9 S22x0x9
  repeat' (first | with_reducible apply cond_b | (with_reducible apply bnd_b; intro _) | rfl)
noncomputable def Q22x0x9 (L : List Lf) (m : Nat) (x : List Lf) : Option (Int) := L22x0x9 N (R := (Int)) (ll L 2) (li L 3) m (li x 0) (li x 1) (fun p => some p)
noncomputable def sh22x0x9 : Sh := { tmps := [(3, .c (.i .i64)), (6, .c (.sl 4)), (7, .c (.i .i64)), (8, .c (.i .i64))], mem := [] }
noncomputable def A22x0x9 (L : List Lf) : List (Bool × (Ex × St)) := bnd (Q22x0x9 N L N (pk sh22x0x9 [0, 4] L)) fun q => [(q.isSome, ((.exit 0), ⟨[(3, .c (.i .i64 (q.getD default)))], []⟩))]
theorem step22x0x9 (m : Nat) (kn : St → Option (Ex × St)) (L x : List Lf) : lpB Try.prog (T21x0 N) (h22x0s1 N).h 0 22 9 sh22x0x9 [0, 4] [2, 3] [] (m + 100) kn L x = J22x0x9 N L x (fun y => kn (ofSh sh22x0x9 (mx sh22x0x9 [0, 4] L y))) (fun p => some ((.exit 0), ⟨[(3, .c (.i .i64 p))], []⟩)) := by kernel_rfl
theorem ql22x0x9 (L : List Lf) (m : Nat) (x : List Lf) : Q22x0x9 N L (m + 1) x = J22x0x9 N L x (Q22x0x9 N L m) some := by kernel_rfl
noncomputable def h22x0s2 : Sg Try.prog 0 22 :=
  (h22x0s1 N).lp (A22x0x9 N) N progOk (T21x0_ok N) (fun m kn L x => (step22x0x9 N m kn L x).trans (sb22x0x9 N L x _ _)) (fun L m x => (ql22x0x9 N L m x).trans (sb22x0x9 N L x (Q22x0x9 N L m) some)) fun L x hx => alt1 x hx
noncomputable def F22x0 (v1 : LD) (k0 : Int → Option R) : Option R :=
  bnd (G22x0x9 N v1 (v1.length : Int) 0 0) fun y0 =>
  bif y0.isSome then
    k0 (y0.getD default)
  else
    none
noncomputable def G22x0 (v1 : LD) : Option (Int) := F22x0 N v1 (fun p => some p)
theorem bind22x0 (v1 : LD) (k0 : Int → Option R) : F22x0 N v1 k0 = (G22x0 N v1).bind k0 := by
  unfold G22x0 F22x0
  repeat' (first | with_reducible apply cond_b | (with_reducible apply bnd_b; intro _) | rfl)
noncomputable def sh22x0 : Sh := { tmps := [(0, .c (.sl 4))], mem := [] }
noncomputable def A22x0 (L : List Lf) : List (Bool × Res) := bnd (F22x0 N (ll L 1) (fun p => some p)) fun q => [(q.isSome, ([.c (.i .i64 (q.getD default))], []))]
theorem raw22x0 (L : List Lf) : bd Try.prog (T21x0 N) (h22x0s2 N).h 22 sh22x0 L = F22x0 N (ll L 1) (fun p => some ([.c (.i .i64 p)], [])) := by kernel_rfl
theorem ok22x0 : FnOk Try.prog 22 sh22x0 (A22x0 N) :=
  (h22x0s2 N).fn progOk (T21x0_ok N) fun L x hx => ((raw22x0 N L).trans ((bind22x0 N ..).trans (alt1 x hx)))
noncomputable def T22x0 : Oracle := ext 22 (spSh sh22x0 (A22x0 N)) (T21x0 N)
theorem T22x0_ok : OracleOk Try.prog (T22x0 N) := FnOk.to (ok22x0 N) (T21x0_ok N)
noncomputable def rg79x0 : List (Nat × List Nat) := [(0, [0, 1]), (1, [0, 1]), (2, []), (3, [0, 1]), (4, [13, 12, 0, 1]), (5, [13, 0, 1, 12]), (6, [0, 5, 1, 13, 12]), (7, []), (8, [13, 12, 0, 1]), (9, [])]
noncomputable def hd79x0 : Hints := [(12, [13, 12, 0, 1], [], [])]
noncomputable def h79x0s0 (N : Nat) : Sg Try.prog 0 79 := .start hd79x0 rg79x0
noncomputable def S79x0x12 (N : Nat) (w1 w3 : LD) (w4 : Int) (w5 : Int) (kr : Int → Option R) (k0 : Unit → Option R) (k1 : Unit → Option R) : Option R :=
  bif (decide (w5 < w4)) then
    bif (inB w5 w1.length) then
      bif (inB w5 w3.length) then
        bnd (!((((w1.getD w5.toNat (.i 0)).cell 0).toI == ((w3.getD w5.toNat (.i 0)).cell 0).toI) && ((((w1.getD w5.toNat (.i 0)).cell 1).toI == ((w3.getD w5.toNat (.i 0)).cell 1).toI) && ((((w1.getD w5.toNat (.i 0)).cell 2).toI == ((w3.getD w5.toNat (.i 0)).cell 2).toI) && ((((w1.getD w5.toNat (.i 0)).cell 3).toI == ((w3.getD w5.toNat (.i 0)).cell 3).toI) && ((((w1.getD w5.toNat (.i 0)).cell 4).toI == ((w3.getD w5.toNat (.i 0)).cell 4).toI) && ((((w1.getD w5.toNat (.i 0)).cell 5).toI == ((w3.getD w5.toNat (.i 0)).cell 5).toI) && ((((w1.getD w5.toNat (.i 0)).cell 6).toI == ((w3.getD w5.toNat (.i 0)).cell 6).toI) && true)))))))) fun y0 =>
        bif y0 then
          k0 ()
        else
          kr (IntKind.wrap .i64 (w5 + 1))
      else
        none
    else
      none
  else
    k1 ()
noncomputable def L79x0x12 (N : Nat) {R : Type} (w1 w3 : LD) (w4 : Int) : Nat → Int → (Unit → Option R) → (Unit → Option R) → Option R
  | 0, _, _, _ => none
  | m + 1, w5, k0, k1 => S79x0x12 N w1 w3 w4 w5 (fun w5 => L79x0x12 N w1 w3 w4 m w5 k0 k1) k0 k1
noncomputable def G79x0x12 (w1 w3 : LD) (w4 : Int) (w5 : Int) : Option (Sum (Unit) (Unit)) := L79x0x12 N (R := (Sum (Unit) (Unit))) w1 w3 w4 N w5 (fun p => some (.inl p)) (fun p => some (.inr p))
noncomputable def J79x0x12 (L x : List Lf) (kr : List Lf → Option R) (k0 : Unit → Option R) (k1 : Unit → Option R) : Option R := S79x0x12 N (ll L 1) (ll L 3) (li L 4) (li x 0) (fun w5 => kr [.i w5]) k0 k1
theorem sb79x0x12 (L x : List Lf) (kr : List Lf → Option R) (k0 : Unit → Option R) (k1 : Unit → Option R) : J79x0x12 N L x kr k0 k1 = (J79x0x12 N L x (fun y => some (.inl y)) (fun p => some (.inr (.inl p))) (fun p => some (.inr (.inr p)))).bind (sumE kr (sumE k0 k1)) := by
  unfold J79x0x12 S79x0x12
  repeat' (first | with_reducible apply cond_b | (with_reducible apply bnd_b; intro _) | rfl)
noncomputable def Q79x0x12 (L : List Lf) (m : Nat) (x : List Lf) : Option (Sum (Unit) (Unit)) := L79x0x12 N (R := (Sum (Unit) (Unit))) (ll L 1) (ll L 3) (li L 4) m (li x 0) (fun p => some (.inl p)) (fun p => some (.inr p))
noncomputable def sh79x0x12 : Sh := { tmps := [(0, .c (.sl 48)), (1, .c (.sl 48)), (12, .c (.i .i64)), (13, .c (.i .i64))], mem := [] }
noncomputable def A79x0x12 (L : List Lf) : List (Bool × (Ex × St)) := bnd (Q79x0x12 N L N (pk sh79x0x12 [5] L)) fun q => [((inlB q), (.ret, ⟨[(4, .c (.b false))], []⟩)), ((inrQ q).isSome, ((.exit 0), ⟨[], []⟩))]
theorem step79x0x12 (m : Nat) (kn : St → Option (Ex × St)) (L x : List Lf) : lpB Try.prog (T22x0 N) (h79x0s0 N).h 0 79 12 sh79x0x12 [5] [4] [] (m + 100) kn L x = J79x0x12 N L x (fun y => kn (ofSh sh79x0x12 (mx sh79x0x12 [5] L y))) (fun _ => some (.ret, ⟨[(4, .c (.b false))], []⟩)) (fun _ => some ((.exit 0), ⟨[], []⟩)) := by kernel_rfl
theorem ql79x0x12 (L : List Lf) (m : Nat) (x : List Lf) : Q79x0x12 N L (m + 1) x = J79x0x12 N L x (Q79x0x12 N L m) (fun p => some (.inl p)) (fun p => some (.inr p)) := by kernel_rfl
noncomputable def h79x0s1 : Sg Try.prog 0 79 :=
  (h79x0s0 N).lp (A79x0x12 N) N progOk (T22x0_ok N) (fun m kn L x => (step79x0x12 N m kn L x).trans (sb79x0x12 N L x _ _ _)) (fun L m x => (ql79x0x12 N L m x).trans (sb79x0x12 N L x (Q79x0x12 N L m) (fun p => some (.inl p)) (fun p => some (.inr p)))) fun L x hx => (altS alt1) x hx
noncomputable def F79x0 (v1 v3 : LD) (k0 : Bool → Option R) : Option R :=
  bif ((v1.length : Int) != (v3.length : Int)) then
    k0 false
  else
    bnd (G79x0x12 N v1 v3 (v1.length : Int) 0) fun y0 =>
    bif (inlB y0) then
      k0 false
    else
      bif (inrQ y0).isSome then
        k0 true
      else
        none
noncomputable def G79x0 (v1 v3 : LD) : Option (Bool) := F79x0 N v1 v3 (fun p => some p)
theorem bind79x0 (v1 v3 : LD) (k0 : Bool → Option R) : F79x0 N v1 v3 k0 = (G79x0 N v1 v3).bind k0 := by
  unfold G79x0 F79x0
  repeat' (first | with_reducible apply cond_b | (with_reducible apply bnd_b; intro _) | rfl)
noncomputable def sh79x0 : Sh := { tmps := [(0, .c (.sl 48)), (1, .c (.sl 48))], mem := [] }
noncomputable def A79x0 (L : List Lf) : List (Bool × Res) := bnd (F79x0 N (ll L 1) (ll L 3) (fun p => some p)) fun q => [(q.isSome, ([.c (.b (q.getD default))], []))]
theorem raw79x0 (L : List Lf) : bd Try.prog (T22x0 N) (h79x0s1 N).h 79 sh79x0 L = F79x0 N (ll L 1) (ll L 3) (fun p => some ([.c (.b p)], [])) := by kernel_rfl
theorem ok79x0 : FnOk Try.prog 79 sh79x0 (A79x0 N) :=
  (h79x0s1 N).fn progOk (T22x0_ok N) fun L x hx => ((raw79x0 N L).trans ((bind79x0 N ..).trans (alt1 x hx)))
noncomputable def T79x0 : Oracle := ext 79 (spSh sh79x0 (A79x0 N)) (T22x0 N)
theorem T79x0_ok : OracleOk Try.prog (T79x0 N) := FnOk.to (ok79x0 N) (T22x0_ok N)
noncomputable def rg80x0 : List (Nat × List Nat) := [(0, [0, 1]), (1, [0, 1]), (2, []), (3, [0, 1]), (4, [13, 12, 0, 1]), (5, [13, 0, 1, 12]), (6, [0, 5, 1, 13, 12]), (7, []), (8, [13, 12, 0, 1]), (9, [])]
noncomputable def hd80x0 : Hints := [(12, [13, 12, 0, 1], [], [])]
noncomputable def h80x0s0 (N : Nat) : Sg Try.prog 0 80 := .start hd80x0 rg80x0
noncomputable def S80x0x12 (N : Nat) (w1 w3 : LD) (w4 : Int) (w5 : Int) (kr : Int → Option R) (k0 : Unit → Option R) (k1 : Unit → Option R) : Option R :=
  bif (decide (w5 < w4)) then
    bif (inB w5 w1.length) then
      bif (inB w5 w3.length) then
        bnd (!((((w1.getD w5.toNat (.i 0)).cell 0).toI == ((w3.getD w5.toNat (.i 0)).cell 0).toI) && ((((w1.getD w5.toNat (.i 0)).cell 1).toI == ((w3.getD w5.toNat (.i 0)).cell 1).toI) && ((((w1.getD w5.toNat (.i 0)).cell 2).toS == ((w3.getD w5.toNat (.i 0)).cell 2).toS) && true)))) fun y0 =>
        bif y0 then
          k0 ()
        else
          kr (IntKind.wrap .i64 (w5 + 1))
      else
        none
    else
      none
  else
    k1 ()
noncomputable def L80x0x12 (N : Nat) {R : Type} (w1 w3 : LD) (w4 : Int) : Nat → Int → (Unit → Option R) → (Unit → Option R) → Option R
  | 0, _, _, _ => none
  | m + 1, w5, k0, k1 => S80x0x12 N w1 w3 w4 w5 (fun w5 => L80x0x12 N w1 w3 w4 m w5 k0 k1) k0 k1
noncomputable def G80x0x12 (w1 w3 : LD) (w4 : Int) (w5 : Int) : Option (Sum (Unit) (Unit)) := L80x0x12 N (R := (Sum (Unit) (Unit))) w1 w3 w4 N w5 (fun p => some (.inl p)) (fun p => some (.inr p))
noncomputable def J80x0x12 (L x : List Lf) (kr : List Lf → Option R) (k0 : Unit → Option R) (k1 : Unit → Option R) : Option R := S80x0x12 N (ll L 1) (ll L 3) (li L 4) (li x 0) (fun w5 => kr [.i w5]) k0 k1
theorem sb80x0x12 (L x : List Lf) (kr : List Lf → Option R) (k0 : Unit → Option R) (k1 : Unit → Option R) : J80x0x12 N L x kr k0 k1 = (J80x0x12 N L x (fun y => some (.inl y)) (fun p => some (.inr (.inl p))) (fun p => some (.inr (.inr p)))).bind (sumE kr (sumE k0 k1)) := by
  unfold J80x0x12 S80x0x12
  repeat' (first | with_reducible apply cond_b | (with_reducible apply bnd_b; intro _) | rfl)
noncomputable def Q80x0x12 (L : List Lf) (m : Nat) (x : List Lf) : Option (Sum (Unit) (Unit)) := L80x0x12 N (R := (Sum (Unit) (Unit))) (ll L 1) (ll L 3) (li L 4) m (li x 0) (fun p => some (.inl p)) (fun p => some (.inr p))
noncomputable def sh80x0x12 : Sh := { tmps := [(0, .c (.sl 111)), (1, .c (.sl 111)), (12, .c (.i .i64)), (13, .c (.i .i64))], mem := [] }
noncomputable def A80x0x12 (L : List Lf) : List (Bool × (Ex × St)) := bnd (Q80x0x12 N L N (pk sh80x0x12 [5] L)) fun q => [((inlB q), (.ret, ⟨[(4, .c (.b false))], []⟩)), ((inrQ q).isSome, ((.exit 0), ⟨[], []⟩))]
theorem step80x0x12 (m : Nat) (kn : St → Option (Ex × St)) (L x : List Lf) : lpB Try.prog (T79x0 N) (h80x0s0 N).h 0 80 12 sh80x0x12 [5] [4] [] (m + 100) kn L x = J80x0x12 N L x (fun y => kn (ofSh sh80x0x12 (mx sh80x0x12 [5] L y))) (fun _ => some (.ret, ⟨[(4, .c (.b false))], []⟩)) (fun _ => some ((.exit 0), ⟨[], []⟩)) := by kernel_rfl
theorem ql80x0x12 (L : List Lf) (m : Nat) (x : List Lf) : Q80x0x12 N L (m + 1) x = J80x0x12 N L x (Q80x0x12 N L m) (fun p => some (.inl p)) (fun p => some (.inr p)) := by kernel_rfl
noncomputable def h80x0s1 : Sg Try.prog 0 80 :=
  (h80x0s0 N).lp (A80x0x12 N) N progOk (T79x0_ok N) (fun m kn L x => (step80x0x12 N m kn L x).trans (sb80x0x12 N L x _ _ _)) (fun L m x => (ql80x0x12 N L m x).trans (sb80x0x12 N L x (Q80x0x12 N L m) (fun p => some (.inl p)) (fun p => some (.inr p)))) fun L x hx => (altS alt1) x hx
noncomputable def F80x0 (v1 v3 : LD) (k0 : Bool → Option R) : Option R :=
  bif ((v1.length : Int) != (v3.length : Int)) then
    k0 false
  else
    bnd (G80x0x12 N v1 v3 (v1.length : Int) 0) fun y0 =>
    bif (inlB y0) then
      k0 false
    else
      bif (inrQ y0).isSome then
        k0 true
      else
        none
noncomputable def G80x0 (v1 v3 : LD) : Option (Bool) := F80x0 N v1 v3 (fun p => some p)
theorem bind80x0 (v1 v3 : LD) (k0 : Bool → Option R) : F80x0 N v1 v3 k0 = (G80x0 N v1 v3).bind k0 := by
  unfold G80x0 F80x0
  repeat' (first | with_reducible apply cond_b | (with_reducible apply bnd_b; intro _) | rfl)
noncomputable def sh80x0 : Sh := { tmps := [(0, .c (.sl 111)), (1, .c (.sl 111))], mem := [] }
noncomputable def A80x0 (L : List Lf) : List (Bool × Res) := bnd (F80x0 N (ll L 1) (ll L 3) (fun p => some p)) fun q => [(q.isSome, ([.c (.b (q.getD default))], []))]
theorem raw80x0 (L : List Lf) : bd Try.prog (T79x0 N) (h80x0s1 N).h 80 sh80x0 L = F80x0 N (ll L 1) (ll L 3) (fun p => some ([.c (.b p)], [])) := by kernel_rfl
theorem ok80x0 : FnOk Try.prog 80 sh80x0 (A80x0 N) :=
  (h80x0s1 N).fn progOk (T79x0_ok N) fun L x hx => ((raw80x0 N L).trans ((bind80x0 N ..).trans (alt1 x hx)))
noncomputable def T80x0 : Oracle := ext 80 (spSh sh80x0 (A80x0 N)) (T79x0 N)
theorem T80x0_ok : OracleOk Try.prog (T80x0 N) := FnOk.to (ok80x0 N) (T79x0_ok N)
noncomputable def rg81x0 : List (Nat × List Nat) := [(0, [0, 1]), (1, [0, 1]), (2, []), (3, [0, 1]), (4, [13, 12, 0, 1]), (5, [13, 0, 1, 12]), (6, [0, 5, 1, 13, 12]), (7, []), (8, [13, 12, 0, 1]), (9, [])]
noncomputable def hd81x0 : Hints := [(12, [13, 12, 0, 1], [], [])]
noncomputable def h81x0s0 (N : Nat) : Sg Try.prog 0 81 := .start hd81x0 rg81x0
noncomputable def S81x0x12 (N : Nat) (w1 w3 : LD) (w4 : Int) (w5 : Int) (kr : Int → Option R) (k0 : Unit → Option R) (k1 : Unit → Option R) : Option R :=
  bif (decide (w5 < w4)) then
    bif (inB w5 w1.length) then
      bif (inB w5 w3.length) then
        bnd (!((w1.getD w5.toNat (.i 0)).toS == (w3.getD w5.toNat (.i 0)).toS)) fun y0 =>
        bif y0 then
          k0 ()
        else
          kr (IntKind.wrap .i64 (w5 + 1))
      else
        none
    else
      none
  else
    k1 ()
noncomputable def L81x0x12 (N : Nat) {R : Type} (w1 w3 : LD) (w4 : Int) : Nat → Int → (Unit → Option R) → (Unit → Option R) → Option R
  | 0, _, _, _ => none
  | m + 1, w5, k0, k1 => S81x0x12 N w1 w3 w4 w5 (fun w5 => L81x0x12 N w1 w3 w4 m w5 k0 k1) k0 k1
noncomputable def G81x0x12 (w1 w3 : LD) (w4 : Int) (w5 : Int) : Option (Sum (Unit) (Unit)) := L81x0x12 N (R := (Sum (Unit) (Unit))) w1 w3 w4 N w5 (fun p => some (.inl p)) (fun p => some (.inr p))
noncomputable def J81x0x12 (L x : List Lf) (kr : List Lf → Option R) (k0 : Unit → Option R) (k1 : Unit → Option R) : Option R := S81x0x12 N (ll L 1) (ll L 3) (li L 4) (li x 0) (fun w5 => kr [.i w5]) k0 k1
theorem sb81x0x12 (L x : List Lf) (kr : List Lf → Option R) (k0 : Unit → Option R) (k1 : Unit → Option R) : J81x0x12 N L x kr k0 k1 = (J81x0x12 N L x (fun y => some (.inl y)) (fun p => some (.inr (.inl p))) (fun p => some (.inr (.inr p)))).bind (sumE kr (sumE k0 k1)) := by
  unfold J81x0x12 S81x0x12
  repeat' (first | with_reducible apply cond_b | (with_reducible apply bnd_b; intro _) | rfl)
noncomputable def Q81x0x12 (L : List Lf) (m : Nat) (x : List Lf) : Option (Sum (Unit) (Unit)) := L81x0x12 N (R := (Sum (Unit) (Unit))) (ll L 1) (ll L 3) (li L 4) m (li x 0) (fun p => some (.inl p)) (fun p => some (.inr p))
noncomputable def sh81x0x12 : Sh := { tmps := [(0, .c (.sl 9)), (1, .c (.sl 9)), (12, .c (.i .i64)), (13, .c (.i .i64))], mem := [] }
noncomputable def A81x0x12 (L : List Lf) : List (Bool × (Ex × St)) := bnd (Q81x0x12 N L N (pk sh81x0x12 [5] L)) fun q => [((inlB q), (.ret, ⟨[(4, .c (.b false))], []⟩)), ((inrQ q).isSome, ((.exit 0), ⟨[], []⟩))]
theorem step81x0x12 (m : Nat) (kn : St → Option (Ex × St)) (L x : List Lf) : lpB Try.prog (T80x0 N) (h81x0s0 N).h 0 81 12 sh81x0x12 [5] [4] [] (m + 100) kn L x = J81x0x12 N L x (fun y => kn (ofSh sh81x0x12 (mx sh81x0x12 [5] L y))) (fun _ => some (.ret, ⟨[(4, .c (.b false))], []⟩)) (fun _ => some ((.exit 0), ⟨[], []⟩)) := by kernel_rfl
theorem ql81x0x12 (L : List Lf) (m : Nat) (x : List Lf) : Q81x0x12 N L (m + 1) x = J81x0x12 N L x (Q81x0x12 N L m) (fun p => some (.inl p)) (fun p => some (.inr p)) := by kernel_rfl
noncomputable def h81x0s1 : Sg Try.prog 0 81 :=
  (h81x0s0 N).lp (A81x0x12 N) N progOk (T80x0_ok N) (fun m kn L x => (step81x0x12 N m kn L x).trans (sb81x0x12 N L x _ _ _)) (fun L m x => (ql81x0x12 N L m x).trans (sb81x0x12 N L x (Q81x0x12 N L m) (fun p => some (.inl p)) (fun p => some (.inr p)))) fun L x hx => (altS alt1) x hx
noncomputable def F81x0 (v1 v3 : LD) (k0 : Bool → Option R) : Option R :=
  bif ((v1.length : Int) != (v3.length : Int)) then
    k0 false
  else
    bnd (G81x0x12 N v1 v3 (v1.length : Int) 0) fun y0 =>
    bif (inlB y0) then
      k0 false
    else
      bif (inrQ y0).isSome then
        k0 true
      else
        none
noncomputable def G81x0 (v1 v3 : LD) : Option (Bool) := F81x0 N v1 v3 (fun p => some p)
theorem bind81x0 (v1 v3 : LD) (k0 : Bool → Option R) : F81x0 N v1 v3 k0 = (G81x0 N v1 v3).bind k0 := by
  unfold G81x0 F81x0
  repeat' (first | with_reducible apply cond_b | (with_reducible apply bnd_b; intro _) | rfl)
noncomputable def sh81x0 : Sh := { tmps := [(0, .c (.sl 9)), (1, .c (.sl 9))], mem := [] }
noncomputable def A81x0 (L : List Lf) : List (Bool × Res) := bnd (F81x0 N (ll L 1) (ll L 3) (fun p => some p)) fun q => [(q.isSome, ([.c (.b (q.getD default))], []))]
theorem raw81x0 (L : List Lf) : bd Try.prog (T80x0 N) (h81x0s1 N).h 81 sh81x0 L = F81x0 N (ll L 1) (ll L 3) (fun p => some ([.c (.b p)], [])) := by kernel_rfl
theorem ok81x0 : FnOk Try.prog 81 sh81x0 (A81x0 N) :=
  (h81x0s1 N).fn progOk (T80x0_ok N) fun L x hx => ((raw81x0 N L).trans ((bind81x0 N ..).trans (alt1 x hx)))
noncomputable def T81x0 : Oracle := ext 81 (spSh sh81x0 (A81x0 N)) (T80x0 N)
theorem T81x0_ok : OracleOk Try.prog (T81x0 N) := FnOk.to (ok81x0 N) (T80x0_ok N)
noncomputable def rg54x0 : List (Nat × List Nat) := [(0, [0, 1]), (1, [2, 3])]
noncomputable def hd54x0 : Hints := [(4, [2, 3], [3, 2], [])]
noncomputable def h54x0s0 (N : Nat) : Sg Try.prog 0 54 := .start hd54x0 rg54x0
noncomputable def F54x0x4 (w0 : LB) (w1 w2 : Int) (w4 w6 w8 : LD) (w9 : LB) (w10 w11 : Int) (w13 w15 w17 : LD) (k0 : Bool → Option R) : Option R :=
  bnd (bif (bif (w0 == w9) then (w1 == w10) else false) then (w2 == w11) else false) fun y0 =>
  bif y0 then
    bnd (G79x0 N w4 w13) fun y1 =>
    bif y1.isSome then
      bif (y1.getD default) then
        bnd (G80x0 N w6 w15) fun y2 =>
        bif y2.isSome then
          bif (y2.getD default) then
            bnd (G81x0 N w8 w17) fun y3 =>
            bif y3.isSome then
              k0 (y3.getD default)
            else
              none
          else
            k0 false
        else
          none
      else
        k0 false
    else
      none
  else
    k0 false
noncomputable def G54x0x4 (w0 : LB) (w1 w2 : Int) (w4 w6 w8 : LD) (w9 : LB) (w10 w11 : Int) (w13 w15 w17 : LD) : Option (Bool) := F54x0x4 N w0 w1 w2 w4 w6 w8 w9 w10 w11 w13 w15 w17 (fun p => some p)
theorem bind54x0x4 (w0 : LB) (w1 w2 : Int) (w4 w6 w8 : LD) (w9 : LB) (w10 w11 : Int) (w13 w15 w17 : LD) (k0 : Bool → Option R) : F54x0x4 N w0 w1 w2 w4 w6 w8 w9 w10 w11 w13 w15 w17 k0 = (G54x0x4 N w0 w1 w2 w4 w6 w8 w9 w10 w11 w13 w15 w17).bind k0 := by
  unfold G54x0x4 F54x0x4
  repeat' (first | with_reducible apply cond_b | (with_reducible apply bnd_b; intro _) | rfl)
noncomputable def J54x0x4 (L : List Lf) (k0 : Bool → Option R) : Option R := F54x0x4 N (ls L 0) (li L 1) (li L 2) (ll L 4) (ll L 6) (ll L 8) (ls L 9) (li L 10) (li L 11) (ll L 13) (ll L 15) (ll L 17) k0
noncomputable def sh54x0x4 : Sh := { tmps := [(2, .c (.p 2 0)), (3, .c (.p 3 0))], mem := [(2, .box (.s :: [.i .i64, .i .i64, .sl 48, .sl 111, .sl 9])), (3, .box (.s :: [.i .i64, .i .i64, .sl 48, .sl 111, .sl 9]))] }
noncomputable def A54x0x4 (L : List Lf) : List (Bool × (Ex × St)) := bnd (J54x0x4 N L (fun p => some p)) fun q => [(q.isSome, (.normal, ⟨[(4, .c (.b (q.getD default)))], []⟩))]
theorem raw54x0x4 (L : List Lf) : pc Try.prog (T81x0 N) (h54x0s0 N).h 0 100 54 4 sh54x0x4 L [4] [] = J54x0x4 N L (fun p => some (.normal, ⟨[(4, .c (.b p))], []⟩)) := by kernel_rfl
noncomputable def h54x0s1 : Sg Try.prog 0 54 :=
  (h54x0s0 N).cut (A54x0x4 N) progOk (T81x0_ok N) fun L x hx => (raw54x0x4 N L).trans ((bind54x0x4 N ..).trans (alt1 x hx))
noncomputable def F54x0 (v0 : LB) (v1 v2 : Int) (v4 v6 v8 : LD) (v9 : LB) (v10 v11 : Int) (v13 v15 v17 : LD) (k0 : Bool → Option R) : Option R :=
  bnd (G54x0x4 N v0 v1 v2 v4 v6 v8 v9 v10 v11 v13 v15 v17) fun y0 =>
  bif y0.isSome then
    k0 (y0.getD default)
  else
    none
noncomputable def G54x0 (v0 : LB) (v1 v2 : Int) (v4 v6 v8 : LD) (v9 : LB) (v10 v11 : Int) (v13 v15 v17 : LD) : Option (Bool) := F54x0 N v0 v1 v2 v4 v6 v8 v9 v10 v11 v13 v15 v17 (fun p => some p)
theorem bind54x0 (v0 : LB) (v1 v2 : Int) (v4 v6 v8 : LD) (v9 : LB) (v10 v11 : Int) (v13 v15 v17 : LD) (k0 : Bool → Option R) : F54x0 N v0 v1 v2 v4 v6 v8 v9 v10 v11 v13 v15 v17 k0 = (G54x0 N v0 v1 v2 v4 v6 v8 v9 v10 v11 v13 v15 v17).bind k0 := by
  unfold G54x0 F54x0
  repeat' (first | with_reducible apply cond_b | (with_reducible apply bnd_b; intro _) | rfl)
noncomputable def J54x0 (L : List Lf) (k0 : Bool → Option R) : Option R := F54x0 N (ls L 0) (li L 1) (li L 2) (ll L 4) (ll L 6) (ll L 8) (ls L 9) (li L 10) (li L 11) (ll L 13) (ll L 15) (ll L 17) k0
noncomputable def sh54x0 : Sh := { tmps := [(0, .g (.s :: [.i .i64, .i .i64, .sl 48, .sl 111, .sl 9])), (1, .g (.s :: [.i .i64, .i .i64, .sl 48, .sl 111, .sl 9]))], mem := [] }
noncomputable def A54x0 (L : List Lf) : List (Bool × Res) := bnd (J54x0 N L (fun p => some p)) fun q => [(q.isSome, ([.c (.b (q.getD default))], []))]
theorem raw54x0 (L : List Lf) : bd Try.prog (T81x0 N) (h54x0s1 N).h 54 sh54x0 L = J54x0 N L (fun p => some ([.c (.b p)], [])) := by kernel_rfl
theorem ok54x0 : FnOk Try.prog 54 sh54x0 (A54x0 N) :=
  (h54x0s1 N).fn progOk (T81x0_ok N) fun L x hx => ((raw54x0 N L).trans ((bind54x0 N ..).trans (alt1 x hx)))
noncomputable def T54x0 : Oracle := ext 54 (spSh sh54x0 (A54x0 N)) (T81x0 N)
theorem T54x0_ok : OracleOk Try.prog (T54x0 N) := FnOk.to (ok54x0 N) (T81x0_ok N)
noncomputable def rg53x0 : List (Nat × List Nat) := [(0, [0, 1, 2]), (1, [0, 1, 2]), (2, []), (3, [0, 1, 2]), (4, [17, 16, 15, 1, 2]), (5, [17, 15, 1, 2, 16]), (6, [1, 7, 2, 8, 17, 16, 15]), (7, [2, 8, 9, 17, 16, 15, 1]), (8, []), (9, [17, 16, 15, 1, 2]), (10, [])]
noncomputable def hd53x0 : Hints := [(12, [17, 16, 15, 1, 2], [], [])]
noncomputable def h53x0s0 (N : Nat) : Sg Try.prog 0 53 := .start hd53x0 rg53x0
noncomputable def S53x0x12 (w1 w3 : LD) (w4 : Int) (w5 : Int) (kr : Int → Option R) (k0 : Unit → Option R) (k1 : Unit → Option R) : Option R :=
  bif (decide (w5 < w4)) then
    bif (inB w5 w3.length) then
      bif (inB w5 w1.length) then
        bnd (G54x0 N ((w3.getD w5.toNat (.i 0)).cell 0).toS ((w3.getD w5.toNat (.i 0)).cell 1).toI ((w3.getD w5.toNat (.i 0)).cell 2).toI ((w3.getD w5.toNat (.i 0)).cell 3).items ((w3.getD w5.toNat (.i 0)).cell 4).items ((w3.getD w5.toNat (.i 0)).cell 5).items ((w1.getD w5.toNat (.i 0)).cell 0).toS ((w1.getD w5.toNat (.i 0)).cell 1).toI ((w1.getD w5.toNat (.i 0)).cell 2).toI ((w1.getD w5.toNat (.i 0)).cell 3).items ((w1.getD w5.toNat (.i 0)).cell 4).items ((w1.getD w5.toNat (.i 0)).cell 5).items) fun y0 =>
        bif y0.isSome then
          bif (!(y0.getD default)) then
            k0 ()
          else
            kr (IntKind.wrap .i64 (w5 + 1))
        else
          none
      else
        none
    else
      none
  else
    k1 ()
noncomputable def L53x0x12 (N : Nat) {R : Type} (w1 w3 : LD) (w4 : Int) : Nat → Int → (Unit → Option R) → (Unit → Option R) → Option R
  | 0, _, _, _ => none
  | m + 1, w5, k0, k1 => S53x0x12 N w1 w3 w4 w5 (fun w5 => L53x0x12 N w1 w3 w4 m w5 k0 k1) k0 k1
noncomputable def G53x0x12 (w1 w3 : LD) (w4 : Int) (w5 : Int) : Option (Sum (Unit) (Unit)) := L53x0x12 N (R := (Sum (Unit) (Unit))) w1 w3 w4 N w5 (fun p => some (.inl p)) (fun p => some (.inr p))
noncomputable def J53x0x12 (L x : List Lf) (kr : List Lf → Option R) (k0 : Unit → Option R) (k1 : Unit → Option R) : Option R := S53x0x12 N (ll L 1) (ll L 3) (li L 4) (li x 0) (fun w5 => kr [.i w5]) k0 k1
theorem sb53x0x12 (L x : List Lf) (kr : List Lf → Option R) (k0 : Unit → Option R) (k1 : Unit → Option R) : J53x0x12 N L x kr k0 k1 = (J53x0x12 N L x (fun y => some (.inl y)) (fun p => some (.inr (.inl p))) (fun p => some (.inr (.inr p)))).bind (sumE kr (sumE k0 k1)) := by
  unfold J53x0x12 S53x0x12
  repeat' (first | with_reducible apply cond_b | (with_reducible apply bnd_b; intro _) | rfl)
noncomputable def Q53x0x12 (L : List Lf) (m : Nat) (x : List Lf) : Option (Sum (Unit) (Unit)) := L53x0x12 N (R := (Sum (Unit) (Unit))) (ll L 1) (ll L 3) (li L 4) m (li x 0) (fun p => some (.inl p)) (fun p => some (.inr p))
noncomputable def sh53x0x12 : Sh := { tmps := [(1, .c (.sl 29)), (2, .c (.f 54 [])), (15, .c (.sl 29)), (16, .c (.i .i64)), (17, .c (.i .i64))], mem := [] }
noncomputable def A53x0x12 (L : List Lf) : List (Bool × (Ex × St)) := bnd (Q53x0x12 N L N (pk sh53x0x12 [5] L)) fun q => [((inlB q), (.ret, ⟨[(6, .c (.b false))], []⟩)), ((inrQ q).isSome, ((.exit 0), ⟨[], []⟩))]
theorem step53x0x12 (m : Nat) (kn : St → Option (Ex × St)) (L x : List Lf) : lpB Try.prog (T54x0 N) (h53x0s0 N).h 0 53 12 sh53x0x12 [5] [6] [] (m + 100) kn L x = J53x0x12 N L x (fun y => kn (ofSh sh53x0x12 (mx sh53x0x12 [5] L y))) (fun _ => some (.ret, ⟨[(6, .c (.b false))], []⟩)) (fun _ => some ((.exit 0), ⟨[], []⟩)) := by kernel_rfl
theorem ql53x0x12 (L : List Lf) (m : Nat) (x : List Lf) : Q53x0x12 N L (m + 1) x = J53x0x12 N L x (Q53x0x12 N L m) (fun p => some (.inl p)) (fun p => some (.inr p)) := by kernel_rfl
noncomputable def h53x0s1 : Sg Try.prog 0 53 :=
  (h53x0s0 N).lp (A53x0x12 N) N progOk (T54x0_ok N) (fun m kn L x => (step53x0x12 N m kn L x).trans (sb53x0x12 N L x _ _ _)) (fun L m x => (ql53x0x12 N L m x).trans (sb53x0x12 N L x (Q53x0x12 N L m) (fun p => some (.inl p)) (fun p => some (.inr p)))) fun L x hx => (altS alt1) x hx
noncomputable def F53x0 (v1 v3 : LD) (k0 : Bool → Option R) : Option R :=
  bif ((v1.length : Int) != (v3.length : Int)) then
    k0 false
  else
    bnd (G53x0x12 N v3 v1 (v1.length : Int) 0) fun y0 =>
    bif (inlB y0) then
      k0 false
    else
      bif (inrQ y0).isSome then
        k0 true
      else
        none
noncomputable def G53x0 (v1 v3 : LD) : Option (Bool) := F53x0 N v1 v3 (fun p => some p)
theorem bind53x0 (v1 v3 : LD) (k0 : Bool → Option R) : F53x0 N v1 v3 k0 = (G53x0 N v1 v3).bind k0 := by
  unfold G53x0 F53x0
  repeat' (first | with_reducible apply cond_b | (with_reducible apply bnd_b; intro _) | rfl)
noncomputable def sh53x0 : Sh := { tmps := [(0, .c (.sl 29)), (1, .c (.sl 29)), (2, .c (.f 54 []))], mem := [] }
noncomputable def A53x0 (L : List Lf) : List (Bool × Res) := bnd (F53x0 N (ll L 1) (ll L 3) (fun p => some p)) fun q => [(q.isSome, ([.c (.b (q.getD default))], []))]
theorem raw53x0 (L : List Lf) : bd Try.prog (T54x0 N) (h53x0s1 N).h 53 sh53x0 L = F53x0 N (ll L 1) (ll L 3) (fun p => some ([.c (.b p)], [])) := by kernel_rfl
theorem ok53x0 : FnOk Try.prog 53 sh53x0 (A53x0 N) :=
  (h53x0s1 N).fn progOk (T54x0_ok N) fun L x hx => ((raw53x0 N L).trans ((bind53x0 N ..).trans (alt1 x hx)))
noncomputable def T53x0 : Oracle := ext 53 (spSh sh53x0 (A53x0 N)) (T54x0 N)
theorem T53x0_ok : OracleOk Try.prog (T53x0 N) := FnOk.to (ok53x0 N) (T54x0_ok N)
noncomputable def rg23x0 : List (Nat × List Nat) := [(0, [0, 2, 3, 1]), (1, [4, 1, 6, 7]), (2, [10, 4, 1, 6, 7]), (3, [10]), (4, [4, 1, 6, 7])]
noncomputable def hd23x0 : Hints := []
noncomputable def h23x0s0 (N : Nat) : Sg Try.prog 0 23 := .start hd23x0 rg23x0
noncomputable def F23x0 (v1 : LD) (v2 : Int) (v3 : LB) (v4 v5 : Int) (v6 : Bool) (v7 : LD) (v8 : Bool) (v9 : LD) (v10 : Bool) (v11 : LD) (v12 : LB) (v13 v14 : Int) (v15 : Bool) (v16 : LD) (v17 : Bool) (v18 : LD) (v19 : Bool) (v20 : LD) (k0 : Bool × Int → Option R) : Option R :=
  bnd (G39x0 N v1 v2 [(.a [(.s v3), (.i v4), (.i v5), (.l v6 v7), (.l v8 v9), (.l v10 v11)]), (.a [(.s v12), (.i v13), (.i v14), (.l v15 v16), (.l v17 v18), (.l v19 v20)])]) fun y0 =>
  bif y0.isSome then
    bif ((y0.getD default) != 0) then
      k0 (false, (y0.getD default))
    else
      bnd (G44x0 N v1 v2 [(.a [(.s v3), (.i v4), (.i v5), (.l v6 v7), (.l v8 v9), (.l v10 v11)])]) fun y1 =>
      bif y1.isSome then
        bnd (G44x0 N v1 v2 [(.a [(.s v12), (.i v13), (.i v14), (.l v15 v16), (.l v17 v18), (.l v19 v20)])]) fun y2 =>
        bif y2.isSome then
          bnd (G53x0 N (y1.getD default).2 (y2.getD default).2) fun y3 =>
          bif y3.isSome then
            k0 ((!(y3.getD default)), 0)
          else
            none
        else
          none
      else
        none
  else
    none
noncomputable def G23x0 (v1 : LD) (v2 : Int) (v3 : LB) (v4 v5 : Int) (v6 : Bool) (v7 : LD) (v8 : Bool) (v9 : LD) (v10 : Bool) (v11 : LD) (v12 : LB) (v13 v14 : Int) (v15 : Bool) (v16 : LD) (v17 : Bool) (v18 : LD) (v19 : Bool) (v20 : LD) : Option (Bool × Int) := F23x0 N v1 v2 v3 v4 v5 v6 v7 v8 v9 v10 v11 v12 v13 v14 v15 v16 v17 v18 v19 v20 (fun p => some p)
theorem bind23x0 (v1 : LD) (v2 : Int) (v3 : LB) (v4 v5 : Int) (v6 : Bool) (v7 : LD) (v8 : Bool) (v9 : LD) (v10 : Bool) (v11 : LD) (v12 : LB) (v13 v14 : Int) (v15 : Bool) (v16 : LD) (v17 : Bool) (v18 : LD) (v19 : Bool) (v20 : LD) (k0 : Bool × Int → Option R) : F23x0 N v1 v2 v3 v4 v5 v6 v7 v8 v9 v10 v11 v12 v13 v14 v15 v16 v17 v18 v19 v20 k0 = (G23x0 N v1 v2 v3 v4 v5 v6 v7 v8 v9 v10 v11 v12 v13 v14 v15 v16 v17 v18 v19 v20).bind k0 := by
  unfold G23x0 F23x0
  repeat' (first | with_reducible apply cond_b | (with_reducible apply bnd_b; intro _) | rfl)
noncomputable def J23x0 (L : List Lf) (k0 : Bool × Int → Option R) : Option R := F23x0 N (ll L 1) (li L 2) (ls L 3) (li L 4) (li L 5) (lb L 6) (ll L 7) (lb L 8) (ll L 9) (lb L 10) (ll L 11) (ls L 12) (li L 13) (li L 14) (lb L 15) (ll L 16) (lb L 17) (ll L 18) (lb L 19) (ll L 20) k0
noncomputable def sh23x0 : Sh := { tmps := [(0, .g ([.sl 70])), (1, .c (.i .i64)), (2, .g (.s :: [.i .i64, .i .i64, .sl 48, .sl 111, .sl 9])), (3, .g (.s :: [.i .i64, .i .i64, .sl 48, .sl 111, .sl 9]))], mem := [] }
noncomputable def A23x0 (L : List Lf) : List (Bool × Res) := bnd (J23x0 N L (fun p => some p)) fun q => [(q.isSome, ([.c (.b (q.getD default).1), .c (.i .i64 (q.getD default).2)], []))]
theorem raw23x0 (L : List Lf) : bd Try.prog (T53x0 N) (h23x0s0 N).h 23 sh23x0 L = J23x0 N L (fun p => some ([.c (.b p.1), .c (.i .i64 p.2)], [])) := by kernel_rfl
theorem ok23x0 : FnOk Try.prog 23 sh23x0 (A23x0 N) :=
  (h23x0s0 N).fn progOk (T53x0_ok N) fun L x hx => ((raw23x0 N L).trans ((bind23x0 N ..).trans (alt1 x hx)))
noncomputable def T23x0 : Oracle := ext 23 (spSh sh23x0 (A23x0 N)) (T53x0 N)
theorem T23x0_ok : OracleOk Try.prog (T23x0 N) := FnOk.to (ok23x0 N) (T53x0_ok N)
noncomputable def rg51x0 : List (Nat × List Nat) := [(0, [0, 1]), (1, [2, 3]), (2, []), (3, [2, 3]), (4, [57, 56, 2, 3]), (5, [57, 2, 3, 56]), (6, [2, 5, 3, 57, 56]), (7, []), (8, [57, 56, 2, 3]), (9, [2, 3]), (10, [75, 74, 2, 3]), (11, [75, 2, 3, 74]), (12, [2, 6, 3, 75, 74]), (13, []), (14, [75, 74, 2, 3]), (15, [2, 3]), (16, [93, 92, 2, 3]), (17, [93, 2, 3, 92]), (18, [2, 7, 3, 93, 92]), (19, []), (20, [93, 92, 2, 3]), (21, [])]
noncomputable def hd51x0 : Hints := [(12, [57, 56, 2, 3], [3, 2], []), (30, [75, 74, 2, 3], [3, 2], []), (48, [93, 92, 2, 3], [3, 2], [])]
noncomputable def h51x0s0 (N : Nat) : Sg Try.prog 0 51 := .start hd51x0 rg51x0
noncomputable def S51x0x12 (N : Nat) (w0 : Int) (w6 w15 : LD) (w1 : Int) (kr : Int → Option R) (k0 : Unit → Option R) (k1 : Unit → Option R) : Option R :=
  bif (decide (w1 < w0)) then
    bif (inB w1 w6.length) then
      bif (inB w1 w15.length) then
        bnd (!((((w6.getD w1.toNat (.i 0)).cell 0).toI == ((w15.getD w1.toNat (.i 0)).cell 0).toI) && ((((w6.getD w1.toNat (.i 0)).cell 1).toI == ((w15.getD w1.toNat (.i 0)).cell 1).toI) && ((((w6.getD w1.toNat (.i 0)).cell 2).toI == ((w15.getD w1.toNat (.i 0)).cell 2).toI) && ((((w6.getD w1.toNat (.i 0)).cell 3).toI == ((w15.getD w1.toNat (.i 0)).cell 3).toI) && ((((w6.getD w1.toNat (.i 0)).cell 4).toI == ((w15.getD w1.toNat (.i 0)).cell 4).toI) && ((((w6.getD w1.toNat (.i 0)).cell 5).toI == ((w15.getD w1.toNat (.i 0)).cell 5).toI) && ((((w6.getD w1.toNat (.i 0)).cell 6).toI == ((w15.getD w1.toNat (.i 0)).cell 6).toI) && true)))))))) fun y0 =>
        bif y0 then
          k0 ()
        else
          kr (IntKind.wrap .i64 (w1 + 1))
      else
        none
    else
      none
  else
    k1 ()
noncomputable def L51x0x12 (N : Nat) {R : Type} (w0 : Int) (w6 w15 : LD) : Nat → Int → (Unit → Option R) → (Unit → Option R) → Option R
  | 0, _, _, _ => none
  | m + 1, w1, k0, k1 => S51x0x12 N w0 w6 w15 w1 (fun w1 => L51x0x12 N w0 w6 w15 m w1 k0 k1) k0 k1
noncomputable def G51x0x12 (w0 : Int) (w6 w15 : LD) (w1 : Int) : Option (Sum (Unit) (Unit)) := L51x0x12 N (R := (Sum (Unit) (Unit))) w0 w6 w15 N w1 (fun p => some (.inl p)) (fun p => some (.inr p))
noncomputable def J51x0x12 (L x : List Lf) (kr : List Lf → Option R) (k0 : Unit → Option R) (k1 : Unit → Option R) : Option R := S51x0x12 N (li L 0) (ll L 6) (ll L 15) (li x 0) (fun w1 => kr [.i w1]) k0 k1
theorem sb51x0x12 (L x : List Lf) (kr : List Lf → Option R) (k0 : Unit → Option R) (k1 : Unit → Option R) : J51x0x12 N L x kr k0 k1 = (J51x0x12 N L x (fun y => some (.inl y)) (fun p => some (.inr (.inl p))) (fun p => some (.inr (.inr p)))).bind (sumE kr (sumE k0 k1)) := by
  unfold J51x0x12 S51x0x12
  repeat' (first | with_reducible apply cond_b | (with_reducible apply bnd_b; intro _) | rfl)
noncomputable def Q51x0x12 (L : List Lf) (m : Nat) (x : List Lf) : Option (Sum (Unit) (Unit)) := L51x0x12 N (R := (Sum (Unit) (Unit))) (li L 0) (ll L 6) (ll L 15) m (li x 0) (fun p => some (.inl p)) (fun p => some (.inr p))
noncomputable def sh51x0x12 : Sh := { tmps := [(2, .c (.p 2 0)), (3, .c (.p 3 0)), (56, .c (.i .i64)), (57, .c (.i .i64))], mem := [(2, .box (.s :: [.i .i64, .i .i64, .sl 48, .sl 111, .sl 9])), (3, .box (.s :: [.i .i64, .i .i64, .sl 48, .sl 111, .sl 9]))] }
noncomputable def K51x0x12w0 (L : List Lf) (_ : Unit) : Ex × St := (.ret, mg (ofSh sh51x0x12 L) [4] [(4, .c (.b false))] [2, 3] [])
noncomputable def A51x0x12 (L : List Lf) : List (Bool × (Ex × St)) := bnd (Q51x0x12 N L N (pk sh51x0x12 [1] L)) fun q => [((inlB q), K51x0x12w0 L ()), ((inrQ q).isSome, ((.exit 0), mg (ofSh sh51x0x12 L) [2, 3] [] [2, 3] []))]
theorem step51x0x12 (m : Nat) (kn : St → Option (Ex × St)) (L x : List Lf) : lpB Try.prog (T23x0 N) (h51x0s0 N).h 0 51 12 sh51x0x12 [1] [4, 2, 3] [3, 2] (m + 100) kn L x = J51x0x12 N L x (fun y => kn (ofSh sh51x0x12 (mx sh51x0x12 [1] L y))) (fun _ => some (K51x0x12w0 L ())) (fun _ => some ((.exit 0), mg (ofSh sh51x0x12 L) [2, 3] [] [2, 3] [])) := by kernel_rfl
theorem ql51x0x12 (L : List Lf) (m : Nat) (x : List Lf) : Q51x0x12 N L (m + 1) x = J51x0x12 N L x (Q51x0x12 N L m) (fun p => some (.inl p)) (fun p => some (.inr p)) := by kernel_rfl
noncomputable def h51x0s1 : Sg Try.prog 0 51 :=
  (h51x0s0 N).lp (A51x0x12 N) N progOk (T23x0_ok N) (fun m kn L x => (step51x0x12 N m kn L x).trans (sb51x0x12 N L x _ _ _)) (fun L m x => (ql51x0x12 N L m x).trans (sb51x0x12 N L x (Q51x0x12 N L m) (fun p => some (.inl p)) (fun p => some (.inr p)))) fun L x hx => (altS alt1) x hx
noncomputable def S51x0x30 (N : Nat) (w0 : Int) (w8 w17 : LD) (w1 : Int) (kr : Int → Option R) (k0 : Unit → Option R) (k1 : Unit → Option R) : Option R :=
  bif (decide (w1 < w0)) then
    bif (inB w1 w8.length) then
      bif (inB w1 w17.length) then
        bnd (!((((w8.getD w1.toNat (.i 0)).cell 0).toI == ((w17.getD w1.toNat (.i 0)).cell 0).toI) && ((((w8.getD w1.toNat (.i 0)).cell 1).toI == ((w17.getD w1.toNat (.i 0)).cell 1).toI) && ((((w8.getD w1.toNat (.i 0)).cell 2).toS == ((w17.getD w1.toNat (.i 0)).cell 2).toS) && true)))) fun y0 =>
        bif y0 then
          k0 ()
        else
          kr (IntKind.wrap .i64 (w1 + 1))
      else
        none
    else
      none
  else
    k1 ()
noncomputable def L51x0x30 (N : Nat) {R : Type} (w0 : Int) (w8 w17 : LD) : Nat → Int → (Unit → Option R) → (Unit → Option R) → Option R
  | 0, _, _, _ => none
  | m + 1, w1, k0, k1 => S51x0x30 N w0 w8 w17 w1 (fun w1 => L51x0x30 N w0 w8 w17 m w1 k0 k1) k0 k1
noncomputable def G51x0x30 (w0 : Int) (w8 w17 : LD) (w1 : Int) : Option (Sum (Unit) (Unit)) := L51x0x30 N (R := (Sum (Unit) (Unit))) w0 w8 w17 N w1 (fun p => some (.inl p)) (fun p => some (.inr p))
noncomputable def J51x0x30 (L x : List Lf) (kr : List Lf → Option R) (k0 : Unit → Option R) (k1 : Unit → Option R) : Option R := S51x0x30 N (li L 0) (ll L 8) (ll L 17) (li x 0) (fun w1 => kr [.i w1]) k0 k1
theorem sb51x0x30 (L x : List Lf) (kr : List Lf → Option R) (k0 : Unit → Option R) (k1 : Unit → Option R) : J51x0x30 N L x kr k0 k1 = (J51x0x30 N L x (fun y => some (.inl y)) (fun p => some (.inr (.inl p))) (fun p => some (.inr (.inr p)))).bind (sumE kr (sumE k0 k1)) := by
  unfold J51x0x30 S51x0x30
  repeat' (first | with_reducible apply cond_b | (with_reducible apply bnd_b; intro _) | rfl)
noncomputable def Q51x0x30 (L : List Lf) (m : Nat) (x : List Lf) : Option (Sum (Unit) (Unit)) := L51x0x30 N (R := (Sum (Unit) (Unit))) (li L 0) (ll L 8) (ll L 17) m (li x 0) (fun p => some (.inl p)) (fun p => some (.inr p))
noncomputable def sh51x0x30 : Sh := { tmps := [(2, .c (.p 2 0)), (3, .c (.p 3 0)), (74, .c (.i .i64)), (75, .c (.i .i64))], mem := [(2, .box (.s :: [.i .i64, .i .i64, .sl 48, .sl 111, .sl 9])), (3, .box (.s :: [.i .i64, .i .i64, .sl 48, .sl 111, .sl 9]))] }
noncomputable def K51x0x30w0 (L : List Lf) (_ : Unit) : Ex × St := (.ret, mg (ofSh sh51x0x30 L) [4] [(4, .c (.b false))] [2, 3] [])
noncomputable def A51x0x30 (L : List Lf) : List (Bool × (Ex × St)) := bnd (Q51x0x30 N L N (pk sh51x0x30 [1] L)) fun q => [((inlB q), K51x0x30w0 L ()), ((inrQ q).isSome, ((.exit 2), mg (ofSh sh51x0x30 L) [2, 3] [] [2, 3] []))]
theorem step51x0x30 (m : Nat) (kn : St → Option (Ex × St)) (L x : List Lf) : lpB Try.prog (T23x0 N) (h51x0s1 N).h 0 51 30 sh51x0x30 [1] [4, 2, 3] [3, 2] (m + 100) kn L x = J51x0x30 N L x (fun y => kn (ofSh sh51x0x30 (mx sh51x0x30 [1] L y))) (fun _ => some (K51x0x30w0 L ())) (fun _ => some ((.exit 2), mg (ofSh sh51x0x30 L) [2, 3] [] [2, 3] [])) := by kernel_rfl
theorem ql51x0x30 (L : List Lf) (m : Nat) (x : List Lf) : Q51x0x30 N L (m + 1) x = J51x0x30 N L x (Q51x0x30 N L m) (fun p => some (.inl p)) (fun p => some (.inr p)) := by kernel_rfl
noncomputable def h51x0s2 : Sg Try.prog 0 51 :=
  (h51x0s1 N).lp (A51x0x30 N) N progOk (T23x0_ok N) (fun m kn L x => (step51x0x30 N m kn L x).trans (sb51x0x30 N L x _ _ _)) (fun L m x => (ql51x0x30 N L m x).trans (sb51x0x30 N L x (Q51x0x30 N L m) (fun p => some (.inl p)) (fun p => some (.inr p)))) fun L x hx => (altS alt1) x hx
noncomputable def S51x0x48 (N : Nat) (w0 : Int) (w10 w19 : LD) (w1 : Int) (kr : Int → Option R) (k0 : Unit → Option R) (k1 : Unit → Option R) : Option R :=
  bif (decide (w1 < w0)) then
    bif (inB w1 w10.length) then
      bif (inB w1 w19.length) then
        bnd (!((w10.getD w1.toNat (.i 0)).toS == (w19.getD w1.toNat (.i 0)).toS)) fun y0 =>
        bif y0 then
          k0 ()
        else
          kr (IntKind.wrap .i64 (w1 + 1))
      else
        none
    else
      none
  else
    k1 ()
noncomputable def L51x0x48 (N : Nat) {R : Type} (w0 : Int) (w10 w19 : LD) : Nat → Int → (Unit → Option R) → (Unit → Option R) → Option R
  | 0, _, _, _ => none
  | m + 1, w1, k0, k1 => S51x0x48 N w0 w10 w19 w1 (fun w1 => L51x0x48 N w0 w10 w19 m w1 k0 k1) k0 k1
noncomputable def G51x0x48 (w0 : Int) (w10 w19 : LD) (w1 : Int) : Option (Sum (Unit) (Unit)) := L51x0x48 N (R := (Sum (Unit) (Unit))) w0 w10 w19 N w1 (fun p => some (.inl p)) (fun p => some (.inr p))
noncomputable def J51x0x48 (L x : List Lf) (kr : List Lf → Option R) (k0 : Unit → Option R) (k1 : Unit → Option R) : Option R := S51x0x48 N (li L 0) (ll L 10) (ll L 19) (li x 0) (fun w1 => kr [.i w1]) k0 k1
theorem sb51x0x48 (L x : List Lf) (kr : List Lf → Option R) (k0 : Unit → Option R) (k1 : Unit → Option R) : J51x0x48 N L x kr k0 k1 = (J51x0x48 N L x (fun y => some (.inl y)) (fun p => some (.inr (.inl p))) (fun p => some (.inr (.inr p)))).bind (sumE kr (sumE k0 k1)) := by
  unfold J51x0x48 S51x0x48
  repeat' (first | with_reducible apply cond_b | (with_reducible apply bnd_b; intro _) | rfl)
noncomputable def Q51x0x48 (L : List Lf) (m : Nat) (x : List Lf) : Option (Sum (Unit) (Unit)) := L51x0x48 N (R := (Sum (Unit) (Unit))) (li L 0) (ll L 10) (ll L 19) m (li x 0) (fun p => some (.inl p)) (fun p => some (.inr p))
noncomputable def sh51x0x48 : Sh := { tmps := [(2, .c (.p 2 0)), (3, .c (.p 3 0)), (92, .c (.i .i64)), (93, .c (.i .i64))], mem := [(2, .box (.s :: [.i .i64, .i .i64, .sl 48, .sl 111, .sl 9])), (3, .box (.s :: [.i .i64, .i .i64, .sl 48, .sl 111, .sl 9]))] }
noncomputable def A51x0x48 (L : List Lf) : List (Bool × (Ex × St)) := bnd (Q51x0x48 N L N (pk sh51x0x48 [1] L)) fun q => [((inlB q), (.ret, ⟨[(4, .c (.b false))], []⟩)), ((inrQ q).isSome, ((.exit 4), ⟨[], []⟩))]
theorem step51x0x48 (m : Nat) (kn : St → Option (Ex × St)) (L x : List Lf) : lpB Try.prog (T23x0 N) (h51x0s2 N).h 0 51 48 sh51x0x48 [1] [4] [] (m + 100) kn L x = J51x0x48 N L x (fun y => kn (ofSh sh51x0x48 (mx sh51x0x48 [1] L y))) (fun _ => some (.ret, ⟨[(4, .c (.b false))], []⟩)) (fun _ => some ((.exit 4), ⟨[], []⟩)) := by kernel_rfl
theorem ql51x0x48 (L : List Lf) (m : Nat) (x : List Lf) : Q51x0x48 N L (m + 1) x = J51x0x48 N L x (Q51x0x48 N L m) (fun p => some (.inl p)) (fun p => some (.inr p)) := by kernel_rfl
noncomputable def h51x0s3 : Sg Try.prog 0 51 :=
  (h51x0s2 N).lp (A51x0x48 N) N progOk (T23x0_ok N) (fun m kn L x => (step51x0x48 N m kn L x).trans (sb51x0x48 N L x _ _ _)) (fun L m x => (ql51x0x48 N L m x).trans (sb51x0x48 N L x (Q51x0x48 N L m) (fun p => some (.inl p)) (fun p => some (.inr p)))) fun L x hx => (altS alt1) x hx
noncomputable def F51x0 (v0 : LB) (v1 v2 : Int) (v4 v6 v8 : LD) (v9 : LB) (v10 v11 : Int) (v13 v15 v17 : LD) (k0 : Bool → Option R) : Option R :=
  bnd (bif (bif (!(v0 == v9)) then true else (v1 != v10)) then true else (v2 != v11)) fun y0 =>
  bnd (bif y0 then true else ((v4.length : Int) != (v13.length : Int))) fun y1 =>
  bnd (bif y1 then true else ((v6.length : Int) != (v15.length : Int))) fun y2 =>
  bnd (bif y2 then true else ((v8.length : Int) != (v17.length : Int))) fun y3 =>
  bif y3 then
    k0 false
  else
    bnd (G51x0x12 N (v4.length : Int) v4 v13 0) fun y4 =>
    bif (inlB y4) then
      k0 false
    else
      bif (inrQ y4).isSome then
        bnd (G51x0x30 N (v6.length : Int) v6 v15 0) fun y5 =>
        bif (inlB y5) then
          k0 false
        else
          bif (inrQ y5).isSome then
            bnd (G51x0x48 N (v8.length : Int) v8 v17 0) fun y6 =>
            bif (inlB y6) then
              k0 false
            else
              bif (inrQ y6).isSome then
                k0 true
              else
                none
          else
            none
      else
        none
noncomputable def G51x0 (v0 : LB) (v1 v2 : Int) (v4 v6 v8 : LD) (v9 : LB) (v10 v11 : Int) (v13 v15 v17 : LD) : Option (Bool) := F51x0 N v0 v1 v2 v4 v6 v8 v9 v10 v11 v13 v15 v17 (fun p => some p)
theorem bind51x0 (v0 : LB) (v1 v2 : Int) (v4 v6 v8 : LD) (v9 : LB) (v10 v11 : Int) (v13 v15 v17 : LD) (k0 : Bool → Option R) : F51x0 N v0 v1 v2 v4 v6 v8 v9 v10 v11 v13 v15 v17 k0 = (G51x0 N v0 v1 v2 v4 v6 v8 v9 v10 v11 v13 v15 v17).bind k0 := by
  unfold G51x0 F51x0
  repeat' (first | with_reducible apply cond_b | (with_reducible apply bnd_b; intro _) | rfl)
noncomputable def J51x0 (L : List Lf) (k0 : Bool → Option R) : Option R := F51x0 N (ls L 0) (li L 1) (li L 2) (ll L 4) (ll L 6) (ll L 8) (ls L 9) (li L 10) (li L 11) (ll L 13) (ll L 15) (ll L 17) k0
noncomputable def sh51x0 : Sh := { tmps := [(0, .g (.s :: [.i .i64, .i .i64, .sl 48, .sl 111, .sl 9])), (1, .g (.s :: [.i .i64, .i .i64, .sl 48, .sl 111, .sl 9]))], mem := [] }
noncomputable def A51x0 (L : List Lf) : List (Bool × Res) := bnd (J51x0 N L (fun p => some p)) fun q => [(q.isSome, ([.c (.b (q.getD default))], []))]
theorem raw51x0 (L : List Lf) : bd Try.prog (T23x0 N) (h51x0s3 N).h 51 sh51x0 L = J51x0 N L (fun p => some ([.c (.b p)], [])) := by kernel_rfl
theorem ok51x0 : FnOk Try.prog 51 sh51x0 (A51x0 N) :=
  (h51x0s3 N).fn progOk (T23x0_ok N) fun L x hx => ((raw51x0 N L).trans ((bind51x0 N ..).trans (alt1 x hx)))
noncomputable def T51x0 : Oracle := ext 51 (spSh sh51x0 (A51x0 N)) (T23x0 N)
theorem T51x0_ok : OracleOk Try.prog (T51x0 N) := FnOk.to (ok51x0 N) (T23x0_ok N)
noncomputable def rg19x0 : List (Nat × List Nat) := [(0, [0, 1]), (1, [0, 1]), (2, []), (3, [0, 1]), (4, [13, 12, 0, 1]), (5, [13, 0, 1, 12]), (6, [0, 5, 1, 13, 12]), (7, []), (8, [13, 12, 0, 1]), (9, [])]
noncomputable def hd19x0 : Hints := [(12, [13, 12, 0, 1], [], [])]
noncomputable def h19x0s0 (N : Nat) : Sg Try.prog 0 19 := .start hd19x0 rg19x0
noncomputable def S19x0x12 (w1 w3 : LD) (w4 : Int) (w5 : Int) (kr : Int → Option R) (k0 : Unit → Option R) (k1 : Unit → Option R) : Option R :=
  bif (decide (w5 < w4)) then
    bif (inB w5 w1.length) then
      bif (inB w5 w3.length) then
        bnd (G51x0 N ((w1.getD w5.toNat (.i 0)).cell 0).toS ((w1.getD w5.toNat (.i 0)).cell 1).toI ((w1.getD w5.toNat (.i 0)).cell 2).toI ((w1.getD w5.toNat (.i 0)).cell 3).items ((w1.getD w5.toNat (.i 0)).cell 4).items ((w1.getD w5.toNat (.i 0)).cell 5).items ((w3.getD w5.toNat (.i 0)).cell 0).toS ((w3.getD w5.toNat (.i 0)).cell 1).toI ((w3.getD w5.toNat (.i 0)).cell 2).toI ((w3.getD w5.toNat (.i 0)).cell 3).items ((w3.getD w5.toNat (.i 0)).cell 4).items ((w3.getD w5.toNat (.i 0)).cell 5).items) fun y0 =>
        bif y0.isSome then
          bif (!(y0.getD default)) then
            k0 ()
          else
            kr (IntKind.wrap .i64 (w5 + 1))
        else
          none
      else
        none
    else
      none
  else
    k1 ()
noncomputable def L19x0x12 (N : Nat) {R : Type} (w1 w3 : LD) (w4 : Int) : Nat → Int → (Unit → Option R) → (Unit → Option R) → Option R
  | 0, _, _, _ => none
  | m + 1, w5, k0, k1 => S19x0x12 N w1 w3 w4 w5 (fun w5 => L19x0x12 N w1 w3 w4 m w5 k0 k1) k0 k1
noncomputable def G19x0x12 (w1 w3 : LD) (w4 : Int) (w5 : Int) : Option (Sum (Unit) (Unit)) := L19x0x12 N (R := (Sum (Unit) (Unit))) w1 w3 w4 N w5 (fun p => some (.inl p)) (fun p => some (.inr p))
noncomputable def J19x0x12 (L x : List Lf) (kr : List Lf → Option R) (k0 : Unit → Option R) (k1 : Unit → Option R) : Option R := S19x0x12 N (ll L 1) (ll L 3) (li L 4) (li x 0) (fun w5 => kr [.i w5]) k0 k1
theorem sb19x0x12 (L x : List Lf) (kr : List Lf → Option R) (k0 : Unit → Option R) (k1 : Unit → Option R) : J19x0x12 N L x kr k0 k1 = (J19x0x12 N L x (fun y => some (.inl y)) (fun p => some (.inr (.inl p))) (fun p => some (.inr (.inr p)))).bind (sumE kr (sumE k0 k1)) := by
  unfold J19x0x12 S19x0x12
  repeat' (first | with_reducible apply cond_b | (with_reducible apply bnd_b; intro _) | rfl)
noncomputable def Q19x0x12 (L : List Lf) (m : Nat) (x : List Lf) : Option (Sum (Unit) (Unit)) := L19x0x12 N (R := (Sum (Unit) (Unit))) (ll L 1) (ll L 3) (li L 4) m (li x 0) (fun p => some (.inl p)) (fun p => some (.inr p))
noncomputable def sh19x0x12 : Sh := { tmps := [(0, .c (.sl 29)), (1, .c (.sl 29)), (12, .c (.i .i64)), (13, .c (.i .i64))], mem := [] }
noncomputable def A19x0x12 (L : List Lf) : List (Bool × (Ex × St)) := bnd (Q19x0x12 N L N (pk sh19x0x12 [5] L)) fun q => [((inlB q), (.ret, ⟨[(4, .c (.b false))], []⟩)), ((inrQ q).isSome, ((.exit 0), ⟨[], []⟩))]
theorem step19x0x12 (m : Nat) (kn : St → Option (Ex × St)) (L x : List Lf) : lpB Try.prog (T51x0 N) (h19x0s0 N).h 0 19 12 sh19x0x12 [5] [4] [] (m + 100) kn L x = J19x0x12 N L x (fun y => kn (ofSh sh19x0x12 (mx sh19x0x12 [5] L y))) (fun _ => some (.ret, ⟨[(4, .c (.b false))], []⟩)) (fun _ => some ((.exit 0), ⟨[], []⟩)) := by kernel_rfl
theorem ql19x0x12 (L : List Lf) (m : Nat) (x : List Lf) : Q19x0x12 N L (m + 1) x = J19x0x12 N L x (Q19x0x12 N L m) (fun p => some (.inl p)) (fun p => some (.inr p)) := by kernel_rfl
noncomputable def h19x0s1 : Sg Try.prog 0 19 :=
  (h19x0s0 N).lp (A19x0x12 N) N progOk (T51x0_ok N) (fun m kn L x => (step19x0x12 N m kn L x).trans (sb19x0x12 N L x _ _ _)) (fun L m x => (ql19x0x12 N L m x).trans (sb19x0x12 N L x (Q19x0x12 N L m) (fun p => some (.inl p)) (fun p => some (.inr p)))) fun L x hx => (altS alt1) x hx
noncomputable def F19x0 (v1 v3 : LD) (k0 : Bool → Option R) : Option R :=
  bif ((v1.length : Int) != (v3.length : Int)) then
    k0 false
  else
    bnd (G19x0x12 N v1 v3 (v1.length : Int) 0) fun y0 =>
    bif (inlB y0) then
      k0 false
    else
      bif (inrQ y0).isSome then
        k0 true
      else
        none
noncomputable def G19x0 (v1 v3 : LD) : Option (Bool) := F19x0 N v1 v3 (fun p => some p)
theorem bind19x0 (v1 v3 : LD) (k0 : Bool → Option R) : F19x0 N v1 v3 k0 = (G19x0 N v1 v3).bind k0 := by
  unfold G19x0 F19x0
  repeat' (first | with_reducible apply cond_b | (with_reducible apply bnd_b; intro _) | rfl)
noncomputable def sh19x0 : Sh := { tmps := [(0, .c (.sl 29)), (1, .c (.sl 29))], mem := [] }
noncomputable def A19x0 (L : List Lf) : List (Bool × Res) := bnd (F19x0 N (ll L 1) (ll L 3) (fun p => some p)) fun q => [(q.isSome, ([.c (.b (q.getD default))], []))]
theorem raw19x0 (L : List Lf) : bd Try.prog (T51x0 N) (h19x0s1 N).h 19 sh19x0 L = F19x0 N (ll L 1) (ll L 3) (fun p => some ([.c (.b p)], [])) := by kernel_rfl
theorem ok19x0 : FnOk Try.prog 19 sh19x0 (A19x0 N) :=
  (h19x0s1 N).fn progOk (T51x0_ok N) fun L x hx => ((raw19x0 N L).trans ((bind19x0 N ..).trans (alt1 x hx)))
noncomputable def T19x0 : Oracle := ext 19 (spSh sh19x0 (A19x0 N)) (T51x0 N)
theorem T19x0_ok : OracleOk Try.prog (T19x0 N) := FnOk.to (ok19x0 N) (T51x0_ok N)
noncomputable def rg5x0 : List (Nat × List Nat) := [(0, [0, 2, 1, 3, 4]), (1, [5, 1, 7, 3, 4]), (2, [13, 5, 1, 7, 11, 3, 4]), (3, [5, 1, 7, 13]), (4, [13, 16]), (5, [11, 7, 3, 4, 5, 1]), (6, []), (7, [7, 3, 11, 4, 5, 1]), (8, [7, 17, 3, 11, 4, 5, 1]), (9, [3, 11, 17, 4, 5, 1, 7]), (10, [68, 67, 66, 11, 17, 4, 5, 1, 7]), (11, [66, 68, 11, 17, 67, 4, 5, 1, 7]), (12, [19, 11, 17, 68, 67, 66, 4, 5, 1, 7]), (13, [17, 19, 68, 67, 66, 11, 4, 5, 1, 7]), (14, [68, 67, 66, 11, 17, 4, 5, 1, 7]), (15, [17, 4, 11, 5, 1, 7]), (16, [17, 4, 11, 20, 5, 1, 7]), (17, [118, 117, 116, 4, 11, 20, 17, 5, 1, 7]), (18, [118, 116, 4, 11, 20, 117, 17, 5, 1, 7]), (19, [4, 21, 11, 20, 22, 118, 117, 116, 17, 5, 1, 7]), (20, [20, 22, 118, 117, 116, 4, 11, 17, 5, 1, 7]), (21, [118, 117, 116, 4, 11, 20, 17, 5, 1, 7]), (22, [20, 17, 5, 1, 11, 7]), (23, [5, 1, 17, 11, 7]), (24, [13, 23, 11, 5, 1, 7, 17]), (25, []), (26, [23, 11, 5, 1, 7, 17]), (27, [25, 23, 11, 5, 1, 7, 17]), (28, []), (29, [5, 1, 7, 17]), (30, [5, 1, 17, 7, 13, 26]), (31, [5, 1, 7, 17, 13, 28, 26, 27]), (32, [13, 28, 30, 29, 26, 27])]
noncomputable def hd5x0 : Hints := [(13, [13, 16], [], []), (25, [7, 17, 3, 11, 4, 5, 1], [17, 7, 5], []), (30, [68, 67, 66, 11, 17, 4, 5, 1, 7], [17, 7, 5, 50017003], [50017003]), (41, [17, 19, 68, 67, 66, 11, 4, 5, 1, 7, 88], [19, 50017003, 17, 7, 5], []), (51, [118, 117, 116, 4, 11, 20, 17, 5, 1, 7], [50017003, 17, 7, 5, 20], [20, 50017003]), (62, [20, 22, 118, 117, 116, 4, 11, 17, 5, 1, 7, 143], [22, 20, 50017003, 17, 7, 5], []), (97, [13, 28, 30, 29, 26, 27], [], [])]
noncomputable def h5x0s0 (N : Nat) : Sg Try.prog 0 5 := .start hd5x0 rg5x0
noncomputable def F5x0x13 (w0 w1 : Int) (k0 : Bool → Option R) : Option R :=
  bif (w0 == w1) then
    bnd (G12x0 N) fun y0 =>
    bif y0.isSome then
      k0 (y0.getD default)
    else
      none
  else
    k0 false
noncomputable def G5x0x13 (w0 w1 : Int) : Option (Bool) := F5x0x13 N w0 w1 (fun p => some p)
theorem bind5x0x13 (w0 w1 : Int) (k0 : Bool → Option R) : F5x0x13 N w0 w1 k0 = (G5x0x13 N w0 w1).bind k0 := by
  unfold G5x0x13 F5x0x13
  repeat' (first | with_reducible apply cond_b | (with_reducible apply bnd_b; intro _) | rfl)
noncomputable def sh5x0x13 : Sh := { tmps := [(13, .c (.i .i64)), (16, .c (.i .i64))], mem := [] }
noncomputable def A5x0x13 (L : List Lf) : List (Bool × (Ex × St)) := bnd (F5x0x13 N (li L 0) (li L 1) (fun p => some p)) fun q => [(q.isSome, (.normal, ⟨[(10, .c (.b (q.getD default)))], []⟩))]
theorem raw5x0x13 (L : List Lf) : pc Try.prog (T19x0 N) (h5x0s0 N).h 0 100 5 13 sh5x0x13 L [10] [] = F5x0x13 N (li L 0) (li L 1) (fun p => some (.normal, ⟨[(10, .c (.b p))], []⟩)) := by kernel_rfl
noncomputable def h5x0s1 : Sg Try.prog 0 5 :=
  (h5x0s0 N).cut (A5x0x13 N) progOk (T19x0_ok N) fun L x hx => (raw5x0x13 N L).trans ((bind5x0x13 N ..).trans (alt1 x hx))
noncomputable def F5x0x25 (w12 : Bool) (w13 : LD) (k0 : Unit → Option R) (k1 : Bool → Option R) : Option R :=
  bnd (G20x0 N w12 w13) fun y0 =>
  bif (inlB y0) then
    k0 ()
  else
    bif (inrQ y0).isSome then
      k1 ((inrQ y0).getD default)
    else
      none
noncomputable def G5x0x25 (w12 : Bool) (w13 : LD) : Option (Sum (Unit) (Bool)) := F5x0x25 N w12 w13 (fun p => some (.inl p)) (fun p => some (.inr p))
theorem bind5x0x25 (w12 : Bool) (w13 : LD) (k0 : Unit → Option R) (k1 : Bool → Option R) : F5x0x25 N w12 w13 k0 k1 = (G5x0x25 N w12 w13).bind (sumE k0 k1) := by
  unfold G5x0x25 F5x0x25
  repeat' (first | with_reducible apply cond_b | (with_reducible apply bnd_b; intro _) | rfl)
noncomputable def sh5x0x25 : Sh := { tmps := [(1, .c (.i .i64)), (3, .c (.sl 50)), (4, .c (.sl 3)), (5, .c (.p 5 0)), (7, .c (.p 7 0)), (11, .c (.sl 4)), (17, .c (.p 17 0))], mem := [(5, .box ([.sl 70])), (7, .box (.s :: [.i .i64, .i .i64, .sl 48, .sl 111, .sl 9])), (17, .box (.s :: [.i .i64, .i .i64, .sl 48, .sl 111, .sl 9]))] }
noncomputable def K5x0x25w0 (L : List Lf) (_ : Unit) : Ex × St := (.normal, mg (ofSh sh5x0x25 L) [1, 3, 4, 5, 7, 11, 17] [] [5, 7, 17] [(17, .box [.s (ls L 18), .i .i64 (li L 19), .i .i64 (li L 20), .sl 48 true [], .sl 111 (lb L 23) (ll L 24), .sl 9 (lb L 25) (ll L 26)])])
noncomputable def K5x0x25w1 (L : List Lf) (p : Bool) : Ex × St := (.normal, mg (ofSh sh5x0x25 L) [1, 3, 4, 5, 7, 11, 17] [] [5, 7, 17, 65000000007] [(17, .box [.s (ls L 18), .i .i64 (li L 19), .i .i64 (li L 20), .o 65000000007, .sl 111 (lb L 23) (ll L 24), .sl 9 (lb L 25) (ll L 26)]), (65000000007, .row 48 true p (ll L 13))])
noncomputable def A5x0x25 (L : List Lf) : List (Bool × (Ex × St)) := bnd (F5x0x25 N (lb L 12) (ll L 13) (fun p => some (.inl p)) (fun p => some (.inr p))) fun q => [((inlB q), K5x0x25w0 L ()), ((inrQ q).isSome, K5x0x25w1 L ((inrQ q).getD default))]
theorem raw5x0x25 (L : List Lf) : pc Try.prog (T19x0 N) (h5x0s1 N).h 0 100 5 25 sh5x0x25 L [3, 11, 17, 4, 5, 1, 7] [17, 7, 5, 65000000007] = F5x0x25 N (lb L 12) (ll L 13) (fun _ => some (K5x0x25w0 L ())) (fun p => some (K5x0x25w1 L p)) := by kernel_rfl
noncomputable def h5x0s2 : Sg Try.prog 0 5 :=
  (h5x0s1 N).cut (A5x0x25 N) progOk (T19x0_ok N) fun L x hx => (raw5x0x25 N L).trans ((bind5x0x25 N ..).trans ((altS alt1) x hx))
noncomputable def F5x0x41 (N : Nat) (w9 : Bool) (w28 w29 w30 w31 w32 w33 w34 : Int) (w36 : LD) (k0 : LD → Option R) : Option R :=
  bif w9 then
    bif (inB w28 w36.length) then
      bif (decide (w28.toNat < w36.length)) then
        bif (inB w28 w36.length) then
          bif (decide (w28.toNat < w36.length)) then
            bnd ((w36.set w28.toNat (.a [(.i ((w36.getD w28.toNat (.i 0)).cell 0).toI), (.i w29), (.i w30), (.i w31), (.i w32), (.i w33), (.i w34)])) : List D) fun y0 =>
            k0 y0
          else
            none
        else
          none
      else
        none
    else
      none
  else
    k0 w36
noncomputable def G5x0x41 (w9 : Bool) (w28 w29 w30 w31 w32 w33 w34 : Int) (w36 : LD) : Option (LD) := F5x0x41 N w9 w28 w29 w30 w31 w32 w33 w34 w36 (fun p => some p)
theorem bind5x0x41 (w9 : Bool) (w28 w29 w30 w31 w32 w33 w34 : Int) (w36 : LD) (k0 : LD → Option R) : F5x0x41 N w9 w28 w29 w30 w31 w32 w33 w34 w36 k0 = (G5x0x41 N w9 w28 w29 w30 w31 w32 w33 w34 w36).bind k0 := by
  unfold G5x0x41 F5x0x41
  repeat' (first | with_reducible apply cond_b | (with_reducible apply bnd_b; intro _) | rfl)
noncomputable def J5x0x41 (L : List Lf) (k0 : LD → Option R) : Option R := F5x0x41 N (lb L 9) (li L 28) (li L 29) (li L 30) (li L 31) (li L 32) (li L 33) (li L 34) (ll L 36) k0
noncomputable def sh5x0x41 : Sh := { tmps := [(1, .c (.i .i64)), (4, .c (.sl 3)), (5, .c (.p 5 0)), (7, .c (.p 7 0)), (11, .c (.sl 4)), (17, .c (.p 17 0)), (19, .c (.p 19 0)), (66, .c (.sl 50)), (67, .c (.i .i64)), (68, .c (.i .i64)), (88, .c (.b))], mem := [(5, .box ([.sl 70])), (7, .box (.s :: [.i .i64, .i .i64, .sl 48, .sl 111, .sl 9])), (17, .box (.s :: [.i .i64, .i .i64, .o 50017003, .sl 111, .sl 9])), (19, .box (rI 7 ([]))), (50017003, .row 48 true)] }
noncomputable def K5x0x41w0 (L : List Lf) (p : LD) : Ex × St := (.normal, mg (ofSh sh5x0x41 L) [1, 4, 5, 7, 11, 17, 66, 67, 68] [] [5, 7, 17, 50017003] [(50017003, .row 48 true (lb L 35) p)])
noncomputable def A5x0x41 (L : List Lf) : List (Bool × (Ex × St)) := bnd (J5x0x41 N L (fun p => some p)) fun q => [(q.isSome, K5x0x41w0 L (q.getD default))]
theorem raw5x0x41 (L : List Lf) : pc Try.prog (T19x0 N) (h5x0s2 N).h 0 100 5 41 sh5x0x41 L [68, 67, 66, 11, 17, 4, 5, 1, 7] [50017003, 17, 7, 5] = J5x0x41 N L (fun p => some (K5x0x41w0 L p)) := by kernel_rfl
noncomputable def h5x0s3 : Sg Try.prog 0 5 :=
  (h5x0s2 N).cut (A5x0x41 N) progOk (T19x0_ok N) fun L x hx => (raw5x0x41 N L).trans ((bind5x0x41 N ..).trans (alt1 x hx))
noncomputable def S5x0x30 (w4 w6 : LD) (w7 : Int) (w8 : Int) (w28 : LD) (kr : Int → LD → Option R) (k0 : LD → Option R) : Option R :=
  bif (decide (w8 < w7)) then
    bif (inB w8 w6.length) then
      bnd (bif (decide (((w6.getD w8.toNat (.i 0)).cell 0).toI ≥ 0)) then (decide (((w6.getD w8.toNat (.i 0)).cell 0).toI < (w4.length : Int))) else false) fun y0 =>
      bif (bif (inB ((w6.getD w8.toNat (.i 0)).cell 0).toI w4.length) then true else (!(y0 == true))) then
        bnd (bif y0 then (w4.getD ((w6.getD w8.toNat (.i 0)).cell 0).toI.toNat (.i 0)).toB else false) fun y1 =>
        bnd (G5x0x41 N y1 ((w6.getD w8.toNat (.i 0)).cell 0).toI ((w6.getD w8.toNat (.i 0)).cell 1).toI ((w6.getD w8.toNat (.i 0)).cell 2).toI ((w6.getD w8.toNat (.i 0)).cell 3).toI ((w6.getD w8.toNat (.i 0)).cell 4).toI ((w6.getD w8.toNat (.i 0)).cell 5).toI ((w6.getD w8.toNat (.i 0)).cell 6).toI w28) fun y2 =>
        bif y2.isSome then
          kr (IntKind.wrap .i64 (w8 + 1)) (y2.getD default)
        else
          none
      else
        none
    else
      none
  else
    k0 w28
noncomputable def L5x0x30 (N : Nat) {R : Type} (w4 w6 : LD) (w7 : Int) : Nat → Int → LD → (LD → Option R) → Option R
  | 0, _, _, _ => none
  | m + 1, w8, w28, k0 => S5x0x30 N w4 w6 w7 w8 w28 (fun w8 w28 => L5x0x30 N w4 w6 w7 m w8 w28 k0) k0
noncomputable def G5x0x30 (w4 w6 : LD) (w7 : Int) (w8 : Int) (w28 : LD) : Option (LD) := L5x0x30 N (R := (LD)) w4 w6 w7 N w8 w28 (fun p => some p)
noncomputable def J5x0x30 (L x : List Lf) (kr : List Lf → Option R) (k0 : LD → Option R) : Option R := S5x0x30 N (ll L 4) (ll L 6) (li L 7) (li x 0) (ll x 1) (fun w8 w28 => kr [.i w8, .l w28]) k0
theorem sb5x0x30 (L x : List Lf) (kr : List Lf → Option R) (k0 : LD → Option R) : J5x0x30 N L x kr k0 = (J5x0x30 N L x (fun y => some (.inl y)) (fun p => some (.inr p))).bind (sumE kr k0) := by
  unfold J5x0x30 S5x0x30
  repeat' (first | with_reducible apply cond_b | (with_reducible apply bnd_b; intro _) | rfl)
noncomputable def Q5x0x30 (L : List Lf) (m : Nat) (x : List Lf) : Option (LD) := L5x0x30 N (R := (LD)) (ll L 4) (ll L 6) (li L 7) m (li x 0) (ll x 1) (fun p => some p)
noncomputable def sh5x0x30 : Sh := { tmps := [(1, .c (.i .i64)), (4, .c (.sl 3)), (5, .c (.p 5 0)), (7, .c (.p 7 0)), (11, .c (.sl 4)), (17, .c (.p 17 0)), (66, .c (.sl 50)), (67, .c (.i .i64)), (68, .c (.i .i64))], mem := [(5, .box ([.sl 70])), (7, .box (.s :: [.i .i64, .i .i64, .sl 48, .sl 111, .sl 9])), (17, .box (.s :: [.i .i64, .i .i64, .o 50017003, .sl 111, .sl 9])), (50017003, .row 48 true)] }
noncomputable def K5x0x30w0 (L : List Lf) (p : LD) : Ex × St := ((.exit 0), mg (ofSh sh5x0x30 L) [1, 4, 5, 7, 11, 17] [] [5, 7, 17, 50017003] [(50017003, .row 48 true (lb L 27) p)])
noncomputable def A5x0x30 (L : List Lf) : List (Bool × (Ex × St)) := bnd (Q5x0x30 N L N (pk sh5x0x30 [8, 28] L)) fun q => [(q.isSome, K5x0x30w0 L (q.getD default))]
theorem step5x0x30 (m : Nat) (kn : St → Option (Ex × St)) (L x : List Lf) : lpB Try.prog (T19x0 N) (h5x0s3 N).h 0 5 30 sh5x0x30 [8, 28] [10, 17, 4, 11, 5, 1, 7] [50017003, 17, 7, 5] (m + 100) kn L x = J5x0x30 N L x (fun y => kn (ofSh sh5x0x30 (mx sh5x0x30 [8, 28] L y))) (fun p => some (K5x0x30w0 L p)) := by kernel_rfl
theorem ql5x0x30 (L : List Lf) (m : Nat) (x : List Lf) : Q5x0x30 N L (m + 1) x = J5x0x30 N L x (Q5x0x30 N L m) some := by kernel_rfl
noncomputable def h5x0s4 : Sg Try.prog 0 5 :=
  (h5x0s3 N).lp (A5x0x30 N) N progOk (T19x0_ok N) (fun m kn L x => (step5x0x30 N m kn L x).trans (sb5x0x30 N L x _ _)) (fun L m x => (ql5x0x30 N L m x).trans (sb5x0x30 N L x (Q5x0x30 N L m) some)) fun L x hx => alt1 x hx
noncomputable def F5x0x62 (N : Nat) (w7 : Bool) (w27 : LD) (w28 w29 w30 w31 w32 w33 w34 : Int) (k0 : LD → Option R) (k1 : Unit → Option R) : Option R :=
  bif w7 then
    bif (decide ((w27.length + 1) * 56 ≤ room) && decide ((w27.length + 1) ≤ strMax)) then
      bnd ((w27 ++ [(.a [(.i w28), (.i w29), (.i w30), (.i w31), (.i w32), (.i w33), (.i w34)])]) : List D) fun y0 =>
      k0 y0
    else
      none
  else
    k1 ()
noncomputable def G5x0x62 (w7 : Bool) (w27 : LD) (w28 w29 w30 w31 w32 w33 w34 : Int) : Option (Sum (LD) (Unit)) := F5x0x62 N w7 w27 w28 w29 w30 w31 w32 w33 w34 (fun p => some (.inl p)) (fun p => some (.inr p))
theorem bind5x0x62 (w7 : Bool) (w27 : LD) (w28 w29 w30 w31 w32 w33 w34 : Int) (k0 : LD → Option R) (k1 : Unit → Option R) : F5x0x62 N w7 w27 w28 w29 w30 w31 w32 w33 w34 k0 k1 = (G5x0x62 N w7 w27 w28 w29 w30 w31 w32 w33 w34).bind (sumE k0 k1) := by
  unfold G5x0x62 F5x0x62
  repeat' (first | with_reducible apply cond_b | (with_reducible apply bnd_b; intro _) | rfl)
noncomputable def J5x0x62 (L : List Lf) (k0 : LD → Option R) (k1 : Unit → Option R) : Option R := F5x0x62 N (lb L 7) (ll L 27) (li L 28) (li L 29) (li L 30) (li L 31) (li L 32) (li L 33) (li L 34) k0 k1
noncomputable def sh5x0x62 : Sh := { tmps := [(1, .c (.i .i64)), (4, .c (.sl 3)), (5, .c (.p 5 0)), (7, .c (.p 7 0)), (11, .c (.sl 4)), (17, .c (.p 17 0)), (20, .c (.o 20)), (22, .c (.p 22 0)), (116, .c (.o 50017003)), (117, .c (.i .i64)), (118, .c (.i .i64)), (143, .c (.b))], mem := [(5, .box ([.sl 70])), (7, .box (.s :: [.i .i64, .i .i64, .sl 48, .sl 111, .sl 9])), (17, .box (.s :: [.i .i64, .i .i64, .o 50017003, .sl 111, .sl 9])), (20, .row 48 true), (22, .box (rI 7 ([]))), (50017003, .row 48 true)] }
noncomputable def K5x0x62w0 (L : List Lf) (p : LD) : Ex × St := (.normal, mg (ofSh sh5x0x62 L) [1, 4, 5, 7, 11, 17, 20, 116, 117, 118] [(20, .c (.o 147))] [5, 7, 17, 147, 50017003] [(147, .row 48 true false p)])
noncomputable def K5x0x62w1 (L : List Lf) (_ : Unit) : Ex × St := (.normal, mg (ofSh sh5x0x62 L) [1, 4, 5, 7, 11, 17, 20, 116, 117, 118] [] [5, 7, 17, 20, 50017003] [])
noncomputable def A5x0x62 (L : List Lf) : List (Bool × (Ex × St)) := bnd (J5x0x62 N L (fun p => some (.inl p)) (fun p => some (.inr p))) fun q => [((inlB q), K5x0x62w0 L (inlV q)), ((inrQ q).isSome, K5x0x62w1 L ())]
theorem raw5x0x62 (L : List Lf) : pc Try.prog (T19x0 N) (h5x0s4 N).h 0 100 5 62 sh5x0x62 L [118, 117, 116, 4, 11, 20, 17, 5, 1, 7] [147, 50017003, 17, 7, 5, 20] = J5x0x62 N L (fun p => some (K5x0x62w0 L p)) (fun _ => some (K5x0x62w1 L ())) := by kernel_rfl
noncomputable def h5x0s5 : Sg Try.prog 0 5 :=
  (h5x0s4 N).cut (A5x0x62 N) progOk (T19x0_ok N) fun L x hx => (raw5x0x62 N L).trans ((bind5x0x62 N ..).trans ((altS alt1) x hx))
noncomputable def S5x0x51 (w2 w4 : LD) (w5 : Int) (w28 : LD) (w6 : Int) (w25 : Bool) (w26 : LD) (kr : Int → Bool → LD → Option R) (k0 : Bool × LD → Option R) : Option R :=
  bif (decide (w6 < w5)) then
    bif (inB w6 w28.length) then
      bif (decide (w6.toNat < w28.length)) then
        bnd (G21x0 N w2 w6) fun y0 =>
        bif y0.isSome then
          bif (bif (inB w6 w4.length) then true else (!((y0.getD default) == true))) then
            bnd (bif (y0.getD default) then (w4.getD w6.toNat (.i 0)).toB else false) fun y1 =>
            bnd (bif (bif y1 then (decide (w6 > 0)) else false) then (decide (w6 < (IntKind.wrap .i64 ((w4.length : Int) - 1)))) else false) fun y2 =>
            bnd (G5x0x62 N (!y2) w26 ((w28.getD w6.toNat (.i 0)).cell 0).toI ((w28.getD w6.toNat (.i 0)).cell 1).toI ((w28.getD w6.toNat (.i 0)).cell 2).toI ((w28.getD w6.toNat (.i 0)).cell 3).toI ((w28.getD w6.toNat (.i 0)).cell 4).toI ((w28.getD w6.toNat (.i 0)).cell 5).toI ((w28.getD w6.toNat (.i 0)).cell 6).toI) fun y3 =>
            bif (inlB y3) then
              kr (IntKind.wrap .i64 (w6 + 1)) false (inlV y3)
            else
              bif (inrQ y3).isSome then
                kr (IntKind.wrap .i64 (w6 + 1)) w25 w26
              else
                none
          else
            none
        else
          none
      else
        none
    else
      none
  else
    k0 (w25, w26)
noncomputable def L5x0x51 (N : Nat) {R : Type} (w2 w4 : LD) (w5 : Int) (w28 : LD) : Nat → Int → Bool → LD → (Bool × LD → Option R) → Option R
  | 0, _, _, _, _ => none
  | m + 1, w6, w25, w26, k0 => S5x0x51 N w2 w4 w5 w28 w6 w25 w26 (fun w6 w25 w26 => L5x0x51 N w2 w4 w5 w28 m w6 w25 w26 k0) k0
noncomputable def G5x0x51 (w2 w4 : LD) (w5 : Int) (w28 : LD) (w6 : Int) (w25 : Bool) (w26 : LD) : Option (Bool × LD) := L5x0x51 N (R := (Bool × LD)) w2 w4 w5 w28 N w6 w25 w26 (fun p => some p)
noncomputable def J5x0x51 (L x : List Lf) (kr : List Lf → Option R) (k0 : Bool × LD → Option R) : Option R := S5x0x51 N (ll L 2) (ll L 4) (li L 5) (ll L 28) (li x 0) (lb x 1) (ll x 2) (fun w6 w25 w26 => kr [.i w6, .b w25, .l w26]) k0
theorem sb5x0x51 (L x : List Lf) (kr : List Lf → Option R) (k0 : Bool × LD → Option R) : J5x0x51 N L x kr k0 = (J5x0x51 N L x (fun y => some (.inl y)) (fun p => some (.inr p))).bind (sumE kr k0) := by
  unfold J5x0x51 S5x0x51
  repeat' (first | with_reducible apply cond_b | (with_reducible apply bnd_b; intro _) | rfl)
noncomputable def Q5x0x51 (L : List Lf) (m : Nat) (x : List Lf) : Option (Bool × LD) := L5x0x51 N (R := (Bool × LD)) (ll L 2) (ll L 4) (li L 5) (ll L 28) m (li x 0) (lb x 1) (ll x 2) (fun p => some p)
noncomputable def sh5x0x51 : Sh := { tmps := [(1, .c (.i .i64)), (4, .c (.sl 3)), (5, .c (.p 5 0)), (7, .c (.p 7 0)), (11, .c (.sl 4)), (17, .c (.p 17 0)), (20, .c (.o 20)), (116, .c (.o 50017003)), (117, .c (.i .i64)), (118, .c (.i .i64))], mem := [(5, .box ([.sl 70])), (7, .box (.s :: [.i .i64, .i .i64, .sl 48, .sl 111, .sl 9])), (17, .box (.s :: [.i .i64, .i .i64, .o 50017003, .sl 111, .sl 9])), (20, .row 48 true), (50017003, .row 48 true)] }
noncomputable def K5x0x51w0 (L : List Lf) (p : Bool × LD) : Ex × St := ((.exit 2), mg (ofSh sh5x0x51 L) [1, 5, 7, 11, 17, 20] [] [5, 7, 17, 20, 50017003] [(20, .row 48 true p.1 p.2)])
noncomputable def A5x0x51 (L : List Lf) : List (Bool × (Ex × St)) := bnd (Q5x0x51 N L N (pk sh5x0x51 [6, 25, 26] L)) fun q => [(q.isSome, K5x0x51w0 L (q.getD default))]
theorem step5x0x51 (m : Nat) (kn : St → Option (Ex × St)) (L x : List Lf) : lpB Try.prog (T19x0 N) (h5x0s5 N).h 0 5 51 sh5x0x51 [6, 25, 26] [10, 20, 17, 5, 1, 11, 7] [20, 50017003, 17, 7, 5] (m + 100) kn L x = J5x0x51 N L x (fun y => kn (ofSh sh5x0x51 (mx sh5x0x51 [6, 25, 26] L y))) (fun p => some (K5x0x51w0 L p)) := by kernel_rfl
theorem ql5x0x51 (L : List Lf) (m : Nat) (x : List Lf) : Q5x0x51 N L (m + 1) x = J5x0x51 N L x (Q5x0x51 N L m) some := by kernel_rfl
noncomputable def h5x0s6 : Sg Try.prog 0 5 :=
  (h5x0s5 N).lp (A5x0x51 N) N progOk (T19x0_ok N) (fun m kn L x => (step5x0x51 N m kn L x).trans (sb5x0x51 N L x _ _)) (fun L m x => (ql5x0x51 N L m x).trans (sb5x0x51 N L x (Q5x0x51 N L m) some)) fun L x hx => alt1 x hx
noncomputable def F5x0x97 (w0 : Int) (w2 w4 : LD) (w5 : Int) (w6 : Bool) (w7 : Int) (k0 : Bool → Option R) : Option R :=
  bnd (bif (bif (w0 == 0) then (w5 == 0) else false) then (w7 == 0) else false) fun y0 =>
  bif (bif y0 then (!w6) else false) then
    bnd (G19x0 N w2 w4) fun y1 =>
    bif y1.isSome then
      bif (y1.getD default) then
        bnd (G12x0 N) fun y2 =>
        bif y2.isSome then
          k0 (y2.getD default)
        else
          none
      else
        k0 false
    else
      none
  else
    k0 false
noncomputable def G5x0x97 (w0 : Int) (w2 w4 : LD) (w5 : Int) (w6 : Bool) (w7 : Int) : Option (Bool) := F5x0x97 N w0 w2 w4 w5 w6 w7 (fun p => some p)
theorem bind5x0x97 (w0 : Int) (w2 w4 : LD) (w5 : Int) (w6 : Bool) (w7 : Int) (k0 : Bool → Option R) : F5x0x97 N w0 w2 w4 w5 w6 w7 k0 = (G5x0x97 N w0 w2 w4 w5 w6 w7).bind k0 := by
  unfold G5x0x97 F5x0x97
  repeat' (first | with_reducible apply cond_b | (with_reducible apply bnd_b; intro _) | rfl)
noncomputable def J5x0x97 (L : List Lf) (k0 : Bool → Option R) : Option R := F5x0x97 N (li L 0) (ll L 2) (ll L 4) (li L 5) (lb L 6) (li L 7) k0
noncomputable def sh5x0x97 : Sh := { tmps := [(13, .c (.i .i64)), (26, .c (.sl 29)), (27, .c (.sl 29)), (28, .c (.i .i64)), (29, .c (.b)), (30, .c (.i .i64))], mem := [] }
noncomputable def A5x0x97 (L : List Lf) : List (Bool × (Ex × St)) := bnd (J5x0x97 N L (fun p => some p)) fun q => [(q.isSome, (.normal, ⟨[(10, .c (.b (q.getD default)))], []⟩))]
theorem raw5x0x97 (L : List Lf) : pc Try.prog (T19x0 N) (h5x0s6 N).h 0 100 5 97 sh5x0x97 L [10] [] = J5x0x97 N L (fun p => some (.normal, ⟨[(10, .c (.b p))], []⟩)) := by kernel_rfl
noncomputable def h5x0s7 : Sg Try.prog 0 5 :=
  (h5x0s6 N).cut (A5x0x97 N) progOk (T19x0_ok N) fun L x hx => (raw5x0x97 N L).trans ((bind5x0x97 N ..).trans (alt1 x hx))
noncomputable def F5x0 (v1 : LD) (v2 : Int) (v3 : LB) (v4 v5 : Int) (v6 : Bool) (v7 : LD) (v8 : Bool) (v9 : LD) (v10 : Bool) (v11 v13 v15 : LD) (k0 : Bool → Option R) : Option R :=
  bnd (G10x0 N v1 v2 v3 v4 v5 v6 v7 v8 v9 v10 v11) fun y0 =>
  bif y0.isSome then
    bif ((y0.getD default).2.2.2 != 0) then
      bnd (G11x0 N v1 v2 v3 v4 v5 v6 v7 v8 v9 v10 v11) fun y1 =>
      bif y1.isSome then
        bnd (G5x0x13 N (y0.getD default).2.2.2 (y1.getD default).2.2.2) fun y2 =>
        bif y2.isSome then
          k0 (y2.getD default)
        else
          none
      else
        none
    else
      bnd (((y0.getD default).2.1.length : Int) != (v7.length : Int)) fun y3 =>
      bif y3 then
        k0 false
      else
        bnd (G5x0x25 N v6 v7) fun y4 =>
        bif (inlB y4) then
          bnd (G5x0x30 N (y0.getD default).2.1 v13 (v13.length : Int) 0 []) fun y5 =>
          bif y5.isSome then
            bnd (G5x0x51 N v15 (y0.getD default).2.1 ((y5.getD default).length : Int) (y5.getD default) 0 true []) fun y6 =>
            bif y6.isSome then
              bnd (G11x0 N v1 v2 v3 v4 v5 (y6.getD default).1 (y6.getD default).2 v8 v9 v10 v11) fun y7 =>
              bif y7.isSome then
                bif ((y7.getD default).2.2.2 != 0) then
                  bnd (G12x0 N) fun y8 =>
                  bif y8.isSome then
                    k0 (y8.getD default)
                  else
                    none
                else
                  bnd (G22x0 N (y7.getD default).2.1) fun y9 =>
                  bif y9.isSome then
                    bnd (G22x0 N (y0.getD default).2.1) fun y10 =>
                    bif y10.isSome then
                      bif ((y9.getD default) != (y10.getD default)) then
                        bnd (G12x0 N) fun y8 =>
                        bif y8.isSome then
                          k0 (y8.getD default)
                        else
                          none
                      else
                        bnd (G13x0 N v1 v2 v3 v4 v5 v6 v7 v8 v9 v10 v11) fun y11 =>
                        bif y11.isSome then
                          bnd (G13x0 N v1 v2 v3 v4 v5 (y6.getD default).1 (y6.getD default).2 v8 v9 v10 v11) fun y12 =>
                          bif y12.isSome then
                            bnd (G23x0 N v1 v2 v3 v4 v5 v6 v7 v8 v9 v10 v11 v3 v4 v5 (y6.getD default).1 (y6.getD default).2 v8 v9 v10 v11) fun y13 =>
                            bif y13.isSome then
                              bnd (G5x0x97 N (y11.getD default).2.2 (y11.getD default).2.1 (y12.getD default).2.1 (y12.getD default).2.2 (y13.getD default).1 (y13.getD default).2) fun y14 =>
                              bif y14.isSome then
                                k0 (y14.getD default)
                              else
                                none
                            else
                              none
                          else
                            none
                        else
                          none
                    else
                      none
                  else
                    none
              else
                none
            else
              none
          else
            none
        else
          bif (inrQ y4).isSome then
            bnd (G5x0x30 N (y0.getD default).2.1 v13 (v13.length : Int) 0 v7) fun y15 =>
            bif y15.isSome then
              bnd (G5x0x51 N v15 (y0.getD default).2.1 ((y15.getD default).length : Int) (y15.getD default) 0 true []) fun y16 =>
              bif y16.isSome then
                bnd (G11x0 N v1 v2 v3 v4 v5 (y16.getD default).1 (y16.getD default).2 v8 v9 v10 v11) fun y17 =>
                bif y17.isSome then
                  bif ((y17.getD default).2.2.2 != 0) then
                    bnd (G12x0 N) fun y8 =>
                    bif y8.isSome then
                      k0 (y8.getD default)
                    else
                      none
                  else
                    bnd (G22x0 N (y17.getD default).2.1) fun y18 =>
                    bif y18.isSome then
                      bnd (G22x0 N (y0.getD default).2.1) fun y10 =>
                      bif y10.isSome then
                        bif ((y18.getD default) != (y10.getD default)) then
                          bnd (G12x0 N) fun y8 =>
                          bif y8.isSome then
                            k0 (y8.getD default)
                          else
                            none
                        else
                          bnd (G13x0 N v1 v2 v3 v4 v5 v6 v7 v8 v9 v10 v11) fun y11 =>
                          bif y11.isSome then
                            bnd (G13x0 N v1 v2 v3 v4 v5 (y16.getD default).1 (y16.getD default).2 v8 v9 v10 v11) fun y19 =>
                            bif y19.isSome then
                              bnd (G23x0 N v1 v2 v3 v4 v5 v6 v7 v8 v9 v10 v11 v3 v4 v5 (y16.getD default).1 (y16.getD default).2 v8 v9 v10 v11) fun y20 =>
                              bif y20.isSome then
                                bnd (G5x0x97 N (y11.getD default).2.2 (y11.getD default).2.1 (y19.getD default).2.1 (y19.getD default).2.2 (y20.getD default).1 (y20.getD default).2) fun y21 =>
                                bif y21.isSome then
                                  k0 (y21.getD default)
                                else
                                  none
                              else
                                none
                            else
                              none
                          else
                            none
                      else
                        none
                    else
                      none
                else
                  none
              else
                none
            else
              none
          else
            none
  else
    none
noncomputable def G5x0 (v1 : LD) (v2 : Int) (v3 : LB) (v4 v5 : Int) (v6 : Bool) (v7 : LD) (v8 : Bool) (v9 : LD) (v10 : Bool) (v11 v13 v15 : LD) : Option (Bool) := F5x0 N v1 v2 v3 v4 v5 v6 v7 v8 v9 v10 v11 v13 v15 (fun p => some p)
theorem bind5x0 (v1 : LD) (v2 : Int) (v3 : LB) (v4 v5 : Int) (v6 : Bool) (v7 : LD) (v8 : Bool) (v9 : LD) (v10 : Bool) (v11 v13 v15 : LD) (k0 : Bool → Option R) : F5x0 N v1 v2 v3 v4 v5 v6 v7 v8 v9 v10 v11 v13 v15 k0 = (G5x0 N v1 v2 v3 v4 v5 v6 v7 v8 v9 v10 v11 v13 v15).bind k0 := by
  unfold G5x0 F5x0
  repeat' (first | with_reducible apply cond_b | (with_reducible apply bnd_b; intro _) | rfl)
noncomputable def J5x0 (L : List Lf) (k0 : Bool → Option R) : Option R := F5x0 N (ll L 1) (li L 2) (ls L 3) (li L 4) (li L 5) (lb L 6) (ll L 7) (lb L 8) (ll L 9) (lb L 10) (ll L 11) (ll L 13) (ll L 15) k0
noncomputable def sh5x0 : Sh := { tmps := [(0, .g ([.sl 70])), (1, .c (.i .i64)), (2, .g (.s :: [.i .i64, .i .i64, .sl 48, .sl 111, .sl 9])), (3, .c (.sl 50)), (4, .c (.sl 3))], mem := [] }
noncomputable def A5x0 (L : List Lf) : List (Bool × Res) := bnd (J5x0 N L (fun p => some p)) fun q => [(q.isSome, ([.c (.b (q.getD default))], []))]
theorem raw5x0 (L : List Lf) : bd Try.prog (T19x0 N) (h5x0s7 N).h 5 sh5x0 L = J5x0 N L (fun p => some ([.c (.b p)], [])) := by kernel_rfl
theorem ok5x0 : FnOk Try.prog 5 sh5x0 (A5x0 N) :=
  (h5x0s7 N).fn progOk (T19x0_ok N) fun L x hx => ((raw5x0 N L).trans ((bind5x0 N ..).trans (alt1 x hx)))
noncomputable def T5x0 : Oracle := ext 5 (spSh sh5x0 (A5x0 N)) (T19x0 N)
theorem T5x0_ok : OracleOk Try.prog (T5x0 N) := FnOk.to (ok5x0 N) (T19x0_ok N)
end Go.Proofs.Ytngnemeafkmaoaa
