/- Functions of the program as plain Lean definitions, each with the proof that the program computes it. No condition. Printed by a program of the prover, part 2. -/
import Derived.Test.YtngnemeafkmaoaaVPp1
import Derived.KernelRfl
set_option linter.all false
set_option maxRecDepth 100000
namespace Go.Proofs.Ytngnemeafkmaoaa
open Go Go.AM
variable (N : Nat) {R : Type}
noncomputable def S94x0x51 (w0 : Int) (w2 : LD) (w3 : Int) (w13 : Bool) (w28 : (List (D × D))) (w4 : Int) (w31 : Bool) (w32 : LD) (kr : Int → Bool → LD → Option R) (k0 : Bool × LD → Option R) : Option R :=
  bif (decide (w4 < w3)) then
    bif (inB w4 w2.length) then
      bnd ((findB Try.prog 3 (.i ((w2.getD w4.toNat (.i 0)).cell 0).toI) w28).getD (.b false)).toB fun y0 =>
      bnd (bif (!y0) then true else (!((findB Try.prog 3 (.i ((w2.getD w4.toNat (.i 0)).cell 1).toI) w28).getD (.b false)).toB)) fun y1 =>
      bif y1 then
        kr (IntKind.wrap .i64 (w4 + 1)) w31 w32
      else
        bnd (IntKind.wrap .i64 (((w2.getD w4.toNat (.i 0)).cell 0).toI - w0)) fun y2 =>
        bnd (IntKind.wrap .i64 (((w2.getD w4.toNat (.i 0)).cell 1).toI - w0)) fun y3 =>
        bnd (V94x0x68 N w13 ((w2.getD w4.toNat (.i 0)).cell 2).toS) fun y4 =>
        bif (decide ((w32.length + 1) * 32 ≤ room) && decide ((w32.length + 1) ≤ strMax)) then
          bnd ((w32 ++ [(.a [(.i y2), (.i y3), (.s y4)])]) : List D) fun y5 =>
          kr (IntKind.wrap .i64 (w4 + 1)) false y5
        else
          none
    else
      none
  else
    k0 (w31, w32)
noncomputable def L94x0x51 (N : Nat) {R : Type} (w0 : Int) (w2 : LD) (w3 : Int) (w13 : Bool) (w28 : (List (D × D))) : Nat → Int → Bool → LD → (Bool × LD → Option R) → Option R
  | 0, _, _, _, _ => none
  | m + 1, w4, w31, w32, k0 => S94x0x51 N w0 w2 w3 w13 w28 w4 w31 w32 (fun w4 w31 w32 => L94x0x51 N w0 w2 w3 w13 w28 m w4 w31 w32 k0) k0
noncomputable def G94x0x51 (w0 : Int) (w2 : LD) (w3 : Int) (w13 : Bool) (w28 : (List (D × D))) (w4 : Int) (w31 : Bool) (w32 : LD) : Option (Bool × LD) := L94x0x51 N (R := (Bool × LD)) w0 w2 w3 w13 w28 N w4 w31 w32 (fun p => some p)
noncomputable def J94x0x51 (L x : List Lf) (kr : List Lf → Option R) (k0 : Bool × LD → Option R) : Option R := S94x0x51 N (li L 0) (ll L 2) (li L 3) (lb L 13) (lm L 28) (li x 0) (lb x 1) (ll x 2) (fun w4 w31 w32 => kr [.i w4, .b w31, .l w32]) k0
theorem sb94x0x51 (L x : List Lf) (kr : List Lf → Option R) (k0 : Bool × LD → Option R) : J94x0x51 N L x kr k0 = (J94x0x51 N L x (fun y => some (.inl y)) (fun p => some (.inr p))).bind (sumE kr k0) := by
  unfold J94x0x51 S94x0x51
  repeat' (first | with_reducible apply cond_b | (with_reducible apply bnd_b; intro _) | rfl)
noncomputable def Q94x0x51 (L : List Lf) (m : Nat) (x : List Lf) : Option (Bool × LD) := L94x0x51 N (R := (Bool × LD)) (li L 0) (ll L 2) (li L 3) (lb L 13) (lm L 28) m (li x 0) (lb x 1) (ll x 2) (fun p => some p)
noncomputable def sh94x0x51 : Sh := { tmps := [(3, .c (.p 3 0)), (6, .c (.p 6 0)), (7, .c (.i .i64)), (8, .c (.p 8 0)), (9, .c (.m 40)), (66, .c (.sl 111)), (67, .c (.i .i64)), (68, .c (.i .i64))], mem := [(3, .box (rB 5 ([.sl 3, .b, .b]))), (6, .box (.s :: [.i .i64, .i .i64, .sl 48, .sl 111, .sl 9])), (8, .box (.s :: [.i .i64, .i .i64, .o 50008003, .o 50008004, .sl 9])), (40, .map 3 4), (50008003, .row 48 true), (50008004, .row 111 true)] }
noncomputable def K94x0x51w0 (L : List Lf) (p : Bool × LD) : Ex × St := ((.exit 2), mg (ofSh sh94x0x51 L) [6, 8] [] [6, 8, 50008003, 50008004] [(50008004, .row 111 true p.1 p.2)])
noncomputable def A94x0x51 (L : List Lf) : List (Bool × (Ex × St)) := bnd (Q94x0x51 N L N (pk sh94x0x51 [4, 31, 32] L)) fun q => [(q.isSome, K94x0x51w0 L (q.getD default))]
theorem step94x0x51 (m : Nat) (kn : St → Option (Ex × St)) (L x : List Lf) : lpB Try.prog (T100x0 N) (h94x0s5 N).h 0 94 51 sh94x0x51 [4, 31, 32] [6, 8] [50008004, 50008003, 8, 6] (m + 100) kn L x = J94x0x51 N L x (fun y => kn (ofSh sh94x0x51 (mx sh94x0x51 [4, 31, 32] L y))) (fun p => some (K94x0x51w0 L p)) := by kernel_rfl
theorem ql94x0x51 (L : List Lf) (m : Nat) (x : List Lf) : Q94x0x51 N L (m + 1) x = J94x0x51 N L x (Q94x0x51 N L m) some := by kernel_rfl
noncomputable def h94x0s6 : Sg Try.prog 0 94 :=
  (h94x0s5 N).lp (A94x0x51 N) N progOk (T100x0_ok N) (fun m kn L x => (step94x0x51 N m kn L x).trans (sb94x0x51 N L x _ _)) (fun L m x => (ql94x0x51 N L m x).trans (sb94x0x51 N L x (Q94x0x51 N L m) some)) fun L x hx => alt1 x hx
noncomputable def F94x0x14b (N : Nat) (w3 : Bool) (k0 : LB → Option R) (k1 : Unit → Option R) : Option R :=
  bif w3 then
    k0 ([97, 99, 116, 105, 118, 105, 116, 121] : List UInt8)
  else
    k1 ()
noncomputable def G94x0x14b (w3 : Bool) : Option (Sum (LB) (Unit)) := F94x0x14b N w3 (fun p => some (.inl p)) (fun p => some (.inr p))
theorem bind94x0x14b (w3 : Bool) (k0 : LB → Option R) (k1 : Unit → Option R) : F94x0x14b N w3 k0 k1 = (G94x0x14b N w3).bind (sumE k0 k1) := by
  unfold G94x0x14b F94x0x14b
  repeat' (first | with_reducible apply cond_b | (with_reducible apply bnd_b; intro _) | rfl)
noncomputable def sh94x0x14b : Sh := { tmps := [(2, .c (.sl 48)), (3, .c (.p 3 0)), (4, .c (.p 4 0)), (6, .c (.p 6 0)), (7, .c (.i .i64)), (8, .c (.p 8 0)), (31, .c (.b))], mem := [(3, .box (rB 5 ([.sl 3, .b, .b]))), (4, .box (.s :: [.i .i64, .i .i64, .sl 48, .sl 111, .sl 9])), (6, .box (.s :: [.i .i64, .i .i64, .sl 48, .sl 111, .sl 9])), (8, .box (.s :: [.i .i64, .i .i64, .sl 48, .sl 111, .o 29000000007])), (29000000007, .row 9 true)] }
noncomputable def K94x0x14bw0 (L : List Lf) (p : LB) : Ex × St := (.normal, mg (ofSh sh94x0x14b L) [2, 3, 4, 6, 7, 8] [] [3, 4, 6, 8, 29000000007] [(8, .box [.s p, .i .i64 (li L 32), .i .i64 (li L 33), .sl 48 (lb L 34) (ll L 35), .sl 111 (lb L 36) (ll L 37), .sl 9 true []])])
noncomputable def K94x0x14bw1 (L : List Lf) (_ : Unit) : Ex × St := (.normal, mg (ofSh sh94x0x14b L) [2, 3, 4, 6, 7, 8] [] [3, 4, 6, 8, 29000000007] [])
noncomputable def A94x0x14b (L : List Lf) : List (Bool × (Ex × St)) := bnd (F94x0x14b N (lb L 3) (fun p => some (.inl p)) (fun p => some (.inr p))) fun q => [((inlB q), K94x0x14bw0 L (inlV q)), ((inrQ q).isSome, K94x0x14bw1 L ())]
theorem raw94x0x14b (L : List Lf) : pc Try.prog (T100x0 N) ((h94x0s6 N).no 14).h 0 100 94 14 sh94x0x14b L [3, 8, 2, 7, 4, 6] [8, 6, 4, 3, 29000000007] = F94x0x14b N (lb L 3) (fun p => some (K94x0x14bw0 L p)) (fun _ => some (K94x0x14bw1 L ())) := by kernel_rfl
noncomputable def h94x0s7 : Sg Try.prog 0 94 :=
  (h94x0s6 N).add (((h94x0s6 N).no 14).cut (A94x0x14b N) progOk (T100x0_ok N) fun L x hx => (raw94x0x14b N L).trans ((bind94x0x14b N ..).trans ((altS alt1) x hx))) 14
noncomputable def F94x0x20b (w3 : Bool) (w33 : Int) (k0 : Int → Option R) : Option R :=
  bif w3 then
    bnd (G99x0 N w33 86400) fun y0 =>
    bif y0.isSome then
      k0 (y0.getD default)
    else
      none
  else
    k0 w33
noncomputable def G94x0x20b (w3 : Bool) (w33 : Int) : Option (Int) := F94x0x20b N w3 w33 (fun p => some p)
theorem bind94x0x20b (w3 : Bool) (w33 : Int) (k0 : Int → Option R) : F94x0x20b N w3 w33 k0 = (G94x0x20b N w3 w33).bind k0 := by
  unfold G94x0x20b F94x0x20b
  repeat' (first | with_reducible apply cond_b | (with_reducible apply bnd_b; intro _) | rfl)
noncomputable def sh94x0x20b : Sh := { tmps := [(2, .c (.sl 48)), (3, .c (.p 3 0)), (4, .c (.p 4 0)), (6, .c (.p 6 0)), (7, .c (.i .i64)), (8, .c (.p 8 0)), (35, .c (.b))], mem := [(3, .box (rB 5 ([.sl 3, .b, .b]))), (4, .box (.s :: [.i .i64, .i .i64, .sl 48, .sl 111, .sl 9])), (6, .box (.s :: [.i .i64, .i .i64, .sl 48, .sl 111, .sl 9])), (8, .box (.s :: [.i .i64, .i .i64, .sl 48, .sl 111, .sl 9])), (29000000007, .row 9 true)] }
noncomputable def K94x0x20bw0 (L : List Lf) (p : Int) : Ex × St := (.normal, mg (ofSh sh94x0x20b L) [2, 3, 4, 6, 7, 8] [] [3, 4, 6, 8] [(8, .box [.s (ls L 31), .i .i64 (li L 32), .i .i64 p, .sl 48 (lb L 34) (ll L 35), .sl 111 (lb L 36) (ll L 37), .sl 9 (lb L 38) (ll L 39)])])
noncomputable def A94x0x20b (L : List Lf) : List (Bool × (Ex × St)) := bnd (F94x0x20b N (lb L 3) (li L 33) (fun p => some p)) fun q => [(q.isSome, K94x0x20bw0 L (q.getD default))]
theorem raw94x0x20b (L : List Lf) : pc Try.prog (T100x0 N) ((h94x0s7 N).no 20).h 0 100 94 20 sh94x0x20b L [2, 3, 7, 8, 4, 6] [8, 6, 4, 3] = F94x0x20b N (lb L 3) (li L 33) (fun p => some (K94x0x20bw0 L p)) := by kernel_rfl
noncomputable def h94x0s8 : Sg Try.prog 0 94 :=
  (h94x0s7 N).add (((h94x0s7 N).no 20).cut (A94x0x20b N) progOk (T100x0_ok N) fun L x hx => (raw94x0x20b N L).trans ((bind94x0x20b N ..).trans (alt1 x hx))) 20
noncomputable def F94x0x20bb (w3 : Bool) (w33 : Int) (k0 : Int → Option R) : Option R :=
  bif w3 then
    bnd (G99x0 N w33 86400) fun y0 =>
    bif y0.isSome then
      k0 (y0.getD default)
    else
      none
  else
    k0 w33
noncomputable def G94x0x20bb (w3 : Bool) (w33 : Int) : Option (Int) := F94x0x20bb N w3 w33 (fun p => some p)
theorem bind94x0x20bb (w3 : Bool) (w33 : Int) (k0 : Int → Option R) : F94x0x20bb N w3 w33 k0 = (G94x0x20bb N w3 w33).bind k0 := by
  unfold G94x0x20bb F94x0x20bb
  repeat' (first | with_reducible apply cond_b | (with_reducible apply bnd_b; intro _) | rfl)
noncomputable def sh94x0x20bb : Sh := { tmps := [(2, .c (.sl 48)), (3, .c (.p 3 0)), (4, .c (.p 4 0)), (6, .c (.p 6 0)), (7, .c (.i .i64)), (8, .c (.p 8 0)), (35, .c (.b))], mem := [(3, .box (rB 5 ([.sl 3, .b, .b]))), (4, .box (.s :: [.i .i64, .i .i64, .sl 48, .sl 111, .sl 9])), (6, .box (.s :: [.i .i64, .i .i64, .sl 48, .sl 111, .sl 9])), (8, .box (.s :: [.i .i64, .i .i64, .sl 48, .sl 111, .o 29000000007])), (29000000007, .row 9 true)] }
noncomputable def K94x0x20bbw0 (L : List Lf) (p : Int) : Ex × St := (.normal, mg (ofSh sh94x0x20bb L) [2, 3, 4, 6, 7, 8] [] [3, 4, 6, 8, 29000000007] [(8, .box [.s (ls L 31), .i .i64 (li L 32), .i .i64 p, .sl 48 (lb L 34) (ll L 35), .sl 111 (lb L 36) (ll L 37), .o 29000000007])])
noncomputable def A94x0x20bb (L : List Lf) : List (Bool × (Ex × St)) := bnd (F94x0x20bb N (lb L 3) (li L 33) (fun p => some p)) fun q => [(q.isSome, K94x0x20bbw0 L (q.getD default))]
theorem raw94x0x20bb (L : List Lf) : pc Try.prog (T100x0 N) ((h94x0s8 N).no 20).h 0 100 94 20 sh94x0x20bb L [2, 3, 7, 8, 4, 6] [29000000007, 8, 6, 4, 3] = F94x0x20bb N (lb L 3) (li L 33) (fun p => some (K94x0x20bbw0 L p)) := by kernel_rfl
noncomputable def h94x0s9 : Sg Try.prog 0 94 :=
  (h94x0s8 N).add (((h94x0s8 N).no 20).cut (A94x0x20bb N) progOk (T100x0_ok N) fun L x hx => (raw94x0x20bb N L).trans ((bind94x0x20bb N ..).trans (alt1 x hx))) 20
noncomputable def S94x0x27b (w0 : Int) (w2 : LD) (w3 : Int) (w6 w7 w8 w9 : Bool) (w11 : LD) (w4 : Int) (w35 : (List (D × D))) (w36 : Bool) (w37 : LD) (kr : Int → (List (D × D)) → Bool → LD → Option R) (k0 : Ty6 → Option R) : Option R :=
  bif (decide (w4 < w3)) then
    bif (inB w4 w2.length) then
      bnd (putB Try.prog 3 (.i ((w2.getD w4.toNat (.i 0)).cell 0).toI) (.b true) w35) fun y0 =>
      bnd (G100x0 N w6 w7 w8 w9 w11 ((w2.getD w4.toNat (.i 0)).cell 1).toI ((w2.getD w4.toNat (.i 0)).cell 2).toI ((w2.getD w4.toNat (.i 0)).cell 3).toI ((w2.getD w4.toNat (.i 0)).cell 4).toI ((w2.getD w4.toNat (.i 0)).cell 5).toI ((w2.getD w4.toNat (.i 0)).cell 6).toI) fun y1 =>
      bif y1.isSome then
        bnd (IntKind.wrap .i64 (((w2.getD w4.toNat (.i 0)).cell 0).toI - w0)) fun y2 =>
        bif (decide ((w37.length + 1) * 56 ≤ room) && decide ((w37.length + 1) ≤ strMax)) then
          bnd ((w37 ++ [(.a [(.i y2), (.i (y1.getD default).1), (.i (y1.getD default).2.1), (.i (y1.getD default).2.2.1), (.i (y1.getD default).2.2.2.1), (.i (y1.getD default).2.2.2.2.1), (.i (y1.getD default).2.2.2.2.2)])]) : List D) fun y3 =>
          kr (IntKind.wrap .i64 (w4 + 1)) y0 false y3
        else
          none
      else
        none
    else
      none
  else
    k0 (w35, w36, w37)
noncomputable def L94x0x27b (N : Nat) {R : Type} (w0 : Int) (w2 : LD) (w3 : Int) (w6 w7 w8 w9 : Bool) (w11 : LD) : Nat → Int → (List (D × D)) → Bool → LD → (Ty6 → Option R) → Option R
  | 0, _, _, _, _, _ => none
  | m + 1, w4, w35, w36, w37, k0 => S94x0x27b N w0 w2 w3 w6 w7 w8 w9 w11 w4 w35 w36 w37 (fun w4 w35 w36 w37 => L94x0x27b N w0 w2 w3 w6 w7 w8 w9 w11 m w4 w35 w36 w37 k0) k0
noncomputable def G94x0x27b (w0 : Int) (w2 : LD) (w3 : Int) (w6 w7 w8 w9 : Bool) (w11 : LD) (w4 : Int) (w35 : (List (D × D))) (w36 : Bool) (w37 : LD) : Option (Ty6) := L94x0x27b N (R := (Ty6)) w0 w2 w3 w6 w7 w8 w9 w11 N w4 w35 w36 w37 (fun p => some p)
noncomputable def J94x0x27b (L x : List Lf) (kr : List Lf → Option R) (k0 : Ty6 → Option R) : Option R := S94x0x27b N (li L 0) (ll L 2) (li L 3) (lb L 6) (lb L 7) (lb L 8) (lb L 9) (ll L 11) (li x 0) (lm x 1) (lb x 2) (ll x 3) (fun w4 w35 w36 w37 => kr [.i w4, .m w35, .b w36, .l w37]) k0
theorem sb94x0x27b (L x : List Lf) (kr : List Lf → Option R) (k0 : Ty6 → Option R) : J94x0x27b N L x kr k0 = (J94x0x27b N L x (fun y => some (.inl y)) (fun p => some (.inr p))).bind (sumE kr k0) := by
  unfold J94x0x27b S94x0x27b
  repeat' (first | with_reducible apply cond_b | (with_reducible apply bnd_b; intro _) | rfl)
noncomputable def Q94x0x27b (L : List Lf) (m : Nat) (x : List Lf) : Option (Ty6) := L94x0x27b N (R := (Ty6)) (li L 0) (ll L 2) (li L 3) (lb L 6) (lb L 7) (lb L 8) (lb L 9) (ll L 11) m (li x 0) (lm x 1) (lb x 2) (ll x 3) (fun p => some p)
noncomputable def sh94x0x27b : Sh := { tmps := [(3, .c (.p 3 0)), (4, .c (.p 4 0)), (6, .c (.p 6 0)), (7, .c (.i .i64)), (8, .c (.p 8 0)), (9, .c (.m 40)), (41, .c (.sl 48)), (42, .c (.i .i64)), (43, .c (.i .i64))], mem := [(3, .box (rB 5 ([.sl 3, .b, .b]))), (4, .box (.s :: [.i .i64, .i .i64, .sl 48, .sl 111, .sl 9])), (6, .box (.s :: [.i .i64, .i .i64, .sl 48, .sl 111, .sl 9])), (8, .box (.s :: [.i .i64, .i .i64, .o 50008003, .o 50008004, .o 29000000007])), (40, .map 3 4), (50008003, .row 48 true), (50008004, .row 111 true), (29000000007, .row 9 true)] }
noncomputable def K94x0x27bw0 (L : List Lf) (p : Ty6) : Ex × St := ((.exit 0), mg (ofSh sh94x0x27b L) [3, 4, 6, 7, 8, 9] [] [3, 4, 6, 8, 40, 50008003, 50008004, 29000000007] [(40, .map 3 4 p.1), (50008003, .row 48 true p.2.1 p.2.2)])
noncomputable def A94x0x27b (L : List Lf) : List (Bool × (Ex × St)) := bnd (Q94x0x27b N L N (pk sh94x0x27b [4, 35, 36, 37] L)) fun q => [(q.isSome, K94x0x27bw0 L (q.getD default))]
theorem step94x0x27b (m : Nat) (kn : St → Option (Ex × St)) (L x : List Lf) : lpB Try.prog (T100x0 N) ((h94x0s9 N).no 27).h 0 94 27 sh94x0x27b [4, 35, 36, 37] [6, 4, 9, 7, 3, 8] [40, 29000000007, 50008004, 50008003, 8, 6, 4, 3] (m + 100) kn L x = J94x0x27b N L x (fun y => kn (ofSh sh94x0x27b (mx sh94x0x27b [4, 35, 36, 37] L y))) (fun p => some (K94x0x27bw0 L p)) := by kernel_rfl
theorem ql94x0x27b (L : List Lf) (m : Nat) (x : List Lf) : Q94x0x27b N L (m + 1) x = J94x0x27b N L x (Q94x0x27b N L m) some := by kernel_rfl
noncomputable def h94x0s10 : Sg Try.prog 0 94 :=
  (h94x0s9 N).add (((h94x0s9 N).no 27).lp (A94x0x27b N) N progOk (T100x0_ok N) (fun m kn L x => (step94x0x27b N m kn L x).trans (sb94x0x27b N L x _ _)) (fun L m x => (ql94x0x27b N L m x).trans (sb94x0x27b N L x (Q94x0x27b N L m) some)) fun L x hx => alt1 x hx) 27
noncomputable def F94x0x68b (N : Nat) (w5 : Bool) (w29 : LB) (k0 : LB → R) : R :=
  bif w5 then
    k0 ([] : List UInt8)
  else
    k0 w29
noncomputable def V94x0x68b (w5 : Bool) (w29 : LB) : LB := F94x0x68b N w5 w29 (fun p => p)
theorem tot94x0x68b (w5 : Bool) (w29 : LB) (k0 : LB → R) : F94x0x68b N w5 w29 k0 = k0 (V94x0x68b N w5 w29) := by
  unfold V94x0x68b F94x0x68b
  repeat' (first | rfl | apply cond_k | (apply bnd_k; intro _))
noncomputable def sh94x0x68b : Sh := { tmps := [(3, .c (.p 3 0)), (6, .c (.p 6 0)), (7, .c (.i .i64)), (8, .c (.p 8 0)), (9, .c (.m 40)), (13, .c (.p 13 0)), (66, .c (.sl 111)), (67, .c (.i .i64)), (68, .c (.i .i64)), (95, .c (.b))], mem := [(3, .box (rB 5 ([.sl 3, .b, .b]))), (6, .box (.s :: [.i .i64, .i .i64, .sl 48, .sl 111, .sl 9])), (8, .box (.s :: [.i .i64, .i .i64, .o 50008003, .o 50008004, .o 29000000007])), (13, .box ([.i .i64, .i .i64, .s])), (40, .map 3 4), (50008003, .row 48 true), (50008004, .row 111 true), (29000000007, .row 9 true)] }
noncomputable def K94x0x68bw0 (L : List Lf) (p : LB) : Ex × St := (.normal, mg (ofSh sh94x0x68b L) [3, 6, 7, 8, 9, 13, 66, 67, 68] [] [3, 6, 8, 13, 40, 50008003, 50008004, 29000000007] [(13, .box [.i .i64 (li L 27), .i .i64 (li L 28), .s p])])
noncomputable def A94x0x68b (L : List Lf) : List (Bool × (Ex × St)) := bnd (F94x0x68b N (lb L 5) (ls L 29) (fun p => p)) fun q => [(true, K94x0x68bw0 L q)]
theorem raw94x0x68b (L : List Lf) : pc Try.prog (T100x0 N) ((h94x0s10 N).no 68).h 0 100 94 68 sh94x0x68b L [8, 13, 68, 67, 66, 9, 7, 3, 6] [13, 40, 29000000007, 50008004, 50008003, 8, 6, 3] = F94x0x68b N (lb L 5) (ls L 29) (fun p => some (K94x0x68bw0 L p)) := by kernel_rfl
noncomputable def h94x0s11 : Sg Try.prog 0 94 :=
  (h94x0s10 N).add (((h94x0s10 N).no 68).cut (A94x0x68b N) progOk (T100x0_ok N) fun L x hx => (raw94x0x68b N L).trans ((tot94x0x68b N ..).trans (alt0 _ _ hx))) 68
noncomputable def S94x0x51b (w0 : Int) (w2 : LD) (w3 : Int) (w13 : Bool) (w26 : (List (D × D))) (w4 : Int) (w29 : Bool) (w30 : LD) (kr : Int → Bool → LD → Option R) (k0 : Bool × LD → Option R) : Option R :=
  bif (decide (w4 < w3)) then
    bif (inB w4 w2.length) then
      bnd ((findB Try.prog 3 (.i ((w2.getD w4.toNat (.i 0)).cell 0).toI) w26).getD (.b false)).toB fun y0 =>
      bnd (bif (!y0) then true else (!((findB Try.prog 3 (.i ((w2.getD w4.toNat (.i 0)).cell 1).toI) w26).getD (.b false)).toB)) fun y1 =>
      bif y1 then
        kr (IntKind.wrap .i64 (w4 + 1)) w29 w30
      else
        bnd (IntKind.wrap .i64 (((w2.getD w4.toNat (.i 0)).cell 0).toI - w0)) fun y2 =>
        bnd (IntKind.wrap .i64 (((w2.getD w4.toNat (.i 0)).cell 1).toI - w0)) fun y3 =>
        bnd (V94x0x68b N w13 ((w2.getD w4.toNat (.i 0)).cell 2).toS) fun y4 =>
        bif (decide ((w30.length + 1) * 32 ≤ room) && decide ((w30.length + 1) ≤ strMax)) then
          bnd ((w30 ++ [(.a [(.i y2), (.i y3), (.s y4)])]) : List D) fun y5 =>
          kr (IntKind.wrap .i64 (w4 + 1)) false y5
        else
          none
    else
      none
  else
    k0 (w29, w30)
noncomputable def L94x0x51b (N : Nat) {R : Type} (w0 : Int) (w2 : LD) (w3 : Int) (w13 : Bool) (w26 : (List (D × D))) : Nat → Int → Bool → LD → (Bool × LD → Option R) → Option R
  | 0, _, _, _, _ => none
  | m + 1, w4, w29, w30, k0 => S94x0x51b N w0 w2 w3 w13 w26 w4 w29 w30 (fun w4 w29 w30 => L94x0x51b N w0 w2 w3 w13 w26 m w4 w29 w30 k0) k0
noncomputable def G94x0x51b (w0 : Int) (w2 : LD) (w3 : Int) (w13 : Bool) (w26 : (List (D × D))) (w4 : Int) (w29 : Bool) (w30 : LD) : Option (Bool × LD) := L94x0x51b N (R := (Bool × LD)) w0 w2 w3 w13 w26 N w4 w29 w30 (fun p => some p)
noncomputable def J94x0x51b (L x : List Lf) (kr : List Lf → Option R) (k0 : Bool × LD → Option R) : Option R := S94x0x51b N (li L 0) (ll L 2) (li L 3) (lb L 13) (lm L 26) (li x 0) (lb x 1) (ll x 2) (fun w4 w29 w30 => kr [.i w4, .b w29, .l w30]) k0
theorem sb94x0x51b (L x : List Lf) (kr : List Lf → Option R) (k0 : Bool × LD → Option R) : J94x0x51b N L x kr k0 = (J94x0x51b N L x (fun y => some (.inl y)) (fun p => some (.inr p))).bind (sumE kr k0) := by
  unfold J94x0x51b S94x0x51b
  repeat' (first | with_reducible apply cond_b | (with_reducible apply bnd_b; intro _) | rfl)
noncomputable def Q94x0x51b (L : List Lf) (m : Nat) (x : List Lf) : Option (Bool × LD) := L94x0x51b N (R := (Bool × LD)) (li L 0) (ll L 2) (li L 3) (lb L 13) (lm L 26) m (li x 0) (lb x 1) (ll x 2) (fun p => some p)
noncomputable def sh94x0x51b : Sh := { tmps := [(3, .c (.p 3 0)), (6, .c (.p 6 0)), (7, .c (.i .i64)), (8, .c (.p 8 0)), (9, .c (.m 40)), (66, .c (.sl 111)), (67, .c (.i .i64)), (68, .c (.i .i64))], mem := [(3, .box (rB 5 ([.sl 3, .b, .b]))), (6, .box (.s :: [.i .i64, .i .i64, .sl 48, .sl 111, .sl 9])), (8, .box (.s :: [.i .i64, .i .i64, .o 50008003, .o 50008004, .o 29000000007])), (40, .map 3 4), (50008003, .row 48 true), (50008004, .row 111 true), (29000000007, .row 9 true)] }
noncomputable def K94x0x51bw0 (L : List Lf) (p : Bool × LD) : Ex × St := ((.exit 2), mg (ofSh sh94x0x51b L) [6, 8] [] [6, 8, 50008003, 50008004, 29000000007] [(50008004, .row 111 true p.1 p.2)])
noncomputable def A94x0x51b (L : List Lf) : List (Bool × (Ex × St)) := bnd (Q94x0x51b N L N (pk sh94x0x51b [4, 29, 30] L)) fun q => [(q.isSome, K94x0x51bw0 L (q.getD default))]
theorem step94x0x51b (m : Nat) (kn : St → Option (Ex × St)) (L x : List Lf) : lpB Try.prog (T100x0 N) ((h94x0s11 N).no 51).h 0 94 51 sh94x0x51b [4, 29, 30] [6, 8] [29000000007, 50008004, 50008003, 8, 6] (m + 100) kn L x = J94x0x51b N L x (fun y => kn (ofSh sh94x0x51b (mx sh94x0x51b [4, 29, 30] L y))) (fun p => some (K94x0x51bw0 L p)) := by kernel_rfl
theorem ql94x0x51b (L : List Lf) (m : Nat) (x : List Lf) : Q94x0x51b N L (m + 1) x = J94x0x51b N L x (Q94x0x51b N L m) some := by kernel_rfl
noncomputable def h94x0s12 : Sg Try.prog 0 94 :=
  (h94x0s11 N).add (((h94x0s11 N).no 51).lp (A94x0x51b N) N progOk (T100x0_ok N) (fun m kn L x => (step94x0x51b N m kn L x).trans (sb94x0x51b N L x _ _)) (fun L m x => (ql94x0x51b N L m x).trans (sb94x0x51b N L x (Q94x0x51b N L m) some)) fun L x hx => alt1 x hx) 51
noncomputable def F94x0 (v1 v2 v3 v4 : Bool) (v6 : LD) (v7 v8 : Bool) (v9 : LB) (v11 : Int) (v15 : LD) (v16 : Bool) (v17 v19 : LD) (k0 : Ty0 → Option R) : Option R :=
  bif (inB 0 v19.length) then
    bnd (G94x0x7 N ((v19.getD 0 (.i 0)).cell 0).toI v11 v16 v17) fun y0 =>
    bif (inlB y0) then
      bnd (V94x0x14 N v8 v9 true []) fun y1 =>
      bnd (G94x0x20 N v7 (inlV y0)) fun y2 =>
      bif y2.isSome then
        bnd (G94x0x27 N ((v19.getD 0 (.i 0)).cell 0).toI v19 (v19.length : Int) v1 v2 v3 v4 v6 0 [] true []) fun y3 =>
        bif y3.isSome then
          bnd (G94x0x51 N ((v19.getD 0 (.i 0)).cell 0).toI v15 (v15.length : Int) v8 (y3.getD default).1 0 true []) fun y4 =>
          bif y4.isSome then
            k0 (y1.1, (y2.getD default), (y3.getD default).2.1, (y3.getD default).2.2, (y4.getD default).1, (y4.getD default).2, y1.2.1, y1.2.2)
          else
            none
        else
          none
      else
        none
    else
      bif (inrQ y0).isSome then
        bnd (G94x0x14b N v8) fun y5 =>
        bif (inlB y5) then
          bnd (G94x0x20b N v7 ((inrQ y0).getD default).1) fun y6 =>
          bif y6.isSome then
            bnd (G94x0x27 N ((v19.getD 0 (.i 0)).cell 0).toI v19 (v19.length : Int) v1 v2 v3 v4 v6 0 [] true []) fun y3 =>
            bif y3.isSome then
              bnd (G94x0x51 N ((v19.getD 0 (.i 0)).cell 0).toI v15 (v15.length : Int) v8 (y3.getD default).1 0 true []) fun y4 =>
              bif y4.isSome then
                k0 ((inlV y5), (y6.getD default), (y3.getD default).2.1, (y3.getD default).2.2, (y4.getD default).1, (y4.getD default).2, true, [])
              else
                none
            else
              none
          else
            none
        else
          bif (inrQ y5).isSome then
            bnd (G94x0x20bb N v7 ((inrQ y0).getD default).1) fun y7 =>
            bif y7.isSome then
              bnd (G94x0x27b N ((v19.getD 0 (.i 0)).cell 0).toI v19 (v19.length : Int) v1 v2 v3 v4 v6 0 [] true []) fun y8 =>
              bif y8.isSome then
                bnd (G94x0x51b N ((v19.getD 0 (.i 0)).cell 0).toI v15 (v15.length : Int) v8 (y8.getD default).1 0 true []) fun y9 =>
                bif y9.isSome then
                  k0 (v9, (y7.getD default), (y8.getD default).2.1, (y8.getD default).2.2, (y9.getD default).1, (y9.getD default).2, ((inrQ y0).getD default).2, v17)
                else
                  none
              else
                none
            else
              none
          else
            none
      else
        none
  else
    none
noncomputable def G94x0 (v1 v2 v3 v4 : Bool) (v6 : LD) (v7 v8 : Bool) (v9 : LB) (v11 : Int) (v15 : LD) (v16 : Bool) (v17 v19 : LD) : Option (Ty0) := F94x0 N v1 v2 v3 v4 v6 v7 v8 v9 v11 v15 v16 v17 v19 (fun p => some p)
theorem bind94x0 (v1 v2 v3 v4 : Bool) (v6 : LD) (v7 v8 : Bool) (v9 : LB) (v11 : Int) (v15 : LD) (v16 : Bool) (v17 v19 : LD) (k0 : Ty0 → Option R) : F94x0 N v1 v2 v3 v4 v6 v7 v8 v9 v11 v15 v16 v17 v19 k0 = (G94x0 N v1 v2 v3 v4 v6 v7 v8 v9 v11 v15 v16 v17 v19).bind k0 := by
  unfold G94x0 F94x0
  repeat' (first | with_reducible apply cond_b | (with_reducible apply bnd_b; intro _) | rfl)
noncomputable def J94x0 (L : List Lf) (k0 : Ty0 → Option R) : Option R := F94x0 N (lb L 1) (lb L 2) (lb L 3) (lb L 4) (ll L 6) (lb L 7) (lb L 8) (ls L 9) (li L 11) (ll L 15) (lb L 16) (ll L 17) (ll L 19) k0
noncomputable def sh94x0 : Sh := { tmps := [(0, .g (rB 5 ([.sl 3, .b, .b]))), (1, .g (.s :: [.i .i64, .i .i64, .sl 48, .sl 111, .sl 9])), (2, .c (.sl 48))], mem := [] }
noncomputable def K94x0w0 (L : List Lf) (p : Ty0) : Res := let p1 := p.2; let p2 := p1.2; let p3 := p2.2; let p4 := p3.2; let p5 := p4.2; let p6 := p5.2; let p7 := p6.2; ([.g [.s p.1, .i .i64 (li L 10), .i .i64 p1.1, .sl 48 p2.1 p3.1, .sl 111 p4.1 p5.1, .sl 9 p6.1 p7]], [])
noncomputable def A94x0 (L : List Lf) : List (Bool × Res) := bnd (J94x0 N L (fun p => some p)) fun q => [(q.isSome, K94x0w0 L (q.getD default))]
theorem raw94x0 (L : List Lf) : bd Try.prog (T100x0 N) (h94x0s12 N).h 94 sh94x0 L = J94x0 N L (fun p => some (K94x0w0 L p)) := by kernel_rfl
theorem ok94x0 : FnOk Try.prog 94 sh94x0 (A94x0 N) :=
  (h94x0s12 N).fn progOk (T100x0_ok N) fun L x hx => ((raw94x0 N L).trans ((bind94x0 N ..).trans (alt1 x hx)))
noncomputable def T94x0 : Oracle := ext 94 (spSh sh94x0 (A94x0 N)) (T100x0 N)
theorem T94x0_ok : OracleOk Try.prog (T94x0 N) := FnOk.to (ok94x0 N) (T100x0_ok N)
noncomputable def rg92x0 : List (Nat × List Nat) := [(0, [1, 2, 0]), (1, [1, 2, 4, 0]), (2, [2, 4, 0, 6]), (3, [2, 4, 7, 0, 6]), (4, [22, 21, 20, 4, 7, 0, 6, 2]), (5, [22, 20, 4, 21, 7, 0, 6, 2]), (6, [4, 8, 22, 21, 20, 7, 0, 6, 2, 9]), (7, [7, 9, 0, 6, 2, 22, 21, 20, 4]), (8, [10, 9, 7, 0, 6, 2, 22, 21, 20, 4]), (9, [0, 6, 2, 7, 9, 22, 21, 20, 4]), (10, [9, 22, 21, 20, 4, 0, 6, 2]), (11, [7, 9, 22, 21, 20, 4, 0, 6, 2]), (12, [22, 21, 20, 4, 7, 0, 6, 2]), (13, [7, 0, 6, 2]), (14, [0, 6, 2, 7])]
noncomputable def hd92x0 : Hints := [(12, [22, 21, 20, 4, 7, 0, 6, 2], [3, 2, 0, 11, 1, 4, 12, 50002005], [7, 50002000]), (25, [10, 9, 7, 0, 6, 2, 22, 21, 20, 4], [50002005, 2, 0, 14, 12, 11, 1, 4], []), (28, [0, 6, 2, 7, 9, 22, 21, 20, 4], [50002005, 2, 0, 14, 12, 11, 1, 4], []), (29, [0, 6, 2, 7, 9, 22, 21, 20, 4, 46], [50002005, 2, 0, 14, 12, 11, 1, 4], []), (43, [0, 6, 2, 7], [50002005, 2, 0, 12, 11, 1, 4], []), (44, [0, 6, 2, 7, 61], [50002005, 2, 0, 12, 11, 1, 4], [])]
noncomputable def h92x0s0 (N : Nat) : Sg Try.prog 5 92 (YCtx y44x0z600000022) := .start hd92x0 rg92x0
noncomputable def F92x0x25 (N : Nat) (w2 : Int) (w30 : LD) (w31 : Int) (k0 : Bool → Option R) : Option R :=
  bif (decide (w2 > 0)) then
    bif (inB (IntKind.wrap .i64 (w2 - 1)) w30.length) then
      bif (decide ((IntKind.wrap .i64 (w2 - 1)).toNat < w30.length)) then
        bnd ((w30.getD (IntKind.wrap .i64 (w2 - 1)).toNat (.i 0)).cell 0).toI fun y0 =>
        k0 (decide ((IntKind.wrap .i64 (w31 - y0)) > 60))
      else
        none
    else
      none
  else
    k0 false
noncomputable def G92x0x25 (w2 : Int) (w30 : LD) (w31 : Int) : Option (Bool) := F92x0x25 N w2 w30 w31 (fun p => some p)
theorem bind92x0x25 (w2 : Int) (w30 : LD) (w31 : Int) (k0 : Bool → Option R) : F92x0x25 N w2 w30 w31 k0 = (G92x0x25 N w2 w30 w31).bind k0 := by
  unfold G92x0x25 F92x0x25
  repeat' (first | with_reducible apply cond_b | (with_reducible apply bnd_b; intro _) | rfl)
noncomputable def sh92x0x25 : Sh := { tmps := [(0, .c (.y 4)), (2, .c (.p 1 0)), (4, .c (.sl 4)), (6, .c (.p 11 0)), (7, .c (.o 12)), (9, .c (.p 14 0)), (10, .c (.i .i64)), (20, .c (.sl 48)), (21, .c (.i .i64)), (22, .c (.i .i64))], mem := [(0, .box ([.sl 70])), (1, .box (.s :: [.i .i64, .i .i64, .sl 48, .sl 111, .sl 9])), (2, .box ([.o 50002005])), (4, .row 3 true), (11, .box (rB 5 ([.sl 3, .b, .b]))), (12, .row 48 true), (14, .box (rI 7 ([]))), (50002005, .row 29 true)] }
noncomputable def K92x0x25w0 (L : List Lf) (p : Bool) : Ex × St := (.normal, mg (ofSh sh92x0x25 L) [0, 2, 4, 6, 7, 9, 20, 21, 22, 46] [(46, .c (.b p))] [0, 1, 2, 4, 11, 12, 14, 50002005] [])
noncomputable def A92x0x25 (L : List Lf) : List (Bool × (Ex × St)) := bnd (F92x0x25 N (li L 2) (ll L 30) (li L 31) (fun p => some p)) fun q => [(q.isSome, K92x0x25w0 L (q.getD default))]
theorem raw92x0x25 (L : List Lf) : pc Try.prog (T94x0 N) (h92x0s0 N).h 5 100 92 25 sh92x0x25 L [0, 6, 2, 7, 9, 22, 21, 20, 4, 46] [50002005, 2, 0, 14, 12, 11, 1, 4] = F92x0x25 N (li L 2) (ll L 30) (li L 31) (fun p => some (K92x0x25w0 L p)) := by kernel_rfl
noncomputable def h92x0s1 : Sg Try.prog 5 92 (YCtx y44x0z600000022) :=
  (h92x0s0 N).cut (A92x0x25 N) progOk (T94x0_ok N) fun L x hx => (raw92x0x25 N L).trans ((bind92x0x25 N ..).trans (alt1 x hx))
noncomputable def F92x0x28 (w8 : LB) (w9 w10 : Int) (w14 : LD) (w15 : Bool) (w16 : LD) (w20 w21 w22 w23 : Bool) (w25 : LD) (w26 w27 : Bool) (w29 w38 : LD) (k0 : LD → Option R) : Option R :=
  bnd (G94x0 N w20 w21 w22 w23 w25 w26 w27 w8 w10 w14 w15 w16 w29) fun y0 =>
  bif y0.isSome then
    bif (decide ((w38.length + 1) * 104 ≤ room) && decide ((w38.length + 1) ≤ strMax)) then
      bnd ((w38 ++ [(.a [(.s (y0.getD default).1), (.i w9), (.i (y0.getD default).2.1), (.l (y0.getD default).2.2.1 (y0.getD default).2.2.2.1), (.l (y0.getD default).2.2.2.2.1 (y0.getD default).2.2.2.2.2.1), (.l (y0.getD default).2.2.2.2.2.2.1 (y0.getD default).2.2.2.2.2.2.2)])]) : List D) fun y1 =>
      k0 y1
    else
      none
  else
    none
noncomputable def G92x0x28 (w8 : LB) (w9 w10 : Int) (w14 : LD) (w15 : Bool) (w16 : LD) (w20 w21 w22 w23 : Bool) (w25 : LD) (w26 w27 : Bool) (w29 w38 : LD) : Option (LD) := F92x0x28 N w8 w9 w10 w14 w15 w16 w20 w21 w22 w23 w25 w26 w27 w29 w38 (fun p => some p)
theorem bind92x0x28 (w8 : LB) (w9 w10 : Int) (w14 : LD) (w15 : Bool) (w16 : LD) (w20 w21 w22 w23 : Bool) (w25 : LD) (w26 w27 : Bool) (w29 w38 : LD) (k0 : LD → Option R) : F92x0x28 N w8 w9 w10 w14 w15 w16 w20 w21 w22 w23 w25 w26 w27 w29 w38 k0 = (G92x0x28 N w8 w9 w10 w14 w15 w16 w20 w21 w22 w23 w25 w26 w27 w29 w38).bind k0 := by
  unfold G92x0x28 F92x0x28
  repeat' (first | with_reducible apply cond_b | (with_reducible apply bnd_b; intro _) | rfl)
noncomputable def J92x0x28 (L : List Lf) (k0 : LD → Option R) : Option R := F92x0x28 N (ls L 8) (li L 9) (li L 10) (ll L 14) (lb L 15) (ll L 16) (lb L 20) (lb L 21) (lb L 22) (lb L 23) (ll L 25) (lb L 26) (lb L 27) (ll L 29) (ll L 38) k0
noncomputable def sh92x0x28 : Sh := { tmps := [(0, .c (.y 4)), (2, .c (.p 1 0)), (4, .c (.sl 4)), (6, .c (.p 11 0)), (7, .c (.o 12)), (9, .c (.p 14 0)), (20, .c (.sl 48)), (21, .c (.i .i64)), (22, .c (.i .i64))], mem := [(0, .box ([.sl 70])), (1, .box (.s :: [.i .i64, .i .i64, .sl 48, .sl 111, .sl 9])), (2, .box ([.o 50002005])), (4, .row 3 true), (11, .box (rB 5 ([.sl 3, .b, .b]))), (12, .row 48 true), (14, .box (rI 7 ([]))), (50002005, .row 29 true)] }
noncomputable def K92x0x28w0 (L : List Lf) (p : LD) : Ex × St := (.normal, mg (ofSh sh92x0x28 L) [0, 2, 4, 6, 9, 20, 21, 22, 53] [(53, .c (.b false))] [0, 1, 2, 4, 11, 14, 53000000033] [(2, .box [.o 53000000033]), (53000000033, .row 29 true false p)])
noncomputable def A92x0x28 (L : List Lf) : List (Bool × (Ex × St)) := bnd (J92x0x28 N L (fun p => some p)) fun q => [(q.isSome, K92x0x28w0 L (q.getD default))]
theorem raw92x0x28 (L : List Lf) : pcY Try.prog (T94x0 N) 5 y44x0z600000022 92 28 sh92x0x28 L [9, 22, 21, 20, 4, 0, 6, 2, 53] [53000000033, 2, 0, 14, 11, 1, 4] = J92x0x28 N L (fun p => some (K92x0x28w0 L p)) := by kernel_rfl
noncomputable def h92x0s2 : Sg Try.prog 5 92 (YCtx y44x0z600000022) :=
  (h92x0s1 N).cutY (A92x0x28 N) (T94x0_ok N) fun L x hx => (raw92x0x28 N L).trans ((bind92x0x28 N ..).trans (alt1 x hx))
noncomputable def F92x0x29 (w6 : Bool) (w9 : LB) (w10 w11 : Int) (w15 : LD) (w16 : Bool) (w17 : LD) (w21 w22 w23 w24 : Bool) (w26 : LD) (w27 w28 : Bool) (w30 w39 : LD) (k0 : LD → Option R) (k1 : Unit → Option R) : Option R :=
  bif w6 then
    bnd (G92x0x28 N w9 w10 w11 w15 w16 w17 w21 w22 w23 w24 w26 w27 w28 w30 w39) fun y0 =>
    bif y0.isSome then
      k0 (y0.getD default)
    else
      none
  else
    k1 ()
noncomputable def G92x0x29 (w6 : Bool) (w9 : LB) (w10 w11 : Int) (w15 : LD) (w16 : Bool) (w17 : LD) (w21 w22 w23 w24 : Bool) (w26 : LD) (w27 w28 : Bool) (w30 w39 : LD) : Option (Sum (LD) (Unit)) := F92x0x29 N w6 w9 w10 w11 w15 w16 w17 w21 w22 w23 w24 w26 w27 w28 w30 w39 (fun p => some (.inl p)) (fun p => some (.inr p))
theorem bind92x0x29 (w6 : Bool) (w9 : LB) (w10 w11 : Int) (w15 : LD) (w16 : Bool) (w17 : LD) (w21 w22 w23 w24 : Bool) (w26 : LD) (w27 w28 : Bool) (w30 w39 : LD) (k0 : LD → Option R) (k1 : Unit → Option R) : F92x0x29 N w6 w9 w10 w11 w15 w16 w17 w21 w22 w23 w24 w26 w27 w28 w30 w39 k0 k1 = (G92x0x29 N w6 w9 w10 w11 w15 w16 w17 w21 w22 w23 w24 w26 w27 w28 w30 w39).bind (sumE k0 k1) := by
  unfold G92x0x29 F92x0x29
  repeat' (first | with_reducible apply cond_b | (with_reducible apply bnd_b; intro _) | rfl)
noncomputable def J92x0x29 (L : List Lf) (k0 : LD → Option R) (k1 : Unit → Option R) : Option R := F92x0x29 N (lb L 6) (ls L 9) (li L 10) (li L 11) (ll L 15) (lb L 16) (ll L 17) (lb L 21) (lb L 22) (lb L 23) (lb L 24) (ll L 26) (lb L 27) (lb L 28) (ll L 30) (ll L 39) k0 k1
noncomputable def sh92x0x29 : Sh := { tmps := [(0, .c (.y 4)), (2, .c (.p 1 0)), (4, .c (.sl 4)), (6, .c (.p 11 0)), (7, .c (.o 12)), (9, .c (.p 14 0)), (20, .c (.sl 48)), (21, .c (.i .i64)), (22, .c (.i .i64)), (46, .c (.b))], mem := [(0, .box ([.sl 70])), (1, .box (.s :: [.i .i64, .i .i64, .sl 48, .sl 111, .sl 9])), (2, .box ([.o 50002005])), (4, .row 3 true), (11, .box (rB 5 ([.sl 3, .b, .b]))), (12, .row 48 true), (14, .box (rI 7 ([]))), (50002005, .row 29 true)] }
noncomputable def K92x0x29w0 (L : List Lf) (p : LD) : Ex × St := (.normal, mg (ofSh sh92x0x29 L) [0, 2, 4, 6, 7, 9, 20, 21, 22] [(7, .c (.sl 48 true []))] [0, 1, 2, 4, 11, 14, 53000000033] [(2, .box [.o 53000000033]), (53000000033, .row 29 true false p)])
noncomputable def K92x0x29w1 (L : List Lf) (_ : Unit) : Ex × St := (.normal, mg (ofSh sh92x0x29 L) [0, 2, 4, 6, 7, 9, 20, 21, 22] [] [0, 1, 2, 4, 11, 12, 14, 50002005] [])
noncomputable def A92x0x29 (L : List Lf) : List (Bool × (Ex × St)) := bnd (J92x0x29 N L (fun p => some (.inl p)) (fun p => some (.inr p))) fun q => [((inlB q), K92x0x29w0 L (inlV q)), ((inrQ q).isSome, K92x0x29w1 L ())]
theorem raw92x0x29 (L : List Lf) : pc Try.prog (T94x0 N) (h92x0s2 N).h 5 100 92 29 sh92x0x29 L [7, 9, 22, 21, 20, 4, 0, 6, 2] [53000000033, 2, 0, 14, 11, 1, 4, 50002005, 12] = J92x0x29 N L (fun p => some (K92x0x29w0 L p)) (fun _ => some (K92x0x29w1 L ())) := by kernel_rfl
noncomputable def h92x0s3 : Sg Try.prog 5 92 (YCtx y44x0z600000022) :=
  (h92x0s2 N).cut (A92x0x29 N) progOk (T94x0_ok N) fun L x hx => (raw92x0x29 N L).trans ((bind92x0x29 N ..).trans ((altS alt1) x hx))
noncomputable def S92x0x12 (w1 w3 : LD) (w4 : Int) (w8 : LB) (w9 w10 : Int) (w14 : LD) (w15 : Bool) (w16 : LD) (w20 w21 w22 w23 : Bool) (w25 : LD) (w26 w27 : Bool) (w5 : Int) (w28 : Bool) (w29 : LD) (w30 : Bool) (w31 : LD) (kr : Int → Bool → LD → Bool → LD → Option R) (k0 : Ty5 → Option R) : Option R :=
  bif (decide (w5 < w4)) then
    bif (inB w5 w3.length) then
      bif (inB w5 w1.length) then
        bif (w1.getD w5.toNat (.i 0)).toB then
          kr (IntKind.wrap .i64 (w5 + 1)) w28 w29 w30 w31
        else
          bnd (G92x0x25 N (w29.length : Int) w29 ((w3.getD w5.toNat (.i 0)).cell 0).toI) fun y0 =>
          bif y0.isSome then
            bnd (G92x0x29 N (y0.getD default) w8 w9 w10 w14 w15 w16 w20 w21 w22 w23 w25 w26 w27 w29 w31) fun y1 =>
            bif (inlB y1) then
              kr (IntKind.wrap .i64 (w5 + 1)) false [(.a [(.i ((w3.getD w5.toNat (.i 0)).cell 0).toI), (.i ((w3.getD w5.toNat (.i 0)).cell 1).toI), (.i ((w3.getD w5.toNat (.i 0)).cell 2).toI), (.i ((w3.getD w5.toNat (.i 0)).cell 3).toI), (.i ((w3.getD w5.toNat (.i 0)).cell 4).toI), (.i ((w3.getD w5.toNat (.i 0)).cell 5).toI), (.i ((w3.getD w5.toNat (.i 0)).cell 6).toI)])] false (inlV y1)
            else
              bif (inrQ y1).isSome then
                bif (decide ((w29.length + 1) * 56 ≤ room) && decide ((w29.length + 1) ≤ strMax)) then
                  bnd ((w29 ++ [(.a [(.i ((w3.getD w5.toNat (.i 0)).cell 0).toI), (.i ((w3.getD w5.toNat (.i 0)).cell 1).toI), (.i ((w3.getD w5.toNat (.i 0)).cell 2).toI), (.i ((w3.getD w5.toNat (.i 0)).cell 3).toI), (.i ((w3.getD w5.toNat (.i 0)).cell 4).toI), (.i ((w3.getD w5.toNat (.i 0)).cell 5).toI), (.i ((w3.getD w5.toNat (.i 0)).cell 6).toI)])]) : List D) fun y2 =>
                  kr (IntKind.wrap .i64 (w5 + 1)) false y2 w30 w31
                else
                  none
              else
                none
          else
            none
      else
        none
    else
      none
  else
    k0 (w28, w29, w30, w31)
noncomputable def L92x0x12 (N : Nat) {R : Type} (w1 w3 : LD) (w4 : Int) (w8 : LB) (w9 w10 : Int) (w14 : LD) (w15 : Bool) (w16 : LD) (w20 w21 w22 w23 : Bool) (w25 : LD) (w26 w27 : Bool) : Nat → Int → Bool → LD → Bool → LD → (Ty5 → Option R) → Option R
  | 0, _, _, _, _, _, _ => none
  | m + 1, w5, w28, w29, w30, w31, k0 => S92x0x12 N w1 w3 w4 w8 w9 w10 w14 w15 w16 w20 w21 w22 w23 w25 w26 w27 w5 w28 w29 w30 w31 (fun w5 w28 w29 w30 w31 => L92x0x12 N w1 w3 w4 w8 w9 w10 w14 w15 w16 w20 w21 w22 w23 w25 w26 w27 m w5 w28 w29 w30 w31 k0) k0
noncomputable def G92x0x12 (w1 w3 : LD) (w4 : Int) (w8 : LB) (w9 w10 : Int) (w14 : LD) (w15 : Bool) (w16 : LD) (w20 w21 w22 w23 : Bool) (w25 : LD) (w26 w27 : Bool) (w5 : Int) (w28 : Bool) (w29 : LD) (w30 : Bool) (w31 : LD) : Option (Ty5) := L92x0x12 N (R := (Ty5)) w1 w3 w4 w8 w9 w10 w14 w15 w16 w20 w21 w22 w23 w25 w26 w27 N w5 w28 w29 w30 w31 (fun p => some p)
noncomputable def J92x0x12 (L x : List Lf) (kr : List Lf → Option R) (k0 : Ty5 → Option R) : Option R := S92x0x12 N (ll L 1) (ll L 3) (li L 4) (ls L 8) (li L 9) (li L 10) (ll L 14) (lb L 15) (ll L 16) (lb L 20) (lb L 21) (lb L 22) (lb L 23) (ll L 25) (lb L 26) (lb L 27) (li x 0) (lb x 1) (ll x 2) (lb x 3) (ll x 4) (fun w5 w28 w29 w30 w31 => kr [.i w5, .b w28, .l w29, .b w30, .l w31]) k0
theorem sb92x0x12 (L x : List Lf) (kr : List Lf → Option R) (k0 : Ty5 → Option R) : J92x0x12 N L x kr k0 = (J92x0x12 N L x (fun y => some (.inl y)) (fun p => some (.inr p))).bind (sumE kr k0) := by
  unfold J92x0x12 S92x0x12
  repeat' (first | with_reducible apply cond_b | (with_reducible apply bnd_b; intro _) | rfl)
noncomputable def Q92x0x12 (L : List Lf) (m : Nat) (x : List Lf) : Option (Ty5) := L92x0x12 N (R := (Ty5)) (ll L 1) (ll L 3) (li L 4) (ls L 8) (li L 9) (li L 10) (ll L 14) (lb L 15) (ll L 16) (lb L 20) (lb L 21) (lb L 22) (lb L 23) (ll L 25) (lb L 26) (lb L 27) m (li x 0) (lb x 1) (ll x 2) (lb x 3) (ll x 4) (fun p => some p)
noncomputable def sh92x0x12 : Sh := { tmps := [(0, .c (.y 4)), (2, .c (.p 1 0)), (4, .c (.sl 4)), (6, .c (.p 11 0)), (7, .c (.o 12)), (20, .c (.sl 48)), (21, .c (.i .i64)), (22, .c (.i .i64))], mem := [(0, .box ([.sl 70])), (1, .box (.s :: [.i .i64, .i .i64, .sl 48, .sl 111, .sl 9])), (2, .box ([.o 50002005])), (4, .row 3 true), (11, .box (rB 5 ([.sl 3, .b, .b]))), (12, .row 48 true), (50002005, .row 29 true)] }
noncomputable def K92x0x12w0 (L : List Lf) (p : Ty5) : Ex × St := ((.exit 0), mg (ofSh sh92x0x12 L) [0, 2, 6, 7] [] [0, 1, 2, 4, 11, 12, 50002005] [(12, .row 48 true p.1 p.2.1), (50002005, .row 29 true p.2.2.1 p.2.2.2)])
noncomputable def A92x0x12 (L : List Lf) : List (Bool × (Ex × St)) := bnd (Q92x0x12 N L N (pk sh92x0x12 [5, 28, 29, 30, 31] L)) fun q => [(q.isSome, K92x0x12w0 L (q.getD default))]
theorem step92x0x12 (m : Nat) (kn : St → Option (Ex × St)) (L x : List Lf) : lpB Try.prog (T94x0 N) (h92x0s3 N).h 5 92 12 sh92x0x12 [5, 28, 29, 30, 31] [7, 0, 6, 2] [50002005, 2, 0, 12, 11, 1, 4] (m + 100) kn L x = J92x0x12 N L x (fun y => kn (ofSh sh92x0x12 (mx sh92x0x12 [5, 28, 29, 30, 31] L y))) (fun p => some (K92x0x12w0 L p)) := by kernel_rfl
theorem ql92x0x12 (L : List Lf) (m : Nat) (x : List Lf) : Q92x0x12 N L (m + 1) x = J92x0x12 N L x (Q92x0x12 N L m) some := by kernel_rfl
noncomputable def h92x0s4 : Sg Try.prog 5 92 (YCtx y44x0z600000022) :=
  (h92x0s3 N).lp (A92x0x12 N) N progOk (T94x0_ok N) (fun m kn L x => (step92x0x12 N m kn L x).trans (sb92x0x12 N L x _ _)) (fun L m x => (ql92x0x12 N L m x).trans (sb92x0x12 N L x (Q92x0x12 N L m) some)) fun L x hx => alt1 x hx
noncomputable def F92x0x43 (w2 : LB) (w3 w4 : Int) (w8 : LD) (w9 : Bool) (w10 : LD) (w14 w15 w16 w17 : Bool) (w19 : LD) (w20 w21 : Bool) (w23 w25 : LD) (k0 : LD → Option R) : Option R :=
  bnd (G94x0 N w14 w15 w16 w17 w19 w20 w21 w2 w4 w8 w9 w10 w23) fun y0 =>
  bif y0.isSome then
    bif (decide ((w25.length + 1) * 104 ≤ room) && decide ((w25.length + 1) ≤ strMax)) then
      bnd ((w25 ++ [(.a [(.s (y0.getD default).1), (.i w3), (.i (y0.getD default).2.1), (.l (y0.getD default).2.2.1 (y0.getD default).2.2.2.1), (.l (y0.getD default).2.2.2.2.1 (y0.getD default).2.2.2.2.2.1), (.l (y0.getD default).2.2.2.2.2.2.1 (y0.getD default).2.2.2.2.2.2.2)])]) : List D) fun y1 =>
      k0 y1
    else
      none
  else
    none
noncomputable def G92x0x43 (w2 : LB) (w3 w4 : Int) (w8 : LD) (w9 : Bool) (w10 : LD) (w14 w15 w16 w17 : Bool) (w19 : LD) (w20 w21 : Bool) (w23 w25 : LD) : Option (LD) := F92x0x43 N w2 w3 w4 w8 w9 w10 w14 w15 w16 w17 w19 w20 w21 w23 w25 (fun p => some p)
theorem bind92x0x43 (w2 : LB) (w3 w4 : Int) (w8 : LD) (w9 : Bool) (w10 : LD) (w14 w15 w16 w17 : Bool) (w19 : LD) (w20 w21 : Bool) (w23 w25 : LD) (k0 : LD → Option R) : F92x0x43 N w2 w3 w4 w8 w9 w10 w14 w15 w16 w17 w19 w20 w21 w23 w25 k0 = (G92x0x43 N w2 w3 w4 w8 w9 w10 w14 w15 w16 w17 w19 w20 w21 w23 w25).bind k0 := by
  unfold G92x0x43 F92x0x43
  repeat' (first | with_reducible apply cond_b | (with_reducible apply bnd_b; intro _) | rfl)
noncomputable def J92x0x43 (L : List Lf) (k0 : LD → Option R) : Option R := F92x0x43 N (ls L 2) (li L 3) (li L 4) (ll L 8) (lb L 9) (ll L 10) (lb L 14) (lb L 15) (lb L 16) (lb L 17) (ll L 19) (lb L 20) (lb L 21) (ll L 23) (ll L 25) k0
noncomputable def sh92x0x43 : Sh := { tmps := [(0, .c (.y 4)), (2, .c (.p 1 0)), (6, .c (.p 11 0)), (7, .c (.o 12))], mem := [(0, .box ([.sl 70])), (1, .box (.s :: [.i .i64, .i .i64, .sl 48, .sl 111, .sl 9])), (2, .box ([.o 50002005])), (4, .row 3 true), (11, .box (rB 5 ([.sl 3, .b, .b]))), (12, .row 48 true), (50002005, .row 29 true)] }
noncomputable def K92x0x43w0 (L : List Lf) (p : LD) : Ex × St := (.normal, mg (ofSh sh92x0x43 L) [] [] [0, 1, 2, 4, 68000000033] [(2, .box [.o 68000000033]), (68000000033, .row 29 true false p)])
noncomputable def A92x0x43 (L : List Lf) : List (Bool × (Ex × St)) := bnd (J92x0x43 N L (fun p => some p)) fun q => [(q.isSome, K92x0x43w0 L (q.getD default))]
theorem raw92x0x43 (L : List Lf) : pcY Try.prog (T94x0 N) 5 y44x0z600000022 92 43 sh92x0x43 L [] [4, 68000000033, 2, 1, 0] = J92x0x43 N L (fun p => some (K92x0x43w0 L p)) := by kernel_rfl
noncomputable def h92x0s5 : Sg Try.prog 5 92 (YCtx y44x0z600000022) :=
  (h92x0s4 N).cutY (A92x0x43 N) (T94x0_ok N) fun L x hx => (raw92x0x43 N L).trans ((bind92x0x43 N ..).trans (alt1 x hx))
noncomputable def F92x0x44 (w0 : Bool) (w3 : LB) (w4 w5 : Int) (w9 : LD) (w10 : Bool) (w11 : LD) (w15 w16 w17 w18 : Bool) (w20 : LD) (w21 w22 : Bool) (w24 w26 : LD) (k0 : LD → Option R) (k1 : Unit → Option R) : Option R :=
  bif w0 then
    bnd (G92x0x43 N w3 w4 w5 w9 w10 w11 w15 w16 w17 w18 w20 w21 w22 w24 w26) fun y0 =>
    bif y0.isSome then
      k0 (y0.getD default)
    else
      none
  else
    k1 ()
noncomputable def G92x0x44 (w0 : Bool) (w3 : LB) (w4 w5 : Int) (w9 : LD) (w10 : Bool) (w11 : LD) (w15 w16 w17 w18 : Bool) (w20 : LD) (w21 w22 : Bool) (w24 w26 : LD) : Option (Sum (LD) (Unit)) := F92x0x44 N w0 w3 w4 w5 w9 w10 w11 w15 w16 w17 w18 w20 w21 w22 w24 w26 (fun p => some (.inl p)) (fun p => some (.inr p))
theorem bind92x0x44 (w0 : Bool) (w3 : LB) (w4 w5 : Int) (w9 : LD) (w10 : Bool) (w11 : LD) (w15 w16 w17 w18 : Bool) (w20 : LD) (w21 w22 : Bool) (w24 w26 : LD) (k0 : LD → Option R) (k1 : Unit → Option R) : F92x0x44 N w0 w3 w4 w5 w9 w10 w11 w15 w16 w17 w18 w20 w21 w22 w24 w26 k0 k1 = (G92x0x44 N w0 w3 w4 w5 w9 w10 w11 w15 w16 w17 w18 w20 w21 w22 w24 w26).bind (sumE k0 k1) := by
  unfold G92x0x44 F92x0x44
  repeat' (first | with_reducible apply cond_b | (with_reducible apply bnd_b; intro _) | rfl)
noncomputable def J92x0x44 (L : List Lf) (k0 : LD → Option R) (k1 : Unit → Option R) : Option R := F92x0x44 N (lb L 0) (ls L 3) (li L 4) (li L 5) (ll L 9) (lb L 10) (ll L 11) (lb L 15) (lb L 16) (lb L 17) (lb L 18) (ll L 20) (lb L 21) (lb L 22) (ll L 24) (ll L 26) k0 k1
noncomputable def sh92x0x44 : Sh := { tmps := [(0, .c (.y 4)), (2, .c (.p 1 0)), (6, .c (.p 11 0)), (7, .c (.o 12)), (61, .c (.b))], mem := [(0, .box ([.sl 70])), (1, .box (.s :: [.i .i64, .i .i64, .sl 48, .sl 111, .sl 9])), (2, .box ([.o 50002005])), (4, .row 3 true), (11, .box (rB 5 ([.sl 3, .b, .b]))), (12, .row 48 true), (50002005, .row 29 true)] }
noncomputable def K92x0x44w0 (L : List Lf) (p : LD) : Ex × St := (.normal, mg (ofSh sh92x0x44 L) [] [] [0, 1, 2, 4, 68000000033] [(2, .box [.o 68000000033]), (68000000033, .row 29 true false p)])
noncomputable def K92x0x44w1 (L : List Lf) (_ : Unit) : Ex × St := (.normal, mg (ofSh sh92x0x44 L) [] [] [0, 1, 2, 4, 50002005] [])
noncomputable def A92x0x44 (L : List Lf) : List (Bool × (Ex × St)) := bnd (J92x0x44 N L (fun p => some (.inl p)) (fun p => some (.inr p))) fun q => [((inlB q), K92x0x44w0 L (inlV q)), ((inrQ q).isSome, K92x0x44w1 L ())]
theorem raw92x0x44 (L : List Lf) : pc Try.prog (T94x0 N) (h92x0s5 N).h 5 100 92 44 sh92x0x44 L [] [4, 68000000033, 2, 1, 0, 50002005] = J92x0x44 N L (fun p => some (K92x0x44w0 L p)) (fun _ => some (K92x0x44w1 L ())) := by kernel_rfl
noncomputable def h92x0s6 : Sg Try.prog 5 92 (YCtx y44x0z600000022) :=
  (h92x0s5 N).cut (A92x0x44 N) progOk (T94x0_ok N) fun L x hx => (raw92x0x44 N L).trans ((bind92x0x44 N ..).trans ((altS alt1) x hx))
noncomputable def F92x0 (v1 : LD) (v2 : LB) (v3 v4 : Int) (v6 v8 : LD) (v9 : Bool) (v10 : LD) (v11 : Bool) (v12 : LD) (k0 : LD → Option R) (k1 : Bool × LD → Option R) : Option R :=
  bnd (G40x0 N v1 v3 v4 v6 v10) fun y0 =>
  bif y0.isSome then
    bnd (G93x0 N v1) fun y1 =>
    bif y1.isSome then
      bnd (G92x0x12 N (y0.getD default).1 v6 (v6.length : Int) v2 v3 v4 v8 v9 v10 (y1.getD default).2.1 (y1.getD default).2.2.1 (y1.getD default).2.2.2.1 (y1.getD default).2.2.2.2.1 (y1.getD default).2.2.2.2.2.2.1 (y1.getD default).2.2.2.2.2.2.2.1 (y1.getD default).2.2.2.2.2.2.2.2 0 true [] v11 v12) fun y2 =>
      bif y2.isSome then
        bnd (G92x0x44 N (decide (((y2.getD default).2.1.length : Int) > 0)) v2 v3 v4 v8 v9 v10 (y1.getD default).2.1 (y1.getD default).2.2.1 (y1.getD default).2.2.2.1 (y1.getD default).2.2.2.2.1 (y1.getD default).2.2.2.2.2.2.1 (y1.getD default).2.2.2.2.2.2.2.1 (y1.getD default).2.2.2.2.2.2.2.2 (y2.getD default).2.1 (y2.getD default).2.2.2) fun y3 =>
        bif (inlB y3) then
          k0 (inlV y3)
        else
          bif (inrQ y3).isSome then
            k1 ((y2.getD default).2.2.1, (y2.getD default).2.2.2)
          else
            none
      else
        none
    else
      none
  else
    none
noncomputable def G92x0 (v1 : LD) (v2 : LB) (v3 v4 : Int) (v6 v8 : LD) (v9 : Bool) (v10 : LD) (v11 : Bool) (v12 : LD) : Option (Sum (LD) (Bool × LD)) := F92x0 N v1 v2 v3 v4 v6 v8 v9 v10 v11 v12 (fun p => some (.inl p)) (fun p => some (.inr p))
theorem bind92x0 (v1 : LD) (v2 : LB) (v3 v4 : Int) (v6 v8 : LD) (v9 : Bool) (v10 : LD) (v11 : Bool) (v12 : LD) (k0 : LD → Option R) (k1 : Bool × LD → Option R) : F92x0 N v1 v2 v3 v4 v6 v8 v9 v10 v11 v12 k0 k1 = (G92x0 N v1 v2 v3 v4 v6 v8 v9 v10 v11 v12).bind (sumE k0 k1) := by
  unfold G92x0 F92x0
  repeat' (first | with_reducible apply cond_b | (with_reducible apply bnd_b; intro _) | rfl)
noncomputable def J92x0 (L : List Lf) (k0 : LD → Option R) (k1 : Bool × LD → Option R) : Option R := F92x0 N (ll L 1) (ls L 2) (li L 3) (li L 4) (ll L 6) (ll L 8) (lb L 9) (ll L 10) (lb L 11) (ll L 12) k0 k1
noncomputable def sh92x0 : Sh := { tmps := [(0, .c (.y 4)), (1, .c (.p 0 0)), (2, .c (.p 1 0))], mem := [(0, .box ([.sl 70])), (1, .box (.s :: [.i .i64, .i .i64, .sl 48, .sl 111, .sl 9])), (2, .box ([.o 3])), (3, .row 29 true), (4, .row 3 true)] }
noncomputable def K92x0w0 (L : List Lf) (p : LD) : Res := ([], mgA (ofSh sh92x0 L).mem [(2, .box [.o 68000000033]), (68000000033, .row 29 true false p)] [0, 1, 2, 4, 68000000033])
noncomputable def K92x0w1 (L : List Lf) (p : Bool × LD) : Res := ([], mgA (ofSh sh92x0 L).mem [(2, .box [.o 50002005]), (50002005, .row 29 true p.1 p.2)] [0, 1, 2, 4, 50002005])
noncomputable def A92x0 (L : List Lf) : List (Bool × Res) := bnd (J92x0 N L (fun p => some (.inl p)) (fun p => some (.inr p))) fun q => [((inlB q), K92x0w0 L (inlV q)), ((inrQ q).isSome, K92x0w1 L ((inrQ q).getD default))]
theorem raw92x0 (L : List Lf) : bd Try.prog (T94x0 N) (h92x0s6 N).h 92 sh92x0 L = J92x0 N L (fun p => some (K92x0w0 L p)) (fun p => some (K92x0w1 L p)) := by kernel_rfl
theorem ok92x0 : FnOkX (YCtx y44x0z600000022) Try.prog 92 sh92x0 (A92x0 N) :=
  (h92x0s6 N).fnX progOk (T94x0_ok N) fun L x hx => ((raw92x0 N L).trans ((bind92x0 N ..).trans ((altS alt1) x hx)))
noncomputable def rg44x0 : List (Nat × List Nat) := [(0, [0, 1, 2]), (1, [3, 1, 2]), (2, [2, 7]), (3, [2, 7, 8]), (4, [17, 16, 15, 7, 8]), (5, [15, 17, 7, 16, 8]), (6, [7, 10, 17, 16, 15, 8]), (9, [17, 16, 15, 7, 8]), (10, [8])]
noncomputable def hd44x0 : Hints := [(12, [17, 16, 15, 7, 8], [8, 50008000], [50008000]), (600000022, [17, 16, 15, 7, 8, 23], [24000000003, 24000000002, 50008000, 8], [])]
noncomputable def h44x0s0 (N : Nat) : Sg Try.prog 0 44 := .start hd44x0 rg44x0
noncomputable def F44x0x600000022 (w6 : Bool) (w7 w9 : LD) (w10 : LB) (w11 w12 : Int) (w14 w16 : LD) (w17 : Bool) (w18 : LD) (k0 : LD → Option R) (k1 : Bool × LD → Option R) : Option R :=
  bnd (G92x0 N w9 w10 w11 w12 w14 w16 w17 w18 w6 w7) fun y0 =>
  bif (inlB y0) then
    k0 (inlV y0)
  else
    bif (inrQ y0).isSome then
      k1 ((inrQ y0).getD default)
    else
      none
noncomputable def G44x0x600000022 (w6 : Bool) (w7 w9 : LD) (w10 : LB) (w11 w12 : Int) (w14 w16 : LD) (w17 : Bool) (w18 : LD) : Option (Sum (LD) (Bool × LD)) := F44x0x600000022 N w6 w7 w9 w10 w11 w12 w14 w16 w17 w18 (fun p => some (.inl p)) (fun p => some (.inr p))
theorem bind44x0x600000022 (w6 : Bool) (w7 w9 : LD) (w10 : LB) (w11 w12 : Int) (w14 w16 : LD) (w17 : Bool) (w18 : LD) (k0 : LD → Option R) (k1 : Bool × LD → Option R) : F44x0x600000022 N w6 w7 w9 w10 w11 w12 w14 w16 w17 w18 k0 k1 = (G44x0x600000022 N w6 w7 w9 w10 w11 w12 w14 w16 w17 w18).bind (sumE k0 k1) := by
  unfold G44x0x600000022 F44x0x600000022
  repeat' (first | with_reducible apply cond_b | (with_reducible apply bnd_b; intro _) | rfl)
noncomputable def J44x0x600000022 (L : List Lf) (k0 : LD → Option R) (k1 : Bool × LD → Option R) : Option R := F44x0x600000022 N (lb L 6) (ll L 7) (ll L 9) (ls L 10) (li L 11) (li L 12) (ll L 14) (ll L 16) (lb L 17) (ll L 18) k0 k1
noncomputable def sh44x0x600000022 : Sh := { tmps := [(7, .c (.sl 70)), (8, .c (.p 8 0)), (15, .c (.sl 29)), (16, .c (.i .i64)), (17, .c (.i .i64)), (23, .c (.f 92 [(24000000002, 0), (24000000003, 0)]))], mem := [(8, .box ([.o 50008000])), (50008000, .row 29 true), (24000000002, .box ([.sl 70])), (24000000003, .box (.s :: [.i .i64, .i .i64, .sl 48, .sl 111, .sl 9]))] }
noncomputable def K44x0x600000022w0 (L : List Lf) (p : LD) : Ex × St := (.normal, mg (ofSh sh44x0x600000022 L) [7, 8, 15, 16, 17] [] [8, 1000068000000033] [(8, .box [.o 1000068000000033]), (1000068000000033, .row 29 true false p)])
noncomputable def K44x0x600000022w1 (L : List Lf) (p : Bool × LD) : Ex × St := (.normal, mg (ofSh sh44x0x600000022 L) [7, 8, 15, 16, 17] [] [8, 1000000050002005] [(8, .box [.o 1000000050002005]), (1000000050002005, .row 29 true p.1 p.2)])
noncomputable def A44x0x600000022 (L : List Lf) : List (Bool × (Ex × St)) := bnd (J44x0x600000022 N L (fun p => some (.inl p)) (fun p => some (.inr p))) fun q => [((inlB q), K44x0x600000022w0 L (inlV q)), ((inrQ q).isSome, K44x0x600000022w1 L ((inrQ q).getD default))]
theorem raw44x0x600000022 (L : List Lf) : pcR Try.prog y44x0z600000022 (spSh sh92x0 (A92x0 N)) 92 3 0 44 600000022 sh44x0x600000022 L [17, 16, 15, 7, 8] [1000068000000033, 8, 1000000050002005] = J44x0x600000022 N L (fun p => some (K44x0x600000022w0 L p)) (fun p => some (K44x0x600000022w1 L p)) := by kernel_rfl
noncomputable def h44x0s1 : Sg Try.prog 0 44 :=
  (h44x0s0 N).rf (g := .tmp 23) (A44x0x600000022 N) (ok92x0 N) (fun L x hx => (raw44x0x600000022 N L).trans ((bind44x0x600000022 N ..).trans ((altS alt1) x hx))) (by kernel_rfl)
noncomputable def S44x0x12 (w1 w3 : LD) (w4 : Int) (w5 : Int) (w6 : Bool) (w7 : LD) (kr : Int → Bool → LD → Option R) (k0 : Bool × LD → Option R) : Option R :=
  bif (decide (w5 < w4)) then
    bif (inB w5 w3.length) then
      bnd (G44x0x600000022 N w6 w7 w1 ((w3.getD w5.toNat (.i 0)).cell 0).toS ((w3.getD w5.toNat (.i 0)).cell 1).toI ((w3.getD w5.toNat (.i 0)).cell 2).toI ((w3.getD w5.toNat (.i 0)).cell 3).items ((w3.getD w5.toNat (.i 0)).cell 4).items ((w3.getD w5.toNat (.i 0)).cell 5).isNil ((w3.getD w5.toNat (.i 0)).cell 5).items) fun y0 =>
      bif (inlB y0) then
        kr (IntKind.wrap .i64 (w5 + 1)) false (inlV y0)
      else
        bif (inrQ y0).isSome then
          kr (IntKind.wrap .i64 (w5 + 1)) ((inrQ y0).getD default).1 ((inrQ y0).getD default).2
        else
          none
    else
      none
  else
    k0 (w6, w7)
noncomputable def L44x0x12 (N : Nat) {R : Type} (w1 w3 : LD) (w4 : Int) : Nat → Int → Bool → LD → (Bool × LD → Option R) → Option R
  | 0, _, _, _, _ => none
  | m + 1, w5, w6, w7, k0 => S44x0x12 N w1 w3 w4 w5 w6 w7 (fun w5 w6 w7 => L44x0x12 N w1 w3 w4 m w5 w6 w7 k0) k0
noncomputable def G44x0x12 (w1 w3 : LD) (w4 : Int) (w5 : Int) (w6 : Bool) (w7 : LD) : Option (Bool × LD) := L44x0x12 N (R := (Bool × LD)) w1 w3 w4 N w5 w6 w7 (fun p => some p)
noncomputable def J44x0x12 (L x : List Lf) (kr : List Lf → Option R) (k0 : Bool × LD → Option R) : Option R := S44x0x12 N (ll L 1) (ll L 3) (li L 4) (li x 0) (lb x 1) (ll x 2) (fun w5 w6 w7 => kr [.i w5, .b w6, .l w7]) k0
theorem sb44x0x12 (L x : List Lf) (kr : List Lf → Option R) (k0 : Bool × LD → Option R) : J44x0x12 N L x kr k0 = (J44x0x12 N L x (fun y => some (.inl y)) (fun p => some (.inr p))).bind (sumE kr k0) := by
  unfold J44x0x12 S44x0x12
  repeat' (first | with_reducible apply cond_b | (with_reducible apply bnd_b; intro _) | rfl)
noncomputable def Q44x0x12 (L : List Lf) (m : Nat) (x : List Lf) : Option (Bool × LD) := L44x0x12 N (R := (Bool × LD)) (ll L 1) (ll L 3) (li L 4) m (li x 0) (lb x 1) (ll x 2) (fun p => some p)
noncomputable def sh44x0x12 : Sh := { tmps := [(7, .c (.sl 70)), (8, .c (.p 8 0)), (15, .c (.sl 29)), (16, .c (.i .i64)), (17, .c (.i .i64))], mem := [(8, .box ([.o 50008000])), (50008000, .row 29 true)] }
noncomputable def K44x0x12w0 (L : List Lf) (p : Bool × LD) : Ex × St := ((.exit 0), mg (ofSh sh44x0x12 L) [8] [] [8, 50008000] [(50008000, .row 29 true p.1 p.2)])
noncomputable def A44x0x12 (L : List Lf) : List (Bool × (Ex × St)) := bnd (Q44x0x12 N L N (pk sh44x0x12 [5, 6, 7] L)) fun q => [(q.isSome, K44x0x12w0 L (q.getD default))]
theorem step44x0x12 (m : Nat) (kn : St → Option (Ex × St)) (L x : List Lf) : lpB Try.prog (T94x0 N) (h44x0s1 N).h 0 44 12 sh44x0x12 [5, 6, 7] [6, 8] [50008000, 8] (m + 100) kn L x = J44x0x12 N L x (fun y => kn (ofSh sh44x0x12 (mx sh44x0x12 [5, 6, 7] L y))) (fun p => some (K44x0x12w0 L p)) := by kernel_rfl
theorem ql44x0x12 (L : List Lf) (m : Nat) (x : List Lf) : Q44x0x12 N L (m + 1) x = J44x0x12 N L x (Q44x0x12 N L m) some := by kernel_rfl
noncomputable def h44x0s2 : Sg Try.prog 0 44 :=
  (h44x0s1 N).lp (A44x0x12 N) N progOk (T94x0_ok N) (fun m kn L x => (step44x0x12 N m kn L x).trans (sb44x0x12 N L x _ _)) (fun L m x => (ql44x0x12 N L m x).trans (sb44x0x12 N L x (Q44x0x12 N L m) some)) fun L x hx => alt1 x hx
noncomputable def F44x0 (v1 : LD) (v2 : Int) (v4 : LD) (k0 : Bool × LD → Option R) : Option R :=
  bnd (G41x0 N v1 v2) fun y0 =>
  bif y0.isSome then
    bnd (G44x0x12 N (y0.getD default).2 v4 (v4.length : Int) 0 true []) fun y1 =>
    bif y1.isSome then
      k0 (y1.getD default)
    else
      none
  else
    none
noncomputable def G44x0 (v1 : LD) (v2 : Int) (v4 : LD) : Option (Bool × LD) := F44x0 N v1 v2 v4 (fun p => some p)
theorem bind44x0 (v1 : LD) (v2 : Int) (v4 : LD) (k0 : Bool × LD → Option R) : F44x0 N v1 v2 v4 k0 = (G44x0 N v1 v2 v4).bind k0 := by
  unfold G44x0 F44x0
  repeat' (first | with_reducible apply cond_b | (with_reducible apply bnd_b; intro _) | rfl)
noncomputable def sh44x0 : Sh := { tmps := [(0, .g ([.sl 70])), (1, .c (.i .i64)), (2, .c (.sl 29))], mem := [] }
noncomputable def A44x0 (L : List Lf) : List (Bool × Res) := bnd (F44x0 N (ll L 1) (li L 2) (ll L 4) (fun p => some p)) fun q => [(q.isSome, ([.c (.sl 29 (q.getD default).1 (q.getD default).2)], []))]
theorem raw44x0 (L : List Lf) : bd Try.prog (T94x0 N) (h44x0s2 N).h 44 sh44x0 L = F44x0 N (ll L 1) (li L 2) (ll L 4) (fun p => some ([.c (.sl 29 p.1 p.2)], [])) := by kernel_rfl
theorem ok44x0 : FnOk Try.prog 44 sh44x0 (A44x0 N) :=
  (h44x0s2 N).fn progOk (T94x0_ok N) fun L x hx => ((raw44x0 N L).trans ((bind44x0 N ..).trans (alt1 x hx)))
noncomputable def T44x0 : Oracle := ext 44 (spSh sh44x0 (A44x0 N)) (T94x0 N)
theorem T44x0_ok : OracleOk Try.prog (T44x0 N) := FnOk.to (ok44x0 N) (T94x0_ok N)
noncomputable def rg13x0 : List (Nat × List Nat) := [(0, [0, 2, 1]), (1, [3, 1, 5]), (2, [8, 3, 1, 5]), (3, [8]), (4, [3, 1, 5])]
noncomputable def hd13x0 : Hints := []
noncomputable def h13x0s0 (N : Nat) : Sg Try.prog 0 13 := .start hd13x0 rg13x0
noncomputable def F13x0 (v1 : LD) (v2 : Int) (v3 : LB) (v4 v5 : Int) (v6 : Bool) (v7 : LD) (v8 : Bool) (v9 : LD) (v10 : Bool) (v11 : LD) (k0 : Bool × LD × Int → Option R) : Option R :=
  bnd (G39x0 N v1 v2 [(.a [(.s v3), (.i v4), (.i v5), (.l v6 v7), (.l v8 v9), (.l v10 v11)])]) fun y0 =>
  bif y0.isSome then
    bif ((y0.getD default) != 0) then
      k0 (true, [], (y0.getD default))
    else
      bnd (G44x0 N v1 v2 [(.a [(.s v3), (.i v4), (.i v5), (.l v6 v7), (.l v8 v9), (.l v10 v11)])]) fun y1 =>
      bif y1.isSome then
        k0 ((y1.getD default).1, (y1.getD default).2, 0)
      else
        none
  else
    none
noncomputable def G13x0 (v1 : LD) (v2 : Int) (v3 : LB) (v4 v5 : Int) (v6 : Bool) (v7 : LD) (v8 : Bool) (v9 : LD) (v10 : Bool) (v11 : LD) : Option (Bool × LD × Int) := F13x0 N v1 v2 v3 v4 v5 v6 v7 v8 v9 v10 v11 (fun p => some p)
theorem bind13x0 (v1 : LD) (v2 : Int) (v3 : LB) (v4 v5 : Int) (v6 : Bool) (v7 : LD) (v8 : Bool) (v9 : LD) (v10 : Bool) (v11 : LD) (k0 : Bool × LD × Int → Option R) : F13x0 N v1 v2 v3 v4 v5 v6 v7 v8 v9 v10 v11 k0 = (G13x0 N v1 v2 v3 v4 v5 v6 v7 v8 v9 v10 v11).bind k0 := by
  unfold G13x0 F13x0
  repeat' (first | with_reducible apply cond_b | (with_reducible apply bnd_b; intro _) | rfl)
noncomputable def J13x0 (L : List Lf) (k0 : Bool × LD × Int → Option R) : Option R := F13x0 N (ll L 1) (li L 2) (ls L 3) (li L 4) (li L 5) (lb L 6) (ll L 7) (lb L 8) (ll L 9) (lb L 10) (ll L 11) k0
noncomputable def sh13x0 : Sh := { tmps := [(0, .g ([.sl 70])), (1, .c (.i .i64)), (2, .g (.s :: [.i .i64, .i .i64, .sl 48, .sl 111, .sl 9]))], mem := [] }
noncomputable def A13x0 (L : List Lf) : List (Bool × Res) := bnd (J13x0 N L (fun p => some p)) fun q => [(q.isSome, ([.c (.sl 29 (q.getD default).1 (q.getD default).2.1), .c (.i .i64 (q.getD default).2.2)], []))]
theorem raw13x0 (L : List Lf) : bd Try.prog (T44x0 N) (h13x0s0 N).h 13 sh13x0 L = J13x0 N L (fun p => some ([.c (.sl 29 p.1 p.2.1), .c (.i .i64 p.2.2)], [])) := by kernel_rfl
theorem ok13x0 : FnOk Try.prog 13 sh13x0 (A13x0 N) :=
  (h13x0s0 N).fn progOk (T44x0_ok N) fun L x hx => ((raw13x0 N L).trans ((bind13x0 N ..).trans (alt1 x hx)))
noncomputable def T13x0 : Oracle := ext 13 (spSh sh13x0 (A13x0 N)) (T44x0 N)
theorem T13x0_ok : OracleOk Try.prog (T13x0 N) := FnOk.to (ok13x0 N) (T44x0_ok N)
noncomputable def rg12x0 : List (Nat × List Nat) := [(0, []), (1, []), (2, [1]), (3, [1, 2]), (4, [4, 3])]
noncomputable def hd12x0 : Hints := []
noncomputable def h12x0s0 (N : Nat) : Sg Try.prog 0 12 := .start hd12x0 rg12x0
noncomputable def F12x0 (k0 : Bool → Option R) : Option R :=
  bnd (G13x0 N [(.a [(.i 2), (.i 1), (.i 0), (.i 0), (.i 10), (.i 0), (.i 0), (.i 0), (.s ([] : List UInt8))])] 2 ([109] : List UInt8) 1 0 false [(.a [(.i 0), (.i 0), (.i 0), (.i 0), (.i (-1)), (.i (-1)), (.i (-1))]), (.a [(.i 10), (.i 100), (.i 0), (.i 0), (.i (-1)), (.i (-1)), (.i (-1))])] true [] true []) fun y0 =>
  bif y0.isSome then
    bnd (bif ((y0.getD default).2.2 == 0) then (((y0.getD default).2.1.length : Int) == 1) else false) fun y1 =>
    bif (bif (inB 0 (y0.getD default).2.1.length) then true else (!(y1 == true))) then
      bnd (bif y1 then ((((y0.getD default).2.1.getD 0 (.i 0)).cell 2).toI == 10) else false) fun y2 =>
      bif (bif (inB 0 (y0.getD default).2.1.length) then true else (!(y2 == true))) then
        bnd (bif y2 then (((((y0.getD default).2.1.getD 0 (.i 0)).cell 3).items.length : Int) == 1) else false) fun y3 =>
        bif (bif (inB 0 (y0.getD default).2.1.length) then true else (!(y3 == true))) then
          bif (bif (inB 0 (((y0.getD default).2.1.getD 0 (.i 0)).cell 3).items.length) then true else (!(y3 == true))) then
            bnd (bif y3 then ((((((y0.getD default).2.1.getD 0 (.i 0)).cell 3).items.getD 0 (.i 0)).cell 1).toI == 100) else false) fun y4 =>
            k0 y4
          else
            none
        else
          none
      else
        none
    else
      none
  else
    none
noncomputable def G12x0 : Option (Bool) := F12x0 N (fun p => some p)
theorem bind12x0 (k0 : Bool → Option R) : F12x0 N k0 = (G12x0 N).bind k0 := by
  unfold G12x0 F12x0
  repeat' (first | with_reducible apply cond_b | (with_reducible apply bnd_b; intro _) | rfl)
noncomputable def sh12x0 : Sh := { tmps := [], mem := [] }
noncomputable def A12x0 (L : List Lf) : List (Bool × Res) := bnd (F12x0 N (fun p => some p)) fun q => [(q.isSome, ([.c (.b (q.getD default))], []))]
theorem raw12x0 (L : List Lf) : bd Try.prog (T13x0 N) (h12x0s0 N).h 12 sh12x0 L = F12x0 N (fun p => some ([.c (.b p)], [])) := by kernel_rfl
theorem ok12x0 : FnOk Try.prog 12 sh12x0 (A12x0 N) :=
  (h12x0s0 N).fn progOk (T13x0_ok N) fun L x hx => ((raw12x0 N L).trans ((bind12x0 N ..).trans (alt1 x hx)))
noncomputable def T12x0 : Oracle := ext 12 (spSh sh12x0 (A12x0 N)) (T13x0 N)
theorem T12x0_ok : OracleOk Try.prog (T12x0 N) := FnOk.to (ok12x0 N) (T13x0_ok N)
noncomputable def rg15x0 : List (Nat × List Nat) := [(0, [0]), (1, [1])]
noncomputable def hd15x0 : Hints := []
noncomputable def h15x0s0 (N : Nat) : Sg Try.prog 0 15 := .start hd15x0 rg15x0
noncomputable def F15x0 (v0 : LB) (v1 v2 : Int) (v4 v6 v8 : LD) (k0 : Bool → Option R) : Option R :=
  bnd (G16x0 N v0 v1 v2 v4 v6 v8) fun y0 =>
  bif y0.isSome then
    k0 ((y0.getD default) != 0)
  else
    none
noncomputable def G15x0 (v0 : LB) (v1 v2 : Int) (v4 v6 v8 : LD) : Option (Bool) := F15x0 N v0 v1 v2 v4 v6 v8 (fun p => some p)
theorem bind15x0 (v0 : LB) (v1 v2 : Int) (v4 v6 v8 : LD) (k0 : Bool → Option R) : F15x0 N v0 v1 v2 v4 v6 v8 k0 = (G15x0 N v0 v1 v2 v4 v6 v8).bind k0 := by
  unfold G15x0 F15x0
  repeat' (first | with_reducible apply cond_b | (with_reducible apply bnd_b; intro _) | rfl)
noncomputable def J15x0 (L : List Lf) (k0 : Bool → Option R) : Option R := F15x0 N (ls L 0) (li L 1) (li L 2) (ll L 4) (ll L 6) (ll L 8) k0
noncomputable def sh15x0 : Sh := { tmps := [(0, .g (.s :: [.i .i64, .i .i64, .sl 48, .sl 111, .sl 9]))], mem := [] }
noncomputable def A15x0 (L : List Lf) : List (Bool × Res) := bnd (J15x0 N L (fun p => some p)) fun q => [(q.isSome, ([.c (.b (q.getD default))], []))]
theorem raw15x0 (L : List Lf) : bd Try.prog (T12x0 N) (h15x0s0 N).h 15 sh15x0 L = J15x0 N L (fun p => some ([.c (.b p)], [])) := by kernel_rfl
theorem ok15x0 : FnOk Try.prog 15 sh15x0 (A15x0 N) :=
  (h15x0s0 N).fn progOk (T12x0_ok N) fun L x hx => ((raw15x0 N L).trans ((bind15x0 N ..).trans (alt1 x hx)))
noncomputable def T15x0 : Oracle := ext 15 (spSh sh15x0 (A15x0 N)) (T12x0 N)
theorem T15x0_ok : OracleOk Try.prog (T15x0 N) := FnOk.to (ok15x0 N) (T12x0_ok N)
noncomputable def rg45x0 : List (Nat × List Nat) := [(0, [0, 1]), (1, [0, 1]), (2, [8, 7, 1, 0]), (3, [8, 1, 0, 7]), (4, [1, 0, 5, 8, 7]), (5, [5]), (6, [8, 7, 1, 0]), (7, [])]
noncomputable def hd45x0 : Hints := [(6, [8, 7, 1, 0], [], [])]
noncomputable def h45x0s0 (N : Nat) : Sg Try.prog 0 45 := .start hd45x0 rg45x0
noncomputable def S45x0x6 (w1 : LD) (w2 : Int) (w3 : Int) (kr : Int → Option R) (k0 : Int → Option R) (k1 : Unit → Option R) : Option R :=
  bif (decide (w3 < w2)) then
    bif (inB w3 w1.length) then
      bnd (G15x0 N ((w1.getD w3.toNat (.i 0)).cell 0).toS ((w1.getD w3.toNat (.i 0)).cell 1).toI ((w1.getD w3.toNat (.i 0)).cell 2).toI ((w1.getD w3.toNat (.i 0)).cell 3).items ((w1.getD w3.toNat (.i 0)).cell 4).items ((w1.getD w3.toNat (.i 0)).cell 5).items) fun y0 =>
      bif y0.isSome then
        bif (y0.getD default) then
          k0 w3
        else
          kr (IntKind.wrap .i64 (w3 + 1))
      else
        none
    else
      none
  else
    k1 ()
noncomputable def L45x0x6 (N : Nat) {R : Type} (w1 : LD) (w2 : Int) : Nat → Int → (Int → Option R) → (Unit → Option R) → Option R
  | 0, _, _, _ => none
  | m + 1, w3, k0, k1 => S45x0x6 N w1 w2 w3 (fun w3 => L45x0x6 N w1 w2 m w3 k0 k1) k0 k1
noncomputable def G45x0x6 (w1 : LD) (w2 : Int) (w3 : Int) : Option (Sum (Int) (Unit)) := L45x0x6 N (R := (Sum (Int) (Unit))) w1 w2 N w3 (fun p => some (.inl p)) (fun p => some (.inr p))
noncomputable def J45x0x6 (L x : List Lf) (kr : List Lf → Option R) (k0 : Int → Option R) (k1 : Unit → Option R) : Option R := S45x0x6 N (ll L 1) (li L 2) (li x 0) (fun w3 => kr [.i w3]) k0 k1
theorem sb45x0x6 (L x : List Lf) (kr : List Lf → Option R) (k0 : Int → Option R) (k1 : Unit → Option R) : J45x0x6 N L x kr k0 k1 = (J45x0x6 N L x (fun y => some (.inl y)) (fun p => some (.inr (.inl p))) (fun p => some (.inr (.inr p)))).bind (sumE kr (sumE k0 k1)) := by
  unfold J45x0x6 S45x0x6
  repeat' (first | with_reducible apply cond_b | (with_reducible apply bnd_b; intro _) | rfl)
noncomputable def Q45x0x6 (L : List Lf) (m : Nat) (x : List Lf) : Option (Sum (Int) (Unit)) := L45x0x6 N (R := (Sum (Int) (Unit))) (ll L 1) (li L 2) m (li x 0) (fun p => some (.inl p)) (fun p => some (.inr p))
noncomputable def sh45x0x6 : Sh := { tmps := [(0, .c (.sl 29)), (1, .c (.f 15 [])), (7, .c (.i .i64)), (8, .c (.i .i64))], mem := [] }
noncomputable def A45x0x6 (L : List Lf) : List (Bool × (Ex × St)) := bnd (Q45x0x6 N L N (pk sh45x0x6 [3] L)) fun q => [((inlB q), (.ret, ⟨[(4, .c (.i .i64 (inlV q)))], []⟩)), ((inrQ q).isSome, ((.exit 0), ⟨[], []⟩))]
theorem step45x0x6 (m : Nat) (kn : St → Option (Ex × St)) (L x : List Lf) : lpB Try.prog (T15x0 N) (h45x0s0 N).h 0 45 6 sh45x0x6 [3] [4] [] (m + 100) kn L x = J45x0x6 N L x (fun y => kn (ofSh sh45x0x6 (mx sh45x0x6 [3] L y))) (fun p => some (.ret, ⟨[(4, .c (.i .i64 p))], []⟩)) (fun _ => some ((.exit 0), ⟨[], []⟩)) := by kernel_rfl
theorem ql45x0x6 (L : List Lf) (m : Nat) (x : List Lf) : Q45x0x6 N L (m + 1) x = J45x0x6 N L x (Q45x0x6 N L m) (fun p => some (.inl p)) (fun p => some (.inr p)) := by kernel_rfl
noncomputable def h45x0s1 : Sg Try.prog 0 45 :=
  (h45x0s0 N).lp (A45x0x6 N) N progOk (T15x0_ok N) (fun m kn L x => (step45x0x6 N m kn L x).trans (sb45x0x6 N L x _ _ _)) (fun L m x => (ql45x0x6 N L m x).trans (sb45x0x6 N L x (Q45x0x6 N L m) (fun p => some (.inl p)) (fun p => some (.inr p)))) fun L x hx => (altS alt1) x hx
noncomputable def F45x0 (v1 : LD) (k0 : Int → Option R) : Option R :=
  bnd (G45x0x6 N v1 (v1.length : Int) 0) fun y0 =>
  bif (inlB y0) then
    k0 (inlV y0)
  else
    bif (inrQ y0).isSome then
      k0 (-1)
    else
      none
noncomputable def G45x0 (v1 : LD) : Option (Int) := F45x0 N v1 (fun p => some p)
theorem bind45x0 (v1 : LD) (k0 : Int → Option R) : F45x0 N v1 k0 = (G45x0 N v1).bind k0 := by
  unfold G45x0 F45x0
  repeat' (first | with_reducible apply cond_b | (with_reducible apply bnd_b; intro _) | rfl)
noncomputable def sh45x0 : Sh := { tmps := [(0, .c (.sl 29)), (1, .c (.f 15 []))], mem := [] }
noncomputable def A45x0 (L : List Lf) : List (Bool × Res) := bnd (F45x0 N (ll L 1) (fun p => some p)) fun q => [(q.isSome, ([.c (.i .i64 (q.getD default))], []))]
theorem raw45x0 (L : List Lf) : bd Try.prog (T15x0 N) (h45x0s1 N).h 45 sh45x0 L = F45x0 N (ll L 1) (fun p => some ([.c (.i .i64 p)], [])) := by kernel_rfl
theorem ok45x0 : FnOk Try.prog 45 sh45x0 (A45x0 N) :=
  (h45x0s1 N).fn progOk (T15x0_ok N) fun L x hx => ((raw45x0 N L).trans ((bind45x0 N ..).trans (alt1 x hx)))
noncomputable def T45x0 : Oracle := ext 45 (spSh sh45x0 (A45x0 N)) (T15x0 N)
theorem T45x0_ok : OracleOk Try.prog (T45x0 N) := FnOk.to (ok45x0 N) (T15x0_ok N)
noncomputable def rg14x0 : List (Nat × List Nat) := [(0, [0, 1]), (1, [0, 1])]
noncomputable def hd14x0 : Hints := []
noncomputable def h14x0s0 (N : Nat) : Sg Try.prog 0 14 := .start hd14x0 rg14x0
noncomputable def F14x0 (v1 : LD) (k0 : Bool → Option R) : Option R :=
  bnd (G45x0 N v1) fun y0 =>
  bif y0.isSome then
    k0 (decide ((y0.getD default) ≥ 0))
  else
    none
noncomputable def G14x0 (v1 : LD) : Option (Bool) := F14x0 N v1 (fun p => some p)
theorem bind14x0 (v1 : LD) (k0 : Bool → Option R) : F14x0 N v1 k0 = (G14x0 N v1).bind k0 := by
  unfold G14x0 F14x0
  repeat' (first | with_reducible apply cond_b | (with_reducible apply bnd_b; intro _) | rfl)
noncomputable def sh14x0 : Sh := { tmps := [(0, .c (.sl 29)), (1, .c (.f 15 []))], mem := [] }
noncomputable def A14x0 (L : List Lf) : List (Bool × Res) := bnd (F14x0 N (ll L 1) (fun p => some p)) fun q => [(q.isSome, ([.c (.b (q.getD default))], []))]
theorem raw14x0 (L : List Lf) : bd Try.prog (T45x0 N) (h14x0s0 N).h 14 sh14x0 L = F14x0 N (ll L 1) (fun p => some ([.c (.b p)], [])) := by kernel_rfl
theorem ok14x0 : FnOk Try.prog 14 sh14x0 (A14x0 N) :=
  (h14x0s0 N).fn progOk (T45x0_ok N) fun L x hx => ((raw14x0 N L).trans ((bind14x0 N ..).trans (alt1 x hx)))
noncomputable def T14x0 : Oracle := ext 14 (spSh sh14x0 (A14x0 N)) (T45x0 N)
theorem T14x0_ok : OracleOk Try.prog (T14x0 N) := FnOk.to (ok14x0 N) (T45x0_ok N)
noncomputable def rg3x0 : List (Nat × List Nat) := [(0, [0, 2, 1]), (1, [3, 1, 5]), (2, [3, 1, 5, 9, 7, 8]), (3, [9, 12, 3, 1, 5, 7, 10, 8, 11]), (4, [3, 1, 5, 9]), (5, [9, 15]), (6, [7, 10, 8, 11, 3, 1, 5]), (7, []), (8, [7, 10, 3, 1, 5]), (9, [70, 69, 7, 10, 3, 1, 5]), (10, [70, 7, 10, 69, 3, 1, 5]), (11, [7, 16, 10, 70, 69, 3, 1, 5]), (12, []), (13, [70, 69, 7, 10, 3, 1, 5]), (14, [3, 1, 5]), (15, [18, 17])]
noncomputable def hd3x0 : Hints := [(16, [9, 15], [], []), (27, [70, 69, 7, 10, 3, 1, 5], [5, 3], []), (46, [18, 17], [], [])]
noncomputable def h3x0s0 (N : Nat) : Sg Try.prog 0 3 := .start hd3x0 rg3x0
noncomputable def F3x0x16 (w0 w1 : Int) (k0 : Bool → Option R) : Option R :=
  bif (w0 == w1) then
    bnd (G12x0 N) fun y0 =>
    bif y0.isSome then
      k0 (y0.getD default)
    else
      none
  else
    k0 false
noncomputable def G3x0x16 (w0 w1 : Int) : Option (Bool) := F3x0x16 N w0 w1 (fun p => some p)
theorem bind3x0x16 (w0 w1 : Int) (k0 : Bool → Option R) : F3x0x16 N w0 w1 k0 = (G3x0x16 N w0 w1).bind k0 := by
  unfold G3x0x16 F3x0x16
  repeat' (first | with_reducible apply cond_b | (with_reducible apply bnd_b; intro _) | rfl)
noncomputable def sh3x0x16 : Sh := { tmps := [(9, .c (.i .i64)), (15, .c (.i .i64))], mem := [] }
noncomputable def A3x0x16 (L : List Lf) : List (Bool × (Ex × St)) := bnd (F3x0x16 N (li L 0) (li L 1) (fun p => some p)) fun q => [(q.isSome, (.normal, ⟨[(6, .c (.b (q.getD default)))], []⟩))]
theorem raw3x0x16 (L : List Lf) : pc Try.prog (T14x0 N) (h3x0s0 N).h 0 100 3 16 sh3x0x16 L [6] [] = F3x0x16 N (li L 0) (li L 1) (fun p => some (.normal, ⟨[(6, .c (.b p))], []⟩)) := by kernel_rfl
noncomputable def h3x0s1 : Sg Try.prog 0 3 :=
  (h3x0s0 N).cut (A3x0x16 N) progOk (T14x0_ok N) fun L x hx => (raw3x0x16 N L).trans ((bind3x0x16 N ..).trans (alt1 x hx))
noncomputable def S3x0x27 (N : Nat) (w2 w4 : LD) (w5 : Int) (w6 : Int) (kr : Int → Option R) (k0 : Unit → Option R) (k1 : Unit → Option R) : Option R :=
  bif (decide (w6 < w5)) then
    bif (inB w6 w2.length) then
      bif (bif (inB w6 w4.length) then true else (!((w2.getD w6.toNat (.i 0)).toB == true))) then
        bnd (bif (w2.getD w6.toNat (.i 0)).toB then (!(w4.getD w6.toNat (.i 0)).toB) else false) fun y0 =>
        bif y0 then
          k0 ()
        else
          kr (IntKind.wrap .i64 (w6 + 1))
      else
        none
    else
      none
  else
    k1 ()
noncomputable def L3x0x27 (N : Nat) {R : Type} (w2 w4 : LD) (w5 : Int) : Nat → Int → (Unit → Option R) → (Unit → Option R) → Option R
  | 0, _, _, _ => none
  | m + 1, w6, k0, k1 => S3x0x27 N w2 w4 w5 w6 (fun w6 => L3x0x27 N w2 w4 w5 m w6 k0 k1) k0 k1
noncomputable def G3x0x27 (w2 w4 : LD) (w5 : Int) (w6 : Int) : Option (Sum (Unit) (Unit)) := L3x0x27 N (R := (Sum (Unit) (Unit))) w2 w4 w5 N w6 (fun p => some (.inl p)) (fun p => some (.inr p))
noncomputable def J3x0x27 (L x : List Lf) (kr : List Lf → Option R) (k0 : Unit → Option R) (k1 : Unit → Option R) : Option R := S3x0x27 N (ll L 2) (ll L 4) (li L 5) (li x 0) (fun w6 => kr [.i w6]) k0 k1
theorem sb3x0x27 (L x : List Lf) (kr : List Lf → Option R) (k0 : Unit → Option R) (k1 : Unit → Option R) : J3x0x27 N L x kr k0 k1 = (J3x0x27 N L x (fun y => some (.inl y)) (fun p => some (.inr (.inl p))) (fun p => some (.inr (.inr p)))).bind (sumE kr (sumE k0 k1)) := by
  unfold J3x0x27 S3x0x27
  repeat' (first | with_reducible apply cond_b | (with_reducible apply bnd_b; intro _) | rfl)
noncomputable def Q3x0x27 (L : List Lf) (m : Nat) (x : List Lf) : Option (Sum (Unit) (Unit)) := L3x0x27 N (R := (Sum (Unit) (Unit))) (ll L 2) (ll L 4) (li L 5) m (li x 0) (fun p => some (.inl p)) (fun p => some (.inr p))
noncomputable def sh3x0x27 : Sh := { tmps := [(1, .c (.i .i64)), (3, .c (.p 3 0)), (5, .c (.p 5 0)), (7, .c (.sl 4)), (10, .c (.sl 4)), (69, .c (.i .i64)), (70, .c (.i .i64))], mem := [(3, .box ([.sl 70])), (5, .box (.s :: [.i .i64, .i .i64, .sl 48, .sl 111, .sl 9]))] }
noncomputable def K3x0x27w0 (L : List Lf) (_ : Unit) : Ex × St := (.ret, mg (ofSh sh3x0x27 L) [6] [(6, .c (.b false))] [3, 5] [])
noncomputable def A3x0x27 (L : List Lf) : List (Bool × (Ex × St)) := bnd (Q3x0x27 N L N (pk sh3x0x27 [6] L)) fun q => [((inlB q), K3x0x27w0 L ()), ((inrQ q).isSome, ((.exit 0), mg (ofSh sh3x0x27 L) [1, 3, 5] [] [3, 5] []))]
theorem step3x0x27 (m : Nat) (kn : St → Option (Ex × St)) (L x : List Lf) : lpB Try.prog (T14x0 N) (h3x0s1 N).h 0 3 27 sh3x0x27 [6] [6, 3, 1, 5] [5, 3] (m + 100) kn L x = J3x0x27 N L x (fun y => kn (ofSh sh3x0x27 (mx sh3x0x27 [6] L y))) (fun _ => some (K3x0x27w0 L ())) (fun _ => some ((.exit 0), mg (ofSh sh3x0x27 L) [1, 3, 5] [] [3, 5] [])) := by kernel_rfl
theorem ql3x0x27 (L : List Lf) (m : Nat) (x : List Lf) : Q3x0x27 N L (m + 1) x = J3x0x27 N L x (Q3x0x27 N L m) (fun p => some (.inl p)) (fun p => some (.inr p)) := by kernel_rfl
noncomputable def h3x0s2 : Sg Try.prog 0 3 :=
  (h3x0s1 N).lp (A3x0x27 N) N progOk (T14x0_ok N) (fun m kn L x => (step3x0x27 N m kn L x).trans (sb3x0x27 N L x _ _ _)) (fun L m x => (ql3x0x27 N L m x).trans (sb3x0x27 N L x (Q3x0x27 N L m) (fun p => some (.inl p)) (fun p => some (.inr p)))) fun L x hx => (altS alt1) x hx
noncomputable def F3x0x46 (w1 : LD) (w2 : Int) (k0 : Bool → Option R) : Option R :=
  bif (w2 == 0) then
    bnd (G14x0 N w1) fun y0 =>
    bif y0.isSome then
      bif (!(y0.getD default)) then
        bnd (G12x0 N) fun y1 =>
        bif y1.isSome then
          k0 (y1.getD default)
        else
          none
      else
        k0 false
    else
      none
  else
    k0 false
noncomputable def G3x0x46 (w1 : LD) (w2 : Int) : Option (Bool) := F3x0x46 N w1 w2 (fun p => some p)
theorem bind3x0x46 (w1 : LD) (w2 : Int) (k0 : Bool → Option R) : F3x0x46 N w1 w2 k0 = (G3x0x46 N w1 w2).bind k0 := by
  unfold G3x0x46 F3x0x46
  repeat' (first | with_reducible apply cond_b | (with_reducible apply bnd_b; intro _) | rfl)
noncomputable def sh3x0x46 : Sh := { tmps := [(17, .c (.sl 29)), (18, .c (.i .i64))], mem := [] }
noncomputable def A3x0x46 (L : List Lf) : List (Bool × (Ex × St)) := bnd (F3x0x46 N (ll L 1) (li L 2) (fun p => some p)) fun q => [(q.isSome, (.normal, ⟨[(6, .c (.b (q.getD default)))], []⟩))]
theorem raw3x0x46 (L : List Lf) : pc Try.prog (T14x0 N) (h3x0s2 N).h 0 100 3 46 sh3x0x46 L [6] [] = F3x0x46 N (ll L 1) (li L 2) (fun p => some (.normal, ⟨[(6, .c (.b p))], []⟩)) := by kernel_rfl
noncomputable def h3x0s3 : Sg Try.prog 0 3 :=
  (h3x0s2 N).cut (A3x0x46 N) progOk (T14x0_ok N) fun L x hx => (raw3x0x46 N L).trans ((bind3x0x46 N ..).trans (alt1 x hx))
noncomputable def F3x0 (v1 : LD) (v2 : Int) (v3 : LB) (v4 v5 : Int) (v6 : Bool) (v7 : LD) (v8 : Bool) (v9 : LD) (v10 : Bool) (v11 : LD) (k0 : Bool → Option R) : Option R :=
  bnd (G10x0 N v1 v2 v3 v4 v5 v6 v7 v8 v9 v10 v11) fun y0 =>
  bif y0.isSome then
    bnd (G10x0 N v1 (IntKind.wrap .i64 (v2 + 1)) v3 v4 v5 v6 v7 v8 v9 v10 v11) fun y1 =>
    bif y1.isSome then
      bnd (bif ((y0.getD default).2.2.2 != 0) then true else ((y1.getD default).2.2.2 != 0)) fun y2 =>
      bif y2 then
        bnd (G11x0 N v1 v2 v3 v4 v5 v6 v7 v8 v9 v10 v11) fun y3 =>
        bif y3.isSome then
          bnd (G3x0x16 N (y0.getD default).2.2.2 (y3.getD default).2.2.2) fun y4 =>
          bif y4.isSome then
            k0 (y4.getD default)
          else
            none
        else
          none
      else
        bnd (((y0.getD default).2.1.length : Int) != ((y1.getD default).2.1.length : Int)) fun y5 =>
        bnd (bif y5 then true else (bif (y0.getD default).2.2.1 then (!(y1.getD default).2.2.1) else false)) fun y6 =>
        bif y6 then
          k0 false
        else
          bnd (G3x0x27 N (y0.getD default).2.1 (y1.getD default).2.1 ((y0.getD default).2.1.length : Int) 0) fun y7 =>
          bif (inlB y7) then
            k0 false
          else
            bif (inrQ y7).isSome then
              bnd (G13x0 N v1 v2 v3 v4 v5 v6 v7 v8 v9 v10 v11) fun y8 =>
              bif y8.isSome then
                bnd (G3x0x46 N (y8.getD default).2.1 (y8.getD default).2.2) fun y9 =>
                bif y9.isSome then
                  k0 (y9.getD default)
                else
                  none
              else
                none
            else
              none
    else
      none
  else
    none
noncomputable def G3x0 (v1 : LD) (v2 : Int) (v3 : LB) (v4 v5 : Int) (v6 : Bool) (v7 : LD) (v8 : Bool) (v9 : LD) (v10 : Bool) (v11 : LD) : Option (Bool) := F3x0 N v1 v2 v3 v4 v5 v6 v7 v8 v9 v10 v11 (fun p => some p)
theorem bind3x0 (v1 : LD) (v2 : Int) (v3 : LB) (v4 v5 : Int) (v6 : Bool) (v7 : LD) (v8 : Bool) (v9 : LD) (v10 : Bool) (v11 : LD) (k0 : Bool → Option R) : F3x0 N v1 v2 v3 v4 v5 v6 v7 v8 v9 v10 v11 k0 = (G3x0 N v1 v2 v3 v4 v5 v6 v7 v8 v9 v10 v11).bind k0 := by
  unfold G3x0 F3x0
  repeat' (first | with_reducible apply cond_b | (with_reducible apply bnd_b; intro _) | rfl)
noncomputable def J3x0 (L : List Lf) (k0 : Bool → Option R) : Option R := F3x0 N (ll L 1) (li L 2) (ls L 3) (li L 4) (li L 5) (lb L 6) (ll L 7) (lb L 8) (ll L 9) (lb L 10) (ll L 11) k0
noncomputable def sh3x0 : Sh := { tmps := [(0, .g ([.sl 70])), (1, .c (.i .i64)), (2, .g (.s :: [.i .i64, .i .i64, .sl 48, .sl 111, .sl 9]))], mem := [] }
noncomputable def A3x0 (L : List Lf) : List (Bool × Res) := bnd (J3x0 N L (fun p => some p)) fun q => [(q.isSome, ([.c (.b (q.getD default))], []))]
theorem raw3x0 (L : List Lf) : bd Try.prog (T14x0 N) (h3x0s3 N).h 3 sh3x0 L = J3x0 N L (fun p => some ([.c (.b p)], [])) := by kernel_rfl
theorem ok3x0 : FnOk Try.prog 3 sh3x0 (A3x0 N) :=
  (h3x0s3 N).fn progOk (T14x0_ok N) fun L x hx => ((raw3x0 N L).trans ((bind3x0 N ..).trans (alt1 x hx)))
noncomputable def T3x0 : Oracle := ext 3 (spSh sh3x0 (A3x0 N)) (T14x0 N)
theorem T3x0_ok : OracleOk Try.prog (T3x0 N) := FnOk.to (ok3x0 N) (T14x0_ok N)
end Go.Proofs.Ytngnemeafkmaoaa
