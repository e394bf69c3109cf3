/- Functions of the program as plain Lean definitions, each with the proof that the program computes it. No condition. Printed by a program of the prover, part 2. -/
import Derived.Test.YtnnofignhdijiaaRPp1
import Derived.KernelRfl
set_option linter.all false
set_option maxRecDepth 100000
namespace Go.Proofs.Ytnnofignhdijiaa
open Go Go.AM
variable (N : Nat) {R : Type}
noncomputable def F49x0x38 (w0 w15 : Bool) (w17 : LD) (k0 : LD → Option R) (k1 : Unit → Option R) : Option R :=
  bif w0 then
    bnd (G106x1 N 3 30 false [(.a [(.i 1), (.i 60), (.i 2)])] w15 w17) fun y0 =>
    bif y0.isSome then
      k0 (y0.getD default)
    else
      none
  else
    k1 ()
noncomputable def G49x0x38 (w0 w15 : Bool) (w17 : LD) : Option (Sum (LD) (Unit)) := F49x0x38 N w0 w15 w17 (fun p => some (.inl p)) (fun p => some (.inr p))
theorem bind49x0x38 (w0 w15 : Bool) (w17 : LD) (k0 : LD → Option R) (k1 : Unit → Option R) : F49x0x38 N w0 w15 w17 k0 k1 = (G49x0x38 N w0 w15 w17).bind (sumE k0 k1) := by
  unfold G49x0x38 F49x0x38
  repeat' (first | with_reducible apply cond_b | (with_reducible apply bnd_b; intro _) | rfl)
noncomputable def sh49x0x38 : Sh := { tmps := [(2, .c (.p 2 0)), (4, .c (.p 4 0)), (7, .c (.p 29 0)), (8, .c (.p 8 0)), (9, .c (.f 105 [])), (55, .c (.b))], mem := [(2, .box (.s :: [.i .i64, .i .i64, .sl 78, .sl 82, .sl 9])), (4, .box ([.sl 53])), (8, .box ([.i .i64, .i .i64, .i .i64])), (29, .box ([.o 52000000033, .b])), (52000000033, .row 53 true)] }
noncomputable def K49x0x38w0 (L : List Lf) (p : LD) : Ex × St := (.normal, mg (ofSh sh49x0x38 L) [2, 4, 7, 8, 9] [] [2, 4, 8, 29, 61000000027] [(29, .box [.o 61000000027, .b (lb L 15)]), (61000000027, .row 53 true false p)])
noncomputable def K49x0x38w1 (L : List Lf) (_ : Unit) : Ex × St := (.normal, mg (ofSh sh49x0x38 L) [2, 4, 7, 8, 9] [] [2, 4, 8, 29, 52000000033] [])
noncomputable def A49x0x38 (L : List Lf) : List (Bool × (Ex × St)) := bnd (F49x0x38 N (lb L 0) (lb L 15) (ll L 17) (fun p => some (.inl p)) (fun p => some (.inr p))) fun q => [((inlB q), K49x0x38w0 L (inlV q)), ((inrQ q).isSome, K49x0x38w1 L ())]
theorem raw49x0x38 (L : List Lf) : pc Try.prog (T110x0 N) (h49x0s0 N).h 0 100 49 38 sh49x0x38 L [2, 7, 8, 9, 4] [8, 61000000027, 29, 4, 2, 52000000033] = F49x0x38 N (lb L 0) (lb L 15) (ll L 17) (fun p => some (K49x0x38w0 L p)) (fun _ => some (K49x0x38w1 L ())) := by kernel_rfl
noncomputable def h49x0s1 : Sg Try.prog 0 49 :=
  (h49x0s0 N).cut (A49x0x38 N) progOk (T110x0_ok N) fun L x hx => (raw49x0x38 N L).trans ((bind49x0x38 N ..).trans ((altS alt1) x hx))
noncomputable def S49x0x42 (w1 : LD) (w2 : Int) (w3 : Int) (w19 : Bool) (w20 : LD) (kr : Int → Bool → LD → Option R) (k0 : Bool × LD → Option R) : Option R :=
  bif (decide (w3 < w2)) then
    bif (inB w3 w1.length) then
      bnd (V109x0 N (w1.getD w3.toNat (.i 0)).toS) fun y0 =>
      bnd (G107x0 N 3 [(.l false y0)] w20) fun y1 =>
      bif y1.isSome then
        kr (IntKind.wrap .i64 (w3 + 1)) false (y1.getD default)
      else
        none
    else
      none
  else
    k0 (w19, w20)
noncomputable def L49x0x42 (N : Nat) {R : Type} (w1 : LD) (w2 : Int) : Nat → Int → Bool → LD → (Bool × LD → Option R) → Option R
  | 0, _, _, _, _ => none
  | m + 1, w3, w19, w20, k0 => S49x0x42 N w1 w2 w3 w19 w20 (fun w3 w19 w20 => L49x0x42 N w1 w2 m w3 w19 w20 k0) k0
noncomputable def G49x0x42 (w1 : LD) (w2 : Int) (w3 : Int) (w19 : Bool) (w20 : LD) : Option (Bool × LD) := L49x0x42 N (R := (Bool × LD)) w1 w2 N w3 w19 w20 (fun p => some p)
noncomputable def J49x0x42 (L x : List Lf) (kr : List Lf → Option R) (k0 : Bool × LD → Option R) : Option R := S49x0x42 N (ll L 1) (li L 2) (li x 0) (lb x 1) (ll x 2) (fun w3 w19 w20 => kr [.i w3, .b w19, .l w20]) k0
theorem sb49x0x42 (L x : List Lf) (kr : List Lf → Option R) (k0 : Bool × LD → Option R) : J49x0x42 N L x kr k0 = (J49x0x42 N L x (fun y => some (.inl y)) (fun p => some (.inr p))).bind (sumE kr k0) := by
  unfold J49x0x42 S49x0x42
  repeat' (first | with_reducible apply cond_b | (with_reducible apply bnd_b; intro _) | rfl)
noncomputable def Q49x0x42 (L : List Lf) (m : Nat) (x : List Lf) : Option (Bool × LD) := L49x0x42 N (R := (Bool × LD)) (ll L 1) (li L 2) m (li x 0) (lb x 1) (ll x 2) (fun p => some p)
noncomputable def sh49x0x42 : Sh := { tmps := [(2, .c (.p 2 0)), (4, .c (.p 4 0)), (7, .c (.p 29 0)), (8, .c (.p 8 0)), (9, .c (.f 105 [])), (62, .c (.sl 9)), (63, .c (.i .i64)), (64, .c (.i .i64))], mem := [(2, .box (.s :: [.i .i64, .i .i64, .sl 78, .sl 82, .sl 9])), (4, .box ([.sl 53])), (8, .box ([.i .i64, .i .i64, .i .i64])), (29, .box ([.o 50029000, .b])), (50029000, .row 53 true)] }
noncomputable def K49x0x42w0 (L : List Lf) (p : Bool × LD) : Ex × St := ((.exit 0), mg (ofSh sh49x0x42 L) [2, 4, 7, 8, 9] [] [2, 4, 8, 29, 50029000] [(50029000, .row 53 true p.1 p.2)])
noncomputable def A49x0x42 (L : List Lf) : List (Bool × (Ex × St)) := bnd (Q49x0x42 N L N (pk sh49x0x42 [3, 19, 20] L)) fun q => [(q.isSome, K49x0x42w0 L (q.getD default))]
theorem step49x0x42 (m : Nat) (kn : St → Option (Ex × St)) (L x : List Lf) : lpB Try.prog (T110x0 N) (h49x0s1 N).h 0 49 42 sh49x0x42 [3, 19, 20] [4, 5, 2, 7, 8, 9] [8, 50029000, 29, 4, 2] (m + 100) kn L x = J49x0x42 N L x (fun y => kn (ofSh sh49x0x42 (mx sh49x0x42 [3, 19, 20] L y))) (fun p => some (K49x0x42w0 L p)) := by kernel_rfl
theorem ql49x0x42 (L : List Lf) (m : Nat) (x : List Lf) : Q49x0x42 N L (m + 1) x = J49x0x42 N L x (Q49x0x42 N L m) some := by kernel_rfl
noncomputable def h49x0s2 : Sg Try.prog 0 49 :=
  (h49x0s1 N).lp (A49x0x42 N) N progOk (T110x0_ok N) (fun m kn L x => (step49x0x42 N m kn L x).trans (sb49x0x42 N L x _ _)) (fun L m x => (ql49x0x42 N L m x).trans (sb49x0x42 N L x (Q49x0x42 N L m) some)) fun L x hx => alt1 x hx
noncomputable def F49x0x59 (w0 : Bool) (w12 w13 w14 : Int) (w15 : Bool) (w17 : LD) (k0 : LD → Option R) (k1 : Unit → Option R) : Option R :=
  bif w0 then
    bnd (G106x1 N 2 19 false [(.a [(.i w12), (.i w13), (.i w14)]), (.a [(.i 1), (.i 4), (.i 0)]), (.a [(.i 2), (.i 60), (.i 2)])] w15 w17) fun y0 =>
    bif y0.isSome then
      k0 (y0.getD default)
    else
      none
  else
    k1 ()
noncomputable def G49x0x59 (w0 : Bool) (w12 w13 w14 : Int) (w15 : Bool) (w17 : LD) : Option (Sum (LD) (Unit)) := F49x0x59 N w0 w12 w13 w14 w15 w17 (fun p => some (.inl p)) (fun p => some (.inr p))
theorem bind49x0x59 (w0 : Bool) (w12 w13 w14 : Int) (w15 : Bool) (w17 : LD) (k0 : LD → Option R) (k1 : Unit → Option R) : F49x0x59 N w0 w12 w13 w14 w15 w17 k0 k1 = (G49x0x59 N w0 w12 w13 w14 w15 w17).bind (sumE k0 k1) := by
  unfold G49x0x59 F49x0x59
  repeat' (first | with_reducible apply cond_b | (with_reducible apply bnd_b; intro _) | rfl)
noncomputable def J49x0x59 (L : List Lf) (k0 : LD → Option R) (k1 : Unit → Option R) : Option R := F49x0x59 N (lb L 0) (li L 12) (li L 13) (li L 14) (lb L 15) (ll L 17) k0 k1
noncomputable def sh49x0x59 : Sh := { tmps := [(2, .c (.p 2 0)), (4, .c (.p 4 0)), (7, .c (.p 29 0)), (8, .c (.p 8 0)), (9, .c (.f 105 [])), (77, .c (.b))], mem := [(2, .box (.s :: [.i .i64, .i .i64, .sl 78, .sl 82, .sl 9])), (4, .box ([.sl 53])), (8, .box ([.i .i64, .i .i64, .i .i64])), (29, .box ([.o 50029000, .b])), (50029000, .row 53 true)] }
noncomputable def K49x0x59w0 (L : List Lf) (p : LD) : Ex × St := (.normal, mg (ofSh sh49x0x59 L) [2, 4, 7, 8] [] [2, 4, 8, 29, 85000000027] [(29, .box [.o 85000000027, .b (lb L 15)]), (85000000027, .row 53 true false p)])
noncomputable def K49x0x59w1 (L : List Lf) (_ : Unit) : Ex × St := (.normal, mg (ofSh sh49x0x59 L) [2, 4, 7, 8] [] [2, 4, 8, 29, 50029000] [])
noncomputable def A49x0x59 (L : List Lf) : List (Bool × (Ex × St)) := bnd (J49x0x59 N L (fun p => some (.inl p)) (fun p => some (.inr p))) fun q => [((inlB q), K49x0x59w0 L (inlV q)), ((inrQ q).isSome, K49x0x59w1 L ())]
theorem raw49x0x59 (L : List Lf) : pc Try.prog (T110x0 N) (h49x0s2 N).h 0 100 49 59 sh49x0x59 L [2, 7, 8, 4] [8, 85000000027, 29, 4, 2, 50029000] = J49x0x59 N L (fun p => some (K49x0x59w0 L p)) (fun _ => some (K49x0x59w1 L ())) := by kernel_rfl
noncomputable def h49x0s3 : Sg Try.prog 0 49 :=
  (h49x0s2 N).cut (A49x0x59 N) progOk (T110x0_ok N) fun L x hx => (raw49x0x59 N L).trans ((bind49x0x59 N ..).trans ((altS alt1) x hx))
noncomputable def S49x0x63 (w1 : LD) (w2 w6 : Int) (w18 : Bool) (w3 : Int) (w19 : Bool) (w20 : LD) (kr : Int → Bool → LD → Option R) (k0 : Bool × LD → Option R) : Option R :=
  bif (decide (w3 < w2)) then
    bif (inB w3 w1.length) then
      bnd (IntKind.wrap .i64 (w6 + ((w1.getD w3.toNat (.i 0)).cell 0).toI)) fun y0 =>
      bnd (G108x0 N y0 4 false w18) fun y1 =>
      bif y1.isSome then
        bnd (IntKind.wrap .i64 (w6 + ((w1.getD w3.toNat (.i 0)).cell 1).toI)) fun y2 =>
        bnd (G108x0 N y2 4 false w18) fun y3 =>
        bif y3.isSome then
          bnd (V109x0 N ((w1.getD w3.toNat (.i 0)).cell 2).toS) fun y4 =>
          bnd (G107x0 N 2 [(.l false (y1.getD default)), (.l false (y3.getD default)), (.l false y4)] w20) fun y5 =>
          bif y5.isSome then
            kr (IntKind.wrap .i64 (w3 + 1)) false (y5.getD default)
          else
            none
        else
          none
      else
        none
    else
      none
  else
    k0 (w19, w20)
noncomputable def L49x0x63 (N : Nat) {R : Type} (w1 : LD) (w2 w6 : Int) (w18 : Bool) : Nat → Int → Bool → LD → (Bool × LD → Option R) → Option R
  | 0, _, _, _, _ => none
  | m + 1, w3, w19, w20, k0 => S49x0x63 N w1 w2 w6 w18 w3 w19 w20 (fun w3 w19 w20 => L49x0x63 N w1 w2 w6 w18 m w3 w19 w20 k0) k0
noncomputable def G49x0x63 (w1 : LD) (w2 w6 : Int) (w18 : Bool) (w3 : Int) (w19 : Bool) (w20 : LD) : Option (Bool × LD) := L49x0x63 N (R := (Bool × LD)) w1 w2 w6 w18 N w3 w19 w20 (fun p => some p)
noncomputable def J49x0x63 (L x : List Lf) (kr : List Lf → Option R) (k0 : Bool × LD → Option R) : Option R := S49x0x63 N (ll L 1) (li L 2) (li L 6) (lb L 18) (li x 0) (lb x 1) (ll x 2) (fun w3 w19 w20 => kr [.i w3, .b w19, .l w20]) k0
theorem sb49x0x63 (L x : List Lf) (kr : List Lf → Option R) (k0 : Bool × LD → Option R) : J49x0x63 N L x kr k0 = (J49x0x63 N L x (fun y => some (.inl y)) (fun p => some (.inr p))).bind (sumE kr k0) := by
  unfold J49x0x63 S49x0x63
  repeat' (first | with_reducible apply cond_b | (with_reducible apply bnd_b; intro _) | rfl)
noncomputable def Q49x0x63 (L : List Lf) (m : Nat) (x : List Lf) : Option (Bool × LD) := L49x0x63 N (R := (Bool × LD)) (ll L 1) (li L 2) (li L 6) (lb L 18) m (li x 0) (lb x 1) (ll x 2) (fun p => some p)
noncomputable def sh49x0x63 : Sh := { tmps := [(2, .c (.p 2 0)), (4, .c (.p 4 0)), (7, .c (.p 29 0)), (8, .c (.p 8 0)), (86, .c (.sl 82)), (87, .c (.i .i64)), (88, .c (.i .i64))], mem := [(2, .box (.s :: [.i .i64, .i .i64, .sl 78, .sl 82, .sl 9])), (4, .box ([.sl 53])), (8, .box ([.i .i64, .i .i64, .i .i64])), (29, .box ([.o 50029000, .b])), (50029000, .row 53 true)] }
noncomputable def K49x0x63w0 (L : List Lf) (p : Bool × LD) : Ex × St := ((.exit 2), mg (ofSh sh49x0x63 L) [2, 4, 7, 8] [] [2, 4, 8, 29, 50029000] [(50029000, .row 53 true p.1 p.2)])
noncomputable def A49x0x63 (L : List Lf) : List (Bool × (Ex × St)) := bnd (Q49x0x63 N L N (pk sh49x0x63 [3, 19, 20] L)) fun q => [(q.isSome, K49x0x63w0 L (q.getD default))]
theorem step49x0x63 (m : Nat) (kn : St → Option (Ex × St)) (L x : List Lf) : lpB Try.prog (T110x0 N) (h49x0s3 N).h 0 49 63 sh49x0x63 [3, 19, 20] [4, 5, 7, 2, 8] [8, 50029000, 29, 4, 2] (m + 100) kn L x = J49x0x63 N L x (fun y => kn (ofSh sh49x0x63 (mx sh49x0x63 [3, 19, 20] L y))) (fun p => some (K49x0x63w0 L p)) := by kernel_rfl
theorem ql49x0x63 (L : List Lf) (m : Nat) (x : List Lf) : Q49x0x63 N L (m + 1) x = J49x0x63 N L x (Q49x0x63 N L m) some := by kernel_rfl
noncomputable def h49x0s4 : Sg Try.prog 0 49 :=
  (h49x0s3 N).lp (A49x0x63 N) N progOk (T110x0_ok N) (fun m kn L x => (step49x0x63 N m kn L x).trans (sb49x0x63 N L x _ _)) (fun L m x => (ql49x0x63 N L m x).trans (sb49x0x63 N L x (Q49x0x63 N L m) some)) fun L x hx => alt1 x hx
noncomputable def F49x0x76 (w2 : Int) (w4 : LD) (w11 w12 w13 : Int) (w14 : Bool) (w16 : LD) (k0 : Unit → Option R) (k1 : Bool × LD → Option R) : Option R :=
  bnd (G110x0 N w2 w4 w11 w12 w13 w14 w16) fun y0 =>
  bif (inlB y0) then
    k0 ()
  else
    bif (inrQ y0).isSome then
      k1 ((inrQ y0).getD default)
    else
      none
noncomputable def G49x0x76 (w2 : Int) (w4 : LD) (w11 w12 w13 : Int) (w14 : Bool) (w16 : LD) : Option (Sum (Unit) (Bool × LD)) := F49x0x76 N w2 w4 w11 w12 w13 w14 w16 (fun p => some (.inl p)) (fun p => some (.inr p))
theorem bind49x0x76 (w2 : Int) (w4 : LD) (w11 w12 w13 : Int) (w14 : Bool) (w16 : LD) (k0 : Unit → Option R) (k1 : Bool × LD → Option R) : F49x0x76 N w2 w4 w11 w12 w13 w14 w16 k0 k1 = (G49x0x76 N w2 w4 w11 w12 w13 w14 w16).bind (sumE k0 k1) := by
  unfold G49x0x76 F49x0x76
  repeat' (first | with_reducible apply cond_b | (with_reducible apply bnd_b; intro _) | rfl)
noncomputable def J49x0x76 (L : List Lf) (k0 : Unit → Option R) (k1 : Bool × LD → Option R) : Option R := F49x0x76 N (li L 2) (ll L 4) (li L 11) (li L 12) (li L 13) (lb L 14) (ll L 16) k0 k1
noncomputable def sh49x0x76 : Sh := { tmps := [(2, .c (.p 2 0)), (4, .c (.p 4 0)), (7, .c (.p 29 0)), (8, .c (.p 8 0))], mem := [(2, .box (.s :: [.i .i64, .i .i64, .sl 78, .sl 82, .sl 9])), (4, .box ([.sl 53])), (8, .box ([.i .i64, .i .i64, .i .i64])), (29, .box ([.o 50029000, .b])), (50029000, .row 53 true)] }
noncomputable def K49x0x76w0 (L : List Lf) (_ : Unit) : Ex × St := (.normal, mg (ofSh sh49x0x76 L) [4, 7] [] [4, 29, 50029000] [])
noncomputable def K49x0x76w1 (L : List Lf) (p : Bool × LD) : Ex × St := (.normal, mg (ofSh sh49x0x76 L) [4, 7] [] [4, 29, 117050000002] [(29, .box [.o 117050000002, .b (lb L 14)]), (117050000002, .row 53 true p.1 p.2)])
noncomputable def A49x0x76 (L : List Lf) : List (Bool × (Ex × St)) := bnd (J49x0x76 N L (fun p => some (.inl p)) (fun p => some (.inr p))) fun q => [((inlB q), K49x0x76w0 L ()), ((inrQ q).isSome, K49x0x76w1 L ((inrQ q).getD default))]
theorem raw49x0x76 (L : List Lf) : pc Try.prog (T110x0 N) (h49x0s4 N).h 0 100 49 76 sh49x0x76 L [7, 4] [50029000, 29, 4, 117050000002] = J49x0x76 N L (fun _ => some (K49x0x76w0 L ())) (fun p => some (K49x0x76w1 L p)) := by kernel_rfl
noncomputable def h49x0s5 : Sg Try.prog 0 49 :=
  (h49x0s4 N).cut (A49x0x76 N) progOk (T110x0_ok N) fun L x hx => (raw49x0x76 N L).trans ((bind49x0x76 N ..).trans ((altS alt1) x hx))
noncomputable def F49x0 (v0 : LB) (v1 v2 : Int) (v4 v6 v8 : LD) (v9 : Bool) (k0 : Bool × LD × Int → Option R) : Option R :=
  bnd (G13x0 N v0 v1 v2 v4 v6 v8) fun y0 =>
  bif y0.isSome then
    bif ((y0.getD default) != 0) then
      k0 (true, [], (y0.getD default))
    else
      bnd (G54x0 N v4) fun y1 =>
      bif y1.isSome then
        bnd (decide ((IntKind.wrap .i64 (v2 + (y1.getD default))) > 4294967294)) fun y2 =>
        bif y2 then
          k0 (true, [], 9)
        else
          bnd (V106x0 N 0 0 false [(.a [(.i 253), (.i 4), (.i 0)]), (.a [(.i 1), (.i 60), (.i 2)]), (.a [(.i 2), (.i 1), (.i 0)])] v9) fun y3 =>
          bnd (G108x0 N v2 4 false v9) fun y4 =>
          bif y4.isSome then
            bnd (V109x0 N v0) fun y5 =>
            bnd (G108x0 N v1 1 false v9) fun y6 =>
            bif y6.isSome then
              bnd (G107x0 N 0 [(.l false (y4.getD default)), (.l false y5), (.l false (y6.getD default))] y3) fun y7 =>
              bif y7.isSome then
                bnd (G49x0x38 N (decide ((v8.length : Int) > 0)) v9 (y7.getD default)) fun y8 =>
                bif (inlB y8) then
                  bnd (G49x0x42 N v8 (v8.length : Int) 0 false (inlV y8)) fun y9 =>
                  bif y9.isSome then
                    bnd (G49x0x59 N (decide ((v6.length : Int) > 0)) 253 4 0 v9 (y9.getD default).2) fun y10 =>
                    bif (inlB y10) then
                      bnd (G49x0x63 N v6 (v6.length : Int) v2 v9 0 false (inlV y10)) fun y11 =>
                      bif y11.isSome then
                        bnd (G49x0x76 N v2 v4 253 4 0 v9 (y11.getD default).2) fun y12 =>
                        bif (inlB y12) then
                          k0 ((y11.getD default).1, (y11.getD default).2, 0)
                        else
                          bif (inrQ y12).isSome then
                            k0 (((inrQ y12).getD default).1, ((inrQ y12).getD default).2, 0)
                          else
                            none
                      else
                        none
                    else
                      bif (inrQ y10).isSome then
                        bnd (G49x0x63 N v6 (v6.length : Int) v2 v9 0 (y9.getD default).1 (y9.getD default).2) fun y13 =>
                        bif y13.isSome then
                          bnd (G49x0x76 N v2 v4 253 4 0 v9 (y13.getD default).2) fun y14 =>
                          bif (inlB y14) then
                            k0 ((y13.getD default).1, (y13.getD default).2, 0)
                          else
                            bif (inrQ y14).isSome then
                              k0 (((inrQ y14).getD default).1, ((inrQ y14).getD default).2, 0)
                            else
                              none
                        else
                          none
                      else
                        none
                  else
                    none
                else
                  bif (inrQ y8).isSome then
                    bnd (G49x0x42 N v8 (v8.length : Int) 0 false (y7.getD default)) fun y15 =>
                    bif y15.isSome then
                      bnd (G49x0x59 N (decide ((v6.length : Int) > 0)) 253 4 0 v9 (y15.getD default).2) fun y16 =>
                      bif (inlB y16) then
                        bnd (G49x0x63 N v6 (v6.length : Int) v2 v9 0 false (inlV y16)) fun y17 =>
                        bif y17.isSome then
                          bnd (G49x0x76 N v2 v4 253 4 0 v9 (y17.getD default).2) fun y18 =>
                          bif (inlB y18) then
                            k0 ((y17.getD default).1, (y17.getD default).2, 0)
                          else
                            bif (inrQ y18).isSome then
                              k0 (((inrQ y18).getD default).1, ((inrQ y18).getD default).2, 0)
                            else
                              none
                        else
                          none
                      else
                        bif (inrQ y16).isSome then
                          bnd (G49x0x63 N v6 (v6.length : Int) v2 v9 0 (y15.getD default).1 (y15.getD default).2) fun y19 =>
                          bif y19.isSome then
                            bnd (G49x0x76 N v2 v4 253 4 0 v9 (y19.getD default).2) fun y20 =>
                            bif (inlB y20) then
                              k0 ((y19.getD default).1, (y19.getD default).2, 0)
                            else
                              bif (inrQ y20).isSome then
                                k0 (((inrQ y20).getD default).1, ((inrQ y20).getD default).2, 0)
                              else
                                none
                          else
                            none
                        else
                          none
                    else
                      none
                  else
                    none
              else
                none
            else
              none
          else
            none
      else
        none
  else
    none
noncomputable def G49x0 (v0 : LB) (v1 v2 : Int) (v4 v6 v8 : LD) (v9 : Bool) : Option (Bool × LD × Int) := F49x0 N v0 v1 v2 v4 v6 v8 v9 (fun p => some p)
theorem bind49x0 (v0 : LB) (v1 v2 : Int) (v4 v6 v8 : LD) (v9 : Bool) (k0 : Bool × LD × Int → Option R) : F49x0 N v0 v1 v2 v4 v6 v8 v9 k0 = (G49x0 N v0 v1 v2 v4 v6 v8 v9).bind k0 := by
  unfold G49x0 F49x0
  repeat' (first | with_reducible apply cond_b | (with_reducible apply bnd_b; intro _) | rfl)
noncomputable def J49x0 (L : List Lf) (k0 : Bool × LD × Int → Option R) : Option R := F49x0 N (ls L 0) (li L 1) (li L 2) (ll L 4) (ll L 6) (ll L 8) (lb L 9) k0
noncomputable def sh49x0 : Sh := { tmps := [(0, .g (.s :: [.i .i64, .i .i64, .sl 78, .sl 82, .sl 9])), (1, .c (.b))], mem := [] }
noncomputable def A49x0 (L : List Lf) : List (Bool × Res) := bnd (J49x0 N L (fun p => some p)) fun q => [(q.isSome, ([.g [.sl 53 (q.getD default).1 (q.getD default).2.1], .c (.i .i64 (q.getD default).2.2)], []))]
theorem raw49x0 (L : List Lf) : bd Try.prog (T110x0 N) (h49x0s5 N).h 49 sh49x0 L = J49x0 N L (fun p => some ([.g [.sl 53 p.1 p.2.1], .c (.i .i64 p.2.2)], [])) := by kernel_rfl
theorem ok49x0 : FnOk Try.prog 49 sh49x0 (A49x0 N) :=
  (h49x0s5 N).fn progOk (T110x0_ok N) fun L x hx => ((raw49x0 N L).trans ((bind49x0 N ..).trans (alt1 x hx)))
noncomputable def T49x0 : Oracle := ext 49 (spSh sh49x0 (A49x0 N)) (T110x0 N)
theorem T49x0_ok : OracleOk Try.prog (T49x0 N) := FnOk.to (ok49x0 N) (T110x0_ok N)
noncomputable def rg17x0 : List (Nat × List Nat) := [(0, []), (1, []), (2, [1]), (3, [2, 3]), (4, [3, 5, 4])]
noncomputable def hd17x0 : Hints := [(13, [3, 5, 4], [], [])]
noncomputable def h17x0s0 (N : Nat) : Sg Try.prog 0 17 := .start hd17x0 rg17x0
noncomputable def F17x0x13 (w0 : Int) (w2 : LD) (w3 : Int) (k0 : Bool → Option R) : Option R :=
  bif (bif (w0 == 0) then (w3 == 0) else false) then
    bnd (G24x0 N w2 [(.i (-1)), (.i 100), (.i (-1)), (.i 100), (.i 105)]) fun y0 =>
    bif y0.isSome then
      k0 (y0.getD default)
    else
      none
  else
    k0 false
noncomputable def G17x0x13 (w0 : Int) (w2 : LD) (w3 : Int) : Option (Bool) := F17x0x13 N w0 w2 w3 (fun p => some p)
theorem bind17x0x13 (w0 : Int) (w2 : LD) (w3 : Int) (k0 : Bool → Option R) : F17x0x13 N w0 w2 w3 k0 = (G17x0x13 N w0 w2 w3).bind k0 := by
  unfold G17x0x13 F17x0x13
  repeat' (first | with_reducible apply cond_b | (with_reducible apply bnd_b; intro _) | rfl)
noncomputable def sh17x0x13 : Sh := { tmps := [(3, .c (.i .i64)), (4, .c (.sl 3)), (5, .c (.i .i64))], mem := [] }
noncomputable def A17x0x13 (L : List Lf) : List (Bool × (Ex × St)) := bnd (F17x0x13 N (li L 0) (ll L 2) (li L 3) (fun p => some p)) fun q => [(q.isSome, (.normal, ⟨[(0, .c (.b (q.getD default)))], []⟩))]
theorem raw17x0x13 (L : List Lf) : pc Try.prog (T49x0 N) (h17x0s0 N).h 0 100 17 13 sh17x0x13 L [0] [] = F17x0x13 N (li L 0) (ll L 2) (li L 3) (fun p => some (.normal, ⟨[(0, .c (.b p))], []⟩)) := by kernel_rfl
noncomputable def h17x0s1 : Sg Try.prog 0 17 :=
  (h17x0s0 N).cut (A17x0x13 N) progOk (T49x0_ok N) fun L x hx => (raw17x0x13 N L).trans ((bind17x0x13 N ..).trans (alt1 x hx))
noncomputable def F17x0 (k0 : Bool → Option R) : Option R :=
  bnd (G49x0 N ([109] : List UInt8) 1 100 [(.a [(.i 0), (.i 0), (.i 0), (.i 0), (.i (-1)), (.i (-1)), (.i (-1))]), (.a [(.i 5), (.i 4), (.i 0), (.i 0), (.i 120), (.i (-1)), (.i (-1))])] [] [] false) fun y0 =>
  bif y0.isSome then
    bnd (G18x0 N (y0.getD default).2.1) fun y1 =>
    bif y1.isSome then
      bnd (G17x0x13 N (y0.getD default).2.2 (y1.getD default).2.1 (y1.getD default).2.2) fun y2 =>
      bif y2.isSome then
        k0 (y2.getD default)
      else
        none
    else
      none
  else
    none
noncomputable def G17x0 : Option (Bool) := F17x0 N (fun p => some p)
theorem bind17x0 (k0 : Bool → Option R) : F17x0 N k0 = (G17x0 N).bind k0 := by
  unfold G17x0 F17x0
  repeat' (first | with_reducible apply cond_b | (with_reducible apply bnd_b; intro _) | rfl)
noncomputable def sh17x0 : Sh := { tmps := [], mem := [] }
noncomputable def A17x0 (L : List Lf) : List (Bool × Res) := bnd (F17x0 N (fun p => some p)) fun q => [(q.isSome, ([.c (.b (q.getD default))], []))]
theorem raw17x0 (L : List Lf) : bd Try.prog (T49x0 N) (h17x0s1 N).h 17 sh17x0 L = F17x0 N (fun p => some ([.c (.b p)], [])) := by kernel_rfl
theorem ok17x0 : FnOk Try.prog 17 sh17x0 (A17x0 N) :=
  (h17x0s1 N).fn progOk (T49x0_ok N) fun L x hx => ((raw17x0 N L).trans ((bind17x0 N ..).trans (alt1 x hx)))
noncomputable def T17x0 : Oracle := ext 17 (spSh sh17x0 (A17x0 N)) (T49x0 N)
theorem T17x0_ok : OracleOk Try.prog (T17x0 N) := FnOk.to (ok17x0 N) (T49x0_ok N)
noncomputable def rg4x0 : List (Nat × List Nat) := [(0, [0]), (1, [1]), (2, [1, 3, 4]), (3, [1, 3, 5, 4, 6]), (4, [1, 3, 5, 4, 6, 7, 8]), (5, [1, 3, 5, 4, 6, 7, 9, 8, 10])]
noncomputable def hd4x0 : Hints := [(16, [1, 3, 5, 4, 6, 7, 9, 8, 10], [1], [])]
noncomputable def h4x0s0 (N : Nat) : Sg Try.prog 0 4 := .start hd4x0 rg4x0
noncomputable def F4x0x16 (w1 : LD) (w2 : Int) (w4 : LD) (w5 : Int) (w7 : LD) (w8 : Int) (w10 : LD) (w11 : Int) (w13 : LD) (k0 : Bool → Option R) : Option R :=
  bnd (G22x0 N w13) fun y0 =>
  bif y0.isSome then
    bnd (G23x0 N w13) fun y1 =>
    bif y1.isSome then
      bif ((y0.getD default) == (y1.getD default)) then
        bnd (G24x0 N w1 w4) fun y2 =>
        bif y2.isSome then
          bif (y2.getD default) then
            bif (w2 == w5) then
              bnd (G25x0 N w7 w10) fun y3 =>
              bif y3.isSome then
                bif (y3.getD default) then
                  bif (w8 == w11) then
                    bnd (G17x0 N) fun y4 =>
                    bif y4.isSome then
                      k0 (y4.getD default)
                    else
                      none
                  else
                    k0 false
                else
                  k0 false
              else
                none
            else
              k0 false
          else
            k0 false
        else
          none
      else
        k0 false
    else
      none
  else
    none
noncomputable def G4x0x16 (w1 : LD) (w2 : Int) (w4 : LD) (w5 : Int) (w7 : LD) (w8 : Int) (w10 : LD) (w11 : Int) (w13 : LD) : Option (Bool) := F4x0x16 N w1 w2 w4 w5 w7 w8 w10 w11 w13 (fun p => some p)
theorem bind4x0x16 (w1 : LD) (w2 : Int) (w4 : LD) (w5 : Int) (w7 : LD) (w8 : Int) (w10 : LD) (w11 : Int) (w13 : LD) (k0 : Bool → Option R) : F4x0x16 N w1 w2 w4 w5 w7 w8 w10 w11 w13 k0 = (G4x0x16 N w1 w2 w4 w5 w7 w8 w10 w11 w13).bind k0 := by
  unfold G4x0x16 F4x0x16
  repeat' (first | with_reducible apply cond_b | (with_reducible apply bnd_b; intro _) | rfl)
noncomputable def J4x0x16 (L : List Lf) (k0 : Bool → Option R) : Option R := F4x0x16 N (ll L 1) (li L 2) (ll L 4) (li L 5) (ll L 7) (li L 8) (ll L 10) (li L 11) (ll L 13) k0
noncomputable def sh4x0x16 : Sh := { tmps := [(1, .c (.p 1 0)), (3, .c (.sl 3)), (4, .c (.i .i64)), (5, .c (.sl 3)), (6, .c (.i .i64)), (7, .c (.sl 5)), (8, .c (.i .i64)), (9, .c (.sl 5)), (10, .c (.i .i64))], mem := [(1, .box ([.sl 53]))] }
noncomputable def A4x0x16 (L : List Lf) : List (Bool × (Ex × St)) := bnd (J4x0x16 N L (fun p => some p)) fun q => [(q.isSome, (.normal, ⟨[(2, .c (.b (q.getD default)))], []⟩))]
theorem raw4x0x16 (L : List Lf) : pc Try.prog (T17x0 N) (h4x0s0 N).h 0 100 4 16 sh4x0x16 L [2] [] = J4x0x16 N L (fun p => some (.normal, ⟨[(2, .c (.b p))], []⟩)) := by kernel_rfl
noncomputable def h4x0s1 : Sg Try.prog 0 4 :=
  (h4x0s0 N).cut (A4x0x16 N) progOk (T17x0_ok N) fun L x hx => (raw4x0x16 N L).trans ((bind4x0x16 N ..).trans (alt1 x hx))
noncomputable def F4x0 (v1 : LD) (k0 : Bool → Option R) : Option R :=
  bnd (G18x0 N v1) fun y0 =>
  bif y0.isSome then
    bnd (G19x0 N v1) fun y1 =>
    bif y1.isSome then
      bnd (G20x0 N v1) fun y2 =>
      bif y2.isSome then
        bnd (G21x0 N v1) fun y3 =>
        bif y3.isSome then
          bnd (G4x0x16 N (y0.getD default).2.1 (y0.getD default).2.2 (y1.getD default).2.1 (y1.getD default).2.2 (y2.getD default).2.1 (y2.getD default).2.2 (y3.getD default).2.1 (y3.getD default).2.2 v1) fun y4 =>
          bif y4.isSome then
            k0 (y4.getD default)
          else
            none
        else
          none
      else
        none
    else
      none
  else
    none
noncomputable def G4x0 (v1 : LD) : Option (Bool) := F4x0 N v1 (fun p => some p)
theorem bind4x0 (v1 : LD) (k0 : Bool → Option R) : F4x0 N v1 k0 = (G4x0 N v1).bind k0 := by
  unfold G4x0 F4x0
  repeat' (first | with_reducible apply cond_b | (with_reducible apply bnd_b; intro _) | rfl)
noncomputable def sh4x0 : Sh := { tmps := [(0, .g ([.sl 53]))], mem := [] }
noncomputable def A4x0 (L : List Lf) : List (Bool × Res) := bnd (F4x0 N (ll L 1) (fun p => some p)) fun q => [(q.isSome, ([.c (.b (q.getD default))], []))]
theorem raw4x0 (L : List Lf) : bd Try.prog (T17x0 N) (h4x0s1 N).h 4 sh4x0 L = F4x0 N (ll L 1) (fun p => some ([.c (.b p)], [])) := by kernel_rfl
theorem ok4x0 : FnOk Try.prog 4 sh4x0 (A4x0 N) :=
  (h4x0s1 N).fn progOk (T17x0_ok N) fun L x hx => ((raw4x0 N L).trans ((bind4x0 N ..).trans (alt1 x hx)))
noncomputable def T4x0 : Oracle := ext 4 (spSh sh4x0 (A4x0 N)) (T17x0 N)
theorem T4x0_ok : OracleOk Try.prog (T4x0 N) := FnOk.to (ok4x0 N) (T17x0_ok N)
end Go.Proofs.Ytnnofignhdijiaa
