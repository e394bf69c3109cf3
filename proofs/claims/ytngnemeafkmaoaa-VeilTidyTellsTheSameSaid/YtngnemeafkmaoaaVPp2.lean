/- Functions of the program as plain Lean definitions, each with the proof that the program computes it. No condition. Printed by a program of the prover, part 2. -/
import Derived.Test.YtngnemeafkmaoaaVPp1
import Derived.KernelRfl
set_option linter.all false
set_option maxRecDepth 100000
namespace Go.Proofs.Ytngnemeafkmaoaa
open Go Go.AM
variable (N : Nat) {R : Type}
noncomputable def J92x0x12 (L x : List Lf) (kr : List Lf → Option R) (k0 : Ty5 → Option R) : Option R := S92x0x12 N (ll L 1) (ll L 3) (li L 4) (ls L 8) (li L 9) (li L 10) (ll L 14) (lb L 15) (ll L 16) (lb L 20) (lb L 21) (lb L 22) (lb L 23) (ll L 25) (lb L 26) (lb L 27) (li x 0) (lb x 1) (ll x 2) (lb x 3) (ll x 4) (fun w5 w28 w29 w30 w31 => kr [.i w5, .b w28, .l w29, .b w30, .l w31]) k0
theorem sb92x0x12 (L x : List Lf) (kr : List Lf → Option R) (k0 : Ty5 → Option R) : J92x0x12 N L x kr k0 = (J92x0x12 N L x (fun y => some (.inl y)) (fun p => some (.inr p))).bind (sumE kr k0) := by
  unfold J92x0x12 S92x0x12
  repeat' (first | with_reducible apply cond_b | (with_reducible apply bnd_b; intro _) | rfl)
noncomputable def Q92x0x12 (L : List Lf) (m : Nat) (x : List Lf) : Option (Ty5) := L92x0x12 N (R := (Ty5)) (ll L 1) (ll L 3) (li L 4) (ls L 8) (li L 9) (li L 10) (ll L 14) (lb L 15) (ll L 16) (lb L 20) (lb L 21) (lb L 22) (lb L 23) (ll L 25) (lb L 26) (lb L 27) m (li x 0) (lb x 1) (ll x 2) (lb x 3) (ll x 4) (fun p => some p)
noncomputable def sh92x0x12 : Sh := { tmps := [(0, .c (.y 4)), (2, .c (.p 1 0)), (4, .c (.sl 4)), (6, .c (.p 11 0)), (7, .c (.o 12)), (20, .c (.sl 48)), (21, .c (.i .i64)), (22, .c (.i .i64))], mem := [(0, .box ([.sl 70])), (1, .box (.s :: [.i .i64, .i .i64, .sl 48, .sl 111, .sl 9])), (2, .box ([.o 50002005])), (4, .row 3 true), (11, .box (rB 5 ([.sl 3, .b, .b]))), (12, .row 48 true), (50002005, .row 29 true)] }
noncomputable def K92x0x12w0 (L : List Lf) (p : Ty5) : Ex × St := ((.exit 0), mg (ofSh sh92x0x12 L) [0, 2, 6, 7] [] [0, 1, 2, 4, 11, 12, 50002005] [(12, .row 48 true p.1 p.2.1), (50002005, .row 29 true p.2.2.1 p.2.2.2)])
noncomputable def A92x0x12 (L : List Lf) : List (Bool × (Ex × St)) := bnd (Q92x0x12 N L N (pk sh92x0x12 [5, 28, 29, 30, 31] L)) fun q => [(q.isSome, K92x0x12w0 L (q.getD default))]
theorem step92x0x12 (m : Nat) (kn : St → Option (Ex × St)) (L x : List Lf) : lpB Try.prog (T94x0 N) (h92x0s3 N).h 5 92 12 sh92x0x12 [5, 28, 29, 30, 31] [7, 0, 6, 2] [50002005, 2, 0, 12, 11, 1, 4] (m + 100) kn L x = J92x0x12 N L x (fun y => kn (ofSh sh92x0x12 (mx sh92x0x12 [5, 28, 29, 30, 31] L y))) (fun p => some (K92x0x12w0 L p)) := by kernel_rfl
theorem ql92x0x12 (L : List Lf) (m : Nat) (x : List Lf) : Q92x0x12 N L (m + 1) x = J92x0x12 N L x (Q92x0x12 N L m) some := by kernel_rfl
noncomputable def h92x0s4 : Sg Try.prog 5 92 (YCtx y44x0z600000022) :=
  (h92x0s3 N).lp (A92x0x12 N) N progOk (T94x0_ok N) (fun m kn L x => (step92x0x12 N m kn L x).trans (sb92x0x12 N L x _ _)) (fun L m x => (ql92x0x12 N L m x).trans (sb92x0x12 N L x (Q92x0x12 N L m) some)) fun L x hx => alt1 x hx
noncomputable def F92x0x43 (w2 : LB) (w3 w4 : Int) (w8 : LD) (w9 : Bool) (w10 : LD) (w14 w15 w16 w17 : Bool) (w19 : LD) (w20 w21 : Bool) (w23 w25 : LD) (k0 : LD → Option R) : Option R :=
  bnd (G94x0 N w14 w15 w16 w17 w19 w20 w21 w2 w4 w8 w9 w10 w23) fun y0 =>
  bif y0.isSome then
    bif (decide ((w25.length + 1) * 104 ≤ room) && decide ((w25.length + 1) ≤ strMax)) then
      bnd ((w25 ++ [(.a [(.s (y0.getD default).1), (.i w3), (.i (y0.getD default).2.1), (.l (y0.getD default).2.2.1 (y0.getD default).2.2.2.1), (.l (y0.getD default).2.2.2.2.1 (y0.getD default).2.2.2.2.2.1), (.l (y0.getD default).2.2.2.2.2.2.1 (y0.getD default).2.2.2.2.2.2.2)])]) : List D) fun y1 =>
      k0 y1
    else
      none
  else
    none
noncomputable def G92x0x43 (w2 : LB) (w3 w4 : Int) (w8 : LD) (w9 : Bool) (w10 : LD) (w14 w15 w16 w17 : Bool) (w19 : LD) (w20 w21 : Bool) (w23 w25 : LD) : Option (LD) := F92x0x43 N w2 w3 w4 w8 w9 w10 w14 w15 w16 w17 w19 w20 w21 w23 w25 (fun p => some p)
theorem bind92x0x43 (w2 : LB) (w3 w4 : Int) (w8 : LD) (w9 : Bool) (w10 : LD) (w14 w15 w16 w17 : Bool) (w19 : LD) (w20 w21 : Bool) (w23 w25 : LD) (k0 : LD → Option R) : F92x0x43 N w2 w3 w4 w8 w9 w10 w14 w15 w16 w17 w19 w20 w21 w23 w25 k0 = (G92x0x43 N w2 w3 w4 w8 w9 w10 w14 w15 w16 w17 w19 w20 w21 w23 w25).bind k0 := by
  unfold G92x0x43 F92x0x43
  repeat' (first | with_reducible apply cond_b | (with_reducible apply bnd_b; intro _) | rfl)
noncomputable def J92x0x43 (L : List Lf) (k0 : LD → Option R) : Option R := F92x0x43 N (ls L 2) (li L 3) (li L 4) (ll L 8) (lb L 9) (ll L 10) (lb L 14) (lb L 15) (lb L 16) (lb L 17) (ll L 19) (lb L 20) (lb L 21) (ll L 23) (ll L 25) k0
noncomputable def sh92x0x43 : Sh := { tmps := [(0, .c (.y 4)), (2, .c (.p 1 0)), (6, .c (.p 11 0)), (7, .c (.o 12))], mem := [(0, .box ([.sl 70])), (1, .box (.s :: [.i .i64, .i .i64, .sl 48, .sl 111, .sl 9])), (2, .box ([.o 50002005])), (4, .row 3 true), (11, .box (rB 5 ([.sl 3, .b, .b]))), (12, .row 48 true), (50002005, .row 29 true)] }
noncomputable def K92x0x43w0 (L : List Lf) (p : LD) : Ex × St := (.normal, mg (ofSh sh92x0x43 L) [] [] [0, 1, 2, 4, 68000000033] [(2, .box [.o 68000000033]), (68000000033, .row 29 true false p)])
noncomputable def A92x0x43 (L : List Lf) : List (Bool × (Ex × St)) := bnd (J92x0x43 N L (fun p => some p)) fun q => [(q.isSome, K92x0x43w0 L (q.getD default))]
theorem raw92x0x43 (L : List Lf) : pcY Try.prog (T94x0 N) 5 y44x0z600000022 92 43 sh92x0x43 L [] [4, 68000000033, 2, 1, 0] = J92x0x43 N L (fun p => some (K92x0x43w0 L p)) := by kernel_rfl
noncomputable def h92x0s5 : Sg Try.prog 5 92 (YCtx y44x0z600000022) :=
  (h92x0s4 N).cutY (A92x0x43 N) (T94x0_ok N) fun L x hx => (raw92x0x43 N L).trans ((bind92x0x43 N ..).trans (alt1 x hx))
noncomputable def F92x0x44 (w0 : Bool) (w3 : LB) (w4 w5 : Int) (w9 : LD) (w10 : Bool) (w11 : LD) (w15 w16 w17 w18 : Bool) (w20 : LD) (w21 w22 : Bool) (w24 w26 : LD) (k0 : LD → Option R) (k1 : Unit → Option R) : Option R :=
  bif w0 then
    bnd (G92x0x43 N w3 w4 w5 w9 w10 w11 w15 w16 w17 w18 w20 w21 w22 w24 w26) fun y0 =>
    bif y0.isSome then
      k0 (y0.getD default)
    else
      none
  else
    k1 ()
noncomputable def G92x0x44 (w0 : Bool) (w3 : LB) (w4 w5 : Int) (w9 : LD) (w10 : Bool) (w11 : LD) (w15 w16 w17 w18 : Bool) (w20 : LD) (w21 w22 : Bool) (w24 w26 : LD) : Option (Sum (LD) (Unit)) := F92x0x44 N w0 w3 w4 w5 w9 w10 w11 w15 w16 w17 w18 w20 w21 w22 w24 w26 (fun p => some (.inl p)) (fun p => some (.inr p))
theorem bind92x0x44 (w0 : Bool) (w3 : LB) (w4 w5 : Int) (w9 : LD) (w10 : Bool) (w11 : LD) (w15 w16 w17 w18 : Bool) (w20 : LD) (w21 w22 : Bool) (w24 w26 : LD) (k0 : LD → Option R) (k1 : Unit → Option R) : F92x0x44 N w0 w3 w4 w5 w9 w10 w11 w15 w16 w17 w18 w20 w21 w22 w24 w26 k0 k1 = (G92x0x44 N w0 w3 w4 w5 w9 w10 w11 w15 w16 w17 w18 w20 w21 w22 w24 w26).bind (sumE k0 k1) := by
  unfold G92x0x44 F92x0x44
  repeat' (first | with_reducible apply cond_b | (with_reducible apply bnd_b; intro _) | rfl)
noncomputable def J92x0x44 (L : List Lf) (k0 : LD → Option R) (k1 : Unit → Option R) : Option R := F92x0x44 N (lb L 0) (ls L 3) (li L 4) (li L 5) (ll L 9) (lb L 10) (ll L 11) (lb L 15) (lb L 16) (lb L 17) (lb L 18) (ll L 20) (lb L 21) (lb L 22) (ll L 24) (ll L 26) k0 k1
noncomputable def sh92x0x44 : Sh := { tmps := [(0, .c (.y 4)), (2, .c (.p 1 0)), (6, .c (.p 11 0)), (7, .c (.o 12)), (61, .c (.b))], mem := [(0, .box ([.sl 70])), (1, .box (.s :: [.i .i64, .i .i64, .sl 48, .sl 111, .sl 9])), (2, .box ([.o 50002005])), (4, .row 3 true), (11, .box (rB 5 ([.sl 3, .b, .b]))), (12, .row 48 true), (50002005, .row 29 true)] }
noncomputable def K92x0x44w0 (L : List Lf) (p : LD) : Ex × St := (.normal, mg (ofSh sh92x0x44 L) [] [] [0, 1, 2, 4, 68000000033] [(2, .box [.o 68000000033]), (68000000033, .row 29 true false p)])
noncomputable def K92x0x44w1 (L : List Lf) (_ : Unit) : Ex × St := (.normal, mg (ofSh sh92x0x44 L) [] [] [0, 1, 2, 4, 50002005] [])
noncomputable def A92x0x44 (L : List Lf) : List (Bool × (Ex × St)) := bnd (J92x0x44 N L (fun p => some (.inl p)) (fun p => some (.inr p))) fun q => [((inlB q), K92x0x44w0 L (inlV q)), ((inrQ q).isSome, K92x0x44w1 L ())]
theorem raw92x0x44 (L : List Lf) : pc Try.prog (T94x0 N) (h92x0s5 N).h 5 100 92 44 sh92x0x44 L [] [4, 68000000033, 2, 1, 0, 50002005] = J92x0x44 N L (fun p => some (K92x0x44w0 L p)) (fun _ => some (K92x0x44w1 L ())) := by kernel_rfl
noncomputable def h92x0s6 : Sg Try.prog 5 92 (YCtx y44x0z600000022) :=
  (h92x0s5 N).cut (A92x0x44 N) progOk (T94x0_ok N) fun L x hx => (raw92x0x44 N L).trans ((bind92x0x44 N ..).trans ((altS alt1) x hx))
noncomputable def F92x0 (v1 : LD) (v2 : LB) (v3 v4 : Int) (v6 v8 : LD) (v9 : Bool) (v10 : LD) (v11 : Bool) (v12 : LD) (k0 : LD → Option R) (k1 : Bool × LD → Option R) : Option R :=
  bnd (G40x0 N v1 v3 v4 v6 v10) fun y0 =>
  bif y0.isSome then
    bnd (G93x0 N v1) fun y1 =>
    bif y1.isSome then
      bnd (G92x0x12 N (y0.getD default).1 v6 (v6.length : Int) v2 v3 v4 v8 v9 v10 (y1.getD default).2.1 (y1.getD default).2.2.1 (y1.getD default).2.2.2.1 (y1.getD default).2.2.2.2.1 (y1.getD default).2.2.2.2.2.2.1 (y1.getD default).2.2.2.2.2.2.2.1 (y1.getD default).2.2.2.2.2.2.2.2 0 true [] v11 v12) fun y2 =>
      bif y2.isSome then
        bnd (G92x0x44 N (decide (((y2.getD default).2.1.length : Int) > 0)) v2 v3 v4 v8 v9 v10 (y1.getD default).2.1 (y1.getD default).2.2.1 (y1.getD default).2.2.2.1 (y1.getD default).2.2.2.2.1 (y1.getD default).2.2.2.2.2.2.1 (y1.getD default).2.2.2.2.2.2.2.1 (y1.getD default).2.2.2.2.2.2.2.2 (y2.getD default).2.1 (y2.getD default).2.2.2) fun y3 =>
        bif (inlB y3) then
          k0 (inlV y3)
        else
          bif (inrQ y3).isSome then
            k1 ((y2.getD default).2.2.1, (y2.getD default).2.2.2)
          else
            none
      else
        none
    else
      none
  else
    none
noncomputable def G92x0 (v1 : LD) (v2 : LB) (v3 v4 : Int) (v6 v8 : LD) (v9 : Bool) (v10 : LD) (v11 : Bool) (v12 : LD) : Option (Sum (LD) (Bool × LD)) := F92x0 N v1 v2 v3 v4 v6 v8 v9 v10 v11 v12 (fun p => some (.inl p)) (fun p => some (.inr p))
theorem bind92x0 (v1 : LD) (v2 : LB) (v3 v4 : Int) (v6 v8 : LD) (v9 : Bool) (v10 : LD) (v11 : Bool) (v12 : LD) (k0 : LD → Option R) (k1 : Bool × LD → Option R) : F92x0 N v1 v2 v3 v4 v6 v8 v9 v10 v11 v12 k0 k1 = (G92x0 N v1 v2 v3 v4 v6 v8 v9 v10 v11 v12).bind (sumE k0 k1) := by
  unfold G92x0 F92x0
  repeat' (first | with_reducible apply cond_b | (with_reducible apply bnd_b; intro _) | rfl)
noncomputable def J92x0 (L : List Lf) (k0 : LD → Option R) (k1 : Bool × LD → Option R) : Option R := F92x0 N (ll L 1) (ls L 2) (li L 3) (li L 4) (ll L 6) (ll L 8) (lb L 9) (ll L 10) (lb L 11) (ll L 12) k0 k1
noncomputable def sh92x0 : Sh := { tmps := [(0, .c (.y 4)), (1, .c (.p 0 0)), (2, .c (.p 1 0))], mem := [(0, .box ([.sl 70])), (1, .box (.s :: [.i .i64, .i .i64, .sl 48, .sl 111, .sl 9])), (2, .box ([.o 3])), (3, .row 29 true), (4, .row 3 true)] }
noncomputable def K92x0w0 (L : List Lf) (p : LD) : Res := ([], mgA (ofSh sh92x0 L).mem [(2, .box [.o 68000000033]), (68000000033, .row 29 true false p)] [0, 1, 2, 4, 68000000033])
noncomputable def K92x0w1 (L : List Lf) (p : Bool × LD) : Res := ([], mgA (ofSh sh92x0 L).mem [(2, .box [.o 50002005]), (50002005, .row 29 true p.1 p.2)] [0, 1, 2, 4, 50002005])
noncomputable def A92x0 (L : List Lf) : List (Bool × Res) := bnd (J92x0 N L (fun p => some (.inl p)) (fun p => some (.inr p))) fun q => [((inlB q), K92x0w0 L (inlV q)), ((inrQ q).isSome, K92x0w1 L ((inrQ q).getD default))]
theorem raw92x0 (L : List Lf) : bd Try.prog (T94x0 N) (h92x0s6 N).h 92 sh92x0 L = J92x0 N L (fun p => some (K92x0w0 L p)) (fun p => some (K92x0w1 L p)) := by kernel_rfl
theorem ok92x0 : FnOkX (YCtx y44x0z600000022) Try.prog 92 sh92x0 (A92x0 N) :=
  (h92x0s6 N).fnX progOk (T94x0_ok N) fun L x hx => ((raw92x0 N L).trans ((bind92x0 N ..).trans ((altS alt1) x hx)))
noncomputable def rg44x0 : List (Nat × List Nat) := [(0, [0, 1, 2]), (1, [3, 1, 2]), (2, [2, 7]), (3, [2, 7, 8]), (4, [17, 16, 15, 7, 8]), (5, [15, 17, 7, 16, 8]), (6, [7, 10, 17, 16, 15, 8]), (9, [17, 16, 15, 7, 8]), (10, [8])]
noncomputable def hd44x0 : Hints := [(12, [17, 16, 15, 7, 8], [8, 50008000], [50008000]), (600000022, [17, 16, 15, 7, 8, 23], [24000000003, 24000000002, 50008000, 8], [])]
noncomputable def h44x0s0 (N : Nat) : Sg Try.prog 0 44 := .start hd44x0 rg44x0
noncomputable def F44x0x600000022 (w6 : Bool) (w7 w9 : LD) (w10 : LB) (w11 w12 : Int) (w14 w16 : LD) (w17 : Bool) (w18 : LD) (k0 : LD → Option R) (k1 : Bool × LD → Option R) : Option R :=
  bnd (G92x0 N w9 w10 w11 w12 w14 w16 w17 w18 w6 w7) fun y0 =>
  bif (inlB y0) then
    k0 (inlV y0)
  else
    bif (inrQ y0).isSome then
      k1 ((inrQ y0).getD default)
    else
      none
noncomputable def G44x0x600000022 (w6 : Bool) (w7 w9 : LD) (w10 : LB) (w11 w12 : Int) (w14 w16 : LD) (w17 : Bool) (w18 : LD) : Option (Sum (LD) (Bool × LD)) := F44x0x600000022 N w6 w7 w9 w10 w11 w12 w14 w16 w17 w18 (fun p => some (.inl p)) (fun p => some (.inr p))
theorem bind44x0x600000022 (w6 : Bool) (w7 w9 : LD) (w10 : LB) (w11 w12 : Int) (w14 w16 : LD) (w17 : Bool) (w18 : LD) (k0 : LD → Option R) (k1 : Bool × LD → Option R) : F44x0x600000022 N w6 w7 w9 w10 w11 w12 w14 w16 w17 w18 k0 k1 = (G44x0x600000022 N w6 w7 w9 w10 w11 w12 w14 w16 w17 w18).bind (sumE k0 k1) := by
  unfold G44x0x600000022 F44x0x600000022
  repeat' (first | with_reducible apply cond_b | (with_reducible apply bnd_b; intro _) | rfl)
noncomputable def J44x0x600000022 (L : List Lf) (k0 : LD → Option R) (k1 : Bool × LD → Option R) : Option R := F44x0x600000022 N (lb L 6) (ll L 7) (ll L 9) (ls L 10) (li L 11) (li L 12) (ll L 14) (ll L 16) (lb L 17) (ll L 18) k0 k1
noncomputable def sh44x0x600000022 : Sh := { tmps := [(7, .c (.sl 70)), (8, .c (.p 8 0)), (15, .c (.sl 29)), (16, .c (.i .i64)), (17, .c (.i .i64)), (23, .c (.f 92 [(24000000002, 0), (24000000003, 0)]))], mem := [(8, .box ([.o 50008000])), (50008000, .row 29 true), (24000000002, .box ([.sl 70])), (24000000003, .box (.s :: [.i .i64, .i .i64, .sl 48, .sl 111, .sl 9]))] }
noncomputable def K44x0x600000022w0 (L : List Lf) (p : LD) : Ex × St := (.normal, mg (ofSh sh44x0x600000022 L) [7, 8, 15, 16, 17] [] [8, 1000068000000033] [(8, .box [.o 1000068000000033]), (1000068000000033, .row 29 true false p)])
noncomputable def K44x0x600000022w1 (L : List Lf) (p : Bool × LD) : Ex × St := (.normal, mg (ofSh sh44x0x600000022 L) [7, 8, 15, 16, 17] [] [8, 1000000050002005] [(8, .box [.o 1000000050002005]), (1000000050002005, .row 29 true p.1 p.2)])
noncomputable def A44x0x600000022 (L : List Lf) : List (Bool × (Ex × St)) := bnd (J44x0x600000022 N L (fun p => some (.inl p)) (fun p => some (.inr p))) fun q => [((inlB q), K44x0x600000022w0 L (inlV q)), ((inrQ q).isSome, K44x0x600000022w1 L ((inrQ q).getD default))]
theorem raw44x0x600000022 (L : List Lf) : pcR Try.prog y44x0z600000022 (spSh sh92x0 (A92x0 N)) 92 3 0 44 600000022 sh44x0x600000022 L [17, 16, 15, 7, 8] [1000068000000033, 8, 1000000050002005] = J44x0x600000022 N L (fun p => some (K44x0x600000022w0 L p)) (fun p => some (K44x0x600000022w1 L p)) := by kernel_rfl
noncomputable def h44x0s1 : Sg Try.prog 0 44 :=
  (h44x0s0 N).rf (g := .tmp 23) (A44x0x600000022 N) (ok92x0 N) (fun L x hx => (raw44x0x600000022 N L).trans ((bind44x0x600000022 N ..).trans ((altS alt1) x hx))) (by kernel_rfl)
noncomputable def S44x0x12 (w1 w3 : LD) (w4 : Int) (w5 : Int) (w6 : Bool) (w7 : LD) (kr : Int → Bool → LD → Option R) (k0 : Bool × LD → Option R) : Option R :=
  bif (decide (w5 < w4)) then
    bif (inB w5 w3.length) then
      bnd (G44x0x600000022 N w6 w7 w1 ((w3.getD w5.toNat (.i 0)).cell 0).toS ((w3.getD w5.toNat (.i 0)).cell 1).toI ((w3.getD w5.toNat (.i 0)).cell 2).toI ((w3.getD w5.toNat (.i 0)).cell 3).items ((w3.getD w5.toNat (.i 0)).cell 4).items ((w3.getD w5.toNat (.i 0)).cell 5).isNil ((w3.getD w5.toNat (.i 0)).cell 5).items) fun y0 =>
      bif (inlB y0) then
        kr (IntKind.wrap .i64 (w5 + 1)) false (inlV y0)
      else
        bif (inrQ y0).isSome then
          kr (IntKind.wrap .i64 (w5 + 1)) ((inrQ y0).getD default).1 ((inrQ y0).getD default).2
        else
          none
    else
      none
  else
    k0 (w6, w7)
noncomputable def L44x0x12 (N : Nat) {R : Type} (w1 w3 : LD) (w4 : Int) : Nat → Int → Bool → LD → (Bool × LD → Option R) → Option R
  | 0, _, _, _, _ => none
  | m + 1, w5, w6, w7, k0 => S44x0x12 N w1 w3 w4 w5 w6 w7 (fun w5 w6 w7 => L44x0x12 N w1 w3 w4 m w5 w6 w7 k0) k0
noncomputable def G44x0x12 (w1 w3 : LD) (w4 : Int) (w5 : Int) (w6 : Bool) (w7 : LD) : Option (Bool × LD) := L44x0x12 N (R := (Bool × LD)) w1 w3 w4 N w5 w6 w7 (fun p => some p)
noncomputable def J44x0x12 (L x : List Lf) (kr : List Lf → Option R) (k0 : Bool × LD → Option R) : Option R := S44x0x12 N (ll L 1) (ll L 3) (li L 4) (li x 0) (lb x 1) (ll x 2) (fun w5 w6 w7 => kr [.i w5, .b w6, .l w7]) k0
theorem sb44x0x12 (L x : List Lf) (kr : List Lf → Option R) (k0 : Bool × LD → Option R) : J44x0x12 N L x kr k0 = (J44x0x12 N L x (fun y => some (.inl y)) (fun p => some (.inr p))).bind (sumE kr k0) := by
  unfold J44x0x12 S44x0x12
  repeat' (first | with_reducible apply cond_b | (with_reducible apply bnd_b; intro _) | rfl)
noncomputable def Q44x0x12 (L : List Lf) (m : Nat) (x : List Lf) : Option (Bool × LD) := L44x0x12 N (R := (Bool × LD)) (ll L 1) (ll L 3) (li L 4) m (li x 0) (lb x 1) (ll x 2) (fun p => some p)
noncomputable def sh44x0x12 : Sh := { tmps := [(7, .c (.sl 70)), (8, .c (.p 8 0)), (15, .c (.sl 29)), (16, .c (.i .i64)), (17, .c (.i .i64))], mem := [(8, .box ([.o 50008000])), (50008000, .row 29 true)] }
noncomputable def K44x0x12w0 (L : List Lf) (p : Bool × LD) : Ex × St := ((.exit 0), mg (ofSh sh44x0x12 L) [8] [] [8, 50008000] [(50008000, .row 29 true p.1 p.2)])
noncomputable def A44x0x12 (L : List Lf) : List (Bool × (Ex × St)) := bnd (Q44x0x12 N L N (pk sh44x0x12 [5, 6, 7] L)) fun q => [(q.isSome, K44x0x12w0 L (q.getD default))]
theorem step44x0x12 (m : Nat) (kn : St → Option (Ex × St)) (L x : List Lf) : lpB Try.prog (T94x0 N) (h44x0s1 N).h 0 44 12 sh44x0x12 [5, 6, 7] [6, 8] [50008000, 8] (m + 100) kn L x = J44x0x12 N L x (fun y => kn (ofSh sh44x0x12 (mx sh44x0x12 [5, 6, 7] L y))) (fun p => some (K44x0x12w0 L p)) := by kernel_rfl
theorem ql44x0x12 (L : List Lf) (m : Nat) (x : List Lf) : Q44x0x12 N L (m + 1) x = J44x0x12 N L x (Q44x0x12 N L m) some := by kernel_rfl
noncomputable def h44x0s2 : Sg Try.prog 0 44 :=
  (h44x0s1 N).lp (A44x0x12 N) N progOk (T94x0_ok N) (fun m kn L x => (step44x0x12 N m kn L x).trans (sb44x0x12 N L x _ _)) (fun L m x => (ql44x0x12 N L m x).trans (sb44x0x12 N L x (Q44x0x12 N L m) some)) fun L x hx => alt1 x hx
noncomputable def F44x0 (v1 : LD) (v2 : Int) (v4 : LD) (k0 : Bool × LD → Option R) : Option R :=
  bnd (G41x0 N v1 v2) fun y0 =>
  bif y0.isSome then
    bnd (G44x0x12 N (y0.getD default).2 v4 (v4.length : Int) 0 true []) fun y1 =>
    bif y1.isSome then
      k0 (y1.getD default)
    else
      none
  else
    none
noncomputable def G44x0 (v1 : LD) (v2 : Int) (v4 : LD) : Option (Bool × LD) := F44x0 N v1 v2 v4 (fun p => some p)
theorem bind44x0 (v1 : LD) (v2 : Int) (v4 : LD) (k0 : Bool × LD → Option R) : F44x0 N v1 v2 v4 k0 = (G44x0 N v1 v2 v4).bind k0 := by
  unfold G44x0 F44x0
  repeat' (first | with_reducible apply cond_b | (with_reducible apply bnd_b; intro _) | rfl)
noncomputable def sh44x0 : Sh := { tmps := [(0, .g ([.sl 70])), (1, .c (.i .i64)), (2, .c (.sl 29))], mem := [] }
noncomputable def A44x0 (L : List Lf) : List (Bool × Res) := bnd (F44x0 N (ll L 1) (li L 2) (ll L 4) (fun p => some p)) fun q => [(q.isSome, ([.c (.sl 29 (q.getD default).1 (q.getD default).2)], []))]
theorem raw44x0 (L : List Lf) : bd Try.prog (T94x0 N) (h44x0s2 N).h 44 sh44x0 L = F44x0 N (ll L 1) (li L 2) (ll L 4) (fun p => some ([.c (.sl 29 p.1 p.2)], [])) := by kernel_rfl
theorem ok44x0 : FnOk Try.prog 44 sh44x0 (A44x0 N) :=
  (h44x0s2 N).fn progOk (T94x0_ok N) fun L x hx => ((raw44x0 N L).trans ((bind44x0 N ..).trans (alt1 x hx)))
noncomputable def T44x0 : Oracle := ext 44 (spSh sh44x0 (A44x0 N)) (T94x0 N)
theorem T44x0_ok : OracleOk Try.prog (T44x0 N) := FnOk.to (ok44x0 N) (T94x0_ok N)
noncomputable def rg13x0 : List (Nat × List Nat) := [(0, [0, 2, 1]), (1, [3, 1, 5]), (2, [8, 3, 1, 5]), (3, [8]), (4, [3, 1, 5])]
noncomputable def hd13x0 : Hints := []
noncomputable def h13x0s0 (N : Nat) : Sg Try.prog 0 13 := .start hd13x0 rg13x0
noncomputable def F13x0 (v1 : LD) (v2 : Int) (v3 : LB) (v4 v5 : Int) (v6 : Bool) (v7 : LD) (v8 : Bool) (v9 : LD) (v10 : Bool) (v11 : LD) (k0 : Bool × LD × Int → Option R) : Option R :=
  bnd (G39x0 N v1 v2 [(.a [(.s v3), (.i v4), (.i v5), (.l v6 v7), (.l v8 v9), (.l v10 v11)])]) fun y0 =>
  bif y0.isSome then
    bif ((y0.getD default) != 0) then
      k0 (true, [], (y0.getD default))
    else
      bnd (G44x0 N v1 v2 [(.a [(.s v3), (.i v4), (.i v5), (.l v6 v7), (.l v8 v9), (.l v10 v11)])]) fun y1 =>
      bif y1.isSome then
        k0 ((y1.getD default).1, (y1.getD default).2, 0)
      else
        none
  else
    none
noncomputable def G13x0 (v1 : LD) (v2 : Int) (v3 : LB) (v4 v5 : Int) (v6 : Bool) (v7 : LD) (v8 : Bool) (v9 : LD) (v10 : Bool) (v11 : LD) : Option (Bool × LD × Int) := F13x0 N v1 v2 v3 v4 v5 v6 v7 v8 v9 v10 v11 (fun p => some p)
theorem bind13x0 (v1 : LD) (v2 : Int) (v3 : LB) (v4 v5 : Int) (v6 : Bool) (v7 : LD) (v8 : Bool) (v9 : LD) (v10 : Bool) (v11 : LD) (k0 : Bool × LD × Int → Option R) : F13x0 N v1 v2 v3 v4 v5 v6 v7 v8 v9 v10 v11 k0 = (G13x0 N v1 v2 v3 v4 v5 v6 v7 v8 v9 v10 v11).bind k0 := by
  unfold G13x0 F13x0
  repeat' (first | with_reducible apply cond_b | (with_reducible apply bnd_b; intro _) | rfl)
noncomputable def J13x0 (L : List Lf) (k0 : Bool × LD × Int → Option R) : Option R := F13x0 N (ll L 1) (li L 2) (ls L 3) (li L 4) (li L 5) (lb L 6) (ll L 7) (lb L 8) (ll L 9) (lb L 10) (ll L 11) k0
noncomputable def sh13x0 : Sh := { tmps := [(0, .g ([.sl 70])), (1, .c (.i .i64)), (2, .g (.s :: [.i .i64, .i .i64, .sl 48, .sl 111, .sl 9]))], mem := [] }
noncomputable def A13x0 (L : List Lf) : List (Bool × Res) := bnd (J13x0 N L (fun p => some p)) fun q => [(q.isSome, ([.c (.sl 29 (q.getD default).1 (q.getD default).2.1), .c (.i .i64 (q.getD default).2.2)], []))]
theorem raw13x0 (L : List Lf) : bd Try.prog (T44x0 N) (h13x0s0 N).h 13 sh13x0 L = J13x0 N L (fun p => some ([.c (.sl 29 p.1 p.2.1), .c (.i .i64 p.2.2)], [])) := by kernel_rfl
theorem ok13x0 : FnOk Try.prog 13 sh13x0 (A13x0 N) :=
  (h13x0s0 N).fn progOk (T44x0_ok N) fun L x hx => ((raw13x0 N L).trans ((bind13x0 N ..).trans (alt1 x hx)))
noncomputable def T13x0 : Oracle := ext 13 (spSh sh13x0 (A13x0 N)) (T44x0 N)
theorem T13x0_ok : OracleOk Try.prog (T13x0 N) := FnOk.to (ok13x0 N) (T44x0_ok N)
noncomputable def rg12x0 : List (Nat × List Nat) := [(0, []), (1, []), (2, [1]), (3, [1, 2]), (4, [4, 3])]
noncomputable def hd12x0 : Hints := []
noncomputable def h12x0s0 (N : Nat) : Sg Try.prog 0 12 := .start hd12x0 rg12x0
noncomputable def F12x0 (k0 : Bool → Option R) : Option R :=
  bnd (G13x0 N [(.a [(.i 2), (.i 1), (.i 0), (.i 0), (.i 10), (.i 0), (.i 0), (.i 0), (.s ([] : List UInt8))])] 2 ([109] : List UInt8) 1 0 false [(.a [(.i 0), (.i 0), (.i 0), (.i 0), (.i (-1)), (.i (-1)), (.i (-1))]), (.a [(.i 10), (.i 100), (.i 0), (.i 0), (.i (-1)), (.i (-1)), (.i (-1))])] true [] true []) fun y0 =>
  bif y0.isSome then
    bnd (bif ((y0.getD default).2.2 == 0) then (((y0.getD default).2.1.length : Int) == 1) else false) fun y1 =>
    bif (bif (inB 0 (y0.getD default).2.1.length) then true else (!(y1 == true))) then
      bnd (bif y1 then ((((y0.getD default).2.1.getD 0 (.i 0)).cell 2).toI == 10) else false) fun y2 =>
      bif (bif (inB 0 (y0.getD default).2.1.length) then true else (!(y2 == true))) then
        bnd (bif y2 then (((((y0.getD default).2.1.getD 0 (.i 0)).cell 3).items.length : Int) == 1) else false) fun y3 =>
        bif (bif (inB 0 (y0.getD default).2.1.length) then true else (!(y3 == true))) then
          bif (bif (inB 0 (((y0.getD default).2.1.getD 0 (.i 0)).cell 3).items.length) then true else (!(y3 == true))) then
            bnd (bif y3 then ((((((y0.getD default).2.1.getD 0 (.i 0)).cell 3).items.getD 0 (.i 0)).cell 1).toI == 100) else false) fun y4 =>
            k0 y4
          else
            none
        else
          none
      else
        none
    else
      none
  else
    none
noncomputable def G12x0 : Option (Bool) := F12x0 N (fun p => some p)
theorem bind12x0 (k0 : Bool → Option R) : F12x0 N k0 = (G12x0 N).bind k0 := by
  unfold G12x0 F12x0
  repeat' (first | with_reducible apply cond_b | (with_reducible apply bnd_b; intro _) | rfl)
noncomputable def sh12x0 : Sh := { tmps := [], mem := [] }
noncomputable def A12x0 (L : List Lf) : List (Bool × Res) := bnd (F12x0 N (fun p => some p)) fun q => [(q.isSome, ([.c (.b (q.getD default))], []))]
theorem raw12x0 (L : List Lf) : bd Try.prog (T13x0 N) (h12x0s0 N).h 12 sh12x0 L = F12x0 N (fun p => some ([.c (.b p)], [])) := by kernel_rfl
theorem ok12x0 : FnOk Try.prog 12 sh12x0 (A12x0 N) :=
  (h12x0s0 N).fn progOk (T13x0_ok N) fun L x hx => ((raw12x0 N L).trans ((bind12x0 N ..).trans (alt1 x hx)))
noncomputable def T12x0 : Oracle := ext 12 (spSh sh12x0 (A12x0 N)) (T13x0 N)
theorem T12x0_ok : OracleOk Try.prog (T12x0 N) := FnOk.to (ok12x0 N) (T13x0_ok N)
noncomputable def rg57x0 : List (Nat × List Nat) := [(0, [0, 1]), (1, [0, 1]), (2, []), (3, [0, 1]), (4, [13, 12, 0, 1]), (5, [13, 0, 1, 12]), (6, [0, 5, 1, 13, 12]), (7, []), (8, [13, 12, 0, 1]), (9, [])]
noncomputable def hd57x0 : Hints := [(12, [13, 12, 0, 1], [], [])]
noncomputable def h57x0s0 (N : Nat) : Sg Try.prog 0 57 := .start hd57x0 rg57x0
noncomputable def S57x0x12 (N : Nat) (w1 w3 : LD) (w4 : Int) (w5 : Int) (kr : Int → Option R) (k0 : Unit → Option R) (k1 : Unit → Option R) : Option R :=
  bif (decide (w5 < w4)) then
    bif (inB w5 w1.length) then
      bif (inB w5 w3.length) then
        bnd (!((((w1.getD w5.toNat (.i 0)).cell 0).toI == ((w3.getD w5.toNat (.i 0)).cell 0).toI) && ((((w1.getD w5.toNat (.i 0)).cell 1).toI == ((w3.getD w5.toNat (.i 0)).cell 1).toI) && ((((w1.getD w5.toNat (.i 0)).cell 2).toI == ((w3.getD w5.toNat (.i 0)).cell 2).toI) && ((((w1.getD w5.toNat (.i 0)).cell 3).toI == ((w3.getD w5.toNat (.i 0)).cell 3).toI) && ((((w1.getD w5.toNat (.i 0)).cell 4).toI == ((w3.getD w5.toNat (.i 0)).cell 4).toI) && (((((w1.getD w5.toNat (.i 0)).cell 5).toI == ((w3.getD w5.toNat (.i 0)).cell 5).toI) && ((((w1.getD w5.toNat (.i 0)).cell 6).toI == ((w3.getD w5.toNat (.i 0)).cell 6).toI) && true)) && ((((w1.getD w5.toNat (.i 0)).cell 7).toI == ((w3.getD w5.toNat (.i 0)).cell 7).toI) && ((((w1.getD w5.toNat (.i 0)).cell 8).toS == ((w3.getD w5.toNat (.i 0)).cell 8).toS) && true))))))))) fun y0 =>
        bif y0 then
          k0 ()
        else
          kr (IntKind.wrap .i64 (w5 + 1))
      else
        none
    else
      none
  else
    k1 ()
noncomputable def L57x0x12 (N : Nat) {R : Type} (w1 w3 : LD) (w4 : Int) : Nat → Int → (Unit → Option R) → (Unit → Option R) → Option R
  | 0, _, _, _ => none
  | m + 1, w5, k0, k1 => S57x0x12 N w1 w3 w4 w5 (fun w5 => L57x0x12 N w1 w3 w4 m w5 k0 k1) k0 k1
noncomputable def G57x0x12 (w1 w3 : LD) (w4 : Int) (w5 : Int) : Option (Sum (Unit) (Unit)) := L57x0x12 N (R := (Sum (Unit) (Unit))) w1 w3 w4 N w5 (fun p => some (.inl p)) (fun p => some (.inr p))
noncomputable def J57x0x12 (L x : List Lf) (kr : List Lf → Option R) (k0 : Unit → Option R) (k1 : Unit → Option R) : Option R := S57x0x12 N (ll L 1) (ll L 3) (li L 4) (li x 0) (fun w5 => kr [.i w5]) k0 k1
theorem sb57x0x12 (L x : List Lf) (kr : List Lf → Option R) (k0 : Unit → Option R) (k1 : Unit → Option R) : J57x0x12 N L x kr k0 k1 = (J57x0x12 N L x (fun y => some (.inl y)) (fun p => some (.inr (.inl p))) (fun p => some (.inr (.inr p)))).bind (sumE kr (sumE k0 k1)) := by
  unfold J57x0x12 S57x0x12
  repeat' (first | with_reducible apply cond_b | (with_reducible apply bnd_b; intro _) | rfl)
noncomputable def Q57x0x12 (L : List Lf) (m : Nat) (x : List Lf) : Option (Sum (Unit) (Unit)) := L57x0x12 N (R := (Sum (Unit) (Unit))) (ll L 1) (ll L 3) (li L 4) m (li x 0) (fun p => some (.inl p)) (fun p => some (.inr p))
noncomputable def sh57x0x12 : Sh := { tmps := [(0, .c (.sl 70)), (1, .c (.sl 70)), (12, .c (.i .i64)), (13, .c (.i .i64))], mem := [] }
noncomputable def A57x0x12 (L : List Lf) : List (Bool × (Ex × St)) := bnd (Q57x0x12 N L N (pk sh57x0x12 [5] L)) fun q => [((inlB q), (.ret, ⟨[(4, .c (.b false))], []⟩)), ((inrQ q).isSome, ((.exit 0), ⟨[], []⟩))]
theorem step57x0x12 (m : Nat) (kn : St → Option (Ex × St)) (L x : List Lf) : lpB Try.prog (T12x0 N) (h57x0s0 N).h 0 57 12 sh57x0x12 [5] [4] [] (m + 100) kn L x = J57x0x12 N L x (fun y => kn (ofSh sh57x0x12 (mx sh57x0x12 [5] L y))) (fun _ => some (.ret, ⟨[(4, .c (.b false))], []⟩)) (fun _ => some ((.exit 0), ⟨[], []⟩)) := by kernel_rfl
theorem ql57x0x12 (L : List Lf) (m : Nat) (x : List Lf) : Q57x0x12 N L (m + 1) x = J57x0x12 N L x (Q57x0x12 N L m) (fun p => some (.inl p)) (fun p => some (.inr p)) := by kernel_rfl
noncomputable def h57x0s1 : Sg Try.prog 0 57 :=
  (h57x0s0 N).lp (A57x0x12 N) N progOk (T12x0_ok N) (fun m kn L x => (step57x0x12 N m kn L x).trans (sb57x0x12 N L x _ _ _)) (fun L m x => (ql57x0x12 N L m x).trans (sb57x0x12 N L x (Q57x0x12 N L m) (fun p => some (.inl p)) (fun p => some (.inr p)))) fun L x hx => (altS alt1) x hx
noncomputable def F57x0 (v1 v3 : LD) (k0 : Bool → Option R) : Option R :=
  bif ((v1.length : Int) != (v3.length : Int)) then
    k0 false
  else
    bnd (G57x0x12 N v1 v3 (v1.length : Int) 0) fun y0 =>
    bif (inlB y0) then
      k0 false
    else
      bif (inrQ y0).isSome then
        k0 true
      else
        none
noncomputable def G57x0 (v1 v3 : LD) : Option (Bool) := F57x0 N v1 v3 (fun p => some p)
theorem bind57x0 (v1 v3 : LD) (k0 : Bool → Option R) : F57x0 N v1 v3 k0 = (G57x0 N v1 v3).bind k0 := by
  unfold G57x0 F57x0
  repeat' (first | with_reducible apply cond_b | (with_reducible apply bnd_b; intro _) | rfl)
noncomputable def sh57x0 : Sh := { tmps := [(0, .c (.sl 70)), (1, .c (.sl 70))], mem := [] }
noncomputable def A57x0 (L : List Lf) : List (Bool × Res) := bnd (F57x0 N (ll L 1) (ll L 3) (fun p => some p)) fun q => [(q.isSome, ([.c (.b (q.getD default))], []))]
theorem raw57x0 (L : List Lf) : bd Try.prog (T12x0 N) (h57x0s1 N).h 57 sh57x0 L = F57x0 N (ll L 1) (ll L 3) (fun p => some ([.c (.b p)], [])) := by kernel_rfl
theorem ok57x0 : FnOk Try.prog 57 sh57x0 (A57x0 N) :=
  (h57x0s1 N).fn progOk (T12x0_ok N) fun L x hx => ((raw57x0 N L).trans ((bind57x0 N ..).trans (alt1 x hx)))
noncomputable def T57x0 : Oracle := ext 57 (spSh sh57x0 (A57x0 N)) (T12x0 N)
theorem T57x0_ok : OracleOk Try.prog (T57x0 N) := FnOk.to (ok57x0 N) (T12x0_ok N)
noncomputable def rg29x0 : List (Nat × List Nat) := [(0, [0, 1]), (1, [2, 3])]
noncomputable def hd29x0 : Hints := []
noncomputable def h29x0s0 (N : Nat) : Sg Try.prog 0 29 := .start hd29x0 rg29x0
noncomputable def F29x0 (v1 v3 : LD) (k0 : Bool → Option R) : Option R :=
  bnd (G57x0 N v1 v3) fun y0 =>
  bif y0.isSome then
    k0 (y0.getD default)
  else
    none
noncomputable def G29x0 (v1 v3 : LD) : Option (Bool) := F29x0 N v1 v3 (fun p => some p)
theorem bind29x0 (v1 v3 : LD) (k0 : Bool → Option R) : F29x0 N v1 v3 k0 = (G29x0 N v1 v3).bind k0 := by
  unfold G29x0 F29x0
  repeat' (first | with_reducible apply cond_b | (with_reducible apply bnd_b; intro _) | rfl)
noncomputable def sh29x0 : Sh := { tmps := [(0, .g ([.sl 70])), (1, .g ([.sl 70]))], mem := [] }
noncomputable def A29x0 (L : List Lf) : List (Bool × Res) := bnd (F29x0 N (ll L 1) (ll L 3) (fun p => some p)) fun q => [(q.isSome, ([.c (.b (q.getD default))], []))]
theorem raw29x0 (L : List Lf) : bd Try.prog (T57x0 N) (h29x0s0 N).h 29 sh29x0 L = F29x0 N (ll L 1) (ll L 3) (fun p => some ([.c (.b p)], [])) := by kernel_rfl
theorem ok29x0 : FnOk Try.prog 29 sh29x0 (A29x0 N) :=
  (h29x0s0 N).fn progOk (T57x0_ok N) fun L x hx => ((raw29x0 N L).trans ((bind29x0 N ..).trans (alt1 x hx)))
noncomputable def T29x0 : Oracle := ext 29 (spSh sh29x0 (A29x0 N)) (T57x0 N)
theorem T29x0_ok : OracleOk Try.prog (T29x0 N) := FnOk.to (ok29x0 N) (T57x0_ok N)
noncomputable def rg51x0 : List (Nat × List Nat) := [(0, [0, 1]), (1, [2, 3]), (2, []), (3, [2, 3]), (4, [57, 56, 2, 3]), (5, [57, 2, 3, 56]), (6, [2, 5, 3, 57, 56]), (7, []), (8, [57, 56, 2, 3]), (9, [2, 3]), (10, [75, 74, 2, 3]), (11, [75, 2, 3, 74]), (12, [2, 6, 3, 75, 74]), (13, []), (14, [75, 74, 2, 3]), (15, [2, 3]), (16, [93, 92, 2, 3]), (17, [93, 2, 3, 92]), (18, [2, 7, 3, 93, 92]), (19, []), (20, [93, 92, 2, 3]), (21, [])]
noncomputable def hd51x0 : Hints := [(12, [57, 56, 2, 3], [3, 2], []), (30, [75, 74, 2, 3], [3, 2], []), (48, [93, 92, 2, 3], [3, 2], [])]
noncomputable def h51x0s0 (N : Nat) : Sg Try.prog 0 51 := .start hd51x0 rg51x0
noncomputable def S51x0x12 (N : Nat) (w0 : Int) (w6 w15 : LD) (w1 : Int) (kr : Int → Option R) (k0 : Unit → Option R) (k1 : Unit → Option R) : Option R :=
  bif (decide (w1 < w0)) then
    bif (inB w1 w6.length) then
      bif (inB w1 w15.length) then
        bnd (!((((w6.getD w1.toNat (.i 0)).cell 0).toI == ((w15.getD w1.toNat (.i 0)).cell 0).toI) && ((((w6.getD w1.toNat (.i 0)).cell 1).toI == ((w15.getD w1.toNat (.i 0)).cell 1).toI) && ((((w6.getD w1.toNat (.i 0)).cell 2).toI == ((w15.getD w1.toNat (.i 0)).cell 2).toI) && ((((w6.getD w1.toNat (.i 0)).cell 3).toI == ((w15.getD w1.toNat (.i 0)).cell 3).toI) && ((((w6.getD w1.toNat (.i 0)).cell 4).toI == ((w15.getD w1.toNat (.i 0)).cell 4).toI) && ((((w6.getD w1.toNat (.i 0)).cell 5).toI == ((w15.getD w1.toNat (.i 0)).cell 5).toI) && ((((w6.getD w1.toNat (.i 0)).cell 6).toI == ((w15.getD w1.toNat (.i 0)).cell 6).toI) && true)))))))) fun y0 =>
        bif y0 then
          k0 ()
        else
          kr (IntKind.wrap .i64 (w1 + 1))
      else
        none
    else
      none
  else
    k1 ()
noncomputable def L51x0x12 (N : Nat) {R : Type} (w0 : Int) (w6 w15 : LD) : Nat → Int → (Unit → Option R) → (Unit → Option R) → Option R
  | 0, _, _, _ => none
  | m + 1, w1, k0, k1 => S51x0x12 N w0 w6 w15 w1 (fun w1 => L51x0x12 N w0 w6 w15 m w1 k0 k1) k0 k1
noncomputable def G51x0x12 (w0 : Int) (w6 w15 : LD) (w1 : Int) : Option (Sum (Unit) (Unit)) := L51x0x12 N (R := (Sum (Unit) (Unit))) w0 w6 w15 N w1 (fun p => some (.inl p)) (fun p => some (.inr p))
noncomputable def J51x0x12 (L x : List Lf) (kr : List Lf → Option R) (k0 : Unit → Option R) (k1 : Unit → Option R) : Option R := S51x0x12 N (li L 0) (ll L 6) (ll L 15) (li x 0) (fun w1 => kr [.i w1]) k0 k1
theorem sb51x0x12 (L x : List Lf) (kr : List Lf → Option R) (k0 : Unit → Option R) (k1 : Unit → Option R) : J51x0x12 N L x kr k0 k1 = (J51x0x12 N L x (fun y => some (.inl y)) (fun p => some (.inr (.inl p))) (fun p => some (.inr (.inr p)))).bind (sumE kr (sumE k0 k1)) := by
  unfold J51x0x12 S51x0x12
  repeat' (first | with_reducible apply cond_b | (with_reducible apply bnd_b; intro _) | rfl)
noncomputable def Q51x0x12 (L : List Lf) (m : Nat) (x : List Lf) : Option (Sum (Unit) (Unit)) := L51x0x12 N (R := (Sum (Unit) (Unit))) (li L 0) (ll L 6) (ll L 15) m (li x 0) (fun p => some (.inl p)) (fun p => some (.inr p))
noncomputable def sh51x0x12 : Sh := { tmps := [(2, .c (.p 2 0)), (3, .c (.p 3 0)), (56, .c (.i .i64)), (57, .c (.i .i64))], mem := [(2, .box (.s :: [.i .i64, .i .i64, .sl 48, .sl 111, .sl 9])), (3, .box (.s :: [.i .i64, .i .i64, .sl 48, .sl 111, .sl 9]))] }
noncomputable def K51x0x12w0 (L : List Lf) (_ : Unit) : Ex × St := (.ret, mg (ofSh sh51x0x12 L) [4] [(4, .c (.b false))] [2, 3] [])
noncomputable def A51x0x12 (L : List Lf) : List (Bool × (Ex × St)) := bnd (Q51x0x12 N L N (pk sh51x0x12 [1] L)) fun q => [((inlB q), K51x0x12w0 L ()), ((inrQ q).isSome, ((.exit 0), mg (ofSh sh51x0x12 L) [2, 3] [] [2, 3] []))]
theorem step51x0x12 (m : Nat) (kn : St → Option (Ex × St)) (L x : List Lf) : lpB Try.prog (T29x0 N) (h51x0s0 N).h 0 51 12 sh51x0x12 [1] [4, 2, 3] [3, 2] (m + 100) kn L x = J51x0x12 N L x (fun y => kn (ofSh sh51x0x12 (mx sh51x0x12 [1] L y))) (fun _ => some (K51x0x12w0 L ())) (fun _ => some ((.exit 0), mg (ofSh sh51x0x12 L) [2, 3] [] [2, 3] [])) := by kernel_rfl
theorem ql51x0x12 (L : List Lf) (m : Nat) (x : List Lf) : Q51x0x12 N L (m + 1) x = J51x0x12 N L x (Q51x0x12 N L m) (fun p => some (.inl p)) (fun p => some (.inr p)) := by kernel_rfl
noncomputable def h51x0s1 : Sg Try.prog 0 51 :=
  (h51x0s0 N).lp (A51x0x12 N) N progOk (T29x0_ok N) (fun m kn L x => (step51x0x12 N m kn L x).trans (sb51x0x12 N L x _ _ _)) (fun L m x => (ql51x0x12 N L m x).trans (sb51x0x12 N L x (Q51x0x12 N L m) (fun p => some (.inl p)) (fun p => some (.inr p)))) fun L x hx => (altS alt1) x hx
noncomputable def S51x0x30 (N : Nat) (w0 : Int) (w8 w17 : LD) (w1 : Int) (kr : Int → Option R) (k0 : Unit → Option R) (k1 : Unit → Option R) : Option R :=
  bif (decide (w1 < w0)) then
    bif (inB w1 w8.length) then
      bif (inB w1 w17.length) then
        bnd (!((((w8.getD w1.toNat (.i 0)).cell 0).toI == ((w17.getD w1.toNat (.i 0)).cell 0).toI) && ((((w8.getD w1.toNat (.i 0)).cell 1).toI == ((w17.getD w1.toNat (.i 0)).cell 1).toI) && ((((w8.getD w1.toNat (.i 0)).cell 2).toS == ((w17.getD w1.toNat (.i 0)).cell 2).toS) && true)))) fun y0 =>
        bif y0 then
          k0 ()
        else
          kr (IntKind.wrap .i64 (w1 + 1))
      else
        none
    else
      none
  else
    k1 ()
noncomputable def L51x0x30 (N : Nat) {R : Type} (w0 : Int) (w8 w17 : LD) : Nat → Int → (Unit → Option R) → (Unit → Option R) → Option R
  | 0, _, _, _ => none
  | m + 1, w1, k0, k1 => S51x0x30 N w0 w8 w17 w1 (fun w1 => L51x0x30 N w0 w8 w17 m w1 k0 k1) k0 k1
noncomputable def G51x0x30 (w0 : Int) (w8 w17 : LD) (w1 : Int) : Option (Sum (Unit) (Unit)) := L51x0x30 N (R := (Sum (Unit) (Unit))) w0 w8 w17 N w1 (fun p => some (.inl p)) (fun p => some (.inr p))
noncomputable def J51x0x30 (L x : List Lf) (kr : List Lf → Option R) (k0 : Unit → Option R) (k1 : Unit → Option R) : Option R := S51x0x30 N (li L 0) (ll L 8) (ll L 17) (li x 0) (fun w1 => kr [.i w1]) k0 k1
theorem sb51x0x30 (L x : List Lf) (kr : List Lf → Option R) (k0 : Unit → Option R) (k1 : Unit → Option R) : J51x0x30 N L x kr k0 k1 = (J51x0x30 N L x (fun y => some (.inl y)) (fun p => some (.inr (.inl p))) (fun p => some (.inr (.inr p)))).bind (sumE kr (sumE k0 k1)) := by
  unfold J51x0x30 S51x0x30
  repeat' (first | with_reducible apply cond_b | (with_reducible apply bnd_b; intro _) | rfl)
noncomputable def Q51x0x30 (L : List Lf) (m : Nat) (x : List Lf) : Option (Sum (Unit) (Unit)) := L51x0x30 N (R := (Sum (Unit) (Unit))) (li L 0) (ll L 8) (ll L 17) m (li x 0) (fun p => some (.inl p)) (fun p => some (.inr p))
noncomputable def sh51x0x30 : Sh := { tmps := [(2, .c (.p 2 0)), (3, .c (.p 3 0)), (74, .c (.i .i64)), (75, .c (.i .i64))], mem := [(2, .box (.s :: [.i .i64, .i .i64, .sl 48, .sl 111, .sl 9])), (3, .box (.s :: [.i .i64, .i .i64, .sl 48, .sl 111, .sl 9]))] }
noncomputable def K51x0x30w0 (L : List Lf) (_ : Unit) : Ex × St := (.ret, mg (ofSh sh51x0x30 L) [4] [(4, .c (.b false))] [2, 3] [])
noncomputable def A51x0x30 (L : List Lf) : List (Bool × (Ex × St)) := bnd (Q51x0x30 N L N (pk sh51x0x30 [1] L)) fun q => [((inlB q), K51x0x30w0 L ()), ((inrQ q).isSome, ((.exit 2), mg (ofSh sh51x0x30 L) [2, 3] [] [2, 3] []))]
theorem step51x0x30 (m : Nat) (kn : St → Option (Ex × St)) (L x : List Lf) : lpB Try.prog (T29x0 N) (h51x0s1 N).h 0 51 30 sh51x0x30 [1] [4, 2, 3] [3, 2] (m + 100) kn L x = J51x0x30 N L x (fun y => kn (ofSh sh51x0x30 (mx sh51x0x30 [1] L y))) (fun _ => some (K51x0x30w0 L ())) (fun _ => some ((.exit 2), mg (ofSh sh51x0x30 L) [2, 3] [] [2, 3] [])) := by kernel_rfl
theorem ql51x0x30 (L : List Lf) (m : Nat) (x : List Lf) : Q51x0x30 N L (m + 1) x = J51x0x30 N L x (Q51x0x30 N L m) (fun p => some (.inl p)) (fun p => some (.inr p)) := by kernel_rfl
noncomputable def h51x0s2 : Sg Try.prog 0 51 :=
  (h51x0s1 N).lp (A51x0x30 N) N progOk (T29x0_ok N) (fun m kn L x => (step51x0x30 N m kn L x).trans (sb51x0x30 N L x _ _ _)) (fun L m x => (ql51x0x30 N L m x).trans (sb51x0x30 N L x (Q51x0x30 N L m) (fun p => some (.inl p)) (fun p => some (.inr p)))) fun L x hx => (altS alt1) x hx
noncomputable def S51x0x48 (N : Nat) (w0 : Int) (w10 w19 : LD) (w1 : Int) (kr : Int → Option R) (k0 : Unit → Option R) (k1 : Unit → Option R) : Option R :=
  bif (decide (w1 < w0)) then
    bif (inB w1 w10.length) then
      bif (inB w1 w19.length) then
        bnd (!((w10.getD w1.toNat (.i 0)).toS == (w19.getD w1.toNat (.i 0)).toS)) fun y0 =>
        bif y0 then
          k0 ()
        else
          kr (IntKind.wrap .i64 (w1 + 1))
      else
        none
    else
      none
  else
    k1 ()
noncomputable def L51x0x48 (N : Nat) {R : Type} (w0 : Int) (w10 w19 : LD) : Nat → Int → (Unit → Option R) → (Unit → Option R) → Option R
  | 0, _, _, _ => none
  | m + 1, w1, k0, k1 => S51x0x48 N w0 w10 w19 w1 (fun w1 => L51x0x48 N w0 w10 w19 m w1 k0 k1) k0 k1
noncomputable def G51x0x48 (w0 : Int) (w10 w19 : LD) (w1 : Int) : Option (Sum (Unit) (Unit)) := L51x0x48 N (R := (Sum (Unit) (Unit))) w0 w10 w19 N w1 (fun p => some (.inl p)) (fun p => some (.inr p))
noncomputable def J51x0x48 (L x : List Lf) (kr : List Lf → Option R) (k0 : Unit → Option R) (k1 : Unit → Option R) : Option R := S51x0x48 N (li L 0) (ll L 10) (ll L 19) (li x 0) (fun w1 => kr [.i w1]) k0 k1
theorem sb51x0x48 (L x : List Lf) (kr : List Lf → Option R) (k0 : Unit → Option R) (k1 : Unit → Option R) : J51x0x48 N L x kr k0 k1 = (J51x0x48 N L x (fun y => some (.inl y)) (fun p => some (.inr (.inl p))) (fun p => some (.inr (.inr p)))).bind (sumE kr (sumE k0 k1)) := by
  unfold J51x0x48 S51x0x48
  repeat' (first | with_reducible apply cond_b | (with_reducible apply bnd_b; intro _) | rfl)
noncomputable def Q51x0x48 (L : List Lf) (m : Nat) (x : List Lf) : Option (Sum (Unit) (Unit)) := L51x0x48 N (R := (Sum (Unit) (Unit))) (li L 0) (ll L 10) (ll L 19) m (li x 0) (fun p => some (.inl p)) (fun p => some (.inr p))
noncomputable def sh51x0x48 : Sh := { tmps := [(2, .c (.p 2 0)), (3, .c (.p 3 0)), (92, .c (.i .i64)), (93, .c (.i .i64))], mem := [(2, .box (.s :: [.i .i64, .i .i64, .sl 48, .sl 111, .sl 9])), (3, .box (.s :: [.i .i64, .i .i64, .sl 48, .sl 111, .sl 9]))] }
noncomputable def A51x0x48 (L : List Lf) : List (Bool × (Ex × St)) := bnd (Q51x0x48 N L N (pk sh51x0x48 [1] L)) fun q => [((inlB q), (.ret, ⟨[(4, .c (.b false))], []⟩)), ((inrQ q).isSome, ((.exit 4), ⟨[], []⟩))]
theorem step51x0x48 (m : Nat) (kn : St → Option (Ex × St)) (L x : List Lf) : lpB Try.prog (T29x0 N) (h51x0s2 N).h 0 51 48 sh51x0x48 [1] [4] [] (m + 100) kn L x = J51x0x48 N L x (fun y => kn (ofSh sh51x0x48 (mx sh51x0x48 [1] L y))) (fun _ => some (.ret, ⟨[(4, .c (.b false))], []⟩)) (fun _ => some ((.exit 4), ⟨[], []⟩)) := by kernel_rfl
theorem ql51x0x48 (L : List Lf) (m : Nat) (x : List Lf) : Q51x0x48 N L (m + 1) x = J51x0x48 N L x (Q51x0x48 N L m) (fun p => some (.inl p)) (fun p => some (.inr p)) := by kernel_rfl
noncomputable def h51x0s3 : Sg Try.prog 0 51 :=
  (h51x0s2 N).lp (A51x0x48 N) N progOk (T29x0_ok N) (fun m kn L x => (step51x0x48 N m kn L x).trans (sb51x0x48 N L x _ _ _)) (fun L m x => (ql51x0x48 N L m x).trans (sb51x0x48 N L x (Q51x0x48 N L m) (fun p => some (.inl p)) (fun p => some (.inr p)))) fun L x hx => (altS alt1) x hx
noncomputable def F51x0 (v0 : LB) (v1 v2 : Int) (v4 v6 v8 : LD) (v9 : LB) (v10 v11 : Int) (v13 v15 v17 : LD) (k0 : Bool → Option R) : Option R :=
  bnd (bif (bif (!(v0 == v9)) then true else (v1 != v10)) then true else (v2 != v11)) fun y0 =>
  bnd (bif y0 then true else ((v4.length : Int) != (v13.length : Int))) fun y1 =>
  bnd (bif y1 then true else ((v6.length : Int) != (v15.length : Int))) fun y2 =>
  bnd (bif y2 then true else ((v8.length : Int) != (v17.length : Int))) fun y3 =>
  bif y3 then
    k0 false
  else
    bnd (G51x0x12 N (v4.length : Int) v4 v13 0) fun y4 =>
    bif (inlB y4) then
      k0 false
    else
      bif (inrQ y4).isSome then
        bnd (G51x0x30 N (v6.length : Int) v6 v15 0) fun y5 =>
        bif (inlB y5) then
          k0 false
        else
          bif (inrQ y5).isSome then
            bnd (G51x0x48 N (v8.length : Int) v8 v17 0) fun y6 =>
            bif (inlB y6) then
              k0 false
            else
              bif (inrQ y6).isSome then
                k0 true
              else
                none
          else
            none
      else
        none
noncomputable def G51x0 (v0 : LB) (v1 v2 : Int) (v4 v6 v8 : LD) (v9 : LB) (v10 v11 : Int) (v13 v15 v17 : LD) : Option (Bool) := F51x0 N v0 v1 v2 v4 v6 v8 v9 v10 v11 v13 v15 v17 (fun p => some p)
theorem bind51x0 (v0 : LB) (v1 v2 : Int) (v4 v6 v8 : LD) (v9 : LB) (v10 v11 : Int) (v13 v15 v17 : LD) (k0 : Bool → Option R) : F51x0 N v0 v1 v2 v4 v6 v8 v9 v10 v11 v13 v15 v17 k0 = (G51x0 N v0 v1 v2 v4 v6 v8 v9 v10 v11 v13 v15 v17).bind k0 := by
  unfold G51x0 F51x0
  repeat' (first | with_reducible apply cond_b | (with_reducible apply bnd_b; intro _) | rfl)
noncomputable def J51x0 (L : List Lf) (k0 : Bool → Option R) : Option R := F51x0 N (ls L 0) (li L 1) (li L 2) (ll L 4) (ll L 6) (ll L 8) (ls L 9) (li L 10) (li L 11) (ll L 13) (ll L 15) (ll L 17) k0
noncomputable def sh51x0 : Sh := { tmps := [(0, .g (.s :: [.i .i64, .i .i64, .sl 48, .sl 111, .sl 9])), (1, .g (.s :: [.i .i64, .i .i64, .sl 48, .sl 111, .sl 9]))], mem := [] }
noncomputable def A51x0 (L : List Lf) : List (Bool × Res) := bnd (J51x0 N L (fun p => some p)) fun q => [(q.isSome, ([.c (.b (q.getD default))], []))]
theorem raw51x0 (L : List Lf) : bd Try.prog (T29x0 N) (h51x0s3 N).h 51 sh51x0 L = J51x0 N L (fun p => some ([.c (.b p)], [])) := by kernel_rfl
theorem ok51x0 : FnOk Try.prog 51 sh51x0 (A51x0 N) :=
  (h51x0s3 N).fn progOk (T29x0_ok N) fun L x hx => ((raw51x0 N L).trans ((bind51x0 N ..).trans (alt1 x hx)))
noncomputable def T51x0 : Oracle := ext 51 (spSh sh51x0 (A51x0 N)) (T29x0 N)
theorem T51x0_ok : OracleOk Try.prog (T51x0 N) := FnOk.to (ok51x0 N) (T29x0_ok N)
noncomputable def rg19x0 : List (Nat × List Nat) := [(0, [0, 1]), (1, [0, 1]), (2, []), (3, [0, 1]), (4, [13, 12, 0, 1]), (5, [13, 0, 1, 12]), (6, [0, 5, 1, 13, 12]), (7, []), (8, [13, 12, 0, 1]), (9, [])]
noncomputable def hd19x0 : Hints := [(12, [13, 12, 0, 1], [], [])]
noncomputable def h19x0s0 (N : Nat) : Sg Try.prog 0 19 := .start hd19x0 rg19x0
noncomputable def S19x0x12 (w1 w3 : LD) (w4 : Int) (w5 : Int) (kr : Int → Option R) (k0 : Unit → Option R) (k1 : Unit → Option R) : Option R :=
  bif (decide (w5 < w4)) then
    bif (inB w5 w1.length) then
      bif (inB w5 w3.length) then
        bnd (G51x0 N ((w1.getD w5.toNat (.i 0)).cell 0).toS ((w1.getD w5.toNat (.i 0)).cell 1).toI ((w1.getD w5.toNat (.i 0)).cell 2).toI ((w1.getD w5.toNat (.i 0)).cell 3).items ((w1.getD w5.toNat (.i 0)).cell 4).items ((w1.getD w5.toNat (.i 0)).cell 5).items ((w3.getD w5.toNat (.i 0)).cell 0).toS ((w3.getD w5.toNat (.i 0)).cell 1).toI ((w3.getD w5.toNat (.i 0)).cell 2).toI ((w3.getD w5.toNat (.i 0)).cell 3).items ((w3.getD w5.toNat (.i 0)).cell 4).items ((w3.getD w5.toNat (.i 0)).cell 5).items) fun y0 =>
        bif y0.isSome then
          bif (!(y0.getD default)) then
            k0 ()
          else
            kr (IntKind.wrap .i64 (w5 + 1))
        else
          none
      else
        none
    else
      none
  else
    k1 ()
noncomputable def L19x0x12 (N : Nat) {R : Type} (w1 w3 : LD) (w4 : Int) : Nat → Int → (Unit → Option R) → (Unit → Option R) → Option R
  | 0, _, _, _ => none
  | m + 1, w5, k0, k1 => S19x0x12 N w1 w3 w4 w5 (fun w5 => L19x0x12 N w1 w3 w4 m w5 k0 k1) k0 k1
noncomputable def G19x0x12 (w1 w3 : LD) (w4 : Int) (w5 : Int) : Option (Sum (Unit) (Unit)) := L19x0x12 N (R := (Sum (Unit) (Unit))) w1 w3 w4 N w5 (fun p => some (.inl p)) (fun p => some (.inr p))
noncomputable def J19x0x12 (L x : List Lf) (kr : List Lf → Option R) (k0 : Unit → Option R) (k1 : Unit → Option R) : Option R := S19x0x12 N (ll L 1) (ll L 3) (li L 4) (li x 0) (fun w5 => kr [.i w5]) k0 k1
theorem sb19x0x12 (L x : List Lf) (kr : List Lf → Option R) (k0 : Unit → Option R) (k1 : Unit → Option R) : J19x0x12 N L x kr k0 k1 = (J19x0x12 N L x (fun y => some (.inl y)) (fun p => some (.inr (.inl p))) (fun p => some (.inr (.inr p)))).bind (sumE kr (sumE k0 k1)) := by
  unfold J19x0x12 S19x0x12
  repeat' (first | with_reducible apply cond_b | (with_reducible apply bnd_b; intro _) | rfl)
noncomputable def Q19x0x12 (L : List Lf) (m : Nat) (x : List Lf) : Option (Sum (Unit) (Unit)) := L19x0x12 N (R := (Sum (Unit) (Unit))) (ll L 1) (ll L 3) (li L 4) m (li x 0) (fun p => some (.inl p)) (fun p => some (.inr p))
noncomputable def sh19x0x12 : Sh := { tmps := [(0, .c (.sl 29)), (1, .c (.sl 29)), (12, .c (.i .i64)), (13, .c (.i .i64))], mem := [] }
noncomputable def A19x0x12 (L : List Lf) : List (Bool × (Ex × St)) := bnd (Q19x0x12 N L N (pk sh19x0x12 [5] L)) fun q => [((inlB q), (.ret, ⟨[(4, .c (.b false))], []⟩)), ((inrQ q).isSome, ((.exit 0), ⟨[], []⟩))]
theorem step19x0x12 (m : Nat) (kn : St → Option (Ex × St)) (L x : List Lf) : lpB Try.prog (T51x0 N) (h19x0s0 N).h 0 19 12 sh19x0x12 [5] [4] [] (m + 100) kn L x = J19x0x12 N L x (fun y => kn (ofSh sh19x0x12 (mx sh19x0x12 [5] L y))) (fun _ => some (.ret, ⟨[(4, .c (.b false))], []⟩)) (fun _ => some ((.exit 0), ⟨[], []⟩)) := by kernel_rfl
theorem ql19x0x12 (L : List Lf) (m : Nat) (x : List Lf) : Q19x0x12 N L (m + 1) x = J19x0x12 N L x (Q19x0x12 N L m) (fun p => some (.inl p)) (fun p => some (.inr p)) := by kernel_rfl
noncomputable def h19x0s1 : Sg Try.prog 0 19 :=
  (h19x0s0 N).lp (A19x0x12 N) N progOk (T51x0_ok N) (fun m kn L x => (step19x0x12 N m kn L x).trans (sb19x0x12 N L x _ _ _)) (fun L m x => (ql19x0x12 N L m x).trans (sb19x0x12 N L x (Q19x0x12 N L m) (fun p => some (.inl p)) (fun p => some (.inr p)))) fun L x hx => (altS alt1) x hx
noncomputable def F19x0 (v1 v3 : LD) (k0 : Bool → Option R) : Option R :=
  bif ((v1.length : Int) != (v3.length : Int)) then
    k0 false
  else
    bnd (G19x0x12 N v1 v3 (v1.length : Int) 0) fun y0 =>
    bif (inlB y0) then
      k0 false
    else
      bif (inrQ y0).isSome then
        k0 true
      else
        none
noncomputable def G19x0 (v1 v3 : LD) : Option (Bool) := F19x0 N v1 v3 (fun p => some p)
theorem bind19x0 (v1 v3 : LD) (k0 : Bool → Option R) : F19x0 N v1 v3 k0 = (G19x0 N v1 v3).bind k0 := by
  unfold G19x0 F19x0
  repeat' (first | with_reducible apply cond_b | (with_reducible apply bnd_b; intro _) | rfl)
noncomputable def sh19x0 : Sh := { tmps := [(0, .c (.sl 29)), (1, .c (.sl 29))], mem := [] }
noncomputable def A19x0 (L : List Lf) : List (Bool × Res) := bnd (F19x0 N (ll L 1) (ll L 3) (fun p => some p)) fun q => [(q.isSome, ([.c (.b (q.getD default))], []))]
theorem raw19x0 (L : List Lf) : bd Try.prog (T51x0 N) (h19x0s1 N).h 19 sh19x0 L = F19x0 N (ll L 1) (ll L 3) (fun p => some ([.c (.b p)], [])) := by kernel_rfl
theorem ok19x0 : FnOk Try.prog 19 sh19x0 (A19x0 N) :=
  (h19x0s1 N).fn progOk (T51x0_ok N) fun L x hx => ((raw19x0 N L).trans ((bind19x0 N ..).trans (alt1 x hx)))
noncomputable def T19x0 : Oracle := ext 19 (spSh sh19x0 (A19x0 N)) (T51x0 N)
theorem T19x0_ok : OracleOk Try.prog (T19x0 N) := FnOk.to (ok19x0 N) (T51x0_ok N)
noncomputable def rg7x0 : List (Nat × List Nat) := [(0, [0, 2, 1]), (1, [3, 1, 5]), (2, [8, 3, 7, 1, 5]), (3, [3, 8]), (4, [8, 10]), (5, [7, 3, 1, 5]), (6, [3, 1, 5, 7, 12, 11]), (7, [7, 1, 5, 12, 11, 14, 13]), (8, [12, 11, 7, 14, 16, 13, 15])]
noncomputable def hd7x0 : Hints := [(13, [8, 10], [], []), (25, [12, 11, 7, 14, 16, 13, 15], [11, 7], [])]
noncomputable def h7x0s0 (N : Nat) : Sg Try.prog 0 7 := .start hd7x0 rg7x0
noncomputable def F7x0x13 (w0 w1 : Int) (k0 : Bool → Option R) : Option R :=
  bif (w0 == w1) then
    bnd (G12x0 N) fun y0 =>
    bif y0.isSome then
      k0 (y0.getD default)
    else
      none
  else
    k0 false
noncomputable def G7x0x13 (w0 w1 : Int) : Option (Bool) := F7x0x13 N w0 w1 (fun p => some p)
theorem bind7x0x13 (w0 w1 : Int) (k0 : Bool → Option R) : F7x0x13 N w0 w1 k0 = (G7x0x13 N w0 w1).bind k0 := by
  unfold G7x0x13 F7x0x13
  repeat' (first | with_reducible apply cond_b | (with_reducible apply bnd_b; intro _) | rfl)
noncomputable def sh7x0x13 : Sh := { tmps := [(8, .c (.i .i64)), (10, .c (.i .i64))], mem := [] }
noncomputable def A7x0x13 (L : List Lf) : List (Bool × (Ex × St)) := bnd (F7x0x13 N (li L 0) (li L 1) (fun p => some p)) fun q => [(q.isSome, (.normal, ⟨[(6, .c (.b (q.getD default)))], []⟩))]
theorem raw7x0x13 (L : List Lf) : pc Try.prog (T19x0 N) (h7x0s0 N).h 0 100 7 13 sh7x0x13 L [6] [] = F7x0x13 N (li L 0) (li L 1) (fun p => some (.normal, ⟨[(6, .c (.b p))], []⟩)) := by kernel_rfl
noncomputable def h7x0s1 : Sg Try.prog 0 7 :=
  (h7x0s0 N).cut (A7x0x13 N) progOk (T19x0_ok N) fun L x hx => (raw7x0x13 N L).trans ((bind7x0x13 N ..).trans (alt1 x hx))
noncomputable def F7x0x25 (w0 : Int) (w2 : LD) (w3 : Int) (w5 : LD) (w6 : Int) (w8 w10 : LD) (k0 : Bool → Option R) : Option R :=
  bif (w0 == 0) then
    bnd (G29x0 N w10 w8) fun y0 =>
    bif y0.isSome then
      bif (bif (y0.getD default) then (w3 == w6) else false) then
        bnd (G19x0 N w2 w5) fun y1 =>
        bif y1.isSome then
          bif (y1.getD default) then
            bnd (G12x0 N) fun y2 =>
            bif y2.isSome then
              k0 (y2.getD default)
            else
              none
          else
            k0 false
        else
          none
      else
        k0 false
    else
      none
  else
    k0 false
noncomputable def G7x0x25 (w0 : Int) (w2 : LD) (w3 : Int) (w5 : LD) (w6 : Int) (w8 w10 : LD) : Option (Bool) := F7x0x25 N w0 w2 w3 w5 w6 w8 w10 (fun p => some p)
theorem bind7x0x25 (w0 : Int) (w2 : LD) (w3 : Int) (w5 : LD) (w6 : Int) (w8 w10 : LD) (k0 : Bool → Option R) : F7x0x25 N w0 w2 w3 w5 w6 w8 w10 k0 = (G7x0x25 N w0 w2 w3 w5 w6 w8 w10).bind k0 := by
  unfold G7x0x25 F7x0x25
  repeat' (first | with_reducible apply cond_b | (with_reducible apply bnd_b; intro _) | rfl)
noncomputable def J7x0x25 (L : List Lf) (k0 : Bool → Option R) : Option R := F7x0x25 N (li L 0) (ll L 2) (li L 3) (ll L 5) (li L 6) (ll L 8) (ll L 10) k0
noncomputable def sh7x0x25 : Sh := { tmps := [(7, .c (.p 7 0)), (11, .c (.p 11 0)), (12, .c (.i .i64)), (13, .c (.sl 29)), (14, .c (.i .i64)), (15, .c (.sl 29)), (16, .c (.i .i64))], mem := [(7, .box ([.sl 70])), (11, .box ([.sl 70]))] }
noncomputable def A7x0x25 (L : List Lf) : List (Bool × (Ex × St)) := bnd (J7x0x25 N L (fun p => some p)) fun q => [(q.isSome, (.normal, ⟨[(6, .c (.b (q.getD default)))], []⟩))]
theorem raw7x0x25 (L : List Lf) : pc Try.prog (T19x0 N) (h7x0s1 N).h 0 100 7 25 sh7x0x25 L [6] [] = J7x0x25 N L (fun p => some (.normal, ⟨[(6, .c (.b p))], []⟩)) := by kernel_rfl
noncomputable def h7x0s2 : Sg Try.prog 0 7 :=
  (h7x0s1 N).cut (A7x0x25 N) progOk (T19x0_ok N) fun L x hx => (raw7x0x25 N L).trans ((bind7x0x25 N ..).trans (alt1 x hx))
noncomputable def F7x0 (v1 : LD) (v2 : Int) (v3 : LB) (v4 v5 : Int) (v6 : Bool) (v7 : LD) (v8 : Bool) (v9 : LD) (v10 : Bool) (v11 : LD) (k0 : Bool → Option R) : Option R :=
  bnd (G27x0 N v1) fun y0 =>
  bif y0.isSome then
    bif ((y0.getD default).2.2 != 0) then
      bnd (G28x0 N v1) fun y1 =>
      bif y1.isSome then
        bnd (G7x0x13 N (y0.getD default).2.2 (y1.getD default).2.2) fun y2 =>
        bif y2.isSome then
          k0 (y2.getD default)
        else
          none
      else
        none
    else
      bnd (G27x0 N (y0.getD default).2.1) fun y3 =>
      bif y3.isSome then
        bnd (G13x0 N v1 v2 v3 v4 v5 v6 v7 v8 v9 v10 v11) fun y4 =>
        bif y4.isSome then
          bnd (G13x0 N (y0.getD default).2.1 v2 v3 v4 v5 v6 v7 v8 v9 v10 v11) fun y5 =>
          bif y5.isSome then
            bnd (G7x0x25 N (y3.getD default).2.2 (y4.getD default).2.1 (y4.getD default).2.2 (y5.getD default).2.1 (y5.getD default).2.2 (y0.getD default).2.1 (y3.getD default).2.1) fun y6 =>
            bif y6.isSome then
              k0 (y6.getD default)
            else
              none
          else
            none
        else
          none
      else
        none
  else
    none
noncomputable def G7x0 (v1 : LD) (v2 : Int) (v3 : LB) (v4 v5 : Int) (v6 : Bool) (v7 : LD) (v8 : Bool) (v9 : LD) (v10 : Bool) (v11 : LD) : Option (Bool) := F7x0 N v1 v2 v3 v4 v5 v6 v7 v8 v9 v10 v11 (fun p => some p)
theorem bind7x0 (v1 : LD) (v2 : Int) (v3 : LB) (v4 v5 : Int) (v6 : Bool) (v7 : LD) (v8 : Bool) (v9 : LD) (v10 : Bool) (v11 : LD) (k0 : Bool → Option R) : F7x0 N v1 v2 v3 v4 v5 v6 v7 v8 v9 v10 v11 k0 = (G7x0 N v1 v2 v3 v4 v5 v6 v7 v8 v9 v10 v11).bind k0 := by
  unfold G7x0 F7x0
  repeat' (first | with_reducible apply cond_b | (with_reducible apply bnd_b; intro _) | rfl)
noncomputable def J7x0 (L : List Lf) (k0 : Bool → Option R) : Option R := F7x0 N (ll L 1) (li L 2) (ls L 3) (li L 4) (li L 5) (lb L 6) (ll L 7) (lb L 8) (ll L 9) (lb L 10) (ll L 11) k0
noncomputable def sh7x0 : Sh := { tmps := [(0, .g ([.sl 70])), (1, .c (.i .i64)), (2, .g (.s :: [.i .i64, .i .i64, .sl 48, .sl 111, .sl 9]))], mem := [] }
noncomputable def A7x0 (L : List Lf) : List (Bool × Res) := bnd (J7x0 N L (fun p => some p)) fun q => [(q.isSome, ([.c (.b (q.getD default))], []))]
theorem raw7x0 (L : List Lf) : bd Try.prog (T19x0 N) (h7x0s2 N).h 7 sh7x0 L = J7x0 N L (fun p => some ([.c (.b p)], [])) := by kernel_rfl
theorem ok7x0 : FnOk Try.prog 7 sh7x0 (A7x0 N) :=
  (h7x0s2 N).fn progOk (T19x0_ok N) fun L x hx => ((raw7x0 N L).trans ((bind7x0 N ..).trans (alt1 x hx)))
noncomputable def T7x0 : Oracle := ext 7 (spSh sh7x0 (A7x0 N)) (T19x0 N)
theorem T7x0_ok : OracleOk Try.prog (T7x0 N) := FnOk.to (ok7x0 N) (T19x0_ok N)
end Go.Proofs.Ytngnemeafkmaoaa
