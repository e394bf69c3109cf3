/- Functions of the program as plain Lean definitions, each with the proof that the program computes it. No condition. Printed by a program of the prover, part 2. -/
import Derived.Test.YtngnemeafkmaoaaVPp1
import Derived.KernelRfl
set_option linter.all false
set_option maxRecDepth 100000
namespace Go.Proofs.Ytngnemeafkmaoaa
open Go Go.AM
variable (N : Nat) {R : Type}
noncomputable def G92x0x29 (w6 : Bool) (w9 : LB) (w10 w11 : Int) (w15 : LD) (w16 : Bool) (w17 : LD) (w21 w22 w23 w24 : Bool) (w26 : LD) (w27 w28 : Bool) (w30 w39 : LD) : Option (Sum (LD) (Unit)) := F92x0x29 N w6 w9 w10 w11 w15 w16 w17 w21 w22 w23 w24 w26 w27 w28 w30 w39 (fun p => some (.inl p)) (fun p => some (.inr p))
theorem bind92x0x29 (w6 : Bool) (w9 : LB) (w10 w11 : Int) (w15 : LD) (w16 : Bool) (w17 : LD) (w21 w22 w23 w24 : Bool) (w26 : LD) (w27 w28 : Bool) (w30 w39 : LD) (k0 : LD → Option R) (k1 : Unit → Option R) : F92x0x29 N w6 w9 w10 w11 w15 w16 w17 w21 w22 w23 w24 w26 w27 w28 w30 w39 k0 k1 = (G92x0x29 N w6 w9 w10 w11 w15 w16 w17 w21 w22 w23 w24 w26 w27 w28 w30 w39).bind (sumE k0 k1) := by
  unfold G92x0x29 F92x0x29
  repeat' (first | with_reducible apply cond_b | (with_reducible apply bnd_b; intro _) | rfl)
noncomputable def J92x0x29 (L : List Lf) (k0 : LD → Option R) (k1 : Unit → Option R) : Option R := F92x0x29 N (lb L 6) (ls L 9) (li L 10) (li L 11) (ll L 15) (lb L 16) (ll L 17) (lb L 21) (lb L 22) (lb L 23) (lb L 24) (ll L 26) (lb L 27) (lb L 28) (ll L 30) (ll L 39) k0 k1
noncomputable def sh92x0x29 : Sh := { tmps := [(0, .c (.y 4)), (2, .c (.p 1 0)), (4, .c (.sl 4)), (6, .c (.p 11 0)), (7, .c (.o 12)), (9, .c (.p 14 0)), (20, .c (.sl 48)), (21, .c (.i .i64)), (22, .c (.i .i64)), (46, .c (.b))], mem := [(0, .box ([.sl 70])), (1, .box (.s :: [.i .i64, .i .i64, .sl 48, .sl 111, .sl 9])), (2, .box ([.o 50002005])), (4, .row 3 true), (11, .box (rB 5 ([.sl 3, .b, .b]))), (12, .row 48 true), (14, .box (rI 7 ([]))), (50002005, .row 29 true)] }
noncomputable def K92x0x29w0 (L : List Lf) (p : LD) : Ex × St := (.normal, mg (ofSh sh92x0x29 L) [0, 2, 4, 6, 7, 9, 20, 21, 22] [(7, .c (.sl 48 true []))] [0, 1, 2, 4, 11, 14, 53000000033] [(2, .box [.o 53000000033]), (53000000033, .row 29 true false p)])
noncomputable def K92x0x29w1 (L : List Lf) (_ : Unit) : Ex × St := (.normal, mg (ofSh sh92x0x29 L) [0, 2, 4, 6, 7, 9, 20, 21, 22] [] [0, 1, 2, 4, 11, 12, 14, 50002005] [])
noncomputable def A92x0x29 (L : List Lf) : List (Bool × (Ex × St)) := bnd (J92x0x29 N L (fun p => some (.inl p)) (fun p => some (.inr p))) fun q => [((inlB q), K92x0x29w0 L (inlV q)), ((inrQ q).isSome, K92x0x29w1 L ())]
theorem raw92x0x29 (L : List Lf) : pc Try.prog (T94x0 N) (h92x0s2 N).h 5 100 92 29 sh92x0x29 L [7, 9, 22, 21, 20, 4, 0, 6, 2] [53000000033, 2, 0, 14, 11, 1, 4, 50002005, 12] = J92x0x29 N L (fun p => some (K92x0x29w0 L p)) (fun _ => some (K92x0x29w1 L ())) := by kernel_rfl
noncomputable def h92x0s3 : Sg Try.prog 5 92 (YCtx y44x0z600000022) :=
  (h92x0s2 N).cut (A92x0x29 N) progOk (T94x0_ok N) fun L x hx => (raw92x0x29 N L).trans ((bind92x0x29 N ..).trans ((altS alt1) x hx))
noncomputable def S92x0x12 (w1 w3 : LD) (w4 : Int) (w8 : LB) (w9 w10 : Int) (w14 : LD) (w15 : Bool) (w16 : LD) (w20 w21 w22 w23 : Bool) (w25 : LD) (w26 w27 : Bool) (w5 : Int) (w28 : Bool) (w29 : LD) (w30 : Bool) (w31 : LD) (kr : Int → Bool → LD → Bool → LD → Option R) (k0 : Ty5 → Option R) : Option R :=
  bif (decide (w5 < w4)) then
    bif (inB w5 w3.length) then
      bif (inB w5 w1.length) then
        bif (w1.getD w5.toNat (.i 0)).toB then
          kr (IntKind.wrap .i64 (w5 + 1)) w28 w29 w30 w31
        else
          bnd (G92x0x25 N (w29.length : Int) w29 ((w3.getD w5.toNat (.i 0)).cell 0).toI) fun y0 =>
          bif y0.isSome then
            bnd (G92x0x29 N (y0.getD default) w8 w9 w10 w14 w15 w16 w20 w21 w22 w23 w25 w26 w27 w29 w31) fun y1 =>
            bif (inlB y1) then
              kr (IntKind.wrap .i64 (w5 + 1)) false [(.a [(.i ((w3.getD w5.toNat (.i 0)).cell 0).toI), (.i ((w3.getD w5.toNat (.i 0)).cell 1).toI), (.i ((w3.getD w5.toNat (.i 0)).cell 2).toI), (.i ((w3.getD w5.toNat (.i 0)).cell 3).toI), (.i ((w3.getD w5.toNat (.i 0)).cell 4).toI), (.i ((w3.getD w5.toNat (.i 0)).cell 5).toI), (.i ((w3.getD w5.toNat (.i 0)).cell 6).toI)])] false (inlV y1)
            else
              bif (inrQ y1).isSome then
                bif (decide ((w29.length + 1) * 56 ≤ room) && decide ((w29.length + 1) ≤ strMax)) then
                  bnd ((w29 ++ [(.a [(.i ((w3.getD w5.toNat (.i 0)).cell 0).toI), (.i ((w3.getD w5.toNat (.i 0)).cell 1).toI), (.i ((w3.getD w5.toNat (.i 0)).cell 2).toI), (.i ((w3.getD w5.toNat (.i 0)).cell 3).toI), (.i ((w3.getD w5.toNat (.i 0)).cell 4).toI), (.i ((w3.getD w5.toNat (.i 0)).cell 5).toI), (.i ((w3.getD w5.toNat (.i 0)).cell 6).toI)])]) : List D) fun y2 =>
                  kr (IntKind.wrap .i64 (w5 + 1)) false y2 w30 w31
                else
                  none
              else
                none
          else
            none
      else
        none
    else
      none
  else
    k0 (w28, w29, w30, w31)
noncomputable def L92x0x12 (N : Nat) {R : Type} (w1 w3 : LD) (w4 : Int) (w8 : LB) (w9 w10 : Int) (w14 : LD) (w15 : Bool) (w16 : LD) (w20 w21 w22 w23 : Bool) (w25 : LD) (w26 w27 : Bool) : Nat → Int → Bool → LD → Bool → LD → (Ty5 → Option R) → Option R
  | 0, _, _, _, _, _, _ => none
  | m + 1, w5, w28, w29, w30, w31, k0 => S92x0x12 N w1 w3 w4 w8 w9 w10 w14 w15 w16 w20 w21 w22 w23 w25 w26 w27 w5 w28 w29 w30 w31 (fun w5 w28 w29 w30 w31 => L92x0x12 N w1 w3 w4 w8 w9 w10 w14 w15 w16 w20 w21 w22 w23 w25 w26 w27 m w5 w28 w29 w30 w31 k0) k0
noncomputable def G92x0x12 (w1 w3 : LD) (w4 : Int) (w8 : LB) (w9 w10 : Int) (w14 : LD) (w15 : Bool) (w16 : LD) (w20 w21 w22 w23 : Bool) (w25 : LD) (w26 w27 : Bool) (w5 : Int) (w28 : Bool) (w29 : LD) (w30 : Bool) (w31 : LD) : Option (Ty5) := L92x0x12 N (R := (Ty5)) w1 w3 w4 w8 w9 w10 w14 w15 w16 w20 w21 w22 w23 w25 w26 w27 N w5 w28 w29 w30 w31 (fun p => some p)
noncomputable def J92x0x12 (L x : List Lf) (kr : List Lf → Option R) (k0 : Ty5 → Option R) : Option R := S92x0x12 N (ll L 1) (ll L 3) (li L 4) (ls L 8) (li L 9) (li L 10) (ll L 14) (lb L 15) (ll L 16) (lb L 20) (lb L 21) (lb L 22) (lb L 23) (ll L 25) (lb L 26) (lb L 27) (li x 0) (lb x 1) (ll x 2) (lb x 3) (ll x 4) (fun w5 w28 w29 w30 w31 => kr [.i w5, .b w28, .l w29, .b w30, .l w31]) k0
theorem sb92x0x12 (L x : List Lf) (kr : List Lf → Option R) (k0 : Ty5 → Option R) : J92x0x12 N L x kr k0 = (J92x0x12 N L x (fun y => some (.inl y)) (fun p => some (.inr p))).bind (sumE kr k0) := by
  unfold J92x0x12 S92x0x12
  repeat' (first | with_reducible apply cond_b | (with_reducible apply bnd_b; intro _) | rfl)
noncomputable def Q92x0x12 (L : List Lf) (m : Nat) (x : List Lf) : Option (Ty5) := L92x0x12 N (R := (Ty5)) (ll L 1) (ll L 3) (li L 4) (ls L 8) (li L 9) (li L 10) (ll L 14) (lb L 15) (ll L 16) (lb L 20) (lb L 21) (lb L 22) (lb L 23) (ll L 25) (lb L 26) (lb L 27) m (li x 0) (lb x 1) (ll x 2) (lb x 3) (ll x 4) (fun p => some p)
noncomputable def sh92x0x12 : Sh := { tmps := [(0, .c (.y 4)), (2, .c (.p 1 0)), (4, .c (.sl 4)), (6, .c (.p 11 0)), (7, .c (.o 12)), (20, .c (.sl 48)), (21, .c (.i .i64)), (22, .c (.i .i64))], mem := [(0, .box ([.sl 70])), (1, .box (.s :: [.i .i64, .i .i64, .sl 48, .sl 111, .sl 9])), (2, .box ([.o 50002005])), (4, .row 3 true), (11, .box (rB 5 ([.sl 3, .b, .b]))), (12, .row 48 true), (50002005, .row 29 true)] }
noncomputable def K92x0x12w0 (L : List Lf) (p : Ty5) : Ex × St := ((.exit 0), mg (ofSh sh92x0x12 L) [0, 2, 6, 7] [] [0, 1, 2, 4, 11, 12, 50002005] [(12, .row 48 true p.1 p.2.1), (50002005, .row 29 true p.2.2.1 p.2.2.2)])
noncomputable def A92x0x12 (L : List Lf) : List (Bool × (Ex × St)) := bnd (Q92x0x12 N L N (pk sh92x0x12 [5, 28, 29, 30, 31] L)) fun q => [(q.isSome, K92x0x12w0 L (q.getD default))]
theorem step92x0x12 (m : Nat) (kn : St → Option (Ex × St)) (L x : List Lf) : lpB Try.prog (T94x0 N) (h92x0s3 N).h 5 92 12 sh92x0x12 [5, 28, 29, 30, 31] [7, 0, 6, 2] [50002005, 2, 0, 12, 11, 1, 4] (m + 100) kn L x = J92x0x12 N L x (fun y => kn (ofSh sh92x0x12 (mx sh92x0x12 [5, 28, 29, 30, 31] L y))) (fun p => some (K92x0x12w0 L p)) := by kernel_rfl
theorem ql92x0x12 (L : List Lf) (m : Nat) (x : List Lf) : Q92x0x12 N L (m + 1) x = J92x0x12 N L x (Q92x0x12 N L m) some := by kernel_rfl
noncomputable def h92x0s4 : Sg Try.prog 5 92 (YCtx y44x0z600000022) :=
  (h92x0s3 N).lp (A92x0x12 N) N progOk (T94x0_ok N) (fun m kn L x => (step92x0x12 N m kn L x).trans (sb92x0x12 N L x _ _)) (fun L m x => (ql92x0x12 N L m x).trans (sb92x0x12 N L x (Q92x0x12 N L m) some)) fun L x hx => alt1 x hx
noncomputable def F92x0x43 (w2 : LB) (w3 w4 : Int) (w8 : LD) (w9 : Bool) (w10 : LD) (w14 w15 w16 w17 : Bool) (w19 : LD) (w20 w21 : Bool) (w23 w25 : LD) (k0 : LD → Option R) : Option R :=
  bnd (G94x0 N w14 w15 w16 w17 w19 w20 w21 w2 w4 w8 w9 w10 w23) fun y0 =>
  bif y0.isSome then
    bif (decide ((w25.length + 1) * 104 ≤ room) && decide ((w25.length + 1) ≤ strMax)) then
      bnd ((w25 ++ [(.a [(.s (y0.getD default).1), (.i w3), (.i (y0.getD default).2.1), (.l (y0.getD default).2.2.1 (y0.getD default).2.2.2.1), (.l (y0.getD default).2.2.2.2.1 (y0.getD default).2.2.2.2.2.1), (.l (y0.getD default).2.2.2.2.2.2.1 (y0.getD default).2.2.2.2.2.2.2)])]) : List D) fun y1 =>
      k0 y1
    else
      none
  else
    none
noncomputable def G92x0x43 (w2 : LB) (w3 w4 : Int) (w8 : LD) (w9 : Bool) (w10 : LD) (w14 w15 w16 w17 : Bool) (w19 : LD) (w20 w21 : Bool) (w23 w25 : LD) : Option (LD) := F92x0x43 N w2 w3 w4 w8 w9 w10 w14 w15 w16 w17 w19 w20 w21 w23 w25 (fun p => some p)
theorem bind92x0x43 (w2 : LB) (w3 w4 : Int) (w8 : LD) (w9 : Bool) (w10 : LD) (w14 w15 w16 w17 : Bool) (w19 : LD) (w20 w21 : Bool) (w23 w25 : LD) (k0 : LD → Option R) : F92x0x43 N w2 w3 w4 w8 w9 w10 w14 w15 w16 w17 w19 w20 w21 w23 w25 k0 = (G92x0x43 N w2 w3 w4 w8 w9 w10 w14 w15 w16 w17 w19 w20 w21 w23 w25).bind k0 := by
  unfold G92x0x43 F92x0x43
  repeat' (first | with_reducible apply cond_b | (with_reducible apply bnd_b; intro _) | rfl)
noncomputable def J92x0x43 (L : List Lf) (k0 : LD → Option R) : Option R := F92x0x43 N (ls L 2) (li L 3) (li L 4) (ll L 8) (lb L 9) (ll L 10) (lb L 14) (lb L 15) (lb L 16) (lb L 17) (ll L 19) (lb L 20) (lb L 21) (ll L 23) (ll L 25) k0
noncomputable def sh92x0x43 : Sh := { tmps := [(0, .c (.y 4)), (2, .c (.p 1 0)), (6, .c (.p 11 0)), (7, .c (.o 12))], mem := [(0, .box ([.sl 70])), (1, .box (.s :: [.i .i64, .i .i64, .sl 48, .sl 111, .sl 9])), (2, .box ([.o 50002005])), (4, .row 3 true), (11, .box (rB 5 ([.sl 3, .b, .b]))), (12, .row 48 true), (50002005, .row 29 true)] }
noncomputable def K92x0x43w0 (L : List Lf) (p : LD) : Ex × St := (.normal, mg (ofSh sh92x0x43 L) [] [] [0, 1, 2, 4, 68000000033] [(2, .box [.o 68000000033]), (68000000033, .row 29 true false p)])
noncomputable def A92x0x43 (L : List Lf) : List (Bool × (Ex × St)) := bnd (J92x0x43 N L (fun p => some p)) fun q => [(q.isSome, K92x0x43w0 L (q.getD default))]
theorem raw92x0x43 (L : List Lf) : pcY Try.prog (T94x0 N) 5 y44x0z600000022 92 43 sh92x0x43 L [] [4, 68000000033, 2, 1, 0] = J92x0x43 N L (fun p => some (K92x0x43w0 L p)) := by kernel_rfl
noncomputable def h92x0s5 : Sg Try.prog 5 92 (YCtx y44x0z600000022) :=
  (h92x0s4 N).cutY (A92x0x43 N) (T94x0_ok N) fun L x hx => (raw92x0x43 N L).trans ((bind92x0x43 N ..).trans (alt1 x hx))
noncomputable def F92x0x44 (w0 : Bool) (w3 : LB) (w4 w5 : Int) (w9 : LD) (w10 : Bool) (w11 : LD) (w15 w16 w17 w18 : Bool) (w20 : LD) (w21 w22 : Bool) (w24 w26 : LD) (k0 : LD → Option R) (k1 : Unit → Option R) : Option R :=
  bif w0 then
    bnd (G92x0x43 N w3 w4 w5 w9 w10 w11 w15 w16 w17 w18 w20 w21 w22 w24 w26) fun y0 =>
    bif y0.isSome then
      k0 (y0.getD default)
    else
      none
  else
    k1 ()
noncomputable def G92x0x44 (w0 : Bool) (w3 : LB) (w4 w5 : Int) (w9 : LD) (w10 : Bool) (w11 : LD) (w15 w16 w17 w18 : Bool) (w20 : LD) (w21 w22 : Bool) (w24 w26 : LD) : Option (Sum (LD) (Unit)) := F92x0x44 N w0 w3 w4 w5 w9 w10 w11 w15 w16 w17 w18 w20 w21 w22 w24 w26 (fun p => some (.inl p)) (fun p => some (.inr p))
theorem bind92x0x44 (w0 : Bool) (w3 : LB) (w4 w5 : Int) (w9 : LD) (w10 : Bool) (w11 : LD) (w15 w16 w17 w18 : Bool) (w20 : LD) (w21 w22 : Bool) (w24 w26 : LD) (k0 : LD → Option R) (k1 : Unit → Option R) : F92x0x44 N w0 w3 w4 w5 w9 w10 w11 w15 w16 w17 w18 w20 w21 w22 w24 w26 k0 k1 = (G92x0x44 N w0 w3 w4 w5 w9 w10 w11 w15 w16 w17 w18 w20 w21 w22 w24 w26).bind (sumE k0 k1) := by
  unfold G92x0x44 F92x0x44
  repeat' (first | with_reducible apply cond_b | (with_reducible apply bnd_b; intro _) | rfl)
noncomputable def J92x0x44 (L : List Lf) (k0 : LD → Option R) (k1 : Unit → Option R) : Option R := F92x0x44 N (lb L 0) (ls L 3) (li L 4) (li L 5) (ll L 9) (lb L 10) (ll L 11) (lb L 15) (lb L 16) (lb L 17) (lb L 18) (ll L 20) (lb L 21) (lb L 22) (ll L 24) (ll L 26) k0 k1
noncomputable def sh92x0x44 : Sh := { tmps := [(0, .c (.y 4)), (2, .c (.p 1 0)), (6, .c (.p 11 0)), (7, .c (.o 12)), (61, .c (.b))], mem := [(0, .box ([.sl 70])), (1, .box (.s :: [.i .i64, .i .i64, .sl 48, .sl 111, .sl 9])), (2, .box ([.o 50002005])), (4, .row 3 true), (11, .box (rB 5 ([.sl 3, .b, .b]))), (12, .row 48 true), (50002005, .row 29 true)] }
noncomputable def K92x0x44w0 (L : List Lf) (p : LD) : Ex × St := (.normal, mg (ofSh sh92x0x44 L) [] [] [0, 1, 2, 4, 68000000033] [(2, .box [.o 68000000033]), (68000000033, .row 29 true false p)])
noncomputable def K92x0x44w1 (L : List Lf) (_ : Unit) : Ex × St := (.normal, mg (ofSh sh92x0x44 L) [] [] [0, 1, 2, 4, 50002005] [])
noncomputable def A92x0x44 (L : List Lf) : List (Bool × (Ex × St)) := bnd (J92x0x44 N L (fun p => some (.inl p)) (fun p => some (.inr p))) fun q => [((inlB q), K92x0x44w0 L (inlV q)), ((inrQ q).isSome, K92x0x44w1 L ())]
theorem raw92x0x44 (L : List Lf) : pc Try.prog (T94x0 N) (h92x0s5 N).h 5 100 92 44 sh92x0x44 L [] [4, 68000000033, 2, 1, 0, 50002005] = J92x0x44 N L (fun p => some (K92x0x44w0 L p)) (fun _ => some (K92x0x44w1 L ())) := by kernel_rfl
noncomputable def h92x0s6 : Sg Try.prog 5 92 (YCtx y44x0z600000022) :=
  (h92x0s5 N).cut (A92x0x44 N) progOk (T94x0_ok N) fun L x hx => (raw92x0x44 N L).trans ((bind92x0x44 N ..).trans ((altS alt1) x hx))
noncomputable def F92x0 (v1 : LD) (v2 : LB) (v3 v4 : Int) (v6 v8 : LD) (v9 : Bool) (v10 : LD) (v11 : Bool) (v12 : LD) (k0 : LD → Option R) (k1 : Bool × LD → Option R) : Option R :=
  bnd (G40x0 N v1 v3 v4 v6 v10) fun y0 =>
  bif y0.isSome then
    bnd (G93x0 N v1) fun y1 =>
    bif y1.isSome then
      bnd (G92x0x12 N (y0.getD default).1 v6 (v6.length : Int) v2 v3 v4 v8 v9 v10 (y1.getD default).2.1 (y1.getD default).2.2.1 (y1.getD default).2.2.2.1 (y1.getD default).2.2.2.2.1 (y1.getD default).2.2.2.2.2.2.1 (y1.getD default).2.2.2.2.2.2.2.1 (y1.getD default).2.2.2.2.2.2.2.2 0 true [] v11 v12) fun y2 =>
      bif y2.isSome then
        bnd (G92x0x44 N (decide (((y2.getD default).2.1.length : Int) > 0)) v2 v3 v4 v8 v9 v10 (y1.getD default).2.1 (y1.getD default).2.2.1 (y1.getD default).2.2.2.1 (y1.getD default).2.2.2.2.1 (y1.getD default).2.2.2.2.2.2.1 (y1.getD default).2.2.2.2.2.2.2.1 (y1.getD default).2.2.2.2.2.2.2.2 (y2.getD default).2.1 (y2.getD default).2.2.2) fun y3 =>
        bif (inlB y3) then
          k0 (inlV y3)
        else
          bif (inrQ y3).isSome then
            k1 ((y2.getD default).2.2.1, (y2.getD default).2.2.2)
          else
            none
      else
        none
    else
      none
  else
    none
noncomputable def G92x0 (v1 : LD) (v2 : LB) (v3 v4 : Int) (v6 v8 : LD) (v9 : Bool) (v10 : LD) (v11 : Bool) (v12 : LD) : Option (Sum (LD) (Bool × LD)) := F92x0 N v1 v2 v3 v4 v6 v8 v9 v10 v11 v12 (fun p => some (.inl p)) (fun p => some (.inr p))
theorem bind92x0 (v1 : LD) (v2 : LB) (v3 v4 : Int) (v6 v8 : LD) (v9 : Bool) (v10 : LD) (v11 : Bool) (v12 : LD) (k0 : LD → Option R) (k1 : Bool × LD → Option R) : F92x0 N v1 v2 v3 v4 v6 v8 v9 v10 v11 v12 k0 k1 = (G92x0 N v1 v2 v3 v4 v6 v8 v9 v10 v11 v12).bind (sumE k0 k1) := by
  unfold G92x0 F92x0
  repeat' (first | with_reducible apply cond_b | (with_reducible apply bnd_b; intro _) | rfl)
noncomputable def J92x0 (L : List Lf) (k0 : LD → Option R) (k1 : Bool × LD → Option R) : Option R := F92x0 N (ll L 1) (ls L 2) (li L 3) (li L 4) (ll L 6) (ll L 8) (lb L 9) (ll L 10) (lb L 11) (ll L 12) k0 k1
noncomputable def sh92x0 : Sh := { tmps := [(0, .c (.y 4)), (1, .c (.p 0 0)), (2, .c (.p 1 0))], mem := [(0, .box ([.sl 70])), (1, .box (.s :: [.i .i64, .i .i64, .sl 48, .sl 111, .sl 9])), (2, .box ([.o 3])), (3, .row 29 true), (4, .row 3 true)] }
noncomputable def K92x0w0 (L : List Lf) (p : LD) : Res := ([], mgA (ofSh sh92x0 L).mem [(2, .box [.o 68000000033]), (68000000033, .row 29 true false p)] [0, 1, 2, 4, 68000000033])
noncomputable def K92x0w1 (L : List Lf) (p : Bool × LD) : Res := ([], mgA (ofSh sh92x0 L).mem [(2, .box [.o 50002005]), (50002005, .row 29 true p.1 p.2)] [0, 1, 2, 4, 50002005])
noncomputable def A92x0 (L : List Lf) : List (Bool × Res) := bnd (J92x0 N L (fun p => some (.inl p)) (fun p => some (.inr p))) fun q => [((inlB q), K92x0w0 L (inlV q)), ((inrQ q).isSome, K92x0w1 L ((inrQ q).getD default))]
theorem raw92x0 (L : List Lf) : bd Try.prog (T94x0 N) (h92x0s6 N).h 92 sh92x0 L = J92x0 N L (fun p => some (K92x0w0 L p)) (fun p => some (K92x0w1 L p)) := by kernel_rfl
theorem ok92x0 : FnOkX (YCtx y44x0z600000022) Try.prog 92 sh92x0 (A92x0 N) :=
  (h92x0s6 N).fnX progOk (T94x0_ok N) fun L x hx => ((raw92x0 N L).trans ((bind92x0 N ..).trans ((altS alt1) x hx)))
noncomputable def rg44x0 : List (Nat × List Nat) := [(0, [0, 1, 2]), (1, [3, 1, 2]), (2, [2, 7]), (3, [2, 7, 8]), (4, [17, 16, 15, 7, 8]), (5, [15, 17, 7, 16, 8]), (6, [7, 10, 17, 16, 15, 8]), (9, [17, 16, 15, 7, 8]), (10, [8])]
noncomputable def hd44x0 : Hints := [(12, [17, 16, 15, 7, 8], [8, 50008000], [50008000]), (600000022, [17, 16, 15, 7, 8, 23], [24000000003, 24000000002, 50008000, 8], [])]
noncomputable def h44x0s0 (N : Nat) : Sg Try.prog 0 44 := .start hd44x0 rg44x0
noncomputable def F44x0x600000022 (w6 : Bool) (w7 w9 : LD) (w10 : LB) (w11 w12 : Int) (w14 w16 : LD) (w17 : Bool) (w18 : LD) (k0 : LD → Option R) (k1 : Bool × LD → Option R) : Option R :=
  bnd (G92x0 N w9 w10 w11 w12 w14 w16 w17 w18 w6 w7) fun y0 =>
  bif (inlB y0) then
    k0 (inlV y0)
  else
    bif (inrQ y0).isSome then
      k1 ((inrQ y0).getD default)
    else
      none
noncomputable def G44x0x600000022 (w6 : Bool) (w7 w9 : LD) (w10 : LB) (w11 w12 : Int) (w14 w16 : LD) (w17 : Bool) (w18 : LD) : Option (Sum (LD) (Bool × LD)) := F44x0x600000022 N w6 w7 w9 w10 w11 w12 w14 w16 w17 w18 (fun p => some (.inl p)) (fun p => some (.inr p))
theorem bind44x0x600000022 (w6 : Bool) (w7 w9 : LD) (w10 : LB) (w11 w12 : Int) (w14 w16 : LD) (w17 : Bool) (w18 : LD) (k0 : LD → Option R) (k1 : Bool × LD → Option R) : F44x0x600000022 N w6 w7 w9 w10 w11 w12 w14 w16 w17 w18 k0 k1 = (G44x0x600000022 N w6 w7 w9 w10 w11 w12 w14 w16 w17 w18).bind (sumE k0 k1) := by
  unfold G44x0x600000022 F44x0x600000022
  repeat' (first | with_reducible apply cond_b | (with_reducible apply bnd_b; intro _) | rfl)
noncomputable def J44x0x600000022 (L : List Lf) (k0 : LD → Option R) (k1 : Bool × LD → Option R) : Option R := F44x0x600000022 N (lb L 6) (ll L 7) (ll L 9) (ls L 10) (li L 11) (li L 12) (ll L 14) (ll L 16) (lb L 17) (ll L 18) k0 k1
noncomputable def sh44x0x600000022 : Sh := { tmps := [(7, .c (.sl 70)), (8, .c (.p 8 0)), (15, .c (.sl 29)), (16, .c (.i .i64)), (17, .c (.i .i64)), (23, .c (.f 92 [(24000000002, 0), (24000000003, 0)]))], mem := [(8, .box ([.o 50008000])), (50008000, .row 29 true), (24000000002, .box ([.sl 70])), (24000000003, .box (.s :: [.i .i64, .i .i64, .sl 48, .sl 111, .sl 9]))] }
noncomputable def K44x0x600000022w0 (L : List Lf) (p : LD) : Ex × St := (.normal, mg (ofSh sh44x0x600000022 L) [7, 8, 15, 16, 17] [] [8, 1000068000000033] [(8, .box [.o 1000068000000033]), (1000068000000033, .row 29 true false p)])
noncomputable def K44x0x600000022w1 (L : List Lf) (p : Bool × LD) : Ex × St := (.normal, mg (ofSh sh44x0x600000022 L) [7, 8, 15, 16, 17] [] [8, 1000000050002005] [(8, .box [.o 1000000050002005]), (1000000050002005, .row 29 true p.1 p.2)])
noncomputable def A44x0x600000022 (L : List Lf) : List (Bool × (Ex × St)) := bnd (J44x0x600000022 N L (fun p => some (.inl p)) (fun p => some (.inr p))) fun q => [((inlB q), K44x0x600000022w0 L (inlV q)), ((inrQ q).isSome, K44x0x600000022w1 L ((inrQ q).getD default))]
theorem raw44x0x600000022 (L : List Lf) : pcR Try.prog y44x0z600000022 (spSh sh92x0 (A92x0 N)) 92 3 0 44 600000022 sh44x0x600000022 L [17, 16, 15, 7, 8] [1000068000000033, 8, 1000000050002005] = J44x0x600000022 N L (fun p => some (K44x0x600000022w0 L p)) (fun p => some (K44x0x600000022w1 L p)) := by kernel_rfl
noncomputable def h44x0s1 : Sg Try.prog 0 44 :=
  (h44x0s0 N).rf (g := .tmp 23) (A44x0x600000022 N) (ok92x0 N) (fun L x hx => (raw44x0x600000022 N L).trans ((bind44x0x600000022 N ..).trans ((altS alt1) x hx))) (by kernel_rfl)
noncomputable def S44x0x12 (w1 w3 : LD) (w4 : Int) (w5 : Int) (w6 : Bool) (w7 : LD) (kr : Int → Bool → LD → Option R) (k0 : Bool × LD → Option R) : Option R :=
  bif (decide (w5 < w4)) then
    bif (inB w5 w3.length) then
      bnd (G44x0x600000022 N w6 w7 w1 ((w3.getD w5.toNat (.i 0)).cell 0).toS ((w3.getD w5.toNat (.i 0)).cell 1).toI ((w3.getD w5.toNat (.i 0)).cell 2).toI ((w3.getD w5.toNat (.i 0)).cell 3).items ((w3.getD w5.toNat (.i 0)).cell 4).items ((w3.getD w5.toNat (.i 0)).cell 5).isNil ((w3.getD w5.toNat (.i 0)).cell 5).items) fun y0 =>
      bif (inlB y0) then
        kr (IntKind.wrap .i64 (w5 + 1)) false (inlV y0)
      else
        bif (inrQ y0).isSome then
          kr (IntKind.wrap .i64 (w5 + 1)) ((inrQ y0).getD default).1 ((inrQ y0).getD default).2
        else
          none
    else
      none
  else
    k0 (w6, w7)
noncomputable def L44x0x12 (N : Nat) {R : Type} (w1 w3 : LD) (w4 : Int) : Nat → Int → Bool → LD → (Bool × LD → Option R) → Option R
  | 0, _, _, _, _ => none
  | m + 1, w5, w6, w7, k0 => S44x0x12 N w1 w3 w4 w5 w6 w7 (fun w5 w6 w7 => L44x0x12 N w1 w3 w4 m w5 w6 w7 k0) k0
noncomputable def G44x0x12 (w1 w3 : LD) (w4 : Int) (w5 : Int) (w6 : Bool) (w7 : LD) : Option (Bool × LD) := L44x0x12 N (R := (Bool × LD)) w1 w3 w4 N w5 w6 w7 (fun p => some p)
noncomputable def J44x0x12 (L x : List Lf) (kr : List Lf → Option R) (k0 : Bool × LD → Option R) : Option R := S44x0x12 N (ll L 1) (ll L 3) (li L 4) (li x 0) (lb x 1) (ll x 2) (fun w5 w6 w7 => kr [.i w5, .b w6, .l w7]) k0
theorem sb44x0x12 (L x : List Lf) (kr : List Lf → Option R) (k0 : Bool × LD → Option R) : J44x0x12 N L x kr k0 = (J44x0x12 N L x (fun y => some (.inl y)) (fun p => some (.inr p))).bind (sumE kr k0) := by
  unfold J44x0x12 S44x0x12
  repeat' (first | with_reducible apply cond_b | (with_reducible apply bnd_b; intro _) | rfl)
noncomputable def Q44x0x12 (L : List Lf) (m : Nat) (x : List Lf) : Option (Bool × LD) := L44x0x12 N (R := (Bool × LD)) (ll L 1) (ll L 3) (li L 4) m (li x 0) (lb x 1) (ll x 2) (fun p => some p)
noncomputable def sh44x0x12 : Sh := { tmps := [(7, .c (.sl 70)), (8, .c (.p 8 0)), (15, .c (.sl 29)), (16, .c (.i .i64)), (17, .c (.i .i64))], mem := [(8, .box ([.o 50008000])), (50008000, .row 29 true)] }
noncomputable def K44x0x12w0 (L : List Lf) (p : Bool × LD) : Ex × St := ((.exit 0), mg (ofSh sh44x0x12 L) [8] [] [8, 50008000] [(50008000, .row 29 true p.1 p.2)])
noncomputable def A44x0x12 (L : List Lf) : List (Bool × (Ex × St)) := bnd (Q44x0x12 N L N (pk sh44x0x12 [5, 6, 7] L)) fun q => [(q.isSome, K44x0x12w0 L (q.getD default))]
theorem step44x0x12 (m : Nat) (kn : St → Option (Ex × St)) (L x : List Lf) : lpB Try.prog (T94x0 N) (h44x0s1 N).h 0 44 12 sh44x0x12 [5, 6, 7] [6, 8] [50008000, 8] (m + 100) kn L x = J44x0x12 N L x (fun y => kn (ofSh sh44x0x12 (mx sh44x0x12 [5, 6, 7] L y))) (fun p => some (K44x0x12w0 L p)) := by kernel_rfl
theorem ql44x0x12 (L : List Lf) (m : Nat) (x : List Lf) : Q44x0x12 N L (m + 1) x = J44x0x12 N L x (Q44x0x12 N L m) some := by kernel_rfl
noncomputable def h44x0s2 : Sg Try.prog 0 44 :=
  (h44x0s1 N).lp (A44x0x12 N) N progOk (T94x0_ok N) (fun m kn L x => (step44x0x12 N m kn L x).trans (sb44x0x12 N L x _ _)) (fun L m x => (ql44x0x12 N L m x).trans (sb44x0x12 N L x (Q44x0x12 N L m) some)) fun L x hx => alt1 x hx
noncomputable def F44x0 (v1 : LD) (v2 : Int) (v4 : LD) (k0 : Bool × LD → Option R) : Option R :=
  bnd (G41x0 N v1 v2) fun y0 =>
  bif y0.isSome then
    bnd (G44x0x12 N (y0.getD default).2 v4 (v4.length : Int) 0 true []) fun y1 =>
    bif y1.isSome then
      k0 (y1.getD default)
    else
      none
  else
    none
noncomputable def G44x0 (v1 : LD) (v2 : Int) (v4 : LD) : Option (Bool × LD) := F44x0 N v1 v2 v4 (fun p => some p)
theorem bind44x0 (v1 : LD) (v2 : Int) (v4 : LD) (k0 : Bool × LD → Option R) : F44x0 N v1 v2 v4 k0 = (G44x0 N v1 v2 v4).bind k0 := by
  unfold G44x0 F44x0
  repeat' (first | with_reducible apply cond_b | (with_reducible apply bnd_b; intro _) | rfl)
noncomputable def sh44x0 : Sh := { tmps := [(0, .g ([.sl 70])), (1, .c (.i .i64)), (2, .c (.sl 29))], mem := [] }
noncomputable def A44x0 (L : List Lf) : List (Bool × Res) := bnd (F44x0 N (ll L 1) (li L 2) (ll L 4) (fun p => some p)) fun q => [(q.isSome, ([.c (.sl 29 (q.getD default).1 (q.getD default).2)], []))]
theorem raw44x0 (L : List Lf) : bd Try.prog (T94x0 N) (h44x0s2 N).h 44 sh44x0 L = F44x0 N (ll L 1) (li L 2) (ll L 4) (fun p => some ([.c (.sl 29 p.1 p.2)], [])) := by kernel_rfl
theorem ok44x0 : FnOk Try.prog 44 sh44x0 (A44x0 N) :=
  (h44x0s2 N).fn progOk (T94x0_ok N) fun L x hx => ((raw44x0 N L).trans ((bind44x0 N ..).trans (alt1 x hx)))
noncomputable def T44x0 : Oracle := ext 44 (spSh sh44x0 (A44x0 N)) (T94x0 N)
theorem T44x0_ok : OracleOk Try.prog (T44x0 N) := FnOk.to (ok44x0 N) (T94x0_ok N)
noncomputable def rg13x0 : List (Nat × List Nat) := [(0, [0, 2, 1]), (1, [3, 1, 5]), (2, [8, 3, 1, 5]), (3, [8]), (4, [3, 1, 5])]
noncomputable def hd13x0 : Hints := []
noncomputable def h13x0s0 (N : Nat) : Sg Try.prog 0 13 := .start hd13x0 rg13x0
noncomputable def F13x0 (v1 : LD) (v2 : Int) (v3 : LB) (v4 v5 : Int) (v6 : Bool) (v7 : LD) (v8 : Bool) (v9 : LD) (v10 : Bool) (v11 : LD) (k0 : Bool × LD × Int → Option R) : Option R :=
  bnd (G39x0 N v1 v2 [(.a [(.s v3), (.i v4), (.i v5), (.l v6 v7), (.l v8 v9), (.l v10 v11)])]) fun y0 =>
  bif y0.isSome then
    bif ((y0.getD default) != 0) then
      k0 (true, [], (y0.getD default))
    else
      bnd (G44x0 N v1 v2 [(.a [(.s v3), (.i v4), (.i v5), (.l v6 v7), (.l v8 v9), (.l v10 v11)])]) fun y1 =>
      bif y1.isSome then
        k0 ((y1.getD default).1, (y1.getD default).2, 0)
      else
        none
  else
    none
noncomputable def G13x0 (v1 : LD) (v2 : Int) (v3 : LB) (v4 v5 : Int) (v6 : Bool) (v7 : LD) (v8 : Bool) (v9 : LD) (v10 : Bool) (v11 : LD) : Option (Bool × LD × Int) := F13x0 N v1 v2 v3 v4 v5 v6 v7 v8 v9 v10 v11 (fun p => some p)
theorem bind13x0 (v1 : LD) (v2 : Int) (v3 : LB) (v4 v5 : Int) (v6 : Bool) (v7 : LD) (v8 : Bool) (v9 : LD) (v10 : Bool) (v11 : LD) (k0 : Bool × LD × Int → Option R) : F13x0 N v1 v2 v3 v4 v5 v6 v7 v8 v9 v10 v11 k0 = (G13x0 N v1 v2 v3 v4 v5 v6 v7 v8 v9 v10 v11).bind k0 := by
  unfold G13x0 F13x0
  repeat' (first | with_reducible apply cond_b | (with_reducible apply bnd_b; intro _) | rfl)
noncomputable def J13x0 (L : List Lf) (k0 : Bool × LD × Int → Option R) : Option R := F13x0 N (ll L 1) (li L 2) (ls L 3) (li L 4) (li L 5) (lb L 6) (ll L 7) (lb L 8) (ll L 9) (lb L 10) (ll L 11) k0
noncomputable def sh13x0 : Sh := { tmps := [(0, .g ([.sl 70])), (1, .c (.i .i64)), (2, .g (.s :: [.i .i64, .i .i64, .sl 48, .sl 111, .sl 9]))], mem := [] }
noncomputable def A13x0 (L : List Lf) : List (Bool × Res) := bnd (J13x0 N L (fun p => some p)) fun q => [(q.isSome, ([.c (.sl 29 (q.getD default).1 (q.getD default).2.1), .c (.i .i64 (q.getD default).2.2)], []))]
theorem raw13x0 (L : List Lf) : bd Try.prog (T44x0 N) (h13x0s0 N).h 13 sh13x0 L = J13x0 N L (fun p => some ([.c (.sl 29 p.1 p.2.1), .c (.i .i64 p.2.2)], [])) := by kernel_rfl
theorem ok13x0 : FnOk Try.prog 13 sh13x0 (A13x0 N) :=
  (h13x0s0 N).fn progOk (T44x0_ok N) fun L x hx => ((raw13x0 N L).trans ((bind13x0 N ..).trans (alt1 x hx)))
noncomputable def T13x0 : Oracle := ext 13 (spSh sh13x0 (A13x0 N)) (T44x0 N)
theorem T13x0_ok : OracleOk Try.prog (T13x0 N) := FnOk.to (ok13x0 N) (T44x0_ok N)
noncomputable def rg12x0 : List (Nat × List Nat) := [(0, []), (1, []), (2, [1]), (3, [1, 2]), (4, [4, 3])]
noncomputable def hd12x0 : Hints := []
noncomputable def h12x0s0 (N : Nat) : Sg Try.prog 0 12 := .start hd12x0 rg12x0
noncomputable def F12x0 (k0 : Bool → Option R) : Option R :=
  bnd (G13x0 N [(.a [(.i 2), (.i 1), (.i 0), (.i 0), (.i 10), (.i 0), (.i 0), (.i 0), (.s ([] : List UInt8))])] 2 ([109] : List UInt8) 1 0 false [(.a [(.i 0), (.i 0), (.i 0), (.i 0), (.i (-1)), (.i (-1)), (.i (-1))]), (.a [(.i 10), (.i 100), (.i 0), (.i 0), (.i (-1)), (.i (-1)), (.i (-1))])] true [] true []) fun y0 =>
  bif y0.isSome then
    bnd (bif ((y0.getD default).2.2 == 0) then (((y0.getD default).2.1.length : Int) == 1) else false) fun y1 =>
    bif (bif (inB 0 (y0.getD default).2.1.length) then true else (!(y1 == true))) then
      bnd (bif y1 then ((((y0.getD default).2.1.getD 0 (.i 0)).cell 2).toI == 10) else false) fun y2 =>
      bif (bif (inB 0 (y0.getD default).2.1.length) then true else (!(y2 == true))) then
        bnd (bif y2 then (((((y0.getD default).2.1.getD 0 (.i 0)).cell 3).items.length : Int) == 1) else false) fun y3 =>
        bif (bif (inB 0 (y0.getD default).2.1.length) then true else (!(y3 == true))) then
          bif (bif (inB 0 (((y0.getD default).2.1.getD 0 (.i 0)).cell 3).items.length) then true else (!(y3 == true))) then
            bnd (bif y3 then ((((((y0.getD default).2.1.getD 0 (.i 0)).cell 3).items.getD 0 (.i 0)).cell 1).toI == 100) else false) fun y4 =>
            k0 y4
          else
            none
        else
          none
      else
        none
    else
      none
  else
    none
noncomputable def G12x0 : Option (Bool) := F12x0 N (fun p => some p)
theorem bind12x0 (k0 : Bool → Option R) : F12x0 N k0 = (G12x0 N).bind k0 := by
  unfold G12x0 F12x0
  repeat' (first | with_reducible apply cond_b | (with_reducible apply bnd_b; intro _) | rfl)
noncomputable def sh12x0 : Sh := { tmps := [], mem := [] }
noncomputable def A12x0 (L : List Lf) : List (Bool × Res) := bnd (F12x0 N (fun p => some p)) fun q => [(q.isSome, ([.c (.b (q.getD default))], []))]
theorem raw12x0 (L : List Lf) : bd Try.prog (T13x0 N) (h12x0s0 N).h 12 sh12x0 L = F12x0 N (fun p => some ([.c (.b p)], [])) := by kernel_rfl
theorem ok12x0 : FnOk Try.prog 12 sh12x0 (A12x0 N) :=
  (h12x0s0 N).fn progOk (T13x0_ok N) fun L x hx => ((raw12x0 N L).trans ((bind12x0 N ..).trans (alt1 x hx)))
noncomputable def T12x0 : Oracle := ext 12 (spSh sh12x0 (A12x0 N)) (T13x0 N)
theorem T12x0_ok : OracleOk Try.prog (T12x0 N) := FnOk.to (ok12x0 N) (T13x0_ok N)
noncomputable def rg9x0 : List (Nat × List Nat) := [(0, [0, 1, 2, 3]), (1, [4, 5, 6, 7]), (2, [4, 5, 6, 7, 9, 10]), (3, [6, 7, 9, 11, 10, 12]), (4, [6, 7, 9, 11, 10, 12, 13, 14]), (5, [9, 11, 10, 12, 13, 15, 14, 16])]
noncomputable def hd9x0 : Hints := [(16, [9, 11, 10, 12, 13, 15, 14, 16], [15, 13], [])]
noncomputable def h9x0s0 (N : Nat) : Sg Try.prog 0 9 := .start hd9x0 rg9x0
noncomputable def F9x0x16 (w0 : Bool) (w1 : Int) (w2 : Bool) (w3 w4 w5 : Int) (w7 w9 : LD) (k0 : Bool → Option R) : Option R :=
  bif (bif (w0 == w2) then (w1 == w3) else false) then
    bnd (G29x0 N w7 w9) fun y0 =>
    bif y0.isSome then
      bif (bif (y0.getD default) then (w4 == w5) else false) then
        bnd (G12x0 N) fun y1 =>
        bif y1.isSome then
          k0 (y1.getD default)
        else
          none
      else
        k0 false
    else
      none
  else
    k0 false
noncomputable def G9x0x16 (w0 : Bool) (w1 : Int) (w2 : Bool) (w3 w4 w5 : Int) (w7 w9 : LD) : Option (Bool) := F9x0x16 N w0 w1 w2 w3 w4 w5 w7 w9 (fun p => some p)
theorem bind9x0x16 (w0 : Bool) (w1 : Int) (w2 : Bool) (w3 w4 w5 : Int) (w7 w9 : LD) (k0 : Bool → Option R) : F9x0x16 N w0 w1 w2 w3 w4 w5 w7 w9 k0 = (G9x0x16 N w0 w1 w2 w3 w4 w5 w7 w9).bind k0 := by
  unfold G9x0x16 F9x0x16
  repeat' (first | with_reducible apply cond_b | (with_reducible apply bnd_b; intro _) | rfl)
noncomputable def J9x0x16 (L : List Lf) (k0 : Bool → Option R) : Option R := F9x0x16 N (lb L 0) (li L 1) (lb L 2) (li L 3) (li L 4) (li L 5) (ll L 7) (ll L 9) k0
noncomputable def sh9x0x16 : Sh := { tmps := [(9, .c (.b)), (10, .c (.i .i64)), (11, .c (.b)), (12, .c (.i .i64)), (13, .c (.p 13 0)), (14, .c (.i .i64)), (15, .c (.p 15 0)), (16, .c (.i .i64))], mem := [(13, .box ([.sl 70])), (15, .box ([.sl 70]))] }
noncomputable def A9x0x16 (L : List Lf) : List (Bool × (Ex × St)) := bnd (J9x0x16 N L (fun p => some p)) fun q => [(q.isSome, (.normal, ⟨[(8, .c (.b (q.getD default)))], []⟩))]
theorem raw9x0x16 (L : List Lf) : pc Try.prog (T12x0 N) (h9x0s0 N).h 0 100 9 16 sh9x0x16 L [8] [] = J9x0x16 N L (fun p => some (.normal, ⟨[(8, .c (.b p))], []⟩)) := by kernel_rfl
noncomputable def h9x0s1 : Sg Try.prog 0 9 :=
  (h9x0s0 N).cut (A9x0x16 N) progOk (T12x0_ok N) fun L x hx => (raw9x0x16 N L).trans ((bind9x0x16 N ..).trans (alt1 x hx))
noncomputable def F9x0 (v0 v1 v2 v3 v4 v5 v6 v7 : Int) (v8 : LB) (v9 v10 v11 v12 v13 v14 v15 v16 : Int) (v17 : LB) (v18 : Bool) (v19 : LD) (v20 : Bool) (v21 : LD) (k0 : Bool → Option R) : Option R :=
  bnd (G35x0 N v0 v1 v2 v3 v4 v5 v6 v7 v8 v9 v10 v11 v12 v13 v14 v15 v16 v17) fun y0 =>
  bif y0.isSome then
    bnd (G36x0 N v0 v1 v2 v3 v4 v5 v6 v7 v8 v9 v10 v11 v12 v13 v14 v15 v16 v17) fun y1 =>
    bif y1.isSome then
      bnd (G37x0 N v18 v19 v20 v21) fun y2 =>
      bif y2.isSome then
        bnd (G38x0 N v18 v19 v20 v21) fun y3 =>
        bif y3.isSome then
          bnd (G9x0x16 N (y0.getD default).1 (y0.getD default).2 (y1.getD default).1 (y1.getD default).2 (y2.getD default).2.2 (y3.getD default).2.2 (y2.getD default).2.1 (y3.getD default).2.1) fun y4 =>
          bif y4.isSome then
            k0 (y4.getD default)
          else
            none
        else
          none
      else
        none
    else
      none
  else
    none
noncomputable def G9x0 (v0 v1 v2 v3 v4 v5 v6 v7 : Int) (v8 : LB) (v9 v10 v11 v12 v13 v14 v15 v16 : Int) (v17 : LB) (v18 : Bool) (v19 : LD) (v20 : Bool) (v21 : LD) : Option (Bool) := F9x0 N v0 v1 v2 v3 v4 v5 v6 v7 v8 v9 v10 v11 v12 v13 v14 v15 v16 v17 v18 v19 v20 v21 (fun p => some p)
theorem bind9x0 (v0 v1 v2 v3 v4 v5 v6 v7 : Int) (v8 : LB) (v9 v10 v11 v12 v13 v14 v15 v16 : Int) (v17 : LB) (v18 : Bool) (v19 : LD) (v20 : Bool) (v21 : LD) (k0 : Bool → Option R) : F9x0 N v0 v1 v2 v3 v4 v5 v6 v7 v8 v9 v10 v11 v12 v13 v14 v15 v16 v17 v18 v19 v20 v21 k0 = (G9x0 N v0 v1 v2 v3 v4 v5 v6 v7 v8 v9 v10 v11 v12 v13 v14 v15 v16 v17 v18 v19 v20 v21).bind k0 := by
  unfold G9x0 F9x0
  repeat' (first | with_reducible apply cond_b | (with_reducible apply bnd_b; intro _) | rfl)
noncomputable def J9x0 (L : List Lf) (k0 : Bool → Option R) : Option R := F9x0 N (li L 0) (li L 1) (li L 2) (li L 3) (li L 4) (li L 5) (li L 6) (li L 7) (ls L 8) (li L 9) (li L 10) (li L 11) (li L 12) (li L 13) (li L 14) (li L 15) (li L 16) (ls L 17) (lb L 18) (ll L 19) (lb L 20) (ll L 21) k0
noncomputable def sh9x0 : Sh := { tmps := [(0, .g (rI 8 ([.s]))), (1, .g (rI 8 ([.s]))), (2, .g ([.sl 70])), (3, .g ([.sl 70]))], mem := [] }
noncomputable def A9x0 (L : List Lf) : List (Bool × Res) := bnd (J9x0 N L (fun p => some p)) fun q => [(q.isSome, ([.c (.b (q.getD default))], []))]
theorem raw9x0 (L : List Lf) : bd Try.prog (T12x0 N) (h9x0s1 N).h 9 sh9x0 L = J9x0 N L (fun p => some ([.c (.b p)], [])) := by kernel_rfl
theorem ok9x0 : FnOk Try.prog 9 sh9x0 (A9x0 N) :=
  (h9x0s1 N).fn progOk (T12x0_ok N) fun L x hx => ((raw9x0 N L).trans ((bind9x0 N ..).trans (alt1 x hx)))
noncomputable def T9x0 : Oracle := ext 9 (spSh sh9x0 (A9x0 N)) (T12x0 N)
theorem T9x0_ok : OracleOk Try.prog (T9x0 N) := FnOk.to (ok9x0 N) (T12x0_ok N)
end Go.Proofs.Ytngnemeafkmaoaa
