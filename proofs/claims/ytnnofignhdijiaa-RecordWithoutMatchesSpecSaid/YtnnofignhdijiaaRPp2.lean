/- Functions of the program as plain Lean definitions, each with the proof that the program computes it. No condition. Printed by a program of the prover, part 2. -/
import Derived.Test.YtnnofignhdijiaaRPp1
import Derived.KernelRfl
set_option linter.all false
set_option maxRecDepth 100000
namespace Go.Proofs.Ytnnofignhdijiaa
open Go Go.AM
variable (N : Nat) {R : Type}
theorem bind107x0 (v0 : Int) (v2 v5 : LD) (k0 : LD → Option R) : F107x0 N v0 v2 v5 k0 = (G107x0 N v0 v2 v5).bind k0 := by
  unfold G107x0 F107x0
  repeat' (first | with_reducible apply cond_b | (with_reducible apply bnd_b; intro _) | rfl)
noncomputable def sh107x0 : Sh := { tmps := [(0, .c (.p 0 0)), (1, .c (.i .i64)), (2, .c (.sl 37))], mem := [(0, .box ([.o 1, .b])), (1, .row 53 true)] }
noncomputable def K107x0w0 (L : List Lf) (p : LD) : Res := ([], [(0, .box [.o 33, .b (lb L 3)]), (33, .row 53 true false p)])
noncomputable def A107x0 (L : List Lf) : List (Bool × Res) := bnd (F107x0 N (li L 0) (ll L 2) (ll L 5) (fun p => some p)) fun q => [(q.isSome, K107x0w0 L (q.getD default))]
theorem raw107x0 (L : List Lf) : bd Try.prog (T109x0 N) (h107x0s1 N).h 107 sh107x0 L = F107x0 N (li L 0) (ll L 2) (ll L 5) (fun p => some (K107x0w0 L p)) := by kernel_rfl
theorem ok107x0 : FnOk Try.prog 107 sh107x0 (A107x0 N) :=
  (h107x0s1 N).fn progOk (T109x0_ok N) fun L x hx => ((raw107x0 N L).trans ((bind107x0 N ..).trans (alt1 x hx)))
noncomputable def T107x0 : Oracle := ext 107 (spSh sh107x0 (A107x0 N)) (T109x0 N)
theorem T107x0_ok : OracleOk Try.prog (T107x0 N) := FnOk.to (ok107x0 N) (T109x0_ok N)
noncomputable def rg106x1 : List (Nat × List Nat) := [(0, [0, 1, 2, 3])]
noncomputable def hd106x1 : Hints := []
noncomputable def h106x1s0 (N : Nat) : Sg Try.prog 2 106 := .start hd106x1 rg106x1
noncomputable def F106x1 (N : Nat) (v0 v1 : Int) (v2 : Bool) (v3 : LD) (v4 : Bool) (v6 : LD) (k0 : LD → Option R) : Option R :=
  bif (decide ((v6.length + 1) * 72 ≤ room) && decide ((v6.length + 1) ≤ strMax)) then
    bnd ((v6 ++ [(.a [(.i 1), (.i v0), (.i 0), (.l false [(.a [(.b v4), (.i v1), (.l v2 v3)])]), (.l true [])])]) : List D) fun y0 =>
    k0 y0
  else
    none
noncomputable def G106x1 (v0 v1 : Int) (v2 : Bool) (v3 : LD) (v4 : Bool) (v6 : LD) : Option (LD) := F106x1 N v0 v1 v2 v3 v4 v6 (fun p => some p)
theorem bind106x1 (v0 v1 : Int) (v2 : Bool) (v3 : LD) (v4 : Bool) (v6 : LD) (k0 : LD → Option R) : F106x1 N v0 v1 v2 v3 v4 v6 k0 = (G106x1 N v0 v1 v2 v3 v4 v6).bind k0 := by
  unfold G106x1 F106x1
  repeat' (first | with_reducible apply cond_b | (with_reducible apply bnd_b; intro _) | rfl)
noncomputable def J106x1 (L : List Lf) (k0 : LD → Option R) : Option R := F106x1 N (li L 0) (li L 1) (lb L 2) (ll L 3) (lb L 4) (ll L 6) k0
noncomputable def sh106x1 : Sh := { tmps := [(0, .c (.p 0 0)), (1, .c (.i .i64)), (2, .c (.i .i64)), (3, .c (.sl 146))], mem := [(0, .box ([.o 1, .b])), (1, .row 53 true)] }
noncomputable def K106x1w0 (L : List Lf) (p : LD) : Res := ([], [(0, .box [.o 27, .b (lb L 4)]), (27, .row 53 true false p)])
noncomputable def A106x1 (L : List Lf) : List (Bool × Res) := bnd (J106x1 N L (fun p => some p)) fun q => [(q.isSome, K106x1w0 L (q.getD default))]
theorem raw106x1 (L : List Lf) : bd Try.prog (T107x0 N) (h106x1s0 N).h 106 sh106x1 L = J106x1 N L (fun p => some (K106x1w0 L p)) := by kernel_rfl
theorem ok106x1 : FnOk Try.prog 106 sh106x1 (A106x1 N) :=
  (h106x1s0 N).fn progOk (T107x0_ok N) fun L x hx => ((raw106x1 N L).trans ((bind106x1 N ..).trans (alt1 x hx)))
noncomputable def T106x1 : Oracle := ext 106 (spSh sh106x1 (A106x1 N)) (T107x0 N)
theorem T106x1_ok : OracleOk Try.prog (T106x1 N) := FnOk.to (ok106x1 N) (T107x0_ok N)
noncomputable def rg110x0 : List (Nat × List Nat) := [(0, [1, 2, 0]), (1, [4, 5, 0]), (2, [5, 0, 4]), (3, [6, 0, 4]), (4, [20, 6, 0, 4]), (5, [20, 6, 0, 4]), (6, [6, 7, 20, 0, 4]), (7, [20, 6, 0, 4]), (8, [6, 0, 4]), (9, [29, 6, 0, 4]), (10, [29, 6, 0, 4]), (11, [6, 8, 29, 0, 4]), (12, [29, 6, 0, 4]), (13, [0, 6, 4]), (14, [4, 0]), (15, [45, 44, 43, 4, 0]), (16, [45, 43, 4, 0, 44]), (17, [4, 10, 0, 9, 45, 44, 43]), (18, [0, 11, 10, 9, 4, 45, 44, 43]), (19, [9, 10, 4, 0, 12, 11, 45, 44, 43]), (23, [0, 12, 45, 44, 43, 4]), (20, [0, 12, 11, 45, 44, 43, 4]), (21, [0, 11, 45, 44, 43, 4]), (22, [13, 11, 45, 44, 43, 4, 0]), (24, [45, 44, 43, 4, 0])]
noncomputable def hd110x0 : Hints := [(12, [20, 6, 0, 4], [21, 6, 1, 0, 8, 50000002], [6, 50000000]), (27, [29, 6, 0, 4], [8, 6, 50000002, 0], [6, 50000000]), (45, [45, 44, 43, 4, 0], [6, 42000000029, 0, 50000002], [50000000]), (58, [9, 10, 4, 0, 12, 11, 45, 44, 43], [84, 12, 6, 50000002, 0], []), (69062, [0, 12, 11, 45, 44, 43, 4, 97], [84, 6, 50000002, 0], [])]
noncomputable def h110x0s0 (N : Nat) : Sg Try.prog 2 110 := .start hd110x0 rg110x0
noncomputable def S110x0x12 (N : Nat) (w0 : Int) (w11 : Bool) (w12 : LD) (kr : Int → Bool → LD → Option R) (k0 : Bool × LD → Option R) : Option R :=
  bif (decide (w0 < 3)) then
    bif (decide ((w12.length + 1) * 24 ≤ room) && decide ((w12.length + 1) ≤ strMax)) then
      kr (IntKind.wrap .i64 (w0 + 1)) false (w12 ++ [(.a [(.i w0), (.i 4), (.i 1)])])
    else
      none
  else
    k0 (w11, w12)
noncomputable def L110x0x12 (N : Nat) {R : Type} : Nat → Int → Bool → LD → (Bool × LD → Option R) → Option R
  | 0, _, _, _, _ => none
  | m + 1, w0, w11, w12, k0 => S110x0x12 N w0 w11 w12 (fun w0 w11 w12 => L110x0x12 N m w0 w11 w12 k0) k0
noncomputable def G110x0x12 (w0 : Int) (w11 : Bool) (w12 : LD) : Option (Bool × LD) := L110x0x12 N (R := (Bool × LD)) N w0 w11 w12 (fun p => some p)
noncomputable def J110x0x12 (L x : List Lf) (kr : List Lf → Option R) (k0 : Bool × LD → Option R) : Option R := S110x0x12 N (li x 0) (lb x 1) (ll x 2) (fun w0 w11 w12 => kr [.i w0, .b w11, .l w12]) k0
theorem sb110x0x12 (L x : List Lf) (kr : List Lf → Option R) (k0 : Bool × LD → Option R) : J110x0x12 N L x kr k0 = (J110x0x12 N L x (fun y => some (.inl y)) (fun p => some (.inr p))).bind (sumE kr k0) := by
  unfold J110x0x12 S110x0x12
  repeat' (first | with_reducible apply cond_b | (with_reducible apply bnd_b; intro _) | rfl)
noncomputable def Q110x0x12 (L : List Lf) (m : Nat) (x : List Lf) : Option (Bool × LD) := L110x0x12 N (R := (Bool × LD)) m (li x 0) (lb x 1) (ll x 2) (fun p => some p)
noncomputable def sh110x0x12 : Sh := { tmps := [(0, .c (.p 0 0)), (4, .c (.p 6 0)), (6, .c (.o 8)), (20, .c (.i .i64))], mem := [(0, .box ([.o 50000002, .b])), (6, .box (.s :: [.i .i64, .i .i64, .sl 78, .sl 82, .sl 9])), (8, .row 146 true), (50000002, .row 53 true)] }
noncomputable def K110x0x12w0 (L : List Lf) (p : Bool × LD) : Ex × St := ((.exit 0), mg (ofSh sh110x0x12 L) [0, 4, 6] [] [0, 6, 8, 50000002] [(8, .row 146 true p.1 p.2)])
noncomputable def A110x0x12 (L : List Lf) : List (Bool × (Ex × St)) := bnd (Q110x0x12 N L N (pk sh110x0x12 [0, 11, 12] L)) fun q => [(q.isSome, K110x0x12w0 L (q.getD default))]
theorem step110x0x12 (m : Nat) (kn : St → Option (Ex × St)) (L x : List Lf) : lpB Try.prog (T106x1 N) (h110x0s0 N).h 2 110 12 sh110x0x12 [0, 11, 12] [6, 0, 4] [8, 6, 50000002, 0] (m + 100) kn L x = J110x0x12 N L x (fun y => kn (ofSh sh110x0x12 (mx sh110x0x12 [0, 11, 12] L y))) (fun p => some (K110x0x12w0 L p)) := by kernel_rfl
theorem ql110x0x12 (L : List Lf) (m : Nat) (x : List Lf) : Q110x0x12 N L (m + 1) x = J110x0x12 N L x (Q110x0x12 N L m) some := by kernel_rfl
noncomputable def h110x0s1 : Sg Try.prog 2 110 :=
  (h110x0s0 N).lp (A110x0x12 N) N progOk (T106x1_ok N) (fun m kn L x => (step110x0x12 N m kn L x).trans (sb110x0x12 N L x _ _)) (fun L m x => (ql110x0x12 N L m x).trans (sb110x0x12 N L x (Q110x0x12 N L m) some)) fun L x hx => alt1 x hx
noncomputable def S110x0x27 (N : Nat) (w0 : Int) (w11 : Bool) (w12 : LD) (kr : Int → Bool → LD → Option R) (k0 : Bool × LD → Option R) : Option R :=
  bif (decide (w0 < 3)) then
    bif (decide ((w12.length + 1) * 24 ≤ room) && decide ((w12.length + 1) ≤ strMax)) then
      bnd ((w12 ++ [(.a [(.i (IntKind.wrap .i64 (3 + w0))), (.i 2), (.i 0)])]) : List D) fun y0 =>
      kr (IntKind.wrap .i64 (w0 + 1)) false y0
    else
      none
  else
    k0 (w11, w12)
noncomputable def L110x0x27 (N : Nat) {R : Type} : Nat → Int → Bool → LD → (Bool × LD → Option R) → Option R
  | 0, _, _, _, _ => none
  | m + 1, w0, w11, w12, k0 => S110x0x27 N w0 w11 w12 (fun w0 w11 w12 => L110x0x27 N m w0 w11 w12 k0) k0
noncomputable def G110x0x27 (w0 : Int) (w11 : Bool) (w12 : LD) : Option (Bool × LD) := L110x0x27 N (R := (Bool × LD)) N w0 w11 w12 (fun p => some p)
noncomputable def J110x0x27 (L x : List Lf) (kr : List Lf → Option R) (k0 : Bool × LD → Option R) : Option R := S110x0x27 N (li x 0) (lb x 1) (ll x 2) (fun w0 w11 w12 => kr [.i w0, .b w11, .l w12]) k0
theorem sb110x0x27 (L x : List Lf) (kr : List Lf → Option R) (k0 : Bool × LD → Option R) : J110x0x27 N L x kr k0 = (J110x0x27 N L x (fun y => some (.inl y)) (fun p => some (.inr p))).bind (sumE kr k0) := by
  unfold J110x0x27 S110x0x27
  repeat' (first | with_reducible apply cond_b | (with_reducible apply bnd_b; intro _) | rfl)
noncomputable def Q110x0x27 (L : List Lf) (m : Nat) (x : List Lf) : Option (Bool × LD) := L110x0x27 N (R := (Bool × LD)) m (li x 0) (lb x 1) (ll x 2) (fun p => some p)
noncomputable def sh110x0x27 : Sh := { tmps := [(0, .c (.p 0 0)), (4, .c (.p 6 0)), (6, .c (.o 8)), (29, .c (.i .i64))], mem := [(0, .box ([.o 50000002, .b])), (6, .box (.s :: [.i .i64, .i .i64, .sl 78, .sl 82, .sl 9])), (8, .row 146 true), (50000002, .row 53 true)] }
noncomputable def K110x0x27w0 (L : List Lf) (p : Bool × LD) : Ex × St := ((.exit 2), mg (ofSh sh110x0x27 L) [0, 4, 6] [] [0, 6, 8, 50000002] [(8, .row 146 true p.1 p.2)])
noncomputable def A110x0x27 (L : List Lf) : List (Bool × (Ex × St)) := bnd (Q110x0x27 N L N (pk sh110x0x27 [0, 11, 12] L)) fun q => [(q.isSome, K110x0x27w0 L (q.getD default))]
theorem step110x0x27 (m : Nat) (kn : St → Option (Ex × St)) (L x : List Lf) : lpB Try.prog (T106x1 N) (h110x0s1 N).h 2 110 27 sh110x0x27 [0, 11, 12] [0, 6, 4] [8, 6, 50000002, 0] (m + 100) kn L x = J110x0x27 N L x (fun y => kn (ofSh sh110x0x27 (mx sh110x0x27 [0, 11, 12] L y))) (fun p => some (K110x0x27w0 L p)) := by kernel_rfl
theorem ql110x0x27 (L : List Lf) (m : Nat) (x : List Lf) : Q110x0x27 N L (m + 1) x = J110x0x27 N L x (Q110x0x27 N L m) some := by kernel_rfl
noncomputable def h110x0s2 : Sg Try.prog 2 110 :=
  (h110x0s1 N).lp (A110x0x27 N) N progOk (T106x1_ok N) (fun m kn L x => (step110x0x27 N m kn L x).trans (sb110x0x27 N L x _ _)) (fun L m x => (ql110x0x27 N L m x).trans (sb110x0x27 N L x (Q110x0x27 N L m) some)) fun L x hx => alt1 x hx
noncomputable def F110x0x58 (N : Nat) (w0 : Int) (w11 : LD) (w16 : Int) (k0 : Bool → Option R) : Option R :=
  bif (decide (w0 > 0)) then
    bif (inB (IntKind.wrap .i64 (w0 - 1)) w11.length) then
      bnd ((w11.getD (IntKind.wrap .i64 (w0 - 1)).toNat (.i 0)).cell 0).toI fun y0 =>
      k0 (decide ((IntKind.wrap .i64 (w16 - y0)) < 32))
    else
      none
  else
    k0 false
noncomputable def G110x0x58 (w0 : Int) (w11 : LD) (w16 : Int) : Option (Bool) := F110x0x58 N w0 w11 w16 (fun p => some p)
theorem bind110x0x58 (w0 : Int) (w11 : LD) (w16 : Int) (k0 : Bool → Option R) : F110x0x58 N w0 w11 w16 k0 = (G110x0x58 N w0 w11 w16).bind k0 := by
  unfold G110x0x58 F110x0x58
  repeat' (first | with_reducible apply cond_b | (with_reducible apply bnd_b; intro _) | rfl)
noncomputable def sh110x0x58 : Sh := { tmps := [(0, .c (.p 0 0)), (4, .c (.p 6 0)), (9, .c (.i .i64)), (10, .c (.p 12 0)), (11, .c (.i .i64)), (12, .c (.o 84)), (43, .c (.sl 78)), (44, .c (.i .i64)), (45, .c (.i .i64))], mem := [(0, .box ([.o 50000002, .b])), (6, .box (.s :: [.i .i64, .i .i64, .sl 78, .sl 82, .sl 9])), (12, .box (rI 7 ([]))), (84, .row 37 true), (50000002, .row 53 true)] }
noncomputable def K110x0x58w0 (L : List Lf) (p : Bool) : Ex × St := (.normal, mg (ofSh sh110x0x58 L) [0, 4, 11, 12, 43, 44, 45, 97] [(97, .c (.b p))] [0, 6, 84, 50000002] [])
noncomputable def A110x0x58 (L : List Lf) : List (Bool × (Ex × St)) := bnd (F110x0x58 N (li L 0) (ll L 11) (li L 16) (fun p => some p)) fun q => [(q.isSome, K110x0x58w0 L (q.getD default))]
theorem raw110x0x58 (L : List Lf) : pc Try.prog (T106x1 N) (h110x0s2 N).h 2 100 110 58 sh110x0x58 L [0, 12, 11, 45, 44, 43, 4, 97] [84, 6, 50000002, 0] = F110x0x58 N (li L 0) (ll L 11) (li L 16) (fun p => some (K110x0x58w0 L p)) := by kernel_rfl
noncomputable def h110x0s3 : Sg Try.prog 2 110 :=
  (h110x0s2 N).cut (A110x0x58 N) progOk (T106x1_ok N) fun L x hx => (raw110x0x58 N L).trans ((bind110x0x58 N ..).trans (alt1 x hx))
noncomputable def F110x0x69062 (w0 : Int) (w5 : Bool) (w17 w19 : LD) (k0 : LD → Option R) (k1 : LD → Option R) : Option R :=
  bif w5 then
    bif ((decide (1 ≤ (w17.length : Int))) && (decide ((w17.length : Int) ≤ (w17.length : Int)))) then
      bnd (G107x0 N 1 ((w17.take (w17.length : Int).toNat).drop 1) w19) fun y0 =>
      bif y0.isSome then
        bnd (IntKind.wrap .i64 (((y0.getD default).length : Int) - 1)) fun y1 =>
        bif (inB y1 (y0.getD default).length) then
          bif (decide (y1.toNat < (y0.getD default).length)) then
            bnd (((y0.getD default).set y1.toNat (.a [(.i 3), (.i (((y0.getD default).getD y1.toNat (.i 0)).cell 1).toI), (.i (((y0.getD default).getD y1.toNat (.i 0)).cell 2).toI), (.l (((y0.getD default).getD y1.toNat (.i 0)).cell 3).isNil (((y0.getD default).getD y1.toNat (.i 0)).cell 3).items), (.l (((y0.getD default).getD y1.toNat (.i 0)).cell 4).isNil (((y0.getD default).getD y1.toNat (.i 0)).cell 4).items)])) : List D) fun y2 =>
            bif (decide (y1.toNat < y2.length)) then
              bnd ((y2.set y1.toNat (.a [(.i ((y2.getD y1.toNat (.i 0)).cell 0).toI), (.i ((y2.getD y1.toNat (.i 0)).cell 1).toI), (.i (w0.tmod 32)), (.l ((y2.getD y1.toNat (.i 0)).cell 3).isNil ((y2.getD y1.toNat (.i 0)).cell 3).items), (.l ((y2.getD y1.toNat (.i 0)).cell 4).isNil ((y2.getD y1.toNat (.i 0)).cell 4).items)])) : List D) fun y3 =>
              k0 y3
            else
              none
          else
            none
        else
          none
      else
        none
    else
      none
  else
    bnd (G107x0 N 1 w17 w19) fun y4 =>
    bif y4.isSome then
      k1 (y4.getD default)
    else
      none
noncomputable def G110x0x69062 (w0 : Int) (w5 : Bool) (w17 w19 : LD) : Option (Sum (LD) (LD)) := F110x0x69062 N w0 w5 w17 w19 (fun p => some (.inl p)) (fun p => some (.inr p))
theorem bind110x0x69062 (w0 : Int) (w5 : Bool) (w17 w19 : LD) (k0 : LD → Option R) (k1 : LD → Option R) : F110x0x69062 N w0 w5 w17 w19 k0 k1 = (G110x0x69062 N w0 w5 w17 w19).bind (sumE k0 k1) := by
  unfold G110x0x69062 F110x0x69062
  repeat' (first | with_reducible apply cond_b | (with_reducible apply bnd_b; intro _) | rfl)
noncomputable def J110x0x69062 (L : List Lf) (k0 : LD → Option R) (k1 : LD → Option R) : Option R := F110x0x69062 N (li L 0) (lb L 5) (ll L 17) (ll L 19) k0 k1
noncomputable def sh110x0x69062 : Sh := { tmps := [(0, .c (.p 0 0)), (4, .c (.p 6 0)), (11, .c (.i .i64)), (12, .c (.o 84)), (43, .c (.sl 78)), (44, .c (.i .i64)), (45, .c (.i .i64)), (97, .c (.b))], mem := [(0, .box ([.o 50000002, .b])), (6, .box (.s :: [.i .i64, .i .i64, .sl 78, .sl 82, .sl 9])), (84, .row 37 true), (50000002, .row 53 true)] }
noncomputable def K110x0x69062w0 (L : List Lf) (p : LD) : Ex × St := (.normal, mg (ofSh sh110x0x69062 L) [0, 4, 43, 44, 45] [] [0, 6, 102000000035] [(0, .box [.o 102000000035, .b (lb L 6)]), (102000000035, .row 53 true false p)])
noncomputable def K110x0x69062w1 (L : List Lf) (p : LD) : Ex × St := (.normal, mg (ofSh sh110x0x69062 L) [0, 4, 43, 44, 45] [] [0, 6, 126000000035] [(0, .box [.o 126000000035, .b (lb L 6)]), (126000000035, .row 53 true false p)])
noncomputable def A110x0x69062 (L : List Lf) : List (Bool × (Ex × St)) := bnd (J110x0x69062 N L (fun p => some (.inl p)) (fun p => some (.inr p))) fun q => [((inlB q), K110x0x69062w0 L (inlV q)), ((inrQ q).isSome, K110x0x69062w1 L ((inrQ q).getD default))]
theorem raw110x0x69062 (L : List Lf) : pc Try.prog (T106x1 N) (h110x0s3 N).h 2 100 110 69062 sh110x0x69062 L [45, 44, 43, 4, 0] [6, 102000000035, 0, 126000000035] = J110x0x69062 N L (fun p => some (K110x0x69062w0 L p)) (fun p => some (K110x0x69062w1 L p)) := by kernel_rfl
noncomputable def h110x0s4 : Sg Try.prog 2 110 :=
  (h110x0s3 N).cut (A110x0x69062 N) progOk (T106x1_ok N) fun L x hx => (raw110x0x69062 N L).trans ((bind110x0x69062 N ..).trans ((altS alt1) x hx))
noncomputable def S110x0x45 (w1 : LD) (w2 : Int) (w4 : Bool) (w7 : Int) (w9 : LD) (w3 : Int) (w14 : Bool) (w15 : LD) (kr : Int → Bool → LD → Option R) (k0 : Bool × LD → Option R) : Option R :=
  bif (decide (w3 < w2)) then
    bif (inB w3 w1.length) then
      bnd (IntKind.wrap .i64 (w7 + ((w1.getD w3.toNat (.i 0)).cell 0).toI)) fun y0 =>
      bnd (G108x0 N y0 4 false w4) fun y1 =>
      bif y1.isSome then
        bnd (G108x0 N ((w1.getD w3.toNat (.i 0)).cell 1).toI 4 true w4) fun y2 =>
        bif y2.isSome then
          bnd (G108x0 N ((w1.getD w3.toNat (.i 0)).cell 2).toI 4 true w4) fun y3 =>
          bif y3.isSome then
            bnd (G108x0 N ((w1.getD w3.toNat (.i 0)).cell 3).toI 4 true w4) fun y4 =>
            bif y4.isSome then
              bnd (G108x0 N ((w1.getD w3.toNat (.i 0)).cell 4).toI 2 false w4) fun y5 =>
              bif y5.isSome then
                bnd (G108x0 N ((w1.getD w3.toNat (.i 0)).cell 5).toI 2 false w4) fun y6 =>
                bif y6.isSome then
                  bnd (G108x0 N ((w1.getD w3.toNat (.i 0)).cell 6).toI 2 false w4) fun y7 =>
                  bif y7.isSome then
                    bnd (G110x0x58 N w3 w9 ((w1.getD w3.toNat (.i 0)).cell 0).toI) fun y8 =>
                    bif y8.isSome then
                      bnd (G110x0x69062 N y0 (y8.getD default) [(.l false (y1.getD default)), (.l false (y2.getD default)), (.l false (y3.getD default)), (.l false (y4.getD default)), (.l false (y5.getD default)), (.l false (y6.getD default)), (.l false (y7.getD default))] w15) fun y9 =>
                      bif (inlB y9) then
                        kr (IntKind.wrap .i64 (w3 + 1)) false (inlV y9)
                      else
                        bif (inrQ y9).isSome then
                          kr (IntKind.wrap .i64 (w3 + 1)) false ((inrQ y9).getD default)
                        else
                          none
                    else
                      none
                  else
                    none
                else
                  none
              else
                none
            else
              none
          else
            none
        else
          none
      else
        none
    else
      none
  else
    k0 (w14, w15)
noncomputable def L110x0x45 (N : Nat) {R : Type} (w1 : LD) (w2 : Int) (w4 : Bool) (w7 : Int) (w9 : LD) : Nat → Int → Bool → LD → (Bool × LD → Option R) → Option R
  | 0, _, _, _, _ => none
  | m + 1, w3, w14, w15, k0 => S110x0x45 N w1 w2 w4 w7 w9 w3 w14 w15 (fun w3 w14 w15 => L110x0x45 N w1 w2 w4 w7 w9 m w3 w14 w15 k0) k0
noncomputable def G110x0x45 (w1 : LD) (w2 : Int) (w4 : Bool) (w7 : Int) (w9 : LD) (w3 : Int) (w14 : Bool) (w15 : LD) : Option (Bool × LD) := L110x0x45 N (R := (Bool × LD)) w1 w2 w4 w7 w9 N w3 w14 w15 (fun p => some p)
noncomputable def J110x0x45 (L x : List Lf) (kr : List Lf → Option R) (k0 : Bool × LD → Option R) : Option R := S110x0x45 N (ll L 1) (li L 2) (lb L 4) (li L 7) (ll L 9) (li x 0) (lb x 1) (ll x 2) (fun w3 w14 w15 => kr [.i w3, .b w14, .l w15]) k0
theorem sb110x0x45 (L x : List Lf) (kr : List Lf → Option R) (k0 : Bool × LD → Option R) : J110x0x45 N L x kr k0 = (J110x0x45 N L x (fun y => some (.inl y)) (fun p => some (.inr p))).bind (sumE kr k0) := by
  unfold J110x0x45 S110x0x45
  repeat' (first | with_reducible apply cond_b | (with_reducible apply bnd_b; intro _) | rfl)
noncomputable def Q110x0x45 (L : List Lf) (m : Nat) (x : List Lf) : Option (Bool × LD) := L110x0x45 N (R := (Bool × LD)) (ll L 1) (li L 2) (lb L 4) (li L 7) (ll L 9) m (li x 0) (lb x 1) (ll x 2) (fun p => some p)
noncomputable def sh110x0x45 : Sh := { tmps := [(0, .c (.p 0 0)), (4, .c (.p 6 0)), (43, .c (.sl 78)), (44, .c (.i .i64)), (45, .c (.i .i64))], mem := [(0, .box ([.o 50000002, .b])), (6, .box (.s :: [.i .i64, .i .i64, .sl 78, .sl 82, .sl 9])), (50000002, .row 53 true)] }
noncomputable def K110x0x45w0 (L : List Lf) (p : Bool × LD) : Ex × St := ((.exit 4), mg (ofSh sh110x0x45 L) [] [] [0, 50000002] [(50000002, .row 53 true p.1 p.2)])
noncomputable def A110x0x45 (L : List Lf) : List (Bool × (Ex × St)) := bnd (Q110x0x45 N L N (pk sh110x0x45 [3, 14, 15] L)) fun q => [(q.isSome, K110x0x45w0 L (q.getD default))]
theorem step110x0x45 (m : Nat) (kn : St → Option (Ex × St)) (L x : List Lf) : lpB Try.prog (T106x1 N) (h110x0s4 N).h 2 110 45 sh110x0x45 [3, 14, 15] [] [50000002, 0] (m + 100) kn L x = J110x0x45 N L x (fun y => kn (ofSh sh110x0x45 (mx sh110x0x45 [3, 14, 15] L y))) (fun p => some (K110x0x45w0 L p)) := by kernel_rfl
theorem ql110x0x45 (L : List Lf) (m : Nat) (x : List Lf) : Q110x0x45 N L (m + 1) x = J110x0x45 N L x (Q110x0x45 N L m) some := by kernel_rfl
noncomputable def h110x0s5 : Sg Try.prog 2 110 :=
  (h110x0s4 N).lp (A110x0x45 N) N progOk (T106x1_ok N) (fun m kn L x => (step110x0x45 N m kn L x).trans (sb110x0x45 N L x _ _)) (fun L m x => (ql110x0x45 N L m x).trans (sb110x0x45 N L x (Q110x0x45 N L m) some)) fun L x hx => alt1 x hx
noncomputable def F110x0 (v2 : Int) (v4 : LD) (v9 v10 v11 : Int) (v12 : Bool) (v14 : LD) (k0 : Unit → Option R) (k1 : Bool × LD → Option R) : Option R :=
  bif ((v4.length : Int) == 0) then
    k0 ()
  else
    bnd (G110x0x12 N 0 false [(.a [(.i v9), (.i v10), (.i v11)])]) fun y0 =>
    bif y0.isSome then
      bnd (G110x0x27 N 0 (y0.getD default).1 (y0.getD default).2) fun y1 =>
      bif y1.isSome then
        bnd (G106x1 N 1 20 (y1.getD default).1 (y1.getD default).2 v12 v14) fun y2 =>
        bif y2.isSome then
          bnd (G110x0x45 N v4 (v4.length : Int) v12 v2 v4 0 false (y2.getD default)) fun y3 =>
          bif y3.isSome then
            k1 (y3.getD default)
          else
            none
        else
          none
      else
        none
    else
      none
noncomputable def G110x0 (v2 : Int) (v4 : LD) (v9 v10 v11 : Int) (v12 : Bool) (v14 : LD) : Option (Sum (Unit) (Bool × LD)) := F110x0 N v2 v4 v9 v10 v11 v12 v14 (fun p => some (.inl p)) (fun p => some (.inr p))
theorem bind110x0 (v2 : Int) (v4 : LD) (v9 v10 v11 : Int) (v12 : Bool) (v14 : LD) (k0 : Unit → Option R) (k1 : Bool × LD → Option R) : F110x0 N v2 v4 v9 v10 v11 v12 v14 k0 k1 = (G110x0 N v2 v4 v9 v10 v11 v12 v14).bind (sumE k0 k1) := by
  unfold G110x0 F110x0
  repeat' (first | with_reducible apply cond_b | (with_reducible apply bnd_b; intro _) | rfl)
noncomputable def J110x0 (L : List Lf) (k0 : Unit → Option R) (k1 : Bool × LD → Option R) : Option R := F110x0 N (li L 2) (ll L 4) (li L 9) (li L 10) (li L 11) (lb L 12) (ll L 14) k0 k1
noncomputable def sh110x0 : Sh := { tmps := [(0, .c (.p 0 0)), (1, .g (.s :: [.i .i64, .i .i64, .sl 78, .sl 82, .sl 9])), (2, .g ([.i .i64, .i .i64, .i .i64]))], mem := [(0, .box ([.o 1, .b])), (1, .row 53 true)] }
noncomputable def K110x0w1 (L : List Lf) (p : Bool × LD) : Res := ([], [(0, .box [.o 50000002, .b (lb L 12)]), (50000002, .row 53 true p.1 p.2)])
noncomputable def A110x0 (L : List Lf) : List (Bool × Res) := bnd (J110x0 N L (fun p => some (.inl p)) (fun p => some (.inr p))) fun q => [((inlB q), ([], mgA (ofSh sh110x0 L).mem [] [0, 1])), ((inrQ q).isSome, K110x0w1 L ((inrQ q).getD default))]
theorem raw110x0 (L : List Lf) : bd Try.prog (T106x1 N) (h110x0s5 N).h 110 sh110x0 L = J110x0 N L (fun _ => some ([], mgA (ofSh sh110x0 L).mem [] [0, 1])) (fun p => some (K110x0w1 L p)) := by kernel_rfl
theorem ok110x0 : FnOk Try.prog 110 sh110x0 (A110x0 N) :=
  (h110x0s5 N).fn progOk (T106x1_ok N) fun L x hx => ((raw110x0 N L).trans ((bind110x0 N ..).trans ((altS alt1) x hx)))
noncomputable def T110x0 : Oracle := ext 110 (spSh sh110x0 (A110x0 N)) (T106x1 N)
theorem T110x0_ok : OracleOk Try.prog (T110x0 N) := FnOk.to (ok110x0 N) (T106x1_ok N)
noncomputable def rg49x0 : List (Nat × List Nat) := [(0, [0, 1]), (1, [2, 4, 1]), (2, [6, 4, 2, 1]), (3, [6, 4]), (4, [2, 4, 1]), (5, [4]), (6, [1, 2, 4]), (7, [7, 2, 4]), (8, [7, 8, 2, 4]), (9, [7, 8, 9, 2, 4]), (10, [7, 2, 9, 8, 4]), (11, [2, 7, 9, 8, 4]), (12, [7, 9, 2, 8, 4]), (13, [2, 7, 8, 9, 4]), (14, [64, 63, 62, 7, 2, 8, 9, 4]), (15, [62, 64, 7, 63, 2, 8, 9, 4]), (16, [7, 11, 64, 63, 62, 2, 8, 9, 4]), (17, [64, 63, 62, 7, 2, 8, 9, 4]), (18, [2, 7, 8, 9, 4]), (19, [7, 8, 9, 2, 4]), (20, [2, 7, 8, 4]), (21, [88, 87, 86, 7, 2, 8, 4]), (22, [86, 88, 7, 2, 87, 8, 4]), (23, [7, 2, 13, 88, 87, 86, 8, 4]), (24, [88, 87, 86, 7, 2, 8, 4]), (25, [7, 2, 8, 4]), (26, [7, 4])]
noncomputable def hd49x0 : Hints := [(38, [7, 9, 2, 8, 4, 55], [8, 52000000033, 29, 4, 2], []), (42, [64, 63, 62, 7, 2, 8, 9, 4], [8, 61000000027, 29, 4, 2, 50029000], [50029000]), (59, [7, 8, 9, 2, 4, 77], [8, 50029000, 29, 4, 2], []), (63, [88, 87, 86, 7, 2, 8, 4], [8, 85000000027, 29, 4, 2, 50029000], [50029000]), (76, [7, 2, 8, 4], [8, 50029000, 29, 4, 2], [])]
noncomputable def h49x0s0 (N : Nat) : Sg Try.prog 0 49 := .start hd49x0 rg49x0
noncomputable def F49x0x38 (w0 w15 : Bool) (w17 : LD) (k0 : LD → Option R) (k1 : Unit → Option R) : Option R :=
  bif w0 then
    bnd (G106x1 N 3 30 false [(.a [(.i 1), (.i 60), (.i 2)])] w15 w17) fun y0 =>
    bif y0.isSome then
      k0 (y0.getD default)
    else
      none
  else
    k1 ()
noncomputable def G49x0x38 (w0 w15 : Bool) (w17 : LD) : Option (Sum (LD) (Unit)) := F49x0x38 N w0 w15 w17 (fun p => some (.inl p)) (fun p => some (.inr p))
theorem bind49x0x38 (w0 w15 : Bool) (w17 : LD) (k0 : LD → Option R) (k1 : Unit → Option R) : F49x0x38 N w0 w15 w17 k0 k1 = (G49x0x38 N w0 w15 w17).bind (sumE k0 k1) := by
  unfold G49x0x38 F49x0x38
  repeat' (first | with_reducible apply cond_b | (with_reducible apply bnd_b; intro _) | rfl)
noncomputable def sh49x0x38 : Sh := { tmps := [(2, .c (.p 2 0)), (4, .c (.p 4 0)), (7, .c (.p 29 0)), (8, .c (.p 8 0)), (9, .c (.f 105 [])), (55, .c (.b))], mem := [(2, .box (.s :: [.i .i64, .i .i64, .sl 78, .sl 82, .sl 9])), (4, .box ([.sl 53])), (8, .box ([.i .i64, .i .i64, .i .i64])), (29, .box ([.o 52000000033, .b])), (52000000033, .row 53 true)] }
noncomputable def K49x0x38w0 (L : List Lf) (p : LD) : Ex × St := (.normal, mg (ofSh sh49x0x38 L) [2, 4, 7, 8, 9] [] [2, 4, 8, 29, 61000000027] [(29, .box [.o 61000000027, .b (lb L 15)]), (61000000027, .row 53 true false p)])
noncomputable def K49x0x38w1 (L : List Lf) (_ : Unit) : Ex × St := (.normal, mg (ofSh sh49x0x38 L) [2, 4, 7, 8, 9] [] [2, 4, 8, 29, 52000000033] [])
noncomputable def A49x0x38 (L : List Lf) : List (Bool × (Ex × St)) := bnd (F49x0x38 N (lb L 0) (lb L 15) (ll L 17) (fun p => some (.inl p)) (fun p => some (.inr p))) fun q => [((inlB q), K49x0x38w0 L (inlV q)), ((inrQ q).isSome, K49x0x38w1 L ())]
theorem raw49x0x38 (L : List Lf) : pc Try.prog (T110x0 N) (h49x0s0 N).h 0 100 49 38 sh49x0x38 L [2, 7, 8, 9, 4] [8, 61000000027, 29, 4, 2, 52000000033] = F49x0x38 N (lb L 0) (lb L 15) (ll L 17) (fun p => some (K49x0x38w0 L p)) (fun _ => some (K49x0x38w1 L ())) := by kernel_rfl
noncomputable def h49x0s1 : Sg Try.prog 0 49 :=
  (h49x0s0 N).cut (A49x0x38 N) progOk (T110x0_ok N) fun L x hx => (raw49x0x38 N L).trans ((bind49x0x38 N ..).trans ((altS alt1) x hx))
noncomputable def S49x0x42 (w1 : LD) (w2 : Int) (w3 : Int) (w19 : Bool) (w20 : LD) (kr : Int → Bool → LD → Option R) (k0 : Bool × LD → Option R) : Option R :=
  bif (decide (w3 < w2)) then
    bif (inB w3 w1.length) then
      bnd (V109x0 N (w1.getD w3.toNat (.i 0)).toS) fun y0 =>
      bnd (G107x0 N 3 [(.l false y0)] w20) fun y1 =>
      bif y1.isSome then
        kr (IntKind.wrap .i64 (w3 + 1)) false (y1.getD default)
      else
        none
    else
      none
  else
    k0 (w19, w20)
noncomputable def L49x0x42 (N : Nat) {R : Type} (w1 : LD) (w2 : Int) : Nat → Int → Bool → LD → (Bool × LD → Option R) → Option R
  | 0, _, _, _, _ => none
  | m + 1, w3, w19, w20, k0 => S49x0x42 N w1 w2 w3 w19 w20 (fun w3 w19 w20 => L49x0x42 N w1 w2 m w3 w19 w20 k0) k0
noncomputable def G49x0x42 (w1 : LD) (w2 : Int) (w3 : Int) (w19 : Bool) (w20 : LD) : Option (Bool × LD) := L49x0x42 N (R := (Bool × LD)) w1 w2 N w3 w19 w20 (fun p => some p)
noncomputable def J49x0x42 (L x : List Lf) (kr : List Lf → Option R) (k0 : Bool × LD → Option R) : Option R := S49x0x42 N (ll L 1) (li L 2) (li x 0) (lb x 1) (ll x 2) (fun w3 w19 w20 => kr [.i w3, .b w19, .l w20]) k0
theorem sb49x0x42 (L x : List Lf) (kr : List Lf → Option R) (k0 : Bool × LD → Option R) : J49x0x42 N L x kr k0 = (J49x0x42 N L x (fun y => some (.inl y)) (fun p => some (.inr p))).bind (sumE kr k0) := by
  unfold J49x0x42 S49x0x42
  repeat' (first | with_reducible apply cond_b | (with_reducible apply bnd_b; intro _) | rfl)
noncomputable def Q49x0x42 (L : List Lf) (m : Nat) (x : List Lf) : Option (Bool × LD) := L49x0x42 N (R := (Bool × LD)) (ll L 1) (li L 2) m (li x 0) (lb x 1) (ll x 2) (fun p => some p)
noncomputable def sh49x0x42 : Sh := { tmps := [(2, .c (.p 2 0)), (4, .c (.p 4 0)), (7, .c (.p 29 0)), (8, .c (.p 8 0)), (9, .c (.f 105 [])), (62, .c (.sl 9)), (63, .c (.i .i64)), (64, .c (.i .i64))], mem := [(2, .box (.s :: [.i .i64, .i .i64, .sl 78, .sl 82, .sl 9])), (4, .box ([.sl 53])), (8, .box ([.i .i64, .i .i64, .i .i64])), (29, .box ([.o 50029000, .b])), (50029000, .row 53 true)] }
noncomputable def K49x0x42w0 (L : List Lf) (p : Bool × LD) : Ex × St := ((.exit 0), mg (ofSh sh49x0x42 L) [2, 4, 7, 8, 9] [] [2, 4, 8, 29, 50029000] [(50029000, .row 53 true p.1 p.2)])
noncomputable def A49x0x42 (L : List Lf) : List (Bool × (Ex × St)) := bnd (Q49x0x42 N L N (pk sh49x0x42 [3, 19, 20] L)) fun q => [(q.isSome, K49x0x42w0 L (q.getD default))]
theorem step49x0x42 (m : Nat) (kn : St → Option (Ex × St)) (L x : List Lf) : lpB Try.prog (T110x0 N) (h49x0s1 N).h 0 49 42 sh49x0x42 [3, 19, 20] [4, 5, 2, 7, 8, 9] [8, 50029000, 29, 4, 2] (m + 100) kn L x = J49x0x42 N L x (fun y => kn (ofSh sh49x0x42 (mx sh49x0x42 [3, 19, 20] L y))) (fun p => some (K49x0x42w0 L p)) := by kernel_rfl
theorem ql49x0x42 (L : List Lf) (m : Nat) (x : List Lf) : Q49x0x42 N L (m + 1) x = J49x0x42 N L x (Q49x0x42 N L m) some := by kernel_rfl
noncomputable def h49x0s2 : Sg Try.prog 0 49 :=
  (h49x0s1 N).lp (A49x0x42 N) N progOk (T110x0_ok N) (fun m kn L x => (step49x0x42 N m kn L x).trans (sb49x0x42 N L x _ _)) (fun L m x => (ql49x0x42 N L m x).trans (sb49x0x42 N L x (Q49x0x42 N L m) some)) fun L x hx => alt1 x hx
noncomputable def F49x0x59 (w0 : Bool) (w12 w13 w14 : Int) (w15 : Bool) (w17 : LD) (k0 : LD → Option R) (k1 : Unit → Option R) : Option R :=
  bif w0 then
    bnd (G106x1 N 2 19 false [(.a [(.i w12), (.i w13), (.i w14)]), (.a [(.i 1), (.i 4), (.i 0)]), (.a [(.i 2), (.i 60), (.i 2)])] w15 w17) fun y0 =>
    bif y0.isSome then
      k0 (y0.getD default)
    else
      none
  else
    k1 ()
noncomputable def G49x0x59 (w0 : Bool) (w12 w13 w14 : Int) (w15 : Bool) (w17 : LD) : Option (Sum (LD) (Unit)) := F49x0x59 N w0 w12 w13 w14 w15 w17 (fun p => some (.inl p)) (fun p => some (.inr p))
theorem bind49x0x59 (w0 : Bool) (w12 w13 w14 : Int) (w15 : Bool) (w17 : LD) (k0 : LD → Option R) (k1 : Unit → Option R) : F49x0x59 N w0 w12 w13 w14 w15 w17 k0 k1 = (G49x0x59 N w0 w12 w13 w14 w15 w17).bind (sumE k0 k1) := by
  unfold G49x0x59 F49x0x59
  repeat' (first | with_reducible apply cond_b | (with_reducible apply bnd_b; intro _) | rfl)
noncomputable def J49x0x59 (L : List Lf) (k0 : LD → Option R) (k1 : Unit → Option R) : Option R := F49x0x59 N (lb L 0) (li L 12) (li L 13) (li L 14) (lb L 15) (ll L 17) k0 k1
noncomputable def sh49x0x59 : Sh := { tmps := [(2, .c (.p 2 0)), (4, .c (.p 4 0)), (7, .c (.p 29 0)), (8, .c (.p 8 0)), (9, .c (.f 105 [])), (77, .c (.b))], mem := [(2, .box (.s :: [.i .i64, .i .i64, .sl 78, .sl 82, .sl 9])), (4, .box ([.sl 53])), (8, .box ([.i .i64, .i .i64, .i .i64])), (29, .box ([.o 50029000, .b])), (50029000, .row 53 true)] }
noncomputable def K49x0x59w0 (L : List Lf) (p : LD) : Ex × St := (.normal, mg (ofSh sh49x0x59 L) [2, 4, 7, 8] [] [2, 4, 8, 29, 85000000027] [(29, .box [.o 85000000027, .b (lb L 15)]), (85000000027, .row 53 true false p)])
noncomputable def K49x0x59w1 (L : List Lf) (_ : Unit) : Ex × St := (.normal, mg (ofSh sh49x0x59 L) [2, 4, 7, 8] [] [2, 4, 8, 29, 50029000] [])
noncomputable def A49x0x59 (L : List Lf) : List (Bool × (Ex × St)) := bnd (J49x0x59 N L (fun p => some (.inl p)) (fun p => some (.inr p))) fun q => [((inlB q), K49x0x59w0 L (inlV q)), ((inrQ q).isSome, K49x0x59w1 L ())]
theorem raw49x0x59 (L : List Lf) : pc Try.prog (T110x0 N) (h49x0s2 N).h 0 100 49 59 sh49x0x59 L [2, 7, 8, 4] [8, 85000000027, 29, 4, 2, 50029000] = J49x0x59 N L (fun p => some (K49x0x59w0 L p)) (fun _ => some (K49x0x59w1 L ())) := by kernel_rfl
noncomputable def h49x0s3 : Sg Try.prog 0 49 :=
  (h49x0s2 N).cut (A49x0x59 N) progOk (T110x0_ok N) fun L x hx => (raw49x0x59 N L).trans ((bind49x0x59 N ..).trans ((altS alt1) x hx))
noncomputable def S49x0x63 (w1 : LD) (w2 w6 : Int) (w18 : Bool) (w3 : Int) (w19 : Bool) (w20 : LD) (kr : Int → Bool → LD → Option R) (k0 : Bool × LD → Option R) : Option R :=
  bif (decide (w3 < w2)) then
    bif (inB w3 w1.length) then
      bnd (IntKind.wrap .i64 (w6 + ((w1.getD w3.toNat (.i 0)).cell 0).toI)) fun y0 =>
      bnd (G108x0 N y0 4 false w18) fun y1 =>
      bif y1.isSome then
        bnd (IntKind.wrap .i64 (w6 + ((w1.getD w3.toNat (.i 0)).cell 1).toI)) fun y2 =>
        bnd (G108x0 N y2 4 false w18) fun y3 =>
        bif y3.isSome then
          bnd (V109x0 N ((w1.getD w3.toNat (.i 0)).cell 2).toS) fun y4 =>
          bnd (G107x0 N 2 [(.l false (y1.getD default)), (.l false (y3.getD default)), (.l false y4)] w20) fun y5 =>
          bif y5.isSome then
            kr (IntKind.wrap .i64 (w3 + 1)) false (y5.getD default)
          else
            none
        else
          none
      else
        none
    else
      none
  else
    k0 (w19, w20)
noncomputable def L49x0x63 (N : Nat) {R : Type} (w1 : LD) (w2 w6 : Int) (w18 : Bool) : Nat → Int → Bool → LD → (Bool × LD → Option R) → Option R
  | 0, _, _, _, _ => none
  | m + 1, w3, w19, w20, k0 => S49x0x63 N w1 w2 w6 w18 w3 w19 w20 (fun w3 w19 w20 => L49x0x63 N w1 w2 w6 w18 m w3 w19 w20 k0) k0
noncomputable def G49x0x63 (w1 : LD) (w2 w6 : Int) (w18 : Bool) (w3 : Int) (w19 : Bool) (w20 : LD) : Option (Bool × LD) := L49x0x63 N (R := (Bool × LD)) w1 w2 w6 w18 N w3 w19 w20 (fun p => some p)
noncomputable def J49x0x63 (L x : List Lf) (kr : List Lf → Option R) (k0 : Bool × LD → Option R) : Option R := S49x0x63 N (ll L 1) (li L 2) (li L 6) (lb L 18) (li x 0) (lb x 1) (ll x 2) (fun w3 w19 w20 => kr [.i w3, .b w19, .l w20]) k0
theorem sb49x0x63 (L x : List Lf) (kr : List Lf → Option R) (k0 : Bool × LD → Option R) : J49x0x63 N L x kr k0 = (J49x0x63 N L x (fun y => some (.inl y)) (fun p => some (.inr p))).bind (sumE kr k0) := by
  unfold J49x0x63 S49x0x63
  repeat' (first | with_reducible apply cond_b | (with_reducible apply bnd_b; intro _) | rfl)
noncomputable def Q49x0x63 (L : List Lf) (m : Nat) (x : List Lf) : Option (Bool × LD) := L49x0x63 N (R := (Bool × LD)) (ll L 1) (li L 2) (li L 6) (lb L 18) m (li x 0) (lb x 1) (ll x 2) (fun p => some p)
noncomputable def sh49x0x63 : Sh := { tmps := [(2, .c (.p 2 0)), (4, .c (.p 4 0)), (7, .c (.p 29 0)), (8, .c (.p 8 0)), (86, .c (.sl 82)), (87, .c (.i .i64)), (88, .c (.i .i64))], mem := [(2, .box (.s :: [.i .i64, .i .i64, .sl 78, .sl 82, .sl 9])), (4, .box ([.sl 53])), (8, .box ([.i .i64, .i .i64, .i .i64])), (29, .box ([.o 50029000, .b])), (50029000, .row 53 true)] }
noncomputable def K49x0x63w0 (L : List Lf) (p : Bool × LD) : Ex × St := ((.exit 2), mg (ofSh sh49x0x63 L) [2, 4, 7, 8] [] [2, 4, 8, 29, 50029000] [(50029000, .row 53 true p.1 p.2)])
noncomputable def A49x0x63 (L : List Lf) : List (Bool × (Ex × St)) := bnd (Q49x0x63 N L N (pk sh49x0x63 [3, 19, 20] L)) fun q => [(q.isSome, K49x0x63w0 L (q.getD default))]
theorem step49x0x63 (m : Nat) (kn : St → Option (Ex × St)) (L x : List Lf) : lpB Try.prog (T110x0 N) (h49x0s3 N).h 0 49 63 sh49x0x63 [3, 19, 20] [4, 5, 7, 2, 8] [8, 50029000, 29, 4, 2] (m + 100) kn L x = J49x0x63 N L x (fun y => kn (ofSh sh49x0x63 (mx sh49x0x63 [3, 19, 20] L y))) (fun p => some (K49x0x63w0 L p)) := by kernel_rfl
theorem ql49x0x63 (L : List Lf) (m : Nat) (x : List Lf) : Q49x0x63 N L (m + 1) x = J49x0x63 N L x (Q49x0x63 N L m) some := by kernel_rfl
noncomputable def h49x0s4 : Sg Try.prog 0 49 :=
  (h49x0s3 N).lp (A49x0x63 N) N progOk (T110x0_ok N) (fun m kn L x => (step49x0x63 N m kn L x).trans (sb49x0x63 N L x _ _)) (fun L m x => (ql49x0x63 N L m x).trans (sb49x0x63 N L x (Q49x0x63 N L m) some)) fun L x hx => alt1 x hx
noncomputable def F49x0x76 (w2 : Int) (w4 : LD) (w11 w12 w13 : Int) (w14 : Bool) (w16 : LD) (k0 : Unit → Option R) (k1 : Bool × LD → Option R) : Option R :=
  bnd (G110x0 N w2 w4 w11 w12 w13 w14 w16) fun y0 =>
  bif (inlB y0) then
    k0 ()
  else
    bif (inrQ y0).isSome then
      k1 ((inrQ y0).getD default)
    else
      none
noncomputable def G49x0x76 (w2 : Int) (w4 : LD) (w11 w12 w13 : Int) (w14 : Bool) (w16 : LD) : Option (Sum (Unit) (Bool × LD)) := F49x0x76 N w2 w4 w11 w12 w13 w14 w16 (fun p => some (.inl p)) (fun p => some (.inr p))
theorem bind49x0x76 (w2 : Int) (w4 : LD) (w11 w12 w13 : Int) (w14 : Bool) (w16 : LD) (k0 : Unit → Option R) (k1 : Bool × LD → Option R) : F49x0x76 N w2 w4 w11 w12 w13 w14 w16 k0 k1 = (G49x0x76 N w2 w4 w11 w12 w13 w14 w16).bind (sumE k0 k1) := by
  unfold G49x0x76 F49x0x76
  repeat' (first | with_reducible apply cond_b | (with_reducible apply bnd_b; intro _) | rfl)
noncomputable def J49x0x76 (L : List Lf) (k0 : Unit → Option R) (k1 : Bool × LD → Option R) : Option R := F49x0x76 N (li L 2) (ll L 4) (li L 11) (li L 12) (li L 13) (lb L 14) (ll L 16) k0 k1
noncomputable def sh49x0x76 : Sh := { tmps := [(2, .c (.p 2 0)), (4, .c (.p 4 0)), (7, .c (.p 29 0)), (8, .c (.p 8 0))], mem := [(2, .box (.s :: [.i .i64, .i .i64, .sl 78, .sl 82, .sl 9])), (4, .box ([.sl 53])), (8, .box ([.i .i64, .i .i64, .i .i64])), (29, .box ([.o 50029000, .b])), (50029000, .row 53 true)] }
noncomputable def K49x0x76w0 (L : List Lf) (_ : Unit) : Ex × St := (.normal, mg (ofSh sh49x0x76 L) [4, 7] [] [4, 29, 50029000] [])
noncomputable def K49x0x76w1 (L : List Lf) (p : Bool × LD) : Ex × St := (.normal, mg (ofSh sh49x0x76 L) [4, 7] [] [4, 29, 117050000002] [(29, .box [.o 117050000002, .b (lb L 14)]), (117050000002, .row 53 true p.1 p.2)])
noncomputable def A49x0x76 (L : List Lf) : List (Bool × (Ex × St)) := bnd (J49x0x76 N L (fun p => some (.inl p)) (fun p => some (.inr p))) fun q => [((inlB q), K49x0x76w0 L ()), ((inrQ q).isSome, K49x0x76w1 L ((inrQ q).getD default))]
theorem raw49x0x76 (L : List Lf) : pc Try.prog (T110x0 N) (h49x0s4 N).h 0 100 49 76 sh49x0x76 L [7, 4] [50029000, 29, 4, 117050000002] = J49x0x76 N L (fun _ => some (K49x0x76w0 L ())) (fun p => some (K49x0x76w1 L p)) := by kernel_rfl
noncomputable def h49x0s5 : Sg Try.prog 0 49 :=
  (h49x0s4 N).cut (A49x0x76 N) progOk (T110x0_ok N) fun L x hx => (raw49x0x76 N L).trans ((bind49x0x76 N ..).trans ((altS alt1) x hx))
noncomputable def F49x0 (v0 : LB) (v1 v2 : Int) (v4 v6 v8 : LD) (v9 : Bool) (k0 : Bool × LD × Int → Option R) : Option R :=
  bnd (G13x0 N v0 v1 v2 v4 v6 v8) fun y0 =>
  bif y0.isSome then
    bif ((y0.getD default) != 0) then
      k0 (true, [], (y0.getD default))
    else
      bnd (G54x0 N v4) fun y1 =>
      bif y1.isSome then
        bnd (decide ((IntKind.wrap .i64 (v2 + (y1.getD default))) > 4294967294)) fun y2 =>
        bif y2 then
          k0 (true, [], 9)
        else
          bnd (V106x0 N 0 0 false [(.a [(.i 253), (.i 4), (.i 0)]), (.a [(.i 1), (.i 60), (.i 2)]), (.a [(.i 2), (.i 1), (.i 0)])] v9) fun y3 =>
          bnd (G108x0 N v2 4 false v9) fun y4 =>
          bif y4.isSome then
            bnd (V109x0 N v0) fun y5 =>
            bnd (G108x0 N v1 1 false v9) fun y6 =>
            bif y6.isSome then
              bnd (G107x0 N 0 [(.l false (y4.getD default)), (.l false y5), (.l false (y6.getD default))] y3) fun y7 =>
              bif y7.isSome then
                bnd (G49x0x38 N (decide ((v8.length : Int) > 0)) v9 (y7.getD default)) fun y8 =>
                bif (inlB y8) then
                  bnd (G49x0x42 N v8 (v8.length : Int) 0 false (inlV y8)) fun y9 =>
                  bif y9.isSome then
                    bnd (G49x0x59 N (decide ((v6.length : Int) > 0)) 253 4 0 v9 (y9.getD default).2) fun y10 =>
                    bif (inlB y10) then
                      bnd (G49x0x63 N v6 (v6.length : Int) v2 v9 0 false (inlV y10)) fun y11 =>
                      bif y11.isSome then
                        bnd (G49x0x76 N v2 v4 253 4 0 v9 (y11.getD default).2) fun y12 =>
                        bif (inlB y12) then
                          k0 ((y11.getD default).1, (y11.getD default).2, 0)
                        else
                          bif (inrQ y12).isSome then
                            k0 (((inrQ y12).getD default).1, ((inrQ y12).getD default).2, 0)
                          else
                            none
                      else
                        none
                    else
                      bif (inrQ y10).isSome then
                        bnd (G49x0x63 N v6 (v6.length : Int) v2 v9 0 (y9.getD default).1 (y9.getD default).2) fun y13 =>
                        bif y13.isSome then
                          bnd (G49x0x76 N v2 v4 253 4 0 v9 (y13.getD default).2) fun y14 =>
                          bif (inlB y14) then
                            k0 ((y13.getD default).1, (y13.getD default).2, 0)
                          else
                            bif (inrQ y14).isSome then
                              k0 (((inrQ y14).getD default).1, ((inrQ y14).getD default).2, 0)
                            else
                              none
                        else
                          none
                      else
                        none
                  else
                    none
                else
                  bif (inrQ y8).isSome then
                    bnd (G49x0x42 N v8 (v8.length : Int) 0 false (y7.getD default)) fun y15 =>
                    bif y15.isSome then
                      bnd (G49x0x59 N (decide ((v6.length : Int) > 0)) 253 4 0 v9 (y15.getD default).2) fun y16 =>
                      bif (inlB y16) then
                        bnd (G49x0x63 N v6 (v6.length : Int) v2 v9 0 false (inlV y16)) fun y17 =>
                        bif y17.isSome then
                          bnd (G49x0x76 N v2 v4 253 4 0 v9 (y17.getD default).2) fun y18 =>
                          bif (inlB y18) then
                            k0 ((y17.getD default).1, (y17.getD default).2, 0)
                          else
                            bif (inrQ y18).isSome then
                              k0 (((inrQ y18).getD default).1, ((inrQ y18).getD default).2, 0)
                            else
                              none
                        else
                          none
                      else
                        bif (inrQ y16).isSome then
                          bnd (G49x0x63 N v6 (v6.length : Int) v2 v9 0 (y15.getD default).1 (y15.getD default).2) fun y19 =>
                          bif y19.isSome then
                            bnd (G49x0x76 N v2 v4 253 4 0 v9 (y19.getD default).2) fun y20 =>
                            bif (inlB y20) then
                              k0 ((y19.getD default).1, (y19.getD default).2, 0)
                            else
                              bif (inrQ y20).isSome then
                                k0 (((inrQ y20).getD default).1, ((inrQ y20).getD default).2, 0)
                              else
                                none
                          else
                            none
                        else
                          none
                    else
                      none
                  else
                    none
              else
                none
            else
              none
          else
            none
      else
        none
  else
    none
noncomputable def G49x0 (v0 : LB) (v1 v2 : Int) (v4 v6 v8 : LD) (v9 : Bool) : Option (Bool × LD × Int) := F49x0 N v0 v1 v2 v4 v6 v8 v9 (fun p => some p)
theorem bind49x0 (v0 : LB) (v1 v2 : Int) (v4 v6 v8 : LD) (v9 : Bool) (k0 : Bool × LD × Int → Option R) : F49x0 N v0 v1 v2 v4 v6 v8 v9 k0 = (G49x0 N v0 v1 v2 v4 v6 v8 v9).bind k0 := by
  unfold G49x0 F49x0
  repeat' (first | with_reducible apply cond_b | (with_reducible apply bnd_b; intro _) | rfl)
noncomputable def J49x0 (L : List Lf) (k0 : Bool × LD × Int → Option R) : Option R := F49x0 N (ls L 0) (li L 1) (li L 2) (ll L 4) (ll L 6) (ll L 8) (lb L 9) k0
noncomputable def sh49x0 : Sh := { tmps := [(0, .g (.s :: [.i .i64, .i .i64, .sl 78, .sl 82, .sl 9])), (1, .c (.b))], mem := [] }
noncomputable def A49x0 (L : List Lf) : List (Bool × Res) := bnd (J49x0 N L (fun p => some p)) fun q => [(q.isSome, ([.g [.sl 53 (q.getD default).1 (q.getD default).2.1], .c (.i .i64 (q.getD default).2.2)], []))]
theorem raw49x0 (L : List Lf) : bd Try.prog (T110x0 N) (h49x0s5 N).h 49 sh49x0 L = J49x0 N L (fun p => some ([.g [.sl 53 p.1 p.2.1], .c (.i .i64 p.2.2)], [])) := by kernel_rfl
theorem ok49x0 : FnOk Try.prog 49 sh49x0 (A49x0 N) :=
  (h49x0s5 N).fn progOk (T110x0_ok N) fun L x hx => ((raw49x0 N L).trans ((bind49x0 N ..).trans (alt1 x hx)))
noncomputable def T49x0 : Oracle := ext 49 (spSh sh49x0 (A49x0 N)) (T110x0 N)
theorem T49x0_ok : OracleOk Try.prog (T49x0 N) := FnOk.to (ok49x0 N) (T110x0_ok N)
noncomputable def rg18x0 : List (Nat × List Nat) := [(0, [0]), (1, [1]), (2, [4, 1]), (3, [4]), (4, [1])]
noncomputable def hd18x0 : Hints := []
noncomputable def h18x0s0 (N : Nat) : Sg Try.prog 0 18 := .start hd18x0 rg18x0
noncomputable def F18x0 (v1 : LD) (k0 : Bool × LD × Int → Option R) : Option R :=
  bnd (G22x0 N v1) fun y0 =>
  bif y0.isSome then
    bif ((y0.getD default) != 0) then
      k0 (true, [], (y0.getD default))
    else
      bnd (G63x0 N v1) fun y1 =>
      bif y1.isSome then
        k0 ((y1.getD default).1, (y1.getD default).2, 0)
      else
        none
  else
    none
noncomputable def G18x0 (v1 : LD) : Option (Bool × LD × Int) := F18x0 N v1 (fun p => some p)
theorem bind18x0 (v1 : LD) (k0 : Bool × LD × Int → Option R) : F18x0 N v1 k0 = (G18x0 N v1).bind k0 := by
  unfold G18x0 F18x0
  repeat' (first | with_reducible apply cond_b | (with_reducible apply bnd_b; intro _) | rfl)
noncomputable def sh18x0 : Sh := { tmps := [(0, .g ([.sl 53]))], mem := [] }
noncomputable def A18x0 (L : List Lf) : List (Bool × Res) := bnd (F18x0 N (ll L 1) (fun p => some p)) fun q => [(q.isSome, ([.c (.sl 3 (q.getD default).1 (q.getD default).2.1), .c (.i .i64 (q.getD default).2.2)], []))]
theorem raw18x0 (L : List Lf) : bd Try.prog (T49x0 N) (h18x0s0 N).h 18 sh18x0 L = F18x0 N (ll L 1) (fun p => some ([.c (.sl 3 p.1 p.2.1), .c (.i .i64 p.2.2)], [])) := by kernel_rfl
theorem ok18x0 : FnOk Try.prog 18 sh18x0 (A18x0 N) :=
  (h18x0s0 N).fn progOk (T49x0_ok N) fun L x hx => ((raw18x0 N L).trans ((bind18x0 N ..).trans (alt1 x hx)))
noncomputable def T18x0 : Oracle := ext 18 (spSh sh18x0 (A18x0 N)) (T49x0 N)
theorem T18x0_ok : OracleOk Try.prog (T18x0 N) := FnOk.to (ok18x0 N) (T49x0_ok N)
noncomputable def rg17x0 : List (Nat × List Nat) := [(0, []), (1, []), (2, [1]), (3, [2, 3]), (4, [3, 5, 4])]
noncomputable def hd17x0 : Hints := [(13, [3, 5, 4], [], [])]
noncomputable def h17x0s0 (N : Nat) : Sg Try.prog 0 17 := .start hd17x0 rg17x0
noncomputable def F17x0x13 (w0 : Int) (w2 : LD) (w3 : Int) (k0 : Bool → Option R) : Option R :=
  bif (bif (w0 == 0) then (w3 == 0) else false) then
    bnd (G24x0 N w2 [(.i (-1)), (.i 100), (.i (-1)), (.i 100), (.i 105)]) fun y0 =>
    bif y0.isSome then
      k0 (y0.getD default)
    else
      none
  else
    k0 false
noncomputable def G17x0x13 (w0 : Int) (w2 : LD) (w3 : Int) : Option (Bool) := F17x0x13 N w0 w2 w3 (fun p => some p)
theorem bind17x0x13 (w0 : Int) (w2 : LD) (w3 : Int) (k0 : Bool → Option R) : F17x0x13 N w0 w2 w3 k0 = (G17x0x13 N w0 w2 w3).bind k0 := by
  unfold G17x0x13 F17x0x13
  repeat' (first | with_reducible apply cond_b | (with_reducible apply bnd_b; intro _) | rfl)
noncomputable def sh17x0x13 : Sh := { tmps := [(3, .c (.i .i64)), (4, .c (.sl 3)), (5, .c (.i .i64))], mem := [] }
noncomputable def A17x0x13 (L : List Lf) : List (Bool × (Ex × St)) := bnd (F17x0x13 N (li L 0) (ll L 2) (li L 3) (fun p => some p)) fun q => [(q.isSome, (.normal, ⟨[(0, .c (.b (q.getD default)))], []⟩))]
theorem raw17x0x13 (L : List Lf) : pc Try.prog (T18x0 N) (h17x0s0 N).h 0 100 17 13 sh17x0x13 L [0] [] = F17x0x13 N (li L 0) (ll L 2) (li L 3) (fun p => some (.normal, ⟨[(0, .c (.b p))], []⟩)) := by kernel_rfl
noncomputable def h17x0s1 : Sg Try.prog 0 17 :=
  (h17x0s0 N).cut (A17x0x13 N) progOk (T18x0_ok N) fun L x hx => (raw17x0x13 N L).trans ((bind17x0x13 N ..).trans (alt1 x hx))
noncomputable def F17x0 (k0 : Bool → Option R) : Option R :=
  bnd (G49x0 N ([109] : List UInt8) 1 100 [(.a [(.i 0), (.i 0), (.i 0), (.i 0), (.i (-1)), (.i (-1)), (.i (-1))]), (.a [(.i 5), (.i 4), (.i 0), (.i 0), (.i 120), (.i (-1)), (.i (-1))])] [] [] false) fun y0 =>
  bif y0.isSome then
    bnd (G18x0 N (y0.getD default).2.1) fun y1 =>
    bif y1.isSome then
      bnd (G17x0x13 N (y0.getD default).2.2 (y1.getD default).2.1 (y1.getD default).2.2) fun y2 =>
      bif y2.isSome then
        k0 (y2.getD default)
      else
        none
    else
      none
  else
    none
noncomputable def G17x0 : Option (Bool) := F17x0 N (fun p => some p)
theorem bind17x0 (k0 : Bool → Option R) : F17x0 N k0 = (G17x0 N).bind k0 := by
  unfold G17x0 F17x0
  repeat' (first | with_reducible apply cond_b | (with_reducible apply bnd_b; intro _) | rfl)
noncomputable def sh17x0 : Sh := { tmps := [], mem := [] }
noncomputable def A17x0 (L : List Lf) : List (Bool × Res) := bnd (F17x0 N (fun p => some p)) fun q => [(q.isSome, ([.c (.b (q.getD default))], []))]
theorem raw17x0 (L : List Lf) : bd Try.prog (T18x0 N) (h17x0s1 N).h 17 sh17x0 L = F17x0 N (fun p => some ([.c (.b p)], [])) := by kernel_rfl
theorem ok17x0 : FnOk Try.prog 17 sh17x0 (A17x0 N) :=
  (h17x0s1 N).fn progOk (T18x0_ok N) fun L x hx => ((raw17x0 N L).trans ((bind17x0 N ..).trans (alt1 x hx)))
noncomputable def T17x0 : Oracle := ext 17 (spSh sh17x0 (A17x0 N)) (T18x0 N)
theorem T17x0_ok : OracleOk Try.prog (T17x0 N) := FnOk.to (ok17x0 N) (T18x0_ok N)
noncomputable def rg5x0 : List (Nat × List Nat) := [(0, [0, 1]), (1, [2, 1]), (2, [2, 1, 5, 6]), (3, [5, 7, 6, 8])]
noncomputable def hd5x0 : Hints := [(10, [5, 7, 6, 8], [7, 5], [])]
noncomputable def h5x0s0 (N : Nat) : Sg Try.prog 0 5 := .start hd5x0 rg5x0
noncomputable def F5x0x10 (w0 w1 : Int) (w3 w5 : LD) (k0 : Bool → Option R) : Option R :=
  bnd (G28x0 N w3 w5) fun y0 =>
  bif y0.isSome then
    bif (bif (y0.getD default) then (w0 == w1) else false) then
      bnd (G17x0 N) fun y1 =>
      bif y1.isSome then
        k0 (y1.getD default)
      else
        none
    else
      k0 false
  else
    none
noncomputable def G5x0x10 (w0 w1 : Int) (w3 w5 : LD) : Option (Bool) := F5x0x10 N w0 w1 w3 w5 (fun p => some p)
theorem bind5x0x10 (w0 w1 : Int) (w3 w5 : LD) (k0 : Bool → Option R) : F5x0x10 N w0 w1 w3 w5 k0 = (G5x0x10 N w0 w1 w3 w5).bind k0 := by
  unfold G5x0x10 F5x0x10
  repeat' (first | with_reducible apply cond_b | (with_reducible apply bnd_b; intro _) | rfl)
noncomputable def J5x0x10 (L : List Lf) (k0 : Bool → Option R) : Option R := F5x0x10 N (li L 0) (li L 1) (ll L 3) (ll L 5) k0
noncomputable def sh5x0x10 : Sh := { tmps := [(5, .c (.p 5 0)), (6, .c (.i .i64)), (7, .c (.p 7 0)), (8, .c (.i .i64))], mem := [(5, .box ([.sl 53])), (7, .box ([.sl 53]))] }
noncomputable def A5x0x10 (L : List Lf) : List (Bool × (Ex × St)) := bnd (J5x0x10 N L (fun p => some p)) fun q => [(q.isSome, (.normal, ⟨[(4, .c (.b (q.getD default)))], []⟩))]
theorem raw5x0x10 (L : List Lf) : pc Try.prog (T17x0 N) (h5x0s0 N).h 0 100 5 10 sh5x0x10 L [4] [] = J5x0x10 N L (fun p => some (.normal, ⟨[(4, .c (.b p))], []⟩)) := by kernel_rfl
noncomputable def h5x0s1 : Sg Try.prog 0 5 :=
  (h5x0s0 N).cut (A5x0x10 N) progOk (T17x0_ok N) fun L x hx => (raw5x0x10 N L).trans ((bind5x0x10 N ..).trans (alt1 x hx))
noncomputable def F5x0 (v1 v3 : LD) (k0 : Bool → Option R) : Option R :=
  bnd (G26x0 N v1 v3) fun y0 =>
  bif y0.isSome then
    bnd (G27x0 N v1 v3) fun y1 =>
    bif y1.isSome then
      bnd (G5x0x10 N (y0.getD default).2.2 (y1.getD default).2.2 (y0.getD default).2.1 (y1.getD default).2.1) fun y2 =>
      bif y2.isSome then
        k0 (y2.getD default)
      else
        none
    else
      none
  else
    none
noncomputable def G5x0 (v1 v3 : LD) : Option (Bool) := F5x0 N v1 v3 (fun p => some p)
theorem bind5x0 (v1 v3 : LD) (k0 : Bool → Option R) : F5x0 N v1 v3 k0 = (G5x0 N v1 v3).bind k0 := by
  unfold G5x0 F5x0
  repeat' (first | with_reducible apply cond_b | (with_reducible apply bnd_b; intro _) | rfl)
noncomputable def sh5x0 : Sh := { tmps := [(0, .g ([.sl 53])), (1, .c (.sl 3))], mem := [] }
noncomputable def A5x0 (L : List Lf) : List (Bool × Res) := bnd (F5x0 N (ll L 1) (ll L 3) (fun p => some p)) fun q => [(q.isSome, ([.c (.b (q.getD default))], []))]
theorem raw5x0 (L : List Lf) : bd Try.prog (T17x0 N) (h5x0s1 N).h 5 sh5x0 L = F5x0 N (ll L 1) (ll L 3) (fun p => some ([.c (.b p)], [])) := by kernel_rfl
theorem ok5x0 : FnOk Try.prog 5 sh5x0 (A5x0 N) :=
  (h5x0s1 N).fn progOk (T17x0_ok N) fun L x hx => ((raw5x0 N L).trans ((bind5x0 N ..).trans (alt1 x hx)))
noncomputable def T5x0 : Oracle := ext 5 (spSh sh5x0 (A5x0 N)) (T17x0 N)
theorem T5x0_ok : OracleOk Try.prog (T5x0 N) := FnOk.to (ok5x0 N) (T17x0_ok N)
end Go.Proofs.Ytnnofignhdijiaa
