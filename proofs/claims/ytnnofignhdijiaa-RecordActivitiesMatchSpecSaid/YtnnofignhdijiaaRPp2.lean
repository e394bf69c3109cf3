/- Functions of the program as plain Lean definitions, each with the proof that the program computes it. No condition. Printed by a program of the prover, part 2. -/
import Derived.Test.YtnnofignhdijiaaRPp1
import Derived.KernelRfl
set_option linter.all false
set_option maxRecDepth 100000
namespace Go.Proofs.Ytnnofignhdijiaa
open Go Go.AM
variable (N : Nat) {R : Type}
theorem ok58x0 : FnOk Try.prog 58 sh58x0 (A58x0 N) :=
  (h58x0s3 N).fn progOk (T56x0_ok N) fun L x hx => ((raw58x0 N L).trans ((bind58x0 N ..).trans (alt1 x hx)))
noncomputable def T58x0 : Oracle := ext 58 (spSh sh58x0 (A58x0 N)) (T56x0 N)
theorem T58x0_ok : OracleOk Try.prog (T58x0 N) := FnOk.to (ok58x0 N) (T56x0_ok N)
noncomputable def rg111x0 : List (Nat × List Nat) := [(0, [0]), (1, [1]), (2, []), (3, [1])]
noncomputable def hd111x0 : Hints := []
noncomputable def h111x0s0 (N : Nat) : Sg Try.prog 0 111 := .start hd111x0 rg111x0
noncomputable def F111x0 (N : Nat) (v4 : LD) (k0 : Int → Option R) : Option R :=
  bif ((v4.length : Int) == 0) then
    k0 0
  else
    bif (inB (IntKind.wrap .i64 ((v4.length : Int) - 1)) v4.length) then
      bnd ((v4.getD (IntKind.wrap .i64 ((v4.length : Int) - 1)).toNat (.i 0)) : D) fun y0 =>
      k0 (y0.cell 0).toI
    else
      none
noncomputable def G111x0 (v4 : LD) : Option (Int) := F111x0 N v4 (fun p => some p)
theorem bind111x0 (v4 : LD) (k0 : Int → Option R) : F111x0 N v4 k0 = (G111x0 N v4).bind k0 := by
  unfold G111x0 F111x0
  repeat' (first | with_reducible apply cond_b | (with_reducible apply bnd_b; intro _) | rfl)
noncomputable def sh111x0 : Sh := { tmps := [(0, .g (.s :: [.i .i64, .i .i64, .sl 78, .sl 82, .sl 9]))], mem := [] }
noncomputable def A111x0 (L : List Lf) : List (Bool × Res) := bnd (F111x0 N (ll L 4) (fun p => some p)) fun q => [(q.isSome, ([.c (.i .i64 (q.getD default))], []))]
theorem raw111x0 (L : List Lf) : bd Try.prog (T58x0 N) (h111x0s0 N).h 111 sh111x0 L = F111x0 N (ll L 4) (fun p => some ([.c (.i .i64 p)], [])) := by kernel_rfl
theorem ok111x0 : FnOk Try.prog 111 sh111x0 (A111x0 N) :=
  (h111x0s0 N).fn progOk (T58x0_ok N) fun L x hx => ((raw111x0 N L).trans ((bind111x0 N ..).trans (alt1 x hx)))
noncomputable def T111x0 : Oracle := ext 111 (spSh sh111x0 (A111x0 N)) (T58x0 N)
theorem T111x0_ok : OracleOk Try.prog (T111x0 N) := FnOk.to (ok111x0 N) (T58x0_ok N)
noncomputable def rg59x0 : List (Nat × List Nat) := [(0, [0, 1]), (1, [2, 1]), (2, [5, 2, 1]), (3, []), (4, [1, 5, 2]), (5, []), (6, [5]), (7, [6, 5]), (9, [5, 6]), (10, []), (8, [6, 5]), (11, [5]), (12, []), (13, [])]
noncomputable def hd59x0 : Hints := [(7, [5, 2, 1], [5, 2], []), (13, [1, 5, 2], [5, 2], []), (21, [6, 5], [5], [])]
noncomputable def h59x0s0 (N : Nat) : Sg Try.prog 0 59 := .start hd59x0 rg59x0
noncomputable def F59x0x7 (w5 : LD) (w10 w11 : Int) (k0 : Bool → Option R) : Option R :=
  bif (decide (w10 < 0)) then
    k0 true
  else
    bif (decide (w10 ≥ w11)) then
      k0 true
    else
      bnd (G111x0 N w5) fun y0 =>
      bif y0.isSome then
        k0 (decide (w11 > (y0.getD default)))
      else
        none
noncomputable def G59x0x7 (w5 : LD) (w10 w11 : Int) : Option (Bool) := F59x0x7 N w5 w10 w11 (fun p => some p)
theorem bind59x0x7 (w5 : LD) (w10 w11 : Int) (k0 : Bool → Option R) : F59x0x7 N w5 w10 w11 k0 = (G59x0x7 N w5 w10 w11).bind k0 := by
  unfold G59x0x7 F59x0x7
  repeat' (first | with_reducible apply cond_b | (with_reducible apply bnd_b; intro _) | rfl)
noncomputable def sh59x0x7 : Sh := { tmps := [(1, .c (.i .i64)), (2, .c (.p 2 0)), (5, .c (.p 5 0))], mem := [(2, .box (.s :: [.i .i64, .i .i64, .sl 78, .sl 82, .sl 9])), (5, .box ([.i .i64, .i .i64, .s]))] }
noncomputable def K59x0x7w0 (L : List Lf) (p : Bool) : Ex × St := (.normal, mg (ofSh sh59x0x7 L) [1, 2, 5, 28] [(28, .c (.b p))] [2, 5] [])
noncomputable def A59x0x7 (L : List Lf) : List (Bool × (Ex × St)) := bnd (F59x0x7 N (ll L 5) (li L 10) (li L 11) (fun p => some p)) fun q => [(q.isSome, K59x0x7w0 L (q.getD default))]
theorem raw59x0x7 (L : List Lf) : pc Try.prog (T111x0 N) (h59x0s0 N).h 0 100 59 7 sh59x0x7 L [1, 5, 2, 28] [5, 2] = F59x0x7 N (ll L 5) (li L 10) (li L 11) (fun p => some (K59x0x7w0 L p)) := by kernel_rfl
noncomputable def h59x0s1 : Sg Try.prog 0 59 :=
  (h59x0s0 N).cut (A59x0x7 N) progOk (T111x0_ok N) fun L x hx => (raw59x0x7 N L).trans ((bind59x0x7 N ..).trans (alt1 x hx))
noncomputable def F59x0x13 (N : Nat) (w0 : Int) (w7 : LD) (w10 : Int) (k0 : Bool → Option R) : Option R :=
  bif (decide (w0 > 0)) then
    bif (inB (IntKind.wrap .i64 (w0 - 1)) w7.length) then
      bnd ((w7.getD (IntKind.wrap .i64 (w0 - 1)).toNat (.i 0)).cell 1).toI fun y0 =>
      k0 (decide (w10 < y0))
    else
      none
  else
    k0 false
noncomputable def G59x0x13 (w0 : Int) (w7 : LD) (w10 : Int) : Option (Bool) := F59x0x13 N w0 w7 w10 (fun p => some p)
theorem bind59x0x13 (w0 : Int) (w7 : LD) (w10 : Int) (k0 : Bool → Option R) : F59x0x13 N w0 w7 w10 k0 = (G59x0x13 N w0 w7 w10).bind k0 := by
  unfold G59x0x13 F59x0x13
  repeat' (first | with_reducible apply cond_b | (with_reducible apply bnd_b; intro _) | rfl)
noncomputable def sh59x0x13 : Sh := { tmps := [(1, .c (.i .i64)), (2, .c (.p 2 0)), (5, .c (.p 5 0))], mem := [(2, .box (.s :: [.i .i64, .i .i64, .sl 78, .sl 82, .sl 9])), (5, .box ([.i .i64, .i .i64, .s]))] }
noncomputable def K59x0x13w0 (L : List Lf) (p : Bool) : Ex × St := (.normal, mg (ofSh sh59x0x13 L) [5, 42] [(42, .c (.b p))] [5] [])
noncomputable def A59x0x13 (L : List Lf) : List (Bool × (Ex × St)) := bnd (F59x0x13 N (li L 0) (ll L 7) (li L 10) (fun p => some p)) fun q => [(q.isSome, K59x0x13w0 L (q.getD default))]
theorem raw59x0x13 (L : List Lf) : pc Try.prog (T111x0 N) (h59x0s1 N).h 0 100 59 13 sh59x0x13 L [5, 42] [5] = F59x0x13 N (li L 0) (ll L 7) (li L 10) (fun p => some (K59x0x13w0 L p)) := by kernel_rfl
noncomputable def h59x0s2 : Sg Try.prog 0 59 :=
  (h59x0s1 N).cut (A59x0x13 N) progOk (T111x0_ok N) fun L x hx => (raw59x0x13 N L).trans ((bind59x0x13 N ..).trans (alt1 x hx))
noncomputable def S59x0x21 (w3 : LB) (w0 : Int) (kr : Int → Option R) (k0 : Unit → Option R) (k1 : Unit → Option R) : Option R :=
  bif (decide (w0 < (w3.length : Int))) then
    bif (inB w0 w3.length) then
      bnd (V57x0 N (IntKind.wrap .i64 ((w3.getD w0.toNat 0).toNat : Int)) 32 126) fun y0 =>
      bif y0 then
        k0 ()
      else
        kr (IntKind.wrap .i64 (w0 + 1))
    else
      none
  else
    k1 ()
noncomputable def L59x0x21 (N : Nat) {R : Type} (w3 : LB) : Nat → Int → (Unit → Option R) → (Unit → Option R) → Option R
  | 0, _, _, _ => none
  | m + 1, w0, k0, k1 => S59x0x21 N w3 w0 (fun w0 => L59x0x21 N w3 m w0 k0 k1) k0 k1
noncomputable def G59x0x21 (w3 : LB) (w0 : Int) : Option (Sum (Unit) (Unit)) := L59x0x21 N (R := (Sum (Unit) (Unit))) w3 N w0 (fun p => some (.inl p)) (fun p => some (.inr p))
noncomputable def J59x0x21 (L x : List Lf) (kr : List Lf → Option R) (k0 : Unit → Option R) (k1 : Unit → Option R) : Option R := S59x0x21 N (ls L 3) (li x 0) (fun w0 => kr [.i w0]) k0 k1
theorem sb59x0x21 (L x : List Lf) (kr : List Lf → Option R) (k0 : Unit → Option R) (k1 : Unit → Option R) : J59x0x21 N L x kr k0 k1 = (J59x0x21 N L x (fun y => some (.inl y)) (fun p => some (.inr (.inl p))) (fun p => some (.inr (.inr p)))).bind (sumE kr (sumE k0 k1)) := by
  unfold J59x0x21 S59x0x21
  repeat' (first | with_reducible apply cond_b | (with_reducible apply bnd_b; intro _) | rfl)
noncomputable def Q59x0x21 (L : List Lf) (m : Nat) (x : List Lf) : Option (Sum (Unit) (Unit)) := L59x0x21 N (R := (Sum (Unit) (Unit))) (ls L 3) m (li x 0) (fun p => some (.inl p)) (fun p => some (.inr p))
noncomputable def sh59x0x21 : Sh := { tmps := [(5, .c (.p 5 0)), (6, .c (.i .i64))], mem := [(5, .box ([.i .i64, .i .i64, .s]))] }
noncomputable def K59x0x21w0 (L : List Lf) (_ : Unit) : Ex × St := (.ret, mg (ofSh sh59x0x21 L) [4] [(4, .c (.i .i64 8))] [5] [])
noncomputable def A59x0x21 (L : List Lf) : List (Bool × (Ex × St)) := bnd (Q59x0x21 N L N (pk sh59x0x21 [0] L)) fun q => [((inlB q), K59x0x21w0 L ()), ((inrQ q).isSome, ((.exit 0), mg (ofSh sh59x0x21 L) [5] [] [5] []))]
theorem step59x0x21 (m : Nat) (kn : St → Option (Ex × St)) (L x : List Lf) : lpB Try.prog (T111x0 N) (h59x0s2 N).h 0 59 21 sh59x0x21 [0] [4, 5] [5] (m + 100) kn L x = J59x0x21 N L x (fun y => kn (ofSh sh59x0x21 (mx sh59x0x21 [0] L y))) (fun _ => some (K59x0x21w0 L ())) (fun _ => some ((.exit 0), mg (ofSh sh59x0x21 L) [5] [] [5] [])) := by kernel_rfl
theorem ql59x0x21 (L : List Lf) (m : Nat) (x : List Lf) : Q59x0x21 N L (m + 1) x = J59x0x21 N L x (Q59x0x21 N L m) (fun p => some (.inl p)) (fun p => some (.inr p)) := by kernel_rfl
noncomputable def h59x0s3 : Sg Try.prog 0 59 :=
  (h59x0s2 N).lp (A59x0x21 N) N progOk (T111x0_ok N) (fun m kn L x => (step59x0x21 N m kn L x).trans (sb59x0x21 N L x _ _ _)) (fun L m x => (ql59x0x21 N L m x).trans (sb59x0x21 N L x (Q59x0x21 N L m) (fun p => some (.inl p)) (fun p => some (.inr p)))) fun L x hx => (altS alt1) x hx
noncomputable def F59x0 (v4 v6 : LD) (v9 : Int) (k0 : Int → Option R) : Option R :=
  bif (inB v9 v6.length) then
    bnd (G59x0x7 N v4 ((v6.getD v9.toNat (.i 0)).cell 0).toI ((v6.getD v9.toNat (.i 0)).cell 1).toI) fun y0 =>
    bif y0.isSome then
      bif (y0.getD default) then
        k0 9
      else
        bnd (G59x0x13 N v9 v6 ((v6.getD v9.toNat (.i 0)).cell 0).toI) fun y1 =>
        bif y1.isSome then
          bif (y1.getD default) then
            k0 10
          else
            bnd (G59x0x21 N ((v6.getD v9.toNat (.i 0)).cell 2).toS 0) fun y2 =>
            bif (inlB y2) then
              k0 8
            else
              bif (inrQ y2).isSome then
                bnd (decide ((((v6.getD v9.toNat (.i 0)).cell 2).toS.length : Int) > 60)) fun y3 =>
                bif y3 then
                  k0 8
                else
                  k0 0
              else
                none
        else
          none
    else
      none
  else
    none
noncomputable def G59x0 (v4 v6 : LD) (v9 : Int) : Option (Int) := F59x0 N v4 v6 v9 (fun p => some p)
theorem bind59x0 (v4 v6 : LD) (v9 : Int) (k0 : Int → Option R) : F59x0 N v4 v6 v9 k0 = (G59x0 N v4 v6 v9).bind k0 := by
  unfold G59x0 F59x0
  repeat' (first | with_reducible apply cond_b | (with_reducible apply bnd_b; intro _) | rfl)
noncomputable def sh59x0 : Sh := { tmps := [(0, .g (.s :: [.i .i64, .i .i64, .sl 78, .sl 82, .sl 9])), (1, .c (.i .i64))], mem := [] }
noncomputable def A59x0 (L : List Lf) : List (Bool × Res) := bnd (F59x0 N (ll L 4) (ll L 6) (li L 9) (fun p => some p)) fun q => [(q.isSome, ([.c (.i .i64 (q.getD default))], []))]
theorem raw59x0 (L : List Lf) : bd Try.prog (T111x0 N) (h59x0s3 N).h 59 sh59x0 L = F59x0 N (ll L 4) (ll L 6) (li L 9) (fun p => some ([.c (.i .i64 p)], [])) := by kernel_rfl
theorem ok59x0 : FnOk Try.prog 59 sh59x0 (A59x0 N) :=
  (h59x0s3 N).fn progOk (T111x0_ok N) fun L x hx => ((raw59x0 N L).trans ((bind59x0 N ..).trans (alt1 x hx)))
noncomputable def T59x0 : Oracle := ext 59 (spSh sh59x0 (A59x0 N)) (T111x0 N)
theorem T59x0_ok : OracleOk Try.prog (T59x0 N) := FnOk.to (ok59x0 N) (T111x0_ok N)
noncomputable def rg14x0 : List (Nat × List Nat) := [(0, [0]), (1, [1]), (3, [1]), (5, [1]), (7, [1]), (8, []), (6, []), (4, []), (2, []), (9, [1]), (10, [42, 41, 1]), (11, [42, 1, 41]), (12, [1, 3, 42, 41]), (13, [4, 42, 41, 1]), (14, [4]), (15, [42, 41, 1]), (16, [1]), (17, [55, 54, 1]), (18, [55, 1, 54]), (19, [1, 5, 55, 54]), (20, [6, 55, 54, 1]), (21, [6]), (22, [55, 54, 1]), (23, [1]), (24, [68, 67, 66, 1]), (25, [68, 66, 1, 67]), (26, [8, 7, 1, 68, 67, 66]), (27, []), (28, [7, 8, 1, 68, 67, 66]), (29, []), (30, [68, 67, 66, 1]), (31, [])]
noncomputable def hd14x0 : Hints := [(30, [42, 41, 1], [1], []), (51, [55, 54, 1], [1], []), (72, [68, 67, 66, 1], [1], [])]
noncomputable def h14x0s0 (N : Nat) : Sg Try.prog 0 14 := .start hd14x0 rg14x0
noncomputable def S14x0x30 (w0 w4 : Int) (w6 : LD) (w1 : Int) (kr : Int → Option R) (k0 : Int → Option R) (k1 : Unit → Option R) : Option R :=
  bif (decide (w1 < w0)) then
    bnd (G58x0 N w4 w6 w1) fun y0 =>
    bif y0.isSome then
      bif ((y0.getD default) != 0) then
        k0 (y0.getD default)
      else
        kr (IntKind.wrap .i64 (w1 + 1))
    else
      none
  else
    k1 ()
noncomputable def L14x0x30 (N : Nat) {R : Type} (w0 w4 : Int) (w6 : LD) : Nat → Int → (Int → Option R) → (Unit → Option R) → Option R
  | 0, _, _, _ => none
  | m + 1, w1, k0, k1 => S14x0x30 N w0 w4 w6 w1 (fun w1 => L14x0x30 N w0 w4 w6 m w1 k0 k1) k0 k1
noncomputable def G14x0x30 (w0 w4 : Int) (w6 : LD) (w1 : Int) : Option (Sum (Int) (Unit)) := L14x0x30 N (R := (Sum (Int) (Unit))) w0 w4 w6 N w1 (fun p => some (.inl p)) (fun p => some (.inr p))
noncomputable def J14x0x30 (L x : List Lf) (kr : List Lf → Option R) (k0 : Int → Option R) (k1 : Unit → Option R) : Option R := S14x0x30 N (li L 0) (li L 4) (ll L 6) (li x 0) (fun w1 => kr [.i w1]) k0 k1
theorem sb14x0x30 (L x : List Lf) (kr : List Lf → Option R) (k0 : Int → Option R) (k1 : Unit → Option R) : J14x0x30 N L x kr k0 k1 = (J14x0x30 N L x (fun y => some (.inl y)) (fun p => some (.inr (.inl p))) (fun p => some (.inr (.inr p)))).bind (sumE kr (sumE k0 k1)) := by
  unfold J14x0x30 S14x0x30
  repeat' (first | with_reducible apply cond_b | (with_reducible apply bnd_b; intro _) | rfl)
noncomputable def Q14x0x30 (L : List Lf) (m : Nat) (x : List Lf) : Option (Sum (Int) (Unit)) := L14x0x30 N (R := (Sum (Int) (Unit))) (li L 0) (li L 4) (ll L 6) m (li x 0) (fun p => some (.inl p)) (fun p => some (.inr p))
noncomputable def sh14x0x30 : Sh := { tmps := [(1, .c (.p 1 0)), (41, .c (.i .i64)), (42, .c (.i .i64))], mem := [(1, .box (.s :: [.i .i64, .i .i64, .sl 78, .sl 82, .sl 9]))] }
noncomputable def K14x0x30w0 (L : List Lf) (p : Int) : Ex × St := (.ret, mg (ofSh sh14x0x30 L) [2] [(2, .c (.i .i64 p))] [1] [])
noncomputable def A14x0x30 (L : List Lf) : List (Bool × (Ex × St)) := bnd (Q14x0x30 N L N (pk sh14x0x30 [1] L)) fun q => [((inlB q), K14x0x30w0 L (inlV q)), ((inrQ q).isSome, ((.exit 1), mg (ofSh sh14x0x30 L) [1] [] [1] []))]
theorem step14x0x30 (m : Nat) (kn : St → Option (Ex × St)) (L x : List Lf) : lpB Try.prog (T59x0 N) (h14x0s0 N).h 0 14 30 sh14x0x30 [1] [2, 1] [1] (m + 100) kn L x = J14x0x30 N L x (fun y => kn (ofSh sh14x0x30 (mx sh14x0x30 [1] L y))) (fun p => some (K14x0x30w0 L p)) (fun _ => some ((.exit 1), mg (ofSh sh14x0x30 L) [1] [] [1] [])) := by kernel_rfl
theorem ql14x0x30 (L : List Lf) (m : Nat) (x : List Lf) : Q14x0x30 N L (m + 1) x = J14x0x30 N L x (Q14x0x30 N L m) (fun p => some (.inl p)) (fun p => some (.inr p)) := by kernel_rfl
noncomputable def h14x0s1 : Sg Try.prog 0 14 :=
  (h14x0s0 N).lp (A14x0x30 N) N progOk (T59x0_ok N) (fun m kn L x => (step14x0x30 N m kn L x).trans (sb14x0x30 N L x _ _ _)) (fun L m x => (ql14x0x30 N L m x).trans (sb14x0x30 N L x (Q14x0x30 N L m) (fun p => some (.inl p)) (fun p => some (.inr p)))) fun L x hx => (altS alt1) x hx
noncomputable def S14x0x51 (w0 : Int) (w6 w8 : LD) (w1 : Int) (kr : Int → Option R) (k0 : Int → Option R) (k1 : Unit → Option R) : Option R :=
  bif (decide (w1 < w0)) then
    bnd (G59x0 N w6 w8 w1) fun y0 =>
    bif y0.isSome then
      bif ((y0.getD default) != 0) then
        k0 (y0.getD default)
      else
        kr (IntKind.wrap .i64 (w1 + 1))
    else
      none
  else
    k1 ()
noncomputable def L14x0x51 (N : Nat) {R : Type} (w0 : Int) (w6 w8 : LD) : Nat → Int → (Int → Option R) → (Unit → Option R) → Option R
  | 0, _, _, _ => none
  | m + 1, w1, k0, k1 => S14x0x51 N w0 w6 w8 w1 (fun w1 => L14x0x51 N w0 w6 w8 m w1 k0 k1) k0 k1
noncomputable def G14x0x51 (w0 : Int) (w6 w8 : LD) (w1 : Int) : Option (Sum (Int) (Unit)) := L14x0x51 N (R := (Sum (Int) (Unit))) w0 w6 w8 N w1 (fun p => some (.inl p)) (fun p => some (.inr p))
noncomputable def J14x0x51 (L x : List Lf) (kr : List Lf → Option R) (k0 : Int → Option R) (k1 : Unit → Option R) : Option R := S14x0x51 N (li L 0) (ll L 6) (ll L 8) (li x 0) (fun w1 => kr [.i w1]) k0 k1
theorem sb14x0x51 (L x : List Lf) (kr : List Lf → Option R) (k0 : Int → Option R) (k1 : Unit → Option R) : J14x0x51 N L x kr k0 k1 = (J14x0x51 N L x (fun y => some (.inl y)) (fun p => some (.inr (.inl p))) (fun p => some (.inr (.inr p)))).bind (sumE kr (sumE k0 k1)) := by
  unfold J14x0x51 S14x0x51
  repeat' (first | with_reducible apply cond_b | (with_reducible apply bnd_b; intro _) | rfl)
noncomputable def Q14x0x51 (L : List Lf) (m : Nat) (x : List Lf) : Option (Sum (Int) (Unit)) := L14x0x51 N (R := (Sum (Int) (Unit))) (li L 0) (ll L 6) (ll L 8) m (li x 0) (fun p => some (.inl p)) (fun p => some (.inr p))
noncomputable def sh14x0x51 : Sh := { tmps := [(1, .c (.p 1 0)), (54, .c (.i .i64)), (55, .c (.i .i64))], mem := [(1, .box (.s :: [.i .i64, .i .i64, .sl 78, .sl 82, .sl 9]))] }
noncomputable def K14x0x51w0 (L : List Lf) (p : Int) : Ex × St := (.ret, mg (ofSh sh14x0x51 L) [2] [(2, .c (.i .i64 p))] [1] [])
noncomputable def A14x0x51 (L : List Lf) : List (Bool × (Ex × St)) := bnd (Q14x0x51 N L N (pk sh14x0x51 [1] L)) fun q => [((inlB q), K14x0x51w0 L (inlV q)), ((inrQ q).isSome, ((.exit 3), mg (ofSh sh14x0x51 L) [1] [] [1] []))]
theorem step14x0x51 (m : Nat) (kn : St → Option (Ex × St)) (L x : List Lf) : lpB Try.prog (T59x0 N) (h14x0s1 N).h 0 14 51 sh14x0x51 [1] [2, 1] [1] (m + 100) kn L x = J14x0x51 N L x (fun y => kn (ofSh sh14x0x51 (mx sh14x0x51 [1] L y))) (fun p => some (K14x0x51w0 L p)) (fun _ => some ((.exit 3), mg (ofSh sh14x0x51 L) [1] [] [1] [])) := by kernel_rfl
theorem ql14x0x51 (L : List Lf) (m : Nat) (x : List Lf) : Q14x0x51 N L (m + 1) x = J14x0x51 N L x (Q14x0x51 N L m) (fun p => some (.inl p)) (fun p => some (.inr p)) := by kernel_rfl
noncomputable def h14x0s2 : Sg Try.prog 0 14 :=
  (h14x0s1 N).lp (A14x0x51 N) N progOk (T59x0_ok N) (fun m kn L x => (step14x0x51 N m kn L x).trans (sb14x0x51 N L x _ _ _)) (fun L m x => (ql14x0x51 N L m x).trans (sb14x0x51 N L x (Q14x0x51 N L m) (fun p => some (.inl p)) (fun p => some (.inr p)))) fun L x hx => (altS alt1) x hx
noncomputable def S14x0x72 (w1 : LD) (w2 : Int) (w12 : LD) (w3 : Int) (kr : Int → Option R) (k0 : Int → Option R) (k1 : Unit → Option R) : Option R :=
  bif (decide (w3 < w2)) then
    bif (inB w3 w1.length) then
      bnd (G56x0 N (w1.getD w3.toNat (.i 0)).toS) fun y0 =>
      bif y0.isSome then
        bif (!(y0.getD default)) then
          k0 8
        else
          bif (bif (inB (IntKind.wrap .i64 (w3 - 1)) w12.length) then true else (!((decide (w3 > 0)) == true))) then
            bnd (bif (decide (w3 > 0)) then ((Op.bytesLess (w1.getD w3.toNat (.i 0)).toS (w12.getD (IntKind.wrap .i64 (w3 - 1)).toNat (.i 0)).toS) || ((w1.getD w3.toNat (.i 0)).toS == (w12.getD (IntKind.wrap .i64 (w3 - 1)).toNat (.i 0)).toS)) else false) fun y1 =>
            bif y1 then
              k0 10
            else
              kr (IntKind.wrap .i64 (w3 + 1))
          else
            none
      else
        none
    else
      none
  else
    k1 ()
noncomputable def L14x0x72 (N : Nat) {R : Type} (w1 : LD) (w2 : Int) (w12 : LD) : Nat → Int → (Int → Option R) → (Unit → Option R) → Option R
  | 0, _, _, _ => none
  | m + 1, w3, k0, k1 => S14x0x72 N w1 w2 w12 w3 (fun w3 => L14x0x72 N w1 w2 w12 m w3 k0 k1) k0 k1
noncomputable def G14x0x72 (w1 : LD) (w2 : Int) (w12 : LD) (w3 : Int) : Option (Sum (Int) (Unit)) := L14x0x72 N (R := (Sum (Int) (Unit))) w1 w2 w12 N w3 (fun p => some (.inl p)) (fun p => some (.inr p))
noncomputable def J14x0x72 (L x : List Lf) (kr : List Lf → Option R) (k0 : Int → Option R) (k1 : Unit → Option R) : Option R := S14x0x72 N (ll L 1) (li L 2) (ll L 12) (li x 0) (fun w3 => kr [.i w3]) k0 k1
theorem sb14x0x72 (L x : List Lf) (kr : List Lf → Option R) (k0 : Int → Option R) (k1 : Unit → Option R) : J14x0x72 N L x kr k0 k1 = (J14x0x72 N L x (fun y => some (.inl y)) (fun p => some (.inr (.inl p))) (fun p => some (.inr (.inr p)))).bind (sumE kr (sumE k0 k1)) := by
  unfold J14x0x72 S14x0x72
  repeat' (first | with_reducible apply cond_b | (with_reducible apply bnd_b; intro _) | rfl)
noncomputable def Q14x0x72 (L : List Lf) (m : Nat) (x : List Lf) : Option (Sum (Int) (Unit)) := L14x0x72 N (R := (Sum (Int) (Unit))) (ll L 1) (li L 2) (ll L 12) m (li x 0) (fun p => some (.inl p)) (fun p => some (.inr p))
noncomputable def sh14x0x72 : Sh := { tmps := [(1, .c (.p 1 0)), (66, .c (.sl 9)), (67, .c (.i .i64)), (68, .c (.i .i64))], mem := [(1, .box (.s :: [.i .i64, .i .i64, .sl 78, .sl 82, .sl 9]))] }
noncomputable def A14x0x72 (L : List Lf) : List (Bool × (Ex × St)) := bnd (Q14x0x72 N L N (pk sh14x0x72 [3] L)) fun q => [((inlB q), (.ret, ⟨[(2, .c (.i .i64 (inlV q)))], []⟩)), ((inrQ q).isSome, ((.exit 5), ⟨[], []⟩))]
theorem step14x0x72 (m : Nat) (kn : St → Option (Ex × St)) (L x : List Lf) : lpB Try.prog (T59x0 N) (h14x0s2 N).h 0 14 72 sh14x0x72 [3] [2] [] (m + 100) kn L x = J14x0x72 N L x (fun y => kn (ofSh sh14x0x72 (mx sh14x0x72 [3] L y))) (fun p => some (.ret, ⟨[(2, .c (.i .i64 p))], []⟩)) (fun _ => some ((.exit 5), ⟨[], []⟩)) := by kernel_rfl
theorem ql14x0x72 (L : List Lf) (m : Nat) (x : List Lf) : Q14x0x72 N L (m + 1) x = J14x0x72 N L x (Q14x0x72 N L m) (fun p => some (.inl p)) (fun p => some (.inr p)) := by kernel_rfl
noncomputable def h14x0s3 : Sg Try.prog 0 14 :=
  (h14x0s2 N).lp (A14x0x72 N) N progOk (T59x0_ok N) (fun m kn L x => (step14x0x72 N m kn L x).trans (sb14x0x72 N L x _ _ _)) (fun L m x => (ql14x0x72 N L m x).trans (sb14x0x72 N L x (Q14x0x72 N L m) (fun p => some (.inl p)) (fun p => some (.inr p)))) fun L x hx => (altS alt1) x hx
noncomputable def F14x0 (v0 : LB) (v1 v2 : Int) (v4 v6 v8 : LD) (k0 : Int → Option R) : Option R :=
  bnd (G56x0 N v0) fun y0 =>
  bif y0.isSome then
    bif (!(y0.getD default)) then
      k0 8
    else
      bnd (V57x0 N v1 1 5) fun y1 =>
      bif y1 then
        k0 7
      else
        bnd (V57x0 N v2 0 86399999999) fun y2 =>
        bif y2 then
          k0 9
        else
          bnd (bif (decide ((v4.length : Int) > 20000)) then true else (decide ((v6.length : Int) > 200))) fun y3 =>
          bnd (bif y3 then true else (decide ((v8.length : Int) > 20))) fun y4 =>
          bif y4 then
            k0 3
          else
            bnd (G14x0x30 N (v4.length : Int) v2 v4 0) fun y5 =>
            bif (inlB y5) then
              k0 (inlV y5)
            else
              bif (inrQ y5).isSome then
                bnd (G14x0x51 N (v6.length : Int) v4 v6 0) fun y6 =>
                bif (inlB y6) then
                  k0 (inlV y6)
                else
                  bif (inrQ y6).isSome then
                    bnd (G14x0x72 N v8 (v8.length : Int) v8 0) fun y7 =>
                    bif (inlB y7) then
                      k0 (inlV y7)
                    else
                      bif (inrQ y7).isSome then
                        k0 0
                      else
                        none
                  else
                    none
              else
                none
  else
    none
noncomputable def G14x0 (v0 : LB) (v1 v2 : Int) (v4 v6 v8 : LD) : Option (Int) := F14x0 N v0 v1 v2 v4 v6 v8 (fun p => some p)
theorem bind14x0 (v0 : LB) (v1 v2 : Int) (v4 v6 v8 : LD) (k0 : Int → Option R) : F14x0 N v0 v1 v2 v4 v6 v8 k0 = (G14x0 N v0 v1 v2 v4 v6 v8).bind k0 := by
  unfold G14x0 F14x0
  repeat' (first | with_reducible apply cond_b | (with_reducible apply bnd_b; intro _) | rfl)
noncomputable def J14x0 (L : List Lf) (k0 : Int → Option R) : Option R := F14x0 N (ls L 0) (li L 1) (li L 2) (ll L 4) (ll L 6) (ll L 8) k0
noncomputable def sh14x0 : Sh := { tmps := [(0, .g (.s :: [.i .i64, .i .i64, .sl 78, .sl 82, .sl 9]))], mem := [] }
noncomputable def A14x0 (L : List Lf) : List (Bool × Res) := bnd (J14x0 N L (fun p => some p)) fun q => [(q.isSome, ([.c (.i .i64 (q.getD default))], []))]
theorem raw14x0 (L : List Lf) : bd Try.prog (T59x0 N) (h14x0s3 N).h 14 sh14x0 L = J14x0 N L (fun p => some ([.c (.i .i64 p)], [])) := by kernel_rfl
theorem ok14x0 : FnOk Try.prog 14 sh14x0 (A14x0 N) :=
  (h14x0s3 N).fn progOk (T59x0_ok N) fun L x hx => ((raw14x0 N L).trans ((bind14x0 N ..).trans (alt1 x hx)))
noncomputable def T14x0 : Oracle := ext 14 (spSh sh14x0 (A14x0 N)) (T59x0 N)
theorem T14x0_ok : OracleOk Try.prog (T14x0 N) := FnOk.to (ok14x0 N) (T59x0_ok N)
noncomputable def rg42x0 : List (Nat × List Nat) := [(0, [0]), (1, [1, 2]), (2, [4, 2, 1]), (3, [4, 2]), (4, [1, 2]), (5, [5, 1, 2]), (6, [5, 1, 6, 2]), (7, [5, 7, 1, 6, 2]), (8, [39, 38, 37, 7, 1, 5, 6, 2]), (9, [39, 37, 7, 38, 1, 5, 6, 2]), (10, [7, 9, 39, 38, 37, 1, 5, 6, 2, 8]), (11, [9, 1, 8, 5, 6, 2, 39, 38, 37]), (12, [9, 1, 8, 5, 6, 2, 39, 38, 37, 7]), (13, [10, 5, 8, 6, 2, 39, 38, 37, 7, 1]), (14, [10, 11, 5, 8, 6, 12, 2, 39, 38, 37, 7, 1]), (15, [12, 6, 2, 39, 38, 37, 7, 1, 5]), (16, [2]), (17, [39, 38, 37, 7, 1, 5, 6, 2]), (18, [7, 2, 5, 1, 6]), (19, [2]), (20, [5, 1, 2, 6]), (21, [102, 101, 100, 1, 5, 2, 6]), (22, [102, 100, 101, 1, 5, 2, 6]), (23, [14, 102, 101, 100, 1, 5, 2, 6, 13]), (24, [14, 1, 13, 5, 2, 6, 102, 101, 100]), (25, [14, 15, 16, 2, 6, 102, 101, 100, 1, 5]), (26, [127, 15, 16, 2, 6, 102, 101, 100, 1, 5]), (33, [127, 15, 16, 2, 6, 102, 101, 100, 1, 5]), (38, [127, 15, 2, 6, 102, 101, 100, 1, 5]), (39, [15, 2, 6, 102, 101, 100, 1, 5]), (40, [25, 2, 6, 102, 101, 100, 1, 5]), (41, [2]), (42, [6, 25, 102, 101, 100, 1, 5, 2]), (34, [15, 16, 2, 6, 102, 101, 100, 1, 5]), (35, [16, 24, 2, 6, 23, 15, 102, 101, 100, 1, 5]), (36, [2]), (37, [6, 16, 23, 15, 102, 101, 100, 1, 5, 2]), (27, [15, 16, 2, 6, 102, 101, 100, 1, 5]), (28, [15, 16, 18, 2, 6, 17, 102, 101, 100, 1, 5]), (29, [15, 16, 18, 20, 2, 6, 17, 19, 102, 101, 100, 1, 5]), (30, [16, 18, 20, 22, 2, 6, 17, 19, 21, 15, 102, 101, 100, 1, 5]), (31, [2]), (32, [6, 16, 17, 19, 21, 15, 102, 101, 100, 1, 5, 2]), (43, [102, 101, 100, 1, 5, 2, 6]), (44, [6, 2]), (45, [26, 2, 6]), (46, [26, 2]), (47, [6, 2])]
noncomputable def hd42x0 : Hints := [(24, [39, 38, 37, 7, 1, 5, 6, 2], [6, 5, 2, 1, 50006005, 50006004, 50006003], [50006005, 50006004, 50006003]), (63, [102, 101, 100, 1, 5, 2, 6], [50006005, 50006004, 50006003, 6, 5, 2, 1], [50006005, 50006004, 50006003]), (119, [15, 2, 6, 102, 101, 100, 1, 5, 209], [50006005, 50006004, 50006003, 6, 5, 2, 1], []), (114104, [15, 16, 2, 6, 102, 101, 100, 1, 5, 127, 179], [50006005, 50006004, 50006003, 6, 5, 2, 1], []), (99083, [15, 16, 2, 6, 102, 101, 100, 1, 5, 127, 128], [50006005, 50006004, 50006003, 6, 5, 2, 1], [])]
noncomputable def h42x0s0 (N : Nat) : Sg Try.prog 0 42 := .start hd42x0 rg42x0
noncomputable def S42x0x24 (w2 : LD) (w3 : Int) (w6 w19 : LD) (w0 : Bool) (w4 : Int) (w20 : LB) (w21 w22 : Int) (kr : Bool → Int → LB → Int → Int → Option R) (k0 : Ty4 → Option R) (k1 : Ty7 → Option R) : Option R :=
  bif (decide (w4 < w3)) then
    bif (inB w4 w2.length) then
      bnd (bif w0 then true else (((w2.getD w4.toNat (.i 0)).items.length : Int) == 0)) fun y0 =>
      bif (bif (inB 0 (w2.getD w4.toNat (.i 0)).items.length) then true else (!(y0 == false))) then
        bnd (bif y0 then true else ((((w2.getD w4.toNat (.i 0)).items.getD 0 (.i 0)).cell 1).toI != 0)) fun y1 =>
        bif y1 then
          kr w0 (IntKind.wrap .i64 (w4 + 1)) w20 w21 w22
        else
          bif (inB 0 (w2.getD w4.toNat (.i 0)).items.length) then
            bnd (((w2.getD w4.toNat (.i 0)).items.getD 0 (.i 0)).cell 2).isNil fun y2 =>
            bnd ((((w2.getD w4.toNat (.i 0)).items.getD 0 (.i 0)).cell 2).items : List D) fun y3 =>
            bif (inB w4 w6.length) then
              bnd (G89x0 N (((w2.getD w4.toNat (.i 0)).items.getD 0 (.i 0)).cell 0).toB y3 ((w6.getD w4.toNat (.i 0)).cell 0).toI ((w6.getD w4.toNat (.i 0)).cell 4).items) fun y4 =>
              bif y4.isSome then
                bnd (G90x0 N (y4.getD default).2 2 0) fun y5 =>
                bif y5.isSome then
                  bnd (G91x0 N (y4.getD default).2 1) fun y6 =>
                  bif y6.isSome then
                    bif (inB w4 w19.length) then
                      bnd (bif (!(y5.getD default).2) then true else ((y6.getD default) == ([] : List UInt8))) fun y7 =>
                      bnd (bif y7 then true else (decide ((w19.getD w4.toNat (.i 0)).toI < 0))) fun y8 =>
                      bif y8 then
                        k0 (([] : List UInt8), (y6.getD default), (y5.getD default).1, (w19.getD w4.toNat (.i 0)).toI)
                      else
                        kr true (IntKind.wrap .i64 (w4 + 1)) (y6.getD default) (y5.getD default).1 (w19.getD w4.toNat (.i 0)).toI
                    else
                      none
                  else
                    none
                else
                  none
              else
                none
            else
              none
          else
            none
      else
        none
    else
      none
  else
    k1 (w0, w20, w21, w22)
noncomputable def L42x0x24 (N : Nat) {R : Type} (w2 : LD) (w3 : Int) (w6 w19 : LD) : Nat → Bool → Int → LB → Int → Int → (Ty4 → Option R) → (Ty7 → Option R) → Option R
  | 0, _, _, _, _, _, _, _ => none
  | m + 1, w0, w4, w20, w21, w22, k0, k1 => S42x0x24 N w2 w3 w6 w19 w0 w4 w20 w21 w22 (fun w0 w4 w20 w21 w22 => L42x0x24 N w2 w3 w6 w19 m w0 w4 w20 w21 w22 k0 k1) k0 k1
noncomputable def G42x0x24 (w2 : LD) (w3 : Int) (w6 w19 : LD) (w0 : Bool) (w4 : Int) (w20 : LB) (w21 w22 : Int) : Option (Sum (Ty4) (Ty7)) := L42x0x24 N (R := (Sum (Ty4) (Ty7))) w2 w3 w6 w19 N w0 w4 w20 w21 w22 (fun p => some (.inl p)) (fun p => some (.inr p))
noncomputable def J42x0x24 (L x : List Lf) (kr : List Lf → Option R) (k0 : Ty4 → Option R) (k1 : Ty7 → Option R) : Option R := S42x0x24 N (ll L 2) (li L 3) (ll L 6) (ll L 19) (lb x 0) (li x 1) (ls x 2) (li x 3) (li x 4) (fun w0 w4 w20 w21 w22 => kr [.b w0, .i w4, .s w20, .i w21, .i w22]) k0 k1
theorem sb42x0x24 (L x : List Lf) (kr : List Lf → Option R) (k0 : Ty4 → Option R) (k1 : Ty7 → Option R) : J42x0x24 N L x kr k0 k1 = (J42x0x24 N L x (fun y => some (.inl y)) (fun p => some (.inr (.inl p))) (fun p => some (.inr (.inr p)))).bind (sumE kr (sumE k0 k1)) := by
  unfold J42x0x24 S42x0x24
  repeat' (first | with_reducible apply cond_b | (with_reducible apply bnd_b; intro _) | rfl)
noncomputable def Q42x0x24 (L : List Lf) (m : Nat) (x : List Lf) : Option (Sum (Ty4) (Ty7)) := L42x0x24 N (R := (Sum (Ty4) (Ty7))) (ll L 2) (li L 3) (ll L 6) (ll L 19) m (lb x 0) (li x 1) (ls x 2) (li x 3) (li x 4) (fun p => some (.inl p)) (fun p => some (.inr p))
noncomputable def sh42x0x24 : Sh := { tmps := [(1, .c (.p 1 0)), (2, .c (.p 2 0)), (5, .c (.p 5 0)), (6, .c (.p 6 0)), (7, .c (.b)), (37, .c (.sl 51)), (38, .c (.i .i64)), (39, .c (.i .i64))], mem := [(1, .box ([.sl 53])), (2, .box (.s :: [.i .i64, .i .i64, .sl 78, .sl 82, .sl 9])), (5, .box ([.sl 51, .sl 3])), (6, .box (.s :: [.i .i64, .i .i64, .o 50006003, .o 50006004, .o 50006005])), (50006003, .row 78 true), (50006004, .row 82 true), (50006005, .row 9 true)] }
noncomputable def K42x0x24w0 (L : List Lf) (p : Ty4) : Ex × St := (.ret, mg (ofSh sh42x0x24 L) [2, 3] [(3, .c (.i .i64 4))] [1, 2, 5, 6, 50006003, 50006004, 50006005] [(2, .box [.s p.1, .i .i64 0, .i .i64 0, .sl 78 true [], .sl 82 true [], .sl 9 true []]), (6, .box [.s p.2.1, .i .i64 p.2.2.1, .i .i64 p.2.2.2, .o 50006003, .o 50006004, .o 50006005])])
noncomputable def K42x0x24w1 (L : List Lf) (p : Ty7) : Ex × St := ((.exit 0), mg (ofSh sh42x0x24 L) [1, 2, 5, 6, 7] [(7, .c (.b p.1))] [1, 2, 5, 6, 50006003, 50006004, 50006005] [(6, .box [.s p.2.1, .i .i64 p.2.2.1, .i .i64 p.2.2.2, .o 50006003, .o 50006004, .o 50006005])])
noncomputable def A42x0x24 (L : List Lf) : List (Bool × (Ex × St)) := bnd (Q42x0x24 N L N (pk sh42x0x24 [0, 4, 20, 21, 22] L)) fun q => [((inlB q), K42x0x24w0 L (inlV q)), ((inrQ q).isSome, K42x0x24w1 L ((inrQ q).getD default))]
theorem step42x0x24 (m : Nat) (kn : St → Option (Ex × St)) (L x : List Lf) : lpB Try.prog (T14x0 N) (h42x0s0 N).h 0 42 24 sh42x0x24 [0, 4, 20, 21, 22] [2, 3, 7, 5, 1, 6] [2, 50006005, 50006004, 50006003, 6, 5, 1] (m + 100) kn L x = J42x0x24 N L x (fun y => kn (ofSh sh42x0x24 (mx sh42x0x24 [0, 4, 20, 21, 22] L y))) (fun p => some (K42x0x24w0 L p)) (fun p => some (K42x0x24w1 L p)) := by kernel_rfl
theorem ql42x0x24 (L : List Lf) (m : Nat) (x : List Lf) : Q42x0x24 N L (m + 1) x = J42x0x24 N L x (Q42x0x24 N L m) (fun p => some (.inl p)) (fun p => some (.inr p)) := by kernel_rfl
noncomputable def h42x0s1 : Sg Try.prog 0 42 :=
  (h42x0s0 N).lp (A42x0x24 N) N progOk (T14x0_ok N) (fun m kn L x => (step42x0x24 N m kn L x).trans (sb42x0x24 N L x _ _ _)) (fun L m x => (ql42x0x24 N L m x).trans (sb42x0x24 N L x (Q42x0x24 N L m) (fun p => some (.inl p)) (fun p => some (.inr p)))) fun L x hx => (altS alt1) x hx
noncomputable def F42x0x119 (w1 : LD) (w6 : Bool) (w30 : LD) (k0 : LB → Option R) (k1 : LD → Option R) (k2 : Unit → Option R) : Option R :=
  bif w6 then
    bnd (G91x0 N w1 1) fun y0 =>
    bif y0.isSome then
      bif ((y0.getD default) == ([] : List UInt8)) then
        k0 ([] : List UInt8)
      else
        bif (decide ((w30.length + 1) * 16 ≤ room) && decide ((w30.length + 1) ≤ strMax)) then
          k1 (w30 ++ [(.s (y0.getD default))])
        else
          none
    else
      none
  else
    k2 ()
noncomputable def G42x0x119 (w1 : LD) (w6 : Bool) (w30 : LD) : Option (Sum (LB) (Sum (LD) (Unit))) := F42x0x119 N w1 w6 w30 (fun p => some (.inl p)) (fun p => some (.inr (.inl p))) (fun p => some (.inr (.inr p)))
theorem bind42x0x119 (w1 : LD) (w6 : Bool) (w30 : LD) (k0 : LB → Option R) (k1 : LD → Option R) (k2 : Unit → Option R) : F42x0x119 N w1 w6 w30 k0 k1 k2 = (G42x0x119 N w1 w6 w30).bind (sumE k0 (sumE k1 k2)) := by
  unfold G42x0x119 F42x0x119
  repeat' (first | with_reducible apply cond_b | (with_reducible apply bnd_b; intro _) | rfl)
noncomputable def sh42x0x119 : Sh := { tmps := [(1, .c (.p 1 0)), (2, .c (.p 2 0)), (5, .c (.p 5 0)), (6, .c (.p 6 0)), (15, .c (.sl 65)), (100, .c (.sl 51)), (101, .c (.i .i64)), (102, .c (.i .i64)), (209, .c (.b))], mem := [(1, .box ([.sl 53])), (2, .box (.s :: [.i .i64, .i .i64, .sl 78, .sl 82, .sl 9])), (5, .box ([.sl 51, .sl 3])), (6, .box (.s :: [.i .i64, .i .i64, .o 50006003, .o 50006004, .o 50006005])), (50006003, .row 78 true), (50006004, .row 82 true), (50006005, .row 9 true)] }
noncomputable def K42x0x119w0 (L : List Lf) (p : LB) : Ex × St := (.ret, mg (ofSh sh42x0x119 L) [2, 3] [(3, .c (.i .i64 2))] [1, 2, 5, 6, 50006003, 50006004, 50006005] [(2, .box [.s p, .i .i64 0, .i .i64 0, .sl 78 true [], .sl 82 true [], .sl 9 true []])])
noncomputable def K42x0x119w1 (L : List Lf) (p : LD) : Ex × St := (.normal, mg (ofSh sh42x0x119 L) [1, 2, 5, 6, 100, 101, 102] [] [1, 2, 5, 6, 220, 50006003, 50006004] [(6, .box [.s (ls L 22), .i .i64 (li L 23), .i .i64 (li L 24), .o 50006003, .o 50006004, .o 220]), (220, .row 9 true false p)])
noncomputable def K42x0x119w2 (L : List Lf) (_ : Unit) : Ex × St := (.normal, mg (ofSh sh42x0x119 L) [1, 2, 5, 6, 100, 101, 102] [] [1, 2, 5, 6, 50006003, 50006004, 50006005] [])
noncomputable def A42x0x119 (L : List Lf) : List (Bool × (Ex × St)) := bnd (F42x0x119 N (ll L 1) (lb L 6) (ll L 30) (fun p => some (.inl p)) (fun p => some (.inr (.inl p))) (fun p => some (.inr (.inr p)))) fun q => [((inlB q), K42x0x119w0 L (inlV q)), ((inlB (inrQ q)), K42x0x119w1 L (inlV (inrQ q))), ((inrQ (inrQ q)).isSome, K42x0x119w2 L ())]
theorem raw42x0x119 (L : List Lf) : pc Try.prog (T14x0 N) (h42x0s1 N).h 0 100 42 119 sh42x0x119 L [102, 101, 100, 1, 5, 2, 6, 3] [2, 220, 50006004, 50006003, 6, 5, 1, 50006005] = F42x0x119 N (ll L 1) (lb L 6) (ll L 30) (fun p => some (K42x0x119w0 L p)) (fun p => some (K42x0x119w1 L p)) (fun _ => some (K42x0x119w2 L ())) := by kernel_rfl
noncomputable def h42x0s2 : Sg Try.prog 0 42 :=
  (h42x0s1 N).cut (A42x0x119 N) progOk (T14x0_ok N) fun L x hx => (raw42x0x119 N L).trans ((bind42x0x119 N ..).trans ((altS (altS alt1)) x hx))
noncomputable def F42x0x114104 (w1 : LD) (w2 w7 : Int) (w8 : Bool) (w26 : Int) (w30 w32 : LD) (k0 : LB → Option R) (k1 : LD → Option R) (k2 : LD → Option R) (k3 : Unit → Option R) : Option R :=
  bif w8 then
    bnd (G90x0 N w1 1 0) fun y0 =>
    bif y0.isSome then
      bnd (bif (decide (w2 < 0)) then true else (!(y0.getD default).2)) fun y1 =>
      bif y1 then
        k0 ([] : List UInt8)
      else
        bnd (G91x0 N w1 2) fun y2 =>
        bif y2.isSome then
          bif (decide ((w30.length + 1) * 32 ≤ room) && decide ((w30.length + 1) ≤ strMax)) then
            bnd ((w30 ++ [(.a [(.i (IntKind.wrap .i64 (w2 - w26))), (.i (IntKind.wrap .i64 ((y0.getD default).1 - w26))), (.s (y2.getD default))])]) : List D) fun y3 =>
            k1 y3
          else
            none
        else
          none
    else
      none
  else
    bnd (G42x0x119 N w1 (w7 == 30) w32) fun y4 =>
    bif (inlB y4) then
      k0 (inlV y4)
    else
      bif (inlB (inrQ y4)) then
        k2 (inlV (inrQ y4))
      else
        bif (inrQ (inrQ y4)).isSome then
          k3 ()
        else
          none
noncomputable def G42x0x114104 (w1 : LD) (w2 w7 : Int) (w8 : Bool) (w26 : Int) (w30 w32 : LD) : Option (Sum (LB) (Sum (LD) (Sum (LD) (Unit)))) := F42x0x114104 N w1 w2 w7 w8 w26 w30 w32 (fun p => some (.inl p)) (fun p => some (.inr (.inl p))) (fun p => some (.inr (.inr (.inl p)))) (fun p => some (.inr (.inr (.inr p))))
theorem bind42x0x114104 (w1 : LD) (w2 w7 : Int) (w8 : Bool) (w26 : Int) (w30 w32 : LD) (k0 : LB → Option R) (k1 : LD → Option R) (k2 : LD → Option R) (k3 : Unit → Option R) : F42x0x114104 N w1 w2 w7 w8 w26 w30 w32 k0 k1 k2 k3 = (G42x0x114104 N w1 w2 w7 w8 w26 w30 w32).bind (sumE k0 (sumE k1 (sumE k2 k3))) := by
  unfold G42x0x114104 F42x0x114104
  repeat' (first | with_reducible apply cond_b | (with_reducible apply bnd_b; intro _) | rfl)
noncomputable def J42x0x114104 (L : List Lf) (k0 : LB → Option R) (k1 : LD → Option R) (k2 : LD → Option R) (k3 : Unit → Option R) : Option R := F42x0x114104 N (ll L 1) (li L 2) (li L 7) (lb L 8) (li L 26) (ll L 30) (ll L 32) k0 k1 k2 k3
noncomputable def sh42x0x114104 : Sh := { tmps := [(1, .c (.p 1 0)), (2, .c (.p 2 0)), (5, .c (.p 5 0)), (6, .c (.p 6 0)), (15, .c (.sl 65)), (16, .c (.i .i64)), (100, .c (.sl 51)), (101, .c (.i .i64)), (102, .c (.i .i64)), (127, .c (.i .i64)), (179, .c (.b))], mem := [(1, .box ([.sl 53])), (2, .box (.s :: [.i .i64, .i .i64, .sl 78, .sl 82, .sl 9])), (5, .box ([.sl 51, .sl 3])), (6, .box (.s :: [.i .i64, .i .i64, .o 50006003, .o 50006004, .o 50006005])), (50006003, .row 78 true), (50006004, .row 82 true), (50006005, .row 9 true)] }
noncomputable def K42x0x114104w0 (L : List Lf) (p : LB) : Ex × St := (.ret, mg (ofSh sh42x0x114104 L) [2, 3] [(3, .c (.i .i64 2))] [1, 2, 5, 6, 50006003, 50006004, 50006005] [(2, .box [.s p, .i .i64 0, .i .i64 0, .sl 78 true [], .sl 82 true [], .sl 9 true []])])
noncomputable def K42x0x114104w1 (L : List Lf) (p : LD) : Ex × St := (.normal, mg (ofSh sh42x0x114104 L) [1, 2, 5, 6, 100, 101, 102] [] [1, 2, 5, 6, 207, 50006003, 50006005] [(6, .box [.s (ls L 24), .i .i64 (li L 25), .i .i64 (li L 26), .o 50006003, .o 207, .o 50006005]), (207, .row 82 true false p)])
noncomputable def K42x0x114104w2 (L : List Lf) (p : LD) : Ex × St := (.normal, mg (ofSh sh42x0x114104 L) [1, 2, 5, 6, 100, 101, 102] [] [1, 2, 5, 6, 220, 50006003, 50006004] [(6, .box [.s (ls L 24), .i .i64 (li L 25), .i .i64 (li L 26), .o 50006003, .o 50006004, .o 220]), (220, .row 9 true false p)])
noncomputable def K42x0x114104w3 (L : List Lf) (_ : Unit) : Ex × St := (.normal, mg (ofSh sh42x0x114104 L) [1, 2, 5, 6, 100, 101, 102] [] [1, 2, 5, 6, 50006003, 50006004, 50006005] [])
noncomputable def A42x0x114104 (L : List Lf) : List (Bool × (Ex × St)) := bnd (J42x0x114104 N L (fun p => some (.inl p)) (fun p => some (.inr (.inl p))) (fun p => some (.inr (.inr (.inl p)))) (fun p => some (.inr (.inr (.inr p))))) fun q => [((inlB q), K42x0x114104w0 L (inlV q)), ((inlB (inrQ q)), K42x0x114104w1 L (inlV (inrQ q))), ((inlB (inrQ (inrQ q))), K42x0x114104w2 L (inlV (inrQ (inrQ q)))), ((inrQ (inrQ (inrQ q))).isSome, K42x0x114104w3 L ())]
theorem raw42x0x114104 (L : List Lf) : pc Try.prog (T14x0 N) (h42x0s2 N).h 0 100 42 114104 sh42x0x114104 L [102, 101, 100, 1, 5, 2, 6, 3] [2, 50006005, 207, 50006003, 6, 5, 1, 220, 50006004] = J42x0x114104 N L (fun p => some (K42x0x114104w0 L p)) (fun p => some (K42x0x114104w1 L p)) (fun p => some (K42x0x114104w2 L p)) (fun _ => some (K42x0x114104w3 L ())) := by kernel_rfl
noncomputable def h42x0s3 : Sg Try.prog 0 42 :=
  (h42x0s2 N).cut (A42x0x114104 N) progOk (T14x0_ok N) fun L x hx => (raw42x0x114104 N L).trans ((bind42x0x114104 N ..).trans ((altS (altS (altS alt1))) x hx))
noncomputable def F42x0x99083 (w1 : LD) (w2 w7 : Int) (w8 : Bool) (w26 : Int) (w28 w30 w32 : LD) (k0 : LB → Option R) (k1 : LD → Option R) (k2 : LD → Option R) (k3 : LD → Option R) (k4 : Unit → Option R) : Option R :=
  bif w8 then
    bnd (G90x0 N w1 0 1) fun y0 =>
    bif y0.isSome then
      bnd (G90x0 N w1 1 1) fun y1 =>
      bif y1.isSome then
        bnd (G90x0 N w1 2 1) fun y2 =>
        bif y2.isSome then
          bnd (bif (decide (w2 < 0)) then true else (!(y0.getD default).2)) fun y3 =>
          bnd (bif (bif y3 then true else (!(y1.getD default).2)) then true else (!(y2.getD default).2)) fun y4 =>
          bif y4 then
            k0 ([] : List UInt8)
          else
            bnd (G92x0 N w1 3) fun y5 =>
            bif y5.isSome then
              bnd (G92x0 N w1 4) fun y6 =>
              bif y6.isSome then
                bnd (G92x0 N w1 5) fun y7 =>
                bif y7.isSome then
                  bif (decide ((w28.length + 1) * 56 ≤ room) && decide ((w28.length + 1) ≤ strMax)) then
                    bnd ((w28 ++ [(.a [(.i (IntKind.wrap .i64 (w2 - w26))), (.i (y0.getD default).1), (.i (y1.getD default).1), (.i (y2.getD default).1), (.i (y5.getD default)), (.i (y6.getD default)), (.i (y7.getD default))])]) : List D) fun y8 =>
                    k1 y8
                  else
                    none
                else
                  none
              else
                none
            else
              none
        else
          none
      else
        none
    else
      none
  else
    bnd (G42x0x114104 N w1 w2 w7 (w7 == 19) w26 w30 w32) fun y9 =>
    bif (inlB y9) then
      k0 (inlV y9)
    else
      bif (inlB (inrQ y9)) then
        k2 (inlV (inrQ y9))
      else
        bif (inlB (inrQ (inrQ y9))) then
          k3 (inlV (inrQ (inrQ y9)))
        else
          bif (inrQ (inrQ (inrQ y9))).isSome then
            k4 ()
          else
            none
noncomputable def G42x0x99083 (w1 : LD) (w2 w7 : Int) (w8 : Bool) (w26 : Int) (w28 w30 w32 : LD) : Option (Sum (LB) (Sum (LD) (Sum (LD) (Sum (LD) (Unit))))) := F42x0x99083 N w1 w2 w7 w8 w26 w28 w30 w32 (fun p => some (.inl p)) (fun p => some (.inr (.inl p))) (fun p => some (.inr (.inr (.inl p)))) (fun p => some (.inr (.inr (.inr (.inl p))))) (fun p => some (.inr (.inr (.inr (.inr p)))))
theorem bind42x0x99083 (w1 : LD) (w2 w7 : Int) (w8 : Bool) (w26 : Int) (w28 w30 w32 : LD) (k0 : LB → Option R) (k1 : LD → Option R) (k2 : LD → Option R) (k3 : LD → Option R) (k4 : Unit → Option R) : F42x0x99083 N w1 w2 w7 w8 w26 w28 w30 w32 k0 k1 k2 k3 k4 = (G42x0x99083 N w1 w2 w7 w8 w26 w28 w30 w32).bind (sumE k0 (sumE k1 (sumE k2 (sumE k3 k4)))) := by
  unfold G42x0x99083 F42x0x99083
  repeat' (first | with_reducible apply cond_b | (with_reducible apply bnd_b; intro _) | rfl)
noncomputable def J42x0x99083 (L : List Lf) (k0 : LB → Option R) (k1 : LD → Option R) (k2 : LD → Option R) (k3 : LD → Option R) (k4 : Unit → Option R) : Option R := F42x0x99083 N (ll L 1) (li L 2) (li L 7) (lb L 8) (li L 26) (ll L 28) (ll L 30) (ll L 32) k0 k1 k2 k3 k4
noncomputable def sh42x0x99083 : Sh := { tmps := [(1, .c (.p 1 0)), (2, .c (.p 2 0)), (5, .c (.p 5 0)), (6, .c (.p 6 0)), (15, .c (.sl 65)), (16, .c (.i .i64)), (100, .c (.sl 51)), (101, .c (.i .i64)), (102, .c (.i .i64)), (127, .c (.i .i64)), (128, .c (.b))], mem := [(1, .box ([.sl 53])), (2, .box (.s :: [.i .i64, .i .i64, .sl 78, .sl 82, .sl 9])), (5, .box ([.sl 51, .sl 3])), (6, .box (.s :: [.i .i64, .i .i64, .o 50006003, .o 50006004, .o 50006005])), (50006003, .row 78 true), (50006004, .row 82 true), (50006005, .row 9 true)] }
noncomputable def K42x0x99083w0 (L : List Lf) (p : LB) : Ex × St := (.ret, mg (ofSh sh42x0x99083 L) [2, 3] [(3, .c (.i .i64 2))] [1, 2, 5, 6, 50006003, 50006004, 50006005] [(2, .box [.s p, .i .i64 0, .i .i64 0, .sl 78 true [], .sl 82 true [], .sl 9 true []])])
noncomputable def K42x0x99083w1 (L : List Lf) (p : LD) : Ex × St := (.normal, mg (ofSh sh42x0x99083 L) [1, 2, 5, 6, 100, 101, 102] [] [1, 2, 5, 6, 177, 50006004, 50006005] [(6, .box [.s (ls L 24), .i .i64 (li L 25), .i .i64 (li L 26), .o 177, .o 50006004, .o 50006005]), (177, .row 78 true false p)])
noncomputable def K42x0x99083w2 (L : List Lf) (p : LD) : Ex × St := (.normal, mg (ofSh sh42x0x99083 L) [1, 2, 5, 6, 100, 101, 102] [] [1, 2, 5, 6, 207, 50006003, 50006005] [(6, .box [.s (ls L 24), .i .i64 (li L 25), .i .i64 (li L 26), .o 50006003, .o 207, .o 50006005]), (207, .row 82 true false p)])
noncomputable def K42x0x99083w3 (L : List Lf) (p : LD) : Ex × St := (.normal, mg (ofSh sh42x0x99083 L) [1, 2, 5, 6, 100, 101, 102] [] [1, 2, 5, 6, 220, 50006003, 50006004] [(6, .box [.s (ls L 24), .i .i64 (li L 25), .i .i64 (li L 26), .o 50006003, .o 50006004, .o 220]), (220, .row 9 true false p)])
noncomputable def K42x0x99083w4 (L : List Lf) (_ : Unit) : Ex × St := (.normal, mg (ofSh sh42x0x99083 L) [1, 2, 5, 6, 100, 101, 102] [] [1, 2, 5, 6, 50006003, 50006004, 50006005] [])
noncomputable def A42x0x99083 (L : List Lf) : List (Bool × (Ex × St)) := bnd (J42x0x99083 N L (fun p => some (.inl p)) (fun p => some (.inr (.inl p))) (fun p => some (.inr (.inr (.inl p)))) (fun p => some (.inr (.inr (.inr (.inl p))))) (fun p => some (.inr (.inr (.inr (.inr p)))))) fun q => [((inlB q), K42x0x99083w0 L (inlV q)), ((inlB (inrQ q)), K42x0x99083w1 L (inlV (inrQ q))), ((inlB (inrQ (inrQ q))), K42x0x99083w2 L (inlV (inrQ (inrQ q)))), ((inlB (inrQ (inrQ (inrQ q)))), K42x0x99083w3 L (inlV (inrQ (inrQ (inrQ q))))), ((inrQ (inrQ (inrQ (inrQ q)))).isSome, K42x0x99083w4 L ())]
theorem raw42x0x99083 (L : List Lf) : pc Try.prog (T14x0 N) (h42x0s3 N).h 0 100 42 99083 sh42x0x99083 L [102, 101, 100, 1, 5, 2, 6, 3] [2, 50006005, 50006004, 177, 6, 5, 1, 207, 50006003, 220] = J42x0x99083 N L (fun p => some (K42x0x99083w0 L p)) (fun p => some (K42x0x99083w1 L p)) (fun p => some (K42x0x99083w2 L p)) (fun p => some (K42x0x99083w3 L p)) (fun _ => some (K42x0x99083w4 L ())) := by kernel_rfl
noncomputable def h42x0s4 : Sg Try.prog 0 42 :=
  (h42x0s3 N).cut (A42x0x99083 N) progOk (T14x0_ok N) fun L x hx => (raw42x0x99083 N L).trans ((bind42x0x99083 N ..).trans ((altS (altS (altS (altS alt1)))) x hx))
noncomputable def S42x0x63 (w1 : LD) (w2 : Int) (w5 w18 : LD) (w21 : Int) (w3 : Int) (w22 : Bool) (w23 : LD) (w24 : Bool) (w25 : LD) (w26 : Bool) (w27 : LD) (kr : Int → Bool → LD → Bool → LD → Bool → LD → Option R) (k0 : Ty1 → Option R) (k1 : Ty2 → Option R) : Option R :=
  bif (decide (w3 < w2)) then
    bif (inB w3 w1.length) then
      bif (((w1.getD w3.toNat (.i 0)).items.length : Int) == 0) then
        kr (IntKind.wrap .i64 (w3 + 1)) w22 w23 w24 w25 w26 w27
      else
        bif (inB 0 (w1.getD w3.toNat (.i 0)).items.length) then
          bnd (((w1.getD w3.toNat (.i 0)).items.getD 0 (.i 0)).cell 2).isNil fun y0 =>
          bnd ((((w1.getD w3.toNat (.i 0)).items.getD 0 (.i 0)).cell 2).items : List D) fun y1 =>
          bif (inB w3 w5.length) then
            bnd (G89x0 N (((w1.getD w3.toNat (.i 0)).items.getD 0 (.i 0)).cell 0).toB y1 ((w5.getD w3.toNat (.i 0)).cell 0).toI ((w5.getD w3.toNat (.i 0)).cell 4).items) fun y2 =>
            bif y2.isSome then
              bif (inB w3 w18.length) then
                bif (inB 0 (w1.getD w3.toNat (.i 0)).items.length) then
                  bnd ((((w1.getD w3.toNat (.i 0)).items.getD 0 (.i 0)).cell 1).toI == 20) fun y3 =>
                  bnd (G42x0x99083 N (y2.getD default).2 (w18.getD w3.toNat (.i 0)).toI (((w1.getD w3.toNat (.i 0)).items.getD 0 (.i 0)).cell 1).toI y3 w21 w23 w25 w27) fun y4 =>
                  bif (inlB y4) then
                    k0 ((inlV y4), w22, w23, w24, w25, w26, w27)
                  else
                    bif (inlB (inrQ y4)) then
                      kr (IntKind.wrap .i64 (w3 + 1)) false (inlV (inrQ y4)) w24 w25 w26 w27
                    else
                      bif (inlB (inrQ (inrQ y4))) then
                        kr (IntKind.wrap .i64 (w3 + 1)) w22 w23 false (inlV (inrQ (inrQ y4))) w26 w27
                      else
                        bif (inlB (inrQ (inrQ (inrQ y4)))) then
                          kr (IntKind.wrap .i64 (w3 + 1)) w22 w23 w24 w25 false (inlV (inrQ (inrQ (inrQ y4))))
                        else
                          bif (inrQ (inrQ (inrQ (inrQ y4)))).isSome then
                            kr (IntKind.wrap .i64 (w3 + 1)) w22 w23 w24 w25 w26 w27
                          else
                            none
                else
                  none
              else
                none
            else
              none
          else
            none
        else
          none
    else
      none
  else
    k1 (w22, w23, w24, w25, w26, w27)
noncomputable def L42x0x63 (N : Nat) {R : Type} (w1 : LD) (w2 : Int) (w5 w18 : LD) (w21 : Int) : Nat → Int → Bool → LD → Bool → LD → Bool → LD → (Ty1 → Option R) → (Ty2 → Option R) → Option R
  | 0, _, _, _, _, _, _, _, _, _ => none
  | m + 1, w3, w22, w23, w24, w25, w26, w27, k0, k1 => S42x0x63 N w1 w2 w5 w18 w21 w3 w22 w23 w24 w25 w26 w27 (fun w3 w22 w23 w24 w25 w26 w27 => L42x0x63 N w1 w2 w5 w18 w21 m w3 w22 w23 w24 w25 w26 w27 k0 k1) k0 k1
noncomputable def G42x0x63 (w1 : LD) (w2 : Int) (w5 w18 : LD) (w21 : Int) (w3 : Int) (w22 : Bool) (w23 : LD) (w24 : Bool) (w25 : LD) (w26 : Bool) (w27 : LD) : Option (Sum (Ty1) (Ty2)) := L42x0x63 N (R := (Sum (Ty1) (Ty2))) w1 w2 w5 w18 w21 N w3 w22 w23 w24 w25 w26 w27 (fun p => some (.inl p)) (fun p => some (.inr p))
noncomputable def J42x0x63 (L x : List Lf) (kr : List Lf → Option R) (k0 : Ty1 → Option R) (k1 : Ty2 → Option R) : Option R := S42x0x63 N (ll L 1) (li L 2) (ll L 5) (ll L 18) (li L 21) (li x 0) (lb x 1) (ll x 2) (lb x 3) (ll x 4) (lb x 5) (ll x 6) (fun w3 w22 w23 w24 w25 w26 w27 => kr [.i w3, .b w22, .l w23, .b w24, .l w25, .b w26, .l w27]) k0 k1
theorem sb42x0x63 (L x : List Lf) (kr : List Lf → Option R) (k0 : Ty1 → Option R) (k1 : Ty2 → Option R) : J42x0x63 N L x kr k0 k1 = (J42x0x63 N L x (fun y => some (.inl y)) (fun p => some (.inr (.inl p))) (fun p => some (.inr (.inr p)))).bind (sumE kr (sumE k0 k1)) := by
  unfold J42x0x63 S42x0x63
  repeat' (first | with_reducible apply cond_b | (with_reducible apply bnd_b; intro _) | rfl)
noncomputable def Q42x0x63 (L : List Lf) (m : Nat) (x : List Lf) : Option (Sum (Ty1) (Ty2)) := L42x0x63 N (R := (Sum (Ty1) (Ty2))) (ll L 1) (li L 2) (ll L 5) (ll L 18) (li L 21) m (li x 0) (lb x 1) (ll x 2) (lb x 3) (ll x 4) (lb x 5) (ll x 6) (fun p => some (.inl p)) (fun p => some (.inr p))
noncomputable def sh42x0x63 : Sh := { tmps := [(1, .c (.p 1 0)), (2, .c (.p 2 0)), (5, .c (.p 5 0)), (6, .c (.p 6 0)), (100, .c (.sl 51)), (101, .c (.i .i64)), (102, .c (.i .i64))], mem := [(1, .box ([.sl 53])), (2, .box (.s :: [.i .i64, .i .i64, .sl 78, .sl 82, .sl 9])), (5, .box ([.sl 51, .sl 3])), (6, .box (.s :: [.i .i64, .i .i64, .o 50006003, .o 50006004, .o 50006005])), (50006003, .row 78 true), (50006004, .row 82 true), (50006005, .row 9 true)] }
noncomputable def K42x0x63w0 (L : List Lf) (p : Ty1) : Ex × St := let p1 := p.2; let p2 := p1.2; let p3 := p2.2; let p4 := p3.2; let p5 := p4.2; let p6 := p5.2; (.ret, mg (ofSh sh42x0x63 L) [2, 3] [(3, .c (.i .i64 2))] [2, 6, 50006003, 50006004, 50006005] [(2, .box [.s p.1, .i .i64 0, .i .i64 0, .sl 78 true [], .sl 82 true [], .sl 9 true []]), (50006003, .row 78 true p1.1 p2.1), (50006004, .row 82 true p3.1 p4.1), (50006005, .row 9 true p5.1 p6)])
noncomputable def K42x0x63w1 (L : List Lf) (p : Ty2) : Ex × St := let p1 := p.2; let p2 := p1.2; let p3 := p2.2; let p4 := p3.2; let p5 := p4.2; ((.exit 2), mg (ofSh sh42x0x63 L) [2, 6] [] [2, 6, 50006003, 50006004, 50006005] [(50006003, .row 78 true p.1 p1.1), (50006004, .row 82 true p2.1 p3.1), (50006005, .row 9 true p4.1 p5)])
noncomputable def A42x0x63 (L : List Lf) : List (Bool × (Ex × St)) := bnd (Q42x0x63 N L N (pk sh42x0x63 [3, 22, 23, 24, 25, 26, 27] L)) fun q => [((inlB q), K42x0x63w0 L (inlV q)), ((inrQ q).isSome, K42x0x63w1 L ((inrQ q).getD default))]
theorem step42x0x63 (m : Nat) (kn : St → Option (Ex × St)) (L x : List Lf) : lpB Try.prog (T14x0 N) (h42x0s4 N).h 0 42 63 sh42x0x63 [3, 22, 23, 24, 25, 26, 27] [2, 3, 6] [2, 50006005, 50006004, 50006003, 6] (m + 100) kn L x = J42x0x63 N L x (fun y => kn (ofSh sh42x0x63 (mx sh42x0x63 [3, 22, 23, 24, 25, 26, 27] L y))) (fun p => some (K42x0x63w0 L p)) (fun p => some (K42x0x63w1 L p)) := by kernel_rfl
theorem ql42x0x63 (L : List Lf) (m : Nat) (x : List Lf) : Q42x0x63 N L (m + 1) x = J42x0x63 N L x (Q42x0x63 N L m) (fun p => some (.inl p)) (fun p => some (.inr p)) := by kernel_rfl
noncomputable def h42x0s5 : Sg Try.prog 0 42 :=
  (h42x0s4 N).lp (A42x0x63 N) N progOk (T14x0_ok N) (fun m kn L x => (step42x0x63 N m kn L x).trans (sb42x0x63 N L x _ _ _)) (fun L m x => (ql42x0x63 N L m x).trans (sb42x0x63 N L x (Q42x0x63 N L m) (fun p => some (.inl p)) (fun p => some (.inr p)))) fun L x hx => (altS alt1) x hx
noncomputable def F42x0 (v1 : LD) (k0 : Ty0 → Option R) : Option R :=
  bnd (G23x0 N v1) fun y0 =>
  bif y0.isSome then
    bif ((y0.getD default) != 0) then
      k0 (([] : List UInt8), 0, 0, true, [], true, [], true, [], (y0.getD default))
    else
      bnd (G64x0 N v1) fun y1 =>
      bif y1.isSome then
        bnd (G42x0x24 N (y1.getD default).2.1 ((y1.getD default).2.1.length : Int) v1 (y1.getD default).2.2.2 false 0 ([] : List UInt8) 0 0) fun y2 =>
        bif (inlB y2) then
          k0 ((inlV y2).1, 0, 0, true, [], true, [], true, [], 4)
        else
          bif (inrQ y2).isSome then
            bif (!((inrQ y2).getD default).1) then
              k0 (([] : List UInt8), 0, 0, true, [], true, [], true, [], 4)
            else
              bnd (G42x0x63 N (y1.getD default).2.1 ((y1.getD default).2.1.length : Int) v1 (y1.getD default).2.2.2 ((inrQ y2).getD default).2.2.2 0 true [] true [] true []) fun y3 =>
              bif (inlB y3) then
                k0 ((inlV y3).1, 0, 0, true, [], true, [], true, [], 2)
              else
                bif (inrQ y3).isSome then
                  bnd (G14x0 N ((inrQ y2).getD default).2.1 ((inrQ y2).getD default).2.2.1 ((inrQ y2).getD default).2.2.2 ((inrQ y3).getD default).2.1 ((inrQ y3).getD default).2.2.2.1 ((inrQ y3).getD default).2.2.2.2.2) fun y4 =>
                  bif y4.isSome then
                    bif ((y4.getD default) != 0) then
                      k0 (([] : List UInt8), 0, 0, true, [], true, [], true, [], (y4.getD default))
                    else
                      k0 (((inrQ y2).getD default).2.1, ((inrQ y2).getD default).2.2.1, ((inrQ y2).getD default).2.2.2, ((inrQ y3).getD default).1, ((inrQ y3).getD default).2.1, ((inrQ y3).getD default).2.2.1, ((inrQ y3).getD default).2.2.2.1, ((inrQ y3).getD default).2.2.2.2.1, ((inrQ y3).getD default).2.2.2.2.2, 0)
                  else
                    none
                else
                  none
          else
            none
      else
        none
  else
    none
noncomputable def G42x0 (v1 : LD) : Option (Ty0) := F42x0 N v1 (fun p => some p)
theorem bind42x0 (v1 : LD) (k0 : Ty0 → Option R) : F42x0 N v1 k0 = (G42x0 N v1).bind k0 := by
  unfold G42x0 F42x0
  repeat' (first | with_reducible apply cond_b | (with_reducible apply bnd_b; intro _) | rfl)
noncomputable def sh42x0 : Sh := { tmps := [(0, .g ([.sl 53]))], mem := [] }
noncomputable def K42x0w0 (L : List Lf) (p : Ty0) : Res := let p1 := p.2; let p2 := p1.2; let p3 := p2.2; let p4 := p3.2; let p5 := p4.2; let p6 := p5.2; let p7 := p6.2; let p8 := p7.2; let p9 := p8.2; ([.g [.s p.1, .i .i64 p1.1, .i .i64 p2.1, .sl 78 p3.1 p4.1, .sl 82 p5.1 p6.1, .sl 9 p7.1 p8.1], .c (.i .i64 p9)], [])
noncomputable def A42x0 (L : List Lf) : List (Bool × Res) := bnd (F42x0 N (ll L 1) (fun p => some p)) fun q => [(q.isSome, K42x0w0 L (q.getD default))]
theorem raw42x0 (L : List Lf) : bd Try.prog (T14x0 N) (h42x0s5 N).h 42 sh42x0 L = F42x0 N (ll L 1) (fun p => some (K42x0w0 L p)) := by kernel_rfl
theorem ok42x0 : FnOk Try.prog 42 sh42x0 (A42x0 N) :=
  (h42x0s5 N).fn progOk (T14x0_ok N) fun L x hx => ((raw42x0 N L).trans ((bind42x0 N ..).trans (alt1 x hx)))
noncomputable def T42x0 : Oracle := ext 42 (spSh sh42x0 (A42x0 N)) (T14x0 N)
theorem T42x0_ok : OracleOk Try.prog (T42x0 N) := FnOk.to (ok42x0 N) (T14x0_ok N)
noncomputable def rg60x0 : List (Nat × List Nat) := [(0, [0, 1]), (1, [0, 1]), (2, []), (3, [0, 1]), (4, [13, 12, 0, 1]), (5, [13, 0, 1, 12]), (6, [0, 5, 1, 13, 12]), (7, []), (8, [13, 12, 0, 1]), (9, [])]
noncomputable def hd60x0 : Hints := [(12, [13, 12, 0, 1], [], [])]
noncomputable def h60x0s0 (N : Nat) : Sg Try.prog 0 60 := .start hd60x0 rg60x0
noncomputable def S60x0x12 (N : Nat) (w1 w3 : LD) (w4 : Int) (w5 : Int) (kr : Int → Option R) (k0 : Unit → Option R) (k1 : Unit → Option R) : Option R :=
  bif (decide (w5 < w4)) then
    bif (inB w5 w1.length) then
      bif (inB w5 w3.length) then
        bnd (!((((w1.getD w5.toNat (.i 0)).cell 0).toI == ((w3.getD w5.toNat (.i 0)).cell 0).toI) && ((((w1.getD w5.toNat (.i 0)).cell 1).toI == ((w3.getD w5.toNat (.i 0)).cell 1).toI) && ((((w1.getD w5.toNat (.i 0)).cell 2).toI == ((w3.getD w5.toNat (.i 0)).cell 2).toI) && ((((w1.getD w5.toNat (.i 0)).cell 3).toI == ((w3.getD w5.toNat (.i 0)).cell 3).toI) && ((((w1.getD w5.toNat (.i 0)).cell 4).toI == ((w3.getD w5.toNat (.i 0)).cell 4).toI) && ((((w1.getD w5.toNat (.i 0)).cell 5).toI == ((w3.getD w5.toNat (.i 0)).cell 5).toI) && ((((w1.getD w5.toNat (.i 0)).cell 6).toI == ((w3.getD w5.toNat (.i 0)).cell 6).toI) && true)))))))) fun y0 =>
        bif y0 then
          k0 ()
        else
          kr (IntKind.wrap .i64 (w5 + 1))
      else
        none
    else
      none
  else
    k1 ()
noncomputable def L60x0x12 (N : Nat) {R : Type} (w1 w3 : LD) (w4 : Int) : Nat → Int → (Unit → Option R) → (Unit → Option R) → Option R
  | 0, _, _, _ => none
  | m + 1, w5, k0, k1 => S60x0x12 N w1 w3 w4 w5 (fun w5 => L60x0x12 N w1 w3 w4 m w5 k0 k1) k0 k1
noncomputable def G60x0x12 (w1 w3 : LD) (w4 : Int) (w5 : Int) : Option (Sum (Unit) (Unit)) := L60x0x12 N (R := (Sum (Unit) (Unit))) w1 w3 w4 N w5 (fun p => some (.inl p)) (fun p => some (.inr p))
noncomputable def J60x0x12 (L x : List Lf) (kr : List Lf → Option R) (k0 : Unit → Option R) (k1 : Unit → Option R) : Option R := S60x0x12 N (ll L 1) (ll L 3) (li L 4) (li x 0) (fun w5 => kr [.i w5]) k0 k1
theorem sb60x0x12 (L x : List Lf) (kr : List Lf → Option R) (k0 : Unit → Option R) (k1 : Unit → Option R) : J60x0x12 N L x kr k0 k1 = (J60x0x12 N L x (fun y => some (.inl y)) (fun p => some (.inr (.inl p))) (fun p => some (.inr (.inr p)))).bind (sumE kr (sumE k0 k1)) := by
  unfold J60x0x12 S60x0x12
  repeat' (first | with_reducible apply cond_b | (with_reducible apply bnd_b; intro _) | rfl)
noncomputable def Q60x0x12 (L : List Lf) (m : Nat) (x : List Lf) : Option (Sum (Unit) (Unit)) := L60x0x12 N (R := (Sum (Unit) (Unit))) (ll L 1) (ll L 3) (li L 4) m (li x 0) (fun p => some (.inl p)) (fun p => some (.inr p))
noncomputable def sh60x0x12 : Sh := { tmps := [(0, .c (.sl 78)), (1, .c (.sl 78)), (12, .c (.i .i64)), (13, .c (.i .i64))], mem := [] }
noncomputable def A60x0x12 (L : List Lf) : List (Bool × (Ex × St)) := bnd (Q60x0x12 N L N (pk sh60x0x12 [5] L)) fun q => [((inlB q), (.ret, ⟨[(4, .c (.b false))], []⟩)), ((inrQ q).isSome, ((.exit 0), ⟨[], []⟩))]
theorem step60x0x12 (m : Nat) (kn : St → Option (Ex × St)) (L x : List Lf) : lpB Try.prog (T42x0 N) (h60x0s0 N).h 0 60 12 sh60x0x12 [5] [4] [] (m + 100) kn L x = J60x0x12 N L x (fun y => kn (ofSh sh60x0x12 (mx sh60x0x12 [5] L y))) (fun _ => some (.ret, ⟨[(4, .c (.b false))], []⟩)) (fun _ => some ((.exit 0), ⟨[], []⟩)) := by kernel_rfl
theorem ql60x0x12 (L : List Lf) (m : Nat) (x : List Lf) : Q60x0x12 N L (m + 1) x = J60x0x12 N L x (Q60x0x12 N L m) (fun p => some (.inl p)) (fun p => some (.inr p)) := by kernel_rfl
noncomputable def h60x0s1 : Sg Try.prog 0 60 :=
  (h60x0s0 N).lp (A60x0x12 N) N progOk (T42x0_ok N) (fun m kn L x => (step60x0x12 N m kn L x).trans (sb60x0x12 N L x _ _ _)) (fun L m x => (ql60x0x12 N L m x).trans (sb60x0x12 N L x (Q60x0x12 N L m) (fun p => some (.inl p)) (fun p => some (.inr p)))) fun L x hx => (altS alt1) x hx
noncomputable def F60x0 (v1 v3 : LD) (k0 : Bool → Option R) : Option R :=
  bif ((v1.length : Int) != (v3.length : Int)) then
    k0 false
  else
    bnd (G60x0x12 N v1 v3 (v1.length : Int) 0) fun y0 =>
    bif (inlB y0) then
      k0 false
    else
      bif (inrQ y0).isSome then
        k0 true
      else
        none
noncomputable def G60x0 (v1 v3 : LD) : Option (Bool) := F60x0 N v1 v3 (fun p => some p)
theorem bind60x0 (v1 v3 : LD) (k0 : Bool → Option R) : F60x0 N v1 v3 k0 = (G60x0 N v1 v3).bind k0 := by
  unfold G60x0 F60x0
  repeat' (first | with_reducible apply cond_b | (with_reducible apply bnd_b; intro _) | rfl)
noncomputable def sh60x0 : Sh := { tmps := [(0, .c (.sl 78)), (1, .c (.sl 78))], mem := [] }
noncomputable def A60x0 (L : List Lf) : List (Bool × Res) := bnd (F60x0 N (ll L 1) (ll L 3) (fun p => some p)) fun q => [(q.isSome, ([.c (.b (q.getD default))], []))]
theorem raw60x0 (L : List Lf) : bd Try.prog (T42x0 N) (h60x0s1 N).h 60 sh60x0 L = F60x0 N (ll L 1) (ll L 3) (fun p => some ([.c (.b p)], [])) := by kernel_rfl
theorem ok60x0 : FnOk Try.prog 60 sh60x0 (A60x0 N) :=
  (h60x0s1 N).fn progOk (T42x0_ok N) fun L x hx => ((raw60x0 N L).trans ((bind60x0 N ..).trans (alt1 x hx)))
noncomputable def T60x0 : Oracle := ext 60 (spSh sh60x0 (A60x0 N)) (T42x0 N)
theorem T60x0_ok : OracleOk Try.prog (T60x0 N) := FnOk.to (ok60x0 N) (T42x0_ok N)
noncomputable def rg61x0 : List (Nat × List Nat) := [(0, [0, 1]), (1, [0, 1]), (2, []), (3, [0, 1]), (4, [13, 12, 0, 1]), (5, [13, 0, 1, 12]), (6, [0, 5, 1, 13, 12]), (7, []), (8, [13, 12, 0, 1]), (9, [])]
noncomputable def hd61x0 : Hints := [(12, [13, 12, 0, 1], [], [])]
noncomputable def h61x0s0 (N : Nat) : Sg Try.prog 0 61 := .start hd61x0 rg61x0
noncomputable def S61x0x12 (N : Nat) (w1 w3 : LD) (w4 : Int) (w5 : Int) (kr : Int → Option R) (k0 : Unit → Option R) (k1 : Unit → Option R) : Option R :=
  bif (decide (w5 < w4)) then
    bif (inB w5 w1.length) then
      bif (inB w5 w3.length) then
        bnd (!((((w1.getD w5.toNat (.i 0)).cell 0).toI == ((w3.getD w5.toNat (.i 0)).cell 0).toI) && ((((w1.getD w5.toNat (.i 0)).cell 1).toI == ((w3.getD w5.toNat (.i 0)).cell 1).toI) && ((((w1.getD w5.toNat (.i 0)).cell 2).toS == ((w3.getD w5.toNat (.i 0)).cell 2).toS) && true)))) fun y0 =>
        bif y0 then
          k0 ()
        else
          kr (IntKind.wrap .i64 (w5 + 1))
      else
        none
    else
      none
  else
    k1 ()
noncomputable def L61x0x12 (N : Nat) {R : Type} (w1 w3 : LD) (w4 : Int) : Nat → Int → (Unit → Option R) → (Unit → Option R) → Option R
  | 0, _, _, _ => none
  | m + 1, w5, k0, k1 => S61x0x12 N w1 w3 w4 w5 (fun w5 => L61x0x12 N w1 w3 w4 m w5 k0 k1) k0 k1
noncomputable def G61x0x12 (w1 w3 : LD) (w4 : Int) (w5 : Int) : Option (Sum (Unit) (Unit)) := L61x0x12 N (R := (Sum (Unit) (Unit))) w1 w3 w4 N w5 (fun p => some (.inl p)) (fun p => some (.inr p))
noncomputable def J61x0x12 (L x : List Lf) (kr : List Lf → Option R) (k0 : Unit → Option R) (k1 : Unit → Option R) : Option R := S61x0x12 N (ll L 1) (ll L 3) (li L 4) (li x 0) (fun w5 => kr [.i w5]) k0 k1
theorem sb61x0x12 (L x : List Lf) (kr : List Lf → Option R) (k0 : Unit → Option R) (k1 : Unit → Option R) : J61x0x12 N L x kr k0 k1 = (J61x0x12 N L x (fun y => some (.inl y)) (fun p => some (.inr (.inl p))) (fun p => some (.inr (.inr p)))).bind (sumE kr (sumE k0 k1)) := by
  unfold J61x0x12 S61x0x12
  repeat' (first | with_reducible apply cond_b | (with_reducible apply bnd_b; intro _) | rfl)
noncomputable def Q61x0x12 (L : List Lf) (m : Nat) (x : List Lf) : Option (Sum (Unit) (Unit)) := L61x0x12 N (R := (Sum (Unit) (Unit))) (ll L 1) (ll L 3) (li L 4) m (li x 0) (fun p => some (.inl p)) (fun p => some (.inr p))
noncomputable def sh61x0x12 : Sh := { tmps := [(0, .c (.sl 82)), (1, .c (.sl 82)), (12, .c (.i .i64)), (13, .c (.i .i64))], mem := [] }
noncomputable def A61x0x12 (L : List Lf) : List (Bool × (Ex × St)) := bnd (Q61x0x12 N L N (pk sh61x0x12 [5] L)) fun q => [((inlB q), (.ret, ⟨[(4, .c (.b false))], []⟩)), ((inrQ q).isSome, ((.exit 0), ⟨[], []⟩))]
theorem step61x0x12 (m : Nat) (kn : St → Option (Ex × St)) (L x : List Lf) : lpB Try.prog (T60x0 N) (h61x0s0 N).h 0 61 12 sh61x0x12 [5] [4] [] (m + 100) kn L x = J61x0x12 N L x (fun y => kn (ofSh sh61x0x12 (mx sh61x0x12 [5] L y))) (fun _ => some (.ret, ⟨[(4, .c (.b false))], []⟩)) (fun _ => some ((.exit 0), ⟨[], []⟩)) := by kernel_rfl
theorem ql61x0x12 (L : List Lf) (m : Nat) (x : List Lf) : Q61x0x12 N L (m + 1) x = J61x0x12 N L x (Q61x0x12 N L m) (fun p => some (.inl p)) (fun p => some (.inr p)) := by kernel_rfl
noncomputable def h61x0s1 : Sg Try.prog 0 61 :=
  (h61x0s0 N).lp (A61x0x12 N) N progOk (T60x0_ok N) (fun m kn L x => (step61x0x12 N m kn L x).trans (sb61x0x12 N L x _ _ _)) (fun L m x => (ql61x0x12 N L m x).trans (sb61x0x12 N L x (Q61x0x12 N L m) (fun p => some (.inl p)) (fun p => some (.inr p)))) fun L x hx => (altS alt1) x hx
noncomputable def F61x0 (v1 v3 : LD) (k0 : Bool → Option R) : Option R :=
  bif ((v1.length : Int) != (v3.length : Int)) then
    k0 false
  else
    bnd (G61x0x12 N v1 v3 (v1.length : Int) 0) fun y0 =>
    bif (inlB y0) then
      k0 false
    else
      bif (inrQ y0).isSome then
        k0 true
      else
        none
noncomputable def G61x0 (v1 v3 : LD) : Option (Bool) := F61x0 N v1 v3 (fun p => some p)
theorem bind61x0 (v1 v3 : LD) (k0 : Bool → Option R) : F61x0 N v1 v3 k0 = (G61x0 N v1 v3).bind k0 := by
  unfold G61x0 F61x0
  repeat' (first | with_reducible apply cond_b | (with_reducible apply bnd_b; intro _) | rfl)
noncomputable def sh61x0 : Sh := { tmps := [(0, .c (.sl 82)), (1, .c (.sl 82))], mem := [] }
noncomputable def A61x0 (L : List Lf) : List (Bool × Res) := bnd (F61x0 N (ll L 1) (ll L 3) (fun p => some p)) fun q => [(q.isSome, ([.c (.b (q.getD default))], []))]
theorem raw61x0 (L : List Lf) : bd Try.prog (T60x0 N) (h61x0s1 N).h 61 sh61x0 L = F61x0 N (ll L 1) (ll L 3) (fun p => some ([.c (.b p)], [])) := by kernel_rfl
theorem ok61x0 : FnOk Try.prog 61 sh61x0 (A61x0 N) :=
  (h61x0s1 N).fn progOk (T60x0_ok N) fun L x hx => ((raw61x0 N L).trans ((bind61x0 N ..).trans (alt1 x hx)))
noncomputable def T61x0 : Oracle := ext 61 (spSh sh61x0 (A61x0 N)) (T60x0 N)
theorem T61x0_ok : OracleOk Try.prog (T61x0 N) := FnOk.to (ok61x0 N) (T60x0_ok N)
noncomputable def rg62x0 : List (Nat × List Nat) := [(0, [0, 1]), (1, [0, 1]), (2, []), (3, [0, 1]), (4, [13, 12, 0, 1]), (5, [13, 0, 1, 12]), (6, [0, 5, 1, 13, 12]), (7, []), (8, [13, 12, 0, 1]), (9, [])]
noncomputable def hd62x0 : Hints := [(12, [13, 12, 0, 1], [], [])]
noncomputable def h62x0s0 (N : Nat) : Sg Try.prog 0 62 := .start hd62x0 rg62x0
noncomputable def S62x0x12 (N : Nat) (w1 w3 : LD) (w4 : Int) (w5 : Int) (kr : Int → Option R) (k0 : Unit → Option R) (k1 : Unit → Option R) : Option R :=
  bif (decide (w5 < w4)) then
    bif (inB w5 w1.length) then
      bif (inB w5 w3.length) then
        bnd (!((w1.getD w5.toNat (.i 0)).toS == (w3.getD w5.toNat (.i 0)).toS)) fun y0 =>
        bif y0 then
          k0 ()
        else
          kr (IntKind.wrap .i64 (w5 + 1))
      else
        none
    else
      none
  else
    k1 ()
noncomputable def L62x0x12 (N : Nat) {R : Type} (w1 w3 : LD) (w4 : Int) : Nat → Int → (Unit → Option R) → (Unit → Option R) → Option R
  | 0, _, _, _ => none
  | m + 1, w5, k0, k1 => S62x0x12 N w1 w3 w4 w5 (fun w5 => L62x0x12 N w1 w3 w4 m w5 k0 k1) k0 k1
noncomputable def G62x0x12 (w1 w3 : LD) (w4 : Int) (w5 : Int) : Option (Sum (Unit) (Unit)) := L62x0x12 N (R := (Sum (Unit) (Unit))) w1 w3 w4 N w5 (fun p => some (.inl p)) (fun p => some (.inr p))
noncomputable def J62x0x12 (L x : List Lf) (kr : List Lf → Option R) (k0 : Unit → Option R) (k1 : Unit → Option R) : Option R := S62x0x12 N (ll L 1) (ll L 3) (li L 4) (li x 0) (fun w5 => kr [.i w5]) k0 k1
theorem sb62x0x12 (L x : List Lf) (kr : List Lf → Option R) (k0 : Unit → Option R) (k1 : Unit → Option R) : J62x0x12 N L x kr k0 k1 = (J62x0x12 N L x (fun y => some (.inl y)) (fun p => some (.inr (.inl p))) (fun p => some (.inr (.inr p)))).bind (sumE kr (sumE k0 k1)) := by
  unfold J62x0x12 S62x0x12
  repeat' (first | with_reducible apply cond_b | (with_reducible apply bnd_b; intro _) | rfl)
noncomputable def Q62x0x12 (L : List Lf) (m : Nat) (x : List Lf) : Option (Sum (Unit) (Unit)) := L62x0x12 N (R := (Sum (Unit) (Unit))) (ll L 1) (ll L 3) (li L 4) m (li x 0) (fun p => some (.inl p)) (fun p => some (.inr p))
noncomputable def sh62x0x12 : Sh := { tmps := [(0, .c (.sl 9)), (1, .c (.sl 9)), (12, .c (.i .i64)), (13, .c (.i .i64))], mem := [] }
noncomputable def A62x0x12 (L : List Lf) : List (Bool × (Ex × St)) := bnd (Q62x0x12 N L N (pk sh62x0x12 [5] L)) fun q => [((inlB q), (.ret, ⟨[(4, .c (.b false))], []⟩)), ((inrQ q).isSome, ((.exit 0), ⟨[], []⟩))]
theorem step62x0x12 (m : Nat) (kn : St → Option (Ex × St)) (L x : List Lf) : lpB Try.prog (T61x0 N) (h62x0s0 N).h 0 62 12 sh62x0x12 [5] [4] [] (m + 100) kn L x = J62x0x12 N L x (fun y => kn (ofSh sh62x0x12 (mx sh62x0x12 [5] L y))) (fun _ => some (.ret, ⟨[(4, .c (.b false))], []⟩)) (fun _ => some ((.exit 0), ⟨[], []⟩)) := by kernel_rfl
theorem ql62x0x12 (L : List Lf) (m : Nat) (x : List Lf) : Q62x0x12 N L (m + 1) x = J62x0x12 N L x (Q62x0x12 N L m) (fun p => some (.inl p)) (fun p => some (.inr p)) := by kernel_rfl
noncomputable def h62x0s1 : Sg Try.prog 0 62 :=
  (h62x0s0 N).lp (A62x0x12 N) N progOk (T61x0_ok N) (fun m kn L x => (step62x0x12 N m kn L x).trans (sb62x0x12 N L x _ _ _)) (fun L m x => (ql62x0x12 N L m x).trans (sb62x0x12 N L x (Q62x0x12 N L m) (fun p => some (.inl p)) (fun p => some (.inr p)))) fun L x hx => (altS alt1) x hx
noncomputable def F62x0 (v1 v3 : LD) (k0 : Bool → Option R) : Option R :=
  bif ((v1.length : Int) != (v3.length : Int)) then
    k0 false
  else
    bnd (G62x0x12 N v1 v3 (v1.length : Int) 0) fun y0 =>
    bif (inlB y0) then
      k0 false
    else
      bif (inrQ y0).isSome then
        k0 true
      else
        none
noncomputable def G62x0 (v1 v3 : LD) : Option (Bool) := F62x0 N v1 v3 (fun p => some p)
theorem bind62x0 (v1 v3 : LD) (k0 : Bool → Option R) : F62x0 N v1 v3 k0 = (G62x0 N v1 v3).bind k0 := by
  unfold G62x0 F62x0
  repeat' (first | with_reducible apply cond_b | (with_reducible apply bnd_b; intro _) | rfl)
noncomputable def sh62x0 : Sh := { tmps := [(0, .c (.sl 9)), (1, .c (.sl 9))], mem := [] }
noncomputable def A62x0 (L : List Lf) : List (Bool × Res) := bnd (F62x0 N (ll L 1) (ll L 3) (fun p => some p)) fun q => [(q.isSome, ([.c (.b (q.getD default))], []))]
theorem raw62x0 (L : List Lf) : bd Try.prog (T61x0 N) (h62x0s1 N).h 62 sh62x0 L = F62x0 N (ll L 1) (ll L 3) (fun p => some ([.c (.b p)], [])) := by kernel_rfl
theorem ok62x0 : FnOk Try.prog 62 sh62x0 (A62x0 N) :=
  (h62x0s1 N).fn progOk (T61x0_ok N) fun L x hx => ((raw62x0 N L).trans ((bind62x0 N ..).trans (alt1 x hx)))
noncomputable def T62x0 : Oracle := ext 62 (spSh sh62x0 (A62x0 N)) (T61x0 N)
theorem T62x0_ok : OracleOk Try.prog (T62x0 N) := FnOk.to (ok62x0 N) (T61x0_ok N)
noncomputable def rg15x0 : List (Nat × List Nat) := [(0, [0, 1]), (1, [2, 3])]
noncomputable def hd15x0 : Hints := [(4, [2, 3], [3, 2], [])]
noncomputable def h15x0s0 (N : Nat) : Sg Try.prog 0 15 := .start hd15x0 rg15x0
noncomputable def F15x0x4 (w0 : LB) (w1 w2 : Int) (w4 w6 w8 : LD) (w9 : LB) (w10 w11 : Int) (w13 w15 w17 : LD) (k0 : Bool → Option R) : Option R :=
  bnd (bif (bif (w0 == w9) then (w1 == w10) else false) then (w2 == w11) else false) fun y0 =>
  bif y0 then
    bnd (G60x0 N w4 w13) fun y1 =>
    bif y1.isSome then
      bif (y1.getD default) then
        bnd (G61x0 N w6 w15) fun y2 =>
        bif y2.isSome then
          bif (y2.getD default) then
            bnd (G62x0 N w8 w17) fun y3 =>
            bif y3.isSome then
              k0 (y3.getD default)
            else
              none
          else
            k0 false
        else
          none
      else
        k0 false
    else
      none
  else
    k0 false
noncomputable def G15x0x4 (w0 : LB) (w1 w2 : Int) (w4 w6 w8 : LD) (w9 : LB) (w10 w11 : Int) (w13 w15 w17 : LD) : Option (Bool) := F15x0x4 N w0 w1 w2 w4 w6 w8 w9 w10 w11 w13 w15 w17 (fun p => some p)
theorem bind15x0x4 (w0 : LB) (w1 w2 : Int) (w4 w6 w8 : LD) (w9 : LB) (w10 w11 : Int) (w13 w15 w17 : LD) (k0 : Bool → Option R) : F15x0x4 N w0 w1 w2 w4 w6 w8 w9 w10 w11 w13 w15 w17 k0 = (G15x0x4 N w0 w1 w2 w4 w6 w8 w9 w10 w11 w13 w15 w17).bind k0 := by
  unfold G15x0x4 F15x0x4
  repeat' (first | with_reducible apply cond_b | (with_reducible apply bnd_b; intro _) | rfl)
noncomputable def J15x0x4 (L : List Lf) (k0 : Bool → Option R) : Option R := F15x0x4 N (ls L 0) (li L 1) (li L 2) (ll L 4) (ll L 6) (ll L 8) (ls L 9) (li L 10) (li L 11) (ll L 13) (ll L 15) (ll L 17) k0
noncomputable def sh15x0x4 : Sh := { tmps := [(2, .c (.p 2 0)), (3, .c (.p 3 0))], mem := [(2, .box (.s :: [.i .i64, .i .i64, .sl 78, .sl 82, .sl 9])), (3, .box (.s :: [.i .i64, .i .i64, .sl 78, .sl 82, .sl 9]))] }
noncomputable def A15x0x4 (L : List Lf) : List (Bool × (Ex × St)) := bnd (J15x0x4 N L (fun p => some p)) fun q => [(q.isSome, (.normal, ⟨[(4, .c (.b (q.getD default)))], []⟩))]
theorem raw15x0x4 (L : List Lf) : pc Try.prog (T62x0 N) (h15x0s0 N).h 0 100 15 4 sh15x0x4 L [4] [] = J15x0x4 N L (fun p => some (.normal, ⟨[(4, .c (.b p))], []⟩)) := by kernel_rfl
noncomputable def h15x0s1 : Sg Try.prog 0 15 :=
  (h15x0s0 N).cut (A15x0x4 N) progOk (T62x0_ok N) fun L x hx => (raw15x0x4 N L).trans ((bind15x0x4 N ..).trans (alt1 x hx))
noncomputable def F15x0 (v0 : LB) (v1 v2 : Int) (v4 v6 v8 : LD) (v9 : LB) (v10 v11 : Int) (v13 v15 v17 : LD) (k0 : Bool → Option R) : Option R :=
  bnd (G15x0x4 N v0 v1 v2 v4 v6 v8 v9 v10 v11 v13 v15 v17) fun y0 =>
  bif y0.isSome then
    k0 (y0.getD default)
  else
    none
noncomputable def G15x0 (v0 : LB) (v1 v2 : Int) (v4 v6 v8 : LD) (v9 : LB) (v10 v11 : Int) (v13 v15 v17 : LD) : Option (Bool) := F15x0 N v0 v1 v2 v4 v6 v8 v9 v10 v11 v13 v15 v17 (fun p => some p)
theorem bind15x0 (v0 : LB) (v1 v2 : Int) (v4 v6 v8 : LD) (v9 : LB) (v10 v11 : Int) (v13 v15 v17 : LD) (k0 : Bool → Option R) : F15x0 N v0 v1 v2 v4 v6 v8 v9 v10 v11 v13 v15 v17 k0 = (G15x0 N v0 v1 v2 v4 v6 v8 v9 v10 v11 v13 v15 v17).bind k0 := by
  unfold G15x0 F15x0
  repeat' (first | with_reducible apply cond_b | (with_reducible apply bnd_b; intro _) | rfl)
noncomputable def J15x0 (L : List Lf) (k0 : Bool → Option R) : Option R := F15x0 N (ls L 0) (li L 1) (li L 2) (ll L 4) (ll L 6) (ll L 8) (ls L 9) (li L 10) (li L 11) (ll L 13) (ll L 15) (ll L 17) k0
noncomputable def sh15x0 : Sh := { tmps := [(0, .g (.s :: [.i .i64, .i .i64, .sl 78, .sl 82, .sl 9])), (1, .g (.s :: [.i .i64, .i .i64, .sl 78, .sl 82, .sl 9]))], mem := [] }
noncomputable def A15x0 (L : List Lf) : List (Bool × Res) := bnd (J15x0 N L (fun p => some p)) fun q => [(q.isSome, ([.c (.b (q.getD default))], []))]
theorem raw15x0 (L : List Lf) : bd Try.prog (T62x0 N) (h15x0s1 N).h 15 sh15x0 L = J15x0 N L (fun p => some ([.c (.b p)], [])) := by kernel_rfl
theorem ok15x0 : FnOk Try.prog 15 sh15x0 (A15x0 N) :=
  (h15x0s1 N).fn progOk (T62x0_ok N) fun L x hx => ((raw15x0 N L).trans ((bind15x0 N ..).trans (alt1 x hx)))
noncomputable def T15x0 : Oracle := ext 15 (spSh sh15x0 (A15x0 N)) (T62x0 N)
theorem T15x0_ok : OracleOk Try.prog (T15x0 N) := FnOk.to (ok15x0 N) (T62x0_ok N)
noncomputable def rg105x0 : List (Nat × List Nat) := [(0, [0]), (1, [0, 2])]
noncomputable def hd105x0 : Hints := []
noncomputable def h105x0s0 (N : Nat) : Sg Try.prog 0 105 := .start hd105x0 rg105x0
noncomputable def F105x0 (N : Nat) (k0 : Unit → R) : R :=
  k0 ()
noncomputable def V105x0 : Unit := F105x0 N (fun p => p)
theorem tot105x0 (k0 : Unit → R) : F105x0 N k0 = k0 (V105x0 N) := by
  unfold V105x0 F105x0
  repeat' (first | rfl | apply cond_k | (apply bnd_k; intro _))
noncomputable def sh105x0 : Sh := { tmps := [(0, .c (.i .i64))], mem := [] }
noncomputable def A105x0 (N : Nat) (L : List Lf) : List (Bool × Res) := [(true, ([.g [.i .i64 (li L 0), .i .i64 60, .i .i64 2]], []))]
theorem raw105x0 (L : List Lf) : bd Try.prog (T15x0 N) (h105x0s0 N).h 105 sh105x0 L = F105x0 N (fun _ => some ([.g [.i .i64 (li L 0), .i .i64 60, .i .i64 2]], [])) := by kernel_rfl
theorem ok105x0 : FnOk Try.prog 105 sh105x0 (A105x0 N) :=
  (h105x0s0 N).fn progOk (T15x0_ok N) fun L x hx => ((raw105x0 N L).trans ((tot105x0 N ..).trans (alt0 _ _ hx)))
noncomputable def T105x0 : Oracle := ext 105 (spSh sh105x0 (A105x0 N)) (T15x0 N)
theorem T105x0_ok : OracleOk Try.prog (T105x0 N) := FnOk.to (ok105x0 N) (T15x0_ok N)
noncomputable def rg106x0 : List (Nat × List Nat) := [(0, [0, 1, 2, 3])]
noncomputable def hd106x0 : Hints := []
noncomputable def h106x0s0 (N : Nat) : Sg Try.prog 1 106 := .start hd106x0 rg106x0
noncomputable def F106x0 (N : Nat) (v0 v1 : Int) (v2 : Bool) (v3 : LD) (v6 : Bool) (k0 : LD → R) : R :=
  k0 [(.a [(.i 1), (.i v0), (.i 0), (.l false [(.a [(.b v6), (.i v1), (.l v2 v3)])]), (.l true [])])]
noncomputable def V106x0 (v0 v1 : Int) (v2 : Bool) (v3 : LD) (v6 : Bool) : LD := F106x0 N v0 v1 v2 v3 v6 (fun p => p)
theorem tot106x0 (v0 v1 : Int) (v2 : Bool) (v3 : LD) (v6 : Bool) (k0 : LD → R) : F106x0 N v0 v1 v2 v3 v6 k0 = k0 (V106x0 N v0 v1 v2 v3 v6) := by
  unfold V106x0 F106x0
  repeat' (first | rfl | apply cond_k | (apply bnd_k; intro _))
noncomputable def J106x0 (L : List Lf) (k0 : LD → R) : R := F106x0 N (li L 0) (li L 1) (lb L 2) (ll L 3) (lb L 6) k0
noncomputable def sh106x0 : Sh := { tmps := [(0, .c (.p 0 0)), (1, .c (.i .i64)), (2, .c (.i .i64)), (3, .c (.sl 146))], mem := [(0, .box ([.nsl 53, .b]))] }
noncomputable def K106x0w0 (L : List Lf) (p : LD) : Res := ([], [(0, .box [.o 26, .b (lb L 6)]), (26, .row 53 true false p)])
noncomputable def A106x0 (L : List Lf) : List (Bool × Res) := bnd (J106x0 N L (fun p => p)) fun q => [(true, K106x0w0 L q)]
theorem raw106x0 (L : List Lf) : bd Try.prog (T105x0 N) (h106x0s0 N).h 106 sh106x0 L = J106x0 N L (fun p => some (K106x0w0 L p)) := by kernel_rfl
theorem ok106x0 : FnOk Try.prog 106 sh106x0 (A106x0 N) :=
  (h106x0s0 N).fn progOk (T105x0_ok N) fun L x hx => ((raw106x0 N L).trans ((tot106x0 N ..).trans (alt0 _ _ hx)))
noncomputable def T106x0 : Oracle := ext 106 (spSh sh106x0 (A106x0 N)) (T105x0 N)
theorem T106x0_ok : OracleOk Try.prog (T106x0 N) := FnOk.to (ok106x0 N) (T105x0_ok N)
noncomputable def rg121x0 : List (Nat × List Nat) := [(0, [0]), (1, [2, 3, 0]), (3, [0, 2, 3]), (2, [2, 3, 0])]
noncomputable def hd121x0 : Hints := [(3, [2, 3, 0], [0], [])]
noncomputable def h121x0s0 (N : Nat) : Sg Try.prog 1 121 := .start hd121x0 rg121x0
noncomputable def S121x0x3 (N : Nat) (w0 w1 : Int) (w3 : LD) (kr : Int → Int → LD → Option R) (k0 : LD → Option R) : Option R :=
  bif (decide (w0 < w1)) then
    bif (inB w1 w3.length) then
      bif (decide (w1.toNat < w3.length)) then
        bif (inB w0 w3.length) then
          bif (decide (w0.toNat < w3.length)) then
            bif (inB w0 w3.length) then
              bif (decide (w0.toNat < w3.length)) then
                bif (inB w1 (w3.set w0.toNat (.i (w3.getD w1.toNat (.i 0)).toI)).length) then
                  bif (decide (w1.toNat < (w3.set w0.toNat (.i (w3.getD w1.toNat (.i 0)).toI)).length)) then
                    bnd (((w3.set w0.toNat (.i (w3.getD w1.toNat (.i 0)).toI)).set w1.toNat (.i (w3.getD w0.toNat (.i 0)).toI)) : List D) fun y0 =>
                    kr (IntKind.wrap .i64 (w0 + 1)) (IntKind.wrap .i64 (w1 - 1)) y0
                  else
                    none
                else
                  none
              else
                none
            else
              none
          else
            none
        else
          none
      else
        none
    else
      none
  else
    k0 w3
noncomputable def L121x0x3 (N : Nat) {R : Type} : Nat → Int → Int → LD → (LD → Option R) → Option R
  | 0, _, _, _, _ => none
  | m + 1, w0, w1, w3, k0 => S121x0x3 N w0 w1 w3 (fun w0 w1 w3 => L121x0x3 N m w0 w1 w3 k0) k0
noncomputable def G121x0x3 (w0 w1 : Int) (w3 : LD) : Option (LD) := L121x0x3 N (R := (LD)) N w0 w1 w3 (fun p => some p)
noncomputable def J121x0x3 (L x : List Lf) (kr : List Lf → Option R) (k0 : LD → Option R) : Option R := S121x0x3 N (li x 0) (li x 1) (ll x 2) (fun w0 w1 w3 => kr [.i w0, .i w1, .l w3]) k0
theorem sb121x0x3 (L x : List Lf) (kr : List Lf → Option R) (k0 : LD → Option R) : J121x0x3 N L x kr k0 = (J121x0x3 N L x (fun y => some (.inl y)) (fun p => some (.inr p))).bind (sumE kr k0) := by
  unfold J121x0x3 S121x0x3
  repeat' (first | with_reducible apply cond_b | (with_reducible apply bnd_b; intro _) | rfl)
noncomputable def Q121x0x3 (L : List Lf) (m : Nat) (x : List Lf) : Option (LD) := L121x0x3 N (R := (LD)) m (li x 0) (li x 1) (ll x 2) (fun p => some p)
noncomputable def sh121x0x3 : Sh := { tmps := [(0, .c (.o 0)), (2, .c (.i .i64)), (3, .c (.i .i64))], mem := [(0, .row 5 true)] }
noncomputable def A121x0x3 (L : List Lf) : List (Bool × (Ex × St)) := bnd (Q121x0x3 N L N (pk sh121x0x3 [0, 1, 3] L)) fun q => [(q.isSome, ((.exit 0), ⟨[], [(0, .row 5 true (lb L 2) (q.getD default))]⟩))]
theorem step121x0x3 (m : Nat) (kn : St → Option (Ex × St)) (L x : List Lf) : lpB Try.prog (T106x0 N) (h121x0s0 N).h 1 121 3 sh121x0x3 [0, 1, 3] [] [0] (m + 100) kn L x = J121x0x3 N L x (fun y => kn (ofSh sh121x0x3 (mx sh121x0x3 [0, 1, 3] L y))) (fun p => some ((.exit 0), ⟨[], [(0, .row 5 true (lb L 2) p)]⟩)) := by kernel_rfl
theorem ql121x0x3 (L : List Lf) (m : Nat) (x : List Lf) : Q121x0x3 N L (m + 1) x = J121x0x3 N L x (Q121x0x3 N L m) some := by kernel_rfl
noncomputable def h121x0s1 : Sg Try.prog 1 121 :=
  (h121x0s0 N).lp (A121x0x3 N) N progOk (T106x0_ok N) (fun m kn L x => (step121x0x3 N m kn L x).trans (sb121x0x3 N L x _ _)) (fun L m x => (ql121x0x3 N L m x).trans (sb121x0x3 N L x (Q121x0x3 N L m) some)) fun L x hx => alt1 x hx
noncomputable def F121x0 (v1 : LD) (k0 : LD → Option R) : Option R :=
  bnd (G121x0x3 N 0 (IntKind.wrap .i64 ((v1.length : Int) - 1)) v1) fun y0 =>
  bif y0.isSome then
    k0 (y0.getD default)
  else
    none
noncomputable def G121x0 (v1 : LD) : Option (LD) := F121x0 N v1 (fun p => some p)
theorem bind121x0 (v1 : LD) (k0 : LD → Option R) : F121x0 N v1 k0 = (G121x0 N v1).bind k0 := by
  unfold G121x0 F121x0
  repeat' (first | with_reducible apply cond_b | (with_reducible apply bnd_b; intro _) | rfl)
noncomputable def sh121x0 : Sh := { tmps := [(0, .c (.o 0))], mem := [(0, .row 5 true)] }
noncomputable def A121x0 (L : List Lf) : List (Bool × Res) := bnd (F121x0 N (ll L 1) (fun p => some p)) fun q => [(q.isSome, ([], [(0, .row 5 true (lb L 0) (q.getD default))]))]
theorem raw121x0 (L : List Lf) : bd Try.prog (T106x0 N) (h121x0s1 N).h 121 sh121x0 L = F121x0 N (ll L 1) (fun p => some ([], [(0, .row 5 true (lb L 0) p)])) := by kernel_rfl
theorem ok121x0 : FnOk Try.prog 121 sh121x0 (A121x0 N) :=
  (h121x0s1 N).fn progOk (T106x0_ok N) fun L x hx => ((raw121x0 N L).trans ((bind121x0 N ..).trans (alt1 x hx)))
noncomputable def T121x0 : Oracle := ext 121 (spSh sh121x0 (A121x0 N)) (T106x0 N)
theorem T121x0_ok : OracleOk Try.prog (T121x0 N) := FnOk.to (ok121x0 N) (T106x0_ok N)
noncomputable def rg67x0 : List (Nat × List Nat) := [(0, [1, 0, 2]), (1, [1, 0, 2]), (2, [7, 0, 2]), (3, [13, 12, 7, 0, 2]), (4, [13, 7, 0, 12, 2]), (5, [7, 8, 0, 13, 12, 2]), (6, [13, 12, 7, 0, 2]), (7, [2, 7]), (8, [7]), (9, [7])]
noncomputable def hd67x0 : Hints := [(9, [13, 12, 7, 0, 2], [10], []), (26, [7, 25], [10], [])]
noncomputable def h67x0s0 (N : Nat) : Sg Try.prog 0 67 := .start hd67x0 rg67x0
noncomputable def S67x0x9 (N : Nat) (w0 w2 : Int) (w3 : Int) (w5 : LD) (kr : Int → LD → Option R) (k0 : LD → Option R) : Option R :=
  bif (decide (w3 < w2)) then
    bif (decide (0 ≤ (IntKind.wrap .i64 (8 * w3)))) then
      bnd (IntKind.wrap .u8 (w0.fdiv (2 ^ (min (IntKind.wrap .i64 (8 * w3)).toNat 64)))) fun y0 =>
      bif (inB w3 w5.length) then
        bif (decide (w3.toNat < w5.length)) then
          kr (IntKind.wrap .i64 (w3 + 1)) (w5.set w3.toNat (.i y0))
        else
          none
      else
        none
    else
      none
  else
    k0 w5
noncomputable def L67x0x9 (N : Nat) {R : Type} (w0 w2 : Int) : Nat → Int → LD → (LD → Option R) → Option R
  | 0, _, _, _ => none
  | m + 1, w3, w5, k0 => S67x0x9 N w0 w2 w3 w5 (fun w3 w5 => L67x0x9 N w0 w2 m w3 w5 k0) k0
noncomputable def G67x0x9 (w0 w2 : Int) (w3 : Int) (w5 : LD) : Option (LD) := L67x0x9 N (R := (LD)) w0 w2 N w3 w5 (fun p => some p)
noncomputable def J67x0x9 (L x : List Lf) (kr : List Lf → Option R) (k0 : LD → Option R) : Option R := S67x0x9 N (li L 0) (li L 2) (li x 0) (ll x 1) (fun w3 w5 => kr [.i w3, .l w5]) k0
theorem sb67x0x9 (L x : List Lf) (kr : List Lf → Option R) (k0 : LD → Option R) : J67x0x9 N L x kr k0 = (J67x0x9 N L x (fun y => some (.inl y)) (fun p => some (.inr p))).bind (sumE kr k0) := by
  unfold J67x0x9 S67x0x9
  repeat' (first | with_reducible apply cond_b | (with_reducible apply bnd_b; intro _) | rfl)
noncomputable def Q67x0x9 (L : List Lf) (m : Nat) (x : List Lf) : Option (LD) := L67x0x9 N (R := (LD)) (li L 0) (li L 2) m (li x 0) (ll x 1) (fun p => some p)
noncomputable def sh67x0x9 : Sh := { tmps := [(0, .c (.i .i64)), (2, .c (.b)), (7, .c (.o 10)), (12, .c (.i .i64)), (13, .c (.i .i64))], mem := [(10, .row 5 true)] }
noncomputable def K67x0x9w0 (L : List Lf) (p : LD) : Ex × St := ((.exit 0), mg (ofSh sh67x0x9 L) [2, 7] [] [10] [(10, .row 5 true (lb L 4) p)])
noncomputable def A67x0x9 (L : List Lf) : List (Bool × (Ex × St)) := bnd (Q67x0x9 N L N (pk sh67x0x9 [3, 5] L)) fun q => [(q.isSome, K67x0x9w0 L (q.getD default))]
theorem step67x0x9 (m : Nat) (kn : St → Option (Ex × St)) (L x : List Lf) : lpB Try.prog (T121x0 N) (h67x0s0 N).h 0 67 9 sh67x0x9 [3, 5] [6, 2, 7] [10] (m + 100) kn L x = J67x0x9 N L x (fun y => kn (ofSh sh67x0x9 (mx sh67x0x9 [3, 5] L y))) (fun p => some (K67x0x9w0 L p)) := by kernel_rfl
theorem ql67x0x9 (L : List Lf) (m : Nat) (x : List Lf) : Q67x0x9 N L (m + 1) x = J67x0x9 N L x (Q67x0x9 N L m) some := by kernel_rfl
noncomputable def h67x0s1 : Sg Try.prog 0 67 :=
  (h67x0s0 N).lp (A67x0x9 N) N progOk (T121x0_ok N) (fun m kn L x => (step67x0x9 N m kn L x).trans (sb67x0x9 N L x _ _)) (fun L m x => (ql67x0x9 N L m x).trans (sb67x0x9 N L x (Q67x0x9 N L m) some)) fun L x hx => alt1 x hx
noncomputable def F67x0x26 (w0 : Bool) (w2 : LD) (k0 : LD → Option R) : Option R :=
  bif w0 then
    bnd (G121x0 N w2) fun y0 =>
    bif y0.isSome then
      k0 (y0.getD default)
    else
      none
  else
    k0 w2
noncomputable def G67x0x26 (w0 : Bool) (w2 : LD) : Option (LD) := F67x0x26 N w0 w2 (fun p => some p)
theorem bind67x0x26 (w0 : Bool) (w2 : LD) (k0 : LD → Option R) : F67x0x26 N w0 w2 k0 = (G67x0x26 N w0 w2).bind k0 := by
  unfold G67x0x26 F67x0x26
  repeat' (first | with_reducible apply cond_b | (with_reducible apply bnd_b; intro _) | rfl)
noncomputable def sh67x0x26 : Sh := { tmps := [(7, .c (.o 10)), (25, .c (.b))], mem := [(10, .row 5 true)] }
noncomputable def K67x0x26w0 (L : List Lf) (p : LD) : Ex × St := (.normal, ⟨[(7, .c (.o 10))], [(10, .row 5 true (lb L 1) p)]⟩)
noncomputable def A67x0x26 (L : List Lf) : List (Bool × (Ex × St)) := bnd (F67x0x26 N (lb L 0) (ll L 2) (fun p => some p)) fun q => [(q.isSome, K67x0x26w0 L (q.getD default))]
theorem raw67x0x26 (L : List Lf) : pc Try.prog (T121x0 N) (h67x0s1 N).h 0 100 67 26 sh67x0x26 L [7] [10] = F67x0x26 N (lb L 0) (ll L 2) (fun p => some (K67x0x26w0 L p)) := by kernel_rfl
noncomputable def h67x0s2 : Sg Try.prog 0 67 :=
  (h67x0s1 N).cut (A67x0x26 N) progOk (T121x0_ok N) fun L x hx => (raw67x0x26 N L).trans ((bind67x0x26 N ..).trans (alt1 x hx))
noncomputable def F67x0 (v0 v1 : Int) (v2 : Bool) (k0 : LD → Option R) : Option R :=
  bif (((decide (0 ≤ v1)) && (decide (v1 ≤ v1))) && (decide (v1.toNat * 1 ≤ room) && decide (v1.toNat ≤ strMax))) then
    bnd (G67x0x9 N v0 ((List.replicate v1.toNat ((.i 0) : D)).length : Int) 0 (List.replicate v1.toNat ((.i 0) : D))) fun y0 =>
    bif y0.isSome then
      bnd (G67x0x26 N v2 (y0.getD default)) fun y1 =>
      bif y1.isSome then
        k0 (y1.getD default)
      else
        none
    else
      none
  else
    none
noncomputable def G67x0 (v0 v1 : Int) (v2 : Bool) : Option (LD) := F67x0 N v0 v1 v2 (fun p => some p)
theorem bind67x0 (v0 v1 : Int) (v2 : Bool) (k0 : LD → Option R) : F67x0 N v0 v1 v2 k0 = (G67x0 N v0 v1 v2).bind k0 := by
  unfold G67x0 F67x0
  repeat' (first | with_reducible apply cond_b | (with_reducible apply bnd_b; intro _) | rfl)
noncomputable def sh67x0 : Sh := { tmps := [(0, .c (.i .i64)), (1, .c (.i .i64)), (2, .c (.b))], mem := [] }
noncomputable def A67x0 (L : List Lf) : List (Bool × Res) := bnd (F67x0 N (li L 0) (li L 1) (lb L 2) (fun p => some p)) fun q => [(q.isSome, ([.c (.sl 5 false (q.getD default))], []))]
theorem raw67x0 (L : List Lf) : bd Try.prog (T121x0 N) (h67x0s2 N).h 67 sh67x0 L = F67x0 N (li L 0) (li L 1) (lb L 2) (fun p => some ([.c (.sl 5 false p)], [])) := by kernel_rfl
theorem ok67x0 : FnOk Try.prog 67 sh67x0 (A67x0 N) :=
  (h67x0s2 N).fn progOk (T121x0_ok N) fun L x hx => ((raw67x0 N L).trans ((bind67x0 N ..).trans (alt1 x hx)))
noncomputable def T67x0 : Oracle := ext 67 (spSh sh67x0 (A67x0 N)) (T121x0 N)
theorem T67x0_ok : OracleOk Try.prog (T67x0 N) := FnOk.to (ok67x0 N) (T121x0_ok N)
noncomputable def rg108x0 : List (Nat × List Nat) := [(0, [1, 3, 2, 0]), (1, [1, 3, 2, 0]), (2, [2, 0]), (3, [1, 2, 0])]
noncomputable def hd108x0 : Hints := [(8, [2, 0, 1, 14], [1, 0], [])]
noncomputable def h108x0s0 (N : Nat) : Sg Try.prog 2 108 := .start hd108x0 rg108x0
noncomputable def F108x0x8 (w0 w1 : Int) (w2 : Bool) (k0 : Int → Option R) : Option R :=
  bif w2 then
    bnd (G124x0 N w1 false) fun y0 =>
    bif y0.isSome then
      k0 (y0.getD default)
    else
      none
  else
    k0 w0
noncomputable def G108x0x8 (w0 w1 : Int) (w2 : Bool) : Option (Int) := F108x0x8 N w0 w1 w2 (fun p => some p)
theorem bind108x0x8 (w0 w1 : Int) (w2 : Bool) (k0 : Int → Option R) : F108x0x8 N w0 w1 w2 k0 = (G108x0x8 N w0 w1 w2).bind k0 := by
  unfold G108x0x8 F108x0x8
  repeat' (first | with_reducible apply cond_b | (with_reducible apply bnd_b; intro _) | rfl)
noncomputable def sh108x0x8 : Sh := { tmps := [(0, .c (.p 0 0)), (1, .c (.i .i64)), (2, .c (.i .i64)), (14, .c (.b))], mem := [(0, .box ([.o 1, .b])), (1, .row 53 true)] }
noncomputable def K108x0x8w0 (L : List Lf) (p : Int) : Ex × St := (.normal, mg (ofSh sh108x0x8 L) [0, 1, 2] [(1, .c (.i .i64 p))] [0, 1] [])
noncomputable def A108x0x8 (L : List Lf) : List (Bool × (Ex × St)) := bnd (F108x0x8 N (li L 0) (li L 1) (lb L 2) (fun p => some p)) fun q => [(q.isSome, K108x0x8w0 L (q.getD default))]
theorem raw108x0x8 (L : List Lf) : pc Try.prog (T67x0 N) (h108x0s0 N).h 2 100 108 8 sh108x0x8 L [1, 2, 0] [1, 0] = F108x0x8 N (li L 0) (li L 1) (lb L 2) (fun p => some (K108x0x8w0 L p)) := by kernel_rfl
noncomputable def h108x0s1 : Sg Try.prog 2 108 :=
  (h108x0s0 N).cut (A108x0x8 N) progOk (T67x0_ok N) fun L x hx => (raw108x0x8 N L).trans ((bind108x0x8 N ..).trans (alt1 x hx))
noncomputable def F108x0 (v0 v1 : Int) (v2 v3 : Bool) (k0 : LD → Option R) : Option R :=
  bnd (G108x0x8 N v0 v1 (bif (decide (v0 < 0)) then (!v2) else false)) fun y0 =>
  bif y0.isSome then
    bnd (G67x0 N (y0.getD default) v1 v3) fun y1 =>
    bif y1.isSome then
      k0 (y1.getD default)
    else
      none
  else
    none
noncomputable def G108x0 (v0 v1 : Int) (v2 v3 : Bool) : Option (LD) := F108x0 N v0 v1 v2 v3 (fun p => some p)
theorem bind108x0 (v0 v1 : Int) (v2 v3 : Bool) (k0 : LD → Option R) : F108x0 N v0 v1 v2 v3 k0 = (G108x0 N v0 v1 v2 v3).bind k0 := by
  unfold G108x0 F108x0
  repeat' (first | with_reducible apply cond_b | (with_reducible apply bnd_b; intro _) | rfl)
noncomputable def J108x0 (L : List Lf) (k0 : LD → Option R) : Option R := F108x0 N (li L 0) (li L 1) (lb L 2) (lb L 3) k0
noncomputable def sh108x0 : Sh := { tmps := [(0, .c (.p 0 0)), (1, .c (.i .i64)), (2, .c (.i .i64)), (3, .c (.b))], mem := [(0, .box ([.o 1, .b])), (1, .row 53 true)] }
noncomputable def A108x0 (L : List Lf) : List (Bool × Res) := bnd (J108x0 N L (fun p => some p)) fun q => [(q.isSome, ([.c (.sl 5 false (q.getD default))], mgA (ofSh sh108x0 L).mem [] [0, 1]))]
theorem raw108x0 (L : List Lf) : bd Try.prog (T67x0 N) (h108x0s1 N).h 108 sh108x0 L = J108x0 N L (fun p => some ([.c (.sl 5 false p)], mgA (ofSh sh108x0 L).mem [] [0, 1])) := by kernel_rfl
theorem ok108x0 : FnOk Try.prog 108 sh108x0 (A108x0 N) :=
  (h108x0s1 N).fn progOk (T67x0_ok N) fun L x hx => ((raw108x0 N L).trans ((bind108x0 N ..).trans (alt1 x hx)))
noncomputable def T108x0 : Oracle := ext 108 (spSh sh108x0 (A108x0 N)) (T67x0 N)
theorem T108x0_ok : OracleOk Try.prog (T108x0 N) := FnOk.to (ok108x0 N) (T67x0_ok N)
noncomputable def rg109x0 : List (Nat × List Nat) := [(0, [0]), (1, [0]), (2, [3, 0]), (3, [3])]
noncomputable def hd109x0 : Hints := []
noncomputable def h109x0s0 (N : Nat) : Sg Try.prog 0 109 := .start hd109x0 rg109x0
noncomputable def F109x0 (N : Nat) (v0 : LB) (k0 : LD → R) : R :=
  bnd (((bytesD v0).take 60 ++ [(.i 0), (.i 0), (.i 0), (.i 0), (.i 0), (.i 0), (.i 0), (.i 0), (.i 0), (.i 0), (.i 0), (.i 0), (.i 0), (.i 0), (.i 0), (.i 0), (.i 0), (.i 0), (.i 0), (.i 0), (.i 0), (.i 0), (.i 0), (.i 0), (.i 0), (.i 0), (.i 0), (.i 0), (.i 0), (.i 0), (.i 0), (.i 0), (.i 0), (.i 0), (.i 0), (.i 0), (.i 0), (.i 0), (.i 0), (.i 0), (.i 0), (.i 0), (.i 0), (.i 0), (.i 0), (.i 0), (.i 0), (.i 0), (.i 0), (.i 0), (.i 0), (.i 0), (.i 0), (.i 0), (.i 0), (.i 0), (.i 0), (.i 0), (.i 0), (.i 0)].drop (bytesD v0).length) : List D) fun y0 =>
  k0 y0
noncomputable def V109x0 (v0 : LB) : LD := F109x0 N v0 (fun p => p)
theorem tot109x0 (v0 : LB) (k0 : LD → R) : F109x0 N v0 k0 = k0 (V109x0 N v0) := by
  unfold V109x0 F109x0
  repeat' (first | rfl | apply cond_k | (apply bnd_k; intro _))
noncomputable def sh109x0 : Sh := { tmps := [(0, .c (.s))], mem := [] }
noncomputable def A109x0 (L : List Lf) : List (Bool × Res) := bnd (F109x0 N (ls L 0) (fun p => p)) fun q => [(true, ([.c (.sl 5 false q)], []))]
theorem raw109x0 (L : List Lf) : bd Try.prog (T108x0 N) (h109x0s0 N).h 109 sh109x0 L = F109x0 N (ls L 0) (fun p => some ([.c (.sl 5 false p)], [])) := by kernel_rfl
theorem ok109x0 : FnOk Try.prog 109 sh109x0 (A109x0 N) :=
  (h109x0s0 N).fn progOk (T108x0_ok N) fun L x hx => ((raw109x0 N L).trans ((tot109x0 N ..).trans (alt0 _ _ hx)))
noncomputable def T109x0 : Oracle := ext 109 (spSh sh109x0 (A109x0 N)) (T108x0 N)
theorem T109x0_ok : OracleOk Try.prog (T109x0 N) := FnOk.to (ok109x0 N) (T108x0_ok N)
noncomputable def rg107x0 : List (Nat × List Nat) := [(0, [1, 2, 0]), (1, [2, 6, 0]), (2, [13, 12, 11, 6, 0]), (3, [11, 13, 6, 12, 0]), (4, [6, 8, 13, 12, 11, 0]), (5, [13, 12, 11, 6, 0]), (6, [0, 6])]
noncomputable def hd107x0 : Hints := [(6, [13, 12, 11, 6, 0], [8, 1, 0, 50008006], [50008004])]
noncomputable def h107x0s0 (N : Nat) : Sg Try.prog 2 107 := .start hd107x0 rg107x0
noncomputable def S107x0x6 (N : Nat) (w1 : LD) (w2 : Int) (w3 : Int) (w12 : Bool) (w13 : LD) (kr : Int → Bool → LD → Option R) (k0 : Bool × LD → Option R) : Option R :=
  bif (decide (w3 < w2)) then
    bif (inB w3 w1.length) then
      bif (decide ((w13.length + (w1.getD w3.toNat (.i 0)).items.length) * 1 ≤ room) && decide ((w13.length + (w1.getD w3.toNat (.i 0)).items.length) ≤ strMax)) then
        kr (IntKind.wrap .i64 (w3 + 1)) ((w1.getD w3.toNat (.i 0)).items.isEmpty && w12) (w13 ++ (w1.getD w3.toNat (.i 0)).items)
      else
        none
    else
      none
  else
    k0 (w12, w13)
noncomputable def L107x0x6 (N : Nat) {R : Type} (w1 : LD) (w2 : Int) : Nat → Int → Bool → LD → (Bool × LD → Option R) → Option R
  | 0, _, _, _, _ => none
  | m + 1, w3, w12, w13, k0 => S107x0x6 N w1 w2 w3 w12 w13 (fun w3 w12 w13 => L107x0x6 N w1 w2 m w3 w12 w13 k0) k0
noncomputable def G107x0x6 (w1 : LD) (w2 : Int) (w3 : Int) (w12 : Bool) (w13 : LD) : Option (Bool × LD) := L107x0x6 N (R := (Bool × LD)) w1 w2 N w3 w12 w13 (fun p => some p)
noncomputable def J107x0x6 (L x : List Lf) (kr : List Lf → Option R) (k0 : Bool × LD → Option R) : Option R := S107x0x6 N (ll L 1) (li L 2) (li x 0) (lb x 1) (ll x 2) (fun w3 w12 w13 => kr [.i w3, .b w12, .l w13]) k0
theorem sb107x0x6 (L x : List Lf) (kr : List Lf → Option R) (k0 : Bool × LD → Option R) : J107x0x6 N L x kr k0 = (J107x0x6 N L x (fun y => some (.inl y)) (fun p => some (.inr p))).bind (sumE kr k0) := by
  unfold J107x0x6 S107x0x6
  repeat' (first | with_reducible apply cond_b | (with_reducible apply bnd_b; intro _) | rfl)
noncomputable def Q107x0x6 (L : List Lf) (m : Nat) (x : List Lf) : Option (Bool × LD) := L107x0x6 N (R := (Bool × LD)) (ll L 1) (li L 2) m (li x 0) (lb x 1) (ll x 2) (fun p => some p)
noncomputable def sh107x0x6 : Sh := { tmps := [(0, .c (.p 0 0)), (6, .c (.p 8 0)), (11, .c (.sl 37)), (12, .c (.i .i64)), (13, .c (.i .i64))], mem := [(0, .box ([.o 1, .b])), (1, .row 53 true), (8, .box ([.i .i64, .i .i64, .i .i64, .sl 103, .o 50008006])), (50008006, .row 5 true)] }
noncomputable def K107x0x6w0 (L : List Lf) (p : Bool × LD) : Ex × St := ((.exit 0), mg (ofSh sh107x0x6 L) [0, 6] [] [0, 1, 8, 50008006] [(50008006, .row 5 true p.1 p.2)])
noncomputable def A107x0x6 (L : List Lf) : List (Bool × (Ex × St)) := bnd (Q107x0x6 N L N (pk sh107x0x6 [3, 12, 13] L)) fun q => [(q.isSome, K107x0x6w0 L (q.getD default))]
theorem step107x0x6 (m : Nat) (kn : St → Option (Ex × St)) (L x : List Lf) : lpB Try.prog (T109x0 N) (h107x0s0 N).h 2 107 6 sh107x0x6 [3, 12, 13] [0, 6] [50008006, 8, 1, 0] (m + 100) kn L x = J107x0x6 N L x (fun y => kn (ofSh sh107x0x6 (mx sh107x0x6 [3, 12, 13] L y))) (fun p => some (K107x0x6w0 L p)) := by kernel_rfl
theorem ql107x0x6 (L : List Lf) (m : Nat) (x : List Lf) : Q107x0x6 N L (m + 1) x = J107x0x6 N L x (Q107x0x6 N L m) some := by kernel_rfl
noncomputable def h107x0s1 : Sg Try.prog 2 107 :=
  (h107x0s0 N).lp (A107x0x6 N) N progOk (T109x0_ok N) (fun m kn L x => (step107x0x6 N m kn L x).trans (sb107x0x6 N L x _ _)) (fun L m x => (ql107x0x6 N L m x).trans (sb107x0x6 N L x (Q107x0x6 N L m) some)) fun L x hx => alt1 x hx
noncomputable def F107x0 (v0 : Int) (v2 v5 : LD) (k0 : LD → Option R) : Option R :=
  bnd (G107x0x6 N v2 (v2.length : Int) 0 true []) fun y0 =>
  bif y0.isSome then
    bif (decide ((v5.length + 1) * 72 ≤ room) && decide ((v5.length + 1) ≤ strMax)) then
      bnd ((v5 ++ [(.a [(.i 2), (.i v0), (.i 0), (.l true []), (.l (y0.getD default).1 (y0.getD default).2)])]) : List D) fun y1 =>
      k0 y1
    else
      none
  else
    none
noncomputable def G107x0 (v0 : Int) (v2 v5 : LD) : Option (LD) := F107x0 N v0 v2 v5 (fun p => some p)
theorem bind107x0 (v0 : Int) (v2 v5 : LD) (k0 : LD → Option R) : F107x0 N v0 v2 v5 k0 = (G107x0 N v0 v2 v5).bind k0 := by
  unfold G107x0 F107x0
  repeat' (first | with_reducible apply cond_b | (with_reducible apply bnd_b; intro _) | rfl)
noncomputable def sh107x0 : Sh := { tmps := [(0, .c (.p 0 0)), (1, .c (.i .i64)), (2, .c (.sl 37))], mem := [(0, .box ([.o 1, .b])), (1, .row 53 true)] }
noncomputable def K107x0w0 (L : List Lf) (p : LD) : Res := ([], [(0, .box [.o 33, .b (lb L 3)]), (33, .row 53 true false p)])
noncomputable def A107x0 (L : List Lf) : List (Bool × Res) := bnd (F107x0 N (li L 0) (ll L 2) (ll L 5) (fun p => some p)) fun q => [(q.isSome, K107x0w0 L (q.getD default))]
theorem raw107x0 (L : List Lf) : bd Try.prog (T109x0 N) (h107x0s1 N).h 107 sh107x0 L = F107x0 N (li L 0) (ll L 2) (ll L 5) (fun p => some (K107x0w0 L p)) := by kernel_rfl
theorem ok107x0 : FnOk Try.prog 107 sh107x0 (A107x0 N) :=
  (h107x0s1 N).fn progOk (T109x0_ok N) fun L x hx => ((raw107x0 N L).trans ((bind107x0 N ..).trans (alt1 x hx)))
noncomputable def T107x0 : Oracle := ext 107 (spSh sh107x0 (A107x0 N)) (T109x0 N)
theorem T107x0_ok : OracleOk Try.prog (T107x0 N) := FnOk.to (ok107x0 N) (T109x0_ok N)
noncomputable def rg106x1 : List (Nat × List Nat) := [(0, [0, 1, 2, 3])]
noncomputable def hd106x1 : Hints := []
noncomputable def h106x1s0 (N : Nat) : Sg Try.prog 2 106 := .start hd106x1 rg106x1
noncomputable def F106x1 (N : Nat) (v0 v1 : Int) (v2 : Bool) (v3 : LD) (v4 : Bool) (v6 : LD) (k0 : LD → Option R) : Option R :=
  bif (decide ((v6.length + 1) * 72 ≤ room) && decide ((v6.length + 1) ≤ strMax)) then
    bnd ((v6 ++ [(.a [(.i 1), (.i v0), (.i 0), (.l false [(.a [(.b v4), (.i v1), (.l v2 v3)])]), (.l true [])])]) : List D) fun y0 =>
    k0 y0
  else
    none
noncomputable def G106x1 (v0 v1 : Int) (v2 : Bool) (v3 : LD) (v4 : Bool) (v6 : LD) : Option (LD) := F106x1 N v0 v1 v2 v3 v4 v6 (fun p => some p)
theorem bind106x1 (v0 v1 : Int) (v2 : Bool) (v3 : LD) (v4 : Bool) (v6 : LD) (k0 : LD → Option R) : F106x1 N v0 v1 v2 v3 v4 v6 k0 = (G106x1 N v0 v1 v2 v3 v4 v6).bind k0 := by
  unfold G106x1 F106x1
  repeat' (first | with_reducible apply cond_b | (with_reducible apply bnd_b; intro _) | rfl)
noncomputable def J106x1 (L : List Lf) (k0 : LD → Option R) : Option R := F106x1 N (li L 0) (li L 1) (lb L 2) (ll L 3) (lb L 4) (ll L 6) k0
noncomputable def sh106x1 : Sh := { tmps := [(0, .c (.p 0 0)), (1, .c (.i .i64)), (2, .c (.i .i64)), (3, .c (.sl 146))], mem := [(0, .box ([.o 1, .b])), (1, .row 53 true)] }
noncomputable def K106x1w0 (L : List Lf) (p : LD) : Res := ([], [(0, .box [.o 27, .b (lb L 4)]), (27, .row 53 true false p)])
noncomputable def A106x1 (L : List Lf) : List (Bool × Res) := bnd (J106x1 N L (fun p => some p)) fun q => [(q.isSome, K106x1w0 L (q.getD default))]
theorem raw106x1 (L : List Lf) : bd Try.prog (T107x0 N) (h106x1s0 N).h 106 sh106x1 L = J106x1 N L (fun p => some (K106x1w0 L p)) := by kernel_rfl
theorem ok106x1 : FnOk Try.prog 106 sh106x1 (A106x1 N) :=
  (h106x1s0 N).fn progOk (T107x0_ok N) fun L x hx => ((raw106x1 N L).trans ((bind106x1 N ..).trans (alt1 x hx)))
noncomputable def T106x1 : Oracle := ext 106 (spSh sh106x1 (A106x1 N)) (T107x0 N)
theorem T106x1_ok : OracleOk Try.prog (T106x1 N) := FnOk.to (ok106x1 N) (T107x0_ok N)
noncomputable def rg110x0 : List (Nat × List Nat) := [(0, [1, 2, 0]), (1, [4, 5, 0]), (2, [5, 0, 4]), (3, [6, 0, 4]), (4, [20, 6, 0, 4]), (5, [20, 6, 0, 4]), (6, [6, 7, 20, 0, 4]), (7, [20, 6, 0, 4]), (8, [6, 0, 4]), (9, [29, 6, 0, 4]), (10, [29, 6, 0, 4]), (11, [6, 8, 29, 0, 4]), (12, [29, 6, 0, 4]), (13, [0, 6, 4]), (14, [4, 0]), (15, [45, 44, 43, 4, 0]), (16, [45, 43, 4, 0, 44]), (17, [4, 10, 0, 9, 45, 44, 43]), (18, [0, 11, 10, 9, 4, 45, 44, 43]), (19, [9, 10, 4, 0, 12, 11, 45, 44, 43]), (23, [0, 12, 45, 44, 43, 4]), (20, [0, 12, 11, 45, 44, 43, 4]), (21, [0, 11, 45, 44, 43, 4]), (22, [13, 11, 45, 44, 43, 4, 0]), (24, [45, 44, 43, 4, 0])]
noncomputable def hd110x0 : Hints := [(45, [45, 44, 43, 4, 0], [6, 42000000029, 0, 50000002], [50000000]), (58, [9, 10, 4, 0, 12, 11, 45, 44, 43], [84, 12, 6, 50000002, 0], []), (69062, [0, 12, 11, 45, 44, 43, 4, 97], [84, 6, 50000002, 0], [])]
noncomputable def h110x0s0 (N : Nat) : Sg Try.prog 2 110 := .start hd110x0 rg110x0
noncomputable def F110x0x58 (N : Nat) (w0 : Int) (w11 : LD) (w16 : Int) (k0 : Bool → Option R) : Option R :=
  bif (decide (w0 > 0)) then
    bif (inB (IntKind.wrap .i64 (w0 - 1)) w11.length) then
      bnd ((w11.getD (IntKind.wrap .i64 (w0 - 1)).toNat (.i 0)).cell 0).toI fun y0 =>
      k0 (decide ((IntKind.wrap .i64 (w16 - y0)) < 32))
    else
      none
  else
    k0 false
noncomputable def G110x0x58 (w0 : Int) (w11 : LD) (w16 : Int) : Option (Bool) := F110x0x58 N w0 w11 w16 (fun p => some p)
theorem bind110x0x58 (w0 : Int) (w11 : LD) (w16 : Int) (k0 : Bool → Option R) : F110x0x58 N w0 w11 w16 k0 = (G110x0x58 N w0 w11 w16).bind k0 := by
  unfold G110x0x58 F110x0x58
  repeat' (first | with_reducible apply cond_b | (with_reducible apply bnd_b; intro _) | rfl)
noncomputable def sh110x0x58 : Sh := { tmps := [(0, .c (.p 0 0)), (4, .c (.p 6 0)), (9, .c (.i .i64)), (10, .c (.p 12 0)), (11, .c (.i .i64)), (12, .c (.o 84)), (43, .c (.sl 78)), (44, .c (.i .i64)), (45, .c (.i .i64))], mem := [(0, .box ([.o 50000002, .b])), (6, .box (.s :: [.i .i64, .i .i64, .sl 78, .sl 82, .sl 9])), (12, .box (rI 7 ([]))), (84, .row 37 true), (50000002, .row 53 true)] }
noncomputable def K110x0x58w0 (L : List Lf) (p : Bool) : Ex × St := (.normal, mg (ofSh sh110x0x58 L) [0, 4, 11, 12, 43, 44, 45, 97] [(97, .c (.b p))] [0, 6, 84, 50000002] [])
noncomputable def A110x0x58 (L : List Lf) : List (Bool × (Ex × St)) := bnd (F110x0x58 N (li L 0) (ll L 11) (li L 16) (fun p => some p)) fun q => [(q.isSome, K110x0x58w0 L (q.getD default))]
theorem raw110x0x58 (L : List Lf) : pc Try.prog (T106x1 N) (h110x0s0 N).h 2 100 110 58 sh110x0x58 L [0, 12, 11, 45, 44, 43, 4, 97] [84, 6, 50000002, 0] = F110x0x58 N (li L 0) (ll L 11) (li L 16) (fun p => some (K110x0x58w0 L p)) := by kernel_rfl
noncomputable def h110x0s1 : Sg Try.prog 2 110 :=
  (h110x0s0 N).cut (A110x0x58 N) progOk (T106x1_ok N) fun L x hx => (raw110x0x58 N L).trans ((bind110x0x58 N ..).trans (alt1 x hx))
noncomputable def F110x0x69062 (w0 : Int) (w5 : Bool) (w17 w19 : LD) (k0 : LD → Option R) (k1 : LD → Option R) : Option R :=
  bif w5 then
    bif ((decide (1 ≤ (w17.length : Int))) && (decide ((w17.length : Int) ≤ (w17.length : Int)))) then
      bnd (G107x0 N 1 ((w17.take (w17.length : Int).toNat).drop 1) w19) fun y0 =>
      bif y0.isSome then
        bnd (IntKind.wrap .i64 (((y0.getD default).length : Int) - 1)) fun y1 =>
        bif (inB y1 (y0.getD default).length) then
          bif (decide (y1.toNat < (y0.getD default).length)) then
            bnd (((y0.getD default).set y1.toNat (.a [(.i 3), (.i (((y0.getD default).getD y1.toNat (.i 0)).cell 1).toI), (.i (((y0.getD default).getD y1.toNat (.i 0)).cell 2).toI), (.l (((y0.getD default).getD y1.toNat (.i 0)).cell 3).isNil (((y0.getD default).getD y1.toNat (.i 0)).cell 3).items), (.l (((y0.getD default).getD y1.toNat (.i 0)).cell 4).isNil (((y0.getD default).getD y1.toNat (.i 0)).cell 4).items)])) : List D) fun y2 =>
            bif (decide (y1.toNat < y2.length)) then
              bnd ((y2.set y1.toNat (.a [(.i ((y2.getD y1.toNat (.i 0)).cell 0).toI), (.i ((y2.getD y1.toNat (.i 0)).cell 1).toI), (.i (w0.tmod 32)), (.l ((y2.getD y1.toNat (.i 0)).cell 3).isNil ((y2.getD y1.toNat (.i 0)).cell 3).items), (.l ((y2.getD y1.toNat (.i 0)).cell 4).isNil ((y2.getD y1.toNat (.i 0)).cell 4).items)])) : List D) fun y3 =>
              k0 y3
            else
              none
          else
            none
        else
          none
      else
        none
    else
      none
  else
    bnd (G107x0 N 1 w17 w19) fun y4 =>
    bif y4.isSome then
      k1 (y4.getD default)
    else
      none
noncomputable def G110x0x69062 (w0 : Int) (w5 : Bool) (w17 w19 : LD) : Option (Sum (LD) (LD)) := F110x0x69062 N w0 w5 w17 w19 (fun p => some (.inl p)) (fun p => some (.inr p))
theorem bind110x0x69062 (w0 : Int) (w5 : Bool) (w17 w19 : LD) (k0 : LD → Option R) (k1 : LD → Option R) : F110x0x69062 N w0 w5 w17 w19 k0 k1 = (G110x0x69062 N w0 w5 w17 w19).bind (sumE k0 k1) := by
  unfold G110x0x69062 F110x0x69062
  repeat' (first | with_reducible apply cond_b | (with_reducible apply bnd_b; intro _) | rfl)
noncomputable def J110x0x69062 (L : List Lf) (k0 : LD → Option R) (k1 : LD → Option R) : Option R := F110x0x69062 N (li L 0) (lb L 5) (ll L 17) (ll L 19) k0 k1
noncomputable def sh110x0x69062 : Sh := { tmps := [(0, .c (.p 0 0)), (4, .c (.p 6 0)), (11, .c (.i .i64)), (12, .c (.o 84)), (43, .c (.sl 78)), (44, .c (.i .i64)), (45, .c (.i .i64)), (97, .c (.b))], mem := [(0, .box ([.o 50000002, .b])), (6, .box (.s :: [.i .i64, .i .i64, .sl 78, .sl 82, .sl 9])), (84, .row 37 true), (50000002, .row 53 true)] }
noncomputable def K110x0x69062w0 (L : List Lf) (p : LD) : Ex × St := (.normal, mg (ofSh sh110x0x69062 L) [0, 4, 43, 44, 45] [] [0, 6, 102000000035] [(0, .box [.o 102000000035, .b (lb L 6)]), (102000000035, .row 53 true false p)])
noncomputable def K110x0x69062w1 (L : List Lf) (p : LD) : Ex × St := (.normal, mg (ofSh sh110x0x69062 L) [0, 4, 43, 44, 45] [] [0, 6, 126000000035] [(0, .box [.o 126000000035, .b (lb L 6)]), (126000000035, .row 53 true false p)])
noncomputable def A110x0x69062 (L : List Lf) : List (Bool × (Ex × St)) := bnd (J110x0x69062 N L (fun p => some (.inl p)) (fun p => some (.inr p))) fun q => [((inlB q), K110x0x69062w0 L (inlV q)), ((inrQ q).isSome, K110x0x69062w1 L ((inrQ q).getD default))]
theorem raw110x0x69062 (L : List Lf) : pc Try.prog (T106x1 N) (h110x0s1 N).h 2 100 110 69062 sh110x0x69062 L [45, 44, 43, 4, 0] [6, 102000000035, 0, 126000000035] = J110x0x69062 N L (fun p => some (K110x0x69062w0 L p)) (fun p => some (K110x0x69062w1 L p)) := by kernel_rfl
noncomputable def h110x0s2 : Sg Try.prog 2 110 :=
  (h110x0s1 N).cut (A110x0x69062 N) progOk (T106x1_ok N) fun L x hx => (raw110x0x69062 N L).trans ((bind110x0x69062 N ..).trans ((altS alt1) x hx))
noncomputable def S110x0x45 (w1 : LD) (w2 : Int) (w4 : Bool) (w7 : Int) (w9 : LD) (w3 : Int) (w14 : Bool) (w15 : LD) (kr : Int → Bool → LD → Option R) (k0 : Bool × LD → Option R) : Option R :=
  bif (decide (w3 < w2)) then
    bif (inB w3 w1.length) then
      bnd (IntKind.wrap .i64 (w7 + ((w1.getD w3.toNat (.i 0)).cell 0).toI)) fun y0 =>
      bnd (G108x0 N y0 4 false w4) fun y1 =>
      bif y1.isSome then
        bnd (G108x0 N ((w1.getD w3.toNat (.i 0)).cell 1).toI 4 true w4) fun y2 =>
        bif y2.isSome then
          bnd (G108x0 N ((w1.getD w3.toNat (.i 0)).cell 2).toI 4 true w4) fun y3 =>
          bif y3.isSome then
            bnd (G108x0 N ((w1.getD w3.toNat (.i 0)).cell 3).toI 4 true w4) fun y4 =>
            bif y4.isSome then
              bnd (G108x0 N ((w1.getD w3.toNat (.i 0)).cell 4).toI 2 false w4) fun y5 =>
              bif y5.isSome then
                bnd (G108x0 N ((w1.getD w3.toNat (.i 0)).cell 5).toI 2 false w4) fun y6 =>
                bif y6.isSome then
                  bnd (G108x0 N ((w1.getD w3.toNat (.i 0)).cell 6).toI 2 false w4) fun y7 =>
                  bif y7.isSome then
                    bnd (G110x0x58 N w3 w9 ((w1.getD w3.toNat (.i 0)).cell 0).toI) fun y8 =>
                    bif y8.isSome then
                      bnd (G110x0x69062 N y0 (y8.getD default) [(.l false (y1.getD default)), (.l false (y2.getD default)), (.l false (y3.getD default)), (.l false (y4.getD default)), (.l false (y5.getD default)), (.l false (y6.getD default)), (.l false (y7.getD default))] w15) fun y9 =>
                      bif (inlB y9) then
                        kr (IntKind.wrap .i64 (w3 + 1)) false (inlV y9)
                      else
                        bif (inrQ y9).isSome then
                          kr (IntKind.wrap .i64 (w3 + 1)) false ((inrQ y9).getD default)
                        else
                          none
                    else
                      none
                  else
                    none
                else
                  none
              else
                none
            else
              none
          else
            none
        else
          none
      else
        none
    else
      none
  else
    k0 (w14, w15)
noncomputable def L110x0x45 (N : Nat) {R : Type} (w1 : LD) (w2 : Int) (w4 : Bool) (w7 : Int) (w9 : LD) : Nat → Int → Bool → LD → (Bool × LD → Option R) → Option R
  | 0, _, _, _, _ => none
  | m + 1, w3, w14, w15, k0 => S110x0x45 N w1 w2 w4 w7 w9 w3 w14 w15 (fun w3 w14 w15 => L110x0x45 N w1 w2 w4 w7 w9 m w3 w14 w15 k0) k0
noncomputable def G110x0x45 (w1 : LD) (w2 : Int) (w4 : Bool) (w7 : Int) (w9 : LD) (w3 : Int) (w14 : Bool) (w15 : LD) : Option (Bool × LD) := L110x0x45 N (R := (Bool × LD)) w1 w2 w4 w7 w9 N w3 w14 w15 (fun p => some p)
noncomputable def J110x0x45 (L x : List Lf) (kr : List Lf → Option R) (k0 : Bool × LD → Option R) : Option R := S110x0x45 N (ll L 1) (li L 2) (lb L 4) (li L 7) (ll L 9) (li x 0) (lb x 1) (ll x 2) (fun w3 w14 w15 => kr [.i w3, .b w14, .l w15]) k0
theorem sb110x0x45 (L x : List Lf) (kr : List Lf → Option R) (k0 : Bool × LD → Option R) : J110x0x45 N L x kr k0 = (J110x0x45 N L x (fun y => some (.inl y)) (fun p => some (.inr p))).bind (sumE kr k0) := by
  unfold J110x0x45 S110x0x45
  repeat' (first | with_reducible apply cond_b | (with_reducible apply bnd_b; intro _) | rfl)
noncomputable def Q110x0x45 (L : List Lf) (m : Nat) (x : List Lf) : Option (Bool × LD) := L110x0x45 N (R := (Bool × LD)) (ll L 1) (li L 2) (lb L 4) (li L 7) (ll L 9) m (li x 0) (lb x 1) (ll x 2) (fun p => some p)
noncomputable def sh110x0x45 : Sh := { tmps := [(0, .c (.p 0 0)), (4, .c (.p 6 0)), (43, .c (.sl 78)), (44, .c (.i .i64)), (45, .c (.i .i64))], mem := [(0, .box ([.o 50000002, .b])), (6, .box (.s :: [.i .i64, .i .i64, .sl 78, .sl 82, .sl 9])), (50000002, .row 53 true)] }
noncomputable def K110x0x45w0 (L : List Lf) (p : Bool × LD) : Ex × St := ((.exit 4), mg (ofSh sh110x0x45 L) [] [] [0, 50000002] [(50000002, .row 53 true p.1 p.2)])
noncomputable def A110x0x45 (L : List Lf) : List (Bool × (Ex × St)) := bnd (Q110x0x45 N L N (pk sh110x0x45 [3, 14, 15] L)) fun q => [(q.isSome, K110x0x45w0 L (q.getD default))]
theorem step110x0x45 (m : Nat) (kn : St → Option (Ex × St)) (L x : List Lf) : lpB Try.prog (T106x1 N) (h110x0s2 N).h 2 110 45 sh110x0x45 [3, 14, 15] [] [50000002, 0] (m + 100) kn L x = J110x0x45 N L x (fun y => kn (ofSh sh110x0x45 (mx sh110x0x45 [3, 14, 15] L y))) (fun p => some (K110x0x45w0 L p)) := by kernel_rfl
theorem ql110x0x45 (L : List Lf) (m : Nat) (x : List Lf) : Q110x0x45 N L (m + 1) x = J110x0x45 N L x (Q110x0x45 N L m) some := by kernel_rfl
noncomputable def h110x0s3 : Sg Try.prog 2 110 :=
  (h110x0s2 N).lp (A110x0x45 N) N progOk (T106x1_ok N) (fun m kn L x => (step110x0x45 N m kn L x).trans (sb110x0x45 N L x _ _)) (fun L m x => (ql110x0x45 N L m x).trans (sb110x0x45 N L x (Q110x0x45 N L m) some)) fun L x hx => alt1 x hx
noncomputable def F110x0 (v2 : Int) (v4 : LD) (v9 v10 v11 : Int) (v12 : Bool) (v14 : LD) (k0 : Unit → Option R) (k1 : Bool × LD → Option R) : Option R :=
  bif ((v4.length : Int) == 0) then
    k0 ()
  else
    bnd ([(.a [(.i v9), (.i v10), (.i v11)]), (.a [(.i 0), (.i 4), (.i 1)])] : List D) fun y0 =>
    bif (decide ((y0.length + 1) * 24 ≤ room) && decide ((y0.length + 1) ≤ strMax)) then
      bif (decide ((((y0 ++ [(.a [(.i 1), (.i 4), (.i 1)])]) : List D).length + 1) * 24 ≤ room) && decide ((((y0 ++ [(.a [(.i 1), (.i 4), (.i 1)])]) : List D).length + 1) ≤ strMax)) then
        bnd (((y0 ++ [(.a [(.i 1), (.i 4), (.i 1)])]) ++ [(.a [(.i 2), (.i 4), (.i 1)])]) : List D) fun y1 =>
        bif (decide ((y1.length + 1) * 24 ≤ room) && decide ((y1.length + 1) ≤ strMax)) then
          bif (decide ((((y1 ++ [(.a [(.i 3), (.i 2), (.i 0)])]) : List D).length + 1) * 24 ≤ room) && decide ((((y1 ++ [(.a [(.i 3), (.i 2), (.i 0)])]) : List D).length + 1) ≤ strMax)) then
            bnd (((y1 ++ [(.a [(.i 3), (.i 2), (.i 0)])]) ++ [(.a [(.i 4), (.i 2), (.i 0)])]) : List D) fun y2 =>
            bif (decide ((y2.length + 1) * 24 ≤ room) && decide ((y2.length + 1) ≤ strMax)) then
              bnd (G106x1 N 1 20 false (y2 ++ [(.a [(.i 5), (.i 2), (.i 0)])]) v12 v14) fun y3 =>
              bif y3.isSome then
                bnd (G110x0x45 N v4 (v4.length : Int) v12 v2 v4 0 false (y3.getD default)) fun y4 =>
                bif y4.isSome then
                  k1 (y4.getD default)
                else
                  none
              else
                none
            else
              none
          else
            none
        else
          none
      else
        none
    else
      none
noncomputable def G110x0 (v2 : Int) (v4 : LD) (v9 v10 v11 : Int) (v12 : Bool) (v14 : LD) : Option (Sum (Unit) (Bool × LD)) := F110x0 N v2 v4 v9 v10 v11 v12 v14 (fun p => some (.inl p)) (fun p => some (.inr p))
theorem bind110x0 (v2 : Int) (v4 : LD) (v9 v10 v11 : Int) (v12 : Bool) (v14 : LD) (k0 : Unit → Option R) (k1 : Bool × LD → Option R) : F110x0 N v2 v4 v9 v10 v11 v12 v14 k0 k1 = (G110x0 N v2 v4 v9 v10 v11 v12 v14).bind (sumE k0 k1) := by
  unfold G110x0 F110x0
  repeat' (first | with_reducible apply cond_b | (with_reducible apply bnd_b; intro _) | rfl)
noncomputable def J110x0 (L : List Lf) (k0 : Unit → Option R) (k1 : Bool × LD → Option R) : Option R := F110x0 N (li L 2) (ll L 4) (li L 9) (li L 10) (li L 11) (lb L 12) (ll L 14) k0 k1
noncomputable def sh110x0 : Sh := { tmps := [(0, .c (.p 0 0)), (1, .g (.s :: [.i .i64, .i .i64, .sl 78, .sl 82, .sl 9])), (2, .g ([.i .i64, .i .i64, .i .i64]))], mem := [(0, .box ([.o 1, .b])), (1, .row 53 true)] }
noncomputable def K110x0w1 (L : List Lf) (p : Bool × LD) : Res := ([], [(0, .box [.o 50000002, .b (lb L 12)]), (50000002, .row 53 true p.1 p.2)])
noncomputable def A110x0 (L : List Lf) : List (Bool × Res) := bnd (J110x0 N L (fun p => some (.inl p)) (fun p => some (.inr p))) fun q => [((inlB q), ([], mgA (ofSh sh110x0 L).mem [] [0, 1])), ((inrQ q).isSome, K110x0w1 L ((inrQ q).getD default))]
theorem raw110x0 (L : List Lf) : bd Try.prog (T106x1 N) (h110x0s3 N).h 110 sh110x0 L = J110x0 N L (fun _ => some ([], mgA (ofSh sh110x0 L).mem [] [0, 1])) (fun p => some (K110x0w1 L p)) := by kernel_rfl
theorem ok110x0 : FnOk Try.prog 110 sh110x0 (A110x0 N) :=
  (h110x0s3 N).fn progOk (T106x1_ok N) fun L x hx => ((raw110x0 N L).trans ((bind110x0 N ..).trans ((altS alt1) x hx)))
noncomputable def T110x0 : Oracle := ext 110 (spSh sh110x0 (A110x0 N)) (T106x1 N)
theorem T110x0_ok : OracleOk Try.prog (T110x0 N) := FnOk.to (ok110x0 N) (T106x1_ok N)
noncomputable def rg49x0 : List (Nat × List Nat) := [(0, [0, 1]), (1, [2, 4, 1]), (2, [6, 4, 2, 1]), (3, [6, 4]), (4, [2, 4, 1]), (5, [4]), (6, [1, 2, 4]), (7, [7, 2, 4]), (8, [7, 8, 2, 4]), (9, [7, 8, 9, 2, 4]), (10, [7, 2, 9, 8, 4]), (11, [2, 7, 9, 8, 4]), (12, [7, 9, 2, 8, 4]), (13, [2, 7, 8, 9, 4]), (14, [64, 63, 62, 7, 2, 8, 9, 4]), (15, [62, 64, 7, 63, 2, 8, 9, 4]), (16, [7, 11, 64, 63, 62, 2, 8, 9, 4]), (17, [64, 63, 62, 7, 2, 8, 9, 4]), (18, [2, 7, 8, 9, 4]), (19, [7, 8, 9, 2, 4]), (20, [2, 7, 8, 4]), (21, [88, 87, 86, 7, 2, 8, 4]), (22, [86, 88, 7, 2, 87, 8, 4]), (23, [7, 2, 13, 88, 87, 86, 8, 4]), (24, [88, 87, 86, 7, 2, 8, 4]), (25, [7, 2, 8, 4]), (26, [7, 4])]
noncomputable def hd49x0 : Hints := [(38, [7, 9, 2, 8, 4, 55], [8, 52000000033, 29, 4, 2], []), (42, [64, 63, 62, 7, 2, 8, 9, 4], [8, 61000000027, 29, 4, 2, 50029000], [50029000]), (59, [7, 8, 9, 2, 4, 77], [8, 50029000, 29, 4, 2], []), (63, [88, 87, 86, 7, 2, 8, 4], [8, 85000000027, 29, 4, 2, 50029000], [50029000]), (76, [7, 2, 8, 4], [8, 50029000, 29, 4, 2], [])]
noncomputable def h49x0s0 (N : Nat) : Sg Try.prog 0 49 := .start hd49x0 rg49x0
noncomputable def F49x0x38 (w0 w15 : Bool) (w17 : LD) (k0 : LD → Option R) (k1 : Unit → Option R) : Option R :=
  bif w0 then
    bnd (G106x1 N 3 30 false [(.a [(.i 1), (.i 60), (.i 2)])] w15 w17) fun y0 =>
    bif y0.isSome then
      k0 (y0.getD default)
    else
      none
  else
    k1 ()
noncomputable def G49x0x38 (w0 w15 : Bool) (w17 : LD) : Option (Sum (LD) (Unit)) := F49x0x38 N w0 w15 w17 (fun p => some (.inl p)) (fun p => some (.inr p))
theorem bind49x0x38 (w0 w15 : Bool) (w17 : LD) (k0 : LD → Option R) (k1 : Unit → Option R) : F49x0x38 N w0 w15 w17 k0 k1 = (G49x0x38 N w0 w15 w17).bind (sumE k0 k1) := by
  unfold G49x0x38 F49x0x38
  repeat' (first | with_reducible apply cond_b | (with_reducible apply bnd_b; intro _) | rfl)
noncomputable def sh49x0x38 : Sh := { tmps := [(2, .c (.p 2 0)), (4, .c (.p 4 0)), (7, .c (.p 29 0)), (8, .c (.p 8 0)), (9, .c (.f 105 [])), (55, .c (.b))], mem := [(2, .box (.s :: [.i .i64, .i .i64, .sl 78, .sl 82, .sl 9])), (4, .box ([.sl 53])), (8, .box ([.i .i64, .i .i64, .i .i64])), (29, .box ([.o 52000000033, .b])), (52000000033, .row 53 true)] }
noncomputable def K49x0x38w0 (L : List Lf) (p : LD) : Ex × St := (.normal, mg (ofSh sh49x0x38 L) [2, 4, 7, 8, 9] [] [2, 4, 8, 29, 61000000027] [(29, .box [.o 61000000027, .b (lb L 15)]), (61000000027, .row 53 true false p)])
noncomputable def K49x0x38w1 (L : List Lf) (_ : Unit) : Ex × St := (.normal, mg (ofSh sh49x0x38 L) [2, 4, 7, 8, 9] [] [2, 4, 8, 29, 52000000033] [])
noncomputable def A49x0x38 (L : List Lf) : List (Bool × (Ex × St)) := bnd (F49x0x38 N (lb L 0) (lb L 15) (ll L 17) (fun p => some (.inl p)) (fun p => some (.inr p))) fun q => [((inlB q), K49x0x38w0 L (inlV q)), ((inrQ q).isSome, K49x0x38w1 L ())]
theorem raw49x0x38 (L : List Lf) : pc Try.prog (T110x0 N) (h49x0s0 N).h 0 100 49 38 sh49x0x38 L [2, 7, 8, 9, 4] [8, 61000000027, 29, 4, 2, 52000000033] = F49x0x38 N (lb L 0) (lb L 15) (ll L 17) (fun p => some (K49x0x38w0 L p)) (fun _ => some (K49x0x38w1 L ())) := by kernel_rfl
noncomputable def h49x0s1 : Sg Try.prog 0 49 :=
  (h49x0s0 N).cut (A49x0x38 N) progOk (T110x0_ok N) fun L x hx => (raw49x0x38 N L).trans ((bind49x0x38 N ..).trans ((altS alt1) x hx))
noncomputable def S49x0x42 (w1 : LD) (w2 : Int) (w3 : Int) (w19 : Bool) (w20 : LD) (kr : Int → Bool → LD → Option R) (k0 : Bool × LD → Option R) : Option R :=
  bif (decide (w3 < w2)) then
    bif (inB w3 w1.length) then
      bnd (V109x0 N (w1.getD w3.toNat (.i 0)).toS) fun y0 =>
      bnd (G107x0 N 3 [(.l false y0)] w20) fun y1 =>
      bif y1.isSome then
        kr (IntKind.wrap .i64 (w3 + 1)) false (y1.getD default)
      else
        none
    else
      none
  else
    k0 (w19, w20)
noncomputable def L49x0x42 (N : Nat) {R : Type} (w1 : LD) (w2 : Int) : Nat → Int → Bool → LD → (Bool × LD → Option R) → Option R
  | 0, _, _, _, _ => none
  | m + 1, w3, w19, w20, k0 => S49x0x42 N w1 w2 w3 w19 w20 (fun w3 w19 w20 => L49x0x42 N w1 w2 m w3 w19 w20 k0) k0
noncomputable def G49x0x42 (w1 : LD) (w2 : Int) (w3 : Int) (w19 : Bool) (w20 : LD) : Option (Bool × LD) := L49x0x42 N (R := (Bool × LD)) w1 w2 N w3 w19 w20 (fun p => some p)
noncomputable def J49x0x42 (L x : List Lf) (kr : List Lf → Option R) (k0 : Bool × LD → Option R) : Option R := S49x0x42 N (ll L 1) (li L 2) (li x 0) (lb x 1) (ll x 2) (fun w3 w19 w20 => kr [.i w3, .b w19, .l w20]) k0
theorem sb49x0x42 (L x : List Lf) (kr : List Lf → Option R) (k0 : Bool × LD → Option R) : J49x0x42 N L x kr k0 = (J49x0x42 N L x (fun y => some (.inl y)) (fun p => some (.inr p))).bind (sumE kr k0) := by
  unfold J49x0x42 S49x0x42
  repeat' (first | with_reducible apply cond_b | (with_reducible apply bnd_b; intro _) | rfl)
noncomputable def Q49x0x42 (L : List Lf) (m : Nat) (x : List Lf) : Option (Bool × LD) := L49x0x42 N (R := (Bool × LD)) (ll L 1) (li L 2) m (li x 0) (lb x 1) (ll x 2) (fun p => some p)
noncomputable def sh49x0x42 : Sh := { tmps := [(2, .c (.p 2 0)), (4, .c (.p 4 0)), (7, .c (.p 29 0)), (8, .c (.p 8 0)), (9, .c (.f 105 [])), (62, .c (.sl 9)), (63, .c (.i .i64)), (64, .c (.i .i64))], mem := [(2, .box (.s :: [.i .i64, .i .i64, .sl 78, .sl 82, .sl 9])), (4, .box ([.sl 53])), (8, .box ([.i .i64, .i .i64, .i .i64])), (29, .box ([.o 50029000, .b])), (50029000, .row 53 true)] }
noncomputable def K49x0x42w0 (L : List Lf) (p : Bool × LD) : Ex × St := ((.exit 0), mg (ofSh sh49x0x42 L) [2, 4, 7, 8, 9] [] [2, 4, 8, 29, 50029000] [(50029000, .row 53 true p.1 p.2)])
noncomputable def A49x0x42 (L : List Lf) : List (Bool × (Ex × St)) := bnd (Q49x0x42 N L N (pk sh49x0x42 [3, 19, 20] L)) fun q => [(q.isSome, K49x0x42w0 L (q.getD default))]
theorem step49x0x42 (m : Nat) (kn : St → Option (Ex × St)) (L x : List Lf) : lpB Try.prog (T110x0 N) (h49x0s1 N).h 0 49 42 sh49x0x42 [3, 19, 20] [4, 5, 2, 7, 8, 9] [8, 50029000, 29, 4, 2] (m + 100) kn L x = J49x0x42 N L x (fun y => kn (ofSh sh49x0x42 (mx sh49x0x42 [3, 19, 20] L y))) (fun p => some (K49x0x42w0 L p)) := by kernel_rfl
theorem ql49x0x42 (L : List Lf) (m : Nat) (x : List Lf) : Q49x0x42 N L (m + 1) x = J49x0x42 N L x (Q49x0x42 N L m) some := by kernel_rfl
noncomputable def h49x0s2 : Sg Try.prog 0 49 :=
  (h49x0s1 N).lp (A49x0x42 N) N progOk (T110x0_ok N) (fun m kn L x => (step49x0x42 N m kn L x).trans (sb49x0x42 N L x _ _)) (fun L m x => (ql49x0x42 N L m x).trans (sb49x0x42 N L x (Q49x0x42 N L m) some)) fun L x hx => alt1 x hx
noncomputable def F49x0x59 (w0 : Bool) (w12 w13 w14 : Int) (w15 : Bool) (w17 : LD) (k0 : LD → Option R) (k1 : Unit → Option R) : Option R :=
  bif w0 then
    bnd (G106x1 N 2 19 false [(.a [(.i w12), (.i w13), (.i w14)]), (.a [(.i 1), (.i 4), (.i 0)]), (.a [(.i 2), (.i 60), (.i 2)])] w15 w17) fun y0 =>
    bif y0.isSome then
      k0 (y0.getD default)
    else
      none
  else
    k1 ()
noncomputable def G49x0x59 (w0 : Bool) (w12 w13 w14 : Int) (w15 : Bool) (w17 : LD) : Option (Sum (LD) (Unit)) := F49x0x59 N w0 w12 w13 w14 w15 w17 (fun p => some (.inl p)) (fun p => some (.inr p))
theorem bind49x0x59 (w0 : Bool) (w12 w13 w14 : Int) (w15 : Bool) (w17 : LD) (k0 : LD → Option R) (k1 : Unit → Option R) : F49x0x59 N w0 w12 w13 w14 w15 w17 k0 k1 = (G49x0x59 N w0 w12 w13 w14 w15 w17).bind (sumE k0 k1) := by
  unfold G49x0x59 F49x0x59
  repeat' (first | with_reducible apply cond_b | (with_reducible apply bnd_b; intro _) | rfl)
noncomputable def J49x0x59 (L : List Lf) (k0 : LD → Option R) (k1 : Unit → Option R) : Option R := F49x0x59 N (lb L 0) (li L 12) (li L 13) (li L 14) (lb L 15) (ll L 17) k0 k1
noncomputable def sh49x0x59 : Sh := { tmps := [(2, .c (.p 2 0)), (4, .c (.p 4 0)), (7, .c (.p 29 0)), (8, .c (.p 8 0)), (9, .c (.f 105 [])), (77, .c (.b))], mem := [(2, .box (.s :: [.i .i64, .i .i64, .sl 78, .sl 82, .sl 9])), (4, .box ([.sl 53])), (8, .box ([.i .i64, .i .i64, .i .i64])), (29, .box ([.o 50029000, .b])), (50029000, .row 53 true)] }
noncomputable def K49x0x59w0 (L : List Lf) (p : LD) : Ex × St := (.normal, mg (ofSh sh49x0x59 L) [2, 4, 7, 8] [] [2, 4, 8, 29, 85000000027] [(29, .box [.o 85000000027, .b (lb L 15)]), (85000000027, .row 53 true false p)])
noncomputable def K49x0x59w1 (L : List Lf) (_ : Unit) : Ex × St := (.normal, mg (ofSh sh49x0x59 L) [2, 4, 7, 8] [] [2, 4, 8, 29, 50029000] [])
noncomputable def A49x0x59 (L : List Lf) : List (Bool × (Ex × St)) := bnd (J49x0x59 N L (fun p => some (.inl p)) (fun p => some (.inr p))) fun q => [((inlB q), K49x0x59w0 L (inlV q)), ((inrQ q).isSome, K49x0x59w1 L ())]
theorem raw49x0x59 (L : List Lf) : pc Try.prog (T110x0 N) (h49x0s2 N).h 0 100 49 59 sh49x0x59 L [2, 7, 8, 4] [8, 85000000027, 29, 4, 2, 50029000] = J49x0x59 N L (fun p => some (K49x0x59w0 L p)) (fun _ => some (K49x0x59w1 L ())) := by kernel_rfl
noncomputable def h49x0s3 : Sg Try.prog 0 49 :=
  (h49x0s2 N).cut (A49x0x59 N) progOk (T110x0_ok N) fun L x hx => (raw49x0x59 N L).trans ((bind49x0x59 N ..).trans ((altS alt1) x hx))
noncomputable def S49x0x63 (w1 : LD) (w2 w6 : Int) (w18 : Bool) (w3 : Int) (w19 : Bool) (w20 : LD) (kr : Int → Bool → LD → Option R) (k0 : Bool × LD → Option R) : Option R :=
  bif (decide (w3 < w2)) then
    bif (inB w3 w1.length) then
      bnd (IntKind.wrap .i64 (w6 + ((w1.getD w3.toNat (.i 0)).cell 0).toI)) fun y0 =>
      bnd (G108x0 N y0 4 false w18) fun y1 =>
      bif y1.isSome then
        bnd (IntKind.wrap .i64 (w6 + ((w1.getD w3.toNat (.i 0)).cell 1).toI)) fun y2 =>
        bnd (G108x0 N y2 4 false w18) fun y3 =>
        bif y3.isSome then
          bnd (V109x0 N ((w1.getD w3.toNat (.i 0)).cell 2).toS) fun y4 =>
          bnd (G107x0 N 2 [(.l false (y1.getD default)), (.l false (y3.getD default)), (.l false y4)] w20) fun y5 =>
          bif y5.isSome then
            kr (IntKind.wrap .i64 (w3 + 1)) false (y5.getD default)
          else
            none
        else
          none
      else
        none
    else
      none
  else
    k0 (w19, w20)
noncomputable def L49x0x63 (N : Nat) {R : Type} (w1 : LD) (w2 w6 : Int) (w18 : Bool) : Nat → Int → Bool → LD → (Bool × LD → Option R) → Option R
  | 0, _, _, _, _ => none
  | m + 1, w3, w19, w20, k0 => S49x0x63 N w1 w2 w6 w18 w3 w19 w20 (fun w3 w19 w20 => L49x0x63 N w1 w2 w6 w18 m w3 w19 w20 k0) k0
noncomputable def G49x0x63 (w1 : LD) (w2 w6 : Int) (w18 : Bool) (w3 : Int) (w19 : Bool) (w20 : LD) : Option (Bool × LD) := L49x0x63 N (R := (Bool × LD)) w1 w2 w6 w18 N w3 w19 w20 (fun p => some p)
noncomputable def J49x0x63 (L x : List Lf) (kr : List Lf → Option R) (k0 : Bool × LD → Option R) : Option R := S49x0x63 N (ll L 1) (li L 2) (li L 6) (lb L 18) (li x 0) (lb x 1) (ll x 2) (fun w3 w19 w20 => kr [.i w3, .b w19, .l w20]) k0
theorem sb49x0x63 (L x : List Lf) (kr : List Lf → Option R) (k0 : Bool × LD → Option R) : J49x0x63 N L x kr k0 = (J49x0x63 N L x (fun y => some (.inl y)) (fun p => some (.inr p))).bind (sumE kr k0) := by
  unfold J49x0x63 S49x0x63
  repeat' (first | with_reducible apply cond_b | (with_reducible apply bnd_b; intro _) | rfl)
noncomputable def Q49x0x63 (L : List Lf) (m : Nat) (x : List Lf) : Option (Bool × LD) := L49x0x63 N (R := (Bool × LD)) (ll L 1) (li L 2) (li L 6) (lb L 18) m (li x 0) (lb x 1) (ll x 2) (fun p => some p)
noncomputable def sh49x0x63 : Sh := { tmps := [(2, .c (.p 2 0)), (4, .c (.p 4 0)), (7, .c (.p 29 0)), (8, .c (.p 8 0)), (86, .c (.sl 82)), (87, .c (.i .i64)), (88, .c (.i .i64))], mem := [(2, .box (.s :: [.i .i64, .i .i64, .sl 78, .sl 82, .sl 9])), (4, .box ([.sl 53])), (8, .box ([.i .i64, .i .i64, .i .i64])), (29, .box ([.o 50029000, .b])), (50029000, .row 53 true)] }
noncomputable def K49x0x63w0 (L : List Lf) (p : Bool × LD) : Ex × St := ((.exit 2), mg (ofSh sh49x0x63 L) [2, 4, 7, 8] [] [2, 4, 8, 29, 50029000] [(50029000, .row 53 true p.1 p.2)])
noncomputable def A49x0x63 (L : List Lf) : List (Bool × (Ex × St)) := bnd (Q49x0x63 N L N (pk sh49x0x63 [3, 19, 20] L)) fun q => [(q.isSome, K49x0x63w0 L (q.getD default))]
theorem step49x0x63 (m : Nat) (kn : St → Option (Ex × St)) (L x : List Lf) : lpB Try.prog (T110x0 N) (h49x0s3 N).h 0 49 63 sh49x0x63 [3, 19, 20] [4, 5, 7, 2, 8] [8, 50029000, 29, 4, 2] (m + 100) kn L x = J49x0x63 N L x (fun y => kn (ofSh sh49x0x63 (mx sh49x0x63 [3, 19, 20] L y))) (fun p => some (K49x0x63w0 L p)) := by kernel_rfl
theorem ql49x0x63 (L : List Lf) (m : Nat) (x : List Lf) : Q49x0x63 N L (m + 1) x = J49x0x63 N L x (Q49x0x63 N L m) some := by kernel_rfl
noncomputable def h49x0s4 : Sg Try.prog 0 49 :=
  (h49x0s3 N).lp (A49x0x63 N) N progOk (T110x0_ok N) (fun m kn L x => (step49x0x63 N m kn L x).trans (sb49x0x63 N L x _ _)) (fun L m x => (ql49x0x63 N L m x).trans (sb49x0x63 N L x (Q49x0x63 N L m) some)) fun L x hx => alt1 x hx
noncomputable def F49x0x76 (w2 : Int) (w4 : LD) (w11 w12 w13 : Int) (w14 : Bool) (w16 : LD) (k0 : Unit → Option R) (k1 : Bool × LD → Option R) : Option R :=
  bnd (G110x0 N w2 w4 w11 w12 w13 w14 w16) fun y0 =>
  bif (inlB y0) then
    k0 ()
  else
    bif (inrQ y0).isSome then
      k1 ((inrQ y0).getD default)
    else
      none
noncomputable def G49x0x76 (w2 : Int) (w4 : LD) (w11 w12 w13 : Int) (w14 : Bool) (w16 : LD) : Option (Sum (Unit) (Bool × LD)) := F49x0x76 N w2 w4 w11 w12 w13 w14 w16 (fun p => some (.inl p)) (fun p => some (.inr p))
theorem bind49x0x76 (w2 : Int) (w4 : LD) (w11 w12 w13 : Int) (w14 : Bool) (w16 : LD) (k0 : Unit → Option R) (k1 : Bool × LD → Option R) : F49x0x76 N w2 w4 w11 w12 w13 w14 w16 k0 k1 = (G49x0x76 N w2 w4 w11 w12 w13 w14 w16).bind (sumE k0 k1) := by
  unfold G49x0x76 F49x0x76
  repeat' (first | with_reducible apply cond_b | (with_reducible apply bnd_b; intro _) | rfl)
noncomputable def J49x0x76 (L : List Lf) (k0 : Unit → Option R) (k1 : Bool × LD → Option R) : Option R := F49x0x76 N (li L 2) (ll L 4) (li L 11) (li L 12) (li L 13) (lb L 14) (ll L 16) k0 k1
noncomputable def sh49x0x76 : Sh := { tmps := [(2, .c (.p 2 0)), (4, .c (.p 4 0)), (7, .c (.p 29 0)), (8, .c (.p 8 0))], mem := [(2, .box (.s :: [.i .i64, .i .i64, .sl 78, .sl 82, .sl 9])), (4, .box ([.sl 53])), (8, .box ([.i .i64, .i .i64, .i .i64])), (29, .box ([.o 50029000, .b])), (50029000, .row 53 true)] }
noncomputable def K49x0x76w0 (L : List Lf) (_ : Unit) : Ex × St := (.normal, mg (ofSh sh49x0x76 L) [4, 7] [] [4, 29, 50029000] [])
noncomputable def K49x0x76w1 (L : List Lf) (p : Bool × LD) : Ex × St := (.normal, mg (ofSh sh49x0x76 L) [4, 7] [] [4, 29, 117050000002] [(29, .box [.o 117050000002, .b (lb L 14)]), (117050000002, .row 53 true p.1 p.2)])
noncomputable def A49x0x76 (L : List Lf) : List (Bool × (Ex × St)) := bnd (J49x0x76 N L (fun p => some (.inl p)) (fun p => some (.inr p))) fun q => [((inlB q), K49x0x76w0 L ()), ((inrQ q).isSome, K49x0x76w1 L ((inrQ q).getD default))]
theorem raw49x0x76 (L : List Lf) : pc Try.prog (T110x0 N) (h49x0s4 N).h 0 100 49 76 sh49x0x76 L [7, 4] [50029000, 29, 4, 117050000002] = J49x0x76 N L (fun _ => some (K49x0x76w0 L ())) (fun p => some (K49x0x76w1 L p)) := by kernel_rfl
noncomputable def h49x0s5 : Sg Try.prog 0 49 :=
  (h49x0s4 N).cut (A49x0x76 N) progOk (T110x0_ok N) fun L x hx => (raw49x0x76 N L).trans ((bind49x0x76 N ..).trans ((altS alt1) x hx))
noncomputable def F49x0 (v0 : LB) (v1 v2 : Int) (v4 v6 v8 : LD) (v9 : Bool) (k0 : Bool × LD × Int → Option R) : Option R :=
  bnd (G13x0 N v0 v1 v2 v4 v6 v8) fun y0 =>
  bif y0.isSome then
    bif ((y0.getD default) != 0) then
      k0 (true, [], (y0.getD default))
    else
      bnd (G54x0 N v4) fun y1 =>
      bif y1.isSome then
        bnd (decide ((IntKind.wrap .i64 (v2 + (y1.getD default))) > 4294967294)) fun y2 =>
        bif y2 then
          k0 (true, [], 9)
        else
          bnd (V106x0 N 0 0 false [(.a [(.i 253), (.i 4), (.i 0)]), (.a [(.i 1), (.i 60), (.i 2)]), (.a [(.i 2), (.i 1), (.i 0)])] v9) fun y3 =>
          bnd (G108x0 N v2 4 false v9) fun y4 =>
          bif y4.isSome then
            bnd (V109x0 N v0) fun y5 =>
            bnd (G108x0 N v1 1 false v9) fun y6 =>
            bif y6.isSome then
              bnd (G107x0 N 0 [(.l false (y4.getD default)), (.l false y5), (.l false (y6.getD default))] y3) fun y7 =>
              bif y7.isSome then
                bnd (G49x0x38 N (decide ((v8.length : Int) > 0)) v9 (y7.getD default)) fun y8 =>
                bif (inlB y8) then
                  bnd (G49x0x42 N v8 (v8.length : Int) 0 false (inlV y8)) fun y9 =>
                  bif y9.isSome then
                    bnd (G49x0x59 N (decide ((v6.length : Int) > 0)) 253 4 0 v9 (y9.getD default).2) fun y10 =>
                    bif (inlB y10) then
                      bnd (G49x0x63 N v6 (v6.length : Int) v2 v9 0 false (inlV y10)) fun y11 =>
                      bif y11.isSome then
                        bnd (G49x0x76 N v2 v4 253 4 0 v9 (y11.getD default).2) fun y12 =>
                        bif (inlB y12) then
                          k0 ((y11.getD default).1, (y11.getD default).2, 0)
                        else
                          bif (inrQ y12).isSome then
                            k0 (((inrQ y12).getD default).1, ((inrQ y12).getD default).2, 0)
                          else
                            none
                      else
                        none
                    else
                      bif (inrQ y10).isSome then
                        bnd (G49x0x63 N v6 (v6.length : Int) v2 v9 0 (y9.getD default).1 (y9.getD default).2) fun y13 =>
                        bif y13.isSome then
                          bnd (G49x0x76 N v2 v4 253 4 0 v9 (y13.getD default).2) fun y14 =>
                          bif (inlB y14) then
                            k0 ((y13.getD default).1, (y13.getD default).2, 0)
                          else
                            bif (inrQ y14).isSome then
                              k0 (((inrQ y14).getD default).1, ((inrQ y14).getD default).2, 0)
                            else
                              none
                        else
                          none
                      else
                        none
                  else
                    none
                else
                  bif (inrQ y8).isSome then
                    bnd (G49x0x42 N v8 (v8.length : Int) 0 false (y7.getD default)) fun y15 =>
                    bif y15.isSome then
                      bnd (G49x0x59 N (decide ((v6.length : Int) > 0)) 253 4 0 v9 (y15.getD default).2) fun y16 =>
                      bif (inlB y16) then
                        bnd (G49x0x63 N v6 (v6.length : Int) v2 v9 0 false (inlV y16)) fun y17 =>
                        bif y17.isSome then
                          bnd (G49x0x76 N v2 v4 253 4 0 v9 (y17.getD default).2) fun y18 =>
                          bif (inlB y18) then
                            k0 ((y17.getD default).1, (y17.getD default).2, 0)
                          else
                            bif (inrQ y18).isSome then
                              k0 (((inrQ y18).getD default).1, ((inrQ y18).getD default).2, 0)
                            else
                              none
                        else
                          none
                      else
                        bif (inrQ y16).isSome then
                          bnd (G49x0x63 N v6 (v6.length : Int) v2 v9 0 (y15.getD default).1 (y15.getD default).2) fun y19 =>
                          bif y19.isSome then
                            bnd (G49x0x76 N v2 v4 253 4 0 v9 (y19.getD default).2) fun y20 =>
                            bif (inlB y20) then
                              k0 ((y19.getD default).1, (y19.getD default).2, 0)
                            else
                              bif (inrQ y20).isSome then
                                k0 (((inrQ y20).getD default).1, ((inrQ y20).getD default).2, 0)
                              else
                                none
                          else
                            none
                        else
                          none
                    else
                      none
                  else
                    none
              else
                none
            else
              none
          else
            none
      else
        none
  else
    none
noncomputable def G49x0 (v0 : LB) (v1 v2 : Int) (v4 v6 v8 : LD) (v9 : Bool) : Option (Bool × LD × Int) := F49x0 N v0 v1 v2 v4 v6 v8 v9 (fun p => some p)
theorem bind49x0 (v0 : LB) (v1 v2 : Int) (v4 v6 v8 : LD) (v9 : Bool) (k0 : Bool × LD × Int → Option R) : F49x0 N v0 v1 v2 v4 v6 v8 v9 k0 = (G49x0 N v0 v1 v2 v4 v6 v8 v9).bind k0 := by
  unfold G49x0 F49x0
  repeat' (first | with_reducible apply cond_b | (with_reducible apply bnd_b; intro _) | rfl)
noncomputable def J49x0 (L : List Lf) (k0 : Bool × LD × Int → Option R) : Option R := F49x0 N (ls L 0) (li L 1) (li L 2) (ll L 4) (ll L 6) (ll L 8) (lb L 9) k0
noncomputable def sh49x0 : Sh := { tmps := [(0, .g (.s :: [.i .i64, .i .i64, .sl 78, .sl 82, .sl 9])), (1, .c (.b))], mem := [] }
noncomputable def A49x0 (L : List Lf) : List (Bool × Res) := bnd (J49x0 N L (fun p => some p)) fun q => [(q.isSome, ([.g [.sl 53 (q.getD default).1 (q.getD default).2.1], .c (.i .i64 (q.getD default).2.2)], []))]
theorem raw49x0 (L : List Lf) : bd Try.prog (T110x0 N) (h49x0s5 N).h 49 sh49x0 L = J49x0 N L (fun p => some ([.g [.sl 53 p.1 p.2.1], .c (.i .i64 p.2.2)], [])) := by kernel_rfl
theorem ok49x0 : FnOk Try.prog 49 sh49x0 (A49x0 N) :=
  (h49x0s5 N).fn progOk (T110x0_ok N) fun L x hx => ((raw49x0 N L).trans ((bind49x0 N ..).trans (alt1 x hx)))
noncomputable def T49x0 : Oracle := ext 49 (spSh sh49x0 (A49x0 N)) (T110x0 N)
theorem T49x0_ok : OracleOk Try.prog (T49x0 N) := FnOk.to (ok49x0 N) (T110x0_ok N)
noncomputable def rg63x0 : List (Nat × List Nat) := [(0, [0]), (1, [1]), (2, [1, 3]), (3, [1, 3, 4]), (4, [11, 10, 9, 3, 4]), (5, [9, 11, 3, 4, 10]), (6, [3, 4, 6, 11, 10, 9]), (7, [11, 10, 9, 3, 4]), (8, [3])]
noncomputable def hd63x0 : Hints := [(12, [11, 10, 9, 3, 4], [8000000002, 3], [3])]
noncomputable def h63x0s0 (N : Nat) : Sg Try.prog 0 63 := .start hd63x0 rg63x0
noncomputable def S63x0x12 (w1 : LD) (w2 : Int) (w3 : Int) (w4 : Bool) (w5 : LD) (w6 : D) (kr : Int → Bool → LD → D → Option R) (k0 : Bool × LD → Option R) : Option R :=
  bif (decide (w3 < w2)) then
    bif (inB w3 w1.length) then
      bnd (G72x0 N ((w1.getD w3.toNat (.i 0)).cell 0).toI ((w1.getD w3.toNat (.i 0)).cell 1).toI ((w1.getD w3.toNat (.i 0)).cell 2).toI ((w1.getD w3.toNat (.i 0)).cell 3).items ((w1.getD w3.toNat (.i 0)).cell 4).items w6) fun y0 =>
      bif y0.isSome then
        bif (decide ((w5.length + 1) * 8 ≤ room) && decide ((w5.length + 1) ≤ strMax)) then
          kr (IntKind.wrap .i64 (w3 + 1)) false (w5 ++ [(.i (y0.getD default).1)]) (y0.getD default).2
        else
          none
      else
        none
    else
      none
  else
    k0 (w4, w5)
noncomputable def L63x0x12 (N : Nat) {R : Type} (w1 : LD) (w2 : Int) : Nat → Int → Bool → LD → D → (Bool × LD → Option R) → Option R
  | 0, _, _, _, _, _ => none
  | m + 1, w3, w4, w5, w6, k0 => S63x0x12 N w1 w2 w3 w4 w5 w6 (fun w3 w4 w5 w6 => L63x0x12 N w1 w2 m w3 w4 w5 w6 k0) k0
noncomputable def G63x0x12 (w1 : LD) (w2 : Int) (w3 : Int) (w4 : Bool) (w5 : LD) (w6 : D) : Option (Bool × LD) := L63x0x12 N (R := (Bool × LD)) w1 w2 N w3 w4 w5 w6 (fun p => some p)
noncomputable def J63x0x12 (L x : List Lf) (kr : List Lf → Option R) (k0 : Bool × LD → Option R) : Option R := S63x0x12 N (ll L 1) (li L 2) (li x 0) (lb x 1) (ll x 2) (ld x 3) (fun w3 w4 w5 w6 => kr [.i w3, .b w4, .l w5, .d w6]) k0
theorem sb63x0x12 (L x : List Lf) (kr : List Lf → Option R) (k0 : Bool × LD → Option R) : J63x0x12 N L x kr k0 = (J63x0x12 N L x (fun y => some (.inl y)) (fun p => some (.inr p))).bind (sumE kr k0) := by
  unfold J63x0x12 S63x0x12
  repeat' (first | with_reducible apply cond_b | (with_reducible apply bnd_b; intro _) | rfl)
noncomputable def Q63x0x12 (L : List Lf) (m : Nat) (x : List Lf) : Option (Bool × LD) := L63x0x12 N (R := (Bool × LD)) (ll L 1) (li L 2) m (li x 0) (lb x 1) (ll x 2) (ld x 3) (fun p => some p)
noncomputable def sh63x0x12 : Sh := { tmps := [(3, .c (.o 3)), (4, .c (.p 8000000002 0)), (9, .c (.sl 53)), (10, .c (.i .i64)), (11, .c (.i .i64))], mem := [(3, .row 3 true), (8000000002, .dat 116)] }
noncomputable def A63x0x12 (L : List Lf) : List (Bool × (Ex × St)) := bnd (Q63x0x12 N L N (pk sh63x0x12 [3, 4, 5, 6] L)) fun q => [(q.isSome, ((.exit 0), ⟨[(3, .c (.o 3))], [(3, .row 3 true (q.getD default).1 (q.getD default).2)]⟩))]
theorem step63x0x12 (m : Nat) (kn : St → Option (Ex × St)) (L x : List Lf) : lpB Try.prog (T49x0 N) (h63x0s0 N).h 0 63 12 sh63x0x12 [3, 4, 5, 6] [2, 3] [3] (m + 100) kn L x = J63x0x12 N L x (fun y => kn (ofSh sh63x0x12 (mx sh63x0x12 [3, 4, 5, 6] L y))) (fun p => some ((.exit 0), ⟨[(3, .c (.o 3))], [(3, .row 3 true p.1 p.2)]⟩)) := by kernel_rfl
theorem ql63x0x12 (L : List Lf) (m : Nat) (x : List Lf) : Q63x0x12 N L (m + 1) x = J63x0x12 N L x (Q63x0x12 N L m) some := by kernel_rfl
noncomputable def h63x0s1 : Sg Try.prog 0 63 :=
  (h63x0s0 N).lp (A63x0x12 N) N progOk (T49x0_ok N) (fun m kn L x => (step63x0x12 N m kn L x).trans (sb63x0x12 N L x _ _)) (fun L m x => (ql63x0x12 N L m x).trans (sb63x0x12 N L x (Q63x0x12 N L m) some)) fun L x hx => alt1 x hx
noncomputable def F63x0 (v1 : LD) (k0 : Bool × LD → Option R) : Option R :=
  bnd (V70x0 N) fun y0 =>
  bnd (G63x0x12 N v1 (v1.length : Int) 0 true [] y0) fun y1 =>
  bif y1.isSome then
    k0 (y1.getD default)
  else
    none
noncomputable def G63x0 (v1 : LD) : Option (Bool × LD) := F63x0 N v1 (fun p => some p)
theorem bind63x0 (v1 : LD) (k0 : Bool × LD → Option R) : F63x0 N v1 k0 = (G63x0 N v1).bind k0 := by
  unfold G63x0 F63x0
  repeat' (first | with_reducible apply cond_b | (with_reducible apply bnd_b; intro _) | rfl)
noncomputable def sh63x0 : Sh := { tmps := [(0, .g ([.sl 53]))], mem := [] }
noncomputable def A63x0 (L : List Lf) : List (Bool × Res) := bnd (F63x0 N (ll L 1) (fun p => some p)) fun q => [(q.isSome, ([.c (.sl 3 (q.getD default).1 (q.getD default).2)], []))]
theorem raw63x0 (L : List Lf) : bd Try.prog (T49x0 N) (h63x0s1 N).h 63 sh63x0 L = F63x0 N (ll L 1) (fun p => some ([.c (.sl 3 p.1 p.2)], [])) := by kernel_rfl
theorem ok63x0 : FnOk Try.prog 63 sh63x0 (A63x0 N) :=
  (h63x0s1 N).fn progOk (T49x0_ok N) fun L x hx => ((raw63x0 N L).trans ((bind63x0 N ..).trans (alt1 x hx)))
noncomputable def T63x0 : Oracle := ext 63 (spSh sh63x0 (A63x0 N)) (T49x0 N)
theorem T63x0_ok : OracleOk Try.prog (T63x0 N) := FnOk.to (ok63x0 N) (T49x0_ok N)
noncomputable def rg18x0 : List (Nat × List Nat) := [(0, [0]), (1, [1]), (2, [4, 1]), (3, [4]), (4, [1])]
noncomputable def hd18x0 : Hints := []
noncomputable def h18x0s0 (N : Nat) : Sg Try.prog 0 18 := .start hd18x0 rg18x0
noncomputable def F18x0 (v1 : LD) (k0 : Bool × LD × Int → Option R) : Option R :=
  bnd (G22x0 N v1) fun y0 =>
  bif y0.isSome then
    bif ((y0.getD default) != 0) then
      k0 (true, [], (y0.getD default))
    else
      bnd (G63x0 N v1) fun y1 =>
      bif y1.isSome then
        k0 ((y1.getD default).1, (y1.getD default).2, 0)
      else
        none
  else
    none
noncomputable def G18x0 (v1 : LD) : Option (Bool × LD × Int) := F18x0 N v1 (fun p => some p)
theorem bind18x0 (v1 : LD) (k0 : Bool × LD × Int → Option R) : F18x0 N v1 k0 = (G18x0 N v1).bind k0 := by
  unfold G18x0 F18x0
  repeat' (first | with_reducible apply cond_b | (with_reducible apply bnd_b; intro _) | rfl)
noncomputable def sh18x0 : Sh := { tmps := [(0, .g ([.sl 53]))], mem := [] }
noncomputable def A18x0 (L : List Lf) : List (Bool × Res) := bnd (F18x0 N (ll L 1) (fun p => some p)) fun q => [(q.isSome, ([.c (.sl 3 (q.getD default).1 (q.getD default).2.1), .c (.i .i64 (q.getD default).2.2)], []))]
theorem raw18x0 (L : List Lf) : bd Try.prog (T63x0 N) (h18x0s0 N).h 18 sh18x0 L = F18x0 N (ll L 1) (fun p => some ([.c (.sl 3 p.1 p.2.1), .c (.i .i64 p.2.2)], [])) := by kernel_rfl
theorem ok18x0 : FnOk Try.prog 18 sh18x0 (A18x0 N) :=
  (h18x0s0 N).fn progOk (T63x0_ok N) fun L x hx => ((raw18x0 N L).trans ((bind18x0 N ..).trans (alt1 x hx)))
noncomputable def T18x0 : Oracle := ext 18 (spSh sh18x0 (A18x0 N)) (T63x0 N)
theorem T18x0_ok : OracleOk Try.prog (T18x0 N) := FnOk.to (ok18x0 N) (T63x0_ok N)
noncomputable def rg24x0 : List (Nat × List Nat) := [(0, [0, 1]), (1, [0, 1]), (2, []), (3, [0, 1]), (4, [13, 12, 0, 1]), (5, [13, 0, 1, 12]), (6, [0, 5, 1, 13, 12]), (7, []), (8, [13, 12, 0, 1]), (9, [])]
noncomputable def hd24x0 : Hints := [(12, [13, 12, 0, 1], [], [])]
noncomputable def h24x0s0 (N : Nat) : Sg Try.prog 0 24 := .start hd24x0 rg24x0
noncomputable def S24x0x12 (N : Nat) (w1 w3 : LD) (w4 : Int) (w5 : Int) (kr : Int → Option R) (k0 : Unit → Option R) (k1 : Unit → Option R) : Option R :=
  bif (decide (w5 < w4)) then
    bif (inB w5 w1.length) then
      bif (inB w5 w3.length) then
        bnd ((w1.getD w5.toNat (.i 0)).toI != (w3.getD w5.toNat (.i 0)).toI) fun y0 =>
        bif y0 then
          k0 ()
        else
          kr (IntKind.wrap .i64 (w5 + 1))
      else
        none
    else
      none
  else
    k1 ()
noncomputable def L24x0x12 (N : Nat) {R : Type} (w1 w3 : LD) (w4 : Int) : Nat → Int → (Unit → Option R) → (Unit → Option R) → Option R
  | 0, _, _, _ => none
  | m + 1, w5, k0, k1 => S24x0x12 N w1 w3 w4 w5 (fun w5 => L24x0x12 N w1 w3 w4 m w5 k0 k1) k0 k1
noncomputable def G24x0x12 (w1 w3 : LD) (w4 : Int) (w5 : Int) : Option (Sum (Unit) (Unit)) := L24x0x12 N (R := (Sum (Unit) (Unit))) w1 w3 w4 N w5 (fun p => some (.inl p)) (fun p => some (.inr p))
noncomputable def J24x0x12 (L x : List Lf) (kr : List Lf → Option R) (k0 : Unit → Option R) (k1 : Unit → Option R) : Option R := S24x0x12 N (ll L 1) (ll L 3) (li L 4) (li x 0) (fun w5 => kr [.i w5]) k0 k1
theorem sb24x0x12 (L x : List Lf) (kr : List Lf → Option R) (k0 : Unit → Option R) (k1 : Unit → Option R) : J24x0x12 N L x kr k0 k1 = (J24x0x12 N L x (fun y => some (.inl y)) (fun p => some (.inr (.inl p))) (fun p => some (.inr (.inr p)))).bind (sumE kr (sumE k0 k1)) := by
  unfold J24x0x12 S24x0x12
  repeat' (first | with_reducible apply cond_b | (with_reducible apply bnd_b; intro _) | rfl)
noncomputable def Q24x0x12 (L : List Lf) (m : Nat) (x : List Lf) : Option (Sum (Unit) (Unit)) := L24x0x12 N (R := (Sum (Unit) (Unit))) (ll L 1) (ll L 3) (li L 4) m (li x 0) (fun p => some (.inl p)) (fun p => some (.inr p))
noncomputable def sh24x0x12 : Sh := { tmps := [(0, .c (.sl 3)), (1, .c (.sl 3)), (12, .c (.i .i64)), (13, .c (.i .i64))], mem := [] }
noncomputable def A24x0x12 (L : List Lf) : List (Bool × (Ex × St)) := bnd (Q24x0x12 N L N (pk sh24x0x12 [5] L)) fun q => [((inlB q), (.ret, ⟨[(4, .c (.b false))], []⟩)), ((inrQ q).isSome, ((.exit 0), ⟨[], []⟩))]
theorem step24x0x12 (m : Nat) (kn : St → Option (Ex × St)) (L x : List Lf) : lpB Try.prog (T18x0 N) (h24x0s0 N).h 0 24 12 sh24x0x12 [5] [4] [] (m + 100) kn L x = J24x0x12 N L x (fun y => kn (ofSh sh24x0x12 (mx sh24x0x12 [5] L y))) (fun _ => some (.ret, ⟨[(4, .c (.b false))], []⟩)) (fun _ => some ((.exit 0), ⟨[], []⟩)) := by kernel_rfl
theorem ql24x0x12 (L : List Lf) (m : Nat) (x : List Lf) : Q24x0x12 N L (m + 1) x = J24x0x12 N L x (Q24x0x12 N L m) (fun p => some (.inl p)) (fun p => some (.inr p)) := by kernel_rfl
noncomputable def h24x0s1 : Sg Try.prog 0 24 :=
  (h24x0s0 N).lp (A24x0x12 N) N progOk (T18x0_ok N) (fun m kn L x => (step24x0x12 N m kn L x).trans (sb24x0x12 N L x _ _ _)) (fun L m x => (ql24x0x12 N L m x).trans (sb24x0x12 N L x (Q24x0x12 N L m) (fun p => some (.inl p)) (fun p => some (.inr p)))) fun L x hx => (altS alt1) x hx
noncomputable def F24x0 (v1 v3 : LD) (k0 : Bool → Option R) : Option R :=
  bif ((v1.length : Int) != (v3.length : Int)) then
    k0 false
  else
    bnd (G24x0x12 N v1 v3 (v1.length : Int) 0) fun y0 =>
    bif (inlB y0) then
      k0 false
    else
      bif (inrQ y0).isSome then
        k0 true
      else
        none
noncomputable def G24x0 (v1 v3 : LD) : Option (Bool) := F24x0 N v1 v3 (fun p => some p)
theorem bind24x0 (v1 v3 : LD) (k0 : Bool → Option R) : F24x0 N v1 v3 k0 = (G24x0 N v1 v3).bind k0 := by
  unfold G24x0 F24x0
  repeat' (first | with_reducible apply cond_b | (with_reducible apply bnd_b; intro _) | rfl)
noncomputable def sh24x0 : Sh := { tmps := [(0, .c (.sl 3)), (1, .c (.sl 3))], mem := [] }
noncomputable def A24x0 (L : List Lf) : List (Bool × Res) := bnd (F24x0 N (ll L 1) (ll L 3) (fun p => some p)) fun q => [(q.isSome, ([.c (.b (q.getD default))], []))]
theorem raw24x0 (L : List Lf) : bd Try.prog (T18x0 N) (h24x0s1 N).h 24 sh24x0 L = F24x0 N (ll L 1) (ll L 3) (fun p => some ([.c (.b p)], [])) := by kernel_rfl
theorem ok24x0 : FnOk Try.prog 24 sh24x0 (A24x0 N) :=
  (h24x0s1 N).fn progOk (T18x0_ok N) fun L x hx => ((raw24x0 N L).trans ((bind24x0 N ..).trans (alt1 x hx)))
noncomputable def T24x0 : Oracle := ext 24 (spSh sh24x0 (A24x0 N)) (T18x0 N)
theorem T24x0_ok : OracleOk Try.prog (T24x0 N) := FnOk.to (ok24x0 N) (T18x0_ok N)
noncomputable def rg17x0 : List (Nat × List Nat) := [(0, []), (1, []), (2, [1]), (3, [2, 3]), (4, [3, 5, 4])]
noncomputable def hd17x0 : Hints := [(13, [3, 5, 4], [], [])]
noncomputable def h17x0s0 (N : Nat) : Sg Try.prog 0 17 := .start hd17x0 rg17x0
noncomputable def F17x0x13 (w0 : Int) (w2 : LD) (w3 : Int) (k0 : Bool → Option R) : Option R :=
  bif (bif (w0 == 0) then (w3 == 0) else false) then
    bnd (G24x0 N w2 [(.i (-1)), (.i 100), (.i (-1)), (.i 100), (.i 105)]) fun y0 =>
    bif y0.isSome then
      k0 (y0.getD default)
    else
      none
  else
    k0 false
noncomputable def G17x0x13 (w0 : Int) (w2 : LD) (w3 : Int) : Option (Bool) := F17x0x13 N w0 w2 w3 (fun p => some p)
theorem bind17x0x13 (w0 : Int) (w2 : LD) (w3 : Int) (k0 : Bool → Option R) : F17x0x13 N w0 w2 w3 k0 = (G17x0x13 N w0 w2 w3).bind k0 := by
  unfold G17x0x13 F17x0x13
  repeat' (first | with_reducible apply cond_b | (with_reducible apply bnd_b; intro _) | rfl)
noncomputable def sh17x0x13 : Sh := { tmps := [(3, .c (.i .i64)), (4, .c (.sl 3)), (5, .c (.i .i64))], mem := [] }
noncomputable def A17x0x13 (L : List Lf) : List (Bool × (Ex × St)) := bnd (F17x0x13 N (li L 0) (ll L 2) (li L 3) (fun p => some p)) fun q => [(q.isSome, (.normal, ⟨[(0, .c (.b (q.getD default)))], []⟩))]
theorem raw17x0x13 (L : List Lf) : pc Try.prog (T24x0 N) (h17x0s0 N).h 0 100 17 13 sh17x0x13 L [0] [] = F17x0x13 N (li L 0) (ll L 2) (li L 3) (fun p => some (.normal, ⟨[(0, .c (.b p))], []⟩)) := by kernel_rfl
noncomputable def h17x0s1 : Sg Try.prog 0 17 :=
  (h17x0s0 N).cut (A17x0x13 N) progOk (T24x0_ok N) fun L x hx => (raw17x0x13 N L).trans ((bind17x0x13 N ..).trans (alt1 x hx))
noncomputable def F17x0 (k0 : Bool → Option R) : Option R :=
  bnd (G49x0 N ([109] : List UInt8) 1 100 [(.a [(.i 0), (.i 0), (.i 0), (.i 0), (.i (-1)), (.i (-1)), (.i (-1))]), (.a [(.i 5), (.i 4), (.i 0), (.i 0), (.i 120), (.i (-1)), (.i (-1))])] [] [] false) fun y0 =>
  bif y0.isSome then
    bnd (G18x0 N (y0.getD default).2.1) fun y1 =>
    bif y1.isSome then
      bnd (G17x0x13 N (y0.getD default).2.2 (y1.getD default).2.1 (y1.getD default).2.2) fun y2 =>
      bif y2.isSome then
        k0 (y2.getD default)
      else
        none
    else
      none
  else
    none
noncomputable def G17x0 : Option (Bool) := F17x0 N (fun p => some p)
theorem bind17x0 (k0 : Bool → Option R) : F17x0 N k0 = (G17x0 N).bind k0 := by
  unfold G17x0 F17x0
  repeat' (first | with_reducible apply cond_b | (with_reducible apply bnd_b; intro _) | rfl)
noncomputable def sh17x0 : Sh := { tmps := [], mem := [] }
noncomputable def A17x0 (L : List Lf) : List (Bool × Res) := bnd (F17x0 N (fun p => some p)) fun q => [(q.isSome, ([.c (.b (q.getD default))], []))]
theorem raw17x0 (L : List Lf) : bd Try.prog (T24x0 N) (h17x0s1 N).h 17 sh17x0 L = F17x0 N (fun p => some ([.c (.b p)], [])) := by kernel_rfl
theorem ok17x0 : FnOk Try.prog 17 sh17x0 (A17x0 N) :=
  (h17x0s1 N).fn progOk (T24x0_ok N) fun L x hx => ((raw17x0 N L).trans ((bind17x0 N ..).trans (alt1 x hx)))
noncomputable def T17x0 : Oracle := ext 17 (spSh sh17x0 (A17x0 N)) (T24x0 N)
theorem T17x0_ok : OracleOk Try.prog (T17x0 N) := FnOk.to (ok17x0 N) (T24x0_ok N)
noncomputable def rg9x0 : List (Nat × List Nat) := [(0, [0]), (1, [1]), (2, [1, 3, 4]), (3, [3, 5, 4, 6])]
noncomputable def hd9x0 : Hints := [(10, [3, 5, 4, 6], [5, 3], [])]
noncomputable def h9x0s0 (N : Nat) : Sg Try.prog 0 9 := .start hd9x0 rg9x0
noncomputable def F9x0x10 (w0 w1 : Int) (w2 : LB) (w3 w4 : Int) (w6 w8 w10 : LD) (w11 : LB) (w12 w13 : Int) (w15 w17 w19 : LD) (k0 : Bool → Option R) : Option R :=
  bnd (G15x0 N w2 w3 w4 w6 w8 w10 w11 w12 w13 w15 w17 w19) fun y0 =>
  bif y0.isSome then
    bif (bif (y0.getD default) then (w0 == w1) else false) then
      bnd (G17x0 N) fun y1 =>
      bif y1.isSome then
        k0 (y1.getD default)
      else
        none
    else
      k0 false
  else
    none
noncomputable def G9x0x10 (w0 w1 : Int) (w2 : LB) (w3 w4 : Int) (w6 w8 w10 : LD) (w11 : LB) (w12 w13 : Int) (w15 w17 w19 : LD) : Option (Bool) := F9x0x10 N w0 w1 w2 w3 w4 w6 w8 w10 w11 w12 w13 w15 w17 w19 (fun p => some p)
theorem bind9x0x10 (w0 w1 : Int) (w2 : LB) (w3 w4 : Int) (w6 w8 w10 : LD) (w11 : LB) (w12 w13 : Int) (w15 w17 w19 : LD) (k0 : Bool → Option R) : F9x0x10 N w0 w1 w2 w3 w4 w6 w8 w10 w11 w12 w13 w15 w17 w19 k0 = (G9x0x10 N w0 w1 w2 w3 w4 w6 w8 w10 w11 w12 w13 w15 w17 w19).bind k0 := by
  unfold G9x0x10 F9x0x10
  repeat' (first | with_reducible apply cond_b | (with_reducible apply bnd_b; intro _) | rfl)
noncomputable def J9x0x10 (L : List Lf) (k0 : Bool → Option R) : Option R := F9x0x10 N (li L 0) (li L 1) (ls L 2) (li L 3) (li L 4) (ll L 6) (ll L 8) (ll L 10) (ls L 11) (li L 12) (li L 13) (ll L 15) (ll L 17) (ll L 19) k0
noncomputable def sh9x0x10 : Sh := { tmps := [(3, .c (.p 3 0)), (4, .c (.i .i64)), (5, .c (.p 5 0)), (6, .c (.i .i64))], mem := [(3, .box (.s :: [.i .i64, .i .i64, .sl 78, .sl 82, .sl 9])), (5, .box (.s :: [.i .i64, .i .i64, .sl 78, .sl 82, .sl 9]))] }
noncomputable def A9x0x10 (L : List Lf) : List (Bool × (Ex × St)) := bnd (J9x0x10 N L (fun p => some p)) fun q => [(q.isSome, (.normal, ⟨[(2, .c (.b (q.getD default)))], []⟩))]
theorem raw9x0x10 (L : List Lf) : pc Try.prog (T17x0 N) (h9x0s0 N).h 0 100 9 10 sh9x0x10 L [2] [] = J9x0x10 N L (fun p => some (.normal, ⟨[(2, .c (.b p))], []⟩)) := by kernel_rfl
noncomputable def h9x0s1 : Sg Try.prog 0 9 :=
  (h9x0s0 N).cut (A9x0x10 N) progOk (T17x0_ok N) fun L x hx => (raw9x0x10 N L).trans ((bind9x0x10 N ..).trans (alt1 x hx))
noncomputable def F9x0 (v1 : LD) (k0 : Bool → Option R) : Option R :=
  bnd (G41x0 N v1) fun y0 =>
  bif y0.isSome then
    bnd (G42x0 N v1) fun y1 =>
    bif y1.isSome then
      bnd (G9x0x10 N (y0.getD default).2.2.2.2.2.2.2.2.2 (y1.getD default).2.2.2.2.2.2.2.2.2 (y0.getD default).1 (y0.getD default).2.1 (y0.getD default).2.2.1 (y0.getD default).2.2.2.2.1 (y0.getD default).2.2.2.2.2.2.1 (y0.getD default).2.2.2.2.2.2.2.2.1 (y1.getD default).1 (y1.getD default).2.1 (y1.getD default).2.2.1 (y1.getD default).2.2.2.2.1 (y1.getD default).2.2.2.2.2.2.1 (y1.getD default).2.2.2.2.2.2.2.2.1) fun y2 =>
      bif y2.isSome then
        k0 (y2.getD default)
      else
        none
    else
      none
  else
    none
noncomputable def G9x0 (v1 : LD) : Option (Bool) := F9x0 N v1 (fun p => some p)
theorem bind9x0 (v1 : LD) (k0 : Bool → Option R) : F9x0 N v1 k0 = (G9x0 N v1).bind k0 := by
  unfold G9x0 F9x0
  repeat' (first | with_reducible apply cond_b | (with_reducible apply bnd_b; intro _) | rfl)
noncomputable def sh9x0 : Sh := { tmps := [(0, .g ([.sl 53]))], mem := [] }
noncomputable def A9x0 (L : List Lf) : List (Bool × Res) := bnd (F9x0 N (ll L 1) (fun p => some p)) fun q => [(q.isSome, ([.c (.b (q.getD default))], []))]
theorem raw9x0 (L : List Lf) : bd Try.prog (T17x0 N) (h9x0s1 N).h 9 sh9x0 L = F9x0 N (ll L 1) (fun p => some ([.c (.b p)], [])) := by kernel_rfl
theorem ok9x0 : FnOk Try.prog 9 sh9x0 (A9x0 N) :=
  (h9x0s1 N).fn progOk (T17x0_ok N) fun L x hx => ((raw9x0 N L).trans ((bind9x0 N ..).trans (alt1 x hx)))
noncomputable def T9x0 : Oracle := ext 9 (spSh sh9x0 (A9x0 N)) (T17x0 N)
theorem T9x0_ok : OracleOk Try.prog (T9x0 N) := FnOk.to (ok9x0 N) (T17x0_ok N)
end Go.Proofs.Ytnnofignhdijiaa
