/- Functions of the program as plain Lean definitions, each with the proof that the program computes it. No condition. Printed by a program of the prover, part 2. -/
import Derived.Test.YtnnofignhdijiaaRPp1
import Derived.KernelRfl
set_option linter.all false
set_option maxRecDepth 100000
namespace Go.Proofs.Ytnnofignhdijiaa
open Go Go.AM
variable (N : Nat) {R : Type}
noncomputable def J13x0x30 (L x : List Lf) (kr : List Lf → Option R) (k0 : Int → Option R) (k1 : Unit → Option R) : Option R := S13x0x30 N (ll L 1) (li L 2) (li L 6) (ll L 8) (li x 0) (fun w3 => kr [.i w3]) k0 k1
theorem sb13x0x30 (L x : List Lf) (kr : List Lf → Option R) (k0 : Int → Option R) (k1 : Unit → Option R) : J13x0x30 N L x kr k0 k1 = (J13x0x30 N L x (fun y => some (.inl y)) (fun p => some (.inr (.inl p))) (fun p => some (.inr (.inr p)))).bind (sumE kr (sumE k0 k1)) := by
  unfold J13x0x30 S13x0x30
  repeat' (first | with_reducible apply cond_b | (with_reducible apply bnd_b; intro _) | rfl)
noncomputable def Q13x0x30 (L : List Lf) (m : Nat) (x : List Lf) : Option (Sum (Int) (Unit)) := L13x0x30 N (R := (Sum (Int) (Unit))) (ll L 1) (li L 2) (li L 6) (ll L 8) m (li x 0) (fun p => some (.inl p)) (fun p => some (.inr p))
noncomputable def sh13x0x30 : Sh := { tmps := [(1, .c (.p 1 0)), (43, .c (.sl 78)), (44, .c (.i .i64)), (45, .c (.i .i64))], mem := [(1, .box (.s :: [.i .i64, .i .i64, .sl 78, .sl 82, .sl 9]))] }
noncomputable def K13x0x30w0 (L : List Lf) (p : Int) : Ex × St := (.ret, mg (ofSh sh13x0x30 L) [2] [(2, .c (.i .i64 p))] [1] [])
noncomputable def A13x0x30 (L : List Lf) : List (Bool × (Ex × St)) := bnd (Q13x0x30 N L N (pk sh13x0x30 [3] L)) fun q => [((inlB q), K13x0x30w0 L (inlV q)), ((inrQ q).isSome, ((.exit 1), mg (ofSh sh13x0x30 L) [1] [] [1] []))]
theorem step13x0x30 (m : Nat) (kn : St → Option (Ex × St)) (L x : List Lf) : lpB Try.prog (T55x0 N) (h13x0s3 N).h 0 13 30 sh13x0x30 [3] [2, 1] [1] (m + 100) kn L x = J13x0x30 N L x (fun y => kn (ofSh sh13x0x30 (mx sh13x0x30 [3] L y))) (fun p => some (K13x0x30w0 L p)) (fun _ => some ((.exit 1), mg (ofSh sh13x0x30 L) [1] [] [1] [])) := by kernel_rfl
theorem ql13x0x30 (L : List Lf) (m : Nat) (x : List Lf) : Q13x0x30 N L (m + 1) x = J13x0x30 N L x (Q13x0x30 N L m) (fun p => some (.inl p)) (fun p => some (.inr p)) := by kernel_rfl
noncomputable def h13x0s4 : Sg Try.prog 0 13 :=
  (h13x0s3 N).lp (A13x0x30 N) N progOk (T55x0_ok N) (fun m kn L x => (step13x0x30 N m kn L x).trans (sb13x0x30 N L x _ _ _)) (fun L m x => (ql13x0x30 N L m x).trans (sb13x0x30 N L x (Q13x0x30 N L m) (fun p => some (.inl p)) (fun p => some (.inr p)))) fun L x hx => (altS alt1) x hx
noncomputable def F13x0x73 (N : Nat) (w1 : Int) (w12 : LD) (w15 : Int) (k0 : Bool → Option R) : Option R :=
  bif (decide (w1 > 0)) then
    bif (inB (IntKind.wrap .i64 (w1 - 1)) w12.length) then
      bnd ((w12.getD (IntKind.wrap .i64 (w1 - 1)).toNat (.i 0)).cell 1).toI fun y0 =>
      k0 (decide (w15 < y0))
    else
      none
  else
    k0 false
noncomputable def G13x0x73 (w1 : Int) (w12 : LD) (w15 : Int) : Option (Bool) := F13x0x73 N w1 w12 w15 (fun p => some p)
theorem bind13x0x73 (w1 : Int) (w12 : LD) (w15 : Int) (k0 : Bool → Option R) : F13x0x73 N w1 w12 w15 k0 = (G13x0x73 N w1 w12 w15).bind k0 := by
  unfold G13x0x73 F13x0x73
  repeat' (first | with_reducible apply cond_b | (with_reducible apply bnd_b; intro _) | rfl)
noncomputable def sh13x0x73 : Sh := { tmps := [(1, .c (.p 1 0)), (5, .c (.i .i64)), (6, .c (.i .i64)), (7, .c (.p 7 0)), (93, .c (.sl 82)), (94, .c (.i .i64)), (95, .c (.i .i64))], mem := [(1, .box (.s :: [.i .i64, .i .i64, .sl 78, .sl 82, .sl 9])), (7, .box ([.i .i64, .i .i64, .s]))] }
noncomputable def K13x0x73w0 (L : List Lf) (p : Bool) : Ex × St := (.normal, mg (ofSh sh13x0x73 L) [1, 5, 7, 93, 94, 95, 117] [(117, .c (.b p))] [1, 7] [])
noncomputable def A13x0x73 (L : List Lf) : List (Bool × (Ex × St)) := bnd (F13x0x73 N (li L 1) (ll L 12) (li L 15) (fun p => some p)) fun q => [(q.isSome, K13x0x73w0 L (q.getD default))]
theorem raw13x0x73 (L : List Lf) : pc Try.prog (T55x0 N) (h13x0s4 N).h 0 100 13 73 sh13x0x73 L [7, 95, 94, 93, 5, 1, 117] [7, 1] = F13x0x73 N (li L 1) (ll L 12) (li L 15) (fun p => some (K13x0x73w0 L p)) := by kernel_rfl
noncomputable def h13x0s5 : Sg Try.prog 0 13 :=
  (h13x0s4 N).cut (A13x0x73 N) progOk (T55x0_ok N) fun L x hx => (raw13x0x73 N L).trans ((bind13x0x73 N ..).trans (alt1 x hx))
noncomputable def S13x0x60 (w0 : Int) (w2 : LD) (w3 : Int) (w11 : LD) (w4 : Int) (kr : Int → Option R) (k0 : Int → Option R) (k1 : Unit → Option R) : Option R :=
  bif (decide (w4 < w3)) then
    bif (inB w4 w2.length) then
      bnd (bif (decide (((w2.getD w4.toNat (.i 0)).cell 0).toI < 0)) then true else (decide (((w2.getD w4.toNat (.i 0)).cell 0).toI ≥ ((w2.getD w4.toNat (.i 0)).cell 1).toI))) fun y0 =>
      bnd (bif y0 then true else (decide (((w2.getD w4.toNat (.i 0)).cell 1).toI > w0))) fun y1 =>
      bif y1 then
        k0 9
      else
        bnd (G13x0x73 N w4 w11 ((w2.getD w4.toNat (.i 0)).cell 0).toI) fun y2 =>
        bif y2.isSome then
          bif (y2.getD default) then
            k0 10
          else
            bnd (G55x0 N ((w2.getD w4.toNat (.i 0)).cell 2).toS) fun y3 =>
            bif y3.isSome then
              bif (!(y3.getD default)) then
                k0 8
              else
                kr (IntKind.wrap .i64 (w4 + 1))
            else
              none
        else
          none
    else
      none
  else
    k1 ()
noncomputable def L13x0x60 (N : Nat) {R : Type} (w0 : Int) (w2 : LD) (w3 : Int) (w11 : LD) : Nat → Int → (Int → Option R) → (Unit → Option R) → Option R
  | 0, _, _, _ => none
  | m + 1, w4, k0, k1 => S13x0x60 N w0 w2 w3 w11 w4 (fun w4 => L13x0x60 N w0 w2 w3 w11 m w4 k0 k1) k0 k1
noncomputable def G13x0x60 (w0 : Int) (w2 : LD) (w3 : Int) (w11 : LD) (w4 : Int) : Option (Sum (Int) (Unit)) := L13x0x60 N (R := (Sum (Int) (Unit))) w0 w2 w3 w11 N w4 (fun p => some (.inl p)) (fun p => some (.inr p))
noncomputable def J13x0x60 (L x : List Lf) (kr : List Lf → Option R) (k0 : Int → Option R) (k1 : Unit → Option R) : Option R := S13x0x60 N (li L 0) (ll L 2) (li L 3) (ll L 11) (li x 0) (fun w4 => kr [.i w4]) k0 k1
theorem sb13x0x60 (L x : List Lf) (kr : List Lf → Option R) (k0 : Int → Option R) (k1 : Unit → Option R) : J13x0x60 N L x kr k0 k1 = (J13x0x60 N L x (fun y => some (.inl y)) (fun p => some (.inr (.inl p))) (fun p => some (.inr (.inr p)))).bind (sumE kr (sumE k0 k1)) := by
  unfold J13x0x60 S13x0x60
  repeat' (first | with_reducible apply cond_b | (with_reducible apply bnd_b; intro _) | rfl)
noncomputable def Q13x0x60 (L : List Lf) (m : Nat) (x : List Lf) : Option (Sum (Int) (Unit)) := L13x0x60 N (R := (Sum (Int) (Unit))) (li L 0) (ll L 2) (li L 3) (ll L 11) m (li x 0) (fun p => some (.inl p)) (fun p => some (.inr p))
noncomputable def sh13x0x60 : Sh := { tmps := [(1, .c (.p 1 0)), (5, .c (.i .i64)), (93, .c (.sl 82)), (94, .c (.i .i64)), (95, .c (.i .i64))], mem := [(1, .box (.s :: [.i .i64, .i .i64, .sl 78, .sl 82, .sl 9]))] }
noncomputable def K13x0x60w0 (L : List Lf) (p : Int) : Ex × St := (.ret, mg (ofSh sh13x0x60 L) [2] [(2, .c (.i .i64 p))] [1] [])
noncomputable def A13x0x60 (L : List Lf) : List (Bool × (Ex × St)) := bnd (Q13x0x60 N L N (pk sh13x0x60 [4] L)) fun q => [((inlB q), K13x0x60w0 L (inlV q)), ((inrQ q).isSome, ((.exit 4), mg (ofSh sh13x0x60 L) [1] [] [1] []))]
theorem step13x0x60 (m : Nat) (kn : St → Option (Ex × St)) (L x : List Lf) : lpB Try.prog (T55x0 N) (h13x0s5 N).h 0 13 60 sh13x0x60 [4] [2, 1] [1] (m + 100) kn L x = J13x0x60 N L x (fun y => kn (ofSh sh13x0x60 (mx sh13x0x60 [4] L y))) (fun p => some (K13x0x60w0 L p)) (fun _ => some ((.exit 4), mg (ofSh sh13x0x60 L) [1] [] [1] [])) := by kernel_rfl
theorem ql13x0x60 (L : List Lf) (m : Nat) (x : List Lf) : Q13x0x60 N L (m + 1) x = J13x0x60 N L x (Q13x0x60 N L m) (fun p => some (.inl p)) (fun p => some (.inr p)) := by kernel_rfl
noncomputable def h13x0s6 : Sg Try.prog 0 13 :=
  (h13x0s5 N).lp (A13x0x60 N) N progOk (T55x0_ok N) (fun m kn L x => (step13x0x60 N m kn L x).trans (sb13x0x60 N L x _ _ _)) (fun L m x => (ql13x0x60 N L m x).trans (sb13x0x60 N L x (Q13x0x60 N L m) (fun p => some (.inl p)) (fun p => some (.inr p)))) fun L x hx => (altS alt1) x hx
noncomputable def S13x0x90 (w1 : LD) (w2 : Int) (w12 : LD) (w3 : Int) (kr : Int → Option R) (k0 : Int → Option R) (k1 : Unit → Option R) : Option R :=
  bif (decide (w3 < w2)) then
    bif (inB w3 w1.length) then
      bnd (G51x0 N (w1.getD w3.toNat (.i 0)).toS) fun y0 =>
      bif y0.isSome then
        bif (!(y0.getD default)) then
          k0 8
        else
          bif (bif (inB (IntKind.wrap .i64 (w3 - 1)) w12.length) then true else (!((decide (w3 > 0)) == true))) then
            bnd (bif (decide (w3 > 0)) then ((Op.bytesLess (w1.getD w3.toNat (.i 0)).toS (w12.getD (IntKind.wrap .i64 (w3 - 1)).toNat (.i 0)).toS) || ((w1.getD w3.toNat (.i 0)).toS == (w12.getD (IntKind.wrap .i64 (w3 - 1)).toNat (.i 0)).toS)) else false) fun y1 =>
            bif y1 then
              k0 10
            else
              kr (IntKind.wrap .i64 (w3 + 1))
          else
            none
      else
        none
    else
      none
  else
    k1 ()
noncomputable def L13x0x90 (N : Nat) {R : Type} (w1 : LD) (w2 : Int) (w12 : LD) : Nat → Int → (Int → Option R) → (Unit → Option R) → Option R
  | 0, _, _, _ => none
  | m + 1, w3, k0, k1 => S13x0x90 N w1 w2 w12 w3 (fun w3 => L13x0x90 N w1 w2 w12 m w3 k0 k1) k0 k1
noncomputable def G13x0x90 (w1 : LD) (w2 : Int) (w12 : LD) (w3 : Int) : Option (Sum (Int) (Unit)) := L13x0x90 N (R := (Sum (Int) (Unit))) w1 w2 w12 N w3 (fun p => some (.inl p)) (fun p => some (.inr p))
noncomputable def J13x0x90 (L x : List Lf) (kr : List Lf → Option R) (k0 : Int → Option R) (k1 : Unit → Option R) : Option R := S13x0x90 N (ll L 1) (li L 2) (ll L 12) (li x 0) (fun w3 => kr [.i w3]) k0 k1
theorem sb13x0x90 (L x : List Lf) (kr : List Lf → Option R) (k0 : Int → Option R) (k1 : Unit → Option R) : J13x0x90 N L x kr k0 k1 = (J13x0x90 N L x (fun y => some (.inl y)) (fun p => some (.inr (.inl p))) (fun p => some (.inr (.inr p)))).bind (sumE kr (sumE k0 k1)) := by
  unfold J13x0x90 S13x0x90
  repeat' (first | with_reducible apply cond_b | (with_reducible apply bnd_b; intro _) | rfl)
noncomputable def Q13x0x90 (L : List Lf) (m : Nat) (x : List Lf) : Option (Sum (Int) (Unit)) := L13x0x90 N (R := (Sum (Int) (Unit))) (ll L 1) (li L 2) (ll L 12) m (li x 0) (fun p => some (.inl p)) (fun p => some (.inr p))
noncomputable def sh13x0x90 : Sh := { tmps := [(1, .c (.p 1 0)), (139, .c (.sl 9)), (140, .c (.i .i64)), (141, .c (.i .i64))], mem := [(1, .box (.s :: [.i .i64, .i .i64, .sl 78, .sl 82, .sl 9]))] }
noncomputable def A13x0x90 (L : List Lf) : List (Bool × (Ex × St)) := bnd (Q13x0x90 N L N (pk sh13x0x90 [3] L)) fun q => [((inlB q), (.ret, ⟨[(2, .c (.i .i64 (inlV q)))], []⟩)), ((inrQ q).isSome, ((.exit 7), ⟨[], []⟩))]
theorem step13x0x90 (m : Nat) (kn : St → Option (Ex × St)) (L x : List Lf) : lpB Try.prog (T55x0 N) (h13x0s6 N).h 0 13 90 sh13x0x90 [3] [2] [] (m + 100) kn L x = J13x0x90 N L x (fun y => kn (ofSh sh13x0x90 (mx sh13x0x90 [3] L y))) (fun p => some (.ret, ⟨[(2, .c (.i .i64 p))], []⟩)) (fun _ => some ((.exit 7), ⟨[], []⟩)) := by kernel_rfl
theorem ql13x0x90 (L : List Lf) (m : Nat) (x : List Lf) : Q13x0x90 N L (m + 1) x = J13x0x90 N L x (Q13x0x90 N L m) (fun p => some (.inl p)) (fun p => some (.inr p)) := by kernel_rfl
noncomputable def h13x0s7 : Sg Try.prog 0 13 :=
  (h13x0s6 N).lp (A13x0x90 N) N progOk (T55x0_ok N) (fun m kn L x => (step13x0x90 N m kn L x).trans (sb13x0x90 N L x _ _ _)) (fun L m x => (ql13x0x90 N L m x).trans (sb13x0x90 N L x (Q13x0x90 N L m) (fun p => some (.inl p)) (fun p => some (.inr p)))) fun L x hx => (altS alt1) x hx
noncomputable def F13x0 (v0 : LB) (v1 v2 : Int) (v4 v6 v8 : LD) (k0 : Int → Option R) : Option R :=
  bnd (G51x0 N v0) fun y0 =>
  bif y0.isSome then
    bif (!(y0.getD default)) then
      k0 8
    else
      bnd (V52x0 N v1 1 5) fun y1 =>
      bif (!y1) then
        k0 7
      else
        bnd (V52x0 N v2 0 86399999999) fun y2 =>
        bif (!y2) then
          k0 9
        else
          bnd (bif (decide ((v4.length : Int) > 20000)) then true else (decide ((v6.length : Int) > 200))) fun y3 =>
          bnd (bif y3 then true else (decide ((v8.length : Int) > 20))) fun y4 =>
          bif y4 then
            k0 3
          else
            bnd (G13x0x30 N v4 (v4.length : Int) v2 v4 0) fun y5 =>
            bif (inlB y5) then
              k0 (inlV y5)
            else
              bif (inrQ y5).isSome then
                bnd (G54x0 N v4) fun y6 =>
                bif y6.isSome then
                  bnd (G13x0x60 N (y6.getD default) v6 (v6.length : Int) v6 0) fun y7 =>
                  bif (inlB y7) then
                    k0 (inlV y7)
                  else
                    bif (inrQ y7).isSome then
                      bnd (G13x0x90 N v8 (v8.length : Int) v8 0) fun y8 =>
                      bif (inlB y8) then
                        k0 (inlV y8)
                      else
                        bif (inrQ y8).isSome then
                          k0 0
                        else
                          none
                    else
                      none
                else
                  none
              else
                none
  else
    none
noncomputable def G13x0 (v0 : LB) (v1 v2 : Int) (v4 v6 v8 : LD) : Option (Int) := F13x0 N v0 v1 v2 v4 v6 v8 (fun p => some p)
theorem bind13x0 (v0 : LB) (v1 v2 : Int) (v4 v6 v8 : LD) (k0 : Int → Option R) : F13x0 N v0 v1 v2 v4 v6 v8 k0 = (G13x0 N v0 v1 v2 v4 v6 v8).bind k0 := by
  unfold G13x0 F13x0
  repeat' (first | with_reducible apply cond_b | (with_reducible apply bnd_b; intro _) | rfl)
noncomputable def J13x0 (L : List Lf) (k0 : Int → Option R) : Option R := F13x0 N (ls L 0) (li L 1) (li L 2) (ll L 4) (ll L 6) (ll L 8) k0
noncomputable def sh13x0 : Sh := { tmps := [(0, .g (.s :: [.i .i64, .i .i64, .sl 78, .sl 82, .sl 9]))], mem := [] }
noncomputable def A13x0 (L : List Lf) : List (Bool × Res) := bnd (J13x0 N L (fun p => some p)) fun q => [(q.isSome, ([.c (.i .i64 (q.getD default))], []))]
theorem raw13x0 (L : List Lf) : bd Try.prog (T55x0 N) (h13x0s7 N).h 13 sh13x0 L = J13x0 N L (fun p => some ([.c (.i .i64 p)], [])) := by kernel_rfl
theorem ok13x0 : FnOk Try.prog 13 sh13x0 (A13x0 N) :=
  (h13x0s7 N).fn progOk (T55x0_ok N) fun L x hx => ((raw13x0 N L).trans ((bind13x0 N ..).trans (alt1 x hx)))
noncomputable def T13x0 : Oracle := ext 13 (spSh sh13x0 (A13x0 N)) (T55x0 N)
theorem T13x0_ok : OracleOk Try.prog (T13x0 N) := FnOk.to (ok13x0 N) (T55x0_ok N)
noncomputable def rg105x0 : List (Nat × List Nat) := [(0, [0]), (1, [0, 2])]
noncomputable def hd105x0 : Hints := []
noncomputable def h105x0s0 (N : Nat) : Sg Try.prog 0 105 := .start hd105x0 rg105x0
noncomputable def F105x0 (N : Nat) (k0 : Unit → R) : R :=
  k0 ()
noncomputable def V105x0 : Unit := F105x0 N (fun p => p)
theorem tot105x0 (k0 : Unit → R) : F105x0 N k0 = k0 (V105x0 N) := by
  unfold V105x0 F105x0
  repeat' (first | rfl | apply cond_k | (apply bnd_k; intro _))
noncomputable def sh105x0 : Sh := { tmps := [(0, .c (.i .i64))], mem := [] }
noncomputable def A105x0 (N : Nat) (L : List Lf) : List (Bool × Res) := [(true, ([.g [.i .i64 (li L 0), .i .i64 60, .i .i64 2]], []))]
theorem raw105x0 (L : List Lf) : bd Try.prog (T13x0 N) (h105x0s0 N).h 105 sh105x0 L = F105x0 N (fun _ => some ([.g [.i .i64 (li L 0), .i .i64 60, .i .i64 2]], [])) := by kernel_rfl
theorem ok105x0 : FnOk Try.prog 105 sh105x0 (A105x0 N) :=
  (h105x0s0 N).fn progOk (T13x0_ok N) fun L x hx => ((raw105x0 N L).trans ((tot105x0 N ..).trans (alt0 _ _ hx)))
noncomputable def T105x0 : Oracle := ext 105 (spSh sh105x0 (A105x0 N)) (T13x0 N)
theorem T105x0_ok : OracleOk Try.prog (T105x0 N) := FnOk.to (ok105x0 N) (T13x0_ok N)
noncomputable def rg106x0 : List (Nat × List Nat) := [(0, [0, 1, 2, 3])]
noncomputable def hd106x0 : Hints := []
noncomputable def h106x0s0 (N : Nat) : Sg Try.prog 1 106 := .start hd106x0 rg106x0
noncomputable def F106x0 (N : Nat) (v0 v1 : Int) (v2 : Bool) (v3 : LD) (v6 : Bool) (k0 : LD → R) : R :=
  k0 [(.a [(.i 1), (.i v0), (.i 0), (.l false [(.a [(.b v6), (.i v1), (.l v2 v3)])]), (.l true [])])]
noncomputable def V106x0 (v0 v1 : Int) (v2 : Bool) (v3 : LD) (v6 : Bool) : LD := F106x0 N v0 v1 v2 v3 v6 (fun p => p)
theorem tot106x0 (v0 v1 : Int) (v2 : Bool) (v3 : LD) (v6 : Bool) (k0 : LD → R) : F106x0 N v0 v1 v2 v3 v6 k0 = k0 (V106x0 N v0 v1 v2 v3 v6) := by
  unfold V106x0 F106x0
  repeat' (first | rfl | apply cond_k | (apply bnd_k; intro _))
noncomputable def J106x0 (L : List Lf) (k0 : LD → R) : R := F106x0 N (li L 0) (li L 1) (lb L 2) (ll L 3) (lb L 6) k0
noncomputable def sh106x0 : Sh := { tmps := [(0, .c (.p 0 0)), (1, .c (.i .i64)), (2, .c (.i .i64)), (3, .c (.sl 146))], mem := [(0, .box ([.nsl 53, .b]))] }
noncomputable def K106x0w0 (L : List Lf) (p : LD) : Res := ([], [(0, .box [.o 26, .b (lb L 6)]), (26, .row 53 true false p)])
noncomputable def A106x0 (L : List Lf) : List (Bool × Res) := bnd (J106x0 N L (fun p => p)) fun q => [(true, K106x0w0 L q)]
theorem raw106x0 (L : List Lf) : bd Try.prog (T105x0 N) (h106x0s0 N).h 106 sh106x0 L = J106x0 N L (fun p => some (K106x0w0 L p)) := by kernel_rfl
theorem ok106x0 : FnOk Try.prog 106 sh106x0 (A106x0 N) :=
  (h106x0s0 N).fn progOk (T105x0_ok N) fun L x hx => ((raw106x0 N L).trans ((tot106x0 N ..).trans (alt0 _ _ hx)))
noncomputable def T106x0 : Oracle := ext 106 (spSh sh106x0 (A106x0 N)) (T105x0 N)
theorem T106x0_ok : OracleOk Try.prog (T106x0 N) := FnOk.to (ok106x0 N) (T105x0_ok N)
noncomputable def rg108x0 : List (Nat × List Nat) := [(0, [1, 3, 2, 0]), (1, [1, 3, 2, 0]), (2, [2, 0]), (3, [1, 2, 0])]
noncomputable def hd108x0 : Hints := [(8, [2, 0, 1, 14], [1, 0], [])]
noncomputable def h108x0s0 (N : Nat) : Sg Try.prog 2 108 := .start hd108x0 rg108x0
noncomputable def F108x0x8 (w0 w1 : Int) (w2 : Bool) (k0 : Int → Option R) : Option R :=
  bif w2 then
    bnd (G124x0 N w1 false) fun y0 =>
    bif y0.isSome then
      k0 (y0.getD default)
    else
      none
  else
    k0 w0
noncomputable def G108x0x8 (w0 w1 : Int) (w2 : Bool) : Option (Int) := F108x0x8 N w0 w1 w2 (fun p => some p)
theorem bind108x0x8 (w0 w1 : Int) (w2 : Bool) (k0 : Int → Option R) : F108x0x8 N w0 w1 w2 k0 = (G108x0x8 N w0 w1 w2).bind k0 := by
  unfold G108x0x8 F108x0x8
  repeat' (first | with_reducible apply cond_b | (with_reducible apply bnd_b; intro _) | rfl)
noncomputable def sh108x0x8 : Sh := { tmps := [(0, .c (.p 0 0)), (1, .c (.i .i64)), (2, .c (.i .i64)), (14, .c (.b))], mem := [(0, .box ([.o 1, .b])), (1, .row 53 true)] }
noncomputable def K108x0x8w0 (L : List Lf) (p : Int) : Ex × St := (.normal, mg (ofSh sh108x0x8 L) [0, 1, 2] [(1, .c (.i .i64 p))] [0, 1] [])
noncomputable def A108x0x8 (L : List Lf) : List (Bool × (Ex × St)) := bnd (F108x0x8 N (li L 0) (li L 1) (lb L 2) (fun p => some p)) fun q => [(q.isSome, K108x0x8w0 L (q.getD default))]
theorem raw108x0x8 (L : List Lf) : pc Try.prog (T106x0 N) (h108x0s0 N).h 2 100 108 8 sh108x0x8 L [1, 2, 0] [1, 0] = F108x0x8 N (li L 0) (li L 1) (lb L 2) (fun p => some (K108x0x8w0 L p)) := by kernel_rfl
noncomputable def h108x0s1 : Sg Try.prog 2 108 :=
  (h108x0s0 N).cut (A108x0x8 N) progOk (T106x0_ok N) fun L x hx => (raw108x0x8 N L).trans ((bind108x0x8 N ..).trans (alt1 x hx))
noncomputable def F108x0 (v0 v1 : Int) (v2 v3 : Bool) (k0 : LD → Option R) : Option R :=
  bnd (G108x0x8 N v0 v1 (bif (decide (v0 < 0)) then (!v2) else false)) fun y0 =>
  bif y0.isSome then
    bnd (G67x0 N (y0.getD default) v1 v3) fun y1 =>
    bif y1.isSome then
      k0 (y1.getD default)
    else
      none
  else
    none
noncomputable def G108x0 (v0 v1 : Int) (v2 v3 : Bool) : Option (LD) := F108x0 N v0 v1 v2 v3 (fun p => some p)
theorem bind108x0 (v0 v1 : Int) (v2 v3 : Bool) (k0 : LD → Option R) : F108x0 N v0 v1 v2 v3 k0 = (G108x0 N v0 v1 v2 v3).bind k0 := by
  unfold G108x0 F108x0
  repeat' (first | with_reducible apply cond_b | (with_reducible apply bnd_b; intro _) | rfl)
noncomputable def J108x0 (L : List Lf) (k0 : LD → Option R) : Option R := F108x0 N (li L 0) (li L 1) (lb L 2) (lb L 3) k0
noncomputable def sh108x0 : Sh := { tmps := [(0, .c (.p 0 0)), (1, .c (.i .i64)), (2, .c (.i .i64)), (3, .c (.b))], mem := [(0, .box ([.o 1, .b])), (1, .row 53 true)] }
noncomputable def A108x0 (L : List Lf) : List (Bool × Res) := bnd (J108x0 N L (fun p => some p)) fun q => [(q.isSome, ([.c (.sl 5 false (q.getD default))], mgA (ofSh sh108x0 L).mem [] [0, 1]))]
theorem raw108x0 (L : List Lf) : bd Try.prog (T106x0 N) (h108x0s1 N).h 108 sh108x0 L = J108x0 N L (fun p => some ([.c (.sl 5 false p)], mgA (ofSh sh108x0 L).mem [] [0, 1])) := by kernel_rfl
theorem ok108x0 : FnOk Try.prog 108 sh108x0 (A108x0 N) :=
  (h108x0s1 N).fn progOk (T106x0_ok N) fun L x hx => ((raw108x0 N L).trans ((bind108x0 N ..).trans (alt1 x hx)))
noncomputable def T108x0 : Oracle := ext 108 (spSh sh108x0 (A108x0 N)) (T106x0 N)
theorem T108x0_ok : OracleOk Try.prog (T108x0 N) := FnOk.to (ok108x0 N) (T106x0_ok N)
noncomputable def rg109x0 : List (Nat × List Nat) := [(0, [0]), (1, [0]), (2, [3, 0]), (3, [3])]
noncomputable def hd109x0 : Hints := []
noncomputable def h109x0s0 (N : Nat) : Sg Try.prog 0 109 := .start hd109x0 rg109x0
noncomputable def F109x0 (N : Nat) (v0 : LB) (k0 : LD → R) : R :=
  bnd (((bytesD v0).take 60 ++ [(.i 0), (.i 0), (.i 0), (.i 0), (.i 0), (.i 0), (.i 0), (.i 0), (.i 0), (.i 0), (.i 0), (.i 0), (.i 0), (.i 0), (.i 0), (.i 0), (.i 0), (.i 0), (.i 0), (.i 0), (.i 0), (.i 0), (.i 0), (.i 0), (.i 0), (.i 0), (.i 0), (.i 0), (.i 0), (.i 0), (.i 0), (.i 0), (.i 0), (.i 0), (.i 0), (.i 0), (.i 0), (.i 0), (.i 0), (.i 0), (.i 0), (.i 0), (.i 0), (.i 0), (.i 0), (.i 0), (.i 0), (.i 0), (.i 0), (.i 0), (.i 0), (.i 0), (.i 0), (.i 0), (.i 0), (.i 0), (.i 0), (.i 0), (.i 0), (.i 0)].drop (bytesD v0).length) : List D) fun y0 =>
  k0 y0
noncomputable def V109x0 (v0 : LB) : LD := F109x0 N v0 (fun p => p)
theorem tot109x0 (v0 : LB) (k0 : LD → R) : F109x0 N v0 k0 = k0 (V109x0 N v0) := by
  unfold V109x0 F109x0
  repeat' (first | rfl | apply cond_k | (apply bnd_k; intro _))
noncomputable def sh109x0 : Sh := { tmps := [(0, .c (.s))], mem := [] }
noncomputable def A109x0 (L : List Lf) : List (Bool × Res) := bnd (F109x0 N (ls L 0) (fun p => p)) fun q => [(true, ([.c (.sl 5 false q)], []))]
theorem raw109x0 (L : List Lf) : bd Try.prog (T108x0 N) (h109x0s0 N).h 109 sh109x0 L = F109x0 N (ls L 0) (fun p => some ([.c (.sl 5 false p)], [])) := by kernel_rfl
theorem ok109x0 : FnOk Try.prog 109 sh109x0 (A109x0 N) :=
  (h109x0s0 N).fn progOk (T108x0_ok N) fun L x hx => ((raw109x0 N L).trans ((tot109x0 N ..).trans (alt0 _ _ hx)))
noncomputable def T109x0 : Oracle := ext 109 (spSh sh109x0 (A109x0 N)) (T108x0 N)
theorem T109x0_ok : OracleOk Try.prog (T109x0 N) := FnOk.to (ok109x0 N) (T108x0_ok N)
noncomputable def rg107x0 : List (Nat × List Nat) := [(0, [1, 2, 0]), (1, [2, 6, 0]), (2, [13, 12, 11, 6, 0]), (3, [11, 13, 6, 12, 0]), (4, [6, 8, 13, 12, 11, 0]), (5, [13, 12, 11, 6, 0]), (6, [0, 6])]
noncomputable def hd107x0 : Hints := [(6, [13, 12, 11, 6, 0], [8, 1, 0, 50008006], [50008004])]
noncomputable def h107x0s0 (N : Nat) : Sg Try.prog 2 107 := .start hd107x0 rg107x0
noncomputable def S107x0x6 (N : Nat) (w1 : LD) (w2 : Int) (w3 : Int) (w12 : Bool) (w13 : LD) (kr : Int → Bool → LD → Option R) (k0 : Bool × LD → Option R) : Option R :=
  bif (decide (w3 < w2)) then
    bif (inB w3 w1.length) then
      bif (decide ((w13.length + (w1.getD w3.toNat (.i 0)).items.length) * 1 ≤ room) && decide ((w13.length + (w1.getD w3.toNat (.i 0)).items.length) ≤ strMax)) then
        kr (IntKind.wrap .i64 (w3 + 1)) ((w1.getD w3.toNat (.i 0)).items.isEmpty && w12) (w13 ++ (w1.getD w3.toNat (.i 0)).items)
      else
        none
    else
      none
  else
    k0 (w12, w13)
noncomputable def L107x0x6 (N : Nat) {R : Type} (w1 : LD) (w2 : Int) : Nat → Int → Bool → LD → (Bool × LD → Option R) → Option R
  | 0, _, _, _, _ => none
  | m + 1, w3, w12, w13, k0 => S107x0x6 N w1 w2 w3 w12 w13 (fun w3 w12 w13 => L107x0x6 N w1 w2 m w3 w12 w13 k0) k0
noncomputable def G107x0x6 (w1 : LD) (w2 : Int) (w3 : Int) (w12 : Bool) (w13 : LD) : Option (Bool × LD) := L107x0x6 N (R := (Bool × LD)) w1 w2 N w3 w12 w13 (fun p => some p)
noncomputable def J107x0x6 (L x : List Lf) (kr : List Lf → Option R) (k0 : Bool × LD → Option R) : Option R := S107x0x6 N (ll L 1) (li L 2) (li x 0) (lb x 1) (ll x 2) (fun w3 w12 w13 => kr [.i w3, .b w12, .l w13]) k0
theorem sb107x0x6 (L x : List Lf) (kr : List Lf → Option R) (k0 : Bool × LD → Option R) : J107x0x6 N L x kr k0 = (J107x0x6 N L x (fun y => some (.inl y)) (fun p => some (.inr p))).bind (sumE kr k0) := by
  unfold J107x0x6 S107x0x6
  repeat' (first | with_reducible apply cond_b | (with_reducible apply bnd_b; intro _) | rfl)
noncomputable def Q107x0x6 (L : List Lf) (m : Nat) (x : List Lf) : Option (Bool × LD) := L107x0x6 N (R := (Bool × LD)) (ll L 1) (li L 2) m (li x 0) (lb x 1) (ll x 2) (fun p => some p)
noncomputable def sh107x0x6 : Sh := { tmps := [(0, .c (.p 0 0)), (6, .c (.p 8 0)), (11, .c (.sl 37)), (12, .c (.i .i64)), (13, .c (.i .i64))], mem := [(0, .box ([.o 1, .b])), (1, .row 53 true), (8, .box ([.i .i64, .i .i64, .i .i64, .sl 103, .o 50008006])), (50008006, .row 5 true)] }
noncomputable def K107x0x6w0 (L : List Lf) (p : Bool × LD) : Ex × St := ((.exit 0), mg (ofSh sh107x0x6 L) [0, 6] [] [0, 1, 8, 50008006] [(50008006, .row 5 true p.1 p.2)])
noncomputable def A107x0x6 (L : List Lf) : List (Bool × (Ex × St)) := bnd (Q107x0x6 N L N (pk sh107x0x6 [3, 12, 13] L)) fun q => [(q.isSome, K107x0x6w0 L (q.getD default))]
theorem step107x0x6 (m : Nat) (kn : St → Option (Ex × St)) (L x : List Lf) : lpB Try.prog (T109x0 N) (h107x0s0 N).h 2 107 6 sh107x0x6 [3, 12, 13] [0, 6] [50008006, 8, 1, 0] (m + 100) kn L x = J107x0x6 N L x (fun y => kn (ofSh sh107x0x6 (mx sh107x0x6 [3, 12, 13] L y))) (fun p => some (K107x0x6w0 L p)) := by kernel_rfl
theorem ql107x0x6 (L : List Lf) (m : Nat) (x : List Lf) : Q107x0x6 N L (m + 1) x = J107x0x6 N L x (Q107x0x6 N L m) some := by kernel_rfl
noncomputable def h107x0s1 : Sg Try.prog 2 107 :=
  (h107x0s0 N).lp (A107x0x6 N) N progOk (T109x0_ok N) (fun m kn L x => (step107x0x6 N m kn L x).trans (sb107x0x6 N L x _ _)) (fun L m x => (ql107x0x6 N L m x).trans (sb107x0x6 N L x (Q107x0x6 N L m) some)) fun L x hx => alt1 x hx
noncomputable def F107x0 (v0 : Int) (v2 v5 : LD) (k0 : LD → Option R) : Option R :=
  bnd (G107x0x6 N v2 (v2.length : Int) 0 true []) fun y0 =>
  bif y0.isSome then
    bif (decide ((v5.length + 1) * 72 ≤ room) && decide ((v5.length + 1) ≤ strMax)) then
      bnd ((v5 ++ [(.a [(.i 2), (.i v0), (.i 0), (.l true []), (.l (y0.getD default).1 (y0.getD default).2)])]) : List D) fun y1 =>
      k0 y1
    else
      none
  else
    none
noncomputable def G107x0 (v0 : Int) (v2 v5 : LD) : Option (LD) := F107x0 N v0 v2 v5 (fun p => some p)
theorem bind107x0 (v0 : Int) (v2 v5 : LD) (k0 : LD → Option R) : F107x0 N v0 v2 v5 k0 = (G107x0 N v0 v2 v5).bind k0 := by
  unfold G107x0 F107x0
  repeat' (first | with_reducible apply cond_b | (with_reducible apply bnd_b; intro _) | rfl)
noncomputable def sh107x0 : Sh := { tmps := [(0, .c (.p 0 0)), (1, .c (.i .i64)), (2, .c (.sl 37))], mem := [(0, .box ([.o 1, .b])), (1, .row 53 true)] }
noncomputable def K107x0w0 (L : List Lf) (p : LD) : Res := ([], [(0, .box [.o 33, .b (lb L 3)]), (33, .row 53 true false p)])
noncomputable def A107x0 (L : List Lf) : List (Bool × Res) := bnd (F107x0 N (li L 0) (ll L 2) (ll L 5) (fun p => some p)) fun q => [(q.isSome, K107x0w0 L (q.getD default))]
theorem raw107x0 (L : List Lf) : bd Try.prog (T109x0 N) (h107x0s1 N).h 107 sh107x0 L = F107x0 N (li L 0) (ll L 2) (ll L 5) (fun p => some (K107x0w0 L p)) := by kernel_rfl
theorem ok107x0 : FnOk Try.prog 107 sh107x0 (A107x0 N) :=
  (h107x0s1 N).fn progOk (T109x0_ok N) fun L x hx => ((raw107x0 N L).trans ((bind107x0 N ..).trans (alt1 x hx)))
noncomputable def T107x0 : Oracle := ext 107 (spSh sh107x0 (A107x0 N)) (T109x0 N)
theorem T107x0_ok : OracleOk Try.prog (T107x0 N) := FnOk.to (ok107x0 N) (T109x0_ok N)
noncomputable def rg106x1 : List (Nat × List Nat) := [(0, [0, 1, 2, 3])]
noncomputable def hd106x1 : Hints := []
noncomputable def h106x1s0 (N : Nat) : Sg Try.prog 2 106 := .start hd106x1 rg106x1
noncomputable def F106x1 (N : Nat) (v0 v1 : Int) (v2 : Bool) (v3 : LD) (v4 : Bool) (v6 : LD) (k0 : LD → Option R) : Option R :=
  bif (decide ((v6.length + 1) * 72 ≤ room) && decide ((v6.length + 1) ≤ strMax)) then
    bnd ((v6 ++ [(.a [(.i 1), (.i v0), (.i 0), (.l false [(.a [(.b v4), (.i v1), (.l v2 v3)])]), (.l true [])])]) : List D) fun y0 =>
    k0 y0
  else
    none
noncomputable def G106x1 (v0 v1 : Int) (v2 : Bool) (v3 : LD) (v4 : Bool) (v6 : LD) : Option (LD) := F106x1 N v0 v1 v2 v3 v4 v6 (fun p => some p)
theorem bind106x1 (v0 v1 : Int) (v2 : Bool) (v3 : LD) (v4 : Bool) (v6 : LD) (k0 : LD → Option R) : F106x1 N v0 v1 v2 v3 v4 v6 k0 = (G106x1 N v0 v1 v2 v3 v4 v6).bind k0 := by
  unfold G106x1 F106x1
  repeat' (first | with_reducible apply cond_b | (with_reducible apply bnd_b; intro _) | rfl)
noncomputable def J106x1 (L : List Lf) (k0 : LD → Option R) : Option R := F106x1 N (li L 0) (li L 1) (lb L 2) (ll L 3) (lb L 4) (ll L 6) k0
noncomputable def sh106x1 : Sh := { tmps := [(0, .c (.p 0 0)), (1, .c (.i .i64)), (2, .c (.i .i64)), (3, .c (.sl 146))], mem := [(0, .box ([.o 1, .b])), (1, .row 53 true)] }
noncomputable def K106x1w0 (L : List Lf) (p : LD) : Res := ([], [(0, .box [.o 27, .b (lb L 4)]), (27, .row 53 true false p)])
noncomputable def A106x1 (L : List Lf) : List (Bool × Res) := bnd (J106x1 N L (fun p => some p)) fun q => [(q.isSome, K106x1w0 L (q.getD default))]
theorem raw106x1 (L : List Lf) : bd Try.prog (T107x0 N) (h106x1s0 N).h 106 sh106x1 L = J106x1 N L (fun p => some (K106x1w0 L p)) := by kernel_rfl
theorem ok106x1 : FnOk Try.prog 106 sh106x1 (A106x1 N) :=
  (h106x1s0 N).fn progOk (T107x0_ok N) fun L x hx => ((raw106x1 N L).trans ((bind106x1 N ..).trans (alt1 x hx)))
noncomputable def T106x1 : Oracle := ext 106 (spSh sh106x1 (A106x1 N)) (T107x0 N)
theorem T106x1_ok : OracleOk Try.prog (T106x1 N) := FnOk.to (ok106x1 N) (T107x0_ok N)
noncomputable def rg110x0 : List (Nat × List Nat) := [(0, [1, 2, 0]), (1, [4, 5, 0]), (2, [5, 0, 4]), (3, [6, 0, 4]), (4, [20, 6, 0, 4]), (5, [20, 6, 0, 4]), (6, [6, 7, 20, 0, 4]), (7, [20, 6, 0, 4]), (8, [6, 0, 4]), (9, [29, 6, 0, 4]), (10, [29, 6, 0, 4]), (11, [6, 8, 29, 0, 4]), (12, [29, 6, 0, 4]), (13, [0, 6, 4]), (14, [4, 0]), (15, [45, 44, 43, 4, 0]), (16, [45, 43, 4, 0, 44]), (17, [4, 10, 0, 9, 45, 44, 43]), (18, [0, 11, 10, 9, 4, 45, 44, 43]), (19, [9, 10, 4, 0, 12, 11, 45, 44, 43]), (23, [0, 12, 45, 44, 43, 4]), (20, [0, 12, 11, 45, 44, 43, 4]), (21, [0, 11, 45, 44, 43, 4]), (22, [13, 11, 45, 44, 43, 4, 0]), (24, [45, 44, 43, 4, 0])]
noncomputable def hd110x0 : Hints := [(12, [20, 6, 0, 4], [21, 6, 1, 0, 8, 50000002], [6, 50000000]), (27, [29, 6, 0, 4], [8, 6, 50000002, 0], [6, 50000000]), (45, [45, 44, 43, 4, 0], [6, 42000000029, 0, 50000002], [50000000]), (58, [9, 10, 4, 0, 12, 11, 45, 44, 43], [84, 12, 6, 50000002, 0], []), (69062, [0, 12, 11, 45, 44, 43, 4, 97], [84, 6, 50000002, 0], [])]
noncomputable def h110x0s0 (N : Nat) : Sg Try.prog 2 110 := .start hd110x0 rg110x0
noncomputable def S110x0x12 (N : Nat) (w0 : Int) (w11 : Bool) (w12 : LD) (kr : Int → Bool → LD → Option R) (k0 : Bool × LD → Option R) : Option R :=
  bif (decide (w0 < 3)) then
    bif (decide ((w12.length + 1) * 24 ≤ room) && decide ((w12.length + 1) ≤ strMax)) then
      kr (IntKind.wrap .i64 (w0 + 1)) false (w12 ++ [(.a [(.i w0), (.i 4), (.i 1)])])
    else
      none
  else
    k0 (w11, w12)
noncomputable def L110x0x12 (N : Nat) {R : Type} : Nat → Int → Bool → LD → (Bool × LD → Option R) → Option R
  | 0, _, _, _, _ => none
  | m + 1, w0, w11, w12, k0 => S110x0x12 N w0 w11 w12 (fun w0 w11 w12 => L110x0x12 N m w0 w11 w12 k0) k0
noncomputable def G110x0x12 (w0 : Int) (w11 : Bool) (w12 : LD) : Option (Bool × LD) := L110x0x12 N (R := (Bool × LD)) N w0 w11 w12 (fun p => some p)
noncomputable def J110x0x12 (L x : List Lf) (kr : List Lf → Option R) (k0 : Bool × LD → Option R) : Option R := S110x0x12 N (li x 0) (lb x 1) (ll x 2) (fun w0 w11 w12 => kr [.i w0, .b w11, .l w12]) k0
theorem sb110x0x12 (L x : List Lf) (kr : List Lf → Option R) (k0 : Bool × LD → Option R) : J110x0x12 N L x kr k0 = (J110x0x12 N L x (fun y => some (.inl y)) (fun p => some (.inr p))).bind (sumE kr k0) := by
  unfold J110x0x12 S110x0x12
  repeat' (first | with_reducible apply cond_b | (with_reducible apply bnd_b; intro _) | rfl)
noncomputable def Q110x0x12 (L : List Lf) (m : Nat) (x : List Lf) : Option (Bool × LD) := L110x0x12 N (R := (Bool × LD)) m (li x 0) (lb x 1) (ll x 2) (fun p => some p)
noncomputable def sh110x0x12 : Sh := { tmps := [(0, .c (.p 0 0)), (4, .c (.p 6 0)), (6, .c (.o 8)), (20, .c (.i .i64))], mem := [(0, .box ([.o 50000002, .b])), (6, .box (.s :: [.i .i64, .i .i64, .sl 78, .sl 82, .sl 9])), (8, .row 146 true), (50000002, .row 53 true)] }
noncomputable def K110x0x12w0 (L : List Lf) (p : Bool × LD) : Ex × St := ((.exit 0), mg (ofSh sh110x0x12 L) [0, 4, 6] [] [0, 6, 8, 50000002] [(8, .row 146 true p.1 p.2)])
noncomputable def A110x0x12 (L : List Lf) : List (Bool × (Ex × St)) := bnd (Q110x0x12 N L N (pk sh110x0x12 [0, 11, 12] L)) fun q => [(q.isSome, K110x0x12w0 L (q.getD default))]
theorem step110x0x12 (m : Nat) (kn : St → Option (Ex × St)) (L x : List Lf) : lpB Try.prog (T106x1 N) (h110x0s0 N).h 2 110 12 sh110x0x12 [0, 11, 12] [6, 0, 4] [8, 6, 50000002, 0] (m + 100) kn L x = J110x0x12 N L x (fun y => kn (ofSh sh110x0x12 (mx sh110x0x12 [0, 11, 12] L y))) (fun p => some (K110x0x12w0 L p)) := by kernel_rfl
theorem ql110x0x12 (L : List Lf) (m : Nat) (x : List Lf) : Q110x0x12 N L (m + 1) x = J110x0x12 N L x (Q110x0x12 N L m) some := by kernel_rfl
noncomputable def h110x0s1 : Sg Try.prog 2 110 :=
  (h110x0s0 N).lp (A110x0x12 N) N progOk (T106x1_ok N) (fun m kn L x => (step110x0x12 N m kn L x).trans (sb110x0x12 N L x _ _)) (fun L m x => (ql110x0x12 N L m x).trans (sb110x0x12 N L x (Q110x0x12 N L m) some)) fun L x hx => alt1 x hx
noncomputable def S110x0x27 (N : Nat) (w0 : Int) (w11 : Bool) (w12 : LD) (kr : Int → Bool → LD → Option R) (k0 : Bool × LD → Option R) : Option R :=
  bif (decide (w0 < 3)) then
    bif (decide ((w12.length + 1) * 24 ≤ room) && decide ((w12.length + 1) ≤ strMax)) then
      bnd ((w12 ++ [(.a [(.i (IntKind.wrap .i64 (3 + w0))), (.i 2), (.i 0)])]) : List D) fun y0 =>
      kr (IntKind.wrap .i64 (w0 + 1)) false y0
    else
      none
  else
    k0 (w11, w12)
noncomputable def L110x0x27 (N : Nat) {R : Type} : Nat → Int → Bool → LD → (Bool × LD → Option R) → Option R
  | 0, _, _, _, _ => none
  | m + 1, w0, w11, w12, k0 => S110x0x27 N w0 w11 w12 (fun w0 w11 w12 => L110x0x27 N m w0 w11 w12 k0) k0
noncomputable def G110x0x27 (w0 : Int) (w11 : Bool) (w12 : LD) : Option (Bool × LD) := L110x0x27 N (R := (Bool × LD)) N w0 w11 w12 (fun p => some p)
noncomputable def J110x0x27 (L x : List Lf) (kr : List Lf → Option R) (k0 : Bool × LD → Option R) : Option R := S110x0x27 N (li x 0) (lb x 1) (ll x 2) (fun w0 w11 w12 => kr [.i w0, .b w11, .l w12]) k0
theorem sb110x0x27 (L x : List Lf) (kr : List Lf → Option R) (k0 : Bool × LD → Option R) : J110x0x27 N L x kr k0 = (J110x0x27 N L x (fun y => some (.inl y)) (fun p => some (.inr p))).bind (sumE kr k0) := by
  unfold J110x0x27 S110x0x27
  repeat' (first | with_reducible apply cond_b | (with_reducible apply bnd_b; intro _) | rfl)
noncomputable def Q110x0x27 (L : List Lf) (m : Nat) (x : List Lf) : Option (Bool × LD) := L110x0x27 N (R := (Bool × LD)) m (li x 0) (lb x 1) (ll x 2) (fun p => some p)
noncomputable def sh110x0x27 : Sh := { tmps := [(0, .c (.p 0 0)), (4, .c (.p 6 0)), (6, .c (.o 8)), (29, .c (.i .i64))], mem := [(0, .box ([.o 50000002, .b])), (6, .box (.s :: [.i .i64, .i .i64, .sl 78, .sl 82, .sl 9])), (8, .row 146 true), (50000002, .row 53 true)] }
noncomputable def K110x0x27w0 (L : List Lf) (p : Bool × LD) : Ex × St := ((.exit 2), mg (ofSh sh110x0x27 L) [0, 4, 6] [] [0, 6, 8, 50000002] [(8, .row 146 true p.1 p.2)])
noncomputable def A110x0x27 (L : List Lf) : List (Bool × (Ex × St)) := bnd (Q110x0x27 N L N (pk sh110x0x27 [0, 11, 12] L)) fun q => [(q.isSome, K110x0x27w0 L (q.getD default))]
theorem step110x0x27 (m : Nat) (kn : St → Option (Ex × St)) (L x : List Lf) : lpB Try.prog (T106x1 N) (h110x0s1 N).h 2 110 27 sh110x0x27 [0, 11, 12] [0, 6, 4] [8, 6, 50000002, 0] (m + 100) kn L x = J110x0x27 N L x (fun y => kn (ofSh sh110x0x27 (mx sh110x0x27 [0, 11, 12] L y))) (fun p => some (K110x0x27w0 L p)) := by kernel_rfl
theorem ql110x0x27 (L : List Lf) (m : Nat) (x : List Lf) : Q110x0x27 N L (m + 1) x = J110x0x27 N L x (Q110x0x27 N L m) some := by kernel_rfl
noncomputable def h110x0s2 : Sg Try.prog 2 110 :=
  (h110x0s1 N).lp (A110x0x27 N) N progOk (T106x1_ok N) (fun m kn L x => (step110x0x27 N m kn L x).trans (sb110x0x27 N L x _ _)) (fun L m x => (ql110x0x27 N L m x).trans (sb110x0x27 N L x (Q110x0x27 N L m) some)) fun L x hx => alt1 x hx
noncomputable def F110x0x58 (N : Nat) (w0 : Int) (w11 : LD) (w16 : Int) (k0 : Bool → Option R) : Option R :=
  bif (decide (w0 > 0)) then
    bif (inB (IntKind.wrap .i64 (w0 - 1)) w11.length) then
      bnd ((w11.getD (IntKind.wrap .i64 (w0 - 1)).toNat (.i 0)).cell 0).toI fun y0 =>
      k0 (decide ((IntKind.wrap .i64 (w16 - y0)) < 32))
    else
      none
  else
    k0 false
noncomputable def G110x0x58 (w0 : Int) (w11 : LD) (w16 : Int) : Option (Bool) := F110x0x58 N w0 w11 w16 (fun p => some p)
theorem bind110x0x58 (w0 : Int) (w11 : LD) (w16 : Int) (k0 : Bool → Option R) : F110x0x58 N w0 w11 w16 k0 = (G110x0x58 N w0 w11 w16).bind k0 := by
  unfold G110x0x58 F110x0x58
  repeat' (first | with_reducible apply cond_b | (with_reducible apply bnd_b; intro _) | rfl)
noncomputable def sh110x0x58 : Sh := { tmps := [(0, .c (.p 0 0)), (4, .c (.p 6 0)), (9, .c (.i .i64)), (10, .c (.p 12 0)), (11, .c (.i .i64)), (12, .c (.o 84)), (43, .c (.sl 78)), (44, .c (.i .i64)), (45, .c (.i .i64))], mem := [(0, .box ([.o 50000002, .b])), (6, .box (.s :: [.i .i64, .i .i64, .sl 78, .sl 82, .sl 9])), (12, .box (rI 7 ([]))), (84, .row 37 true), (50000002, .row 53 true)] }
noncomputable def K110x0x58w0 (L : List Lf) (p : Bool) : Ex × St := (.normal, mg (ofSh sh110x0x58 L) [0, 4, 11, 12, 43, 44, 45, 97] [(97, .c (.b p))] [0, 6, 84, 50000002] [])
noncomputable def A110x0x58 (L : List Lf) : List (Bool × (Ex × St)) := bnd (F110x0x58 N (li L 0) (ll L 11) (li L 16) (fun p => some p)) fun q => [(q.isSome, K110x0x58w0 L (q.getD default))]
theorem raw110x0x58 (L : List Lf) : pc Try.prog (T106x1 N) (h110x0s2 N).h 2 100 110 58 sh110x0x58 L [0, 12, 11, 45, 44, 43, 4, 97] [84, 6, 50000002, 0] = F110x0x58 N (li L 0) (ll L 11) (li L 16) (fun p => some (K110x0x58w0 L p)) := by kernel_rfl
noncomputable def h110x0s3 : Sg Try.prog 2 110 :=
  (h110x0s2 N).cut (A110x0x58 N) progOk (T106x1_ok N) fun L x hx => (raw110x0x58 N L).trans ((bind110x0x58 N ..).trans (alt1 x hx))
noncomputable def F110x0x69062 (w0 : Int) (w5 : Bool) (w17 w19 : LD) (k0 : LD → Option R) (k1 : LD → Option R) : Option R :=
  bif w5 then
    bif ((decide (1 ≤ (w17.length : Int))) && (decide ((w17.length : Int) ≤ (w17.length : Int)))) then
      bnd (G107x0 N 1 ((w17.take (w17.length : Int).toNat).drop 1) w19) fun y0 =>
      bif y0.isSome then
        bnd (IntKind.wrap .i64 (((y0.getD default).length : Int) - 1)) fun y1 =>
        bif (inB y1 (y0.getD default).length) then
          bif (decide (y1.toNat < (y0.getD default).length)) then
            bnd (((y0.getD default).set y1.toNat (.a [(.i 3), (.i (((y0.getD default).getD y1.toNat (.i 0)).cell 1).toI), (.i (((y0.getD default).getD y1.toNat (.i 0)).cell 2).toI), (.l (((y0.getD default).getD y1.toNat (.i 0)).cell 3).isNil (((y0.getD default).getD y1.toNat (.i 0)).cell 3).items), (.l (((y0.getD default).getD y1.toNat (.i 0)).cell 4).isNil (((y0.getD default).getD y1.toNat (.i 0)).cell 4).items)])) : List D) fun y2 =>
            bif (decide (y1.toNat < y2.length)) then
              bnd ((y2.set y1.toNat (.a [(.i ((y2.getD y1.toNat (.i 0)).cell 0).toI), (.i ((y2.getD y1.toNat (.i 0)).cell 1).toI), (.i (w0.tmod 32)), (.l ((y2.getD y1.toNat (.i 0)).cell 3).isNil ((y2.getD y1.toNat (.i 0)).cell 3).items), (.l ((y2.getD y1.toNat (.i 0)).cell 4).isNil ((y2.getD y1.toNat (.i 0)).cell 4).items)])) : List D) fun y3 =>
              k0 y3
            else
              none
          else
            none
        else
          none
      else
        none
    else
      none
  else
    bnd (G107x0 N 1 w17 w19) fun y4 =>
    bif y4.isSome then
      k1 (y4.getD default)
    else
      none
noncomputable def G110x0x69062 (w0 : Int) (w5 : Bool) (w17 w19 : LD) : Option (Sum (LD) (LD)) := F110x0x69062 N w0 w5 w17 w19 (fun p => some (.inl p)) (fun p => some (.inr p))
theorem bind110x0x69062 (w0 : Int) (w5 : Bool) (w17 w19 : LD) (k0 : LD → Option R) (k1 : LD → Option R) : F110x0x69062 N w0 w5 w17 w19 k0 k1 = (G110x0x69062 N w0 w5 w17 w19).bind (sumE k0 k1) := by
  unfold G110x0x69062 F110x0x69062
  repeat' (first | with_reducible apply cond_b | (with_reducible apply bnd_b; intro _) | rfl)
noncomputable def J110x0x69062 (L : List Lf) (k0 : LD → Option R) (k1 : LD → Option R) : Option R := F110x0x69062 N (li L 0) (lb L 5) (ll L 17) (ll L 19) k0 k1
noncomputable def sh110x0x69062 : Sh := { tmps := [(0, .c (.p 0 0)), (4, .c (.p 6 0)), (11, .c (.i .i64)), (12, .c (.o 84)), (43, .c (.sl 78)), (44, .c (.i .i64)), (45, .c (.i .i64)), (97, .c (.b))], mem := [(0, .box ([.o 50000002, .b])), (6, .box (.s :: [.i .i64, .i .i64, .sl 78, .sl 82, .sl 9])), (84, .row 37 true), (50000002, .row 53 true)] }
noncomputable def K110x0x69062w0 (L : List Lf) (p : LD) : Ex × St := (.normal, mg (ofSh sh110x0x69062 L) [0, 4, 43, 44, 45] [] [0, 6, 102000000035] [(0, .box [.o 102000000035, .b (lb L 6)]), (102000000035, .row 53 true false p)])
noncomputable def K110x0x69062w1 (L : List Lf) (p : LD) : Ex × St := (.normal, mg (ofSh sh110x0x69062 L) [0, 4, 43, 44, 45] [] [0, 6, 126000000035] [(0, .box [.o 126000000035, .b (lb L 6)]), (126000000035, .row 53 true false p)])
noncomputable def A110x0x69062 (L : List Lf) : List (Bool × (Ex × St)) := bnd (J110x0x69062 N L (fun p => some (.inl p)) (fun p => some (.inr p))) fun q => [((inlB q), K110x0x69062w0 L (inlV q)), ((inrQ q).isSome, K110x0x69062w1 L ((inrQ q).getD default))]
theorem raw110x0x69062 (L : List Lf) : pc Try.prog (T106x1 N) (h110x0s3 N).h 2 100 110 69062 sh110x0x69062 L [45, 44, 43, 4, 0] [6, 102000000035, 0, 126000000035] = J110x0x69062 N L (fun p => some (K110x0x69062w0 L p)) (fun p => some (K110x0x69062w1 L p)) := by kernel_rfl
noncomputable def h110x0s4 : Sg Try.prog 2 110 :=
  (h110x0s3 N).cut (A110x0x69062 N) progOk (T106x1_ok N) fun L x hx => (raw110x0x69062 N L).trans ((bind110x0x69062 N ..).trans ((altS alt1) x hx))
noncomputable def S110x0x45 (w1 : LD) (w2 : Int) (w4 : Bool) (w7 : Int) (w9 : LD) (w3 : Int) (w14 : Bool) (w15 : LD) (kr : Int → Bool → LD → Option R) (k0 : Bool × LD → Option R) : Option R :=
  bif (decide (w3 < w2)) then
    bif (inB w3 w1.length) then
      bnd (IntKind.wrap .i64 (w7 + ((w1.getD w3.toNat (.i 0)).cell 0).toI)) fun y0 =>
      bnd (G108x0 N y0 4 false w4) fun y1 =>
      bif y1.isSome then
        bnd (G108x0 N ((w1.getD w3.toNat (.i 0)).cell 1).toI 4 true w4) fun y2 =>
        bif y2.isSome then
          bnd (G108x0 N ((w1.getD w3.toNat (.i 0)).cell 2).toI 4 true w4) fun y3 =>
          bif y3.isSome then
            bnd (G108x0 N ((w1.getD w3.toNat (.i 0)).cell 3).toI 4 true w4) fun y4 =>
            bif y4.isSome then
              bnd (G108x0 N ((w1.getD w3.toNat (.i 0)).cell 4).toI 2 false w4) fun y5 =>
              bif y5.isSome then
                bnd (G108x0 N ((w1.getD w3.toNat (.i 0)).cell 5).toI 2 false w4) fun y6 =>
                bif y6.isSome then
                  bnd (G108x0 N ((w1.getD w3.toNat (.i 0)).cell 6).toI 2 false w4) fun y7 =>
                  bif y7.isSome then
                    bnd (G110x0x58 N w3 w9 ((w1.getD w3.toNat (.i 0)).cell 0).toI) fun y8 =>
                    bif y8.isSome then
                      bnd (G110x0x69062 N y0 (y8.getD default) [(.l false (y1.getD default)), (.l false (y2.getD default)), (.l false (y3.getD default)), (.l false (y4.getD default)), (.l false (y5.getD default)), (.l false (y6.getD default)), (.l false (y7.getD default))] w15) fun y9 =>
                      bif (inlB y9) then
                        kr (IntKind.wrap .i64 (w3 + 1)) false (inlV y9)
                      else
                        bif (inrQ y9).isSome then
                          kr (IntKind.wrap .i64 (w3 + 1)) false ((inrQ y9).getD default)
                        else
                          none
                    else
                      none
                  else
                    none
                else
                  none
              else
                none
            else
              none
          else
            none
        else
          none
      else
        none
    else
      none
  else
    k0 (w14, w15)
noncomputable def L110x0x45 (N : Nat) {R : Type} (w1 : LD) (w2 : Int) (w4 : Bool) (w7 : Int) (w9 : LD) : Nat → Int → Bool → LD → (Bool × LD → Option R) → Option R
  | 0, _, _, _, _ => none
  | m + 1, w3, w14, w15, k0 => S110x0x45 N w1 w2 w4 w7 w9 w3 w14 w15 (fun w3 w14 w15 => L110x0x45 N w1 w2 w4 w7 w9 m w3 w14 w15 k0) k0
noncomputable def G110x0x45 (w1 : LD) (w2 : Int) (w4 : Bool) (w7 : Int) (w9 : LD) (w3 : Int) (w14 : Bool) (w15 : LD) : Option (Bool × LD) := L110x0x45 N (R := (Bool × LD)) w1 w2 w4 w7 w9 N w3 w14 w15 (fun p => some p)
noncomputable def J110x0x45 (L x : List Lf) (kr : List Lf → Option R) (k0 : Bool × LD → Option R) : Option R := S110x0x45 N (ll L 1) (li L 2) (lb L 4) (li L 7) (ll L 9) (li x 0) (lb x 1) (ll x 2) (fun w3 w14 w15 => kr [.i w3, .b w14, .l w15]) k0
theorem sb110x0x45 (L x : List Lf) (kr : List Lf → Option R) (k0 : Bool × LD → Option R) : J110x0x45 N L x kr k0 = (J110x0x45 N L x (fun y => some (.inl y)) (fun p => some (.inr p))).bind (sumE kr k0) := by
  unfold J110x0x45 S110x0x45
  repeat' (first | with_reducible apply cond_b | (with_reducible apply bnd_b; intro _) | rfl)
noncomputable def Q110x0x45 (L : List Lf) (m : Nat) (x : List Lf) : Option (Bool × LD) := L110x0x45 N (R := (Bool × LD)) (ll L 1) (li L 2) (lb L 4) (li L 7) (ll L 9) m (li x 0) (lb x 1) (ll x 2) (fun p => some p)
noncomputable def sh110x0x45 : Sh := { tmps := [(0, .c (.p 0 0)), (4, .c (.p 6 0)), (43, .c (.sl 78)), (44, .c (.i .i64)), (45, .c (.i .i64))], mem := [(0, .box ([.o 50000002, .b])), (6, .box (.s :: [.i .i64, .i .i64, .sl 78, .sl 82, .sl 9])), (50000002, .row 53 true)] }
noncomputable def K110x0x45w0 (L : List Lf) (p : Bool × LD) : Ex × St := ((.exit 4), mg (ofSh sh110x0x45 L) [] [] [0, 50000002] [(50000002, .row 53 true p.1 p.2)])
noncomputable def A110x0x45 (L : List Lf) : List (Bool × (Ex × St)) := bnd (Q110x0x45 N L N (pk sh110x0x45 [3, 14, 15] L)) fun q => [(q.isSome, K110x0x45w0 L (q.getD default))]
theorem step110x0x45 (m : Nat) (kn : St → Option (Ex × St)) (L x : List Lf) : lpB Try.prog (T106x1 N) (h110x0s4 N).h 2 110 45 sh110x0x45 [3, 14, 15] [] [50000002, 0] (m + 100) kn L x = J110x0x45 N L x (fun y => kn (ofSh sh110x0x45 (mx sh110x0x45 [3, 14, 15] L y))) (fun p => some (K110x0x45w0 L p)) := by kernel_rfl
theorem ql110x0x45 (L : List Lf) (m : Nat) (x : List Lf) : Q110x0x45 N L (m + 1) x = J110x0x45 N L x (Q110x0x45 N L m) some := by kernel_rfl
noncomputable def h110x0s5 : Sg Try.prog 2 110 :=
  (h110x0s4 N).lp (A110x0x45 N) N progOk (T106x1_ok N) (fun m kn L x => (step110x0x45 N m kn L x).trans (sb110x0x45 N L x _ _)) (fun L m x => (ql110x0x45 N L m x).trans (sb110x0x45 N L x (Q110x0x45 N L m) some)) fun L x hx => alt1 x hx
noncomputable def F110x0 (v2 : Int) (v4 : LD) (v9 v10 v11 : Int) (v12 : Bool) (v14 : LD) (k0 : Unit → Option R) (k1 : Bool × LD → Option R) : Option R :=
  bif ((v4.length : Int) == 0) then
    k0 ()
  else
    bnd (G110x0x12 N 0 false [(.a [(.i v9), (.i v10), (.i v11)])]) fun y0 =>
    bif y0.isSome then
      bnd (G110x0x27 N 0 (y0.getD default).1 (y0.getD default).2) fun y1 =>
      bif y1.isSome then
        bnd (G106x1 N 1 20 (y1.getD default).1 (y1.getD default).2 v12 v14) fun y2 =>
        bif y2.isSome then
          bnd (G110x0x45 N v4 (v4.length : Int) v12 v2 v4 0 false (y2.getD default)) fun y3 =>
          bif y3.isSome then
            k1 (y3.getD default)
          else
            none
        else
          none
      else
        none
    else
      none
noncomputable def G110x0 (v2 : Int) (v4 : LD) (v9 v10 v11 : Int) (v12 : Bool) (v14 : LD) : Option (Sum (Unit) (Bool × LD)) := F110x0 N v2 v4 v9 v10 v11 v12 v14 (fun p => some (.inl p)) (fun p => some (.inr p))
theorem bind110x0 (v2 : Int) (v4 : LD) (v9 v10 v11 : Int) (v12 : Bool) (v14 : LD) (k0 : Unit → Option R) (k1 : Bool × LD → Option R) : F110x0 N v2 v4 v9 v10 v11 v12 v14 k0 k1 = (G110x0 N v2 v4 v9 v10 v11 v12 v14).bind (sumE k0 k1) := by
  unfold G110x0 F110x0
  repeat' (first | with_reducible apply cond_b | (with_reducible apply bnd_b; intro _) | rfl)
noncomputable def J110x0 (L : List Lf) (k0 : Unit → Option R) (k1 : Bool × LD → Option R) : Option R := F110x0 N (li L 2) (ll L 4) (li L 9) (li L 10) (li L 11) (lb L 12) (ll L 14) k0 k1
noncomputable def sh110x0 : Sh := { tmps := [(0, .c (.p 0 0)), (1, .g (.s :: [.i .i64, .i .i64, .sl 78, .sl 82, .sl 9])), (2, .g ([.i .i64, .i .i64, .i .i64]))], mem := [(0, .box ([.o 1, .b])), (1, .row 53 true)] }
noncomputable def K110x0w1 (L : List Lf) (p : Bool × LD) : Res := ([], [(0, .box [.o 50000002, .b (lb L 12)]), (50000002, .row 53 true p.1 p.2)])
noncomputable def A110x0 (L : List Lf) : List (Bool × Res) := bnd (J110x0 N L (fun p => some (.inl p)) (fun p => some (.inr p))) fun q => [((inlB q), ([], mgA (ofSh sh110x0 L).mem [] [0, 1])), ((inrQ q).isSome, K110x0w1 L ((inrQ q).getD default))]
theorem raw110x0 (L : List Lf) : bd Try.prog (T106x1 N) (h110x0s5 N).h 110 sh110x0 L = J110x0 N L (fun _ => some ([], mgA (ofSh sh110x0 L).mem [] [0, 1])) (fun p => some (K110x0w1 L p)) := by kernel_rfl
theorem ok110x0 : FnOk Try.prog 110 sh110x0 (A110x0 N) :=
  (h110x0s5 N).fn progOk (T106x1_ok N) fun L x hx => ((raw110x0 N L).trans ((bind110x0 N ..).trans ((altS alt1) x hx)))
noncomputable def T110x0 : Oracle := ext 110 (spSh sh110x0 (A110x0 N)) (T106x1 N)
theorem T110x0_ok : OracleOk Try.prog (T110x0 N) := FnOk.to (ok110x0 N) (T106x1_ok N)
noncomputable def rg49x0 : List (Nat × List Nat) := [(0, [0, 1]), (1, [2, 4, 1]), (2, [6, 4, 2, 1]), (3, [6, 4]), (4, [2, 4, 1]), (5, [4]), (6, [1, 2, 4]), (7, [7, 2, 4]), (8, [7, 8, 2, 4]), (9, [7, 8, 9, 2, 4]), (10, [7, 2, 9, 8, 4]), (11, [2, 7, 9, 8, 4]), (12, [7, 9, 2, 8, 4]), (13, [2, 7, 8, 9, 4]), (14, [64, 63, 62, 7, 2, 8, 9, 4]), (15, [62, 64, 7, 63, 2, 8, 9, 4]), (16, [7, 11, 64, 63, 62, 2, 8, 9, 4]), (17, [64, 63, 62, 7, 2, 8, 9, 4]), (18, [2, 7, 8, 9, 4]), (19, [7, 8, 9, 2, 4]), (20, [2, 7, 8, 4]), (21, [88, 87, 86, 7, 2, 8, 4]), (22, [86, 88, 7, 2, 87, 8, 4]), (23, [7, 2, 13, 88, 87, 86, 8, 4]), (24, [88, 87, 86, 7, 2, 8, 4]), (25, [7, 2, 8, 4]), (26, [7, 4])]
noncomputable def hd49x0 : Hints := [(38, [7, 9, 2, 8, 4, 55], [8, 52000000033, 29, 4, 2], []), (42, [64, 63, 62, 7, 2, 8, 9, 4], [8, 61000000027, 29, 4, 2, 50029000], [50029000]), (59, [7, 8, 9, 2, 4, 77], [8, 50029000, 29, 4, 2], []), (63, [88, 87, 86, 7, 2, 8, 4], [8, 85000000027, 29, 4, 2, 50029000], [50029000]), (76, [7, 2, 8, 4], [8, 50029000, 29, 4, 2], [])]
noncomputable def h49x0s0 (N : Nat) : Sg Try.prog 0 49 := .start hd49x0 rg49x0
noncomputable def F49x0x38 (w0 w15 : Bool) (w17 : LD) (k0 : LD → Option R) (k1 : Unit → Option R) : Option R :=
  bif w0 then
    bnd (G106x1 N 3 30 false [(.a [(.i 1), (.i 60), (.i 2)])] w15 w17) fun y0 =>
    bif y0.isSome then
      k0 (y0.getD default)
    else
      none
  else
    k1 ()
noncomputable def G49x0x38 (w0 w15 : Bool) (w17 : LD) : Option (Sum (LD) (Unit)) := F49x0x38 N w0 w15 w17 (fun p => some (.inl p)) (fun p => some (.inr p))
theorem bind49x0x38 (w0 w15 : Bool) (w17 : LD) (k0 : LD → Option R) (k1 : Unit → Option R) : F49x0x38 N w0 w15 w17 k0 k1 = (G49x0x38 N w0 w15 w17).bind (sumE k0 k1) := by
  unfold G49x0x38 F49x0x38
  repeat' (first | with_reducible apply cond_b | (with_reducible apply bnd_b; intro _) | rfl)
noncomputable def sh49x0x38 : Sh := { tmps := [(2, .c (.p 2 0)), (4, .c (.p 4 0)), (7, .c (.p 29 0)), (8, .c (.p 8 0)), (9, .c (.f 105 [])), (55, .c (.b))], mem := [(2, .box (.s :: [.i .i64, .i .i64, .sl 78, .sl 82, .sl 9])), (4, .box ([.sl 53])), (8, .box ([.i .i64, .i .i64, .i .i64])), (29, .box ([.o 52000000033, .b])), (52000000033, .row 53 true)] }
noncomputable def K49x0x38w0 (L : List Lf) (p : LD) : Ex × St := (.normal, mg (ofSh sh49x0x38 L) [2, 4, 7, 8, 9] [] [2, 4, 8, 29, 61000000027] [(29, .box [.o 61000000027, .b (lb L 15)]), (61000000027, .row 53 true false p)])
noncomputable def K49x0x38w1 (L : List Lf) (_ : Unit) : Ex × St := (.normal, mg (ofSh sh49x0x38 L) [2, 4, 7, 8, 9] [] [2, 4, 8, 29, 52000000033] [])
noncomputable def A49x0x38 (L : List Lf) : List (Bool × (Ex × St)) := bnd (F49x0x38 N (lb L 0) (lb L 15) (ll L 17) (fun p => some (.inl p)) (fun p => some (.inr p))) fun q => [((inlB q), K49x0x38w0 L (inlV q)), ((inrQ q).isSome, K49x0x38w1 L ())]
theorem raw49x0x38 (L : List Lf) : pc Try.prog (T110x0 N) (h49x0s0 N).h 0 100 49 38 sh49x0x38 L [2, 7, 8, 9, 4] [8, 61000000027, 29, 4, 2, 52000000033] = F49x0x38 N (lb L 0) (lb L 15) (ll L 17) (fun p => some (K49x0x38w0 L p)) (fun _ => some (K49x0x38w1 L ())) := by kernel_rfl
noncomputable def h49x0s1 : Sg Try.prog 0 49 :=
  (h49x0s0 N).cut (A49x0x38 N) progOk (T110x0_ok N) fun L x hx => (raw49x0x38 N L).trans ((bind49x0x38 N ..).trans ((altS alt1) x hx))
noncomputable def S49x0x42 (w1 : LD) (w2 : Int) (w3 : Int) (w19 : Bool) (w20 : LD) (kr : Int → Bool → LD → Option R) (k0 : Bool × LD → Option R) : Option R :=
  bif (decide (w3 < w2)) then
    bif (inB w3 w1.length) then
      bnd (V109x0 N (w1.getD w3.toNat (.i 0)).toS) fun y0 =>
      bnd (G107x0 N 3 [(.l false y0)] w20) fun y1 =>
      bif y1.isSome then
        kr (IntKind.wrap .i64 (w3 + 1)) false (y1.getD default)
      else
        none
    else
      none
  else
    k0 (w19, w20)
noncomputable def L49x0x42 (N : Nat) {R : Type} (w1 : LD) (w2 : Int) : Nat → Int → Bool → LD → (Bool × LD → Option R) → Option R
  | 0, _, _, _, _ => none
  | m + 1, w3, w19, w20, k0 => S49x0x42 N w1 w2 w3 w19 w20 (fun w3 w19 w20 => L49x0x42 N w1 w2 m w3 w19 w20 k0) k0
noncomputable def G49x0x42 (w1 : LD) (w2 : Int) (w3 : Int) (w19 : Bool) (w20 : LD) : Option (Bool × LD) := L49x0x42 N (R := (Bool × LD)) w1 w2 N w3 w19 w20 (fun p => some p)
noncomputable def J49x0x42 (L x : List Lf) (kr : List Lf → Option R) (k0 : Bool × LD → Option R) : Option R := S49x0x42 N (ll L 1) (li L 2) (li x 0) (lb x 1) (ll x 2) (fun w3 w19 w20 => kr [.i w3, .b w19, .l w20]) k0
theorem sb49x0x42 (L x : List Lf) (kr : List Lf → Option R) (k0 : Bool × LD → Option R) : J49x0x42 N L x kr k0 = (J49x0x42 N L x (fun y => some (.inl y)) (fun p => some (.inr p))).bind (sumE kr k0) := by
  unfold J49x0x42 S49x0x42
  repeat' (first | with_reducible apply cond_b | (with_reducible apply bnd_b; intro _) | rfl)
noncomputable def Q49x0x42 (L : List Lf) (m : Nat) (x : List Lf) : Option (Bool × LD) := L49x0x42 N (R := (Bool × LD)) (ll L 1) (li L 2) m (li x 0) (lb x 1) (ll x 2) (fun p => some p)
noncomputable def sh49x0x42 : Sh := { tmps := [(2, .c (.p 2 0)), (4, .c (.p 4 0)), (7, .c (.p 29 0)), (8, .c (.p 8 0)), (9, .c (.f 105 [])), (62, .c (.sl 9)), (63, .c (.i .i64)), (64, .c (.i .i64))], mem := [(2, .box (.s :: [.i .i64, .i .i64, .sl 78, .sl 82, .sl 9])), (4, .box ([.sl 53])), (8, .box ([.i .i64, .i .i64, .i .i64])), (29, .box ([.o 50029000, .b])), (50029000, .row 53 true)] }
noncomputable def K49x0x42w0 (L : List Lf) (p : Bool × LD) : Ex × St := ((.exit 0), mg (ofSh sh49x0x42 L) [2, 4, 7, 8, 9] [] [2, 4, 8, 29, 50029000] [(50029000, .row 53 true p.1 p.2)])
noncomputable def A49x0x42 (L : List Lf) : List (Bool × (Ex × St)) := bnd (Q49x0x42 N L N (pk sh49x0x42 [3, 19, 20] L)) fun q => [(q.isSome, K49x0x42w0 L (q.getD default))]
theorem step49x0x42 (m : Nat) (kn : St → Option (Ex × St)) (L x : List Lf) : lpB Try.prog (T110x0 N) (h49x0s1 N).h 0 49 42 sh49x0x42 [3, 19, 20] [4, 5, 2, 7, 8, 9] [8, 50029000, 29, 4, 2] (m + 100) kn L x = J49x0x42 N L x (fun y => kn (ofSh sh49x0x42 (mx sh49x0x42 [3, 19, 20] L y))) (fun p => some (K49x0x42w0 L p)) := by kernel_rfl
theorem ql49x0x42 (L : List Lf) (m : Nat) (x : List Lf) : Q49x0x42 N L (m + 1) x = J49x0x42 N L x (Q49x0x42 N L m) some := by kernel_rfl
noncomputable def h49x0s2 : Sg Try.prog 0 49 :=
  (h49x0s1 N).lp (A49x0x42 N) N progOk (T110x0_ok N) (fun m kn L x => (step49x0x42 N m kn L x).trans (sb49x0x42 N L x _ _)) (fun L m x => (ql49x0x42 N L m x).trans (sb49x0x42 N L x (Q49x0x42 N L m) some)) fun L x hx => alt1 x hx
noncomputable def F49x0x59 (w0 : Bool) (w12 w13 w14 : Int) (w15 : Bool) (w17 : LD) (k0 : LD → Option R) (k1 : Unit → Option R) : Option R :=
  bif w0 then
    bnd (G106x1 N 2 19 false [(.a [(.i w12), (.i w13), (.i w14)]), (.a [(.i 1), (.i 4), (.i 0)]), (.a [(.i 2), (.i 60), (.i 2)])] w15 w17) fun y0 =>
    bif y0.isSome then
      k0 (y0.getD default)
    else
      none
  else
    k1 ()
noncomputable def G49x0x59 (w0 : Bool) (w12 w13 w14 : Int) (w15 : Bool) (w17 : LD) : Option (Sum (LD) (Unit)) := F49x0x59 N w0 w12 w13 w14 w15 w17 (fun p => some (.inl p)) (fun p => some (.inr p))
theorem bind49x0x59 (w0 : Bool) (w12 w13 w14 : Int) (w15 : Bool) (w17 : LD) (k0 : LD → Option R) (k1 : Unit → Option R) : F49x0x59 N w0 w12 w13 w14 w15 w17 k0 k1 = (G49x0x59 N w0 w12 w13 w14 w15 w17).bind (sumE k0 k1) := by
  unfold G49x0x59 F49x0x59
  repeat' (first | with_reducible apply cond_b | (with_reducible apply bnd_b; intro _) | rfl)
noncomputable def J49x0x59 (L : List Lf) (k0 : LD → Option R) (k1 : Unit → Option R) : Option R := F49x0x59 N (lb L 0) (li L 12) (li L 13) (li L 14) (lb L 15) (ll L 17) k0 k1
noncomputable def sh49x0x59 : Sh := { tmps := [(2, .c (.p 2 0)), (4, .c (.p 4 0)), (7, .c (.p 29 0)), (8, .c (.p 8 0)), (9, .c (.f 105 [])), (77, .c (.b))], mem := [(2, .box (.s :: [.i .i64, .i .i64, .sl 78, .sl 82, .sl 9])), (4, .box ([.sl 53])), (8, .box ([.i .i64, .i .i64, .i .i64])), (29, .box ([.o 50029000, .b])), (50029000, .row 53 true)] }
noncomputable def K49x0x59w0 (L : List Lf) (p : LD) : Ex × St := (.normal, mg (ofSh sh49x0x59 L) [2, 4, 7, 8] [] [2, 4, 8, 29, 85000000027] [(29, .box [.o 85000000027, .b (lb L 15)]), (85000000027, .row 53 true false p)])
noncomputable def K49x0x59w1 (L : List Lf) (_ : Unit) : Ex × St := (.normal, mg (ofSh sh49x0x59 L) [2, 4, 7, 8] [] [2, 4, 8, 29, 50029000] [])
noncomputable def A49x0x59 (L : List Lf) : List (Bool × (Ex × St)) := bnd (J49x0x59 N L (fun p => some (.inl p)) (fun p => some (.inr p))) fun q => [((inlB q), K49x0x59w0 L (inlV q)), ((inrQ q).isSome, K49x0x59w1 L ())]
theorem raw49x0x59 (L : List Lf) : pc Try.prog (T110x0 N) (h49x0s2 N).h 0 100 49 59 sh49x0x59 L [2, 7, 8, 4] [8, 85000000027, 29, 4, 2, 50029000] = J49x0x59 N L (fun p => some (K49x0x59w0 L p)) (fun _ => some (K49x0x59w1 L ())) := by kernel_rfl
noncomputable def h49x0s3 : Sg Try.prog 0 49 :=
  (h49x0s2 N).cut (A49x0x59 N) progOk (T110x0_ok N) fun L x hx => (raw49x0x59 N L).trans ((bind49x0x59 N ..).trans ((altS alt1) x hx))
noncomputable def S49x0x63 (w1 : LD) (w2 w6 : Int) (w18 : Bool) (w3 : Int) (w19 : Bool) (w20 : LD) (kr : Int → Bool → LD → Option R) (k0 : Bool × LD → Option R) : Option R :=
  bif (decide (w3 < w2)) then
    bif (inB w3 w1.length) then
      bnd (IntKind.wrap .i64 (w6 + ((w1.getD w3.toNat (.i 0)).cell 0).toI)) fun y0 =>
      bnd (G108x0 N y0 4 false w18) fun y1 =>
      bif y1.isSome then
        bnd (IntKind.wrap .i64 (w6 + ((w1.getD w3.toNat (.i 0)).cell 1).toI)) fun y2 =>
        bnd (G108x0 N y2 4 false w18) fun y3 =>
        bif y3.isSome then
          bnd (V109x0 N ((w1.getD w3.toNat (.i 0)).cell 2).toS) fun y4 =>
          bnd (G107x0 N 2 [(.l false (y1.getD default)), (.l false (y3.getD default)), (.l false y4)] w20) fun y5 =>
          bif y5.isSome then
            kr (IntKind.wrap .i64 (w3 + 1)) false (y5.getD default)
          else
            none
        else
          none
      else
        none
    else
      none
  else
    k0 (w19, w20)
noncomputable def L49x0x63 (N : Nat) {R : Type} (w1 : LD) (w2 w6 : Int) (w18 : Bool) : Nat → Int → Bool → LD → (Bool × LD → Option R) → Option R
  | 0, _, _, _, _ => none
  | m + 1, w3, w19, w20, k0 => S49x0x63 N w1 w2 w6 w18 w3 w19 w20 (fun w3 w19 w20 => L49x0x63 N w1 w2 w6 w18 m w3 w19 w20 k0) k0
noncomputable def G49x0x63 (w1 : LD) (w2 w6 : Int) (w18 : Bool) (w3 : Int) (w19 : Bool) (w20 : LD) : Option (Bool × LD) := L49x0x63 N (R := (Bool × LD)) w1 w2 w6 w18 N w3 w19 w20 (fun p => some p)
noncomputable def J49x0x63 (L x : List Lf) (kr : List Lf → Option R) (k0 : Bool × LD → Option R) : Option R := S49x0x63 N (ll L 1) (li L 2) (li L 6) (lb L 18) (li x 0) (lb x 1) (ll x 2) (fun w3 w19 w20 => kr [.i w3, .b w19, .l w20]) k0
theorem sb49x0x63 (L x : List Lf) (kr : List Lf → Option R) (k0 : Bool × LD → Option R) : J49x0x63 N L x kr k0 = (J49x0x63 N L x (fun y => some (.inl y)) (fun p => some (.inr p))).bind (sumE kr k0) := by
  unfold J49x0x63 S49x0x63
  repeat' (first | with_reducible apply cond_b | (with_reducible apply bnd_b; intro _) | rfl)
noncomputable def Q49x0x63 (L : List Lf) (m : Nat) (x : List Lf) : Option (Bool × LD) := L49x0x63 N (R := (Bool × LD)) (ll L 1) (li L 2) (li L 6) (lb L 18) m (li x 0) (lb x 1) (ll x 2) (fun p => some p)
noncomputable def sh49x0x63 : Sh := { tmps := [(2, .c (.p 2 0)), (4, .c (.p 4 0)), (7, .c (.p 29 0)), (8, .c (.p 8 0)), (86, .c (.sl 82)), (87, .c (.i .i64)), (88, .c (.i .i64))], mem := [(2, .box (.s :: [.i .i64, .i .i64, .sl 78, .sl 82, .sl 9])), (4, .box ([.sl 53])), (8, .box ([.i .i64, .i .i64, .i .i64])), (29, .box ([.o 50029000, .b])), (50029000, .row 53 true)] }
noncomputable def K49x0x63w0 (L : List Lf) (p : Bool × LD) : Ex × St := ((.exit 2), mg (ofSh sh49x0x63 L) [2, 4, 7, 8] [] [2, 4, 8, 29, 50029000] [(50029000, .row 53 true p.1 p.2)])
noncomputable def A49x0x63 (L : List Lf) : List (Bool × (Ex × St)) := bnd (Q49x0x63 N L N (pk sh49x0x63 [3, 19, 20] L)) fun q => [(q.isSome, K49x0x63w0 L (q.getD default))]
theorem step49x0x63 (m : Nat) (kn : St → Option (Ex × St)) (L x : List Lf) : lpB Try.prog (T110x0 N) (h49x0s3 N).h 0 49 63 sh49x0x63 [3, 19, 20] [4, 5, 7, 2, 8] [8, 50029000, 29, 4, 2] (m + 100) kn L x = J49x0x63 N L x (fun y => kn (ofSh sh49x0x63 (mx sh49x0x63 [3, 19, 20] L y))) (fun p => some (K49x0x63w0 L p)) := by kernel_rfl
theorem ql49x0x63 (L : List Lf) (m : Nat) (x : List Lf) : Q49x0x63 N L (m + 1) x = J49x0x63 N L x (Q49x0x63 N L m) some := by kernel_rfl
noncomputable def h49x0s4 : Sg Try.prog 0 49 :=
  (h49x0s3 N).lp (A49x0x63 N) N progOk (T110x0_ok N) (fun m kn L x => (step49x0x63 N m kn L x).trans (sb49x0x63 N L x _ _)) (fun L m x => (ql49x0x63 N L m x).trans (sb49x0x63 N L x (Q49x0x63 N L m) some)) fun L x hx => alt1 x hx
noncomputable def F49x0x76 (w2 : Int) (w4 : LD) (w11 w12 w13 : Int) (w14 : Bool) (w16 : LD) (k0 : Unit → Option R) (k1 : Bool × LD → Option R) : Option R :=
  bnd (G110x0 N w2 w4 w11 w12 w13 w14 w16) fun y0 =>
  bif (inlB y0) then
    k0 ()
  else
    bif (inrQ y0).isSome then
      k1 ((inrQ y0).getD default)
    else
      none
noncomputable def G49x0x76 (w2 : Int) (w4 : LD) (w11 w12 w13 : Int) (w14 : Bool) (w16 : LD) : Option (Sum (Unit) (Bool × LD)) := F49x0x76 N w2 w4 w11 w12 w13 w14 w16 (fun p => some (.inl p)) (fun p => some (.inr p))
theorem bind49x0x76 (w2 : Int) (w4 : LD) (w11 w12 w13 : Int) (w14 : Bool) (w16 : LD) (k0 : Unit → Option R) (k1 : Bool × LD → Option R) : F49x0x76 N w2 w4 w11 w12 w13 w14 w16 k0 k1 = (G49x0x76 N w2 w4 w11 w12 w13 w14 w16).bind (sumE k0 k1) := by
  unfold G49x0x76 F49x0x76
  repeat' (first | with_reducible apply cond_b | (with_reducible apply bnd_b; intro _) | rfl)
noncomputable def J49x0x76 (L : List Lf) (k0 : Unit → Option R) (k1 : Bool × LD → Option R) : Option R := F49x0x76 N (li L 2) (ll L 4) (li L 11) (li L 12) (li L 13) (lb L 14) (ll L 16) k0 k1
noncomputable def sh49x0x76 : Sh := { tmps := [(2, .c (.p 2 0)), (4, .c (.p 4 0)), (7, .c (.p 29 0)), (8, .c (.p 8 0))], mem := [(2, .box (.s :: [.i .i64, .i .i64, .sl 78, .sl 82, .sl 9])), (4, .box ([.sl 53])), (8, .box ([.i .i64, .i .i64, .i .i64])), (29, .box ([.o 50029000, .b])), (50029000, .row 53 true)] }
noncomputable def K49x0x76w0 (L : List Lf) (_ : Unit) : Ex × St := (.normal, mg (ofSh sh49x0x76 L) [4, 7] [] [4, 29, 50029000] [])
noncomputable def K49x0x76w1 (L : List Lf) (p : Bool × LD) : Ex × St := (.normal, mg (ofSh sh49x0x76 L) [4, 7] [] [4, 29, 117050000002] [(29, .box [.o 117050000002, .b (lb L 14)]), (117050000002, .row 53 true p.1 p.2)])
noncomputable def A49x0x76 (L : List Lf) : List (Bool × (Ex × St)) := bnd (J49x0x76 N L (fun p => some (.inl p)) (fun p => some (.inr p))) fun q => [((inlB q), K49x0x76w0 L ()), ((inrQ q).isSome, K49x0x76w1 L ((inrQ q).getD default))]
theorem raw49x0x76 (L : List Lf) : pc Try.prog (T110x0 N) (h49x0s4 N).h 0 100 49 76 sh49x0x76 L [7, 4] [50029000, 29, 4, 117050000002] = J49x0x76 N L (fun _ => some (K49x0x76w0 L ())) (fun p => some (K49x0x76w1 L p)) := by kernel_rfl
noncomputable def h49x0s5 : Sg Try.prog 0 49 :=
  (h49x0s4 N).cut (A49x0x76 N) progOk (T110x0_ok N) fun L x hx => (raw49x0x76 N L).trans ((bind49x0x76 N ..).trans ((altS alt1) x hx))
noncomputable def F49x0 (v0 : LB) (v1 v2 : Int) (v4 v6 v8 : LD) (v9 : Bool) (k0 : Bool × LD × Int → Option R) : Option R :=
  bnd (G13x0 N v0 v1 v2 v4 v6 v8) fun y0 =>
  bif y0.isSome then
    bif ((y0.getD default) != 0) then
      k0 (true, [], (y0.getD default))
    else
      bnd (G54x0 N v4) fun y1 =>
      bif y1.isSome then
        bnd (decide ((IntKind.wrap .i64 (v2 + (y1.getD default))) > 4294967294)) fun y2 =>
        bif y2 then
          k0 (true, [], 9)
        else
          bnd (V106x0 N 0 0 false [(.a [(.i 253), (.i 4), (.i 0)]), (.a [(.i 1), (.i 60), (.i 2)]), (.a [(.i 2), (.i 1), (.i 0)])] v9) fun y3 =>
          bnd (G108x0 N v2 4 false v9) fun y4 =>
          bif y4.isSome then
            bnd (V109x0 N v0) fun y5 =>
            bnd (G108x0 N v1 1 false v9) fun y6 =>
            bif y6.isSome then
              bnd (G107x0 N 0 [(.l false (y4.getD default)), (.l false y5), (.l false (y6.getD default))] y3) fun y7 =>
              bif y7.isSome then
                bnd (G49x0x38 N (decide ((v8.length : Int) > 0)) v9 (y7.getD default)) fun y8 =>
                bif (inlB y8) then
                  bnd (G49x0x42 N v8 (v8.length : Int) 0 false (inlV y8)) fun y9 =>
                  bif y9.isSome then
                    bnd (G49x0x59 N (decide ((v6.length : Int) > 0)) 253 4 0 v9 (y9.getD default).2) fun y10 =>
                    bif (inlB y10) then
                      bnd (G49x0x63 N v6 (v6.length : Int) v2 v9 0 false (inlV y10)) fun y11 =>
                      bif y11.isSome then
                        bnd (G49x0x76 N v2 v4 253 4 0 v9 (y11.getD default).2) fun y12 =>
                        bif (inlB y12) then
                          k0 ((y11.getD default).1, (y11.getD default).2, 0)
                        else
                          bif (inrQ y12).isSome then
                            k0 (((inrQ y12).getD default).1, ((inrQ y12).getD default).2, 0)
                          else
                            none
                      else
                        none
                    else
                      bif (inrQ y10).isSome then
                        bnd (G49x0x63 N v6 (v6.length : Int) v2 v9 0 (y9.getD default).1 (y9.getD default).2) fun y13 =>
                        bif y13.isSome then
                          bnd (G49x0x76 N v2 v4 253 4 0 v9 (y13.getD default).2) fun y14 =>
                          bif (inlB y14) then
                            k0 ((y13.getD default).1, (y13.getD default).2, 0)
                          else
                            bif (inrQ y14).isSome then
                              k0 (((inrQ y14).getD default).1, ((inrQ y14).getD default).2, 0)
                            else
                              none
                        else
                          none
                      else
                        none
                  else
                    none
                else
                  bif (inrQ y8).isSome then
                    bnd (G49x0x42 N v8 (v8.length : Int) 0 false (y7.getD default)) fun y15 =>
                    bif y15.isSome then
                      bnd (G49x0x59 N (decide ((v6.length : Int) > 0)) 253 4 0 v9 (y15.getD default).2) fun y16 =>
                      bif (inlB y16) then
                        bnd (G49x0x63 N v6 (v6.length : Int) v2 v9 0 false (inlV y16)) fun y17 =>
                        bif y17.isSome then
                          bnd (G49x0x76 N v2 v4 253 4 0 v9 (y17.getD default).2) fun y18 =>
                          bif (inlB y18) then
                            k0 ((y17.getD default).1, (y17.getD default).2, 0)
                          else
                            bif (inrQ y18).isSome then
                              k0 (((inrQ y18).getD default).1, ((inrQ y18).getD default).2, 0)
                            else
                              none
                        else
                          none
                      else
                        bif (inrQ y16).isSome then
                          bnd (G49x0x63 N v6 (v6.length : Int) v2 v9 0 (y15.getD default).1 (y15.getD default).2) fun y19 =>
                          bif y19.isSome then
                            bnd (G49x0x76 N v2 v4 253 4 0 v9 (y19.getD default).2) fun y20 =>
                            bif (inlB y20) then
                              k0 ((y19.getD default).1, (y19.getD default).2, 0)
                            else
                              bif (inrQ y20).isSome then
                                k0 (((inrQ y20).getD default).1, ((inrQ y20).getD default).2, 0)
                              else
                                none
                          else
                            none
                        else
                          none
                    else
                      none
                  else
                    none
              else
                none
            else
              none
          else
            none
      else
        none
  else
    none
noncomputable def G49x0 (v0 : LB) (v1 v2 : Int) (v4 v6 v8 : LD) (v9 : Bool) : Option (Bool × LD × Int) := F49x0 N v0 v1 v2 v4 v6 v8 v9 (fun p => some p)
theorem bind49x0 (v0 : LB) (v1 v2 : Int) (v4 v6 v8 : LD) (v9 : Bool) (k0 : Bool × LD × Int → Option R) : F49x0 N v0 v1 v2 v4 v6 v8 v9 k0 = (G49x0 N v0 v1 v2 v4 v6 v8 v9).bind k0 := by
  unfold G49x0 F49x0
  repeat' (first | with_reducible apply cond_b | (with_reducible apply bnd_b; intro _) | rfl)
noncomputable def J49x0 (L : List Lf) (k0 : Bool × LD × Int → Option R) : Option R := F49x0 N (ls L 0) (li L 1) (li L 2) (ll L 4) (ll L 6) (ll L 8) (lb L 9) k0
noncomputable def sh49x0 : Sh := { tmps := [(0, .g (.s :: [.i .i64, .i .i64, .sl 78, .sl 82, .sl 9])), (1, .c (.b))], mem := [] }
noncomputable def A49x0 (L : List Lf) : List (Bool × Res) := bnd (J49x0 N L (fun p => some p)) fun q => [(q.isSome, ([.g [.sl 53 (q.getD default).1 (q.getD default).2.1], .c (.i .i64 (q.getD default).2.2)], []))]
theorem raw49x0 (L : List Lf) : bd Try.prog (T110x0 N) (h49x0s5 N).h 49 sh49x0 L = J49x0 N L (fun p => some ([.g [.sl 53 p.1 p.2.1], .c (.i .i64 p.2.2)], [])) := by kernel_rfl
theorem ok49x0 : FnOk Try.prog 49 sh49x0 (A49x0 N) :=
  (h49x0s5 N).fn progOk (T110x0_ok N) fun L x hx => ((raw49x0 N L).trans ((bind49x0 N ..).trans (alt1 x hx)))
noncomputable def T49x0 : Oracle := ext 49 (spSh sh49x0 (A49x0 N)) (T110x0 N)
theorem T49x0_ok : OracleOk Try.prog (T49x0 N) := FnOk.to (ok49x0 N) (T110x0_ok N)
noncomputable def rg17x0 : List (Nat × List Nat) := [(0, []), (1, []), (2, [1]), (3, [2, 3]), (4, [3, 5, 4])]
noncomputable def hd17x0 : Hints := [(13, [3, 5, 4], [], [])]
noncomputable def h17x0s0 (N : Nat) : Sg Try.prog 0 17 := .start hd17x0 rg17x0
noncomputable def F17x0x13 (w0 : Int) (w2 : LD) (w3 : Int) (k0 : Bool → Option R) : Option R :=
  bif (bif (w0 == 0) then (w3 == 0) else false) then
    bnd (G24x0 N w2 [(.i (-1)), (.i 100), (.i (-1)), (.i 100), (.i 105)]) fun y0 =>
    bif y0.isSome then
      k0 (y0.getD default)
    else
      none
  else
    k0 false
noncomputable def G17x0x13 (w0 : Int) (w2 : LD) (w3 : Int) : Option (Bool) := F17x0x13 N w0 w2 w3 (fun p => some p)
theorem bind17x0x13 (w0 : Int) (w2 : LD) (w3 : Int) (k0 : Bool → Option R) : F17x0x13 N w0 w2 w3 k0 = (G17x0x13 N w0 w2 w3).bind k0 := by
  unfold G17x0x13 F17x0x13
  repeat' (first | with_reducible apply cond_b | (with_reducible apply bnd_b; intro _) | rfl)
noncomputable def sh17x0x13 : Sh := { tmps := [(3, .c (.i .i64)), (4, .c (.sl 3)), (5, .c (.i .i64))], mem := [] }
noncomputable def A17x0x13 (L : List Lf) : List (Bool × (Ex × St)) := bnd (F17x0x13 N (li L 0) (ll L 2) (li L 3) (fun p => some p)) fun q => [(q.isSome, (.normal, ⟨[(0, .c (.b (q.getD default)))], []⟩))]
theorem raw17x0x13 (L : List Lf) : pc Try.prog (T49x0 N) (h17x0s0 N).h 0 100 17 13 sh17x0x13 L [0] [] = F17x0x13 N (li L 0) (ll L 2) (li L 3) (fun p => some (.normal, ⟨[(0, .c (.b p))], []⟩)) := by kernel_rfl
noncomputable def h17x0s1 : Sg Try.prog 0 17 :=
  (h17x0s0 N).cut (A17x0x13 N) progOk (T49x0_ok N) fun L x hx => (raw17x0x13 N L).trans ((bind17x0x13 N ..).trans (alt1 x hx))
noncomputable def F17x0 (k0 : Bool → Option R) : Option R :=
  bnd (G49x0 N ([109] : List UInt8) 1 100 [(.a [(.i 0), (.i 0), (.i 0), (.i 0), (.i (-1)), (.i (-1)), (.i (-1))]), (.a [(.i 5), (.i 4), (.i 0), (.i 0), (.i 120), (.i (-1)), (.i (-1))])] [] [] false) fun y0 =>
  bif y0.isSome then
    bnd (G18x0 N (y0.getD default).2.1) fun y1 =>
    bif y1.isSome then
      bnd (G17x0x13 N (y0.getD default).2.2 (y1.getD default).2.1 (y1.getD default).2.2) fun y2 =>
      bif y2.isSome then
        k0 (y2.getD default)
      else
        none
    else
      none
  else
    none
noncomputable def G17x0 : Option (Bool) := F17x0 N (fun p => some p)
theorem bind17x0 (k0 : Bool → Option R) : F17x0 N k0 = (G17x0 N).bind k0 := by
  unfold G17x0 F17x0
  repeat' (first | with_reducible apply cond_b | (with_reducible apply bnd_b; intro _) | rfl)
noncomputable def sh17x0 : Sh := { tmps := [], mem := [] }
noncomputable def A17x0 (L : List Lf) : List (Bool × Res) := bnd (F17x0 N (fun p => some p)) fun q => [(q.isSome, ([.c (.b (q.getD default))], []))]
theorem raw17x0 (L : List Lf) : bd Try.prog (T49x0 N) (h17x0s1 N).h 17 sh17x0 L = F17x0 N (fun p => some ([.c (.b p)], [])) := by kernel_rfl
theorem ok17x0 : FnOk Try.prog 17 sh17x0 (A17x0 N) :=
  (h17x0s1 N).fn progOk (T49x0_ok N) fun L x hx => ((raw17x0 N L).trans ((bind17x0 N ..).trans (alt1 x hx)))
noncomputable def T17x0 : Oracle := ext 17 (spSh sh17x0 (A17x0 N)) (T49x0 N)
theorem T17x0_ok : OracleOk Try.prog (T17x0 N) := FnOk.to (ok17x0 N) (T49x0_ok N)
noncomputable def rg6x0 : List (Nat × List Nat) := [(0, [0, 1]), (1, [2, 1]), (2, [2, 1, 5, 6]), (3, [2, 5, 7, 6, 8]), (4, [2, 5, 7, 6, 8, 9, 10]), (5, [5, 7, 6, 8, 9, 11, 10, 12, 2]), (6, []), (7, [10, 2, 9]), (8, [2, 9]), (9, [9, 14, 13]), (10, [14, 16, 13, 15, 9]), (11, []), (12, [])]
noncomputable def hd6x0 : Hints := [(16, [5, 7, 6, 8, 9, 11, 10, 12, 2], [11, 9, 2], []), (31, [14, 16, 13, 15, 9], [9], []), (26, [2, 9, 60], [9, 2], [])]
noncomputable def h6x0s0 (N : Nat) : Sg Try.prog 0 6 := .start hd6x0 rg6x0
noncomputable def F6x0x16 (w1 : LD) (w2 : Int) (w4 : LD) (w5 w6 w7 : Int) (w11 w13 : LD) (k0 : Bool → Option R) : Option R :=
  bnd (G24x0 N w1 w4) fun y0 =>
  bif y0.isSome then
    bif (bif (!(y0.getD default)) then true else (w2 != w5)) then
      k0 true
    else
      bnd (G28x0 N w11 w13) fun y1 =>
      bif y1.isSome then
        k0 (bif (!(y1.getD default)) then true else (w6 != w7))
      else
        none
  else
    none
noncomputable def G6x0x16 (w1 : LD) (w2 : Int) (w4 : LD) (w5 w6 w7 : Int) (w11 w13 : LD) : Option (Bool) := F6x0x16 N w1 w2 w4 w5 w6 w7 w11 w13 (fun p => some p)
theorem bind6x0x16 (w1 : LD) (w2 : Int) (w4 : LD) (w5 w6 w7 : Int) (w11 w13 : LD) (k0 : Bool → Option R) : F6x0x16 N w1 w2 w4 w5 w6 w7 w11 w13 k0 = (G6x0x16 N w1 w2 w4 w5 w6 w7 w11 w13).bind k0 := by
  unfold G6x0x16 F6x0x16
  repeat' (first | with_reducible apply cond_b | (with_reducible apply bnd_b; intro _) | rfl)
noncomputable def J6x0x16 (L : List Lf) (k0 : Bool → Option R) : Option R := F6x0x16 N (ll L 1) (li L 2) (ll L 4) (li L 5) (li L 6) (li L 7) (ll L 11) (ll L 13) k0
noncomputable def sh6x0x16 : Sh := { tmps := [(2, .c (.p 2 0)), (5, .c (.sl 3)), (6, .c (.i .i64)), (7, .c (.sl 3)), (8, .c (.i .i64)), (9, .c (.p 9 0)), (10, .c (.i .i64)), (11, .c (.p 11 0)), (12, .c (.i .i64))], mem := [(2, .box ([.sl 53])), (9, .box ([.sl 53])), (11, .box ([.sl 53]))] }
noncomputable def K6x0x16w0 (L : List Lf) (p : Bool) : Ex × St := (.normal, mg (ofSh sh6x0x16 L) [2, 9, 10, 58] [(58, .c (.b p))] [2, 9] [])
noncomputable def A6x0x16 (L : List Lf) : List (Bool × (Ex × St)) := bnd (J6x0x16 N L (fun p => some p)) fun q => [(q.isSome, K6x0x16w0 L (q.getD default))]
theorem raw6x0x16 (L : List Lf) : pc Try.prog (T17x0 N) (h6x0s0 N).h 0 100 6 16 sh6x0x16 L [10, 2, 9, 58] [9, 2] = J6x0x16 N L (fun p => some (K6x0x16w0 L p)) := by kernel_rfl
noncomputable def h6x0s1 : Sg Try.prog 0 6 :=
  (h6x0s0 N).cut (A6x0x16 N) progOk (T17x0_ok N) fun L x hx => (raw6x0x16 N L).trans ((bind6x0x16 N ..).trans (alt1 x hx))
noncomputable def F6x0x31 (w1 : LD) (w2 : Int) (w4 : LD) (w5 : Int) (w7 : LD) (k0 : Bool → Option R) : Option R :=
  bif (bif (w2 != 0) then true else (w5 != 0)) then
    k0 true
  else
    bnd (G24x0 N w1 w4) fun y0 =>
    bif y0.isSome then
      bif (!(y0.getD default)) then
        k0 true
      else
        bnd (G33x0 N w7) fun y1 =>
        bif y1.isSome then
          k0 (y1.getD default)
        else
          none
    else
      none
noncomputable def G6x0x31 (w1 : LD) (w2 : Int) (w4 : LD) (w5 : Int) (w7 : LD) : Option (Bool) := F6x0x31 N w1 w2 w4 w5 w7 (fun p => some p)
theorem bind6x0x31 (w1 : LD) (w2 : Int) (w4 : LD) (w5 : Int) (w7 : LD) (k0 : Bool → Option R) : F6x0x31 N w1 w2 w4 w5 w7 k0 = (G6x0x31 N w1 w2 w4 w5 w7).bind k0 := by
  unfold G6x0x31 F6x0x31
  repeat' (first | with_reducible apply cond_b | (with_reducible apply bnd_b; intro _) | rfl)
noncomputable def J6x0x31 (L : List Lf) (k0 : Bool → Option R) : Option R := F6x0x31 N (ll L 1) (li L 2) (ll L 4) (li L 5) (ll L 7) k0
noncomputable def sh6x0x31 : Sh := { tmps := [(9, .c (.p 9 0)), (13, .c (.sl 3)), (14, .c (.i .i64)), (15, .c (.sl 3)), (16, .c (.i .i64))], mem := [(9, .box ([.sl 53]))] }
noncomputable def A6x0x31 (L : List Lf) : List (Bool × (Ex × St)) := bnd (J6x0x31 N L (fun p => some p)) fun q => [(q.isSome, (.normal, ⟨[(87, .c (.b (q.getD default)))], []⟩))]
theorem raw6x0x31 (L : List Lf) : pc Try.prog (T17x0 N) (h6x0s1 N).h 0 100 6 31 sh6x0x31 L [87] [] = J6x0x31 N L (fun p => some (.normal, ⟨[(87, .c (.b p))], []⟩)) := by kernel_rfl
noncomputable def h6x0s2 : Sg Try.prog 0 6 :=
  (h6x0s1 N).cut (A6x0x31 N) progOk (T17x0_ok N) fun L x hx => (raw6x0x31 N L).trans ((bind6x0x31 N ..).trans (alt1 x hx))
noncomputable def F6x0x26 (w0 : Bool) (w2 w4 : LD) (k0 : Unit → Option R) (k1 : Unit → Option R) : Option R :=
  bif w0 then
    bnd (G18x0 N w2) fun y0 =>
    bif y0.isSome then
      bnd (G18x0 N w4) fun y1 =>
      bif y1.isSome then
        bnd (G6x0x31 N (y0.getD default).2.1 (y0.getD default).2.2 (y1.getD default).2.1 (y1.getD default).2.2 w4) fun y2 =>
        bif y2.isSome then
          bif (y2.getD default) then
            k0 ()
          else
            k1 ()
        else
          none
      else
        none
    else
      none
  else
    k1 ()
noncomputable def G6x0x26 (w0 : Bool) (w2 w4 : LD) : Option (Sum (Unit) (Unit)) := F6x0x26 N w0 w2 w4 (fun p => some (.inl p)) (fun p => some (.inr p))
theorem bind6x0x26 (w0 : Bool) (w2 w4 : LD) (k0 : Unit → Option R) (k1 : Unit → Option R) : F6x0x26 N w0 w2 w4 k0 k1 = (G6x0x26 N w0 w2 w4).bind (sumE k0 k1) := by
  unfold G6x0x26 F6x0x26
  repeat' (first | with_reducible apply cond_b | (with_reducible apply bnd_b; intro _) | rfl)
noncomputable def sh6x0x26 : Sh := { tmps := [(2, .c (.p 2 0)), (9, .c (.p 9 0)), (60, .c (.b))], mem := [(2, .box ([.sl 53])), (9, .box ([.sl 53]))] }
noncomputable def A6x0x26 (L : List Lf) : List (Bool × (Ex × St)) := bnd (F6x0x26 N (lb L 0) (ll L 2) (ll L 4) (fun p => some (.inl p)) (fun p => some (.inr p))) fun q => [((inlB q), (.ret, ⟨[(4, .c (.b false))], []⟩)), ((inrQ q).isSome, (.normal, ⟨[], []⟩))]
theorem raw6x0x26 (L : List Lf) : pc Try.prog (T17x0 N) (h6x0s2 N).h 0 100 6 26 sh6x0x26 L [4] [] = F6x0x26 N (lb L 0) (ll L 2) (ll L 4) (fun _ => some (.ret, ⟨[(4, .c (.b false))], []⟩)) (fun _ => some (.normal, ⟨[], []⟩)) := by kernel_rfl
noncomputable def h6x0s3 : Sg Try.prog 0 6 :=
  (h6x0s2 N).cut (A6x0x26 N) progOk (T17x0_ok N) fun L x hx => (raw6x0x26 N L).trans ((bind6x0x26 N ..).trans ((altS alt1) x hx))
noncomputable def F6x0 (v1 : LD) (v2 : Int) (k0 : Bool → Option R) : Option R :=
  bnd (G29x0 N v1 v2) fun y0 =>
  bif y0.isSome then
    bnd (G30x0 N v1 v2) fun y1 =>
    bif y1.isSome then
      bnd (G31x0 N v1) fun y2 =>
      bif y2.isSome then
        bnd (G32x0 N v1) fun y3 =>
        bif y3.isSome then
          bnd (G6x0x16 N (y0.getD default).2.1 (y0.getD default).2.2 (y1.getD default).2.1 (y1.getD default).2.2 (y2.getD default).2.2 (y3.getD default).2.2 (y2.getD default).2.1 (y3.getD default).2.1) fun y4 =>
          bif y4.isSome then
            bif (y4.getD default) then
              k0 false
            else
              bnd (G6x0x26 N ((y2.getD default).2.2 == 0) v1 (y2.getD default).2.1) fun y5 =>
              bif (inlB y5) then
                k0 false
              else
                bif (inrQ y5).isSome then
                  bnd (G17x0 N) fun y6 =>
                  bif y6.isSome then
                    k0 (y6.getD default)
                  else
                    none
                else
                  none
          else
            none
        else
          none
      else
        none
    else
      none
  else
    none
noncomputable def G6x0 (v1 : LD) (v2 : Int) : Option (Bool) := F6x0 N v1 v2 (fun p => some p)
theorem bind6x0 (v1 : LD) (v2 : Int) (k0 : Bool → Option R) : F6x0 N v1 v2 k0 = (G6x0 N v1 v2).bind k0 := by
  unfold G6x0 F6x0
  repeat' (first | with_reducible apply cond_b | (with_reducible apply bnd_b; intro _) | rfl)
noncomputable def sh6x0 : Sh := { tmps := [(0, .g ([.sl 53])), (1, .c (.i .i64))], mem := [] }
noncomputable def A6x0 (L : List Lf) : List (Bool × Res) := bnd (F6x0 N (ll L 1) (li L 2) (fun p => some p)) fun q => [(q.isSome, ([.c (.b (q.getD default))], []))]
theorem raw6x0 (L : List Lf) : bd Try.prog (T17x0 N) (h6x0s3 N).h 6 sh6x0 L = F6x0 N (ll L 1) (li L 2) (fun p => some ([.c (.b p)], [])) := by kernel_rfl
theorem ok6x0 : FnOk Try.prog 6 sh6x0 (A6x0 N) :=
  (h6x0s3 N).fn progOk (T17x0_ok N) fun L x hx => ((raw6x0 N L).trans ((bind6x0 N ..).trans (alt1 x hx)))
noncomputable def T6x0 : Oracle := ext 6 (spSh sh6x0 (A6x0 N)) (T17x0 N)
theorem T6x0_ok : OracleOk Try.prog (T6x0 N) := FnOk.to (ok6x0 N) (T17x0_ok N)
end Go.Proofs.Ytnnofignhdijiaa
