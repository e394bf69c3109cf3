/- Functions of the program as plain Lean definitions, each with the proof that the program computes it. No condition. Printed by a program of the prover, part 2. -/
import Derived.Test.YtngnemeafkmaoaaVPp1
import Derived.KernelRfl
set_option linter.all false
set_option maxRecDepth 100000
namespace Go.Proofs.Ytngnemeafkmaoaa
open Go Go.AM
variable (N : Nat) {R : Type}
noncomputable def T59x0 : Oracle := ext 59 (spSh sh59x0 (A59x0 N)) (T83x0 N)
theorem T59x0_ok : OracleOk Try.prog (T59x0 N) := FnOk.to (ok59x0 N) (T83x0_ok N)
noncomputable def rg33x0 : List (Nat × List Nat) := [(0, [0]), (1, [1]), (2, []), (3, [1]), (4, [13, 12, 11]), (5, [11, 13, 12]), (6, [4, 13, 12, 11]), (7, [5, 13, 12, 11]), (8, [5]), (9, [13, 12, 11]), (10, [])]
noncomputable def hd33x0 : Hints := [(12, [13, 12, 11], [], [])]
noncomputable def h33x0s0 (N : Nat) : Sg Try.prog 0 33 := .start hd33x0 rg33x0
noncomputable def S33x0x12 (w1 : LD) (w2 : Int) (w3 : Int) (kr : Int → Option R) (k0 : Int → Option R) (k1 : Unit → Option R) : Option R :=
  bif (decide (w3 < w2)) then
    bif (inB w3 w1.length) then
      bnd (G59x0 N ((w1.getD w3.toNat (.i 0)).cell 0).toI ((w1.getD w3.toNat (.i 0)).cell 1).toI ((w1.getD w3.toNat (.i 0)).cell 2).toI ((w1.getD w3.toNat (.i 0)).cell 3).toI ((w1.getD w3.toNat (.i 0)).cell 4).toI ((w1.getD w3.toNat (.i 0)).cell 5).toI ((w1.getD w3.toNat (.i 0)).cell 6).toI ((w1.getD w3.toNat (.i 0)).cell 7).toI ((w1.getD w3.toNat (.i 0)).cell 8).toS) fun y0 =>
      bif y0.isSome then
        bif ((y0.getD default) != 0) then
          k0 (y0.getD default)
        else
          kr (IntKind.wrap .i64 (w3 + 1))
      else
        none
    else
      none
  else
    k1 ()
noncomputable def L33x0x12 (N : Nat) {R : Type} (w1 : LD) (w2 : Int) : Nat → Int → (Int → Option R) → (Unit → Option R) → Option R
  | 0, _, _, _ => none
  | m + 1, w3, k0, k1 => S33x0x12 N w1 w2 w3 (fun w3 => L33x0x12 N w1 w2 m w3 k0 k1) k0 k1
noncomputable def G33x0x12 (w1 : LD) (w2 : Int) (w3 : Int) : Option (Sum (Int) (Unit)) := L33x0x12 N (R := (Sum (Int) (Unit))) w1 w2 N w3 (fun p => some (.inl p)) (fun p => some (.inr p))
noncomputable def J33x0x12 (L x : List Lf) (kr : List Lf → Option R) (k0 : Int → Option R) (k1 : Unit → Option R) : Option R := S33x0x12 N (ll L 1) (li L 2) (li x 0) (fun w3 => kr [.i w3]) k0 k1
theorem sb33x0x12 (L x : List Lf) (kr : List Lf → Option R) (k0 : Int → Option R) (k1 : Unit → Option R) : J33x0x12 N L x kr k0 k1 = (J33x0x12 N L x (fun y => some (.inl y)) (fun p => some (.inr (.inl p))) (fun p => some (.inr (.inr p)))).bind (sumE kr (sumE k0 k1)) := by
  unfold J33x0x12 S33x0x12
  repeat' (first | with_reducible apply cond_b | (with_reducible apply bnd_b; intro _) | rfl)
noncomputable def Q33x0x12 (L : List Lf) (m : Nat) (x : List Lf) : Option (Sum (Int) (Unit)) := L33x0x12 N (R := (Sum (Int) (Unit))) (ll L 1) (li L 2) m (li x 0) (fun p => some (.inl p)) (fun p => some (.inr p))
noncomputable def sh33x0x12 : Sh := { tmps := [(11, .c (.sl 70)), (12, .c (.i .i64)), (13, .c (.i .i64))], mem := [] }
noncomputable def A33x0x12 (L : List Lf) : List (Bool × (Ex × St)) := bnd (Q33x0x12 N L N (pk sh33x0x12 [3] L)) fun q => [((inlB q), (.ret, ⟨[(2, .c (.i .i64 (inlV q)))], []⟩)), ((inrQ q).isSome, ((.exit 0), ⟨[], []⟩))]
theorem step33x0x12 (m : Nat) (kn : St → Option (Ex × St)) (L x : List Lf) : lpB Try.prog (T59x0 N) (h33x0s0 N).h 0 33 12 sh33x0x12 [3] [2] [] (m + 100) kn L x = J33x0x12 N L x (fun y => kn (ofSh sh33x0x12 (mx sh33x0x12 [3] L y))) (fun p => some (.ret, ⟨[(2, .c (.i .i64 p))], []⟩)) (fun _ => some ((.exit 0), ⟨[], []⟩)) := by kernel_rfl
theorem ql33x0x12 (L : List Lf) (m : Nat) (x : List Lf) : Q33x0x12 N L (m + 1) x = J33x0x12 N L x (Q33x0x12 N L m) (fun p => some (.inl p)) (fun p => some (.inr p)) := by kernel_rfl
noncomputable def h33x0s1 : Sg Try.prog 0 33 :=
  (h33x0s0 N).lp (A33x0x12 N) N progOk (T59x0_ok N) (fun m kn L x => (step33x0x12 N m kn L x).trans (sb33x0x12 N L x _ _ _)) (fun L m x => (ql33x0x12 N L m x).trans (sb33x0x12 N L x (Q33x0x12 N L m) (fun p => some (.inl p)) (fun p => some (.inr p)))) fun L x hx => (altS alt1) x hx
noncomputable def F33x0 (v1 : LD) (k0 : Int → Option R) : Option R :=
  bif (decide ((v1.length : Int) > 50)) then
    k0 3
  else
    bnd (G33x0x12 N v1 (v1.length : Int) 0) fun y0 =>
    bif (inlB y0) then
      k0 (inlV y0)
    else
      bif (inrQ y0).isSome then
        k0 0
      else
        none
noncomputable def G33x0 (v1 : LD) : Option (Int) := F33x0 N v1 (fun p => some p)
theorem bind33x0 (v1 : LD) (k0 : Int → Option R) : F33x0 N v1 k0 = (G33x0 N v1).bind k0 := by
  unfold G33x0 F33x0
  repeat' (first | with_reducible apply cond_b | (with_reducible apply bnd_b; intro _) | rfl)
noncomputable def sh33x0 : Sh := { tmps := [(0, .g ([.sl 70]))], mem := [] }
noncomputable def A33x0 (L : List Lf) : List (Bool × Res) := bnd (F33x0 N (ll L 1) (fun p => some p)) fun q => [(q.isSome, ([.c (.i .i64 (q.getD default))], []))]
theorem raw33x0 (L : List Lf) : bd Try.prog (T59x0 N) (h33x0s1 N).h 33 sh33x0 L = F33x0 N (ll L 1) (fun p => some ([.c (.i .i64 p)], [])) := by kernel_rfl
theorem ok33x0 : FnOk Try.prog 33 sh33x0 (A33x0 N) :=
  (h33x0s1 N).fn progOk (T59x0_ok N) fun L x hx => ((raw33x0 N L).trans ((bind33x0 N ..).trans (alt1 x hx)))
noncomputable def T33x0 : Oracle := ext 33 (spSh sh33x0 (A33x0 N)) (T59x0 N)
theorem T33x0_ok : OracleOk Try.prog (T33x0 N) := FnOk.to (ok33x0 N) (T59x0_ok N)
noncomputable def rg47x0 : List (Nat × List Nat) := [(0, [0, 1, 2]), (1, [0, 1, 2])]
noncomputable def hd47x0 : Hints := []
noncomputable def h47x0s0 (N : Nat) : Sg Try.prog 0 47 := .start hd47x0 rg47x0
noncomputable def F47x0 (N : Nat) (v0 v1 v2 : Int) (k0 : Bool → R) : R :=
  k0 (bif (decide (v0 < v1)) then true else (decide (v0 > v2)))
noncomputable def V47x0 (v0 v1 v2 : Int) : Bool := F47x0 N v0 v1 v2 (fun p => p)
theorem tot47x0 (v0 v1 v2 : Int) (k0 : Bool → R) : F47x0 N v0 v1 v2 k0 = k0 (V47x0 N v0 v1 v2) := by
  unfold V47x0 F47x0
  repeat' (first | rfl | apply cond_k | (apply bnd_k; intro _))
noncomputable def sh47x0 : Sh := { tmps := [(0, .c (.i .i64)), (1, .c (.i .i64)), (2, .c (.i .i64))], mem := [] }
noncomputable def A47x0 (L : List Lf) : List (Bool × Res) := bnd (F47x0 N (li L 0) (li L 1) (li L 2) (fun p => p)) fun q => [(true, ([.c (.b q)], []))]
theorem raw47x0 (L : List Lf) : bd Try.prog (T33x0 N) (h47x0s0 N).h 47 sh47x0 L = F47x0 N (li L 0) (li L 1) (li L 2) (fun p => some ([.c (.b p)], [])) := by kernel_rfl
theorem ok47x0 : FnOk Try.prog 47 sh47x0 (A47x0 N) :=
  (h47x0s0 N).fn progOk (T33x0_ok N) fun L x hx => ((raw47x0 N L).trans ((tot47x0 N ..).trans (alt0 _ _ hx)))
noncomputable def T47x0 : Oracle := ext 47 (spSh sh47x0 (A47x0 N)) (T33x0 N)
theorem T47x0_ok : OracleOk Try.prog (T47x0 N) := FnOk.to (ok47x0 N) (T33x0_ok N)
noncomputable def rg48x0 : List (Nat × List Nat) := [(0, [0, 1]), (1, [2, 1]), (2, [1, 5, 2]), (3, []), (4, [5, 2]), (5, []), (6, [5]), (7, []), (8, [5]), (9, []), (10, [])]
noncomputable def hd48x0 : Hints := [(7, [1, 5, 2], [5, 2], []), (19, [5], [5], []), (25, [5], [5], [])]
noncomputable def h48x0s0 (N : Nat) : Sg Try.prog 0 48 := .start hd48x0 rg48x0
noncomputable def F48x0x7 (N : Nat) (w0 : Int) (w5 : LD) (w10 : Int) (k0 : Bool → Option R) : Option R :=
  bif (w0 == 0) then
    bif (w10 != 0) then
      k0 true
    else
      bif (decide (w0 > 0)) then
        bif (inB (IntKind.wrap .i64 (w0 - 1)) w5.length) then
          bnd ((w5.getD (IntKind.wrap .i64 (w0 - 1)).toNat (.i 0)).cell 0).toI fun y0 =>
          k0 (decide (w10 ≤ y0))
        else
          none
      else
        k0 false
  else
    bif (decide (w0 > 0)) then
      bif (inB (IntKind.wrap .i64 (w0 - 1)) w5.length) then
        bnd ((w5.getD (IntKind.wrap .i64 (w0 - 1)).toNat (.i 0)).cell 0).toI fun y0 =>
        k0 (decide (w10 ≤ y0))
      else
        none
    else
      k0 false
noncomputable def G48x0x7 (w0 : Int) (w5 : LD) (w10 : Int) : Option (Bool) := F48x0x7 N w0 w5 w10 (fun p => some p)
theorem bind48x0x7 (w0 : Int) (w5 : LD) (w10 : Int) (k0 : Bool → Option R) : F48x0x7 N w0 w5 w10 k0 = (G48x0x7 N w0 w5 w10).bind k0 := by
  unfold G48x0x7 F48x0x7
  repeat' (first | with_reducible apply cond_b | (with_reducible apply bnd_b; intro _) | rfl)
noncomputable def sh48x0x7 : Sh := { tmps := [(1, .c (.i .i64)), (2, .c (.p 2 0)), (5, .c (.p 5 0))], mem := [(2, .box (.s :: [.i .i64, .i .i64, .sl 48, .sl 111, .sl 9])), (5, .box (rI 7 ([])))] }
noncomputable def K48x0x7w0 (L : List Lf) (p : Bool) : Ex × St := (.normal, mg (ofSh sh48x0x7 L) [2, 5, 33] [(33, .c (.b p))] [2, 5] [])
noncomputable def A48x0x7 (L : List Lf) : List (Bool × (Ex × St)) := bnd (F48x0x7 N (li L 0) (ll L 5) (li L 10) (fun p => some p)) fun q => [(q.isSome, K48x0x7w0 L (q.getD default))]
theorem raw48x0x7 (L : List Lf) : pc Try.prog (T47x0 N) (h48x0s0 N).h 0 100 48 7 sh48x0x7 L [5, 2, 33] [5, 2] = F48x0x7 N (li L 0) (ll L 5) (li L 10) (fun p => some (K48x0x7w0 L p)) := by kernel_rfl
noncomputable def h48x0s1 : Sg Try.prog 0 48 :=
  (h48x0s0 N).cut (A48x0x7 N) progOk (T47x0_ok N) fun L x hx => (raw48x0x7 N L).trans ((bind48x0x7 N ..).trans (alt1 x hx))
noncomputable def F48x0x19 (w1 w2 w3 : Int) (k0 : Bool → R) : R :=
  bnd (V47x0 N w1 (-100000000) 100000000) fun y0 =>
  bif y0 then
    k0 true
  else
    bnd (V47x0 N w2 (-100000000) 100000000) fun y1 =>
    bif y1 then
      k0 true
    else
      bnd (V47x0 N w3 (-100000) 100000) fun y2 =>
      k0 y2
noncomputable def V48x0x19 (w1 w2 w3 : Int) : Bool := F48x0x19 N w1 w2 w3 (fun p => p)
theorem tot48x0x19 (w1 w2 w3 : Int) (k0 : Bool → R) : F48x0x19 N w1 w2 w3 k0 = k0 (V48x0x19 N w1 w2 w3) := by
  unfold V48x0x19 F48x0x19
  repeat' (first | rfl | apply cond_k | (apply bnd_k; intro _))
noncomputable def sh48x0x19 : Sh := { tmps := [(5, .c (.p 5 0))], mem := [(5, .box (rI 7 ([])))] }
noncomputable def K48x0x19w0 (L : List Lf) (p : Bool) : Ex × St := (.normal, mg (ofSh sh48x0x19 L) [5, 57] [(57, .c (.b p))] [5] [])
noncomputable def A48x0x19 (L : List Lf) : List (Bool × (Ex × St)) := bnd (F48x0x19 N (li L 1) (li L 2) (li L 3) (fun p => p)) fun q => [(true, K48x0x19w0 L q)]
theorem raw48x0x19 (L : List Lf) : pc Try.prog (T47x0 N) (h48x0s1 N).h 0 100 48 19 sh48x0x19 L [5, 57] [5] = F48x0x19 N (li L 1) (li L 2) (li L 3) (fun p => some (K48x0x19w0 L p)) := by kernel_rfl
noncomputable def h48x0s2 : Sg Try.prog 0 48 :=
  (h48x0s1 N).cut (A48x0x19 N) progOk (T47x0_ok N) fun L x hx => (raw48x0x19 N L).trans ((tot48x0x19 N ..).trans (alt0 _ _ hx))
noncomputable def F48x0x25 (w4 w5 w6 : Int) (k0 : Bool → R) : R :=
  bnd (V47x0 N w4 (-1) 300) fun y0 =>
  bif y0 then
    k0 true
  else
    bnd (V47x0 N w5 (-1) 3000) fun y1 =>
    bif y1 then
      k0 true
    else
      bnd (V47x0 N w6 (-1) 300) fun y2 =>
      k0 y2
noncomputable def V48x0x25 (w4 w5 w6 : Int) : Bool := F48x0x25 N w4 w5 w6 (fun p => p)
theorem tot48x0x25 (w4 w5 w6 : Int) (k0 : Bool → R) : F48x0x25 N w4 w5 w6 k0 = k0 (V48x0x25 N w4 w5 w6) := by
  unfold V48x0x25 F48x0x25
  repeat' (first | rfl | apply cond_k | (apply bnd_k; intro _))
noncomputable def sh48x0x25 : Sh := { tmps := [(5, .c (.p 5 0))], mem := [(5, .box (rI 7 ([])))] }
noncomputable def A48x0x25 (L : List Lf) : List (Bool × (Ex × St)) := bnd (F48x0x25 N (li L 4) (li L 5) (li L 6) (fun p => p)) fun q => [(true, (.normal, ⟨[(70, .c (.b q))], []⟩))]
theorem raw48x0x25 (L : List Lf) : pc Try.prog (T47x0 N) (h48x0s2 N).h 0 100 48 25 sh48x0x25 L [70] [] = F48x0x25 N (li L 4) (li L 5) (li L 6) (fun p => some (.normal, ⟨[(70, .c (.b p))], []⟩)) := by kernel_rfl
noncomputable def h48x0s3 : Sg Try.prog 0 48 :=
  (h48x0s2 N).cut (A48x0x25 N) progOk (T47x0_ok N) fun L x hx => (raw48x0x25 N L).trans ((tot48x0x25 N ..).trans (alt0 _ _ hx))
noncomputable def F48x0 (v2 : Int) (v4 : LD) (v9 : Int) (k0 : Int → Option R) : Option R :=
  bif (inB v9 v4.length) then
    bnd (G48x0x7 N v9 v4 ((v4.getD v9.toNat (.i 0)).cell 0).toI) fun y0 =>
    bif y0.isSome then
      bif (y0.getD default) then
        k0 10
      else
        bnd (bif (decide (((v4.getD v9.toNat (.i 0)).cell 0).toI > 1000000)) then true else (decide ((IntKind.wrap .i64 (v2 + ((v4.getD v9.toNat (.i 0)).cell 0).toI)) > 86399999999))) fun y1 =>
        bif y1 then
          k0 9
        else
          bnd (V48x0x19 N ((v4.getD v9.toNat (.i 0)).cell 1).toI ((v4.getD v9.toNat (.i 0)).cell 2).toI ((v4.getD v9.toNat (.i 0)).cell 3).toI) fun y2 =>
          bif y2 then
            k0 9
          else
            bnd (V48x0x25 N ((v4.getD v9.toNat (.i 0)).cell 4).toI ((v4.getD v9.toNat (.i 0)).cell 5).toI ((v4.getD v9.toNat (.i 0)).cell 6).toI) fun y3 =>
            bif y3 then
              k0 9
            else
              k0 0
    else
      none
  else
    none
noncomputable def G48x0 (v2 : Int) (v4 : LD) (v9 : Int) : Option (Int) := F48x0 N v2 v4 v9 (fun p => some p)
theorem bind48x0 (v2 : Int) (v4 : LD) (v9 : Int) (k0 : Int → Option R) : F48x0 N v2 v4 v9 k0 = (G48x0 N v2 v4 v9).bind k0 := by
  unfold G48x0 F48x0
  repeat' (first | with_reducible apply cond_b | (with_reducible apply bnd_b; intro _) | rfl)
noncomputable def sh48x0 : Sh := { tmps := [(0, .g (.s :: [.i .i64, .i .i64, .sl 48, .sl 111, .sl 9])), (1, .c (.i .i64))], mem := [] }
noncomputable def A48x0 (L : List Lf) : List (Bool × Res) := bnd (F48x0 N (li L 2) (ll L 4) (li L 9) (fun p => some p)) fun q => [(q.isSome, ([.c (.i .i64 (q.getD default))], []))]
theorem raw48x0 (L : List Lf) : bd Try.prog (T47x0 N) (h48x0s3 N).h 48 sh48x0 L = F48x0 N (li L 2) (ll L 4) (li L 9) (fun p => some ([.c (.i .i64 p)], [])) := by kernel_rfl
theorem ok48x0 : FnOk Try.prog 48 sh48x0 (A48x0 N) :=
  (h48x0s3 N).fn progOk (T47x0_ok N) fun L x hx => ((raw48x0 N L).trans ((bind48x0 N ..).trans (alt1 x hx)))
noncomputable def T48x0 : Oracle := ext 48 (spSh sh48x0 (A48x0 N)) (T47x0 N)
theorem T48x0_ok : OracleOk Try.prog (T48x0 N) := FnOk.to (ok48x0 N) (T47x0_ok N)
noncomputable def rg77x0 : List (Nat × List Nat) := [(0, [0]), (1, [1]), (2, []), (3, [1])]
noncomputable def hd77x0 : Hints := []
noncomputable def h77x0s0 (N : Nat) : Sg Try.prog 0 77 := .start hd77x0 rg77x0
noncomputable def F77x0 (N : Nat) (v4 : LD) (k0 : Int → Option R) : Option R :=
  bif ((v4.length : Int) == 0) then
    k0 0
  else
    bif (inB (IntKind.wrap .i64 ((v4.length : Int) - 1)) v4.length) then
      bnd ((v4.getD (IntKind.wrap .i64 ((v4.length : Int) - 1)).toNat (.i 0)) : D) fun y0 =>
      k0 (y0.cell 0).toI
    else
      none
noncomputable def G77x0 (v4 : LD) : Option (Int) := F77x0 N v4 (fun p => some p)
theorem bind77x0 (v4 : LD) (k0 : Int → Option R) : F77x0 N v4 k0 = (G77x0 N v4).bind k0 := by
  unfold G77x0 F77x0
  repeat' (first | with_reducible apply cond_b | (with_reducible apply bnd_b; intro _) | rfl)
noncomputable def sh77x0 : Sh := { tmps := [(0, .g (.s :: [.i .i64, .i .i64, .sl 48, .sl 111, .sl 9]))], mem := [] }
noncomputable def A77x0 (L : List Lf) : List (Bool × Res) := bnd (F77x0 N (ll L 4) (fun p => some p)) fun q => [(q.isSome, ([.c (.i .i64 (q.getD default))], []))]
theorem raw77x0 (L : List Lf) : bd Try.prog (T48x0 N) (h77x0s0 N).h 77 sh77x0 L = F77x0 N (ll L 4) (fun p => some ([.c (.i .i64 p)], [])) := by kernel_rfl
theorem ok77x0 : FnOk Try.prog 77 sh77x0 (A77x0 N) :=
  (h77x0s0 N).fn progOk (T48x0_ok N) fun L x hx => ((raw77x0 N L).trans ((bind77x0 N ..).trans (alt1 x hx)))
noncomputable def T77x0 : Oracle := ext 77 (spSh sh77x0 (A77x0 N)) (T48x0 N)
theorem T77x0_ok : OracleOk Try.prog (T77x0 N) := FnOk.to (ok77x0 N) (T48x0_ok N)
noncomputable def rg49x0 : List (Nat × List Nat) := [(0, [0, 1]), (1, [2, 1]), (2, [5, 2, 1]), (3, []), (4, [1, 5, 2]), (5, []), (6, [5]), (7, [6, 5]), (9, [5, 6]), (10, []), (8, [6, 5]), (11, [5]), (12, []), (13, [])]
noncomputable def hd49x0 : Hints := [(7, [5, 2, 1], [5, 2], []), (13, [1, 5, 2], [5, 2], []), (21, [6, 5], [5], [])]
noncomputable def h49x0s0 (N : Nat) : Sg Try.prog 0 49 := .start hd49x0 rg49x0
noncomputable def F49x0x7 (w5 : LD) (w10 w11 : Int) (k0 : Bool → Option R) : Option R :=
  bif (decide (w10 < 0)) then
    k0 true
  else
    bif (decide (w10 ≥ w11)) then
      k0 true
    else
      bnd (G77x0 N w5) fun y0 =>
      bif y0.isSome then
        k0 (decide (w11 > (y0.getD default)))
      else
        none
noncomputable def G49x0x7 (w5 : LD) (w10 w11 : Int) : Option (Bool) := F49x0x7 N w5 w10 w11 (fun p => some p)
theorem bind49x0x7 (w5 : LD) (w10 w11 : Int) (k0 : Bool → Option R) : F49x0x7 N w5 w10 w11 k0 = (G49x0x7 N w5 w10 w11).bind k0 := by
  unfold G49x0x7 F49x0x7
  repeat' (first | with_reducible apply cond_b | (with_reducible apply bnd_b; intro _) | rfl)
noncomputable def sh49x0x7 : Sh := { tmps := [(1, .c (.i .i64)), (2, .c (.p 2 0)), (5, .c (.p 5 0))], mem := [(2, .box (.s :: [.i .i64, .i .i64, .sl 48, .sl 111, .sl 9])), (5, .box ([.i .i64, .i .i64, .s]))] }
noncomputable def K49x0x7w0 (L : List Lf) (p : Bool) : Ex × St := (.normal, mg (ofSh sh49x0x7 L) [1, 2, 5, 28] [(28, .c (.b p))] [2, 5] [])
noncomputable def A49x0x7 (L : List Lf) : List (Bool × (Ex × St)) := bnd (F49x0x7 N (ll L 5) (li L 10) (li L 11) (fun p => some p)) fun q => [(q.isSome, K49x0x7w0 L (q.getD default))]
theorem raw49x0x7 (L : List Lf) : pc Try.prog (T77x0 N) (h49x0s0 N).h 0 100 49 7 sh49x0x7 L [1, 5, 2, 28] [5, 2] = F49x0x7 N (ll L 5) (li L 10) (li L 11) (fun p => some (K49x0x7w0 L p)) := by kernel_rfl
noncomputable def h49x0s1 : Sg Try.prog 0 49 :=
  (h49x0s0 N).cut (A49x0x7 N) progOk (T77x0_ok N) fun L x hx => (raw49x0x7 N L).trans ((bind49x0x7 N ..).trans (alt1 x hx))
noncomputable def F49x0x13 (N : Nat) (w0 : Int) (w7 : LD) (w10 : Int) (k0 : Bool → Option R) : Option R :=
  bif (decide (w0 > 0)) then
    bif (inB (IntKind.wrap .i64 (w0 - 1)) w7.length) then
      bnd ((w7.getD (IntKind.wrap .i64 (w0 - 1)).toNat (.i 0)).cell 1).toI fun y0 =>
      k0 (decide (w10 < y0))
    else
      none
  else
    k0 false
noncomputable def G49x0x13 (w0 : Int) (w7 : LD) (w10 : Int) : Option (Bool) := F49x0x13 N w0 w7 w10 (fun p => some p)
theorem bind49x0x13 (w0 : Int) (w7 : LD) (w10 : Int) (k0 : Bool → Option R) : F49x0x13 N w0 w7 w10 k0 = (G49x0x13 N w0 w7 w10).bind k0 := by
  unfold G49x0x13 F49x0x13
  repeat' (first | with_reducible apply cond_b | (with_reducible apply bnd_b; intro _) | rfl)
noncomputable def sh49x0x13 : Sh := { tmps := [(1, .c (.i .i64)), (2, .c (.p 2 0)), (5, .c (.p 5 0))], mem := [(2, .box (.s :: [.i .i64, .i .i64, .sl 48, .sl 111, .sl 9])), (5, .box ([.i .i64, .i .i64, .s]))] }
noncomputable def K49x0x13w0 (L : List Lf) (p : Bool) : Ex × St := (.normal, mg (ofSh sh49x0x13 L) [5, 42] [(42, .c (.b p))] [5] [])
noncomputable def A49x0x13 (L : List Lf) : List (Bool × (Ex × St)) := bnd (F49x0x13 N (li L 0) (ll L 7) (li L 10) (fun p => some p)) fun q => [(q.isSome, K49x0x13w0 L (q.getD default))]
theorem raw49x0x13 (L : List Lf) : pc Try.prog (T77x0 N) (h49x0s1 N).h 0 100 49 13 sh49x0x13 L [5, 42] [5] = F49x0x13 N (li L 0) (ll L 7) (li L 10) (fun p => some (K49x0x13w0 L p)) := by kernel_rfl
noncomputable def h49x0s2 : Sg Try.prog 0 49 :=
  (h49x0s1 N).cut (A49x0x13 N) progOk (T77x0_ok N) fun L x hx => (raw49x0x13 N L).trans ((bind49x0x13 N ..).trans (alt1 x hx))
noncomputable def S49x0x21 (w3 : LB) (w0 : Int) (kr : Int → Option R) (k0 : Unit → Option R) (k1 : Unit → Option R) : Option R :=
  bif (decide (w0 < (w3.length : Int))) then
    bif (inB w0 w3.length) then
      bnd (V47x0 N (IntKind.wrap .i64 ((w3.getD w0.toNat 0).toNat : Int)) 32 126) fun y0 =>
      bif y0 then
        k0 ()
      else
        kr (IntKind.wrap .i64 (w0 + 1))
    else
      none
  else
    k1 ()
noncomputable def L49x0x21 (N : Nat) {R : Type} (w3 : LB) : Nat → Int → (Unit → Option R) → (Unit → Option R) → Option R
  | 0, _, _, _ => none
  | m + 1, w0, k0, k1 => S49x0x21 N w3 w0 (fun w0 => L49x0x21 N w3 m w0 k0 k1) k0 k1
noncomputable def G49x0x21 (w3 : LB) (w0 : Int) : Option (Sum (Unit) (Unit)) := L49x0x21 N (R := (Sum (Unit) (Unit))) w3 N w0 (fun p => some (.inl p)) (fun p => some (.inr p))
noncomputable def J49x0x21 (L x : List Lf) (kr : List Lf → Option R) (k0 : Unit → Option R) (k1 : Unit → Option R) : Option R := S49x0x21 N (ls L 3) (li x 0) (fun w0 => kr [.i w0]) k0 k1
theorem sb49x0x21 (L x : List Lf) (kr : List Lf → Option R) (k0 : Unit → Option R) (k1 : Unit → Option R) : J49x0x21 N L x kr k0 k1 = (J49x0x21 N L x (fun y => some (.inl y)) (fun p => some (.inr (.inl p))) (fun p => some (.inr (.inr p)))).bind (sumE kr (sumE k0 k1)) := by
  unfold J49x0x21 S49x0x21
  repeat' (first | with_reducible apply cond_b | (with_reducible apply bnd_b; intro _) | rfl)
noncomputable def Q49x0x21 (L : List Lf) (m : Nat) (x : List Lf) : Option (Sum (Unit) (Unit)) := L49x0x21 N (R := (Sum (Unit) (Unit))) (ls L 3) m (li x 0) (fun p => some (.inl p)) (fun p => some (.inr p))
noncomputable def sh49x0x21 : Sh := { tmps := [(5, .c (.p 5 0)), (6, .c (.i .i64))], mem := [(5, .box ([.i .i64, .i .i64, .s]))] }
noncomputable def K49x0x21w0 (L : List Lf) (_ : Unit) : Ex × St := (.ret, mg (ofSh sh49x0x21 L) [4] [(4, .c (.i .i64 8))] [5] [])
noncomputable def A49x0x21 (L : List Lf) : List (Bool × (Ex × St)) := bnd (Q49x0x21 N L N (pk sh49x0x21 [0] L)) fun q => [((inlB q), K49x0x21w0 L ()), ((inrQ q).isSome, ((.exit 0), mg (ofSh sh49x0x21 L) [5] [] [5] []))]
theorem step49x0x21 (m : Nat) (kn : St → Option (Ex × St)) (L x : List Lf) : lpB Try.prog (T77x0 N) (h49x0s2 N).h 0 49 21 sh49x0x21 [0] [4, 5] [5] (m + 100) kn L x = J49x0x21 N L x (fun y => kn (ofSh sh49x0x21 (mx sh49x0x21 [0] L y))) (fun _ => some (K49x0x21w0 L ())) (fun _ => some ((.exit 0), mg (ofSh sh49x0x21 L) [5] [] [5] [])) := by kernel_rfl
theorem ql49x0x21 (L : List Lf) (m : Nat) (x : List Lf) : Q49x0x21 N L (m + 1) x = J49x0x21 N L x (Q49x0x21 N L m) (fun p => some (.inl p)) (fun p => some (.inr p)) := by kernel_rfl
noncomputable def h49x0s3 : Sg Try.prog 0 49 :=
  (h49x0s2 N).lp (A49x0x21 N) N progOk (T77x0_ok N) (fun m kn L x => (step49x0x21 N m kn L x).trans (sb49x0x21 N L x _ _ _)) (fun L m x => (ql49x0x21 N L m x).trans (sb49x0x21 N L x (Q49x0x21 N L m) (fun p => some (.inl p)) (fun p => some (.inr p)))) fun L x hx => (altS alt1) x hx
noncomputable def F49x0 (v4 v6 : LD) (v9 : Int) (k0 : Int → Option R) : Option R :=
  bif (inB v9 v6.length) then
    bnd (G49x0x7 N v4 ((v6.getD v9.toNat (.i 0)).cell 0).toI ((v6.getD v9.toNat (.i 0)).cell 1).toI) fun y0 =>
    bif y0.isSome then
      bif (y0.getD default) then
        k0 9
      else
        bnd (G49x0x13 N v9 v6 ((v6.getD v9.toNat (.i 0)).cell 0).toI) fun y1 =>
        bif y1.isSome then
          bif (y1.getD default) then
            k0 10
          else
            bnd (G49x0x21 N ((v6.getD v9.toNat (.i 0)).cell 2).toS 0) fun y2 =>
            bif (inlB y2) then
              k0 8
            else
              bif (inrQ y2).isSome then
                bnd (decide ((((v6.getD v9.toNat (.i 0)).cell 2).toS.length : Int) > 60)) fun y3 =>
                bif y3 then
                  k0 8
                else
                  k0 0
              else
                none
        else
          none
    else
      none
  else
    none
noncomputable def G49x0 (v4 v6 : LD) (v9 : Int) : Option (Int) := F49x0 N v4 v6 v9 (fun p => some p)
theorem bind49x0 (v4 v6 : LD) (v9 : Int) (k0 : Int → Option R) : F49x0 N v4 v6 v9 k0 = (G49x0 N v4 v6 v9).bind k0 := by
  unfold G49x0 F49x0
  repeat' (first | with_reducible apply cond_b | (with_reducible apply bnd_b; intro _) | rfl)
noncomputable def sh49x0 : Sh := { tmps := [(0, .g (.s :: [.i .i64, .i .i64, .sl 48, .sl 111, .sl 9])), (1, .c (.i .i64))], mem := [] }
noncomputable def A49x0 (L : List Lf) : List (Bool × Res) := bnd (F49x0 N (ll L 4) (ll L 6) (li L 9) (fun p => some p)) fun q => [(q.isSome, ([.c (.i .i64 (q.getD default))], []))]
theorem raw49x0 (L : List Lf) : bd Try.prog (T77x0 N) (h49x0s3 N).h 49 sh49x0 L = F49x0 N (ll L 4) (ll L 6) (li L 9) (fun p => some ([.c (.i .i64 p)], [])) := by kernel_rfl
theorem ok49x0 : FnOk Try.prog 49 sh49x0 (A49x0 N) :=
  (h49x0s3 N).fn progOk (T77x0_ok N) fun L x hx => ((raw49x0 N L).trans ((bind49x0 N ..).trans (alt1 x hx)))
noncomputable def T49x0 : Oracle := ext 49 (spSh sh49x0 (A49x0 N)) (T77x0 N)
theorem T49x0_ok : OracleOk Try.prog (T49x0 N) := FnOk.to (ok49x0 N) (T77x0_ok N)
noncomputable def rg16x0 : List (Nat × List Nat) := [(0, [0]), (1, [1]), (3, [1]), (5, [1]), (7, [1]), (8, []), (6, []), (4, []), (2, []), (9, [1]), (10, [42, 41, 1]), (11, [42, 1, 41]), (12, [1, 3, 42, 41]), (13, [4, 42, 41, 1]), (14, [4]), (15, [42, 41, 1]), (16, [1]), (17, [55, 54, 1]), (18, [55, 1, 54]), (19, [1, 5, 55, 54]), (20, [6, 55, 54, 1]), (21, [6]), (22, [55, 54, 1]), (23, [1]), (24, [68, 67, 66, 1]), (25, [68, 66, 1, 67]), (26, [8, 7, 1, 68, 67, 66]), (27, []), (28, [7, 8, 1, 68, 67, 66]), (29, []), (30, [68, 67, 66, 1]), (31, [])]
noncomputable def hd16x0 : Hints := [(30, [42, 41, 1], [1], []), (51, [55, 54, 1], [1], []), (72, [68, 67, 66, 1], [1], [])]
noncomputable def h16x0s0 (N : Nat) : Sg Try.prog 0 16 := .start hd16x0 rg16x0
noncomputable def S16x0x30 (w0 w4 : Int) (w6 : LD) (w1 : Int) (kr : Int → Option R) (k0 : Int → Option R) (k1 : Unit → Option R) : Option R :=
  bif (decide (w1 < w0)) then
    bnd (G48x0 N w4 w6 w1) fun y0 =>
    bif y0.isSome then
      bif ((y0.getD default) != 0) then
        k0 (y0.getD default)
      else
        kr (IntKind.wrap .i64 (w1 + 1))
    else
      none
  else
    k1 ()
noncomputable def L16x0x30 (N : Nat) {R : Type} (w0 w4 : Int) (w6 : LD) : Nat → Int → (Int → Option R) → (Unit → Option R) → Option R
  | 0, _, _, _ => none
  | m + 1, w1, k0, k1 => S16x0x30 N w0 w4 w6 w1 (fun w1 => L16x0x30 N w0 w4 w6 m w1 k0 k1) k0 k1
noncomputable def G16x0x30 (w0 w4 : Int) (w6 : LD) (w1 : Int) : Option (Sum (Int) (Unit)) := L16x0x30 N (R := (Sum (Int) (Unit))) w0 w4 w6 N w1 (fun p => some (.inl p)) (fun p => some (.inr p))
noncomputable def J16x0x30 (L x : List Lf) (kr : List Lf → Option R) (k0 : Int → Option R) (k1 : Unit → Option R) : Option R := S16x0x30 N (li L 0) (li L 4) (ll L 6) (li x 0) (fun w1 => kr [.i w1]) k0 k1
theorem sb16x0x30 (L x : List Lf) (kr : List Lf → Option R) (k0 : Int → Option R) (k1 : Unit → Option R) : J16x0x30 N L x kr k0 k1 = (J16x0x30 N L x (fun y => some (.inl y)) (fun p => some (.inr (.inl p))) (fun p => some (.inr (.inr p)))).bind (sumE kr (sumE k0 k1)) := by
  unfold J16x0x30 S16x0x30
  repeat' (first | with_reducible apply cond_b | (with_reducible apply bnd_b; intro _) | rfl)
noncomputable def Q16x0x30 (L : List Lf) (m : Nat) (x : List Lf) : Option (Sum (Int) (Unit)) := L16x0x30 N (R := (Sum (Int) (Unit))) (li L 0) (li L 4) (ll L 6) m (li x 0) (fun p => some (.inl p)) (fun p => some (.inr p))
noncomputable def sh16x0x30 : Sh := { tmps := [(1, .c (.p 1 0)), (41, .c (.i .i64)), (42, .c (.i .i64))], mem := [(1, .box (.s :: [.i .i64, .i .i64, .sl 48, .sl 111, .sl 9]))] }
noncomputable def K16x0x30w0 (L : List Lf) (p : Int) : Ex × St := (.ret, mg (ofSh sh16x0x30 L) [2] [(2, .c (.i .i64 p))] [1] [])
noncomputable def A16x0x30 (L : List Lf) : List (Bool × (Ex × St)) := bnd (Q16x0x30 N L N (pk sh16x0x30 [1] L)) fun q => [((inlB q), K16x0x30w0 L (inlV q)), ((inrQ q).isSome, ((.exit 1), mg (ofSh sh16x0x30 L) [1] [] [1] []))]
theorem step16x0x30 (m : Nat) (kn : St → Option (Ex × St)) (L x : List Lf) : lpB Try.prog (T49x0 N) (h16x0s0 N).h 0 16 30 sh16x0x30 [1] [2, 1] [1] (m + 100) kn L x = J16x0x30 N L x (fun y => kn (ofSh sh16x0x30 (mx sh16x0x30 [1] L y))) (fun p => some (K16x0x30w0 L p)) (fun _ => some ((.exit 1), mg (ofSh sh16x0x30 L) [1] [] [1] [])) := by kernel_rfl
theorem ql16x0x30 (L : List Lf) (m : Nat) (x : List Lf) : Q16x0x30 N L (m + 1) x = J16x0x30 N L x (Q16x0x30 N L m) (fun p => some (.inl p)) (fun p => some (.inr p)) := by kernel_rfl
noncomputable def h16x0s1 : Sg Try.prog 0 16 :=
  (h16x0s0 N).lp (A16x0x30 N) N progOk (T49x0_ok N) (fun m kn L x => (step16x0x30 N m kn L x).trans (sb16x0x30 N L x _ _ _)) (fun L m x => (ql16x0x30 N L m x).trans (sb16x0x30 N L x (Q16x0x30 N L m) (fun p => some (.inl p)) (fun p => some (.inr p)))) fun L x hx => (altS alt1) x hx
noncomputable def S16x0x51 (w0 : Int) (w6 w8 : LD) (w1 : Int) (kr : Int → Option R) (k0 : Int → Option R) (k1 : Unit → Option R) : Option R :=
  bif (decide (w1 < w0)) then
    bnd (G49x0 N w6 w8 w1) fun y0 =>
    bif y0.isSome then
      bif ((y0.getD default) != 0) then
        k0 (y0.getD default)
      else
        kr (IntKind.wrap .i64 (w1 + 1))
    else
      none
  else
    k1 ()
noncomputable def L16x0x51 (N : Nat) {R : Type} (w0 : Int) (w6 w8 : LD) : Nat → Int → (Int → Option R) → (Unit → Option R) → Option R
  | 0, _, _, _ => none
  | m + 1, w1, k0, k1 => S16x0x51 N w0 w6 w8 w1 (fun w1 => L16x0x51 N w0 w6 w8 m w1 k0 k1) k0 k1
noncomputable def G16x0x51 (w0 : Int) (w6 w8 : LD) (w1 : Int) : Option (Sum (Int) (Unit)) := L16x0x51 N (R := (Sum (Int) (Unit))) w0 w6 w8 N w1 (fun p => some (.inl p)) (fun p => some (.inr p))
noncomputable def J16x0x51 (L x : List Lf) (kr : List Lf → Option R) (k0 : Int → Option R) (k1 : Unit → Option R) : Option R := S16x0x51 N (li L 0) (ll L 6) (ll L 8) (li x 0) (fun w1 => kr [.i w1]) k0 k1
theorem sb16x0x51 (L x : List Lf) (kr : List Lf → Option R) (k0 : Int → Option R) (k1 : Unit → Option R) : J16x0x51 N L x kr k0 k1 = (J16x0x51 N L x (fun y => some (.inl y)) (fun p => some (.inr (.inl p))) (fun p => some (.inr (.inr p)))).bind (sumE kr (sumE k0 k1)) := by
  unfold J16x0x51 S16x0x51
  repeat' (first | with_reducible apply cond_b | (with_reducible apply bnd_b; intro _) | rfl)
noncomputable def Q16x0x51 (L : List Lf) (m : Nat) (x : List Lf) : Option (Sum (Int) (Unit)) := L16x0x51 N (R := (Sum (Int) (Unit))) (li L 0) (ll L 6) (ll L 8) m (li x 0) (fun p => some (.inl p)) (fun p => some (.inr p))
noncomputable def sh16x0x51 : Sh := { tmps := [(1, .c (.p 1 0)), (54, .c (.i .i64)), (55, .c (.i .i64))], mem := [(1, .box (.s :: [.i .i64, .i .i64, .sl 48, .sl 111, .sl 9]))] }
noncomputable def K16x0x51w0 (L : List Lf) (p : Int) : Ex × St := (.ret, mg (ofSh sh16x0x51 L) [2] [(2, .c (.i .i64 p))] [1] [])
noncomputable def A16x0x51 (L : List Lf) : List (Bool × (Ex × St)) := bnd (Q16x0x51 N L N (pk sh16x0x51 [1] L)) fun q => [((inlB q), K16x0x51w0 L (inlV q)), ((inrQ q).isSome, ((.exit 3), mg (ofSh sh16x0x51 L) [1] [] [1] []))]
theorem step16x0x51 (m : Nat) (kn : St → Option (Ex × St)) (L x : List Lf) : lpB Try.prog (T49x0 N) (h16x0s1 N).h 0 16 51 sh16x0x51 [1] [2, 1] [1] (m + 100) kn L x = J16x0x51 N L x (fun y => kn (ofSh sh16x0x51 (mx sh16x0x51 [1] L y))) (fun p => some (K16x0x51w0 L p)) (fun _ => some ((.exit 3), mg (ofSh sh16x0x51 L) [1] [] [1] [])) := by kernel_rfl
theorem ql16x0x51 (L : List Lf) (m : Nat) (x : List Lf) : Q16x0x51 N L (m + 1) x = J16x0x51 N L x (Q16x0x51 N L m) (fun p => some (.inl p)) (fun p => some (.inr p)) := by kernel_rfl
noncomputable def h16x0s2 : Sg Try.prog 0 16 :=
  (h16x0s1 N).lp (A16x0x51 N) N progOk (T49x0_ok N) (fun m kn L x => (step16x0x51 N m kn L x).trans (sb16x0x51 N L x _ _ _)) (fun L m x => (ql16x0x51 N L m x).trans (sb16x0x51 N L x (Q16x0x51 N L m) (fun p => some (.inl p)) (fun p => some (.inr p)))) fun L x hx => (altS alt1) x hx
noncomputable def S16x0x72 (w1 : LD) (w2 : Int) (w12 : LD) (w3 : Int) (kr : Int → Option R) (k0 : Int → Option R) (k1 : Unit → Option R) : Option R :=
  bif (decide (w3 < w2)) then
    bif (inB w3 w1.length) then
      bnd (G46x0 N (w1.getD w3.toNat (.i 0)).toS) fun y0 =>
      bif y0.isSome then
        bif (!(y0.getD default)) then
          k0 8
        else
          bif (bif (inB (IntKind.wrap .i64 (w3 - 1)) w12.length) then true else (!((decide (w3 > 0)) == true))) then
            bnd (bif (decide (w3 > 0)) then ((Op.bytesLess (w1.getD w3.toNat (.i 0)).toS (w12.getD (IntKind.wrap .i64 (w3 - 1)).toNat (.i 0)).toS) || ((w1.getD w3.toNat (.i 0)).toS == (w12.getD (IntKind.wrap .i64 (w3 - 1)).toNat (.i 0)).toS)) else false) fun y1 =>
            bif y1 then
              k0 10
            else
              kr (IntKind.wrap .i64 (w3 + 1))
          else
            none
      else
        none
    else
      none
  else
    k1 ()
noncomputable def L16x0x72 (N : Nat) {R : Type} (w1 : LD) (w2 : Int) (w12 : LD) : Nat → Int → (Int → Option R) → (Unit → Option R) → Option R
  | 0, _, _, _ => none
  | m + 1, w3, k0, k1 => S16x0x72 N w1 w2 w12 w3 (fun w3 => L16x0x72 N w1 w2 w12 m w3 k0 k1) k0 k1
noncomputable def G16x0x72 (w1 : LD) (w2 : Int) (w12 : LD) (w3 : Int) : Option (Sum (Int) (Unit)) := L16x0x72 N (R := (Sum (Int) (Unit))) w1 w2 w12 N w3 (fun p => some (.inl p)) (fun p => some (.inr p))
noncomputable def J16x0x72 (L x : List Lf) (kr : List Lf → Option R) (k0 : Int → Option R) (k1 : Unit → Option R) : Option R := S16x0x72 N (ll L 1) (li L 2) (ll L 12) (li x 0) (fun w3 => kr [.i w3]) k0 k1
theorem sb16x0x72 (L x : List Lf) (kr : List Lf → Option R) (k0 : Int → Option R) (k1 : Unit → Option R) : J16x0x72 N L x kr k0 k1 = (J16x0x72 N L x (fun y => some (.inl y)) (fun p => some (.inr (.inl p))) (fun p => some (.inr (.inr p)))).bind (sumE kr (sumE k0 k1)) := by
  unfold J16x0x72 S16x0x72
  repeat' (first | with_reducible apply cond_b | (with_reducible apply bnd_b; intro _) | rfl)
noncomputable def Q16x0x72 (L : List Lf) (m : Nat) (x : List Lf) : Option (Sum (Int) (Unit)) := L16x0x72 N (R := (Sum (Int) (Unit))) (ll L 1) (li L 2) (ll L 12) m (li x 0) (fun p => some (.inl p)) (fun p => some (.inr p))
noncomputable def sh16x0x72 : Sh := { tmps := [(1, .c (.p 1 0)), (66, .c (.sl 9)), (67, .c (.i .i64)), (68, .c (.i .i64))], mem := [(1, .box (.s :: [.i .i64, .i .i64, .sl 48, .sl 111, .sl 9]))] }
noncomputable def A16x0x72 (L : List Lf) : List (Bool × (Ex × St)) := bnd (Q16x0x72 N L N (pk sh16x0x72 [3] L)) fun q => [((inlB q), (.ret, ⟨[(2, .c (.i .i64 (inlV q)))], []⟩)), ((inrQ q).isSome, ((.exit 5), ⟨[], []⟩))]
theorem step16x0x72 (m : Nat) (kn : St → Option (Ex × St)) (L x : List Lf) : lpB Try.prog (T49x0 N) (h16x0s2 N).h 0 16 72 sh16x0x72 [3] [2] [] (m + 100) kn L x = J16x0x72 N L x (fun y => kn (ofSh sh16x0x72 (mx sh16x0x72 [3] L y))) (fun p => some (.ret, ⟨[(2, .c (.i .i64 p))], []⟩)) (fun _ => some ((.exit 5), ⟨[], []⟩)) := by kernel_rfl
theorem ql16x0x72 (L : List Lf) (m : Nat) (x : List Lf) : Q16x0x72 N L (m + 1) x = J16x0x72 N L x (Q16x0x72 N L m) (fun p => some (.inl p)) (fun p => some (.inr p)) := by kernel_rfl
noncomputable def h16x0s3 : Sg Try.prog 0 16 :=
  (h16x0s2 N).lp (A16x0x72 N) N progOk (T49x0_ok N) (fun m kn L x => (step16x0x72 N m kn L x).trans (sb16x0x72 N L x _ _ _)) (fun L m x => (ql16x0x72 N L m x).trans (sb16x0x72 N L x (Q16x0x72 N L m) (fun p => some (.inl p)) (fun p => some (.inr p)))) fun L x hx => (altS alt1) x hx
noncomputable def F16x0 (v0 : LB) (v1 v2 : Int) (v4 v6 v8 : LD) (k0 : Int → Option R) : Option R :=
  bnd (G46x0 N v0) fun y0 =>
  bif y0.isSome then
    bif (!(y0.getD default)) then
      k0 8
    else
      bnd (V47x0 N v1 1 5) fun y1 =>
      bif y1 then
        k0 7
      else
        bnd (V47x0 N v2 0 86399999999) fun y2 =>
        bif y2 then
          k0 9
        else
          bnd (bif (decide ((v4.length : Int) > 20000)) then true else (decide ((v6.length : Int) > 200))) fun y3 =>
          bnd (bif y3 then true else (decide ((v8.length : Int) > 20))) fun y4 =>
          bif y4 then
            k0 3
          else
            bnd (G16x0x30 N (v4.length : Int) v2 v4 0) fun y5 =>
            bif (inlB y5) then
              k0 (inlV y5)
            else
              bif (inrQ y5).isSome then
                bnd (G16x0x51 N (v6.length : Int) v4 v6 0) fun y6 =>
                bif (inlB y6) then
                  k0 (inlV y6)
                else
                  bif (inrQ y6).isSome then
                    bnd (G16x0x72 N v8 (v8.length : Int) v8 0) fun y7 =>
                    bif (inlB y7) then
                      k0 (inlV y7)
                    else
                      bif (inrQ y7).isSome then
                        k0 0
                      else
                        none
                  else
                    none
              else
                none
  else
    none
noncomputable def G16x0 (v0 : LB) (v1 v2 : Int) (v4 v6 v8 : LD) : Option (Int) := F16x0 N v0 v1 v2 v4 v6 v8 (fun p => some p)
theorem bind16x0 (v0 : LB) (v1 v2 : Int) (v4 v6 v8 : LD) (k0 : Int → Option R) : F16x0 N v0 v1 v2 v4 v6 v8 k0 = (G16x0 N v0 v1 v2 v4 v6 v8).bind k0 := by
  unfold G16x0 F16x0
  repeat' (first | with_reducible apply cond_b | (with_reducible apply bnd_b; intro _) | rfl)
noncomputable def J16x0 (L : List Lf) (k0 : Int → Option R) : Option R := F16x0 N (ls L 0) (li L 1) (li L 2) (ll L 4) (ll L 6) (ll L 8) k0
noncomputable def sh16x0 : Sh := { tmps := [(0, .g (.s :: [.i .i64, .i .i64, .sl 48, .sl 111, .sl 9]))], mem := [] }
noncomputable def A16x0 (L : List Lf) : List (Bool × Res) := bnd (J16x0 N L (fun p => some p)) fun q => [(q.isSome, ([.c (.i .i64 (q.getD default))], []))]
theorem raw16x0 (L : List Lf) : bd Try.prog (T49x0 N) (h16x0s3 N).h 16 sh16x0 L = J16x0 N L (fun p => some ([.c (.i .i64 p)], [])) := by kernel_rfl
theorem ok16x0 : FnOk Try.prog 16 sh16x0 (A16x0 N) :=
  (h16x0s3 N).fn progOk (T49x0_ok N) fun L x hx => ((raw16x0 N L).trans ((bind16x0 N ..).trans (alt1 x hx)))
noncomputable def T16x0 : Oracle := ext 16 (spSh sh16x0 (A16x0 N)) (T49x0 N)
theorem T16x0_ok : OracleOk Try.prog (T16x0 N) := FnOk.to (ok16x0 N) (T49x0_ok N)
noncomputable def rg42x0 : List (Nat × List Nat) := [(0, [0, 1, 2, 3]), (1, [4, 1, 2, 3]), (2, [9, 1, 2, 3]), (3, [9]), (4, [1, 2, 3]), (5, []), (6, [2, 3]), (7, []), (8, [3]), (9, [28, 27, 26]), (10, [26, 28, 27]), (11, [11, 28, 27, 26]), (12, [12, 28, 27, 26]), (13, [12]), (14, [28, 27, 26]), (15, [])]
noncomputable def hd42x0 : Hints := [(27, [28, 27, 26], [], [])]
noncomputable def h42x0s0 (N : Nat) : Sg Try.prog 0 42 := .start hd42x0 rg42x0
noncomputable def S42x0x27 (w1 : LD) (w2 : Int) (w3 : Int) (kr : Int → Option R) (k0 : Int → Option R) (k1 : Unit → Option R) : Option R :=
  bif (decide (w3 < w2)) then
    bif (inB w3 w1.length) then
      bnd (G16x0 N ((w1.getD w3.toNat (.i 0)).cell 0).toS ((w1.getD w3.toNat (.i 0)).cell 1).toI ((w1.getD w3.toNat (.i 0)).cell 2).toI ((w1.getD w3.toNat (.i 0)).cell 3).items ((w1.getD w3.toNat (.i 0)).cell 4).items ((w1.getD w3.toNat (.i 0)).cell 5).items) fun y0 =>
      bif y0.isSome then
        bif ((y0.getD default) != 0) then
          k0 (y0.getD default)
        else
          kr (IntKind.wrap .i64 (w3 + 1))
      else
        none
    else
      none
  else
    k1 ()
noncomputable def L42x0x27 (N : Nat) {R : Type} (w1 : LD) (w2 : Int) : Nat → Int → (Int → Option R) → (Unit → Option R) → Option R
  | 0, _, _, _ => none
  | m + 1, w3, k0, k1 => S42x0x27 N w1 w2 w3 (fun w3 => L42x0x27 N w1 w2 m w3 k0 k1) k0 k1
noncomputable def G42x0x27 (w1 : LD) (w2 : Int) (w3 : Int) : Option (Sum (Int) (Unit)) := L42x0x27 N (R := (Sum (Int) (Unit))) w1 w2 N w3 (fun p => some (.inl p)) (fun p => some (.inr p))
noncomputable def J42x0x27 (L x : List Lf) (kr : List Lf → Option R) (k0 : Int → Option R) (k1 : Unit → Option R) : Option R := S42x0x27 N (ll L 1) (li L 2) (li x 0) (fun w3 => kr [.i w3]) k0 k1
theorem sb42x0x27 (L x : List Lf) (kr : List Lf → Option R) (k0 : Int → Option R) (k1 : Unit → Option R) : J42x0x27 N L x kr k0 k1 = (J42x0x27 N L x (fun y => some (.inl y)) (fun p => some (.inr (.inl p))) (fun p => some (.inr (.inr p)))).bind (sumE kr (sumE k0 k1)) := by
  unfold J42x0x27 S42x0x27
  repeat' (first | with_reducible apply cond_b | (with_reducible apply bnd_b; intro _) | rfl)
noncomputable def Q42x0x27 (L : List Lf) (m : Nat) (x : List Lf) : Option (Sum (Int) (Unit)) := L42x0x27 N (R := (Sum (Int) (Unit))) (ll L 1) (li L 2) m (li x 0) (fun p => some (.inl p)) (fun p => some (.inr p))
noncomputable def sh42x0x27 : Sh := { tmps := [(26, .c (.sl 29)), (27, .c (.i .i64)), (28, .c (.i .i64))], mem := [] }
noncomputable def A42x0x27 (L : List Lf) : List (Bool × (Ex × St)) := bnd (Q42x0x27 N L N (pk sh42x0x27 [3] L)) fun q => [((inlB q), (.ret, ⟨[(8, .c (.i .i64 (inlV q)))], []⟩)), ((inrQ q).isSome, ((.exit 0), ⟨[], []⟩))]
theorem step42x0x27 (m : Nat) (kn : St → Option (Ex × St)) (L x : List Lf) : lpB Try.prog (T16x0 N) (h42x0s0 N).h 0 42 27 sh42x0x27 [3] [8] [] (m + 100) kn L x = J42x0x27 N L x (fun y => kn (ofSh sh42x0x27 (mx sh42x0x27 [3] L y))) (fun p => some (.ret, ⟨[(8, .c (.i .i64 p))], []⟩)) (fun _ => some ((.exit 0), ⟨[], []⟩)) := by kernel_rfl
theorem ql42x0x27 (L : List Lf) (m : Nat) (x : List Lf) : Q42x0x27 N L (m + 1) x = J42x0x27 N L x (Q42x0x27 N L m) (fun p => some (.inl p)) (fun p => some (.inr p)) := by kernel_rfl
noncomputable def h42x0s1 : Sg Try.prog 0 42 :=
  (h42x0s0 N).lp (A42x0x27 N) N progOk (T16x0_ok N) (fun m kn L x => (step42x0x27 N m kn L x).trans (sb42x0x27 N L x _ _ _)) (fun L m x => (ql42x0x27 N L m x).trans (sb42x0x27 N L x (Q42x0x27 N L m) (fun p => some (.inl p)) (fun p => some (.inr p)))) fun L x hx => (altS alt1) x hx
noncomputable def F42x0 (v1 : LD) (v2 : Int) (v3 : Bool) (v5 : LD) (k0 : Int → Option R) : Option R :=
  bnd (G33x0 N v1) fun y0 =>
  bif y0.isSome then
    bif ((y0.getD default) != 0) then
      k0 (y0.getD default)
    else
      bnd (V73x0 N v2 0 3) fun y1 =>
      bif y1 then
        k0 9
      else
        bif (bif v3 then (decide ((v5.length : Int) > 2000)) else false) then
          k0 3
        else
          bnd (G42x0x27 N v5 (v5.length : Int) 0) fun y2 =>
          bif (inlB y2) then
            k0 (inlV y2)
          else
            bif (inrQ y2).isSome then
              k0 0
            else
              none
  else
    none
noncomputable def G42x0 (v1 : LD) (v2 : Int) (v3 : Bool) (v5 : LD) : Option (Int) := F42x0 N v1 v2 v3 v5 (fun p => some p)
theorem bind42x0 (v1 : LD) (v2 : Int) (v3 : Bool) (v5 : LD) (k0 : Int → Option R) : F42x0 N v1 v2 v3 v5 k0 = (G42x0 N v1 v2 v3 v5).bind k0 := by
  unfold G42x0 F42x0
  repeat' (first | with_reducible apply cond_b | (with_reducible apply bnd_b; intro _) | rfl)
noncomputable def J42x0 (L : List Lf) (k0 : Int → Option R) : Option R := F42x0 N (ll L 1) (li L 2) (lb L 3) (ll L 5) k0
noncomputable def sh42x0 : Sh := { tmps := [(0, .g ([.sl 70])), (1, .c (.i .i64)), (2, .c (.b)), (3, .c (.sl 29))], mem := [] }
noncomputable def A42x0 (L : List Lf) : List (Bool × Res) := bnd (J42x0 N L (fun p => some p)) fun q => [(q.isSome, ([.c (.i .i64 (q.getD default))], []))]
theorem raw42x0 (L : List Lf) : bd Try.prog (T16x0 N) (h42x0s1 N).h 42 sh42x0 L = J42x0 N L (fun p => some ([.c (.i .i64 p)], [])) := by kernel_rfl
theorem ok42x0 : FnOk Try.prog 42 sh42x0 (A42x0 N) :=
  (h42x0s1 N).fn progOk (T16x0_ok N) fun L x hx => ((raw42x0 N L).trans ((bind42x0 N ..).trans (alt1 x hx)))
noncomputable def T42x0 : Oracle := ext 42 (spSh sh42x0 (A42x0 N)) (T16x0 N)
theorem T42x0_ok : OracleOk Try.prog (T42x0 N) := FnOk.to (ok42x0 N) (T16x0_ok N)
noncomputable def rg91x0 : List (Nat × List Nat) := [(0, [0, 1, 2]), (1, [3, 1, 2]), (2, [3, 1, 2, 7]), (3, [13, 12, 11, 1, 2, 7]), (4, [11, 13, 1, 2, 7, 12]), (5, [9, 1, 2, 7, 13, 12, 11]), (6, [7, 9, 13, 12, 11, 1, 2]), (7, [13, 12, 11, 1, 2, 7]), (8, [7])]
noncomputable def hd91x0 : Hints := [(9, [13, 12, 11, 1, 2, 7], [7], [7]), (20, [7, 9, 13, 12, 11, 1, 2, 26], [9, 7], [])]
noncomputable def h91x0s0 (N : Nat) : Sg Try.prog 0 91 := .start hd91x0 rg91x0
noncomputable def F91x0x20 (N : Nat) (w6 : Bool) (w8 : LD) (w9 w10 w11 w12 w13 w14 w15 w16 : Int) (w17 : LB) (k0 : LD → Option R) (k1 : Unit → Option R) : Option R :=
  bif w6 then
    bif (decide ((w8.length + 1) * 80 ≤ room) && decide ((w8.length + 1) ≤ strMax)) then
      bnd ((w8 ++ [(.a [(.i w9), (.i w10), (.i w11), (.i w12), (.i w13), (.i w14), (.i w15), (.i w16), (.s w17)])]) : List D) fun y0 =>
      k0 y0
    else
      none
  else
    k1 ()
noncomputable def G91x0x20 (w6 : Bool) (w8 : LD) (w9 w10 w11 w12 w13 w14 w15 w16 : Int) (w17 : LB) : Option (Sum (LD) (Unit)) := F91x0x20 N w6 w8 w9 w10 w11 w12 w13 w14 w15 w16 w17 (fun p => some (.inl p)) (fun p => some (.inr p))
theorem bind91x0x20 (w6 : Bool) (w8 : LD) (w9 w10 w11 w12 w13 w14 w15 w16 : Int) (w17 : LB) (k0 : LD → Option R) (k1 : Unit → Option R) : F91x0x20 N w6 w8 w9 w10 w11 w12 w13 w14 w15 w16 w17 k0 k1 = (G91x0x20 N w6 w8 w9 w10 w11 w12 w13 w14 w15 w16 w17).bind (sumE k0 k1) := by
  unfold G91x0x20 F91x0x20
  repeat' (first | with_reducible apply cond_b | (with_reducible apply bnd_b; intro _) | rfl)
noncomputable def J91x0x20 (L : List Lf) (k0 : LD → Option R) (k1 : Unit → Option R) : Option R := F91x0x20 N (lb L 6) (ll L 8) (li L 9) (li L 10) (li L 11) (li L 12) (li L 13) (li L 14) (li L 15) (li L 16) (ls L 17) k0 k1
noncomputable def sh91x0x20 : Sh := { tmps := [(1, .c (.i .i64)), (2, .c (.i .i64)), (7, .c (.o 7)), (9, .c (.p 9 0)), (11, .c (.sl 70)), (12, .c (.i .i64)), (13, .c (.i .i64)), (26, .c (.b))], mem := [(7, .row 70 true), (9, .box (rI 8 ([.s])))] }
noncomputable def K91x0x20w0 (L : List Lf) (p : LD) : Ex × St := (.normal, mg (ofSh sh91x0x20 L) [1, 2, 7, 11, 12, 13] [(7, .c (.o 30))] [30] [(30, .row 70 true false p)])
noncomputable def K91x0x20w1 (L : List Lf) (_ : Unit) : Ex × St := (.normal, mg (ofSh sh91x0x20 L) [1, 2, 7, 11, 12, 13] [] [7] [])
noncomputable def A91x0x20 (L : List Lf) : List (Bool × (Ex × St)) := bnd (J91x0x20 N L (fun p => some (.inl p)) (fun p => some (.inr p))) fun q => [((inlB q), K91x0x20w0 L (inlV q)), ((inrQ q).isSome, K91x0x20w1 L ())]
theorem raw91x0x20 (L : List Lf) : pc Try.prog (T42x0 N) (h91x0s0 N).h 0 100 91 20 sh91x0x20 L [13, 12, 11, 1, 2, 7] [30, 7] = J91x0x20 N L (fun p => some (K91x0x20w0 L p)) (fun _ => some (K91x0x20w1 L ())) := by kernel_rfl
noncomputable def h91x0s1 : Sg Try.prog 0 91 :=
  (h91x0s0 N).cut (A91x0x20 N) progOk (T42x0_ok N) fun L x hx => (raw91x0x20 N L).trans ((bind91x0x20 N ..).trans ((altS alt1) x hx))
noncomputable def S91x0x9 (w0 w1 : Int) (w3 : LD) (w4 : Int) (w5 : Int) (w6 : Bool) (w7 : LD) (kr : Int → Bool → LD → Option R) (k0 : Bool × LD → Option R) : Option R :=
  bif (decide (w5 < w4)) then
    bif (inB w5 w3.length) then
      bnd (bif (decide (((w3.getD w5.toNat (.i 0)).cell 0).toI ≤ w0)) then (((w3.getD w5.toNat (.i 0)).cell 1).toI == w1) else false) fun y0 =>
      bnd (G91x0x20 N y0 w7 ((w3.getD w5.toNat (.i 0)).cell 0).toI ((w3.getD w5.toNat (.i 0)).cell 1).toI ((w3.getD w5.toNat (.i 0)).cell 2).toI ((w3.getD w5.toNat (.i 0)).cell 3).toI ((w3.getD w5.toNat (.i 0)).cell 4).toI ((w3.getD w5.toNat (.i 0)).cell 5).toI ((w3.getD w5.toNat (.i 0)).cell 6).toI ((w3.getD w5.toNat (.i 0)).cell 7).toI ((w3.getD w5.toNat (.i 0)).cell 8).toS) fun y1 =>
      bif (inlB y1) then
        kr (IntKind.wrap .i64 (w5 + 1)) false (inlV y1)
      else
        bif (inrQ y1).isSome then
          kr (IntKind.wrap .i64 (w5 + 1)) w6 w7
        else
          none
    else
      none
  else
    k0 (w6, w7)
noncomputable def L91x0x9 (N : Nat) {R : Type} (w0 w1 : Int) (w3 : LD) (w4 : Int) : Nat → Int → Bool → LD → (Bool × LD → Option R) → Option R
  | 0, _, _, _, _ => none
  | m + 1, w5, w6, w7, k0 => S91x0x9 N w0 w1 w3 w4 w5 w6 w7 (fun w5 w6 w7 => L91x0x9 N w0 w1 w3 w4 m w5 w6 w7 k0) k0
noncomputable def G91x0x9 (w0 w1 : Int) (w3 : LD) (w4 : Int) (w5 : Int) (w6 : Bool) (w7 : LD) : Option (Bool × LD) := L91x0x9 N (R := (Bool × LD)) w0 w1 w3 w4 N w5 w6 w7 (fun p => some p)
noncomputable def J91x0x9 (L x : List Lf) (kr : List Lf → Option R) (k0 : Bool × LD → Option R) : Option R := S91x0x9 N (li L 0) (li L 1) (ll L 3) (li L 4) (li x 0) (lb x 1) (ll x 2) (fun w5 w6 w7 => kr [.i w5, .b w6, .l w7]) k0
theorem sb91x0x9 (L x : List Lf) (kr : List Lf → Option R) (k0 : Bool × LD → Option R) : J91x0x9 N L x kr k0 = (J91x0x9 N L x (fun y => some (.inl y)) (fun p => some (.inr p))).bind (sumE kr k0) := by
  unfold J91x0x9 S91x0x9
  repeat' (first | with_reducible apply cond_b | (with_reducible apply bnd_b; intro _) | rfl)
noncomputable def Q91x0x9 (L : List Lf) (m : Nat) (x : List Lf) : Option (Bool × LD) := L91x0x9 N (R := (Bool × LD)) (li L 0) (li L 1) (ll L 3) (li L 4) m (li x 0) (lb x 1) (ll x 2) (fun p => some p)
noncomputable def sh91x0x9 : Sh := { tmps := [(1, .c (.i .i64)), (2, .c (.i .i64)), (7, .c (.o 7)), (11, .c (.sl 70)), (12, .c (.i .i64)), (13, .c (.i .i64))], mem := [(7, .row 70 true)] }
noncomputable def A91x0x9 (L : List Lf) : List (Bool × (Ex × St)) := bnd (Q91x0x9 N L N (pk sh91x0x9 [5, 6, 7] L)) fun q => [(q.isSome, ((.exit 0), ⟨[(7, .c (.o 7))], [(7, .row 70 true (q.getD default).1 (q.getD default).2)]⟩))]
theorem step91x0x9 (m : Nat) (kn : St → Option (Ex × St)) (L x : List Lf) : lpB Try.prog (T42x0 N) (h91x0s1 N).h 0 91 9 sh91x0x9 [5, 6, 7] [6, 7] [7] (m + 100) kn L x = J91x0x9 N L x (fun y => kn (ofSh sh91x0x9 (mx sh91x0x9 [5, 6, 7] L y))) (fun p => some ((.exit 0), ⟨[(7, .c (.o 7))], [(7, .row 70 true p.1 p.2)]⟩)) := by kernel_rfl
theorem ql91x0x9 (L : List Lf) (m : Nat) (x : List Lf) : Q91x0x9 N L (m + 1) x = J91x0x9 N L x (Q91x0x9 N L m) some := by kernel_rfl
noncomputable def h91x0s2 : Sg Try.prog 0 91 :=
  (h91x0s1 N).lp (A91x0x9 N) N progOk (T42x0_ok N) (fun m kn L x => (step91x0x9 N m kn L x).trans (sb91x0x9 N L x _ _)) (fun L m x => (ql91x0x9 N L m x).trans (sb91x0x9 N L x (Q91x0x9 N L m) some)) fun L x hx => alt1 x hx
noncomputable def F91x0 (v1 : LD) (v2 v3 : Int) (k0 : Bool × LD → Option R) : Option R :=
  bnd (G91x0x9 N v2 v3 v1 (v1.length : Int) 0 true []) fun y0 =>
  bif y0.isSome then
    k0 (y0.getD default)
  else
    none
noncomputable def G91x0 (v1 : LD) (v2 v3 : Int) : Option (Bool × LD) := F91x0 N v1 v2 v3 (fun p => some p)
theorem bind91x0 (v1 : LD) (v2 v3 : Int) (k0 : Bool × LD → Option R) : F91x0 N v1 v2 v3 k0 = (G91x0 N v1 v2 v3).bind k0 := by
  unfold G91x0 F91x0
  repeat' (first | with_reducible apply cond_b | (with_reducible apply bnd_b; intro _) | rfl)
noncomputable def sh91x0 : Sh := { tmps := [(0, .g ([.sl 70])), (1, .c (.i .i64)), (2, .c (.i .i64))], mem := [] }
noncomputable def A91x0 (L : List Lf) : List (Bool × Res) := bnd (F91x0 N (ll L 1) (li L 2) (li L 3) (fun p => some p)) fun q => [(q.isSome, ([.c (.sl 70 (q.getD default).1 (q.getD default).2)], []))]
theorem raw91x0 (L : List Lf) : bd Try.prog (T42x0 N) (h91x0s2 N).h 91 sh91x0 L = F91x0 N (ll L 1) (li L 2) (li L 3) (fun p => some ([.c (.sl 70 p.1 p.2)], [])) := by kernel_rfl
theorem ok91x0 : FnOk Try.prog 91 sh91x0 (A91x0 N) :=
  (h91x0s2 N).fn progOk (T42x0_ok N) fun L x hx => ((raw91x0 N L).trans ((bind91x0 N ..).trans (alt1 x hx)))
noncomputable def T91x0 : Oracle := ext 91 (spSh sh91x0 (A91x0 N)) (T42x0 N)
theorem T91x0_ok : OracleOk Try.prog (T91x0 N) := FnOk.to (ok91x0 N) (T42x0_ok N)
noncomputable def rg74x0 : List (Nat × List Nat) := [(0, [0, 2, 1]), (1, [3, 1, 5]), (2, [17, 16, 15, 5, 3, 1]), (3, [15, 17, 5, 16, 3, 1]), (4, [8, 5, 17, 16, 15, 3, 1]), (5, []), (6, [17, 16, 15, 5, 3, 1]), (7, [3, 1, 5]), (8, [31, 30, 29, 5]), (9, [29, 31, 5, 30]), (10, [5, 10, 31, 30, 29]), (11, [38, 37, 36, 10, 31, 30, 29, 5]), (12, [36, 38, 10, 37, 31, 30, 29, 5]), (13, [12, 10, 38, 37, 36, 31, 30, 29, 5]), (14, []), (15, [38, 37, 36, 10, 31, 30, 29, 5]), (16, [31, 30, 29, 5]), (17, [])]
noncomputable def hd74x0 : Hints := [(6, [17, 16, 15, 5, 3, 1], [5, 3], []), (24, [31, 30, 29, 5], [5], []), (33, [38, 37, 36, 10, 31, 30, 29, 5], [10, 5], [])]
noncomputable def h74x0s0 (N : Nat) : Sg Try.prog 0 74 := .start hd74x0 rg74x0
noncomputable def S74x0x6 (N : Nat) (w2 : LD) (w3 w8 : Int) (w4 : Int) (kr : Int → Option R) (k0 : Unit → Option R) (k1 : Unit → Option R) : Option R :=
  bif (decide (w4 < w3)) then
    bif (inB w4 w2.length) then
      bif (((w2.getD w4.toNat (.i 0)).cell 7).toI == w8) then
        k0 ()
      else
        kr (IntKind.wrap .i64 (w4 + 1))
    else
      none
  else
    k1 ()
noncomputable def L74x0x6 (N : Nat) {R : Type} (w2 : LD) (w3 w8 : Int) : Nat → Int → (Unit → Option R) → (Unit → Option R) → Option R
  | 0, _, _, _ => none
  | m + 1, w4, k0, k1 => S74x0x6 N w2 w3 w8 w4 (fun w4 => L74x0x6 N w2 w3 w8 m w4 k0 k1) k0 k1
noncomputable def G74x0x6 (w2 : LD) (w3 w8 : Int) (w4 : Int) : Option (Sum (Unit) (Unit)) := L74x0x6 N (R := (Sum (Unit) (Unit))) w2 w3 w8 N w4 (fun p => some (.inl p)) (fun p => some (.inr p))
noncomputable def J74x0x6 (L x : List Lf) (kr : List Lf → Option R) (k0 : Unit → Option R) (k1 : Unit → Option R) : Option R := S74x0x6 N (ll L 2) (li L 3) (li L 8) (li x 0) (fun w4 => kr [.i w4]) k0 k1
theorem sb74x0x6 (L x : List Lf) (kr : List Lf → Option R) (k0 : Unit → Option R) (k1 : Unit → Option R) : J74x0x6 N L x kr k0 k1 = (J74x0x6 N L x (fun y => some (.inl y)) (fun p => some (.inr (.inl p))) (fun p => some (.inr (.inr p)))).bind (sumE kr (sumE k0 k1)) := by
  unfold J74x0x6 S74x0x6
  repeat' (first | with_reducible apply cond_b | (with_reducible apply bnd_b; intro _) | rfl)
noncomputable def Q74x0x6 (L : List Lf) (m : Nat) (x : List Lf) : Option (Sum (Unit) (Unit)) := L74x0x6 N (R := (Sum (Unit) (Unit))) (ll L 2) (li L 3) (li L 8) m (li x 0) (fun p => some (.inl p)) (fun p => some (.inr p))
noncomputable def sh74x0x6 : Sh := { tmps := [(1, .c (.i .i64)), (3, .c (.p 3 0)), (5, .c (.p 5 0)), (15, .c (.sl 70)), (16, .c (.i .i64)), (17, .c (.i .i64))], mem := [(3, .box ([.sl 70])), (5, .box (.s :: [.i .i64, .i .i64, .sl 48, .sl 111, .sl 9]))] }
noncomputable def K74x0x6w0 (L : List Lf) (_ : Unit) : Ex × St := (.ret, mg (ofSh sh74x0x6 L) [6] [(6, .c (.b true))] [3, 5] [])
noncomputable def A74x0x6 (L : List Lf) : List (Bool × (Ex × St)) := bnd (Q74x0x6 N L N (pk sh74x0x6 [4] L)) fun q => [((inlB q), K74x0x6w0 L ()), ((inrQ q).isSome, ((.exit 0), mg (ofSh sh74x0x6 L) [1, 3, 5] [] [3, 5] []))]
theorem step74x0x6 (m : Nat) (kn : St → Option (Ex × St)) (L x : List Lf) : lpB Try.prog (T91x0 N) (h74x0s0 N).h 0 74 6 sh74x0x6 [4] [6, 3, 1, 5] [5, 3] (m + 100) kn L x = J74x0x6 N L x (fun y => kn (ofSh sh74x0x6 (mx sh74x0x6 [4] L y))) (fun _ => some (K74x0x6w0 L ())) (fun _ => some ((.exit 0), mg (ofSh sh74x0x6 L) [1, 3, 5] [] [3, 5] [])) := by kernel_rfl
theorem ql74x0x6 (L : List Lf) (m : Nat) (x : List Lf) : Q74x0x6 N L (m + 1) x = J74x0x6 N L x (Q74x0x6 N L m) (fun p => some (.inl p)) (fun p => some (.inr p)) := by kernel_rfl
noncomputable def h74x0s1 : Sg Try.prog 0 74 :=
  (h74x0s0 N).lp (A74x0x6 N) N progOk (T91x0_ok N) (fun m kn L x => (step74x0x6 N m kn L x).trans (sb74x0x6 N L x _ _ _)) (fun L m x => (ql74x0x6 N L m x).trans (sb74x0x6 N L x (Q74x0x6 N L m) (fun p => some (.inl p)) (fun p => some (.inr p)))) fun L x hx => (altS alt1) x hx
noncomputable def S74x0x33 (N : Nat) (w5 : LD) (w6 : Int) (w25 : LB) (w7 : Int) (kr : Int → Option R) (k0 : Unit → Option R) (k1 : Unit → Option R) : Option R :=
  bif (decide (w7 < w6)) then
    bif (inB w7 w5.length) then
      bif ((w5.getD w7.toNat (.i 0)).toS == w25) then
        k0 ()
      else
        kr (IntKind.wrap .i64 (w7 + 1))
    else
      none
  else
    k1 ()
noncomputable def L74x0x33 (N : Nat) {R : Type} (w5 : LD) (w6 : Int) (w25 : LB) : Nat → Int → (Unit → Option R) → (Unit → Option R) → Option R
  | 0, _, _, _ => none
  | m + 1, w7, k0, k1 => S74x0x33 N w5 w6 w25 w7 (fun w7 => L74x0x33 N w5 w6 w25 m w7 k0 k1) k0 k1
noncomputable def G74x0x33 (w5 : LD) (w6 : Int) (w25 : LB) (w7 : Int) : Option (Sum (Unit) (Unit)) := L74x0x33 N (R := (Sum (Unit) (Unit))) w5 w6 w25 N w7 (fun p => some (.inl p)) (fun p => some (.inr p))
noncomputable def J74x0x33 (L x : List Lf) (kr : List Lf → Option R) (k0 : Unit → Option R) (k1 : Unit → Option R) : Option R := S74x0x33 N (ll L 5) (li L 6) (ls L 25) (li x 0) (fun w7 => kr [.i w7]) k0 k1
theorem sb74x0x33 (L x : List Lf) (kr : List Lf → Option R) (k0 : Unit → Option R) (k1 : Unit → Option R) : J74x0x33 N L x kr k0 k1 = (J74x0x33 N L x (fun y => some (.inl y)) (fun p => some (.inr (.inl p))) (fun p => some (.inr (.inr p)))).bind (sumE kr (sumE k0 k1)) := by
  unfold J74x0x33 S74x0x33
  repeat' (first | with_reducible apply cond_b | (with_reducible apply bnd_b; intro _) | rfl)
noncomputable def Q74x0x33 (L : List Lf) (m : Nat) (x : List Lf) : Option (Sum (Unit) (Unit)) := L74x0x33 N (R := (Sum (Unit) (Unit))) (ll L 5) (li L 6) (ls L 25) m (li x 0) (fun p => some (.inl p)) (fun p => some (.inr p))
noncomputable def sh74x0x33 : Sh := { tmps := [(5, .c (.p 5 0)), (10, .c (.p 10 0)), (29, .c (.sl 70)), (30, .c (.i .i64)), (31, .c (.i .i64)), (36, .c (.sl 9)), (37, .c (.i .i64)), (38, .c (.i .i64))], mem := [(5, .box (.s :: [.i .i64, .i .i64, .sl 48, .sl 111, .sl 9])), (10, .box (rI 8 ([.s])))] }
noncomputable def A74x0x33 (L : List Lf) : List (Bool × (Ex × St)) := bnd (Q74x0x33 N L N (pk sh74x0x33 [7] L)) fun q => [((inlB q), (.ret, mg (ofSh sh74x0x33 L) [6] [(6, .c (.b true))] [5] [])), ((inrQ q).isSome, ((.exit 4), mg (ofSh sh74x0x33 L) [5, 29, 30, 31] [] [5] []))]
theorem step74x0x33 (m : Nat) (kn : St → Option (Ex × St)) (L x : List Lf) : lpB Try.prog (T91x0 N) (h74x0s1 N).h 0 74 33 sh74x0x33 [7] [6, 31, 30, 29, 5] [5] (m + 100) kn L x = J74x0x33 N L x (fun y => kn (ofSh sh74x0x33 (mx sh74x0x33 [7] L y))) (fun _ => some (.ret, mg (ofSh sh74x0x33 L) [6] [(6, .c (.b true))] [5] [])) (fun _ => some ((.exit 4), mg (ofSh sh74x0x33 L) [5, 29, 30, 31] [] [5] [])) := by kernel_rfl
theorem ql74x0x33 (L : List Lf) (m : Nat) (x : List Lf) : Q74x0x33 N L (m + 1) x = J74x0x33 N L x (Q74x0x33 N L m) (fun p => some (.inl p)) (fun p => some (.inr p)) := by kernel_rfl
noncomputable def h74x0s2 : Sg Try.prog 0 74 :=
  (h74x0s1 N).lp (A74x0x33 N) N progOk (T91x0_ok N) (fun m kn L x => (step74x0x33 N m kn L x).trans (sb74x0x33 N L x _ _ _)) (fun L m x => (ql74x0x33 N L m x).trans (sb74x0x33 N L x (Q74x0x33 N L m) (fun p => some (.inl p)) (fun p => some (.inr p)))) fun L x hx => (altS alt1) x hx
noncomputable def S74x0x24 (w1 : LD) (w2 : Int) (w12 : LD) (w3 : Int) (kr : Int → Option R) (k0 : Unit → Option R) (k1 : Unit → Option R) : Option R :=
  bif (decide (w3 < w2)) then
    bif (inB w3 w1.length) then
      bnd (G74x0x33 N w12 (w12.length : Int) ((w1.getD w3.toNat (.i 0)).cell 8).toS 0) fun y0 =>
      bif (inlB y0) then
        k0 ()
      else
        bif (inrQ y0).isSome then
          kr (IntKind.wrap .i64 (w3 + 1))
        else
          none
    else
      none
  else
    k1 ()
noncomputable def L74x0x24 (N : Nat) {R : Type} (w1 : LD) (w2 : Int) (w12 : LD) : Nat → Int → (Unit → Option R) → (Unit → Option R) → Option R
  | 0, _, _, _ => none
  | m + 1, w3, k0, k1 => S74x0x24 N w1 w2 w12 w3 (fun w3 => L74x0x24 N w1 w2 w12 m w3 k0 k1) k0 k1
noncomputable def G74x0x24 (w1 : LD) (w2 : Int) (w12 : LD) (w3 : Int) : Option (Sum (Unit) (Unit)) := L74x0x24 N (R := (Sum (Unit) (Unit))) w1 w2 w12 N w3 (fun p => some (.inl p)) (fun p => some (.inr p))
noncomputable def J74x0x24 (L x : List Lf) (kr : List Lf → Option R) (k0 : Unit → Option R) (k1 : Unit → Option R) : Option R := S74x0x24 N (ll L 1) (li L 2) (ll L 12) (li x 0) (fun w3 => kr [.i w3]) k0 k1
theorem sb74x0x24 (L x : List Lf) (kr : List Lf → Option R) (k0 : Unit → Option R) (k1 : Unit → Option R) : J74x0x24 N L x kr k0 k1 = (J74x0x24 N L x (fun y => some (.inl y)) (fun p => some (.inr (.inl p))) (fun p => some (.inr (.inr p)))).bind (sumE kr (sumE k0 k1)) := by
  unfold J74x0x24 S74x0x24
  repeat' (first | with_reducible apply cond_b | (with_reducible apply bnd_b; intro _) | rfl)
noncomputable def Q74x0x24 (L : List Lf) (m : Nat) (x : List Lf) : Option (Sum (Unit) (Unit)) := L74x0x24 N (R := (Sum (Unit) (Unit))) (ll L 1) (li L 2) (ll L 12) m (li x 0) (fun p => some (.inl p)) (fun p => some (.inr p))
noncomputable def sh74x0x24 : Sh := { tmps := [(5, .c (.p 5 0)), (29, .c (.sl 70)), (30, .c (.i .i64)), (31, .c (.i .i64))], mem := [(5, .box (.s :: [.i .i64, .i .i64, .sl 48, .sl 111, .sl 9]))] }
noncomputable def A74x0x24 (L : List Lf) : List (Bool × (Ex × St)) := bnd (Q74x0x24 N L N (pk sh74x0x24 [3] L)) fun q => [((inlB q), (.ret, ⟨[(6, .c (.b true))], []⟩)), ((inrQ q).isSome, ((.exit 2), ⟨[], []⟩))]
theorem step74x0x24 (m : Nat) (kn : St → Option (Ex × St)) (L x : List Lf) : lpB Try.prog (T91x0 N) (h74x0s2 N).h 0 74 24 sh74x0x24 [3] [6] [] (m + 100) kn L x = J74x0x24 N L x (fun y => kn (ofSh sh74x0x24 (mx sh74x0x24 [3] L y))) (fun _ => some (.ret, ⟨[(6, .c (.b true))], []⟩)) (fun _ => some ((.exit 2), ⟨[], []⟩)) := by kernel_rfl
theorem ql74x0x24 (L : List Lf) (m : Nat) (x : List Lf) : Q74x0x24 N L (m + 1) x = J74x0x24 N L x (Q74x0x24 N L m) (fun p => some (.inl p)) (fun p => some (.inr p)) := by kernel_rfl
noncomputable def h74x0s3 : Sg Try.prog 0 74 :=
  (h74x0s2 N).lp (A74x0x24 N) N progOk (T91x0_ok N) (fun m kn L x => (step74x0x24 N m kn L x).trans (sb74x0x24 N L x _ _ _)) (fun L m x => (ql74x0x24 N L m x).trans (sb74x0x24 N L x (Q74x0x24 N L m) (fun p => some (.inl p)) (fun p => some (.inr p)))) fun L x hx => (altS alt1) x hx
noncomputable def F74x0 (v1 : LD) (v2 v4 : Int) (v11 : LD) (k0 : Bool → Option R) : Option R :=
  bnd (G91x0 N v1 v2 5) fun y0 =>
  bif y0.isSome then
    bnd (G74x0x6 N (y0.getD default).2 ((y0.getD default).2.length : Int) v4 0) fun y1 =>
    bif (inlB y1) then
      k0 true
    else
      bif (inrQ y1).isSome then
        bnd (G91x0 N v1 v2 4) fun y2 =>
        bif y2.isSome then
          bnd (G74x0x24 N (y2.getD default).2 ((y2.getD default).2.length : Int) v11 0) fun y3 =>
          bif (inlB y3) then
            k0 true
          else
            bif (inrQ y3).isSome then
              k0 false
            else
              none
        else
          none
      else
        none
  else
    none
noncomputable def G74x0 (v1 : LD) (v2 v4 : Int) (v11 : LD) : Option (Bool) := F74x0 N v1 v2 v4 v11 (fun p => some p)
theorem bind74x0 (v1 : LD) (v2 v4 : Int) (v11 : LD) (k0 : Bool → Option R) : F74x0 N v1 v2 v4 v11 k0 = (G74x0 N v1 v2 v4 v11).bind k0 := by
  unfold G74x0 F74x0
  repeat' (first | with_reducible apply cond_b | (with_reducible apply bnd_b; intro _) | rfl)
noncomputable def J74x0 (L : List Lf) (k0 : Bool → Option R) : Option R := F74x0 N (ll L 1) (li L 2) (li L 4) (ll L 11) k0
noncomputable def sh74x0 : Sh := { tmps := [(0, .g ([.sl 70])), (1, .c (.i .i64)), (2, .g (.s :: [.i .i64, .i .i64, .sl 48, .sl 111, .sl 9]))], mem := [] }
noncomputable def A74x0 (L : List Lf) : List (Bool × Res) := bnd (J74x0 N L (fun p => some p)) fun q => [(q.isSome, ([.c (.b (q.getD default))], []))]
theorem raw74x0 (L : List Lf) : bd Try.prog (T91x0 N) (h74x0s3 N).h 74 sh74x0 L = J74x0 N L (fun p => some ([.c (.b p)], [])) := by kernel_rfl
theorem ok74x0 : FnOk Try.prog 74 sh74x0 (A74x0 N) :=
  (h74x0s3 N).fn progOk (T91x0_ok N) fun L x hx => ((raw74x0 N L).trans ((bind74x0 N ..).trans (alt1 x hx)))
noncomputable def T74x0 : Oracle := ext 74 (spSh sh74x0 (A74x0 N)) (T91x0 N)
theorem T74x0_ok : OracleOk Try.prog (T74x0 N) := FnOk.to (ok74x0 N) (T91x0_ok N)
noncomputable def rg75x0 : List (Nat × List Nat) := [(0, [0, 2, 3, 1]), (1, [4, 1, 7, 6]), (2, [18, 17, 16, 7, 6, 4, 1]), (3, [16, 18, 7, 17, 6, 4, 1]), (4, [7, 10, 18, 17, 16, 6, 4, 1]), (5, []), (6, [18, 17, 16, 7, 6, 4, 1]), (7, [6, 7, 4, 1]), (8, [4, 1, 11]), (9, [62, 61, 60, 11]), (10, [60, 62, 11, 61]), (11, [11, 13, 62, 61, 60]), (12, []), (13, [62, 61, 60, 11]), (14, [])]
noncomputable def hd75x0 : Hints := [(6, [18, 17, 16, 7, 6, 4, 1], [7, 6, 4], []), (27, [62, 61, 60, 11], [], [])]
noncomputable def h75x0s0 (N : Nat) : Sg Try.prog 0 75 := .start hd75x0 rg75x0
noncomputable def S75x0x6 (N : Nat) (w2 : LD) (w3 w17 w18 : Int) (w4 : Int) (kr : Int → Option R) (k0 : Unit → Option R) (k1 : Unit → Option R) : Option R :=
  bif (decide (w4 < w3)) then
    bif (inB w4 w2.length) then
      bnd (IntKind.wrap .i64 (w17 - ((w2.getD w4.toNat (.i 0)).cell 2).toI)) fun y0 =>
      bnd (IntKind.wrap .i64 (w17 - ((w2.getD w4.toNat (.i 0)).cell 2).toI)) fun y0 =>
      bnd (IntKind.wrap .i64 (w18 - ((w2.getD w4.toNat (.i 0)).cell 3).toI)) fun y1 =>
      bnd (IntKind.wrap .i64 (w18 - ((w2.getD w4.toNat (.i 0)).cell 3).toI)) fun y1 =>
      bnd (IntKind.wrap .i64 ((IntKind.wrap .i64 (y0 * y0)) + (IntKind.wrap .i64 (y1 * y1)))) fun y2 =>
      bnd (IntKind.wrap .i64 (((w2.getD w4.toNat (.i 0)).cell 4).toI * ((w2.getD w4.toNat (.i 0)).cell 4).toI)) fun y3 =>
      bif (decide (y2 ≤ y3)) then
        k0 ()
      else
        kr (IntKind.wrap .i64 (w4 + 1))
    else
      none
  else
    k1 ()
noncomputable def L75x0x6 (N : Nat) {R : Type} (w2 : LD) (w3 w17 w18 : Int) : Nat → Int → (Unit → Option R) → (Unit → Option R) → Option R
  | 0, _, _, _ => none
  | m + 1, w4, k0, k1 => S75x0x6 N w2 w3 w17 w18 w4 (fun w4 => L75x0x6 N w2 w3 w17 w18 m w4 k0 k1) k0 k1
noncomputable def G75x0x6 (w2 : LD) (w3 w17 w18 : Int) (w4 : Int) : Option (Sum (Unit) (Unit)) := L75x0x6 N (R := (Sum (Unit) (Unit))) w2 w3 w17 w18 N w4 (fun p => some (.inl p)) (fun p => some (.inr p))
noncomputable def J75x0x6 (L x : List Lf) (kr : List Lf → Option R) (k0 : Unit → Option R) (k1 : Unit → Option R) : Option R := S75x0x6 N (ll L 2) (li L 3) (li L 17) (li L 18) (li x 0) (fun w4 => kr [.i w4]) k0 k1
theorem sb75x0x6 (L x : List Lf) (kr : List Lf → Option R) (k0 : Unit → Option R) (k1 : Unit → Option R) : J75x0x6 N L x kr k0 k1 = (J75x0x6 N L x (fun y => some (.inl y)) (fun p => some (.inr (.inl p))) (fun p => some (.inr (.inr p)))).bind (sumE kr (sumE k0 k1)) := by
  unfold J75x0x6 S75x0x6
  repeat' (first | with_reducible apply cond_b | (with_reducible apply bnd_b; intro _) | rfl)
noncomputable def Q75x0x6 (L : List Lf) (m : Nat) (x : List Lf) : Option (Sum (Unit) (Unit)) := L75x0x6 N (R := (Sum (Unit) (Unit))) (ll L 2) (li L 3) (li L 17) (li L 18) m (li x 0) (fun p => some (.inl p)) (fun p => some (.inr p))
noncomputable def sh75x0x6 : Sh := { tmps := [(1, .c (.i .i64)), (4, .c (.p 4 0)), (6, .c (.p 6 0)), (7, .c (.p 7 0)), (16, .c (.sl 70)), (17, .c (.i .i64)), (18, .c (.i .i64))], mem := [(4, .box ([.sl 70])), (6, .box (.s :: [.i .i64, .i .i64, .sl 48, .sl 111, .sl 9])), (7, .box (rI 7 ([])))] }
noncomputable def K75x0x6w0 (L : List Lf) (_ : Unit) : Ex × St := (.ret, mg (ofSh sh75x0x6 L) [8] [(8, .c (.b true))] [4, 6, 7] [])
noncomputable def K75x0x6w1 (L : List Lf) (_ : Unit) : Ex × St := ((.exit 0), mg (ofSh sh75x0x6 L) [1, 4, 6, 7] [] [4, 6, 7] [])
noncomputable def A75x0x6 (L : List Lf) : List (Bool × (Ex × St)) := bnd (Q75x0x6 N L N (pk sh75x0x6 [4] L)) fun q => [((inlB q), K75x0x6w0 L ()), ((inrQ q).isSome, K75x0x6w1 L ())]
theorem step75x0x6 (m : Nat) (kn : St → Option (Ex × St)) (L x : List Lf) : lpB Try.prog (T74x0 N) (h75x0s0 N).h 0 75 6 sh75x0x6 [4] [8, 6, 7, 4, 1] [7, 6, 4] (m + 100) kn L x = J75x0x6 N L x (fun y => kn (ofSh sh75x0x6 (mx sh75x0x6 [4] L y))) (fun _ => some (K75x0x6w0 L ())) (fun _ => some (K75x0x6w1 L ())) := by kernel_rfl
theorem ql75x0x6 (L : List Lf) (m : Nat) (x : List Lf) : Q75x0x6 N L (m + 1) x = J75x0x6 N L x (Q75x0x6 N L m) (fun p => some (.inl p)) (fun p => some (.inr p)) := by kernel_rfl
noncomputable def h75x0s1 : Sg Try.prog 0 75 :=
  (h75x0s0 N).lp (A75x0x6 N) N progOk (T74x0_ok N) (fun m kn L x => (step75x0x6 N m kn L x).trans (sb75x0x6 N L x _ _ _)) (fun L m x => (ql75x0x6 N L m x).trans (sb75x0x6 N L x (Q75x0x6 N L m) (fun p => some (.inl p)) (fun p => some (.inr p)))) fun L x hx => (altS alt1) x hx
noncomputable def S75x0x27 (N : Nat) (w0 : Int) (w2 : LD) (w3 : Int) (w4 : Int) (kr : Int → Option R) (k0 : Unit → Option R) (k1 : Unit → Option R) : Option R :=
  bif (decide (w4 < w3)) then
    bif (inB w4 w2.length) then
      bnd (bif (decide (w0 ≥ ((w2.getD w4.toNat (.i 0)).cell 5).toI)) then (decide (w0 ≤ ((w2.getD w4.toNat (.i 0)).cell 6).toI)) else false) fun y0 =>
      bif y0 then
        k0 ()
      else
        kr (IntKind.wrap .i64 (w4 + 1))
    else
      none
  else
    k1 ()
noncomputable def L75x0x27 (N : Nat) {R : Type} (w0 : Int) (w2 : LD) (w3 : Int) : Nat → Int → (Unit → Option R) → (Unit → Option R) → Option R
  | 0, _, _, _ => none
  | m + 1, w4, k0, k1 => S75x0x27 N w0 w2 w3 w4 (fun w4 => L75x0x27 N w0 w2 w3 m w4 k0 k1) k0 k1
noncomputable def G75x0x27 (w0 : Int) (w2 : LD) (w3 : Int) (w4 : Int) : Option (Sum (Unit) (Unit)) := L75x0x27 N (R := (Sum (Unit) (Unit))) w0 w2 w3 N w4 (fun p => some (.inl p)) (fun p => some (.inr p))
noncomputable def J75x0x27 (L x : List Lf) (kr : List Lf → Option R) (k0 : Unit → Option R) (k1 : Unit → Option R) : Option R := S75x0x27 N (li L 0) (ll L 2) (li L 3) (li x 0) (fun w4 => kr [.i w4]) k0 k1
theorem sb75x0x27 (L x : List Lf) (kr : List Lf → Option R) (k0 : Unit → Option R) (k1 : Unit → Option R) : J75x0x27 N L x kr k0 k1 = (J75x0x27 N L x (fun y => some (.inl y)) (fun p => some (.inr (.inl p))) (fun p => some (.inr (.inr p)))).bind (sumE kr (sumE k0 k1)) := by
  unfold J75x0x27 S75x0x27
  repeat' (first | with_reducible apply cond_b | (with_reducible apply bnd_b; intro _) | rfl)
noncomputable def Q75x0x27 (L : List Lf) (m : Nat) (x : List Lf) : Option (Sum (Unit) (Unit)) := L75x0x27 N (R := (Sum (Unit) (Unit))) (li L 0) (ll L 2) (li L 3) m (li x 0) (fun p => some (.inl p)) (fun p => some (.inr p))
noncomputable def sh75x0x27 : Sh := { tmps := [(11, .c (.i .i64)), (60, .c (.sl 70)), (61, .c (.i .i64)), (62, .c (.i .i64))], mem := [] }
noncomputable def A75x0x27 (L : List Lf) : List (Bool × (Ex × St)) := bnd (Q75x0x27 N L N (pk sh75x0x27 [4] L)) fun q => [((inlB q), (.ret, ⟨[(8, .c (.b true))], []⟩)), ((inrQ q).isSome, ((.exit 2), ⟨[], []⟩))]
theorem step75x0x27 (m : Nat) (kn : St → Option (Ex × St)) (L x : List Lf) : lpB Try.prog (T74x0 N) (h75x0s1 N).h 0 75 27 sh75x0x27 [4] [8] [] (m + 100) kn L x = J75x0x27 N L x (fun y => kn (ofSh sh75x0x27 (mx sh75x0x27 [4] L y))) (fun _ => some (.ret, ⟨[(8, .c (.b true))], []⟩)) (fun _ => some ((.exit 2), ⟨[], []⟩)) := by kernel_rfl
theorem ql75x0x27 (L : List Lf) (m : Nat) (x : List Lf) : Q75x0x27 N L (m + 1) x = J75x0x27 N L x (Q75x0x27 N L m) (fun p => some (.inl p)) (fun p => some (.inr p)) := by kernel_rfl
noncomputable def h75x0s2 : Sg Try.prog 0 75 :=
  (h75x0s1 N).lp (A75x0x27 N) N progOk (T74x0_ok N) (fun m kn L x => (step75x0x27 N m kn L x).trans (sb75x0x27 N L x _ _ _)) (fun L m x => (ql75x0x27 N L m x).trans (sb75x0x27 N L x (Q75x0x27 N L m) (fun p => some (.inl p)) (fun p => some (.inr p)))) fun L x hx => (altS alt1) x hx
noncomputable def F75x0 (v1 : LD) (v2 v5 v12 v13 v14 : Int) (k0 : Bool → Option R) : Option R :=
  bnd (G91x0 N v1 v2 1) fun y0 =>
  bif y0.isSome then
    bnd (G75x0x6 N (y0.getD default).2 ((y0.getD default).2.length : Int) v13 v14 0) fun y1 =>
    bif (inlB y1) then
      k0 true
    else
      bif (inrQ y1).isSome then
        bnd (G91x0 N v1 v2 2) fun y2 =>
        bif y2.isSome then
          bnd (G75x0x27 N ((IntKind.wrap .i64 (v5 + v12)).tmod 86400) (y2.getD default).2 ((y2.getD default).2.length : Int) 0) fun y3 =>
          bif (inlB y3) then
            k0 true
          else
            bif (inrQ y3).isSome then
              k0 false
            else
              none
        else
          none
      else
        none
  else
    none
noncomputable def G75x0 (v1 : LD) (v2 v5 v12 v13 v14 : Int) : Option (Bool) := F75x0 N v1 v2 v5 v12 v13 v14 (fun p => some p)
theorem bind75x0 (v1 : LD) (v2 v5 v12 v13 v14 : Int) (k0 : Bool → Option R) : F75x0 N v1 v2 v5 v12 v13 v14 k0 = (G75x0 N v1 v2 v5 v12 v13 v14).bind k0 := by
  unfold G75x0 F75x0
  repeat' (first | with_reducible apply cond_b | (with_reducible apply bnd_b; intro _) | rfl)
noncomputable def J75x0 (L : List Lf) (k0 : Bool → Option R) : Option R := F75x0 N (ll L 1) (li L 2) (li L 5) (li L 12) (li L 13) (li L 14) k0
noncomputable def sh75x0 : Sh := { tmps := [(0, .g ([.sl 70])), (1, .c (.i .i64)), (2, .g (.s :: [.i .i64, .i .i64, .sl 48, .sl 111, .sl 9])), (3, .g (rI 7 ([])))], mem := [] }
noncomputable def A75x0 (L : List Lf) : List (Bool × Res) := bnd (J75x0 N L (fun p => some p)) fun q => [(q.isSome, ([.c (.b (q.getD default))], []))]
theorem raw75x0 (L : List Lf) : bd Try.prog (T74x0 N) (h75x0s2 N).h 75 sh75x0 L = J75x0 N L (fun p => some ([.c (.b p)], [])) := by kernel_rfl
theorem ok75x0 : FnOk Try.prog 75 sh75x0 (A75x0 N) :=
  (h75x0s2 N).fn progOk (T74x0_ok N) fun L x hx => ((raw75x0 N L).trans ((bind75x0 N ..).trans (alt1 x hx)))
noncomputable def T75x0 : Oracle := ext 75 (spSh sh75x0 (A75x0 N)) (T74x0 N)
theorem T75x0_ok : OracleOk Try.prog (T75x0 N) := FnOk.to (ok75x0 N) (T74x0_ok N)
noncomputable def rg43x0 : List (Nat × List Nat) := [(0, [0, 2, 1]), (1, [3, 1, 5]), (2, [5, 8, 3, 1]), (3, [5, 9, 8, 3, 1]), (4, [19, 18, 17, 9, 8, 3, 1, 5]), (5, [17, 19, 9, 8, 3, 1, 5, 18]), (6, [9, 8, 3, 1, 5, 11, 19, 18, 17]), (7, [19, 18, 17, 9, 8, 3, 1, 5]), (8, [9, 8])]
noncomputable def hd43x0 : Hints := [(12, [19, 18, 17, 9, 8, 3, 1, 5], [5, 3, 9], [9]), (19, [9, 8, 3, 1, 5, 11, 19, 18, 17], [11, 9, 5, 3], [])]
noncomputable def h43x0s0 (N : Nat) : Sg Try.prog 0 43 := .start hd43x0 rg43x0
noncomputable def F43x0x19 (w0 : Int) (w1 : Bool) (w7 : LD) (w10 : Int) (w18 : LD) (w19 w20 w21 : Int) (k0 : LD → Option R) : Option R :=
  bif w1 then
    bif (decide ((w18.length + 1) * 1 ≤ room) && decide ((w18.length + 1) ≤ strMax)) then
      k0 (w18 ++ [(.b true)])
    else
      none
  else
    bnd (G75x0 N w7 w0 w10 w19 w20 w21) fun y0 =>
    bif y0.isSome then
      bif (decide ((w18.length + 1) * 1 ≤ room) && decide ((w18.length + 1) ≤ strMax)) then
        k0 (w18 ++ [(.b (y0.getD default))])
      else
        none
    else
      none
noncomputable def G43x0x19 (w0 : Int) (w1 : Bool) (w7 : LD) (w10 : Int) (w18 : LD) (w19 w20 w21 : Int) : Option (LD) := F43x0x19 N w0 w1 w7 w10 w18 w19 w20 w21 (fun p => some p)
theorem bind43x0x19 (w0 : Int) (w1 : Bool) (w7 : LD) (w10 : Int) (w18 : LD) (w19 w20 w21 : Int) (k0 : LD → Option R) : F43x0x19 N w0 w1 w7 w10 w18 w19 w20 w21 k0 = (G43x0x19 N w0 w1 w7 w10 w18 w19 w20 w21).bind k0 := by
  unfold G43x0x19 F43x0x19
  repeat' (first | with_reducible apply cond_b | (with_reducible apply bnd_b; intro _) | rfl)
noncomputable def J43x0x19 (L : List Lf) (k0 : LD → Option R) : Option R := F43x0x19 N (li L 0) (lb L 1) (ll L 7) (li L 10) (ll L 18) (li L 19) (li L 20) (li L 21) k0
noncomputable def sh43x0x19 : Sh := { tmps := [(1, .c (.i .i64)), (3, .c (.p 3 0)), (5, .c (.p 5 0)), (8, .c (.b)), (9, .c (.o 9)), (11, .c (.p 11 0)), (17, .c (.sl 48)), (18, .c (.i .i64)), (19, .c (.i .i64))], mem := [(3, .box ([.sl 70])), (5, .box (.s :: [.i .i64, .i .i64, .sl 48, .sl 111, .sl 9])), (9, .row 4 true), (11, .box (rI 7 ([])))] }
noncomputable def K43x0x19w0 (L : List Lf) (p : LD) : Ex × St := (.normal, mg (ofSh sh43x0x19 L) [1, 3, 5, 8, 9, 17, 18, 19] [(9, .c (.o 33))] [3, 5, 33] [(33, .row 4 true false p)])
noncomputable def A43x0x19 (L : List Lf) : List (Bool × (Ex × St)) := bnd (J43x0x19 N L (fun p => some p)) fun q => [(q.isSome, K43x0x19w0 L (q.getD default))]
theorem raw43x0x19 (L : List Lf) : pc Try.prog (T75x0 N) (h43x0s0 N).h 0 100 43 19 sh43x0x19 L [19, 18, 17, 9, 8, 3, 1, 5] [33, 5, 3] = J43x0x19 N L (fun p => some (K43x0x19w0 L p)) := by kernel_rfl
noncomputable def h43x0s1 : Sg Try.prog 0 43 :=
  (h43x0s0 N).cut (A43x0x19 N) progOk (T75x0_ok N) fun L x hx => (raw43x0x19 N L).trans ((bind43x0x19 N ..).trans (alt1 x hx))
noncomputable def S43x0x12 (w0 : Int) (w1 : Bool) (w3 : LD) (w4 : Int) (w7 : LD) (w10 : Int) (w5 : Int) (w17 : Bool) (w18 : LD) (kr : Int → Bool → LD → Option R) (k0 : Bool × LD → Option R) : Option R :=
  bif (decide (w5 < w4)) then
    bif (inB w5 w3.length) then
      bnd (G43x0x19 N w0 w1 w7 w10 w18 ((w3.getD w5.toNat (.i 0)).cell 0).toI ((w3.getD w5.toNat (.i 0)).cell 1).toI ((w3.getD w5.toNat (.i 0)).cell 2).toI) fun y0 =>
      bif y0.isSome then
        kr (IntKind.wrap .i64 (w5 + 1)) false (y0.getD default)
      else
        none
    else
      none
  else
    k0 (w17, w18)
noncomputable def L43x0x12 (N : Nat) {R : Type} (w0 : Int) (w1 : Bool) (w3 : LD) (w4 : Int) (w7 : LD) (w10 : Int) : Nat → Int → Bool → LD → (Bool × LD → Option R) → Option R
  | 0, _, _, _, _ => none
  | m + 1, w5, w17, w18, k0 => S43x0x12 N w0 w1 w3 w4 w7 w10 w5 w17 w18 (fun w5 w17 w18 => L43x0x12 N w0 w1 w3 w4 w7 w10 m w5 w17 w18 k0) k0
noncomputable def G43x0x12 (w0 : Int) (w1 : Bool) (w3 : LD) (w4 : Int) (w7 : LD) (w10 : Int) (w5 : Int) (w17 : Bool) (w18 : LD) : Option (Bool × LD) := L43x0x12 N (R := (Bool × LD)) w0 w1 w3 w4 w7 w10 N w5 w17 w18 (fun p => some p)
noncomputable def J43x0x12 (L x : List Lf) (kr : List Lf → Option R) (k0 : Bool × LD → Option R) : Option R := S43x0x12 N (li L 0) (lb L 1) (ll L 3) (li L 4) (ll L 7) (li L 10) (li x 0) (lb x 1) (ll x 2) (fun w5 w17 w18 => kr [.i w5, .b w17, .l w18]) k0
theorem sb43x0x12 (L x : List Lf) (kr : List Lf → Option R) (k0 : Bool × LD → Option R) : J43x0x12 N L x kr k0 = (J43x0x12 N L x (fun y => some (.inl y)) (fun p => some (.inr p))).bind (sumE kr k0) := by
  unfold J43x0x12 S43x0x12
  repeat' (first | with_reducible apply cond_b | (with_reducible apply bnd_b; intro _) | rfl)
noncomputable def Q43x0x12 (L : List Lf) (m : Nat) (x : List Lf) : Option (Bool × LD) := L43x0x12 N (R := (Bool × LD)) (li L 0) (lb L 1) (ll L 3) (li L 4) (ll L 7) (li L 10) m (li x 0) (lb x 1) (ll x 2) (fun p => some p)
noncomputable def sh43x0x12 : Sh := { tmps := [(1, .c (.i .i64)), (3, .c (.p 3 0)), (5, .c (.p 5 0)), (8, .c (.b)), (9, .c (.o 9)), (17, .c (.sl 48)), (18, .c (.i .i64)), (19, .c (.i .i64))], mem := [(3, .box ([.sl 70])), (5, .box (.s :: [.i .i64, .i .i64, .sl 48, .sl 111, .sl 9])), (9, .row 4 true)] }
noncomputable def K43x0x12w0 (L : List Lf) (p : Bool × LD) : Ex × St := ((.exit 0), mg (ofSh sh43x0x12 L) [8, 9] [] [9] [(9, .row 4 true p.1 p.2)])
noncomputable def A43x0x12 (L : List Lf) : List (Bool × (Ex × St)) := bnd (Q43x0x12 N L N (pk sh43x0x12 [5, 17, 18] L)) fun q => [(q.isSome, K43x0x12w0 L (q.getD default))]
theorem step43x0x12 (m : Nat) (kn : St → Option (Ex × St)) (L x : List Lf) : lpB Try.prog (T75x0 N) (h43x0s1 N).h 0 43 12 sh43x0x12 [5, 17, 18] [6, 7, 9, 8] [9] (m + 100) kn L x = J43x0x12 N L x (fun y => kn (ofSh sh43x0x12 (mx sh43x0x12 [5, 17, 18] L y))) (fun p => some (K43x0x12w0 L p)) := by kernel_rfl
theorem ql43x0x12 (L : List Lf) (m : Nat) (x : List Lf) : Q43x0x12 N L (m + 1) x = J43x0x12 N L x (Q43x0x12 N L m) some := by kernel_rfl
noncomputable def h43x0s2 : Sg Try.prog 0 43 :=
  (h43x0s1 N).lp (A43x0x12 N) N progOk (T75x0_ok N) (fun m kn L x => (step43x0x12 N m kn L x).trans (sb43x0x12 N L x _ _)) (fun L m x => (ql43x0x12 N L m x).trans (sb43x0x12 N L x (Q43x0x12 N L m) some)) fun L x hx => alt1 x hx
noncomputable def F43x0 (v1 : LD) (v2 v4 v5 : Int) (v7 v11 : LD) (k0 : Bool × LD × Bool → Option R) : Option R :=
  bnd (G74x0 N v1 v2 v4 v11) fun y0 =>
  bif y0.isSome then
    bnd (G43x0x12 N v2 (y0.getD default) v7 (v7.length : Int) v1 v5 0 true []) fun y1 =>
    bif y1.isSome then
      k0 ((y1.getD default).1, (y1.getD default).2, (y0.getD default))
    else
      none
  else
    none
noncomputable def G43x0 (v1 : LD) (v2 v4 v5 : Int) (v7 v11 : LD) : Option (Bool × LD × Bool) := F43x0 N v1 v2 v4 v5 v7 v11 (fun p => some p)
theorem bind43x0 (v1 : LD) (v2 v4 v5 : Int) (v7 v11 : LD) (k0 : Bool × LD × Bool → Option R) : F43x0 N v1 v2 v4 v5 v7 v11 k0 = (G43x0 N v1 v2 v4 v5 v7 v11).bind k0 := by
  unfold G43x0 F43x0
  repeat' (first | with_reducible apply cond_b | (with_reducible apply bnd_b; intro _) | rfl)
noncomputable def J43x0 (L : List Lf) (k0 : Bool × LD × Bool → Option R) : Option R := F43x0 N (ll L 1) (li L 2) (li L 4) (li L 5) (ll L 7) (ll L 11) k0
noncomputable def sh43x0 : Sh := { tmps := [(0, .g ([.sl 70])), (1, .c (.i .i64)), (2, .g (.s :: [.i .i64, .i .i64, .sl 48, .sl 111, .sl 9]))], mem := [] }
noncomputable def A43x0 (L : List Lf) : List (Bool × Res) := bnd (J43x0 N L (fun p => some p)) fun q => [(q.isSome, ([.c (.sl 4 (q.getD default).1 (q.getD default).2.1), .c (.b (q.getD default).2.2)], []))]
theorem raw43x0 (L : List Lf) : bd Try.prog (T75x0 N) (h43x0s2 N).h 43 sh43x0 L = J43x0 N L (fun p => some ([.c (.sl 4 p.1 p.2.1), .c (.b p.2.2)], [])) := by kernel_rfl
theorem ok43x0 : FnOk Try.prog 43 sh43x0 (A43x0 N) :=
  (h43x0s2 N).fn progOk (T75x0_ok N) fun L x hx => ((raw43x0 N L).trans ((bind43x0 N ..).trans (alt1 x hx)))
noncomputable def T43x0 : Oracle := ext 43 (spSh sh43x0 (A43x0 N)) (T75x0 N)
theorem T43x0_ok : OracleOk Try.prog (T43x0 N) := FnOk.to (ok43x0 N) (T75x0_ok N)
noncomputable def rg101x0 : List (Nat × List Nat) := [(0, [0, 1]), (1, [0, 1]), (2, [5, 1, 0]), (3, [5, 1, 0]), (4, [0, 5])]
noncomputable def hd101x0 : Hints := [(11, [5, 1, 0, 10], [], [])]
noncomputable def h101x0s0 (N : Nat) : Sg Try.prog 0 101 := .start hd101x0 rg101x0
noncomputable def F101x0x11 (N : Nat) (w1 w2 : Int) (w3 : Bool) (k0 : Int → R) : R :=
  bif w3 then
    k0 (IntKind.wrap .i64 (w2 + w1))
  else
    k0 w2
noncomputable def V101x0x11 (w1 w2 : Int) (w3 : Bool) : Int := F101x0x11 N w1 w2 w3 (fun p => p)
theorem tot101x0x11 (w1 w2 : Int) (w3 : Bool) (k0 : Int → R) : F101x0x11 N w1 w2 w3 k0 = k0 (V101x0x11 N w1 w2 w3) := by
  unfold V101x0x11 F101x0x11
  repeat' (first | rfl | apply cond_k | (apply bnd_k; intro _))
noncomputable def sh101x0x11 : Sh := { tmps := [(0, .c (.i .i64)), (1, .c (.i .i64)), (5, .c (.i .i64)), (10, .c (.b))], mem := [] }
noncomputable def K101x0x11w0 (L : List Lf) (p : Int) : Ex × St := (.normal, ⟨[(0, .c (.i .i64 (li L 0))), (5, .c (.i .i64 p))], []⟩)
noncomputable def A101x0x11 (L : List Lf) : List (Bool × (Ex × St)) := bnd (F101x0x11 N (li L 1) (li L 2) (lb L 3) (fun p => p)) fun q => [(true, K101x0x11w0 L q)]
theorem raw101x0x11 (L : List Lf) : pc Try.prog (T43x0 N) (h101x0s0 N).h 0 100 101 11 sh101x0x11 L [0, 5] [] = F101x0x11 N (li L 1) (li L 2) (lb L 3) (fun p => some (K101x0x11w0 L p)) := by kernel_rfl
noncomputable def h101x0s1 : Sg Try.prog 0 101 :=
  (h101x0s0 N).cut (A101x0x11 N) progOk (T43x0_ok N) fun L x hx => (raw101x0x11 N L).trans ((tot101x0x11 N ..).trans (alt0 _ _ hx))
noncomputable def F101x0 (v0 v1 : Int) (k0 : Int → Option R) : Option R :=
  bif (!(v1 == 0)) then
    bnd (V101x0x11 N v1 (v0.tmod v1) (decide ((v0.tmod v1) < 0))) fun y0 =>
    k0 (max2 (IntKind.wrap .i64 (v0 - y0)) (-100000000))
  else
    none
noncomputable def G101x0 (v0 v1 : Int) : Option (Int) := F101x0 N v0 v1 (fun p => some p)
theorem bind101x0 (v0 v1 : Int) (k0 : Int → Option R) : F101x0 N v0 v1 k0 = (G101x0 N v0 v1).bind k0 := by
  unfold G101x0 F101x0
  repeat' (first | with_reducible apply cond_b | (with_reducible apply bnd_b; intro _) | rfl)
noncomputable def sh101x0 : Sh := { tmps := [(0, .c (.i .i64)), (1, .c (.i .i64))], mem := [] }
noncomputable def A101x0 (L : List Lf) : List (Bool × Res) := bnd (F101x0 N (li L 0) (li L 1) (fun p => some p)) fun q => [(q.isSome, ([.c (.i .i64 (q.getD default))], []))]
theorem raw101x0 (L : List Lf) : bd Try.prog (T43x0 N) (h101x0s1 N).h 101 sh101x0 L = F101x0 N (li L 0) (li L 1) (fun p => some ([.c (.i .i64 p)], [])) := by kernel_rfl
theorem ok101x0 : FnOk Try.prog 101 sh101x0 (A101x0 N) :=
  (h101x0s1 N).fn progOk (T43x0_ok N) fun L x hx => ((raw101x0 N L).trans ((bind101x0 N ..).trans (alt1 x hx)))
noncomputable def T101x0 : Oracle := ext 101 (spSh sh101x0 (A101x0 N)) (T43x0 N)
theorem T101x0_ok : OracleOk Try.prog (T101x0 N) := FnOk.to (ok101x0 N) (T43x0_ok N)
noncomputable def rg95x0 : List (Nat × List Nat) := [(0, [0, 2, 3, 1]), (1, [6, 3, 4, 1, 8]), (2, [4, 1, 6, 8]), (3, [22, 21, 20, 6, 4, 1, 8]), (4, [20, 22, 6, 21, 4, 1, 8]), (5, [10, 6, 22, 21, 20, 4, 1, 8]), (7, [27, 6, 22, 21, 20, 4, 1, 8]), (9, [27, 6, 22, 21, 20, 4, 1, 8]), (11, [27, 6, 22, 21, 20, 4, 1, 8]), (6, [6, 22, 21, 20, 4, 1, 8]), (12, [6, 22, 21, 20, 4, 1, 8]), (10, [6, 22, 21, 20, 4, 1, 8]), (8, [6, 22, 21, 20, 4, 1, 8]), (13, [22, 21, 20, 6, 4, 1, 8]), (14, [4, 1, 6, 8]), (15, [43, 42, 41, 6, 8]), (16, [41, 43, 6, 42, 8]), (17, [6, 12, 43, 42, 41, 8]), (18, [43, 42, 41, 6, 8]), (19, [6, 8])]
noncomputable def hd95x0 : Hints := [(9, [22, 21, 20, 6, 4, 1, 8], [8, 6, 4], []), (18038, [6, 22, 21, 20, 4, 1, 8, 35], [8, 6, 4], []), (33032, [6, 22, 21, 20, 4, 1, 8, 27, 32], [8, 6, 4], []), (27026, [6, 22, 21, 20, 4, 1, 8, 27, 29], [8, 6, 4], []), (45, [43, 42, 41, 6, 8], [8, 6], [])]
noncomputable def h95x0s0 (N : Nat) : Sg Try.prog 0 95 := .start hd95x0 rg95x0
noncomputable def F95x0x18038 (N : Nat) (w5 : Bool) (w11 w14 : Int) (k0 : Int × Int → R) : R :=
  bif w5 then
    k0 (w11, (-1))
  else
    k0 (0, w14)
noncomputable def V95x0x18038 (w5 : Bool) (w11 w14 : Int) : Int × Int := F95x0x18038 N w5 w11 w14 (fun p => p)
theorem tot95x0x18038 (w5 : Bool) (w11 w14 : Int) (k0 : Int × Int → R) : F95x0x18038 N w5 w11 w14 k0 = k0 (V95x0x18038 N w5 w11 w14) := by
  unfold V95x0x18038 F95x0x18038
  repeat' (first | rfl | apply cond_k | (apply bnd_k; intro _))
noncomputable def sh95x0x18038 : Sh := { tmps := [(1, .c (.i .i64)), (4, .c (.p 4 0)), (6, .c (.p 6 0)), (8, .c (.p 8 0)), (20, .c (.sl 70)), (21, .c (.i .i64)), (22, .c (.i .i64)), (35, .c (.b))], mem := [(4, .box ([.sl 70])), (6, .box (rI 7 ([]))), (8, .box (rI 7 ([])))] }
noncomputable def K95x0x18038w0 (L : List Lf) (p : Int × Int) : Ex × St := (.normal, mg (ofSh sh95x0x18038 L) [1, 4, 6, 8, 20, 21, 22] [] [4, 6, 8] [(6, .box [.i .i64 (li L 8), .i .i64 (li L 9), .i .i64 (li L 10), .i .i64 p.1, .i .i64 (li L 12), .i .i64 (li L 13), .i .i64 p.2])])
noncomputable def A95x0x18038 (L : List Lf) : List (Bool × (Ex × St)) := bnd (F95x0x18038 N (lb L 5) (li L 11) (li L 14) (fun p => p)) fun q => [(true, K95x0x18038w0 L q)]
theorem raw95x0x18038 (L : List Lf) : pc Try.prog (T101x0 N) (h95x0s0 N).h 0 100 95 18038 sh95x0x18038 L [22, 21, 20, 6, 4, 1, 8] [8, 6, 4] = F95x0x18038 N (lb L 5) (li L 11) (li L 14) (fun p => some (K95x0x18038w0 L p)) := by kernel_rfl
noncomputable def h95x0s1 : Sg Try.prog 0 95 :=
  (h95x0s0 N).cut (A95x0x18038 N) progOk (T101x0_ok N) fun L x hx => (raw95x0x18038 N L).trans ((tot95x0x18038 N ..).trans (alt0 _ _ hx))
noncomputable def F95x0x33032 (w5 : Int) (w6 : Bool) (w12 w14 w15 : Int) (k0 : Int × Int × Int → R) : R :=
  bif w6 then
    k0 (w12, (-1), w15)
  else
    bnd (V95x0x18038 N (w5 == 3) w12 w15) fun y0 =>
    k0 (y0.1, w14, y0.2)
noncomputable def V95x0x33032 (w5 : Int) (w6 : Bool) (w12 w14 w15 : Int) : Int × Int × Int := F95x0x33032 N w5 w6 w12 w14 w15 (fun p => p)
theorem tot95x0x33032 (w5 : Int) (w6 : Bool) (w12 w14 w15 : Int) (k0 : Int × Int × Int → R) : F95x0x33032 N w5 w6 w12 w14 w15 k0 = k0 (V95x0x33032 N w5 w6 w12 w14 w15) := by
  unfold V95x0x33032 F95x0x33032
  repeat' (first | rfl | apply cond_k | (apply bnd_k; intro _))
noncomputable def J95x0x33032 (L : List Lf) (k0 : Int × Int × Int → R) : R := F95x0x33032 N (li L 5) (lb L 6) (li L 12) (li L 14) (li L 15) k0
noncomputable def sh95x0x33032 : Sh := { tmps := [(1, .c (.i .i64)), (4, .c (.p 4 0)), (6, .c (.p 6 0)), (8, .c (.p 8 0)), (20, .c (.sl 70)), (21, .c (.i .i64)), (22, .c (.i .i64)), (27, .c (.i .i64)), (32, .c (.b))], mem := [(4, .box ([.sl 70])), (6, .box (rI 7 ([]))), (8, .box (rI 7 ([])))] }
noncomputable def K95x0x33032w0 (L : List Lf) (p : Int × Int × Int) : Ex × St := (.normal, mg (ofSh sh95x0x33032 L) [1, 4, 6, 8, 20, 21, 22] [] [4, 6, 8] [(6, .box [.i .i64 (li L 9), .i .i64 (li L 10), .i .i64 (li L 11), .i .i64 p.1, .i .i64 (li L 13), .i .i64 p.2.1, .i .i64 p.2.2])])
noncomputable def A95x0x33032 (L : List Lf) : List (Bool × (Ex × St)) := bnd (J95x0x33032 N L (fun p => p)) fun q => [(true, K95x0x33032w0 L q)]
theorem raw95x0x33032 (L : List Lf) : pc Try.prog (T101x0 N) (h95x0s1 N).h 0 100 95 33032 sh95x0x33032 L [22, 21, 20, 6, 4, 1, 8] [8, 6, 4] = J95x0x33032 N L (fun p => some (K95x0x33032w0 L p)) := by kernel_rfl
noncomputable def h95x0s2 : Sg Try.prog 0 95 :=
  (h95x0s1 N).cut (A95x0x33032 N) progOk (T101x0_ok N) fun L x hx => (raw95x0x33032 N L).trans ((tot95x0x33032 N ..).trans (alt0 _ _ hx))
noncomputable def F95x0x27026 (w5 : Int) (w6 : Bool) (w12 w13 w14 w15 : Int) (k0 : Int × Int × Int × Int → R) : R :=
  bif w6 then
    k0 (w12, (-1), w14, w15)
  else
    bnd (V95x0x33032 N w5 (w5 == 2) w12 w14 w15) fun y0 =>
    k0 (y0.1, w13, y0.2.1, y0.2.2)
noncomputable def V95x0x27026 (w5 : Int) (w6 : Bool) (w12 w13 w14 w15 : Int) : Int × Int × Int × Int := F95x0x27026 N w5 w6 w12 w13 w14 w15 (fun p => p)
theorem tot95x0x27026 (w5 : Int) (w6 : Bool) (w12 w13 w14 w15 : Int) (k0 : Int × Int × Int × Int → R) : F95x0x27026 N w5 w6 w12 w13 w14 w15 k0 = k0 (V95x0x27026 N w5 w6 w12 w13 w14 w15) := by
  unfold V95x0x27026 F95x0x27026
  repeat' (first | rfl | apply cond_k | (apply bnd_k; intro _))
noncomputable def J95x0x27026 (L : List Lf) (k0 : Int × Int × Int × Int → R) : R := F95x0x27026 N (li L 5) (lb L 6) (li L 12) (li L 13) (li L 14) (li L 15) k0
noncomputable def sh95x0x27026 : Sh := { tmps := [(1, .c (.i .i64)), (4, .c (.p 4 0)), (6, .c (.p 6 0)), (8, .c (.p 8 0)), (20, .c (.sl 70)), (21, .c (.i .i64)), (22, .c (.i .i64)), (27, .c (.i .i64)), (29, .c (.b))], mem := [(4, .box ([.sl 70])), (6, .box (rI 7 ([]))), (8, .box (rI 7 ([])))] }
noncomputable def K95x0x27026w0 (L : List Lf) (p : Int × Int × Int × Int) : Ex × St := (.normal, mg (ofSh sh95x0x27026 L) [1, 4, 6, 8, 20, 21, 22] [] [4, 6, 8] [(6, .box [.i .i64 (li L 9), .i .i64 (li L 10), .i .i64 (li L 11), .i .i64 p.1, .i .i64 p.2.1, .i .i64 p.2.2.1, .i .i64 p.2.2.2])])
noncomputable def A95x0x27026 (L : List Lf) : List (Bool × (Ex × St)) := bnd (J95x0x27026 N L (fun p => p)) fun q => [(true, K95x0x27026w0 L q)]
theorem raw95x0x27026 (L : List Lf) : pc Try.prog (T101x0 N) (h95x0s2 N).h 0 100 95 27026 sh95x0x27026 L [22, 21, 20, 6, 4, 1, 8] [8, 6, 4] = J95x0x27026 N L (fun p => some (K95x0x27026w0 L p)) := by kernel_rfl
noncomputable def h95x0s3 : Sg Try.prog 0 95 :=
  (h95x0s2 N).cut (A95x0x27026 N) progOk (T101x0_ok N) fun L x hx => (raw95x0x27026 N L).trans ((tot95x0x27026 N ..).trans (alt0 _ _ hx))
noncomputable def S95x0x9 (w2 : LD) (w3 : Int) (w4 w10 w11 w12 w13 : Int) (kr : Int → Int → Int → Int → Int → Option R) (k0 : Int × Int × Int × Int → Option R) : Option R :=
  bif (decide (w4 < w3)) then
    bif (inB w4 w2.length) then
      bnd (V95x0x27026 N ((w2.getD w4.toNat (.i 0)).cell 7).toI (((w2.getD w4.toNat (.i 0)).cell 7).toI == 1) w10 w11 w12 w13) fun y0 =>
      kr (IntKind.wrap .i64 (w4 + 1)) y0.1 y0.2.1 y0.2.2.1 y0.2.2.2
    else
      none
  else
    k0 (w10, w11, w12, w13)
noncomputable def L95x0x9 (N : Nat) {R : Type} (w2 : LD) (w3 : Int) : Nat → Int → Int → Int → Int → Int → (Int × Int × Int × Int → Option R) → Option R
  | 0, _, _, _, _, _, _ => none
  | m + 1, w4, w10, w11, w12, w13, k0 => S95x0x9 N w2 w3 w4 w10 w11 w12 w13 (fun w4 w10 w11 w12 w13 => L95x0x9 N w2 w3 m w4 w10 w11 w12 w13 k0) k0
noncomputable def G95x0x9 (w2 : LD) (w3 : Int) (w4 w10 w11 w12 w13 : Int) : Option (Int × Int × Int × Int) := L95x0x9 N (R := (Int × Int × Int × Int)) w2 w3 N w4 w10 w11 w12 w13 (fun p => some p)
noncomputable def J95x0x9 (L x : List Lf) (kr : List Lf → Option R) (k0 : Int × Int × Int × Int → Option R) : Option R := S95x0x9 N (ll L 2) (li L 3) (li x 0) (li x 1) (li x 2) (li x 3) (li x 4) (fun w4 w10 w11 w12 w13 => kr [.i w4, .i w10, .i w11, .i w12, .i w13]) k0
theorem sb95x0x9 (L x : List Lf) (kr : List Lf → Option R) (k0 : Int × Int × Int × Int → Option R) : J95x0x9 N L x kr k0 = (J95x0x9 N L x (fun y => some (.inl y)) (fun p => some (.inr p))).bind (sumE kr k0) := by
  unfold J95x0x9 S95x0x9
  repeat' (first | with_reducible apply cond_b | (with_reducible apply bnd_b; intro _) | rfl)
noncomputable def Q95x0x9 (L : List Lf) (m : Nat) (x : List Lf) : Option (Int × Int × Int × Int) := L95x0x9 N (R := (Int × Int × Int × Int)) (ll L 2) (li L 3) m (li x 0) (li x 1) (li x 2) (li x 3) (li x 4) (fun p => some p)
noncomputable def sh95x0x9 : Sh := { tmps := [(1, .c (.i .i64)), (4, .c (.p 4 0)), (6, .c (.p 6 0)), (8, .c (.p 8 0)), (20, .c (.sl 70)), (21, .c (.i .i64)), (22, .c (.i .i64))], mem := [(4, .box ([.sl 70])), (6, .box (rI 7 ([]))), (8, .box (rI 7 ([])))] }
noncomputable def K95x0x9w0 (L : List Lf) (p : Int × Int × Int × Int) : Ex × St := ((.exit 0), mg (ofSh sh95x0x9 L) [1, 4, 6, 8] [] [4, 6, 8] [(6, .box [.i .i64 (li L 7), .i .i64 (li L 8), .i .i64 (li L 9), .i .i64 p.1, .i .i64 p.2.1, .i .i64 p.2.2.1, .i .i64 p.2.2.2])])
noncomputable def A95x0x9 (L : List Lf) : List (Bool × (Ex × St)) := bnd (Q95x0x9 N L N (pk sh95x0x9 [4, 10, 11, 12, 13] L)) fun q => [(q.isSome, K95x0x9w0 L (q.getD default))]
theorem step95x0x9 (m : Nat) (kn : St → Option (Ex × St)) (L x : List Lf) : lpB Try.prog (T101x0 N) (h95x0s3 N).h 0 95 9 sh95x0x9 [4, 10, 11, 12, 13] [8, 4, 1, 6] [8, 6, 4] (m + 100) kn L x = J95x0x9 N L x (fun y => kn (ofSh sh95x0x9 (mx sh95x0x9 [4, 10, 11, 12, 13] L y))) (fun p => some (K95x0x9w0 L p)) := by kernel_rfl
theorem ql95x0x9 (L : List Lf) (m : Nat) (x : List Lf) : Q95x0x9 N L (m + 1) x = J95x0x9 N L x (Q95x0x9 N L m) some := by kernel_rfl
noncomputable def h95x0s4 : Sg Try.prog 0 95 :=
  (h95x0s3 N).lp (A95x0x9 N) N progOk (T101x0_ok N) (fun m kn L x => (step95x0x9 N m kn L x).trans (sb95x0x9 N L x _ _)) (fun L m x => (ql95x0x9 N L m x).trans (sb95x0x9 N L x (Q95x0x9 N L m) some)) fun L x hx => alt1 x hx
noncomputable def S95x0x45 (w1 : LD) (w2 : Int) (w3 w5 w6 : Int) (kr : Int → Int → Int → Option R) (k0 : Int × Int → Option R) : Option R :=
  bif (decide (w3 < w2)) then
    bif (inB w3 w1.length) then
      bnd (G101x0 N w5 ((w1.getD w3.toNat (.i 0)).cell 7).toI) fun y0 =>
      bif y0.isSome then
        bnd (G101x0 N w6 ((w1.getD w3.toNat (.i 0)).cell 7).toI) fun y1 =>
        bif y1.isSome then
          kr (IntKind.wrap .i64 (w3 + 1)) (y0.getD default) (y1.getD default)
        else
          none
      else
        none
    else
      none
  else
    k0 (w5, w6)
noncomputable def L95x0x45 (N : Nat) {R : Type} (w1 : LD) (w2 : Int) : Nat → Int → Int → Int → (Int × Int → Option R) → Option R
  | 0, _, _, _, _ => none
  | m + 1, w3, w5, w6, k0 => S95x0x45 N w1 w2 w3 w5 w6 (fun w3 w5 w6 => L95x0x45 N w1 w2 m w3 w5 w6 k0) k0
noncomputable def G95x0x45 (w1 : LD) (w2 : Int) (w3 w5 w6 : Int) : Option (Int × Int) := L95x0x45 N (R := (Int × Int)) w1 w2 N w3 w5 w6 (fun p => some p)
noncomputable def J95x0x45 (L x : List Lf) (kr : List Lf → Option R) (k0 : Int × Int → Option R) : Option R := S95x0x45 N (ll L 1) (li L 2) (li x 0) (li x 1) (li x 2) (fun w3 w5 w6 => kr [.i w3, .i w5, .i w6]) k0
theorem sb95x0x45 (L x : List Lf) (kr : List Lf → Option R) (k0 : Int × Int → Option R) : J95x0x45 N L x kr k0 = (J95x0x45 N L x (fun y => some (.inl y)) (fun p => some (.inr p))).bind (sumE kr k0) := by
  unfold J95x0x45 S95x0x45
  repeat' (first | with_reducible apply cond_b | (with_reducible apply bnd_b; intro _) | rfl)
noncomputable def Q95x0x45 (L : List Lf) (m : Nat) (x : List Lf) : Option (Int × Int) := L95x0x45 N (R := (Int × Int)) (ll L 1) (li L 2) m (li x 0) (li x 1) (li x 2) (fun p => some p)
noncomputable def sh95x0x45 : Sh := { tmps := [(6, .c (.p 6 0)), (8, .c (.p 8 0)), (41, .c (.sl 70)), (42, .c (.i .i64)), (43, .c (.i .i64))], mem := [(6, .box (rI 7 ([]))), (8, .box (rI 7 ([])))] }
noncomputable def K95x0x45w0 (L : List Lf) (p : Int × Int) : Ex × St := ((.exit 3), mg (ofSh sh95x0x45 L) [6, 8] [] [6, 8] [(6, .box (.i .i64 (li L 4) :: .i .i64 p.1 :: .i .i64 p.2 :: rL L 7 4 ([])))])
noncomputable def A95x0x45 (L : List Lf) : List (Bool × (Ex × St)) := bnd (Q95x0x45 N L N (pk sh95x0x45 [3, 5, 6] L)) fun q => [(q.isSome, K95x0x45w0 L (q.getD default))]
theorem step95x0x45 (m : Nat) (kn : St → Option (Ex × St)) (L x : List Lf) : lpB Try.prog (T101x0 N) (h95x0s4 N).h 0 95 45 sh95x0x45 [3, 5, 6] [8, 6] [8, 6] (m + 100) kn L x = J95x0x45 N L x (fun y => kn (ofSh sh95x0x45 (mx sh95x0x45 [3, 5, 6] L y))) (fun p => some (K95x0x45w0 L p)) := by kernel_rfl
theorem ql95x0x45 (L : List Lf) (m : Nat) (x : List Lf) : Q95x0x45 N L (m + 1) x = J95x0x45 N L x (Q95x0x45 N L m) some := by kernel_rfl
noncomputable def h95x0s5 : Sg Try.prog 0 95 :=
  (h95x0s4 N).lp (A95x0x45 N) N progOk (T101x0_ok N) (fun m kn L x => (step95x0x45 N m kn L x).trans (sb95x0x45 N L x _ _)) (fun L m x => (ql95x0x45 N L m x).trans (sb95x0x45 N L x (Q95x0x45 N L m) some)) fun L x hx => alt1 x hx
noncomputable def F95x0 (v1 : LD) (v2 v3 v4 v5 v6 v7 v8 v9 v10 : Int) (k0 : Int × Int × Int × Int × Int × Int × Int → Option R) : Option R :=
  bnd (G91x0 N v1 v2 3) fun y0 =>
  bif y0.isSome then
    bnd (G95x0x9 N (y0.getD default).2 ((y0.getD default).2.length : Int) 0 v6 v7 v8 v9) fun y1 =>
    bif y1.isSome then
      bnd (G91x0 N v1 v2 8) fun y2 =>
      bif y2.isSome then
        bnd (G95x0x45 N (y2.getD default).2 ((y2.getD default).2.length : Int) 0 v4 v5) fun y3 =>
        bif y3.isSome then
          k0 ((IntKind.wrap .i64 (v3 - v10)), (y3.getD default).1, (y3.getD default).2, (y1.getD default).1, (y1.getD default).2.1, (y1.getD default).2.2.1, (y1.getD default).2.2.2)
        else
          none
      else
        none
    else
      none
  else
    none
noncomputable def G95x0 (v1 : LD) (v2 v3 v4 v5 v6 v7 v8 v9 v10 : Int) : Option (Int × Int × Int × Int × Int × Int × Int) := F95x0 N v1 v2 v3 v4 v5 v6 v7 v8 v9 v10 (fun p => some p)
theorem bind95x0 (v1 : LD) (v2 v3 v4 v5 v6 v7 v8 v9 v10 : Int) (k0 : Int × Int × Int × Int × Int × Int × Int → Option R) : F95x0 N v1 v2 v3 v4 v5 v6 v7 v8 v9 v10 k0 = (G95x0 N v1 v2 v3 v4 v5 v6 v7 v8 v9 v10).bind k0 := by
  unfold G95x0 F95x0
  repeat' (first | with_reducible apply cond_b | (with_reducible apply bnd_b; intro _) | rfl)
noncomputable def J95x0 (L : List Lf) (k0 : Int × Int × Int × Int × Int × Int × Int → Option R) : Option R := F95x0 N (ll L 1) (li L 2) (li L 3) (li L 4) (li L 5) (li L 6) (li L 7) (li L 8) (li L 9) (li L 10) k0
noncomputable def sh95x0 : Sh := { tmps := [(0, .g ([.sl 70])), (1, .c (.i .i64)), (2, .g (rI 7 ([]))), (3, .c (.i .i64))], mem := [] }
noncomputable def K95x0w0 (L : List Lf) (p : Int × Int × Int × Int × Int × Int × Int) : Res := let p1 := p.2; let p2 := p1.2; let p3 := p2.2; let p4 := p3.2; let p5 := p4.2; let p6 := p5.2; ([.g [.i .i64 p.1, .i .i64 p1.1, .i .i64 p2.1, .i .i64 p3.1, .i .i64 p4.1, .i .i64 p5.1, .i .i64 p6]], [])
noncomputable def A95x0 (L : List Lf) : List (Bool × Res) := bnd (J95x0 N L (fun p => some p)) fun q => [(q.isSome, K95x0w0 L (q.getD default))]
theorem raw95x0 (L : List Lf) : bd Try.prog (T101x0 N) (h95x0s5 N).h 95 sh95x0 L = J95x0 N L (fun p => some (K95x0w0 L p)) := by kernel_rfl
theorem ok95x0 : FnOk Try.prog 95 sh95x0 (A95x0 N) :=
  (h95x0s5 N).fn progOk (T101x0_ok N) fun L x hx => ((raw95x0 N L).trans ((bind95x0 N ..).trans (alt1 x hx)))
noncomputable def T95x0 : Oracle := ext 95 (spSh sh95x0 (A95x0 N)) (T101x0 N)
theorem T95x0_ok : OracleOk Try.prog (T95x0 N) := FnOk.to (ok95x0 N) (T101x0_ok N)
noncomputable def rg78x0 : List (Nat × List Nat) := [(0, [0, 2, 3, 1]), (1, [3, 6, 4, 1, 8]), (2, [6, 9, 4, 1, 3, 8]), (3, [4, 1, 10, 3, 9, 6, 8]), (4, [11, 10, 4, 1, 3, 9, 6, 8]), (5, [10, 4, 1, 3, 9, 6, 11, 8]), (6, [4, 1, 10, 3, 9, 6, 11, 8]), (7, [10, 3, 4, 1, 9, 6, 11, 8]), (8, [3, 10, 4, 1, 9, 6, 11, 8]), (9, [3, 12, 10, 4, 1, 9, 6, 11, 8]), (10, [57, 56, 55, 12, 10, 4, 1, 9, 6, 11, 8]), (11, [55, 57, 12, 10, 4, 1, 9, 56, 6, 11, 8]), (12, [12, 14, 10, 4, 1, 9, 57, 56, 55, 6, 11, 8]), (13, [10, 4, 1, 14, 9, 57, 56, 55, 12, 6, 11, 8]), (14, [57, 56, 55, 12, 10, 4, 1, 9, 6, 11, 8]), (15, [6, 12, 9, 11, 10, 8]), (16, [78, 77, 76, 12, 9, 11, 10, 8]), (17, [76, 78, 12, 77, 9, 11, 10, 8]), (18, [12, 16, 78, 77, 76, 9, 11, 10, 8]), (19, [16, 9, 11, 10, 78, 77, 76, 12, 8]), (20, [11, 16, 10, 78, 77, 76, 12, 9, 8]), (21, [16, 10, 78, 77, 76, 12, 9, 11, 8]), (22, [10, 16, 78, 77, 76, 12, 9, 11, 8]), (23, [78, 77, 76, 12, 9, 11, 10, 8]), (24, [10, 8])]
noncomputable def hd78x0 : Hints := [(17, [10, 4, 1, 3, 9, 6, 11, 8, 39], [32, 10, 8, 6, 4], []), (23, [10, 3, 4, 1, 9, 6, 11, 8, 46], [10, 8, 6, 4, 32], []), (30, [57, 56, 55, 12, 10, 4, 1, 9, 6, 11, 8], [54, 10, 8, 6, 4, 32, 50010004, 50010003], [50010004, 50010003]), (48, [78, 77, 76, 12, 9, 11, 10, 8], [54, 50010004, 50010003, 10, 8, 32], [50010004, 50010003]), (65, [16, 10, 78, 77, 76, 12, 9, 11, 8, 104], [16, 54, 50010004, 50010003, 10, 8, 32], [])]
noncomputable def h78x0s0 (N : Nat) : Sg Try.prog 0 78 := .start hd78x0 rg78x0
noncomputable def F78x0x17 (N : Nat) (w5 : Bool) (k0 : LB → Option R) (k1 : Unit → Option R) : Option R :=
  bif w5 then
    k0 ([97, 99, 116, 105, 118, 105, 116, 121] : List UInt8)
  else
    k1 ()
noncomputable def G78x0x17 (w5 : Bool) : Option (Sum (LB) (Unit)) := F78x0x17 N w5 (fun p => some (.inl p)) (fun p => some (.inr p))
theorem bind78x0x17 (w5 : Bool) (k0 : LB → Option R) (k1 : Unit → Option R) : F78x0x17 N w5 k0 k1 = (G78x0x17 N w5).bind (sumE k0 k1) := by
  unfold G78x0x17 F78x0x17
  repeat' (first | with_reducible apply cond_b | (with_reducible apply bnd_b; intro _) | rfl)
noncomputable def sh78x0x17 : Sh := { tmps := [(1, .c (.i .i64)), (3, .c (.sl 48)), (4, .c (.p 4 0)), (6, .c (.p 6 0)), (8, .c (.p 8 0)), (9, .c (.i .i64)), (10, .c (.p 10 0)), (11, .c (.b)), (39, .c (.b))], mem := [(4, .box ([.sl 70])), (6, .box (.s :: [.i .i64, .i .i64, .sl 48, .sl 111, .sl 9])), (8, .box (.s :: [.i .i64, .i .i64, .sl 48, .sl 111, .sl 9])), (10, .box (.s :: [.i .i64, .i .i64, .sl 48, .sl 111, .o 32])), (32, .row 9 true)] }
noncomputable def K78x0x17w0 (L : List Lf) (p : LB) : Ex × St := (.normal, mg (ofSh sh78x0x17 L) [1, 3, 4, 6, 8, 9, 10, 11] [] [4, 6, 8, 10, 32] [(10, .box [.s p, .i .i64 (li L 27), .i .i64 (li L 28), .sl 48 (lb L 29) (ll L 30), .sl 111 (lb L 31) (ll L 32), .sl 9 true []])])
noncomputable def K78x0x17w1 (L : List Lf) (_ : Unit) : Ex × St := (.normal, mg (ofSh sh78x0x17 L) [1, 3, 4, 6, 8, 9, 10, 11] [] [4, 6, 8, 10, 32] [])
noncomputable def A78x0x17 (L : List Lf) : List (Bool × (Ex × St)) := bnd (F78x0x17 N (lb L 5) (fun p => some (.inl p)) (fun p => some (.inr p))) fun q => [((inlB q), K78x0x17w0 L (inlV q)), ((inrQ q).isSome, K78x0x17w1 L ())]
theorem raw78x0x17 (L : List Lf) : pc Try.prog (T95x0 N) (h78x0s0 N).h 0 100 78 17 sh78x0x17 L [4, 1, 10, 3, 9, 6, 11, 8] [10, 8, 6, 4, 32] = F78x0x17 N (lb L 5) (fun p => some (K78x0x17w0 L p)) (fun _ => some (K78x0x17w1 L ())) := by kernel_rfl
noncomputable def h78x0s1 : Sg Try.prog 0 78 :=
  (h78x0s0 N).cut (A78x0x17 N) progOk (T95x0_ok N) fun L x hx => (raw78x0x17 N L).trans ((bind78x0x17 N ..).trans ((altS alt1) x hx))
noncomputable def F78x0x23 (N : Nat) (w5 : Bool) (w28 : Int) (k0 : Int → R) : R :=
  bif w5 then
    k0 (IntKind.wrap .i64 (w28 - (w28.tmod 86400)))
  else
    k0 w28
noncomputable def V78x0x23 (w5 : Bool) (w28 : Int) : Int := F78x0x23 N w5 w28 (fun p => p)
theorem tot78x0x23 (w5 : Bool) (w28 : Int) (k0 : Int → R) : F78x0x23 N w5 w28 k0 = k0 (V78x0x23 N w5 w28) := by
  unfold V78x0x23 F78x0x23
  repeat' (first | rfl | apply cond_k | (apply bnd_k; intro _))
noncomputable def sh78x0x23 : Sh := { tmps := [(1, .c (.i .i64)), (3, .c (.sl 48)), (4, .c (.p 4 0)), (6, .c (.p 6 0)), (8, .c (.p 8 0)), (9, .c (.i .i64)), (10, .c (.p 10 0)), (11, .c (.b)), (46, .c (.b))], mem := [(4, .box ([.sl 70])), (6, .box (.s :: [.i .i64, .i .i64, .sl 48, .sl 111, .sl 9])), (8, .box (.s :: [.i .i64, .i .i64, .sl 48, .sl 111, .sl 9])), (10, .box (.s :: [.i .i64, .i .i64, .sl 48, .sl 111, .sl 9])), (32, .row 9 true)] }
noncomputable def K78x0x23w0 (L : List Lf) (p : Int) : Ex × St := (.normal, mg (ofSh sh78x0x23 L) [1, 3, 4, 6, 8, 9, 10, 11] [] [4, 6, 8, 10] [(10, .box [.s (ls L 26), .i .i64 (li L 27), .i .i64 p, .sl 48 (lb L 29) (ll L 30), .sl 111 (lb L 31) (ll L 32), .sl 9 (lb L 33) (ll L 34)])])
noncomputable def A78x0x23 (L : List Lf) : List (Bool × (Ex × St)) := bnd (F78x0x23 N (lb L 5) (li L 28) (fun p => p)) fun q => [(true, K78x0x23w0 L q)]
theorem raw78x0x23 (L : List Lf) : pc Try.prog (T95x0 N) (h78x0s1 N).h 0 100 78 23 sh78x0x23 L [3, 10, 4, 1, 9, 6, 11, 8] [10, 8, 6, 4] = F78x0x23 N (lb L 5) (li L 28) (fun p => some (K78x0x23w0 L p)) := by kernel_rfl
noncomputable def h78x0s2 : Sg Try.prog 0 78 :=
  (h78x0s1 N).cut (A78x0x23 N) progOk (T95x0_ok N) fun L x hx => (raw78x0x23 N L).trans ((tot78x0x23 N ..).trans (alt0 _ _ hx))
noncomputable def S78x0x30 (w0 w1 : Int) (w4 : LD) (w5 : Int) (w8 : LD) (w6 : Int) (w32 : (List (D × D))) (w33 : Bool) (w34 : LD) (kr : Int → (List (D × D)) → Bool → LD → Option R) (k0 : Ty6 → Option R) : Option R :=
  bif (decide (w6 < w5)) then
    bif (inB w6 w4.length) then
      bnd (putB Try.prog 3 (.i ((w4.getD w6.toNat (.i 0)).cell 0).toI) (.b true) w32) fun y0 =>
      bnd (G95x0 N w8 w0 ((w4.getD w6.toNat (.i 0)).cell 0).toI ((w4.getD w6.toNat (.i 0)).cell 1).toI ((w4.getD w6.toNat (.i 0)).cell 2).toI ((w4.getD w6.toNat (.i 0)).cell 3).toI ((w4.getD w6.toNat (.i 0)).cell 4).toI ((w4.getD w6.toNat (.i 0)).cell 5).toI ((w4.getD w6.toNat (.i 0)).cell 6).toI w1) fun y1 =>
      bif y1.isSome then
        bif (decide ((w34.length + 1) * 56 ≤ room) && decide ((w34.length + 1) ≤ strMax)) then
          bnd ((w34 ++ [(.a [(.i (y1.getD default).1), (.i (y1.getD default).2.1), (.i (y1.getD default).2.2.1), (.i (y1.getD default).2.2.2.1), (.i (y1.getD default).2.2.2.2.1), (.i (y1.getD default).2.2.2.2.2.1), (.i (y1.getD default).2.2.2.2.2.2)])]) : List D) fun y2 =>
          kr (IntKind.wrap .i64 (w6 + 1)) y0 false y2
        else
          none
      else
        none
    else
      none
  else
    k0 (w32, w33, w34)
noncomputable def L78x0x30 (N : Nat) {R : Type} (w0 w1 : Int) (w4 : LD) (w5 : Int) (w8 : LD) : Nat → Int → (List (D × D)) → Bool → LD → (Ty6 → Option R) → Option R
  | 0, _, _, _, _, _ => none
  | m + 1, w6, w32, w33, w34, k0 => S78x0x30 N w0 w1 w4 w5 w8 w6 w32 w33 w34 (fun w6 w32 w33 w34 => L78x0x30 N w0 w1 w4 w5 w8 m w6 w32 w33 w34 k0) k0
noncomputable def G78x0x30 (w0 w1 : Int) (w4 : LD) (w5 : Int) (w8 : LD) (w6 : Int) (w32 : (List (D × D))) (w33 : Bool) (w34 : LD) : Option (Ty6) := L78x0x30 N (R := (Ty6)) w0 w1 w4 w5 w8 N w6 w32 w33 w34 (fun p => some p)
noncomputable def J78x0x30 (L x : List Lf) (kr : List Lf → Option R) (k0 : Ty6 → Option R) : Option R := S78x0x30 N (li L 0) (li L 1) (ll L 4) (li L 5) (ll L 8) (li x 0) (lm x 1) (lb x 2) (ll x 3) (fun w6 w32 w33 w34 => kr [.i w6, .m w32, .b w33, .l w34]) k0
theorem sb78x0x30 (L x : List Lf) (kr : List Lf → Option R) (k0 : Ty6 → Option R) : J78x0x30 N L x kr k0 = (J78x0x30 N L x (fun y => some (.inl y)) (fun p => some (.inr p))).bind (sumE kr k0) := by
  unfold J78x0x30 S78x0x30
  repeat' (first | with_reducible apply cond_b | (with_reducible apply bnd_b; intro _) | rfl)
noncomputable def Q78x0x30 (L : List Lf) (m : Nat) (x : List Lf) : Option (Ty6) := L78x0x30 N (R := (Ty6)) (li L 0) (li L 1) (ll L 4) (li L 5) (ll L 8) m (li x 0) (lm x 1) (lb x 2) (ll x 3) (fun p => some p)
noncomputable def sh78x0x30 : Sh := { tmps := [(1, .c (.i .i64)), (4, .c (.p 4 0)), (6, .c (.p 6 0)), (8, .c (.p 8 0)), (9, .c (.i .i64)), (10, .c (.p 10 0)), (11, .c (.b)), (12, .c (.m 54)), (55, .c (.sl 48)), (56, .c (.i .i64)), (57, .c (.i .i64))], mem := [(4, .box ([.sl 70])), (6, .box (.s :: [.i .i64, .i .i64, .sl 48, .sl 111, .sl 9])), (8, .box (.s :: [.i .i64, .i .i64, .sl 48, .sl 111, .sl 9])), (10, .box (.s :: [.i .i64, .i .i64, .o 50010003, .o 50010004, .sl 9])), (54, .map 3 4), (50010003, .row 48 true), (50010004, .row 111 true)] }
noncomputable def K78x0x30w0 (L : List Lf) (p : Ty6) : Ex × St := ((.exit 0), mg (ofSh sh78x0x30 L) [6, 8, 9, 10, 11, 12] [] [6, 8, 10, 54, 50010003, 50010004] [(54, .map 3 4 p.1), (50010003, .row 48 true p.2.1 p.2.2)])
noncomputable def A78x0x30 (L : List Lf) : List (Bool × (Ex × St)) := bnd (Q78x0x30 N L N (pk sh78x0x30 [6, 32, 33, 34] L)) fun q => [(q.isSome, K78x0x30w0 L (q.getD default))]
theorem step78x0x30 (m : Nat) (kn : St → Option (Ex × St)) (L x : List Lf) : lpB Try.prog (T95x0 N) (h78x0s2 N).h 0 78 30 sh78x0x30 [6, 32, 33, 34] [8, 6, 12, 9, 11, 10] [54, 50010004, 50010003, 10, 8, 6] (m + 100) kn L x = J78x0x30 N L x (fun y => kn (ofSh sh78x0x30 (mx sh78x0x30 [6, 32, 33, 34] L y))) (fun p => some (K78x0x30w0 L p)) := by kernel_rfl
theorem ql78x0x30 (L : List Lf) (m : Nat) (x : List Lf) : Q78x0x30 N L (m + 1) x = J78x0x30 N L x (Q78x0x30 N L m) some := by kernel_rfl
noncomputable def h78x0s3 : Sg Try.prog 0 78 :=
  (h78x0s2 N).lp (A78x0x30 N) N progOk (T95x0_ok N) (fun m kn L x => (step78x0x30 N m kn L x).trans (sb78x0x30 N L x _ _)) (fun L m x => (ql78x0x30 N L m x).trans (sb78x0x30 N L x (Q78x0x30 N L m) some)) fun L x hx => alt1 x hx
noncomputable def F78x0x65 (N : Nat) (w6 : Bool) (w23 : LB) (k0 : LB → R) : R :=
  bif w6 then
    k0 ([] : List UInt8)
  else
    k0 w23
noncomputable def V78x0x65 (w6 : Bool) (w23 : LB) : LB := F78x0x65 N w6 w23 (fun p => p)
theorem tot78x0x65 (w6 : Bool) (w23 : LB) (k0 : LB → R) : F78x0x65 N w6 w23 k0 = k0 (V78x0x65 N w6 w23) := by
  unfold V78x0x65 F78x0x65
  repeat' (first | rfl | apply cond_k | (apply bnd_k; intro _))
noncomputable def sh78x0x65 : Sh := { tmps := [(8, .c (.p 8 0)), (9, .c (.i .i64)), (10, .c (.p 10 0)), (11, .c (.b)), (12, .c (.m 54)), (16, .c (.p 16 0)), (76, .c (.sl 111)), (77, .c (.i .i64)), (78, .c (.i .i64)), (104, .c (.b))], mem := [(8, .box (.s :: [.i .i64, .i .i64, .sl 48, .sl 111, .sl 9])), (10, .box (.s :: [.i .i64, .i .i64, .o 50010003, .o 50010004, .sl 9])), (16, .box ([.i .i64, .i .i64, .s])), (54, .map 3 4), (50010003, .row 48 true), (50010004, .row 111 true)] }
noncomputable def K78x0x65w0 (L : List Lf) (p : LB) : Ex × St := (.normal, mg (ofSh sh78x0x65 L) [8, 9, 10, 11, 12, 16, 76, 77, 78] [] [8, 10, 16, 54, 50010003, 50010004] [(16, .box [.i .i64 (li L 21), .i .i64 (li L 22), .s p])])
noncomputable def A78x0x65 (L : List Lf) : List (Bool × (Ex × St)) := bnd (F78x0x65 N (lb L 6) (ls L 23) (fun p => p)) fun q => [(true, K78x0x65w0 L q)]
theorem raw78x0x65 (L : List Lf) : pc Try.prog (T95x0 N) (h78x0s3 N).h 0 100 78 65 sh78x0x65 L [10, 16, 78, 77, 76, 12, 9, 11, 8] [16, 54, 50010004, 50010003, 10, 8] = F78x0x65 N (lb L 6) (ls L 23) (fun p => some (K78x0x65w0 L p)) := by kernel_rfl
noncomputable def h78x0s4 : Sg Try.prog 0 78 :=
  (h78x0s3 N).cut (A78x0x65 N) progOk (T95x0_ok N) fun L x hx => (raw78x0x65 N L).trans ((tot78x0x65 N ..).trans (alt0 _ _ hx))
noncomputable def S78x0x48 (w0 : Int) (w1 : Bool) (w3 : LD) (w4 : Int) (w20 : (List (D × D))) (w5 : Int) (w23 : Bool) (w24 : LD) (kr : Int → Bool → LD → Option R) (k0 : Bool × LD → Option R) : Option R :=
  bif (decide (w5 < w4)) then
    bif (inB w5 w3.length) then
      bnd ((findB Try.prog 3 (.i ((w3.getD w5.toNat (.i 0)).cell 0).toI) w20).getD (.b false)).toB fun y0 =>
      bnd (bif (!y0) then true else (!((findB Try.prog 3 (.i ((w3.getD w5.toNat (.i 0)).cell 1).toI) w20).getD (.b false)).toB)) fun y1 =>
      bif y1 then
        kr (IntKind.wrap .i64 (w5 + 1)) w23 w24
      else
        bnd (IntKind.wrap .i64 (((w3.getD w5.toNat (.i 0)).cell 0).toI - w0)) fun y2 =>
        bnd (IntKind.wrap .i64 (((w3.getD w5.toNat (.i 0)).cell 1).toI - w0)) fun y3 =>
        bnd (V78x0x65 N w1 ((w3.getD w5.toNat (.i 0)).cell 2).toS) fun y4 =>
        bif (decide ((w24.length + 1) * 32 ≤ room) && decide ((w24.length + 1) ≤ strMax)) then
          bnd ((w24 ++ [(.a [(.i y2), (.i y3), (.s y4)])]) : List D) fun y5 =>
          kr (IntKind.wrap .i64 (w5 + 1)) false y5
        else
          none
    else
      none
  else
    k0 (w23, w24)
noncomputable def L78x0x48 (N : Nat) {R : Type} (w0 : Int) (w1 : Bool) (w3 : LD) (w4 : Int) (w20 : (List (D × D))) : Nat → Int → Bool → LD → (Bool × LD → Option R) → Option R
  | 0, _, _, _, _ => none
  | m + 1, w5, w23, w24, k0 => S78x0x48 N w0 w1 w3 w4 w20 w5 w23 w24 (fun w5 w23 w24 => L78x0x48 N w0 w1 w3 w4 w20 m w5 w23 w24 k0) k0
noncomputable def G78x0x48 (w0 : Int) (w1 : Bool) (w3 : LD) (w4 : Int) (w20 : (List (D × D))) (w5 : Int) (w23 : Bool) (w24 : LD) : Option (Bool × LD) := L78x0x48 N (R := (Bool × LD)) w0 w1 w3 w4 w20 N w5 w23 w24 (fun p => some p)
noncomputable def J78x0x48 (L x : List Lf) (kr : List Lf → Option R) (k0 : Bool × LD → Option R) : Option R := S78x0x48 N (li L 0) (lb L 1) (ll L 3) (li L 4) (lm L 20) (li x 0) (lb x 1) (ll x 2) (fun w5 w23 w24 => kr [.i w5, .b w23, .l w24]) k0
theorem sb78x0x48 (L x : List Lf) (kr : List Lf → Option R) (k0 : Bool × LD → Option R) : J78x0x48 N L x kr k0 = (J78x0x48 N L x (fun y => some (.inl y)) (fun p => some (.inr p))).bind (sumE kr k0) := by
  unfold J78x0x48 S78x0x48
  repeat' (first | with_reducible apply cond_b | (with_reducible apply bnd_b; intro _) | rfl)
noncomputable def Q78x0x48 (L : List Lf) (m : Nat) (x : List Lf) : Option (Bool × LD) := L78x0x48 N (R := (Bool × LD)) (li L 0) (lb L 1) (ll L 3) (li L 4) (lm L 20) m (li x 0) (lb x 1) (ll x 2) (fun p => some p)
noncomputable def sh78x0x48 : Sh := { tmps := [(8, .c (.p 8 0)), (9, .c (.i .i64)), (10, .c (.p 10 0)), (11, .c (.b)), (12, .c (.m 54)), (76, .c (.sl 111)), (77, .c (.i .i64)), (78, .c (.i .i64))], mem := [(8, .box (.s :: [.i .i64, .i .i64, .sl 48, .sl 111, .sl 9])), (10, .box (.s :: [.i .i64, .i .i64, .o 50010003, .o 50010004, .sl 9])), (54, .map 3 4), (50010003, .row 48 true), (50010004, .row 111 true)] }
noncomputable def K78x0x48w0 (L : List Lf) (p : Bool × LD) : Ex × St := ((.exit 2), mg (ofSh sh78x0x48 L) [8, 10] [] [8, 10, 50010003, 50010004] [(50010004, .row 111 true p.1 p.2)])
noncomputable def A78x0x48 (L : List Lf) : List (Bool × (Ex × St)) := bnd (Q78x0x48 N L N (pk sh78x0x48 [5, 23, 24] L)) fun q => [(q.isSome, K78x0x48w0 L (q.getD default))]
theorem step78x0x48 (m : Nat) (kn : St → Option (Ex × St)) (L x : List Lf) : lpB Try.prog (T95x0 N) (h78x0s4 N).h 0 78 48 sh78x0x48 [5, 23, 24] [8, 10] [50010004, 50010003, 10, 8] (m + 100) kn L x = J78x0x48 N L x (fun y => kn (ofSh sh78x0x48 (mx sh78x0x48 [5, 23, 24] L y))) (fun p => some (K78x0x48w0 L p)) := by kernel_rfl
theorem ql78x0x48 (L : List Lf) (m : Nat) (x : List Lf) : Q78x0x48 N L (m + 1) x = J78x0x48 N L x (Q78x0x48 N L m) some := by kernel_rfl
noncomputable def h78x0s5 : Sg Try.prog 0 78 :=
  (h78x0s4 N).lp (A78x0x48 N) N progOk (T95x0_ok N) (fun m kn L x => (step78x0x48 N m kn L x).trans (sb78x0x48 N L x _ _)) (fun L m x => (ql78x0x48 N L m x).trans (sb78x0x48 N L x (Q78x0x48 N L m) some)) fun L x hx => alt1 x hx
noncomputable def F78x0x23b (N : Nat) (w5 : Bool) (w28 : Int) (k0 : Int → R) : R :=
  bif w5 then
    k0 (IntKind.wrap .i64 (w28 - (w28.tmod 86400)))
  else
    k0 w28
noncomputable def V78x0x23b (w5 : Bool) (w28 : Int) : Int := F78x0x23b N w5 w28 (fun p => p)
theorem tot78x0x23b (w5 : Bool) (w28 : Int) (k0 : Int → R) : F78x0x23b N w5 w28 k0 = k0 (V78x0x23b N w5 w28) := by
  unfold V78x0x23b F78x0x23b
  repeat' (first | rfl | apply cond_k | (apply bnd_k; intro _))
noncomputable def sh78x0x23b : Sh := { tmps := [(1, .c (.i .i64)), (3, .c (.sl 48)), (4, .c (.p 4 0)), (6, .c (.p 6 0)), (8, .c (.p 8 0)), (9, .c (.i .i64)), (10, .c (.p 10 0)), (11, .c (.b)), (46, .c (.b))], mem := [(4, .box ([.sl 70])), (6, .box (.s :: [.i .i64, .i .i64, .sl 48, .sl 111, .sl 9])), (8, .box (.s :: [.i .i64, .i .i64, .sl 48, .sl 111, .sl 9])), (10, .box (.s :: [.i .i64, .i .i64, .sl 48, .sl 111, .o 32])), (32, .row 9 true)] }
noncomputable def K78x0x23bw0 (L : List Lf) (p : Int) : Ex × St := (.normal, mg (ofSh sh78x0x23b L) [1, 3, 4, 6, 8, 9, 10, 11] [] [4, 6, 8, 10, 32] [(10, .box [.s (ls L 26), .i .i64 (li L 27), .i .i64 p, .sl 48 (lb L 29) (ll L 30), .sl 111 (lb L 31) (ll L 32), .o 32])])
noncomputable def A78x0x23b (L : List Lf) : List (Bool × (Ex × St)) := bnd (F78x0x23b N (lb L 5) (li L 28) (fun p => p)) fun q => [(true, K78x0x23bw0 L q)]
theorem raw78x0x23b (L : List Lf) : pc Try.prog (T95x0 N) ((h78x0s5 N).no 23).h 0 100 78 23 sh78x0x23b L [3, 10, 4, 1, 9, 6, 11, 8] [32, 10, 8, 6, 4] = F78x0x23b N (lb L 5) (li L 28) (fun p => some (K78x0x23bw0 L p)) := by kernel_rfl
noncomputable def h78x0s6 : Sg Try.prog 0 78 :=
  (h78x0s5 N).add (((h78x0s5 N).no 23).cut (A78x0x23b N) progOk (T95x0_ok N) fun L x hx => (raw78x0x23b N L).trans ((tot78x0x23b N ..).trans (alt0 _ _ hx))) 23
noncomputable def S78x0x30b (w0 w1 : Int) (w4 : LD) (w5 : Int) (w8 : LD) (w6 : Int) (w32 : (List (D × D))) (w33 : Bool) (w34 : LD) (kr : Int → (List (D × D)) → Bool → LD → Option R) (k0 : Ty6 → Option R) : Option R :=
  bif (decide (w6 < w5)) then
    bif (inB w6 w4.length) then
      bnd (putB Try.prog 3 (.i ((w4.getD w6.toNat (.i 0)).cell 0).toI) (.b true) w32) fun y0 =>
      bnd (G95x0 N w8 w0 ((w4.getD w6.toNat (.i 0)).cell 0).toI ((w4.getD w6.toNat (.i 0)).cell 1).toI ((w4.getD w6.toNat (.i 0)).cell 2).toI ((w4.getD w6.toNat (.i 0)).cell 3).toI ((w4.getD w6.toNat (.i 0)).cell 4).toI ((w4.getD w6.toNat (.i 0)).cell 5).toI ((w4.getD w6.toNat (.i 0)).cell 6).toI w1) fun y1 =>
      bif y1.isSome then
        bif (decide ((w34.length + 1) * 56 ≤ room) && decide ((w34.length + 1) ≤ strMax)) then
          bnd ((w34 ++ [(.a [(.i (y1.getD default).1), (.i (y1.getD default).2.1), (.i (y1.getD default).2.2.1), (.i (y1.getD default).2.2.2.1), (.i (y1.getD default).2.2.2.2.1), (.i (y1.getD default).2.2.2.2.2.1), (.i (y1.getD default).2.2.2.2.2.2)])]) : List D) fun y2 =>
          kr (IntKind.wrap .i64 (w6 + 1)) y0 false y2
        else
          none
      else
        none
    else
      none
  else
    k0 (w32, w33, w34)
noncomputable def L78x0x30b (N : Nat) {R : Type} (w0 w1 : Int) (w4 : LD) (w5 : Int) (w8 : LD) : Nat → Int → (List (D × D)) → Bool → LD → (Ty6 → Option R) → Option R
  | 0, _, _, _, _, _ => none
  | m + 1, w6, w32, w33, w34, k0 => S78x0x30b N w0 w1 w4 w5 w8 w6 w32 w33 w34 (fun w6 w32 w33 w34 => L78x0x30b N w0 w1 w4 w5 w8 m w6 w32 w33 w34 k0) k0
noncomputable def G78x0x30b (w0 w1 : Int) (w4 : LD) (w5 : Int) (w8 : LD) (w6 : Int) (w32 : (List (D × D))) (w33 : Bool) (w34 : LD) : Option (Ty6) := L78x0x30b N (R := (Ty6)) w0 w1 w4 w5 w8 N w6 w32 w33 w34 (fun p => some p)
noncomputable def J78x0x30b (L x : List Lf) (kr : List Lf → Option R) (k0 : Ty6 → Option R) : Option R := S78x0x30b N (li L 0) (li L 1) (ll L 4) (li L 5) (ll L 8) (li x 0) (lm x 1) (lb x 2) (ll x 3) (fun w6 w32 w33 w34 => kr [.i w6, .m w32, .b w33, .l w34]) k0
theorem sb78x0x30b (L x : List Lf) (kr : List Lf → Option R) (k0 : Ty6 → Option R) : J78x0x30b N L x kr k0 = (J78x0x30b N L x (fun y => some (.inl y)) (fun p => some (.inr p))).bind (sumE kr k0) := by
  unfold J78x0x30b S78x0x30b
  repeat' (first | with_reducible apply cond_b | (with_reducible apply bnd_b; intro _) | rfl)
noncomputable def Q78x0x30b (L : List Lf) (m : Nat) (x : List Lf) : Option (Ty6) := L78x0x30b N (R := (Ty6)) (li L 0) (li L 1) (ll L 4) (li L 5) (ll L 8) m (li x 0) (lm x 1) (lb x 2) (ll x 3) (fun p => some p)
noncomputable def sh78x0x30b : Sh := { tmps := [(1, .c (.i .i64)), (4, .c (.p 4 0)), (6, .c (.p 6 0)), (8, .c (.p 8 0)), (9, .c (.i .i64)), (10, .c (.p 10 0)), (11, .c (.b)), (12, .c (.m 54)), (55, .c (.sl 48)), (56, .c (.i .i64)), (57, .c (.i .i64))], mem := [(4, .box ([.sl 70])), (6, .box (.s :: [.i .i64, .i .i64, .sl 48, .sl 111, .sl 9])), (8, .box (.s :: [.i .i64, .i .i64, .sl 48, .sl 111, .sl 9])), (10, .box (.s :: [.i .i64, .i .i64, .o 50010003, .o 50010004, .o 32])), (32, .row 9 true), (54, .map 3 4), (50010003, .row 48 true), (50010004, .row 111 true)] }
noncomputable def K78x0x30bw0 (L : List Lf) (p : Ty6) : Ex × St := ((.exit 0), mg (ofSh sh78x0x30b L) [6, 8, 9, 10, 11, 12] [] [6, 8, 10, 32, 54, 50010003, 50010004] [(54, .map 3 4 p.1), (50010003, .row 48 true p.2.1 p.2.2)])
noncomputable def A78x0x30b (L : List Lf) : List (Bool × (Ex × St)) := bnd (Q78x0x30b N L N (pk sh78x0x30b [6, 32, 33, 34] L)) fun q => [(q.isSome, K78x0x30bw0 L (q.getD default))]
theorem step78x0x30b (m : Nat) (kn : St → Option (Ex × St)) (L x : List Lf) : lpB Try.prog (T95x0 N) ((h78x0s6 N).no 30).h 0 78 30 sh78x0x30b [6, 32, 33, 34] [8, 6, 12, 9, 11, 10] [54, 32, 50010004, 50010003, 10, 8, 6] (m + 100) kn L x = J78x0x30b N L x (fun y => kn (ofSh sh78x0x30b (mx sh78x0x30b [6, 32, 33, 34] L y))) (fun p => some (K78x0x30bw0 L p)) := by kernel_rfl
theorem ql78x0x30b (L : List Lf) (m : Nat) (x : List Lf) : Q78x0x30b N L (m + 1) x = J78x0x30b N L x (Q78x0x30b N L m) some := by kernel_rfl
noncomputable def h78x0s7 : Sg Try.prog 0 78 :=
  (h78x0s6 N).add (((h78x0s6 N).no 30).lp (A78x0x30b N) N progOk (T95x0_ok N) (fun m kn L x => (step78x0x30b N m kn L x).trans (sb78x0x30b N L x _ _)) (fun L m x => (ql78x0x30b N L m x).trans (sb78x0x30b N L x (Q78x0x30b N L m) some)) fun L x hx => alt1 x hx) 30
noncomputable def F78x0x65b (N : Nat) (w6 : Bool) (w21 : LB) (k0 : LB → R) : R :=
  bif w6 then
    k0 ([] : List UInt8)
  else
    k0 w21
noncomputable def V78x0x65b (w6 : Bool) (w21 : LB) : LB := F78x0x65b N w6 w21 (fun p => p)
theorem tot78x0x65b (w6 : Bool) (w21 : LB) (k0 : LB → R) : F78x0x65b N w6 w21 k0 = k0 (V78x0x65b N w6 w21) := by
  unfold V78x0x65b F78x0x65b
  repeat' (first | rfl | apply cond_k | (apply bnd_k; intro _))
noncomputable def sh78x0x65b : Sh := { tmps := [(8, .c (.p 8 0)), (9, .c (.i .i64)), (10, .c (.p 10 0)), (11, .c (.b)), (12, .c (.m 54)), (16, .c (.p 16 0)), (76, .c (.sl 111)), (77, .c (.i .i64)), (78, .c (.i .i64)), (104, .c (.b))], mem := [(8, .box (.s :: [.i .i64, .i .i64, .sl 48, .sl 111, .sl 9])), (10, .box (.s :: [.i .i64, .i .i64, .o 50010003, .o 50010004, .o 32])), (16, .box ([.i .i64, .i .i64, .s])), (32, .row 9 true), (54, .map 3 4), (50010003, .row 48 true), (50010004, .row 111 true)] }
noncomputable def K78x0x65bw0 (L : List Lf) (p : LB) : Ex × St := (.normal, mg (ofSh sh78x0x65b L) [8, 9, 10, 11, 12, 16, 76, 77, 78] [] [8, 10, 16, 32, 54, 50010003, 50010004] [(16, .box [.i .i64 (li L 19), .i .i64 (li L 20), .s p])])
noncomputable def A78x0x65b (L : List Lf) : List (Bool × (Ex × St)) := bnd (F78x0x65b N (lb L 6) (ls L 21) (fun p => p)) fun q => [(true, K78x0x65bw0 L q)]
theorem raw78x0x65b (L : List Lf) : pc Try.prog (T95x0 N) ((h78x0s7 N).no 65).h 0 100 78 65 sh78x0x65b L [10, 16, 78, 77, 76, 12, 9, 11, 8] [16, 54, 32, 50010004, 50010003, 10, 8] = F78x0x65b N (lb L 6) (ls L 21) (fun p => some (K78x0x65bw0 L p)) := by kernel_rfl
noncomputable def h78x0s8 : Sg Try.prog 0 78 :=
  (h78x0s7 N).add (((h78x0s7 N).no 65).cut (A78x0x65b N) progOk (T95x0_ok N) fun L x hx => (raw78x0x65b N L).trans ((tot78x0x65b N ..).trans (alt0 _ _ hx))) 65
noncomputable def S78x0x48b (w0 : Int) (w1 : Bool) (w3 : LD) (w4 : Int) (w20 : (List (D × D))) (w5 : Int) (w23 : Bool) (w24 : LD) (kr : Int → Bool → LD → Option R) (k0 : Bool × LD → Option R) : Option R :=
  bif (decide (w5 < w4)) then
    bif (inB w5 w3.length) then
      bnd ((findB Try.prog 3 (.i ((w3.getD w5.toNat (.i 0)).cell 0).toI) w20).getD (.b false)).toB fun y0 =>
      bnd (bif (!y0) then true else (!((findB Try.prog 3 (.i ((w3.getD w5.toNat (.i 0)).cell 1).toI) w20).getD (.b false)).toB)) fun y1 =>
      bif y1 then
        kr (IntKind.wrap .i64 (w5 + 1)) w23 w24
      else
        bnd (IntKind.wrap .i64 (((w3.getD w5.toNat (.i 0)).cell 0).toI - w0)) fun y2 =>
        bnd (IntKind.wrap .i64 (((w3.getD w5.toNat (.i 0)).cell 1).toI - w0)) fun y3 =>
        bnd (V78x0x65b N w1 ((w3.getD w5.toNat (.i 0)).cell 2).toS) fun y4 =>
        bif (decide ((w24.length + 1) * 32 ≤ room) && decide ((w24.length + 1) ≤ strMax)) then
          bnd ((w24 ++ [(.a [(.i y2), (.i y3), (.s y4)])]) : List D) fun y5 =>
          kr (IntKind.wrap .i64 (w5 + 1)) false y5
        else
          none
    else
      none
  else
    k0 (w23, w24)
noncomputable def L78x0x48b (N : Nat) {R : Type} (w0 : Int) (w1 : Bool) (w3 : LD) (w4 : Int) (w20 : (List (D × D))) : Nat → Int → Bool → LD → (Bool × LD → Option R) → Option R
  | 0, _, _, _, _ => none
  | m + 1, w5, w23, w24, k0 => S78x0x48b N w0 w1 w3 w4 w20 w5 w23 w24 (fun w5 w23 w24 => L78x0x48b N w0 w1 w3 w4 w20 m w5 w23 w24 k0) k0
noncomputable def G78x0x48b (w0 : Int) (w1 : Bool) (w3 : LD) (w4 : Int) (w20 : (List (D × D))) (w5 : Int) (w23 : Bool) (w24 : LD) : Option (Bool × LD) := L78x0x48b N (R := (Bool × LD)) w0 w1 w3 w4 w20 N w5 w23 w24 (fun p => some p)
noncomputable def J78x0x48b (L x : List Lf) (kr : List Lf → Option R) (k0 : Bool × LD → Option R) : Option R := S78x0x48b N (li L 0) (lb L 1) (ll L 3) (li L 4) (lm L 20) (li x 0) (lb x 1) (ll x 2) (fun w5 w23 w24 => kr [.i w5, .b w23, .l w24]) k0
theorem sb78x0x48b (L x : List Lf) (kr : List Lf → Option R) (k0 : Bool × LD → Option R) : J78x0x48b N L x kr k0 = (J78x0x48b N L x (fun y => some (.inl y)) (fun p => some (.inr p))).bind (sumE kr k0) := by
  unfold J78x0x48b S78x0x48b
  repeat' (first | with_reducible apply cond_b | (with_reducible apply bnd_b; intro _) | rfl)
noncomputable def Q78x0x48b (L : List Lf) (m : Nat) (x : List Lf) : Option (Bool × LD) := L78x0x48b N (R := (Bool × LD)) (li L 0) (lb L 1) (ll L 3) (li L 4) (lm L 20) m (li x 0) (lb x 1) (ll x 2) (fun p => some p)
noncomputable def sh78x0x48b : Sh := { tmps := [(8, .c (.p 8 0)), (9, .c (.i .i64)), (10, .c (.p 10 0)), (11, .c (.b)), (12, .c (.m 54)), (76, .c (.sl 111)), (77, .c (.i .i64)), (78, .c (.i .i64))], mem := [(8, .box (.s :: [.i .i64, .i .i64, .sl 48, .sl 111, .sl 9])), (10, .box (.s :: [.i .i64, .i .i64, .o 50010003, .o 50010004, .o 32])), (32, .row 9 true), (54, .map 3 4), (50010003, .row 48 true), (50010004, .row 111 true)] }
noncomputable def K78x0x48bw0 (L : List Lf) (p : Bool × LD) : Ex × St := ((.exit 2), mg (ofSh sh78x0x48b L) [8, 10] [] [8, 10, 32, 50010003, 50010004] [(50010004, .row 111 true p.1 p.2)])
noncomputable def A78x0x48b (L : List Lf) : List (Bool × (Ex × St)) := bnd (Q78x0x48b N L N (pk sh78x0x48b [5, 23, 24] L)) fun q => [(q.isSome, K78x0x48bw0 L (q.getD default))]
theorem step78x0x48b (m : Nat) (kn : St → Option (Ex × St)) (L x : List Lf) : lpB Try.prog (T95x0 N) ((h78x0s8 N).no 48).h 0 78 48 sh78x0x48b [5, 23, 24] [8, 10] [32, 50010004, 50010003, 10, 8] (m + 100) kn L x = J78x0x48b N L x (fun y => kn (ofSh sh78x0x48b (mx sh78x0x48b [5, 23, 24] L y))) (fun p => some (K78x0x48bw0 L p)) := by kernel_rfl
theorem ql78x0x48b (L : List Lf) (m : Nat) (x : List Lf) : Q78x0x48b N L (m + 1) x = J78x0x48b N L x (Q78x0x48b N L m) some := by kernel_rfl
noncomputable def h78x0s9 : Sg Try.prog 0 78 :=
  (h78x0s8 N).add (((h78x0s8 N).no 48).lp (A78x0x48b N) N progOk (T95x0_ok N) (fun m kn L x => (step78x0x48b N m kn L x).trans (sb78x0x48b N L x _ _)) (fun L m x => (ql78x0x48b N L m x).trans (sb78x0x48b N L x (Q78x0x48b N L m) some)) fun L x hx => alt1 x hx) 48
noncomputable def F78x0 (v1 : LD) (v2 : Int) (v3 : LB) (v5 : Int) (v9 v11 v13 : LD) (k0 : Ty0 → Option R) : Option R :=
  bif (inB 0 v13.length) then
    bif (decide ((0 + v11.length) * 16 ≤ room) && decide ((0 + v11.length) ≤ strMax)) then
      bnd (G91x0 N v1 v2 7) fun y0 =>
      bif y0.isSome then
        bnd (G78x0x17 N (decide (((y0.getD default).2.length : Int) > 0))) fun y1 =>
        bif (inlB y1) then
          bnd (G91x0 N v1 v2 6) fun y2 =>
          bif y2.isSome then
            bnd (V78x0x23 N (decide (((y2.getD default).2.length : Int) > 0)) (IntKind.wrap .i64 (v5 + ((v13.getD 0 (.i 0)).cell 0).toI))) fun y3 =>
            bnd (G78x0x30 N v2 ((v13.getD 0 (.i 0)).cell 0).toI v13 (v13.length : Int) v1 0 [] true []) fun y4 =>
            bif y4.isSome then
              bnd (G78x0x48 N ((v13.getD 0 (.i 0)).cell 0).toI (decide (((y0.getD default).2.length : Int) > 0)) v9 (v9.length : Int) (y4.getD default).1 0 true []) fun y5 =>
              bif y5.isSome then
                k0 ((inlV y1), y3, (y4.getD default).2.1, (y4.getD default).2.2, (y5.getD default).1, (y5.getD default).2, true, [])
              else
                none
            else
              none
          else
            none
        else
          bif (inrQ y1).isSome then
            bnd (G91x0 N v1 v2 6) fun y2 =>
            bif y2.isSome then
              bnd (V78x0x23b N (decide (((y2.getD default).2.length : Int) > 0)) (IntKind.wrap .i64 (v5 + ((v13.getD 0 (.i 0)).cell 0).toI))) fun y6 =>
              bnd (G78x0x30b N v2 ((v13.getD 0 (.i 0)).cell 0).toI v13 (v13.length : Int) v1 0 [] true []) fun y7 =>
              bif y7.isSome then
                bnd (G78x0x48b N ((v13.getD 0 (.i 0)).cell 0).toI (decide (((y0.getD default).2.length : Int) > 0)) v9 (v9.length : Int) (y7.getD default).1 0 true []) fun y8 =>
                bif y8.isSome then
                  k0 (v3, y6, (y7.getD default).2.1, (y7.getD default).2.2, (y8.getD default).1, (y8.getD default).2, (v11.isEmpty && false), v11)
                else
                  none
              else
                none
            else
              none
          else
            none
      else
        none
    else
      none
  else
    none
noncomputable def G78x0 (v1 : LD) (v2 : Int) (v3 : LB) (v5 : Int) (v9 v11 v13 : LD) : Option (Ty0) := F78x0 N v1 v2 v3 v5 v9 v11 v13 (fun p => some p)
theorem bind78x0 (v1 : LD) (v2 : Int) (v3 : LB) (v5 : Int) (v9 v11 v13 : LD) (k0 : Ty0 → Option R) : F78x0 N v1 v2 v3 v5 v9 v11 v13 k0 = (G78x0 N v1 v2 v3 v5 v9 v11 v13).bind k0 := by
  unfold G78x0 F78x0
  repeat' (first | with_reducible apply cond_b | (with_reducible apply bnd_b; intro _) | rfl)
noncomputable def J78x0 (L : List Lf) (k0 : Ty0 → Option R) : Option R := F78x0 N (ll L 1) (li L 2) (ls L 3) (li L 5) (ll L 9) (ll L 11) (ll L 13) k0
noncomputable def sh78x0 : Sh := { tmps := [(0, .g ([.sl 70])), (1, .c (.i .i64)), (2, .g (.s :: [.i .i64, .i .i64, .sl 48, .sl 111, .sl 9])), (3, .c (.sl 48))], mem := [] }
noncomputable def K78x0w0 (L : List Lf) (p : Ty0) : Res := let p1 := p.2; let p2 := p1.2; let p3 := p2.2; let p4 := p3.2; let p5 := p4.2; let p6 := p5.2; let p7 := p6.2; ([.g [.s p.1, .i .i64 (li L 4), .i .i64 p1.1, .sl 48 p2.1 p3.1, .sl 111 p4.1 p5.1, .sl 9 p6.1 p7]], [])
noncomputable def A78x0 (L : List Lf) : List (Bool × Res) := bnd (J78x0 N L (fun p => some p)) fun q => [(q.isSome, K78x0w0 L (q.getD default))]
theorem raw78x0 (L : List Lf) : bd Try.prog (T95x0 N) (h78x0s9 N).h 78 sh78x0 L = J78x0 N L (fun p => some (K78x0w0 L p)) := by kernel_rfl
theorem ok78x0 : FnOk Try.prog 78 sh78x0 (A78x0 N) :=
  (h78x0s9 N).fn progOk (T95x0_ok N) fun L x hx => ((raw78x0 N L).trans ((bind78x0 N ..).trans (alt1 x hx)))
noncomputable def T78x0 : Oracle := ext 78 (spSh sh78x0 (A78x0 N)) (T95x0 N)
theorem T78x0_ok : OracleOk Try.prog (T78x0 N) := FnOk.to (ok78x0 N) (T95x0_ok N)
noncomputable def rg50x0 : List (Nat × List Nat) := [(0, [0, 2, 1]), (1, [3, 1, 5]), (2, [5, 7, 3, 1]), (3, [5, 7, 9, 3, 1]), (4, [5, 7, 10, 9, 3, 1]), (5, [23, 22, 21, 7, 10, 9, 3, 1, 5]), (6, [23, 21, 7, 22, 10, 9, 3, 1, 5]), (7, [7, 11, 23, 22, 21, 10, 9, 3, 1, 5, 12]), (8, [10, 12, 9, 3, 1, 5, 23, 22, 21, 7]), (9, [9, 3, 1, 5, 10, 12, 23, 22, 21, 7]), (10, [12, 23, 22, 21, 7, 9, 3, 1, 5]), (11, [10, 12, 23, 22, 21, 7, 9, 3, 1, 5]), (12, [23, 22, 21, 7, 10, 9, 3, 1, 5]), (13, [10, 9, 3, 1, 5]), (14, [9, 3, 1, 5, 10]), (15, [9])]
noncomputable def hd50x0 : Hints := [(15, [23, 22, 21, 7, 10, 9, 3, 1, 5], [5, 3, 10, 9], [10, 9]), (25, [10, 12, 9, 3, 1, 5, 23, 22, 21, 7], [12, 10, 9, 5, 3], []), (29, [9, 3, 1, 5, 10, 12, 23, 22, 21, 7, 47], [12, 10, 9, 5, 3], []), (44, [9, 3, 1, 5, 10, 63], [10, 9, 5, 3], [])]
noncomputable def h50x0s0 (N : Nat) : Sg Try.prog 0 50 := .start hd50x0 rg50x0
noncomputable def F50x0x25 (N : Nat) (w21 : LD) (w22 : Int) (k0 : Bool → Option R) : Option R :=
  bif (decide ((w21.length : Int) > 0)) then
    bif (inB (IntKind.wrap .i64 ((w21.length : Int) - 1)) w21.length) then
      bif (decide ((IntKind.wrap .i64 ((w21.length : Int) - 1)).toNat < w21.length)) then
        bnd ((w21.getD (IntKind.wrap .i64 ((w21.length : Int) - 1)).toNat (.i 0)).cell 0).toI fun y0 =>
        k0 (decide ((IntKind.wrap .i64 (w22 - y0)) > 60))
      else
        none
    else
      none
  else
    k0 false
noncomputable def G50x0x25 (w21 : LD) (w22 : Int) : Option (Bool) := F50x0x25 N w21 w22 (fun p => some p)
theorem bind50x0x25 (w21 : LD) (w22 : Int) (k0 : Bool → Option R) : F50x0x25 N w21 w22 k0 = (G50x0x25 N w21 w22).bind k0 := by
  unfold G50x0x25 F50x0x25
  repeat' (first | with_reducible apply cond_b | (with_reducible apply bnd_b; intro _) | rfl)
noncomputable def sh50x0x25 : Sh := { tmps := [(1, .c (.i .i64)), (3, .c (.p 3 0)), (5, .c (.p 5 0)), (7, .c (.sl 4)), (9, .c (.o 9)), (10, .c (.o 10)), (12, .c (.p 12 0)), (21, .c (.sl 48)), (22, .c (.i .i64)), (23, .c (.i .i64))], mem := [(3, .box ([.sl 70])), (5, .box (.s :: [.i .i64, .i .i64, .sl 48, .sl 111, .sl 9])), (9, .row 29 true), (10, .row 48 true), (12, .box (rI 7 ([])))] }
noncomputable def K50x0x25w0 (L : List Lf) (p : Bool) : Ex × St := (.normal, mg (ofSh sh50x0x25 L) [1, 3, 5, 7, 9, 10, 12, 21, 22, 23, 47] [(47, .c (.b p))] [3, 5, 9, 10, 12] [])
noncomputable def A50x0x25 (L : List Lf) : List (Bool × (Ex × St)) := bnd (F50x0x25 N (ll L 21) (li L 22) (fun p => some p)) fun q => [(q.isSome, K50x0x25w0 L (q.getD default))]
theorem raw50x0x25 (L : List Lf) : pc Try.prog (T78x0 N) (h50x0s0 N).h 0 100 50 25 sh50x0x25 L [9, 3, 1, 5, 10, 12, 23, 22, 21, 7, 47] [12, 10, 9, 5, 3] = F50x0x25 N (ll L 21) (li L 22) (fun p => some (K50x0x25w0 L p)) := by kernel_rfl
noncomputable def h50x0s1 : Sg Try.prog 0 50 :=
  (h50x0s0 N).cut (A50x0x25 N) progOk (T78x0_ok N) fun L x hx => (raw50x0x25 N L).trans ((bind50x0x25 N ..).trans (alt1 x hx))
noncomputable def F50x0x29 (w0 : Int) (w7 : Bool) (w9 : LD) (w10 : LB) (w11 w12 : Int) (w16 w18 w20 w22 : LD) (k0 : LD → Option R) (k1 : Unit → Option R) : Option R :=
  bif w7 then
    bnd (G78x0 N w9 w0 w10 w12 w16 w18 w22) fun y0 =>
    bif y0.isSome then
      bif (decide ((w20.length + 1) * 104 ≤ room) && decide ((w20.length + 1) ≤ strMax)) then
        bnd ((w20 ++ [(.a [(.s (y0.getD default).1), (.i w11), (.i (y0.getD default).2.1), (.l (y0.getD default).2.2.1 (y0.getD default).2.2.2.1), (.l (y0.getD default).2.2.2.2.1 (y0.getD default).2.2.2.2.2.1), (.l (y0.getD default).2.2.2.2.2.2.1 (y0.getD default).2.2.2.2.2.2.2)])]) : List D) fun y1 =>
        k0 y1
      else
        none
    else
      none
  else
    k1 ()
noncomputable def G50x0x29 (w0 : Int) (w7 : Bool) (w9 : LD) (w10 : LB) (w11 w12 : Int) (w16 w18 w20 w22 : LD) : Option (Sum (LD) (Unit)) := F50x0x29 N w0 w7 w9 w10 w11 w12 w16 w18 w20 w22 (fun p => some (.inl p)) (fun p => some (.inr p))
theorem bind50x0x29 (w0 : Int) (w7 : Bool) (w9 : LD) (w10 : LB) (w11 w12 : Int) (w16 w18 w20 w22 : LD) (k0 : LD → Option R) (k1 : Unit → Option R) : F50x0x29 N w0 w7 w9 w10 w11 w12 w16 w18 w20 w22 k0 k1 = (G50x0x29 N w0 w7 w9 w10 w11 w12 w16 w18 w20 w22).bind (sumE k0 k1) := by
  unfold G50x0x29 F50x0x29
  repeat' (first | with_reducible apply cond_b | (with_reducible apply bnd_b; intro _) | rfl)
noncomputable def J50x0x29 (L : List Lf) (k0 : LD → Option R) (k1 : Unit → Option R) : Option R := F50x0x29 N (li L 0) (lb L 7) (ll L 9) (ls L 10) (li L 11) (li L 12) (ll L 16) (ll L 18) (ll L 20) (ll L 22) k0 k1
noncomputable def sh50x0x29 : Sh := { tmps := [(1, .c (.i .i64)), (3, .c (.p 3 0)), (5, .c (.p 5 0)), (7, .c (.sl 4)), (9, .c (.o 9)), (10, .c (.o 10)), (12, .c (.p 12 0)), (21, .c (.sl 48)), (22, .c (.i .i64)), (23, .c (.i .i64)), (47, .c (.b))], mem := [(3, .box ([.sl 70])), (5, .box (.s :: [.i .i64, .i .i64, .sl 48, .sl 111, .sl 9])), (9, .row 29 true), (10, .row 48 true), (12, .box (rI 7 ([])))] }
noncomputable def K50x0x29w0 (L : List Lf) (p : LD) : Ex × St := (.normal, mg (ofSh sh50x0x29 L) [1, 3, 5, 7, 9, 10, 12, 21, 22, 23] [(9, .c (.o 55)), (10, .c (.sl 48 true []))] [3, 5, 10, 12, 55] [(10, .row 48 false (lb L 21) (ll L 22)), (55, .row 29 true false p)])
noncomputable def K50x0x29w1 (L : List Lf) (_ : Unit) : Ex × St := (.normal, mg (ofSh sh50x0x29 L) [1, 3, 5, 7, 9, 10, 12, 21, 22, 23] [] [3, 5, 9, 10, 12] [])
noncomputable def A50x0x29 (L : List Lf) : List (Bool × (Ex × St)) := bnd (J50x0x29 N L (fun p => some (.inl p)) (fun p => some (.inr p))) fun q => [((inlB q), K50x0x29w0 L (inlV q)), ((inrQ q).isSome, K50x0x29w1 L ())]
theorem raw50x0x29 (L : List Lf) : pc Try.prog (T78x0 N) (h50x0s1 N).h 0 100 50 29 sh50x0x29 L [10, 12, 23, 22, 21, 7, 9, 3, 1, 5] [12, 55, 5, 3, 10, 9] = J50x0x29 N L (fun p => some (K50x0x29w0 L p)) (fun _ => some (K50x0x29w1 L ())) := by kernel_rfl
noncomputable def h50x0s2 : Sg Try.prog 0 50 :=
  (h50x0s1 N).cut (A50x0x29 N) progOk (T78x0_ok N) fun L x hx => (raw50x0x29 N L).trans ((bind50x0x29 N ..).trans ((altS alt1) x hx))
noncomputable def S50x0x15 (w0 : Int) (w2 w4 : LD) (w5 : Int) (w8 : LD) (w9 : LB) (w10 w11 : Int) (w15 w17 : LD) (w6 : Int) (w18 : Bool) (w19 : LD) (w20 : Bool) (w21 : LD) (kr : Int → Bool → LD → Bool → LD → Option R) (k0 : Ty5 → Option R) : Option R :=
  bif (decide (w6 < w5)) then
    bif (inB w6 w4.length) then
      bif (inB w6 w2.length) then
        bif (w2.getD w6.toNat (.i 0)).toB then
          kr (IntKind.wrap .i64 (w6 + 1)) w18 w19 w20 w21
        else
          bnd (G50x0x25 N w21 ((w4.getD w6.toNat (.i 0)).cell 0).toI) fun y0 =>
          bif y0.isSome then
            bnd (G50x0x29 N w0 (y0.getD default) w8 w9 w10 w11 w15 w17 w19 w21) fun y1 =>
            bif (inlB y1) then
              kr (IntKind.wrap .i64 (w6 + 1)) false (inlV y1) false [(.a [(.i ((w4.getD w6.toNat (.i 0)).cell 0).toI), (.i ((w4.getD w6.toNat (.i 0)).cell 1).toI), (.i ((w4.getD w6.toNat (.i 0)).cell 2).toI), (.i ((w4.getD w6.toNat (.i 0)).cell 3).toI), (.i ((w4.getD w6.toNat (.i 0)).cell 4).toI), (.i ((w4.getD w6.toNat (.i 0)).cell 5).toI), (.i ((w4.getD w6.toNat (.i 0)).cell 6).toI)])]
            else
              bif (inrQ y1).isSome then
                bif (decide ((w21.length + 1) * 56 ≤ room) && decide ((w21.length + 1) ≤ strMax)) then
                  bnd ((w21 ++ [(.a [(.i ((w4.getD w6.toNat (.i 0)).cell 0).toI), (.i ((w4.getD w6.toNat (.i 0)).cell 1).toI), (.i ((w4.getD w6.toNat (.i 0)).cell 2).toI), (.i ((w4.getD w6.toNat (.i 0)).cell 3).toI), (.i ((w4.getD w6.toNat (.i 0)).cell 4).toI), (.i ((w4.getD w6.toNat (.i 0)).cell 5).toI), (.i ((w4.getD w6.toNat (.i 0)).cell 6).toI)])]) : List D) fun y2 =>
                  kr (IntKind.wrap .i64 (w6 + 1)) w18 w19 false y2
                else
                  none
              else
                none
          else
            none
      else
        none
    else
      none
  else
    k0 (w18, w19, w20, w21)
noncomputable def L50x0x15 (N : Nat) {R : Type} (w0 : Int) (w2 w4 : LD) (w5 : Int) (w8 : LD) (w9 : LB) (w10 w11 : Int) (w15 w17 : LD) : Nat → Int → Bool → LD → Bool → LD → (Ty5 → Option R) → Option R
  | 0, _, _, _, _, _, _ => none
  | m + 1, w6, w18, w19, w20, w21, k0 => S50x0x15 N w0 w2 w4 w5 w8 w9 w10 w11 w15 w17 w6 w18 w19 w20 w21 (fun w6 w18 w19 w20 w21 => L50x0x15 N w0 w2 w4 w5 w8 w9 w10 w11 w15 w17 m w6 w18 w19 w20 w21 k0) k0
noncomputable def G50x0x15 (w0 : Int) (w2 w4 : LD) (w5 : Int) (w8 : LD) (w9 : LB) (w10 w11 : Int) (w15 w17 : LD) (w6 : Int) (w18 : Bool) (w19 : LD) (w20 : Bool) (w21 : LD) : Option (Ty5) := L50x0x15 N (R := (Ty5)) w0 w2 w4 w5 w8 w9 w10 w11 w15 w17 N w6 w18 w19 w20 w21 (fun p => some p)
noncomputable def J50x0x15 (L x : List Lf) (kr : List Lf → Option R) (k0 : Ty5 → Option R) : Option R := S50x0x15 N (li L 0) (ll L 2) (ll L 4) (li L 5) (ll L 8) (ls L 9) (li L 10) (li L 11) (ll L 15) (ll L 17) (li x 0) (lb x 1) (ll x 2) (lb x 3) (ll x 4) (fun w6 w18 w19 w20 w21 => kr [.i w6, .b w18, .l w19, .b w20, .l w21]) k0
theorem sb50x0x15 (L x : List Lf) (kr : List Lf → Option R) (k0 : Ty5 → Option R) : J50x0x15 N L x kr k0 = (J50x0x15 N L x (fun y => some (.inl y)) (fun p => some (.inr p))).bind (sumE kr k0) := by
  unfold J50x0x15 S50x0x15
  repeat' (first | with_reducible apply cond_b | (with_reducible apply bnd_b; intro _) | rfl)
noncomputable def Q50x0x15 (L : List Lf) (m : Nat) (x : List Lf) : Option (Ty5) := L50x0x15 N (R := (Ty5)) (li L 0) (ll L 2) (ll L 4) (li L 5) (ll L 8) (ls L 9) (li L 10) (li L 11) (ll L 15) (ll L 17) m (li x 0) (lb x 1) (ll x 2) (lb x 3) (ll x 4) (fun p => some p)
noncomputable def sh50x0x15 : Sh := { tmps := [(1, .c (.i .i64)), (3, .c (.p 3 0)), (5, .c (.p 5 0)), (7, .c (.sl 4)), (9, .c (.o 9)), (10, .c (.o 10)), (21, .c (.sl 48)), (22, .c (.i .i64)), (23, .c (.i .i64))], mem := [(3, .box ([.sl 70])), (5, .box (.s :: [.i .i64, .i .i64, .sl 48, .sl 111, .sl 9])), (9, .row 29 true), (10, .row 48 true)] }
noncomputable def K50x0x15w0 (L : List Lf) (p : Ty5) : Ex × St := ((.exit 0), mg (ofSh sh50x0x15 L) [1, 3, 5, 9, 10] [] [3, 5, 9, 10] [(9, .row 29 true p.1 p.2.1), (10, .row 48 true p.2.2.1 p.2.2.2)])
noncomputable def A50x0x15 (L : List Lf) : List (Bool × (Ex × St)) := bnd (Q50x0x15 N L N (pk sh50x0x15 [6, 18, 19, 20, 21] L)) fun q => [(q.isSome, K50x0x15w0 L (q.getD default))]
theorem step50x0x15 (m : Nat) (kn : St → Option (Ex × St)) (L x : List Lf) : lpB Try.prog (T78x0 N) (h50x0s2 N).h 0 50 15 sh50x0x15 [6, 18, 19, 20, 21] [6, 10, 9, 3, 1, 5] [10, 9, 5, 3] (m + 100) kn L x = J50x0x15 N L x (fun y => kn (ofSh sh50x0x15 (mx sh50x0x15 [6, 18, 19, 20, 21] L y))) (fun p => some (K50x0x15w0 L p)) := by kernel_rfl
theorem ql50x0x15 (L : List Lf) (m : Nat) (x : List Lf) : Q50x0x15 N L (m + 1) x = J50x0x15 N L x (Q50x0x15 N L m) some := by kernel_rfl
noncomputable def h50x0s3 : Sg Try.prog 0 50 :=
  (h50x0s2 N).lp (A50x0x15 N) N progOk (T78x0_ok N) (fun m kn L x => (step50x0x15 N m kn L x).trans (sb50x0x15 N L x _ _)) (fun L m x => (ql50x0x15 N L m x).trans (sb50x0x15 N L x (Q50x0x15 N L m) some)) fun L x hx => alt1 x hx
noncomputable def F50x0x44 (w0 : Int) (w1 : Bool) (w3 : LD) (w4 : LB) (w5 w6 : Int) (w10 w12 w14 w16 : LD) (k0 : LD → Option R) (k1 : Unit → Option R) : Option R :=
  bif w1 then
    bnd (G78x0 N w3 w0 w4 w6 w10 w12 w16) fun y0 =>
    bif y0.isSome then
      bif (decide ((w14.length + 1) * 104 ≤ room) && decide ((w14.length + 1) ≤ strMax)) then
        bnd ((w14 ++ [(.a [(.s (y0.getD default).1), (.i w5), (.i (y0.getD default).2.1), (.l (y0.getD default).2.2.1 (y0.getD default).2.2.2.1), (.l (y0.getD default).2.2.2.2.1 (y0.getD default).2.2.2.2.2.1), (.l (y0.getD default).2.2.2.2.2.2.1 (y0.getD default).2.2.2.2.2.2.2)])]) : List D) fun y1 =>
        k0 y1
      else
        none
    else
      none
  else
    k1 ()
noncomputable def G50x0x44 (w0 : Int) (w1 : Bool) (w3 : LD) (w4 : LB) (w5 w6 : Int) (w10 w12 w14 w16 : LD) : Option (Sum (LD) (Unit)) := F50x0x44 N w0 w1 w3 w4 w5 w6 w10 w12 w14 w16 (fun p => some (.inl p)) (fun p => some (.inr p))
theorem bind50x0x44 (w0 : Int) (w1 : Bool) (w3 : LD) (w4 : LB) (w5 w6 : Int) (w10 w12 w14 w16 : LD) (k0 : LD → Option R) (k1 : Unit → Option R) : F50x0x44 N w0 w1 w3 w4 w5 w6 w10 w12 w14 w16 k0 k1 = (G50x0x44 N w0 w1 w3 w4 w5 w6 w10 w12 w14 w16).bind (sumE k0 k1) := by
  unfold G50x0x44 F50x0x44
  repeat' (first | with_reducible apply cond_b | (with_reducible apply bnd_b; intro _) | rfl)
noncomputable def J50x0x44 (L : List Lf) (k0 : LD → Option R) (k1 : Unit → Option R) : Option R := F50x0x44 N (li L 0) (lb L 1) (ll L 3) (ls L 4) (li L 5) (li L 6) (ll L 10) (ll L 12) (ll L 14) (ll L 16) k0 k1
noncomputable def sh50x0x44 : Sh := { tmps := [(1, .c (.i .i64)), (3, .c (.p 3 0)), (5, .c (.p 5 0)), (9, .c (.o 9)), (10, .c (.o 10)), (63, .c (.b))], mem := [(3, .box ([.sl 70])), (5, .box (.s :: [.i .i64, .i .i64, .sl 48, .sl 111, .sl 9])), (9, .row 29 true), (10, .row 48 true)] }
noncomputable def A50x0x44 (L : List Lf) : List (Bool × (Ex × St)) := bnd (J50x0x44 N L (fun p => some (.inl p)) (fun p => some (.inr p))) fun q => [((inlB q), (.normal, ⟨[(9, .c (.o 71))], [(71, .row 29 true false (inlV q))]⟩)), ((inrQ q).isSome, (.normal, mg (ofSh sh50x0x44 L) [9] [] [9] []))]
theorem raw50x0x44 (L : List Lf) : pc Try.prog (T78x0 N) (h50x0s3 N).h 0 100 50 44 sh50x0x44 L [9] [71, 9] = J50x0x44 N L (fun p => some (.normal, ⟨[(9, .c (.o 71))], [(71, .row 29 true false p)]⟩)) (fun _ => some (.normal, mg (ofSh sh50x0x44 L) [9] [] [9] [])) := by kernel_rfl
noncomputable def h50x0s4 : Sg Try.prog 0 50 :=
  (h50x0s3 N).cut (A50x0x44 N) progOk (T78x0_ok N) fun L x hx => (raw50x0x44 N L).trans ((bind50x0x44 N ..).trans ((altS alt1) x hx))
noncomputable def F50x0 (v1 : LD) (v2 : Int) (v3 : LB) (v4 v5 : Int) (v7 v9 v11 : LD) (k0 : Bool × LD → Option R) : Option R :=
  bnd (G43x0 N v1 v2 v4 v5 v7 v11) fun y0 =>
  bif y0.isSome then
    bnd (G50x0x15 N v2 (y0.getD default).2.1 v7 (v7.length : Int) v1 v3 v4 v5 v9 v11 0 true [] true []) fun y1 =>
    bif y1.isSome then
      bnd (G50x0x44 N v2 (decide (((y1.getD default).2.2.2.length : Int) > 0)) v1 v3 v4 v5 v9 v11 (y1.getD default).2.1 (y1.getD default).2.2.2) fun y2 =>
      bif (inlB y2) then
        k0 (false, (inlV y2))
      else
        bif (inrQ y2).isSome then
          k0 ((y1.getD default).1, (y1.getD default).2.1)
        else
          none
    else
      none
  else
    none
noncomputable def G50x0 (v1 : LD) (v2 : Int) (v3 : LB) (v4 v5 : Int) (v7 v9 v11 : LD) : Option (Bool × LD) := F50x0 N v1 v2 v3 v4 v5 v7 v9 v11 (fun p => some p)
theorem bind50x0 (v1 : LD) (v2 : Int) (v3 : LB) (v4 v5 : Int) (v7 v9 v11 : LD) (k0 : Bool × LD → Option R) : F50x0 N v1 v2 v3 v4 v5 v7 v9 v11 k0 = (G50x0 N v1 v2 v3 v4 v5 v7 v9 v11).bind k0 := by
  unfold G50x0 F50x0
  repeat' (first | with_reducible apply cond_b | (with_reducible apply bnd_b; intro _) | rfl)
noncomputable def J50x0 (L : List Lf) (k0 : Bool × LD → Option R) : Option R := F50x0 N (ll L 1) (li L 2) (ls L 3) (li L 4) (li L 5) (ll L 7) (ll L 9) (ll L 11) k0
noncomputable def sh50x0 : Sh := { tmps := [(0, .g ([.sl 70])), (1, .c (.i .i64)), (2, .g (.s :: [.i .i64, .i .i64, .sl 48, .sl 111, .sl 9]))], mem := [] }
noncomputable def A50x0 (L : List Lf) : List (Bool × Res) := bnd (J50x0 N L (fun p => some p)) fun q => [(q.isSome, ([.c (.sl 29 (q.getD default).1 (q.getD default).2)], []))]
theorem raw50x0 (L : List Lf) : bd Try.prog (T78x0 N) (h50x0s4 N).h 50 sh50x0 L = J50x0 N L (fun p => some ([.c (.sl 29 p.1 p.2)], [])) := by kernel_rfl
theorem ok50x0 : FnOk Try.prog 50 sh50x0 (A50x0 N) :=
  (h50x0s4 N).fn progOk (T78x0_ok N) fun L x hx => ((raw50x0 N L).trans ((bind50x0 N ..).trans (alt1 x hx)))
noncomputable def T50x0 : Oracle := ext 50 (spSh sh50x0 (A50x0 N)) (T78x0 N)
theorem T50x0_ok : OracleOk Try.prog (T50x0 N) := FnOk.to (ok50x0 N) (T78x0_ok N)
noncomputable def rg51x0 : List (Nat × List Nat) := [(0, [0, 1]), (1, [2, 3]), (2, []), (3, [2, 3]), (4, [57, 56, 2, 3]), (5, [57, 2, 3, 56]), (6, [2, 5, 3, 57, 56]), (7, []), (8, [57, 56, 2, 3]), (9, [2, 3]), (10, [75, 74, 2, 3]), (11, [75, 2, 3, 74]), (12, [2, 6, 3, 75, 74]), (13, []), (14, [75, 74, 2, 3]), (15, [2, 3]), (16, [93, 92, 2, 3]), (17, [93, 2, 3, 92]), (18, [2, 7, 3, 93, 92]), (19, []), (20, [93, 92, 2, 3]), (21, [])]
noncomputable def hd51x0 : Hints := [(12, [57, 56, 2, 3], [3, 2], []), (30, [75, 74, 2, 3], [3, 2], []), (48, [93, 92, 2, 3], [3, 2], [])]
noncomputable def h51x0s0 (N : Nat) : Sg Try.prog 0 51 := .start hd51x0 rg51x0
noncomputable def S51x0x12 (N : Nat) (w0 : Int) (w6 w15 : LD) (w1 : Int) (kr : Int → Option R) (k0 : Unit → Option R) (k1 : Unit → Option R) : Option R :=
  bif (decide (w1 < w0)) then
    bif (inB w1 w6.length) then
      bif (inB w1 w15.length) then
        bnd (!((((w6.getD w1.toNat (.i 0)).cell 0).toI == ((w15.getD w1.toNat (.i 0)).cell 0).toI) && ((((w6.getD w1.toNat (.i 0)).cell 1).toI == ((w15.getD w1.toNat (.i 0)).cell 1).toI) && ((((w6.getD w1.toNat (.i 0)).cell 2).toI == ((w15.getD w1.toNat (.i 0)).cell 2).toI) && ((((w6.getD w1.toNat (.i 0)).cell 3).toI == ((w15.getD w1.toNat (.i 0)).cell 3).toI) && ((((w6.getD w1.toNat (.i 0)).cell 4).toI == ((w15.getD w1.toNat (.i 0)).cell 4).toI) && ((((w6.getD w1.toNat (.i 0)).cell 5).toI == ((w15.getD w1.toNat (.i 0)).cell 5).toI) && ((((w6.getD w1.toNat (.i 0)).cell 6).toI == ((w15.getD w1.toNat (.i 0)).cell 6).toI) && true)))))))) fun y0 =>
        bif y0 then
          k0 ()
        else
          kr (IntKind.wrap .i64 (w1 + 1))
      else
        none
    else
      none
  else
    k1 ()
noncomputable def L51x0x12 (N : Nat) {R : Type} (w0 : Int) (w6 w15 : LD) : Nat → Int → (Unit → Option R) → (Unit → Option R) → Option R
  | 0, _, _, _ => none
  | m + 1, w1, k0, k1 => S51x0x12 N w0 w6 w15 w1 (fun w1 => L51x0x12 N w0 w6 w15 m w1 k0 k1) k0 k1
noncomputable def G51x0x12 (w0 : Int) (w6 w15 : LD) (w1 : Int) : Option (Sum (Unit) (Unit)) := L51x0x12 N (R := (Sum (Unit) (Unit))) w0 w6 w15 N w1 (fun p => some (.inl p)) (fun p => some (.inr p))
noncomputable def J51x0x12 (L x : List Lf) (kr : List Lf → Option R) (k0 : Unit → Option R) (k1 : Unit → Option R) : Option R := S51x0x12 N (li L 0) (ll L 6) (ll L 15) (li x 0) (fun w1 => kr [.i w1]) k0 k1
theorem sb51x0x12 (L x : List Lf) (kr : List Lf → Option R) (k0 : Unit → Option R) (k1 : Unit → Option R) : J51x0x12 N L x kr k0 k1 = (J51x0x12 N L x (fun y => some (.inl y)) (fun p => some (.inr (.inl p))) (fun p => some (.inr (.inr p)))).bind (sumE kr (sumE k0 k1)) := by
  unfold J51x0x12 S51x0x12
  repeat' (first | with_reducible apply cond_b | (with_reducible apply bnd_b; intro _) | rfl)
noncomputable def Q51x0x12 (L : List Lf) (m : Nat) (x : List Lf) : Option (Sum (Unit) (Unit)) := L51x0x12 N (R := (Sum (Unit) (Unit))) (li L 0) (ll L 6) (ll L 15) m (li x 0) (fun p => some (.inl p)) (fun p => some (.inr p))
noncomputable def sh51x0x12 : Sh := { tmps := [(2, .c (.p 2 0)), (3, .c (.p 3 0)), (56, .c (.i .i64)), (57, .c (.i .i64))], mem := [(2, .box (.s :: [.i .i64, .i .i64, .sl 48, .sl 111, .sl 9])), (3, .box (.s :: [.i .i64, .i .i64, .sl 48, .sl 111, .sl 9]))] }
noncomputable def K51x0x12w0 (L : List Lf) (_ : Unit) : Ex × St := (.ret, mg (ofSh sh51x0x12 L) [4] [(4, .c (.b false))] [2, 3] [])
noncomputable def A51x0x12 (L : List Lf) : List (Bool × (Ex × St)) := bnd (Q51x0x12 N L N (pk sh51x0x12 [1] L)) fun q => [((inlB q), K51x0x12w0 L ()), ((inrQ q).isSome, ((.exit 0), mg (ofSh sh51x0x12 L) [2, 3] [] [2, 3] []))]
theorem step51x0x12 (m : Nat) (kn : St → Option (Ex × St)) (L x : List Lf) : lpB Try.prog (T50x0 N) (h51x0s0 N).h 0 51 12 sh51x0x12 [1] [4, 2, 3] [3, 2] (m + 100) kn L x = J51x0x12 N L x (fun y => kn (ofSh sh51x0x12 (mx sh51x0x12 [1] L y))) (fun _ => some (K51x0x12w0 L ())) (fun _ => some ((.exit 0), mg (ofSh sh51x0x12 L) [2, 3] [] [2, 3] [])) := by kernel_rfl
theorem ql51x0x12 (L : List Lf) (m : Nat) (x : List Lf) : Q51x0x12 N L (m + 1) x = J51x0x12 N L x (Q51x0x12 N L m) (fun p => some (.inl p)) (fun p => some (.inr p)) := by kernel_rfl
noncomputable def h51x0s1 : Sg Try.prog 0 51 :=
  (h51x0s0 N).lp (A51x0x12 N) N progOk (T50x0_ok N) (fun m kn L x => (step51x0x12 N m kn L x).trans (sb51x0x12 N L x _ _ _)) (fun L m x => (ql51x0x12 N L m x).trans (sb51x0x12 N L x (Q51x0x12 N L m) (fun p => some (.inl p)) (fun p => some (.inr p)))) fun L x hx => (altS alt1) x hx
noncomputable def S51x0x30 (N : Nat) (w0 : Int) (w8 w17 : LD) (w1 : Int) (kr : Int → Option R) (k0 : Unit → Option R) (k1 : Unit → Option R) : Option R :=
  bif (decide (w1 < w0)) then
    bif (inB w1 w8.length) then
      bif (inB w1 w17.length) then
        bnd (!((((w8.getD w1.toNat (.i 0)).cell 0).toI == ((w17.getD w1.toNat (.i 0)).cell 0).toI) && ((((w8.getD w1.toNat (.i 0)).cell 1).toI == ((w17.getD w1.toNat (.i 0)).cell 1).toI) && ((((w8.getD w1.toNat (.i 0)).cell 2).toS == ((w17.getD w1.toNat (.i 0)).cell 2).toS) && true)))) fun y0 =>
        bif y0 then
          k0 ()
        else
          kr (IntKind.wrap .i64 (w1 + 1))
      else
        none
    else
      none
  else
    k1 ()
noncomputable def L51x0x30 (N : Nat) {R : Type} (w0 : Int) (w8 w17 : LD) : Nat → Int → (Unit → Option R) → (Unit → Option R) → Option R
  | 0, _, _, _ => none
  | m + 1, w1, k0, k1 => S51x0x30 N w0 w8 w17 w1 (fun w1 => L51x0x30 N w0 w8 w17 m w1 k0 k1) k0 k1
noncomputable def G51x0x30 (w0 : Int) (w8 w17 : LD) (w1 : Int) : Option (Sum (Unit) (Unit)) := L51x0x30 N (R := (Sum (Unit) (Unit))) w0 w8 w17 N w1 (fun p => some (.inl p)) (fun p => some (.inr p))
noncomputable def J51x0x30 (L x : List Lf) (kr : List Lf → Option R) (k0 : Unit → Option R) (k1 : Unit → Option R) : Option R := S51x0x30 N (li L 0) (ll L 8) (ll L 17) (li x 0) (fun w1 => kr [.i w1]) k0 k1
theorem sb51x0x30 (L x : List Lf) (kr : List Lf → Option R) (k0 : Unit → Option R) (k1 : Unit → Option R) : J51x0x30 N L x kr k0 k1 = (J51x0x30 N L x (fun y => some (.inl y)) (fun p => some (.inr (.inl p))) (fun p => some (.inr (.inr p)))).bind (sumE kr (sumE k0 k1)) := by
  unfold J51x0x30 S51x0x30
  repeat' (first | with_reducible apply cond_b | (with_reducible apply bnd_b; intro _) | rfl)
noncomputable def Q51x0x30 (L : List Lf) (m : Nat) (x : List Lf) : Option (Sum (Unit) (Unit)) := L51x0x30 N (R := (Sum (Unit) (Unit))) (li L 0) (ll L 8) (ll L 17) m (li x 0) (fun p => some (.inl p)) (fun p => some (.inr p))
noncomputable def sh51x0x30 : Sh := { tmps := [(2, .c (.p 2 0)), (3, .c (.p 3 0)), (74, .c (.i .i64)), (75, .c (.i .i64))], mem := [(2, .box (.s :: [.i .i64, .i .i64, .sl 48, .sl 111, .sl 9])), (3, .box (.s :: [.i .i64, .i .i64, .sl 48, .sl 111, .sl 9]))] }
noncomputable def K51x0x30w0 (L : List Lf) (_ : Unit) : Ex × St := (.ret, mg (ofSh sh51x0x30 L) [4] [(4, .c (.b false))] [2, 3] [])
noncomputable def A51x0x30 (L : List Lf) : List (Bool × (Ex × St)) := bnd (Q51x0x30 N L N (pk sh51x0x30 [1] L)) fun q => [((inlB q), K51x0x30w0 L ()), ((inrQ q).isSome, ((.exit 2), mg (ofSh sh51x0x30 L) [2, 3] [] [2, 3] []))]
theorem step51x0x30 (m : Nat) (kn : St → Option (Ex × St)) (L x : List Lf) : lpB Try.prog (T50x0 N) (h51x0s1 N).h 0 51 30 sh51x0x30 [1] [4, 2, 3] [3, 2] (m + 100) kn L x = J51x0x30 N L x (fun y => kn (ofSh sh51x0x30 (mx sh51x0x30 [1] L y))) (fun _ => some (K51x0x30w0 L ())) (fun _ => some ((.exit 2), mg (ofSh sh51x0x30 L) [2, 3] [] [2, 3] [])) := by kernel_rfl
theorem ql51x0x30 (L : List Lf) (m : Nat) (x : List Lf) : Q51x0x30 N L (m + 1) x = J51x0x30 N L x (Q51x0x30 N L m) (fun p => some (.inl p)) (fun p => some (.inr p)) := by kernel_rfl
noncomputable def h51x0s2 : Sg Try.prog 0 51 :=
  (h51x0s1 N).lp (A51x0x30 N) N progOk (T50x0_ok N) (fun m kn L x => (step51x0x30 N m kn L x).trans (sb51x0x30 N L x _ _ _)) (fun L m x => (ql51x0x30 N L m x).trans (sb51x0x30 N L x (Q51x0x30 N L m) (fun p => some (.inl p)) (fun p => some (.inr p)))) fun L x hx => (altS alt1) x hx
noncomputable def S51x0x48 (N : Nat) (w0 : Int) (w10 w19 : LD) (w1 : Int) (kr : Int → Option R) (k0 : Unit → Option R) (k1 : Unit → Option R) : Option R :=
  bif (decide (w1 < w0)) then
    bif (inB w1 w10.length) then
      bif (inB w1 w19.length) then
        bnd (!((w10.getD w1.toNat (.i 0)).toS == (w19.getD w1.toNat (.i 0)).toS)) fun y0 =>
        bif y0 then
          k0 ()
        else
          kr (IntKind.wrap .i64 (w1 + 1))
      else
        none
    else
      none
  else
    k1 ()
noncomputable def L51x0x48 (N : Nat) {R : Type} (w0 : Int) (w10 w19 : LD) : Nat → Int → (Unit → Option R) → (Unit → Option R) → Option R
  | 0, _, _, _ => none
  | m + 1, w1, k0, k1 => S51x0x48 N w0 w10 w19 w1 (fun w1 => L51x0x48 N w0 w10 w19 m w1 k0 k1) k0 k1
noncomputable def G51x0x48 (w0 : Int) (w10 w19 : LD) (w1 : Int) : Option (Sum (Unit) (Unit)) := L51x0x48 N (R := (Sum (Unit) (Unit))) w0 w10 w19 N w1 (fun p => some (.inl p)) (fun p => some (.inr p))
noncomputable def J51x0x48 (L x : List Lf) (kr : List Lf → Option R) (k0 : Unit → Option R) (k1 : Unit → Option R) : Option R := S51x0x48 N (li L 0) (ll L 10) (ll L 19) (li x 0) (fun w1 => kr [.i w1]) k0 k1
theorem sb51x0x48 (L x : List Lf) (kr : List Lf → Option R) (k0 : Unit → Option R) (k1 : Unit → Option R) : J51x0x48 N L x kr k0 k1 = (J51x0x48 N L x (fun y => some (.inl y)) (fun p => some (.inr (.inl p))) (fun p => some (.inr (.inr p)))).bind (sumE kr (sumE k0 k1)) := by
  unfold J51x0x48 S51x0x48
  repeat' (first | with_reducible apply cond_b | (with_reducible apply bnd_b; intro _) | rfl)
noncomputable def Q51x0x48 (L : List Lf) (m : Nat) (x : List Lf) : Option (Sum (Unit) (Unit)) := L51x0x48 N (R := (Sum (Unit) (Unit))) (li L 0) (ll L 10) (ll L 19) m (li x 0) (fun p => some (.inl p)) (fun p => some (.inr p))
noncomputable def sh51x0x48 : Sh := { tmps := [(2, .c (.p 2 0)), (3, .c (.p 3 0)), (92, .c (.i .i64)), (93, .c (.i .i64))], mem := [(2, .box (.s :: [.i .i64, .i .i64, .sl 48, .sl 111, .sl 9])), (3, .box (.s :: [.i .i64, .i .i64, .sl 48, .sl 111, .sl 9]))] }
noncomputable def A51x0x48 (L : List Lf) : List (Bool × (Ex × St)) := bnd (Q51x0x48 N L N (pk sh51x0x48 [1] L)) fun q => [((inlB q), (.ret, ⟨[(4, .c (.b false))], []⟩)), ((inrQ q).isSome, ((.exit 4), ⟨[], []⟩))]
theorem step51x0x48 (m : Nat) (kn : St → Option (Ex × St)) (L x : List Lf) : lpB Try.prog (T50x0 N) (h51x0s2 N).h 0 51 48 sh51x0x48 [1] [4] [] (m + 100) kn L x = J51x0x48 N L x (fun y => kn (ofSh sh51x0x48 (mx sh51x0x48 [1] L y))) (fun _ => some (.ret, ⟨[(4, .c (.b false))], []⟩)) (fun _ => some ((.exit 4), ⟨[], []⟩)) := by kernel_rfl
theorem ql51x0x48 (L : List Lf) (m : Nat) (x : List Lf) : Q51x0x48 N L (m + 1) x = J51x0x48 N L x (Q51x0x48 N L m) (fun p => some (.inl p)) (fun p => some (.inr p)) := by kernel_rfl
noncomputable def h51x0s3 : Sg Try.prog 0 51 :=
  (h51x0s2 N).lp (A51x0x48 N) N progOk (T50x0_ok N) (fun m kn L x => (step51x0x48 N m kn L x).trans (sb51x0x48 N L x _ _ _)) (fun L m x => (ql51x0x48 N L m x).trans (sb51x0x48 N L x (Q51x0x48 N L m) (fun p => some (.inl p)) (fun p => some (.inr p)))) fun L x hx => (altS alt1) x hx
noncomputable def F51x0 (v0 : LB) (v1 v2 : Int) (v4 v6 v8 : LD) (v9 : LB) (v10 v11 : Int) (v13 v15 v17 : LD) (k0 : Bool → Option R) : Option R :=
  bnd (bif (bif (!(v0 == v9)) then true else (v1 != v10)) then true else (v2 != v11)) fun y0 =>
  bnd (bif y0 then true else ((v4.length : Int) != (v13.length : Int))) fun y1 =>
  bnd (bif y1 then true else ((v6.length : Int) != (v15.length : Int))) fun y2 =>
  bnd (bif y2 then true else ((v8.length : Int) != (v17.length : Int))) fun y3 =>
  bif y3 then
    k0 false
  else
    bnd (G51x0x12 N (v4.length : Int) v4 v13 0) fun y4 =>
    bif (inlB y4) then
      k0 false
    else
      bif (inrQ y4).isSome then
        bnd (G51x0x30 N (v6.length : Int) v6 v15 0) fun y5 =>
        bif (inlB y5) then
          k0 false
        else
          bif (inrQ y5).isSome then
            bnd (G51x0x48 N (v8.length : Int) v8 v17 0) fun y6 =>
            bif (inlB y6) then
              k0 false
            else
              bif (inrQ y6).isSome then
                k0 true
              else
                none
          else
            none
      else
        none
noncomputable def G51x0 (v0 : LB) (v1 v2 : Int) (v4 v6 v8 : LD) (v9 : LB) (v10 v11 : Int) (v13 v15 v17 : LD) : Option (Bool) := F51x0 N v0 v1 v2 v4 v6 v8 v9 v10 v11 v13 v15 v17 (fun p => some p)
theorem bind51x0 (v0 : LB) (v1 v2 : Int) (v4 v6 v8 : LD) (v9 : LB) (v10 v11 : Int) (v13 v15 v17 : LD) (k0 : Bool → Option R) : F51x0 N v0 v1 v2 v4 v6 v8 v9 v10 v11 v13 v15 v17 k0 = (G51x0 N v0 v1 v2 v4 v6 v8 v9 v10 v11 v13 v15 v17).bind k0 := by
  unfold G51x0 F51x0
  repeat' (first | with_reducible apply cond_b | (with_reducible apply bnd_b; intro _) | rfl)
noncomputable def J51x0 (L : List Lf) (k0 : Bool → Option R) : Option R := F51x0 N (ls L 0) (li L 1) (li L 2) (ll L 4) (ll L 6) (ll L 8) (ls L 9) (li L 10) (li L 11) (ll L 13) (ll L 15) (ll L 17) k0
noncomputable def sh51x0 : Sh := { tmps := [(0, .g (.s :: [.i .i64, .i .i64, .sl 48, .sl 111, .sl 9])), (1, .g (.s :: [.i .i64, .i .i64, .sl 48, .sl 111, .sl 9]))], mem := [] }
noncomputable def A51x0 (L : List Lf) : List (Bool × Res) := bnd (J51x0 N L (fun p => some p)) fun q => [(q.isSome, ([.c (.b (q.getD default))], []))]
theorem raw51x0 (L : List Lf) : bd Try.prog (T50x0 N) (h51x0s3 N).h 51 sh51x0 L = J51x0 N L (fun p => some ([.c (.b p)], [])) := by kernel_rfl
theorem ok51x0 : FnOk Try.prog 51 sh51x0 (A51x0 N) :=
  (h51x0s3 N).fn progOk (T50x0_ok N) fun L x hx => ((raw51x0 N L).trans ((bind51x0 N ..).trans (alt1 x hx)))
noncomputable def T51x0 : Oracle := ext 51 (spSh sh51x0 (A51x0 N)) (T50x0 N)
theorem T51x0_ok : OracleOk Try.prog (T51x0 N) := FnOk.to (ok51x0 N) (T50x0_ok N)
noncomputable def rg19x0 : List (Nat × List Nat) := [(0, [0, 1]), (1, [0, 1]), (2, []), (3, [0, 1]), (4, [13, 12, 0, 1]), (5, [13, 0, 1, 12]), (6, [0, 5, 1, 13, 12]), (7, []), (8, [13, 12, 0, 1]), (9, [])]
noncomputable def hd19x0 : Hints := [(12, [13, 12, 0, 1], [], [])]
noncomputable def h19x0s0 (N : Nat) : Sg Try.prog 0 19 := .start hd19x0 rg19x0
noncomputable def S19x0x12 (w1 w3 : LD) (w4 : Int) (w5 : Int) (kr : Int → Option R) (k0 : Unit → Option R) (k1 : Unit → Option R) : Option R :=
  bif (decide (w5 < w4)) then
    bif (inB w5 w1.length) then
      bif (inB w5 w3.length) then
        bnd (G51x0 N ((w1.getD w5.toNat (.i 0)).cell 0).toS ((w1.getD w5.toNat (.i 0)).cell 1).toI ((w1.getD w5.toNat (.i 0)).cell 2).toI ((w1.getD w5.toNat (.i 0)).cell 3).items ((w1.getD w5.toNat (.i 0)).cell 4).items ((w1.getD w5.toNat (.i 0)).cell 5).items ((w3.getD w5.toNat (.i 0)).cell 0).toS ((w3.getD w5.toNat (.i 0)).cell 1).toI ((w3.getD w5.toNat (.i 0)).cell 2).toI ((w3.getD w5.toNat (.i 0)).cell 3).items ((w3.getD w5.toNat (.i 0)).cell 4).items ((w3.getD w5.toNat (.i 0)).cell 5).items) fun y0 =>
        bif y0.isSome then
          bif (!(y0.getD default)) then
            k0 ()
          else
            kr (IntKind.wrap .i64 (w5 + 1))
        else
          none
      else
        none
    else
      none
  else
    k1 ()
noncomputable def L19x0x12 (N : Nat) {R : Type} (w1 w3 : LD) (w4 : Int) : Nat → Int → (Unit → Option R) → (Unit → Option R) → Option R
  | 0, _, _, _ => none
  | m + 1, w5, k0, k1 => S19x0x12 N w1 w3 w4 w5 (fun w5 => L19x0x12 N w1 w3 w4 m w5 k0 k1) k0 k1
noncomputable def G19x0x12 (w1 w3 : LD) (w4 : Int) (w5 : Int) : Option (Sum (Unit) (Unit)) := L19x0x12 N (R := (Sum (Unit) (Unit))) w1 w3 w4 N w5 (fun p => some (.inl p)) (fun p => some (.inr p))
noncomputable def J19x0x12 (L x : List Lf) (kr : List Lf → Option R) (k0 : Unit → Option R) (k1 : Unit → Option R) : Option R := S19x0x12 N (ll L 1) (ll L 3) (li L 4) (li x 0) (fun w5 => kr [.i w5]) k0 k1
theorem sb19x0x12 (L x : List Lf) (kr : List Lf → Option R) (k0 : Unit → Option R) (k1 : Unit → Option R) : J19x0x12 N L x kr k0 k1 = (J19x0x12 N L x (fun y => some (.inl y)) (fun p => some (.inr (.inl p))) (fun p => some (.inr (.inr p)))).bind (sumE kr (sumE k0 k1)) := by
  unfold J19x0x12 S19x0x12
  repeat' (first | with_reducible apply cond_b | (with_reducible apply bnd_b; intro _) | rfl)
noncomputable def Q19x0x12 (L : List Lf) (m : Nat) (x : List Lf) : Option (Sum (Unit) (Unit)) := L19x0x12 N (R := (Sum (Unit) (Unit))) (ll L 1) (ll L 3) (li L 4) m (li x 0) (fun p => some (.inl p)) (fun p => some (.inr p))
noncomputable def sh19x0x12 : Sh := { tmps := [(0, .c (.sl 29)), (1, .c (.sl 29)), (12, .c (.i .i64)), (13, .c (.i .i64))], mem := [] }
noncomputable def A19x0x12 (L : List Lf) : List (Bool × (Ex × St)) := bnd (Q19x0x12 N L N (pk sh19x0x12 [5] L)) fun q => [((inlB q), (.ret, ⟨[(4, .c (.b false))], []⟩)), ((inrQ q).isSome, ((.exit 0), ⟨[], []⟩))]
theorem step19x0x12 (m : Nat) (kn : St → Option (Ex × St)) (L x : List Lf) : lpB Try.prog (T51x0 N) (h19x0s0 N).h 0 19 12 sh19x0x12 [5] [4] [] (m + 100) kn L x = J19x0x12 N L x (fun y => kn (ofSh sh19x0x12 (mx sh19x0x12 [5] L y))) (fun _ => some (.ret, ⟨[(4, .c (.b false))], []⟩)) (fun _ => some ((.exit 0), ⟨[], []⟩)) := by kernel_rfl
theorem ql19x0x12 (L : List Lf) (m : Nat) (x : List Lf) : Q19x0x12 N L (m + 1) x = J19x0x12 N L x (Q19x0x12 N L m) (fun p => some (.inl p)) (fun p => some (.inr p)) := by kernel_rfl
noncomputable def h19x0s1 : Sg Try.prog 0 19 :=
  (h19x0s0 N).lp (A19x0x12 N) N progOk (T51x0_ok N) (fun m kn L x => (step19x0x12 N m kn L x).trans (sb19x0x12 N L x _ _ _)) (fun L m x => (ql19x0x12 N L m x).trans (sb19x0x12 N L x (Q19x0x12 N L m) (fun p => some (.inl p)) (fun p => some (.inr p)))) fun L x hx => (altS alt1) x hx
noncomputable def F19x0 (v1 v3 : LD) (k0 : Bool → Option R) : Option R :=
  bif ((v1.length : Int) != (v3.length : Int)) then
    k0 false
  else
    bnd (G19x0x12 N v1 v3 (v1.length : Int) 0) fun y0 =>
    bif (inlB y0) then
      k0 false
    else
      bif (inrQ y0).isSome then
        k0 true
      else
        none
noncomputable def G19x0 (v1 v3 : LD) : Option (Bool) := F19x0 N v1 v3 (fun p => some p)
theorem bind19x0 (v1 v3 : LD) (k0 : Bool → Option R) : F19x0 N v1 v3 k0 = (G19x0 N v1 v3).bind k0 := by
  unfold G19x0 F19x0
  repeat' (first | with_reducible apply cond_b | (with_reducible apply bnd_b; intro _) | rfl)
noncomputable def sh19x0 : Sh := { tmps := [(0, .c (.sl 29)), (1, .c (.sl 29))], mem := [] }
noncomputable def A19x0 (L : List Lf) : List (Bool × Res) := bnd (F19x0 N (ll L 1) (ll L 3) (fun p => some p)) fun q => [(q.isSome, ([.c (.b (q.getD default))], []))]
theorem raw19x0 (L : List Lf) : bd Try.prog (T51x0 N) (h19x0s1 N).h 19 sh19x0 L = F19x0 N (ll L 1) (ll L 3) (fun p => some ([.c (.b p)], [])) := by kernel_rfl
theorem ok19x0 : FnOk Try.prog 19 sh19x0 (A19x0 N) :=
  (h19x0s1 N).fn progOk (T51x0_ok N) fun L x hx => ((raw19x0 N L).trans ((bind19x0 N ..).trans (alt1 x hx)))
noncomputable def T19x0 : Oracle := ext 19 (spSh sh19x0 (A19x0 N)) (T51x0 N)
theorem T19x0_ok : OracleOk Try.prog (T19x0 N) := FnOk.to (ok19x0 N) (T51x0_ok N)
noncomputable def rg24x0 : List (Nat × List Nat) := [(0, [0, 2, 3, 1]), (1, [4, 1, 6, 7]), (2, [10, 4, 1, 6, 7]), (3, [10]), (4, [4, 1, 6, 7])]
noncomputable def hd24x0 : Hints := []
noncomputable def h24x0s0 (N : Nat) : Sg Try.prog 0 24 := .start hd24x0 rg24x0
noncomputable def F24x0 (v1 : LD) (v2 : Int) (v3 : LB) (v4 v5 : Int) (v6 : Bool) (v7 : LD) (v8 : Bool) (v9 : LD) (v10 : Bool) (v11 : LD) (v12 : LB) (v13 v14 : Int) (v15 : Bool) (v16 : LD) (v17 : Bool) (v18 : LD) (v19 : Bool) (v20 : LD) (k0 : Bool × Int → Option R) : Option R :=
  bnd (G42x0 N v1 v2 false [(.a [(.s v3), (.i v4), (.i v5), (.l v6 v7), (.l v8 v9), (.l v10 v11)]), (.a [(.s v12), (.i v13), (.i v14), (.l v15 v16), (.l v17 v18), (.l v19 v20)])]) fun y0 =>
  bif y0.isSome then
    bif ((y0.getD default) != 0) then
      k0 (false, (y0.getD default))
    else
      bnd (G50x0 N v1 v2 v3 v4 v5 v7 v9 v11) fun y1 =>
      bif y1.isSome then
        bnd (G50x0 N v1 v2 v12 v13 v14 v16 v18 v20) fun y2 =>
        bif y2.isSome then
          bnd (G19x0 N (y1.getD default).2 (y2.getD default).2) fun y3 =>
          bif y3.isSome then
            k0 ((!(y3.getD default)), 0)
          else
            none
        else
          none
      else
        none
  else
    none
noncomputable def G24x0 (v1 : LD) (v2 : Int) (v3 : LB) (v4 v5 : Int) (v6 : Bool) (v7 : LD) (v8 : Bool) (v9 : LD) (v10 : Bool) (v11 : LD) (v12 : LB) (v13 v14 : Int) (v15 : Bool) (v16 : LD) (v17 : Bool) (v18 : LD) (v19 : Bool) (v20 : LD) : Option (Bool × Int) := F24x0 N v1 v2 v3 v4 v5 v6 v7 v8 v9 v10 v11 v12 v13 v14 v15 v16 v17 v18 v19 v20 (fun p => some p)
theorem bind24x0 (v1 : LD) (v2 : Int) (v3 : LB) (v4 v5 : Int) (v6 : Bool) (v7 : LD) (v8 : Bool) (v9 : LD) (v10 : Bool) (v11 : LD) (v12 : LB) (v13 v14 : Int) (v15 : Bool) (v16 : LD) (v17 : Bool) (v18 : LD) (v19 : Bool) (v20 : LD) (k0 : Bool × Int → Option R) : F24x0 N v1 v2 v3 v4 v5 v6 v7 v8 v9 v10 v11 v12 v13 v14 v15 v16 v17 v18 v19 v20 k0 = (G24x0 N v1 v2 v3 v4 v5 v6 v7 v8 v9 v10 v11 v12 v13 v14 v15 v16 v17 v18 v19 v20).bind k0 := by
  unfold G24x0 F24x0
  repeat' (first | with_reducible apply cond_b | (with_reducible apply bnd_b; intro _) | rfl)
noncomputable def J24x0 (L : List Lf) (k0 : Bool × Int → Option R) : Option R := F24x0 N (ll L 1) (li L 2) (ls L 3) (li L 4) (li L 5) (lb L 6) (ll L 7) (lb L 8) (ll L 9) (lb L 10) (ll L 11) (ls L 12) (li L 13) (li L 14) (lb L 15) (ll L 16) (lb L 17) (ll L 18) (lb L 19) (ll L 20) k0
noncomputable def sh24x0 : Sh := { tmps := [(0, .g ([.sl 70])), (1, .c (.i .i64)), (2, .g (.s :: [.i .i64, .i .i64, .sl 48, .sl 111, .sl 9])), (3, .g (.s :: [.i .i64, .i .i64, .sl 48, .sl 111, .sl 9]))], mem := [] }
noncomputable def A24x0 (L : List Lf) : List (Bool × Res) := bnd (J24x0 N L (fun p => some p)) fun q => [(q.isSome, ([.c (.b (q.getD default).1), .c (.i .i64 (q.getD default).2)], []))]
theorem raw24x0 (L : List Lf) : bd Try.prog (T19x0 N) (h24x0s0 N).h 24 sh24x0 L = J24x0 N L (fun p => some ([.c (.b p.1), .c (.i .i64 p.2)], [])) := by kernel_rfl
theorem ok24x0 : FnOk Try.prog 24 sh24x0 (A24x0 N) :=
  (h24x0s0 N).fn progOk (T19x0_ok N) fun L x hx => ((raw24x0 N L).trans ((bind24x0 N ..).trans (alt1 x hx)))
noncomputable def T24x0 : Oracle := ext 24 (spSh sh24x0 (A24x0 N)) (T19x0 N)
theorem T24x0_ok : OracleOk Try.prog (T24x0 N) := FnOk.to (ok24x0 N) (T19x0_ok N)
noncomputable def rg25x0 : List (Nat × List Nat) := [(0, [0, 1]), (1, [2, 3]), (2, [7, 2, 3]), (3, [7]), (4, [2, 3]), (5, [8, 2, 3]), (7, [2, 8, 3]), (8, [9, 3, 8, 2]), (9, [8]), (6, [8, 2, 3]), (10, [])]
noncomputable def hd25x0 : Hints := [(15, [8, 2, 3], [3, 2], []), (25, [9, 3, 8, 2], [3, 2], [])]
noncomputable def h25x0s0 (N : Nat) : Sg Try.prog 0 25 := .start hd25x0 rg25x0
noncomputable def F25x0x25 (w2 : LD) (w5 : LB) (w6 w7 : Int) (w9 w11 w13 : LD) (k0 : Bool → Option R) : Option R :=
  bif ((w2.length : Int) == 1) then
    bif (inB 0 w2.length) then
      bnd (G54x0 N ((w2.getD 0 (.i 0)).cell 0).toS ((w2.getD 0 (.i 0)).cell 1).toI ((w2.getD 0 (.i 0)).cell 2).toI ((w2.getD 0 (.i 0)).cell 3).items ((w2.getD 0 (.i 0)).cell 4).items ((w2.getD 0 (.i 0)).cell 5).items w5 w6 w7 w9 w11 w13) fun y0 =>
      bif y0.isSome then
        k0 (y0.getD default)
      else
        none
    else
      none
  else
    k0 false
noncomputable def G25x0x25 (w2 : LD) (w5 : LB) (w6 w7 : Int) (w9 w11 w13 : LD) : Option (Bool) := F25x0x25 N w2 w5 w6 w7 w9 w11 w13 (fun p => some p)
theorem bind25x0x25 (w2 : LD) (w5 : LB) (w6 w7 : Int) (w9 w11 w13 : LD) (k0 : Bool → Option R) : F25x0x25 N w2 w5 w6 w7 w9 w11 w13 k0 = (G25x0x25 N w2 w5 w6 w7 w9 w11 w13).bind k0 := by
  unfold G25x0x25 F25x0x25
  repeat' (first | with_reducible apply cond_b | (with_reducible apply bnd_b; intro _) | rfl)
noncomputable def J25x0x25 (L : List Lf) (k0 : Bool → Option R) : Option R := F25x0x25 N (ll L 2) (ls L 5) (li L 6) (li L 7) (ll L 9) (ll L 11) (ll L 13) k0
noncomputable def sh25x0x25 : Sh := { tmps := [(2, .c (.p 2 0)), (3, .c (.p 3 0)), (8, .c (.i .i64)), (9, .c (.sl 29))], mem := [(2, .box ([.sl 70])), (3, .box (.s :: [.i .i64, .i .i64, .sl 48, .sl 111, .sl 9]))] }
noncomputable def K25x0x25w0 (L : List Lf) (p : Bool) : Ex × St := (.normal, mg (ofSh sh25x0x25 L) [2, 3, 8, 35] [(35, .c (.b p))] [2, 3] [])
noncomputable def A25x0x25 (L : List Lf) : List (Bool × (Ex × St)) := bnd (J25x0x25 N L (fun p => some p)) fun q => [(q.isSome, K25x0x25w0 L (q.getD default))]
theorem raw25x0x25 (L : List Lf) : pc Try.prog (T24x0 N) (h25x0s0 N).h 0 100 25 25 sh25x0x25 L [8, 2, 3, 35] [3, 2] = J25x0x25 N L (fun p => some (K25x0x25w0 L p)) := by kernel_rfl
noncomputable def h25x0s1 : Sg Try.prog 0 25 :=
  (h25x0s0 N).cut (A25x0x25 N) progOk (T24x0_ok N) fun L x hx => (raw25x0x25 N L).trans ((bind25x0x25 N ..).trans (alt1 x hx))
noncomputable def S25x0x15 (w2 : LD) (w3 : LB) (w4 w5 : Int) (w6 : Bool) (w7 : LD) (w8 : Bool) (w9 : LD) (w10 : Bool) (w11 : LD) (w0 : Int) (kr : Int → Option R) (k0 : Int → Option R) (k1 : Unit → Option R) : Option R :=
  bif (decide (w0 ≥ 0)) then
    bnd (G44x0 N w2 w0 [(.a [(.s w3), (.i w4), (.i w5), (.l w6 w7), (.l w8 w9), (.l w10 w11)])]) fun y0 =>
    bif y0.isSome then
      bnd (G25x0x25 N (y0.getD default).2 w3 w4 w5 w7 w9 w11) fun y1 =>
      bif y1.isSome then
        bif (y1.getD default) then
          k0 w0
        else
          kr (IntKind.wrap .i64 (w0 - 1))
      else
        none
    else
      none
  else
    k1 ()
noncomputable def L25x0x15 (N : Nat) {R : Type} (w2 : LD) (w3 : LB) (w4 w5 : Int) (w6 : Bool) (w7 : LD) (w8 : Bool) (w9 : LD) (w10 : Bool) (w11 : LD) : Nat → Int → (Int → Option R) → (Unit → Option R) → Option R
  | 0, _, _, _ => none
  | m + 1, w0, k0, k1 => S25x0x15 N w2 w3 w4 w5 w6 w7 w8 w9 w10 w11 w0 (fun w0 => L25x0x15 N w2 w3 w4 w5 w6 w7 w8 w9 w10 w11 m w0 k0 k1) k0 k1
noncomputable def G25x0x15 (w2 : LD) (w3 : LB) (w4 w5 : Int) (w6 : Bool) (w7 : LD) (w8 : Bool) (w9 : LD) (w10 : Bool) (w11 : LD) (w0 : Int) : Option (Sum (Int) (Unit)) := L25x0x15 N (R := (Sum (Int) (Unit))) w2 w3 w4 w5 w6 w7 w8 w9 w10 w11 N w0 (fun p => some (.inl p)) (fun p => some (.inr p))
noncomputable def J25x0x15 (L x : List Lf) (kr : List Lf → Option R) (k0 : Int → Option R) (k1 : Unit → Option R) : Option R := S25x0x15 N (ll L 2) (ls L 3) (li L 4) (li L 5) (lb L 6) (ll L 7) (lb L 8) (ll L 9) (lb L 10) (ll L 11) (li x 0) (fun w0 => kr [.i w0]) k0 k1
theorem sb25x0x15 (L x : List Lf) (kr : List Lf → Option R) (k0 : Int → Option R) (k1 : Unit → Option R) : J25x0x15 N L x kr k0 k1 = (J25x0x15 N L x (fun y => some (.inl y)) (fun p => some (.inr (.inl p))) (fun p => some (.inr (.inr p)))).bind (sumE kr (sumE k0 k1)) := by
  unfold J25x0x15 S25x0x15
  repeat' (first | with_reducible apply cond_b | (with_reducible apply bnd_b; intro _) | rfl)
noncomputable def Q25x0x15 (L : List Lf) (m : Nat) (x : List Lf) : Option (Sum (Int) (Unit)) := L25x0x15 N (R := (Sum (Int) (Unit))) (ll L 2) (ls L 3) (li L 4) (li L 5) (lb L 6) (ll L 7) (lb L 8) (ll L 9) (lb L 10) (ll L 11) m (li x 0) (fun p => some (.inl p)) (fun p => some (.inr p))
noncomputable def sh25x0x15 : Sh := { tmps := [(2, .c (.p 2 0)), (3, .c (.p 3 0)), (8, .c (.i .i64))], mem := [(2, .box ([.sl 70])), (3, .box (.s :: [.i .i64, .i .i64, .sl 48, .sl 111, .sl 9]))] }
noncomputable def K25x0x15w0 (L : List Lf) (p : Int) : Ex × St := (.ret, ⟨[(4, .c (.i .i64 p)), (5, .c (.b true)), (6, .c (.i .i64 0))], []⟩)
noncomputable def A25x0x15 (L : List Lf) : List (Bool × (Ex × St)) := bnd (Q25x0x15 N L N (pk sh25x0x15 [0] L)) fun q => [((inlB q), K25x0x15w0 L (inlV q)), ((inrQ q).isSome, ((.exit 0), ⟨[], []⟩))]
theorem step25x0x15 (m : Nat) (kn : St → Option (Ex × St)) (L x : List Lf) : lpB Try.prog (T24x0 N) (h25x0s1 N).h 0 25 15 sh25x0x15 [0] [4, 5, 6] [] (m + 100) kn L x = J25x0x15 N L x (fun y => kn (ofSh sh25x0x15 (mx sh25x0x15 [0] L y))) (fun p => some (K25x0x15w0 L p)) (fun _ => some ((.exit 0), ⟨[], []⟩)) := by kernel_rfl
theorem ql25x0x15 (L : List Lf) (m : Nat) (x : List Lf) : Q25x0x15 N L (m + 1) x = J25x0x15 N L x (Q25x0x15 N L m) (fun p => some (.inl p)) (fun p => some (.inr p)) := by kernel_rfl
noncomputable def h25x0s2 : Sg Try.prog 0 25 :=
  (h25x0s1 N).lp (A25x0x15 N) N progOk (T24x0_ok N) (fun m kn L x => (step25x0x15 N m kn L x).trans (sb25x0x15 N L x _ _ _)) (fun L m x => (ql25x0x15 N L m x).trans (sb25x0x15 N L x (Q25x0x15 N L m) (fun p => some (.inl p)) (fun p => some (.inr p)))) fun L x hx => (altS alt1) x hx
noncomputable def F25x0 (v1 : LD) (v2 : LB) (v3 v4 : Int) (v5 : Bool) (v6 : LD) (v7 : Bool) (v8 : LD) (v9 : Bool) (v10 : LD) (k0 : Int × Bool × Int → Option R) : Option R :=
  bnd (G39x0 N v1 0 [(.a [(.s v2), (.i v3), (.i v4), (.l v5 v6), (.l v7 v8), (.l v9 v10)])]) fun y0 =>
  bif y0.isSome then
    bif ((y0.getD default) != 0) then
      k0 (0, false, (y0.getD default))
    else
      bnd (G25x0x15 N v1 v2 v3 v4 v5 v6 v7 v8 v9 v10 3) fun y1 =>
      bif (inlB y1) then
        k0 ((inlV y1), true, 0)
      else
        bif (inrQ y1).isSome then
          k0 (0, false, 0)
        else
          none
  else
    none
noncomputable def G25x0 (v1 : LD) (v2 : LB) (v3 v4 : Int) (v5 : Bool) (v6 : LD) (v7 : Bool) (v8 : LD) (v9 : Bool) (v10 : LD) : Option (Int × Bool × Int) := F25x0 N v1 v2 v3 v4 v5 v6 v7 v8 v9 v10 (fun p => some p)
theorem bind25x0 (v1 : LD) (v2 : LB) (v3 v4 : Int) (v5 : Bool) (v6 : LD) (v7 : Bool) (v8 : LD) (v9 : Bool) (v10 : LD) (k0 : Int × Bool × Int → Option R) : F25x0 N v1 v2 v3 v4 v5 v6 v7 v8 v9 v10 k0 = (G25x0 N v1 v2 v3 v4 v5 v6 v7 v8 v9 v10).bind k0 := by
  unfold G25x0 F25x0
  repeat' (first | with_reducible apply cond_b | (with_reducible apply bnd_b; intro _) | rfl)
noncomputable def J25x0 (L : List Lf) (k0 : Int × Bool × Int → Option R) : Option R := F25x0 N (ll L 1) (ls L 2) (li L 3) (li L 4) (lb L 5) (ll L 6) (lb L 7) (ll L 8) (lb L 9) (ll L 10) k0
noncomputable def sh25x0 : Sh := { tmps := [(0, .g ([.sl 70])), (1, .g (.s :: [.i .i64, .i .i64, .sl 48, .sl 111, .sl 9]))], mem := [] }
noncomputable def A25x0 (L : List Lf) : List (Bool × Res) := bnd (J25x0 N L (fun p => some p)) fun q => [(q.isSome, ([.c (.i .i64 (q.getD default).1), .c (.b (q.getD default).2.1), .c (.i .i64 (q.getD default).2.2)], []))]
theorem raw25x0 (L : List Lf) : bd Try.prog (T24x0 N) (h25x0s2 N).h 25 sh25x0 L = J25x0 N L (fun p => some ([.c (.i .i64 p.1), .c (.b p.2.1), .c (.i .i64 p.2.2)], [])) := by kernel_rfl
theorem ok25x0 : FnOk Try.prog 25 sh25x0 (A25x0 N) :=
  (h25x0s2 N).fn progOk (T24x0_ok N) fun L x hx => ((raw25x0 N L).trans ((bind25x0 N ..).trans (alt1 x hx)))
noncomputable def T25x0 : Oracle := ext 25 (spSh sh25x0 (A25x0 N)) (T24x0 N)
theorem T25x0_ok : OracleOk Try.prog (T25x0 N) := FnOk.to (ok25x0 N) (T24x0_ok N)
noncomputable def rg26x0 : List (Nat × List Nat) := [(0, [0, 1]), (1, [2, 3]), (2, [7, 2, 3]), (3, [7]), (4, [2, 3]), (5, [8, 2, 3]), (7, [2, 8, 3]), (8, [8]), (6, [8, 2, 3]), (9, [])]
noncomputable def hd26x0 : Hints := [(15, [8, 2, 3], [3, 2], [])]
noncomputable def h26x0s0 (N : Nat) : Sg Try.prog 0 26 := .start hd26x0 rg26x0
noncomputable def S26x0x15 (w2 : LD) (w3 : LB) (w4 w5 : Int) (w6 : Bool) (w7 : LD) (w8 : Bool) (w9 : LD) (w10 : Bool) (w11 : LD) (w0 : Int) (kr : Int → Option R) (k0 : Int → Option R) (k1 : Unit → Option R) : Option R :=
  bif (decide (w0 ≥ 0)) then
    bnd (G50x0 N w2 w0 w3 w4 w5 w7 w9 w11) fun y0 =>
    bif y0.isSome then
      bnd (G19x0 N (y0.getD default).2 [(.a [(.s w3), (.i w4), (.i w5), (.l w6 w7), (.l w8 w9), (.l w10 w11)])]) fun y1 =>
      bif y1.isSome then
        bif (y1.getD default) then
          k0 w0
        else
          kr (IntKind.wrap .i64 (w0 - 1))
      else
        none
    else
      none
  else
    k1 ()
noncomputable def L26x0x15 (N : Nat) {R : Type} (w2 : LD) (w3 : LB) (w4 w5 : Int) (w6 : Bool) (w7 : LD) (w8 : Bool) (w9 : LD) (w10 : Bool) (w11 : LD) : Nat → Int → (Int → Option R) → (Unit → Option R) → Option R
  | 0, _, _, _ => none
  | m + 1, w0, k0, k1 => S26x0x15 N w2 w3 w4 w5 w6 w7 w8 w9 w10 w11 w0 (fun w0 => L26x0x15 N w2 w3 w4 w5 w6 w7 w8 w9 w10 w11 m w0 k0 k1) k0 k1
noncomputable def G26x0x15 (w2 : LD) (w3 : LB) (w4 w5 : Int) (w6 : Bool) (w7 : LD) (w8 : Bool) (w9 : LD) (w10 : Bool) (w11 : LD) (w0 : Int) : Option (Sum (Int) (Unit)) := L26x0x15 N (R := (Sum (Int) (Unit))) w2 w3 w4 w5 w6 w7 w8 w9 w10 w11 N w0 (fun p => some (.inl p)) (fun p => some (.inr p))
noncomputable def J26x0x15 (L x : List Lf) (kr : List Lf → Option R) (k0 : Int → Option R) (k1 : Unit → Option R) : Option R := S26x0x15 N (ll L 2) (ls L 3) (li L 4) (li L 5) (lb L 6) (ll L 7) (lb L 8) (ll L 9) (lb L 10) (ll L 11) (li x 0) (fun w0 => kr [.i w0]) k0 k1
theorem sb26x0x15 (L x : List Lf) (kr : List Lf → Option R) (k0 : Int → Option R) (k1 : Unit → Option R) : J26x0x15 N L x kr k0 k1 = (J26x0x15 N L x (fun y => some (.inl y)) (fun p => some (.inr (.inl p))) (fun p => some (.inr (.inr p)))).bind (sumE kr (sumE k0 k1)) := by
  unfold J26x0x15 S26x0x15
  repeat' (first | with_reducible apply cond_b | (with_reducible apply bnd_b; intro _) | rfl)
noncomputable def Q26x0x15 (L : List Lf) (m : Nat) (x : List Lf) : Option (Sum (Int) (Unit)) := L26x0x15 N (R := (Sum (Int) (Unit))) (ll L 2) (ls L 3) (li L 4) (li L 5) (lb L 6) (ll L 7) (lb L 8) (ll L 9) (lb L 10) (ll L 11) m (li x 0) (fun p => some (.inl p)) (fun p => some (.inr p))
noncomputable def sh26x0x15 : Sh := { tmps := [(2, .c (.p 2 0)), (3, .c (.p 3 0)), (8, .c (.i .i64))], mem := [(2, .box ([.sl 70])), (3, .box (.s :: [.i .i64, .i .i64, .sl 48, .sl 111, .sl 9]))] }
noncomputable def K26x0x15w0 (L : List Lf) (p : Int) : Ex × St := (.ret, ⟨[(4, .c (.i .i64 p)), (5, .c (.b true)), (6, .c (.i .i64 0))], []⟩)
noncomputable def A26x0x15 (L : List Lf) : List (Bool × (Ex × St)) := bnd (Q26x0x15 N L N (pk sh26x0x15 [0] L)) fun q => [((inlB q), K26x0x15w0 L (inlV q)), ((inrQ q).isSome, ((.exit 0), ⟨[], []⟩))]
theorem step26x0x15 (m : Nat) (kn : St → Option (Ex × St)) (L x : List Lf) : lpB Try.prog (T25x0 N) (h26x0s0 N).h 0 26 15 sh26x0x15 [0] [4, 5, 6] [] (m + 100) kn L x = J26x0x15 N L x (fun y => kn (ofSh sh26x0x15 (mx sh26x0x15 [0] L y))) (fun p => some (K26x0x15w0 L p)) (fun _ => some ((.exit 0), ⟨[], []⟩)) := by kernel_rfl
theorem ql26x0x15 (L : List Lf) (m : Nat) (x : List Lf) : Q26x0x15 N L (m + 1) x = J26x0x15 N L x (Q26x0x15 N L m) (fun p => some (.inl p)) (fun p => some (.inr p)) := by kernel_rfl
noncomputable def h26x0s1 : Sg Try.prog 0 26 :=
  (h26x0s0 N).lp (A26x0x15 N) N progOk (T25x0_ok N) (fun m kn L x => (step26x0x15 N m kn L x).trans (sb26x0x15 N L x _ _ _)) (fun L m x => (ql26x0x15 N L m x).trans (sb26x0x15 N L x (Q26x0x15 N L m) (fun p => some (.inl p)) (fun p => some (.inr p)))) fun L x hx => (altS alt1) x hx
noncomputable def F26x0 (v1 : LD) (v2 : LB) (v3 v4 : Int) (v5 : Bool) (v6 : LD) (v7 : Bool) (v8 : LD) (v9 : Bool) (v10 : LD) (k0 : Int × Bool × Int → Option R) : Option R :=
  bnd (G42x0 N v1 0 false [(.a [(.s v2), (.i v3), (.i v4), (.l v5 v6), (.l v7 v8), (.l v9 v10)])]) fun y0 =>
  bif y0.isSome then
    bif ((y0.getD default) != 0) then
      k0 (0, false, (y0.getD default))
    else
      bnd (G26x0x15 N v1 v2 v3 v4 v5 v6 v7 v8 v9 v10 3) fun y1 =>
      bif (inlB y1) then
        k0 ((inlV y1), true, 0)
      else
        bif (inrQ y1).isSome then
          k0 (0, false, 0)
        else
          none
  else
    none
noncomputable def G26x0 (v1 : LD) (v2 : LB) (v3 v4 : Int) (v5 : Bool) (v6 : LD) (v7 : Bool) (v8 : LD) (v9 : Bool) (v10 : LD) : Option (Int × Bool × Int) := F26x0 N v1 v2 v3 v4 v5 v6 v7 v8 v9 v10 (fun p => some p)
theorem bind26x0 (v1 : LD) (v2 : LB) (v3 v4 : Int) (v5 : Bool) (v6 : LD) (v7 : Bool) (v8 : LD) (v9 : Bool) (v10 : LD) (k0 : Int × Bool × Int → Option R) : F26x0 N v1 v2 v3 v4 v5 v6 v7 v8 v9 v10 k0 = (G26x0 N v1 v2 v3 v4 v5 v6 v7 v8 v9 v10).bind k0 := by
  unfold G26x0 F26x0
  repeat' (first | with_reducible apply cond_b | (with_reducible apply bnd_b; intro _) | rfl)
noncomputable def J26x0 (L : List Lf) (k0 : Int × Bool × Int → Option R) : Option R := F26x0 N (ll L 1) (ls L 2) (li L 3) (li L 4) (lb L 5) (ll L 6) (lb L 7) (ll L 8) (lb L 9) (ll L 10) k0
noncomputable def sh26x0 : Sh := { tmps := [(0, .g ([.sl 70])), (1, .g (.s :: [.i .i64, .i .i64, .sl 48, .sl 111, .sl 9]))], mem := [] }
noncomputable def A26x0 (L : List Lf) : List (Bool × Res) := bnd (J26x0 N L (fun p => some p)) fun q => [(q.isSome, ([.c (.i .i64 (q.getD default).1), .c (.b (q.getD default).2.1), .c (.i .i64 (q.getD default).2.2)], []))]
theorem raw26x0 (L : List Lf) : bd Try.prog (T25x0 N) (h26x0s1 N).h 26 sh26x0 L = J26x0 N L (fun p => some ([.c (.i .i64 p.1), .c (.b p.2.1), .c (.i .i64 p.2.2)], [])) := by kernel_rfl
theorem ok26x0 : FnOk Try.prog 26 sh26x0 (A26x0 N) :=
  (h26x0s1 N).fn progOk (T25x0_ok N) fun L x hx => ((raw26x0 N L).trans ((bind26x0 N ..).trans (alt1 x hx)))
noncomputable def T26x0 : Oracle := ext 26 (spSh sh26x0 (A26x0 N)) (T25x0 N)
theorem T26x0_ok : OracleOk Try.prog (T26x0 N) := FnOk.to (ok26x0 N) (T25x0_ok N)
noncomputable def rg13x0 : List (Nat × List Nat) := [(0, [0, 2, 1]), (1, [3, 1, 5]), (2, [8, 3, 1, 5]), (3, [8]), (4, [3, 1, 5])]
noncomputable def hd13x0 : Hints := []
noncomputable def h13x0s0 (N : Nat) : Sg Try.prog 0 13 := .start hd13x0 rg13x0
noncomputable def F13x0 (v1 : LD) (v2 : Int) (v3 : LB) (v4 v5 : Int) (v6 : Bool) (v7 : LD) (v8 : Bool) (v9 : LD) (v10 : Bool) (v11 : LD) (k0 : Bool × LD × Int → Option R) : Option R :=
  bnd (G39x0 N v1 v2 [(.a [(.s v3), (.i v4), (.i v5), (.l v6 v7), (.l v8 v9), (.l v10 v11)])]) fun y0 =>
  bif y0.isSome then
    bif ((y0.getD default) != 0) then
      k0 (true, [], (y0.getD default))
    else
      bnd (G44x0 N v1 v2 [(.a [(.s v3), (.i v4), (.i v5), (.l v6 v7), (.l v8 v9), (.l v10 v11)])]) fun y1 =>
      bif y1.isSome then
        k0 ((y1.getD default).1, (y1.getD default).2, 0)
      else
        none
  else
    none
noncomputable def G13x0 (v1 : LD) (v2 : Int) (v3 : LB) (v4 v5 : Int) (v6 : Bool) (v7 : LD) (v8 : Bool) (v9 : LD) (v10 : Bool) (v11 : LD) : Option (Bool × LD × Int) := F13x0 N v1 v2 v3 v4 v5 v6 v7 v8 v9 v10 v11 (fun p => some p)
theorem bind13x0 (v1 : LD) (v2 : Int) (v3 : LB) (v4 v5 : Int) (v6 : Bool) (v7 : LD) (v8 : Bool) (v9 : LD) (v10 : Bool) (v11 : LD) (k0 : Bool × LD × Int → Option R) : F13x0 N v1 v2 v3 v4 v5 v6 v7 v8 v9 v10 v11 k0 = (G13x0 N v1 v2 v3 v4 v5 v6 v7 v8 v9 v10 v11).bind k0 := by
  unfold G13x0 F13x0
  repeat' (first | with_reducible apply cond_b | (with_reducible apply bnd_b; intro _) | rfl)
noncomputable def J13x0 (L : List Lf) (k0 : Bool × LD × Int → Option R) : Option R := F13x0 N (ll L 1) (li L 2) (ls L 3) (li L 4) (li L 5) (lb L 6) (ll L 7) (lb L 8) (ll L 9) (lb L 10) (ll L 11) k0
noncomputable def sh13x0 : Sh := { tmps := [(0, .g ([.sl 70])), (1, .c (.i .i64)), (2, .g (.s :: [.i .i64, .i .i64, .sl 48, .sl 111, .sl 9]))], mem := [] }
noncomputable def A13x0 (L : List Lf) : List (Bool × Res) := bnd (J13x0 N L (fun p => some p)) fun q => [(q.isSome, ([.c (.sl 29 (q.getD default).1 (q.getD default).2.1), .c (.i .i64 (q.getD default).2.2)], []))]
theorem raw13x0 (L : List Lf) : bd Try.prog (T26x0 N) (h13x0s0 N).h 13 sh13x0 L = J13x0 N L (fun p => some ([.c (.sl 29 p.1 p.2.1), .c (.i .i64 p.2.2)], [])) := by kernel_rfl
theorem ok13x0 : FnOk Try.prog 13 sh13x0 (A13x0 N) :=
  (h13x0s0 N).fn progOk (T26x0_ok N) fun L x hx => ((raw13x0 N L).trans ((bind13x0 N ..).trans (alt1 x hx)))
noncomputable def T13x0 : Oracle := ext 13 (spSh sh13x0 (A13x0 N)) (T26x0 N)
theorem T13x0_ok : OracleOk Try.prog (T13x0 N) := FnOk.to (ok13x0 N) (T26x0_ok N)
noncomputable def rg12x0 : List (Nat × List Nat) := [(0, []), (1, []), (2, [1]), (3, [1, 2]), (4, [4, 3])]
noncomputable def hd12x0 : Hints := []
noncomputable def h12x0s0 (N : Nat) : Sg Try.prog 0 12 := .start hd12x0 rg12x0
noncomputable def F12x0 (k0 : Bool → Option R) : Option R :=
  bnd (G13x0 N [(.a [(.i 2), (.i 1), (.i 0), (.i 0), (.i 10), (.i 0), (.i 0), (.i 0), (.s ([] : List UInt8))])] 2 ([109] : List UInt8) 1 0 false [(.a [(.i 0), (.i 0), (.i 0), (.i 0), (.i (-1)), (.i (-1)), (.i (-1))]), (.a [(.i 10), (.i 100), (.i 0), (.i 0), (.i (-1)), (.i (-1)), (.i (-1))])] true [] true []) fun y0 =>
  bif y0.isSome then
    bnd (bif ((y0.getD default).2.2 == 0) then (((y0.getD default).2.1.length : Int) == 1) else false) fun y1 =>
    bif (bif (inB 0 (y0.getD default).2.1.length) then true else (!(y1 == true))) then
      bnd (bif y1 then ((((y0.getD default).2.1.getD 0 (.i 0)).cell 2).toI == 10) else false) fun y2 =>
      bif (bif (inB 0 (y0.getD default).2.1.length) then true else (!(y2 == true))) then
        bnd (bif y2 then (((((y0.getD default).2.1.getD 0 (.i 0)).cell 3).items.length : Int) == 1) else false) fun y3 =>
        bif (bif (inB 0 (y0.getD default).2.1.length) then true else (!(y3 == true))) then
          bif (bif (inB 0 (((y0.getD default).2.1.getD 0 (.i 0)).cell 3).items.length) then true else (!(y3 == true))) then
            bnd (bif y3 then ((((((y0.getD default).2.1.getD 0 (.i 0)).cell 3).items.getD 0 (.i 0)).cell 1).toI == 100) else false) fun y4 =>
            k0 y4
          else
            none
        else
          none
      else
        none
    else
      none
  else
    none
noncomputable def G12x0 : Option (Bool) := F12x0 N (fun p => some p)
theorem bind12x0 (k0 : Bool → Option R) : F12x0 N k0 = (G12x0 N).bind k0 := by
  unfold G12x0 F12x0
  repeat' (first | with_reducible apply cond_b | (with_reducible apply bnd_b; intro _) | rfl)
noncomputable def sh12x0 : Sh := { tmps := [], mem := [] }
noncomputable def A12x0 (L : List Lf) : List (Bool × Res) := bnd (F12x0 N (fun p => some p)) fun q => [(q.isSome, ([.c (.b (q.getD default))], []))]
theorem raw12x0 (L : List Lf) : bd Try.prog (T13x0 N) (h12x0s0 N).h 12 sh12x0 L = F12x0 N (fun p => some ([.c (.b p)], [])) := by kernel_rfl
theorem ok12x0 : FnOk Try.prog 12 sh12x0 (A12x0 N) :=
  (h12x0s0 N).fn progOk (T13x0_ok N) fun L x hx => ((raw12x0 N L).trans ((bind12x0 N ..).trans (alt1 x hx)))
noncomputable def T12x0 : Oracle := ext 12 (spSh sh12x0 (A12x0 N)) (T13x0 N)
theorem T12x0_ok : OracleOk Try.prog (T12x0 N) := FnOk.to (ok12x0 N) (T13x0_ok N)
noncomputable def rg6x0 : List (Nat × List Nat) := [(0, [0, 2, 3, 1]), (1, [4, 1, 6, 7]), (2, [4, 1, 6, 7, 9, 10]), (3, [4, 6, 9, 11, 10, 12]), (4, [4, 6, 9, 11, 10, 12, 13, 14, 15]), (5, [9, 11, 10, 12, 13, 16, 14, 17, 15, 18])]
noncomputable def hd6x0 : Hints := [(16, [9, 11, 10, 12, 13, 16, 14, 17, 15, 18], [], [])]
noncomputable def h6x0s0 (N : Nat) : Sg Try.prog 0 6 := .start hd6x0 rg6x0
noncomputable def F6x0x16 (w0 : Bool) (w1 : Int) (w2 : Bool) (w3 w4 : Int) (w5 : Bool) (w6 w7 : Int) (w8 : Bool) (w9 : Int) (k0 : Bool → Option R) : Option R :=
  bnd (bif (bif (w0 == w2) then (w1 == w3) else false) then (w4 == w7) else false) fun y0 =>
  bnd (bif (bif y0 then (w5 == w8) else false) then (w6 == w9) else false) fun y1 =>
  bif y1 then
    bnd (G12x0 N) fun y2 =>
    bif y2.isSome then
      k0 (y2.getD default)
    else
      none
  else
    k0 false
noncomputable def G6x0x16 (w0 : Bool) (w1 : Int) (w2 : Bool) (w3 w4 : Int) (w5 : Bool) (w6 w7 : Int) (w8 : Bool) (w9 : Int) : Option (Bool) := F6x0x16 N w0 w1 w2 w3 w4 w5 w6 w7 w8 w9 (fun p => some p)
theorem bind6x0x16 (w0 : Bool) (w1 : Int) (w2 : Bool) (w3 w4 : Int) (w5 : Bool) (w6 w7 : Int) (w8 : Bool) (w9 : Int) (k0 : Bool → Option R) : F6x0x16 N w0 w1 w2 w3 w4 w5 w6 w7 w8 w9 k0 = (G6x0x16 N w0 w1 w2 w3 w4 w5 w6 w7 w8 w9).bind k0 := by
  unfold G6x0x16 F6x0x16
  repeat' (first | with_reducible apply cond_b | (with_reducible apply bnd_b; intro _) | rfl)
noncomputable def J6x0x16 (L : List Lf) (k0 : Bool → Option R) : Option R := F6x0x16 N (lb L 0) (li L 1) (lb L 2) (li L 3) (li L 4) (lb L 5) (li L 6) (li L 7) (lb L 8) (li L 9) k0
noncomputable def sh6x0x16 : Sh := { tmps := [(9, .c (.b)), (10, .c (.i .i64)), (11, .c (.b)), (12, .c (.i .i64)), (13, .c (.i .i64)), (14, .c (.b)), (15, .c (.i .i64)), (16, .c (.i .i64)), (17, .c (.b)), (18, .c (.i .i64))], mem := [] }
noncomputable def A6x0x16 (L : List Lf) : List (Bool × (Ex × St)) := bnd (J6x0x16 N L (fun p => some p)) fun q => [(q.isSome, (.normal, ⟨[(8, .c (.b (q.getD default)))], []⟩))]
theorem raw6x0x16 (L : List Lf) : pc Try.prog (T12x0 N) (h6x0s0 N).h 0 100 6 16 sh6x0x16 L [8] [] = J6x0x16 N L (fun p => some (.normal, ⟨[(8, .c (.b p))], []⟩)) := by kernel_rfl
noncomputable def h6x0s1 : Sg Try.prog 0 6 :=
  (h6x0s0 N).cut (A6x0x16 N) progOk (T12x0_ok N) fun L x hx => (raw6x0x16 N L).trans ((bind6x0x16 N ..).trans (alt1 x hx))
noncomputable def F6x0 (v1 : LD) (v2 : Int) (v3 : LB) (v4 v5 : Int) (v6 : Bool) (v7 : LD) (v8 : Bool) (v9 : LD) (v10 : Bool) (v11 : LD) (v12 : LB) (v13 v14 : Int) (v15 : Bool) (v16 : LD) (v17 : Bool) (v18 : LD) (v19 : Bool) (v20 : LD) (k0 : Bool → Option R) : Option R :=
  bnd (G23x0 N v1 v2 v3 v4 v5 v6 v7 v8 v9 v10 v11 v12 v13 v14 v15 v16 v17 v18 v19 v20) fun y0 =>
  bif y0.isSome then
    bnd (G24x0 N v1 v2 v3 v4 v5 v6 v7 v8 v9 v10 v11 v12 v13 v14 v15 v16 v17 v18 v19 v20) fun y1 =>
    bif y1.isSome then
      bnd (G25x0 N v1 v3 v4 v5 v6 v7 v8 v9 v10 v11) fun y2 =>
      bif y2.isSome then
        bnd (G26x0 N v1 v3 v4 v5 v6 v7 v8 v9 v10 v11) fun y3 =>
        bif y3.isSome then
          bnd (G6x0x16 N (y0.getD default).1 (y0.getD default).2 (y1.getD default).1 (y1.getD default).2 (y2.getD default).1 (y2.getD default).2.1 (y2.getD default).2.2 (y3.getD default).1 (y3.getD default).2.1 (y3.getD default).2.2) fun y4 =>
          bif y4.isSome then
            k0 (y4.getD default)
          else
            none
        else
          none
      else
        none
    else
      none
  else
    none
noncomputable def G6x0 (v1 : LD) (v2 : Int) (v3 : LB) (v4 v5 : Int) (v6 : Bool) (v7 : LD) (v8 : Bool) (v9 : LD) (v10 : Bool) (v11 : LD) (v12 : LB) (v13 v14 : Int) (v15 : Bool) (v16 : LD) (v17 : Bool) (v18 : LD) (v19 : Bool) (v20 : LD) : Option (Bool) := F6x0 N v1 v2 v3 v4 v5 v6 v7 v8 v9 v10 v11 v12 v13 v14 v15 v16 v17 v18 v19 v20 (fun p => some p)
theorem bind6x0 (v1 : LD) (v2 : Int) (v3 : LB) (v4 v5 : Int) (v6 : Bool) (v7 : LD) (v8 : Bool) (v9 : LD) (v10 : Bool) (v11 : LD) (v12 : LB) (v13 v14 : Int) (v15 : Bool) (v16 : LD) (v17 : Bool) (v18 : LD) (v19 : Bool) (v20 : LD) (k0 : Bool → Option R) : F6x0 N v1 v2 v3 v4 v5 v6 v7 v8 v9 v10 v11 v12 v13 v14 v15 v16 v17 v18 v19 v20 k0 = (G6x0 N v1 v2 v3 v4 v5 v6 v7 v8 v9 v10 v11 v12 v13 v14 v15 v16 v17 v18 v19 v20).bind k0 := by
  unfold G6x0 F6x0
  repeat' (first | with_reducible apply cond_b | (with_reducible apply bnd_b; intro _) | rfl)
noncomputable def J6x0 (L : List Lf) (k0 : Bool → Option R) : Option R := F6x0 N (ll L 1) (li L 2) (ls L 3) (li L 4) (li L 5) (lb L 6) (ll L 7) (lb L 8) (ll L 9) (lb L 10) (ll L 11) (ls L 12) (li L 13) (li L 14) (lb L 15) (ll L 16) (lb L 17) (ll L 18) (lb L 19) (ll L 20) k0
noncomputable def sh6x0 : Sh := { tmps := [(0, .g ([.sl 70])), (1, .c (.i .i64)), (2, .g (.s :: [.i .i64, .i .i64, .sl 48, .sl 111, .sl 9])), (3, .g (.s :: [.i .i64, .i .i64, .sl 48, .sl 111, .sl 9]))], mem := [] }
noncomputable def A6x0 (L : List Lf) : List (Bool × Res) := bnd (J6x0 N L (fun p => some p)) fun q => [(q.isSome, ([.c (.b (q.getD default))], []))]
theorem raw6x0 (L : List Lf) : bd Try.prog (T12x0 N) (h6x0s1 N).h 6 sh6x0 L = J6x0 N L (fun p => some ([.c (.b p)], [])) := by kernel_rfl
theorem ok6x0 : FnOk Try.prog 6 sh6x0 (A6x0 N) :=
  (h6x0s1 N).fn progOk (T12x0_ok N) fun L x hx => ((raw6x0 N L).trans ((bind6x0 N ..).trans (alt1 x hx)))
noncomputable def T6x0 : Oracle := ext 6 (spSh sh6x0 (A6x0 N)) (T12x0 N)
theorem T6x0_ok : OracleOk Try.prog (T6x0 N) := FnOk.to (ok6x0 N) (T12x0_ok N)
end Go.Proofs.Ytngnemeafkmaoaa
